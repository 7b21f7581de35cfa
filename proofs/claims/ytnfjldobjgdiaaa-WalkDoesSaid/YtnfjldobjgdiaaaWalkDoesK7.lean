/-
  Texts joined: XPlnV XPlnW XWlkI XPlnZ XPloB XPloC XPloD XWlkJ. No condition.
-/
import Derived.Test.YtnfjldobjgdiaaaProg
import Derived.ProofKit
import Derived.WalkSpells
import Derived.RegionTactic
import Derived.BigRegion
import Derived.Deep.RegionLaw
import Derived.Test.YtnfjldobjgdiaaaWalkDoesK6
namespace Go.Proofs.Ytnfjldobjgdiaaa
set_option linter.all false
open Go.RowKit
attribute [local simp] qabg qabf qaas qaaz qaat qaay qabd qabe qaao qabn SOp.run SX.ev putd puts argS upds SOp.touch SSt.keep SSt.skip gets geth puth delh idOf SV.cells? setL qac5 qac6 sbin eq0 eq1 eqL qac4 qab1 qab2 qaap qabh qaag qabi qabo qaai qaaq FrzOk qaa9 qaa3 qaa7 qaa8 qaau qaa2 qabl qaa4 qaaw qaba qaav frzS frzH frz frz1 frz0 SlotsM ObjsM ObjM rn ren ren1 ren0 qabu qaca qacf qabt qabm qacg qace CoL qabb qach dels adds idsH qab3
attribute [local simp] qads refc qae3 qaet qacc opc actc tabc qad7 qacu nums
theorem qadh {t e R : Int} (h : t = e) : (if t = 0 then R else t) = if e = 0 then R else e := by rw [h]
set_option maxHeartbeats 8000000 in
theorem rnode_s (p : PlanD) (i : Nat) (hi : i < p.nodes.length) (hnl : p.nodes.length ≤ 1000000) (hw : p.nodes[i].e.length ≤ 1000000) (q : Nat) : SCalls Try.prog 45 [.agg (qacu p), .int .i64 i] [] q (.int .i64 (qaq1 p i p.nodes[i])) [] := by
 refine qabj ?_ (fun _ => rfl) (fun _ => rfl) rfl q
 refine qaax (N := 109) Try.func45 rfl rfl (by kernel_rfl) qamg (by simp) (by repeat' (first | exact trivial | refine And.intro ?_ ?_ | rfl | decide | exact PureR.ren _)) (by repeat' (first | exact trivial | refine And.intro ?_ ?_ | rfl | decide | exact PureR.ren _)) ?_
 rintro X hP hN hm
 unfold c_rnode
 generalize hxx : p.nodes[i] = x at hw
 have hA : qaq1 p i x = qaq0 p i x := qapr p i x
 generalize qaq1 p i x = F at hA
 unfold qaq0 at hA
 by_cases kn1 : x.kind = 1
 ·have k1 : (x.kind == 1) = true := by simpa using kn1
  rw [if_pos kn1] at hA
  clear kn1
  cases kb : (decide (x.n < 0) || decide ((p.tabs.length : Int) ≤ x.n)) <;> rw [kb] at hA
  ·have hI : F = if (0 : Int) = 0 then qadg p i ([x.yes].drop 0) else 0 := hA
   obtain ⟨b1, b2⟩ := Bool.or_eq_false_iff.1 kb
   clear hA kb
   replace hI := Lib.hid hI
   repeat' (first | (with_reducible first | refine zA ?_ | refine qaae ?_) | ((with_reducible refine qaac ?_); (try rw [hP]); simp -implicitDefEqProofs [*]) | ((with_reducible refine qaaf ?_); (try simp -implicitDefEqProofs [*])) | ((with_reducible refine qaaa rfl (fun h => ?_) (fun h => ?_)) <;> have h' := h <;> (try simp at h') <;> (try subst h')) | fail)
   refine qaal (qaa5 (fun s (y : Nat × Int) => s.turn [(6, .int .i64 y.2), (8, .int .i64 y.1)] []) (fun y => y.1 ≤ 1 ∧ F = if y.2 = 0 then qadg p i ([x.yes].drop y.1) else y.2) (fun y => 1 - y.1) (0, 0) ?_ ⟨by simp, hI.out⟩ ?_)
   ·repeat' (first | ((with_reducible refine qaah [] hm ?_ ?_ ?_ ?_) <;> (try simp only [zT, puth, Nat.reduceEqDiff, reduceIte, Nat.reduceAdd])) | (with_reducible first | refine za ?_ ?_ | refine zb ?_ ?_ ?_ ?_ | refine zd ?_ ?_ ?_ ?_) | (with_reducible first | exact qaab | exact qaad) | ((with_reducible first | refine zga ?_ | refine zgb ?_); rfl) | ((with_reducible refine zgd ?_); (first | omega | (simp; done))) | (exact Co.refl _) | (exact CoL.refl _) | (exact CoLL.refl _) | fail)
   rintro J hJ ⟨k, e⟩ ⟨h3, h4⟩
   unfold qac0
   simp only [zT, puth, Nat.reduceEqDiff, reduceIte, Nat.reduceAdd] at h3 h4 ⊢
   by_cases he : e = 0
   ·subst he
    rw [if_pos rfl] at h4
    have hk : k = 0 ∨ k = 1 := by omega
    rcases hk with rfl | rfl
    ·have h5 : F = if toF p i x.yes = 0 then qadg p i [] else toF p i x.yes := h4
     clear h4
     replace h5 := Lib.hid h5
     repeat' (first | (with_reducible first | refine zA ?_ | refine qaae ?_ | refine zK ?_) | ((with_reducible first | refine qaac ?_ | refine qaa1 (by rw [hP]; exact qacx) ?_); (try rw [hP]); simp -implicitDefEqProofs [*]) | ((with_reducible refine qaaf ?_); (try simp -implicitDefEqProofs [*])) | ((with_reducible refine qaaa rfl (fun h => ?_) (fun h => ?_)) <;> have h' := h <;> (try simp at h') <;> (try subst h')) | ((with_reducible refine qaan (fun h => ?_) (fun h => ?_)) <;> have h' := h <;> (try simp at h') <;> (try subst h') <;> simp -implicitDefEqProofs [*]) | (with_reducible first | refine za ?_ ?_ | refine zb ?_ ?_ ?_ ?_ | refine zd ?_ ?_ ?_ ?_) | (with_reducible first | exact qaab | exact qaad) | ((with_reducible first | refine zga ?_ | refine zgb ?_); rfl) | ((with_reducible first | refine zgd ?_ | refine zge ?_); (first | omega | (simp; done))) | (exact Co.refl _) | (exact CoL.refl _) | (exact CoLL.refl _) | ((refine qaaj hJ (1, ?_) ?_ ?_ ?_; rotate_left 1; (with_reducible refine qaah [] hm ?_ ?_ ?_ ?_) <;> (try simp only [zT, puth, Nat.reduceEqDiff, reduceIte, Nat.reduceAdd]))) | fail)
     all_goals (try dsimp only)
     all_goals (refine ⟨by omega, ?_⟩; rw [h5.out]; clear h5; refine qadh ?_; unfold toF; (repeat' split) <;> first | rfl | (exfalso; simp_all; omega) | (exfalso; simp_all; done))
    ·replace h4 := Lib.hid h4
     repeat' (first | (with_reducible refine zA ?_) | ((with_reducible refine qaac ?_); (try rw [hP]); simp -implicitDefEqProofs [*]) | ((with_reducible refine qaak ?_); (try simp -implicitDefEqProofs [*])) | ((with_reducible refine qaam ?_); (try simp only [qaap, qaag, qaai])) | ((with_reducible refine qaaa rfl (fun h => ?_) (fun h => ?_)) <;> have h' := h <;> (try simp at h') <;> (try subst h')) | (with_reducible refine zM hm ?_) | fail)
     rw [h4.out]; rfl
   ·rw [if_neg he] at h4
    have ke : (e == 0) = false := by simpa using he
    replace h4 := Lib.hid h4
    repeat' (first | (with_reducible refine zA ?_) | ((with_reducible refine qaac ?_); (try rw [hP]); simp -implicitDefEqProofs [*]) | ((with_reducible refine qaak ?_); (try simp -implicitDefEqProofs [*])) | ((with_reducible refine qaam ?_); (try simp only [qaap, qaag, qaai])) | ((with_reducible refine qaaa rfl (fun h => ?_) (fun h => ?_)) <;> have h' := h <;> (try simp at h') <;> (try subst h')) | ((with_reducible refine qaan (fun h => ?_) (fun h => ?_)) <;> have h' := h <;> (try simp at h') <;> (try subst h') <;> simp -implicitDefEqProofs [*]) | (with_reducible refine zM hm ?_) | fail)
    all_goals (rw [h4.out])
  ·have hI : F = if (1 : Int) = 0 then qadg p i ([x.yes].drop 0) else 1 := hA
   replace kb := Lib.hid kb
   clear hA
   replace hI := Lib.hid hI
   repeat' (first | (with_reducible first | refine zA ?_ | refine qaae ?_) | ((with_reducible refine qaac ?_); (try rw [hP]); simp -implicitDefEqProofs [*]) | ((with_reducible refine qaaf ?_); (try simp -implicitDefEqProofs [*])) | ((with_reducible refine qaaa rfl (fun h => ?_) (fun h => ?_)) <;> have h' := h <;> (try simp at h') <;> (try subst h')) | ((with_reducible refine qaan (fun h => ?_) (fun h => ?_)) <;> have h' := h <;> (try simp at h') <;> (try subst h') <;> simp -implicitDefEqProofs [*]) | fail)
   all_goals (try (exfalso; have q := kb.out; simp only [Bool.or_eq_true, decide_eq_true_eq] at q; omega))
   all_goals
    refine qaal (qaa5 (fun s (y : Nat × Int) => s.turn [(6, .int .i64 y.2), (8, .int .i64 y.1)] []) (fun y => y.1 ≤ 1 ∧ F = if y.2 = 0 then qadg p i ([x.yes].drop y.1) else y.2) (fun y => 1 - y.1) (0, 1) ?_ ⟨by simp, hI.out⟩ ?_)
    ·repeat' (first | ((with_reducible refine qaah [] hm ?_ ?_ ?_ ?_) <;> (try simp only [zT, puth, Nat.reduceEqDiff, reduceIte, Nat.reduceAdd])) | (with_reducible first | refine za ?_ ?_ | refine zb ?_ ?_ ?_ ?_ | refine zd ?_ ?_ ?_ ?_) | (with_reducible first | exact qaab | exact qaad) | ((with_reducible first | refine zga ?_ | refine zgb ?_); rfl) | ((with_reducible refine zgd ?_); (first | omega | (simp; done))) | (exact Co.refl _) | (exact CoL.refl _) | (exact CoLL.refl _) | fail)
    rintro J hJ ⟨k, e⟩ ⟨h3, h4⟩
    unfold qac0
    simp only [zT, puth, Nat.reduceEqDiff, reduceIte, Nat.reduceAdd] at h3 h4 ⊢
    by_cases he : e = 0
    ·subst he
     rw [if_pos rfl] at h4
     have hk : k = 0 ∨ k = 1 := by omega
     rcases hk with rfl | rfl
     ·have h5 : F = if toF p i x.yes = 0 then qadg p i [] else toF p i x.yes := h4
      clear h4
      replace h5 := Lib.hid h5
      repeat' (first | (with_reducible first | refine zA ?_ | refine qaae ?_ | refine zK ?_) | ((with_reducible first | refine qaac ?_ | refine qaa1 (by rw [hP]; exact qacx) ?_); (try rw [hP]); simp -implicitDefEqProofs [*]) | ((with_reducible refine qaaf ?_); (try simp -implicitDefEqProofs [*])) | ((with_reducible refine qaaa rfl (fun h => ?_) (fun h => ?_)) <;> have h' := h <;> (try simp at h') <;> (try subst h')) | ((with_reducible refine qaan (fun h => ?_) (fun h => ?_)) <;> have h' := h <;> (try simp at h') <;> (try subst h') <;> simp -implicitDefEqProofs [*]) | (with_reducible first | refine za ?_ ?_ | refine zb ?_ ?_ ?_ ?_ | refine zd ?_ ?_ ?_ ?_) | (with_reducible first | exact qaab | exact qaad) | ((with_reducible first | refine zga ?_ | refine zgb ?_); rfl) | ((with_reducible first | refine zgd ?_ | refine zge ?_); (first | omega | (simp; done))) | (exact Co.refl _) | (exact CoL.refl _) | (exact CoLL.refl _) | ((refine qaaj hJ (1, ?_) ?_ ?_ ?_; rotate_left 1; (with_reducible refine qaah [] hm ?_ ?_ ?_ ?_) <;> (try simp only [zT, puth, Nat.reduceEqDiff, reduceIte, Nat.reduceAdd]))) | fail)
      all_goals (try dsimp only)
      all_goals (refine ⟨by omega, ?_⟩; rw [h5.out]; clear h5; refine qadh ?_; unfold toF; (repeat' split) <;> first | rfl | (exfalso; simp_all; omega) | (exfalso; simp_all; done))
     ·replace h4 := Lib.hid h4
      repeat' (first | (with_reducible refine zA ?_) | ((with_reducible refine qaac ?_); (try rw [hP]); simp -implicitDefEqProofs [*]) | ((with_reducible refine qaak ?_); (try simp -implicitDefEqProofs [*])) | ((with_reducible refine qaam ?_); (try simp only [qaap, qaag, qaai])) | ((with_reducible refine qaaa rfl (fun h => ?_) (fun h => ?_)) <;> have h' := h <;> (try simp at h') <;> (try subst h')) | (with_reducible refine zM hm ?_) | fail)
      rw [h4.out]; rfl
    ·rw [if_neg he] at h4
     have ke : (e == 0) = false := by simpa using he
     replace h4 := Lib.hid h4
     repeat' (first | (with_reducible refine zA ?_) | ((with_reducible refine qaac ?_); (try rw [hP]); simp -implicitDefEqProofs [*]) | ((with_reducible refine qaak ?_); (try simp -implicitDefEqProofs [*])) | ((with_reducible refine qaam ?_); (try simp only [qaap, qaag, qaai])) | ((with_reducible refine qaaa rfl (fun h => ?_) (fun h => ?_)) <;> have h' := h <;> (try simp at h') <;> (try subst h')) | ((with_reducible refine qaan (fun h => ?_) (fun h => ?_)) <;> have h' := h <;> (try simp at h') <;> (try subst h') <;> simp -implicitDefEqProofs [*]) | (with_reducible refine zM hm ?_) | fail)
     all_goals (rw [h4.out])
 have k1 : (x.kind == 1) = false := by simpa using kn1
 rw [if_neg kn1] at hA
 clear kn1
 by_cases kn2 : x.kind = 2
 ·have k2 : (x.kind == 2) = true := by simpa using kn2
  rw [if_pos kn2] at hA
  clear kn2
  cases kb : (decide (x.n < 0) || decide ((p.acts.length : Int) ≤ x.n)) <;> rw [kb] at hA
  ·obtain ⟨b1, b2⟩ := Bool.or_eq_false_iff.1 kb
   have b3 := of_decide_eq_false b1
   have b4 := of_decide_eq_false b2
   have hlt : x.n.toNat < p.acts.length := by omega
   have : actW p.acts x.n = p.acts[x.n.toNat].w := by unfold actW; rw [List.getElem?_eq_getElem hlt]; rfl
   rw [this] at hA
   generalize hB : p.acts[x.n.toNat] = B at hA
   rw [show decide (0 < (B.w.length : Int)) = decide (0 < B.w.length) from decide_eq_decide.2 (by omega)] at hA
   clear kb this
   cases kw : decide (0 < B.w.length) <;> rw [kw] at hA
   ·have hI : F = if (0 : Int) = 0 then qadg p i ([x.yes].drop 0) else 0 := hA
    clear hA
    replace hI := Lib.hid hI
    repeat' (first | (with_reducible first | refine zA ?_ | refine qaae ?_) | ((with_reducible refine qaac ?_); (try rw [hP]); simp -implicitDefEqProofs [*]) | ((with_reducible refine qaaf ?_); (try simp -implicitDefEqProofs [*])) | ((with_reducible refine qaaa rfl (fun h => ?_) (fun h => ?_)) <;> have h' := h <;> (try simp at h') <;> (try subst h')) | ((with_reducible refine qabv ?_ ?_); (first | omega | (unfold maxLen; omega)); simp -implicitDefEqProofs [*]) | fail)
    refine qaal (qaa5 (fun s (y : Nat × Int) => s.turn [(6, .int .i64 y.2), (8, .int .i64 y.1)] []) (fun y => y.1 ≤ 1 ∧ F = if y.2 = 0 then qadg p i ([x.yes].drop y.1) else y.2) (fun y => 1 - y.1) (0, 0) ?_ ⟨by simp, hI.out⟩ ?_)
    ·repeat' (first | ((with_reducible refine qaah [] hm ?_ ?_ ?_ ?_) <;> (try simp only [zT, puth, Nat.reduceEqDiff, reduceIte, Nat.reduceAdd])) | (with_reducible first | refine za ?_ ?_ | refine zb ?_ ?_ ?_ ?_ | refine zd ?_ ?_ ?_ ?_) | (with_reducible first | exact qaab | exact qaad) | ((with_reducible first | refine zga ?_ | refine zgb ?_); rfl) | ((with_reducible refine zgd ?_); (first | omega | (simp; done))) | (exact Co.refl _) | (exact CoL.refl _) | (exact CoLL.refl _) | fail)
    rintro J hJ ⟨k, e⟩ ⟨h3, h4⟩
    unfold qac0
    simp only [zT, puth, Nat.reduceEqDiff, reduceIte, Nat.reduceAdd] at h3 h4 ⊢
    by_cases he : e = 0
    ·subst he
     rw [if_pos rfl] at h4
     have hk : k = 0 ∨ k = 1 := by omega
     rcases hk with rfl | rfl
     ·have h5 : F = if toF p i x.yes = 0 then qadg p i [] else toF p i x.yes := h4
      clear h4
      replace h5 := Lib.hid h5
      repeat' (first | (with_reducible first | refine zA ?_ | refine qaae ?_ | refine zK ?_) | ((with_reducible first | refine qaac ?_ | refine qaa1 (by rw [hP]; exact qacx) ?_); (try rw [hP]); simp -implicitDefEqProofs [*]) | ((with_reducible refine qaaf ?_); (try simp -implicitDefEqProofs [*])) | ((with_reducible refine qaaa rfl (fun h => ?_) (fun h => ?_)) <;> have h' := h <;> (try simp at h') <;> (try subst h')) | ((with_reducible refine qaan (fun h => ?_) (fun h => ?_)) <;> have h' := h <;> (try simp at h') <;> (try subst h') <;> simp -implicitDefEqProofs [*]) | (with_reducible first | refine za ?_ ?_ | refine zb ?_ ?_ ?_ ?_ | refine zd ?_ ?_ ?_ ?_) | (with_reducible first | exact qaab | exact qaad) | ((with_reducible first | refine zga ?_ | refine zgb ?_); rfl) | ((with_reducible first | refine zgd ?_ | refine zge ?_); (first | omega | (simp; done))) | (exact Co.refl _) | (exact CoL.refl _) | (exact CoLL.refl _) | ((refine qaaj hJ (1, ?_) ?_ ?_ ?_; rotate_left 1; (with_reducible refine qaah [] hm ?_ ?_ ?_ ?_) <;> (try simp only [zT, puth, Nat.reduceEqDiff, reduceIte, Nat.reduceAdd]))) | fail)
      all_goals (try dsimp only)
      all_goals (refine ⟨by omega, ?_⟩; rw [h5.out]; clear h5; refine qadh ?_; unfold toF; (repeat' split) <;> first | rfl | (exfalso; simp_all; omega) | (exfalso; simp_all; done))
     ·replace h4 := Lib.hid h4
      repeat' (first | (with_reducible refine zA ?_) | ((with_reducible refine qaac ?_); (try rw [hP]); simp -implicitDefEqProofs [*]) | ((with_reducible refine qaak ?_); (try simp -implicitDefEqProofs [*])) | ((with_reducible refine qaam ?_); (try simp only [qaap, qaag, qaai])) | ((with_reducible refine qaaa rfl (fun h => ?_) (fun h => ?_)) <;> have h' := h <;> (try simp at h') <;> (try subst h')) | (with_reducible refine zM hm ?_) | fail)
      rw [h4.out]; rfl
    ·rw [if_neg he] at h4
     have ke : (e == 0) = false := by simpa using he
     replace h4 := Lib.hid h4
     repeat' (first | (with_reducible refine zA ?_) | ((with_reducible refine qaac ?_); (try rw [hP]); simp -implicitDefEqProofs [*]) | ((with_reducible refine qaak ?_); (try simp -implicitDefEqProofs [*])) | ((with_reducible refine qaam ?_); (try simp only [qaap, qaag, qaai])) | ((with_reducible refine qaaa rfl (fun h => ?_) (fun h => ?_)) <;> have h' := h <;> (try simp at h') <;> (try subst h')) | ((with_reducible refine qaan (fun h => ?_) (fun h => ?_)) <;> have h' := h <;> (try simp at h') <;> (try subst h') <;> simp -implicitDefEqProofs [*]) | (with_reducible refine zM hm ?_) | fail)
     all_goals (rw [h4.out])
   ·have hI : F = if (2 : Int) = 0 then qadg p i ([x.yes].drop 0) else 2 := hA
    clear hA
    replace hI := Lib.hid hI
    repeat' (first | (with_reducible first | refine zA ?_ | refine qaae ?_) | ((with_reducible refine qaac ?_); (try rw [hP]); simp -implicitDefEqProofs [*]) | ((with_reducible refine qaaa rfl (fun h => ?_) (fun h => ?_)) <;> have h' := h <;> (try simp at h') <;> (try subst h')) | ((with_reducible refine qabv ?_ ?_); (first | omega | (unfold maxLen; omega)); simp -implicitDefEqProofs [*]) | fail)
    refine qaal (qaa5 (fun s (y : Nat × Int) => s.turn [(6, .int .i64 y.2), (8, .int .i64 y.1)] []) (fun y => y.1 ≤ 1 ∧ F = if y.2 = 0 then qadg p i ([x.yes].drop y.1) else y.2) (fun y => 1 - y.1) (0, 2) ?_ ⟨by simp, hI.out⟩ ?_)
    ·repeat' (first | ((with_reducible refine qaah [] hm ?_ ?_ ?_ ?_) <;> (try simp only [zT, puth, Nat.reduceEqDiff, reduceIte, Nat.reduceAdd])) | (with_reducible first | refine za ?_ ?_ | refine zb ?_ ?_ ?_ ?_ | refine zd ?_ ?_ ?_ ?_) | (with_reducible first | exact qaab | exact qaad) | ((with_reducible first | refine zga ?_ | refine zgb ?_); rfl) | ((with_reducible refine zgd ?_); (first | omega | (simp; done))) | (exact Co.refl _) | (exact CoL.refl _) | (exact CoLL.refl _) | fail)
    rintro J hJ ⟨k, e⟩ ⟨h3, h4⟩
    unfold qac0
    simp only [zT, puth, Nat.reduceEqDiff, reduceIte, Nat.reduceAdd] at h3 h4 ⊢
    by_cases he : e = 0
    ·subst he
     rw [if_pos rfl] at h4
     have hk : k = 0 ∨ k = 1 := by omega
     rcases hk with rfl | rfl
     ·have h5 : F = if toF p i x.yes = 0 then qadg p i [] else toF p i x.yes := h4
      clear h4
      replace h5 := Lib.hid h5
      repeat' (first | (with_reducible first | refine zA ?_ | refine qaae ?_ | refine zK ?_) | ((with_reducible first | refine qaac ?_ | refine qaa1 (by rw [hP]; exact qacx) ?_); (try rw [hP]); simp -implicitDefEqProofs [*]) | ((with_reducible refine qaaf ?_); (try simp -implicitDefEqProofs [*])) | ((with_reducible refine qaaa rfl (fun h => ?_) (fun h => ?_)) <;> have h' := h <;> (try simp at h') <;> (try subst h')) | ((with_reducible refine qaan (fun h => ?_) (fun h => ?_)) <;> have h' := h <;> (try simp at h') <;> (try subst h') <;> simp -implicitDefEqProofs [*]) | (with_reducible first | refine za ?_ ?_ | refine zb ?_ ?_ ?_ ?_ | refine zd ?_ ?_ ?_ ?_) | (with_reducible first | exact qaab | exact qaad) | ((with_reducible first | refine zga ?_ | refine zgb ?_); rfl) | ((with_reducible first | refine zgd ?_ | refine zge ?_); (first | omega | (simp; done))) | (exact Co.refl _) | (exact CoL.refl _) | (exact CoLL.refl _) | ((refine qaaj hJ (1, ?_) ?_ ?_ ?_; rotate_left 1; (with_reducible refine qaah [] hm ?_ ?_ ?_ ?_) <;> (try simp only [zT, puth, Nat.reduceEqDiff, reduceIte, Nat.reduceAdd]))) | fail)
      all_goals (try dsimp only)
      all_goals (refine ⟨by omega, ?_⟩; rw [h5.out]; clear h5; refine qadh ?_; unfold toF; (repeat' split) <;> first | rfl | (exfalso; simp_all; omega) | (exfalso; simp_all; done))
     ·replace h4 := Lib.hid h4
      repeat' (first | (with_reducible refine zA ?_) | ((with_reducible refine qaac ?_); (try rw [hP]); simp -implicitDefEqProofs [*]) | ((with_reducible refine qaak ?_); (try simp -implicitDefEqProofs [*])) | ((with_reducible refine qaam ?_); (try simp only [qaap, qaag, qaai])) | ((with_reducible refine qaaa rfl (fun h => ?_) (fun h => ?_)) <;> have h' := h <;> (try simp at h') <;> (try subst h')) | (with_reducible refine zM hm ?_) | fail)
      rw [h4.out]; rfl
    ·rw [if_neg he] at h4
     have ke : (e == 0) = false := by simpa using he
     replace h4 := Lib.hid h4
     repeat' (first | (with_reducible refine zA ?_) | ((with_reducible refine qaac ?_); (try rw [hP]); simp -implicitDefEqProofs [*]) | ((with_reducible refine qaak ?_); (try simp -implicitDefEqProofs [*])) | ((with_reducible refine qaam ?_); (try simp only [qaap, qaag, qaai])) | ((with_reducible refine qaaa rfl (fun h => ?_) (fun h => ?_)) <;> have h' := h <;> (try simp at h') <;> (try subst h')) | ((with_reducible refine qaan (fun h => ?_) (fun h => ?_)) <;> have h' := h <;> (try simp at h') <;> (try subst h') <;> simp -implicitDefEqProofs [*]) | (with_reducible refine zM hm ?_) | fail)
     all_goals (rw [h4.out])
  ·have hI : F = if (1 : Int) = 0 then qadg p i ([x.yes].drop 0) else 1 := hA
   replace kb := Lib.hid kb
   clear hA
   replace hI := Lib.hid hI
   repeat' (first | (with_reducible first | refine zA ?_ | refine qaae ?_) | ((with_reducible refine qaac ?_); (try rw [hP]); simp -implicitDefEqProofs [*]) | ((with_reducible refine qaaf ?_); (try simp -implicitDefEqProofs [*])) | ((with_reducible refine qaaa rfl (fun h => ?_) (fun h => ?_)) <;> have h' := h <;> (try simp at h') <;> (try subst h')) | ((with_reducible refine qaan (fun h => ?_) (fun h => ?_)) <;> have h' := h <;> (try simp at h') <;> (try subst h') <;> simp -implicitDefEqProofs [*]) | fail)
   all_goals (try (exfalso; have q := kb.out; simp only [Bool.or_eq_true, decide_eq_true_eq] at q; omega))
   all_goals
    refine qaal (qaa5 (fun s (y : Nat × Int) => s.turn [(6, .int .i64 y.2), (8, .int .i64 y.1)] []) (fun y => y.1 ≤ 1 ∧ F = if y.2 = 0 then qadg p i ([x.yes].drop y.1) else y.2) (fun y => 1 - y.1) (0, 1) ?_ ⟨by simp, hI.out⟩ ?_)
    ·repeat' (first | ((with_reducible refine qaah [] hm ?_ ?_ ?_ ?_) <;> (try simp only [zT, puth, Nat.reduceEqDiff, reduceIte, Nat.reduceAdd])) | (with_reducible first | refine za ?_ ?_ | refine zb ?_ ?_ ?_ ?_ | refine zd ?_ ?_ ?_ ?_) | (with_reducible first | exact qaab | exact qaad) | ((with_reducible first | refine zga ?_ | refine zgb ?_); rfl) | ((with_reducible refine zgd ?_); (first | omega | (simp; done))) | (exact Co.refl _) | (exact CoL.refl _) | (exact CoLL.refl _) | fail)
    rintro J hJ ⟨k, e⟩ ⟨h3, h4⟩
    unfold qac0
    simp only [zT, puth, Nat.reduceEqDiff, reduceIte, Nat.reduceAdd] at h3 h4 ⊢
    by_cases he : e = 0
    ·subst he
     rw [if_pos rfl] at h4
     have hk : k = 0 ∨ k = 1 := by omega
     rcases hk with rfl | rfl
     ·have h5 : F = if toF p i x.yes = 0 then qadg p i [] else toF p i x.yes := h4
      clear h4
      replace h5 := Lib.hid h5
      repeat' (first | (with_reducible first | refine zA ?_ | refine qaae ?_ | refine zK ?_) | ((with_reducible first | refine qaac ?_ | refine qaa1 (by rw [hP]; exact qacx) ?_); (try rw [hP]); simp -implicitDefEqProofs [*]) | ((with_reducible refine qaaf ?_); (try simp -implicitDefEqProofs [*])) | ((with_reducible refine qaaa rfl (fun h => ?_) (fun h => ?_)) <;> have h' := h <;> (try simp at h') <;> (try subst h')) | ((with_reducible refine qaan (fun h => ?_) (fun h => ?_)) <;> have h' := h <;> (try simp at h') <;> (try subst h') <;> simp -implicitDefEqProofs [*]) | (with_reducible first | refine za ?_ ?_ | refine zb ?_ ?_ ?_ ?_ | refine zd ?_ ?_ ?_ ?_) | (with_reducible first | exact qaab | exact qaad) | ((with_reducible first | refine zga ?_ | refine zgb ?_); rfl) | ((with_reducible first | refine zgd ?_ | refine zge ?_); (first | omega | (simp; done))) | (exact Co.refl _) | (exact CoL.refl _) | (exact CoLL.refl _) | ((refine qaaj hJ (1, ?_) ?_ ?_ ?_; rotate_left 1; (with_reducible refine qaah [] hm ?_ ?_ ?_ ?_) <;> (try simp only [zT, puth, Nat.reduceEqDiff, reduceIte, Nat.reduceAdd]))) | fail)
      all_goals (try dsimp only)
      all_goals (refine ⟨by omega, ?_⟩; rw [h5.out]; clear h5; refine qadh ?_; unfold toF; (repeat' split) <;> first | rfl | (exfalso; simp_all; omega) | (exfalso; simp_all; done))
     ·replace h4 := Lib.hid h4
      repeat' (first | (with_reducible refine zA ?_) | ((with_reducible refine qaac ?_); (try rw [hP]); simp -implicitDefEqProofs [*]) | ((with_reducible refine qaak ?_); (try simp -implicitDefEqProofs [*])) | ((with_reducible refine qaam ?_); (try simp only [qaap, qaag, qaai])) | ((with_reducible refine qaaa rfl (fun h => ?_) (fun h => ?_)) <;> have h' := h <;> (try simp at h') <;> (try subst h')) | (with_reducible refine zM hm ?_) | fail)
      rw [h4.out]; rfl
    ·rw [if_neg he] at h4
     have ke : (e == 0) = false := by simpa using he
     replace h4 := Lib.hid h4
     repeat' (first | (with_reducible refine zA ?_) | ((with_reducible refine qaac ?_); (try rw [hP]); simp -implicitDefEqProofs [*]) | ((with_reducible refine qaak ?_); (try simp -implicitDefEqProofs [*])) | ((with_reducible refine qaam ?_); (try simp only [qaap, qaag, qaai])) | ((with_reducible refine qaaa rfl (fun h => ?_) (fun h => ?_)) <;> have h' := h <;> (try simp at h') <;> (try subst h')) | ((with_reducible refine qaan (fun h => ?_) (fun h => ?_)) <;> have h' := h <;> (try simp at h') <;> (try subst h') <;> simp -implicitDefEqProofs [*]) | (with_reducible refine zM hm ?_) | fail)
     all_goals (rw [h4.out])
 have k2 : (x.kind == 2) = false := by simpa using kn2
 rw [if_neg kn2] at hA
 clear kn2
 by_cases kn3 : x.kind = 3
 ·have k3 : (x.kind == 3) = true := by simpa using kn3
  rw [if_pos kn3] at hA
  have hce : ∀ q, SCalls Try.prog 73 [.agg (qacu p), qabz x.e, .nilsl] [] q (.int .i64 (qae4 p x.e [])) [] := fun q => qaf7 (qbbc p x.e [] hw q) ⟨Co.refl _, Co.refl _, Co.nilsl _, trivial⟩
  generalize qae4 p x.e [] = E at hA hce
  have hI : F = if E = 0 then qadg p i ([x.yes, x.no].drop 0) else E := hA
  clear kn3 hA
  replace hI := Lib.hid hI
  replace hce := Lib.hid hce
  repeat' (first | (with_reducible first | refine zA ?_ | refine qaae ?_) | ((with_reducible refine qaac ?_); (try rw [hP]); simp -implicitDefEqProofs [*]) | ((with_reducible refine qaaa rfl (fun h => ?_) (fun h => ?_)) <;> have h' := h <;> (try simp at h') <;> (try subst h')) | (refine qaa0 (hce.out _) ?_; simp -implicitDefEqProofs [*]) | fail)
  refine qaal (qaa5 (fun s (y : Nat × Int) => s.turn [(6, .int .i64 y.2), (8, .int .i64 y.1)] []) (fun y => y.1 ≤ 2 ∧ F = if y.2 = 0 then qadg p i ([x.yes, x.no].drop y.1) else y.2) (fun y => 2 - y.1) (0, E) ?_ ⟨by simp, hI.out⟩ ?_)
  ·repeat' (first | ((with_reducible refine qaah [] hm ?_ ?_ ?_ ?_) <;> (try simp only [zT, puth, Nat.reduceEqDiff, reduceIte, Nat.reduceAdd])) | (with_reducible first | refine za ?_ ?_ | refine zb ?_ ?_ ?_ ?_ | refine zd ?_ ?_ ?_ ?_) | (with_reducible first | exact qaab | exact qaad) | ((with_reducible first | refine zga ?_ | refine zgb ?_); rfl) | ((with_reducible refine zgd ?_); (first | omega | (simp; done))) | (exact Co.refl _) | (exact CoL.refl _) | (exact CoLL.refl _) | fail)
  rintro J hJ ⟨k, e⟩ ⟨h3, h4⟩
  unfold qac0
  simp only [zT, puth, Nat.reduceEqDiff, reduceIte, Nat.reduceAdd] at h3 h4 ⊢
  by_cases he : e = 0
  ·subst he
   rw [if_pos rfl] at h4
   have hk : k = 0 ∨ k = 1 ∨ k = 2 := by omega
   rcases hk with rfl | rfl | rfl
   ·have h5 : F = if toF p i x.yes = 0 then qadg p i [x.no] else toF p i x.yes := h4
    clear h4
    replace h5 := Lib.hid h5
    repeat' (first | (with_reducible first | refine zA ?_ | refine qaae ?_ | refine zK ?_) | ((with_reducible first | refine qaac ?_ | refine qaa1 (by rw [hP]; exact qacx) ?_); (try rw [hP]); simp -implicitDefEqProofs [*]) | ((with_reducible refine qaaf ?_); (try simp -implicitDefEqProofs [*])) | ((with_reducible refine qaaa rfl (fun h => ?_) (fun h => ?_)) <;> have h' := h <;> (try simp at h') <;> (try subst h')) | ((with_reducible refine qaan (fun h => ?_) (fun h => ?_)) <;> have h' := h <;> (try simp at h') <;> (try subst h') <;> simp -implicitDefEqProofs [*]) | (with_reducible first | refine za ?_ ?_ | refine zb ?_ ?_ ?_ ?_ | refine zd ?_ ?_ ?_ ?_) | (with_reducible first | exact qaab | exact qaad) | ((with_reducible first | refine zga ?_ | refine zgb ?_); rfl) | ((with_reducible first | refine zgd ?_ | refine zge ?_); (first | omega | (simp; done))) | (exact Co.refl _) | (exact CoL.refl _) | (exact CoLL.refl _) | ((refine qaaj hJ (1, ?_) ?_ ?_ ?_; rotate_left 1; (with_reducible refine qaah [] hm ?_ ?_ ?_ ?_) <;> (try simp only [zT, puth, Nat.reduceEqDiff, reduceIte, Nat.reduceAdd]))) | fail)
    all_goals (try dsimp only)
    all_goals (refine ⟨by omega, ?_⟩; rw [h5.out]; clear h5; refine qadh ?_; unfold toF; (repeat' split) <;> first | rfl | (exfalso; simp_all; omega) | (exfalso; simp_all; done))
   ·have h5 : F = if toF p i x.no = 0 then qadg p i [] else toF p i x.no := h4
    clear h4
    replace h5 := Lib.hid h5
    repeat' (first | (with_reducible first | refine zA ?_ | refine qaae ?_ | refine zK ?_) | ((with_reducible first | refine qaac ?_ | refine qaa1 (by rw [hP]; exact qacx) ?_); (try rw [hP]); simp -implicitDefEqProofs [*]) | ((with_reducible refine qaaf ?_); (try simp -implicitDefEqProofs [*])) | ((with_reducible refine qaaa rfl (fun h => ?_) (fun h => ?_)) <;> have h' := h <;> (try simp at h') <;> (try subst h')) | ((with_reducible refine qaan (fun h => ?_) (fun h => ?_)) <;> have h' := h <;> (try simp at h') <;> (try subst h') <;> simp -implicitDefEqProofs [*]) | (with_reducible first | refine za ?_ ?_ | refine zb ?_ ?_ ?_ ?_ | refine zd ?_ ?_ ?_ ?_) | (with_reducible first | exact qaab | exact qaad) | ((with_reducible first | refine zga ?_ | refine zgb ?_); rfl) | ((with_reducible first | refine zgd ?_ | refine zge ?_); (first | omega | (simp; done))) | (exact Co.refl _) | (exact CoL.refl _) | (exact CoLL.refl _) | ((refine qaaj hJ (2, ?_) ?_ ?_ ?_; rotate_left 1; (with_reducible refine qaah [] hm ?_ ?_ ?_ ?_) <;> (try simp only [zT, puth, Nat.reduceEqDiff, reduceIte, Nat.reduceAdd]))) | fail)
    all_goals (try dsimp only)
    all_goals (refine ⟨by omega, ?_⟩; rw [h5.out]; clear h5; refine qadh ?_; unfold toF; (repeat' split) <;> first | rfl | (exfalso; simp_all; omega) | (exfalso; simp_all; done))
   ·replace h4 := Lib.hid h4
    repeat' (first | (with_reducible refine zA ?_) | ((with_reducible refine qaac ?_); (try rw [hP]); simp -implicitDefEqProofs [*]) | ((with_reducible refine qaak ?_); (try simp -implicitDefEqProofs [*])) | ((with_reducible refine qaam ?_); (try simp only [qaap, qaag, qaai])) | ((with_reducible refine qaaa rfl (fun h => ?_) (fun h => ?_)) <;> have h' := h <;> (try simp at h') <;> (try subst h')) | (with_reducible refine zM hm ?_) | fail)
    rw [h4.out]; rfl
  ·rw [if_neg he] at h4
   have ke : (e == 0) = false := by simpa using he
   replace h4 := Lib.hid h4
   repeat' (first | (with_reducible refine zA ?_) | ((with_reducible refine qaac ?_); (try rw [hP]); simp -implicitDefEqProofs [*]) | ((with_reducible refine qaak ?_); (try simp -implicitDefEqProofs [*])) | ((with_reducible refine qaam ?_); (try simp only [qaap, qaag, qaai])) | ((with_reducible refine qaaa rfl (fun h => ?_) (fun h => ?_)) <;> have h' := h <;> (try simp at h') <;> (try subst h')) | ((with_reducible refine qaan (fun h => ?_) (fun h => ?_)) <;> have h' := h <;> (try simp at h') <;> (try subst h') <;> simp -implicitDefEqProofs [*]) | (with_reducible refine zM hm ?_) | fail)
   all_goals (rw [h4.out])
 have k3 : (x.kind == 3) = false := by simpa using kn3
 rw [if_neg kn3] at hA
 clear kn3
 by_cases kn4 : x.kind = 4
 ·have k4 : (x.kind == 4) = true := by simpa using kn4
  rw [if_pos kn4] at hA
  have hch := fun q => qapo p x.n q
  generalize qacz p x.n = H at hA hch
  clear kn4
  cases kH : H <;> rw [kH] at hA hch
  ·have hI : F = if (1 : Int) = 0 then qadg p i ([x.yes, x.no].drop 0) else 1 := hA
   clear hA
   replace hI := Lib.hid hI
   repeat' (first | (with_reducible first | refine zA ?_ | refine qaae ?_) | ((with_reducible refine qaac ?_); (try rw [hP]); simp -implicitDefEqProofs [*]) | ((with_reducible refine qaaa rfl (fun h => ?_) (fun h => ?_)) <;> have h' := h <;> (try simp at h') <;> (try subst h')) | (refine qaa0 (hch _) ?_; simp -implicitDefEqProofs [*]) | fail)
   refine qaal (qaa5 (fun s (y : Nat × Int) => s.turn [(6, .int .i64 y.2), (8, .int .i64 y.1)] []) (fun y => y.1 ≤ 2 ∧ F = if y.2 = 0 then qadg p i ([x.yes, x.no].drop y.1) else y.2) (fun y => 2 - y.1) (0, 1) ?_ ⟨by simp, hI.out⟩ ?_)
   ·repeat' (first | ((with_reducible refine qaah [] hm ?_ ?_ ?_ ?_) <;> (try simp only [zT, puth, Nat.reduceEqDiff, reduceIte, Nat.reduceAdd])) | (with_reducible first | refine za ?_ ?_ | refine zb ?_ ?_ ?_ ?_ | refine zd ?_ ?_ ?_ ?_) | (with_reducible first | exact qaab | exact qaad) | ((with_reducible first | refine zga ?_ | refine zgb ?_); rfl) | ((with_reducible refine zgd ?_); (first | omega | (simp; done))) | (exact Co.refl _) | (exact CoL.refl _) | (exact CoLL.refl _) | fail)
   rintro J hJ ⟨k, e⟩ ⟨h3, h4⟩
   unfold qac0
   simp only [zT, puth, Nat.reduceEqDiff, reduceIte, Nat.reduceAdd] at h3 h4 ⊢
   by_cases he : e = 0
   ·subst he
    rw [if_pos rfl] at h4
    have hk : k = 0 ∨ k = 1 ∨ k = 2 := by omega
    rcases hk with rfl | rfl | rfl
    ·have h5 : F = if toF p i x.yes = 0 then qadg p i [x.no] else toF p i x.yes := h4
     clear h4
     replace h5 := Lib.hid h5
     repeat' (first | (with_reducible first | refine zA ?_ | refine qaae ?_ | refine zK ?_) | ((with_reducible first | refine qaac ?_ | refine qaa1 (by rw [hP]; exact qacx) ?_); (try rw [hP]); simp -implicitDefEqProofs [*]) | ((with_reducible refine qaaf ?_); (try simp -implicitDefEqProofs [*])) | ((with_reducible refine qaaa rfl (fun h => ?_) (fun h => ?_)) <;> have h' := h <;> (try simp at h') <;> (try subst h')) | ((with_reducible refine qaan (fun h => ?_) (fun h => ?_)) <;> have h' := h <;> (try simp at h') <;> (try subst h') <;> simp -implicitDefEqProofs [*]) | (with_reducible first | refine za ?_ ?_ | refine zb ?_ ?_ ?_ ?_ | refine zd ?_ ?_ ?_ ?_) | (with_reducible first | exact qaab | exact qaad) | ((with_reducible first | refine zga ?_ | refine zgb ?_); rfl) | ((with_reducible first | refine zgd ?_ | refine zge ?_); (first | omega | (simp; done))) | (exact Co.refl _) | (exact CoL.refl _) | (exact CoLL.refl _) | ((refine qaaj hJ (1, ?_) ?_ ?_ ?_; rotate_left 1; (with_reducible refine qaah [] hm ?_ ?_ ?_ ?_) <;> (try simp only [zT, puth, Nat.reduceEqDiff, reduceIte, Nat.reduceAdd]))) | fail)
     all_goals (try dsimp only)
     all_goals (refine ⟨by omega, ?_⟩; rw [h5.out]; clear h5; refine qadh ?_; unfold toF; (repeat' split) <;> first | rfl | (exfalso; simp_all; omega) | (exfalso; simp_all; done))
    ·have h5 : F = if toF p i x.no = 0 then qadg p i [] else toF p i x.no := h4
     clear h4
     replace h5 := Lib.hid h5
     repeat' (first | (with_reducible first | refine zA ?_ | refine qaae ?_ | refine zK ?_) | ((with_reducible first | refine qaac ?_ | refine qaa1 (by rw [hP]; exact qacx) ?_); (try rw [hP]); simp -implicitDefEqProofs [*]) | ((with_reducible refine qaaf ?_); (try simp -implicitDefEqProofs [*])) | ((with_reducible refine qaaa rfl (fun h => ?_) (fun h => ?_)) <;> have h' := h <;> (try simp at h') <;> (try subst h')) | ((with_reducible refine qaan (fun h => ?_) (fun h => ?_)) <;> have h' := h <;> (try simp at h') <;> (try subst h') <;> simp -implicitDefEqProofs [*]) | (with_reducible first | refine za ?_ ?_ | refine zb ?_ ?_ ?_ ?_ | refine zd ?_ ?_ ?_ ?_) | (with_reducible first | exact qaab | exact qaad) | ((with_reducible first | refine zga ?_ | refine zgb ?_); rfl) | ((with_reducible first | refine zgd ?_ | refine zge ?_); (first | omega | (simp; done))) | (exact Co.refl _) | (exact CoL.refl _) | (exact CoLL.refl _) | ((refine qaaj hJ (2, ?_) ?_ ?_ ?_; rotate_left 1; (with_reducible refine qaah [] hm ?_ ?_ ?_ ?_) <;> (try simp only [zT, puth, Nat.reduceEqDiff, reduceIte, Nat.reduceAdd]))) | fail)
     all_goals (try dsimp only)
     all_goals (refine ⟨by omega, ?_⟩; rw [h5.out]; clear h5; refine qadh ?_; unfold toF; (repeat' split) <;> first | rfl | (exfalso; simp_all; omega) | (exfalso; simp_all; done))
    ·replace h4 := Lib.hid h4
     repeat' (first | (with_reducible refine zA ?_) | ((with_reducible refine qaac ?_); (try rw [hP]); simp -implicitDefEqProofs [*]) | ((with_reducible refine qaak ?_); (try simp -implicitDefEqProofs [*])) | ((with_reducible refine qaam ?_); (try simp only [qaap, qaag, qaai])) | ((with_reducible refine qaaa rfl (fun h => ?_) (fun h => ?_)) <;> have h' := h <;> (try simp at h') <;> (try subst h')) | (with_reducible refine zM hm ?_) | fail)
     rw [h4.out]; rfl
   ·rw [if_neg he] at h4
    have ke : (e == 0) = false := by simpa using he
    replace h4 := Lib.hid h4
    repeat' (first | (with_reducible refine zA ?_) | ((with_reducible refine qaac ?_); (try rw [hP]); simp -implicitDefEqProofs [*]) | ((with_reducible refine qaak ?_); (try simp -implicitDefEqProofs [*])) | ((with_reducible refine qaam ?_); (try simp only [qaap, qaag, qaai])) | ((with_reducible refine qaaa rfl (fun h => ?_) (fun h => ?_)) <;> have h' := h <;> (try simp at h') <;> (try subst h')) | ((with_reducible refine qaan (fun h => ?_) (fun h => ?_)) <;> have h' := h <;> (try simp at h') <;> (try subst h') <;> simp -implicitDefEqProofs [*]) | (with_reducible refine zM hm ?_) | fail)
    all_goals (rw [h4.out])
  ·have hI : F = if (0 : Int) = 0 then qadg p i ([x.yes, x.no].drop 0) else 0 := hA
   clear hA
   replace hI := Lib.hid hI
   repeat' (first | (with_reducible first | refine zA ?_ | refine qaae ?_) | ((with_reducible refine qaac ?_); (try rw [hP]); simp -implicitDefEqProofs [*]) | ((with_reducible refine qaaf ?_); (try simp -implicitDefEqProofs [*])) | ((with_reducible refine qaaa rfl (fun h => ?_) (fun h => ?_)) <;> have h' := h <;> (try simp at h') <;> (try subst h')) | (refine qaa0 (hch _) ?_; simp -implicitDefEqProofs [*]) | fail)
   refine qaal (qaa5 (fun s (y : Nat × Int) => s.turn [(6, .int .i64 y.2), (8, .int .i64 y.1)] []) (fun y => y.1 ≤ 2 ∧ F = if y.2 = 0 then qadg p i ([x.yes, x.no].drop y.1) else y.2) (fun y => 2 - y.1) (0, 0) ?_ ⟨by simp, hI.out⟩ ?_)
   ·repeat' (first | ((with_reducible refine qaah [] hm ?_ ?_ ?_ ?_) <;> (try simp only [zT, puth, Nat.reduceEqDiff, reduceIte, Nat.reduceAdd])) | (with_reducible first | refine za ?_ ?_ | refine zb ?_ ?_ ?_ ?_ | refine zd ?_ ?_ ?_ ?_) | (with_reducible first | exact qaab | exact qaad) | ((with_reducible first | refine zga ?_ | refine zgb ?_); rfl) | ((with_reducible refine zgd ?_); (first | omega | (simp; done))) | (exact Co.refl _) | (exact CoL.refl _) | (exact CoLL.refl _) | fail)
   rintro J hJ ⟨k, e⟩ ⟨h3, h4⟩
   unfold qac0
   simp only [zT, puth, Nat.reduceEqDiff, reduceIte, Nat.reduceAdd] at h3 h4 ⊢
   by_cases he : e = 0
   ·subst he
    rw [if_pos rfl] at h4
    have hk : k = 0 ∨ k = 1 ∨ k = 2 := by omega
    rcases hk with rfl | rfl | rfl
    ·have h5 : F = if toF p i x.yes = 0 then qadg p i [x.no] else toF p i x.yes := h4
     clear h4
     replace h5 := Lib.hid h5
     repeat' (first | (with_reducible first | refine zA ?_ | refine qaae ?_ | refine zK ?_) | ((with_reducible first | refine qaac ?_ | refine qaa1 (by rw [hP]; exact qacx) ?_); (try rw [hP]); simp -implicitDefEqProofs [*]) | ((with_reducible refine qaaf ?_); (try simp -implicitDefEqProofs [*])) | ((with_reducible refine qaaa rfl (fun h => ?_) (fun h => ?_)) <;> have h' := h <;> (try simp at h') <;> (try subst h')) | ((with_reducible refine qaan (fun h => ?_) (fun h => ?_)) <;> have h' := h <;> (try simp at h') <;> (try subst h') <;> simp -implicitDefEqProofs [*]) | (with_reducible first | refine za ?_ ?_ | refine zb ?_ ?_ ?_ ?_ | refine zd ?_ ?_ ?_ ?_) | (with_reducible first | exact qaab | exact qaad) | ((with_reducible first | refine zga ?_ | refine zgb ?_); rfl) | ((with_reducible first | refine zgd ?_ | refine zge ?_); (first | omega | (simp; done))) | (exact Co.refl _) | (exact CoL.refl _) | (exact CoLL.refl _) | ((refine qaaj hJ (1, ?_) ?_ ?_ ?_; rotate_left 1; (with_reducible refine qaah [] hm ?_ ?_ ?_ ?_) <;> (try simp only [zT, puth, Nat.reduceEqDiff, reduceIte, Nat.reduceAdd]))) | fail)
     all_goals (try dsimp only)
     all_goals (refine ⟨by omega, ?_⟩; rw [h5.out]; clear h5; refine qadh ?_; unfold toF; (repeat' split) <;> first | rfl | (exfalso; simp_all; omega) | (exfalso; simp_all; done))
    ·have h5 : F = if toF p i x.no = 0 then qadg p i [] else toF p i x.no := h4
     clear h4
     replace h5 := Lib.hid h5
     repeat' (first | (with_reducible first | refine zA ?_ | refine qaae ?_ | refine zK ?_) | ((with_reducible first | refine qaac ?_ | refine qaa1 (by rw [hP]; exact qacx) ?_); (try rw [hP]); simp -implicitDefEqProofs [*]) | ((with_reducible refine qaaf ?_); (try simp -implicitDefEqProofs [*])) | ((with_reducible refine qaaa rfl (fun h => ?_) (fun h => ?_)) <;> have h' := h <;> (try simp at h') <;> (try subst h')) | ((with_reducible refine qaan (fun h => ?_) (fun h => ?_)) <;> have h' := h <;> (try simp at h') <;> (try subst h') <;> simp -implicitDefEqProofs [*]) | (with_reducible first | refine za ?_ ?_ | refine zb ?_ ?_ ?_ ?_ | refine zd ?_ ?_ ?_ ?_) | (with_reducible first | exact qaab | exact qaad) | ((with_reducible first | refine zga ?_ | refine zgb ?_); rfl) | ((with_reducible first | refine zgd ?_ | refine zge ?_); (first | omega | (simp; done))) | (exact Co.refl _) | (exact CoL.refl _) | (exact CoLL.refl _) | ((refine qaaj hJ (2, ?_) ?_ ?_ ?_; rotate_left 1; (with_reducible refine qaah [] hm ?_ ?_ ?_ ?_) <;> (try simp only [zT, puth, Nat.reduceEqDiff, reduceIte, Nat.reduceAdd]))) | fail)
     all_goals (try dsimp only)
     all_goals (refine ⟨by omega, ?_⟩; rw [h5.out]; clear h5; refine qadh ?_; unfold toF; (repeat' split) <;> first | rfl | (exfalso; simp_all; omega) | (exfalso; simp_all; done))
    ·replace h4 := Lib.hid h4
     repeat' (first | (with_reducible refine zA ?_) | ((with_reducible refine qaac ?_); (try rw [hP]); simp -implicitDefEqProofs [*]) | ((with_reducible refine qaak ?_); (try simp -implicitDefEqProofs [*])) | ((with_reducible refine qaam ?_); (try simp only [qaap, qaag, qaai])) | ((with_reducible refine qaaa rfl (fun h => ?_) (fun h => ?_)) <;> have h' := h <;> (try simp at h') <;> (try subst h')) | (with_reducible refine zM hm ?_) | fail)
     rw [h4.out]; rfl
   ·rw [if_neg he] at h4
    have ke : (e == 0) = false := by simpa using he
    replace h4 := Lib.hid h4
    repeat' (first | (with_reducible refine zA ?_) | ((with_reducible refine qaac ?_); (try rw [hP]); simp -implicitDefEqProofs [*]) | ((with_reducible refine qaak ?_); (try simp -implicitDefEqProofs [*])) | ((with_reducible refine qaam ?_); (try simp only [qaap, qaag, qaai])) | ((with_reducible refine qaaa rfl (fun h => ?_) (fun h => ?_)) <;> have h' := h <;> (try simp at h') <;> (try subst h')) | ((with_reducible refine qaan (fun h => ?_) (fun h => ?_)) <;> have h' := h <;> (try simp at h') <;> (try subst h') <;> simp -implicitDefEqProofs [*]) | (with_reducible refine zM hm ?_) | fail)
    all_goals (rw [h4.out])
 have k4 : (x.kind == 4) = false := by simpa using kn4
 rw [if_neg kn4] at hA
 have hI : F = if (5 : Int) = 0 then qadg p i ([x.yes].drop 0) else 5 := hA
 clear kn4 hA
 replace hI := Lib.hid hI
 repeat' (first | (with_reducible first | refine zA ?_ | refine qaae ?_) | ((with_reducible refine qaac ?_); (try rw [hP]); simp -implicitDefEqProofs [*]) | ((with_reducible refine qaaa rfl (fun h => ?_) (fun h => ?_)) <;> have h' := h <;> (try simp at h') <;> (try subst h')) | fail)
 refine qaal (qaa5 (fun s (y : Nat × Int) => s.turn [(6, .int .i64 y.2), (8, .int .i64 y.1)] []) (fun y => y.1 ≤ 1 ∧ F = if y.2 = 0 then qadg p i ([x.yes].drop y.1) else y.2) (fun y => 1 - y.1) (0, 5) ?_ ⟨by simp, hI.out⟩ ?_)
 ·repeat' (first | ((with_reducible refine qaah [] hm ?_ ?_ ?_ ?_) <;> (try simp only [zT, puth, Nat.reduceEqDiff, reduceIte, Nat.reduceAdd])) | (with_reducible first | refine za ?_ ?_ | refine zb ?_ ?_ ?_ ?_ | refine zd ?_ ?_ ?_ ?_) | (with_reducible first | exact qaab | exact qaad) | ((with_reducible first | refine zga ?_ | refine zgb ?_); rfl) | ((with_reducible refine zgd ?_); (first | omega | (simp; done))) | (exact Co.refl _) | (exact CoL.refl _) | (exact CoLL.refl _) | fail)
 rintro J hJ ⟨k, e⟩ ⟨h3, h4⟩
 unfold qac0
 simp only [zT, puth, Nat.reduceEqDiff, reduceIte, Nat.reduceAdd] at h3 h4 ⊢
 by_cases he : e = 0
 ·subst he
  rw [if_pos rfl] at h4
  have hk : k = 0 ∨ k = 1 := by omega
  rcases hk with rfl | rfl
  ·have h5 : F = if toF p i x.yes = 0 then qadg p i [] else toF p i x.yes := h4
   clear h4
   replace h5 := Lib.hid h5
   repeat' (first | (with_reducible first | refine zA ?_ | refine qaae ?_ | refine zK ?_) | ((with_reducible first | refine qaac ?_ | refine qaa1 (by rw [hP]; exact qacx) ?_); (try rw [hP]); simp -implicitDefEqProofs [*]) | ((with_reducible refine qaaf ?_); (try simp -implicitDefEqProofs [*])) | ((with_reducible refine qaaa rfl (fun h => ?_) (fun h => ?_)) <;> have h' := h <;> (try simp at h') <;> (try subst h')) | ((with_reducible refine qaan (fun h => ?_) (fun h => ?_)) <;> have h' := h <;> (try simp at h') <;> (try subst h') <;> simp -implicitDefEqProofs [*]) | (with_reducible first | refine za ?_ ?_ | refine zb ?_ ?_ ?_ ?_ | refine zd ?_ ?_ ?_ ?_) | (with_reducible first | exact qaab | exact qaad) | ((with_reducible first | refine zga ?_ | refine zgb ?_); rfl) | ((with_reducible first | refine zgd ?_ | refine zge ?_); (first | omega | (simp; done))) | (exact Co.refl _) | (exact CoL.refl _) | (exact CoLL.refl _) | ((refine qaaj hJ (1, ?_) ?_ ?_ ?_; rotate_left 1; (with_reducible refine qaah [] hm ?_ ?_ ?_ ?_) <;> (try simp only [zT, puth, Nat.reduceEqDiff, reduceIte, Nat.reduceAdd]))) | fail)
   all_goals (try dsimp only)
   all_goals (refine ⟨by omega, ?_⟩; rw [h5.out]; clear h5; refine qadh ?_; unfold toF; (repeat' split) <;> first | rfl | (exfalso; simp_all; omega) | (exfalso; simp_all; done))
  ·replace h4 := Lib.hid h4
   repeat' (first | (with_reducible refine zA ?_) | ((with_reducible refine qaac ?_); (try rw [hP]); simp -implicitDefEqProofs [*]) | ((with_reducible refine qaak ?_); (try simp -implicitDefEqProofs [*])) | ((with_reducible refine qaam ?_); (try simp only [qaap, qaag, qaai])) | ((with_reducible refine qaaa rfl (fun h => ?_) (fun h => ?_)) <;> have h' := h <;> (try simp at h') <;> (try subst h')) | (with_reducible refine zM hm ?_) | fail)
   rw [h4.out]; rfl
 ·rw [if_neg he] at h4
  have ke : (e == 0) = false := by simpa using he
  replace h4 := Lib.hid h4
  repeat' (first | (with_reducible refine zA ?_) | ((with_reducible refine qaac ?_); (try rw [hP]); simp -implicitDefEqProofs [*]) | ((with_reducible refine qaak ?_); (try simp -implicitDefEqProofs [*])) | ((with_reducible refine qaam ?_); (try simp only [qaap, qaag, qaai])) | ((with_reducible refine qaaa rfl (fun h => ?_) (fun h => ?_)) <;> have h' := h <;> (try simp at h') <;> (try subst h')) | ((with_reducible refine qaan (fun h => ?_) (fun h => ?_)) <;> have h' := h <;> (try simp at h') <;> (try subst h') <;> simp -implicitDefEqProofs [*]) | (with_reducible refine zM hm ?_) | fail)
  all_goals (rw [h4.out])
end Go.Proofs.Ytnfjldobjgdiaaa
namespace Go.Proofs.Ytnfjldobjgdiaaa
set_option linter.all false
open Go.RowKit
attribute [local simp] qabg qabf qaas qaaz qaat qaay qabd qabe qaao qabn SOp.run SX.ev putd puts argS upds SOp.touch SSt.keep SSt.skip gets geth puth delh idOf SV.cells? setL qac5 qac6 sbin eq0 eq1 eqL qac4 qab1 qab2 qaap qabh qaag qabi qabo qaai qaaq FrzOk qaa9 qaa3 qaa7 qaa8 qaau qaa2 qabl qaa4 qaaw qaba qaav frzS frzH frz frz1 frz0 SlotsM ObjsM ObjM rn ren ren1 ren0 qabu qaca qacf qabt qabm qacg qace CoL qabb qach dels adds idsH qab3
attribute [local simp] qads refc qae3 qaet qacc opc actc tabc qad7 qacu nums
theorem qaln (c : Bool) (at_ : Int) (R S : Int × Int) : orF (0, 0) (orF (orF (qapu c at_) R) S) = if c = true then (2, at_) else orF (0, 0) (orF R S) := by
 cases c
 ·rw [show qapu false at_ = (0, 0) from rfl, qade, ← qade (0, 0) (0, 0)]; rfl
 ·rfl
theorem qbbu {α : Type} (f : Nat → α → Int) (b : Int) {l : List α} {i : Nat} (hi : i < l.length) {S : Int × Int} : orF (0, 0) (orF (rowF f b i (l.drop i)) S) = if f i l[i] ≠ 0 then (f i l[i], b + i) else orF (0, 0) (orF (rowF f b (i + 1) (l.drop (i + 1))) S) := by
 rw [qadd _ _ hi]
 by_cases h : f i l[i] ≠ 0
 ·rw [if_pos h, if_pos h, qafb (f := (f i l[i], b + i)) h]; unfold orF; simp [h]
 ·rw [if_neg h, if_neg h]
theorem qbee (S : Int × Int) : orF (0, 0) (orF (0, 0) S) = orF (0, 0) S := by rw [← qade]; rfl
theorem z_last (p : PlanD) : orF (0, 0) (qafl p) = orF (0, 0) (orF (qafl p) (0, 0)) := by rw [qacj (qafl p) rfl]
set_option maxHeartbeats 16000000 in
theorem rform_s (p : PlanD) (hs : SmallP p) (q : Nat) : SCalls Try.prog 18 [.agg (qacu p)] [] q (.agg [.int .i64 (qafk p).1, .int .i64 (qafk p).2]) [] := by
 refine qabj ?_ (fun _ => rfl) (fun _ => rfl) rfl q
 refine qaax (N := 229) Try.func18 rfl rfl (by kernel_rfl) qamj (by simp) (by repeat' (first | exact trivial | refine And.intro ?_ ?_ | rfl | decide | exact PureR.ren _)) (by repeat' (first | exact trivial | refine And.intro ?_ ?_ | rfl | decide | exact PureR.ren _)) ?_
 rintro X hP hN hm
 unfold c_rform
 have hF : qafk p = orF (0, 0) (orF (qafp p) (orF (qa0l p) (orF (qada p) (orF (qag7 p) (orF (qaf5 p) (orF (qadc p) (qafl p))))))) := (qahh p).symm
 generalize qafk p = F at hF
 replace hF := Lib.hid hF
 have hl1 := hs.heads
 have hl2 := hs.metas
 have hl3 := hs.states
 have hl4 := hs.acts
 have hl5 := hs.tabs
 have hl6 := hs.nodes
 have hl7 := hs.outs
 have hS : F = if decide (6 < (p.heads.length : Int)) = true then (2, -1) else orF (0, 0) (orF (rowF (fun _ h => qahe h.w) 1000 0 (p.heads.drop 0)) (orF (qa0l p) (orF (qada p) (orF (qag7 p) (orF (qaf5 p) (orF (qadc p) (qafl p))))))) := by
  rw [hF.out]; unfold qafp; rw [qaln, show decide (6 < p.heads.length) = decide (6 < (p.heads.length : Int)) from decide_eq_decide.2 (by omega)]; rfl
 replace hF := Lib.hid hS
 clear hS
 cases km : decide (6 < (p.heads.length : Int))
 rotate_left
 ·have hz := hF.out
  rw [km, if_pos rfl] at hz
  replace hz := Lib.hid hz
  repeat' (first | (with_reducible refine zA ?_) | ((with_reducible refine qaac ?_); (try rw [hP]); simp -implicitDefEqProofs [*]) | ((with_reducible refine qaam ?_); (try simp only [qaap, qaag, qaai])) | ((with_reducible refine qaaa rfl (fun h => ?_) (fun h => ?_)) <;> have h' := h <;> (try simp at h') <;> (try subst h')) | (refine qaa0 (rF_s _ _ _) ?_; simp -implicitDefEqProofs [*]) | (refine qaf3 hm rfl rfl (by rw [hP]; exact qabk) (by rw [hP]; exact qabc) rfl (CoL.refl _) (by rw [hz.out]) (fun σ => rfl)) | fail)
 have hz := hF.out
 rw [km, if_neg Bool.false_ne_true] at hz
 replace hF := Lib.hid hz
 clear hz
 repeat' (first | (with_reducible refine zA ?_) | ((with_reducible refine qaac ?_); (try rw [hP]); simp -implicitDefEqProofs [*]) | ((with_reducible refine qaaf ?_); (try simp -implicitDefEqProofs [*])) | ((with_reducible refine qaaa rfl (fun h => ?_) (fun h => ?_)) <;> have h' := h <;> (try simp at h') <;> (try subst h')) | fail)
 clear km
 refine qaal (qaa5 (fun s (i : Nat) => s.turn [(3, .int .i64 i)] []) (fun i => i ≤ p.heads.length ∧ F = orF (0, 0) (orF (rowF (fun _ h => qahe h.w) 1000 i (p.heads.drop i)) (orF (qa0l p) (orF (qada p) (orF (qag7 p) (orF (qaf5 p) (orF (qadc p) (qafl p)))))))) (fun i => p.heads.length - i) 0 ?_ ⟨by simp, hF.out⟩ ?_)
 ·repeat' (first | ((with_reducible refine qaah [] hm ?_ ?_ ?_ ?_) <;> (try simp only [zT, puth, Nat.reduceEqDiff, reduceIte, Nat.reduceAdd])) | (with_reducible first | refine za ?_ ?_ | refine zb ?_ ?_ ?_ ?_) | (with_reducible first | exact qaab | exact qaad) | ((with_reducible first | refine zga ?_ | refine zgb ?_); rfl) | ((with_reducible refine zgd ?_); (first | omega | (simp; done))) | (exact Co.refl _) | (exact CoL.refl _) | fail)
 rintro J hJ i ⟨h1, h2⟩
 unfold qakr
 simp only [zT, puth, Nat.reduceEqDiff, reduceIte, Nat.reduceAdd] at h1 h2 ⊢
 clear hF
 rcases Nat.lt_or_ge i p.heads.length with hi | hi
 ·rw [qbbu _ _ hi] at h2
  have hxm : p.heads[i] ∈ p.heads := List.getElem_mem hi
  have wi : IntKind.i64.wrap ((i : Int) + 1) = (i : Int) + 1 := qaar (by omega) (by omega)
  have wa : IntKind.i64.wrap (1000 + (i : Int)) = 1000 + (i : Int) := qaar (by omega) (by omega)
  have hct := fun q => qbbb p.heads[i].w q
  unfold qall at hct
  generalize hxx : p.heads[i] = x at h2 hct hxm
  obtain ⟨E, hE⟩ : ∃ E, qahe x.w = E := ⟨_, rfl⟩
  rw [hE] at h2 hct
  clear hE
  replace h2 := Lib.hid h2
  replace hct := Lib.hid hct
  cases kE : (E != 0)
  ·have kE' : ¬ E ≠ 0 := by simpa using kE
   replace kE' := Lib.hid kE'
   repeat' (first | (with_reducible first | refine zA ?_ | refine qaae ?_) | ((with_reducible refine qaac ?_); (try rw [hP]); simp -implicitDefEqProofs [*]) | ((with_reducible refine qaaf ?_); (try simp -implicitDefEqProofs [*])) | ((with_reducible refine qaaa rfl (fun h => ?_) (fun h => ?_)) <;> have h' := h <;> (try simp at h') <;> (try subst h')) | (refine qaa0 (hct.out _) ?_; simp -implicitDefEqProofs [*]) | (with_reducible first | refine za ?_ ?_ | refine zb ?_ ?_ ?_ ?_) | (with_reducible first | exact qaab | exact qaad) | ((with_reducible first | refine zga ?_ | refine zgb ?_); rfl) | ((with_reducible first | refine zgd ?_ | refine zge ?_); (first | omega | (simp; done))) | (exact Co.refl _) | (exact CoL.refl _) | ((refine qaaj hJ (i + 1) ?_ ?_ ?_; (with_reducible refine qaah [] hm ?_ ?_ ?_ ?_) <;> (try simp only [zT, puth, Nat.reduceEqDiff, reduceIte, Nat.reduceAdd]))) | fail)
   exact ⟨by omega, by rw [h2.out, if_neg kE'.out]⟩
  ·have kE' : E ≠ 0 := by simpa using kE
   have hz := h2.out
   rw [if_pos kE'] at hz
   replace kE' := Lib.hid kE'
   replace hz := Lib.hid hz
   repeat' (first | (with_reducible first | refine zA ?_ | refine qaae ?_) | ((with_reducible refine qaac ?_); (try rw [hP]); simp -implicitDefEqProofs [*]) | ((with_reducible refine qaaf ?_); (try simp -implicitDefEqProofs [*])) | ((with_reducible refine qaam ?_); (try simp only [qaap, qaag, qaai])) | ((with_reducible refine qaaa rfl (fun h => ?_) (fun h => ?_)) <;> have h' := h <;> (try simp at h') <;> (try subst h')) | ((first | refine qaa0 (hct.out _) ?_ | refine qaa0 (rF_s _ _ _) ?_); simp -implicitDefEqProofs [*]) | (refine qaf3 hm rfl rfl (by rw [hP]; exact qabk) (by rw [hP]; exact qabc) rfl (CoL.refl _) (by rw [hz.out]) (fun σ => rfl)) | fail)
 ·obtain rfl : i = p.heads.length := by omega
  have hF : F = orF (0, 0) (orF (qa0l p) (orF (qada p) (orF (qag7 p) (orF (qaf5 p) (orF (qadc p) (qafl p)))))) := by rw [h2, List.drop_length]; exact qbee _
  clear h2 hi h1 hJ
  replace hF := Lib.hid hF
  have hS : F = if decide (4 < (p.meta_.length : Int)) = true then (2, -2) else orF (0, 0) (orF (rowF (fun _ w => if wOut w then 6 else 0) 2000 0 (p.meta_.drop 0)) (orF (qada p) (orF (qag7 p) (orF (qaf5 p) (orF (qadc p) (qafl p)))))) := by
   rw [hF.out]; unfold qa0l; rw [qaln, show decide (4 < p.meta_.length) = decide (4 < (p.meta_.length : Int)) from decide_eq_decide.2 (by omega)]; rfl
  replace hF := Lib.hid hS
  clear hS
  cases km : decide (4 < (p.meta_.length : Int))
  rotate_left
  ·have hz := hF.out
   rw [km, if_pos rfl] at hz
   replace hz := Lib.hid hz
   repeat' (first | (with_reducible refine zA ?_) | ((with_reducible refine qaac ?_); (try rw [hP]); simp -implicitDefEqProofs [*]) | ((with_reducible refine qaak ?_); (try simp -implicitDefEqProofs [*])) | ((with_reducible refine qaam ?_); (try simp only [qaap, qaag, qaai])) | ((with_reducible refine qaaa rfl (fun h => ?_) (fun h => ?_)) <;> have h' := h <;> (try simp at h') <;> (try subst h')) | (refine qaa0 (rF_s _ _ _) ?_; simp -implicitDefEqProofs [*]) | (refine qaf3 hm rfl rfl (by rw [hP]; exact qabk) (by rw [hP]; exact qabc) rfl (CoL.refl _) (by rw [hz.out]) (fun σ => rfl)) | fail)
  have hz := hF.out
  rw [km, if_neg Bool.false_ne_true] at hz
  replace hF := Lib.hid hz
  clear hz
  repeat' (first | (with_reducible refine zA ?_) | ((with_reducible refine qaac ?_); (try rw [hP]); simp -implicitDefEqProofs [*]) | ((with_reducible first | refine qaaf ?_ | refine qaak ?_); (try simp -implicitDefEqProofs [*])) | ((with_reducible refine qaaa rfl (fun h => ?_) (fun h => ?_)) <;> have h' := h <;> (try simp at h') <;> (try subst h')) | fail)
  clear km
  refine qaal (qaa5 (fun s (i : Nat) => s.turn [(6, .int .i64 i)] []) (fun i => i ≤ p.meta_.length ∧ F = orF (0, 0) (orF (rowF (fun _ w => if wOut w then 6 else 0) 2000 i (p.meta_.drop i)) (orF (qada p) (orF (qag7 p) (orF (qaf5 p) (orF (qadc p) (qafl p))))))) (fun i => p.meta_.length - i) 0 ?_ ⟨by simp, hF.out⟩ ?_)
  ·repeat' (first | ((with_reducible refine qaah [] hm ?_ ?_ ?_ ?_) <;> (try simp only [zT, puth, Nat.reduceEqDiff, reduceIte, Nat.reduceAdd])) | (with_reducible first | refine za ?_ ?_ | refine zb ?_ ?_ ?_ ?_) | (with_reducible first | exact qaab | exact qaad) | ((with_reducible first | refine zga ?_ | refine zgb ?_); rfl) | ((with_reducible refine zgd ?_); (first | omega | (simp; done))) | (exact Co.refl _) | (exact CoL.refl _) | fail)
  rintro J hJ i ⟨h1, h2⟩
  unfold qakq
  simp only [zT, puth, Nat.reduceEqDiff, reduceIte, Nat.reduceAdd] at h1 h2 ⊢
  clear hF
  rcases Nat.lt_or_ge i p.meta_.length with hi | hi
  ·rw [qbbu _ _ hi] at h2
   have hxm : p.meta_[i] ∈ p.meta_ := List.getElem_mem hi
   have wi : IntKind.i64.wrap ((i : Int) + 1) = (i : Int) + 1 := qaar (by omega) (by omega)
   have wa : IntKind.i64.wrap (2000 + (i : Int)) = 2000 + (i : Int) := qaar (by omega) (by omega)
   generalize hxx : p.meta_[i] = x at h2 hxm
   replace h2 := Lib.hid h2
   cases hv : wOut x
   ·have hv1 : decide (x < 1) = false ∧ decide (48 < x) = false := by simpa [wOut] using hv
    obtain ⟨v1, v2⟩ := hv1
    repeat' (first | (with_reducible first | refine zA ?_ | refine qaae ?_) | ((with_reducible refine qaac ?_); (try rw [hP]); simp -implicitDefEqProofs [*]) | ((with_reducible refine qaaf ?_); (try simp -implicitDefEqProofs [*])) | ((with_reducible refine qaaa rfl (fun h => ?_) (fun h => ?_)) <;> have h' := h <;> (try simp at h') <;> (try subst h')) | (with_reducible first | refine za ?_ ?_ | refine zb ?_ ?_ ?_ ?_) | (with_reducible first | exact qaab | exact qaad) | ((with_reducible first | refine zga ?_ | refine zgb ?_); rfl) | ((with_reducible first | refine zgd ?_ | refine zge ?_); (first | omega | (simp; done))) | (exact Co.refl _) | (exact CoL.refl _) | ((refine qaaj hJ (i + 1) ?_ ?_ ?_; (with_reducible refine qaah [] hm ?_ ?_ ?_ ?_) <;> (try simp only [zT, puth, Nat.reduceEqDiff, reduceIte, Nat.reduceAdd]))) | fail)
    exact ⟨by omega, by rw [h2.out, hv]; rfl⟩
   ·have hz := h2.out
    rw [hv] at hz
    replace hz : F = (6, 2000 + (i : Int)) := hz
    replace hz := Lib.hid hz
    replace hv := Lib.hid hv
    repeat' (first | (with_reducible first | refine zA ?_ | refine qaae ?_) | ((with_reducible refine qaac ?_); (try rw [hP]); simp -implicitDefEqProofs [*]) | ((with_reducible refine qaaf ?_); (try simp -implicitDefEqProofs [*])) | ((with_reducible refine qaam ?_); (try simp only [qaap, qaag, qaai])) | ((with_reducible refine qaaa rfl (fun h => ?_) (fun h => ?_)) <;> have h' := h <;> (try simp at h') <;> (try subst h')) | ((with_reducible refine qaan (fun h => ?_) (fun h => ?_)) <;> have h' := h <;> (try simp at h') <;> (try subst h') <;> simp -implicitDefEqProofs [*]) | (refine qaa0 (rF_s _ _ _) ?_; simp -implicitDefEqProofs [*]) | (with_reducible first | refine za ?_ ?_ | refine zb ?_ ?_ ?_ ?_) | (with_reducible first | exact qaab | exact qaad) | ((with_reducible first | refine zga ?_ | refine zgb ?_); rfl) | ((with_reducible first | refine zgd ?_ | refine zge ?_); (first | omega | (simp; done))) | (exact Co.refl _) | (exact CoL.refl _) | ((refine qaaj hJ (i + 1) ?_ ?_ ?_; (with_reducible refine qaah [] hm ?_ ?_ ?_ ?_) <;> (try simp only [zT, puth, Nat.reduceEqDiff, reduceIte, Nat.reduceAdd]))) | (refine qaf3 hm rfl rfl (by rw [hP]; exact qabk) (by rw [hP]; exact qabc) rfl (CoL.refl _) (by rw [hz.out]) (fun σ => rfl)) | fail)
    all_goals (exfalso; have q := hv.out; simp only [wOut, Bool.or_eq_true, decide_eq_true_eq] at q; omega)
  ·obtain rfl : i = p.meta_.length := by omega
   have hF : F = orF (0, 0) (orF (qada p) (orF (qag7 p) (orF (qaf5 p) (orF (qadc p) (qafl p))))) := by rw [h2, List.drop_length]; exact qbee _
   clear h2 hi h1 hJ
   replace hF := Lib.hid hF
   have hS : F = if (decide ((p.states.length : Int) < 1) || decide (8 < (p.states.length : Int))) = true then (2, -3) else orF (0, 0) (orF (rowF (fun i s => qaes p i s) 3000 0 (p.states.drop 0)) (orF (qag7 p) (orF (qaf5 p) (orF (qadc p) (qafl p))))) := by
    rw [hF.out]; unfold qada; rw [qaln, show decide (p.states.length < 1) = decide ((p.states.length : Int) < 1) from decide_eq_decide.2 (by omega), show decide (8 < p.states.length) = decide (8 < (p.states.length : Int)) from decide_eq_decide.2 (by omega)]; rfl
   replace hF := Lib.hid hS
   clear hS
   cases km1 : decide ((p.states.length : Int) < 1)
   rotate_left
   ·have hz := hF.out
    rw [km1, Bool.true_or, if_pos rfl] at hz
    replace hz := Lib.hid hz
    repeat' (first | (with_reducible refine zA ?_) | ((with_reducible refine qaac ?_); (try rw [hP]); simp -implicitDefEqProofs [*]) | ((with_reducible refine qaak ?_); (try simp -implicitDefEqProofs [*])) | ((with_reducible refine qaam ?_); (try simp only [qaap, qaag, qaai])) | ((with_reducible refine qaaa rfl (fun h => ?_) (fun h => ?_)) <;> have h' := h <;> (try simp at h') <;> (try subst h')) | (refine qaa0 (rF_s _ _ _) ?_; simp -implicitDefEqProofs [*]) | (refine qaf3 hm rfl rfl (by rw [hP]; exact qabk) (by rw [hP]; exact qabc) rfl (CoL.refl _) (by rw [hz.out]) (fun σ => rfl)) | fail)
   cases km : decide (8 < (p.states.length : Int))
   rotate_left
   ·have hz := hF.out
    rw [km1, km, Bool.or_true, if_pos rfl] at hz
    replace hz := Lib.hid hz
    repeat' (first | (with_reducible refine zA ?_) | ((with_reducible refine qaac ?_); (try rw [hP]); simp -implicitDefEqProofs [*]) | ((with_reducible refine qaak ?_); (try simp -implicitDefEqProofs [*])) | ((with_reducible refine qaam ?_); (try simp only [qaap, qaag, qaai])) | ((with_reducible refine qaaa rfl (fun h => ?_) (fun h => ?_)) <;> have h' := h <;> (try simp at h') <;> (try subst h')) | (refine qaa0 (rF_s _ _ _) ?_; simp -implicitDefEqProofs [*]) | (refine qaf3 hm rfl rfl (by rw [hP]; exact qabk) (by rw [hP]; exact qabc) rfl (CoL.refl _) (by rw [hz.out]) (fun σ => rfl)) | fail)
   have hz := hF.out
   rw [km1, km, Bool.or_false, if_neg Bool.false_ne_true] at hz
   replace hF := Lib.hid hz
   clear hz
   repeat' (first | (with_reducible refine zA ?_) | ((with_reducible refine qaac ?_); (try rw [hP]); simp -implicitDefEqProofs [*]) | ((with_reducible first | refine qaaf ?_ | refine qaak ?_); (try simp -implicitDefEqProofs [*])) | ((with_reducible refine qaaa rfl (fun h => ?_) (fun h => ?_)) <;> have h' := h <;> (try simp at h') <;> (try subst h')) | fail)
   clear km km1
   refine qaal (qaa5 (fun s (i : Nat) => s.turn [(7, .int .i64 i)] []) (fun i => i ≤ p.states.length ∧ F = orF (0, 0) (orF (rowF (fun i s => qaes p i s) 3000 i (p.states.drop i)) (orF (qag7 p) (orF (qaf5 p) (orF (qadc p) (qafl p)))))) (fun i => p.states.length - i) 0 ?_ ⟨by simp, hF.out⟩ ?_)
   ·repeat' (first | ((with_reducible refine qaah [] hm ?_ ?_ ?_ ?_) <;> (try simp only [zT, puth, Nat.reduceEqDiff, reduceIte, Nat.reduceAdd])) | (with_reducible first | refine za ?_ ?_ | refine zb ?_ ?_ ?_ ?_) | (with_reducible first | exact qaab | exact qaad) | ((with_reducible first | refine zga ?_ | refine zgb ?_); rfl) | ((with_reducible refine zgd ?_); (first | omega | (simp; done))) | (exact Co.refl _) | (exact CoL.refl _) | fail)
   rintro J hJ i ⟨h1, h2⟩
   unfold qakp
   simp only [zT, puth, Nat.reduceEqDiff, reduceIte, Nat.reduceAdd] at h1 h2 ⊢
   clear hF
   rcases Nat.lt_or_ge i p.states.length with hi | hi
   ·rw [qbbu _ _ hi] at h2
    have hxm : p.states[i] ∈ p.states := List.getElem_mem hi
    have wi : IntKind.i64.wrap ((i : Int) + 1) = (i : Int) + 1 := qaar (by omega) (by omega)
    have wa : IntKind.i64.wrap (3000 + (i : Int)) = 3000 + (i : Int) := qaar (by omega) (by omega)
    have hct := fun q => qbcb p i hi (by omega) (by have := hs.cases_ _ hxm; omega) q
    generalize hxx : p.states[i] = x at h2 hct hxm
    generalize qaes p i x = E at h2 hct
    replace h2 := Lib.hid h2
    replace hct := Lib.hid hct
    cases kE : (E != 0)
    ·have kE' : ¬ E ≠ 0 := by simpa using kE
     replace kE' := Lib.hid kE'
     repeat' (first | (with_reducible first | refine zA ?_ | refine qaae ?_) | ((with_reducible refine qaac ?_); (try rw [hP]); simp -implicitDefEqProofs [*]) | ((with_reducible refine qaaf ?_); (try simp -implicitDefEqProofs [*])) | ((with_reducible refine qaaa rfl (fun h => ?_) (fun h => ?_)) <;> have h' := h <;> (try simp at h') <;> (try subst h')) | (refine qaa0 (hct.out _) ?_; simp -implicitDefEqProofs [*]) | (with_reducible first | refine za ?_ ?_ | refine zb ?_ ?_ ?_ ?_) | (with_reducible first | exact qaab | exact qaad) | ((with_reducible first | refine zga ?_ | refine zgb ?_); rfl) | ((with_reducible first | refine zgd ?_ | refine zge ?_); (first | omega | (simp; done))) | (exact Co.refl _) | (exact CoL.refl _) | ((refine qaaj hJ (i + 1) ?_ ?_ ?_; (with_reducible refine qaah [] hm ?_ ?_ ?_ ?_) <;> (try simp only [zT, puth, Nat.reduceEqDiff, reduceIte, Nat.reduceAdd]))) | fail)
     exact ⟨by omega, by rw [h2.out, if_neg kE'.out]⟩
    ·have kE' : E ≠ 0 := by simpa using kE
     have hz := h2.out
     rw [if_pos kE'] at hz
     replace kE' := Lib.hid kE'
     replace hz := Lib.hid hz
     repeat' (first | (with_reducible first | refine zA ?_ | refine qaae ?_) | ((with_reducible refine qaac ?_); (try rw [hP]); simp -implicitDefEqProofs [*]) | ((with_reducible refine qaaf ?_); (try simp -implicitDefEqProofs [*])) | ((with_reducible refine qaam ?_); (try simp only [qaap, qaag, qaai])) | ((with_reducible refine qaaa rfl (fun h => ?_) (fun h => ?_)) <;> have h' := h <;> (try simp at h') <;> (try subst h')) | ((first | refine qaa0 (hct.out _) ?_ | refine qaa0 (rF_s _ _ _) ?_); simp -implicitDefEqProofs [*]) | (refine qaf3 hm rfl rfl (by rw [hP]; exact qabk) (by rw [hP]; exact qabc) rfl (CoL.refl _) (by rw [hz.out]) (fun σ => rfl)) | fail)
   ·obtain rfl : i = p.states.length := by omega
    have hF : F = orF (0, 0) (orF (qag7 p) (orF (qaf5 p) (orF (qadc p) (qafl p)))) := by rw [h2, List.drop_length]; exact qbee _
    clear h2 hi h1 hJ
    replace hF := Lib.hid hF
    have hS : F = if decide (8 < (p.acts.length : Int)) = true then (2, -4) else orF (0, 0) (orF (rowF (fun _ a => actF p a) 4000 0 (p.acts.drop 0)) (orF (qaf5 p) (orF (qadc p) (qafl p)))) := by
     rw [hF.out]; unfold qag7; rw [qaln, show decide (8 < p.acts.length) = decide (8 < (p.acts.length : Int)) from decide_eq_decide.2 (by omega)]; rfl
    replace hF := Lib.hid hS
    clear hS
    cases km : decide (8 < (p.acts.length : Int))
    rotate_left
    ·have hz := hF.out
     rw [km, if_pos rfl] at hz
     replace hz := Lib.hid hz
     repeat' (first | (with_reducible refine zA ?_) | ((with_reducible refine qaac ?_); (try rw [hP]); simp -implicitDefEqProofs [*]) | ((with_reducible refine qaak ?_); (try simp -implicitDefEqProofs [*])) | ((with_reducible refine qaam ?_); (try simp only [qaap, qaag, qaai])) | ((with_reducible refine qaaa rfl (fun h => ?_) (fun h => ?_)) <;> have h' := h <;> (try simp at h') <;> (try subst h')) | (refine qaa0 (rF_s _ _ _) ?_; simp -implicitDefEqProofs [*]) | (refine qaf3 hm rfl rfl (by rw [hP]; exact qabk) (by rw [hP]; exact qabc) rfl (CoL.refl _) (by rw [hz.out]) (fun σ => rfl)) | fail)
    have hz := hF.out
    rw [km, if_neg Bool.false_ne_true] at hz
    replace hF := Lib.hid hz
    clear hz
    repeat' (first | (with_reducible refine zA ?_) | ((with_reducible refine qaac ?_); (try rw [hP]); simp -implicitDefEqProofs [*]) | ((with_reducible first | refine qaaf ?_ | refine qaak ?_); (try simp -implicitDefEqProofs [*])) | ((with_reducible refine qaaa rfl (fun h => ?_) (fun h => ?_)) <;> have h' := h <;> (try simp at h') <;> (try subst h')) | fail)
    clear km
    refine qaal (qaa5 (fun s (i : Nat) => s.turn [(9, .int .i64 i)] []) (fun i => i ≤ p.acts.length ∧ F = orF (0, 0) (orF (rowF (fun _ a => actF p a) 4000 i (p.acts.drop i)) (orF (qaf5 p) (orF (qadc p) (qafl p))))) (fun i => p.acts.length - i) 0 ?_ ⟨by simp, hF.out⟩ ?_)
    ·repeat' (first | ((with_reducible refine qaah [] hm ?_ ?_ ?_ ?_) <;> (try simp only [zT, puth, Nat.reduceEqDiff, reduceIte, Nat.reduceAdd])) | (with_reducible first | refine za ?_ ?_ | refine zb ?_ ?_ ?_ ?_) | (with_reducible first | exact qaab | exact qaad) | ((with_reducible first | refine zga ?_ | refine zgb ?_); rfl) | ((with_reducible refine zgd ?_); (first | omega | (simp; done))) | (exact Co.refl _) | (exact CoL.refl _) | fail)
    rintro J hJ i ⟨h1, h2⟩
    unfold qako
    simp only [zT, puth, Nat.reduceEqDiff, reduceIte, Nat.reduceAdd] at h1 h2 ⊢
    clear hF
    rcases Nat.lt_or_ge i p.acts.length with hi | hi
    ·rw [qbbu _ _ hi] at h2
     have hxm : p.acts[i] ∈ p.acts := List.getElem_mem hi
     have wi : IntKind.i64.wrap ((i : Int) + 1) = (i : Int) + 1 := qaar (by omega) (by omega)
     have wa : IntKind.i64.wrap (4000 + (i : Int)) = 4000 + (i : Int) := qaar (by omega) (by omega)
     have hct := fun q => ract_s p p.acts[i] (by have := hs.actW _ hxm; omega) (by have := hs.ops _ hxm; omega) (fun o ho => by have := hs.tree _ hxm o ho; omega) q
     generalize hxx : p.acts[i] = x at h2 hct hxm
     generalize actF p x = E at h2 hct
     replace h2 := Lib.hid h2
     replace hct := Lib.hid hct
     cases kE : (E != 0)
     ·have kE' : ¬ E ≠ 0 := by simpa using kE
      replace kE' := Lib.hid kE'
      repeat' (first | (with_reducible first | refine zA ?_ | refine qaae ?_ | refine zK ?_) | ((with_reducible first | refine qaac ?_ | refine qaa1 (by rw [hP]; exact qacx) ?_); (try rw [hP]); simp -implicitDefEqProofs [*]) | ((with_reducible refine qaaf ?_); (try simp -implicitDefEqProofs [*])) | ((with_reducible refine qaaa rfl (fun h => ?_) (fun h => ?_)) <;> have h' := h <;> (try simp at h') <;> (try subst h')) | (refine qaa0 (hct.out _) ?_; simp -implicitDefEqProofs [*]) | (with_reducible first | refine za ?_ ?_ | refine zb ?_ ?_ ?_ ?_) | (with_reducible first | exact qaab | exact qaad) | ((with_reducible first | refine zga ?_ | refine zgb ?_); rfl) | ((with_reducible first | refine zgd ?_ | refine zge ?_); (first | omega | (simp; done))) | (exact Co.refl _) | (exact CoL.refl _) | ((refine qaaj hJ (i + 1) ?_ ?_ ?_; (with_reducible refine qaah [] hm ?_ ?_ ?_ ?_) <;> (try simp only [zT, puth, Nat.reduceEqDiff, reduceIte, Nat.reduceAdd]))) | fail)
      exact ⟨by omega, by rw [h2.out, if_neg kE'.out]⟩
     ·have kE' : E ≠ 0 := by simpa using kE
      have hz := h2.out
      rw [if_pos kE'] at hz
      replace kE' := Lib.hid kE'
      replace hz := Lib.hid hz
      repeat' (first | (with_reducible first | refine zA ?_ | refine qaae ?_ | refine zK ?_) | ((with_reducible first | refine qaac ?_ | refine qaa1 (by rw [hP]; exact qacx) ?_); (try rw [hP]); simp -implicitDefEqProofs [*]) | ((with_reducible refine qaaf ?_); (try simp -implicitDefEqProofs [*])) | ((with_reducible refine qaam ?_); (try simp only [qaap, qaag, qaai])) | ((with_reducible refine qaaa rfl (fun h => ?_) (fun h => ?_)) <;> have h' := h <;> (try simp at h') <;> (try subst h')) | ((first | refine qaa0 (hct.out _) ?_ | refine qaa0 (rF_s _ _ _) ?_); simp -implicitDefEqProofs [*]) | (refine qaf3 hm rfl rfl (by rw [hP]; exact qabk) (by rw [hP]; exact qabc) rfl (CoL.refl _) (by rw [hz.out]) (fun σ => rfl)) | fail)
    ·obtain rfl : i = p.acts.length := by omega
     have hF : F = orF (0, 0) (orF (qaf5 p) (orF (qadc p) (qafl p))) := by rw [h2, List.drop_length]; exact qbee _
     clear h2 hi h1 hJ
     replace hF := Lib.hid hF
     have hS : F = if decide (5 < (p.tabs.length : Int)) = true then (2, -5) else orF (0, 0) (orF (rowF (fun _ t => tabF p t) 5000 0 (p.tabs.drop 0)) (orF (qadc p) (qafl p))) := by
      rw [hF.out]; unfold qaf5; rw [qaln, show decide (5 < p.tabs.length) = decide (5 < (p.tabs.length : Int)) from decide_eq_decide.2 (by omega)]; rfl
     replace hF := Lib.hid hS
     clear hS
     cases km : decide (5 < (p.tabs.length : Int))
     rotate_left
     ·have hz := hF.out
      rw [km, if_pos rfl] at hz
      replace hz := Lib.hid hz
      repeat' (first | (with_reducible refine zA ?_) | ((with_reducible refine qaac ?_); (try rw [hP]); simp -implicitDefEqProofs [*]) | ((with_reducible refine qaak ?_); (try simp -implicitDefEqProofs [*])) | ((with_reducible refine qaam ?_); (try simp only [qaap, qaag, qaai])) | ((with_reducible refine qaaa rfl (fun h => ?_) (fun h => ?_)) <;> have h' := h <;> (try simp at h') <;> (try subst h')) | (refine qaa0 (rF_s _ _ _) ?_; simp -implicitDefEqProofs [*]) | (refine qaf3 hm rfl rfl (by rw [hP]; exact qabk) (by rw [hP]; exact qabc) rfl (CoL.refl _) (by rw [hz.out]) (fun σ => rfl)) | fail)
     have hz := hF.out
     rw [km, if_neg Bool.false_ne_true] at hz
     replace hF := Lib.hid hz
     clear hz
     repeat' (first | (with_reducible refine zA ?_) | ((with_reducible refine qaac ?_); (try rw [hP]); simp -implicitDefEqProofs [*]) | ((with_reducible first | refine qaaf ?_ | refine qaak ?_); (try simp -implicitDefEqProofs [*])) | ((with_reducible refine qaaa rfl (fun h => ?_) (fun h => ?_)) <;> have h' := h <;> (try simp at h') <;> (try subst h')) | fail)
     clear km
     refine qaal (qaa5 (fun s (i : Nat) => s.turn [(11, .int .i64 i)] []) (fun i => i ≤ p.tabs.length ∧ F = orF (0, 0) (orF (rowF (fun _ t => tabF p t) 5000 i (p.tabs.drop i)) (orF (qadc p) (qafl p)))) (fun i => p.tabs.length - i) 0 ?_ ⟨by simp, hF.out⟩ ?_)
     ·repeat' (first | ((with_reducible refine qaah [] hm ?_ ?_ ?_ ?_) <;> (try simp only [zT, puth, Nat.reduceEqDiff, reduceIte, Nat.reduceAdd])) | (with_reducible first | refine za ?_ ?_ | refine zb ?_ ?_ ?_ ?_) | (with_reducible first | exact qaab | exact qaad) | ((with_reducible first | refine zga ?_ | refine zgb ?_); rfl) | ((with_reducible refine zgd ?_); (first | omega | (simp; done))) | (exact Co.refl _) | (exact CoL.refl _) | fail)
     rintro J hJ i ⟨h1, h2⟩
     unfold qakn
     simp only [zT, puth, Nat.reduceEqDiff, reduceIte, Nat.reduceAdd] at h1 h2 ⊢
     clear hF
     rcases Nat.lt_or_ge i p.tabs.length with hi | hi
     ·rw [qbbu _ _ hi] at h2
      have hxm : p.tabs[i] ∈ p.tabs := List.getElem_mem hi
      have wi : IntKind.i64.wrap ((i : Int) + 1) = (i : Int) + 1 := qaar (by omega) (by omega)
      have wa : IntKind.i64.wrap (5000 + (i : Int)) = 5000 + (i : Int) := qaar (by omega) (by omega)
      have hkw := hs.keys _ hxm
      generalize hxx : p.tabs[i] = x at h2 hxm hkw
      have hlw : (qab0 p x).length ≤ 1000000 := by unfold qab0; rw [List.length_map]; omega
      have hc1 := fun q => qbca x (qab0 p x) p.acts (by omega) (by omega) hlw (by omega) q
      have hc2 := fun q => rin_s (qab0 p x) 0 hlw q
      have hc3 := fun q => qa84 p x (by omega) q
      have hT : tabF p x = if decide (3 < (x.keys.length : Int)) = true then 2 else if (qab0 p x).contains 0 = true then 1 else qadf x (qab0 p x) p.acts := by
       unfold tabF; simp only [decide_eq_true_eq]; congr 1; exact propext (by omega)
      rw [hT] at h2
      clear hT
      generalize qadf x (qab0 p x) p.acts = T at h2 hc1
      generalize (qab0 p x).contains 0 = C at h2 hc2
      generalize qab0 p x = W at hc1 hc2 hc3
      replace h2 := Lib.hid h2
      replace hc1 := Lib.hid hc1
      replace hc3 := Lib.hid hc3
      cases k3 : decide (3 < (x.keys.length : Int))
      rotate_left
      ·have hz : F = (2, 5000 + (i : Int)) := by have := h2.out; rw [k3] at this; exact this
       replace hz := Lib.hid hz
       repeat' (first | (with_reducible first | refine zA ?_ | refine qaae ?_) | ((with_reducible refine qaac ?_); (try rw [hP]); simp -implicitDefEqProofs [*]) | ((with_reducible refine qaaf ?_); (try simp -implicitDefEqProofs [*])) | ((with_reducible refine qaam ?_); (try simp only [qaap, qaag, qaai])) | ((with_reducible refine qaaa rfl (fun h => ?_) (fun h => ?_)) <;> have h' := h <;> (try simp at h') <;> (try subst h')) | (refine qaa0 (rF_s _ _ _) ?_; simp -implicitDefEqProofs [*]) | (refine qaf3 hm rfl rfl (by rw [hP]; exact qabk) (by rw [hP]; exact qabc) rfl (CoL.refl _) (by rw [hz.out]) (fun σ => rfl)) | fail)
      cases kC : C <;> rw [kC] at hc2
      rotate_left
      ·have hz : F = (1, 5000 + (i : Int)) := by have := h2.out; rw [k3, kC] at this; exact this
       replace hz := Lib.hid hz
       repeat' (first | (with_reducible first | refine zA ?_ | refine qaae ?_) | ((with_reducible refine qaac ?_); (try rw [hP]); simp -implicitDefEqProofs [*]) | ((with_reducible refine qaaf ?_); (try simp -implicitDefEqProofs [*])) | ((with_reducible refine qaam ?_); (try simp only [qaap, qaag, qaai])) | ((with_reducible refine qaaa rfl (fun h => ?_) (fun h => ?_)) <;> have h' := h <;> (try simp at h') <;> (try subst h')) | ((first | refine qaa0 (hc3.out _) ?_ | refine qaa0 (hc2 _) ?_ | refine qaa0 (rF_s _ _ _) ?_); simp -implicitDefEqProofs [*]) | (refine qaf3 hm rfl rfl (by rw [hP]; exact qabk) (by rw [hP]; exact qabc) rfl (CoL.refl _) (by rw [hz.out]) (fun σ => rfl)) | fail)
      cases kT : (T != 0)
      ·have kT' : T = 0 := by simpa using kT
       replace kT' := Lib.hid kT'
       repeat' (first | (with_reducible first | refine zA ?_ | refine qaae ?_) | ((with_reducible refine qaac ?_); (try rw [hP]); simp -implicitDefEqProofs [*]) | ((with_reducible refine qaaf ?_); (try simp -implicitDefEqProofs [*])) | ((with_reducible refine qaaa rfl (fun h => ?_) (fun h => ?_)) <;> have h' := h <;> (try simp at h') <;> (try subst h')) | ((first | refine qaa0 (hc3.out _) ?_ | refine qaa0 (hc2 _) ?_ | refine qaa0 (hc1.out _) ?_); simp -implicitDefEqProofs [*]) | (with_reducible first | refine za ?_ ?_ | refine zb ?_ ?_ ?_ ?_) | (with_reducible first | exact qaab | exact qaad) | ((with_reducible first | refine zga ?_ | refine zgb ?_); rfl) | ((with_reducible first | refine zgd ?_ | refine zge ?_); (first | omega | (simp; done))) | (exact Co.refl _) | (exact CoL.refl _) | ((refine qaaj hJ (i + 1) ?_ ?_ ?_; (with_reducible refine qaah [] hm ?_ ?_ ?_ ?_) <;> (try simp only [zT, puth, Nat.reduceEqDiff, reduceIte, Nat.reduceAdd]))) | fail)
       exact ⟨by omega, by have := h2.out; rw [k3, kC, kT'.out] at this; exact this⟩
      ·have kT' : T ≠ 0 := by simpa using kT
       have hz : F = (T, 5000 + (i : Int)) := by have := h2.out; rw [k3, kC] at this; rw [this]; exact if_pos kT'
       replace kT' := Lib.hid kT'
       replace hz := Lib.hid hz
       repeat' (first | (with_reducible first | refine zA ?_ | refine qaae ?_) | ((with_reducible refine qaac ?_); (try rw [hP]); simp -implicitDefEqProofs [*]) | ((with_reducible refine qaaf ?_); (try simp -implicitDefEqProofs [*])) | ((with_reducible refine qaam ?_); (try simp only [qaap, qaag, qaai])) | ((with_reducible refine qaaa rfl (fun h => ?_) (fun h => ?_)) <;> have h' := h <;> (try simp at h') <;> (try subst h')) | ((first | refine qaa0 (hc3.out _) ?_ | refine qaa0 (hc2 _) ?_ | refine qaa0 (hc1.out _) ?_ | refine qaa0 (rF_s _ _ _) ?_); simp -implicitDefEqProofs [*]) | (refine qaf3 hm rfl rfl (by rw [hP]; exact qabk) (by rw [hP]; exact qabc) rfl (CoL.refl _) (by rw [hz.out]) (fun σ => rfl)) | fail)
     ·obtain rfl : i = p.tabs.length := by omega
      have hF : F = orF (0, 0) (orF (qadc p) (qafl p)) := by rw [h2, List.drop_length]; exact qbee _
      clear h2 hi h1 hJ
      replace hF := Lib.hid hF
      have hS : F = if decide (10 < (p.nodes.length : Int)) = true then (2, -6) else orF (0, 0) (orF (rowF (fun i n => qaq1 p i n) 6000 0 (p.nodes.drop 0)) (qafl p)) := by
       rw [hF.out]; unfold qadc; rw [qaln, show decide (10 < p.nodes.length) = decide (10 < (p.nodes.length : Int)) from decide_eq_decide.2 (by omega)]; rfl
      replace hF := Lib.hid hS
      clear hS
      cases km : decide (10 < (p.nodes.length : Int))
      rotate_left
      ·have hz := hF.out
       rw [km, if_pos rfl] at hz
       replace hz := Lib.hid hz
       repeat' (first | (with_reducible refine zA ?_) | ((with_reducible refine qaac ?_); (try rw [hP]); simp -implicitDefEqProofs [*]) | ((with_reducible refine qaak ?_); (try simp -implicitDefEqProofs [*])) | ((with_reducible refine qaam ?_); (try simp only [qaap, qaag, qaai])) | ((with_reducible refine qaaa rfl (fun h => ?_) (fun h => ?_)) <;> have h' := h <;> (try simp at h') <;> (try subst h')) | (refine qaa0 (rF_s _ _ _) ?_; simp -implicitDefEqProofs [*]) | (refine qaf3 hm rfl rfl (by rw [hP]; exact qabk) (by rw [hP]; exact qabc) rfl (CoL.refl _) (by rw [hz.out]) (fun σ => rfl)) | fail)
      have hz := hF.out
      rw [km, if_neg Bool.false_ne_true] at hz
      replace hF := Lib.hid hz
      clear hz
      repeat' (first | (with_reducible refine zA ?_) | ((with_reducible refine qaac ?_); (try rw [hP]); simp -implicitDefEqProofs [*]) | ((with_reducible first | refine qaaf ?_ | refine qaak ?_); (try simp -implicitDefEqProofs [*])) | ((with_reducible refine qaaa rfl (fun h => ?_) (fun h => ?_)) <;> have h' := h <;> (try simp at h') <;> (try subst h')) | fail)
      clear km
      refine qaal (qaa5 (fun s (i : Nat) => s.turn [(15, .int .i64 i)] []) (fun i => i ≤ p.nodes.length ∧ F = orF (0, 0) (orF (rowF (fun i n => qaq1 p i n) 6000 i (p.nodes.drop i)) (qafl p))) (fun i => p.nodes.length - i) 0 ?_ ⟨by simp, hF.out⟩ ?_)
      ·repeat' (first | ((with_reducible refine qaah [] hm ?_ ?_ ?_ ?_) <;> (try simp only [zT, puth, Nat.reduceEqDiff, reduceIte, Nat.reduceAdd])) | (with_reducible first | refine za ?_ ?_ | refine zb ?_ ?_ ?_ ?_) | (with_reducible first | exact qaab | exact qaad) | ((with_reducible first | refine zga ?_ | refine zgb ?_); rfl) | ((with_reducible refine zgd ?_); (first | omega | (simp; done))) | (exact Co.refl _) | (exact CoL.refl _) | fail)
      rintro J hJ i ⟨h1, h2⟩
      unfold qakm
      simp only [zT, puth, Nat.reduceEqDiff, reduceIte, Nat.reduceAdd] at h1 h2 ⊢
      clear hF
      rcases Nat.lt_or_ge i p.nodes.length with hi | hi
      ·rw [qbbu _ _ hi] at h2
       have hxm : p.nodes[i] ∈ p.nodes := List.getElem_mem hi
       have wi : IntKind.i64.wrap ((i : Int) + 1) = (i : Int) + 1 := qaar (by omega) (by omega)
       have wa : IntKind.i64.wrap (6000 + (i : Int)) = 6000 + (i : Int) := qaar (by omega) (by omega)
       have hct := fun q => rnode_s p i hi (by omega) (by have := hs.node _ hxm; omega) q
       generalize hxx : p.nodes[i] = x at h2 hct hxm
       generalize qaq1 p i x = E at h2 hct
       replace h2 := Lib.hid h2
       replace hct := Lib.hid hct
       cases kE : (E != 0)
       ·have kE' : ¬ E ≠ 0 := by simpa using kE
        replace kE' := Lib.hid kE'
        repeat' (first | (with_reducible first | refine zA ?_ | refine qaae ?_) | ((with_reducible refine qaac ?_); (try rw [hP]); simp -implicitDefEqProofs [*]) | ((with_reducible refine qaaf ?_); (try simp -implicitDefEqProofs [*])) | ((with_reducible refine qaaa rfl (fun h => ?_) (fun h => ?_)) <;> have h' := h <;> (try simp at h') <;> (try subst h')) | (refine qaa0 (hct.out _) ?_; simp -implicitDefEqProofs [*]) | (with_reducible first | refine za ?_ ?_ | refine zb ?_ ?_ ?_ ?_) | (with_reducible first | exact qaab | exact qaad) | ((with_reducible first | refine zga ?_ | refine zgb ?_); rfl) | ((with_reducible first | refine zgd ?_ | refine zge ?_); (first | omega | (simp; done))) | (exact Co.refl _) | (exact CoL.refl _) | ((refine qaaj hJ (i + 1) ?_ ?_ ?_; (with_reducible refine qaah [] hm ?_ ?_ ?_ ?_) <;> (try simp only [zT, puth, Nat.reduceEqDiff, reduceIte, Nat.reduceAdd]))) | fail)
        exact ⟨by omega, by rw [h2.out, if_neg kE'.out]⟩
       ·have kE' : E ≠ 0 := by simpa using kE
        have hz := h2.out
        rw [if_pos kE'] at hz
        replace kE' := Lib.hid kE'
        replace hz := Lib.hid hz
        repeat' (first | (with_reducible first | refine zA ?_ | refine qaae ?_) | ((with_reducible refine qaac ?_); (try rw [hP]); simp -implicitDefEqProofs [*]) | ((with_reducible refine qaaf ?_); (try simp -implicitDefEqProofs [*])) | ((with_reducible refine qaam ?_); (try simp only [qaap, qaag, qaai])) | ((with_reducible refine qaaa rfl (fun h => ?_) (fun h => ?_)) <;> have h' := h <;> (try simp at h') <;> (try subst h')) | ((first | refine qaa0 (hct.out _) ?_ | refine qaa0 (rF_s _ _ _) ?_); simp -implicitDefEqProofs [*]) | (refine qaf3 hm rfl rfl (by rw [hP]; exact qabk) (by rw [hP]; exact qabc) rfl (CoL.refl _) (by rw [hz.out]) (fun σ => rfl)) | fail)
      ·obtain rfl : i = p.nodes.length := by omega
       have hF : F = orF (0, 0) (qafl p) := by rw [h2, List.drop_length]; exact qbee _
       clear h2 hi h1 hJ
       replace hF := Lib.hid hF
       have hS : F = if decide (6 < (p.out.length : Int)) = true then (2, -7) else orF (0, 0) (orF (rowF (fun i o => outF p i o) 7000 0 (p.out.drop 0)) (0, 0)) := by
        rw [hF.out, z_last]; unfold qafl; rw [qaln, show decide (6 < p.out.length) = decide (6 < (p.out.length : Int)) from decide_eq_decide.2 (by omega)]; rfl
       replace hF := Lib.hid hS
       clear hS
       cases km : decide (6 < (p.out.length : Int))
       rotate_left
       ·have hz := hF.out
        rw [km, if_pos rfl] at hz
        replace hz := Lib.hid hz
        repeat' (first | (with_reducible refine zA ?_) | ((with_reducible refine qaac ?_); (try rw [hP]); simp -implicitDefEqProofs [*]) | ((with_reducible refine qaak ?_); (try simp -implicitDefEqProofs [*])) | ((with_reducible refine qaam ?_); (try simp only [qaap, qaag, qaai])) | ((with_reducible refine qaaa rfl (fun h => ?_) (fun h => ?_)) <;> have h' := h <;> (try simp at h') <;> (try subst h')) | (refine qaa0 (rF_s _ _ _) ?_; simp -implicitDefEqProofs [*]) | (refine qaf3 hm rfl rfl (by rw [hP]; exact qabk) (by rw [hP]; exact qabc) rfl (CoL.refl _) (by rw [hz.out]) (fun σ => rfl)) | fail)
       have hz := hF.out
       rw [km, if_neg Bool.false_ne_true] at hz
       replace hF := Lib.hid hz
       clear hz
       repeat' (first | (with_reducible refine zA ?_) | ((with_reducible refine qaac ?_); (try rw [hP]); simp -implicitDefEqProofs [*]) | ((with_reducible first | refine qaaf ?_ | refine qaak ?_); (try simp -implicitDefEqProofs [*])) | ((with_reducible refine qaaa rfl (fun h => ?_) (fun h => ?_)) <;> have h' := h <;> (try simp at h') <;> (try subst h')) | fail)
       clear km
       refine qaal (qaa5 (fun s (i : Nat) => s.turn [(17, .int .i64 i)] []) (fun i => i ≤ p.out.length ∧ F = orF (0, 0) (orF (rowF (fun i o => outF p i o) 7000 i (p.out.drop i)) (0, 0))) (fun i => p.out.length - i) 0 ?_ ⟨by simp, hF.out⟩ ?_)
       ·repeat' (first | ((with_reducible refine qaah [] hm ?_ ?_ ?_ ?_) <;> (try simp only [zT, puth, Nat.reduceEqDiff, reduceIte, Nat.reduceAdd])) | (with_reducible first | refine za ?_ ?_ | refine zb ?_ ?_ ?_ ?_) | (with_reducible first | exact qaab | exact qaad) | ((with_reducible first | refine zga ?_ | refine zgb ?_); rfl) | ((with_reducible refine zgd ?_); (first | omega | (simp; done))) | (exact Co.refl _) | (exact CoL.refl _) | fail)
       rintro J hJ i ⟨h1, h2⟩
       unfold qakl
       simp only [zT, puth, Nat.reduceEqDiff, reduceIte, Nat.reduceAdd] at h1 h2 ⊢
       clear hF
       rcases Nat.lt_or_ge i p.out.length with hi | hi
       ·rw [qbbu _ _ hi] at h2
        have hxm : p.out[i] ∈ p.out := List.getElem_mem hi
        have wi : IntKind.i64.wrap ((i : Int) + 1) = (i : Int) + 1 := qaar (by omega) (by omega)
        have wa : IntKind.i64.wrap (7000 + (i : Int)) = 7000 + (i : Int) := qaar (by omega) (by omega)
        have hc2 := fun q => rin_s (p.out.take i) p.out[i] (by rw [List.length_take]; omega) q
        simp only [nums, List.map_take] at hc2
        have hc1 := fun q => qapo p p.out[i] q
        generalize hxx : p.out[i] = x at h2 hc1 hc2 hxm
        unfold outF at h2
        generalize (p.out.take i).contains x = C at h2 hc2
        generalize qacz p x = H at h2 hc1
        have hi' := Nat.le_of_lt hi
        replace h2 := Lib.hid h2
        cases kH : H <;> rw [kH] at hc1
        ·have hz : F = (1, 7000 + (i : Int)) := by have := h2.out; rw [kH] at this; exact this
         replace hz := Lib.hid hz
         repeat' (first | (with_reducible first | refine zA ?_ | refine qaae ?_ | refine zK ?_) | ((with_reducible first | refine qaac ?_ | refine qaa1 (by rw [hP]; exact qacx) ?_); (try rw [hP]); simp -implicitDefEqProofs [*]) | ((with_reducible refine qaaf ?_); (try simp -implicitDefEqProofs [*])) | ((with_reducible refine qaam ?_); (try simp only [qaap, qaag, qaai])) | ((with_reducible refine qaaa rfl (fun h => ?_) (fun h => ?_)) <;> have h' := h <;> (try simp at h') <;> (try subst h')) | ((first | refine qaa0 (hc1 _) ?_ | refine qaa0 (rF_s _ _ _) ?_); simp -implicitDefEqProofs [*]) | (refine qaf3 hm rfl rfl (by rw [hP]; exact qabk) (by rw [hP]; exact qabc) rfl (CoL.refl _) (by rw [hz.out]) (fun σ => rfl)) | fail)
        cases kC : C <;> rw [kC] at hc2
        ·repeat' (first | (with_reducible first | refine zA ?_ | refine qaae ?_ | refine zK ?_) | ((with_reducible first | refine qaac ?_ | refine qaa1 (by rw [hP]; exact qacx) ?_); (try rw [hP]); simp -implicitDefEqProofs [*]) | ((with_reducible refine qaaf ?_); (try simp -implicitDefEqProofs [*])) | ((with_reducible refine qaaa rfl (fun h => ?_) (fun h => ?_)) <;> have h' := h <;> (try simp at h') <;> (try subst h')) | ((first | refine qaa0 (hc1 _) ?_ | refine qaa0 (hc2 _) ?_); simp -implicitDefEqProofs [*]) | (with_reducible first | refine za ?_ ?_ | refine zb ?_ ?_ ?_ ?_) | (with_reducible first | exact qaab | exact qaad) | ((with_reducible first | refine zga ?_ | refine zgb ?_); rfl) | ((with_reducible first | refine zgd ?_ | refine zge ?_); (first | omega | (simp; done))) | (exact Co.refl _) | (exact CoL.refl _) | ((refine qaaj hJ (i + 1) ?_ ?_ ?_; (with_reducible refine qaah [] hm ?_ ?_ ?_ ?_) <;> (try simp only [zT, puth, Nat.reduceEqDiff, reduceIte, Nat.reduceAdd]))) | fail)
         exact ⟨by omega, by have := h2.out; rw [kH, kC] at this; exact this⟩
        ·have hz : F = (7, 7000 + (i : Int)) := by have := h2.out; rw [kH, kC] at this; exact this
         replace hz := Lib.hid hz
         repeat' (first | (with_reducible first | refine zA ?_ | refine qaae ?_ | refine zK ?_) | ((with_reducible first | refine qaac ?_ | refine qaa1 (by rw [hP]; exact qacx) ?_); (try rw [hP]); simp -implicitDefEqProofs [*]) | ((with_reducible refine qaaf ?_); (try simp -implicitDefEqProofs [*])) | ((with_reducible refine qaam ?_); (try simp only [qaap, qaag, qaai])) | ((with_reducible refine qaaa rfl (fun h => ?_) (fun h => ?_)) <;> have h' := h <;> (try simp at h') <;> (try subst h')) | ((first | refine qaa0 (hc1 _) ?_ | refine qaa0 (hc2 _) ?_ | refine qaa0 (rF_s _ _ _) ?_); simp -implicitDefEqProofs [*]) | (refine qaf3 hm rfl rfl (by rw [hP]; exact qabk) (by rw [hP]; exact qabc) rfl (CoL.refl _) (by rw [hz.out]) (fun σ => rfl)) | fail)
       ·obtain rfl : i = p.out.length := by omega
        have hz : F = (0, 0) := by rw [h2, List.drop_length]; rfl
        clear h2
        replace hz := Lib.hid hz
        repeat' (first | (with_reducible refine zA ?_) | ((with_reducible refine qaac ?_); (try rw [hP]); simp -implicitDefEqProofs [*]) | ((with_reducible refine qaak ?_); (try simp -implicitDefEqProofs [*])) | ((with_reducible refine qaam ?_); (try simp only [qaap, qaag, qaai])) | ((with_reducible refine qaaa rfl (fun h => ?_) (fun h => ?_)) <;> have h' := h <;> (try simp at h') <;> (try subst h')) | (refine qaf3 hm rfl rfl (by rw [hP]; exact qabk) (by rw [hP]; exact qabc) rfl (CoL.refl _) (by rw [hz.out]) (fun σ => rfl)) | fail)
end Go.Proofs.Ytnfjldobjgdiaaa
namespace Go.Proofs.Ytnfjldobjgdiaaa
set_option linter.all false
open Go.RowKit
attribute [local simp] qabg qabf qaas qaaz qaat qaay qabd qabe qaao qabn SOp.run SX.ev putd puts argS upds SOp.touch SSt.keep SSt.skip gets geth puth delh idOf SV.cells? setL qac5 qac6 sbin eq0 eq1 eqL qac4 qab1 qab2 qaap qabh qaag qabi qabo qaai qaaq FrzOk qaa9 qaa3 qaa7 qaa8 qaau qaa2 qabl qaa4 qaaw qaba qaav frzS frzH frz frz1 frz0 SlotsM ObjsM ObjM rn ren ren1 ren0 qabu qaca qacf qabt qabm qacg qace CoL qabb qach dels adds idsH qab3
attribute [local simp] qads refc qae3 qaet qacc opc actc tabc qad7 qacu nums wayc setc
def putW (m : List SetsD) (w : WayD) : List SetsD := m.set w.st (qalw (m.getD w.st qadv) (qbbk (w.taken, w.bytes)))
theorem qals (m : List SetsD) (w : WayD) : (putW m w).length = m.length := by simp [putW]
theorem qagd : ∀ (ws : List WayD) (m : List SetsD), (ws.foldl putW m).length = m.length
 | [], _ => rfl
 | w :: ws, m => by rw [List.foldl_cons, qagd ws, qals]
theorem qa1v {n : Nat} : ∀ (ws : List WayD) (m : List SetsD) (P : Nat → TB → Prop), m.length = n + 1 → (∀ w ∈ ws, w.st ≤ n) → (∀ k, k ≤ n → IsO (m.getD k qadv) (P k)) →
  ∀ k, k ≤ n → IsO ((ws.foldl putW m).getD k qadv) (fun y => P k y ∨ ∃ w ∈ ws, w.st = k ∧ y = (w.taken, w.bytes))
 | [], m, P, _, _, h, k, hk => (h k hk).congr fun y => by simp
 | w :: ws, m, P, hm, hw, h, k, hk => by
  rw [List.foldl_cons]
  have hws := hw w (by simp)
  have step : ∀ k, k ≤ n → IsO ((putW m w).getD k qadv) (fun y => P k y ∨ (w.st = k ∧ y = (w.taken, w.bytes))) := fun k hk => by
   unfold putW
   by_cases e : w.st = k
   ·subst e
    rw [List.getD_eq_getElem?_getD, List.getElem?_set_self (by omega), Option.getD_some]
    exact ((h w.st hk).join (is_one (w.taken, w.bytes))).congr fun y => by simp
   ·rw [List.getD_eq_getElem?_getD, List.getElem?_set_ne e, ← List.getD_eq_getElem?_getD]
    exact (h k hk).congr fun y => by simp [e]
  refine (qa1v ws (putW m w) _ (by rw [qals, hm]) (fun v hv => hw v (by simp [hv])) step k hk).congr fun y => ?_
  constructor
  ·rintro ((h1 | ⟨h1, h2⟩) | ⟨v, h1, h2⟩)
   ·exact .inl h1
   ·exact .inr ⟨w, by simp, h1, h2⟩
   ·exact .inr ⟨v, by simp [h1], h2⟩
  ·rintro (h1 | ⟨v, h1, h2⟩)
   ·exact .inl (.inl h1)
   ·rcases List.mem_cons.1 h1 with e | e
    ·subst e; exact .inl (.inr h2)
    ·exact .inr ⟨v, e, h2⟩
theorem qbch {p : PlanD} (hp : PlOk p) : (qa0s p).foldl putW (List.replicate (p.states.length + 1) qadv) = qaix p := by
 obtain ⟨j, hI, _⟩ := qalo hp
 refine List.ext_getElem (by rw [qagd, List.length_replicate]; exact (qac7 p _).symm) fun k h1 h2 => ?_
 rw [qagd, List.length_replicate] at h1
 have a := qa1v (n := p.states.length) (qa0s p) (List.replicate (p.states.length + 1) qadv) (fun _ _ => False) (by simp) (fun w hw => (hI.sound w hw).1) (fun k hk => .inl ⟨by rw [List.getD_eq_getElem?_getD, List.getElem?_replicate, if_pos (by omega)]; rfl, fun _ h => h⟩) k (by omega)
 have b := qae6 hp p.states.length (Nat.le_refl _) k (by omega)
 have e := (a.congr fun y => (Iff.intro (fun h => h.resolve_left id) .inr).trans (ways_rw hp (by omega) y)).uniq b
 rw [List.getD_eq_getElem?_getD, List.getD_eq_getElem?_getD, List.getElem?_eq_getElem (by rw [qagd, List.length_replicate]; omega), List.getElem?_eq_getElem (by rw [qac7]; omega)] at e
 exact e
theorem qa82 {p : PlanD} {i : Nat} (hi : i < p.states.length) : (qaix p)[i]? = some (setAt p i) := by
 have : i < (qaix p).length := by unfold qaix; rw [qac7]; omega
 unfold setAt; rw [List.getD_eq_getElem?_getD, List.getElem?_eq_getElem this]; rfl
set_option maxRecDepth 4000 in
set_option maxHeartbeats 8000000 in
theorem rwalk_s (p : PlanD) (hs : SmallP p) (q : Nat) : SCalls Try.prog 23 [.agg (qacu p)] [] q (.tup [.view 5 ((qapd p).map setc), .agg [.int .i64 (qalp p).1, .int .i64 (qalp p).2]]) [] := by
 refine qabj ?_ (fun _ => rfl) (fun _ => rfl) rfl q
 refine qaax (N := 199) Try.func23 rfl rfl (by kernel_rfl) qamd (by simp) (by repeat' (first | exact trivial | refine And.intro ?_ ?_ | rfl | decide | exact PureR.ren _)) (by repeat' (first | exact trivial | refine And.intro ?_ ?_ | rfl | decide | exact PureR.ren _)) ?_
 rintro X hP hN hm
 unfold c_rwalk
 have hc := fun q => rform_s p hs q
 by_cases h0 : (qafk p).1 = 0
 ·have hp := pok_of h0
  have hF : qalp p = qaew p := by unfold qalp; rw [if_neg (by simpa using h0)]
  have hL : qapd p = if (qaew p).1 ≠ 0 then [] else qaix p := by unfold qapd; rw [hF]
  rw [hF, hL]
  have kc : ((qafk p).1 != 0) = false := by simpa using h0
  generalize qafk p = C at hc kc
  have hn1 : p.states.length ≤ 8 := hp.states.2
  have wn : IntKind.i64.wrap ((p.states.length : Int) + 1) = (p.states.length : Int) + 1 := qaar (by omega) (by omega)
  have hmx : p.states.length + 1 ≤ maxLen := by unfold maxLen; omega
  have hways := fun q => rways_s p hp q
  have hout := qbch hp
  obtain ⟨j, hI, hj⟩ := qalo hp
  have hwl := qbbp hI
  have hws : ∀ w ∈ qa0s p, w.st ≤ p.states.length := fun w hw => (hI.sound w hw).1
  clear hI hj
  have hF0 : qaew p = rowF (fun i s => refC s (setAt p i)) 3000 0 (p.states.drop 0) := rfl
  generalize qaew p = F at hF0
  generalize qa0s p = ws at hways hout hwl hws
  have hrep : List.replicate (p.states.length + 1) [SV.int .u64 0, .int .u64 0, .int .i64 0, .int .i64 0, .bool false] = (List.replicate (p.states.length + 1) qadv).map setc := by rw [List.map_replicate]; rfl
  have hout0 : qaix p = (ws.drop 0).foldl putW (List.replicate (p.states.length + 1) qadv) := hout.symm
  have hrl : (List.replicate (p.states.length + 1) qadv).length = p.states.length + 1 := by simp
  generalize List.replicate (p.states.length + 1) qadv = m0 at hrep hout0 hrl
  clear hF hL h0 hout
  replace hF0 := Lib.hid hF0
  replace hc := Lib.hid hc
  replace hways := Lib.hid hways
  replace hws := Lib.hid hws
  replace hout0 := Lib.hid hout0
  replace hrep := Lib.hid hrep
  replace hp := Lib.hid hp
  replace hrl := Lib.hid hrl
  repeat' (first | (with_reducible refine zA ?_) | ((with_reducible refine qaac ?_); (try rw [hP]); simp -implicitDefEqProofs [*]) | ((with_reducible refine qaaf ?_); (try simp -implicitDefEqProofs [*])) | ((with_reducible refine qaaa rfl (fun h => ?_) (fun h => ?_)) <;> have h' := h <;> (try simp at h') <;> (try subst h')) | ((with_reducible refine qabv ?_ ?_); (first | omega | (unfold maxLen; omega)); simp -implicitDefEqProofs [*]) | ((first | refine qaa0 (hc.out _) ?_ | refine qaa0 (hways.out _) ?_); simp -implicitDefEqProofs [*]) | fail)
  refine qaal (qaa5 (fun s (z : Nat × List SetsD) => s.turn [(7, .int .i64 z.1)] [(31, .row 57 5 (z.2.map setc))]) (fun z => z.1 ≤ ws.length ∧ z.2.length = p.states.length + 1 ∧ qaix p = (ws.drop z.1).foldl putW z.2) (fun z => ws.length - z.1) (0, m0) ?_ ⟨by simp, hrl.out, hout0.out⟩ ?_)
  ·repeat' (first | ((with_reducible refine qaah [] hm ?_ ?_ ?_ ?_) <;> (try simp only [zT, puth, Nat.reduceEqDiff, reduceIte, Nat.reduceAdd])) | (with_reducible first | refine za ?_ ?_ | refine zb ?_ ?_ ?_ ?_ | refine zc ?_ ?_ ?_ ?_) | (with_reducible first | exact qaab | exact qaad) | ((with_reducible first | refine zga ?_ | refine zgb ?_); rfl) | ((with_reducible refine zgd ?_); (first | omega | (simp; done))) | (exact Co.refl _) | (exact CoL.refl _) | fail)
   all_goals (exact hrep.out)
  rintro J hJ ⟨i, m⟩ ⟨h1, hml, h2⟩
  unfold qaki
  simp only [zT, puth, Nat.reduceEqDiff, reduceIte, Nat.reduceAdd] at h1 hml h2 ⊢
  clear hrl hout0 hrep
  rcases Nat.lt_or_ge i ws.length with hi | hi
  ·have hwst := hws.out ws[i] (List.getElem_mem hi)
   have hgw : ws[i]? = some ws[i] := List.getElem?_eq_getElem hi
   rw [List.drop_eq_getElem_cons hi, List.foldl_cons] at h2
   generalize hww : ws[i] = w at hwst hgw h2
   have hstl : w.st < m.length := by omega
   have hstl2 : w.st < p.states.length + 1 := by omega
   have hgy : m[w.st]? = some m[w.st] := List.getElem?_eq_getElem hstl
   have hput : putW m w = m.set w.st (qalw m[w.st] (qbbk (w.taken, w.bytes))) := by
    unfold putW; rw [List.getD_eq_getElem?_getD, hgy]; rfl
   have hpl : (putW m w).length = p.states.length + 1 := by rw [qals, hml]
   have hrow : (m.map setc).set w.st (setc (qalw m[w.st] (qbbk (w.taken, w.bytes)))) = (putW m w).map setc := by rw [hput, List.map_set]
   generalize hyy : m[w.st] = y at hgy hrow
   generalize putW m w = M at h2 hpl hrow
   have hmaplen : (m.map setc).length = p.states.length + 1 := by rw [List.length_map, hml]
   have wi : IntKind.i64.wrap ((i : Int) + 1) = (i : Int) + 1 := qaar (by omega) (by omega)
   clear hput
   replace h2 := Lib.hid h2
   replace hpl := Lib.hid hpl
   replace hrow := Lib.hid hrow
   cases hth : y.there
   ·repeat' (first | (with_reducible first | refine zA ?_ | refine qaae ?_ | refine zK ?_) | ((with_reducible first | refine qaac ?_ | refine qaa1 (by rw [hP]; exact qacx) ?_); (try rw [hP]); simp -implicitDefEqProofs [*]) | ((with_reducible first | refine qaaf ?_ | refine qaak ?_); (try simp -implicitDefEqProofs [*])) | ((with_reducible refine qaaa rfl (fun h => ?_) (fun h => ?_)) <;> have h' := h <;> (try simp at h') <;> (try subst h')) | ((with_reducible refine qabv ?_ ?_); (first | omega | (unfold maxLen; omega)); simp -implicitDefEqProofs [*]) | (with_reducible first | refine za ?_ ?_ | refine zb ?_ ?_ ?_ ?_ | refine zc ?_ ?_ ?_ ?_) | (with_reducible first | exact qaab | exact qaad) | ((with_reducible first | refine zga ?_ | refine zgb ?_); rfl) | ((with_reducible first | refine zgd ?_ | refine zge ?_); (first | omega | (simp; done))) | (exact Co.refl _) | (exact CoL.refl _) | ((refine qaaj hJ (i + 1, M) ?_ ?_ ?_; (with_reducible refine qaah [] hm ?_ ?_ ?_ ?_) <;> (try simp only [zT, puth, Nat.reduceEqDiff, reduceIte, Nat.reduceAdd]))) | fail)
    all_goals first | (exact ⟨by dsimp only; omega, hpl.out, h2.out⟩) | (rw [← hrow.out]; congr 1; simp [qalw, hth, qbbk]; done)
   ·repeat' (first | (with_reducible first | refine zA ?_ | refine qaae ?_ | refine zK ?_) | ((with_reducible first | refine qaac ?_ | refine qaa1 (by rw [hP]; exact qacx) ?_); (try rw [hP]); simp -implicitDefEqProofs [-BitVec.toNat_and, -BitVec.toNat_or, qabp, qabx, List.set_set, List.getElem?_set_self, *]) | ((with_reducible refine qaaf ?_); (try simp -implicitDefEqProofs [-BitVec.toNat_and, -BitVec.toNat_or, qabp, qabx, List.set_set, List.getElem?_set_self, *])) | ((with_reducible refine qaaa rfl (fun h => ?_) (fun h => ?_)) <;> have h' := h <;> (try simp at h') <;> (try subst h')) | ((with_reducible refine qabv ?_ ?_); (first | omega | (unfold maxLen; omega)); simp -implicitDefEqProofs [-BitVec.toNat_and, -BitVec.toNat_or, qabp, qabx, List.set_set, List.getElem?_set_self, *]) | (with_reducible first | refine za ?_ ?_ | refine zb ?_ ?_ ?_ ?_ | refine zc ?_ ?_ ?_ ?_) | (with_reducible first | exact qaab | exact qaad) | ((with_reducible first | refine zga ?_ | refine zgb ?_); rfl) | ((with_reducible first | refine zgd ?_ | refine zge ?_); (first | omega | (simp; done))) | (exact Co.refl _) | (exact CoL.refl _) | ((refine qaaj hJ (i + 1, M) ?_ ?_ ?_; (with_reducible refine qaah [] hm ?_ ?_ ?_ ?_) <;> (try simp only [zT, puth, Nat.reduceEqDiff, reduceIte, Nat.reduceAdd]))) | fail)
    all_goals first | (exact ⟨by dsimp only; omega, hpl.out, h2.out⟩) | (rw [← hrow.out]; congr 1; simp [qalw, hth, qbbk, lo, hi_, *]; done) | (rw [← hrow.out]; congr 1; simp_all [qalw, qbbk, lo, hi_]; done) | (rw [← hrow.out]; congr 1; simp_all [qalw, qbbk, lo, hi_]; omega)
  ·obtain rfl : i = ws.length := by omega
   rw [List.drop_length] at h2
   have h3 : m = qaix p := h2.symm
   subst h3
   clear h2 hws
   repeat' (first | (with_reducible refine zA ?_) | ((with_reducible refine qaac ?_); (try rw [hP]); simp -implicitDefEqProofs [*]) | ((with_reducible refine qaak ?_); (try simp -implicitDefEqProofs [*])) | ((with_reducible refine qaaa rfl (fun h => ?_) (fun h => ?_)) <;> have h' := h <;> (try simp at h') <;> (try subst h')) | fail)
   refine qaal (qaa5 (fun s (i : Nat) => s.turn [(9, .int .i64 i)] []) (fun i => i ≤ p.states.length ∧ F = rowF (fun i s => refC s (setAt p i)) 3000 i (p.states.drop i)) (fun i => p.states.length - i) 0 ?_ ⟨by simp, hF0.out⟩ ?_)
   ·repeat' (first | ((with_reducible refine qaah [] hm ?_ ?_ ?_ ?_) <;> (try simp only [zT, puth, Nat.reduceEqDiff, reduceIte, Nat.reduceAdd])) | (with_reducible first | refine za ?_ ?_ | refine zb ?_ ?_ ?_ ?_ | refine zc ?_ ?_ ?_ ?_) | (with_reducible first | exact qaab | exact qaad) | ((with_reducible first | refine zga ?_ | refine zgb ?_); rfl) | ((with_reducible refine zgc ?_); (first | (with_reducible rfl) | rfl | (simp; done))) | ((with_reducible refine zgd ?_); (first | omega | (simp; done))) | (exact Co.refl _) | (exact CoL.refl _) | fail)
   rintro J hJ i ⟨h1, h2⟩
   unfold qakh
   simp only [zT, puth, Nat.reduceEqDiff, reduceIte, Nat.reduceAdd] at h1 h2 ⊢
   clear hF0
   have hmaplen : ((qaix p).map setc).length = p.states.length + 1 := by rw [List.length_map, hml]
   rcases Nat.lt_or_ge i p.states.length with hi | hi
   ·rw [qadd _ _ hi] at h2
    have hga := qa82 hi
    have ok := hp.out.ok i hi
    have hhd := ok.head
    have hon := ok.on
    have hh6 := hp.out.heads
    clear ok
    have hil : i < (qaix p).length := by omega
    have hga2 : (qaix p)[i] = setAt p i := by rw [List.getElem?_eq_getElem hil] at hga; exact Option.some.inj hga
    generalize setAt p i = y at h2 hga hga2
    generalize hxx : p.states[i] = x at h2 hhd hon
    have wi : IntKind.i64.wrap ((i : Int) + 1) = (i : Int) + 1 := qaar (by omega) (by omega)
    have wa : IntKind.i64.wrap (3000 + (i : Int)) = 3000 + (i : Int) := qaar (by omega) (by omega)
    have kn : decide (0 < x.cases_.length) = decide (0 < (x.cases_.length : Int)) := decide_eq_decide.2 (by omega)
    cases hth : y.there
    ·have hC : refC x y = 0 := by unfold refC; rw [if_pos hth]
     rw [hC, if_neg (by decide)] at h2
     replace h2 := Lib.hid h2
     replace hon := Lib.hid hon
     repeat' (first | (with_reducible first | refine zA ?_ | refine qaae ?_) | ((with_reducible refine qaac ?_); (try rw [hP]); simp -implicitDefEqProofs [*]) | ((with_reducible first | refine qaaf ?_ | refine qaak ?_); (try simp -implicitDefEqProofs [*])) | ((with_reducible refine qaaa rfl (fun h => ?_) (fun h => ?_)) <;> have h' := h <;> (try simp at h') <;> (try subst h')) | ((with_reducible refine qabv ?_ ?_); (first | omega | (unfold maxLen; omega)); simp -implicitDefEqProofs [*]) | (with_reducible first | refine za ?_ ?_ | refine zb ?_ ?_ ?_ ?_ | refine zc ?_ ?_ ?_ ?_) | (with_reducible first | exact qaab | exact qaad) | ((with_reducible first | refine zga ?_ | refine zgb ?_); rfl) | ((with_reducible refine zgc ?_); (first | (with_reducible rfl) | rfl | (simp; done))) | ((with_reducible first | refine zgd ?_ | refine zge ?_); (first | omega | (simp; done))) | (exact Co.refl _) | (exact CoL.refl _) | ((refine qaaj hJ (i + 1) ?_ ?_ ?_; (with_reducible refine qaah [] hm ?_ ?_ ?_ ?_) <;> (try simp only [zT, puth, Nat.reduceEqDiff, reduceIte, Nat.reduceAdd]))) | fail)
     all_goals (exact ⟨by omega, h2.out⟩)
    ·have hC : refC x y = if (decide (0 ≤ x.head) && (y.may &&& bitB x.head != 0)) = true then 7 else if (decide (0 < x.cases_.length) && (decide (0 ≤ x.on.h) && (x.on.h != x.head && (y.must &&& bitB x.on.h == 0)))) = true then 12 else 0 := by unfold refC; rw [if_neg (by rw [hth]; decide)]
     have hbh := fun (h0 : 0 ≤ x.head) q => qbce x.head h0 (by omega) q
     have hbo := fun (h0 : 0 ≤ x.on.h) (h1 : x.on.h < p.heads.length) q => qbce x.on.h h0 (by omega) q
     generalize refC x y = E at hC h2
     replace hbh := Lib.hid hbh
     replace hbo := Lib.hid hbo
     replace hon := Lib.hid hon
     cases kA : (decide (0 ≤ x.head) && (y.may &&& bitB x.head != 0))
     ·rw [kA, if_neg (by decide)] at hC
      cases kB : (decide (0 < x.cases_.length) && (decide (0 ≤ x.on.h) && (x.on.h != x.head && (y.must &&& bitB x.on.h == 0))))
      ·rw [kB, if_neg (by decide)] at hC
       rw [hC, if_neg (by decide)] at h2
       replace h2 := Lib.hid h2
       replace kB := Lib.hid kB
       replace kA := Lib.hid kA
       clear hC
       cases kh : decide (0 ≤ x.head)
       all_goals cases kc : decide (0 < (x.cases_.length : Int)) <;> rw [kc] at kn
       all_goals cases ko : decide (0 ≤ x.on.h)
       all_goals cases k2 : (x.on.h != x.head)
       all_goals
        have k1 : decide (0 ≤ x.head) = true → (y.may &&& bitB x.head != 0) = false := fun h => by have := kA.out; rw [h, Bool.true_and] at this; exact this
        have k3 : decide (0 < x.cases_.length) = true → decide (0 ≤ x.on.h) = true → (x.on.h != x.head) = true → (y.must &&& bitB x.on.h == 0) = false := fun h h' h'' => by have := kB.out; rw [h, h', h'', Bool.true_and, Bool.true_and, Bool.true_and] at this; exact this
        first
        | (have k1' := k1 kh
           simp only [BitVec.ofNat_eq_ofNat] at k1') | skip
        first
        | (have k3' := k3 kn ko k2
           simp only [BitVec.ofNat_eq_ofNat] at k3') | skip
        clear k1 k3
        repeat' (first | (with_reducible first | refine zA ?_ | refine qaae ?_ | refine zK ?_) | ((with_reducible first | refine qaac ?_ | refine qaa1 (by rw [hP]; exact qacx) ?_); (try rw [hP]); simp -implicitDefEqProofs [-BitVec.toNat_and, -BitVec.toNat_or, qabp, qabx, qact, qac1, *]) | ((with_reducible refine qaaf ?_); (try simp -implicitDefEqProofs [-BitVec.toNat_and, -BitVec.toNat_or, qabp, qabx, qact, qac1, *])) | ((with_reducible refine qaaa rfl (fun h => ?_) (fun h => ?_)) <;> have h' := h <;> (try simp at h') <;> (try subst h')) | ((with_reducible refine qabv ?_ ?_); (first | omega | (unfold maxLen; omega)); simp -implicitDefEqProofs [-BitVec.toNat_and, -BitVec.toNat_or, qabp, qabx, qact, qac1, *]) | ((first | refine qaa0 (hbh.out (of_decide_eq_true kh) _) ?_ | refine qaa0 (hbo.out (of_decide_eq_true ko) (hon.out (by have := of_decide_eq_true kc; omega)) _) ?_); simp -implicitDefEqProofs [-BitVec.toNat_and, -BitVec.toNat_or, qabp, qabx, qact, qac1, *]) | (with_reducible first | refine za ?_ ?_ | refine zb ?_ ?_ ?_ ?_ | refine zc ?_ ?_ ?_ ?_) | (with_reducible first | exact qaab | exact qaad) | ((with_reducible first | refine zga ?_ | refine zgb ?_); rfl) | ((with_reducible refine zgc ?_); (first | (with_reducible rfl) | rfl | (simp; done))) | ((with_reducible first | refine zgd ?_ | refine zge ?_); (first | omega | (simp; done))) | (exact Co.refl _) | (exact CoL.refl _) | ((refine qaaj hJ (i + 1) ?_ ?_ ?_; (with_reducible refine qaah [] hm ?_ ?_ ?_ ?_) <;> (try simp only [zT, puth, Nat.reduceEqDiff, reduceIte, Nat.reduceAdd]))) | fail)
        all_goals (exact ⟨by omega, h2.out⟩)
      ·rw [kB, if_pos rfl] at hC
       have hz : F = (12, 3000 + (i : Int)) := by rw [h2, hC]; exact if_pos (by decide)
       clear h2 hC
       replace hz := Lib.hid hz
       rw [Bool.and_eq_true, Bool.and_eq_true, Bool.and_eq_true] at kB
       obtain ⟨k5, k6, k7, k8⟩ := kB
       rw [k5] at kn
       replace kn := kn.symm
       have hol := hon.out (of_decide_eq_true k5)
       have h6 := of_decide_eq_true k6
       have kz : (((y.must &&& bitB x.on.h).toNat : Nat) : Int) = 0 := by have := qac1 (y.must &&& bitB x.on.h); rw [k8] at this; simpa using this
       replace k8 := Lib.hid k8
       replace kA := Lib.hid kA
       replace hol := Lib.hid hol
       replace h6 := Lib.hid h6
       cases kh : decide (0 ≤ x.head)
       all_goals
        have k1 : decide (0 ≤ x.head) = true → (y.may &&& bitB x.head != 0) = false := fun h => by have := kA.out; rw [h, Bool.true_and] at this; exact this
        first
        | (have k1' := k1 kh
           simp only [BitVec.ofNat_eq_ofNat] at k1') | skip
        clear k1
        repeat' (first | (with_reducible first | refine zA ?_ | refine qaae ?_ | refine zK ?_) | ((with_reducible first | refine qaac ?_ | refine qaa1 (by rw [hP]; exact qacx) ?_); (try rw [hP]); simp -implicitDefEqProofs [-BitVec.toNat_and, -BitVec.toNat_or, qabp, qabx, qact, *]) | ((with_reducible refine qaaf ?_); (try simp -implicitDefEqProofs [-BitVec.toNat_and, -BitVec.toNat_or, qabp, qabx, qact, *])) | ((with_reducible refine qaam ?_); (try simp only [qaap, qaag, qaai])) | ((with_reducible refine qaaa rfl (fun h => ?_) (fun h => ?_)) <;> have h' := h <;> (try simp at h') <;> (try subst h')) | ((with_reducible refine qabv ?_ ?_); (first | omega | (unfold maxLen; omega)); simp -implicitDefEqProofs [-BitVec.toNat_and, -BitVec.toNat_or, qabp, qabx, qact, *]) | ((first | refine qaa0 (hbh.out (of_decide_eq_true kh) _) ?_ | refine qaa0 (hbo.out h6.out hol.out _) ?_ | refine qaa0 (rF_s _ _ _) ?_); simp -implicitDefEqProofs [-BitVec.toNat_and, -BitVec.toNat_or, qabp, qabx, qact, *]) | (refine qagr hm (by decide) rfl (Co.nilsl 5) (qad2 _ _) rfl rfl (by rw [hP]; exact qabk) (by rw [hP]; exact qabc) rfl (CoL.refl _) (by rw [hz.out]; rfl) (fun σ => rfl)) | fail)
     ·rw [kA, if_pos rfl] at hC
      have hz : F = (7, 3000 + (i : Int)) := by rw [h2, hC]; exact if_pos (by decide)
      clear h2 hC
      replace hz := Lib.hid hz
      rw [Bool.and_eq_true] at kA
      obtain ⟨k5, k6⟩ := kA
      have h5 := of_decide_eq_true k5
      simp only [BitVec.ofNat_eq_ofNat] at k6
      replace h5 := Lib.hid h5
      repeat' (first | (with_reducible first | refine zA ?_ | refine qaae ?_ | refine zK ?_) | ((with_reducible first | refine qaac ?_ | refine qaa1 (by rw [hP]; exact qacx) ?_); (try rw [hP]); simp -implicitDefEqProofs [-BitVec.toNat_and, -BitVec.toNat_or, qabp, qabx, qact, qac1, *]) | ((with_reducible refine qaaf ?_); (try simp -implicitDefEqProofs [-BitVec.toNat_and, -BitVec.toNat_or, qabp, qabx, qact, qac1, *])) | ((with_reducible refine qaam ?_); (try simp only [qaap, qaag, qaai])) | ((with_reducible refine qaaa rfl (fun h => ?_) (fun h => ?_)) <;> have h' := h <;> (try simp at h') <;> (try subst h')) | ((with_reducible refine qabv ?_ ?_); (first | omega | (unfold maxLen; omega)); simp -implicitDefEqProofs [-BitVec.toNat_and, -BitVec.toNat_or, qabp, qabx, qact, qac1, *]) | ((first | refine qaa0 (hbh.out h5.out _) ?_ | refine qaa0 (rF_s _ _ _) ?_); simp -implicitDefEqProofs [-BitVec.toNat_and, -BitVec.toNat_or, qabp, qabx, qact, qac1, *]) | (refine qagr hm (by decide) rfl (Co.nilsl 5) (qad2 _ _) rfl rfl (by rw [hP]; exact qabk) (by rw [hP]; exact qabc) rfl (CoL.refl _) (by rw [hz.out]; rfl) (fun σ => rfl)) | fail)
   ·obtain rfl : i = p.states.length := by omega
    rw [List.drop_length] at h2
    have hz : F = (0, 0) := h2
    subst hz
    clear h2
    replace hp := Lib.hid hp
    repeat' (first | ((with_reducible refine qac2 (c := .seq (.reg false qahw [2, 3]) .ret) ?_)) | (with_reducible refine zA ?_) | ((with_reducible refine qaac ?_); (try rw [hP]); simp -implicitDefEqProofs [*]) | ((with_reducible refine qaak ?_); (try simp -implicitDefEqProofs [*])) | ((with_reducible refine qaaa rfl (fun h => ?_) (fun h => ?_)) <;> have h' := h <;> (try simp at h') <;> (try subst h')) | fail)
    constructor
    refine qado [31] ?_ ?_
    ·simp only [FrzOk, geth, Nat.reduceEqDiff, reduceIte, qady, and_true]
    have htk : ((qaix p).map setc).take (p.states.length + 1) = (qaix p).map setc := List.take_of_length_le (by rw [hmaplen]; exact Nat.le_refl _)
    simp -implicitDefEqProofs [htk, hmaplen, Nat.le_refl]
    repeat' (first | (with_reducible refine zA ?_) | ((with_reducible refine qaac ?_); (try rw [hP]); simp -implicitDefEqProofs [*]) | ((with_reducible refine qaam ?_); (try simp only [qaap, qaag, qaai])) | (refine qagr hm (by decide) rfl (Co.refl _) (qad2 _ _) rfl rfl (by rw [hP]; exact qabk) (by rw [hP]; exact qabc) rfl (CoL.refl _) ?_ (fun σ => rfl)) | fail)
    all_goals rfl
 ·have hF : qalp p = qafk p := by unfold qalp; rw [if_pos h0]
  have hL : qapd p = [] := by unfold qapd; rw [hF, if_pos h0]
  rw [hF, hL]
  have kc : ((qafk p).1 != 0) = true := by simpa using h0
  generalize qafk p = C at hc kc
  replace hc := Lib.hid hc
  clear hF hL h0
  repeat' (first | (with_reducible first | refine zA ?_ | refine zK ?_) | ((with_reducible first | refine qaac ?_ | refine qaa1 (by rw [hP]; exact qacx) ?_); (try rw [hP]); simp -implicitDefEqProofs [*]) | ((with_reducible refine qaam ?_); (try simp only [qaap, qaag, qaai])) | ((with_reducible refine qaaa rfl (fun h => ?_) (fun h => ?_)) <;> have h' := h <;> (try simp at h') <;> (try subst h')) | (refine qaa0 (hc.out _) ?_; simp -implicitDefEqProofs [*]) | (refine qagr hm (by decide) rfl (Co.nilsl 5) (qad2 _ _) rfl rfl (by rw [hP]; exact qabk) (by rw [hP]; exact qabc) rfl (CoL.refl _) rfl (fun σ => rfl)) | fail)
end Go.Proofs.Ytnfjldobjgdiaaa
namespace Go.Proofs.Ytnfjldobjgdiaaa
set_option linter.all false
open Go.RowKit
attribute [local simp] qabg qabf qaas qaaz qaat qaay qabd qabe qaao qabn SOp.run SX.ev putd puts argS upds SOp.touch SSt.keep SSt.skip gets geth puth delh idOf SV.cells? setL qac5 qac6 sbin eq0 eq1 eqL qac4 qab1 qab2 qaap qabh qaag qabi qabo qaai qaaq FrzOk qaa9 qaa3 qaa7 qaa8 qaau qaa2 qabl qaa4 qaaw qaba qaav frzS frzH frz frz1 frz0 SlotsM ObjsM ObjM rn ren ren1 ren0 qabu qaca qacf qabt qabm qacg qace CoL qabb qach dels adds idsH qab3
instance pureR_nil : PureR [] := ⟨fun _ => rfl, fun x hx => (by cases hx), fun x hx => (by cases hx)⟩
end Go.Proofs.Ytnfjldobjgdiaaa
namespace Go.Proofs.Ytnfjldobjgdiaaa
set_option linter.all false
open Go.RowKit
attribute [local simp] qabg qabf qaas qaaz qaat qaay qabd qabe qaao qabn SOp.run SX.ev putd puts argS upds SOp.touch SSt.keep SSt.skip gets geth puth delh idOf SV.cells? setL qac5 qac6 sbin eq0 eq1 eqL qac4 qab1 qab2 qaap qabh qaag qabi qabo qaai qaaq FrzOk qaa9 qaa3 qaa7 qaa8 qaau qaa2 qabl qaa4 qaaw qaba qaav frzS frzH frz frz1 frz0 SlotsM ObjsM ObjM rn ren ren1 ren0 qabu qaca qacf qabt qabm qacg qace CoL qabb qach dels adds idsH qab3
attribute [local simp] qads refc qae3 qaet qacc opc actc tabc qad7 qacu nums
def qbeh (h : HeadD) : Bool := decide (500 < (h.w.length : Int))
def qai6 (s : StateD) : Bool := decide (500 < (s.cases_.length : Int))
def gOp (o : OpD) : Bool := decide (500 < (o.e.length : Int))
def gAct (a : ActD) : Bool := decide (500 < (a.w.length : Int)) || decide (50 < (a.ops.length : Int)) || a.ops.any gOp
def gTab (t : TabD) : Bool := decide (500 < (t.keys.length : Int)) || decide (500 < (t.acts.length : Int)) || decide (500 < (t.args.length : Int))
def qalm (n : NodeD) : Bool := decide (500 < (n.e.length : Int))
def gTop (p : PlanD) : Bool := decide (50 < (p.heads.length : Int)) || decide (500 < (p.meta_.length : Int)) || decide (50 < (p.states.length : Int)) || decide (50 < (p.acts.length : Int)) || decide (50 < (p.tabs.length : Int)) || decide (50 < (p.nodes.length : Int)) || decide (500 < (p.out.length : Int))
def qaij (p : PlanD) : Bool := gTop p || (p.heads.any qbeh || (p.states.any qai6 || (p.acts.any gAct || (p.tabs.any gTab || p.nodes.any qalm))))
theorem qbb5 {p : PlanD} (h : qaij p = false) : SmallP p := by
 unfold qaij at h
 simp only [Bool.or_eq_false_iff, List.any_eq_false] at h
 obtain ⟨h0, h1, h2, h3, h4, h5⟩ := h
 unfold gTop at h0
 simp only [Bool.or_eq_false_iff, decide_eq_false_iff_not] at h0
 obtain ⟨⟨⟨⟨⟨⟨a1, a2⟩, a3⟩, a4⟩, a5⟩, a6⟩, a7⟩ := h0
 refine ⟨by omega, by omega, by omega, by omega, by omega, by omega, by omega, fun x hx => ?_, fun x hx => ?_, fun x hx => ?_, fun x hx => ?_, fun x hx o ho => ?_, fun x hx => ?_, fun x hx => ?_⟩
 ·have := h1 x hx; unfold qbeh at this; rw [decide_eq_true_eq] at this; omega
 ·have := h2 x hx; unfold qai6 at this; rw [decide_eq_true_eq] at this; omega
 ·have := h3 x hx; unfold gAct at this; simp only [Bool.or_eq_true, decide_eq_true_eq] at this; omega
 ·have := h3 x hx; unfold gAct at this; simp only [Bool.or_eq_true, decide_eq_true_eq] at this; omega
 ·have := h3 x hx; unfold gAct at this; simp only [Bool.or_eq_true, decide_eq_true_eq, List.any_eq_true, not_or] at this
  have q : ¬ gOp o = true := fun hg => this.2 ⟨o, ho, hg⟩
  unfold gOp at q; rw [decide_eq_true_eq] at q; omega
 ·have := h4 x hx; unfold gTab at this; simp only [Bool.or_eq_true, decide_eq_true_eq] at this; omega
 ·have := h5 x hx; unfold qalm at this; rw [decide_eq_true_eq] at this; omega
set_option maxHeartbeats 8000000 in
theorem gplan_s (p : PlanD) (q : Nat) : SCalls Try.prog 8 [.agg (qacu p)] [] q (.bool (qaij p)) [] := by
 refine qabj ?_ (fun _ => rfl) (fun _ => rfl) rfl q
 refine qaax (N := 177) Try.func8 rfl rfl (by kernel_rfl) qamw (by simp) (by repeat' (first | exact trivial | refine And.intro ?_ ?_ | rfl | decide | exact PureR.ren _)) (by repeat' (first | exact trivial | refine And.intro ?_ ?_ | rfl | decide | exact PureR.ren _)) ?_
 rintro X hP hN hm
 unfold c_gplan
 cases hT : gTop p
 ·have hF : qaij p = ((p.heads.drop 0).any qbeh || (p.states.any qai6 || (p.acts.any gAct || (p.tabs.any gTab || p.nodes.any qalm)))) := by unfold qaij; rw [hT]; rfl
  generalize qaij p = F at hF
  have a := hT
  unfold gTop at a
  simp only [Bool.or_eq_false_iff] at a
  obtain ⟨⟨⟨⟨⟨⟨a1, a2⟩, a3⟩, a4⟩, a5⟩, a6⟩, a7⟩ := a
  have b1 := of_decide_eq_false a1
  have b3 := of_decide_eq_false a3
  have b4 := of_decide_eq_false a4
  have b5 := of_decide_eq_false a5
  have b6 := of_decide_eq_false a6
  clear hT
  replace b1 := Lib.hid b1
  replace b3 := Lib.hid b3
  replace b4 := Lib.hid b4
  replace b5 := Lib.hid b5
  replace b6 := Lib.hid b6
  replace hF := Lib.hid hF
  repeat' (first | (with_reducible refine zA ?_) | ((with_reducible refine qaac ?_); (try rw [hP]); simp -implicitDefEqProofs [*]) | ((with_reducible refine qaaf ?_); (try simp -implicitDefEqProofs [*])) | ((with_reducible refine qaaa rfl (fun h => ?_) (fun h => ?_)) <;> have h' := h <;> (try simp at h') <;> (try subst h')) | fail)
  clear a1 a2 a3 a4 a5 a6 a7
  refine qaal (qaa5 (fun s (i : Nat) => s.turn [(3, .int .i64 i)] []) (fun i => i ≤ p.heads.length ∧ F = ((p.heads.drop i).any qbeh || (p.states.any qai6 || (p.acts.any gAct || (p.tabs.any gTab || p.nodes.any qalm))))) (fun i => p.heads.length - i) 0 ?_ ⟨by simp, hF.out⟩ ?_)
  ·repeat' (first | ((with_reducible refine qaah [] hm ?_ ?_ ?_ ?_) <;> (try simp only [zT, puth, Nat.reduceEqDiff, reduceIte, Nat.reduceAdd])) | (with_reducible first | refine za ?_ ?_ | refine zb ?_ ?_ ?_ ?_) | (with_reducible first | exact qaab | exact qaad) | ((with_reducible first | refine zga ?_ | refine zgb ?_); rfl) | ((with_reducible refine zgd ?_); (first | omega | (simp; done))) | (exact Co.refl _) | (exact CoL.refl _) | fail)
  rintro J hJ i ⟨h1, h2⟩
  have hbb := b1.out
  clear hF
  unfold qalg
  simp only [zT, puth, Nat.reduceEqDiff, reduceIte, Nat.reduceAdd] at h1 h2 ⊢
  rcases Nat.lt_or_ge i p.heads.length with hi | hi
  ·rw [qadi _ hi] at h2
   generalize hxx : p.heads[i] = x at h2
   have wi : IntKind.i64.wrap ((i : Int) + 1) = (i : Int) + 1 := qaar (by omega) (by omega)
   cases hv : qbeh x <;> rw [hv] at h2 <;> replace h2 := Lib.hid h2 <;> unfold qbeh at hv
   ·repeat' (first | (with_reducible first | refine zA ?_ | refine qaae ?_) | ((with_reducible refine qaac ?_); (try rw [hP]); simp -implicitDefEqProofs [qabz, *]) | ((with_reducible refine qaaf ?_); (try simp -implicitDefEqProofs [qabz, *])) | ((with_reducible refine qaaa rfl (fun h => ?_) (fun h => ?_)) <;> have h' := h <;> (try simp at h') <;> (try subst h')) | (with_reducible first | refine za ?_ ?_ | refine zb ?_ ?_ ?_ ?_) | (with_reducible first | exact qaab | exact qaad) | ((with_reducible first | refine zga ?_ | refine zgb ?_); rfl) | ((with_reducible first | refine zgd ?_ | refine zge ?_); (first | omega | (simp; done))) | (exact Co.refl _) | (exact CoL.refl _) | ((refine qaaj hJ (i + 1) ?_ ?_ ?_; (with_reducible refine qaah [] hm ?_ ?_ ?_ ?_) <;> (try simp only [zT, puth, Nat.reduceEqDiff, reduceIte, Nat.reduceAdd]))) | fail)
    exact ⟨by omega, by rw [h2.out, Bool.false_or]⟩
   ·repeat' (first | (with_reducible first | refine zA ?_ | refine qaae ?_) | ((with_reducible refine qaac ?_); (try rw [hP]); simp -implicitDefEqProofs [qabz, *]) | ((with_reducible refine qaaf ?_); (try simp -implicitDefEqProofs [qabz, *])) | ((with_reducible refine qaam ?_); (try simp only [qaap, qaag, qaai])) | ((with_reducible refine qaaa rfl (fun h => ?_) (fun h => ?_)) <;> have h' := h <;> (try simp at h') <;> (try subst h')) | (with_reducible refine zN hm ?_) | fail)
    rw [h2.out]; rfl
  ·obtain rfl : i = p.heads.length := by omega
   have hF : F = ((p.states.drop 0).any qai6 || (p.acts.any gAct || (p.tabs.any gTab || p.nodes.any qalm))) := by rw [h2, List.drop_length]; rfl
   clear h2 h1 hi hbb hJ
   replace hF := Lib.hid hF
   repeat' (first | (with_reducible refine zA ?_) | ((with_reducible refine qaac ?_); (try rw [hP]); simp -implicitDefEqProofs [*]) | ((with_reducible refine qaak ?_); (try simp -implicitDefEqProofs [*])) | ((with_reducible refine qaaa rfl (fun h => ?_) (fun h => ?_)) <;> have h' := h <;> (try simp at h') <;> (try subst h')) | fail)
   refine qaal (qaa5 (fun s (i : Nat) => s.turn [(4, .int .i64 i)] []) (fun i => i ≤ p.states.length ∧ F = ((p.states.drop i).any qai6 || (p.acts.any gAct || (p.tabs.any gTab || p.nodes.any qalm)))) (fun i => p.states.length - i) 0 ?_ ⟨by simp, hF.out⟩ ?_)
   ·repeat' (first | ((with_reducible refine qaah [] hm ?_ ?_ ?_ ?_) <;> (try simp only [zT, puth, Nat.reduceEqDiff, reduceIte, Nat.reduceAdd])) | (with_reducible first | refine za ?_ ?_ | refine zb ?_ ?_ ?_ ?_) | (with_reducible first | exact qaab | exact qaad) | ((with_reducible first | refine zga ?_ | refine zgb ?_); rfl) | ((with_reducible refine zgd ?_); (first | omega | (simp; done))) | (exact Co.refl _) | (exact CoL.refl _) | fail)
   rintro J hJ i ⟨h1, h2⟩
   have hbb := b3.out
   clear hF
   unfold qalf
   simp only [zT, puth, Nat.reduceEqDiff, reduceIte, Nat.reduceAdd] at h1 h2 ⊢
   rcases Nat.lt_or_ge i p.states.length with hi | hi
   ·rw [qadi _ hi] at h2
    generalize hxx : p.states[i] = x at h2
    have wi : IntKind.i64.wrap ((i : Int) + 1) = (i : Int) + 1 := qaar (by omega) (by omega)
    cases hv : qai6 x <;> rw [hv] at h2 <;> replace h2 := Lib.hid h2 <;> unfold qai6 at hv
    ·repeat' (first | (with_reducible first | refine zA ?_ | refine qaae ?_) | ((with_reducible refine qaac ?_); (try rw [hP]); simp -implicitDefEqProofs [qabz, *]) | ((with_reducible refine qaaf ?_); (try simp -implicitDefEqProofs [qabz, *])) | ((with_reducible refine qaaa rfl (fun h => ?_) (fun h => ?_)) <;> have h' := h <;> (try simp at h') <;> (try subst h')) | (with_reducible first | refine za ?_ ?_ | refine zb ?_ ?_ ?_ ?_) | (with_reducible first | exact qaab | exact qaad) | ((with_reducible first | refine zga ?_ | refine zgb ?_); rfl) | ((with_reducible first | refine zgd ?_ | refine zge ?_); (first | omega | (simp; done))) | (exact Co.refl _) | (exact CoL.refl _) | ((refine qaaj hJ (i + 1) ?_ ?_ ?_; (with_reducible refine qaah [] hm ?_ ?_ ?_ ?_) <;> (try simp only [zT, puth, Nat.reduceEqDiff, reduceIte, Nat.reduceAdd]))) | fail)
     exact ⟨by omega, by rw [h2.out, Bool.false_or]⟩
    ·repeat' (first | (with_reducible first | refine zA ?_ | refine qaae ?_) | ((with_reducible refine qaac ?_); (try rw [hP]); simp -implicitDefEqProofs [qabz, *]) | ((with_reducible refine qaaf ?_); (try simp -implicitDefEqProofs [qabz, *])) | ((with_reducible refine qaam ?_); (try simp only [qaap, qaag, qaai])) | ((with_reducible refine qaaa rfl (fun h => ?_) (fun h => ?_)) <;> have h' := h <;> (try simp at h') <;> (try subst h')) | (with_reducible refine zN hm ?_) | fail)
     rw [h2.out]; rfl
   ·obtain rfl : i = p.states.length := by omega
    have hF : F = ((p.acts.drop 0).any gAct || (p.tabs.any gTab || p.nodes.any qalm)) := by rw [h2, List.drop_length]; rfl
    clear h2 h1 hi hbb hJ
    replace hF := Lib.hid hF
    repeat' (first | (with_reducible refine zA ?_) | ((with_reducible refine qaac ?_); (try rw [hP]); simp -implicitDefEqProofs [*]) | ((with_reducible refine qaak ?_); (try simp -implicitDefEqProofs [*])) | ((with_reducible refine qaaa rfl (fun h => ?_) (fun h => ?_)) <;> have h' := h <;> (try simp at h') <;> (try subst h')) | fail)
    refine qaal (qaa5 (fun s (i : Nat) => s.turn [(5, .int .i64 i)] []) (fun i => i ≤ p.acts.length ∧ F = ((p.acts.drop i).any gAct || (p.tabs.any gTab || p.nodes.any qalm))) (fun i => p.acts.length - i) 0 ?_ ⟨by simp, hF.out⟩ ?_)
    ·repeat' (first | ((with_reducible refine qaah [] hm ?_ ?_ ?_ ?_) <;> (try simp only [zT, puth, Nat.reduceEqDiff, reduceIte, Nat.reduceAdd])) | (with_reducible first | refine za ?_ ?_ | refine zb ?_ ?_ ?_ ?_) | (with_reducible first | exact qaab | exact qaad) | ((with_reducible first | refine zga ?_ | refine zgb ?_); rfl) | ((with_reducible refine zgd ?_); (first | omega | (simp; done))) | (exact Co.refl _) | (exact CoL.refl _) | fail)
    rintro J hJ i ⟨h1, h2⟩
    have hbb := b4.out
    have hJo := hJ
    clear hF
    unfold qald
    simp only [zT, puth, Nat.reduceEqDiff, reduceIte, Nat.reduceAdd] at h1 h2 ⊢
    rcases Nat.lt_or_ge i p.acts.length with hi | hi
    ·rw [qadi _ hi] at h2
     generalize hxx : p.acts[i] = x at h2
     have wi : IntKind.i64.wrap ((i : Int) + 1) = (i : Int) + 1 := qaar (by omega) (by omega)
     unfold gAct at h2
     cases v1 : decide (500 < (x.w.length : Int)) <;> rw [v1] at h2
     rotate_left
     ·rw [Bool.true_or, Bool.true_or, Bool.true_or] at h2
      replace h2 := Lib.hid h2
      repeat' (first | (with_reducible first | refine zA ?_ | refine qaae ?_) | ((with_reducible refine qaac ?_); (try rw [hP]); simp -implicitDefEqProofs [*]) | ((with_reducible refine qaaf ?_); (try simp -implicitDefEqProofs [*])) | ((with_reducible refine qaam ?_); (try simp only [qaap, qaag, qaai])) | ((with_reducible refine qaaa rfl (fun h => ?_) (fun h => ?_)) <;> have h' := h <;> (try simp at h') <;> (try subst h')) | (with_reducible refine zN hm ?_) | fail)
      rw [h2.out]; rfl
     cases v2 : decide (50 < (x.ops.length : Int)) <;> rw [v2] at h2
     rotate_left
     ·rw [Bool.or_true, Bool.true_or, Bool.true_or] at h2
      replace h2 := Lib.hid h2
      repeat' (first | (with_reducible first | refine zA ?_ | refine qaae ?_) | ((with_reducible refine qaac ?_); (try rw [hP]); simp -implicitDefEqProofs [*]) | ((with_reducible refine qaaf ?_); (try simp -implicitDefEqProofs [*])) | ((with_reducible refine qaam ?_); (try simp only [qaap, qaag, qaai])) | ((with_reducible refine qaaa rfl (fun h => ?_) (fun h => ?_)) <;> have h' := h <;> (try simp at h') <;> (try subst h')) | (with_reducible refine zN hm ?_) | fail)
      rw [h2.out]; rfl
     have h3 : F = ((x.ops.drop 0).any gOp || ((p.acts.drop (i + 1)).any gAct || (p.tabs.any gTab || p.nodes.any qalm))) := by rw [h2, Bool.or_assoc, Bool.or_assoc]; rfl
     have b2 := of_decide_eq_false v2
     replace h2 := Lib.hid h2
     replace h3 := Lib.hid h3
     replace b2 := Lib.hid b2
     repeat' (first | (with_reducible first | refine zA ?_ | refine qaae ?_) | ((with_reducible refine qaac ?_); (try rw [hP]); simp -implicitDefEqProofs [*]) | ((with_reducible refine qaaf ?_); (try simp -implicitDefEqProofs [*])) | ((with_reducible refine qaaa rfl (fun h => ?_) (fun h => ?_)) <;> have h' := h <;> (try simp at h') <;> (try subst h')) | fail)
     clear v1 v2
     refine qaal (qaa5 (fun s (k : Nat) => s.turn [(6, .int .i64 k)] []) (fun k => k ≤ x.ops.length ∧ F = ((x.ops.drop k).any gOp || ((p.acts.drop (i + 1)).any gAct || (p.tabs.any gTab || p.nodes.any qalm)))) (fun k => x.ops.length - k) 0 ?_ ⟨by simp, h3.out⟩ ?_)
     ·repeat' (first | ((with_reducible refine qaah [] hm ?_ ?_ ?_ ?_) <;> (try simp only [zT, puth, Nat.reduceEqDiff, reduceIte, Nat.reduceAdd])) | (with_reducible first | refine za ?_ ?_ | refine zb ?_ ?_ ?_ ?_) | (with_reducible first | exact qaab | exact qaad) | ((with_reducible first | refine zga ?_ | refine zgb ?_); rfl) | ((with_reducible refine zgd ?_); (first | omega | (simp; done))) | (exact Co.refl _) | (exact CoL.refl _) | fail)
     rintro J hJ k ⟨h4, h5⟩
     have hb2 := b2.out
     unfold qale
     simp only [zT, puth, Nat.reduceEqDiff, reduceIte, Nat.reduceAdd] at h4 h5 ⊢
     rcases Nat.lt_or_ge k x.ops.length with hk | hk
     ·rw [qadi _ hk] at h5
      generalize hyy : x.ops[k] = y at h5
      have wk1 : IntKind.i64.wrap ((k : Int) + 1) = (k : Int) + 1 := qaar (by omega) (by omega)
      cases hv : gOp y <;> rw [hv] at h5 <;> replace h5 := Lib.hid h5 <;> unfold gOp at hv
      ·repeat' (first | (with_reducible first | refine zA ?_ | refine qaae ?_) | ((with_reducible refine qaac ?_); (try rw [hP]); simp -implicitDefEqProofs [qabz, *]) | ((with_reducible refine qaaf ?_); (try simp -implicitDefEqProofs [qabz, *])) | ((with_reducible refine qaaa rfl (fun h => ?_) (fun h => ?_)) <;> have h' := h <;> (try simp at h') <;> (try subst h')) | (with_reducible first | refine za ?_ ?_ | refine zb ?_ ?_ ?_ ?_) | (with_reducible first | exact qaab | exact qaad) | ((with_reducible first | refine zga ?_ | refine zgb ?_); rfl) | ((with_reducible first | refine zgd ?_ | refine zge ?_); (first | omega | (simp; done))) | (exact Co.refl _) | (exact CoL.refl _) | ((refine qaaj hJ (k + 1) ?_ ?_ ?_; (with_reducible refine qaah [] hm ?_ ?_ ?_ ?_) <;> (try simp only [zT, puth, Nat.reduceEqDiff, reduceIte, Nat.reduceAdd]))) | fail)
       exact ⟨by omega, by rw [h5.out, Bool.false_or]⟩
      ·repeat' (first | (with_reducible first | refine zA ?_ | refine qaae ?_) | ((with_reducible refine qaac ?_); (try rw [hP]); simp -implicitDefEqProofs [qabz, *]) | ((with_reducible refine qaaf ?_); (try simp -implicitDefEqProofs [qabz, *])) | ((with_reducible refine qaam ?_); (try simp only [qaap, qaag, qaai])) | ((with_reducible refine qaaa rfl (fun h => ?_) (fun h => ?_)) <;> have h' := h <;> (try simp at h') <;> (try subst h')) | (with_reducible refine zN hm ?_) | fail)
       rw [h5.out]; rfl
     ·obtain rfl : k = x.ops.length := by omega
      rw [List.drop_length] at h5
      replace h5 := Lib.hid h5
      repeat' (first | (with_reducible refine zA ?_) | ((with_reducible refine qaac ?_); (try rw [hP]); simp -implicitDefEqProofs [*]) | ((with_reducible refine qaak ?_); (try simp -implicitDefEqProofs [*])) | ((with_reducible refine qaaa rfl (fun h => ?_) (fun h => ?_)) <;> have h' := h <;> (try simp at h') <;> (try subst h')) | (with_reducible first | refine za ?_ ?_ | refine zb ?_ ?_ ?_ ?_) | (with_reducible first | exact qaab | exact qaad) | ((with_reducible first | refine zga ?_ | refine zgb ?_); rfl) | ((with_reducible first | refine zgd ?_ | refine zge ?_); (first | omega | (simp; done))) | (exact Co.refl _) | (exact CoL.refl _) | ((refine qaaj hJo (i + 1) ?_ ?_ ?_; (with_reducible refine qaah [] hm ?_ ?_ ?_ ?_) <;> (try simp only [zT, puth, Nat.reduceEqDiff, reduceIte, Nat.reduceAdd]))) | fail)
      exact ⟨by omega, by rw [h5.out]; rfl⟩
    ·obtain rfl : i = p.acts.length := by omega
     have hF : F = ((p.tabs.drop 0).any gTab || p.nodes.any qalm) := by rw [h2, List.drop_length]; rfl
     clear h2 h1 hi hbb hJ hJo
     replace hF := Lib.hid hF
     repeat' (first | (with_reducible refine zA ?_) | ((with_reducible refine qaac ?_); (try rw [hP]); simp -implicitDefEqProofs [*]) | ((with_reducible refine qaak ?_); (try simp -implicitDefEqProofs [*])) | ((with_reducible refine qaaa rfl (fun h => ?_) (fun h => ?_)) <;> have h' := h <;> (try simp at h') <;> (try subst h')) | fail)
     refine qaal (qaa5 (fun s (i : Nat) => s.turn [(7, .int .i64 i)] []) (fun i => i ≤ p.tabs.length ∧ F = ((p.tabs.drop i).any gTab || p.nodes.any qalm)) (fun i => p.tabs.length - i) 0 ?_ ⟨by simp, hF.out⟩ ?_)
     ·repeat' (first | ((with_reducible refine qaah [] hm ?_ ?_ ?_ ?_) <;> (try simp only [zT, puth, Nat.reduceEqDiff, reduceIte, Nat.reduceAdd])) | (with_reducible first | refine za ?_ ?_ | refine zb ?_ ?_ ?_ ?_) | (with_reducible first | exact qaab | exact qaad) | ((with_reducible first | refine zga ?_ | refine zgb ?_); rfl) | ((with_reducible refine zgd ?_); (first | omega | (simp; done))) | (exact Co.refl _) | (exact CoL.refl _) | fail)
     rintro J hJ i ⟨h1, h2⟩
     have hbb := b5.out
     clear hF
     unfold qalc
     simp only [zT, puth, Nat.reduceEqDiff, reduceIte, Nat.reduceAdd] at h1 h2 ⊢
     rcases Nat.lt_or_ge i p.tabs.length with hi | hi
     ·rw [qadi _ hi] at h2
      generalize hxx : p.tabs[i] = x at h2
      have wi : IntKind.i64.wrap ((i : Int) + 1) = (i : Int) + 1 := qaar (by omega) (by omega)
      cases hv : gTab x <;> rw [hv] at h2 <;> replace h2 := Lib.hid h2
      ·unfold gTab at hv
       simp only [Bool.or_eq_false_iff] at hv
       obtain ⟨⟨v1, v2⟩, v3⟩ := hv
       repeat' (first | (with_reducible first | refine zA ?_ | refine qaae ?_) | ((with_reducible refine qaac ?_); (try rw [hP]); simp -implicitDefEqProofs [*]) | ((with_reducible refine qaaf ?_); (try simp -implicitDefEqProofs [*])) | ((with_reducible refine qaaa rfl (fun h => ?_) (fun h => ?_)) <;> have h' := h <;> (try simp at h') <;> (try subst h')) | (with_reducible first | refine za ?_ ?_ | refine zb ?_ ?_ ?_ ?_) | (with_reducible first | exact qaab | exact qaad) | ((with_reducible first | refine zga ?_ | refine zgb ?_); rfl) | ((with_reducible first | refine zgd ?_ | refine zge ?_); (first | omega | (simp; done))) | (exact Co.refl _) | (exact CoL.refl _) | ((refine qaaj hJ (i + 1) ?_ ?_ ?_; (with_reducible refine qaah [] hm ?_ ?_ ?_ ?_) <;> (try simp only [zT, puth, Nat.reduceEqDiff, reduceIte, Nat.reduceAdd]))) | fail)
       exact ⟨by omega, by rw [h2.out, Bool.false_or]⟩
      ·replace hv := Lib.hid hv
       repeat' (first | (with_reducible first | refine zA ?_ | refine qaae ?_) | ((with_reducible refine qaac ?_); (try rw [hP]); simp -implicitDefEqProofs [*]) | ((with_reducible refine qaaf ?_); (try simp -implicitDefEqProofs [*])) | ((with_reducible refine qaam ?_); (try simp only [qaap, qaag, qaai])) | ((with_reducible refine qaaa rfl (fun h => ?_) (fun h => ?_)) <;> have h' := h <;> (try simp at h') <;> (try subst h')) | ((with_reducible refine qaan (fun h => ?_) (fun h => ?_)) <;> have h' := h <;> (try simp at h') <;> (try subst h') <;> simp -implicitDefEqProofs [*]) | (with_reducible refine zN hm ?_) | (with_reducible first | refine za ?_ ?_ | refine zb ?_ ?_ ?_ ?_) | (with_reducible first | exact qaab | exact qaad) | ((with_reducible first | refine zga ?_ | refine zgb ?_); rfl) | ((with_reducible first | refine zgd ?_ | refine zge ?_); (first | omega | (simp; done))) | (exact Co.refl _) | (exact CoL.refl _) | ((refine qaaj hJ (i + 1) ?_ ?_ ?_; (with_reducible refine qaah [] hm ?_ ?_ ?_ ?_) <;> (try simp only [zT, puth, Nat.reduceEqDiff, reduceIte, Nat.reduceAdd]))) | fail)
       all_goals (first | (rw [h2.out]; rfl) | (exfalso; have q := hv.out; unfold gTab at q; simp only [Bool.or_eq_true, decide_eq_true_eq] at q; omega))
     ·obtain rfl : i = p.tabs.length := by omega
      have hF : F = ((p.nodes.drop 0).any qalm || false) := by rw [h2, List.drop_length]; simp
      clear h2 h1 hi hbb hJ
      replace hF := Lib.hid hF
      repeat' (first | (with_reducible refine zA ?_) | ((with_reducible refine qaac ?_); (try rw [hP]); simp -implicitDefEqProofs [*]) | ((with_reducible refine qaak ?_); (try simp -implicitDefEqProofs [*])) | ((with_reducible refine qaaa rfl (fun h => ?_) (fun h => ?_)) <;> have h' := h <;> (try simp at h') <;> (try subst h')) | fail)
      refine qaal (qaa5 (fun s (i : Nat) => s.turn [(8, .int .i64 i)] []) (fun i => i ≤ p.nodes.length ∧ F = ((p.nodes.drop i).any qalm || false)) (fun i => p.nodes.length - i) 0 ?_ ⟨by simp, hF.out⟩ ?_)
      ·repeat' (first | ((with_reducible refine qaah [] hm ?_ ?_ ?_ ?_) <;> (try simp only [zT, puth, Nat.reduceEqDiff, reduceIte, Nat.reduceAdd])) | (with_reducible first | refine za ?_ ?_ | refine zb ?_ ?_ ?_ ?_) | (with_reducible first | exact qaab | exact qaad) | ((with_reducible first | refine zga ?_ | refine zgb ?_); rfl) | ((with_reducible refine zgd ?_); (first | omega | (simp; done))) | (exact Co.refl _) | (exact CoL.refl _) | fail)
      rintro J hJ i ⟨h1, h2⟩
      have hbb := b6.out
      clear hF
      unfold qalb
      simp only [zT, puth, Nat.reduceEqDiff, reduceIte, Nat.reduceAdd] at h1 h2 ⊢
      rcases Nat.lt_or_ge i p.nodes.length with hi | hi
      ·rw [qadi _ hi] at h2
       generalize hxx : p.nodes[i] = x at h2
       have wi : IntKind.i64.wrap ((i : Int) + 1) = (i : Int) + 1 := qaar (by omega) (by omega)
       cases hv : qalm x <;> rw [hv] at h2 <;> replace h2 := Lib.hid h2 <;> unfold qalm at hv
       ·repeat' (first | (with_reducible first | refine zA ?_ | refine qaae ?_) | ((with_reducible refine qaac ?_); (try rw [hP]); simp -implicitDefEqProofs [qabz, *]) | ((with_reducible refine qaaf ?_); (try simp -implicitDefEqProofs [qabz, *])) | ((with_reducible refine qaaa rfl (fun h => ?_) (fun h => ?_)) <;> have h' := h <;> (try simp at h') <;> (try subst h')) | (with_reducible first | refine za ?_ ?_ | refine zb ?_ ?_ ?_ ?_) | (with_reducible first | exact qaab | exact qaad) | ((with_reducible first | refine zga ?_ | refine zgb ?_); rfl) | ((with_reducible first | refine zgd ?_ | refine zge ?_); (first | omega | (simp; done))) | (exact Co.refl _) | (exact CoL.refl _) | ((refine qaaj hJ (i + 1) ?_ ?_ ?_; (with_reducible refine qaah [] hm ?_ ?_ ?_ ?_) <;> (try simp only [zT, puth, Nat.reduceEqDiff, reduceIte, Nat.reduceAdd]))) | fail)
        exact ⟨by omega, by rw [h2.out, Bool.false_or]⟩
       ·repeat' (first | (with_reducible first | refine zA ?_ | refine qaae ?_) | ((with_reducible refine qaac ?_); (try rw [hP]); simp -implicitDefEqProofs [qabz, *]) | ((with_reducible refine qaaf ?_); (try simp -implicitDefEqProofs [qabz, *])) | ((with_reducible refine qaam ?_); (try simp only [qaap, qaag, qaai])) | ((with_reducible refine qaaa rfl (fun h => ?_) (fun h => ?_)) <;> have h' := h <;> (try simp at h') <;> (try subst h')) | (with_reducible refine zN hm ?_) | fail)
        rw [h2.out]; rfl
      ·obtain rfl : i = p.nodes.length := by omega
       rw [List.drop_length] at h2
       replace h2 := Lib.hid h2
       repeat' (first | (with_reducible refine zA ?_) | ((with_reducible refine qaac ?_); (try rw [hP]); simp -implicitDefEqProofs [*]) | ((with_reducible refine qaak ?_); (try simp -implicitDefEqProofs [*])) | ((with_reducible refine qaam ?_); (try simp only [qaap, qaag, qaai])) | ((with_reducible refine qaaa rfl (fun h => ?_) (fun h => ?_)) <;> have h' := h <;> (try simp at h') <;> (try subst h')) | (with_reducible refine zN hm ?_) | fail)
       rw [h2.out]; rfl
 ·have hz : qaij p = true := by unfold qaij; rw [hT]; rfl
  rw [hz]
  replace hT := Lib.hid hT
  repeat' (first | (with_reducible refine zA ?_) | ((with_reducible refine qaac ?_); (try rw [hP]); simp -implicitDefEqProofs [*]) | ((with_reducible refine qaaf ?_); (try simp -implicitDefEqProofs [*])) | ((with_reducible refine qaam ?_); (try simp only [qaap, qaag, qaai])) | ((with_reducible refine qaaa rfl (fun h => ?_) (fun h => ?_)) <;> have h' := h <;> (try simp at h') <;> (try subst h')) | ((with_reducible refine qaan (fun h => ?_) (fun h => ?_)) <;> have h' := h <;> (try simp at h') <;> (try subst h') <;> simp -implicitDefEqProofs [*]) | (with_reducible refine zN hm ?_) | fail)
  all_goals (first | rfl | (exfalso; have q := hT.out; unfold gTop at q; simp only [Bool.or_eq_true, decide_eq_true_eq] at q; omega))
end Go.Proofs.Ytnfjldobjgdiaaa
namespace Go.Proofs.Ytnfjldobjgdiaaa
set_option linter.all false
open Go.RowKit
attribute [local simp] qabg qabf qaas qaaz qaat qaay qabd qabe qaao qabn SOp.run SX.ev putd puts argS upds SOp.touch SSt.keep SSt.skip gets geth puth delh idOf SV.cells? setL qac5 qac6 sbin eq0 eq1 eqL qac4 qab1 qab2 qaap qabh qaag qabi qabo qaai qaaq FrzOk qaa9 qaa3 qaa7 qaa8 qaau qaa2 qabl qaa4 qaaw qaba qaav frzS frzH frz frz1 frz0 SlotsM ObjsM ObjM rn ren ren1 ren0 qabu qaca qacf qabt qabm qacg qace CoL qabb qach dels adds idsH qab3
attribute [local simp] qads refc qae3 qaet qacc opc actc tabc qad7 qacu nums
theorem coL_at : ∀ {xs ys : List SV} {j : Nat} {y : SV}, CoL xs ys → ys[j]? = some y → ∃ x, xs[j]? = some x ∧ Co x y
 | x :: xs, y :: ys, 0, _, h, hy => by cases hy; exact ⟨x, rfl, h.1⟩
 | x :: xs, y :: ys, j + 1, _, h, hy => coL_at (xs := xs) (ys := ys) (j := j) h.2 (by simpa using hy)
 | [], [], _, _, _, hy => by simp at hy
 | [], _ :: _, _, _, h, _ => h.elim
 | _ :: _, [], _, _, h, _ => h.elim
theorem qbbr : ∀ {xs ys : List (List SV)} {j : Nat} {y : List SV}, CoLL xs ys → ys[j]? = some y → ∃ x, xs[j]? = some x ∧ CoL x y
 | x :: xs, y :: ys, 0, _, h, hy => by cases hy; exact ⟨x, rfl, h.1⟩
 | x :: xs, y :: ys, j + 1, _, h, hy => qbbr (xs := xs) (ys := ys) (j := j) h.2 (by simpa using hy)
 | [], [], _, _, _, hy => by simp at hy
 | [], _ :: _, _, _, h, _ => h.elim
 | _ :: _, [], _, _, h, _ => h.elim
theorem qbc8 {z : Nat} {xs ys : List (List SV)} (h : CoLL xs ys) : Co (.view z xs) (.view z ys) := fun w A ρ v hv => by
 cases hv with
 | view0 hc ha =>
  have : ys = [] := List.eq_nil_of_length_eq_zero (by rw [← h.length]; rfl)
  subst this; exact .view0 hc ha
 | view cv hn hc hm hA hb hs h1 h2 ho =>
  refine .view cv (by rw [← h.length]; exact hn) hc hm hA hb (h.sizes hs) (fun i e j x he hx => ?_) (fun i e j x he hx => ?_) (fun i e j x he hx => ?_)
  all_goals
   obtain ⟨e', he', hl⟩ := qbbr h he
   obtain ⟨x', hx', hc'⟩ := coL_at hl hx
  ·exact h1 i e' j x' he' hx'
  ·exact hc' _ _ _ _ (h2 i e' j x' he' hx')
  ·exact ho i e' j x' he' hx'
end Go.Proofs.Ytnfjldobjgdiaaa
namespace Go.Proofs.Ytnfjldobjgdiaaa
set_option linter.all false
open Go.RowKit Go.ChangeShapes Go.WideShapes
attribute [local simp] qabg qabf qaas qaaz qaat qaay qabd qabe qaao qabn SOp.run SX.ev putd puts argS upds SOp.touch SSt.keep SSt.skip gets geth puth delh idOf SV.cells? setL qac5 qac6 sbin eq0 eq1 eqL qac4 qab1 qab2 qaap qabh qaag qabi qabo qaai qaaq FrzOk qaa9 qaa3 qaa7 qaa8 qaau qaa2 qabl qaa4 qaaw qaba qaav frzS frzH frz frz1 frz0 SlotsM ObjsM ObjM rn ren ren1 ren0 qabu qaca qacf qabt qabm qacg qace CoL qabb qach dels adds idsH qab3
attribute [local simp] qads refc qae3 qaet qacc opc actc tabc qad7 qacu nums
theorem opens_ref : Opens Try.prog 31 qagl := by
 have h : Opens Try.prog 31 (Lay.pair (Lay.int .i64) (Lay.int .i64)) :=
  Opens.struct Try.underlying31 (OpensF.cons opensI rfl (OpensF.one opensI rfl)) (by kernel_rfl) (by decide)
 refine h.weak rfl ?_
 rintro w ⟨a, b⟩ cs hr
 exact ⟨⟨a, b⟩, hr⟩
theorem opens_push : Opens Try.prog 97 qafy := by
 have h : Opens Try.prog 97 (Lay.pair i64L (Lay.pair qagl u64L)) :=
  Opens.struct Try.underlying97 (OpensF.cons opensI rfl (OpensF.cons opens_ref rfl (OpensF.one opensU rfl))) (by kernel_rfl) (by decide)
 refine h.weak rfl ?_
 rintro w ⟨a, b, c⟩ cs hr
 exact ⟨⟨a, b, c⟩, hr⟩
theorem qai1 : Opens Try.prog 23 (Lay.slice (Lay.int .i64)) := opensI.slice Try.underlying23 (by kernel_rfl)
theorem opens_head : Opens Try.prog 62 qai5 := by
 have h : Opens Try.prog 62 (Lay.slice i64L) :=
  Opens.struct Try.underlying62 (OpensF.one qai1 rfl) (by kernel_rfl) (by decide)
 refine h.weak rfl ?_
 rintro w a cs hr
 exact ⟨⟨a⟩, hr⟩
theorem opens_case : Opens Try.prog 95 qajt := by
 have h : Opens Try.prog 95 (Lay.pair u64L (Lay.pair u64L i64L)) :=
  Opens.struct Try.underlying95 (OpensF.cons opensU rfl (OpensF.cons opensU rfl (OpensF.one opensI rfl))) (by kernel_rfl) (by decide)
 refine h.weak rfl ?_
 rintro w ⟨a, b, c⟩ cs hr
 exact ⟨⟨a, b, c⟩, hr⟩
set_option maxRecDepth 20000 in
theorem opens_state : Opens Try.prog 65 qagg := by
 have h : Opens Try.prog 65 (Lay.pair i64L (Lay.pair qagl (Lay.pair (Lay.slice qajt) i64L))) :=
  Opens.struct Try.underlying65 (OpensF.cons opensI rfl (OpensF.cons opens_ref rfl (OpensF.cons (opens_case.slice Try.underlying63 (by kernel_rfl)) rfl (OpensF.one opensI rfl)))) (by kernel_rfl) (by decide)
 refine h.weak rfl ?_
 rintro w ⟨a, b, c, d⟩ cs hr
 exact ⟨⟨a, b, c, d⟩, hr⟩
theorem qagm : Opens Try.prog 69 (Lay.slice qafy) := opens_push.slice Try.underlying69 (by kernel_rfl)
set_option maxRecDepth 20000 in
theorem opens_op : Opens Try.prog 71 opLay := by
 have h : Opens Try.prog 71 (Lay.pair i64L (Lay.pair qagl (Lay.pair i64L (Lay.slice qafy)))) :=
  Opens.struct Try.underlying71 (OpensF.cons opensI rfl (OpensF.cons opens_ref rfl (OpensF.cons opensI rfl (OpensF.one qagm rfl)))) (by kernel_rfl) (by decide)
 refine h.weak rfl ?_
 rintro w ⟨a, b, c, d⟩ cs hr
 exact ⟨⟨a, b, c, d⟩, hr⟩
set_option maxRecDepth 20000 in
theorem opens_act : Opens Try.prog 68 qa8s := by
 have h : Opens Try.prog 68 (Lay.pair (Lay.slice i64L) (Lay.slice opLay)) :=
  Opens.struct Try.underlying68 (OpensF.cons qai1 rfl (OpensF.one (opens_op.slice Try.underlying66 (by kernel_rfl)) rfl)) (by kernel_rfl) (by decide)
 refine h.weak rfl ?_
 rintro w ⟨a, b⟩ cs hr
 exact ⟨⟨a, b⟩, hr⟩
set_option maxRecDepth 20000 in
theorem opens_tab : Opens Try.prog 35 qa0w := by
 have h : Opens Try.prog 35 (Lay.pair i64L (Lay.pair (Lay.slice qagl) (Lay.pair (Lay.slice i64L) (Lay.pair i64L (Lay.pair i64L (Lay.slice u64L)))))) :=
  Opens.struct Try.underlying35 (OpensF.cons opensI rfl (OpensF.cons (opens_ref.slice Try.underlying32 (by kernel_rfl)) rfl (OpensF.cons qai1 rfl (OpensF.cons opensI rfl (OpensF.cons opensI rfl (OpensF.one opensN rfl)))))) (by kernel_rfl) (by decide)
 refine h.weak rfl ?_
 rintro w ⟨a, b, c, d, e, f⟩ cs hr
 exact ⟨⟨a, b, c, d, e, f⟩, hr⟩
set_option maxRecDepth 20000 in
theorem opens_node : Opens Try.prog 73 qai3 := by
 have h : Opens Try.prog 73 (Lay.pair i64L (Lay.pair i64L (Lay.pair (Lay.slice qafy) (Lay.pair i64L i64L)))) :=
  Opens.struct Try.underlying73 (OpensF.cons opensI rfl (OpensF.cons opensI rfl (OpensF.cons qagm rfl (OpensF.cons opensI rfl (OpensF.one opensI rfl))))) (by kernel_rfl) (by decide)
 refine h.weak rfl ?_
 rintro w ⟨a, b, c, d, e⟩ cs hr
 exact ⟨⟨a, b, c, d, e⟩, hr⟩
set_option maxRecDepth 20000 in
theorem opens_plan : Opens Try.prog 29 planLay := by
 have h : Opens Try.prog 29 (Lay.pair (Lay.slice qai5) (Lay.pair (Lay.slice i64L) (Lay.pair (Lay.slice qagg) (Lay.pair (Lay.slice qa8s) (Lay.pair (Lay.slice qa0w) (Lay.pair (Lay.slice qai3) (Lay.slice i64L))))))) :=
  Opens.struct Try.underlying29 (OpensF.cons (opens_head.slice Try.underlying22 (by kernel_rfl)) rfl (OpensF.cons qai1 rfl (OpensF.cons (opens_state.slice Try.underlying24 (by kernel_rfl)) rfl (OpensF.cons (opens_act.slice Try.underlying25 (by kernel_rfl)) rfl (OpensF.cons (opens_tab.slice Try.underlying26 (by kernel_rfl)) rfl (OpensF.cons (opens_node.slice Try.underlying27 (by kernel_rfl)) rfl (OpensF.one qai1 rfl))))))) (by kernel_rfl) (by decide)
 refine h.weak rfl ?_
 rintro w ⟨a, b, c, d, e, f, g⟩ cs hr
 exact ⟨⟨a, b, c, d, e, f, g⟩, hr⟩
theorem rep_lay {α : Type} {L : Lay α} {f : α → List SV} (hp : LayP L f) {w : World} {x : α} {cs : Array Value} (h : L.rep NoA w x cs.toList) : RepV w (fun _ => False) noPl (.agg (f x)) (.agg cs) := by
 obtain ⟨h1, h2⟩ := hp NoA w x cs.toList h
 have := RepV.agg (w := w) (A := NoA) (ρ := noPl) (cs := f x) (vs := cs.toList) h2 h1.1 h1.2
 exact this
end Go.Proofs.Ytnfjldobjgdiaaa
namespace Go.Proofs.Ytnfjldobjgdiaaa
set_option linter.all false
open Go.RowKit
attribute [local simp] qabg qabf qaas qaaz qaat qaay qabd qabe qaao qabn SOp.run SX.ev putd puts argS upds SOp.touch SSt.keep SSt.skip gets geth puth delh idOf SV.cells? setL qac5 qac6 sbin eq0 eq1 eqL qac4 qab1 qab2 qaap qabh qaag qabi qabo qaai qaaq FrzOk qaa9 qaa3 qaa7 qaa8 qaau qaa2 qabl qaa4 qaaw qaba qaav frzS frzH frz frz1 frz0 SlotsM ObjsM ObjM rn ren ren1 ren0 qabu qaca qacf qabt qabm qacg qace CoL qabb qach dels adds idsH qab3
attribute [local simp] qads refc qae3 qaet qacc opc actc tabc qad7 qacu nums
def twoP : PlanD := ⟨[⟨[8]⟩, ⟨[16]⟩], [], [⟨0, ⟨0, 0⟩, [⟨1, 1, 1⟩], 1000⟩, ⟨1, ⟨0, 0⟩, [], 1000⟩], [], [], [], [0, 1]⟩
theorem qa0t : SmallP twoP := by constructor <;> simp [twoP]
theorem twoP_ok : qair twoP := by
 have f : ∀ n : Int, 0 ≤ n ∧ n ≤ 1000 → Fits .i64 n := fun n hn => Fits.of_i64 (by omega) (by omega)
 have g : ∀ n : Int, 0 ≤ n ∧ n ≤ 1000 → Fits .u64 n := fun n hn => Fits.of_u64 (by omega) (by omega)
 refine ⟨?_, ?_, ?_, ?_, ?_, ?_, ?_⟩ <;> simp [twoP, AllFit, qa8t, OkRef, qba3, f, g]
theorem qa8x : qalp twoP = (0, 0) := by kernel_rfl
theorem qa8w : (qapd twoP).map setc = [[.int .u64 0, .int .u64 0, .int .i64 0, .int .i64 0, .bool true], [.int .u64 1, .int .u64 1, .int .i64 1, .int .i64 1, .bool true], [.int .u64 1, .int .u64 3, .int .i64 1, .int .i64 3, .bool true]] := by kernel_rfl
theorem two_s (q : Nat) : SCalls Try.prog 56 [] [] q (.agg (qacu twoP)) [] := by
 refine qabj ?_ (fun _ => rfl) (fun _ => rfl) rfl q
 refine qaax (N := 14) Try.func56 rfl rfl (by kernel_rfl) qa12 (by simp) (by repeat' (first | exact trivial | refine And.intro ?_ ?_ | rfl | decide | exact PureR.ren _)) (by repeat' (first | exact trivial | refine And.intro ?_ ?_ | rfl | decide | exact PureR.ren _)) ?_
 rintro X hP hN hm
 unfold c_two
 repeat' (first | ((with_reducible refine qac2 (c := .ret) ?_)) | (with_reducible refine zA ?_) | ((with_reducible refine qaac ?_); (try rw [hP]); simp -implicitDefEqProofs [*]) | fail)
 constructor
 refine qado [1, 3, 8] ?_ ?_
 ·simp only [FrzOk, geth, Nat.reduceEqDiff, reduceIte, and_true]
  refine ⟨?_, ?_, ?_⟩ <;> exact fun x hx => by simp at hx; subst hx; exact qab5 _ rfl
 simp -implicitDefEqProofs
 refine qado [5, 11, 12] ?_ ?_
 ·simp only [FrzOk, geth, Nat.reduceEqDiff, reduceIte, and_true]
  refine ⟨?_, ?_, ?_⟩ <;> exact fun x hx => by simp at hx; rcases hx with rfl | rfl <;> exact qab5 _ rfl
 simp -implicitDefEqProofs
 refine qaam ?_
 refine qaf3 (ds := qacu twoP) hm rfl rfl (by rw [hP]; exact qa8r) (by rw [hP]; exact qapj) rfl ?_ rfl (fun σ => rfl)
 exact ⟨Co.refl _, Co.nilsl 1, qbc8 ⟨CoL.refl _, ⟨Co.refl _, Co.refl _, Co.refl _, Co.nilsl 3, Co.refl _, trivial⟩, trivial⟩, Co.nilsl 2, Co.nilsl 6, Co.nilsl 5, Co.refl _, trivial⟩
theorem qa0q (q : Nat) : SCalls Try.prog 21 [] [] q (.bool true) [] := by
 refine qabj ?_ (fun _ => rfl) (fun _ => rfl) rfl q
 refine qaax (N := 44) Try.func21 rfl rfl (by kernel_rfl) qajh (by simp) (by repeat' (first | exact trivial | refine And.intro ?_ ?_ | rfl | decide | exact PureR.ren _)) (by repeat' (first | exact trivial | refine And.intro ?_ ?_ | rfl | decide | exact PureR.ren _)) ?_
 rintro X hP hN hm
 have hw := fun q => walk_s twoP qa0t twoP_ok q
 rw [qa8x, qa8w] at hw
 replace hw := Lib.hid hw
 have ht := fun q => two_s q
 replace ht := Lib.hid ht
 unfold c_wbegun
 repeat' (first | (with_reducible refine zA ?_) | ((with_reducible refine qaac ?_); (try rw [hP]); simp -implicitDefEqProofs [-qacu, *]) | ((with_reducible refine qaam ?_); (try simp only [qaap, qaag, qaai])) | ((first | refine qaa0 (ht.out _) ?_ | refine qaa0 (hw.out _) ?_); simp -implicitDefEqProofs [-qacu, *]) | (with_reducible refine zN hm ?_) | fail)
 all_goals rfl
set_option maxHeartbeats 4000000 in
theorem wdoes_s (p : PlanD) (hk : qair p) (q : Nat) : SCalls Try.prog 5 [.agg (qacu p)] [] q (.bool true) [] := by
 refine qabj ?_ (fun _ => rfl) (fun _ => rfl) rfl q
 refine qaax (N := 110) Try.func5 rfl rfl (by kernel_rfl) qal5 (by simp) (by repeat' (first | exact trivial | refine And.intro ?_ ?_ | rfl | decide | exact PureR.ren _)) (by repeat' (first | exact trivial | refine And.intro ?_ ?_ | rfl | decide | exact PureR.ren _)) ?_
 rintro X hP hN hm
 have hg := fun q => gplan_s p q
 unfold c_wdoes
 cases hG : qaij p <;> rw [hG] at hg
 ·have hs := qbb5 hG
  have c1 := fun q => walk_s p hs hk q
  have c2 := fun q => rwalk_s p hs q
  have hll : (qapd p).length ≤ 1001 := by
   have := hs.states
   unfold qapd
   split
   ·simp
   ·unfold qaix; rw [qac7]; omega
  generalize qalp p = F at c1 c2
  generalize qapd p = L at c1 c2 hll
  replace c1 := Lib.hid c1
  replace c2 := Lib.hid c2
  replace hs := Lib.hid hs
  replace hk := Lib.hid hk
  repeat' (first | (with_reducible refine zA ?_) | ((with_reducible refine qaac ?_); (try rw [hP]); simp -implicitDefEqProofs [*]) | ((with_reducible refine qaaf ?_); (try simp -implicitDefEqProofs [*])) | ((with_reducible refine qaaa rfl (fun h => ?_) (fun h => ?_)) <;> have h' := h <;> (try simp at h') <;> (try subst h')) | ((first | refine qaa0 (qa0q _) ?_ | refine qaa0 (hg _) ?_ | refine qaa0 (oplan_s p hs.out _) ?_ | refine qaa0 (c1.out _) ?_ | refine qaa0 (c2.out _) ?_ | refine qaa0 (splan_s p hs.out _) ?_); simp -implicitDefEqProofs [*]) | fail)
  refine qaal (qaa5 (fun s (i : Nat) => s.turn [(8, .int .i64 i)] []) (fun i => i ≤ L.length) (fun i => L.length - i) 0 ?_ (by simp) ?_)
  ·repeat' (first | ((with_reducible refine qaah [] hm ?_ ?_ ?_ ?_) <;> (try simp only [zT, puth, Nat.reduceEqDiff, reduceIte, Nat.reduceAdd])) | (with_reducible first | refine za ?_ ?_ | refine zb ?_ ?_ ?_ ?_) | (with_reducible first | exact qaab | exact qaad) | ((with_reducible first | refine zga ?_ | refine zgb ?_); rfl) | ((with_reducible refine zgd ?_); (first | omega | (simp; done))) | (exact Co.refl _) | (exact CoL.refl _) | fail)
  rintro J hJ i h1
  unfold qajw
  simp only [zT, puth, Nat.reduceEqDiff, reduceIte, Nat.reduceAdd] at h1 ⊢
  rcases Nat.lt_or_ge i L.length with hi | hi
  ·have wi : IntKind.i64.wrap ((i : Int) + 1) = (i : Int) + 1 := qaar (by omega) (by omega)
   generalize hxx : L[i] = x
   repeat' (first | (with_reducible first | refine zA ?_ | refine qaae ?_ | refine zK ?_) | ((with_reducible first | refine qaac ?_ | refine qaa1 (by rw [hP]; exact qacx) ?_); (try rw [hP]); simp -implicitDefEqProofs [setc, *]) | ((with_reducible refine qaaf ?_); (try simp -implicitDefEqProofs [setc, *])) | ((with_reducible refine qaaa rfl (fun h => ?_) (fun h => ?_)) <;> have h' := h <;> (try simp at h') <;> (try subst h')) | (with_reducible first | refine za ?_ ?_ | refine zb ?_ ?_ ?_ ?_) | (with_reducible first | exact qaab | exact qaad) | ((with_reducible first | refine zga ?_ | refine zgb ?_); rfl) | ((with_reducible first | refine zgd ?_ | refine zge ?_); (first | omega | (simp; done))) | (exact Co.refl _) | (exact CoL.refl _) | ((refine qaaj hJ (i + 1) ?_ ?_ ?_; (with_reducible refine qaah [] hm ?_ ?_ ?_ ?_) <;> (try simp only [zT, puth, Nat.reduceEqDiff, reduceIte, Nat.reduceAdd]))) | fail)
   all_goals omega
  ·obtain rfl : i = L.length := by omega
   repeat' (first | (with_reducible refine zA ?_) | ((with_reducible refine qaac ?_); (try rw [hP]); simp -implicitDefEqProofs [*]) | ((with_reducible refine qaak ?_); (try simp -implicitDefEqProofs [*])) | ((with_reducible refine qaam ?_); (try simp only [qaap, qaag, qaai])) | ((with_reducible refine qaaa rfl (fun h => ?_) (fun h => ?_)) <;> have h' := h <;> (try simp at h') <;> (try subst h')) | (with_reducible refine zN hm ?_) | fail)
   all_goals rfl
 ·repeat' (first | (with_reducible refine zA ?_) | ((with_reducible refine qaac ?_); (try rw [hP]); simp -implicitDefEqProofs [*]) | ((with_reducible refine qaaf ?_); (try simp -implicitDefEqProofs [*])) | ((with_reducible refine qaam ?_); (try simp only [qaap, qaag, qaai])) | ((with_reducible refine qaaa rfl (fun h => ?_) (fun h => ?_)) <;> have h' := h <;> (try simp at h') <;> (try subst h')) | ((first | refine qaa0 (qa0q _) ?_ | refine qaa0 (hg _) ?_); simp -implicitDefEqProofs [*]) | (with_reducible refine zN hm ?_) | fail)
  all_goals rfl
theorem WalkDoes_law (p : PlanD) (cs : Array Value) (w : World) (h : planLay.rep NoA w p cs.toList) :
  Calls Try.prog 5 #[.agg cs] w fun e w' => e = .returned (.bool true) ∧ Below w.heap.size w w' :=
 law_of (vs := [.agg cs]) (wdoes_s p (qa9k NoA w p cs.toList h) 0) (Reps.cons (rep_lay qa9g h) Reps.nil)
end Go.Proofs.Ytnfjldobjgdiaaa
