/-
  Texts joined: XPlnV XPlnL XPlnW XShY. No condition.
-/
import Derived.Test.YtnfjldobjgdiaaaProg
import Derived.ProofKit
import Derived.WalkSpells
import Derived.RegionTactic
import Derived.BigRegion
import Derived.Deep.RegionLaw
import Derived.Test.YtnfjldobjgdiaaaPlanChecksK7
namespace Go.Proofs.Ytnfjldobjgdiaaa
set_option linter.all false
open Go.RowKit
attribute [local simp] sops_nil sops_run sopsk_some sops_call sops_guard sopsg_yes sopsg_tf sopsg_ft sopsg_undef rg_true SOp.run SX.ev putd puts argS upds SOp.touch SSt.keep SSt.skip gets geth puth delh idOf SV.cells? setL fillS fillR sbin eq0 eq1 eqL rowOf qseq_n qseq_e qseq_r qblock_n qblock_r qblock_e qloop_e qloop_r take_map_len FrzOk pureV_int pureV_bool pureV_str pureV_nil pureV_nilsl pureV_view pureV_cp pureL_nil_ pureL_cons_ pureO_row pureO_cells frzS frzH frz frz1 frz0 SlotsM ObjsM ObjM rn ren ren1 ren0 co_self co_int co_own co_view co_nilsl co_agg co_tup CoL coll_self mergeH dels adds idsH okNames
attribute [local simp] headc refc pushc casec statec opc actc tabc nodec planc nums
theorem to_cases {t e R : Int} (h : t = e) : (if t = 0 then R else t) = if e = 0 then R else e := by rw [h]
set_option maxHeartbeats 8000000 in
theorem rnode_s (p : PlanD) (i : Nat) (hi : i < p.nodes.length) (hnl : p.nodes.length ≤ 1000000) (hw : p.nodes[i].e.length ≤ 1000000) (q : Nat) : SCalls Try.prog 45 [.agg (planc p), .int .i64 i] [] q (.int .i64 (nodeF p i p.nodes[i])) [] := by
 refine scalls_q ?_ (fun _ => rfl) (fun _ => rfl) rfl q
 refine scalls_of (N := 109) Try.func45 rfl rfl (by kernel_rfl) comp_c_rnode (by simp) (by repeat' (first | exact trivial | refine And.intro ?_ ?_ | rfl | decide | exact PureR.ren _)) (by repeat' (first | exact trivial | refine And.intro ?_ ?_ | rfl | decide | exact PureR.ren _)) ?_
 rintro X hP hN hm
 unfold c_rnode
 generalize hxx : p.nodes[i] = x at hw
 have hA : nodeF p i x = nodeFF p i x := nodeFF_eq p i x
 generalize nodeF p i x = F at hA
 unfold nodeFF at hA
 by_cases kn1 : x.kind = 1
 ·have k1 : (x.kind == 1) = true := by simpa using kn1
  rw [if_pos kn1] at hA
  clear kn1
  cases kb : (decide (x.n < 0) || decide ((p.tabs.length : Int) ≤ x.n)) <;> rw [kb] at hA
  ·have hI : F = if (0 : Int) = 0 then restF p i ([x.yes].drop 0) else 0 := hA
   obtain ⟨b1, b2⟩ := Bool.or_eq_false_iff.1 kb
   clear hA kb
   replace hI := Lib.hid hI
   repeat' (first | (with_reducible first | refine zA ?_ | refine swp_block1 ?_ | refine swp_block2 ?_ | refine zK ?_) | ((with_reducible first | refine swp_reg ?_ | refine swp_regd (by rw [hP]; exact mixed) ?_); (try rw [hP]); simp -implicitDefEqProofs [*]) | ((with_reducible first | refine swp_skip ?_ | refine swp_exit ?_); (try simp -implicitDefEqProofs [*])) | ((with_reducible refine swp_ret ?_); (try simp only [qseq_r, qblock_r, qloop_r])) | ((with_reducible refine swp_cond rfl (fun h => ?_) (fun h => ?_)) <;> have h' := h <;> (try simp at h') <;> (try subst h')) | ((with_reducible refine sopsg_cases (fun h => ?_) (fun h => ?_)) <;> have h' := h <;> (try simp at h') <;> (try subst h') <;> simp -implicitDefEqProofs [*]) | ((with_reducible refine sopsk_rg ?_ ?_); (first | omega | (unfold maxLen; omega)); simp -implicitDefEqProofs [*]) | (with_reducible first | refine zM hm ?_ | refine zN hm ?_ | refine zO hm ?_ | refine zP hm ?_) | fail)
   refine swp_block (swp_for (fun s (y : Nat × Int) => s.turn [(6, .int .i64 y.2), (8, .int .i64 y.1)] []) (fun y => y.1 ≤ 1 ∧ F = if y.2 = 0 then restF p i ([x.yes].drop y.1) else y.2) (fun y => 1 - y.1) (0, 0) ?_ ⟨by simp, hI.out⟩ ?_)
   ·repeat' (first | ((with_reducible refine wk_self [] hm ?_ ?_ ?_ ?_) <;> (try simp only [zT, puth, Nat.reduceEqDiff, reduceIte, Nat.reduceAdd])) | (with_reducible first | refine za ?_ ?_ | refine zb ?_ ?_ ?_ ?_ | refine zc ?_ ?_ ?_ ?_ | refine zd ?_ ?_ ?_ ?_ | refine objsM_abs ?_ ?_ | refine subH_cons ?_ ?_) | (with_reducible first | exact slotsM_nil | exact objsM_nil | exact subH_nil | exact coL_nilm | exact Co.refl _ | exact CoL.refl _ | exact CoLL.refl _) | ((with_reducible first | refine zga ?_ | refine zgb ?_); rfl) | ((with_reducible refine zgc ?_); (first | (with_reducible rfl) | rfl | (simp; done))) | ((with_reducible first | refine zgd ?_ | refine zge ?_); (first | omega | (simp; done))) | (refine co_wrap ⟨?_, ?_⟩ ?_ <;> omega) | (exact Co.refl _) | (exact CoL.refl _) | (exact CoLL.refl _) | (refine co_own ?_; omega) | (refine co_int ?_; first | omega | (simp_all; done)) | (with_reducible first | refine coL_cons ?_ ?_ | refine coL_consm ?_ ?_) | fail)
   rintro J hJ ⟨k, e⟩ ⟨h3, h4⟩
   unfold c_rnode_l1
   simp only [zT, puth, Nat.reduceEqDiff, reduceIte, Nat.reduceAdd] at h3 h4 ⊢
   by_cases he : e = 0
   ·subst he
    rw [if_pos rfl] at h4
    have hk : k = 0 ∨ k = 1 := by omega
    rcases hk with rfl | rfl
    ·have h5 : F = if toF p i x.yes = 0 then restF p i [] else toF p i x.yes := h4
     clear h4
     replace h5 := Lib.hid h5
     repeat' (first | (with_reducible first | refine zA ?_ | refine swp_block1 ?_ | refine swp_block2 ?_ | refine zK ?_) | ((with_reducible first | refine swp_reg ?_ | refine swp_regd (by rw [hP]; exact mixed) ?_); (try rw [hP]); simp -implicitDefEqProofs [*]) | ((with_reducible first | refine swp_skip ?_ | refine swp_exit ?_); (try simp -implicitDefEqProofs [*])) | ((with_reducible refine swp_ret ?_); (try simp only [qseq_r, qblock_r, qloop_r])) | ((with_reducible refine swp_cond rfl (fun h => ?_) (fun h => ?_)) <;> have h' := h <;> (try simp at h') <;> (try subst h')) | ((with_reducible refine sopsg_cases (fun h => ?_) (fun h => ?_)) <;> have h' := h <;> (try simp at h') <;> (try subst h') <;> simp -implicitDefEqProofs [*]) | ((with_reducible refine sopsk_rg ?_ ?_); (first | omega | (unfold maxLen; omega)); simp -implicitDefEqProofs [*]) | (with_reducible first | refine zM hm ?_ | refine zN hm ?_ | refine zO hm ?_ | refine zP hm ?_) | ((with_reducible refine wk_self [] hm ?_ ?_ ?_ ?_) <;> (try simp only [zT, puth, Nat.reduceEqDiff, reduceIte, Nat.reduceAdd])) | (with_reducible first | refine za ?_ ?_ | refine zb ?_ ?_ ?_ ?_ | refine zc ?_ ?_ ?_ ?_ | refine zd ?_ ?_ ?_ ?_ | refine objsM_abs ?_ ?_ | refine subH_cons ?_ ?_) | (with_reducible first | exact slotsM_nil | exact objsM_nil | exact subH_nil | exact coL_nilm | exact Co.refl _ | exact CoL.refl _ | exact CoLL.refl _) | ((with_reducible first | refine zga ?_ | refine zgb ?_); rfl) | ((with_reducible refine zgc ?_); (first | (with_reducible rfl) | rfl | (simp; done))) | ((with_reducible first | refine zgd ?_ | refine zge ?_); (first | omega | (simp; done))) | (refine co_wrap ⟨?_, ?_⟩ ?_ <;> omega) | (exact Co.refl _) | (exact CoL.refl _) | (exact CoLL.refl _) | (refine co_own ?_; omega) | (refine co_int ?_; first | omega | (simp_all; done)) | (with_reducible first | refine coL_cons ?_ ?_ | refine coL_consm ?_ ?_) | ((refine qfor_next hJ (1, ?_) ?_ ?_ ?_; rotate_left 1; (with_reducible refine wk_self [] hm ?_ ?_ ?_ ?_) <;> (try simp only [zT, puth, Nat.reduceEqDiff, reduceIte, Nat.reduceAdd]))) | fail)
     all_goals (try dsimp only)
     all_goals (refine ⟨by omega, ?_⟩; rw [h5.out]; clear h5; refine to_cases ?_; unfold toF; (repeat' split) <;> first | rfl | (exfalso; simp_all; omega) | (exfalso; simp_all; done))
    ·replace h4 := Lib.hid h4
     repeat' (first | (with_reducible first | refine zA ?_ | refine swp_block1 ?_ | refine swp_block2 ?_ | refine zK ?_) | ((with_reducible first | refine swp_reg ?_ | refine swp_regd (by rw [hP]; exact mixed) ?_); (try rw [hP]); simp -implicitDefEqProofs [*]) | ((with_reducible first | refine swp_skip ?_ | refine swp_exit ?_); (try simp -implicitDefEqProofs [*])) | ((with_reducible refine swp_ret ?_); (try simp only [qseq_r, qblock_r, qloop_r])) | ((with_reducible refine swp_cond rfl (fun h => ?_) (fun h => ?_)) <;> have h' := h <;> (try simp at h') <;> (try subst h')) | ((with_reducible refine sopsg_cases (fun h => ?_) (fun h => ?_)) <;> have h' := h <;> (try simp at h') <;> (try subst h') <;> simp -implicitDefEqProofs [*]) | ((with_reducible refine sopsk_rg ?_ ?_); (first | omega | (unfold maxLen; omega)); simp -implicitDefEqProofs [*]) | (with_reducible first | refine zM hm ?_ | refine zN hm ?_ | refine zO hm ?_ | refine zP hm ?_) | fail)
     rw [h4.out]; rfl
   ·rw [if_neg he] at h4
    have ke : (e == 0) = false := by simpa using he
    replace h4 := Lib.hid h4
    repeat' (first | (with_reducible first | refine zA ?_ | refine swp_block1 ?_ | refine swp_block2 ?_ | refine zK ?_) | ((with_reducible first | refine swp_reg ?_ | refine swp_regd (by rw [hP]; exact mixed) ?_); (try rw [hP]); simp -implicitDefEqProofs [*]) | ((with_reducible first | refine swp_skip ?_ | refine swp_exit ?_); (try simp -implicitDefEqProofs [*])) | ((with_reducible refine swp_ret ?_); (try simp only [qseq_r, qblock_r, qloop_r])) | ((with_reducible refine swp_cond rfl (fun h => ?_) (fun h => ?_)) <;> have h' := h <;> (try simp at h') <;> (try subst h')) | ((with_reducible refine sopsg_cases (fun h => ?_) (fun h => ?_)) <;> have h' := h <;> (try simp at h') <;> (try subst h') <;> simp -implicitDefEqProofs [*]) | ((with_reducible refine sopsk_rg ?_ ?_); (first | omega | (unfold maxLen; omega)); simp -implicitDefEqProofs [*]) | (with_reducible first | refine zM hm ?_ | refine zN hm ?_ | refine zO hm ?_ | refine zP hm ?_) | fail)
    all_goals (rw [h4.out])
  ·have hI : F = if (1 : Int) = 0 then restF p i ([x.yes].drop 0) else 1 := hA
   replace kb := Lib.hid kb
   clear hA
   replace hI := Lib.hid hI
   repeat' (first | (with_reducible first | refine zA ?_ | refine swp_block1 ?_ | refine swp_block2 ?_ | refine zK ?_) | ((with_reducible first | refine swp_reg ?_ | refine swp_regd (by rw [hP]; exact mixed) ?_); (try rw [hP]); simp -implicitDefEqProofs [*]) | ((with_reducible first | refine swp_skip ?_ | refine swp_exit ?_); (try simp -implicitDefEqProofs [*])) | ((with_reducible refine swp_ret ?_); (try simp only [qseq_r, qblock_r, qloop_r])) | ((with_reducible refine swp_cond rfl (fun h => ?_) (fun h => ?_)) <;> have h' := h <;> (try simp at h') <;> (try subst h')) | ((with_reducible refine sopsg_cases (fun h => ?_) (fun h => ?_)) <;> have h' := h <;> (try simp at h') <;> (try subst h') <;> simp -implicitDefEqProofs [*]) | ((with_reducible refine sopsk_rg ?_ ?_); (first | omega | (unfold maxLen; omega)); simp -implicitDefEqProofs [*]) | (with_reducible first | refine zM hm ?_ | refine zN hm ?_ | refine zO hm ?_ | refine zP hm ?_) | fail)
   all_goals (try (exfalso; have q := kb.out; simp only [Bool.or_eq_true, decide_eq_true_eq] at q; omega))
   all_goals
    refine swp_block (swp_for (fun s (y : Nat × Int) => s.turn [(6, .int .i64 y.2), (8, .int .i64 y.1)] []) (fun y => y.1 ≤ 1 ∧ F = if y.2 = 0 then restF p i ([x.yes].drop y.1) else y.2) (fun y => 1 - y.1) (0, 1) ?_ ⟨by simp, hI.out⟩ ?_)
    ·repeat' (first | ((with_reducible refine wk_self [] hm ?_ ?_ ?_ ?_) <;> (try simp only [zT, puth, Nat.reduceEqDiff, reduceIte, Nat.reduceAdd])) | (with_reducible first | refine za ?_ ?_ | refine zb ?_ ?_ ?_ ?_ | refine zc ?_ ?_ ?_ ?_ | refine zd ?_ ?_ ?_ ?_ | refine objsM_abs ?_ ?_ | refine subH_cons ?_ ?_) | (with_reducible first | exact slotsM_nil | exact objsM_nil | exact subH_nil | exact coL_nilm | exact Co.refl _ | exact CoL.refl _ | exact CoLL.refl _) | ((with_reducible first | refine zga ?_ | refine zgb ?_); rfl) | ((with_reducible refine zgc ?_); (first | (with_reducible rfl) | rfl | (simp; done))) | ((with_reducible first | refine zgd ?_ | refine zge ?_); (first | omega | (simp; done))) | (refine co_wrap ⟨?_, ?_⟩ ?_ <;> omega) | (exact Co.refl _) | (exact CoL.refl _) | (exact CoLL.refl _) | (refine co_own ?_; omega) | (refine co_int ?_; first | omega | (simp_all; done)) | (with_reducible first | refine coL_cons ?_ ?_ | refine coL_consm ?_ ?_) | fail)
    rintro J hJ ⟨k, e⟩ ⟨h3, h4⟩
    unfold c_rnode_l1
    simp only [zT, puth, Nat.reduceEqDiff, reduceIte, Nat.reduceAdd] at h3 h4 ⊢
    by_cases he : e = 0
    ·subst he
     rw [if_pos rfl] at h4
     have hk : k = 0 ∨ k = 1 := by omega
     rcases hk with rfl | rfl
     ·have h5 : F = if toF p i x.yes = 0 then restF p i [] else toF p i x.yes := h4
      clear h4
      replace h5 := Lib.hid h5
      repeat' (first | (with_reducible first | refine zA ?_ | refine swp_block1 ?_ | refine swp_block2 ?_ | refine zK ?_) | ((with_reducible first | refine swp_reg ?_ | refine swp_regd (by rw [hP]; exact mixed) ?_); (try rw [hP]); simp -implicitDefEqProofs [*]) | ((with_reducible first | refine swp_skip ?_ | refine swp_exit ?_); (try simp -implicitDefEqProofs [*])) | ((with_reducible refine swp_ret ?_); (try simp only [qseq_r, qblock_r, qloop_r])) | ((with_reducible refine swp_cond rfl (fun h => ?_) (fun h => ?_)) <;> have h' := h <;> (try simp at h') <;> (try subst h')) | ((with_reducible refine sopsg_cases (fun h => ?_) (fun h => ?_)) <;> have h' := h <;> (try simp at h') <;> (try subst h') <;> simp -implicitDefEqProofs [*]) | ((with_reducible refine sopsk_rg ?_ ?_); (first | omega | (unfold maxLen; omega)); simp -implicitDefEqProofs [*]) | (with_reducible first | refine zM hm ?_ | refine zN hm ?_ | refine zO hm ?_ | refine zP hm ?_) | ((with_reducible refine wk_self [] hm ?_ ?_ ?_ ?_) <;> (try simp only [zT, puth, Nat.reduceEqDiff, reduceIte, Nat.reduceAdd])) | (with_reducible first | refine za ?_ ?_ | refine zb ?_ ?_ ?_ ?_ | refine zc ?_ ?_ ?_ ?_ | refine zd ?_ ?_ ?_ ?_ | refine objsM_abs ?_ ?_ | refine subH_cons ?_ ?_) | (with_reducible first | exact slotsM_nil | exact objsM_nil | exact subH_nil | exact coL_nilm | exact Co.refl _ | exact CoL.refl _ | exact CoLL.refl _) | ((with_reducible first | refine zga ?_ | refine zgb ?_); rfl) | ((with_reducible refine zgc ?_); (first | (with_reducible rfl) | rfl | (simp; done))) | ((with_reducible first | refine zgd ?_ | refine zge ?_); (first | omega | (simp; done))) | (refine co_wrap ⟨?_, ?_⟩ ?_ <;> omega) | (exact Co.refl _) | (exact CoL.refl _) | (exact CoLL.refl _) | (refine co_own ?_; omega) | (refine co_int ?_; first | omega | (simp_all; done)) | (with_reducible first | refine coL_cons ?_ ?_ | refine coL_consm ?_ ?_) | ((refine qfor_next hJ (1, ?_) ?_ ?_ ?_; rotate_left 1; (with_reducible refine wk_self [] hm ?_ ?_ ?_ ?_) <;> (try simp only [zT, puth, Nat.reduceEqDiff, reduceIte, Nat.reduceAdd]))) | fail)
      all_goals (try dsimp only)
      all_goals (refine ⟨by omega, ?_⟩; rw [h5.out]; clear h5; refine to_cases ?_; unfold toF; (repeat' split) <;> first | rfl | (exfalso; simp_all; omega) | (exfalso; simp_all; done))
     ·replace h4 := Lib.hid h4
      repeat' (first | (with_reducible first | refine zA ?_ | refine swp_block1 ?_ | refine swp_block2 ?_ | refine zK ?_) | ((with_reducible first | refine swp_reg ?_ | refine swp_regd (by rw [hP]; exact mixed) ?_); (try rw [hP]); simp -implicitDefEqProofs [*]) | ((with_reducible first | refine swp_skip ?_ | refine swp_exit ?_); (try simp -implicitDefEqProofs [*])) | ((with_reducible refine swp_ret ?_); (try simp only [qseq_r, qblock_r, qloop_r])) | ((with_reducible refine swp_cond rfl (fun h => ?_) (fun h => ?_)) <;> have h' := h <;> (try simp at h') <;> (try subst h')) | ((with_reducible refine sopsg_cases (fun h => ?_) (fun h => ?_)) <;> have h' := h <;> (try simp at h') <;> (try subst h') <;> simp -implicitDefEqProofs [*]) | ((with_reducible refine sopsk_rg ?_ ?_); (first | omega | (unfold maxLen; omega)); simp -implicitDefEqProofs [*]) | (with_reducible first | refine zM hm ?_ | refine zN hm ?_ | refine zO hm ?_ | refine zP hm ?_) | fail)
      rw [h4.out]; rfl
    ·rw [if_neg he] at h4
     have ke : (e == 0) = false := by simpa using he
     replace h4 := Lib.hid h4
     repeat' (first | (with_reducible first | refine zA ?_ | refine swp_block1 ?_ | refine swp_block2 ?_ | refine zK ?_) | ((with_reducible first | refine swp_reg ?_ | refine swp_regd (by rw [hP]; exact mixed) ?_); (try rw [hP]); simp -implicitDefEqProofs [*]) | ((with_reducible first | refine swp_skip ?_ | refine swp_exit ?_); (try simp -implicitDefEqProofs [*])) | ((with_reducible refine swp_ret ?_); (try simp only [qseq_r, qblock_r, qloop_r])) | ((with_reducible refine swp_cond rfl (fun h => ?_) (fun h => ?_)) <;> have h' := h <;> (try simp at h') <;> (try subst h')) | ((with_reducible refine sopsg_cases (fun h => ?_) (fun h => ?_)) <;> have h' := h <;> (try simp at h') <;> (try subst h') <;> simp -implicitDefEqProofs [*]) | ((with_reducible refine sopsk_rg ?_ ?_); (first | omega | (unfold maxLen; omega)); simp -implicitDefEqProofs [*]) | (with_reducible first | refine zM hm ?_ | refine zN hm ?_ | refine zO hm ?_ | refine zP hm ?_) | fail)
     all_goals (rw [h4.out])
 have k1 : (x.kind == 1) = false := by simpa using kn1
 rw [if_neg kn1] at hA
 clear kn1
 by_cases kn2 : x.kind = 2
 ·have k2 : (x.kind == 2) = true := by simpa using kn2
  rw [if_pos kn2] at hA
  clear kn2
  cases kb : (decide (x.n < 0) || decide ((p.acts.length : Int) ≤ x.n)) <;> rw [kb] at hA
  ·obtain ⟨b1, b2⟩ := Bool.or_eq_false_iff.1 kb
   have b3 := of_decide_eq_false b1
   have b4 := of_decide_eq_false b2
   have hlt : x.n.toNat < p.acts.length := by omega
   have : actW p.acts x.n = p.acts[x.n.toNat].w := by unfold actW; rw [List.getElem?_eq_getElem hlt]; rfl
   rw [this] at hA
   generalize hB : p.acts[x.n.toNat] = B at hA
   rw [show decide (0 < (B.w.length : Int)) = decide (0 < B.w.length) from decide_eq_decide.2 (by omega)] at hA
   clear kb this
   cases kw : decide (0 < B.w.length) <;> rw [kw] at hA
   ·have hI : F = if (0 : Int) = 0 then restF p i ([x.yes].drop 0) else 0 := hA
    clear hA
    replace hI := Lib.hid hI
    repeat' (first | (with_reducible first | refine zA ?_ | refine swp_block1 ?_ | refine swp_block2 ?_ | refine zK ?_) | ((with_reducible first | refine swp_reg ?_ | refine swp_regd (by rw [hP]; exact mixed) ?_); (try rw [hP]); simp -implicitDefEqProofs [*]) | ((with_reducible first | refine swp_skip ?_ | refine swp_exit ?_); (try simp -implicitDefEqProofs [*])) | ((with_reducible refine swp_ret ?_); (try simp only [qseq_r, qblock_r, qloop_r])) | ((with_reducible refine swp_cond rfl (fun h => ?_) (fun h => ?_)) <;> have h' := h <;> (try simp at h') <;> (try subst h')) | ((with_reducible refine sopsg_cases (fun h => ?_) (fun h => ?_)) <;> have h' := h <;> (try simp at h') <;> (try subst h') <;> simp -implicitDefEqProofs [*]) | ((with_reducible refine sopsk_rg ?_ ?_); (first | omega | (unfold maxLen; omega)); simp -implicitDefEqProofs [*]) | (with_reducible first | refine zM hm ?_ | refine zN hm ?_ | refine zO hm ?_ | refine zP hm ?_) | fail)
    refine swp_block (swp_for (fun s (y : Nat × Int) => s.turn [(6, .int .i64 y.2), (8, .int .i64 y.1)] []) (fun y => y.1 ≤ 1 ∧ F = if y.2 = 0 then restF p i ([x.yes].drop y.1) else y.2) (fun y => 1 - y.1) (0, 0) ?_ ⟨by simp, hI.out⟩ ?_)
    ·repeat' (first | ((with_reducible refine wk_self [] hm ?_ ?_ ?_ ?_) <;> (try simp only [zT, puth, Nat.reduceEqDiff, reduceIte, Nat.reduceAdd])) | (with_reducible first | refine za ?_ ?_ | refine zb ?_ ?_ ?_ ?_ | refine zc ?_ ?_ ?_ ?_ | refine zd ?_ ?_ ?_ ?_ | refine objsM_abs ?_ ?_ | refine subH_cons ?_ ?_) | (with_reducible first | exact slotsM_nil | exact objsM_nil | exact subH_nil | exact coL_nilm | exact Co.refl _ | exact CoL.refl _ | exact CoLL.refl _) | ((with_reducible first | refine zga ?_ | refine zgb ?_); rfl) | ((with_reducible refine zgc ?_); (first | (with_reducible rfl) | rfl | (simp; done))) | ((with_reducible first | refine zgd ?_ | refine zge ?_); (first | omega | (simp; done))) | (refine co_wrap ⟨?_, ?_⟩ ?_ <;> omega) | (exact Co.refl _) | (exact CoL.refl _) | (exact CoLL.refl _) | (refine co_own ?_; omega) | (refine co_int ?_; first | omega | (simp_all; done)) | (with_reducible first | refine coL_cons ?_ ?_ | refine coL_consm ?_ ?_) | fail)
    rintro J hJ ⟨k, e⟩ ⟨h3, h4⟩
    unfold c_rnode_l1
    simp only [zT, puth, Nat.reduceEqDiff, reduceIte, Nat.reduceAdd] at h3 h4 ⊢
    by_cases he : e = 0
    ·subst he
     rw [if_pos rfl] at h4
     have hk : k = 0 ∨ k = 1 := by omega
     rcases hk with rfl | rfl
     ·have h5 : F = if toF p i x.yes = 0 then restF p i [] else toF p i x.yes := h4
      clear h4
      replace h5 := Lib.hid h5
      repeat' (first | (with_reducible first | refine zA ?_ | refine swp_block1 ?_ | refine swp_block2 ?_ | refine zK ?_) | ((with_reducible first | refine swp_reg ?_ | refine swp_regd (by rw [hP]; exact mixed) ?_); (try rw [hP]); simp -implicitDefEqProofs [*]) | ((with_reducible first | refine swp_skip ?_ | refine swp_exit ?_); (try simp -implicitDefEqProofs [*])) | ((with_reducible refine swp_ret ?_); (try simp only [qseq_r, qblock_r, qloop_r])) | ((with_reducible refine swp_cond rfl (fun h => ?_) (fun h => ?_)) <;> have h' := h <;> (try simp at h') <;> (try subst h')) | ((with_reducible refine sopsg_cases (fun h => ?_) (fun h => ?_)) <;> have h' := h <;> (try simp at h') <;> (try subst h') <;> simp -implicitDefEqProofs [*]) | ((with_reducible refine sopsk_rg ?_ ?_); (first | omega | (unfold maxLen; omega)); simp -implicitDefEqProofs [*]) | (with_reducible first | refine zM hm ?_ | refine zN hm ?_ | refine zO hm ?_ | refine zP hm ?_) | ((with_reducible refine wk_self [] hm ?_ ?_ ?_ ?_) <;> (try simp only [zT, puth, Nat.reduceEqDiff, reduceIte, Nat.reduceAdd])) | (with_reducible first | refine za ?_ ?_ | refine zb ?_ ?_ ?_ ?_ | refine zc ?_ ?_ ?_ ?_ | refine zd ?_ ?_ ?_ ?_ | refine objsM_abs ?_ ?_ | refine subH_cons ?_ ?_) | (with_reducible first | exact slotsM_nil | exact objsM_nil | exact subH_nil | exact coL_nilm | exact Co.refl _ | exact CoL.refl _ | exact CoLL.refl _) | ((with_reducible first | refine zga ?_ | refine zgb ?_); rfl) | ((with_reducible refine zgc ?_); (first | (with_reducible rfl) | rfl | (simp; done))) | ((with_reducible first | refine zgd ?_ | refine zge ?_); (first | omega | (simp; done))) | (refine co_wrap ⟨?_, ?_⟩ ?_ <;> omega) | (exact Co.refl _) | (exact CoL.refl _) | (exact CoLL.refl _) | (refine co_own ?_; omega) | (refine co_int ?_; first | omega | (simp_all; done)) | (with_reducible first | refine coL_cons ?_ ?_ | refine coL_consm ?_ ?_) | ((refine qfor_next hJ (1, ?_) ?_ ?_ ?_; rotate_left 1; (with_reducible refine wk_self [] hm ?_ ?_ ?_ ?_) <;> (try simp only [zT, puth, Nat.reduceEqDiff, reduceIte, Nat.reduceAdd]))) | fail)
      all_goals (try dsimp only)
      all_goals (refine ⟨by omega, ?_⟩; rw [h5.out]; clear h5; refine to_cases ?_; unfold toF; (repeat' split) <;> first | rfl | (exfalso; simp_all; omega) | (exfalso; simp_all; done))
     ·replace h4 := Lib.hid h4
      repeat' (first | (with_reducible first | refine zA ?_ | refine swp_block1 ?_ | refine swp_block2 ?_ | refine zK ?_) | ((with_reducible first | refine swp_reg ?_ | refine swp_regd (by rw [hP]; exact mixed) ?_); (try rw [hP]); simp -implicitDefEqProofs [*]) | ((with_reducible first | refine swp_skip ?_ | refine swp_exit ?_); (try simp -implicitDefEqProofs [*])) | ((with_reducible refine swp_ret ?_); (try simp only [qseq_r, qblock_r, qloop_r])) | ((with_reducible refine swp_cond rfl (fun h => ?_) (fun h => ?_)) <;> have h' := h <;> (try simp at h') <;> (try subst h')) | ((with_reducible refine sopsg_cases (fun h => ?_) (fun h => ?_)) <;> have h' := h <;> (try simp at h') <;> (try subst h') <;> simp -implicitDefEqProofs [*]) | ((with_reducible refine sopsk_rg ?_ ?_); (first | omega | (unfold maxLen; omega)); simp -implicitDefEqProofs [*]) | (with_reducible first | refine zM hm ?_ | refine zN hm ?_ | refine zO hm ?_ | refine zP hm ?_) | fail)
      rw [h4.out]; rfl
    ·rw [if_neg he] at h4
     have ke : (e == 0) = false := by simpa using he
     replace h4 := Lib.hid h4
     repeat' (first | (with_reducible first | refine zA ?_ | refine swp_block1 ?_ | refine swp_block2 ?_ | refine zK ?_) | ((with_reducible first | refine swp_reg ?_ | refine swp_regd (by rw [hP]; exact mixed) ?_); (try rw [hP]); simp -implicitDefEqProofs [*]) | ((with_reducible first | refine swp_skip ?_ | refine swp_exit ?_); (try simp -implicitDefEqProofs [*])) | ((with_reducible refine swp_ret ?_); (try simp only [qseq_r, qblock_r, qloop_r])) | ((with_reducible refine swp_cond rfl (fun h => ?_) (fun h => ?_)) <;> have h' := h <;> (try simp at h') <;> (try subst h')) | ((with_reducible refine sopsg_cases (fun h => ?_) (fun h => ?_)) <;> have h' := h <;> (try simp at h') <;> (try subst h') <;> simp -implicitDefEqProofs [*]) | ((with_reducible refine sopsk_rg ?_ ?_); (first | omega | (unfold maxLen; omega)); simp -implicitDefEqProofs [*]) | (with_reducible first | refine zM hm ?_ | refine zN hm ?_ | refine zO hm ?_ | refine zP hm ?_) | fail)
     all_goals (rw [h4.out])
   ·have hI : F = if (2 : Int) = 0 then restF p i ([x.yes].drop 0) else 2 := hA
    clear hA
    replace hI := Lib.hid hI
    repeat' (first | (with_reducible first | refine zA ?_ | refine swp_block1 ?_ | refine swp_block2 ?_ | refine zK ?_) | ((with_reducible first | refine swp_reg ?_ | refine swp_regd (by rw [hP]; exact mixed) ?_); (try rw [hP]); simp -implicitDefEqProofs [*]) | ((with_reducible first | refine swp_skip ?_ | refine swp_exit ?_); (try simp -implicitDefEqProofs [*])) | ((with_reducible refine swp_ret ?_); (try simp only [qseq_r, qblock_r, qloop_r])) | ((with_reducible refine swp_cond rfl (fun h => ?_) (fun h => ?_)) <;> have h' := h <;> (try simp at h') <;> (try subst h')) | ((with_reducible refine sopsg_cases (fun h => ?_) (fun h => ?_)) <;> have h' := h <;> (try simp at h') <;> (try subst h') <;> simp -implicitDefEqProofs [*]) | ((with_reducible refine sopsk_rg ?_ ?_); (first | omega | (unfold maxLen; omega)); simp -implicitDefEqProofs [*]) | (with_reducible first | refine zM hm ?_ | refine zN hm ?_ | refine zO hm ?_ | refine zP hm ?_) | fail)
    refine swp_block (swp_for (fun s (y : Nat × Int) => s.turn [(6, .int .i64 y.2), (8, .int .i64 y.1)] []) (fun y => y.1 ≤ 1 ∧ F = if y.2 = 0 then restF p i ([x.yes].drop y.1) else y.2) (fun y => 1 - y.1) (0, 2) ?_ ⟨by simp, hI.out⟩ ?_)
    ·repeat' (first | ((with_reducible refine wk_self [] hm ?_ ?_ ?_ ?_) <;> (try simp only [zT, puth, Nat.reduceEqDiff, reduceIte, Nat.reduceAdd])) | (with_reducible first | refine za ?_ ?_ | refine zb ?_ ?_ ?_ ?_ | refine zc ?_ ?_ ?_ ?_ | refine zd ?_ ?_ ?_ ?_ | refine objsM_abs ?_ ?_ | refine subH_cons ?_ ?_) | (with_reducible first | exact slotsM_nil | exact objsM_nil | exact subH_nil | exact coL_nilm | exact Co.refl _ | exact CoL.refl _ | exact CoLL.refl _) | ((with_reducible first | refine zga ?_ | refine zgb ?_); rfl) | ((with_reducible refine zgc ?_); (first | (with_reducible rfl) | rfl | (simp; done))) | ((with_reducible first | refine zgd ?_ | refine zge ?_); (first | omega | (simp; done))) | (refine co_wrap ⟨?_, ?_⟩ ?_ <;> omega) | (exact Co.refl _) | (exact CoL.refl _) | (exact CoLL.refl _) | (refine co_own ?_; omega) | (refine co_int ?_; first | omega | (simp_all; done)) | (with_reducible first | refine coL_cons ?_ ?_ | refine coL_consm ?_ ?_) | fail)
    rintro J hJ ⟨k, e⟩ ⟨h3, h4⟩
    unfold c_rnode_l1
    simp only [zT, puth, Nat.reduceEqDiff, reduceIte, Nat.reduceAdd] at h3 h4 ⊢
    by_cases he : e = 0
    ·subst he
     rw [if_pos rfl] at h4
     have hk : k = 0 ∨ k = 1 := by omega
     rcases hk with rfl | rfl
     ·have h5 : F = if toF p i x.yes = 0 then restF p i [] else toF p i x.yes := h4
      clear h4
      replace h5 := Lib.hid h5
      repeat' (first | (with_reducible first | refine zA ?_ | refine swp_block1 ?_ | refine swp_block2 ?_ | refine zK ?_) | ((with_reducible first | refine swp_reg ?_ | refine swp_regd (by rw [hP]; exact mixed) ?_); (try rw [hP]); simp -implicitDefEqProofs [*]) | ((with_reducible first | refine swp_skip ?_ | refine swp_exit ?_); (try simp -implicitDefEqProofs [*])) | ((with_reducible refine swp_ret ?_); (try simp only [qseq_r, qblock_r, qloop_r])) | ((with_reducible refine swp_cond rfl (fun h => ?_) (fun h => ?_)) <;> have h' := h <;> (try simp at h') <;> (try subst h')) | ((with_reducible refine sopsg_cases (fun h => ?_) (fun h => ?_)) <;> have h' := h <;> (try simp at h') <;> (try subst h') <;> simp -implicitDefEqProofs [*]) | ((with_reducible refine sopsk_rg ?_ ?_); (first | omega | (unfold maxLen; omega)); simp -implicitDefEqProofs [*]) | (with_reducible first | refine zM hm ?_ | refine zN hm ?_ | refine zO hm ?_ | refine zP hm ?_) | ((with_reducible refine wk_self [] hm ?_ ?_ ?_ ?_) <;> (try simp only [zT, puth, Nat.reduceEqDiff, reduceIte, Nat.reduceAdd])) | (with_reducible first | refine za ?_ ?_ | refine zb ?_ ?_ ?_ ?_ | refine zc ?_ ?_ ?_ ?_ | refine zd ?_ ?_ ?_ ?_ | refine objsM_abs ?_ ?_ | refine subH_cons ?_ ?_) | (with_reducible first | exact slotsM_nil | exact objsM_nil | exact subH_nil | exact coL_nilm | exact Co.refl _ | exact CoL.refl _ | exact CoLL.refl _) | ((with_reducible first | refine zga ?_ | refine zgb ?_); rfl) | ((with_reducible refine zgc ?_); (first | (with_reducible rfl) | rfl | (simp; done))) | ((with_reducible first | refine zgd ?_ | refine zge ?_); (first | omega | (simp; done))) | (refine co_wrap ⟨?_, ?_⟩ ?_ <;> omega) | (exact Co.refl _) | (exact CoL.refl _) | (exact CoLL.refl _) | (refine co_own ?_; omega) | (refine co_int ?_; first | omega | (simp_all; done)) | (with_reducible first | refine coL_cons ?_ ?_ | refine coL_consm ?_ ?_) | ((refine qfor_next hJ (1, ?_) ?_ ?_ ?_; rotate_left 1; (with_reducible refine wk_self [] hm ?_ ?_ ?_ ?_) <;> (try simp only [zT, puth, Nat.reduceEqDiff, reduceIte, Nat.reduceAdd]))) | fail)
      all_goals (try dsimp only)
      all_goals (refine ⟨by omega, ?_⟩; rw [h5.out]; clear h5; refine to_cases ?_; unfold toF; (repeat' split) <;> first | rfl | (exfalso; simp_all; omega) | (exfalso; simp_all; done))
     ·replace h4 := Lib.hid h4
      repeat' (first | (with_reducible first | refine zA ?_ | refine swp_block1 ?_ | refine swp_block2 ?_ | refine zK ?_) | ((with_reducible first | refine swp_reg ?_ | refine swp_regd (by rw [hP]; exact mixed) ?_); (try rw [hP]); simp -implicitDefEqProofs [*]) | ((with_reducible first | refine swp_skip ?_ | refine swp_exit ?_); (try simp -implicitDefEqProofs [*])) | ((with_reducible refine swp_ret ?_); (try simp only [qseq_r, qblock_r, qloop_r])) | ((with_reducible refine swp_cond rfl (fun h => ?_) (fun h => ?_)) <;> have h' := h <;> (try simp at h') <;> (try subst h')) | ((with_reducible refine sopsg_cases (fun h => ?_) (fun h => ?_)) <;> have h' := h <;> (try simp at h') <;> (try subst h') <;> simp -implicitDefEqProofs [*]) | ((with_reducible refine sopsk_rg ?_ ?_); (first | omega | (unfold maxLen; omega)); simp -implicitDefEqProofs [*]) | (with_reducible first | refine zM hm ?_ | refine zN hm ?_ | refine zO hm ?_ | refine zP hm ?_) | fail)
      rw [h4.out]; rfl
    ·rw [if_neg he] at h4
     have ke : (e == 0) = false := by simpa using he
     replace h4 := Lib.hid h4
     repeat' (first | (with_reducible first | refine zA ?_ | refine swp_block1 ?_ | refine swp_block2 ?_ | refine zK ?_) | ((with_reducible first | refine swp_reg ?_ | refine swp_regd (by rw [hP]; exact mixed) ?_); (try rw [hP]); simp -implicitDefEqProofs [*]) | ((with_reducible first | refine swp_skip ?_ | refine swp_exit ?_); (try simp -implicitDefEqProofs [*])) | ((with_reducible refine swp_ret ?_); (try simp only [qseq_r, qblock_r, qloop_r])) | ((with_reducible refine swp_cond rfl (fun h => ?_) (fun h => ?_)) <;> have h' := h <;> (try simp at h') <;> (try subst h')) | ((with_reducible refine sopsg_cases (fun h => ?_) (fun h => ?_)) <;> have h' := h <;> (try simp at h') <;> (try subst h') <;> simp -implicitDefEqProofs [*]) | ((with_reducible refine sopsk_rg ?_ ?_); (first | omega | (unfold maxLen; omega)); simp -implicitDefEqProofs [*]) | (with_reducible first | refine zM hm ?_ | refine zN hm ?_ | refine zO hm ?_ | refine zP hm ?_) | fail)
     all_goals (rw [h4.out])
  ·have hI : F = if (1 : Int) = 0 then restF p i ([x.yes].drop 0) else 1 := hA
   replace kb := Lib.hid kb
   clear hA
   replace hI := Lib.hid hI
   repeat' (first | (with_reducible first | refine zA ?_ | refine swp_block1 ?_ | refine swp_block2 ?_ | refine zK ?_) | ((with_reducible first | refine swp_reg ?_ | refine swp_regd (by rw [hP]; exact mixed) ?_); (try rw [hP]); simp -implicitDefEqProofs [*]) | ((with_reducible first | refine swp_skip ?_ | refine swp_exit ?_); (try simp -implicitDefEqProofs [*])) | ((with_reducible refine swp_ret ?_); (try simp only [qseq_r, qblock_r, qloop_r])) | ((with_reducible refine swp_cond rfl (fun h => ?_) (fun h => ?_)) <;> have h' := h <;> (try simp at h') <;> (try subst h')) | ((with_reducible refine sopsg_cases (fun h => ?_) (fun h => ?_)) <;> have h' := h <;> (try simp at h') <;> (try subst h') <;> simp -implicitDefEqProofs [*]) | ((with_reducible refine sopsk_rg ?_ ?_); (first | omega | (unfold maxLen; omega)); simp -implicitDefEqProofs [*]) | (with_reducible first | refine zM hm ?_ | refine zN hm ?_ | refine zO hm ?_ | refine zP hm ?_) | fail)
   all_goals (try (exfalso; have q := kb.out; simp only [Bool.or_eq_true, decide_eq_true_eq] at q; omega))
   all_goals
    refine swp_block (swp_for (fun s (y : Nat × Int) => s.turn [(6, .int .i64 y.2), (8, .int .i64 y.1)] []) (fun y => y.1 ≤ 1 ∧ F = if y.2 = 0 then restF p i ([x.yes].drop y.1) else y.2) (fun y => 1 - y.1) (0, 1) ?_ ⟨by simp, hI.out⟩ ?_)
    ·repeat' (first | ((with_reducible refine wk_self [] hm ?_ ?_ ?_ ?_) <;> (try simp only [zT, puth, Nat.reduceEqDiff, reduceIte, Nat.reduceAdd])) | (with_reducible first | refine za ?_ ?_ | refine zb ?_ ?_ ?_ ?_ | refine zc ?_ ?_ ?_ ?_ | refine zd ?_ ?_ ?_ ?_ | refine objsM_abs ?_ ?_ | refine subH_cons ?_ ?_) | (with_reducible first | exact slotsM_nil | exact objsM_nil | exact subH_nil | exact coL_nilm | exact Co.refl _ | exact CoL.refl _ | exact CoLL.refl _) | ((with_reducible first | refine zga ?_ | refine zgb ?_); rfl) | ((with_reducible refine zgc ?_); (first | (with_reducible rfl) | rfl | (simp; done))) | ((with_reducible first | refine zgd ?_ | refine zge ?_); (first | omega | (simp; done))) | (refine co_wrap ⟨?_, ?_⟩ ?_ <;> omega) | (exact Co.refl _) | (exact CoL.refl _) | (exact CoLL.refl _) | (refine co_own ?_; omega) | (refine co_int ?_; first | omega | (simp_all; done)) | (with_reducible first | refine coL_cons ?_ ?_ | refine coL_consm ?_ ?_) | fail)
    rintro J hJ ⟨k, e⟩ ⟨h3, h4⟩
    unfold c_rnode_l1
    simp only [zT, puth, Nat.reduceEqDiff, reduceIte, Nat.reduceAdd] at h3 h4 ⊢
    by_cases he : e = 0
    ·subst he
     rw [if_pos rfl] at h4
     have hk : k = 0 ∨ k = 1 := by omega
     rcases hk with rfl | rfl
     ·have h5 : F = if toF p i x.yes = 0 then restF p i [] else toF p i x.yes := h4
      clear h4
      replace h5 := Lib.hid h5
      repeat' (first | (with_reducible first | refine zA ?_ | refine swp_block1 ?_ | refine swp_block2 ?_ | refine zK ?_) | ((with_reducible first | refine swp_reg ?_ | refine swp_regd (by rw [hP]; exact mixed) ?_); (try rw [hP]); simp -implicitDefEqProofs [*]) | ((with_reducible first | refine swp_skip ?_ | refine swp_exit ?_); (try simp -implicitDefEqProofs [*])) | ((with_reducible refine swp_ret ?_); (try simp only [qseq_r, qblock_r, qloop_r])) | ((with_reducible refine swp_cond rfl (fun h => ?_) (fun h => ?_)) <;> have h' := h <;> (try simp at h') <;> (try subst h')) | ((with_reducible refine sopsg_cases (fun h => ?_) (fun h => ?_)) <;> have h' := h <;> (try simp at h') <;> (try subst h') <;> simp -implicitDefEqProofs [*]) | ((with_reducible refine sopsk_rg ?_ ?_); (first | omega | (unfold maxLen; omega)); simp -implicitDefEqProofs [*]) | (with_reducible first | refine zM hm ?_ | refine zN hm ?_ | refine zO hm ?_ | refine zP hm ?_) | ((with_reducible refine wk_self [] hm ?_ ?_ ?_ ?_) <;> (try simp only [zT, puth, Nat.reduceEqDiff, reduceIte, Nat.reduceAdd])) | (with_reducible first | refine za ?_ ?_ | refine zb ?_ ?_ ?_ ?_ | refine zc ?_ ?_ ?_ ?_ | refine zd ?_ ?_ ?_ ?_ | refine objsM_abs ?_ ?_ | refine subH_cons ?_ ?_) | (with_reducible first | exact slotsM_nil | exact objsM_nil | exact subH_nil | exact coL_nilm | exact Co.refl _ | exact CoL.refl _ | exact CoLL.refl _) | ((with_reducible first | refine zga ?_ | refine zgb ?_); rfl) | ((with_reducible refine zgc ?_); (first | (with_reducible rfl) | rfl | (simp; done))) | ((with_reducible first | refine zgd ?_ | refine zge ?_); (first | omega | (simp; done))) | (refine co_wrap ⟨?_, ?_⟩ ?_ <;> omega) | (exact Co.refl _) | (exact CoL.refl _) | (exact CoLL.refl _) | (refine co_own ?_; omega) | (refine co_int ?_; first | omega | (simp_all; done)) | (with_reducible first | refine coL_cons ?_ ?_ | refine coL_consm ?_ ?_) | ((refine qfor_next hJ (1, ?_) ?_ ?_ ?_; rotate_left 1; (with_reducible refine wk_self [] hm ?_ ?_ ?_ ?_) <;> (try simp only [zT, puth, Nat.reduceEqDiff, reduceIte, Nat.reduceAdd]))) | fail)
      all_goals (try dsimp only)
      all_goals (refine ⟨by omega, ?_⟩; rw [h5.out]; clear h5; refine to_cases ?_; unfold toF; (repeat' split) <;> first | rfl | (exfalso; simp_all; omega) | (exfalso; simp_all; done))
     ·replace h4 := Lib.hid h4
      repeat' (first | (with_reducible first | refine zA ?_ | refine swp_block1 ?_ | refine swp_block2 ?_ | refine zK ?_) | ((with_reducible first | refine swp_reg ?_ | refine swp_regd (by rw [hP]; exact mixed) ?_); (try rw [hP]); simp -implicitDefEqProofs [*]) | ((with_reducible first | refine swp_skip ?_ | refine swp_exit ?_); (try simp -implicitDefEqProofs [*])) | ((with_reducible refine swp_ret ?_); (try simp only [qseq_r, qblock_r, qloop_r])) | ((with_reducible refine swp_cond rfl (fun h => ?_) (fun h => ?_)) <;> have h' := h <;> (try simp at h') <;> (try subst h')) | ((with_reducible refine sopsg_cases (fun h => ?_) (fun h => ?_)) <;> have h' := h <;> (try simp at h') <;> (try subst h') <;> simp -implicitDefEqProofs [*]) | ((with_reducible refine sopsk_rg ?_ ?_); (first | omega | (unfold maxLen; omega)); simp -implicitDefEqProofs [*]) | (with_reducible first | refine zM hm ?_ | refine zN hm ?_ | refine zO hm ?_ | refine zP hm ?_) | fail)
      rw [h4.out]; rfl
    ·rw [if_neg he] at h4
     have ke : (e == 0) = false := by simpa using he
     replace h4 := Lib.hid h4
     repeat' (first | (with_reducible first | refine zA ?_ | refine swp_block1 ?_ | refine swp_block2 ?_ | refine zK ?_) | ((with_reducible first | refine swp_reg ?_ | refine swp_regd (by rw [hP]; exact mixed) ?_); (try rw [hP]); simp -implicitDefEqProofs [*]) | ((with_reducible first | refine swp_skip ?_ | refine swp_exit ?_); (try simp -implicitDefEqProofs [*])) | ((with_reducible refine swp_ret ?_); (try simp only [qseq_r, qblock_r, qloop_r])) | ((with_reducible refine swp_cond rfl (fun h => ?_) (fun h => ?_)) <;> have h' := h <;> (try simp at h') <;> (try subst h')) | ((with_reducible refine sopsg_cases (fun h => ?_) (fun h => ?_)) <;> have h' := h <;> (try simp at h') <;> (try subst h') <;> simp -implicitDefEqProofs [*]) | ((with_reducible refine sopsk_rg ?_ ?_); (first | omega | (unfold maxLen; omega)); simp -implicitDefEqProofs [*]) | (with_reducible first | refine zM hm ?_ | refine zN hm ?_ | refine zO hm ?_ | refine zP hm ?_) | fail)
     all_goals (rw [h4.out])
 have k2 : (x.kind == 2) = false := by simpa using kn2
 rw [if_neg kn2] at hA
 clear kn2
 by_cases kn3 : x.kind = 3
 ·have k3 : (x.kind == 3) = true := by simpa using kn3
  rw [if_pos kn3] at hA
  have hce : ∀ q, SCalls Try.prog 73 [.agg (planc p), pushes x.e, .nilsl] [] q (.int .i64 (exprF p x.e [])) [] := fun q => scalls_co (rexpr_s p x.e [] hw q) ⟨Co.refl _, Co.refl _, Co.nilsl _, trivial⟩
  generalize exprF p x.e [] = E at hA hce
  have hI : F = if E = 0 then restF p i ([x.yes, x.no].drop 0) else E := hA
  clear kn3 hA
  replace hI := Lib.hid hI
  replace hce := Lib.hid hce
  repeat' (first | (with_reducible first | refine zA ?_ | refine swp_block1 ?_ | refine swp_block2 ?_ | refine zK ?_) | ((with_reducible first | refine swp_reg ?_ | refine swp_regd (by rw [hP]; exact mixed) ?_); (try rw [hP]); simp -implicitDefEqProofs [*]) | ((with_reducible first | refine swp_skip ?_ | refine swp_exit ?_); (try simp -implicitDefEqProofs [*])) | ((with_reducible refine swp_ret ?_); (try simp only [qseq_r, qblock_r, qloop_r])) | ((with_reducible refine swp_cond rfl (fun h => ?_) (fun h => ?_)) <;> have h' := h <;> (try simp at h') <;> (try subst h')) | ((with_reducible refine sopsg_cases (fun h => ?_) (fun h => ?_)) <;> have h' := h <;> (try simp at h') <;> (try subst h') <;> simp -implicitDefEqProofs [*]) | ((with_reducible refine sopsk_rg ?_ ?_); (first | omega | (unfold maxLen; omega)); simp -implicitDefEqProofs [*]) | (refine call_q (hce.out _) ?_; simp -implicitDefEqProofs [*]) | (with_reducible first | refine zM hm ?_ | refine zN hm ?_ | refine zO hm ?_ | refine zP hm ?_) | fail)
  refine swp_block (swp_for (fun s (y : Nat × Int) => s.turn [(6, .int .i64 y.2), (8, .int .i64 y.1)] []) (fun y => y.1 ≤ 2 ∧ F = if y.2 = 0 then restF p i ([x.yes, x.no].drop y.1) else y.2) (fun y => 2 - y.1) (0, E) ?_ ⟨by simp, hI.out⟩ ?_)
  ·repeat' (first | ((with_reducible refine wk_self [] hm ?_ ?_ ?_ ?_) <;> (try simp only [zT, puth, Nat.reduceEqDiff, reduceIte, Nat.reduceAdd])) | (with_reducible first | refine za ?_ ?_ | refine zb ?_ ?_ ?_ ?_ | refine zc ?_ ?_ ?_ ?_ | refine zd ?_ ?_ ?_ ?_ | refine objsM_abs ?_ ?_ | refine subH_cons ?_ ?_) | (with_reducible first | exact slotsM_nil | exact objsM_nil | exact subH_nil | exact coL_nilm | exact Co.refl _ | exact CoL.refl _ | exact CoLL.refl _) | ((with_reducible first | refine zga ?_ | refine zgb ?_); rfl) | ((with_reducible refine zgc ?_); (first | (with_reducible rfl) | rfl | (simp; done))) | ((with_reducible first | refine zgd ?_ | refine zge ?_); (first | omega | (simp; done))) | (refine co_wrap ⟨?_, ?_⟩ ?_ <;> omega) | (exact Co.refl _) | (exact CoL.refl _) | (exact CoLL.refl _) | (refine co_own ?_; omega) | (refine co_int ?_; first | omega | (simp_all; done)) | (with_reducible first | refine coL_cons ?_ ?_ | refine coL_consm ?_ ?_) | fail)
  rintro J hJ ⟨k, e⟩ ⟨h3, h4⟩
  unfold c_rnode_l1
  simp only [zT, puth, Nat.reduceEqDiff, reduceIte, Nat.reduceAdd] at h3 h4 ⊢
  by_cases he : e = 0
  ·subst he
   rw [if_pos rfl] at h4
   have hk : k = 0 ∨ k = 1 ∨ k = 2 := by omega
   rcases hk with rfl | rfl | rfl
   ·have h5 : F = if toF p i x.yes = 0 then restF p i [x.no] else toF p i x.yes := h4
    clear h4
    replace h5 := Lib.hid h5
    repeat' (first | (with_reducible first | refine zA ?_ | refine swp_block1 ?_ | refine swp_block2 ?_ | refine zK ?_) | ((with_reducible first | refine swp_reg ?_ | refine swp_regd (by rw [hP]; exact mixed) ?_); (try rw [hP]); simp -implicitDefEqProofs [*]) | ((with_reducible first | refine swp_skip ?_ | refine swp_exit ?_); (try simp -implicitDefEqProofs [*])) | ((with_reducible refine swp_ret ?_); (try simp only [qseq_r, qblock_r, qloop_r])) | ((with_reducible refine swp_cond rfl (fun h => ?_) (fun h => ?_)) <;> have h' := h <;> (try simp at h') <;> (try subst h')) | ((with_reducible refine sopsg_cases (fun h => ?_) (fun h => ?_)) <;> have h' := h <;> (try simp at h') <;> (try subst h') <;> simp -implicitDefEqProofs [*]) | ((with_reducible refine sopsk_rg ?_ ?_); (first | omega | (unfold maxLen; omega)); simp -implicitDefEqProofs [*]) | (with_reducible first | refine zM hm ?_ | refine zN hm ?_ | refine zO hm ?_ | refine zP hm ?_) | ((with_reducible refine wk_self [] hm ?_ ?_ ?_ ?_) <;> (try simp only [zT, puth, Nat.reduceEqDiff, reduceIte, Nat.reduceAdd])) | (with_reducible first | refine za ?_ ?_ | refine zb ?_ ?_ ?_ ?_ | refine zc ?_ ?_ ?_ ?_ | refine zd ?_ ?_ ?_ ?_ | refine objsM_abs ?_ ?_ | refine subH_cons ?_ ?_) | (with_reducible first | exact slotsM_nil | exact objsM_nil | exact subH_nil | exact coL_nilm | exact Co.refl _ | exact CoL.refl _ | exact CoLL.refl _) | ((with_reducible first | refine zga ?_ | refine zgb ?_); rfl) | ((with_reducible refine zgc ?_); (first | (with_reducible rfl) | rfl | (simp; done))) | ((with_reducible first | refine zgd ?_ | refine zge ?_); (first | omega | (simp; done))) | (refine co_wrap ⟨?_, ?_⟩ ?_ <;> omega) | (exact Co.refl _) | (exact CoL.refl _) | (exact CoLL.refl _) | (refine co_own ?_; omega) | (refine co_int ?_; first | omega | (simp_all; done)) | (with_reducible first | refine coL_cons ?_ ?_ | refine coL_consm ?_ ?_) | ((refine qfor_next hJ (1, ?_) ?_ ?_ ?_; rotate_left 1; (with_reducible refine wk_self [] hm ?_ ?_ ?_ ?_) <;> (try simp only [zT, puth, Nat.reduceEqDiff, reduceIte, Nat.reduceAdd]))) | fail)
    all_goals (try dsimp only)
    all_goals (refine ⟨by omega, ?_⟩; rw [h5.out]; clear h5; refine to_cases ?_; unfold toF; (repeat' split) <;> first | rfl | (exfalso; simp_all; omega) | (exfalso; simp_all; done))
   ·have h5 : F = if toF p i x.no = 0 then restF p i [] else toF p i x.no := h4
    clear h4
    replace h5 := Lib.hid h5
    repeat' (first | (with_reducible first | refine zA ?_ | refine swp_block1 ?_ | refine swp_block2 ?_ | refine zK ?_) | ((with_reducible first | refine swp_reg ?_ | refine swp_regd (by rw [hP]; exact mixed) ?_); (try rw [hP]); simp -implicitDefEqProofs [*]) | ((with_reducible first | refine swp_skip ?_ | refine swp_exit ?_); (try simp -implicitDefEqProofs [*])) | ((with_reducible refine swp_ret ?_); (try simp only [qseq_r, qblock_r, qloop_r])) | ((with_reducible refine swp_cond rfl (fun h => ?_) (fun h => ?_)) <;> have h' := h <;> (try simp at h') <;> (try subst h')) | ((with_reducible refine sopsg_cases (fun h => ?_) (fun h => ?_)) <;> have h' := h <;> (try simp at h') <;> (try subst h') <;> simp -implicitDefEqProofs [*]) | ((with_reducible refine sopsk_rg ?_ ?_); (first | omega | (unfold maxLen; omega)); simp -implicitDefEqProofs [*]) | (with_reducible first | refine zM hm ?_ | refine zN hm ?_ | refine zO hm ?_ | refine zP hm ?_) | ((with_reducible refine wk_self [] hm ?_ ?_ ?_ ?_) <;> (try simp only [zT, puth, Nat.reduceEqDiff, reduceIte, Nat.reduceAdd])) | (with_reducible first | refine za ?_ ?_ | refine zb ?_ ?_ ?_ ?_ | refine zc ?_ ?_ ?_ ?_ | refine zd ?_ ?_ ?_ ?_ | refine objsM_abs ?_ ?_ | refine subH_cons ?_ ?_) | (with_reducible first | exact slotsM_nil | exact objsM_nil | exact subH_nil | exact coL_nilm | exact Co.refl _ | exact CoL.refl _ | exact CoLL.refl _) | ((with_reducible first | refine zga ?_ | refine zgb ?_); rfl) | ((with_reducible refine zgc ?_); (first | (with_reducible rfl) | rfl | (simp; done))) | ((with_reducible first | refine zgd ?_ | refine zge ?_); (first | omega | (simp; done))) | (refine co_wrap ⟨?_, ?_⟩ ?_ <;> omega) | (exact Co.refl _) | (exact CoL.refl _) | (exact CoLL.refl _) | (refine co_own ?_; omega) | (refine co_int ?_; first | omega | (simp_all; done)) | (with_reducible first | refine coL_cons ?_ ?_ | refine coL_consm ?_ ?_) | ((refine qfor_next hJ (2, ?_) ?_ ?_ ?_; rotate_left 1; (with_reducible refine wk_self [] hm ?_ ?_ ?_ ?_) <;> (try simp only [zT, puth, Nat.reduceEqDiff, reduceIte, Nat.reduceAdd]))) | fail)
    all_goals (try dsimp only)
    all_goals (refine ⟨by omega, ?_⟩; rw [h5.out]; clear h5; refine to_cases ?_; unfold toF; (repeat' split) <;> first | rfl | (exfalso; simp_all; omega) | (exfalso; simp_all; done))
   ·replace h4 := Lib.hid h4
    repeat' (first | (with_reducible first | refine zA ?_ | refine swp_block1 ?_ | refine swp_block2 ?_ | refine zK ?_) | ((with_reducible first | refine swp_reg ?_ | refine swp_regd (by rw [hP]; exact mixed) ?_); (try rw [hP]); simp -implicitDefEqProofs [*]) | ((with_reducible first | refine swp_skip ?_ | refine swp_exit ?_); (try simp -implicitDefEqProofs [*])) | ((with_reducible refine swp_ret ?_); (try simp only [qseq_r, qblock_r, qloop_r])) | ((with_reducible refine swp_cond rfl (fun h => ?_) (fun h => ?_)) <;> have h' := h <;> (try simp at h') <;> (try subst h')) | ((with_reducible refine sopsg_cases (fun h => ?_) (fun h => ?_)) <;> have h' := h <;> (try simp at h') <;> (try subst h') <;> simp -implicitDefEqProofs [*]) | ((with_reducible refine sopsk_rg ?_ ?_); (first | omega | (unfold maxLen; omega)); simp -implicitDefEqProofs [*]) | (with_reducible first | refine zM hm ?_ | refine zN hm ?_ | refine zO hm ?_ | refine zP hm ?_) | fail)
    rw [h4.out]; rfl
  ·rw [if_neg he] at h4
   have ke : (e == 0) = false := by simpa using he
   replace h4 := Lib.hid h4
   repeat' (first | (with_reducible first | refine zA ?_ | refine swp_block1 ?_ | refine swp_block2 ?_ | refine zK ?_) | ((with_reducible first | refine swp_reg ?_ | refine swp_regd (by rw [hP]; exact mixed) ?_); (try rw [hP]); simp -implicitDefEqProofs [*]) | ((with_reducible first | refine swp_skip ?_ | refine swp_exit ?_); (try simp -implicitDefEqProofs [*])) | ((with_reducible refine swp_ret ?_); (try simp only [qseq_r, qblock_r, qloop_r])) | ((with_reducible refine swp_cond rfl (fun h => ?_) (fun h => ?_)) <;> have h' := h <;> (try simp at h') <;> (try subst h')) | ((with_reducible refine sopsg_cases (fun h => ?_) (fun h => ?_)) <;> have h' := h <;> (try simp at h') <;> (try subst h') <;> simp -implicitDefEqProofs [*]) | ((with_reducible refine sopsk_rg ?_ ?_); (first | omega | (unfold maxLen; omega)); simp -implicitDefEqProofs [*]) | (with_reducible first | refine zM hm ?_ | refine zN hm ?_ | refine zO hm ?_ | refine zP hm ?_) | fail)
   all_goals (rw [h4.out])
 have k3 : (x.kind == 3) = false := by simpa using kn3
 rw [if_neg kn3] at hA
 clear kn3
 by_cases kn4 : x.kind = 4
 ·have k4 : (x.kind == 4) = true := by simpa using kn4
  rw [if_pos kn4] at hA
  have hch := fun q => rhead_s p x.n q
  generalize isHead p x.n = H at hA hch
  clear kn4
  cases kH : H <;> rw [kH] at hA hch
  ·have hI : F = if (1 : Int) = 0 then restF p i ([x.yes, x.no].drop 0) else 1 := hA
   clear hA
   replace hI := Lib.hid hI
   repeat' (first | (with_reducible first | refine zA ?_ | refine swp_block1 ?_ | refine swp_block2 ?_ | refine zK ?_) | ((with_reducible first | refine swp_reg ?_ | refine swp_regd (by rw [hP]; exact mixed) ?_); (try rw [hP]); simp -implicitDefEqProofs [*]) | ((with_reducible first | refine swp_skip ?_ | refine swp_exit ?_); (try simp -implicitDefEqProofs [*])) | ((with_reducible refine swp_ret ?_); (try simp only [qseq_r, qblock_r, qloop_r])) | ((with_reducible refine swp_cond rfl (fun h => ?_) (fun h => ?_)) <;> have h' := h <;> (try simp at h') <;> (try subst h')) | ((with_reducible refine sopsg_cases (fun h => ?_) (fun h => ?_)) <;> have h' := h <;> (try simp at h') <;> (try subst h') <;> simp -implicitDefEqProofs [*]) | ((with_reducible refine sopsk_rg ?_ ?_); (first | omega | (unfold maxLen; omega)); simp -implicitDefEqProofs [*]) | (refine call_q (hch _) ?_; simp -implicitDefEqProofs [*]) | (with_reducible first | refine zM hm ?_ | refine zN hm ?_ | refine zO hm ?_ | refine zP hm ?_) | fail)
   refine swp_block (swp_for (fun s (y : Nat × Int) => s.turn [(6, .int .i64 y.2), (8, .int .i64 y.1)] []) (fun y => y.1 ≤ 2 ∧ F = if y.2 = 0 then restF p i ([x.yes, x.no].drop y.1) else y.2) (fun y => 2 - y.1) (0, 1) ?_ ⟨by simp, hI.out⟩ ?_)
   ·repeat' (first | ((with_reducible refine wk_self [] hm ?_ ?_ ?_ ?_) <;> (try simp only [zT, puth, Nat.reduceEqDiff, reduceIte, Nat.reduceAdd])) | (with_reducible first | refine za ?_ ?_ | refine zb ?_ ?_ ?_ ?_ | refine zc ?_ ?_ ?_ ?_ | refine zd ?_ ?_ ?_ ?_ | refine objsM_abs ?_ ?_ | refine subH_cons ?_ ?_) | (with_reducible first | exact slotsM_nil | exact objsM_nil | exact subH_nil | exact coL_nilm | exact Co.refl _ | exact CoL.refl _ | exact CoLL.refl _) | ((with_reducible first | refine zga ?_ | refine zgb ?_); rfl) | ((with_reducible refine zgc ?_); (first | (with_reducible rfl) | rfl | (simp; done))) | ((with_reducible first | refine zgd ?_ | refine zge ?_); (first | omega | (simp; done))) | (refine co_wrap ⟨?_, ?_⟩ ?_ <;> omega) | (exact Co.refl _) | (exact CoL.refl _) | (exact CoLL.refl _) | (refine co_own ?_; omega) | (refine co_int ?_; first | omega | (simp_all; done)) | (with_reducible first | refine coL_cons ?_ ?_ | refine coL_consm ?_ ?_) | fail)
   rintro J hJ ⟨k, e⟩ ⟨h3, h4⟩
   unfold c_rnode_l1
   simp only [zT, puth, Nat.reduceEqDiff, reduceIte, Nat.reduceAdd] at h3 h4 ⊢
   by_cases he : e = 0
   ·subst he
    rw [if_pos rfl] at h4
    have hk : k = 0 ∨ k = 1 ∨ k = 2 := by omega
    rcases hk with rfl | rfl | rfl
    ·have h5 : F = if toF p i x.yes = 0 then restF p i [x.no] else toF p i x.yes := h4
     clear h4
     replace h5 := Lib.hid h5
     repeat' (first | (with_reducible first | refine zA ?_ | refine swp_block1 ?_ | refine swp_block2 ?_ | refine zK ?_) | ((with_reducible first | refine swp_reg ?_ | refine swp_regd (by rw [hP]; exact mixed) ?_); (try rw [hP]); simp -implicitDefEqProofs [*]) | ((with_reducible first | refine swp_skip ?_ | refine swp_exit ?_); (try simp -implicitDefEqProofs [*])) | ((with_reducible refine swp_ret ?_); (try simp only [qseq_r, qblock_r, qloop_r])) | ((with_reducible refine swp_cond rfl (fun h => ?_) (fun h => ?_)) <;> have h' := h <;> (try simp at h') <;> (try subst h')) | ((with_reducible refine sopsg_cases (fun h => ?_) (fun h => ?_)) <;> have h' := h <;> (try simp at h') <;> (try subst h') <;> simp -implicitDefEqProofs [*]) | ((with_reducible refine sopsk_rg ?_ ?_); (first | omega | (unfold maxLen; omega)); simp -implicitDefEqProofs [*]) | (with_reducible first | refine zM hm ?_ | refine zN hm ?_ | refine zO hm ?_ | refine zP hm ?_) | ((with_reducible refine wk_self [] hm ?_ ?_ ?_ ?_) <;> (try simp only [zT, puth, Nat.reduceEqDiff, reduceIte, Nat.reduceAdd])) | (with_reducible first | refine za ?_ ?_ | refine zb ?_ ?_ ?_ ?_ | refine zc ?_ ?_ ?_ ?_ | refine zd ?_ ?_ ?_ ?_ | refine objsM_abs ?_ ?_ | refine subH_cons ?_ ?_) | (with_reducible first | exact slotsM_nil | exact objsM_nil | exact subH_nil | exact coL_nilm | exact Co.refl _ | exact CoL.refl _ | exact CoLL.refl _) | ((with_reducible first | refine zga ?_ | refine zgb ?_); rfl) | ((with_reducible refine zgc ?_); (first | (with_reducible rfl) | rfl | (simp; done))) | ((with_reducible first | refine zgd ?_ | refine zge ?_); (first | omega | (simp; done))) | (refine co_wrap ⟨?_, ?_⟩ ?_ <;> omega) | (exact Co.refl _) | (exact CoL.refl _) | (exact CoLL.refl _) | (refine co_own ?_; omega) | (refine co_int ?_; first | omega | (simp_all; done)) | (with_reducible first | refine coL_cons ?_ ?_ | refine coL_consm ?_ ?_) | ((refine qfor_next hJ (1, ?_) ?_ ?_ ?_; rotate_left 1; (with_reducible refine wk_self [] hm ?_ ?_ ?_ ?_) <;> (try simp only [zT, puth, Nat.reduceEqDiff, reduceIte, Nat.reduceAdd]))) | fail)
     all_goals (try dsimp only)
     all_goals (refine ⟨by omega, ?_⟩; rw [h5.out]; clear h5; refine to_cases ?_; unfold toF; (repeat' split) <;> first | rfl | (exfalso; simp_all; omega) | (exfalso; simp_all; done))
    ·have h5 : F = if toF p i x.no = 0 then restF p i [] else toF p i x.no := h4
     clear h4
     replace h5 := Lib.hid h5
     repeat' (first | (with_reducible first | refine zA ?_ | refine swp_block1 ?_ | refine swp_block2 ?_ | refine zK ?_) | ((with_reducible first | refine swp_reg ?_ | refine swp_regd (by rw [hP]; exact mixed) ?_); (try rw [hP]); simp -implicitDefEqProofs [*]) | ((with_reducible first | refine swp_skip ?_ | refine swp_exit ?_); (try simp -implicitDefEqProofs [*])) | ((with_reducible refine swp_ret ?_); (try simp only [qseq_r, qblock_r, qloop_r])) | ((with_reducible refine swp_cond rfl (fun h => ?_) (fun h => ?_)) <;> have h' := h <;> (try simp at h') <;> (try subst h')) | ((with_reducible refine sopsg_cases (fun h => ?_) (fun h => ?_)) <;> have h' := h <;> (try simp at h') <;> (try subst h') <;> simp -implicitDefEqProofs [*]) | ((with_reducible refine sopsk_rg ?_ ?_); (first | omega | (unfold maxLen; omega)); simp -implicitDefEqProofs [*]) | (with_reducible first | refine zM hm ?_ | refine zN hm ?_ | refine zO hm ?_ | refine zP hm ?_) | ((with_reducible refine wk_self [] hm ?_ ?_ ?_ ?_) <;> (try simp only [zT, puth, Nat.reduceEqDiff, reduceIte, Nat.reduceAdd])) | (with_reducible first | refine za ?_ ?_ | refine zb ?_ ?_ ?_ ?_ | refine zc ?_ ?_ ?_ ?_ | refine zd ?_ ?_ ?_ ?_ | refine objsM_abs ?_ ?_ | refine subH_cons ?_ ?_) | (with_reducible first | exact slotsM_nil | exact objsM_nil | exact subH_nil | exact coL_nilm | exact Co.refl _ | exact CoL.refl _ | exact CoLL.refl _) | ((with_reducible first | refine zga ?_ | refine zgb ?_); rfl) | ((with_reducible refine zgc ?_); (first | (with_reducible rfl) | rfl | (simp; done))) | ((with_reducible first | refine zgd ?_ | refine zge ?_); (first | omega | (simp; done))) | (refine co_wrap ⟨?_, ?_⟩ ?_ <;> omega) | (exact Co.refl _) | (exact CoL.refl _) | (exact CoLL.refl _) | (refine co_own ?_; omega) | (refine co_int ?_; first | omega | (simp_all; done)) | (with_reducible first | refine coL_cons ?_ ?_ | refine coL_consm ?_ ?_) | ((refine qfor_next hJ (2, ?_) ?_ ?_ ?_; rotate_left 1; (with_reducible refine wk_self [] hm ?_ ?_ ?_ ?_) <;> (try simp only [zT, puth, Nat.reduceEqDiff, reduceIte, Nat.reduceAdd]))) | fail)
     all_goals (try dsimp only)
     all_goals (refine ⟨by omega, ?_⟩; rw [h5.out]; clear h5; refine to_cases ?_; unfold toF; (repeat' split) <;> first | rfl | (exfalso; simp_all; omega) | (exfalso; simp_all; done))
    ·replace h4 := Lib.hid h4
     repeat' (first | (with_reducible first | refine zA ?_ | refine swp_block1 ?_ | refine swp_block2 ?_ | refine zK ?_) | ((with_reducible first | refine swp_reg ?_ | refine swp_regd (by rw [hP]; exact mixed) ?_); (try rw [hP]); simp -implicitDefEqProofs [*]) | ((with_reducible first | refine swp_skip ?_ | refine swp_exit ?_); (try simp -implicitDefEqProofs [*])) | ((with_reducible refine swp_ret ?_); (try simp only [qseq_r, qblock_r, qloop_r])) | ((with_reducible refine swp_cond rfl (fun h => ?_) (fun h => ?_)) <;> have h' := h <;> (try simp at h') <;> (try subst h')) | ((with_reducible refine sopsg_cases (fun h => ?_) (fun h => ?_)) <;> have h' := h <;> (try simp at h') <;> (try subst h') <;> simp -implicitDefEqProofs [*]) | ((with_reducible refine sopsk_rg ?_ ?_); (first | omega | (unfold maxLen; omega)); simp -implicitDefEqProofs [*]) | (with_reducible first | refine zM hm ?_ | refine zN hm ?_ | refine zO hm ?_ | refine zP hm ?_) | fail)
     rw [h4.out]; rfl
   ·rw [if_neg he] at h4
    have ke : (e == 0) = false := by simpa using he
    replace h4 := Lib.hid h4
    repeat' (first | (with_reducible first | refine zA ?_ | refine swp_block1 ?_ | refine swp_block2 ?_ | refine zK ?_) | ((with_reducible first | refine swp_reg ?_ | refine swp_regd (by rw [hP]; exact mixed) ?_); (try rw [hP]); simp -implicitDefEqProofs [*]) | ((with_reducible first | refine swp_skip ?_ | refine swp_exit ?_); (try simp -implicitDefEqProofs [*])) | ((with_reducible refine swp_ret ?_); (try simp only [qseq_r, qblock_r, qloop_r])) | ((with_reducible refine swp_cond rfl (fun h => ?_) (fun h => ?_)) <;> have h' := h <;> (try simp at h') <;> (try subst h')) | ((with_reducible refine sopsg_cases (fun h => ?_) (fun h => ?_)) <;> have h' := h <;> (try simp at h') <;> (try subst h') <;> simp -implicitDefEqProofs [*]) | ((with_reducible refine sopsk_rg ?_ ?_); (first | omega | (unfold maxLen; omega)); simp -implicitDefEqProofs [*]) | (with_reducible first | refine zM hm ?_ | refine zN hm ?_ | refine zO hm ?_ | refine zP hm ?_) | fail)
    all_goals (rw [h4.out])
  ·have hI : F = if (0 : Int) = 0 then restF p i ([x.yes, x.no].drop 0) else 0 := hA
   clear hA
   replace hI := Lib.hid hI
   repeat' (first | (with_reducible first | refine zA ?_ | refine swp_block1 ?_ | refine swp_block2 ?_ | refine zK ?_) | ((with_reducible first | refine swp_reg ?_ | refine swp_regd (by rw [hP]; exact mixed) ?_); (try rw [hP]); simp -implicitDefEqProofs [*]) | ((with_reducible first | refine swp_skip ?_ | refine swp_exit ?_); (try simp -implicitDefEqProofs [*])) | ((with_reducible refine swp_ret ?_); (try simp only [qseq_r, qblock_r, qloop_r])) | ((with_reducible refine swp_cond rfl (fun h => ?_) (fun h => ?_)) <;> have h' := h <;> (try simp at h') <;> (try subst h')) | ((with_reducible refine sopsg_cases (fun h => ?_) (fun h => ?_)) <;> have h' := h <;> (try simp at h') <;> (try subst h') <;> simp -implicitDefEqProofs [*]) | ((with_reducible refine sopsk_rg ?_ ?_); (first | omega | (unfold maxLen; omega)); simp -implicitDefEqProofs [*]) | (refine call_q (hch _) ?_; simp -implicitDefEqProofs [*]) | (with_reducible first | refine zM hm ?_ | refine zN hm ?_ | refine zO hm ?_ | refine zP hm ?_) | fail)
   refine swp_block (swp_for (fun s (y : Nat × Int) => s.turn [(6, .int .i64 y.2), (8, .int .i64 y.1)] []) (fun y => y.1 ≤ 2 ∧ F = if y.2 = 0 then restF p i ([x.yes, x.no].drop y.1) else y.2) (fun y => 2 - y.1) (0, 0) ?_ ⟨by simp, hI.out⟩ ?_)
   ·repeat' (first | ((with_reducible refine wk_self [] hm ?_ ?_ ?_ ?_) <;> (try simp only [zT, puth, Nat.reduceEqDiff, reduceIte, Nat.reduceAdd])) | (with_reducible first | refine za ?_ ?_ | refine zb ?_ ?_ ?_ ?_ | refine zc ?_ ?_ ?_ ?_ | refine zd ?_ ?_ ?_ ?_ | refine objsM_abs ?_ ?_ | refine subH_cons ?_ ?_) | (with_reducible first | exact slotsM_nil | exact objsM_nil | exact subH_nil | exact coL_nilm | exact Co.refl _ | exact CoL.refl _ | exact CoLL.refl _) | ((with_reducible first | refine zga ?_ | refine zgb ?_); rfl) | ((with_reducible refine zgc ?_); (first | (with_reducible rfl) | rfl | (simp; done))) | ((with_reducible first | refine zgd ?_ | refine zge ?_); (first | omega | (simp; done))) | (refine co_wrap ⟨?_, ?_⟩ ?_ <;> omega) | (exact Co.refl _) | (exact CoL.refl _) | (exact CoLL.refl _) | (refine co_own ?_; omega) | (refine co_int ?_; first | omega | (simp_all; done)) | (with_reducible first | refine coL_cons ?_ ?_ | refine coL_consm ?_ ?_) | fail)
   rintro J hJ ⟨k, e⟩ ⟨h3, h4⟩
   unfold c_rnode_l1
   simp only [zT, puth, Nat.reduceEqDiff, reduceIte, Nat.reduceAdd] at h3 h4 ⊢
   by_cases he : e = 0
   ·subst he
    rw [if_pos rfl] at h4
    have hk : k = 0 ∨ k = 1 ∨ k = 2 := by omega
    rcases hk with rfl | rfl | rfl
    ·have h5 : F = if toF p i x.yes = 0 then restF p i [x.no] else toF p i x.yes := h4
     clear h4
     replace h5 := Lib.hid h5
     repeat' (first | (with_reducible first | refine zA ?_ | refine swp_block1 ?_ | refine swp_block2 ?_ | refine zK ?_) | ((with_reducible first | refine swp_reg ?_ | refine swp_regd (by rw [hP]; exact mixed) ?_); (try rw [hP]); simp -implicitDefEqProofs [*]) | ((with_reducible first | refine swp_skip ?_ | refine swp_exit ?_); (try simp -implicitDefEqProofs [*])) | ((with_reducible refine swp_ret ?_); (try simp only [qseq_r, qblock_r, qloop_r])) | ((with_reducible refine swp_cond rfl (fun h => ?_) (fun h => ?_)) <;> have h' := h <;> (try simp at h') <;> (try subst h')) | ((with_reducible refine sopsg_cases (fun h => ?_) (fun h => ?_)) <;> have h' := h <;> (try simp at h') <;> (try subst h') <;> simp -implicitDefEqProofs [*]) | ((with_reducible refine sopsk_rg ?_ ?_); (first | omega | (unfold maxLen; omega)); simp -implicitDefEqProofs [*]) | (with_reducible first | refine zM hm ?_ | refine zN hm ?_ | refine zO hm ?_ | refine zP hm ?_) | ((with_reducible refine wk_self [] hm ?_ ?_ ?_ ?_) <;> (try simp only [zT, puth, Nat.reduceEqDiff, reduceIte, Nat.reduceAdd])) | (with_reducible first | refine za ?_ ?_ | refine zb ?_ ?_ ?_ ?_ | refine zc ?_ ?_ ?_ ?_ | refine zd ?_ ?_ ?_ ?_ | refine objsM_abs ?_ ?_ | refine subH_cons ?_ ?_) | (with_reducible first | exact slotsM_nil | exact objsM_nil | exact subH_nil | exact coL_nilm | exact Co.refl _ | exact CoL.refl _ | exact CoLL.refl _) | ((with_reducible first | refine zga ?_ | refine zgb ?_); rfl) | ((with_reducible refine zgc ?_); (first | (with_reducible rfl) | rfl | (simp; done))) | ((with_reducible first | refine zgd ?_ | refine zge ?_); (first | omega | (simp; done))) | (refine co_wrap ⟨?_, ?_⟩ ?_ <;> omega) | (exact Co.refl _) | (exact CoL.refl _) | (exact CoLL.refl _) | (refine co_own ?_; omega) | (refine co_int ?_; first | omega | (simp_all; done)) | (with_reducible first | refine coL_cons ?_ ?_ | refine coL_consm ?_ ?_) | ((refine qfor_next hJ (1, ?_) ?_ ?_ ?_; rotate_left 1; (with_reducible refine wk_self [] hm ?_ ?_ ?_ ?_) <;> (try simp only [zT, puth, Nat.reduceEqDiff, reduceIte, Nat.reduceAdd]))) | fail)
     all_goals (try dsimp only)
     all_goals (refine ⟨by omega, ?_⟩; rw [h5.out]; clear h5; refine to_cases ?_; unfold toF; (repeat' split) <;> first | rfl | (exfalso; simp_all; omega) | (exfalso; simp_all; done))
    ·have h5 : F = if toF p i x.no = 0 then restF p i [] else toF p i x.no := h4
     clear h4
     replace h5 := Lib.hid h5
     repeat' (first | (with_reducible first | refine zA ?_ | refine swp_block1 ?_ | refine swp_block2 ?_ | refine zK ?_) | ((with_reducible first | refine swp_reg ?_ | refine swp_regd (by rw [hP]; exact mixed) ?_); (try rw [hP]); simp -implicitDefEqProofs [*]) | ((with_reducible first | refine swp_skip ?_ | refine swp_exit ?_); (try simp -implicitDefEqProofs [*])) | ((with_reducible refine swp_ret ?_); (try simp only [qseq_r, qblock_r, qloop_r])) | ((with_reducible refine swp_cond rfl (fun h => ?_) (fun h => ?_)) <;> have h' := h <;> (try simp at h') <;> (try subst h')) | ((with_reducible refine sopsg_cases (fun h => ?_) (fun h => ?_)) <;> have h' := h <;> (try simp at h') <;> (try subst h') <;> simp -implicitDefEqProofs [*]) | ((with_reducible refine sopsk_rg ?_ ?_); (first | omega | (unfold maxLen; omega)); simp -implicitDefEqProofs [*]) | (with_reducible first | refine zM hm ?_ | refine zN hm ?_ | refine zO hm ?_ | refine zP hm ?_) | ((with_reducible refine wk_self [] hm ?_ ?_ ?_ ?_) <;> (try simp only [zT, puth, Nat.reduceEqDiff, reduceIte, Nat.reduceAdd])) | (with_reducible first | refine za ?_ ?_ | refine zb ?_ ?_ ?_ ?_ | refine zc ?_ ?_ ?_ ?_ | refine zd ?_ ?_ ?_ ?_ | refine objsM_abs ?_ ?_ | refine subH_cons ?_ ?_) | (with_reducible first | exact slotsM_nil | exact objsM_nil | exact subH_nil | exact coL_nilm | exact Co.refl _ | exact CoL.refl _ | exact CoLL.refl _) | ((with_reducible first | refine zga ?_ | refine zgb ?_); rfl) | ((with_reducible refine zgc ?_); (first | (with_reducible rfl) | rfl | (simp; done))) | ((with_reducible first | refine zgd ?_ | refine zge ?_); (first | omega | (simp; done))) | (refine co_wrap ⟨?_, ?_⟩ ?_ <;> omega) | (exact Co.refl _) | (exact CoL.refl _) | (exact CoLL.refl _) | (refine co_own ?_; omega) | (refine co_int ?_; first | omega | (simp_all; done)) | (with_reducible first | refine coL_cons ?_ ?_ | refine coL_consm ?_ ?_) | ((refine qfor_next hJ (2, ?_) ?_ ?_ ?_; rotate_left 1; (with_reducible refine wk_self [] hm ?_ ?_ ?_ ?_) <;> (try simp only [zT, puth, Nat.reduceEqDiff, reduceIte, Nat.reduceAdd]))) | fail)
     all_goals (try dsimp only)
     all_goals (refine ⟨by omega, ?_⟩; rw [h5.out]; clear h5; refine to_cases ?_; unfold toF; (repeat' split) <;> first | rfl | (exfalso; simp_all; omega) | (exfalso; simp_all; done))
    ·replace h4 := Lib.hid h4
     repeat' (first | (with_reducible first | refine zA ?_ | refine swp_block1 ?_ | refine swp_block2 ?_ | refine zK ?_) | ((with_reducible first | refine swp_reg ?_ | refine swp_regd (by rw [hP]; exact mixed) ?_); (try rw [hP]); simp -implicitDefEqProofs [*]) | ((with_reducible first | refine swp_skip ?_ | refine swp_exit ?_); (try simp -implicitDefEqProofs [*])) | ((with_reducible refine swp_ret ?_); (try simp only [qseq_r, qblock_r, qloop_r])) | ((with_reducible refine swp_cond rfl (fun h => ?_) (fun h => ?_)) <;> have h' := h <;> (try simp at h') <;> (try subst h')) | ((with_reducible refine sopsg_cases (fun h => ?_) (fun h => ?_)) <;> have h' := h <;> (try simp at h') <;> (try subst h') <;> simp -implicitDefEqProofs [*]) | ((with_reducible refine sopsk_rg ?_ ?_); (first | omega | (unfold maxLen; omega)); simp -implicitDefEqProofs [*]) | (with_reducible first | refine zM hm ?_ | refine zN hm ?_ | refine zO hm ?_ | refine zP hm ?_) | fail)
     rw [h4.out]; rfl
   ·rw [if_neg he] at h4
    have ke : (e == 0) = false := by simpa using he
    replace h4 := Lib.hid h4
    repeat' (first | (with_reducible first | refine zA ?_ | refine swp_block1 ?_ | refine swp_block2 ?_ | refine zK ?_) | ((with_reducible first | refine swp_reg ?_ | refine swp_regd (by rw [hP]; exact mixed) ?_); (try rw [hP]); simp -implicitDefEqProofs [*]) | ((with_reducible first | refine swp_skip ?_ | refine swp_exit ?_); (try simp -implicitDefEqProofs [*])) | ((with_reducible refine swp_ret ?_); (try simp only [qseq_r, qblock_r, qloop_r])) | ((with_reducible refine swp_cond rfl (fun h => ?_) (fun h => ?_)) <;> have h' := h <;> (try simp at h') <;> (try subst h')) | ((with_reducible refine sopsg_cases (fun h => ?_) (fun h => ?_)) <;> have h' := h <;> (try simp at h') <;> (try subst h') <;> simp -implicitDefEqProofs [*]) | ((with_reducible refine sopsk_rg ?_ ?_); (first | omega | (unfold maxLen; omega)); simp -implicitDefEqProofs [*]) | (with_reducible first | refine zM hm ?_ | refine zN hm ?_ | refine zO hm ?_ | refine zP hm ?_) | fail)
    all_goals (rw [h4.out])
 have k4 : (x.kind == 4) = false := by simpa using kn4
 rw [if_neg kn4] at hA
 have hI : F = if (5 : Int) = 0 then restF p i ([x.yes].drop 0) else 5 := hA
 clear kn4 hA
 replace hI := Lib.hid hI
 repeat' (first | (with_reducible first | refine zA ?_ | refine swp_block1 ?_ | refine swp_block2 ?_ | refine zK ?_) | ((with_reducible first | refine swp_reg ?_ | refine swp_regd (by rw [hP]; exact mixed) ?_); (try rw [hP]); simp -implicitDefEqProofs [*]) | ((with_reducible first | refine swp_skip ?_ | refine swp_exit ?_); (try simp -implicitDefEqProofs [*])) | ((with_reducible refine swp_ret ?_); (try simp only [qseq_r, qblock_r, qloop_r])) | ((with_reducible refine swp_cond rfl (fun h => ?_) (fun h => ?_)) <;> have h' := h <;> (try simp at h') <;> (try subst h')) | ((with_reducible refine sopsg_cases (fun h => ?_) (fun h => ?_)) <;> have h' := h <;> (try simp at h') <;> (try subst h') <;> simp -implicitDefEqProofs [*]) | ((with_reducible refine sopsk_rg ?_ ?_); (first | omega | (unfold maxLen; omega)); simp -implicitDefEqProofs [*]) | (with_reducible first | refine zM hm ?_ | refine zN hm ?_ | refine zO hm ?_ | refine zP hm ?_) | fail)
 refine swp_block (swp_for (fun s (y : Nat × Int) => s.turn [(6, .int .i64 y.2), (8, .int .i64 y.1)] []) (fun y => y.1 ≤ 1 ∧ F = if y.2 = 0 then restF p i ([x.yes].drop y.1) else y.2) (fun y => 1 - y.1) (0, 5) ?_ ⟨by simp, hI.out⟩ ?_)
 ·repeat' (first | ((with_reducible refine wk_self [] hm ?_ ?_ ?_ ?_) <;> (try simp only [zT, puth, Nat.reduceEqDiff, reduceIte, Nat.reduceAdd])) | (with_reducible first | refine za ?_ ?_ | refine zb ?_ ?_ ?_ ?_ | refine zc ?_ ?_ ?_ ?_ | refine zd ?_ ?_ ?_ ?_ | refine objsM_abs ?_ ?_ | refine subH_cons ?_ ?_) | (with_reducible first | exact slotsM_nil | exact objsM_nil | exact subH_nil | exact coL_nilm | exact Co.refl _ | exact CoL.refl _ | exact CoLL.refl _) | ((with_reducible first | refine zga ?_ | refine zgb ?_); rfl) | ((with_reducible refine zgc ?_); (first | (with_reducible rfl) | rfl | (simp; done))) | ((with_reducible first | refine zgd ?_ | refine zge ?_); (first | omega | (simp; done))) | (refine co_wrap ⟨?_, ?_⟩ ?_ <;> omega) | (exact Co.refl _) | (exact CoL.refl _) | (exact CoLL.refl _) | (refine co_own ?_; omega) | (refine co_int ?_; first | omega | (simp_all; done)) | (with_reducible first | refine coL_cons ?_ ?_ | refine coL_consm ?_ ?_) | fail)
 rintro J hJ ⟨k, e⟩ ⟨h3, h4⟩
 unfold c_rnode_l1
 simp only [zT, puth, Nat.reduceEqDiff, reduceIte, Nat.reduceAdd] at h3 h4 ⊢
 by_cases he : e = 0
 ·subst he
  rw [if_pos rfl] at h4
  have hk : k = 0 ∨ k = 1 := by omega
  rcases hk with rfl | rfl
  ·have h5 : F = if toF p i x.yes = 0 then restF p i [] else toF p i x.yes := h4
   clear h4
   replace h5 := Lib.hid h5
   repeat' (first | (with_reducible first | refine zA ?_ | refine swp_block1 ?_ | refine swp_block2 ?_ | refine zK ?_) | ((with_reducible first | refine swp_reg ?_ | refine swp_regd (by rw [hP]; exact mixed) ?_); (try rw [hP]); simp -implicitDefEqProofs [*]) | ((with_reducible first | refine swp_skip ?_ | refine swp_exit ?_); (try simp -implicitDefEqProofs [*])) | ((with_reducible refine swp_ret ?_); (try simp only [qseq_r, qblock_r, qloop_r])) | ((with_reducible refine swp_cond rfl (fun h => ?_) (fun h => ?_)) <;> have h' := h <;> (try simp at h') <;> (try subst h')) | ((with_reducible refine sopsg_cases (fun h => ?_) (fun h => ?_)) <;> have h' := h <;> (try simp at h') <;> (try subst h') <;> simp -implicitDefEqProofs [*]) | ((with_reducible refine sopsk_rg ?_ ?_); (first | omega | (unfold maxLen; omega)); simp -implicitDefEqProofs [*]) | (with_reducible first | refine zM hm ?_ | refine zN hm ?_ | refine zO hm ?_ | refine zP hm ?_) | ((with_reducible refine wk_self [] hm ?_ ?_ ?_ ?_) <;> (try simp only [zT, puth, Nat.reduceEqDiff, reduceIte, Nat.reduceAdd])) | (with_reducible first | refine za ?_ ?_ | refine zb ?_ ?_ ?_ ?_ | refine zc ?_ ?_ ?_ ?_ | refine zd ?_ ?_ ?_ ?_ | refine objsM_abs ?_ ?_ | refine subH_cons ?_ ?_) | (with_reducible first | exact slotsM_nil | exact objsM_nil | exact subH_nil | exact coL_nilm | exact Co.refl _ | exact CoL.refl _ | exact CoLL.refl _) | ((with_reducible first | refine zga ?_ | refine zgb ?_); rfl) | ((with_reducible refine zgc ?_); (first | (with_reducible rfl) | rfl | (simp; done))) | ((with_reducible first | refine zgd ?_ | refine zge ?_); (first | omega | (simp; done))) | (refine co_wrap ⟨?_, ?_⟩ ?_ <;> omega) | (exact Co.refl _) | (exact CoL.refl _) | (exact CoLL.refl _) | (refine co_own ?_; omega) | (refine co_int ?_; first | omega | (simp_all; done)) | (with_reducible first | refine coL_cons ?_ ?_ | refine coL_consm ?_ ?_) | ((refine qfor_next hJ (1, ?_) ?_ ?_ ?_; rotate_left 1; (with_reducible refine wk_self [] hm ?_ ?_ ?_ ?_) <;> (try simp only [zT, puth, Nat.reduceEqDiff, reduceIte, Nat.reduceAdd]))) | fail)
   all_goals (try dsimp only)
   all_goals (refine ⟨by omega, ?_⟩; rw [h5.out]; clear h5; refine to_cases ?_; unfold toF; (repeat' split) <;> first | rfl | (exfalso; simp_all; omega) | (exfalso; simp_all; done))
  ·replace h4 := Lib.hid h4
   repeat' (first | (with_reducible first | refine zA ?_ | refine swp_block1 ?_ | refine swp_block2 ?_ | refine zK ?_) | ((with_reducible first | refine swp_reg ?_ | refine swp_regd (by rw [hP]; exact mixed) ?_); (try rw [hP]); simp -implicitDefEqProofs [*]) | ((with_reducible first | refine swp_skip ?_ | refine swp_exit ?_); (try simp -implicitDefEqProofs [*])) | ((with_reducible refine swp_ret ?_); (try simp only [qseq_r, qblock_r, qloop_r])) | ((with_reducible refine swp_cond rfl (fun h => ?_) (fun h => ?_)) <;> have h' := h <;> (try simp at h') <;> (try subst h')) | ((with_reducible refine sopsg_cases (fun h => ?_) (fun h => ?_)) <;> have h' := h <;> (try simp at h') <;> (try subst h') <;> simp -implicitDefEqProofs [*]) | ((with_reducible refine sopsk_rg ?_ ?_); (first | omega | (unfold maxLen; omega)); simp -implicitDefEqProofs [*]) | (with_reducible first | refine zM hm ?_ | refine zN hm ?_ | refine zO hm ?_ | refine zP hm ?_) | fail)
   rw [h4.out]; rfl
 ·rw [if_neg he] at h4
  have ke : (e == 0) = false := by simpa using he
  replace h4 := Lib.hid h4
  repeat' (first | (with_reducible first | refine zA ?_ | refine swp_block1 ?_ | refine swp_block2 ?_ | refine zK ?_) | ((with_reducible first | refine swp_reg ?_ | refine swp_regd (by rw [hP]; exact mixed) ?_); (try rw [hP]); simp -implicitDefEqProofs [*]) | ((with_reducible first | refine swp_skip ?_ | refine swp_exit ?_); (try simp -implicitDefEqProofs [*])) | ((with_reducible refine swp_ret ?_); (try simp only [qseq_r, qblock_r, qloop_r])) | ((with_reducible refine swp_cond rfl (fun h => ?_) (fun h => ?_)) <;> have h' := h <;> (try simp at h') <;> (try subst h')) | ((with_reducible refine sopsg_cases (fun h => ?_) (fun h => ?_)) <;> have h' := h <;> (try simp at h') <;> (try subst h') <;> simp -implicitDefEqProofs [*]) | ((with_reducible refine sopsk_rg ?_ ?_); (first | omega | (unfold maxLen; omega)); simp -implicitDefEqProofs [*]) | (with_reducible first | refine zM hm ?_ | refine zN hm ?_ | refine zO hm ?_ | refine zP hm ?_) | fail)
  all_goals (rw [h4.out])
end Go.Proofs.Ytnfjldobjgdiaaa
namespace Go.Proofs.Ytnfjldobjgdiaaa
set_option linter.all false
open Go.RowKit
attribute [local simp] sops_nil sops_run sopsk_some sops_call sops_guard sopsg_yes sopsg_tf sopsg_ft sopsg_undef rg_true SOp.run SX.ev putd puts argS upds SOp.touch SSt.keep SSt.skip gets geth puth delh idOf SV.cells? setL fillS fillR sbin eq0 eq1 eqL rowOf qseq_n qseq_e qseq_r qblock_n qblock_r qblock_e qloop_e qloop_r take_map_len FrzOk pureV_int pureV_bool pureV_str pureV_nil pureV_nilsl pureV_view pureV_cp pureL_nil_ pureL_cons_ pureO_row pureO_cells frzS frzH frz frz1 frz0 SlotsM ObjsM ObjM rn ren ren1 ren0 co_self co_int co_own co_view co_nilsl co_agg co_tup CoL coll_self mergeH dels adds idsH okNames
attribute [local simp] headc refc pushc casec statec opc actc tabc nodec planc nums jc
theorem orF_zero {f g : Int × Int} (h : (orF f g).1 = 0) : f.1 = 0 ∧ g.1 = 0 := by
 unfold orF at h
 by_cases h1 : f.1 = 0
 ·by_cases h2 : g.1 = 0
  ·exact ⟨h1, h2⟩
  ·simp [h1, h2] at h
 ·simp [h1] at h
theorem rowF_zero {α : Type} {f : α → Int} {b : Int} : ∀ {l : List α} {i : Nat}, (rowF (fun _ x => f x) b i l).1 = 0 → ∀ x ∈ l, f x = 0
 | [], _, _, x, hx => by cases hx
 | y :: l, i, h, x, hx => by
  unfold rowF at h
  by_cases h1 : f y = 0
  ·rw [if_neg (by simpa using h1)] at h
   rcases List.mem_cons.1 hx with e | e
   ·rw [e]; exact h1
   ·exact rowF_zero h x e
  ·rw [if_pos h1] at h; exact absurd h h1
theorem orF_left {f g : Int × Int} (h : (orF f g).1 = 0) : orF f g = f := by
 obtain ⟨h1, h2⟩ := orF_zero h
 unfold orF; simp [h1, h2]
theorem orF_start {f g : Int × Int} (h : f.1 = 0 → f = (0, 0)) : orF (0, 0) (orF f g) = orF f g := by
 unfold orF
 by_cases h1 : f.1 = 0
 ·by_cases h2 : g.1 = 0 <;> simp [h1, h2, h h1]
 ·simp [h1]
theorem headsF_none {p : PlanD} (h : (headsF p).1 = 0) : headsF p = (0, 0) := by
 unfold headsF at h ⊢
 rw [orF_left h]
 have := (orF_zero h).1
 unfold manyF at this ⊢
 by_cases hc : decide (6 < p.heads.length) = true
 ·rw [if_pos hc] at this; exact absurd this (by decide)
 ·rw [if_neg hc]
theorem planF_start (p : PlanD) : orF (0, 0) (planF p) = planF p := by
 unfold planF; exact orF_start headsF_none
theorem el_in {l : List Int} {k : Nat} (h : k < l.length) : el l k ∈ l := by
 unfold el; simp [h]
theorem pick_in {l : List Int} {f : Int} (h : pick_ l f ≠ 0) : pick_ l f ∈ l := by
 unfold pick_ at h ⊢
 by_cases h1 : f < 0 ∨ (l.length : Int) ≤ f
 ·rw [if_pos h1] at h; exact absurd rfl h
 ·rw [if_neg h1] at h ⊢; exact el_in (by omega)
theorem heads_w {p : PlanD} (h : (headsF p).1 = 0) : ∀ x ∈ p.heads, sizeC x.w = 0 := fun x hx => rowF_zero (orF_zero h).2 x hx
theorem width_in {l : List Int} (h : ∀ x ∈ l, 1 ≤ x ∧ x ≤ 48) (f : Int) : 0 ≤ pick_ l f ∧ pick_ l f ≤ 48 := by
 by_cases h0 : pick_ l f = 0
 ·omega
 ·have := h _ (pick_in h0); omega
theorem size_all {ws : List Int} (h : sizeC ws = 0) : ∀ x ∈ ws, 1 ≤ x ∧ x ≤ 48 := fun x hx => by
 obtain ⟨i, hi, rfl⟩ := List.getElem_of_mem hx
 have := wOk ((size_zero h).2.2.1 i hi)
 have e : el ws i = ws[i] := by unfold el; simp [hi]
 rw [e] at this; exact this
theorem wOut_in {l : List Int} (h : ∀ x ∈ l, wOut x = false) : ∀ x ∈ l, 1 ≤ x ∧ x ≤ 48 := fun x hx => by
 have := h x hx
 unfold wOut at this; rw [Bool.or_eq_false_iff, decide_eq_false_iff_not, decide_eq_false_iff_not] at this; omega
theorem pw_of {p : PlanD} (h1 : (headsF p).1 = 0) (h2 : (metaF p).1 = 0) : PW p := fun r => by
 have hm : ∀ x ∈ p.meta_, 1 ≤ x ∧ x ≤ 48 := wOut_in fun x hx => by
  have := rowF_zero (orF_zero h2).2 x hx
  cases e : wOut x
  ·rfl
  ·rw [e] at this; exact absurd this (by decide)
 unfold widthOf
 refine width_in ?_ _
 unfold rowOf_
 split
 ·simp
 split
 ·exact hm
 split
 ·simp
 split
 ·rename_i hh
  unfold headW
  rw [List.getElem?_eq_getElem (by omega : r.h.toNat < p.heads.length)]
  exact size_all (heads_w h1 _ (List.getElem_mem _))
 ·simp
theorem aw_of {p : PlanD} (h : (actsF p).1 = 0) : AW p.acts := fun a ha w hw => by
 have := rowF_zero (orF_zero h).2 a ha
 unfold actF at this
 by_cases h1 : 3 < a.w.length ∨ 5 < a.ops.length
 ·rw [if_pos h1] at this; exact absurd this (by decide)
 ·rw [if_neg h1] at this
  by_cases h2 : a.w.any wOut = true
  ·rw [if_pos h2] at this; exact absurd this (by decide)
  ·have h3 : ∀ x ∈ a.w, wOut x = false := fun x hx => by
    cases e : wOut x
    ·rfl
    ·exact absurd (List.any_eq_true.2 ⟨x, hx, e⟩) h2
   have := wOut_in h3 w hw; omega
theorem or_fail (a b c at_ : Int) : orF (a, b) (c, at_) = failF a b (c != 0) c at_ := by
 rw [← then_or]; unfold thenF
 congr 1; rw [Bool.eq_iff_iff]; simp
theorem call_jstates (p : PlanD) (hp : PW p) (hs : SmallP p) (hk : OkPlan p) (a b : Int) (id q : Nat) (h : id < q) : SCalls Try.prog 33 [.ptr id 0] [(id, .cells 78 (jc p a b))] q (.tup []) [(id, .cells 78 (jc p (orF (a, b) (statesF p)).1 (orF (a, b) (statesF p)).2))] :=
 scalls_obj (jstates_s p hp hs hk a b) (fun _ => rfl) (fun _ => rfl) (fun _ => rfl) rfl (fun _ => rfl) rfl id q h
theorem call_jacts (p : PlanD) (hp : PW p) (hs : SmallP p) (a b : Int) (id q : Nat) (h : id < q) : SCalls Try.prog 34 [.ptr id 0] [(id, .cells 78 (jc p a b))] q (.tup []) [(id, .cells 78 (jc p (orF (a, b) (actsF p)).1 (orF (a, b) (actsF p)).2))] :=
 scalls_obj (jacts_s p hp hs a b) (fun _ => rfl) (fun _ => rfl) (fun _ => rfl) rfl (fun _ => rfl) rfl id q h
theorem call_jtabs (p : PlanD) (hs : SmallP p) (a b : Int) (ha : a = 0 → AW p.acts) (id q : Nat) (h : id < q) : SCalls Try.prog 35 [.ptr id 0] [(id, .cells 78 (jc p a b))] q (.tup []) [(id, .cells 78 (jc p (orF (a, b) (tabsF p)).1 (orF (a, b) (tabsF p)).2))] :=
 scalls_obj (jtabs_s p hs a b ha) (fun _ => rfl) (fun _ => rfl) (fun _ => rfl) rfl (fun _ => rfl) rfl id q h
theorem call_jnodes (p : PlanD) (hs : SmallP p) (a b : Int) (id q : Nat) (h : id < q) : SCalls Try.prog 36 [.ptr id 0] [(id, .cells 78 (jc p a b))] q (.tup []) [(id, .cells 78 (jc p (orF (a, b) (nodesF p)).1 (orF (a, b) (nodesF p)).2))] :=
 scalls_obj (jnodes_s p hs a b) (fun _ => rfl) (fun _ => rfl) (fun _ => rfl) rfl (fun _ => rfl) rfl id q h
def c_pcheck_t1 : SCode := (.seq (.reg false c_pcheck_r9 [1, 2, 3]) (.seq (.seq (.reg false c_pcheck_r10 [1, 2, 3, 59, 60, 61]) (.block 2 (.loop c_pcheck_l2))) (.seq (.seq (.reg false c_pcheck_r15 [1, 2, 3, 82]) (.cond (.t 82) (.seq (.reg false c_pcheck_r16 [2]) .ret) .skip)) (.seq (.reg false c_pcheck_r17 [1, 2, 3]) (.seq (.reg false c_pcheck_r18 [1, 2, 3]) (.seq (.reg false c_pcheck_r19 [1, 2, 3]) (.seq (.reg false c_pcheck_r20 [1, 2, 3]) (.seq (.reg false c_pcheck_r21 [1, 2, 3]) (.seq (.seq (.reg false c_pcheck_r22 [1, 2, 3, 9]) (.block 4 (.loop c_pcheck_l3))) (.seq (.reg false c_pcheck_r27 [2]) .ret))))))))))
def c_pcheck_t3 : SCode := (.seq (.reg false c_pcheck_r17 [1, 2, 3]) (.seq (.reg false c_pcheck_r18 [1, 2, 3]) (.seq (.reg false c_pcheck_r19 [1, 2, 3]) (.seq (.reg false c_pcheck_r20 [1, 2, 3]) (.seq (.reg false c_pcheck_r21 [1, 2, 3]) (.seq (.seq (.reg false c_pcheck_r22 [1, 2, 3, 9]) (.block 4 (.loop c_pcheck_l3))) (.seq (.reg false c_pcheck_r27 [2]) .ret)))))))
def c_pcheck_t4 : SCode := (.seq (.reg false c_pcheck_r27 [2]) .ret)
set_option maxHeartbeats 8000000 in
theorem pcheck_s (p : PlanD) (hs : SmallP p) (hk : OkPlan p) (q : Nat) : SCalls Try.prog 17 [.agg (planc p)] [] q (.agg [.int .i64 (planF p).1, .int .i64 (planF p).2]) [] := by
 refine scalls_q ?_ (fun _ => rfl) (fun _ => rfl) rfl q
 refine scalls_of (N := 143) Try.func17 rfl rfl (by kernel_rfl) comp_c_pcheck (by simp) (by repeat' (first | exact trivial | refine And.intro ?_ ?_ | rfl | decide | exact PureR.ren _)) (by repeat' (first | exact trivial | refine And.intro ?_ ?_ | rfl | decide | exact PureR.ren _)) ?_
 rintro X hP hN hm
 rw [← planF_start]
 have hF1 : orF (0, 0) (headsF p) = orF (failF 0 0 (decide (6 < (p.heads.length : Int))) 2 (-1)) (rowF (fun _ h => sizeC h.w) 1000 0 p.heads) := by
  unfold headsF; rw [many_step]; congr 3; exact propext (by omega)
 have hF0 : orF (0, 0) (planF p) = orF (orF (orF (0, 0) (headsF p)) (metaF p)) (orF (statesF p) (orF (actsF p) (orF (tabsF p) (orF (nodesF p) (outsF p))))) := by
  unfold planF; simp only [orF_assoc]
 have hPW : (orF (orF (0, 0) (headsF p)) (metaF p)).1 = 0 → PW p := fun h => pw_of (orF_zero (orF_zero h).1).2 (orF_zero h).2
 generalize orF (0, 0) (planF p) = F at hF0
 obtain ⟨⟨e1, g1⟩, hE1⟩ : ∃ z, orF (0, 0) (headsF p) = z := ⟨_, rfl⟩
 rw [hE1] at hF0 hPW hF1
 have hF2 : orF (e1, g1) (metaF p) = orF (failF e1 g1 (decide (4 < (p.meta_.length : Int))) 2 (-2)) (rowF (fun _ w => if wOut w then 6 else 0) 2000 0 p.meta_) := by
  unfold metaF; rw [many_step]; congr 3; exact propext (by omega)
 obtain ⟨⟨e2, g2⟩, hE2⟩ : ∃ z, orF (e1, g1) (metaF p) = z := ⟨_, rfl⟩
 rw [hE2] at hF0 hPW hF2
 have hl1 := hs.heads
 have hl2 := hs.metas
 have hl3 := hs.outs
 clear hE1 hE2
 replace hF0 := Lib.hid hF0
 replace hPW := Lib.hid hPW
 replace hF1 := Lib.hid hF1
 replace hF2 := Lib.hid hF2
 have rest4 : ∀ e g, (e, g) = F → SWp X c_pcheck_t4 (QFun X [ResultVar.cell 2 45] 0 (.agg [.int .i64 F.1, .int .i64 F.2]) []) ⟨[(1, .ptr 0 0), (2, .ptr 1 0), (3, .ptr 4 0)], [(0, .cells 29 (planc p)), (1, .cells 45 [.int .i64 0, .int .i64 0]), (4, .cells 78 (jc p e g))], 5⟩ := fun e g he => by
  unfold c_pcheck_t4
  repeat' (first | (with_reducible first | refine zA ?_ | refine swp_block1 ?_ | refine swp_block2 ?_ | refine zK ?_) | ((with_reducible first | refine swp_reg ?_ | refine swp_regd (by rw [hP]; exact mixed) ?_); (try rw [hP]); simp -implicitDefEqProofs [*]) | ((with_reducible first | refine swp_skip ?_ | refine swp_exit ?_); (try simp -implicitDefEqProofs [*])) | ((with_reducible refine swp_ret ?_); (try simp only [qseq_r, qblock_r, qloop_r])) | ((with_reducible refine swp_cond rfl (fun h => ?_) (fun h => ?_)) <;> have h' := h <;> (try simp at h') <;> (try subst h')) | ((with_reducible refine sopsg_cases (fun h => ?_) (fun h => ?_)) <;> have h' := h <;> (try simp at h') <;> (try subst h') <;> simp -implicitDefEqProofs [*]) | ((with_reducible refine sopsk_rg ?_ ?_); (first | omega | (unfold maxLen; omega)); simp -implicitDefEqProofs [*]) | (with_reducible first | refine zM hm ?_ | refine zN hm ?_ | refine zO hm ?_ | refine zP hm ?_) | (refine fin_c hm rfl rfl (by rw [hP]; exact agg_fault) (by rw [hP]; exact size_fault) rfl (CoL.refl _) (by rw [← he]) (fun σ => rfl)) | fail)
 have rest3 : e2 = 0 → SWp X c_pcheck_t3 (QFun X [ResultVar.cell 2 45] 0 (.agg [.int .i64 F.1, .int .i64 F.2]) []) ⟨[(1, .ptr 0 0), (2, .ptr 1 0), (3, .ptr 4 0)], [(0, .cells 29 (planc p)), (1, .cells 45 [.int .i64 0, .int .i64 0]), (4, .cells 78 (jc p e2 g2))], 5⟩ := fun he => by
  have hpw := hPW.out he
  subst he
  have hF := hF0.out
  obtain ⟨⟨e3, g3⟩, hE3⟩ : ∃ z, orF (0, g2) (statesF p) = z := ⟨_, rfl⟩
  obtain ⟨⟨e4, g4⟩, hE4⟩ : ∃ z, orF (e3, g3) (actsF p) = z := ⟨_, rfl⟩
  obtain ⟨⟨e5, g5⟩, hE5⟩ : ∃ z, orF (e4, g4) (tabsF p) = z := ⟨_, rfl⟩
  obtain ⟨⟨e6, g6⟩, hE6⟩ : ∃ z, orF (e5, g5) (nodesF p) = z := ⟨_, rfl⟩
  have c3 := fun id q h => call_jstates p hpw hs hk 0 g2 id q h
  have c4 := fun id q h => call_jacts p hpw hs e3 g3 id q h
  have c5 := fun id q h => call_jtabs p hs e4 g4 (fun hz => aw_of (orF_zero (f := (e3, g3)) (by rw [hE4]; exact hz)).2) id q h
  have c6 := fun id q h => call_jnodes p hs e5 g5 id q h
  rw [hE3] at c3
  rw [hE4] at c4
  rw [hE5] at c5
  rw [hE6] at c6
  rw [← orF_assoc, hE3, ← orF_assoc, hE4, ← orF_assoc, hE5, ← orF_assoc, hE6] at hF
  have hF7 : orF (e6, g6) (outsF p) = orF (failF e6 g6 (decide (6 < (p.out.length : Int))) 2 (-7)) (rowF (fun i o => outF p i o) 7000 0 p.out) := by
   unfold outsF; rw [many_step]; congr 3; exact propext (by omega)
  rw [hF7] at hF
  clear hE3 hE4 hE5 hE6 hF7
  replace hF := Lib.hid hF
  replace hpw := Lib.hid hpw
  replace rest4 := Lib.hid rest4
  replace c3 := Lib.hid c3
  replace c4 := Lib.hid c4
  replace c5 := Lib.hid c5
  replace c6 := Lib.hid c6
  unfold c_pcheck_t3
  repeat' (first | (with_reducible first | refine zA ?_ | refine swp_block1 ?_ | refine swp_block2 ?_ | refine zK ?_) | ((with_reducible first | refine swp_reg ?_ | refine swp_regd (by rw [hP]; exact mixed) ?_); (try rw [hP]); simp -implicitDefEqProofs [*]) | ((with_reducible first | refine swp_skip ?_ | refine swp_exit ?_); (try simp -implicitDefEqProofs [*])) | ((with_reducible refine swp_ret ?_); (try simp only [qseq_r, qblock_r, qloop_r])) | ((with_reducible refine swp_cond rfl (fun h => ?_) (fun h => ?_)) <;> have h' := h <;> (try simp at h') <;> (try subst h')) | ((with_reducible refine sopsg_cases (fun h => ?_) (fun h => ?_)) <;> have h' := h <;> (try simp at h') <;> (try subst h') <;> simp -implicitDefEqProofs [*]) | ((with_reducible refine sopsk_rg ?_ ?_); (first | omega | (unfold maxLen; omega)); simp -implicitDefEqProofs [*]) | ((first | refine call_h (call_jfail p _ _ _ _ _ _ _ (by simp)) ⟨rfl, trivial⟩ ⟨rfl, trivial⟩ ?_ | refine call_h (c3.out _ _ (by simp)) ⟨rfl, trivial⟩ ⟨rfl, trivial⟩ ?_ | refine call_h (c4.out _ _ (by simp)) ⟨rfl, trivial⟩ ⟨rfl, trivial⟩ ?_ | refine call_h (c5.out _ _ (by simp)) ⟨rfl, trivial⟩ ⟨rfl, trivial⟩ ?_ | refine call_h (c6.out _ _ (by simp)) ⟨rfl, trivial⟩ ⟨rfl, trivial⟩ ?_); simp -implicitDefEqProofs [*]) | (with_reducible first | refine zM hm ?_ | refine zN hm ?_ | refine zO hm ?_ | refine zP hm ?_) | fail)
  refine swp_block (swp_for (fun s (x : Nat × Int × Int) => s.turn [(9, .int .i64 x.1)] [(4, .cells 78 (jc p x.2.1 x.2.2))]) (fun x => x.1 ≤ p.out.length ∧ F = orF (x.2.1, x.2.2) (rowF (fun i o => outF p i o) 7000 x.1 (p.out.drop x.1))) (fun x => p.out.length - x.1) (0, _, _) ?_ ⟨by simp, hF.out⟩ ?_)
  ·repeat' (first | ((with_reducible refine wk_self [] hm ?_ ?_ ?_ ?_) <;> (try simp only [zT, puth, Nat.reduceEqDiff, reduceIte, Nat.reduceAdd])) | (with_reducible first | refine za ?_ ?_ | refine zb ?_ ?_ ?_ ?_ | refine zc ?_ ?_ ?_ ?_ | refine zd ?_ ?_ ?_ ?_ | refine objsM_abs ?_ ?_ | refine subH_cons ?_ ?_) | (with_reducible first | exact slotsM_nil | exact objsM_nil | exact subH_nil | exact coL_nilm | exact Co.refl _ | exact CoL.refl _ | exact CoLL.refl _) | ((with_reducible first | refine zga ?_ | refine zgb ?_); rfl) | ((with_reducible refine zgc ?_); (first | (with_reducible rfl) | rfl | (simp; done))) | ((with_reducible first | refine zgd ?_ | refine zge ?_); (first | omega | (simp; done))) | (refine co_wrap ⟨?_, ?_⟩ ?_ <;> omega) | (exact Co.refl _) | (exact CoL.refl _) | (exact CoLL.refl _) | (refine co_own ?_; omega) | (refine co_int ?_; first | omega | (simp_all; done)) | (with_reducible first | refine coL_cons ?_ ?_ | refine coL_consm ?_ ?_) | fail)
  rintro J hJ ⟨i, e, g⟩ ⟨h1, h2⟩
  unfold c_pcheck_l3
  simp only [zT, puth, Nat.reduceEqDiff, reduceIte, Nat.reduceAdd] at h1 h2 ⊢
  rcases Nat.lt_or_ge i p.out.length with hi | hi
  ·rw [rowF_drop _ _ hi] at h2
   have hct := fun q => contains_s (p.out.take i) p.out[i] (by rw [List.length_take]; omega) q
   simp only [nums, List.map_take] at hct
   generalize hxx : p.out[i] = x at h2 hct
   by_cases he : e = 0
   ·subst he
    have hA : orF (0, g) (outF p i x, 7000 + (i : Int)) = failF (failF 0 g (!isHead p x) 1 (7000 + (i : Int))).1 (failF 0 g (!isHead p x) 1 (7000 + (i : Int))).2 ((p.out.take i).contains x) 7 (7000 + (i : Int)) := by
     have : outF p i x = if (!isHead p x) = true then 1 else if (p.out.take i).contains x = true then 7 else 0 := by
      unfold outF; cases isHead p x <;> rfl
     rw [this, fail_step _ _ _ _ _ _ (by decide)]
     refine (fail_step _ _ _ _ _ _ (by decide)).trans ?_
     exact orF_none _ rfl
    rw [row_step, hA] at h2
    generalize (p.out.take i).contains x = C at h2 hct
    have wi : IntKind.i64.wrap ((i : Int) + 1) = (i : Int) + 1 := i64_add_ (by omega) (by omega)
    have wa : IntKind.i64.wrap (7000 + (i : Int)) = 7000 + (i : Int) := i64_add_ (by omega) (by omega)
    have hi' := Nat.le_of_lt hi
    clear hA
    replace h2 := Lib.hid h2
    replace hct := Lib.hid hct
    repeat' (first | (with_reducible first | refine zA ?_ | refine swp_block1 ?_ | refine swp_block2 ?_ | refine zK ?_) | ((with_reducible first | refine swp_reg ?_ | refine swp_regd (by rw [hP]; exact mixed) ?_); (try rw [hP]); simp -implicitDefEqProofs [*]) | ((with_reducible first | refine swp_skip ?_ | refine swp_exit ?_); (try simp -implicitDefEqProofs [*])) | ((with_reducible refine swp_ret ?_); (try simp only [qseq_r, qblock_r, qloop_r])) | ((with_reducible refine swp_cond rfl (fun h => ?_) (fun h => ?_)) <;> have h' := h <;> (try simp at h') <;> (try subst h')) | ((with_reducible refine sopsg_cases (fun h => ?_) (fun h => ?_)) <;> have h' := h <;> (try simp at h') <;> (try subst h') <;> simp -implicitDefEqProofs [*]) | ((with_reducible refine sopsk_rg ?_ ?_); (first | omega | (unfold maxLen; omega)); simp -implicitDefEqProofs [*]) | ((first | refine call_h (call_jfail p _ _ _ _ _ _ _ (by simp)) ⟨rfl, trivial⟩ ⟨rfl, trivial⟩ ?_ | refine call_h (call_jhead p _ _ _ _ _ _ (by simp)) ⟨rfl, trivial⟩ ⟨rfl, trivial⟩ ?_ | refine call_q (hct.out _) ?_); simp -implicitDefEqProofs [*]) | (with_reducible first | refine zM hm ?_ | refine zN hm ?_ | refine zO hm ?_ | refine zP hm ?_) | ((with_reducible refine wk_self [] hm ?_ ?_ ?_ ?_) <;> (try simp only [zT, puth, Nat.reduceEqDiff, reduceIte, Nat.reduceAdd])) | (with_reducible first | refine za ?_ ?_ | refine zb ?_ ?_ ?_ ?_ | refine zc ?_ ?_ ?_ ?_ | refine zd ?_ ?_ ?_ ?_ | refine objsM_abs ?_ ?_ | refine subH_cons ?_ ?_) | (with_reducible first | exact slotsM_nil | exact objsM_nil | exact subH_nil | exact coL_nilm | exact Co.refl _ | exact CoL.refl _ | exact CoLL.refl _) | ((with_reducible first | refine zga ?_ | refine zgb ?_); rfl) | ((with_reducible refine zgc ?_); (first | (with_reducible rfl) | rfl | (simp; done))) | ((with_reducible first | refine zgd ?_ | refine zge ?_); (first | omega | (simp; done))) | (refine co_wrap ⟨?_, ?_⟩ ?_ <;> omega) | (exact Co.refl _) | (exact CoL.refl _) | (exact CoLL.refl _) | (refine co_own ?_; omega) | (refine co_int ?_; first | omega | (simp_all; done)) | (with_reducible first | refine coL_cons ?_ ?_ | refine coL_consm ?_ ?_) | ((refine qfor_next hJ (i + 1, ?_, ?_) ?_ ?_ ?_; rotate_left 2; (with_reducible refine wk_self [] hm ?_ ?_ ?_ ?_) <;> (try simp only [zT, puth, Nat.reduceEqDiff, reduceIte, Nat.reduceAdd]))) | fail)
    all_goals (try dsimp only)
    all_goals (exact ⟨by omega, h2.out⟩)
   ·rw [orF_pos he] at h2
    have r4 := rest4.out e g h2.symm
    have ke : (e == 0) = false := by simpa using he
    replace r4 := Lib.hid r4
    clear h2
    repeat' (first | ((refine swp_wk ?_ r4.out)) | (with_reducible first | refine zA ?_ | refine swp_block1 ?_ | refine swp_block2 ?_ | refine zK ?_) | ((with_reducible first | refine swp_reg ?_ | refine swp_regd (by rw [hP]; exact mixed) ?_); (try rw [hP]); simp -implicitDefEqProofs [*]) | ((with_reducible first | refine swp_skip ?_ | refine swp_exit ?_); (try simp -implicitDefEqProofs [*])) | ((with_reducible refine swp_ret ?_); (try simp only [qseq_r, qblock_r, qloop_r])) | ((with_reducible refine swp_cond rfl (fun h => ?_) (fun h => ?_)) <;> have h' := h <;> (try simp at h') <;> (try subst h')) | ((with_reducible refine sopsg_cases (fun h => ?_) (fun h => ?_)) <;> have h' := h <;> (try simp at h') <;> (try subst h') <;> simp -implicitDefEqProofs [*]) | ((with_reducible refine sopsk_rg ?_ ?_); (first | omega | (unfold maxLen; omega)); simp -implicitDefEqProofs [*]) | (with_reducible first | refine zM hm ?_ | refine zN hm ?_ | refine zO hm ?_ | refine zP hm ?_) | ((with_reducible refine wk_self [] hm ?_ ?_ ?_ ?_) <;> (try simp only [zT, puth, Nat.reduceEqDiff, reduceIte, Nat.reduceAdd])) | (with_reducible first | refine za ?_ ?_ | refine zb ?_ ?_ ?_ ?_ | refine zc ?_ ?_ ?_ ?_ | refine zd ?_ ?_ ?_ ?_ | refine objsM_abs ?_ ?_ | refine subH_cons ?_ ?_) | (with_reducible first | exact slotsM_nil | exact objsM_nil | exact subH_nil | exact coL_nilm | exact Co.refl _ | exact CoL.refl _ | exact CoLL.refl _) | ((with_reducible first | refine zga ?_ | refine zgb ?_); rfl) | ((with_reducible refine zgc ?_); (first | (with_reducible rfl) | rfl | (simp; done))) | ((with_reducible first | refine zgd ?_ | refine zge ?_); (first | omega | (simp; done))) | (refine co_wrap ⟨?_, ?_⟩ ?_ <;> omega) | (exact Co.refl _) | (exact CoL.refl _) | (exact CoLL.refl _) | (refine co_own ?_; omega) | (refine co_int ?_; first | omega | (simp_all; done)) | (with_reducible first | refine coL_cons ?_ ?_ | refine coL_consm ?_ ?_) | fail)
  ·obtain rfl : i = p.out.length := by omega
   rw [List.drop_length, orF_none _ rfl] at h2
   have r4 := rest4.out e g h2.symm
   replace r4 := Lib.hid r4
   clear h2
   repeat' (first | ((refine swp_wk ?_ r4.out)) | (with_reducible first | refine zA ?_ | refine swp_block1 ?_ | refine swp_block2 ?_ | refine zK ?_) | ((with_reducible first | refine swp_reg ?_ | refine swp_regd (by rw [hP]; exact mixed) ?_); (try rw [hP]); simp -implicitDefEqProofs [*]) | ((with_reducible first | refine swp_skip ?_ | refine swp_exit ?_); (try simp -implicitDefEqProofs [*])) | ((with_reducible refine swp_ret ?_); (try simp only [qseq_r, qblock_r, qloop_r])) | ((with_reducible refine swp_cond rfl (fun h => ?_) (fun h => ?_)) <;> have h' := h <;> (try simp at h') <;> (try subst h')) | ((with_reducible refine sopsg_cases (fun h => ?_) (fun h => ?_)) <;> have h' := h <;> (try simp at h') <;> (try subst h') <;> simp -implicitDefEqProofs [*]) | ((with_reducible refine sopsk_rg ?_ ?_); (first | omega | (unfold maxLen; omega)); simp -implicitDefEqProofs [*]) | (with_reducible first | refine zM hm ?_ | refine zN hm ?_ | refine zO hm ?_ | refine zP hm ?_) | ((with_reducible refine wk_self [] hm ?_ ?_ ?_ ?_) <;> (try simp only [zT, puth, Nat.reduceEqDiff, reduceIte, Nat.reduceAdd])) | (with_reducible first | refine za ?_ ?_ | refine zb ?_ ?_ ?_ ?_ | refine zc ?_ ?_ ?_ ?_ | refine zd ?_ ?_ ?_ ?_ | refine objsM_abs ?_ ?_ | refine subH_cons ?_ ?_) | (with_reducible first | exact slotsM_nil | exact objsM_nil | exact subH_nil | exact coL_nilm | exact Co.refl _ | exact CoL.refl _ | exact CoLL.refl _) | ((with_reducible first | refine zga ?_ | refine zgb ?_); rfl) | ((with_reducible refine zgc ?_); (first | (with_reducible rfl) | rfl | (simp; done))) | ((with_reducible first | refine zgd ?_ | refine zge ?_); (first | omega | (simp; done))) | (refine co_wrap ⟨?_, ?_⟩ ?_ <;> omega) | (exact Co.refl _) | (exact CoL.refl _) | (exact CoLL.refl _) | (refine co_own ?_; omega) | (refine co_int ?_; first | omega | (simp_all; done)) | (with_reducible first | refine coL_cons ?_ ?_ | refine coL_consm ?_ ?_) | fail)
 have rest1 : SWp X c_pcheck_t1 (QFun X [ResultVar.cell 2 45] 0 (.agg [.int .i64 F.1, .int .i64 F.2]) []) ⟨[(1, .ptr 0 0), (2, .ptr 1 0), (3, .ptr 4 0)], [(0, .cells 29 (planc p)), (1, .cells 45 [.int .i64 0, .int .i64 0]), (4, .cells 78 (jc p e1 g1))], 5⟩ := by
  unfold c_pcheck_t1
  replace rest4 := Lib.hid rest4
  replace rest3 := Lib.hid rest3
  repeat' (first | (with_reducible first | refine zA ?_ | refine swp_block1 ?_ | refine swp_block2 ?_ | refine zK ?_) | ((with_reducible first | refine swp_reg ?_ | refine swp_regd (by rw [hP]; exact mixed) ?_); (try rw [hP]); simp -implicitDefEqProofs [*]) | ((with_reducible first | refine swp_skip ?_ | refine swp_exit ?_); (try simp -implicitDefEqProofs [*])) | ((with_reducible refine swp_ret ?_); (try simp only [qseq_r, qblock_r, qloop_r])) | ((with_reducible refine swp_cond rfl (fun h => ?_) (fun h => ?_)) <;> have h' := h <;> (try simp at h') <;> (try subst h')) | ((with_reducible refine sopsg_cases (fun h => ?_) (fun h => ?_)) <;> have h' := h <;> (try simp at h') <;> (try subst h') <;> simp -implicitDefEqProofs [*]) | ((with_reducible refine sopsk_rg ?_ ?_); (first | omega | (unfold maxLen; omega)); simp -implicitDefEqProofs [*]) | (refine call_h (call_jfail p _ _ _ _ _ _ _ (by simp)) ⟨rfl, trivial⟩ ⟨rfl, trivial⟩ ?_; simp -implicitDefEqProofs [*]) | (with_reducible first | refine zM hm ?_ | refine zN hm ?_ | refine zO hm ?_ | refine zP hm ?_) | fail)
  refine swp_block (swp_for (fun s (x : Nat × Int × Int) => s.turn [(61, .int .i64 x.1)] [(4, .cells 78 (jc p x.2.1 x.2.2))]) (fun x => x.1 ≤ p.meta_.length ∧ (e2, g2) = orF (x.2.1, x.2.2) (rowF (fun _ w => if wOut w then 6 else 0) 2000 x.1 (p.meta_.drop x.1))) (fun x => p.meta_.length - x.1) (0, _, _) ?_ ⟨by simp, hF2.out⟩ ?_)
  ·repeat' (first | ((with_reducible refine wk_self [] hm ?_ ?_ ?_ ?_) <;> (try simp only [zT, puth, Nat.reduceEqDiff, reduceIte, Nat.reduceAdd])) | (with_reducible first | refine za ?_ ?_ | refine zb ?_ ?_ ?_ ?_ | refine zc ?_ ?_ ?_ ?_ | refine zd ?_ ?_ ?_ ?_ | refine objsM_abs ?_ ?_ | refine subH_cons ?_ ?_) | (with_reducible first | exact slotsM_nil | exact objsM_nil | exact subH_nil | exact coL_nilm | exact Co.refl _ | exact CoL.refl _ | exact CoLL.refl _) | ((with_reducible first | refine zga ?_ | refine zgb ?_); rfl) | ((with_reducible refine zgc ?_); (first | (with_reducible rfl) | rfl | (simp; done))) | ((with_reducible first | refine zgd ?_ | refine zge ?_); (first | omega | (simp; done))) | (refine co_wrap ⟨?_, ?_⟩ ?_ <;> omega) | (exact Co.refl _) | (exact CoL.refl _) | (exact CoLL.refl _) | (refine co_own ?_; omega) | (refine co_int ?_; first | omega | (simp_all; done)) | (with_reducible first | refine coL_cons ?_ ?_ | refine coL_consm ?_ ?_) | fail)
  rintro J hJ ⟨i, e, g⟩ ⟨h1, h2⟩
  unfold c_pcheck_l2
  simp only [zT, puth, Nat.reduceEqDiff, reduceIte, Nat.reduceAdd] at h1 h2 ⊢
  rcases Nat.lt_or_ge i p.meta_.length with hi | hi
  ·rw [rowF_drop _ _ hi] at h2
   generalize hxx : p.meta_[i] = x at h2
   rw [row_step, or_fail e g] at h2
   have wi : IntKind.i64.wrap ((i : Int) + 1) = (i : Int) + 1 := i64_add_ (by omega) (by omega)
   have wa : IntKind.i64.wrap (2000 + (i : Int)) = 2000 + (i : Int) := i64_add_ (by omega) (by omega)
   have hfx : ∀ b, wOut x = b → failF e g ((if wOut x = true then (6 : Int) else 0) != 0) (if wOut x = true then (6 : Int) else 0) (2000 + (i : Int)) = failF e g b 6 (2000 + (i : Int)) := fun b hb => by
    rw [hb]; cases b <;> simp [failF]
   replace h2 := Lib.hid h2
   replace hfx := Lib.hid hfx
   repeat' (first | (with_reducible first | refine zA ?_ | refine swp_block1 ?_ | refine swp_block2 ?_ | refine zK ?_) | ((with_reducible first | refine swp_reg ?_ | refine swp_regd (by rw [hP]; exact mixed) ?_); (try rw [hP]); simp -implicitDefEqProofs [*]) | ((with_reducible first | refine swp_skip ?_ | refine swp_exit ?_); (try simp -implicitDefEqProofs [*])) | ((with_reducible refine swp_ret ?_); (try simp only [qseq_r, qblock_r, qloop_r])) | ((with_reducible refine swp_cond rfl (fun h => ?_) (fun h => ?_)) <;> have h' := h <;> (try simp at h') <;> (try subst h')) | ((with_reducible refine sopsg_cases (fun h => ?_) (fun h => ?_)) <;> have h' := h <;> (try simp at h') <;> (try subst h') <;> simp -implicitDefEqProofs [*]) | ((with_reducible refine sopsk_rg ?_ ?_); (first | omega | (unfold maxLen; omega)); simp -implicitDefEqProofs [*]) | (refine call_h (call_jfail p _ _ _ _ _ _ _ (by simp)) ⟨rfl, trivial⟩ ⟨rfl, trivial⟩ ?_; simp -implicitDefEqProofs [*]) | (with_reducible first | refine zM hm ?_ | refine zN hm ?_ | refine zO hm ?_ | refine zP hm ?_) | ((with_reducible refine wk_self [] hm ?_ ?_ ?_ ?_) <;> (try simp only [zT, puth, Nat.reduceEqDiff, reduceIte, Nat.reduceAdd])) | (with_reducible first | refine za ?_ ?_ | refine zb ?_ ?_ ?_ ?_ | refine zc ?_ ?_ ?_ ?_ | refine zd ?_ ?_ ?_ ?_ | refine objsM_abs ?_ ?_ | refine subH_cons ?_ ?_) | (with_reducible first | exact slotsM_nil | exact objsM_nil | exact subH_nil | exact coL_nilm | exact Co.refl _ | exact CoL.refl _ | exact CoLL.refl _) | ((with_reducible first | refine zga ?_ | refine zgb ?_); rfl) | ((with_reducible refine zgc ?_); (first | (with_reducible rfl) | rfl | (simp; done))) | ((with_reducible first | refine zgd ?_ | refine zge ?_); (first | omega | (simp; done))) | (refine co_wrap ⟨?_, ?_⟩ ?_ <;> omega) | (exact Co.refl _) | (exact CoL.refl _) | (exact CoLL.refl _) | (refine co_own ?_; omega) | (refine co_int ?_; first | omega | (simp_all; done)) | (with_reducible first | refine coL_cons ?_ ?_ | refine coL_consm ?_ ?_) | ((refine qfor_next hJ (i + 1, ?_, ?_) ?_ ?_ ?_; rotate_left 2; (with_reducible refine wk_self [] hm ?_ ?_ ?_ ?_) <;> (try simp only [zT, puth, Nat.reduceEqDiff, reduceIte, Nat.reduceAdd]))) | fail)
   all_goals (try dsimp only)
   all_goals (refine ⟨by omega, ?_⟩; rw [h2.out, hfx.out _ rfl]; congr 2; simp [wOut, *])
  ·obtain rfl : i = p.meta_.length := by omega
   rw [List.drop_length, orF_none _ rfl] at h2
   have q1 : e = e2 := (Prod.mk.inj h2).1.symm
   have q2 : g = g2 := (Prod.mk.inj h2).2.symm
   subst q1 q2
   clear h2
   replace hF2 := Lib.hid hF2
   by_cases he : e = 0
   ·have r3 := rest3.out he
    subst he
    replace r3 := Lib.hid r3
    repeat' (first | ((refine swp_wk ?_ r3.out)) | (with_reducible first | refine zA ?_ | refine swp_block1 ?_ | refine swp_block2 ?_ | refine zK ?_) | ((with_reducible first | refine swp_reg ?_ | refine swp_regd (by rw [hP]; exact mixed) ?_); (try rw [hP]); simp -implicitDefEqProofs [*]) | ((with_reducible first | refine swp_skip ?_ | refine swp_exit ?_); (try simp -implicitDefEqProofs [*])) | ((with_reducible refine swp_ret ?_); (try simp only [qseq_r, qblock_r, qloop_r])) | ((with_reducible refine swp_cond rfl (fun h => ?_) (fun h => ?_)) <;> have h' := h <;> (try simp at h') <;> (try subst h')) | ((with_reducible refine sopsg_cases (fun h => ?_) (fun h => ?_)) <;> have h' := h <;> (try simp at h') <;> (try subst h') <;> simp -implicitDefEqProofs [*]) | ((with_reducible refine sopsk_rg ?_ ?_); (first | omega | (unfold maxLen; omega)); simp -implicitDefEqProofs [*]) | (with_reducible first | refine zM hm ?_ | refine zN hm ?_ | refine zO hm ?_ | refine zP hm ?_) | ((with_reducible refine wk_self [] hm ?_ ?_ ?_ ?_) <;> (try simp only [zT, puth, Nat.reduceEqDiff, reduceIte, Nat.reduceAdd])) | (with_reducible first | refine za ?_ ?_ | refine zb ?_ ?_ ?_ ?_ | refine zc ?_ ?_ ?_ ?_ | refine zd ?_ ?_ ?_ ?_ | refine objsM_abs ?_ ?_ | refine subH_cons ?_ ?_) | (with_reducible first | exact slotsM_nil | exact objsM_nil | exact subH_nil | exact coL_nilm | exact Co.refl _ | exact CoL.refl _ | exact CoLL.refl _) | ((with_reducible first | refine zga ?_ | refine zgb ?_); rfl) | ((with_reducible refine zgc ?_); (first | (with_reducible rfl) | rfl | (simp; done))) | ((with_reducible first | refine zgd ?_ | refine zge ?_); (first | omega | (simp; done))) | (refine co_wrap ⟨?_, ?_⟩ ?_ <;> omega) | (exact Co.refl _) | (exact CoL.refl _) | (exact CoLL.refl _) | (refine co_own ?_; omega) | (refine co_int ?_; first | omega | (simp_all; done)) | (with_reducible first | refine coL_cons ?_ ?_ | refine coL_consm ?_ ?_) | fail)
   ·have ke : (e != 0) = true := by simpa using he
    have hfin : F = (e, g) := by rw [hF0.out]; exact orF_pos he _
    replace hfin := Lib.hid hfin
    repeat' (first | (with_reducible first | refine zA ?_ | refine swp_block1 ?_ | refine swp_block2 ?_ | refine zK ?_) | ((with_reducible first | refine swp_reg ?_ | refine swp_regd (by rw [hP]; exact mixed) ?_); (try rw [hP]); simp -implicitDefEqProofs [*]) | ((with_reducible first | refine swp_skip ?_ | refine swp_exit ?_); (try simp -implicitDefEqProofs [*])) | ((with_reducible refine swp_ret ?_); (try simp only [qseq_r, qblock_r, qloop_r])) | ((with_reducible refine swp_cond rfl (fun h => ?_) (fun h => ?_)) <;> have h' := h <;> (try simp at h') <;> (try subst h')) | ((with_reducible refine sopsg_cases (fun h => ?_) (fun h => ?_)) <;> have h' := h <;> (try simp at h') <;> (try subst h') <;> simp -implicitDefEqProofs [*]) | ((with_reducible refine sopsk_rg ?_ ?_); (first | omega | (unfold maxLen; omega)); simp -implicitDefEqProofs [*]) | (with_reducible first | refine zM hm ?_ | refine zN hm ?_ | refine zO hm ?_ | refine zP hm ?_) | (refine fin_c hm rfl rfl (by rw [hP]; exact agg_fault) (by rw [hP]; exact size_fault) rfl (CoL.refl _) (by rw [hfin.out]) (fun σ => rfl)) | fail)
 unfold c_pcheck
 replace rest1 := Lib.hid rest1
 clear rest3 rest4
 repeat' (first | (with_reducible first | refine zA ?_ | refine swp_block1 ?_ | refine swp_block2 ?_ | refine zK ?_) | ((with_reducible first | refine swp_reg ?_ | refine swp_regd (by rw [hP]; exact mixed) ?_); (try rw [hP]); simp -implicitDefEqProofs [*]) | ((with_reducible first | refine swp_skip ?_ | refine swp_exit ?_); (try simp -implicitDefEqProofs [*])) | ((with_reducible refine swp_ret ?_); (try simp only [qseq_r, qblock_r, qloop_r])) | ((with_reducible refine swp_cond rfl (fun h => ?_) (fun h => ?_)) <;> have h' := h <;> (try simp at h') <;> (try subst h')) | ((with_reducible refine sopsg_cases (fun h => ?_) (fun h => ?_)) <;> have h' := h <;> (try simp at h') <;> (try subst h') <;> simp -implicitDefEqProofs [*]) | ((with_reducible refine sopsk_rg ?_ ?_); (first | omega | (unfold maxLen; omega)); simp -implicitDefEqProofs [*]) | (refine call_h (call_jfail p _ _ _ _ _ _ _ (by simp)) ⟨rfl, trivial⟩ ⟨rfl, trivial⟩ ?_; simp -implicitDefEqProofs [*]) | (with_reducible first | refine zM hm ?_ | refine zN hm ?_ | refine zO hm ?_ | refine zP hm ?_) | fail)
 refine swp_block (swp_for (fun s (x : Nat × Int × Int) => s.turn [(4, .int .i64 x.1)] [(4, .cells 78 (jc p x.2.1 x.2.2))]) (fun x => x.1 ≤ p.heads.length ∧ (e1, g1) = orF (x.2.1, x.2.2) (rowF (fun _ h => sizeC h.w) 1000 x.1 (p.heads.drop x.1))) (fun x => p.heads.length - x.1) (0, _, _) ?_ ⟨by simp, hF1.out⟩ ?_)
 ·repeat' (first | ((with_reducible refine wk_self [] hm ?_ ?_ ?_ ?_) <;> (try simp only [zT, puth, Nat.reduceEqDiff, reduceIte, Nat.reduceAdd])) | (with_reducible first | refine za ?_ ?_ | refine zb ?_ ?_ ?_ ?_ | refine zc ?_ ?_ ?_ ?_ | refine zd ?_ ?_ ?_ ?_ | refine objsM_abs ?_ ?_ | refine subH_cons ?_ ?_) | (with_reducible first | exact slotsM_nil | exact objsM_nil | exact subH_nil | exact coL_nilm | exact Co.refl _ | exact CoL.refl _ | exact CoLL.refl _) | ((with_reducible first | refine zga ?_ | refine zgb ?_); rfl) | ((with_reducible refine zgc ?_); (first | (with_reducible rfl) | rfl | (simp; done))) | ((with_reducible first | refine zgd ?_ | refine zge ?_); (first | omega | (simp; done))) | (refine co_wrap ⟨?_, ?_⟩ ?_ <;> omega) | (exact Co.refl _) | (exact CoL.refl _) | (exact CoLL.refl _) | (refine co_own ?_; omega) | (refine co_int ?_; first | omega | (simp_all; done)) | (with_reducible first | refine coL_cons ?_ ?_ | refine coL_consm ?_ ?_) | fail)
 rintro J hJ ⟨i, e, g⟩ ⟨h1, h2⟩
 unfold c_pcheck_l1
 simp only [zT, puth, Nat.reduceEqDiff, reduceIte, Nat.reduceAdd] at h1 h2 ⊢
 have stop : ∀ h : (e1, g1) = (e, g), e = e1 ∧ g = g1 := fun h => ⟨(Prod.mk.inj h).1.symm, (Prod.mk.inj h).2.symm⟩
 rcases Nat.lt_or_ge i p.heads.length with hi | hi
 ·rw [rowF_drop _ _ hi] at h2
  generalize hxx : p.heads[i] = x at h2
  by_cases he : e = 0
  ·subst he
   rw [row_step, or_fail 0 g (sizeC x.w)] at h2
   have wi : IntKind.i64.wrap ((i : Int) + 1) = (i : Int) + 1 := i64_add_ (by omega) (by omega)
   have wa : IntKind.i64.wrap (1000 + (i : Int)) = 1000 + (i : Int) := i64_add_ (by omega) (by omega)
   replace h2 := Lib.hid h2
   clear stop
   repeat' (first | (with_reducible first | refine zA ?_ | refine swp_block1 ?_ | refine swp_block2 ?_ | refine zK ?_) | ((with_reducible first | refine swp_reg ?_ | refine swp_regd (by rw [hP]; exact mixed) ?_); (try rw [hP]); simp -implicitDefEqProofs [sizeR, *]) | ((with_reducible first | refine swp_skip ?_ | refine swp_exit ?_); (try simp -implicitDefEqProofs [sizeR, *])) | ((with_reducible refine swp_ret ?_); (try simp only [qseq_r, qblock_r, qloop_r])) | ((with_reducible refine swp_cond rfl (fun h => ?_) (fun h => ?_)) <;> have h' := h <;> (try simp at h') <;> (try subst h')) | ((with_reducible refine sopsg_cases (fun h => ?_) (fun h => ?_)) <;> have h' := h <;> (try simp at h') <;> (try subst h') <;> simp -implicitDefEqProofs [sizeR, *]) | ((with_reducible refine sopsk_rg ?_ ?_); (first | omega | (unfold maxLen; omega)); simp -implicitDefEqProofs [sizeR, *]) | ((first | refine call_h (call_jfail p _ _ _ _ _ _ _ (by simp)) ⟨rfl, trivial⟩ ⟨rfl, trivial⟩ ?_ | refine call_q (psize_s x.w _) ?_); simp -implicitDefEqProofs [sizeR, *]) | (with_reducible first | refine zM hm ?_ | refine zN hm ?_ | refine zO hm ?_ | refine zP hm ?_) | ((with_reducible refine wk_self [] hm ?_ ?_ ?_ ?_) <;> (try simp only [zT, puth, Nat.reduceEqDiff, reduceIte, Nat.reduceAdd])) | (with_reducible first | refine za ?_ ?_ | refine zb ?_ ?_ ?_ ?_ | refine zc ?_ ?_ ?_ ?_ | refine zd ?_ ?_ ?_ ?_ | refine objsM_abs ?_ ?_ | refine subH_cons ?_ ?_) | (with_reducible first | exact slotsM_nil | exact objsM_nil | exact subH_nil | exact coL_nilm | exact Co.refl _ | exact CoL.refl _ | exact CoLL.refl _) | ((with_reducible first | refine zga ?_ | refine zgb ?_); rfl) | ((with_reducible refine zgc ?_); (first | (with_reducible rfl) | rfl | (simp; done))) | ((with_reducible first | refine zgd ?_ | refine zge ?_); (first | omega | (simp; done))) | (refine co_wrap ⟨?_, ?_⟩ ?_ <;> omega) | (exact Co.refl _) | (exact CoL.refl _) | (exact CoLL.refl _) | (refine co_own ?_; omega) | (refine co_int ?_; first | omega | (simp_all; done)) | (with_reducible first | refine coL_cons ?_ ?_ | refine coL_consm ?_ ?_) | ((refine qfor_next hJ (i + 1, ?_, ?_) ?_ ?_ ?_; rotate_left 2; (with_reducible refine wk_self [] hm ?_ ?_ ?_ ?_) <;> (try simp only [zT, puth, Nat.reduceEqDiff, reduceIte, Nat.reduceAdd]))) | fail)
   all_goals (try dsimp only)
   all_goals (exact ⟨by omega, h2.out⟩)
  ·rw [orF_pos he] at h2
   obtain ⟨rfl, rfl⟩ := stop h2
   have ke : (e == 0) = false := by simpa using he
   clear h2 stop
   repeat' (first | ((refine swp_wk ?_ rest1.out)) | (with_reducible first | refine zA ?_ | refine swp_block1 ?_ | refine swp_block2 ?_ | refine zK ?_) | ((with_reducible first | refine swp_reg ?_ | refine swp_regd (by rw [hP]; exact mixed) ?_); (try rw [hP]); simp -implicitDefEqProofs [*]) | ((with_reducible first | refine swp_skip ?_ | refine swp_exit ?_); (try simp -implicitDefEqProofs [*])) | ((with_reducible refine swp_ret ?_); (try simp only [qseq_r, qblock_r, qloop_r])) | ((with_reducible refine swp_cond rfl (fun h => ?_) (fun h => ?_)) <;> have h' := h <;> (try simp at h') <;> (try subst h')) | ((with_reducible refine sopsg_cases (fun h => ?_) (fun h => ?_)) <;> have h' := h <;> (try simp at h') <;> (try subst h') <;> simp -implicitDefEqProofs [*]) | ((with_reducible refine sopsk_rg ?_ ?_); (first | omega | (unfold maxLen; omega)); simp -implicitDefEqProofs [*]) | (with_reducible first | refine zM hm ?_ | refine zN hm ?_ | refine zO hm ?_ | refine zP hm ?_) | ((with_reducible refine wk_self [] hm ?_ ?_ ?_ ?_) <;> (try simp only [zT, puth, Nat.reduceEqDiff, reduceIte, Nat.reduceAdd])) | (with_reducible first | refine za ?_ ?_ | refine zb ?_ ?_ ?_ ?_ | refine zc ?_ ?_ ?_ ?_ | refine zd ?_ ?_ ?_ ?_ | refine objsM_abs ?_ ?_ | refine subH_cons ?_ ?_) | (with_reducible first | exact slotsM_nil | exact objsM_nil | exact subH_nil | exact coL_nilm | exact Co.refl _ | exact CoL.refl _ | exact CoLL.refl _) | ((with_reducible first | refine zga ?_ | refine zgb ?_); rfl) | ((with_reducible refine zgc ?_); (first | (with_reducible rfl) | rfl | (simp; done))) | ((with_reducible first | refine zgd ?_ | refine zge ?_); (first | omega | (simp; done))) | (refine co_wrap ⟨?_, ?_⟩ ?_ <;> omega) | (exact Co.refl _) | (exact CoL.refl _) | (exact CoLL.refl _) | (refine co_own ?_; omega) | (refine co_int ?_; first | omega | (simp_all; done)) | (with_reducible first | refine coL_cons ?_ ?_ | refine coL_consm ?_ ?_) | fail)
 ·obtain rfl : i = p.heads.length := by omega
  rw [List.drop_length, orF_none _ rfl] at h2
  obtain ⟨rfl, rfl⟩ := stop h2
  clear h2 stop
  repeat' (first | ((refine swp_wk ?_ rest1.out)) | (with_reducible first | refine zA ?_ | refine swp_block1 ?_ | refine swp_block2 ?_ | refine zK ?_) | ((with_reducible first | refine swp_reg ?_ | refine swp_regd (by rw [hP]; exact mixed) ?_); (try rw [hP]); simp -implicitDefEqProofs [*]) | ((with_reducible first | refine swp_skip ?_ | refine swp_exit ?_); (try simp -implicitDefEqProofs [*])) | ((with_reducible refine swp_ret ?_); (try simp only [qseq_r, qblock_r, qloop_r])) | ((with_reducible refine swp_cond rfl (fun h => ?_) (fun h => ?_)) <;> have h' := h <;> (try simp at h') <;> (try subst h')) | ((with_reducible refine sopsg_cases (fun h => ?_) (fun h => ?_)) <;> have h' := h <;> (try simp at h') <;> (try subst h') <;> simp -implicitDefEqProofs [*]) | ((with_reducible refine sopsk_rg ?_ ?_); (first | omega | (unfold maxLen; omega)); simp -implicitDefEqProofs [*]) | (with_reducible first | refine zM hm ?_ | refine zN hm ?_ | refine zO hm ?_ | refine zP hm ?_) | ((with_reducible refine wk_self [] hm ?_ ?_ ?_ ?_) <;> (try simp only [zT, puth, Nat.reduceEqDiff, reduceIte, Nat.reduceAdd])) | (with_reducible first | refine za ?_ ?_ | refine zb ?_ ?_ ?_ ?_ | refine zc ?_ ?_ ?_ ?_ | refine zd ?_ ?_ ?_ ?_ | refine objsM_abs ?_ ?_ | refine subH_cons ?_ ?_) | (with_reducible first | exact slotsM_nil | exact objsM_nil | exact subH_nil | exact coL_nilm | exact Co.refl _ | exact CoL.refl _ | exact CoLL.refl _) | ((with_reducible first | refine zga ?_ | refine zgb ?_); rfl) | ((with_reducible refine zgc ?_); (first | (with_reducible rfl) | rfl | (simp; done))) | ((with_reducible first | refine zgd ?_ | refine zge ?_); (first | omega | (simp; done))) | (refine co_wrap ⟨?_, ?_⟩ ?_ <;> omega) | (exact Co.refl _) | (exact CoL.refl _) | (exact CoLL.refl _) | (refine co_own ?_; omega) | (refine co_int ?_; first | omega | (simp_all; done)) | (with_reducible first | refine coL_cons ?_ ?_ | refine coL_consm ?_ ?_) | fail)
end Go.Proofs.Ytnfjldobjgdiaaa
namespace Go.Proofs.Ytnfjldobjgdiaaa
set_option linter.all false
open Go.RowKit
attribute [local simp] sops_nil sops_run sopsk_some sops_call sops_guard sopsg_yes sopsg_tf sopsg_ft sopsg_undef rg_true SOp.run SX.ev putd puts argS upds SOp.touch SSt.keep SSt.skip gets geth puth delh idOf SV.cells? setL fillS fillR sbin eq0 eq1 eqL rowOf qseq_n qseq_e qseq_r qblock_n qblock_r qblock_e qloop_e qloop_r take_map_len FrzOk pureV_int pureV_bool pureV_str pureV_nil pureV_nilsl pureV_view pureV_cp pureL_nil_ pureL_cons_ pureO_row pureO_cells frzS frzH frz frz1 frz0 SlotsM ObjsM ObjM rn ren ren1 ren0 co_self co_int co_own co_view co_nilsl co_agg co_tup CoL coll_self mergeH dels adds idsH okNames
attribute [local simp] headc refc pushc casec statec opc actc tabc nodec planc nums
theorem z_many (c : Bool) (at_ : Int) (R S : Int × Int) : orF (0, 0) (orF (orF (manyF c at_) R) S) = if c = true then (2, at_) else orF (0, 0) (orF R S) := by
 cases c
 ·rw [show manyF false at_ = (0, 0) from rfl, orF_assoc, ← orF_assoc (0, 0) (0, 0)]; rfl
 ·rfl
theorem z_row {α : Type} (f : Nat → α → Int) (b : Int) {l : List α} {i : Nat} (hi : i < l.length) {S : Int × Int} : orF (0, 0) (orF (rowF f b i (l.drop i)) S) = if f i l[i] ≠ 0 then (f i l[i], b + i) else orF (0, 0) (orF (rowF f b (i + 1) (l.drop (i + 1))) S) := by
 rw [rowF_drop _ _ hi]
 by_cases h : f i l[i] ≠ 0
 ·rw [if_pos h, if_pos h, orF_pos (f := (f i l[i], b + i)) h]; unfold orF; simp [h]
 ·rw [if_neg h, if_neg h]
theorem z_end (S : Int × Int) : orF (0, 0) (orF (0, 0) S) = orF (0, 0) S := by rw [← orF_assoc]; rfl
theorem z_last (p : PlanD) : orF (0, 0) (outsF p) = orF (0, 0) (orF (outsF p) (0, 0)) := by rw [orF_none (outsF p) rfl]
set_option maxHeartbeats 16000000 in
theorem rform_s (p : PlanD) (hs : SmallP p) (q : Nat) : SCalls Try.prog 18 [.agg (planc p)] [] q (.agg [.int .i64 (planF p).1, .int .i64 (planF p).2]) [] := by
 refine scalls_q ?_ (fun _ => rfl) (fun _ => rfl) rfl q
 refine scalls_of (N := 229) Try.func18 rfl rfl (by kernel_rfl) comp_c_rform (by simp) (by repeat' (first | exact trivial | refine And.intro ?_ ?_ | rfl | decide | exact PureR.ren _)) (by repeat' (first | exact trivial | refine And.intro ?_ ?_ | rfl | decide | exact PureR.ren _)) ?_
 rintro X hP hN hm
 unfold c_rform
 have hF : planF p = orF (0, 0) (orF (headsF p) (orF (metaF p) (orF (statesF p) (orF (actsF p) (orF (tabsF p) (orF (nodesF p) (outsF p))))))) := (planF_start p).symm
 generalize planF p = F at hF
 replace hF := Lib.hid hF
 have hl1 := hs.heads
 have hl2 := hs.metas
 have hl3 := hs.states
 have hl4 := hs.acts
 have hl5 := hs.tabs
 have hl6 := hs.nodes
 have hl7 := hs.outs
 have hS : F = if decide (6 < (p.heads.length : Int)) = true then (2, -1) else orF (0, 0) (orF (rowF (fun _ h => sizeC h.w) 1000 0 (p.heads.drop 0)) (orF (metaF p) (orF (statesF p) (orF (actsF p) (orF (tabsF p) (orF (nodesF p) (outsF p))))))) := by
  rw [hF.out]; unfold headsF; rw [z_many, show decide (6 < p.heads.length) = decide (6 < (p.heads.length : Int)) from decide_eq_decide.2 (by omega)]; rfl
 replace hF := Lib.hid hS
 clear hS
 cases km : decide (6 < (p.heads.length : Int))
 rotate_left
 ·have hz := hF.out
  rw [km, if_pos rfl] at hz
  replace hz := Lib.hid hz
  repeat' (first | (with_reducible first | refine zA ?_ | refine swp_block1 ?_ | refine swp_block2 ?_ | refine zK ?_) | ((with_reducible first | refine swp_reg ?_ | refine swp_regd (by rw [hP]; exact mixed) ?_); (try rw [hP]); simp -implicitDefEqProofs [*]) | ((with_reducible first | refine swp_skip ?_ | refine swp_exit ?_); (try simp -implicitDefEqProofs [*])) | ((with_reducible refine swp_ret ?_); (try simp only [qseq_r, qblock_r, qloop_r])) | ((with_reducible refine swp_cond rfl (fun h => ?_) (fun h => ?_)) <;> have h' := h <;> (try simp at h') <;> (try subst h')) | ((with_reducible refine sopsg_cases (fun h => ?_) (fun h => ?_)) <;> have h' := h <;> (try simp at h') <;> (try subst h') <;> simp -implicitDefEqProofs [*]) | ((with_reducible refine sopsk_rg ?_ ?_); (first | omega | (unfold maxLen; omega)); simp -implicitDefEqProofs [*]) | (refine call_q (rF_s _ _ _) ?_; simp -implicitDefEqProofs [*]) | (with_reducible first | refine zM hm ?_ | refine zN hm ?_ | refine zO hm ?_ | refine zP hm ?_) | (refine fin_c hm rfl rfl (by rw [hP]; exact agg_fault) (by rw [hP]; exact size_fault) rfl (CoL.refl _) (by rw [hz.out]) (fun σ => rfl)) | fail)
 have hz := hF.out
 rw [km, if_neg Bool.false_ne_true] at hz
 replace hF := Lib.hid hz
 clear hz
 repeat' (first | (with_reducible first | refine zA ?_ | refine swp_block1 ?_ | refine swp_block2 ?_ | refine zK ?_) | ((with_reducible first | refine swp_reg ?_ | refine swp_regd (by rw [hP]; exact mixed) ?_); (try rw [hP]); simp -implicitDefEqProofs [*]) | ((with_reducible first | refine swp_skip ?_ | refine swp_exit ?_); (try simp -implicitDefEqProofs [*])) | ((with_reducible refine swp_ret ?_); (try simp only [qseq_r, qblock_r, qloop_r])) | ((with_reducible refine swp_cond rfl (fun h => ?_) (fun h => ?_)) <;> have h' := h <;> (try simp at h') <;> (try subst h')) | ((with_reducible refine sopsg_cases (fun h => ?_) (fun h => ?_)) <;> have h' := h <;> (try simp at h') <;> (try subst h') <;> simp -implicitDefEqProofs [*]) | ((with_reducible refine sopsk_rg ?_ ?_); (first | omega | (unfold maxLen; omega)); simp -implicitDefEqProofs [*]) | (with_reducible first | refine zM hm ?_ | refine zN hm ?_ | refine zO hm ?_ | refine zP hm ?_) | fail)
 clear km
 refine swp_block (swp_for (fun s (i : Nat) => s.turn [(3, .int .i64 i)] []) (fun i => i ≤ p.heads.length ∧ F = orF (0, 0) (orF (rowF (fun _ h => sizeC h.w) 1000 i (p.heads.drop i)) (orF (metaF p) (orF (statesF p) (orF (actsF p) (orF (tabsF p) (orF (nodesF p) (outsF p)))))))) (fun i => p.heads.length - i) 0 ?_ ⟨by simp, hF.out⟩ ?_)
 ·repeat' (first | ((with_reducible refine wk_self [] hm ?_ ?_ ?_ ?_) <;> (try simp only [zT, puth, Nat.reduceEqDiff, reduceIte, Nat.reduceAdd])) | (with_reducible first | refine za ?_ ?_ | refine zb ?_ ?_ ?_ ?_ | refine zc ?_ ?_ ?_ ?_ | refine zd ?_ ?_ ?_ ?_ | refine objsM_abs ?_ ?_ | refine subH_cons ?_ ?_) | (with_reducible first | exact slotsM_nil | exact objsM_nil | exact subH_nil | exact coL_nilm | exact Co.refl _ | exact CoL.refl _ | exact CoLL.refl _) | ((with_reducible first | refine zga ?_ | refine zgb ?_); rfl) | ((with_reducible refine zgc ?_); (first | (with_reducible rfl) | rfl | (simp; done))) | ((with_reducible first | refine zgd ?_ | refine zge ?_); (first | omega | (simp; done))) | (refine co_wrap ⟨?_, ?_⟩ ?_ <;> omega) | (exact Co.refl _) | (exact CoL.refl _) | (exact CoLL.refl _) | (refine co_own ?_; omega) | (refine co_int ?_; first | omega | (simp_all; done)) | (with_reducible first | refine coL_cons ?_ ?_ | refine coL_consm ?_ ?_) | fail)
 rintro J hJ i ⟨h1, h2⟩
 unfold c_rform_l1
 simp only [zT, puth, Nat.reduceEqDiff, reduceIte, Nat.reduceAdd] at h1 h2 ⊢
 clear hF
 rcases Nat.lt_or_ge i p.heads.length with hi | hi
 ·rw [z_row _ _ hi] at h2
  have hxm : p.heads[i] ∈ p.heads := List.getElem_mem hi
  have wi : IntKind.i64.wrap ((i : Int) + 1) = (i : Int) + 1 := i64_add_ (by omega) (by omega)
  have wa : IntKind.i64.wrap (1000 + (i : Int)) = 1000 + (i : Int) := i64_add_ (by omega) (by omega)
  have hct := fun q => rsize_s p.heads[i].w q
  unfold sizeR at hct
  generalize hxx : p.heads[i] = x at h2 hct hxm
  obtain ⟨E, hE⟩ : ∃ E, sizeC x.w = E := ⟨_, rfl⟩
  rw [hE] at h2 hct
  clear hE
  replace h2 := Lib.hid h2
  replace hct := Lib.hid hct
  cases kE : (E != 0)
  ·have kE' : ¬ E ≠ 0 := by simpa using kE
   replace kE' := Lib.hid kE'
   repeat' (first | (with_reducible first | refine zA ?_ | refine swp_block1 ?_ | refine swp_block2 ?_ | refine zK ?_) | ((with_reducible first | refine swp_reg ?_ | refine swp_regd (by rw [hP]; exact mixed) ?_); (try rw [hP]); simp -implicitDefEqProofs [*]) | ((with_reducible first | refine swp_skip ?_ | refine swp_exit ?_); (try simp -implicitDefEqProofs [*])) | ((with_reducible refine swp_ret ?_); (try simp only [qseq_r, qblock_r, qloop_r])) | ((with_reducible refine swp_cond rfl (fun h => ?_) (fun h => ?_)) <;> have h' := h <;> (try simp at h') <;> (try subst h')) | ((with_reducible refine sopsg_cases (fun h => ?_) (fun h => ?_)) <;> have h' := h <;> (try simp at h') <;> (try subst h') <;> simp -implicitDefEqProofs [*]) | ((with_reducible refine sopsk_rg ?_ ?_); (first | omega | (unfold maxLen; omega)); simp -implicitDefEqProofs [*]) | (refine call_q (hct.out _) ?_; simp -implicitDefEqProofs [*]) | (with_reducible first | refine zM hm ?_ | refine zN hm ?_ | refine zO hm ?_ | refine zP hm ?_) | ((with_reducible refine wk_self [] hm ?_ ?_ ?_ ?_) <;> (try simp only [zT, puth, Nat.reduceEqDiff, reduceIte, Nat.reduceAdd])) | (with_reducible first | refine za ?_ ?_ | refine zb ?_ ?_ ?_ ?_ | refine zc ?_ ?_ ?_ ?_ | refine zd ?_ ?_ ?_ ?_ | refine objsM_abs ?_ ?_ | refine subH_cons ?_ ?_) | (with_reducible first | exact slotsM_nil | exact objsM_nil | exact subH_nil | exact coL_nilm | exact Co.refl _ | exact CoL.refl _ | exact CoLL.refl _) | ((with_reducible first | refine zga ?_ | refine zgb ?_); rfl) | ((with_reducible refine zgc ?_); (first | (with_reducible rfl) | rfl | (simp; done))) | ((with_reducible first | refine zgd ?_ | refine zge ?_); (first | omega | (simp; done))) | (refine co_wrap ⟨?_, ?_⟩ ?_ <;> omega) | (exact Co.refl _) | (exact CoL.refl _) | (exact CoLL.refl _) | (refine co_own ?_; omega) | (refine co_int ?_; first | omega | (simp_all; done)) | (with_reducible first | refine coL_cons ?_ ?_ | refine coL_consm ?_ ?_) | ((refine qfor_next hJ (i + 1) ?_ ?_ ?_; (with_reducible refine wk_self [] hm ?_ ?_ ?_ ?_) <;> (try simp only [zT, puth, Nat.reduceEqDiff, reduceIte, Nat.reduceAdd]))) | fail)
   exact ⟨by omega, by rw [h2.out, if_neg kE'.out]⟩
  ·have kE' : E ≠ 0 := by simpa using kE
   have hz := h2.out
   rw [if_pos kE'] at hz
   replace kE' := Lib.hid kE'
   replace hz := Lib.hid hz
   repeat' (first | (with_reducible first | refine zA ?_ | refine swp_block1 ?_ | refine swp_block2 ?_ | refine zK ?_) | ((with_reducible first | refine swp_reg ?_ | refine swp_regd (by rw [hP]; exact mixed) ?_); (try rw [hP]); simp -implicitDefEqProofs [*]) | ((with_reducible first | refine swp_skip ?_ | refine swp_exit ?_); (try simp -implicitDefEqProofs [*])) | ((with_reducible refine swp_ret ?_); (try simp only [qseq_r, qblock_r, qloop_r])) | ((with_reducible refine swp_cond rfl (fun h => ?_) (fun h => ?_)) <;> have h' := h <;> (try simp at h') <;> (try subst h')) | ((with_reducible refine sopsg_cases (fun h => ?_) (fun h => ?_)) <;> have h' := h <;> (try simp at h') <;> (try subst h') <;> simp -implicitDefEqProofs [*]) | ((with_reducible refine sopsk_rg ?_ ?_); (first | omega | (unfold maxLen; omega)); simp -implicitDefEqProofs [*]) | ((first | refine call_q (hct.out _) ?_ | refine call_q (rF_s _ _ _) ?_); simp -implicitDefEqProofs [*]) | (with_reducible first | refine zM hm ?_ | refine zN hm ?_ | refine zO hm ?_ | refine zP hm ?_) | (refine fin_c hm rfl rfl (by rw [hP]; exact agg_fault) (by rw [hP]; exact size_fault) rfl (CoL.refl _) (by rw [hz.out]) (fun σ => rfl)) | fail)
 ·obtain rfl : i = p.heads.length := by omega
  have hF : F = orF (0, 0) (orF (metaF p) (orF (statesF p) (orF (actsF p) (orF (tabsF p) (orF (nodesF p) (outsF p)))))) := by rw [h2, List.drop_length]; exact z_end _
  clear h2 hi h1 hJ
  replace hF := Lib.hid hF
  have hS : F = if decide (4 < (p.meta_.length : Int)) = true then (2, -2) else orF (0, 0) (orF (rowF (fun _ w => if wOut w then 6 else 0) 2000 0 (p.meta_.drop 0)) (orF (statesF p) (orF (actsF p) (orF (tabsF p) (orF (nodesF p) (outsF p)))))) := by
   rw [hF.out]; unfold metaF; rw [z_many, show decide (4 < p.meta_.length) = decide (4 < (p.meta_.length : Int)) from decide_eq_decide.2 (by omega)]; rfl
  replace hF := Lib.hid hS
  clear hS
  cases km : decide (4 < (p.meta_.length : Int))
  rotate_left
  ·have hz := hF.out
   rw [km, if_pos rfl] at hz
   replace hz := Lib.hid hz
   repeat' (first | (with_reducible first | refine zA ?_ | refine swp_block1 ?_ | refine swp_block2 ?_ | refine zK ?_) | ((with_reducible first | refine swp_reg ?_ | refine swp_regd (by rw [hP]; exact mixed) ?_); (try rw [hP]); simp -implicitDefEqProofs [*]) | ((with_reducible first | refine swp_skip ?_ | refine swp_exit ?_); (try simp -implicitDefEqProofs [*])) | ((with_reducible refine swp_ret ?_); (try simp only [qseq_r, qblock_r, qloop_r])) | ((with_reducible refine swp_cond rfl (fun h => ?_) (fun h => ?_)) <;> have h' := h <;> (try simp at h') <;> (try subst h')) | ((with_reducible refine sopsg_cases (fun h => ?_) (fun h => ?_)) <;> have h' := h <;> (try simp at h') <;> (try subst h') <;> simp -implicitDefEqProofs [*]) | ((with_reducible refine sopsk_rg ?_ ?_); (first | omega | (unfold maxLen; omega)); simp -implicitDefEqProofs [*]) | (refine call_q (rF_s _ _ _) ?_; simp -implicitDefEqProofs [*]) | (with_reducible first | refine zM hm ?_ | refine zN hm ?_ | refine zO hm ?_ | refine zP hm ?_) | (refine fin_c hm rfl rfl (by rw [hP]; exact agg_fault) (by rw [hP]; exact size_fault) rfl (CoL.refl _) (by rw [hz.out]) (fun σ => rfl)) | fail)
  have hz := hF.out
  rw [km, if_neg Bool.false_ne_true] at hz
  replace hF := Lib.hid hz
  clear hz
  repeat' (first | (with_reducible first | refine zA ?_ | refine swp_block1 ?_ | refine swp_block2 ?_ | refine zK ?_) | ((with_reducible first | refine swp_reg ?_ | refine swp_regd (by rw [hP]; exact mixed) ?_); (try rw [hP]); simp -implicitDefEqProofs [*]) | ((with_reducible first | refine swp_skip ?_ | refine swp_exit ?_); (try simp -implicitDefEqProofs [*])) | ((with_reducible refine swp_ret ?_); (try simp only [qseq_r, qblock_r, qloop_r])) | ((with_reducible refine swp_cond rfl (fun h => ?_) (fun h => ?_)) <;> have h' := h <;> (try simp at h') <;> (try subst h')) | ((with_reducible refine sopsg_cases (fun h => ?_) (fun h => ?_)) <;> have h' := h <;> (try simp at h') <;> (try subst h') <;> simp -implicitDefEqProofs [*]) | ((with_reducible refine sopsk_rg ?_ ?_); (first | omega | (unfold maxLen; omega)); simp -implicitDefEqProofs [*]) | (with_reducible first | refine zM hm ?_ | refine zN hm ?_ | refine zO hm ?_ | refine zP hm ?_) | fail)
  clear km
  refine swp_block (swp_for (fun s (i : Nat) => s.turn [(6, .int .i64 i)] []) (fun i => i ≤ p.meta_.length ∧ F = orF (0, 0) (orF (rowF (fun _ w => if wOut w then 6 else 0) 2000 i (p.meta_.drop i)) (orF (statesF p) (orF (actsF p) (orF (tabsF p) (orF (nodesF p) (outsF p))))))) (fun i => p.meta_.length - i) 0 ?_ ⟨by simp, hF.out⟩ ?_)
  ·repeat' (first | ((with_reducible refine wk_self [] hm ?_ ?_ ?_ ?_) <;> (try simp only [zT, puth, Nat.reduceEqDiff, reduceIte, Nat.reduceAdd])) | (with_reducible first | refine za ?_ ?_ | refine zb ?_ ?_ ?_ ?_ | refine zc ?_ ?_ ?_ ?_ | refine zd ?_ ?_ ?_ ?_ | refine objsM_abs ?_ ?_ | refine subH_cons ?_ ?_) | (with_reducible first | exact slotsM_nil | exact objsM_nil | exact subH_nil | exact coL_nilm | exact Co.refl _ | exact CoL.refl _ | exact CoLL.refl _) | ((with_reducible first | refine zga ?_ | refine zgb ?_); rfl) | ((with_reducible refine zgc ?_); (first | (with_reducible rfl) | rfl | (simp; done))) | ((with_reducible first | refine zgd ?_ | refine zge ?_); (first | omega | (simp; done))) | (refine co_wrap ⟨?_, ?_⟩ ?_ <;> omega) | (exact Co.refl _) | (exact CoL.refl _) | (exact CoLL.refl _) | (refine co_own ?_; omega) | (refine co_int ?_; first | omega | (simp_all; done)) | (with_reducible first | refine coL_cons ?_ ?_ | refine coL_consm ?_ ?_) | fail)
  rintro J hJ i ⟨h1, h2⟩
  unfold c_rform_l2
  simp only [zT, puth, Nat.reduceEqDiff, reduceIte, Nat.reduceAdd] at h1 h2 ⊢
  clear hF
  rcases Nat.lt_or_ge i p.meta_.length with hi | hi
  ·rw [z_row _ _ hi] at h2
   have hxm : p.meta_[i] ∈ p.meta_ := List.getElem_mem hi
   have wi : IntKind.i64.wrap ((i : Int) + 1) = (i : Int) + 1 := i64_add_ (by omega) (by omega)
   have wa : IntKind.i64.wrap (2000 + (i : Int)) = 2000 + (i : Int) := i64_add_ (by omega) (by omega)
   generalize hxx : p.meta_[i] = x at h2 hxm
   replace h2 := Lib.hid h2
   cases hv : wOut x
   ·have hv1 : decide (x < 1) = false ∧ decide (48 < x) = false := by simpa [wOut] using hv
    obtain ⟨v1, v2⟩ := hv1
    repeat' (first | (with_reducible first | refine zA ?_ | refine swp_block1 ?_ | refine swp_block2 ?_ | refine zK ?_) | ((with_reducible first | refine swp_reg ?_ | refine swp_regd (by rw [hP]; exact mixed) ?_); (try rw [hP]); simp -implicitDefEqProofs [*]) | ((with_reducible first | refine swp_skip ?_ | refine swp_exit ?_); (try simp -implicitDefEqProofs [*])) | ((with_reducible refine swp_ret ?_); (try simp only [qseq_r, qblock_r, qloop_r])) | ((with_reducible refine swp_cond rfl (fun h => ?_) (fun h => ?_)) <;> have h' := h <;> (try simp at h') <;> (try subst h')) | ((with_reducible refine sopsg_cases (fun h => ?_) (fun h => ?_)) <;> have h' := h <;> (try simp at h') <;> (try subst h') <;> simp -implicitDefEqProofs [*]) | ((with_reducible refine sopsk_rg ?_ ?_); (first | omega | (unfold maxLen; omega)); simp -implicitDefEqProofs [*]) | (with_reducible first | refine zM hm ?_ | refine zN hm ?_ | refine zO hm ?_ | refine zP hm ?_) | ((with_reducible refine wk_self [] hm ?_ ?_ ?_ ?_) <;> (try simp only [zT, puth, Nat.reduceEqDiff, reduceIte, Nat.reduceAdd])) | (with_reducible first | refine za ?_ ?_ | refine zb ?_ ?_ ?_ ?_ | refine zc ?_ ?_ ?_ ?_ | refine zd ?_ ?_ ?_ ?_ | refine objsM_abs ?_ ?_ | refine subH_cons ?_ ?_) | (with_reducible first | exact slotsM_nil | exact objsM_nil | exact subH_nil | exact coL_nilm | exact Co.refl _ | exact CoL.refl _ | exact CoLL.refl _) | ((with_reducible first | refine zga ?_ | refine zgb ?_); rfl) | ((with_reducible refine zgc ?_); (first | (with_reducible rfl) | rfl | (simp; done))) | ((with_reducible first | refine zgd ?_ | refine zge ?_); (first | omega | (simp; done))) | (refine co_wrap ⟨?_, ?_⟩ ?_ <;> omega) | (exact Co.refl _) | (exact CoL.refl _) | (exact CoLL.refl _) | (refine co_own ?_; omega) | (refine co_int ?_; first | omega | (simp_all; done)) | (with_reducible first | refine coL_cons ?_ ?_ | refine coL_consm ?_ ?_) | ((refine qfor_next hJ (i + 1) ?_ ?_ ?_; (with_reducible refine wk_self [] hm ?_ ?_ ?_ ?_) <;> (try simp only [zT, puth, Nat.reduceEqDiff, reduceIte, Nat.reduceAdd]))) | fail)
    exact ⟨by omega, by rw [h2.out, hv]; rfl⟩
   ·have hz := h2.out
    rw [hv] at hz
    replace hz : F = (6, 2000 + (i : Int)) := hz
    replace hz := Lib.hid hz
    replace hv := Lib.hid hv
    repeat' (first | (with_reducible first | refine zA ?_ | refine swp_block1 ?_ | refine swp_block2 ?_ | refine zK ?_) | ((with_reducible first | refine swp_reg ?_ | refine swp_regd (by rw [hP]; exact mixed) ?_); (try rw [hP]); simp -implicitDefEqProofs [*]) | ((with_reducible first | refine swp_skip ?_ | refine swp_exit ?_); (try simp -implicitDefEqProofs [*])) | ((with_reducible refine swp_ret ?_); (try simp only [qseq_r, qblock_r, qloop_r])) | ((with_reducible refine swp_cond rfl (fun h => ?_) (fun h => ?_)) <;> have h' := h <;> (try simp at h') <;> (try subst h')) | ((with_reducible refine sopsg_cases (fun h => ?_) (fun h => ?_)) <;> have h' := h <;> (try simp at h') <;> (try subst h') <;> simp -implicitDefEqProofs [*]) | ((with_reducible refine sopsk_rg ?_ ?_); (first | omega | (unfold maxLen; omega)); simp -implicitDefEqProofs [*]) | (refine call_q (rF_s _ _ _) ?_; simp -implicitDefEqProofs [*]) | (with_reducible first | refine zM hm ?_ | refine zN hm ?_ | refine zO hm ?_ | refine zP hm ?_) | ((with_reducible refine wk_self [] hm ?_ ?_ ?_ ?_) <;> (try simp only [zT, puth, Nat.reduceEqDiff, reduceIte, Nat.reduceAdd])) | (with_reducible first | refine za ?_ ?_ | refine zb ?_ ?_ ?_ ?_ | refine zc ?_ ?_ ?_ ?_ | refine zd ?_ ?_ ?_ ?_ | refine objsM_abs ?_ ?_ | refine subH_cons ?_ ?_) | (with_reducible first | exact slotsM_nil | exact objsM_nil | exact subH_nil | exact coL_nilm | exact Co.refl _ | exact CoL.refl _ | exact CoLL.refl _) | ((with_reducible first | refine zga ?_ | refine zgb ?_); rfl) | ((with_reducible refine zgc ?_); (first | (with_reducible rfl) | rfl | (simp; done))) | ((with_reducible first | refine zgd ?_ | refine zge ?_); (first | omega | (simp; done))) | (refine co_wrap ⟨?_, ?_⟩ ?_ <;> omega) | (exact Co.refl _) | (exact CoL.refl _) | (exact CoLL.refl _) | (refine co_own ?_; omega) | (refine co_int ?_; first | omega | (simp_all; done)) | (with_reducible first | refine coL_cons ?_ ?_ | refine coL_consm ?_ ?_) | ((refine qfor_next hJ (i + 1) ?_ ?_ ?_; (with_reducible refine wk_self [] hm ?_ ?_ ?_ ?_) <;> (try simp only [zT, puth, Nat.reduceEqDiff, reduceIte, Nat.reduceAdd]))) | (refine fin_c hm rfl rfl (by rw [hP]; exact agg_fault) (by rw [hP]; exact size_fault) rfl (CoL.refl _) (by rw [hz.out]) (fun σ => rfl)) | fail)
    all_goals (exfalso; have q := hv.out; simp only [wOut, Bool.or_eq_true, decide_eq_true_eq] at q; omega)
  ·obtain rfl : i = p.meta_.length := by omega
   have hF : F = orF (0, 0) (orF (statesF p) (orF (actsF p) (orF (tabsF p) (orF (nodesF p) (outsF p))))) := by rw [h2, List.drop_length]; exact z_end _
   clear h2 hi h1 hJ
   replace hF := Lib.hid hF
   have hS : F = if (decide ((p.states.length : Int) < 1) || decide (8 < (p.states.length : Int))) = true then (2, -3) else orF (0, 0) (orF (rowF (fun i s => stateF p i s) 3000 0 (p.states.drop 0)) (orF (actsF p) (orF (tabsF p) (orF (nodesF p) (outsF p))))) := by
    rw [hF.out]; unfold statesF; rw [z_many, show decide (p.states.length < 1) = decide ((p.states.length : Int) < 1) from decide_eq_decide.2 (by omega), show decide (8 < p.states.length) = decide (8 < (p.states.length : Int)) from decide_eq_decide.2 (by omega)]; rfl
   replace hF := Lib.hid hS
   clear hS
   cases km1 : decide ((p.states.length : Int) < 1)
   rotate_left
   ·have hz := hF.out
    rw [km1, Bool.true_or, if_pos rfl] at hz
    replace hz := Lib.hid hz
    repeat' (first | (with_reducible first | refine zA ?_ | refine swp_block1 ?_ | refine swp_block2 ?_ | refine zK ?_) | ((with_reducible first | refine swp_reg ?_ | refine swp_regd (by rw [hP]; exact mixed) ?_); (try rw [hP]); simp -implicitDefEqProofs [*]) | ((with_reducible first | refine swp_skip ?_ | refine swp_exit ?_); (try simp -implicitDefEqProofs [*])) | ((with_reducible refine swp_ret ?_); (try simp only [qseq_r, qblock_r, qloop_r])) | ((with_reducible refine swp_cond rfl (fun h => ?_) (fun h => ?_)) <;> have h' := h <;> (try simp at h') <;> (try subst h')) | ((with_reducible refine sopsg_cases (fun h => ?_) (fun h => ?_)) <;> have h' := h <;> (try simp at h') <;> (try subst h') <;> simp -implicitDefEqProofs [*]) | ((with_reducible refine sopsk_rg ?_ ?_); (first | omega | (unfold maxLen; omega)); simp -implicitDefEqProofs [*]) | (refine call_q (rF_s _ _ _) ?_; simp -implicitDefEqProofs [*]) | (with_reducible first | refine zM hm ?_ | refine zN hm ?_ | refine zO hm ?_ | refine zP hm ?_) | (refine fin_c hm rfl rfl (by rw [hP]; exact agg_fault) (by rw [hP]; exact size_fault) rfl (CoL.refl _) (by rw [hz.out]) (fun σ => rfl)) | fail)
   cases km : decide (8 < (p.states.length : Int))
   rotate_left
   ·have hz := hF.out
    rw [km1, km, Bool.or_true, if_pos rfl] at hz
    replace hz := Lib.hid hz
    repeat' (first | (with_reducible first | refine zA ?_ | refine swp_block1 ?_ | refine swp_block2 ?_ | refine zK ?_) | ((with_reducible first | refine swp_reg ?_ | refine swp_regd (by rw [hP]; exact mixed) ?_); (try rw [hP]); simp -implicitDefEqProofs [*]) | ((with_reducible first | refine swp_skip ?_ | refine swp_exit ?_); (try simp -implicitDefEqProofs [*])) | ((with_reducible refine swp_ret ?_); (try simp only [qseq_r, qblock_r, qloop_r])) | ((with_reducible refine swp_cond rfl (fun h => ?_) (fun h => ?_)) <;> have h' := h <;> (try simp at h') <;> (try subst h')) | ((with_reducible refine sopsg_cases (fun h => ?_) (fun h => ?_)) <;> have h' := h <;> (try simp at h') <;> (try subst h') <;> simp -implicitDefEqProofs [*]) | ((with_reducible refine sopsk_rg ?_ ?_); (first | omega | (unfold maxLen; omega)); simp -implicitDefEqProofs [*]) | (refine call_q (rF_s _ _ _) ?_; simp -implicitDefEqProofs [*]) | (with_reducible first | refine zM hm ?_ | refine zN hm ?_ | refine zO hm ?_ | refine zP hm ?_) | (refine fin_c hm rfl rfl (by rw [hP]; exact agg_fault) (by rw [hP]; exact size_fault) rfl (CoL.refl _) (by rw [hz.out]) (fun σ => rfl)) | fail)
   have hz := hF.out
   rw [km1, km, Bool.or_false, if_neg Bool.false_ne_true] at hz
   replace hF := Lib.hid hz
   clear hz
   repeat' (first | (with_reducible first | refine zA ?_ | refine swp_block1 ?_ | refine swp_block2 ?_ | refine zK ?_) | ((with_reducible first | refine swp_reg ?_ | refine swp_regd (by rw [hP]; exact mixed) ?_); (try rw [hP]); simp -implicitDefEqProofs [*]) | ((with_reducible first | refine swp_skip ?_ | refine swp_exit ?_); (try simp -implicitDefEqProofs [*])) | ((with_reducible refine swp_ret ?_); (try simp only [qseq_r, qblock_r, qloop_r])) | ((with_reducible refine swp_cond rfl (fun h => ?_) (fun h => ?_)) <;> have h' := h <;> (try simp at h') <;> (try subst h')) | ((with_reducible refine sopsg_cases (fun h => ?_) (fun h => ?_)) <;> have h' := h <;> (try simp at h') <;> (try subst h') <;> simp -implicitDefEqProofs [*]) | ((with_reducible refine sopsk_rg ?_ ?_); (first | omega | (unfold maxLen; omega)); simp -implicitDefEqProofs [*]) | (with_reducible first | refine zM hm ?_ | refine zN hm ?_ | refine zO hm ?_ | refine zP hm ?_) | fail)
   clear km km1
   refine swp_block (swp_for (fun s (i : Nat) => s.turn [(7, .int .i64 i)] []) (fun i => i ≤ p.states.length ∧ F = orF (0, 0) (orF (rowF (fun i s => stateF p i s) 3000 i (p.states.drop i)) (orF (actsF p) (orF (tabsF p) (orF (nodesF p) (outsF p)))))) (fun i => p.states.length - i) 0 ?_ ⟨by simp, hF.out⟩ ?_)
   ·repeat' (first | ((with_reducible refine wk_self [] hm ?_ ?_ ?_ ?_) <;> (try simp only [zT, puth, Nat.reduceEqDiff, reduceIte, Nat.reduceAdd])) | (with_reducible first | refine za ?_ ?_ | refine zb ?_ ?_ ?_ ?_ | refine zc ?_ ?_ ?_ ?_ | refine zd ?_ ?_ ?_ ?_ | refine objsM_abs ?_ ?_ | refine subH_cons ?_ ?_) | (with_reducible first | exact slotsM_nil | exact objsM_nil | exact subH_nil | exact coL_nilm | exact Co.refl _ | exact CoL.refl _ | exact CoLL.refl _) | ((with_reducible first | refine zga ?_ | refine zgb ?_); rfl) | ((with_reducible refine zgc ?_); (first | (with_reducible rfl) | rfl | (simp; done))) | ((with_reducible first | refine zgd ?_ | refine zge ?_); (first | omega | (simp; done))) | (refine co_wrap ⟨?_, ?_⟩ ?_ <;> omega) | (exact Co.refl _) | (exact CoL.refl _) | (exact CoLL.refl _) | (refine co_own ?_; omega) | (refine co_int ?_; first | omega | (simp_all; done)) | (with_reducible first | refine coL_cons ?_ ?_ | refine coL_consm ?_ ?_) | fail)
   rintro J hJ i ⟨h1, h2⟩
   unfold c_rform_l3
   simp only [zT, puth, Nat.reduceEqDiff, reduceIte, Nat.reduceAdd] at h1 h2 ⊢
   clear hF
   rcases Nat.lt_or_ge i p.states.length with hi | hi
   ·rw [z_row _ _ hi] at h2
    have hxm : p.states[i] ∈ p.states := List.getElem_mem hi
    have wi : IntKind.i64.wrap ((i : Int) + 1) = (i : Int) + 1 := i64_add_ (by omega) (by omega)
    have wa : IntKind.i64.wrap (3000 + (i : Int)) = 3000 + (i : Int) := i64_add_ (by omega) (by omega)
    have hct := fun q => rstate_s p i hi (by omega) (by have := hs.cases_ _ hxm; omega) q
    generalize hxx : p.states[i] = x at h2 hct hxm
    generalize stateF p i x = E at h2 hct
    replace h2 := Lib.hid h2
    replace hct := Lib.hid hct
    cases kE : (E != 0)
    ·have kE' : ¬ E ≠ 0 := by simpa using kE
     replace kE' := Lib.hid kE'
     repeat' (first | (with_reducible first | refine zA ?_ | refine swp_block1 ?_ | refine swp_block2 ?_ | refine zK ?_) | ((with_reducible first | refine swp_reg ?_ | refine swp_regd (by rw [hP]; exact mixed) ?_); (try rw [hP]); simp -implicitDefEqProofs [*]) | ((with_reducible first | refine swp_skip ?_ | refine swp_exit ?_); (try simp -implicitDefEqProofs [*])) | ((with_reducible refine swp_ret ?_); (try simp only [qseq_r, qblock_r, qloop_r])) | ((with_reducible refine swp_cond rfl (fun h => ?_) (fun h => ?_)) <;> have h' := h <;> (try simp at h') <;> (try subst h')) | ((with_reducible refine sopsg_cases (fun h => ?_) (fun h => ?_)) <;> have h' := h <;> (try simp at h') <;> (try subst h') <;> simp -implicitDefEqProofs [*]) | ((with_reducible refine sopsk_rg ?_ ?_); (first | omega | (unfold maxLen; omega)); simp -implicitDefEqProofs [*]) | (refine call_q (hct.out _) ?_; simp -implicitDefEqProofs [*]) | (with_reducible first | refine zM hm ?_ | refine zN hm ?_ | refine zO hm ?_ | refine zP hm ?_) | ((with_reducible refine wk_self [] hm ?_ ?_ ?_ ?_) <;> (try simp only [zT, puth, Nat.reduceEqDiff, reduceIte, Nat.reduceAdd])) | (with_reducible first | refine za ?_ ?_ | refine zb ?_ ?_ ?_ ?_ | refine zc ?_ ?_ ?_ ?_ | refine zd ?_ ?_ ?_ ?_ | refine objsM_abs ?_ ?_ | refine subH_cons ?_ ?_) | (with_reducible first | exact slotsM_nil | exact objsM_nil | exact subH_nil | exact coL_nilm | exact Co.refl _ | exact CoL.refl _ | exact CoLL.refl _) | ((with_reducible first | refine zga ?_ | refine zgb ?_); rfl) | ((with_reducible refine zgc ?_); (first | (with_reducible rfl) | rfl | (simp; done))) | ((with_reducible first | refine zgd ?_ | refine zge ?_); (first | omega | (simp; done))) | (refine co_wrap ⟨?_, ?_⟩ ?_ <;> omega) | (exact Co.refl _) | (exact CoL.refl _) | (exact CoLL.refl _) | (refine co_own ?_; omega) | (refine co_int ?_; first | omega | (simp_all; done)) | (with_reducible first | refine coL_cons ?_ ?_ | refine coL_consm ?_ ?_) | ((refine qfor_next hJ (i + 1) ?_ ?_ ?_; (with_reducible refine wk_self [] hm ?_ ?_ ?_ ?_) <;> (try simp only [zT, puth, Nat.reduceEqDiff, reduceIte, Nat.reduceAdd]))) | fail)
     exact ⟨by omega, by rw [h2.out, if_neg kE'.out]⟩
    ·have kE' : E ≠ 0 := by simpa using kE
     have hz := h2.out
     rw [if_pos kE'] at hz
     replace kE' := Lib.hid kE'
     replace hz := Lib.hid hz
     repeat' (first | (with_reducible first | refine zA ?_ | refine swp_block1 ?_ | refine swp_block2 ?_ | refine zK ?_) | ((with_reducible first | refine swp_reg ?_ | refine swp_regd (by rw [hP]; exact mixed) ?_); (try rw [hP]); simp -implicitDefEqProofs [*]) | ((with_reducible first | refine swp_skip ?_ | refine swp_exit ?_); (try simp -implicitDefEqProofs [*])) | ((with_reducible refine swp_ret ?_); (try simp only [qseq_r, qblock_r, qloop_r])) | ((with_reducible refine swp_cond rfl (fun h => ?_) (fun h => ?_)) <;> have h' := h <;> (try simp at h') <;> (try subst h')) | ((with_reducible refine sopsg_cases (fun h => ?_) (fun h => ?_)) <;> have h' := h <;> (try simp at h') <;> (try subst h') <;> simp -implicitDefEqProofs [*]) | ((with_reducible refine sopsk_rg ?_ ?_); (first | omega | (unfold maxLen; omega)); simp -implicitDefEqProofs [*]) | ((first | refine call_q (hct.out _) ?_ | refine call_q (rF_s _ _ _) ?_); simp -implicitDefEqProofs [*]) | (with_reducible first | refine zM hm ?_ | refine zN hm ?_ | refine zO hm ?_ | refine zP hm ?_) | (refine fin_c hm rfl rfl (by rw [hP]; exact agg_fault) (by rw [hP]; exact size_fault) rfl (CoL.refl _) (by rw [hz.out]) (fun σ => rfl)) | fail)
   ·obtain rfl : i = p.states.length := by omega
    have hF : F = orF (0, 0) (orF (actsF p) (orF (tabsF p) (orF (nodesF p) (outsF p)))) := by rw [h2, List.drop_length]; exact z_end _
    clear h2 hi h1 hJ
    replace hF := Lib.hid hF
    have hS : F = if decide (8 < (p.acts.length : Int)) = true then (2, -4) else orF (0, 0) (orF (rowF (fun _ a => actF p a) 4000 0 (p.acts.drop 0)) (orF (tabsF p) (orF (nodesF p) (outsF p)))) := by
     rw [hF.out]; unfold actsF; rw [z_many, show decide (8 < p.acts.length) = decide (8 < (p.acts.length : Int)) from decide_eq_decide.2 (by omega)]; rfl
    replace hF := Lib.hid hS
    clear hS
    cases km : decide (8 < (p.acts.length : Int))
    rotate_left
    ·have hz := hF.out
     rw [km, if_pos rfl] at hz
     replace hz := Lib.hid hz
     repeat' (first | (with_reducible first | refine zA ?_ | refine swp_block1 ?_ | refine swp_block2 ?_ | refine zK ?_) | ((with_reducible first | refine swp_reg ?_ | refine swp_regd (by rw [hP]; exact mixed) ?_); (try rw [hP]); simp -implicitDefEqProofs [*]) | ((with_reducible first | refine swp_skip ?_ | refine swp_exit ?_); (try simp -implicitDefEqProofs [*])) | ((with_reducible refine swp_ret ?_); (try simp only [qseq_r, qblock_r, qloop_r])) | ((with_reducible refine swp_cond rfl (fun h => ?_) (fun h => ?_)) <;> have h' := h <;> (try simp at h') <;> (try subst h')) | ((with_reducible refine sopsg_cases (fun h => ?_) (fun h => ?_)) <;> have h' := h <;> (try simp at h') <;> (try subst h') <;> simp -implicitDefEqProofs [*]) | ((with_reducible refine sopsk_rg ?_ ?_); (first | omega | (unfold maxLen; omega)); simp -implicitDefEqProofs [*]) | (refine call_q (rF_s _ _ _) ?_; simp -implicitDefEqProofs [*]) | (with_reducible first | refine zM hm ?_ | refine zN hm ?_ | refine zO hm ?_ | refine zP hm ?_) | (refine fin_c hm rfl rfl (by rw [hP]; exact agg_fault) (by rw [hP]; exact size_fault) rfl (CoL.refl _) (by rw [hz.out]) (fun σ => rfl)) | fail)
    have hz := hF.out
    rw [km, if_neg Bool.false_ne_true] at hz
    replace hF := Lib.hid hz
    clear hz
    repeat' (first | (with_reducible first | refine zA ?_ | refine swp_block1 ?_ | refine swp_block2 ?_ | refine zK ?_) | ((with_reducible first | refine swp_reg ?_ | refine swp_regd (by rw [hP]; exact mixed) ?_); (try rw [hP]); simp -implicitDefEqProofs [*]) | ((with_reducible first | refine swp_skip ?_ | refine swp_exit ?_); (try simp -implicitDefEqProofs [*])) | ((with_reducible refine swp_ret ?_); (try simp only [qseq_r, qblock_r, qloop_r])) | ((with_reducible refine swp_cond rfl (fun h => ?_) (fun h => ?_)) <;> have h' := h <;> (try simp at h') <;> (try subst h')) | ((with_reducible refine sopsg_cases (fun h => ?_) (fun h => ?_)) <;> have h' := h <;> (try simp at h') <;> (try subst h') <;> simp -implicitDefEqProofs [*]) | ((with_reducible refine sopsk_rg ?_ ?_); (first | omega | (unfold maxLen; omega)); simp -implicitDefEqProofs [*]) | (with_reducible first | refine zM hm ?_ | refine zN hm ?_ | refine zO hm ?_ | refine zP hm ?_) | fail)
    clear km
    refine swp_block (swp_for (fun s (i : Nat) => s.turn [(9, .int .i64 i)] []) (fun i => i ≤ p.acts.length ∧ F = orF (0, 0) (orF (rowF (fun _ a => actF p a) 4000 i (p.acts.drop i)) (orF (tabsF p) (orF (nodesF p) (outsF p))))) (fun i => p.acts.length - i) 0 ?_ ⟨by simp, hF.out⟩ ?_)
    ·repeat' (first | ((with_reducible refine wk_self [] hm ?_ ?_ ?_ ?_) <;> (try simp only [zT, puth, Nat.reduceEqDiff, reduceIte, Nat.reduceAdd])) | (with_reducible first | refine za ?_ ?_ | refine zb ?_ ?_ ?_ ?_ | refine zc ?_ ?_ ?_ ?_ | refine zd ?_ ?_ ?_ ?_ | refine objsM_abs ?_ ?_ | refine subH_cons ?_ ?_) | (with_reducible first | exact slotsM_nil | exact objsM_nil | exact subH_nil | exact coL_nilm | exact Co.refl _ | exact CoL.refl _ | exact CoLL.refl _) | ((with_reducible first | refine zga ?_ | refine zgb ?_); rfl) | ((with_reducible refine zgc ?_); (first | (with_reducible rfl) | rfl | (simp; done))) | ((with_reducible first | refine zgd ?_ | refine zge ?_); (first | omega | (simp; done))) | (refine co_wrap ⟨?_, ?_⟩ ?_ <;> omega) | (exact Co.refl _) | (exact CoL.refl _) | (exact CoLL.refl _) | (refine co_own ?_; omega) | (refine co_int ?_; first | omega | (simp_all; done)) | (with_reducible first | refine coL_cons ?_ ?_ | refine coL_consm ?_ ?_) | fail)
    rintro J hJ i ⟨h1, h2⟩
    unfold c_rform_l4
    simp only [zT, puth, Nat.reduceEqDiff, reduceIte, Nat.reduceAdd] at h1 h2 ⊢
    clear hF
    rcases Nat.lt_or_ge i p.acts.length with hi | hi
    ·rw [z_row _ _ hi] at h2
     have hxm : p.acts[i] ∈ p.acts := List.getElem_mem hi
     have wi : IntKind.i64.wrap ((i : Int) + 1) = (i : Int) + 1 := i64_add_ (by omega) (by omega)
     have wa : IntKind.i64.wrap (4000 + (i : Int)) = 4000 + (i : Int) := i64_add_ (by omega) (by omega)
     have hct := fun q => ract_s p p.acts[i] (by have := hs.actW _ hxm; omega) (by have := hs.ops _ hxm; omega) (fun o ho => by have := hs.tree _ hxm o ho; omega) q
     generalize hxx : p.acts[i] = x at h2 hct hxm
     generalize actF p x = E at h2 hct
     replace h2 := Lib.hid h2
     replace hct := Lib.hid hct
     cases kE : (E != 0)
     ·have kE' : ¬ E ≠ 0 := by simpa using kE
      replace kE' := Lib.hid kE'
      repeat' (first | (with_reducible first | refine zA ?_ | refine swp_block1 ?_ | refine swp_block2 ?_ | refine zK ?_) | ((with_reducible first | refine swp_reg ?_ | refine swp_regd (by rw [hP]; exact mixed) ?_); (try rw [hP]); simp -implicitDefEqProofs [*]) | ((with_reducible first | refine swp_skip ?_ | refine swp_exit ?_); (try simp -implicitDefEqProofs [*])) | ((with_reducible refine swp_ret ?_); (try simp only [qseq_r, qblock_r, qloop_r])) | ((with_reducible refine swp_cond rfl (fun h => ?_) (fun h => ?_)) <;> have h' := h <;> (try simp at h') <;> (try subst h')) | ((with_reducible refine sopsg_cases (fun h => ?_) (fun h => ?_)) <;> have h' := h <;> (try simp at h') <;> (try subst h') <;> simp -implicitDefEqProofs [*]) | ((with_reducible refine sopsk_rg ?_ ?_); (first | omega | (unfold maxLen; omega)); simp -implicitDefEqProofs [*]) | (refine call_q (hct.out _) ?_; simp -implicitDefEqProofs [*]) | (with_reducible first | refine zM hm ?_ | refine zN hm ?_ | refine zO hm ?_ | refine zP hm ?_) | ((with_reducible refine wk_self [] hm ?_ ?_ ?_ ?_) <;> (try simp only [zT, puth, Nat.reduceEqDiff, reduceIte, Nat.reduceAdd])) | (with_reducible first | refine za ?_ ?_ | refine zb ?_ ?_ ?_ ?_ | refine zc ?_ ?_ ?_ ?_ | refine zd ?_ ?_ ?_ ?_ | refine objsM_abs ?_ ?_ | refine subH_cons ?_ ?_) | (with_reducible first | exact slotsM_nil | exact objsM_nil | exact subH_nil | exact coL_nilm | exact Co.refl _ | exact CoL.refl _ | exact CoLL.refl _) | ((with_reducible first | refine zga ?_ | refine zgb ?_); rfl) | ((with_reducible refine zgc ?_); (first | (with_reducible rfl) | rfl | (simp; done))) | ((with_reducible first | refine zgd ?_ | refine zge ?_); (first | omega | (simp; done))) | (refine co_wrap ⟨?_, ?_⟩ ?_ <;> omega) | (exact Co.refl _) | (exact CoL.refl _) | (exact CoLL.refl _) | (refine co_own ?_; omega) | (refine co_int ?_; first | omega | (simp_all; done)) | (with_reducible first | refine coL_cons ?_ ?_ | refine coL_consm ?_ ?_) | ((refine qfor_next hJ (i + 1) ?_ ?_ ?_; (with_reducible refine wk_self [] hm ?_ ?_ ?_ ?_) <;> (try simp only [zT, puth, Nat.reduceEqDiff, reduceIte, Nat.reduceAdd]))) | fail)
      exact ⟨by omega, by rw [h2.out, if_neg kE'.out]⟩
     ·have kE' : E ≠ 0 := by simpa using kE
      have hz := h2.out
      rw [if_pos kE'] at hz
      replace kE' := Lib.hid kE'
      replace hz := Lib.hid hz
      repeat' (first | (with_reducible first | refine zA ?_ | refine swp_block1 ?_ | refine swp_block2 ?_ | refine zK ?_) | ((with_reducible first | refine swp_reg ?_ | refine swp_regd (by rw [hP]; exact mixed) ?_); (try rw [hP]); simp -implicitDefEqProofs [*]) | ((with_reducible first | refine swp_skip ?_ | refine swp_exit ?_); (try simp -implicitDefEqProofs [*])) | ((with_reducible refine swp_ret ?_); (try simp only [qseq_r, qblock_r, qloop_r])) | ((with_reducible refine swp_cond rfl (fun h => ?_) (fun h => ?_)) <;> have h' := h <;> (try simp at h') <;> (try subst h')) | ((with_reducible refine sopsg_cases (fun h => ?_) (fun h => ?_)) <;> have h' := h <;> (try simp at h') <;> (try subst h') <;> simp -implicitDefEqProofs [*]) | ((with_reducible refine sopsk_rg ?_ ?_); (first | omega | (unfold maxLen; omega)); simp -implicitDefEqProofs [*]) | ((first | refine call_q (hct.out _) ?_ | refine call_q (rF_s _ _ _) ?_); simp -implicitDefEqProofs [*]) | (with_reducible first | refine zM hm ?_ | refine zN hm ?_ | refine zO hm ?_ | refine zP hm ?_) | (refine fin_c hm rfl rfl (by rw [hP]; exact agg_fault) (by rw [hP]; exact size_fault) rfl (CoL.refl _) (by rw [hz.out]) (fun σ => rfl)) | fail)
    ·obtain rfl : i = p.acts.length := by omega
     have hF : F = orF (0, 0) (orF (tabsF p) (orF (nodesF p) (outsF p))) := by rw [h2, List.drop_length]; exact z_end _
     clear h2 hi h1 hJ
     replace hF := Lib.hid hF
     have hS : F = if decide (5 < (p.tabs.length : Int)) = true then (2, -5) else orF (0, 0) (orF (rowF (fun _ t => tabF p t) 5000 0 (p.tabs.drop 0)) (orF (nodesF p) (outsF p))) := by
      rw [hF.out]; unfold tabsF; rw [z_many, show decide (5 < p.tabs.length) = decide (5 < (p.tabs.length : Int)) from decide_eq_decide.2 (by omega)]; rfl
     replace hF := Lib.hid hS
     clear hS
     cases km : decide (5 < (p.tabs.length : Int))
     rotate_left
     ·have hz := hF.out
      rw [km, if_pos rfl] at hz
      replace hz := Lib.hid hz
      repeat' (first | (with_reducible first | refine zA ?_ | refine swp_block1 ?_ | refine swp_block2 ?_ | refine zK ?_) | ((with_reducible first | refine swp_reg ?_ | refine swp_regd (by rw [hP]; exact mixed) ?_); (try rw [hP]); simp -implicitDefEqProofs [*]) | ((with_reducible first | refine swp_skip ?_ | refine swp_exit ?_); (try simp -implicitDefEqProofs [*])) | ((with_reducible refine swp_ret ?_); (try simp only [qseq_r, qblock_r, qloop_r])) | ((with_reducible refine swp_cond rfl (fun h => ?_) (fun h => ?_)) <;> have h' := h <;> (try simp at h') <;> (try subst h')) | ((with_reducible refine sopsg_cases (fun h => ?_) (fun h => ?_)) <;> have h' := h <;> (try simp at h') <;> (try subst h') <;> simp -implicitDefEqProofs [*]) | ((with_reducible refine sopsk_rg ?_ ?_); (first | omega | (unfold maxLen; omega)); simp -implicitDefEqProofs [*]) | (refine call_q (rF_s _ _ _) ?_; simp -implicitDefEqProofs [*]) | (with_reducible first | refine zM hm ?_ | refine zN hm ?_ | refine zO hm ?_ | refine zP hm ?_) | (refine fin_c hm rfl rfl (by rw [hP]; exact agg_fault) (by rw [hP]; exact size_fault) rfl (CoL.refl _) (by rw [hz.out]) (fun σ => rfl)) | fail)
     have hz := hF.out
     rw [km, if_neg Bool.false_ne_true] at hz
     replace hF := Lib.hid hz
     clear hz
     repeat' (first | (with_reducible first | refine zA ?_ | refine swp_block1 ?_ | refine swp_block2 ?_ | refine zK ?_) | ((with_reducible first | refine swp_reg ?_ | refine swp_regd (by rw [hP]; exact mixed) ?_); (try rw [hP]); simp -implicitDefEqProofs [*]) | ((with_reducible first | refine swp_skip ?_ | refine swp_exit ?_); (try simp -implicitDefEqProofs [*])) | ((with_reducible refine swp_ret ?_); (try simp only [qseq_r, qblock_r, qloop_r])) | ((with_reducible refine swp_cond rfl (fun h => ?_) (fun h => ?_)) <;> have h' := h <;> (try simp at h') <;> (try subst h')) | ((with_reducible refine sopsg_cases (fun h => ?_) (fun h => ?_)) <;> have h' := h <;> (try simp at h') <;> (try subst h') <;> simp -implicitDefEqProofs [*]) | ((with_reducible refine sopsk_rg ?_ ?_); (first | omega | (unfold maxLen; omega)); simp -implicitDefEqProofs [*]) | (with_reducible first | refine zM hm ?_ | refine zN hm ?_ | refine zO hm ?_ | refine zP hm ?_) | fail)
     clear km
     refine swp_block (swp_for (fun s (i : Nat) => s.turn [(11, .int .i64 i)] []) (fun i => i ≤ p.tabs.length ∧ F = orF (0, 0) (orF (rowF (fun _ t => tabF p t) 5000 i (p.tabs.drop i)) (orF (nodesF p) (outsF p)))) (fun i => p.tabs.length - i) 0 ?_ ⟨by simp, hF.out⟩ ?_)
     ·repeat' (first | ((with_reducible refine wk_self [] hm ?_ ?_ ?_ ?_) <;> (try simp only [zT, puth, Nat.reduceEqDiff, reduceIte, Nat.reduceAdd])) | (with_reducible first | refine za ?_ ?_ | refine zb ?_ ?_ ?_ ?_ | refine zc ?_ ?_ ?_ ?_ | refine zd ?_ ?_ ?_ ?_ | refine objsM_abs ?_ ?_ | refine subH_cons ?_ ?_) | (with_reducible first | exact slotsM_nil | exact objsM_nil | exact subH_nil | exact coL_nilm | exact Co.refl _ | exact CoL.refl _ | exact CoLL.refl _) | ((with_reducible first | refine zga ?_ | refine zgb ?_); rfl) | ((with_reducible refine zgc ?_); (first | (with_reducible rfl) | rfl | (simp; done))) | ((with_reducible first | refine zgd ?_ | refine zge ?_); (first | omega | (simp; done))) | (refine co_wrap ⟨?_, ?_⟩ ?_ <;> omega) | (exact Co.refl _) | (exact CoL.refl _) | (exact CoLL.refl _) | (refine co_own ?_; omega) | (refine co_int ?_; first | omega | (simp_all; done)) | (with_reducible first | refine coL_cons ?_ ?_ | refine coL_consm ?_ ?_) | fail)
     rintro J hJ i ⟨h1, h2⟩
     unfold c_rform_l5
     simp only [zT, puth, Nat.reduceEqDiff, reduceIte, Nat.reduceAdd] at h1 h2 ⊢
     clear hF
     rcases Nat.lt_or_ge i p.tabs.length with hi | hi
     ·rw [z_row _ _ hi] at h2
      have hxm : p.tabs[i] ∈ p.tabs := List.getElem_mem hi
      have wi : IntKind.i64.wrap ((i : Int) + 1) = (i : Int) + 1 := i64_add_ (by omega) (by omega)
      have wa : IntKind.i64.wrap (5000 + (i : Int)) = 5000 + (i : Int) := i64_add_ (by omega) (by omega)
      have hkw := hs.keys _ hxm
      generalize hxx : p.tabs[i] = x at h2 hxm hkw
      have hlw : (widthsOf p x).length ≤ 1000000 := by unfold widthsOf; rw [List.length_map]; omega
      have hc1 := fun q => rtable_s x (widthsOf p x) p.acts (by omega) (by omega) hlw (by omega) q
      have hc2 := fun q => rin_s (widthsOf p x) 0 hlw q
      have hc3 := fun q => rwidths_s p x (by omega) q
      have hT : tabF p x = if decide (3 < (x.keys.length : Int)) = true then 2 else if (widthsOf p x).contains 0 = true then 1 else tableF x (widthsOf p x) p.acts := by
       unfold tabF; simp only [decide_eq_true_eq]; congr 1; exact propext (by omega)
      rw [hT] at h2
      clear hT
      generalize tableF x (widthsOf p x) p.acts = T at h2 hc1
      generalize (widthsOf p x).contains 0 = C at h2 hc2
      generalize widthsOf p x = W at hc1 hc2 hc3
      replace h2 := Lib.hid h2
      replace hc1 := Lib.hid hc1
      replace hc3 := Lib.hid hc3
      cases k3 : decide (3 < (x.keys.length : Int))
      rotate_left
      ·have hz : F = (2, 5000 + (i : Int)) := by have := h2.out; rw [k3] at this; exact this
       replace hz := Lib.hid hz
       repeat' (first | (with_reducible first | refine zA ?_ | refine swp_block1 ?_ | refine swp_block2 ?_ | refine zK ?_) | ((with_reducible first | refine swp_reg ?_ | refine swp_regd (by rw [hP]; exact mixed) ?_); (try rw [hP]); simp -implicitDefEqProofs [*]) | ((with_reducible first | refine swp_skip ?_ | refine swp_exit ?_); (try simp -implicitDefEqProofs [*])) | ((with_reducible refine swp_ret ?_); (try simp only [qseq_r, qblock_r, qloop_r])) | ((with_reducible refine swp_cond rfl (fun h => ?_) (fun h => ?_)) <;> have h' := h <;> (try simp at h') <;> (try subst h')) | ((with_reducible refine sopsg_cases (fun h => ?_) (fun h => ?_)) <;> have h' := h <;> (try simp at h') <;> (try subst h') <;> simp -implicitDefEqProofs [*]) | ((with_reducible refine sopsk_rg ?_ ?_); (first | omega | (unfold maxLen; omega)); simp -implicitDefEqProofs [*]) | (refine call_q (rF_s _ _ _) ?_; simp -implicitDefEqProofs [*]) | (with_reducible first | refine zM hm ?_ | refine zN hm ?_ | refine zO hm ?_ | refine zP hm ?_) | (refine fin_c hm rfl rfl (by rw [hP]; exact agg_fault) (by rw [hP]; exact size_fault) rfl (CoL.refl _) (by rw [hz.out]) (fun σ => rfl)) | fail)
      cases kC : C <;> rw [kC] at hc2
      rotate_left
      ·have hz : F = (1, 5000 + (i : Int)) := by have := h2.out; rw [k3, kC] at this; exact this
       replace hz := Lib.hid hz
       repeat' (first | (with_reducible first | refine zA ?_ | refine swp_block1 ?_ | refine swp_block2 ?_ | refine zK ?_) | ((with_reducible first | refine swp_reg ?_ | refine swp_regd (by rw [hP]; exact mixed) ?_); (try rw [hP]); simp -implicitDefEqProofs [*]) | ((with_reducible first | refine swp_skip ?_ | refine swp_exit ?_); (try simp -implicitDefEqProofs [*])) | ((with_reducible refine swp_ret ?_); (try simp only [qseq_r, qblock_r, qloop_r])) | ((with_reducible refine swp_cond rfl (fun h => ?_) (fun h => ?_)) <;> have h' := h <;> (try simp at h') <;> (try subst h')) | ((with_reducible refine sopsg_cases (fun h => ?_) (fun h => ?_)) <;> have h' := h <;> (try simp at h') <;> (try subst h') <;> simp -implicitDefEqProofs [*]) | ((with_reducible refine sopsk_rg ?_ ?_); (first | omega | (unfold maxLen; omega)); simp -implicitDefEqProofs [*]) | ((first | refine call_q (hc3.out _) ?_ | refine call_q (hc2 _) ?_ | refine call_q (rF_s _ _ _) ?_); simp -implicitDefEqProofs [*]) | (with_reducible first | refine zM hm ?_ | refine zN hm ?_ | refine zO hm ?_ | refine zP hm ?_) | (refine fin_c hm rfl rfl (by rw [hP]; exact agg_fault) (by rw [hP]; exact size_fault) rfl (CoL.refl _) (by rw [hz.out]) (fun σ => rfl)) | fail)
      cases kT : (T != 0)
      ·have kT' : T = 0 := by simpa using kT
       replace kT' := Lib.hid kT'
       repeat' (first | (with_reducible first | refine zA ?_ | refine swp_block1 ?_ | refine swp_block2 ?_ | refine zK ?_) | ((with_reducible first | refine swp_reg ?_ | refine swp_regd (by rw [hP]; exact mixed) ?_); (try rw [hP]); simp -implicitDefEqProofs [*]) | ((with_reducible first | refine swp_skip ?_ | refine swp_exit ?_); (try simp -implicitDefEqProofs [*])) | ((with_reducible refine swp_ret ?_); (try simp only [qseq_r, qblock_r, qloop_r])) | ((with_reducible refine swp_cond rfl (fun h => ?_) (fun h => ?_)) <;> have h' := h <;> (try simp at h') <;> (try subst h')) | ((with_reducible refine sopsg_cases (fun h => ?_) (fun h => ?_)) <;> have h' := h <;> (try simp at h') <;> (try subst h') <;> simp -implicitDefEqProofs [*]) | ((with_reducible refine sopsk_rg ?_ ?_); (first | omega | (unfold maxLen; omega)); simp -implicitDefEqProofs [*]) | ((first | refine call_q (hc3.out _) ?_ | refine call_q (hc2 _) ?_ | refine call_q (hc1.out _) ?_); simp -implicitDefEqProofs [*]) | (with_reducible first | refine zM hm ?_ | refine zN hm ?_ | refine zO hm ?_ | refine zP hm ?_) | ((with_reducible refine wk_self [] hm ?_ ?_ ?_ ?_) <;> (try simp only [zT, puth, Nat.reduceEqDiff, reduceIte, Nat.reduceAdd])) | (with_reducible first | refine za ?_ ?_ | refine zb ?_ ?_ ?_ ?_ | refine zc ?_ ?_ ?_ ?_ | refine zd ?_ ?_ ?_ ?_ | refine objsM_abs ?_ ?_ | refine subH_cons ?_ ?_) | (with_reducible first | exact slotsM_nil | exact objsM_nil | exact subH_nil | exact coL_nilm | exact Co.refl _ | exact CoL.refl _ | exact CoLL.refl _) | ((with_reducible first | refine zga ?_ | refine zgb ?_); rfl) | ((with_reducible refine zgc ?_); (first | (with_reducible rfl) | rfl | (simp; done))) | ((with_reducible first | refine zgd ?_ | refine zge ?_); (first | omega | (simp; done))) | (refine co_wrap ⟨?_, ?_⟩ ?_ <;> omega) | (exact Co.refl _) | (exact CoL.refl _) | (exact CoLL.refl _) | (refine co_own ?_; omega) | (refine co_int ?_; first | omega | (simp_all; done)) | (with_reducible first | refine coL_cons ?_ ?_ | refine coL_consm ?_ ?_) | ((refine qfor_next hJ (i + 1) ?_ ?_ ?_; (with_reducible refine wk_self [] hm ?_ ?_ ?_ ?_) <;> (try simp only [zT, puth, Nat.reduceEqDiff, reduceIte, Nat.reduceAdd]))) | fail)
       exact ⟨by omega, by have := h2.out; rw [k3, kC, kT'.out] at this; exact this⟩
      ·have kT' : T ≠ 0 := by simpa using kT
       have hz : F = (T, 5000 + (i : Int)) := by have := h2.out; rw [k3, kC] at this; rw [this]; exact if_pos kT'
       replace kT' := Lib.hid kT'
       replace hz := Lib.hid hz
       repeat' (first | (with_reducible first | refine zA ?_ | refine swp_block1 ?_ | refine swp_block2 ?_ | refine zK ?_) | ((with_reducible first | refine swp_reg ?_ | refine swp_regd (by rw [hP]; exact mixed) ?_); (try rw [hP]); simp -implicitDefEqProofs [*]) | ((with_reducible first | refine swp_skip ?_ | refine swp_exit ?_); (try simp -implicitDefEqProofs [*])) | ((with_reducible refine swp_ret ?_); (try simp only [qseq_r, qblock_r, qloop_r])) | ((with_reducible refine swp_cond rfl (fun h => ?_) (fun h => ?_)) <;> have h' := h <;> (try simp at h') <;> (try subst h')) | ((with_reducible refine sopsg_cases (fun h => ?_) (fun h => ?_)) <;> have h' := h <;> (try simp at h') <;> (try subst h') <;> simp -implicitDefEqProofs [*]) | ((with_reducible refine sopsk_rg ?_ ?_); (first | omega | (unfold maxLen; omega)); simp -implicitDefEqProofs [*]) | ((first | refine call_q (hc3.out _) ?_ | refine call_q (hc2 _) ?_ | refine call_q (hc1.out _) ?_ | refine call_q (rF_s _ _ _) ?_); simp -implicitDefEqProofs [*]) | (with_reducible first | refine zM hm ?_ | refine zN hm ?_ | refine zO hm ?_ | refine zP hm ?_) | (refine fin_c hm rfl rfl (by rw [hP]; exact agg_fault) (by rw [hP]; exact size_fault) rfl (CoL.refl _) (by rw [hz.out]) (fun σ => rfl)) | fail)
     ·obtain rfl : i = p.tabs.length := by omega
      have hF : F = orF (0, 0) (orF (nodesF p) (outsF p)) := by rw [h2, List.drop_length]; exact z_end _
      clear h2 hi h1 hJ
      replace hF := Lib.hid hF
      have hS : F = if decide (10 < (p.nodes.length : Int)) = true then (2, -6) else orF (0, 0) (orF (rowF (fun i n => nodeF p i n) 6000 0 (p.nodes.drop 0)) (outsF p)) := by
       rw [hF.out]; unfold nodesF; rw [z_many, show decide (10 < p.nodes.length) = decide (10 < (p.nodes.length : Int)) from decide_eq_decide.2 (by omega)]; rfl
      replace hF := Lib.hid hS
      clear hS
      cases km : decide (10 < (p.nodes.length : Int))
      rotate_left
      ·have hz := hF.out
       rw [km, if_pos rfl] at hz
       replace hz := Lib.hid hz
       repeat' (first | (with_reducible first | refine zA ?_ | refine swp_block1 ?_ | refine swp_block2 ?_ | refine zK ?_) | ((with_reducible first | refine swp_reg ?_ | refine swp_regd (by rw [hP]; exact mixed) ?_); (try rw [hP]); simp -implicitDefEqProofs [*]) | ((with_reducible first | refine swp_skip ?_ | refine swp_exit ?_); (try simp -implicitDefEqProofs [*])) | ((with_reducible refine swp_ret ?_); (try simp only [qseq_r, qblock_r, qloop_r])) | ((with_reducible refine swp_cond rfl (fun h => ?_) (fun h => ?_)) <;> have h' := h <;> (try simp at h') <;> (try subst h')) | ((with_reducible refine sopsg_cases (fun h => ?_) (fun h => ?_)) <;> have h' := h <;> (try simp at h') <;> (try subst h') <;> simp -implicitDefEqProofs [*]) | ((with_reducible refine sopsk_rg ?_ ?_); (first | omega | (unfold maxLen; omega)); simp -implicitDefEqProofs [*]) | (refine call_q (rF_s _ _ _) ?_; simp -implicitDefEqProofs [*]) | (with_reducible first | refine zM hm ?_ | refine zN hm ?_ | refine zO hm ?_ | refine zP hm ?_) | (refine fin_c hm rfl rfl (by rw [hP]; exact agg_fault) (by rw [hP]; exact size_fault) rfl (CoL.refl _) (by rw [hz.out]) (fun σ => rfl)) | fail)
      have hz := hF.out
      rw [km, if_neg Bool.false_ne_true] at hz
      replace hF := Lib.hid hz
      clear hz
      repeat' (first | (with_reducible first | refine zA ?_ | refine swp_block1 ?_ | refine swp_block2 ?_ | refine zK ?_) | ((with_reducible first | refine swp_reg ?_ | refine swp_regd (by rw [hP]; exact mixed) ?_); (try rw [hP]); simp -implicitDefEqProofs [*]) | ((with_reducible first | refine swp_skip ?_ | refine swp_exit ?_); (try simp -implicitDefEqProofs [*])) | ((with_reducible refine swp_ret ?_); (try simp only [qseq_r, qblock_r, qloop_r])) | ((with_reducible refine swp_cond rfl (fun h => ?_) (fun h => ?_)) <;> have h' := h <;> (try simp at h') <;> (try subst h')) | ((with_reducible refine sopsg_cases (fun h => ?_) (fun h => ?_)) <;> have h' := h <;> (try simp at h') <;> (try subst h') <;> simp -implicitDefEqProofs [*]) | ((with_reducible refine sopsk_rg ?_ ?_); (first | omega | (unfold maxLen; omega)); simp -implicitDefEqProofs [*]) | (with_reducible first | refine zM hm ?_ | refine zN hm ?_ | refine zO hm ?_ | refine zP hm ?_) | fail)
      clear km
      refine swp_block (swp_for (fun s (i : Nat) => s.turn [(15, .int .i64 i)] []) (fun i => i ≤ p.nodes.length ∧ F = orF (0, 0) (orF (rowF (fun i n => nodeF p i n) 6000 i (p.nodes.drop i)) (outsF p))) (fun i => p.nodes.length - i) 0 ?_ ⟨by simp, hF.out⟩ ?_)
      ·repeat' (first | ((with_reducible refine wk_self [] hm ?_ ?_ ?_ ?_) <;> (try simp only [zT, puth, Nat.reduceEqDiff, reduceIte, Nat.reduceAdd])) | (with_reducible first | refine za ?_ ?_ | refine zb ?_ ?_ ?_ ?_ | refine zc ?_ ?_ ?_ ?_ | refine zd ?_ ?_ ?_ ?_ | refine objsM_abs ?_ ?_ | refine subH_cons ?_ ?_) | (with_reducible first | exact slotsM_nil | exact objsM_nil | exact subH_nil | exact coL_nilm | exact Co.refl _ | exact CoL.refl _ | exact CoLL.refl _) | ((with_reducible first | refine zga ?_ | refine zgb ?_); rfl) | ((with_reducible refine zgc ?_); (first | (with_reducible rfl) | rfl | (simp; done))) | ((with_reducible first | refine zgd ?_ | refine zge ?_); (first | omega | (simp; done))) | (refine co_wrap ⟨?_, ?_⟩ ?_ <;> omega) | (exact Co.refl _) | (exact CoL.refl _) | (exact CoLL.refl _) | (refine co_own ?_; omega) | (refine co_int ?_; first | omega | (simp_all; done)) | (with_reducible first | refine coL_cons ?_ ?_ | refine coL_consm ?_ ?_) | fail)
      rintro J hJ i ⟨h1, h2⟩
      unfold c_rform_l6
      simp only [zT, puth, Nat.reduceEqDiff, reduceIte, Nat.reduceAdd] at h1 h2 ⊢
      clear hF
      rcases Nat.lt_or_ge i p.nodes.length with hi | hi
      ·rw [z_row _ _ hi] at h2
       have hxm : p.nodes[i] ∈ p.nodes := List.getElem_mem hi
       have wi : IntKind.i64.wrap ((i : Int) + 1) = (i : Int) + 1 := i64_add_ (by omega) (by omega)
       have wa : IntKind.i64.wrap (6000 + (i : Int)) = 6000 + (i : Int) := i64_add_ (by omega) (by omega)
       have hct := fun q => rnode_s p i hi (by omega) (by have := hs.node _ hxm; omega) q
       generalize hxx : p.nodes[i] = x at h2 hct hxm
       generalize nodeF p i x = E at h2 hct
       replace h2 := Lib.hid h2
       replace hct := Lib.hid hct
       cases kE : (E != 0)
       ·have kE' : ¬ E ≠ 0 := by simpa using kE
        replace kE' := Lib.hid kE'
        repeat' (first | (with_reducible first | refine zA ?_ | refine swp_block1 ?_ | refine swp_block2 ?_ | refine zK ?_) | ((with_reducible first | refine swp_reg ?_ | refine swp_regd (by rw [hP]; exact mixed) ?_); (try rw [hP]); simp -implicitDefEqProofs [*]) | ((with_reducible first | refine swp_skip ?_ | refine swp_exit ?_); (try simp -implicitDefEqProofs [*])) | ((with_reducible refine swp_ret ?_); (try simp only [qseq_r, qblock_r, qloop_r])) | ((with_reducible refine swp_cond rfl (fun h => ?_) (fun h => ?_)) <;> have h' := h <;> (try simp at h') <;> (try subst h')) | ((with_reducible refine sopsg_cases (fun h => ?_) (fun h => ?_)) <;> have h' := h <;> (try simp at h') <;> (try subst h') <;> simp -implicitDefEqProofs [*]) | ((with_reducible refine sopsk_rg ?_ ?_); (first | omega | (unfold maxLen; omega)); simp -implicitDefEqProofs [*]) | (refine call_q (hct.out _) ?_; simp -implicitDefEqProofs [*]) | (with_reducible first | refine zM hm ?_ | refine zN hm ?_ | refine zO hm ?_ | refine zP hm ?_) | ((with_reducible refine wk_self [] hm ?_ ?_ ?_ ?_) <;> (try simp only [zT, puth, Nat.reduceEqDiff, reduceIte, Nat.reduceAdd])) | (with_reducible first | refine za ?_ ?_ | refine zb ?_ ?_ ?_ ?_ | refine zc ?_ ?_ ?_ ?_ | refine zd ?_ ?_ ?_ ?_ | refine objsM_abs ?_ ?_ | refine subH_cons ?_ ?_) | (with_reducible first | exact slotsM_nil | exact objsM_nil | exact subH_nil | exact coL_nilm | exact Co.refl _ | exact CoL.refl _ | exact CoLL.refl _) | ((with_reducible first | refine zga ?_ | refine zgb ?_); rfl) | ((with_reducible refine zgc ?_); (first | (with_reducible rfl) | rfl | (simp; done))) | ((with_reducible first | refine zgd ?_ | refine zge ?_); (first | omega | (simp; done))) | (refine co_wrap ⟨?_, ?_⟩ ?_ <;> omega) | (exact Co.refl _) | (exact CoL.refl _) | (exact CoLL.refl _) | (refine co_own ?_; omega) | (refine co_int ?_; first | omega | (simp_all; done)) | (with_reducible first | refine coL_cons ?_ ?_ | refine coL_consm ?_ ?_) | ((refine qfor_next hJ (i + 1) ?_ ?_ ?_; (with_reducible refine wk_self [] hm ?_ ?_ ?_ ?_) <;> (try simp only [zT, puth, Nat.reduceEqDiff, reduceIte, Nat.reduceAdd]))) | fail)
        exact ⟨by omega, by rw [h2.out, if_neg kE'.out]⟩
       ·have kE' : E ≠ 0 := by simpa using kE
        have hz := h2.out
        rw [if_pos kE'] at hz
        replace kE' := Lib.hid kE'
        replace hz := Lib.hid hz
        repeat' (first | (with_reducible first | refine zA ?_ | refine swp_block1 ?_ | refine swp_block2 ?_ | refine zK ?_) | ((with_reducible first | refine swp_reg ?_ | refine swp_regd (by rw [hP]; exact mixed) ?_); (try rw [hP]); simp -implicitDefEqProofs [*]) | ((with_reducible first | refine swp_skip ?_ | refine swp_exit ?_); (try simp -implicitDefEqProofs [*])) | ((with_reducible refine swp_ret ?_); (try simp only [qseq_r, qblock_r, qloop_r])) | ((with_reducible refine swp_cond rfl (fun h => ?_) (fun h => ?_)) <;> have h' := h <;> (try simp at h') <;> (try subst h')) | ((with_reducible refine sopsg_cases (fun h => ?_) (fun h => ?_)) <;> have h' := h <;> (try simp at h') <;> (try subst h') <;> simp -implicitDefEqProofs [*]) | ((with_reducible refine sopsk_rg ?_ ?_); (first | omega | (unfold maxLen; omega)); simp -implicitDefEqProofs [*]) | ((first | refine call_q (hct.out _) ?_ | refine call_q (rF_s _ _ _) ?_); simp -implicitDefEqProofs [*]) | (with_reducible first | refine zM hm ?_ | refine zN hm ?_ | refine zO hm ?_ | refine zP hm ?_) | (refine fin_c hm rfl rfl (by rw [hP]; exact agg_fault) (by rw [hP]; exact size_fault) rfl (CoL.refl _) (by rw [hz.out]) (fun σ => rfl)) | fail)
      ·obtain rfl : i = p.nodes.length := by omega
       have hF : F = orF (0, 0) (outsF p) := by rw [h2, List.drop_length]; exact z_end _
       clear h2 hi h1 hJ
       replace hF := Lib.hid hF
       have hS : F = if decide (6 < (p.out.length : Int)) = true then (2, -7) else orF (0, 0) (orF (rowF (fun i o => outF p i o) 7000 0 (p.out.drop 0)) (0, 0)) := by
        rw [hF.out, z_last]; unfold outsF; rw [z_many, show decide (6 < p.out.length) = decide (6 < (p.out.length : Int)) from decide_eq_decide.2 (by omega)]; rfl
       replace hF := Lib.hid hS
       clear hS
       cases km : decide (6 < (p.out.length : Int))
       rotate_left
       ·have hz := hF.out
        rw [km, if_pos rfl] at hz
        replace hz := Lib.hid hz
        repeat' (first | (with_reducible first | refine zA ?_ | refine swp_block1 ?_ | refine swp_block2 ?_ | refine zK ?_) | ((with_reducible first | refine swp_reg ?_ | refine swp_regd (by rw [hP]; exact mixed) ?_); (try rw [hP]); simp -implicitDefEqProofs [*]) | ((with_reducible first | refine swp_skip ?_ | refine swp_exit ?_); (try simp -implicitDefEqProofs [*])) | ((with_reducible refine swp_ret ?_); (try simp only [qseq_r, qblock_r, qloop_r])) | ((with_reducible refine swp_cond rfl (fun h => ?_) (fun h => ?_)) <;> have h' := h <;> (try simp at h') <;> (try subst h')) | ((with_reducible refine sopsg_cases (fun h => ?_) (fun h => ?_)) <;> have h' := h <;> (try simp at h') <;> (try subst h') <;> simp -implicitDefEqProofs [*]) | ((with_reducible refine sopsk_rg ?_ ?_); (first | omega | (unfold maxLen; omega)); simp -implicitDefEqProofs [*]) | (refine call_q (rF_s _ _ _) ?_; simp -implicitDefEqProofs [*]) | (with_reducible first | refine zM hm ?_ | refine zN hm ?_ | refine zO hm ?_ | refine zP hm ?_) | (refine fin_c hm rfl rfl (by rw [hP]; exact agg_fault) (by rw [hP]; exact size_fault) rfl (CoL.refl _) (by rw [hz.out]) (fun σ => rfl)) | fail)
       have hz := hF.out
       rw [km, if_neg Bool.false_ne_true] at hz
       replace hF := Lib.hid hz
       clear hz
       repeat' (first | (with_reducible first | refine zA ?_ | refine swp_block1 ?_ | refine swp_block2 ?_ | refine zK ?_) | ((with_reducible first | refine swp_reg ?_ | refine swp_regd (by rw [hP]; exact mixed) ?_); (try rw [hP]); simp -implicitDefEqProofs [*]) | ((with_reducible first | refine swp_skip ?_ | refine swp_exit ?_); (try simp -implicitDefEqProofs [*])) | ((with_reducible refine swp_ret ?_); (try simp only [qseq_r, qblock_r, qloop_r])) | ((with_reducible refine swp_cond rfl (fun h => ?_) (fun h => ?_)) <;> have h' := h <;> (try simp at h') <;> (try subst h')) | ((with_reducible refine sopsg_cases (fun h => ?_) (fun h => ?_)) <;> have h' := h <;> (try simp at h') <;> (try subst h') <;> simp -implicitDefEqProofs [*]) | ((with_reducible refine sopsk_rg ?_ ?_); (first | omega | (unfold maxLen; omega)); simp -implicitDefEqProofs [*]) | (with_reducible first | refine zM hm ?_ | refine zN hm ?_ | refine zO hm ?_ | refine zP hm ?_) | fail)
       clear km
       refine swp_block (swp_for (fun s (i : Nat) => s.turn [(17, .int .i64 i)] []) (fun i => i ≤ p.out.length ∧ F = orF (0, 0) (orF (rowF (fun i o => outF p i o) 7000 i (p.out.drop i)) (0, 0))) (fun i => p.out.length - i) 0 ?_ ⟨by simp, hF.out⟩ ?_)
       ·repeat' (first | ((with_reducible refine wk_self [] hm ?_ ?_ ?_ ?_) <;> (try simp only [zT, puth, Nat.reduceEqDiff, reduceIte, Nat.reduceAdd])) | (with_reducible first | refine za ?_ ?_ | refine zb ?_ ?_ ?_ ?_ | refine zc ?_ ?_ ?_ ?_ | refine zd ?_ ?_ ?_ ?_ | refine objsM_abs ?_ ?_ | refine subH_cons ?_ ?_) | (with_reducible first | exact slotsM_nil | exact objsM_nil | exact subH_nil | exact coL_nilm | exact Co.refl _ | exact CoL.refl _ | exact CoLL.refl _) | ((with_reducible first | refine zga ?_ | refine zgb ?_); rfl) | ((with_reducible refine zgc ?_); (first | (with_reducible rfl) | rfl | (simp; done))) | ((with_reducible first | refine zgd ?_ | refine zge ?_); (first | omega | (simp; done))) | (refine co_wrap ⟨?_, ?_⟩ ?_ <;> omega) | (exact Co.refl _) | (exact CoL.refl _) | (exact CoLL.refl _) | (refine co_own ?_; omega) | (refine co_int ?_; first | omega | (simp_all; done)) | (with_reducible first | refine coL_cons ?_ ?_ | refine coL_consm ?_ ?_) | fail)
       rintro J hJ i ⟨h1, h2⟩
       unfold c_rform_l7
       simp only [zT, puth, Nat.reduceEqDiff, reduceIte, Nat.reduceAdd] at h1 h2 ⊢
       clear hF
       rcases Nat.lt_or_ge i p.out.length with hi | hi
       ·rw [z_row _ _ hi] at h2
        have hxm : p.out[i] ∈ p.out := List.getElem_mem hi
        have wi : IntKind.i64.wrap ((i : Int) + 1) = (i : Int) + 1 := i64_add_ (by omega) (by omega)
        have wa : IntKind.i64.wrap (7000 + (i : Int)) = 7000 + (i : Int) := i64_add_ (by omega) (by omega)
        have hc2 := fun q => rin_s (p.out.take i) p.out[i] (by rw [List.length_take]; omega) q
        simp only [nums, List.map_take] at hc2
        have hc1 := fun q => rhead_s p p.out[i] q
        generalize hxx : p.out[i] = x at h2 hc1 hc2 hxm
        unfold outF at h2
        generalize (p.out.take i).contains x = C at h2 hc2
        generalize isHead p x = H at h2 hc1
        have hi' := Nat.le_of_lt hi
        replace h2 := Lib.hid h2
        cases kH : H <;> rw [kH] at hc1
        ·have hz : F = (1, 7000 + (i : Int)) := by have := h2.out; rw [kH] at this; exact this
         replace hz := Lib.hid hz
         repeat' (first | (with_reducible first | refine zA ?_ | refine swp_block1 ?_ | refine swp_block2 ?_ | refine zK ?_) | ((with_reducible first | refine swp_reg ?_ | refine swp_regd (by rw [hP]; exact mixed) ?_); (try rw [hP]); simp -implicitDefEqProofs [*]) | ((with_reducible first | refine swp_skip ?_ | refine swp_exit ?_); (try simp -implicitDefEqProofs [*])) | ((with_reducible refine swp_ret ?_); (try simp only [qseq_r, qblock_r, qloop_r])) | ((with_reducible refine swp_cond rfl (fun h => ?_) (fun h => ?_)) <;> have h' := h <;> (try simp at h') <;> (try subst h')) | ((with_reducible refine sopsg_cases (fun h => ?_) (fun h => ?_)) <;> have h' := h <;> (try simp at h') <;> (try subst h') <;> simp -implicitDefEqProofs [*]) | ((with_reducible refine sopsk_rg ?_ ?_); (first | omega | (unfold maxLen; omega)); simp -implicitDefEqProofs [*]) | ((first | refine call_q (hc1 _) ?_ | refine call_q (rF_s _ _ _) ?_); simp -implicitDefEqProofs [*]) | (with_reducible first | refine zM hm ?_ | refine zN hm ?_ | refine zO hm ?_ | refine zP hm ?_) | (refine fin_c hm rfl rfl (by rw [hP]; exact agg_fault) (by rw [hP]; exact size_fault) rfl (CoL.refl _) (by rw [hz.out]) (fun σ => rfl)) | fail)
        cases kC : C <;> rw [kC] at hc2
        ·repeat' (first | (with_reducible first | refine zA ?_ | refine swp_block1 ?_ | refine swp_block2 ?_ | refine zK ?_) | ((with_reducible first | refine swp_reg ?_ | refine swp_regd (by rw [hP]; exact mixed) ?_); (try rw [hP]); simp -implicitDefEqProofs [*]) | ((with_reducible first | refine swp_skip ?_ | refine swp_exit ?_); (try simp -implicitDefEqProofs [*])) | ((with_reducible refine swp_ret ?_); (try simp only [qseq_r, qblock_r, qloop_r])) | ((with_reducible refine swp_cond rfl (fun h => ?_) (fun h => ?_)) <;> have h' := h <;> (try simp at h') <;> (try subst h')) | ((with_reducible refine sopsg_cases (fun h => ?_) (fun h => ?_)) <;> have h' := h <;> (try simp at h') <;> (try subst h') <;> simp -implicitDefEqProofs [*]) | ((with_reducible refine sopsk_rg ?_ ?_); (first | omega | (unfold maxLen; omega)); simp -implicitDefEqProofs [*]) | ((first | refine call_q (hc1 _) ?_ | refine call_q (hc2 _) ?_); simp -implicitDefEqProofs [*]) | (with_reducible first | refine zM hm ?_ | refine zN hm ?_ | refine zO hm ?_ | refine zP hm ?_) | ((with_reducible refine wk_self [] hm ?_ ?_ ?_ ?_) <;> (try simp only [zT, puth, Nat.reduceEqDiff, reduceIte, Nat.reduceAdd])) | (with_reducible first | refine za ?_ ?_ | refine zb ?_ ?_ ?_ ?_ | refine zc ?_ ?_ ?_ ?_ | refine zd ?_ ?_ ?_ ?_ | refine objsM_abs ?_ ?_ | refine subH_cons ?_ ?_) | (with_reducible first | exact slotsM_nil | exact objsM_nil | exact subH_nil | exact coL_nilm | exact Co.refl _ | exact CoL.refl _ | exact CoLL.refl _) | ((with_reducible first | refine zga ?_ | refine zgb ?_); rfl) | ((with_reducible refine zgc ?_); (first | (with_reducible rfl) | rfl | (simp; done))) | ((with_reducible first | refine zgd ?_ | refine zge ?_); (first | omega | (simp; done))) | (refine co_wrap ⟨?_, ?_⟩ ?_ <;> omega) | (exact Co.refl _) | (exact CoL.refl _) | (exact CoLL.refl _) | (refine co_own ?_; omega) | (refine co_int ?_; first | omega | (simp_all; done)) | (with_reducible first | refine coL_cons ?_ ?_ | refine coL_consm ?_ ?_) | ((refine qfor_next hJ (i + 1) ?_ ?_ ?_; (with_reducible refine wk_self [] hm ?_ ?_ ?_ ?_) <;> (try simp only [zT, puth, Nat.reduceEqDiff, reduceIte, Nat.reduceAdd]))) | fail)
         exact ⟨by omega, by have := h2.out; rw [kH, kC] at this; exact this⟩
        ·have hz : F = (7, 7000 + (i : Int)) := by have := h2.out; rw [kH, kC] at this; exact this
         replace hz := Lib.hid hz
         repeat' (first | (with_reducible first | refine zA ?_ | refine swp_block1 ?_ | refine swp_block2 ?_ | refine zK ?_) | ((with_reducible first | refine swp_reg ?_ | refine swp_regd (by rw [hP]; exact mixed) ?_); (try rw [hP]); simp -implicitDefEqProofs [*]) | ((with_reducible first | refine swp_skip ?_ | refine swp_exit ?_); (try simp -implicitDefEqProofs [*])) | ((with_reducible refine swp_ret ?_); (try simp only [qseq_r, qblock_r, qloop_r])) | ((with_reducible refine swp_cond rfl (fun h => ?_) (fun h => ?_)) <;> have h' := h <;> (try simp at h') <;> (try subst h')) | ((with_reducible refine sopsg_cases (fun h => ?_) (fun h => ?_)) <;> have h' := h <;> (try simp at h') <;> (try subst h') <;> simp -implicitDefEqProofs [*]) | ((with_reducible refine sopsk_rg ?_ ?_); (first | omega | (unfold maxLen; omega)); simp -implicitDefEqProofs [*]) | ((first | refine call_q (hc1 _) ?_ | refine call_q (hc2 _) ?_ | refine call_q (rF_s _ _ _) ?_); simp -implicitDefEqProofs [*]) | (with_reducible first | refine zM hm ?_ | refine zN hm ?_ | refine zO hm ?_ | refine zP hm ?_) | (refine fin_c hm rfl rfl (by rw [hP]; exact agg_fault) (by rw [hP]; exact size_fault) rfl (CoL.refl _) (by rw [hz.out]) (fun σ => rfl)) | fail)
       ·obtain rfl : i = p.out.length := by omega
        have hz : F = (0, 0) := by rw [h2, List.drop_length]; rfl
        clear h2
        replace hz := Lib.hid hz
        repeat' (first | (with_reducible first | refine zA ?_ | refine swp_block1 ?_ | refine swp_block2 ?_ | refine zK ?_) | ((with_reducible first | refine swp_reg ?_ | refine swp_regd (by rw [hP]; exact mixed) ?_); (try rw [hP]); simp -implicitDefEqProofs [*]) | ((with_reducible first | refine swp_skip ?_ | refine swp_exit ?_); (try simp -implicitDefEqProofs [*])) | ((with_reducible refine swp_ret ?_); (try simp only [qseq_r, qblock_r, qloop_r])) | ((with_reducible refine swp_cond rfl (fun h => ?_) (fun h => ?_)) <;> have h' := h <;> (try simp at h') <;> (try subst h')) | ((with_reducible refine sopsg_cases (fun h => ?_) (fun h => ?_)) <;> have h' := h <;> (try simp at h') <;> (try subst h') <;> simp -implicitDefEqProofs [*]) | ((with_reducible refine sopsk_rg ?_ ?_); (first | omega | (unfold maxLen; omega)); simp -implicitDefEqProofs [*]) | (with_reducible first | refine zM hm ?_ | refine zN hm ?_ | refine zO hm ?_ | refine zP hm ?_) | (refine fin_c hm rfl rfl (by rw [hP]; exact agg_fault) (by rw [hP]; exact size_fault) rfl (CoL.refl _) (by rw [hz.out]) (fun σ => rfl)) | fail)
end Go.Proofs.Ytnfjldobjgdiaaa
namespace Go.Proofs.Ytnfjldobjgdiaaa
set_option linter.all false
open Go.RowKit
variable {w : World} {ρ : Plan_} {fp : Nat → Nat → Prop} {O : Nat → Prop} {h1 : Hp}
theorem live_nil (k : Nat) : ¬ Live [] fp k := fun ⟨_, _, h, _⟩ => by cases h
def Lent (h1 : Hp) (x y : SV) : Prop := ∀ (O : Nat → Prop) (ρ : Plan_) (fp : Nat → Nat → Prop) (w : World) (v : Value), HeapOk O ρ fp h1 w → RepV w (fun k => O k ∨ Live h1 fp k) ρ x v → RepV w (fun k => O k ∨ Live [] fp k) ρ y v
def LentL (h1 : Hp) : List SV → List SV → Prop
 | [], [] => True
 | x :: xs, y :: ys => Lent h1 x y ∧ LentL h1 xs ys
 | _, _ => False
theorem lent_av {k : Nat} : (O k ∨ Live [] fp k) → O k ∨ Live h1 fp k := fun hk => hk.elim .inl fun h => absurd h (live_nil k)
theorem lent_refl (x : SV) : Lent h1 x x := fun _ _ _ _ _ _ hx => hx.weaken fun _ hk _ => lent_av hk
theorem lentL_length : ∀ {xs ys}, LentL h1 xs ys → xs.length = ys.length
 | [], [], _ => rfl
 | _ :: _, _ :: _, h => by simp [lentL_length h.2]
 | [], _ :: _, h => h.elim
 | _ :: _, [], h => h.elim
theorem lentL_get : ∀ {xs ys : List SV} {j : Nat} {y : SV}, LentL h1 xs ys → ys[j]? = some y → ∃ x, xs[j]? = some x ∧ Lent h1 x y
 | x :: xs, y :: ys, 0, _, h, hy => by cases hy; exact ⟨x, rfl, h.1⟩
 | x :: xs, y :: ys, j + 1, _, h, hy => lentL_get (xs := xs) (ys := ys) (j := j) h.2 (by simpa using hy)
 | [], [], _, _, _, hy => by simp at hy
 | [], _ :: _, _, _, h, _ => h.elim
 | _ :: _, [], _, _, h, _ => h.elim
theorem lent_agg {cs ds : List SV} (h : LentL h1 cs ds) : Lent h1 (.agg cs) (.agg ds) := fun O ρ fp w v hok hx => by
 cases hx with
 | agg ho hl hh =>
  refine .agg ho (by rw [← lentL_length h]; exact hl) fun j y v hy hv => ?_
  obtain ⟨x, h1, h2⟩ := lentL_get h hy
  exact h2 O ρ fp w v hok (hh j x v h1 hv)
theorem lent_row {id z e : Nat} {es : List (List SV)} (ho : geth h1 id = some (.row e z es)) (hp : ∀ e ∈ es, PureL e) {n : Nat} (hn : n = es.length) : Lent h1 (.own id n) (.view z es) := fun O ρ fp w v hok hx => by
 subst hn
 obtain ⟨v0, us, how, ⟨hrep, huo⟩, hzs, hρ', hfp⟩ := hok.objs id _ ho
 generalize hn : es.length = n at hx
 cases hx with
 | own0 hρ => rw [List.eq_nil_of_length_eq_zero hn]; exact .view0 (by simp [maxLen]) (fun _ => rfl)
 | own hρ hnc hm =>
  rename_i b c
  rw [hρ] at hρ'
  have hp0 : placeOf v0 = some (b, c) := (Option.some.inj hρ').symm
  obtain ⟨hv0, hcell, hlt, _, _⟩ := row_cells how hp0
  have hown : fp id b := (hfp b).2 (by rw [hv0]; rfl)
  have hval : ∀ i e j x, es[i]? = some e → e[j]? = some x → ∃ u, us[i * z + j]? = some u ∧ RepV w (fun k => O k ∨ Live h1 fp k) ρ x u := fun i e j x he hx => hrep.get (flat_get hzs he hx)
  refine .view (fun i j => us.getD (i * z + j) undef) hn hnc hm (fun hO => hO.elim (hok.lt b ⟨id, _, ho, hown⟩).2 (live_nil b)) hlt hzs (fun i e j x he hx => ?_) (fun i e j x he hx => ?_) (fun i e j x he hx => ?_)
  ·obtain ⟨u, h1, h2⟩ := hval i e j x he hx
   rw [Nat.zero_add, List.getD_eq_getElem?_getD, h1]
   exact hcell _ _ h1
  ·obtain ⟨u, h1, h2⟩ := hval i e j x he hx
   rw [List.getD_eq_getElem?_getD, h1]
   exact (hp e (List.mem_of_getElem? he) x (List.mem_of_getElem? hx) _ _ _ _ h2).weaken fun k hk _ => lent_av hk
  ·obtain ⟨u, h1, h2⟩ := hval i e j x he hx
   rw [List.getD_eq_getElem?_getD, h1]
   exact huo u (List.mem_of_getElem? h1)
def CleanV (x : SV) : Prop := ∀ w A A' ρ v, RepV w A ρ x v → RepV w A' ρ x v
theorem clean_int (k : IntKind) (n : Int) : CleanV (.int k n) := fun w A A' ρ v h => by cases h; exact .int
def CleanL (cs : List SV) : Prop := ∀ x ∈ cs, CleanV x
theorem cleanL_nil : CleanL [] := fun x hx => by cases hx
theorem cleanL_cons {x : SV} {cs : List SV} (h : CleanV x) (hs : CleanL cs) : CleanL (x :: cs) := fun y hy => by
 rcases List.mem_cons.1 hy with e | e
 ·rw [e]; exact h
 ·exact hs y e
theorem clean_reps {A A' : Nat → Prop} {cs : List SV} {vs : List Value} (hc : CleanL cs) (h : Reps w A ρ cs vs) : Reps w A' ρ cs vs :=
 ⟨h.1, fun j x v hx hv => hc x (List.mem_of_getElem? hx) _ _ _ _ _ (h.2 j x v hx hv)⟩
theorem clean_agg {cs : List SV} (hc : CleanL cs) : CleanV (.agg cs) := fun w A A' ρ v h => by
 cases h with
 | agg ho hl hh => exact .agg ho hl fun j x v hx hv => hc x (List.mem_of_getElem? hx) _ _ _ _ _ (hh j x v hx hv)
def CleanO : SObj → Prop
 | .cells _ cs => CleanL cs
 | .row _ _ es => ∀ e ∈ es, CleanL e
 | .abs _ => False
theorem clean_obj {A A' : Nat → Prop} {id : Nat} {F : Nat → Prop} {o : SObj} (hc : CleanO o) (h : ObjRep w A ρ id F o) : ObjRep w A' ρ id F o := by
 cases o with
 | cells t cs =>
  obtain ⟨b, c, vs, q1, q2, ⟨q3, q4⟩, q5⟩ := h
  exact ⟨b, c, vs, q1, q2, ⟨clean_reps hc q3, q4⟩, q5⟩
 | row e z es =>
  obtain ⟨v, vs, q1, ⟨q2, q3⟩, q4, q5, q6⟩ := h
  exact ⟨v, vs, q1, ⟨clean_reps (fun x hx => by obtain ⟨e, he, hx⟩ := List.mem_flatten.1 hx; exact hc e he x hx) q2, q3⟩, q4, q5, q6⟩
 | abs I => exact hc.elim
theorem geth_append (h1 h2 : Hp) (id : Nat) : geth (h1 ++ h2) id = match geth h1 id with | some o => some o | none => geth h2 id := by
 induction h1 with
 | nil => rfl
 | cons p h1 ih =>
  obtain ⟨i, o⟩ := p
  rw [List.cons_append]
  simp only [geth]
  split
  ·rfl
  ·exact ih
theorem scalls_lend {P : Program} {f : FuncId} {args args' : List SV} {h1 h2 : Hp} {q : Nat} {r : SV} (h : SCalls P f args' [] q r h2) (ha : LentL h1 args args') (hr : CleanV r) (hc : ∀ id o, geth h2 id = some o → CleanO o)
  (hd : ∀ id, geth h1 id ≠ none → geth h2 id = none) : SCalls P f args h1 q r (h1 ++ h2) := by
 refine ⟨h.ent, fun O ρ fp w vs hok hargs hfr => ?_⟩
 have hargs' : Reps w (fun k => O k ∨ Live [] fp k) ρ args' vs := by
  refine ⟨by rw [← lentL_length ha]; exact hargs.1, fun j y v hy hv => ?_⟩
  obtain ⟨x, h1, h2⟩ := lentL_get ha hy
  exact h2 O ρ fp w v hok (hargs.2 j x v h1 hv)
 refine (h.does O ρ fp w vs ⟨fun id o ho => (by cases ho), fun id id' o o' _ ho => (by cases ho), fun k hk => absurd hk (live_nil k), hok.O_lt⟩ hargs' hfr).mono ?_
 rintro e w' ⟨v, ρ', fp', rfl, hk, hv, hst, hρ, hnew, hfp⟩
 have hst' : ∀ S : Nat → Prop, Step S w w' := fun S => hst.mono fun k hk => absurd hk (live_nil k)
 have hbig : ∀ id o, geth h2 id = some o → ∀ k, fp' id k → w.heap.size ≤ k := fun id o ho k hk => (hfp id o ho k hk).elim (fun h => absurd h (live_nil k)) fun h => h
 have hg : ∀ id o, geth (h1 ++ h2) id = some o → geth h1 id = some o ∧ geth h2 id = none ∨ geth h1 id = none ∧ geth h2 id = some o := fun id o ho => by
  rw [geth_append] at ho
  cases e : geth h1 id with
  | some o' => rw [e] at ho; cases ho; exact .inl ⟨rfl, hd id (by rw [e]; simp)⟩
  | none => rw [e] at ho; exact .inr ⟨rfl, ho⟩
 let F : Nat → Nat → Prop := fun id k => (geth h2 id ≠ none ∧ fp' id k) ∨ (geth h2 id = none ∧ fp id k)
 have F1 : ∀ id, geth h2 id = none → F id = fp id := fun id hn => by funext k; simp [F, hn]
 have F2 : ∀ id o, geth h2 id = some o → F id = fp' id := fun id o hn => by funext k; simp [F, hn]
 have hav : ∀ k, (O k ∨ Live (h1 ++ h2) F k) → k < w.heap.size → O k ∨ Live h1 fp k := by
  rintro k (hO | ⟨id, o, ho, hk'⟩) hlt
  ·exact .inl hO
  ·rcases hg id o ho with ⟨q1, q2⟩ | ⟨q1, q2⟩
   ·rw [F1 id q2] at hk'; exact .inr ⟨id, o, q1, hk'⟩
   ·rw [F2 id o q2] at hk'; exact absurd (hbig id o q2 k hk') (by omega)
 refine ⟨v, ρ', F, rfl, ⟨fun id o ho => ?_, fun id id' o o' hne ho ho' k hk' hk2 => ?_, ?_, hk.O_lt⟩, hr _ _ _ _ _ hv, hst' _, hρ, hnew, fun id o ho k hk' => ?_⟩
 ·rcases hg id o ho with ⟨q1, q2⟩ | ⟨q1, q2⟩
  ·rw [F1 id q2]
   exact (hok.objs id o q1).mono ⟨hst' _, hav, hρ⟩ fun k hk' => hst.block k (hok.lt k ⟨id, o, q1, hk'⟩).1 (live_nil k)
  ·rw [F2 id o q2]
   exact clean_obj (hc id o q2) (hk.objs id o q2)
 ·rcases hg id o ho with ⟨q1, q2⟩ | ⟨q1, q2⟩ <;> rcases hg id' o' ho' with ⟨q3, q4⟩ | ⟨q3, q4⟩
  ·rw [F1 id q2] at hk'; rw [F1 id' q4] at hk2; exact hok.disj id id' o o' hne q1 q3 k hk' hk2
  ·rw [F1 id q2] at hk'; rw [F2 id' o' q4] at hk2
   have := (hok.lt k ⟨id, o, q1, hk'⟩).1; have := hbig id' o' q4 k hk2; omega
  ·rw [F2 id o q2] at hk'; rw [F1 id' q4] at hk2
   have := (hok.lt k ⟨id', o', q3, hk2⟩).1; have := hbig id o q2 k hk'; omega
  ·rw [F2 id o q2] at hk'; rw [F2 id' o' q4] at hk2; exact hk.disj id id' o o' hne q2 q4 k hk' hk2
 ·rintro k ⟨id, o, ho, hk'⟩
  rcases hg id o ho with ⟨q1, q2⟩ | ⟨q1, q2⟩
  ·rw [F1 id q2] at hk'
   have := hok.lt k ⟨id, o, q1, hk'⟩
   exact ⟨Nat.lt_of_lt_of_le this.1 hst.size, this.2⟩
  ·rw [F2 id o q2] at hk'
   exact hk.lt k ⟨id, o, q2, hk'⟩
 ·rcases hg id o ho with ⟨q1, q2⟩ | ⟨q1, q2⟩
  ·rw [F1 id q2] at hk'; exact .inl ⟨id, o, q1, hk'⟩
  ·rw [F2 id o q2] at hk'; exact .inr (hbig id o q2 k hk')
theorem scalls_look {P : Program} {f : FuncId} {args args' : List SV} {h1 : Hp} {q : Nat} {r : SV} (h : SCalls P f args' [] q r []) (ha : LentL h1 args args') (hr : CleanV r) : SCalls P f args h1 q r h1 := by
 have := scalls_lend h ha hr (fun id o ho => by cases ho) fun _ _ => rfl
 rwa [List.append_nil] at this
end Go.Proofs.Ytnfjldobjgdiaaa
