/-
  Texts joined: XPlnW XShY XPloC XPloD. No condition.
-/
import Derived.Test.YtnfjldobjgdiaaaProg
import Derived.ProofKit
import Derived.WalkSpells
import Derived.RegionTactic
import Derived.BigRegion
import Derived.Deep.RegionLaw
import Derived.Handy
import Derived.Test.YtnfjldobjgdiaaaPlanChecksK7
namespace Go.Proofs.Ytnfjldobjgdiaaa
set_option linter.all false
open Go.RowKit
attribute [local simp] sops_nil sops_run sopsk_some sops_call sops_guard sopsg_yes sopsg_tf sopsg_ft sopsg_undef rg_true SOp.run SX.ev putd puts argS upds SOp.touch SSt.keep SSt.skip gets geth puth delh idOf SV.cells? setL fillS fillR sbin eq0 eq1 eqL rowOf qseq_n qseq_e qseq_r qblock_n qblock_r qblock_e qloop_e qloop_r take_map_len FrzOk pureV_int pureV_bool pureV_str pureV_nil pureV_nilsl pureV_view pureV_cp pureL_nil_ pureL_cons_ pureO_row pureO_cells frzS frzH frz frz1 frz0 SlotsM ObjsM ObjM rn ren ren1 ren0 co_self co_int co_own co_view co_nilsl co_agg co_tup CoL coll_self mergeH dels adds idsH okNames
attribute [local simp] headc refc pushc casec statec opc actc tabc nodec planc nums
theorem z_many (c : Bool) (at_ : Int) (R S : Int × Int) : orF (0, 0) (orF (orF (manyF c at_) R) S) = if c = true then (2, at_) else orF (0, 0) (orF R S) := by
 cases c
 ·rw [show manyF false at_ = (0, 0) from rfl, orF_assoc, ← orF_assoc (0, 0) (0, 0)]; rfl
 ·rfl
theorem z_row {α : Type} (f : Nat → α → Int) (b : Int) {l : List α} {i : Nat} (hi : i < l.length) {S : Int × Int} : orF (0, 0) (orF (rowF f b i (l.drop i)) S) = if f i l[i] ≠ 0 then (f i l[i], b + i) else orF (0, 0) (orF (rowF f b (i + 1) (l.drop (i + 1))) S) := by
 rw [rowF_drop _ _ hi]
 by_cases h : f i l[i] ≠ 0
 ·rw [if_pos h, if_pos h, orF_pos (f := (f i l[i], b + i)) h]; unfold orF; simp [h]
 ·rw [if_neg h, if_neg h]
theorem z_end (S : Int × Int) : orF (0, 0) (orF (0, 0) S) = orF (0, 0) S := by rw [← orF_assoc]; rfl
theorem z_last (p : PlanD) : orF (0, 0) (outsF p) = orF (0, 0) (orF (outsF p) (0, 0)) := by rw [orF_none (outsF p) rfl]
set_option maxHeartbeats 16000000 in
theorem rform_s (p : PlanD) (hs : SmallP p) (q : Nat) : SCalls Try.prog 18 [.agg (planc p)] [] q (.agg [.int .i64 (planF p).1, .int .i64 (planF p).2]) [] := by
 refine scalls_q ?_ (fun _ => rfl) (fun _ => rfl) rfl q
 refine scalls_of (N := 229) Try.func18 rfl rfl (by kernel_rfl) comp_c_rform (by simp) (by repeat' (first | exact trivial | refine And.intro ?_ ?_ | rfl | decide)) (by repeat' (first | exact trivial | refine And.intro ?_ ?_ | rfl | decide)) ?_
 rintro X hP hN hm
 unfold c_rform
 have hF : planF p = orF (0, 0) (orF (headsF p) (orF (metaF p) (orF (statesF p) (orF (actsF p) (orF (tabsF p) (orF (nodesF p) (outsF p))))))) := (planF_start p).symm
 generalize planF p = F at hF
 replace hF := Lib.hid hF
 have hl1 := hs.heads
 have hl2 := hs.metas
 have hl3 := hs.states
 have hl4 := hs.acts
 have hl5 := hs.tabs
 have hl6 := hs.nodes
 have hl7 := hs.outs
 have hS : F = if decide (6 < (p.heads.length : Int)) = true then (2, -1) else orF (0, 0) (orF (rowF (fun _ h => sizeC h.w) 1000 0 (p.heads.drop 0)) (orF (metaF p) (orF (statesF p) (orF (actsF p) (orF (tabsF p) (orF (nodesF p) (outsF p))))))) := by
  rw [hF.out]; unfold headsF; rw [z_many, show decide (6 < p.heads.length) = decide (6 < (p.heads.length : Int)) from decide_eq_decide.2 (by omega)]; rfl
 replace hF := Lib.hid hS
 clear hS
 cases km : decide (6 < (p.heads.length : Int))
 rotate_left
 ·have hz := hF.out
  rw [km, if_pos rfl] at hz
  replace hz := Lib.hid hz
  repeat' (first | (with_reducible first | refine zA ?_ | refine swp_block1 ?_ | refine swp_block2 ?_ | refine zK ?_) | ((with_reducible first | refine swp_reg ?_ | refine swp_regd (by rw [hP]; exact mixed) ?_); (try rw [hP]); simp -implicitDefEqProofs [*]) | ((with_reducible first | refine swp_skip ?_ | refine swp_exit ?_); (try simp -implicitDefEqProofs [*])) | ((with_reducible refine swp_ret ?_); (try simp only [qseq_r, qblock_r, qloop_r])) | ((with_reducible refine swp_cond rfl (fun h => ?_) (fun h => ?_)) <;> have h' := h <;> (try simp at h') <;> (try subst h')) | ((with_reducible refine sopsg_cases (fun h => ?_) (fun h => ?_)) <;> have h' := h <;> (try simp at h') <;> (try subst h') <;> simp -implicitDefEqProofs [*]) | ((with_reducible refine sopsk_rg ?_ ?_); (first | omega | (unfold maxLen; omega)); simp -implicitDefEqProofs [*]) | (refine call_q (rF_s _ _ _) ?_; simp -implicitDefEqProofs [*]) | (with_reducible first | refine zM hm ?_ | refine zN hm ?_ | refine zO hm ?_ | refine zP hm ?_) | (refine fin_c hm rfl rfl (by rw [hP]; exact agg_fault) (by rw [hP]; exact size_fault) rfl (CoL.refl _) (by rw [hz.out]) (fun σ => rfl)) | fail)
 have hz := hF.out
 rw [km, if_neg Bool.false_ne_true] at hz
 replace hF := Lib.hid hz
 clear hz
 repeat' (first | (with_reducible first | refine zA ?_ | refine swp_block1 ?_ | refine swp_block2 ?_ | refine zK ?_) | ((with_reducible first | refine swp_reg ?_ | refine swp_regd (by rw [hP]; exact mixed) ?_); (try rw [hP]); simp -implicitDefEqProofs [*]) | ((with_reducible first | refine swp_skip ?_ | refine swp_exit ?_); (try simp -implicitDefEqProofs [*])) | ((with_reducible refine swp_ret ?_); (try simp only [qseq_r, qblock_r, qloop_r])) | ((with_reducible refine swp_cond rfl (fun h => ?_) (fun h => ?_)) <;> have h' := h <;> (try simp at h') <;> (try subst h')) | ((with_reducible refine sopsg_cases (fun h => ?_) (fun h => ?_)) <;> have h' := h <;> (try simp at h') <;> (try subst h') <;> simp -implicitDefEqProofs [*]) | ((with_reducible refine sopsk_rg ?_ ?_); (first | omega | (unfold maxLen; omega)); simp -implicitDefEqProofs [*]) | (with_reducible first | refine zM hm ?_ | refine zN hm ?_ | refine zO hm ?_ | refine zP hm ?_) | fail)
 clear km
 refine swp_block (swp_for (fun s (i : Nat) => s.turn [(3, .int .i64 i)] []) (fun i => i ≤ p.heads.length ∧ F = orF (0, 0) (orF (rowF (fun _ h => sizeC h.w) 1000 i (p.heads.drop i)) (orF (metaF p) (orF (statesF p) (orF (actsF p) (orF (tabsF p) (orF (nodesF p) (outsF p)))))))) (fun i => p.heads.length - i) 0 ?_ ⟨by simp, hF.out⟩ ?_)
 ·repeat' (first | ((with_reducible refine wk_self [] hm ?_ ?_ ?_ ?_) <;> (try simp only [zT, puth, Nat.reduceEqDiff, reduceIte, Nat.reduceAdd])) | (with_reducible first | refine za ?_ ?_ | refine zb ?_ ?_ ?_ ?_ | refine zc ?_ ?_ ?_ ?_ | refine zd ?_ ?_ ?_ ?_ | refine objsM_abs ?_ ?_ | refine subH_cons ?_ ?_) | (with_reducible first | exact slotsM_nil | exact objsM_nil | exact subH_nil | exact coL_nilm | exact Co.refl _ | exact CoL.refl _ | exact CoLL.refl _) | ((with_reducible first | refine zga ?_ | refine zgb ?_); rfl) | ((with_reducible refine zgc ?_); (first | (with_reducible rfl) | rfl | (simp; done))) | ((with_reducible first | refine zgd ?_ | refine zge ?_); (first | omega | (simp; done))) | (refine co_wrap ⟨?_, ?_⟩ ?_ <;> omega) | (exact Co.refl _) | (exact CoL.refl _) | (exact CoLL.refl _) | (refine co_own ?_; omega) | (refine co_int ?_; first | omega | (simp_all; done)) | (with_reducible first | refine coL_cons ?_ ?_ | refine coL_consm ?_ ?_) | fail)
 rintro J hJ i ⟨h1, h2⟩
 unfold c_rform_l1
 simp only [zT, puth, Nat.reduceEqDiff, reduceIte, Nat.reduceAdd] at h1 h2 ⊢
 clear hF
 rcases Nat.lt_or_ge i p.heads.length with hi | hi
 ·rw [z_row _ _ hi] at h2
  have hxm : p.heads[i] ∈ p.heads := List.getElem_mem hi
  have wi : IntKind.i64.wrap ((i : Int) + 1) = (i : Int) + 1 := i64_add_ (by omega) (by omega)
  have wa : IntKind.i64.wrap (1000 + (i : Int)) = 1000 + (i : Int) := i64_add_ (by omega) (by omega)
  have hct := fun q => rsize_s p.heads[i].w q
  unfold sizeR at hct
  generalize hxx : p.heads[i] = x at h2 hct hxm
  obtain ⟨E, hE⟩ : ∃ E, sizeC x.w = E := ⟨_, rfl⟩
  rw [hE] at h2 hct
  clear hE
  replace h2 := Lib.hid h2
  replace hct := Lib.hid hct
  cases kE : (E != 0)
  ·have kE' : ¬ E ≠ 0 := by simpa using kE
   replace kE' := Lib.hid kE'
   repeat' (first | (with_reducible first | refine zA ?_ | refine swp_block1 ?_ | refine swp_block2 ?_ | refine zK ?_) | ((with_reducible first | refine swp_reg ?_ | refine swp_regd (by rw [hP]; exact mixed) ?_); (try rw [hP]); simp -implicitDefEqProofs [*]) | ((with_reducible first | refine swp_skip ?_ | refine swp_exit ?_); (try simp -implicitDefEqProofs [*])) | ((with_reducible refine swp_ret ?_); (try simp only [qseq_r, qblock_r, qloop_r])) | ((with_reducible refine swp_cond rfl (fun h => ?_) (fun h => ?_)) <;> have h' := h <;> (try simp at h') <;> (try subst h')) | ((with_reducible refine sopsg_cases (fun h => ?_) (fun h => ?_)) <;> have h' := h <;> (try simp at h') <;> (try subst h') <;> simp -implicitDefEqProofs [*]) | ((with_reducible refine sopsk_rg ?_ ?_); (first | omega | (unfold maxLen; omega)); simp -implicitDefEqProofs [*]) | (refine call_q (hct.out _) ?_; simp -implicitDefEqProofs [*]) | (with_reducible first | refine zM hm ?_ | refine zN hm ?_ | refine zO hm ?_ | refine zP hm ?_) | ((with_reducible refine wk_self [] hm ?_ ?_ ?_ ?_) <;> (try simp only [zT, puth, Nat.reduceEqDiff, reduceIte, Nat.reduceAdd])) | (with_reducible first | refine za ?_ ?_ | refine zb ?_ ?_ ?_ ?_ | refine zc ?_ ?_ ?_ ?_ | refine zd ?_ ?_ ?_ ?_ | refine objsM_abs ?_ ?_ | refine subH_cons ?_ ?_) | (with_reducible first | exact slotsM_nil | exact objsM_nil | exact subH_nil | exact coL_nilm | exact Co.refl _ | exact CoL.refl _ | exact CoLL.refl _) | ((with_reducible first | refine zga ?_ | refine zgb ?_); rfl) | ((with_reducible refine zgc ?_); (first | (with_reducible rfl) | rfl | (simp; done))) | ((with_reducible first | refine zgd ?_ | refine zge ?_); (first | omega | (simp; done))) | (refine co_wrap ⟨?_, ?_⟩ ?_ <;> omega) | (exact Co.refl _) | (exact CoL.refl _) | (exact CoLL.refl _) | (refine co_own ?_; omega) | (refine co_int ?_; first | omega | (simp_all; done)) | (with_reducible first | refine coL_cons ?_ ?_ | refine coL_consm ?_ ?_) | ((refine qfor_next hJ (i + 1) ?_ ?_ ?_; (with_reducible refine wk_self [] hm ?_ ?_ ?_ ?_) <;> (try simp only [zT, puth, Nat.reduceEqDiff, reduceIte, Nat.reduceAdd]))) | fail)
   exact ⟨by omega, by rw [h2.out, if_neg kE'.out]⟩
  ·have kE' : E ≠ 0 := by simpa using kE
   have hz := h2.out
   rw [if_pos kE'] at hz
   replace kE' := Lib.hid kE'
   replace hz := Lib.hid hz
   repeat' (first | (with_reducible first | refine zA ?_ | refine swp_block1 ?_ | refine swp_block2 ?_ | refine zK ?_) | ((with_reducible first | refine swp_reg ?_ | refine swp_regd (by rw [hP]; exact mixed) ?_); (try rw [hP]); simp -implicitDefEqProofs [*]) | ((with_reducible first | refine swp_skip ?_ | refine swp_exit ?_); (try simp -implicitDefEqProofs [*])) | ((with_reducible refine swp_ret ?_); (try simp only [qseq_r, qblock_r, qloop_r])) | ((with_reducible refine swp_cond rfl (fun h => ?_) (fun h => ?_)) <;> have h' := h <;> (try simp at h') <;> (try subst h')) | ((with_reducible refine sopsg_cases (fun h => ?_) (fun h => ?_)) <;> have h' := h <;> (try simp at h') <;> (try subst h') <;> simp -implicitDefEqProofs [*]) | ((with_reducible refine sopsk_rg ?_ ?_); (first | omega | (unfold maxLen; omega)); simp -implicitDefEqProofs [*]) | ((first | refine call_q (hct.out _) ?_ | refine call_q (rF_s _ _ _) ?_); simp -implicitDefEqProofs [*]) | (with_reducible first | refine zM hm ?_ | refine zN hm ?_ | refine zO hm ?_ | refine zP hm ?_) | (refine fin_c hm rfl rfl (by rw [hP]; exact agg_fault) (by rw [hP]; exact size_fault) rfl (CoL.refl _) (by rw [hz.out]) (fun σ => rfl)) | fail)
 ·obtain rfl : i = p.heads.length := by omega
  have hF : F = orF (0, 0) (orF (metaF p) (orF (statesF p) (orF (actsF p) (orF (tabsF p) (orF (nodesF p) (outsF p)))))) := by rw [h2, List.drop_length]; exact z_end _
  clear h2 hi h1 hJ
  replace hF := Lib.hid hF
  have hS : F = if decide (4 < (p.meta_.length : Int)) = true then (2, -2) else orF (0, 0) (orF (rowF (fun _ w => if wOut w then 6 else 0) 2000 0 (p.meta_.drop 0)) (orF (statesF p) (orF (actsF p) (orF (tabsF p) (orF (nodesF p) (outsF p)))))) := by
   rw [hF.out]; unfold metaF; rw [z_many, show decide (4 < p.meta_.length) = decide (4 < (p.meta_.length : Int)) from decide_eq_decide.2 (by omega)]; rfl
  replace hF := Lib.hid hS
  clear hS
  cases km : decide (4 < (p.meta_.length : Int))
  rotate_left
  ·have hz := hF.out
   rw [km, if_pos rfl] at hz
   replace hz := Lib.hid hz
   repeat' (first | (with_reducible first | refine zA ?_ | refine swp_block1 ?_ | refine swp_block2 ?_ | refine zK ?_) | ((with_reducible first | refine swp_reg ?_ | refine swp_regd (by rw [hP]; exact mixed) ?_); (try rw [hP]); simp -implicitDefEqProofs [*]) | ((with_reducible first | refine swp_skip ?_ | refine swp_exit ?_); (try simp -implicitDefEqProofs [*])) | ((with_reducible refine swp_ret ?_); (try simp only [qseq_r, qblock_r, qloop_r])) | ((with_reducible refine swp_cond rfl (fun h => ?_) (fun h => ?_)) <;> have h' := h <;> (try simp at h') <;> (try subst h')) | ((with_reducible refine sopsg_cases (fun h => ?_) (fun h => ?_)) <;> have h' := h <;> (try simp at h') <;> (try subst h') <;> simp -implicitDefEqProofs [*]) | ((with_reducible refine sopsk_rg ?_ ?_); (first | omega | (unfold maxLen; omega)); simp -implicitDefEqProofs [*]) | (refine call_q (rF_s _ _ _) ?_; simp -implicitDefEqProofs [*]) | (with_reducible first | refine zM hm ?_ | refine zN hm ?_ | refine zO hm ?_ | refine zP hm ?_) | (refine fin_c hm rfl rfl (by rw [hP]; exact agg_fault) (by rw [hP]; exact size_fault) rfl (CoL.refl _) (by rw [hz.out]) (fun σ => rfl)) | fail)
  have hz := hF.out
  rw [km, if_neg Bool.false_ne_true] at hz
  replace hF := Lib.hid hz
  clear hz
  repeat' (first | (with_reducible first | refine zA ?_ | refine swp_block1 ?_ | refine swp_block2 ?_ | refine zK ?_) | ((with_reducible first | refine swp_reg ?_ | refine swp_regd (by rw [hP]; exact mixed) ?_); (try rw [hP]); simp -implicitDefEqProofs [*]) | ((with_reducible first | refine swp_skip ?_ | refine swp_exit ?_); (try simp -implicitDefEqProofs [*])) | ((with_reducible refine swp_ret ?_); (try simp only [qseq_r, qblock_r, qloop_r])) | ((with_reducible refine swp_cond rfl (fun h => ?_) (fun h => ?_)) <;> have h' := h <;> (try simp at h') <;> (try subst h')) | ((with_reducible refine sopsg_cases (fun h => ?_) (fun h => ?_)) <;> have h' := h <;> (try simp at h') <;> (try subst h') <;> simp -implicitDefEqProofs [*]) | ((with_reducible refine sopsk_rg ?_ ?_); (first | omega | (unfold maxLen; omega)); simp -implicitDefEqProofs [*]) | (with_reducible first | refine zM hm ?_ | refine zN hm ?_ | refine zO hm ?_ | refine zP hm ?_) | fail)
  clear km
  refine swp_block (swp_for (fun s (i : Nat) => s.turn [(6, .int .i64 i)] []) (fun i => i ≤ p.meta_.length ∧ F = orF (0, 0) (orF (rowF (fun _ w => if wOut w then 6 else 0) 2000 i (p.meta_.drop i)) (orF (statesF p) (orF (actsF p) (orF (tabsF p) (orF (nodesF p) (outsF p))))))) (fun i => p.meta_.length - i) 0 ?_ ⟨by simp, hF.out⟩ ?_)
  ·repeat' (first | ((with_reducible refine wk_self [] hm ?_ ?_ ?_ ?_) <;> (try simp only [zT, puth, Nat.reduceEqDiff, reduceIte, Nat.reduceAdd])) | (with_reducible first | refine za ?_ ?_ | refine zb ?_ ?_ ?_ ?_ | refine zc ?_ ?_ ?_ ?_ | refine zd ?_ ?_ ?_ ?_ | refine objsM_abs ?_ ?_ | refine subH_cons ?_ ?_) | (with_reducible first | exact slotsM_nil | exact objsM_nil | exact subH_nil | exact coL_nilm | exact Co.refl _ | exact CoL.refl _ | exact CoLL.refl _) | ((with_reducible first | refine zga ?_ | refine zgb ?_); rfl) | ((with_reducible refine zgc ?_); (first | (with_reducible rfl) | rfl | (simp; done))) | ((with_reducible first | refine zgd ?_ | refine zge ?_); (first | omega | (simp; done))) | (refine co_wrap ⟨?_, ?_⟩ ?_ <;> omega) | (exact Co.refl _) | (exact CoL.refl _) | (exact CoLL.refl _) | (refine co_own ?_; omega) | (refine co_int ?_; first | omega | (simp_all; done)) | (with_reducible first | refine coL_cons ?_ ?_ | refine coL_consm ?_ ?_) | fail)
  rintro J hJ i ⟨h1, h2⟩
  unfold c_rform_l2
  simp only [zT, puth, Nat.reduceEqDiff, reduceIte, Nat.reduceAdd] at h1 h2 ⊢
  clear hF
  rcases Nat.lt_or_ge i p.meta_.length with hi | hi
  ·rw [z_row _ _ hi] at h2
   have hxm : p.meta_[i] ∈ p.meta_ := List.getElem_mem hi
   have wi : IntKind.i64.wrap ((i : Int) + 1) = (i : Int) + 1 := i64_add_ (by omega) (by omega)
   have wa : IntKind.i64.wrap (2000 + (i : Int)) = 2000 + (i : Int) := i64_add_ (by omega) (by omega)
   generalize hxx : p.meta_[i] = x at h2 hxm
   replace h2 := Lib.hid h2
   cases hv : wOut x
   ·have hv1 : decide (x < 1) = false ∧ decide (48 < x) = false := by simpa [wOut] using hv
    obtain ⟨v1, v2⟩ := hv1
    repeat' (first | (with_reducible first | refine zA ?_ | refine swp_block1 ?_ | refine swp_block2 ?_ | refine zK ?_) | ((with_reducible first | refine swp_reg ?_ | refine swp_regd (by rw [hP]; exact mixed) ?_); (try rw [hP]); simp -implicitDefEqProofs [*]) | ((with_reducible first | refine swp_skip ?_ | refine swp_exit ?_); (try simp -implicitDefEqProofs [*])) | ((with_reducible refine swp_ret ?_); (try simp only [qseq_r, qblock_r, qloop_r])) | ((with_reducible refine swp_cond rfl (fun h => ?_) (fun h => ?_)) <;> have h' := h <;> (try simp at h') <;> (try subst h')) | ((with_reducible refine sopsg_cases (fun h => ?_) (fun h => ?_)) <;> have h' := h <;> (try simp at h') <;> (try subst h') <;> simp -implicitDefEqProofs [*]) | ((with_reducible refine sopsk_rg ?_ ?_); (first | omega | (unfold maxLen; omega)); simp -implicitDefEqProofs [*]) | (with_reducible first | refine zM hm ?_ | refine zN hm ?_ | refine zO hm ?_ | refine zP hm ?_) | ((with_reducible refine wk_self [] hm ?_ ?_ ?_ ?_) <;> (try simp only [zT, puth, Nat.reduceEqDiff, reduceIte, Nat.reduceAdd])) | (with_reducible first | refine za ?_ ?_ | refine zb ?_ ?_ ?_ ?_ | refine zc ?_ ?_ ?_ ?_ | refine zd ?_ ?_ ?_ ?_ | refine objsM_abs ?_ ?_ | refine subH_cons ?_ ?_) | (with_reducible first | exact slotsM_nil | exact objsM_nil | exact subH_nil | exact coL_nilm | exact Co.refl _ | exact CoL.refl _ | exact CoLL.refl _) | ((with_reducible first | refine zga ?_ | refine zgb ?_); rfl) | ((with_reducible refine zgc ?_); (first | (with_reducible rfl) | rfl | (simp; done))) | ((with_reducible first | refine zgd ?_ | refine zge ?_); (first | omega | (simp; done))) | (refine co_wrap ⟨?_, ?_⟩ ?_ <;> omega) | (exact Co.refl _) | (exact CoL.refl _) | (exact CoLL.refl _) | (refine co_own ?_; omega) | (refine co_int ?_; first | omega | (simp_all; done)) | (with_reducible first | refine coL_cons ?_ ?_ | refine coL_consm ?_ ?_) | ((refine qfor_next hJ (i + 1) ?_ ?_ ?_; (with_reducible refine wk_self [] hm ?_ ?_ ?_ ?_) <;> (try simp only [zT, puth, Nat.reduceEqDiff, reduceIte, Nat.reduceAdd]))) | fail)
    exact ⟨by omega, by rw [h2.out, hv]; rfl⟩
   ·have hz := h2.out
    rw [hv] at hz
    replace hz : F = (6, 2000 + (i : Int)) := hz
    replace hz := Lib.hid hz
    replace hv := Lib.hid hv
    repeat' (first | (with_reducible first | refine zA ?_ | refine swp_block1 ?_ | refine swp_block2 ?_ | refine zK ?_) | ((with_reducible first | refine swp_reg ?_ | refine swp_regd (by rw [hP]; exact mixed) ?_); (try rw [hP]); simp -implicitDefEqProofs [*]) | ((with_reducible first | refine swp_skip ?_ | refine swp_exit ?_); (try simp -implicitDefEqProofs [*])) | ((with_reducible refine swp_ret ?_); (try simp only [qseq_r, qblock_r, qloop_r])) | ((with_reducible refine swp_cond rfl (fun h => ?_) (fun h => ?_)) <;> have h' := h <;> (try simp at h') <;> (try subst h')) | ((with_reducible refine sopsg_cases (fun h => ?_) (fun h => ?_)) <;> have h' := h <;> (try simp at h') <;> (try subst h') <;> simp -implicitDefEqProofs [*]) | ((with_reducible refine sopsk_rg ?_ ?_); (first | omega | (unfold maxLen; omega)); simp -implicitDefEqProofs [*]) | (refine call_q (rF_s _ _ _) ?_; simp -implicitDefEqProofs [*]) | (with_reducible first | refine zM hm ?_ | refine zN hm ?_ | refine zO hm ?_ | refine zP hm ?_) | ((with_reducible refine wk_self [] hm ?_ ?_ ?_ ?_) <;> (try simp only [zT, puth, Nat.reduceEqDiff, reduceIte, Nat.reduceAdd])) | (with_reducible first | refine za ?_ ?_ | refine zb ?_ ?_ ?_ ?_ | refine zc ?_ ?_ ?_ ?_ | refine zd ?_ ?_ ?_ ?_ | refine objsM_abs ?_ ?_ | refine subH_cons ?_ ?_) | (with_reducible first | exact slotsM_nil | exact objsM_nil | exact subH_nil | exact coL_nilm | exact Co.refl _ | exact CoL.refl _ | exact CoLL.refl _) | ((with_reducible first | refine zga ?_ | refine zgb ?_); rfl) | ((with_reducible refine zgc ?_); (first | (with_reducible rfl) | rfl | (simp; done))) | ((with_reducible first | refine zgd ?_ | refine zge ?_); (first | omega | (simp; done))) | (refine co_wrap ⟨?_, ?_⟩ ?_ <;> omega) | (exact Co.refl _) | (exact CoL.refl _) | (exact CoLL.refl _) | (refine co_own ?_; omega) | (refine co_int ?_; first | omega | (simp_all; done)) | (with_reducible first | refine coL_cons ?_ ?_ | refine coL_consm ?_ ?_) | ((refine qfor_next hJ (i + 1) ?_ ?_ ?_; (with_reducible refine wk_self [] hm ?_ ?_ ?_ ?_) <;> (try simp only [zT, puth, Nat.reduceEqDiff, reduceIte, Nat.reduceAdd]))) | (refine fin_c hm rfl rfl (by rw [hP]; exact agg_fault) (by rw [hP]; exact size_fault) rfl (CoL.refl _) (by rw [hz.out]) (fun σ => rfl)) | fail)
    all_goals (exfalso; have q := hv.out; simp only [wOut, Bool.or_eq_true, decide_eq_true_eq] at q; omega)
  ·obtain rfl : i = p.meta_.length := by omega
   have hF : F = orF (0, 0) (orF (statesF p) (orF (actsF p) (orF (tabsF p) (orF (nodesF p) (outsF p))))) := by rw [h2, List.drop_length]; exact z_end _
   clear h2 hi h1 hJ
   replace hF := Lib.hid hF
   have hS : F = if (decide ((p.states.length : Int) < 1) || decide (8 < (p.states.length : Int))) = true then (2, -3) else orF (0, 0) (orF (rowF (fun i s => stateF p i s) 3000 0 (p.states.drop 0)) (orF (actsF p) (orF (tabsF p) (orF (nodesF p) (outsF p))))) := by
    rw [hF.out]; unfold statesF; rw [z_many, show decide (p.states.length < 1) = decide ((p.states.length : Int) < 1) from decide_eq_decide.2 (by omega), show decide (8 < p.states.length) = decide (8 < (p.states.length : Int)) from decide_eq_decide.2 (by omega)]; rfl
   replace hF := Lib.hid hS
   clear hS
   cases km1 : decide ((p.states.length : Int) < 1)
   rotate_left
   ·have hz := hF.out
    rw [km1, Bool.true_or, if_pos rfl] at hz
    replace hz := Lib.hid hz
    repeat' (first | (with_reducible first | refine zA ?_ | refine swp_block1 ?_ | refine swp_block2 ?_ | refine zK ?_) | ((with_reducible first | refine swp_reg ?_ | refine swp_regd (by rw [hP]; exact mixed) ?_); (try rw [hP]); simp -implicitDefEqProofs [*]) | ((with_reducible first | refine swp_skip ?_ | refine swp_exit ?_); (try simp -implicitDefEqProofs [*])) | ((with_reducible refine swp_ret ?_); (try simp only [qseq_r, qblock_r, qloop_r])) | ((with_reducible refine swp_cond rfl (fun h => ?_) (fun h => ?_)) <;> have h' := h <;> (try simp at h') <;> (try subst h')) | ((with_reducible refine sopsg_cases (fun h => ?_) (fun h => ?_)) <;> have h' := h <;> (try simp at h') <;> (try subst h') <;> simp -implicitDefEqProofs [*]) | ((with_reducible refine sopsk_rg ?_ ?_); (first | omega | (unfold maxLen; omega)); simp -implicitDefEqProofs [*]) | (refine call_q (rF_s _ _ _) ?_; simp -implicitDefEqProofs [*]) | (with_reducible first | refine zM hm ?_ | refine zN hm ?_ | refine zO hm ?_ | refine zP hm ?_) | (refine fin_c hm rfl rfl (by rw [hP]; exact agg_fault) (by rw [hP]; exact size_fault) rfl (CoL.refl _) (by rw [hz.out]) (fun σ => rfl)) | fail)
   cases km : decide (8 < (p.states.length : Int))
   rotate_left
   ·have hz := hF.out
    rw [km1, km, Bool.or_true, if_pos rfl] at hz
    replace hz := Lib.hid hz
    repeat' (first | (with_reducible first | refine zA ?_ | refine swp_block1 ?_ | refine swp_block2 ?_ | refine zK ?_) | ((with_reducible first | refine swp_reg ?_ | refine swp_regd (by rw [hP]; exact mixed) ?_); (try rw [hP]); simp -implicitDefEqProofs [*]) | ((with_reducible first | refine swp_skip ?_ | refine swp_exit ?_); (try simp -implicitDefEqProofs [*])) | ((with_reducible refine swp_ret ?_); (try simp only [qseq_r, qblock_r, qloop_r])) | ((with_reducible refine swp_cond rfl (fun h => ?_) (fun h => ?_)) <;> have h' := h <;> (try simp at h') <;> (try subst h')) | ((with_reducible refine sopsg_cases (fun h => ?_) (fun h => ?_)) <;> have h' := h <;> (try simp at h') <;> (try subst h') <;> simp -implicitDefEqProofs [*]) | ((with_reducible refine sopsk_rg ?_ ?_); (first | omega | (unfold maxLen; omega)); simp -implicitDefEqProofs [*]) | (refine call_q (rF_s _ _ _) ?_; simp -implicitDefEqProofs [*]) | (with_reducible first | refine zM hm ?_ | refine zN hm ?_ | refine zO hm ?_ | refine zP hm ?_) | (refine fin_c hm rfl rfl (by rw [hP]; exact agg_fault) (by rw [hP]; exact size_fault) rfl (CoL.refl _) (by rw [hz.out]) (fun σ => rfl)) | fail)
   have hz := hF.out
   rw [km1, km, Bool.or_false, if_neg Bool.false_ne_true] at hz
   replace hF := Lib.hid hz
   clear hz
   repeat' (first | (with_reducible first | refine zA ?_ | refine swp_block1 ?_ | refine swp_block2 ?_ | refine zK ?_) | ((with_reducible first | refine swp_reg ?_ | refine swp_regd (by rw [hP]; exact mixed) ?_); (try rw [hP]); simp -implicitDefEqProofs [*]) | ((with_reducible first | refine swp_skip ?_ | refine swp_exit ?_); (try simp -implicitDefEqProofs [*])) | ((with_reducible refine swp_ret ?_); (try simp only [qseq_r, qblock_r, qloop_r])) | ((with_reducible refine swp_cond rfl (fun h => ?_) (fun h => ?_)) <;> have h' := h <;> (try simp at h') <;> (try subst h')) | ((with_reducible refine sopsg_cases (fun h => ?_) (fun h => ?_)) <;> have h' := h <;> (try simp at h') <;> (try subst h') <;> simp -implicitDefEqProofs [*]) | ((with_reducible refine sopsk_rg ?_ ?_); (first | omega | (unfold maxLen; omega)); simp -implicitDefEqProofs [*]) | (with_reducible first | refine zM hm ?_ | refine zN hm ?_ | refine zO hm ?_ | refine zP hm ?_) | fail)
   clear km km1
   refine swp_block (swp_for (fun s (i : Nat) => s.turn [(7, .int .i64 i)] []) (fun i => i ≤ p.states.length ∧ F = orF (0, 0) (orF (rowF (fun i s => stateF p i s) 3000 i (p.states.drop i)) (orF (actsF p) (orF (tabsF p) (orF (nodesF p) (outsF p)))))) (fun i => p.states.length - i) 0 ?_ ⟨by simp, hF.out⟩ ?_)
   ·repeat' (first | ((with_reducible refine wk_self [] hm ?_ ?_ ?_ ?_) <;> (try simp only [zT, puth, Nat.reduceEqDiff, reduceIte, Nat.reduceAdd])) | (with_reducible first | refine za ?_ ?_ | refine zb ?_ ?_ ?_ ?_ | refine zc ?_ ?_ ?_ ?_ | refine zd ?_ ?_ ?_ ?_ | refine objsM_abs ?_ ?_ | refine subH_cons ?_ ?_) | (with_reducible first | exact slotsM_nil | exact objsM_nil | exact subH_nil | exact coL_nilm | exact Co.refl _ | exact CoL.refl _ | exact CoLL.refl _) | ((with_reducible first | refine zga ?_ | refine zgb ?_); rfl) | ((with_reducible refine zgc ?_); (first | (with_reducible rfl) | rfl | (simp; done))) | ((with_reducible first | refine zgd ?_ | refine zge ?_); (first | omega | (simp; done))) | (refine co_wrap ⟨?_, ?_⟩ ?_ <;> omega) | (exact Co.refl _) | (exact CoL.refl _) | (exact CoLL.refl _) | (refine co_own ?_; omega) | (refine co_int ?_; first | omega | (simp_all; done)) | (with_reducible first | refine coL_cons ?_ ?_ | refine coL_consm ?_ ?_) | fail)
   rintro J hJ i ⟨h1, h2⟩
   unfold c_rform_l3
   simp only [zT, puth, Nat.reduceEqDiff, reduceIte, Nat.reduceAdd] at h1 h2 ⊢
   clear hF
   rcases Nat.lt_or_ge i p.states.length with hi | hi
   ·rw [z_row _ _ hi] at h2
    have hxm : p.states[i] ∈ p.states := List.getElem_mem hi
    have wi : IntKind.i64.wrap ((i : Int) + 1) = (i : Int) + 1 := i64_add_ (by omega) (by omega)
    have wa : IntKind.i64.wrap (3000 + (i : Int)) = 3000 + (i : Int) := i64_add_ (by omega) (by omega)
    have hct := fun q => rstate_s p i hi (by omega) (by have := hs.cases_ _ hxm; omega) q
    generalize hxx : p.states[i] = x at h2 hct hxm
    generalize stateF p i x = E at h2 hct
    replace h2 := Lib.hid h2
    replace hct := Lib.hid hct
    cases kE : (E != 0)
    ·have kE' : ¬ E ≠ 0 := by simpa using kE
     replace kE' := Lib.hid kE'
     repeat' (first | (with_reducible first | refine zA ?_ | refine swp_block1 ?_ | refine swp_block2 ?_ | refine zK ?_) | ((with_reducible first | refine swp_reg ?_ | refine swp_regd (by rw [hP]; exact mixed) ?_); (try rw [hP]); simp -implicitDefEqProofs [*]) | ((with_reducible first | refine swp_skip ?_ | refine swp_exit ?_); (try simp -implicitDefEqProofs [*])) | ((with_reducible refine swp_ret ?_); (try simp only [qseq_r, qblock_r, qloop_r])) | ((with_reducible refine swp_cond rfl (fun h => ?_) (fun h => ?_)) <;> have h' := h <;> (try simp at h') <;> (try subst h')) | ((with_reducible refine sopsg_cases (fun h => ?_) (fun h => ?_)) <;> have h' := h <;> (try simp at h') <;> (try subst h') <;> simp -implicitDefEqProofs [*]) | ((with_reducible refine sopsk_rg ?_ ?_); (first | omega | (unfold maxLen; omega)); simp -implicitDefEqProofs [*]) | (refine call_q (hct.out _) ?_; simp -implicitDefEqProofs [*]) | (with_reducible first | refine zM hm ?_ | refine zN hm ?_ | refine zO hm ?_ | refine zP hm ?_) | ((with_reducible refine wk_self [] hm ?_ ?_ ?_ ?_) <;> (try simp only [zT, puth, Nat.reduceEqDiff, reduceIte, Nat.reduceAdd])) | (with_reducible first | refine za ?_ ?_ | refine zb ?_ ?_ ?_ ?_ | refine zc ?_ ?_ ?_ ?_ | refine zd ?_ ?_ ?_ ?_ | refine objsM_abs ?_ ?_ | refine subH_cons ?_ ?_) | (with_reducible first | exact slotsM_nil | exact objsM_nil | exact subH_nil | exact coL_nilm | exact Co.refl _ | exact CoL.refl _ | exact CoLL.refl _) | ((with_reducible first | refine zga ?_ | refine zgb ?_); rfl) | ((with_reducible refine zgc ?_); (first | (with_reducible rfl) | rfl | (simp; done))) | ((with_reducible first | refine zgd ?_ | refine zge ?_); (first | omega | (simp; done))) | (refine co_wrap ⟨?_, ?_⟩ ?_ <;> omega) | (exact Co.refl _) | (exact CoL.refl _) | (exact CoLL.refl _) | (refine co_own ?_; omega) | (refine co_int ?_; first | omega | (simp_all; done)) | (with_reducible first | refine coL_cons ?_ ?_ | refine coL_consm ?_ ?_) | ((refine qfor_next hJ (i + 1) ?_ ?_ ?_; (with_reducible refine wk_self [] hm ?_ ?_ ?_ ?_) <;> (try simp only [zT, puth, Nat.reduceEqDiff, reduceIte, Nat.reduceAdd]))) | fail)
     exact ⟨by omega, by rw [h2.out, if_neg kE'.out]⟩
    ·have kE' : E ≠ 0 := by simpa using kE
     have hz := h2.out
     rw [if_pos kE'] at hz
     replace kE' := Lib.hid kE'
     replace hz := Lib.hid hz
     repeat' (first | (with_reducible first | refine zA ?_ | refine swp_block1 ?_ | refine swp_block2 ?_ | refine zK ?_) | ((with_reducible first | refine swp_reg ?_ | refine swp_regd (by rw [hP]; exact mixed) ?_); (try rw [hP]); simp -implicitDefEqProofs [*]) | ((with_reducible first | refine swp_skip ?_ | refine swp_exit ?_); (try simp -implicitDefEqProofs [*])) | ((with_reducible refine swp_ret ?_); (try simp only [qseq_r, qblock_r, qloop_r])) | ((with_reducible refine swp_cond rfl (fun h => ?_) (fun h => ?_)) <;> have h' := h <;> (try simp at h') <;> (try subst h')) | ((with_reducible refine sopsg_cases (fun h => ?_) (fun h => ?_)) <;> have h' := h <;> (try simp at h') <;> (try subst h') <;> simp -implicitDefEqProofs [*]) | ((with_reducible refine sopsk_rg ?_ ?_); (first | omega | (unfold maxLen; omega)); simp -implicitDefEqProofs [*]) | ((first | refine call_q (hct.out _) ?_ | refine call_q (rF_s _ _ _) ?_); simp -implicitDefEqProofs [*]) | (with_reducible first | refine zM hm ?_ | refine zN hm ?_ | refine zO hm ?_ | refine zP hm ?_) | (refine fin_c hm rfl rfl (by rw [hP]; exact agg_fault) (by rw [hP]; exact size_fault) rfl (CoL.refl _) (by rw [hz.out]) (fun σ => rfl)) | fail)
   ·obtain rfl : i = p.states.length := by omega
    have hF : F = orF (0, 0) (orF (actsF p) (orF (tabsF p) (orF (nodesF p) (outsF p)))) := by rw [h2, List.drop_length]; exact z_end _
    clear h2 hi h1 hJ
    replace hF := Lib.hid hF
    have hS : F = if decide (8 < (p.acts.length : Int)) = true then (2, -4) else orF (0, 0) (orF (rowF (fun _ a => actF p a) 4000 0 (p.acts.drop 0)) (orF (tabsF p) (orF (nodesF p) (outsF p)))) := by
     rw [hF.out]; unfold actsF; rw [z_many, show decide (8 < p.acts.length) = decide (8 < (p.acts.length : Int)) from decide_eq_decide.2 (by omega)]; rfl
    replace hF := Lib.hid hS
    clear hS
    cases km : decide (8 < (p.acts.length : Int))
    rotate_left
    ·have hz := hF.out
     rw [km, if_pos rfl] at hz
     replace hz := Lib.hid hz
     repeat' (first | (with_reducible first | refine zA ?_ | refine swp_block1 ?_ | refine swp_block2 ?_ | refine zK ?_) | ((with_reducible first | refine swp_reg ?_ | refine swp_regd (by rw [hP]; exact mixed) ?_); (try rw [hP]); simp -implicitDefEqProofs [*]) | ((with_reducible first | refine swp_skip ?_ | refine swp_exit ?_); (try simp -implicitDefEqProofs [*])) | ((with_reducible refine swp_ret ?_); (try simp only [qseq_r, qblock_r, qloop_r])) | ((with_reducible refine swp_cond rfl (fun h => ?_) (fun h => ?_)) <;> have h' := h <;> (try simp at h') <;> (try subst h')) | ((with_reducible refine sopsg_cases (fun h => ?_) (fun h => ?_)) <;> have h' := h <;> (try simp at h') <;> (try subst h') <;> simp -implicitDefEqProofs [*]) | ((with_reducible refine sopsk_rg ?_ ?_); (first | omega | (unfold maxLen; omega)); simp -implicitDefEqProofs [*]) | (refine call_q (rF_s _ _ _) ?_; simp -implicitDefEqProofs [*]) | (with_reducible first | refine zM hm ?_ | refine zN hm ?_ | refine zO hm ?_ | refine zP hm ?_) | (refine fin_c hm rfl rfl (by rw [hP]; exact agg_fault) (by rw [hP]; exact size_fault) rfl (CoL.refl _) (by rw [hz.out]) (fun σ => rfl)) | fail)
    have hz := hF.out
    rw [km, if_neg Bool.false_ne_true] at hz
    replace hF := Lib.hid hz
    clear hz
    repeat' (first | (with_reducible first | refine zA ?_ | refine swp_block1 ?_ | refine swp_block2 ?_ | refine zK ?_) | ((with_reducible first | refine swp_reg ?_ | refine swp_regd (by rw [hP]; exact mixed) ?_); (try rw [hP]); simp -implicitDefEqProofs [*]) | ((with_reducible first | refine swp_skip ?_ | refine swp_exit ?_); (try simp -implicitDefEqProofs [*])) | ((with_reducible refine swp_ret ?_); (try simp only [qseq_r, qblock_r, qloop_r])) | ((with_reducible refine swp_cond rfl (fun h => ?_) (fun h => ?_)) <;> have h' := h <;> (try simp at h') <;> (try subst h')) | ((with_reducible refine sopsg_cases (fun h => ?_) (fun h => ?_)) <;> have h' := h <;> (try simp at h') <;> (try subst h') <;> simp -implicitDefEqProofs [*]) | ((with_reducible refine sopsk_rg ?_ ?_); (first | omega | (unfold maxLen; omega)); simp -implicitDefEqProofs [*]) | (with_reducible first | refine zM hm ?_ | refine zN hm ?_ | refine zO hm ?_ | refine zP hm ?_) | fail)
    clear km
    refine swp_block (swp_for (fun s (i : Nat) => s.turn [(9, .int .i64 i)] []) (fun i => i ≤ p.acts.length ∧ F = orF (0, 0) (orF (rowF (fun _ a => actF p a) 4000 i (p.acts.drop i)) (orF (tabsF p) (orF (nodesF p) (outsF p))))) (fun i => p.acts.length - i) 0 ?_ ⟨by simp, hF.out⟩ ?_)
    ·repeat' (first | ((with_reducible refine wk_self [] hm ?_ ?_ ?_ ?_) <;> (try simp only [zT, puth, Nat.reduceEqDiff, reduceIte, Nat.reduceAdd])) | (with_reducible first | refine za ?_ ?_ | refine zb ?_ ?_ ?_ ?_ | refine zc ?_ ?_ ?_ ?_ | refine zd ?_ ?_ ?_ ?_ | refine objsM_abs ?_ ?_ | refine subH_cons ?_ ?_) | (with_reducible first | exact slotsM_nil | exact objsM_nil | exact subH_nil | exact coL_nilm | exact Co.refl _ | exact CoL.refl _ | exact CoLL.refl _) | ((with_reducible first | refine zga ?_ | refine zgb ?_); rfl) | ((with_reducible refine zgc ?_); (first | (with_reducible rfl) | rfl | (simp; done))) | ((with_reducible first | refine zgd ?_ | refine zge ?_); (first | omega | (simp; done))) | (refine co_wrap ⟨?_, ?_⟩ ?_ <;> omega) | (exact Co.refl _) | (exact CoL.refl _) | (exact CoLL.refl _) | (refine co_own ?_; omega) | (refine co_int ?_; first | omega | (simp_all; done)) | (with_reducible first | refine coL_cons ?_ ?_ | refine coL_consm ?_ ?_) | fail)
    rintro J hJ i ⟨h1, h2⟩
    unfold c_rform_l4
    simp only [zT, puth, Nat.reduceEqDiff, reduceIte, Nat.reduceAdd] at h1 h2 ⊢
    clear hF
    rcases Nat.lt_or_ge i p.acts.length with hi | hi
    ·rw [z_row _ _ hi] at h2
     have hxm : p.acts[i] ∈ p.acts := List.getElem_mem hi
     have wi : IntKind.i64.wrap ((i : Int) + 1) = (i : Int) + 1 := i64_add_ (by omega) (by omega)
     have wa : IntKind.i64.wrap (4000 + (i : Int)) = 4000 + (i : Int) := i64_add_ (by omega) (by omega)
     have hct := fun q => ract_s p p.acts[i] (by have := hs.actW _ hxm; omega) (by have := hs.ops _ hxm; omega) (fun o ho => by have := hs.tree _ hxm o ho; omega) q
     generalize hxx : p.acts[i] = x at h2 hct hxm
     generalize actF p x = E at h2 hct
     replace h2 := Lib.hid h2
     replace hct := Lib.hid hct
     cases kE : (E != 0)
     ·have kE' : ¬ E ≠ 0 := by simpa using kE
      replace kE' := Lib.hid kE'
      repeat' (first | (with_reducible first | refine zA ?_ | refine swp_block1 ?_ | refine swp_block2 ?_ | refine zK ?_) | ((with_reducible first | refine swp_reg ?_ | refine swp_regd (by rw [hP]; exact mixed) ?_); (try rw [hP]); simp -implicitDefEqProofs [*]) | ((with_reducible first | refine swp_skip ?_ | refine swp_exit ?_); (try simp -implicitDefEqProofs [*])) | ((with_reducible refine swp_ret ?_); (try simp only [qseq_r, qblock_r, qloop_r])) | ((with_reducible refine swp_cond rfl (fun h => ?_) (fun h => ?_)) <;> have h' := h <;> (try simp at h') <;> (try subst h')) | ((with_reducible refine sopsg_cases (fun h => ?_) (fun h => ?_)) <;> have h' := h <;> (try simp at h') <;> (try subst h') <;> simp -implicitDefEqProofs [*]) | ((with_reducible refine sopsk_rg ?_ ?_); (first | omega | (unfold maxLen; omega)); simp -implicitDefEqProofs [*]) | (refine call_q (hct.out _) ?_; simp -implicitDefEqProofs [*]) | (with_reducible first | refine zM hm ?_ | refine zN hm ?_ | refine zO hm ?_ | refine zP hm ?_) | ((with_reducible refine wk_self [] hm ?_ ?_ ?_ ?_) <;> (try simp only [zT, puth, Nat.reduceEqDiff, reduceIte, Nat.reduceAdd])) | (with_reducible first | refine za ?_ ?_ | refine zb ?_ ?_ ?_ ?_ | refine zc ?_ ?_ ?_ ?_ | refine zd ?_ ?_ ?_ ?_ | refine objsM_abs ?_ ?_ | refine subH_cons ?_ ?_) | (with_reducible first | exact slotsM_nil | exact objsM_nil | exact subH_nil | exact coL_nilm | exact Co.refl _ | exact CoL.refl _ | exact CoLL.refl _) | ((with_reducible first | refine zga ?_ | refine zgb ?_); rfl) | ((with_reducible refine zgc ?_); (first | (with_reducible rfl) | rfl | (simp; done))) | ((with_reducible first | refine zgd ?_ | refine zge ?_); (first | omega | (simp; done))) | (refine co_wrap ⟨?_, ?_⟩ ?_ <;> omega) | (exact Co.refl _) | (exact CoL.refl _) | (exact CoLL.refl _) | (refine co_own ?_; omega) | (refine co_int ?_; first | omega | (simp_all; done)) | (with_reducible first | refine coL_cons ?_ ?_ | refine coL_consm ?_ ?_) | ((refine qfor_next hJ (i + 1) ?_ ?_ ?_; (with_reducible refine wk_self [] hm ?_ ?_ ?_ ?_) <;> (try simp only [zT, puth, Nat.reduceEqDiff, reduceIte, Nat.reduceAdd]))) | fail)
      exact ⟨by omega, by rw [h2.out, if_neg kE'.out]⟩
     ·have kE' : E ≠ 0 := by simpa using kE
      have hz := h2.out
      rw [if_pos kE'] at hz
      replace kE' := Lib.hid kE'
      replace hz := Lib.hid hz
      repeat' (first | (with_reducible first | refine zA ?_ | refine swp_block1 ?_ | refine swp_block2 ?_ | refine zK ?_) | ((with_reducible first | refine swp_reg ?_ | refine swp_regd (by rw [hP]; exact mixed) ?_); (try rw [hP]); simp -implicitDefEqProofs [*]) | ((with_reducible first | refine swp_skip ?_ | refine swp_exit ?_); (try simp -implicitDefEqProofs [*])) | ((with_reducible refine swp_ret ?_); (try simp only [qseq_r, qblock_r, qloop_r])) | ((with_reducible refine swp_cond rfl (fun h => ?_) (fun h => ?_)) <;> have h' := h <;> (try simp at h') <;> (try subst h')) | ((with_reducible refine sopsg_cases (fun h => ?_) (fun h => ?_)) <;> have h' := h <;> (try simp at h') <;> (try subst h') <;> simp -implicitDefEqProofs [*]) | ((with_reducible refine sopsk_rg ?_ ?_); (first | omega | (unfold maxLen; omega)); simp -implicitDefEqProofs [*]) | ((first | refine call_q (hct.out _) ?_ | refine call_q (rF_s _ _ _) ?_); simp -implicitDefEqProofs [*]) | (with_reducible first | refine zM hm ?_ | refine zN hm ?_ | refine zO hm ?_ | refine zP hm ?_) | (refine fin_c hm rfl rfl (by rw [hP]; exact agg_fault) (by rw [hP]; exact size_fault) rfl (CoL.refl _) (by rw [hz.out]) (fun σ => rfl)) | fail)
    ·obtain rfl : i = p.acts.length := by omega
     have hF : F = orF (0, 0) (orF (tabsF p) (orF (nodesF p) (outsF p))) := by rw [h2, List.drop_length]; exact z_end _
     clear h2 hi h1 hJ
     replace hF := Lib.hid hF
     have hS : F = if decide (5 < (p.tabs.length : Int)) = true then (2, -5) else orF (0, 0) (orF (rowF (fun _ t => tabF p t) 5000 0 (p.tabs.drop 0)) (orF (nodesF p) (outsF p))) := by
      rw [hF.out]; unfold tabsF; rw [z_many, show decide (5 < p.tabs.length) = decide (5 < (p.tabs.length : Int)) from decide_eq_decide.2 (by omega)]; rfl
     replace hF := Lib.hid hS
     clear hS
     cases km : decide (5 < (p.tabs.length : Int))
     rotate_left
     ·have hz := hF.out
      rw [km, if_pos rfl] at hz
      replace hz := Lib.hid hz
      repeat' (first | (with_reducible first | refine zA ?_ | refine swp_block1 ?_ | refine swp_block2 ?_ | refine zK ?_) | ((with_reducible first | refine swp_reg ?_ | refine swp_regd (by rw [hP]; exact mixed) ?_); (try rw [hP]); simp -implicitDefEqProofs [*]) | ((with_reducible first | refine swp_skip ?_ | refine swp_exit ?_); (try simp -implicitDefEqProofs [*])) | ((with_reducible refine swp_ret ?_); (try simp only [qseq_r, qblock_r, qloop_r])) | ((with_reducible refine swp_cond rfl (fun h => ?_) (fun h => ?_)) <;> have h' := h <;> (try simp at h') <;> (try subst h')) | ((with_reducible refine sopsg_cases (fun h => ?_) (fun h => ?_)) <;> have h' := h <;> (try simp at h') <;> (try subst h') <;> simp -implicitDefEqProofs [*]) | ((with_reducible refine sopsk_rg ?_ ?_); (first | omega | (unfold maxLen; omega)); simp -implicitDefEqProofs [*]) | (refine call_q (rF_s _ _ _) ?_; simp -implicitDefEqProofs [*]) | (with_reducible first | refine zM hm ?_ | refine zN hm ?_ | refine zO hm ?_ | refine zP hm ?_) | (refine fin_c hm rfl rfl (by rw [hP]; exact agg_fault) (by rw [hP]; exact size_fault) rfl (CoL.refl _) (by rw [hz.out]) (fun σ => rfl)) | fail)
     have hz := hF.out
     rw [km, if_neg Bool.false_ne_true] at hz
     replace hF := Lib.hid hz
     clear hz
     repeat' (first | (with_reducible first | refine zA ?_ | refine swp_block1 ?_ | refine swp_block2 ?_ | refine zK ?_) | ((with_reducible first | refine swp_reg ?_ | refine swp_regd (by rw [hP]; exact mixed) ?_); (try rw [hP]); simp -implicitDefEqProofs [*]) | ((with_reducible first | refine swp_skip ?_ | refine swp_exit ?_); (try simp -implicitDefEqProofs [*])) | ((with_reducible refine swp_ret ?_); (try simp only [qseq_r, qblock_r, qloop_r])) | ((with_reducible refine swp_cond rfl (fun h => ?_) (fun h => ?_)) <;> have h' := h <;> (try simp at h') <;> (try subst h')) | ((with_reducible refine sopsg_cases (fun h => ?_) (fun h => ?_)) <;> have h' := h <;> (try simp at h') <;> (try subst h') <;> simp -implicitDefEqProofs [*]) | ((with_reducible refine sopsk_rg ?_ ?_); (first | omega | (unfold maxLen; omega)); simp -implicitDefEqProofs [*]) | (with_reducible first | refine zM hm ?_ | refine zN hm ?_ | refine zO hm ?_ | refine zP hm ?_) | fail)
     clear km
     refine swp_block (swp_for (fun s (i : Nat) => s.turn [(11, .int .i64 i)] []) (fun i => i ≤ p.tabs.length ∧ F = orF (0, 0) (orF (rowF (fun _ t => tabF p t) 5000 i (p.tabs.drop i)) (orF (nodesF p) (outsF p)))) (fun i => p.tabs.length - i) 0 ?_ ⟨by simp, hF.out⟩ ?_)
     ·repeat' (first | ((with_reducible refine wk_self [] hm ?_ ?_ ?_ ?_) <;> (try simp only [zT, puth, Nat.reduceEqDiff, reduceIte, Nat.reduceAdd])) | (with_reducible first | refine za ?_ ?_ | refine zb ?_ ?_ ?_ ?_ | refine zc ?_ ?_ ?_ ?_ | refine zd ?_ ?_ ?_ ?_ | refine objsM_abs ?_ ?_ | refine subH_cons ?_ ?_) | (with_reducible first | exact slotsM_nil | exact objsM_nil | exact subH_nil | exact coL_nilm | exact Co.refl _ | exact CoL.refl _ | exact CoLL.refl _) | ((with_reducible first | refine zga ?_ | refine zgb ?_); rfl) | ((with_reducible refine zgc ?_); (first | (with_reducible rfl) | rfl | (simp; done))) | ((with_reducible first | refine zgd ?_ | refine zge ?_); (first | omega | (simp; done))) | (refine co_wrap ⟨?_, ?_⟩ ?_ <;> omega) | (exact Co.refl _) | (exact CoL.refl _) | (exact CoLL.refl _) | (refine co_own ?_; omega) | (refine co_int ?_; first | omega | (simp_all; done)) | (with_reducible first | refine coL_cons ?_ ?_ | refine coL_consm ?_ ?_) | fail)
     rintro J hJ i ⟨h1, h2⟩
     unfold c_rform_l5
     simp only [zT, puth, Nat.reduceEqDiff, reduceIte, Nat.reduceAdd] at h1 h2 ⊢
     clear hF
     rcases Nat.lt_or_ge i p.tabs.length with hi | hi
     ·rw [z_row _ _ hi] at h2
      have hxm : p.tabs[i] ∈ p.tabs := List.getElem_mem hi
      have wi : IntKind.i64.wrap ((i : Int) + 1) = (i : Int) + 1 := i64_add_ (by omega) (by omega)
      have wa : IntKind.i64.wrap (5000 + (i : Int)) = 5000 + (i : Int) := i64_add_ (by omega) (by omega)
      have hkw := hs.keys _ hxm
      generalize hxx : p.tabs[i] = x at h2 hxm hkw
      have hlw : (widthsOf p x).length ≤ 1000000 := by unfold widthsOf; rw [List.length_map]; omega
      have hc1 := fun q => rtable_s x (widthsOf p x) p.acts (by omega) (by omega) hlw (by omega) q
      have hc2 := fun q => rin_s (widthsOf p x) 0 hlw q
      have hc3 := fun q => rwidths_s p x (by omega) q
      have hT : tabF p x = if decide (3 < (x.keys.length : Int)) = true then 2 else if (widthsOf p x).contains 0 = true then 1 else tableF x (widthsOf p x) p.acts := by
       unfold tabF; simp only [decide_eq_true_eq]; congr 1; exact propext (by omega)
      rw [hT] at h2
      clear hT
      generalize tableF x (widthsOf p x) p.acts = T at h2 hc1
      generalize (widthsOf p x).contains 0 = C at h2 hc2
      generalize widthsOf p x = W at hc1 hc2 hc3
      replace h2 := Lib.hid h2
      replace hc1 := Lib.hid hc1
      replace hc3 := Lib.hid hc3
      cases k3 : decide (3 < (x.keys.length : Int))
      rotate_left
      ·have hz : F = (2, 5000 + (i : Int)) := by have := h2.out; rw [k3] at this; exact this
       replace hz := Lib.hid hz
       repeat' (first | (with_reducible first | refine zA ?_ | refine swp_block1 ?_ | refine swp_block2 ?_ | refine zK ?_) | ((with_reducible first | refine swp_reg ?_ | refine swp_regd (by rw [hP]; exact mixed) ?_); (try rw [hP]); simp -implicitDefEqProofs [*]) | ((with_reducible first | refine swp_skip ?_ | refine swp_exit ?_); (try simp -implicitDefEqProofs [*])) | ((with_reducible refine swp_ret ?_); (try simp only [qseq_r, qblock_r, qloop_r])) | ((with_reducible refine swp_cond rfl (fun h => ?_) (fun h => ?_)) <;> have h' := h <;> (try simp at h') <;> (try subst h')) | ((with_reducible refine sopsg_cases (fun h => ?_) (fun h => ?_)) <;> have h' := h <;> (try simp at h') <;> (try subst h') <;> simp -implicitDefEqProofs [*]) | ((with_reducible refine sopsk_rg ?_ ?_); (first | omega | (unfold maxLen; omega)); simp -implicitDefEqProofs [*]) | (refine call_q (rF_s _ _ _) ?_; simp -implicitDefEqProofs [*]) | (with_reducible first | refine zM hm ?_ | refine zN hm ?_ | refine zO hm ?_ | refine zP hm ?_) | (refine fin_c hm rfl rfl (by rw [hP]; exact agg_fault) (by rw [hP]; exact size_fault) rfl (CoL.refl _) (by rw [hz.out]) (fun σ => rfl)) | fail)
      cases kC : C <;> rw [kC] at hc2
      rotate_left
      ·have hz : F = (1, 5000 + (i : Int)) := by have := h2.out; rw [k3, kC] at this; exact this
       replace hz := Lib.hid hz
       repeat' (first | (with_reducible first | refine zA ?_ | refine swp_block1 ?_ | refine swp_block2 ?_ | refine zK ?_) | ((with_reducible first | refine swp_reg ?_ | refine swp_regd (by rw [hP]; exact mixed) ?_); (try rw [hP]); simp -implicitDefEqProofs [*]) | ((with_reducible first | refine swp_skip ?_ | refine swp_exit ?_); (try simp -implicitDefEqProofs [*])) | ((with_reducible refine swp_ret ?_); (try simp only [qseq_r, qblock_r, qloop_r])) | ((with_reducible refine swp_cond rfl (fun h => ?_) (fun h => ?_)) <;> have h' := h <;> (try simp at h') <;> (try subst h')) | ((with_reducible refine sopsg_cases (fun h => ?_) (fun h => ?_)) <;> have h' := h <;> (try simp at h') <;> (try subst h') <;> simp -implicitDefEqProofs [*]) | ((with_reducible refine sopsk_rg ?_ ?_); (first | omega | (unfold maxLen; omega)); simp -implicitDefEqProofs [*]) | ((first | refine call_q (hc3.out _) ?_ | refine call_q (hc2 _) ?_ | refine call_q (rF_s _ _ _) ?_); simp -implicitDefEqProofs [*]) | (with_reducible first | refine zM hm ?_ | refine zN hm ?_ | refine zO hm ?_ | refine zP hm ?_) | (refine fin_c hm rfl rfl (by rw [hP]; exact agg_fault) (by rw [hP]; exact size_fault) rfl (CoL.refl _) (by rw [hz.out]) (fun σ => rfl)) | fail)
      cases kT : (T != 0)
      ·have kT' : T = 0 := by simpa using kT
       replace kT' := Lib.hid kT'
       repeat' (first | (with_reducible first | refine zA ?_ | refine swp_block1 ?_ | refine swp_block2 ?_ | refine zK ?_) | ((with_reducible first | refine swp_reg ?_ | refine swp_regd (by rw [hP]; exact mixed) ?_); (try rw [hP]); simp -implicitDefEqProofs [*]) | ((with_reducible first | refine swp_skip ?_ | refine swp_exit ?_); (try simp -implicitDefEqProofs [*])) | ((with_reducible refine swp_ret ?_); (try simp only [qseq_r, qblock_r, qloop_r])) | ((with_reducible refine swp_cond rfl (fun h => ?_) (fun h => ?_)) <;> have h' := h <;> (try simp at h') <;> (try subst h')) | ((with_reducible refine sopsg_cases (fun h => ?_) (fun h => ?_)) <;> have h' := h <;> (try simp at h') <;> (try subst h') <;> simp -implicitDefEqProofs [*]) | ((with_reducible refine sopsk_rg ?_ ?_); (first | omega | (unfold maxLen; omega)); simp -implicitDefEqProofs [*]) | ((first | refine call_q (hc3.out _) ?_ | refine call_q (hc2 _) ?_ | refine call_q (hc1.out _) ?_); simp -implicitDefEqProofs [*]) | (with_reducible first | refine zM hm ?_ | refine zN hm ?_ | refine zO hm ?_ | refine zP hm ?_) | ((with_reducible refine wk_self [] hm ?_ ?_ ?_ ?_) <;> (try simp only [zT, puth, Nat.reduceEqDiff, reduceIte, Nat.reduceAdd])) | (with_reducible first | refine za ?_ ?_ | refine zb ?_ ?_ ?_ ?_ | refine zc ?_ ?_ ?_ ?_ | refine zd ?_ ?_ ?_ ?_ | refine objsM_abs ?_ ?_ | refine subH_cons ?_ ?_) | (with_reducible first | exact slotsM_nil | exact objsM_nil | exact subH_nil | exact coL_nilm | exact Co.refl _ | exact CoL.refl _ | exact CoLL.refl _) | ((with_reducible first | refine zga ?_ | refine zgb ?_); rfl) | ((with_reducible refine zgc ?_); (first | (with_reducible rfl) | rfl | (simp; done))) | ((with_reducible first | refine zgd ?_ | refine zge ?_); (first | omega | (simp; done))) | (refine co_wrap ⟨?_, ?_⟩ ?_ <;> omega) | (exact Co.refl _) | (exact CoL.refl _) | (exact CoLL.refl _) | (refine co_own ?_; omega) | (refine co_int ?_; first | omega | (simp_all; done)) | (with_reducible first | refine coL_cons ?_ ?_ | refine coL_consm ?_ ?_) | ((refine qfor_next hJ (i + 1) ?_ ?_ ?_; (with_reducible refine wk_self [] hm ?_ ?_ ?_ ?_) <;> (try simp only [zT, puth, Nat.reduceEqDiff, reduceIte, Nat.reduceAdd]))) | fail)
       exact ⟨by omega, by have := h2.out; rw [k3, kC, kT'.out] at this; exact this⟩
      ·have kT' : T ≠ 0 := by simpa using kT
       have hz : F = (T, 5000 + (i : Int)) := by have := h2.out; rw [k3, kC] at this; rw [this]; exact if_pos kT'
       replace kT' := Lib.hid kT'
       replace hz := Lib.hid hz
       repeat' (first | (with_reducible first | refine zA ?_ | refine swp_block1 ?_ | refine swp_block2 ?_ | refine zK ?_) | ((with_reducible first | refine swp_reg ?_ | refine swp_regd (by rw [hP]; exact mixed) ?_); (try rw [hP]); simp -implicitDefEqProofs [*]) | ((with_reducible first | refine swp_skip ?_ | refine swp_exit ?_); (try simp -implicitDefEqProofs [*])) | ((with_reducible refine swp_ret ?_); (try simp only [qseq_r, qblock_r, qloop_r])) | ((with_reducible refine swp_cond rfl (fun h => ?_) (fun h => ?_)) <;> have h' := h <;> (try simp at h') <;> (try subst h')) | ((with_reducible refine sopsg_cases (fun h => ?_) (fun h => ?_)) <;> have h' := h <;> (try simp at h') <;> (try subst h') <;> simp -implicitDefEqProofs [*]) | ((with_reducible refine sopsk_rg ?_ ?_); (first | omega | (unfold maxLen; omega)); simp -implicitDefEqProofs [*]) | ((first | refine call_q (hc3.out _) ?_ | refine call_q (hc2 _) ?_ | refine call_q (hc1.out _) ?_ | refine call_q (rF_s _ _ _) ?_); simp -implicitDefEqProofs [*]) | (with_reducible first | refine zM hm ?_ | refine zN hm ?_ | refine zO hm ?_ | refine zP hm ?_) | (refine fin_c hm rfl rfl (by rw [hP]; exact agg_fault) (by rw [hP]; exact size_fault) rfl (CoL.refl _) (by rw [hz.out]) (fun σ => rfl)) | fail)
     ·obtain rfl : i = p.tabs.length := by omega
      have hF : F = orF (0, 0) (orF (nodesF p) (outsF p)) := by rw [h2, List.drop_length]; exact z_end _
      clear h2 hi h1 hJ
      replace hF := Lib.hid hF
      have hS : F = if decide (10 < (p.nodes.length : Int)) = true then (2, -6) else orF (0, 0) (orF (rowF (fun i n => nodeF p i n) 6000 0 (p.nodes.drop 0)) (outsF p)) := by
       rw [hF.out]; unfold nodesF; rw [z_many, show decide (10 < p.nodes.length) = decide (10 < (p.nodes.length : Int)) from decide_eq_decide.2 (by omega)]; rfl
      replace hF := Lib.hid hS
      clear hS
      cases km : decide (10 < (p.nodes.length : Int))
      rotate_left
      ·have hz := hF.out
       rw [km, if_pos rfl] at hz
       replace hz := Lib.hid hz
       repeat' (first | (with_reducible first | refine zA ?_ | refine swp_block1 ?_ | refine swp_block2 ?_ | refine zK ?_) | ((with_reducible first | refine swp_reg ?_ | refine swp_regd (by rw [hP]; exact mixed) ?_); (try rw [hP]); simp -implicitDefEqProofs [*]) | ((with_reducible first | refine swp_skip ?_ | refine swp_exit ?_); (try simp -implicitDefEqProofs [*])) | ((with_reducible refine swp_ret ?_); (try simp only [qseq_r, qblock_r, qloop_r])) | ((with_reducible refine swp_cond rfl (fun h => ?_) (fun h => ?_)) <;> have h' := h <;> (try simp at h') <;> (try subst h')) | ((with_reducible refine sopsg_cases (fun h => ?_) (fun h => ?_)) <;> have h' := h <;> (try simp at h') <;> (try subst h') <;> simp -implicitDefEqProofs [*]) | ((with_reducible refine sopsk_rg ?_ ?_); (first | omega | (unfold maxLen; omega)); simp -implicitDefEqProofs [*]) | (refine call_q (rF_s _ _ _) ?_; simp -implicitDefEqProofs [*]) | (with_reducible first | refine zM hm ?_ | refine zN hm ?_ | refine zO hm ?_ | refine zP hm ?_) | (refine fin_c hm rfl rfl (by rw [hP]; exact agg_fault) (by rw [hP]; exact size_fault) rfl (CoL.refl _) (by rw [hz.out]) (fun σ => rfl)) | fail)
      have hz := hF.out
      rw [km, if_neg Bool.false_ne_true] at hz
      replace hF := Lib.hid hz
      clear hz
      repeat' (first | (with_reducible first | refine zA ?_ | refine swp_block1 ?_ | refine swp_block2 ?_ | refine zK ?_) | ((with_reducible first | refine swp_reg ?_ | refine swp_regd (by rw [hP]; exact mixed) ?_); (try rw [hP]); simp -implicitDefEqProofs [*]) | ((with_reducible first | refine swp_skip ?_ | refine swp_exit ?_); (try simp -implicitDefEqProofs [*])) | ((with_reducible refine swp_ret ?_); (try simp only [qseq_r, qblock_r, qloop_r])) | ((with_reducible refine swp_cond rfl (fun h => ?_) (fun h => ?_)) <;> have h' := h <;> (try simp at h') <;> (try subst h')) | ((with_reducible refine sopsg_cases (fun h => ?_) (fun h => ?_)) <;> have h' := h <;> (try simp at h') <;> (try subst h') <;> simp -implicitDefEqProofs [*]) | ((with_reducible refine sopsk_rg ?_ ?_); (first | omega | (unfold maxLen; omega)); simp -implicitDefEqProofs [*]) | (with_reducible first | refine zM hm ?_ | refine zN hm ?_ | refine zO hm ?_ | refine zP hm ?_) | fail)
      clear km
      refine swp_block (swp_for (fun s (i : Nat) => s.turn [(15, .int .i64 i)] []) (fun i => i ≤ p.nodes.length ∧ F = orF (0, 0) (orF (rowF (fun i n => nodeF p i n) 6000 i (p.nodes.drop i)) (outsF p))) (fun i => p.nodes.length - i) 0 ?_ ⟨by simp, hF.out⟩ ?_)
      ·repeat' (first | ((with_reducible refine wk_self [] hm ?_ ?_ ?_ ?_) <;> (try simp only [zT, puth, Nat.reduceEqDiff, reduceIte, Nat.reduceAdd])) | (with_reducible first | refine za ?_ ?_ | refine zb ?_ ?_ ?_ ?_ | refine zc ?_ ?_ ?_ ?_ | refine zd ?_ ?_ ?_ ?_ | refine objsM_abs ?_ ?_ | refine subH_cons ?_ ?_) | (with_reducible first | exact slotsM_nil | exact objsM_nil | exact subH_nil | exact coL_nilm | exact Co.refl _ | exact CoL.refl _ | exact CoLL.refl _) | ((with_reducible first | refine zga ?_ | refine zgb ?_); rfl) | ((with_reducible refine zgc ?_); (first | (with_reducible rfl) | rfl | (simp; done))) | ((with_reducible first | refine zgd ?_ | refine zge ?_); (first | omega | (simp; done))) | (refine co_wrap ⟨?_, ?_⟩ ?_ <;> omega) | (exact Co.refl _) | (exact CoL.refl _) | (exact CoLL.refl _) | (refine co_own ?_; omega) | (refine co_int ?_; first | omega | (simp_all; done)) | (with_reducible first | refine coL_cons ?_ ?_ | refine coL_consm ?_ ?_) | fail)
      rintro J hJ i ⟨h1, h2⟩
      unfold c_rform_l6
      simp only [zT, puth, Nat.reduceEqDiff, reduceIte, Nat.reduceAdd] at h1 h2 ⊢
      clear hF
      rcases Nat.lt_or_ge i p.nodes.length with hi | hi
      ·rw [z_row _ _ hi] at h2
       have hxm : p.nodes[i] ∈ p.nodes := List.getElem_mem hi
       have wi : IntKind.i64.wrap ((i : Int) + 1) = (i : Int) + 1 := i64_add_ (by omega) (by omega)
       have wa : IntKind.i64.wrap (6000 + (i : Int)) = 6000 + (i : Int) := i64_add_ (by omega) (by omega)
       have hct := fun q => rnode_s p i hi (by omega) (by have := hs.node _ hxm; omega) q
       generalize hxx : p.nodes[i] = x at h2 hct hxm
       generalize nodeF p i x = E at h2 hct
       replace h2 := Lib.hid h2
       replace hct := Lib.hid hct
       cases kE : (E != 0)
       ·have kE' : ¬ E ≠ 0 := by simpa using kE
        replace kE' := Lib.hid kE'
        repeat' (first | (with_reducible first | refine zA ?_ | refine swp_block1 ?_ | refine swp_block2 ?_ | refine zK ?_) | ((with_reducible first | refine swp_reg ?_ | refine swp_regd (by rw [hP]; exact mixed) ?_); (try rw [hP]); simp -implicitDefEqProofs [*]) | ((with_reducible first | refine swp_skip ?_ | refine swp_exit ?_); (try simp -implicitDefEqProofs [*])) | ((with_reducible refine swp_ret ?_); (try simp only [qseq_r, qblock_r, qloop_r])) | ((with_reducible refine swp_cond rfl (fun h => ?_) (fun h => ?_)) <;> have h' := h <;> (try simp at h') <;> (try subst h')) | ((with_reducible refine sopsg_cases (fun h => ?_) (fun h => ?_)) <;> have h' := h <;> (try simp at h') <;> (try subst h') <;> simp -implicitDefEqProofs [*]) | ((with_reducible refine sopsk_rg ?_ ?_); (first | omega | (unfold maxLen; omega)); simp -implicitDefEqProofs [*]) | (refine call_q (hct.out _) ?_; simp -implicitDefEqProofs [*]) | (with_reducible first | refine zM hm ?_ | refine zN hm ?_ | refine zO hm ?_ | refine zP hm ?_) | ((with_reducible refine wk_self [] hm ?_ ?_ ?_ ?_) <;> (try simp only [zT, puth, Nat.reduceEqDiff, reduceIte, Nat.reduceAdd])) | (with_reducible first | refine za ?_ ?_ | refine zb ?_ ?_ ?_ ?_ | refine zc ?_ ?_ ?_ ?_ | refine zd ?_ ?_ ?_ ?_ | refine objsM_abs ?_ ?_ | refine subH_cons ?_ ?_) | (with_reducible first | exact slotsM_nil | exact objsM_nil | exact subH_nil | exact coL_nilm | exact Co.refl _ | exact CoL.refl _ | exact CoLL.refl _) | ((with_reducible first | refine zga ?_ | refine zgb ?_); rfl) | ((with_reducible refine zgc ?_); (first | (with_reducible rfl) | rfl | (simp; done))) | ((with_reducible first | refine zgd ?_ | refine zge ?_); (first | omega | (simp; done))) | (refine co_wrap ⟨?_, ?_⟩ ?_ <;> omega) | (exact Co.refl _) | (exact CoL.refl _) | (exact CoLL.refl _) | (refine co_own ?_; omega) | (refine co_int ?_; first | omega | (simp_all; done)) | (with_reducible first | refine coL_cons ?_ ?_ | refine coL_consm ?_ ?_) | ((refine qfor_next hJ (i + 1) ?_ ?_ ?_; (with_reducible refine wk_self [] hm ?_ ?_ ?_ ?_) <;> (try simp only [zT, puth, Nat.reduceEqDiff, reduceIte, Nat.reduceAdd]))) | fail)
        exact ⟨by omega, by rw [h2.out, if_neg kE'.out]⟩
       ·have kE' : E ≠ 0 := by simpa using kE
        have hz := h2.out
        rw [if_pos kE'] at hz
        replace kE' := Lib.hid kE'
        replace hz := Lib.hid hz
        repeat' (first | (with_reducible first | refine zA ?_ | refine swp_block1 ?_ | refine swp_block2 ?_ | refine zK ?_) | ((with_reducible first | refine swp_reg ?_ | refine swp_regd (by rw [hP]; exact mixed) ?_); (try rw [hP]); simp -implicitDefEqProofs [*]) | ((with_reducible first | refine swp_skip ?_ | refine swp_exit ?_); (try simp -implicitDefEqProofs [*])) | ((with_reducible refine swp_ret ?_); (try simp only [qseq_r, qblock_r, qloop_r])) | ((with_reducible refine swp_cond rfl (fun h => ?_) (fun h => ?_)) <;> have h' := h <;> (try simp at h') <;> (try subst h')) | ((with_reducible refine sopsg_cases (fun h => ?_) (fun h => ?_)) <;> have h' := h <;> (try simp at h') <;> (try subst h') <;> simp -implicitDefEqProofs [*]) | ((with_reducible refine sopsk_rg ?_ ?_); (first | omega | (unfold maxLen; omega)); simp -implicitDefEqProofs [*]) | ((first | refine call_q (hct.out _) ?_ | refine call_q (rF_s _ _ _) ?_); simp -implicitDefEqProofs [*]) | (with_reducible first | refine zM hm ?_ | refine zN hm ?_ | refine zO hm ?_ | refine zP hm ?_) | (refine fin_c hm rfl rfl (by rw [hP]; exact agg_fault) (by rw [hP]; exact size_fault) rfl (CoL.refl _) (by rw [hz.out]) (fun σ => rfl)) | fail)
      ·obtain rfl : i = p.nodes.length := by omega
       have hF : F = orF (0, 0) (outsF p) := by rw [h2, List.drop_length]; exact z_end _
       clear h2 hi h1 hJ
       replace hF := Lib.hid hF
       have hS : F = if decide (6 < (p.out.length : Int)) = true then (2, -7) else orF (0, 0) (orF (rowF (fun i o => outF p i o) 7000 0 (p.out.drop 0)) (0, 0)) := by
        rw [hF.out, z_last]; unfold outsF; rw [z_many, show decide (6 < p.out.length) = decide (6 < (p.out.length : Int)) from decide_eq_decide.2 (by omega)]; rfl
       replace hF := Lib.hid hS
       clear hS
       cases km : decide (6 < (p.out.length : Int))
       rotate_left
       ·have hz := hF.out
        rw [km, if_pos rfl] at hz
        replace hz := Lib.hid hz
        repeat' (first | (with_reducible first | refine zA ?_ | refine swp_block1 ?_ | refine swp_block2 ?_ | refine zK ?_) | ((with_reducible first | refine swp_reg ?_ | refine swp_regd (by rw [hP]; exact mixed) ?_); (try rw [hP]); simp -implicitDefEqProofs [*]) | ((with_reducible first | refine swp_skip ?_ | refine swp_exit ?_); (try simp -implicitDefEqProofs [*])) | ((with_reducible refine swp_ret ?_); (try simp only [qseq_r, qblock_r, qloop_r])) | ((with_reducible refine swp_cond rfl (fun h => ?_) (fun h => ?_)) <;> have h' := h <;> (try simp at h') <;> (try subst h')) | ((with_reducible refine sopsg_cases (fun h => ?_) (fun h => ?_)) <;> have h' := h <;> (try simp at h') <;> (try subst h') <;> simp -implicitDefEqProofs [*]) | ((with_reducible refine sopsk_rg ?_ ?_); (first | omega | (unfold maxLen; omega)); simp -implicitDefEqProofs [*]) | (refine call_q (rF_s _ _ _) ?_; simp -implicitDefEqProofs [*]) | (with_reducible first | refine zM hm ?_ | refine zN hm ?_ | refine zO hm ?_ | refine zP hm ?_) | (refine fin_c hm rfl rfl (by rw [hP]; exact agg_fault) (by rw [hP]; exact size_fault) rfl (CoL.refl _) (by rw [hz.out]) (fun σ => rfl)) | fail)
       have hz := hF.out
       rw [km, if_neg Bool.false_ne_true] at hz
       replace hF := Lib.hid hz
       clear hz
       repeat' (first | (with_reducible first | refine zA ?_ | refine swp_block1 ?_ | refine swp_block2 ?_ | refine zK ?_) | ((with_reducible first | refine swp_reg ?_ | refine swp_regd (by rw [hP]; exact mixed) ?_); (try rw [hP]); simp -implicitDefEqProofs [*]) | ((with_reducible first | refine swp_skip ?_ | refine swp_exit ?_); (try simp -implicitDefEqProofs [*])) | ((with_reducible refine swp_ret ?_); (try simp only [qseq_r, qblock_r, qloop_r])) | ((with_reducible refine swp_cond rfl (fun h => ?_) (fun h => ?_)) <;> have h' := h <;> (try simp at h') <;> (try subst h')) | ((with_reducible refine sopsg_cases (fun h => ?_) (fun h => ?_)) <;> have h' := h <;> (try simp at h') <;> (try subst h') <;> simp -implicitDefEqProofs [*]) | ((with_reducible refine sopsk_rg ?_ ?_); (first | omega | (unfold maxLen; omega)); simp -implicitDefEqProofs [*]) | (with_reducible first | refine zM hm ?_ | refine zN hm ?_ | refine zO hm ?_ | refine zP hm ?_) | fail)
       clear km
       refine swp_block (swp_for (fun s (i : Nat) => s.turn [(17, .int .i64 i)] []) (fun i => i ≤ p.out.length ∧ F = orF (0, 0) (orF (rowF (fun i o => outF p i o) 7000 i (p.out.drop i)) (0, 0))) (fun i => p.out.length - i) 0 ?_ ⟨by simp, hF.out⟩ ?_)
       ·repeat' (first | ((with_reducible refine wk_self [] hm ?_ ?_ ?_ ?_) <;> (try simp only [zT, puth, Nat.reduceEqDiff, reduceIte, Nat.reduceAdd])) | (with_reducible first | refine za ?_ ?_ | refine zb ?_ ?_ ?_ ?_ | refine zc ?_ ?_ ?_ ?_ | refine zd ?_ ?_ ?_ ?_ | refine objsM_abs ?_ ?_ | refine subH_cons ?_ ?_) | (with_reducible first | exact slotsM_nil | exact objsM_nil | exact subH_nil | exact coL_nilm | exact Co.refl _ | exact CoL.refl _ | exact CoLL.refl _) | ((with_reducible first | refine zga ?_ | refine zgb ?_); rfl) | ((with_reducible refine zgc ?_); (first | (with_reducible rfl) | rfl | (simp; done))) | ((with_reducible first | refine zgd ?_ | refine zge ?_); (first | omega | (simp; done))) | (refine co_wrap ⟨?_, ?_⟩ ?_ <;> omega) | (exact Co.refl _) | (exact CoL.refl _) | (exact CoLL.refl _) | (refine co_own ?_; omega) | (refine co_int ?_; first | omega | (simp_all; done)) | (with_reducible first | refine coL_cons ?_ ?_ | refine coL_consm ?_ ?_) | fail)
       rintro J hJ i ⟨h1, h2⟩
       unfold c_rform_l7
       simp only [zT, puth, Nat.reduceEqDiff, reduceIte, Nat.reduceAdd] at h1 h2 ⊢
       clear hF
       rcases Nat.lt_or_ge i p.out.length with hi | hi
       ·rw [z_row _ _ hi] at h2
        have hxm : p.out[i] ∈ p.out := List.getElem_mem hi
        have wi : IntKind.i64.wrap ((i : Int) + 1) = (i : Int) + 1 := i64_add_ (by omega) (by omega)
        have wa : IntKind.i64.wrap (7000 + (i : Int)) = 7000 + (i : Int) := i64_add_ (by omega) (by omega)
        have hc2 := fun q => rin_s (p.out.take i) p.out[i] (by rw [List.length_take]; omega) q
        simp only [nums, List.map_take] at hc2
        have hc1 := fun q => rhead_s p p.out[i] q
        generalize hxx : p.out[i] = x at h2 hc1 hc2 hxm
        unfold outF at h2
        generalize (p.out.take i).contains x = C at h2 hc2
        generalize isHead p x = H at h2 hc1
        have hi' := Nat.le_of_lt hi
        replace h2 := Lib.hid h2
        cases kH : H <;> rw [kH] at hc1
        ·have hz : F = (1, 7000 + (i : Int)) := by have := h2.out; rw [kH] at this; exact this
         replace hz := Lib.hid hz
         repeat' (first | (with_reducible first | refine zA ?_ | refine swp_block1 ?_ | refine swp_block2 ?_ | refine zK ?_) | ((with_reducible first | refine swp_reg ?_ | refine swp_regd (by rw [hP]; exact mixed) ?_); (try rw [hP]); simp -implicitDefEqProofs [*]) | ((with_reducible first | refine swp_skip ?_ | refine swp_exit ?_); (try simp -implicitDefEqProofs [*])) | ((with_reducible refine swp_ret ?_); (try simp only [qseq_r, qblock_r, qloop_r])) | ((with_reducible refine swp_cond rfl (fun h => ?_) (fun h => ?_)) <;> have h' := h <;> (try simp at h') <;> (try subst h')) | ((with_reducible refine sopsg_cases (fun h => ?_) (fun h => ?_)) <;> have h' := h <;> (try simp at h') <;> (try subst h') <;> simp -implicitDefEqProofs [*]) | ((with_reducible refine sopsk_rg ?_ ?_); (first | omega | (unfold maxLen; omega)); simp -implicitDefEqProofs [*]) | ((first | refine call_q (hc1 _) ?_ | refine call_q (rF_s _ _ _) ?_); simp -implicitDefEqProofs [*]) | (with_reducible first | refine zM hm ?_ | refine zN hm ?_ | refine zO hm ?_ | refine zP hm ?_) | (refine fin_c hm rfl rfl (by rw [hP]; exact agg_fault) (by rw [hP]; exact size_fault) rfl (CoL.refl _) (by rw [hz.out]) (fun σ => rfl)) | fail)
        cases kC : C <;> rw [kC] at hc2
        ·repeat' (first | (with_reducible first | refine zA ?_ | refine swp_block1 ?_ | refine swp_block2 ?_ | refine zK ?_) | ((with_reducible first | refine swp_reg ?_ | refine swp_regd (by rw [hP]; exact mixed) ?_); (try rw [hP]); simp -implicitDefEqProofs [*]) | ((with_reducible first | refine swp_skip ?_ | refine swp_exit ?_); (try simp -implicitDefEqProofs [*])) | ((with_reducible refine swp_ret ?_); (try simp only [qseq_r, qblock_r, qloop_r])) | ((with_reducible refine swp_cond rfl (fun h => ?_) (fun h => ?_)) <;> have h' := h <;> (try simp at h') <;> (try subst h')) | ((with_reducible refine sopsg_cases (fun h => ?_) (fun h => ?_)) <;> have h' := h <;> (try simp at h') <;> (try subst h') <;> simp -implicitDefEqProofs [*]) | ((with_reducible refine sopsk_rg ?_ ?_); (first | omega | (unfold maxLen; omega)); simp -implicitDefEqProofs [*]) | ((first | refine call_q (hc1 _) ?_ | refine call_q (hc2 _) ?_); simp -implicitDefEqProofs [*]) | (with_reducible first | refine zM hm ?_ | refine zN hm ?_ | refine zO hm ?_ | refine zP hm ?_) | ((with_reducible refine wk_self [] hm ?_ ?_ ?_ ?_) <;> (try simp only [zT, puth, Nat.reduceEqDiff, reduceIte, Nat.reduceAdd])) | (with_reducible first | refine za ?_ ?_ | refine zb ?_ ?_ ?_ ?_ | refine zc ?_ ?_ ?_ ?_ | refine zd ?_ ?_ ?_ ?_ | refine objsM_abs ?_ ?_ | refine subH_cons ?_ ?_) | (with_reducible first | exact slotsM_nil | exact objsM_nil | exact subH_nil | exact coL_nilm | exact Co.refl _ | exact CoL.refl _ | exact CoLL.refl _) | ((with_reducible first | refine zga ?_ | refine zgb ?_); rfl) | ((with_reducible refine zgc ?_); (first | (with_reducible rfl) | rfl | (simp; done))) | ((with_reducible first | refine zgd ?_ | refine zge ?_); (first | omega | (simp; done))) | (refine co_wrap ⟨?_, ?_⟩ ?_ <;> omega) | (exact Co.refl _) | (exact CoL.refl _) | (exact CoLL.refl _) | (refine co_own ?_; omega) | (refine co_int ?_; first | omega | (simp_all; done)) | (with_reducible first | refine coL_cons ?_ ?_ | refine coL_consm ?_ ?_) | ((refine qfor_next hJ (i + 1) ?_ ?_ ?_; (with_reducible refine wk_self [] hm ?_ ?_ ?_ ?_) <;> (try simp only [zT, puth, Nat.reduceEqDiff, reduceIte, Nat.reduceAdd]))) | fail)
         exact ⟨by omega, by have := h2.out; rw [kH, kC] at this; exact this⟩
        ·have hz : F = (7, 7000 + (i : Int)) := by have := h2.out; rw [kH, kC] at this; exact this
         replace hz := Lib.hid hz
         repeat' (first | (with_reducible first | refine zA ?_ | refine swp_block1 ?_ | refine swp_block2 ?_ | refine zK ?_) | ((with_reducible first | refine swp_reg ?_ | refine swp_regd (by rw [hP]; exact mixed) ?_); (try rw [hP]); simp -implicitDefEqProofs [*]) | ((with_reducible first | refine swp_skip ?_ | refine swp_exit ?_); (try simp -implicitDefEqProofs [*])) | ((with_reducible refine swp_ret ?_); (try simp only [qseq_r, qblock_r, qloop_r])) | ((with_reducible refine swp_cond rfl (fun h => ?_) (fun h => ?_)) <;> have h' := h <;> (try simp at h') <;> (try subst h')) | ((with_reducible refine sopsg_cases (fun h => ?_) (fun h => ?_)) <;> have h' := h <;> (try simp at h') <;> (try subst h') <;> simp -implicitDefEqProofs [*]) | ((with_reducible refine sopsk_rg ?_ ?_); (first | omega | (unfold maxLen; omega)); simp -implicitDefEqProofs [*]) | ((first | refine call_q (hc1 _) ?_ | refine call_q (hc2 _) ?_ | refine call_q (rF_s _ _ _) ?_); simp -implicitDefEqProofs [*]) | (with_reducible first | refine zM hm ?_ | refine zN hm ?_ | refine zO hm ?_ | refine zP hm ?_) | (refine fin_c hm rfl rfl (by rw [hP]; exact agg_fault) (by rw [hP]; exact size_fault) rfl (CoL.refl _) (by rw [hz.out]) (fun σ => rfl)) | fail)
       ·obtain rfl : i = p.out.length := by omega
        have hz : F = (0, 0) := by rw [h2, List.drop_length]; rfl
        clear h2
        replace hz := Lib.hid hz
        repeat' (first | (with_reducible first | refine zA ?_ | refine swp_block1 ?_ | refine swp_block2 ?_ | refine zK ?_) | ((with_reducible first | refine swp_reg ?_ | refine swp_regd (by rw [hP]; exact mixed) ?_); (try rw [hP]); simp -implicitDefEqProofs [*]) | ((with_reducible first | refine swp_skip ?_ | refine swp_exit ?_); (try simp -implicitDefEqProofs [*])) | ((with_reducible refine swp_ret ?_); (try simp only [qseq_r, qblock_r, qloop_r])) | ((with_reducible refine swp_cond rfl (fun h => ?_) (fun h => ?_)) <;> have h' := h <;> (try simp at h') <;> (try subst h')) | ((with_reducible refine sopsg_cases (fun h => ?_) (fun h => ?_)) <;> have h' := h <;> (try simp at h') <;> (try subst h') <;> simp -implicitDefEqProofs [*]) | ((with_reducible refine sopsk_rg ?_ ?_); (first | omega | (unfold maxLen; omega)); simp -implicitDefEqProofs [*]) | (with_reducible first | refine zM hm ?_ | refine zN hm ?_ | refine zO hm ?_ | refine zP hm ?_) | (refine fin_c hm rfl rfl (by rw [hP]; exact agg_fault) (by rw [hP]; exact size_fault) rfl (CoL.refl _) (by rw [hz.out]) (fun σ => rfl)) | fail)
end Go.Proofs.Ytnfjldobjgdiaaa
namespace Go.Proofs.Ytnfjldobjgdiaaa
set_option linter.all false
open Go.RowKit
variable {w : World} {ρ : Plan_} {fp : Nat → Nat → Prop} {O : Nat → Prop} {h1 : Hp}
theorem live_nil (k : Nat) : ¬ Live [] fp k := fun ⟨_, _, h, _⟩ => by cases h
def Lent (h1 : Hp) (x y : SV) : Prop := ∀ (O : Nat → Prop) (ρ : Plan_) (fp : Nat → Nat → Prop) (w : World) (v : Value), HeapOk O ρ fp h1 w → RepV w (fun k => O k ∨ Live h1 fp k) ρ x v → RepV w (fun k => O k ∨ Live [] fp k) ρ y v
def LentL (h1 : Hp) : List SV → List SV → Prop
 | [], [] => True
 | x :: xs, y :: ys => Lent h1 x y ∧ LentL h1 xs ys
 | _, _ => False
theorem lent_av {k : Nat} : (O k ∨ Live [] fp k) → O k ∨ Live h1 fp k := fun hk => hk.elim .inl fun h => absurd h (live_nil k)
theorem lent_refl (x : SV) : Lent h1 x x := fun _ _ _ _ _ _ hx => hx.weaken fun _ hk _ => lent_av hk
theorem lentL_length : ∀ {xs ys}, LentL h1 xs ys → xs.length = ys.length
 | [], [], _ => rfl
 | _ :: _, _ :: _, h => by simp [lentL_length h.2]
 | [], _ :: _, h => h.elim
 | _ :: _, [], h => h.elim
theorem lentL_get : ∀ {xs ys : List SV} {j : Nat} {y : SV}, LentL h1 xs ys → ys[j]? = some y → ∃ x, xs[j]? = some x ∧ Lent h1 x y
 | x :: xs, y :: ys, 0, _, h, hy => by cases hy; exact ⟨x, rfl, h.1⟩
 | x :: xs, y :: ys, j + 1, _, h, hy => lentL_get (xs := xs) (ys := ys) (j := j) h.2 (by simpa using hy)
 | [], [], _, _, _, hy => by simp at hy
 | [], _ :: _, _, _, h, _ => h.elim
 | _ :: _, [], _, _, h, _ => h.elim
theorem lent_agg {cs ds : List SV} (h : LentL h1 cs ds) : Lent h1 (.agg cs) (.agg ds) := fun O ρ fp w v hok hx => by
 cases hx with
 | agg ho hl hh =>
  refine .agg ho (by rw [← lentL_length h]; exact hl) fun j y v hy hv => ?_
  obtain ⟨x, h1, h2⟩ := lentL_get h hy
  exact h2 O ρ fp w v hok (hh j x v h1 hv)
theorem lent_row {id z e : Nat} {es : List (List SV)} (ho : geth h1 id = some (.row e z es)) (hp : ∀ e ∈ es, PureL e) {n : Nat} (hn : n = es.length) : Lent h1 (.own id n) (.view z es) := fun O ρ fp w v hok hx => by
 subst hn
 obtain ⟨v0, us, how, ⟨hrep, huo⟩, hzs, hρ', hfp⟩ := hok.objs id _ ho
 generalize hn : es.length = n at hx
 cases hx with
 | own0 hρ => rw [List.eq_nil_of_length_eq_zero hn]; exact .view0 (by simp [maxLen]) (fun _ => rfl)
 | own hρ hnc hm =>
  rename_i b c
  rw [hρ] at hρ'
  have hp0 : placeOf v0 = some (b, c) := (Option.some.inj hρ').symm
  obtain ⟨hv0, hcell, hlt, _, _⟩ := row_cells how hp0
  have hown : fp id b := (hfp b).2 (by rw [hv0]; rfl)
  have hval : ∀ i e j x, es[i]? = some e → e[j]? = some x → ∃ u, us[i * z + j]? = some u ∧ RepV w (fun k => O k ∨ Live h1 fp k) ρ x u := fun i e j x he hx => hrep.get (flat_get hzs he hx)
  refine .view (fun i j => us.getD (i * z + j) undef) hn hnc hm (fun hO => hO.elim (hok.lt b ⟨id, _, ho, hown⟩).2 (live_nil b)) hlt hzs (fun i e j x he hx => ?_) (fun i e j x he hx => ?_) (fun i e j x he hx => ?_)
  ·obtain ⟨u, h1, h2⟩ := hval i e j x he hx
   rw [Nat.zero_add, List.getD_eq_getElem?_getD, h1]
   exact hcell _ _ h1
  ·obtain ⟨u, h1, h2⟩ := hval i e j x he hx
   rw [List.getD_eq_getElem?_getD, h1]
   exact (hp e (List.mem_of_getElem? he) x (List.mem_of_getElem? hx) _ _ _ _ h2).weaken fun k hk _ => lent_av hk
  ·obtain ⟨u, h1, h2⟩ := hval i e j x he hx
   rw [List.getD_eq_getElem?_getD, h1]
   exact huo u (List.mem_of_getElem? h1)
def CleanV (x : SV) : Prop := ∀ w A A' ρ v, RepV w A ρ x v → RepV w A' ρ x v
theorem clean_int (k : IntKind) (n : Int) : CleanV (.int k n) := fun w A A' ρ v h => by cases h; exact .int
def CleanL (cs : List SV) : Prop := ∀ x ∈ cs, CleanV x
theorem cleanL_nil : CleanL [] := fun x hx => by cases hx
theorem cleanL_cons {x : SV} {cs : List SV} (h : CleanV x) (hs : CleanL cs) : CleanL (x :: cs) := fun y hy => by
 rcases List.mem_cons.1 hy with e | e
 ·rw [e]; exact h
 ·exact hs y e
theorem clean_reps {A A' : Nat → Prop} {cs : List SV} {vs : List Value} (hc : CleanL cs) (h : Reps w A ρ cs vs) : Reps w A' ρ cs vs :=
 ⟨h.1, fun j x v hx hv => hc x (List.mem_of_getElem? hx) _ _ _ _ _ (h.2 j x v hx hv)⟩
theorem clean_agg {cs : List SV} (hc : CleanL cs) : CleanV (.agg cs) := fun w A A' ρ v h => by
 cases h with
 | agg ho hl hh => exact .agg ho hl fun j x v hx hv => hc x (List.mem_of_getElem? hx) _ _ _ _ _ (hh j x v hx hv)
def CleanO : SObj → Prop
 | .cells _ cs => CleanL cs
 | .row _ _ es => ∀ e ∈ es, CleanL e
 | .abs _ => False
theorem clean_obj {A A' : Nat → Prop} {id : Nat} {F : Nat → Prop} {o : SObj} (hc : CleanO o) (h : ObjRep w A ρ id F o) : ObjRep w A' ρ id F o := by
 cases o with
 | cells t cs =>
  obtain ⟨b, c, vs, q1, q2, ⟨q3, q4⟩, q5⟩ := h
  exact ⟨b, c, vs, q1, q2, ⟨clean_reps hc q3, q4⟩, q5⟩
 | row e z es =>
  obtain ⟨v, vs, q1, ⟨q2, q3⟩, q4, q5, q6⟩ := h
  exact ⟨v, vs, q1, ⟨clean_reps (fun x hx => by obtain ⟨e, he, hx⟩ := List.mem_flatten.1 hx; exact hc e he x hx) q2, q3⟩, q4, q5, q6⟩
 | abs I => exact hc.elim
theorem geth_append (h1 h2 : Hp) (id : Nat) : geth (h1 ++ h2) id = match geth h1 id with | some o => some o | none => geth h2 id := by
 induction h1 with
 | nil => rfl
 | cons p h1 ih =>
  obtain ⟨i, o⟩ := p
  rw [List.cons_append]
  simp only [geth]
  split
  ·rfl
  ·exact ih
theorem scalls_lend {P : Program} {f : FuncId} {args args' : List SV} {h1 h2 : Hp} {q : Nat} {r : SV} (h : SCalls P f args' [] q r h2) (ha : LentL h1 args args') (hr : CleanV r) (hc : ∀ id o, geth h2 id = some o → CleanO o)
  (hd : ∀ id, geth h1 id ≠ none → geth h2 id = none) : SCalls P f args h1 q r (h1 ++ h2) := by
 refine ⟨h.ent, fun O ρ fp w vs hok hargs hfr => ?_⟩
 have hargs' : Reps w (fun k => O k ∨ Live [] fp k) ρ args' vs := by
  refine ⟨by rw [← lentL_length ha]; exact hargs.1, fun j y v hy hv => ?_⟩
  obtain ⟨x, h1, h2⟩ := lentL_get ha hy
  exact h2 O ρ fp w v hok (hargs.2 j x v h1 hv)
 refine (h.does O ρ fp w vs ⟨fun id o ho => (by cases ho), fun id id' o o' _ ho => (by cases ho), fun k hk => absurd hk (live_nil k), hok.O_lt⟩ hargs' hfr).mono ?_
 rintro e w' ⟨v, ρ', fp', rfl, hk, hv, hst, hρ, hnew, hfp⟩
 have hst' : ∀ S : Nat → Prop, Step S w w' := fun S => hst.mono fun k hk => absurd hk (live_nil k)
 have hbig : ∀ id o, geth h2 id = some o → ∀ k, fp' id k → w.heap.size ≤ k := fun id o ho k hk => (hfp id o ho k hk).elim (fun h => absurd h (live_nil k)) fun h => h
 have hg : ∀ id o, geth (h1 ++ h2) id = some o → geth h1 id = some o ∧ geth h2 id = none ∨ geth h1 id = none ∧ geth h2 id = some o := fun id o ho => by
  rw [geth_append] at ho
  cases e : geth h1 id with
  | some o' => rw [e] at ho; cases ho; exact .inl ⟨rfl, hd id (by rw [e]; simp)⟩
  | none => rw [e] at ho; exact .inr ⟨rfl, ho⟩
 let F : Nat → Nat → Prop := fun id k => (geth h2 id ≠ none ∧ fp' id k) ∨ (geth h2 id = none ∧ fp id k)
 have F1 : ∀ id, geth h2 id = none → F id = fp id := fun id hn => by funext k; simp [F, hn]
 have F2 : ∀ id o, geth h2 id = some o → F id = fp' id := fun id o hn => by funext k; simp [F, hn]
 have hav : ∀ k, (O k ∨ Live (h1 ++ h2) F k) → k < w.heap.size → O k ∨ Live h1 fp k := by
  rintro k (hO | ⟨id, o, ho, hk'⟩) hlt
  ·exact .inl hO
  ·rcases hg id o ho with ⟨q1, q2⟩ | ⟨q1, q2⟩
   ·rw [F1 id q2] at hk'; exact .inr ⟨id, o, q1, hk'⟩
   ·rw [F2 id o q2] at hk'; exact absurd (hbig id o q2 k hk') (by omega)
 refine ⟨v, ρ', F, rfl, ⟨fun id o ho => ?_, fun id id' o o' hne ho ho' k hk' hk2 => ?_, ?_, hk.O_lt⟩, hr _ _ _ _ _ hv, hst' _, hρ, hnew, fun id o ho k hk' => ?_⟩
 ·rcases hg id o ho with ⟨q1, q2⟩ | ⟨q1, q2⟩
  ·rw [F1 id q2]
   exact (hok.objs id o q1).mono ⟨hst' _, hav, hρ⟩ fun k hk' => hst.block k (hok.lt k ⟨id, o, q1, hk'⟩).1 (live_nil k)
  ·rw [F2 id o q2]
   exact clean_obj (hc id o q2) (hk.objs id o q2)
 ·rcases hg id o ho with ⟨q1, q2⟩ | ⟨q1, q2⟩ <;> rcases hg id' o' ho' with ⟨q3, q4⟩ | ⟨q3, q4⟩
  ·rw [F1 id q2] at hk'; rw [F1 id' q4] at hk2; exact hok.disj id id' o o' hne q1 q3 k hk' hk2
  ·rw [F1 id q2] at hk'; rw [F2 id' o' q4] at hk2
   have := (hok.lt k ⟨id, o, q1, hk'⟩).1; have := hbig id' o' q4 k hk2; omega
  ·rw [F2 id o q2] at hk'; rw [F1 id' q4] at hk2
   have := (hok.lt k ⟨id', o', q3, hk2⟩).1; have := hbig id o q2 k hk'; omega
  ·rw [F2 id o q2] at hk'; rw [F2 id' o' q4] at hk2; exact hk.disj id id' o o' hne q2 q4 k hk' hk2
 ·rintro k ⟨id, o, ho, hk'⟩
  rcases hg id o ho with ⟨q1, q2⟩ | ⟨q1, q2⟩
  ·rw [F1 id q2] at hk'
   have := hok.lt k ⟨id, o, q1, hk'⟩
   exact ⟨Nat.lt_of_lt_of_le this.1 hst.size, this.2⟩
  ·rw [F2 id o q2] at hk'
   exact hk.lt k ⟨id, o, q2, hk'⟩
 ·rcases hg id o ho with ⟨q1, q2⟩ | ⟨q1, q2⟩
  ·rw [F1 id q2] at hk'; exact .inl ⟨id, o, q1, hk'⟩
  ·rw [F2 id o q2] at hk'; exact .inr (hbig id o q2 k hk')
theorem scalls_look {P : Program} {f : FuncId} {args args' : List SV} {h1 : Hp} {q : Nat} {r : SV} (h : SCalls P f args' [] q r []) (ha : LentL h1 args args') (hr : CleanV r) : SCalls P f args h1 q r h1 := by
 have := scalls_lend h ha hr (fun id o ho => by cases ho) fun _ _ => rfl
 rwa [List.append_nil] at this
end Go.Proofs.Ytnfjldobjgdiaaa
namespace Go.Proofs.Ytnfjldobjgdiaaa
set_option linter.all false
open Go.RowKit
attribute [local simp] sops_nil sops_run sopsk_some sops_call sops_guard sopsg_yes sopsg_tf sopsg_ft sopsg_undef rg_true SOp.run SX.ev putd puts argS upds SOp.touch SSt.keep SSt.skip gets geth puth delh idOf SV.cells? setL fillS fillR sbin eq0 eq1 eqL rowOf qseq_n qseq_e qseq_r qblock_n qblock_r qblock_e qloop_e qloop_r take_map_len FrzOk pureV_int pureV_bool pureV_str pureV_nil pureV_nilsl pureV_view pureV_cp pureL_nil_ pureL_cons_ pureO_row pureO_cells frzS frzH frz frz1 frz0 SlotsM ObjsM ObjM rn ren ren1 ren0 co_self co_int co_own co_view co_nilsl co_agg co_tup CoL coll_self mergeH dels adds idsH okNames
attribute [local simp] headc refc pushc casec statec opc actc tabc nodec planc nums
def begP (e : Int) : PlanD := ⟨[⟨[8]⟩], [], [⟨0, ⟨0, 0⟩, [], e⟩], [], [], [], []⟩
theorem begP_small (e : Int) : SmallP (begP e) := by
 constructor <;> simp [begP]
theorem begP_ok {e : Int} (h : 0 ≤ e ∧ e ≤ 1000) : OkPlan (begP e) := by
 have f : ∀ n : Int, 0 ≤ n ∧ n ≤ 1000 → Fits .i64 n := fun n hn => Fits.of_i64 (by omega) (by omega)
 refine ⟨?_, ?_, ?_, ?_, ?_, ?_, ?_⟩ <;> simp [begP, AllFit, OkState, OkRef]
 ·exact f _ (by omega)
 ·exact ⟨f _ (by omega), f _ h⟩
theorem coL_at : ∀ {xs ys : List SV} {j : Nat} {y : SV}, CoL xs ys → ys[j]? = some y → ∃ x, xs[j]? = some x ∧ Co x y
 | x :: xs, y :: ys, 0, _, h, hy => by cases hy; exact ⟨x, rfl, h.1⟩
 | x :: xs, y :: ys, j + 1, _, h, hy => coL_at (xs := xs) (ys := ys) (j := j) h.2 (by simpa using hy)
 | [], [], _, _, _, hy => by simp at hy
 | [], _ :: _, _, _, h, _ => h.elim
 | _ :: _, [], _, _, h, _ => h.elim
theorem coLL_at : ∀ {xs ys : List (List SV)} {j : Nat} {y : List SV}, CoLL xs ys → ys[j]? = some y → ∃ x, xs[j]? = some x ∧ CoL x y
 | x :: xs, y :: ys, 0, _, h, hy => by cases hy; exact ⟨x, rfl, h.1⟩
 | x :: xs, y :: ys, j + 1, _, h, hy => coLL_at (xs := xs) (ys := ys) (j := j) h.2 (by simpa using hy)
 | [], [], _, _, _, hy => by simp at hy
 | [], _ :: _, _, _, h, _ => h.elim
 | _ :: _, [], _, _, h, _ => h.elim
theorem co_viewl {z : Nat} {xs ys : List (List SV)} (h : CoLL xs ys) : Co (.view z xs) (.view z ys) := fun w A ρ v hv => by
 cases hv with
 | view0 hc ha =>
  have : ys = [] := List.eq_nil_of_length_eq_zero (by rw [← h.length]; rfl)
  subst this; exact .view0 hc ha
 | view cv hn hc hm hA hb hs h1 h2 ho =>
  refine .view cv (by rw [← h.length]; exact hn) hc hm hA hb (h.sizes hs) (fun i e j x he hx => ?_) (fun i e j x he hx => ?_) (fun i e j x he hx => ?_)
  all_goals
   obtain ⟨e', he', hl⟩ := coLL_at h he
   obtain ⟨x', hx', hc'⟩ := coL_at hl hx
  ·exact h1 i e' j x' he' hx'
  ·exact hc' _ _ _ _ (h2 i e' j x' he' hx')
  ·exact ho i e' j x' he' hx'
theorem pf_clean (a b : Int) : CleanV (.agg [.int .i64 a, .int .i64 b]) := clean_agg (cleanL_cons (clean_int _ _) (cleanL_cons (clean_int _ _) cleanL_nil))
theorem begP_look (e : Int) (he : 0 ≤ e ∧ e ≤ 1000) (id q : Nat) : SCalls Try.prog 17 [.agg [.view 1 [[.view 1 [[.int .i64 8]]]], .nilsl, .own id 1, .nilsl, .nilsl, .nilsl, .nilsl]] [(id, .row 65 5 [[.int .i64 0, .int .i64 0, .int .i64 0, .nilsl, .int .i64 e]])] q (.agg [.int .i64 (planF (begP e)).1, .int .i64 (planF (begP e)).2]) [(id, .row 65 5 [[.int .i64 0, .int .i64 0, .int .i64 0, .nilsl, .int .i64 e]])] := by
 have hc : SCalls Try.prog 17 [.agg [.view 1 [[.view 1 [[.int .i64 8]]]], .nilsl, .view 5 [[.int .i64 0, .int .i64 0, .int .i64 0, .nilsl, .int .i64 e]], .nilsl, .nilsl, .nilsl, .nilsl]] [] q (.agg [.int .i64 (planF (begP e)).1, .int .i64 (planF (begP e)).2]) [] := by
  refine scalls_co (pcheck_s (begP e) (begP_small e) (begP_ok he) q) ⟨co_agg ⟨Co.refl _, Co.nilsl 1, ?_, Co.nilsl 2, Co.nilsl 6, Co.nilsl 5, Co.nilsl 1, trivial⟩, trivial⟩
  exact co_viewl ⟨⟨Co.refl _, Co.refl _, Co.refl _, Co.nilsl 3, Co.refl _, trivial⟩, trivial⟩
 have hr : Lent [(id, .row 65 5 [[.int .i64 0, .int .i64 0, .int .i64 0, .nilsl, .int .i64 e]])] (.own id 1) (.view 5 [[.int .i64 0, .int .i64 0, .int .i64 0, .nilsl, .int .i64 e]]) := lent_row (e := 65) (by simp [geth]) (fun x hx => by simp at hx; subst hx; exact pureL_ints _ rfl) rfl
 exact scalls_look hc ⟨lent_agg ⟨lent_refl _, lent_refl _, hr, lent_refl _, lent_refl _, lent_refl _, lent_refl _, trivial⟩, trivial⟩ (pf_clean _ _)
theorem pbegun_s (q : Nat) : SCalls Try.prog 7 [] [] q (.bool true) [] := by
 refine scalls_q ?_ (fun _ => rfl) (fun _ => rfl) rfl q
 refine scalls_of (N := 30) Try.func7 rfl rfl (by kernel_rfl) comp_c_pbegun (by simp) (by repeat' (first | exact trivial | refine And.intro ?_ ?_ | rfl | decide)) (by repeat' (first | exact trivial | refine And.intro ?_ ?_ | rfl | decide)) ?_
 rintro X hP hN hm
 have l1 := begP_look 1000 (by omega)
 have l2 := begP_look 0 (by omega)
 have e1 : planF (begP 1000) = (0, 0) := by decide
 have e2 : planF (begP 0) = (11, 3000) := by decide
 rw [e1] at l1
 rw [e2] at l2
 unfold c_pbegun
 repeat' (first | ((with_reducible refine swp_stop (c := .seq (.reg false c_pbegun_r3 [1, 2]) (.seq (.reg false c_pbegun_r4 [1, 2]) (.seq (.reg false c_pbegun_r5 [0]) .ret))) ?_)) | (with_reducible first | refine zA ?_ | refine swp_block1 ?_ | refine swp_block2 ?_ | refine zK ?_) | ((with_reducible first | refine swp_reg ?_ | refine swp_regd (by rw [hP]; exact mixed) ?_); (try rw [hP]); simp -implicitDefEqProofs [*]) | ((with_reducible first | refine swp_skip ?_ | refine swp_exit ?_); (try simp -implicitDefEqProofs [*])) | ((with_reducible refine swp_ret ?_); (try simp only [qseq_r, qblock_r, qloop_r])) | ((with_reducible refine swp_cond rfl (fun h => ?_) (fun h => ?_)) <;> have h' := h <;> (try simp at h') <;> (try subst h')) | ((with_reducible refine sopsg_cases (fun h => ?_) (fun h => ?_)) <;> have h' := h <;> (try simp at h') <;> (try subst h') <;> simp -implicitDefEqProofs [*]) | ((with_reducible refine sopsk_rg ?_ ?_); (first | omega | (unfold maxLen; omega)); simp -implicitDefEqProofs [*]) | (with_reducible first | refine zM hm ?_ | refine zN hm ?_ | refine zO hm ?_ | refine zP hm ?_) | fail)
 constructor
 refine swp_frz [1] ?_ ?_
 ·simp only [FrzOk, geth, Nat.reduceEqDiff, reduceIte, and_true]; exact fun x hx => by simp at hx; subst hx; exact pureL_ints _ rfl
 simp -implicitDefEqProofs
 refine swp_frz [3] ?_ ?_
 ·simp only [FrzOk, geth, Nat.reduceEqDiff, reduceIte, and_true]; exact fun x hx => by simp at hx; subst hx; exact pureL_ints _ rfl
 simp -implicitDefEqProofs
 have w1 := fun q => scalls_co (call_width0 (begP 0) ⟨0, 0⟩ q) (args := [.agg [.view 1 [[.view 1 [[.int .i64 8]]]], .nilsl, .view 5 [[.int .i64 0, .int .i64 0, .int .i64 0, .nilsl, .int .i64 0]], .nilsl, .nilsl, .nilsl, .nilsl], .agg [.int .i64 0, .int .i64 0], .nilsl]) ⟨co_agg ⟨Co.refl _, Co.nilsl 1, co_viewl ⟨⟨Co.refl _, Co.refl _, Co.refl _, Co.nilsl 3, Co.refl _, trivial⟩, trivial⟩, Co.nilsl 2, Co.nilsl 6, Co.nilsl 5, Co.nilsl 1, trivial⟩, Co.refl _, Co.refl _, trivial⟩
 rw [show widthOf (begP 0) ⟨0, 0⟩ [] = 8 by decide] at w1
 have lw : ∀ id q, SCalls Try.prog 9 [.agg [.view 1 [[.view 1 [[.int .i64 8]]]], .nilsl, .own id 1, .nilsl, .nilsl, .nilsl, .nilsl], .agg [.int .i64 0, .int .i64 0], .nilsl] [(id, .row 65 5 [[.int .i64 0, .int .i64 0, .int .i64 0, .nilsl, .int .i64 0]])] q (.int .i64 8) [(id, .row 65 5 [[.int .i64 0, .int .i64 0, .int .i64 0, .nilsl, .int .i64 0]])] := fun id q => by
  have hr : Lent [(id, .row 65 5 [[.int .i64 0, .int .i64 0, .int .i64 0, .nilsl, .int .i64 0]])] (.own id 1) (.view 5 [[.int .i64 0, .int .i64 0, .int .i64 0, .nilsl, .int .i64 0]]) := lent_row (e := 65) (by simp [geth]) (fun x hx => by simp at hx; subst hx; exact pureL_ints _ rfl) rfl
  exact scalls_look (w1 q) ⟨lent_agg ⟨lent_refl _, lent_refl _, hr, lent_refl _, lent_refl _, lent_refl _, lent_refl _, trivial⟩, lent_refl _, lent_refl _, trivial⟩ (clean_int _ _)
 clear w1
 replace l1 := Lib.hid l1
 replace l2 := Lib.hid l2
 replace lw := Lib.hid lw
 repeat' (first | (with_reducible first | refine zA ?_ | refine swp_block1 ?_ | refine swp_block2 ?_ | refine zK ?_) | ((with_reducible first | refine swp_reg ?_ | refine swp_regd (by rw [hP]; exact mixed) ?_); (try rw [hP]); simp -implicitDefEqProofs [*]) | ((with_reducible first | refine swp_skip ?_ | refine swp_exit ?_); (try simp -implicitDefEqProofs [*])) | ((with_reducible refine swp_ret ?_); (try simp only [qseq_r, qblock_r, qloop_r])) | ((with_reducible refine swp_cond rfl (fun h => ?_) (fun h => ?_)) <;> have h' := h <;> (try simp at h') <;> (try subst h')) | ((with_reducible refine sopsg_cases (fun h => ?_) (fun h => ?_)) <;> have h' := h <;> (try simp at h') <;> (try subst h') <;> simp -implicitDefEqProofs [*]) | ((with_reducible refine sopsk_rg ?_ ?_); (first | omega | (unfold maxLen; omega)); simp -implicitDefEqProofs [*]) | ((first | refine call_r (l1.out _ _) ⟨rfl, trivial⟩ ⟨rfl, trivial⟩ ?_ | refine call_r (l2.out _ _) ⟨rfl, trivial⟩ ⟨rfl, trivial⟩ ?_ | refine call_r (lw.out _ _) ⟨rfl, trivial⟩ ⟨rfl, trivial⟩ ?_); simp -implicitDefEqProofs [*]) | (with_reducible first | refine zM hm ?_ | refine zN hm ?_ | refine zO hm ?_ | refine zP hm ?_) | fail)
 all_goals rfl
end Go.Proofs.Ytnfjldobjgdiaaa
namespace Go.Proofs.Ytnfjldobjgdiaaa
set_option linter.all false
open Go.RowKit Go.ChangeShapes Go.WideShapes
attribute [local simp] sops_nil sops_run sopsk_some sops_call sops_guard sopsg_yes sopsg_tf sopsg_ft sopsg_undef rg_true SOp.run SX.ev putd puts argS upds SOp.touch SSt.keep SSt.skip gets geth puth delh idOf SV.cells? setL fillS fillR sbin eq0 eq1 eqL rowOf qseq_n qseq_e qseq_r qblock_n qblock_r qblock_e qloop_e qloop_r take_map_len FrzOk pureV_int pureV_bool pureV_str pureV_nil pureV_nilsl pureV_view pureV_cp pureL_nil_ pureL_cons_ pureO_row pureO_cells frzS frzH frz frz1 frz0 SlotsM ObjsM ObjM rn ren ren1 ren0 co_self co_int co_own co_view co_nilsl co_agg co_tup CoL coll_self mergeH dels adds idsH okNames
attribute [local simp] headc refc pushc casec statec opc actc tabc nodec planc nums
theorem pchecks_s (p : PlanD) (hk : OkPlan p) (q : Nat) : SCalls Try.prog 4 [.agg (planc p)] [] q (.bool true) [] := by
 refine scalls_q ?_ (fun _ => rfl) (fun _ => rfl) rfl q
 refine scalls_of (N := 26) Try.func4 rfl rfl (by kernel_rfl) comp_c_pchecks (by simp) (by repeat' (first | exact trivial | refine And.intro ?_ ?_ | rfl | decide)) (by repeat' (first | exact trivial | refine And.intro ?_ ?_ | rfl | decide)) ?_
 rintro X hP hN hm
 have hg := fun q => gplan_s p q
 unfold c_pchecks
 cases hG : greatP p <;> rw [hG] at hg
 ·have hs := small_of hG
  have c1 := fun q => pcheck_s p hs hk q
  have c2 := fun q => rform_s p hs q
  generalize planF p = F at c1 c2
  replace c1 := Lib.hid c1
  replace c2 := Lib.hid c2
  replace hs := Lib.hid hs
  replace hk := Lib.hid hk
  repeat' (first | (with_reducible first | refine zA ?_ | refine swp_block1 ?_ | refine swp_block2 ?_ | refine zK ?_) | ((with_reducible first | refine swp_reg ?_ | refine swp_regd (by rw [hP]; exact mixed) ?_); (try rw [hP]); simp -implicitDefEqProofs [*]) | ((with_reducible first | refine swp_skip ?_ | refine swp_exit ?_); (try simp -implicitDefEqProofs [*])) | ((with_reducible refine swp_ret ?_); (try simp only [qseq_r, qblock_r, qloop_r])) | ((with_reducible refine swp_cond rfl (fun h => ?_) (fun h => ?_)) <;> have h' := h <;> (try simp at h') <;> (try subst h')) | ((with_reducible refine sopsg_cases (fun h => ?_) (fun h => ?_)) <;> have h' := h <;> (try simp at h') <;> (try subst h') <;> simp -implicitDefEqProofs [*]) | ((with_reducible refine sopsk_rg ?_ ?_); (first | omega | (unfold maxLen; omega)); simp -implicitDefEqProofs [*]) | ((first | refine call_q (pbegun_s _) ?_ | refine call_q (hg _) ?_ | refine call_q (oplan_s p hs.out _) ?_ | refine call_q (c1.out _) ?_ | refine call_q (c2.out _) ?_ | refine call_q (splan_s p hs.out _) ?_ | refine call_q (pown_s p hs.out _) ?_); simp -implicitDefEqProofs [*]) | (with_reducible first | refine zM hm ?_ | refine zN hm ?_ | refine zO hm ?_ | refine zP hm ?_) | fail)
  all_goals rfl
 ·repeat' (first | (with_reducible first | refine zA ?_ | refine swp_block1 ?_ | refine swp_block2 ?_ | refine zK ?_) | ((with_reducible first | refine swp_reg ?_ | refine swp_regd (by rw [hP]; exact mixed) ?_); (try rw [hP]); simp -implicitDefEqProofs [*]) | ((with_reducible first | refine swp_skip ?_ | refine swp_exit ?_); (try simp -implicitDefEqProofs [*])) | ((with_reducible refine swp_ret ?_); (try simp only [qseq_r, qblock_r, qloop_r])) | ((with_reducible refine swp_cond rfl (fun h => ?_) (fun h => ?_)) <;> have h' := h <;> (try simp at h') <;> (try subst h')) | ((with_reducible refine sopsg_cases (fun h => ?_) (fun h => ?_)) <;> have h' := h <;> (try simp at h') <;> (try subst h') <;> simp -implicitDefEqProofs [*]) | ((with_reducible refine sopsk_rg ?_ ?_); (first | omega | (unfold maxLen; omega)); simp -implicitDefEqProofs [*]) | ((first | refine call_q (pbegun_s _) ?_ | refine call_q (hg _) ?_); simp -implicitDefEqProofs [*]) | (with_reducible first | refine zM hm ?_ | refine zN hm ?_ | refine zO hm ?_ | refine zP hm ?_) | fail)
  all_goals rfl
theorem rep_lay {α : Type} {L : Lay α} {f : α → List SV} (hp : LayP L f) {w : World} {x : α} {cs : Array Value} (h : L.rep NoA w x cs.toList) : RepV w (fun _ => False) noPl (.agg (f x)) (.agg cs) := by
 obtain ⟨h1, h2⟩ := hp NoA w x cs.toList h
 have := RepV.agg (w := w) (A := NoA) (ρ := noPl) (cs := f x) (vs := cs.toList) h2 h1.1 h1.2
 exact this
theorem PlanChecks_law (p : PlanD) (cs : Array Value) (w : World) (h : planLay.rep NoA w p cs.toList) :
  Calls Try.prog 4 #[.agg cs] w fun e w' => e = .returned (.bool true) ∧ Below w.heap.size w w' :=
 law_of (vs := [.agg cs]) (pchecks_s p (layF_plan NoA w p cs.toList h) 0) (Reps.cons (rep_lay layP_plan h) Reps.nil)
end Go.Proofs.Ytnfjldobjgdiaaa
