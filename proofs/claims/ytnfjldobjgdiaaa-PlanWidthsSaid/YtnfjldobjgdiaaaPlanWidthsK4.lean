/-
  Texts joined: XPloB XCplr XPlnR XPlnS XBv XPlnF XPlnG XPlnT XPlnH XPlnI. No condition.
-/
import Derived.Test.YtnfjldobjgdiaaaProg
import Derived.ProofKit
import Derived.Test.YtnfjldobjgdiaaaRows
import Derived.Deep.QuietTactic
import Derived.BigQuiet
import Derived.WalkSmall
import Derived.Handy
import Derived.WalkSpells
import Derived.RegionTactic
import Derived.BigRegion
import Derived.Deep.RegionLaw
import Derived.Test.YtnfjldobjgdiaaaPlanWidthsK3
namespace Go.Proofs.Ytnfjldobjgdiaaa
set_option linter.all false
open Go.RowKit
attribute [local simp] sops_nil sops_run sopsk_some sops_call sops_guard sopsg_yes sopsg_tf sopsg_ft sopsg_undef rg_true SOp.run SX.ev putd puts argS upds SOp.touch SSt.keep SSt.skip gets geth puth delh idOf SV.cells? setL fillS fillR sbin eq0 eq1 eqL rowOf qseq_n qseq_e qseq_r qblock_n qblock_r qblock_e qloop_e qloop_r take_map_len FrzOk pureV_int pureV_bool pureV_str pureV_nil pureV_nilsl pureV_view pureV_cp pureL_nil_ pureL_cons_ pureO_row pureO_cells frzS frzH frz frz1 frz0 SlotsM ObjsM ObjM rn ren ren1 ren0 co_self co_int co_own co_view co_nilsl co_agg co_tup CoL coll_self mergeH dels adds idsH okNames
attribute [local simp] headc refc pushc casec statec opc actc tabc nodec planc nums
def gHead (h : HeadD) : Bool := decide (500 < (h.w.length : Int))
def gState (s : StateD) : Bool := decide (500 < (s.cases_.length : Int))
def gOp (o : OpD) : Bool := decide (500 < (o.e.length : Int))
def gAct (a : ActD) : Bool := decide (500 < (a.w.length : Int)) || decide (50 < (a.ops.length : Int)) || a.ops.any gOp
def gTab (t : TabD) : Bool := decide (500 < (t.keys.length : Int)) || decide (500 < (t.acts.length : Int)) || decide (500 < (t.args.length : Int))
def gNode (n : NodeD) : Bool := decide (500 < (n.e.length : Int))
def gTop (p : PlanD) : Bool := decide (50 < (p.heads.length : Int)) || decide (500 < (p.meta_.length : Int)) || decide (50 < (p.states.length : Int)) || decide (50 < (p.acts.length : Int)) || decide (50 < (p.tabs.length : Int)) || decide (50 < (p.nodes.length : Int)) || decide (500 < (p.out.length : Int))
def greatP (p : PlanD) : Bool := gTop p || (p.heads.any gHead || (p.states.any gState || (p.acts.any gAct || (p.tabs.any gTab || p.nodes.any gNode))))
set_option maxHeartbeats 8000000 in
theorem gplan_s (p : PlanD) (q : Nat) : SCalls Try.prog 8 [.agg (planc p)] [] q (.bool (greatP p)) [] := by
 refine scalls_q ?_ (fun _ => rfl) (fun _ => rfl) rfl q
 refine scalls_of (N := 177) Try.func8 rfl rfl (by kernel_rfl) comp_c_gplan (by simp) (by repeat' (first | exact trivial | refine And.intro ?_ ?_ | rfl | decide)) (by repeat' (first | exact trivial | refine And.intro ?_ ?_ | rfl | decide)) ?_
 rintro X hP hN hm
 unfold c_gplan
 cases hT : gTop p
 ·have hF : greatP p = ((p.heads.drop 0).any gHead || (p.states.any gState || (p.acts.any gAct || (p.tabs.any gTab || p.nodes.any gNode)))) := by unfold greatP; rw [hT]; rfl
  generalize greatP p = F at hF
  have a := hT
  unfold gTop at a
  simp only [Bool.or_eq_false_iff] at a
  obtain ⟨⟨⟨⟨⟨⟨a1, a2⟩, a3⟩, a4⟩, a5⟩, a6⟩, a7⟩ := a
  have b1 := of_decide_eq_false a1
  have b3 := of_decide_eq_false a3
  have b4 := of_decide_eq_false a4
  have b5 := of_decide_eq_false a5
  have b6 := of_decide_eq_false a6
  clear hT
  replace b1 := Lib.hid b1
  replace b3 := Lib.hid b3
  replace b4 := Lib.hid b4
  replace b5 := Lib.hid b5
  replace b6 := Lib.hid b6
  replace hF := Lib.hid hF
  repeat' (first | (with_reducible first | refine zA ?_ | refine swp_block1 ?_ | refine swp_block2 ?_ | refine zK ?_) | ((with_reducible first | refine swp_reg ?_ | refine swp_regd (by rw [hP]; exact mixed) ?_); (try rw [hP]); simp -implicitDefEqProofs [*]) | ((with_reducible first | refine swp_skip ?_ | refine swp_exit ?_); (try simp -implicitDefEqProofs [*])) | ((with_reducible refine swp_ret ?_); (try simp only [qseq_r, qblock_r, qloop_r])) | ((with_reducible refine swp_cond rfl (fun h => ?_) (fun h => ?_)) <;> have h' := h <;> (try simp at h') <;> (try subst h')) | ((with_reducible refine sopsg_cases (fun h => ?_) (fun h => ?_)) <;> have h' := h <;> (try simp at h') <;> (try subst h') <;> simp -implicitDefEqProofs [*]) | ((with_reducible refine sopsk_rg ?_ ?_); (first | omega | (unfold maxLen; omega)); simp -implicitDefEqProofs [*]) | (with_reducible first | refine zM hm ?_ | refine zN hm ?_ | refine zO hm ?_ | refine zP hm ?_) | fail)
  clear a1 a2 a3 a4 a5 a6 a7
  refine swp_block (swp_for (fun s (i : Nat) => s.turn [(3, .int .i64 i)] []) (fun i => i ≤ p.heads.length ∧ F = ((p.heads.drop i).any gHead || (p.states.any gState || (p.acts.any gAct || (p.tabs.any gTab || p.nodes.any gNode))))) (fun i => p.heads.length - i) 0 ?_ ⟨by simp, hF.out⟩ ?_)
  ·repeat' (first | ((with_reducible refine wk_self [] hm ?_ ?_ ?_ ?_) <;> (try simp only [zT, puth, Nat.reduceEqDiff, reduceIte, Nat.reduceAdd])) | (with_reducible first | refine za ?_ ?_ | refine zb ?_ ?_ ?_ ?_ | refine zc ?_ ?_ ?_ ?_ | refine zd ?_ ?_ ?_ ?_ | refine objsM_abs ?_ ?_ | refine subH_cons ?_ ?_) | (with_reducible first | exact slotsM_nil | exact objsM_nil | exact subH_nil | exact coL_nilm | exact Co.refl _ | exact CoL.refl _ | exact CoLL.refl _) | ((with_reducible first | refine zga ?_ | refine zgb ?_); rfl) | ((with_reducible refine zgc ?_); (first | (with_reducible rfl) | rfl | (simp; done))) | ((with_reducible first | refine zgd ?_ | refine zge ?_); (first | omega | (simp; done))) | (refine co_wrap ⟨?_, ?_⟩ ?_ <;> omega) | (exact Co.refl _) | (exact CoL.refl _) | (exact CoLL.refl _) | (refine co_own ?_; omega) | (refine co_int ?_; first | omega | (simp_all; done)) | (with_reducible first | refine coL_cons ?_ ?_ | refine coL_consm ?_ ?_) | fail)
  rintro J hJ i ⟨h1, h2⟩
  have hbb := b1.out
  clear hF
  unfold c_gplan_l1
  simp only [zT, puth, Nat.reduceEqDiff, reduceIte, Nat.reduceAdd] at h1 h2 ⊢
  rcases Nat.lt_or_ge i p.heads.length with hi | hi
  ·rw [any_drop _ hi] at h2
   generalize hxx : p.heads[i] = x at h2
   have wi : IntKind.i64.wrap ((i : Int) + 1) = (i : Int) + 1 := i64_add_ (by omega) (by omega)
   cases hv : gHead x <;> rw [hv] at h2 <;> replace h2 := Lib.hid h2 <;> unfold gHead at hv
   ·repeat' (first | (with_reducible first | refine zA ?_ | refine swp_block1 ?_ | refine swp_block2 ?_ | refine zK ?_) | ((with_reducible first | refine swp_reg ?_ | refine swp_regd (by rw [hP]; exact mixed) ?_); (try rw [hP]); simp -implicitDefEqProofs [pushes, *]) | ((with_reducible first | refine swp_skip ?_ | refine swp_exit ?_); (try simp -implicitDefEqProofs [pushes, *])) | ((with_reducible refine swp_ret ?_); (try simp only [qseq_r, qblock_r, qloop_r])) | ((with_reducible refine swp_cond rfl (fun h => ?_) (fun h => ?_)) <;> have h' := h <;> (try simp at h') <;> (try subst h')) | ((with_reducible refine sopsg_cases (fun h => ?_) (fun h => ?_)) <;> have h' := h <;> (try simp at h') <;> (try subst h') <;> simp -implicitDefEqProofs [pushes, *]) | ((with_reducible refine sopsk_rg ?_ ?_); (first | omega | (unfold maxLen; omega)); simp -implicitDefEqProofs [pushes, *]) | (with_reducible first | refine zM hm ?_ | refine zN hm ?_ | refine zO hm ?_ | refine zP hm ?_) | ((with_reducible refine wk_self [] hm ?_ ?_ ?_ ?_) <;> (try simp only [zT, puth, Nat.reduceEqDiff, reduceIte, Nat.reduceAdd])) | (with_reducible first | refine za ?_ ?_ | refine zb ?_ ?_ ?_ ?_ | refine zc ?_ ?_ ?_ ?_ | refine zd ?_ ?_ ?_ ?_ | refine objsM_abs ?_ ?_ | refine subH_cons ?_ ?_) | (with_reducible first | exact slotsM_nil | exact objsM_nil | exact subH_nil | exact coL_nilm | exact Co.refl _ | exact CoL.refl _ | exact CoLL.refl _) | ((with_reducible first | refine zga ?_ | refine zgb ?_); rfl) | ((with_reducible refine zgc ?_); (first | (with_reducible rfl) | rfl | (simp; done))) | ((with_reducible first | refine zgd ?_ | refine zge ?_); (first | omega | (simp; done))) | (refine co_wrap ⟨?_, ?_⟩ ?_ <;> omega) | (exact Co.refl _) | (exact CoL.refl _) | (exact CoLL.refl _) | (refine co_own ?_; omega) | (refine co_int ?_; first | omega | (simp_all; done)) | (with_reducible first | refine coL_cons ?_ ?_ | refine coL_consm ?_ ?_) | ((refine qfor_next hJ (i + 1) ?_ ?_ ?_; (with_reducible refine wk_self [] hm ?_ ?_ ?_ ?_) <;> (try simp only [zT, puth, Nat.reduceEqDiff, reduceIte, Nat.reduceAdd]))) | fail)
    exact ⟨by omega, by rw [h2.out, Bool.false_or]⟩
   ·repeat' (first | (with_reducible first | refine zA ?_ | refine swp_block1 ?_ | refine swp_block2 ?_ | refine zK ?_) | ((with_reducible first | refine swp_reg ?_ | refine swp_regd (by rw [hP]; exact mixed) ?_); (try rw [hP]); simp -implicitDefEqProofs [pushes, *]) | ((with_reducible first | refine swp_skip ?_ | refine swp_exit ?_); (try simp -implicitDefEqProofs [pushes, *])) | ((with_reducible refine swp_ret ?_); (try simp only [qseq_r, qblock_r, qloop_r])) | ((with_reducible refine swp_cond rfl (fun h => ?_) (fun h => ?_)) <;> have h' := h <;> (try simp at h') <;> (try subst h')) | ((with_reducible refine sopsg_cases (fun h => ?_) (fun h => ?_)) <;> have h' := h <;> (try simp at h') <;> (try subst h') <;> simp -implicitDefEqProofs [pushes, *]) | ((with_reducible refine sopsk_rg ?_ ?_); (first | omega | (unfold maxLen; omega)); simp -implicitDefEqProofs [pushes, *]) | (with_reducible first | refine zM hm ?_ | refine zN hm ?_ | refine zO hm ?_ | refine zP hm ?_) | fail)
    rw [h2.out]; rfl
  ·obtain rfl : i = p.heads.length := by omega
   have hF : F = ((p.states.drop 0).any gState || (p.acts.any gAct || (p.tabs.any gTab || p.nodes.any gNode))) := by rw [h2, List.drop_length]; rfl
   clear h2 h1 hi hbb hJ
   replace hF := Lib.hid hF
   repeat' (first | (with_reducible first | refine zA ?_ | refine swp_block1 ?_ | refine swp_block2 ?_ | refine zK ?_) | ((with_reducible first | refine swp_reg ?_ | refine swp_regd (by rw [hP]; exact mixed) ?_); (try rw [hP]); simp -implicitDefEqProofs [*]) | ((with_reducible first | refine swp_skip ?_ | refine swp_exit ?_); (try simp -implicitDefEqProofs [*])) | ((with_reducible refine swp_ret ?_); (try simp only [qseq_r, qblock_r, qloop_r])) | ((with_reducible refine swp_cond rfl (fun h => ?_) (fun h => ?_)) <;> have h' := h <;> (try simp at h') <;> (try subst h')) | ((with_reducible refine sopsg_cases (fun h => ?_) (fun h => ?_)) <;> have h' := h <;> (try simp at h') <;> (try subst h') <;> simp -implicitDefEqProofs [*]) | ((with_reducible refine sopsk_rg ?_ ?_); (first | omega | (unfold maxLen; omega)); simp -implicitDefEqProofs [*]) | (with_reducible first | refine zM hm ?_ | refine zN hm ?_ | refine zO hm ?_ | refine zP hm ?_) | fail)
   refine swp_block (swp_for (fun s (i : Nat) => s.turn [(4, .int .i64 i)] []) (fun i => i ≤ p.states.length ∧ F = ((p.states.drop i).any gState || (p.acts.any gAct || (p.tabs.any gTab || p.nodes.any gNode)))) (fun i => p.states.length - i) 0 ?_ ⟨by simp, hF.out⟩ ?_)
   ·repeat' (first | ((with_reducible refine wk_self [] hm ?_ ?_ ?_ ?_) <;> (try simp only [zT, puth, Nat.reduceEqDiff, reduceIte, Nat.reduceAdd])) | (with_reducible first | refine za ?_ ?_ | refine zb ?_ ?_ ?_ ?_ | refine zc ?_ ?_ ?_ ?_ | refine zd ?_ ?_ ?_ ?_ | refine objsM_abs ?_ ?_ | refine subH_cons ?_ ?_) | (with_reducible first | exact slotsM_nil | exact objsM_nil | exact subH_nil | exact coL_nilm | exact Co.refl _ | exact CoL.refl _ | exact CoLL.refl _) | ((with_reducible first | refine zga ?_ | refine zgb ?_); rfl) | ((with_reducible refine zgc ?_); (first | (with_reducible rfl) | rfl | (simp; done))) | ((with_reducible first | refine zgd ?_ | refine zge ?_); (first | omega | (simp; done))) | (refine co_wrap ⟨?_, ?_⟩ ?_ <;> omega) | (exact Co.refl _) | (exact CoL.refl _) | (exact CoLL.refl _) | (refine co_own ?_; omega) | (refine co_int ?_; first | omega | (simp_all; done)) | (with_reducible first | refine coL_cons ?_ ?_ | refine coL_consm ?_ ?_) | fail)
   rintro J hJ i ⟨h1, h2⟩
   have hbb := b3.out
   clear hF
   unfold c_gplan_l2
   simp only [zT, puth, Nat.reduceEqDiff, reduceIte, Nat.reduceAdd] at h1 h2 ⊢
   rcases Nat.lt_or_ge i p.states.length with hi | hi
   ·rw [any_drop _ hi] at h2
    generalize hxx : p.states[i] = x at h2
    have wi : IntKind.i64.wrap ((i : Int) + 1) = (i : Int) + 1 := i64_add_ (by omega) (by omega)
    cases hv : gState x <;> rw [hv] at h2 <;> replace h2 := Lib.hid h2 <;> unfold gState at hv
    ·repeat' (first | (with_reducible first | refine zA ?_ | refine swp_block1 ?_ | refine swp_block2 ?_ | refine zK ?_) | ((with_reducible first | refine swp_reg ?_ | refine swp_regd (by rw [hP]; exact mixed) ?_); (try rw [hP]); simp -implicitDefEqProofs [pushes, *]) | ((with_reducible first | refine swp_skip ?_ | refine swp_exit ?_); (try simp -implicitDefEqProofs [pushes, *])) | ((with_reducible refine swp_ret ?_); (try simp only [qseq_r, qblock_r, qloop_r])) | ((with_reducible refine swp_cond rfl (fun h => ?_) (fun h => ?_)) <;> have h' := h <;> (try simp at h') <;> (try subst h')) | ((with_reducible refine sopsg_cases (fun h => ?_) (fun h => ?_)) <;> have h' := h <;> (try simp at h') <;> (try subst h') <;> simp -implicitDefEqProofs [pushes, *]) | ((with_reducible refine sopsk_rg ?_ ?_); (first | omega | (unfold maxLen; omega)); simp -implicitDefEqProofs [pushes, *]) | (with_reducible first | refine zM hm ?_ | refine zN hm ?_ | refine zO hm ?_ | refine zP hm ?_) | ((with_reducible refine wk_self [] hm ?_ ?_ ?_ ?_) <;> (try simp only [zT, puth, Nat.reduceEqDiff, reduceIte, Nat.reduceAdd])) | (with_reducible first | refine za ?_ ?_ | refine zb ?_ ?_ ?_ ?_ | refine zc ?_ ?_ ?_ ?_ | refine zd ?_ ?_ ?_ ?_ | refine objsM_abs ?_ ?_ | refine subH_cons ?_ ?_) | (with_reducible first | exact slotsM_nil | exact objsM_nil | exact subH_nil | exact coL_nilm | exact Co.refl _ | exact CoL.refl _ | exact CoLL.refl _) | ((with_reducible first | refine zga ?_ | refine zgb ?_); rfl) | ((with_reducible refine zgc ?_); (first | (with_reducible rfl) | rfl | (simp; done))) | ((with_reducible first | refine zgd ?_ | refine zge ?_); (first | omega | (simp; done))) | (refine co_wrap ⟨?_, ?_⟩ ?_ <;> omega) | (exact Co.refl _) | (exact CoL.refl _) | (exact CoLL.refl _) | (refine co_own ?_; omega) | (refine co_int ?_; first | omega | (simp_all; done)) | (with_reducible first | refine coL_cons ?_ ?_ | refine coL_consm ?_ ?_) | ((refine qfor_next hJ (i + 1) ?_ ?_ ?_; (with_reducible refine wk_self [] hm ?_ ?_ ?_ ?_) <;> (try simp only [zT, puth, Nat.reduceEqDiff, reduceIte, Nat.reduceAdd]))) | fail)
     exact ⟨by omega, by rw [h2.out, Bool.false_or]⟩
    ·repeat' (first | (with_reducible first | refine zA ?_ | refine swp_block1 ?_ | refine swp_block2 ?_ | refine zK ?_) | ((with_reducible first | refine swp_reg ?_ | refine swp_regd (by rw [hP]; exact mixed) ?_); (try rw [hP]); simp -implicitDefEqProofs [pushes, *]) | ((with_reducible first | refine swp_skip ?_ | refine swp_exit ?_); (try simp -implicitDefEqProofs [pushes, *])) | ((with_reducible refine swp_ret ?_); (try simp only [qseq_r, qblock_r, qloop_r])) | ((with_reducible refine swp_cond rfl (fun h => ?_) (fun h => ?_)) <;> have h' := h <;> (try simp at h') <;> (try subst h')) | ((with_reducible refine sopsg_cases (fun h => ?_) (fun h => ?_)) <;> have h' := h <;> (try simp at h') <;> (try subst h') <;> simp -implicitDefEqProofs [pushes, *]) | ((with_reducible refine sopsk_rg ?_ ?_); (first | omega | (unfold maxLen; omega)); simp -implicitDefEqProofs [pushes, *]) | (with_reducible first | refine zM hm ?_ | refine zN hm ?_ | refine zO hm ?_ | refine zP hm ?_) | fail)
     rw [h2.out]; rfl
   ·obtain rfl : i = p.states.length := by omega
    have hF : F = ((p.acts.drop 0).any gAct || (p.tabs.any gTab || p.nodes.any gNode)) := by rw [h2, List.drop_length]; rfl
    clear h2 h1 hi hbb hJ
    replace hF := Lib.hid hF
    repeat' (first | (with_reducible first | refine zA ?_ | refine swp_block1 ?_ | refine swp_block2 ?_ | refine zK ?_) | ((with_reducible first | refine swp_reg ?_ | refine swp_regd (by rw [hP]; exact mixed) ?_); (try rw [hP]); simp -implicitDefEqProofs [*]) | ((with_reducible first | refine swp_skip ?_ | refine swp_exit ?_); (try simp -implicitDefEqProofs [*])) | ((with_reducible refine swp_ret ?_); (try simp only [qseq_r, qblock_r, qloop_r])) | ((with_reducible refine swp_cond rfl (fun h => ?_) (fun h => ?_)) <;> have h' := h <;> (try simp at h') <;> (try subst h')) | ((with_reducible refine sopsg_cases (fun h => ?_) (fun h => ?_)) <;> have h' := h <;> (try simp at h') <;> (try subst h') <;> simp -implicitDefEqProofs [*]) | ((with_reducible refine sopsk_rg ?_ ?_); (first | omega | (unfold maxLen; omega)); simp -implicitDefEqProofs [*]) | (with_reducible first | refine zM hm ?_ | refine zN hm ?_ | refine zO hm ?_ | refine zP hm ?_) | fail)
    refine swp_block (swp_for (fun s (i : Nat) => s.turn [(5, .int .i64 i)] []) (fun i => i ≤ p.acts.length ∧ F = ((p.acts.drop i).any gAct || (p.tabs.any gTab || p.nodes.any gNode))) (fun i => p.acts.length - i) 0 ?_ ⟨by simp, hF.out⟩ ?_)
    ·repeat' (first | ((with_reducible refine wk_self [] hm ?_ ?_ ?_ ?_) <;> (try simp only [zT, puth, Nat.reduceEqDiff, reduceIte, Nat.reduceAdd])) | (with_reducible first | refine za ?_ ?_ | refine zb ?_ ?_ ?_ ?_ | refine zc ?_ ?_ ?_ ?_ | refine zd ?_ ?_ ?_ ?_ | refine objsM_abs ?_ ?_ | refine subH_cons ?_ ?_) | (with_reducible first | exact slotsM_nil | exact objsM_nil | exact subH_nil | exact coL_nilm | exact Co.refl _ | exact CoL.refl _ | exact CoLL.refl _) | ((with_reducible first | refine zga ?_ | refine zgb ?_); rfl) | ((with_reducible refine zgc ?_); (first | (with_reducible rfl) | rfl | (simp; done))) | ((with_reducible first | refine zgd ?_ | refine zge ?_); (first | omega | (simp; done))) | (refine co_wrap ⟨?_, ?_⟩ ?_ <;> omega) | (exact Co.refl _) | (exact CoL.refl _) | (exact CoLL.refl _) | (refine co_own ?_; omega) | (refine co_int ?_; first | omega | (simp_all; done)) | (with_reducible first | refine coL_cons ?_ ?_ | refine coL_consm ?_ ?_) | fail)
    rintro J hJ i ⟨h1, h2⟩
    have hbb := b4.out
    have hJo := hJ
    clear hF
    unfold c_gplan_l4
    simp only [zT, puth, Nat.reduceEqDiff, reduceIte, Nat.reduceAdd] at h1 h2 ⊢
    rcases Nat.lt_or_ge i p.acts.length with hi | hi
    ·rw [any_drop _ hi] at h2
     generalize hxx : p.acts[i] = x at h2
     have wi : IntKind.i64.wrap ((i : Int) + 1) = (i : Int) + 1 := i64_add_ (by omega) (by omega)
     unfold gAct at h2
     cases v1 : decide (500 < (x.w.length : Int)) <;> rw [v1] at h2
     rotate_left
     ·rw [Bool.true_or, Bool.true_or, Bool.true_or] at h2
      replace h2 := Lib.hid h2
      repeat' (first | (with_reducible first | refine zA ?_ | refine swp_block1 ?_ | refine swp_block2 ?_ | refine zK ?_) | ((with_reducible first | refine swp_reg ?_ | refine swp_regd (by rw [hP]; exact mixed) ?_); (try rw [hP]); simp -implicitDefEqProofs [*]) | ((with_reducible first | refine swp_skip ?_ | refine swp_exit ?_); (try simp -implicitDefEqProofs [*])) | ((with_reducible refine swp_ret ?_); (try simp only [qseq_r, qblock_r, qloop_r])) | ((with_reducible refine swp_cond rfl (fun h => ?_) (fun h => ?_)) <;> have h' := h <;> (try simp at h') <;> (try subst h')) | ((with_reducible refine sopsg_cases (fun h => ?_) (fun h => ?_)) <;> have h' := h <;> (try simp at h') <;> (try subst h') <;> simp -implicitDefEqProofs [*]) | ((with_reducible refine sopsk_rg ?_ ?_); (first | omega | (unfold maxLen; omega)); simp -implicitDefEqProofs [*]) | (with_reducible first | refine zM hm ?_ | refine zN hm ?_ | refine zO hm ?_ | refine zP hm ?_) | fail)
      rw [h2.out]; rfl
     cases v2 : decide (50 < (x.ops.length : Int)) <;> rw [v2] at h2
     rotate_left
     ·rw [Bool.or_true, Bool.true_or, Bool.true_or] at h2
      replace h2 := Lib.hid h2
      repeat' (first | (with_reducible first | refine zA ?_ | refine swp_block1 ?_ | refine swp_block2 ?_ | refine zK ?_) | ((with_reducible first | refine swp_reg ?_ | refine swp_regd (by rw [hP]; exact mixed) ?_); (try rw [hP]); simp -implicitDefEqProofs [*]) | ((with_reducible first | refine swp_skip ?_ | refine swp_exit ?_); (try simp -implicitDefEqProofs [*])) | ((with_reducible refine swp_ret ?_); (try simp only [qseq_r, qblock_r, qloop_r])) | ((with_reducible refine swp_cond rfl (fun h => ?_) (fun h => ?_)) <;> have h' := h <;> (try simp at h') <;> (try subst h')) | ((with_reducible refine sopsg_cases (fun h => ?_) (fun h => ?_)) <;> have h' := h <;> (try simp at h') <;> (try subst h') <;> simp -implicitDefEqProofs [*]) | ((with_reducible refine sopsk_rg ?_ ?_); (first | omega | (unfold maxLen; omega)); simp -implicitDefEqProofs [*]) | (with_reducible first | refine zM hm ?_ | refine zN hm ?_ | refine zO hm ?_ | refine zP hm ?_) | fail)
      rw [h2.out]; rfl
     have h3 : F = ((x.ops.drop 0).any gOp || ((p.acts.drop (i + 1)).any gAct || (p.tabs.any gTab || p.nodes.any gNode))) := by rw [h2, Bool.or_assoc, Bool.or_assoc]; rfl
     have b2 := of_decide_eq_false v2
     replace h2 := Lib.hid h2
     replace h3 := Lib.hid h3
     replace b2 := Lib.hid b2
     repeat' (first | (with_reducible first | refine zA ?_ | refine swp_block1 ?_ | refine swp_block2 ?_ | refine zK ?_) | ((with_reducible first | refine swp_reg ?_ | refine swp_regd (by rw [hP]; exact mixed) ?_); (try rw [hP]); simp -implicitDefEqProofs [*]) | ((with_reducible first | refine swp_skip ?_ | refine swp_exit ?_); (try simp -implicitDefEqProofs [*])) | ((with_reducible refine swp_ret ?_); (try simp only [qseq_r, qblock_r, qloop_r])) | ((with_reducible refine swp_cond rfl (fun h => ?_) (fun h => ?_)) <;> have h' := h <;> (try simp at h') <;> (try subst h')) | ((with_reducible refine sopsg_cases (fun h => ?_) (fun h => ?_)) <;> have h' := h <;> (try simp at h') <;> (try subst h') <;> simp -implicitDefEqProofs [*]) | ((with_reducible refine sopsk_rg ?_ ?_); (first | omega | (unfold maxLen; omega)); simp -implicitDefEqProofs [*]) | (with_reducible first | refine zM hm ?_ | refine zN hm ?_ | refine zO hm ?_ | refine zP hm ?_) | fail)
     clear v1 v2
     refine swp_block (swp_for (fun s (k : Nat) => s.turn [(6, .int .i64 k)] []) (fun k => k ≤ x.ops.length ∧ F = ((x.ops.drop k).any gOp || ((p.acts.drop (i + 1)).any gAct || (p.tabs.any gTab || p.nodes.any gNode)))) (fun k => x.ops.length - k) 0 ?_ ⟨by simp, h3.out⟩ ?_)
     ·repeat' (first | ((with_reducible refine wk_self [] hm ?_ ?_ ?_ ?_) <;> (try simp only [zT, puth, Nat.reduceEqDiff, reduceIte, Nat.reduceAdd])) | (with_reducible first | refine za ?_ ?_ | refine zb ?_ ?_ ?_ ?_ | refine zc ?_ ?_ ?_ ?_ | refine zd ?_ ?_ ?_ ?_ | refine objsM_abs ?_ ?_ | refine subH_cons ?_ ?_) | (with_reducible first | exact slotsM_nil | exact objsM_nil | exact subH_nil | exact coL_nilm | exact Co.refl _ | exact CoL.refl _ | exact CoLL.refl _) | ((with_reducible first | refine zga ?_ | refine zgb ?_); rfl) | ((with_reducible refine zgc ?_); (first | (with_reducible rfl) | rfl | (simp; done))) | ((with_reducible first | refine zgd ?_ | refine zge ?_); (first | omega | (simp; done))) | (refine co_wrap ⟨?_, ?_⟩ ?_ <;> omega) | (exact Co.refl _) | (exact CoL.refl _) | (exact CoLL.refl _) | (refine co_own ?_; omega) | (refine co_int ?_; first | omega | (simp_all; done)) | (with_reducible first | refine coL_cons ?_ ?_ | refine coL_consm ?_ ?_) | fail)
     rintro J hJ k ⟨h4, h5⟩
     have hb2 := b2.out
     unfold c_gplan_l3
     simp only [zT, puth, Nat.reduceEqDiff, reduceIte, Nat.reduceAdd] at h4 h5 ⊢
     rcases Nat.lt_or_ge k x.ops.length with hk | hk
     ·rw [any_drop _ hk] at h5
      generalize hyy : x.ops[k] = y at h5
      have wk1 : IntKind.i64.wrap ((k : Int) + 1) = (k : Int) + 1 := i64_add_ (by omega) (by omega)
      cases hv : gOp y <;> rw [hv] at h5 <;> replace h5 := Lib.hid h5 <;> unfold gOp at hv
      ·repeat' (first | (with_reducible first | refine zA ?_ | refine swp_block1 ?_ | refine swp_block2 ?_ | refine zK ?_) | ((with_reducible first | refine swp_reg ?_ | refine swp_regd (by rw [hP]; exact mixed) ?_); (try rw [hP]); simp -implicitDefEqProofs [pushes, *]) | ((with_reducible first | refine swp_skip ?_ | refine swp_exit ?_); (try simp -implicitDefEqProofs [pushes, *])) | ((with_reducible refine swp_ret ?_); (try simp only [qseq_r, qblock_r, qloop_r])) | ((with_reducible refine swp_cond rfl (fun h => ?_) (fun h => ?_)) <;> have h' := h <;> (try simp at h') <;> (try subst h')) | ((with_reducible refine sopsg_cases (fun h => ?_) (fun h => ?_)) <;> have h' := h <;> (try simp at h') <;> (try subst h') <;> simp -implicitDefEqProofs [pushes, *]) | ((with_reducible refine sopsk_rg ?_ ?_); (first | omega | (unfold maxLen; omega)); simp -implicitDefEqProofs [pushes, *]) | (with_reducible first | refine zM hm ?_ | refine zN hm ?_ | refine zO hm ?_ | refine zP hm ?_) | ((with_reducible refine wk_self [] hm ?_ ?_ ?_ ?_) <;> (try simp only [zT, puth, Nat.reduceEqDiff, reduceIte, Nat.reduceAdd])) | (with_reducible first | refine za ?_ ?_ | refine zb ?_ ?_ ?_ ?_ | refine zc ?_ ?_ ?_ ?_ | refine zd ?_ ?_ ?_ ?_ | refine objsM_abs ?_ ?_ | refine subH_cons ?_ ?_) | (with_reducible first | exact slotsM_nil | exact objsM_nil | exact subH_nil | exact coL_nilm | exact Co.refl _ | exact CoL.refl _ | exact CoLL.refl _) | ((with_reducible first | refine zga ?_ | refine zgb ?_); rfl) | ((with_reducible refine zgc ?_); (first | (with_reducible rfl) | rfl | (simp; done))) | ((with_reducible first | refine zgd ?_ | refine zge ?_); (first | omega | (simp; done))) | (refine co_wrap ⟨?_, ?_⟩ ?_ <;> omega) | (exact Co.refl _) | (exact CoL.refl _) | (exact CoLL.refl _) | (refine co_own ?_; omega) | (refine co_int ?_; first | omega | (simp_all; done)) | (with_reducible first | refine coL_cons ?_ ?_ | refine coL_consm ?_ ?_) | ((refine qfor_next hJ (k + 1) ?_ ?_ ?_; (with_reducible refine wk_self [] hm ?_ ?_ ?_ ?_) <;> (try simp only [zT, puth, Nat.reduceEqDiff, reduceIte, Nat.reduceAdd]))) | fail)
       exact ⟨by omega, by rw [h5.out, Bool.false_or]⟩
      ·repeat' (first | (with_reducible first | refine zA ?_ | refine swp_block1 ?_ | refine swp_block2 ?_ | refine zK ?_) | ((with_reducible first | refine swp_reg ?_ | refine swp_regd (by rw [hP]; exact mixed) ?_); (try rw [hP]); simp -implicitDefEqProofs [pushes, *]) | ((with_reducible first | refine swp_skip ?_ | refine swp_exit ?_); (try simp -implicitDefEqProofs [pushes, *])) | ((with_reducible refine swp_ret ?_); (try simp only [qseq_r, qblock_r, qloop_r])) | ((with_reducible refine swp_cond rfl (fun h => ?_) (fun h => ?_)) <;> have h' := h <;> (try simp at h') <;> (try subst h')) | ((with_reducible refine sopsg_cases (fun h => ?_) (fun h => ?_)) <;> have h' := h <;> (try simp at h') <;> (try subst h') <;> simp -implicitDefEqProofs [pushes, *]) | ((with_reducible refine sopsk_rg ?_ ?_); (first | omega | (unfold maxLen; omega)); simp -implicitDefEqProofs [pushes, *]) | (with_reducible first | refine zM hm ?_ | refine zN hm ?_ | refine zO hm ?_ | refine zP hm ?_) | fail)
       rw [h5.out]; rfl
     ·obtain rfl : k = x.ops.length := by omega
      rw [List.drop_length] at h5
      replace h5 := Lib.hid h5
      repeat' (first | (with_reducible first | refine zA ?_ | refine swp_block1 ?_ | refine swp_block2 ?_ | refine zK ?_) | ((with_reducible first | refine swp_reg ?_ | refine swp_regd (by rw [hP]; exact mixed) ?_); (try rw [hP]); simp -implicitDefEqProofs [*]) | ((with_reducible first | refine swp_skip ?_ | refine swp_exit ?_); (try simp -implicitDefEqProofs [*])) | ((with_reducible refine swp_ret ?_); (try simp only [qseq_r, qblock_r, qloop_r])) | ((with_reducible refine swp_cond rfl (fun h => ?_) (fun h => ?_)) <;> have h' := h <;> (try simp at h') <;> (try subst h')) | ((with_reducible refine sopsg_cases (fun h => ?_) (fun h => ?_)) <;> have h' := h <;> (try simp at h') <;> (try subst h') <;> simp -implicitDefEqProofs [*]) | ((with_reducible refine sopsk_rg ?_ ?_); (first | omega | (unfold maxLen; omega)); simp -implicitDefEqProofs [*]) | (with_reducible first | refine zM hm ?_ | refine zN hm ?_ | refine zO hm ?_ | refine zP hm ?_) | ((with_reducible refine wk_self [] hm ?_ ?_ ?_ ?_) <;> (try simp only [zT, puth, Nat.reduceEqDiff, reduceIte, Nat.reduceAdd])) | (with_reducible first | refine za ?_ ?_ | refine zb ?_ ?_ ?_ ?_ | refine zc ?_ ?_ ?_ ?_ | refine zd ?_ ?_ ?_ ?_ | refine objsM_abs ?_ ?_ | refine subH_cons ?_ ?_) | (with_reducible first | exact slotsM_nil | exact objsM_nil | exact subH_nil | exact coL_nilm | exact Co.refl _ | exact CoL.refl _ | exact CoLL.refl _) | ((with_reducible first | refine zga ?_ | refine zgb ?_); rfl) | ((with_reducible refine zgc ?_); (first | (with_reducible rfl) | rfl | (simp; done))) | ((with_reducible first | refine zgd ?_ | refine zge ?_); (first | omega | (simp; done))) | (refine co_wrap ⟨?_, ?_⟩ ?_ <;> omega) | (exact Co.refl _) | (exact CoL.refl _) | (exact CoLL.refl _) | (refine co_own ?_; omega) | (refine co_int ?_; first | omega | (simp_all; done)) | (with_reducible first | refine coL_cons ?_ ?_ | refine coL_consm ?_ ?_) | ((refine qfor_next hJo (i + 1) ?_ ?_ ?_; (with_reducible refine wk_self [] hm ?_ ?_ ?_ ?_) <;> (try simp only [zT, puth, Nat.reduceEqDiff, reduceIte, Nat.reduceAdd]))) | fail)
      exact ⟨by omega, by rw [h5.out]; rfl⟩
    ·obtain rfl : i = p.acts.length := by omega
     have hF : F = ((p.tabs.drop 0).any gTab || p.nodes.any gNode) := by rw [h2, List.drop_length]; rfl
     clear h2 h1 hi hbb hJ hJo
     replace hF := Lib.hid hF
     repeat' (first | (with_reducible first | refine zA ?_ | refine swp_block1 ?_ | refine swp_block2 ?_ | refine zK ?_) | ((with_reducible first | refine swp_reg ?_ | refine swp_regd (by rw [hP]; exact mixed) ?_); (try rw [hP]); simp -implicitDefEqProofs [*]) | ((with_reducible first | refine swp_skip ?_ | refine swp_exit ?_); (try simp -implicitDefEqProofs [*])) | ((with_reducible refine swp_ret ?_); (try simp only [qseq_r, qblock_r, qloop_r])) | ((with_reducible refine swp_cond rfl (fun h => ?_) (fun h => ?_)) <;> have h' := h <;> (try simp at h') <;> (try subst h')) | ((with_reducible refine sopsg_cases (fun h => ?_) (fun h => ?_)) <;> have h' := h <;> (try simp at h') <;> (try subst h') <;> simp -implicitDefEqProofs [*]) | ((with_reducible refine sopsk_rg ?_ ?_); (first | omega | (unfold maxLen; omega)); simp -implicitDefEqProofs [*]) | (with_reducible first | refine zM hm ?_ | refine zN hm ?_ | refine zO hm ?_ | refine zP hm ?_) | fail)
     refine swp_block (swp_for (fun s (i : Nat) => s.turn [(7, .int .i64 i)] []) (fun i => i ≤ p.tabs.length ∧ F = ((p.tabs.drop i).any gTab || p.nodes.any gNode)) (fun i => p.tabs.length - i) 0 ?_ ⟨by simp, hF.out⟩ ?_)
     ·repeat' (first | ((with_reducible refine wk_self [] hm ?_ ?_ ?_ ?_) <;> (try simp only [zT, puth, Nat.reduceEqDiff, reduceIte, Nat.reduceAdd])) | (with_reducible first | refine za ?_ ?_ | refine zb ?_ ?_ ?_ ?_ | refine zc ?_ ?_ ?_ ?_ | refine zd ?_ ?_ ?_ ?_ | refine objsM_abs ?_ ?_ | refine subH_cons ?_ ?_) | (with_reducible first | exact slotsM_nil | exact objsM_nil | exact subH_nil | exact coL_nilm | exact Co.refl _ | exact CoL.refl _ | exact CoLL.refl _) | ((with_reducible first | refine zga ?_ | refine zgb ?_); rfl) | ((with_reducible refine zgc ?_); (first | (with_reducible rfl) | rfl | (simp; done))) | ((with_reducible first | refine zgd ?_ | refine zge ?_); (first | omega | (simp; done))) | (refine co_wrap ⟨?_, ?_⟩ ?_ <;> omega) | (exact Co.refl _) | (exact CoL.refl _) | (exact CoLL.refl _) | (refine co_own ?_; omega) | (refine co_int ?_; first | omega | (simp_all; done)) | (with_reducible first | refine coL_cons ?_ ?_ | refine coL_consm ?_ ?_) | fail)
     rintro J hJ i ⟨h1, h2⟩
     have hbb := b5.out
     clear hF
     unfold c_gplan_l5
     simp only [zT, puth, Nat.reduceEqDiff, reduceIte, Nat.reduceAdd] at h1 h2 ⊢
     rcases Nat.lt_or_ge i p.tabs.length with hi | hi
     ·rw [any_drop _ hi] at h2
      generalize hxx : p.tabs[i] = x at h2
      have wi : IntKind.i64.wrap ((i : Int) + 1) = (i : Int) + 1 := i64_add_ (by omega) (by omega)
      cases hv : gTab x <;> rw [hv] at h2 <;> replace h2 := Lib.hid h2
      ·unfold gTab at hv
       simp only [Bool.or_eq_false_iff] at hv
       obtain ⟨⟨v1, v2⟩, v3⟩ := hv
       repeat' (first | (with_reducible first | refine zA ?_ | refine swp_block1 ?_ | refine swp_block2 ?_ | refine zK ?_) | ((with_reducible first | refine swp_reg ?_ | refine swp_regd (by rw [hP]; exact mixed) ?_); (try rw [hP]); simp -implicitDefEqProofs [*]) | ((with_reducible first | refine swp_skip ?_ | refine swp_exit ?_); (try simp -implicitDefEqProofs [*])) | ((with_reducible refine swp_ret ?_); (try simp only [qseq_r, qblock_r, qloop_r])) | ((with_reducible refine swp_cond rfl (fun h => ?_) (fun h => ?_)) <;> have h' := h <;> (try simp at h') <;> (try subst h')) | ((with_reducible refine sopsg_cases (fun h => ?_) (fun h => ?_)) <;> have h' := h <;> (try simp at h') <;> (try subst h') <;> simp -implicitDefEqProofs [*]) | ((with_reducible refine sopsk_rg ?_ ?_); (first | omega | (unfold maxLen; omega)); simp -implicitDefEqProofs [*]) | (with_reducible first | refine zM hm ?_ | refine zN hm ?_ | refine zO hm ?_ | refine zP hm ?_) | ((with_reducible refine wk_self [] hm ?_ ?_ ?_ ?_) <;> (try simp only [zT, puth, Nat.reduceEqDiff, reduceIte, Nat.reduceAdd])) | (with_reducible first | refine za ?_ ?_ | refine zb ?_ ?_ ?_ ?_ | refine zc ?_ ?_ ?_ ?_ | refine zd ?_ ?_ ?_ ?_ | refine objsM_abs ?_ ?_ | refine subH_cons ?_ ?_) | (with_reducible first | exact slotsM_nil | exact objsM_nil | exact subH_nil | exact coL_nilm | exact Co.refl _ | exact CoL.refl _ | exact CoLL.refl _) | ((with_reducible first | refine zga ?_ | refine zgb ?_); rfl) | ((with_reducible refine zgc ?_); (first | (with_reducible rfl) | rfl | (simp; done))) | ((with_reducible first | refine zgd ?_ | refine zge ?_); (first | omega | (simp; done))) | (refine co_wrap ⟨?_, ?_⟩ ?_ <;> omega) | (exact Co.refl _) | (exact CoL.refl _) | (exact CoLL.refl _) | (refine co_own ?_; omega) | (refine co_int ?_; first | omega | (simp_all; done)) | (with_reducible first | refine coL_cons ?_ ?_ | refine coL_consm ?_ ?_) | ((refine qfor_next hJ (i + 1) ?_ ?_ ?_; (with_reducible refine wk_self [] hm ?_ ?_ ?_ ?_) <;> (try simp only [zT, puth, Nat.reduceEqDiff, reduceIte, Nat.reduceAdd]))) | fail)
       exact ⟨by omega, by rw [h2.out, Bool.false_or]⟩
      ·replace hv := Lib.hid hv
       repeat' (first | (with_reducible first | refine zA ?_ | refine swp_block1 ?_ | refine swp_block2 ?_ | refine zK ?_) | ((with_reducible first | refine swp_reg ?_ | refine swp_regd (by rw [hP]; exact mixed) ?_); (try rw [hP]); simp -implicitDefEqProofs [*]) | ((with_reducible first | refine swp_skip ?_ | refine swp_exit ?_); (try simp -implicitDefEqProofs [*])) | ((with_reducible refine swp_ret ?_); (try simp only [qseq_r, qblock_r, qloop_r])) | ((with_reducible refine swp_cond rfl (fun h => ?_) (fun h => ?_)) <;> have h' := h <;> (try simp at h') <;> (try subst h')) | ((with_reducible refine sopsg_cases (fun h => ?_) (fun h => ?_)) <;> have h' := h <;> (try simp at h') <;> (try subst h') <;> simp -implicitDefEqProofs [*]) | ((with_reducible refine sopsk_rg ?_ ?_); (first | omega | (unfold maxLen; omega)); simp -implicitDefEqProofs [*]) | (with_reducible first | refine zM hm ?_ | refine zN hm ?_ | refine zO hm ?_ | refine zP hm ?_) | ((with_reducible refine wk_self [] hm ?_ ?_ ?_ ?_) <;> (try simp only [zT, puth, Nat.reduceEqDiff, reduceIte, Nat.reduceAdd])) | (with_reducible first | refine za ?_ ?_ | refine zb ?_ ?_ ?_ ?_ | refine zc ?_ ?_ ?_ ?_ | refine zd ?_ ?_ ?_ ?_ | refine objsM_abs ?_ ?_ | refine subH_cons ?_ ?_) | (with_reducible first | exact slotsM_nil | exact objsM_nil | exact subH_nil | exact coL_nilm | exact Co.refl _ | exact CoL.refl _ | exact CoLL.refl _) | ((with_reducible first | refine zga ?_ | refine zgb ?_); rfl) | ((with_reducible refine zgc ?_); (first | (with_reducible rfl) | rfl | (simp; done))) | ((with_reducible first | refine zgd ?_ | refine zge ?_); (first | omega | (simp; done))) | (refine co_wrap ⟨?_, ?_⟩ ?_ <;> omega) | (exact Co.refl _) | (exact CoL.refl _) | (exact CoLL.refl _) | (refine co_own ?_; omega) | (refine co_int ?_; first | omega | (simp_all; done)) | (with_reducible first | refine coL_cons ?_ ?_ | refine coL_consm ?_ ?_) | ((refine qfor_next hJ (i + 1) ?_ ?_ ?_; (with_reducible refine wk_self [] hm ?_ ?_ ?_ ?_) <;> (try simp only [zT, puth, Nat.reduceEqDiff, reduceIte, Nat.reduceAdd]))) | fail)
       all_goals (first | (rw [h2.out]; rfl) | (exfalso; have q := hv.out; unfold gTab at q; simp only [Bool.or_eq_true, decide_eq_true_eq] at q; omega))
     ·obtain rfl : i = p.tabs.length := by omega
      have hF : F = ((p.nodes.drop 0).any gNode || false) := by rw [h2, List.drop_length]; simp
      clear h2 h1 hi hbb hJ
      replace hF := Lib.hid hF
      repeat' (first | (with_reducible first | refine zA ?_ | refine swp_block1 ?_ | refine swp_block2 ?_ | refine zK ?_) | ((with_reducible first | refine swp_reg ?_ | refine swp_regd (by rw [hP]; exact mixed) ?_); (try rw [hP]); simp -implicitDefEqProofs [*]) | ((with_reducible first | refine swp_skip ?_ | refine swp_exit ?_); (try simp -implicitDefEqProofs [*])) | ((with_reducible refine swp_ret ?_); (try simp only [qseq_r, qblock_r, qloop_r])) | ((with_reducible refine swp_cond rfl (fun h => ?_) (fun h => ?_)) <;> have h' := h <;> (try simp at h') <;> (try subst h')) | ((with_reducible refine sopsg_cases (fun h => ?_) (fun h => ?_)) <;> have h' := h <;> (try simp at h') <;> (try subst h') <;> simp -implicitDefEqProofs [*]) | ((with_reducible refine sopsk_rg ?_ ?_); (first | omega | (unfold maxLen; omega)); simp -implicitDefEqProofs [*]) | (with_reducible first | refine zM hm ?_ | refine zN hm ?_ | refine zO hm ?_ | refine zP hm ?_) | fail)
      refine swp_block (swp_for (fun s (i : Nat) => s.turn [(8, .int .i64 i)] []) (fun i => i ≤ p.nodes.length ∧ F = ((p.nodes.drop i).any gNode || false)) (fun i => p.nodes.length - i) 0 ?_ ⟨by simp, hF.out⟩ ?_)
      ·repeat' (first | ((with_reducible refine wk_self [] hm ?_ ?_ ?_ ?_) <;> (try simp only [zT, puth, Nat.reduceEqDiff, reduceIte, Nat.reduceAdd])) | (with_reducible first | refine za ?_ ?_ | refine zb ?_ ?_ ?_ ?_ | refine zc ?_ ?_ ?_ ?_ | refine zd ?_ ?_ ?_ ?_ | refine objsM_abs ?_ ?_ | refine subH_cons ?_ ?_) | (with_reducible first | exact slotsM_nil | exact objsM_nil | exact subH_nil | exact coL_nilm | exact Co.refl _ | exact CoL.refl _ | exact CoLL.refl _) | ((with_reducible first | refine zga ?_ | refine zgb ?_); rfl) | ((with_reducible refine zgc ?_); (first | (with_reducible rfl) | rfl | (simp; done))) | ((with_reducible first | refine zgd ?_ | refine zge ?_); (first | omega | (simp; done))) | (refine co_wrap ⟨?_, ?_⟩ ?_ <;> omega) | (exact Co.refl _) | (exact CoL.refl _) | (exact CoLL.refl _) | (refine co_own ?_; omega) | (refine co_int ?_; first | omega | (simp_all; done)) | (with_reducible first | refine coL_cons ?_ ?_ | refine coL_consm ?_ ?_) | fail)
      rintro J hJ i ⟨h1, h2⟩
      have hbb := b6.out
      clear hF
      unfold c_gplan_l6
      simp only [zT, puth, Nat.reduceEqDiff, reduceIte, Nat.reduceAdd] at h1 h2 ⊢
      rcases Nat.lt_or_ge i p.nodes.length with hi | hi
      ·rw [any_drop _ hi] at h2
       generalize hxx : p.nodes[i] = x at h2
       have wi : IntKind.i64.wrap ((i : Int) + 1) = (i : Int) + 1 := i64_add_ (by omega) (by omega)
       cases hv : gNode x <;> rw [hv] at h2 <;> replace h2 := Lib.hid h2 <;> unfold gNode at hv
       ·repeat' (first | (with_reducible first | refine zA ?_ | refine swp_block1 ?_ | refine swp_block2 ?_ | refine zK ?_) | ((with_reducible first | refine swp_reg ?_ | refine swp_regd (by rw [hP]; exact mixed) ?_); (try rw [hP]); simp -implicitDefEqProofs [pushes, *]) | ((with_reducible first | refine swp_skip ?_ | refine swp_exit ?_); (try simp -implicitDefEqProofs [pushes, *])) | ((with_reducible refine swp_ret ?_); (try simp only [qseq_r, qblock_r, qloop_r])) | ((with_reducible refine swp_cond rfl (fun h => ?_) (fun h => ?_)) <;> have h' := h <;> (try simp at h') <;> (try subst h')) | ((with_reducible refine sopsg_cases (fun h => ?_) (fun h => ?_)) <;> have h' := h <;> (try simp at h') <;> (try subst h') <;> simp -implicitDefEqProofs [pushes, *]) | ((with_reducible refine sopsk_rg ?_ ?_); (first | omega | (unfold maxLen; omega)); simp -implicitDefEqProofs [pushes, *]) | (with_reducible first | refine zM hm ?_ | refine zN hm ?_ | refine zO hm ?_ | refine zP hm ?_) | ((with_reducible refine wk_self [] hm ?_ ?_ ?_ ?_) <;> (try simp only [zT, puth, Nat.reduceEqDiff, reduceIte, Nat.reduceAdd])) | (with_reducible first | refine za ?_ ?_ | refine zb ?_ ?_ ?_ ?_ | refine zc ?_ ?_ ?_ ?_ | refine zd ?_ ?_ ?_ ?_ | refine objsM_abs ?_ ?_ | refine subH_cons ?_ ?_) | (with_reducible first | exact slotsM_nil | exact objsM_nil | exact subH_nil | exact coL_nilm | exact Co.refl _ | exact CoL.refl _ | exact CoLL.refl _) | ((with_reducible first | refine zga ?_ | refine zgb ?_); rfl) | ((with_reducible refine zgc ?_); (first | (with_reducible rfl) | rfl | (simp; done))) | ((with_reducible first | refine zgd ?_ | refine zge ?_); (first | omega | (simp; done))) | (refine co_wrap ⟨?_, ?_⟩ ?_ <;> omega) | (exact Co.refl _) | (exact CoL.refl _) | (exact CoLL.refl _) | (refine co_own ?_; omega) | (refine co_int ?_; first | omega | (simp_all; done)) | (with_reducible first | refine coL_cons ?_ ?_ | refine coL_consm ?_ ?_) | ((refine qfor_next hJ (i + 1) ?_ ?_ ?_; (with_reducible refine wk_self [] hm ?_ ?_ ?_ ?_) <;> (try simp only [zT, puth, Nat.reduceEqDiff, reduceIte, Nat.reduceAdd]))) | fail)
        exact ⟨by omega, by rw [h2.out, Bool.false_or]⟩
       ·repeat' (first | (with_reducible first | refine zA ?_ | refine swp_block1 ?_ | refine swp_block2 ?_ | refine zK ?_) | ((with_reducible first | refine swp_reg ?_ | refine swp_regd (by rw [hP]; exact mixed) ?_); (try rw [hP]); simp -implicitDefEqProofs [pushes, *]) | ((with_reducible first | refine swp_skip ?_ | refine swp_exit ?_); (try simp -implicitDefEqProofs [pushes, *])) | ((with_reducible refine swp_ret ?_); (try simp only [qseq_r, qblock_r, qloop_r])) | ((with_reducible refine swp_cond rfl (fun h => ?_) (fun h => ?_)) <;> have h' := h <;> (try simp at h') <;> (try subst h')) | ((with_reducible refine sopsg_cases (fun h => ?_) (fun h => ?_)) <;> have h' := h <;> (try simp at h') <;> (try subst h') <;> simp -implicitDefEqProofs [pushes, *]) | ((with_reducible refine sopsk_rg ?_ ?_); (first | omega | (unfold maxLen; omega)); simp -implicitDefEqProofs [pushes, *]) | (with_reducible first | refine zM hm ?_ | refine zN hm ?_ | refine zO hm ?_ | refine zP hm ?_) | fail)
        rw [h2.out]; rfl
      ·obtain rfl : i = p.nodes.length := by omega
       rw [List.drop_length] at h2
       replace h2 := Lib.hid h2
       repeat' (first | (with_reducible first | refine zA ?_ | refine swp_block1 ?_ | refine swp_block2 ?_ | refine zK ?_) | ((with_reducible first | refine swp_reg ?_ | refine swp_regd (by rw [hP]; exact mixed) ?_); (try rw [hP]); simp -implicitDefEqProofs [*]) | ((with_reducible first | refine swp_skip ?_ | refine swp_exit ?_); (try simp -implicitDefEqProofs [*])) | ((with_reducible refine swp_ret ?_); (try simp only [qseq_r, qblock_r, qloop_r])) | ((with_reducible refine swp_cond rfl (fun h => ?_) (fun h => ?_)) <;> have h' := h <;> (try simp at h') <;> (try subst h')) | ((with_reducible refine sopsg_cases (fun h => ?_) (fun h => ?_)) <;> have h' := h <;> (try simp at h') <;> (try subst h') <;> simp -implicitDefEqProofs [*]) | ((with_reducible refine sopsk_rg ?_ ?_); (first | omega | (unfold maxLen; omega)); simp -implicitDefEqProofs [*]) | (with_reducible first | refine zM hm ?_ | refine zN hm ?_ | refine zO hm ?_ | refine zP hm ?_) | fail)
       rw [h2.out]; rfl
 ·have hz : greatP p = true := by unfold greatP; rw [hT]; rfl
  rw [hz]
  replace hT := Lib.hid hT
  repeat' (first | (with_reducible first | refine zA ?_ | refine swp_block1 ?_ | refine swp_block2 ?_ | refine zK ?_) | ((with_reducible first | refine swp_reg ?_ | refine swp_regd (by rw [hP]; exact mixed) ?_); (try rw [hP]); simp -implicitDefEqProofs [*]) | ((with_reducible first | refine swp_skip ?_ | refine swp_exit ?_); (try simp -implicitDefEqProofs [*])) | ((with_reducible refine swp_ret ?_); (try simp only [qseq_r, qblock_r, qloop_r])) | ((with_reducible refine swp_cond rfl (fun h => ?_) (fun h => ?_)) <;> have h' := h <;> (try simp at h') <;> (try subst h')) | ((with_reducible refine sopsg_cases (fun h => ?_) (fun h => ?_)) <;> have h' := h <;> (try simp at h') <;> (try subst h') <;> simp -implicitDefEqProofs [*]) | ((with_reducible refine sopsk_rg ?_ ?_); (first | omega | (unfold maxLen; omega)); simp -implicitDefEqProofs [*]) | (with_reducible first | refine zM hm ?_ | refine zN hm ?_ | refine zO hm ?_ | refine zP hm ?_) | fail)
  all_goals (first | rfl | (exfalso; have q := hT.out; unfold gTop at q; simp only [Bool.or_eq_true, decide_eq_true_eq] at q; omega))
end Go.Proofs.Ytnfjldobjgdiaaa
namespace Go.Proofs.Ytnfjldobjgdiaaa
set_option linter.all false
open Go.RowKit
abbrev c_rwidth_r1 : List SOper := [Oa 3 (.box 29 (.t 0)), Oa 4 (.box 31 (.t 1)), Oa 6 (.mv (.c (.int .i64 0)))]
abbrev c_rwidth_r2 : List SOper := [Oa 7 (.mv (.c .nilsl))]
abbrev c_rwidth_r3 : List SOper := [Oa 8 (.faddr 0 (.t 4)), Oa 9 (.load (.t 8))]
abbrev c_rwidth_r4 : List SOper := [Oa 29 (.bin .eql (.t 9) (.c (.int .i64 (-3)))), Oa 28 (.mv (.t 29))]
abbrev c_rwidth_r5 : List SOper := [Oa 30 (.mkrow 3 1 1 [(.int .i64 0)] [(0, (.c (.int .i64 16)))]), Oa 7 (.mv (.t 30))]
abbrev c_rwidth_r6 : List SOper := [Oa 32 (.bin .eql (.t 9) (.c (.int .i64 (-1)))), Oa 31 (.mv (.t 32))]
abbrev c_rwidth_r7 : List SOper := [Oa 33 (.faddr 1 (.t 3)), Oa 34 (.load (.t 33)), Oa 7 (.mv (.t 34))]
abbrev c_rwidth_r8 : List SOper := [Oa 36 (.bin .eql (.t 9) (.c (.int .i64 (-2)))), Oa 35 (.mv (.t 36))]
abbrev c_rwidth_r9 : List SOper := [Oa 37 (.mv (.t 2)), Oa 7 (.mv (.t 37))]
abbrev c_rwidth_r10 : List SOper := [Oa 10 (.faddr 0 (.t 4)), Oa 11 (.load (.t 10)), Oa 12 (.bin .geq (.t 11) (.c (.int .i64 0))), Oa 13 (.mv (.t 12)), Oe 14 (.faddr 0 (.t 4)) 13 true, Oe 15 (.load (.t 14)) 13 true, Oe 16 (.faddr 0 (.t 3)) 13 true, Oe 17 (.load (.t 16)) 13 true, Oe 18 (.len false (.t 17)) 13 true, Oe 19 (.bin .lss (.t 15) (.t 18)) 13 true, Oa 20 (.pick (.t 13) (.t 19) (.c (.bool false)))]
abbrev c_rwidth_r11 : List SOper := [Oa 21 (.faddr 0 (.t 3)), Oa 22 (.load (.t 21)), Oa 23 (.faddr 0 (.t 4)), Oa 24 (.load (.t 23)), Oa 25 (.iaddr 1 (.t 22) (.t 24)), Oa 26 (.faddr 0 (.t 25)), Oa 27 (.load (.t 26)), Oa 7 (.mv (.t 27))]
abbrev c_rwidth_r12 : List SOper := [Oa 38 (.faddr 1 (.t 4)), Oa 39 (.load (.t 38)), Oa 40 (.bin .lss (.t 39) (.c (.int .i64 0))), Oa 41 (.mv (.t 40)), Oe 42 (.faddr 1 (.t 4)) 41 false, Oe 43 (.load (.t 42)) 41 false, Oe 44 (.mv (.t 7)) 41 false, Oe 45 (.len false (.t 44)) 41 false, Oe 46 (.bin .geq (.t 43) (.t 45)) 41 false, Oa 47 (.pick (.t 41) (.c (.bool true)) (.t 46))]
abbrev c_rwidth_r13 : List SOper := [Oa 6 (.mv (.c (.int .i64 0)))]
abbrev c_rwidth_r14 : List SOper := [Oa 48 (.mv (.t 7)), Oa 49 (.faddr 1 (.t 4)), Oa 50 (.load (.t 49)), Oa 51 (.iaddr 1 (.t 48) (.t 50)), Oa 52 (.load (.t 51)), Oa 6 (.mv (.t 52))]
def c_rwidth : SCode := (.seq (.reg false c_rwidth_r1 [2, 3, 4]) (.seq (.reg false c_rwidth_r2 [2, 3, 4, 7]) (.seq (.seq (.reg false c_rwidth_r3 [2, 3, 4, 7, 9]) (.block 0 (.seq (.reg false c_rwidth_r4 [2, 3, 4, 7, 9, 28]) (.cond (.t 28) (.reg false c_rwidth_r5 [4, 7]) (.seq (.reg false c_rwidth_r6 [2, 3, 4, 7, 9, 31]) (.cond (.t 31) (.reg false c_rwidth_r7 [4, 7]) (.seq (.reg false c_rwidth_r8 [2, 3, 4, 7, 35]) (.cond (.t 35) (.reg false c_rwidth_r9 [4, 7]) (.seq (.reg false c_rwidth_r10 [3, 4, 7, 20]) (.cond (.t 20) (.reg false c_rwidth_r11 [4, 7]) .skip)))))))))) (.seq (.seq (.reg false c_rwidth_r12 [4, 7, 47]) (.cond (.t 47) (.seq (.reg false c_rwidth_r13 [6]) .ret) .skip)) (.seq (.reg false c_rwidth_r14 [6]) .ret)))))
theorem comp_c_rwidth : comp Try.prog 53 ((Try.f10.body).getD .skip) = some c_rwidth.erase := by kernel_rfl
abbrev c_rtakes_r1 : List SOper := [Oa 2 (.mv (.c (.int .i64 0)))]
abbrev c_rtakes_r2 : List SOper := [Oa 3 (.mv (.t 0)), Oa 4 (.bin .lss (.t 3) (.c (.int .i64 1))), Oa 5 (.mv (.t 4)), Oe 6 (.mv (.t 0)) 5 false, Oe 7 (.bin .gtr (.t 6) (.c (.int .i64 13))) 5 false, Oa 8 (.pick (.t 5) (.c (.bool true)) (.t 7))]
abbrev c_rtakes_r3 : List SOper := [Oa 2 (.mv (.c (.int .i64 (-1))))]
abbrev c_rtakes_r4 : List SOper := [Oa 9 (.mkrow 3 1 14 [(.int .i64 0)] [(0, (.c (.int .i64 0))), (1, (.c (.int .i64 0))), (2, (.c (.int .i64 0))), (3, (.c (.int .i64 2))), (4, (.c (.int .i64 2))), (5, (.c (.int .i64 2))), (6, (.c (.int .i64 2))), (7, (.c (.int .i64 2))), (8, (.c (.int .i64 2))), (9, (.c (.int .i64 2))), (10, (.c (.int .i64 2))), (11, (.c (.int .i64 2))), (12, (.c (.int .i64 2))), (13, (.c (.int .i64 1)))]), Oa 10 (.mv (.t 0)), Oa 11 (.iaddr 1 (.t 9) (.t 10)), Oa 12 (.load (.t 11)), Oa 2 (.mv (.t 12))]
def c_rtakes : SCode := (.seq (.reg false c_rtakes_r1 [0]) (.seq (.seq (.reg false c_rtakes_r2 [0, 8]) (.cond (.t 8) (.seq (.reg false c_rtakes_r3 [2]) .ret) .skip)) (.seq (.reg false c_rtakes_r4 [2]) .ret)))
theorem comp_c_rtakes : comp Try.prog 13 ((Try.f15.body).getD .skip) = some c_rtakes.erase := by kernel_rfl
abbrev c_rwidths_r1 : List SOper := [Oa 2 (.box 29 (.t 0)), Oa 3 (.box 35 (.t 1)), Oa 4 (.mv (.c .nilsl))]
abbrev c_rwidths_r2 : List SOper := [Oa 5 (.mv (.c .nilsl))]
abbrev c_rwidths_r3 : List SOper := [Oa 6 (.mv (.c (.int .i64 0)))]
abbrev c_rwidths_r4 : List SOper := [Oa 7 (.mv (.t 6)), Oa 8 (.faddr 1 (.t 3)), Oa 9 (.load (.t 8)), Oa 10 (.len false (.t 9)), Oa 11 (.bin .lss (.t 7) (.t 10))]
abbrev c_rwidths_r5 : List SOper := [Oa 14 (.mv (.t 5)), Oa 15 (.loads 7 (.t 2)), Oa 16 (.faddr 1 (.t 3)), Od 17 (.load (.t 16)) 4, Oa 18 (.mv (.t 6)), Od 19 (.iaddr 2 (.t 17) (.t 18)) 28, Od 20 (.loads 2 (.t 19)) 60, ⟨(some 21), .mv (.c .any), some ((.c (.fn (.func 10) [] [])), [(.t 15), (.t 20), (.c .nilsl)]), none, 126⟩, Od 22 (.mkrow 3 1 1 [(.int .i64 0)] [(0, (.t 21))]) 254, Od 23 (.app 3 1 8 (.t 14) (.t 22)) 511, Od 5 (.mv (.t 23)) 1023]
abbrev c_rwidths_r6 : List SOper := [Oa 12 (.mv (.t 6)), Oa 13 (.bin .add (.t 12) (.c (.int .i64 1))), Oa 6 (.mv (.t 13))]
def c_rwidths_l1 : SCode := (.seq (.seq (.reg false c_rwidths_r4 [2, 3, 5, 6, 11]) (.cond (.t 11) .skip (.exit 0))) (.seq (.block 1 (.reg true c_rwidths_r5 [2, 3, 5, 6])) (.reg false c_rwidths_r6 [2, 3, 5, 6])))
abbrev c_rwidths_r7 : List SOper := [Oa 24 (.mv (.t 5)), Oa 4 (.mv (.t 24))]
def c_rwidths : SCode := (.seq (.reg false c_rwidths_r1 [2, 3]) (.seq (.reg false c_rwidths_r2 [2, 3, 5]) (.seq (.seq (.reg false c_rwidths_r3 [2, 3, 5, 6]) (.block 0 (.loop c_rwidths_l1))) (.seq (.reg false c_rwidths_r7 [4]) .ret))))
theorem comp_c_rwidths : comp Try.prog 25 ((Try.f13.body).getD .skip) = some c_rwidths.erase := by kernel_rfl
end Go.Proofs.Ytnfjldobjgdiaaa
namespace Go.Proofs.Ytnfjldobjgdiaaa
set_option linter.all false
open Go.RowKit
attribute [local simp] sops_nil sops_run sopsk_some sops_call sops_guard sopsg_yes sopsg_tf sopsg_ft sopsg_undef rg_true SOp.run SX.ev putd puts argS upds SOp.touch SSt.keep SSt.skip gets geth puth delh idOf SV.cells? setL fillS fillR sbin eq0 eq1 eqL rowOf qseq_n qseq_e qseq_r qblock_n qblock_r qblock_e qloop_e qloop_r take_map_len FrzOk pureV_int pureV_bool pureV_str pureV_nil pureV_nilsl pureV_view pureV_cp pureL_nil_ pureL_cons_ pureO_row pureO_cells frzS frzH frz frz1 frz0 SlotsM ObjsM ObjM rn ren ren1 ren0 co_self co_int co_own co_view co_nilsl co_agg co_tup CoL coll_self mergeH dels adds idsH okNames
attribute [local simp] headc refc pushc casec statec opc actc tabc nodec planc nums
theorem rwidth_s (p : PlanD) (r : RefD) (args : List Int) (q : Nat) : SCalls Try.prog 10 [.agg (planc p), .agg (refc r), nums .i64 args] [] q (.int .i64 (widthOf p r args)) [] := by
 refine scalls_q ?_ (fun _ => rfl) (fun _ => rfl) rfl q
 refine scalls_of (N := 53) Try.func10 rfl rfl (by kernel_rfl) comp_c_rwidth (by simp) (by repeat' (first | exact trivial | refine And.intro ?_ ?_ | rfl | decide)) (by repeat' (first | exact trivial | refine And.intro ?_ ?_ | rfl | decide)) ?_
 rintro X hP hN hm
 unfold c_rwidth
 by_cases hc : r.h = -3 ∧ r.f = 0
 ·obtain ⟨e1, e2⟩ := hc
  have hz : widthOf p r args = 16 := by unfold widthOf rowOf_ pick_; rw [e1, e2]; rfl
  rw [hz]
  repeat' (first | (with_reducible first | refine zA ?_ | refine swp_block1 ?_ | refine swp_block2 ?_ | refine zK ?_) | ((with_reducible first | refine swp_reg ?_ | refine swp_regd (by rw [hP]; exact mixed) ?_); (try rw [hP]); simp -implicitDefEqProofs [*]) | ((with_reducible first | refine swp_skip ?_ | refine swp_exit ?_); (try simp -implicitDefEqProofs [*])) | ((with_reducible refine swp_ret ?_); (try simp only [qseq_r, qblock_r, qloop_r])) | ((with_reducible refine swp_cond rfl (fun h => ?_) (fun h => ?_)) <;> have h' := h <;> (try simp at h') <;> (try subst h')) | ((with_reducible refine sopsg_cases (fun h => ?_) (fun h => ?_)) <;> have h' := h <;> (try simp at h') <;> (try subst h') <;> simp -implicitDefEqProofs [*]) | ((with_reducible refine sopsk_rg ?_ ?_); (first | omega | (unfold maxLen; omega)); simp -implicitDefEqProofs [*]) | (with_reducible first | refine zM hm ?_ | refine zN hm ?_ | refine zO hm ?_ | refine zP hm ?_) | fail)
  rfl
 ·replace hc := Lib.hid hc
  repeat' (first | (with_reducible first | refine zA ?_ | refine swp_block1 ?_ | refine swp_block2 ?_ | refine zK ?_) | ((with_reducible first | refine swp_reg ?_ | refine swp_regd (by rw [hP]; exact mixed) ?_); (try rw [hP]); simp -implicitDefEqProofs [*]) | ((with_reducible first | refine swp_skip ?_ | refine swp_exit ?_); (try simp -implicitDefEqProofs [*])) | ((with_reducible refine swp_ret ?_); (try simp only [qseq_r, qblock_r, qloop_r])) | ((with_reducible refine swp_cond rfl (fun h => ?_) (fun h => ?_)) <;> have h' := h <;> (try simp at h') <;> (try subst h')) | ((with_reducible refine sopsg_cases (fun h => ?_) (fun h => ?_)) <;> have h' := h <;> (try simp at h') <;> (try subst h') <;> simp -implicitDefEqProofs [*]) | ((with_reducible refine sopsk_rg ?_ ?_); (first | omega | (unfold maxLen; omega)); simp -implicitDefEqProofs [*]) | (with_reducible first | refine zM hm ?_ | refine zN hm ?_ | refine zO hm ?_ | refine zP hm ?_) | ((exfalso; have := hc.out; omega)) | fail)
  all_goals ((try simp only [widthOf, rowOf_, pick_, headW, el]); (repeat' split) <;> (try first | omega | (simp_all; done) | (simp_all; omega)))
theorem rtakes_s (op : Int) (q : Nat) : SCalls Try.prog 15 [.int .i64 op] [] q (.int .i64 (takesOf op)) [] := by
 refine scalls_q ?_ (fun _ => rfl) (fun _ => rfl) rfl q
 refine scalls_of (N := 13) Try.func15 rfl rfl (by kernel_rfl) comp_c_rtakes (by simp) (by repeat' (first | exact trivial | refine And.intro ?_ ?_ | rfl | decide)) (by repeat' (first | exact trivial | refine And.intro ?_ ?_ | rfl | decide)) ?_
 rintro X hP hN hm
 unfold c_rtakes
 by_cases h0 : op < 1
 ·have hz : takesOf op = -1 := by unfold takesOf; rw [if_neg (by omega), if_neg (by omega), if_neg (by omega)]
  rw [hz]
  repeat' (first | (with_reducible first | refine zA ?_ | refine swp_block1 ?_ | refine swp_block2 ?_ | refine zK ?_) | ((with_reducible first | refine swp_reg ?_ | refine swp_regd (by rw [hP]; exact mixed) ?_); (try rw [hP]); simp -implicitDefEqProofs [*]) | ((with_reducible first | refine swp_skip ?_ | refine swp_exit ?_); (try simp -implicitDefEqProofs [*])) | ((with_reducible refine swp_ret ?_); (try simp only [qseq_r, qblock_r, qloop_r])) | ((with_reducible refine swp_cond rfl (fun h => ?_) (fun h => ?_)) <;> have h' := h <;> (try simp at h') <;> (try subst h')) | ((with_reducible refine sopsg_cases (fun h => ?_) (fun h => ?_)) <;> have h' := h <;> (try simp at h') <;> (try subst h') <;> simp -implicitDefEqProofs [*]) | ((with_reducible refine sopsk_rg ?_ ?_); (first | omega | (unfold maxLen; omega)); simp -implicitDefEqProofs [*]) | (with_reducible first | refine zM hm ?_ | refine zN hm ?_ | refine zO hm ?_ | refine zP hm ?_) | fail)
  all_goals first | rfl | omega
 by_cases h9 : 13 < op
 ·have hz : takesOf op = -1 := by unfold takesOf; rw [if_neg (by omega), if_neg (by omega), if_neg (by omega)]
  rw [hz]
  repeat' (first | (with_reducible first | refine zA ?_ | refine swp_block1 ?_ | refine swp_block2 ?_ | refine zK ?_) | ((with_reducible first | refine swp_reg ?_ | refine swp_regd (by rw [hP]; exact mixed) ?_); (try rw [hP]); simp -implicitDefEqProofs [*]) | ((with_reducible first | refine swp_skip ?_ | refine swp_exit ?_); (try simp -implicitDefEqProofs [*])) | ((with_reducible refine swp_ret ?_); (try simp only [qseq_r, qblock_r, qloop_r])) | ((with_reducible refine swp_cond rfl (fun h => ?_) (fun h => ?_)) <;> have h' := h <;> (try simp at h') <;> (try subst h')) | ((with_reducible refine sopsg_cases (fun h => ?_) (fun h => ?_)) <;> have h' := h <;> (try simp at h') <;> (try subst h') <;> simp -implicitDefEqProofs [*]) | ((with_reducible refine sopsk_rg ?_ ?_); (first | omega | (unfold maxLen; omega)); simp -implicitDefEqProofs [*]) | (with_reducible first | refine zM hm ?_ | refine zN hm ?_ | refine zO hm ?_ | refine zP hm ?_) | fail)
  all_goals first | rfl | omega
 have : op = 1 ∨ op = 2 ∨ op = 3 ∨ op = 4 ∨ op = 5 ∨ op = 6 ∨ op = 7 ∨ op = 8 ∨ op = 9 ∨ op = 10 ∨ op = 11 ∨ op = 12 ∨ op = 13 := by omega
 clear h0 h9
 rcases this with rfl | rfl | rfl | rfl | rfl | rfl | rfl | rfl | rfl | rfl | rfl | rfl | rfl
 all_goals
  repeat' (first | (with_reducible first | refine zA ?_ | refine swp_block1 ?_ | refine swp_block2 ?_ | refine zK ?_) | ((with_reducible first | refine swp_reg ?_ | refine swp_regd (by rw [hP]; exact mixed) ?_); (try rw [hP]); simp -implicitDefEqProofs [*]) | ((with_reducible first | refine swp_skip ?_ | refine swp_exit ?_); (try simp -implicitDefEqProofs [*])) | ((with_reducible refine swp_ret ?_); (try simp only [qseq_r, qblock_r, qloop_r])) | ((with_reducible refine swp_cond rfl (fun h => ?_) (fun h => ?_)) <;> have h' := h <;> (try simp at h') <;> (try subst h')) | ((with_reducible refine sopsg_cases (fun h => ?_) (fun h => ?_)) <;> have h' := h <;> (try simp at h') <;> (try subst h') <;> simp -implicitDefEqProofs [*]) | ((with_reducible refine sopsk_rg ?_ ?_); (first | omega | (unfold maxLen; omega)); simp -implicitDefEqProofs [*]) | (with_reducible first | refine zM hm ?_ | refine zN hm ?_ | refine zO hm ?_ | refine zP hm ?_) | fail)
  rfl
end Go.Proofs.Ytnfjldobjgdiaaa
namespace Go.Proofs.Ytnfjldobjgdiaaa
set_option linter.all false
open Go.RowKit
attribute [local simp] sops_nil sops_run sopsk_some sops_call sops_guard sopsg_yes sopsg_tf sopsg_ft sopsg_undef rg_true SOp.run SX.ev putd puts argS upds SOp.touch SSt.keep SSt.skip gets geth puth delh idOf SV.cells? setL fillS fillR sbin eq0 eq1 eqL rowOf qseq_n qseq_e qseq_r qblock_n qblock_r qblock_e qloop_e qloop_r take_map_len FrzOk pureV_int pureV_bool pureV_str pureV_nil pureV_nilsl pureV_view pureV_cp pureL_nil_ pureL_cons_ pureO_row pureO_cells frzS frzH frz frz1 frz0 SlotsM ObjsM ObjM rn ren ren1 ren0 co_self co_int co_own co_view co_nilsl co_agg co_tup CoL coll_self mergeH dels adds idsH okNames
attribute [local simp] headc refc pushc casec statec opc actc tabc nodec planc nums
theorem rwidth0_s (p : PlanD) (r : RefD) (q : Nat) : SCalls Try.prog 10 [.agg (planc p), .agg (refc r), .nilsl] [] q (.int .i64 (widthOf p r [])) [] := scalls_co (rwidth_s p r [] q) ⟨Co.refl _, Co.refl _, Co.nilsl _, trivial⟩
end Go.Proofs.Ytnfjldobjgdiaaa
namespace Go.Proofs.Ytnfjldobjgdiaaa
set_option linter.all false
open Go.RowKit
theorem u64_bv {x : Int} (h : 0 ≤ x ∧ x ≤ 18446744073709551615) : ∃ v : BitVec 64, x = (v.toNat : Int) := ⟨BitVec.ofNat 64 x.toNat, by rw [BitVec.toNat_ofNat, Nat.mod_eq_of_lt (by omega)]; omega⟩
theorem bv_back (v : BitVec 64) : BitVec.ofInt 64 (v.toNat : Int) = v := by
 rw [BitVec.ofInt_natCast]; simp
theorem bv_wrap (v : BitVec 64) : IntKind.u64.wrap (v.toNat : Int) = v.toNat := u64_in_ (by omega) (by have := v.isLt; omega)
theorem bits_and (v w : BitVec 64) : bits .and .u64 v.toNat w.toNat = ((v &&& w).toNat : Int) := by
 show IntKind.u64.wrap (((BitVec.ofInt 64 (v.toNat : Int)) &&& (BitVec.ofInt 64 (w.toNat : Int))).toNat : Int) = _
 rw [bv_back, bv_back, bv_wrap]
theorem bits_andNot (v w : BitVec 64) : bits .andNot .u64 v.toNat w.toNat = ((v &&& ~~~w).toNat : Int) := by
 show IntKind.u64.wrap (((BitVec.ofInt 64 (v.toNat : Int)) &&& ~~~(BitVec.ofInt 64 (w.toNat : Int))).toNat : Int) = _
 rw [bv_back, bv_back, bv_wrap]
theorem bv_inj {v w : BitVec 64} : (v.toNat : Int) = w.toNat ↔ v = w := ⟨fun h => BitVec.eq_of_toNat_eq (by omega), fun h => by rw [h]⟩
theorem andNot_zero {a b : Int} (ha : 0 ≤ a ∧ a ≤ 18446744073709551615) (hb : 0 ≤ b ∧ b ≤ 18446744073709551615) : bits .andNot .u64 a b = 0 ↔ bits .and .u64 a b = a := by
 obtain ⟨v, rfl⟩ := u64_bv ha
 obtain ⟨w, rfl⟩ := u64_bv hb
 rw [bits_andNot, bits_and, bv_inj]
 have e : (((v &&& ~~~w).toNat : Nat) : Int) = 0 ↔ v &&& ~~~w = 0#64 := by
  rw [show (0 : Int) = ((0#64).toNat : Int) by rfl, bv_inj]
 rw [e]
 constructor
 ·intro h
  ext i hi
  have := congrArg (fun z => z.getLsbD i) h
  simp [hi] at this ⊢
  exact this
 ·intro h
  ext i hi
  have := congrArg (fun z => z.getLsbD i) h
  simp [hi] at this ⊢
  exact this
end Go.Proofs.Ytnfjldobjgdiaaa
namespace Go.Proofs.Ytnfjldobjgdiaaa
set_option linter.all false
open Go.RowKit
attribute [local simp] sops_nil sops_run sopsk_some sops_call sops_guard sopsg_yes sopsg_tf sopsg_ft sopsg_undef rg_true SOp.run SX.ev putd puts argS upds SOp.touch SSt.keep SSt.skip gets geth puth delh idOf SV.cells? setL fillS fillR sbin eq0 eq1 eqL rowOf qseq_n qseq_e qseq_r qblock_n qblock_r qblock_e qloop_e qloop_r take_map_len FrzOk pureV_int pureV_bool pureV_str pureV_nil pureV_nilsl pureV_view pureV_cp pureL_nil_ pureL_cons_ pureO_row pureO_cells frzS frzH frz frz1 frz0 SlotsM ObjsM ObjM rn ren ren1 ren0 co_self co_int co_own co_view co_nilsl co_agg co_tup CoL coll_self mergeH dels adds idsH okNames
attribute [local simp] headc refc pushc casec statec opc actc tabc nodec planc nums jc
theorem case_step (e g : Int) (B : Bool) (l rest E at_ : Int) : orF (e, g) (if (if (if B = true then 6 else l) = 0 then rest else (if B = true then 6 else l)) = 0 then E else (if (if B = true then 6 else l) = 0 then rest else (if B = true then 6 else l)), at_) = orF (thenF (failF e g B 6 at_).1 (failF e g B 6 at_).2 l at_) (if rest = 0 then E else rest, at_) := by
 unfold orF thenF failF
 cases B <;> by_cases he : e = 0 <;> by_cases hl : l = 0 <;> by_cases hr : rest = 0 <;> simp [he, hl, hr]
theorem mask_s (w : Int) (hw : 0 ≤ w ∧ w ≤ 48) (q : Nat) : SCalls Try.prog 63 [.int .i64 w] [] q (.int .u64 (if w ≤ 64 then 2 ^ w.toNat - 1 else 0)) [] := by
 refine scalls_in (Enters.of Try.func63 rfl rfl) (fun O w1 vs hO h => ?_) (fun σ => rfl) q
 obtain ⟨v, us, rfl, h1, h2⟩ := Reps.cons_inv h
 have := h2.nil_inv; subst this
 cases h1
 refine (Mask_any w w1 (Fits.of_i64 (by omega) (by omega))).mono ?_
 rintro e w' ⟨rfl, rfl⟩
 refine ⟨_, rfl, .refl _ _, ?_⟩
 have : ones w = if w ≤ 64 then 2 ^ w.toNat - 1 else 0 := by
  unfold ones onesN
  by_cases h0 : 1 ≤ w
  ·rw [if_pos ⟨h0, by omega⟩, if_pos (by omega)]
  ·obtain rfl : w = 0 := by omega
   rfl
 rw [this]; exact .int
set_option maxHeartbeats 8000000 in
theorem jstates_s (p : PlanD) (hp : PW p) (hs : SmallP p) (hk : OkPlan p) (a b : Int) : SCalls Try.prog 33 [.ptr 0 0] [(0, .cells 78 (jc p a b))] 1 (.tup []) [(0, .cells 78 (jc p (orF (a, b) (statesF p)).1 (orF (a, b) (statesF p)).2))] := by
 refine scalls_of (N := 130) Try.func33 rfl rfl (by kernel_rfl) comp_c_jstates (by simp) (by repeat' (first | exact trivial | refine And.intro ?_ ?_ | rfl | decide)) (by repeat' (first | exact trivial | refine And.intro ?_ ?_ | rfl | decide)) ?_
 rintro X hP hN hm
 have hF : orF (a, b) (statesF p) = orF (failF a b (decide ((p.states.length : Int) < 1) || decide (8 < (p.states.length : Int))) 2 (-3)) (rowF (fun i s => stateF p i s) 3000 0 p.states) := by
  unfold statesF; rw [many_step]; congr 4
  ·exact propext (by omega)
  ·exact propext (by omega)
 generalize orF (a, b) (statesF p) = F at hF
 replace hF := Lib.hid hF
 have hla := hs.states
 unfold c_jstates
 have main : ∀ e0 g0, F = orF (e0, g0) (rowF (fun i s => stateF p i s) 3000 0 p.states) → SWp X (SCode.block 0 c_jstates_l2.loop) (QFun X [] 1 (SV.tup []) [(0, .cells 78 (jc p F.1 F.2))]) ⟨[(0, .ptr 0 0), (2, .int .i64 0)], [(0, .cells 78 (jc p e0 g0))], 1⟩ := by
  intro e0 g0 h0
  replace h0 := Lib.hid h0
  refine swp_block (swp_for (fun s (x : Nat × Int × Int) => s.turn [(2, .int .i64 x.1)] [(0, .cells 78 (jc p x.2.1 x.2.2))]) (fun x => x.1 ≤ p.states.length ∧ F = orF (x.2.1, x.2.2) (rowF (fun i s => stateF p i s) 3000 x.1 (p.states.drop x.1))) (fun x => p.states.length - x.1) (0, _, _) ?_ ⟨by simp, h0.out⟩ ?_)
  ·repeat' (first | ((with_reducible refine wk_self [] hm ?_ ?_ ?_ ?_) <;> (try simp only [zT, puth, Nat.reduceEqDiff, reduceIte, Nat.reduceAdd])) | (with_reducible first | refine za ?_ ?_ | refine zb ?_ ?_ ?_ ?_ | refine zc ?_ ?_ ?_ ?_ | refine zd ?_ ?_ ?_ ?_ | refine objsM_abs ?_ ?_ | refine subH_cons ?_ ?_) | (with_reducible first | exact slotsM_nil | exact objsM_nil | exact subH_nil | exact coL_nilm | exact Co.refl _ | exact CoL.refl _ | exact CoLL.refl _) | ((with_reducible first | refine zga ?_ | refine zgb ?_); rfl) | ((with_reducible refine zgc ?_); (first | (with_reducible rfl) | rfl | (simp; done))) | ((with_reducible first | refine zgd ?_ | refine zge ?_); (first | omega | (simp; done))) | (refine co_wrap ⟨?_, ?_⟩ ?_ <;> omega) | (exact Co.refl _) | (exact CoL.refl _) | (exact CoLL.refl _) | (refine co_own ?_; omega) | (refine co_int ?_; first | omega | (simp_all; done)) | (with_reducible first | refine coL_cons ?_ ?_ | refine coL_consm ?_ ?_) | fail)
  rintro J hJ ⟨i, e, g⟩ ⟨h1, h2⟩
  have hJo := hJ
  unfold c_jstates_l2
  simp only [zT, puth, Nat.reduceEqDiff, reduceIte, Nat.reduceAdd] at h1 h2 ⊢
  rcases Nat.lt_or_ge i p.states.length with hi | hi
  ·have hxm : p.states[i] ∈ p.states := List.getElem_mem hi
   have hc := hs.cases_ _ hxm
   rw [rowF_drop _ _ hi] at h2
   generalize hxx : p.states[i] = x at h2 hc
   by_cases he : e = 0
   ·subst he
    rw [row_step] at h2
    have wi : IntKind.i64.wrap ((i : Int) + 1) = (i : Int) + 1 := i64_add_ (by omega) (by omega)
    have wa : IntKind.i64.wrap (3000 + (i : Int)) = 3000 + (i : Int) := i64_add_ (by omega) (by omega)
    have hst : stateF p i x = if (decide (x.head < -1) || decide ((p.heads.length : Int) ≤ x.head)) = true then 1 else if decide (4 < (x.cases_.length : Int)) = true then 2 else if (decide (0 < (x.cases_.length : Int)) && (widthOf p x.on [] == 0)) = true then 1 else if firstF (caseF p i (widthOf p x.on [])) (x.cases_.drop 0) = 0 then leadF p i x.els else firstF (caseF p i (widthOf p x.on [])) (x.cases_.drop 0) := by
     unfold stateF
     rw [List.drop_zero]
     simp only [Bool.or_eq_true, Bool.and_eq_true, decide_eq_true_eq, beq_iff_eq, ne_eq, ite_not]
     have e1 : (4 < x.cases_.length) = (4 < (x.cases_.length : Int)) := propext (by omega)
     have e2 : (0 < x.cases_.length) = (0 < (x.cases_.length : Int)) := propext (by omega)
     simp only [e1, e2]
    have hA : orF (0, g) (stateF p i x, 3000 + (i : Int)) = orF (failF (failF (failF 0 g (decide (x.head < -1) || decide ((p.heads.length : Int) ≤ x.head)) 1 (3000 + i)).1 (failF 0 g (decide (x.head < -1) || decide ((p.heads.length : Int) ≤ x.head)) 1 (3000 + i)).2 (decide (4 < (x.cases_.length : Int))) 2 (3000 + i)).1 (failF (failF 0 g (decide (x.head < -1) || decide ((p.heads.length : Int) ≤ x.head)) 1 (3000 + i)).1 (failF 0 g (decide (x.head < -1) || decide ((p.heads.length : Int) ≤ x.head)) 1 (3000 + i)).2 (decide (4 < (x.cases_.length : Int))) 2 (3000 + i)).2 (decide (0 < (x.cases_.length : Int)) && (widthOf p x.on [] == 0)) 1 (3000 + i)) (if firstF (caseF p i (widthOf p x.on [])) (x.cases_.drop 0) = 0 then leadF p i x.els else firstF (caseF p i (widthOf p x.on [])) (x.cases_.drop 0), 3000 + (i : Int)) := by
     rw [hst, fail_step _ _ _ _ _ _ (by decide)]
     refine (fail_step _ _ _ _ _ _ (by decide)).trans ?_
     exact fail_step _ _ _ _ _ _ (by decide)
    clear hst
    generalize orF (0, g) (stateF p i x, 3000 + (i : Int)) = A at hA h2
    have hW := hp x.on
    have hfit : ∀ c ∈ x.cases_, OkCase c := by rw [← hxx]; exact (hk.2.2.1 _ hxm).2.2.1
    replace hA := Lib.hid hA
    replace h2 := Lib.hid h2
    replace hfit := Lib.hid hfit
    have hms := mask_s (widthOf p x.on []) hW
    generalize hww : widthOf p x.on [] = W at hA hms hW
    replace hms := Lib.hid hms
    have kn : decide (0 < x.cases_.length) = decide (0 < (x.cases_.length : Int)) := decide_eq_decide.2 (by omega)
    cases k1 : decide (x.head < -1) <;> cases k3 : decide (0 < (x.cases_.length : Int)) <;> rw [k3] at kn
    all_goals
     repeat' (first | (with_reducible first | refine zA ?_ | refine swp_block1 ?_ | refine swp_block2 ?_ | refine zK ?_) | ((with_reducible first | refine swp_reg ?_ | refine swp_regd (by rw [hP]; exact mixed) ?_); (try rw [hP]); simp -implicitDefEqProofs [*]) | ((with_reducible first | refine swp_skip ?_ | refine swp_exit ?_); (try simp -implicitDefEqProofs [*])) | ((with_reducible refine swp_ret ?_); (try simp only [qseq_r, qblock_r, qloop_r])) | ((with_reducible refine swp_cond rfl (fun h => ?_) (fun h => ?_)) <;> have h' := h <;> (try simp at h') <;> (try subst h')) | ((with_reducible refine sopsg_cases (fun h => ?_) (fun h => ?_)) <;> have h' := h <;> (try simp at h') <;> (try subst h') <;> simp -implicitDefEqProofs [*]) | ((with_reducible refine sopsk_rg ?_ ?_); (first | omega | (unfold maxLen; omega)); simp -implicitDefEqProofs [*]) | ((first | refine call_h (call_jfail p _ _ _ _ _ _ _ (by simp)) ⟨rfl, trivial⟩ ⟨rfl, trivial⟩ ?_ | refine call_q (call_width0 p x.on _) ?_); simp -implicitDefEqProofs [*]) | (with_reducible first | refine zM hm ?_ | refine zN hm ?_ | refine zO hm ?_ | refine zP hm ?_) | fail)
     refine swp_block (swp_for (fun s (y : Nat × Int × Int) => s.turn [(99, .int .i64 y.1)] [(0, .cells 78 (jc p y.2.1 y.2.2))]) (fun y => y.1 ≤ x.cases_.length ∧ A = orF (y.2.1, y.2.2) (if firstF (caseF p i W) (x.cases_.drop y.1) = 0 then leadF p i x.els else firstF (caseF p i W) (x.cases_.drop y.1), 3000 + (i : Int))) (fun y => x.cases_.length - y.1) (0, _, _) ?_ ⟨by simp, by have q := hA.out; simp only [k1, k3, Bool.true_or, Bool.false_or, Bool.true_and, Bool.false_and] at q; exact q⟩ ?_)
     ·repeat' (first | ((with_reducible refine wk_self [] hm ?_ ?_ ?_ ?_) <;> (try simp only [zT, puth, Nat.reduceEqDiff, reduceIte, Nat.reduceAdd])) | (with_reducible first | refine za ?_ ?_ | refine zb ?_ ?_ ?_ ?_ | refine zc ?_ ?_ ?_ ?_ | refine zd ?_ ?_ ?_ ?_ | refine objsM_abs ?_ ?_ | refine subH_cons ?_ ?_) | (with_reducible first | exact slotsM_nil | exact objsM_nil | exact subH_nil | exact coL_nilm | exact Co.refl _ | exact CoL.refl _ | exact CoLL.refl _) | ((with_reducible first | refine zga ?_ | refine zgb ?_); rfl) | ((with_reducible refine zgc ?_); (first | (with_reducible rfl) | rfl | (simp; done))) | ((with_reducible first | refine zgd ?_ | refine zge ?_); (first | omega | (simp; done))) | (refine co_wrap ⟨?_, ?_⟩ ?_ <;> omega) | (exact Co.refl _) | (exact CoL.refl _) | (exact CoLL.refl _) | (refine co_own ?_; omega) | (refine co_int ?_; first | omega | (simp_all; done)) | (with_reducible first | refine coL_cons ?_ ?_ | refine coL_consm ?_ ?_) | fail)
     rintro J hJ ⟨j, e1, g1⟩ ⟨h3, h4⟩
     unfold c_jstates_l1
     simp only [zT, puth, Nat.reduceEqDiff, reduceIte, Nat.reduceAdd] at h3 h4 ⊢
     rcases Nat.lt_or_ge j x.cases_.length with hj | hj
     ·have hf := hfit.out x.cases_[j] (List.getElem_mem hj)
      rw [firstF_drop _ hj] at h4
      generalize hcc : x.cases_[j] = c at h4 hf
      obtain ⟨f1, f2, f3⟩ := hf
      have hz := andNot_zero f1.u64 f2.u64
      replace hz := Lib.hid hz
      replace h4 := Lib.hid h4
      have wj : IntKind.i64.wrap ((j : Int) + 1) = (j : Int) + 1 := i64_add_ (by omega) (by omega)
      repeat' (first | (with_reducible first | refine zA ?_ | refine swp_block1 ?_ | refine swp_block2 ?_ | refine zK ?_) | ((with_reducible first | refine swp_reg ?_ | refine swp_regd (by rw [hP]; exact mixed) ?_); (try rw [hP]); simp -implicitDefEqProofs [*]) | ((with_reducible first | refine swp_skip ?_ | refine swp_exit ?_); (try simp -implicitDefEqProofs [*])) | ((with_reducible refine swp_ret ?_); (try simp only [qseq_r, qblock_r, qloop_r])) | ((with_reducible refine swp_cond rfl (fun h => ?_) (fun h => ?_)) <;> have h' := h <;> (try simp at h') <;> (try subst h')) | ((with_reducible refine sopsg_cases (fun h => ?_) (fun h => ?_)) <;> have h' := h <;> (try simp at h') <;> (try subst h') <;> simp -implicitDefEqProofs [*]) | ((with_reducible refine sopsk_rg ?_ ?_); (first | omega | (unfold maxLen; omega)); simp -implicitDefEqProofs [*]) | ((first | refine call_h (call_jfail p _ _ _ _ _ _ _ (by simp)) ⟨rfl, trivial⟩ ⟨rfl, trivial⟩ ?_ | refine call_q (hms.out _) ?_ | refine call_h (call_jto p _ _ _ _ ⟨by omega, by omega⟩ _ _ (by simp)) ⟨rfl, trivial⟩ ⟨rfl, trivial⟩ ?_); simp -implicitDefEqProofs [*]) | (with_reducible first | refine zM hm ?_ | refine zN hm ?_ | refine zO hm ?_ | refine zP hm ?_) | ((with_reducible refine wk_self [] hm ?_ ?_ ?_ ?_) <;> (try simp only [zT, puth, Nat.reduceEqDiff, reduceIte, Nat.reduceAdd])) | (with_reducible first | refine za ?_ ?_ | refine zb ?_ ?_ ?_ ?_ | refine zc ?_ ?_ ?_ ?_ | refine zd ?_ ?_ ?_ ?_ | refine objsM_abs ?_ ?_ | refine subH_cons ?_ ?_) | (with_reducible first | exact slotsM_nil | exact objsM_nil | exact subH_nil | exact coL_nilm | exact Co.refl _ | exact CoL.refl _ | exact CoLL.refl _) | ((with_reducible first | refine zga ?_ | refine zgb ?_); rfl) | ((with_reducible refine zgc ?_); (first | (with_reducible rfl) | rfl | (simp; done))) | ((with_reducible first | refine zgd ?_ | refine zge ?_); (first | omega | (simp; done))) | (refine co_wrap ⟨?_, ?_⟩ ?_ <;> omega) | (exact Co.refl _) | (exact CoL.refl _) | (exact CoLL.refl _) | (refine co_own ?_; omega) | (refine co_int ?_; first | omega | (simp_all; done)) | (with_reducible first | refine coL_cons ?_ ?_ | refine coL_consm ?_ ?_) | ((refine qfor_next hJ (j + 1, ?_, ?_) ?_ ?_ ?_; rotate_left 2; (with_reducible refine wk_self [] hm ?_ ?_ ?_ ?_) <;> (try simp only [zT, puth, Nat.reduceEqDiff, reduceIte, Nat.reduceAdd]))) | fail)
      all_goals (try dsimp only)
      all_goals (refine ⟨by omega, ?_⟩; rw [h4.out]; refine Eq.trans ?_ (case_step e1 g1 _ (leadF p i c.to_) _ (leadF p i x.els) (3000 + (i : Int))); refine congrArg (fun z => orF (e1, g1) (if (if z = 0 then firstF (caseF p i W) (x.cases_.drop (j + 1)) else z) = 0 then leadF p i x.els else (if z = 0 then firstF (caseF p i W) (x.cases_.drop (j + 1)) else z), 3000 + (i : Int))) ?_; have z := hz.out; unfold caseF wideI; simp [*])
     ·obtain rfl : j = x.cases_.length := by omega
      rw [List.drop_length] at h4
      replace h4 := Lib.hid h4
      repeat' (first | (with_reducible first | refine zA ?_ | refine swp_block1 ?_ | refine swp_block2 ?_ | refine zK ?_) | ((with_reducible first | refine swp_reg ?_ | refine swp_regd (by rw [hP]; exact mixed) ?_); (try rw [hP]); simp -implicitDefEqProofs [*]) | ((with_reducible first | refine swp_skip ?_ | refine swp_exit ?_); (try simp -implicitDefEqProofs [*])) | ((with_reducible refine swp_ret ?_); (try simp only [qseq_r, qblock_r, qloop_r])) | ((with_reducible refine swp_cond rfl (fun h => ?_) (fun h => ?_)) <;> have h' := h <;> (try simp at h') <;> (try subst h')) | ((with_reducible refine sopsg_cases (fun h => ?_) (fun h => ?_)) <;> have h' := h <;> (try simp at h') <;> (try subst h') <;> simp -implicitDefEqProofs [*]) | ((with_reducible refine sopsk_rg ?_ ?_); (first | omega | (unfold maxLen; omega)); simp -implicitDefEqProofs [*]) | (refine call_h (call_jto p _ _ _ _ ⟨by omega, by omega⟩ _ _ (by simp)) ⟨rfl, trivial⟩ ⟨rfl, trivial⟩ ?_; simp -implicitDefEqProofs [*]) | (with_reducible first | refine zM hm ?_ | refine zN hm ?_ | refine zO hm ?_ | refine zP hm ?_) | ((with_reducible refine wk_self [] hm ?_ ?_ ?_ ?_) <;> (try simp only [zT, puth, Nat.reduceEqDiff, reduceIte, Nat.reduceAdd])) | (with_reducible first | refine za ?_ ?_ | refine zb ?_ ?_ ?_ ?_ | refine zc ?_ ?_ ?_ ?_ | refine zd ?_ ?_ ?_ ?_ | refine objsM_abs ?_ ?_ | refine subH_cons ?_ ?_) | (with_reducible first | exact slotsM_nil | exact objsM_nil | exact subH_nil | exact coL_nilm | exact Co.refl _ | exact CoL.refl _ | exact CoLL.refl _) | ((with_reducible first | refine zga ?_ | refine zgb ?_); rfl) | ((with_reducible refine zgc ?_); (first | (with_reducible rfl) | rfl | (simp; done))) | ((with_reducible first | refine zgd ?_ | refine zge ?_); (first | omega | (simp; done))) | (refine co_wrap ⟨?_, ?_⟩ ?_ <;> omega) | (exact Co.refl _) | (exact CoL.refl _) | (exact CoLL.refl _) | (refine co_own ?_; omega) | (refine co_int ?_; first | omega | (simp_all; done)) | (with_reducible first | refine coL_cons ?_ ?_ | refine coL_consm ?_ ?_) | ((refine qfor_next hJo (i + 1, ?_, ?_) ?_ ?_ ?_; rotate_left 2; (with_reducible refine wk_self [] hm ?_ ?_ ?_ ?_) <;> (try simp only [zT, puth, Nat.reduceEqDiff, reduceIte, Nat.reduceAdd]))) | fail)
      all_goals (try dsimp only)
      all_goals (refine ⟨by omega, ?_⟩; rw [h2.out]; congr 1; rw [h4.out]; unfold firstF; rw [if_pos rfl]; exact (then_or _ _ _ _).symm)
   ·have ke : (e == 0) = false := by simpa using he
    replace h2 := Lib.hid h2
    repeat' (first | (with_reducible first | refine zA ?_ | refine swp_block1 ?_ | refine swp_block2 ?_ | refine zK ?_) | ((with_reducible first | refine swp_reg ?_ | refine swp_regd (by rw [hP]; exact mixed) ?_); (try rw [hP]); simp -implicitDefEqProofs [*]) | ((with_reducible first | refine swp_skip ?_ | refine swp_exit ?_); (try simp -implicitDefEqProofs [*])) | ((with_reducible refine swp_ret ?_); (try simp only [qseq_r, qblock_r, qloop_r])) | ((with_reducible refine swp_cond rfl (fun h => ?_) (fun h => ?_)) <;> have h' := h <;> (try simp at h') <;> (try subst h')) | ((with_reducible refine sopsg_cases (fun h => ?_) (fun h => ?_)) <;> have h' := h <;> (try simp at h') <;> (try subst h') <;> simp -implicitDefEqProofs [*]) | ((with_reducible refine sopsk_rg ?_ ?_); (first | omega | (unfold maxLen; omega)); simp -implicitDefEqProofs [*]) | (with_reducible first | refine zM hm ?_ | refine zN hm ?_ | refine zO hm ?_ | refine zP hm ?_) | (refine fin_voidn hm rfl ?_ (fun σ => rfl)) | fail)
    rw [h2.out, orF_pos he]
  ·obtain rfl : i = p.states.length := by omega
   rw [List.drop_length] at h2
   replace h2 := Lib.hid h2
   repeat' (first | (with_reducible first | refine zA ?_ | refine swp_block1 ?_ | refine swp_block2 ?_ | refine zK ?_) | ((with_reducible first | refine swp_reg ?_ | refine swp_regd (by rw [hP]; exact mixed) ?_); (try rw [hP]); simp -implicitDefEqProofs [*]) | ((with_reducible first | refine swp_skip ?_ | refine swp_exit ?_); (try simp -implicitDefEqProofs [*])) | ((with_reducible refine swp_ret ?_); (try simp only [qseq_r, qblock_r, qloop_r])) | ((with_reducible refine swp_cond rfl (fun h => ?_) (fun h => ?_)) <;> have h' := h <;> (try simp at h') <;> (try subst h')) | ((with_reducible refine sopsg_cases (fun h => ?_) (fun h => ?_)) <;> have h' := h <;> (try simp at h') <;> (try subst h') <;> simp -implicitDefEqProofs [*]) | ((with_reducible refine sopsk_rg ?_ ?_); (first | omega | (unfold maxLen; omega)); simp -implicitDefEqProofs [*]) | (with_reducible first | refine zM hm ?_ | refine zN hm ?_ | refine zO hm ?_ | refine zP hm ?_) | (refine fin_voidn hm rfl ?_ (fun σ => rfl)) | fail)
   rw [h2.out, orF_none _ rfl]
 replace main := Lib.hid main
 by_cases h0 : p.states.length = 0
 ·repeat' (first | (with_reducible first | refine zA ?_ | refine swp_block1 ?_ | refine swp_block2 ?_ | refine zK ?_) | ((with_reducible first | refine swp_reg ?_ | refine swp_regd (by rw [hP]; exact mixed) ?_); (try rw [hP]); simp -implicitDefEqProofs [*]) | ((with_reducible first | refine swp_skip ?_ | refine swp_exit ?_); (try simp -implicitDefEqProofs [*])) | ((with_reducible refine swp_ret ?_); (try simp only [qseq_r, qblock_r, qloop_r])) | ((with_reducible refine swp_cond rfl (fun h => ?_) (fun h => ?_)) <;> have h' := h <;> (try simp at h') <;> (try subst h')) | ((with_reducible refine sopsg_cases (fun h => ?_) (fun h => ?_)) <;> have h' := h <;> (try simp at h') <;> (try subst h') <;> simp -implicitDefEqProofs [*]) | ((with_reducible refine sopsk_rg ?_ ?_); (first | omega | (unfold maxLen; omega)); simp -implicitDefEqProofs [*]) | (refine call_h (call_jfail p _ _ _ _ _ _ _ (by simp)) ⟨rfl, trivial⟩ ⟨rfl, trivial⟩ ?_; simp -implicitDefEqProofs [*]) | (with_reducible first | refine zM hm ?_ | refine zN hm ?_ | refine zO hm ?_ | refine zP hm ?_) | fail)
  refine swp_wk ?_ (main.out (failF a b true 2 (-3)).1 (failF a b true 2 (-3)).2 ?_)
  ·repeat' (first | ((with_reducible refine wk_self [] hm ?_ ?_ ?_ ?_) <;> (try simp only [zT, puth, Nat.reduceEqDiff, reduceIte, Nat.reduceAdd])) | (with_reducible first | refine za ?_ ?_ | refine zb ?_ ?_ ?_ ?_ | refine zc ?_ ?_ ?_ ?_ | refine zd ?_ ?_ ?_ ?_ | refine objsM_abs ?_ ?_ | refine subH_cons ?_ ?_) | (with_reducible first | exact slotsM_nil | exact objsM_nil | exact subH_nil | exact coL_nilm | exact Co.refl _ | exact CoL.refl _ | exact CoLL.refl _) | ((with_reducible first | refine zga ?_ | refine zgb ?_); rfl) | ((with_reducible refine zgc ?_); (first | (with_reducible rfl) | rfl | (simp; done))) | ((with_reducible first | refine zgd ?_ | refine zge ?_); (first | omega | (simp; done))) | (refine co_wrap ⟨?_, ?_⟩ ?_ <;> omega) | (exact Co.refl _) | (exact CoL.refl _) | (exact CoLL.refl _) | (refine co_own ?_; omega) | (refine co_int ?_; first | omega | (simp_all; done)) | (with_reducible first | refine coL_cons ?_ ?_ | refine coL_consm ?_ ?_) | fail)
  ·have q := hF.out
   rw [show decide ((p.states.length : Int) < 1) = true by rw [h0]; rfl, Bool.true_or] at q
   exact q
 ·have k0 : ((p.states.length : Int) == 0) = false := by simpa using h0
  have k1 : decide ((p.states.length : Int) < 1) = false := by simp; omega
  replace h0 := Lib.hid h0
  repeat' (first | (with_reducible first | refine zA ?_ | refine swp_block1 ?_ | refine swp_block2 ?_ | refine zK ?_) | ((with_reducible first | refine swp_reg ?_ | refine swp_regd (by rw [hP]; exact mixed) ?_); (try rw [hP]); simp -implicitDefEqProofs [*]) | ((with_reducible first | refine swp_skip ?_ | refine swp_exit ?_); (try simp -implicitDefEqProofs [*])) | ((with_reducible refine swp_ret ?_); (try simp only [qseq_r, qblock_r, qloop_r])) | ((with_reducible refine swp_cond rfl (fun h => ?_) (fun h => ?_)) <;> have h' := h <;> (try simp at h') <;> (try subst h')) | ((with_reducible refine sopsg_cases (fun h => ?_) (fun h => ?_)) <;> have h' := h <;> (try simp at h') <;> (try subst h') <;> simp -implicitDefEqProofs [*]) | ((with_reducible refine sopsk_rg ?_ ?_); (first | omega | (unfold maxLen; omega)); simp -implicitDefEqProofs [*]) | (refine call_h (call_jfail p _ _ _ _ _ _ _ (by simp)) ⟨rfl, trivial⟩ ⟨rfl, trivial⟩ ?_; simp -implicitDefEqProofs [*]) | (with_reducible first | refine zM hm ?_ | refine zN hm ?_ | refine zO hm ?_ | refine zP hm ?_) | fail)
  refine swp_wk ?_ (main.out (failF a b (decide (8 < (p.states.length : Int))) 2 (-3)).1 (failF a b (decide (8 < (p.states.length : Int))) 2 (-3)).2 ?_)
  ·repeat' (first | ((with_reducible refine wk_self [] hm ?_ ?_ ?_ ?_) <;> (try simp only [zT, puth, Nat.reduceEqDiff, reduceIte, Nat.reduceAdd])) | (with_reducible first | refine za ?_ ?_ | refine zb ?_ ?_ ?_ ?_ | refine zc ?_ ?_ ?_ ?_ | refine zd ?_ ?_ ?_ ?_ | refine objsM_abs ?_ ?_ | refine subH_cons ?_ ?_) | (with_reducible first | exact slotsM_nil | exact objsM_nil | exact subH_nil | exact coL_nilm | exact Co.refl _ | exact CoL.refl _ | exact CoLL.refl _) | ((with_reducible first | refine zga ?_ | refine zgb ?_); rfl) | ((with_reducible refine zgc ?_); (first | (with_reducible rfl) | rfl | (simp; done))) | ((with_reducible first | refine zgd ?_ | refine zge ?_); (first | omega | (simp; done))) | (refine co_wrap ⟨?_, ?_⟩ ?_ <;> omega) | (exact Co.refl _) | (exact CoL.refl _) | (exact CoLL.refl _) | (refine co_own ?_; omega) | (refine co_int ?_; first | omega | (simp_all; done)) | (with_reducible first | refine coL_cons ?_ ?_ | refine coL_consm ?_ ?_) | fail)
  ·have q := hF.out
   rw [k1, Bool.false_or] at q
   exact q
end Go.Proofs.Ytnfjldobjgdiaaa
namespace Go.Proofs.Ytnfjldobjgdiaaa
set_option linter.all false
open Go.RowKit
attribute [local simp] sops_nil sops_run sopsk_some sops_call sops_guard sopsg_yes sopsg_tf sopsg_ft sopsg_undef rg_true SOp.run SX.ev putd puts argS upds SOp.touch SSt.keep SSt.skip gets geth puth delh idOf SV.cells? setL fillS fillR sbin eq0 eq1 eqL rowOf qseq_n qseq_e qseq_r qblock_n qblock_r qblock_e qloop_e qloop_r take_map_len FrzOk pureV_int pureV_bool pureV_str pureV_nil pureV_nilsl pureV_view pureV_cp pureL_nil_ pureL_cons_ pureO_row pureO_cells frzS frzH frz frz1 frz0 SlotsM ObjsM ObjM rn ren ren1 ren0 co_self co_int co_own co_view co_nilsl co_agg co_tup CoL coll_self mergeH dels adds idsH okNames
attribute [local simp] headc refc pushc casec statec opc actc tabc nodec planc nums jc
def firstIdx (v : Int) : List Int → Nat → Int
 | [], _ => -1
 | x :: l, i => if v = x then (i : Int) else firstIdx v l (i + 1)
theorem firstIdx_drop (v : Int) {l : List Int} {i : Nat} (hi : i < l.length) : firstIdx v (l.drop i) i = if v = l[i] then (i : Int) else firstIdx v (l.drop (i + 1)) (i + 1) := by
 rw [List.drop_eq_getElem_cons hi]; rfl
theorem firstIdx_in (v : Int) : ∀ (l : List Int) (i : Nat), decide (0 ≤ firstIdx v l i) = l.contains v
 | [], i => rfl
 | x :: l, i => by
  unfold firstIdx
  rw [List.contains_cons]
  by_cases h : v = x
  ·subst h; simp
  ·rw [if_neg h, firstIdx_in v l (i + 1)]; simp [h]
theorem index_s (l : List Int) (v : Int) (hl : l.length ≤ 1000000) : SCalls Try.prog 68 [nums .i64 l, .int .i64 v] [] 0 (.int .i64 (firstIdx v l 0)) [] := by
 refine scalls_of (N := 19) Try.func68 rfl rfl (by kernel_rfl) comp_c_index (by simp) (by repeat' (first | exact trivial | refine And.intro ?_ ?_ | rfl | decide)) (by repeat' (first | exact trivial | refine And.intro ?_ ?_ | rfl | decide)) ?_
 rintro X hP hN hm
 have hF : firstIdx v l 0 = firstIdx v (l.drop 0) 0 := rfl
 generalize firstIdx v l 0 = F at hF
 replace hF := Lib.hid hF
 unfold c_index
 repeat' (first | (with_reducible first | refine zA ?_ | refine swp_block1 ?_ | refine swp_block2 ?_ | refine zK ?_) | ((with_reducible first | refine swp_reg ?_ | refine swp_regd (by rw [hP]; exact mixed) ?_); (try rw [hP]); simp -implicitDefEqProofs [*]) | ((with_reducible first | refine swp_skip ?_ | refine swp_exit ?_); (try simp -implicitDefEqProofs [*])) | ((with_reducible refine swp_ret ?_); (try simp only [qseq_r, qblock_r, qloop_r])) | ((with_reducible refine swp_cond rfl (fun h => ?_) (fun h => ?_)) <;> have h' := h <;> (try simp at h') <;> (try subst h')) | ((with_reducible refine sopsg_cases (fun h => ?_) (fun h => ?_)) <;> have h' := h <;> (try simp at h') <;> (try subst h') <;> simp -implicitDefEqProofs [*]) | ((with_reducible refine sopsk_rg ?_ ?_); (first | omega | (unfold maxLen; omega)); simp -implicitDefEqProofs [*]) | (with_reducible first | refine zM hm ?_ | refine zN hm ?_ | refine zO hm ?_ | refine zP hm ?_) | fail)
 refine swp_block (swp_for (fun s (i : Nat) => s.turn [(8, .int .i64 i)] []) (fun i => i ≤ l.length ∧ F = firstIdx v (l.drop i) i) (fun i => l.length - i) 0 ?_ ⟨by simp, hF.out⟩ ?_)
 ·repeat' (first | ((with_reducible refine wk_self [] hm ?_ ?_ ?_ ?_) <;> (try simp only [zT, puth, Nat.reduceEqDiff, reduceIte, Nat.reduceAdd])) | (with_reducible first | refine za ?_ ?_ | refine zb ?_ ?_ ?_ ?_ | refine zc ?_ ?_ ?_ ?_ | refine zd ?_ ?_ ?_ ?_ | refine objsM_abs ?_ ?_ | refine subH_cons ?_ ?_) | (with_reducible first | exact slotsM_nil | exact objsM_nil | exact subH_nil | exact coL_nilm | exact Co.refl _ | exact CoL.refl _ | exact CoLL.refl _) | ((with_reducible first | refine zga ?_ | refine zgb ?_); rfl) | ((with_reducible refine zgc ?_); (first | (with_reducible rfl) | rfl | (simp; done))) | ((with_reducible first | refine zgd ?_ | refine zge ?_); (first | omega | (simp; done))) | (refine co_wrap ⟨?_, ?_⟩ ?_ <;> omega) | (exact Co.refl _) | (exact CoL.refl _) | (exact CoLL.refl _) | (refine co_own ?_; omega) | (refine co_int ?_; first | omega | (simp_all; done)) | (with_reducible first | refine coL_cons ?_ ?_ | refine coL_consm ?_ ?_) | fail)
 rintro J hJ i ⟨h1, h2⟩
 unfold c_index_l1
 simp only [zT, puth, Nat.reduceEqDiff, reduceIte, Nat.reduceAdd] at h1 h2 ⊢
 rcases Nat.lt_or_ge i l.length with hi | hi
 ·rw [firstIdx_drop v hi] at h2
  generalize hxx : l[i] = x at h2
  have wi : IntKind.i64.wrap ((i : Int) + 1) = (i : Int) + 1 := i64_add_ (by omega) (by omega)
  replace h2 := Lib.hid h2
  cases hv : (v == x)
  ·have hv' : ¬ v = x := by simpa using hv
   repeat' (first | (with_reducible first | refine zA ?_ | refine swp_block1 ?_ | refine swp_block2 ?_ | refine zK ?_) | ((with_reducible first | refine swp_reg ?_ | refine swp_regd (by rw [hP]; exact mixed) ?_); (try rw [hP]); simp -implicitDefEqProofs [*]) | ((with_reducible first | refine swp_skip ?_ | refine swp_exit ?_); (try simp -implicitDefEqProofs [*])) | ((with_reducible refine swp_ret ?_); (try simp only [qseq_r, qblock_r, qloop_r])) | ((with_reducible refine swp_cond rfl (fun h => ?_) (fun h => ?_)) <;> have h' := h <;> (try simp at h') <;> (try subst h')) | ((with_reducible refine sopsg_cases (fun h => ?_) (fun h => ?_)) <;> have h' := h <;> (try simp at h') <;> (try subst h') <;> simp -implicitDefEqProofs [*]) | ((with_reducible refine sopsk_rg ?_ ?_); (first | omega | (unfold maxLen; omega)); simp -implicitDefEqProofs [*]) | (with_reducible first | refine zM hm ?_ | refine zN hm ?_ | refine zO hm ?_ | refine zP hm ?_) | ((with_reducible refine wk_self [] hm ?_ ?_ ?_ ?_) <;> (try simp only [zT, puth, Nat.reduceEqDiff, reduceIte, Nat.reduceAdd])) | (with_reducible first | refine za ?_ ?_ | refine zb ?_ ?_ ?_ ?_ | refine zc ?_ ?_ ?_ ?_ | refine zd ?_ ?_ ?_ ?_ | refine objsM_abs ?_ ?_ | refine subH_cons ?_ ?_) | (with_reducible first | exact slotsM_nil | exact objsM_nil | exact subH_nil | exact coL_nilm | exact Co.refl _ | exact CoL.refl _ | exact CoLL.refl _) | ((with_reducible first | refine zga ?_ | refine zgb ?_); rfl) | ((with_reducible refine zgc ?_); (first | (with_reducible rfl) | rfl | (simp; done))) | ((with_reducible first | refine zgd ?_ | refine zge ?_); (first | omega | (simp; done))) | (refine co_wrap ⟨?_, ?_⟩ ?_ <;> omega) | (exact Co.refl _) | (exact CoL.refl _) | (exact CoLL.refl _) | (refine co_own ?_; omega) | (refine co_int ?_; first | omega | (simp_all; done)) | (with_reducible first | refine coL_cons ?_ ?_ | refine coL_consm ?_ ?_) | ((refine qfor_next hJ (i + 1) ?_ ?_ ?_; (with_reducible refine wk_self [] hm ?_ ?_ ?_ ?_) <;> (try simp only [zT, puth, Nat.reduceEqDiff, reduceIte, Nat.reduceAdd]))) | fail)
   exact ⟨by omega, by rw [h2.out, if_neg hv']⟩
  ·have hv' : v = x := by simpa using hv
   replace hv' := Lib.hid hv'
   repeat' (first | (with_reducible first | refine zA ?_ | refine swp_block1 ?_ | refine swp_block2 ?_ | refine zK ?_) | ((with_reducible first | refine swp_reg ?_ | refine swp_regd (by rw [hP]; exact mixed) ?_); (try rw [hP]); simp -implicitDefEqProofs [*]) | ((with_reducible first | refine swp_skip ?_ | refine swp_exit ?_); (try simp -implicitDefEqProofs [*])) | ((with_reducible refine swp_ret ?_); (try simp only [qseq_r, qblock_r, qloop_r])) | ((with_reducible refine swp_cond rfl (fun h => ?_) (fun h => ?_)) <;> have h' := h <;> (try simp at h') <;> (try subst h')) | ((with_reducible refine sopsg_cases (fun h => ?_) (fun h => ?_)) <;> have h' := h <;> (try simp at h') <;> (try subst h') <;> simp -implicitDefEqProofs [*]) | ((with_reducible refine sopsk_rg ?_ ?_); (first | omega | (unfold maxLen; omega)); simp -implicitDefEqProofs [*]) | (with_reducible first | refine zM hm ?_ | refine zN hm ?_ | refine zO hm ?_ | refine zP hm ?_) | fail)
   rw [h2.out, if_pos hv'.out]
 ·obtain rfl : i = l.length := by omega
  rw [List.drop_length] at h2
  replace h2 := Lib.hid h2
  repeat' (first | (with_reducible first | refine zA ?_ | refine swp_block1 ?_ | refine swp_block2 ?_ | refine zK ?_) | ((with_reducible first | refine swp_reg ?_ | refine swp_regd (by rw [hP]; exact mixed) ?_); (try rw [hP]); simp -implicitDefEqProofs [*]) | ((with_reducible first | refine swp_skip ?_ | refine swp_exit ?_); (try simp -implicitDefEqProofs [*])) | ((with_reducible refine swp_ret ?_); (try simp only [qseq_r, qblock_r, qloop_r])) | ((with_reducible refine swp_cond rfl (fun h => ?_) (fun h => ?_)) <;> have h' := h <;> (try simp at h') <;> (try subst h')) | ((with_reducible refine sopsg_cases (fun h => ?_) (fun h => ?_)) <;> have h' := h <;> (try simp at h') <;> (try subst h') <;> simp -implicitDefEqProofs [*]) | ((with_reducible refine sopsk_rg ?_ ?_); (first | omega | (unfold maxLen; omega)); simp -implicitDefEqProofs [*]) | (with_reducible first | refine zM hm ?_ | refine zN hm ?_ | refine zO hm ?_ | refine zP hm ?_) | fail)
  rw [h2.out]; rfl
theorem contains_s (l : List Int) (v : Int) (hl : l.length ≤ 1000000) (q : Nat) : SCalls Try.prog 38 [nums .i64 l, .int .i64 v] [] q (.bool (l.contains v)) [] := by
 refine scalls_q ?_ (fun _ => rfl) (fun _ => rfl) rfl q
 refine scalls_of (N := 9) Try.func38 rfl rfl (by kernel_rfl) comp_c_contains (by simp) (by repeat' (first | exact trivial | refine And.intro ?_ ?_ | rfl | decide)) (by repeat' (first | exact trivial | refine And.intro ?_ ?_ | rfl | decide)) ?_
 rintro X hP hN hm
 have hi := firstIdx_in v l 0
 have hc := fun q => scalls_q (index_s l v hl) (fun _ => rfl) (fun _ => rfl) rfl q
 generalize firstIdx v l 0 = I at hi hc
 unfold c_contains
 repeat' (first | (with_reducible first | refine zA ?_ | refine swp_block1 ?_ | refine swp_block2 ?_ | refine zK ?_) | ((with_reducible first | refine swp_reg ?_ | refine swp_regd (by rw [hP]; exact mixed) ?_); (try rw [hP]); simp -implicitDefEqProofs [*]) | ((with_reducible first | refine swp_skip ?_ | refine swp_exit ?_); (try simp -implicitDefEqProofs [*])) | ((with_reducible refine swp_ret ?_); (try simp only [qseq_r, qblock_r, qloop_r])) | ((with_reducible refine swp_cond rfl (fun h => ?_) (fun h => ?_)) <;> have h' := h <;> (try simp at h') <;> (try subst h')) | ((with_reducible refine sopsg_cases (fun h => ?_) (fun h => ?_)) <;> have h' := h <;> (try simp at h') <;> (try subst h') <;> simp -implicitDefEqProofs [*]) | ((with_reducible refine sopsk_rg ?_ ?_); (first | omega | (unfold maxLen; omega)); simp -implicitDefEqProofs [*]) | (refine call_q (hc _) ?_; simp -implicitDefEqProofs [*]) | (with_reducible first | refine zM hm ?_ | refine zN hm ?_ | refine zO hm ?_ | refine zP hm ?_) | fail)
 all_goals (exact decide_eq_decide.2 Iff.rfl)
def wrow (p : PlanD) (l : List RefD) (i : Nat) : List (List SV) := (l.take i).map fun r => [.int .i64 (widthOf p r [])]
instance (p : PlanD) (l : List RefD) (i : Nat) : PureR (wrow p l i) := ⟨fun σ => by unfold wrow; rw [List.map_map]; rfl, fun x hx => by obtain ⟨b, _, rfl⟩ := List.mem_map.1 hx; rfl, fun x hx => by obtain ⟨b, _, rfl⟩ := List.mem_map.1 hx; exact pureL_ints _ rfl⟩
theorem wrow_len (p : PlanD) {l : List RefD} {i : Nat} (hi : i ≤ l.length) : (wrow p l i).length = i := by unfold wrow; simp; omega
theorem wrow_succ (p : PlanD) {l : List RefD} {i : Nat} (hi : i < l.length) : wrow p l i ++ [[.int .i64 (widthOf p l[i] [])]] = wrow p l (i + 1) := by
 unfold wrow; rw [List.take_succ_eq_append_getElem hi, List.map_append]; rfl
theorem wrow_all (p : PlanD) (t : TabD) : SV.view 1 (wrow p t.keys t.keys.length) = nums .i64 (widthsOf p t) := by
 unfold wrow nums widthsOf; rw [List.take_length, List.map_map]; rfl
theorem widths_s (p : PlanD) (t : TabD) (hl : t.keys.length ≤ 1000000) : SCalls Try.prog 12 [.agg (planc p), .agg (tabc t)] [] 0 (nums .i64 (widthsOf p t)) [] := by
 rw [← wrow_all]
 refine scalls_of (N := 23) Try.func12 rfl rfl (by kernel_rfl) comp_c_widths (by simp) (by repeat' (first | exact trivial | refine And.intro ?_ ?_ | rfl | decide)) (by repeat' (first | exact trivial | refine And.intro ?_ ?_ | rfl | decide)) ?_
 rintro X hP hN hm
 unfold c_widths
 repeat' (first | (with_reducible first | refine zA ?_ | refine swp_block1 ?_ | refine swp_block2 ?_ | refine zK ?_) | ((with_reducible first | refine swp_reg ?_ | refine swp_regd (by rw [hP]; exact mixed) ?_); (try rw [hP]); simp -implicitDefEqProofs [*]) | ((with_reducible first | refine swp_skip ?_ | refine swp_exit ?_); (try simp -implicitDefEqProofs [*])) | ((with_reducible refine swp_ret ?_); (try simp only [qseq_r, qblock_r, qloop_r])) | ((with_reducible refine swp_cond rfl (fun h => ?_) (fun h => ?_)) <;> have h' := h <;> (try simp at h') <;> (try subst h')) | ((with_reducible refine sopsg_cases (fun h => ?_) (fun h => ?_)) <;> have h' := h <;> (try simp at h') <;> (try subst h') <;> simp -implicitDefEqProofs [*]) | ((with_reducible refine sopsk_rg ?_ ?_); (first | omega | (unfold maxLen; omega)); simp -implicitDefEqProofs [*]) | (with_reducible first | refine zM hm ?_ | refine zN hm ?_ | refine zO hm ?_ | refine zP hm ?_) | fail)
 refine swp_wk (wk_adoptS 5 3 1 rfl) ?_
 simp only [zT, puth, Nat.reduceEqDiff, reduceIte, Nat.reduceAdd]
 refine swp_block (swp_for (fun s (i : Nat) => s.turn [(5, .own 8 i), (11, .int .i64 i)] [(8, .row 3 1 (wrow p t.keys i))]) (fun i => i ≤ t.keys.length) (fun i => t.keys.length - i) 0 ?_ (by simp) ?_)
 ·repeat' (first | ((with_reducible refine wk_self [] hm ?_ ?_ ?_ ?_) <;> (try simp only [zT, puth, Nat.reduceEqDiff, reduceIte, Nat.reduceAdd])) | (with_reducible first | refine za ?_ ?_ | refine zb ?_ ?_ ?_ ?_ | refine zc ?_ ?_ ?_ ?_ | refine zd ?_ ?_ ?_ ?_ | refine objsM_abs ?_ ?_ | refine subH_cons ?_ ?_) | (with_reducible first | exact slotsM_nil | exact objsM_nil | exact subH_nil | exact coL_nilm | exact Co.refl _ | exact CoL.refl _ | exact CoLL.refl _) | ((with_reducible first | refine zga ?_ | refine zgb ?_); rfl) | ((with_reducible refine zgc ?_); (first | (with_reducible rfl) | rfl | (simp; done))) | ((with_reducible first | refine zgd ?_ | refine zge ?_); (first | omega | (simp; done))) | (refine co_wrap ⟨?_, ?_⟩ ?_ <;> omega) | (exact Co.refl _) | (exact CoL.refl _) | (exact CoLL.refl _) | (refine co_own ?_; omega) | (refine co_int ?_; first | omega | (simp_all; done)) | (with_reducible first | refine coL_cons ?_ ?_ | refine coL_consm ?_ ?_) | fail)
 rintro J hJ i hi
 unfold c_widths_l1
 simp only [zT, puth, Nat.reduceEqDiff, reduceIte, Nat.reduceAdd]
 have hlen := wrow_len p hi
 have hb1 : i + 1 ≤ maxLen := by unfold maxLen; omega
 rcases Nat.lt_or_ge i t.keys.length with h | h
 ·have wi : IntKind.i64.wrap ((i : Int) + 1) = (i : Int) + 1 := i64_add_ (by omega) (by omega)
  have hrow := wrow_succ p h
  generalize hr : t.keys[i] = r at hrow
  repeat' (first | (with_reducible first | refine zA ?_ | refine swp_block1 ?_ | refine swp_block2 ?_ | refine zK ?_) | ((with_reducible first | refine swp_reg ?_ | refine swp_regd (by rw [hP]; exact mixed) ?_); (try rw [hP]); simp -implicitDefEqProofs [*]) | ((with_reducible first | refine swp_skip ?_ | refine swp_exit ?_); (try simp -implicitDefEqProofs [*])) | ((with_reducible refine swp_ret ?_); (try simp only [qseq_r, qblock_r, qloop_r])) | ((with_reducible refine swp_cond rfl (fun h => ?_) (fun h => ?_)) <;> have h' := h <;> (try simp at h') <;> (try subst h')) | ((with_reducible refine sopsg_cases (fun h => ?_) (fun h => ?_)) <;> have h' := h <;> (try simp at h') <;> (try subst h') <;> simp -implicitDefEqProofs [*]) | ((with_reducible refine sopsk_rg ?_ ?_); (first | omega | (unfold maxLen; omega)); simp -implicitDefEqProofs [*]) | (refine call_q (call_width0 p r _) ?_; simp -implicitDefEqProofs [*]) | (with_reducible first | refine zM hm ?_ | refine zN hm ?_ | refine zO hm ?_ | refine zP hm ?_) | ((with_reducible refine wk_self [] hm ?_ ?_ ?_ ?_) <;> (try simp only [zT, puth, Nat.reduceEqDiff, reduceIte, Nat.reduceAdd])) | (with_reducible first | refine za ?_ ?_ | refine zb ?_ ?_ ?_ ?_ | refine zc ?_ ?_ ?_ ?_ | refine zd ?_ ?_ ?_ ?_ | refine objsM_abs ?_ ?_ | refine subH_cons ?_ ?_) | (with_reducible first | exact slotsM_nil | exact objsM_nil | exact subH_nil | exact coL_nilm | exact Co.refl _ | exact CoL.refl _ | exact CoLL.refl _) | ((with_reducible first | refine zga ?_ | refine zgb ?_); rfl) | ((with_reducible refine zgc ?_); (first | (with_reducible rfl) | rfl | (simp; done))) | ((with_reducible first | refine zgd ?_ | refine zge ?_); (first | omega | (simp; done))) | (refine co_wrap ⟨?_, ?_⟩ ?_ <;> omega) | (exact Co.refl _) | (exact CoL.refl _) | (exact CoLL.refl _) | (refine co_own ?_; omega) | (refine co_int ?_; first | omega | (simp_all; done)) | (with_reducible first | refine coL_cons ?_ ?_ | refine coL_consm ?_ ?_) | ((refine qfor_next hJ (i + 1) ?_ ?_ ?_; (with_reducible refine wk_self [(8, ?_)] hm ?_ ?_ ?_ ?_) <;> (try simp only [zT, puth, Nat.reduceEqDiff, reduceIte, Nat.reduceAdd]))) | fail)
 ·obtain rfl : i = t.keys.length := by omega
  repeat' (first | ((with_reducible refine swp_stop (c := .seq (.reg false c_widths_r8 [4]) .ret) ?_)) | (with_reducible first | refine zA ?_ | refine swp_block1 ?_ | refine swp_block2 ?_ | refine zK ?_) | ((with_reducible first | refine swp_reg ?_ | refine swp_regd (by rw [hP]; exact mixed) ?_); (try rw [hP]); simp -implicitDefEqProofs [*]) | ((with_reducible first | refine swp_skip ?_ | refine swp_exit ?_); (try simp -implicitDefEqProofs [*])) | ((with_reducible refine swp_ret ?_); (try simp only [qseq_r, qblock_r, qloop_r])) | ((with_reducible refine swp_cond rfl (fun h => ?_) (fun h => ?_)) <;> have h' := h <;> (try simp at h') <;> (try subst h')) | ((with_reducible refine sopsg_cases (fun h => ?_) (fun h => ?_)) <;> have h' := h <;> (try simp at h') <;> (try subst h') <;> simp -implicitDefEqProofs [*]) | ((with_reducible refine sopsk_rg ?_ ?_); (first | omega | (unfold maxLen; omega)); simp -implicitDefEqProofs [*]) | (with_reducible first | refine zM hm ?_ | refine zN hm ?_ | refine zO hm ?_ | refine zP hm ?_) | fail)
  constructor
  refine swp_frz [8] ?_ ?_
  ·simp only [FrzOk, geth, Nat.reduceEqDiff, reduceIte, pureR_O, and_true]
  have htk : (wrow p t.keys t.keys.length).take t.keys.length = wrow p t.keys t.keys.length := List.take_of_length_le (by omega)
  simp -implicitDefEqProofs [htk, hlen, Nat.le_refl]
  repeat' (first | (with_reducible first | refine zA ?_ | refine swp_block1 ?_ | refine swp_block2 ?_ | refine zK ?_) | ((with_reducible first | refine swp_reg ?_ | refine swp_regd (by rw [hP]; exact mixed) ?_); (try rw [hP]); simp -implicitDefEqProofs [*]) | ((with_reducible first | refine swp_skip ?_ | refine swp_exit ?_); (try simp -implicitDefEqProofs [*])) | ((with_reducible refine swp_ret ?_); (try simp only [qseq_r, qblock_r, qloop_r])) | ((with_reducible refine swp_cond rfl (fun h => ?_) (fun h => ?_)) <;> have h' := h <;> (try simp at h') <;> (try subst h')) | ((with_reducible refine sopsg_cases (fun h => ?_) (fun h => ?_)) <;> have h' := h <;> (try simp at h') <;> (try subst h') <;> simp -implicitDefEqProofs [*]) | ((with_reducible refine sopsk_rg ?_ ?_); (first | omega | (unfold maxLen; omega)); simp -implicitDefEqProofs [*]) | (with_reducible first | refine zM hm ?_ | refine zN hm ?_ | refine zO hm ?_ | refine zP hm ?_) | (refine fin_tmp hm ?_ (noN_view _ _)) | fail)
  rfl
end Go.Proofs.Ytnfjldobjgdiaaa
namespace Go.Proofs.Ytnfjldobjgdiaaa
set_option linter.all false
open Go.RowKit
attribute [local simp] sops_nil sops_run sopsk_some sops_call sops_guard sopsg_yes sopsg_tf sopsg_ft sopsg_undef rg_true SOp.run SX.ev putd puts argS upds SOp.touch SSt.keep SSt.skip gets geth puth delh idOf SV.cells? setL fillS fillR sbin eq0 eq1 eqL rowOf qseq_n qseq_e qseq_r qblock_n qblock_r qblock_e qloop_e qloop_r take_map_len FrzOk pureV_int pureV_bool pureV_str pureV_nil pureV_nilsl pureV_view pureV_cp pureL_nil_ pureL_cons_ pureO_row pureO_cells frzS frzH frz frz1 frz0 SlotsM ObjsM ObjM rn ren ren1 ren0 co_self co_int co_own co_view co_nilsl co_agg co_tup CoL coll_self mergeH dels adds idsH okNames
attribute [local simp] headc refc pushc casec statec opc actc tabc nodec planc nums
theorem rwidths_s (p : PlanD) (t : TabD) (hl : t.keys.length ≤ 1000000) (q : Nat) : SCalls Try.prog 13 [.agg (planc p), .agg (tabc t)] [] q (nums .i64 (widthsOf p t)) [] := by
 refine scalls_q ?_ (fun _ => rfl) (fun _ => rfl) rfl q
 rw [← wrow_all]
 refine scalls_of (N := 25) Try.func13 rfl rfl (by kernel_rfl) comp_c_rwidths (by simp) (by repeat' (first | exact trivial | refine And.intro ?_ ?_ | rfl | decide)) (by repeat' (first | exact trivial | refine And.intro ?_ ?_ | rfl | decide)) ?_
 rintro X hP hN hm
 unfold c_rwidths
 repeat' (first | (with_reducible first | refine zA ?_ | refine swp_block1 ?_ | refine swp_block2 ?_ | refine zK ?_) | ((with_reducible first | refine swp_reg ?_ | refine swp_regd (by rw [hP]; exact mixed) ?_); (try rw [hP]); simp -implicitDefEqProofs [*]) | ((with_reducible first | refine swp_skip ?_ | refine swp_exit ?_); (try simp -implicitDefEqProofs [*])) | ((with_reducible refine swp_ret ?_); (try simp only [qseq_r, qblock_r, qloop_r])) | ((with_reducible refine swp_cond rfl (fun h => ?_) (fun h => ?_)) <;> have h' := h <;> (try simp at h') <;> (try subst h')) | ((with_reducible refine sopsg_cases (fun h => ?_) (fun h => ?_)) <;> have h' := h <;> (try simp at h') <;> (try subst h') <;> simp -implicitDefEqProofs [*]) | ((with_reducible refine sopsk_rg ?_ ?_); (first | omega | (unfold maxLen; omega)); simp -implicitDefEqProofs [*]) | (with_reducible first | refine zM hm ?_ | refine zN hm ?_ | refine zO hm ?_ | refine zP hm ?_) | fail)
 refine swp_wk (wk_adoptS 5 3 1 rfl) ?_
 simp only [zT, puth, Nat.reduceEqDiff, reduceIte, Nat.reduceAdd]
 refine swp_block (swp_for (fun s (i : Nat) => s.turn [(5, .own 5 i), (6, .int .i64 i)] [(5, .row 3 1 (wrow p t.keys i))]) (fun i => i ≤ t.keys.length) (fun i => t.keys.length - i) 0 ?_ (by simp) ?_)
 ·repeat' (first | ((with_reducible refine wk_self [] hm ?_ ?_ ?_ ?_) <;> (try simp only [zT, puth, Nat.reduceEqDiff, reduceIte, Nat.reduceAdd])) | (with_reducible first | refine za ?_ ?_ | refine zb ?_ ?_ ?_ ?_ | refine zc ?_ ?_ ?_ ?_ | refine zd ?_ ?_ ?_ ?_ | refine objsM_abs ?_ ?_ | refine subH_cons ?_ ?_) | (with_reducible first | exact slotsM_nil | exact objsM_nil | exact subH_nil | exact coL_nilm | exact Co.refl _ | exact CoL.refl _ | exact CoLL.refl _) | ((with_reducible first | refine zga ?_ | refine zgb ?_); rfl) | ((with_reducible refine zgc ?_); (first | (with_reducible rfl) | rfl | (simp; done))) | ((with_reducible first | refine zgd ?_ | refine zge ?_); (first | omega | (simp; done))) | (refine co_wrap ⟨?_, ?_⟩ ?_ <;> omega) | (exact Co.refl _) | (exact CoL.refl _) | (exact CoLL.refl _) | (refine co_own ?_; omega) | (refine co_int ?_; first | omega | (simp_all; done)) | (with_reducible first | refine coL_cons ?_ ?_ | refine coL_consm ?_ ?_) | fail)
 rintro J hJ i hi
 unfold c_rwidths_l1
 simp only [zT, puth, Nat.reduceEqDiff, reduceIte, Nat.reduceAdd]
 have hlen := wrow_len p hi
 have hb1 : i + 1 ≤ maxLen := by unfold maxLen; omega
 rcases Nat.lt_or_ge i t.keys.length with h | h
 ·have wi : IntKind.i64.wrap ((i : Int) + 1) = (i : Int) + 1 := i64_add_ (by omega) (by omega)
  have hrow := wrow_succ p h
  generalize hr : t.keys[i] = r at hrow
  repeat' (first | (with_reducible first | refine zA ?_ | refine swp_block1 ?_ | refine swp_block2 ?_ | refine zK ?_) | ((with_reducible first | refine swp_reg ?_ | refine swp_regd (by rw [hP]; exact mixed) ?_); (try rw [hP]); simp -implicitDefEqProofs [*]) | ((with_reducible first | refine swp_skip ?_ | refine swp_exit ?_); (try simp -implicitDefEqProofs [*])) | ((with_reducible refine swp_ret ?_); (try simp only [qseq_r, qblock_r, qloop_r])) | ((with_reducible refine swp_cond rfl (fun h => ?_) (fun h => ?_)) <;> have h' := h <;> (try simp at h') <;> (try subst h')) | ((with_reducible refine sopsg_cases (fun h => ?_) (fun h => ?_)) <;> have h' := h <;> (try simp at h') <;> (try subst h') <;> simp -implicitDefEqProofs [*]) | ((with_reducible refine sopsk_rg ?_ ?_); (first | omega | (unfold maxLen; omega)); simp -implicitDefEqProofs [*]) | (refine call_q (rwidth0_s p r _) ?_; simp -implicitDefEqProofs [*]) | (with_reducible first | refine zM hm ?_ | refine zN hm ?_ | refine zO hm ?_ | refine zP hm ?_) | ((with_reducible refine wk_self [] hm ?_ ?_ ?_ ?_) <;> (try simp only [zT, puth, Nat.reduceEqDiff, reduceIte, Nat.reduceAdd])) | (with_reducible first | refine za ?_ ?_ | refine zb ?_ ?_ ?_ ?_ | refine zc ?_ ?_ ?_ ?_ | refine zd ?_ ?_ ?_ ?_ | refine objsM_abs ?_ ?_ | refine subH_cons ?_ ?_) | (with_reducible first | exact slotsM_nil | exact objsM_nil | exact subH_nil | exact coL_nilm | exact Co.refl _ | exact CoL.refl _ | exact CoLL.refl _) | ((with_reducible first | refine zga ?_ | refine zgb ?_); rfl) | ((with_reducible refine zgc ?_); (first | (with_reducible rfl) | rfl | (simp; done))) | ((with_reducible first | refine zgd ?_ | refine zge ?_); (first | omega | (simp; done))) | (refine co_wrap ⟨?_, ?_⟩ ?_ <;> omega) | (exact Co.refl _) | (exact CoL.refl _) | (exact CoLL.refl _) | (refine co_own ?_; omega) | (refine co_int ?_; first | omega | (simp_all; done)) | (with_reducible first | refine coL_cons ?_ ?_ | refine coL_consm ?_ ?_) | ((refine qfor_next hJ (i + 1) ?_ ?_ ?_; (with_reducible refine wk_self [(5, ?_)] hm ?_ ?_ ?_ ?_) <;> (try simp only [zT, puth, Nat.reduceEqDiff, reduceIte, Nat.reduceAdd]))) | fail)
 ·obtain rfl : i = t.keys.length := by omega
  repeat' (first | ((with_reducible refine swp_stop (c := .seq (.reg false c_rwidths_r7 [4]) .ret) ?_)) | (with_reducible first | refine zA ?_ | refine swp_block1 ?_ | refine swp_block2 ?_ | refine zK ?_) | ((with_reducible first | refine swp_reg ?_ | refine swp_regd (by rw [hP]; exact mixed) ?_); (try rw [hP]); simp -implicitDefEqProofs [*]) | ((with_reducible first | refine swp_skip ?_ | refine swp_exit ?_); (try simp -implicitDefEqProofs [*])) | ((with_reducible refine swp_ret ?_); (try simp only [qseq_r, qblock_r, qloop_r])) | ((with_reducible refine swp_cond rfl (fun h => ?_) (fun h => ?_)) <;> have h' := h <;> (try simp at h') <;> (try subst h')) | ((with_reducible refine sopsg_cases (fun h => ?_) (fun h => ?_)) <;> have h' := h <;> (try simp at h') <;> (try subst h') <;> simp -implicitDefEqProofs [*]) | ((with_reducible refine sopsk_rg ?_ ?_); (first | omega | (unfold maxLen; omega)); simp -implicitDefEqProofs [*]) | (with_reducible first | refine zM hm ?_ | refine zN hm ?_ | refine zO hm ?_ | refine zP hm ?_) | fail)
  constructor
  refine swp_frz [5] ?_ ?_
  ·simp only [FrzOk, geth, Nat.reduceEqDiff, reduceIte, pureR_O, and_true]
  have htk : (wrow p t.keys t.keys.length).take t.keys.length = wrow p t.keys t.keys.length := List.take_of_length_le (by omega)
  simp -implicitDefEqProofs [htk, hlen, Nat.le_refl]
  repeat' (first | (with_reducible first | refine zA ?_ | refine swp_block1 ?_ | refine swp_block2 ?_ | refine zK ?_) | ((with_reducible first | refine swp_reg ?_ | refine swp_regd (by rw [hP]; exact mixed) ?_); (try rw [hP]); simp -implicitDefEqProofs [*]) | ((with_reducible first | refine swp_skip ?_ | refine swp_exit ?_); (try simp -implicitDefEqProofs [*])) | ((with_reducible refine swp_ret ?_); (try simp only [qseq_r, qblock_r, qloop_r])) | ((with_reducible refine swp_cond rfl (fun h => ?_) (fun h => ?_)) <;> have h' := h <;> (try simp at h') <;> (try subst h')) | ((with_reducible refine sopsg_cases (fun h => ?_) (fun h => ?_)) <;> have h' := h <;> (try simp at h') <;> (try subst h') <;> simp -implicitDefEqProofs [*]) | ((with_reducible refine sopsk_rg ?_ ?_); (first | omega | (unfold maxLen; omega)); simp -implicitDefEqProofs [*]) | (with_reducible first | refine zM hm ?_ | refine zN hm ?_ | refine zO hm ?_ | refine zP hm ?_) | (refine fin_tmp hm ?_ (noN_view _ _)) | fail)
  rfl
end Go.Proofs.Ytnfjldobjgdiaaa
namespace Go.Proofs.Ytnfjldobjgdiaaa
set_option linter.all false
open Go.RowKit
attribute [local simp] sops_nil sops_run sopsk_some sops_call sops_guard sopsg_yes sopsg_tf sopsg_ft sopsg_undef rg_true SOp.run SX.ev putd puts argS upds SOp.touch SSt.keep SSt.skip gets geth puth delh idOf SV.cells? setL fillS fillR sbin eq0 eq1 eqL rowOf qseq_n qseq_e qseq_r qblock_n qblock_r qblock_e qloop_e qloop_r take_map_len FrzOk pureV_int pureV_bool pureV_str pureV_nil pureV_nilsl pureV_view pureV_cp pureL_nil_ pureL_cons_ pureO_row pureO_cells frzS frzH frz frz1 frz0 SlotsM ObjsM ObjM rn ren ren1 ren0 co_self co_int co_own co_view co_nilsl co_agg co_tup CoL coll_self mergeH dels adds idsH okNames
attribute [local simp] headc refc pushc casec statec opc actc tabc nodec planc nums jc
theorem wideAny_drop {xs ks : List Int} {i : Nat} (h1 : i < xs.length) (h2 : i < ks.length) : wideAny (xs.drop i) (ks.drop i) = (wideI xs[i] ks[i] || wideAny (xs.drop (i + 1)) (ks.drop (i + 1))) := by
 rw [List.drop_eq_getElem_cons h1, List.drop_eq_getElem_cons h2]; rfl
def AW (acts : List ActD) : Prop := ∀ a ∈ acts, ∀ w ∈ a.w, 0 ≤ w ∧ w ≤ 48
theorem says_s (t : TabD) (acts : List ActD) (act : Int) (args : List Int) (ha : AW acts) (hl : t.acts.length ≤ 1000000) (hl2 : args.length ≤ 1000000) (hr : ∀ k ∈ t.acts, 0 ≤ k ∧ k < acts.length) (q : Nat) : SCalls Try.prog 87 [.agg (tabc t), .view 2 (acts.map actc), .int .i64 act, nums .u64 args] [] q (.int .i64 (saysF t.acts acts act args)) [] := by
 refine scalls_q ?_ (fun _ => rfl) (fun _ => rfl) rfl q
 refine scalls_of (N := 42) Try.func87 rfl rfl (by kernel_rfl) comp_c_says (by simp) (by repeat' (first | exact trivial | refine And.intro ?_ ?_ | rfl | decide)) (by repeat' (first | exact trivial | refine And.intro ?_ ?_ | rfl | decide)) ?_
 rintro X hP hN hm
 have hc := fun q => contains_s t.acts act hl q
 unfold c_says
 cases hin : t.acts.contains act
 ·rw [hin] at hc
  have hz : saysF t.acts acts act args = 5 := by unfold saysF; rw [hin]; rfl
  rw [hz]
  repeat' (first | (with_reducible first | refine zA ?_ | refine swp_block1 ?_ | refine swp_block2 ?_ | refine zK ?_) | ((with_reducible first | refine swp_reg ?_ | refine swp_regd (by rw [hP]; exact mixed) ?_); (try rw [hP]); simp -implicitDefEqProofs [*]) | ((with_reducible first | refine swp_skip ?_ | refine swp_exit ?_); (try simp -implicitDefEqProofs [*])) | ((with_reducible refine swp_ret ?_); (try simp only [qseq_r, qblock_r, qloop_r])) | ((with_reducible refine swp_cond rfl (fun h => ?_) (fun h => ?_)) <;> have h' := h <;> (try simp at h') <;> (try subst h')) | ((with_reducible refine sopsg_cases (fun h => ?_) (fun h => ?_)) <;> have h' := h <;> (try simp at h') <;> (try subst h') <;> simp -implicitDefEqProofs [*]) | ((with_reducible refine sopsk_rg ?_ ?_); (first | omega | (unfold maxLen; omega)); simp -implicitDefEqProofs [*]) | (refine call_q (hc _) ?_; simp -implicitDefEqProofs [*]) | (with_reducible first | refine zM hm ?_ | refine zN hm ?_ | refine zO hm ?_ | refine zP hm ?_) | fail)
  rfl
 ·rw [hin] at hc
  obtain ⟨hr0, hr1⟩ := hr act (by simpa using hin)
  have hlt : act.toNat < acts.length := by omega
  have hAm := ha acts[act.toNat] (List.getElem_mem hlt)
  have hF : saysF t.acts acts act args = if args.length ≠ acts[act.toNat].w.length then 2 else if wideAny args acts[act.toNat].w = true then 6 else 0 := by
   unfold saysF
   have : actW acts act = acts[act.toNat].w := by unfold actW; rw [List.getElem?_eq_getElem hlt]; rfl
   rw [hin, this]; rfl
  generalize saysF t.acts acts act args = F at hF
  generalize hA : acts[act.toNat] = A at hAm hF
  replace hAm := Lib.hid hAm
  by_cases hlen : args.length = A.w.length
  ·rw [if_neg (by simpa using hlen)] at hF
   have kl : ((args.length : Int) != (A.w.length : Int)) = false := by simp [hlen]
   replace hF := Lib.hid hF
   replace hlen := Lib.hid hlen
   repeat' (first | (with_reducible first | refine zA ?_ | refine swp_block1 ?_ | refine swp_block2 ?_ | refine zK ?_) | ((with_reducible first | refine swp_reg ?_ | refine swp_regd (by rw [hP]; exact mixed) ?_); (try rw [hP]); simp -implicitDefEqProofs [*]) | ((with_reducible first | refine swp_skip ?_ | refine swp_exit ?_); (try simp -implicitDefEqProofs [*])) | ((with_reducible refine swp_ret ?_); (try simp only [qseq_r, qblock_r, qloop_r])) | ((with_reducible refine swp_cond rfl (fun h => ?_) (fun h => ?_)) <;> have h' := h <;> (try simp at h') <;> (try subst h')) | ((with_reducible refine sopsg_cases (fun h => ?_) (fun h => ?_)) <;> have h' := h <;> (try simp at h') <;> (try subst h') <;> simp -implicitDefEqProofs [*]) | ((with_reducible refine sopsk_rg ?_ ?_); (first | omega | (unfold maxLen; omega)); simp -implicitDefEqProofs [*]) | (refine call_q (hc _) ?_; simp -implicitDefEqProofs [*]) | (with_reducible first | refine zM hm ?_ | refine zN hm ?_ | refine zO hm ?_ | refine zP hm ?_) | fail)
   refine swp_block (swp_for (fun s (i : Nat) => s.turn [(29, .int .i64 i)] []) (fun i => i ≤ args.length ∧ F = if wideAny (args.drop i) (A.w.drop i) = true then 6 else 0) (fun i => args.length - i) 0 ?_ ⟨by simp, hF.out⟩ ?_)
   ·repeat' (first | ((with_reducible refine wk_self [] hm ?_ ?_ ?_ ?_) <;> (try simp only [zT, puth, Nat.reduceEqDiff, reduceIte, Nat.reduceAdd])) | (with_reducible first | refine za ?_ ?_ | refine zb ?_ ?_ ?_ ?_ | refine zc ?_ ?_ ?_ ?_ | refine zd ?_ ?_ ?_ ?_ | refine objsM_abs ?_ ?_ | refine subH_cons ?_ ?_) | (with_reducible first | exact slotsM_nil | exact objsM_nil | exact subH_nil | exact coL_nilm | exact Co.refl _ | exact CoL.refl _ | exact CoLL.refl _) | ((with_reducible first | refine zga ?_ | refine zgb ?_); rfl) | ((with_reducible refine zgc ?_); (first | (with_reducible rfl) | rfl | (simp; done))) | ((with_reducible first | refine zgd ?_ | refine zge ?_); (first | omega | (simp; done))) | (refine co_wrap ⟨?_, ?_⟩ ?_ <;> omega) | (exact Co.refl _) | (exact CoL.refl _) | (exact CoLL.refl _) | (refine co_own ?_; omega) | (refine co_int ?_; first | omega | (simp_all; done)) | (with_reducible first | refine coL_cons ?_ ?_ | refine coL_consm ?_ ?_) | fail)
   rintro J hJ i ⟨h1, h2⟩
   unfold c_says_l1
   simp only [zT, puth, Nat.reduceEqDiff, reduceIte, Nat.reduceAdd] at h1 h2 ⊢
   rcases Nat.lt_or_ge i args.length with hi | hi
   ·have hi2 : i < A.w.length := by have := hlen.out; omega
    rw [wideAny_drop hi hi2] at h2
    have hms := fun q => mask_s A.w[i] (hAm.out _ (List.getElem_mem hi2)) q
    generalize hw : A.w[i] = w at h2 hms
    generalize hx : args[i] = x at h2
    have wi : IntKind.i64.wrap ((i : Int) + 1) = (i : Int) + 1 := i64_add_ (by omega) (by omega)
    replace h2 := Lib.hid h2
    cases hv : wideI x w
    ·unfold wideI at hv
     repeat' (first | (with_reducible first | refine zA ?_ | refine swp_block1 ?_ | refine swp_block2 ?_ | refine zK ?_) | ((with_reducible first | refine swp_reg ?_ | refine swp_regd (by rw [hP]; exact mixed) ?_); (try rw [hP]); simp -implicitDefEqProofs [*]) | ((with_reducible first | refine swp_skip ?_ | refine swp_exit ?_); (try simp -implicitDefEqProofs [*])) | ((with_reducible refine swp_ret ?_); (try simp only [qseq_r, qblock_r, qloop_r])) | ((with_reducible refine swp_cond rfl (fun h => ?_) (fun h => ?_)) <;> have h' := h <;> (try simp at h') <;> (try subst h')) | ((with_reducible refine sopsg_cases (fun h => ?_) (fun h => ?_)) <;> have h' := h <;> (try simp at h') <;> (try subst h') <;> simp -implicitDefEqProofs [*]) | ((with_reducible refine sopsk_rg ?_ ?_); (first | omega | (unfold maxLen; omega)); simp -implicitDefEqProofs [*]) | (refine call_q (hms _) ?_; simp -implicitDefEqProofs [*]) | (with_reducible first | refine zM hm ?_ | refine zN hm ?_ | refine zO hm ?_ | refine zP hm ?_) | ((with_reducible refine wk_self [] hm ?_ ?_ ?_ ?_) <;> (try simp only [zT, puth, Nat.reduceEqDiff, reduceIte, Nat.reduceAdd])) | (with_reducible first | refine za ?_ ?_ | refine zb ?_ ?_ ?_ ?_ | refine zc ?_ ?_ ?_ ?_ | refine zd ?_ ?_ ?_ ?_ | refine objsM_abs ?_ ?_ | refine subH_cons ?_ ?_) | (with_reducible first | exact slotsM_nil | exact objsM_nil | exact subH_nil | exact coL_nilm | exact Co.refl _ | exact CoL.refl _ | exact CoLL.refl _) | ((with_reducible first | refine zga ?_ | refine zgb ?_); rfl) | ((with_reducible refine zgc ?_); (first | (with_reducible rfl) | rfl | (simp; done))) | ((with_reducible first | refine zgd ?_ | refine zge ?_); (first | omega | (simp; done))) | (refine co_wrap ⟨?_, ?_⟩ ?_ <;> omega) | (exact Co.refl _) | (exact CoL.refl _) | (exact CoLL.refl _) | (refine co_own ?_; omega) | (refine co_int ?_; first | omega | (simp_all; done)) | (with_reducible first | refine coL_cons ?_ ?_ | refine coL_consm ?_ ?_) | ((refine qfor_next hJ (i + 1) ?_ ?_ ?_; (with_reducible refine wk_self [] hm ?_ ?_ ?_ ?_) <;> (try simp only [zT, puth, Nat.reduceEqDiff, reduceIte, Nat.reduceAdd]))) | fail)
     refine ⟨by omega, ?_⟩
     rw [h2.out, show wideI x w = false from hv, Bool.false_or]
    ·unfold wideI at hv
     repeat' (first | (with_reducible first | refine zA ?_ | refine swp_block1 ?_ | refine swp_block2 ?_ | refine zK ?_) | ((with_reducible first | refine swp_reg ?_ | refine swp_regd (by rw [hP]; exact mixed) ?_); (try rw [hP]); simp -implicitDefEqProofs [*]) | ((with_reducible first | refine swp_skip ?_ | refine swp_exit ?_); (try simp -implicitDefEqProofs [*])) | ((with_reducible refine swp_ret ?_); (try simp only [qseq_r, qblock_r, qloop_r])) | ((with_reducible refine swp_cond rfl (fun h => ?_) (fun h => ?_)) <;> have h' := h <;> (try simp at h') <;> (try subst h')) | ((with_reducible refine sopsg_cases (fun h => ?_) (fun h => ?_)) <;> have h' := h <;> (try simp at h') <;> (try subst h') <;> simp -implicitDefEqProofs [*]) | ((with_reducible refine sopsk_rg ?_ ?_); (first | omega | (unfold maxLen; omega)); simp -implicitDefEqProofs [*]) | (refine call_q (hms _) ?_; simp -implicitDefEqProofs [*]) | (with_reducible first | refine zM hm ?_ | refine zN hm ?_ | refine zO hm ?_ | refine zP hm ?_) | fail)
     rw [h2.out, show wideI x w = true from hv]; rfl
   ·obtain rfl : i = args.length := by omega
    rw [List.drop_length] at h2
    replace h2 := Lib.hid h2
    repeat' (first | (with_reducible first | refine zA ?_ | refine swp_block1 ?_ | refine swp_block2 ?_ | refine zK ?_) | ((with_reducible first | refine swp_reg ?_ | refine swp_regd (by rw [hP]; exact mixed) ?_); (try rw [hP]); simp -implicitDefEqProofs [*]) | ((with_reducible first | refine swp_skip ?_ | refine swp_exit ?_); (try simp -implicitDefEqProofs [*])) | ((with_reducible refine swp_ret ?_); (try simp only [qseq_r, qblock_r, qloop_r])) | ((with_reducible refine swp_cond rfl (fun h => ?_) (fun h => ?_)) <;> have h' := h <;> (try simp at h') <;> (try subst h')) | ((with_reducible refine sopsg_cases (fun h => ?_) (fun h => ?_)) <;> have h' := h <;> (try simp at h') <;> (try subst h') <;> simp -implicitDefEqProofs [*]) | ((with_reducible refine sopsk_rg ?_ ?_); (first | omega | (unfold maxLen; omega)); simp -implicitDefEqProofs [*]) | (with_reducible first | refine zM hm ?_ | refine zN hm ?_ | refine zO hm ?_ | refine zP hm ?_) | fail)
    rw [h2.out]; rfl
  ·rw [if_pos (by simpa using hlen)] at hF
   have kl : ((args.length : Int) != (A.w.length : Int)) = true := by simp; omega
   replace hF := Lib.hid hF
   repeat' (first | (with_reducible first | refine zA ?_ | refine swp_block1 ?_ | refine swp_block2 ?_ | refine zK ?_) | ((with_reducible first | refine swp_reg ?_ | refine swp_regd (by rw [hP]; exact mixed) ?_); (try rw [hP]); simp -implicitDefEqProofs [*]) | ((with_reducible first | refine swp_skip ?_ | refine swp_exit ?_); (try simp -implicitDefEqProofs [*])) | ((with_reducible refine swp_ret ?_); (try simp only [qseq_r, qblock_r, qloop_r])) | ((with_reducible refine swp_cond rfl (fun h => ?_) (fun h => ?_)) <;> have h' := h <;> (try simp at h') <;> (try subst h')) | ((with_reducible refine sopsg_cases (fun h => ?_) (fun h => ?_)) <;> have h' := h <;> (try simp at h') <;> (try subst h') <;> simp -implicitDefEqProofs [*]) | ((with_reducible refine sopsk_rg ?_ ?_); (first | omega | (unfold maxLen; omega)); simp -implicitDefEqProofs [*]) | (refine call_q (hc _) ?_; simp -implicitDefEqProofs [*]) | (with_reducible first | refine zM hm ?_ | refine zN hm ?_ | refine zO hm ?_ | refine zP hm ?_) | fail)
   rw [hF.out]
set_option maxHeartbeats 4000000 in
theorem tcheck_s (t : TabD) (ws : List Int) (acts : List ActD) (ha : AW acts) (h1 : t.acts.length ≤ 1000000) (h2 : t.args.length ≤ 1000000) (h3 : ws.length ≤ 1000000) (h4 : acts.length ≤ 1000000) (q : Nat) : SCalls Try.prog 66 [.agg (tabc t), nums .i64 ws, .view 2 (acts.map actc)] [] q (.int .i64 (tableF t ws acts)) [] := by
 refine scalls_q ?_ (fun _ => rfl) (fun _ => rfl) rfl q
 refine scalls_of (N := 101) Try.func66 rfl rfl (by kernel_rfl) comp_c_tcheck (by simp) (by repeat' (first | exact trivial | refine And.intro ?_ ?_ | rfl | decide)) (by repeat' (first | exact trivial | refine And.intro ?_ ?_ | rfl | decide)) ?_
 rintro X hP hN hm
 have hsays := fun (hr : ∀ k ∈ t.acts, 0 ≤ k ∧ k < acts.length) q => says_s t acts t.def_ t.args ha h1 h2 hr q
 replace hsays := Lib.hid hsays
 replace ha := Lib.hid ha
 obtain ⟨n, hn⟩ : ∃ n, ws.length = n := ⟨_, rfl⟩
 obtain ⟨m, hma⟩ : ∃ m, t.acts.length = m := ⟨_, rfl⟩
 unfold c_tcheck
 by_cases g1 : t.kind < 1 ∨ 3 < t.kind
 ·have hz : tableF t ws acts = 5 := by unfold tableF; rw [if_pos g1]
  rw [hz]
  have k1 : (t.kind != 1) = true := by simp; omega
  have k2 : (t.kind != 2) = true := by simp; omega
  have k3 : (t.kind != 3) = true := by simp; omega
  replace g1 := Lib.hid g1
  repeat' (first | (with_reducible first | refine zA ?_ | refine swp_block1 ?_ | refine swp_block2 ?_ | refine zK ?_) | ((with_reducible first | refine swp_reg ?_ | refine swp_regd (by rw [hP]; exact mixed) ?_); (try rw [hP]); simp -implicitDefEqProofs [*]) | ((with_reducible first | refine swp_skip ?_ | refine swp_exit ?_); (try simp -implicitDefEqProofs [*])) | ((with_reducible refine swp_ret ?_); (try simp only [qseq_r, qblock_r, qloop_r])) | ((with_reducible refine swp_cond rfl (fun h => ?_) (fun h => ?_)) <;> have h' := h <;> (try simp at h') <;> (try subst h')) | ((with_reducible refine sopsg_cases (fun h => ?_) (fun h => ?_)) <;> have h' := h <;> (try simp at h') <;> (try subst h') <;> simp -implicitDefEqProofs [*]) | ((with_reducible refine sopsk_rg ?_ ?_); (first | omega | (unfold maxLen; omega)); simp -implicitDefEqProofs [*]) | (with_reducible first | refine zM hm ?_ | refine zN hm ?_ | refine zO hm ?_ | refine zP hm ?_) | fail)
  rfl
 by_cases g2 : ws.length < 1 ∨ 3 < ws.length ∨ (t.kind = 2 ∧ 1 < ws.length) ∨ t.acts.length < 1 ∨ 4 < t.acts.length
 ·have hz : tableF t ws acts = 2 := by unfold tableF; rw [if_neg g1, if_pos g2]
  rw [hz]
  replace g1 := Lib.hid g1
  replace g2 := Lib.hid g2
  repeat' (first | (with_reducible first | refine zA ?_ | refine swp_block1 ?_ | refine swp_block2 ?_ | refine zK ?_) | ((with_reducible first | refine swp_reg ?_ | refine swp_regd (by rw [hP]; exact mixed) ?_); (try rw [hP]); simp -implicitDefEqProofs [*]) | ((with_reducible first | refine swp_skip ?_ | refine swp_exit ?_); (try simp -implicitDefEqProofs [*])) | ((with_reducible refine swp_ret ?_); (try simp only [qseq_r, qblock_r, qloop_r])) | ((with_reducible refine swp_cond rfl (fun h => ?_) (fun h => ?_)) <;> have h' := h <;> (try simp at h') <;> (try subst h')) | ((with_reducible refine sopsg_cases (fun h => ?_) (fun h => ?_)) <;> have h' := h <;> (try simp at h') <;> (try subst h') <;> simp -implicitDefEqProofs [*]) | ((with_reducible refine sopsk_rg ?_ ?_); (first | omega | (unfold maxLen; omega)); simp -implicitDefEqProofs [*]) | (with_reducible first | refine zM hm ?_ | refine zN hm ?_ | refine zO hm ?_ | refine zP hm ?_) | fail)
  all_goals (first | rfl | (exfalso; have q := g2.out; have q1 := g1.out; omega))
 by_cases g3 : t.cap < 0 ∨ 16 < t.cap
 ·have hz : tableF t ws acts = 1 := by unfold tableF; rw [if_neg g1, if_neg g2, if_pos g3]
  rw [hz]
  replace g1 := Lib.hid g1
  replace g2 := Lib.hid g2
  replace g3 := Lib.hid g3
  repeat' (first | (with_reducible first | refine zA ?_ | refine swp_block1 ?_ | refine swp_block2 ?_ | refine zK ?_) | ((with_reducible first | refine swp_reg ?_ | refine swp_regd (by rw [hP]; exact mixed) ?_); (try rw [hP]); simp -implicitDefEqProofs [*]) | ((with_reducible first | refine swp_skip ?_ | refine swp_exit ?_); (try simp -implicitDefEqProofs [*])) | ((with_reducible refine swp_ret ?_); (try simp only [qseq_r, qblock_r, qloop_r])) | ((with_reducible refine swp_cond rfl (fun h => ?_) (fun h => ?_)) <;> have h' := h <;> (try simp at h') <;> (try subst h')) | ((with_reducible refine sopsg_cases (fun h => ?_) (fun h => ?_)) <;> have h' := h <;> (try simp at h') <;> (try subst h') <;> simp -implicitDefEqProofs [*]) | ((with_reducible refine sopsk_rg ?_ ?_); (first | omega | (unfold maxLen; omega)); simp -implicitDefEqProofs [*]) | (with_reducible first | refine zM hm ?_ | refine zN hm ?_ | refine zO hm ?_ | refine zP hm ?_) | fail)
  all_goals (first | rfl | (exfalso; have q := g2.out; have q1 := g1.out; have q3 := g3.out; omega))
 have hF : tableF t ws acts = if (ws.drop 0).any wOut = true then 6 else if (t.acts.drop 0).any (aOut acts.length) = true then 1 else saysF t.acts acts t.def_ t.args := by
  unfold tableF; rw [if_neg g1, if_neg g2, if_neg g3]; rfl
 generalize tableF t ws acts = F at hF
 replace hF := Lib.hid hF
 have l0 : ((ws.length : Int) == 0) = false := by rw [beq_eq_false_iff_ne]; omega
 have l3 : decide (3 < (ws.length : Int)) = false := by rw [decide_eq_false_iff_not]; omega
 have a0 : ((t.acts.length : Int) == 0) = false := by rw [beq_eq_false_iff_ne]; omega
 have a4 : decide (4 < (t.acts.length : Int)) = false := by rw [decide_eq_false_iff_not]; omega
 have q0 : decide (t.cap < 0) = false := by rw [decide_eq_false_iff_not]; omega
 have q16 : decide (16 < t.cap) = false := by rw [decide_eq_false_iff_not]; omega
 have hks : ((t.kind != 1) = false ∧ (t.kind == 2) = false) ∨ ((t.kind != 1) = true ∧ (t.kind != 2) = false ∧ (t.kind == 2) = true ∧ ((ws.length : Int) != 1) = false) ∨ ((t.kind != 1) = true ∧ (t.kind != 2) = true ∧ (t.kind != 3) = false ∧ (t.kind == 2) = false) := by
  by_cases e1 : t.kind = 1
  ·left; rw [e1]; exact ⟨rfl, rfl⟩
  by_cases e2 : t.kind = 2
  ·right; left; refine ⟨by simpa using e1, by simpa using e2, by simpa using e2, ?_⟩
   rw [bne_eq_false_iff_eq]; omega
  ·right; right; refine ⟨by simpa using e1, by simpa using e2, ?_, by simpa using e2⟩
   rw [bne_eq_false_iff_eq]; omega
 clear g1 g2 g3 hn hma n m
 rcases hks with ⟨k1, k2⟩ | ⟨k1, k2, k3, k4⟩ | ⟨k1, k2, k3, k4⟩
 all_goals
  repeat' (first | (with_reducible first | refine zA ?_ | refine swp_block1 ?_ | refine swp_block2 ?_ | refine zK ?_) | ((with_reducible first | refine swp_reg ?_ | refine swp_regd (by rw [hP]; exact mixed) ?_); (try rw [hP]); simp -implicitDefEqProofs [*]) | ((with_reducible first | refine swp_skip ?_ | refine swp_exit ?_); (try simp -implicitDefEqProofs [*])) | ((with_reducible refine swp_ret ?_); (try simp only [qseq_r, qblock_r, qloop_r])) | ((with_reducible refine swp_cond rfl (fun h => ?_) (fun h => ?_)) <;> have h' := h <;> (try simp at h') <;> (try subst h')) | ((with_reducible refine sopsg_cases (fun h => ?_) (fun h => ?_)) <;> have h' := h <;> (try simp at h') <;> (try subst h') <;> simp -implicitDefEqProofs [*]) | ((with_reducible refine sopsk_rg ?_ ?_); (first | omega | (unfold maxLen; omega)); simp -implicitDefEqProofs [*]) | (with_reducible first | refine zM hm ?_ | refine zN hm ?_ | refine zO hm ?_ | refine zP hm ?_) | fail)
  clear k1 k2 a0 a4 q0 q16 l0 l3
  refine swp_block (swp_for (fun s (i : Nat) => s.turn [(67, .int .i64 i)] []) (fun i => i ≤ ws.length ∧ F = if (ws.drop i).any wOut = true then 6 else if (t.acts.drop 0).any (aOut acts.length) = true then 1 else saysF t.acts acts t.def_ t.args) (fun i => ws.length - i) 0 ?_ ⟨by simp, hF.out⟩ ?_)
  ·repeat' (first | ((with_reducible refine wk_self [] hm ?_ ?_ ?_ ?_) <;> (try simp only [zT, puth, Nat.reduceEqDiff, reduceIte, Nat.reduceAdd])) | (with_reducible first | refine za ?_ ?_ | refine zb ?_ ?_ ?_ ?_ | refine zc ?_ ?_ ?_ ?_ | refine zd ?_ ?_ ?_ ?_ | refine objsM_abs ?_ ?_ | refine subH_cons ?_ ?_) | (with_reducible first | exact slotsM_nil | exact objsM_nil | exact subH_nil | exact coL_nilm | exact Co.refl _ | exact CoL.refl _ | exact CoLL.refl _) | ((with_reducible first | refine zga ?_ | refine zgb ?_); rfl) | ((with_reducible refine zgc ?_); (first | (with_reducible rfl) | rfl | (simp; done))) | ((with_reducible first | refine zgd ?_ | refine zge ?_); (first | omega | (simp; done))) | (refine co_wrap ⟨?_, ?_⟩ ?_ <;> omega) | (exact Co.refl _) | (exact CoL.refl _) | (exact CoLL.refl _) | (refine co_own ?_; omega) | (refine co_int ?_; first | omega | (simp_all; done)) | (with_reducible first | refine coL_cons ?_ ?_ | refine coL_consm ?_ ?_) | fail)
  rintro J hJ i ⟨h5, h6⟩
  unfold c_tcheck_l1
  simp only [zT, puth, Nat.reduceEqDiff, reduceIte, Nat.reduceAdd] at h5 h6 ⊢
  rcases Nat.lt_or_ge i ws.length with hi | hi
  ·rw [any_drop _ hi] at h6
   generalize hxx : ws[i] = x at h6
   have wi : IntKind.i64.wrap ((i : Int) + 1) = (i : Int) + 1 := i64_add_ (by omega) (by omega)
   replace h6 := Lib.hid h6
   cases hv : wOut x
   ·have hv1 : decide (x < 1) = false ∧ decide (48 < x) = false := by simpa [wOut] using hv
    obtain ⟨v1, v2⟩ := hv1
    repeat' (first | (with_reducible first | refine zA ?_ | refine swp_block1 ?_ | refine swp_block2 ?_ | refine zK ?_) | ((with_reducible first | refine swp_reg ?_ | refine swp_regd (by rw [hP]; exact mixed) ?_); (try rw [hP]); simp -implicitDefEqProofs [*]) | ((with_reducible first | refine swp_skip ?_ | refine swp_exit ?_); (try simp -implicitDefEqProofs [*])) | ((with_reducible refine swp_ret ?_); (try simp only [qseq_r, qblock_r, qloop_r])) | ((with_reducible refine swp_cond rfl (fun h => ?_) (fun h => ?_)) <;> have h' := h <;> (try simp at h') <;> (try subst h')) | ((with_reducible refine sopsg_cases (fun h => ?_) (fun h => ?_)) <;> have h' := h <;> (try simp at h') <;> (try subst h') <;> simp -implicitDefEqProofs [*]) | ((with_reducible refine sopsk_rg ?_ ?_); (first | omega | (unfold maxLen; omega)); simp -implicitDefEqProofs [*]) | (with_reducible first | refine zM hm ?_ | refine zN hm ?_ | refine zO hm ?_ | refine zP hm ?_) | ((with_reducible refine wk_self [] hm ?_ ?_ ?_ ?_) <;> (try simp only [zT, puth, Nat.reduceEqDiff, reduceIte, Nat.reduceAdd])) | (with_reducible first | refine za ?_ ?_ | refine zb ?_ ?_ ?_ ?_ | refine zc ?_ ?_ ?_ ?_ | refine zd ?_ ?_ ?_ ?_ | refine objsM_abs ?_ ?_ | refine subH_cons ?_ ?_) | (with_reducible first | exact slotsM_nil | exact objsM_nil | exact subH_nil | exact coL_nilm | exact Co.refl _ | exact CoL.refl _ | exact CoLL.refl _) | ((with_reducible first | refine zga ?_ | refine zgb ?_); rfl) | ((with_reducible refine zgc ?_); (first | (with_reducible rfl) | rfl | (simp; done))) | ((with_reducible first | refine zgd ?_ | refine zge ?_); (first | omega | (simp; done))) | (refine co_wrap ⟨?_, ?_⟩ ?_ <;> omega) | (exact Co.refl _) | (exact CoL.refl _) | (exact CoLL.refl _) | (refine co_own ?_; omega) | (refine co_int ?_; first | omega | (simp_all; done)) | (with_reducible first | refine coL_cons ?_ ?_ | refine coL_consm ?_ ?_) | ((refine qfor_next hJ (i + 1) ?_ ?_ ?_; (with_reducible refine wk_self [] hm ?_ ?_ ?_ ?_) <;> (try simp only [zT, puth, Nat.reduceEqDiff, reduceIte, Nat.reduceAdd]))) | fail)
    exact ⟨by omega, by rw [h6.out, hv, Bool.false_or]⟩
   ·replace hv := Lib.hid hv
    repeat' (first | (with_reducible first | refine zA ?_ | refine swp_block1 ?_ | refine swp_block2 ?_ | refine zK ?_) | ((with_reducible first | refine swp_reg ?_ | refine swp_regd (by rw [hP]; exact mixed) ?_); (try rw [hP]); simp -implicitDefEqProofs [*]) | ((with_reducible first | refine swp_skip ?_ | refine swp_exit ?_); (try simp -implicitDefEqProofs [*])) | ((with_reducible refine swp_ret ?_); (try simp only [qseq_r, qblock_r, qloop_r])) | ((with_reducible refine swp_cond rfl (fun h => ?_) (fun h => ?_)) <;> have h' := h <;> (try simp at h') <;> (try subst h')) | ((with_reducible refine sopsg_cases (fun h => ?_) (fun h => ?_)) <;> have h' := h <;> (try simp at h') <;> (try subst h') <;> simp -implicitDefEqProofs [*]) | ((with_reducible refine sopsk_rg ?_ ?_); (first | omega | (unfold maxLen; omega)); simp -implicitDefEqProofs [*]) | (with_reducible first | refine zM hm ?_ | refine zN hm ?_ | refine zO hm ?_ | refine zP hm ?_) | ((with_reducible refine wk_self [] hm ?_ ?_ ?_ ?_) <;> (try simp only [zT, puth, Nat.reduceEqDiff, reduceIte, Nat.reduceAdd])) | (with_reducible first | refine za ?_ ?_ | refine zb ?_ ?_ ?_ ?_ | refine zc ?_ ?_ ?_ ?_ | refine zd ?_ ?_ ?_ ?_ | refine objsM_abs ?_ ?_ | refine subH_cons ?_ ?_) | (with_reducible first | exact slotsM_nil | exact objsM_nil | exact subH_nil | exact coL_nilm | exact Co.refl _ | exact CoL.refl _ | exact CoLL.refl _) | ((with_reducible first | refine zga ?_ | refine zgb ?_); rfl) | ((with_reducible refine zgc ?_); (first | (with_reducible rfl) | rfl | (simp; done))) | ((with_reducible first | refine zgd ?_ | refine zge ?_); (first | omega | (simp; done))) | (refine co_wrap ⟨?_, ?_⟩ ?_ <;> omega) | (exact Co.refl _) | (exact CoL.refl _) | (exact CoLL.refl _) | (refine co_own ?_; omega) | (refine co_int ?_; first | omega | (simp_all; done)) | (with_reducible first | refine coL_cons ?_ ?_ | refine coL_consm ?_ ?_) | ((refine qfor_next hJ (i + 1) ?_ ?_ ?_; (with_reducible refine wk_self [] hm ?_ ?_ ?_ ?_) <;> (try simp only [zT, puth, Nat.reduceEqDiff, reduceIte, Nat.reduceAdd]))) | fail)
    all_goals (first | (exfalso; have q := hv.out; simp only [wOut, Bool.or_eq_true, decide_eq_true_eq] at q; omega) | (rw [h6.out, hv.out]; rfl))
  ·obtain rfl : i = ws.length := by omega
   have h7 : F = if (t.acts.drop 0).any (aOut acts.length) = true then 1 else saysF t.acts acts t.def_ t.args := by rw [h6, List.drop_length]; rfl
   replace h7 := Lib.hid h7
   replace h6 := Lib.hid h6
   repeat' (first | (with_reducible first | refine zA ?_ | refine swp_block1 ?_ | refine swp_block2 ?_ | refine zK ?_) | ((with_reducible first | refine swp_reg ?_ | refine swp_regd (by rw [hP]; exact mixed) ?_); (try rw [hP]); simp -implicitDefEqProofs [*]) | ((with_reducible first | refine swp_skip ?_ | refine swp_exit ?_); (try simp -implicitDefEqProofs [*])) | ((with_reducible refine swp_ret ?_); (try simp only [qseq_r, qblock_r, qloop_r])) | ((with_reducible refine swp_cond rfl (fun h => ?_) (fun h => ?_)) <;> have h' := h <;> (try simp at h') <;> (try subst h')) | ((with_reducible refine sopsg_cases (fun h => ?_) (fun h => ?_)) <;> have h' := h <;> (try simp at h') <;> (try subst h') <;> simp -implicitDefEqProofs [*]) | ((with_reducible refine sopsk_rg ?_ ?_); (first | omega | (unfold maxLen; omega)); simp -implicitDefEqProofs [*]) | (with_reducible first | refine zM hm ?_ | refine zN hm ?_ | refine zO hm ?_ | refine zP hm ?_) | fail)
   refine swp_block (swp_for (fun s (i : Nat) => s.turn [(81, .int .i64 i)] []) (fun i => i ≤ t.acts.length ∧ (∀ k ∈ t.acts.take i, aOut acts.length k = false) ∧ F = if (t.acts.drop i).any (aOut acts.length) = true then 1 else saysF t.acts acts t.def_ t.args) (fun i => t.acts.length - i) 0 ?_ ⟨by simp, by simp, h7.out⟩ ?_)
   ·repeat' (first | ((with_reducible refine wk_self [] hm ?_ ?_ ?_ ?_) <;> (try simp only [zT, puth, Nat.reduceEqDiff, reduceIte, Nat.reduceAdd])) | (with_reducible first | refine za ?_ ?_ | refine zb ?_ ?_ ?_ ?_ | refine zc ?_ ?_ ?_ ?_ | refine zd ?_ ?_ ?_ ?_ | refine objsM_abs ?_ ?_ | refine subH_cons ?_ ?_) | (with_reducible first | exact slotsM_nil | exact objsM_nil | exact subH_nil | exact coL_nilm | exact Co.refl _ | exact CoL.refl _ | exact CoLL.refl _) | ((with_reducible first | refine zga ?_ | refine zgb ?_); rfl) | ((with_reducible refine zgc ?_); (first | (with_reducible rfl) | rfl | (simp; done))) | ((with_reducible first | refine zgd ?_ | refine zge ?_); (first | omega | (simp; done))) | (refine co_wrap ⟨?_, ?_⟩ ?_ <;> omega) | (exact Co.refl _) | (exact CoL.refl _) | (exact CoLL.refl _) | (refine co_own ?_; omega) | (refine co_int ?_; first | omega | (simp_all; done)) | (with_reducible first | refine coL_cons ?_ ?_ | refine coL_consm ?_ ?_) | fail)
   rintro J hJ i ⟨h8, h9, h10⟩
   unfold c_tcheck_l2
   simp only [zT, puth, Nat.reduceEqDiff, reduceIte, Nat.reduceAdd] at h8 h9 h10 ⊢
   replace h9 := Lib.hid h9
   rcases Nat.lt_or_ge i t.acts.length with hi | hi
   ·rw [any_drop _ hi] at h10
    have htk : t.acts.take (i + 1) = t.acts.take i ++ [t.acts[i]] := List.take_succ_eq_append_getElem hi
    generalize hxx : t.acts[i] = x at h10 htk
    have wi : IntKind.i64.wrap ((i : Int) + 1) = (i : Int) + 1 := i64_add_ (by omega) (by omega)
    replace h10 := Lib.hid h10
    replace htk := Lib.hid htk
    cases hv : aOut acts.length x
    ·have hv1 : decide (x < 0) = false ∧ decide ((acts.length : Int) ≤ x) = false := by simpa [aOut] using hv
     obtain ⟨v1, v2⟩ := hv1
     replace hv := Lib.hid hv
     repeat' (first | (with_reducible first | refine zA ?_ | refine swp_block1 ?_ | refine swp_block2 ?_ | refine zK ?_) | ((with_reducible first | refine swp_reg ?_ | refine swp_regd (by rw [hP]; exact mixed) ?_); (try rw [hP]); simp -implicitDefEqProofs [*]) | ((with_reducible first | refine swp_skip ?_ | refine swp_exit ?_); (try simp -implicitDefEqProofs [*])) | ((with_reducible refine swp_ret ?_); (try simp only [qseq_r, qblock_r, qloop_r])) | ((with_reducible refine swp_cond rfl (fun h => ?_) (fun h => ?_)) <;> have h' := h <;> (try simp at h') <;> (try subst h')) | ((with_reducible refine sopsg_cases (fun h => ?_) (fun h => ?_)) <;> have h' := h <;> (try simp at h') <;> (try subst h') <;> simp -implicitDefEqProofs [*]) | ((with_reducible refine sopsk_rg ?_ ?_); (first | omega | (unfold maxLen; omega)); simp -implicitDefEqProofs [*]) | (with_reducible first | refine zM hm ?_ | refine zN hm ?_ | refine zO hm ?_ | refine zP hm ?_) | ((with_reducible refine wk_self [] hm ?_ ?_ ?_ ?_) <;> (try simp only [zT, puth, Nat.reduceEqDiff, reduceIte, Nat.reduceAdd])) | (with_reducible first | refine za ?_ ?_ | refine zb ?_ ?_ ?_ ?_ | refine zc ?_ ?_ ?_ ?_ | refine zd ?_ ?_ ?_ ?_ | refine objsM_abs ?_ ?_ | refine subH_cons ?_ ?_) | (with_reducible first | exact slotsM_nil | exact objsM_nil | exact subH_nil | exact coL_nilm | exact Co.refl _ | exact CoL.refl _ | exact CoLL.refl _) | ((with_reducible first | refine zga ?_ | refine zgb ?_); rfl) | ((with_reducible refine zgc ?_); (first | (with_reducible rfl) | rfl | (simp; done))) | ((with_reducible first | refine zgd ?_ | refine zge ?_); (first | omega | (simp; done))) | (refine co_wrap ⟨?_, ?_⟩ ?_ <;> omega) | (exact Co.refl _) | (exact CoL.refl _) | (exact CoLL.refl _) | (refine co_own ?_; omega) | (refine co_int ?_; first | omega | (simp_all; done)) | (with_reducible first | refine coL_cons ?_ ?_ | refine coL_consm ?_ ?_) | ((refine qfor_next hJ (i + 1) ?_ ?_ ?_; (with_reducible refine wk_self [] hm ?_ ?_ ?_ ?_) <;> (try simp only [zT, puth, Nat.reduceEqDiff, reduceIte, Nat.reduceAdd]))) | fail)
     refine ⟨by omega, fun k hk => ?_, by rw [h10.out, hv.out, Bool.false_or]⟩
     rw [htk.out, List.mem_append] at hk
     rcases hk with hk | hk
     ·exact h9.out k hk
     ·rw [List.mem_singleton.1 hk]; exact hv.out
    ·replace hv := Lib.hid hv
     repeat' (first | (with_reducible first | refine zA ?_ | refine swp_block1 ?_ | refine swp_block2 ?_ | refine zK ?_) | ((with_reducible first | refine swp_reg ?_ | refine swp_regd (by rw [hP]; exact mixed) ?_); (try rw [hP]); simp -implicitDefEqProofs [*]) | ((with_reducible first | refine swp_skip ?_ | refine swp_exit ?_); (try simp -implicitDefEqProofs [*])) | ((with_reducible refine swp_ret ?_); (try simp only [qseq_r, qblock_r, qloop_r])) | ((with_reducible refine swp_cond rfl (fun h => ?_) (fun h => ?_)) <;> have h' := h <;> (try simp at h') <;> (try subst h')) | ((with_reducible refine sopsg_cases (fun h => ?_) (fun h => ?_)) <;> have h' := h <;> (try simp at h') <;> (try subst h') <;> simp -implicitDefEqProofs [*]) | ((with_reducible refine sopsk_rg ?_ ?_); (first | omega | (unfold maxLen; omega)); simp -implicitDefEqProofs [*]) | (with_reducible first | refine zM hm ?_ | refine zN hm ?_ | refine zO hm ?_ | refine zP hm ?_) | ((with_reducible refine wk_self [] hm ?_ ?_ ?_ ?_) <;> (try simp only [zT, puth, Nat.reduceEqDiff, reduceIte, Nat.reduceAdd])) | (with_reducible first | refine za ?_ ?_ | refine zb ?_ ?_ ?_ ?_ | refine zc ?_ ?_ ?_ ?_ | refine zd ?_ ?_ ?_ ?_ | refine objsM_abs ?_ ?_ | refine subH_cons ?_ ?_) | (with_reducible first | exact slotsM_nil | exact objsM_nil | exact subH_nil | exact coL_nilm | exact Co.refl _ | exact CoL.refl _ | exact CoLL.refl _) | ((with_reducible first | refine zga ?_ | refine zgb ?_); rfl) | ((with_reducible refine zgc ?_); (first | (with_reducible rfl) | rfl | (simp; done))) | ((with_reducible first | refine zgd ?_ | refine zge ?_); (first | omega | (simp; done))) | (refine co_wrap ⟨?_, ?_⟩ ?_ <;> omega) | (exact Co.refl _) | (exact CoL.refl _) | (exact CoLL.refl _) | (refine co_own ?_; omega) | (refine co_int ?_; first | omega | (simp_all; done)) | (with_reducible first | refine coL_cons ?_ ?_ | refine coL_consm ?_ ?_) | ((refine qfor_next hJ (i + 1) ?_ ?_ ?_; (with_reducible refine wk_self [] hm ?_ ?_ ?_ ?_) <;> (try simp only [zT, puth, Nat.reduceEqDiff, reduceIte, Nat.reduceAdd]))) | fail)
     all_goals (first | (exfalso; have q := hv.out; simp only [aOut, Bool.or_eq_true, decide_eq_true_eq] at q; omega) | (rw [h10.out, hv.out]; rfl))
   ·obtain rfl : i = t.acts.length := by omega
    have h11 : ∀ k ∈ t.acts, 0 ≤ k ∧ k < acts.length := fun k hk => by
     have := h9.out k (by rw [List.take_length]; exact hk)
     unfold aOut at this; rw [Bool.or_eq_false_iff, decide_eq_false_iff_not, decide_eq_false_iff_not] at this; omega
    have h12 : F = saysF t.acts acts t.def_ t.args := by rw [h10, List.drop_length]; rfl
    have hs := hsays.out h11
    replace hs := Lib.hid hs
    replace h11 := Lib.hid h11
    replace h10 := Lib.hid h10
    replace h12 := Lib.hid h12
    repeat' (first | (with_reducible first | refine zA ?_ | refine swp_block1 ?_ | refine swp_block2 ?_ | refine zK ?_) | ((with_reducible first | refine swp_reg ?_ | refine swp_regd (by rw [hP]; exact mixed) ?_); (try rw [hP]); simp -implicitDefEqProofs [*]) | ((with_reducible first | refine swp_skip ?_ | refine swp_exit ?_); (try simp -implicitDefEqProofs [*])) | ((with_reducible refine swp_ret ?_); (try simp only [qseq_r, qblock_r, qloop_r])) | ((with_reducible refine swp_cond rfl (fun h => ?_) (fun h => ?_)) <;> have h' := h <;> (try simp at h') <;> (try subst h')) | ((with_reducible refine sopsg_cases (fun h => ?_) (fun h => ?_)) <;> have h' := h <;> (try simp at h') <;> (try subst h') <;> simp -implicitDefEqProofs [*]) | ((with_reducible refine sopsk_rg ?_ ?_); (first | omega | (unfold maxLen; omega)); simp -implicitDefEqProofs [*]) | (refine call_q (hs.out _) ?_; simp -implicitDefEqProofs [*]) | (with_reducible first | refine zM hm ?_ | refine zN hm ?_ | refine zO hm ?_ | refine zP hm ?_) | fail)
    rw [h12.out]
end Go.Proofs.Ytnfjldobjgdiaaa
namespace Go.Proofs.Ytnfjldobjgdiaaa
set_option linter.all false
open Go.RowKit
attribute [local simp] sops_nil sops_run sopsk_some sops_call sops_guard sopsg_yes sopsg_tf sopsg_ft sopsg_undef rg_true SOp.run SX.ev putd puts argS upds SOp.touch SSt.keep SSt.skip gets geth puth delh idOf SV.cells? setL fillS fillR sbin eq0 eq1 eqL rowOf qseq_n qseq_e qseq_r qblock_n qblock_r qblock_e qloop_e qloop_r take_map_len FrzOk pureV_int pureV_bool pureV_str pureV_nil pureV_nilsl pureV_view pureV_cp pureL_nil_ pureL_cons_ pureO_row pureO_cells frzS frzH frz frz1 frz0 SlotsM ObjsM ObjM rn ren ren1 ren0 co_self co_int co_own co_view co_nilsl co_agg co_tup CoL coll_self mergeH dels adds idsH okNames
attribute [local simp] headc refc pushc casec statec opc actc tabc nodec planc nums jc
theorem call_widths (p : PlanD) (t : TabD) (hl : t.keys.length ≤ 1000000) (q : Nat) : SCalls Try.prog 12 [.agg (planc p), .agg (tabc t)] [] q (nums .i64 (widthsOf p t)) [] := scalls_q (widths_s p t hl) (fun _ => rfl) (fun _ => rfl) rfl q
theorem jtabs_s (p : PlanD) (hs : SmallP p) (a b : Int) (ha : a = 0 → AW p.acts) : SCalls Try.prog 35 [.ptr 0 0] [(0, .cells 78 (jc p a b))] 1 (.tup []) [(0, .cells 78 (jc p (orF (a, b) (tabsF p)).1 (orF (a, b) (tabsF p)).2))] := by
 refine scalls_of (N := 76) Try.func35 rfl rfl (by kernel_rfl) comp_c_jtabs (by simp) (by repeat' (first | exact trivial | refine And.intro ?_ ?_ | rfl | decide)) (by repeat' (first | exact trivial | refine And.intro ?_ ?_ | rfl | decide)) ?_
 rintro X hP hN hm
 have hF : orF (a, b) (tabsF p) = orF (failF a b (decide (5 < (p.tabs.length : Int))) 2 (-5)) (rowF (fun _ t => tabF p t) 5000 0 p.tabs) := by
  unfold tabsF; rw [many_step]; congr 3; exact propext (by omega)
 generalize orF (a, b) (tabsF p) = F at hF
 replace hF := Lib.hid hF
 have hla := hs.tabs
 have hE : (failF a b (decide (5 < (p.tabs.length : Int))) 2 (-5)).1 = 0 → AW p.acts := fun h => ha (by
  unfold failF at h; by_cases h0 : a = 0
  ·exact h0
  ·rw [if_neg (fun hh => h0 hh.2)] at h; exact h)
 replace hE := Lib.hid hE
 replace ha := Lib.hid ha
 unfold c_jtabs
 repeat' (first | (with_reducible first | refine zA ?_ | refine swp_block1 ?_ | refine swp_block2 ?_ | refine zK ?_) | ((with_reducible first | refine swp_reg ?_ | refine swp_regd (by rw [hP]; exact mixed) ?_); (try rw [hP]); simp -implicitDefEqProofs [*]) | ((with_reducible first | refine swp_skip ?_ | refine swp_exit ?_); (try simp -implicitDefEqProofs [*])) | ((with_reducible refine swp_ret ?_); (try simp only [qseq_r, qblock_r, qloop_r])) | ((with_reducible refine swp_cond rfl (fun h => ?_) (fun h => ?_)) <;> have h' := h <;> (try simp at h') <;> (try subst h')) | ((with_reducible refine sopsg_cases (fun h => ?_) (fun h => ?_)) <;> have h' := h <;> (try simp at h') <;> (try subst h') <;> simp -implicitDefEqProofs [*]) | ((with_reducible refine sopsk_rg ?_ ?_); (first | omega | (unfold maxLen; omega)); simp -implicitDefEqProofs [*]) | (refine call_h (call_jfail p _ _ _ _ _ _ _ (by simp)) ⟨rfl, trivial⟩ ⟨rfl, trivial⟩ ?_; simp -implicitDefEqProofs [*]) | (with_reducible first | refine zM hm ?_ | refine zN hm ?_ | refine zO hm ?_ | refine zP hm ?_) | fail)
 refine swp_block (swp_for (fun s (x : Nat × Int × Int) => s.turn [(2, .int .i64 x.1)] [(0, .cells 78 (jc p x.2.1 x.2.2))]) (fun x => x.1 ≤ p.tabs.length ∧ (x.2.1 = 0 → AW p.acts) ∧ F = orF (x.2.1, x.2.2) (rowF (fun _ t => tabF p t) 5000 x.1 (p.tabs.drop x.1))) (fun x => p.tabs.length - x.1) (0, _, _) ?_ ⟨by simp, hE.out, hF⟩ ?_)
 ·repeat' (first | ((with_reducible refine wk_self [] hm ?_ ?_ ?_ ?_) <;> (try simp only [zT, puth, Nat.reduceEqDiff, reduceIte, Nat.reduceAdd])) | (with_reducible first | refine za ?_ ?_ | refine zb ?_ ?_ ?_ ?_ | refine zc ?_ ?_ ?_ ?_ | refine zd ?_ ?_ ?_ ?_ | refine objsM_abs ?_ ?_ | refine subH_cons ?_ ?_) | (with_reducible first | exact slotsM_nil | exact objsM_nil | exact subH_nil | exact coL_nilm | exact Co.refl _ | exact CoL.refl _ | exact CoLL.refl _) | ((with_reducible first | refine zga ?_ | refine zgb ?_); rfl) | ((with_reducible refine zgc ?_); (first | (with_reducible rfl) | rfl | (simp; done))) | ((with_reducible first | refine zgd ?_ | refine zge ?_); (first | omega | (simp; done))) | (refine co_wrap ⟨?_, ?_⟩ ?_ <;> omega) | (exact Co.refl _) | (exact CoL.refl _) | (exact CoLL.refl _) | (refine co_own ?_; omega) | (refine co_int ?_; first | omega | (simp_all; done)) | (with_reducible first | refine coL_cons ?_ ?_ | refine coL_consm ?_ ?_) | fail)
 rintro J hJ ⟨i, e, g⟩ ⟨h1, h0, h2⟩
 unfold c_jtabs_l1
 simp only [zT, puth, Nat.reduceEqDiff, reduceIte, Nat.reduceAdd] at h1 h0 h2 ⊢
 rcases Nat.lt_or_ge i p.tabs.length with hi | hi
 ·have hxm : p.tabs[i] ∈ p.tabs := List.getElem_mem hi
  have hw := hs.keys _ hxm
  rw [rowF_drop _ _ hi] at h2
  generalize hxx : p.tabs[i] = x at h2 hw
  by_cases he : e = 0
  ·subst he
   rw [row_step] at h2
   have wi : IntKind.i64.wrap ((i : Int) + 1) = (i : Int) + 1 := i64_add_ (by omega) (by omega)
   have wa : IntKind.i64.wrap (5000 + (i : Int)) = 5000 + (i : Int) := i64_add_ (by omega) (by omega)
   have hAW := h0 rfl
   have hlw : (widthsOf p x).length ≤ 1000000 := by unfold widthsOf; rw [List.length_map]; omega
   have hla2 := hs.acts
   have hc1 := fun q => tcheck_s x (widthsOf p x) p.acts hAW (by omega) (by omega) hlw (by omega) q
   have hc2 := fun q => contains_s (widthsOf p x) 0 hlw q
   have hc3 := fun q => call_widths p x (by omega) q
   have hA : orF (0, g) (tabF p x, 5000 + (i : Int)) = orF (failF (failF 0 g (decide (3 < (x.keys.length : Int))) 2 (5000 + i)).1 (failF 0 g (decide (3 < (x.keys.length : Int))) 2 (5000 + i)).2 ((widthsOf p x).contains 0) 1 (5000 + i)) (tableF x (widthsOf p x) p.acts, 5000 + (i : Int)) := by
    have : tabF p x = if decide (3 < (x.keys.length : Int)) = true then 2 else if (widthsOf p x).contains 0 = true then 1 else tableF x (widthsOf p x) p.acts := by
     unfold tabF; simp only [decide_eq_true_eq]; congr 1; exact propext (by omega)
    rw [this, fail_step _ _ _ _ _ _ (by decide)]
    exact fail_step _ _ _ _ _ _ (by decide)
   generalize orF (0, g) (tabF p x, 5000 + (i : Int)) = A at hA h2
   generalize tableF x (widthsOf p x) p.acts = T at hA hc1
   generalize (widthsOf p x).contains 0 = C at hA hc2
   generalize widthsOf p x = W at hc1 hc2 hc3
   rw [← then_or] at hA
   have kT : (T != 0) = decide (T ≠ 0) := by rw [Bool.eq_iff_iff]; simp
   unfold thenF at hA
   rw [← kT] at hA
   replace hAW := Lib.hid hAW
   replace h0 := Lib.hid h0
   replace hA := Lib.hid hA
   replace h2 := Lib.hid h2
   replace hc1 := Lib.hid hc1
   replace hc2 := Lib.hid hc2
   replace hc3 := Lib.hid hc3
   clear kT
   repeat' (first | (with_reducible first | refine zA ?_ | refine swp_block1 ?_ | refine swp_block2 ?_ | refine zK ?_) | ((with_reducible first | refine swp_reg ?_ | refine swp_regd (by rw [hP]; exact mixed) ?_); (try rw [hP]); simp -implicitDefEqProofs [*]) | ((with_reducible first | refine swp_skip ?_ | refine swp_exit ?_); (try simp -implicitDefEqProofs [*])) | ((with_reducible refine swp_ret ?_); (try simp only [qseq_r, qblock_r, qloop_r])) | ((with_reducible refine swp_cond rfl (fun h => ?_) (fun h => ?_)) <;> have h' := h <;> (try simp at h') <;> (try subst h')) | ((with_reducible refine sopsg_cases (fun h => ?_) (fun h => ?_)) <;> have h' := h <;> (try simp at h') <;> (try subst h') <;> simp -implicitDefEqProofs [*]) | ((with_reducible refine sopsk_rg ?_ ?_); (first | omega | (unfold maxLen; omega)); simp -implicitDefEqProofs [*]) | ((first | refine call_h (call_jfail p _ _ _ _ _ _ _ (by simp)) ⟨rfl, trivial⟩ ⟨rfl, trivial⟩ ?_ | refine call_q (hc1.out _) ?_ | refine call_q (hc2.out _) ?_ | refine call_q (hc3.out _) ?_); simp -implicitDefEqProofs [*]) | (with_reducible first | refine zM hm ?_ | refine zN hm ?_ | refine zO hm ?_ | refine zP hm ?_) | ((with_reducible refine wk_self [] hm ?_ ?_ ?_ ?_) <;> (try simp only [zT, puth, Nat.reduceEqDiff, reduceIte, Nat.reduceAdd])) | (with_reducible first | refine za ?_ ?_ | refine zb ?_ ?_ ?_ ?_ | refine zc ?_ ?_ ?_ ?_ | refine zd ?_ ?_ ?_ ?_ | refine objsM_abs ?_ ?_ | refine subH_cons ?_ ?_) | (with_reducible first | exact slotsM_nil | exact objsM_nil | exact subH_nil | exact coL_nilm | exact Co.refl _ | exact CoL.refl _ | exact CoLL.refl _) | ((with_reducible first | refine zga ?_ | refine zgb ?_); rfl) | ((with_reducible refine zgc ?_); (first | (with_reducible rfl) | rfl | (simp; done))) | ((with_reducible first | refine zgd ?_ | refine zge ?_); (first | omega | (simp; done))) | (refine co_wrap ⟨?_, ?_⟩ ?_ <;> omega) | (exact Co.refl _) | (exact CoL.refl _) | (exact CoLL.refl _) | (refine co_own ?_; omega) | (refine co_int ?_; first | omega | (simp_all; done)) | (with_reducible first | refine coL_cons ?_ ?_ | refine coL_consm ?_ ?_) | ((refine qfor_next hJ (i + 1, ?_, ?_) ?_ ?_ ?_; rotate_left 2; (with_reducible refine wk_self [] hm ?_ ?_ ?_ ?_) <;> (try simp only [zT, puth, Nat.reduceEqDiff, reduceIte, Nat.reduceAdd]))) | fail)
   all_goals (try dsimp only)
   all_goals (refine ⟨by omega, fun _ => hAW.out, ?_⟩; rw [h2.out]; congr 1; try exact hA.out)
  ·have ke : (e == 0) = false := by simpa using he
   replace h2 := Lib.hid h2
   replace h0 := Lib.hid h0
   repeat' (first | (with_reducible first | refine zA ?_ | refine swp_block1 ?_ | refine swp_block2 ?_ | refine zK ?_) | ((with_reducible first | refine swp_reg ?_ | refine swp_regd (by rw [hP]; exact mixed) ?_); (try rw [hP]); simp -implicitDefEqProofs [*]) | ((with_reducible first | refine swp_skip ?_ | refine swp_exit ?_); (try simp -implicitDefEqProofs [*])) | ((with_reducible refine swp_ret ?_); (try simp only [qseq_r, qblock_r, qloop_r])) | ((with_reducible refine swp_cond rfl (fun h => ?_) (fun h => ?_)) <;> have h' := h <;> (try simp at h') <;> (try subst h')) | ((with_reducible refine sopsg_cases (fun h => ?_) (fun h => ?_)) <;> have h' := h <;> (try simp at h') <;> (try subst h') <;> simp -implicitDefEqProofs [*]) | ((with_reducible refine sopsk_rg ?_ ?_); (first | omega | (unfold maxLen; omega)); simp -implicitDefEqProofs [*]) | (with_reducible first | refine zM hm ?_ | refine zN hm ?_ | refine zO hm ?_ | refine zP hm ?_) | (refine fin_voidn hm rfl ?_ (fun σ => rfl)) | fail)
   rw [h2.out, orF_pos he]
 ·obtain rfl : i = p.tabs.length := by omega
  rw [List.drop_length] at h2
  replace h2 := Lib.hid h2
  replace h0 := Lib.hid h0
  repeat' (first | (with_reducible first | refine zA ?_ | refine swp_block1 ?_ | refine swp_block2 ?_ | refine zK ?_) | ((with_reducible first | refine swp_reg ?_ | refine swp_regd (by rw [hP]; exact mixed) ?_); (try rw [hP]); simp -implicitDefEqProofs [*]) | ((with_reducible first | refine swp_skip ?_ | refine swp_exit ?_); (try simp -implicitDefEqProofs [*])) | ((with_reducible refine swp_ret ?_); (try simp only [qseq_r, qblock_r, qloop_r])) | ((with_reducible refine swp_cond rfl (fun h => ?_) (fun h => ?_)) <;> have h' := h <;> (try simp at h') <;> (try subst h')) | ((with_reducible refine sopsg_cases (fun h => ?_) (fun h => ?_)) <;> have h' := h <;> (try simp at h') <;> (try subst h') <;> simp -implicitDefEqProofs [*]) | ((with_reducible refine sopsk_rg ?_ ?_); (first | omega | (unfold maxLen; omega)); simp -implicitDefEqProofs [*]) | (with_reducible first | refine zM hm ?_ | refine zN hm ?_ | refine zO hm ?_ | refine zP hm ?_) | (refine fin_voidn hm rfl ?_ (fun σ => rfl)) | fail)
  rw [h2.out, orF_none _ rfl]
end Go.Proofs.Ytnfjldobjgdiaaa
