/-
  Texts joined: XPlnG XPlnT XPlnH XPlnU XPlnI. No condition.
-/
import Derived.Test.YtnfjldobjgdiaaaProg
import Derived.ProofKit
import Derived.WalkSpells
import Derived.RegionTactic
import Derived.BigRegion
import Derived.Deep.RegionLaw
import Derived.Handy
import Derived.Test.YtnfjldobjgdiaaaPlanChecksK5
namespace Go.Proofs.Ytnfjldobjgdiaaa
set_option linter.all false
open Go.RowKit
attribute [local simp] sops_nil sops_run sopsk_some sops_call sops_guard sopsg_yes sopsg_tf sopsg_ft sopsg_undef rg_true SOp.run SX.ev putd puts argS upds SOp.touch SSt.keep SSt.skip gets geth puth delh idOf SV.cells? setL fillS fillR sbin eq0 eq1 eqL rowOf qseq_n qseq_e qseq_r qblock_n qblock_r qblock_e qloop_e qloop_r take_map_len FrzOk pureV_int pureV_bool pureV_str pureV_nil pureV_nilsl pureV_view pureV_cp pureL_nil_ pureL_cons_ pureO_row pureO_cells frzS frzH frz frz1 frz0 SlotsM ObjsM ObjM rn ren ren1 ren0 co_self co_int co_own co_view co_nilsl co_agg co_tup CoL coll_self mergeH dels adds idsH okNames
attribute [local simp] headc refc pushc casec statec opc actc tabc nodec planc nums jc
def firstIdx (v : Int) : List Int → Nat → Int
 | [], _ => -1
 | x :: l, i => if v = x then (i : Int) else firstIdx v l (i + 1)
theorem firstIdx_drop (v : Int) {l : List Int} {i : Nat} (hi : i < l.length) : firstIdx v (l.drop i) i = if v = l[i] then (i : Int) else firstIdx v (l.drop (i + 1)) (i + 1) := by
 rw [List.drop_eq_getElem_cons hi]; rfl
theorem firstIdx_in (v : Int) : ∀ (l : List Int) (i : Nat), decide (0 ≤ firstIdx v l i) = l.contains v
 | [], i => rfl
 | x :: l, i => by
  unfold firstIdx
  rw [List.contains_cons]
  by_cases h : v = x
  ·subst h; simp
  ·rw [if_neg h, firstIdx_in v l (i + 1)]; simp [h]
theorem index_s (l : List Int) (v : Int) (hl : l.length ≤ 1000000) : SCalls Try.prog 68 [nums .i64 l, .int .i64 v] [] 0 (.int .i64 (firstIdx v l 0)) [] := by
 refine scalls_of (N := 19) Try.func68 rfl rfl (by kernel_rfl) comp_c_index (by simp) (by repeat' (first | exact trivial | refine And.intro ?_ ?_ | rfl | decide)) (by repeat' (first | exact trivial | refine And.intro ?_ ?_ | rfl | decide)) ?_
 rintro X hP hN hm
 have hF : firstIdx v l 0 = firstIdx v (l.drop 0) 0 := rfl
 generalize firstIdx v l 0 = F at hF
 replace hF := Lib.hid hF
 unfold c_index
 repeat' (first | (with_reducible first | refine zA ?_ | refine swp_block1 ?_ | refine swp_block2 ?_ | refine zK ?_) | ((with_reducible first | refine swp_reg ?_ | refine swp_regd (by rw [hP]; exact mixed) ?_); (try rw [hP]); simp -implicitDefEqProofs [*]) | ((with_reducible first | refine swp_skip ?_ | refine swp_exit ?_); (try simp -implicitDefEqProofs [*])) | ((with_reducible refine swp_ret ?_); (try simp only [qseq_r, qblock_r, qloop_r])) | ((with_reducible refine swp_cond rfl (fun h => ?_) (fun h => ?_)) <;> have h' := h <;> (try simp at h') <;> (try subst h')) | ((with_reducible refine sopsg_cases (fun h => ?_) (fun h => ?_)) <;> have h' := h <;> (try simp at h') <;> (try subst h') <;> simp -implicitDefEqProofs [*]) | ((with_reducible refine sopsk_rg ?_ ?_); (first | omega | (unfold maxLen; omega)); simp -implicitDefEqProofs [*]) | (with_reducible first | refine zM hm ?_ | refine zN hm ?_ | refine zO hm ?_ | refine zP hm ?_) | fail)
 refine swp_block (swp_for (fun s (i : Nat) => s.turn [(8, .int .i64 i)] []) (fun i => i ≤ l.length ∧ F = firstIdx v (l.drop i) i) (fun i => l.length - i) 0 ?_ ⟨by simp, hF.out⟩ ?_)
 ·repeat' (first | ((with_reducible refine wk_self [] hm ?_ ?_ ?_ ?_) <;> (try simp only [zT, puth, Nat.reduceEqDiff, reduceIte, Nat.reduceAdd])) | (with_reducible first | refine za ?_ ?_ | refine zb ?_ ?_ ?_ ?_ | refine zc ?_ ?_ ?_ ?_ | refine zd ?_ ?_ ?_ ?_ | refine objsM_abs ?_ ?_ | refine subH_cons ?_ ?_) | (with_reducible first | exact slotsM_nil | exact objsM_nil | exact subH_nil | exact coL_nilm | exact Co.refl _ | exact CoL.refl _ | exact CoLL.refl _) | ((with_reducible first | refine zga ?_ | refine zgb ?_); rfl) | ((with_reducible refine zgc ?_); (first | (with_reducible rfl) | rfl | (simp; done))) | ((with_reducible first | refine zgd ?_ | refine zge ?_); (first | omega | (simp; done))) | (refine co_wrap ⟨?_, ?_⟩ ?_ <;> omega) | (exact Co.refl _) | (exact CoL.refl _) | (exact CoLL.refl _) | (refine co_own ?_; omega) | (refine co_int ?_; first | omega | (simp_all; done)) | (with_reducible first | refine coL_cons ?_ ?_ | refine coL_consm ?_ ?_) | fail)
 rintro J hJ i ⟨h1, h2⟩
 unfold c_index_l1
 simp only [zT, puth, Nat.reduceEqDiff, reduceIte, Nat.reduceAdd] at h1 h2 ⊢
 rcases Nat.lt_or_ge i l.length with hi | hi
 ·rw [firstIdx_drop v hi] at h2
  generalize hxx : l[i] = x at h2
  have wi : IntKind.i64.wrap ((i : Int) + 1) = (i : Int) + 1 := i64_add_ (by omega) (by omega)
  replace h2 := Lib.hid h2
  cases hv : (v == x)
  ·have hv' : ¬ v = x := by simpa using hv
   repeat' (first | (with_reducible first | refine zA ?_ | refine swp_block1 ?_ | refine swp_block2 ?_ | refine zK ?_) | ((with_reducible first | refine swp_reg ?_ | refine swp_regd (by rw [hP]; exact mixed) ?_); (try rw [hP]); simp -implicitDefEqProofs [*]) | ((with_reducible first | refine swp_skip ?_ | refine swp_exit ?_); (try simp -implicitDefEqProofs [*])) | ((with_reducible refine swp_ret ?_); (try simp only [qseq_r, qblock_r, qloop_r])) | ((with_reducible refine swp_cond rfl (fun h => ?_) (fun h => ?_)) <;> have h' := h <;> (try simp at h') <;> (try subst h')) | ((with_reducible refine sopsg_cases (fun h => ?_) (fun h => ?_)) <;> have h' := h <;> (try simp at h') <;> (try subst h') <;> simp -implicitDefEqProofs [*]) | ((with_reducible refine sopsk_rg ?_ ?_); (first | omega | (unfold maxLen; omega)); simp -implicitDefEqProofs [*]) | (with_reducible first | refine zM hm ?_ | refine zN hm ?_ | refine zO hm ?_ | refine zP hm ?_) | ((with_reducible refine wk_self [] hm ?_ ?_ ?_ ?_) <;> (try simp only [zT, puth, Nat.reduceEqDiff, reduceIte, Nat.reduceAdd])) | (with_reducible first | refine za ?_ ?_ | refine zb ?_ ?_ ?_ ?_ | refine zc ?_ ?_ ?_ ?_ | refine zd ?_ ?_ ?_ ?_ | refine objsM_abs ?_ ?_ | refine subH_cons ?_ ?_) | (with_reducible first | exact slotsM_nil | exact objsM_nil | exact subH_nil | exact coL_nilm | exact Co.refl _ | exact CoL.refl _ | exact CoLL.refl _) | ((with_reducible first | refine zga ?_ | refine zgb ?_); rfl) | ((with_reducible refine zgc ?_); (first | (with_reducible rfl) | rfl | (simp; done))) | ((with_reducible first | refine zgd ?_ | refine zge ?_); (first | omega | (simp; done))) | (refine co_wrap ⟨?_, ?_⟩ ?_ <;> omega) | (exact Co.refl _) | (exact CoL.refl _) | (exact CoLL.refl _) | (refine co_own ?_; omega) | (refine co_int ?_; first | omega | (simp_all; done)) | (with_reducible first | refine coL_cons ?_ ?_ | refine coL_consm ?_ ?_) | ((refine qfor_next hJ (i + 1) ?_ ?_ ?_; (with_reducible refine wk_self [] hm ?_ ?_ ?_ ?_) <;> (try simp only [zT, puth, Nat.reduceEqDiff, reduceIte, Nat.reduceAdd]))) | fail)
   exact ⟨by omega, by rw [h2.out, if_neg hv']⟩
  ·have hv' : v = x := by simpa using hv
   replace hv' := Lib.hid hv'
   repeat' (first | (with_reducible first | refine zA ?_ | refine swp_block1 ?_ | refine swp_block2 ?_ | refine zK ?_) | ((with_reducible first | refine swp_reg ?_ | refine swp_regd (by rw [hP]; exact mixed) ?_); (try rw [hP]); simp -implicitDefEqProofs [*]) | ((with_reducible first | refine swp_skip ?_ | refine swp_exit ?_); (try simp -implicitDefEqProofs [*])) | ((with_reducible refine swp_ret ?_); (try simp only [qseq_r, qblock_r, qloop_r])) | ((with_reducible refine swp_cond rfl (fun h => ?_) (fun h => ?_)) <;> have h' := h <;> (try simp at h') <;> (try subst h')) | ((with_reducible refine sopsg_cases (fun h => ?_) (fun h => ?_)) <;> have h' := h <;> (try simp at h') <;> (try subst h') <;> simp -implicitDefEqProofs [*]) | ((with_reducible refine sopsk_rg ?_ ?_); (first | omega | (unfold maxLen; omega)); simp -implicitDefEqProofs [*]) | (with_reducible first | refine zM hm ?_ | refine zN hm ?_ | refine zO hm ?_ | refine zP hm ?_) | fail)
   rw [h2.out, if_pos hv'.out]
 ·obtain rfl : i = l.length := by omega
  rw [List.drop_length] at h2
  replace h2 := Lib.hid h2
  repeat' (first | (with_reducible first | refine zA ?_ | refine swp_block1 ?_ | refine swp_block2 ?_ | refine zK ?_) | ((with_reducible first | refine swp_reg ?_ | refine swp_regd (by rw [hP]; exact mixed) ?_); (try rw [hP]); simp -implicitDefEqProofs [*]) | ((with_reducible first | refine swp_skip ?_ | refine swp_exit ?_); (try simp -implicitDefEqProofs [*])) | ((with_reducible refine swp_ret ?_); (try simp only [qseq_r, qblock_r, qloop_r])) | ((with_reducible refine swp_cond rfl (fun h => ?_) (fun h => ?_)) <;> have h' := h <;> (try simp at h') <;> (try subst h')) | ((with_reducible refine sopsg_cases (fun h => ?_) (fun h => ?_)) <;> have h' := h <;> (try simp at h') <;> (try subst h') <;> simp -implicitDefEqProofs [*]) | ((with_reducible refine sopsk_rg ?_ ?_); (first | omega | (unfold maxLen; omega)); simp -implicitDefEqProofs [*]) | (with_reducible first | refine zM hm ?_ | refine zN hm ?_ | refine zO hm ?_ | refine zP hm ?_) | fail)
  rw [h2.out]; rfl
theorem contains_s (l : List Int) (v : Int) (hl : l.length ≤ 1000000) (q : Nat) : SCalls Try.prog 38 [nums .i64 l, .int .i64 v] [] q (.bool (l.contains v)) [] := by
 refine scalls_q ?_ (fun _ => rfl) (fun _ => rfl) rfl q
 refine scalls_of (N := 9) Try.func38 rfl rfl (by kernel_rfl) comp_c_contains (by simp) (by repeat' (first | exact trivial | refine And.intro ?_ ?_ | rfl | decide)) (by repeat' (first | exact trivial | refine And.intro ?_ ?_ | rfl | decide)) ?_
 rintro X hP hN hm
 have hi := firstIdx_in v l 0
 have hc := fun q => scalls_q (index_s l v hl) (fun _ => rfl) (fun _ => rfl) rfl q
 generalize firstIdx v l 0 = I at hi hc
 unfold c_contains
 repeat' (first | (with_reducible first | refine zA ?_ | refine swp_block1 ?_ | refine swp_block2 ?_ | refine zK ?_) | ((with_reducible first | refine swp_reg ?_ | refine swp_regd (by rw [hP]; exact mixed) ?_); (try rw [hP]); simp -implicitDefEqProofs [*]) | ((with_reducible first | refine swp_skip ?_ | refine swp_exit ?_); (try simp -implicitDefEqProofs [*])) | ((with_reducible refine swp_ret ?_); (try simp only [qseq_r, qblock_r, qloop_r])) | ((with_reducible refine swp_cond rfl (fun h => ?_) (fun h => ?_)) <;> have h' := h <;> (try simp at h') <;> (try subst h')) | ((with_reducible refine sopsg_cases (fun h => ?_) (fun h => ?_)) <;> have h' := h <;> (try simp at h') <;> (try subst h') <;> simp -implicitDefEqProofs [*]) | ((with_reducible refine sopsk_rg ?_ ?_); (first | omega | (unfold maxLen; omega)); simp -implicitDefEqProofs [*]) | (refine call_q (hc _) ?_; simp -implicitDefEqProofs [*]) | (with_reducible first | refine zM hm ?_ | refine zN hm ?_ | refine zO hm ?_ | refine zP hm ?_) | fail)
 all_goals (exact decide_eq_decide.2 Iff.rfl)
def wrow (p : PlanD) (l : List RefD) (i : Nat) : List (List SV) := (l.take i).map fun r => [.int .i64 (widthOf p r [])]
instance (p : PlanD) (l : List RefD) (i : Nat) : PureR (wrow p l i) := ⟨fun σ => by unfold wrow; rw [List.map_map]; rfl, fun x hx => by obtain ⟨b, _, rfl⟩ := List.mem_map.1 hx; rfl, fun x hx => by obtain ⟨b, _, rfl⟩ := List.mem_map.1 hx; exact pureL_ints _ rfl⟩
theorem wrow_len (p : PlanD) {l : List RefD} {i : Nat} (hi : i ≤ l.length) : (wrow p l i).length = i := by unfold wrow; simp; omega
theorem wrow_succ (p : PlanD) {l : List RefD} {i : Nat} (hi : i < l.length) : wrow p l i ++ [[.int .i64 (widthOf p l[i] [])]] = wrow p l (i + 1) := by
 unfold wrow; rw [List.take_succ_eq_append_getElem hi, List.map_append]; rfl
theorem wrow_all (p : PlanD) (t : TabD) : SV.view 1 (wrow p t.keys t.keys.length) = nums .i64 (widthsOf p t) := by
 unfold wrow nums widthsOf; rw [List.take_length, List.map_map]; rfl
theorem widths_s (p : PlanD) (t : TabD) (hl : t.keys.length ≤ 1000000) : SCalls Try.prog 12 [.agg (planc p), .agg (tabc t)] [] 0 (nums .i64 (widthsOf p t)) [] := by
 rw [← wrow_all]
 refine scalls_of (N := 23) Try.func12 rfl rfl (by kernel_rfl) comp_c_widths (by simp) (by repeat' (first | exact trivial | refine And.intro ?_ ?_ | rfl | decide)) (by repeat' (first | exact trivial | refine And.intro ?_ ?_ | rfl | decide)) ?_
 rintro X hP hN hm
 unfold c_widths
 repeat' (first | (with_reducible first | refine zA ?_ | refine swp_block1 ?_ | refine swp_block2 ?_ | refine zK ?_) | ((with_reducible first | refine swp_reg ?_ | refine swp_regd (by rw [hP]; exact mixed) ?_); (try rw [hP]); simp -implicitDefEqProofs [*]) | ((with_reducible first | refine swp_skip ?_ | refine swp_exit ?_); (try simp -implicitDefEqProofs [*])) | ((with_reducible refine swp_ret ?_); (try simp only [qseq_r, qblock_r, qloop_r])) | ((with_reducible refine swp_cond rfl (fun h => ?_) (fun h => ?_)) <;> have h' := h <;> (try simp at h') <;> (try subst h')) | ((with_reducible refine sopsg_cases (fun h => ?_) (fun h => ?_)) <;> have h' := h <;> (try simp at h') <;> (try subst h') <;> simp -implicitDefEqProofs [*]) | ((with_reducible refine sopsk_rg ?_ ?_); (first | omega | (unfold maxLen; omega)); simp -implicitDefEqProofs [*]) | (with_reducible first | refine zM hm ?_ | refine zN hm ?_ | refine zO hm ?_ | refine zP hm ?_) | fail)
 refine swp_wk (wk_adoptS 5 3 1 rfl) ?_
 simp only [zT, puth, Nat.reduceEqDiff, reduceIte, Nat.reduceAdd]
 refine swp_block (swp_for (fun s (i : Nat) => s.turn [(5, .own 8 i), (11, .int .i64 i)] [(8, .row 3 1 (wrow p t.keys i))]) (fun i => i ≤ t.keys.length) (fun i => t.keys.length - i) 0 ?_ (by simp) ?_)
 ·repeat' (first | ((with_reducible refine wk_self [] hm ?_ ?_ ?_ ?_) <;> (try simp only [zT, puth, Nat.reduceEqDiff, reduceIte, Nat.reduceAdd])) | (with_reducible first | refine za ?_ ?_ | refine zb ?_ ?_ ?_ ?_ | refine zc ?_ ?_ ?_ ?_ | refine zd ?_ ?_ ?_ ?_ | refine objsM_abs ?_ ?_ | refine subH_cons ?_ ?_) | (with_reducible first | exact slotsM_nil | exact objsM_nil | exact subH_nil | exact coL_nilm | exact Co.refl _ | exact CoL.refl _ | exact CoLL.refl _) | ((with_reducible first | refine zga ?_ | refine zgb ?_); rfl) | ((with_reducible refine zgc ?_); (first | (with_reducible rfl) | rfl | (simp; done))) | ((with_reducible first | refine zgd ?_ | refine zge ?_); (first | omega | (simp; done))) | (refine co_wrap ⟨?_, ?_⟩ ?_ <;> omega) | (exact Co.refl _) | (exact CoL.refl _) | (exact CoLL.refl _) | (refine co_own ?_; omega) | (refine co_int ?_; first | omega | (simp_all; done)) | (with_reducible first | refine coL_cons ?_ ?_ | refine coL_consm ?_ ?_) | fail)
 rintro J hJ i hi
 unfold c_widths_l1
 simp only [zT, puth, Nat.reduceEqDiff, reduceIte, Nat.reduceAdd]
 have hlen := wrow_len p hi
 have hb1 : i + 1 ≤ maxLen := by unfold maxLen; omega
 rcases Nat.lt_or_ge i t.keys.length with h | h
 ·have wi : IntKind.i64.wrap ((i : Int) + 1) = (i : Int) + 1 := i64_add_ (by omega) (by omega)
  have hrow := wrow_succ p h
  generalize hr : t.keys[i] = r at hrow
  repeat' (first | (with_reducible first | refine zA ?_ | refine swp_block1 ?_ | refine swp_block2 ?_ | refine zK ?_) | ((with_reducible first | refine swp_reg ?_ | refine swp_regd (by rw [hP]; exact mixed) ?_); (try rw [hP]); simp -implicitDefEqProofs [*]) | ((with_reducible first | refine swp_skip ?_ | refine swp_exit ?_); (try simp -implicitDefEqProofs [*])) | ((with_reducible refine swp_ret ?_); (try simp only [qseq_r, qblock_r, qloop_r])) | ((with_reducible refine swp_cond rfl (fun h => ?_) (fun h => ?_)) <;> have h' := h <;> (try simp at h') <;> (try subst h')) | ((with_reducible refine sopsg_cases (fun h => ?_) (fun h => ?_)) <;> have h' := h <;> (try simp at h') <;> (try subst h') <;> simp -implicitDefEqProofs [*]) | ((with_reducible refine sopsk_rg ?_ ?_); (first | omega | (unfold maxLen; omega)); simp -implicitDefEqProofs [*]) | (refine call_q (call_width0 p r _) ?_; simp -implicitDefEqProofs [*]) | (with_reducible first | refine zM hm ?_ | refine zN hm ?_ | refine zO hm ?_ | refine zP hm ?_) | ((with_reducible refine wk_self [] hm ?_ ?_ ?_ ?_) <;> (try simp only [zT, puth, Nat.reduceEqDiff, reduceIte, Nat.reduceAdd])) | (with_reducible first | refine za ?_ ?_ | refine zb ?_ ?_ ?_ ?_ | refine zc ?_ ?_ ?_ ?_ | refine zd ?_ ?_ ?_ ?_ | refine objsM_abs ?_ ?_ | refine subH_cons ?_ ?_) | (with_reducible first | exact slotsM_nil | exact objsM_nil | exact subH_nil | exact coL_nilm | exact Co.refl _ | exact CoL.refl _ | exact CoLL.refl _) | ((with_reducible first | refine zga ?_ | refine zgb ?_); rfl) | ((with_reducible refine zgc ?_); (first | (with_reducible rfl) | rfl | (simp; done))) | ((with_reducible first | refine zgd ?_ | refine zge ?_); (first | omega | (simp; done))) | (refine co_wrap ⟨?_, ?_⟩ ?_ <;> omega) | (exact Co.refl _) | (exact CoL.refl _) | (exact CoLL.refl _) | (refine co_own ?_; omega) | (refine co_int ?_; first | omega | (simp_all; done)) | (with_reducible first | refine coL_cons ?_ ?_ | refine coL_consm ?_ ?_) | ((refine qfor_next hJ (i + 1) ?_ ?_ ?_; (with_reducible refine wk_self [(8, ?_)] hm ?_ ?_ ?_ ?_) <;> (try simp only [zT, puth, Nat.reduceEqDiff, reduceIte, Nat.reduceAdd]))) | fail)
 ·obtain rfl : i = t.keys.length := by omega
  repeat' (first | ((with_reducible refine swp_stop (c := .seq (.reg false c_widths_r8 [4]) .ret) ?_)) | (with_reducible first | refine zA ?_ | refine swp_block1 ?_ | refine swp_block2 ?_ | refine zK ?_) | ((with_reducible first | refine swp_reg ?_ | refine swp_regd (by rw [hP]; exact mixed) ?_); (try rw [hP]); simp -implicitDefEqProofs [*]) | ((with_reducible first | refine swp_skip ?_ | refine swp_exit ?_); (try simp -implicitDefEqProofs [*])) | ((with_reducible refine swp_ret ?_); (try simp only [qseq_r, qblock_r, qloop_r])) | ((with_reducible refine swp_cond rfl (fun h => ?_) (fun h => ?_)) <;> have h' := h <;> (try simp at h') <;> (try subst h')) | ((with_reducible refine sopsg_cases (fun h => ?_) (fun h => ?_)) <;> have h' := h <;> (try simp at h') <;> (try subst h') <;> simp -implicitDefEqProofs [*]) | ((with_reducible refine sopsk_rg ?_ ?_); (first | omega | (unfold maxLen; omega)); simp -implicitDefEqProofs [*]) | (with_reducible first | refine zM hm ?_ | refine zN hm ?_ | refine zO hm ?_ | refine zP hm ?_) | fail)
  constructor
  refine swp_frz [8] ?_ ?_
  ·simp only [FrzOk, geth, Nat.reduceEqDiff, reduceIte, pureR_O, and_true]
  have htk : (wrow p t.keys t.keys.length).take t.keys.length = wrow p t.keys t.keys.length := List.take_of_length_le (by omega)
  simp -implicitDefEqProofs [htk, hlen, Nat.le_refl]
  repeat' (first | (with_reducible first | refine zA ?_ | refine swp_block1 ?_ | refine swp_block2 ?_ | refine zK ?_) | ((with_reducible first | refine swp_reg ?_ | refine swp_regd (by rw [hP]; exact mixed) ?_); (try rw [hP]); simp -implicitDefEqProofs [*]) | ((with_reducible first | refine swp_skip ?_ | refine swp_exit ?_); (try simp -implicitDefEqProofs [*])) | ((with_reducible refine swp_ret ?_); (try simp only [qseq_r, qblock_r, qloop_r])) | ((with_reducible refine swp_cond rfl (fun h => ?_) (fun h => ?_)) <;> have h' := h <;> (try simp at h') <;> (try subst h')) | ((with_reducible refine sopsg_cases (fun h => ?_) (fun h => ?_)) <;> have h' := h <;> (try simp at h') <;> (try subst h') <;> simp -implicitDefEqProofs [*]) | ((with_reducible refine sopsk_rg ?_ ?_); (first | omega | (unfold maxLen; omega)); simp -implicitDefEqProofs [*]) | (with_reducible first | refine zM hm ?_ | refine zN hm ?_ | refine zO hm ?_ | refine zP hm ?_) | (refine fin_tmp hm ?_ (noN_view _ _)) | fail)
  rfl
end Go.Proofs.Ytnfjldobjgdiaaa
namespace Go.Proofs.Ytnfjldobjgdiaaa
set_option linter.all false
open Go.RowKit
attribute [local simp] sops_nil sops_run sopsk_some sops_call sops_guard sopsg_yes sopsg_tf sopsg_ft sopsg_undef rg_true SOp.run SX.ev putd puts argS upds SOp.touch SSt.keep SSt.skip gets geth puth delh idOf SV.cells? setL fillS fillR sbin eq0 eq1 eqL rowOf qseq_n qseq_e qseq_r qblock_n qblock_r qblock_e qloop_e qloop_r take_map_len FrzOk pureV_int pureV_bool pureV_str pureV_nil pureV_nilsl pureV_view pureV_cp pureL_nil_ pureL_cons_ pureO_row pureO_cells frzS frzH frz frz1 frz0 SlotsM ObjsM ObjM rn ren ren1 ren0 co_self co_int co_own co_view co_nilsl co_agg co_tup CoL coll_self mergeH dels adds idsH okNames
attribute [local simp] headc refc pushc casec statec opc actc tabc nodec planc nums
theorem rdeed_s (p : PlanD) (o : OpD) (args : List Int) (hl : o.e.length ≤ 1000000) (q : Nat) : SCalls Try.prog 71 [.agg (planc p), .agg (opc o), nums .i64 args] [] q (.int .i64 (deedF p o args)) [] := by
 refine scalls_q ?_ (fun _ => rfl) (fun _ => rfl) rfl q
 refine scalls_of (N := 52) Try.func71 rfl rfl (by kernel_rfl) comp_c_rdeed (by simp) (by repeat' (first | exact trivial | refine And.intro ?_ ?_ | rfl | decide)) (by repeat' (first | exact trivial | refine And.intro ?_ ?_ | rfl | decide)) ?_
 rintro X hP hN hm
 unfold c_rdeed
 have c1 := fun q => rmay_s p o.r q
 have c2 := fun q => rexpr_s p o.e args hl q
 have c3 := fun q => rhead_s p o.head q
 have hD : deedF p o args = if o.kind = 1 then (if mayBe p o.r then exprF p o.e args else 1) else if o.kind = 2 then (if isHead p o.head then 0 else 1) else if o.kind = 3 then (if isHead p o.head then 0 else 1)
  else if o.kind = 4 then 0 else if o.kind = 5 then exprF p o.e args else if o.kind = 6 then (if mayBe p o.r && isHead p o.head then 0 else 1) else 5 := by
  unfold deedF
  by_cases k2 : o.kind = 2
  ·simp [k2]
  by_cases k3 : o.kind = 3
  ·simp [k3]
  simp [k2, k3]
 generalize deedF p o args = F at hD
 generalize exprF p o.e args = E at hD c2
 generalize mayBe p o.r = M at hD c1
 generalize isHead p o.head = H at hD c3
 replace hD := Lib.hid hD
 replace c1 := Lib.hid c1
 replace c2 := Lib.hid c2
 replace c3 := Lib.hid c3
 repeat' (first | (with_reducible first | refine zA ?_ | refine swp_block1 ?_ | refine swp_block2 ?_ | refine zK ?_) | ((with_reducible first | refine swp_reg ?_ | refine swp_regd (by rw [hP]; exact mixed) ?_); (try rw [hP]); simp -implicitDefEqProofs [pushes, *]) | ((with_reducible first | refine swp_skip ?_ | refine swp_exit ?_); (try simp -implicitDefEqProofs [pushes, *])) | ((with_reducible refine swp_ret ?_); (try simp only [qseq_r, qblock_r, qloop_r])) | ((with_reducible refine swp_cond rfl (fun h => ?_) (fun h => ?_)) <;> have h' := h <;> (try simp at h') <;> (try subst h')) | ((with_reducible refine sopsg_cases (fun h => ?_) (fun h => ?_)) <;> have h' := h <;> (try simp at h') <;> (try subst h') <;> simp -implicitDefEqProofs [pushes, *]) | ((with_reducible refine sopsk_rg ?_ ?_); (first | omega | (unfold maxLen; omega)); simp -implicitDefEqProofs [pushes, *]) | ((first | refine call_q (c1.out _) ?_ | refine call_q (c2.out _) ?_ | refine call_q (c3.out _) ?_); simp -implicitDefEqProofs [pushes, *]) | (with_reducible first | refine zM hm ?_ | refine zN hm ?_ | refine zO hm ?_ | refine zP hm ?_) | fail)
 all_goals (rw [hD.out]; first | (simp [*]; done) | (simp_all; done))
theorem contains_drop (v : Int) {l : List Int} {i : Nat} (hi : i < l.length) : (l.drop i).contains v = (l[i] == v || (l.drop (i + 1)).contains v) := by
 rw [List.drop_eq_getElem_cons hi, List.contains_cons, Bool.beq_comm]
theorem rin_s (l : List Int) (v : Int) (hl : l.length ≤ 1000000) (q : Nat) : SCalls Try.prog 43 [nums .i64 l, .int .i64 v] [] q (.bool (l.contains v)) [] := by
 refine scalls_q ?_ (fun _ => rfl) (fun _ => rfl) rfl q
 refine scalls_of (N := 18) Try.func43 rfl rfl (by kernel_rfl) comp_c_rin (by simp) (by repeat' (first | exact trivial | refine And.intro ?_ ?_ | rfl | decide)) (by repeat' (first | exact trivial | refine And.intro ?_ ?_ | rfl | decide)) ?_
 rintro X hP hN hm
 have hF : l.contains v = (l.drop 0).contains v := rfl
 generalize l.contains v = F at hF
 replace hF := Lib.hid hF
 unfold c_rin
 repeat' (first | (with_reducible first | refine zA ?_ | refine swp_block1 ?_ | refine swp_block2 ?_ | refine zK ?_) | ((with_reducible first | refine swp_reg ?_ | refine swp_regd (by rw [hP]; exact mixed) ?_); (try rw [hP]); simp -implicitDefEqProofs [*]) | ((with_reducible first | refine swp_skip ?_ | refine swp_exit ?_); (try simp -implicitDefEqProofs [*])) | ((with_reducible refine swp_ret ?_); (try simp only [qseq_r, qblock_r, qloop_r])) | ((with_reducible refine swp_cond rfl (fun h => ?_) (fun h => ?_)) <;> have h' := h <;> (try simp at h') <;> (try subst h')) | ((with_reducible refine sopsg_cases (fun h => ?_) (fun h => ?_)) <;> have h' := h <;> (try simp at h') <;> (try subst h') <;> simp -implicitDefEqProofs [*]) | ((with_reducible refine sopsk_rg ?_ ?_); (first | omega | (unfold maxLen; omega)); simp -implicitDefEqProofs [*]) | (with_reducible first | refine zM hm ?_ | refine zN hm ?_ | refine zO hm ?_ | refine zP hm ?_) | fail)
 refine swp_block (swp_for (fun s (i : Nat) => s.turn [(5, .int .i64 i)] []) (fun i => i ≤ l.length ∧ F = (l.drop i).contains v) (fun i => l.length - i) 0 ?_ ⟨by simp, hF.out⟩ ?_)
 ·repeat' (first | ((with_reducible refine wk_self [] hm ?_ ?_ ?_ ?_) <;> (try simp only [zT, puth, Nat.reduceEqDiff, reduceIte, Nat.reduceAdd])) | (with_reducible first | refine za ?_ ?_ | refine zb ?_ ?_ ?_ ?_ | refine zc ?_ ?_ ?_ ?_ | refine zd ?_ ?_ ?_ ?_ | refine objsM_abs ?_ ?_ | refine subH_cons ?_ ?_) | (with_reducible first | exact slotsM_nil | exact objsM_nil | exact subH_nil | exact coL_nilm | exact Co.refl _ | exact CoL.refl _ | exact CoLL.refl _) | ((with_reducible first | refine zga ?_ | refine zgb ?_); rfl) | ((with_reducible refine zgc ?_); (first | (with_reducible rfl) | rfl | (simp; done))) | ((with_reducible first | refine zgd ?_ | refine zge ?_); (first | omega | (simp; done))) | (refine co_wrap ⟨?_, ?_⟩ ?_ <;> omega) | (exact Co.refl _) | (exact CoL.refl _) | (exact CoLL.refl _) | (refine co_own ?_; omega) | (refine co_int ?_; first | omega | (simp_all; done)) | (with_reducible first | refine coL_cons ?_ ?_ | refine coL_consm ?_ ?_) | fail)
 rintro J hJ i ⟨h1, h2⟩
 unfold c_rin_l1
 simp only [zT, puth, Nat.reduceEqDiff, reduceIte, Nat.reduceAdd] at h1 h2 ⊢
 rcases Nat.lt_or_ge i l.length with hi | hi
 ·rw [contains_drop v hi] at h2
  generalize hxx : l[i] = x at h2
  have wi : IntKind.i64.wrap ((i : Int) + 1) = (i : Int) + 1 := i64_add_ (by omega) (by omega)
  cases hv : (x == v) <;> rw [hv] at h2 <;> replace h2 := Lib.hid h2
  ·repeat' (first | (with_reducible first | refine zA ?_ | refine swp_block1 ?_ | refine swp_block2 ?_ | refine zK ?_) | ((with_reducible first | refine swp_reg ?_ | refine swp_regd (by rw [hP]; exact mixed) ?_); (try rw [hP]); simp -implicitDefEqProofs [*]) | ((with_reducible first | refine swp_skip ?_ | refine swp_exit ?_); (try simp -implicitDefEqProofs [*])) | ((with_reducible refine swp_ret ?_); (try simp only [qseq_r, qblock_r, qloop_r])) | ((with_reducible refine swp_cond rfl (fun h => ?_) (fun h => ?_)) <;> have h' := h <;> (try simp at h') <;> (try subst h')) | ((with_reducible refine sopsg_cases (fun h => ?_) (fun h => ?_)) <;> have h' := h <;> (try simp at h') <;> (try subst h') <;> simp -implicitDefEqProofs [*]) | ((with_reducible refine sopsk_rg ?_ ?_); (first | omega | (unfold maxLen; omega)); simp -implicitDefEqProofs [*]) | (with_reducible first | refine zM hm ?_ | refine zN hm ?_ | refine zO hm ?_ | refine zP hm ?_) | ((with_reducible refine wk_self [] hm ?_ ?_ ?_ ?_) <;> (try simp only [zT, puth, Nat.reduceEqDiff, reduceIte, Nat.reduceAdd])) | (with_reducible first | refine za ?_ ?_ | refine zb ?_ ?_ ?_ ?_ | refine zc ?_ ?_ ?_ ?_ | refine zd ?_ ?_ ?_ ?_ | refine objsM_abs ?_ ?_ | refine subH_cons ?_ ?_) | (with_reducible first | exact slotsM_nil | exact objsM_nil | exact subH_nil | exact coL_nilm | exact Co.refl _ | exact CoL.refl _ | exact CoLL.refl _) | ((with_reducible first | refine zga ?_ | refine zgb ?_); rfl) | ((with_reducible refine zgc ?_); (first | (with_reducible rfl) | rfl | (simp; done))) | ((with_reducible first | refine zgd ?_ | refine zge ?_); (first | omega | (simp; done))) | (refine co_wrap ⟨?_, ?_⟩ ?_ <;> omega) | (exact Co.refl _) | (exact CoL.refl _) | (exact CoLL.refl _) | (refine co_own ?_; omega) | (refine co_int ?_; first | omega | (simp_all; done)) | (with_reducible first | refine coL_cons ?_ ?_ | refine coL_consm ?_ ?_) | ((refine qfor_next hJ (i + 1) ?_ ?_ ?_; (with_reducible refine wk_self [] hm ?_ ?_ ?_ ?_) <;> (try simp only [zT, puth, Nat.reduceEqDiff, reduceIte, Nat.reduceAdd]))) | fail)
   exact ⟨by omega, by rw [h2.out, Bool.false_or]⟩
  ·repeat' (first | (with_reducible first | refine zA ?_ | refine swp_block1 ?_ | refine swp_block2 ?_ | refine zK ?_) | ((with_reducible first | refine swp_reg ?_ | refine swp_regd (by rw [hP]; exact mixed) ?_); (try rw [hP]); simp -implicitDefEqProofs [*]) | ((with_reducible first | refine swp_skip ?_ | refine swp_exit ?_); (try simp -implicitDefEqProofs [*])) | ((with_reducible refine swp_ret ?_); (try simp only [qseq_r, qblock_r, qloop_r])) | ((with_reducible refine swp_cond rfl (fun h => ?_) (fun h => ?_)) <;> have h' := h <;> (try simp at h') <;> (try subst h')) | ((with_reducible refine sopsg_cases (fun h => ?_) (fun h => ?_)) <;> have h' := h <;> (try simp at h') <;> (try subst h') <;> simp -implicitDefEqProofs [*]) | ((with_reducible refine sopsk_rg ?_ ?_); (first | omega | (unfold maxLen; omega)); simp -implicitDefEqProofs [*]) | (with_reducible first | refine zM hm ?_ | refine zN hm ?_ | refine zO hm ?_ | refine zP hm ?_) | fail)
   rw [h2.out]; rfl
 ·obtain rfl : i = l.length := by omega
  rw [List.drop_length] at h2
  replace h2 := Lib.hid h2
  repeat' (first | (with_reducible first | refine zA ?_ | refine swp_block1 ?_ | refine swp_block2 ?_ | refine zK ?_) | ((with_reducible first | refine swp_reg ?_ | refine swp_regd (by rw [hP]; exact mixed) ?_); (try rw [hP]); simp -implicitDefEqProofs [*]) | ((with_reducible first | refine swp_skip ?_ | refine swp_exit ?_); (try simp -implicitDefEqProofs [*])) | ((with_reducible refine swp_ret ?_); (try simp only [qseq_r, qblock_r, qloop_r])) | ((with_reducible refine swp_cond rfl (fun h => ?_) (fun h => ?_)) <;> have h' := h <;> (try simp at h') <;> (try subst h')) | ((with_reducible refine sopsg_cases (fun h => ?_) (fun h => ?_)) <;> have h' := h <;> (try simp at h') <;> (try subst h') <;> simp -implicitDefEqProofs [*]) | ((with_reducible refine sopsk_rg ?_ ?_); (first | omega | (unfold maxLen; omega)); simp -implicitDefEqProofs [*]) | (with_reducible first | refine zM hm ?_ | refine zN hm ?_ | refine zO hm ?_ | refine zP hm ?_) | fail)
  rw [h2.out]; rfl
theorem rwidths_s (p : PlanD) (t : TabD) (hl : t.keys.length ≤ 1000000) (q : Nat) : SCalls Try.prog 13 [.agg (planc p), .agg (tabc t)] [] q (nums .i64 (widthsOf p t)) [] := by
 refine scalls_q ?_ (fun _ => rfl) (fun _ => rfl) rfl q
 rw [← wrow_all]
 refine scalls_of (N := 25) Try.func13 rfl rfl (by kernel_rfl) comp_c_rwidths (by simp) (by repeat' (first | exact trivial | refine And.intro ?_ ?_ | rfl | decide)) (by repeat' (first | exact trivial | refine And.intro ?_ ?_ | rfl | decide)) ?_
 rintro X hP hN hm
 unfold c_rwidths
 repeat' (first | (with_reducible first | refine zA ?_ | refine swp_block1 ?_ | refine swp_block2 ?_ | refine zK ?_) | ((with_reducible first | refine swp_reg ?_ | refine swp_regd (by rw [hP]; exact mixed) ?_); (try rw [hP]); simp -implicitDefEqProofs [*]) | ((with_reducible first | refine swp_skip ?_ | refine swp_exit ?_); (try simp -implicitDefEqProofs [*])) | ((with_reducible refine swp_ret ?_); (try simp only [qseq_r, qblock_r, qloop_r])) | ((with_reducible refine swp_cond rfl (fun h => ?_) (fun h => ?_)) <;> have h' := h <;> (try simp at h') <;> (try subst h')) | ((with_reducible refine sopsg_cases (fun h => ?_) (fun h => ?_)) <;> have h' := h <;> (try simp at h') <;> (try subst h') <;> simp -implicitDefEqProofs [*]) | ((with_reducible refine sopsk_rg ?_ ?_); (first | omega | (unfold maxLen; omega)); simp -implicitDefEqProofs [*]) | (with_reducible first | refine zM hm ?_ | refine zN hm ?_ | refine zO hm ?_ | refine zP hm ?_) | fail)
 refine swp_wk (wk_adoptS 5 3 1 rfl) ?_
 simp only [zT, puth, Nat.reduceEqDiff, reduceIte, Nat.reduceAdd]
 refine swp_block (swp_for (fun s (i : Nat) => s.turn [(5, .own 5 i), (6, .int .i64 i)] [(5, .row 3 1 (wrow p t.keys i))]) (fun i => i ≤ t.keys.length) (fun i => t.keys.length - i) 0 ?_ (by simp) ?_)
 ·repeat' (first | ((with_reducible refine wk_self [] hm ?_ ?_ ?_ ?_) <;> (try simp only [zT, puth, Nat.reduceEqDiff, reduceIte, Nat.reduceAdd])) | (with_reducible first | refine za ?_ ?_ | refine zb ?_ ?_ ?_ ?_ | refine zc ?_ ?_ ?_ ?_ | refine zd ?_ ?_ ?_ ?_ | refine objsM_abs ?_ ?_ | refine subH_cons ?_ ?_) | (with_reducible first | exact slotsM_nil | exact objsM_nil | exact subH_nil | exact coL_nilm | exact Co.refl _ | exact CoL.refl _ | exact CoLL.refl _) | ((with_reducible first | refine zga ?_ | refine zgb ?_); rfl) | ((with_reducible refine zgc ?_); (first | (with_reducible rfl) | rfl | (simp; done))) | ((with_reducible first | refine zgd ?_ | refine zge ?_); (first | omega | (simp; done))) | (refine co_wrap ⟨?_, ?_⟩ ?_ <;> omega) | (exact Co.refl _) | (exact CoL.refl _) | (exact CoLL.refl _) | (refine co_own ?_; omega) | (refine co_int ?_; first | omega | (simp_all; done)) | (with_reducible first | refine coL_cons ?_ ?_ | refine coL_consm ?_ ?_) | fail)
 rintro J hJ i hi
 unfold c_rwidths_l1
 simp only [zT, puth, Nat.reduceEqDiff, reduceIte, Nat.reduceAdd]
 have hlen := wrow_len p hi
 have hb1 : i + 1 ≤ maxLen := by unfold maxLen; omega
 rcases Nat.lt_or_ge i t.keys.length with h | h
 ·have wi : IntKind.i64.wrap ((i : Int) + 1) = (i : Int) + 1 := i64_add_ (by omega) (by omega)
  have hrow := wrow_succ p h
  generalize hr : t.keys[i] = r at hrow
  repeat' (first | (with_reducible first | refine zA ?_ | refine swp_block1 ?_ | refine swp_block2 ?_ | refine zK ?_) | ((with_reducible first | refine swp_reg ?_ | refine swp_regd (by rw [hP]; exact mixed) ?_); (try rw [hP]); simp -implicitDefEqProofs [*]) | ((with_reducible first | refine swp_skip ?_ | refine swp_exit ?_); (try simp -implicitDefEqProofs [*])) | ((with_reducible refine swp_ret ?_); (try simp only [qseq_r, qblock_r, qloop_r])) | ((with_reducible refine swp_cond rfl (fun h => ?_) (fun h => ?_)) <;> have h' := h <;> (try simp at h') <;> (try subst h')) | ((with_reducible refine sopsg_cases (fun h => ?_) (fun h => ?_)) <;> have h' := h <;> (try simp at h') <;> (try subst h') <;> simp -implicitDefEqProofs [*]) | ((with_reducible refine sopsk_rg ?_ ?_); (first | omega | (unfold maxLen; omega)); simp -implicitDefEqProofs [*]) | (refine call_q (rwidth0_s p r _) ?_; simp -implicitDefEqProofs [*]) | (with_reducible first | refine zM hm ?_ | refine zN hm ?_ | refine zO hm ?_ | refine zP hm ?_) | ((with_reducible refine wk_self [] hm ?_ ?_ ?_ ?_) <;> (try simp only [zT, puth, Nat.reduceEqDiff, reduceIte, Nat.reduceAdd])) | (with_reducible first | refine za ?_ ?_ | refine zb ?_ ?_ ?_ ?_ | refine zc ?_ ?_ ?_ ?_ | refine zd ?_ ?_ ?_ ?_ | refine objsM_abs ?_ ?_ | refine subH_cons ?_ ?_) | (with_reducible first | exact slotsM_nil | exact objsM_nil | exact subH_nil | exact coL_nilm | exact Co.refl _ | exact CoL.refl _ | exact CoLL.refl _) | ((with_reducible first | refine zga ?_ | refine zgb ?_); rfl) | ((with_reducible refine zgc ?_); (first | (with_reducible rfl) | rfl | (simp; done))) | ((with_reducible first | refine zgd ?_ | refine zge ?_); (first | omega | (simp; done))) | (refine co_wrap ⟨?_, ?_⟩ ?_ <;> omega) | (exact Co.refl _) | (exact CoL.refl _) | (exact CoLL.refl _) | (refine co_own ?_; omega) | (refine co_int ?_; first | omega | (simp_all; done)) | (with_reducible first | refine coL_cons ?_ ?_ | refine coL_consm ?_ ?_) | ((refine qfor_next hJ (i + 1) ?_ ?_ ?_; (with_reducible refine wk_self [(5, ?_)] hm ?_ ?_ ?_ ?_) <;> (try simp only [zT, puth, Nat.reduceEqDiff, reduceIte, Nat.reduceAdd]))) | fail)
 ·obtain rfl : i = t.keys.length := by omega
  repeat' (first | ((with_reducible refine swp_stop (c := .seq (.reg false c_rwidths_r7 [4]) .ret) ?_)) | (with_reducible first | refine zA ?_ | refine swp_block1 ?_ | refine swp_block2 ?_ | refine zK ?_) | ((with_reducible first | refine swp_reg ?_ | refine swp_regd (by rw [hP]; exact mixed) ?_); (try rw [hP]); simp -implicitDefEqProofs [*]) | ((with_reducible first | refine swp_skip ?_ | refine swp_exit ?_); (try simp -implicitDefEqProofs [*])) | ((with_reducible refine swp_ret ?_); (try simp only [qseq_r, qblock_r, qloop_r])) | ((with_reducible refine swp_cond rfl (fun h => ?_) (fun h => ?_)) <;> have h' := h <;> (try simp at h') <;> (try subst h')) | ((with_reducible refine sopsg_cases (fun h => ?_) (fun h => ?_)) <;> have h' := h <;> (try simp at h') <;> (try subst h') <;> simp -implicitDefEqProofs [*]) | ((with_reducible refine sopsk_rg ?_ ?_); (first | omega | (unfold maxLen; omega)); simp -implicitDefEqProofs [*]) | (with_reducible first | refine zM hm ?_ | refine zN hm ?_ | refine zO hm ?_ | refine zP hm ?_) | fail)
  constructor
  refine swp_frz [5] ?_ ?_
  ·simp only [FrzOk, geth, Nat.reduceEqDiff, reduceIte, pureR_O, and_true]
  have htk : (wrow p t.keys t.keys.length).take t.keys.length = wrow p t.keys t.keys.length := List.take_of_length_le (by omega)
  simp -implicitDefEqProofs [htk, hlen, Nat.le_refl]
  repeat' (first | (with_reducible first | refine zA ?_ | refine swp_block1 ?_ | refine swp_block2 ?_ | refine zK ?_) | ((with_reducible first | refine swp_reg ?_ | refine swp_regd (by rw [hP]; exact mixed) ?_); (try rw [hP]); simp -implicitDefEqProofs [*]) | ((with_reducible first | refine swp_skip ?_ | refine swp_exit ?_); (try simp -implicitDefEqProofs [*])) | ((with_reducible refine swp_ret ?_); (try simp only [qseq_r, qblock_r, qloop_r])) | ((with_reducible refine swp_cond rfl (fun h => ?_) (fun h => ?_)) <;> have h' := h <;> (try simp at h') <;> (try subst h')) | ((with_reducible refine sopsg_cases (fun h => ?_) (fun h => ?_)) <;> have h' := h <;> (try simp at h') <;> (try subst h') <;> simp -implicitDefEqProofs [*]) | ((with_reducible refine sopsk_rg ?_ ?_); (first | omega | (unfold maxLen; omega)); simp -implicitDefEqProofs [*]) | (with_reducible first | refine zM hm ?_ | refine zN hm ?_ | refine zO hm ?_ | refine zP hm ?_) | (refine fin_tmp hm ?_ (noN_view _ _)) | fail)
  rfl
theorem call_wide (n k : Int) (q : Nat) : SCalls Try.prog 69 [.int .u64 n, .int .i64 k] [] q (.bool (wideI n k)) [] := scalls_q (wide_s n k) (fun _ => rfl) (fun _ => rfl) rfl q
set_option maxHeartbeats 4000000 in
theorem rstate_s (p : PlanD) (i : Nat) (hi : i < p.states.length) (hsl : p.states.length ≤ 1000000) (hcl : p.states[i].cases_.length ≤ 1000000) (q : Nat) : SCalls Try.prog 41 [.agg (planc p), .int .i64 i] [] q (.int .i64 (stateF p i p.states[i])) [] := by
 refine scalls_q ?_ (fun _ => rfl) (fun _ => rfl) rfl q
 refine scalls_of (N := 80) Try.func41 rfl rfl (by kernel_rfl) comp_c_rstate (by simp) (by repeat' (first | exact trivial | refine And.intro ?_ ?_ | rfl | decide)) (by repeat' (first | exact trivial | refine And.intro ?_ ?_ | rfl | decide)) ?_
 rintro X hP hN hm
 unfold c_rstate
 generalize hxx : p.states[i] = x at hcl
 have hlead := fun to_ q => rlead_s p i to_ q
 have hwid := fun q => rwidth0_s p x.on q
 have hhead := fun q => rhead_s p x.head q
 have hst : stateF p i x = if (x.head != -1 && !isHead p x.head) = true then 1 else if decide (4 < (x.cases_.length : Int)) = true then 2 else if (decide (0 < (x.cases_.length : Int)) && (widthOf p x.on [] == 0)) = true then 1 else if firstF (caseF p i (widthOf p x.on [])) (x.cases_.drop 0) = 0 then leadF p i x.els else firstF (caseF p i (widthOf p x.on [])) (x.cases_.drop 0) := by
  unfold stateF
  have c1 : (x.head < -1 ∨ (p.heads.length : Int) ≤ x.head) ↔ (x.head != -1 && !isHead p x.head) = true := by
   unfold isHead; rw [Bool.and_eq_true, Bool.not_eq_true', Bool.and_eq_false_iff, decide_eq_false_iff_not, decide_eq_false_iff_not, bne_iff_ne]; omega
  have c2 : (4 < x.cases_.length) ↔ decide (4 < (x.cases_.length : Int)) = true := by rw [decide_eq_true_eq]; omega
  have c3 : (0 < x.cases_.length ∧ widthOf p x.on [] = 0) ↔ (decide (0 < (x.cases_.length : Int)) && (widthOf p x.on [] == 0)) = true := by rw [Bool.and_eq_true, decide_eq_true_eq, beq_iff_eq]; omega
  simp only [propext c1, propext c2, propext c3, List.drop_zero, ne_eq, ite_not]
 generalize stateF p i x = F at hst
 generalize widthOf p x.on [] = W at hst hwid
 generalize isHead p x.head = H at hst hhead
 replace hlead := Lib.hid hlead
 replace hwid := Lib.hid hwid
 replace hhead := Lib.hid hhead
 replace hst := Lib.hid hst
 have main : (x.head != -1 && !H) = false → decide (4 < (x.cases_.length : Int)) = false → (decide (0 < (x.cases_.length : Int)) && (W == 0)) = false → F = if firstF (caseF p i W) (x.cases_.drop 0) = 0 then leadF p i x.els else firstF (caseF p i W) (x.cases_.drop 0) := fun b1 b2 b3 => by
  have := hst.out; rw [b1, b2, b3] at this; exact this
 have hcs : ∀ c, caseF p i W c = if (wideI c.mask W || (bits .and .u64 c.value c.mask != c.value)) = true then 6 else leadF p i c.to_ := fun c => by
  unfold caseF; congr 1
  rw [show decide (bits .and .u64 c.value c.mask ≠ c.value) = (bits .and .u64 c.value c.mask != c.value) by rw [Bool.eq_iff_iff]; simp]
 have loop : F = (if firstF (caseF p i W) (x.cases_.drop 0) = 0 then leadF p i x.els else firstF (caseF p i W) (x.cases_.drop 0)) → SWp X (SCode.block 0 c_rstate_l1.loop) (QSeq X ((SCode.reg false c_rstate_r19 [4]).seq SCode.ret) (QFun X [ResultVar.tmp 4] 0 (SV.int IntKind.i64 F) []))
   ⟨[(1, .int .i64 i), (2, .ptr 0 0), (5, .ptr 7 0), (6, .int .i64 W), (7, .int .i64 0)], [(0, .cells 29 (planc p)), (7, .cells 65 (statec x))], 8⟩ := fun h0 => by
  clear main hst
  refine swp_block (swp_for (fun s (j : Nat) => s.turn [(7, .int .i64 j)] []) (fun j => j ≤ x.cases_.length ∧ F = if firstF (caseF p i W) (x.cases_.drop j) = 0 then leadF p i x.els else firstF (caseF p i W) (x.cases_.drop j)) (fun j => x.cases_.length - j) 0 ?_ ⟨by simp, h0⟩ ?_)
  ·repeat' (first | ((with_reducible refine wk_self [] hm ?_ ?_ ?_ ?_) <;> (try simp only [zT, puth, Nat.reduceEqDiff, reduceIte, Nat.reduceAdd])) | (with_reducible first | refine za ?_ ?_ | refine zb ?_ ?_ ?_ ?_ | refine zc ?_ ?_ ?_ ?_ | refine zd ?_ ?_ ?_ ?_ | refine objsM_abs ?_ ?_ | refine subH_cons ?_ ?_) | (with_reducible first | exact slotsM_nil | exact objsM_nil | exact subH_nil | exact coL_nilm | exact Co.refl _ | exact CoL.refl _ | exact CoLL.refl _) | ((with_reducible first | refine zga ?_ | refine zgb ?_); rfl) | ((with_reducible refine zgc ?_); (first | (with_reducible rfl) | rfl | (simp; done))) | ((with_reducible first | refine zgd ?_ | refine zge ?_); (first | omega | (simp; done))) | (refine co_wrap ⟨?_, ?_⟩ ?_ <;> omega) | (exact Co.refl _) | (exact CoL.refl _) | (exact CoLL.refl _) | (refine co_own ?_; omega) | (refine co_int ?_; first | omega | (simp_all; done)) | (with_reducible first | refine coL_cons ?_ ?_ | refine coL_consm ?_ ?_) | fail)
  rintro J hJ j ⟨h1, h2⟩
  unfold c_rstate_l1
  simp only [zT, puth, Nat.reduceEqDiff, reduceIte, Nat.reduceAdd] at h1 h2 ⊢
  rcases Nat.lt_or_ge j x.cases_.length with hj | hj
  ·rw [firstF_drop _ hj] at h2
   generalize hcc : x.cases_[j] = c at h2
   rw [hcs c] at h2
   have hwd := fun q => call_wide c.mask W q
   have hld := fun q => hlead.out c.to_ q
   generalize leadF p i c.to_ = L at h2 hld
   generalize hwv : wideI c.mask W = V at h2 hwd
   generalize hbv : (bits .and .u64 c.value c.mask != c.value) = B at h2
   have wj : IntKind.i64.wrap ((j : Int) + 1) = (j : Int) + 1 := i64_add_ (by omega) (by omega)
   replace h2 := Lib.hid h2
   replace hcs := Lib.hid hcs
   replace hld := Lib.hid hld
   replace hwv := Lib.hid hwv
   replace h0 := Lib.hid h0
   cases kV : V <;> cases kB : B <;> cases kL : (L != 0)
   all_goals
    rw [kV] at hwd
    rw [kB] at hbv
    repeat' (first | (with_reducible first | refine zA ?_ | refine swp_block1 ?_ | refine swp_block2 ?_ | refine zK ?_) | ((with_reducible first | refine swp_reg ?_ | refine swp_regd (by rw [hP]; exact mixed) ?_); (try rw [hP]); simp -implicitDefEqProofs [*]) | ((with_reducible first | refine swp_skip ?_ | refine swp_exit ?_); (try simp -implicitDefEqProofs [*])) | ((with_reducible refine swp_ret ?_); (try simp only [qseq_r, qblock_r, qloop_r])) | ((with_reducible refine swp_cond rfl (fun h => ?_) (fun h => ?_)) <;> have h' := h <;> (try simp at h') <;> (try subst h')) | ((with_reducible refine sopsg_cases (fun h => ?_) (fun h => ?_)) <;> have h' := h <;> (try simp at h') <;> (try subst h') <;> simp -implicitDefEqProofs [*]) | ((with_reducible refine sopsk_rg ?_ ?_); (first | omega | (unfold maxLen; omega)); simp -implicitDefEqProofs [*]) | ((first | refine call_q (hwd _) ?_ | refine call_q (hld.out _) ?_); simp -implicitDefEqProofs [*]) | (with_reducible first | refine zM hm ?_ | refine zN hm ?_ | refine zO hm ?_ | refine zP hm ?_) | ((with_reducible refine wk_self [] hm ?_ ?_ ?_ ?_) <;> (try simp only [zT, puth, Nat.reduceEqDiff, reduceIte, Nat.reduceAdd])) | (with_reducible first | refine za ?_ ?_ | refine zb ?_ ?_ ?_ ?_ | refine zc ?_ ?_ ?_ ?_ | refine zd ?_ ?_ ?_ ?_ | refine objsM_abs ?_ ?_ | refine subH_cons ?_ ?_) | (with_reducible first | exact slotsM_nil | exact objsM_nil | exact subH_nil | exact coL_nilm | exact Co.refl _ | exact CoL.refl _ | exact CoLL.refl _) | ((with_reducible first | refine zga ?_ | refine zgb ?_); rfl) | ((with_reducible refine zgc ?_); (first | (with_reducible rfl) | rfl | (simp; done))) | ((with_reducible first | refine zgd ?_ | refine zge ?_); (first | omega | (simp; done))) | (refine co_wrap ⟨?_, ?_⟩ ?_ <;> omega) | (exact Co.refl _) | (exact CoL.refl _) | (exact CoLL.refl _) | (refine co_own ?_; omega) | (refine co_int ?_; first | omega | (simp_all; done)) | (with_reducible first | refine coL_cons ?_ ?_ | refine coL_consm ?_ ?_) | ((refine qfor_next hJ (j + 1) ?_ ?_ ?_; (with_reducible refine wk_self [] hm ?_ ?_ ?_ ?_) <;> (try simp only [zT, puth, Nat.reduceEqDiff, reduceIte, Nat.reduceAdd]))) | fail)
    have kL' := kL
    simp at kL'
    first | (refine ⟨by omega, ?_⟩; rw [h2.out]; simp [kV, kB, kL']; done) | (rw [h2.out]; simp [kV, kB, kL']; done) | skip
  ·obtain rfl : j = x.cases_.length := by omega
   rw [List.drop_length] at h2
   replace h2 := Lib.hid h2
   replace h0 := Lib.hid h0
   replace hcs := Lib.hid hcs
   repeat' (first | (with_reducible first | refine zA ?_ | refine swp_block1 ?_ | refine swp_block2 ?_ | refine zK ?_) | ((with_reducible first | refine swp_reg ?_ | refine swp_regd (by rw [hP]; exact mixed) ?_); (try rw [hP]); simp -implicitDefEqProofs [*]) | ((with_reducible first | refine swp_skip ?_ | refine swp_exit ?_); (try simp -implicitDefEqProofs [*])) | ((with_reducible refine swp_ret ?_); (try simp only [qseq_r, qblock_r, qloop_r])) | ((with_reducible refine swp_cond rfl (fun h => ?_) (fun h => ?_)) <;> have h' := h <;> (try simp at h') <;> (try subst h')) | ((with_reducible refine sopsg_cases (fun h => ?_) (fun h => ?_)) <;> have h' := h <;> (try simp at h') <;> (try subst h') <;> simp -implicitDefEqProofs [*]) | ((with_reducible refine sopsk_rg ?_ ?_); (first | omega | (unfold maxLen; omega)); simp -implicitDefEqProofs [*]) | (refine call_q (hlead.out _ _) ?_; simp -implicitDefEqProofs [*]) | (with_reducible first | refine zM hm ?_ | refine zN hm ?_ | refine zO hm ?_ | refine zP hm ?_) | fail)
   rw [h2.out]; rfl
 replace hcs := Lib.hid hcs
 replace loop := Lib.hid loop
 replace main := Lib.hid main
 cases k1 : (x.head != -1)
 all_goals cases k2 : H
 all_goals rw [k2] at hhead
 all_goals cases k3 : decide (4 < (x.cases_.length : Int))
 all_goals have kn : decide (0 < x.cases_.length) = decide (0 < (x.cases_.length : Int)) := decide_eq_decide.2 (by omega)
 all_goals cases k4 : decide (0 < (x.cases_.length : Int)) <;> rw [k4] at kn
 all_goals cases k5 : (W == 0)
 all_goals
  repeat' (first | (with_reducible first | refine zA ?_ | refine swp_block1 ?_ | refine swp_block2 ?_ | refine zK ?_) | ((with_reducible first | refine swp_reg ?_ | refine swp_regd (by rw [hP]; exact mixed) ?_); (try rw [hP]); simp -implicitDefEqProofs [*]) | ((with_reducible first | refine swp_skip ?_ | refine swp_exit ?_); (try simp -implicitDefEqProofs [*])) | ((with_reducible refine swp_ret ?_); (try simp only [qseq_r, qblock_r, qloop_r])) | ((with_reducible refine swp_cond rfl (fun h => ?_) (fun h => ?_)) <;> have h' := h <;> (try simp at h') <;> (try subst h')) | ((with_reducible refine sopsg_cases (fun h => ?_) (fun h => ?_)) <;> have h' := h <;> (try simp at h') <;> (try subst h') <;> simp -implicitDefEqProofs [*]) | ((with_reducible refine sopsk_rg ?_ ?_); (first | omega | (unfold maxLen; omega)); simp -implicitDefEqProofs [*]) | ((first | refine call_q (hhead.out _) ?_ | refine call_q (hwid.out _) ?_); simp -implicitDefEqProofs [*]) | (with_reducible first | refine zM hm ?_ | refine zN hm ?_ | refine zO hm ?_ | refine zP hm ?_) | fail)
 all_goals (first | (have q := hst.out; simp only [k1, k2, k3, k4, k5, Bool.false_and, Bool.true_and, Bool.not_true, Bool.not_false, reduceIte, Bool.false_eq_true] at q; exact q.symm) | (have q := hst.out; simp [k1, k2, k3, k4, k5] at q; exact q.symm) | (have q := hst.out; simp [k1, k2, k3, k4] at q; exact q.symm) | skip)
 all_goals
  refine swp_wk ?_ (loop.out (main.out (by simp only [k1, k2]; rfl) k3 (by simp only [k4, k5]; rfl)))
  repeat' (first | ((with_reducible refine wk_self [] hm ?_ ?_ ?_ ?_) <;> (try simp only [zT, puth, Nat.reduceEqDiff, reduceIte, Nat.reduceAdd])) | (with_reducible first | refine za ?_ ?_ | refine zb ?_ ?_ ?_ ?_ | refine zc ?_ ?_ ?_ ?_ | refine zd ?_ ?_ ?_ ?_ | refine objsM_abs ?_ ?_ | refine subH_cons ?_ ?_) | (with_reducible first | exact slotsM_nil | exact objsM_nil | exact subH_nil | exact coL_nilm | exact Co.refl _ | exact CoL.refl _ | exact CoLL.refl _) | ((with_reducible first | refine zga ?_ | refine zgb ?_); rfl) | ((with_reducible refine zgc ?_); (first | (with_reducible rfl) | rfl | (simp; done))) | ((with_reducible first | refine zgd ?_ | refine zge ?_); (first | omega | (simp; done))) | (refine co_wrap ⟨?_, ?_⟩ ?_ <;> omega) | (exact Co.refl _) | (exact CoL.refl _) | (exact CoLL.refl _) | (refine co_own ?_; omega) | (refine co_int ?_; first | omega | (simp_all; done)) | (with_reducible first | refine coL_cons ?_ ?_ | refine coL_consm ?_ ?_) | fail)
end Go.Proofs.Ytnfjldobjgdiaaa
namespace Go.Proofs.Ytnfjldobjgdiaaa
set_option linter.all false
open Go.RowKit
attribute [local simp] sops_nil sops_run sopsk_some sops_call sops_guard sopsg_yes sopsg_tf sopsg_ft sopsg_undef rg_true SOp.run SX.ev putd puts argS upds SOp.touch SSt.keep SSt.skip gets geth puth delh idOf SV.cells? setL fillS fillR sbin eq0 eq1 eqL rowOf qseq_n qseq_e qseq_r qblock_n qblock_r qblock_e qloop_e qloop_r take_map_len FrzOk pureV_int pureV_bool pureV_str pureV_nil pureV_nilsl pureV_view pureV_cp pureL_nil_ pureL_cons_ pureO_row pureO_cells frzS frzH frz frz1 frz0 SlotsM ObjsM ObjM rn ren ren1 ren0 co_self co_int co_own co_view co_nilsl co_agg co_tup CoL coll_self mergeH dels adds idsH okNames
attribute [local simp] headc refc pushc casec statec opc actc tabc nodec planc nums jc
theorem wideAny_drop {xs ks : List Int} {i : Nat} (h1 : i < xs.length) (h2 : i < ks.length) : wideAny (xs.drop i) (ks.drop i) = (wideI xs[i] ks[i] || wideAny (xs.drop (i + 1)) (ks.drop (i + 1))) := by
 rw [List.drop_eq_getElem_cons h1, List.drop_eq_getElem_cons h2]; rfl
def AW (acts : List ActD) : Prop := ∀ a ∈ acts, ∀ w ∈ a.w, 0 ≤ w ∧ w ≤ 48
theorem says_s (t : TabD) (acts : List ActD) (act : Int) (args : List Int) (ha : AW acts) (hl : t.acts.length ≤ 1000000) (hl2 : args.length ≤ 1000000) (hr : ∀ k ∈ t.acts, 0 ≤ k ∧ k < acts.length) (q : Nat) : SCalls Try.prog 87 [.agg (tabc t), .view 2 (acts.map actc), .int .i64 act, nums .u64 args] [] q (.int .i64 (saysF t.acts acts act args)) [] := by
 refine scalls_q ?_ (fun _ => rfl) (fun _ => rfl) rfl q
 refine scalls_of (N := 42) Try.func87 rfl rfl (by kernel_rfl) comp_c_says (by simp) (by repeat' (first | exact trivial | refine And.intro ?_ ?_ | rfl | decide)) (by repeat' (first | exact trivial | refine And.intro ?_ ?_ | rfl | decide)) ?_
 rintro X hP hN hm
 have hc := fun q => contains_s t.acts act hl q
 unfold c_says
 cases hin : t.acts.contains act
 ·rw [hin] at hc
  have hz : saysF t.acts acts act args = 5 := by unfold saysF; rw [hin]; rfl
  rw [hz]
  repeat' (first | (with_reducible first | refine zA ?_ | refine swp_block1 ?_ | refine swp_block2 ?_ | refine zK ?_) | ((with_reducible first | refine swp_reg ?_ | refine swp_regd (by rw [hP]; exact mixed) ?_); (try rw [hP]); simp -implicitDefEqProofs [*]) | ((with_reducible first | refine swp_skip ?_ | refine swp_exit ?_); (try simp -implicitDefEqProofs [*])) | ((with_reducible refine swp_ret ?_); (try simp only [qseq_r, qblock_r, qloop_r])) | ((with_reducible refine swp_cond rfl (fun h => ?_) (fun h => ?_)) <;> have h' := h <;> (try simp at h') <;> (try subst h')) | ((with_reducible refine sopsg_cases (fun h => ?_) (fun h => ?_)) <;> have h' := h <;> (try simp at h') <;> (try subst h') <;> simp -implicitDefEqProofs [*]) | ((with_reducible refine sopsk_rg ?_ ?_); (first | omega | (unfold maxLen; omega)); simp -implicitDefEqProofs [*]) | (refine call_q (hc _) ?_; simp -implicitDefEqProofs [*]) | (with_reducible first | refine zM hm ?_ | refine zN hm ?_ | refine zO hm ?_ | refine zP hm ?_) | fail)
  rfl
 ·rw [hin] at hc
  obtain ⟨hr0, hr1⟩ := hr act (by simpa using hin)
  have hlt : act.toNat < acts.length := by omega
  have hAm := ha acts[act.toNat] (List.getElem_mem hlt)
  have hF : saysF t.acts acts act args = if args.length ≠ acts[act.toNat].w.length then 2 else if wideAny args acts[act.toNat].w = true then 6 else 0 := by
   unfold saysF
   have : actW acts act = acts[act.toNat].w := by unfold actW; rw [List.getElem?_eq_getElem hlt]; rfl
   rw [hin, this]; rfl
  generalize saysF t.acts acts act args = F at hF
  generalize hA : acts[act.toNat] = A at hAm hF
  replace hAm := Lib.hid hAm
  by_cases hlen : args.length = A.w.length
  ·rw [if_neg (by simpa using hlen)] at hF
   have kl : ((args.length : Int) != (A.w.length : Int)) = false := by simp [hlen]
   replace hF := Lib.hid hF
   replace hlen := Lib.hid hlen
   repeat' (first | (with_reducible first | refine zA ?_ | refine swp_block1 ?_ | refine swp_block2 ?_ | refine zK ?_) | ((with_reducible first | refine swp_reg ?_ | refine swp_regd (by rw [hP]; exact mixed) ?_); (try rw [hP]); simp -implicitDefEqProofs [*]) | ((with_reducible first | refine swp_skip ?_ | refine swp_exit ?_); (try simp -implicitDefEqProofs [*])) | ((with_reducible refine swp_ret ?_); (try simp only [qseq_r, qblock_r, qloop_r])) | ((with_reducible refine swp_cond rfl (fun h => ?_) (fun h => ?_)) <;> have h' := h <;> (try simp at h') <;> (try subst h')) | ((with_reducible refine sopsg_cases (fun h => ?_) (fun h => ?_)) <;> have h' := h <;> (try simp at h') <;> (try subst h') <;> simp -implicitDefEqProofs [*]) | ((with_reducible refine sopsk_rg ?_ ?_); (first | omega | (unfold maxLen; omega)); simp -implicitDefEqProofs [*]) | (refine call_q (hc _) ?_; simp -implicitDefEqProofs [*]) | (with_reducible first | refine zM hm ?_ | refine zN hm ?_ | refine zO hm ?_ | refine zP hm ?_) | fail)
   refine swp_block (swp_for (fun s (i : Nat) => s.turn [(29, .int .i64 i)] []) (fun i => i ≤ args.length ∧ F = if wideAny (args.drop i) (A.w.drop i) = true then 6 else 0) (fun i => args.length - i) 0 ?_ ⟨by simp, hF.out⟩ ?_)
   ·repeat' (first | ((with_reducible refine wk_self [] hm ?_ ?_ ?_ ?_) <;> (try simp only [zT, puth, Nat.reduceEqDiff, reduceIte, Nat.reduceAdd])) | (with_reducible first | refine za ?_ ?_ | refine zb ?_ ?_ ?_ ?_ | refine zc ?_ ?_ ?_ ?_ | refine zd ?_ ?_ ?_ ?_ | refine objsM_abs ?_ ?_ | refine subH_cons ?_ ?_) | (with_reducible first | exact slotsM_nil | exact objsM_nil | exact subH_nil | exact coL_nilm | exact Co.refl _ | exact CoL.refl _ | exact CoLL.refl _) | ((with_reducible first | refine zga ?_ | refine zgb ?_); rfl) | ((with_reducible refine zgc ?_); (first | (with_reducible rfl) | rfl | (simp; done))) | ((with_reducible first | refine zgd ?_ | refine zge ?_); (first | omega | (simp; done))) | (refine co_wrap ⟨?_, ?_⟩ ?_ <;> omega) | (exact Co.refl _) | (exact CoL.refl _) | (exact CoLL.refl _) | (refine co_own ?_; omega) | (refine co_int ?_; first | omega | (simp_all; done)) | (with_reducible first | refine coL_cons ?_ ?_ | refine coL_consm ?_ ?_) | fail)
   rintro J hJ i ⟨h1, h2⟩
   unfold c_says_l1
   simp only [zT, puth, Nat.reduceEqDiff, reduceIte, Nat.reduceAdd] at h1 h2 ⊢
   rcases Nat.lt_or_ge i args.length with hi | hi
   ·have hi2 : i < A.w.length := by have := hlen.out; omega
    rw [wideAny_drop hi hi2] at h2
    have hms := fun q => mask_s A.w[i] (hAm.out _ (List.getElem_mem hi2)) q
    generalize hw : A.w[i] = w at h2 hms
    generalize hx : args[i] = x at h2
    have wi : IntKind.i64.wrap ((i : Int) + 1) = (i : Int) + 1 := i64_add_ (by omega) (by omega)
    replace h2 := Lib.hid h2
    cases hv : wideI x w
    ·unfold wideI at hv
     repeat' (first | (with_reducible first | refine zA ?_ | refine swp_block1 ?_ | refine swp_block2 ?_ | refine zK ?_) | ((with_reducible first | refine swp_reg ?_ | refine swp_regd (by rw [hP]; exact mixed) ?_); (try rw [hP]); simp -implicitDefEqProofs [*]) | ((with_reducible first | refine swp_skip ?_ | refine swp_exit ?_); (try simp -implicitDefEqProofs [*])) | ((with_reducible refine swp_ret ?_); (try simp only [qseq_r, qblock_r, qloop_r])) | ((with_reducible refine swp_cond rfl (fun h => ?_) (fun h => ?_)) <;> have h' := h <;> (try simp at h') <;> (try subst h')) | ((with_reducible refine sopsg_cases (fun h => ?_) (fun h => ?_)) <;> have h' := h <;> (try simp at h') <;> (try subst h') <;> simp -implicitDefEqProofs [*]) | ((with_reducible refine sopsk_rg ?_ ?_); (first | omega | (unfold maxLen; omega)); simp -implicitDefEqProofs [*]) | (refine call_q (hms _) ?_; simp -implicitDefEqProofs [*]) | (with_reducible first | refine zM hm ?_ | refine zN hm ?_ | refine zO hm ?_ | refine zP hm ?_) | ((with_reducible refine wk_self [] hm ?_ ?_ ?_ ?_) <;> (try simp only [zT, puth, Nat.reduceEqDiff, reduceIte, Nat.reduceAdd])) | (with_reducible first | refine za ?_ ?_ | refine zb ?_ ?_ ?_ ?_ | refine zc ?_ ?_ ?_ ?_ | refine zd ?_ ?_ ?_ ?_ | refine objsM_abs ?_ ?_ | refine subH_cons ?_ ?_) | (with_reducible first | exact slotsM_nil | exact objsM_nil | exact subH_nil | exact coL_nilm | exact Co.refl _ | exact CoL.refl _ | exact CoLL.refl _) | ((with_reducible first | refine zga ?_ | refine zgb ?_); rfl) | ((with_reducible refine zgc ?_); (first | (with_reducible rfl) | rfl | (simp; done))) | ((with_reducible first | refine zgd ?_ | refine zge ?_); (first | omega | (simp; done))) | (refine co_wrap ⟨?_, ?_⟩ ?_ <;> omega) | (exact Co.refl _) | (exact CoL.refl _) | (exact CoLL.refl _) | (refine co_own ?_; omega) | (refine co_int ?_; first | omega | (simp_all; done)) | (with_reducible first | refine coL_cons ?_ ?_ | refine coL_consm ?_ ?_) | ((refine qfor_next hJ (i + 1) ?_ ?_ ?_; (with_reducible refine wk_self [] hm ?_ ?_ ?_ ?_) <;> (try simp only [zT, puth, Nat.reduceEqDiff, reduceIte, Nat.reduceAdd]))) | fail)
     refine ⟨by omega, ?_⟩
     rw [h2.out, show wideI x w = false from hv, Bool.false_or]
    ·unfold wideI at hv
     repeat' (first | (with_reducible first | refine zA ?_ | refine swp_block1 ?_ | refine swp_block2 ?_ | refine zK ?_) | ((with_reducible first | refine swp_reg ?_ | refine swp_regd (by rw [hP]; exact mixed) ?_); (try rw [hP]); simp -implicitDefEqProofs [*]) | ((with_reducible first | refine swp_skip ?_ | refine swp_exit ?_); (try simp -implicitDefEqProofs [*])) | ((with_reducible refine swp_ret ?_); (try simp only [qseq_r, qblock_r, qloop_r])) | ((with_reducible refine swp_cond rfl (fun h => ?_) (fun h => ?_)) <;> have h' := h <;> (try simp at h') <;> (try subst h')) | ((with_reducible refine sopsg_cases (fun h => ?_) (fun h => ?_)) <;> have h' := h <;> (try simp at h') <;> (try subst h') <;> simp -implicitDefEqProofs [*]) | ((with_reducible refine sopsk_rg ?_ ?_); (first | omega | (unfold maxLen; omega)); simp -implicitDefEqProofs [*]) | (refine call_q (hms _) ?_; simp -implicitDefEqProofs [*]) | (with_reducible first | refine zM hm ?_ | refine zN hm ?_ | refine zO hm ?_ | refine zP hm ?_) | fail)
     rw [h2.out, show wideI x w = true from hv]; rfl
   ·obtain rfl : i = args.length := by omega
    rw [List.drop_length] at h2
    replace h2 := Lib.hid h2
    repeat' (first | (with_reducible first | refine zA ?_ | refine swp_block1 ?_ | refine swp_block2 ?_ | refine zK ?_) | ((with_reducible first | refine swp_reg ?_ | refine swp_regd (by rw [hP]; exact mixed) ?_); (try rw [hP]); simp -implicitDefEqProofs [*]) | ((with_reducible first | refine swp_skip ?_ | refine swp_exit ?_); (try simp -implicitDefEqProofs [*])) | ((with_reducible refine swp_ret ?_); (try simp only [qseq_r, qblock_r, qloop_r])) | ((with_reducible refine swp_cond rfl (fun h => ?_) (fun h => ?_)) <;> have h' := h <;> (try simp at h') <;> (try subst h')) | ((with_reducible refine sopsg_cases (fun h => ?_) (fun h => ?_)) <;> have h' := h <;> (try simp at h') <;> (try subst h') <;> simp -implicitDefEqProofs [*]) | ((with_reducible refine sopsk_rg ?_ ?_); (first | omega | (unfold maxLen; omega)); simp -implicitDefEqProofs [*]) | (with_reducible first | refine zM hm ?_ | refine zN hm ?_ | refine zO hm ?_ | refine zP hm ?_) | fail)
    rw [h2.out]; rfl
  ·rw [if_pos (by simpa using hlen)] at hF
   have kl : ((args.length : Int) != (A.w.length : Int)) = true := by simp; omega
   replace hF := Lib.hid hF
   repeat' (first | (with_reducible first | refine zA ?_ | refine swp_block1 ?_ | refine swp_block2 ?_ | refine zK ?_) | ((with_reducible first | refine swp_reg ?_ | refine swp_regd (by rw [hP]; exact mixed) ?_); (try rw [hP]); simp -implicitDefEqProofs [*]) | ((with_reducible first | refine swp_skip ?_ | refine swp_exit ?_); (try simp -implicitDefEqProofs [*])) | ((with_reducible refine swp_ret ?_); (try simp only [qseq_r, qblock_r, qloop_r])) | ((with_reducible refine swp_cond rfl (fun h => ?_) (fun h => ?_)) <;> have h' := h <;> (try simp at h') <;> (try subst h')) | ((with_reducible refine sopsg_cases (fun h => ?_) (fun h => ?_)) <;> have h' := h <;> (try simp at h') <;> (try subst h') <;> simp -implicitDefEqProofs [*]) | ((with_reducible refine sopsk_rg ?_ ?_); (first | omega | (unfold maxLen; omega)); simp -implicitDefEqProofs [*]) | (refine call_q (hc _) ?_; simp -implicitDefEqProofs [*]) | (with_reducible first | refine zM hm ?_ | refine zN hm ?_ | refine zO hm ?_ | refine zP hm ?_) | fail)
   rw [hF.out]
set_option maxHeartbeats 4000000 in
theorem tcheck_s (t : TabD) (ws : List Int) (acts : List ActD) (ha : AW acts) (h1 : t.acts.length ≤ 1000000) (h2 : t.args.length ≤ 1000000) (h3 : ws.length ≤ 1000000) (h4 : acts.length ≤ 1000000) (q : Nat) : SCalls Try.prog 66 [.agg (tabc t), nums .i64 ws, .view 2 (acts.map actc)] [] q (.int .i64 (tableF t ws acts)) [] := by
 refine scalls_q ?_ (fun _ => rfl) (fun _ => rfl) rfl q
 refine scalls_of (N := 101) Try.func66 rfl rfl (by kernel_rfl) comp_c_tcheck (by simp) (by repeat' (first | exact trivial | refine And.intro ?_ ?_ | rfl | decide)) (by repeat' (first | exact trivial | refine And.intro ?_ ?_ | rfl | decide)) ?_
 rintro X hP hN hm
 have hsays := fun (hr : ∀ k ∈ t.acts, 0 ≤ k ∧ k < acts.length) q => says_s t acts t.def_ t.args ha h1 h2 hr q
 replace hsays := Lib.hid hsays
 replace ha := Lib.hid ha
 obtain ⟨n, hn⟩ : ∃ n, ws.length = n := ⟨_, rfl⟩
 obtain ⟨m, hma⟩ : ∃ m, t.acts.length = m := ⟨_, rfl⟩
 unfold c_tcheck
 by_cases g1 : t.kind < 1 ∨ 3 < t.kind
 ·have hz : tableF t ws acts = 5 := by unfold tableF; rw [if_pos g1]
  rw [hz]
  have k1 : (t.kind != 1) = true := by simp; omega
  have k2 : (t.kind != 2) = true := by simp; omega
  have k3 : (t.kind != 3) = true := by simp; omega
  replace g1 := Lib.hid g1
  repeat' (first | (with_reducible first | refine zA ?_ | refine swp_block1 ?_ | refine swp_block2 ?_ | refine zK ?_) | ((with_reducible first | refine swp_reg ?_ | refine swp_regd (by rw [hP]; exact mixed) ?_); (try rw [hP]); simp -implicitDefEqProofs [*]) | ((with_reducible first | refine swp_skip ?_ | refine swp_exit ?_); (try simp -implicitDefEqProofs [*])) | ((with_reducible refine swp_ret ?_); (try simp only [qseq_r, qblock_r, qloop_r])) | ((with_reducible refine swp_cond rfl (fun h => ?_) (fun h => ?_)) <;> have h' := h <;> (try simp at h') <;> (try subst h')) | ((with_reducible refine sopsg_cases (fun h => ?_) (fun h => ?_)) <;> have h' := h <;> (try simp at h') <;> (try subst h') <;> simp -implicitDefEqProofs [*]) | ((with_reducible refine sopsk_rg ?_ ?_); (first | omega | (unfold maxLen; omega)); simp -implicitDefEqProofs [*]) | (with_reducible first | refine zM hm ?_ | refine zN hm ?_ | refine zO hm ?_ | refine zP hm ?_) | fail)
  rfl
 by_cases g2 : ws.length < 1 ∨ 3 < ws.length ∨ (t.kind = 2 ∧ 1 < ws.length) ∨ t.acts.length < 1 ∨ 4 < t.acts.length
 ·have hz : tableF t ws acts = 2 := by unfold tableF; rw [if_neg g1, if_pos g2]
  rw [hz]
  replace g1 := Lib.hid g1
  replace g2 := Lib.hid g2
  repeat' (first | (with_reducible first | refine zA ?_ | refine swp_block1 ?_ | refine swp_block2 ?_ | refine zK ?_) | ((with_reducible first | refine swp_reg ?_ | refine swp_regd (by rw [hP]; exact mixed) ?_); (try rw [hP]); simp -implicitDefEqProofs [*]) | ((with_reducible first | refine swp_skip ?_ | refine swp_exit ?_); (try simp -implicitDefEqProofs [*])) | ((with_reducible refine swp_ret ?_); (try simp only [qseq_r, qblock_r, qloop_r])) | ((with_reducible refine swp_cond rfl (fun h => ?_) (fun h => ?_)) <;> have h' := h <;> (try simp at h') <;> (try subst h')) | ((with_reducible refine sopsg_cases (fun h => ?_) (fun h => ?_)) <;> have h' := h <;> (try simp at h') <;> (try subst h') <;> simp -implicitDefEqProofs [*]) | ((with_reducible refine sopsk_rg ?_ ?_); (first | omega | (unfold maxLen; omega)); simp -implicitDefEqProofs [*]) | (with_reducible first | refine zM hm ?_ | refine zN hm ?_ | refine zO hm ?_ | refine zP hm ?_) | fail)
  all_goals (first | rfl | (exfalso; have q := g2.out; have q1 := g1.out; omega))
 by_cases g3 : t.cap < 0 ∨ 16 < t.cap
 ·have hz : tableF t ws acts = 1 := by unfold tableF; rw [if_neg g1, if_neg g2, if_pos g3]
  rw [hz]
  replace g1 := Lib.hid g1
  replace g2 := Lib.hid g2
  replace g3 := Lib.hid g3
  repeat' (first | (with_reducible first | refine zA ?_ | refine swp_block1 ?_ | refine swp_block2 ?_ | refine zK ?_) | ((with_reducible first | refine swp_reg ?_ | refine swp_regd (by rw [hP]; exact mixed) ?_); (try rw [hP]); simp -implicitDefEqProofs [*]) | ((with_reducible first | refine swp_skip ?_ | refine swp_exit ?_); (try simp -implicitDefEqProofs [*])) | ((with_reducible refine swp_ret ?_); (try simp only [qseq_r, qblock_r, qloop_r])) | ((with_reducible refine swp_cond rfl (fun h => ?_) (fun h => ?_)) <;> have h' := h <;> (try simp at h') <;> (try subst h')) | ((with_reducible refine sopsg_cases (fun h => ?_) (fun h => ?_)) <;> have h' := h <;> (try simp at h') <;> (try subst h') <;> simp -implicitDefEqProofs [*]) | ((with_reducible refine sopsk_rg ?_ ?_); (first | omega | (unfold maxLen; omega)); simp -implicitDefEqProofs [*]) | (with_reducible first | refine zM hm ?_ | refine zN hm ?_ | refine zO hm ?_ | refine zP hm ?_) | fail)
  all_goals (first | rfl | (exfalso; have q := g2.out; have q1 := g1.out; have q3 := g3.out; omega))
 have hF : tableF t ws acts = if (ws.drop 0).any wOut = true then 6 else if (t.acts.drop 0).any (aOut acts.length) = true then 1 else saysF t.acts acts t.def_ t.args := by
  unfold tableF; rw [if_neg g1, if_neg g2, if_neg g3]; rfl
 generalize tableF t ws acts = F at hF
 replace hF := Lib.hid hF
 have l0 : ((ws.length : Int) == 0) = false := by rw [beq_eq_false_iff_ne]; omega
 have l3 : decide (3 < (ws.length : Int)) = false := by rw [decide_eq_false_iff_not]; omega
 have a0 : ((t.acts.length : Int) == 0) = false := by rw [beq_eq_false_iff_ne]; omega
 have a4 : decide (4 < (t.acts.length : Int)) = false := by rw [decide_eq_false_iff_not]; omega
 have q0 : decide (t.cap < 0) = false := by rw [decide_eq_false_iff_not]; omega
 have q16 : decide (16 < t.cap) = false := by rw [decide_eq_false_iff_not]; omega
 have hks : ((t.kind != 1) = false ∧ (t.kind == 2) = false) ∨ ((t.kind != 1) = true ∧ (t.kind != 2) = false ∧ (t.kind == 2) = true ∧ ((ws.length : Int) != 1) = false) ∨ ((t.kind != 1) = true ∧ (t.kind != 2) = true ∧ (t.kind != 3) = false ∧ (t.kind == 2) = false) := by
  by_cases e1 : t.kind = 1
  ·left; rw [e1]; exact ⟨rfl, rfl⟩
  by_cases e2 : t.kind = 2
  ·right; left; refine ⟨by simpa using e1, by simpa using e2, by simpa using e2, ?_⟩
   rw [bne_eq_false_iff_eq]; omega
  ·right; right; refine ⟨by simpa using e1, by simpa using e2, ?_, by simpa using e2⟩
   rw [bne_eq_false_iff_eq]; omega
 clear g1 g2 g3 hn hma n m
 rcases hks with ⟨k1, k2⟩ | ⟨k1, k2, k3, k4⟩ | ⟨k1, k2, k3, k4⟩
 all_goals
  repeat' (first | (with_reducible first | refine zA ?_ | refine swp_block1 ?_ | refine swp_block2 ?_ | refine zK ?_) | ((with_reducible first | refine swp_reg ?_ | refine swp_regd (by rw [hP]; exact mixed) ?_); (try rw [hP]); simp -implicitDefEqProofs [*]) | ((with_reducible first | refine swp_skip ?_ | refine swp_exit ?_); (try simp -implicitDefEqProofs [*])) | ((with_reducible refine swp_ret ?_); (try simp only [qseq_r, qblock_r, qloop_r])) | ((with_reducible refine swp_cond rfl (fun h => ?_) (fun h => ?_)) <;> have h' := h <;> (try simp at h') <;> (try subst h')) | ((with_reducible refine sopsg_cases (fun h => ?_) (fun h => ?_)) <;> have h' := h <;> (try simp at h') <;> (try subst h') <;> simp -implicitDefEqProofs [*]) | ((with_reducible refine sopsk_rg ?_ ?_); (first | omega | (unfold maxLen; omega)); simp -implicitDefEqProofs [*]) | (with_reducible first | refine zM hm ?_ | refine zN hm ?_ | refine zO hm ?_ | refine zP hm ?_) | fail)
  clear k1 k2 a0 a4 q0 q16 l0 l3
  refine swp_block (swp_for (fun s (i : Nat) => s.turn [(67, .int .i64 i)] []) (fun i => i ≤ ws.length ∧ F = if (ws.drop i).any wOut = true then 6 else if (t.acts.drop 0).any (aOut acts.length) = true then 1 else saysF t.acts acts t.def_ t.args) (fun i => ws.length - i) 0 ?_ ⟨by simp, hF.out⟩ ?_)
  ·repeat' (first | ((with_reducible refine wk_self [] hm ?_ ?_ ?_ ?_) <;> (try simp only [zT, puth, Nat.reduceEqDiff, reduceIte, Nat.reduceAdd])) | (with_reducible first | refine za ?_ ?_ | refine zb ?_ ?_ ?_ ?_ | refine zc ?_ ?_ ?_ ?_ | refine zd ?_ ?_ ?_ ?_ | refine objsM_abs ?_ ?_ | refine subH_cons ?_ ?_) | (with_reducible first | exact slotsM_nil | exact objsM_nil | exact subH_nil | exact coL_nilm | exact Co.refl _ | exact CoL.refl _ | exact CoLL.refl _) | ((with_reducible first | refine zga ?_ | refine zgb ?_); rfl) | ((with_reducible refine zgc ?_); (first | (with_reducible rfl) | rfl | (simp; done))) | ((with_reducible first | refine zgd ?_ | refine zge ?_); (first | omega | (simp; done))) | (refine co_wrap ⟨?_, ?_⟩ ?_ <;> omega) | (exact Co.refl _) | (exact CoL.refl _) | (exact CoLL.refl _) | (refine co_own ?_; omega) | (refine co_int ?_; first | omega | (simp_all; done)) | (with_reducible first | refine coL_cons ?_ ?_ | refine coL_consm ?_ ?_) | fail)
  rintro J hJ i ⟨h5, h6⟩
  unfold c_tcheck_l1
  simp only [zT, puth, Nat.reduceEqDiff, reduceIte, Nat.reduceAdd] at h5 h6 ⊢
  rcases Nat.lt_or_ge i ws.length with hi | hi
  ·rw [any_drop _ hi] at h6
   generalize hxx : ws[i] = x at h6
   have wi : IntKind.i64.wrap ((i : Int) + 1) = (i : Int) + 1 := i64_add_ (by omega) (by omega)
   replace h6 := Lib.hid h6
   cases hv : wOut x
   ·have hv1 : decide (x < 1) = false ∧ decide (48 < x) = false := by simpa [wOut] using hv
    obtain ⟨v1, v2⟩ := hv1
    repeat' (first | (with_reducible first | refine zA ?_ | refine swp_block1 ?_ | refine swp_block2 ?_ | refine zK ?_) | ((with_reducible first | refine swp_reg ?_ | refine swp_regd (by rw [hP]; exact mixed) ?_); (try rw [hP]); simp -implicitDefEqProofs [*]) | ((with_reducible first | refine swp_skip ?_ | refine swp_exit ?_); (try simp -implicitDefEqProofs [*])) | ((with_reducible refine swp_ret ?_); (try simp only [qseq_r, qblock_r, qloop_r])) | ((with_reducible refine swp_cond rfl (fun h => ?_) (fun h => ?_)) <;> have h' := h <;> (try simp at h') <;> (try subst h')) | ((with_reducible refine sopsg_cases (fun h => ?_) (fun h => ?_)) <;> have h' := h <;> (try simp at h') <;> (try subst h') <;> simp -implicitDefEqProofs [*]) | ((with_reducible refine sopsk_rg ?_ ?_); (first | omega | (unfold maxLen; omega)); simp -implicitDefEqProofs [*]) | (with_reducible first | refine zM hm ?_ | refine zN hm ?_ | refine zO hm ?_ | refine zP hm ?_) | ((with_reducible refine wk_self [] hm ?_ ?_ ?_ ?_) <;> (try simp only [zT, puth, Nat.reduceEqDiff, reduceIte, Nat.reduceAdd])) | (with_reducible first | refine za ?_ ?_ | refine zb ?_ ?_ ?_ ?_ | refine zc ?_ ?_ ?_ ?_ | refine zd ?_ ?_ ?_ ?_ | refine objsM_abs ?_ ?_ | refine subH_cons ?_ ?_) | (with_reducible first | exact slotsM_nil | exact objsM_nil | exact subH_nil | exact coL_nilm | exact Co.refl _ | exact CoL.refl _ | exact CoLL.refl _) | ((with_reducible first | refine zga ?_ | refine zgb ?_); rfl) | ((with_reducible refine zgc ?_); (first | (with_reducible rfl) | rfl | (simp; done))) | ((with_reducible first | refine zgd ?_ | refine zge ?_); (first | omega | (simp; done))) | (refine co_wrap ⟨?_, ?_⟩ ?_ <;> omega) | (exact Co.refl _) | (exact CoL.refl _) | (exact CoLL.refl _) | (refine co_own ?_; omega) | (refine co_int ?_; first | omega | (simp_all; done)) | (with_reducible first | refine coL_cons ?_ ?_ | refine coL_consm ?_ ?_) | ((refine qfor_next hJ (i + 1) ?_ ?_ ?_; (with_reducible refine wk_self [] hm ?_ ?_ ?_ ?_) <;> (try simp only [zT, puth, Nat.reduceEqDiff, reduceIte, Nat.reduceAdd]))) | fail)
    exact ⟨by omega, by rw [h6.out, hv, Bool.false_or]⟩
   ·replace hv := Lib.hid hv
    repeat' (first | (with_reducible first | refine zA ?_ | refine swp_block1 ?_ | refine swp_block2 ?_ | refine zK ?_) | ((with_reducible first | refine swp_reg ?_ | refine swp_regd (by rw [hP]; exact mixed) ?_); (try rw [hP]); simp -implicitDefEqProofs [*]) | ((with_reducible first | refine swp_skip ?_ | refine swp_exit ?_); (try simp -implicitDefEqProofs [*])) | ((with_reducible refine swp_ret ?_); (try simp only [qseq_r, qblock_r, qloop_r])) | ((with_reducible refine swp_cond rfl (fun h => ?_) (fun h => ?_)) <;> have h' := h <;> (try simp at h') <;> (try subst h')) | ((with_reducible refine sopsg_cases (fun h => ?_) (fun h => ?_)) <;> have h' := h <;> (try simp at h') <;> (try subst h') <;> simp -implicitDefEqProofs [*]) | ((with_reducible refine sopsk_rg ?_ ?_); (first | omega | (unfold maxLen; omega)); simp -implicitDefEqProofs [*]) | (with_reducible first | refine zM hm ?_ | refine zN hm ?_ | refine zO hm ?_ | refine zP hm ?_) | ((with_reducible refine wk_self [] hm ?_ ?_ ?_ ?_) <;> (try simp only [zT, puth, Nat.reduceEqDiff, reduceIte, Nat.reduceAdd])) | (with_reducible first | refine za ?_ ?_ | refine zb ?_ ?_ ?_ ?_ | refine zc ?_ ?_ ?_ ?_ | refine zd ?_ ?_ ?_ ?_ | refine objsM_abs ?_ ?_ | refine subH_cons ?_ ?_) | (with_reducible first | exact slotsM_nil | exact objsM_nil | exact subH_nil | exact coL_nilm | exact Co.refl _ | exact CoL.refl _ | exact CoLL.refl _) | ((with_reducible first | refine zga ?_ | refine zgb ?_); rfl) | ((with_reducible refine zgc ?_); (first | (with_reducible rfl) | rfl | (simp; done))) | ((with_reducible first | refine zgd ?_ | refine zge ?_); (first | omega | (simp; done))) | (refine co_wrap ⟨?_, ?_⟩ ?_ <;> omega) | (exact Co.refl _) | (exact CoL.refl _) | (exact CoLL.refl _) | (refine co_own ?_; omega) | (refine co_int ?_; first | omega | (simp_all; done)) | (with_reducible first | refine coL_cons ?_ ?_ | refine coL_consm ?_ ?_) | ((refine qfor_next hJ (i + 1) ?_ ?_ ?_; (with_reducible refine wk_self [] hm ?_ ?_ ?_ ?_) <;> (try simp only [zT, puth, Nat.reduceEqDiff, reduceIte, Nat.reduceAdd]))) | fail)
    all_goals (first | (exfalso; have q := hv.out; simp only [wOut, Bool.or_eq_true, decide_eq_true_eq] at q; omega) | (rw [h6.out, hv.out]; rfl))
  ·obtain rfl : i = ws.length := by omega
   have h7 : F = if (t.acts.drop 0).any (aOut acts.length) = true then 1 else saysF t.acts acts t.def_ t.args := by rw [h6, List.drop_length]; rfl
   replace h7 := Lib.hid h7
   replace h6 := Lib.hid h6
   repeat' (first | (with_reducible first | refine zA ?_ | refine swp_block1 ?_ | refine swp_block2 ?_ | refine zK ?_) | ((with_reducible first | refine swp_reg ?_ | refine swp_regd (by rw [hP]; exact mixed) ?_); (try rw [hP]); simp -implicitDefEqProofs [*]) | ((with_reducible first | refine swp_skip ?_ | refine swp_exit ?_); (try simp -implicitDefEqProofs [*])) | ((with_reducible refine swp_ret ?_); (try simp only [qseq_r, qblock_r, qloop_r])) | ((with_reducible refine swp_cond rfl (fun h => ?_) (fun h => ?_)) <;> have h' := h <;> (try simp at h') <;> (try subst h')) | ((with_reducible refine sopsg_cases (fun h => ?_) (fun h => ?_)) <;> have h' := h <;> (try simp at h') <;> (try subst h') <;> simp -implicitDefEqProofs [*]) | ((with_reducible refine sopsk_rg ?_ ?_); (first | omega | (unfold maxLen; omega)); simp -implicitDefEqProofs [*]) | (with_reducible first | refine zM hm ?_ | refine zN hm ?_ | refine zO hm ?_ | refine zP hm ?_) | fail)
   refine swp_block (swp_for (fun s (i : Nat) => s.turn [(81, .int .i64 i)] []) (fun i => i ≤ t.acts.length ∧ (∀ k ∈ t.acts.take i, aOut acts.length k = false) ∧ F = if (t.acts.drop i).any (aOut acts.length) = true then 1 else saysF t.acts acts t.def_ t.args) (fun i => t.acts.length - i) 0 ?_ ⟨by simp, by simp, h7.out⟩ ?_)
   ·repeat' (first | ((with_reducible refine wk_self [] hm ?_ ?_ ?_ ?_) <;> (try simp only [zT, puth, Nat.reduceEqDiff, reduceIte, Nat.reduceAdd])) | (with_reducible first | refine za ?_ ?_ | refine zb ?_ ?_ ?_ ?_ | refine zc ?_ ?_ ?_ ?_ | refine zd ?_ ?_ ?_ ?_ | refine objsM_abs ?_ ?_ | refine subH_cons ?_ ?_) | (with_reducible first | exact slotsM_nil | exact objsM_nil | exact subH_nil | exact coL_nilm | exact Co.refl _ | exact CoL.refl _ | exact CoLL.refl _) | ((with_reducible first | refine zga ?_ | refine zgb ?_); rfl) | ((with_reducible refine zgc ?_); (first | (with_reducible rfl) | rfl | (simp; done))) | ((with_reducible first | refine zgd ?_ | refine zge ?_); (first | omega | (simp; done))) | (refine co_wrap ⟨?_, ?_⟩ ?_ <;> omega) | (exact Co.refl _) | (exact CoL.refl _) | (exact CoLL.refl _) | (refine co_own ?_; omega) | (refine co_int ?_; first | omega | (simp_all; done)) | (with_reducible first | refine coL_cons ?_ ?_ | refine coL_consm ?_ ?_) | fail)
   rintro J hJ i ⟨h8, h9, h10⟩
   unfold c_tcheck_l2
   simp only [zT, puth, Nat.reduceEqDiff, reduceIte, Nat.reduceAdd] at h8 h9 h10 ⊢
   replace h9 := Lib.hid h9
   rcases Nat.lt_or_ge i t.acts.length with hi | hi
   ·rw [any_drop _ hi] at h10
    have htk : t.acts.take (i + 1) = t.acts.take i ++ [t.acts[i]] := List.take_succ_eq_append_getElem hi
    generalize hxx : t.acts[i] = x at h10 htk
    have wi : IntKind.i64.wrap ((i : Int) + 1) = (i : Int) + 1 := i64_add_ (by omega) (by omega)
    replace h10 := Lib.hid h10
    replace htk := Lib.hid htk
    cases hv : aOut acts.length x
    ·have hv1 : decide (x < 0) = false ∧ decide ((acts.length : Int) ≤ x) = false := by simpa [aOut] using hv
     obtain ⟨v1, v2⟩ := hv1
     replace hv := Lib.hid hv
     repeat' (first | (with_reducible first | refine zA ?_ | refine swp_block1 ?_ | refine swp_block2 ?_ | refine zK ?_) | ((with_reducible first | refine swp_reg ?_ | refine swp_regd (by rw [hP]; exact mixed) ?_); (try rw [hP]); simp -implicitDefEqProofs [*]) | ((with_reducible first | refine swp_skip ?_ | refine swp_exit ?_); (try simp -implicitDefEqProofs [*])) | ((with_reducible refine swp_ret ?_); (try simp only [qseq_r, qblock_r, qloop_r])) | ((with_reducible refine swp_cond rfl (fun h => ?_) (fun h => ?_)) <;> have h' := h <;> (try simp at h') <;> (try subst h')) | ((with_reducible refine sopsg_cases (fun h => ?_) (fun h => ?_)) <;> have h' := h <;> (try simp at h') <;> (try subst h') <;> simp -implicitDefEqProofs [*]) | ((with_reducible refine sopsk_rg ?_ ?_); (first | omega | (unfold maxLen; omega)); simp -implicitDefEqProofs [*]) | (with_reducible first | refine zM hm ?_ | refine zN hm ?_ | refine zO hm ?_ | refine zP hm ?_) | ((with_reducible refine wk_self [] hm ?_ ?_ ?_ ?_) <;> (try simp only [zT, puth, Nat.reduceEqDiff, reduceIte, Nat.reduceAdd])) | (with_reducible first | refine za ?_ ?_ | refine zb ?_ ?_ ?_ ?_ | refine zc ?_ ?_ ?_ ?_ | refine zd ?_ ?_ ?_ ?_ | refine objsM_abs ?_ ?_ | refine subH_cons ?_ ?_) | (with_reducible first | exact slotsM_nil | exact objsM_nil | exact subH_nil | exact coL_nilm | exact Co.refl _ | exact CoL.refl _ | exact CoLL.refl _) | ((with_reducible first | refine zga ?_ | refine zgb ?_); rfl) | ((with_reducible refine zgc ?_); (first | (with_reducible rfl) | rfl | (simp; done))) | ((with_reducible first | refine zgd ?_ | refine zge ?_); (first | omega | (simp; done))) | (refine co_wrap ⟨?_, ?_⟩ ?_ <;> omega) | (exact Co.refl _) | (exact CoL.refl _) | (exact CoLL.refl _) | (refine co_own ?_; omega) | (refine co_int ?_; first | omega | (simp_all; done)) | (with_reducible first | refine coL_cons ?_ ?_ | refine coL_consm ?_ ?_) | ((refine qfor_next hJ (i + 1) ?_ ?_ ?_; (with_reducible refine wk_self [] hm ?_ ?_ ?_ ?_) <;> (try simp only [zT, puth, Nat.reduceEqDiff, reduceIte, Nat.reduceAdd]))) | fail)
     refine ⟨by omega, fun k hk => ?_, by rw [h10.out, hv.out, Bool.false_or]⟩
     rw [htk.out, List.mem_append] at hk
     rcases hk with hk | hk
     ·exact h9.out k hk
     ·rw [List.mem_singleton.1 hk]; exact hv.out
    ·replace hv := Lib.hid hv
     repeat' (first | (with_reducible first | refine zA ?_ | refine swp_block1 ?_ | refine swp_block2 ?_ | refine zK ?_) | ((with_reducible first | refine swp_reg ?_ | refine swp_regd (by rw [hP]; exact mixed) ?_); (try rw [hP]); simp -implicitDefEqProofs [*]) | ((with_reducible first | refine swp_skip ?_ | refine swp_exit ?_); (try simp -implicitDefEqProofs [*])) | ((with_reducible refine swp_ret ?_); (try simp only [qseq_r, qblock_r, qloop_r])) | ((with_reducible refine swp_cond rfl (fun h => ?_) (fun h => ?_)) <;> have h' := h <;> (try simp at h') <;> (try subst h')) | ((with_reducible refine sopsg_cases (fun h => ?_) (fun h => ?_)) <;> have h' := h <;> (try simp at h') <;> (try subst h') <;> simp -implicitDefEqProofs [*]) | ((with_reducible refine sopsk_rg ?_ ?_); (first | omega | (unfold maxLen; omega)); simp -implicitDefEqProofs [*]) | (with_reducible first | refine zM hm ?_ | refine zN hm ?_ | refine zO hm ?_ | refine zP hm ?_) | ((with_reducible refine wk_self [] hm ?_ ?_ ?_ ?_) <;> (try simp only [zT, puth, Nat.reduceEqDiff, reduceIte, Nat.reduceAdd])) | (with_reducible first | refine za ?_ ?_ | refine zb ?_ ?_ ?_ ?_ | refine zc ?_ ?_ ?_ ?_ | refine zd ?_ ?_ ?_ ?_ | refine objsM_abs ?_ ?_ | refine subH_cons ?_ ?_) | (with_reducible first | exact slotsM_nil | exact objsM_nil | exact subH_nil | exact coL_nilm | exact Co.refl _ | exact CoL.refl _ | exact CoLL.refl _) | ((with_reducible first | refine zga ?_ | refine zgb ?_); rfl) | ((with_reducible refine zgc ?_); (first | (with_reducible rfl) | rfl | (simp; done))) | ((with_reducible first | refine zgd ?_ | refine zge ?_); (first | omega | (simp; done))) | (refine co_wrap ⟨?_, ?_⟩ ?_ <;> omega) | (exact Co.refl _) | (exact CoL.refl _) | (exact CoLL.refl _) | (refine co_own ?_; omega) | (refine co_int ?_; first | omega | (simp_all; done)) | (with_reducible first | refine coL_cons ?_ ?_ | refine coL_consm ?_ ?_) | ((refine qfor_next hJ (i + 1) ?_ ?_ ?_; (with_reducible refine wk_self [] hm ?_ ?_ ?_ ?_) <;> (try simp only [zT, puth, Nat.reduceEqDiff, reduceIte, Nat.reduceAdd]))) | fail)
     all_goals (first | (exfalso; have q := hv.out; simp only [aOut, Bool.or_eq_true, decide_eq_true_eq] at q; omega) | (rw [h10.out, hv.out]; rfl))
   ·obtain rfl : i = t.acts.length := by omega
    have h11 : ∀ k ∈ t.acts, 0 ≤ k ∧ k < acts.length := fun k hk => by
     have := h9.out k (by rw [List.take_length]; exact hk)
     unfold aOut at this; rw [Bool.or_eq_false_iff, decide_eq_false_iff_not, decide_eq_false_iff_not] at this; omega
    have h12 : F = saysF t.acts acts t.def_ t.args := by rw [h10, List.drop_length]; rfl
    have hs := hsays.out h11
    replace hs := Lib.hid hs
    replace h11 := Lib.hid h11
    replace h10 := Lib.hid h10
    replace h12 := Lib.hid h12
    repeat' (first | (with_reducible first | refine zA ?_ | refine swp_block1 ?_ | refine swp_block2 ?_ | refine zK ?_) | ((with_reducible first | refine swp_reg ?_ | refine swp_regd (by rw [hP]; exact mixed) ?_); (try rw [hP]); simp -implicitDefEqProofs [*]) | ((with_reducible first | refine swp_skip ?_ | refine swp_exit ?_); (try simp -implicitDefEqProofs [*])) | ((with_reducible refine swp_ret ?_); (try simp only [qseq_r, qblock_r, qloop_r])) | ((with_reducible refine swp_cond rfl (fun h => ?_) (fun h => ?_)) <;> have h' := h <;> (try simp at h') <;> (try subst h')) | ((with_reducible refine sopsg_cases (fun h => ?_) (fun h => ?_)) <;> have h' := h <;> (try simp at h') <;> (try subst h') <;> simp -implicitDefEqProofs [*]) | ((with_reducible refine sopsk_rg ?_ ?_); (first | omega | (unfold maxLen; omega)); simp -implicitDefEqProofs [*]) | (refine call_q (hs.out _) ?_; simp -implicitDefEqProofs [*]) | (with_reducible first | refine zM hm ?_ | refine zN hm ?_ | refine zO hm ?_ | refine zP hm ?_) | fail)
    rw [h12.out]
end Go.Proofs.Ytnfjldobjgdiaaa
namespace Go.Proofs.Ytnfjldobjgdiaaa
set_option linter.all false
open Go.RowKit
attribute [local simp] sops_nil sops_run sopsk_some sops_call sops_guard sopsg_yes sopsg_tf sopsg_ft sopsg_undef rg_true SOp.run SX.ev putd puts argS upds SOp.touch SSt.keep SSt.skip gets geth puth delh idOf SV.cells? setL fillS fillR sbin eq0 eq1 eqL rowOf qseq_n qseq_e qseq_r qblock_n qblock_r qblock_e qloop_e qloop_r take_map_len FrzOk pureV_int pureV_bool pureV_str pureV_nil pureV_nilsl pureV_view pureV_cp pureL_nil_ pureL_cons_ pureO_row pureO_cells frzS frzH frz frz1 frz0 SlotsM ObjsM ObjM rn ren ren1 ren0 co_self co_int co_own co_view co_nilsl co_agg co_tup CoL coll_self mergeH dels adds idsH okNames
attribute [local simp] headc refc pushc casec statec opc actc tabc nodec planc nums
set_option maxHeartbeats 4000000 in
theorem ract_s (p : PlanD) (a : ActD) (h1 : a.w.length ≤ 1000000) (h2 : a.ops.length ≤ 1000000) (h3 : ∀ o ∈ a.ops, o.e.length ≤ 1000000) (q : Nat) : SCalls Try.prog 42 [.agg (planc p), .agg (actc a)] [] q (.int .i64 (actF p a)) [] := by
 refine scalls_q ?_ (fun _ => rfl) (fun _ => rfl) rfl q
 refine scalls_of (N := 58) Try.func42 rfl rfl (by kernel_rfl) comp_c_ract (by simp) (by repeat' (first | exact trivial | refine And.intro ?_ ?_ | rfl | decide)) (by repeat' (first | exact trivial | refine And.intro ?_ ?_ | rfl | decide)) ?_
 rintro X hP hN hm
 unfold c_ract
 by_cases g1 : 3 < a.w.length ∨ 5 < a.ops.length
 ·have hz : actF p a = 2 := by unfold actF; rw [if_pos g1]
  rw [hz]
  replace g1 := Lib.hid g1
  repeat' (first | (with_reducible first | refine zA ?_ | refine swp_block1 ?_ | refine swp_block2 ?_ | refine zK ?_) | ((with_reducible first | refine swp_reg ?_ | refine swp_regd (by rw [hP]; exact mixed) ?_); (try rw [hP]); simp -implicitDefEqProofs [*]) | ((with_reducible first | refine swp_skip ?_ | refine swp_exit ?_); (try simp -implicitDefEqProofs [*])) | ((with_reducible refine swp_ret ?_); (try simp only [qseq_r, qblock_r, qloop_r])) | ((with_reducible refine swp_cond rfl (fun h => ?_) (fun h => ?_)) <;> have h' := h <;> (try simp at h') <;> (try subst h')) | ((with_reducible refine sopsg_cases (fun h => ?_) (fun h => ?_)) <;> have h' := h <;> (try simp at h') <;> (try subst h') <;> simp -implicitDefEqProofs [*]) | ((with_reducible refine sopsk_rg ?_ ?_); (first | omega | (unfold maxLen; omega)); simp -implicitDefEqProofs [*]) | (with_reducible first | refine zM hm ?_ | refine zN hm ?_ | refine zO hm ?_ | refine zP hm ?_) | fail)
  all_goals (first | rfl | (exfalso; have q := g1.out; omega))
 have hF : actF p a = if (a.w.drop 0).any wOut = true then 6 else firstF (fun o => deedF p o a.w) (a.ops.drop 0) := by unfold actF; rw [if_neg g1]; rfl
 generalize actF p a = F at hF
 have l3 : decide (3 < (a.w.length : Int)) = false := by rw [decide_eq_false_iff_not]; omega
 have l5 : decide (5 < (a.ops.length : Int)) = false := by rw [decide_eq_false_iff_not]; omega
 clear g1
 replace hF := Lib.hid hF
 replace h3 := Lib.hid h3
 repeat' (first | (with_reducible first | refine zA ?_ | refine swp_block1 ?_ | refine swp_block2 ?_ | refine zK ?_) | ((with_reducible first | refine swp_reg ?_ | refine swp_regd (by rw [hP]; exact mixed) ?_); (try rw [hP]); simp -implicitDefEqProofs [*]) | ((with_reducible first | refine swp_skip ?_ | refine swp_exit ?_); (try simp -implicitDefEqProofs [*])) | ((with_reducible refine swp_ret ?_); (try simp only [qseq_r, qblock_r, qloop_r])) | ((with_reducible refine swp_cond rfl (fun h => ?_) (fun h => ?_)) <;> have h' := h <;> (try simp at h') <;> (try subst h')) | ((with_reducible refine sopsg_cases (fun h => ?_) (fun h => ?_)) <;> have h' := h <;> (try simp at h') <;> (try subst h') <;> simp -implicitDefEqProofs [*]) | ((with_reducible refine sopsk_rg ?_ ?_); (first | omega | (unfold maxLen; omega)); simp -implicitDefEqProofs [*]) | (with_reducible first | refine zM hm ?_ | refine zN hm ?_ | refine zO hm ?_ | refine zP hm ?_) | fail)
 refine swp_block (swp_for (fun s (i : Nat) => s.turn [(5, .int .i64 i)] []) (fun i => i ≤ a.w.length ∧ F = if (a.w.drop i).any wOut = true then 6 else firstF (fun o => deedF p o a.w) (a.ops.drop 0)) (fun i => a.w.length - i) 0 ?_ ⟨by simp, hF.out⟩ ?_)
 ·repeat' (first | ((with_reducible refine wk_self [] hm ?_ ?_ ?_ ?_) <;> (try simp only [zT, puth, Nat.reduceEqDiff, reduceIte, Nat.reduceAdd])) | (with_reducible first | refine za ?_ ?_ | refine zb ?_ ?_ ?_ ?_ | refine zc ?_ ?_ ?_ ?_ | refine zd ?_ ?_ ?_ ?_ | refine objsM_abs ?_ ?_ | refine subH_cons ?_ ?_) | (with_reducible first | exact slotsM_nil | exact objsM_nil | exact subH_nil | exact coL_nilm | exact Co.refl _ | exact CoL.refl _ | exact CoLL.refl _) | ((with_reducible first | refine zga ?_ | refine zgb ?_); rfl) | ((with_reducible refine zgc ?_); (first | (with_reducible rfl) | rfl | (simp; done))) | ((with_reducible first | refine zgd ?_ | refine zge ?_); (first | omega | (simp; done))) | (refine co_wrap ⟨?_, ?_⟩ ?_ <;> omega) | (exact Co.refl _) | (exact CoL.refl _) | (exact CoLL.refl _) | (refine co_own ?_; omega) | (refine co_int ?_; first | omega | (simp_all; done)) | (with_reducible first | refine coL_cons ?_ ?_ | refine coL_consm ?_ ?_) | fail)
 rintro J hJ i ⟨h5, h6⟩
 unfold c_ract_l1
 simp only [zT, puth, Nat.reduceEqDiff, reduceIte, Nat.reduceAdd] at h5 h6 ⊢
 rcases Nat.lt_or_ge i a.w.length with hi | hi
 ·rw [any_drop _ hi] at h6
  generalize hxx : a.w[i] = x at h6
  have wi : IntKind.i64.wrap ((i : Int) + 1) = (i : Int) + 1 := i64_add_ (by omega) (by omega)
  replace h6 := Lib.hid h6
  cases hv : wOut x
  ·have hv1 : decide (x < 1) = false ∧ decide (48 < x) = false := by simpa [wOut] using hv
   obtain ⟨v1, v2⟩ := hv1
   repeat' (first | (with_reducible first | refine zA ?_ | refine swp_block1 ?_ | refine swp_block2 ?_ | refine zK ?_) | ((with_reducible first | refine swp_reg ?_ | refine swp_regd (by rw [hP]; exact mixed) ?_); (try rw [hP]); simp -implicitDefEqProofs [*]) | ((with_reducible first | refine swp_skip ?_ | refine swp_exit ?_); (try simp -implicitDefEqProofs [*])) | ((with_reducible refine swp_ret ?_); (try simp only [qseq_r, qblock_r, qloop_r])) | ((with_reducible refine swp_cond rfl (fun h => ?_) (fun h => ?_)) <;> have h' := h <;> (try simp at h') <;> (try subst h')) | ((with_reducible refine sopsg_cases (fun h => ?_) (fun h => ?_)) <;> have h' := h <;> (try simp at h') <;> (try subst h') <;> simp -implicitDefEqProofs [*]) | ((with_reducible refine sopsk_rg ?_ ?_); (first | omega | (unfold maxLen; omega)); simp -implicitDefEqProofs [*]) | (with_reducible first | refine zM hm ?_ | refine zN hm ?_ | refine zO hm ?_ | refine zP hm ?_) | ((with_reducible refine wk_self [] hm ?_ ?_ ?_ ?_) <;> (try simp only [zT, puth, Nat.reduceEqDiff, reduceIte, Nat.reduceAdd])) | (with_reducible first | refine za ?_ ?_ | refine zb ?_ ?_ ?_ ?_ | refine zc ?_ ?_ ?_ ?_ | refine zd ?_ ?_ ?_ ?_ | refine objsM_abs ?_ ?_ | refine subH_cons ?_ ?_) | (with_reducible first | exact slotsM_nil | exact objsM_nil | exact subH_nil | exact coL_nilm | exact Co.refl _ | exact CoL.refl _ | exact CoLL.refl _) | ((with_reducible first | refine zga ?_ | refine zgb ?_); rfl) | ((with_reducible refine zgc ?_); (first | (with_reducible rfl) | rfl | (simp; done))) | ((with_reducible first | refine zgd ?_ | refine zge ?_); (first | omega | (simp; done))) | (refine co_wrap ⟨?_, ?_⟩ ?_ <;> omega) | (exact Co.refl _) | (exact CoL.refl _) | (exact CoLL.refl _) | (refine co_own ?_; omega) | (refine co_int ?_; first | omega | (simp_all; done)) | (with_reducible first | refine coL_cons ?_ ?_ | refine coL_consm ?_ ?_) | ((refine qfor_next hJ (i + 1) ?_ ?_ ?_; (with_reducible refine wk_self [] hm ?_ ?_ ?_ ?_) <;> (try simp only [zT, puth, Nat.reduceEqDiff, reduceIte, Nat.reduceAdd]))) | fail)
   exact ⟨by omega, by rw [h6.out, hv, Bool.false_or]⟩
  ·replace hv := Lib.hid hv
   repeat' (first | (with_reducible first | refine zA ?_ | refine swp_block1 ?_ | refine swp_block2 ?_ | refine zK ?_) | ((with_reducible first | refine swp_reg ?_ | refine swp_regd (by rw [hP]; exact mixed) ?_); (try rw [hP]); simp -implicitDefEqProofs [*]) | ((with_reducible first | refine swp_skip ?_ | refine swp_exit ?_); (try simp -implicitDefEqProofs [*])) | ((with_reducible refine swp_ret ?_); (try simp only [qseq_r, qblock_r, qloop_r])) | ((with_reducible refine swp_cond rfl (fun h => ?_) (fun h => ?_)) <;> have h' := h <;> (try simp at h') <;> (try subst h')) | ((with_reducible refine sopsg_cases (fun h => ?_) (fun h => ?_)) <;> have h' := h <;> (try simp at h') <;> (try subst h') <;> simp -implicitDefEqProofs [*]) | ((with_reducible refine sopsk_rg ?_ ?_); (first | omega | (unfold maxLen; omega)); simp -implicitDefEqProofs [*]) | (with_reducible first | refine zM hm ?_ | refine zN hm ?_ | refine zO hm ?_ | refine zP hm ?_) | ((with_reducible refine wk_self [] hm ?_ ?_ ?_ ?_) <;> (try simp only [zT, puth, Nat.reduceEqDiff, reduceIte, Nat.reduceAdd])) | (with_reducible first | refine za ?_ ?_ | refine zb ?_ ?_ ?_ ?_ | refine zc ?_ ?_ ?_ ?_ | refine zd ?_ ?_ ?_ ?_ | refine objsM_abs ?_ ?_ | refine subH_cons ?_ ?_) | (with_reducible first | exact slotsM_nil | exact objsM_nil | exact subH_nil | exact coL_nilm | exact Co.refl _ | exact CoL.refl _ | exact CoLL.refl _) | ((with_reducible first | refine zga ?_ | refine zgb ?_); rfl) | ((with_reducible refine zgc ?_); (first | (with_reducible rfl) | rfl | (simp; done))) | ((with_reducible first | refine zgd ?_ | refine zge ?_); (first | omega | (simp; done))) | (refine co_wrap ⟨?_, ?_⟩ ?_ <;> omega) | (exact Co.refl _) | (exact CoL.refl _) | (exact CoLL.refl _) | (refine co_own ?_; omega) | (refine co_int ?_; first | omega | (simp_all; done)) | (with_reducible first | refine coL_cons ?_ ?_ | refine coL_consm ?_ ?_) | ((refine qfor_next hJ (i + 1) ?_ ?_ ?_; (with_reducible refine wk_self [] hm ?_ ?_ ?_ ?_) <;> (try simp only [zT, puth, Nat.reduceEqDiff, reduceIte, Nat.reduceAdd]))) | fail)
   all_goals (first | (exfalso; have q := hv.out; simp only [wOut, Bool.or_eq_true, decide_eq_true_eq] at q; omega) | (rw [h6.out, hv.out]; rfl))
 ·obtain rfl : i = a.w.length := by omega
  have h7 : F = firstF (fun o => deedF p o a.w) (a.ops.drop 0) := by rw [h6, List.drop_length]; rfl
  replace h7 := Lib.hid h7
  replace h6 := Lib.hid h6
  repeat' (first | (with_reducible first | refine zA ?_ | refine swp_block1 ?_ | refine swp_block2 ?_ | refine zK ?_) | ((with_reducible first | refine swp_reg ?_ | refine swp_regd (by rw [hP]; exact mixed) ?_); (try rw [hP]); simp -implicitDefEqProofs [*]) | ((with_reducible first | refine swp_skip ?_ | refine swp_exit ?_); (try simp -implicitDefEqProofs [*])) | ((with_reducible refine swp_ret ?_); (try simp only [qseq_r, qblock_r, qloop_r])) | ((with_reducible refine swp_cond rfl (fun h => ?_) (fun h => ?_)) <;> have h' := h <;> (try simp at h') <;> (try subst h')) | ((with_reducible refine sopsg_cases (fun h => ?_) (fun h => ?_)) <;> have h' := h <;> (try simp at h') <;> (try subst h') <;> simp -implicitDefEqProofs [*]) | ((with_reducible refine sopsk_rg ?_ ?_); (first | omega | (unfold maxLen; omega)); simp -implicitDefEqProofs [*]) | (with_reducible first | refine zM hm ?_ | refine zN hm ?_ | refine zO hm ?_ | refine zP hm ?_) | fail)
  refine swp_block (swp_for (fun s (i : Nat) => s.turn [(6, .int .i64 i)] []) (fun i => i ≤ a.ops.length ∧ F = firstF (fun o => deedF p o a.w) (a.ops.drop i)) (fun i => a.ops.length - i) 0 ?_ ⟨by simp, h7.out⟩ ?_)
  ·repeat' (first | ((with_reducible refine wk_self [] hm ?_ ?_ ?_ ?_) <;> (try simp only [zT, puth, Nat.reduceEqDiff, reduceIte, Nat.reduceAdd])) | (with_reducible first | refine za ?_ ?_ | refine zb ?_ ?_ ?_ ?_ | refine zc ?_ ?_ ?_ ?_ | refine zd ?_ ?_ ?_ ?_ | refine objsM_abs ?_ ?_ | refine subH_cons ?_ ?_) | (with_reducible first | exact slotsM_nil | exact objsM_nil | exact subH_nil | exact coL_nilm | exact Co.refl _ | exact CoL.refl _ | exact CoLL.refl _) | ((with_reducible first | refine zga ?_ | refine zgb ?_); rfl) | ((with_reducible refine zgc ?_); (first | (with_reducible rfl) | rfl | (simp; done))) | ((with_reducible first | refine zgd ?_ | refine zge ?_); (first | omega | (simp; done))) | (refine co_wrap ⟨?_, ?_⟩ ?_ <;> omega) | (exact Co.refl _) | (exact CoL.refl _) | (exact CoLL.refl _) | (refine co_own ?_; omega) | (refine co_int ?_; first | omega | (simp_all; done)) | (with_reducible first | refine coL_cons ?_ ?_ | refine coL_consm ?_ ?_) | fail)
  rintro J hJ i ⟨h8, h10⟩
  unfold c_ract_l2
  simp only [zT, puth, Nat.reduceEqDiff, reduceIte, Nat.reduceAdd] at h8 h10 ⊢
  rcases Nat.lt_or_ge i a.ops.length with hi | hi
  ·rw [firstF_drop _ hi] at h10
   have hdl := fun q => rdeed_s p a.ops[i] a.w (h3.out _ (List.getElem_mem hi)) q
   generalize hxx : a.ops[i] = x at h10 hdl
   generalize deedF p x a.w = D at h10 hdl
   have wi : IntKind.i64.wrap ((i : Int) + 1) = (i : Int) + 1 := i64_add_ (by omega) (by omega)
   replace h10 := Lib.hid h10
   replace hdl := Lib.hid hdl
   cases kD : (D != 0)
   all_goals
    have kD' := kD
    simp at kD'
    replace kD' := Lib.hid kD'
    repeat' (first | (with_reducible first | refine zA ?_ | refine swp_block1 ?_ | refine swp_block2 ?_ | refine zK ?_) | ((with_reducible first | refine swp_reg ?_ | refine swp_regd (by rw [hP]; exact mixed) ?_); (try rw [hP]); simp -implicitDefEqProofs [*]) | ((with_reducible first | refine swp_skip ?_ | refine swp_exit ?_); (try simp -implicitDefEqProofs [*])) | ((with_reducible refine swp_ret ?_); (try simp only [qseq_r, qblock_r, qloop_r])) | ((with_reducible refine swp_cond rfl (fun h => ?_) (fun h => ?_)) <;> have h' := h <;> (try simp at h') <;> (try subst h')) | ((with_reducible refine sopsg_cases (fun h => ?_) (fun h => ?_)) <;> have h' := h <;> (try simp at h') <;> (try subst h') <;> simp -implicitDefEqProofs [*]) | ((with_reducible refine sopsk_rg ?_ ?_); (first | omega | (unfold maxLen; omega)); simp -implicitDefEqProofs [*]) | (refine call_q (hdl.out _) ?_; simp -implicitDefEqProofs [*]) | (with_reducible first | refine zM hm ?_ | refine zN hm ?_ | refine zO hm ?_ | refine zP hm ?_) | ((with_reducible refine wk_self [] hm ?_ ?_ ?_ ?_) <;> (try simp only [zT, puth, Nat.reduceEqDiff, reduceIte, Nat.reduceAdd])) | (with_reducible first | refine za ?_ ?_ | refine zb ?_ ?_ ?_ ?_ | refine zc ?_ ?_ ?_ ?_ | refine zd ?_ ?_ ?_ ?_ | refine objsM_abs ?_ ?_ | refine subH_cons ?_ ?_) | (with_reducible first | exact slotsM_nil | exact objsM_nil | exact subH_nil | exact coL_nilm | exact Co.refl _ | exact CoL.refl _ | exact CoLL.refl _) | ((with_reducible first | refine zga ?_ | refine zgb ?_); rfl) | ((with_reducible refine zgc ?_); (first | (with_reducible rfl) | rfl | (simp; done))) | ((with_reducible first | refine zgd ?_ | refine zge ?_); (first | omega | (simp; done))) | (refine co_wrap ⟨?_, ?_⟩ ?_ <;> omega) | (exact Co.refl _) | (exact CoL.refl _) | (exact CoLL.refl _) | (refine co_own ?_; omega) | (refine co_int ?_; first | omega | (simp_all; done)) | (with_reducible first | refine coL_cons ?_ ?_ | refine coL_consm ?_ ?_) | ((refine qfor_next hJ (i + 1) ?_ ?_ ?_; (with_reducible refine wk_self [] hm ?_ ?_ ?_ ?_) <;> (try simp only [zT, puth, Nat.reduceEqDiff, reduceIte, Nat.reduceAdd]))) | fail)
    first | (refine ⟨by omega, ?_⟩; rw [h10.out, if_pos kD'.out]) | (rw [h10.out, if_neg kD'.out]) | skip
  ·obtain rfl : i = a.ops.length := by omega
   rw [List.drop_length] at h10
   replace h10 := Lib.hid h10
   repeat' (first | (with_reducible first | refine zA ?_ | refine swp_block1 ?_ | refine swp_block2 ?_ | refine zK ?_) | ((with_reducible first | refine swp_reg ?_ | refine swp_regd (by rw [hP]; exact mixed) ?_); (try rw [hP]); simp -implicitDefEqProofs [*]) | ((with_reducible first | refine swp_skip ?_ | refine swp_exit ?_); (try simp -implicitDefEqProofs [*])) | ((with_reducible refine swp_ret ?_); (try simp only [qseq_r, qblock_r, qloop_r])) | ((with_reducible refine swp_cond rfl (fun h => ?_) (fun h => ?_)) <;> have h' := h <;> (try simp at h') <;> (try subst h')) | ((with_reducible refine sopsg_cases (fun h => ?_) (fun h => ?_)) <;> have h' := h <;> (try simp at h') <;> (try subst h') <;> simp -implicitDefEqProofs [*]) | ((with_reducible refine sopsk_rg ?_ ?_); (first | omega | (unfold maxLen; omega)); simp -implicitDefEqProofs [*]) | (with_reducible first | refine zM hm ?_ | refine zN hm ?_ | refine zO hm ?_ | refine zP hm ?_) | fail)
   rw [h10.out]; rfl
theorem rsays_s (t : TabD) (acts : List ActD) (act : Int) (args : List Int) (hl : t.acts.length ≤ 1000000) (hl2 : args.length ≤ 1000000) (hr : ∀ k ∈ t.acts, 0 ≤ k ∧ k < acts.length) (q : Nat) : SCalls Try.prog 72 [.agg (tabc t), .view 2 (acts.map actc), .agg [.int .i64 act, nums .u64 args]] [] q (.int .i64 (saysF t.acts acts act args)) [] := by
 refine scalls_q ?_ (fun _ => rfl) (fun _ => rfl) rfl q
 refine scalls_of (N := 43) Try.func72 rfl rfl (by kernel_rfl) comp_c_rsays (by simp) (by repeat' (first | exact trivial | refine And.intro ?_ ?_ | rfl | decide)) (by repeat' (first | exact trivial | refine And.intro ?_ ?_ | rfl | decide)) ?_
 rintro X hP hN hm
 have hc := fun q => rin_s t.acts act hl q
 unfold c_rsays
 cases hin : t.acts.contains act
 ·rw [hin] at hc
  have hz : saysF t.acts acts act args = 5 := by unfold saysF; rw [hin]; rfl
  rw [hz]
  repeat' (first | (with_reducible first | refine zA ?_ | refine swp_block1 ?_ | refine swp_block2 ?_ | refine zK ?_) | ((with_reducible first | refine swp_reg ?_ | refine swp_regd (by rw [hP]; exact mixed) ?_); (try rw [hP]); simp -implicitDefEqProofs [*]) | ((with_reducible first | refine swp_skip ?_ | refine swp_exit ?_); (try simp -implicitDefEqProofs [*])) | ((with_reducible refine swp_ret ?_); (try simp only [qseq_r, qblock_r, qloop_r])) | ((with_reducible refine swp_cond rfl (fun h => ?_) (fun h => ?_)) <;> have h' := h <;> (try simp at h') <;> (try subst h')) | ((with_reducible refine sopsg_cases (fun h => ?_) (fun h => ?_)) <;> have h' := h <;> (try simp at h') <;> (try subst h') <;> simp -implicitDefEqProofs [*]) | ((with_reducible refine sopsk_rg ?_ ?_); (first | omega | (unfold maxLen; omega)); simp -implicitDefEqProofs [*]) | (refine call_q (hc _) ?_; simp -implicitDefEqProofs [*]) | (with_reducible first | refine zM hm ?_ | refine zN hm ?_ | refine zO hm ?_ | refine zP hm ?_) | fail)
  rfl
 ·rw [hin] at hc
  obtain ⟨hr0, hr1⟩ := hr act (by simpa using hin)
  have hlt : act.toNat < acts.length := by omega
  have hF : saysF t.acts acts act args = if args.length ≠ acts[act.toNat].w.length then 2 else if wideAny args acts[act.toNat].w = true then 6 else 0 := by
   unfold saysF
   have : actW acts act = acts[act.toNat].w := by unfold actW; rw [List.getElem?_eq_getElem hlt]; rfl
   rw [hin, this]; rfl
  generalize saysF t.acts acts act args = F at hF
  generalize hA : acts[act.toNat] = A at hF
  by_cases hlen : args.length = A.w.length
  ·rw [if_neg (by simpa using hlen)] at hF
   have kl : ((A.w.length : Int) != (args.length : Int)) = false := by simp [hlen]
   replace hF := Lib.hid hF
   replace hlen := Lib.hid hlen
   repeat' (first | (with_reducible first | refine zA ?_ | refine swp_block1 ?_ | refine swp_block2 ?_ | refine zK ?_) | ((with_reducible first | refine swp_reg ?_ | refine swp_regd (by rw [hP]; exact mixed) ?_); (try rw [hP]); simp -implicitDefEqProofs [*]) | ((with_reducible first | refine swp_skip ?_ | refine swp_exit ?_); (try simp -implicitDefEqProofs [*])) | ((with_reducible refine swp_ret ?_); (try simp only [qseq_r, qblock_r, qloop_r])) | ((with_reducible refine swp_cond rfl (fun h => ?_) (fun h => ?_)) <;> have h' := h <;> (try simp at h') <;> (try subst h')) | ((with_reducible refine sopsg_cases (fun h => ?_) (fun h => ?_)) <;> have h' := h <;> (try simp at h') <;> (try subst h') <;> simp -implicitDefEqProofs [*]) | ((with_reducible refine sopsk_rg ?_ ?_); (first | omega | (unfold maxLen; omega)); simp -implicitDefEqProofs [*]) | (refine call_q (hc _) ?_; simp -implicitDefEqProofs [*]) | (with_reducible first | refine zM hm ?_ | refine zN hm ?_ | refine zO hm ?_ | refine zP hm ?_) | fail)
   refine swp_block (swp_for (fun s (i : Nat) => s.turn [(8, .int .i64 i)] []) (fun i => i ≤ A.w.length ∧ F = if wideAny (args.drop i) (A.w.drop i) = true then 6 else 0) (fun i => A.w.length - i) 0 ?_ ⟨by simp, hF.out⟩ ?_)
   ·repeat' (first | ((with_reducible refine wk_self [] hm ?_ ?_ ?_ ?_) <;> (try simp only [zT, puth, Nat.reduceEqDiff, reduceIte, Nat.reduceAdd])) | (with_reducible first | refine za ?_ ?_ | refine zb ?_ ?_ ?_ ?_ | refine zc ?_ ?_ ?_ ?_ | refine zd ?_ ?_ ?_ ?_ | refine objsM_abs ?_ ?_ | refine subH_cons ?_ ?_) | (with_reducible first | exact slotsM_nil | exact objsM_nil | exact subH_nil | exact coL_nilm | exact Co.refl _ | exact CoL.refl _ | exact CoLL.refl _) | ((with_reducible first | refine zga ?_ | refine zgb ?_); rfl) | ((with_reducible refine zgc ?_); (first | (with_reducible rfl) | rfl | (simp; done))) | ((with_reducible first | refine zgd ?_ | refine zge ?_); (first | omega | (simp; done))) | (refine co_wrap ⟨?_, ?_⟩ ?_ <;> omega) | (exact Co.refl _) | (exact CoL.refl _) | (exact CoLL.refl _) | (refine co_own ?_; omega) | (refine co_int ?_; first | omega | (simp_all; done)) | (with_reducible first | refine coL_cons ?_ ?_ | refine coL_consm ?_ ?_) | fail)
   rintro J hJ i ⟨h1, h2⟩
   unfold c_rsays_l1
   simp only [zT, puth, Nat.reduceEqDiff, reduceIte, Nat.reduceAdd] at h1 h2 ⊢
   rcases Nat.lt_or_ge i A.w.length with hi2 | hi
   ·have hi : i < args.length := by have := hlen.out; omega
    rw [wideAny_drop hi hi2] at h2
    have hms := fun q => call_wide args[i] A.w[i] q
    generalize hw : A.w[i] = w at h2 hms
    generalize hx : args[i] = x at h2 hms
    have wi : IntKind.i64.wrap ((i : Int) + 1) = (i : Int) + 1 := i64_add_ (by have := hlen.out; omega) (by have := hlen.out; omega)
    cases hv : wideI x w <;> rw [hv] at h2 hms <;> replace h2 := Lib.hid h2
    ·repeat' (first | (with_reducible first | refine zA ?_ | refine swp_block1 ?_ | refine swp_block2 ?_ | refine zK ?_) | ((with_reducible first | refine swp_reg ?_ | refine swp_regd (by rw [hP]; exact mixed) ?_); (try rw [hP]); simp -implicitDefEqProofs [*]) | ((with_reducible first | refine swp_skip ?_ | refine swp_exit ?_); (try simp -implicitDefEqProofs [*])) | ((with_reducible refine swp_ret ?_); (try simp only [qseq_r, qblock_r, qloop_r])) | ((with_reducible refine swp_cond rfl (fun h => ?_) (fun h => ?_)) <;> have h' := h <;> (try simp at h') <;> (try subst h')) | ((with_reducible refine sopsg_cases (fun h => ?_) (fun h => ?_)) <;> have h' := h <;> (try simp at h') <;> (try subst h') <;> simp -implicitDefEqProofs [*]) | ((with_reducible refine sopsk_rg ?_ ?_); (first | omega | (unfold maxLen; omega)); simp -implicitDefEqProofs [*]) | (refine call_q (hms _) ?_; simp -implicitDefEqProofs [*]) | (with_reducible first | refine zM hm ?_ | refine zN hm ?_ | refine zO hm ?_ | refine zP hm ?_) | ((with_reducible refine wk_self [] hm ?_ ?_ ?_ ?_) <;> (try simp only [zT, puth, Nat.reduceEqDiff, reduceIte, Nat.reduceAdd])) | (with_reducible first | refine za ?_ ?_ | refine zb ?_ ?_ ?_ ?_ | refine zc ?_ ?_ ?_ ?_ | refine zd ?_ ?_ ?_ ?_ | refine objsM_abs ?_ ?_ | refine subH_cons ?_ ?_) | (with_reducible first | exact slotsM_nil | exact objsM_nil | exact subH_nil | exact coL_nilm | exact Co.refl _ | exact CoL.refl _ | exact CoLL.refl _) | ((with_reducible first | refine zga ?_ | refine zgb ?_); rfl) | ((with_reducible refine zgc ?_); (first | (with_reducible rfl) | rfl | (simp; done))) | ((with_reducible first | refine zgd ?_ | refine zge ?_); (first | omega | (simp; done))) | (refine co_wrap ⟨?_, ?_⟩ ?_ <;> omega) | (exact Co.refl _) | (exact CoL.refl _) | (exact CoLL.refl _) | (refine co_own ?_; omega) | (refine co_int ?_; first | omega | (simp_all; done)) | (with_reducible first | refine coL_cons ?_ ?_ | refine coL_consm ?_ ?_) | ((refine qfor_next hJ (i + 1) ?_ ?_ ?_; (with_reducible refine wk_self [] hm ?_ ?_ ?_ ?_) <;> (try simp only [zT, puth, Nat.reduceEqDiff, reduceIte, Nat.reduceAdd]))) | fail)
     exact ⟨by omega, by rw [h2.out, Bool.false_or]⟩
    ·repeat' (first | (with_reducible first | refine zA ?_ | refine swp_block1 ?_ | refine swp_block2 ?_ | refine zK ?_) | ((with_reducible first | refine swp_reg ?_ | refine swp_regd (by rw [hP]; exact mixed) ?_); (try rw [hP]); simp -implicitDefEqProofs [*]) | ((with_reducible first | refine swp_skip ?_ | refine swp_exit ?_); (try simp -implicitDefEqProofs [*])) | ((with_reducible refine swp_ret ?_); (try simp only [qseq_r, qblock_r, qloop_r])) | ((with_reducible refine swp_cond rfl (fun h => ?_) (fun h => ?_)) <;> have h' := h <;> (try simp at h') <;> (try subst h')) | ((with_reducible refine sopsg_cases (fun h => ?_) (fun h => ?_)) <;> have h' := h <;> (try simp at h') <;> (try subst h') <;> simp -implicitDefEqProofs [*]) | ((with_reducible refine sopsk_rg ?_ ?_); (first | omega | (unfold maxLen; omega)); simp -implicitDefEqProofs [*]) | (refine call_q (hms _) ?_; simp -implicitDefEqProofs [*]) | (with_reducible first | refine zM hm ?_ | refine zN hm ?_ | refine zO hm ?_ | refine zP hm ?_) | fail)
     rw [h2.out]; rfl
   ·obtain rfl : i = A.w.length := by omega
    rw [← hlen.out, List.drop_length] at h2
    replace h2 := Lib.hid h2
    repeat' (first | (with_reducible first | refine zA ?_ | refine swp_block1 ?_ | refine swp_block2 ?_ | refine zK ?_) | ((with_reducible first | refine swp_reg ?_ | refine swp_regd (by rw [hP]; exact mixed) ?_); (try rw [hP]); simp -implicitDefEqProofs [*]) | ((with_reducible first | refine swp_skip ?_ | refine swp_exit ?_); (try simp -implicitDefEqProofs [*])) | ((with_reducible refine swp_ret ?_); (try simp only [qseq_r, qblock_r, qloop_r])) | ((with_reducible refine swp_cond rfl (fun h => ?_) (fun h => ?_)) <;> have h' := h <;> (try simp at h') <;> (try subst h')) | ((with_reducible refine sopsg_cases (fun h => ?_) (fun h => ?_)) <;> have h' := h <;> (try simp at h') <;> (try subst h') <;> simp -implicitDefEqProofs [*]) | ((with_reducible refine sopsk_rg ?_ ?_); (first | omega | (unfold maxLen; omega)); simp -implicitDefEqProofs [*]) | (with_reducible first | refine zM hm ?_ | refine zN hm ?_ | refine zO hm ?_ | refine zP hm ?_) | fail)
    rw [h2.out]; rfl
  ·rw [if_pos (by simpa using hlen)] at hF
   have kl : ((A.w.length : Int) != (args.length : Int)) = true := by simp; omega
   replace hF := Lib.hid hF
   repeat' (first | (with_reducible first | refine zA ?_ | refine swp_block1 ?_ | refine swp_block2 ?_ | refine zK ?_) | ((with_reducible first | refine swp_reg ?_ | refine swp_regd (by rw [hP]; exact mixed) ?_); (try rw [hP]); simp -implicitDefEqProofs [*]) | ((with_reducible first | refine swp_skip ?_ | refine swp_exit ?_); (try simp -implicitDefEqProofs [*])) | ((with_reducible refine swp_ret ?_); (try simp only [qseq_r, qblock_r, qloop_r])) | ((with_reducible refine swp_cond rfl (fun h => ?_) (fun h => ?_)) <;> have h' := h <;> (try simp at h') <;> (try subst h')) | ((with_reducible refine sopsg_cases (fun h => ?_) (fun h => ?_)) <;> have h' := h <;> (try simp at h') <;> (try subst h') <;> simp -implicitDefEqProofs [*]) | ((with_reducible refine sopsk_rg ?_ ?_); (first | omega | (unfold maxLen; omega)); simp -implicitDefEqProofs [*]) | (refine call_q (hc _) ?_; simp -implicitDefEqProofs [*]) | (with_reducible first | refine zM hm ?_ | refine zN hm ?_ | refine zO hm ?_ | refine zP hm ?_) | fail)
   rw [hF.out]
set_option maxHeartbeats 4000000 in
theorem rtable_s (t : TabD) (ws : List Int) (acts : List ActD) (h1 : t.acts.length ≤ 1000000) (h2 : t.args.length ≤ 1000000) (h3 : ws.length ≤ 1000000) (h4 : acts.length ≤ 1000000) (q : Nat) : SCalls Try.prog 44 [.agg (tabc t), nums .i64 ws, .view 2 (acts.map actc)] [] q (.int .i64 (tableF t ws acts)) [] := by
 refine scalls_q ?_ (fun _ => rfl) (fun _ => rfl) rfl q
 refine scalls_of (N := 104) Try.func44 rfl rfl (by kernel_rfl) comp_c_rtable (by simp) (by repeat' (first | exact trivial | refine And.intro ?_ ?_ | rfl | decide)) (by repeat' (first | exact trivial | refine And.intro ?_ ?_ | rfl | decide)) ?_
 rintro X hP hN hm
 have hsays := fun (hr : ∀ k ∈ t.acts, 0 ≤ k ∧ k < acts.length) q => rsays_s t acts t.def_ t.args h1 h2 hr q
 replace hsays := Lib.hid hsays
 obtain ⟨n, hn⟩ : ∃ n, ws.length = n := ⟨_, rfl⟩
 obtain ⟨m, hma⟩ : ∃ m, t.acts.length = m := ⟨_, rfl⟩
 unfold c_rtable
 by_cases g1 : t.kind < 1 ∨ 3 < t.kind
 ·have hz : tableF t ws acts = 5 := by unfold tableF; rw [if_pos g1]
  rw [hz]
  replace g1 := Lib.hid g1
  repeat' (first | (with_reducible first | refine zA ?_ | refine swp_block1 ?_ | refine swp_block2 ?_ | refine zK ?_) | ((with_reducible first | refine swp_reg ?_ | refine swp_regd (by rw [hP]; exact mixed) ?_); (try rw [hP]); simp -implicitDefEqProofs [*]) | ((with_reducible first | refine swp_skip ?_ | refine swp_exit ?_); (try simp -implicitDefEqProofs [*])) | ((with_reducible refine swp_ret ?_); (try simp only [qseq_r, qblock_r, qloop_r])) | ((with_reducible refine swp_cond rfl (fun h => ?_) (fun h => ?_)) <;> have h' := h <;> (try simp at h') <;> (try subst h')) | ((with_reducible refine sopsg_cases (fun h => ?_) (fun h => ?_)) <;> have h' := h <;> (try simp at h') <;> (try subst h') <;> simp -implicitDefEqProofs [*]) | ((with_reducible refine sopsk_rg ?_ ?_); (first | omega | (unfold maxLen; omega)); simp -implicitDefEqProofs [*]) | (with_reducible first | refine zM hm ?_ | refine zN hm ?_ | refine zO hm ?_ | refine zP hm ?_) | fail)
  all_goals (first | rfl | (exfalso; have q1 := g1.out; omega))
 have g11 : decide (t.kind < 1) = false := by rw [decide_eq_false_iff_not]; omega
 have g12 : decide (3 < t.kind) = false := by rw [decide_eq_false_iff_not]; omega
 by_cases g2 : ws.length < 1 ∨ 3 < ws.length ∨ (t.kind = 2 ∧ 1 < ws.length) ∨ t.acts.length < 1 ∨ 4 < t.acts.length
 ·have hz : tableF t ws acts = 2 := by unfold tableF; rw [if_neg g1, if_pos g2]
  rw [hz]
  replace g1 := Lib.hid g1
  replace g2 := Lib.hid g2
  repeat' (first | (with_reducible first | refine zA ?_ | refine swp_block1 ?_ | refine swp_block2 ?_ | refine zK ?_) | ((with_reducible first | refine swp_reg ?_ | refine swp_regd (by rw [hP]; exact mixed) ?_); (try rw [hP]); simp -implicitDefEqProofs [*]) | ((with_reducible first | refine swp_skip ?_ | refine swp_exit ?_); (try simp -implicitDefEqProofs [*])) | ((with_reducible refine swp_ret ?_); (try simp only [qseq_r, qblock_r, qloop_r])) | ((with_reducible refine swp_cond rfl (fun h => ?_) (fun h => ?_)) <;> have h' := h <;> (try simp at h') <;> (try subst h')) | ((with_reducible refine sopsg_cases (fun h => ?_) (fun h => ?_)) <;> have h' := h <;> (try simp at h') <;> (try subst h') <;> simp -implicitDefEqProofs [*]) | ((with_reducible refine sopsk_rg ?_ ?_); (first | omega | (unfold maxLen; omega)); simp -implicitDefEqProofs [*]) | (with_reducible first | refine zM hm ?_ | refine zN hm ?_ | refine zO hm ?_ | refine zP hm ?_) | fail)
  all_goals (first | rfl | (exfalso; have q := g2.out; have q1 := g1.out; omega))
 by_cases g3 : t.cap < 0 ∨ 16 < t.cap
 ·have hz : tableF t ws acts = 1 := by unfold tableF; rw [if_neg g1, if_neg g2, if_pos g3]
  rw [hz]
  replace g1 := Lib.hid g1
  replace g2 := Lib.hid g2
  replace g3 := Lib.hid g3
  repeat' (first | (with_reducible first | refine zA ?_ | refine swp_block1 ?_ | refine swp_block2 ?_ | refine zK ?_) | ((with_reducible first | refine swp_reg ?_ | refine swp_regd (by rw [hP]; exact mixed) ?_); (try rw [hP]); simp -implicitDefEqProofs [*]) | ((with_reducible first | refine swp_skip ?_ | refine swp_exit ?_); (try simp -implicitDefEqProofs [*])) | ((with_reducible refine swp_ret ?_); (try simp only [qseq_r, qblock_r, qloop_r])) | ((with_reducible refine swp_cond rfl (fun h => ?_) (fun h => ?_)) <;> have h' := h <;> (try simp at h') <;> (try subst h')) | ((with_reducible refine sopsg_cases (fun h => ?_) (fun h => ?_)) <;> have h' := h <;> (try simp at h') <;> (try subst h') <;> simp -implicitDefEqProofs [*]) | ((with_reducible refine sopsk_rg ?_ ?_); (first | omega | (unfold maxLen; omega)); simp -implicitDefEqProofs [*]) | (with_reducible first | refine zM hm ?_ | refine zN hm ?_ | refine zO hm ?_ | refine zP hm ?_) | fail)
  all_goals (first | rfl | (exfalso; have q := g2.out; have q1 := g1.out; have q3 := g3.out; omega))
 have hF : tableF t ws acts = if (ws.drop 0).any wOut = true then 6 else if (t.acts.drop 0).any (aOut acts.length) = true then 1 else saysF t.acts acts t.def_ t.args := by
  unfold tableF; rw [if_neg g1, if_neg g2, if_neg g3]; rfl
 generalize tableF t ws acts = F at hF
 replace hF := Lib.hid hF
 have l0 : decide ((ws.length : Int) < 1) = false := by rw [decide_eq_false_iff_not]; omega
 have l3 : decide (3 < (ws.length : Int)) = false := by rw [decide_eq_false_iff_not]; omega
 have a0 : decide ((t.acts.length : Int) < 1) = false := by rw [decide_eq_false_iff_not]; omega
 have a4 : decide (4 < (t.acts.length : Int)) = false := by rw [decide_eq_false_iff_not]; omega
 have q0 : decide (t.cap < 0) = false := by rw [decide_eq_false_iff_not]; omega
 have q16 : decide (16 < t.cap) = false := by rw [decide_eq_false_iff_not]; omega
 have hks : (t.kind == 2) = false ∨ ((t.kind == 2) = true ∧ decide (1 < (ws.length : Int)) = false) := by
  by_cases e2 : t.kind = 2
  ·right; refine ⟨by simpa using e2, ?_⟩
   rw [decide_eq_false_iff_not]; omega
  ·left; simpa using e2
 clear g1 g2 g3 hn hma n m
 rcases hks with k1 | ⟨k1, k2⟩
 all_goals
  repeat' (first | (with_reducible first | refine zA ?_ | refine swp_block1 ?_ | refine swp_block2 ?_ | refine zK ?_) | ((with_reducible first | refine swp_reg ?_ | refine swp_regd (by rw [hP]; exact mixed) ?_); (try rw [hP]); simp -implicitDefEqProofs [*]) | ((with_reducible first | refine swp_skip ?_ | refine swp_exit ?_); (try simp -implicitDefEqProofs [*])) | ((with_reducible refine swp_ret ?_); (try simp only [qseq_r, qblock_r, qloop_r])) | ((with_reducible refine swp_cond rfl (fun h => ?_) (fun h => ?_)) <;> have h' := h <;> (try simp at h') <;> (try subst h')) | ((with_reducible refine sopsg_cases (fun h => ?_) (fun h => ?_)) <;> have h' := h <;> (try simp at h') <;> (try subst h') <;> simp -implicitDefEqProofs [*]) | ((with_reducible refine sopsk_rg ?_ ?_); (first | omega | (unfold maxLen; omega)); simp -implicitDefEqProofs [*]) | (with_reducible first | refine zM hm ?_ | refine zN hm ?_ | refine zO hm ?_ | refine zP hm ?_) | fail)
  clear k1 a0 a4 q0 q16 l0 l3
  refine swp_block (swp_for (fun s (i : Nat) => s.turn [(7, .int .i64 i)] []) (fun i => i ≤ ws.length ∧ F = if (ws.drop i).any wOut = true then 6 else if (t.acts.drop 0).any (aOut acts.length) = true then 1 else saysF t.acts acts t.def_ t.args) (fun i => ws.length - i) 0 ?_ ⟨by simp, hF.out⟩ ?_)
  ·repeat' (first | ((with_reducible refine wk_self [] hm ?_ ?_ ?_ ?_) <;> (try simp only [zT, puth, Nat.reduceEqDiff, reduceIte, Nat.reduceAdd])) | (with_reducible first | refine za ?_ ?_ | refine zb ?_ ?_ ?_ ?_ | refine zc ?_ ?_ ?_ ?_ | refine zd ?_ ?_ ?_ ?_ | refine objsM_abs ?_ ?_ | refine subH_cons ?_ ?_) | (with_reducible first | exact slotsM_nil | exact objsM_nil | exact subH_nil | exact coL_nilm | exact Co.refl _ | exact CoL.refl _ | exact CoLL.refl _) | ((with_reducible first | refine zga ?_ | refine zgb ?_); rfl) | ((with_reducible refine zgc ?_); (first | (with_reducible rfl) | rfl | (simp; done))) | ((with_reducible first | refine zgd ?_ | refine zge ?_); (first | omega | (simp; done))) | (refine co_wrap ⟨?_, ?_⟩ ?_ <;> omega) | (exact Co.refl _) | (exact CoL.refl _) | (exact CoLL.refl _) | (refine co_own ?_; omega) | (refine co_int ?_; first | omega | (simp_all; done)) | (with_reducible first | refine coL_cons ?_ ?_ | refine coL_consm ?_ ?_) | fail)
  rintro J hJ i ⟨h5, h6⟩
  unfold c_rtable_l1
  simp only [zT, puth, Nat.reduceEqDiff, reduceIte, Nat.reduceAdd] at h5 h6 ⊢
  rcases Nat.lt_or_ge i ws.length with hi | hi
  ·rw [any_drop _ hi] at h6
   generalize hxx : ws[i] = x at h6
   have wi : IntKind.i64.wrap ((i : Int) + 1) = (i : Int) + 1 := i64_add_ (by omega) (by omega)
   replace h6 := Lib.hid h6
   cases hv : wOut x
   ·have hv1 : decide (x < 1) = false ∧ decide (48 < x) = false := by simpa [wOut] using hv
    obtain ⟨v1, v2⟩ := hv1
    repeat' (first | (with_reducible first | refine zA ?_ | refine swp_block1 ?_ | refine swp_block2 ?_ | refine zK ?_) | ((with_reducible first | refine swp_reg ?_ | refine swp_regd (by rw [hP]; exact mixed) ?_); (try rw [hP]); simp -implicitDefEqProofs [*]) | ((with_reducible first | refine swp_skip ?_ | refine swp_exit ?_); (try simp -implicitDefEqProofs [*])) | ((with_reducible refine swp_ret ?_); (try simp only [qseq_r, qblock_r, qloop_r])) | ((with_reducible refine swp_cond rfl (fun h => ?_) (fun h => ?_)) <;> have h' := h <;> (try simp at h') <;> (try subst h')) | ((with_reducible refine sopsg_cases (fun h => ?_) (fun h => ?_)) <;> have h' := h <;> (try simp at h') <;> (try subst h') <;> simp -implicitDefEqProofs [*]) | ((with_reducible refine sopsk_rg ?_ ?_); (first | omega | (unfold maxLen; omega)); simp -implicitDefEqProofs [*]) | (with_reducible first | refine zM hm ?_ | refine zN hm ?_ | refine zO hm ?_ | refine zP hm ?_) | ((with_reducible refine wk_self [] hm ?_ ?_ ?_ ?_) <;> (try simp only [zT, puth, Nat.reduceEqDiff, reduceIte, Nat.reduceAdd])) | (with_reducible first | refine za ?_ ?_ | refine zb ?_ ?_ ?_ ?_ | refine zc ?_ ?_ ?_ ?_ | refine zd ?_ ?_ ?_ ?_ | refine objsM_abs ?_ ?_ | refine subH_cons ?_ ?_) | (with_reducible first | exact slotsM_nil | exact objsM_nil | exact subH_nil | exact coL_nilm | exact Co.refl _ | exact CoL.refl _ | exact CoLL.refl _) | ((with_reducible first | refine zga ?_ | refine zgb ?_); rfl) | ((with_reducible refine zgc ?_); (first | (with_reducible rfl) | rfl | (simp; done))) | ((with_reducible first | refine zgd ?_ | refine zge ?_); (first | omega | (simp; done))) | (refine co_wrap ⟨?_, ?_⟩ ?_ <;> omega) | (exact Co.refl _) | (exact CoL.refl _) | (exact CoLL.refl _) | (refine co_own ?_; omega) | (refine co_int ?_; first | omega | (simp_all; done)) | (with_reducible first | refine coL_cons ?_ ?_ | refine coL_consm ?_ ?_) | ((refine qfor_next hJ (i + 1) ?_ ?_ ?_; (with_reducible refine wk_self [] hm ?_ ?_ ?_ ?_) <;> (try simp only [zT, puth, Nat.reduceEqDiff, reduceIte, Nat.reduceAdd]))) | fail)
    exact ⟨by omega, by rw [h6.out, hv, Bool.false_or]⟩
   ·replace hv := Lib.hid hv
    repeat' (first | (with_reducible first | refine zA ?_ | refine swp_block1 ?_ | refine swp_block2 ?_ | refine zK ?_) | ((with_reducible first | refine swp_reg ?_ | refine swp_regd (by rw [hP]; exact mixed) ?_); (try rw [hP]); simp -implicitDefEqProofs [*]) | ((with_reducible first | refine swp_skip ?_ | refine swp_exit ?_); (try simp -implicitDefEqProofs [*])) | ((with_reducible refine swp_ret ?_); (try simp only [qseq_r, qblock_r, qloop_r])) | ((with_reducible refine swp_cond rfl (fun h => ?_) (fun h => ?_)) <;> have h' := h <;> (try simp at h') <;> (try subst h')) | ((with_reducible refine sopsg_cases (fun h => ?_) (fun h => ?_)) <;> have h' := h <;> (try simp at h') <;> (try subst h') <;> simp -implicitDefEqProofs [*]) | ((with_reducible refine sopsk_rg ?_ ?_); (first | omega | (unfold maxLen; omega)); simp -implicitDefEqProofs [*]) | (with_reducible first | refine zM hm ?_ | refine zN hm ?_ | refine zO hm ?_ | refine zP hm ?_) | ((with_reducible refine wk_self [] hm ?_ ?_ ?_ ?_) <;> (try simp only [zT, puth, Nat.reduceEqDiff, reduceIte, Nat.reduceAdd])) | (with_reducible first | refine za ?_ ?_ | refine zb ?_ ?_ ?_ ?_ | refine zc ?_ ?_ ?_ ?_ | refine zd ?_ ?_ ?_ ?_ | refine objsM_abs ?_ ?_ | refine subH_cons ?_ ?_) | (with_reducible first | exact slotsM_nil | exact objsM_nil | exact subH_nil | exact coL_nilm | exact Co.refl _ | exact CoL.refl _ | exact CoLL.refl _) | ((with_reducible first | refine zga ?_ | refine zgb ?_); rfl) | ((with_reducible refine zgc ?_); (first | (with_reducible rfl) | rfl | (simp; done))) | ((with_reducible first | refine zgd ?_ | refine zge ?_); (first | omega | (simp; done))) | (refine co_wrap ⟨?_, ?_⟩ ?_ <;> omega) | (exact Co.refl _) | (exact CoL.refl _) | (exact CoLL.refl _) | (refine co_own ?_; omega) | (refine co_int ?_; first | omega | (simp_all; done)) | (with_reducible first | refine coL_cons ?_ ?_ | refine coL_consm ?_ ?_) | ((refine qfor_next hJ (i + 1) ?_ ?_ ?_; (with_reducible refine wk_self [] hm ?_ ?_ ?_ ?_) <;> (try simp only [zT, puth, Nat.reduceEqDiff, reduceIte, Nat.reduceAdd]))) | fail)
    all_goals (first | (exfalso; have q := hv.out; simp only [wOut, Bool.or_eq_true, decide_eq_true_eq] at q; omega) | (rw [h6.out, hv.out]; rfl))
  ·obtain rfl : i = ws.length := by omega
   have h7 : F = if (t.acts.drop 0).any (aOut acts.length) = true then 1 else saysF t.acts acts t.def_ t.args := by rw [h6, List.drop_length]; rfl
   replace h7 := Lib.hid h7
   replace h6 := Lib.hid h6
   repeat' (first | (with_reducible first | refine zA ?_ | refine swp_block1 ?_ | refine swp_block2 ?_ | refine zK ?_) | ((with_reducible first | refine swp_reg ?_ | refine swp_regd (by rw [hP]; exact mixed) ?_); (try rw [hP]); simp -implicitDefEqProofs [*]) | ((with_reducible first | refine swp_skip ?_ | refine swp_exit ?_); (try simp -implicitDefEqProofs [*])) | ((with_reducible refine swp_ret ?_); (try simp only [qseq_r, qblock_r, qloop_r])) | ((with_reducible refine swp_cond rfl (fun h => ?_) (fun h => ?_)) <;> have h' := h <;> (try simp at h') <;> (try subst h')) | ((with_reducible refine sopsg_cases (fun h => ?_) (fun h => ?_)) <;> have h' := h <;> (try simp at h') <;> (try subst h') <;> simp -implicitDefEqProofs [*]) | ((with_reducible refine sopsk_rg ?_ ?_); (first | omega | (unfold maxLen; omega)); simp -implicitDefEqProofs [*]) | (with_reducible first | refine zM hm ?_ | refine zN hm ?_ | refine zO hm ?_ | refine zP hm ?_) | fail)
   refine swp_block (swp_for (fun s (i : Nat) => s.turn [(8, .int .i64 i)] []) (fun i => i ≤ t.acts.length ∧ (∀ k ∈ t.acts.take i, aOut acts.length k = false) ∧ F = if (t.acts.drop i).any (aOut acts.length) = true then 1 else saysF t.acts acts t.def_ t.args) (fun i => t.acts.length - i) 0 ?_ ⟨by simp, by simp, h7.out⟩ ?_)
   ·repeat' (first | ((with_reducible refine wk_self [] hm ?_ ?_ ?_ ?_) <;> (try simp only [zT, puth, Nat.reduceEqDiff, reduceIte, Nat.reduceAdd])) | (with_reducible first | refine za ?_ ?_ | refine zb ?_ ?_ ?_ ?_ | refine zc ?_ ?_ ?_ ?_ | refine zd ?_ ?_ ?_ ?_ | refine objsM_abs ?_ ?_ | refine subH_cons ?_ ?_) | (with_reducible first | exact slotsM_nil | exact objsM_nil | exact subH_nil | exact coL_nilm | exact Co.refl _ | exact CoL.refl _ | exact CoLL.refl _) | ((with_reducible first | refine zga ?_ | refine zgb ?_); rfl) | ((with_reducible refine zgc ?_); (first | (with_reducible rfl) | rfl | (simp; done))) | ((with_reducible first | refine zgd ?_ | refine zge ?_); (first | omega | (simp; done))) | (refine co_wrap ⟨?_, ?_⟩ ?_ <;> omega) | (exact Co.refl _) | (exact CoL.refl _) | (exact CoLL.refl _) | (refine co_own ?_; omega) | (refine co_int ?_; first | omega | (simp_all; done)) | (with_reducible first | refine coL_cons ?_ ?_ | refine coL_consm ?_ ?_) | fail)
   rintro J hJ i ⟨h8, h9, h10⟩
   unfold c_rtable_l2
   simp only [zT, puth, Nat.reduceEqDiff, reduceIte, Nat.reduceAdd] at h8 h9 h10 ⊢
   replace h9 := Lib.hid h9
   rcases Nat.lt_or_ge i t.acts.length with hi | hi
   ·rw [any_drop _ hi] at h10
    have htk : t.acts.take (i + 1) = t.acts.take i ++ [t.acts[i]] := List.take_succ_eq_append_getElem hi
    generalize hxx : t.acts[i] = x at h10 htk
    have wi : IntKind.i64.wrap ((i : Int) + 1) = (i : Int) + 1 := i64_add_ (by omega) (by omega)
    replace h10 := Lib.hid h10
    replace htk := Lib.hid htk
    cases hv : aOut acts.length x
    ·have hv1 : decide (x < 0) = false ∧ decide ((acts.length : Int) ≤ x) = false := by simpa [aOut] using hv
     obtain ⟨v1, v2⟩ := hv1
     replace hv := Lib.hid hv
     repeat' (first | (with_reducible first | refine zA ?_ | refine swp_block1 ?_ | refine swp_block2 ?_ | refine zK ?_) | ((with_reducible first | refine swp_reg ?_ | refine swp_regd (by rw [hP]; exact mixed) ?_); (try rw [hP]); simp -implicitDefEqProofs [*]) | ((with_reducible first | refine swp_skip ?_ | refine swp_exit ?_); (try simp -implicitDefEqProofs [*])) | ((with_reducible refine swp_ret ?_); (try simp only [qseq_r, qblock_r, qloop_r])) | ((with_reducible refine swp_cond rfl (fun h => ?_) (fun h => ?_)) <;> have h' := h <;> (try simp at h') <;> (try subst h')) | ((with_reducible refine sopsg_cases (fun h => ?_) (fun h => ?_)) <;> have h' := h <;> (try simp at h') <;> (try subst h') <;> simp -implicitDefEqProofs [*]) | ((with_reducible refine sopsk_rg ?_ ?_); (first | omega | (unfold maxLen; omega)); simp -implicitDefEqProofs [*]) | (with_reducible first | refine zM hm ?_ | refine zN hm ?_ | refine zO hm ?_ | refine zP hm ?_) | ((with_reducible refine wk_self [] hm ?_ ?_ ?_ ?_) <;> (try simp only [zT, puth, Nat.reduceEqDiff, reduceIte, Nat.reduceAdd])) | (with_reducible first | refine za ?_ ?_ | refine zb ?_ ?_ ?_ ?_ | refine zc ?_ ?_ ?_ ?_ | refine zd ?_ ?_ ?_ ?_ | refine objsM_abs ?_ ?_ | refine subH_cons ?_ ?_) | (with_reducible first | exact slotsM_nil | exact objsM_nil | exact subH_nil | exact coL_nilm | exact Co.refl _ | exact CoL.refl _ | exact CoLL.refl _) | ((with_reducible first | refine zga ?_ | refine zgb ?_); rfl) | ((with_reducible refine zgc ?_); (first | (with_reducible rfl) | rfl | (simp; done))) | ((with_reducible first | refine zgd ?_ | refine zge ?_); (first | omega | (simp; done))) | (refine co_wrap ⟨?_, ?_⟩ ?_ <;> omega) | (exact Co.refl _) | (exact CoL.refl _) | (exact CoLL.refl _) | (refine co_own ?_; omega) | (refine co_int ?_; first | omega | (simp_all; done)) | (with_reducible first | refine coL_cons ?_ ?_ | refine coL_consm ?_ ?_) | ((refine qfor_next hJ (i + 1) ?_ ?_ ?_; (with_reducible refine wk_self [] hm ?_ ?_ ?_ ?_) <;> (try simp only [zT, puth, Nat.reduceEqDiff, reduceIte, Nat.reduceAdd]))) | fail)
     refine ⟨by omega, fun k hk => ?_, by rw [h10.out, hv.out, Bool.false_or]⟩
     rw [htk.out, List.mem_append] at hk
     rcases hk with hk | hk
     ·exact h9.out k hk
     ·rw [List.mem_singleton.1 hk]; exact hv.out
    ·replace hv := Lib.hid hv
     repeat' (first | (with_reducible first | refine zA ?_ | refine swp_block1 ?_ | refine swp_block2 ?_ | refine zK ?_) | ((with_reducible first | refine swp_reg ?_ | refine swp_regd (by rw [hP]; exact mixed) ?_); (try rw [hP]); simp -implicitDefEqProofs [*]) | ((with_reducible first | refine swp_skip ?_ | refine swp_exit ?_); (try simp -implicitDefEqProofs [*])) | ((with_reducible refine swp_ret ?_); (try simp only [qseq_r, qblock_r, qloop_r])) | ((with_reducible refine swp_cond rfl (fun h => ?_) (fun h => ?_)) <;> have h' := h <;> (try simp at h') <;> (try subst h')) | ((with_reducible refine sopsg_cases (fun h => ?_) (fun h => ?_)) <;> have h' := h <;> (try simp at h') <;> (try subst h') <;> simp -implicitDefEqProofs [*]) | ((with_reducible refine sopsk_rg ?_ ?_); (first | omega | (unfold maxLen; omega)); simp -implicitDefEqProofs [*]) | (with_reducible first | refine zM hm ?_ | refine zN hm ?_ | refine zO hm ?_ | refine zP hm ?_) | ((with_reducible refine wk_self [] hm ?_ ?_ ?_ ?_) <;> (try simp only [zT, puth, Nat.reduceEqDiff, reduceIte, Nat.reduceAdd])) | (with_reducible first | refine za ?_ ?_ | refine zb ?_ ?_ ?_ ?_ | refine zc ?_ ?_ ?_ ?_ | refine zd ?_ ?_ ?_ ?_ | refine objsM_abs ?_ ?_ | refine subH_cons ?_ ?_) | (with_reducible first | exact slotsM_nil | exact objsM_nil | exact subH_nil | exact coL_nilm | exact Co.refl _ | exact CoL.refl _ | exact CoLL.refl _) | ((with_reducible first | refine zga ?_ | refine zgb ?_); rfl) | ((with_reducible refine zgc ?_); (first | (with_reducible rfl) | rfl | (simp; done))) | ((with_reducible first | refine zgd ?_ | refine zge ?_); (first | omega | (simp; done))) | (refine co_wrap ⟨?_, ?_⟩ ?_ <;> omega) | (exact Co.refl _) | (exact CoL.refl _) | (exact CoLL.refl _) | (refine co_own ?_; omega) | (refine co_int ?_; first | omega | (simp_all; done)) | (with_reducible first | refine coL_cons ?_ ?_ | refine coL_consm ?_ ?_) | ((refine qfor_next hJ (i + 1) ?_ ?_ ?_; (with_reducible refine wk_self [] hm ?_ ?_ ?_ ?_) <;> (try simp only [zT, puth, Nat.reduceEqDiff, reduceIte, Nat.reduceAdd]))) | fail)
     all_goals (first | (exfalso; have q := hv.out; simp only [aOut, Bool.or_eq_true, decide_eq_true_eq] at q; omega) | (rw [h10.out, hv.out]; rfl))
   ·obtain rfl : i = t.acts.length := by omega
    have h11 : ∀ k ∈ t.acts, 0 ≤ k ∧ k < acts.length := fun k hk => by
     have := h9.out k (by rw [List.take_length]; exact hk)
     unfold aOut at this; rw [Bool.or_eq_false_iff, decide_eq_false_iff_not, decide_eq_false_iff_not] at this; omega
    have h12 : F = saysF t.acts acts t.def_ t.args := by rw [h10, List.drop_length]; rfl
    have hs := hsays.out h11
    replace hs := Lib.hid hs
    replace h11 := Lib.hid h11
    replace h10 := Lib.hid h10
    replace h12 := Lib.hid h12
    repeat' (first | (with_reducible first | refine zA ?_ | refine swp_block1 ?_ | refine swp_block2 ?_ | refine zK ?_) | ((with_reducible first | refine swp_reg ?_ | refine swp_regd (by rw [hP]; exact mixed) ?_); (try rw [hP]); simp -implicitDefEqProofs [*]) | ((with_reducible first | refine swp_skip ?_ | refine swp_exit ?_); (try simp -implicitDefEqProofs [*])) | ((with_reducible refine swp_ret ?_); (try simp only [qseq_r, qblock_r, qloop_r])) | ((with_reducible refine swp_cond rfl (fun h => ?_) (fun h => ?_)) <;> have h' := h <;> (try simp at h') <;> (try subst h')) | ((with_reducible refine sopsg_cases (fun h => ?_) (fun h => ?_)) <;> have h' := h <;> (try simp at h') <;> (try subst h') <;> simp -implicitDefEqProofs [*]) | ((with_reducible refine sopsk_rg ?_ ?_); (first | omega | (unfold maxLen; omega)); simp -implicitDefEqProofs [*]) | (refine call_q (hs.out _) ?_; simp -implicitDefEqProofs [*]) | (with_reducible first | refine zM hm ?_ | refine zN hm ?_ | refine zO hm ?_ | refine zP hm ?_) | fail)
    rw [h12.out]
end Go.Proofs.Ytnfjldobjgdiaaa
namespace Go.Proofs.Ytnfjldobjgdiaaa
set_option linter.all false
open Go.RowKit
attribute [local simp] sops_nil sops_run sopsk_some sops_call sops_guard sopsg_yes sopsg_tf sopsg_ft sopsg_undef rg_true SOp.run SX.ev putd puts argS upds SOp.touch SSt.keep SSt.skip gets geth puth delh idOf SV.cells? setL fillS fillR sbin eq0 eq1 eqL rowOf qseq_n qseq_e qseq_r qblock_n qblock_r qblock_e qloop_e qloop_r take_map_len FrzOk pureV_int pureV_bool pureV_str pureV_nil pureV_nilsl pureV_view pureV_cp pureL_nil_ pureL_cons_ pureO_row pureO_cells frzS frzH frz frz1 frz0 SlotsM ObjsM ObjM rn ren ren1 ren0 co_self co_int co_own co_view co_nilsl co_agg co_tup CoL coll_self mergeH dels adds idsH okNames
attribute [local simp] headc refc pushc casec statec opc actc tabc nodec planc nums jc
theorem call_widths (p : PlanD) (t : TabD) (hl : t.keys.length ≤ 1000000) (q : Nat) : SCalls Try.prog 12 [.agg (planc p), .agg (tabc t)] [] q (nums .i64 (widthsOf p t)) [] := scalls_q (widths_s p t hl) (fun _ => rfl) (fun _ => rfl) rfl q
theorem jtabs_s (p : PlanD) (hs : SmallP p) (a b : Int) (ha : a = 0 → AW p.acts) : SCalls Try.prog 35 [.ptr 0 0] [(0, .cells 78 (jc p a b))] 1 (.tup []) [(0, .cells 78 (jc p (orF (a, b) (tabsF p)).1 (orF (a, b) (tabsF p)).2))] := by
 refine scalls_of (N := 76) Try.func35 rfl rfl (by kernel_rfl) comp_c_jtabs (by simp) (by repeat' (first | exact trivial | refine And.intro ?_ ?_ | rfl | decide)) (by repeat' (first | exact trivial | refine And.intro ?_ ?_ | rfl | decide)) ?_
 rintro X hP hN hm
 have hF : orF (a, b) (tabsF p) = orF (failF a b (decide (5 < (p.tabs.length : Int))) 2 (-5)) (rowF (fun _ t => tabF p t) 5000 0 p.tabs) := by
  unfold tabsF; rw [many_step]; congr 3; exact propext (by omega)
 generalize orF (a, b) (tabsF p) = F at hF
 replace hF := Lib.hid hF
 have hla := hs.tabs
 have hE : (failF a b (decide (5 < (p.tabs.length : Int))) 2 (-5)).1 = 0 → AW p.acts := fun h => ha (by
  unfold failF at h; by_cases h0 : a = 0
  ·exact h0
  ·rw [if_neg (fun hh => h0 hh.2)] at h; exact h)
 replace hE := Lib.hid hE
 replace ha := Lib.hid ha
 unfold c_jtabs
 repeat' (first | (with_reducible first | refine zA ?_ | refine swp_block1 ?_ | refine swp_block2 ?_ | refine zK ?_) | ((with_reducible first | refine swp_reg ?_ | refine swp_regd (by rw [hP]; exact mixed) ?_); (try rw [hP]); simp -implicitDefEqProofs [*]) | ((with_reducible first | refine swp_skip ?_ | refine swp_exit ?_); (try simp -implicitDefEqProofs [*])) | ((with_reducible refine swp_ret ?_); (try simp only [qseq_r, qblock_r, qloop_r])) | ((with_reducible refine swp_cond rfl (fun h => ?_) (fun h => ?_)) <;> have h' := h <;> (try simp at h') <;> (try subst h')) | ((with_reducible refine sopsg_cases (fun h => ?_) (fun h => ?_)) <;> have h' := h <;> (try simp at h') <;> (try subst h') <;> simp -implicitDefEqProofs [*]) | ((with_reducible refine sopsk_rg ?_ ?_); (first | omega | (unfold maxLen; omega)); simp -implicitDefEqProofs [*]) | (refine call_h (call_jfail p _ _ _ _ _ _ _ (by simp)) ⟨rfl, trivial⟩ ⟨rfl, trivial⟩ ?_; simp -implicitDefEqProofs [*]) | (with_reducible first | refine zM hm ?_ | refine zN hm ?_ | refine zO hm ?_ | refine zP hm ?_) | fail)
 refine swp_block (swp_for (fun s (x : Nat × Int × Int) => s.turn [(2, .int .i64 x.1)] [(0, .cells 78 (jc p x.2.1 x.2.2))]) (fun x => x.1 ≤ p.tabs.length ∧ (x.2.1 = 0 → AW p.acts) ∧ F = orF (x.2.1, x.2.2) (rowF (fun _ t => tabF p t) 5000 x.1 (p.tabs.drop x.1))) (fun x => p.tabs.length - x.1) (0, _, _) ?_ ⟨by simp, hE.out, hF⟩ ?_)
 ·repeat' (first | ((with_reducible refine wk_self [] hm ?_ ?_ ?_ ?_) <;> (try simp only [zT, puth, Nat.reduceEqDiff, reduceIte, Nat.reduceAdd])) | (with_reducible first | refine za ?_ ?_ | refine zb ?_ ?_ ?_ ?_ | refine zc ?_ ?_ ?_ ?_ | refine zd ?_ ?_ ?_ ?_ | refine objsM_abs ?_ ?_ | refine subH_cons ?_ ?_) | (with_reducible first | exact slotsM_nil | exact objsM_nil | exact subH_nil | exact coL_nilm | exact Co.refl _ | exact CoL.refl _ | exact CoLL.refl _) | ((with_reducible first | refine zga ?_ | refine zgb ?_); rfl) | ((with_reducible refine zgc ?_); (first | (with_reducible rfl) | rfl | (simp; done))) | ((with_reducible first | refine zgd ?_ | refine zge ?_); (first | omega | (simp; done))) | (refine co_wrap ⟨?_, ?_⟩ ?_ <;> omega) | (exact Co.refl _) | (exact CoL.refl _) | (exact CoLL.refl _) | (refine co_own ?_; omega) | (refine co_int ?_; first | omega | (simp_all; done)) | (with_reducible first | refine coL_cons ?_ ?_ | refine coL_consm ?_ ?_) | fail)
 rintro J hJ ⟨i, e, g⟩ ⟨h1, h0, h2⟩
 unfold c_jtabs_l1
 simp only [zT, puth, Nat.reduceEqDiff, reduceIte, Nat.reduceAdd] at h1 h0 h2 ⊢
 rcases Nat.lt_or_ge i p.tabs.length with hi | hi
 ·have hxm : p.tabs[i] ∈ p.tabs := List.getElem_mem hi
  have hw := hs.keys _ hxm
  rw [rowF_drop _ _ hi] at h2
  generalize hxx : p.tabs[i] = x at h2 hw
  by_cases he : e = 0
  ·subst he
   rw [row_step] at h2
   have wi : IntKind.i64.wrap ((i : Int) + 1) = (i : Int) + 1 := i64_add_ (by omega) (by omega)
   have wa : IntKind.i64.wrap (5000 + (i : Int)) = 5000 + (i : Int) := i64_add_ (by omega) (by omega)
   have hAW := h0 rfl
   have hlw : (widthsOf p x).length ≤ 1000000 := by unfold widthsOf; rw [List.length_map]; omega
   have hla2 := hs.acts
   have hc1 := fun q => tcheck_s x (widthsOf p x) p.acts hAW (by omega) (by omega) hlw (by omega) q
   have hc2 := fun q => contains_s (widthsOf p x) 0 hlw q
   have hc3 := fun q => call_widths p x (by omega) q
   have hA : orF (0, g) (tabF p x, 5000 + (i : Int)) = orF (failF (failF 0 g (decide (3 < (x.keys.length : Int))) 2 (5000 + i)).1 (failF 0 g (decide (3 < (x.keys.length : Int))) 2 (5000 + i)).2 ((widthsOf p x).contains 0) 1 (5000 + i)) (tableF x (widthsOf p x) p.acts, 5000 + (i : Int)) := by
    have : tabF p x = if decide (3 < (x.keys.length : Int)) = true then 2 else if (widthsOf p x).contains 0 = true then 1 else tableF x (widthsOf p x) p.acts := by
     unfold tabF; simp only [decide_eq_true_eq]; congr 1; exact propext (by omega)
    rw [this, fail_step _ _ _ _ _ _ (by decide)]
    exact fail_step _ _ _ _ _ _ (by decide)
   generalize orF (0, g) (tabF p x, 5000 + (i : Int)) = A at hA h2
   generalize tableF x (widthsOf p x) p.acts = T at hA hc1
   generalize (widthsOf p x).contains 0 = C at hA hc2
   generalize widthsOf p x = W at hc1 hc2 hc3
   rw [← then_or] at hA
   have kT : (T != 0) = decide (T ≠ 0) := by rw [Bool.eq_iff_iff]; simp
   unfold thenF at hA
   rw [← kT] at hA
   replace hAW := Lib.hid hAW
   replace h0 := Lib.hid h0
   replace hA := Lib.hid hA
   replace h2 := Lib.hid h2
   replace hc1 := Lib.hid hc1
   replace hc2 := Lib.hid hc2
   replace hc3 := Lib.hid hc3
   clear kT
   repeat' (first | (with_reducible first | refine zA ?_ | refine swp_block1 ?_ | refine swp_block2 ?_ | refine zK ?_) | ((with_reducible first | refine swp_reg ?_ | refine swp_regd (by rw [hP]; exact mixed) ?_); (try rw [hP]); simp -implicitDefEqProofs [*]) | ((with_reducible first | refine swp_skip ?_ | refine swp_exit ?_); (try simp -implicitDefEqProofs [*])) | ((with_reducible refine swp_ret ?_); (try simp only [qseq_r, qblock_r, qloop_r])) | ((with_reducible refine swp_cond rfl (fun h => ?_) (fun h => ?_)) <;> have h' := h <;> (try simp at h') <;> (try subst h')) | ((with_reducible refine sopsg_cases (fun h => ?_) (fun h => ?_)) <;> have h' := h <;> (try simp at h') <;> (try subst h') <;> simp -implicitDefEqProofs [*]) | ((with_reducible refine sopsk_rg ?_ ?_); (first | omega | (unfold maxLen; omega)); simp -implicitDefEqProofs [*]) | ((first | refine call_h (call_jfail p _ _ _ _ _ _ _ (by simp)) ⟨rfl, trivial⟩ ⟨rfl, trivial⟩ ?_ | refine call_q (hc1.out _) ?_ | refine call_q (hc2.out _) ?_ | refine call_q (hc3.out _) ?_); simp -implicitDefEqProofs [*]) | (with_reducible first | refine zM hm ?_ | refine zN hm ?_ | refine zO hm ?_ | refine zP hm ?_) | ((with_reducible refine wk_self [] hm ?_ ?_ ?_ ?_) <;> (try simp only [zT, puth, Nat.reduceEqDiff, reduceIte, Nat.reduceAdd])) | (with_reducible first | refine za ?_ ?_ | refine zb ?_ ?_ ?_ ?_ | refine zc ?_ ?_ ?_ ?_ | refine zd ?_ ?_ ?_ ?_ | refine objsM_abs ?_ ?_ | refine subH_cons ?_ ?_) | (with_reducible first | exact slotsM_nil | exact objsM_nil | exact subH_nil | exact coL_nilm | exact Co.refl _ | exact CoL.refl _ | exact CoLL.refl _) | ((with_reducible first | refine zga ?_ | refine zgb ?_); rfl) | ((with_reducible refine zgc ?_); (first | (with_reducible rfl) | rfl | (simp; done))) | ((with_reducible first | refine zgd ?_ | refine zge ?_); (first | omega | (simp; done))) | (refine co_wrap ⟨?_, ?_⟩ ?_ <;> omega) | (exact Co.refl _) | (exact CoL.refl _) | (exact CoLL.refl _) | (refine co_own ?_; omega) | (refine co_int ?_; first | omega | (simp_all; done)) | (with_reducible first | refine coL_cons ?_ ?_ | refine coL_consm ?_ ?_) | ((refine qfor_next hJ (i + 1, ?_, ?_) ?_ ?_ ?_; rotate_left 2; (with_reducible refine wk_self [] hm ?_ ?_ ?_ ?_) <;> (try simp only [zT, puth, Nat.reduceEqDiff, reduceIte, Nat.reduceAdd]))) | fail)
   all_goals (try dsimp only)
   all_goals (refine ⟨by omega, fun _ => hAW.out, ?_⟩; rw [h2.out]; congr 1; try exact hA.out)
  ·have ke : (e == 0) = false := by simpa using he
   replace h2 := Lib.hid h2
   replace h0 := Lib.hid h0
   repeat' (first | (with_reducible first | refine zA ?_ | refine swp_block1 ?_ | refine swp_block2 ?_ | refine zK ?_) | ((with_reducible first | refine swp_reg ?_ | refine swp_regd (by rw [hP]; exact mixed) ?_); (try rw [hP]); simp -implicitDefEqProofs [*]) | ((with_reducible first | refine swp_skip ?_ | refine swp_exit ?_); (try simp -implicitDefEqProofs [*])) | ((with_reducible refine swp_ret ?_); (try simp only [qseq_r, qblock_r, qloop_r])) | ((with_reducible refine swp_cond rfl (fun h => ?_) (fun h => ?_)) <;> have h' := h <;> (try simp at h') <;> (try subst h')) | ((with_reducible refine sopsg_cases (fun h => ?_) (fun h => ?_)) <;> have h' := h <;> (try simp at h') <;> (try subst h') <;> simp -implicitDefEqProofs [*]) | ((with_reducible refine sopsk_rg ?_ ?_); (first | omega | (unfold maxLen; omega)); simp -implicitDefEqProofs [*]) | (with_reducible first | refine zM hm ?_ | refine zN hm ?_ | refine zO hm ?_ | refine zP hm ?_) | (refine fin_voidn hm rfl ?_ (fun σ => rfl)) | fail)
   rw [h2.out, orF_pos he]
 ·obtain rfl : i = p.tabs.length := by omega
  rw [List.drop_length] at h2
  replace h2 := Lib.hid h2
  replace h0 := Lib.hid h0
  repeat' (first | (with_reducible first | refine zA ?_ | refine swp_block1 ?_ | refine swp_block2 ?_ | refine zK ?_) | ((with_reducible first | refine swp_reg ?_ | refine swp_regd (by rw [hP]; exact mixed) ?_); (try rw [hP]); simp -implicitDefEqProofs [*]) | ((with_reducible first | refine swp_skip ?_ | refine swp_exit ?_); (try simp -implicitDefEqProofs [*])) | ((with_reducible refine swp_ret ?_); (try simp only [qseq_r, qblock_r, qloop_r])) | ((with_reducible refine swp_cond rfl (fun h => ?_) (fun h => ?_)) <;> have h' := h <;> (try simp at h') <;> (try subst h')) | ((with_reducible refine sopsg_cases (fun h => ?_) (fun h => ?_)) <;> have h' := h <;> (try simp at h') <;> (try subst h') <;> simp -implicitDefEqProofs [*]) | ((with_reducible refine sopsk_rg ?_ ?_); (first | omega | (unfold maxLen; omega)); simp -implicitDefEqProofs [*]) | (with_reducible first | refine zM hm ?_ | refine zN hm ?_ | refine zO hm ?_ | refine zP hm ?_) | (refine fin_voidn hm rfl ?_ (fun σ => rfl)) | fail)
  rw [h2.out, orF_none _ rfl]
end Go.Proofs.Ytnfjldobjgdiaaa
