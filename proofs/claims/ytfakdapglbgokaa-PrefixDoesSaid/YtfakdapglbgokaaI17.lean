/-
  Texts joined: XTabB XTabC XTabO XOpen XTStep XTabD XTabE XCpfx XShV. No condition.
-/
import Derived.Deep.Slices
import Derived.Handy
import Derived.Test.YtfakdapglbgokaaProg
import Derived.Test.YtfakdapglbgokaaI16
import Derived.Test.YtfakdapglbgokaaI2
import Derived.Test.YtfakdapglbgokaaI6
import Derived.Test.YtfakdapglbgokaaI14
/-
  References on entries of tables, in the plain machine: OwnEntry, SameNums. No condition.
-/
namespace Go.Proofs.Ytfakdapglbgokaa
set_option linter.all false
open Go.RowKit

theorem ownE_s (e : Entry) (h : Small e) : SCalls Try.prog 76 [.agg (ecells e)] [] 0 (.agg (ecells e)) [] := by
  refine scalls_of (N := 5) Try.func76 rfl rfl (by kernel_rfl) comp_c_ownE (by simp) ⟨rfl, trivial⟩ trivial ?_
  rintro X hP hN hm
  unfold c_ownE
  refine swp_seq (swp_reg ?_)
  simp -implicitDefEqProofs [c_ownE_r1, sops_nil, sops_run, sopsk_some, sops_call, sops_guard, sopsg_yes, sopsg_tf, sopsg_ft, sopsg_undef, rg_true, SOp.run, SX.ev, putd, puts, argS, upds, SOp.touch, SSt.keep, SSt.skip, gets, geth, puth, delh, idOf, SV.cells?, setL, fillS, fillR, sbin, eq0, eq1, eqL, rowOf, qseq_n, qseq_e, qseq_r, qblock_n, qblock_r, qblock_e, qloop_e, qloop_r]
  refine swp_seq (swp_reg ?_)
  rw [hP]
  simp -implicitDefEqProofs [c_ownE_r2, sops_nil, sops_run, sopsk_some, sops_call, sops_guard, sopsg_yes, sopsg_tf, sopsg_ft, sopsg_undef, rg_true, SOp.run, SX.ev, putd, puts, argS, upds, SOp.touch, SSt.keep, SSt.skip, gets, geth, puth, delh, idOf, SV.cells?, setL, fillS, fillR, sbin, eq0, eq1, eqL, rowOf, qseq_n, qseq_e, qseq_r, qblock_n, qblock_r, qblock_e, qloop_e, qloop_r, ecells, nums]
  refine call_q (scalls_q (own_s e h) (fun σ => rfl) (fun σ => rfl) rfl _) ?_
  simp -implicitDefEqProofs [sops_nil, sops_run, sopsk_some, sops_call, sops_guard, sopsg_yes, sopsg_tf, sopsg_ft, sopsg_undef, rg_true, SOp.run, SX.ev, putd, puts, argS, upds, SOp.touch, SSt.keep, SSt.skip, gets, geth, puth, delh, idOf, SV.cells?, setL, fillS, fillR, sbin, eq0, eq1, eqL, rowOf, qseq_n, qseq_e, qseq_r, qblock_n, qblock_r, qblock_e, qloop_e, qloop_r, ecells, nums]
  refine swp_ret (qfun_done (s' := ⟨[(2, .ptr 0 0)], [(0, .cells 30 (ecells e))], 1⟩) (wk_list [(0, 1)] hm rfl (Nat.zero_le _) (by simp -implicitDefEqProofs [take_map_len, FrzOk, pureV_int, pureV_bool, pureV_str, pureV_nil, pureV_nilsl, pureV_view, pureV_cp, pureL_nil_, pureL_cons_, pureO_row, pureO_cells, frzS, frzH, frz, frz1, frz0, SlotsM, ObjsM, ObjM, rn, ren, ren1, ren0, gets, geth, co_self, co_int, co_own, co_view, co_nilsl, co_agg, co_tup, CoL, coll_self]) (by simp -implicitDefEqProofs [take_map_len, FrzOk, pureV_int, pureV_bool, pureV_str, pureV_nil, pureV_nilsl, pureV_view, pureV_cp, pureL_nil_, pureL_cons_, pureO_row, pureO_cells, frzS, frzH, frz, frz1, frz0, SlotsM, ObjsM, ObjM, rn, ren, ren1, ren0, gets, geth, co_self, co_int, co_own, co_view, co_nilsl, co_agg, co_tup, CoL, coll_self, ecells, nums])) ?_ trivial (by simp))
  simp -implicitDefEqProofs [hP, resOf, resL, resV, agg_entry, size_entry, one_, ecells, nums, sops_nil, sops_run, sopsk_some, sops_call, sops_guard, sopsg_yes, sopsg_tf, sopsg_ft, sopsg_undef, rg_true, SOp.run, SX.ev, putd, puts, argS, upds, SOp.touch, SSt.keep, SSt.skip, gets, geth, puth, delh, idOf, SV.cells?, setL, fillS, fillR, sbin, eq0, eq1, eqL, rowOf, qseq_n, qseq_e, qseq_r, qblock_n, qblock_r, qblock_e, qloop_e, qloop_r]
theorem snums_s (xs ys : List Int) (hx : xs.length ≤ 1000000) : SCalls Try.prog 61 [nums .u64 xs, nums .u64 ys] [] 0 (.bool (decide (xs = ys))) [] := by
  refine scalls_of (N := 26) Try.func61 rfl rfl (by kernel_rfl) comp_c_snums (by simp) ⟨rfl, rfl, trivial⟩ trivial ?_
  rintro X hP hN hm
  unfold c_snums nums
  refine swp_seq (swp_reg ?_)
  simp -implicitDefEqProofs [c_snums_r1, sops_nil, sops_run, sopsk_some, sops_call, sops_guard, sopsg_yes, sopsg_tf, sopsg_ft, sopsg_undef, rg_true, SOp.run, SX.ev, putd, puts, argS, upds, SOp.touch, SSt.keep, SSt.skip, gets, geth, puth, delh, idOf, SV.cells?, setL, fillS, fillR, sbin, eq0, eq1, eqL, rowOf, qseq_n, qseq_e, qseq_r, qblock_n, qblock_r, qblock_e, qloop_e, qloop_r]
  refine swp_seq (swp_seq (swp_reg ?_))
  simp -implicitDefEqProofs [c_snums_r2, sops_nil, sops_run, sopsk_some, sops_call, sops_guard, sopsg_yes, sopsg_tf, sopsg_ft, sopsg_undef, rg_true, SOp.run, SX.ev, putd, puts, argS, upds, SOp.touch, SSt.keep, SSt.skip, gets, geth, puth, delh, idOf, SV.cells?, setL, fillS, fillR, sbin, eq0, eq1, eqL, rowOf, qseq_n, qseq_e, qseq_r, qblock_n, qblock_r, qblock_e, qloop_e, qloop_r]
  refine swp_cond rfl (fun h => ?_) (fun h => ?_)
  · refine swp_seq (swp_reg ?_)
    simp -implicitDefEqProofs [c_snums_r3, sops_nil, sops_run, sopsk_some, sops_call, sops_guard, sopsg_yes, sopsg_tf, sopsg_ft, sopsg_undef, rg_true, SOp.run, SX.ev, putd, puts, argS, upds, SOp.touch, SSt.keep, SSt.skip, gets, geth, puth, delh, idOf, SV.cells?, setL, fillS, fillR, sbin, eq0, eq1, eqL, rowOf, qseq_n, qseq_e, qseq_r, qblock_n, qblock_r, qblock_e, qloop_e, qloop_r]
    refine swp_ret (qfun_done (s' := ⟨[(4, .bool (decide (xs = ys)))], [], 0⟩) (wk_list [] hm rfl (Nat.le_refl _) ?_ trivial) rfl trivial (by simp))
    have hne : xs ≠ ys := fun e => by subst e; simp at h
    simp -implicitDefEqProofs [take_map_len, FrzOk, pureV_int, pureV_bool, pureV_str, pureV_nil, pureV_nilsl, pureV_view, pureV_cp, pureL_nil_, pureL_cons_, pureO_row, pureO_cells, frzS, frzH, frz, frz1, frz0, SlotsM, ObjsM, ObjM, rn, ren, ren1, ren0, gets, geth, co_self, co_int, co_own, co_view, co_nilsl, co_agg, co_tup, CoL, coll_self, hne]
  · have hl : xs.length = ys.length := by simp at h; omega
    refine swp_skip ?_
    simp -implicitDefEqProofs [sops_nil, sops_run, sopsk_some, sops_call, sops_guard, sopsg_yes, sopsg_tf, sopsg_ft, sopsg_undef, rg_true, SOp.run, SX.ev, putd, puts, argS, upds, SOp.touch, SSt.keep, SSt.skip, gets, geth, puth, delh, idOf, SV.cells?, setL, fillS, fillR, sbin, eq0, eq1, eqL, rowOf, qseq_n, qseq_e, qseq_r, qblock_n, qblock_r, qblock_e, qloop_e, qloop_r]
    refine swp_seq (swp_seq (swp_reg ?_))
    simp -implicitDefEqProofs [c_snums_r4, sops_nil, sops_run, sopsk_some, sops_call, sops_guard, sopsg_yes, sopsg_tf, sopsg_ft, sopsg_undef, rg_true, SOp.run, SX.ev, putd, puts, argS, upds, SOp.touch, SSt.keep, SSt.skip, gets, geth, puth, delh, idOf, SV.cells?, setL, fillS, fillR, sbin, eq0, eq1, eqL, rowOf, qseq_n, qseq_e, qseq_r, qblock_n, qblock_r, qblock_e, qloop_e, qloop_r]
    refine swp_block (swp_loop (fun s n => ∃ i : Nat, s = ⟨[(0, nums .u64 xs), (1, nums .u64 ys), (5, .int .i64 i)], [], 0⟩ ∧ i ≤ xs.length ∧ xs.take i = ys.take i ∧ n = xs.length - i) (wk_list [] hm rfl (Nat.le_refl _) (by simp -implicitDefEqProofs [take_map_len, FrzOk, pureV_int, pureV_bool, pureV_str, pureV_nil, pureV_nilsl, pureV_view, pureV_cp, pureL_nil_, pureL_cons_, pureO_row, pureO_cells, frzS, frzH, frz, frz1, frz0, SlotsM, ObjsM, ObjM, rn, ren, ren1, ren0, gets, geth, co_self, co_int, co_own, co_view, co_nilsl, co_agg, co_tup, CoL, coll_self, nums]) (by trivial)) ⟨0, rfl, by omega, rfl, rfl⟩ ?_)
    rintro s n ⟨i, rfl, h1, h2, rfl⟩
    unfold c_snums_l1
    refine swp_seq (swp_seq (swp_reg ?_))
    simp -implicitDefEqProofs [c_snums_r5, sops_nil, sops_run, sopsk_some, sops_call, sops_guard, sopsg_yes, sopsg_tf, sopsg_ft, sopsg_undef, rg_true, SOp.run, SX.ev, putd, puts, argS, upds, SOp.touch, SSt.keep, SSt.skip, gets, geth, puth, delh, idOf, SV.cells?, setL, fillS, fillR, sbin, eq0, eq1, eqL, rowOf, qseq_n, qseq_e, qseq_r, qblock_n, qblock_r, qblock_e, qloop_e, qloop_r, nums]
    refine swp_cond rfl (fun h3 => swp_skip ?_) (fun h3 => swp_exit ?_)
    · have hi : i < xs.length := by simpa using h3
      simp -implicitDefEqProofs [sops_nil, sops_run, sopsk_some, sops_call, sops_guard, sopsg_yes, sopsg_tf, sopsg_ft, sopsg_undef, rg_true, SOp.run, SX.ev, putd, puts, argS, upds, SOp.touch, SSt.keep, SSt.skip, gets, geth, puth, delh, idOf, SV.cells?, setL, fillS, fillR, sbin, eq0, eq1, eqL, rowOf, qseq_n, qseq_e, qseq_r, qblock_n, qblock_r, qblock_e, qloop_e, qloop_r]
      refine swp_seq (swp_block (swp_seq (swp_regd (by rw [hP]; exact mixed) ?_)))
      have hi2 : i < ys.length := by omega
      simp -implicitDefEqProofs [c_snums_r6, sops_nil, sops_run, sopsk_some, sops_call, sops_guard, sopsg_yes, sopsg_tf, sopsg_ft, sopsg_undef, rg_true, SOp.run, SX.ev, putd, puts, argS, upds, SOp.touch, SSt.keep, SSt.skip, gets, geth, puth, delh, idOf, SV.cells?, setL, fillS, fillR, sbin, eq0, eq1, eqL, rowOf, qseq_n, qseq_e, qseq_r, qblock_n, qblock_r, qblock_e, qloop_e, qloop_r, hi, hi2]
      refine ⟨rfl, swp_cond rfl (fun h4 => ?_) (fun h4 => ?_)⟩
      · refine swp_seq (swp_reg ?_)
        simp -implicitDefEqProofs [c_snums_r7, sops_nil, sops_run, sopsk_some, sops_call, sops_guard, sopsg_yes, sopsg_tf, sopsg_ft, sopsg_undef, rg_true, SOp.run, SX.ev, putd, puts, argS, upds, SOp.touch, SSt.keep, SSt.skip, gets, geth, puth, delh, idOf, SV.cells?, setL, fillS, fillR, sbin, eq0, eq1, eqL, rowOf, qseq_n, qseq_e, qseq_r, qblock_n, qblock_r, qblock_e, qloop_e, qloop_r]
        refine swp_ret ?_
        refine (qfun_done (s' := ⟨[(4, .bool (decide (xs = ys)))], [], 0⟩) (wk_list [] hm rfl (Nat.le_refl _) ?_ trivial) rfl trivial (by simp))
        have hne : xs ≠ ys := fun e => by subst e; simp at h4
        simp -implicitDefEqProofs [take_map_len, FrzOk, pureV_int, pureV_bool, pureV_str, pureV_nil, pureV_nilsl, pureV_view, pureV_cp, pureL_nil_, pureL_cons_, pureO_row, pureO_cells, frzS, frzH, frz, frz1, frz0, SlotsM, ObjsM, ObjM, rn, ren, ren1, ren0, gets, geth, co_self, co_int, co_own, co_view, co_nilsl, co_agg, co_tup, CoL, coll_self, hne]
      · refine swp_skip ?_
        simp -implicitDefEqProofs [sops_nil, sops_run, sopsk_some, sops_call, sops_guard, sopsg_yes, sopsg_tf, sopsg_ft, sopsg_undef, rg_true, SOp.run, SX.ev, putd, puts, argS, upds, SOp.touch, SSt.keep, SSt.skip, gets, geth, puth, delh, idOf, SV.cells?, setL, fillS, fillR, sbin, eq0, eq1, eqL, rowOf, qseq_n, qseq_e, qseq_r, qblock_n, qblock_r, qblock_e, qloop_e, qloop_r]
        refine swp_reg ?_
        simp -implicitDefEqProofs [c_snums_r8, sops_nil, sops_run, sopsk_some, sops_call, sops_guard, sopsg_yes, sopsg_tf, sopsg_ft, sopsg_undef, rg_true, SOp.run, SX.ev, putd, puts, argS, upds, SOp.touch, SSt.keep, SSt.skip, gets, geth, puth, delh, idOf, SV.cells?, setL, fillS, fillR, sbin, eq0, eq1, eqL, rowOf, qseq_n, qseq_e, qseq_r, qblock_n, qblock_r, qblock_e, qloop_e, qloop_r]
        rw [i64_add_ (by omega) (by omega)]
        have h5 : xs[i] = ys[i] := by simpa using h4
        refine qloop_next (wk_list [] hm rfl (Nat.le_refl _) (by simp -implicitDefEqProofs [take_map_len, FrzOk, pureV_int, pureV_bool, pureV_str, pureV_nil, pureV_nilsl, pureV_view, pureV_cp, pureL_nil_, pureL_cons_, pureO_row, pureO_cells, frzS, frzH, frz, frz1, frz0, SlotsM, ObjsM, ObjM, rn, ren, ren1, ren0, gets, geth, co_self, co_int, co_own, co_view, co_nilsl, co_agg, co_tup, CoL, coll_self, nums]) (by trivial)) ⟨i + 1, rfl, by omega, ?_, rfl⟩ (by omega)
        rw [List.take_succ_eq_append_getElem hi, List.take_succ_eq_append_getElem hi2, h2, h5]
    · have hi : i = xs.length := by have : ¬ i < xs.length := by simpa using h3
                                    omega
      have he : xs = ys := by
        have e1 := h2
        rw [hi, List.take_length, hl, List.take_length] at e1; exact e1
      simp -implicitDefEqProofs [sops_nil, sops_run, sopsk_some, sops_call, sops_guard, sopsg_yes, sopsg_tf, sopsg_ft, sopsg_undef, rg_true, SOp.run, SX.ev, putd, puts, argS, upds, SOp.touch, SSt.keep, SSt.skip, gets, geth, puth, delh, idOf, SV.cells?, setL, fillS, fillR, sbin, eq0, eq1, eqL, rowOf, qseq_n, qseq_e, qseq_r, qblock_n, qblock_r, qblock_e, qloop_e, qloop_r]
      refine swp_seq (swp_reg ?_)
      simp -implicitDefEqProofs [c_snums_r9, sops_nil, sops_run, sopsk_some, sops_call, sops_guard, sopsg_yes, sopsg_tf, sopsg_ft, sopsg_undef, rg_true, SOp.run, SX.ev, putd, puts, argS, upds, SOp.touch, SSt.keep, SSt.skip, gets, geth, puth, delh, idOf, SV.cells?, setL, fillS, fillR, sbin, eq0, eq1, eqL, rowOf, qseq_n, qseq_e, qseq_r, qblock_n, qblock_r, qblock_e, qloop_e, qloop_r]
      refine swp_ret ?_
      refine (qfun_done (s' := ⟨[(4, .bool (decide (xs = ys)))], [], 0⟩) (wk_list [] hm rfl (Nat.le_refl _) ?_ trivial) rfl trivial (by simp))
      simp -implicitDefEqProofs [take_map_len, FrzOk, pureV_int, pureV_bool, pureV_str, pureV_nil, pureV_nilsl, pureV_view, pureV_cp, pureL_nil_, pureL_cons_, pureO_row, pureO_cells, frzS, frzH, frz, frz1, frz0, SlotsM, ObjsM, ObjM, rn, ren, ren1, ren0, gets, geth, co_self, co_int, co_own, co_view, co_nilsl, co_agg, co_tup, CoL, coll_self, he]
end Go.Proofs.Ytfakdapglbgokaa

/-
  References on entries of tables, in the plain machine: SameEntry, SameEntries, SameHit. No condition.
-/
namespace Go.Proofs.Ytfakdapglbgokaa
set_option linter.all false
open Go.RowKit

def sameE (a b : Entry) : Bool := decide (a.keys = b.keys) && (decide (a.masks = b.masks) && (a.len == b.len && (a.prio == b.prio && (a.act == b.act && decide (a.args = b.args)))))
theorem call_snums (xs ys : List Int) (hx : xs.length ≤ 1000000) (q : Nat) : SCalls Try.prog 61 [.view 1 (xs.map fun x => [.int .u64 x]), .view 1 (ys.map fun x => [.int .u64 x])] [] q (.bool (decide (xs = ys))) [] :=
  scalls_q (snums_s xs ys hx) (fun σ => rfl) (fun σ => rfl) rfl q
theorem sent_s (a b : Entry) (h : Small a) : SCalls Try.prog 79 [.agg (ecells a), .agg (ecells b)] [] 0 (.bool (sameE a b)) [] := by
  obtain ⟨h1, h2, h3⟩ := h
  refine scalls_of (N := 45) Try.func79 rfl rfl (by kernel_rfl) comp_c_sent (by simp) ⟨rfl, rfl, trivial⟩ trivial ?_
  rintro X hP hN hm
  have fin : ∀ (r : Bool) hp nx, sameE a b = r → SWp X .ret (QFun X (Try.f79).results.toList 0 (.bool (sameE a b)) []) ⟨[(4, .bool r)], hp, nx⟩ := fun r hp nx hr => by
    rw [hr]
    exact swp_ret (qfun_done (s' := ⟨[(4, .bool r)], [], 0⟩) (wk_list [] hm rfl (Nat.le_refl _) (by simp -implicitDefEqProofs [take_map_len, FrzOk, pureV_int, pureV_bool, pureV_str, pureV_nil, pureV_nilsl, pureV_view, pureV_cp, pureL_nil_, pureL_cons_, pureO_row, pureO_cells, frzS, frzH, frz, frz1, frz0, SlotsM, ObjsM, ObjM, rn, ren, ren1, ren0, gets, geth, co_self, co_int, co_own, co_view, co_nilsl, co_agg, co_tup, CoL, coll_self]) trivial) rfl trivial (by simp))
  unfold c_sent
  refine swp_seq (swp_reg ?_)
  simp -implicitDefEqProofs [c_sent_r1, sops_nil, sops_run, sopsk_some, sops_call, sops_guard, sopsg_yes, sopsg_tf, sopsg_ft, sopsg_undef, rg_true, SOp.run, SX.ev, putd, puts, argS, upds, SOp.touch, SSt.keep, SSt.skip, gets, geth, puth, delh, idOf, SV.cells?, setL, fillS, fillR, sbin, eq0, eq1, eqL, rowOf, qseq_n, qseq_e, qseq_r, qblock_n, qblock_r, qblock_e, qloop_e, qloop_r, ecells, nums]
  refine swp_seq (swp_reg ?_)
  rw [hP]
  simp -implicitDefEqProofs [c_sent_r2, sops_nil, sops_run, sopsk_some, sops_call, sops_guard, sopsg_yes, sopsg_tf, sopsg_ft, sopsg_undef, rg_true, SOp.run, SX.ev, putd, puts, argS, upds, SOp.touch, SSt.keep, SSt.skip, gets, geth, puth, delh, idOf, SV.cells?, setL, fillS, fillR, sbin, eq0, eq1, eqL, rowOf, qseq_n, qseq_e, qseq_r, qblock_n, qblock_r, qblock_e, qloop_e, qloop_r]
  refine call_q (call_snums _ _ h1 _) ?_
  cases k1 : decide (a.keys = b.keys)
  · simp -implicitDefEqProofs [sops_nil, sops_run, sopsk_some, sops_call, sops_guard, sopsg_yes, sopsg_tf, sopsg_ft, sopsg_undef, rg_true, SOp.run, SX.ev, putd, puts, argS, upds, SOp.touch, SSt.keep, SSt.skip, gets, geth, puth, delh, idOf, SV.cells?, setL, fillS, fillR, sbin, eq0, eq1, eqL, rowOf, qseq_n, qseq_e, qseq_r, qblock_n, qblock_r, qblock_e, qloop_e, qloop_r, k1]
    exact fin _ _ _ (by simp only [sameE, k1, Bool.false_and])
  simp -implicitDefEqProofs [sops_nil, sops_run, sopsk_some, sops_call, sops_guard, sopsg_yes, sopsg_tf, sopsg_ft, sopsg_undef, rg_true, SOp.run, SX.ev, putd, puts, argS, upds, SOp.touch, SSt.keep, SSt.skip, gets, geth, puth, delh, idOf, SV.cells?, setL, fillS, fillR, sbin, eq0, eq1, eqL, rowOf, qseq_n, qseq_e, qseq_r, qblock_n, qblock_r, qblock_e, qloop_e, qloop_r, k1]
  refine call_q (call_snums _ _ h2 _) ?_
  cases k2 : decide (a.masks = b.masks)
  · simp -implicitDefEqProofs [sops_nil, sops_run, sopsk_some, sops_call, sops_guard, sopsg_yes, sopsg_tf, sopsg_ft, sopsg_undef, rg_true, SOp.run, SX.ev, putd, puts, argS, upds, SOp.touch, SSt.keep, SSt.skip, gets, geth, puth, delh, idOf, SV.cells?, setL, fillS, fillR, sbin, eq0, eq1, eqL, rowOf, qseq_n, qseq_e, qseq_r, qblock_n, qblock_r, qblock_e, qloop_e, qloop_r, k2]
    exact fin _ _ _ (by simp only [sameE, k1, k2, Bool.false_and, Bool.true_and])
  simp -implicitDefEqProofs [sops_nil, sops_run, sopsk_some, sops_call, sops_guard, sopsg_yes, sopsg_tf, sopsg_ft, sopsg_undef, rg_true, SOp.run, SX.ev, putd, puts, argS, upds, SOp.touch, SSt.keep, SSt.skip, gets, geth, puth, delh, idOf, SV.cells?, setL, fillS, fillR, sbin, eq0, eq1, eqL, rowOf, qseq_n, qseq_e, qseq_r, qblock_n, qblock_r, qblock_e, qloop_e, qloop_r, k2]
  cases k3 : a.len == b.len
  · simp -implicitDefEqProofs [sops_nil, sops_run, sopsk_some, sops_call, sops_guard, sopsg_yes, sopsg_tf, sopsg_ft, sopsg_undef, rg_true, SOp.run, SX.ev, putd, puts, argS, upds, SOp.touch, SSt.keep, SSt.skip, gets, geth, puth, delh, idOf, SV.cells?, setL, fillS, fillR, sbin, eq0, eq1, eqL, rowOf, qseq_n, qseq_e, qseq_r, qblock_n, qblock_r, qblock_e, qloop_e, qloop_r]
    exact fin _ _ _ (by simp only [sameE, k1, k2, k3, Bool.false_and, Bool.true_and])
  simp -implicitDefEqProofs [sops_nil, sops_run, sopsk_some, sops_call, sops_guard, sopsg_yes, sopsg_tf, sopsg_ft, sopsg_undef, rg_true, SOp.run, SX.ev, putd, puts, argS, upds, SOp.touch, SSt.keep, SSt.skip, gets, geth, puth, delh, idOf, SV.cells?, setL, fillS, fillR, sbin, eq0, eq1, eqL, rowOf, qseq_n, qseq_e, qseq_r, qblock_n, qblock_r, qblock_e, qloop_e, qloop_r]
  cases k4 : a.prio == b.prio
  · simp -implicitDefEqProofs [sops_nil, sops_run, sopsk_some, sops_call, sops_guard, sopsg_yes, sopsg_tf, sopsg_ft, sopsg_undef, rg_true, SOp.run, SX.ev, putd, puts, argS, upds, SOp.touch, SSt.keep, SSt.skip, gets, geth, puth, delh, idOf, SV.cells?, setL, fillS, fillR, sbin, eq0, eq1, eqL, rowOf, qseq_n, qseq_e, qseq_r, qblock_n, qblock_r, qblock_e, qloop_e, qloop_r]
    exact fin _ _ _ (by simp only [sameE, k1, k2, k3, k4, Bool.false_and, Bool.true_and])
  simp -implicitDefEqProofs [sops_nil, sops_run, sopsk_some, sops_call, sops_guard, sopsg_yes, sopsg_tf, sopsg_ft, sopsg_undef, rg_true, SOp.run, SX.ev, putd, puts, argS, upds, SOp.touch, SSt.keep, SSt.skip, gets, geth, puth, delh, idOf, SV.cells?, setL, fillS, fillR, sbin, eq0, eq1, eqL, rowOf, qseq_n, qseq_e, qseq_r, qblock_n, qblock_r, qblock_e, qloop_e, qloop_r]
  cases k5 : a.act == b.act
  · simp -implicitDefEqProofs [sops_nil, sops_run, sopsk_some, sops_call, sops_guard, sopsg_yes, sopsg_tf, sopsg_ft, sopsg_undef, rg_true, SOp.run, SX.ev, putd, puts, argS, upds, SOp.touch, SSt.keep, SSt.skip, gets, geth, puth, delh, idOf, SV.cells?, setL, fillS, fillR, sbin, eq0, eq1, eqL, rowOf, qseq_n, qseq_e, qseq_r, qblock_n, qblock_r, qblock_e, qloop_e, qloop_r]
    exact fin _ _ _ (by simp only [sameE, k1, k2, k3, k4, k5, Bool.false_and, Bool.true_and])
  simp -implicitDefEqProofs [sops_nil, sops_run, sopsk_some, sops_call, sops_guard, sopsg_yes, sopsg_tf, sopsg_ft, sopsg_undef, rg_true, SOp.run, SX.ev, putd, puts, argS, upds, SOp.touch, SSt.keep, SSt.skip, gets, geth, puth, delh, idOf, SV.cells?, setL, fillS, fillR, sbin, eq0, eq1, eqL, rowOf, qseq_n, qseq_e, qseq_r, qblock_n, qblock_r, qblock_e, qloop_e, qloop_r]
  refine call_q (call_snums _ _ h3 _) ?_
  simp -implicitDefEqProofs [sops_nil, sops_run, sopsk_some, sops_call, sops_guard, sopsg_yes, sopsg_tf, sopsg_ft, sopsg_undef, rg_true, SOp.run, SX.ev, putd, puts, argS, upds, SOp.touch, SSt.keep, SSt.skip, gets, geth, puth, delh, idOf, SV.cells?, setL, fillS, fillR, sbin, eq0, eq1, eqL, rowOf, qseq_n, qseq_e, qseq_r, qblock_n, qblock_r, qblock_e, qloop_e, qloop_r]
  exact fin _ _ _ (by simp only [sameE, k1, k2, k3, k4, k5, Bool.true_and])
end Go.Proofs.Ytfakdapglbgokaa

/-
  References: Ones, in the plain machine. No condition.
-/
namespace Go.Proofs.Ytfakdapglbgokaa
set_option linter.all false
open Go.RowKit

theorem pow_i (i : Nat) (h : i < 64) : (2 : Int) ^ i ≤ 9223372036854775808 ∧ (0 : Int) < 2 ^ i := by
  have h1 : 2 ^ i ≤ 2 ^ 63 := Nat.pow_le_pow_right (by omega) (by omega)
  have h2 : 0 < 2 ^ i := Nat.two_pow_pos i
  have e : ((2 : Int) ^ i) = ((2 ^ i : Nat) : Int) := by simp
  rw [e]; omega
theorem ones_s (k : Int) : SCalls Try.prog 22 [.int .i64 k] [] 0 (.int .u64 (if k ≤ 64 then 2 ^ k.toNat - 1 else 0)) [] := by
  refine scalls_of (N := 18) Try.func22 rfl rfl (by kernel_rfl) comp_c_ones (by simp) ⟨rfl, trivial⟩ trivial ?_
  rintro X hP hN hm
  unfold c_ones
  refine swp_seq (swp_reg ?_)
  simp -implicitDefEqProofs [c_ones_r1, sops_nil, sops_run, sopsk_some, sops_call, sops_guard, sopsg_yes, sopsg_tf, sopsg_ft, sopsg_undef, rg_true, SOp.run, SX.ev, putd, puts, argS, upds, SOp.touch, SSt.keep, SSt.skip, gets, geth, puth, delh, idOf, SV.cells?, setL, fillS, fillR, sbin, eq0, eq1, eqL, rowOf, qseq_n, qseq_e, qseq_r, qblock_n, qblock_r, qblock_e, qloop_e, qloop_r]
  refine swp_seq (swp_reg ?_)
  simp -implicitDefEqProofs [c_ones_r2, sops_nil, sops_run, sopsk_some, sops_call, sops_guard, sopsg_yes, sopsg_tf, sopsg_ft, sopsg_undef, rg_true, SOp.run, SX.ev, putd, puts, argS, upds, SOp.touch, SSt.keep, SSt.skip, gets, geth, puth, delh, idOf, SV.cells?, setL, fillS, fillR, sbin, eq0, eq1, eqL, rowOf, qseq_n, qseq_e, qseq_r, qblock_n, qblock_r, qblock_e, qloop_e, qloop_r]
  refine swp_seq (swp_seq (swp_reg ?_))
  simp -implicitDefEqProofs [c_ones_r3, sops_nil, sops_run, sopsk_some, sops_call, sops_guard, sopsg_yes, sopsg_tf, sopsg_ft, sopsg_undef, rg_true, SOp.run, SX.ev, putd, puts, argS, upds, SOp.touch, SSt.keep, SSt.skip, gets, geth, puth, delh, idOf, SV.cells?, setL, fillS, fillR, sbin, eq0, eq1, eqL, rowOf, qseq_n, qseq_e, qseq_r, qblock_n, qblock_r, qblock_e, qloop_e, qloop_r]
  refine swp_block (swp_loop (fun s n => ∃ i : Nat, s = ⟨[(0, .int .i64 k), (3, .int .u64 (2 ^ i - 1)), (4, .int .i64 i)], [], 0⟩ ∧ (i : Int) ≤ 64 ∧ (0 < i → (i : Int) ≤ k ∧ k ≤ 64) ∧ n = k.toNat - i) (wk_list [] hm rfl (Nat.le_refl _) (by simp -implicitDefEqProofs [take_map_len, FrzOk, pureV_int, pureV_bool, pureV_str, pureV_nil, pureV_nilsl, pureV_view, pureV_cp, pureL_nil_, pureL_cons_, pureO_row, pureO_cells, frzS, frzH, frz, frz1, frz0, SlotsM, ObjsM, ObjM, rn, ren, ren1, ren0, gets, geth, co_self, co_int, co_own, co_view, co_nilsl, co_agg, co_tup, CoL, coll_self]) (by simp -implicitDefEqProofs [take_map_len, FrzOk, pureV_int, pureV_bool, pureV_str, pureV_nil, pureV_nilsl, pureV_view, pureV_cp, pureL_nil_, pureL_cons_, pureO_row, pureO_cells, frzS, frzH, frz, frz1, frz0, SlotsM, ObjsM, ObjM, rn, ren, ren1, ren0, gets, geth, co_self, co_int, co_own, co_view, co_nilsl, co_agg, co_tup, CoL, coll_self])) ⟨0, rfl, by omega, by omega, rfl⟩ ?_)
  rintro s n ⟨i, rfl, h1, h2, rfl⟩
  have fin : ¬ ((i : Int) < k ∧ k ≤ 64) → SWp X ((SCode.reg false c_ones_r7 [2]).seq SCode.ret) (QFun X [ResultVar.tmp 2] 0 (SV.int IntKind.u64 (if k ≤ 64 then 2 ^ k.toNat - 1 else 0)) []) ⟨[(0, .int .i64 k), (3, .int .u64 (2 ^ i - 1)), (4, .int .i64 i)], [], 5⟩ := by
    intro hn
    refine swp_seq (swp_reg ?_)
    simp -implicitDefEqProofs [c_ones_r7, sops_nil, sops_run, sopsk_some, sops_call, sops_guard, sopsg_yes, sopsg_tf, sopsg_ft, sopsg_undef, rg_true, SOp.run, SX.ev, putd, puts, argS, upds, SOp.touch, SSt.keep, SSt.skip, gets, geth, puth, delh, idOf, SV.cells?, setL, fillS, fillR, sbin, eq0, eq1, eqL, rowOf, qseq_n, qseq_e, qseq_r, qblock_n, qblock_r, qblock_e, qloop_e, qloop_r]
    refine swp_ret ?_
    refine qfun_done (s' := ⟨[(2, .int .u64 (if k ≤ 64 then 2 ^ k.toNat - 1 else 0))], [], 0⟩) (wk_list [] hm rfl (Nat.le_refl _) ?_ ?_) rfl trivial (by simp)
    · simp -implicitDefEqProofs [take_map_len, FrzOk, pureV_int, pureV_bool, pureV_str, pureV_nil, pureV_nilsl, pureV_view, pureV_cp, pureL_nil_, pureL_cons_, pureO_row, pureO_cells, frzS, frzH, frz, frz1, frz0, SlotsM, ObjsM, ObjM, rn, ren, ren1, ren0, gets, geth, co_self, co_int, co_own, co_view, co_nilsl, co_agg, co_tup, CoL, coll_self]
      refine co_int ?_
      split
      · have : k.toNat = i := by omega
        rw [this]
      · have : i = 0 := by omega
        subst this; simp
    · simp -implicitDefEqProofs [take_map_len, FrzOk, pureV_int, pureV_bool, pureV_str, pureV_nil, pureV_nilsl, pureV_view, pureV_cp, pureL_nil_, pureL_cons_, pureO_row, pureO_cells, frzS, frzH, frz, frz1, frz0, SlotsM, ObjsM, ObjM, rn, ren, ren1, ren0, gets, geth, co_self, co_int, co_own, co_view, co_nilsl, co_agg, co_tup, CoL, coll_self]
  unfold c_ones_l1
  refine swp_seq (swp_seq (swp_reg ?_))
  cases h3 : decide ((i : Int) < k) <;> simp -implicitDefEqProofs [c_ones_r4, sops_nil, sops_run, sopsk_some, sops_call, sops_guard, sopsg_yes, sopsg_tf, sopsg_ft, sopsg_undef, rg_true, SOp.run, SX.ev, putd, puts, argS, upds, SOp.touch, SSt.keep, SSt.skip, gets, geth, puth, delh, idOf, SV.cells?, setL, fillS, fillR, sbin, eq0, eq1, eqL, rowOf, qseq_n, qseq_e, qseq_r, qblock_n, qblock_r, qblock_e, qloop_e, qloop_r, h3]
  · simp at h3
    refine swp_cond rfl (by simp) fun _ => swp_exit ?_
    simp -implicitDefEqProofs [sops_nil, sops_run, sopsk_some, sops_call, sops_guard, sopsg_yes, sopsg_tf, sopsg_ft, sopsg_undef, rg_true, SOp.run, SX.ev, putd, puts, argS, upds, SOp.touch, SSt.keep, SSt.skip, gets, geth, puth, delh, idOf, SV.cells?, setL, fillS, fillR, sbin, eq0, eq1, eqL, rowOf, qseq_n, qseq_e, qseq_r, qblock_n, qblock_r, qblock_e, qloop_e, qloop_r]
    refine swp_wk (wk_list (s' := ⟨_, _, 5⟩) [] hm rfl (by simp) ?_ ?_) (fin (by omega))
    · simp -implicitDefEqProofs [take_map_len, FrzOk, pureV_int, pureV_bool, pureV_str, pureV_nil, pureV_nilsl, pureV_view, pureV_cp, pureL_nil_, pureL_cons_, pureO_row, pureO_cells, frzS, frzH, frz, frz1, frz0, SlotsM, ObjsM, ObjM, rn, ren, ren1, ren0, gets, geth, co_self, co_int, co_own, co_view, co_nilsl, co_agg, co_tup, CoL, coll_self]
    · simp -implicitDefEqProofs [take_map_len, FrzOk, pureV_int, pureV_bool, pureV_str, pureV_nil, pureV_nilsl, pureV_view, pureV_cp, pureL_nil_, pureL_cons_, pureO_row, pureO_cells, frzS, frzH, frz, frz1, frz0, SlotsM, ObjsM, ObjM, rn, ren, ren1, ren0, gets, geth, co_self, co_int, co_own, co_view, co_nilsl, co_agg, co_tup, CoL, coll_self]
  · simp at h3
    refine swp_cond rfl (fun h4 => swp_skip ?_) fun h4 => swp_exit ?_
    · simp at h4
      simp -implicitDefEqProofs [sops_nil, sops_run, sopsk_some, sops_call, sops_guard, sopsg_yes, sopsg_tf, sopsg_ft, sopsg_undef, rg_true, SOp.run, SX.ev, putd, puts, argS, upds, SOp.touch, SSt.keep, SSt.skip, gets, geth, puth, delh, idOf, SV.cells?, setL, fillS, fillR, sbin, eq0, eq1, eqL, rowOf, qseq_n, qseq_e, qseq_r, qblock_n, qblock_r, qblock_e, qloop_e, qloop_r]
      refine swp_seq (swp_block (swp_reg ?_))
      simp -implicitDefEqProofs [c_ones_r5, sops_nil, sops_run, sopsk_some, sops_call, sops_guard, sopsg_yes, sopsg_tf, sopsg_ft, sopsg_undef, rg_true, SOp.run, SX.ev, putd, puts, argS, upds, SOp.touch, SSt.keep, SSt.skip, gets, geth, puth, delh, idOf, SV.cells?, setL, fillS, fillR, sbin, eq0, eq1, eqL, rowOf, qseq_n, qseq_e, qseq_r, qblock_n, qblock_r, qblock_e, qloop_e, qloop_r]
      refine swp_reg ?_
      simp -implicitDefEqProofs [c_ones_r6, sops_nil, sops_run, sopsk_some, sops_call, sops_guard, sopsg_yes, sopsg_tf, sopsg_ft, sopsg_undef, rg_true, SOp.run, SX.ev, putd, puts, argS, upds, SOp.touch, SSt.keep, SSt.skip, gets, geth, puth, delh, idOf, SV.cells?, setL, fillS, fillR, sbin, eq0, eq1, eqL, rowOf, qseq_n, qseq_e, qseq_r, qblock_n, qblock_r, qblock_e, qloop_e, qloop_r]
      have hp := pow_i i (by omega)
      have e1 : IntKind.u64.wrap (2 * (2 ^ i - 1)) = 2 * (2 ^ i - 1) := u64_in_ (by omega) (by omega)
      have e2 : IntKind.u64.wrap (2 * (2 ^ i - 1) + 1) = 2 * (2 ^ i - 1) + 1 := u64_in_ (by omega) (by omega)
      have e3 : IntKind.i64.wrap ((i : Int) + 1) = (i : Int) + 1 := i64_add_ (by omega) (by omega)
      rw [e1, e2, e3]
      refine qloop_next (wk_list [] hm rfl (Nat.le_refl _) ?_ ?_) ⟨i + 1, rfl, by omega, by omega, rfl⟩ (by omega)
      · simp -implicitDefEqProofs [take_map_len, FrzOk, pureV_int, pureV_bool, pureV_str, pureV_nil, pureV_nilsl, pureV_view, pureV_cp, pureL_nil_, pureL_cons_, pureO_row, pureO_cells, frzS, frzH, frz, frz1, frz0, SlotsM, ObjsM, ObjM, rn, ren, ren1, ren0, gets, geth, co_self, co_int, co_own, co_view, co_nilsl, co_agg, co_tup, CoL, coll_self]
        exact co_int (by rw [Int.pow_succ]; omega)
      · simp -implicitDefEqProofs [take_map_len, FrzOk, pureV_int, pureV_bool, pureV_str, pureV_nil, pureV_nilsl, pureV_view, pureV_cp, pureL_nil_, pureL_cons_, pureO_row, pureO_cells, frzS, frzH, frz, frz1, frz0, SlotsM, ObjsM, ObjM, rn, ren, ren1, ren0, gets, geth, co_self, co_int, co_own, co_view, co_nilsl, co_agg, co_tup, CoL, coll_self]
    · simp at h4
      simp -implicitDefEqProofs [sops_nil, sops_run, sopsk_some, sops_call, sops_guard, sopsg_yes, sopsg_tf, sopsg_ft, sopsg_undef, rg_true, SOp.run, SX.ev, putd, puts, argS, upds, SOp.touch, SSt.keep, SSt.skip, gets, geth, puth, delh, idOf, SV.cells?, setL, fillS, fillR, sbin, eq0, eq1, eqL, rowOf, qseq_n, qseq_e, qseq_r, qblock_n, qblock_r, qblock_e, qloop_e, qloop_r]
      refine swp_wk (wk_list (s' := ⟨_, _, 5⟩) [] hm rfl (by simp) ?_ ?_) (fin (by omega))
      · simp -implicitDefEqProofs [take_map_len, FrzOk, pureV_int, pureV_bool, pureV_str, pureV_nil, pureV_nilsl, pureV_view, pureV_cp, pureL_nil_, pureL_cons_, pureO_row, pureO_cells, frzS, frzH, frz, frz1, frz0, SlotsM, ObjsM, ObjM, rn, ren, ren1, ren0, gets, geth, co_self, co_int, co_own, co_view, co_nilsl, co_agg, co_tup, CoL, coll_self]
      · simp -implicitDefEqProofs [take_map_len, FrzOk, pureV_int, pureV_bool, pureV_str, pureV_nil, pureV_nilsl, pureV_view, pureV_cp, pureL_nil_, pureL_cons_, pureO_row, pureO_cells, frzS, frzH, frz, frz1, frz0, SlotsM, ObjsM, ObjM, rn, ren, ren1, ren0, gets, geth, co_self, co_int, co_own, co_view, co_nilsl, co_agg, co_tup, CoL, coll_self]
end Go.Proofs.Ytfakdapglbgokaa

/-
  An argument that came in: it reads as a thing that lies in cells. No program in sight. No condition.
-/
namespace Go.Proofs.Ytfakdapglbgokaa
set_option linter.all false
open Go.RowKit Go.ChangeShapes Go.WideShapes Go.Deep

/-- What reads as a datum of a type, lies in cells. -/
structure Opens (P : Program) (t : TypeId) {α : Type} (L : Lay α) : Prop where
  size : P.cellsOf t = L.size
  pos : 0 < L.size
  opn : ∀ {H : Type} {enc : TypeId × Value → H} {w : World} {fuel : Nat} {cs : List Value} {x : DataW H × List MemPlace}, DataW.trod enc P w 0 (fun _ => true) true fuel t cs = some x → ∃ a, L.rep NoA w a cs
theorem Opens.int {P : Program} {t : TypeId} {k : IntKind} (hu : P.underlying t = some (.int k)) (hc : P.cellsOf t = 1) : Opens P t (Lay.int k) :=
  ⟨hc, Nat.one_pos, fun h => by obtain ⟨n, rfl, _, hw⟩ := DataW.trod_int hu h; exact ⟨n, rfl, hw⟩⟩
theorem Opens.bool {P : Program} {t : TypeId} (hu : P.underlying t = some .bool) (hc : P.cellsOf t = 1) : Opens P t Lay.bool :=
  ⟨hc, Nat.one_pos, fun h => by obtain ⟨n, rfl, _⟩ := DataW.trod_bool hu h; exact ⟨n, rfl⟩⟩
theorem Opens.weak {P : Program} {t : TypeId} {α β : Type} {L : Lay α} {M : Lay β} (h : Opens P t L) (hs : M.size = L.size) (f : ∀ {w a cs}, L.rep NoA w a cs → ∃ b, M.rep NoA w b cs) : Opens P t M :=
  ⟨h.size.trans hs.symm, by rw [hs]; exact h.pos, fun hx => by obtain ⟨a, ha⟩ := h.opn hx; exact f ha⟩
theorem Opens.slice {P : Program} {t e : TypeId} {α : Type} {L : Lay α} (h : Opens P e L) (hu : P.underlying t = some (.slice e)) (hc : P.cellsOf t = 1) : Opens P t (Lay.slice L) := by
  refine ⟨hc, Nat.one_pos, fun {H enc w fuel cs x} hx => ?_⟩
  rcases open_slice hu hx with ⟨rfl, _⟩ | ⟨a, len, cap, m, n, D, Pl, rfl, _, hl, hm, hmm, _, hi⟩
  · exact ⟨[], none, 0, 0, rfl, RdL.nil_ _ _ _⟩
  · simp at hmm
    subst hmm
    have hs : a.spot = none ∨ m = 0 := by
      rcases Nat.eq_zero_or_pos m with e | e
      · exact .inr e
      · left
        obtain ⟨cs', hc', _⟩ := hi 0 e
        obtain ⟨_, hcl, hat⟩ := World.cells?_some hc'
        have h0 := hat 0 (by rw [h.size]; exact h.pos)
        obtain ⟨b, off, spot⟩ := a
        cases spot with
        | none => rfl
        | some s =>
          rw [List.getElem?_eq_getElem (by rw [hcl, h.size]; exact h.pos)] at h0
          simp [Addr.add, World.cell?] at h0
          split at h0 <;> simp at h0
    rcases hs with hs | rfl
    · obtain ⟨b, off, spot⟩ := a
      obtain rfl : spot = none := hs
      have hel : ∀ i, i < m → ∃ x, ∃ cs, L.rep NoA w x cs ∧ ∀ j, j < L.size → w.cell? ⟨b, off + i * L.size + j, none⟩ = cs[j]? := by
        intro i him
        obtain ⟨cs', hc', ht⟩ := hi i him
        obtain ⟨x, hr⟩ := h.opn ht
        obtain ⟨_, hcl, hat⟩ := World.cells?_some hc'
        refine ⟨x, cs', hr, fun j hj => ?_⟩
        have := hat j (by rw [h.size]; exact hj)
        rw [h.size, add_plain, add_plain] at this
        exact this
      have hex : ∀ i : Nat, ∃ x : Option α, i < m → ∃ y, x = some y ∧ ∃ cs, L.rep NoA w y cs ∧ ∀ j, j < L.size → w.cell? ⟨b, off + i * L.size + j, none⟩ = cs[j]? := by
        intro i
        by_cases him : i < m
        · obtain ⟨x, hx⟩ := hel i him
          exact ⟨some x, fun _ => ⟨x, rfl, hx⟩⟩
        · exact ⟨none, fun h => absurd h him⟩
      obtain ⟨f, hf⟩ := Classical.axiomOfChoice hex
      have hfs : ∀ i (hh : i < m), (f i).isSome := fun i hh => by obtain ⟨y, hy, _⟩ := hf i hh; rw [hy]; rfl
      let xs : List α := List.ofFn fun i : Fin len => (f i).get (hfs i (by omega))
      have hxl : xs.length = len := by simp [xs]
      refine ⟨xs, some ⟨b, off, none⟩, len, m, rfl, hxl, hl, hm, by simp, fun h0 => ?_⟩
      have hblk : b < w.heap.size := by
        obtain ⟨y, hy, cs, hr, hj⟩ := hf 0 (by omega)
        have h00 := hj 0 h.pos
        rw [List.getElem?_eq_getElem (by rw [L.len hr]; exact h.pos)] at h00
        exact block_lt_of_cell h00
      refine ⟨b, off, rfl, fun h => h, hblk, fun i hi' => ?_⟩
      obtain ⟨y, hy, cs, hr, hj⟩ := hf i (by omega)
      refine ⟨cs, ?_, hj⟩
      have : xs[i] = y := by simp [xs, hy]
      rw [this]; exact hr
    · obtain rfl : len = 0 := by omega
      refine ⟨[], some a, 0, 0, rfl, rfl, Nat.le_refl _, hm, by simp, fun h => absurd h (by omega)⟩

/-- Fields of a struct, one behind the other. -/
def OpensF (P : Program) (fs : List Field) (off : Nat) {α : Type} (L : Lay α) : Prop :=
  ∀ {H : Type} {enc : TypeId × Value → H} {w : World} {cs : List Value}, (∀ f ∈ fs, ∃ fuel x, DataW.trod enc P w 0 (fun _ => true) true fuel f.type ((cs.drop f.offset).take (P.cellsOf f.type)) = some x) → cs.length = off + L.size → ∃ a, L.rep NoA w a (cs.drop off)
theorem OpensF.one {P : Program} {f : Field} {off : Nat} {α : Type} {L : Lay α} (h : Opens P f.type L) (ho : f.offset = off) : OpensF P [f] off L := by
  intro H enc w cs hf hl
  obtain ⟨fuel, x, hx⟩ := hf f (by simp)
  rw [ho, h.size, List.take_of_length_le (by simp; omega)] at hx
  exact h.opn hx
theorem OpensF.cons {P : Program} {f : Field} {fs : List Field} {off : Nat} {α β : Type} {L : Lay α} {M : Lay β} (h : Opens P f.type L) (ho : f.offset = off) (g : OpensF P fs (off + L.size) M) : OpensF P (f :: fs) off (Lay.pair L M) := by
  intro H enc w cs hf hl
  obtain ⟨fuel, x, hx⟩ := hf f (by simp)
  rw [ho, h.size] at hx
  obtain ⟨a, ha⟩ := h.opn hx
  obtain ⟨b, hb⟩ := g (cs := cs) (fun f' hf' => hf f' (List.mem_cons_of_mem _ hf')) (by rw [hl]; show _ = _; simp only [Lay.pair]; omega)
  refine ⟨(a, b), _, _, ?_, ha, hb⟩
  rw [← List.drop_drop, List.take_append_drop]
theorem Opens.struct {P : Program} {t : TypeId} {fs : List Field} {α : Type} {L : Lay α} (hu : P.underlying t = some (.struct fs.toArray)) (h : OpensF P fs 0 L) (hc : P.cellsOf t = L.size) (hp : 0 < L.size) : Opens P t L := by
  refine ⟨hc, hp, fun {H enc w fuel cs x} hx => ?_⟩
  obtain ⟨xs, n, _, _, hl, hxl, hf⟩ := DataW.trod_struct hu hx
  have := h (cs := cs) (enc := enc) (w := w) (fun f hf' => ?_) (by rw [hl, hc, Nat.zero_add])
  · simpa using this
  · obtain ⟨i, hi, rfl⟩ := List.getElem_of_mem hf'
    refine ⟨n, xs[i]'(by rw [hxl]; simpa using hi), ?_⟩
    rw [hf i _ (by simp [hi])]
    exact List.getElem?_eq_getElem _

/-- A struct that came in by value. -/
theorem Opens.arg {P : Program} {t : TypeId} {fs : Array Field} {α : Type} {L : Lay α} (h : Opens P t L) (hu : P.underlying t = some (.struct fs)) {H : Type} {enc : TypeId × Value → H} {w : World} {r : Reach} {b0 : Nat} {v : Value} {d : DataW H} {p : List MemPlace}
    (hv : Value.okWide P w r b0 t v) (ht : DataW.Trod enc P w 0 (fun _ => true) true t v d p) : ∃ a cs, v = .agg cs ∧ L.rep NoA w a cs.toList := by
  obtain ⟨cs, rfl, _⟩ := okWide_struct hu hv
  obtain ⟨fuel, hf⟩ := ht
  obtain ⟨a, ha⟩ := h.opn hf
  exact ⟨a, cs, rfl, ha⟩
/-- A slice that came in. -/
theorem Opens.argSlice {P : Program} {t e : TypeId} {α : Type} {L : Lay α} (h : Opens P e L) (hu : P.underlying t = some (.slice e)) (hc : P.cellsOf t = 1) {H : Type} {enc : TypeId × Value → H} {w : World} {r : Reach} {b0 : Nat} {v : Value} {d : DataW H} {p : List MemPlace}
    (hv : Value.okWide P w r b0 t v) (ht : DataW.Trod enc P w 0 (fun _ => true) true t v d p) : ∃ xs ao n cap, v = .slice ao n cap ∧ RdL L NoA w ao n cap xs := by
  obtain ⟨a, len, cap, rfl⟩ := okWide_slice hu hv
  obtain ⟨fuel, hf⟩ := ht
  obtain ⟨xs, ao, n, cap', e, hr⟩ := (h.slice hu hc).opn hf
  simp [Value.cells] at e
  obtain ⟨rfl, rfl, rfl⟩ := e
  exact ⟨xs, _, _, _, rfl, hr⟩
/-- What came in avoids all new blocks. -/
theorem RdL.old {α : Type} {L : Lay α} {w : World} {ao : Option Addr} {n cap : Nat} {xs : List α} (h : RdL L NoA w ao n cap xs) : RdL L (fun k => w.heap.size ≤ k) w ao n cap xs := h.weaken fun k h1 h2 => absurd h2 (Nat.not_lt_of_le h1)
theorem RdL.still {α : Type} {L : Lay α} {B : Nat} {w w' : World} {ao : Option Addr} {n cap : Nat} {xs : List α} (h : RdL L (fun k => B ≤ k) w ao n cap xs) (hb : Below B w w') : RdL L (fun k => B ≤ k) w' ao n cap xs := h.step (.ofBelow hb fun _ h => h)
end Go.Proofs.Ytfakdapglbgokaa

/-
  Steps of tables that came in: how they lie in cells. No condition.
-/
namespace Go.Proofs.Ytfakdapglbgokaa
set_option linter.all false
open Go.RowKit Go.ChangeShapes Go.WideShapes

structure TStep where
  d : Int
  e : Entry
instance : Inhabited TStep := ⟨⟨0, default⟩⟩
def tstepLay : Lay TStep := Lay.map (fun s => (s.d, s.e)) (Lay.pair (Lay.int .i64) entryLay)
theorem opensI : Opens Try.prog 3 (Lay.int .i64) := Opens.int Try.underlying3 (by kernel_rfl)
theorem opensU : Opens Try.prog 23 (Lay.int .u64) := Opens.int Try.underlying23 (by kernel_rfl)
theorem opensN : Opens Try.prog 28 (Lay.slice (Lay.int .u64)) := opensU.slice Try.underlying28 (by kernel_rfl)
theorem opens_entry : Opens Try.prog 30 entryLay := by
  have h : Opens Try.prog 30 (Lay.pair (Lay.slice (Lay.int .u64)) (Lay.pair (Lay.slice (Lay.int .u64)) (Lay.pair (Lay.int .i64) (Lay.pair (Lay.int .i64) (Lay.pair (Lay.int .i64) (Lay.slice (Lay.int .u64))))))) :=
    Opens.struct Try.underlying30 (OpensF.cons opensN rfl (OpensF.cons opensN rfl (OpensF.cons opensI rfl (OpensF.cons opensI rfl (OpensF.cons opensI rfl (OpensF.one opensN rfl)))))) (by kernel_rfl) (by decide)
  refine h.weak rfl ?_
  rintro w ⟨a, b, c, d, e, f⟩ cs hr
  exact ⟨⟨a, b, c, d, e, f⟩, hr⟩
theorem opens_tstep : Opens Try.prog 33 tstepLay := by
  have h : Opens Try.prog 33 (Lay.pair (Lay.int .i64) entryLay) :=
    Opens.struct Try.underlying33 (OpensF.cons opensI rfl (OpensF.one opens_entry rfl)) (by kernel_rfl) (by decide)
  refine h.weak rfl ?_
  rintro w ⟨a, e⟩ cs hr
  exact ⟨⟨a, e⟩, hr⟩
end Go.Proofs.Ytfakdapglbgokaa

/-
  References on entries of tables, in the plain machine: SameEntries, SameHit, Wide; the law's hitOf, oneKey, stepsGreat. No condition.
-/
namespace Go.Proofs.Ytfakdapglbgokaa
set_option linter.all false
open Go.RowKit

def ents (xs : List Entry) : SV := .view 6 (xs.map ecells)
def sameEs (xs ys : List Entry) : Bool := decide (xs.length = ys.length) && (List.range xs.length).all fun i => match xs[i]?, ys[i]? with
  | some a, some b => sameE a b
  | _, _ => true
theorem call_sent (a b : Entry) (h : Small a) (q : Nat) : SCalls Try.prog 79 [.agg (ecells a), .agg (ecells b)] [] q (.bool (sameE a b)) [] :=
  scalls_q (sent_s a b h) (fun σ => rfl) (fun σ => rfl) rfl q
theorem sents_s (xs ys : List Entry) (hx : xs.length ≤ 1000000) (hs : ∀ e ∈ xs, Small e) : SCalls Try.prog 43 [ents xs, ents ys] [] 0 (.bool (sameEs xs ys)) [] := by
  refine scalls_of (N := 27) Try.func43 rfl rfl (by kernel_rfl) comp_c_sents (by simp) ⟨rfl, rfl, trivial⟩ trivial ?_
  rintro X hP hN hm
  have fin : ∀ (r : Bool) hp nx, sameEs xs ys = r → QFun X (Try.f43).results.toList 0 (.bool (sameEs xs ys)) [] .ret ⟨[(4, .bool r)], hp, nx⟩ := fun r hp nx hr => by
    rw [hr]
    exact (qfun_done (s' := ⟨[(4, .bool r)], [], 0⟩) (wk_list [] hm rfl (Nat.le_refl _) (by simp -implicitDefEqProofs [take_map_len, FrzOk, pureV_int, pureV_bool, pureV_str, pureV_nil, pureV_nilsl, pureV_view, pureV_cp, pureL_nil_, pureL_cons_, pureO_row, pureO_cells, frzS, frzH, frz, frz1, frz0, SlotsM, ObjsM, ObjM, rn, ren, ren1, ren0, gets, geth, co_self, co_int, co_own, co_view, co_nilsl, co_agg, co_tup, CoL, coll_self]) trivial) rfl trivial (by simp))
  unfold c_sents ents
  refine swp_seq (swp_reg ?_)
  simp -implicitDefEqProofs [c_sents_r1, sops_nil, sops_run, sopsk_some, sops_call, sops_guard, sopsg_yes, sopsg_tf, sopsg_ft, sopsg_undef, rg_true, SOp.run, SX.ev, putd, puts, argS, upds, SOp.touch, SSt.keep, SSt.skip, gets, geth, puth, delh, idOf, SV.cells?, setL, fillS, fillR, sbin, eq0, eq1, eqL, rowOf, qseq_n, qseq_e, qseq_r, qblock_n, qblock_r, qblock_e, qloop_e, qloop_r]
  refine swp_seq (swp_seq (swp_reg ?_))
  simp -implicitDefEqProofs [c_sents_r2, sops_nil, sops_run, sopsk_some, sops_call, sops_guard, sopsg_yes, sopsg_tf, sopsg_ft, sopsg_undef, rg_true, SOp.run, SX.ev, putd, puts, argS, upds, SOp.touch, SSt.keep, SSt.skip, gets, geth, puth, delh, idOf, SV.cells?, setL, fillS, fillR, sbin, eq0, eq1, eqL, rowOf, qseq_n, qseq_e, qseq_r, qblock_n, qblock_r, qblock_e, qloop_e, qloop_r]
  refine swp_cond rfl (fun h => ?_) (fun h => ?_)
  · refine swp_seq (swp_reg ?_)
    simp -implicitDefEqProofs [c_sents_r3, sops_nil, sops_run, sopsk_some, sops_call, sops_guard, sopsg_yes, sopsg_tf, sopsg_ft, sopsg_undef, rg_true, SOp.run, SX.ev, putd, puts, argS, upds, SOp.touch, SSt.keep, SSt.skip, gets, geth, puth, delh, idOf, SV.cells?, setL, fillS, fillR, sbin, eq0, eq1, eqL, rowOf, qseq_n, qseq_e, qseq_r, qblock_n, qblock_r, qblock_e, qloop_e, qloop_r]
    refine swp_ret (fin _ _ _ ?_)
    have : ¬ (xs.length = ys.length) := by simp at h; omega
    simp [sameEs, this]
  · have hl : xs.length = ys.length := by simp at h; omega
    refine swp_skip ?_
    simp -implicitDefEqProofs [sops_nil, sops_run, sopsk_some, sops_call, sops_guard, sopsg_yes, sopsg_tf, sopsg_ft, sopsg_undef, rg_true, SOp.run, SX.ev, putd, puts, argS, upds, SOp.touch, SSt.keep, SSt.skip, gets, geth, puth, delh, idOf, SV.cells?, setL, fillS, fillR, sbin, eq0, eq1, eqL, rowOf, qseq_n, qseq_e, qseq_r, qblock_n, qblock_r, qblock_e, qloop_e, qloop_r]
    refine swp_seq (swp_seq (swp_reg ?_))
    simp -implicitDefEqProofs [c_sents_r4, sops_nil, sops_run, sopsk_some, sops_call, sops_guard, sopsg_yes, sopsg_tf, sopsg_ft, sopsg_undef, rg_true, SOp.run, SX.ev, putd, puts, argS, upds, SOp.touch, SSt.keep, SSt.skip, gets, geth, puth, delh, idOf, SV.cells?, setL, fillS, fillR, sbin, eq0, eq1, eqL, rowOf, qseq_n, qseq_e, qseq_r, qblock_n, qblock_r, qblock_e, qloop_e, qloop_r]
    refine swp_block (swp_loop (fun s n => ∃ i : Nat, s = ⟨[(0, ents xs), (1, ents ys), (5, .int .i64 i)], [], 0⟩ ∧ i ≤ xs.length ∧ (∀ j, j < i → match xs[j]?, ys[j]? with | some a, some b => sameE a b = true | _, _ => True) ∧ n = xs.length - i) (wk_list [] hm rfl (Nat.le_refl _) (by simp -implicitDefEqProofs [take_map_len, FrzOk, pureV_int, pureV_bool, pureV_str, pureV_nil, pureV_nilsl, pureV_view, pureV_cp, pureL_nil_, pureL_cons_, pureO_row, pureO_cells, frzS, frzH, frz, frz1, frz0, SlotsM, ObjsM, ObjM, rn, ren, ren1, ren0, gets, geth, co_self, co_int, co_own, co_view, co_nilsl, co_agg, co_tup, CoL, coll_self, ents]) (by trivial)) ⟨0, rfl, by omega, by intro j hj; omega, rfl⟩ ?_)
    rintro s n ⟨i, rfl, h1, h2, rfl⟩
    unfold c_sents_l1
    refine swp_seq (swp_seq (swp_reg ?_))
    simp -implicitDefEqProofs [c_sents_r5, sops_nil, sops_run, sopsk_some, sops_call, sops_guard, sopsg_yes, sopsg_tf, sopsg_ft, sopsg_undef, rg_true, SOp.run, SX.ev, putd, puts, argS, upds, SOp.touch, SSt.keep, SSt.skip, gets, geth, puth, delh, idOf, SV.cells?, setL, fillS, fillR, sbin, eq0, eq1, eqL, rowOf, qseq_n, qseq_e, qseq_r, qblock_n, qblock_r, qblock_e, qloop_e, qloop_r, ents]
    refine swp_cond rfl (fun h3 => swp_skip ?_) (fun h3 => swp_exit ?_)
    · have hi : i < xs.length := by simpa using h3
      simp -implicitDefEqProofs [sops_nil, sops_run, sopsk_some, sops_call, sops_guard, sopsg_yes, sopsg_tf, sopsg_ft, sopsg_undef, rg_true, SOp.run, SX.ev, putd, puts, argS, upds, SOp.touch, SSt.keep, SSt.skip, gets, geth, puth, delh, idOf, SV.cells?, setL, fillS, fillR, sbin, eq0, eq1, eqL, rowOf, qseq_n, qseq_e, qseq_r, qblock_n, qblock_r, qblock_e, qloop_e, qloop_r]
      refine swp_seq (swp_block (swp_seq (swp_regd (by rw [hP]; exact mixed) ?_)))
      have hi2 : i < ys.length := by omega
      rw [hP]
      simp -implicitDefEqProofs [c_sents_r6, sops_nil, sops_run, sopsk_some, sops_call, sops_guard, sopsg_yes, sopsg_tf, sopsg_ft, sopsg_undef, rg_true, SOp.run, SX.ev, putd, puts, argS, upds, SOp.touch, SSt.keep, SSt.skip, gets, geth, puth, delh, idOf, SV.cells?, setL, fillS, fillR, sbin, eq0, eq1, eqL, rowOf, qseq_n, qseq_e, qseq_r, qblock_n, qblock_r, qblock_e, qloop_e, qloop_r, hi, hi2, show ∀ e, (ecells e).length = 6 from fun _ => rfl, show ∀ e, (ecells e).take 6 = ecells e from fun _ => rfl]
      refine call_q (call_sent _ _ (hs _ (List.getElem_mem hi)) _) ?_
      simp -implicitDefEqProofs [sops_nil, sops_run, sopsk_some, sops_call, sops_guard, sopsg_yes, sopsg_tf, sopsg_ft, sopsg_undef, rg_true, SOp.run, SX.ev, putd, puts, argS, upds, SOp.touch, SSt.keep, SSt.skip, gets, geth, puth, delh, idOf, SV.cells?, setL, fillS, fillR, sbin, eq0, eq1, eqL, rowOf, qseq_n, qseq_e, qseq_r, qblock_n, qblock_r, qblock_e, qloop_e, qloop_r]
      refine ⟨rfl, swp_cond rfl (fun h4 => ?_) (fun h4 => ?_)⟩
      · refine swp_seq (swp_reg ?_)
        simp -implicitDefEqProofs [c_sents_r7, sops_nil, sops_run, sopsk_some, sops_call, sops_guard, sopsg_yes, sopsg_tf, sopsg_ft, sopsg_undef, rg_true, SOp.run, SX.ev, putd, puts, argS, upds, SOp.touch, SSt.keep, SSt.skip, gets, geth, puth, delh, idOf, SV.cells?, setL, fillS, fillR, sbin, eq0, eq1, eqL, rowOf, qseq_n, qseq_e, qseq_r, qblock_n, qblock_r, qblock_e, qloop_e, qloop_r]
        refine swp_ret (fin _ _ _ ?_)
        have h5 : sameE xs[i] ys[i] = false := by simpa using h4
        simp only [sameEs, Bool.and_eq_false_iff]
        refine .inr (List.all_eq_false.2 ⟨i, List.mem_range.2 hi, ?_⟩)
        simp [hi, hi2, h5]
      · refine swp_skip ?_
        simp -implicitDefEqProofs [sops_nil, sops_run, sopsk_some, sops_call, sops_guard, sopsg_yes, sopsg_tf, sopsg_ft, sopsg_undef, rg_true, SOp.run, SX.ev, putd, puts, argS, upds, SOp.touch, SSt.keep, SSt.skip, gets, geth, puth, delh, idOf, SV.cells?, setL, fillS, fillR, sbin, eq0, eq1, eqL, rowOf, qseq_n, qseq_e, qseq_r, qblock_n, qblock_r, qblock_e, qloop_e, qloop_r]
        refine swp_reg ?_
        simp -implicitDefEqProofs [c_sents_r8, sops_nil, sops_run, sopsk_some, sops_call, sops_guard, sopsg_yes, sopsg_tf, sopsg_ft, sopsg_undef, rg_true, SOp.run, SX.ev, putd, puts, argS, upds, SOp.touch, SSt.keep, SSt.skip, gets, geth, puth, delh, idOf, SV.cells?, setL, fillS, fillR, sbin, eq0, eq1, eqL, rowOf, qseq_n, qseq_e, qseq_r, qblock_n, qblock_r, qblock_e, qloop_e, qloop_r]
        rw [i64_add_ (by omega) (by omega)]
        have h5 : sameE xs[i] ys[i] = true := by simpa using h4
        refine qloop_next (wk_list [] hm rfl (Nat.le_refl _) (by simp -implicitDefEqProofs [take_map_len, FrzOk, pureV_int, pureV_bool, pureV_str, pureV_nil, pureV_nilsl, pureV_view, pureV_cp, pureL_nil_, pureL_cons_, pureO_row, pureO_cells, frzS, frzH, frz, frz1, frz0, SlotsM, ObjsM, ObjM, rn, ren, ren1, ren0, gets, geth, co_self, co_int, co_own, co_view, co_nilsl, co_agg, co_tup, CoL, coll_self, ents]) (by trivial)) ⟨i + 1, rfl, by omega, ?_, rfl⟩ (by omega)
        intro j hj
        rcases Nat.lt_or_ge j i with e | e
        · exact h2 j e
        · obtain rfl : j = i := by omega
          simp [hi, hi2, h5]
    · have hi : i = xs.length := by have : ¬ i < xs.length := by simpa using h3
                                    omega
      subst hi
      simp -implicitDefEqProofs [sops_nil, sops_run, sopsk_some, sops_call, sops_guard, sopsg_yes, sopsg_tf, sopsg_ft, sopsg_undef, rg_true, SOp.run, SX.ev, putd, puts, argS, upds, SOp.touch, SSt.keep, SSt.skip, gets, geth, puth, delh, idOf, SV.cells?, setL, fillS, fillR, sbin, eq0, eq1, eqL, rowOf, qseq_n, qseq_e, qseq_r, qblock_n, qblock_r, qblock_e, qloop_e, qloop_r]
      refine swp_seq (swp_reg ?_)
      simp -implicitDefEqProofs [c_sents_r9, sops_nil, sops_run, sopsk_some, sops_call, sops_guard, sopsg_yes, sopsg_tf, sopsg_ft, sopsg_undef, rg_true, SOp.run, SX.ev, putd, puts, argS, upds, SOp.touch, SSt.keep, SSt.skip, gets, geth, puth, delh, idOf, SV.cells?, setL, fillS, fillR, sbin, eq0, eq1, eqL, rowOf, qseq_n, qseq_e, qseq_r, qblock_n, qblock_r, qblock_e, qloop_e, qloop_r]
      refine swp_ret (fin _ _ _ ?_)
      simp only [sameEs, Bool.and_eq_true, decide_eq_true_eq]
      refine ⟨hl, List.all_eq_true.2 fun j hj => ?_⟩
      have := h2 j (List.mem_range.1 hj)
      revert this
      cases xs[j]? <;> cases ys[j]? <;> simp
def hcells (a : Int) (xs : List Int) : List SV := [.int .i64 a, nums .u64 xs]
theorem shit_s (a b : Int) (xs ys : List Int) (hx : xs.length ≤ 1000000) : SCalls Try.prog 25 [.agg (hcells a xs), .agg (hcells b ys)] [] 0 (.bool (a == b && decide (xs = ys))) [] := by
  refine scalls_of (N := 17) Try.func25 rfl rfl (by kernel_rfl) comp_c_shit (by simp) ⟨rfl, rfl, trivial⟩ trivial ?_
  rintro X hP hN hm
  generalize hr : (a == b && decide (xs = ys)) = r
  have fin : ∀ (r' : Bool) hp nx, r' = r → QFun X (Try.f25).results.toList 0 (.bool r) [] .ret ⟨[(4, .bool r')], hp, nx⟩ := fun r' hp nx hr => by
    rw [hr]
    exact (qfun_done (s' := ⟨[(4, .bool r)], [], 0⟩) (wk_list [] hm rfl (Nat.le_refl _) (by simp -implicitDefEqProofs [take_map_len, FrzOk, pureV_int, pureV_bool, pureV_str, pureV_nil, pureV_nilsl, pureV_view, pureV_cp, pureL_nil_, pureL_cons_, pureO_row, pureO_cells, frzS, frzH, frz, frz1, frz0, SlotsM, ObjsM, ObjM, rn, ren, ren1, ren0, gets, geth, co_self, co_int, co_own, co_view, co_nilsl, co_agg, co_tup, CoL, coll_self]) trivial) rfl trivial (by simp))
  unfold c_shit
  refine swp_seq (swp_reg ?_)
  simp -implicitDefEqProofs [c_shit_r1, sops_nil, sops_run, sopsk_some, sops_call, sops_guard, sopsg_yes, sopsg_tf, sopsg_ft, sopsg_undef, rg_true, SOp.run, SX.ev, putd, puts, argS, upds, SOp.touch, SSt.keep, SSt.skip, gets, geth, puth, delh, idOf, SV.cells?, setL, fillS, fillR, sbin, eq0, eq1, eqL, rowOf, qseq_n, qseq_e, qseq_r, qblock_n, qblock_r, qblock_e, qloop_e, qloop_r, hcells, nums]
  refine swp_seq (swp_reg ?_)
  rw [hP]
  cases k1 : a == b
  · simp -implicitDefEqProofs [c_shit_r2, sops_nil, sops_run, sopsk_some, sops_call, sops_guard, sopsg_yes, sopsg_tf, sopsg_ft, sopsg_undef, rg_true, SOp.run, SX.ev, putd, puts, argS, upds, SOp.touch, SSt.keep, SSt.skip, gets, geth, puth, delh, idOf, SV.cells?, setL, fillS, fillR, sbin, eq0, eq1, eqL, rowOf, qseq_n, qseq_e, qseq_r, qblock_n, qblock_r, qblock_e, qloop_e, qloop_r, k1]
    exact swp_ret (fin _ _ _ (by rw [← hr, k1]; rfl))
  · simp -implicitDefEqProofs [c_shit_r2, sops_nil, sops_run, sopsk_some, sops_call, sops_guard, sopsg_yes, sopsg_tf, sopsg_ft, sopsg_undef, rg_true, SOp.run, SX.ev, putd, puts, argS, upds, SOp.touch, SSt.keep, SSt.skip, gets, geth, puth, delh, idOf, SV.cells?, setL, fillS, fillR, sbin, eq0, eq1, eqL, rowOf, qseq_n, qseq_e, qseq_r, qblock_n, qblock_r, qblock_e, qloop_e, qloop_r, k1]
    refine call_q (call_snums _ _ hx _) ?_
    simp -implicitDefEqProofs [sops_nil, sops_run, sopsk_some, sops_call, sops_guard, sopsg_yes, sopsg_tf, sopsg_ft, sopsg_undef, rg_true, SOp.run, SX.ev, putd, puts, argS, upds, SOp.touch, SSt.keep, SSt.skip, gets, geth, puth, delh, idOf, SV.cells?, setL, fillS, fillR, sbin, eq0, eq1, eqL, rowOf, qseq_n, qseq_e, qseq_r, qblock_n, qblock_r, qblock_e, qloop_e, qloop_r]
    exact swp_ret (fin _ _ _ (by rw [← hr, k1, Bool.true_and]))
def wideI (n k : Int) : Bool := decide (n > if k ≤ 64 then 2 ^ k.toNat - 1 else 0)
theorem wide_s (n k : Int) : SCalls Try.prog 94 [.int .u64 n, .int .i64 k] [] 0 (.bool (wideI n k)) [] := by
  refine scalls_of (N := 9) Try.func94 rfl rfl (by kernel_rfl) comp_c_wide (by simp) ⟨rfl, rfl, trivial⟩ trivial ?_
  rintro X hP hN hm
  unfold c_wide
  refine swp_seq (swp_reg ?_)
  simp -implicitDefEqProofs [c_wide_r1, sops_nil, sops_run, sopsk_some, sops_call, sops_guard, sopsg_yes, sopsg_tf, sopsg_ft, sopsg_undef, rg_true, SOp.run, SX.ev, putd, puts, argS, upds, SOp.touch, SSt.keep, SSt.skip, gets, geth, puth, delh, idOf, SV.cells?, setL, fillS, fillR, sbin, eq0, eq1, eqL, rowOf, qseq_n, qseq_e, qseq_r, qblock_n, qblock_r, qblock_e, qloop_e, qloop_r]
  refine swp_seq (swp_reg ?_)
  rw [hP]
  simp -implicitDefEqProofs [c_wide_r2, sops_nil, sops_run, sopsk_some, sops_call, sops_guard, sopsg_yes, sopsg_tf, sopsg_ft, sopsg_undef, rg_true, SOp.run, SX.ev, putd, puts, argS, upds, SOp.touch, SSt.keep, SSt.skip, gets, geth, puth, delh, idOf, SV.cells?, setL, fillS, fillR, sbin, eq0, eq1, eqL, rowOf, qseq_n, qseq_e, qseq_r, qblock_n, qblock_r, qblock_e, qloop_e, qloop_r]
  refine call_q (scalls_q (ones_s k) (fun σ => rfl) (fun σ => rfl) rfl _) ?_
  simp -implicitDefEqProofs [sops_nil, sops_run, sopsk_some, sops_call, sops_guard, sopsg_yes, sopsg_tf, sopsg_ft, sopsg_undef, rg_true, SOp.run, SX.ev, putd, puts, argS, upds, SOp.touch, SSt.keep, SSt.skip, gets, geth, puth, delh, idOf, SV.cells?, setL, fillS, fillR, sbin, eq0, eq1, eqL, rowOf, qseq_n, qseq_e, qseq_r, qblock_n, qblock_r, qblock_e, qloop_e, qloop_r]
  exact swp_ret (qfun_done (s' := ⟨[(4, .bool (wideI n k))], [], 0⟩) (wk_list [] hm rfl (Nat.le_refl _) (by simp -implicitDefEqProofs [take_map_len, FrzOk, pureV_int, pureV_bool, pureV_str, pureV_nil, pureV_nilsl, pureV_view, pureV_cp, pureL_nil_, pureL_cons_, pureO_row, pureO_cells, frzS, frzH, frz, frz1, frz0, SlotsM, ObjsM, ObjM, rn, ren, ren1, ren0, gets, geth, co_self, co_int, co_own, co_view, co_nilsl, co_agg, co_tup, CoL, coll_self, wideI]) trivial) rfl trivial (by simp))
theorem hitOf_s (e : Entry) : SCalls Try.prog 21 [.agg (ecells e)] [] 0 (.agg (hcells e.act e.args)) [] := by
  refine scalls_of (N := 8) Try.func21 rfl rfl (by kernel_rfl) comp_c_hitOf (by simp) ⟨rfl, trivial⟩ trivial ?_
  rintro X hP hN hm
  unfold c_hitOf
  refine swp_seq (swp_reg ?_)
  simp -implicitDefEqProofs [c_hitOf_r1, sops_nil, sops_run, sopsk_some, sops_call, sops_guard, sopsg_yes, sopsg_tf, sopsg_ft, sopsg_undef, rg_true, SOp.run, SX.ev, putd, puts, argS, upds, SOp.touch, SSt.keep, SSt.skip, gets, geth, puth, delh, idOf, SV.cells?, setL, fillS, fillR, sbin, eq0, eq1, eqL, rowOf, qseq_n, qseq_e, qseq_r, qblock_n, qblock_r, qblock_e, qloop_e, qloop_r, ecells, nums]
  refine swp_seq (swp_reg ?_)
  simp -implicitDefEqProofs [c_hitOf_r2, sops_nil, sops_run, sopsk_some, sops_call, sops_guard, sopsg_yes, sopsg_tf, sopsg_ft, sopsg_undef, rg_true, SOp.run, SX.ev, putd, puts, argS, upds, SOp.touch, SSt.keep, SSt.skip, gets, geth, puth, delh, idOf, SV.cells?, setL, fillS, fillR, sbin, eq0, eq1, eqL, rowOf, qseq_n, qseq_e, qseq_r, qblock_n, qblock_r, qblock_e, qloop_e, qloop_r]
  refine swp_ret (qfun_done (s' := ⟨[(2, .ptr 0 0)], [(0, .cells 37 (hcells e.act e.args))], 1⟩) (wk_list [(0, 1)] hm rfl (Nat.zero_le _) (by simp -implicitDefEqProofs [take_map_len, FrzOk, pureV_int, pureV_bool, pureV_str, pureV_nil, pureV_nilsl, pureV_view, pureV_cp, pureL_nil_, pureL_cons_, pureO_row, pureO_cells, frzS, frzH, frz, frz1, frz0, SlotsM, ObjsM, ObjM, rn, ren, ren1, ren0, gets, geth, co_self, co_int, co_own, co_view, co_nilsl, co_agg, co_tup, CoL, coll_self]) (by simp -implicitDefEqProofs [take_map_len, FrzOk, pureV_int, pureV_bool, pureV_str, pureV_nil, pureV_nilsl, pureV_view, pureV_cp, pureL_nil_, pureL_cons_, pureO_row, pureO_cells, frzS, frzH, frz, frz1, frz0, SlotsM, ObjsM, ObjM, rn, ren, ren1, ren0, gets, geth, co_self, co_int, co_own, co_view, co_nilsl, co_agg, co_tup, CoL, coll_self, hcells, nums])) ?_ trivial (by simp))
  simp -implicitDefEqProofs [hP, resOf, resL, resV, show aggOf Try.prog 37 = some true from by kernel_rfl, show sizeOf_ Try.prog 37 = some 2 from by kernel_rfl, one_, hcells, nums, sops_nil, sops_run, sopsk_some, sops_call, sops_guard, sopsg_yes, sopsg_tf, sopsg_ft, sopsg_undef, rg_true, SOp.run, SX.ev, putd, puts, argS, upds, SOp.touch, SSt.keep, SSt.skip, gets, geth, puth, delh, idOf, SV.cells?, setL, fillS, fillR, sbin, eq0, eq1, eqL, rowOf, qseq_n, qseq_e, qseq_r, qblock_n, qblock_r, qblock_e, qloop_e, qloop_r]
def oneK (e : Entry) : Entry := ⟨if e.keys = [] then [0] else e.keys.take 1, [], e.len, 0, e.act, e.args⟩
theorem call_ownE (e : Entry) (h : Small e) (q : Nat) : SCalls Try.prog 76 [.agg (ecells e)] [] q (.agg (ecells e)) [] :=
  scalls_q (ownE_s e h) (fun σ => rfl) (fun σ => rfl) rfl q
theorem oneKey_s (e : Entry) (h : Small e) : SCalls Try.prog 18 [.agg (ecells e)] [] 0 (.agg (ecells (oneK e))) [] := by
  refine scalls_of (N := 18) Try.func18 rfl rfl (by kernel_rfl) comp_c_one (by simp) ⟨rfl, trivial⟩ trivial ?_
  rintro X hP hN hm
  unfold c_one
  refine swp_seq (swp_reg ?_)
  simp -implicitDefEqProofs [c_one_r1, sops_nil, sops_run, sopsk_some, sops_call, sops_guard, sopsg_yes, sopsg_tf, sopsg_ft, sopsg_undef, rg_true, SOp.run, SX.ev, putd, puts, argS, upds, SOp.touch, SSt.keep, SSt.skip, gets, geth, puth, delh, idOf, SV.cells?, setL, fillS, fillR, sbin, eq0, eq1, eqL, rowOf, qseq_n, qseq_e, qseq_r, qblock_n, qblock_r, qblock_e, qloop_e, qloop_r, ecells, nums]
  refine swp_seq (swp_reg ?_)
  rw [hP]
  simp -implicitDefEqProofs [c_one_r2, sops_nil, sops_run, sopsk_some, sops_call, sops_guard, sopsg_yes, sopsg_tf, sopsg_ft, sopsg_undef, rg_true, SOp.run, SX.ev, putd, puts, argS, upds, SOp.touch, SSt.keep, SSt.skip, gets, geth, puth, delh, idOf, SV.cells?, setL, fillS, fillR, sbin, eq0, eq1, eqL, rowOf, qseq_n, qseq_e, qseq_r, qblock_n, qblock_r, qblock_e, qloop_e, qloop_r]
  refine call_q (call_ownE e h _) ?_
  simp -implicitDefEqProofs [sops_nil, sops_run, sopsk_some, sops_call, sops_guard, sopsg_yes, sopsg_tf, sopsg_ft, sopsg_undef, rg_true, SOp.run, SX.ev, putd, puts, argS, upds, SOp.touch, SSt.keep, SSt.skip, gets, geth, puth, delh, idOf, SV.cells?, setL, fillS, fillR, sbin, eq0, eq1, eqL, rowOf, qseq_n, qseq_e, qseq_r, qblock_n, qblock_r, qblock_e, qloop_e, qloop_r, ecells, nums]
  refine swp_seq (swp_seq (swp_reg ?_))
  simp -implicitDefEqProofs [c_one_r3, sops_nil, sops_run, sopsk_some, sops_call, sops_guard, sopsg_yes, sopsg_tf, sopsg_ft, sopsg_undef, rg_true, SOp.run, SX.ev, putd, puts, argS, upds, SOp.touch, SSt.keep, SSt.skip, gets, geth, puth, delh, idOf, SV.cells?, setL, fillS, fillR, sbin, eq0, eq1, eqL, rowOf, qseq_n, qseq_e, qseq_r, qblock_n, qblock_r, qblock_e, qloop_e, qloop_r]
  refine swp_cond rfl (fun h0 => ?_) (fun h0 => ?_)
  · have hk : e.keys = [] := by simpa using h0
    refine swp_reg ?_
    simp -implicitDefEqProofs [c_one_r4, sops_nil, sops_run, sopsk_some, sops_call, sops_guard, sopsg_yes, sopsg_tf, sopsg_ft, sopsg_undef, rg_true, SOp.run, SX.ev, putd, puts, argS, upds, SOp.touch, SSt.keep, SSt.skip, gets, geth, puth, delh, idOf, SV.cells?, setL, fillS, fillR, sbin, eq0, eq1, eqL, rowOf, qseq_n, qseq_e, qseq_r, qblock_n, qblock_r, qblock_e, qloop_e, qloop_r]
    refine swp_seq (swp_reg ?_)
    simp -implicitDefEqProofs [c_one_r5, sops_nil, sops_run, sopsk_some, sops_call, sops_guard, sopsg_yes, sopsg_tf, sopsg_ft, sopsg_undef, rg_true, SOp.run, SX.ev, putd, puts, argS, upds, SOp.touch, SSt.keep, SSt.skip, gets, geth, puth, delh, idOf, SV.cells?, setL, fillS, fillR, sbin, eq0, eq1, eqL, rowOf, qseq_n, qseq_e, qseq_r, qblock_n, qblock_r, qblock_e, qloop_e, qloop_r]
    refine swp_seq (swp_reg ?_)
    simp -implicitDefEqProofs [c_one_r6, sops_nil, sops_run, sopsk_some, sops_call, sops_guard, sopsg_yes, sopsg_tf, sopsg_ft, sopsg_undef, rg_true, SOp.run, SX.ev, putd, puts, argS, upds, SOp.touch, SSt.keep, SSt.skip, gets, geth, puth, delh, idOf, SV.cells?, setL, fillS, fillR, sbin, eq0, eq1, eqL, rowOf, qseq_n, qseq_e, qseq_r, qblock_n, qblock_r, qblock_e, qloop_e, qloop_r]
    refine swp_seq (swp_reg ?_)
    simp -implicitDefEqProofs [c_one_r7, sops_nil, sops_run, sopsk_some, sops_call, sops_guard, sopsg_yes, sopsg_tf, sopsg_ft, sopsg_undef, rg_true, SOp.run, SX.ev, putd, puts, argS, upds, SOp.touch, SSt.keep, SSt.skip, gets, geth, puth, delh, idOf, SV.cells?, setL, fillS, fillR, sbin, eq0, eq1, eqL, rowOf, qseq_n, qseq_e, qseq_r, qblock_n, qblock_r, qblock_e, qloop_e, qloop_r]
    refine swp_ret (qfun_done (s' := ⟨[(2, .ptr 0 0)], [(0, .cells 30 (ecells (oneK e)))], 1⟩) (wk_fz [16] [(0, 1)] hm rfl (by simp -implicitDefEqProofs [take_map_len, FrzOk, pureV_int, pureV_bool, pureV_str, pureV_nil, pureV_nilsl, pureV_view, pureV_cp, pureL_nil_, pureL_cons_, pureO_row, pureO_cells, frzS, frzH, frz, frz1, frz0, SlotsM, ObjsM, ObjM, rn, ren, ren1, ren0, gets, geth, co_self, co_int, co_own, co_view, co_nilsl, co_agg, co_tup, CoL, coll_self]) rfl (Nat.zero_le _) (by simp -implicitDefEqProofs [take_map_len, FrzOk, pureV_int, pureV_bool, pureV_str, pureV_nil, pureV_nilsl, pureV_view, pureV_cp, pureL_nil_, pureL_cons_, pureO_row, pureO_cells, frzS, frzH, frz, frz1, frz0, SlotsM, ObjsM, ObjM, rn, ren, ren1, ren0, gets, geth, co_self, co_int, co_own, co_view, co_nilsl, co_agg, co_tup, CoL, coll_self]) (by simp -implicitDefEqProofs [take_map_len, FrzOk, pureV_int, pureV_bool, pureV_str, pureV_nil, pureV_nilsl, pureV_view, pureV_cp, pureL_nil_, pureL_cons_, pureO_row, pureO_cells, frzS, frzH, frz, frz1, frz0, SlotsM, ObjsM, ObjM, rn, ren, ren1, ren0, gets, geth, co_self, co_int, co_own, co_view, co_nilsl, co_agg, co_tup, CoL, coll_self, ecells, nums, oneK, hk])) ?_ trivial (by simp))
    simp -implicitDefEqProofs [hP, resOf, resL, resV, agg_entry, size_entry, one_, ecells, nums, sops_nil, sops_run, sopsk_some, sops_call, sops_guard, sopsg_yes, sopsg_tf, sopsg_ft, sopsg_undef, rg_true, SOp.run, SX.ev, putd, puts, argS, upds, SOp.touch, SSt.keep, SSt.skip, gets, geth, puth, delh, idOf, SV.cells?, setL, fillS, fillR, sbin, eq0, eq1, eqL, rowOf, qseq_n, qseq_e, qseq_r, qblock_n, qblock_r, qblock_e, qloop_e, qloop_r]
  · have hk : e.keys ≠ [] := by simpa using h0
    refine swp_skip ?_
    simp -implicitDefEqProofs [sops_nil, sops_run, sopsk_some, sops_call, sops_guard, sopsg_yes, sopsg_tf, sopsg_ft, sopsg_undef, rg_true, SOp.run, SX.ev, putd, puts, argS, upds, SOp.touch, SSt.keep, SSt.skip, gets, geth, puth, delh, idOf, SV.cells?, setL, fillS, fillR, sbin, eq0, eq1, eqL, rowOf, qseq_n, qseq_e, qseq_r, qblock_n, qblock_r, qblock_e, qloop_e, qloop_r]
    refine swp_seq (swp_reg ?_)
    have hl : 0 < e.keys.length := List.length_pos_iff.2 hk
    have hl1 : (1 : Int) ≤ (e.keys.length : Int) := by omega
    simp -implicitDefEqProofs [c_one_r5, sops_nil, sops_run, sopsk_some, sops_call, sops_guard, sopsg_yes, sopsg_tf, sopsg_ft, sopsg_undef, rg_true, SOp.run, SX.ev, putd, puts, argS, upds, SOp.touch, SSt.keep, SSt.skip, gets, geth, puth, delh, idOf, SV.cells?, setL, fillS, fillR, sbin, eq0, eq1, eqL, rowOf, qseq_n, qseq_e, qseq_r, qblock_n, qblock_r, qblock_e, qloop_e, qloop_r, hl, hl1]
    refine swp_seq (swp_reg ?_)
    simp -implicitDefEqProofs [c_one_r6, sops_nil, sops_run, sopsk_some, sops_call, sops_guard, sopsg_yes, sopsg_tf, sopsg_ft, sopsg_undef, rg_true, SOp.run, SX.ev, putd, puts, argS, upds, SOp.touch, SSt.keep, SSt.skip, gets, geth, puth, delh, idOf, SV.cells?, setL, fillS, fillR, sbin, eq0, eq1, eqL, rowOf, qseq_n, qseq_e, qseq_r, qblock_n, qblock_r, qblock_e, qloop_e, qloop_r]
    refine swp_seq (swp_reg ?_)
    simp -implicitDefEqProofs [c_one_r7, sops_nil, sops_run, sopsk_some, sops_call, sops_guard, sopsg_yes, sopsg_tf, sopsg_ft, sopsg_undef, rg_true, SOp.run, SX.ev, putd, puts, argS, upds, SOp.touch, SSt.keep, SSt.skip, gets, geth, puth, delh, idOf, SV.cells?, setL, fillS, fillR, sbin, eq0, eq1, eqL, rowOf, qseq_n, qseq_e, qseq_r, qblock_n, qblock_r, qblock_e, qloop_e, qloop_r]
    refine swp_ret (qfun_done (s' := ⟨[(2, .ptr 0 0)], [(0, .cells 30 (ecells (oneK e)))], 1⟩) (wk_fz [] [(0, 1)] hm rfl (by simp -implicitDefEqProofs [take_map_len, FrzOk, pureV_int, pureV_bool, pureV_str, pureV_nil, pureV_nilsl, pureV_view, pureV_cp, pureL_nil_, pureL_cons_, pureO_row, pureO_cells, frzS, frzH, frz, frz1, frz0, SlotsM, ObjsM, ObjM, rn, ren, ren1, ren0, gets, geth, co_self, co_int, co_own, co_view, co_nilsl, co_agg, co_tup, CoL, coll_self]) rfl (Nat.zero_le _) (by simp -implicitDefEqProofs [take_map_len, FrzOk, pureV_int, pureV_bool, pureV_str, pureV_nil, pureV_nilsl, pureV_view, pureV_cp, pureL_nil_, pureL_cons_, pureO_row, pureO_cells, frzS, frzH, frz, frz1, frz0, SlotsM, ObjsM, ObjM, rn, ren, ren1, ren0, gets, geth, co_self, co_int, co_own, co_view, co_nilsl, co_agg, co_tup, CoL, coll_self]) (by simp -implicitDefEqProofs [take_map_len, FrzOk, pureV_int, pureV_bool, pureV_str, pureV_nil, pureV_nilsl, pureV_view, pureV_cp, pureL_nil_, pureL_cons_, pureO_row, pureO_cells, frzS, frzH, frz, frz1, frz0, SlotsM, ObjsM, ObjM, rn, ren, ren1, ren0, gets, geth, co_self, co_int, co_own, co_view, co_nilsl, co_agg, co_tup, CoL, coll_self, ecells, nums, oneK, hk])) ?_ trivial (by simp))
    simp -implicitDefEqProofs [hP, resOf, resL, resV, agg_entry, size_entry, one_, ecells, nums, sops_nil, sops_run, sopsk_some, sops_call, sops_guard, sopsg_yes, sopsg_tf, sopsg_ft, sopsg_undef, rg_true, SOp.run, SX.ev, putd, puts, argS, upds, SOp.touch, SSt.keep, SSt.skip, gets, geth, puth, delh, idOf, SV.cells?, setL, fillS, fillR, sbin, eq0, eq1, eqL, rowOf, qseq_n, qseq_e, qseq_r, qblock_n, qblock_r, qblock_e, qloop_e, qloop_r]
end Go.Proofs.Ytfakdapglbgokaa

/-
  The laws' stepsGreat, in the plain machine. No condition.
-/
namespace Go.Proofs.Ytfakdapglbgokaa
set_option linter.all false
open Go.RowKit

def tcells (s : TStep) : List SV := .int .i64 s.d :: ecells s.e
def steps (l : List TStep) : SV := .view 7 (l.map tcells)
def bigE (e : Entry) : Bool := decide (e.keys.length > 20) || (decide (e.masks.length > 20) || decide (e.args.length > 20))
def bigS (l : List TStep) : Bool := decide (l.length > 200) || l.any fun s => bigE s.e
theorem great_s (l : List TStep) : SCalls Try.prog 16 [steps l] [] 0 (.bool (bigS l)) [] := by
  refine scalls_of (N := 41) Try.func16 rfl rfl (by kernel_rfl) comp_c_great (by simp) ⟨rfl, trivial⟩ trivial ?_
  rintro X hP hN hm
  generalize hr : bigS l = r
  have fin : ∀ (r' : Bool) hp nx, r' = r → QFun X (Try.f16).results.toList 0 (.bool r) [] .ret ⟨[(2, .bool r')], hp, nx⟩ := fun r' hp nx hr => by
    rw [hr]
    exact (qfun_done (s' := ⟨[(2, .bool r)], [], 0⟩) (wk_list [] hm rfl (Nat.le_refl _) (by simp -implicitDefEqProofs [take_map_len, FrzOk, pureV_int, pureV_bool, pureV_str, pureV_nil, pureV_nilsl, pureV_view, pureV_cp, pureL_nil_, pureL_cons_, pureO_row, pureO_cells, frzS, frzH, frz, frz1, frz0, SlotsM, ObjsM, ObjM, rn, ren, ren1, ren0, gets, geth, co_self, co_int, co_own, co_view, co_nilsl, co_agg, co_tup, CoL, coll_self]) trivial) rfl trivial (by simp))
  unfold c_great steps
  refine swp_seq (swp_reg ?_)
  simp -implicitDefEqProofs [c_great_r1, sops_nil, sops_run, sopsk_some, sops_call, sops_guard, sopsg_yes, sopsg_tf, sopsg_ft, sopsg_undef, rg_true, SOp.run, SX.ev, putd, puts, argS, upds, SOp.touch, SSt.keep, SSt.skip, gets, geth, puth, delh, idOf, SV.cells?, setL, fillS, fillR, sbin, eq0, eq1, eqL, rowOf, qseq_n, qseq_e, qseq_r, qblock_n, qblock_r, qblock_e, qloop_e, qloop_r]
  refine swp_seq (swp_seq (swp_reg ?_))
  simp -implicitDefEqProofs [c_great_r2, sops_nil, sops_run, sopsk_some, sops_call, sops_guard, sopsg_yes, sopsg_tf, sopsg_ft, sopsg_undef, rg_true, SOp.run, SX.ev, putd, puts, argS, upds, SOp.touch, SSt.keep, SSt.skip, gets, geth, puth, delh, idOf, SV.cells?, setL, fillS, fillR, sbin, eq0, eq1, eqL, rowOf, qseq_n, qseq_e, qseq_r, qblock_n, qblock_r, qblock_e, qloop_e, qloop_r]
  refine swp_cond rfl (fun h => ?_) (fun h => ?_)
  · refine swp_seq (swp_reg ?_)
    simp -implicitDefEqProofs [c_great_r3, sops_nil, sops_run, sopsk_some, sops_call, sops_guard, sopsg_yes, sopsg_tf, sopsg_ft, sopsg_undef, rg_true, SOp.run, SX.ev, putd, puts, argS, upds, SOp.touch, SSt.keep, SSt.skip, gets, geth, puth, delh, idOf, SV.cells?, setL, fillS, fillR, sbin, eq0, eq1, eqL, rowOf, qseq_n, qseq_e, qseq_r, qblock_n, qblock_r, qblock_e, qloop_e, qloop_r]
    refine swp_ret (fin _ _ _ ?_)
    have : l.length > 200 := by simp at h; omega
    rw [← hr]; simp [bigS, this]
  · have h200 : l.length ≤ 200 := by simp at h; omega
    refine swp_skip ?_
    simp -implicitDefEqProofs [sops_nil, sops_run, sopsk_some, sops_call, sops_guard, sopsg_yes, sopsg_tf, sopsg_ft, sopsg_undef, rg_true, SOp.run, SX.ev, putd, puts, argS, upds, SOp.touch, SSt.keep, SSt.skip, gets, geth, puth, delh, idOf, SV.cells?, setL, fillS, fillR, sbin, eq0, eq1, eqL, rowOf, qseq_n, qseq_e, qseq_r, qblock_n, qblock_r, qblock_e, qloop_e, qloop_r]
    refine swp_seq (swp_seq (swp_reg ?_))
    simp -implicitDefEqProofs [c_great_r4, sops_nil, sops_run, sopsk_some, sops_call, sops_guard, sopsg_yes, sopsg_tf, sopsg_ft, sopsg_undef, rg_true, SOp.run, SX.ev, putd, puts, argS, upds, SOp.touch, SSt.keep, SSt.skip, gets, geth, puth, delh, idOf, SV.cells?, setL, fillS, fillR, sbin, eq0, eq1, eqL, rowOf, qseq_n, qseq_e, qseq_r, qblock_n, qblock_r, qblock_e, qloop_e, qloop_r]
    refine swp_block (swp_loop (fun s n => ∃ i : Nat, s = ⟨[(0, steps l), (3, .int .i64 i)], [], 0⟩ ∧ i ≤ l.length ∧ (∀ j s, j < i → l[j]? = some s → bigE s.e = false) ∧ n = l.length - i) (wk_list [] hm rfl (Nat.le_refl _) (by simp -implicitDefEqProofs [take_map_len, FrzOk, pureV_int, pureV_bool, pureV_str, pureV_nil, pureV_nilsl, pureV_view, pureV_cp, pureL_nil_, pureL_cons_, pureO_row, pureO_cells, frzS, frzH, frz, frz1, frz0, SlotsM, ObjsM, ObjM, rn, ren, ren1, ren0, gets, geth, co_self, co_int, co_own, co_view, co_nilsl, co_agg, co_tup, CoL, coll_self, steps]) (by trivial)) ⟨0, rfl, by omega, by intro j s hj; omega, rfl⟩ ?_)
    rintro s n ⟨i, rfl, h1, h2, rfl⟩
    unfold c_great_l1
    refine swp_seq (swp_seq (swp_reg ?_))
    simp -implicitDefEqProofs [c_great_r5, sops_nil, sops_run, sopsk_some, sops_call, sops_guard, sopsg_yes, sopsg_tf, sopsg_ft, sopsg_undef, rg_true, SOp.run, SX.ev, putd, puts, argS, upds, SOp.touch, SSt.keep, SSt.skip, gets, geth, puth, delh, idOf, SV.cells?, setL, fillS, fillR, sbin, eq0, eq1, eqL, rowOf, qseq_n, qseq_e, qseq_r, qblock_n, qblock_r, qblock_e, qloop_e, qloop_r, steps]
    refine swp_cond rfl (fun h3 => swp_skip ?_) (fun h3 => swp_exit ?_)
    · have hi : i < l.length := by simpa using h3
      simp -implicitDefEqProofs [sops_nil, sops_run, sopsk_some, sops_call, sops_guard, sopsg_yes, sopsg_tf, sopsg_ft, sopsg_undef, rg_true, SOp.run, SX.ev, putd, puts, argS, upds, SOp.touch, SSt.keep, SSt.skip, gets, geth, puth, delh, idOf, SV.cells?, setL, fillS, fillR, sbin, eq0, eq1, eqL, rowOf, qseq_n, qseq_e, qseq_r, qblock_n, qblock_r, qblock_e, qloop_e, qloop_r]
      refine swp_seq (swp_block (swp_seq (swp_reg ?_)))
      have yes : bigE l[i].e = true → bigS l = true := fun hb => by
        simp only [bigS, Bool.or_eq_true]
        exact .inr (List.any_eq_true.2 ⟨l[i], List.getElem_mem hi, hb⟩)
      have step : ∀ b hp nx, bigE l[i].e = b → SWp X ((SCode.cond (.t 40) (SCode.seq (.reg false c_great_r7 [2]) .ret) .skip)) (QBlock 1 (QSeq X (.reg false c_great_r8 [0, 3]) (QLoop X (fun s n => ∃ i : Nat, s = ⟨[(0, steps l), (3, .int .i64 i)], [], 0⟩ ∧ i ≤ l.length ∧ (∀ j s, j < i → l[j]? = some s → bigE s.e = false) ∧ n = l.length - i) (l.length - i) (QBlock 0 (QSeq X (SCode.seq (.reg false c_great_r9 [2]) .ret) (QFun X [ResultVar.tmp 2] 0 (.bool r) []))))))
          ⟨[(0, .view 7 (l.map tcells)), (3, .int .i64 i), (40, .bool b)], hp, nx⟩ := by
        intro b hp nx hb
        cases b with
        | true =>
          refine swp_cond rfl (fun _ => ?_) (by simp)
          refine swp_seq (swp_reg ?_)
          simp -implicitDefEqProofs [c_great_r7, sops_nil, sops_run, sopsk_some, sops_call, sops_guard, sopsg_yes, sopsg_tf, sopsg_ft, sopsg_undef, rg_true, SOp.run, SX.ev, putd, puts, argS, upds, SOp.touch, SSt.keep, SSt.skip, gets, geth, puth, delh, idOf, SV.cells?, setL, fillS, fillR, sbin, eq0, eq1, eqL, rowOf, qseq_n, qseq_e, qseq_r, qblock_n, qblock_r, qblock_e, qloop_e, qloop_r]
          refine swp_ret (fin _ _ _ ?_)
          rw [← hr, yes hb]
        | false =>
          refine swp_cond rfl (by simp) (fun _ => swp_skip ?_)
          simp -implicitDefEqProofs [sops_nil, sops_run, sopsk_some, sops_call, sops_guard, sopsg_yes, sopsg_tf, sopsg_ft, sopsg_undef, rg_true, SOp.run, SX.ev, putd, puts, argS, upds, SOp.touch, SSt.keep, SSt.skip, gets, geth, puth, delh, idOf, SV.cells?, setL, fillS, fillR, sbin, eq0, eq1, eqL, rowOf, qseq_n, qseq_e, qseq_r, qblock_n, qblock_r, qblock_e, qloop_e, qloop_r]
          refine swp_reg ?_
          simp -implicitDefEqProofs [c_great_r8, sops_nil, sops_run, sopsk_some, sops_call, sops_guard, sopsg_yes, sopsg_tf, sopsg_ft, sopsg_undef, rg_true, SOp.run, SX.ev, putd, puts, argS, upds, SOp.touch, SSt.keep, SSt.skip, gets, geth, puth, delh, idOf, SV.cells?, setL, fillS, fillR, sbin, eq0, eq1, eqL, rowOf, qseq_n, qseq_e, qseq_r, qblock_n, qblock_r, qblock_e, qloop_e, qloop_r]
          rw [i64_add_ (by omega) (by omega)]
          refine qloop_next (wk_list [] hm rfl (Nat.zero_le _) (by simp -implicitDefEqProofs [take_map_len, FrzOk, pureV_int, pureV_bool, pureV_str, pureV_nil, pureV_nilsl, pureV_view, pureV_cp, pureL_nil_, pureL_cons_, pureO_row, pureO_cells, frzS, frzH, frz, frz1, frz0, SlotsM, ObjsM, ObjM, rn, ren, ren1, ren0, gets, geth, co_self, co_int, co_own, co_view, co_nilsl, co_agg, co_tup, CoL, coll_self, steps]) (by trivial)) ⟨i + 1, rfl, by omega, ?_, rfl⟩ (by omega)
          intro j s hj hs
          rcases Nat.lt_or_ge j i with e | e
          · exact h2 j s e hs
          · obtain rfl : j = i := by omega
            rw [List.getElem?_eq_getElem hi] at hs; cases hs; exact hb
      cases k1 : decide ((20 : Int) < (l[i].e.keys.length : Int))
      · cases k2 : decide ((20 : Int) < (l[i].e.masks.length : Int))
        · simp -implicitDefEqProofs [c_great_r6, sops_nil, sops_run, sopsk_some, sops_call, sops_guard, sopsg_yes, sopsg_tf, sopsg_ft, sopsg_undef, rg_true, SOp.run, SX.ev, putd, puts, argS, upds, SOp.touch, SSt.keep, SSt.skip, gets, geth, puth, delh, idOf, SV.cells?, setL, fillS, fillR, sbin, eq0, eq1, eqL, rowOf, qseq_n, qseq_e, qseq_r, qblock_n, qblock_r, qblock_e, qloop_e, qloop_r, hi, tcells, ecells, nums, k1, k2]
          refine step _ _ _ ?_
          have e1 : ¬ (l[i].e.keys.length > 20) := by simp at k1; omega
          have e2 : ¬ (l[i].e.masks.length > 20) := by simp at k2; omega
          simp only [bigE, decide_eq_false e1, decide_eq_false e2, Bool.false_or]
          apply Bool.eq_iff_iff.2; simp; omega
        · simp -implicitDefEqProofs [c_great_r6, sops_nil, sops_run, sopsk_some, sops_call, sops_guard, sopsg_yes, sopsg_tf, sopsg_ft, sopsg_undef, rg_true, SOp.run, SX.ev, putd, puts, argS, upds, SOp.touch, SSt.keep, SSt.skip, gets, geth, puth, delh, idOf, SV.cells?, setL, fillS, fillR, sbin, eq0, eq1, eqL, rowOf, qseq_n, qseq_e, qseq_r, qblock_n, qblock_r, qblock_e, qloop_e, qloop_r, hi, tcells, ecells, nums, k1, k2]
          refine step _ _ _ ?_
          have e2 : l[i].e.masks.length > 20 := by simp at k2; omega
          simp [bigE, e2]
      · simp -implicitDefEqProofs [c_great_r6, sops_nil, sops_run, sopsk_some, sops_call, sops_guard, sopsg_yes, sopsg_tf, sopsg_ft, sopsg_undef, rg_true, SOp.run, SX.ev, putd, puts, argS, upds, SOp.touch, SSt.keep, SSt.skip, gets, geth, puth, delh, idOf, SV.cells?, setL, fillS, fillR, sbin, eq0, eq1, eqL, rowOf, qseq_n, qseq_e, qseq_r, qblock_n, qblock_r, qblock_e, qloop_e, qloop_r, hi, tcells, ecells, nums, k1]
        refine step _ _ _ ?_
        have e1 : l[i].e.keys.length > 20 := by simp at k1; omega
        simp [bigE, e1]
    · have hi : i = l.length := by have : ¬ i < l.length := by simpa using h3
                                   omega
      subst hi
      simp -implicitDefEqProofs [sops_nil, sops_run, sopsk_some, sops_call, sops_guard, sopsg_yes, sopsg_tf, sopsg_ft, sopsg_undef, rg_true, SOp.run, SX.ev, putd, puts, argS, upds, SOp.touch, SSt.keep, SSt.skip, gets, geth, puth, delh, idOf, SV.cells?, setL, fillS, fillR, sbin, eq0, eq1, eqL, rowOf, qseq_n, qseq_e, qseq_r, qblock_n, qblock_r, qblock_e, qloop_e, qloop_r]
      refine swp_seq (swp_reg ?_)
      simp -implicitDefEqProofs [c_great_r9, sops_nil, sops_run, sopsk_some, sops_call, sops_guard, sopsg_yes, sopsg_tf, sopsg_ft, sopsg_undef, rg_true, SOp.run, SX.ev, putd, puts, argS, upds, SOp.touch, SSt.keep, SSt.skip, gets, geth, puth, delh, idOf, SV.cells?, setL, fillS, fillR, sbin, eq0, eq1, eqL, rowOf, qseq_n, qseq_e, qseq_r, qblock_n, qblock_r, qblock_e, qloop_e, qloop_r]
      refine swp_ret (fin _ _ _ ?_)
      rw [← hr]
      simp only [bigS, Bool.false_eq, Bool.or_eq_false_iff]
      refine ⟨by simp; omega, List.any_eq_false.2 fun s hs => ?_⟩
      obtain ⟨j, hj⟩ := List.getElem?_of_mem hs
      rw [h2 j s (List.getElem?_eq_some_iff.1 hj).1 hj]; simp
end Go.Proofs.Ytfakdapglbgokaa

/-
  The plain machine's code of functions (printed by scode.py). No condition.
-/
namespace Go.Proofs.Ytfakdapglbgokaa
set_option linter.all false
open Go.RowKit
def c_pbeg_r1 : List SOper := [⟨(some 0), .mv (.c (.bool false)), none, none, 0⟩]
def c_pbeg_r2 : List SOper := [⟨(some 10), .mv (.c .any), some ((.c (.fn (.func 17) [] [])), [(.c (.int .i64 8)), (.c (.int .i64 4))]), none, 0⟩,
  ⟨(some 1), .mv (.t 10), none, none, 0⟩]
def c_pbeg_r3 : List SOper := [⟨(some 11), .mv (.t 1), none, none, 0⟩,
  ⟨(some 12), .build [(.int .i64 0), .nilsl] [(0, 1, (.c (.int .i64 1)))], none, none, 0⟩,
  ⟨(some 13), .mv (.c .any), some ((.c (.fn (.func 20) [] [])), [(.t 11), (.c (.int .u64 128)), (.c (.int .i64 1)), (.t 12)]), none, 0⟩,
  ⟨(some 2), .mv (.t 13), none, none, 0⟩]
def c_pbeg_r4 : List SOper := [⟨(some 14), .mv (.t 1), none, none, 0⟩,
  ⟨(some 15), .build [(.int .i64 0), .nilsl] [(0, 1, (.c (.int .i64 2)))], none, none, 0⟩,
  ⟨(some 16), .mv (.c .any), some ((.c (.fn (.func 20) [] [])), [(.t 14), (.c (.int .u64 192)), (.c (.int .i64 2)), (.t 15)]), none, 0⟩,
  ⟨(some 3), .mv (.t 16), none, none, 0⟩]
def c_pbeg_r5 : List SOper := [⟨(some 18), .mv (.t 1), none, none, 0⟩,
  ⟨(some 19), .mv (.c .any), some ((.c (.fn (.func 23) [] [])), [(.t 18), (.c (.int .u64 255))]), none, 0⟩,
  ⟨(some 17), .mv (.t 19), none, none, 0⟩,
  ⟨(some 20), .extr (.t 17) 0, none, none, 0⟩,
  ⟨(some 21), .extr (.t 17) 1, none, none, 0⟩,
  ⟨(some 22), .extr (.t 17) 2, none, none, 0⟩,
  ⟨(some 4), .alloc 37 [(.int .i64 0), .nilsl], none, none, 0⟩,
  ⟨none, .store 2 (.t 4) (.t 20), none, none, 0⟩,
  ⟨(some 5), .mv (.t 21), none, none, 0⟩,
  ⟨(some 6), .mv (.t 22), none, none, 0⟩]
def c_pbeg_r6 : List SOper := [⟨(some 24), .mv (.t 1), none, none, 0⟩,
  ⟨(some 25), .mv (.c .any), some ((.c (.fn (.func 23) [] [])), [(.t 24), (.c (.int .u64 129))]), none, 0⟩,
  ⟨(some 23), .mv (.t 25), none, none, 0⟩,
  ⟨(some 26), .extr (.t 23) 0, none, none, 0⟩,
  ⟨(some 27), .extr (.t 23) 1, none, none, 0⟩,
  ⟨(some 28), .extr (.t 23) 2, none, none, 0⟩,
  ⟨(some 7), .alloc 37 [(.int .i64 0), .nilsl], none, none, 0⟩,
  ⟨none, .store 2 (.t 7) (.t 26), none, none, 0⟩,
  ⟨(some 8), .mv (.t 27), none, none, 0⟩,
  ⟨(some 9), .mv (.t 28), none, none, 0⟩]
def c_pbeg_r7 : List SOper := [⟨(some 29), .mv (.t 2), none, none, 0⟩,
  ⟨(some 30), .bin .eql (.t 29) (.c (.int .i64 0)), none, none, 0⟩,
  ⟨(some 31), .mv (.t 30), none, none, 0⟩,
  ⟨(some 32), .mv (.t 3), none, (some (31, true)), 0⟩,
  ⟨(some 33), .bin .eql (.t 32) (.c (.int .i64 0)), none, (some (31, true)), 0⟩,
  ⟨(some 34), .pick (.t 31) (.t 33) (.c (.bool false)), none, none, 0⟩,
  ⟨(some 35), .mv (.t 34), none, none, 0⟩,
  ⟨(some 36), .mv (.t 6), none, (some (35, true)), 0⟩,
  ⟨(some 37), .pick (.t 35) (.t 36) (.c (.bool false)), none, none, 0⟩,
  ⟨(some 38), .mv (.t 37), none, none, 0⟩,
  ⟨(some 39), .mv (.t 9), none, (some (38, true)), 0⟩,
  ⟨(some 40), .pick (.t 38) (.t 39) (.c (.bool false)), none, none, 0⟩,
  ⟨(some 41), .mv (.t 40), none, none, 0⟩,
  ⟨(some 42), .faddr 0 (.t 4), none, (some (41, true)), 0⟩,
  ⟨(some 43), .load (.t 42), none, (some (41, true)), 0⟩,
  ⟨(some 44), .bin .eql (.t 43) (.c (.int .i64 2)), none, (some (41, true)), 0⟩,
  ⟨(some 45), .pick (.t 41) (.t 44) (.c (.bool false)), none, none, 0⟩,
  ⟨(some 46), .mv (.t 45), none, none, 0⟩,
  ⟨(some 47), .mv (.t 5), none, (some (46, true)), 0⟩,
  ⟨(some 48), .bin .eql (.t 47) (.c (.int .i64 2)), none, (some (46, true)), 0⟩,
  ⟨(some 49), .pick (.t 46) (.t 48) (.c (.bool false)), none, none, 0⟩,
  ⟨(some 50), .mv (.t 49), none, none, 0⟩,
  ⟨(some 51), .faddr 0 (.t 7), none, (some (50, true)), 0⟩,
  ⟨(some 52), .load (.t 51), none, (some (50, true)), 0⟩,
  ⟨(some 53), .bin .eql (.t 52) (.c (.int .i64 1)), none, (some (50, true)), 0⟩,
  ⟨(some 54), .pick (.t 50) (.t 53) (.c (.bool false)), none, none, 0⟩,
  ⟨(some 55), .mv (.t 54), none, none, 0⟩,
  ⟨(some 56), .mv (.t 8), none, (some (55, true)), 0⟩,
  ⟨(some 57), .bin .eql (.t 56) (.c (.int .i64 1)), none, (some (55, true)), 0⟩,
  ⟨(some 58), .pick (.t 55) (.t 57) (.c (.bool false)), none, none, 0⟩,
  ⟨(some 0), .mv (.t 58), none, none, 0⟩]
def c_pbeg : SCode := (.seq (.reg false c_pbeg_r1 []) (.seq (.reg false c_pbeg_r2 [1]) (.seq (.reg false c_pbeg_r3 [1, 2]) (.seq (.reg false c_pbeg_r4 [1, 2, 3]) (.seq (.reg false c_pbeg_r5 [1, 2, 3, 4, 5, 6]) (.seq (.reg false c_pbeg_r6 [2, 3, 4, 5, 6, 7, 8, 9]) (.seq (.reg false c_pbeg_r7 [0]) .ret)))))))
theorem comp_c_pbeg : comp Try.prog 59 ((Try.f15.body).getD .skip) = some c_pbeg.erase := by kernel_rfl
def c_plong_r1 : List SOper := [⟨(some 6), .mv (.c (.bool false)), none, none, 0⟩]
def c_plong_r2 : List SOper := [⟨(some 17), .mv (.c .any), some ((.c (.fn (.func 15) [] [])), []), none, 0⟩,
  ⟨(some 18), .un .not (.t 17), none, none, 0⟩]
def c_plong_r3 : List SOper := [⟨(some 6), .mv (.c (.bool false)), none, none, 0⟩]
def c_plong_r4 : List SOper := [⟨(some 19), .mv (.t 1), none, none, 0⟩,
  ⟨(some 20), .mv (.c .any), some ((.c (.fn (.func 16) [] [])), [(.t 19)]), none, 0⟩,
  ⟨(some 21), .mv (.t 20), none, none, 0⟩,
  ⟨(some 22), .mv (.t 0), none, (some (21, false)), 0⟩,
  ⟨(some 23), .bin .lss (.t 22) (.c (.int .i64 1)), none, (some (21, false)), 0⟩,
  ⟨(some 24), .pick (.t 21) (.c (.bool true)) (.t 23), none, none, 0⟩,
  ⟨(some 25), .mv (.t 24), none, none, 0⟩,
  ⟨(some 26), .mv (.t 0), none, (some (25, false)), 0⟩,
  ⟨(some 27), .bin .gtr (.t 26) (.c (.int .i64 64)), none, (some (25, false)), 0⟩,
  ⟨(some 28), .pick (.t 25) (.c (.bool true)) (.t 27), none, none, 0⟩]
def c_plong_r5 : List SOper := [⟨(some 6), .mv (.c (.bool true)), none, none, 0⟩]
def c_plong_r6 : List SOper := [⟨(some 29), .mv (.t 0), none, none, 0⟩,
  ⟨(some 30), .mv (.c .any), some ((.c (.fn (.func 17) [] [])), [(.t 29), (.c (.int .i64 100))]), none, 0⟩,
  ⟨(some 7), .mv (.t 30), none, none, 0⟩]
def c_plong_r7 : List SOper := [⟨(some 8), .mv (.c (.int .i64 0)), none, none, 0⟩]
def c_plong_r8 : List SOper := [⟨(some 31), .mv (.t 8), none, none, 0⟩,
  ⟨(some 32), .mv (.t 1), none, none, 0⟩,
  ⟨(some 33), .len false (.t 32), none, none, 0⟩,
  ⟨(some 34), .bin .lss (.t 31) (.t 33), none, none, 0⟩]
def c_plong_r9 : List SOper := [⟨(some 37), .mv (.t 1), none, none, 0⟩,
  ⟨(some 38), .mv (.t 8), none, none, 0⟩,
  ⟨(some 39), .iaddr 7 (.t 37) (.t 38), none, none, 0⟩,
  ⟨(some 40), .faddr 1 (.t 39), none, none, 0⟩,
  ⟨(some 41), .loads 6 (.t 40), none, none, 0⟩,
  ⟨(some 42), .mv (.c .any), some ((.c (.fn (.func 18) [] [])), [(.t 41)]), none, 0⟩,
  ⟨(some 9), .alloc 30 [.nilsl, .nilsl, (.int .i64 0), (.int .i64 0), (.int .i64 0), .nilsl], none, none, 0⟩,
  ⟨none, .store 6 (.t 9) (.t 42), none, none, 0⟩]
def c_plong_r10 : List SOper := [⟨(some 43), .mv (.t 1), none, none, 0⟩,
  ⟨(some 44), .mv (.t 8), none, none, 0⟩,
  ⟨(some 45), .iaddr 7 (.t 43) (.t 44), none, none, 0⟩,
  ⟨(some 46), .faddr 0 (.t 45), none, none, 0⟩,
  ⟨(some 47), .load (.t 46), none, none, 0⟩,
  ⟨(some 48), .bin .eql (.t 47) (.c (.int .i64 2)), none, none, 0⟩]
def c_plong_r11 : List SOper := [⟨(some 49), .mv (.t 7), none, none, 0⟩,
  ⟨(some 50), .faddr 0 (.t 9), none, none, 0⟩,
  ⟨(some 51), .load (.t 50), none, none, 2⟩,
  ⟨(some 52), .iaddr 1 (.t 51) (.c (.int .i64 0)), none, none, 6⟩,
  ⟨(some 53), .load (.t 52), none, none, 14⟩,
  ⟨(some 54), .faddr 2 (.t 9), none, none, 0⟩,
  ⟨(some 55), .load (.t 54), none, none, 32⟩,
  ⟨(some 56), .mv (.c .any), some ((.c (.fn (.func 19) [] [])), [(.t 49), (.t 53), (.t 55)]), none, 127⟩]
def c_plong_r12 : List SOper := [⟨(some 57), .mv (.t 7), none, none, 0⟩,
  ⟨(some 58), .faddr 0 (.t 9), none, none, 0⟩,
  ⟨(some 59), .load (.t 58), none, none, 2⟩,
  ⟨(some 60), .iaddr 1 (.t 59) (.c (.int .i64 0)), none, none, 6⟩,
  ⟨(some 61), .load (.t 60), none, none, 14⟩,
  ⟨(some 62), .faddr 2 (.t 9), none, none, 0⟩,
  ⟨(some 63), .load (.t 62), none, none, 32⟩,
  ⟨(some 64), .loads 6 (.t 9), none, none, 0⟩,
  ⟨(some 65), .mv (.c .any), some ((.c (.fn (.func 21) [] [])), [(.t 64)]), none, 128⟩,
  ⟨(some 66), .mv (.c .any), some ((.c (.fn (.func 20) [] [])), [(.t 57), (.t 61), (.t 63), (.t 65)]), none, 511⟩]
def c_plong_r13 : List SOper := [⟨(some 35), .mv (.t 8), none, none, 0⟩,
  ⟨(some 36), .bin .add (.t 35) (.c (.int .i64 1)), none, none, 0⟩,
  ⟨(some 8), .mv (.t 36), none, none, 0⟩]
def c_plong_l1 : SCode := (.seq (.seq (.reg false c_plong_r8 [0, 1, 2, 7, 8, 34]) (.cond (.t 34) .skip (.exit 0))) (.seq (.block 1 (.seq (.reg false c_plong_r9 [0, 1, 2, 7, 8, 9]) (.seq (.reg false c_plong_r10 [0, 1, 2, 7, 8, 9, 48]) (.cond (.t 48) (.reg true c_plong_r11 [0, 1, 2, 7, 8]) (.reg true c_plong_r12 [0, 1, 2, 7, 8]))))) (.reg false c_plong_r13 [0, 1, 2, 7, 8])))
def c_plong_r14 : List SOper := [⟨(some 67), .mv (.t 2), none, none, 0⟩,
  ⟨(some 68), .mv (.t 0), none, none, 0⟩,
  ⟨(some 69), .mv (.c .any), some ((.c (.fn (.func 22) [] [])), [(.t 68)]), none, 0⟩,
  ⟨(some 70), .bin .and (.t 67) (.t 69), none, none, 0⟩,
  ⟨(some 2), .mv (.t 70), none, none, 0⟩]
def c_plong_r15 : List SOper := [⟨(some 72), .mv (.t 7), none, none, 0⟩,
  ⟨(some 73), .mv (.t 2), none, none, 0⟩,
  ⟨(some 74), .mv (.c .any), some ((.c (.fn (.func 23) [] [])), [(.t 72), (.t 73)]), none, 0⟩,
  ⟨(some 71), .mv (.t 74), none, none, 0⟩,
  ⟨(some 75), .extr (.t 71) 0, none, none, 0⟩,
  ⟨(some 76), .extr (.t 71) 1, none, none, 0⟩,
  ⟨(some 77), .extr (.t 71) 2, none, none, 0⟩,
  ⟨(some 10), .alloc 37 [(.int .i64 0), .nilsl], none, none, 0⟩,
  ⟨none, .store 2 (.t 10) (.t 75), none, none, 0⟩,
  ⟨(some 11), .mv (.t 76), none, none, 0⟩,
  ⟨(some 12), .mv (.t 77), none, none, 0⟩]
def c_plong_r16 : List SOper := [⟨(some 78), .mv (.t 7), none, none, 0⟩,
  ⟨(some 79), .mv (.c .any), some ((.c (.fn (.func 24) [] [])), [(.t 78)]), none, 0⟩,
  ⟨(some 13), .mv (.t 79), none, none, 0⟩]
def c_plong_r17 : List SOper := [⟨(some 14), .mv (.c (.int .i64 (-1))), none, none, 0⟩]
def c_plong_r18 : List SOper := [⟨(some 15), .mv (.c (.int .i64 0)), none, none, 0⟩]
def c_plong_r19 : List SOper := [⟨(some 80), .mv (.t 15), none, none, 0⟩,
  ⟨(some 81), .mv (.t 13), none, none, 0⟩,
  ⟨(some 82), .len false (.t 81), none, none, 0⟩,
  ⟨(some 83), .bin .lss (.t 80) (.t 82), none, none, 0⟩]
def c_plong_r20 : List SOper := [⟨(some 86), .mv (.t 0), none, none, 0⟩,
  ⟨(some 87), .mv (.t 13), none, none, 0⟩,
  ⟨(some 88), .mv (.t 15), none, none, 0⟩,
  ⟨(some 89), .iaddr 6 (.t 87) (.t 88), none, none, 0⟩,
  ⟨(some 90), .faddr 2 (.t 89), none, none, 0⟩,
  ⟨(some 91), .load (.t 90), none, none, 0⟩,
  ⟨(some 92), .bin .sub (.t 86) (.t 91), none, none, 0⟩,
  ⟨(some 93), .mv (.c .any), some ((.c (.fn (.func 22) [] [])), [(.t 92)]), none, 0⟩,
  ⟨(some 16), .mv (.t 93), none, none, 0⟩]
def c_plong_r21 : List SOper := [⟨(some 94), .mv (.t 2), none, none, 0⟩,
  ⟨(some 95), .mv (.t 2), none, none, 0⟩,
  ⟨(some 96), .mv (.t 16), none, none, 0⟩,
  ⟨(some 97), .bin .and (.t 95) (.t 96), none, none, 6⟩,
  ⟨(some 98), .bin .sub (.t 94) (.t 97), none, none, 15⟩,
  ⟨(some 99), .mv (.t 13), none, none, 0⟩,
  ⟨(some 100), .mv (.t 15), none, none, 0⟩,
  ⟨(some 101), .iaddr 6 (.t 99) (.t 100), none, none, 96⟩,
  ⟨(some 102), .faddr 0 (.t 101), none, none, 224⟩,
  ⟨(some 103), .load (.t 102), none, none, 480⟩,
  ⟨(some 104), .iaddr 1 (.t 103) (.c (.int .i64 0)), none, none, 992⟩,
  ⟨(some 105), .load (.t 104), none, none, 2016⟩,
  ⟨(some 106), .bin .eql (.t 98) (.t 105), none, none, 4095⟩,
  ⟨(some 107), .mv (.t 106), none, none, 8191⟩,
  ⟨(some 108), .mv (.t 14), none, (some (107, true)), 16383⟩,
  ⟨(some 109), .bin .lss (.t 108) (.c (.int .i64 0)), none, (some (107, true)), 32767⟩,
  ⟨(some 110), .mv (.t 109), none, (some (107, true)), 65535⟩,
  ⟨(some 111), .mv (.t 13), none, (some (110, false)), 131071⟩,
  ⟨(some 112), .mv (.t 15), none, (some (110, false)), 131071⟩,
  ⟨(some 113), .iaddr 6 (.t 111) (.t 112), none, (some (110, false)), 524287⟩,
  ⟨(some 114), .faddr 2 (.t 113), none, (some (110, false)), 1048575⟩,
  ⟨(some 115), .load (.t 114), none, (some (110, false)), 2097151⟩,
  ⟨(some 116), .mv (.t 13), none, (some (110, false)), 131071⟩,
  ⟨(some 117), .mv (.t 14), none, (some (110, false)), 131071⟩,
  ⟨(some 118), .iaddr 6 (.t 116) (.t 117), none, (some (110, false)), 12713983⟩,
  ⟨(some 119), .faddr 2 (.t 118), none, (some (110, false)), 29491199⟩,
  ⟨(some 120), .load (.t 119), none, (some (110, false)), 63045631⟩,
  ⟨(some 121), .bin .gtr (.t 115) (.t 120), none, (some (110, false)), 134217727⟩,
  ⟨(some 122), .pick (.t 110) (.c (.bool true)) (.t 121), none, (some (107, true)), 268435455⟩,
  ⟨(some 123), .pick (.t 107) (.t 122) (.c (.bool false)), none, none, 536870911⟩]
def c_plong_r22 : List SOper := [⟨(some 124), .mv (.t 15), none, none, 0⟩,
  ⟨(some 14), .mv (.t 124), none, none, 0⟩]
def c_plong_r23 : List SOper := [⟨(some 84), .mv (.t 15), none, none, 0⟩,
  ⟨(some 85), .bin .add (.t 84) (.c (.int .i64 1)), none, none, 0⟩,
  ⟨(some 15), .mv (.t 85), none, none, 0⟩]
def c_plong_l2 : SCode := (.seq (.seq (.reg false c_plong_r19 [0, 2, 10, 11, 12, 13, 14, 15, 83]) (.cond (.t 83) .skip (.exit 2))) (.seq (.block 3 (.seq (.reg false c_plong_r20 [0, 2, 10, 11, 12, 13, 14, 15, 16]) (.seq (.reg true c_plong_r21 [0, 2, 10, 11, 12, 13, 14, 15, 123]) (.cond (.t 123) (.reg false c_plong_r22 [0, 2, 10, 11, 12, 13, 14, 15]) .skip)))) (.reg false c_plong_r23 [0, 2, 10, 11, 12, 13, 14, 15])))
def c_plong_r24 : List SOper := [⟨(some 125), .mv (.t 14), none, none, 0⟩,
  ⟨(some 126), .bin .lss (.t 125) (.c (.int .i64 0)), none, none, 0⟩]
def c_plong_r25 : List SOper := [⟨(some 127), .mv (.t 12), none, none, 0⟩,
  ⟨(some 128), .un .not (.t 127), none, none, 0⟩,
  ⟨(some 6), .mv (.t 128), none, none, 0⟩]
def c_plong_r26 : List SOper := [⟨(some 129), .mv (.t 12), none, none, 0⟩,
  ⟨(some 130), .mv (.t 129), none, none, 1⟩,
  ⟨(some 131), .mv (.t 11), none, (some (130, true)), 3⟩,
  ⟨(some 132), .mv (.t 13), none, (some (130, true)), 3⟩,
  ⟨(some 133), .mv (.t 14), none, (some (130, true)), 3⟩,
  ⟨(some 134), .iaddr 6 (.t 132) (.t 133), none, (some (130, true)), 27⟩,
  ⟨(some 135), .faddr 2 (.t 134), none, (some (130, true)), 59⟩,
  ⟨(some 136), .load (.t 135), none, (some (130, true)), 123⟩,
  ⟨(some 137), .bin .eql (.t 131) (.t 136), none, (some (130, true)), 255⟩,
  ⟨(some 138), .pick (.t 130) (.t 137) (.c (.bool false)), none, none, 511⟩,
  ⟨(some 139), .mv (.t 138), none, none, 1023⟩,
  ⟨(some 140), .loads 2 (.t 10), none, (some (139, true)), 2047⟩,
  ⟨(some 141), .mv (.t 13), none, (some (139, true)), 2047⟩,
  ⟨(some 142), .mv (.t 14), none, (some (139, true)), 2047⟩,
  ⟨(some 143), .iaddr 6 (.t 141) (.t 142), none, (some (139, true)), 14335⟩,
  ⟨(some 144), .loads 6 (.t 143), none, (some (139, true)), 30719⟩,
  ⟨(some 145), .mv (.c .any), some ((.c (.fn (.func 21) [] [])), [(.t 144)]), (some (139, true)), 63487⟩,
  ⟨(some 146), .mv (.c .any), some ((.c (.fn (.func 25) [] [])), [(.t 140), (.t 145)]), (some (139, true)), 131071⟩,
  ⟨(some 147), .pick (.t 139) (.t 146) (.c (.bool false)), none, none, 262143⟩,
  ⟨(some 6), .mv (.t 147), none, none, 524287⟩]
def c_plong : SCode := (.seq (.reg false c_plong_r1 [0, 1, 2]) (.seq (.seq (.reg false c_plong_r2 [0, 1, 2, 18]) (.cond (.t 18) (.seq (.reg false c_plong_r3 [6]) .ret) .skip)) (.seq (.seq (.reg false c_plong_r4 [0, 1, 2, 28]) (.cond (.t 28) (.seq (.reg false c_plong_r5 [6]) .ret) .skip)) (.seq (.reg false c_plong_r6 [0, 1, 2, 7]) (.seq (.seq (.reg false c_plong_r7 [0, 1, 2, 7, 8]) (.block 0 (.loop c_plong_l1))) (.seq (.reg false c_plong_r14 [0, 2, 7]) (.seq (.reg false c_plong_r15 [0, 2, 7, 10, 11, 12]) (.seq (.reg false c_plong_r16 [0, 2, 10, 11, 12, 13]) (.seq (.reg false c_plong_r17 [0, 2, 10, 11, 12, 13, 14]) (.seq (.seq (.reg false c_plong_r18 [0, 2, 10, 11, 12, 13, 14, 15]) (.block 2 (.loop c_plong_l2))) (.seq (.seq (.reg false c_plong_r24 [10, 11, 12, 13, 14, 126]) (.cond (.t 126) (.seq (.reg false c_plong_r25 [6]) .ret) .skip)) (.seq (.reg true c_plong_r26 [6]) .ret))))))))))))
theorem comp_c_plong : comp Try.prog 148 ((Try.f3.body).getD .skip) = some c_plong.erase := by kernel_rfl
end Go.Proofs.Ytfakdapglbgokaa

/-
  What a layout says of the numbers in a thing. No condition.
-/
namespace Go.Proofs.Ytfakdapglbgokaa
set_option linter.all false
open Go.RowKit
def LayF {α : Type} (L : Lay α) (ok : α → Prop) : Prop := ∀ A w x cs, L.rep A w x cs → ok x
theorem layF_int (k : IntKind) : LayF (Lay.int k) (fun x => Fits k x) := fun A w x cs h => h.2
theorem layF_bool : LayF Lay.bool (fun _ => True) := fun A w x cs h => trivial
theorem layF_pair {α β : Type} {L : Lay α} {M : Lay β} {f : α → Prop} {g : β → Prop} (hf : LayF L f) (hg : LayF M g) : LayF (Lay.pair L M) (fun x => f x.1 ∧ g x.2) := fun A w x cs h => by
  obtain ⟨c, d, rfl, h1, h2⟩ := h
  exact ⟨hf _ _ _ _ h1, hg _ _ _ _ h2⟩
theorem layF_map {α β : Type} {L : Lay α} {f : α → Prop} (g : β → α) (hf : LayF L f) : LayF (Lay.map g L) (fun x => f (g x)) := fun A w x cs h => hf _ _ _ _ h
theorem layF_row {α : Type} {L : Lay α} {f : α → Prop} (hf : LayF L f) {A : Nat → Prop} {w : World} {ao : Option Addr} {n c : Nat} {xs : List α} (h : RdL L A w ao n c xs) : ∀ x ∈ xs, f x := fun x hx => by
  obtain ⟨i, hi0⟩ := List.getElem?_of_mem hx
  obtain ⟨hi, rfl⟩ := List.getElem?_eq_some_iff.1 hi0
  obtain ⟨b, off, _, _, _, hh⟩ := h.here (by have := h.len; omega)
  obtain ⟨cs, h1, _⟩ := hh i hi
  exact hf _ _ _ _ h1
theorem layF_slice {α : Type} {L : Lay α} {f : α → Prop} (hf : LayF L f) : LayF (Lay.slice L) (fun xs => ∀ x ∈ xs, f x) := fun A w x cs h => by
  obtain ⟨ao, n, c, rfl, h1⟩ := h
  exact layF_row hf h1
end Go.Proofs.Ytfakdapglbgokaa
