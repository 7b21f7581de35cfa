/-
  Texts joined: XGrdR XGrdS XGrdT XGrdU XGrdV XGrdW. No condition.
-/
import Derived.Test.YtfakdapglbgokaaJ32
import Derived.Test.YtfakdapglbgokaaI3
import Derived.Test.YtfakdapglbgokaaI30
/-
  The reference of package guard, in the plain machine: GuardFault. No condition.
-/
-- v2
namespace Go.Proofs.Ytfakdapglbgokaa
set_option linter.all false
open Go.RowKit
attribute [local simp] sops_nil sops_run sopsk_some sops_call sops_guard sopsg_yes sopsg_tf sopsg_ft sopsg_undef rg_true SOp.run SX.ev putd puts argS upds SOp.touch SSt.keep SSt.skip gets geth puth delh idOf SV.cells? setL fillS fillR sbin eq0 eq1 eqL rowOf qseq_n qseq_e qseq_r qblock_n qblock_r qblock_e qloop_e qloop_r take_map_len FrzOk pureV_int pureV_bool pureV_str pureV_nil pureV_nilsl pureV_view pureV_cp pureL_nil_ pureL_cons_ pureO_row pureO_cells frzS frzH frz frz1 frz0 SlotsM ObjsM ObjM rn ren ren1 ren0 co_self co_int co_own co_view co_nilsl co_agg co_tup CoL coll_self mergeH dels adds idsH okNames
theorem f_s (a b : Int) (q : Nat) : SCalls Try.prog 90 [.int .i64 a, .int .i64 b] [] q (faultV (a, b)) [] := by
  refine scalls_in (Enters.of Try.func90 rfl rfl) (fun O w vs hO h => ?_) (fun σ => rfl) q
  obtain ⟨v, us, rfl, h1, h2⟩ := Reps.cons_inv h
  obtain ⟨v2, us, rfl, h3, h4⟩ := Reps.cons_inv h2
  have := h4.nil_inv; subst this
  cases h1; cases h3
  refine (F_any a b w).mono ?_
  rintro e w' ⟨rfl, rfl⟩
  exact ⟨_, rfl, Below.alloc (.refl _ _) (Nat.le_refl _) _, rep_fault _⟩
theorem bcs_take (l : List Bool) : (bcs l).take l.length = bcs l := by rw [← bcs_len]; exact List.take_length
theorem ucs_take (l : List Int) : (ucs l).take l.length = ucs l := by rw [← ucs_len]; exact List.take_length
theorem ics_take (l : List Int) : (ics l).take l.length = ics l := by rw [← ics_len]; exact List.take_length
theorem ocv_len (a : Option RK) : (ocv a).length = 6 := by cases a <;> rfl
theorem ocv_take (a : Option RK) : (ocv a).take 6 = ocv a := by rw [← ocv_len a]; exact List.take_length
theorem ocvs (k : RK) : ocv (some k) = [.bool k.there, .view 1 (bcs k.set), .view 1 (bcs k.just), .view 1 (ucs k.num), .view 1 (ics k.room), .view 1 (bcs k.slot)] := rfl
theorem ocv_set (o : Option RK) (a b c d e f : SV) : ((((((ocv o).set 0 a).set 1 b).set 2 c).set 3 d).set 4 e).set 5 f = [a, b, c, d, e, f] := by cases o <;> rfl
theorem frz_ocv (g : Nat → Option SObj) (D : List Nat) (a : List (Option RK)) : List.map (List.map (frz0 g D)) (List.map ocv a) = List.map ocv a := by
  rw [List.map_map]; exact List.map_congr_left fun x _ => by cases x <;> rfl
theorem frz_ocv' (g : Nat → Option SObj) (D : List Nat) (a : List (Option RK)) : List.map (List.map (frz0 g D) ∘ ocv) a = List.map ocv a := by rw [← List.map_map]; exact frz_ocv g D a
theorem frz_bcs (g : Nat → Option SObj) (D : List Nat) (a : List Bool) : List.map (List.map (frz0 g D)) (bcs a) = bcs a := by unfold bcs; rw [List.map_map]; exact List.map_congr_left fun x _ => rfl
theorem frz_ucs (g : Nat → Option SObj) (D : List Nat) (a : List Int) : List.map (List.map (frz0 g D)) (ucs a) = ucs a := by unfold ucs; rw [List.map_map]; exact List.map_congr_left fun x _ => rfl
theorem frz_ics (g : Nat → Option SObj) (D : List Nat) (a : List Int) : List.map (List.map (frz0 g D)) (ics a) = ics a := by unfold ics; rw [List.map_map]; exact List.map_congr_left fun x _ => rfl
set_option maxHeartbeats 8000000 in
theorem gfault_s (p : Prog) (hp : PWf p) : SCalls Try.prog 69 [.agg (pcv p)] [] 0 (faultV (rF p)) [] := by
  refine scalls_of (N := 137) Try.func69 rfl rfl (by kernel_rfl) comp_c_gfault (by simp) ⟨rfl, trivial⟩ trivial ?_
  rintro X hP hN hm
  obtain ⟨slots, tabs, code⟩ := p
  have fin : ∀ y cs hp' nx, cs = [.int .i64 (rF ⟨slots, tabs, code⟩).1, .int .i64 (rF ⟨slots, tabs, code⟩).2] → QFun X [ResultVar.cell 2 65] 0 (faultV (rF ⟨slots, tabs, code⟩)) [] .ret ⟨[(2, .ptr 1 0)], (0, y) :: (1, .cells 65 cs) :: hp', nx⟩ := fun y cs hp' nx hc => by
    subst hc
    exact qfun_done (s' := ⟨[(2, .ptr 0 0)], [(0, .cells 65 [.int .i64 (rF ⟨slots, tabs, code⟩).1, .int .i64 (rF ⟨slots, tabs, code⟩).2])], 1⟩) (wk_list [(0, 1)] hm rfl (by simp) (by simp -implicitDefEqProofs) (by simp -implicitDefEqProofs)) (by simp -implicitDefEqProofs [hP, resOf, resL, resV, agg_fault, size_fault, one_, faultV]) trivial (by simp)
  unfold c_gfault
  by_cases h0 : (progF ⟨slots, tabs, code⟩).1 = 0
  · obtain ⟨hv, _⟩ := progF_valid hp.c h0
    have hcl : code.length ≤ 60000 := hv.code.2
    have hsl : 0 ≤ slots ∧ slots ≤ 96 := hv.slots
    obtain ⟨n, rfl⟩ : ∃ n : Nat, slots = n := ⟨slots.toNat, by omega⟩
    have hn96 : n ≤ 96 := by omega
    replace hv := Lib.hid hv
    have w1 : IntKind.i64.wrap ((code.length : Int) + 1) = (code.length : Int) + 1 := i64_add_ (by omega) (by omega)
    have w2 : ((code.length : Int) + 1).toNat = code.length + 1 := by omega
    have w3 : 0 ≤ (code.length : Int) + 1 := by omega
    have w4 : (code.length : Int) + 1 ≤ (maxLen : Nat) := by unfold maxLen; omega
    have w5 : ((code.length : Int) + 1) * 128 ≤ 140737488355328 := by omega
    repeat' (first
        | (with_reducible refine swp_seq ?_)
        | ((with_reducible refine swp_reg ?_); (try rw [hP]); simp -implicitDefEqProofs [pcv, faultV, RK.own, RK.hp, List.replicate_succ, *])
        | ((with_reducible refine swp_regd (by rw [hP]; exact mixed) ?_); (try rw [hP]); simp -implicitDefEqProofs [pcv, faultV, RK.own, RK.hp, List.replicate_succ, *])
        | ((with_reducible refine swp_skip ?_); (try simp -implicitDefEqProofs [pcv, faultV, RK.own, RK.hp, List.replicate_succ, *]))
        | ((with_reducible refine swp_exit ?_); (try simp -implicitDefEqProofs [pcv, faultV, RK.own, RK.hp, List.replicate_succ, *]))
        | ((with_reducible refine swp_ret ?_); (try simp only [qseq_r, qblock_r, qloop_r]))
        | ((with_reducible refine swp_cond rfl (fun h => ?_) (fun h => ?_)) <;> have h' := h <;> (try simp at h') <;> (try subst h'))
        | ((with_reducible refine sopsg_cases (fun h => ?_) (fun h => ?_)) <;> have h' := h <;> (try simp at h') <;> (try subst h') <;> simp -implicitDefEqProofs [pcv, faultV, RK.own, RK.hp, List.replicate_succ, *])
        | ((with_reducible refine draw_ok ?_ ?_); (focus rfl))
        | ((with_reducible refine sopsk_rg ?_ ?_); (first | omega | (unfold maxLen; omega)); simp -implicitDefEqProofs [pcv, faultV, RK.own, RK.hp, List.replicate_succ, *])
        | (with_reducible refine swp_block1 ?_)
        | (with_reducible refine swp_block2 ?_)
        | ((with_reducible refine wk_self [] hm ?_ ?_ ?_ ?_) <;> (try simp only [SSt.turn, setSs, setS, putHs, puth, Nat.reduceEqDiff, reduceIte, Nat.reduceAdd]))
        | (with_reducible exact slotsM_nil)
        | (with_reducible refine slotsM_cons ?_ ?_)
        | (with_reducible exact objsM_nil)
        | (with_reducible refine objsM_cells (cs := ?_) ?_ ?_ ?_)
        | (with_reducible refine objsM_rowm (es := ?_) ?_ ?_ ?_)
        | (with_reducible refine objsM_rowc (es := ?_) ?_ ?_ ?_)
        | (with_reducible refine objsM_abs ?_ ?_)
        | (with_reducible exact subH_nil)
        | (with_reducible refine subH_cons ?_ ?_)
        | ((with_reducible show geth _ _ = some _); (focus rfl))
        | ((with_reducible show (_ : List (List SV)) = _); (focus (first | (with_reducible rfl) | rfl | (simp; done))))
        | ((with_reducible show okNames _ _ _ _ = true); (focus rfl))
        | ((with_reducible show (_ : Nat) ≤ _); (focus (first | omega | (simp; done))))
        | ((with_reducible show (_ : Nat) < _); (focus omega))
        | (refine co_wrap ⟨?_, ?_⟩ ?_ <;> (focus omega))
        | (with_reducible exact Co.refl _)
        | (with_reducible exact CoL.refl _)
        | (with_reducible exact CoLL.refl _)
        | (exact Co.refl _)
        | (exact CoL.refl _)
        | (exact CoLL.refl _)
        | (refine co_own ?_; (focus omega))
        | (refine co_int ?_; (focus omega))
        | (with_reducible refine coL_cons ?_ ?_)
        | (with_reducible exact coL_nilm)
        | (with_reducible refine coL_consm ?_ ?_)
        | (refine call_q (rcheck_s ⟨n, tabs, code⟩ hp _) ?_; simp -implicitDefEqProofs [pcv, faultV, RK.own, RK.hp, List.replicate_succ, *])
        | (refine call_h (call_nothing n hn96 _) trivial ⟨rfl, rfl, rfl, rfl, rfl, trivial⟩ ?_; simp -implicitDefEqProofs [pcv, faultV, RK.own, RK.hp, List.replicate_succ, *]))
    refine swp_frz [25, 26, 27, 28, 29] ?_ ?_
    · simp only [FrzOk, geth, Nat.reduceEqDiff, reduceIte, and_true]
      exact ⟨bcs_pure _, bcs_pure _, ucs_pure _, ics_pure _, bcs_pure _⟩
    simp -implicitDefEqProofs [bcs_take, ucs_take, ics_take, bcs_len, ucs_len, ics_len]
    have hrF : rF ⟨n, tabs, code⟩ = rFrom ⟨n, tabs, code⟩ code.length 0 (some (rkFirst n) :: List.replicate code.length none) := by unfold rF; rw [if_neg (by simpa using h0)]; rfl
    replace hrF := Lib.hid hrF
    refine swp_block (swp_for (fun s (x : Nat × List (Option RK)) => s.turn [(5, .int .i64 x.1)] [(20, .row 162 6 (x.2.map ocv))]) (fun x => x.1 ≤ code.length ∧ x.2.length = code.length + 1 ∧ OkA n x.2 ∧ rFrom ⟨n, tabs, code⟩ (code.length - x.1) x.1 x.2 = rF ⟨n, tabs, code⟩) (fun x => code.length - x.1) (0, some (rkFirst n) :: List.replicate code.length none) ?_ ?_ ?_)
    · repeat' (first
        | ((with_reducible refine wk_self [] hm ?_ ?_ ?_ ?_) <;> (try simp only [SSt.turn, setSs, setS, putHs, puth, Nat.reduceEqDiff, reduceIte, Nat.reduceAdd]))
        | (with_reducible exact slotsM_nil)
        | (with_reducible refine slotsM_cons ?_ ?_)
        | (with_reducible exact objsM_nil)
        | (with_reducible refine objsM_cells (cs := ?_) ?_ ?_ ?_)
        | (with_reducible refine objsM_rowm (es := ?_) ?_ ?_ ?_)
        | (with_reducible refine objsM_rowc (es := ?_) ?_ ?_ ?_)
        | (with_reducible refine objsM_abs ?_ ?_)
        | (with_reducible exact subH_nil)
        | (with_reducible refine subH_cons ?_ ?_)
        | ((with_reducible show geth _ _ = some _); (focus rfl))
        | ((with_reducible show (_ : List (List SV)) = _); (focus (first | (with_reducible rfl) | rfl | (simp; done))))
        | ((with_reducible show okNames _ _ _ _ = true); (focus rfl))
        | ((with_reducible show (_ : Nat) ≤ _); (focus (first | omega | (simp; done))))
        | ((with_reducible show (_ : Nat) < _); (focus omega))
        | (refine co_wrap ⟨?_, ?_⟩ ?_ <;> (focus omega))
        | (with_reducible exact Co.refl _)
        | (with_reducible exact CoL.refl _)
        | (with_reducible exact CoLL.refl _)
        | (exact Co.refl _)
        | (exact CoL.refl _)
        | (exact CoLL.refl _)
        | (refine co_own ?_; (focus omega))
        | (refine co_int ?_; (focus omega))
        | (with_reducible refine coL_cons ?_ ?_)
        | (with_reducible exact coL_nilm)
        | (with_reducible refine coL_consm ?_ ?_))
      rw [List.map_cons, List.map_replicate]; rfl
    · refine ⟨by simp, by simp, ?_, hrF.out.symm⟩
      intro k hk
      rcases List.mem_cons.1 hk with e | e
      · cases e
        exact ⟨rfl, ⟨rfl, rfl, rfl, rfl, by show (List.replicate n false).length ≤ 96; rw [List.length_replicate]; exact hn96⟩, by show ((List.replicate n false).length : Int) = n; rw [List.length_replicate]⟩
      · cases List.eq_of_mem_replicate e
    rintro J hJ ⟨i, a⟩ ⟨h1, h2, h3, h4⟩
    unfold c_gfault_l1
    simp only [SSt.turn, setSs, setS, putHs, puth, Nat.reduceEqDiff, reduceIte, Nat.reduceAdd] at h1 h2 h3 h4 ⊢
    replace h4 := Lib.hid h4
    rcases Nat.lt_or_ge i code.length with hi | hi
    · cases hai : a.getD i none with
      | none =>
        have ha : (a.map ocv)[i]? = some (ocv none) := by
          rw [List.getElem?_map, List.getElem?_eq_getElem (by omega)]
          rw [List.getD_eq_getElem?_getD, List.getElem?_eq_getElem (by omega)] at hai
          exact congrArg (fun x => some (ocv x)) hai
        replace hai := Lib.hid hai
        repeat' (first
            | (with_reducible refine swp_seq ?_)
            | ((with_reducible refine swp_reg ?_); (try rw [hP]); simp -implicitDefEqProofs [ocv, *])
            | ((with_reducible refine swp_regd (by rw [hP]; exact mixed) ?_); (try rw [hP]); simp -implicitDefEqProofs [ocv, *])
            | ((with_reducible refine swp_skip ?_); (try simp -implicitDefEqProofs [ocv, *]))
            | ((with_reducible refine swp_exit ?_); (try simp -implicitDefEqProofs [ocv, *]))
            | ((with_reducible refine swp_ret ?_); (try simp only [qseq_r, qblock_r, qloop_r]))
            | ((with_reducible refine swp_cond rfl (fun h => ?_) (fun h => ?_)) <;> have h' := h <;> (try simp at h') <;> (try subst h'))
            | ((with_reducible refine sopsg_cases (fun h => ?_) (fun h => ?_)) <;> have h' := h <;> (try simp at h') <;> (try subst h') <;> simp -implicitDefEqProofs [ocv, *])
            | ((with_reducible refine draw_ok ?_ ?_); (focus rfl))
            | ((with_reducible refine sopsk_rg ?_ ?_); (first | omega | (unfold maxLen; omega)); simp -implicitDefEqProofs [ocv, *])
            | (with_reducible refine swp_block1 ?_)
            | (with_reducible refine swp_block2 ?_)
            | ((with_reducible refine wk_self [] hm ?_ ?_ ?_ ?_) <;> (try simp only [SSt.turn, setSs, setS, putHs, puth, Nat.reduceEqDiff, reduceIte, Nat.reduceAdd]))
            | (with_reducible exact slotsM_nil)
            | (with_reducible refine slotsM_cons ?_ ?_)
            | (with_reducible exact objsM_nil)
            | (with_reducible refine objsM_cells (cs := ?_) ?_ ?_ ?_)
            | (with_reducible refine objsM_rowm (es := ?_) ?_ ?_ ?_)
            | (with_reducible refine objsM_rowc (es := ?_) ?_ ?_ ?_)
            | (with_reducible refine objsM_abs ?_ ?_)
            | (with_reducible exact subH_nil)
            | (with_reducible refine subH_cons ?_ ?_)
            | ((with_reducible show geth _ _ = some _); (focus rfl))
            | ((with_reducible show (_ : List (List SV)) = _); (focus (first | (with_reducible rfl) | rfl | (simp; done))))
            | ((with_reducible show okNames _ _ _ _ = true); (focus rfl))
            | ((with_reducible show (_ : Nat) ≤ _); (focus (first | omega | (simp; done))))
            | ((with_reducible show (_ : Nat) < _); (focus omega))
            | (refine co_wrap ⟨?_, ?_⟩ ?_ <;> (focus omega))
            | (with_reducible exact Co.refl _)
            | (with_reducible exact CoL.refl _)
            | (with_reducible exact CoLL.refl _)
            | (exact Co.refl _)
            | (exact CoL.refl _)
            | (exact CoLL.refl _)
            | (refine co_own ?_; (focus omega))
            | (refine co_int ?_; (focus omega))
            | (with_reducible refine coL_cons ?_ ?_)
            | (with_reducible exact coL_nilm)
            | (with_reducible refine coL_consm ?_ ?_)
            | ((refine qfor_next hJ (i + 1, a) ?_ ?_ ?_; (with_reducible refine wk_self [] hm ?_ ?_ ?_ ?_) <;> (try simp only [SSt.turn, setSs, setS, putHs, puth, Nat.reduceEqDiff, reduceIte, Nat.reduceAdd]))))
        exact ⟨by omega, h2, h3, by rw [← h4.out]; exact (rFrom_none (p := ⟨n, tabs, code⟩) hi hai.out).symm⟩
      | some k =>
        have hk := h3.getD i k hai
        have hx := progF_ins_ok hp.c h0 i hi
        have hth : k.there = true := hk.there
        have c1 : code[i]? = some code[i] := List.getElem?_eq_getElem hi
        have c2 : a[i]? = some (some k) := by
          rw [List.getD_eq_getElem?_getD] at hai
          rw [List.getElem?_eq_getElem (by omega)] at hai ⊢
          exact congrArg some hai
        have hstep := rFrom_some (p := ⟨n, tabs, code⟩) hi hai
        have hop := progF_isOp hp.c h0 i hi
        obtain ⟨hx, ht0, ht1⟩ := hx
        rw [nth_lt _ _ hi] at hop hx ht0 ht1
        have hB := rBehind_ok tabs code[i] hk
        have hca := fun (h : (rBehind tabs code[i] k).2 = 0) q => call_behind0 tabs code n code[i] k hx hop hk.ten hk.len h q
        have hcb := fun (h : (rBehind tabs code[i] k).2 ≠ 0) q => call_behindE tabs code n code[i] k hx hop hk.ten hk.len h q
        have hr0 := hx.r
        have hn0 := hx.n0
        have hn9 := hx.n9
        dsimp only at hx ht0 ht1 hop hstep
        generalize hxx : code[i] = x at hx ht0 ht1 hop hB hca hcb hr0 hn0 hn9 hstep
        generalize rBehind tabs x k = B at hstep hB hca hcb
        obtain ⟨k', e⟩ := B
        simp only [RK.cv, hth] at hca hcb
        dsimp only at hstep hB
        replace hai := Lib.hid hai
        replace hstep := Lib.hid hstep
        replace hk := Lib.hid hk
        replace hx := Lib.hid hx
        by_cases he : e = 0
        rotate_left
        · replace hca := Lib.hid hca
          have hcb := hcb he
          repeat' (first
              | (with_reducible refine swp_seq ?_)
              | ((with_reducible refine swp_reg ?_); (try rw [hP]); simp -implicitDefEqProofs [ocv, RK.cv, icv, faultV, *])
              | ((with_reducible refine swp_regd (by rw [hP]; exact mixed) ?_); (try rw [hP]); simp -implicitDefEqProofs [ocv, RK.cv, icv, faultV, *])
              | ((with_reducible refine swp_skip ?_); (try simp -implicitDefEqProofs [ocv, RK.cv, icv, faultV, *]))
              | ((with_reducible refine swp_exit ?_); (try simp -implicitDefEqProofs [ocv, RK.cv, icv, faultV, *]))
              | ((with_reducible refine swp_ret ?_); (try simp only [qseq_r, qblock_r, qloop_r]))
              | ((with_reducible refine swp_cond rfl (fun h => ?_) (fun h => ?_)) <;> have h' := h <;> (try simp at h') <;> (try subst h'))
              | ((with_reducible refine sopsg_cases (fun h => ?_) (fun h => ?_)) <;> have h' := h <;> (try simp at h') <;> (try subst h') <;> simp -implicitDefEqProofs [ocv, RK.cv, icv, faultV, *])
              | ((with_reducible refine draw_ok ?_ ?_); (focus rfl))
              | ((with_reducible refine sopsk_rg ?_ ?_); (first | omega | (unfold maxLen; omega)); simp -implicitDefEqProofs [ocv, RK.cv, icv, faultV, *])
              | (with_reducible refine swp_block1 ?_)
              | (with_reducible refine swp_block2 ?_)
              | ((with_reducible refine wk_self [] hm ?_ ?_ ?_ ?_) <;> (try simp only [SSt.turn, setSs, setS, putHs, puth, Nat.reduceEqDiff, reduceIte, Nat.reduceAdd]))
              | (with_reducible exact slotsM_nil)
              | (with_reducible refine slotsM_cons ?_ ?_)
              | (with_reducible exact objsM_nil)
              | (with_reducible refine objsM_cells (cs := ?_) ?_ ?_ ?_)
              | (with_reducible refine objsM_rowm (es := ?_) ?_ ?_ ?_)
              | (with_reducible refine objsM_rowc (es := ?_) ?_ ?_ ?_)
              | (with_reducible refine objsM_abs ?_ ?_)
              | (with_reducible exact subH_nil)
              | (with_reducible refine subH_cons ?_ ?_)
              | ((with_reducible show geth _ _ = some _); (focus rfl))
              | ((with_reducible show (_ : List (List SV)) = _); (focus (first | (with_reducible rfl) | rfl | (simp; done))))
              | ((with_reducible show okNames _ _ _ _ = true); (focus rfl))
              | ((with_reducible show (_ : Nat) ≤ _); (focus (first | omega | (simp; done))))
              | ((with_reducible show (_ : Nat) < _); (focus omega))
              | (refine co_wrap ⟨?_, ?_⟩ ?_ <;> (focus omega))
              | (with_reducible exact Co.refl _)
              | (with_reducible exact CoL.refl _)
              | (with_reducible exact CoLL.refl _)
              | (exact Co.refl _)
              | (exact CoL.refl _)
              | (exact CoLL.refl _)
              | (refine co_own ?_; (focus omega))
              | (refine co_int ?_; (focus omega))
              | (with_reducible refine coL_cons ?_ ?_)
              | (with_reducible exact coL_nilm)
              | (with_reducible refine coL_consm ?_ ?_)
              | (refine call_q (hcb _) ?_; simp -implicitDefEqProofs [ocv, RK.cv, icv, faultV, *])
              | (refine call_q (f_s _ _ _) ?_; simp -implicitDefEqProofs [ocv, RK.cv, icv, faultV, *])
              | (refine fin _ _ _ _ ?_)
              | ((exfalso; omega)))
          rw [← h4.out, hstep.out, if_pos he]
        subst he
        have hca := hca rfl
        replace hcb := Lib.hid hcb
        replace hB := Lib.hid hB
        have hth' : k'.there = true := hB.out.there
        have hl10 := hB.out.ten.room
        obtain ⟨R, hR⟩ : ∃ R : Nat, x.r = R := ⟨x.r.toNat, by omega⟩
        obtain ⟨N, hN'⟩ : ∃ N : Nat, x.n = N := ⟨x.n.toNat, by omega⟩
        have hR10 : R < k'.room.length := by omega
        have hRr := ics_get hR10
        replace hl10 := Lib.hid hl10
        have tail : ∀ (a1 : List (Option RK)) Q0, a1.length = code.length + 1 → OkA n a1 → (∀ a' : List (Option RK), (if x.op ≠ 12 ∧ isEnd x.op = false then a1.set (i + 1) (some (oMeet (a1.getD (i + 1) none) (rAfter x k'))) else a1) = a' → a'.length = code.length + 1 ∧ OkA n a' ∧ rFrom ⟨n, tabs, code⟩ (code.length - (i + 1)) (i + 1) a' = rF ⟨n, tabs, code⟩) →
            SWp X (.seq (.seq (.reg false c_gfault_r18 [1, 2, 4, 5, 6, 7, 101]) (.cond (.t 101) (.exit 1) .skip)) (.seq (.seq (.reg true c_gfault_r19 [1, 2, 4, 5, 6, 7, 116]) (.cond (.t 116) (.reg false c_gfault_r20 [1, 2, 4, 5, 7]) .skip)) (.reg true c_gfault_r21 [1, 2, 4, 5]))) (QBlock 1 (QSeq X (.reg false c_gfault_r22 [1, 2, 4, 5]) (QLoop X J (code.length - i) Q0)))
              ⟨[(1, .ptr 0 0), (2, .ptr 1 0), (4, .own 20 (code.length + 1)), (5, .int .i64 i), (6, .ptr 52 0), (7, .ptr 71 0)], [(0, .cells 63 [.int .i64 n, .view 3 (tabs.map scv), .view 6 (code.map icv)]), (1, .cells 65 [.int .i64 0, .int .i64 0]), (11, .cells 65 [.int .i64 0, .int .i64 0]), (20, .row 162 6 (a1.map ocv)), (52, .cells 56 [.int .i64 x.op, .int .i64 R, .int .i64 x.s, .int .i64 x.k, .int .i64 x.to, .int .u64 N]), (60, .row 4 1 (bcs k'.set)), (61, .row 4 1 (bcs k'.just)), (62, .row 23 1 (ucs k'.num)), (63, .row 3 1 (ics k'.room)), (64, .row 4 1 (bcs k'.slot)), (71, .cells 162 [.bool true, .own 60 k'.set.length, .own 61 k'.just.length, .own 62 k'.num.length, .own 63 k'.room.length, .own 64 k'.slot.length])], 100⟩ := by
          intro a1 Q0 g1 g2 g3
          have hi1 : i + 1 < a1.length := by omega
          have g4 : a1.getD (i + 1) none = a1[i + 1] := by rw [List.getD_eq_getElem?_getD, List.getElem?_eq_getElem hi1]; rfl
          have g5 := g2.getD (i + 1)
          rw [g4] at g5 g3
          clear g4
          generalize hA : a1[i + 1] = A at g5 g3
          replace g3 := Lib.hid g3
          replace g5 := Lib.hid g5
          by_cases hE : x.op ≠ 12 ∧ isEnd x.op = false
          rotate_left
          · have hE' : x.op = 12 ∨ x.op = 16 ∨ x.op = 17 := by
              by_cases e12 : x.op = 12
              · exact .inl e12
              · refine .inr ?_
                have : ¬ isEnd x.op = false := fun h => hE ⟨e12, h⟩
                unfold isEnd at this
                simp at this
                omega
            obtain ⟨q1, q2, q3⟩ := g3.out a1 (if_neg hE)
            replace q2 := Lib.hid q2
            replace q3 := Lib.hid q3
            replace hE := Lib.hid hE
            rcases hE' with e | e | e
            all_goals
              repeat' (first
                  | (with_reducible refine swp_seq ?_)
                  | ((with_reducible refine swp_reg ?_); (try rw [hP]); simp -implicitDefEqProofs [*])
                  | ((with_reducible refine swp_regd (by rw [hP]; exact mixed) ?_); (try rw [hP]); simp -implicitDefEqProofs [*])
                  | ((with_reducible refine swp_skip ?_); (try simp -implicitDefEqProofs [*]))
                  | ((with_reducible refine swp_exit ?_); (try simp -implicitDefEqProofs [*]))
                  | ((with_reducible refine swp_ret ?_); (try simp only [qseq_r, qblock_r, qloop_r]))
                  | ((with_reducible refine swp_cond rfl (fun h => ?_) (fun h => ?_)) <;> have h' := h <;> (try simp at h') <;> (try subst h'))
                  | ((with_reducible refine sopsg_cases (fun h => ?_) (fun h => ?_)) <;> have h' := h <;> (try simp at h') <;> (try subst h') <;> simp -implicitDefEqProofs [*])
                  | ((with_reducible refine draw_ok ?_ ?_); (focus rfl))
                  | ((with_reducible refine sopsk_rg ?_ ?_); (first | omega | (unfold maxLen; omega)); simp -implicitDefEqProofs [*])
                  | (with_reducible refine swp_block1 ?_)
                  | (with_reducible refine swp_block2 ?_)
                  | ((with_reducible refine wk_self [] hm ?_ ?_ ?_ ?_) <;> (try simp only [SSt.turn, setSs, setS, putHs, puth, Nat.reduceEqDiff, reduceIte, Nat.reduceAdd]))
                  | (with_reducible exact slotsM_nil)
                  | (with_reducible refine slotsM_cons ?_ ?_)
                  | (with_reducible exact objsM_nil)
                  | (with_reducible refine objsM_cells (cs := ?_) ?_ ?_ ?_)
                  | (with_reducible refine objsM_rowm (es := ?_) ?_ ?_ ?_)
                  | (with_reducible refine objsM_rowc (es := ?_) ?_ ?_ ?_)
                  | (with_reducible refine objsM_abs ?_ ?_)
                  | (with_reducible exact subH_nil)
                  | (with_reducible refine subH_cons ?_ ?_)
                  | ((with_reducible show geth _ _ = some _); (focus rfl))
                  | ((with_reducible show (_ : List (List SV)) = _); (focus (first | (with_reducible rfl) | rfl | (simp; done))))
                  | ((with_reducible show okNames _ _ _ _ = true); (focus rfl))
                  | ((with_reducible show (_ : Nat) ≤ _); (focus (first | omega | (simp; done))))
                  | ((with_reducible show (_ : Nat) < _); (focus omega))
                  | (refine co_wrap ⟨?_, ?_⟩ ?_ <;> (focus omega))
                  | (with_reducible exact Co.refl _)
                  | (with_reducible exact CoL.refl _)
                  | (with_reducible exact CoLL.refl _)
                  | (exact Co.refl _)
                  | (exact CoL.refl _)
                  | (exact CoLL.refl _)
                  | (refine co_own ?_; (focus omega))
                  | (refine co_int ?_; (focus omega))
                  | (with_reducible refine coL_cons ?_ ?_)
                  | (with_reducible exact coL_nilm)
                  | (with_reducible refine coL_consm ?_ ?_)
                  | ((refine qfor_next hJ (i + 1, a1) ?_ ?_ ?_; (with_reducible refine wk_self [] hm ?_ ?_ ?_ ?_) <;> (try simp only [SSt.turn, setSs, setS, putHs, puth, Nat.reduceEqDiff, reduceIte, Nat.reduceAdd])))
                  | ((exfalso; omega)))
              exact ⟨by omega, q1, q2.out, q3.out⟩
          · obtain ⟨e12, eE⟩ := hE
            have g3' := g3.out _ (if_pos ⟨e12, eE⟩)
            replace g3' := Lib.hid g3'
            have e16 : x.op ≠ 16 ∧ x.op ≠ 17 := by unfold isEnd at eE; simpa [not_or] using eE
            have k12 : (x.op == 12) = false := by simpa using e12
            have k16 : (x.op == 16) = false := by simpa using e16.1
            have k17 : (x.op == 17) = false := by simpa using e16.2
            have wi : IntKind.i64.wrap ((i : Int) + 1) = (i : Int) + 1 := i64_add_ (by omega) (by omega)
            have ti : ((i : Int) + 1).toNat = i + 1 := by omega
            have oA := ocv_take A
            have lA := ocv_len A
            cases k9 : (x.op == 9)
            · skip
              have ek : rAfter x k' = k' := by
                unfold rAfter; rw [if_neg]; rintro ⟨_, h⟩; rw [h] at k9; cases k9
              have hKK : RKok n (k') := by rw [← ek]; exact rAfter_ok x hB.out
              have hc := fun q hq => lend_omeet A (k') (fun k hk => ⟨(g5.out k hk).there, (g5.out k hk).ten, by have := (g5.out k hk).len; have := hKK.len; omega⟩) hKK.ten 60 q hq
              have hM := oMeet_ok g5.out hKK
              rw [ek] at g3'
              replace hKK := Lib.hid hKK
              generalize oMeet A (k') = M at hc g3' hM
              replace hM : M.there = true := hM.there
              obtain ⟨q1, q2, q3⟩ := g3'.out
              replace q1 := Lib.hid q1
              replace q2 := Lib.hid q2
              replace q3 := Lib.hid q3
              simp only [RK.own, RK.hp, hth', List.cons_append, List.nil_append, List.length_set] at hc
              have hset : (List.map ocv a1).set (i + 1) [.bool true, .view 1 (bcs M.set), .view 1 (bcs M.just), .view 1 (ucs M.num), .view 1 (ics M.room), .view 1 (bcs M.slot)] = List.map ocv (a1.set (i + 1) (some M)) := by rw [List.map_set, ← hM]; rfl
              replace hset := Lib.hid hset
              repeat' (first
                  | (with_reducible refine swp_seq ?_)
                  | ((with_reducible refine swp_reg ?_); (try rw [hP]); simp -implicitDefEqProofs [*])
                  | ((with_reducible refine swp_regd (by rw [hP]; exact mixed) ?_); (try rw [hP]); simp -implicitDefEqProofs [*])
                  | ((with_reducible refine swp_skip ?_); (try simp -implicitDefEqProofs [*]))
                  | ((with_reducible refine swp_exit ?_); (try simp -implicitDefEqProofs [*]))
                  | ((with_reducible refine swp_ret ?_); (try simp only [qseq_r, qblock_r, qloop_r]))
                  | ((with_reducible refine swp_cond rfl (fun h => ?_) (fun h => ?_)) <;> have h' := h <;> (try simp at h') <;> (try subst h'))
                  | ((with_reducible refine sopsg_cases (fun h => ?_) (fun h => ?_)) <;> have h' := h <;> (try simp at h') <;> (try subst h') <;> simp -implicitDefEqProofs [*])
                  | ((with_reducible refine draw_ok ?_ ?_); (focus rfl))
                  | ((with_reducible refine sopsk_rg ?_ ?_); (first | omega | (unfold maxLen; omega)); simp -implicitDefEqProofs [*])
                  | (with_reducible refine swp_block1 ?_)
                  | (with_reducible refine swp_block2 ?_)
                  | ((with_reducible refine wk_self [] hm ?_ ?_ ?_ ?_) <;> (try simp only [SSt.turn, setSs, setS, putHs, puth, Nat.reduceEqDiff, reduceIte, Nat.reduceAdd]))
                  | (with_reducible exact slotsM_nil)
                  | (with_reducible refine slotsM_cons ?_ ?_)
                  | (with_reducible exact objsM_nil)
                  | (with_reducible refine objsM_cells (cs := ?_) ?_ ?_ ?_)
                  | (with_reducible refine objsM_rowm (es := ?_) ?_ ?_ ?_)
                  | (with_reducible refine objsM_rowc (es := ?_) ?_ ?_ ?_)
                  | (with_reducible refine objsM_abs ?_ ?_)
                  | (with_reducible exact subH_nil)
                  | (with_reducible refine subH_cons ?_ ?_)
                  | ((with_reducible show geth _ _ = some _); (focus rfl))
                  | ((with_reducible show (_ : List (List SV)) = _); (focus (first | (with_reducible rfl) | rfl | (simp; done))))
                  | ((with_reducible show okNames _ _ _ _ = true); (focus rfl))
                  | ((with_reducible show (_ : Nat) ≤ _); (focus (first | omega | (simp; done))))
                  | ((with_reducible show (_ : Nat) < _); (focus omega))
                  | (refine co_wrap ⟨?_, ?_⟩ ?_ <;> (focus omega))
                  | (with_reducible exact Co.refl _)
                  | (with_reducible exact CoL.refl _)
                  | (with_reducible exact CoLL.refl _)
                  | (exact Co.refl _)
                  | (exact CoL.refl _)
                  | (exact CoLL.refl _)
                  | (refine co_own ?_; (focus omega))
                  | (refine co_int ?_; (focus omega))
                  | (with_reducible refine coL_cons ?_ ?_)
                  | (with_reducible exact coL_nilm)
                  | (with_reducible refine coL_consm ?_ ?_))
              refine call_do (rd := [60, 61, 62, 63, 64]) (hc _ (by simp)) ⟨rfl, rfl, rfl, rfl, rfl, trivial⟩ ⟨rfl, rfl, rfl, rfl, rfl, rfl, rfl, rfl, rfl, rfl, trivial⟩ (by simp [geth]) ?_
              (try simp -implicitDefEqProofs [ocv_set, *])
              repeat' (first
                  | ((with_reducible refine draw_ok ?_ ?_); (focus rfl); (try simp only [qseq_n, qblock_n]))
                  | ((with_reducible refine sopsk_rg ?_ ?_); (first | omega | (unfold maxLen; omega)); simp -implicitDefEqProofs [ocv_set, *]))
              refine swp_frz [127, 128, 129, 130, 131] ?_ ?_
              · simp only [FrzOk, geth, Nat.reduceEqDiff, reduceIte, and_true]
                exact ⟨bcs_pure _, bcs_pure _, ucs_pure _, ics_pure _, bcs_pure _⟩
              simp -implicitDefEqProofs [bcs_take, ucs_take, ics_take, bcs_len, ucs_len, ics_len, frz_ocv, frz_ocv', frz_bcs, frz_ucs, frz_ics, List.map_set, hM, hset.out]
              repeat' (first
                  | (with_reducible refine swp_seq ?_)
                  | ((with_reducible refine swp_reg ?_); (try rw [hP]); simp -implicitDefEqProofs [*])
                  | ((with_reducible refine swp_regd (by rw [hP]; exact mixed) ?_); (try rw [hP]); simp -implicitDefEqProofs [*])
                  | ((with_reducible refine swp_skip ?_); (try simp -implicitDefEqProofs [*]))
                  | ((with_reducible refine swp_exit ?_); (try simp -implicitDefEqProofs [*]))
                  | ((with_reducible refine swp_ret ?_); (try simp only [qseq_r, qblock_r, qloop_r]))
                  | ((with_reducible refine swp_cond rfl (fun h => ?_) (fun h => ?_)) <;> have h' := h <;> (try simp at h') <;> (try subst h'))
                  | ((with_reducible refine sopsg_cases (fun h => ?_) (fun h => ?_)) <;> have h' := h <;> (try simp at h') <;> (try subst h') <;> simp -implicitDefEqProofs [*])
                  | ((with_reducible refine draw_ok ?_ ?_); (focus rfl))
                  | ((with_reducible refine sopsk_rg ?_ ?_); (first | omega | (unfold maxLen; omega)); simp -implicitDefEqProofs [*])
                  | (with_reducible refine swp_block1 ?_)
                  | (with_reducible refine swp_block2 ?_)
                  | ((with_reducible refine wk_self [] hm ?_ ?_ ?_ ?_) <;> (try simp only [SSt.turn, setSs, setS, putHs, puth, Nat.reduceEqDiff, reduceIte, Nat.reduceAdd]))
                  | (with_reducible exact slotsM_nil)
                  | (with_reducible refine slotsM_cons ?_ ?_)
                  | (with_reducible exact objsM_nil)
                  | (with_reducible refine objsM_cells (cs := ?_) ?_ ?_ ?_)
                  | (with_reducible refine objsM_rowm (es := ?_) ?_ ?_ ?_)
                  | (with_reducible refine objsM_rowc (es := ?_) ?_ ?_ ?_)
                  | (with_reducible refine objsM_abs ?_ ?_)
                  | (with_reducible exact subH_nil)
                  | (with_reducible refine subH_cons ?_ ?_)
                  | ((with_reducible show geth _ _ = some _); (focus rfl))
                  | ((with_reducible show (_ : List (List SV)) = _); (focus (first | (with_reducible rfl) | rfl | (simp; done))))
                  | ((with_reducible show okNames _ _ _ _ = true); (focus rfl))
                  | ((with_reducible show (_ : Nat) ≤ _); (focus (first | omega | (simp; done))))
                  | ((with_reducible show (_ : Nat) < _); (focus omega))
                  | (refine co_wrap ⟨?_, ?_⟩ ?_ <;> (focus omega))
                  | (with_reducible exact Co.refl _)
                  | (with_reducible exact CoL.refl _)
                  | (with_reducible exact CoLL.refl _)
                  | (exact Co.refl _)
                  | (exact CoL.refl _)
                  | (exact CoLL.refl _)
                  | (refine co_own ?_; (focus omega))
                  | (refine co_int ?_; (focus omega))
                  | (with_reducible refine coL_cons ?_ ?_)
                  | (with_reducible exact coL_nilm)
                  | (with_reducible refine coL_consm ?_ ?_)
                  | ((refine qfor_next hJ (i + 1, a1.set (i + 1) (some M)) ?_ ?_ ?_; (with_reducible refine wk_self [] hm ?_ ?_ ?_ ?_) <;> (try simp only [SSt.turn, setSs, setS, putHs, puth, Nat.reduceEqDiff, reduceIte, Nat.reduceAdd]))))
              exact ⟨by omega, q1.out, q2.out, q3.out⟩
            · have e9 : x.op = 9 := by simpa using k9
              have n600 : N ≤ 600 := by have := hn9 e9; omega
              have wN : IntKind.i64.wrap (N : Int) = N := IntWalk.i64_in _ ⟨by omega, by omega⟩
              by_cases kr : k'.room[R] < (N : Int)
              · skip
                have ek : rAfter x k' = ⟨k'.there, k'.set, k'.just, k'.num, k'.room.set R N, k'.slot⟩ := by
                  unfold rAfter RK.kn; rw [hR, hN', Int.toNat_natCast, getD_i hR10]; rw [if_pos ⟨kr, e9⟩]
                have hKK : RKok n (⟨k'.there, k'.set, k'.just, k'.num, k'.room.set R N, k'.slot⟩) := by rw [← ek]; exact rAfter_ok x hB.out
                have hc := fun q hq => lend_omeet A (⟨k'.there, k'.set, k'.just, k'.num, k'.room.set R N, k'.slot⟩) (fun k hk => ⟨(g5.out k hk).there, (g5.out k hk).ten, by have := (g5.out k hk).len; have := hKK.len; omega⟩) hKK.ten 60 q hq
                have hM := oMeet_ok g5.out hKK
                rw [ek] at g3'
                replace hKK := Lib.hid hKK
                generalize oMeet A (⟨k'.there, k'.set, k'.just, k'.num, k'.room.set R N, k'.slot⟩) = M at hc g3' hM
                replace hM : M.there = true := hM.there
                obtain ⟨q1, q2, q3⟩ := g3'.out
                replace q1 := Lib.hid q1
                replace q2 := Lib.hid q2
                replace q3 := Lib.hid q3
                simp only [RK.own, RK.hp, hth', List.cons_append, List.nil_append, List.length_set] at hc
                have hset : (List.map ocv a1).set (i + 1) [.bool true, .view 1 (bcs M.set), .view 1 (bcs M.just), .view 1 (ucs M.num), .view 1 (ics M.room), .view 1 (bcs M.slot)] = List.map ocv (a1.set (i + 1) (some M)) := by rw [List.map_set, ← hM]; rfl
                replace hset := Lib.hid hset
                repeat' (first
                    | (with_reducible refine swp_seq ?_)
                    | ((with_reducible refine swp_reg ?_); (try rw [hP]); simp -implicitDefEqProofs [ics_set, ics_len, ics_getE, *])
                    | ((with_reducible refine swp_regd (by rw [hP]; exact mixed) ?_); (try rw [hP]); simp -implicitDefEqProofs [ics_set, ics_len, ics_getE, *])
                    | ((with_reducible refine swp_skip ?_); (try simp -implicitDefEqProofs [ics_set, ics_len, ics_getE, *]))
                    | ((with_reducible refine swp_exit ?_); (try simp -implicitDefEqProofs [ics_set, ics_len, ics_getE, *]))
                    | ((with_reducible refine swp_ret ?_); (try simp only [qseq_r, qblock_r, qloop_r]))
                    | ((with_reducible refine swp_cond rfl (fun h => ?_) (fun h => ?_)) <;> have h' := h <;> (try simp at h') <;> (try subst h'))
                    | ((with_reducible refine sopsg_cases (fun h => ?_) (fun h => ?_)) <;> have h' := h <;> (try simp at h') <;> (try subst h') <;> simp -implicitDefEqProofs [ics_set, ics_len, ics_getE, *])
                    | ((with_reducible refine draw_ok ?_ ?_); (focus rfl))
                    | ((with_reducible refine sopsk_rg ?_ ?_); (first | omega | (unfold maxLen; omega)); simp -implicitDefEqProofs [ics_set, ics_len, ics_getE, *])
                    | (with_reducible refine swp_block1 ?_)
                    | (with_reducible refine swp_block2 ?_)
                    | ((with_reducible refine wk_self [] hm ?_ ?_ ?_ ?_) <;> (try simp only [SSt.turn, setSs, setS, putHs, puth, Nat.reduceEqDiff, reduceIte, Nat.reduceAdd]))
                    | (with_reducible exact slotsM_nil)
                    | (with_reducible refine slotsM_cons ?_ ?_)
                    | (with_reducible exact objsM_nil)
                    | (with_reducible refine objsM_cells (cs := ?_) ?_ ?_ ?_)
                    | (with_reducible refine objsM_rowm (es := ?_) ?_ ?_ ?_)
                    | (with_reducible refine objsM_rowc (es := ?_) ?_ ?_ ?_)
                    | (with_reducible refine objsM_abs ?_ ?_)
                    | (with_reducible exact subH_nil)
                    | (with_reducible refine subH_cons ?_ ?_)
                    | ((with_reducible show geth _ _ = some _); (focus rfl))
                    | ((with_reducible show (_ : List (List SV)) = _); (focus (first | (with_reducible rfl) | rfl | (simp; done))))
                    | ((with_reducible show okNames _ _ _ _ = true); (focus rfl))
                    | ((with_reducible show (_ : Nat) ≤ _); (focus (first | omega | (simp; done))))
                    | ((with_reducible show (_ : Nat) < _); (focus omega))
                    | (refine co_wrap ⟨?_, ?_⟩ ?_ <;> (focus omega))
                    | (with_reducible exact Co.refl _)
                    | (with_reducible exact CoL.refl _)
                    | (with_reducible exact CoLL.refl _)
                    | (exact Co.refl _)
                    | (exact CoL.refl _)
                    | (exact CoLL.refl _)
                    | (refine co_own ?_; (focus omega))
                    | (refine co_int ?_; (focus omega))
                    | (with_reducible refine coL_cons ?_ ?_)
                    | (with_reducible exact coL_nilm)
                    | (with_reducible refine coL_consm ?_ ?_))
                refine call_do (rd := [60, 61, 62, 63, 64]) (hc _ (by simp)) ⟨rfl, rfl, rfl, rfl, rfl, trivial⟩ ⟨rfl, rfl, rfl, rfl, rfl, rfl, rfl, rfl, rfl, rfl, trivial⟩ (by simp [geth]) ?_
                (try simp -implicitDefEqProofs [ocv_set, *])
                repeat' (first
                    | ((with_reducible refine draw_ok ?_ ?_); (focus rfl); (try simp only [qseq_n, qblock_n]))
                    | ((with_reducible refine sopsk_rg ?_ ?_); (first | omega | (unfold maxLen; omega)); simp -implicitDefEqProofs [ocv_set, *]))
                refine swp_frz [146, 147, 148, 149, 150] ?_ ?_
                · simp only [FrzOk, geth, Nat.reduceEqDiff, reduceIte, and_true]
                  exact ⟨bcs_pure _, bcs_pure _, ucs_pure _, ics_pure _, bcs_pure _⟩
                simp -implicitDefEqProofs [bcs_take, ucs_take, ics_take, bcs_len, ucs_len, ics_len, frz_ocv, frz_ocv', frz_bcs, frz_ucs, frz_ics, List.map_set, hM, hset.out]
                repeat' (first
                    | (with_reducible refine swp_seq ?_)
                    | ((with_reducible refine swp_reg ?_); (try rw [hP]); simp -implicitDefEqProofs [*])
                    | ((with_reducible refine swp_regd (by rw [hP]; exact mixed) ?_); (try rw [hP]); simp -implicitDefEqProofs [*])
                    | ((with_reducible refine swp_skip ?_); (try simp -implicitDefEqProofs [*]))
                    | ((with_reducible refine swp_exit ?_); (try simp -implicitDefEqProofs [*]))
                    | ((with_reducible refine swp_ret ?_); (try simp only [qseq_r, qblock_r, qloop_r]))
                    | ((with_reducible refine swp_cond rfl (fun h => ?_) (fun h => ?_)) <;> have h' := h <;> (try simp at h') <;> (try subst h'))
                    | ((with_reducible refine sopsg_cases (fun h => ?_) (fun h => ?_)) <;> have h' := h <;> (try simp at h') <;> (try subst h') <;> simp -implicitDefEqProofs [*])
                    | ((with_reducible refine draw_ok ?_ ?_); (focus rfl))
                    | ((with_reducible refine sopsk_rg ?_ ?_); (first | omega | (unfold maxLen; omega)); simp -implicitDefEqProofs [*])
                    | (with_reducible refine swp_block1 ?_)
                    | (with_reducible refine swp_block2 ?_)
                    | ((with_reducible refine wk_self [] hm ?_ ?_ ?_ ?_) <;> (try simp only [SSt.turn, setSs, setS, putHs, puth, Nat.reduceEqDiff, reduceIte, Nat.reduceAdd]))
                    | (with_reducible exact slotsM_nil)
                    | (with_reducible refine slotsM_cons ?_ ?_)
                    | (with_reducible exact objsM_nil)
                    | (with_reducible refine objsM_cells (cs := ?_) ?_ ?_ ?_)
                    | (with_reducible refine objsM_rowm (es := ?_) ?_ ?_ ?_)
                    | (with_reducible refine objsM_rowc (es := ?_) ?_ ?_ ?_)
                    | (with_reducible refine objsM_abs ?_ ?_)
                    | (with_reducible exact subH_nil)
                    | (with_reducible refine subH_cons ?_ ?_)
                    | ((with_reducible show geth _ _ = some _); (focus rfl))
                    | ((with_reducible show (_ : List (List SV)) = _); (focus (first | (with_reducible rfl) | rfl | (simp; done))))
                    | ((with_reducible show okNames _ _ _ _ = true); (focus rfl))
                    | ((with_reducible show (_ : Nat) ≤ _); (focus (first | omega | (simp; done))))
                    | ((with_reducible show (_ : Nat) < _); (focus omega))
                    | (refine co_wrap ⟨?_, ?_⟩ ?_ <;> (focus omega))
                    | (with_reducible exact Co.refl _)
                    | (with_reducible exact CoL.refl _)
                    | (with_reducible exact CoLL.refl _)
                    | (exact Co.refl _)
                    | (exact CoL.refl _)
                    | (exact CoLL.refl _)
                    | (refine co_own ?_; (focus omega))
                    | (refine co_int ?_; (focus omega))
                    | (with_reducible refine coL_cons ?_ ?_)
                    | (with_reducible exact coL_nilm)
                    | (with_reducible refine coL_consm ?_ ?_)
                    | ((refine qfor_next hJ (i + 1, a1.set (i + 1) (some M)) ?_ ?_ ?_; (with_reducible refine wk_self [] hm ?_ ?_ ?_ ?_) <;> (try simp only [SSt.turn, setSs, setS, putHs, puth, Nat.reduceEqDiff, reduceIte, Nat.reduceAdd]))))
                exact ⟨by omega, q1.out, q2.out, q3.out⟩
              · skip
                have ek : rAfter x k' = k' := by
                  unfold rAfter RK.kn; rw [hR, hN', Int.toNat_natCast, getD_i hR10]; rw [if_neg]; rintro ⟨h, _⟩; exact kr h
                have hKK : RKok n (k') := by rw [← ek]; exact rAfter_ok x hB.out
                have hc := fun q hq => lend_omeet A (k') (fun k hk => ⟨(g5.out k hk).there, (g5.out k hk).ten, by have := (g5.out k hk).len; have := hKK.len; omega⟩) hKK.ten 60 q hq
                have hM := oMeet_ok g5.out hKK
                rw [ek] at g3'
                replace hKK := Lib.hid hKK
                generalize oMeet A (k') = M at hc g3' hM
                replace hM : M.there = true := hM.there
                obtain ⟨q1, q2, q3⟩ := g3'.out
                replace q1 := Lib.hid q1
                replace q2 := Lib.hid q2
                replace q3 := Lib.hid q3
                simp only [RK.own, RK.hp, hth', List.cons_append, List.nil_append, List.length_set] at hc
                have hset : (List.map ocv a1).set (i + 1) [.bool true, .view 1 (bcs M.set), .view 1 (bcs M.just), .view 1 (ucs M.num), .view 1 (ics M.room), .view 1 (bcs M.slot)] = List.map ocv (a1.set (i + 1) (some M)) := by rw [List.map_set, ← hM]; rfl
                replace hset := Lib.hid hset
                repeat' (first
                    | (with_reducible refine swp_seq ?_)
                    | ((with_reducible refine swp_reg ?_); (try rw [hP]); simp -implicitDefEqProofs [ics_len, ics_getE, *])
                    | ((with_reducible refine swp_regd (by rw [hP]; exact mixed) ?_); (try rw [hP]); simp -implicitDefEqProofs [ics_len, ics_getE, *])
                    | ((with_reducible refine swp_skip ?_); (try simp -implicitDefEqProofs [ics_len, ics_getE, *]))
                    | ((with_reducible refine swp_exit ?_); (try simp -implicitDefEqProofs [ics_len, ics_getE, *]))
                    | ((with_reducible refine swp_ret ?_); (try simp only [qseq_r, qblock_r, qloop_r]))
                    | ((with_reducible refine swp_cond rfl (fun h => ?_) (fun h => ?_)) <;> have h' := h <;> (try simp at h') <;> (try subst h'))
                    | ((with_reducible refine sopsg_cases (fun h => ?_) (fun h => ?_)) <;> have h' := h <;> (try simp at h') <;> (try subst h') <;> simp -implicitDefEqProofs [ics_len, ics_getE, *])
                    | ((with_reducible refine draw_ok ?_ ?_); (focus rfl))
                    | ((with_reducible refine sopsk_rg ?_ ?_); (first | omega | (unfold maxLen; omega)); simp -implicitDefEqProofs [ics_len, ics_getE, *])
                    | (with_reducible refine swp_block1 ?_)
                    | (with_reducible refine swp_block2 ?_)
                    | ((with_reducible refine wk_self [] hm ?_ ?_ ?_ ?_) <;> (try simp only [SSt.turn, setSs, setS, putHs, puth, Nat.reduceEqDiff, reduceIte, Nat.reduceAdd]))
                    | (with_reducible exact slotsM_nil)
                    | (with_reducible refine slotsM_cons ?_ ?_)
                    | (with_reducible exact objsM_nil)
                    | (with_reducible refine objsM_cells (cs := ?_) ?_ ?_ ?_)
                    | (with_reducible refine objsM_rowm (es := ?_) ?_ ?_ ?_)
                    | (with_reducible refine objsM_rowc (es := ?_) ?_ ?_ ?_)
                    | (with_reducible refine objsM_abs ?_ ?_)
                    | (with_reducible exact subH_nil)
                    | (with_reducible refine subH_cons ?_ ?_)
                    | ((with_reducible show geth _ _ = some _); (focus rfl))
                    | ((with_reducible show (_ : List (List SV)) = _); (focus (first | (with_reducible rfl) | rfl | (simp; done))))
                    | ((with_reducible show okNames _ _ _ _ = true); (focus rfl))
                    | ((with_reducible show (_ : Nat) ≤ _); (focus (first | omega | (simp; done))))
                    | ((with_reducible show (_ : Nat) < _); (focus omega))
                    | (refine co_wrap ⟨?_, ?_⟩ ?_ <;> (focus omega))
                    | (with_reducible exact Co.refl _)
                    | (with_reducible exact CoL.refl _)
                    | (with_reducible exact CoLL.refl _)
                    | (exact Co.refl _)
                    | (exact CoL.refl _)
                    | (exact CoLL.refl _)
                    | (refine co_own ?_; (focus omega))
                    | (refine co_int ?_; (focus omega))
                    | (with_reducible refine coL_cons ?_ ?_)
                    | (with_reducible exact coL_nilm)
                    | (with_reducible refine coL_consm ?_ ?_))
                refine call_do (rd := [60, 61, 62, 63, 64]) (hc _ (by simp)) ⟨rfl, rfl, rfl, rfl, rfl, trivial⟩ ⟨rfl, rfl, rfl, rfl, rfl, rfl, rfl, rfl, rfl, rfl, trivial⟩ (by simp [geth]) ?_
                (try simp -implicitDefEqProofs [ocv_set, *])
                repeat' (first
                    | ((with_reducible refine draw_ok ?_ ?_); (focus rfl); (try simp only [qseq_n, qblock_n]))
                    | ((with_reducible refine sopsk_rg ?_ ?_); (first | omega | (unfold maxLen; omega)); simp -implicitDefEqProofs [ocv_set, *]))
                refine swp_frz [137, 138, 139, 140, 141] ?_ ?_
                · simp only [FrzOk, geth, Nat.reduceEqDiff, reduceIte, and_true]
                  exact ⟨bcs_pure _, bcs_pure _, ucs_pure _, ics_pure _, bcs_pure _⟩
                simp -implicitDefEqProofs [bcs_take, ucs_take, ics_take, bcs_len, ucs_len, ics_len, frz_ocv, frz_ocv', frz_bcs, frz_ucs, frz_ics, List.map_set, hM, hset.out]
                repeat' (first
                    | (with_reducible refine swp_seq ?_)
                    | ((with_reducible refine swp_reg ?_); (try rw [hP]); simp -implicitDefEqProofs [*])
                    | ((with_reducible refine swp_regd (by rw [hP]; exact mixed) ?_); (try rw [hP]); simp -implicitDefEqProofs [*])
                    | ((with_reducible refine swp_skip ?_); (try simp -implicitDefEqProofs [*]))
                    | ((with_reducible refine swp_exit ?_); (try simp -implicitDefEqProofs [*]))
                    | ((with_reducible refine swp_ret ?_); (try simp only [qseq_r, qblock_r, qloop_r]))
                    | ((with_reducible refine swp_cond rfl (fun h => ?_) (fun h => ?_)) <;> have h' := h <;> (try simp at h') <;> (try subst h'))
                    | ((with_reducible refine sopsg_cases (fun h => ?_) (fun h => ?_)) <;> have h' := h <;> (try simp at h') <;> (try subst h') <;> simp -implicitDefEqProofs [*])
                    | ((with_reducible refine draw_ok ?_ ?_); (focus rfl))
                    | ((with_reducible refine sopsk_rg ?_ ?_); (first | omega | (unfold maxLen; omega)); simp -implicitDefEqProofs [*])
                    | (with_reducible refine swp_block1 ?_)
                    | (with_reducible refine swp_block2 ?_)
                    | ((with_reducible refine wk_self [] hm ?_ ?_ ?_ ?_) <;> (try simp only [SSt.turn, setSs, setS, putHs, puth, Nat.reduceEqDiff, reduceIte, Nat.reduceAdd]))
                    | (with_reducible exact slotsM_nil)
                    | (with_reducible refine slotsM_cons ?_ ?_)
                    | (with_reducible exact objsM_nil)
                    | (with_reducible refine objsM_cells (cs := ?_) ?_ ?_ ?_)
                    | (with_reducible refine objsM_rowm (es := ?_) ?_ ?_ ?_)
                    | (with_reducible refine objsM_rowc (es := ?_) ?_ ?_ ?_)
                    | (with_reducible refine objsM_abs ?_ ?_)
                    | (with_reducible exact subH_nil)
                    | (with_reducible refine subH_cons ?_ ?_)
                    | ((with_reducible show geth _ _ = some _); (focus rfl))
                    | ((with_reducible show (_ : List (List SV)) = _); (focus (first | (with_reducible rfl) | rfl | (simp; done))))
                    | ((with_reducible show okNames _ _ _ _ = true); (focus rfl))
                    | ((with_reducible show (_ : Nat) ≤ _); (focus (first | omega | (simp; done))))
                    | ((with_reducible show (_ : Nat) < _); (focus omega))
                    | (refine co_wrap ⟨?_, ?_⟩ ?_ <;> (focus omega))
                    | (with_reducible exact Co.refl _)
                    | (with_reducible exact CoL.refl _)
                    | (with_reducible exact CoLL.refl _)
                    | (exact Co.refl _)
                    | (exact CoL.refl _)
                    | (exact CoLL.refl _)
                    | (refine co_own ?_; (focus omega))
                    | (refine co_int ?_; (focus omega))
                    | (with_reducible refine coL_cons ?_ ?_)
                    | (with_reducible exact coL_nilm)
                    | (with_reducible refine coL_consm ?_ ?_)
                    | ((refine qfor_next hJ (i + 1, a1.set (i + 1) (some M)) ?_ ?_ ?_; (with_reducible refine wk_self [] hm ?_ ?_ ?_ ?_) <;> (try simp only [SSt.turn, setSs, setS, putHs, puth, Nat.reduceEqDiff, reduceIte, Nat.reduceAdd]))))
                exact ⟨by omega, q1.out, q2.out, q3.out⟩
        simp only [icv, hR, hN'] at hca
        have hz0 : (List.map ocv a).set i [.bool false, .nilsl, .nilsl, .nilsl, .nilsl, .nilsl] = List.map ocv (a.set i none) := by rw [List.map_set]; rfl
        replace hz0 := Lib.hid hz0
        have hza : OkA n (a.set i none) := h3.set i fun k e => by cases e
        have hzl : (a.set i none).length = code.length + 1 := by rw [List.length_set]; exact h2
        have hPok := rPut_ok (x := x) (i := i) h3 hB.out
        have hPl : (rPut x i k' a).length = code.length + 1 := by rw [rPut_len]; exact h2
        have hPe : rFrom ⟨n, tabs, code⟩ (code.length - (i + 1)) (i + 1) (rPut x i k' a) = rF ⟨n, tabs, code⟩ := by rw [← h4.out, hstep.out, if_neg (fun h => h rfl)]
        replace hPok := Lib.hid hPok
        replace hPl := Lib.hid hPl
        replace hPe := Lib.hid hPe
        replace hza := Lib.hid hza
        replace tail := Lib.hid tail
        cases hT : hasT x.op
        · have hJ0 : rJ x i k' (a.set i none) = a.set i none := by unfold rJ; rw [if_neg (by rw [hT]; simp)]
          replace hJ0 := Lib.hid hJ0
          repeat' (first
              | (with_reducible refine swp_wk ?_ (tail.out (a.set i none) _ ?_ ?_ ?_))
              | (with_reducible refine swp_seq ?_)
              | ((with_reducible refine swp_reg ?_); (try rw [hP]); simp -implicitDefEqProofs [ocv, RK.cv, RK.own, RK.hp, icv, faultV, bcs_len, ucs_len, ics_len, *])
              | ((with_reducible refine swp_regd (by rw [hP]; exact mixed) ?_); (try rw [hP]); simp -implicitDefEqProofs [ocv, RK.cv, RK.own, RK.hp, icv, faultV, bcs_len, ucs_len, ics_len, *])
              | ((with_reducible refine swp_skip ?_); (try simp -implicitDefEqProofs [ocv, RK.cv, RK.own, RK.hp, icv, faultV, bcs_len, ucs_len, ics_len, *]))
              | ((with_reducible refine swp_exit ?_); (try simp -implicitDefEqProofs [ocv, RK.cv, RK.own, RK.hp, icv, faultV, bcs_len, ucs_len, ics_len, *]))
              | ((with_reducible refine swp_ret ?_); (try simp only [qseq_r, qblock_r, qloop_r]))
              | ((with_reducible refine swp_cond rfl (fun h => ?_) (fun h => ?_)) <;> have h' := h <;> (try simp at h') <;> (try subst h'))
              | ((with_reducible refine sopsg_cases (fun h => ?_) (fun h => ?_)) <;> have h' := h <;> (try simp at h') <;> (try subst h') <;> simp -implicitDefEqProofs [ocv, RK.cv, RK.own, RK.hp, icv, faultV, bcs_len, ucs_len, ics_len, *])
              | ((with_reducible refine draw_ok ?_ ?_); (focus rfl))
              | ((with_reducible refine sopsk_rg ?_ ?_); (first | omega | (unfold maxLen; omega)); simp -implicitDefEqProofs [ocv, RK.cv, RK.own, RK.hp, icv, faultV, bcs_len, ucs_len, ics_len, *])
              | (with_reducible refine swp_block1 ?_)
              | (with_reducible refine swp_block2 ?_)
              | ((with_reducible refine wk_self [] hm ?_ ?_ ?_ ?_) <;> (try simp only [SSt.turn, setSs, setS, putHs, puth, Nat.reduceEqDiff, reduceIte, Nat.reduceAdd]))
              | (with_reducible exact slotsM_nil)
              | (with_reducible refine slotsM_cons ?_ ?_)
              | (with_reducible exact objsM_nil)
              | (with_reducible refine objsM_cells (cs := ?_) ?_ ?_ ?_)
              | (with_reducible refine objsM_rowm (es := ?_) ?_ ?_ ?_)
              | (with_reducible refine objsM_rowc (es := ?_) ?_ ?_ ?_)
              | (with_reducible refine objsM_abs ?_ ?_)
              | (with_reducible exact subH_nil)
              | (with_reducible refine subH_cons ?_ ?_)
              | ((with_reducible show geth _ _ = some _); (focus rfl))
              | ((with_reducible show (_ : List (List SV)) = _); (focus (first | (with_reducible rfl) | rfl | (simp; done))))
              | ((with_reducible show okNames _ _ _ _ = true); (focus rfl))
              | ((with_reducible show (_ : Nat) ≤ _); (focus (first | omega | (simp; done))))
              | ((with_reducible show (_ : Nat) < _); (focus omega))
              | (refine co_wrap ⟨?_, ?_⟩ ?_ <;> (focus omega))
              | (with_reducible exact Co.refl _)
              | (with_reducible exact CoL.refl _)
              | (with_reducible exact CoLL.refl _)
              | (exact Co.refl _)
              | (exact CoL.refl _)
              | (exact CoLL.refl _)
              | (refine co_own ?_; (focus omega))
              | (refine co_int ?_; (focus omega))
              | (with_reducible refine coL_cons ?_ ?_)
              | (with_reducible exact coL_nilm)
              | (with_reducible refine coL_consm ?_ ?_)
              | (refine call_h (hca _) trivial ⟨rfl, rfl, rfl, rfl, rfl, trivial⟩ ?_; simp -implicitDefEqProofs [ocv, RK.cv, RK.own, RK.hp, icv, faultV, bcs_len, ucs_len, ics_len, *])
              | (refine call_q (fieldsOf_s _ _) ?_; simp -implicitDefEqProofs [ocv, RK.cv, RK.own, RK.hp, icv, faultV, bcs_len, ucs_len, ics_len, *])
              | (exact hz0.out))
          · exact hzl
          · exact hza.out
          · intro a' e
            have : rPut x i k' a = a' := by rw [← e]; unfold rPut; rw [hJ0.out]
            rw [← this]; exact ⟨hPl.out, hPok.out, hPe.out⟩
        · obtain ⟨T, hTt⟩ : ∃ T : Nat, x.to = T := ⟨x.to.toNat, by omega⟩
          have ht2 : i + 1 + T < code.length + 1 := by have := ht1 hT; omega
          have hlA : i + 1 + T < a.length := by omega
          have hJ0 : rJ x i k' (a.set i none) = (a.set i none).set (i + 1 + T) (some (oMeet a[i + 1 + T] k')) := by
            unfold rJ
            rw [if_pos hT, hTt, Int.toNat_natCast, List.getD_eq_getElem?_getD, List.getElem?_set_ne (by omega), List.getElem?_eq_getElem hlA]; rfl
          replace hJ0 := Lib.hid hJ0
          have g5 : ∀ k, a[i + 1 + T] = some k → RKok n k := fun k hk => h3 k (by rw [← hk]; exact List.getElem_mem hlA)
          have wi : IntKind.i64.wrap ((i : Int) + 1) = (i : Int) + 1 := i64_add_ (by omega) (by omega)
          have wj : IntKind.i64.wrap ((i : Int) + 1 + T) = (i : Int) + 1 + T := i64_add_ (by omega) (by omega)
          have ti : ((i : Int) + 1 + T).toNat = i + 1 + T := by omega
          have oA := ocv_take a[i + 1 + T]
          have lA := ocv_len a[i + 1 + T]
          have hne : ¬ (i = i + 1 + T) := by omega
          have hc := fun q hq => lend_omeet a[i + 1 + T] k' (fun k hk => ⟨(g5 k hk).there, (g5 k hk).ten, by have := (g5 k hk).len; have := hB.out.len; omega⟩) hB.out.ten 60 q hq
          have hM := oMeet_ok g5 hB.out
          generalize oMeet a[i + 1 + T] k' = M at hc hJ0 hM
          have hMk := Lib.hid hM
          replace hM : M.there = true := hM.there
          simp only [RK.own, RK.hp, hth', List.cons_append, List.nil_append, List.length_set] at hc
          have hset : ((List.map ocv a).set i [.bool false, .nilsl, .nilsl, .nilsl, .nilsl, .nilsl]).set (i + 1 + T) [.bool true, .view 1 (bcs M.set), .view 1 (bcs M.just), .view 1 (ucs M.num), .view 1 (ics M.room), .view 1 (bcs M.slot)] = List.map ocv ((a.set i none).set (i + 1 + T) (some M)) := by rw [List.map_set, List.map_set, ← hM]; rfl
          replace hset := Lib.hid hset
          rw [hTt] at hca
          have c3 : ∀ h : i < a.length, a[i]'h = some k := fun h => by rw [List.getElem?_eq_getElem h] at c2; exact Option.some.inj c2
          repeat' (first
              | (with_reducible refine swp_seq ?_)
              | ((with_reducible refine swp_reg ?_); (try rw [hP]); simp -implicitDefEqProofs [ocvs, RK.own, RK.hp, icv, faultV, bcs_len, ucs_len, ics_len, *])
              | ((with_reducible refine swp_regd (by rw [hP]; exact mixed) ?_); (try rw [hP]); simp -implicitDefEqProofs [ocvs, RK.own, RK.hp, icv, faultV, bcs_len, ucs_len, ics_len, *])
              | ((with_reducible refine swp_skip ?_); (try simp -implicitDefEqProofs [ocvs, RK.own, RK.hp, icv, faultV, bcs_len, ucs_len, ics_len, *]))
              | ((with_reducible refine swp_exit ?_); (try simp -implicitDefEqProofs [ocvs, RK.own, RK.hp, icv, faultV, bcs_len, ucs_len, ics_len, *]))
              | ((with_reducible refine swp_ret ?_); (try simp only [qseq_r, qblock_r, qloop_r]))
              | ((with_reducible refine swp_cond rfl (fun h => ?_) (fun h => ?_)) <;> have h' := h <;> (try simp at h') <;> (try subst h'))
              | ((with_reducible refine sopsg_cases (fun h => ?_) (fun h => ?_)) <;> have h' := h <;> (try simp at h') <;> (try subst h') <;> simp -implicitDefEqProofs [ocvs, RK.own, RK.hp, icv, faultV, bcs_len, ucs_len, ics_len, *])
              | ((with_reducible refine draw_ok ?_ ?_); (focus rfl))
              | ((with_reducible refine sopsk_rg ?_ ?_); (first | omega | (unfold maxLen; omega)); simp -implicitDefEqProofs [ocvs, RK.own, RK.hp, icv, faultV, bcs_len, ucs_len, ics_len, *])
              | (with_reducible refine swp_block1 ?_)
              | (with_reducible refine swp_block2 ?_)
              | ((with_reducible refine wk_self [] hm ?_ ?_ ?_ ?_) <;> (try simp only [SSt.turn, setSs, setS, putHs, puth, Nat.reduceEqDiff, reduceIte, Nat.reduceAdd]))
              | (with_reducible exact slotsM_nil)
              | (with_reducible refine slotsM_cons ?_ ?_)
              | (with_reducible exact objsM_nil)
              | (with_reducible refine objsM_cells (cs := ?_) ?_ ?_ ?_)
              | (with_reducible refine objsM_rowm (es := ?_) ?_ ?_ ?_)
              | (with_reducible refine objsM_rowc (es := ?_) ?_ ?_ ?_)
              | (with_reducible refine objsM_abs ?_ ?_)
              | (with_reducible exact subH_nil)
              | (with_reducible refine subH_cons ?_ ?_)
              | ((with_reducible show geth _ _ = some _); (focus rfl))
              | ((with_reducible show (_ : List (List SV)) = _); (focus (first | (with_reducible rfl) | rfl | (simp; done))))
              | ((with_reducible show okNames _ _ _ _ = true); (focus rfl))
              | ((with_reducible show (_ : Nat) ≤ _); (focus (first | omega | (simp; done))))
              | ((with_reducible show (_ : Nat) < _); (focus omega))
              | (refine co_wrap ⟨?_, ?_⟩ ?_ <;> (focus omega))
              | (with_reducible exact Co.refl _)
              | (with_reducible exact CoL.refl _)
              | (with_reducible exact CoLL.refl _)
              | (exact Co.refl _)
              | (exact CoL.refl _)
              | (exact CoLL.refl _)
              | (refine co_own ?_; (focus omega))
              | (refine co_int ?_; (focus omega))
              | (with_reducible refine coL_cons ?_ ?_)
              | (with_reducible exact coL_nilm)
              | (with_reducible refine coL_consm ?_ ?_)
              | (refine call_h (hca _) trivial ⟨rfl, rfl, rfl, rfl, rfl, trivial⟩ ?_; simp -implicitDefEqProofs [ocvs, RK.own, RK.hp, icv, faultV, bcs_len, ucs_len, ics_len, *])
              | (refine call_q (fieldsOf_s _ _) ?_; simp -implicitDefEqProofs [ocvs, RK.own, RK.hp, icv, faultV, bcs_len, ucs_len, ics_len, *]))
          refine call_do (rd := [60, 61, 62, 63, 64]) (hc _ (by simp)) ⟨rfl, rfl, rfl, rfl, rfl, trivial⟩ ⟨rfl, rfl, rfl, rfl, rfl, rfl, rfl, rfl, rfl, rfl, trivial⟩ (by simp [geth]) ?_
          (try simp -implicitDefEqProofs [ocv_set, *])
          repeat' (first
              | ((with_reducible refine draw_ok ?_ ?_); (focus rfl); (try simp only [qseq_n, qblock_n]))
              | ((with_reducible refine sopsk_rg ?_ ?_); (first | omega | (unfold maxLen; omega)); simp -implicitDefEqProofs [ocv_set, *]))
          refine swp_frz [114, 115, 116, 117, 118] ?_ ?_
          · simp only [FrzOk, geth, Nat.reduceEqDiff, reduceIte, and_true]
            exact ⟨bcs_pure _, bcs_pure _, ucs_pure _, ics_pure _, bcs_pure _⟩
          simp -implicitDefEqProofs [bcs_take, ucs_take, ics_take, bcs_len, ucs_len, ics_len, frz_ocv, frz_ocv', frz_bcs, frz_ucs, frz_ics, List.map_set, hset.out]
          refine swp_wk ?_ (tail.out ((a.set i none).set (i + 1 + T) (some M)) _ ?_ ?_ ?_)
          repeat' (first
              | ((with_reducible refine wk_self [] hm ?_ ?_ ?_ ?_) <;> (try simp only [SSt.turn, setSs, setS, putHs, puth, Nat.reduceEqDiff, reduceIte, Nat.reduceAdd]))
              | (with_reducible exact slotsM_nil)
              | (with_reducible refine slotsM_cons ?_ ?_)
              | (with_reducible exact objsM_nil)
              | (with_reducible refine objsM_cells (cs := ?_) ?_ ?_ ?_)
              | (with_reducible refine objsM_rowm (es := ?_) ?_ ?_ ?_)
              | (with_reducible refine objsM_rowc (es := ?_) ?_ ?_ ?_)
              | (with_reducible refine objsM_abs ?_ ?_)
              | (with_reducible exact subH_nil)
              | (with_reducible refine subH_cons ?_ ?_)
              | ((with_reducible show geth _ _ = some _); (focus rfl))
              | ((with_reducible show (_ : List (List SV)) = _); (focus (first | (with_reducible rfl) | rfl | (simp; done))))
              | ((with_reducible show okNames _ _ _ _ = true); (focus rfl))
              | ((with_reducible show (_ : Nat) ≤ _); (focus (first | omega | (simp; done))))
              | ((with_reducible show (_ : Nat) < _); (focus omega))
              | (refine co_wrap ⟨?_, ?_⟩ ?_ <;> (focus omega))
              | (with_reducible exact Co.refl _)
              | (with_reducible exact CoL.refl _)
              | (with_reducible exact CoLL.refl _)
              | (exact Co.refl _)
              | (exact CoL.refl _)
              | (exact CoLL.refl _)
              | (refine co_own ?_; (focus omega))
              | (refine co_int ?_; (focus omega))
              | (with_reducible refine coL_cons ?_ ?_)
              | (with_reducible exact coL_nilm)
              | (with_reducible refine coL_consm ?_ ?_))
          · rw [List.length_set]; exact hzl
          · exact hza.out.set _ fun k e => by cases e; exact hMk.out
          · intro a' e
            have : rPut x i k' a = a' := by rw [← e]; unfold rPut; rw [hJ0.out]
            rw [← this]; exact ⟨hPl.out, hPok.out, hPe.out⟩
    · have e : i = code.length := by omega
      have hz : rF ⟨n, tabs, code⟩ = (0, 0) := by rw [← h4.out, e, Nat.sub_self]; rfl
      subst e
      replace hz := Lib.hid hz
      repeat' (first
          | (with_reducible refine swp_seq ?_)
          | ((with_reducible refine swp_reg ?_); (try rw [hP]); simp -implicitDefEqProofs [*])
          | ((with_reducible refine swp_regd (by rw [hP]; exact mixed) ?_); (try rw [hP]); simp -implicitDefEqProofs [*])
          | ((with_reducible refine swp_skip ?_); (try simp -implicitDefEqProofs [*]))
          | ((with_reducible refine swp_exit ?_); (try simp -implicitDefEqProofs [*]))
          | ((with_reducible refine swp_ret ?_); (try simp only [qseq_r, qblock_r, qloop_r]))
          | ((with_reducible refine swp_cond rfl (fun h => ?_) (fun h => ?_)) <;> have h' := h <;> (try simp at h') <;> (try subst h'))
          | ((with_reducible refine sopsg_cases (fun h => ?_) (fun h => ?_)) <;> have h' := h <;> (try simp at h') <;> (try subst h') <;> simp -implicitDefEqProofs [*])
          | ((with_reducible refine draw_ok ?_ ?_); (focus rfl))
          | ((with_reducible refine sopsk_rg ?_ ?_); (first | omega | (unfold maxLen; omega)); simp -implicitDefEqProofs [*])
          | (with_reducible refine swp_block1 ?_)
          | (with_reducible refine swp_block2 ?_)
          | ((with_reducible refine wk_self [] hm ?_ ?_ ?_ ?_) <;> (try simp only [SSt.turn, setSs, setS, putHs, puth, Nat.reduceEqDiff, reduceIte, Nat.reduceAdd]))
          | (with_reducible exact slotsM_nil)
          | (with_reducible refine slotsM_cons ?_ ?_)
          | (with_reducible exact objsM_nil)
          | (with_reducible refine objsM_cells (cs := ?_) ?_ ?_ ?_)
          | (with_reducible refine objsM_rowm (es := ?_) ?_ ?_ ?_)
          | (with_reducible refine objsM_rowc (es := ?_) ?_ ?_ ?_)
          | (with_reducible refine objsM_abs ?_ ?_)
          | (with_reducible exact subH_nil)
          | (with_reducible refine subH_cons ?_ ?_)
          | ((with_reducible show geth _ _ = some _); (focus rfl))
          | ((with_reducible show (_ : List (List SV)) = _); (focus (first | (with_reducible rfl) | rfl | (simp; done))))
          | ((with_reducible show okNames _ _ _ _ = true); (focus rfl))
          | ((with_reducible show (_ : Nat) ≤ _); (focus (first | omega | (simp; done))))
          | ((with_reducible show (_ : Nat) < _); (focus omega))
          | (refine co_wrap ⟨?_, ?_⟩ ?_ <;> (focus omega))
          | (with_reducible exact Co.refl _)
          | (with_reducible exact CoL.refl _)
          | (with_reducible exact CoLL.refl _)
          | (exact Co.refl _)
          | (exact CoL.refl _)
          | (exact CoLL.refl _)
          | (refine co_own ?_; (focus omega))
          | (refine co_int ?_; (focus omega))
          | (with_reducible refine coL_cons ?_ ?_)
          | (with_reducible exact coL_nilm)
          | (with_reducible refine coL_consm ?_ ?_)
          | (refine fin _ _ _ _ ?_))
      rw [hz.out]
  · repeat' (first
      | (exact absurd (by assumption) h0)
      | (with_reducible refine swp_seq ?_)
      | ((with_reducible refine swp_reg ?_); (try rw [hP]); simp -implicitDefEqProofs [pcv, faultV, *])
      | ((with_reducible refine swp_regd (by rw [hP]; exact mixed) ?_); (try rw [hP]); simp -implicitDefEqProofs [pcv, faultV, *])
      | ((with_reducible refine swp_skip ?_); (try simp -implicitDefEqProofs [pcv, faultV, *]))
      | ((with_reducible refine swp_exit ?_); (try simp -implicitDefEqProofs [pcv, faultV, *]))
      | ((with_reducible refine swp_ret ?_); (try simp only [qseq_r, qblock_r, qloop_r]))
      | ((with_reducible refine swp_cond rfl (fun h => ?_) (fun h => ?_)) <;> have h' := h <;> (try simp at h') <;> (try subst h'))
      | ((with_reducible refine sopsg_cases (fun h => ?_) (fun h => ?_)) <;> have h' := h <;> (try simp at h') <;> (try subst h') <;> simp -implicitDefEqProofs [pcv, faultV, *])
      | ((with_reducible refine draw_ok ?_ ?_); (focus rfl))
      | ((with_reducible refine sopsk_rg ?_ ?_); (first | omega | (unfold maxLen; omega)); simp -implicitDefEqProofs [pcv, faultV, *])
      | (with_reducible refine swp_block1 ?_)
      | (with_reducible refine swp_block2 ?_)
      | ((with_reducible refine wk_self [] hm ?_ ?_ ?_ ?_) <;> (try simp only [SSt.turn, setSs, setS, putHs, puth, Nat.reduceEqDiff, reduceIte, Nat.reduceAdd]))
      | (with_reducible exact slotsM_nil)
      | (with_reducible refine slotsM_cons ?_ ?_)
      | (with_reducible exact objsM_nil)
      | (with_reducible refine objsM_cells (cs := ?_) ?_ ?_ ?_)
      | (with_reducible refine objsM_rowm (es := ?_) ?_ ?_ ?_)
      | (with_reducible refine objsM_rowc (es := ?_) ?_ ?_ ?_)
      | (with_reducible refine objsM_abs ?_ ?_)
      | (with_reducible exact subH_nil)
      | (with_reducible refine subH_cons ?_ ?_)
      | ((with_reducible show geth _ _ = some _); (focus rfl))
      | ((with_reducible show (_ : List (List SV)) = _); (focus (first | (with_reducible rfl) | rfl | (simp; done))))
      | ((with_reducible show okNames _ _ _ _ = true); (focus rfl))
      | ((with_reducible show (_ : Nat) ≤ _); (focus (first | omega | (simp; done))))
      | ((with_reducible show (_ : Nat) < _); (focus omega))
      | (refine co_wrap ⟨?_, ?_⟩ ?_ <;> (focus omega))
      | (with_reducible exact Co.refl _)
      | (with_reducible exact CoL.refl _)
      | (with_reducible exact CoLL.refl _)
      | (exact Co.refl _)
      | (exact CoL.refl _)
      | (exact CoLL.refl _)
      | (refine co_own ?_; (focus omega))
      | (refine co_int ?_; (focus omega))
      | (with_reducible refine coL_cons ?_ ?_)
      | (with_reducible exact coL_nilm)
      | (with_reducible refine coL_consm ?_ ?_)
      | (refine call_q (rcheck_s ⟨slots, tabs, code⟩ hp _) ?_; simp -implicitDefEqProofs [pcv, faultV, *])
      | (refine fin _ _ _ _ ?_))
    have : rF ⟨slots, tabs, code⟩ = progF ⟨slots, tabs, code⟩ := by unfold rF; rw [if_pos h0]
    rw [this]
end Go.Proofs.Ytfakdapglbgokaa

/-
  Package guard: the program's fault is the reference's. Plain. No condition.
-/
namespace Go.Proofs.Ytfakdapglbgokaa
set_option linter.all false
open Go.RowKit
def KnE (a b : Kn) : Prop := a.set = b.set ∧ a.just = b.just ∧ (a.just = true → a.n = b.n) ∧ a.room = b.room
theorem KnE.refl (a : Kn) : KnE a a := ⟨rfl, rfl, fun _ => rfl, rfl⟩
def gReg (s : GSt) (r : Nat) : Kn := s.regs.getD r default
structure AlikeK (slots : Int) (s : GSt) (k : RK) : Prop where
  rk : RKok slots k
  ok : GOk s
  there : s.there = true
  reg : ∀ r, r < 10 → KnE (gReg s r) (k.kn r)
  slot : ∀ j : Nat, (j : Int) < slots → s.slots.getD j false = k.slot.getD j false
theorem getD_set_ {α : Type} (l : List α) (i j : Nat) (x d : α) (hi : i < l.length) : (l.set i x).getD j d = if j = i then x else l.getD j d := by
  rw [List.getD_eq_getElem?_getD, List.getD_eq_getElem?_getD, List.getElem?_set]
  by_cases h : i = j
  · subst h; simp [hi]
  · rw [if_neg h, if_neg (fun e => h e.symm)]
theorem kn_to {k : RK} (h : k.Ten) (r j : Nat) (x : Kn) (hr : r < 10) : (k.to_ r x).kn j = if j = r then x else k.kn j := by
  unfold RK.to_ RK.put RK.kn
  dsimp only
  rw [getD_set_ _ _ _ _ _ (by rw [h.set]; exact hr), getD_set_ _ _ _ _ _ (by rw [h.just]; exact hr), getD_set_ _ _ _ _ _ (by rw [h.num]; exact hr), getD_set_ _ _ _ _ _ (by rw [h.room]; exact hr)]
  split <;> rfl
theorem reg_set {s : GSt} (h : GOk s) (r : Int) (j : Nat) (x : Kn) (hr : 0 ≤ r ∧ r < 10) : gReg (setR s r x) j = if j = r.toNat then x else gReg s j := by
  unfold gReg setR
  dsimp only
  rw [getD_set_ _ _ _ _ _ (by rw [h.r]; omega)]
theorem AlikeK.setR {slots : Int} {s : GSt} {k : RK} (h : AlikeK slots s k) {a b : Kn} (he : KnE a b) (r : Int) (hr : 0 ≤ r ∧ r < 10) : AlikeK slots (setR s r a) (k.to_ r.toNat b) where
  rk := h.rk.to_ _ _
  ok := ⟨by show (s.regs.set _ _).length = 10; rw [List.length_set]; exact h.ok.r, h.ok.s⟩
  there := h.there
  reg j hj := by
    rw [reg_set h.ok r j a hr, kn_to h.rk.ten _ _ _ (by omega)]
    split
    · exact he
    · exact h.reg j hj
  slot := h.slot
theorem AlikeK.sl {slots : Int} {s : GSt} {k : RK} (h : AlikeK slots s k) {l l' : List Bool} (hl : l.length = 96) (hl' : l'.length = k.slot.length) (he : ∀ j : Nat, (j : Int) < slots → l.getD j false = l'.getD j false) : AlikeK slots ⟨s.there, s.regs, l⟩ (k.sl l') where
  rk := h.rk.sl hl'
  ok := ⟨h.ok.r, hl⟩
  there := h.there
  reg := h.reg
  slot := he
theorem knBin_e (k : Int) {a b a' b' : Kn} (ha : KnE a a') (hb : KnE b b') : KnE (knBin k a b) (knBin k a' b') := by
  obtain ⟨a1, a2, a3, a4⟩ := ha
  obtain ⟨b1, b2, b3, b4⟩ := hb
  unfold knBin
  rw [← a2, ← b2, ← a4]
  by_cases hb : b.just = true
  · rw [← b3 hb]
    by_cases ha : a.just = true
    · rw [← a3 ha]; exact KnE.refl _
    · simp [ha, KnE]
  · simp [hb, KnE]
theorem slotsAll_e {slots : Int} {l l' : List Bool} (he : ∀ j : Nat, (j : Int) < slots → l.getD j false = l'.getD j false) (a : Nat) : ∀ n : Nat, (a : Int) + n ≤ slots → slotsAll l a n = slotsAll l' a n
  | 0, _ => rfl
  | n + 1, h => by rw [slotsAll_succ, slotsAll_succ, slotsAll_e he a n (by omega), he (a + n) (by omega)]
theorem slotsSet_e {slots : Int} {l l' : List Bool} (hl : slots ≤ l.length) (hl' : slots ≤ l'.length) (he : ∀ j : Nat, (j : Int) < slots → l.getD j false = l'.getD j false) (a : Nat) : ∀ n : Nat, (a : Int) + n ≤ slots → ∀ j : Nat, (j : Int) < slots → (slotsSet l a n).getD j false = (slotsSet l' a n).getD j false
  | 0, _, j, hj => he j hj
  | n + 1, h, j, hj => by
    rw [slotsSet, slotsSet, getD_set_ _ _ _ _ _ (by rw [slotsSet_len]; omega), getD_set_ _ _ _ _ _ (by rw [slotsSet_len]; omega)]
    split
    · rfl
    · exact slotsSet_e hl hl' he a n (by omega) j hj
theorem usesAll_e {slots : Int} {tabs : List Shape} {x : Ins} {s : GSt} {k : RK} (hx : InsP slots tabs x) (h : AlikeK slots s k) : ((usesL x).all fun r => (regAt s r).set) = ((usesL x).all fun r => (k.kn r.toNat).set) := by
  rw [Bool.eq_iff_iff, List.all_eq_true, List.all_eq_true]
  have hu := usesL_ok hx
  have e : ∀ r ∈ usesL x, (regAt s r).set = (k.kn r.toNat).set := fun r hr => (h.reg r.toNat (by have := hu r hr; omega)).1
  exact ⟨fun q r hr => by rw [← e r hr]; exact q r hr, fun q r hr => by rw [e r hr]; exact q r hr⟩
theorem alike_does {slots : Int} {tabs : List Shape} {x : Ins} {s : GSt} {k : RK} (hx : InsP slots tabs x) (h : AlikeK slots s k) : (gDoes tabs x s).2 = (rBehind tabs x k).2 ∧ AlikeK slots (gDoes tabs x s).1 (rBehind tabs x k).1 := by
  have hr := hx.r
  have hsl := hx.sl
  have hlen : slots ≤ k.slot.length := by have := h.rk.len; omega
  have hlen2 : slots ≤ s.slots.length := by have := h.ok.s; omega
  have eR := h.reg x.r.toNat (by omega)
  have hsome : KnE knSome knSome := KnE.refl _
  unfold gDoes rBehind
  rw [usesAll_e hx h]
  by_cases c0 : ((usesL x).all fun r => (k.kn r.toNat).set) = false
  · rw [if_pos c0, if_pos c0]; exact ⟨rfl, h⟩
  rw [if_neg c0, if_neg c0]
  by_cases c1 : x.op = 1
  · rw [if_pos c1, if_pos c1]; exact ⟨rfl, h.setR (KnE.refl _) _ hr⟩
  rw [if_neg c1, if_neg c1]
  by_cases c13 : x.op = 13
  · have e : ∀ c : Int, c ≠ 13 → ¬ x.op = c := fun c hc h => hc (h.symm.trans c13)
    have e4 : ¬ (x.op = 4 ∨ x.op = 5 ∨ x.op = 18) := by omega
    rw [if_neg (e 2 (by decide)), if_neg (e 2 (by decide)), if_neg (e 3 (by decide)), if_neg (e 3 (by decide)), if_neg e4, if_neg e4, if_neg (e 6 (by decide)), if_neg (e 6 (by decide)), if_neg (e 7 (by decide)), if_neg (e 7 (by decide)), if_neg (e 8 (by decide)), if_neg (e 8 (by decide)), if_pos c13, if_pos c13]
    have t1 := hx.t c13
    have t2 := hx.ts c13
    have t3 := hx.tk c13
    generalize nth tabs x.n.toNat = t at t1 t2 t3
    unfold gCall rCall
    rw [slotsAll_e h.slot x.s.toNat t.keys.toNat (by omega)]
    split
    · refine ⟨rfl, ?_⟩
      exact (h.sl (by rw [slotsSet_len]; exact h.ok.s) (slotsSet_len _ _ _) (slotsSet_e hlen2 hlen h.slot x.k.toNat t.args.toNat (by omega))).setR hsome x.r hr
    · exact ⟨rfl, h⟩
  have hs := hx.s c13
  have eS := h.reg x.s.toNat (by omega)
  by_cases c2 : x.op = 2
  · rw [if_pos c2, if_pos c2]
    refine ⟨rfl, h.setR ?_ _ hr⟩
    have : (k.kn x.s.toNat).set = true := by
      have hu : usesL x = [x.s] := by unfold usesL; rw [if_neg (by omega), if_pos (by omega)]
      rw [hu] at c0; simpa using c0
    exact ⟨eS.1.trans this, eS.2.1, eS.2.2.1, eS.2.2.2⟩
  rw [if_neg c2, if_neg c2]
  by_cases c3 : x.op = 3
  · rw [if_pos c3, if_pos c3]; exact ⟨rfl, h.setR (knBin_e _ eR eS) _ hr⟩
  rw [if_neg c3, if_neg c3]
  by_cases c4 : x.op = 4 ∨ x.op = 5 ∨ x.op = 18
  · rw [if_pos c4, if_pos c4]; exact ⟨rfl, h.setR hsome _ hr⟩
  rw [if_neg c4, if_neg c4]
  by_cases c6 : x.op = 6
  · rw [if_pos c6, if_pos c6, show (regAt s x.s).room = (k.kn x.s.toNat).room from eS.2.2.2]
    split
    · exact ⟨rfl, h⟩
    · exact ⟨rfl, h.setR hsome _ hr⟩
  rw [if_neg c6, if_neg c6]
  have hn0 := hx.n0
  by_cases c7 : x.op = 7
  · rw [if_pos c7, if_pos c7, h.slot x.n.toNat (by have := hx.n7 (.inl c7); omega)]
    split
    · exact ⟨rfl, h.setR hsome _ hr⟩
    · exact ⟨rfl, h⟩
  rw [if_neg c7, if_neg c7]
  by_cases c8 : x.op = 8
  · rw [if_pos c8, if_pos c8]
    have hn := hx.n7 (.inr c8)
    refine ⟨rfl, h.sl (by rw [List.length_set]; exact h.ok.s) (by rw [List.length_set]) fun j hj => ?_⟩
    rw [getD_set_ _ _ _ _ _ (by omega), getD_set_ _ _ _ _ _ (by omega), h.slot j hj]
  rw [if_neg c8, if_neg c8, if_neg c13, if_neg c13]
  by_cases c15 : x.op = 15
  · rw [if_pos c15, if_pos c15, show (regAt s x.r).room = (k.kn x.r.toNat).room from eR.2.2.2]
    split <;> exact ⟨rfl, h⟩
  rw [if_neg c15, if_neg c15]; exact ⟨rfl, h⟩
end Go.Proofs.Ytfakdapglbgokaa

/-
  Package guard: the program's fault is the reference's, of whole programs. Plain. No condition.
-/
namespace Go.Proofs.Ytfakdapglbgokaa
set_option linter.all false
open Go.RowKit
def AlikeO (slots : Int) (s : GSt) : Option RK → Prop
  | none => s.there = false
  | some k => AlikeK slots s k
theorem upd_getD {α : Type} (f : Nat → α) {xs : List α} {i r : Nat} (d : α) (hr : r < i) : (upd f xs i).getD r d = f r := by
  unfold upd
  rw [List.getD_eq_getElem?_getD, List.getElem?_append_left (by simp [hr]), List.getElem?_map, List.getElem?_range hr]; rfl
theorem zip_getD {α : Type} (f : α → α → α) {xs ys : List α} {r : Nat} (d : α) (h1 : r < xs.length) (h2 : r < ys.length) : (List.zipWith f xs ys).getD r d = f (xs.getD r d) (ys.getD r d) := by
  rw [List.getD_eq_getElem?_getD, List.getD_eq_getElem?_getD, List.getD_eq_getElem?_getD, List.getElem?_zipWith, List.getElem?_eq_getElem h1, List.getElem?_eq_getElem h2]; rfl
theorem alike_join {slots : Int} {s s' : GSt} {o : Option RK} {k' : RK} (h : AlikeO slots s o) (h' : AlikeK slots s' k') (h96 : slots ≤ 96) : AlikeK slots (gJoin s s') (oMeet o k') := by
  cases o with
  | none =>
    have h0 : s.there = false := h
    unfold gJoin oMeet
    rw [h0]; exact h'
  | some k =>
    have h1 : AlikeK slots s k := h
    refine ⟨oMeet_ok (fun k e => by cases e; exact h1.rk) h'.rk, ?_, ?_, fun r hr => ?_, fun j hj => ?_⟩
    · exact gJoin_ok h1.ok h'.ok
    · unfold gJoin; rw [h1.there]; rfl
    · have e1 : gReg (gJoin s s') r = knJoin (gReg s r) (gReg s' r) := by
        unfold gJoin gReg
        rw [h1.there, if_pos rfl]
        exact zip_getD _ _ (by rw [h1.ok.r]; exact hr) (by rw [h'.ok.r]; exact hr)
      have e2 : (oMeet (some k) k').kn r = ⟨mSet k k' r, mJust k k' r, k.num.getD r 0, mRoom k k' r⟩ := by
        show (rMeet k k').kn r = _
        unfold rMeet
        rw [h1.rk.there, if_pos rfl]
        unfold rMeet1 RK.kn
        dsimp only
        rw [upd_getD _ _ hr, upd_getD _ _ hr, upd_getD _ _ hr]
      rw [e1, e2]
      obtain ⟨a1, a2, a3, a4⟩ := h1.reg r hr
      obtain ⟨b1, b2, b3, b4⟩ := h'.reg r hr
      have c1 : k.set.getD r false = (k.kn r).set := rfl
      have c2 : k.just.getD r false = (k.kn r).just := rfl
      have c3 : k.num.getD r 0 = (k.kn r).n := rfl
      have c4 : k.room.getD r 0 = (k.kn r).room := rfl
      have d1 : k'.set.getD r false = (k'.kn r).set := rfl
      have d2 : k'.just.getD r false = (k'.kn r).just := rfl
      have d3 : k'.num.getD r 0 = (k'.kn r).n := rfl
      have d4 : k'.room.getD r 0 = (k'.kn r).room := rfl
      unfold knJoin mJust mRoom mSet
      rw [c1, c2, c3, c4, d1, d2, d3, d4]
      generalize k.kn r = x at a1 a2 a3 a4
      generalize k'.kn r = y at b1 b2 b3 b4
      generalize gReg s r = u at a1 a2 a3 a4
      generalize gReg s' r = v at b1 b2 b3 b4
      rw [a1, b1, a2, b2, a4, b4]
      by_cases hs : (x.set && y.set) = true
      · rw [if_pos hs, hs]
        by_cases hj : x.just = true ∧ y.just = true
        · rw [a3 (a2.trans hj.1), b3 (b2.trans hj.2)]
          refine ⟨rfl, by simp, fun h => ?_, by simp⟩
          dsimp only at h ⊢
          rw [if_pos h]
        · have : (x.just && (y.just && u.n == v.n)) = false := by
            rw [Bool.eq_false_iff]; intro h; simp only [Bool.and_eq_true] at h; exact hj ⟨h.1, h.2.1⟩
          rw [this]
          have : (x.just && (y.just && x.n == y.n)) = false := by
            rw [Bool.eq_false_iff]; intro h; simp only [Bool.and_eq_true] at h; exact hj ⟨h.1, h.2.1⟩
          rw [this]
          exact ⟨rfl, rfl, fun h => (by cases h), by simp⟩
      · rw [if_neg hs]
        have : (x.set && y.set) = false := by simpa using hs
        rw [this]
        exact ⟨rfl, by simp, fun h => (by cases h), by simp⟩
    · have e1 : (gJoin s s').slots.getD j false = (s.slots.getD j false && s'.slots.getD j false) := by
        unfold gJoin
        rw [h1.there, if_pos rfl]
        exact zip_getD _ _ (by rw [h1.ok.s]; omega) (by rw [h'.ok.s]; omega)
      have e2 : (oMeet (some k) k').slot.getD j false = mSlot k k' j := by
        show (rMeet k k').slot.getD j false = _
        unfold rMeet
        rw [h1.rk.there, if_pos rfl]
        exact upd_getD _ _ (by have := h1.rk.len; omega)
      rw [e1, e2, h1.slot j hj, h'.slot j hj]; rfl
theorem AlikeK.setSame {slots : Int} {s : GSt} {k : RK} (h : AlikeK slots s k) {a : Kn} (r : Int) (hr : 0 ≤ r ∧ r < 10) (he : KnE a (k.kn r.toNat)) : AlikeK slots (Go.Proofs.Ytfakdapglbgokaa.setR s r a) k where
  rk := h.rk
  ok := ⟨by show (s.regs.set _ _).length = 10; rw [List.length_set]; exact h.ok.r, h.ok.s⟩
  there := h.there
  reg j hj := by
    rw [reg_set h.ok r j a hr]
    split
    · rename_i e; rw [e]; exact he
    · exact h.reg j hj
  slot := h.slot
theorem alike_after {slots : Int} {x : Ins} {s : GSt} {k : RK} (h : AlikeK slots s k) (hr : 0 ≤ x.r ∧ x.r < 10) : AlikeK slots (gAfter x s) (rAfter x k) := by
  have eR := h.reg x.r.toNat (by omega)
  obtain ⟨q1, q2, q3, q4⟩ := eR
  have e0 : regAt s x.r = gReg s x.r.toNat := rfl
  unfold gAfter
  rw [e0]
  by_cases c9 : x.op = 9
  · rw [if_pos c9, q4]
    by_cases cr : (k.kn x.r.toNat).room < x.n
    · have e1 : rAfter x k = ⟨k.there, k.set, k.just, k.num, k.room.set x.r.toNat x.n, k.slot⟩ := by unfold rAfter; rw [if_pos ⟨cr, c9⟩]
      have hok := rAfter_ok x h.rk
      rw [e1] at hok ⊢
      rw [if_pos cr]
      refine ⟨hok, ⟨by show (s.regs.set _ _).length = 10; rw [List.length_set]; exact h.ok.r, h.ok.s⟩, h.there, fun j hj => ?_, h.slot⟩
      rw [reg_set h.ok _ j _ hr]
      have e2 : RK.kn ⟨k.there, k.set, k.just, k.num, k.room.set x.r.toNat x.n, k.slot⟩ j = ⟨(k.kn j).set, (k.kn j).just, (k.kn j).n, if j = x.r.toNat then x.n else (k.kn j).room⟩ := by
        unfold RK.kn
        dsimp only
        rw [getD_set_ _ _ _ _ _ (by rw [h.rk.ten.room]; omega)]
      rw [e2]
      split
      · rename_i e; subst e; exact ⟨q1, q2, q3, rfl⟩
      · exact h.reg j hj
    · have e1 : rAfter x k = k := by unfold rAfter; rw [if_neg (fun h => cr h.1)]
      rw [e1, if_neg cr]
      exact h.setSame _ hr ⟨q1, q2, q3, rfl⟩
  · have e1 : rAfter x k = k := by unfold rAfter; rw [if_neg (fun h => c9 h.2)]
    rw [if_neg c9, e1]; exact h
def AlikeL (slots : Int) (n i : Nat) (A : List GSt) (B : List (Option RK)) : Prop := A.length = n + 1 ∧ B.length = n + 1 ∧ ∀ j, i ≤ j → j ≤ n → AlikeO slots (A.getD j default) (B.getD j none)
theorem AlikeL.set {slots : Int} {n i : Nat} {A : List GSt} {B : List (Option RK)} (h : AlikeL slots n i A B) {t : Nat} (ht : t ≤ n) {x : GSt} {y : Option RK} (hxy : AlikeO slots x y) : AlikeL slots n i (A.set t x) (B.set t y) :=
  ⟨by rw [List.length_set]; exact h.1, by rw [List.length_set]; exact h.2.1, fun j h1 h2 => by
    rw [getD_set_ _ _ _ _ _ (by rw [h.1]; omega), getD_set_ _ _ _ _ _ (by rw [h.2.1]; omega)]
    split
    · exact hxy
    · exact h.2.2 j h1 h2⟩
theorem gr_from {p : Prog} (hi : ∀ i, i < p.code.length → InsP p.slots p.tabs (nth p.code i) ∧ 0 ≤ (nth p.code i).to ∧ (hasT (nth p.code i).op = true → (nth p.code i).to < (p.code.length : Int) - i - 1)) :
    ∀ m i A B, i + m = p.code.length → AlikeL p.slots p.code.length i A B → gFrom p m i A = rFrom p m i B
  | 0, _, _, _, _, _ => rfl
  | m + 1, i, A, B, him, h => by
    obtain ⟨hx, ht0, ht1⟩ := hi i (by omega)
    have hA := h.2.2 i (Nat.le_refl _) (by omega)
    have h96 := hx.sl.2
    rw [gFrom, rFrom]
    cases hB : B.getD i none with
    | none =>
      rw [hB] at hA
      have hA : (A.getD i default).there = false := hA
      have e : gStep p i A = (0, A) := by unfold gStep; rw [if_pos hA]
      rw [e, if_neg (by simp)]
      exact gr_from hi m (i + 1) A B (by omega) ⟨h.1, h.2.1, fun j h1 h2 => h.2.2 j (by omega) h2⟩
    | some k =>
      rw [hB] at hA
      have hA : AlikeK p.slots (A.getD i default) k := hA
      have e : gStep p i A = ((gDoes p.tabs (nth p.code i) (A.getD i default)).2, gPut (nth p.code i) i (gDoes p.tabs (nth p.code i) (A.getD i default)).1 A) := by
        unfold gStep; rw [if_neg (by rw [hA.there]; simp)]
      rw [e]
      obtain ⟨q1, q2⟩ := alike_does hx hA
      dsimp only
      rw [q1]
      split
      · rfl
      · generalize (gDoes p.tabs (nth p.code i) (A.getD i default)).1 = s' at q2
        generalize (rBehind p.tabs (nth p.code i) k).1 = k' at q2
        generalize nth p.code i = x at hx ht0 ht1 q2
        have hr := hx.r
        refine gr_from hi m (i + 1) _ _ (by omega) ?_
        have h0 : AlikeL p.slots p.code.length (i + 1) A (B.set i none) := ⟨h.1, by rw [List.length_set]; exact h.2.1, fun j h1 h2 => by
          rw [getD_set_ _ _ _ _ _ (by rw [h.2.1]; omega), if_neg (by omega)]; exact h.2.2 j (by omega) h2⟩
        have hJ : gJump x.op = hasT x.op := by
          unfold gJump hasT
          rw [decide_eq_decide]; omega
        have h1 : AlikeL p.slots p.code.length (i + 1) (if gJump x.op = true then A.set (i + 1 + x.to.toNat) (gJoin (A.getD (i + 1 + x.to.toNat) default) s') else A) (rJ x i k' (B.set i none)) := by
          unfold rJ
          rw [hJ]
          split
          · rename_i hT
            have := ht1 hT
            exact h0.set (by omega) (alike_join (h0.2.2 _ (by omega) (by omega)) q2 h96)
          · exact h0
        unfold gPut rPut
        generalize (if gJump x.op = true then A.set (i + 1 + x.to.toNat) (gJoin (A.getD (i + 1 + x.to.toNat) default) s') else A) = A1 at h1
        generalize rJ x i k' (B.set i none) = B1 at h1
        dsimp only
        split
        · exact h1.set (by omega) (alike_join (h1.2.2 _ (by omega) (by omega)) (alike_after q2 hr) h96)
        · exact h1
theorem gF_eq {p : Prog} (hp : PWf p) : gF p = rF p := by
  unfold gF rF
  split
  · rfl
  · rename_i h0
    have h0 : (progF p).1 = 0 := by simpa using h0
    have hv := (progF_valid hp.c h0).1
    have hsl := hv.slots
    obtain ⟨n, hn⟩ : ∃ n : Nat, p.slots = n := ⟨p.slots.toNat, by omega⟩
    refine gr_from (fun i hi => progF_ins_ok hp.c h0 i hi) _ 0 _ _ (by omega) ⟨by simp, by simp, fun j _ hj => ?_⟩
    cases j with
    | zero =>
      show AlikeK p.slots gFirst (rkFirst p.slots.toNat)
      rw [hn, Int.toNat_natCast]
      refine ⟨⟨rfl, ⟨rfl, rfl, rfl, rfl, by show (List.replicate n false).length ≤ 96; rw [List.length_replicate]; omega⟩, by show ((List.replicate n false).length : Int) = n; rw [List.length_replicate]⟩, ⟨rfl, rfl⟩, rfl, fun r hr => ?_, fun j hj => ?_⟩
      · have : r = 0 ∨ r = 1 ∨ r = 2 ∨ r = 3 ∨ r = 4 ∨ r = 5 ∨ r = 6 ∨ r = 7 ∨ r = 8 ∨ r = 9 := by omega
        rcases this with rfl | rfl | rfl | rfl | rfl | rfl | rfl | rfl | rfl | rfl <;> exact ⟨rfl, rfl, fun h => (by cases h), rfl⟩
      · show (List.replicate 96 false).getD j false = (List.replicate n false).getD j false
        rw [List.getD_eq_getElem?_getD, List.getD_eq_getElem?_getD, List.getElem?_replicate, List.getElem?_replicate]
        split <;> split <;> rfl
    | succ j =>
      show AlikeO p.slots ((List.replicate p.code.length gzero).getD j default) ((List.replicate p.code.length none).getD j none)
      rw [List.getD_eq_getElem?_getD, List.getD_eq_getElem?_getD, List.getElem?_replicate, List.getElem?_replicate, if_pos (by omega), if_pos (by omega)]
      rfl
end Go.Proofs.Ytfakdapglbgokaa

/-
  Package guard: its laws' code, in the plain machine: OwnProgram, guardBegun, GuardDoes. No condition.
-/
-- v2
namespace Go.Proofs.Ytfakdapglbgokaa
set_option linter.all false
open Go.RowKit
attribute [local simp] sops_nil sops_run sopsk_some sops_call sops_guard sopsg_yes sopsg_tf sopsg_ft sopsg_undef rg_true SOp.run SX.ev putd puts argS upds SOp.touch SSt.keep SSt.skip gets geth puth delh idOf SV.cells? setL fillS fillR sbin eq0 eq1 eqL rowOf qseq_n qseq_e qseq_r qblock_n qblock_r qblock_e qloop_e qloop_r take_map_len FrzOk pureV_int pureV_bool pureV_str pureV_nil pureV_nilsl pureV_view pureV_cp pureL_nil_ pureL_cons_ pureO_row pureO_cells frzS frzH frz frz1 frz0 SlotsM ObjsM ObjM rn ren ren1 ren0 co_self co_int co_own co_view co_nilsl co_agg co_tup CoL coll_self mergeH dels adds idsH okNames
instance : PureF scv := ⟨fun _ _ => rfl, fun _ => rfl, fun _ => pureL_ints _ rfl⟩
instance : PureF icv := ⟨fun _ _ => rfl, fun _ => rfl, fun _ => pureL_ints _ rfl⟩
theorem agg_prog : aggOf Try.prog 63 = some true := by kernel_rfl
theorem size_prog : sizeOf_ Try.prog 63 = some 3 := by kernel_rfl
def progRows (p : Prog) : List (TypeId × Nat × List (List SV)) := [(123, 3, p.tabs.map scv), (56, 6, p.code.map icv)]
def progOwn (p : Prog) (q : Nat) : SV := .agg [.int .i64 p.slots, .own q p.tabs.length, .own (q + 1) p.code.length]
theorem ownp_s (p : Prog) (ht : p.tabs.length ≤ 300) (hc : p.code.length ≤ 65000) : SCalls Try.prog 47 [.agg (pcv p)] [] 0 (progOwn p 0) (RowsL 0 (progRows p)) := by
  refine scalls_of (N := 16) Try.func47 rfl rfl (by kernel_rfl) comp_c_ownp (by simp) ⟨rfl, trivial⟩ trivial ?_
  rintro X hP hN hm
  obtain ⟨slots, tabs, code⟩ := p
  dsimp only at ht hc
  have b1 : tabs.length ≤ maxLen := by unfold maxLen; omega
  have b2 : code.length ≤ maxLen := by unfold maxLen; omega
  have b3 : tabs.length * 24 ≤ 140737488355328 := by omega
  have b4 : code.length * 48 ≤ 140737488355328 := by omega
  unfold c_ownp
  repeat' (first
      | (with_reducible refine swp_seq ?_)
      | ((with_reducible refine swp_reg ?_); (try rw [hP]); simp -implicitDefEqProofs [pcv, *])
      | ((with_reducible refine swp_regd (by rw [hP]; exact mixed) ?_); (try rw [hP]); simp -implicitDefEqProofs [pcv, *])
      | ((with_reducible refine swp_skip ?_); (try simp -implicitDefEqProofs [pcv, *]))
      | ((with_reducible refine swp_exit ?_); (try simp -implicitDefEqProofs [pcv, *]))
      | ((with_reducible refine swp_ret ?_); (try simp only [qseq_r, qblock_r, qloop_r]))
      | ((with_reducible refine swp_cond rfl (fun h => ?_) (fun h => ?_)) <;> have h' := h <;> (try simp at h') <;> (try subst h'))
      | ((with_reducible refine sopsg_cases (fun h => ?_) (fun h => ?_)) <;> have h' := h <;> (try simp at h') <;> (try subst h') <;> simp -implicitDefEqProofs [pcv, *])
      | ((with_reducible refine draw_ok ?_ ?_); (focus rfl))
      | ((with_reducible refine sopsk_rg ?_ ?_); (first | omega | (unfold maxLen; omega)); simp -implicitDefEqProofs [pcv, *])
      | (with_reducible refine swp_block1 ?_)
      | (with_reducible refine swp_block2 ?_)
      | ((with_reducible refine wk_self [] hm ?_ ?_ ?_ ?_) <;> (try simp only [SSt.turn, setSs, setS, putHs, puth, Nat.reduceEqDiff, reduceIte, Nat.reduceAdd]))
      | (with_reducible exact slotsM_nil)
      | (with_reducible refine slotsM_cons ?_ ?_)
      | (with_reducible exact objsM_nil)
      | (with_reducible refine objsM_cells (cs := ?_) ?_ ?_ ?_)
      | (with_reducible refine objsM_rowm (es := ?_) ?_ ?_ ?_)
      | (with_reducible refine objsM_rowc (es := ?_) ?_ ?_ ?_)
      | (with_reducible refine objsM_abs ?_ ?_)
      | (with_reducible exact subH_nil)
      | (with_reducible refine subH_cons ?_ ?_)
      | ((with_reducible show geth _ _ = some _); (focus rfl))
      | ((with_reducible show (_ : List (List SV)) = _); (focus (first | (with_reducible rfl) | rfl | (simp; done))))
      | ((with_reducible show okNames _ _ _ _ = true); (focus rfl))
      | ((with_reducible show (_ : Nat) ≤ _); (focus (first | omega | (simp; done))))
      | ((with_reducible show (_ : Nat) < _); (focus omega))
      | (refine co_wrap ⟨?_, ?_⟩ ?_ <;> (focus omega))
      | (with_reducible exact Co.refl _)
      | (with_reducible exact CoL.refl _)
      | (with_reducible exact CoLL.refl _)
      | (exact Co.refl _)
      | (exact CoL.refl _)
      | (exact CoLL.refl _)
      | (refine co_own ?_; (focus omega))
      | (refine co_int ?_; (focus omega))
      | (with_reducible refine coL_cons ?_ ?_)
      | (with_reducible exact coL_nilm)
      | (with_reducible refine coL_consm ?_ ?_))
  refine qfun_done (s' := ⟨[(2, .ptr 5 0)], (5, .cells 63 [.int .i64 slots, .own 0 tabs.length, .own 1 code.length]) :: RowsL 0 (progRows ⟨slots, tabs, code⟩), 6⟩) (wk_self [(5, ?_), (0, ?_), (1, ?_)] hm ?_ ?_ ?_ ?_) ?_ ⟨rfl, rfl, trivial⟩ (by simp)
  all_goals try simp only [RowsL, progRows, progOwn]
  repeat' (first
      | ((with_reducible refine wk_self [] hm ?_ ?_ ?_ ?_) <;> (try simp only [SSt.turn, setSs, setS, putHs, puth, Nat.reduceEqDiff, reduceIte, Nat.reduceAdd]))
      | (with_reducible exact slotsM_nil)
      | (with_reducible refine slotsM_cons ?_ ?_)
      | (with_reducible exact objsM_nil)
      | (with_reducible refine objsM_cells (cs := ?_) ?_ ?_ ?_)
      | (with_reducible refine objsM_rowm (es := ?_) ?_ ?_ ?_)
      | (with_reducible refine objsM_rowc (es := ?_) ?_ ?_ ?_)
      | (with_reducible refine objsM_abs ?_ ?_)
      | (with_reducible exact subH_nil)
      | (with_reducible refine subH_cons ?_ ?_)
      | ((with_reducible show geth _ _ = some _); (focus rfl))
      | ((with_reducible show (_ : List (List SV)) = _); (focus (first | (with_reducible rfl) | rfl | (simp; done))))
      | ((with_reducible show okNames _ _ _ _ = true); (focus rfl))
      | ((with_reducible show (_ : Nat) ≤ _); (focus (first | omega | (simp; done))))
      | ((with_reducible show (_ : Nat) < _); (focus omega))
      | (refine co_wrap ⟨?_, ?_⟩ ?_ <;> (focus omega))
      | (with_reducible exact Co.refl _)
      | (with_reducible exact CoL.refl _)
      | (with_reducible exact CoLL.refl _)
      | (exact Co.refl _)
      | (exact CoL.refl _)
      | (exact CoLL.refl _)
      | (refine co_own ?_; (focus omega))
      | (refine co_int ?_; (focus omega))
      | (with_reducible refine coL_cons ?_ ?_)
      | (with_reducible exact coL_nilm)
      | (with_reducible refine coL_consm ?_ ?_))
  simp -implicitDefEqProofs [hP, resOf, resL, resV, agg_prog, size_prog, one_]
theorem call_ownp (p : Prog) (ht : p.tabs.length ≤ 300) (hc : p.code.length ≤ 65000) (q : Nat) : SCalls Try.prog 47 [.agg (pcv p)] [] q (progOwn p q) (RowsL q (progRows p)) :=
  scalls_rows (progRows p) (ownp_s p ht hc) (fun σ => rfl) (by intro x hx; simp [progRows] at hx; rcases hx with rfl | rfl <;> exact pureR_map _ _) (by simp [progRows]) q (by simp [progOwn, ren, ren1, ren0, sg]) (by simp [progOwn, ok2, ok1, ok0])
theorem call_gcheck (p : Prog) (hp : PWf p) (q : Nat) : SCalls Try.prog 68 [.agg (pcv p)] [] q (faultV (gF p)) [] := scalls_q (gcheck_s p hp) (fun σ => rfl) (fun σ => rfl) rfl q
theorem call_gfault (p : Prog) (hp : PWf p) (q : Nat) : SCalls Try.prog 69 [.agg (pcv p)] [] q (faultV (rF p)) [] := scalls_q (gfault_s p hp) (fun σ => rfl) (fun σ => rfl) rfl q
def gB1 : Prog := ⟨0, [], [⟨1, 0, 0, 0, 0, 0⟩, ⟨9, 0, 0, 0, 1, 1⟩, ⟨6, 1, 0, 1, 0, 0⟩, ⟨17, 0, 0, 0, 0, 0⟩]⟩
def gB2 : Prog := ⟨0, [], [⟨1, 0, 0, 0, 0, 0⟩, ⟨1, 2, 0, 0, 0, 0⟩, ⟨6, 1, 0, 1, 0, 0⟩, ⟨17, 0, 0, 0, 0, 0⟩]⟩
theorem gB1_f : gF gB1 = (0, 0) := by kernel_rfl
theorem gB2_f : gF gB2 = (16, 2) := by kernel_rfl
end Go.Proofs.Ytfakdapglbgokaa

/-
  Package guard: guardBegun and GuardDoes, in the plain machine. No condition.
-/
-- v2
namespace Go.Proofs.Ytfakdapglbgokaa
set_option linter.all false
open Go.RowKit
attribute [local simp] sops_nil sops_run sopsk_some sops_call sops_guard sopsg_yes sopsg_tf sopsg_ft sopsg_undef rg_true SOp.run SX.ev putd puts argS upds SOp.touch SSt.keep SSt.skip gets geth puth delh idOf SV.cells? setL fillS fillR sbin eq0 eq1 eqL rowOf qseq_n qseq_e qseq_r qblock_n qblock_r qblock_e qloop_e qloop_r take_map_len FrzOk pureV_int pureV_bool pureV_str pureV_nil pureV_nilsl pureV_view pureV_cp pureL_nil_ pureL_cons_ pureO_row pureO_cells frzS frzH frz frz1 frz0 SlotsM ObjsM ObjM rn ren ren1 ren0 co_self co_int co_own co_view co_nilsl co_agg co_tup CoL coll_self mergeH dels adds idsH okNames
theorem lent_co {h1 : Hp} {x y : SV} (h : Co x y) : Lent h1 x y := fun O ρ fp w v hok hx => (h _ _ _ _ hx).weaken fun _ hk _ => lent_av hk
theorem fault_clean (e : Int × Int) : CleanV (faultV e) := clean_agg (cleanL_cons (clean_int _ _) (cleanL_cons (clean_int _ _) cleanL_nil))
theorem gB1_wf : PWf gB1 := ⟨fun x hx => by simp [gB1] at hx, fun x hx => by simp [gB1] at hx; rcases hx with rfl | rfl | rfl | rfl <;> exact ⟨rfl, rfl, rfl, rfl, rfl, rfl⟩⟩
theorem gB2_wf : PWf gB2 := ⟨fun x hx => by simp [gB2] at hx, fun x hx => by simp [gB2] at hx; rcases hx with rfl | rfl | rfl | rfl <;> exact ⟨rfl, rfl, rfl, rfl, rfl, rfl⟩⟩
theorem begun_look (p : Prog) (hp : PWf p) (ht : p.tabs = []) (id q : Nat) : SCalls Try.prog 68 [.agg [.int .i64 p.slots, .nilsl, .own id p.code.length]] [(id, .row 56 6 (p.code.map icv))] q (faultV (gF p)) [(id, .row 56 6 (p.code.map icv))] := by
  have hr : Lent [(id, .row 56 6 (p.code.map icv))] (.own id p.code.length) (.view 6 (p.code.map icv)) := lent_row (e := 56) (by simp [geth]) (rowf_pure _ _) (by simp)
  refine scalls_look (call_gcheck p hp q) ⟨lent_agg ⟨lent_refl _, lent_co ?_, hr, trivial⟩, trivial⟩ (fault_clean _)
  rw [ht]; exact Co.nilsl 3
theorem gbegun_s : SCalls Try.prog 67 [] [] 0 (.bool true) [] := by
  refine scalls_of (N := 24) Try.func67 rfl rfl (by kernel_rfl) comp_c_gbegun (by simp) trivial trivial ?_
  rintro X hP hN hm
  have h1 := begun_look gB1 gB1_wf rfl
  have h2 := begun_look gB2 gB2_wf rfl
  rw [gB1_f] at h1
  rw [gB2_f] at h2
  simp only [gB1, gB2, List.map_cons, List.map_nil, icv, List.length_cons, List.length_nil] at h1 h2
  unfold c_gbegun
  repeat' (first
      | (with_reducible refine swp_seq ?_)
      | ((with_reducible refine swp_reg ?_); (try rw [hP]); simp -implicitDefEqProofs [faultV, *])
      | ((with_reducible refine swp_regd (by rw [hP]; exact mixed) ?_); (try rw [hP]); simp -implicitDefEqProofs [faultV, *])
      | ((with_reducible refine swp_skip ?_); (try simp -implicitDefEqProofs [faultV, *]))
      | ((with_reducible refine swp_exit ?_); (try simp -implicitDefEqProofs [faultV, *]))
      | ((with_reducible refine swp_ret ?_); (try simp only [qseq_r, qblock_r, qloop_r]))
      | ((with_reducible refine swp_cond rfl (fun h => ?_) (fun h => ?_)) <;> have h' := h <;> (try simp at h') <;> (try subst h'))
      | ((with_reducible refine sopsg_cases (fun h => ?_) (fun h => ?_)) <;> have h' := h <;> (try simp at h') <;> (try subst h') <;> simp -implicitDefEqProofs [faultV, *])
      | ((with_reducible refine draw_ok ?_ ?_); (focus rfl))
      | ((with_reducible refine sopsk_rg ?_ ?_); (first | omega | (unfold maxLen; omega)); simp -implicitDefEqProofs [faultV, *])
      | (with_reducible refine swp_block1 ?_)
      | (with_reducible refine swp_block2 ?_)
      | ((with_reducible refine wk_self [] hm ?_ ?_ ?_ ?_) <;> (try simp only [SSt.turn, setSs, setS, putHs, puth, Nat.reduceEqDiff, reduceIte, Nat.reduceAdd]))
      | (with_reducible exact slotsM_nil)
      | (with_reducible refine slotsM_cons ?_ ?_)
      | (with_reducible exact objsM_nil)
      | (with_reducible refine objsM_cells (cs := ?_) ?_ ?_ ?_)
      | (with_reducible refine objsM_rowm (es := ?_) ?_ ?_ ?_)
      | (with_reducible refine objsM_rowc (es := ?_) ?_ ?_ ?_)
      | (with_reducible refine objsM_abs ?_ ?_)
      | (with_reducible exact subH_nil)
      | (with_reducible refine subH_cons ?_ ?_)
      | ((with_reducible show geth _ _ = some _); (focus rfl))
      | ((with_reducible show (_ : List (List SV)) = _); (focus (first | (with_reducible rfl) | rfl | (simp; done))))
      | ((with_reducible show okNames _ _ _ _ = true); (focus rfl))
      | ((with_reducible show (_ : Nat) ≤ _); (focus (first | omega | (simp; done))))
      | ((with_reducible show (_ : Nat) < _); (focus omega))
      | (refine co_wrap ⟨?_, ?_⟩ ?_ <;> (focus omega))
      | (with_reducible exact Co.refl _)
      | (with_reducible exact CoL.refl _)
      | (with_reducible exact CoLL.refl _)
      | (exact Co.refl _)
      | (exact CoL.refl _)
      | (exact CoLL.refl _)
      | (refine co_own ?_; (focus omega))
      | (refine co_int ?_; (focus omega))
      | (with_reducible refine coL_cons ?_ ?_)
      | (with_reducible exact coL_nilm)
      | (with_reducible refine coL_consm ?_ ?_)
      | (refine call_r (h1 _ _) ⟨rfl, trivial⟩ ⟨rfl, trivial⟩ ?_; simp -implicitDefEqProofs [faultV, *])
      | (refine call_r (h2 _ _) ⟨rfl, trivial⟩ ⟨rfl, trivial⟩ ?_; simp -implicitDefEqProofs [faultV, *]))
  refine qfun_done (s' := ⟨[(0, .bool true)], [], 0⟩) ?_ ?_ trivial (by simp)
  repeat' (first
      | ((with_reducible refine wk_self [] hm ?_ ?_ ?_ ?_) <;> (try simp only [SSt.turn, setSs, setS, putHs, puth, Nat.reduceEqDiff, reduceIte, Nat.reduceAdd]))
      | (with_reducible exact slotsM_nil)
      | (with_reducible refine slotsM_cons ?_ ?_)
      | (with_reducible exact objsM_nil)
      | (with_reducible refine objsM_cells (cs := ?_) ?_ ?_ ?_)
      | (with_reducible refine objsM_rowm (es := ?_) ?_ ?_ ?_)
      | (with_reducible refine objsM_rowc (es := ?_) ?_ ?_ ?_)
      | (with_reducible refine objsM_abs ?_ ?_)
      | (with_reducible exact subH_nil)
      | (with_reducible refine subH_cons ?_ ?_)
      | ((with_reducible show geth _ _ = some _); (focus rfl))
      | ((with_reducible show (_ : List (List SV)) = _); (focus (first | (with_reducible rfl) | rfl | (simp; done))))
      | ((with_reducible show okNames _ _ _ _ = true); (focus rfl))
      | ((with_reducible show (_ : Nat) ≤ _); (focus (first | omega | (simp; done))))
      | ((with_reducible show (_ : Nat) < _); (focus omega))
      | (refine co_wrap ⟨?_, ?_⟩ ?_ <;> (focus omega))
      | (with_reducible exact Co.refl _)
      | (with_reducible exact CoL.refl _)
      | (with_reducible exact CoLL.refl _)
      | (exact Co.refl _)
      | (exact CoL.refl _)
      | (exact CoLL.refl _)
      | (refine co_own ?_; (focus omega))
      | (refine co_int ?_; (focus omega))
      | (with_reducible refine coL_cons ?_ ?_)
      | (with_reducible exact coL_nilm)
      | (with_reducible refine coL_consm ?_ ?_))
  simp -implicitDefEqProofs [hP, resOf, resL, resV, one_]
end Go.Proofs.Ytfakdapglbgokaa

/-
  Package guard: every Check is as the document says (GuardDoes), in the plain machine and out of it. No condition.
-/
-- v2
namespace Go.Proofs.Ytfakdapglbgokaa
set_option linter.all false
open Go.RowKit
attribute [local simp] sops_nil sops_run sopsk_some sops_call sops_guard sopsg_yes sopsg_tf sopsg_ft sopsg_undef rg_true SOp.run SX.ev putd puts argS upds SOp.touch SSt.keep SSt.skip gets geth puth delh idOf SV.cells? setL fillS fillR sbin eq0 eq1 eqL rowOf qseq_n qseq_e qseq_r qblock_n qblock_r qblock_e qloop_e qloop_r take_map_len FrzOk pureV_int pureV_bool pureV_str pureV_nil pureV_nilsl pureV_view pureV_cp pureL_nil_ pureL_cons_ pureO_row pureO_cells frzS frzH frz frz1 frz0 SlotsM ObjsM ObjM rn ren ren1 ren0 co_self co_int co_own co_view co_nilsl co_agg co_tup CoL coll_self mergeH dels adds idsH okNames
theorem call_gbegun (q : Nat) : SCalls Try.prog 67 [] [] q (.bool true) [] := scalls_q gbegun_s (fun σ => rfl) (fun σ => rfl) rfl q
theorem scv_take (l : List Shape) : (l.map scv).take l.length = l.map scv := List.take_of_length_le (by simp)
theorem gdoesL_s (p : Prog) (hp : PWf p) : SCalls Try.prog 11 [.agg (pcv p)] [] 0 (.bool true) [] := by
  refine scalls_of (N := 20) Try.func11 rfl rfl (by kernel_rfl) comp_c_gdoesL (by simp) ⟨rfl, trivial⟩ trivial ?_
  rintro X hP hN hm
  have hsame : decide (p = p) = true := by simp
  have hs := fun q => psame_s p p hp hp q
  rw [hsame] at hs
  have hgf := gF_eq hp
  have hck := fun q => call_gcheck p hp q
  rw [hgf] at hck
  have hft := fun q => call_gfault p hp q
  have hgr := fun q => pgreat_s p hp q
  generalize rF p = e at hck hft
  have hown := fun h1 h2 q => call_ownp p h1 h2 q
  obtain ⟨slots, tabs, code⟩ := p
  simp only [pcv, faultV] at hck hft hgr hs hown
  have fin : ∀ hp nx, QFun X [ResultVar.tmp 2] 0 (.bool true) [] .ret ⟨[(2, .bool true)], hp, nx⟩ := fun hp nx => by
    refine qfun_done (s' := ⟨[(2, .bool true)], [], 0⟩) ?_ ?_ trivial (by simp)
    repeat' (first
        | ((with_reducible refine wk_self [] hm ?_ ?_ ?_ ?_) <;> (try simp only [SSt.turn, setSs, setS, putHs, puth, Nat.reduceEqDiff, reduceIte, Nat.reduceAdd]))
        | (with_reducible exact slotsM_nil)
        | (with_reducible refine slotsM_cons ?_ ?_)
        | (with_reducible exact objsM_nil)
        | (with_reducible refine objsM_cells (cs := ?_) ?_ ?_ ?_)
        | (with_reducible refine objsM_rowm (es := ?_) ?_ ?_ ?_)
        | (with_reducible refine objsM_rowc (es := ?_) ?_ ?_ ?_)
        | (with_reducible refine objsM_abs ?_ ?_)
        | (with_reducible exact subH_nil)
        | (with_reducible refine subH_cons ?_ ?_)
        | ((with_reducible show geth _ _ = some _); (focus rfl))
        | ((with_reducible show (_ : List (List SV)) = _); (focus (first | (with_reducible rfl) | rfl | (simp; done))))
        | ((with_reducible show okNames _ _ _ _ = true); (focus rfl))
        | ((with_reducible show (_ : Nat) ≤ _); (focus (first | omega | (simp; done))))
        | ((with_reducible show (_ : Nat) < _); (focus omega))
        | (refine co_wrap ⟨?_, ?_⟩ ?_ <;> (focus omega))
        | (with_reducible exact Co.refl _)
        | (with_reducible exact CoL.refl _)
        | (with_reducible exact CoLL.refl _)
        | (exact Co.refl _)
        | (exact CoL.refl _)
        | (exact CoLL.refl _)
        | (refine co_own ?_; (focus omega))
        | (refine co_int ?_; (focus omega))
        | (with_reducible refine coL_cons ?_ ?_)
        | (with_reducible exact coL_nilm)
        | (with_reducible refine coL_consm ?_ ?_))
    simp -implicitDefEqProofs [hP, resOf, resL, resV, one_]
  unfold c_gdoesL
  cases hg : greatB ⟨slots, tabs, code⟩
  · rw [hg] at hgr
    unfold greatB at hg
    simp only [Bool.or_eq_false_iff, decide_eq_false_iff_not] at hg
    have hown := fun q => hown (by have := hg.1; omega) (by have := hg.2; omega) q
    simp only [progOwn, progRows, RowsL] at hown
    replace hg := Lib.hid hg
    repeat' (first
        | ((with_reducible refine swp_stop (c := .seq (.reg true c_gdoesL_r7 [2]) .ret) ?_))
        | (with_reducible refine swp_seq ?_)
        | ((with_reducible refine swp_reg ?_); (try rw [hP]); simp -implicitDefEqProofs [pcv, *])
        | ((with_reducible refine swp_regd (by rw [hP]; exact mixed) ?_); (try rw [hP]); simp -implicitDefEqProofs [pcv, *])
        | ((with_reducible refine swp_skip ?_); (try simp -implicitDefEqProofs [pcv, *]))
        | ((with_reducible refine swp_exit ?_); (try simp -implicitDefEqProofs [pcv, *]))
        | ((with_reducible refine swp_ret ?_); (try simp only [qseq_r, qblock_r, qloop_r]))
        | ((with_reducible refine swp_cond rfl (fun h => ?_) (fun h => ?_)) <;> have h' := h <;> (try simp at h') <;> (try subst h'))
        | ((with_reducible refine sopsg_cases (fun h => ?_) (fun h => ?_)) <;> have h' := h <;> (try simp at h') <;> (try subst h') <;> simp -implicitDefEqProofs [pcv, *])
        | ((with_reducible refine draw_ok ?_ ?_); (focus rfl))
        | ((with_reducible refine sopsk_rg ?_ ?_); (first | omega | (unfold maxLen; omega)); simp -implicitDefEqProofs [pcv, *])
        | (with_reducible refine swp_block1 ?_)
        | (with_reducible refine swp_block2 ?_)
        | ((with_reducible refine wk_self [] hm ?_ ?_ ?_ ?_) <;> (try simp only [SSt.turn, setSs, setS, putHs, puth, Nat.reduceEqDiff, reduceIte, Nat.reduceAdd]))
        | (with_reducible exact slotsM_nil)
        | (with_reducible refine slotsM_cons ?_ ?_)
        | (with_reducible exact objsM_nil)
        | (with_reducible refine objsM_cells (cs := ?_) ?_ ?_ ?_)
        | (with_reducible refine objsM_rowm (es := ?_) ?_ ?_ ?_)
        | (with_reducible refine objsM_rowc (es := ?_) ?_ ?_ ?_)
        | (with_reducible refine objsM_abs ?_ ?_)
        | (with_reducible exact subH_nil)
        | (with_reducible refine subH_cons ?_ ?_)
        | ((with_reducible show geth _ _ = some _); (focus rfl))
        | ((with_reducible show (_ : List (List SV)) = _); (focus (first | (with_reducible rfl) | rfl | (simp; done))))
        | ((with_reducible show okNames _ _ _ _ = true); (focus rfl))
        | ((with_reducible show (_ : Nat) ≤ _); (focus (first | omega | (simp; done))))
        | ((with_reducible show (_ : Nat) < _); (focus omega))
        | (refine co_wrap ⟨?_, ?_⟩ ?_ <;> (focus omega))
        | (with_reducible exact Co.refl _)
        | (with_reducible exact CoL.refl _)
        | (with_reducible exact CoLL.refl _)
        | (exact Co.refl _)
        | (exact CoL.refl _)
        | (exact CoLL.refl _)
        | (refine co_own ?_; (focus omega))
        | (refine co_int ?_; (focus omega))
        | (with_reducible refine coL_cons ?_ ?_)
        | (with_reducible exact coL_nilm)
        | (with_reducible refine coL_consm ?_ ?_)
        | (refine call_q (call_gbegun _) ?_; simp -implicitDefEqProofs [pcv, *])
        | (refine call_q (hgr _) ?_; simp -implicitDefEqProofs [pcv, *])
        | (refine call_h (hown _) trivial ⟨rfl, rfl, trivial⟩ ?_; simp -implicitDefEqProofs [pcv, *]))
    constructor
    refine swp_frz [21, 22] ?_ ?_
    · simp only [FrzOk, geth, Nat.reduceEqDiff, reduceIte, pureR_O, and_true]
    simp -implicitDefEqProofs
    repeat' (first
        | (with_reducible refine swp_seq ?_)
        | ((with_reducible refine swp_reg ?_); (try rw [hP]); simp -implicitDefEqProofs [eqL, *])
        | ((with_reducible refine swp_regd (by rw [hP]; exact mixed) ?_); (try rw [hP]); simp -implicitDefEqProofs [eqL, *])
        | ((with_reducible refine swp_skip ?_); (try simp -implicitDefEqProofs [eqL, *]))
        | ((with_reducible refine swp_exit ?_); (try simp -implicitDefEqProofs [eqL, *]))
        | ((with_reducible refine swp_ret ?_); (try simp only [qseq_r, qblock_r, qloop_r]))
        | ((with_reducible refine swp_cond rfl (fun h => ?_) (fun h => ?_)) <;> have h' := h <;> (try simp at h') <;> (try subst h'))
        | ((with_reducible refine sopsg_cases (fun h => ?_) (fun h => ?_)) <;> have h' := h <;> (try simp at h') <;> (try subst h') <;> simp -implicitDefEqProofs [eqL, *])
        | ((with_reducible refine draw_ok ?_ ?_); (focus rfl))
        | ((with_reducible refine sopsk_rg ?_ ?_); (first | omega | (unfold maxLen; omega)); simp -implicitDefEqProofs [eqL, *])
        | (with_reducible refine swp_block1 ?_)
        | (with_reducible refine swp_block2 ?_)
        | ((with_reducible refine wk_self [] hm ?_ ?_ ?_ ?_) <;> (try simp only [SSt.turn, setSs, setS, putHs, puth, Nat.reduceEqDiff, reduceIte, Nat.reduceAdd]))
        | (with_reducible exact slotsM_nil)
        | (with_reducible refine slotsM_cons ?_ ?_)
        | (with_reducible exact objsM_nil)
        | (with_reducible refine objsM_cells (cs := ?_) ?_ ?_ ?_)
        | (with_reducible refine objsM_rowm (es := ?_) ?_ ?_ ?_)
        | (with_reducible refine objsM_rowc (es := ?_) ?_ ?_ ?_)
        | (with_reducible refine objsM_abs ?_ ?_)
        | (with_reducible exact subH_nil)
        | (with_reducible refine subH_cons ?_ ?_)
        | ((with_reducible show geth _ _ = some _); (focus rfl))
        | ((with_reducible show (_ : List (List SV)) = _); (focus (first | (with_reducible rfl) | rfl | (simp; done))))
        | ((with_reducible show okNames _ _ _ _ = true); (focus rfl))
        | ((with_reducible show (_ : Nat) ≤ _); (focus (first | omega | (simp; done))))
        | ((with_reducible show (_ : Nat) < _); (focus omega))
        | (refine co_wrap ⟨?_, ?_⟩ ?_ <;> (focus omega))
        | (with_reducible exact Co.refl _)
        | (with_reducible exact CoL.refl _)
        | (with_reducible exact CoLL.refl _)
        | (exact Co.refl _)
        | (exact CoL.refl _)
        | (exact CoLL.refl _)
        | (refine co_own ?_; (focus omega))
        | (refine co_int ?_; (focus omega))
        | (with_reducible refine coL_cons ?_ ?_)
        | (with_reducible exact coL_nilm)
        | (with_reducible refine coL_consm ?_ ?_)
        | (refine call_q (hck _) ?_; simp -implicitDefEqProofs [eqL, *])
        | (refine call_q (hft _) ?_; simp -implicitDefEqProofs [eqL, *])
        | (refine call_q (hs _) ?_; simp -implicitDefEqProofs [eqL, *])
        | (exact fin _ _))
  · rw [hg] at hgr
    repeat' (first
        | (with_reducible refine swp_seq ?_)
        | ((with_reducible refine swp_reg ?_); (try rw [hP]); simp -implicitDefEqProofs [pcv, *])
        | ((with_reducible refine swp_regd (by rw [hP]; exact mixed) ?_); (try rw [hP]); simp -implicitDefEqProofs [pcv, *])
        | ((with_reducible refine swp_skip ?_); (try simp -implicitDefEqProofs [pcv, *]))
        | ((with_reducible refine swp_exit ?_); (try simp -implicitDefEqProofs [pcv, *]))
        | ((with_reducible refine swp_ret ?_); (try simp only [qseq_r, qblock_r, qloop_r]))
        | ((with_reducible refine swp_cond rfl (fun h => ?_) (fun h => ?_)) <;> have h' := h <;> (try simp at h') <;> (try subst h'))
        | ((with_reducible refine sopsg_cases (fun h => ?_) (fun h => ?_)) <;> have h' := h <;> (try simp at h') <;> (try subst h') <;> simp -implicitDefEqProofs [pcv, *])
        | ((with_reducible refine draw_ok ?_ ?_); (focus rfl))
        | ((with_reducible refine sopsk_rg ?_ ?_); (first | omega | (unfold maxLen; omega)); simp -implicitDefEqProofs [pcv, *])
        | (with_reducible refine swp_block1 ?_)
        | (with_reducible refine swp_block2 ?_)
        | ((with_reducible refine wk_self [] hm ?_ ?_ ?_ ?_) <;> (try simp only [SSt.turn, setSs, setS, putHs, puth, Nat.reduceEqDiff, reduceIte, Nat.reduceAdd]))
        | (with_reducible exact slotsM_nil)
        | (with_reducible refine slotsM_cons ?_ ?_)
        | (with_reducible exact objsM_nil)
        | (with_reducible refine objsM_cells (cs := ?_) ?_ ?_ ?_)
        | (with_reducible refine objsM_rowm (es := ?_) ?_ ?_ ?_)
        | (with_reducible refine objsM_rowc (es := ?_) ?_ ?_ ?_)
        | (with_reducible refine objsM_abs ?_ ?_)
        | (with_reducible exact subH_nil)
        | (with_reducible refine subH_cons ?_ ?_)
        | ((with_reducible show geth _ _ = some _); (focus rfl))
        | ((with_reducible show (_ : List (List SV)) = _); (focus (first | (with_reducible rfl) | rfl | (simp; done))))
        | ((with_reducible show okNames _ _ _ _ = true); (focus rfl))
        | ((with_reducible show (_ : Nat) ≤ _); (focus (first | omega | (simp; done))))
        | ((with_reducible show (_ : Nat) < _); (focus omega))
        | (refine co_wrap ⟨?_, ?_⟩ ?_ <;> (focus omega))
        | (with_reducible exact Co.refl _)
        | (with_reducible exact CoL.refl _)
        | (with_reducible exact CoLL.refl _)
        | (exact Co.refl _)
        | (exact CoL.refl _)
        | (exact CoLL.refl _)
        | (refine co_own ?_; (focus omega))
        | (refine co_int ?_; (focus omega))
        | (with_reducible refine coL_cons ?_ ?_)
        | (with_reducible exact coL_nilm)
        | (with_reducible refine coL_consm ?_ ?_)
        | (refine call_q (call_gbegun _) ?_; simp -implicitDefEqProofs [pcv, *])
        | (refine call_q (hgr _) ?_; simp -implicitDefEqProofs [pcv, *])
        | (exact fin _ _))
theorem layP_shape : LayP shapeLay scv := fun A w x cs h => by
  rw [h.1]; exact ⟨Reps.cons .int (Reps.cons .int (Reps.cons .int Reps.nil)), fun v hv => by simp [Shape.cells] at hv; rcases hv with rfl | rfl | rfl <;> rfl⟩
theorem layP_ins : LayP insLay icv := fun A w x cs h => by
  rw [h.1]; exact ⟨Reps.cons .int (Reps.cons .int (Reps.cons .int (Reps.cons .int (Reps.cons .int (Reps.cons .int Reps.nil))))), fun v hv => by simp [Ins.cells] at hv; rcases hv with rfl | rfl | rfl | rfl | rfl | rfl <;> rfl⟩
theorem rep_pcv {w : World} (slots : Int) {to_ co : Option Addr} {tn tc cn cc : Nat} {tabs : List Shape} {code : List Ins} (ht : RdL shapeLay NoA w to_ tn tc tabs) (hc : RdL insLay NoA w co cn cc code) : RepV w (fun _ => False) noPl (.agg (pcv ⟨slots, tabs, code⟩)) (.agg #[.int .i64 slots, .slice to_ tn tc, .slice co cn cc]) :=
  .agg (vs := [.int .i64 slots, .slice to_ tn tc, .slice co cn cc]) (fun v hv => by simp at hv; rcases hv with rfl | rfl | rfl <;> rfl) rfl (Reps.cons .int (Reps.cons (layP_view layP_shape ht) (Reps.cons (layP_view layP_ins hc) Reps.nil))).2
theorem pwf_of {w : World} (slots : Int) {to_ co : Option Addr} {tn tc cn cc : Nat} {tabs : List Shape} {code : List Ins} (ht : RdL shapeLay NoA w to_ tn tc tabs) (hc : RdL insLay NoA w co cn cc code) : PWf ⟨slots, tabs, code⟩ := ⟨ht.wf_flat, hc.wf_flat⟩
theorem GuardDoes_law (slots : Int) (to_ co : Option Addr) (tn tc cn cc : Nat) (tabs : List Shape) (code : List Ins) (w : World)
    (hsl : Fits .i64 slots) (ht : RdL shapeLay NoA w to_ tn tc tabs) (hc : RdL insLay NoA w co cn cc code) :
    Calls Try.prog 11 #[.agg #[.int .i64 slots, .slice to_ tn tc, .slice co cn cc]] w fun e w' => e = .returned (.bool true) ∧ Below w.heap.size w w' :=
  law_of (vs := [.agg #[.int .i64 slots, .slice to_ tn tc, .slice co cn cc]]) (gdoesL_s ⟨slots, tabs, code⟩ (pwf_of slots ht hc)) (Reps.cons (rep_pcv slots ht hc) Reps.nil)
end Go.Proofs.Ytfakdapglbgokaa
