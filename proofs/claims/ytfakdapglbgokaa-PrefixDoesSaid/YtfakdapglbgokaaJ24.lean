/-
  Texts joined: XDoesE XDoesF XDoesG. No condition.
-/
import Derived.Test.YtfakdapglbgokaaJ19
import Derived.Test.YtfakdapglbgokaaI23
import Derived.Test.YtfakdapglbgokaaJ18
/-
  PrefixDoes, plain: all entries, in order. No program in sight. No condition.
-/
namespace Go.Proofs.Ytfakdapglbgokaa
set_option linter.all false
open Go.RowKit
theorem ahead_ce {W i j : Nat} {v u : Int} {x y : Int × List Int} (h : v * 2 ^ (W - i) < u * 2 ^ (W - j) ∨ (v * 2 ^ (W - i) = u * 2 ^ (W - j) ∧ i < j)) : aheadB (ce W i v x) (ce W j u y) = true := by
  have e : lessL [v * 2 ^ (W - i)] [u * 2 ^ (W - j)] = if v * 2 ^ (W - i) < u * 2 ^ (W - j) then -1 else if v * 2 ^ (W - i) > u * 2 ^ (W - j) then 1 else 0 := rfl
  show (if (0 : Int) = 0 then (if lessL [v * 2 ^ (W - i)] [u * 2 ^ (W - j)] = 0 then (if (i : Int) = (j : Int) then decide (lessL [] [] < 0) else decide ((i : Int) < (j : Int))) else decide (lessL [v * 2 ^ (W - i)] [u * 2 ^ (W - j)] < 0)) else decide ((0 : Int) < 0)) = true
  rw [if_pos rfl]
  rcases h with h | ⟨h, hij⟩
  · rw [if_pos h] at e
    rw [if_neg (by rw [e]; decide), e]; rfl
  · rw [if_neg (by omega), if_neg (by omega)] at e
    rw [if_pos e, if_neg (by omega)]
    exact decide_eq_true (by omega)
theorem key_range {W i j : Nat} {u v : Int} (hij : i ≤ j) (hj : j ≤ W) (h : u / 2 ^ (j - i) = v) : v * 2 ^ (W - i) ≤ u * 2 ^ (W - j) ∧ u * 2 ^ (W - j) < (v + 1) * 2 ^ (W - i) := by
  have e : (2 : Int) ^ (W - i) = 2 ^ (j - i) * 2 ^ (W - j) := by rw [← Int.pow_add, show j - i + (W - j) = W - i by omega]
  have p1 := pow_pos_ (j - i)
  have p2 := pow_pos_ (W - j)
  subst h
  rw [e, ← Int.mul_assoc, ← Int.mul_assoc]
  exact ⟨Int.mul_le_mul_of_nonneg_right (Int.ediv_mul_le u (Int.ne_of_gt p1)) (Int.le_of_lt p2), Int.mul_lt_mul_of_pos_right (Int.lt_ediv_add_one_mul_self u p1) p2⟩
theorem allF_sorted {E : PE} {W : Nat} : ∀ (d i : Nat) (v : Int), i + d = W → (allF E W d i v).Pairwise fun a b => aheadB a b = true := by
  intro d
  induction d with
  | zero =>
    intro i v h
    rw [show allF E W 0 i v = entL E W i v from rfl]
    unfold entL
    cases E i v <;> simp
  | succ d ih =>
    intro i v h
    rw [show allF E W (d + 1) i v = entL E W i v ++ (allF E W d (i + 1) (2 * v) ++ allF E W d (i + 1) (2 * v + 1)) from rfl, List.pairwise_append, List.pairwise_append]
    have e : (2 : Int) ^ (W - i) = 2 * 2 ^ (W - (i + 1)) := by rw [show W - i = W - (i + 1) + 1 by omega, Int.pow_succ, Int.mul_comm]
    have p := pow_pos_ (W - (i + 1))
    refine ⟨?_, ⟨ih _ _ (by omega), ih _ _ (by omega), ?_⟩, ?_⟩
    · unfold entL
      cases E i v <;> simp
    · intro a ha b hb
      obtain ⟨j, u, x, h1, h2, h3, _, rfl⟩ := (mem_allF d (i + 1) _ a).1 ha
      obtain ⟨k, t, y, g1, g2, g3, _, rfl⟩ := (mem_allF d (i + 1) _ b).1 hb
      have r1 := (key_range (W := W) h1 (by omega) h3).2
      have r2 := (key_range (W := W) g1 (by omega) g3).1
      exact ahead_ce (.inl (Int.lt_of_lt_of_le r1 r2))
    · intro a ha b hb
      obtain ⟨x, h1, rfl⟩ := mem_entL.1 ha
      rw [List.mem_append] at hb
      have hb2 : ∃ (k : Nat) (t : Int) (y : Int × List Int) (c : Int), (c = 2 * v ∨ c = 2 * v + 1) ∧ i + 1 ≤ k ∧ k ≤ i + 1 + d ∧ t / 2 ^ (k - (i + 1)) = c ∧ b = ce W k t y := by
        rcases hb with hb | hb
        · obtain ⟨k, t, y, g1, g2, g3, _, rfl⟩ := (mem_allF d (i + 1) _ b).1 hb
          exact ⟨k, t, y, _, .inl rfl, g1, g2, g3, rfl⟩
        · obtain ⟨k, t, y, g1, g2, g3, _, rfl⟩ := (mem_allF d (i + 1) _ b).1 hb
          exact ⟨k, t, y, _, .inr rfl, g1, g2, g3, rfl⟩
      obtain ⟨k, t, y, c, hc, g1, g2, g3, rfl⟩ := hb2
      have r2 := (key_range (W := W) g1 (by omega) g3).1
      have hv : v * 2 ^ (W - i) ≤ t * 2 ^ (W - k) := by
        refine Int.le_trans ?_ r2
        rw [e, ← Int.mul_assoc]
        exact Int.mul_le_mul_of_nonneg_right (by omega) (Int.le_of_lt p)
      rcases Int.lt_or_eq_of_le hv with h5 | h5
      · exact ahead_ce (.inl h5)
      · exact ahead_ce (.inr ⟨h5, by omega⟩)
theorem ahead_self (a : Entry) : aheadB a a = false := by unfold aheadB; rw [if_pos rfl, if_pos (lessL_self _), if_pos rfl, lessL_self]; rfl
theorem sorted_nodup {S : List Entry} (h : S.Pairwise fun a b => aheadB a b = true) : S.Nodup :=
  h.imp fun {a b} hab heq => by rw [heq, ahead_self] at hab; cases hab
variable {width n : Int} {E : PE} {L : List Entry}
theorem allT_rel (h : RelT width n E L) : (allT width E).Pairwise (fun a b => aheadB a b = true) ∧ (allT width E).Perm L := by
  by_cases hw : okWd width
  · obtain ⟨hR, hI⟩ := h.yes hw
    have e : allT width E = allF E width.toNat width.toNat 0 0 := if_pos hw
    rw [e]
    have hs := allF_sorted (E := E) (W := width.toNat) width.toNat 0 0 (by omega)
    refine ⟨hs, (List.perm_ext_iff_of_nodup (sorted_nodup hs) hR.nd).2 fun a => ?_⟩
    rw [mem_all0 hI, hR.mem]
    constructor
    · rintro ⟨j, u, x, h1, h2, h3⟩
      exact ⟨j, u, x, h2, h3⟩
    · rintro ⟨j, u, x, h2, h3⟩
      exact ⟨j, u, x, (hI.ok j u x h2).1, h2, h3⟩
  · have e : allT width E = [] := if_neg hw
    rw [e, h.no hw]
    exact ⟨List.Pairwise.nil, .nil⟩
/-- Entries in a table are small, and have a key. -/
theorem relT_small (h : RelT width n E L) : ∀ a ∈ L, Small a ∧ a.keys.length = 1 ∧ a.args.length ≤ 1000 := by
  intro a ha
  by_cases hw : okWd width
  · obtain ⟨hR, hI⟩ := h.yes hw
    obtain ⟨j, u, x, h1, rfl⟩ := (hR.mem a).1 ha
    have := (hI.ok j u x h1).2.2.2.1
    refine ⟨⟨?_, ?_, ?_⟩, rfl, this⟩
    · simp [ce]
    · simp [ce]
    · show x.2.length ≤ _
      omega
  · rw [h.no hw] at ha; cases ha
theorem relT_args (h : RelT width n E L) (hw : okWd width) : ∀ i v x, E i v = some x → x.2.length ≤ 1000000 := fun i v x hx => by
  have := ((h.yes hw).2.ok i v x hx).2.2.2.1; omega
end Go.Proofs.Ytfakdapglbgokaa

/-
  PrefixDoes, in the plain machine: the end of a round. No condition.
-/
namespace Go.Proofs.Ytfakdapglbgokaa
set_option linter.all false
open Go.RowKit
attribute [local simp] sops_nil sops_run sopsk_some sops_call sops_guard sopsg_yes sopsg_tf sopsg_ft sopsg_undef rg_true SOp.run SX.ev putd puts argS upds SOp.touch SSt.keep SSt.skip gets geth puth delh idOf SV.cells? setL fillS fillR sbin eq0 eq1 eqL rowOf qseq_n qseq_e qseq_r qblock_n qblock_r qblock_e qloop_e qloop_r take_map_len FrzOk pureV_int pureV_bool pureV_str pureV_nil pureV_nilsl pureV_view pureV_cp pureL_nil_ pureL_cons_ pureO_row pureO_cells frzS frzH frz frz1 frz0 SlotsM ObjsM ObjM rn ren ren1 ren0 co_self co_int co_own co_view co_nilsl co_agg co_tup CoL coll_self mergeH dels adds idsH okNames ren_ents ren_ents2 ren_nums ren_ecells
def c_pdoes_t : SCode := (.seq (.reg false c_pdoes_r19 [2, 7, 8, 9, 10, 11, 12, 13, 14, 15]) (.seq (.reg false c_pdoes_r20 [2, 7, 8, 9, 11, 12, 13, 14, 15, 16, 17, 18]) (.seq (.reg true c_pdoes_r21 [2, 7, 8, 9, 136]) (.cond (.t 136) (.seq (.reg false c_pdoes_r22 [6]) .ret) .skip))))
theorem relT_fitsOk {width n : Int} {E : PE} {L : List Entry} (h : RelT width n E L) (xs : List Int) : (xs.length : Int) = 1 → ∀ a ∈ L, FitsOk 2 a xs := fun hx a ha =>
  ⟨fun _ => ⟨by omega, by have := (relT_small h a ha).2.1; omega⟩, fun _ h => absurd rfl h⟩
theorem relT_find_args {width n : Int} {E : PE} {L : List Entry} (h : RelT width n E L) (key : Int) : (fArgs (pfxFind width E key)).length ≤ 1000000 := by
  by_cases hw : okWd width
  · unfold pfxFind
    split
    · split
      · simp [fArgs]
      · rename_i i hl
        cases he : E i (pre width.toNat key i) with
        | none => simp [fArgs]
        | some x => have := relT_args h hw _ _ _ he; simpa [fArgs] using this
    · simp [fArgs]
  · unfold pfxFind
    rw [unfit hw]; simp [fArgs]
theorem relT_argsA {width n : Int} {E : PE} {L : List Entry} (h : RelT width n E L) (hE : ¬ okWd width → E = noE) : ∀ i v x, E i v = some x → x.2.length ≤ 1000000 := by
  by_cases hw : okWd width
  · exact relT_args h hw
  · rw [hE hw]; intro i v x hx; cases hx
theorem pdoes_rest (X : Cx) (hP : X.P = Try.prog) (hm : X.m = 0) {Q : SExit → SSt → Prop} (sv : SV) (width most : Int) (E : PE) (L : List Entry) (i : Nat) (c : Int) (e : Entry) (key : Int) (hw : Fits .i64 width) (hk : Fits .u64 key) (he : e.keys = [key]) (h : RelT width L.length E L) (hE : ¬ okWd width → E = noE) (hL : L.length ≤ 1000000)
    (hQ : ∀ tl hp nx, Q .normal ⟨(2, sv) :: (7, .ptr 0 0) :: (8, .ptr 1 0) :: (9, .int .i64 i) :: tl, (0, .abs (pT width most L.length E)) :: (1, rowsC 2 1 width most 2 L.length) :: (2, rowsL L) :: hp, nx⟩) :
    SWp X c_pdoes_t Q ⟨[(2, sv), (7, .ptr 0 0), (8, .ptr 1 0), (9, .int .i64 i), (10, .ptr 3 0), (11, .int .i64 c), (12, .int .i64 c)], [(0, .abs (pT width most L.length E)), (1, rowsC 2 1 width most 2 L.length), (2, rowsL L), (3, .cells 30 (ecells e))], 4⟩ := by
  have hsm : ∀ a ∈ L, Small a := fun a ha => (relT_small h a ha).1
  have k0 := hk.u64
  have f1 := fun q => findT_s width most L.length E key hw hk (relT_argsA h hE) 0 q
  have f2 := fun q => rfindA 2 1 width most L [key] hsm hL (fun _ => rfl) (relT_fitsOk h [key]) 1 2 q (by decide)
  rw [findT_rel h k0.1 k0.2] at f2
  have f3 := fun q => lenT_s width most L.length E (fun hno => by rw [h.no hno]; rfl) 0 q
  have hR := relT_find_args h key
  generalize pfxFind width E key = R at *
  replace f1 := Lib.hid f1
  replace f2 := Lib.hid f2
  replace f3 := Lib.hid f3
  replace hQ := Lib.hid hQ
  unfold c_pdoes_t
  repeat' (first
    | (with_reducible refine swp_seq ?_)
    | (with_reducible refine swp_reg ?_; (try rw [hP]); simp -implicitDefEqProofs [ecells, nums, rowsHn, rowsC, rowsL, findV, hcells, he, *])
    | (with_reducible refine swp_regd (by rw [hP]; exact mixed) ?_; (try rw [hP]); simp -implicitDefEqProofs [ecells, nums, rowsHn, rowsC, rowsL, findV, hcells, he, *])
    | (refine swp_skip ?_; (try simp -implicitDefEqProofs [ecells, nums, rowsHn, rowsC, rowsL, findV, hcells, he, *]))
    | (refine swp_exit ?_; (try simp -implicitDefEqProofs [ecells, nums, rowsHn, rowsC, rowsL, findV, hcells, he, *]))
    | (refine swp_ret ?_; (try simp only [qseq_r, qblock_r, qloop_r]))
    | (with_reducible refine swp_cond rfl (fun h => ?_) (fun h => ?_) <;> have h' := h <;> (try simp at h') <;> (try subst h'))
    | (with_reducible refine sopsg_cases (fun h => ?_) (fun h => ?_) <;> have h' := h <;> (try simp at h') <;> (try subst h') <;> simp -implicitDefEqProofs [ecells, nums, rowsHn, rowsC, rowsL, findV, hcells, he, *])
    | (refine draw_ok rfl ?_)
    | (with_reducible refine sopsk_rg ?_ ?_; (first | omega | (unfold maxLen; omega)); simp -implicitDefEqProofs [ecells, nums, rowsHn, rowsC, rowsL, findV, hcells, he, *])
    | (with_reducible refine swp_block1 ?_)
    | (refine call_r (f1.out _) ⟨rfl, trivial⟩ ⟨rfl, trivial⟩ ?_; simp -implicitDefEqProofs [ecells, nums, rowsHn, rowsC, rowsL, findV, hcells, he, *])
    | (refine call_r (f2.out _ (by simp) (by simp)) ⟨rfl, rfl, trivial⟩ ⟨rfl, rfl, trivial⟩ ?_; simp -implicitDefEqProofs [ecells, nums, rowsHn, rowsC, rowsL, findV, hcells, he, *])
    | (refine call_r (f3.out _) ⟨rfl, trivial⟩ ⟨rfl, trivial⟩ ?_; simp -implicitDefEqProofs [ecells, nums, rowsHn, rowsC, rowsL, findV, hcells, he, *])
    | (refine call_q (scalls_q (shit_s _ _ _ _ hR) (fun σ => rfl) (fun σ => rfl) rfl _) ?_; simp -implicitDefEqProofs [ecells, nums, rowsHn, rowsC, rowsL, findV, hcells, he, *]))
  exact hQ.out _ _ _
end Go.Proofs.Ytfakdapglbgokaa

/-
  PrefixDoes, in the plain machine. No condition.
-/
namespace Go.Proofs.Ytfakdapglbgokaa
set_option linter.all false
open Go.RowKit
attribute [local simp] sops_nil sops_run sopsk_some sops_call sops_guard sopsg_yes sopsg_tf sopsg_ft sopsg_undef rg_true SOp.run SX.ev putd puts argS upds SOp.touch SSt.keep SSt.skip gets geth puth delh idOf SV.cells? setL fillS fillR sbin eq0 eq1 eqL rowOf qseq_n qseq_e qseq_r qblock_n qblock_r qblock_e qloop_e qloop_r take_map_len FrzOk pureV_int pureV_bool pureV_str pureV_nil pureV_nilsl pureV_view pureV_cp pureL_nil_ pureL_cons_ pureO_row pureO_cells frzS frzH frz frz1 frz0 SlotsM ObjsM ObjM rn ren ren1 ren0 co_self co_int co_own co_view co_nilsl co_agg co_tup CoL coll_self mergeH dels adds idsH okNames ren_ents ren_ents2 ren_nums ren_ecells
theorem call_pbeg (q : Nat) : SCalls Try.prog 15 [] [] q (.bool true) [] := scalls_q pbeg_s (fun σ => rfl) (fun σ => rfl) rfl q
theorem call_great (l : List TStep) (q : Nat) : SCalls Try.prog 16 [steps l] [] q (.bool (bigS l)) [] := scalls_q (great_s l) (fun σ => rfl) (fun σ => rfl) rfl q
theorem sameEs_self (S : List Entry) : sameEs S S = true := by
  unfold sameEs
  rw [decide_eq_true rfl, Bool.true_and]
  refine List.all_eq_true.2 fun i hi => ?_
  rw [List.getElem?_eq_getElem (List.mem_range.1 hi)]
  simp [sameE]
/-- What stands fast ahead of a round. -/
def pdoesI (width most : Int) (l : List TStep) (s : SSt) (m : Nat) : Prop := ∃ (i : Nat) (E : PE) (L : List Entry), s = ⟨[(2, steps l), (7, .ptr 0 0), (8, .ptr 1 0), (9, .int .i64 i)], [(0, .abs (pT width most L.length E)), (1, rowsC 2 1 width most 2 L.length), (2, rowsL L)], 3⟩ ∧ i ≤ l.length ∧ RelT width L.length E L ∧ (¬ okWd width → E = noE) ∧ L.length ≤ i ∧ m = l.length - i
theorem noE_add {width most n : Int} {E : PE} {key k act : Int} {args : List Int} (h : ¬ okWd width → E = noE) : ¬ okWd width → pfxAddE width most n E key k act args = noE := fun hw => by
  rw [(pfxAdd_no (show pfxAddC width most n E key k ≠ 0 by unfold pfxAddC; rw [if_pos (unfit hw)]; decide) act args).2]; exact h hw
theorem noE_chg {width : Int} {E : PE} {key k act : Int} {args : List Int} (h : ¬ okWd width → E = noE) : ¬ okWd width → pfxChgE width E key k act args = noE := fun hw => by
  rw [pfxChg_no (show pfxChgC width E key k ≠ 0 by unfold pfxChgC; rw [if_pos (unfit hw)]; decide) act args]; exact h hw
theorem noE_drop {width : Int} {E : PE} {key k : Int} (h : ¬ okWd width → E = noE) : ¬ okWd width → pfxDropE width E key k = noE := fun hw => by
  rw [(pfxDrop_no (n := 0) (show pfxDropC width E key k ≠ 0 by unfold pfxDropC; rw [if_pos (unfit hw)]; decide)).2]; exact h hw
theorem pdoes_s (width most : Int) (l : List TStep) (hw : Fits .i64 width) (hl : ∀ s ∈ l, FitE s.e) : SCalls Try.prog 5 [.int .i64 width, .int .i64 most, steps l] [] 0 (.bool true) [] := by
  refine scalls_of (N := 142) Try.func5 rfl rfl (by kernel_rfl) comp_c_pdoes (by simp) ⟨rfl, rfl, rfl, trivial⟩ trivial ?_
  rintro X hP hN hm
  have fin : ∀ hp nx, QFun X (Try.f5).results.toList 0 (.bool true) [] .ret ⟨[(6, .bool true)], hp, nx⟩ := fun hp nx =>
    (qfun_done (s' := ⟨[(6, .bool true)], [], 0⟩) (wk_list [] hm rfl (Nat.zero_le _) (by simp -implicitDefEqProofs) trivial) rfl trivial (by simp))
  unfold c_pdoes
  cases hb : bigS l
  case true =>
    repeat' (first
      | (with_reducible refine swp_seq ?_)
      | (with_reducible refine swp_reg ?_; (try rw [hP]); simp -implicitDefEqProofs [*])
      | (with_reducible refine swp_regd (by rw [hP]; exact mixed) ?_; (try rw [hP]); simp -implicitDefEqProofs [*])
      | (refine swp_skip ?_; (try simp -implicitDefEqProofs [*]))
      | (refine swp_exit ?_; (try simp -implicitDefEqProofs [*]))
      | (refine swp_ret ?_; (try simp only [qseq_r, qblock_r, qloop_r]))
      | (with_reducible refine swp_cond rfl (fun h => ?_) (fun h => ?_) <;> have h' := h <;> (try simp at h') <;> (try subst h'))
      | (with_reducible refine sopsg_cases (fun h => ?_) (fun h => ?_) <;> have h' := h <;> (try simp at h') <;> (try subst h') <;> simp -implicitDefEqProofs [*])
      | (refine draw_ok rfl ?_)
      | (with_reducible refine sopsk_rg ?_ ?_; (first | omega | (unfold maxLen; omega)); simp -implicitDefEqProofs [*])
      | (with_reducible refine swp_block1 ?_)
      | (refine call_q (call_pbeg _) ?_; simp -implicitDefEqProofs [*])
      | (refine call_q (call_great l _) ?_; simp -implicitDefEqProofs [*])
      | (exact fin _ _))
  case false =>
    repeat' (first
      | (with_reducible refine swp_seq ?_)
      | (with_reducible refine swp_reg ?_; (try rw [hP]); simp -implicitDefEqProofs [*])
      | (with_reducible refine swp_regd (by rw [hP]; exact mixed) ?_; (try rw [hP]); simp -implicitDefEqProofs [*])
      | (refine swp_skip ?_; (try simp -implicitDefEqProofs [*]))
      | (refine swp_exit ?_; (try simp -implicitDefEqProofs [*]))
      | (refine swp_ret ?_; (try simp only [qseq_r, qblock_r, qloop_r]))
      | (with_reducible refine swp_cond rfl (fun h => ?_) (fun h => ?_) <;> have h' := h <;> (try simp at h') <;> (try subst h'))
      | (with_reducible refine sopsg_cases (fun h => ?_) (fun h => ?_) <;> have h' := h <;> (try simp at h') <;> (try subst h') <;> simp -implicitDefEqProofs [*])
      | (refine draw_ok rfl ?_)
      | (with_reducible refine sopsk_rg ?_ ?_; (first | omega | (unfold maxLen; omega)); simp -implicitDefEqProofs [*])
      | (with_reducible refine swp_block1 ?_)
      | (refine call_q (call_pbeg _) ?_; simp -implicitDefEqProofs [*])
      | (refine call_q (call_great l _) ?_; simp -implicitDefEqProofs [*])
      | (refine call_h (newT_s width most _) trivial ⟨rfl, trivial⟩ ?_; simp -implicitDefEqProofs [*]))
    have h200 : l.length ≤ 200 ∧ ∀ s ∈ l, bigE s.e = false := by
      simp only [bigS, Bool.or_eq_false_iff] at hb
      exact ⟨by have := hb.1; simp at this; omega, fun s hs => by have := List.any_eq_false.1 hb.2 s hs; simpa using this⟩
    refine swp_wk (wk_adoptc (t := 72) (cs := [.int .i64 2, .int .i64 1, .int .i64 width, .int .i64 most, .nilsl]) 33 4 30 6 rfl rfl) ?_
    refine swp_block (swp_loop (pdoesI width most l) (wk_list [(0, 21), (1, 33), (2, 36)] hm rfl (Nat.zero_le _) (by simp -implicitDefEqProofs [steps]) (by simp -implicitDefEqProofs [rowsC, rowsL])) ⟨0, noE, [], rfl, by omega, relT_nil _, fun _ => rfl, by simp, rfl⟩ ?_)
    rintro s m ⟨i, E, L, rfl, h1, hrel, hE, hLi, rfl⟩
    have hsm : ∀ a ∈ L, Small a := fun a ha => (relT_small hrel a ha).1
    have hL6 : L.length ≤ 1000000 := by omega
    unfold c_pdoes_l1
    rcases Nat.lt_or_ge i l.length with hi | hi
    · have hbe := h200.2 l[i] (List.getElem_mem hi)
      have hfe := hl l[i] (List.getElem_mem hi)
      simp only [bigE, Bool.or_eq_false_iff, decide_eq_false_iff_not] at hbe
      obtain ⟨d, e0, hle⟩ : ∃ d e0, l[i] = ⟨d, e0⟩ := ⟨_, _, rfl⟩
      rw [hle] at hbe hfe
      simp only at hbe hfe
      have hsm0 : Small e0 := ⟨by omega, by omega, by omega⟩
      have hok := oneK_eq e0
      have hone : OneE (⟨[kof e0], [], e0.len, 0, e0.act, e0.args⟩ : Entry) (kof e0) := ⟨rfl, hfe.kof.u64.1, hfe.kof.u64.2, hfe.act, hfe.args, show e0.args.length ≤ 1000 by omega⟩
      have hsm1 : Small (⟨[kof e0], [], e0.len, 0, e0.act, e0.args⟩ : Entry) := ⟨by simp, by simp, hsm0.2.2⟩
      have c1 := fun q => scalls_q (oneKey_s e0 hsm0) (fun σ => rfl) (fun σ => rfl) rfl q
      have c2 := fun q => scalls_q (hitOf_s ⟨[kof e0], [], e0.len, 0, e0.act, e0.args⟩) (fun σ => rfl) (fun σ => rfl) rfl q
      have c3 := fun q => addT_s width most L.length E (kof e0) e0.len e0.act e0.args hw hfe.kof hfe.len hfe.act hfe.args hsm0.2.2 (by omega) 0 q
      have c4 := fun q => chgT_s width most L.length E (kof e0) e0.len e0.act e0.args hw hfe.kof hfe.len hfe.act hfe.args hsm0.2.2 0 q
      have c5 := fun q => dropT_s width most L.length E (kof e0) e0.len hw hfe.kof hfe.len (by omega) 0 q
      have c6 := fun q => rchgA 2 1 width most L ⟨[kof e0], [], e0.len, 0, e0.act, e0.args⟩ hsm hsm1 hL6 1 2 q (by decide)
      rw [hok] at c1
      have rest : ∀ (E' : PE) (L' : List Entry) (c : Int), RelT width L'.length E' L' → (¬ okWd width → E' = noE) → L'.length ≤ i + 1 → SWp X c_pdoes_t (QBlock 1 (QSeq X (SCode.reg false c_pdoes_r23 [2, 7, 8, 9]) (QLoop X (pdoesI width most l) (l.length - i) (QBlock 0 (QSeq X ((SCode.reg false c_pdoes_r24 [6]).seq SCode.ret) (QFun X [ResultVar.tmp 6] 0 (SV.bool true) []))))))
          ⟨[(2, steps l), (7, .ptr 0 0), (8, .ptr 1 0), (9, .int .i64 i), (10, .ptr 3 0), (11, .int .i64 c), (12, .int .i64 c)], [(0, .abs (pT width most L'.length E')), (1, rowsC 2 1 width most 2 L'.length), (2, rowsL L'), (3, .cells 30 (ecells ⟨[kof e0], [], e0.len, 0, e0.act, e0.args⟩))], 4⟩ := by
        intro E' L' c hr' hE' hl'
        refine pdoes_rest X hP hm (steps l) width most E' L' i c ⟨[kof e0], [], e0.len, 0, e0.act, e0.args⟩ (kof e0) hw hfe.kof rfl hr' hE' (by omega) ?_
        intro tl hp nx
        simp only [qblock_n, qseq_n]
        repeat' (first
          | (with_reducible refine swp_seq ?_)
          | (with_reducible refine swp_reg ?_; (try rw [hP]); simp -implicitDefEqProofs [rowsC, rowsL, *])
          | (with_reducible refine swp_regd (by rw [hP]; exact mixed) ?_; (try rw [hP]); simp -implicitDefEqProofs [rowsC, rowsL, *])
          | (refine swp_skip ?_; (try simp -implicitDefEqProofs [rowsC, rowsL, *]))
          | (refine swp_exit ?_; (try simp -implicitDefEqProofs [rowsC, rowsL, *]))
          | (refine swp_ret ?_; (try simp only [qseq_r, qblock_r, qloop_r]))
          | (with_reducible refine swp_cond rfl (fun h => ?_) (fun h => ?_) <;> have h' := h <;> (try simp at h') <;> (try subst h'))
          | (with_reducible refine sopsg_cases (fun h => ?_) (fun h => ?_) <;> have h' := h <;> (try simp at h') <;> (try subst h') <;> simp -implicitDefEqProofs [rowsC, rowsL, *])
          | (refine draw_ok rfl ?_)
          | (with_reducible refine sopsk_rg ?_ ?_; (first | omega | (unfold maxLen; omega)); simp -implicitDefEqProofs [rowsC, rowsL, *])
          | (with_reducible refine swp_block1 ?_))
        rw [i64_add_ (by omega) (by omega)]
        exact qloop_next (wk_list [(0, 0), (1, 1), (2, 2)] hm rfl (by simp) (by simp -implicitDefEqProofs [steps]) (by simp -implicitDefEqProofs [rowsC, rowsL])) ⟨i + 1, E', L', rfl, by omega, hr', hE', hl', rfl⟩ (by omega)
      replace rest := Lib.hid rest
      replace c1 := Lib.hid c1
      replace c2 := Lib.hid c2
      replace c3 := Lib.hid c3
      replace c4 := Lib.hid c4
      replace c5 := Lib.hid c5
      replace c6 := Lib.hid c6
      replace hrel := Lib.hid hrel
      replace hE := Lib.hid hE
      repeat' (first
        | ((with_reducible refine swp_stop (c := .seq (.reg false c_pdoes_r19 _) _) ?_))
        | (with_reducible refine swp_seq ?_)
        | (with_reducible refine swp_reg ?_; (try rw [hP]); simp -implicitDefEqProofs [steps, tcells, ecells, nums, hcells, rowsHn, rowsC, rowsL, *])
        | (with_reducible refine swp_regd (by rw [hP]; exact mixed) ?_; (try rw [hP]); simp -implicitDefEqProofs [steps, tcells, ecells, nums, hcells, rowsHn, rowsC, rowsL, *])
        | (refine swp_skip ?_; (try simp -implicitDefEqProofs [steps, tcells, ecells, nums, hcells, rowsHn, rowsC, rowsL, *]))
        | (refine swp_exit ?_; (try simp -implicitDefEqProofs [steps, tcells, ecells, nums, hcells, rowsHn, rowsC, rowsL, *]))
        | (refine swp_ret ?_; (try simp only [qseq_r, qblock_r, qloop_r]))
        | (with_reducible refine swp_cond rfl (fun h => ?_) (fun h => ?_) <;> have h' := h <;> (try simp at h') <;> (try subst h'))
        | (with_reducible refine sopsg_cases (fun h => ?_) (fun h => ?_) <;> have h' := h <;> (try simp at h') <;> (try subst h') <;> simp -implicitDefEqProofs [steps, tcells, ecells, nums, hcells, rowsHn, rowsC, rowsL, *])
        | (refine draw_ok rfl ?_)
        | (with_reducible refine sopsk_rg ?_ ?_; (first | omega | (unfold maxLen; omega)); simp -implicitDefEqProofs [steps, tcells, ecells, nums, hcells, rowsHn, rowsC, rowsL, *])
        | (with_reducible refine swp_block1 ?_)
        | (refine call_q (c1.out _) ?_; simp -implicitDefEqProofs [steps, tcells, ecells, nums, hcells, rowsHn, rowsC, rowsL, *])
        | (refine call_q (c2.out _) ?_; simp -implicitDefEqProofs [steps, tcells, ecells, nums, hcells, rowsHn, rowsC, rowsL, *])
        | (refine call_h (c3.out _) ⟨rfl, trivial⟩ ⟨rfl, trivial⟩ ?_; simp -implicitDefEqProofs [steps, tcells, ecells, nums, hcells, rowsHn, rowsC, rowsL, *])
        | (refine call_h (c4.out _) ⟨rfl, trivial⟩ ⟨rfl, trivial⟩ ?_; simp -implicitDefEqProofs [steps, tcells, ecells, nums, hcells, rowsHn, rowsC, rowsL, *])
        | (refine call_h (c5.out _) ⟨rfl, trivial⟩ ⟨rfl, trivial⟩ ?_; simp -implicitDefEqProofs [steps, tcells, ecells, nums, hcells, rowsHn, rowsC, rowsL, *])
        | (refine call_h (c6.out _ (by simp) (by simp)) ⟨rfl, rfl, trivial⟩ ⟨rfl, rfl, trivial⟩ ?_; simp -implicitDefEqProofs [steps, tcells, ecells, nums, hcells, rowsHn, rowsC, rowsL, *]))
      · obtain ⟨q1, q2⟩ := addT_rel hrel.out hone most
        by_cases hc : addC 2 1 width most L ⟨[kof e0], [], e0.len, 0, e0.act, e0.args⟩ = 0
        · refine call_h (raddY 2 1 width most L ⟨[kof e0], [], e0.len, 0, e0.act, e0.args⟩ hsm hsm1 hL6 (fun h => by cases h) hc 1 2 _ (by decide) (by simp) (by simp)) ⟨rfl, rfl, trivial⟩ ⟨rfl, rfl, trivial⟩ ?_
          simp -implicitDefEqProofs [rowsHn, rowsC, rowsL, ecells, nums]
          refine draw_ok rfl ?_
          rw [if_pos hc] at q2
          have hz : pfxAddC width most L.length E (kof e0) e0.len = 0 := by rw [← q1]; exact hc
          have hn : pfxAddN width most L.length E (kof e0) e0.len = _ := q2.len
          rw [hn] at q2
          have hn2 := hn
          simp at hn2
          refine swp_wk (wk_list [(0, 0), (1, 1), (2, 57), (3, 20)] hm rfl (by simp) (by simp -implicitDefEqProofs [steps, hz]) (by simp -implicitDefEqProofs [rowsC, rowsL, ecells, nums, hn2])) (rest.out _ (L ++ [keptE 2 ⟨[kof e0], [], e0.len, 0, e0.act, e0.args⟩]) 0 q2 (noE_add hE.out) (by simp; omega))
        · refine call_h (raddN 2 1 width most L ⟨[kof e0], [], e0.len, 0, e0.act, e0.args⟩ hsm hsm1 hL6 (fun h => by cases h) hc 1 2 _ (by decide) (by simp) (by simp)) ⟨rfl, rfl, trivial⟩ ⟨rfl, rfl, trivial⟩ ?_
          simp -implicitDefEqProofs [rowsHn, rowsC, rowsL, ecells, nums]
          refine draw_ok rfl ?_
          rw [if_neg hc] at q2
          have hz : pfxAddC width most L.length E (kof e0) e0.len = _ := q1.symm
          have hn : pfxAddN width most L.length E (kof e0) e0.len = _ := q2.len
          rw [hn] at q2
          have hn2 := hn
          refine swp_wk (wk_list [(0, 0), (1, 1), (2, 2), (3, 20)] hm rfl (by simp) (by simp -implicitDefEqProofs [steps, hz]) (by simp -implicitDefEqProofs [rowsC, rowsL, ecells, nums, hn2])) (rest.out _ L (addC 2 1 width most L ⟨[kof e0], [], e0.len, 0, e0.act, e0.args⟩) q2 (noE_add hE.out) (by omega))
      · obtain ⟨q1, q2⟩ := chgT_rel hrel.out hone
        refine ⟨?_⟩
        have hz : pfxChgC width E (kof e0) e0.len = _ := q1.symm
        have hn := q2.len
        rw [hn] at q2
        have hn2 : ((chgL 2 1 width L ⟨[kof e0], [], e0.len, 0, e0.act, e0.args⟩).length : Int) = L.length := hn.symm
        refine swp_wk (wk_list [(0, 0), (1, 1), (2, 2), (3, 20)] hm rfl (by simp) (by simp -implicitDefEqProofs [steps, hz]) (by simp -implicitDefEqProofs [rowsC, rowsL, ecells, nums, hn2])) (rest.out _ (chgL 2 1 width L ⟨[kof e0], [], e0.len, 0, e0.act, e0.args⟩) (chgC 2 1 width L ⟨[kof e0], [], e0.len, 0, e0.act, e0.args⟩) q2 (noE_chg hE.out) (by omega))
      · obtain ⟨q1, q2⟩ := dropT_rel hrel.out hone
        by_cases hc : dropC 2 1 width L ⟨[kof e0], [], e0.len, 0, e0.act, e0.args⟩ = 0
        · refine call_h (rdropY 2 1 width most L ⟨[kof e0], [], e0.len, 0, e0.act, e0.args⟩ hsm hsm1 hL6 hc 1 2 _ (by decide) (by simp) (by simp)) ⟨rfl, rfl, trivial⟩ ⟨rfl, rfl, trivial⟩ ?_
          simp -implicitDefEqProofs [rowsHn, rowsC, rowsL, ecells, nums]
          refine draw_ok rfl ?_
          have hz : pfxDropC width E (kof e0) e0.len = 0 := by rw [← q1]; exact hc
          have hn : pfxDropN width L.length E (kof e0) e0.len = _ := q2.len
          rw [hn] at q2
          have hn2 := hn
          have hl2 : (dropL 2 1 width L ⟨[kof e0], [], e0.len, 0, e0.act, e0.args⟩).length ≤ i + 1 := by unfold dropL; rw [if_pos hc]; simp; omega
          refine swp_wk (wk_list [(0, 0), (1, 1), (2, 52), (3, 20)] hm rfl (by simp) (by simp -implicitDefEqProofs [steps, hz]) (by simp -implicitDefEqProofs [rowsC, rowsL, ecells, nums, hn2])) (rest.out _ (dropL 2 1 width L ⟨[kof e0], [], e0.len, 0, e0.act, e0.args⟩) 0 q2 (noE_drop hE.out) (hl2))
        · refine call_h (rdropN 2 1 width most L ⟨[kof e0], [], e0.len, 0, e0.act, e0.args⟩ hsm hsm1 hL6 hc 1 2 _ (by decide) (by simp) (by simp)) ⟨rfl, rfl, trivial⟩ ⟨rfl, rfl, trivial⟩ ?_
          simp -implicitDefEqProofs [rowsHn, rowsC, rowsL, ecells, nums]
          refine draw_ok rfl ?_
          have hz : pfxDropC width E (kof e0) e0.len = _ := q1.symm
          have hLd : dropL 2 1 width L ⟨[kof e0], [], e0.len, 0, e0.act, e0.args⟩ = L := if_neg hc
          rw [hLd] at q2
          have hn : pfxDropN width L.length E (kof e0) e0.len = _ := q2.len
          rw [hn] at q2
          have hn2 := hn
          refine swp_wk (wk_list [(0, 0), (1, 1), (2, 2), (3, 20)] hm rfl (by simp) (by simp -implicitDefEqProofs [steps, hz]) (by simp -implicitDefEqProofs [rowsC, rowsL, ecells, nums, hn2])) (rest.out _ L (dropC 2 1 width L ⟨[kof e0], [], e0.len, 0, e0.act, e0.args⟩) q2 (noE_drop hE.out) (by omega))
      · refine ⟨?_⟩
        refine swp_wk (wk_list [(0, 0), (1, 1), (2, 2), (3, 20)] hm rfl (by simp) (by simp -implicitDefEqProofs [steps]) (by simp -implicitDefEqProofs [rowsC, rowsL, ecells, nums])) (rest.out _ L 0 hrel.out hE.out (by omega))
    · obtain rfl : i = l.length := by omega
      obtain ⟨hS, hp⟩ := allT_rel hrel
      have hlen : (allT width E).length = L.length := hp.length_eq
      have a1 := fun q => allT_s width most L.length E hw (relT_argsA hrel hE) (by omega) 0 q
      have a2 := fun q => rallA 2 1 width most L (allT width E) hsm hL6 hS hp 1 2 q (by decide)
      have a3 := fun q => scalls_q (sents_s (allT width E) (allT width E) (by omega) (fun e he => hsm e (hp.mem_iff.1 he))) (fun σ => rfl) (fun σ => rfl) rfl q
      rw [sameEs_self] at a3
      replace a1 := Lib.hid a1
      replace a2 := Lib.hid a2
      replace a3 := Lib.hid a3
      repeat' (first
        | (with_reducible refine swp_seq ?_)
        | (with_reducible refine swp_reg ?_; (try rw [hP]); simp -implicitDefEqProofs [steps, rowsHn, rowsC, rowsL, *])
        | (with_reducible refine swp_regd (by rw [hP]; exact mixed) ?_; (try rw [hP]); simp -implicitDefEqProofs [steps, rowsHn, rowsC, rowsL, *])
        | (refine swp_skip ?_; (try simp -implicitDefEqProofs [steps, rowsHn, rowsC, rowsL, *]))
        | (refine swp_exit ?_; (try simp -implicitDefEqProofs [steps, rowsHn, rowsC, rowsL, *]))
        | (refine swp_ret ?_; (try simp only [qseq_r, qblock_r, qloop_r]))
        | (with_reducible refine swp_cond rfl (fun h => ?_) (fun h => ?_) <;> have h' := h <;> (try simp at h') <;> (try subst h'))
        | (with_reducible refine sopsg_cases (fun h => ?_) (fun h => ?_) <;> have h' := h <;> (try simp at h') <;> (try subst h') <;> simp -implicitDefEqProofs [steps, rowsHn, rowsC, rowsL, *])
        | (refine draw_ok rfl ?_)
        | (with_reducible refine sopsk_rg ?_ ?_; (first | omega | (unfold maxLen; omega)); simp -implicitDefEqProofs [steps, rowsHn, rowsC, rowsL, *])
        | (with_reducible refine swp_block1 ?_)
        | (refine call_r (a1.out _) ⟨rfl, trivial⟩ ⟨rfl, trivial⟩ ?_; simp -implicitDefEqProofs [steps, rowsHn, rowsC, rowsL, *])
        | (refine call_r (a2.out _ (by simp) (by simp)) ⟨rfl, rfl, trivial⟩ ⟨rfl, rfl, trivial⟩ ?_; simp -implicitDefEqProofs [steps, rowsHn, rowsC, rowsL, *])
        | (refine call_q (a3.out _) ?_; simp -implicitDefEqProofs [steps, rowsHn, rowsC, rowsL, *])
        | (exact fin _ _))
theorem PrefixDoes_law (width most : Int) (lo : Option Addr) (ln lc : Nat) (l : List TStep) (w : World) (hw : (Lit.int .i64 width).wf = true) (_ : (Lit.int .i64 most).wf = true) (hl : RdL tstepLay NoA w lo ln lc l) :
    Calls Try.prog 5 #[.int .i64 width, .int .i64 most, .slice lo ln lc] w fun e w' => e = .returned (.bool true) ∧ Below w.heap.size w w' :=
  law_of (vs := [.int .i64 width, .int .i64 most, .slice lo ln lc]) (pdoes_s width most l hw (layF_row layF_tstep hl)) (Reps.cons .int (Reps.cons .int (Reps.cons (layP_view layP_tstep hl) Reps.nil)))
end Go.Proofs.Ytfakdapglbgokaa
