/-
  Texts joined: XRowA XRowB XRowC XRowD XRowE XRowF XRowG XRowH XRowI. No condition.
-/
import Derived.Test.YtfakdapglbgokaaI20
import Derived.Test.YtfakdapglbgokaaI21
import Derived.Test.YtfakdapglbgokaaI17
/-
  The reference's tables, in the plain machine: LessNums. No condition.
-/
namespace Go.Proofs.Ytfakdapglbgokaa
set_option linter.all false
open Go.RowKit
attribute [local simp] sops_nil sops_run sopsk_some sops_call sops_guard sopsg_yes sopsg_tf sopsg_ft sopsg_undef rg_true SOp.run SX.ev putd puts argS upds SOp.touch SSt.keep SSt.skip gets geth puth delh idOf SV.cells? setL fillS fillR sbin eq0 eq1 eqL rowOf qseq_n qseq_e qseq_r qblock_n qblock_r qblock_e qloop_e qloop_r take_map_len FrzOk pureV_int pureV_bool pureV_str pureV_nil pureV_nilsl pureV_view pureV_cp pureL_nil_ pureL_cons_ pureO_row pureO_cells frzS frzH frz frz1 frz0 SlotsM ObjsM ObjM rn ren ren1 ren0 co_self co_int co_own co_view co_nilsl co_agg co_tup CoL coll_self mergeH dels adds idsH okNames
/-- Is one row of numbers below another? -/
def lessL : List Int → List Int → Int
  | [], [] => 0
  | [], _ :: _ => -1
  | _ :: _, [] => 1
  | x :: xs, y :: ys => if x < y then -1 else if x > y then 1 else lessL xs ys
theorem lessL_drop {xs ys : List Int} {i : Nat} (hx : i < xs.length) (hy : i < ys.length) : lessL (xs.drop i) (ys.drop i) = if xs[i] < ys[i] then -1 else if xs[i] > ys[i] then 1 else lessL (xs.drop (i + 1)) (ys.drop (i + 1)) := by
  rw [List.drop_eq_getElem_cons hx, List.drop_eq_getElem_cons hy]; rfl
theorem lessL_end {xs ys : List Int} {i : Nat} (h1 : i ≤ xs.length) (h2 : i ≤ ys.length) (h : xs.length ≤ i ∨ ys.length ≤ i) : lessL (xs.drop i) (ys.drop i) = if xs.length < ys.length then -1 else if ys.length < xs.length then 1 else 0 := by
  have a : ∀ l : List Int, l.drop i = [] ↔ l.length ≤ i := fun l => List.drop_eq_nil_iff
  cases ha : xs.drop i with
  | nil =>
    have := (a xs).1 ha
    cases hb : ys.drop i with
    | nil => have := (a ys).1 hb; rw [if_neg (by omega), if_neg (by omega)]; rfl
    | cons y l => have : ¬ ys.length ≤ i := fun h => by rw [(a ys).2 h] at hb; cases hb
                  rw [if_pos (by omega)]; rfl
  | cons x l =>
    have : ¬ xs.length ≤ i := fun h => by rw [(a xs).2 h] at ha; cases ha
    cases hb : ys.drop i with
    | nil => have := (a ys).1 hb; rw [if_neg (by omega), if_pos (by omega)]; rfl
    | cons y l => have : ¬ ys.length ≤ i := fun h => by rw [(a ys).2 h] at hb; cases hb
                  omega
theorem less_s (xs ys : List Int) (hx : xs.length ≤ 1000000) : SCalls Try.prog 132 [nums .u64 xs, nums .u64 ys] [] 0 (.int .i64 (lessL xs ys)) [] := by
  refine scalls_of (N := 46) Try.func132 rfl rfl (by kernel_rfl) comp_c_less (by simp) ⟨rfl, rfl, trivial⟩ trivial ?_
  rintro X hP hN hm
  have fin : ∀ (r : Int) hp nx, r = lessL xs ys → QFun X (Try.f132).results.toList 0 (.int .i64 (lessL xs ys)) [] .ret ⟨[(4, .int .i64 r)], hp, nx⟩ := fun r hp nx hr => by
    rw [hr]
    exact (qfun_done (s' := ⟨[(4, .int .i64 (lessL xs ys))], [], 0⟩) (wk_list [] hm rfl (Nat.le_refl _) (by simp -implicitDefEqProofs []) trivial) rfl trivial (by simp))
  unfold c_less
  repeat' (first
    | (with_reducible refine swp_seq ?_)
    | (with_reducible refine swp_reg ?_; (try rw [hP]); simp -implicitDefEqProofs [*])
    | (with_reducible refine swp_regd (by rw [hP]; exact mixed) ?_; (try rw [hP]); simp -implicitDefEqProofs [*])
    | (refine swp_skip ?_; (try simp -implicitDefEqProofs [*]))
    | (refine swp_exit ?_; (try simp -implicitDefEqProofs [*]))
    | (refine swp_ret ?_; (try simp only [qseq_r, qblock_r, qloop_r]))
    | (with_reducible refine swp_cond rfl (fun h => ?_) (fun h => ?_) <;> have h' := h <;> (try simp at h') <;> (try subst h'))
    | (with_reducible refine sopsg_cases (fun h => ?_) (fun h => ?_) <;> have h' := h <;> (try simp at h') <;> (try subst h') <;> simp -implicitDefEqProofs [*])
    | (refine draw_ok rfl ?_)
    | (with_reducible refine sopsk_rg ?_ ?_; (first | omega | (unfold maxLen; omega)); simp -implicitDefEqProofs [*])
    | (with_reducible refine swp_block1 ?_))
  refine swp_block (swp_loop (fun s n => ∃ i : Nat, s = ⟨[(0, nums .u64 xs), (1, nums .u64 ys), (5, .int .i64 i)], [], 0⟩ ∧ i ≤ xs.length ∧ i ≤ ys.length ∧ lessL (xs.drop i) (ys.drop i) = lessL xs ys ∧ n = xs.length - i) (wk_list [] hm rfl (Nat.le_refl _) (by simp -implicitDefEqProofs [nums]) (by trivial)) ⟨0, rfl, by omega, by omega, by simp, rfl⟩ ?_)
  rintro s n ⟨i, rfl, h1, h2, hl, rfl⟩
  unfold c_less_l1
  repeat' (first
    | (with_reducible refine swp_seq ?_)
    | (with_reducible refine swp_reg ?_; (try rw [hP]); simp -implicitDefEqProofs [nums, *])
    | (with_reducible refine swp_regd (by rw [hP]; exact mixed) ?_; (try rw [hP]); simp -implicitDefEqProofs [nums, *])
    | (refine swp_skip ?_; (try simp -implicitDefEqProofs [nums, *]))
    | (refine swp_exit ?_; (try simp -implicitDefEqProofs [nums, *]))
    | (refine swp_ret ?_; (try simp only [qseq_r, qblock_r, qloop_r]))
    | (with_reducible refine swp_cond rfl (fun h => ?_) (fun h => ?_) <;> have h' := h <;> (try simp at h') <;> (try subst h'))
    | (with_reducible refine sopsg_cases (fun h => ?_) (fun h => ?_) <;> have h' := h <;> (try simp at h') <;> (try subst h') <;> simp -implicitDefEqProofs [nums, *])
    | (refine draw_ok rfl ?_)
    | (with_reducible refine sopsk_rg ?_ ?_; (first | omega | (unfold maxLen; omega)); simp -implicitDefEqProofs [nums, *])
    | (with_reducible refine swp_block1 ?_)
    | (refine fin _ _ _ ?_)
    | ((rw [i64_add_ (by omega) (by omega)]; refine qloop_next (wk_list [] hm rfl (Nat.zero_le _) (by simp -implicitDefEqProofs) (by trivial)) ⟨i + 1, rfl, ?_, ?_, ?_, rfl⟩ (by omega))))
  all_goals try omega
  all_goals try (rw [← hl, lessL_end h1 h2 (by omega)]; (repeat' split) <;> omega)
  all_goals try (rw [← hl, lessL_drop (by omega) (by omega)]; (repeat' split) <;> first | rfl | omega)
  rw [← hl, lessL_drop (i := i) (by omega) (by omega), if_neg (by omega), if_neg (by omega)]
end Go.Proofs.Ytfakdapglbgokaa

/-
  The reference's tables, in the plain machine: may. No condition.
-/
namespace Go.Proofs.Ytfakdapglbgokaa
set_option linter.all false
open Go.RowKit
def rowsC (k ks wd ms : Int) (id n : Nat) : SObj := .cells 72 [.int .i64 k, .int .i64 ks, .int .i64 wd, .int .i64 ms, .own id n]
def rowsL (L : List Entry) : SObj := .row 30 6 (L.map ecells)
def rowsH (k ks wd ms : Int) (L : List Entry) : Hp := [(0, rowsC k ks wd ms 1 L.length), (1, rowsL L)]
theorem ren_nums (σ : Nat → Nat) (k : IntKind) (xs : List Int) : ren σ (nums k xs) = nums k xs := rfl
theorem ren_ecells (σ : Nat → Nat) (e : Entry) : (ecells e).map (ren σ) = ecells e := rfl
theorem ren_ents (σ : Nat → Nat) (L : List Entry) : (L.map ecells).map (·.map (ren σ)) = L.map ecells := by
  rw [List.map_map]; rfl
theorem ren_ents2 (σ : Nat → Nat) (L : List Entry) : List.map ((fun x => List.map (ren σ) x) ∘ ecells) L = L.map ecells := rfl
theorem rowsH_lt (k ks wd ms : Int) (L : List Entry) : LtH 2 (rowsH k ks wd ms L) := ⟨by omega, rfl, by omega, ren_ents _ L, trivial⟩
def rowsHn (a b : Nat) (k ks wd ms : Int) (L : List Entry) : Hp := [(a, rowsC k ks wd ms b L.length), (b, rowsL L)]
/-- A contract that only looks at a table, under other names. -/
theorem rows_q {f : FuncId} {args : List SV} {r : SV} {k ks wd ms : Int} {L : List Entry} (h : SCalls Try.prog f (.ptr 0 0 :: args) (rowsH k ks wd ms L) 2 r (rowsH k ks wd ms L)) (ha : ∀ σ, args.map (ren σ) = args) (hr : ∀ σ, ren σ r = r) (hk : ok2 r = true)
    (a b q : Nat) (hab : a ≠ b) (haq : a < q) (hbq : b < q) : SCalls Try.prog f (.ptr a 0 :: args) (rowsHn a b k ks wd ms L) q r (rowsHn a b k ks wd ms L) := by
  have e0 : sg [a, b] q 0 = a := rfl
  have e1 : sg [a, b] q 1 = b := rfl
  have g0 : geth (rowsHn a b k ks wd ms L) a = some (rowsC k ks wd ms b L.length) := by simp [rowsHn, geth]
  have g1 : geth (rowsHn a b k ks wd ms L) b = some (rowsL L) := by simp [rowsHn, geth, hab]
  refine scalls_ren [a, b] h rfl (by simp [hab]) (by simp; omega) ?_ ⟨⟨_, g0, rfl, .refl _⟩, ⟨_, g1, rfl, rfl, ?_⟩, trivial⟩ (by simp [idsH, rowsH]) (hr _).symm hk ⟨⟨_, g0, rfl, rfl, rfl⟩, ⟨_, g1, rfl, rfl, ?_, ?_⟩, trivial⟩ (by simp [idsH, rowsH]) rfl
  · show _ = _ :: args.map _
    rw [ha]; rfl
  · rw [ren_ents]; exact .refl _
  · intro x hx
    obtain ⟨e, _, rfl⟩ := List.mem_map.1 hx
    rfl
  · exact (ren_ents _ L).symm
def onesP (k : Int) : Int := if k ≤ 64 then 2 ^ k.toNat - 1 else 0
def mayB (ks : List Int) (ms : List Int) : Bool := (List.range ks.length).all fun i => bits .and .u64 (el ks i) (el ms i) == el ks i
theorem mayB_t {ks ms : List Int} (h : ∀ j, j < ks.length → (bits .and .u64 (el ks j) (el ms j) == el ks j) = true) : mayB ks ms = true :=
  List.all_eq_true.2 fun j hj => h j (List.mem_range.1 hj)
theorem mayB_f {ks ms : List Int} {j : Nat} (hj : j < ks.length) (h : ¬ bits .and .u64 (el ks j) (el ms j) = el ks j) : mayB ks ms = false :=
  List.all_eq_false.2 ⟨j, List.mem_range.2 hj, by simpa using h⟩
/-- May an entry stand in a table of a kind? -/
def mayC (kind keys width : Int) (e : Entry) : Int :=
  if kind = 1 then (if (e.keys.length : Int) = keys then 0 else 2)
  else if kind = 2 then (if (e.keys.length : Int) = 1 ∧ 1 ≤ width ∧ width ≤ 64 ∧ 0 ≤ e.len ∧ e.len ≤ width ∧ wideI (el e.keys 0) width = false then (if bits .and .u64 (el e.keys 0) (onesP (width - e.len)) = 0 then 0 else 6) else 6)
  else if kind = 3 then (if (e.keys.length : Int) = keys ∧ (e.masks.length : Int) = keys ∧ 0 ≤ e.prio ∧ e.prio ≤ 1000 then (if mayB e.keys e.masks then 0 else 6) else 6)
  else 0
end Go.Proofs.Ytfakdapglbgokaa

/-
  The reference's tables, in the plain machine: may. No condition.
-/
namespace Go.Proofs.Ytfakdapglbgokaa
set_option linter.all false
open Go.RowKit
attribute [local simp] sops_nil sops_run sopsk_some sops_call sops_guard sopsg_yes sopsg_tf sopsg_ft sopsg_undef rg_true SOp.run SX.ev putd puts argS upds SOp.touch SSt.keep SSt.skip gets geth puth delh idOf SV.cells? setL fillS fillR sbin eq0 eq1 eqL rowOf qseq_n qseq_e qseq_r qblock_n qblock_r qblock_e qloop_e qloop_r take_map_len FrzOk pureV_int pureV_bool pureV_str pureV_nil pureV_nilsl pureV_view pureV_cp pureL_nil_ pureL_cons_ pureO_row pureO_cells frzS frzH frz frz1 frz0 SlotsM ObjsM ObjM rn ren ren1 ren0 co_self co_int co_own co_view co_nilsl co_agg co_tup CoL coll_self mergeH dels adds idsH okNames ren_ents ren_ents2 ren_nums
theorem may_s (k ks wd ms : Int) (L : List Entry) (e : Entry) (hs : Small e) : SCalls Try.prog 91 [.ptr 0 0, .agg (ecells e)] (rowsH k ks wd ms L) 2 (.int .i64 (mayC k ks wd e)) (rowsH k ks wd ms L) := by
  refine scalls_of (N := 136) Try.func91 rfl rfl (by kernel_rfl) comp_c_may (by simp) ⟨rfl, rfl, trivial⟩ (rowsH_lt _ _ _ _ _) ?_
  rintro X hP hN hm
  have fin : ∀ (r : Int) hp nx, r = mayC k ks wd e → QFun X (Try.f91).results.toList 2 (.int .i64 (mayC k ks wd e)) (rowsH k ks wd ms L) .ret ⟨[(4, .int .i64 r)], (0, rowsC k ks wd ms 1 L.length) :: (1, rowsL L) :: hp, nx⟩ := fun r hp nx hr => by
    rw [hr]
    exact (qfun_done (s' := ⟨[(4, .int .i64 (mayC k ks wd e))], rowsH k ks wd ms L, 2⟩) (wk_list [(0, 0), (1, 1)] hm rfl (Nat.le_refl _) (by simp -implicitDefEqProofs []) (by simp -implicitDefEqProofs [rowsH, rowsC, rowsL])) rfl ⟨rfl, rfl, trivial⟩ (by simp))
  simp only [rowsC, rowsL] at fin
  have hk1 : (e.keys.length : Int) = 1 → e.keys[0]? = some (el e.keys 0) := fun h => by
    have : 0 < e.keys.length := by omega
    simp [el, this]
  have hwr : 0 ≤ e.len → e.len ≤ wd → wd ≤ 64 → IntKind.i64.wrap (wd - e.len) = wd - e.len := fun a b c => IntWalk.i64_in _ ⟨by omega, by omega⟩
  obtain ⟨hs1, hs2, hs3⟩ := hs
  unfold c_may rowsH rowsC rowsL
  repeat' (first
    | (with_reducible refine swp_seq ?_)
    | (with_reducible refine swp_reg ?_; (try rw [hP]); simp -implicitDefEqProofs [ecells, nums, *])
    | (with_reducible refine swp_regd (by rw [hP]; exact mixed) ?_; (try rw [hP]); simp -implicitDefEqProofs [ecells, nums, *])
    | (refine swp_skip ?_; (try simp -implicitDefEqProofs [ecells, nums, *]))
    | (refine swp_exit ?_; (try simp -implicitDefEqProofs [ecells, nums, *]))
    | (refine swp_ret ?_; (try simp only [qseq_r, qblock_r, qloop_r]))
    | (with_reducible refine swp_cond rfl (fun h => ?_) (fun h => ?_) <;> have h' := h <;> (try simp at h') <;> (try subst h'))
    | (with_reducible refine sopsg_cases (fun h => ?_) (fun h => ?_) <;> have h' := h <;> (try simp at h') <;> (try subst h') <;> simp -implicitDefEqProofs [ecells, nums, *])
    | (refine draw_ok rfl ?_)
    | (with_reducible refine sopsk_rg ?_ ?_; (first | omega | (unfold maxLen; omega)); simp -implicitDefEqProofs [ecells, nums, *])
    | (with_reducible refine swp_block1 ?_)
    | (refine fin _ _ _ ?_)
    | (refine call_q (scalls_q (wide_s _ _) (fun σ => rfl) (fun σ => rfl) rfl _) ?_; simp -implicitDefEqProofs [ecells, nums, *])
    | (refine call_q (scalls_q (ones_s _) (fun σ => rfl) (fun σ => rfl) rfl _) ?_; simp -implicitDefEqProofs [ecells, nums, *]))
  all_goals try (unfold mayC; (repeat' split) <;> first | rfl | omega | (simp_all [onesP]; done))
  case refine_2.refine_2.refine_1.refine_2.refine_2.refine_2.refine_2 =>
    refine swp_block (swp_loop (fun s n => ∃ i : Nat, s = ⟨[(0, .ptr 0 0), (3, .ptr 2 0), (6, .int .i64 i)], [(0, rowsC 3 e.keys.length wd ms 1 L.length), (1, rowsL L), (2, .cells 30 (ecells e))], 3⟩ ∧ i ≤ e.keys.length ∧ (∀ j, j < i → (bits .and .u64 (el e.keys j) (el e.masks j) == el e.keys j) = true) ∧ n = e.keys.length - i) (wk_list [(0, 0), (1, 1), (2, 2)] hm rfl (by simp) (by simp -implicitDefEqProofs) (by simp -implicitDefEqProofs [rowsC, rowsL, ecells, nums])) ⟨0, rfl, by omega, by omega, rfl⟩ ?_)
    rintro s n ⟨i, rfl, h1, h2, rfl⟩
    have hl : e.masks.length = e.keys.length := by omega
    have g1 : i < e.keys.length → e.keys[i]? = some (el e.keys i) := fun h => by simp [el, h]
    have g2 : i < e.keys.length → e.masks[i]? = some (el e.masks i) := fun h => by have := hl ▸ h; simp [el, this]
    unfold c_may_l1
    repeat' (first
      | (with_reducible refine swp_seq ?_)
      | (with_reducible refine swp_reg ?_; (try rw [hP]); simp -implicitDefEqProofs [ecells, nums, rowsC, rowsL, *])
      | (with_reducible refine swp_regd (by rw [hP]; exact mixed) ?_; (try rw [hP]); simp -implicitDefEqProofs [ecells, nums, rowsC, rowsL, *])
      | (refine swp_skip ?_; (try simp -implicitDefEqProofs [ecells, nums, rowsC, rowsL, *]))
      | (refine swp_exit ?_; (try simp -implicitDefEqProofs [ecells, nums, rowsC, rowsL, *]))
      | (refine swp_ret ?_; (try simp only [qseq_r, qblock_r, qloop_r]))
      | (with_reducible refine swp_cond rfl (fun h => ?_) (fun h => ?_) <;> have h' := h <;> (try simp at h') <;> (try subst h'))
      | (with_reducible refine sopsg_cases (fun h => ?_) (fun h => ?_) <;> have h' := h <;> (try simp at h') <;> (try subst h') <;> simp -implicitDefEqProofs [ecells, nums, rowsC, rowsL, *])
      | (refine draw_ok rfl ?_)
      | (with_reducible refine sopsk_rg ?_ ?_; (first | omega | (unfold maxLen; omega)); simp -implicitDefEqProofs [ecells, nums, rowsC, rowsL, *])
      | (with_reducible refine swp_block1 ?_)
      | (refine fin _ _ _ ?_)
      | ((rw [i64_add_ (by omega) (by omega)]; refine qloop_next (wk_list [(0, 0), (1, 1), (2, 2)] hm rfl (by simp) (by simp -implicitDefEqProofs) (by simp -implicitDefEqProofs [rowsC, rowsL, ecells, nums])) ⟨i + 1, rfl, ?_, ?_, rfl⟩ (by omega))))
    · have hf := mayB_f (ks := e.keys) (ms := e.masks) ‹i < e.keys.length› (by rw [el_lt _ _ ‹_›, el_lt _ _ (by omega)]; assumption)
      unfold mayC; simp [hf]
    · omega
    · intro j hj
      rcases Nat.lt_or_ge j i with h4 | h4
      · simpa using h2 j h4
      · obtain rfl : j = i := by omega
        rw [el_lt _ _ ‹_›, el_lt _ _ (by omega)]; simpa using h'
    · have ht := mayB_t (ks := e.keys) (ms := e.masks) fun j hj => h2 j (by omega)
      unfold mayC
      rw [if_neg (by omega), if_neg (by omega), if_pos rfl, if_pos (by omega), if_pos ht]
end Go.Proofs.Ytfakdapglbgokaa

/-
  The reference's tables, in the plain machine: one, at. No condition.
-/
namespace Go.Proofs.Ytfakdapglbgokaa
set_option linter.all false
open Go.RowKit
attribute [local simp] sops_nil sops_run sopsk_some sops_call sops_guard sopsg_yes sopsg_tf sopsg_ft sopsg_undef rg_true SOp.run SX.ev putd puts argS upds SOp.touch SSt.keep SSt.skip gets geth puth delh idOf SV.cells? setL fillS fillR sbin eq0 eq1 eqL rowOf qseq_n qseq_e qseq_r qblock_n qblock_r qblock_e qloop_e qloop_r take_map_len FrzOk pureV_int pureV_bool pureV_str pureV_nil pureV_nilsl pureV_view pureV_cp pureL_nil_ pureL_cons_ pureO_row pureO_cells frzS frzH frz frz1 frz0 SlotsM ObjsM ObjM rn ren ren1 ren0 co_self co_int co_own co_view co_nilsl co_agg co_tup CoL coll_self mergeH dels adds idsH okNames ren_ents ren_ents2 ren_nums
/-- Do two entries stand in the same place? -/
def oneB (kind : Int) (a b : Entry) : Bool := !((kind == 3 && (a.prio != b.prio || !decide (a.masks = b.masks))) || (kind == 2 && a.len != b.len)) && decide (a.keys = b.keys)
theorem one_s (k ks wd ms : Int) (L : List Entry) (a b : Entry) (hs : Small a) : SCalls Try.prog 131 [.ptr 0 0, .agg (ecells a), .agg (ecells b)] (rowsH k ks wd ms L) 2 (.bool (oneB k a b)) (rowsH k ks wd ms L) := by
  refine scalls_of (N := 46) Try.func131 rfl rfl (by kernel_rfl) comp_c_rone (by simp) ⟨rfl, rfl, rfl, trivial⟩ (rowsH_lt _ _ _ _ _) ?_
  rintro X hP hN hm
  obtain ⟨hs1, hs2, hs3⟩ := hs
  have fin : ∀ (r : Bool) hp nx, r = oneB k a b → QFun X (Try.f131).results.toList 2 (.bool (oneB k a b)) (rowsH k ks wd ms L) .ret ⟨[(6, .bool r)], (0, rowsC k ks wd ms 1 L.length) :: (1, rowsL L) :: hp, nx⟩ := fun r hp nx hr => by
    rw [hr]
    exact (qfun_done (s' := ⟨[(6, .bool (oneB k a b))], rowsH k ks wd ms L, 2⟩) (wk_list [(0, 0), (1, 1)] hm rfl (Nat.le_refl _) (by simp -implicitDefEqProofs []) (by simp -implicitDefEqProofs [rowsH, rowsC, rowsL])) rfl ⟨rfl, rfl, trivial⟩ (by simp))
  simp only [rowsC, rowsL] at fin
  unfold c_rone rowsH rowsC rowsL
  repeat' (first
    | (with_reducible refine swp_seq ?_)
    | (with_reducible refine swp_reg ?_; (try rw [hP]); simp -implicitDefEqProofs [ecells, nums, *])
    | (with_reducible refine swp_regd (by rw [hP]; exact mixed) ?_; (try rw [hP]); simp -implicitDefEqProofs [ecells, nums, *])
    | (refine swp_skip ?_; (try simp -implicitDefEqProofs [ecells, nums, *]))
    | (refine swp_exit ?_; (try simp -implicitDefEqProofs [ecells, nums, *]))
    | (refine swp_ret ?_; (try simp only [qseq_r, qblock_r, qloop_r]))
    | (with_reducible refine swp_cond rfl (fun h => ?_) (fun h => ?_) <;> have h' := h <;> (try simp at h') <;> (try subst h'))
    | (with_reducible refine sopsg_cases (fun h => ?_) (fun h => ?_) <;> have h' := h <;> (try simp at h') <;> (try subst h') <;> simp -implicitDefEqProofs [ecells, nums, *])
    | (refine draw_ok rfl ?_)
    | (with_reducible refine sopsk_rg ?_ ?_; (first | omega | (unfold maxLen; omega)); simp -implicitDefEqProofs [ecells, nums, *])
    | (with_reducible refine swp_block1 ?_)
    | (refine fin _ _ _ ?_)
    | (refine call_q (call_snums _ _ (by assumption) _) ?_; simp -implicitDefEqProofs [ecells, nums, *]))
  all_goals try (unfold oneB; simp_all; done)
/-- Where an entry stands. -/
def atN (kind : Int) (L : List Entry) (e : Entry) : Nat := firstN (fun i => match L[i]? with | some a => oneB kind a e | none => false) L.length
def atI (kind : Int) (L : List Entry) (e : Entry) : Int := if atN kind L e < L.length then atN kind L e else -1
theorem all_succ {α : Type} {L : List α} {i : Nat} {P : α → Prop} (hi : i < L.length) (h : ∀ j a, j < i → L[j]? = some a → P a) (hb : P L[i]) : ∀ j a, j < i + 1 → L[j]? = some a → P a := by
  intro j a hj ha
  rcases Nat.lt_or_ge j i with h4 | h4
  · exact h j a h4 ha
  · obtain rfl : j = i := by omega
    rw [List.getElem?_eq_getElem hi] at ha; cases ha; exact hb
theorem atI_yes {k : Int} {L : List Entry} {e : Entry} {i : Nat} (hi : i < L.length) (h : ∀ j a, j < i → L[j]? = some a → oneB k a e = false) (hb : oneB k L[i] e = true) : atI k L e = i := by
  have : atN k L e = i := firstN_eq _ _ _ (fun j hj => by
    simp only [List.getElem?_eq_getElem (Nat.lt_trans hj hi)]
    exact h j _ hj (List.getElem?_eq_getElem _)) (by simp only [List.getElem?_eq_getElem hi]; exact hb) hi
  unfold atI; rw [this, if_pos hi]
theorem atI_no {k : Int} {L : List Entry} {e : Entry} (h : ∀ j a, j < L.length → L[j]? = some a → oneB k a e = false) : atI k L e = -1 := by
  have : atN k L e = L.length := firstN_none _ _ (fun j hj => by
    simp only [List.getElem?_eq_getElem hj]
    exact h j _ hj (List.getElem?_eq_getElem _))
  unfold atI; rw [this, if_neg (by omega)]
theorem at_s (k ks wd ms : Int) (L : List Entry) (e : Entry) (hs : ∀ a ∈ L, Small a) (hL : L.length ≤ 1000000) : SCalls Try.prog 92 [.ptr 0 0, .agg (ecells e)] (rowsH k ks wd ms L) 2 (.int .i64 (atI k L e)) (rowsH k ks wd ms L) := by
  refine scalls_of (N := 26) Try.func92 rfl rfl (by kernel_rfl) comp_c_rat (by simp) ⟨rfl, rfl, trivial⟩ (rowsH_lt _ _ _ _ _) ?_
  rintro X hP hN hm
  have fin : ∀ (r : Int) hp nx, r = atI k L e → QFun X (Try.f92).results.toList 2 (.int .i64 (atI k L e)) (rowsH k ks wd ms L) .ret ⟨[(4, .int .i64 r)], (0, rowsC k ks wd ms 1 L.length) :: (1, rowsL L) :: hp, nx⟩ := fun r hp nx hr => by
    rw [hr]
    exact (qfun_done (s' := ⟨[(4, .int .i64 (atI k L e))], rowsH k ks wd ms L, 2⟩) (wk_list [(0, 0), (1, 1)] hm rfl (Nat.le_refl _) (by simp -implicitDefEqProofs []) (by simp -implicitDefEqProofs [rowsH, rowsC, rowsL])) rfl ⟨rfl, rfl, trivial⟩ (by simp))
  simp only [rowsC, rowsL] at fin
  unfold c_rat rowsH rowsC rowsL
  repeat' (first
    | (with_reducible refine swp_seq ?_)
    | (with_reducible refine swp_reg ?_; (try rw [hP]); simp -implicitDefEqProofs [ecells, nums, *])
    | (with_reducible refine swp_regd (by rw [hP]; exact mixed) ?_; (try rw [hP]); simp -implicitDefEqProofs [ecells, nums, *])
    | (refine swp_skip ?_; (try simp -implicitDefEqProofs [ecells, nums, *]))
    | (refine swp_exit ?_; (try simp -implicitDefEqProofs [ecells, nums, *]))
    | (refine swp_ret ?_; (try simp only [qseq_r, qblock_r, qloop_r]))
    | (with_reducible refine swp_cond rfl (fun h => ?_) (fun h => ?_) <;> have h' := h <;> (try simp at h') <;> (try subst h'))
    | (with_reducible refine sopsg_cases (fun h => ?_) (fun h => ?_) <;> have h' := h <;> (try simp at h') <;> (try subst h') <;> simp -implicitDefEqProofs [ecells, nums, *])
    | (refine draw_ok rfl ?_)
    | (with_reducible refine sopsk_rg ?_ ?_; (first | omega | (unfold maxLen; omega)); simp -implicitDefEqProofs [ecells, nums, *])
    | (with_reducible refine swp_block1 ?_))
  refine swp_block (swp_loop (fun s n => ∃ i : Nat, s = ⟨[(0, .ptr 0 0), (3, .ptr 2 0), (5, .int .i64 i)], [(0, rowsC k ks wd ms 1 L.length), (1, rowsL L), (2, .cells 30 (ecells e))], 3⟩ ∧ i ≤ L.length ∧ (∀ j a, j < i → L[j]? = some a → oneB k a e = false) ∧ n = L.length - i) (wk_list [(0, 0), (1, 1), (2, 2)] hm rfl (by simp) (by simp -implicitDefEqProofs) (by simp -implicitDefEqProofs [rowsC, rowsL, ecells, nums])) ⟨0, rfl, by omega, by intro j a hj; omega, rfl⟩ ?_)
  rintro s n ⟨i, rfl, h1, h2, rfl⟩
  unfold c_rat_l1
  repeat' (first
    | (with_reducible refine swp_seq ?_)
    | (with_reducible refine swp_reg ?_; (try rw [hP]); simp -implicitDefEqProofs [ecells, nums, rowsC, rowsL, rowsHn, *])
    | (with_reducible refine swp_regd (by rw [hP]; exact mixed) ?_; (try rw [hP]); simp -implicitDefEqProofs [ecells, nums, rowsC, rowsL, rowsHn, *])
    | (refine swp_skip ?_; (try simp -implicitDefEqProofs [ecells, nums, rowsC, rowsL, rowsHn, *]))
    | (refine swp_exit ?_; (try simp -implicitDefEqProofs [ecells, nums, rowsC, rowsL, rowsHn, *]))
    | (refine swp_ret ?_; (try simp only [qseq_r, qblock_r, qloop_r]))
    | (with_reducible refine swp_cond rfl (fun h => ?_) (fun h => ?_) <;> have h' := h <;> (try simp at h') <;> (try subst h'))
    | (with_reducible refine sopsg_cases (fun h => ?_) (fun h => ?_) <;> have h' := h <;> (try simp at h') <;> (try subst h') <;> simp -implicitDefEqProofs [ecells, nums, rowsC, rowsL, rowsHn, *])
    | (refine draw_ok rfl ?_)
    | (with_reducible refine sopsk_rg ?_ ?_; (first | omega | (unfold maxLen; omega)); simp -implicitDefEqProofs [ecells, nums, rowsC, rowsL, rowsHn, *])
    | (with_reducible refine swp_block1 ?_)
    | (refine fin _ _ _ ?_)
    | (refine call_h (rows_q (one_s k ks wd ms L _ _ (hs _ (by simp))) (fun σ => rfl) (fun σ => rfl) rfl 0 1 _ (by decide) (by simp) (by simp)) ⟨rfl, rfl, trivial⟩ ⟨rfl, rfl, trivial⟩ ?_; simp -implicitDefEqProofs [ecells, nums, rowsC, rowsL, rowsHn, *])
    | ((rw [i64_add_ (by omega) (by omega)]; refine qloop_next (wk_list [(0, 0), (1, 1), (2, 2)] hm rfl (by simp) (by simp -implicitDefEqProofs) (by simp -implicitDefEqProofs [rowsC, rowsL, ecells, nums])) ⟨i + 1, rfl, ?_, ?_, rfl⟩ (by omega))))
  · exact (atI_yes ‹_› h2 h).symm
  · omega
  · exact all_succ ‹_› h2 h
  · exact (atI_no fun j a hj ha => h2 j a (by omega) ha).symm
end Go.Proofs.Ytfakdapglbgokaa

/-
  The reference's tables, in the plain machine: kept, fits, ahead. No condition.
-/
namespace Go.Proofs.Ytfakdapglbgokaa
set_option linter.all false
open Go.RowKit
attribute [local simp] sops_nil sops_run sopsk_some sops_call sops_guard sopsg_yes sopsg_tf sopsg_ft sopsg_undef rg_true SOp.run SX.ev putd puts argS upds SOp.touch SSt.keep SSt.skip gets geth puth delh idOf SV.cells? setL fillS fillR sbin eq0 eq1 eqL rowOf qseq_n qseq_e qseq_r qblock_n qblock_r qblock_e qloop_e qloop_r take_map_len FrzOk pureV_int pureV_bool pureV_str pureV_nil pureV_nilsl pureV_view pureV_cp pureL_nil_ pureL_cons_ pureO_row pureO_cells frzS frzH frz frz1 frz0 SlotsM ObjsM ObjM rn ren ren1 ren0 co_self co_int co_own co_view co_nilsl co_agg co_tup CoL coll_self mergeH dels adds idsH okNames ren_ents ren_ents2 ren_nums
/-- An entry as it is kept. -/
def keptE (kind : Int) (e : Entry) : Entry := ⟨e.keys, if kind = 3 then e.masks else [], if kind = 2 then e.len else 0, if kind = 3 then e.prio else 0, e.act, e.args⟩
theorem call_own (e : Entry) (h : Small e) (q : Nat) : SCalls Try.prog 96 [.agg (ecells e)] [] q (.agg (ecells e)) [] := scalls_q (own_s e h) (fun σ => rfl) (fun σ => rfl) rfl q
theorem kept_s (k ks wd ms : Int) (L : List Entry) (e : Entry) (hs : Small e) : SCalls Try.prog 93 [.ptr 0 0, .agg (ecells e)] (rowsH k ks wd ms L) 2 (.agg (ecells (keptE k e))) (rowsH k ks wd ms L) := by
  refine scalls_of (N := 21) Try.func93 rfl rfl (by kernel_rfl) comp_c_kept (by simp) ⟨rfl, rfl, trivial⟩ (rowsH_lt _ _ _ _ _) ?_
  rintro X hP hN hm
  have fin : ∀ x cs nx, CoL cs (ecells (keptE k e)) → QFun X (Try.f93).results.toList 2 (.agg (ecells (keptE k e))) (rowsH k ks wd ms L) .ret ⟨[(4, .ptr 3 0)], [(0, rowsC k ks wd ms 1 L.length), (1, rowsL L), (2, x), (3, .cells 30 cs)], nx⟩ := fun x cs nx hc =>
    qfun_done (s' := ⟨[(4, .ptr 3 0)], [(0, rowsC k ks wd ms 1 L.length), (1, rowsL L), (3, .cells 30 (ecells (keptE k e)))], 4⟩) (wk_list [(0, 0), (1, 1), (3, 3)] hm rfl (by simp) (by simp -implicitDefEqProofs) (by simp -implicitDefEqProofs [rowsC, rowsL]; exact hc)) (by simp -implicitDefEqProofs [hP, resOf, resL, resV, agg_entry, size_entry, one_, ecells, nums]) ⟨rfl, rfl, trivial⟩ (by simp)
  unfold c_kept rowsH rowsC rowsL
  repeat' (first
    | (with_reducible refine swp_seq ?_)
    | (with_reducible refine swp_reg ?_; (try rw [hP]); simp -implicitDefEqProofs [ecells, nums, *])
    | (with_reducible refine swp_regd (by rw [hP]; exact mixed) ?_; (try rw [hP]); simp -implicitDefEqProofs [ecells, nums, *])
    | (refine swp_skip ?_; (try simp -implicitDefEqProofs [ecells, nums, *]))
    | (refine swp_exit ?_; (try simp -implicitDefEqProofs [ecells, nums, *]))
    | (refine swp_ret ?_; (try simp only [qseq_r, qblock_r, qloop_r]))
    | (with_reducible refine swp_cond rfl (fun h => ?_) (fun h => ?_) <;> have h' := h <;> (try simp at h') <;> (try subst h'))
    | (with_reducible refine sopsg_cases (fun h => ?_) (fun h => ?_) <;> have h' := h <;> (try simp at h') <;> (try subst h') <;> simp -implicitDefEqProofs [ecells, nums, *])
    | (refine draw_ok rfl ?_)
    | (with_reducible refine sopsk_rg ?_ ?_; (first | omega | (unfold maxLen; omega)); simp -implicitDefEqProofs [ecells, nums, *])
    | (with_reducible refine swp_block1 ?_)
    | (refine call_q (call_own _ hs _) ?_; simp -implicitDefEqProofs [ecells, nums, *])
    | (refine fin _ _ _ ?_))
  all_goals (simp -implicitDefEqProofs [ecells, nums, keptE, *])
end Go.Proofs.Ytfakdapglbgokaa

/-
  The reference's tables, in the plain machine: ahead, fits. No condition.
-/
namespace Go.Proofs.Ytfakdapglbgokaa
set_option linter.all false
open Go.RowKit
attribute [local simp] sops_nil sops_run sopsk_some sops_call sops_guard sopsg_yes sopsg_tf sopsg_ft sopsg_undef rg_true SOp.run SX.ev putd puts argS upds SOp.touch SSt.keep SSt.skip gets geth puth delh idOf SV.cells? setL fillS fillR sbin eq0 eq1 eqL rowOf qseq_n qseq_e qseq_r qblock_n qblock_r qblock_e qloop_e qloop_r take_map_len FrzOk pureV_int pureV_bool pureV_str pureV_nil pureV_nilsl pureV_view pureV_cp pureL_nil_ pureL_cons_ pureO_row pureO_cells frzS frzH frz frz1 frz0 SlotsM ObjsM ObjM rn ren ren1 ren0 co_self co_int co_own co_view co_nilsl co_agg co_tup CoL coll_self mergeH dels adds idsH okNames ren_ents ren_ents2 ren_nums
/-- Does an entry stand ahead of another, in order? -/
def aheadB (a b : Entry) : Bool := if a.prio = b.prio then (if lessL a.keys b.keys = 0 then (if a.len = b.len then decide (lessL a.masks b.masks < 0) else decide (a.len < b.len)) else decide (lessL a.keys b.keys < 0)) else decide (a.prio < b.prio)
theorem ahead_s (a b : Entry) (hs : Small a) : SCalls Try.prog 97 [.agg (ecells a), .agg (ecells b)] [] 0 (.bool (aheadB a b)) [] := by
  refine scalls_of (N := 41) Try.func97 rfl rfl (by kernel_rfl) comp_c_ahead (by simp) ⟨rfl, rfl, trivial⟩ trivial ?_
  rintro X hP hN hm
  obtain ⟨hs1, hs2, hs3⟩ := hs
  have fin : ∀ (r : Bool) hp nx, r = aheadB a b → QFun X (Try.f97).results.toList 0 (.bool (aheadB a b)) [] .ret ⟨[(4, .bool r)], hp, nx⟩ := fun r hp nx hr => by
    rw [hr]
    exact (qfun_done (s' := ⟨[(4, .bool (aheadB a b))], [], 0⟩) (wk_list [] hm rfl (Nat.le_refl _) (by simp -implicitDefEqProofs) trivial) rfl trivial (by simp))
  unfold c_ahead
  repeat' (first
    | (with_reducible refine swp_seq ?_)
    | (with_reducible refine swp_reg ?_; (try rw [hP]); simp -implicitDefEqProofs [ecells, nums, *])
    | (with_reducible refine swp_regd (by rw [hP]; exact mixed) ?_; (try rw [hP]); simp -implicitDefEqProofs [ecells, nums, *])
    | (refine swp_skip ?_; (try simp -implicitDefEqProofs [ecells, nums, *]))
    | (refine swp_exit ?_; (try simp -implicitDefEqProofs [ecells, nums, *]))
    | (refine swp_ret ?_; (try simp only [qseq_r, qblock_r, qloop_r]))
    | (with_reducible refine swp_cond rfl (fun h => ?_) (fun h => ?_) <;> have h' := h <;> (try simp at h') <;> (try subst h'))
    | (with_reducible refine sopsg_cases (fun h => ?_) (fun h => ?_) <;> have h' := h <;> (try simp at h') <;> (try subst h') <;> simp -implicitDefEqProofs [ecells, nums, *])
    | (refine draw_ok rfl ?_)
    | (with_reducible refine sopsk_rg ?_ ?_; (first | omega | (unfold maxLen; omega)); simp -implicitDefEqProofs [ecells, nums, *])
    | (with_reducible refine swp_block1 ?_)
    | (refine fin _ _ _ ?_)
    | (refine call_q (scalls_q (less_s _ _ (by assumption)) (fun σ => rfl) (fun σ => rfl) rfl _) ?_; simp -implicitDefEqProofs [ecells, nums, *]))
  all_goals try (unfold aheadB; simp_all; done)
theorem rangeAll_t {n : Nat} {p : Nat → Bool} (h : ∀ j, j < n → p j = true) : (List.range n).all p = true := List.all_eq_true.2 fun j hj => h j (List.mem_range.1 hj)
theorem rangeAll_f {n j : Nat} {p : Nat → Bool} (hj : j < n) (h : p j = false) : (List.range n).all p = false := List.all_eq_false.2 ⟨j, List.mem_range.2 hj, by simpa using h⟩
/-- Does an entry fit keys? -/
def fitsB (kind width : Int) (e : Entry) (k : List Int) : Bool :=
  if kind = 1 then decide (e.keys = k)
  else if kind = 2 then bits .and .u64 (el k 0) (IntKind.u64.wrap (onesP width - onesP (IntKind.i64.wrap (width - e.len)))) == el e.keys 0
  else (List.range k.length).all fun i => bits .and .u64 (el k i) (el e.masks i) == el e.keys i
def FitsOk (kind : Int) (e : Entry) (k : List Int) : Prop := (kind = 2 → 1 ≤ k.length ∧ 1 ≤ e.keys.length) ∧ (kind ≠ 1 → kind ≠ 2 → k.length ≤ e.keys.length ∧ k.length ≤ e.masks.length)
theorem fits_s (k ks wd ms : Int) (L : List Entry) (e : Entry) (xs : List Int) (hs : Small e) (hok : FitsOk k e xs) : SCalls Try.prog 95 [.ptr 0 0, .agg (ecells e), nums .u64 xs] (rowsH k ks wd ms L) 2 (.bool (fitsB k wd e xs)) (rowsH k ks wd ms L) := by
  refine scalls_of (N := 67) Try.func95 rfl rfl (by kernel_rfl) comp_c_rfits (by simp) ⟨rfl, rfl, rfl, trivial⟩ (rowsH_lt _ _ _ _ _) ?_
  rintro X hP hN hm
  obtain ⟨hs1, hs2, hs3⟩ := hs
  obtain ⟨ho1, ho2⟩ := hok
  have fin : ∀ (r : Bool) hp nx, r = fitsB k wd e xs → QFun X (Try.f95).results.toList 2 (.bool (fitsB k wd e xs)) (rowsH k ks wd ms L) .ret ⟨[(6, .bool r)], (0, rowsC k ks wd ms 1 L.length) :: (1, rowsL L) :: hp, nx⟩ := fun r hp nx hr => by
    rw [hr]
    exact (qfun_done (s' := ⟨[(6, .bool (fitsB k wd e xs))], rowsH k ks wd ms L, 2⟩) (wk_list [(0, 0), (1, 1)] hm rfl (Nat.le_refl _) (by simp -implicitDefEqProofs []) (by simp -implicitDefEqProofs [rowsH, rowsC, rowsL])) rfl ⟨rfl, rfl, trivial⟩ (by simp))
  have a1 : k = 2 → 0 < xs.length := fun h => (ho1 h).1
  have a2 : k = 2 → 0 < e.keys.length := fun h => (ho1 h).2
  have a3 : k = 2 → xs[0]? = some (el xs 0) := fun h => by simp [el, a1 h]
  have a4 : k = 2 → e.keys[0]? = some (el e.keys 0) := fun h => by simp [el, a2 h]
  simp only [rowsC, rowsL] at fin
  unfold c_rfits rowsH rowsC rowsL
  repeat' (first
    | (with_reducible refine swp_seq ?_)
    | (with_reducible refine swp_reg ?_; (try rw [hP]); simp -implicitDefEqProofs [ecells, nums, *])
    | (with_reducible refine swp_regd (by rw [hP]; exact mixed) ?_; (try rw [hP]); simp -implicitDefEqProofs [ecells, nums, *])
    | (refine swp_skip ?_; (try simp -implicitDefEqProofs [ecells, nums, *]))
    | (refine swp_exit ?_; (try simp -implicitDefEqProofs [ecells, nums, *]))
    | (refine swp_ret ?_; (try simp only [qseq_r, qblock_r, qloop_r]))
    | (with_reducible refine swp_cond rfl (fun h => ?_) (fun h => ?_) <;> have h' := h <;> (try simp at h') <;> (try subst h'))
    | (with_reducible refine sopsg_cases (fun h => ?_) (fun h => ?_) <;> have h' := h <;> (try simp at h') <;> (try subst h') <;> simp -implicitDefEqProofs [ecells, nums, *])
    | (refine draw_ok rfl ?_)
    | (with_reducible refine sopsk_rg ?_ ?_; (first | omega | (unfold maxLen; omega)); simp -implicitDefEqProofs [ecells, nums, *])
    | (with_reducible refine swp_block1 ?_)
    | (refine fin _ _ _ ?_)
    | (refine call_q (call_snums _ _ (by assumption) _) ?_; simp -implicitDefEqProofs [ecells, nums, *])
    | (refine call_q (scalls_q (ones_s _) (fun σ => rfl) (fun σ => rfl) rfl _) ?_; simp -implicitDefEqProofs [ecells, nums, *]))
  · unfold fitsB; rw [if_pos rfl]
  · unfold fitsB onesP; rw [if_neg (show ¬ (2 : Int) = 1 by decide), if_pos (show (2 : Int) = 2 from rfl), el_lt _ _ (a1 rfl), el_lt _ _ (a2 rfl)]
  · obtain ⟨b1, b2⟩ := ho2 ‹¬ k = 1› ‹¬ k = 2›
    refine swp_block (swp_loop (fun s n => ∃ i : Nat, s = ⟨[(2, nums .u64 xs), (4, .ptr 2 0), (8, .int .i64 i)], [(0, rowsC k ks wd ms 1 L.length), (1, rowsL L), (2, .cells 30 (ecells e))], 3⟩ ∧ i ≤ xs.length ∧ (∀ j, j < i → (bits .and .u64 (el xs j) (el e.masks j) == el e.keys j) = true) ∧ n = xs.length - i) (wk_list [(0, 0), (1, 1), (2, 2)] hm rfl (by simp) (by simp -implicitDefEqProofs [nums]) (by simp -implicitDefEqProofs [rowsC, rowsL, ecells, nums])) ⟨0, rfl, by omega, by omega, rfl⟩ ?_)
    rintro s n ⟨i, rfl, h1, h2, rfl⟩
    have g1 : i < xs.length → xs[i]? = some (el xs i) := fun h => by simp [el, h]
    have g2 : i < xs.length → e.masks[i]? = some (el e.masks i) := fun h => by simp [el, show i < e.masks.length by omega]
    have g3 : i < xs.length → e.keys[i]? = some (el e.keys i) := fun h => by simp [el, show i < e.keys.length by omega]
    have g4 : i < xs.length → i < e.masks.length := fun h => by omega
    have g5 : i < xs.length → i < e.keys.length := fun h => by omega
    unfold c_rfits_l1
    repeat' (first
      | (with_reducible refine swp_seq ?_)
      | (with_reducible refine swp_reg ?_; (try rw [hP]); simp -implicitDefEqProofs [ecells, nums, rowsC, rowsL, *])
      | (with_reducible refine swp_regd (by rw [hP]; exact mixed) ?_; (try rw [hP]); simp -implicitDefEqProofs [ecells, nums, rowsC, rowsL, *])
      | (refine swp_skip ?_; (try simp -implicitDefEqProofs [ecells, nums, rowsC, rowsL, *]))
      | (refine swp_exit ?_; (try simp -implicitDefEqProofs [ecells, nums, rowsC, rowsL, *]))
      | (refine swp_ret ?_; (try simp only [qseq_r, qblock_r, qloop_r]))
      | (with_reducible refine swp_cond rfl (fun h => ?_) (fun h => ?_) <;> have h' := h <;> (try simp at h') <;> (try subst h'))
      | (with_reducible refine sopsg_cases (fun h => ?_) (fun h => ?_) <;> have h' := h <;> (try simp at h') <;> (try subst h') <;> simp -implicitDefEqProofs [ecells, nums, rowsC, rowsL, *])
      | (refine draw_ok rfl ?_)
      | (with_reducible refine sopsk_rg ?_ ?_; (first | omega | (unfold maxLen; omega)); simp -implicitDefEqProofs [ecells, nums, rowsC, rowsL, *])
      | (with_reducible refine swp_block1 ?_)
      | (refine fin _ _ _ ?_)
      | ((rw [i64_add_ (by omega) (by omega)]; refine qloop_next (wk_list [(0, 0), (1, 1), (2, 2)] hm rfl (by simp) (by simp -implicitDefEqProofs) (by simp -implicitDefEqProofs [rowsC, rowsL, ecells, nums])) ⟨i + 1, rfl, ?_, ?_, rfl⟩ (by omega))))
    · unfold fitsB
      rw [if_neg ‹¬ k = 1›, if_neg ‹¬ k = 2›]
      exact (rangeAll_f (p := fun i => bits .and .u64 (el xs i) (el e.masks i) == el e.keys i) ‹_› (by rw [el_lt _ _ ‹_›, el_lt _ _ (by omega), el_lt _ _ (by omega)]; simpa using h')).symm
    · omega
    · intro j hj
      rcases Nat.lt_or_ge j i with h4 | h4
      · simpa using h2 j h4
      · obtain rfl : j = i := by omega
        rw [el_lt _ _ ‹_›, el_lt _ _ (by omega), el_lt _ _ (by omega)]; simpa using h'
    · unfold fitsB
      rw [if_neg ‹¬ k = 1›, if_neg ‹¬ k = 2›]
      exact (rangeAll_t (p := fun i => bits .and .u64 (el xs i) (el e.masks i) == el e.keys i) fun j hj => h2 j (by omega)).symm
end Go.Proofs.Ytfakdapglbgokaa

/-
  The reference's tables, in the plain machine: Add. No condition.
-/
namespace Go.Proofs.Ytfakdapglbgokaa
set_option linter.all false
open Go.RowKit
attribute [local simp] sops_nil sops_run sopsk_some sops_call sops_guard sopsg_yes sopsg_tf sopsg_ft sopsg_undef rg_true SOp.run SX.ev putd puts argS upds SOp.touch SSt.keep SSt.skip gets geth puth delh idOf SV.cells? setL fillS fillR sbin eq0 eq1 eqL rowOf qseq_n qseq_e qseq_r qblock_n qblock_r qblock_e qloop_e qloop_r take_map_len FrzOk pureV_int pureV_bool pureV_str pureV_nil pureV_nilsl pureV_view pureV_cp pureL_nil_ pureL_cons_ pureO_row pureO_cells frzS frzH frz frz1 frz0 SlotsM ObjsM ObjM rn ren ren1 ren0 co_self co_int co_own co_view co_nilsl co_agg co_tup CoL coll_self mergeH dels adds idsH okNames ren_ents ren_ents2 ren_nums
/-- Is there a key that both fit? (as far as the first j) -/
def meetN (j : Nat) (a e : Entry) : Bool := a.prio == e.prio && (List.range j).all fun k => bits .and .u64 (el e.keys k) (bits .and .u64 (el e.masks k) (el a.masks k)) == bits .and .u64 (el a.keys k) (bits .and .u64 (el e.masks k) (el a.masks k))
def meetC (k : Nat) (a e : Entry) : Bool := bits .and .u64 (el e.keys k) (bits .and .u64 (el e.masks k) (el a.masks k)) == bits .and .u64 (el a.keys k) (bits .and .u64 (el e.masks k) (el a.masks k))
theorem meetN_zero (a e : Entry) : meetN 0 a e = (a.prio == e.prio) := by simp [meetN]
theorem meetN_succ (j : Nat) (a e : Entry) : meetN (j + 1) a e = (meetN j a e && meetC j a e) := by
  unfold meetN meetC
  rw [List.range_succ, List.all_append]
  simp [Bool.and_assoc]
def addC (k ks wd ms : Int) (L : List Entry) (e : Entry) : Int :=
  if mayC k ks wd e = 0 then (if 0 ≤ atI k L e then 7 else if k = 3 ∧ L.any (fun a => meetN ks.toNat a e) = true then 8 else if ms ≤ L.length then 10 else 0) else mayC k ks wd e
def addH (k ks wd ms : Int) (L : List Entry) (e : Entry) : Hp := if addC k ks wd ms L e = 0 then [(0, rowsC k ks wd ms 2 (L ++ [keptE k e]).length), (2, rowsL (L ++ [keptE k e]))] else rowsH k ks wd ms L
theorem addH_yes {k ks wd ms : Int} {L : List Entry} {e : Entry} (h : addC k ks wd ms L e = 0) : addH k ks wd ms L e = [(0, rowsC k ks wd ms 2 (L.length + 1)), (2, rowsL (L ++ [keptE k e]))] := by
  unfold addH; rw [if_pos h]; simp
theorem addH_no {k ks wd ms : Int} {L : List Entry} {e : Entry} (h : addC k ks wd ms L e ≠ 0) : addH k ks wd ms L e = rowsH k ks wd ms L := if_neg h
/-- Entries that may stand in a table by masks. -/
def MaskOk (k ks : Int) (L : List Entry) : Prop := k = 3 → 0 ≤ ks ∧ ks ≤ 1000000 ∧ ∀ a ∈ L, (a.keys.length : Int) = ks ∧ (a.masks.length : Int) = ks
theorem may3 {ks wd : Int} {e : Entry} (h : mayC 3 ks wd e = 0) : (e.keys.length : Int) = ks ∧ (e.masks.length : Int) = ks := by
  unfold mayC at h
  rw [if_neg (by omega), if_neg (by omega), if_pos rfl] at h
  split at h
  · omega
  · cases h
set_option maxHeartbeats 4000000 in
theorem radd_s (k ks wd ms : Int) (L : List Entry) (e : Entry) (hs : ∀ a ∈ L, Small a) (hse : Small e) (hL : L.length ≤ 1000000) (hok : MaskOk k ks L) : SCalls Try.prog 37 [.ptr 0 0, .agg (ecells e)] (rowsH k ks wd ms L) 2 (.int .i64 (addC k ks wd ms L e)) (addH k ks wd ms L e) := by
  refine scalls_of (N := 116) Try.func37 rfl rfl (by kernel_rfl) comp_c_radd (by simp) ⟨rfl, rfl, trivial⟩ (rowsH_lt _ _ _ _ _) ?_
  rintro X hP hN hm
  have fin : ∀ (r : Int) hp nx, r ≠ 0 → r = addC k ks wd ms L e → QFun X (Try.f37).results.toList 2 (.int .i64 (addC k ks wd ms L e)) (addH k ks wd ms L e) .ret ⟨[(4, .int .i64 r)], (0, rowsC k ks wd ms 1 L.length) :: (1, rowsL L) :: hp, nx⟩ := fun r hp nx h0 hr => by
    rw [show addH k ks wd ms L e = rowsH k ks wd ms L from if_neg (by rw [← hr]; exact h0), ← hr]
    exact (qfun_done (s' := ⟨[(4, .int .i64 r)], rowsH k ks wd ms L, 2⟩) (wk_list [(0, 0), (1, 1)] hm rfl (Nat.le_refl _) (by simp -implicitDefEqProofs []) (by simp -implicitDefEqProofs [rowsH, rowsC, rowsL])) rfl ⟨rfl, rfl, trivial⟩ (by simp))
  unfold c_radd rowsH rowsC rowsL
  repeat' (first
    | (with_reducible refine swp_seq ?_)
    | (with_reducible refine swp_reg ?_; (try rw [hP]); simp -implicitDefEqProofs [ecells, nums, rowsHn, rowsC, rowsL, *])
    | (with_reducible refine swp_regd (by rw [hP]; exact mixed) ?_; (try rw [hP]); simp -implicitDefEqProofs [ecells, nums, rowsHn, rowsC, rowsL, *])
    | (refine swp_skip ?_; (try simp -implicitDefEqProofs [ecells, nums, rowsHn, rowsC, rowsL, *]))
    | (refine swp_exit ?_; (try simp -implicitDefEqProofs [ecells, nums, rowsHn, rowsC, rowsL, *]))
    | (refine swp_ret ?_; (try simp only [qseq_r, qblock_r, qloop_r]))
    | (with_reducible refine swp_cond rfl (fun h => ?_) (fun h => ?_) <;> have h' := h <;> (try simp at h') <;> (try subst h'))
    | (with_reducible refine sopsg_cases (fun h => ?_) (fun h => ?_) <;> have h' := h <;> (try simp at h') <;> (try subst h') <;> simp -implicitDefEqProofs [ecells, nums, rowsHn, rowsC, rowsL, *])
    | (refine draw_ok rfl ?_)
    | (with_reducible refine sopsk_rg ?_ ?_; (first | omega | (unfold maxLen; omega)); simp -implicitDefEqProofs [ecells, nums, rowsHn, rowsC, rowsL, *])
    | (with_reducible refine swp_block1 ?_)
    | (refine fin _ _ _ ?_ ?_)
    | (refine call_r (rows_q (may_s k ks wd ms L e hse) (fun σ => rfl) (fun σ => rfl) rfl 0 1 _ (by decide) (by simp) (by simp)) ⟨rfl, rfl, trivial⟩ ⟨rfl, rfl, trivial⟩ ?_; simp -implicitDefEqProofs [ecells, nums, rowsHn, rowsC, rowsL, *])
    | (refine call_r (rows_q (at_s k ks wd ms L e hs hL) (fun σ => rfl) (fun σ => rfl) rfl 0 1 _ (by decide) (by simp) (by simp)) ⟨rfl, rfl, trivial⟩ ⟨rfl, rfl, trivial⟩ ?_; simp -implicitDefEqProofs [ecells, nums, rowsHn, rowsC, rowsL, *]))
  · simpa using h'
  · unfold addC; rw [if_neg h']
  · decide
  · unfold addC; rw [if_pos ‹_›, if_pos h']
  have hm0 : mayC k ks wd e = 0 := ‹_›
  have hat : ¬ 0 ≤ atI k L e := by omega
  obtain ⟨hse1, hse2, hse3⟩ := hse
  have hex : ∀ r : Int, (k = 3 ∧ L.any (fun a => meetN ks.toNat a e) = true → r = 8) → (¬ (k = 3 ∧ L.any (fun a => meetN ks.toNat a e) = true) → ms ≤ L.length → r = 10) → (¬ (k = 3 ∧ L.any (fun a => meetN ks.toNat a e) = true) → ¬ ms ≤ L.length → r = 0) → r = addC k ks wd ms L e := by
    intro r h1 h2 h3
    unfold addC
    rw [if_pos hm0, if_neg hat]
    split
    · exact h1 ‹_›
    · split
      · exact h2 ‹_› ‹_›
      · exact h3 ‹_› ‹_›
  replace hex := Lib.hid hex
  have finY : ∀ (r : Int) (a : Nat) x y nx, r = 0 → 0 = addC k ks wd ms L e → (a = 38 ∨ a = 43) → QFun X (Try.f37).results.toList 2 (.int .i64 (addC k ks wd ms L e)) (addH k ks wd ms L e) .ret ⟨[(4, .int .i64 r)], [(0, rowsC k ks wd ms a (L.length + 1)), (2, x), (a - 1, y), (a, .row 30 6 (L.map ecells ++ [ecells (keptE k e)]))], nx⟩ := by
    intro r a x y nx hr hc ha
    rw [addH_yes hc.symm, ← hc, hr]
    rcases ha with rfl | rfl
    · exact qfun_done (s' := ⟨[(4, .int .i64 0)], [(0, rowsC k ks wd ms 2 (L.length + 1)), (2, rowsL (L ++ [keptE k e]))], 3⟩) (wk_list [(0, 0), (1, 1), (2, 38)] hm rfl (by simp) (by simp -implicitDefEqProofs) (by simp -implicitDefEqProofs [rowsC, rowsL, ren_ecells])) rfl ⟨rfl, rfl, trivial⟩ (by simp)
    · exact qfun_done (s' := ⟨[(4, .int .i64 0)], [(0, rowsC k ks wd ms 2 (L.length + 1)), (2, rowsL (L ++ [keptE k e]))], 3⟩) (wk_list [(0, 0), (1, 1), (2, 43)] hm rfl (by simp) (by simp -implicitDefEqProofs) (by simp -implicitDefEqProofs [rowsC, rowsL, ren_ecells])) rfl ⟨rfl, rfl, trivial⟩ (by simp)
  have hno : ¬ k = 3 → ¬ (k = 3 ∧ L.any (fun a => meetN ks.toNat a e) = true) := fun h h2 => h h2.1
  have hno2 : ∀ i, L.length ≤ i → (k = 3 → ∀ j a, j < i → L[j]? = some a → meetN ks.toNat a e = false) → ¬ (k = 3 ∧ L.any (fun a => meetN ks.toNat a e) = true) := by
    rintro i hi h ⟨h3, h4⟩
    obtain ⟨a, ha, hb⟩ := List.any_eq_true.1 h4
    obtain ⟨j, hj⟩ := List.getElem?_of_mem ha
    rw [h h3 j a (by have := (List.getElem?_eq_some_iff.1 hj).1; omega) hj] at hb
    cases hb
  replace hno2 := Lib.hid hno2
  replace finY := Lib.hid finY
  refine swp_block (swp_loop (fun s n => ∃ i : Nat, s = ⟨[(0, .ptr 0 0), (3, .ptr 2 0), (6, .int .i64 i)], [(0, rowsC k ks wd ms 1 L.length), (1, rowsL L), (2, .cells 30 (ecells e))], 3⟩ ∧ i ≤ L.length ∧ (k = 3 → ∀ j a, j < i → L[j]? = some a → meetN ks.toNat a e = false) ∧ (0 < i → k = 3) ∧ n = L.length - i) (wk_list [(0, 0), (1, 1), (2, 2)] hm rfl (by simp) (by simp -implicitDefEqProofs) (by simp -implicitDefEqProofs [rowsC, rowsL, ecells, nums, rowsHn])) ⟨0, rfl, by omega, by intro _ j a hj; omega, by omega, rfl⟩ ?_)
  rintro s n ⟨i, rfl, h1, h2, h3, rfl⟩
  have ha1 : L.length + 1 ≤ maxLen := by simp [maxLen]; omega
  have ha2 : (L.length + 1) * 96 ≤ 140737488355328 := by omega
  unfold c_radd_l2
  repeat' (first
    | (with_reducible refine swp_seq ?_)
    | (with_reducible refine swp_reg ?_; (try rw [hP]); simp -implicitDefEqProofs [ecells, nums, rowsHn, rowsC, rowsL, *])
    | (with_reducible refine swp_regd (by rw [hP]; exact mixed) ?_; (try rw [hP]); simp -implicitDefEqProofs [ecells, nums, rowsHn, rowsC, rowsL, *])
    | (refine swp_skip ?_; (try simp -implicitDefEqProofs [ecells, nums, rowsHn, rowsC, rowsL, *]))
    | (refine swp_exit ?_; (try simp -implicitDefEqProofs [ecells, nums, rowsHn, rowsC, rowsL, *]))
    | (refine swp_ret ?_; (try simp only [qseq_r, qblock_r, qloop_r]))
    | (with_reducible refine swp_cond rfl (fun h => ?_) (fun h => ?_) <;> have h' := h <;> (try simp at h') <;> (try subst h'))
    | (with_reducible refine sopsg_cases (fun h => ?_) (fun h => ?_) <;> have h' := h <;> (try simp at h') <;> (try subst h') <;> simp -implicitDefEqProofs [ecells, nums, rowsHn, rowsC, rowsL, *])
    | (refine draw_ok rfl ?_)
    | (with_reducible refine sopsk_rg ?_ ?_; (first | omega | (unfold maxLen; omega)); simp -implicitDefEqProofs [ecells, nums, rowsHn, rowsC, rowsL, *])
    | (with_reducible refine swp_block1 ?_)
    | (refine fin _ _ _ ?_ ?_)
    | (refine call_r (rows_q (kept_s k ks wd ms L e ⟨hse1, hse2, hse3⟩) (fun σ => rfl) (fun σ => rfl) rfl 0 1 _ (by decide) (by simp) (by simp)) ⟨rfl, rfl, trivial⟩ ⟨rfl, rfl, trivial⟩ ?_; simp -implicitDefEqProofs [ecells, nums, rowsHn, rowsC, rowsL, *]))
  · obtain ⟨b1, b2⟩ := may3 hm0
    obtain ⟨_, b3, b4⟩ := hok rfl
    obtain rfl : ks = (e.keys.length : Int) := by omega
    obtain ⟨b5, b6⟩ := b4 L[i] (List.getElem_mem _)
    obtain ⟨a, hLa⟩ : ∃ a, L[i] = a := ⟨_, rfl⟩
    rw [hLa] at b5 b6 ⊢
    refine swp_block (swp_loop (fun s n => ∃ j : Nat, s = ⟨[(0, .ptr 0 0), (3, .ptr 2 0), (6, .int .i64 i), (7, .bool (meetN j a e)), (8, .int .i64 j)], [(0, rowsC 3 e.keys.length wd ms 1 L.length), (1, rowsL L), (2, .cells 30 (ecells e))], 3⟩ ∧ j ≤ e.keys.length ∧ n = e.keys.length - j) (wk_list [(0, 0), (1, 1), (2, 2)] hm rfl (by simp) (by simp -implicitDefEqProofs [meetN_zero]) (by simp -implicitDefEqProofs [rowsC, rowsL, ecells, nums, rowsHn])) ⟨0, rfl, by omega, rfl⟩ ?_)
    rintro s n ⟨j, rfl, c1, rfl⟩
    have g0 : j < e.keys.length → j < e.masks.length := fun h => by omega
    have g1 : j < e.keys.length → j < a.keys.length := fun h => by omega
    have g2 : j < e.keys.length → j < a.masks.length := fun h => by omega
    unfold c_radd_l1
    repeat' (first
      | (with_reducible refine swp_seq ?_)
      | (with_reducible refine swp_reg ?_; (try rw [hP]); simp -implicitDefEqProofs [ecells, nums, rowsHn, rowsC, rowsL, *])
      | (with_reducible refine swp_regd (by rw [hP]; exact mixed) ?_; (try rw [hP]); simp -implicitDefEqProofs [ecells, nums, rowsHn, rowsC, rowsL, *])
      | (refine swp_skip ?_; (try simp -implicitDefEqProofs [ecells, nums, rowsHn, rowsC, rowsL, *]))
      | (refine swp_exit ?_; (try simp -implicitDefEqProofs [ecells, nums, rowsHn, rowsC, rowsL, *]))
      | (refine swp_ret ?_; (try simp only [qseq_r, qblock_r, qloop_r]))
      | (with_reducible refine swp_cond rfl (fun h => ?_) (fun h => ?_) <;> have h' := h <;> (try simp at h') <;> (try subst h'))
      | (with_reducible refine sopsg_cases (fun h => ?_) (fun h => ?_) <;> have h' := h <;> (try simp at h') <;> (try subst h') <;> simp -implicitDefEqProofs [ecells, nums, rowsHn, rowsC, rowsL, *])
      | (refine draw_ok rfl ?_)
      | (with_reducible refine sopsk_rg ?_ ?_; (first | omega | (unfold maxLen; omega)); simp -implicitDefEqProofs [ecells, nums, rowsHn, rowsC, rowsL, *])
      | (with_reducible refine swp_block1 ?_))
    · rw [i64_add_ (by omega) (by omega)]
      have hq : meetN (j + 1) a e = false := by
        rw [meetN_succ]; unfold meetC
        rw [el_lt _ _ ‹j < e.keys.length›, el_lt _ _ (g0 ‹_›), el_lt _ _ (g1 ‹_›), el_lt _ _ (g2 ‹_›), beq_eq_false_iff_ne.2 (by simpa using h)]
        simp
      exact qloop_next (wk_list [(0, 0), (1, 1), (2, 2)] hm rfl (by simp) (by simp -implicitDefEqProofs [hq]) (by simp -implicitDefEqProofs [rowsC, rowsL, ecells, nums])) ⟨j + 1, rfl, by omega, rfl⟩ (by omega)
    · rw [i64_add_ (by omega) (by omega)]
      have hq : meetN (j + 1) a e = meetN j a e := by
        rw [meetN_succ]; unfold meetC
        rw [el_lt _ _ ‹j < e.keys.length›, el_lt _ _ (g0 ‹_›), el_lt _ _ (g1 ‹_›), el_lt _ _ (g2 ‹_›), beq_iff_eq.2 (by simpa using h)]
        simp
      exact qloop_next (wk_list [(0, 0), (1, 1), (2, 2)] hm rfl (by simp) (by simp -implicitDefEqProofs [hq]) (by simp -implicitDefEqProofs [rowsC, rowsL, ecells, nums])) ⟨j + 1, rfl, by omega, rfl⟩ (by omega)
    · obtain rfl : j = e.keys.length := by omega
      have hany : (3 : Int) = 3 ∧ L.any (fun a => meetN (e.keys.length : Int).toNat a e) = true := ⟨rfl, List.any_eq_true.2 ⟨a, by rw [← hLa]; exact List.getElem_mem _, by simpa using h⟩⟩
      exact fin _ _ _ (by decide) (hex.out _ (fun _ => rfl) (fun h => absurd hany h) (fun h => absurd hany h))
    · obtain rfl : j = e.keys.length := by omega
      rw [i64_add_ (by omega) (by omega)]
      refine qloop_next (wk_list [(0, 0), (1, 1), (2, 2)] hm rfl (by simp) (by simp -implicitDefEqProofs) (by simp -implicitDefEqProofs [rowsC, rowsL, ecells, nums])) ⟨i + 1, rfl, by omega, ?_, rfl⟩ (by omega)
      exact all_succ ‹i < L.length› (h2 rfl) (by rw [hLa]; simpa using h)
  · decide
  · exact hex.out _ (fun h => absurd h (hno ‹_›)) (fun _ _ => rfl) (fun _ h => absurd ‹_› h)
  · exact finY.out _ 43 _ _ _ rfl (hex.out _ (fun h => absurd h (hno ‹_›)) (fun _ h => by omega) (fun _ _ => rfl)) (.inr rfl)
  · decide
  · exact hex.out _ (fun h => absurd h (hno2.out _ (by omega) h2)) (fun _ _ => rfl) (fun _ h => absurd ‹_› h)
  · exact finY.out _ 38 _ _ _ rfl (hex.out _ (fun h => absurd h (hno2.out _ (by omega) h2)) (fun _ h => by omega) (fun _ _ => rfl)) (.inl rfl)
end Go.Proofs.Ytfakdapglbgokaa

/-
  The reference's tables, in the plain machine: Change, Drop. No condition.
-/
namespace Go.Proofs.Ytfakdapglbgokaa
set_option linter.all false
open Go.RowKit
attribute [local simp] sops_nil sops_run sopsk_some sops_call sops_guard sopsg_yes sopsg_tf sopsg_ft sopsg_undef rg_true SOp.run SX.ev putd puts argS upds SOp.touch SSt.keep SSt.skip gets geth puth delh idOf SV.cells? setL fillS fillR sbin eq0 eq1 eqL rowOf qseq_n qseq_e qseq_r qblock_n qblock_r qblock_e qloop_e qloop_r take_map_len FrzOk pureV_int pureV_bool pureV_str pureV_nil pureV_nilsl pureV_view pureV_cp pureL_nil_ pureL_cons_ pureO_row pureO_cells frzS frzH frz frz1 frz0 SlotsM ObjsM ObjM rn ren ren1 ren0 co_self co_int co_own co_view co_nilsl co_agg co_tup CoL coll_self mergeH dels adds idsH okNames ren_ents ren_ents2 ren_nums ren_ecells
def chgC (k ks wd : Int) (L : List Entry) (e : Entry) : Int := if mayC k ks wd e = 0 then (if 0 ≤ atI k L e then 0 else 9) else mayC k ks wd e
def chgL (k ks wd : Int) (L : List Entry) (e : Entry) : List Entry := if chgC k ks wd L e = 0 then L.set (atN k L e) (keptE k e) else L
theorem atI_cases (k : Int) (L : List Entry) (e : Entry) : (atI k L e = atN k L e ∧ atN k L e < L.length) ∨ atI k L e = -1 := by
  unfold atI
  split
  · exact .inl ⟨rfl, ‹_›⟩
  · exact .inr rfl
theorem rowsH_set {k ks wd ms : Int} {L L' : List Entry} (h : L'.length = L.length) : rowsH k ks wd ms L' = [(0, rowsC k ks wd ms 1 L.length), (1, rowsL L')] := by unfold rowsH; rw [h]
theorem chgL_len (k ks wd : Int) (L : List Entry) (e : Entry) : (chgL k ks wd L e).length = L.length := by unfold chgL; split <;> simp
theorem rchg_s (k ks wd ms : Int) (L : List Entry) (e : Entry) (hs : ∀ a ∈ L, Small a) (hse : Small e) (hL : L.length ≤ 1000000) : SCalls Try.prog 39 [.ptr 0 0, .agg (ecells e)] (rowsH k ks wd ms L) 2 (.int .i64 (chgC k ks wd L e)) (rowsH k ks wd ms (chgL k ks wd L e)) := by
  refine scalls_of (N := 27) Try.func39 rfl rfl (by kernel_rfl) comp_c_rchg (by simp) ⟨rfl, rfl, trivial⟩ (rowsH_lt _ _ _ _ _) ?_
  rintro X hP hN hm
  rw [rowsH_set (chgL_len k ks wd L e)]
  generalize hL2 : chgL k ks wd L e = L2
  generalize hr : chgC k ks wd L e = r
  have fin : ∀ (c : Int) es hp nx, c = r → es = L2.map ecells → QFun X (Try.f39).results.toList 2 (.int .i64 r) [(0, rowsC k ks wd ms 1 L.length), (1, rowsL L2)] .ret ⟨[(4, .int .i64 c)], (0, rowsC k ks wd ms 1 L.length) :: (1, .row 30 6 es) :: hp, nx⟩ := fun c es hp nx hc he => by
    rw [hc, he]
    exact (qfun_done (s' := ⟨[(4, .int .i64 r)], [(0, rowsC k ks wd ms 1 L.length), (1, rowsL L2)], 2⟩) (wk_list [(0, 0), (1, 1)] hm rfl (Nat.le_refl _) (by simp -implicitDefEqProofs) (by simp -implicitDefEqProofs [rowsC, rowsL])) rfl ⟨rfl, rfl, trivial⟩ (by simp))
  have hat : 0 ≤ atI k L e → atI k L e = atN k L e := fun h => by rcases atI_cases k L e with h2 | h2 <;> omega
  have hat2 : 0 ≤ atI k L e → atN k L e < L.length := fun h => by rcases atI_cases k L e with h2 | h2 <;> omega
  unfold c_rchg rowsH rowsC rowsL
  repeat' (first
    | (with_reducible refine swp_seq ?_)
    | (with_reducible refine swp_reg ?_; (try rw [hP]); simp -implicitDefEqProofs [ecells, nums, rowsHn, rowsC, rowsL, *])
    | (with_reducible refine swp_regd (by rw [hP]; exact mixed) ?_; (try rw [hP]); simp -implicitDefEqProofs [ecells, nums, rowsHn, rowsC, rowsL, *])
    | (refine swp_skip ?_; (try simp -implicitDefEqProofs [ecells, nums, rowsHn, rowsC, rowsL, *]))
    | (refine swp_exit ?_; (try simp -implicitDefEqProofs [ecells, nums, rowsHn, rowsC, rowsL, *]))
    | (refine swp_ret ?_; (try simp only [qseq_r, qblock_r, qloop_r]))
    | (with_reducible refine swp_cond rfl (fun h => ?_) (fun h => ?_) <;> have h' := h <;> (try simp at h') <;> (try subst h'))
    | (with_reducible refine sopsg_cases (fun h => ?_) (fun h => ?_) <;> have h' := h <;> (try simp at h') <;> (try subst h') <;> simp -implicitDefEqProofs [ecells, nums, rowsHn, rowsC, rowsL, *])
    | (refine draw_ok rfl ?_)
    | (with_reducible refine sopsk_rg ?_ ?_; (first | omega | (unfold maxLen; omega)); simp -implicitDefEqProofs [ecells, nums, rowsHn, rowsC, rowsL, *])
    | (with_reducible refine swp_block1 ?_)
    | (refine fin _ _ _ _ ?_ ?_)
    | (refine call_r (rows_q (may_s k ks wd ms L e hse) (fun σ => rfl) (fun σ => rfl) rfl 0 1 _ (by decide) (by simp) (by simp)) ⟨rfl, rfl, trivial⟩ ⟨rfl, rfl, trivial⟩ ?_; simp -implicitDefEqProofs [ecells, nums, rowsHn, rowsC, rowsL, *])
    | (refine call_r (rows_q (at_s k ks wd ms L e hs hL) (fun σ => rfl) (fun σ => rfl) rfl 0 1 _ (by decide) (by simp) (by simp)) ⟨rfl, rfl, trivial⟩ ⟨rfl, rfl, trivial⟩ ?_; simp -implicitDefEqProofs [ecells, nums, rowsHn, rowsC, rowsL, *])
    | (refine call_r (rows_q (kept_s k ks wd ms L e hse) (fun σ => rfl) (fun σ => rfl) rfl 0 1 _ (by decide) (by simp) (by simp)) ⟨rfl, rfl, trivial⟩ ⟨rfl, rfl, trivial⟩ ?_; simp -implicitDefEqProofs [ecells, nums, rowsHn, rowsC, rowsL, *]))
  · rw [← hr]; unfold chgC; rw [if_neg h']
  · rw [← hL2]; unfold chgL; rw [if_neg (by unfold chgC; rw [if_neg h']; exact h')]
  · rw [← hr]; unfold chgC; rw [if_pos ‹_›, if_neg (by omega)]
  · rw [← hL2]; unfold chgL; rw [if_neg (by unfold chgC; rw [if_pos ‹_›, if_neg (by omega)]; decide)]
  · rw [← hr]; unfold chgC; rw [if_pos ‹_›, if_pos h']
  · rw [← hL2]; unfold chgL; rw [if_pos (by unfold chgC; rw [if_pos ‹_›, if_pos h']), List.map_set]; rfl
def dropC (k ks wd : Int) (L : List Entry) (e : Entry) : Int := if mayC k ks wd e = 0 then (if 0 ≤ atI k L e then 0 else 9) else mayC k ks wd e
def dropL (k ks wd : Int) (L : List Entry) (e : Entry) : List Entry := if dropC k ks wd L e = 0 then L.take (atN k L e) ++ L.drop (atN k L e + 1) else L
def dropH (k ks wd ms : Int) (L : List Entry) (e : Entry) : Hp := if dropC k ks wd L e = 0 then [(0, rowsC k ks wd ms 2 (dropL k ks wd L e).length), (2, rowsL (dropL k ks wd L e))] else rowsH k ks wd ms L
theorem pure_ecells (e : Entry) : PureL (ecells e) := by unfold ecells nums; simp
theorem rdrop_s (k ks wd ms : Int) (L : List Entry) (e : Entry) (hs : ∀ a ∈ L, Small a) (hse : Small e) (hL : L.length ≤ 1000000) : SCalls Try.prog 40 [.ptr 0 0, .agg (ecells e)] (rowsH k ks wd ms L) 2 (.int .i64 (dropC k ks wd L e)) (dropH k ks wd ms L e) := by
  refine scalls_of (N := 38) Try.func40 rfl rfl (by kernel_rfl) comp_c_rdrop (by simp) ⟨rfl, rfl, trivial⟩ (rowsH_lt _ _ _ _ _) ?_
  rintro X hP hN hm
  have fin : ∀ (r : Int) hp nx, r ≠ 0 → r = dropC k ks wd L e → QFun X (Try.f40).results.toList 2 (.int .i64 (dropC k ks wd L e)) (dropH k ks wd ms L e) .ret ⟨[(4, .int .i64 r)], (0, rowsC k ks wd ms 1 L.length) :: (1, rowsL L) :: hp, nx⟩ := fun r hp nx h0 hr => by
    rw [show dropH k ks wd ms L e = rowsH k ks wd ms L from if_neg (by rw [← hr]; exact h0), ← hr]
    exact (qfun_done (s' := ⟨[(4, .int .i64 r)], rowsH k ks wd ms L, 2⟩) (wk_list [(0, 0), (1, 1)] hm rfl (Nat.le_refl _) (by simp -implicitDefEqProofs []) (by simp -implicitDefEqProofs [rowsH, rowsC, rowsL])) rfl ⟨rfl, rfl, trivial⟩ (by simp))
  have hat : 0 ≤ atI k L e → atI k L e = atN k L e := fun h => by rcases atI_cases k L e with h2 | h2 <;> omega
  have hat2 : 0 ≤ atI k L e → atN k L e < L.length := fun h => by rcases atI_cases k L e with h2 | h2 <;> omega
  have hat3 : 0 ≤ atI k L e → atN k L e ≤ L.length := fun h => by have := hat2 h; omega
  have hw : 0 ≤ atI k L e → IntKind.i64.wrap ((atN k L e : Int) + 1) = ((atN k L e + 1 : Nat) : Int) := fun h => by have := hat2 h; rw [i64_add_ (by omega) (by omega)]; omega
  have hm1 : maxLen = 9223372036854775807 ∨ 1000000 < maxLen := by right; decide
  have hb1 : 0 ≤ atI k L e → atN k L e ≤ maxLen := fun h => by have := hat2 h; omega
  have hb2 : 0 ≤ atI k L e → atN k L e * 96 ≤ 140737488355328 := fun h => by have := hat2 h; omega
  have hb3 : 0 ≤ atI k L e → atN k L e + (L.length - (atN k L e + 1)) ≤ maxLen := fun h => by have := hat2 h; omega
  have hb4 : 0 ≤ atI k L e → (atN k L e + (L.length - (atN k L e + 1))) * 96 ≤ 140737488355328 := fun h => by have := hat2 h; omega
  have hb5 : 0 ≤ atI k L e → atN k L e + 1 ≤ L.length := fun h => by have := hat2 h; omega
  clear hm1
  unfold c_rdrop rowsH rowsC rowsL
  repeat' (first
    | ((refine swp_frz (c := .reg true c_rdrop_r9 []) [1] (by simp -implicitDefEqProofs [pure_ecells]) (swp_regd (by rw [hP]; exact mixed) ?_); simp -implicitDefEqProofs [ecells, nums, rowsHn, rowsC, rowsL, *]))
    | (with_reducible refine swp_seq ?_)
    | (with_reducible refine swp_reg ?_; (try rw [hP]); simp -implicitDefEqProofs [ecells, nums, rowsHn, rowsC, rowsL, *])
    | (with_reducible refine swp_regd (by rw [hP]; exact mixed) ?_; (try rw [hP]); simp -implicitDefEqProofs [ecells, nums, rowsHn, rowsC, rowsL, *])
    | (refine swp_skip ?_; (try simp -implicitDefEqProofs [ecells, nums, rowsHn, rowsC, rowsL, *]))
    | (refine swp_exit ?_; (try simp -implicitDefEqProofs [ecells, nums, rowsHn, rowsC, rowsL, *]))
    | (refine swp_ret ?_; (try simp only [qseq_r, qblock_r, qloop_r]))
    | (with_reducible refine swp_cond rfl (fun h => ?_) (fun h => ?_) <;> have h' := h <;> (try simp at h') <;> (try subst h'))
    | (with_reducible refine sopsg_cases (fun h => ?_) (fun h => ?_) <;> have h' := h <;> (try simp at h') <;> (try subst h') <;> simp -implicitDefEqProofs [ecells, nums, rowsHn, rowsC, rowsL, *])
    | (refine draw_ok rfl ?_)
    | (with_reducible refine sopsk_rg ?_ ?_; (first | omega | (unfold maxLen; omega)); simp -implicitDefEqProofs [ecells, nums, rowsHn, rowsC, rowsL, *])
    | (with_reducible refine swp_block1 ?_)
    | (refine fin _ _ _ ?_ ?_)
    | (refine call_r (rows_q (may_s k ks wd ms L e hse) (fun σ => rfl) (fun σ => rfl) rfl 0 1 _ (by decide) (by simp) (by simp)) ⟨rfl, rfl, trivial⟩ ⟨rfl, rfl, trivial⟩ ?_; simp -implicitDefEqProofs [ecells, nums, rowsHn, rowsC, rowsL, *])
    | (refine call_r (rows_q (at_s k ks wd ms L e hs hL) (fun σ => rfl) (fun σ => rfl) rfl 0 1 _ (by decide) (by simp) (by simp)) ⟨rfl, rfl, trivial⟩ ⟨rfl, rfl, trivial⟩ ?_; simp -implicitDefEqProofs [ecells, nums, rowsHn, rowsC, rowsL, *]))
  · exact h'
  · unfold dropC; rw [if_neg h']
  · decide
  · unfold dropC; rw [if_pos ‹_›, if_neg (by omega)]
  · have hc : dropC k ks wd L e = 0 := by unfold dropC; rw [if_pos ‹_›, if_pos h']
    have hl : dropL k ks wd L e = L.take (atN k L e) ++ L.drop (atN k L e + 1) := by unfold dropL; rw [if_pos hc]
    have hn : (dropL k ks wd L e).length = atN k L e + (L.length - (atN k L e + 1)) := by rw [hl]; simp; have := hat2 h'; omega
    rw [show dropH k ks wd ms L e = [(0, rowsC k ks wd ms 2 (dropL k ks wd L e).length), (2, rowsL (dropL k ks wd L e))] from if_pos hc, hc, hn, hl]
    exact qfun_done (s' := ⟨[(4, .int .i64 0)], [(0, rowsC k ks wd ms 2 (atN k L e + (L.length - (atN k L e + 1)))), (2, rowsL (L.take (atN k L e) ++ L.drop (atN k L e + 1)))], 3⟩) (wk_list [(0, 0), (1, 1), (2, 47)] hm rfl (by simp) (by simp -implicitDefEqProofs) (by simp -implicitDefEqProofs [rowsC, rowsL, List.map_take, List.map_drop])) rfl ⟨rfl, rfl, trivial⟩ (by simp)
end Go.Proofs.Ytfakdapglbgokaa

/-
  The reference's tables, in the plain machine: Find. No condition.
-/
namespace Go.Proofs.Ytfakdapglbgokaa
set_option linter.all false
open Go.RowKit
attribute [local simp] sops_nil sops_run sopsk_some sops_call sops_guard sopsg_yes sopsg_tf sopsg_ft sopsg_undef rg_true SOp.run SX.ev putd puts argS upds SOp.touch SSt.keep SSt.skip gets geth puth delh idOf SV.cells? setL fillS fillR sbin eq0 eq1 eqL rowOf qseq_n qseq_e qseq_r qblock_n qblock_r qblock_e qloop_e qloop_r take_map_len FrzOk pureV_int pureV_bool pureV_str pureV_nil pureV_nilsl pureV_view pureV_cp pureL_nil_ pureL_cons_ pureO_row pureO_cells frzS frzH frz frz1 frz0 SlotsM ObjsM ObjM rn ren ren1 ren0 co_self co_int co_own co_view co_nilsl co_agg co_tup CoL coll_self mergeH dels adds idsH okNames ren_ents ren_ents2 ren_nums ren_ecells
/-- Is an entry better than the best one up to now? -/
def betterB (a : Entry) (L : List Entry) (b : Int) : Bool := decide (b < 0) || match L[b.toNat]? with
  | some c => decide (a.len > c.len) || decide (a.prio < c.prio)
  | none => false
def stepB (k wd : Int) (L : List Entry) (xs : List Int) (i : Nat) (b : Int) : Int := match L[i]? with
  | some a => if fitsB k wd a xs && betterB a L b then (i : Int) else b
  | none => b
/-- Which entry is the best of the first i that keys fit. -/
def bestN (k wd : Int) (L : List Entry) (xs : List Int) : Nat → Int
  | 0 => -1
  | i + 1 => stepB k wd L xs i (bestN k wd L xs i)
def findOk (k ks wd : Int) (xs : List Int) : Bool := decide ((xs.length : Int) = ks) && !(k == 2 && (decide (wd < 1) || (decide (64 < wd) || wideI (el xs 0) wd)))
def findI (k ks wd : Int) (L : List Entry) (xs : List Int) : Int := if findOk k ks wd xs then bestN k wd L xs L.length else -1
def findR (k ks wd : Int) (L : List Entry) (xs : List Int) : Option Entry := if 0 ≤ findI k ks wd L xs then L[(findI k ks wd L xs).toNat]? else none
def rfindV (o : Option Entry) : SV := match o with
  | none => .tup [.agg (hcells 0 []), .int .i64 0, .bool false]
  | some e => .tup [.agg (hcells e.act e.args), .int .i64 e.len, .bool true]
theorem stepB_at {k wd : Int} {L : List Entry} {xs : List Int} {i : Nat} {b : Int} (hi : i < L.length) : stepB k wd L xs i b = if fitsB k wd L[i] xs && betterB L[i] L b then (i : Int) else b := by
  unfold stepB; rw [List.getElem?_eq_getElem hi]
theorem bestN_range (k wd : Int) (L : List Entry) (xs : List Int) : ∀ i, i ≤ L.length → bestN k wd L xs i = -1 ∨ ∃ j : Nat, bestN k wd L xs i = j ∧ j < i
  | 0, _ => .inl rfl
  | i + 1, h => by
    have ih := bestN_range k wd L xs i (by omega)
    show stepB k wd L xs i (bestN k wd L xs i) = -1 ∨ ∃ j : Nat, stepB k wd L xs i (bestN k wd L xs i) = j ∧ j < i + 1
    rw [stepB_at (by omega)]
    generalize bestN k wd L xs i = b at *
    split
    · exact .inr ⟨i, rfl, by omega⟩
    · rcases ih with h1 | ⟨j, h1, h2⟩
      · exact .inl h1
      · exact .inr ⟨j, h1, by omega⟩
def c_rfind_t : SCode := (.seq (.reg false c_rfind_r4 [0, 1, 4, 7]) (.seq (.seq (.reg false c_rfind_r5 [0, 1, 4, 7, 8]) (.block 0 (.loop c_rfind_l1))) (.seq (.seq (.reg false c_rfind_r10 [0, 4, 7, 112]) (.cond (.t 112) (.seq (.reg false c_rfind_r11 [4, 5, 6]) .ret) .skip)) (.seq (.reg false c_rfind_r12 [4, 9]) (.seq (.reg true c_rfind_r13 [4, 5, 6]) .ret)))))
theorem rfind_fin (X : Cx) (hP : X.P = Try.prog) (hm : X.m = 2) (k ks wd ms : Int) (L : List Entry) (a : Int) (l : List Int) (n : Int) (b : Bool) (cs : List SV) (hp : Hp) (nx : Nat) (hc : CoL cs (hcells a l)) :
    QFun X (Try.f41).results.toList 2 (.tup [.agg (hcells a l), .int .i64 n, .bool b]) (rowsH k ks wd ms L) .ret ⟨[(4, .ptr 2 0), (5, .int .i64 n), (6, .bool b)], (0, rowsC k ks wd ms 1 L.length) :: (1, rowsL L) :: (2, .cells 37 cs) :: hp, nx⟩ :=
  qfun_done (s' := ⟨[(4, .ptr 2 0), (5, .int .i64 n), (6, .bool b)], [(0, rowsC k ks wd ms 1 L.length), (1, rowsL L), (2, .cells 37 (hcells a l))], 3⟩) (wk_list [(0, 0), (1, 1), (2, 2)] hm rfl (by simp) (by simp -implicitDefEqProofs) (by simp -implicitDefEqProofs [rowsC, rowsL]; exact hc)) (by simp -implicitDefEqProofs [hP, resOf, resL, resV, show aggOf Try.prog 37 = some true from by kernel_rfl, show sizeOf_ Try.prog 37 = some 2 from by kernel_rfl, one_, hcells, nums]) ⟨rfl, rfl, trivial⟩ (by simp)
theorem rfind_tail (X : Cx) (hP : X.P = Try.prog) (hm : X.m = 2) (k ks wd ms : Int) (L : List Entry) (xs : List Int) (hs : ∀ a ∈ L, Small a) (hL : L.length ≤ 1000000) (hok : ∀ a ∈ L, FitsOk k a xs) (hf : findOk k ks wd xs = true) (tl : Sl) (nx : Nat) :
    SWp X c_rfind_t (QFun X (Try.f41).results.toList 2 (rfindV (findR k ks wd L xs)) (rowsH k ks wd ms L)) ⟨(0, .ptr 0 0) :: (1, nums .u64 xs) :: (4, .ptr 2 0) :: tl, [(0, rowsC k ks wd ms 1 L.length), (1, rowsL L), (2, .cells 37 [.int .i64 0, .nilsl])], nx⟩ := by
  have hI : findI k ks wd L xs = bestN k wd L xs L.length := if_pos hf
  have hnil : CoL [.int .i64 0, .nilsl] (hcells 0 []) := ⟨.refl _, Co.nilsl 1, trivial⟩
  unfold c_rfind_t
  repeat' (first
    | (with_reducible refine swp_seq ?_)
    | (with_reducible refine swp_reg ?_; (try rw [hP]); simp -implicitDefEqProofs [nums, rowsC, rowsL, *])
    | (with_reducible refine swp_regd (by rw [hP]; exact mixed) ?_; (try rw [hP]); simp -implicitDefEqProofs [nums, rowsC, rowsL, *])
    | (refine swp_skip ?_; (try simp -implicitDefEqProofs [nums, rowsC, rowsL, *]))
    | (refine swp_exit ?_; (try simp -implicitDefEqProofs [nums, rowsC, rowsL, *]))
    | (refine swp_ret ?_; (try simp only [qseq_r, qblock_r, qloop_r]))
    | (with_reducible refine swp_cond rfl (fun h => ?_) (fun h => ?_) <;> have h' := h <;> (try simp at h') <;> (try subst h'))
    | (with_reducible refine sopsg_cases (fun h => ?_) (fun h => ?_) <;> have h' := h <;> (try simp at h') <;> (try subst h') <;> simp -implicitDefEqProofs [nums, rowsC, rowsL, *])
    | (refine draw_ok rfl ?_)
    | (with_reducible refine sopsk_rg ?_ ?_; (first | omega | (unfold maxLen; omega)); simp -implicitDefEqProofs [nums, rowsC, rowsL, *])
    | (with_reducible refine swp_block1 ?_))
  refine swp_block (swp_loop (fun s n => ∃ (i : Nat) (b : Int), s = ⟨[(0, .ptr 0 0), (1, nums .u64 xs), (4, .ptr 2 0), (7, .int .i64 b), (8, .int .i64 i)], [(0, rowsC k ks wd ms 1 L.length), (1, rowsL L), (2, .cells 37 [.int .i64 0, .nilsl])], 3⟩ ∧ i ≤ L.length ∧ b = bestN k wd L xs i ∧ n = L.length - i) (wk_list [(0, 0), (1, 1), (2, 2)] hm rfl (by simp) (by simp -implicitDefEqProofs [nums]) (by simp -implicitDefEqProofs [rowsC, rowsL])) ⟨0, -1, rfl, by omega, rfl, rfl⟩ ?_)
  rintro s n ⟨i, b, rfl, h1, hb0, rfl⟩
  have hb := bestN_range k wd L xs i h1
  rw [← hb0] at hb
  unfold c_rfind_l1
  rcases Nat.lt_or_ge i L.length with hi | hi
  · have hsu : bestN k wd L xs (i + 1) = if fitsB k wd L[i] xs && betterB L[i] L b then (i : Int) else b := by
      rw [← stepB_at hi, hb0]; rfl
    replace hsu := Lib.hid hsu
    replace hb0 := Lib.hid hb0
    rcases hb with rfl | ⟨j, rfl, hj⟩
    ·
      repeat' (first
        | (with_reducible refine swp_seq ?_)
        | (with_reducible refine swp_reg ?_; (try rw [hP]); simp -implicitDefEqProofs [ecells, nums, rowsHn, rowsC, rowsL, *])
        | (with_reducible refine swp_regd (by rw [hP]; exact mixed) ?_; (try rw [hP]); simp -implicitDefEqProofs [ecells, nums, rowsHn, rowsC, rowsL, *])
        | (refine swp_skip ?_; (try simp -implicitDefEqProofs [ecells, nums, rowsHn, rowsC, rowsL, *]))
        | (refine swp_exit ?_; (try simp -implicitDefEqProofs [ecells, nums, rowsHn, rowsC, rowsL, *]))
        | (refine swp_ret ?_; (try simp only [qseq_r, qblock_r, qloop_r]))
        | (with_reducible refine swp_cond rfl (fun h => ?_) (fun h => ?_) <;> have h' := h <;> (try simp at h') <;> (try subst h'))
        | (with_reducible refine sopsg_cases (fun h => ?_) (fun h => ?_) <;> have h' := h <;> (try simp at h') <;> (try subst h') <;> simp -implicitDefEqProofs [ecells, nums, rowsHn, rowsC, rowsL, *])
        | (refine draw_ok rfl ?_)
        | (with_reducible refine sopsk_rg ?_ ?_; (first | omega | (unfold maxLen; omega)); simp -implicitDefEqProofs [ecells, nums, rowsHn, rowsC, rowsL, *])
        | (with_reducible refine swp_block1 ?_)
        | (refine call_r (rows_q (fits_s k ks wd ms L _ _ (hs _ (by simp)) (hok _ (by simp))) (fun σ => rfl) (fun σ => rfl) rfl 0 1 _ (by decide) (by simp) (by simp)) ⟨rfl, rfl, trivial⟩ ⟨rfl, rfl, trivial⟩ ?_; simp -implicitDefEqProofs [ecells, nums, rowsHn, rowsC, rowsL, *])
        | ((rw [i64_add_ (by omega) (by omega)]; refine qloop_next (wk_list [(0, 0), (1, 1), (2, 2)] hm rfl (by simp) ?_ ?_) ⟨i + 1, i, rfl, by omega, ?_, rfl⟩ (by omega); (focus (simp -implicitDefEqProofs; done)); (focus (simp -implicitDefEqProofs [rowsC, rowsL]; done))))
        | ((rw [i64_add_ (by omega) (by omega)]; refine qloop_next (wk_list [(0, 0), (1, 1), (2, 2)] hm rfl (by simp) ?_ ?_) ⟨i + 1, -1, rfl, by omega, ?_, rfl⟩ (by omega); (focus (simp -implicitDefEqProofs; done)); (focus (simp -implicitDefEqProofs [rowsC, rowsL]; done)))))
      all_goals (rw [hsu.out]; unfold betterB; (try simp_all) <;> omega)
    · have hjL : j < L.length := by omega
      have hj0 : ¬ ((j : Int) < 0) := by omega
      repeat' (first
        | (with_reducible refine swp_seq ?_)
        | (with_reducible refine swp_reg ?_; (try rw [hP]); simp -implicitDefEqProofs [ecells, nums, rowsHn, rowsC, rowsL, *])
        | (with_reducible refine swp_regd (by rw [hP]; exact mixed) ?_; (try rw [hP]); simp -implicitDefEqProofs [ecells, nums, rowsHn, rowsC, rowsL, *])
        | (refine swp_skip ?_; (try simp -implicitDefEqProofs [ecells, nums, rowsHn, rowsC, rowsL, *]))
        | (refine swp_exit ?_; (try simp -implicitDefEqProofs [ecells, nums, rowsHn, rowsC, rowsL, *]))
        | (refine swp_ret ?_; (try simp only [qseq_r, qblock_r, qloop_r]))
        | (with_reducible refine swp_cond rfl (fun h => ?_) (fun h => ?_) <;> have h' := h <;> (try simp at h') <;> (try subst h'))
        | (with_reducible refine sopsg_cases (fun h => ?_) (fun h => ?_) <;> have h' := h <;> (try simp at h') <;> (try subst h') <;> simp -implicitDefEqProofs [ecells, nums, rowsHn, rowsC, rowsL, *])
        | (refine draw_ok rfl ?_)
        | (with_reducible refine sopsk_rg ?_ ?_; (first | omega | (unfold maxLen; omega)); simp -implicitDefEqProofs [ecells, nums, rowsHn, rowsC, rowsL, *])
        | (with_reducible refine swp_block1 ?_)
        | (refine call_r (rows_q (fits_s k ks wd ms L _ _ (hs _ (by simp)) (hok _ (by simp))) (fun σ => rfl) (fun σ => rfl) rfl 0 1 _ (by decide) (by simp) (by simp)) ⟨rfl, rfl, trivial⟩ ⟨rfl, rfl, trivial⟩ ?_; simp -implicitDefEqProofs [ecells, nums, rowsHn, rowsC, rowsL, *])
        | ((rw [i64_add_ (by omega) (by omega)]; refine qloop_next (wk_list [(0, 0), (1, 1), (2, 2)] hm rfl (by simp) ?_ ?_) ⟨i + 1, i, rfl, by omega, ?_, rfl⟩ (by omega); (focus (simp -implicitDefEqProofs; done)); (focus (simp -implicitDefEqProofs [rowsC, rowsL]; done))))
        | ((rw [i64_add_ (by omega) (by omega)]; refine qloop_next (wk_list [(0, 0), (1, 1), (2, 2)] hm rfl (by simp) ?_ ?_) ⟨i + 1, j, rfl, by omega, ?_, rfl⟩ (by omega); (focus (simp -implicitDefEqProofs; done)); (focus (simp -implicitDefEqProofs [rowsC, rowsL]; done)))))
      all_goals (rw [hsu.out]; unfold betterB; (try simp_all) <;> omega)
  · obtain rfl : i = L.length := by omega
    rcases hb with rfl | ⟨j, rfl, hj⟩
    · have hR : findR k ks wd L xs = none := by unfold findR; rw [hI, ← hb0]; rfl
      rw [hR]
      replace hb0 := Lib.hid hb0
      repeat' (first
        | (with_reducible refine swp_seq ?_)
        | (with_reducible refine swp_reg ?_; (try rw [hP]); simp -implicitDefEqProofs [ecells, nums, rowsHn, rowsC, rowsL, *])
        | (with_reducible refine swp_regd (by rw [hP]; exact mixed) ?_; (try rw [hP]); simp -implicitDefEqProofs [ecells, nums, rowsHn, rowsC, rowsL, *])
        | (refine swp_skip ?_; (try simp -implicitDefEqProofs [ecells, nums, rowsHn, rowsC, rowsL, *]))
        | (refine swp_exit ?_; (try simp -implicitDefEqProofs [ecells, nums, rowsHn, rowsC, rowsL, *]))
        | (refine swp_ret ?_; (try simp only [qseq_r, qblock_r, qloop_r]))
        | (with_reducible refine swp_cond rfl (fun h => ?_) (fun h => ?_) <;> have h' := h <;> (try simp at h') <;> (try subst h'))
        | (with_reducible refine sopsg_cases (fun h => ?_) (fun h => ?_) <;> have h' := h <;> (try simp at h') <;> (try subst h') <;> simp -implicitDefEqProofs [ecells, nums, rowsHn, rowsC, rowsL, *])
        | (refine draw_ok rfl ?_)
        | (with_reducible refine sopsk_rg ?_ ?_; (first | omega | (unfold maxLen; omega)); simp -implicitDefEqProofs [ecells, nums, rowsHn, rowsC, rowsL, *])
        | (with_reducible refine swp_block1 ?_)
        | (exact rfind_fin X hP hm k ks wd ms L 0 [] 0 false _ _ _ hnil))
    · have hR : findR k ks wd L xs = some L[j] := by
        unfold findR; rw [hI, ← hb0, if_pos (by omega)]; simp [hj]
      rw [hR]
      have hj0 : ¬ ((j : Int) < 0) := by omega
      replace hb0 := Lib.hid hb0
      repeat' (first
        | (with_reducible refine swp_seq ?_)
        | (with_reducible refine swp_reg ?_; (try rw [hP]); simp -implicitDefEqProofs [ecells, nums, rowsHn, rowsC, rowsL, *])
        | (with_reducible refine swp_regd (by rw [hP]; exact mixed) ?_; (try rw [hP]); simp -implicitDefEqProofs [ecells, nums, rowsHn, rowsC, rowsL, *])
        | (refine swp_skip ?_; (try simp -implicitDefEqProofs [ecells, nums, rowsHn, rowsC, rowsL, *]))
        | (refine swp_exit ?_; (try simp -implicitDefEqProofs [ecells, nums, rowsHn, rowsC, rowsL, *]))
        | (refine swp_ret ?_; (try simp only [qseq_r, qblock_r, qloop_r]))
        | (with_reducible refine swp_cond rfl (fun h => ?_) (fun h => ?_) <;> have h' := h <;> (try simp at h') <;> (try subst h'))
        | (with_reducible refine sopsg_cases (fun h => ?_) (fun h => ?_) <;> have h' := h <;> (try simp at h') <;> (try subst h') <;> simp -implicitDefEqProofs [ecells, nums, rowsHn, rowsC, rowsL, *])
        | (refine draw_ok rfl ?_)
        | (with_reducible refine sopsk_rg ?_ ?_; (first | omega | (unfold maxLen; omega)); simp -implicitDefEqProofs [ecells, nums, rowsHn, rowsC, rowsL, *])
        | (with_reducible refine swp_block1 ?_)
        | (refine call_q (call_own L[j] (hs _ (by simp)) _) ?_; simp -implicitDefEqProofs [ecells, nums, rowsHn, rowsC, rowsL, *])
        | (exact rfind_fin X hP hm k ks wd ms L L[j].act L[j].args L[j].len true _ _ _ (.refl _)))
theorem rfind_s (k ks wd ms : Int) (L : List Entry) (xs : List Int) (hs : ∀ a ∈ L, Small a) (hL : L.length ≤ 1000000) (hk2 : k = 2 → ks = 1) (hok : (xs.length : Int) = ks → ∀ a ∈ L, FitsOk k a xs) : SCalls Try.prog 41 [.ptr 0 0, nums .u64 xs] (rowsH k ks wd ms L) 2 (rfindV (findR k ks wd L xs)) (rowsH k ks wd ms L) := by
  refine scalls_of (N := 129) Try.func41 rfl rfl (by kernel_rfl) comp_c_rfind (by simp) ⟨rfl, rfl, trivial⟩ (rowsH_lt _ _ _ _ _) ?_
  rintro X hP hN hm
  have hnil : CoL [.int .i64 0, .nilsl] (hcells 0 []) := ⟨.refl _, Co.nilsl 1, trivial⟩
  by_cases hf : findOk k ks wd xs = true
  · have hf2 := hf
    unfold findOk at hf2
    simp only [Bool.and_eq_true, decide_eq_true_eq, Bool.not_eq_true', Bool.and_eq_false_iff, beq_eq_false_iff_ne, Bool.or_eq_false_iff, decide_eq_false_iff_not] at hf2
    obtain ⟨rfl, hf3⟩ := hf2
    have b1 : k = 2 → ¬ wd < 1 := fun h => (hf3.resolve_left (fun h2 => h2 h)).1
    have b2 : k = 2 → ¬ 64 < wd := fun h => (hf3.resolve_left (fun h2 => h2 h)).2.1
    have b0 : k = 2 → 0 < xs.length := fun h => by have := hk2 h; omega
    have b3 : k = 2 → ∀ h : 0 < xs.length, wideI xs[0] wd = false := fun h h2 => by
      have := (hf3.resolve_left (fun h2 => h2 h)).2.2
      rwa [el_lt _ _ h2] at this
    have htail := Lib.hid fun tl nx => rfind_tail X hP hm k xs.length wd ms L xs hs hL (hok rfl) hf tl nx
    clear hk2 hok hf3 hf
    unfold c_rfind rowsH rowsC rowsL
    repeat' (first
      | ((exact htail.out _ _))
      | (with_reducible refine swp_seq ?_)
      | (with_reducible refine swp_reg ?_; (try rw [hP]); simp -implicitDefEqProofs [ecells, nums, rowsHn, rowsC, rowsL, *])
      | (with_reducible refine swp_regd (by rw [hP]; exact mixed) ?_; (try rw [hP]); simp -implicitDefEqProofs [ecells, nums, rowsHn, rowsC, rowsL, *])
      | (refine swp_skip ?_; (try simp -implicitDefEqProofs [ecells, nums, rowsHn, rowsC, rowsL, *]))
      | (refine swp_exit ?_; (try simp -implicitDefEqProofs [ecells, nums, rowsHn, rowsC, rowsL, *]))
      | (refine swp_ret ?_; (try simp only [qseq_r, qblock_r, qloop_r]))
      | (with_reducible refine swp_cond rfl (fun h => ?_) (fun h => ?_) <;> have h' := h <;> (try simp at h') <;> (try subst h'))
      | (with_reducible refine sopsg_cases (fun h => ?_) (fun h => ?_) <;> have h' := h <;> (try simp at h') <;> (try subst h') <;> simp -implicitDefEqProofs [ecells, nums, rowsHn, rowsC, rowsL, *])
      | (refine draw_ok rfl ?_)
      | (with_reducible refine sopsk_rg ?_ ?_; (first | omega | (unfold maxLen; omega)); simp -implicitDefEqProofs [ecells, nums, rowsHn, rowsC, rowsL, *])
      | (with_reducible refine swp_block1 ?_)
      | (refine call_q (scalls_q (wide_s _ _) (fun σ => rfl) (fun σ => rfl) rfl _) ?_; simp -implicitDefEqProofs [ecells, nums, rowsHn, rowsC, rowsL, *]))
  · have hR : findR k ks wd L xs = none := by unfold findR findI; rw [if_neg hf]; rfl
    rw [hR]
    have hlt : k = 2 → (xs.length : Int) = ks → 0 < xs.length := fun h h2 => by have := hk2 h; omega
    clear hk2 hok
    unfold c_rfind rowsH rowsC rowsL
    repeat' (first
      | (with_reducible refine swp_seq ?_)
      | (with_reducible refine swp_reg ?_; (try rw [hP]); simp -implicitDefEqProofs [ecells, nums, rowsHn, rowsC, rowsL, *])
      | (with_reducible refine swp_regd (by rw [hP]; exact mixed) ?_; (try rw [hP]); simp -implicitDefEqProofs [ecells, nums, rowsHn, rowsC, rowsL, *])
      | (refine swp_skip ?_; (try simp -implicitDefEqProofs [ecells, nums, rowsHn, rowsC, rowsL, *]))
      | (refine swp_exit ?_; (try simp -implicitDefEqProofs [ecells, nums, rowsHn, rowsC, rowsL, *]))
      | (refine swp_ret ?_; (try simp only [qseq_r, qblock_r, qloop_r]))
      | (with_reducible refine swp_cond rfl (fun h => ?_) (fun h => ?_) <;> have h' := h <;> (try simp at h') <;> (try subst h'))
      | (with_reducible refine sopsg_cases (fun h => ?_) (fun h => ?_) <;> have h' := h <;> (try simp at h') <;> (try subst h') <;> simp -implicitDefEqProofs [ecells, nums, rowsHn, rowsC, rowsL, *])
      | (refine draw_ok rfl ?_)
      | (with_reducible refine sopsk_rg ?_ ?_; (first | omega | (unfold maxLen; omega)); simp -implicitDefEqProofs [ecells, nums, rowsHn, rowsC, rowsL, *])
      | (with_reducible refine swp_block1 ?_)
      | (exact rfind_fin X hP hm _ _ _ _ L 0 [] 0 false _ _ _ hnil)
      | (refine call_q (scalls_q (wide_s _ _) (fun σ => rfl) (fun σ => rfl) rfl _) ?_; simp -implicitDefEqProofs [ecells, nums, rowsHn, rowsC, rowsL, *]))
    all_goals (exfalso; apply hf; unfold findOk; simp_all [el])
end Go.Proofs.Ytfakdapglbgokaa
