/-
  Texts joined: XGrdA XGrdB XShY XGrdC XGrdD. No condition.
-/
import Derived.Test.YtfakdapglbgokaaI23
import Derived.Test.YtfakdapglbgokaaI25
import Derived.Test.YtfakdapglbgokaaI17
import Derived.Test.YtfakdapglbgokaaI16
import Derived.Test.YtfakdapglbgokaaI6
/-
  Package guard, in the plain machine: what is known, as cells. No condition.
-/
namespace Go.Proofs.Ytfakdapglbgokaa
set_option linter.all false
open Go.RowKit
structure Kn where
  set : Bool
  just : Bool
  n : Int
  room : Int
instance : Inhabited Kn := ⟨⟨false, false, 0, 0⟩⟩
def kc (k : Kn) : List SV := [.bool k.set, .bool k.just, .int .u64 k.n, .int .i64 k.room]
structure GSt where
  there : Bool
  regs : List Kn
  slots : List Bool
def stc (s : GSt) : List SV := .bool s.there :: ((s.regs.map kc).flatten ++ s.slots.map .bool)
structure GOk (s : GSt) : Prop where
  r : s.regs.length = 10
  s : s.slots.length = 96
theorem kflat_len : ∀ l : List Kn, ((l.map kc).flatten).length = 4 * l.length
  | [] => rfl
  | k :: l => by
    have := kflat_len l
    rw [List.map_cons, List.flatten_cons, List.length_append, this, List.length_cons]
    show 4 + _ = _
    omega
theorem stc_len {s : GSt} (h : GOk s) : (stc s).length = 137 := by
  unfold stc
  rw [List.length_cons, List.length_append, kflat_len, List.length_map, h.r, h.s]
theorem kflat_drop : ∀ (l : List Kn) (r : Nat), r < l.length → ∀ rest, (((l.map kc).flatten ++ rest).drop (4 * r)).take 4 = kc (l[r]?.getD default)
  | k :: l, 0, _, rest => rfl
  | k :: l, r + 1, h, rest => by
    have := kflat_drop l r (by simpa using h) rest
    rw [List.map_cons, List.flatten_cons, List.append_assoc, show 4 * (r + 1) = 4 * r + 1 + 1 + 1 + 1 by omega]
    exact this
theorem stc_reg {s : GSt} {r : Nat} (hr : r < s.regs.length) : ((stc s).drop (1 + r * 4)).take 4 = kc s.regs[r] := by
  have := kflat_drop s.regs r hr (s.slots.map .bool)
  rw [List.getElem?_eq_getElem hr] at this
  unfold stc
  rw [show 1 + r * 4 = 4 * r + 1 by omega, List.drop_succ_cons]
  exact this
theorem stc_regf {s : GSt} {r f : Nat} (hr : r < s.regs.length) (hf : f < 4) : (stc s)[1 + r * 4 + f]? = (kc s.regs[r])[f]? := by
  rw [← stc_reg hr, List.getElem?_take, if_pos hf, List.getElem?_drop]
theorem stc_get0 {s : GSt} (h : 0 < (stc s).length) : (stc s)[0] = .bool s.there := rfl
theorem stc_take {s : GSt} (h : GOk s) : (stc s).take 137 = stc s := List.take_of_length_le (by rw [stc_len h]; omega)
theorem stc_slot {s : GSt} (h : GOk s) {j : Nat} (hj : j < s.slots.length) : (stc s)[41 + j]? = some (.bool s.slots[j]) := by
  unfold stc
  rw [show 41 + j = 40 + j + 1 by omega, List.getElem?_cons_succ, List.getElem?_append_right (by rw [kflat_len, h.r]; omega), kflat_len, h.r, show 40 + j - 4 * 10 = j by omega]
  simp [hj]
theorem kflat_set : ∀ (l : List Kn) (r : Nat) (k : Kn), r < l.length → ∀ rest, setL ((l.map kc).flatten ++ rest) (4 * r) (kc k) = ((l.set r k).map kc).flatten ++ rest
  | a :: l, 0, k, _, rest => rfl
  | a :: l, r + 1, k, h, rest => by
    have := kflat_set l r k (by simpa using h) rest
    rw [List.map_cons, List.flatten_cons, List.append_assoc, show 4 * (r + 1) = 4 * r + 4 by omega, List.set_cons_succ, List.map_cons, List.flatten_cons, List.append_assoc, ← this]
    simp [kc, setL]
theorem stc_setreg {s : GSt} {r : Nat} {k : Kn} (hr : r < s.regs.length) : setL (stc s) (1 + r * 4) (kc k) = stc ⟨s.there, s.regs.set r k, s.slots⟩ := by
  have := kflat_set s.regs r k hr (s.slots.map .bool)
  unfold stc
  rw [show 1 + r * 4 = 4 * r + 1 by omega, ← this]
  simp [kc, setL]
theorem stc_setslot {s : GSt} (h : GOk s) {j : Nat} {b : Bool} (hj : j < s.slots.length) : (stc s).set (41 + j) (.bool b) = stc ⟨s.there, s.regs, s.slots.set j b⟩ := by
  unfold stc
  rw [show 41 + j = 40 + j + 1 by omega, List.set_cons_succ, List.set_append_right _ _ (by rw [kflat_len, h.r]; omega), kflat_len, h.r, show 40 + j - 4 * 10 = j by omega, List.map_set]
end Go.Proofs.Ytfakdapglbgokaa

/-
  Package guard, in the plain machine: join. No condition.
-/
namespace Go.Proofs.Ytfakdapglbgokaa
set_option linter.all false
open Go.RowKit
attribute [local simp] sops_nil sops_run sopsk_some sops_call sops_guard sopsg_yes sopsg_tf sopsg_ft sopsg_undef rg_true SOp.run SX.ev putd puts argS upds SOp.touch SSt.keep SSt.skip gets geth puth delh idOf SV.cells? setL fillS fillR sbin eq0 eq1 eqL rowOf qseq_n qseq_e qseq_r qblock_n qblock_r qblock_e qloop_e qloop_r take_map_len FrzOk pureV_int pureV_bool pureV_str pureV_nil pureV_nilsl pureV_view pureV_cp pureL_nil_ pureL_cons_ pureO_row pureO_cells frzS frzH frz frz1 frz0 SlotsM ObjsM ObjM rn ren ren1 ren0 co_self co_int co_own co_view co_nilsl co_agg co_tup CoL coll_self mergeH dels adds idsH okNames
def knJoin (k o : Kn) : Kn := if k.set && o.set then ⟨true, k.just && (o.just && k.n == o.n), if k.just && (o.just && k.n == o.n) then k.n else 0, if o.room < k.room then o.room else k.room⟩ else ⟨false, false, 0, -1⟩
theorem agg_known : aggOf Try.prog 151 = some true := by kernel_rfl
theorem size_known : sizeOf_ Try.prog 151 = some 4 := by kernel_rfl
theorem kjoin_s (k o : Kn) : SCalls Try.prog 145 [.agg (kc k), .agg (kc o)] [] 0 (.agg (kc (knJoin k o))) [] := by
  refine scalls_of (N := 39) Try.func145 rfl rfl (by kernel_rfl) comp_c_kjoin (by simp) ⟨rfl, rfl, trivial⟩ trivial ?_
  rintro X hP hN hm
  have fin : ∀ x y cs nx, CoL cs (kc (knJoin k o)) → QFun X (Try.f145).results.toList 0 (.agg (kc (knJoin k o))) [] .ret ⟨[(4, .ptr 2 0)], [(0, x), (1, y), (2, .cells 151 cs)], nx⟩ := fun x y cs nx hc =>
    qfun_done (s' := ⟨[(4, .ptr 2 0)], [(2, .cells 151 (kc (knJoin k o)))], 3⟩) (wk_list [(2, 2)] hm rfl (by simp) (by simp -implicitDefEqProofs) (by simp -implicitDefEqProofs; exact hc)) (by simp -implicitDefEqProofs [hP, resOf, resL, resV, agg_known, size_known, one_, kc]) trivial (by simp)
  unfold c_kjoin
  repeat' (first
      | (with_reducible refine swp_seq ?_)
      | ((with_reducible refine swp_reg ?_); (try rw [hP]); simp -implicitDefEqProofs [kc, *])
      | ((with_reducible refine swp_regd (by rw [hP]; exact mixed) ?_); (try rw [hP]); simp -implicitDefEqProofs [kc, *])
      | ((with_reducible refine swp_skip ?_); (try simp -implicitDefEqProofs [kc, *]))
      | ((with_reducible refine swp_exit ?_); (try simp -implicitDefEqProofs [kc, *]))
      | ((with_reducible refine swp_ret ?_); (try simp only [qseq_r, qblock_r, qloop_r]))
      | ((with_reducible refine swp_cond rfl (fun h => ?_) (fun h => ?_)) <;> have h' := h <;> (try simp at h') <;> (try subst h'))
      | ((with_reducible refine sopsg_cases (fun h => ?_) (fun h => ?_)) <;> have h' := h <;> (try simp at h') <;> (try subst h') <;> simp -implicitDefEqProofs [kc, *])
      | ((with_reducible refine draw_ok ?_ ?_); (focus rfl))
      | ((with_reducible refine sopsk_rg ?_ ?_); (first | omega | (unfold maxLen; omega)); simp -implicitDefEqProofs [kc, *])
      | (with_reducible refine swp_block1 ?_)
      | (with_reducible refine swp_block2 ?_)
      | (refine fin _ _ _ _ ?_))
  all_goals (unfold knJoin; simp_all [kc])
/-- The first i together, the others as they were. -/
def mixL {α : Type} (f : α → α → α) (xs ys : List α) (i : Nat) : List α := (List.zipWith f xs ys).take i ++ xs.drop i
theorem mix_zero {α : Type} (f : α → α → α) (xs ys : List α) : mixL f xs ys 0 = xs := by simp [mixL]
theorem mix_len {α : Type} {f : α → α → α} {xs ys : List α} (h : xs.length = ys.length) {i : Nat} (hi : i ≤ xs.length) : (mixL f xs ys i).length = xs.length := by
  unfold mixL
  rw [List.length_append, List.length_take, List.length_zipWith, List.length_drop, ← h, Nat.min_self]; omega
theorem mix_get {α : Type} {f : α → α → α} {xs ys : List α} (h : xs.length = ys.length) {i : Nat} (hi : i < xs.length) : (mixL f xs ys i)[i]? = some xs[i] := by
  unfold mixL
  have hl : ((List.zipWith f xs ys).take i).length = i := by rw [List.length_take, List.length_zipWith, ← h, Nat.min_self]; omega
  rw [List.getElem?_append_right (by omega), List.getElem?_drop, hl, show i + (i - i) = i by omega]
  simp [hi]
theorem mix_set {α : Type} {f : α → α → α} {xs ys : List α} (h : xs.length = ys.length) {i : Nat} (hi : i < xs.length) : (mixL f xs ys i).set i (f xs[i] (ys[i]'(h ▸ hi))) = mixL f xs ys (i + 1) := by
  have hz : i < (List.zipWith f xs ys).length := by simp [← h, hi]
  have hl : ((List.zipWith f xs ys).take i).length = i := by rw [List.length_take]; omega
  unfold mixL
  rw [List.set_append_right _ _ (by omega), hl, Nat.sub_self, List.drop_eq_getElem_cons hi, List.set_cons_zero, List.take_succ_eq_append_getElem hz]
  simp
theorem mix_end {α : Type} {f : α → α → α} {xs ys : List α} (h : xs.length = ys.length) : mixL f xs ys xs.length = List.zipWith f xs ys := by
  unfold mixL
  rw [List.take_of_length_le (by simp [← h]), List.drop_length, List.append_nil]
def gJoin (s o : GSt) : GSt := if s.there then ⟨true, List.zipWith knJoin s.regs o.regs, List.zipWith (· && ·) s.slots o.slots⟩ else o
theorem kc_len (k : Kn) : (kc k).length = 4 := rfl
theorem agg_state : aggOf Try.prog 155 = some true := by kernel_rfl
theorem size_state : sizeOf_ Try.prog 155 = some 137 := by kernel_rfl
theorem call_kjoin (k o : Kn) (q : Nat) : SCalls Try.prog 145 [.agg (kc k), .agg (kc o)] [] q (.agg (kc (knJoin k o))) [] := scalls_q (kjoin_s k o) (fun σ => rfl) (fun σ => rfl) rfl q
theorem kflat_ren (σ : Nat → Nat) (l : List Kn) : ((l.map kc).flatten).map (ren σ) = (l.map kc).flatten := by
  rw [List.map_flatten, List.map_map]; rfl
theorem stc_ren (σ : Nat → Nat) (s : GSt) : (stc s).map (ren σ) = stc s := by
  unfold stc
  rw [List.map_cons, List.map_append, kflat_ren, List.map_map]; rfl
theorem stc_ren0 (σ : Nat → Nat) (s : GSt) : (stc s).map (ren0 σ) = stc s := by
  unfold stc
  rw [List.map_cons, List.map_append, List.map_flatten, List.map_map, List.map_map]; rfl
theorem stc_ren1 (σ : Nat → Nat) (s : GSt) : (stc s).map (ren1 σ) = stc s := by
  unfold stc
  rw [List.map_cons, List.map_append, List.map_flatten, List.map_map, List.map_map]; rfl
theorem setL_all : ∀ (pre cs vs : List SV), cs.length = vs.length → setL (pre ++ cs) pre.length vs = pre ++ vs
  | pre, [], [], _ => by simp [setL]
  | pre, c :: cs, v :: vs, h => by
    have := setL_all (pre ++ [v]) cs vs (by simpa using h)
    rw [setL, List.set_append_right _ _ (Nat.le_refl _), Nat.sub_self, List.set_cons_zero]
    simpa using this
  | _, [], _ :: _, h => by cases h
  | _, _ :: _, [], h => by cases h
theorem setL_whole {cs vs : List SV} (h : cs.length = vs.length) : setL cs 0 vs = vs := setL_all [] cs vs h
theorem coL_self (xs : List SV) : CoL xs xs ↔ True := ⟨fun _ => trivial, fun _ => .refl _⟩
def gzero : GSt := ⟨false, List.replicate 10 ⟨false, false, 0, 0⟩, List.replicate 96 false⟩
def zst : List SV := stc gzero
theorem zst_len : zst.length = 137 := stc_len ⟨rfl, rfl⟩
theorem zst_ren (σ : Nat → Nat) : zst.map (ren σ) = zst := stc_ren σ _
theorem stc_lt (m : Nat) (s : GSt) : ltV m (.agg (stc s)) := by
  unfold ltV
  show SV.agg ((stc s).map (ren1 _)) = _
  rw [stc_ren1]
theorem gJoin_ok {s o : GSt} (hs : GOk s) (ho : GOk o) : GOk (gJoin s o) := by
  unfold gJoin
  split
  · exact ⟨by simp [hs.r, ho.r], by simp [hs.s, ho.s]⟩
  · exact ho
theorem sjoin_s (s o : GSt) (hs : GOk s) (ho : GOk o) : SCalls Try.prog 117 [.agg (stc s), .agg (stc o)] [] 0 (.agg (stc (gJoin s o))) [] := by
  refine scalls_of (N := 45) Try.func117 rfl rfl (by kernel_rfl) comp_c_sjoin (by simp) ⟨stc_lt _ _, stc_lt _ _, trivial⟩ trivial ?_
  rintro X hP hN hm
  have l1 := stc_len hs
  have l2 := stc_len ho
  have lr : s.regs.length = o.regs.length := by rw [hs.r, ho.r]
  have ls : s.slots.length = o.slots.length := by rw [hs.s, ho.s]
  have fin : ∀ x y cs nx, cs = stc (gJoin s o) → QFun X [ResultVar.cell 4 155] 0 (.agg (stc (gJoin s o))) [] .ret ⟨[(4, .ptr 2 0)], [(0, x), (1, y), (2, .cells 155 cs)], nx⟩ := fun x y cs nx hc => by
    subst hc
    exact qfun_done (s' := ⟨[(4, .ptr 2 0)], [(2, .cells 155 (stc (gJoin s o)))], 3⟩) (wk_list [(2, 2)] hm rfl (by simp) (by simp -implicitDefEqProofs) (by simp -implicitDefEqProofs [stc_ren, coL_self])) (by simp -implicitDefEqProofs [hP, resOf, resL, resV, agg_state, size_state, stc_len (gJoin_ok hs ho), stc_take (gJoin_ok hs ho), one_]) trivial (by simp)
  unfold c_sjoin
  cases ht : s.there
  ·
    repeat' (first
        | (with_reducible refine swp_seq ?_)
        | ((with_reducible refine swp_reg ?_); (try rw [hP]); simp -implicitDefEqProofs [kc_len, stc_get0, stc_take hs, stc_take ho, *])
        | ((with_reducible refine swp_regd (by rw [hP]; exact mixed) ?_); (try rw [hP]); simp -implicitDefEqProofs [kc_len, stc_get0, stc_take hs, stc_take ho, *])
        | ((with_reducible refine swp_skip ?_); (try simp -implicitDefEqProofs [kc_len, stc_get0, stc_take hs, stc_take ho, *]))
        | ((with_reducible refine swp_exit ?_); (try simp -implicitDefEqProofs [kc_len, stc_get0, stc_take hs, stc_take ho, *]))
        | ((with_reducible refine swp_ret ?_); (try simp only [qseq_r, qblock_r, qloop_r]))
        | ((with_reducible refine swp_cond rfl (fun h => ?_) (fun h => ?_)) <;> have h' := h <;> (try simp at h') <;> (try subst h'))
        | ((with_reducible refine sopsg_cases (fun h => ?_) (fun h => ?_)) <;> have h' := h <;> (try simp at h') <;> (try subst h') <;> simp -implicitDefEqProofs [kc_len, stc_get0, stc_take hs, stc_take ho, *])
        | ((with_reducible refine draw_ok ?_ ?_); (focus rfl))
        | ((with_reducible refine sopsk_rg ?_ ?_); (first | omega | (unfold maxLen; omega)); simp -implicitDefEqProofs [kc_len, stc_get0, stc_take hs, stc_take ho, *])
        | (with_reducible refine swp_block1 ?_)
        | (with_reducible refine swp_block2 ?_)
        | (with_reducible refine fin _ _ _ _ ?_))
    exact (setL_whole (by rw [l2]; rfl)).trans (by unfold gJoin; rw [ht]; rfl)
  ·
    repeat' (first
        | (with_reducible refine swp_seq ?_)
        | ((with_reducible refine swp_reg ?_); (try rw [hP]); simp -implicitDefEqProofs [kc_len, stc_get0, stc_take hs, stc_take ho, *])
        | ((with_reducible refine swp_regd (by rw [hP]; exact mixed) ?_); (try rw [hP]); simp -implicitDefEqProofs [kc_len, stc_get0, stc_take hs, stc_take ho, *])
        | ((with_reducible refine swp_skip ?_); (try simp -implicitDefEqProofs [kc_len, stc_get0, stc_take hs, stc_take ho, *]))
        | ((with_reducible refine swp_exit ?_); (try simp -implicitDefEqProofs [kc_len, stc_get0, stc_take hs, stc_take ho, *]))
        | ((with_reducible refine swp_ret ?_); (try simp only [qseq_r, qblock_r, qloop_r]))
        | ((with_reducible refine swp_cond rfl (fun h => ?_) (fun h => ?_)) <;> have h' := h <;> (try simp at h') <;> (try subst h'))
        | ((with_reducible refine sopsg_cases (fun h => ?_) (fun h => ?_)) <;> have h' := h <;> (try simp at h') <;> (try subst h') <;> simp -implicitDefEqProofs [kc_len, stc_get0, stc_take hs, stc_take ho, *])
        | ((with_reducible refine draw_ok ?_ ?_); (focus rfl))
        | ((with_reducible refine sopsk_rg ?_ ?_); (first | omega | (unfold maxLen; omega)); simp -implicitDefEqProofs [kc_len, stc_get0, stc_take hs, stc_take ho, *])
        | (with_reducible refine swp_block1 ?_)
        | (with_reducible refine swp_block2 ?_)
        | (with_reducible refine fin _ _ _ _ ?_))
    refine swp_block (swp_loop (fun s' m => ∃ i : Nat, s' = ⟨[(2, .ptr 0 0), (3, .ptr 1 0), (4, .ptr 2 0), (11, .int .i64 i)], [(0, .cells 155 (stc ⟨true, mixL knJoin s.regs o.regs i, s.slots⟩)), (1, .cells 155 (stc o)), (2, .cells 155 zst)], 3⟩ ∧ i ≤ 10 ∧ m = 10 - i) (wk_list [(0, 0), (1, 1), (2, 2)] hm rfl (by simp) (by simp -implicitDefEqProofs) (by rw [mix_zero, ← ht]; exact ⟨⟨_, rfl, rfl, by rw [stc_ren]; exact .refl _⟩, ⟨_, rfl, rfl, by rw [stc_ren]; exact .refl _⟩, ⟨_, rfl, rfl, by rw [zst_ren]; exact .refl _⟩, trivial⟩)) ⟨0, rfl, by omega, rfl⟩ ?_)
    rintro s' m ⟨i, rfl, h1, rfl⟩
    unfold c_sjoin_l1
    have hok : GOk ⟨true, mixL knJoin s.regs o.regs i, s.slots⟩ := ⟨by rw [mix_len lr (by rw [hs.r]; omega)]; exact hs.r, hs.s⟩
    have l3 := stc_len hok
    rcases Nat.lt_or_ge i 10 with hi | hi
    · have hir : i < s.regs.length := by rw [hs.r]; exact hi
      have hio : i < o.regs.length := by rw [ho.r]; exact hi
      have g1 : ((stc ⟨true, mixL knJoin s.regs o.regs i, s.slots⟩).drop (1 + i * 4)).take 4 = kc s.regs[i] := by
        have h := stc_reg (s := ⟨true, mixL knJoin s.regs o.regs i, s.slots⟩) (r := i) (by show i < (mixL knJoin s.regs o.regs i).length; rw [mix_len lr (by omega)]; exact hir)
        rw [h]
        have := mix_get lr hir (f := knJoin)
        rw [List.getElem?_eq_getElem (by rw [mix_len lr (by omega)]; exact hir)] at this
        exact congrArg kc (Option.some.inj this)
      have g2 := stc_reg hio
      have g3 : setL (stc ⟨true, mixL knJoin s.regs o.regs i, s.slots⟩) (1 + i * 4) (kc (knJoin s.regs[i] o.regs[i])) = stc ⟨true, mixL knJoin s.regs o.regs (i + 1), s.slots⟩ := by
        rw [stc_setreg (by show i < (mixL knJoin s.regs o.regs i).length; rw [mix_len lr (by omega)]; exact hir)]
        show stc ⟨true, (mixL knJoin s.regs o.regs i).set i _, s.slots⟩ = _
        rw [mix_set lr hir]
      have g4 : 1 + i * 4 + 4 ≤ 137 := by omega
      have g5 : (i : Int) < 10 := by omega
      repeat' (first
          | (with_reducible refine swp_seq ?_)
          | ((with_reducible refine swp_reg ?_); (try rw [hP]); simp -implicitDefEqProofs [kc_len, *])
          | ((with_reducible refine swp_regd (by rw [hP]; exact mixed) ?_); (try rw [hP]); simp -implicitDefEqProofs [kc_len, *])
          | ((with_reducible refine swp_skip ?_); (try simp -implicitDefEqProofs [kc_len, *]))
          | ((with_reducible refine swp_exit ?_); (try simp -implicitDefEqProofs [kc_len, *]))
          | ((with_reducible refine swp_ret ?_); (try simp only [qseq_r, qblock_r, qloop_r]))
          | ((with_reducible refine swp_cond rfl (fun h => ?_) (fun h => ?_)) <;> have h' := h <;> (try simp at h') <;> (try subst h'))
          | ((with_reducible refine sopsg_cases (fun h => ?_) (fun h => ?_)) <;> have h' := h <;> (try simp at h') <;> (try subst h') <;> simp -implicitDefEqProofs [kc_len, *])
          | ((with_reducible refine draw_ok ?_ ?_); (focus rfl))
          | ((with_reducible refine sopsk_rg ?_ ?_); (first | omega | (unfold maxLen; omega)); simp -implicitDefEqProofs [kc_len, *])
          | (with_reducible refine swp_block1 ?_)
          | (with_reducible refine swp_block2 ?_)
          | (refine call_q (call_kjoin _ _ _) ?_; simp -implicitDefEqProofs [kc_len, *])
          | ((rw [i64_add_ (by omega) (by omega)]; refine qloop_next (wk_list [(0, 0), (1, 1), (2, 2)] hm rfl (by simp) ?_ ?_) ⟨i + 1, rfl, by omega, rfl⟩ (by omega); (focus (simp -implicitDefEqProofs; done)); (focus (simp -implicitDefEqProofs [stc_ren, zst_ren, coL_self]; done)))))
    · obtain rfl : i = 10 := by omega
      repeat' (first
          | (with_reducible refine swp_seq ?_)
          | ((with_reducible refine swp_reg ?_); (try rw [hP]); simp -implicitDefEqProofs [kc_len, *])
          | ((with_reducible refine swp_regd (by rw [hP]; exact mixed) ?_); (try rw [hP]); simp -implicitDefEqProofs [kc_len, *])
          | ((with_reducible refine swp_skip ?_); (try simp -implicitDefEqProofs [kc_len, *]))
          | ((with_reducible refine swp_exit ?_); (try simp -implicitDefEqProofs [kc_len, *]))
          | ((with_reducible refine swp_ret ?_); (try simp only [qseq_r, qblock_r, qloop_r]))
          | ((with_reducible refine swp_cond rfl (fun h => ?_) (fun h => ?_)) <;> have h' := h <;> (try simp at h') <;> (try subst h'))
          | ((with_reducible refine sopsg_cases (fun h => ?_) (fun h => ?_)) <;> have h' := h <;> (try simp at h') <;> (try subst h') <;> simp -implicitDefEqProofs [kc_len, *])
          | ((with_reducible refine draw_ok ?_ ?_); (focus rfl))
          | ((with_reducible refine sopsk_rg ?_ ?_); (first | omega | (unfold maxLen; omega)); simp -implicitDefEqProofs [kc_len, *])
          | (with_reducible refine swp_block1 ?_)
          | (with_reducible refine swp_block2 ?_))
      have e10 : mixL knJoin s.regs o.regs 10 = List.zipWith knJoin s.regs o.regs := by rw [← hs.r]; exact mix_end lr
      rw [e10] at l3 hok ⊢
      refine swp_block (swp_loop (fun s' m => ∃ i : Nat, s' = ⟨[(2, .ptr 0 0), (3, .ptr 1 0), (4, .ptr 2 0), (27, .int .i64 i)], [(0, .cells 155 (stc ⟨true, List.zipWith knJoin s.regs o.regs, mixL (· && ·) s.slots o.slots i⟩)), (1, .cells 155 (stc o)), (2, .cells 155 zst)], 3⟩ ∧ i ≤ 96 ∧ m = 96 - i) (wk_list [(0, 0), (1, 1), (2, 2)] hm rfl (by simp) (by simp -implicitDefEqProofs) (by simp -implicitDefEqProofs [mix_zero, stc_ren, zst_ren, coL_self])) ⟨0, rfl, by omega, rfl⟩ ?_)
      rintro s' m ⟨i, rfl, h1, rfl⟩
      unfold c_sjoin_l2
      have hok2 : GOk ⟨true, List.zipWith knJoin s.regs o.regs, mixL (· && ·) s.slots o.slots i⟩ := ⟨hok.r, by rw [mix_len ls (by rw [hs.s]; omega)]; exact hs.s⟩
      have l4 := stc_len hok2
      rcases Nat.lt_or_ge i 96 with hi | hi
      · have hir : i < s.slots.length := by rw [hs.s]; exact hi
        have hio : i < o.slots.length := by rw [ho.s]; exact hi
        have g1 : (stc ⟨true, List.zipWith knJoin s.regs o.regs, mixL (· && ·) s.slots o.slots i⟩)[41 + i]? = some (.bool s.slots[i]) := by
          have hlt : i < (mixL (· && ·) s.slots o.slots i).length := by rw [mix_len ls (by omega)]; exact hir
          rw [stc_slot hok2 hlt]
          have := mix_get ls hir (f := (· && ·))
          rw [List.getElem?_eq_getElem hlt] at this
          exact congrArg (fun b => some (SV.bool b)) (Option.some.inj this)
        have g2 := stc_slot ho hio
        have g3 : (stc ⟨true, List.zipWith knJoin s.regs o.regs, mixL (· && ·) s.slots o.slots i⟩).set (41 + i) (.bool (s.slots[i] && o.slots[i])) = stc ⟨true, List.zipWith knJoin s.regs o.regs, mixL (· && ·) s.slots o.slots (i + 1)⟩ := by
          rw [stc_setslot hok2 (by show i < (mixL (· && ·) s.slots o.slots i).length; rw [mix_len ls (by omega)]; exact hir)]
          show stc ⟨true, _, (mixL (· && ·) s.slots o.slots i).set i _⟩ = _
          rw [mix_set ls hir]
        have g4 : (i : Int) < 96 := by omega
        have g5 : 41 + i + 1 ≤ 137 := by omega
        cases hb : s.slots[i] <;> simp only [hb, Bool.false_and, Bool.true_and] at g1 g3
        all_goals
          repeat' (first
              | (with_reducible refine swp_seq ?_)
              | ((with_reducible refine swp_reg ?_); (try rw [hP]); simp -implicitDefEqProofs [*])
              | ((with_reducible refine swp_regd (by rw [hP]; exact mixed) ?_); (try rw [hP]); simp -implicitDefEqProofs [*])
              | ((with_reducible refine swp_skip ?_); (try simp -implicitDefEqProofs [*]))
              | ((with_reducible refine swp_exit ?_); (try simp -implicitDefEqProofs [*]))
              | ((with_reducible refine swp_ret ?_); (try simp only [qseq_r, qblock_r, qloop_r]))
              | ((with_reducible refine swp_cond rfl (fun h => ?_) (fun h => ?_)) <;> have h' := h <;> (try simp at h') <;> (try subst h'))
              | ((with_reducible refine sopsg_cases (fun h => ?_) (fun h => ?_)) <;> have h' := h <;> (try simp at h') <;> (try subst h') <;> simp -implicitDefEqProofs [*])
              | ((with_reducible refine draw_ok ?_ ?_); (focus rfl))
              | ((with_reducible refine sopsk_rg ?_ ?_); (first | omega | (unfold maxLen; omega)); simp -implicitDefEqProofs [*])
              | (with_reducible refine swp_block1 ?_)
              | (with_reducible refine swp_block2 ?_)
              | ((rw [i64_add_ (by omega) (by omega)]; refine qloop_next (wk_list [(0, 0), (1, 1), (2, 2)] hm rfl (by simp) ?_ ?_) ⟨i + 1, rfl, by omega, rfl⟩ (by omega); (focus (simp -implicitDefEqProofs; done)); (focus (simp -implicitDefEqProofs [stc_ren, zst_ren, coL_self]; done)))))
      · obtain rfl : i = 96 := by omega
        repeat' (first
            | (with_reducible refine swp_seq ?_)
            | ((with_reducible refine swp_reg ?_); (try rw [hP]); simp -implicitDefEqProofs [stc_take hok2, zst_len, *])
            | ((with_reducible refine swp_regd (by rw [hP]; exact mixed) ?_); (try rw [hP]); simp -implicitDefEqProofs [stc_take hok2, zst_len, *])
            | ((with_reducible refine swp_skip ?_); (try simp -implicitDefEqProofs [stc_take hok2, zst_len, *]))
            | ((with_reducible refine swp_exit ?_); (try simp -implicitDefEqProofs [stc_take hok2, zst_len, *]))
            | ((with_reducible refine swp_ret ?_); (try simp only [qseq_r, qblock_r, qloop_r]))
            | ((with_reducible refine swp_cond rfl (fun h => ?_) (fun h => ?_)) <;> have h' := h <;> (try simp at h') <;> (try subst h'))
            | ((with_reducible refine sopsg_cases (fun h => ?_) (fun h => ?_)) <;> have h' := h <;> (try simp at h') <;> (try subst h') <;> simp -implicitDefEqProofs [stc_take hok2, zst_len, *])
            | ((with_reducible refine draw_ok ?_ ?_); (focus rfl))
            | ((with_reducible refine sopsk_rg ?_ ?_); (first | omega | (unfold maxLen; omega)); simp -implicitDefEqProofs [stc_take hok2, zst_len, *])
            | (with_reducible refine swp_block1 ?_)
            | (with_reducible refine swp_block2 ?_)
            | (with_reducible refine fin _ _ _ _ ?_))
        have e96 : mixL (· && ·) s.slots o.slots 96 = List.zipWith (· && ·) s.slots o.slots := by rw [← hs.s]; exact mix_end ls
        exact (setL_whole (by rw [l4]; exact zst_len)).trans (by unfold gJoin; rw [ht, e96]; rfl)
end Go.Proofs.Ytfakdapglbgokaa

/-
  The plain machine: own rows lent to functions that only look at views. No condition.
-/
namespace Go.Proofs.Ytfakdapglbgokaa
set_option linter.all false
open Go.RowKit
variable {w : World} {ρ : Plan_} {fp : Nat → Nat → Prop} {O : Nat → Prop} {h1 : Hp}

theorem live_nil (k : Nat) : ¬ Live [] fp k := fun ⟨_, _, h, _⟩ => by cases h
/-- What stands for a value, as long as nobody writes to these objects. -/
def Lent (h1 : Hp) (x y : SV) : Prop := ∀ (O : Nat → Prop) (ρ : Plan_) (fp : Nat → Nat → Prop) (w : World) (v : Value), HeapOk O ρ fp h1 w → RepV w (fun k => O k ∨ Live h1 fp k) ρ x v → RepV w (fun k => O k ∨ Live [] fp k) ρ y v
def LentL (h1 : Hp) : List SV → List SV → Prop
  | [], [] => True
  | x :: xs, y :: ys => Lent h1 x y ∧ LentL h1 xs ys
  | _, _ => False
theorem lent_av {k : Nat} : (O k ∨ Live [] fp k) → O k ∨ Live h1 fp k := fun hk => hk.elim .inl fun h => absurd h (live_nil k)
theorem lent_refl (x : SV) : Lent h1 x x := fun _ _ _ _ _ _ hx => hx.weaken fun _ hk _ => lent_av hk
theorem lent_any (x : SV) : Lent h1 x .any := fun _ _ _ _ _ _ _ => .any
theorem lentL_refl : ∀ xs, LentL h1 xs xs
  | [] => trivial
  | x :: xs => ⟨lent_refl x, lentL_refl xs⟩
theorem lentL_length : ∀ {xs ys}, LentL h1 xs ys → xs.length = ys.length
  | [], [], _ => rfl
  | _ :: _, _ :: _, h => by simp [lentL_length h.2]
  | [], _ :: _, h => h.elim
  | _ :: _, [], h => h.elim
theorem lentL_get : ∀ {xs ys : List SV} {j : Nat} {y : SV}, LentL h1 xs ys → ys[j]? = some y → ∃ x, xs[j]? = some x ∧ Lent h1 x y
  | x :: xs, y :: ys, 0, _, h, hy => by cases hy; exact ⟨x, rfl, h.1⟩
  | x :: xs, y :: ys, j + 1, _, h, hy => lentL_get (xs := xs) (ys := ys) (j := j) h.2 (by simpa using hy)
  | [], [], _, _, _, hy => by simp at hy
  | [], _ :: _, _, _, h, _ => h.elim
  | _ :: _, [], _, _, h, _ => h.elim
theorem lent_agg {cs ds : List SV} (h : LentL h1 cs ds) : Lent h1 (.agg cs) (.agg ds) := fun O ρ fp w v hok hx => by
  cases hx with
  | agg ho hl hh =>
    refine .agg ho (by rw [← lentL_length h]; exact hl) fun j y v hy hv => ?_
    obtain ⟨x, h1, h2⟩ := lentL_get h hy
    exact h2 O ρ fp w v hok (hh j x v h1 hv)
theorem lent_row {id z e : Nat} {es : List (List SV)} (ho : geth h1 id = some (.row e z es)) (hp : ∀ e ∈ es, PureL e) {n : Nat} (hn : n = es.length) : Lent h1 (.own id n) (.view z es) := fun O ρ fp w v hok hx => by
  subst hn
  obtain ⟨v0, us, how, ⟨hrep, huo⟩, hzs, hρ', hfp⟩ := hok.objs id _ ho
  generalize hn : es.length = n at hx
  cases hx with
  | own0 hρ => rw [List.eq_nil_of_length_eq_zero hn]; exact .view0 (by simp [maxLen]) (fun _ => rfl)
  | own hρ hnc hm =>
    rename_i b c
    rw [hρ] at hρ'
    have hp0 : placeOf v0 = some (b, c) := (Option.some.inj hρ').symm
    obtain ⟨hv0, hcell, hlt, _, _⟩ := row_cells how hp0
    have hown : fp id b := (hfp b).2 (by rw [hv0]; rfl)
    have hval : ∀ i e j x, es[i]? = some e → e[j]? = some x → ∃ u, us[i * z + j]? = some u ∧ RepV w (fun k => O k ∨ Live h1 fp k) ρ x u := fun i e j x he hx => hrep.get (flat_get hzs he hx)
    refine .view (fun i j => us.getD (i * z + j) undef) hn hnc hm (fun hO => hO.elim (hok.lt b ⟨id, _, ho, hown⟩).2 (live_nil b)) hlt hzs (fun i e j x he hx => ?_) (fun i e j x he hx => ?_) (fun i e j x he hx => ?_)
    · obtain ⟨u, h1, h2⟩ := hval i e j x he hx
      rw [Nat.zero_add, List.getD_eq_getElem?_getD, h1]
      exact hcell _ _ h1
    · obtain ⟨u, h1, h2⟩ := hval i e j x he hx
      rw [List.getD_eq_getElem?_getD, h1]
      exact (hp e (List.mem_of_getElem? he) x (List.mem_of_getElem? hx) _ _ _ _ h2).weaken fun k hk _ => lent_av hk
    · obtain ⟨u, h1, h2⟩ := hval i e j x he hx
      rw [List.getD_eq_getElem?_getD, h1]
      exact huo u (List.mem_of_getElem? h1)
theorem lent_ptr {id off t : Nat} {cs ds : List SV} (ho : geth h1 id = some (.cells t cs)) (hl : LentL h1 (cs.drop off) ds) (hp : PureL ds) : Lent h1 (.ptr id off) (.cp ds) := fun O ρ fp w v hok hx => by
  obtain ⟨b, c, us, hρ', hbl, ⟨hrep, huo⟩, hfp⟩ := hok.objs id _ ho
  cases hx with
  | ptr hρ =>
    rw [hρ] at hρ'; cases hρ'
    have hval : ∀ (j : Nat) y, ds[j]? = some y → ∃ u, us[off + j]? = some u ∧ RepV w (fun k => O k ∨ Live [] fp k) noPl y u := fun j y hy => by
      obtain ⟨x, hx, hxy⟩ := lentL_get hl hy
      rw [List.getElem?_drop] at hx
      obtain ⟨u, h1, h2⟩ := hrep.get hx
      exact ⟨u, h1, hp y (List.mem_of_getElem? hy) _ _ _ _ (hxy O ρ fp w u hok h2)⟩
    refine .cp (fun j => us.getD (off + j) undef) (fun hO => hO.elim (hok.lt b ⟨id, _, ho, (hfp b).2 rfl⟩).2 (live_nil b)) hbl.lt (fun j x hx => ?_) (fun j x hx => ?_) (fun j x hx => ?_)
    · obtain ⟨u, h1, h2⟩ := hval j x hx
      rw [hbl.cell, List.getD_eq_getElem?_getD, h1]
      simpa using h1
    · obtain ⟨u, h1, h2⟩ := hval j x hx
      rw [List.getD_eq_getElem?_getD, h1]
      exact h2
    · obtain ⟨u, h1, h2⟩ := hval j x hx
      rw [List.getD_eq_getElem?_getD, h1]
      exact huo u (List.mem_of_getElem? h1)

/-- Values that look at nothing that others may own. -/
def CleanV (x : SV) : Prop := ∀ w A A' ρ v, RepV w A ρ x v → RepV w A' ρ x v
theorem clean_bool (b : Bool) : CleanV (.bool b) := fun w A A' ρ v h => by cases h; exact .bool
theorem clean_int (k : IntKind) (n : Int) : CleanV (.int k n) := fun w A A' ρ v h => by cases h; exact .int
theorem clean_str (t : ByteArray) : CleanV (.str t) := fun w A A' ρ v h => by cases h; exact .str
theorem clean_nil : CleanV .nil := fun w A A' ρ v h => by cases h; exact .nil
theorem clean_nilsl : CleanV .nilsl := fun w A A' ρ v h => by cases h; exact .nilsl
theorem clean_any : CleanV .any := fun w A A' ρ v h => .any
theorem clean_own (id n : Nat) : CleanV (.own id n) := fun w A A' ρ v h => by
  cases h with
  | own0 h => exact .own0 h
  | own h a b => exact .own h a b
theorem clean_ptr (id n : Nat) : CleanV (.ptr id n) := fun w A A' ρ v h => by cases h with | ptr h => exact .ptr h
def CleanL (cs : List SV) : Prop := ∀ x ∈ cs, CleanV x
theorem cleanL_nil : CleanL [] := fun x hx => by cases hx
theorem cleanL_cons {x : SV} {cs : List SV} (h : CleanV x) (hs : CleanL cs) : CleanL (x :: cs) := fun y hy => by
  rcases List.mem_cons.1 hy with e | e
  · rw [e]; exact h
  · exact hs y e
theorem clean_reps {A A' : Nat → Prop} {cs : List SV} {vs : List Value} (hc : CleanL cs) (h : Reps w A ρ cs vs) : Reps w A' ρ cs vs :=
  ⟨h.1, fun j x v hx hv => hc x (List.mem_of_getElem? hx) _ _ _ _ _ (h.2 j x v hx hv)⟩
theorem clean_agg {cs : List SV} (hc : CleanL cs) : CleanV (.agg cs) := fun w A A' ρ v h => by
  cases h with
  | agg ho hl hh => exact .agg ho hl fun j x v hx hv => hc x (List.mem_of_getElem? hx) _ _ _ _ _ (hh j x v hx hv)
theorem clean_tup {cs : List SV} (hc : CleanL cs) : CleanV (.tup cs) := fun w A A' ρ v h => by
  cases h with
  | tup hl hh => exact .tup hl fun j x v hx hv => hc x (List.mem_of_getElem? hx) _ _ _ _ _ (hh j x v hx hv)
def CleanO : SObj → Prop
  | .cells _ cs => CleanL cs
  | .row _ _ es => ∀ e ∈ es, CleanL e
  | .abs _ => False
theorem clean_obj {A A' : Nat → Prop} {id : Nat} {F : Nat → Prop} {o : SObj} (hc : CleanO o) (h : ObjRep w A ρ id F o) : ObjRep w A' ρ id F o := by
  cases o with
  | cells t cs =>
    obtain ⟨b, c, vs, q1, q2, ⟨q3, q4⟩, q5⟩ := h
    exact ⟨b, c, vs, q1, q2, ⟨clean_reps hc q3, q4⟩, q5⟩
  | row e z es =>
    obtain ⟨v, vs, q1, ⟨q2, q3⟩, q4, q5, q6⟩ := h
    exact ⟨v, vs, q1, ⟨clean_reps (fun x hx => by obtain ⟨e, he, hx⟩ := List.mem_flatten.1 hx; exact hc e he x hx) q2, q3⟩, q4, q5, q6⟩
  | abs I => exact hc.elim
theorem geth_append (h1 h2 : Hp) (id : Nat) : geth (h1 ++ h2) id = match geth h1 id with | some o => some o | none => geth h2 id := by
  induction h1 with
  | nil => rfl
  | cons p h1 ih =>
    obtain ⟨i, o⟩ := p
    rw [List.cons_append]
    simp only [geth]
    split
    · rfl
    · exact ih
/-- What a function answers of views it answers of own rows that are lent to it; what it answers must not look at them. -/
theorem scalls_lend {P : Program} {f : FuncId} {args args' : List SV} {h1 h2 : Hp} {q : Nat} {r : SV} (h : SCalls P f args' [] q r h2) (ha : LentL h1 args args') (hr : CleanV r) (hc : ∀ id o, geth h2 id = some o → CleanO o)
    (hd : ∀ id, geth h1 id ≠ none → geth h2 id = none) : SCalls P f args h1 q r (h1 ++ h2) := by
  refine ⟨h.ent, fun O ρ fp w vs hok hargs hfr => ?_⟩
  have hargs' : Reps w (fun k => O k ∨ Live [] fp k) ρ args' vs := by
    refine ⟨by rw [← lentL_length ha]; exact hargs.1, fun j y v hy hv => ?_⟩
    obtain ⟨x, h1, h2⟩ := lentL_get ha hy
    exact h2 O ρ fp w v hok (hargs.2 j x v h1 hv)
  refine (h.does O ρ fp w vs ⟨fun id o ho => (by cases ho), fun id id' o o' _ ho => (by cases ho), fun k hk => absurd hk (live_nil k), hok.O_lt⟩ hargs' hfr).mono ?_
  rintro e w' ⟨v, ρ', fp', rfl, hk, hv, hst, hρ, hnew, hfp⟩
  have hst' : ∀ S : Nat → Prop, Step S w w' := fun S => hst.mono fun k hk => absurd hk (live_nil k)
  have hbig : ∀ id o, geth h2 id = some o → ∀ k, fp' id k → w.heap.size ≤ k := fun id o ho k hk => (hfp id o ho k hk).elim (fun h => absurd h (live_nil k)) fun h => h
  have hg : ∀ id o, geth (h1 ++ h2) id = some o → geth h1 id = some o ∧ geth h2 id = none ∨ geth h1 id = none ∧ geth h2 id = some o := fun id o ho => by
    rw [geth_append] at ho
    cases e : geth h1 id with
    | some o' => rw [e] at ho; cases ho; exact .inl ⟨rfl, hd id (by rw [e]; simp)⟩
    | none => rw [e] at ho; exact .inr ⟨rfl, ho⟩
  let F : Nat → Nat → Prop := fun id k => (geth h2 id ≠ none ∧ fp' id k) ∨ (geth h2 id = none ∧ fp id k)
  have F1 : ∀ id, geth h2 id = none → F id = fp id := fun id hn => by funext k; simp [F, hn]
  have F2 : ∀ id o, geth h2 id = some o → F id = fp' id := fun id o hn => by funext k; simp [F, hn]
  have hav : ∀ k, (O k ∨ Live (h1 ++ h2) F k) → k < w.heap.size → O k ∨ Live h1 fp k := by
    rintro k (hO | ⟨id, o, ho, hk'⟩) hlt
    · exact .inl hO
    · rcases hg id o ho with ⟨q1, q2⟩ | ⟨q1, q2⟩
      · rw [F1 id q2] at hk'; exact .inr ⟨id, o, q1, hk'⟩
      · rw [F2 id o q2] at hk'; exact absurd (hbig id o q2 k hk') (by omega)
  refine ⟨v, ρ', F, rfl, ⟨fun id o ho => ?_, fun id id' o o' hne ho ho' k hk' hk2 => ?_, ?_, hk.O_lt⟩, hr _ _ _ _ _ hv, hst' _, hρ, hnew, fun id o ho k hk' => ?_⟩
  · rcases hg id o ho with ⟨q1, q2⟩ | ⟨q1, q2⟩
    · rw [F1 id q2]
      exact (hok.objs id o q1).mono ⟨hst' _, hav, hρ⟩ fun k hk' => hst.block k (hok.lt k ⟨id, o, q1, hk'⟩).1 (live_nil k)
    · rw [F2 id o q2]
      exact clean_obj (hc id o q2) (hk.objs id o q2)
  · rcases hg id o ho with ⟨q1, q2⟩ | ⟨q1, q2⟩ <;> rcases hg id' o' ho' with ⟨q3, q4⟩ | ⟨q3, q4⟩
    · rw [F1 id q2] at hk'; rw [F1 id' q4] at hk2; exact hok.disj id id' o o' hne q1 q3 k hk' hk2
    · rw [F1 id q2] at hk'; rw [F2 id' o' q4] at hk2
      have := (hok.lt k ⟨id, o, q1, hk'⟩).1; have := hbig id' o' q4 k hk2; omega
    · rw [F2 id o q2] at hk'; rw [F1 id' q4] at hk2
      have := (hok.lt k ⟨id', o', q3, hk2⟩).1; have := hbig id o q2 k hk'; omega
    · rw [F2 id o q2] at hk'; rw [F2 id' o' q4] at hk2; exact hk.disj id id' o o' hne q2 q4 k hk' hk2
  · rintro k ⟨id, o, ho, hk'⟩
    rcases hg id o ho with ⟨q1, q2⟩ | ⟨q1, q2⟩
    · rw [F1 id q2] at hk'
      have := hok.lt k ⟨id, o, q1, hk'⟩
      exact ⟨Nat.lt_of_lt_of_le this.1 hst.size, this.2⟩
    · rw [F2 id o q2] at hk'
      exact hk.lt k ⟨id, o, q2, hk'⟩
  · rcases hg id o ho with ⟨q1, q2⟩ | ⟨q1, q2⟩
    · rw [F1 id q2] at hk'; exact .inl ⟨id, o, q1, hk'⟩
    · rw [F2 id o q2] at hk'; exact .inr (hbig id o q2 k hk')
/-- The same, where nothing new comes out. -/
theorem scalls_look {P : Program} {f : FuncId} {args args' : List SV} {h1 : Hp} {q : Nat} {r : SV} (h : SCalls P f args' [] q r []) (ha : LentL h1 args args') (hr : CleanV r) : SCalls P f args h1 q r h1 := by
  have := scalls_lend h ha hr (fun id o ho => by cases ho) fun _ _ => rfl
  rwa [List.append_nil] at this
/-- Objects by their list. -/
theorem cleanH_cons {i : Nat} {x : SObj} {h : Hp} (hx : CleanO x) (hh : ∀ id o, geth h id = some o → CleanO o) : ∀ id o, geth ((i, x) :: h) id = some o → CleanO o := fun id o ho => by
  simp only [geth] at ho
  split at ho
  · cases ho; exact hx
  · exact hh id o ho
theorem cleanH_nil : ∀ id o, geth [] id = some o → CleanO o := fun id o ho => by cases ho
end Go.Proofs.Ytfakdapglbgokaa

/-
  Package guard, in the plain machine: some, uses, bin. No condition.
-/
namespace Go.Proofs.Ytfakdapglbgokaa
set_option linter.all false
open Go.RowKit
attribute [local simp] sops_nil sops_run sopsk_some sops_call sops_guard sopsg_yes sopsg_tf sopsg_ft sopsg_undef rg_true SOp.run SX.ev putd puts argS upds SOp.touch SSt.keep SSt.skip gets geth puth delh idOf SV.cells? setL fillS fillR sbin eq0 eq1 eqL rowOf qseq_n qseq_e qseq_r qblock_n qblock_r qblock_e qloop_e qloop_r take_map_len FrzOk pureV_int pureV_bool pureV_str pureV_nil pureV_nilsl pureV_view pureV_cp pureL_nil_ pureL_cons_ pureO_row pureO_cells frzS frzH frz frz1 frz0 SlotsM ObjsM ObjM rn ren ren1 ren0 co_self co_int co_own co_view co_nilsl co_agg co_tup CoL coll_self mergeH dels adds idsH okNames
def icv (x : Ins) : List SV := [.int .i64 x.op, .int .i64 x.r, .int .i64 x.s, .int .i64 x.k, .int .i64 x.to, .int .u64 x.n]
def knSome : Kn := ⟨true, false, 0, -1⟩
theorem gsome_s : SCalls Try.prog 143 [] [] 0 (.agg (kc knSome)) [] := by
  refine scalls_of (N := 2) Try.func143 rfl rfl (by kernel_rfl) comp_c_gsome (by simp) trivial trivial ?_
  rintro X hP hN hm
  have fin : ∀ cs nx, CoL cs (kc knSome) → QFun X (Try.f143).results.toList 0 (.agg (kc knSome)) [] .ret ⟨[(0, .ptr 0 0)], [(0, .cells 151 cs)], nx⟩ := fun cs nx hc =>
    qfun_done (s' := ⟨[(0, .ptr 0 0)], [(0, .cells 151 (kc knSome))], 1⟩) (wk_list [(0, 0)] hm rfl (by simp) (by simp -implicitDefEqProofs) (by simp -implicitDefEqProofs; exact hc)) (by simp -implicitDefEqProofs [hP, resOf, resL, resV, agg_known, size_known, one_, kc]) trivial (by simp)
  unfold c_gsome
  repeat' (first
      | (with_reducible refine swp_seq ?_)
      | ((with_reducible refine swp_reg ?_); (try rw [hP]); simp -implicitDefEqProofs [kc, *])
      | ((with_reducible refine swp_regd (by rw [hP]; exact mixed) ?_); (try rw [hP]); simp -implicitDefEqProofs [kc, *])
      | ((with_reducible refine swp_skip ?_); (try simp -implicitDefEqProofs [kc, *]))
      | ((with_reducible refine swp_exit ?_); (try simp -implicitDefEqProofs [kc, *]))
      | ((with_reducible refine swp_ret ?_); (try simp only [qseq_r, qblock_r, qloop_r]))
      | ((with_reducible refine swp_cond rfl (fun h => ?_) (fun h => ?_)) <;> have h' := h <;> (try simp at h') <;> (try subst h'))
      | ((with_reducible refine sopsg_cases (fun h => ?_) (fun h => ?_)) <;> have h' := h <;> (try simp at h') <;> (try subst h') <;> simp -implicitDefEqProofs [kc, *])
      | ((with_reducible refine draw_ok ?_ ?_); (focus rfl))
      | ((with_reducible refine sopsk_rg ?_ ?_); (first | omega | (unfold maxLen; omega)); simp -implicitDefEqProofs [kc, *])
      | (with_reducible refine swp_block1 ?_)
      | (with_reducible refine swp_block2 ?_)
      | (refine fin _ _ ?_))
  exact CoL.refl _
theorem call_gsome (q : Nat) : SCalls Try.prog 143 [] [] q (.agg (kc knSome)) [] := scalls_q gsome_s (fun σ => rfl) (fun σ => rfl) rfl q
/-- The registers that an instruction uses. -/
def usesL (x : Ins) : List Int :=
  if x.op = 1 ∨ x.op = 7 ∨ x.op = 13 ∨ x.op = 18 ∨ x.op = 12 ∨ x.op = 17 then [] else if x.op = 2 ∨ x.op = 6 then [x.s] else if x.op = 3 ∨ x.op = 5 ∨ x.op = 10 ∨ x.op = 11 then [x.r, x.s] else [x.r]
def iv (l : List Int) : SV := .view 1 (l.map fun i => [.int .i64 i])
theorem uses_s (x : Ins) : SCalls Try.prog 141 [.agg (icv x)] [] 0 (iv (usesL x)) [] := by
  refine scalls_of (N := 31) Try.func141 rfl rfl (by kernel_rfl) comp_c_uses (by simp) ⟨rfl, trivial⟩ trivial ?_
  rintro X hP hN hm
  have fin0 : ∀ y nx, usesL x = [] → QFun X (Try.f141).results.toList 0 (iv (usesL x)) [] .ret ⟨[(2, .nilsl)], [(0, y)], nx⟩ := fun y nx h => by
    rw [h]
    exact qfun_done (s' := ⟨[(2, .view 1 [])], [], 0⟩) (wk_list [] hm rfl (by simp) (by simp -implicitDefEqProofs) trivial) (by simp -implicitDefEqProofs [hP, resOf, resL, resV, one_, iv]) trivial (by simp)
  have fin1 : ∀ y id a nx, id ≠ 0 → usesL x = [a] → QFun X (Try.f141).results.toList 0 (iv (usesL x)) [] .ret ⟨[(2, .own id 1)], [(0, y), (id, .row 3 1 [[.int .i64 a]])], nx⟩ := fun y id a nx h0 h => by
    have h0' := Ne.symm h0
    rw [h]
    exact qfun_done (s' := ⟨[(2, .view 1 [[.int .i64 a]])], [], 0⟩) (wk_fz [id] [] hm (by simp) (by simp -implicitDefEqProofs [h0, h0']) rfl (by simp) (by simp -implicitDefEqProofs [h0, h0']) trivial) (by simp -implicitDefEqProofs [hP, resOf, resL, resV, one_, iv]) trivial (by simp)
  have fin2 : ∀ y id a b nx, id ≠ 0 → usesL x = [a, b] → QFun X (Try.f141).results.toList 0 (iv (usesL x)) [] .ret ⟨[(2, .own id 2)], [(0, y), (id, .row 3 1 [[.int .i64 a], [.int .i64 b]])], nx⟩ := fun y id a b nx h0 h => by
    have h0' := Ne.symm h0
    rw [h]
    exact qfun_done (s' := ⟨[(2, .view 1 [[.int .i64 a], [.int .i64 b]])], [], 0⟩) (wk_fz [id] [] hm (by simp) (by simp -implicitDefEqProofs [h0, h0']) rfl (by simp) (by simp -implicitDefEqProofs [h0, h0']) trivial) (by simp -implicitDefEqProofs [hP, resOf, resL, resV, one_, iv]) trivial (by simp)
  unfold c_uses
  repeat' (first
      | (with_reducible refine swp_seq ?_)
      | ((with_reducible refine swp_reg ?_); (try rw [hP]); simp -implicitDefEqProofs [icv, *])
      | ((with_reducible refine swp_regd (by rw [hP]; exact mixed) ?_); (try rw [hP]); simp -implicitDefEqProofs [icv, *])
      | ((with_reducible refine swp_skip ?_); (try simp -implicitDefEqProofs [icv, *]))
      | ((with_reducible refine swp_exit ?_); (try simp -implicitDefEqProofs [icv, *]))
      | ((with_reducible refine swp_ret ?_); (try simp only [qseq_r, qblock_r, qloop_r]))
      | ((with_reducible refine swp_cond rfl (fun h => ?_) (fun h => ?_)) <;> have h' := h <;> (try simp at h') <;> (try subst h'))
      | ((with_reducible refine sopsg_cases (fun h => ?_) (fun h => ?_)) <;> have h' := h <;> (try simp at h') <;> (try subst h') <;> simp -implicitDefEqProofs [icv, *])
      | ((with_reducible refine draw_ok ?_ ?_); (focus rfl))
      | ((with_reducible refine sopsk_rg ?_ ?_); (first | omega | (unfold maxLen; omega)); simp -implicitDefEqProofs [icv, *])
      | (with_reducible refine swp_block1 ?_)
      | (with_reducible refine swp_block2 ?_)
      | (refine fin0 _ _ ?_)
      | (refine fin1 _ _ _ _ (by decide) ?_)
      | (refine fin2 _ _ _ _ _ (by decide) ?_))
  all_goals (unfold usesL; simp_all)
def knBin (k : Int) (a b : Kn) : Kn :=
  let room := if k = 3 ∧ b.just = true ∧ 0 ≤ a.room ∧ b.n ≤ IntKind.u64.wrap a.room then IntKind.i64.wrap (a.room - IntKind.i64.wrap b.n) else -1
  if k = 3 ∧ a.just = true ∧ b.just = true then ⟨true, true, IntKind.u64.wrap (a.n + b.n), room⟩ else ⟨true, false, 0, room⟩
theorem gbin_s (k : Int) (a b : Kn) : SCalls Try.prog 142 [.int .i64 k, .agg (kc a), .agg (kc b)] [] 0 (.agg (kc (knBin k a b))) [] := by
  refine scalls_of (N := 53) Try.func142 rfl rfl (by kernel_rfl) comp_c_gbin (by simp) ⟨rfl, rfl, rfl, trivial⟩ trivial ?_
  rintro X hP hN hm
  have fin : ∀ x y z cs nx, CoL cs (kc (knBin k a b)) → QFun X (Try.f142).results.toList 0 (.agg (kc (knBin k a b))) [] .ret ⟨[(6, .ptr 2 0)], [(0, x), (1, y), (2, .cells 151 cs), (11, z)], nx⟩ := fun x y z cs nx hc =>
    qfun_done (s' := ⟨[(6, .ptr 2 0)], [(2, .cells 151 (kc (knBin k a b)))], 3⟩) (wk_list [(2, 2)] hm rfl (by simp) (by simp -implicitDefEqProofs) (by simp -implicitDefEqProofs; exact hc)) (by simp -implicitDefEqProofs [hP, resOf, resL, resV, agg_known, size_known, one_, kc]) trivial (by simp)
  unfold c_gbin
  repeat' (first
      | (with_reducible refine swp_seq ?_)
      | ((with_reducible refine swp_reg ?_); (try rw [hP]); simp -implicitDefEqProofs [kc, knSome, *])
      | ((with_reducible refine swp_regd (by rw [hP]; exact mixed) ?_); (try rw [hP]); simp -implicitDefEqProofs [kc, knSome, *])
      | ((with_reducible refine swp_skip ?_); (try simp -implicitDefEqProofs [kc, knSome, *]))
      | ((with_reducible refine swp_exit ?_); (try simp -implicitDefEqProofs [kc, knSome, *]))
      | ((with_reducible refine swp_ret ?_); (try simp only [qseq_r, qblock_r, qloop_r]))
      | ((with_reducible refine swp_cond rfl (fun h => ?_) (fun h => ?_)) <;> have h' := h <;> (try simp at h') <;> (try subst h'))
      | ((with_reducible refine sopsg_cases (fun h => ?_) (fun h => ?_)) <;> have h' := h <;> (try simp at h') <;> (try subst h') <;> simp -implicitDefEqProofs [kc, knSome, *])
      | ((with_reducible refine draw_ok ?_ ?_); (focus rfl))
      | ((with_reducible refine sopsk_rg ?_ ?_); (first | omega | (unfold maxLen; omega)); simp -implicitDefEqProofs [kc, knSome, *])
      | (with_reducible refine swp_block1 ?_)
      | (with_reducible refine swp_block2 ?_)
      | (refine call_q (call_gsome _) ?_; simp -implicitDefEqProofs [kc, knSome, *])
      | (refine fin _ _ _ _ _ ?_))
  all_goals (unfold knBin; simp_all [kc])
  all_goals (rw [if_neg (by omega)]; exact Co.refl _)
end Go.Proofs.Ytfakdapglbgokaa

/-
  Package guard, in the plain machine: call. No condition.
-/
namespace Go.Proofs.Ytfakdapglbgokaa
set_option linter.all false
open Go.RowKit
attribute [local simp] sops_nil sops_run sopsk_some sops_call sops_guard sopsg_yes sopsg_tf sopsg_ft sopsg_undef rg_true SOp.run SX.ev putd puts argS upds SOp.touch SSt.keep SSt.skip gets geth puth delh idOf SV.cells? setL fillS fillR sbin eq0 eq1 eqL rowOf qseq_n qseq_e qseq_r qblock_n qblock_r qblock_e qloop_e qloop_r take_map_len FrzOk pureV_int pureV_bool pureV_str pureV_nil pureV_nilsl pureV_view pureV_cp pureL_nil_ pureL_cons_ pureO_row pureO_cells frzS frzH frz frz1 frz0 SlotsM ObjsM ObjM rn ren ren1 ren0 co_self co_int co_own co_view co_nilsl co_agg co_tup CoL coll_self mergeH dels adds idsH okNames
def scv (t : Shape) : List SV := [.int .i64 t.keys, .int .i64 t.acts, .int .i64 t.args]
/-- What a guard looks at. -/
def gcp (tabs : List Shape) : SV := .cp [.any, .view 3 (tabs.map scv), .any, .any]
def slotsAll (sl : List Bool) (a n : Nat) : Bool := (List.range n).all fun i => sl.getD (a + i) false
def slotsSet (sl : List Bool) (a : Nat) : Nat → List Bool
  | 0 => sl
  | n + 1 => (slotsSet sl a n).set (a + n) true
theorem slotsSet_len (sl : List Bool) (a : Nat) : ∀ n, (slotsSet sl a n).length = sl.length
  | 0 => rfl
  | n + 1 => by rw [slotsSet, List.length_set, slotsSet_len sl a n]
theorem slotsAll_zero (sl : List Bool) (a : Nat) : slotsAll sl a 0 = true := rfl
theorem slotsAll_succ (sl : List Bool) (a n : Nat) : slotsAll sl a (n + 1) = (slotsAll sl a n && sl.getD (a + n) false) := by
  unfold slotsAll
  rw [List.range_succ, List.all_append]; simp
theorem slotsAll_no {sl : List Bool} {a i : Nat} (h : sl.getD (a + i) false = false) : ∀ {n}, i < n → slotsAll sl a n = false
  | n + 1, hn => by
    rw [slotsAll_succ]
    rcases Nat.lt_or_ge i n with h1 | h1
    · rw [slotsAll_no h h1]; rfl
    · obtain rfl : i = n := by omega
      rw [h, Bool.and_false]
/-- What fits of an instruction. -/
structure InsP (slots : Int) (tabs : List Shape) (x : Ins) : Prop where
  r : 0 ≤ x.r ∧ x.r < 10
  s : x.op ≠ 13 → 0 ≤ x.s ∧ x.s < 10
  n0 : 0 ≤ x.n
  k6 : x.op = 6 → 1 ≤ x.k ∧ x.k ≤ 8 ∧ x.n ≤ 600
  n7 : x.op = 7 ∨ x.op = 8 → x.n < slots
  n9 : x.op = 9 → x.n ≤ 600
  tn : x.op = 13 → x.n < tabs.length
  t : x.op = 13 → 1 ≤ (nth tabs x.n.toNat).keys ∧ (nth tabs x.n.toNat).keys ≤ 3 ∧ 0 ≤ (nth tabs x.n.toNat).args ∧ (nth tabs x.n.toNat).args ≤ 3
  ts : x.op = 13 → 0 ≤ x.s ∧ x.s ≤ slots - (nth tabs x.n.toNat).keys
  tk : x.op = 13 → 0 ≤ x.k ∧ x.k ≤ slots - (nth tabs x.n.toNat).args
  sl : 0 ≤ slots ∧ slots ≤ 96
def gCall (t : Shape) (x : Ins) (s : GSt) : GSt × Int :=
  if slotsAll s.slots x.s.toNat t.keys.toNat then (⟨s.there, s.regs.set x.r.toNat knSome, slotsSet s.slots x.k.toNat t.args.toNat⟩, 0) else (s, 15)
def gres (r : GSt × Int) : SV := .tup [.agg (stc r.1), .int .i64 r.2]
theorem zst_list : zst = [(.bool false), (.bool false), (.bool false), (.int .u64 0), (.int .i64 0)] ++ zst.drop 5 := rfl
theorem gcall_s (tabs : List Shape) (slots : Int) (x : Ins) (s : GSt) (hx : InsP slots tabs x) (hop : x.op = 13) (hs : GOk s) : SCalls Try.prog 144 [gcp tabs, .agg (icv x), .agg (stc s)] [] 0 (gres (gCall (nth tabs x.n.toNat) x s)) [] := by
  refine scalls_of (N := 53) Try.func144 rfl rfl (by kernel_rfl) comp_c_gcall (by simp) ⟨rfl, rfl, stc_lt _ _, trivial⟩ trivial ?_
  rintro X hP hN hm
  have l1 := stc_len hs
  obtain ⟨n, hn⟩ : ∃ n : Nat, x.n = n := ⟨x.n.toNat, by have := hx.n0; omega⟩
  have hn1 : n < tabs.length := by have := hx.tn hop; omega
  have ht := hx.t hop
  have h2 := hx.ts hop
  have h3 := hx.tk hop
  have h4 := hx.sl
  have h5 := hx.r
  replace hx := Lib.hid hx
  rw [hn, Int.toNat_natCast, nth_lt tabs n hn1] at ht h2 h3 ⊢
  generalize htt : tabs[n] = t at ht h2 h3 ⊢
  obtain ⟨K, hK⟩ : ∃ n : Nat, t.keys = n := ⟨t.keys.toNat, by omega⟩
  obtain ⟨A, hA⟩ : ∃ n : Nat, t.args = n := ⟨t.args.toNat, by omega⟩
  obtain ⟨S, hS⟩ : ∃ n : Nat, x.s = n := ⟨x.s.toNat, by omega⟩
  obtain ⟨D, hD⟩ : ∃ n : Nat, x.k = n := ⟨x.k.toNat, by omega⟩
  obtain ⟨R, hR⟩ : ∃ n : Nat, x.r = n := ⟨x.r.toNat, by omega⟩
  rw [hK, hS] at h2
  rw [hA, hD] at h3
  rw [hK, hA] at ht
  rw [hR] at h5
  have fin : ∀ y z u cs nx, cs = stc (gCall t x s).1 → ∀ e, e = (gCall t x s).2 → QFun X [ResultVar.cell 6 155, ResultVar.tmp 7] 0 (gres (gCall t x s)) [] .ret ⟨[(6, .ptr 2 0), (7, .int .i64 e)], [(0, y), (1, z), (2, .cells 155 cs), (3, u)], nx⟩ := fun y z u cs nx hc e he => by
    subst hc he
    have hok : GOk (gCall t x s).1 := by
      unfold gCall
      split
      · exact ⟨by simp [hs.r], by rw [slotsSet_len]; exact hs.s⟩
      · exact hs
    exact qfun_done (s' := ⟨[(6, .ptr 2 0), (7, .int .i64 (gCall t x s).2)], [(2, .cells 155 (stc (gCall t x s).1))], 3⟩) (wk_list [(2, 2)] hm rfl (by simp) (by simp -implicitDefEqProofs) (by simp -implicitDefEqProofs [stc_ren, coL_self])) (by simp -implicitDefEqProofs [hP, resOf, resL, resV, agg_state, size_state, stc_len hok, stc_take hok, one_, gres]) trivial (by simp)
  unfold c_gcall
  repeat' (first
      | (with_reducible refine swp_seq ?_)
      | ((with_reducible refine swp_reg ?_); (try rw [hP]); simp -implicitDefEqProofs [gcp, icv, scv, kc_len, stc_get0, stc_take hs, *])
      | ((with_reducible refine swp_regd (by rw [hP]; exact mixed) ?_); (try rw [hP]); simp -implicitDefEqProofs [gcp, icv, scv, kc_len, stc_get0, stc_take hs, *])
      | ((with_reducible refine swp_skip ?_); (try simp -implicitDefEqProofs [gcp, icv, scv, kc_len, stc_get0, stc_take hs, *]))
      | ((with_reducible refine swp_exit ?_); (try simp -implicitDefEqProofs [gcp, icv, scv, kc_len, stc_get0, stc_take hs, *]))
      | ((with_reducible refine swp_ret ?_); (try simp only [qseq_r, qblock_r, qloop_r]))
      | ((with_reducible refine swp_cond rfl (fun h => ?_) (fun h => ?_)) <;> have h' := h <;> (try simp at h') <;> (try subst h'))
      | ((with_reducible refine sopsg_cases (fun h => ?_) (fun h => ?_)) <;> have h' := h <;> (try simp at h') <;> (try subst h') <;> simp -implicitDefEqProofs [gcp, icv, scv, kc_len, stc_get0, stc_take hs, *])
      | ((with_reducible refine draw_ok ?_ ?_); (focus rfl))
      | ((with_reducible refine sopsk_rg ?_ ?_); (first | omega | (unfold maxLen; omega)); simp -implicitDefEqProofs [gcp, icv, scv, kc_len, stc_get0, stc_take hs, *])
      | (with_reducible refine swp_block1 ?_)
      | (with_reducible refine swp_block2 ?_))
  refine swp_block (swp_loop (fun s' m => ∃ i : Nat, s' = ⟨[(4, .ptr 0 0), (5, .ptr 1 0), (6, .ptr 2 0), (8, .ptr 3 0), (21, .int .i64 K), (22, .int .i64 i)], [(0, .cells 56 [.int .i64 13, .int .i64 R, .int .i64 S, .int .i64 D, .int .i64 x.to, .int .u64 n]), (1, .cells 155 (stc s)), (2, .cells 155 zst), (3, .cells 123 [.int .i64 K, .int .i64 t.acts, .int .i64 A])], 4⟩ ∧ i ≤ K ∧ slotsAll s.slots S i = true ∧ m = K - i) (wk_list [(0, 0), (1, 1), (2, 2), (3, 13)] hm rfl (by simp) (by simp -implicitDefEqProofs) (by refine And.intro ⟨_, rfl, rfl, .refl _⟩ (And.intro ⟨_, rfl, rfl, ?_⟩ (And.intro ⟨_, rfl, rfl, ?_⟩ (And.intro ⟨_, rfl, rfl, .refl _⟩ trivial))); (rw [stc_ren]; exact .refl _); (rw [zst_ren]; exact .refl _))) ⟨0, rfl, by omega, rfl, rfl⟩ ?_)
  rintro s' m ⟨i, rfl, h1, h6, rfl⟩
  unfold c_gcall_l1
  rcases Nat.lt_or_ge i K with hi | hi
  · have hlt : S + i < s.slots.length := by rw [hs.s]; omega
    have g1 := stc_slot hs hlt
    have g2 : IntKind.i64.wrap ((S : Int) + i) = ((S + i : Nat) : Int) := by rw [i64_add_ (by omega) (by omega)]; omega
    have g4 : ((S : Int) + (i : Int)).toNat = S + i := by omega
    have g3 : S + i < 96 := by omega
    cases hb : s.slots[S + i] <;> rw [hb] at g1
    ·
      repeat' (first
          | (with_reducible refine swp_seq ?_)
          | ((with_reducible refine swp_reg ?_); (try rw [hP]); simp -implicitDefEqProofs [zst_len, stc_take hs, *])
          | ((with_reducible refine swp_regd (by rw [hP]; exact mixed) ?_); (try rw [hP]); simp -implicitDefEqProofs [zst_len, stc_take hs, *])
          | ((with_reducible refine swp_skip ?_); (try simp -implicitDefEqProofs [zst_len, stc_take hs, *]))
          | ((with_reducible refine swp_exit ?_); (try simp -implicitDefEqProofs [zst_len, stc_take hs, *]))
          | ((with_reducible refine swp_ret ?_); (try simp only [qseq_r, qblock_r, qloop_r]))
          | ((with_reducible refine swp_cond rfl (fun h => ?_) (fun h => ?_)) <;> have h' := h <;> (try simp at h') <;> (try subst h'))
          | ((with_reducible refine sopsg_cases (fun h => ?_) (fun h => ?_)) <;> have h' := h <;> (try simp at h') <;> (try subst h') <;> simp -implicitDefEqProofs [zst_len, stc_take hs, *])
          | ((with_reducible refine draw_ok ?_ ?_); (focus rfl))
          | ((with_reducible refine sopsk_rg ?_ ?_); (first | omega | (unfold maxLen; omega)); simp -implicitDefEqProofs [zst_len, stc_take hs, *])
          | (with_reducible refine swp_block1 ?_)
          | (with_reducible refine swp_block2 ?_)
          | (with_reducible refine fin _ _ _ _ _ ?_ _ ?_))
      all_goals
        have hno : slotsAll s.slots S K = false := slotsAll_no (by rw [List.getD_eq_getElem?_getD, List.getElem?_eq_getElem hlt, hb]; rfl) hi
        have hc : gCall t x s = (s, 15) := by unfold gCall; rw [hS, hK, Int.toNat_natCast, Int.toNat_natCast, hno]; rfl
        rw [hc]
      exact setL_whole (by rw [l1]; exact zst_len)
    ·
      repeat' (first
          | (with_reducible refine swp_seq ?_)
          | ((with_reducible refine swp_reg ?_); (try rw [hP]); simp -implicitDefEqProofs [zst_len, *])
          | ((with_reducible refine swp_regd (by rw [hP]; exact mixed) ?_); (try rw [hP]); simp -implicitDefEqProofs [zst_len, *])
          | ((with_reducible refine swp_skip ?_); (try simp -implicitDefEqProofs [zst_len, *]))
          | ((with_reducible refine swp_exit ?_); (try simp -implicitDefEqProofs [zst_len, *]))
          | ((with_reducible refine swp_ret ?_); (try simp only [qseq_r, qblock_r, qloop_r]))
          | ((with_reducible refine swp_cond rfl (fun h => ?_) (fun h => ?_)) <;> have h' := h <;> (try simp at h') <;> (try subst h'))
          | ((with_reducible refine sopsg_cases (fun h => ?_) (fun h => ?_)) <;> have h' := h <;> (try simp at h') <;> (try subst h') <;> simp -implicitDefEqProofs [zst_len, *])
          | ((with_reducible refine draw_ok ?_ ?_); (focus rfl))
          | ((with_reducible refine sopsk_rg ?_ ?_); (first | omega | (unfold maxLen; omega)); simp -implicitDefEqProofs [zst_len, *])
          | (with_reducible refine swp_block1 ?_)
          | (with_reducible refine swp_block2 ?_)
          | ((rw [i64_add_ (by omega) (by omega)]; refine qloop_next (wk_list [(0, 0), (1, 1), (2, 2), (3, 3)] hm rfl (by simp) ?_ ?_) ⟨i + 1, rfl, by omega, ?_, rfl⟩ (by omega); (focus (simp -implicitDefEqProofs; done)); (focus (simp -implicitDefEqProofs [stc_ren, zst_ren, coL_self]; done)))))
      rw [slotsAll_succ, h6, List.getD_eq_getElem?_getD, List.getElem?_eq_getElem hlt, hb]; rfl
  · obtain rfl : i = K := by omega
    repeat' (first
        | (with_reducible refine swp_seq ?_)
        | ((with_reducible refine swp_reg ?_); (try rw [hP]); simp -implicitDefEqProofs [zst_len, *])
        | ((with_reducible refine swp_regd (by rw [hP]; exact mixed) ?_); (try rw [hP]); simp -implicitDefEqProofs [zst_len, *])
        | ((with_reducible refine swp_skip ?_); (try simp -implicitDefEqProofs [zst_len, *]))
        | ((with_reducible refine swp_exit ?_); (try simp -implicitDefEqProofs [zst_len, *]))
        | ((with_reducible refine swp_ret ?_); (try simp only [qseq_r, qblock_r, qloop_r]))
        | ((with_reducible refine swp_cond rfl (fun h => ?_) (fun h => ?_)) <;> have h' := h <;> (try simp at h') <;> (try subst h'))
        | ((with_reducible refine sopsg_cases (fun h => ?_) (fun h => ?_)) <;> have h' := h <;> (try simp at h') <;> (try subst h') <;> simp -implicitDefEqProofs [zst_len, *])
        | ((with_reducible refine draw_ok ?_ ?_); (focus rfl))
        | ((with_reducible refine sopsk_rg ?_ ?_); (first | omega | (unfold maxLen; omega)); simp -implicitDefEqProofs [zst_len, *])
        | (with_reducible refine swp_block1 ?_)
        | (with_reducible refine swp_block2 ?_))
    have hyes : gCall t x s = (⟨s.there, s.regs.set R knSome, slotsSet s.slots D A⟩, 0) := by unfold gCall; rw [hS, hK, hR, hD, hA, Int.toNat_natCast, Int.toNat_natCast, Int.toNat_natCast, Int.toNat_natCast, Int.toNat_natCast, h6]; rfl
    replace hyes := Lib.hid hyes
    refine swp_block (swp_loop (fun s' m => ∃ j : Nat, s' = ⟨[(4, .ptr 0 0), (5, .ptr 1 0), (6, .ptr 2 0), (36, .int .i64 A), (37, .int .i64 j)], [(0, .cells 56 [.int .i64 13, .int .i64 R, .int .i64 S, .int .i64 D, .int .i64 x.to, .int .u64 n]), (1, .cells 155 (stc ⟨s.there, s.regs, slotsSet s.slots D j⟩)), (2, .cells 155 zst), (3, .cells 123 [.int .i64 i, .int .i64 t.acts, .int .i64 A])], 4⟩ ∧ j ≤ A ∧ m = A - j) (wk_list [(0, 0), (1, 1), (2, 2), (3, 3)] hm rfl (by simp) (by simp -implicitDefEqProofs) (by simp -implicitDefEqProofs [slotsSet, stc_ren, zst_ren, coL_self])) ⟨0, rfl, by omega, rfl⟩ ?_)
    rintro s' m ⟨j, rfl, h7, rfl⟩
    unfold c_gcall_l2
    have hok : GOk ⟨s.there, s.regs, slotsSet s.slots D j⟩ := ⟨hs.r, by rw [slotsSet_len]; exact hs.s⟩
    have l2 := stc_len hok
    rcases Nat.lt_or_ge j A with hj | hj
    · have hlt : D + j < (slotsSet s.slots D j).length := by rw [slotsSet_len, hs.s]; omega
      have g1 := stc_setslot hok (b := true) hlt
      have g2 : IntKind.i64.wrap ((D : Int) + j) = ((D + j : Nat) : Int) := by rw [i64_add_ (by omega) (by omega)]; omega
      have g4 : ((D : Int) + (j : Int)).toNat = D + j := by omega
      have g3 : D + j < 96 := by omega
      have g5 : 41 + (D + j) + 1 ≤ 137 := by omega
      repeat' (first
          | (with_reducible refine swp_seq ?_)
          | ((with_reducible refine swp_reg ?_); (try rw [hP]); simp -implicitDefEqProofs [zst_len, *])
          | ((with_reducible refine swp_regd (by rw [hP]; exact mixed) ?_); (try rw [hP]); simp -implicitDefEqProofs [zst_len, *])
          | ((with_reducible refine swp_skip ?_); (try simp -implicitDefEqProofs [zst_len, *]))
          | ((with_reducible refine swp_exit ?_); (try simp -implicitDefEqProofs [zst_len, *]))
          | ((with_reducible refine swp_ret ?_); (try simp only [qseq_r, qblock_r, qloop_r]))
          | ((with_reducible refine swp_cond rfl (fun h => ?_) (fun h => ?_)) <;> have h' := h <;> (try simp at h') <;> (try subst h'))
          | ((with_reducible refine sopsg_cases (fun h => ?_) (fun h => ?_)) <;> have h' := h <;> (try simp at h') <;> (try subst h') <;> simp -implicitDefEqProofs [zst_len, *])
          | ((with_reducible refine draw_ok ?_ ?_); (focus rfl))
          | ((with_reducible refine sopsk_rg ?_ ?_); (first | omega | (unfold maxLen; omega)); simp -implicitDefEqProofs [zst_len, *])
          | (with_reducible refine swp_block1 ?_)
          | (with_reducible refine swp_block2 ?_)
          | ((rw [i64_add_ (by omega) (by omega)]; refine qloop_next (wk_list [(0, 0), (1, 1), (2, 2), (3, 3)] hm rfl (by simp) ?_ ?_) ⟨j + 1, rfl, by omega, rfl⟩ (by omega); (focus (simp -implicitDefEqProofs; done)); (focus (simp -implicitDefEqProofs [slotsSet, stc_ren, zst_ren, coL_self]; done)))))
    · obtain rfl : j = A := by omega
      have hR10 : R < s.regs.length := by rw [hs.r]; omega
      have g1 := stc_setreg (s := ⟨s.there, s.regs, slotsSet s.slots D j⟩) (k := knSome) hR10
      have g5 : 1 + R * 4 + 4 ≤ 137 := by omega
      have hok2 : GOk ⟨s.there, s.regs.set R knSome, slotsSet s.slots D j⟩ := ⟨by simp [hs.r], by rw [slotsSet_len]; exact hs.s⟩
      have l3 := stc_len hok2
      repeat' (first
          | (with_reducible refine swp_seq ?_)
          | ((with_reducible refine swp_reg ?_); (try rw [hP]); simp -implicitDefEqProofs [zst_len, kc_len, stc_take hok2, *])
          | ((with_reducible refine swp_regd (by rw [hP]; exact mixed) ?_); (try rw [hP]); simp -implicitDefEqProofs [zst_len, kc_len, stc_take hok2, *])
          | ((with_reducible refine swp_skip ?_); (try simp -implicitDefEqProofs [zst_len, kc_len, stc_take hok2, *]))
          | ((with_reducible refine swp_exit ?_); (try simp -implicitDefEqProofs [zst_len, kc_len, stc_take hok2, *]))
          | ((with_reducible refine swp_ret ?_); (try simp only [qseq_r, qblock_r, qloop_r]))
          | ((with_reducible refine swp_cond rfl (fun h => ?_) (fun h => ?_)) <;> have h' := h <;> (try simp at h') <;> (try subst h'))
          | ((with_reducible refine sopsg_cases (fun h => ?_) (fun h => ?_)) <;> have h' := h <;> (try simp at h') <;> (try subst h') <;> simp -implicitDefEqProofs [zst_len, kc_len, stc_take hok2, *])
          | ((with_reducible refine draw_ok ?_ ?_); (focus rfl))
          | ((with_reducible refine sopsk_rg ?_ ?_); (first | omega | (unfold maxLen; omega)); simp -implicitDefEqProofs [zst_len, kc_len, stc_take hok2, *])
          | (with_reducible refine swp_block1 ?_)
          | (with_reducible refine swp_block2 ?_)
          | (refine call_q (call_gsome _) ?_; simp -implicitDefEqProofs [zst_len, kc_len, stc_take hok2, *])
          | (with_reducible refine fin _ _ _ _ _ ?_ _ ?_))
      all_goals rw [hyes.out]
      exact setL_whole (by rw [l3]; exact zst_len)
end Go.Proofs.Ytfakdapglbgokaa
