/-
  Texts joined: XTabO XOpen XShV. No condition.
-/
import Derived.Deep.Slices
import Derived.Test.YtfakdapglbgokaaI16
import Derived.Test.YtfakdapglbgokaaI2
import Derived.Test.YtfakdapglbgokaaI14
/-
  References: Ones, in the plain machine. No condition.
-/
namespace Go.Proofs.Ytfakdapglbgokaa
set_option linter.all false
open Go.RowKit

theorem pow_i (i : Nat) (h : i < 64) : (2 : Int) ^ i ≤ 9223372036854775808 ∧ (0 : Int) < 2 ^ i := by
  have h1 : 2 ^ i ≤ 2 ^ 63 := Nat.pow_le_pow_right (by omega) (by omega)
  have h2 : 0 < 2 ^ i := Nat.two_pow_pos i
  have e : ((2 : Int) ^ i) = ((2 ^ i : Nat) : Int) := by simp
  rw [e]; omega
theorem ones_s (k : Int) : SCalls Try.prog 22 [.int .i64 k] [] 0 (.int .u64 (if k ≤ 64 then 2 ^ k.toNat - 1 else 0)) [] := by
  refine scalls_of (N := 18) Try.func22 rfl rfl (by kernel_rfl) comp_c_ones (by simp) ⟨rfl, trivial⟩ trivial ?_
  rintro X hP hN hm
  unfold c_ones
  refine swp_seq (swp_reg ?_)
  simp -implicitDefEqProofs [c_ones_r1, sops_nil, sops_run, sopsk_some, sops_call, sops_guard, sopsg_yes, sopsg_tf, sopsg_ft, sopsg_undef, rg_true, SOp.run, SX.ev, putd, puts, argS, upds, SOp.touch, SSt.keep, SSt.skip, gets, geth, puth, delh, idOf, SV.cells?, setL, fillS, fillR, sbin, eq0, eq1, eqL, rowOf, qseq_n, qseq_e, qseq_r, qblock_n, qblock_r, qblock_e, qloop_e, qloop_r]
  refine swp_seq (swp_reg ?_)
  simp -implicitDefEqProofs [c_ones_r2, sops_nil, sops_run, sopsk_some, sops_call, sops_guard, sopsg_yes, sopsg_tf, sopsg_ft, sopsg_undef, rg_true, SOp.run, SX.ev, putd, puts, argS, upds, SOp.touch, SSt.keep, SSt.skip, gets, geth, puth, delh, idOf, SV.cells?, setL, fillS, fillR, sbin, eq0, eq1, eqL, rowOf, qseq_n, qseq_e, qseq_r, qblock_n, qblock_r, qblock_e, qloop_e, qloop_r]
  refine swp_seq (swp_seq (swp_reg ?_))
  simp -implicitDefEqProofs [c_ones_r3, sops_nil, sops_run, sopsk_some, sops_call, sops_guard, sopsg_yes, sopsg_tf, sopsg_ft, sopsg_undef, rg_true, SOp.run, SX.ev, putd, puts, argS, upds, SOp.touch, SSt.keep, SSt.skip, gets, geth, puth, delh, idOf, SV.cells?, setL, fillS, fillR, sbin, eq0, eq1, eqL, rowOf, qseq_n, qseq_e, qseq_r, qblock_n, qblock_r, qblock_e, qloop_e, qloop_r]
  refine swp_block (swp_loop (fun s n => ∃ i : Nat, s = ⟨[(0, .int .i64 k), (3, .int .u64 (2 ^ i - 1)), (4, .int .i64 i)], [], 0⟩ ∧ (i : Int) ≤ 64 ∧ (0 < i → (i : Int) ≤ k ∧ k ≤ 64) ∧ n = k.toNat - i) (wk_list [] hm rfl (Nat.le_refl _) (by simp -implicitDefEqProofs [take_map_len, FrzOk, pureV_int, pureV_bool, pureV_str, pureV_nil, pureV_nilsl, pureV_view, pureV_cp, pureL_nil_, pureL_cons_, pureO_row, pureO_cells, frzS, frzH, frz, frz1, frz0, SlotsM, ObjsM, ObjM, rn, ren, ren1, ren0, gets, geth, co_self, co_int, co_own, co_view, co_nilsl, co_agg, co_tup, CoL, coll_self]) (by simp -implicitDefEqProofs [take_map_len, FrzOk, pureV_int, pureV_bool, pureV_str, pureV_nil, pureV_nilsl, pureV_view, pureV_cp, pureL_nil_, pureL_cons_, pureO_row, pureO_cells, frzS, frzH, frz, frz1, frz0, SlotsM, ObjsM, ObjM, rn, ren, ren1, ren0, gets, geth, co_self, co_int, co_own, co_view, co_nilsl, co_agg, co_tup, CoL, coll_self])) ⟨0, rfl, by omega, by omega, rfl⟩ ?_)
  rintro s n ⟨i, rfl, h1, h2, rfl⟩
  have fin : ¬ ((i : Int) < k ∧ k ≤ 64) → SWp X ((SCode.reg false c_ones_r7 [2]).seq SCode.ret) (QFun X [ResultVar.tmp 2] 0 (SV.int IntKind.u64 (if k ≤ 64 then 2 ^ k.toNat - 1 else 0)) []) ⟨[(0, .int .i64 k), (3, .int .u64 (2 ^ i - 1)), (4, .int .i64 i)], [], 5⟩ := by
    intro hn
    refine swp_seq (swp_reg ?_)
    simp -implicitDefEqProofs [c_ones_r7, sops_nil, sops_run, sopsk_some, sops_call, sops_guard, sopsg_yes, sopsg_tf, sopsg_ft, sopsg_undef, rg_true, SOp.run, SX.ev, putd, puts, argS, upds, SOp.touch, SSt.keep, SSt.skip, gets, geth, puth, delh, idOf, SV.cells?, setL, fillS, fillR, sbin, eq0, eq1, eqL, rowOf, qseq_n, qseq_e, qseq_r, qblock_n, qblock_r, qblock_e, qloop_e, qloop_r]
    refine swp_ret ?_
    refine qfun_done (s' := ⟨[(2, .int .u64 (if k ≤ 64 then 2 ^ k.toNat - 1 else 0))], [], 0⟩) (wk_list [] hm rfl (Nat.le_refl _) ?_ ?_) rfl trivial (by simp)
    · simp -implicitDefEqProofs [take_map_len, FrzOk, pureV_int, pureV_bool, pureV_str, pureV_nil, pureV_nilsl, pureV_view, pureV_cp, pureL_nil_, pureL_cons_, pureO_row, pureO_cells, frzS, frzH, frz, frz1, frz0, SlotsM, ObjsM, ObjM, rn, ren, ren1, ren0, gets, geth, co_self, co_int, co_own, co_view, co_nilsl, co_agg, co_tup, CoL, coll_self]
      refine co_int ?_
      split
      · have : k.toNat = i := by omega
        rw [this]
      · have : i = 0 := by omega
        subst this; simp
    · simp -implicitDefEqProofs [take_map_len, FrzOk, pureV_int, pureV_bool, pureV_str, pureV_nil, pureV_nilsl, pureV_view, pureV_cp, pureL_nil_, pureL_cons_, pureO_row, pureO_cells, frzS, frzH, frz, frz1, frz0, SlotsM, ObjsM, ObjM, rn, ren, ren1, ren0, gets, geth, co_self, co_int, co_own, co_view, co_nilsl, co_agg, co_tup, CoL, coll_self]
  unfold c_ones_l1
  refine swp_seq (swp_seq (swp_reg ?_))
  cases h3 : decide ((i : Int) < k) <;> simp -implicitDefEqProofs [c_ones_r4, sops_nil, sops_run, sopsk_some, sops_call, sops_guard, sopsg_yes, sopsg_tf, sopsg_ft, sopsg_undef, rg_true, SOp.run, SX.ev, putd, puts, argS, upds, SOp.touch, SSt.keep, SSt.skip, gets, geth, puth, delh, idOf, SV.cells?, setL, fillS, fillR, sbin, eq0, eq1, eqL, rowOf, qseq_n, qseq_e, qseq_r, qblock_n, qblock_r, qblock_e, qloop_e, qloop_r, h3]
  · simp at h3
    refine swp_cond rfl (by simp) fun _ => swp_exit ?_
    simp -implicitDefEqProofs [sops_nil, sops_run, sopsk_some, sops_call, sops_guard, sopsg_yes, sopsg_tf, sopsg_ft, sopsg_undef, rg_true, SOp.run, SX.ev, putd, puts, argS, upds, SOp.touch, SSt.keep, SSt.skip, gets, geth, puth, delh, idOf, SV.cells?, setL, fillS, fillR, sbin, eq0, eq1, eqL, rowOf, qseq_n, qseq_e, qseq_r, qblock_n, qblock_r, qblock_e, qloop_e, qloop_r]
    refine swp_wk (wk_list (s' := ⟨_, _, 5⟩) [] hm rfl (by simp) ?_ ?_) (fin (by omega))
    · simp -implicitDefEqProofs [take_map_len, FrzOk, pureV_int, pureV_bool, pureV_str, pureV_nil, pureV_nilsl, pureV_view, pureV_cp, pureL_nil_, pureL_cons_, pureO_row, pureO_cells, frzS, frzH, frz, frz1, frz0, SlotsM, ObjsM, ObjM, rn, ren, ren1, ren0, gets, geth, co_self, co_int, co_own, co_view, co_nilsl, co_agg, co_tup, CoL, coll_self]
    · simp -implicitDefEqProofs [take_map_len, FrzOk, pureV_int, pureV_bool, pureV_str, pureV_nil, pureV_nilsl, pureV_view, pureV_cp, pureL_nil_, pureL_cons_, pureO_row, pureO_cells, frzS, frzH, frz, frz1, frz0, SlotsM, ObjsM, ObjM, rn, ren, ren1, ren0, gets, geth, co_self, co_int, co_own, co_view, co_nilsl, co_agg, co_tup, CoL, coll_self]
  · simp at h3
    refine swp_cond rfl (fun h4 => swp_skip ?_) fun h4 => swp_exit ?_
    · simp at h4
      simp -implicitDefEqProofs [sops_nil, sops_run, sopsk_some, sops_call, sops_guard, sopsg_yes, sopsg_tf, sopsg_ft, sopsg_undef, rg_true, SOp.run, SX.ev, putd, puts, argS, upds, SOp.touch, SSt.keep, SSt.skip, gets, geth, puth, delh, idOf, SV.cells?, setL, fillS, fillR, sbin, eq0, eq1, eqL, rowOf, qseq_n, qseq_e, qseq_r, qblock_n, qblock_r, qblock_e, qloop_e, qloop_r]
      refine swp_seq (swp_block (swp_reg ?_))
      simp -implicitDefEqProofs [c_ones_r5, sops_nil, sops_run, sopsk_some, sops_call, sops_guard, sopsg_yes, sopsg_tf, sopsg_ft, sopsg_undef, rg_true, SOp.run, SX.ev, putd, puts, argS, upds, SOp.touch, SSt.keep, SSt.skip, gets, geth, puth, delh, idOf, SV.cells?, setL, fillS, fillR, sbin, eq0, eq1, eqL, rowOf, qseq_n, qseq_e, qseq_r, qblock_n, qblock_r, qblock_e, qloop_e, qloop_r]
      refine swp_reg ?_
      simp -implicitDefEqProofs [c_ones_r6, sops_nil, sops_run, sopsk_some, sops_call, sops_guard, sopsg_yes, sopsg_tf, sopsg_ft, sopsg_undef, rg_true, SOp.run, SX.ev, putd, puts, argS, upds, SOp.touch, SSt.keep, SSt.skip, gets, geth, puth, delh, idOf, SV.cells?, setL, fillS, fillR, sbin, eq0, eq1, eqL, rowOf, qseq_n, qseq_e, qseq_r, qblock_n, qblock_r, qblock_e, qloop_e, qloop_r]
      have hp := pow_i i (by omega)
      have e1 : IntKind.u64.wrap (2 * (2 ^ i - 1)) = 2 * (2 ^ i - 1) := u64_in_ (by omega) (by omega)
      have e2 : IntKind.u64.wrap (2 * (2 ^ i - 1) + 1) = 2 * (2 ^ i - 1) + 1 := u64_in_ (by omega) (by omega)
      have e3 : IntKind.i64.wrap ((i : Int) + 1) = (i : Int) + 1 := i64_add_ (by omega) (by omega)
      rw [e1, e2, e3]
      refine qloop_next (wk_list [] hm rfl (Nat.le_refl _) ?_ ?_) ⟨i + 1, rfl, by omega, by omega, rfl⟩ (by omega)
      · simp -implicitDefEqProofs [take_map_len, FrzOk, pureV_int, pureV_bool, pureV_str, pureV_nil, pureV_nilsl, pureV_view, pureV_cp, pureL_nil_, pureL_cons_, pureO_row, pureO_cells, frzS, frzH, frz, frz1, frz0, SlotsM, ObjsM, ObjM, rn, ren, ren1, ren0, gets, geth, co_self, co_int, co_own, co_view, co_nilsl, co_agg, co_tup, CoL, coll_self]
        exact co_int (by rw [Int.pow_succ]; omega)
      · simp -implicitDefEqProofs [take_map_len, FrzOk, pureV_int, pureV_bool, pureV_str, pureV_nil, pureV_nilsl, pureV_view, pureV_cp, pureL_nil_, pureL_cons_, pureO_row, pureO_cells, frzS, frzH, frz, frz1, frz0, SlotsM, ObjsM, ObjM, rn, ren, ren1, ren0, gets, geth, co_self, co_int, co_own, co_view, co_nilsl, co_agg, co_tup, CoL, coll_self]
    · simp at h4
      simp -implicitDefEqProofs [sops_nil, sops_run, sopsk_some, sops_call, sops_guard, sopsg_yes, sopsg_tf, sopsg_ft, sopsg_undef, rg_true, SOp.run, SX.ev, putd, puts, argS, upds, SOp.touch, SSt.keep, SSt.skip, gets, geth, puth, delh, idOf, SV.cells?, setL, fillS, fillR, sbin, eq0, eq1, eqL, rowOf, qseq_n, qseq_e, qseq_r, qblock_n, qblock_r, qblock_e, qloop_e, qloop_r]
      refine swp_wk (wk_list (s' := ⟨_, _, 5⟩) [] hm rfl (by simp) ?_ ?_) (fin (by omega))
      · simp -implicitDefEqProofs [take_map_len, FrzOk, pureV_int, pureV_bool, pureV_str, pureV_nil, pureV_nilsl, pureV_view, pureV_cp, pureL_nil_, pureL_cons_, pureO_row, pureO_cells, frzS, frzH, frz, frz1, frz0, SlotsM, ObjsM, ObjM, rn, ren, ren1, ren0, gets, geth, co_self, co_int, co_own, co_view, co_nilsl, co_agg, co_tup, CoL, coll_self]
      · simp -implicitDefEqProofs [take_map_len, FrzOk, pureV_int, pureV_bool, pureV_str, pureV_nil, pureV_nilsl, pureV_view, pureV_cp, pureL_nil_, pureL_cons_, pureO_row, pureO_cells, frzS, frzH, frz, frz1, frz0, SlotsM, ObjsM, ObjM, rn, ren, ren1, ren0, gets, geth, co_self, co_int, co_own, co_view, co_nilsl, co_agg, co_tup, CoL, coll_self]
end Go.Proofs.Ytfakdapglbgokaa

/-
  An argument that came in: it reads as a thing that lies in cells. No program in sight. No condition.
-/
namespace Go.Proofs.Ytfakdapglbgokaa
set_option linter.all false
open Go.RowKit Go.ChangeShapes Go.WideShapes Go.Deep

/-- What reads as a datum of a type, lies in cells. -/
structure Opens (P : Program) (t : TypeId) {α : Type} (L : Lay α) : Prop where
  size : P.cellsOf t = L.size
  pos : 0 < L.size
  opn : ∀ {H : Type} {enc : TypeId × Value → H} {w : World} {fuel : Nat} {cs : List Value} {x : DataW H × List MemPlace}, DataW.trod enc P w 0 (fun _ => true) true fuel t cs = some x → ∃ a, L.rep NoA w a cs
theorem Opens.int {P : Program} {t : TypeId} {k : IntKind} (hu : P.underlying t = some (.int k)) (hc : P.cellsOf t = 1) : Opens P t (Lay.int k) :=
  ⟨hc, Nat.one_pos, fun h => by obtain ⟨n, rfl, _, hw⟩ := DataW.trod_int hu h; exact ⟨n, rfl, hw⟩⟩
theorem Opens.bool {P : Program} {t : TypeId} (hu : P.underlying t = some .bool) (hc : P.cellsOf t = 1) : Opens P t Lay.bool :=
  ⟨hc, Nat.one_pos, fun h => by obtain ⟨n, rfl, _⟩ := DataW.trod_bool hu h; exact ⟨n, rfl⟩⟩
theorem Opens.weak {P : Program} {t : TypeId} {α β : Type} {L : Lay α} {M : Lay β} (h : Opens P t L) (hs : M.size = L.size) (f : ∀ {w a cs}, L.rep NoA w a cs → ∃ b, M.rep NoA w b cs) : Opens P t M :=
  ⟨h.size.trans hs.symm, by rw [hs]; exact h.pos, fun hx => by obtain ⟨a, ha⟩ := h.opn hx; exact f ha⟩
theorem Opens.slice {P : Program} {t e : TypeId} {α : Type} {L : Lay α} (h : Opens P e L) (hu : P.underlying t = some (.slice e)) (hc : P.cellsOf t = 1) : Opens P t (Lay.slice L) := by
  refine ⟨hc, Nat.one_pos, fun {H enc w fuel cs x} hx => ?_⟩
  rcases open_slice hu hx with ⟨rfl, _⟩ | ⟨a, len, cap, m, n, D, Pl, rfl, _, hl, hm, hmm, _, hi⟩
  · exact ⟨[], none, 0, 0, rfl, RdL.nil_ _ _ _⟩
  · simp at hmm
    subst hmm
    have hs : a.spot = none ∨ m = 0 := by
      rcases Nat.eq_zero_or_pos m with e | e
      · exact .inr e
      · left
        obtain ⟨cs', hc', _⟩ := hi 0 e
        obtain ⟨_, hcl, hat⟩ := World.cells?_some hc'
        have h0 := hat 0 (by rw [h.size]; exact h.pos)
        obtain ⟨b, off, spot⟩ := a
        cases spot with
        | none => rfl
        | some s =>
          rw [List.getElem?_eq_getElem (by rw [hcl, h.size]; exact h.pos)] at h0
          simp [Addr.add, World.cell?] at h0
          split at h0 <;> simp at h0
    rcases hs with hs | rfl
    · obtain ⟨b, off, spot⟩ := a
      obtain rfl : spot = none := hs
      have hel : ∀ i, i < m → ∃ x, ∃ cs, L.rep NoA w x cs ∧ ∀ j, j < L.size → w.cell? ⟨b, off + i * L.size + j, none⟩ = cs[j]? := by
        intro i him
        obtain ⟨cs', hc', ht⟩ := hi i him
        obtain ⟨x, hr⟩ := h.opn ht
        obtain ⟨_, hcl, hat⟩ := World.cells?_some hc'
        refine ⟨x, cs', hr, fun j hj => ?_⟩
        have := hat j (by rw [h.size]; exact hj)
        rw [h.size, add_plain, add_plain] at this
        exact this
      have hex : ∀ i : Nat, ∃ x : Option α, i < m → ∃ y, x = some y ∧ ∃ cs, L.rep NoA w y cs ∧ ∀ j, j < L.size → w.cell? ⟨b, off + i * L.size + j, none⟩ = cs[j]? := by
        intro i
        by_cases him : i < m
        · obtain ⟨x, hx⟩ := hel i him
          exact ⟨some x, fun _ => ⟨x, rfl, hx⟩⟩
        · exact ⟨none, fun h => absurd h him⟩
      obtain ⟨f, hf⟩ := Classical.axiomOfChoice hex
      have hfs : ∀ i (hh : i < m), (f i).isSome := fun i hh => by obtain ⟨y, hy, _⟩ := hf i hh; rw [hy]; rfl
      let xs : List α := List.ofFn fun i : Fin len => (f i).get (hfs i (by omega))
      have hxl : xs.length = len := by simp [xs]
      refine ⟨xs, some ⟨b, off, none⟩, len, m, rfl, hxl, hl, hm, by simp, fun h0 => ?_⟩
      have hblk : b < w.heap.size := by
        obtain ⟨y, hy, cs, hr, hj⟩ := hf 0 (by omega)
        have h00 := hj 0 h.pos
        rw [List.getElem?_eq_getElem (by rw [L.len hr]; exact h.pos)] at h00
        exact block_lt_of_cell h00
      refine ⟨b, off, rfl, fun h => h, hblk, fun i hi' => ?_⟩
      obtain ⟨y, hy, cs, hr, hj⟩ := hf i (by omega)
      refine ⟨cs, ?_, hj⟩
      have : xs[i] = y := by simp [xs, hy]
      rw [this]; exact hr
    · obtain rfl : len = 0 := by omega
      refine ⟨[], some a, 0, 0, rfl, rfl, Nat.le_refl _, hm, by simp, fun h => absurd h (by omega)⟩

/-- Fields of a struct, one behind the other. -/
def OpensF (P : Program) (fs : List Field) (off : Nat) {α : Type} (L : Lay α) : Prop :=
  ∀ {H : Type} {enc : TypeId × Value → H} {w : World} {cs : List Value}, (∀ f ∈ fs, ∃ fuel x, DataW.trod enc P w 0 (fun _ => true) true fuel f.type ((cs.drop f.offset).take (P.cellsOf f.type)) = some x) → cs.length = off + L.size → ∃ a, L.rep NoA w a (cs.drop off)
theorem OpensF.one {P : Program} {f : Field} {off : Nat} {α : Type} {L : Lay α} (h : Opens P f.type L) (ho : f.offset = off) : OpensF P [f] off L := by
  intro H enc w cs hf hl
  obtain ⟨fuel, x, hx⟩ := hf f (by simp)
  rw [ho, h.size, List.take_of_length_le (by simp; omega)] at hx
  exact h.opn hx
theorem OpensF.cons {P : Program} {f : Field} {fs : List Field} {off : Nat} {α β : Type} {L : Lay α} {M : Lay β} (h : Opens P f.type L) (ho : f.offset = off) (g : OpensF P fs (off + L.size) M) : OpensF P (f :: fs) off (Lay.pair L M) := by
  intro H enc w cs hf hl
  obtain ⟨fuel, x, hx⟩ := hf f (by simp)
  rw [ho, h.size] at hx
  obtain ⟨a, ha⟩ := h.opn hx
  obtain ⟨b, hb⟩ := g (cs := cs) (fun f' hf' => hf f' (List.mem_cons_of_mem _ hf')) (by rw [hl]; show _ = _; simp only [Lay.pair]; omega)
  refine ⟨(a, b), _, _, ?_, ha, hb⟩
  rw [← List.drop_drop, List.take_append_drop]
theorem Opens.struct {P : Program} {t : TypeId} {fs : List Field} {α : Type} {L : Lay α} (hu : P.underlying t = some (.struct fs.toArray)) (h : OpensF P fs 0 L) (hc : P.cellsOf t = L.size) (hp : 0 < L.size) : Opens P t L := by
  refine ⟨hc, hp, fun {H enc w fuel cs x} hx => ?_⟩
  obtain ⟨xs, n, _, _, hl, hxl, hf⟩ := DataW.trod_struct hu hx
  have := h (cs := cs) (enc := enc) (w := w) (fun f hf' => ?_) (by rw [hl, hc, Nat.zero_add])
  · simpa using this
  · obtain ⟨i, hi, rfl⟩ := List.getElem_of_mem hf'
    refine ⟨n, xs[i]'(by rw [hxl]; simpa using hi), ?_⟩
    rw [hf i _ (by simp [hi])]
    exact List.getElem?_eq_getElem _

/-- A struct that came in by value. -/
theorem Opens.arg {P : Program} {t : TypeId} {fs : Array Field} {α : Type} {L : Lay α} (h : Opens P t L) (hu : P.underlying t = some (.struct fs)) {H : Type} {enc : TypeId × Value → H} {w : World} {r : Reach} {b0 : Nat} {v : Value} {d : DataW H} {p : List MemPlace}
    (hv : Value.okWide P w r b0 t v) (ht : DataW.Trod enc P w 0 (fun _ => true) true t v d p) : ∃ a cs, v = .agg cs ∧ L.rep NoA w a cs.toList := by
  obtain ⟨cs, rfl, _⟩ := okWide_struct hu hv
  obtain ⟨fuel, hf⟩ := ht
  obtain ⟨a, ha⟩ := h.opn hf
  exact ⟨a, cs, rfl, ha⟩
/-- A slice that came in. -/
theorem Opens.argSlice {P : Program} {t e : TypeId} {α : Type} {L : Lay α} (h : Opens P e L) (hu : P.underlying t = some (.slice e)) (hc : P.cellsOf t = 1) {H : Type} {enc : TypeId × Value → H} {w : World} {r : Reach} {b0 : Nat} {v : Value} {d : DataW H} {p : List MemPlace}
    (hv : Value.okWide P w r b0 t v) (ht : DataW.Trod enc P w 0 (fun _ => true) true t v d p) : ∃ xs ao n cap, v = .slice ao n cap ∧ RdL L NoA w ao n cap xs := by
  obtain ⟨a, len, cap, rfl⟩ := okWide_slice hu hv
  obtain ⟨fuel, hf⟩ := ht
  obtain ⟨xs, ao, n, cap', e, hr⟩ := (h.slice hu hc).opn hf
  simp [Value.cells] at e
  obtain ⟨rfl, rfl, rfl⟩ := e
  exact ⟨xs, _, _, _, rfl, hr⟩
/-- What came in avoids all new blocks. -/
theorem RdL.old {α : Type} {L : Lay α} {w : World} {ao : Option Addr} {n cap : Nat} {xs : List α} (h : RdL L NoA w ao n cap xs) : RdL L (fun k => w.heap.size ≤ k) w ao n cap xs := h.weaken fun k h1 h2 => absurd h2 (Nat.not_lt_of_le h1)
theorem RdL.still {α : Type} {L : Lay α} {B : Nat} {w w' : World} {ao : Option Addr} {n cap : Nat} {xs : List α} (h : RdL L (fun k => B ≤ k) w ao n cap xs) (hb : Below B w w') : RdL L (fun k => B ≤ k) w' ao n cap xs := h.step (.ofBelow hb fun _ h => h)
end Go.Proofs.Ytfakdapglbgokaa

/-
  What a layout says of the numbers in a thing. No condition.
-/
namespace Go.Proofs.Ytfakdapglbgokaa
set_option linter.all false
open Go.RowKit
def LayF {α : Type} (L : Lay α) (ok : α → Prop) : Prop := ∀ A w x cs, L.rep A w x cs → ok x
theorem layF_int (k : IntKind) : LayF (Lay.int k) (fun x => Fits k x) := fun A w x cs h => h.2
theorem layF_bool : LayF Lay.bool (fun _ => True) := fun A w x cs h => trivial
theorem layF_pair {α β : Type} {L : Lay α} {M : Lay β} {f : α → Prop} {g : β → Prop} (hf : LayF L f) (hg : LayF M g) : LayF (Lay.pair L M) (fun x => f x.1 ∧ g x.2) := fun A w x cs h => by
  obtain ⟨c, d, rfl, h1, h2⟩ := h
  exact ⟨hf _ _ _ _ h1, hg _ _ _ _ h2⟩
theorem layF_map {α β : Type} {L : Lay α} {f : α → Prop} (g : β → α) (hf : LayF L f) : LayF (Lay.map g L) (fun x => f (g x)) := fun A w x cs h => hf _ _ _ _ h
theorem layF_row {α : Type} {L : Lay α} {f : α → Prop} (hf : LayF L f) {A : Nat → Prop} {w : World} {ao : Option Addr} {n c : Nat} {xs : List α} (h : RdL L A w ao n c xs) : ∀ x ∈ xs, f x := fun x hx => by
  obtain ⟨i, hi0⟩ := List.getElem?_of_mem hx
  obtain ⟨hi, rfl⟩ := List.getElem?_eq_some_iff.1 hi0
  obtain ⟨b, off, _, _, _, hh⟩ := h.here (by have := h.len; omega)
  obtain ⟨cs, h1, _⟩ := hh i hi
  exact hf _ _ _ _ h1
theorem layF_slice {α : Type} {L : Lay α} {f : α → Prop} (hf : LayF L f) : LayF (Lay.slice L) (fun xs => ∀ x ∈ xs, f x) := fun A w x cs h => by
  obtain ⟨ao, n, c, rfl, h1⟩ := h
  exact layF_row hf h1
end Go.Proofs.Ytfakdapglbgokaa
