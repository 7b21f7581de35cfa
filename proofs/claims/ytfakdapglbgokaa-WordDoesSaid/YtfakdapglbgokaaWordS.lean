/-
  insForm and fits of an instruction that asks a table (13). No condition.
-/
import Derived.Test.YtfakdapglbgokaaWordV
namespace Go.Proofs.Ytfakdapglbgokaa
set_option linter.all false
open Go.RowKit

theorem slots_any (slots at_ n : Int) (to_ co : Option Addr) (tn tc cn cc : Nat) (w : World) (hs : 0 ≤ slots ∧ slots ≤ 96) (hn : 0 ≤ n ∧ n ≤ 3) :
    Calls Try.prog 135 #[.agg #[.int .i64 slots, .slice to_ tn tc, .slice co cn cc], .int .i64 at_, .int .i64 n] w fun e w' => e = .returned (.bool (slotsOk slots at_ n)) ∧ Below w.heap.size w w' := by
  obtain ⟨hs1, hs2⟩ := hs
  obtain ⟨hn1, hn2⟩ := hn
  go_enter Try.func135, Try.ntmps135
  go_wp2
  all_goals
    go_ret
    exact ⟨by simp [slotsOk, go_sem, *]; try omega, by go_grown⟩
set_option maxRecDepth 100000 in
set_option maxHeartbeats 2000000 in
theorem fits_13 (slots : Int) (to_ : Option Addr) (tc : Nat) (tabs : List Shape) (co : Option Addr) (cn cc : Nat) (x : Ins) (A : Nat → Prop) (w : World) (ht : RdL shapeLay A w to_ tabs.length tc tabs) (hok : ∀ i, i < tabs.length → tabBad (nth tabs i) = false) (hx : x.wf) (hs : 0 ≤ slots ∧ slots ≤ 96) (h : x.op = 13) :
    Calls Try.prog 104 #[.agg #[.int .i64 slots, .slice to_ tabs.length tc, .slice co cn cc], .agg #[.int .i64 x.op, .int .i64 x.r, .int .i64 x.s, .int .i64 x.k, .int .i64 x.to, .int .u64 x.n]] w fun e w' => e = .returned (.bool (insOk slots tabs x)) ∧ Below w.heap.size w w' := by
  obtain ⟨op, r, s, k, to, n⟩ := x
  simp only at h
  subst h
  have hn := hx.2.2.2.2.2.u64
  simp only at hn
  obtain ⟨hn1, hn2⟩ := hn
  have b1 : isOp 13 = true := rfl
  have E := insOk_op slots tabs ⟨13, r, s, k, to, n⟩ true true true false true rfl rfl rfl rfl rfl rfl
  obtain ⟨R, hR⟩ : ∃ R, insOk slots tabs ⟨13, r, s, k, to, n⟩ = R := ⟨_, rfl⟩
  rw [hR]
  rw [hR] at E
  replace E := Lib.hid E
  clear hR hx
  obtain ⟨i1, i2, i3, i4, i5, i6, i7⟩ := inStr_has 13 b1
  rw [show hasR 13 = true from rfl] at i1
  rw [show hasS 13 = true from rfl] at i2
  rw [show hasK 13 = true from rfl] at i3
  rw [show hasT 13 = false from rfl] at i4
  rw [show hasN 13 = true from rfl] at i5
  have i8 : (hasStr 13).size ≤ 1000 := by omega
  have htl := ht.lt
  clear i7
  by_cases hlt : n < tabs.length
  case neg =>
    have hge : (tabs.length : Int) ≤ n := by omega
    obtain ⟨hs1, hs2⟩ := hs
    clear hlt
    go_enter Try.func104, Try.ntmps104
    go_wp2_with (first
      | (go_at_call 106; refine (has_yes _ _ b1).mono ?_; rintro e w' ⟨rfl, rfl⟩)
      | (go_at_call 105; refine (with_any _ _ _ i8).mono ?_; rintro e w' ⟨rfl, rfl⟩)
      | (go_at_call 134; refine (reg_any _ _).mono ?_; rintro e w' ⟨rfl, rfl⟩))
    all_goals
      go_ret
      exact ⟨by rw [E.out]; have hq : ¬ n < tabs.length := by { omega }; simp [kindOk, go_sem, *], by go_grown⟩
  obtain ⟨m, rfl⟩ := Int.eq_ofNat_of_zero_le hn1
  have hm : m < tabs.length := by omega
  obtain ⟨b, off, rfl, _, hb, hwf, hc0, hc1, hc2⟩ := ht.shape_at hm
  have hto := hok m hm
  have ho : (1 ≤ (nth tabs m).keys ∧ (nth tabs m).keys ≤ 3) ∧ (0 ≤ (nth tabs m).args ∧ (nth tabs m).args ≤ 3) := by unfold tabBad at hto; simp at hto; omega
  clear hto hok
  go_enter Try.func104, Try.ntmps104
  go_wp2_with (first
      | (go_at_call 106; refine (has_yes _ _ b1).mono ?_; rintro e w' ⟨rfl, rfl⟩)
      | (go_at_call 105; refine (with_any _ _ _ i8).mono ?_; rintro e w' ⟨rfl, rfl⟩)
      | (go_at_call 134; refine (reg_any _ _).mono ?_; rintro e w' ⟨rfl, rfl⟩))
  rotate_left
  all_goals try (go_ret; exact ⟨by rw [E.out]; simp [kindOk, go_sem, *], by go_grown⟩)
  refine (slots_any _ _ _ _ _ _ _ _ _ _ hs ⟨by omega, ho.1.2⟩).mono ?_
  rintro e w1 ⟨rfl, hb1⟩
  obtain ⟨hB, k0, k1, k2⟩ := blk3 hb1
  have g0 := k0.cell 0
  have g1 := k0.cell 1
  have g2 := k0.cell 2
  have g3 := k1.cell 3
  have g4 := k2.cell 2
  simp at g0 g1 g2 g3 g4
  clear hb1 k0 k1 k2 hc0 hc1 hc2
  by_cases hq : slotsOk slots s (nth tabs m).keys = true
  case neg =>
    simp only [Bool.not_eq_true] at hq
    go_wp2_with fail
    go_ret
    exact ⟨by rw [E.out]; simp [kindOk, go_sem, *], by go_grown⟩
  go_wp2_with fail
  refine (slots_any _ _ _ _ _ _ _ _ _ _ hs ho.2).mono ?_
  rintro e w2 ⟨rfl, hb2⟩
  have hB2 := ov hB hb2
  go_wp2_with fail
  go_ret
  exact ⟨by rw [E.out]; simp [kindOk, go_sem, *], hB2⟩
set_option maxRecDepth 100000 in
set_option maxHeartbeats 2000000 in
theorem insForm_13 (slots : Int) (to_ : Option Addr) (tc : Nat) (tabs : List Shape) (co : Option Addr) (cn cc : Nat) (x : Ins) (A : Nat → Prop) (w : World) (ht : RdL shapeLay A w to_ tabs.length tc tabs) (hok : ∀ i, i < tabs.length → tabBad (nth tabs i) = false) (hx : x.wf) (hs : 0 ≤ slots ∧ slots ≤ 96) (h : x.op = 13) :
    Calls Try.prog 98 #[.agg #[.int .i64 slots, .slice to_ tabs.length tc, .slice co cn cc], .agg #[.int .i64 x.op, .int .i64 x.r, .int .i64 x.s, .int .i64 x.k, .int .i64 x.to, .int .u64 x.n]] w fun e w' => e = .returned (.bool (insOk slots tabs x)) ∧ Below w.heap.size w w' := by
  obtain ⟨op, r, s, k, to, n⟩ := x
  simp only at h
  subst h
  have hn := hx.2.2.2.2.2.u64
  have hss := hx.2.2.1.i64
  have hkk := hx.2.2.2.1.i64
  simp only at hn hss hkk
  obtain ⟨hn1, hn2⟩ := hn
  have E := insOk_op slots tabs ⟨13, r, s, k, to, n⟩ true true true false true rfl rfl rfl rfl rfl rfl
  obtain ⟨R, hR⟩ : ∃ R, insOk slots tabs ⟨13, r, s, k, to, n⟩ = R := ⟨_, rfl⟩
  rw [hR]
  rw [hR] at E
  replace E := Lib.hid E
  clear hR hx
  have htl := ht.lt
  obtain ⟨hs1, hs2⟩ := hs
  go_enter Try.func98, Try.ntmps98
  go_wp2_with fail
  refine (fieldsOf_any _ _).mono ?_
  rintro e w1 ⟨rfl, hb1⟩
  rw [show isOp 13 = true from rfl, show hasR 13 = true from rfl, show hasS 13 = true from rfl, show hasK 13 = true from rfl, show hasT 13 = false from rfl, show hasN 13 = true from rfl]
  have hz : w.heap.size + 1 < w1.heap.size := by have := hb1.size; simp at this; omega
  have hz0 : w.heap.size < w1.heap.size := by omega
  obtain ⟨hB, g0, g1, f0, f1, f2, f3, f4, f5⟩ := ins_facts hb1
  have ht2 := ht.below (al hB (.cells #[.bool true, .bool true, .bool true, .bool false, .bool true] 125))
  clear hb1
  go_wp2_with (go_at_call 133; refine (isReg_any _ _).mono ?_; rintro e w' ⟨rfl, rfl⟩)
  rotate_left
  all_goals try (go_ret; exact ⟨by rw [E.out]; simp [kindOk, go_sem, *], by go_grown⟩)
  all_goals
    go_loop [7] (fun i => ∃ j : Nat, j ≤ tabs.length ∧ (j : Int) ≤ n ∧ i = .int .i64 j) (fun i => tabs.length - (intOf i).toNat)
    case atStart => exact ⟨0, Nat.zero_le _, by omega, rfl⟩
    case round =>
      obtain ⟨j, hj, hjn, rfl⟩ := hrel
      by_cases hlt : j < tabs.length
      · by_cases he : (j : Int) = n
        · subst he
          have hto := hok j hlt
          have ho : (1 ≤ (nth tabs j).keys ∧ (nth tabs j).keys ≤ 3) ∧ (0 ≤ (nth tabs j).args ∧ (nth tabs j).args ≤ 3) := by unfold tabBad at hto; simp at hto; omega
          obtain ⟨⟨ho1, ho2⟩, ho3, ho4⟩ := ho
          obtain ⟨b, off, rfl, _, hb, hwf, hc0, hc1, hc2⟩ := ht2.shape_at hlt
          clear hto hb hwf
          go_wp2_with fail
          all_goals
            go_ret
            exact ⟨by rw [E.out]; first | (simp [kindOk, slotsOk, go_sem, *]; done) | (simp [kindOk, slotsOk, go_sem, *]; omega) | (simp [kindOk, slotsOk, go_sem, *]; rw [Bool.eq_iff_iff]; simp only [decide_eq_true_eq, Bool.and_eq_true]; omega), by go_grown⟩
        · have he' : ((j : Int) == n) = false := by rw [beq_eq_false_iff_ne]; exact he
          have hjn2 : ((j + 1 : Nat) : Int) ≤ n := by omega
          clear he
          go_wp2_with fail
          go_round
          case rel => exact ⟨j + 1, by omega, hjn2, by go_num⟩
          case measure => simp [intOf]; omega
      · have hge : ¬ n < (tabs.length : Int) := by omega
        go_wp2_with fail
        go_ret
        exact ⟨by rw [E.out]; first | (simp [kindOk, go_sem, *]; done) | (simp [kindOk, go_sem, *]; intros; omega), by go_grown⟩
end Go.Proofs.Ytfakdapglbgokaa
