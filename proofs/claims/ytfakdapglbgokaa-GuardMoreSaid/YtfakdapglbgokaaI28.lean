/-
  Texts joined: XWordT XWordU XWordR. No condition.
-/
import Derived.Test.YtfakdapglbgokaaI27
/-
  Package word's fits. No condition.
-/
namespace Go.Proofs.Ytfakdapglbgokaa
set_option linter.all false
open Go.RowKit

set_option maxRecDepth 100000 in
set_option maxHeartbeats 2000000 in
theorem fits_1 (slots : Int) (to_ : Option Addr) (tn tc : Nat) (tabs : List Shape) (co : Option Addr) (cn cc : Nat) (x : Ins) (w : World) (hs : 0 ≤ slots ∧ slots ≤ 96) (h : x.op = 1) :
    Calls Try.prog 104 #[.agg #[.int .i64 slots, .slice to_ tn tc, .slice co cn cc], .agg #[.int .i64 x.op, .int .i64 x.r, .int .i64 x.s, .int .i64 x.k, .int .i64 x.to, .int .u64 x.n]] w fun e w' => e = .returned (.bool (insOk slots tabs x)) ∧ Below w.heap.size w w' := by
  obtain ⟨op, r, s, k, to, n⟩ := x
  simp only at h
  subst h
  have b1 : isOp 1 = true := rfl
  have b2 : hasR 1 = true := rfl
  have b3 : hasS 1 = false := rfl
  have b4 : hasK 1 = false := rfl
  have b5 : hasT 1 = false := rfl
  have b6 : hasN 1 = true := rfl
  have E := insOk_op slots tabs ⟨1, r, s, k, to, n⟩ true false false false true b1 b2 b3 b4 b5 b6
  obtain ⟨R, hR⟩ : ∃ R, insOk slots tabs ⟨1, r, s, k, to, n⟩ = R := ⟨_, rfl⟩
  rw [hR]
  rw [hR] at E
  replace E := Lib.hid E
  clear hR
  obtain ⟨hs1, hs2⟩ := hs
  obtain ⟨i1, i2, i3, i4, i5, i6, i7⟩ := inStr_has 1 b1
  rw [b2] at i1
  rw [b3] at i2
  rw [b4] at i3
  rw [b5] at i4
  rw [b6] at i5
  have B1 := Lib.hid b1
  have i8 : (hasStr 1).size ≤ 1000 := by omega
  clear b1 b2 b3 b4 b5 b6 i7
  go_enter Try.func104, Try.ntmps104
  go_wp2_with (first
    | (go_at_call 106; refine (has_yes _ _ B1.out).mono ?_; rintro e w' ⟨rfl, rfl⟩)
    | (go_at_call 105; refine (with_any _ _ _ i8).mono ?_; rintro e w' ⟨rfl, rfl⟩)
    | (go_at_call 134; refine (reg_any _ _).mono ?_; rintro e w' ⟨rfl, rfl⟩))
  all_goals
    go_ret
    exact ⟨by rw [E.out]; first | (simp [kindOk, go_sem, *]; done) | (simp [kindOk, go_sem, *]; omega) | (simp_all [kindOk, go_sem]; done) | (simp_all [kindOk, go_sem]; omega), by go_grown⟩
set_option maxRecDepth 100000 in
set_option maxHeartbeats 2000000 in
theorem fits_7 (slots : Int) (to_ : Option Addr) (tn tc : Nat) (tabs : List Shape) (co : Option Addr) (cn cc : Nat) (x : Ins) (w : World) (hs : 0 ≤ slots ∧ slots ≤ 96) (h : x.op = 7 ∨ x.op = 8) :
    Calls Try.prog 104 #[.agg #[.int .i64 slots, .slice to_ tn tc, .slice co cn cc], .agg #[.int .i64 x.op, .int .i64 x.r, .int .i64 x.s, .int .i64 x.k, .int .i64 x.to, .int .u64 x.n]] w fun e w' => e = .returned (.bool (insOk slots tabs x)) ∧ Below w.heap.size w w' := by
  obtain ⟨op, r, s, k, to, n⟩ := x
  simp only at h
  have b1 : isOp op = true := by rcases h with rfl | rfl <;> rfl
  have b2 : hasR op = true := by rcases h with rfl | rfl <;> rfl
  have b3 : hasS op = false := by rcases h with rfl | rfl <;> rfl
  have b4 : hasK op = false := by rcases h with rfl | rfl <;> rfl
  have b5 : hasT op = false := by rcases h with rfl | rfl <;> rfl
  have b6 : hasN op = true := by rcases h with rfl | rfl <;> rfl
  have q3 : (op == 3) = false := by rw [beq_eq_false_iff_ne]; omega
  have q6 : (op == 6) = false := by rw [beq_eq_false_iff_ne]; omega
  have q14 : (op == 14) = false := by rw [beq_eq_false_iff_ne]; omega
  have q9 : (op == 9) = false := by rw [beq_eq_false_iff_ne]; omega
  have q13 : (op == 13) = false := by rw [beq_eq_false_iff_ne]; omega
  have qn : (op != 13) = true := by rw [bne_iff_ne]; omega
  have H0 := Lib.hid h
  clear h
  have E := insOk_op slots tabs ⟨op, r, s, k, to, n⟩ true false false false true b1 b2 b3 b4 b5 b6
  obtain ⟨R, hR⟩ : ∃ R, insOk slots tabs ⟨op, r, s, k, to, n⟩ = R := ⟨_, rfl⟩
  rw [hR]
  rw [hR] at E
  replace E := Lib.hid E
  clear hR
  obtain ⟨hs1, hs2⟩ := hs
  obtain ⟨i1, i2, i3, i4, i5, i6, i7⟩ := inStr_has op b1
  rw [b2] at i1
  rw [b3] at i2
  rw [b4] at i3
  rw [b5] at i4
  rw [b6] at i5
  have B1 := Lib.hid b1
  have i8 : (hasStr op).size ≤ 1000 := by omega
  clear b1 b2 b3 b4 b5 b6 i7
  go_enter Try.func104, Try.ntmps104
  go_wp2_with (first
    | (go_at_call 106; refine (has_yes _ _ B1.out).mono ?_; rintro e w' ⟨rfl, rfl⟩)
    | (go_at_call 105; refine (with_any _ _ _ i8).mono ?_; rintro e w' ⟨rfl, rfl⟩)
    | (go_at_call 134; refine (reg_any _ _).mono ?_; rintro e w' ⟨rfl, rfl⟩))
  all_goals
    go_ret
    exact ⟨by rw [E.out]; have h := H0.out; first | (simp [kindOk, go_sem, *]; done) | (simp [kindOk, go_sem, *]; omega) | (simp_all [kindOk, go_sem]; done) | (simp_all [kindOk, go_sem]; omega), by go_grown⟩
set_option maxRecDepth 100000 in
set_option maxHeartbeats 2000000 in
theorem fits_2 (slots : Int) (to_ : Option Addr) (tn tc : Nat) (tabs : List Shape) (co : Option Addr) (cn cc : Nat) (x : Ins) (w : World) (hs : 0 ≤ slots ∧ slots ≤ 96) (h : x.op = 2 ∨ x.op = 5) :
    Calls Try.prog 104 #[.agg #[.int .i64 slots, .slice to_ tn tc, .slice co cn cc], .agg #[.int .i64 x.op, .int .i64 x.r, .int .i64 x.s, .int .i64 x.k, .int .i64 x.to, .int .u64 x.n]] w fun e w' => e = .returned (.bool (insOk slots tabs x)) ∧ Below w.heap.size w w' := by
  obtain ⟨op, r, s, k, to, n⟩ := x
  simp only at h
  have b1 : isOp op = true := by rcases h with rfl | rfl <;> rfl
  have b2 : hasR op = true := by rcases h with rfl | rfl <;> rfl
  have b3 : hasS op = true := by rcases h with rfl | rfl <;> rfl
  have b4 : hasK op = false := by rcases h with rfl | rfl <;> rfl
  have b5 : hasT op = false := by rcases h with rfl | rfl <;> rfl
  have b6 : hasN op = false := by rcases h with rfl | rfl <;> rfl
  have q3 : (op == 3) = false := by rw [beq_eq_false_iff_ne]; omega
  have q6 : (op == 6) = false := by rw [beq_eq_false_iff_ne]; omega
  have q14 : (op == 14) = false := by rw [beq_eq_false_iff_ne]; omega
  have q9 : (op == 9) = false := by rw [beq_eq_false_iff_ne]; omega
  have q7 : (op == 7) = false := by rw [beq_eq_false_iff_ne]; omega
  have q8 : (op == 8) = false := by rw [beq_eq_false_iff_ne]; omega
  have q13 : (op == 13) = false := by rw [beq_eq_false_iff_ne]; omega
  have qn : (op != 13) = true := by rw [bne_iff_ne]; omega
  have H0 := Lib.hid h
  clear h
  have E := insOk_op slots tabs ⟨op, r, s, k, to, n⟩ true true false false false b1 b2 b3 b4 b5 b6
  obtain ⟨R, hR⟩ : ∃ R, insOk slots tabs ⟨op, r, s, k, to, n⟩ = R := ⟨_, rfl⟩
  rw [hR]
  rw [hR] at E
  replace E := Lib.hid E
  clear hR
  obtain ⟨hs1, hs2⟩ := hs
  obtain ⟨i1, i2, i3, i4, i5, i6, i7⟩ := inStr_has op b1
  rw [b2] at i1
  rw [b3] at i2
  rw [b4] at i3
  rw [b5] at i4
  rw [b6] at i5
  have B1 := Lib.hid b1
  have i8 : (hasStr op).size ≤ 1000 := by omega
  clear b1 b2 b3 b4 b5 b6 i7
  go_enter Try.func104, Try.ntmps104
  go_wp2_with (first
    | (go_at_call 106; refine (has_yes _ _ B1.out).mono ?_; rintro e w' ⟨rfl, rfl⟩)
    | (go_at_call 105; refine (with_any _ _ _ i8).mono ?_; rintro e w' ⟨rfl, rfl⟩)
    | (go_at_call 134; refine (reg_any _ _).mono ?_; rintro e w' ⟨rfl, rfl⟩))
  all_goals
    go_ret
    exact ⟨by rw [E.out]; have h := H0.out; first | (simp [kindOk, go_sem, *]; done) | (simp [kindOk, go_sem, *]; omega) | (simp_all [kindOk, go_sem]; done) | (simp_all [kindOk, go_sem]; omega), by go_grown⟩
set_option maxRecDepth 100000 in
set_option maxHeartbeats 2000000 in
theorem fits_3 (slots : Int) (to_ : Option Addr) (tn tc : Nat) (tabs : List Shape) (co : Option Addr) (cn cc : Nat) (x : Ins) (w : World) (hs : 0 ≤ slots ∧ slots ≤ 96) (h : x.op = 3) :
    Calls Try.prog 104 #[.agg #[.int .i64 slots, .slice to_ tn tc, .slice co cn cc], .agg #[.int .i64 x.op, .int .i64 x.r, .int .i64 x.s, .int .i64 x.k, .int .i64 x.to, .int .u64 x.n]] w fun e w' => e = .returned (.bool (insOk slots tabs x)) ∧ Below w.heap.size w w' := by
  obtain ⟨op, r, s, k, to, n⟩ := x
  simp only at h
  subst h
  have b1 : isOp 3 = true := rfl
  have b2 : hasR 3 = true := rfl
  have b3 : hasS 3 = true := rfl
  have b4 : hasK 3 = true := rfl
  have b5 : hasT 3 = false := rfl
  have b6 : hasN 3 = false := rfl
  have E := insOk_op slots tabs ⟨3, r, s, k, to, n⟩ true true true false false b1 b2 b3 b4 b5 b6
  obtain ⟨R, hR⟩ : ∃ R, insOk slots tabs ⟨3, r, s, k, to, n⟩ = R := ⟨_, rfl⟩
  rw [hR]
  rw [hR] at E
  replace E := Lib.hid E
  clear hR
  obtain ⟨hs1, hs2⟩ := hs
  obtain ⟨i1, i2, i3, i4, i5, i6, i7⟩ := inStr_has 3 b1
  rw [b2] at i1
  rw [b3] at i2
  rw [b4] at i3
  rw [b5] at i4
  rw [b6] at i5
  have B1 := Lib.hid b1
  have i8 : (hasStr 3).size ≤ 1000 := by omega
  clear b1 b2 b3 b4 b5 b6 i7
  go_enter Try.func104, Try.ntmps104
  go_wp2_with (first
    | (go_at_call 106; refine (has_yes _ _ B1.out).mono ?_; rintro e w' ⟨rfl, rfl⟩)
    | (go_at_call 105; refine (with_any _ _ _ i8).mono ?_; rintro e w' ⟨rfl, rfl⟩)
    | (go_at_call 134; refine (reg_any _ _).mono ?_; rintro e w' ⟨rfl, rfl⟩))
  all_goals
    go_ret
    exact ⟨by rw [E.out]; first | (simp [kindOk, go_sem, *]; done) | (simp [kindOk, go_sem, *]; omega) | (simp_all [kindOk, go_sem]; done) | (simp_all [kindOk, go_sem]; omega), by go_grown⟩
set_option maxRecDepth 100000 in
set_option maxHeartbeats 2000000 in
theorem fits_4 (slots : Int) (to_ : Option Addr) (tn tc : Nat) (tabs : List Shape) (co : Option Addr) (cn cc : Nat) (x : Ins) (w : World) (hs : 0 ≤ slots ∧ slots ≤ 96) (h : x.op = 4 ∨ x.op = 15 ∨ x.op = 16 ∨ x.op = 18) :
    Calls Try.prog 104 #[.agg #[.int .i64 slots, .slice to_ tn tc, .slice co cn cc], .agg #[.int .i64 x.op, .int .i64 x.r, .int .i64 x.s, .int .i64 x.k, .int .i64 x.to, .int .u64 x.n]] w fun e w' => e = .returned (.bool (insOk slots tabs x)) ∧ Below w.heap.size w w' := by
  obtain ⟨op, r, s, k, to, n⟩ := x
  simp only at h
  have b1 : isOp op = true := by rcases h with rfl | rfl | rfl | rfl <;> rfl
  have b2 : hasR op = true := by rcases h with rfl | rfl | rfl | rfl <;> rfl
  have b3 : hasS op = false := by rcases h with rfl | rfl | rfl | rfl <;> rfl
  have b4 : hasK op = false := by rcases h with rfl | rfl | rfl | rfl <;> rfl
  have b5 : hasT op = false := by rcases h with rfl | rfl | rfl | rfl <;> rfl
  have b6 : hasN op = false := by rcases h with rfl | rfl | rfl | rfl <;> rfl
  have q3 : (op == 3) = false := by rw [beq_eq_false_iff_ne]; omega
  have q6 : (op == 6) = false := by rw [beq_eq_false_iff_ne]; omega
  have q14 : (op == 14) = false := by rw [beq_eq_false_iff_ne]; omega
  have q9 : (op == 9) = false := by rw [beq_eq_false_iff_ne]; omega
  have q7 : (op == 7) = false := by rw [beq_eq_false_iff_ne]; omega
  have q8 : (op == 8) = false := by rw [beq_eq_false_iff_ne]; omega
  have q13 : (op == 13) = false := by rw [beq_eq_false_iff_ne]; omega
  have qn : (op != 13) = true := by rw [bne_iff_ne]; omega
  have H0 := Lib.hid h
  clear h
  have E := insOk_op slots tabs ⟨op, r, s, k, to, n⟩ true false false false false b1 b2 b3 b4 b5 b6
  obtain ⟨R, hR⟩ : ∃ R, insOk slots tabs ⟨op, r, s, k, to, n⟩ = R := ⟨_, rfl⟩
  rw [hR]
  rw [hR] at E
  replace E := Lib.hid E
  clear hR
  obtain ⟨hs1, hs2⟩ := hs
  obtain ⟨i1, i2, i3, i4, i5, i6, i7⟩ := inStr_has op b1
  rw [b2] at i1
  rw [b3] at i2
  rw [b4] at i3
  rw [b5] at i4
  rw [b6] at i5
  have B1 := Lib.hid b1
  have i8 : (hasStr op).size ≤ 1000 := by omega
  clear b1 b2 b3 b4 b5 b6 i7
  go_enter Try.func104, Try.ntmps104
  go_wp2_with (first
    | (go_at_call 106; refine (has_yes _ _ B1.out).mono ?_; rintro e w' ⟨rfl, rfl⟩)
    | (go_at_call 105; refine (with_any _ _ _ i8).mono ?_; rintro e w' ⟨rfl, rfl⟩)
    | (go_at_call 134; refine (reg_any _ _).mono ?_; rintro e w' ⟨rfl, rfl⟩))
  all_goals
    go_ret
    exact ⟨by rw [E.out]; have h := H0.out; first | (simp [kindOk, go_sem, *]; done) | (simp [kindOk, go_sem, *]; omega) | (simp_all [kindOk, go_sem]; done) | (simp_all [kindOk, go_sem]; omega), by go_grown⟩
set_option maxRecDepth 100000 in
set_option maxHeartbeats 2000000 in
theorem fits_6 (slots : Int) (to_ : Option Addr) (tn tc : Nat) (tabs : List Shape) (co : Option Addr) (cn cc : Nat) (x : Ins) (w : World) (hs : 0 ≤ slots ∧ slots ≤ 96) (h : x.op = 6) :
    Calls Try.prog 104 #[.agg #[.int .i64 slots, .slice to_ tn tc, .slice co cn cc], .agg #[.int .i64 x.op, .int .i64 x.r, .int .i64 x.s, .int .i64 x.k, .int .i64 x.to, .int .u64 x.n]] w fun e w' => e = .returned (.bool (insOk slots tabs x)) ∧ Below w.heap.size w w' := by
  obtain ⟨op, r, s, k, to, n⟩ := x
  simp only at h
  subst h
  have b1 : isOp 6 = true := rfl
  have b2 : hasR 6 = true := rfl
  have b3 : hasS 6 = true := rfl
  have b4 : hasK 6 = true := rfl
  have b5 : hasT 6 = false := rfl
  have b6 : hasN 6 = true := rfl
  have E := insOk_op slots tabs ⟨6, r, s, k, to, n⟩ true true true false true b1 b2 b3 b4 b5 b6
  obtain ⟨R, hR⟩ : ∃ R, insOk slots tabs ⟨6, r, s, k, to, n⟩ = R := ⟨_, rfl⟩
  rw [hR]
  rw [hR] at E
  replace E := Lib.hid E
  clear hR
  obtain ⟨hs1, hs2⟩ := hs
  obtain ⟨i1, i2, i3, i4, i5, i6, i7⟩ := inStr_has 6 b1
  rw [b2] at i1
  rw [b3] at i2
  rw [b4] at i3
  rw [b5] at i4
  rw [b6] at i5
  have B1 := Lib.hid b1
  have i8 : (hasStr 6).size ≤ 1000 := by omega
  clear b1 b2 b3 b4 b5 b6 i7
  go_enter Try.func104, Try.ntmps104
  go_wp2_with (first
    | (go_at_call 106; refine (has_yes _ _ B1.out).mono ?_; rintro e w' ⟨rfl, rfl⟩)
    | (go_at_call 105; refine (with_any _ _ _ i8).mono ?_; rintro e w' ⟨rfl, rfl⟩)
    | (go_at_call 134; refine (reg_any _ _).mono ?_; rintro e w' ⟨rfl, rfl⟩))
  all_goals
    go_ret
    exact ⟨by rw [E.out]; first | (simp [kindOk, go_sem, *]; done) | (simp [kindOk, go_sem, *]; omega) | (simp_all [kindOk, go_sem]; done) | (simp_all [kindOk, go_sem]; omega), by go_grown⟩
set_option maxRecDepth 100000 in
set_option maxHeartbeats 2000000 in
theorem fits_9 (slots : Int) (to_ : Option Addr) (tn tc : Nat) (tabs : List Shape) (co : Option Addr) (cn cc : Nat) (x : Ins) (w : World) (hs : 0 ≤ slots ∧ slots ≤ 96) (h : x.op = 9) :
    Calls Try.prog 104 #[.agg #[.int .i64 slots, .slice to_ tn tc, .slice co cn cc], .agg #[.int .i64 x.op, .int .i64 x.r, .int .i64 x.s, .int .i64 x.k, .int .i64 x.to, .int .u64 x.n]] w fun e w' => e = .returned (.bool (insOk slots tabs x)) ∧ Below w.heap.size w w' := by
  obtain ⟨op, r, s, k, to, n⟩ := x
  simp only at h
  subst h
  have b1 : isOp 9 = true := rfl
  have b2 : hasR 9 = true := rfl
  have b3 : hasS 9 = false := rfl
  have b4 : hasK 9 = false := rfl
  have b5 : hasT 9 = true := rfl
  have b6 : hasN 9 = true := rfl
  have E := insOk_op slots tabs ⟨9, r, s, k, to, n⟩ true false false true true b1 b2 b3 b4 b5 b6
  obtain ⟨R, hR⟩ : ∃ R, insOk slots tabs ⟨9, r, s, k, to, n⟩ = R := ⟨_, rfl⟩
  rw [hR]
  rw [hR] at E
  replace E := Lib.hid E
  clear hR
  obtain ⟨hs1, hs2⟩ := hs
  obtain ⟨i1, i2, i3, i4, i5, i6, i7⟩ := inStr_has 9 b1
  rw [b2] at i1
  rw [b3] at i2
  rw [b4] at i3
  rw [b5] at i4
  rw [b6] at i5
  have B1 := Lib.hid b1
  have i8 : (hasStr 9).size ≤ 1000 := by omega
  clear b1 b2 b3 b4 b5 b6 i7
  go_enter Try.func104, Try.ntmps104
  go_wp2_with (first
    | (go_at_call 106; refine (has_yes _ _ B1.out).mono ?_; rintro e w' ⟨rfl, rfl⟩)
    | (go_at_call 105; refine (with_any _ _ _ i8).mono ?_; rintro e w' ⟨rfl, rfl⟩)
    | (go_at_call 134; refine (reg_any _ _).mono ?_; rintro e w' ⟨rfl, rfl⟩))
  all_goals
    go_ret
    exact ⟨by rw [E.out]; first | (simp [kindOk, go_sem, *]; done) | (simp [kindOk, go_sem, *]; omega) | (simp_all [kindOk, go_sem]; done) | (simp_all [kindOk, go_sem]; omega), by go_grown⟩
set_option maxRecDepth 100000 in
set_option maxHeartbeats 2000000 in
theorem fits_10 (slots : Int) (to_ : Option Addr) (tn tc : Nat) (tabs : List Shape) (co : Option Addr) (cn cc : Nat) (x : Ins) (w : World) (hs : 0 ≤ slots ∧ slots ≤ 96) (h : x.op = 10 ∨ x.op = 11) :
    Calls Try.prog 104 #[.agg #[.int .i64 slots, .slice to_ tn tc, .slice co cn cc], .agg #[.int .i64 x.op, .int .i64 x.r, .int .i64 x.s, .int .i64 x.k, .int .i64 x.to, .int .u64 x.n]] w fun e w' => e = .returned (.bool (insOk slots tabs x)) ∧ Below w.heap.size w w' := by
  obtain ⟨op, r, s, k, to, n⟩ := x
  simp only at h
  have b1 : isOp op = true := by rcases h with rfl | rfl <;> rfl
  have b2 : hasR op = true := by rcases h with rfl | rfl <;> rfl
  have b3 : hasS op = true := by rcases h with rfl | rfl <;> rfl
  have b4 : hasK op = false := by rcases h with rfl | rfl <;> rfl
  have b5 : hasT op = true := by rcases h with rfl | rfl <;> rfl
  have b6 : hasN op = false := by rcases h with rfl | rfl <;> rfl
  have q3 : (op == 3) = false := by rw [beq_eq_false_iff_ne]; omega
  have q6 : (op == 6) = false := by rw [beq_eq_false_iff_ne]; omega
  have q14 : (op == 14) = false := by rw [beq_eq_false_iff_ne]; omega
  have q9 : (op == 9) = false := by rw [beq_eq_false_iff_ne]; omega
  have q7 : (op == 7) = false := by rw [beq_eq_false_iff_ne]; omega
  have q8 : (op == 8) = false := by rw [beq_eq_false_iff_ne]; omega
  have q13 : (op == 13) = false := by rw [beq_eq_false_iff_ne]; omega
  have qn : (op != 13) = true := by rw [bne_iff_ne]; omega
  have H0 := Lib.hid h
  clear h
  have E := insOk_op slots tabs ⟨op, r, s, k, to, n⟩ true true false true false b1 b2 b3 b4 b5 b6
  obtain ⟨R, hR⟩ : ∃ R, insOk slots tabs ⟨op, r, s, k, to, n⟩ = R := ⟨_, rfl⟩
  rw [hR]
  rw [hR] at E
  replace E := Lib.hid E
  clear hR
  obtain ⟨hs1, hs2⟩ := hs
  obtain ⟨i1, i2, i3, i4, i5, i6, i7⟩ := inStr_has op b1
  rw [b2] at i1
  rw [b3] at i2
  rw [b4] at i3
  rw [b5] at i4
  rw [b6] at i5
  have B1 := Lib.hid b1
  have i8 : (hasStr op).size ≤ 1000 := by omega
  clear b1 b2 b3 b4 b5 b6 i7
  go_enter Try.func104, Try.ntmps104
  go_wp2_with (first
    | (go_at_call 106; refine (has_yes _ _ B1.out).mono ?_; rintro e w' ⟨rfl, rfl⟩)
    | (go_at_call 105; refine (with_any _ _ _ i8).mono ?_; rintro e w' ⟨rfl, rfl⟩)
    | (go_at_call 134; refine (reg_any _ _).mono ?_; rintro e w' ⟨rfl, rfl⟩))
  all_goals
    go_ret
    exact ⟨by rw [E.out]; have h := H0.out; first | (simp [kindOk, go_sem, *]; done) | (simp [kindOk, go_sem, *]; omega) | (simp_all [kindOk, go_sem]; done) | (simp_all [kindOk, go_sem]; omega), by go_grown⟩
set_option maxRecDepth 100000 in
set_option maxHeartbeats 2000000 in
theorem fits_12 (slots : Int) (to_ : Option Addr) (tn tc : Nat) (tabs : List Shape) (co : Option Addr) (cn cc : Nat) (x : Ins) (w : World) (hs : 0 ≤ slots ∧ slots ≤ 96) (h : x.op = 12) :
    Calls Try.prog 104 #[.agg #[.int .i64 slots, .slice to_ tn tc, .slice co cn cc], .agg #[.int .i64 x.op, .int .i64 x.r, .int .i64 x.s, .int .i64 x.k, .int .i64 x.to, .int .u64 x.n]] w fun e w' => e = .returned (.bool (insOk slots tabs x)) ∧ Below w.heap.size w w' := by
  obtain ⟨op, r, s, k, to, n⟩ := x
  simp only at h
  subst h
  have b1 : isOp 12 = true := rfl
  have b2 : hasR 12 = false := rfl
  have b3 : hasS 12 = false := rfl
  have b4 : hasK 12 = false := rfl
  have b5 : hasT 12 = true := rfl
  have b6 : hasN 12 = false := rfl
  have E := insOk_op slots tabs ⟨12, r, s, k, to, n⟩ false false false true false b1 b2 b3 b4 b5 b6
  obtain ⟨R, hR⟩ : ∃ R, insOk slots tabs ⟨12, r, s, k, to, n⟩ = R := ⟨_, rfl⟩
  rw [hR]
  rw [hR] at E
  replace E := Lib.hid E
  clear hR
  obtain ⟨hs1, hs2⟩ := hs
  obtain ⟨i1, i2, i3, i4, i5, i6, i7⟩ := inStr_has 12 b1
  rw [b2] at i1
  rw [b3] at i2
  rw [b4] at i3
  rw [b5] at i4
  rw [b6] at i5
  have B1 := Lib.hid b1
  have i8 : (hasStr 12).size ≤ 1000 := by omega
  clear b1 b2 b3 b4 b5 b6 i7
  go_enter Try.func104, Try.ntmps104
  go_wp2_with (first
    | (go_at_call 106; refine (has_yes _ _ B1.out).mono ?_; rintro e w' ⟨rfl, rfl⟩)
    | (go_at_call 105; refine (with_any _ _ _ i8).mono ?_; rintro e w' ⟨rfl, rfl⟩)
    | (go_at_call 134; refine (reg_any _ _).mono ?_; rintro e w' ⟨rfl, rfl⟩))
  all_goals
    go_ret
    exact ⟨by rw [E.out]; first | (simp [kindOk, go_sem, *]; done) | (simp [kindOk, go_sem, *]; omega) | (simp_all [kindOk, go_sem]; done) | (simp_all [kindOk, go_sem]; omega), by go_grown⟩
set_option maxRecDepth 100000 in
set_option maxHeartbeats 2000000 in
theorem fits_14 (slots : Int) (to_ : Option Addr) (tn tc : Nat) (tabs : List Shape) (co : Option Addr) (cn cc : Nat) (x : Ins) (w : World) (hs : 0 ≤ slots ∧ slots ≤ 96) (h : x.op = 14) :
    Calls Try.prog 104 #[.agg #[.int .i64 slots, .slice to_ tn tc, .slice co cn cc], .agg #[.int .i64 x.op, .int .i64 x.r, .int .i64 x.s, .int .i64 x.k, .int .i64 x.to, .int .u64 x.n]] w fun e w' => e = .returned (.bool (insOk slots tabs x)) ∧ Below w.heap.size w w' := by
  obtain ⟨op, r, s, k, to, n⟩ := x
  simp only at h
  subst h
  have b1 : isOp 14 = true := rfl
  have b2 : hasR 14 = true := rfl
  have b3 : hasS 14 = false := rfl
  have b4 : hasK 14 = true := rfl
  have b5 : hasT 14 = false := rfl
  have b6 : hasN 14 = false := rfl
  have E := insOk_op slots tabs ⟨14, r, s, k, to, n⟩ true false true false false b1 b2 b3 b4 b5 b6
  obtain ⟨R, hR⟩ : ∃ R, insOk slots tabs ⟨14, r, s, k, to, n⟩ = R := ⟨_, rfl⟩
  rw [hR]
  rw [hR] at E
  replace E := Lib.hid E
  clear hR
  obtain ⟨hs1, hs2⟩ := hs
  obtain ⟨i1, i2, i3, i4, i5, i6, i7⟩ := inStr_has 14 b1
  rw [b2] at i1
  rw [b3] at i2
  rw [b4] at i3
  rw [b5] at i4
  rw [b6] at i5
  have B1 := Lib.hid b1
  have i8 : (hasStr 14).size ≤ 1000 := by omega
  clear b1 b2 b3 b4 b5 b6 i7
  go_enter Try.func104, Try.ntmps104
  go_wp2_with (first
    | (go_at_call 106; refine (has_yes _ _ B1.out).mono ?_; rintro e w' ⟨rfl, rfl⟩)
    | (go_at_call 105; refine (with_any _ _ _ i8).mono ?_; rintro e w' ⟨rfl, rfl⟩)
    | (go_at_call 134; refine (reg_any _ _).mono ?_; rintro e w' ⟨rfl, rfl⟩))
  all_goals
    go_ret
    exact ⟨by rw [E.out]; first | (simp [kindOk, go_sem, *]; done) | (simp [kindOk, go_sem, *]; omega) | (simp_all [kindOk, go_sem]; done) | (simp_all [kindOk, go_sem]; omega), by go_grown⟩
set_option maxRecDepth 100000 in
set_option maxHeartbeats 2000000 in
theorem fits_17 (slots : Int) (to_ : Option Addr) (tn tc : Nat) (tabs : List Shape) (co : Option Addr) (cn cc : Nat) (x : Ins) (w : World) (hs : 0 ≤ slots ∧ slots ≤ 96) (h : x.op = 17) :
    Calls Try.prog 104 #[.agg #[.int .i64 slots, .slice to_ tn tc, .slice co cn cc], .agg #[.int .i64 x.op, .int .i64 x.r, .int .i64 x.s, .int .i64 x.k, .int .i64 x.to, .int .u64 x.n]] w fun e w' => e = .returned (.bool (insOk slots tabs x)) ∧ Below w.heap.size w w' := by
  obtain ⟨op, r, s, k, to, n⟩ := x
  simp only at h
  subst h
  have b1 : isOp 17 = true := rfl
  have b2 : hasR 17 = false := rfl
  have b3 : hasS 17 = false := rfl
  have b4 : hasK 17 = false := rfl
  have b5 : hasT 17 = false := rfl
  have b6 : hasN 17 = false := rfl
  have E := insOk_op slots tabs ⟨17, r, s, k, to, n⟩ false false false false false b1 b2 b3 b4 b5 b6
  obtain ⟨R, hR⟩ : ∃ R, insOk slots tabs ⟨17, r, s, k, to, n⟩ = R := ⟨_, rfl⟩
  rw [hR]
  rw [hR] at E
  replace E := Lib.hid E
  clear hR
  obtain ⟨hs1, hs2⟩ := hs
  obtain ⟨i1, i2, i3, i4, i5, i6, i7⟩ := inStr_has 17 b1
  rw [b2] at i1
  rw [b3] at i2
  rw [b4] at i3
  rw [b5] at i4
  rw [b6] at i5
  have B1 := Lib.hid b1
  have i8 : (hasStr 17).size ≤ 1000 := by omega
  clear b1 b2 b3 b4 b5 b6 i7
  go_enter Try.func104, Try.ntmps104
  go_wp2_with (first
    | (go_at_call 106; refine (has_yes _ _ B1.out).mono ?_; rintro e w' ⟨rfl, rfl⟩)
    | (go_at_call 105; refine (with_any _ _ _ i8).mono ?_; rintro e w' ⟨rfl, rfl⟩)
    | (go_at_call 134; refine (reg_any _ _).mono ?_; rintro e w' ⟨rfl, rfl⟩))
  all_goals
    go_ret
    exact ⟨by rw [E.out]; first | (simp [kindOk, go_sem, *]; done) | (simp [kindOk, go_sem, *]; omega) | (simp_all [kindOk, go_sem]; done) | (simp_all [kindOk, go_sem]; omega), by go_grown⟩

end Go.Proofs.Ytfakdapglbgokaa

/-
  The references' insForm. No condition.
-/
namespace Go.Proofs.Ytfakdapglbgokaa
set_option linter.all false
open Go.RowKit

set_option maxRecDepth 100000 in
set_option maxHeartbeats 2000000 in
theorem insForm_1 (slots : Int) (to_ : Option Addr) (tn tc : Nat) (tabs : List Shape) (co : Option Addr) (cn cc : Nat) (x : Ins) (w : World) (hs : 0 ≤ slots ∧ slots ≤ 96) (h : x.op = 1) :
    Calls Try.prog 98 #[.agg #[.int .i64 slots, .slice to_ tn tc, .slice co cn cc], .agg #[.int .i64 x.op, .int .i64 x.r, .int .i64 x.s, .int .i64 x.k, .int .i64 x.to, .int .u64 x.n]] w fun e w' => e = .returned (.bool (insOk slots tabs x)) ∧ Below w.heap.size w w' := by
  obtain ⟨op, r, s, k, to, n⟩ := x
  simp only at h
  subst h
  have E := (insOk_op slots tabs ⟨1, r, s, k, to, n⟩ true false false false true rfl rfl rfl rfl rfl rfl)
  have b1 : isOp 1 = true := rfl
  have b2 : hasR 1 = true := rfl
  have b3 : hasS 1 = false := rfl
  have b4 : hasK 1 = false := rfl
  have b5 : hasT 1 = false := rfl
  have b6 : hasN 1 = true := rfl
  obtain ⟨R, hR⟩ : ∃ R, insOk slots tabs ⟨1, r, s, k, to, n⟩ = R := ⟨_, rfl⟩
  rw [hR]
  rw [hR] at E
  replace E := Lib.hid E
  clear hR
  obtain ⟨hs1, hs2⟩ := hs
  go_enter Try.func98, Try.ntmps98
  go_wp2_with fail
  refine (fieldsOf_any _ _).mono ?_
  rintro e w1 ⟨rfl, hb1⟩
  rw [b1, b2, b3, b4, b5, b6]
  have hz : w.heap.size + 1 < w1.heap.size := by have := hb1.size; simp at this; omega
  have hz0 : w.heap.size < w1.heap.size := by omega
  obtain ⟨hB, g0, g1, f0, f1, f2, f3, f4, f5⟩ := ins_facts hb1
  clear hb1 b1 b2 b3 b4 b5 b6
  go_wp2_with (go_at_call 133; refine (isReg_any _ _).mono ?_; rintro e w' ⟨rfl, rfl⟩)
  all_goals
    go_ret
    exact ⟨by rw [E.out]; first | (simp [kindOk, go_sem, *]; done) | (simp [kindOk, go_sem, *]; omega) | (simp_all [kindOk, go_sem]; done) | (simp_all [kindOk, go_sem]; omega), by go_grown⟩
set_option maxRecDepth 100000 in
set_option maxHeartbeats 2000000 in
theorem insForm_7 (slots : Int) (to_ : Option Addr) (tn tc : Nat) (tabs : List Shape) (co : Option Addr) (cn cc : Nat) (x : Ins) (w : World) (hs : 0 ≤ slots ∧ slots ≤ 96) (h : x.op = 7 ∨ x.op = 8) :
    Calls Try.prog 98 #[.agg #[.int .i64 slots, .slice to_ tn tc, .slice co cn cc], .agg #[.int .i64 x.op, .int .i64 x.r, .int .i64 x.s, .int .i64 x.k, .int .i64 x.to, .int .u64 x.n]] w fun e w' => e = .returned (.bool (insOk slots tabs x)) ∧ Below w.heap.size w w' := by
  obtain ⟨op, r, s, k, to, n⟩ := x
  simp only at h
  have b1 : isOp op = true := by rcases h with rfl | rfl <;> rfl
  have b2 : hasR op = true := by rcases h with rfl | rfl <;> rfl
  have b3 : hasS op = false := by rcases h with rfl | rfl <;> rfl
  have b4 : hasK op = false := by rcases h with rfl | rfl <;> rfl
  have b5 : hasT op = false := by rcases h with rfl | rfl <;> rfl
  have b6 : hasN op = true := by rcases h with rfl | rfl <;> rfl
  have E := (insOk_op slots tabs ⟨op, r, s, k, to, n⟩ true false false false true b1 b2 b3 b4 b5 b6)
  have q3 : (op == 3) = false := by rw [beq_eq_false_iff_ne]; omega
  have q6 : (op == 6) = false := by rw [beq_eq_false_iff_ne]; omega
  have q14 : (op == 14) = false := by rw [beq_eq_false_iff_ne]; omega
  have q9 : (op == 9) = false := by rw [beq_eq_false_iff_ne]; omega
  have q13 : (op == 13) = false := by rw [beq_eq_false_iff_ne]; omega
  have qn : (op != 13) = true := by rw [bne_iff_ne]; omega
  have H0 := Lib.hid h
  clear h
  obtain ⟨R, hR⟩ : ∃ R, insOk slots tabs ⟨op, r, s, k, to, n⟩ = R := ⟨_, rfl⟩
  rw [hR]
  rw [hR] at E
  replace E := Lib.hid E
  clear hR
  obtain ⟨hs1, hs2⟩ := hs
  go_enter Try.func98, Try.ntmps98
  go_wp2_with fail
  refine (fieldsOf_any _ _).mono ?_
  rintro e w1 ⟨rfl, hb1⟩
  rw [b1, b2, b3, b4, b5, b6]
  have hz : w.heap.size + 1 < w1.heap.size := by have := hb1.size; simp at this; omega
  have hz0 : w.heap.size < w1.heap.size := by omega
  obtain ⟨hB, g0, g1, f0, f1, f2, f3, f4, f5⟩ := ins_facts hb1
  clear hb1 b1 b2 b3 b4 b5 b6
  go_wp2_with (go_at_call 133; refine (isReg_any _ _).mono ?_; rintro e w' ⟨rfl, rfl⟩)
  all_goals
    go_ret
    exact ⟨by rw [E.out]; have h := H0.out; first | (simp [kindOk, go_sem, *]; done) | (simp [kindOk, go_sem, *]; omega) | (simp_all [kindOk, go_sem]; done) | (simp_all [kindOk, go_sem]; omega), by go_grown⟩
set_option maxRecDepth 100000 in
set_option maxHeartbeats 2000000 in
theorem insForm_2 (slots : Int) (to_ : Option Addr) (tn tc : Nat) (tabs : List Shape) (co : Option Addr) (cn cc : Nat) (x : Ins) (w : World) (hs : 0 ≤ slots ∧ slots ≤ 96) (h : x.op = 2 ∨ x.op = 5) :
    Calls Try.prog 98 #[.agg #[.int .i64 slots, .slice to_ tn tc, .slice co cn cc], .agg #[.int .i64 x.op, .int .i64 x.r, .int .i64 x.s, .int .i64 x.k, .int .i64 x.to, .int .u64 x.n]] w fun e w' => e = .returned (.bool (insOk slots tabs x)) ∧ Below w.heap.size w w' := by
  obtain ⟨op, r, s, k, to, n⟩ := x
  simp only at h
  have b1 : isOp op = true := by rcases h with rfl | rfl <;> rfl
  have b2 : hasR op = true := by rcases h with rfl | rfl <;> rfl
  have b3 : hasS op = true := by rcases h with rfl | rfl <;> rfl
  have b4 : hasK op = false := by rcases h with rfl | rfl <;> rfl
  have b5 : hasT op = false := by rcases h with rfl | rfl <;> rfl
  have b6 : hasN op = false := by rcases h with rfl | rfl <;> rfl
  have E := (insOk_op slots tabs ⟨op, r, s, k, to, n⟩ true true false false false b1 b2 b3 b4 b5 b6)
  have q3 : (op == 3) = false := by rw [beq_eq_false_iff_ne]; omega
  have q6 : (op == 6) = false := by rw [beq_eq_false_iff_ne]; omega
  have q14 : (op == 14) = false := by rw [beq_eq_false_iff_ne]; omega
  have q9 : (op == 9) = false := by rw [beq_eq_false_iff_ne]; omega
  have q7 : (op == 7) = false := by rw [beq_eq_false_iff_ne]; omega
  have q8 : (op == 8) = false := by rw [beq_eq_false_iff_ne]; omega
  have q13 : (op == 13) = false := by rw [beq_eq_false_iff_ne]; omega
  have qn : (op != 13) = true := by rw [bne_iff_ne]; omega
  have H0 := Lib.hid h
  clear h
  obtain ⟨R, hR⟩ : ∃ R, insOk slots tabs ⟨op, r, s, k, to, n⟩ = R := ⟨_, rfl⟩
  rw [hR]
  rw [hR] at E
  replace E := Lib.hid E
  clear hR
  obtain ⟨hs1, hs2⟩ := hs
  go_enter Try.func98, Try.ntmps98
  go_wp2_with fail
  refine (fieldsOf_any _ _).mono ?_
  rintro e w1 ⟨rfl, hb1⟩
  rw [b1, b2, b3, b4, b5, b6]
  have hz : w.heap.size + 1 < w1.heap.size := by have := hb1.size; simp at this; omega
  have hz0 : w.heap.size < w1.heap.size := by omega
  obtain ⟨hB, g0, g1, f0, f1, f2, f3, f4, f5⟩ := ins_facts hb1
  clear hb1 b1 b2 b3 b4 b5 b6
  go_wp2_with (go_at_call 133; refine (isReg_any _ _).mono ?_; rintro e w' ⟨rfl, rfl⟩)
  all_goals
    go_ret
    exact ⟨by rw [E.out]; have h := H0.out; first | (simp [kindOk, go_sem, *]; done) | (simp [kindOk, go_sem, *]; omega) | (simp_all [kindOk, go_sem]; done) | (simp_all [kindOk, go_sem]; omega), by go_grown⟩
set_option maxRecDepth 100000 in
set_option maxHeartbeats 2000000 in
theorem insForm_3 (slots : Int) (to_ : Option Addr) (tn tc : Nat) (tabs : List Shape) (co : Option Addr) (cn cc : Nat) (x : Ins) (w : World) (hs : 0 ≤ slots ∧ slots ≤ 96) (h : x.op = 3) :
    Calls Try.prog 98 #[.agg #[.int .i64 slots, .slice to_ tn tc, .slice co cn cc], .agg #[.int .i64 x.op, .int .i64 x.r, .int .i64 x.s, .int .i64 x.k, .int .i64 x.to, .int .u64 x.n]] w fun e w' => e = .returned (.bool (insOk slots tabs x)) ∧ Below w.heap.size w w' := by
  obtain ⟨op, r, s, k, to, n⟩ := x
  simp only at h
  subst h
  have E := (insOk_op slots tabs ⟨3, r, s, k, to, n⟩ true true true false false rfl rfl rfl rfl rfl rfl)
  have b1 : isOp 3 = true := rfl
  have b2 : hasR 3 = true := rfl
  have b3 : hasS 3 = true := rfl
  have b4 : hasK 3 = true := rfl
  have b5 : hasT 3 = false := rfl
  have b6 : hasN 3 = false := rfl
  obtain ⟨R, hR⟩ : ∃ R, insOk slots tabs ⟨3, r, s, k, to, n⟩ = R := ⟨_, rfl⟩
  rw [hR]
  rw [hR] at E
  replace E := Lib.hid E
  clear hR
  obtain ⟨hs1, hs2⟩ := hs
  go_enter Try.func98, Try.ntmps98
  go_wp2_with fail
  refine (fieldsOf_any _ _).mono ?_
  rintro e w1 ⟨rfl, hb1⟩
  rw [b1, b2, b3, b4, b5, b6]
  have hz : w.heap.size + 1 < w1.heap.size := by have := hb1.size; simp at this; omega
  have hz0 : w.heap.size < w1.heap.size := by omega
  obtain ⟨hB, g0, g1, f0, f1, f2, f3, f4, f5⟩ := ins_facts hb1
  clear hb1 b1 b2 b3 b4 b5 b6
  go_wp2_with (go_at_call 133; refine (isReg_any _ _).mono ?_; rintro e w' ⟨rfl, rfl⟩)
  all_goals
    go_ret
    exact ⟨by rw [E.out]; first | (simp [kindOk, go_sem, *]; done) | (simp [kindOk, go_sem, *]; omega) | (simp_all [kindOk, go_sem]; done) | (simp_all [kindOk, go_sem]; omega), by go_grown⟩
set_option maxRecDepth 100000 in
set_option maxHeartbeats 2000000 in
theorem insForm_4 (slots : Int) (to_ : Option Addr) (tn tc : Nat) (tabs : List Shape) (co : Option Addr) (cn cc : Nat) (x : Ins) (w : World) (hs : 0 ≤ slots ∧ slots ≤ 96) (h : x.op = 4 ∨ x.op = 15 ∨ x.op = 16 ∨ x.op = 18) :
    Calls Try.prog 98 #[.agg #[.int .i64 slots, .slice to_ tn tc, .slice co cn cc], .agg #[.int .i64 x.op, .int .i64 x.r, .int .i64 x.s, .int .i64 x.k, .int .i64 x.to, .int .u64 x.n]] w fun e w' => e = .returned (.bool (insOk slots tabs x)) ∧ Below w.heap.size w w' := by
  obtain ⟨op, r, s, k, to, n⟩ := x
  simp only at h
  have b1 : isOp op = true := by rcases h with rfl | rfl | rfl | rfl <;> rfl
  have b2 : hasR op = true := by rcases h with rfl | rfl | rfl | rfl <;> rfl
  have b3 : hasS op = false := by rcases h with rfl | rfl | rfl | rfl <;> rfl
  have b4 : hasK op = false := by rcases h with rfl | rfl | rfl | rfl <;> rfl
  have b5 : hasT op = false := by rcases h with rfl | rfl | rfl | rfl <;> rfl
  have b6 : hasN op = false := by rcases h with rfl | rfl | rfl | rfl <;> rfl
  have E := (insOk_op slots tabs ⟨op, r, s, k, to, n⟩ true false false false false b1 b2 b3 b4 b5 b6)
  have q3 : (op == 3) = false := by rw [beq_eq_false_iff_ne]; omega
  have q6 : (op == 6) = false := by rw [beq_eq_false_iff_ne]; omega
  have q14 : (op == 14) = false := by rw [beq_eq_false_iff_ne]; omega
  have q9 : (op == 9) = false := by rw [beq_eq_false_iff_ne]; omega
  have q7 : (op == 7) = false := by rw [beq_eq_false_iff_ne]; omega
  have q8 : (op == 8) = false := by rw [beq_eq_false_iff_ne]; omega
  have q13 : (op == 13) = false := by rw [beq_eq_false_iff_ne]; omega
  have qn : (op != 13) = true := by rw [bne_iff_ne]; omega
  have H0 := Lib.hid h
  clear h
  obtain ⟨R, hR⟩ : ∃ R, insOk slots tabs ⟨op, r, s, k, to, n⟩ = R := ⟨_, rfl⟩
  rw [hR]
  rw [hR] at E
  replace E := Lib.hid E
  clear hR
  obtain ⟨hs1, hs2⟩ := hs
  go_enter Try.func98, Try.ntmps98
  go_wp2_with fail
  refine (fieldsOf_any _ _).mono ?_
  rintro e w1 ⟨rfl, hb1⟩
  rw [b1, b2, b3, b4, b5, b6]
  have hz : w.heap.size + 1 < w1.heap.size := by have := hb1.size; simp at this; omega
  have hz0 : w.heap.size < w1.heap.size := by omega
  obtain ⟨hB, g0, g1, f0, f1, f2, f3, f4, f5⟩ := ins_facts hb1
  clear hb1 b1 b2 b3 b4 b5 b6
  go_wp2_with (go_at_call 133; refine (isReg_any _ _).mono ?_; rintro e w' ⟨rfl, rfl⟩)
  all_goals
    go_ret
    exact ⟨by rw [E.out]; have h := H0.out; first | (simp [kindOk, go_sem, *]; done) | (simp [kindOk, go_sem, *]; omega) | (simp_all [kindOk, go_sem]; done) | (simp_all [kindOk, go_sem]; omega), by go_grown⟩
set_option maxRecDepth 100000 in
set_option maxHeartbeats 2000000 in
theorem insForm_6 (slots : Int) (to_ : Option Addr) (tn tc : Nat) (tabs : List Shape) (co : Option Addr) (cn cc : Nat) (x : Ins) (w : World) (hs : 0 ≤ slots ∧ slots ≤ 96) (h : x.op = 6) :
    Calls Try.prog 98 #[.agg #[.int .i64 slots, .slice to_ tn tc, .slice co cn cc], .agg #[.int .i64 x.op, .int .i64 x.r, .int .i64 x.s, .int .i64 x.k, .int .i64 x.to, .int .u64 x.n]] w fun e w' => e = .returned (.bool (insOk slots tabs x)) ∧ Below w.heap.size w w' := by
  obtain ⟨op, r, s, k, to, n⟩ := x
  simp only at h
  subst h
  have E := (insOk_op slots tabs ⟨6, r, s, k, to, n⟩ true true true false true rfl rfl rfl rfl rfl rfl)
  have b1 : isOp 6 = true := rfl
  have b2 : hasR 6 = true := rfl
  have b3 : hasS 6 = true := rfl
  have b4 : hasK 6 = true := rfl
  have b5 : hasT 6 = false := rfl
  have b6 : hasN 6 = true := rfl
  obtain ⟨R, hR⟩ : ∃ R, insOk slots tabs ⟨6, r, s, k, to, n⟩ = R := ⟨_, rfl⟩
  rw [hR]
  rw [hR] at E
  replace E := Lib.hid E
  clear hR
  obtain ⟨hs1, hs2⟩ := hs
  go_enter Try.func98, Try.ntmps98
  go_wp2_with fail
  refine (fieldsOf_any _ _).mono ?_
  rintro e w1 ⟨rfl, hb1⟩
  rw [b1, b2, b3, b4, b5, b6]
  have hz : w.heap.size + 1 < w1.heap.size := by have := hb1.size; simp at this; omega
  have hz0 : w.heap.size < w1.heap.size := by omega
  obtain ⟨hB, g0, g1, f0, f1, f2, f3, f4, f5⟩ := ins_facts hb1
  clear hb1 b1 b2 b3 b4 b5 b6
  go_wp2_with (go_at_call 133; refine (isReg_any _ _).mono ?_; rintro e w' ⟨rfl, rfl⟩)
  all_goals
    go_ret
    exact ⟨by rw [E.out]; first | (simp [kindOk, go_sem, *]; done) | (simp [kindOk, go_sem, *]; omega) | (simp_all [kindOk, go_sem]; done) | (simp_all [kindOk, go_sem]; omega), by go_grown⟩
set_option maxRecDepth 100000 in
set_option maxHeartbeats 2000000 in
theorem insForm_9 (slots : Int) (to_ : Option Addr) (tn tc : Nat) (tabs : List Shape) (co : Option Addr) (cn cc : Nat) (x : Ins) (w : World) (hs : 0 ≤ slots ∧ slots ≤ 96) (h : x.op = 9) :
    Calls Try.prog 98 #[.agg #[.int .i64 slots, .slice to_ tn tc, .slice co cn cc], .agg #[.int .i64 x.op, .int .i64 x.r, .int .i64 x.s, .int .i64 x.k, .int .i64 x.to, .int .u64 x.n]] w fun e w' => e = .returned (.bool (insOk slots tabs x)) ∧ Below w.heap.size w w' := by
  obtain ⟨op, r, s, k, to, n⟩ := x
  simp only at h
  subst h
  have E := (insOk_op slots tabs ⟨9, r, s, k, to, n⟩ true false false true true rfl rfl rfl rfl rfl rfl)
  have b1 : isOp 9 = true := rfl
  have b2 : hasR 9 = true := rfl
  have b3 : hasS 9 = false := rfl
  have b4 : hasK 9 = false := rfl
  have b5 : hasT 9 = true := rfl
  have b6 : hasN 9 = true := rfl
  obtain ⟨R, hR⟩ : ∃ R, insOk slots tabs ⟨9, r, s, k, to, n⟩ = R := ⟨_, rfl⟩
  rw [hR]
  rw [hR] at E
  replace E := Lib.hid E
  clear hR
  obtain ⟨hs1, hs2⟩ := hs
  go_enter Try.func98, Try.ntmps98
  go_wp2_with fail
  refine (fieldsOf_any _ _).mono ?_
  rintro e w1 ⟨rfl, hb1⟩
  rw [b1, b2, b3, b4, b5, b6]
  have hz : w.heap.size + 1 < w1.heap.size := by have := hb1.size; simp at this; omega
  have hz0 : w.heap.size < w1.heap.size := by omega
  obtain ⟨hB, g0, g1, f0, f1, f2, f3, f4, f5⟩ := ins_facts hb1
  clear hb1 b1 b2 b3 b4 b5 b6
  go_wp2_with (go_at_call 133; refine (isReg_any _ _).mono ?_; rintro e w' ⟨rfl, rfl⟩)
  all_goals
    go_ret
    exact ⟨by rw [E.out]; first | (simp [kindOk, go_sem, *]; done) | (simp [kindOk, go_sem, *]; omega) | (simp_all [kindOk, go_sem]; done) | (simp_all [kindOk, go_sem]; omega), by go_grown⟩
set_option maxRecDepth 100000 in
set_option maxHeartbeats 2000000 in
theorem insForm_10 (slots : Int) (to_ : Option Addr) (tn tc : Nat) (tabs : List Shape) (co : Option Addr) (cn cc : Nat) (x : Ins) (w : World) (hs : 0 ≤ slots ∧ slots ≤ 96) (h : x.op = 10 ∨ x.op = 11) :
    Calls Try.prog 98 #[.agg #[.int .i64 slots, .slice to_ tn tc, .slice co cn cc], .agg #[.int .i64 x.op, .int .i64 x.r, .int .i64 x.s, .int .i64 x.k, .int .i64 x.to, .int .u64 x.n]] w fun e w' => e = .returned (.bool (insOk slots tabs x)) ∧ Below w.heap.size w w' := by
  obtain ⟨op, r, s, k, to, n⟩ := x
  simp only at h
  have b1 : isOp op = true := by rcases h with rfl | rfl <;> rfl
  have b2 : hasR op = true := by rcases h with rfl | rfl <;> rfl
  have b3 : hasS op = true := by rcases h with rfl | rfl <;> rfl
  have b4 : hasK op = false := by rcases h with rfl | rfl <;> rfl
  have b5 : hasT op = true := by rcases h with rfl | rfl <;> rfl
  have b6 : hasN op = false := by rcases h with rfl | rfl <;> rfl
  have E := (insOk_op slots tabs ⟨op, r, s, k, to, n⟩ true true false true false b1 b2 b3 b4 b5 b6)
  have q3 : (op == 3) = false := by rw [beq_eq_false_iff_ne]; omega
  have q6 : (op == 6) = false := by rw [beq_eq_false_iff_ne]; omega
  have q14 : (op == 14) = false := by rw [beq_eq_false_iff_ne]; omega
  have q9 : (op == 9) = false := by rw [beq_eq_false_iff_ne]; omega
  have q7 : (op == 7) = false := by rw [beq_eq_false_iff_ne]; omega
  have q8 : (op == 8) = false := by rw [beq_eq_false_iff_ne]; omega
  have q13 : (op == 13) = false := by rw [beq_eq_false_iff_ne]; omega
  have qn : (op != 13) = true := by rw [bne_iff_ne]; omega
  have H0 := Lib.hid h
  clear h
  obtain ⟨R, hR⟩ : ∃ R, insOk slots tabs ⟨op, r, s, k, to, n⟩ = R := ⟨_, rfl⟩
  rw [hR]
  rw [hR] at E
  replace E := Lib.hid E
  clear hR
  obtain ⟨hs1, hs2⟩ := hs
  go_enter Try.func98, Try.ntmps98
  go_wp2_with fail
  refine (fieldsOf_any _ _).mono ?_
  rintro e w1 ⟨rfl, hb1⟩
  rw [b1, b2, b3, b4, b5, b6]
  have hz : w.heap.size + 1 < w1.heap.size := by have := hb1.size; simp at this; omega
  have hz0 : w.heap.size < w1.heap.size := by omega
  obtain ⟨hB, g0, g1, f0, f1, f2, f3, f4, f5⟩ := ins_facts hb1
  clear hb1 b1 b2 b3 b4 b5 b6
  go_wp2_with (go_at_call 133; refine (isReg_any _ _).mono ?_; rintro e w' ⟨rfl, rfl⟩)
  all_goals
    go_ret
    exact ⟨by rw [E.out]; have h := H0.out; first | (simp [kindOk, go_sem, *]; done) | (simp [kindOk, go_sem, *]; omega) | (simp_all [kindOk, go_sem]; done) | (simp_all [kindOk, go_sem]; omega), by go_grown⟩
set_option maxRecDepth 100000 in
set_option maxHeartbeats 2000000 in
theorem insForm_12 (slots : Int) (to_ : Option Addr) (tn tc : Nat) (tabs : List Shape) (co : Option Addr) (cn cc : Nat) (x : Ins) (w : World) (hs : 0 ≤ slots ∧ slots ≤ 96) (h : x.op = 12) :
    Calls Try.prog 98 #[.agg #[.int .i64 slots, .slice to_ tn tc, .slice co cn cc], .agg #[.int .i64 x.op, .int .i64 x.r, .int .i64 x.s, .int .i64 x.k, .int .i64 x.to, .int .u64 x.n]] w fun e w' => e = .returned (.bool (insOk slots tabs x)) ∧ Below w.heap.size w w' := by
  obtain ⟨op, r, s, k, to, n⟩ := x
  simp only at h
  subst h
  have E := (insOk_op slots tabs ⟨12, r, s, k, to, n⟩ false false false true false rfl rfl rfl rfl rfl rfl)
  have b1 : isOp 12 = true := rfl
  have b2 : hasR 12 = false := rfl
  have b3 : hasS 12 = false := rfl
  have b4 : hasK 12 = false := rfl
  have b5 : hasT 12 = true := rfl
  have b6 : hasN 12 = false := rfl
  obtain ⟨R, hR⟩ : ∃ R, insOk slots tabs ⟨12, r, s, k, to, n⟩ = R := ⟨_, rfl⟩
  rw [hR]
  rw [hR] at E
  replace E := Lib.hid E
  clear hR
  obtain ⟨hs1, hs2⟩ := hs
  go_enter Try.func98, Try.ntmps98
  go_wp2_with fail
  refine (fieldsOf_any _ _).mono ?_
  rintro e w1 ⟨rfl, hb1⟩
  rw [b1, b2, b3, b4, b5, b6]
  have hz : w.heap.size + 1 < w1.heap.size := by have := hb1.size; simp at this; omega
  have hz0 : w.heap.size < w1.heap.size := by omega
  obtain ⟨hB, g0, g1, f0, f1, f2, f3, f4, f5⟩ := ins_facts hb1
  clear hb1 b1 b2 b3 b4 b5 b6
  go_wp2_with (go_at_call 133; refine (isReg_any _ _).mono ?_; rintro e w' ⟨rfl, rfl⟩)
  all_goals
    go_ret
    exact ⟨by rw [E.out]; first | (simp [kindOk, go_sem, *]; done) | (simp [kindOk, go_sem, *]; omega) | (simp_all [kindOk, go_sem]; done) | (simp_all [kindOk, go_sem]; omega), by go_grown⟩
set_option maxRecDepth 100000 in
set_option maxHeartbeats 2000000 in
theorem insForm_14 (slots : Int) (to_ : Option Addr) (tn tc : Nat) (tabs : List Shape) (co : Option Addr) (cn cc : Nat) (x : Ins) (w : World) (hs : 0 ≤ slots ∧ slots ≤ 96) (h : x.op = 14) :
    Calls Try.prog 98 #[.agg #[.int .i64 slots, .slice to_ tn tc, .slice co cn cc], .agg #[.int .i64 x.op, .int .i64 x.r, .int .i64 x.s, .int .i64 x.k, .int .i64 x.to, .int .u64 x.n]] w fun e w' => e = .returned (.bool (insOk slots tabs x)) ∧ Below w.heap.size w w' := by
  obtain ⟨op, r, s, k, to, n⟩ := x
  simp only at h
  subst h
  have E := (insOk_op slots tabs ⟨14, r, s, k, to, n⟩ true false true false false rfl rfl rfl rfl rfl rfl)
  have b1 : isOp 14 = true := rfl
  have b2 : hasR 14 = true := rfl
  have b3 : hasS 14 = false := rfl
  have b4 : hasK 14 = true := rfl
  have b5 : hasT 14 = false := rfl
  have b6 : hasN 14 = false := rfl
  obtain ⟨R, hR⟩ : ∃ R, insOk slots tabs ⟨14, r, s, k, to, n⟩ = R := ⟨_, rfl⟩
  rw [hR]
  rw [hR] at E
  replace E := Lib.hid E
  clear hR
  obtain ⟨hs1, hs2⟩ := hs
  go_enter Try.func98, Try.ntmps98
  go_wp2_with fail
  refine (fieldsOf_any _ _).mono ?_
  rintro e w1 ⟨rfl, hb1⟩
  rw [b1, b2, b3, b4, b5, b6]
  have hz : w.heap.size + 1 < w1.heap.size := by have := hb1.size; simp at this; omega
  have hz0 : w.heap.size < w1.heap.size := by omega
  obtain ⟨hB, g0, g1, f0, f1, f2, f3, f4, f5⟩ := ins_facts hb1
  clear hb1 b1 b2 b3 b4 b5 b6
  go_wp2_with (go_at_call 133; refine (isReg_any _ _).mono ?_; rintro e w' ⟨rfl, rfl⟩)
  all_goals
    go_ret
    exact ⟨by rw [E.out]; first | (simp [kindOk, go_sem, *]; done) | (simp [kindOk, go_sem, *]; omega) | (simp_all [kindOk, go_sem]; done) | (simp_all [kindOk, go_sem]; omega), by go_grown⟩
set_option maxRecDepth 100000 in
set_option maxHeartbeats 2000000 in
theorem insForm_17 (slots : Int) (to_ : Option Addr) (tn tc : Nat) (tabs : List Shape) (co : Option Addr) (cn cc : Nat) (x : Ins) (w : World) (hs : 0 ≤ slots ∧ slots ≤ 96) (h : x.op = 17) :
    Calls Try.prog 98 #[.agg #[.int .i64 slots, .slice to_ tn tc, .slice co cn cc], .agg #[.int .i64 x.op, .int .i64 x.r, .int .i64 x.s, .int .i64 x.k, .int .i64 x.to, .int .u64 x.n]] w fun e w' => e = .returned (.bool (insOk slots tabs x)) ∧ Below w.heap.size w w' := by
  obtain ⟨op, r, s, k, to, n⟩ := x
  simp only at h
  subst h
  have E := (insOk_op slots tabs ⟨17, r, s, k, to, n⟩ false false false false false rfl rfl rfl rfl rfl rfl)
  have b1 : isOp 17 = true := rfl
  have b2 : hasR 17 = false := rfl
  have b3 : hasS 17 = false := rfl
  have b4 : hasK 17 = false := rfl
  have b5 : hasT 17 = false := rfl
  have b6 : hasN 17 = false := rfl
  obtain ⟨R, hR⟩ : ∃ R, insOk slots tabs ⟨17, r, s, k, to, n⟩ = R := ⟨_, rfl⟩
  rw [hR]
  rw [hR] at E
  replace E := Lib.hid E
  clear hR
  obtain ⟨hs1, hs2⟩ := hs
  go_enter Try.func98, Try.ntmps98
  go_wp2_with fail
  refine (fieldsOf_any _ _).mono ?_
  rintro e w1 ⟨rfl, hb1⟩
  rw [b1, b2, b3, b4, b5, b6]
  have hz : w.heap.size + 1 < w1.heap.size := by have := hb1.size; simp at this; omega
  have hz0 : w.heap.size < w1.heap.size := by omega
  obtain ⟨hB, g0, g1, f0, f1, f2, f3, f4, f5⟩ := ins_facts hb1
  clear hb1 b1 b2 b3 b4 b5 b6
  go_wp2_with (go_at_call 133; refine (isReg_any _ _).mono ?_; rintro e w' ⟨rfl, rfl⟩)
  all_goals
    go_ret
    exact ⟨by rw [E.out]; first | (simp [kindOk, go_sem, *]; done) | (simp [kindOk, go_sem, *]; omega) | (simp_all [kindOk, go_sem]; done) | (simp_all [kindOk, go_sem]; omega), by go_grown⟩

end Go.Proofs.Ytfakdapglbgokaa

/-
  fits and insForm of whatever instruction. No condition.
-/
namespace Go.Proofs.Ytfakdapglbgokaa
set_option linter.all false
open Go.RowKit

theorem insOk_no {slots : Int} {tabs : List Shape} {x : Ins} (h : isOp x.op = false) : insOk slots tabs x = false := by
  unfold insOk formOk; rw [h]; rfl
set_option maxRecDepth 100000 in
theorem fits_no (slots : Int) (to_ co : Option Addr) (tn tc cn cc : Nat) (x : Ins) (w : World) (h : isOp x.op = false) :
    Calls Try.prog 104 #[.agg #[.int .i64 slots, .slice to_ tn tc, .slice co cn cc], .agg #[.int .i64 x.op, .int .i64 x.r, .int .i64 x.s, .int .i64 x.k, .int .i64 x.to, .int .u64 x.n]] w fun e w' => e = .returned (.bool false) ∧ Below w.heap.size w w' := by
  have H := Lib.hid h
  clear h
  go_enter Try.func104, Try.ntmps104
  go_wp2_with (go_at_call 106; refine (has_no _ _ H.out).mono ?_; rintro e w' ⟨rfl, rfl⟩)
  go_ret
  exact ⟨rfl, by go_grown⟩
set_option maxRecDepth 100000 in
theorem insForm_no (slots : Int) (to_ co : Option Addr) (tn tc cn cc : Nat) (x : Ins) (w : World) (h : isOp x.op = false) :
    Calls Try.prog 98 #[.agg #[.int .i64 slots, .slice to_ tn tc, .slice co cn cc], .agg #[.int .i64 x.op, .int .i64 x.r, .int .i64 x.s, .int .i64 x.k, .int .i64 x.to, .int .u64 x.n]] w fun e w' => e = .returned (.bool false) ∧ Below w.heap.size w w' := by
  go_enter Try.func98, Try.ntmps98
  go_wp2_with fail
  refine (fieldsOf_any _ _).mono ?_
  rintro e w1 ⟨rfl, hb1⟩
  rw [h]
  obtain ⟨hB, _, _⟩ := blk2 hb1
  have hsz := hB.size
  clear hb1
  go_wp2_with fail
  go_ret
  exact ⟨rfl, by go_grown⟩

theorem fits_any (slots : Int) (to_ : Option Addr) (tc : Nat) (tabs : List Shape) (co : Option Addr) (cn cc : Nat) (x : Ins) (A : Nat → Prop) (w : World) (ht : RdL shapeLay A w to_ tabs.length tc tabs) (hok : ∀ i, i < tabs.length → tabBad (nth tabs i) = false) (hx : x.wf) (hs : 0 ≤ slots ∧ slots ≤ 96) :
    Calls Try.prog 104 #[.agg #[.int .i64 slots, .slice to_ tabs.length tc, .slice co cn cc], .agg #[.int .i64 x.op, .int .i64 x.r, .int .i64 x.s, .int .i64 x.k, .int .i64 x.to, .int .u64 x.n]] w fun e w' => e = .returned (.bool (insOk slots tabs x)) ∧ Below w.heap.size w w' := by
  by_cases h : isOp x.op = true
  case neg => rw [insOk_no (by simpa using h)]; exact fits_no _ _ _ _ _ _ _ _ _ (by simpa using h)
  rcases op_cases h with h | h | h | h | h | h | h | h | h | h | h | h | h | h | h | h | h | h
  · exact fits_1 _ _ _ _ _ _ _ _ _ _ hs h
  · exact fits_2 _ _ _ _ _ _ _ _ _ _ hs (.inl h)
  · exact fits_3 _ _ _ _ _ _ _ _ _ _ hs h
  · exact fits_4 _ _ _ _ _ _ _ _ _ _ hs (.inl h)
  · exact fits_2 _ _ _ _ _ _ _ _ _ _ hs (.inr h)
  · exact fits_6 _ _ _ _ _ _ _ _ _ _ hs h
  · exact fits_7 _ _ _ _ _ _ _ _ _ _ hs (.inl h)
  · exact fits_7 _ _ _ _ _ _ _ _ _ _ hs (.inr h)
  · exact fits_9 _ _ _ _ _ _ _ _ _ _ hs h
  · exact fits_10 _ _ _ _ _ _ _ _ _ _ hs (.inl h)
  · exact fits_10 _ _ _ _ _ _ _ _ _ _ hs (.inr h)
  · exact fits_12 _ _ _ _ _ _ _ _ _ _ hs h
  · exact fits_13 _ _ _ _ _ _ _ _ A _ ht hok hx hs h
  · exact fits_14 _ _ _ _ _ _ _ _ _ _ hs h
  · exact fits_4 _ _ _ _ _ _ _ _ _ _ hs (.inr (.inl h))
  · exact fits_4 _ _ _ _ _ _ _ _ _ _ hs (.inr (.inr (.inl h)))
  · exact fits_17 _ _ _ _ _ _ _ _ _ _ hs h
  · exact fits_4 _ _ _ _ _ _ _ _ _ _ hs (.inr (.inr (.inr h)))
theorem insForm_any (slots : Int) (to_ : Option Addr) (tc : Nat) (tabs : List Shape) (co : Option Addr) (cn cc : Nat) (x : Ins) (A : Nat → Prop) (w : World) (ht : RdL shapeLay A w to_ tabs.length tc tabs) (hok : ∀ i, i < tabs.length → tabBad (nth tabs i) = false) (hx : x.wf) (hs : 0 ≤ slots ∧ slots ≤ 96) :
    Calls Try.prog 98 #[.agg #[.int .i64 slots, .slice to_ tabs.length tc, .slice co cn cc], .agg #[.int .i64 x.op, .int .i64 x.r, .int .i64 x.s, .int .i64 x.k, .int .i64 x.to, .int .u64 x.n]] w fun e w' => e = .returned (.bool (insOk slots tabs x)) ∧ Below w.heap.size w w' := by
  by_cases h : isOp x.op = true
  case neg => rw [insOk_no (by simpa using h)]; exact insForm_no _ _ _ _ _ _ _ _ _ (by simpa using h)
  rcases op_cases h with h | h | h | h | h | h | h | h | h | h | h | h | h | h | h | h | h | h
  · exact insForm_1 _ _ _ _ _ _ _ _ _ _ hs h
  · exact insForm_2 _ _ _ _ _ _ _ _ _ _ hs (.inl h)
  · exact insForm_3 _ _ _ _ _ _ _ _ _ _ hs h
  · exact insForm_4 _ _ _ _ _ _ _ _ _ _ hs (.inl h)
  · exact insForm_2 _ _ _ _ _ _ _ _ _ _ hs (.inr h)
  · exact insForm_6 _ _ _ _ _ _ _ _ _ _ hs h
  · exact insForm_7 _ _ _ _ _ _ _ _ _ _ hs (.inl h)
  · exact insForm_7 _ _ _ _ _ _ _ _ _ _ hs (.inr h)
  · exact insForm_9 _ _ _ _ _ _ _ _ _ _ hs h
  · exact insForm_10 _ _ _ _ _ _ _ _ _ _ hs (.inl h)
  · exact insForm_10 _ _ _ _ _ _ _ _ _ _ hs (.inr h)
  · exact insForm_12 _ _ _ _ _ _ _ _ _ _ hs h
  · exact insForm_13 _ _ _ _ _ _ _ _ A _ ht hok hx hs h
  · exact insForm_14 _ _ _ _ _ _ _ _ _ _ hs h
  · exact insForm_4 _ _ _ _ _ _ _ _ _ _ hs (.inr (.inl h))
  · exact insForm_4 _ _ _ _ _ _ _ _ _ _ hs (.inr (.inr (.inl h)))
  · exact insForm_17 _ _ _ _ _ _ _ _ _ _ hs h
  · exact insForm_4 _ _ _ _ _ _ _ _ _ _ hs (.inr (.inr (.inr h)))
end Go.Proofs.Ytfakdapglbgokaa
