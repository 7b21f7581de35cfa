/-
  Package sum and its references: what each function computes. No condition.
-/
import Derived.Test.YthchhlojpohjbaaRows
import Derived.Test.YthchhlojpohjbaaRd
import Derived.Test.YthchhlojpohjbaaSumP
namespace Go.Proofs.Ythchhlojpohjbaa
open Go.RowKit

theorem ret_int {k : IntKind} {a b : Int} (h : a = b) : Ending.returned (.int k a) = .returned (.int k b) := by rw [h]
theorem ret_bool {a b : Bool} (h : a = b) : Ending.returned (.bool a) = .returned (.bool b) := by rw [h]

theorem Add_any (a b : Int) (w : World) :
    Calls Try.prog 12 #[.int .i64 a, .int .i64 b] w fun e w' => e = .returned (.int .i64 (addW a b)) ∧ w = w' := by
  go_enter Try.func12, Try.ntmps12
  go_wp2
  go_ret
  exact ⟨ret_int (add_code a b), rfl⟩

theorem refAdd_code (a b : Int) : wrap64 (wrap64 ((IntKind.u64.wrap a).tmod 65536) + wrap64 ((IntKind.u64.wrap b).tmod 65536)) = a % 65536 + b % 65536 := by
  rw [IntKind.wrap_u64, IntKind.wrap_u64, tmod_of_emod, tmod_of_emod]
  unfold wrap64
  omega

theorem AddWords_any (a b : Int) (w : World) :
    Calls Try.prog 15 #[.int .i64 a, .int .i64 b] w fun e w' => e = .returned (.int .i64 (addW a b)) ∧ w = w' := by
  have hc := refAdd_code a b
  go_enter Try.func15, Try.ntmps15
  go_wp2
  · go_ret
    have h : 65535 < a % 65536 + b % 65536 := by assumption
    exact ⟨ret_int (by rw [addW, if_pos h]), rfl⟩
  · go_ret
    have h : a % 65536 + b % 65536 ≤ 65535 := by assumption
    exact ⟨ret_int (by rw [hc, addW, if_neg (by omega)]), rfl⟩

theorem Whole_any (ao : Option Addr) (n cap : Nat) (xs : List Int) (w : World) (hr : Rd w .u8 ao n cap xs) :
    Calls Try.prog 13 #[.slice ao n cap] w fun e w' => e = .returned (.int .i64 (whole xs)) ∧ w = w' := by
  obtain rfl := hr.len
  have hlt := hr.lt
  go_enter Try.func13, Try.ntmps13
  go_wp2_with fail
  go_loop [3, 9] (fun n i => ∃ k : Nat, k ≤ xs.length ∧ i = .int .i64 k ∧ n = .int .i64 (wholeTo xs k)) (fun _ i => xs.length - (intOf i).toNat)
  case atStart => exact ⟨0, Nat.zero_le _, rfl, rfl⟩
  case round =>
    obtain ⟨k, hk, rfl, rfl⟩ := hrel
    by_cases hl : k < xs.length
    · obtain ⟨b, off, rfl, hc⟩ := hr.here (by omega)
      have hck := hc k hl
      have hb := hr.fit.el_u8 k
      clear hc
      rcases Nat.mod_two_eq_zero_or_one k with h2 | h2
      · have H := Lib.hid (wholeTo_even xs k h2)
        have hd : ((k : Int) % 2 == 0) = true := by rw [beq_iff_eq]; omega
        clear h2
        go_wp2_with (go_at_call 12; refine (Add_any _ _ _).mono ?_; rintro e w' ⟨rfl, rfl⟩)
        go_round
        case rel => exact ⟨k + 1, by omega, by go_num, by rw [H.out]⟩
        case measure => simp [intOf]; omega
      · have H := Lib.hid (wholeTo_odd xs k h2)
        have hd : ((k : Int) % 2 == 0) = false := by rw [beq_eq_false_iff_ne]; omega
        clear h2
        go_wp2_with (go_at_call 12; refine (Add_any _ _ _).mono ?_; rintro e w' ⟨rfl, rfl⟩)
        go_round
        case rel => exact ⟨k + 1, by omega, by go_num, by rw [H.out]⟩
        case measure => simp [intOf]; omega
    · obtain rfl : k = xs.length := by omega
      go_wp2_with fail
      go_ret
      exact ⟨rfl, rfl⟩

theorem refWhole_any (ao : Option Addr) (n cap : Nat) (xs : List Int) (w : World) (hr : Rd w .u8 ao n cap xs) (hlt : n ≤ 1000000) :
    Calls Try.prog 14 #[.slice ao n cap] w fun e w' => e = .returned (.int .i64 (whole xs)) ∧ w = w' := by
  obtain rfl := hr.len
  go_enter Try.func14, Try.ntmps14
  go_wp2_with fail
  go_loop [3, 4] (fun n i => ∃ k : Nat, k % 2 = 0 ∧ k ≤ xs.length + 1 ∧ i = .int .i64 k ∧ n = .int .i64 (wholeTo xs (min k xs.length))) (fun _ i => xs.length + 1 - (intOf i).toNat)
  case atStart => exact ⟨0, rfl, Nat.zero_le _, rfl, by rw [Nat.zero_min]; rfl⟩
  case round =>
    obtain ⟨k, h2, hk, rfl, rfl⟩ := hrel
    by_cases hl : k < xs.length
    · obtain ⟨b, off, rfl, hc⟩ := hr.here (by omega)
      have hck := hc k hl
      have hb := hr.fit.el_u8 k
      have hb1 := hr.fit.el_u8 (k + 1)
      have hm : min k xs.length = k := by omega
      rw [hm]
      clear hm
      by_cases hl1 : k + 1 < xs.length
      · have hck1 := hc (k + 1) hl1
        clear hc
        have H := Lib.hid (wholeTo_two xs k h2 hb hb1)
        have H2 := Lib.hid h2
        clear h2
        go_wp2_with (go_at_call 15; refine (AddWords_any _ _ _).mono ?_; rintro e w' ⟨rfl, rfl⟩)
        go_round
        case rel => exact ⟨k + 2, by have := H2.out; omega, by omega, by go_num, by rw [show min (k + 2) xs.length = k + 2 from by omega, H.out]⟩
        case measure => simp [intOf]; omega
      · clear hc
        have H := Lib.hid (wholeTo_even xs k h2)
        have H2 := Lib.hid h2
        clear h2
        go_wp2_with (go_at_call 15; refine (AddWords_any _ _ _).mono ?_; rintro e w' ⟨rfl, rfl⟩)
        go_round
        case rel => exact ⟨k + 2, by have := H2.out; omega, by omega, by go_num, by rw [show min (k + 2) xs.length = k + 1 from by omega, H.out]⟩
        case measure => simp [intOf]; omega
    · have hm : min k xs.length = xs.length := by omega
      rw [hm]
      have H2 := Lib.hid h2
      clear h2 hm
      go_wp2_with fail
      go_ret
      exact ⟨rfl, rfl⟩

theorem Of_any (ao : Option Addr) (n cap : Nat) (xs : List Int) (w : World) (hr : Rd w .u8 ao n cap xs) :
    Calls Try.prog 16 #[.slice ao n cap] w fun e w' => e = .returned (.int .i64 (65535 - whole xs)) ∧ w = w' := by
  go_enter Try.func16, Try.ntmps16
  go_wp2_with (go_at_call 13; refine (Whole_any _ _ _ _ _ hr).mono ?_; rintro e w' ⟨rfl, rfl⟩)
  go_ret
  exact ⟨ret_int (xor_word _ (whole_range xs).1 (whole_range xs).2), rfl⟩

theorem Right_any (ao : Option Addr) (n cap : Nat) (xs : List Int) (w : World) (hr : Rd w .u8 ao n cap xs) :
    Calls Try.prog 17 #[.slice ao n cap] w fun e w' => e = .returned (.bool (whole xs == 65535)) ∧ w = w' := by
  go_enter Try.func17, Try.ntmps17
  go_wp2_with (go_at_call 13; refine (Whole_any _ _ _ _ _ hr).mono ?_; rintro e w' ⟨rfl, rfl⟩)
  go_ret
  exact ⟨rfl, rfl⟩

theorem Turn_any (s a b : Int) (w : World) :
    Calls Try.prog 18 #[.int .i64 s, .int .i64 a, .int .i64 b] w fun e w' => e = .returned (.int .i64 (turnW s a b)) ∧ w = w' := by
  go_enter Try.func18, Try.ntmps18
  go_wp2_with (go_at_call 12; refine (Add_any _ _ _).mono ?_; rintro e w' ⟨rfl, rfl⟩)
  go_ret
  refine ⟨ret_int ?_, rfl⟩
  rw [xor_word _ (addW_range _ _).1 (addW_range _ _).2, i64_and_word, i64_and_word, xor_word _ (by omega) (by omega), xor_word _ (by omega) (by omega)]
  rfl

theorem refTurn_code (s : Int) : wrap64 (65535 - wrap64 ((IntKind.u64.wrap s).tmod 65536)) = 65535 - s % 65536 := by
  rw [IntKind.wrap_u64, tmod_of_emod]
  unfold wrap64
  omega

theorem refTurn_any (s a b : Int) (w : World) :
    Calls Try.prog 19 #[.int .i64 s, .int .i64 a, .int .i64 b] w fun e w' => e = .returned (.int .i64 (turnW s a b)) ∧ w = w' := by
  go_enter Try.func19, Try.ntmps19
  go_wp2_with (go_at_call 15; refine (AddWords_any _ _ _).mono ?_; rintro e w' ⟨rfl, rfl⟩)
  go_ret
  refine ⟨ret_int ?_, rfl⟩
  have := addW_range (addW (65535 - s % 65536) (65535 - a % 65536)) b
  rw [refTurn_code, refTurn_code, IntWalk.wrap64_in _ (by omega)]
  rfl

theorem sty_bytes : SliceTy Try.prog 25 5 1 1 (.int .u8 0) := ⟨Try.underlying25, by kernel_rfl, rfl, by omega⟩

theorem SameBytes_any (ao bo : Option Addr) (na ca nb cb : Nat) (xs ys : List Int) (w : World) (hx : Rd w .u8 ao na ca xs) (hy : Rd w .u8 bo nb cb ys) :
    Calls Try.prog 20 #[.slice ao na ca, .slice bo nb cb] w fun e w' => e = .returned (.bool (decide (xs = ys))) ∧ w = w' := by
  have h1 := hx.str (P := Try.prog) 25 9 5 Try.underlying25 Try.underlying5 Try.underlying9
  have h2 := hy.str (P := Try.prog) 25 9 5 Try.underlying25 Try.underlying5 Try.underlying9
  have h3 := Lib.hid (strOfNums_inj hx.fit hy.fit)
  go_enter Try.func20, Try.ntmps20
  go_wp2_with fail
  go_ret
  exact ⟨ret_bool h3.out, rfl⟩

theorem lit3_fit : AllFit .u8 [69, 0, 1] := by intro x hx; simp at hx; rcases hx with rfl | rfl | rfl <;> rfl

theorem begun_any (w : World) :
    Calls Try.prog 11 #[] w fun e w' => e = .returned (.bool true) ∧ Below w.heap.size w w' := by
  have hA : addW 65535 1 = 1 := by decide
  have hB : whole [69, 0, 1] = 17920 := by decide
  have hC : whole [] = 0 := rfl
  have hl := Rd.lit (w' := w.alloc (.cells #[.int .u8 69, .int .u8 0, .int .u8 1] 5)) .u8 [69, 0, 1] 5 w.heap.size (heap_alloc_new w _) lit3_fit (by simp)
  have hn := Rd.nil_ (w.alloc (.cells #[.int .u8 69, .int .u8 0, .int .u8 1] 5)) .u8
  go_enter Try.func11, Try.ntmps11
  go_wp2_with (first
    | (go_at_call 12; refine (Add_any _ _ _).mono ?_; rintro e w' ⟨rfl, rfl⟩)
    | (go_at_call 13; refine (Whole_any _ _ _ _ _ hl).mono ?_; rintro e w' ⟨rfl, rfl⟩)
    | (go_at_call 16; refine (Of_any _ _ _ _ _ hn).mono ?_; rintro e w' ⟨rfl, rfl⟩))
  go_ret
  exact ⟨rfl, (Below.refl _ _).alloc (Nat.le_refl _) _⟩

/-! ### The laws -/

theorem SumOrder_law (a b c : Int) (w : World) (_ : (Lit.int .i64 a).wf = true) (_ : (Lit.int .i64 b).wf = true) (_ : (Lit.int .i64 c).wf = true) :
    Calls Try.prog 3 #[.int .i64 a, .int .i64 b, .int .i64 c] w fun e w' => e = .returned (.bool true) ∧ Below w.heap.size w w' := by
  have h1 : addW (addW a b) c = addW a (addW b c) := addW_assoc a b c
  have h2 : addW (addW c a) b = addW a (addW b c) := by rw [addW_assoc, addW_comm c, addW_assoc]
  have h3 : addW b a = addW a b := addW_comm b a
  go_enter Try.func3, Try.ntmps3
  go_wp2_with (first
    | (go_at_call 11; refine (begun_any _).mono ?_; rintro e w' ⟨rfl, hb⟩)
    | (go_at_call 12; refine (Add_any _ _ _).mono ?_; rintro e w' ⟨rfl, rfl⟩))
  go_ret
  exact ⟨rfl, by assumption⟩

theorem SumDoes_law (a b c : Int) (ao : Option Addr) (n cap : Nat) (xs : List Int) (w : World) (_ : (Lit.int .i64 a).wf = true) (_ : (Lit.int .i64 b).wf = true) (_ : (Lit.int .i64 c).wf = true) (hr : Rd w .u8 ao n cap xs) :
    Calls Try.prog 5 #[.int .i64 a, .int .i64 b, .int .i64 c, .slice ao n cap] w fun e w' => e = .returned (.bool true) ∧ Below w.heap.size w w' := by
  obtain rfl := hr.len
  by_cases hl : 5000 < (xs.length : Int)
  · go_enter Try.func5, Try.ntmps5
    go_wp2_with (first
      | (go_at_call 11; refine (begun_any _).mono ?_; rintro e w' ⟨rfl, hb⟩))
    go_ret
    exact ⟨rfl, by assumption⟩
  · have hrg := whole_range xs
    go_enter Try.func5, Try.ntmps5
    go_wp2_with fail
    refine (begun_any _).mono ?_
    rintro e w1 ⟨rfl, hb⟩
    have hr1 := hr.below hb
    go_wp2_with (at_builtin; refine wpList_append_new rfl _ _ 25 rfl sty_bytes rfl rfl hr1 (by omega) (by omega) ?_; intro v w2 hm hb2)
    obtain ⟨ao2, cap2, rfl, hr2, _⟩ := hm.rd
    have hr3 := hr1.below hb2
    go_wp2_with (first
      | (go_at_call 12; refine (Add_any _ _ _).mono ?_; rintro e w' ⟨rfl, rfl⟩)
      | (go_at_call 15; refine (AddWords_any _ _ _).mono ?_; rintro e w' ⟨rfl, rfl⟩)
      | (go_at_call 14; refine (refWhole_any _ _ _ _ _ hr3 (by omega)).mono ?_; rintro e w' ⟨rfl, rfl⟩)
      | (go_at_call 13; refine (Whole_any _ _ _ _ _ hr2).mono ?_; rintro e w' ⟨rfl, rfl⟩)
      | (go_at_call 16; refine (Of_any _ _ _ _ _ hr2).mono ?_; rintro e w' ⟨rfl, rfl⟩)
      | (go_at_call 17; refine (Right_any _ _ _ _ _ hr2).mono ?_; rintro e w' ⟨rfl, rfl⟩)
      | (go_at_call 18; refine (Turn_any _ _ _ _).mono ?_; rintro e w' ⟨rfl, rfl⟩)
      | (go_at_call 19; refine (refTurn_any _ _ _ _).mono ?_; rintro e w' ⟨rfl, rfl⟩)
      | (go_at_call 20; refine (SameBytes_any _ _ _ _ _ _ _ _ _ hr2 hr3).mono ?_; rintro e w' ⟨rfl, rfl⟩))
    go_ret
    exact ⟨rfl, hb.trans (hb2.mono hb.size)⟩

theorem SumParts_law (ao : Option Addr) (na ca : Nat) (xs : List Int) (bo : Option Addr) (nb cb : Nat) (ys : List Int) (w : World) (hx : Rd w .u8 ao na ca xs) (hy : Rd w .u8 bo nb cb ys) :
    Calls Try.prog 4 #[.slice ao na ca, .slice bo nb cb] w fun e w' => e = .returned (.bool true) ∧ Below w.heap.size w w' := by
  obtain rfl := hx.len
  obtain rfl := hy.len
  have hlx := hx.lt
  have hly := hy.lt
  by_cases hq : xs.length ≤ 5000 ∧ ys.length ≤ 5000 ∧ xs.length % 2 = 0
  · obtain ⟨h1, h2, h3⟩ := hq
    have hd : ((xs.length : Int) % 2 == 1) = false := by rw [beq_eq_false_iff_ne]; omega
    have hlaw : whole (xs ++ ys) = addW (whole xs) (whole ys) := whole_append xs ys h3
    have h3 := Lib.hid h3
    go_enter Try.func4, Try.ntmps4
    go_wp2_with fail
    refine (begun_any _).mono ?_
    rintro e w1 ⟨rfl, hb⟩
    have hx1 := hx.below hb
    have hy1 := hy.below hb
    go_wp2_with (first
      | (at_builtin; refine wpList_append_new rfl _ _ 25 rfl sty_bytes rfl rfl hx1 (by omega) (by omega) ?_; intro v w2 hm hb2; have hy2 := hy1.below hb2)
      | (at_builtin; refine wpList_append_rd (v := v) rfl _ _ 25 rfl sty_bytes w1.heap.size rfl hm rfl hy2 (by omega) (by omega) hb2.size ?_; intro v3 w3 hm3 hg3))
    have hb3 : Below w1.heap.size w2 w3 := (Below.refl _ _).grown hg3 hb2.size (fun g hg => (hm.1.lt g hg).1)
    obtain ⟨a3, c3, rfl, hr3, _⟩ := hm3.rd
    have hx3 := hx1.below (hb2.trans hb3)
    have hy3 := hy1.below (hb2.trans hb3)
    have hlen : (xs ++ ys).length = xs.length + ys.length := by simp
    clear hm hg3 hm3
    go_wp2_with fail
    refine (Whole_any _ _ _ _ _ hr3).mono ?_
    rintro e w4 ⟨rfl, rfl⟩
    go_wp2_with fail
    refine (Whole_any _ _ _ _ _ hx3).mono ?_
    rintro e w4 ⟨rfl, rfl⟩
    go_wp2_with fail
    refine (Whole_any _ _ _ _ _ hy3).mono ?_
    rintro e w4 ⟨rfl, rfl⟩
    go_wp2_with (go_at_call 12; refine (Add_any _ _ _).mono ?_; rintro e w' ⟨rfl, rfl⟩)
    go_ret
    exact ⟨rfl, hb.trans ((hb2.trans hb3).mono hb.size)⟩
  · have hq' : (5000 < (xs.length : Int) ∨ 5000 < (ys.length : Int)) ∨ ((xs.length : Int) ≤ 5000 ∧ (ys.length : Int) ≤ 5000 ∧ ((xs.length : Int) % 2 == 1) = true) := by
      rw [beq_iff_eq]; omega
    clear hq
    rcases hq' with (h | h) | ⟨h1, h2, h3⟩
    · go_enter Try.func4, Try.ntmps4
      go_wp2_with (go_at_call 11; refine (begun_any _).mono ?_; rintro e w' ⟨rfl, hb⟩)
      all_goals go_ret
      all_goals exact ⟨rfl, by assumption⟩
    · by_cases h' : 5000 < (xs.length : Int)
      all_goals go_enter Try.func4, Try.ntmps4
      all_goals go_wp2_with (go_at_call 11; refine (begun_any _).mono ?_; rintro e w' ⟨rfl, hb⟩)
      all_goals go_ret
      all_goals exact ⟨rfl, by assumption⟩
    · go_enter Try.func4, Try.ntmps4
      go_wp2_with (go_at_call 11; refine (begun_any _).mono ?_; rintro e w' ⟨rfl, hb⟩)
      go_ret
      exact ⟨rfl, by assumption⟩

end Go.Proofs.Ythchhlojpohjbaa
