/-
  Package bits and its references: what each function computes. No condition.
-/
import Derived.Test.YtfakdapglbgokaaRows
import Derived.Test.YtfakdapglbgokaaBitsP
import Derived.Deep.QuietTactic
import Derived.BigQuiet
import Derived.WalkSmall
import Derived.Handy
namespace Go.Proofs.Ytfakdapglbgokaa
set_option linter.all false
open Go.RowKit

theorem sty_bytes : SliceTy Try.prog 77 5 1 1 (.int .u8 0) := ⟨Try.underlying77, by kernel_rfl, rfl, by omega⟩
theorem sty_nums : SliceTy Try.prog 28 23 1 8 (.int .u64 0) := ⟨Try.underlying28, by kernel_rfl, rfl, by omega⟩

theorem inside_any (ao : Option Addr) (n cap : Nat) (at_ w_ : Int) (w : World) (hn : n ≤ 1000000) (ha : -9223372036854775808 ≤ at_ ∧ at_ ≤ 9223372036854775807) (hw : -9223372036854775808 ≤ w_ ∧ w_ ≤ 9223372036854775807) :
    Calls Try.prog 154 #[.slice ao n cap, .int .i64 at_, .int .i64 w_] w fun e w' => e = .returned (.agg #[.int .i64 (bfc n at_ w_), .int .i64 (bfa n at_ w_)]) ∧ Below w.heap.size w w' := by
  by_cases h1 : w_ < 1
  · have e1 : bfc n at_ w_ = 6 := by unfold bfc; rw [if_pos (by omega)]
    have e2 : bfa n at_ w_ = -1 := by unfold bfa; rw [if_pos (by omega)]
    rw [e1, e2]; clear e1 e2
    go_enter Try.func154, Try.ntmps154
    go_wp2
    go_returns
    exact ⟨rfl, by go_grown⟩
  by_cases h2 : 64 < w_
  · have e1 : bfc n at_ w_ = 6 := by unfold bfc; rw [if_pos (by omega)]
    have e2 : bfa n at_ w_ = -1 := by unfold bfa; rw [if_pos (by omega)]
    rw [e1, e2]; clear e1 e2
    go_enter Try.func154, Try.ntmps154
    go_wp2
    go_returns
    exact ⟨rfl, by go_grown⟩
  by_cases h3 : at_ < 0
  · have e1 : bfc n at_ w_ = 1 := by unfold bfc; rw [if_neg (by omega), if_pos (by omega)]
    have e2 : bfa n at_ w_ = -1 := by unfold bfa; rw [if_neg (by omega), if_pos (by omega)]
    rw [e1, e2]; clear e1 e2
    go_enter Try.func154, Try.ntmps154
    go_wp2
    go_returns
    exact ⟨rfl, by go_grown⟩
  by_cases h4 : 8 * (n : Int) - w_ < at_
  · have e1 : bfc n at_ w_ = 1 := by unfold bfc; rw [if_neg (by omega), if_pos (by omega)]
    have e2 : bfa n at_ w_ = -1 := by unfold bfa; rw [if_neg (by omega), if_pos (by omega)]
    rw [e1, e2]; clear e1 e2
    go_enter Try.func154, Try.ntmps154
    go_wp2
    go_returns
    exact ⟨rfl, by go_grown⟩
  · have e1 : bfc n at_ w_ = 0 := by unfold bfc; rw [if_neg (by omega), if_neg (by omega)]
    have e2 : bfa n at_ w_ = 0 := by unfold bfa; rw [if_neg (by omega), if_neg (by omega)]
    rw [e1, e2]; clear e1 e2
    go_enter Try.func154, Try.ntmps154
    go_wp2
    go_returns
    exact ⟨rfl, by go_grown⟩

theorem F_any (c a : Int) (w : World) :
    Calls Try.prog 90 #[.int .i64 c, .int .i64 a] w fun e w' => e = .returned (.agg #[.int .i64 c, .int .i64 a]) ∧ w.alloc (.cells #[.int .i64 c, .int .i64 a] 65) = w' := by
  go_enter Try.func90, Try.ntmps90
  go_wp2
  go_returns
  exact ⟨rfl, rfl⟩

theorem bcell {W w1 : World} (hb : Below W.heap.size W w1) : (∀ b o, b < W.heap.size → w1.cell? ⟨b, o, none⟩ = W.cell? ⟨b, o, none⟩) ∧ (∀ b o, b < W.heap.size → w1.frozen? ⟨b, o, none⟩ = W.frozen? ⟨b, o, none⟩) :=
  ⟨fun b o h => hb.cell (p := ⟨b, o, none⟩) h, fun b o h => hb.frozen (p := ⟨b, o, none⟩) h⟩

theorem bitsFault_any (ao : Option Addr) (n cap : Nat) (at_ w_ : Int) (w : World) (hn : n ≤ 1000000) (ha : -9223372036854775808 ≤ at_ ∧ at_ ≤ 9223372036854775807) (hw : -9223372036854775808 ≤ w_ ∧ w_ ≤ 9223372036854775807) :
    Calls Try.prog 155 #[.slice ao n cap, .int .i64 at_, .int .i64 w_] w fun e w' => e = .returned (.agg #[.int .i64 (bfc n at_ w_), .int .i64 (bfa n at_ w_)]) ∧ Below w.heap.size w w' := by
  by_cases h1 : w_ < 1
  · have e1 : bfc n at_ w_ = 6 := by unfold bfc; rw [if_pos (by omega)]
    have e2 : bfa n at_ w_ = -1 := by unfold bfa; rw [if_pos (by omega)]
    rw [e1, e2]; clear e1 e2
    go_enter Try.func155, Try.ntmps155
    go_wp2_with (go_at_call 90; refine (F_any _ _ _).mono ?_; rintro e w1 ⟨rfl, rfl⟩)
    go_returns
    exact ⟨rfl, by go_grown⟩
  by_cases h2 : 64 < w_
  · have e1 : bfc n at_ w_ = 6 := by unfold bfc; rw [if_pos (by omega)]
    have e2 : bfa n at_ w_ = -1 := by unfold bfa; rw [if_pos (by omega)]
    rw [e1, e2]; clear e1 e2
    go_enter Try.func155, Try.ntmps155
    go_wp2_with (go_at_call 90; refine (F_any _ _ _).mono ?_; rintro e w1 ⟨rfl, rfl⟩)
    go_returns
    exact ⟨rfl, by go_grown⟩
  by_cases h3 : at_ < 0
  · have e1 : bfc n at_ w_ = 1 := by unfold bfc; rw [if_neg (by omega), if_pos (by omega)]
    have e2 : bfa n at_ w_ = -1 := by unfold bfa; rw [if_neg (by omega), if_pos (by omega)]
    rw [e1, e2]; clear e1 e2
    go_enter Try.func155, Try.ntmps155
    go_wp2_with (go_at_call 90; refine (F_any _ _ _).mono ?_; rintro e w1 ⟨rfl, rfl⟩)
    go_returns
    exact ⟨rfl, by go_grown⟩
  by_cases h4 : 8 * (n : Int) < at_
  · have e1 : bfc n at_ w_ = 1 := by unfold bfc; rw [if_neg (by omega), if_pos (by omega)]
    have e2 : bfa n at_ w_ = -1 := by unfold bfa; rw [if_neg (by omega), if_pos (by omega)]
    rw [e1, e2]; clear e1 e2
    go_enter Try.func155, Try.ntmps155
    go_wp2_with (go_at_call 90; refine (F_any _ _ _).mono ?_; rintro e w1 ⟨rfl, rfl⟩)
    go_returns
    exact ⟨rfl, by go_grown⟩
  by_cases h5 : 8 * (n : Int) - at_ < w_
  · have e1 : bfc n at_ w_ = 1 := by unfold bfc; rw [if_neg (by omega), if_pos (by omega)]
    have e2 : bfa n at_ w_ = -1 := by unfold bfa; rw [if_neg (by omega), if_pos (by omega)]
    rw [e1, e2]; clear e1 e2
    go_enter Try.func155, Try.ntmps155
    go_wp2_with (go_at_call 90; refine (F_any _ _ _).mono ?_; rintro e w1 ⟨rfl, rfl⟩)
    go_returns
    exact ⟨rfl, by go_grown⟩
  · have e1 : bfc n at_ w_ = 0 := by unfold bfc; rw [if_neg (by omega), if_neg (by omega)]
    have e2 : bfa n at_ w_ = 0 := by unfold bfa; rw [if_neg (by omega), if_neg (by omega)]
    rw [e1, e2]; clear e1 e2
    go_enter Try.func155, Try.ntmps155
    go_wp2_with (go_at_call 90; refine (F_any _ _ _).mono ?_; rintro e w1 ⟨rfl, rfl⟩)
    go_returns
    exact ⟨rfl, by go_grown⟩

theorem bitsNum_any (ao : Option Addr) (n cap : Nat) (xs : List Int) (w : World) (hr : Rd w .u8 ao n cap xs) (hn : n ≤ 64) (hb : Bits (el xs)) :
    Calls Try.prog 102 #[.slice ao n cap] w fun e w' => e = .returned (.int .u64 (acc (el xs) n)) ∧ w = w' := by
  obtain rfl := hr.len
  go_enter Try.func102, Try.ntmps102
  go_wp2_with fail
  go_loop [3, 4] (fun v i => ∃ k : Nat, k ≤ xs.length ∧ i = .int .i64 k ∧ v = .int .u64 (acc (el xs) k)) (fun _ i => xs.length - (intOf i).toNat)
  case atStart => exact ⟨0, Nat.zero_le _, rfl, rfl⟩
  case round =>
    obtain ⟨k, hk, rfl, rfl⟩ := hrel
    by_cases hl : k < xs.length
    · obtain ⟨b, off, rfl, hc⟩ := hr.here (by omega)
      have hck := hc k hl
      have h1 := acc_u64 _ hb k (by omega)
      have h2 := hb k
      have hs : acc (el xs) (k + 1) = 2 * acc (el xs) k + el xs k := rfl
      have Hs := Lib.hid hs
      clear hc hs hb
      go_wp2_with fail
      go_round
      case rel => exact ⟨k + 1, by omega, by go_num, by rw [Hs.out]⟩
      case measure => simp [intOf]; omega
    · obtain rfl : k = xs.length := by omega
      clear hb
      go_wp2_with fail
      go_ret
      exact ⟨rfl, rfl⟩

theorem two_pow_pos (d : Nat) : (0 : Int) < 2 ^ d := Int.pow_pos (by omega)
theorem and_one_shift (v : Int) (h0 : 0 ≤ v) (h1 : v ≤ 18446744073709551615) (d : Nat) : bits .and .u64 (v / 2 ^ d) 1 = v / 2 ^ d % 2 := by
  have h2 : 0 ≤ v / 2 ^ d := Int.ediv_nonneg h0 (Int.le_of_lt (two_pow_pos d))
  have h3 : v / 2 ^ d ≤ v := Int.ediv_le_self _ h0
  exact and_one_u64 _ h2 (by omega)

theorem numBits_any (v : Int) (n : Nat) (w : World) (h0 : 0 ≤ v) (h1 : v ≤ 18446744073709551615) (hn : n ≤ 64) :
    Calls Try.prog 108 #[.int .u64 v, .int .i64 n] w fun e w' => ∃ r, e = .returned r ∧ Mine w' w.heap.size 5 .u8 r (numB v n) ∧ Below w.heap.size w w' := by
  go_enter Try.func108, Try.ntmps108
  go_wp2_with fail
  go_loopw [5, 6] (fun r i wr => ∃ c : Nat, c ≤ n ∧ i = .int .i64 ((n : Int) - 1 - c) ∧ Mine wr w.heap.size 5 .u8 r (mk (nbit v n) c) ∧ Below w.heap.size w wr) (fun _ i _ => (intOf i + 1).toNat)
  case atStart => exact ⟨0, Nat.zero_le _, by go_num, Mine.nil _ _ _ _, Below.refl _ _⟩
  case round =>
    obtain ⟨c, hc, rfl, hm, hb⟩ := hrel
    by_cases hl : c < n
    · have hcode : bits .and .u64 (v / 2 ^ (n - 1 - c)) 1 = nbit v n c := and_one_shift v h0 h1 (n - 1 - c)
      have hrg := nbit_range v n c
      go_wp2_with (at_builtin; refine wpList_append_one rfl _ _ 77 rfl sty_bytes w.heap.size rfl hm rfl (by simp) (Fits.of_u8 (by omega) (by omega)) (by rw [mk_length]; omega) (by omega) hb.size ?_; intro r' w2 hm2 hb2)
      go_roundw
      case rel => exact ⟨c + 1, by omega, by go_num, by rw [mk_succ]; exact hm2, hb.trans hb2⟩
      case measure => simp [intOf]; omega
    · obtain rfl : c = n := by omega
      go_wp2_with fail
      go_ret
      exact ⟨_, rfl, hm, hb⟩

end Go.Proofs.Ytfakdapglbgokaa
