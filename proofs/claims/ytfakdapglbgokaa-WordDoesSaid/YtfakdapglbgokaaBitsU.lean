/-
  Package bits and its references, third part: what each function computes. No condition.
-/
import Derived.Test.YtfakdapglbgokaaBitsV
namespace Go.Proofs.Ytfakdapglbgokaa
set_option linter.all false
open Go.RowKit

theorem ret_int_ {k : IntKind} {a b : Int} (h : a = b) : Ending.returned (.int k a) = .returned (.int k b) := by rw [h]

/-- A number of w bits from a bit on, if they are there. -/
def getV (xs : List Int) (at_ w : Int) : Int := if bfc xs.length at_ w = 0 then getN xs at_.toNat w.toNat else 0

theorem Get_any (ao : Option Addr) (n cap : Nat) (xs : List Int) (at_ w_ : Int) (w : World) (hr : Rd w .u8 ao n cap xs) (hn : n ≤ 1000000) (ha : Fits .i64 at_) (hw : Fits .i64 w_) :
    Calls Try.prog 136 #[.slice ao n cap, .int .i64 at_, .int .i64 w_] w fun e w' => e = .returned (.tuple #[.int .u64 (getV xs at_ w_), .agg #[.int .i64 (bfc n at_ w_), .int .i64 (bfa n at_ w_)]]) ∧ Below w.heap.size w w' := by
  obtain rfl := hr.len
  by_cases h : bfc xs.length at_ w_ = 0
  · obtain ⟨h1, h2, h3, h4, h5⟩ := bfc_zero h
    obtain ⟨a, rfl⟩ := Int.eq_ofNat_of_zero_le h3
    obtain ⟨k, rfl⟩ := Int.eq_ofNat_of_zero_le (show 0 ≤ w_ by omega)
    refine (Get_good ao _ cap xs a k w hr hn h h5 (by omega) (by omega)).mono ?_
    rintro e w' ⟨rfl, hb⟩
    refine ⟨?_, hb⟩
    rw [h, h5]
    simp [getV, h]
  · refine (Get_bad ao _ cap at_ w_ w hn ha.i64 hw.i64 (by simpa using h)).mono ?_
    rintro e w' ⟨rfl, hb⟩
    refine ⟨?_, hb⟩
    simp [getV, h]

theorem two_pow_mono {i j : Nat} (h : i ≤ j) : (2 : Int) ^ i ≤ 2 ^ j := by
  have := Nat.pow_le_pow_right (show 0 < 2 by omega) h
  exact_mod_cast this
/-- So many ones. -/
def onesN (k : Nat) : Int := 2 ^ k - 1
def ones (w : Int) : Int := if 1 ≤ w ∧ w ≤ 64 then onesN w.toNat else 0
theorem ones_code : ∀ k : Fin 65, (18446744073709551615 : Int) / 2 ^ (64 - k.val) = onesN k.val := by unfold onesN; decide +kernel
theorem onesN_succ (k : Nat) : onesN (k + 1) = 2 * onesN k + 1 := by unfold onesN; rw [Int.pow_succ]; omega
theorem onesN_range (k : Nat) (h : k ≤ 64) : 0 ≤ onesN k ∧ onesN k ≤ 18446744073709551615 := by
  unfold onesN
  have h1 : (2 : Int) ^ k ≤ 2 ^ 64 := two_pow_mono h
  have h2 : (0 : Int) < 2 ^ k := two_pow_pos _
  have h3 : (2 : Int) ^ 64 = 18446744073709551616 := rfl
  omega
theorem onesN_small (k : Nat) (h : k ≤ 63) : onesN k ≤ 9223372036854775807 := by
  unfold onesN
  have h1 : (2 : Int) ^ k ≤ 2 ^ 63 := two_pow_mono h
  have h3 : (2 : Int) ^ 63 = 9223372036854775808 := rfl
  omega
theorem ones_range (w : Int) : 0 ≤ ones w ∧ ones w ≤ 18446744073709551615 := by
  unfold ones
  split
  · exact onesN_range _ (by omega)
  · omega

theorem Mask_any (w_ : Int) (w : World) (hw : Fits .i64 w_) :
    Calls Try.prog 111 #[.int .i64 w_] w fun e w' => e = .returned (.int .u64 (ones w_)) ∧ w = w' := by
  have h := hw.i64
  unfold ones
  by_cases h1 : w_ < 1
  · rw [if_neg (by omega)]
    go_enter Try.func111, Try.ntmps111
    go_wp2_with fail
    go_ret
    exact ⟨rfl, rfl⟩
  by_cases h2 : 64 < w_
  · rw [if_neg (by omega)]
    go_enter Try.func111, Try.ntmps111
    go_wp2_with fail
    go_ret
    exact ⟨rfl, rfl⟩
  · rw [if_pos (by omega)]
    go_enter Try.func111, Try.ntmps111
    go_wp2_with fail
    go_ret
    refine ⟨ret_int_ ?_, rfl⟩
    have := ones_code ⟨w_.toNat, by omega⟩
    rw [show (64 - w_).toNat = 64 - w_.toNat from by omega]
    exact this

theorem Ones_any (w_ : Int) (w : World) (hw : Fits .i64 w_) :
    Calls Try.prog 22 #[.int .i64 w_] w fun e w' => e = .returned (.int .u64 (ones w_)) ∧ w = w' := by
  have h := hw.i64
  go_enter Try.func22, Try.ntmps22
  go_wp2_with fail
  go_loop [3, 4] (fun v i => ∃ k : Nat, (k = 0 ∨ ((k : Int) ≤ w_ ∧ w_ ≤ 64)) ∧ i = .int .i64 k ∧ v = .int .u64 (onesN k)) (fun _ i => (w_ - intOf i).toNat)
  case atStart => exact ⟨0, .inl rfl, rfl, rfl⟩
  case round =>
    obtain ⟨k, hk, rfl, rfl⟩ := hrel
    by_cases hl : (k : Int) < w_
    · by_cases hl2 : w_ ≤ 64
      · have h1 := onesN_range k (by omega)
        have h2 := onesN_small k (by omega)
        have H3 := Lib.hid (onesN_succ k)
        clear hk
        go_wp2_with fail
        go_round
        case rel => exact ⟨k + 1, .inr (by omega), by go_num, by rw [H3.out]⟩
        case measure => simp [intOf]; omega
      · obtain rfl : k = 0 := by omega
        have Hz : Hid (onesN 0 = ones w_) := by show onesN 0 = ones w_; unfold ones; rw [if_neg (by omega)]; rfl
        go_wp2_with fail
        go_ret
        exact ⟨ret_int_ Hz.out, rfl⟩
    · have Hz : Hid (onesN k = ones w_) := by
        show onesN k = ones w_
        unfold ones
        rcases hk with rfl | hk
        · rw [if_neg (by omega)]; rfl
        · by_cases h0 : k = 0
          · subst h0; rw [if_neg (by omega)]; rfl
          · rw [if_pos (by omega), show w_.toNat = k from by omega]
      clear hk
      go_wp2_with fail
      go_ret
      exact ⟨ret_int_ Hz.out, rfl⟩

theorem refGet_good (ao : Option Addr) (n cap : Nat) (xs : List Int) (at_ w_ : Nat) (w : World) (hr : Rd w .u8 ao n cap xs) (hn : n ≤ 1000000) (hok : bfc n at_ w_ = 0) (hok2 : bfa n at_ w_ = 0) (hw1 : w_ ≤ 64) (hw0 : 1 ≤ w_) (hle : at_ + w_ ≤ 8 * n) :
    Calls Try.prog 137 #[.slice ao n cap, .int .i64 at_, .int .i64 w_] w fun e w' => e = .returned (.tuple #[.int .u64 (getN xs at_ w_), .agg #[.int .i64 0, .int .i64 0]]) ∧ Below w.heap.size w w' := by
  obtain rfl := hr.len
  have hN := Lib.hid (getN_ref xs at_ w_ hle)
  go_enter Try.func137, Try.ntmps137
  go_wp2_with (go_at_call 155; refine (bitsFault_any _ _ _ _ _ _ hn (by omega) (by omega)).mono ?_; rintro e w1 ⟨rfl, hb⟩; obtain ⟨hc0, hc1, hf0, hf1, hz, hB⟩ := two_facts hb)
  clear hok hok2
  have hb2 := hb.alloc hb.size (.cells #[.int .i64 0, .int .i64 0] 65)
  clear hc0 hc1 hf0 hf1 hz hB
  generalize w1.alloc (.cells #[.int .i64 0, .int .i64 0] 65) = w2 at *
  obtain ⟨_, _, _, _, _, hB⟩ := two_facts hb2
  refine (bitsOf_any _ _ _ _ _ (hr.below hB) hn).mono ?_
  rintro e w3 ⟨r, rfl, hm, hb3⟩
  obtain ⟨a3, cap3, rfl, hr3, _⟩ := hm.rd
  obtain ⟨a4, hrun, hr4⟩ := hr3.cut sty_bytes at_ (at_ + w_) (by omega) (by rw [bitsL_length]; omega)
  have hrun' := hrun w3 .i64 .i64 at_ ((at_ : Int) + w_) rfl (by omega)
  rw [show at_ + w_ - at_ = w_ from by omega] at hr4 hrun'
  obtain ⟨hc0, hc1, hf0, hf1, hz, hB⟩ := two_facts (hb2.trans (hb3.mono hb2.size))
  clear hrun hb2 hb hm hr3
  go_wp2_with (go_at_call 102; refine (bitsNum_any _ _ _ _ _ hr4 hw1 ((bitsL_bits xs).drop at_ |>.take w_)).mono ?_; rintro e w4 ⟨rfl, rfl⟩)
  exact bodyPost_ret (v := .tuple #[.int .u64 (acc (el (List.take w_ (List.drop at_ (bitsL xs)))) w_), .agg #[.int .i64 0, .int .i64 0]]) (by simp [results, Try.results137, go_sem, hc0, hc1]) rfl ⟨by rw [hN.out], by go_grown⟩

theorem refGet_bad (ao : Option Addr) (n cap : Nat) (at_ w_ : Int) (w : World) (hn : n ≤ 1000000) (ha : -9223372036854775808 ≤ at_ ∧ at_ ≤ 9223372036854775807) (hw : -9223372036854775808 ≤ w_ ∧ w_ ≤ 9223372036854775807) (hbad : (bfc n at_ w_ != 0) = true) :
    Calls Try.prog 137 #[.slice ao n cap, .int .i64 at_, .int .i64 w_] w fun e w' => e = .returned (.tuple #[.int .u64 0, .agg #[.int .i64 (bfc n at_ w_), .int .i64 (bfa n at_ w_)]]) ∧ Below w.heap.size w w' := by
  go_enter Try.func137, Try.ntmps137
  go_wp2_with (go_at_call 155; refine (bitsFault_any _ _ _ _ _ _ hn ha hw).mono ?_; rintro e w1 ⟨rfl, hb⟩; obtain ⟨hc0, hc1, hf0, hf1, hz, hB⟩ := two_facts hb)
  go_region
  go_wp2_with fail
  exact bodyPost_ret (v := .tuple #[.int .u64 0, .agg #[.int .i64 (bfc n at_ w_), .int .i64 (bfa n at_ w_)]]) (by simp [results, Try.results137, go_sem, hc0, hc1, hz]) rfl ⟨rfl, by go_grown⟩

theorem refGet_any (ao : Option Addr) (n cap : Nat) (xs : List Int) (at_ w_ : Int) (w : World) (hr : Rd w .u8 ao n cap xs) (hn : n ≤ 1000000) (ha : Fits .i64 at_) (hw : Fits .i64 w_) :
    Calls Try.prog 137 #[.slice ao n cap, .int .i64 at_, .int .i64 w_] w fun e w' => e = .returned (.tuple #[.int .u64 (getV xs at_ w_), .agg #[.int .i64 (bfc n at_ w_), .int .i64 (bfa n at_ w_)]]) ∧ Below w.heap.size w w' := by
  obtain rfl := hr.len
  by_cases h : bfc xs.length at_ w_ = 0
  · obtain ⟨h1, h2, h3, h4, h5⟩ := bfc_zero h
    obtain ⟨a, rfl⟩ := Int.eq_ofNat_of_zero_le h3
    obtain ⟨k, rfl⟩ := Int.eq_ofNat_of_zero_le (show 0 ≤ w_ by omega)
    refine (refGet_good ao _ cap xs a k w hr hn h h5 (by omega) (by omega) (by omega)).mono ?_
    rintro e w' ⟨rfl, hb⟩
    refine ⟨?_, hb⟩
    rw [h, h5]
    simp [getV, h]
  · refine (refGet_bad ao _ cap at_ w_ w hn ha.i64 hw.i64 (by simpa using h)).mono ?_
    rintro e w' ⟨rfl, hb⟩
    refine ⟨?_, hb⟩
    simp [getV, h]

end Go.Proofs.Ytfakdapglbgokaa
