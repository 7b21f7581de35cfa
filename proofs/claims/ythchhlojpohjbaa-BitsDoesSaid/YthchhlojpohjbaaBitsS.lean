/-
  Package bits and its references, fifth part: Put of the references, Put whole. No condition.
-/
import Derived.Test.YthchhlojpohjbaaBitsT
import Derived.Deep.RegionLaw
namespace Go.Proofs.Ythchhlojpohjbaa
open Go.RowKit

set_option maxHeartbeats 1000000 in
theorem refPut_good (ao : Option Addr) (n cap : Nat) (xs : List Int) (at_ w_ : Nat) (v : Int) (w : World) (hr : Rd w .u8 ao n cap xs) (hn : n ≤ 1000000) (hv0 : 0 ≤ v) (hv1 : v ≤ 18446744073709551615) (hok : bfc n at_ w_ = 0) (hok2 : bfa n at_ w_ = 0) (hw1 : w_ ≤ 64) (hle : at_ + w_ ≤ 8 * n) :
    Calls Try.prog 26 #[.slice ao n cap, .int .i64 at_, .int .i64 w_, .int .u64 v] w fun e w' => ∃ r, e = .returned (.tuple #[r, .agg #[.int .i64 0, .int .i64 0]]) ∧ Mine w' w.heap.size 5 .u8 r (putN xs at_ w_ v) ∧ Below w.heap.size w w' := by
  obtain rfl := hr.len
  have hN := Lib.hid (putN_ref xs at_ w_ v hle)
  go_enter Try.func26, Try.ntmps26
  go_wp2_with (go_at_call 35; refine (bitsFault_any _ _ _ _ _ _ hn (by omega) (by omega)).mono ?_; rintro e w1 ⟨rfl, hb⟩; obtain ⟨hc0, hc1, hf0, hf1, hz, hB⟩ := two_facts hb)
  clear hok hok2
  have hb2 := hb.alloc hb.size (.cells #[.int .i64 0, .int .i64 0] 35)
  clear hc0 hc1 hf0 hf1 hz hB
  generalize w1.alloc (.cells #[.int .i64 0, .int .i64 0] 35) = w2 at *
  obtain ⟨_, _, _, _, hz2, hB⟩ := two_facts hb2
  refine (bitsOf_any _ _ _ _ _ (hr.below hB) hn).mono ?_
  rintro e w3 ⟨r, rfl, hm, hb3⟩
  obtain ⟨a3, cap3, rfl, hr3, _⟩ := hm.rd
  have hbl := bitsL_length xs
  obtain ⟨a4, hrun4, hr4⟩ := hr3.cut_to (P := Try.prog) sty_bytes at_ (by omega)
  obtain ⟨a5, hrun5, hr5⟩ := hr3.cut_from (P := Try.prog) sty_bytes (at_ + w_) (by omega)
  have hrun4' := fun w' => hrun4 w' .i64 at_ rfl
  have hrun5' := fun w' => hrun5 w' .i64 ((at_ : Int) + w_) (by omega)
  have hb3' := hb2.trans (hb3.mono hb2.size)
  have Hbl := Lib.hid hbl
  clear hrun4 hrun5 hm hb2 hb hr3 hbl
  go_wp2_with fail
  have hd : Below w3.heap.size w3 w3.drew := (Below.refl _ _).drew
  have hr4d := hr4.below hd
  have Hl4 : Hid (hr4d = hr4d) := rfl
  clear Hl4
  have hwr : IntKind.i64.wrap ((at_ : Int) + w_) = (at_ : Int) + w_ := IntWalk.i64_in _ (by omega)
  have hs1 : Hid ((([] : List Int).length + at_) * 1 ≤ 140737488355328) := by show (([] : List Int).length + at_) * 1 ≤ 140737488355328; simp; omega
  have hs2 : Hid ((([] ++ List.take at_ (bitsL xs)).length + (numB v w_).length) * 1 ≤ 140737488355328) := by
    show (([] ++ List.take at_ (bitsL xs)).length + (numB v w_).length) * 1 ≤ 140737488355328
    simp [numB_length]; omega
  have hs3 : Hid (((([] ++ List.take at_ (bitsL xs)) ++ numB v w_).length + ((bitsL xs).length - (at_ + w_))) * 1 ≤ 140737488355328) := by
    show ((([] ++ List.take at_ (bitsL xs)) ++ numB v w_).length + ((bitsL xs).length - (at_ + w_))) * 1 ≤ 140737488355328
    have := Hbl.out
    simp [numB_length]; omega
  go_region_law (first
    | ((with_reducible refine step_append_rd (k := .u8) (v := .slice none 0 0) (xs := []) ?_ (.tmp 23) (.tmp 26) 25 ?_ sty_bytes w3.heap.size ?_ (Mine.nil _ _ _ _) ?_ hr4d hs1.out Nat.one_pos (Nat.le_refl _) ?_); rfl; rfl; go_simp; go_simp; intro v1 w4 hm4 hb4)
    | ((go_simp; go_at_call 38; refine (numBits_any _ _ _ hv0 hv1 hw1).mono ?_; rintro e w5 ⟨r5, rfl, hm5, hb5⟩; obtain ⟨a6, cap6, rfl, hr6, _⟩ := hm5.rd; have hm4a := hm4.below hb5))
    | ((with_reducible refine step_append_rd (k := .u8) (v := v1) (xs := ([] ++ List.take at_ (bitsL xs))) ?_ (.tmp 27) (.tmp 30) 25 ?_ sty_bytes w3.heap.size ?_ hm4a ?_ hr6 hs2.out Nat.one_pos (Nat.le_trans hb4.size hb5.size) ?_); rfl; rfl; go_simp; go_simp; intro v2 w6 hm6 hb6; have hB6 := hd.trans ((hb4.trans (hb5.mono hb4.size)).trans hb6); have hr5c := hr5.below hB6)
    | ((with_reducible refine step_append_rd (k := .u8) (v := v2) (xs := (([] ++ List.take at_ (bitsL xs)) ++ numB v w_)) ?_ (.tmp 31) (.tmp 36) 25 ?_ sty_bytes w3.heap.size ?_ hm6 ?_ hr5c hs3.out Nat.one_pos hB6.size ?_); rfl; rfl; go_simp; go_simp; intro v3 w7 hm7 hb7))
  have hB7 := hB6.trans hb7
  obtain ⟨a7, cap7, rfl, hr7, _⟩ := hm7.rd
  have hlen7 : ((([] ++ List.take at_ (bitsL xs)) ++ numB v w_) ++ List.drop (at_ + w_) (bitsL xs)).length = 8 * xs.length := by
    have := Hbl.out
    simp [numB_length]; omega
  have hbits7 : Bits (el ((([] ++ List.take at_ (bitsL xs)) ++ numB v w_) ++ List.drop (at_ + w_) (bitsL xs))) := by
    rw [List.nil_append]
    exact (((bitsL_bits xs).take at_).append (numB_bits v w_)).append ((bitsL_bits xs).drop _)
  have hN7 : Hid (bytesF (el ((([] ++ List.take at_ (bitsL xs)) ++ numB v w_) ++ List.drop (at_ + w_) (bitsL xs))) ((8 * xs.length + 7) / 8) = putN xs at_ w_ v) := by
    show bytesF _ _ = _
    rw [List.nil_append, show (8 * xs.length + 7) / 8 = xs.length from by omega]
    exact hN.out
  rw [hlen7] at hr7 ⊢
  clear hlen7 hwr hs1 hs2 hs3 hrun4' hrun5' hr4 hr5 hr4d hr5c hm4 hm5 hm6 hm7 hr6 hm4a Hbl
  generalize ((([] ++ List.take at_ (bitsL xs)) ++ numB v w_) ++ List.drop (at_ + w_) (bitsL xs)) = l7 at *
  have hb7' := hb3'.trans (hB7.mono hb3'.size)
  go_wp2_with fail
  refine (bytesOf_any _ _ _ _ _ hr7 (by omega) hbits7).mono ?_
  rintro e w8 ⟨r8, rfl, hm8, hb8⟩
  obtain ⟨hc0, hc1, hf0, hf1, hz, hB⟩ := two_facts (hb7'.trans (hb8.mono hb7'.size))
  have hgt : w.heap.size < w7.heap.size := Nat.lt_of_lt_of_le hz2 (Nat.le_trans hb3.size hB7.size)
  rw [hN7.out] at hm8
  clear hN7 hN hbits7
  go_wp2_with fail
  exact bodyPost_ret (v := .tuple #[r8, .agg #[.int .i64 0, .int .i64 0]]) (by simp [results, Try.results26, go_sem, hc0, hc1]) rfl
    ⟨_, rfl, ((hm8.setLow hgt _).setLow hgt _).base_le (Nat.le_of_lt hgt), by go_grown⟩

/-- Bytes with a number put in, if its bits are there. -/
def putV (xs : List Int) (at_ w v : Int) : List Int := if bfc xs.length at_ w = 0 then putN xs at_.toNat w.toNat v else []

theorem Put_bad (ao : Option Addr) (n cap : Nat) (at_ w_ v : Int) (w : World) (hn : n ≤ 1000000) (ha : -9223372036854775808 ≤ at_ ∧ at_ ≤ 9223372036854775807) (hw : -9223372036854775808 ≤ w_ ∧ w_ ≤ 9223372036854775807) (hbad : (bfc n at_ w_ != 0) = true) :
    Calls Try.prog 22 #[.slice ao n cap, .int .i64 at_, .int .i64 w_, .int .u64 v] w fun e w' => e = .returned (.tuple #[.slice none 0 0, .agg #[.int .i64 (bfc n at_ w_), .int .i64 (bfa n at_ w_)]]) ∧ Below w.heap.size w w' := by
  go_enter Try.func22, Try.ntmps22
  go_wp2_with (go_at_call 33; refine (inside_any _ _ _ _ _ _ hn ha hw).mono ?_; rintro e w1 ⟨rfl, hb⟩; obtain ⟨hc0, hc1, hf0, hf1, hz, hB⟩ := two_facts hb)
  go_region
  go_wp2_with fail
  exact bodyPost_ret (v := .tuple #[.slice none 0 0, .agg #[.int .i64 (bfc n at_ w_), .int .i64 (bfa n at_ w_)]]) (by simp [results, Try.results22, go_sem, hc0, hc1, hz]) rfl ⟨rfl, by go_grown⟩

theorem Put_any (ao : Option Addr) (n cap : Nat) (xs : List Int) (at_ w_ v : Int) (w : World) (hr : Rd w .u8 ao n cap xs) (hn : n ≤ 1000000) (ha : Fits .i64 at_) (hw : Fits .i64 w_) (hv : Fits .u64 v) :
    Calls Try.prog 22 #[.slice ao n cap, .int .i64 at_, .int .i64 w_, .int .u64 v] w fun e w' => ∃ r, e = .returned (.tuple #[r, .agg #[.int .i64 (bfc n at_ w_), .int .i64 (bfa n at_ w_)]]) ∧ Mine w' w.heap.size 5 .u8 r (putV xs at_ w_ v) ∧ Below w.heap.size w w' := by
  obtain rfl := hr.len
  by_cases h : bfc xs.length at_ w_ = 0
  · obtain ⟨h1, h2, h3, h4, h5⟩ := bfc_zero h
    obtain ⟨a, rfl⟩ := Int.eq_ofNat_of_zero_le h3
    obtain ⟨k, rfl⟩ := Int.eq_ofNat_of_zero_le (show 0 ≤ w_ by omega)
    refine (Put_good ao _ cap xs a k v w hr hn hv.u64.1 hv.u64.2 h h5 (by omega) (by omega) (by omega)).mono ?_
    rintro e w' ⟨r, rfl, hm, hb⟩
    refine ⟨r, by rw [h, h5], ?_, hb⟩
    unfold putV
    rw [if_pos h]
    exact hm
  · refine (Put_bad ao _ cap at_ w_ v w hn ha.i64 hw.i64 (by simpa using h)).mono ?_
    rintro e w' ⟨rfl, hb⟩
    refine ⟨_, rfl, ?_, hb⟩
    unfold putV
    rw [if_neg h]
    exact Mine.nil _ _ _ _

theorem refPut_bad (ao : Option Addr) (n cap : Nat) (at_ w_ v : Int) (w : World) (hn : n ≤ 1000000) (ha : -9223372036854775808 ≤ at_ ∧ at_ ≤ 9223372036854775807) (hw : -9223372036854775808 ≤ w_ ∧ w_ ≤ 9223372036854775807) (hbad : (bfc n at_ w_ != 0) = true) :
    Calls Try.prog 26 #[.slice ao n cap, .int .i64 at_, .int .i64 w_, .int .u64 v] w fun e w' => e = .returned (.tuple #[.slice none 0 0, .agg #[.int .i64 (bfc n at_ w_), .int .i64 (bfa n at_ w_)]]) ∧ Below w.heap.size w w' := by
  go_enter Try.func26, Try.ntmps26
  go_wp2_with (go_at_call 35; refine (bitsFault_any _ _ _ _ _ _ hn ha hw).mono ?_; rintro e w1 ⟨rfl, hb⟩; obtain ⟨hc0, hc1, hf0, hf1, hz, hB⟩ := two_facts hb)
  go_region
  go_wp2_with fail
  exact bodyPost_ret (v := .tuple #[.slice none 0 0, .agg #[.int .i64 (bfc n at_ w_), .int .i64 (bfa n at_ w_)]]) (by simp [results, Try.results26, go_sem, hc0, hc1, hz]) rfl ⟨rfl, by go_grown⟩

theorem refPut_any (ao : Option Addr) (n cap : Nat) (xs : List Int) (at_ w_ v : Int) (w : World) (hr : Rd w .u8 ao n cap xs) (hn : n ≤ 1000000) (ha : Fits .i64 at_) (hw : Fits .i64 w_) (hv : Fits .u64 v) :
    Calls Try.prog 26 #[.slice ao n cap, .int .i64 at_, .int .i64 w_, .int .u64 v] w fun e w' => ∃ r, e = .returned (.tuple #[r, .agg #[.int .i64 (bfc n at_ w_), .int .i64 (bfa n at_ w_)]]) ∧ Mine w' w.heap.size 5 .u8 r (putV xs at_ w_ v) ∧ Below w.heap.size w w' := by
  obtain rfl := hr.len
  by_cases h : bfc xs.length at_ w_ = 0
  · obtain ⟨h1, h2, h3, h4, h5⟩ := bfc_zero h
    obtain ⟨a, rfl⟩ := Int.eq_ofNat_of_zero_le h3
    obtain ⟨k, rfl⟩ := Int.eq_ofNat_of_zero_le (show 0 ≤ w_ by omega)
    refine (refPut_good ao _ cap xs a k v w hr hn hv.u64.1 hv.u64.2 h h5 (by omega) (by omega)).mono ?_
    rintro e w' ⟨r, rfl, hm, hb⟩
    refine ⟨r, by rw [h, h5], ?_, hb⟩
    unfold putV
    rw [if_pos h]
    exact hm
  · refine (refPut_bad ao _ cap at_ w_ v w hn ha.i64 hw.i64 (by simpa using h)).mono ?_
    rintro e w' ⟨rfl, hb⟩
    refine ⟨_, rfl, ?_, hb⟩
    unfold putV
    rw [if_neg h]
    exact Mine.nil _ _ _ _

end Go.Proofs.Ythchhlojpohjbaa
