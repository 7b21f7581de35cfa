/-
  SumRight: a sum makes its bytes right. No condition.
-/
import Derived.Test.YthchhlojpohjbaaSumW
import Derived.Deep.QuietTactic
import Derived.BigQuiet
import Derived.WalkSmall
namespace Go.Proofs.Ythchhlojpohjbaa
open Go.RowKit

theorem Mine.set2 {w : World} {base : Nat} {e : TypeId} {xs : List Int} {g n cap : Nat} (h : Mine w base e .u8 (.slice (some ⟨g, 0, none⟩) n cap) xs) (k : Nat) {a b : Int} (ha : 0 ≤ a ∧ a ≤ 255) (hb : 0 ≤ b ∧ b ≤ 255) :
    Mine ((w.setCell ⟨g, k, none⟩ (.int .u8 a)).setCell ⟨g, k + 1, none⟩ (.int .u8 b)) base e .u8 (.slice (some ⟨g, 0, none⟩) n cap) (put2 xs k a b) :=
  (h.set k (Fits.of_u8 ha.1 ha.2)).set (k + 1) (Fits.of_u8 hb.1 hb.2)

theorem or_bytes (x y : Int) (hx : 0 ≤ x ∧ x ≤ 255) (hy : 0 ≤ y ∧ y ≤ 255) : bits .or .i64 (x * 256) y = x * 256 + y := by
  obtain ⟨a, rfl⟩ := Int.eq_ofNat_of_zero_le hx.1
  obtain ⟨b, rfl⟩ := Int.eq_ofNat_of_zero_le hy.1
  have e1 : (BitVec.ofInt 64 ((a : Int) * 256)).toNat = a * 256 := by rw [BitVec.toNat_ofInt]; omega
  have e2 : (BitVec.ofInt 64 (b : Int)).toNat = b := by rw [BitVec.toNat_ofInt]; omega
  show IntKind.i64.wrap ((BitVec.ofInt 64 ((a : Int) * 256) ||| BitVec.ofInt 64 (b : Int)).toNat : Nat) = _
  rw [BitVec.toNat_or, e1, e2, nat_join 8 (a * 256) b (by omega) (by omega), IntKind.wrap_i64]
  omega

/-- Are the first so many bytes nothing? -/
def zeroTo (xs : List Int) : Nat → Bool
  | 0 => true
  | k + 1 => zeroTo xs k && (el xs k == 0)
theorem zeroTo_iff (xs : List Int) (k : Nat) : zeroTo xs k = true ↔ ∀ i, i < k → el xs i = 0 := by
  induction k with
  | zero => simp [zeroTo]
  | succ k ih =>
    simp only [zeroTo, Bool.and_eq_true, beq_iff_eq, ih]
    constructor
    · rintro ⟨h1, h2⟩ i hi
      rcases Nat.lt_succ_iff_lt_or_eq.1 hi with h | rfl
      · exact h1 i h
      · exact h2
    · intro h
      exact ⟨fun i hi => h i (by omega), h k (by omega)⟩
theorem whole_ne_zero (xs : List Int) (hf : AllFit .u8 xs) (h : zeroTo xs xs.length = false) : whole xs ≠ 0 := by
  intro h0
  have := (zeroTo_iff xs xs.length).2 (wholeTo_zero xs hf _ h0)
  rw [this] at h
  cases h
theorem turnW_range (s a b : Int) : 0 ≤ turnW s a b ∧ turnW s a b ≤ 65535 := by
  have := addW_range (addW (65535 - s % 65536) (65535 - a % 65536)) b
  unfold turnW
  omega

theorem even_pick (a : Int) (n : Nat) (h : 2 ≤ n) (hn : n ≤ 5000) : ∃ k : Nat, k < n / 2 ∧ (IntKind.u64.wrap a).tmod ((n : Int) / 2) = (k : Int) := by
  have h0 : 0 ≤ IntKind.u64.wrap a := by rw [IntKind.wrap_u64]; omega
  rw [Int.tmod_eq_emod_of_nonneg h0]
  refine ⟨(IntKind.u64.wrap a % ((n : Int) / 2)).toNat, ?_, ?_⟩
  · have := Int.emod_lt_of_pos (IntKind.u64.wrap a) (show 0 < (n : Int) / 2 by omega)
    have := Int.emod_nonneg (IntKind.u64.wrap a) (show (n : Int) / 2 ≠ 0 by omega)
    omega
  · have := Int.emod_nonneg (IntKind.u64.wrap a) (show (n : Int) / 2 ≠ 0 by omega)
    omega

set_option maxRecDepth 100000 in
theorem SumRight_law (ao : Option Addr) (n cap : Nat) (xs : List Int) (at_ other to : Int) (w : World) (hr : Rd w .u8 ao n cap xs) (_ : (Lit.int .i64 at_).wf = true) (_ : (Lit.int .i64 other).wf = true) (_ : (Lit.int .i64 to).wf = true) :
    Calls Try.prog 6 #[.slice ao n cap, .int .i64 at_, .int .i64 other, .int .i64 to] w fun e w' => e = .returned (.bool true) ∧ Below w.heap.size w w' := by
  obtain rfl := hr.len
  by_cases hl : 5000 < (xs.length : Int)
  · go_enter Try.func6, Try.ntmps6
    go_wp2_with (go_at_call 11; refine (begun_any _).mono ?_; rintro e w' ⟨rfl, hb⟩)
    go_ret
    exact ⟨rfl, by assumption⟩
  by_cases hl2 : (xs.length : Int) < 2
  · go_enter Try.func6, Try.ntmps6
    go_wp2_with (go_at_call 11; refine (begun_any _).mono ?_; rintro e w' ⟨rfl, hb⟩)
    go_ret
    exact ⟨rfl, by assumption⟩
  obtain ⟨k, hk, hE⟩ := even_pick at_ xs.length (by omega) (by omega)
  obtain ⟨j, hj, hE2⟩ := even_pick other xs.length (by omega) (by omega)
  have hjk : (j = k ∧ (2 * (j : Int) == 2 * (k : Int)) = true) ∨ (j ≠ k ∧ (2 * (j : Int) == 2 * (k : Int)) = false) := by
    by_cases h : j = k
    · exact .inl ⟨h, by rw [beq_iff_eq]; omega⟩
    · exact .inr ⟨h, by rw [beq_eq_false_iff_ne]; omega⟩
  have Hjk := Lib.hid hjk
  clear hjk
  go_enter Try.func6, Try.ntmps6
  go_wp2_with (first
    | (go_at_call 11; refine (begun_any _).mono ?_; rintro e w1 ⟨rfl, hb⟩; have hr1 := hr.below hb)
    | (at_builtin; refine wpList_append_new rfl _ _ 25 rfl sty_bytes rfl rfl hr1 (by omega) (by omega) ?_; intro v w2 hm hb2; obtain ⟨g, cap2, rfl, hg1, hg2⟩ := hm.at_ (by omega); obtain ⟨hc1, hf1⟩ := hm.cell (i := 2 * k) (by omega); obtain ⟨hc2, hf2⟩ := (hm.set (2 * k) (x := 0) rfl).cell (i := 2 * k + 1) (by rw [put_length]; omega)))
  have hm3 := hm.set2 (2 * k) (a := 0) (b := 0) (by omega) (by omega)
  have hb3 : Below w1.heap.size w2 ((w2.setCell ⟨g, 2 * k, none⟩ (.int .u8 0)).setCell ⟨g, 2 * k + 1, none⟩ (.int .u8 0)) := ((Below.refl _ _).setCell hg1 _).setCell hg1 _
  have hz3 : ((w2.setCell ⟨g, 2 * k, none⟩ (.int .u8 0)).setCell ⟨g, 2 * k + 1, none⟩ (.int .u8 0)).heap.size = w2.heap.size := by simp [World.setCell]
  clear hc1 hf1 hc2 hf2
  generalize (w2.setCell ⟨g, 2 * k, none⟩ (.int .u8 0)).setCell ⟨g, 2 * k + 1, none⟩ (.int .u8 0) = w3 at *
  have hlen := put2_length xs (2 * k) 0 0
  have h0k : el (put2 xs (2 * k) 0 0) (2 * k) = 0 := by rw [el_put2 _ _ _ _ _ (by omega)]; simp
  have h0k1 : el (put2 xs (2 * k) 0 0) (2 * k + 1) = 0 := by rw [el_put2 _ _ _ _ _ (by omega)]; simp
  generalize put2 xs (2 * k) 0 0 = b1 at *
  have Hlen := Lib.hid hlen
  have H0k := Lib.hid h0k
  have H0k1 := Lib.hid h0k1
  have Hz3 := Lib.hid hz3
  clear hlen h0k h0k1 hz3 hm
  refine (Of_any _ _ _ _ _ hm3.rd_).mono ?_
  rintro e w' ⟨rfl, rfl⟩
  have hr := whole_range b1
  obtain ⟨hc1, hf1⟩ := hm3.cell (i := 2 * k) (by have := Hlen.out; omega)
  obtain ⟨hc2, hf2⟩ := (hm3.set (2 * k) (x := (65535 - whole b1) / 256) (Fits.of_u8 (by omega) (by omega))).cell (i := 2 * k + 1) (by rw [put_length]; have := Hlen.out; omega)
  go_wp2_with fail
  have hm4 := hm3.set2 (2 * k) (a := (65535 - whole b1) / 256) (b := (65535 - whole b1) % 256) (by omega) (by omega)
  have hb4 : Below w1.heap.size w3 ((w3.setCell ⟨g, 2 * k, none⟩ (.int .u8 ((65535 - whole b1) / 256))).setCell ⟨g, 2 * k + 1, none⟩ (.int .u8 ((65535 - whole b1) % 256))) := ((Below.refl _ _).setCell hg1 _).setCell hg1 _
  clear hc1 hf1 hc2 hf2
  generalize (w3.setCell ⟨g, 2 * k, none⟩ (.int .u8 ((65535 - whole b1) / 256))).setCell ⟨g, 2 * k + 1, none⟩ (.int .u8 ((65535 - whole b1) % 256)) = w4 at *
  have hright := right_made b1 (2 * k) (by omega) (by have := Hlen.out; omega) hm3.2 H0k.out H0k1.out
  have hfit1 := hm3.2
  have hlen4 := put2_length b1 (2 * k) ((65535 - whole b1) / 256) ((65535 - whole b1) % 256)
  have hput : ∀ a b, put2 (put2 b1 (2 * k) ((65535 - whole b1) / 256) ((65535 - whole b1) % 256)) (2 * k) a b = put2 b1 (2 * k) a b := fun a b => put2_put2 _ _ _ _ _ _ (by have := Hlen.out; omega)
  have hel : ∀ i, i ≠ 2 * k → i ≠ 2 * k + 1 → el (put2 b1 (2 * k) ((65535 - whole b1) / 256) ((65535 - whole b1) % 256)) i = el b1 i := fun i h1 h2 => by rw [el_put2 _ _ _ _ _ (by have := Hlen.out; omega), if_neg h2, if_neg h1]
  have Hput := Lib.hid hput
  have Hel := Lib.hid hel
  have Hlen4 := Lib.hid hlen4
  have Hright := Lib.hid hright
  have hB4 : Below w.heap.size w w4 := ((hb.trans (hb2.mono hb.size)).trans (hb3.mono hb.size)).trans (hb4.mono hb.size)
  clear hput hel hlen4 hright hm3 hb3 hb4 hr1 hb2
  generalize put2 b1 (2 * k) ((65535 - whole b1) / 256) ((65535 - whole b1) % 256) = b2 at *
  refine (Right_any _ _ _ _ _ hm4.rd_).mono ?_
  rintro e w' ⟨rfl, rfl⟩
  have hR : (whole b2 == 65535) = true := by rw [Hright.out]; rfl
  rcases Hjk.out with ⟨rfl, hjk⟩ | ⟨hne, hjk⟩
  · clear Hjk Hput Hel Hlen4 Hright Hlen H0k H0k1
    go_wp2_with fail
    go_ret
    exact ⟨rfl, hB4⟩
  · obtain ⟨hc1, hf1⟩ := hm4.cell (i := 2 * j) (by have := Hlen4.out; have := Hlen.out; omega)
    obtain ⟨hc2, hf2⟩ := hm4.cell (i := 2 * j + 1) (by have := Hlen4.out; have := Hlen.out; omega)
    have hx1 := hm4.2.el_u8 (2 * j)
    have hx2 := hm4.2.el_u8 (2 * j + 1)
    go_wp2_with fail
    go_quiet (fail)
    have hm5 : Mine (w4.drewN nq) w1.heap.size 5 .u8 (.slice (some ⟨g, 0, none⟩) xs.length cap2) b2 := hm4
    have hB5 : Below w.heap.size w (w4.drewN nq) := below_drewN hB4 nq
    rw [or_bytes _ _ hx1 hx2]
    clear hc1 hf1 hc2 hf2 hm4 hB4
    generalize w4.drewN nq = w5 at *
    have hr5 := hm5.2
    have HL2 : Hid (b2.length = xs.length) := Hlen4.out.trans Hlen.out
    have hm6 := hm5.set2 (2 * j) (a := to / 256 % 256) (b := to % 256) (by omega) (by omega)
    have hl6 := put2_length b2 (2 * j) (to / 256 % 256) (to % 256)
    have HL6 := Lib.hid hl6
    clear hl6
    obtain ⟨hc1, hf1⟩ := hm5.cell (i := 2 * j) (by have := HL2.out; omega)
    obtain ⟨hc2, hf2⟩ := (hm5.set (2 * j) (x := to / 256 % 256) (Fits.of_u8 (by omega) (by omega))).cell (i := 2 * j + 1) (by rw [put_length]; have := HL2.out; omega)
    have hm7 := hm6.set2 (2 * k) (a := 0) (b := 0) (by omega) (by omega)
    obtain ⟨hc3, hf3⟩ := hm6.cell (i := 2 * k) (by have := HL2.out; have := HL6.out; omega)
    obtain ⟨hc4, hf4⟩ := (hm6.set (2 * k) (x := 0) rfl).cell (i := 2 * k + 1) (by rw [put_length]; have := HL2.out; have := HL6.out; omega)
    have hgw : w.heap.size ≤ g := Nat.le_trans hb.size hg1
    go_wp2_with fail
    have hB8 : Below w.heap.size w ((((w5.setCell ⟨g, 2 * j, none⟩ (.int .u8 (to / 256 % 256))).setCell ⟨g, 2 * j + 1, none⟩ (.int .u8 (to % 256))).setCell ⟨g, 2 * k, none⟩ (.int .u8 0)).setCell ⟨g, 2 * k + 1, none⟩ (.int .u8 0)) :=
      (((hB5.setCell hgw _).setCell hgw _).setCell hgw _).setCell hgw _
    clear hc1 hf1 hc2 hf2 hc3 hf3 hc4 hf4 hm6 hm5 hB5
    generalize (((w5.setCell ⟨g, 2 * j, none⟩ (.int .u8 (to / 256 % 256))).setCell ⟨g, 2 * j + 1, none⟩ (.int .u8 (to % 256))).setCell ⟨g, 2 * k, none⟩ (.int .u8 0)).setCell ⟨g, 2 * k + 1, none⟩ (.int .u8 0) = w8 at *
    have hfr0 : el b2 (2 * j) * 256 + el b2 (2 * j + 1) = el b1 (2 * j) * 256 + el b1 (2 * j + 1) := by
      rw [Hel.out (2 * j) (by omega) (by omega), Hel.out (2 * j + 1) (by omega) (by omega)]
    have hb30 : put2 (put2 b2 (2 * j) (to / 256 % 256) (to % 256)) (2 * k) 0 0 = put2 b1 (2 * j) (to / 256 % 256) (to % 256) := by
      rw [← put2_comm b2 (2 * k) (2 * j) 0 0 _ _ (by have := HL2.out; omega) (by have := HL2.out; omega) (by omega) (by omega) (by omega), Hput.out, put2_comm b1 (2 * k) (2 * j) 0 0 _ _ (by have := Hlen.out; omega) (by have := Hlen.out; omega) (by omega) (by omega) (by omega)]
      refine ext_el (by simp [put2_length]) fun i => ?_
      rw [el_put2 _ _ _ _ _ (by rw [put2_length]; have := Hlen.out; omega)]
      have e1 := H0k.out
      have e2 := H0k1.out
      rw [el_put2 _ _ _ _ _ (by have := Hlen.out; omega)]
      repeat' split
      all_goals first | rfl | omega | (subst_vars; first | exact e1.symm | exact e2.symm)
    rw [hb30] at hm7
    rw [hfr0]
    have hlen7 : (put2 b1 (2 * j) (to / 256 % 256) (to % 256)).length = xs.length := by rw [put2_length]; exact Hlen.out
    have hz7 : el (put2 b1 (2 * j) (to / 256 % 256) (to % 256)) (2 * k) = 0 := by
      rw [el_put2 _ _ _ _ _ (by have := Hlen.out; omega), if_neg (by omega), if_neg (by omega)]; exact H0k.out
    have hz7' : el (put2 b1 (2 * j) (to / 256 % 256) (to % 256)) (2 * k + 1) = 0 := by
      rw [el_put2 _ _ _ _ _ (by have := Hlen.out; omega), if_neg (by omega), if_neg (by omega)]; exact H0k1.out
    have hturn : whole (put2 b1 (2 * j) (to / 256 % 256) (to % 256)) ≠ 0 → turnW (65535 - whole b1) (el b1 (2 * j) * 256 + el b1 (2 * j + 1)) to = 65535 - whole (put2 b1 (2 * j) (to / 256 % 256) (to % 256)) :=
      right_turned b1 (2 * j) (by omega) (by have := Hlen.out; omega) hfit1 (to / 256 % 256) (to % 256) to (by omega) (by omega) (by omega)
    clear hb30 hfr0 HL6 HL2 Hel Hput Hlen4 Hright H0k H0k1 Hlen Hjk hx1 hx2
    generalize put2 b1 (2 * j) (to / 256 % 256) (to % 256) = b3 at *
    generalize el b1 (2 * j) * 256 + el b1 (2 * j + 1) = fr at *
    have HT := Lib.hid hturn
    have HL := Lib.hid hlen7
    have HZ := Lib.hid hz7
    have HZ' := Lib.hid hz7'
    clear hturn hlen7 hz7 hz7' hjk hE hE2 hR
    go_loop [14, 15] (fun v i => ∃ n : Nat, n ≤ xs.length ∧ i = .int .i64 n ∧ v = .bool (zeroTo b3 n)) (fun _ i => xs.length - (intOf i).toNat)
    case atStart => exact ⟨0, Nat.zero_le _, rfl, rfl⟩
    case round =>
      obtain ⟨n, hn, rfl, rfl⟩ := hrel
      by_cases hlt : n < xs.length
      · obtain ⟨hc1, hf1⟩ := hm7.cell (i := n) (by have := HL.out; omega)
        have hz : zeroTo b3 (n + 1) = (zeroTo b3 n && (el b3 n == 0)) := rfl
        have Hz := Lib.hid hz
        clear hz hf1
        generalize zeroTo b3 n = bz at *
        cases bz
        all_goals
          go_wp2_with fail
          go_round
          case rel => exact ⟨n + 1, by omega, by go_num, by rw [Hz.out]; rfl⟩
          case measure => simp [intOf]; omega
      · obtain rfl : n = xs.length := by omega
        have htr := turnW_range (65535 - whole b1) fr to
        have hw3 := whole_range b3
        obtain ⟨hc1, hf1⟩ := hm7.cell (i := 2 * k) (by have := HL.out; omega)
        obtain ⟨hc2, hf2⟩ := (hm7.set (2 * k) (x := turnW (65535 - whole b1) fr to / 256) (Fits.of_u8 (by omega) (by omega))).cell (i := 2 * k + 1) (by rw [put_length]; have := HL.out; omega)
        have hm9 := hm7.set2 (2 * k) (a := turnW (65535 - whole b1) fr to / 256) (b := turnW (65535 - whole b1) fr to % 256) (by omega) (by omega)
        cases hzz : zeroTo b3 xs.length with
        | true =>
          have Hzz := Lib.hid hzz
          clear hzz
          go_wp2_with (first
            | (go_at_call 18; refine (Turn_any _ _ _ _).mono ?_; rintro e w' ⟨rfl, rfl⟩))
          go_ret
          exact ⟨rfl, (hB8.setCell hgw _).setCell hgw _⟩
        | false =>
          have hne0 := whole_ne_zero b3 hm7.2 (by rw [HL.out]; exact hzz)
          have hT := HT.out hne0
          have hR := right_made b3 (2 * k) (by omega) (by have := HL.out; omega) hm7.2 HZ.out HZ'.out
          rw [hT] at hc2 hf2 hm9
          have hR' : (whole (put2 b3 (2 * k) ((65535 - whole b3) / 256) ((65535 - whole b3) % 256)) == 65535) = true := by rw [hR]; rfl
          have Hzz := Lib.hid hzz
          clear hzz hR htr HT
          have hm7' := hm7.rd_
          have hm9' := hm9.rd_
          clear hm7 hm9
          go_wp2_with (first
            | (go_at_call 18; refine (Turn_any _ _ _ _).mono ?_; rintro e w' ⟨rfl, rfl⟩)
            | (go_at_call 16; refine (Of_any _ _ _ _ _ hm7').mono ?_; rintro e w' ⟨rfl, rfl⟩)
            | (go_at_call 17; refine (Right_any _ _ _ _ _ hm9').mono ?_; rintro e w' ⟨rfl, rfl⟩))
          go_ret
          exact ⟨rfl, (hB8.setCell hgw _).setCell hgw _⟩

end Go.Proofs.Ythchhlojpohjbaa
