/-
  Plain arithmetic of 16-bit sums: no program in sight. No condition.
-/
import Derived.Test.YtfakdapglbgokaaRd
namespace Go.Proofs.Ytfakdapglbgokaa
open Go.RowKit

/-- Two words together, with what is above them added again. -/
def addW (a b : Int) : Int := if 65535 < a % 65536 + b % 65536 then a % 65536 + b % 65536 - 65535 else a % 65536 + b % 65536

theorem i64_and_word (n : Int) : bits .and .i64 n 65535 = n % 65536 := by
  have h127 : (BitVec.ofInt 64 65535).toNat = 2 ^ 16 - 1 := by decide
  have key : (BitVec.ofInt 64 n &&& BitVec.ofInt 64 65535).toNat = (n % ((2 ^ 64 : Nat) : Int)).toNat % 2 ^ 16 := by
    rw [BitVec.toNat_and, BitVec.toNat_ofInt, h127, Nat.and_two_pow_sub_one_eq_mod]
  show IntKind.i64.wrap ((BitVec.ofInt 64 n &&& BitVec.ofInt 64 65535).toNat : Nat) = n % 65536
  rw [key, IntKind.wrap_i64]
  omega

theorem addW_range (a b : Int) : 0 ≤ addW a b ∧ addW a b ≤ 65535 := by unfold addW; split <;> omega
theorem addW_mod (a b : Int) : addW a b % 65536 = addW a b := by have := addW_range a b; omega

theorem add_code (a b : Int) : wrap64 (bits .and .i64 (wrap64 (bits .and .i64 a 65535 + bits .and .i64 b 65535)) 65535 + wrap64 (bits .and .i64 a 65535 + bits .and .i64 b 65535) / 65536) = addW a b := by
  simp only [i64_and_word]
  have h1 : wrap64 (a % 65536 + b % 65536) = a % 65536 + b % 65536 := IntWalk.wrap64_in _ (by omega)
  rw [h1]
  unfold addW
  rw [IntWalk.wrap64_in _ (by omega)]
  split <;> omega

/-- 65535 with the bits of a word turned. -/
theorem xor_word (n : Int) (h0 : 0 ≤ n) (h1 : n ≤ 65535) : bits .xor .i64 65535 n = 65535 - n := by
  obtain ⟨k, rfl⟩ := Int.eq_ofNat_of_zero_le h0
  have hk : k < 2 ^ 16 := by omega
  have e1 : (BitVec.ofInt 64 65535).toNat = 65535 := by decide
  have e2 : (BitVec.ofInt 64 (k : Int)).toNat = k := by rw [BitVec.toNat_ofInt]; omega
  show IntKind.i64.wrap ((BitVec.ofInt 64 65535 ^^^ BitVec.ofInt 64 (k : Int)).toNat : Nat) = _
  rw [BitVec.toNat_xor, e1, e2]
  have hx : 65535 ^^^ k = 65535 - k := by
    have h := Nat.eq_of_testBit_eq (x := 65535 ^^^ k) (y := 2 ^ 16 - (k + 1)) (fun i => by
      rw [Nat.testBit_two_pow_sub_succ hk, Nat.testBit_xor, show 65535 = 2 ^ 16 - 1 from rfl, Nat.testBit_two_pow_sub_one]
      by_cases hi : i < 16
      · simp [hi]
      · have : k.testBit i = false := Nat.testBit_lt_two_pow (Nat.lt_of_lt_of_le hk (Nat.pow_le_pow_right (by omega) (by omega)))
        simp [hi, this])
    rw [h]; omega
  rw [hx, IntKind.wrap_i64]
  omega

/-- All words of the first so many bytes together. -/
def wholeTo (xs : List Int) : Nat → Int
  | 0 => 0
  | k + 1 => addW (wholeTo xs k) (if k % 2 = 0 then el xs k * 256 else el xs k)
def whole (xs : List Int) : Int := wholeTo xs xs.length
theorem wholeTo_range (xs : List Int) (k : Nat) : 0 ≤ wholeTo xs k ∧ wholeTo xs k ≤ 65535 := by
  cases k with
  | zero => simp [wholeTo]
  | succ k => exact addW_range _ _
theorem whole_range (xs : List Int) : 0 ≤ whole xs ∧ whole xs ≤ 65535 := wholeTo_range _ _
theorem wholeTo_even (xs : List Int) (k : Nat) (h : k % 2 = 0) : wholeTo xs (k + 1) = addW (wholeTo xs k) (el xs k * 256) := by simp [wholeTo, h]
theorem wholeTo_odd (xs : List Int) (k : Nat) (h : k % 2 = 1) : wholeTo xs (k + 1) = addW (wholeTo xs k) (el xs k) := by simp [wholeTo, h]
theorem wholeTo_two (xs : List Int) (k : Nat) (h : k % 2 = 0) (ha : 0 ≤ el xs k ∧ el xs k ≤ 255) (hb : 0 ≤ el xs (k + 1) ∧ el xs (k + 1) ≤ 255) :
    wholeTo xs (k + 2) = addW (wholeTo xs k) (el xs k * 256 + el xs (k + 1)) := by
  rw [wholeTo_odd xs (k + 1) (by omega), wholeTo_even xs k h]
  have := wholeTo_range xs k
  generalize wholeTo xs k = n at *
  generalize el xs k = x at *
  generalize el xs (k + 1) = y at *
  unfold addW
  split <;> split <;> (try split) <;> omega

theorem addW_comm (a b : Int) : addW a b = addW b a := by unfold addW; rw [Int.add_comm]
theorem addW_def (a b : Int) (ha : 0 ≤ a ∧ a ≤ 65535) (hb : 0 ≤ b ∧ b ≤ 65535) : addW a b = if 65535 < a + b then a + b - 65535 else a + b := by
  unfold addW; rw [show a % 65536 = a from by omega, show b % 65536 = b from by omega]
theorem addW_left (a b : Int) : addW a b = addW (a % 65536) b := by unfold addW; rw [show a % 65536 % 65536 = a % 65536 from by omega]
theorem addW_right (a b : Int) : addW a b = addW a (b % 65536) := by unfold addW; rw [show b % 65536 % 65536 = b % 65536 from by omega]
theorem addW_assoc (a b c : Int) : addW (addW a b) c = addW a (addW b c) := by
  rw [addW_left a b, addW_left a (addW b c), addW_right _ b, addW_left b c, addW_right _ c, addW_right _ c]
  have : 0 ≤ a % 65536 ∧ a % 65536 ≤ 65535 := by omega
  have : 0 ≤ b % 65536 ∧ b % 65536 ≤ 65535 := by omega
  have : 0 ≤ c % 65536 ∧ c % 65536 ≤ 65535 := by omega
  generalize a % 65536 = x at *
  generalize b % 65536 = y at *
  generalize c % 65536 = z at *
  rw [addW_def _ _ (addW_range x y) ‹_›, addW_def _ _ ‹_› (addW_range y z), addW_def x y ‹_› ‹_›, addW_def y z ‹_› ‹_›]
  repeat' split
  all_goals omega
theorem addW_zero (a : Int) (h : 0 ≤ a ∧ a ≤ 65535) : addW a 0 = a := by rw [addW_def _ _ h (by omega)]; split <;> omega

theorem wholeTo_left (xs ys : List Int) (k : Nat) (h : k ≤ xs.length) : wholeTo (xs ++ ys) k = wholeTo xs k := by
  induction k with
  | zero => rfl
  | succ k ih => simp only [wholeTo]; rw [ih (by omega), el_append_left _ _ _ (by omega)]
theorem wholeTo_append (xs ys : List Int) (h : xs.length % 2 = 0) (k : Nat) : wholeTo (xs ++ ys) (xs.length + k) = addW (whole xs) (wholeTo ys k) := by
  induction k with
  | zero => rw [Nat.add_zero, wholeTo_left _ _ _ (Nat.le_refl _)]; exact (addW_zero _ (whole_range xs)).symm
  | succ k ih =>
    rw [← Nat.add_assoc]
    simp only [wholeTo]
    rw [ih, addW_assoc, el_append_right, show (xs.length + k) % 2 = k % 2 from by omega]
theorem whole_append (xs ys : List Int) (h : xs.length % 2 = 0) : whole (xs ++ ys) = addW (whole xs) (whole ys) := by
  unfold whole
  rw [List.length_append]
  exact wholeTo_append xs ys h ys.length

/-! ### A sum makes its bytes right -/

theorem whole_two (x y : Int) (hx : 0 ≤ x ∧ x ≤ 255) (hy : 0 ≤ y ∧ y ≤ 255) : whole [x, y] = x * 256 + y := by
  show addW (addW 0 (x * 256)) y = _
  rw [addW_def 0 _ (by omega) (by omega), if_neg (by omega), addW_def _ _ (by omega) (by omega), if_neg (by omega)]
  omega
/-- All words but the one at k. -/
def others (xs : List Int) (k : Nat) : Int := addW (whole (xs.take k)) (whole (xs.drop (k + 2)))
theorem others_range (xs : List Int) (k : Nat) : 0 ≤ others xs k ∧ others xs k ≤ 65535 := addW_range _ _
theorem cut_two (xs : List Int) (k : Nat) (hk : k + 1 < xs.length) : xs = xs.take k ++ ([el xs k, el xs (k + 1)] ++ xs.drop (k + 2)) := by
  rw [el_lt _ _ (by omega), el_lt _ _ hk]
  conv => lhs; rw [← List.take_append_drop k xs]
  congr 1
  rw [List.drop_eq_getElem_cons (by omega), List.drop_eq_getElem_cons hk]
  rfl
theorem whole_at (xs : List Int) (k : Nat) (h2 : k % 2 = 0) (hk : k + 1 < xs.length) (hf : AllFit .u8 xs) : whole xs = addW (others xs k) (el xs k * 256 + el xs (k + 1)) := by
  conv => lhs; rw [cut_two xs k hk]
  rw [whole_append _ _ (by simp; omega), whole_append [el xs k, el xs (k + 1)] _ (by simp), whole_two _ _ (hf.el_u8 k) (hf.el_u8 (k + 1)), addW_comm (_ + _), ← addW_assoc]
  rfl
def put2 (xs : List Int) (k : Nat) (a b : Int) : List Int := put (put xs k a) (k + 1) b
theorem put2_length (xs : List Int) (k : Nat) (a b : Int) : (put2 xs k a b).length = xs.length := by simp [put2, put]
theorem put2_fit {xs : List Int} (hf : AllFit .u8 xs) (k : Nat) {a b : Int} (ha : 0 ≤ a ∧ a ≤ 255) (hb : 0 ≤ b ∧ b ≤ 255) : AllFit .u8 (put2 xs k a b) :=
  (hf.put (Fits.of_u8 ha.1 ha.2) _).put (Fits.of_u8 hb.1 hb.2) _
theorem others_put2 (xs : List Int) (k : Nat) (a b : Int) : others (put2 xs k a b) k = others xs k := by
  have h1 : (put2 xs k a b).take k = xs.take k := by simp only [put2, put]; rw [List.take_set_of_le (by omega), List.take_set_of_le (by omega)]
  have h2 : (put2 xs k a b).drop (k + 2) = xs.drop (k + 2) := by
    simp only [put2, put]
    rw [List.drop_set_of_lt (by omega), List.drop_set_of_lt (by omega)]
  unfold others
  rw [h1, h2]
theorem el_put2 (xs : List Int) (k : Nat) (a b : Int) (j : Nat) (hk : k + 1 < xs.length) : el (put2 xs k a b) j = if j = k + 1 then b else if j = k then a else el xs j := by
  unfold put2
  rw [el_put _ _ _ _ (by rw [put_length]; exact hk), el_put _ _ _ _ (by omega)]
theorem whole_put2 (xs : List Int) (k : Nat) (a b : Int) (h2 : k % 2 = 0) (hk : k + 1 < xs.length) (hf : AllFit .u8 xs) (ha : 0 ≤ a ∧ a ≤ 255) (hb : 0 ≤ b ∧ b ≤ 255) : whole (put2 xs k a b) = addW (others xs k) (a * 256 + b) := by
  rw [whole_at _ k h2 (by rw [put2_length]; exact hk) (put2_fit hf k ha hb), others_put2, el_put2 _ _ _ _ _ hk, el_put2 _ _ _ _ _ hk]
  simp
theorem put2_put2 (xs : List Int) (k : Nat) (a b c d : Int) (hk : k + 1 < xs.length) : put2 (put2 xs k a b) k c d = put2 xs k c d := by
  refine ext_el (by simp [put2_length]) fun i _ => ?_
  rw [el_put2 _ _ _ _ _ (by rw [put2_length]; exact hk), el_put2 _ _ _ _ _ hk, el_put2 _ _ _ _ _ hk]
  repeat' split
  all_goals rfl
theorem put2_comm (xs : List Int) (k j : Nat) (a b c d : Int) (hk : k + 1 < xs.length) (hj : j + 1 < xs.length) (h : k % 2 = 0) (h' : j % 2 = 0) (hne : j ≠ k) : put2 (put2 xs k a b) j c d = put2 (put2 xs j c d) k a b := by
  refine ext_el (by simp [put2_length]) fun i _ => ?_
  rw [el_put2 _ _ _ _ _ (by rw [put2_length]; exact hj), el_put2 _ _ _ _ _ hk, el_put2 _ _ _ _ _ (by rw [put2_length]; exact hk), el_put2 _ _ _ _ _ hj]
  repeat' split
  all_goals first | rfl | omega
theorem addW_full (n : Int) (h : 0 ≤ n ∧ n ≤ 65535) : addW n (65535 - n) = 65535 := by rw [addW_def _ _ h (by omega), if_neg (by omega)]; omega
theorem addW_ones (n : Int) (h : 0 ≤ n ∧ n ≤ 65535) (h0 : n ≠ 0) : addW n 65535 = n := by rw [addW_def _ _ h (by omega), if_pos (by omega)]; omega
theorem addW_eq_zero (a b : Int) (h : addW a b = 0) : a % 65536 = 0 ∧ b % 65536 = 0 := by
  unfold addW at h; split at h <;> omega
theorem wholeTo_zero (xs : List Int) (hf : AllFit .u8 xs) (k : Nat) (h : wholeTo xs k = 0) : ∀ i, i < k → el xs i = 0 := by
  induction k with
  | zero => intro i hi; omega
  | succ k ih =>
    intro i hi
    have hb := hf.el_u8 k
    obtain ⟨h1, h2⟩ := addW_eq_zero _ _ h
    have hr := wholeTo_range xs k
    rcases Nat.lt_succ_iff_lt_or_eq.1 hi with hlt | rfl
    · exact ih (by omega) i hlt
    · split at h2 <;> omega
/-- Bytes put right. -/
theorem right_made (xs : List Int) (k : Nat) (h2 : k % 2 = 0) (hk : k + 1 < xs.length) (hf : AllFit .u8 xs) (h0 : el xs k = 0) (h1 : el xs (k + 1) = 0) :
    whole (put2 xs k ((65535 - whole xs) / 256) ((65535 - whole xs) % 256)) = 65535 := by
  have hr := whole_range xs
  have ho := others_range xs k
  have hw : whole xs = others xs k := by rw [whole_at xs k h2 hk hf, h0, h1]; exact addW_zero _ ho
  rw [whole_put2 _ _ _ _ h2 hk hf (by omega) (by omega), ← hw, show (65535 - whole xs) / 256 * 256 + (65535 - whole xs) % 256 = 65535 - whole xs from by omega]
  exact addW_full _ hr

/-- 65535 less the sum of words one of which is another one now. -/
def turnW (s a b : Int) : Int := 65535 - addW (addW (65535 - s % 65536) (65535 - a % 65536)) b

theorem right_turned (b1 : List Int) (j : Nat) (h2' : j % 2 = 0) (hj : j + 1 < b1.length) (hf : AllFit .u8 b1)
    (th tl to : Int) (hh : 0 ≤ th ∧ th ≤ 255) (hl : 0 ≤ tl ∧ tl ≤ 255) (hto : th * 256 + tl = to % 65536) (hz : whole (put2 b1 j th tl) ≠ 0) :
    turnW (65535 - whole b1) (el b1 j * 256 + el b1 (j + 1)) to = 65535 - whole (put2 b1 j th tl) := by
  have hr := whole_range b1
  have ho := others_range b1 j
  have e1 := hf.el_u8 j
  have e2 := hf.el_u8 (j + 1)
  have hw := whole_at b1 j h2' hj hf
  have hw3 := whole_put2 b1 j th tl h2' hj hf hh hl
  rw [hw3] at hz ⊢
  rw [hto, ← addW_right] at hz ⊢
  unfold turnW
  rw [show (65535 - whole b1) % 65536 = 65535 - whole b1 from by omega, show 65535 - (65535 - whole b1) = whole b1 from by omega, hw]
  generalize hfr : el b1 j * 256 + el b1 (j + 1) = fr at *
  have hfr2 : 0 ≤ fr ∧ fr ≤ 65535 := by omega
  rw [show fr % 65536 = fr from by omega, addW_assoc (others b1 j), addW_full _ hfr2, addW_assoc, addW_comm 65535, ← addW_assoc, addW_ones _ (addW_range _ _) hz]

end Go.Proofs.Ytfakdapglbgokaa
