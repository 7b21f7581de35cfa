/-
  Plain arithmetic of 16-bit sums: no program in sight. No condition.
-/
import Derived.Test.YthchhlojpohjbaaRd
namespace Go.Proofs.Ythchhlojpohjbaa
open Go.RowKit

/-- Two words together, with what is above them added again. -/
def addW (a b : Int) : Int := if 65535 < a % 65536 + b % 65536 then a % 65536 + b % 65536 - 65535 else a % 65536 + b % 65536

theorem i64_and_word (n : Int) : bits .and .i64 n 65535 = n % 65536 := by
  have h127 : (BitVec.ofInt 64 65535).toNat = 2 ^ 16 - 1 := by decide
  have key : (BitVec.ofInt 64 n &&& BitVec.ofInt 64 65535).toNat = (n % ((2 ^ 64 : Nat) : Int)).toNat % 2 ^ 16 := by
    rw [BitVec.toNat_and, BitVec.toNat_ofInt, h127, Nat.and_two_pow_sub_one_eq_mod]
  show IntKind.i64.wrap ((BitVec.ofInt 64 n &&& BitVec.ofInt 64 65535).toNat : Nat) = n % 65536
  rw [key, IntKind.wrap_i64]
  omega

theorem addW_range (a b : Int) : 0 ≤ addW a b ∧ addW a b ≤ 65535 := by unfold addW; split <;> omega
theorem addW_mod (a b : Int) : addW a b % 65536 = addW a b := by have := addW_range a b; omega

theorem add_code (a b : Int) : wrap64 (bits .and .i64 (wrap64 (bits .and .i64 a 65535 + bits .and .i64 b 65535)) 65535 + wrap64 (bits .and .i64 a 65535 + bits .and .i64 b 65535) / 65536) = addW a b := by
  simp only [i64_and_word]
  have h1 : wrap64 (a % 65536 + b % 65536) = a % 65536 + b % 65536 := IntWalk.wrap64_in _ (by omega)
  rw [h1]
  unfold addW
  rw [IntWalk.wrap64_in _ (by omega)]
  split <;> omega

/-- 65535 with the bits of a word turned. -/
theorem xor_word (n : Int) (h0 : 0 ≤ n) (h1 : n ≤ 65535) : bits .xor .i64 65535 n = 65535 - n := by
  obtain ⟨k, rfl⟩ := Int.eq_ofNat_of_zero_le h0
  have hk : k < 2 ^ 16 := by omega
  have e1 : (BitVec.ofInt 64 65535).toNat = 65535 := by decide
  have e2 : (BitVec.ofInt 64 (k : Int)).toNat = k := by rw [BitVec.toNat_ofInt]; omega
  show IntKind.i64.wrap ((BitVec.ofInt 64 65535 ^^^ BitVec.ofInt 64 (k : Int)).toNat : Nat) = _
  rw [BitVec.toNat_xor, e1, e2]
  have hx : 65535 ^^^ k = 65535 - k := by
    have h := Nat.eq_of_testBit_eq (x := 65535 ^^^ k) (y := 2 ^ 16 - (k + 1)) (fun i => by
      rw [Nat.testBit_two_pow_sub_succ hk, Nat.testBit_xor, show 65535 = 2 ^ 16 - 1 from rfl, Nat.testBit_two_pow_sub_one]
      by_cases hi : i < 16
      · simp [hi]
      · have : k.testBit i = false := Nat.testBit_lt_two_pow (Nat.lt_of_lt_of_le hk (Nat.pow_le_pow_right (by omega) (by omega)))
        simp [hi, this])
    rw [h]; omega
  rw [hx, IntKind.wrap_i64]
  omega

/-- All words of the first so many bytes together. -/
def wholeTo (xs : List Int) : Nat → Int
  | 0 => 0
  | k + 1 => addW (wholeTo xs k) (if k % 2 = 0 then el xs k * 256 else el xs k)
def whole (xs : List Int) : Int := wholeTo xs xs.length
theorem wholeTo_range (xs : List Int) (k : Nat) : 0 ≤ wholeTo xs k ∧ wholeTo xs k ≤ 65535 := by
  cases k with
  | zero => simp [wholeTo]
  | succ k => exact addW_range _ _
theorem whole_range (xs : List Int) : 0 ≤ whole xs ∧ whole xs ≤ 65535 := wholeTo_range _ _
theorem wholeTo_even (xs : List Int) (k : Nat) (h : k % 2 = 0) : wholeTo xs (k + 1) = addW (wholeTo xs k) (el xs k * 256) := by simp [wholeTo, h]
theorem wholeTo_odd (xs : List Int) (k : Nat) (h : k % 2 = 1) : wholeTo xs (k + 1) = addW (wholeTo xs k) (el xs k) := by simp [wholeTo, h]
theorem wholeTo_two (xs : List Int) (k : Nat) (h : k % 2 = 0) (ha : 0 ≤ el xs k ∧ el xs k ≤ 255) (hb : 0 ≤ el xs (k + 1) ∧ el xs (k + 1) ≤ 255) :
    wholeTo xs (k + 2) = addW (wholeTo xs k) (el xs k * 256 + el xs (k + 1)) := by
  rw [wholeTo_odd xs (k + 1) (by omega), wholeTo_even xs k h]
  have := wholeTo_range xs k
  generalize wholeTo xs k = n at *
  generalize el xs k = x at *
  generalize el xs (k + 1) = y at *
  unfold addW
  split <;> split <;> (try split) <;> omega

theorem addW_comm (a b : Int) : addW a b = addW b a := by unfold addW; rw [Int.add_comm]
theorem addW_def (a b : Int) (ha : 0 ≤ a ∧ a ≤ 65535) (hb : 0 ≤ b ∧ b ≤ 65535) : addW a b = if 65535 < a + b then a + b - 65535 else a + b := by
  unfold addW; rw [show a % 65536 = a from by omega, show b % 65536 = b from by omega]
theorem addW_left (a b : Int) : addW a b = addW (a % 65536) b := by unfold addW; rw [show a % 65536 % 65536 = a % 65536 from by omega]
theorem addW_right (a b : Int) : addW a b = addW a (b % 65536) := by unfold addW; rw [show b % 65536 % 65536 = b % 65536 from by omega]
theorem addW_assoc (a b c : Int) : addW (addW a b) c = addW a (addW b c) := by
  rw [addW_left a b, addW_left a (addW b c), addW_right _ b, addW_left b c, addW_right _ c, addW_right _ c]
  have : 0 ≤ a % 65536 ∧ a % 65536 ≤ 65535 := by omega
  have : 0 ≤ b % 65536 ∧ b % 65536 ≤ 65535 := by omega
  have : 0 ≤ c % 65536 ∧ c % 65536 ≤ 65535 := by omega
  generalize a % 65536 = x at *
  generalize b % 65536 = y at *
  generalize c % 65536 = z at *
  rw [addW_def _ _ (addW_range x y) ‹_›, addW_def _ _ ‹_› (addW_range y z), addW_def x y ‹_› ‹_›, addW_def y z ‹_› ‹_›]
  repeat' split
  all_goals omega
theorem addW_zero (a : Int) (h : 0 ≤ a ∧ a ≤ 65535) : addW a 0 = a := by rw [addW_def _ _ h (by omega)]; split <;> omega

theorem wholeTo_left (xs ys : List Int) (k : Nat) (h : k ≤ xs.length) : wholeTo (xs ++ ys) k = wholeTo xs k := by
  induction k with
  | zero => rfl
  | succ k ih => simp only [wholeTo]; rw [ih (by omega), el_append_left _ _ _ (by omega)]
theorem wholeTo_append (xs ys : List Int) (h : xs.length % 2 = 0) (k : Nat) : wholeTo (xs ++ ys) (xs.length + k) = addW (whole xs) (wholeTo ys k) := by
  induction k with
  | zero => rw [Nat.add_zero, wholeTo_left _ _ _ (Nat.le_refl _)]; exact (addW_zero _ (whole_range xs)).symm
  | succ k ih =>
    rw [← Nat.add_assoc]
    simp only [wholeTo]
    rw [ih, addW_assoc, el_append_right, show (xs.length + k) % 2 = k % 2 from by omega]
theorem whole_append (xs ys : List Int) (h : xs.length % 2 = 0) : whole (xs ++ ys) = addW (whole xs) (whole ys) := by
  unfold whole
  rw [List.length_append]
  exact wholeTo_append xs ys h ys.length

end Go.Proofs.Ythchhlojpohjbaa
