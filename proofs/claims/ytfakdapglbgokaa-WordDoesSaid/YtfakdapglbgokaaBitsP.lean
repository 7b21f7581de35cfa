/-
  Bits of bytes: plain lists and numbers; no program in sight. No condition.
-/
import Derived.Test.YtfakdapglbgokaaRd
namespace Go.Proofs.Ytfakdapglbgokaa
set_option linter.all false
open Go.RowKit

/-- The t-th bit of a byte, the highest one first. -/
def bit (x : Int) (t : Nat) : Int := x / 2 ^ (7 - t) % 2
theorem bit_range (x : Int) (t : Nat) : 0 ≤ bit x t ∧ bit x t ≤ 1 := by unfold bit; omega
/-- The k-th bit of bytes. -/
def bitAt (b : List Int) (k : Nat) : Int := bit (el b (k / 8)) (k % 8)
theorem bitAt_range (b : List Int) (k : Nat) : 0 ≤ bitAt b k ∧ bitAt b k ≤ 1 := bit_range _ _

/-- A list made of a function. -/
def mk (f : Nat → Int) (m : Nat) : List Int := (List.range m).map f
theorem mk_length (f : Nat → Int) (m : Nat) : (mk f m).length = m := by simp [mk]
theorem el_mk (f : Nat → Int) (m k : Nat) (h : k < m) : el (mk f m) k = f k := by simp [el, mk, List.getD, h]
theorem el_mk_out (f : Nat → Int) (m k : Nat) (h : m ≤ k) : el (mk f m) k = 0 := by simp [el, mk, List.getD, h]
theorem mk_succ (f : Nat → Int) (m : Nat) : mk f (m + 1) = mk f m ++ [f m] := by simp [mk, List.range_succ]
theorem mk_congr (f g : Nat → Int) (m : Nat) (h : ∀ k, k < m → f k = g k) : mk f m = mk g m := by
  refine List.map_congr_left fun k hk => h k (List.mem_range.1 hk)
theorem mk_el (xs : List Int) : mk (el xs) xs.length = xs :=
  ext_el (mk_length _ _) fun i hi => el_mk _ _ _ (by rwa [mk_length] at hi)
theorem mk_fit (k : IntKind) (f : Nat → Int) (m : Nat) (h : ∀ i, i < m → Fits k (f i)) : AllFit k (mk f m) := by
  intro x hx
  obtain ⟨i, hi, rfl⟩ := List.mem_map.1 hx
  exact h i (List.mem_range.1 hi)

/-- Eight bits as a byte. -/
def byteF (f : Nat → Int) (i : Nat) : Int :=
  2 * (2 * (2 * (2 * (2 * (2 * (2 * f (8 * i) + f (8 * i + 1)) + f (8 * i + 2)) + f (8 * i + 3)) + f (8 * i + 4)) + f (8 * i + 5)) + f (8 * i + 6)) + f (8 * i + 7)
def bytesF (f : Nat → Int) (m : Nat) : List Int := mk (byteF f) m
theorem bytesF_length (f : Nat → Int) (m : Nat) : (bytesF f m).length = m := mk_length _ _
def Bits (f : Nat → Int) : Prop := ∀ k, 0 ≤ f k ∧ f k ≤ 1
theorem byteF_range (f : Nat → Int) (h : Bits f) (i : Nat) : 0 ≤ byteF f i ∧ byteF f i ≤ 255 := by
  have h0 := h (8 * i); have h1 := h (8 * i + 1); have h2 := h (8 * i + 2); have h3 := h (8 * i + 3)
  have h4 := h (8 * i + 4); have h5 := h (8 * i + 5); have h6 := h (8 * i + 6); have h7 := h (8 * i + 7)
  unfold byteF
  omega
theorem bytesF_fit (f : Nat → Int) (h : Bits f) (m : Nat) : AllFit .u8 (bytesF f m) :=
  mk_fit _ _ _ fun i _ => Fits.of_u8 (byteF_range f h i).1 (byteF_range f h i).2
theorem bit_byteF (f : Nat → Int) (h : Bits f) (i t : Nat) (ht : t < 8) : bit (byteF f i) t = f (8 * i + t) := by
  have h0 := h (8 * i); have h1 := h (8 * i + 1); have h2 := h (8 * i + 2); have h3 := h (8 * i + 3)
  have h4 := h (8 * i + 4); have h5 := h (8 * i + 5); have h6 := h (8 * i + 6); have h7 := h (8 * i + 7)
  match t, ht with
  | 0, _ => show byteF f i / 128 % 2 = f (8 * i); unfold byteF; omega
  | 1, _ => show byteF f i / 64 % 2 = _; unfold byteF; omega
  | 2, _ => show byteF f i / 32 % 2 = _; unfold byteF; omega
  | 3, _ => show byteF f i / 16 % 2 = _; unfold byteF; omega
  | 4, _ => show byteF f i / 8 % 2 = _; unfold byteF; omega
  | 5, _ => show byteF f i / 4 % 2 = _; unfold byteF; omega
  | 6, _ => show byteF f i / 2 % 2 = _; unfold byteF; omega
  | 7, _ => show byteF f i / 1 % 2 = _; unfold byteF; omega
theorem bitAt_bytesF (f : Nat → Int) (h : Bits f) (m k : Nat) (hk : k < 8 * m) : bitAt (bytesF f m) k = f k := by
  unfold bitAt bytesF
  rw [el_mk _ _ _ (by omega), bit_byteF f h _ _ (by omega), show 8 * (k / 8) + k % 8 = k from by omega]
theorem bitAt_out (b : List Int) (k : Nat) (hk : 8 * b.length ≤ k) : bitAt b k = 0 := by
  unfold bitAt; rw [el_out _ _ (by omega)]; simp [bit]
theorem byteF_congr (f g : Nat → Int) (i : Nat) (h : ∀ t, t < 8 → f (8 * i + t) = g (8 * i + t)) : byteF f i = byteF g i := by
  have h0 := h 0 (by omega); have h1 := h 1 (by omega); have h2 := h 2 (by omega); have h3 := h 3 (by omega)
  have h4 := h 4 (by omega); have h5 := h 5 (by omega); have h6 := h 6 (by omega); have h7 := h 7 (by omega)
  rw [Nat.add_zero] at h0
  unfold byteF
  rw [h0, h1, h2, h3, h4, h5, h6, h7]
theorem bytesF_congr (f g : Nat → Int) (m : Nat) (h : ∀ k, k < 8 * m → f k = g k) : bytesF f m = bytesF g m :=
  mk_congr _ _ _ fun i hi => byteF_congr f g i fun t ht => h _ (by omega)
theorem byteF_bits (x : Int) (hx : 0 ≤ x ∧ x ≤ 255) (f : Nat → Int) (i : Nat) (h : ∀ t, t < 8 → f (8 * i + t) = bit x t) : byteF f i = x := by
  have h0 := h 0 (by omega); have h1 := h 1 (by omega); have h2 := h 2 (by omega); have h3 := h 3 (by omega)
  have h4 := h 4 (by omega); have h5 := h 5 (by omega); have h6 := h 6 (by omega); have h7 := h 7 (by omega)
  rw [Nat.add_zero] at h0
  unfold byteF
  rw [h0, h1, h2, h3, h4, h5, h6, h7]
  show 2 * (2 * (2 * (2 * (2 * (2 * (2 * (x / 128 % 2) + x / 64 % 2) + x / 32 % 2) + x / 16 % 2) + x / 8 % 2) + x / 4 % 2) + x / 2 % 2) + x / 1 % 2 = x
  omega
theorem bytesF_bitAt (b : List Int) (hf : AllFit .u8 b) : bytesF (bitAt b) b.length = b := by
  refine ext_el (bytesF_length _ _) fun i hi => ?_
  rw [bytesF_length] at hi
  unfold bytesF
  rw [el_mk _ _ _ hi]
  refine byteF_bits _ (hf.el_u8 i) _ _ fun t ht => ?_
  unfold bitAt
  rw [show (8 * i + t) / 8 = i from by omega, show (8 * i + t) % 8 = t from by omega]
/-- Bytes are their bits. -/
theorem bytes_ext {a b : List Int} (ha : AllFit .u8 a) (hb : AllFit .u8 b) (hl : a.length = b.length) (h : ∀ k, k < 8 * a.length → bitAt a k = bitAt b k) : a = b := by
  rw [← bytesF_bitAt a ha, ← bytesF_bitAt b hb, ← hl]
  exact bytesF_congr _ _ _ h

/-- The bits of bytes, a list. -/
def bitsL (b : List Int) : List Int := mk (bitAt b) (8 * b.length)
/-- The j-th of w bits of a number, the highest first. -/
def nbit (v : Int) (w j : Nat) : Int := v / 2 ^ (w - 1 - j) % 2
theorem nbit_range (v : Int) (w j : Nat) : 0 ≤ nbit v w j ∧ nbit v w j ≤ 1 := by unfold nbit; omega
def numB (v : Int) (w : Nat) : List Int := mk (nbit v w) w
/-- The number of the first so many bits. -/
def acc (f : Nat → Int) : Nat → Int
  | 0 => 0
  | i + 1 => 2 * acc f i + f i
theorem acc_congr (f g : Nat → Int) (i : Nat) (h : ∀ k, k < i → f k = g k) : acc f i = acc g i := by
  induction i with
  | zero => rfl
  | succ i ih => simp only [acc]; rw [ih (fun k hk => h k (by omega)), h i (by omega)]
theorem acc_range (f : Nat → Int) (h : Bits f) (i : Nat) : 0 ≤ acc f i ∧ acc f i + 1 ≤ (2 ^ i : Nat) := by
  induction i with
  | zero => simp [acc]
  | succ i ih =>
    have := h i
    simp only [acc]
    rw [Nat.pow_succ]
    omega
theorem byteF_acc (f : Nat → Int) (i : Nat) : byteF f i = acc (fun k => f (8 * i + k)) 8 := by
  simp [acc, byteF]
/-- A number of w bits from a bit on. -/
def getN (b : List Int) (at_ w : Nat) : Int := acc (fun i => bitAt b (at_ + i)) w
theorem getN_range (b : List Int) (at_ w : Nat) : 0 ≤ getN b at_ w ∧ getN b at_ w + 1 ≤ (2 ^ w : Nat) := acc_range _ (fun _ => bitAt_range _ _) _

/-- The bits of bytes with a number put in. -/
def putF (b : List Int) (at_ w : Nat) (v : Int) (k : Nat) : Int := if at_ ≤ k ∧ k < at_ + w then nbit v w (k - at_) else bitAt b k
theorem putF_bits (b : List Int) (at_ w : Nat) (v : Int) : Bits (putF b at_ w v) := by
  intro k; unfold putF; split
  · exact nbit_range _ _ _
  · exact bitAt_range _ _
def putN (b : List Int) (at_ w : Nat) (v : Int) : List Int := bytesF (putF b at_ w v) b.length
theorem putN_length (b : List Int) (at_ w : Nat) (v : Int) : (putN b at_ w v).length = b.length := bytesF_length _ _
theorem putN_fit (b : List Int) (at_ w : Nat) (v : Int) : AllFit .u8 (putN b at_ w v) := bytesF_fit _ (putF_bits _ _ _ _) _
theorem bitAt_putN (b : List Int) (at_ w : Nat) (v : Int) (k : Nat) (hk : k < 8 * b.length) : bitAt (putN b at_ w v) k = putF b at_ w v k := bitAt_bytesF _ (putF_bits _ _ _ _) _ _ hk

theorem pow2_le {i j : Nat} (h : i ≤ j) : 2 ^ i ≤ 2 ^ j := Nat.pow_le_pow_right (by omega) h
theorem acc_u64 (f : Nat → Int) (h : Bits f) (i : Nat) (hi : i < 64) : 0 ≤ acc f i ∧ acc f i ≤ 9223372036854775807 := by
  have := acc_range f h i
  have h2 : 2 ^ i ≤ 2 ^ 63 := pow2_le (by omega)
  have : (2 ^ 63 : Nat) = 9223372036854775808 := rfl
  omega
theorem acc_u64' (f : Nat → Int) (h : Bits f) (i : Nat) (hi : i ≤ 64) : 0 ≤ acc f i ∧ acc f i ≤ 18446744073709551615 := by
  have := acc_range f h i
  have h2 : 2 ^ i ≤ 2 ^ 64 := pow2_le hi
  have : (2 ^ 64 : Nat) = 18446744073709551616 := rfl
  omega
theorem acc_u8 (f : Nat → Int) (h : Bits f) (i : Nat) (hi : i < 8) : 0 ≤ acc f i ∧ acc f i ≤ 127 := by
  have := acc_range f h i
  have h2 : 2 ^ i ≤ 2 ^ 7 := pow2_le (by omega)
  have : (2 ^ 7 : Nat) = 128 := rfl
  omega

theorem Bits.mk_ (f : Nat → Int) (h : Bits f) (m : Nat) : Bits (el (mk f m)) := by
  intro k
  by_cases hk : k < m
  · rw [el_mk _ _ _ hk]; exact h k
  · rw [el_mk_out _ _ _ (by omega)]; omega
theorem Bits.drop {xs : List Int} (h : Bits (el xs)) (lo : Nat) : Bits (el (xs.drop lo)) := fun k => by rw [el_drop]; exact h _
theorem Bits.take {xs : List Int} (h : Bits (el xs)) (m : Nat) : Bits (el (xs.take m)) := fun k => by
  rw [el_take]; split
  · exact h k
  · omega
theorem Bits.append {xs ys : List Int} (h : Bits (el xs)) (g : Bits (el ys)) : Bits (el (xs ++ ys)) := fun k => by
  rw [el_append]; split
  · exact h k
  · exact g _
theorem bitsL_bits (b : List Int) : Bits (el (bitsL b)) := Bits.mk_ _ (fun _ => bitAt_range _ _) _
theorem bitsL_length (b : List Int) : (bitsL b).length = 8 * b.length := mk_length _ _
theorem numB_bits (v : Int) (w : Nat) : Bits (el (numB v w)) := Bits.mk_ _ (fun _ => nbit_range _ _ _) _
theorem numB_length (v : Int) (w : Nat) : (numB v w).length = w := mk_length _ _
theorem Bits.fit {xs : List Int} (h : Bits (el xs)) : AllFit .u8 xs := by
  intro x hx
  obtain ⟨i, hi, rfl⟩ := List.mem_iff_getElem.1 hx
  have := h i
  rw [el_lt _ _ hi] at this
  exact Fits.of_u8 (by omega) (by omega)
theorem getN_ref (b : List Int) (at_ w : Nat) (h : at_ + w ≤ 8 * b.length) : acc (el (((bitsL b).drop at_).take w)) w = getN b at_ w :=
  acc_congr _ _ _ fun k hk => by rw [el_take, if_pos hk, el_drop]; exact el_mk _ _ _ (by omega)
theorem putN_ref (b : List Int) (at_ w : Nat) (v : Int) (h : at_ + w ≤ 8 * b.length) :
    bytesF (el (((bitsL b).take at_ ++ numB v w) ++ (bitsL b).drop (at_ + w))) b.length = putN b at_ w v := by
  refine bytesF_congr _ _ _ fun k hk => ?_
  have hl1 : ((bitsL b).take at_).length = at_ := by simp [bitsL_length]; omega
  rw [el_append, List.length_append, hl1, numB_length, el_append, hl1]
  unfold putF
  by_cases h1 : k < at_
  · rw [if_pos (by omega), if_pos h1, if_neg (by omega), el_take, if_pos h1]
    exact el_mk _ _ _ (by omega)
  · by_cases h2 : k < at_ + w
    · rw [if_pos h2, if_neg h1, if_pos (by omega)]
      exact el_mk _ _ _ (by omega)
    · rw [if_neg h2, if_neg (by omega), el_drop, show at_ + w + (k - (at_ + w)) = k from by omega]
      exact el_mk _ _ _ (by omega)
/-- A number whose low bits are put is got. -/
theorem acc_nbit (v : Int) (w i : Nat) (hi : i ≤ w) : acc (nbit v w) i = v / 2 ^ (w - i) % 2 ^ i := by
  induction i with
  | zero => simp [acc, Int.emod_one]
  | succ i ih =>
    simp only [acc]
    rw [ih (by omega)]
    unfold nbit
    have hw : w - i = (w - (i + 1)) + 1 := by omega
    have h1 : v / 2 ^ (w - i) = v / 2 ^ (w - (i + 1)) / 2 := by
      rw [hw, Int.pow_succ, Int.ediv_ediv_of_nonneg (Int.le_of_lt (Int.pow_pos (by omega)))]
    rw [h1, show w - 1 - i = w - (i + 1) from by omega]
    generalize v / 2 ^ (w - (i + 1)) = x
    rw [Int.pow_succ]
    have hp : (0 : Int) < 2 ^ i := Int.pow_pos (by omega)
    generalize (2 : Int) ^ i = m at *
    have e1 := Int.mul_ediv_add_emod x 2
    have e2 := Int.mul_ediv_add_emod (x / 2) m
    have r1 := Int.emod_nonneg x (show (2 : Int) ≠ 0 by omega)
    have r2 := Int.emod_lt_of_pos x (show (0 : Int) < 2 by omega)
    have r3 := Int.emod_nonneg (x / 2) (show m ≠ 0 by omega)
    have r4 := Int.emod_lt_of_pos (x / 2) hp
    have : x = (2 * (x / 2 % m) + x % 2) + (m * 2) * (x / 2 / m) := by
      have : x = 2 * (m * (x / 2 / m) + x / 2 % m) + x % 2 := by rw [e2]; omega
      conv => lhs; rw [this]
      rw [Int.mul_add, ← Int.mul_assoc, Int.mul_comm 2 m]; omega
    have key : (2 * (x / 2 % m) + x % 2 + m * 2 * (x / 2 / m)) % (m * 2) = 2 * (x / 2 % m) + x % 2 := by
      rw [Int.add_mul_emod_self_left, Int.emod_eq_of_lt (by omega) (by omega)]
    exact key.symm.trans (congrArg (· % (m * 2)) this.symm)

/-- Code and place of a fault of bits. -/
def bfc (len : Nat) (at_ w : Int) : Int := if w < 1 ∨ 64 < w then 6 else if at_ < 0 ∨ 8 * (len : Int) - w < at_ then 1 else 0
def bfa (len : Nat) (at_ w : Int) : Int := if w < 1 ∨ 64 < w then -1 else if at_ < 0 ∨ 8 * (len : Int) - w < at_ then -1 else 0
theorem bfc_zero {len : Nat} {at_ w : Int} (h : bfc len at_ w = 0) : 1 ≤ w ∧ w ≤ 64 ∧ 0 ≤ at_ ∧ at_ + w ≤ 8 * (len : Int) ∧ bfa len at_ w = 0 := by
  unfold bfc at h
  unfold bfa
  split at h
  · omega
  · split at h
    · omega
    · rename_i h1 h2
      rw [if_neg h1, if_neg h2]
      omega
theorem bfc_ne {len : Nat} {at_ w : Int} (h : bfc len at_ w ≠ 0) : bfa len at_ w = -1 := by
  unfold bfc at h
  unfold bfa
  split at h
  · rename_i h1; rw [if_pos h1]
  · split at h
    · rename_i h1 h2; rw [if_neg h1, if_pos h2]
    · omega

end Go.Proofs.Ytfakdapglbgokaa
