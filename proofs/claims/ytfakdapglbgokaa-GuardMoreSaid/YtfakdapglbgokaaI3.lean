/-
  Texts joined: XBitsP XBitsW XBitsV. No condition.
-/
import Derived.Test.YtfakdapglbgokaaRows
import Derived.Deep.QuietTactic
import Derived.BigQuiet
import Derived.WalkSmall
import Derived.Handy
import Derived.WalkSpells
import Derived.RegionTactic
import Derived.BigRegion
import Derived.Test.YtfakdapglbgokaaI1
/-
  Bits of bytes: plain lists and numbers; no program in sight. No condition.
-/
namespace Go.Proofs.Ytfakdapglbgokaa
set_option linter.all false
open Go.RowKit

/-- The t-th bit of a byte, the highest one first. -/
def bit (x : Int) (t : Nat) : Int := x / 2 ^ (7 - t) % 2
theorem bit_range (x : Int) (t : Nat) : 0 ≤ bit x t ∧ bit x t ≤ 1 := by unfold bit; omega
/-- The k-th bit of bytes. -/
def bitAt (b : List Int) (k : Nat) : Int := bit (el b (k / 8)) (k % 8)
theorem bitAt_range (b : List Int) (k : Nat) : 0 ≤ bitAt b k ∧ bitAt b k ≤ 1 := bit_range _ _

/-- A list made of a function. -/
def mk (f : Nat → Int) (m : Nat) : List Int := (List.range m).map f
theorem mk_length (f : Nat → Int) (m : Nat) : (mk f m).length = m := by simp [mk]
theorem el_mk (f : Nat → Int) (m k : Nat) (h : k < m) : el (mk f m) k = f k := by simp [el, mk, List.getD, h]
theorem el_mk_out (f : Nat → Int) (m k : Nat) (h : m ≤ k) : el (mk f m) k = 0 := by simp [el, mk, List.getD, h]
theorem mk_succ (f : Nat → Int) (m : Nat) : mk f (m + 1) = mk f m ++ [f m] := by simp [mk, List.range_succ]
theorem mk_congr (f g : Nat → Int) (m : Nat) (h : ∀ k, k < m → f k = g k) : mk f m = mk g m := by
  refine List.map_congr_left fun k hk => h k (List.mem_range.1 hk)
theorem mk_el (xs : List Int) : mk (el xs) xs.length = xs :=
  ext_el (mk_length _ _) fun i hi => el_mk _ _ _ (by rwa [mk_length] at hi)
theorem mk_fit (k : IntKind) (f : Nat → Int) (m : Nat) (h : ∀ i, i < m → Fits k (f i)) : AllFit k (mk f m) := by
  intro x hx
  obtain ⟨i, hi, rfl⟩ := List.mem_map.1 hx
  exact h i (List.mem_range.1 hi)

/-- Eight bits as a byte. -/
def byteF (f : Nat → Int) (i : Nat) : Int :=
  2 * (2 * (2 * (2 * (2 * (2 * (2 * f (8 * i) + f (8 * i + 1)) + f (8 * i + 2)) + f (8 * i + 3)) + f (8 * i + 4)) + f (8 * i + 5)) + f (8 * i + 6)) + f (8 * i + 7)
def bytesF (f : Nat → Int) (m : Nat) : List Int := mk (byteF f) m
theorem bytesF_length (f : Nat → Int) (m : Nat) : (bytesF f m).length = m := mk_length _ _
def Bits (f : Nat → Int) : Prop := ∀ k, 0 ≤ f k ∧ f k ≤ 1
theorem byteF_range (f : Nat → Int) (h : Bits f) (i : Nat) : 0 ≤ byteF f i ∧ byteF f i ≤ 255 := by
  have h0 := h (8 * i); have h1 := h (8 * i + 1); have h2 := h (8 * i + 2); have h3 := h (8 * i + 3)
  have h4 := h (8 * i + 4); have h5 := h (8 * i + 5); have h6 := h (8 * i + 6); have h7 := h (8 * i + 7)
  unfold byteF
  omega
theorem bytesF_fit (f : Nat → Int) (h : Bits f) (m : Nat) : AllFit .u8 (bytesF f m) :=
  mk_fit _ _ _ fun i _ => Fits.of_u8 (byteF_range f h i).1 (byteF_range f h i).2
theorem bit_byteF (f : Nat → Int) (h : Bits f) (i t : Nat) (ht : t < 8) : bit (byteF f i) t = f (8 * i + t) := by
  have h0 := h (8 * i); have h1 := h (8 * i + 1); have h2 := h (8 * i + 2); have h3 := h (8 * i + 3)
  have h4 := h (8 * i + 4); have h5 := h (8 * i + 5); have h6 := h (8 * i + 6); have h7 := h (8 * i + 7)
  match t, ht with
  | 0, _ => show byteF f i / 128 % 2 = f (8 * i); unfold byteF; omega
  | 1, _ => show byteF f i / 64 % 2 = _; unfold byteF; omega
  | 2, _ => show byteF f i / 32 % 2 = _; unfold byteF; omega
  | 3, _ => show byteF f i / 16 % 2 = _; unfold byteF; omega
  | 4, _ => show byteF f i / 8 % 2 = _; unfold byteF; omega
  | 5, _ => show byteF f i / 4 % 2 = _; unfold byteF; omega
  | 6, _ => show byteF f i / 2 % 2 = _; unfold byteF; omega
  | 7, _ => show byteF f i / 1 % 2 = _; unfold byteF; omega
theorem bitAt_bytesF (f : Nat → Int) (h : Bits f) (m k : Nat) (hk : k < 8 * m) : bitAt (bytesF f m) k = f k := by
  unfold bitAt bytesF
  rw [el_mk _ _ _ (by omega), bit_byteF f h _ _ (by omega), show 8 * (k / 8) + k % 8 = k from by omega]
theorem bitAt_out (b : List Int) (k : Nat) (hk : 8 * b.length ≤ k) : bitAt b k = 0 := by
  unfold bitAt; rw [el_out _ _ (by omega)]; simp [bit]
theorem byteF_congr (f g : Nat → Int) (i : Nat) (h : ∀ t, t < 8 → f (8 * i + t) = g (8 * i + t)) : byteF f i = byteF g i := by
  have h0 := h 0 (by omega); have h1 := h 1 (by omega); have h2 := h 2 (by omega); have h3 := h 3 (by omega)
  have h4 := h 4 (by omega); have h5 := h 5 (by omega); have h6 := h 6 (by omega); have h7 := h 7 (by omega)
  rw [Nat.add_zero] at h0
  unfold byteF
  rw [h0, h1, h2, h3, h4, h5, h6, h7]
theorem bytesF_congr (f g : Nat → Int) (m : Nat) (h : ∀ k, k < 8 * m → f k = g k) : bytesF f m = bytesF g m :=
  mk_congr _ _ _ fun i hi => byteF_congr f g i fun t ht => h _ (by omega)
theorem byteF_bits (x : Int) (hx : 0 ≤ x ∧ x ≤ 255) (f : Nat → Int) (i : Nat) (h : ∀ t, t < 8 → f (8 * i + t) = bit x t) : byteF f i = x := by
  have h0 := h 0 (by omega); have h1 := h 1 (by omega); have h2 := h 2 (by omega); have h3 := h 3 (by omega)
  have h4 := h 4 (by omega); have h5 := h 5 (by omega); have h6 := h 6 (by omega); have h7 := h 7 (by omega)
  rw [Nat.add_zero] at h0
  unfold byteF
  rw [h0, h1, h2, h3, h4, h5, h6, h7]
  show 2 * (2 * (2 * (2 * (2 * (2 * (2 * (x / 128 % 2) + x / 64 % 2) + x / 32 % 2) + x / 16 % 2) + x / 8 % 2) + x / 4 % 2) + x / 2 % 2) + x / 1 % 2 = x
  omega
theorem bytesF_bitAt (b : List Int) (hf : AllFit .u8 b) : bytesF (bitAt b) b.length = b := by
  refine ext_el (bytesF_length _ _) fun i hi => ?_
  rw [bytesF_length] at hi
  unfold bytesF
  rw [el_mk _ _ _ hi]
  refine byteF_bits _ (hf.el_u8 i) _ _ fun t ht => ?_
  unfold bitAt
  rw [show (8 * i + t) / 8 = i from by omega, show (8 * i + t) % 8 = t from by omega]
/-- Bytes are their bits. -/
theorem bytes_ext {a b : List Int} (ha : AllFit .u8 a) (hb : AllFit .u8 b) (hl : a.length = b.length) (h : ∀ k, k < 8 * a.length → bitAt a k = bitAt b k) : a = b := by
  rw [← bytesF_bitAt a ha, ← bytesF_bitAt b hb, ← hl]
  exact bytesF_congr _ _ _ h

/-- The bits of bytes, a list. -/
def bitsL (b : List Int) : List Int := mk (bitAt b) (8 * b.length)
/-- The j-th of w bits of a number, the highest first. -/
def nbit (v : Int) (w j : Nat) : Int := v / 2 ^ (w - 1 - j) % 2
theorem nbit_range (v : Int) (w j : Nat) : 0 ≤ nbit v w j ∧ nbit v w j ≤ 1 := by unfold nbit; omega
def numB (v : Int) (w : Nat) : List Int := mk (nbit v w) w
/-- The number of the first so many bits. -/
def acc (f : Nat → Int) : Nat → Int
  | 0 => 0
  | i + 1 => 2 * acc f i + f i
theorem acc_congr (f g : Nat → Int) (i : Nat) (h : ∀ k, k < i → f k = g k) : acc f i = acc g i := by
  induction i with
  | zero => rfl
  | succ i ih => simp only [acc]; rw [ih (fun k hk => h k (by omega)), h i (by omega)]
theorem acc_range (f : Nat → Int) (h : Bits f) (i : Nat) : 0 ≤ acc f i ∧ acc f i + 1 ≤ (2 ^ i : Nat) := by
  induction i with
  | zero => simp [acc]
  | succ i ih =>
    have := h i
    simp only [acc]
    rw [Nat.pow_succ]
    omega
theorem byteF_acc (f : Nat → Int) (i : Nat) : byteF f i = acc (fun k => f (8 * i + k)) 8 := by
  simp [acc, byteF]
/-- A number of w bits from a bit on. -/
def getN (b : List Int) (at_ w : Nat) : Int := acc (fun i => bitAt b (at_ + i)) w
theorem getN_range (b : List Int) (at_ w : Nat) : 0 ≤ getN b at_ w ∧ getN b at_ w + 1 ≤ (2 ^ w : Nat) := acc_range _ (fun _ => bitAt_range _ _) _

/-- The bits of bytes with a number put in. -/
def putF (b : List Int) (at_ w : Nat) (v : Int) (k : Nat) : Int := if at_ ≤ k ∧ k < at_ + w then nbit v w (k - at_) else bitAt b k
theorem putF_bits (b : List Int) (at_ w : Nat) (v : Int) : Bits (putF b at_ w v) := by
  intro k; unfold putF; split
  · exact nbit_range _ _ _
  · exact bitAt_range _ _
def putN (b : List Int) (at_ w : Nat) (v : Int) : List Int := bytesF (putF b at_ w v) b.length
theorem putN_length (b : List Int) (at_ w : Nat) (v : Int) : (putN b at_ w v).length = b.length := bytesF_length _ _
theorem putN_fit (b : List Int) (at_ w : Nat) (v : Int) : AllFit .u8 (putN b at_ w v) := bytesF_fit _ (putF_bits _ _ _ _) _
theorem bitAt_putN (b : List Int) (at_ w : Nat) (v : Int) (k : Nat) (hk : k < 8 * b.length) : bitAt (putN b at_ w v) k = putF b at_ w v k := bitAt_bytesF _ (putF_bits _ _ _ _) _ _ hk

theorem pow2_le {i j : Nat} (h : i ≤ j) : 2 ^ i ≤ 2 ^ j := Nat.pow_le_pow_right (by omega) h
theorem acc_u64 (f : Nat → Int) (h : Bits f) (i : Nat) (hi : i < 64) : 0 ≤ acc f i ∧ acc f i ≤ 9223372036854775807 := by
  have := acc_range f h i
  have h2 : 2 ^ i ≤ 2 ^ 63 := pow2_le (by omega)
  have : (2 ^ 63 : Nat) = 9223372036854775808 := rfl
  omega
theorem acc_u64' (f : Nat → Int) (h : Bits f) (i : Nat) (hi : i ≤ 64) : 0 ≤ acc f i ∧ acc f i ≤ 18446744073709551615 := by
  have := acc_range f h i
  have h2 : 2 ^ i ≤ 2 ^ 64 := pow2_le hi
  have : (2 ^ 64 : Nat) = 18446744073709551616 := rfl
  omega
theorem acc_u8 (f : Nat → Int) (h : Bits f) (i : Nat) (hi : i < 8) : 0 ≤ acc f i ∧ acc f i ≤ 127 := by
  have := acc_range f h i
  have h2 : 2 ^ i ≤ 2 ^ 7 := pow2_le (by omega)
  have : (2 ^ 7 : Nat) = 128 := rfl
  omega

theorem Bits.mk_ (f : Nat → Int) (h : Bits f) (m : Nat) : Bits (el (mk f m)) := by
  intro k
  by_cases hk : k < m
  · rw [el_mk _ _ _ hk]; exact h k
  · rw [el_mk_out _ _ _ (by omega)]; omega
theorem Bits.drop {xs : List Int} (h : Bits (el xs)) (lo : Nat) : Bits (el (xs.drop lo)) := fun k => by rw [el_drop]; exact h _
theorem Bits.take {xs : List Int} (h : Bits (el xs)) (m : Nat) : Bits (el (xs.take m)) := fun k => by
  rw [el_take]; split
  · exact h k
  · omega
theorem Bits.append {xs ys : List Int} (h : Bits (el xs)) (g : Bits (el ys)) : Bits (el (xs ++ ys)) := fun k => by
  rw [el_append]; split
  · exact h k
  · exact g _
theorem bitsL_bits (b : List Int) : Bits (el (bitsL b)) := Bits.mk_ _ (fun _ => bitAt_range _ _) _
theorem bitsL_length (b : List Int) : (bitsL b).length = 8 * b.length := mk_length _ _
theorem numB_bits (v : Int) (w : Nat) : Bits (el (numB v w)) := Bits.mk_ _ (fun _ => nbit_range _ _ _) _
theorem numB_length (v : Int) (w : Nat) : (numB v w).length = w := mk_length _ _
theorem Bits.fit {xs : List Int} (h : Bits (el xs)) : AllFit .u8 xs := by
  intro x hx
  obtain ⟨i, hi, rfl⟩ := List.mem_iff_getElem.1 hx
  have := h i
  rw [el_lt _ _ hi] at this
  exact Fits.of_u8 (by omega) (by omega)
theorem getN_ref (b : List Int) (at_ w : Nat) (h : at_ + w ≤ 8 * b.length) : acc (el (((bitsL b).drop at_).take w)) w = getN b at_ w :=
  acc_congr _ _ _ fun k hk => by rw [el_take, if_pos hk, el_drop]; exact el_mk _ _ _ (by omega)
theorem putN_ref (b : List Int) (at_ w : Nat) (v : Int) (h : at_ + w ≤ 8 * b.length) :
    bytesF (el (((bitsL b).take at_ ++ numB v w) ++ (bitsL b).drop (at_ + w))) b.length = putN b at_ w v := by
  refine bytesF_congr _ _ _ fun k hk => ?_
  have hl1 : ((bitsL b).take at_).length = at_ := by simp [bitsL_length]; omega
  rw [el_append, List.length_append, hl1, numB_length, el_append, hl1]
  unfold putF
  by_cases h1 : k < at_
  · rw [if_pos (by omega), if_pos h1, if_neg (by omega), el_take, if_pos h1]
    exact el_mk _ _ _ (by omega)
  · by_cases h2 : k < at_ + w
    · rw [if_pos h2, if_neg h1, if_pos (by omega)]
      exact el_mk _ _ _ (by omega)
    · rw [if_neg h2, if_neg (by omega), el_drop, show at_ + w + (k - (at_ + w)) = k from by omega]
      exact el_mk _ _ _ (by omega)
/-- A number whose low bits are put is got. -/
theorem acc_nbit (v : Int) (w i : Nat) (hi : i ≤ w) : acc (nbit v w) i = v / 2 ^ (w - i) % 2 ^ i := by
  induction i with
  | zero => simp [acc, Int.emod_one]
  | succ i ih =>
    simp only [acc]
    rw [ih (by omega)]
    unfold nbit
    have hw : w - i = (w - (i + 1)) + 1 := by omega
    have h1 : v / 2 ^ (w - i) = v / 2 ^ (w - (i + 1)) / 2 := by
      rw [hw, Int.pow_succ, Int.ediv_ediv_of_nonneg (Int.le_of_lt (Int.pow_pos (by omega)))]
    rw [h1, show w - 1 - i = w - (i + 1) from by omega]
    generalize v / 2 ^ (w - (i + 1)) = x
    rw [Int.pow_succ]
    have hp : (0 : Int) < 2 ^ i := Int.pow_pos (by omega)
    generalize (2 : Int) ^ i = m at *
    have e1 := Int.mul_ediv_add_emod x 2
    have e2 := Int.mul_ediv_add_emod (x / 2) m
    have r1 := Int.emod_nonneg x (show (2 : Int) ≠ 0 by omega)
    have r2 := Int.emod_lt_of_pos x (show (0 : Int) < 2 by omega)
    have r3 := Int.emod_nonneg (x / 2) (show m ≠ 0 by omega)
    have r4 := Int.emod_lt_of_pos (x / 2) hp
    have : x = (2 * (x / 2 % m) + x % 2) + (m * 2) * (x / 2 / m) := by
      have : x = 2 * (m * (x / 2 / m) + x / 2 % m) + x % 2 := by rw [e2]; omega
      conv => lhs; rw [this]
      rw [Int.mul_add, ← Int.mul_assoc, Int.mul_comm 2 m]; omega
    have key : (2 * (x / 2 % m) + x % 2 + m * 2 * (x / 2 / m)) % (m * 2) = 2 * (x / 2 % m) + x % 2 := by
      rw [Int.add_mul_emod_self_left, Int.emod_eq_of_lt (by omega) (by omega)]
    exact key.symm.trans (congrArg (· % (m * 2)) this.symm)

/-- Code and place of a fault of bits. -/
def bfc (len : Nat) (at_ w : Int) : Int := if w < 1 ∨ 64 < w then 6 else if at_ < 0 ∨ 8 * (len : Int) - w < at_ then 1 else 0
def bfa (len : Nat) (at_ w : Int) : Int := if w < 1 ∨ 64 < w then -1 else if at_ < 0 ∨ 8 * (len : Int) - w < at_ then -1 else 0
theorem bfc_zero {len : Nat} {at_ w : Int} (h : bfc len at_ w = 0) : 1 ≤ w ∧ w ≤ 64 ∧ 0 ≤ at_ ∧ at_ + w ≤ 8 * (len : Int) ∧ bfa len at_ w = 0 := by
  unfold bfc at h
  unfold bfa
  split at h
  · omega
  · split at h
    · omega
    · rename_i h1 h2
      rw [if_neg h1, if_neg h2]
      omega
theorem bfc_ne {len : Nat} {at_ w : Int} (h : bfc len at_ w ≠ 0) : bfa len at_ w = -1 := by
  unfold bfc at h
  unfold bfa
  split at h
  · rename_i h1; rw [if_pos h1]
  · split at h
    · rename_i h1 h2; rw [if_neg h1, if_pos h2]
    · omega

end Go.Proofs.Ytfakdapglbgokaa

/-
  Package bits and its references: what each function computes. No condition.
-/
namespace Go.Proofs.Ytfakdapglbgokaa
set_option linter.all false
open Go.RowKit

theorem sty_bytes : SliceTy Try.prog 77 5 1 1 (.int .u8 0) := ⟨Try.underlying77, by kernel_rfl, rfl, by omega⟩
theorem sty_nums : SliceTy Try.prog 28 23 1 8 (.int .u64 0) := ⟨Try.underlying28, by kernel_rfl, rfl, by omega⟩

theorem inside_any (ao : Option Addr) (n cap : Nat) (at_ w_ : Int) (w : World) (hn : n ≤ 1000000) (ha : -9223372036854775808 ≤ at_ ∧ at_ ≤ 9223372036854775807) (hw : -9223372036854775808 ≤ w_ ∧ w_ ≤ 9223372036854775807) :
    Calls Try.prog 154 #[.slice ao n cap, .int .i64 at_, .int .i64 w_] w fun e w' => e = .returned (.agg #[.int .i64 (bfc n at_ w_), .int .i64 (bfa n at_ w_)]) ∧ Below w.heap.size w w' := by
  by_cases h1 : w_ < 1
  · have e1 : bfc n at_ w_ = 6 := by unfold bfc; rw [if_pos (by omega)]
    have e2 : bfa n at_ w_ = -1 := by unfold bfa; rw [if_pos (by omega)]
    rw [e1, e2]; clear e1 e2
    go_enter Try.func154, Try.ntmps154
    go_wp2
    go_returns
    exact ⟨rfl, by go_grown⟩
  by_cases h2 : 64 < w_
  · have e1 : bfc n at_ w_ = 6 := by unfold bfc; rw [if_pos (by omega)]
    have e2 : bfa n at_ w_ = -1 := by unfold bfa; rw [if_pos (by omega)]
    rw [e1, e2]; clear e1 e2
    go_enter Try.func154, Try.ntmps154
    go_wp2
    go_returns
    exact ⟨rfl, by go_grown⟩
  by_cases h3 : at_ < 0
  · have e1 : bfc n at_ w_ = 1 := by unfold bfc; rw [if_neg (by omega), if_pos (by omega)]
    have e2 : bfa n at_ w_ = -1 := by unfold bfa; rw [if_neg (by omega), if_pos (by omega)]
    rw [e1, e2]; clear e1 e2
    go_enter Try.func154, Try.ntmps154
    go_wp2
    go_returns
    exact ⟨rfl, by go_grown⟩
  by_cases h4 : 8 * (n : Int) - w_ < at_
  · have e1 : bfc n at_ w_ = 1 := by unfold bfc; rw [if_neg (by omega), if_pos (by omega)]
    have e2 : bfa n at_ w_ = -1 := by unfold bfa; rw [if_neg (by omega), if_pos (by omega)]
    rw [e1, e2]; clear e1 e2
    go_enter Try.func154, Try.ntmps154
    go_wp2
    go_returns
    exact ⟨rfl, by go_grown⟩
  · have e1 : bfc n at_ w_ = 0 := by unfold bfc; rw [if_neg (by omega), if_neg (by omega)]
    have e2 : bfa n at_ w_ = 0 := by unfold bfa; rw [if_neg (by omega), if_neg (by omega)]
    rw [e1, e2]; clear e1 e2
    go_enter Try.func154, Try.ntmps154
    go_wp2
    go_returns
    exact ⟨rfl, by go_grown⟩

theorem F_any (c a : Int) (w : World) :
    Calls Try.prog 90 #[.int .i64 c, .int .i64 a] w fun e w' => e = .returned (.agg #[.int .i64 c, .int .i64 a]) ∧ w.alloc (.cells #[.int .i64 c, .int .i64 a] 65) = w' := by
  go_enter Try.func90, Try.ntmps90
  go_wp2
  go_returns
  exact ⟨rfl, rfl⟩

theorem bcell {W w1 : World} (hb : Below W.heap.size W w1) : (∀ b o, b < W.heap.size → w1.cell? ⟨b, o, none⟩ = W.cell? ⟨b, o, none⟩) ∧ (∀ b o, b < W.heap.size → w1.frozen? ⟨b, o, none⟩ = W.frozen? ⟨b, o, none⟩) :=
  ⟨fun b o h => hb.cell (p := ⟨b, o, none⟩) h, fun b o h => hb.frozen (p := ⟨b, o, none⟩) h⟩

theorem bitsFault_any (ao : Option Addr) (n cap : Nat) (at_ w_ : Int) (w : World) (hn : n ≤ 1000000) (ha : -9223372036854775808 ≤ at_ ∧ at_ ≤ 9223372036854775807) (hw : -9223372036854775808 ≤ w_ ∧ w_ ≤ 9223372036854775807) :
    Calls Try.prog 155 #[.slice ao n cap, .int .i64 at_, .int .i64 w_] w fun e w' => e = .returned (.agg #[.int .i64 (bfc n at_ w_), .int .i64 (bfa n at_ w_)]) ∧ Below w.heap.size w w' := by
  by_cases h1 : w_ < 1
  · have e1 : bfc n at_ w_ = 6 := by unfold bfc; rw [if_pos (by omega)]
    have e2 : bfa n at_ w_ = -1 := by unfold bfa; rw [if_pos (by omega)]
    rw [e1, e2]; clear e1 e2
    go_enter Try.func155, Try.ntmps155
    go_wp2_with (go_at_call 90; refine (F_any _ _ _).mono ?_; rintro e w1 ⟨rfl, rfl⟩)
    go_returns
    exact ⟨rfl, by go_grown⟩
  by_cases h2 : 64 < w_
  · have e1 : bfc n at_ w_ = 6 := by unfold bfc; rw [if_pos (by omega)]
    have e2 : bfa n at_ w_ = -1 := by unfold bfa; rw [if_pos (by omega)]
    rw [e1, e2]; clear e1 e2
    go_enter Try.func155, Try.ntmps155
    go_wp2_with (go_at_call 90; refine (F_any _ _ _).mono ?_; rintro e w1 ⟨rfl, rfl⟩)
    go_returns
    exact ⟨rfl, by go_grown⟩
  by_cases h3 : at_ < 0
  · have e1 : bfc n at_ w_ = 1 := by unfold bfc; rw [if_neg (by omega), if_pos (by omega)]
    have e2 : bfa n at_ w_ = -1 := by unfold bfa; rw [if_neg (by omega), if_pos (by omega)]
    rw [e1, e2]; clear e1 e2
    go_enter Try.func155, Try.ntmps155
    go_wp2_with (go_at_call 90; refine (F_any _ _ _).mono ?_; rintro e w1 ⟨rfl, rfl⟩)
    go_returns
    exact ⟨rfl, by go_grown⟩
  by_cases h4 : 8 * (n : Int) < at_
  · have e1 : bfc n at_ w_ = 1 := by unfold bfc; rw [if_neg (by omega), if_pos (by omega)]
    have e2 : bfa n at_ w_ = -1 := by unfold bfa; rw [if_neg (by omega), if_pos (by omega)]
    rw [e1, e2]; clear e1 e2
    go_enter Try.func155, Try.ntmps155
    go_wp2_with (go_at_call 90; refine (F_any _ _ _).mono ?_; rintro e w1 ⟨rfl, rfl⟩)
    go_returns
    exact ⟨rfl, by go_grown⟩
  by_cases h5 : 8 * (n : Int) - at_ < w_
  · have e1 : bfc n at_ w_ = 1 := by unfold bfc; rw [if_neg (by omega), if_pos (by omega)]
    have e2 : bfa n at_ w_ = -1 := by unfold bfa; rw [if_neg (by omega), if_pos (by omega)]
    rw [e1, e2]; clear e1 e2
    go_enter Try.func155, Try.ntmps155
    go_wp2_with (go_at_call 90; refine (F_any _ _ _).mono ?_; rintro e w1 ⟨rfl, rfl⟩)
    go_returns
    exact ⟨rfl, by go_grown⟩
  · have e1 : bfc n at_ w_ = 0 := by unfold bfc; rw [if_neg (by omega), if_neg (by omega)]
    have e2 : bfa n at_ w_ = 0 := by unfold bfa; rw [if_neg (by omega), if_neg (by omega)]
    rw [e1, e2]; clear e1 e2
    go_enter Try.func155, Try.ntmps155
    go_wp2_with (go_at_call 90; refine (F_any _ _ _).mono ?_; rintro e w1 ⟨rfl, rfl⟩)
    go_returns
    exact ⟨rfl, by go_grown⟩

theorem bitsNum_any (ao : Option Addr) (n cap : Nat) (xs : List Int) (w : World) (hr : Rd w .u8 ao n cap xs) (hn : n ≤ 64) (hb : Bits (el xs)) :
    Calls Try.prog 102 #[.slice ao n cap] w fun e w' => e = .returned (.int .u64 (acc (el xs) n)) ∧ w = w' := by
  obtain rfl := hr.len
  go_enter Try.func102, Try.ntmps102
  go_wp2_with fail
  go_loop [3, 4] (fun v i => ∃ k : Nat, k ≤ xs.length ∧ i = .int .i64 k ∧ v = .int .u64 (acc (el xs) k)) (fun _ i => xs.length - (intOf i).toNat)
  case atStart => exact ⟨0, Nat.zero_le _, rfl, rfl⟩
  case round =>
    obtain ⟨k, hk, rfl, rfl⟩ := hrel
    by_cases hl : k < xs.length
    · obtain ⟨b, off, rfl, hc⟩ := hr.here (by omega)
      have hck := hc k hl
      have h1 := acc_u64 _ hb k (by omega)
      have h2 := hb k
      have hs : acc (el xs) (k + 1) = 2 * acc (el xs) k + el xs k := rfl
      have Hs := Lib.hid hs
      clear hc hs hb
      go_wp2_with fail
      go_round
      case rel => exact ⟨k + 1, by omega, by go_num, by rw [Hs.out]⟩
      case measure => simp [intOf]; omega
    · obtain rfl : k = xs.length := by omega
      clear hb
      go_wp2_with fail
      go_ret
      exact ⟨rfl, rfl⟩

theorem two_pow_pos (d : Nat) : (0 : Int) < 2 ^ d := Int.pow_pos (by omega)
theorem and_one_shift (v : Int) (h0 : 0 ≤ v) (h1 : v ≤ 18446744073709551615) (d : Nat) : bits .and .u64 (v / 2 ^ d) 1 = v / 2 ^ d % 2 := by
  have h2 : 0 ≤ v / 2 ^ d := Int.ediv_nonneg h0 (Int.le_of_lt (two_pow_pos d))
  have h3 : v / 2 ^ d ≤ v := Int.ediv_le_self _ h0
  exact and_one_u64 _ h2 (by omega)

theorem numBits_any (v : Int) (n : Nat) (w : World) (h0 : 0 ≤ v) (h1 : v ≤ 18446744073709551615) (hn : n ≤ 64) :
    Calls Try.prog 108 #[.int .u64 v, .int .i64 n] w fun e w' => ∃ r, e = .returned r ∧ Mine w' w.heap.size 5 .u8 r (numB v n) ∧ Below w.heap.size w w' := by
  go_enter Try.func108, Try.ntmps108
  go_wp2_with fail
  go_loopw [5, 6] (fun r i wr => ∃ c : Nat, c ≤ n ∧ i = .int .i64 ((n : Int) - 1 - c) ∧ Mine wr w.heap.size 5 .u8 r (mk (nbit v n) c) ∧ Below w.heap.size w wr) (fun _ i _ => (intOf i + 1).toNat)
  case atStart => exact ⟨0, Nat.zero_le _, by go_num, Mine.nil _ _ _ _, Below.refl _ _⟩
  case round =>
    obtain ⟨c, hc, rfl, hm, hb⟩ := hrel
    by_cases hl : c < n
    · have hcode : bits .and .u64 (v / 2 ^ (n - 1 - c)) 1 = nbit v n c := and_one_shift v h0 h1 (n - 1 - c)
      have hrg := nbit_range v n c
      go_wp2_with (at_builtin; refine wpList_append_one rfl _ _ 77 rfl sty_bytes w.heap.size rfl hm rfl (by simp) (Fits.of_u8 (by omega) (by omega)) (by rw [mk_length]; omega) (by omega) hb.size ?_; intro r' w2 hm2 hb2)
      go_roundw
      case rel => exact ⟨c + 1, by omega, by go_num, by rw [mk_succ]; exact hm2, hb.trans hb2⟩
      case measure => simp [intOf]; omega
    · obtain rfl : c = n := by omega
      go_wp2_with fail
      go_ret
      exact ⟨_, rfl, hm, hb⟩

end Go.Proofs.Ytfakdapglbgokaa

/-
  Package bits and its references, second part: what each function computes. No condition.
-/
namespace Go.Proofs.Ytfakdapglbgokaa
set_option linter.all false
open Go.RowKit

theorem and_one_byte (x : Int) (h0 : 0 ≤ x) (h1 : x ≤ 255) (d : Nat) : bits .and .u8 (x / 2 ^ d) 1 = x / 2 ^ d % 2 := by
  have h2 : 0 ≤ x / 2 ^ d := Int.ediv_nonneg h0 (Int.le_of_lt (two_pow_pos d))
  have h3 : x / 2 ^ d ≤ x := Int.ediv_le_self _ h0
  obtain ⟨k, hk⟩ := Int.eq_ofNat_of_zero_le h2
  rw [hk, show (1 : Int) = ((1 : Nat) : Int) from rfl, u8_and_nat k 1 (by omega) (by omega), nat_mask1]
  omega

theorem bitsOf_any (ao : Option Addr) (n cap : Nat) (xs : List Int) (w : World) (hr : Rd w .u8 ao n cap xs) (hn : n ≤ 1000000) :
    Calls Try.prog 103 #[.slice ao n cap] w fun e w' => ∃ r, e = .returned r ∧ Mine w' w.heap.size 5 .u8 r (bitsL xs) ∧ Below w.heap.size w w' := by
  obtain rfl := hr.len
  go_enter Try.func103, Try.ntmps103
  go_wp2_with fail
  go_loopw [3, 4, 5] (fun r i _ wr => ∃ c : Nat, c ≤ xs.length ∧ i = .int .i64 c ∧ Mine wr w.heap.size 5 .u8 r (mk (bitAt xs) (8 * c)) ∧ Below w.heap.size w wr) (fun _ i _ _ => xs.length - (intOf i).toNat)
  case atStart => exact ⟨0, Nat.zero_le _, rfl, Mine.nil _ _ _ _, Below.refl _ _⟩
  case round =>
    obtain ⟨c, hc, rfl, hm, hb⟩ := hrel
    by_cases hl : c < xs.length
    · obtain ⟨b, off, rfl, hc'⟩ := (hr.below hb).here (by omega)
      have hck := hc' c hl
      have hx := hr.fit.el_u8 c
      clear hc'
      obtain ⟨wo, rfl⟩ : ∃ wo : World, wo = wr := ⟨_, rfl⟩
      go_wp2_with fail
      go_loopw [3, 5] (fun r k wi => ∃ t : Nat, t ≤ 8 ∧ k = .int .i64 (7 - (t : Int)) ∧ Mine wi w.heap.size 5 .u8 r (mk (bitAt xs) (8 * c + t)) ∧ Below w.heap.size w wi) (fun _ k _ => (intOf k + 1).toNat)
      case atStart => exact ⟨0, by omega, by go_num, hm, hb⟩
      case round =>
        obtain ⟨t, ht, rfl, hmi, hbi⟩ := hrel
        by_cases hl2 : t < 8
        · have hcode : bits .and .u8 (el xs c / 2 ^ (7 - t)) 1 = bit (el xs c) t := and_one_byte _ hx.1 hx.2 (7 - t)
          have hrg := bit_range (el xs c) t
          have hck2 := (hr.below hbi).here (by omega)
          obtain ⟨b', off', e', hc2⟩ := hck2
          cases e'
          have hck2 := hc2 c hl
          have hbt : bitAt xs (8 * c + t) = bit (el xs c) t := by unfold bitAt; rw [show (8 * c + t) / 8 = c from by omega, show (8 * c + t) % 8 = t from by omega]
          have Hbt := Lib.hid hbt
          clear hc2 hbt
          go_wp2_with (at_builtin; refine wpList_append_one rfl _ _ 77 rfl sty_bytes w.heap.size rfl hmi rfl (by simp) (Fits.of_u8 (by omega) (by omega)) (by rw [mk_length]; omega) (by omega) hbi.size ?_; intro r' w2 hm2 hb2)
          go_roundw
          case rel => exact ⟨t + 1, by omega, by go_num, by rw [← Nat.add_assoc, mk_succ, Hbt.out]; exact hm2, hbi.trans hb2⟩
          case measure => simp [intOf]; omega
        · obtain rfl : t = 8 := by omega
          go_wp2_with fail
          go_roundw
          case rel => exact ⟨c + 1, by omega, by go_num, hmi, hbi⟩
          case measure => simp [intOf]; omega
    · obtain rfl : c = xs.length := by omega
      go_wp2_with fail
      go_ret
      exact ⟨_, rfl, hm, hb⟩

theorem bytesOf_any (ao : Option Addr) (n cap : Nat) (xs : List Int) (w : World) (hr : Rd w .u8 ao n cap xs) (hn : n ≤ 10000000) (hbits : Bits (el xs)) :
    Calls Try.prog 107 #[.slice ao n cap] w fun e w' => ∃ r, e = .returned r ∧ Mine w' w.heap.size 5 .u8 r (bytesF (el xs) ((n + 7) / 8)) ∧ Below w.heap.size w w' := by
  obtain rfl := hr.len
  go_enter Try.func107, Try.ntmps107
  go_wp2_with fail
  go_loopw [3, 4, 5, 6] (fun r i _ _ wr => ∃ c : Nat, c ≤ (xs.length + 7) / 8 ∧ i = .int .i64 (8 * (c : Int)) ∧ Mine wr w.heap.size 5 .u8 r (bytesF (el xs) c) ∧ Below w.heap.size w wr) (fun _ i _ _ _ => xs.length + 7 - (intOf i).toNat)
  case atStart => exact ⟨0, Nat.zero_le _, by go_num, Mine.nil _ _ _ _, Below.refl _ _⟩
  case round =>
    obtain ⟨c, hc, rfl, hm, hb⟩ := hrel
    by_cases hl : 8 * c < xs.length
    · obtain ⟨wo, rfl⟩ : ∃ wo : World, wo = wr := ⟨_, rfl⟩
      go_wp2_with fail
      go_loop [5, 6] (fun x k => ∃ t : Nat, t ≤ 8 ∧ k = .int .i64 t ∧ x = .int .u8 (acc (fun j => el xs (8 * c + j)) t)) (fun _ k => 8 - (intOf k).toNat)
      case atStart => exact ⟨0, by omega, rfl, rfl⟩
      case round =>
        obtain ⟨t, ht, rfl, rfl⟩ := hrel
        by_cases hl2 : t < 8
        · have hx := acc_u8 (fun j => el xs (8 * c + j)) (fun j => hbits _) t hl2
          have hx2 := hbits (8 * c + t)
          have hs : acc (fun j => el xs (8 * c + j)) (t + 1) = 2 * acc (fun j => el xs (8 * c + j)) t + el xs (8 * c + t) := rfl
          have Hs := Lib.hid hs
          clear hs hbits
          generalize acc (fun j => el xs (8 * c + j)) t = x at *
          by_cases hl3 : 8 * c + t < xs.length
          · obtain ⟨b, off, rfl, hc'⟩ := (hr.below hb).here (by omega)
            have hck := hc' (8 * c + t) hl3
            clear hc'
            go_wp2_with fail
            go_round
            case rel => exact ⟨t + 1, by omega, by go_num, by rw [Hs.out]; go_num⟩
            case measure => simp [intOf]; omega
          · have hz := Lib.hid (el_out xs (8 * c + t) (by omega))
            go_wp2_with fail
            go_round
            case rel => exact ⟨t + 1, by omega, by go_num, by rw [Hs.out, hz.out]; go_num⟩
            case measure => simp [intOf]; omega
        · obtain rfl : t = 8 := by omega
          have hrg := byteF_range (el xs) hbits c
          have hbf := byteF_acc (el xs) c
          rw [← hbf]
          clear hbf hbits
          go_wp2_with (at_builtin; refine wpList_append_one rfl _ _ 77 rfl sty_bytes w.heap.size rfl hm rfl (by simp) (Fits.of_u8 (by omega) (by omega)) (by rw [bytesF_length]; omega) (by omega) hb.size ?_; intro r' w2 hm2 hb2)
          go_roundw
          case rel => exact ⟨c + 1, by omega, by go_num, by unfold bytesF; rw [mk_succ]; exact hm2, hb.trans hb2⟩
          case measure => simp [intOf]; omega
    · obtain rfl : c = (xs.length + 7) / 8 := by omega
      clear hbits
      go_wp2_with fail
      go_ret
      exact ⟨_, rfl, hm, hb⟩

theorem Clone_bytes_any (ao : Option Addr) (n cap : Nat) (xs : List Int) (w : World) (hr : Rd w .u8 ao n cap xs) (hn : n ≤ 1000000) :
    Calls Try.prog 156 #[.slice ao n cap] w fun e w' => ∃ r, e = .returned r ∧ Mine w' w.heap.size 5 .u8 r xs ∧ Below w.heap.size w w' := by
  have hq := fun w : World => Lib.run_eql_slice_nil (P := Try.prog) w 77 5 ao n cap 0 0 Try.underlying77
  cases ao with
  | none =>
    have h0 := hr.nil rfl
    have h1 := hr.le
    have h2 := hr.len
    obtain rfl : cap = 0 := h0
    obtain rfl : n = 0 := by omega
    obtain rfl : xs = [] := List.eq_nil_of_length_eq_zero h2
    go_enter Try.func156, Try.ntmps156
    go_wp2_with fail
    go_ret
    exact ⟨_, rfl, Mine.nil _ _ _ _, Below.refl _ _⟩
  | some a =>
    have hr' : Rd (w.alloc (.cells #[] 5)) .u8 (some a) n cap xs := hr.below ((Below.refl _ _).alloc (Nat.le_refl _) _)
    have hm : Mine (w.alloc (.cells #[] 5)) w.heap.size 5 .u8 (.slice (some ⟨w.heap.size, 0, none⟩) 0 0) [] := ⟨World.ownsRow_made w #[] 0 (Nat.le_refl _) (by simp [maxLen]) rfl, by simp [AllFit]⟩
    go_enter Try.func156, Try.ntmps156
    go_wp2_with (at_builtin; refine wpList_append_rd (v := .slice (some ⟨w.heap.size, 0, none⟩) 0 0) (xs := []) rfl _ _ 77 rfl sty_bytes w.heap.size rfl hm rfl hr' (by simp; omega) (by omega) (by simp) ?_; intro r' w2 hm2 hg2)
    go_ret
    exact ⟨_, rfl, hm2, ((Below.refl _ _).alloc (Nat.le_refl _) _).grown hg2 (by simp) (by simp [Value.ownBlock])⟩

/-- A block of two cells, laid ahead of a call that turns nothing that was there. -/
theorem two_facts {w w1 : World} {x y : Value} {t : TypeId} (hb : Below (w.alloc (.cells #[x, y] t)).heap.size (w.alloc (.cells #[x, y] t)) w1) :
    w1.cell? ⟨w.heap.size, 0, none⟩ = some x ∧ w1.cell? ⟨w.heap.size, 1, none⟩ = some y ∧ w1.frozen? ⟨w.heap.size, 0, none⟩ = false ∧ w1.frozen? ⟨w.heap.size, 1, none⟩ = false ∧ w.heap.size < w1.heap.size ∧ Below w.heap.size w w1 := by
  have hs : w.heap.size < (w.alloc (.cells #[x, y] t)).heap.size := by simp
  have hh : (w.alloc (.cells #[x, y] t)).heap[w.heap.size]? = some (.cells #[x, y] t) := heap_alloc_new w _
  have hh1 : w1.heap[w.heap.size]? = some (.cells #[x, y] t) := (hb.block _ hs).trans hh
  refine ⟨?_, ?_, ?_, ?_, Nat.lt_of_lt_of_le hs hb.size, ((Below.refl _ _).alloc (Nat.le_refl _) _).trans (hb.mono (Nat.le_of_lt hs))⟩
  · rw [cell_of_row w1 _ 0 _ t (0, 0) hh1]; rfl
  · rw [cell_of_row w1 _ 1 _ t (0, 0) hh1]; rfl
  · simp [World.frozen?, hh1]
  · simp [World.frozen?, hh1]

theorem Get_bad (ao : Option Addr) (n cap : Nat) (at_ w_ : Int) (w : World) (hn : n ≤ 1000000) (ha : -9223372036854775808 ≤ at_ ∧ at_ ≤ 9223372036854775807) (hw : -9223372036854775808 ≤ w_ ∧ w_ ≤ 9223372036854775807) (hbad : (bfc n at_ w_ != 0) = true) :
    Calls Try.prog 136 #[.slice ao n cap, .int .i64 at_, .int .i64 w_] w fun e w' => e = .returned (.tuple #[.int .u64 0, .agg #[.int .i64 (bfc n at_ w_), .int .i64 (bfa n at_ w_)]]) ∧ Below w.heap.size w w' := by
  go_enter Try.func136, Try.ntmps136
  go_wp2_with (go_at_call 154; refine (inside_any _ _ _ _ _ _ hn ha hw).mono ?_; rintro e w1 ⟨rfl, hb⟩; obtain ⟨hc0, hc1, hf0, hf1, hz, hB⟩ := two_facts hb)
  go_region
  go_wp2_with fail
  exact bodyPost_ret (v := .tuple #[.int .u64 0, .agg #[.int .i64 (bfc n at_ w_), .int .i64 (bfa n at_ w_)]]) (by simp [results, Try.results136, go_sem, hc0, hc1, hz]) rfl ⟨rfl, by go_grown⟩

theorem getN_code (b : List Int) (hf : AllFit .u8 b) (at_ i w_ : Nat) (hi : i < w_) (hw : w_ ≤ 64) : 
    0 ≤ acc (fun i => bitAt b (at_ + i)) i ∧ acc (fun i => bitAt b (at_ + i)) i ≤ 9223372036854775807 ∧
    acc (fun i => bitAt b (at_ + i)) (i + 1) = 2 * acc (fun i => bitAt b (at_ + i)) i + bit (el b ((at_ + i) / 8)) ((at_ + i) % 8) ∧
    bits .and .u8 (el b ((at_ + i) / 8) / 2 ^ (7 - (at_ + i) % 8)) 1 = bit (el b ((at_ + i) / 8)) ((at_ + i) % 8) := by
  have h := acc_u64 (fun i => bitAt b (at_ + i)) (fun _ => bitAt_range _ _) i (by omega)
  have hx := hf.el_u8 ((at_ + i) / 8)
  exact ⟨h.1, h.2, rfl, and_one_byte _ hx.1 hx.2 _⟩

theorem or_bit (n β : Int) (h0 : 0 ≤ n) (h1 : n ≤ 9223372036854775807) (hb : 0 ≤ β ∧ β ≤ 1) : bits .or .u64 (n * 2) β = 2 * n + β := by
  obtain ⟨a, rfl⟩ := Int.eq_ofNat_of_zero_le h0
  obtain ⟨b, rfl⟩ := Int.eq_ofNat_of_zero_le hb.1
  rw [show (a : Int) * 2 = ((a * 2 : Nat) : Int) from by omega, u64_or_nat _ _ (by omega) (by omega), nat_join 1 (a * 2) b (by omega) (by omega)]
  omega

theorem Get_good (ao : Option Addr) (n cap : Nat) (xs : List Int) (at_ w_ : Nat) (w : World) (hr : Rd w .u8 ao n cap xs) (hn : n ≤ 1000000) (hok : bfc n at_ w_ = 0) (hok2 : bfa n at_ w_ = 0) (hw1 : w_ ≤ 64) (hle : at_ + w_ ≤ 8 * n) :
    Calls Try.prog 136 #[.slice ao n cap, .int .i64 at_, .int .i64 w_] w fun e w' => e = .returned (.tuple #[.int .u64 (getN xs at_ w_), .agg #[.int .i64 0, .int .i64 0]]) ∧ Below w.heap.size w w' := by
  obtain rfl := hr.len
  go_enter Try.func136, Try.ntmps136
  go_wp2_with (go_at_call 154; refine (inside_any _ _ _ _ _ _ hn (by omega) (by omega)).mono ?_; rintro e w1 ⟨rfl, hb⟩; obtain ⟨hc0, hc1, hf0, hf1, hz, hB⟩ := two_facts hb)
  clear hok hok2
  have hb2 := hb.alloc hb.size (.cells #[.int .i64 0, .int .i64 0] 65)
  clear hc0 hc1 hf0 hf1 hz hB
  generalize w1.alloc (.cells #[.int .i64 0, .int .i64 0] 65) = w2 at *
  obtain ⟨hc0, hc1, hf0, hf1, hz, hB⟩ := two_facts hb2
  clear hb2 hb
  go_loop [9, 21] (fun v i => ∃ k : Nat, k ≤ w_ ∧ i = .int .i64 k ∧ v = .int .u64 (acc (fun i => bitAt xs (at_ + i)) k)) (fun _ i => w_ - (intOf i).toNat)
  case atStart => exact ⟨0, Nat.zero_le _, rfl, rfl⟩
  case round =>
    obtain ⟨k, hk, rfl, rfl⟩ := hrel
    by_cases hl : k < w_
    · obtain ⟨h0, h1, h2, h3⟩ := getN_code xs hr.fit at_ k w_ hl hw1
      have hbr := bit_range (el xs ((at_ + k) / 8)) ((at_ + k) % 8)
      obtain ⟨b, off, rfl, hc⟩ := (hr.below hB).here (by omega)
      have hck := hc ((at_ + k) / 8) (by omega)
      have H2 := Lib.hid h2
      have hor := or_bit _ _ h0 h1 hbr
      clear hc h2
      go_wp2_with fail
      go_round
      case rel => exact ⟨k + 1, by omega, by go_num, by rw [H2.out]⟩
      case measure => simp [intOf]; omega
    · obtain rfl : k = w_ := by omega
      go_wp2_with fail
      exact bodyPost_ret (v := .tuple #[.int .u64 (getN xs at_ k), .agg #[.int .i64 0, .int .i64 0]]) (by simp [results, Try.results136, go_sem, hc0, hc1]; rfl) rfl ⟨rfl, by go_grown⟩

end Go.Proofs.Ytfakdapglbgokaa
