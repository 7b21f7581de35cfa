/-
  Package bits and its references, fourth part: Put. No condition.
-/
import Derived.Test.YtfakdapglbgokaaBitsU
namespace Go.Proofs.Ytfakdapglbgokaa
set_option linter.all false
open Go.RowKit

theorem byte_put_nat : ∀ x : Fin 256, ∀ t : Fin 8, ∀ β : Fin 2, ((x.val &&& (255 - 2 ^ (7 - t.val))) ||| (β.val * 2 ^ (7 - t.val))) < 256 ∧ ∀ s : Fin 8, ((x.val &&& (255 - 2 ^ (7 - t.val))) ||| (β.val * 2 ^ (7 - t.val))) / 2 ^ (7 - s.val) % 2 = if s = t then β.val else x.val / 2 ^ (7 - s.val) % 2 := by
  decide +kernel

theorem byte_put (x β : Int) (t : Nat) (hx : 0 ≤ x ∧ x ≤ 255) (hβ : 0 ≤ β ∧ β ≤ 1) (ht : t < 8) :
    (0 ≤ bits .or .u8 (bits .andNot .u8 x (2 ^ (7 - t))) (β * 2 ^ (7 - t)) ∧ bits .or .u8 (bits .andNot .u8 x (2 ^ (7 - t))) (β * 2 ^ (7 - t)) ≤ 255) ∧
    ∀ s, s < 8 → bit (bits .or .u8 (bits .andNot .u8 x (2 ^ (7 - t))) (β * 2 ^ (7 - t))) s = if s = t then β else bit x s := by
  obtain ⟨a, rfl⟩ := Int.eq_ofNat_of_zero_le hx.1
  obtain ⟨b, rfl⟩ := Int.eq_ofNat_of_zero_le hβ.1
  have h := byte_put_nat ⟨a, by omega⟩ ⟨t, ht⟩ ⟨b, by omega⟩
  have hp : 2 ^ (7 - t) ≤ 2 ^ 7 := Nat.pow_le_pow_right (by omega) (by omega)
  have hp' : (2 : Nat) ^ 7 = 128 := rfl
  have e1 : ((2 : Int) ^ (7 - t)) = ((2 ^ (7 - t) : Nat) : Int) := by simp
  have hb2 : b * 2 ^ (7 - t) < 256 := by
    have : b * 2 ^ (7 - t) ≤ 1 * 2 ^ (7 - t) := Nat.mul_le_mul_right _ (by omega)
    omega
  have ha2 : a &&& (255 - 2 ^ (7 - t)) < 256 := Nat.lt_of_le_of_lt Nat.and_le_left (by omega)
  rw [e1, u8_andNot_nat a _ (by omega) (by omega), ← Int.natCast_mul, u8_or_nat _ _ ha2 hb2]
  refine ⟨by have := h.1; simp only at this; omega, fun s hs => ?_⟩
  have h2 := h.2 ⟨s, hs⟩
  simp only [Fin.mk.injEq] at h2
  unfold bit
  have e3 : ((2 : Int) ^ (7 - s)) = ((2 ^ (7 - s) : Nat) : Int) := by simp
  rw [e3, ← Int.natCast_ediv, show (2 : Int) = ((2 : Nat) : Int) from rfl, ← Int.natCast_emod, h2]
  split
  · rfl
  · rw [← Int.natCast_ediv, ← Int.natCast_emod]

/-- The bits of bytes with the first so many bits of a number put in. -/
def putG (b : List Int) (at_ w : Nat) (v : Int) (i k : Nat) : Int := if at_ ≤ k ∧ k < at_ + i then nbit v w (k - at_) else bitAt b k
theorem putG_bits (b : List Int) (at_ w : Nat) (v : Int) (i : Nat) : Bits (putG b at_ w v i) := by
  intro k; unfold putG; split
  · exact nbit_range _ _ _
  · exact bitAt_range _ _
def putO (b : List Int) (at_ w : Nat) (v : Int) (i : Nat) : List Int := bytesF (putG b at_ w v i) b.length
theorem putO_length (b : List Int) (at_ w : Nat) (v : Int) (i : Nat) : (putO b at_ w v i).length = b.length := bytesF_length _ _
theorem putO_fit (b : List Int) (at_ w : Nat) (v : Int) (i : Nat) : AllFit .u8 (putO b at_ w v i) := bytesF_fit _ (putG_bits _ _ _ _ _) _
theorem putO_zero (b : List Int) (hf : AllFit .u8 b) (at_ w : Nat) (v : Int) : putO b at_ w v 0 = b := by
  conv => rhs; rw [← bytesF_bitAt b hf]
  refine bytesF_congr _ _ _ fun k _ => ?_
  unfold putG; rw [if_neg (by omega)]
theorem putO_all (b : List Int) (at_ w : Nat) (v : Int) : putO b at_ w v w = putN b at_ w v := rfl
theorem putO_succ (b : List Int) (at_ w : Nat) (v : Int) (i : Nat) (h : at_ + i < 8 * b.length) :
    put (putO b at_ w v i) ((at_ + i) / 8) (bits .or .u8 (bits .andNot .u8 (el (putO b at_ w v i) ((at_ + i) / 8)) (2 ^ (7 - (at_ + i) % 8))) (nbit v w i * 2 ^ (7 - (at_ + i) % 8))) = putO b at_ w v (i + 1) := by
  have hy := byte_put (el (putO b at_ w v i) ((at_ + i) / 8)) (nbit v w i) ((at_ + i) % 8) ((putO_fit b at_ w v i).el_u8 _) (nbit_range _ _ _) (by omega)
  have hl := putO_length b at_ w v i
  refine bytes_ext ((putO_fit b at_ w v i).put (Fits.of_u8 hy.1.1 hy.1.2) _) (putO_fit _ _ _ _ _) (by rw [put_length, hl, putO_length]) fun k hk => ?_
  rw [put_length, hl] at hk
  rw [show bitAt (putO b at_ w v (i + 1)) k = putG b at_ w v (i + 1) k from bitAt_bytesF _ (putG_bits _ _ _ _ _) _ _ hk]
  have hold : bitAt (putO b at_ w v i) k = putG b at_ w v i k := bitAt_bytesF _ (putG_bits _ _ _ _ _) _ _ hk
  unfold bitAt at hold ⊢
  rw [el_put _ _ _ _ (by rw [hl]; omega)]
  by_cases h1 : k / 8 = (at_ + i) / 8
  · rw [if_pos h1, hy.2 _ (by omega)]
    by_cases h2 : k % 8 = (at_ + i) % 8
    · rw [if_pos h2]
      have hki : k = at_ + i := by omega
      unfold putG
      rw [if_pos (by omega), show k - at_ = i from by omega]
    · rw [if_neg h2, ← h1, hold]
      unfold putG
      by_cases h3 : at_ ≤ k ∧ k < at_ + i
      · rw [if_pos h3, if_pos (by omega)]
      · rw [if_neg h3, if_neg (by omega)]
  · rw [if_neg h1, hold]
    unfold putG
    by_cases h3 : at_ ≤ k ∧ k < at_ + i
    · rw [if_pos h3, if_pos (by omega)]
    · rw [if_neg h3, if_neg (by omega)]

theorem Put_good (ao : Option Addr) (n cap : Nat) (xs : List Int) (at_ w_ : Nat) (v : Int) (w : World) (hr : Rd w .u8 ao n cap xs) (hn : n ≤ 1000000) (hv0 : 0 ≤ v) (hv1 : v ≤ 18446744073709551615) (hok : bfc n at_ w_ = 0) (hok2 : bfa n at_ w_ = 0) (hw0 : 1 ≤ w_) (hw1 : w_ ≤ 64) (hle : at_ + w_ ≤ 8 * n) :
    Calls Try.prog 138 #[.slice ao n cap, .int .i64 at_, .int .i64 w_, .int .u64 v] w fun e w' => ∃ r, e = .returned (.tuple #[r, .agg #[.int .i64 0, .int .i64 0]]) ∧ Mine w' w.heap.size 5 .u8 r (putN xs at_ w_ v) ∧ Below w.heap.size w w' := by
  obtain rfl := hr.len
  go_enter Try.func138, Try.ntmps138
  go_wp2_with (go_at_call 154; refine (inside_any _ _ _ _ _ _ hn (by omega) (by omega)).mono ?_; rintro e w1 ⟨rfl, hb⟩; obtain ⟨hc0, hc1, hf0, hf1, hz, hB⟩ := two_facts hb)
  clear hok hok2
  have hb2 := hb.alloc hb.size (.cells #[.int .i64 0, .int .i64 0] 65)
  clear hc0 hc1 hf0 hf1 hz hB
  generalize w1.alloc (.cells #[.int .i64 0, .int .i64 0] 65) = w2 at *
  obtain ⟨_, _, _, _, hz2, hB⟩ := two_facts hb2
  refine (Clone_bytes_any _ _ _ _ _ (hr.below hB) hn).mono ?_
  rintro e w3 ⟨r, rfl, hm, hb3⟩
  have hb3' := hb2.trans (hb3.mono hb2.size)
  have hgt : w.heap.size < w2.heap.size := hz2
  have hp0 := putO_zero xs hr.fit at_ w_ v
  rw [← hp0] at hm
  clear hp0 hb3 hb2 hb hr
  obtain ⟨g, cap2, rfl, hg1, hg2⟩ := hm.at_ (by rw [putO_length]; omega)
  rw [putO_length] at *
  go_wp2_with fail
  go_loopw [26] (fun i wr => ∃ k : Nat, k ≤ w_ ∧ i = .int .i64 k ∧ Mine wr w2.heap.size 5 .u8 (.slice (some ⟨g, 0, none⟩) xs.length cap2) (putO xs at_ w_ v k) ∧ Below (w.alloc (.cells #[.int .i64 0, .int .i64 0] 65)).heap.size (w.alloc (.cells #[.int .i64 0, .int .i64 0] 65)) wr) (fun i _ => w_ - (intOf i).toNat)
  case atStart => exact ⟨0, Nat.zero_le _, rfl, hm, hb3'⟩
  case round =>
    clear hm hb3'
    obtain ⟨k, hk, rfl, hm, hbr⟩ := hrel
    have hl := putO_length xs at_ w_ v k
    by_cases hlt : k < w_
    · obtain ⟨hc, hf⟩ := hm.cell (i := (at_ + k) / 8) (by rw [hl]; omega)
      have hcode : bits .and .u64 (v / 2 ^ (w_ - 1 - k)) 1 = nbit v w_ k := and_one_shift v hv0 hv1 (w_ - 1 - k)
      have hnb := nbit_range v w_ k
      have hS := Lib.hid (putO_succ xs at_ w_ v k (by omega))
      have hp1 := two_pow_pos (7 - (at_ + k) % 8)
      have hp2 : (2 : Int) ^ (7 - (at_ + k) % 8) ≤ 128 := two_pow_mono (show 7 - (at_ + k) % 8 ≤ 7 by omega)
      have hsh : 0 ≤ nbit v w_ k * 2 ^ (7 - (at_ + k) % 8) ∧ nbit v w_ k * 2 ^ (7 - (at_ + k) % 8) ≤ 255 := by
        rcases (show nbit v w_ k = 0 ∨ nbit v w_ k = 1 by omega) with h | h <;> rw [h] <;> omega
      have hy := (byte_put (el (putO xs at_ w_ v k) ((at_ + k) / 8)) (nbit v w_ k) ((at_ + k) % 8) ((putO_fit xs at_ w_ v k).el_u8 _) hnb (by omega)).1
      have hm2 := hm.set ((at_ + k) / 8) (Fits.of_u8 hy.1 hy.2)
      rw [hS.out] at hm2
      clear hl hy
      go_wp2_with fail
      go_region
      go_wp2_with fail
      go_roundw
      case rel => exact ⟨k + 1, by omega, by go_num, hm2.drew, (hbr.setCell (by simp; omega) _).drew⟩
      case measure => simp [intOf]; omega
    · obtain rfl : k = w_ := by omega
      obtain ⟨hc0, hc1, hf0, hf1, hz, hB⟩ := two_facts hbr
      clear hl
      go_wp2_with fail
      exact bodyPost_ret (v := .tuple #[.slice (some ⟨g, 0, none⟩) xs.length cap2, .agg #[.int .i64 0, .int .i64 0]]) (by simp [results, Try.results138, go_sem, hc0, hc1]) rfl
        ⟨_, rfl, ((hm.setLow hgt _).setLow hgt _).base_le (Nat.le_of_lt hgt), by go_grown⟩

end Go.Proofs.Ytfakdapglbgokaa
