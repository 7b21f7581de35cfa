/-
  Package bits and its references, second part: what each function computes. No condition.
-/
import Derived.Test.YtfakdapglbgokaaBitsW
import Derived.WalkSpells
import Derived.RegionTactic
import Derived.BigRegion
namespace Go.Proofs.Ytfakdapglbgokaa
set_option linter.all false
open Go.RowKit

theorem and_one_byte (x : Int) (h0 : 0 ≤ x) (h1 : x ≤ 255) (d : Nat) : bits .and .u8 (x / 2 ^ d) 1 = x / 2 ^ d % 2 := by
  have h2 : 0 ≤ x / 2 ^ d := Int.ediv_nonneg h0 (Int.le_of_lt (two_pow_pos d))
  have h3 : x / 2 ^ d ≤ x := Int.ediv_le_self _ h0
  obtain ⟨k, hk⟩ := Int.eq_ofNat_of_zero_le h2
  rw [hk, show (1 : Int) = ((1 : Nat) : Int) from rfl, u8_and_nat k 1 (by omega) (by omega), nat_mask1]
  omega

theorem bitsOf_any (ao : Option Addr) (n cap : Nat) (xs : List Int) (w : World) (hr : Rd w .u8 ao n cap xs) (hn : n ≤ 1000000) :
    Calls Try.prog 103 #[.slice ao n cap] w fun e w' => ∃ r, e = .returned r ∧ Mine w' w.heap.size 5 .u8 r (bitsL xs) ∧ Below w.heap.size w w' := by
  obtain rfl := hr.len
  go_enter Try.func103, Try.ntmps103
  go_wp2_with fail
  go_loopw [3, 4, 5] (fun r i _ wr => ∃ c : Nat, c ≤ xs.length ∧ i = .int .i64 c ∧ Mine wr w.heap.size 5 .u8 r (mk (bitAt xs) (8 * c)) ∧ Below w.heap.size w wr) (fun _ i _ _ => xs.length - (intOf i).toNat)
  case atStart => exact ⟨0, Nat.zero_le _, rfl, Mine.nil _ _ _ _, Below.refl _ _⟩
  case round =>
    obtain ⟨c, hc, rfl, hm, hb⟩ := hrel
    by_cases hl : c < xs.length
    · obtain ⟨b, off, rfl, hc'⟩ := (hr.below hb).here (by omega)
      have hck := hc' c hl
      have hx := hr.fit.el_u8 c
      clear hc'
      obtain ⟨wo, rfl⟩ : ∃ wo : World, wo = wr := ⟨_, rfl⟩
      go_wp2_with fail
      go_loopw [3, 5] (fun r k wi => ∃ t : Nat, t ≤ 8 ∧ k = .int .i64 (7 - (t : Int)) ∧ Mine wi w.heap.size 5 .u8 r (mk (bitAt xs) (8 * c + t)) ∧ Below w.heap.size w wi) (fun _ k _ => (intOf k + 1).toNat)
      case atStart => exact ⟨0, by omega, by go_num, hm, hb⟩
      case round =>
        obtain ⟨t, ht, rfl, hmi, hbi⟩ := hrel
        by_cases hl2 : t < 8
        · have hcode : bits .and .u8 (el xs c / 2 ^ (7 - t)) 1 = bit (el xs c) t := and_one_byte _ hx.1 hx.2 (7 - t)
          have hrg := bit_range (el xs c) t
          have hck2 := (hr.below hbi).here (by omega)
          obtain ⟨b', off', e', hc2⟩ := hck2
          cases e'
          have hck2 := hc2 c hl
          have hbt : bitAt xs (8 * c + t) = bit (el xs c) t := by unfold bitAt; rw [show (8 * c + t) / 8 = c from by omega, show (8 * c + t) % 8 = t from by omega]
          have Hbt := Lib.hid hbt
          clear hc2 hbt
          go_wp2_with (at_builtin; refine wpList_append_one rfl _ _ 77 rfl sty_bytes w.heap.size rfl hmi rfl (by simp) (Fits.of_u8 (by omega) (by omega)) (by rw [mk_length]; omega) (by omega) hbi.size ?_; intro r' w2 hm2 hb2)
          go_roundw
          case rel => exact ⟨t + 1, by omega, by go_num, by rw [← Nat.add_assoc, mk_succ, Hbt.out]; exact hm2, hbi.trans hb2⟩
          case measure => simp [intOf]; omega
        · obtain rfl : t = 8 := by omega
          go_wp2_with fail
          go_roundw
          case rel => exact ⟨c + 1, by omega, by go_num, hmi, hbi⟩
          case measure => simp [intOf]; omega
    · obtain rfl : c = xs.length := by omega
      go_wp2_with fail
      go_ret
      exact ⟨_, rfl, hm, hb⟩

theorem bytesOf_any (ao : Option Addr) (n cap : Nat) (xs : List Int) (w : World) (hr : Rd w .u8 ao n cap xs) (hn : n ≤ 10000000) (hbits : Bits (el xs)) :
    Calls Try.prog 107 #[.slice ao n cap] w fun e w' => ∃ r, e = .returned r ∧ Mine w' w.heap.size 5 .u8 r (bytesF (el xs) ((n + 7) / 8)) ∧ Below w.heap.size w w' := by
  obtain rfl := hr.len
  go_enter Try.func107, Try.ntmps107
  go_wp2_with fail
  go_loopw [3, 4, 5, 6] (fun r i _ _ wr => ∃ c : Nat, c ≤ (xs.length + 7) / 8 ∧ i = .int .i64 (8 * (c : Int)) ∧ Mine wr w.heap.size 5 .u8 r (bytesF (el xs) c) ∧ Below w.heap.size w wr) (fun _ i _ _ _ => xs.length + 7 - (intOf i).toNat)
  case atStart => exact ⟨0, Nat.zero_le _, by go_num, Mine.nil _ _ _ _, Below.refl _ _⟩
  case round =>
    obtain ⟨c, hc, rfl, hm, hb⟩ := hrel
    by_cases hl : 8 * c < xs.length
    · obtain ⟨wo, rfl⟩ : ∃ wo : World, wo = wr := ⟨_, rfl⟩
      go_wp2_with fail
      go_loop [5, 6] (fun x k => ∃ t : Nat, t ≤ 8 ∧ k = .int .i64 t ∧ x = .int .u8 (acc (fun j => el xs (8 * c + j)) t)) (fun _ k => 8 - (intOf k).toNat)
      case atStart => exact ⟨0, by omega, rfl, rfl⟩
      case round =>
        obtain ⟨t, ht, rfl, rfl⟩ := hrel
        by_cases hl2 : t < 8
        · have hx := acc_u8 (fun j => el xs (8 * c + j)) (fun j => hbits _) t hl2
          have hx2 := hbits (8 * c + t)
          have hs : acc (fun j => el xs (8 * c + j)) (t + 1) = 2 * acc (fun j => el xs (8 * c + j)) t + el xs (8 * c + t) := rfl
          have Hs := Lib.hid hs
          clear hs hbits
          generalize acc (fun j => el xs (8 * c + j)) t = x at *
          by_cases hl3 : 8 * c + t < xs.length
          · obtain ⟨b, off, rfl, hc'⟩ := (hr.below hb).here (by omega)
            have hck := hc' (8 * c + t) hl3
            clear hc'
            go_wp2_with fail
            go_round
            case rel => exact ⟨t + 1, by omega, by go_num, by rw [Hs.out]; go_num⟩
            case measure => simp [intOf]; omega
          · have hz := Lib.hid (el_out xs (8 * c + t) (by omega))
            go_wp2_with fail
            go_round
            case rel => exact ⟨t + 1, by omega, by go_num, by rw [Hs.out, hz.out]; go_num⟩
            case measure => simp [intOf]; omega
        · obtain rfl : t = 8 := by omega
          have hrg := byteF_range (el xs) hbits c
          have hbf := byteF_acc (el xs) c
          rw [← hbf]
          clear hbf hbits
          go_wp2_with (at_builtin; refine wpList_append_one rfl _ _ 77 rfl sty_bytes w.heap.size rfl hm rfl (by simp) (Fits.of_u8 (by omega) (by omega)) (by rw [bytesF_length]; omega) (by omega) hb.size ?_; intro r' w2 hm2 hb2)
          go_roundw
          case rel => exact ⟨c + 1, by omega, by go_num, by unfold bytesF; rw [mk_succ]; exact hm2, hb.trans hb2⟩
          case measure => simp [intOf]; omega
    · obtain rfl : c = (xs.length + 7) / 8 := by omega
      clear hbits
      go_wp2_with fail
      go_ret
      exact ⟨_, rfl, hm, hb⟩

theorem Clone_bytes_any (ao : Option Addr) (n cap : Nat) (xs : List Int) (w : World) (hr : Rd w .u8 ao n cap xs) (hn : n ≤ 1000000) :
    Calls Try.prog 156 #[.slice ao n cap] w fun e w' => ∃ r, e = .returned r ∧ Mine w' w.heap.size 5 .u8 r xs ∧ Below w.heap.size w w' := by
  have hq := fun w : World => Lib.run_eql_slice_nil (P := Try.prog) w 77 5 ao n cap 0 0 Try.underlying77
  cases ao with
  | none =>
    have h0 := hr.nil rfl
    have h1 := hr.le
    have h2 := hr.len
    obtain rfl : cap = 0 := h0
    obtain rfl : n = 0 := by omega
    obtain rfl : xs = [] := List.eq_nil_of_length_eq_zero h2
    go_enter Try.func156, Try.ntmps156
    go_wp2_with fail
    go_ret
    exact ⟨_, rfl, Mine.nil _ _ _ _, Below.refl _ _⟩
  | some a =>
    have hr' : Rd (w.alloc (.cells #[] 5)) .u8 (some a) n cap xs := hr.below ((Below.refl _ _).alloc (Nat.le_refl _) _)
    have hm : Mine (w.alloc (.cells #[] 5)) w.heap.size 5 .u8 (.slice (some ⟨w.heap.size, 0, none⟩) 0 0) [] := ⟨World.ownsRow_made w #[] 0 (Nat.le_refl _) (by simp [maxLen]) rfl, by simp [AllFit]⟩
    go_enter Try.func156, Try.ntmps156
    go_wp2_with (at_builtin; refine wpList_append_rd (v := .slice (some ⟨w.heap.size, 0, none⟩) 0 0) (xs := []) rfl _ _ 77 rfl sty_bytes w.heap.size rfl hm rfl hr' (by simp; omega) (by omega) (by simp) ?_; intro r' w2 hm2 hg2)
    go_ret
    exact ⟨_, rfl, hm2, ((Below.refl _ _).alloc (Nat.le_refl _) _).grown hg2 (by simp) (by simp [Value.ownBlock])⟩

/-- A block of two cells, laid ahead of a call that turns nothing that was there. -/
theorem two_facts {w w1 : World} {x y : Value} {t : TypeId} (hb : Below (w.alloc (.cells #[x, y] t)).heap.size (w.alloc (.cells #[x, y] t)) w1) :
    w1.cell? ⟨w.heap.size, 0, none⟩ = some x ∧ w1.cell? ⟨w.heap.size, 1, none⟩ = some y ∧ w1.frozen? ⟨w.heap.size, 0, none⟩ = false ∧ w1.frozen? ⟨w.heap.size, 1, none⟩ = false ∧ w.heap.size < w1.heap.size ∧ Below w.heap.size w w1 := by
  have hs : w.heap.size < (w.alloc (.cells #[x, y] t)).heap.size := by simp
  have hh : (w.alloc (.cells #[x, y] t)).heap[w.heap.size]? = some (.cells #[x, y] t) := heap_alloc_new w _
  have hh1 : w1.heap[w.heap.size]? = some (.cells #[x, y] t) := (hb.block _ hs).trans hh
  refine ⟨?_, ?_, ?_, ?_, Nat.lt_of_lt_of_le hs hb.size, ((Below.refl _ _).alloc (Nat.le_refl _) _).trans (hb.mono (Nat.le_of_lt hs))⟩
  · rw [cell_of_row w1 _ 0 _ t (0, 0) hh1]; rfl
  · rw [cell_of_row w1 _ 1 _ t (0, 0) hh1]; rfl
  · simp [World.frozen?, hh1]
  · simp [World.frozen?, hh1]

theorem Get_bad (ao : Option Addr) (n cap : Nat) (at_ w_ : Int) (w : World) (hn : n ≤ 1000000) (ha : -9223372036854775808 ≤ at_ ∧ at_ ≤ 9223372036854775807) (hw : -9223372036854775808 ≤ w_ ∧ w_ ≤ 9223372036854775807) (hbad : (bfc n at_ w_ != 0) = true) :
    Calls Try.prog 136 #[.slice ao n cap, .int .i64 at_, .int .i64 w_] w fun e w' => e = .returned (.tuple #[.int .u64 0, .agg #[.int .i64 (bfc n at_ w_), .int .i64 (bfa n at_ w_)]]) ∧ Below w.heap.size w w' := by
  go_enter Try.func136, Try.ntmps136
  go_wp2_with (go_at_call 154; refine (inside_any _ _ _ _ _ _ hn ha hw).mono ?_; rintro e w1 ⟨rfl, hb⟩; obtain ⟨hc0, hc1, hf0, hf1, hz, hB⟩ := two_facts hb)
  go_region
  go_wp2_with fail
  exact bodyPost_ret (v := .tuple #[.int .u64 0, .agg #[.int .i64 (bfc n at_ w_), .int .i64 (bfa n at_ w_)]]) (by simp [results, Try.results136, go_sem, hc0, hc1, hz]) rfl ⟨rfl, by go_grown⟩

theorem getN_code (b : List Int) (hf : AllFit .u8 b) (at_ i w_ : Nat) (hi : i < w_) (hw : w_ ≤ 64) : 
    0 ≤ acc (fun i => bitAt b (at_ + i)) i ∧ acc (fun i => bitAt b (at_ + i)) i ≤ 9223372036854775807 ∧
    acc (fun i => bitAt b (at_ + i)) (i + 1) = 2 * acc (fun i => bitAt b (at_ + i)) i + bit (el b ((at_ + i) / 8)) ((at_ + i) % 8) ∧
    bits .and .u8 (el b ((at_ + i) / 8) / 2 ^ (7 - (at_ + i) % 8)) 1 = bit (el b ((at_ + i) / 8)) ((at_ + i) % 8) := by
  have h := acc_u64 (fun i => bitAt b (at_ + i)) (fun _ => bitAt_range _ _) i (by omega)
  have hx := hf.el_u8 ((at_ + i) / 8)
  exact ⟨h.1, h.2, rfl, and_one_byte _ hx.1 hx.2 _⟩

theorem or_bit (n β : Int) (h0 : 0 ≤ n) (h1 : n ≤ 9223372036854775807) (hb : 0 ≤ β ∧ β ≤ 1) : bits .or .u64 (n * 2) β = 2 * n + β := by
  obtain ⟨a, rfl⟩ := Int.eq_ofNat_of_zero_le h0
  obtain ⟨b, rfl⟩ := Int.eq_ofNat_of_zero_le hb.1
  rw [show (a : Int) * 2 = ((a * 2 : Nat) : Int) from by omega, u64_or_nat _ _ (by omega) (by omega), nat_join 1 (a * 2) b (by omega) (by omega)]
  omega

theorem Get_good (ao : Option Addr) (n cap : Nat) (xs : List Int) (at_ w_ : Nat) (w : World) (hr : Rd w .u8 ao n cap xs) (hn : n ≤ 1000000) (hok : bfc n at_ w_ = 0) (hok2 : bfa n at_ w_ = 0) (hw1 : w_ ≤ 64) (hle : at_ + w_ ≤ 8 * n) :
    Calls Try.prog 136 #[.slice ao n cap, .int .i64 at_, .int .i64 w_] w fun e w' => e = .returned (.tuple #[.int .u64 (getN xs at_ w_), .agg #[.int .i64 0, .int .i64 0]]) ∧ Below w.heap.size w w' := by
  obtain rfl := hr.len
  go_enter Try.func136, Try.ntmps136
  go_wp2_with (go_at_call 154; refine (inside_any _ _ _ _ _ _ hn (by omega) (by omega)).mono ?_; rintro e w1 ⟨rfl, hb⟩; obtain ⟨hc0, hc1, hf0, hf1, hz, hB⟩ := two_facts hb)
  clear hok hok2
  have hb2 := hb.alloc hb.size (.cells #[.int .i64 0, .int .i64 0] 65)
  clear hc0 hc1 hf0 hf1 hz hB
  generalize w1.alloc (.cells #[.int .i64 0, .int .i64 0] 65) = w2 at *
  obtain ⟨hc0, hc1, hf0, hf1, hz, hB⟩ := two_facts hb2
  clear hb2 hb
  go_loop [9, 21] (fun v i => ∃ k : Nat, k ≤ w_ ∧ i = .int .i64 k ∧ v = .int .u64 (acc (fun i => bitAt xs (at_ + i)) k)) (fun _ i => w_ - (intOf i).toNat)
  case atStart => exact ⟨0, Nat.zero_le _, rfl, rfl⟩
  case round =>
    obtain ⟨k, hk, rfl, rfl⟩ := hrel
    by_cases hl : k < w_
    · obtain ⟨h0, h1, h2, h3⟩ := getN_code xs hr.fit at_ k w_ hl hw1
      have hbr := bit_range (el xs ((at_ + k) / 8)) ((at_ + k) % 8)
      obtain ⟨b, off, rfl, hc⟩ := (hr.below hB).here (by omega)
      have hck := hc ((at_ + k) / 8) (by omega)
      have H2 := Lib.hid h2
      have hor := or_bit _ _ h0 h1 hbr
      clear hc h2
      go_wp2_with fail
      go_round
      case rel => exact ⟨k + 1, by omega, by go_num, by rw [H2.out]⟩
      case measure => simp [intOf]; omega
    · obtain rfl : k = w_ := by omega
      go_wp2_with fail
      exact bodyPost_ret (v := .tuple #[.int .u64 (getN xs at_ k), .agg #[.int .i64 0, .int .i64 0]]) (by simp [results, Try.results136, go_sem, hc0, hc1]; rfl) rfl ⟨rfl, by go_grown⟩

end Go.Proofs.Ytfakdapglbgokaa
