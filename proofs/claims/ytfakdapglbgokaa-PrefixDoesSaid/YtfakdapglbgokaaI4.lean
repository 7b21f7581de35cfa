/-
  Texts joined: XBitsT XBitsS XBitsJ XBitsK. No condition.
-/
import Derived.Deep.RegionLaw
import Derived.Test.YtfakdapglbgokaaI3
import Derived.Test.YtfakdapglbgokaaI1
/-
  Package bits and its references, fourth part: Put. No condition.
-/
namespace Go.Proofs.Ytfakdapglbgokaa
set_option linter.all false
open Go.RowKit

theorem byte_put_nat : ∀ x : Fin 256, ∀ t : Fin 8, ∀ β : Fin 2, ((x.val &&& (255 - 2 ^ (7 - t.val))) ||| (β.val * 2 ^ (7 - t.val))) < 256 ∧ ∀ s : Fin 8, ((x.val &&& (255 - 2 ^ (7 - t.val))) ||| (β.val * 2 ^ (7 - t.val))) / 2 ^ (7 - s.val) % 2 = if s = t then β.val else x.val / 2 ^ (7 - s.val) % 2 := by
  decide +kernel

theorem byte_put (x β : Int) (t : Nat) (hx : 0 ≤ x ∧ x ≤ 255) (hβ : 0 ≤ β ∧ β ≤ 1) (ht : t < 8) :
    (0 ≤ bits .or .u8 (bits .andNot .u8 x (2 ^ (7 - t))) (β * 2 ^ (7 - t)) ∧ bits .or .u8 (bits .andNot .u8 x (2 ^ (7 - t))) (β * 2 ^ (7 - t)) ≤ 255) ∧
    ∀ s, s < 8 → bit (bits .or .u8 (bits .andNot .u8 x (2 ^ (7 - t))) (β * 2 ^ (7 - t))) s = if s = t then β else bit x s := by
  obtain ⟨a, rfl⟩ := Int.eq_ofNat_of_zero_le hx.1
  obtain ⟨b, rfl⟩ := Int.eq_ofNat_of_zero_le hβ.1
  have h := byte_put_nat ⟨a, by omega⟩ ⟨t, ht⟩ ⟨b, by omega⟩
  have hp : 2 ^ (7 - t) ≤ 2 ^ 7 := Nat.pow_le_pow_right (by omega) (by omega)
  have hp' : (2 : Nat) ^ 7 = 128 := rfl
  have e1 : ((2 : Int) ^ (7 - t)) = ((2 ^ (7 - t) : Nat) : Int) := by simp
  have hb2 : b * 2 ^ (7 - t) < 256 := by
    have : b * 2 ^ (7 - t) ≤ 1 * 2 ^ (7 - t) := Nat.mul_le_mul_right _ (by omega)
    omega
  have ha2 : a &&& (255 - 2 ^ (7 - t)) < 256 := Nat.lt_of_le_of_lt Nat.and_le_left (by omega)
  rw [e1, u8_andNot_nat a _ (by omega) (by omega), ← Int.natCast_mul, u8_or_nat _ _ ha2 hb2]
  refine ⟨by have := h.1; simp only at this; omega, fun s hs => ?_⟩
  have h2 := h.2 ⟨s, hs⟩
  simp only [Fin.mk.injEq] at h2
  unfold bit
  have e3 : ((2 : Int) ^ (7 - s)) = ((2 ^ (7 - s) : Nat) : Int) := by simp
  rw [e3, ← Int.natCast_ediv, show (2 : Int) = ((2 : Nat) : Int) from rfl, ← Int.natCast_emod, h2]
  split
  · rfl
  · rw [← Int.natCast_ediv, ← Int.natCast_emod]

/-- The bits of bytes with the first so many bits of a number put in. -/
def putG (b : List Int) (at_ w : Nat) (v : Int) (i k : Nat) : Int := if at_ ≤ k ∧ k < at_ + i then nbit v w (k - at_) else bitAt b k
theorem putG_bits (b : List Int) (at_ w : Nat) (v : Int) (i : Nat) : Bits (putG b at_ w v i) := by
  intro k; unfold putG; split
  · exact nbit_range _ _ _
  · exact bitAt_range _ _
def putO (b : List Int) (at_ w : Nat) (v : Int) (i : Nat) : List Int := bytesF (putG b at_ w v i) b.length
theorem putO_length (b : List Int) (at_ w : Nat) (v : Int) (i : Nat) : (putO b at_ w v i).length = b.length := bytesF_length _ _
theorem putO_fit (b : List Int) (at_ w : Nat) (v : Int) (i : Nat) : AllFit .u8 (putO b at_ w v i) := bytesF_fit _ (putG_bits _ _ _ _ _) _
theorem putO_zero (b : List Int) (hf : AllFit .u8 b) (at_ w : Nat) (v : Int) : putO b at_ w v 0 = b := by
  conv => rhs; rw [← bytesF_bitAt b hf]
  refine bytesF_congr _ _ _ fun k _ => ?_
  unfold putG; rw [if_neg (by omega)]
theorem putO_all (b : List Int) (at_ w : Nat) (v : Int) : putO b at_ w v w = putN b at_ w v := rfl
theorem putO_succ (b : List Int) (at_ w : Nat) (v : Int) (i : Nat) (h : at_ + i < 8 * b.length) :
    put (putO b at_ w v i) ((at_ + i) / 8) (bits .or .u8 (bits .andNot .u8 (el (putO b at_ w v i) ((at_ + i) / 8)) (2 ^ (7 - (at_ + i) % 8))) (nbit v w i * 2 ^ (7 - (at_ + i) % 8))) = putO b at_ w v (i + 1) := by
  have hy := byte_put (el (putO b at_ w v i) ((at_ + i) / 8)) (nbit v w i) ((at_ + i) % 8) ((putO_fit b at_ w v i).el_u8 _) (nbit_range _ _ _) (by omega)
  have hl := putO_length b at_ w v i
  refine bytes_ext ((putO_fit b at_ w v i).put (Fits.of_u8 hy.1.1 hy.1.2) _) (putO_fit _ _ _ _ _) (by rw [put_length, hl, putO_length]) fun k hk => ?_
  rw [put_length, hl] at hk
  rw [show bitAt (putO b at_ w v (i + 1)) k = putG b at_ w v (i + 1) k from bitAt_bytesF _ (putG_bits _ _ _ _ _) _ _ hk]
  have hold : bitAt (putO b at_ w v i) k = putG b at_ w v i k := bitAt_bytesF _ (putG_bits _ _ _ _ _) _ _ hk
  unfold bitAt at hold ⊢
  rw [el_put _ _ _ _ (by rw [hl]; omega)]
  by_cases h1 : k / 8 = (at_ + i) / 8
  · rw [if_pos h1, hy.2 _ (by omega)]
    by_cases h2 : k % 8 = (at_ + i) % 8
    · rw [if_pos h2]
      have hki : k = at_ + i := by omega
      unfold putG
      rw [if_pos (by omega), show k - at_ = i from by omega]
    · rw [if_neg h2, ← h1, hold]
      unfold putG
      by_cases h3 : at_ ≤ k ∧ k < at_ + i
      · rw [if_pos h3, if_pos (by omega)]
      · rw [if_neg h3, if_neg (by omega)]
  · rw [if_neg h1, hold]
    unfold putG
    by_cases h3 : at_ ≤ k ∧ k < at_ + i
    · rw [if_pos h3, if_pos (by omega)]
    · rw [if_neg h3, if_neg (by omega)]

theorem Put_good (ao : Option Addr) (n cap : Nat) (xs : List Int) (at_ w_ : Nat) (v : Int) (w : World) (hr : Rd w .u8 ao n cap xs) (hn : n ≤ 1000000) (hv0 : 0 ≤ v) (hv1 : v ≤ 18446744073709551615) (hok : bfc n at_ w_ = 0) (hok2 : bfa n at_ w_ = 0) (hw0 : 1 ≤ w_) (hw1 : w_ ≤ 64) (hle : at_ + w_ ≤ 8 * n) :
    Calls Try.prog 138 #[.slice ao n cap, .int .i64 at_, .int .i64 w_, .int .u64 v] w fun e w' => ∃ r, e = .returned (.tuple #[r, .agg #[.int .i64 0, .int .i64 0]]) ∧ Mine w' w.heap.size 5 .u8 r (putN xs at_ w_ v) ∧ Below w.heap.size w w' := by
  obtain rfl := hr.len
  go_enter Try.func138, Try.ntmps138
  go_wp2_with (go_at_call 154; refine (inside_any _ _ _ _ _ _ hn (by omega) (by omega)).mono ?_; rintro e w1 ⟨rfl, hb⟩; obtain ⟨hc0, hc1, hf0, hf1, hz, hB⟩ := two_facts hb)
  clear hok hok2
  have hb2 := hb.alloc hb.size (.cells #[.int .i64 0, .int .i64 0] 65)
  clear hc0 hc1 hf0 hf1 hz hB
  generalize w1.alloc (.cells #[.int .i64 0, .int .i64 0] 65) = w2 at *
  obtain ⟨_, _, _, _, hz2, hB⟩ := two_facts hb2
  refine (Clone_bytes_any _ _ _ _ _ (hr.below hB) hn).mono ?_
  rintro e w3 ⟨r, rfl, hm, hb3⟩
  have hb3' := hb2.trans (hb3.mono hb2.size)
  have hgt : w.heap.size < w2.heap.size := hz2
  have hp0 := putO_zero xs hr.fit at_ w_ v
  rw [← hp0] at hm
  clear hp0 hb3 hb2 hb hr
  obtain ⟨g, cap2, rfl, hg1, hg2⟩ := hm.at_ (by rw [putO_length]; omega)
  rw [putO_length] at *
  go_wp2_with fail
  go_loopw [26] (fun i wr => ∃ k : Nat, k ≤ w_ ∧ i = .int .i64 k ∧ Mine wr w2.heap.size 5 .u8 (.slice (some ⟨g, 0, none⟩) xs.length cap2) (putO xs at_ w_ v k) ∧ Below (w.alloc (.cells #[.int .i64 0, .int .i64 0] 65)).heap.size (w.alloc (.cells #[.int .i64 0, .int .i64 0] 65)) wr) (fun i _ => w_ - (intOf i).toNat)
  case atStart => exact ⟨0, Nat.zero_le _, rfl, hm, hb3'⟩
  case round =>
    clear hm hb3'
    obtain ⟨k, hk, rfl, hm, hbr⟩ := hrel
    have hl := putO_length xs at_ w_ v k
    by_cases hlt : k < w_
    · obtain ⟨hc, hf⟩ := hm.cell (i := (at_ + k) / 8) (by rw [hl]; omega)
      have hcode : bits .and .u64 (v / 2 ^ (w_ - 1 - k)) 1 = nbit v w_ k := and_one_shift v hv0 hv1 (w_ - 1 - k)
      have hnb := nbit_range v w_ k
      have hS := Lib.hid (putO_succ xs at_ w_ v k (by omega))
      have hp1 := two_pow_pos (7 - (at_ + k) % 8)
      have hp2 : (2 : Int) ^ (7 - (at_ + k) % 8) ≤ 128 := two_pow_mono (show 7 - (at_ + k) % 8 ≤ 7 by omega)
      have hsh : 0 ≤ nbit v w_ k * 2 ^ (7 - (at_ + k) % 8) ∧ nbit v w_ k * 2 ^ (7 - (at_ + k) % 8) ≤ 255 := by
        rcases (show nbit v w_ k = 0 ∨ nbit v w_ k = 1 by omega) with h | h <;> rw [h] <;> omega
      have hy := (byte_put (el (putO xs at_ w_ v k) ((at_ + k) / 8)) (nbit v w_ k) ((at_ + k) % 8) ((putO_fit xs at_ w_ v k).el_u8 _) hnb (by omega)).1
      have hm2 := hm.set ((at_ + k) / 8) (Fits.of_u8 hy.1 hy.2)
      rw [hS.out] at hm2
      clear hl hy
      go_wp2_with fail
      go_region
      go_wp2_with fail
      go_roundw
      case rel => exact ⟨k + 1, by omega, by go_num, hm2.drew, (hbr.setCell (by simp; omega) _).drew⟩
      case measure => simp [intOf]; omega
    · obtain rfl : k = w_ := by omega
      obtain ⟨hc0, hc1, hf0, hf1, hz, hB⟩ := two_facts hbr
      clear hl
      go_wp2_with fail
      exact bodyPost_ret (v := .tuple #[.slice (some ⟨g, 0, none⟩) xs.length cap2, .agg #[.int .i64 0, .int .i64 0]]) (by simp [results, Try.results138, go_sem, hc0, hc1]) rfl
        ⟨_, rfl, ((hm.setLow hgt _).setLow hgt _).base_le (Nat.le_of_lt hgt), by go_grown⟩

end Go.Proofs.Ytfakdapglbgokaa

/-
  Package bits and its references, fifth part: Put of the references, Put whole. No condition.
-/
namespace Go.Proofs.Ytfakdapglbgokaa
set_option linter.all false
open Go.RowKit

/-- Bytes with a number put in, if its bits are there. -/
def putV (xs : List Int) (at_ w v : Int) : List Int := if bfc xs.length at_ w = 0 then putN xs at_.toNat w.toNat v else []

theorem Put_bad (ao : Option Addr) (n cap : Nat) (at_ w_ v : Int) (w : World) (hn : n ≤ 1000000) (ha : -9223372036854775808 ≤ at_ ∧ at_ ≤ 9223372036854775807) (hw : -9223372036854775808 ≤ w_ ∧ w_ ≤ 9223372036854775807) (hbad : (bfc n at_ w_ != 0) = true) :
    Calls Try.prog 138 #[.slice ao n cap, .int .i64 at_, .int .i64 w_, .int .u64 v] w fun e w' => e = .returned (.tuple #[.slice none 0 0, .agg #[.int .i64 (bfc n at_ w_), .int .i64 (bfa n at_ w_)]]) ∧ Below w.heap.size w w' := by
  go_enter Try.func138, Try.ntmps138
  go_wp2_with (go_at_call 154; refine (inside_any _ _ _ _ _ _ hn ha hw).mono ?_; rintro e w1 ⟨rfl, hb⟩; obtain ⟨hc0, hc1, hf0, hf1, hz, hB⟩ := two_facts hb)
  go_region
  go_wp2_with fail
  exact bodyPost_ret (v := .tuple #[.slice none 0 0, .agg #[.int .i64 (bfc n at_ w_), .int .i64 (bfa n at_ w_)]]) (by simp [results, Try.results138, go_sem, hc0, hc1, hz]) rfl ⟨rfl, by go_grown⟩

theorem Put_any (ao : Option Addr) (n cap : Nat) (xs : List Int) (at_ w_ v : Int) (w : World) (hr : Rd w .u8 ao n cap xs) (hn : n ≤ 1000000) (ha : Fits .i64 at_) (hw : Fits .i64 w_) (hv : Fits .u64 v) :
    Calls Try.prog 138 #[.slice ao n cap, .int .i64 at_, .int .i64 w_, .int .u64 v] w fun e w' => ∃ r, e = .returned (.tuple #[r, .agg #[.int .i64 (bfc n at_ w_), .int .i64 (bfa n at_ w_)]]) ∧ Mine w' w.heap.size 5 .u8 r (putV xs at_ w_ v) ∧ Below w.heap.size w w' := by
  obtain rfl := hr.len
  by_cases h : bfc xs.length at_ w_ = 0
  · obtain ⟨h1, h2, h3, h4, h5⟩ := bfc_zero h
    obtain ⟨a, rfl⟩ := Int.eq_ofNat_of_zero_le h3
    obtain ⟨k, rfl⟩ := Int.eq_ofNat_of_zero_le (show 0 ≤ w_ by omega)
    refine (Put_good ao _ cap xs a k v w hr hn hv.u64.1 hv.u64.2 h h5 (by omega) (by omega) (by omega)).mono ?_
    rintro e w' ⟨r, rfl, hm, hb⟩
    refine ⟨r, by rw [h, h5], ?_, hb⟩
    unfold putV
    rw [if_pos h]
    exact hm
  · refine (Put_bad ao _ cap at_ w_ v w hn ha.i64 hw.i64 (by simpa using h)).mono ?_
    rintro e w' ⟨rfl, hb⟩
    refine ⟨_, rfl, ?_, hb⟩
    unfold putV
    rw [if_neg h]
    exact Mine.nil _ _ _ _

end Go.Proofs.Ytfakdapglbgokaa

/-
  Package bits and its references, sixth part: Join and Part. No condition.
-/
namespace Go.Proofs.Ytfakdapglbgokaa
set_option linter.all false
open Go.RowKit

/-- A width that is none. -/
def badW (w : List Int) (i : Nat) : Bool := decide (el w i < 1 ∨ 64 < el w i)
def joinC (m : Nat) (w : List Int) : Int := if m ≠ w.length then 2 else if firstN (badW w) w.length < w.length then 6 else 0
def joinA (m : Nat) (w : List Int) : Int := if m ≠ w.length then -1 else if firstN (badW w) w.length < w.length then (firstN (badW w) w.length : Int) else 0
/-- The bits of the first so many numbers. -/
def catTo (v w : List Int) : Nat → List Int
  | 0 => []
  | i + 1 => catTo v w i ++ numB (el v i) (el w i).toNat
def joinV (v w : List Int) : List Int := if joinC v.length w = 0 then bytesF (el (catTo v w w.length)) (((catTo v w w.length).length + 7) / 8) else []
theorem okW {w : List Int} {i : Nat} (h : badW w i = false) : 1 ≤ el w i ∧ el w i ≤ 64 := by
  unfold badW at h; simp at h; omega
theorem catTo_length (v w : List Int) (i : Nat) (h : ∀ j, j < i → badW w j = false) : ((catTo v w i).length : Int) = sumTo w i := by
  induction i with
  | zero => rfl
  | succ i ih =>
    have := okW (h i (by omega))
    simp only [catTo, sumTo, List.length_append, numB_length]
    rw [← ih (fun j hj => h j (by omega))]
    omega
theorem catTo_bits (v w : List Int) (i : Nat) : Bits (el (catTo v w i)) := by
  induction i with
  | zero => intro k; simp [catTo, el]
  | succ i ih => exact ih.append (numB_bits _ _)
theorem sumTo_ok {w : List Int} {i : Nat} (h : ∀ j, j < i → badW w j = false) : 0 ≤ sumTo w i ∧ sumTo w i ≤ 64 * i := by
  induction i with
  | zero => simp [sumTo]
  | succ i ih =>
    have := okW (h i (by omega))
    have := ih (fun j hj => h j (by omega))
    simp only [sumTo]; omega
theorem sumTo_mono {w : List Int} {i j : Nat} (hij : i ≤ j) (h : ∀ k, k < j → badW w k = false) : sumTo w i ≤ sumTo w j := by
  induction j with
  | zero => obtain rfl : i = 0 := (by omega); exact Int.le_refl _
  | succ j ih =>
    by_cases he : i = j + 1
    · subst he; exact Int.le_refl _
    · have := okW (h j (by omega))
      have := ih (by omega) (fun k hk => h k (by omega))
      simp only [sumTo]; omega

/-- One number more put into what is joined. -/
theorem join_step (v w : List Int) (i M : Nat) (hok : ∀ j, j < i + 1 → badW w j = false) (hM : sumTo w (i + 1) ≤ 8 * (M : Int)) :
    putV (bytesF (el (catTo v w i)) M) (sumTo w i) (el w i) (el v i) = bytesF (el (catTo v w (i + 1))) M := by
  have hw := okW (hok i (by omega))
  have hs := sumTo_ok (w := w) (i := i) (fun j hj => hok j (by omega))
  have hl := catTo_length v w i (fun j hj => hok j (by omega))
  simp only [sumTo] at hM
  have hb : bfc M (sumTo w i) (el w i) = 0 := by unfold bfc; rw [if_neg (by omega), if_neg (by omega)]
  unfold putV
  rw [bytesF_length, if_pos hb]
  unfold putN
  rw [bytesF_length]
  refine bytesF_congr _ _ _ fun k hk => ?_
  unfold putF
  rw [bitAt_bytesF _ (catTo_bits _ _ _) _ _ hk]
  simp only [catTo]
  rw [el_append]
  by_cases h1 : k < (catTo v w i).length
  · rw [if_pos h1, if_neg (by omega)]
  · rw [if_neg h1, el_out (catTo v w i) k (by omega)]
    by_cases h2 : k < (sumTo w i).toNat + (el w i).toNat
    · rw [if_pos (by omega)]
      unfold numB
      rw [el_mk _ _ _ (by omega), show k - (sumTo w i).toNat = k - (catTo v w i).length from by omega]
    · rw [if_neg (by omega), el_out _ _ (by rw [numB_length]; omega)]

theorem sty_ints : SliceTy Try.prog 52 3 1 8 (.int .i64 0) := ⟨Try.underlying52, by kernel_rfl, rfl, by omega⟩
theorem zeros_bytesF (M : Nat) : List.replicate M (0 : Int) = bytesF (el []) M := by
  refine ext_el (by simp [bytesF_length]) fun i hi => ?_
  rw [List.length_replicate] at hi
  rw [show el (bytesF (el []) M) i = byteF (el []) i from el_mk _ _ _ hi]
  simp [byteF, el, List.getD, hi]

theorem Join_any (ao bo : Option Addr) (na ca nb cb : Nat) (v ws : List Int) (w : World) (hv : Rd w .u64 ao na ca v) (hw : Rd w .i64 bo nb cb ws) (hna : na ≤ 10000) (hnb : nb ≤ 10000) :
    Calls Try.prog 112 #[.slice ao na ca, .slice bo nb cb] w fun e w' => ∃ r, e = .returned (.tuple #[r, .agg #[.int .i64 (joinC na ws), .int .i64 (joinA na ws)]]) ∧ Mine w' w.heap.size 5 .u8 r (joinV v ws) ∧ Below w.heap.size w w' := by
  obtain rfl := hv.len
  obtain rfl := hw.len
  by_cases hlen : v.length = ws.length
  case neg =>
    have hq : ((v.length : Int) != ws.length) = true := by rw [bne_iff_ne]; omega
    have e1 : joinC v.length ws = 2 := by unfold joinC; rw [if_pos hlen]
    have e2 : joinA v.length ws = -1 := by unfold joinA; rw [if_pos hlen]
    have e3 : joinV v ws = [] := by unfold joinV; rw [e1]; rfl
    rw [e1, e2, e3]
    clear e1 e2 e3
    go_enter Try.func112, Try.ntmps112
    go_wp2_with fail
    exact bodyPost_ret (v := .tuple #[.slice none 0 0, .agg #[.int .i64 2, .int .i64 (-1)]]) (by simp [results, Try.results112, go_sem]) rfl ⟨_, rfl, Mine.nil _ _ _ _, by go_grown⟩
  have hq : ((v.length : Int) != ws.length) = false := by rw [hlen]; simp
  have Hlen := Lib.hid hlen
  clear hlen
  have hb1 : Below w.heap.size w (w.alloc (.cells #[.int .i64 0, .int .i64 0] 65)) := (Below.refl _ _).alloc (Nat.le_refl _) _
  have hw1 := hw.below hb1
  have hv1 := hv.below hb1
  go_enter Try.func112, Try.ntmps112
  go_wp2_with fail
  go_loop [6, 21] (fun n i => ∃ k : Nat, k ≤ ws.length ∧ (∀ j, j < k → badW ws j = false) ∧ i = .int .i64 k ∧ n = .int .i64 (sumTo ws k)) (fun _ i => ws.length - (intOf i).toNat)
  case atStart => exact ⟨0, Nat.zero_le _, fun j hj => absurd hj (Nat.not_lt_zero j), rfl, rfl⟩
  case round =>
    obtain ⟨k, hk, hok, rfl, rfl⟩ := hrel
    have hs := sumTo_ok hok
    have Hok := Lib.hid hok
    clear hok
    by_cases hl : k < ws.length
    · obtain ⟨b, off, rfl, hc⟩ := hw1.here (by omega)
      have hck := hc k hl
      clear hc
      by_cases hbad : badW ws k = true
      · have e1 : joinC v.length ws = 6 := by unfold joinC; rw [if_neg (by simpa using Hlen.out), firstN_eq _ _ k Hok.out hbad hl, if_pos hl]
        have e2 : joinA v.length ws = k := by unfold joinA; rw [if_neg (by simpa using Hlen.out), firstN_eq _ _ k Hok.out hbad hl, if_pos hl]
        have e3 : joinV v ws = [] := by unfold joinV; rw [e1]; rfl
        have E1 := Lib.hid e1
        have E2 := Lib.hid e2
        have E3 := Lib.hid e3
        clear e1 e2 e3
        unfold badW at hbad
        simp only [decide_eq_true_eq] at hbad
        rcases hbad with hbad | hbad
        all_goals
          go_wp2_with fail
          exact bodyPost_ret (v := .tuple #[.slice none 0 0, .agg #[.int .i64 6, .int .i64 k]]) (by simp [results, Try.results112, go_sem]) rfl ⟨_, by rw [E1.out, E2.out], by rw [E3.out]; exact Mine.nil _ _ _ _, by go_grown⟩
      · have hgood : badW ws k = false := by simpa using hbad
        have hkk := okW hgood
        have hrel2 : Hid (∀ j, j < k + 1 → badW ws j = false) := fun j hj => by
          by_cases h : j = k
          · subst h; exact hgood
          · exact Hok.out j (by omega)
        have hss : Hid (sumTo ws (k + 1) = sumTo ws k + el ws k) := rfl
        clear hbad hgood
        go_wp2_with fail
        go_round
        case rel => exact ⟨k + 1, by omega, hrel2.out, by go_num, by rw [hss.out]⟩
        case measure => simp [intOf]; omega
    · obtain rfl : k = ws.length := by omega
      have hcl := catTo_length v ws ws.length Hok.out
      have hC : joinC v.length ws = 0 := by unfold joinC; rw [if_neg (by simpa using Hlen.out), firstN_none _ _ Hok.out, if_neg (by omega)]
      have hA : joinA v.length ws = 0 := by unfold joinA; rw [if_neg (by simpa using Hlen.out), firstN_none _ _ Hok.out, if_neg (by omega)]
      obtain ⟨M, hM⟩ : ∃ M : Nat, (M : Int) = (sumTo ws ws.length + 7) / 8 := ⟨((sumTo ws ws.length + 7) / 8).toNat, by omega⟩
      have hV : joinV v ws = bytesF (el (catTo v ws ws.length)) M := by unfold joinV; rw [if_pos hC]; congr 1; omega
      have HC := Lib.hid hC
      have HA := Lib.hid hA
      have HV := Lib.hid hV
      have hMb : M ≤ 100000 := by omega
      have hM8 : sumTo ws ws.length ≤ 8 * (M : Int) := by omega
      have hMe : (sumTo ws ws.length + 7) / 8 = (M : Int) := hM.symm
      clear hC hA hV hM hcl
      go_wp2_with (at_make; refine wpList_make_ints rfl _ _ 77 rfl sty_bytes rfl .i64 .i64 _ _ M rfl rfl hMe hMe (by omega) (by omega) ?_; intro w2 hm2 hb2)
      have hB2 := hb1.trans (hb2.mono hb1.size)
      have hF2 : Below (w.alloc (.cells #[.int .i64 0, .int .i64 0] 65)).heap.size (w.alloc (.cells #[.int .i64 0, .int .i64 0] 65)) w2 := hb2
      rw [zeros_bytesF M] at hm2
      have hsz : (w.alloc (.cells #[.int .i64 0, .int .i64 0] 65)).heap.size = w.heap.size + 1 := by simp
      have Hsz := Lib.hid hsz
      rw [hsz] at hm2
      clear hsz
      have hgt : w.heap.size < (w.alloc (.cells #[.int .i64 0, .int .i64 0] 65)).heap.size := by simp
      generalize hW1 : w.alloc (.cells #[.int .i64 0, .int .i64 0] 65) = w1 at *
      have hst : Mine w2 (w.heap.size + 1) 5 .u8 (.slice (some ⟨w.heap.size + 1, 0, none⟩) M M) (bytesF (el (catTo v ws 0)) M) := hm2
      clear hm2 hMe
      have HW1 := Lib.hid hW1
      clear hW1
      go_loopw [9, 10, 44] (fun r at_ i wr => ∃ k : Nat, k ≤ ws.length ∧ i = .int .i64 k ∧ at_ = .int .i64 (sumTo ws k) ∧ Mine wr (w.heap.size + 1) 5 .u8 r (bytesF (el (catTo v ws k)) M) ∧ Below w1.heap.size w1 wr) (fun _ _ i _ => ws.length - (intOf i).toNat)
      case atStart => exact ⟨0, Nat.zero_le _, rfl, rfl, hst, hF2⟩
      case round =>
        clear hst hF2
        obtain ⟨k, hk, rfl, rfl, hm, hbr⟩ := hrel
        have hokk := sumTo_ok (w := ws) (i := k) (fun j hj => Hok.out j (by omega))
        obtain ⟨ar, cr, rfl, hrr, _⟩ := hm.rd
        rw [bytesF_length] at *
        by_cases hl : k < ws.length
        · have hkk := okW (Hok.out k hl)
          have hmo := sumTo_mono (i := k + 1) (j := ws.length) (by omega) Hok.out
          have hmo' : sumTo ws k + el ws k ≤ sumTo ws ws.length := hmo
          obtain ⟨b, off, rfl, hc⟩ := (hw1.below hbr).here (by omega)
          have hck := hc k hl
          obtain ⟨b', off', e', hc'⟩ := (hv1.below hbr).here (by have := Hlen.out; omega)
          have hckv := hc' k (by have := Hlen.out; omega)
          have hvr := hv1.fit.el_u64 k
          have HJ := Lib.hid (join_step v ws k M (fun j hj => Hok.out j (by omega)) (by have : sumTo ws (k + 1) = sumTo ws k + el ws k := rfl; omega))
          have hlv : (k : Int) < v.length := by have := Hlen.out; omega
          subst e'
          clear hc hc' hmo
          go_wp2_with fail
          refine (Put_any _ _ _ _ _ _ _ _ hrr (by omega) (Fits.of_i64 (by omega) (by omega)) (Fits.of_i64 (by omega) (by omega)) (Fits.of_u64 hvr.1 hvr.2)).mono ?_
          rintro e w3 ⟨r3, rfl, hm3, hb3⟩
          rw [HJ.out] at hm3
          have hbr3 := hbr.trans (hb3.mono hbr.size)
          have hm3' := hm3.base_le (base' := w.heap.size + 1) (by have := Hsz.out; have := hbr.size; omega)
          clear hm hm3 hb3 hrr
          go_wp2_with fail
          go_roundw
          case rel => exact ⟨k + 1, by omega, by go_num, rfl, hm3', hbr3⟩
          case measure => simp [intOf]; omega
        · obtain rfl : k = ws.length := by omega
          have hF := hbr
          have e1 := HW1.out
          subst e1
          obtain ⟨hc0, hc1, hf0, hf1, hz, hB⟩ := two_facts hF
          rw [← HV.out] at hm
          clear hbr hF hb2 hrr
          go_wp2_with fail
          exact bodyPost_ret (v := .tuple #[.slice ar M cr, .agg #[.int .i64 0, .int .i64 0]]) (by simp [results, Try.results112, go_sem, hc0, hc1]) rfl
            ⟨_, by rw [HC.out, HA.out], ((hm.setLow (by simp) _).setLow (by simp) _).base_le (by omega), by go_grown⟩

end Go.Proofs.Ytfakdapglbgokaa

/-
  Package bits and its references, seventh part: Join of the references; Part; SameNums. No condition.
-/
namespace Go.Proofs.Ytfakdapglbgokaa
set_option linter.all false
open Go.RowKit

theorem numBits_int (v w_ : Int) (w : World) (h0 : 0 ≤ v) (h1 : v ≤ 18446744073709551615) (hw0 : 0 ≤ w_) (hw : w_ ≤ 64) :
    Calls Try.prog 108 #[.int .u64 v, .int .i64 w_] w fun e w' => ∃ r, e = .returned r ∧ Mine w' w.heap.size 5 .u8 r (numB v w_.toNat) ∧ Below w.heap.size w w' := by
  obtain ⟨n, rfl⟩ := Int.eq_ofNat_of_zero_le hw0
  exact numBits_any v n w h0 h1 (by omega)

set_option maxHeartbeats 400000 in
theorem refJoin_any (ao bo : Option Addr) (na ca nb cb : Nat) (v ws : List Int) (w : World) (hv : Rd w .u64 ao na ca v) (hw : Rd w .i64 bo nb cb ws) (hna : na ≤ 10000) (hnb : nb ≤ 10000) :
    Calls Try.prog 113 #[.slice ao na ca, .slice bo nb cb] w fun e w' => ∃ r, e = .returned (.tuple #[r, .agg #[.int .i64 (joinC na ws), .int .i64 (joinA na ws)]]) ∧ Mine w' w.heap.size 5 .u8 r (joinV v ws) ∧ Below w.heap.size w w' := by
  obtain rfl := hv.len
  obtain rfl := hw.len
  by_cases hlen : v.length = ws.length
  case neg =>
    have hq : ((v.length : Int) != ws.length) = true := by rw [bne_iff_ne]; omega
    have e1 : joinC v.length ws = 2 := by unfold joinC; rw [if_pos hlen]
    have e2 : joinA v.length ws = -1 := by unfold joinA; rw [if_pos hlen]
    have e3 : joinV v ws = [] := by unfold joinV; rw [e1]; rfl
    rw [e1, e2, e3]
    clear e1 e2 e3
    go_enter Try.func113, Try.ntmps113
    go_wp2_with (go_at_call 90; refine (F_any _ _ _).mono ?_; rintro e w1 ⟨rfl, rfl⟩)
    exact bodyPost_ret (v := .tuple #[.slice none 0 0, .agg #[.int .i64 2, .int .i64 (-1)]]) (by simp [results, Try.results113, go_sem]) rfl ⟨_, rfl, Mine.nil _ _ _ _, by go_grown⟩
  have hq : ((v.length : Int) != ws.length) = false := by rw [hlen]; simp
  have Hlen := Lib.hid hlen
  clear hlen
  have hb1 : Below w.heap.size w (w.alloc (.cells #[.int .i64 0, .int .i64 0] 65)) := (Below.refl _ _).alloc (Nat.le_refl _) _
  have hw1 := hw.below hb1
  have hv1 := hv.below hb1
  have hF0 : Below (w.alloc (.cells #[.int .i64 0, .int .i64 0] 65)).heap.size (w.alloc (.cells #[.int .i64 0, .int .i64 0] 65)) (w.alloc (.cells #[.int .i64 0, .int .i64 0] 65)) := Below.refl _ _
  have hs1 : w.heap.size < (w.alloc (.cells #[.int .i64 0, .int .i64 0] 65)).heap.size := by simp
  have H1 := Lib.hid hs1
  clear hs1
  go_enter Try.func113, Try.ntmps113
  go_wp2_with fail
  obtain ⟨w1, hW1⟩ : ∃ w1, w1 = w.alloc (.cells #[.int .i64 0, .int .i64 0] 65) := ⟨_, rfl⟩
  rw [← hW1] at hb1 hw1 hv1 hF0 H1 ⊢
  have HW1 := Lib.hid hW1
  clear hW1
  go_loopw [6, 7] (fun r i wr => ∃ k : Nat, k ≤ ws.length ∧ (∀ j, j < k → badW ws j = false) ∧ i = .int .i64 k ∧ Mine wr w1.heap.size 5 .u8 r (catTo v ws k) ∧ Below w1.heap.size w1 wr) (fun _ i _ => ws.length - (intOf i).toNat)
  case atStart => exact ⟨0, Nat.zero_le _, fun j hj => absurd hj (Nat.not_lt_zero j), rfl, Mine.nil _ _ _ _, hF0⟩
  case round =>
    clear hF0
    obtain ⟨k, hk, hok, rfl, hm, hbr⟩ := hrel
    have hs := sumTo_ok hok
    have hcl := catTo_length v ws k hok
    have Hok := Lib.hid hok
    clear hok
    by_cases hl : k < ws.length
    · obtain ⟨b, off, rfl, hc⟩ := (hw1.below hbr).here (by omega)
      have hck := hc k hl
      clear hc
      by_cases hbad : badW ws k = true
      · have e1 : joinC v.length ws = 6 := by unfold joinC; rw [if_neg (by simpa using Hlen.out), firstN_eq _ _ k Hok.out hbad hl, if_pos hl]
        have e2 : joinA v.length ws = k := by unfold joinA; rw [if_neg (by simpa using Hlen.out), firstN_eq _ _ k Hok.out hbad hl, if_pos hl]
        have e3 : joinV v ws = [] := by unfold joinV; rw [e1]; rfl
        have E1 := Lib.hid e1
        have E2 := Lib.hid e2
        have E3 := Lib.hid e3
        clear e1 e2 e3
        unfold badW at hbad
        simp only [decide_eq_true_eq] at hbad
        have e1 := HW1.out
        subst e1
        obtain ⟨hc0, hc1, hf0, hf1, hz, hB⟩ := two_facts hbr
        clear hbr hcl hm
        rcases hbad with hbad | hbad
        all_goals
          go_wp2_with (go_at_call 90; refine (F_any _ _ _).mono ?_; rintro e w1 ⟨rfl, rfl⟩)
          exact bodyPost_ret (v := .tuple #[.slice none 0 0, .agg #[.int .i64 6, .int .i64 k]]) (by simp [results, Try.results113, go_sem, hc0, hc1, hz]) rfl ⟨_, by rw [E1.out, E2.out], by rw [E3.out]; exact Mine.nil _ _ _ _, by go_grown⟩
      · have hgood : badW ws k = false := by simpa using hbad
        have hkk := okW hgood
        have hrel2 : Hid (∀ j, j < k + 1 → badW ws j = false) := fun j hj => by
          by_cases h : j = k
          · subst h; exact hgood
          · exact Hok.out j (by omega)
        obtain ⟨b', off', e', hc'⟩ := (hv1.below hbr).here (by have := Hlen.out; omega)
        have hckv := hc' k (by have := Hlen.out; omega)
        have hvr := hv1.fit.el_u64 k
        have hlv : (k : Int) < v.length := by have := Hlen.out; omega
        subst e'
        have hsz : Hid (((catTo v ws k).length + (numB (el v k) (el ws k).toNat).length) * 1 ≤ 140737488355328) := by
          show ((catTo v ws k).length + (numB (el v k) (el ws k).toNat).length) * 1 ≤ 140737488355328
          rw [numB_length]; omega
        obtain ⟨am, cm, rfl, hrm, _⟩ := hm.rd
        have hmd := hm.drew
        have hbd : Below w1.heap.size w1 wr.drew := hbr.drew
        clear hbad hgood hc' hcl
        go_wp2_with fail
        go_region_law (first
          | (go_simp; go_at_call 108; refine (numBits_int _ _ _ hvr.1 hvr.2 (by omega) (by omega)).mono ?_; rintro e w5 ⟨r5, rfl, hm5, hb5⟩; obtain ⟨a6, cap6, rfl, hr6, _⟩ := hm5.rd; have hm4a := hmd.below hb5; have hb6 := hbd.trans (hb5.mono hbd.size))
          | ((with_reducible refine step_append_rd (k := .u8) (v := .slice am (catTo v ws k).length cm) (xs := catTo v ws k) ?_ (.tmp 34) (.tmp 43) 77 ?_ sty_bytes w1.heap.size ?_ hm4a ?_ hr6 hsz.out Nat.one_pos hb6.size ?_); rfl; rfl; go_simp; go_simp; intro v2 w6 hm6 hb7))
        all_goals
          have hbr7 := hb6.trans hb7
          clear hm4a hmd hm5 hr6 hb7 hb6 hb5 hsz hrm
          go_wp2_with fail
          go_roundw
          case rel => exact ⟨k + 1, by omega, hrel2.out, by go_num, hm6, hbr7⟩
          case measure => simp [intOf]; omega
    · obtain rfl : k = ws.length := by omega
      obtain ⟨am, cm, rfl, hrm, _⟩ := hm.rd
      have hC : joinC v.length ws = 0 := by unfold joinC; rw [if_neg (by simpa using Hlen.out), firstN_none _ _ Hok.out, if_neg (by omega)]
      have hA : joinA v.length ws = 0 := by unfold joinA; rw [if_neg (by simpa using Hlen.out), firstN_none _ _ Hok.out, if_neg (by omega)]
      have hV : bytesF (el (catTo v ws ws.length)) (((catTo v ws ws.length).length + 7) / 8) = joinV v ws := by unfold joinV; rw [if_pos hC]
      have HC := Lib.hid hC
      have HA := Lib.hid hA
      have HV := Lib.hid hV
      have hbt := catTo_bits v ws ws.length
      clear hC hA hV hm
      go_wp2_with fail
      refine (bytesOf_any _ _ _ _ _ hrm (by omega) hbt).mono ?_
      rintro e w8 ⟨r8, rfl, hm8, hb8⟩
      rw [HV.out] at hm8
      have hgt : w.heap.size < wr.heap.size := Nat.lt_of_lt_of_le H1.out hbr.size
      have hF := hbr.trans (hb8.mono hbr.size)
      have e1 := HW1.out
      subst e1
      obtain ⟨hc0, hc1, hf0, hf1, hz, hB⟩ := two_facts hF
      clear hbr hF hb8 hbt hcl
      go_wp2_with fail
      exact bodyPost_ret (v := .tuple #[r8, .agg #[.int .i64 0, .int .i64 0]]) (by simp [results, Try.results113, go_sem, hc0, hc1]) rfl
        ⟨_, by rw [HC.out, HA.out], ((hm8.setLow hgt _).setLow hgt _).base_le (Nat.le_of_lt hgt), by go_grown⟩

end Go.Proofs.Ytfakdapglbgokaa
