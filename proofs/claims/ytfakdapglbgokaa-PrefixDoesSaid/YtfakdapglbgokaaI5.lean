/-
  Texts joined: XBitsL XBitsQ XPfxW XPfxX XPfxY XClone. No condition.
-/
import Derived.BigQuiet
import Derived.Deep.QuietTactic
import Derived.Deep.RegionHeld3
import Derived.Deep.RegionLaw
import Derived.Deep.DrawnRows
import Derived.Outline
import Derived.Test.YtfakdapglbgokaaI4
import Derived.Test.YtfakdapglbgokaaI3
import Derived.Test.YtfakdapglbgokaaI1
/-
  Package bits and its references, eighth part: Part; SameNums. No condition.
-/
namespace Go.Proofs.Ytfakdapglbgokaa
set_option linter.all false
open Go.RowKit

def pBad (n : Nat) (at_ : Int) (ws : List Int) (i : Nat) : Bool := bfc n (at_ + sumTo ws i) (el ws i) != 0
def partC (n : Nat) (at_ : Int) (ws : List Int) : Int := if firstN (pBad n at_ ws) ws.length < ws.length then bfc n (at_ + sumTo ws (firstN (pBad n at_ ws) ws.length)) (el ws (firstN (pBad n at_ ws) ws.length)) else 0
def partA (n : Nat) (at_ : Int) (ws : List Int) : Int := if firstN (pBad n at_ ws) ws.length < ws.length then (firstN (pBad n at_ ws) ws.length : Int) else 0
def partG (b : List Int) (at_ : Int) (ws : List Int) (i : Nat) : Int := getV b (at_ + sumTo ws i) (el ws i)
def partV (b : List Int) (at_ : Int) (ws : List Int) : List Int := if firstN (pBad b.length at_ ws) ws.length < ws.length then [] else mk (partG b at_ ws) ws.length
theorem pAt_fits {n : Nat} (hn : n ≤ 1000000) {at_ : Int} (ha : Fits .i64 at_) {ws : List Int} {k : Nat} (h : ∀ j, j < k → pBad n at_ ws j = false) : Fits .i64 (at_ + sumTo ws k) := by
  cases k with
  | zero => simpa [sumTo] using ha
  | succ k =>
    have h0 := h k (by omega)
    unfold pBad at h0
    have := bfc_zero (by simpa using h0)
    simp only [sumTo]
    exact Fits.of_i64 (by omega) (by omega)
theorem getV_range (b : List Int) (at_ w : Int) : 0 ≤ getV b at_ w ∧ getV b at_ w ≤ 18446744073709551615 := by
  unfold getV
  split
  · rename_i h
    obtain ⟨h1, h2, _⟩ := bfc_zero h
    have := getN_range b at_.toNat w.toNat
    have h3 : 2 ^ w.toNat ≤ 2 ^ 64 := pow2_le (by omega)
    have : (2 ^ 64 : Nat) = 18446744073709551616 := rfl
    omega
  · omega

theorem Part_any (ao bo : Option Addr) (na ca nb cb : Nat) (b ws : List Int) (at_ : Int) (w : World) (hr : Rd w .u8 ao na ca b) (hw : Rd w .i64 bo nb cb ws) (hna : na ≤ 1000000) (hnb : nb ≤ 1000000) (ha : Fits .i64 at_) :
    Calls Try.prog 109 #[.slice ao na ca, .int .i64 at_, .slice bo nb cb] w fun e w' => ∃ r, e = .returned (.tuple #[r, .agg #[.int .i64 (partC na at_ ws), .int .i64 (partA na at_ ws)]]) ∧ Mine w' w.heap.size 23 .u64 r (partV b at_ ws) ∧ Below w.heap.size w w' := by
  obtain rfl := hr.len
  obtain rfl := hw.len
  have hb1 : Below w.heap.size w (w.alloc (.cells #[.int .i64 0, .int .i64 0] 65)) := (Below.refl _ _).alloc (Nat.le_refl _) _
  have hw1 := hw.below hb1
  have hr1 := hr.below hb1
  have hF0 : Below (w.alloc (.cells #[.int .i64 0, .int .i64 0] 65)).heap.size (w.alloc (.cells #[.int .i64 0, .int .i64 0] 65)) (w.alloc (.cells #[.int .i64 0, .int .i64 0] 65)) := Below.refl _ _
  have hs1 : w.heap.size < (w.alloc (.cells #[.int .i64 0, .int .i64 0] 65)).heap.size := by simp
  have H1 := Lib.hid hs1
  clear hs1 hb1
  go_enter Try.func109, Try.ntmps109
  go_wp2_with fail
  obtain ⟨w1, hW1⟩ : ∃ w1, w1 = w.alloc (.cells #[.int .i64 0, .int .i64 0] 65) := ⟨_, rfl⟩
  rw [← hW1] at hw1 hr1 hF0 H1 ⊢
  have HW1 := Lib.hid hW1
  clear hW1
  go_loopw [1, 8, 15] (fun a r i wr => ∃ k : Nat, k ≤ ws.length ∧ (∀ j, j < k → pBad b.length at_ ws j = false) ∧ i = .int .i64 k ∧ a = .int .i64 (at_ + sumTo ws k) ∧ Mine wr w1.heap.size 23 .u64 r (mk (partG b at_ ws) k) ∧ Below w1.heap.size w1 wr) (fun _ _ i _ => ws.length - (intOf i).toNat)
  case atStart => exact ⟨0, Nat.zero_le _, fun j hj => absurd hj (Nat.not_lt_zero j), rfl, by simp [sumTo], Mine.nil _ _ _ _, hF0⟩
  case round =>
    clear hF0
    obtain ⟨k, hk, hok, rfl, rfl, hm, hbr⟩ := hrel
    have hfit := pAt_fits hna ha hok
    have Hok := Lib.hid hok
    clear hok
    by_cases hl : k < ws.length
    · obtain ⟨b', off, rfl, hc⟩ := (hw1.below hbr).here (by omega)
      have hck := hc k hl
      have hr2 := hr1.below hbr
      have hfw := Fits.of_i64 (hw.fit.el_i64 k).1 (hw.fit.el_i64 k).2
      clear hc
      go_wp2_with fail
      refine (Get_any _ _ _ _ _ _ _ hr2 hna hfit hfw).mono ?_
      rintro e w2 ⟨rfl, hb2⟩
      have hbr2 := hbr.trans (hb2.mono hbr.size)
      have hm2 := hm.below hb2
      have hck2 := ((hw1.below hbr2).here (by omega))
      have hgr := getV_range b (at_ + sumTo ws k) (el ws k)
      clear hm hb2 hr2
      by_cases hbad : pBad b.length at_ ws k = true
      · have e1 : partC b.length at_ ws = bfc b.length (at_ + sumTo ws k) (el ws k) := by unfold partC; rw [firstN_eq _ _ k Hok.out hbad hl, if_pos hl]
        have e2 : partA b.length at_ ws = k := by unfold partA; rw [firstN_eq _ _ k Hok.out hbad hl, if_pos hl]
        have e3 : partV b at_ ws = [] := by unfold partV; rw [firstN_eq _ _ k Hok.out hbad hl, if_pos hl]
        have E1 := Lib.hid e1
        have E2 := Lib.hid e2
        have E3 := Lib.hid e3
        clear e1 e2 e3
        unfold pBad at hbad
        have e1 := HW1.out
        subst e1
        obtain ⟨hc0, hc1, hf0, hf1, hz, hB⟩ := two_facts hbr2
        clear hbr2 hbr hm2 hck2 hck
        go_wp2_with fail
        go_region
        go_wp2_with fail
        exact bodyPost_ret (v := .tuple #[.slice none 0 0, .agg #[.int .i64 (bfc b.length (at_ + sumTo ws k) (el ws k)), .int .i64 k]]) (by simp [results, Try.results109, go_sem, hc0, hc1, hz]) rfl ⟨_, by rw [E1.out, E2.out], by rw [E3.out]; exact Mine.nil _ _ _ _, by go_grown⟩
      · have hgood : pBad b.length at_ ws k = false := by simpa using hbad
        have hrel2 : Hid (∀ j, j < k + 1 → pBad b.length at_ ws j = false) := fun j hj => by
          by_cases h : j = k
          · subst h; exact hgood
          · exact Hok.out j (by omega)
        have hz : (bfc b.length (at_ + sumTo ws k) (el ws k) != 0) = false := hgood
        have hz' := bfc_zero (by simpa using hz)
        have hza : Hid (bfa b.length (at_ + sumTo ws k) (el ws k) = 0) := hz'.2.2.2.2
        have hz2 : 0 ≤ at_ + sumTo ws k ∧ at_ + sumTo ws k + el ws k ≤ 8 * (b.length : Int) ∧ 1 ≤ el ws k := ⟨hz'.2.2.1, hz'.2.2.2.1, hz'.1⟩
        have hss : Hid (at_ + sumTo ws (k + 1) = at_ + sumTo ws k + el ws k) := by show at_ + (sumTo ws k + el ws k) = _; omega
        have hsm : Hid (mk (partG b at_ ws) (k + 1) = mk (partG b at_ ws) k ++ [getV b (at_ + sumTo ws k) (el ws k)]) := mk_succ _ _
        have hb3 := hbr2.alloc hbr2.size (.cells #[.int .i64 (bfc b.length (at_ + sumTo ws k) (el ws k)), .int .i64 (bfa b.length (at_ + sumTo ws k) (el ws k))] 65)
        have hm3 := hm2.below ((Below.refl _ _).alloc (Nat.le_refl _) (.cells #[.int .i64 (bfc b.length (at_ + sumTo ws k) (el ws k)), .int .i64 (bfa b.length (at_ + sumTo ws k) (el ws k))] 65))
        clear hbad hgood hz' hck2
        go_wp2_with (at_builtin; refine wpList_append_one rfl _ _ 28 rfl sty_nums w1.heap.size rfl hm3 rfl (by simp) (Fits.of_u64 hgr.1 hgr.2) (by rw [mk_length]; omega) (by omega) hb3.size ?_; intro r' w4 hm4 hb4)
        have hbr4 := hb3.trans hb4
        clear hm2 hm3 hb3 hb4
        go_wp2_with fail
        go_roundw
        case rel => exact ⟨k + 1, by omega, hrel2.out, by go_num, by rw [hss.out], by rw [hsm.out]; exact hm4, hbr4⟩
        case measure => simp [intOf]; omega
    · obtain rfl : k = ws.length := by omega
      have e1 : partC b.length at_ ws = 0 := by unfold partC; rw [firstN_none _ _ Hok.out, if_neg (by omega)]
      have e2 : partA b.length at_ ws = 0 := by unfold partA; rw [firstN_none _ _ Hok.out, if_neg (by omega)]
      have e3 : partV b at_ ws = mk (partG b at_ ws) ws.length := by unfold partV; rw [firstN_none _ _ Hok.out, if_neg (by omega)]
      have E1 := Lib.hid e1
      have E2 := Lib.hid e2
      rw [← e3] at hm
      have hgt : w.heap.size < w1.heap.size := H1.out
      have e1' := HW1.out
      subst e1'
      obtain ⟨hc0, hc1, hf0, hf1, hz, hB⟩ := two_facts hbr
      clear hbr e1 e2 e3
      go_wp2_with fail
      exact bodyPost_ret (v := .tuple #[u8, .agg #[.int .i64 0, .int .i64 0]]) (by simp [results, Try.results109, go_sem, hc0, hc1]) rfl
        ⟨_, by rw [E1.out, E2.out], ((hm.setLow hgt _).setLow hgt _).base_le (Nat.le_of_lt hgt), by go_grown⟩

theorem refPart_any (ao bo : Option Addr) (na ca nb cb : Nat) (b ws : List Int) (at_ : Int) (w : World) (hr : Rd w .u8 ao na ca b) (hw : Rd w .i64 bo nb cb ws) (hna : na ≤ 1000000) (hnb : nb ≤ 1000000) (ha : Fits .i64 at_) :
    Calls Try.prog 110 #[.slice ao na ca, .int .i64 at_, .slice bo nb cb] w fun e w' => ∃ r, e = .returned (.tuple #[r, .agg #[.int .i64 (partC na at_ ws), .int .i64 (partA na at_ ws)]]) ∧ Mine w' w.heap.size 23 .u64 r (partV b at_ ws) ∧ Below w.heap.size w w' := by
  obtain rfl := hr.len
  obtain rfl := hw.len
  have hb1 : Below w.heap.size w (w.alloc (.cells #[.int .i64 0, .int .i64 0] 65)) := (Below.refl _ _).alloc (Nat.le_refl _) _
  have hw1 := hw.below hb1
  have hr1 := hr.below hb1
  have hF0 : Below (w.alloc (.cells #[.int .i64 0, .int .i64 0] 65)).heap.size (w.alloc (.cells #[.int .i64 0, .int .i64 0] 65)) (w.alloc (.cells #[.int .i64 0, .int .i64 0] 65)) := Below.refl _ _
  have hs1 : w.heap.size < (w.alloc (.cells #[.int .i64 0, .int .i64 0] 65)).heap.size := by simp
  have H1 := Lib.hid hs1
  clear hs1 hb1
  go_enter Try.func110, Try.ntmps110
  go_wp2_with fail
  obtain ⟨w1, hW1⟩ : ∃ w1, w1 = w.alloc (.cells #[.int .i64 0, .int .i64 0] 65) := ⟨_, rfl⟩
  rw [← hW1] at hw1 hr1 hF0 H1 ⊢
  have HW1 := Lib.hid hW1
  clear hW1
  go_loopw [1, 8, 9] (fun a r i wr => ∃ k : Nat, k ≤ ws.length ∧ (∀ j, j < k → pBad b.length at_ ws j = false) ∧ i = .int .i64 k ∧ a = .int .i64 (at_ + sumTo ws k) ∧ Mine wr w1.heap.size 23 .u64 r (mk (partG b at_ ws) k) ∧ Below w1.heap.size w1 wr) (fun _ _ i _ => ws.length - (intOf i).toNat)
  case atStart => exact ⟨0, Nat.zero_le _, fun j hj => absurd hj (Nat.not_lt_zero j), rfl, by simp [sumTo], Mine.nil _ _ _ _, hF0⟩
  case round =>
    clear hF0
    obtain ⟨k, hk, hok, rfl, rfl, hm, hbr⟩ := hrel
    have hfit := pAt_fits hna ha hok
    have Hok := Lib.hid hok
    clear hok
    by_cases hl : k < ws.length
    · obtain ⟨b', off, rfl, hc⟩ := (hw1.below hbr).here (by omega)
      have hck := hc k hl
      have hr2 := hr1.below hbr
      have hfw := Fits.of_i64 (hw.fit.el_i64 k).1 (hw.fit.el_i64 k).2
      clear hc
      go_wp2_with fail
      refine (refGet_any _ _ _ _ _ _ _ hr2 hna hfit hfw).mono ?_
      rintro e w2 ⟨rfl, hb2⟩
      have hbr2 := hbr.trans (hb2.mono hbr.size)
      have hm2 := hm.below hb2
      have hck2 := ((hw1.below hbr2).here (by omega))
      have hgr := getV_range b (at_ + sumTo ws k) (el ws k)
      clear hm hb2 hr2
      by_cases hbad : pBad b.length at_ ws k = true
      · have e1 : partC b.length at_ ws = bfc b.length (at_ + sumTo ws k) (el ws k) := by unfold partC; rw [firstN_eq _ _ k Hok.out hbad hl, if_pos hl]
        have e2 : partA b.length at_ ws = k := by unfold partA; rw [firstN_eq _ _ k Hok.out hbad hl, if_pos hl]
        have e3 : partV b at_ ws = [] := by unfold partV; rw [firstN_eq _ _ k Hok.out hbad hl, if_pos hl]
        have E1 := Lib.hid e1
        have E2 := Lib.hid e2
        have E3 := Lib.hid e3
        clear e1 e2 e3
        unfold pBad at hbad
        have e1 := HW1.out
        subst e1
        obtain ⟨hc0, hc1, hf0, hf1, hz, hB⟩ := two_facts hbr2
        clear hbr2 hbr hm2 hck2 hck
        go_wp2_with (go_at_call 90; refine (F_any _ _ _).mono ?_; rintro e w1 ⟨rfl, rfl⟩)
        exact bodyPost_ret (v := .tuple #[.slice none 0 0, .agg #[.int .i64 (bfc b.length (at_ + sumTo ws k) (el ws k)), .int .i64 k]]) (by simp [results, Try.results110, go_sem, hc0, hc1, hz]) rfl ⟨_, by rw [E1.out, E2.out], by rw [E3.out]; exact Mine.nil _ _ _ _, by go_grown⟩
      · have hgood : pBad b.length at_ ws k = false := by simpa using hbad
        have hrel2 : Hid (∀ j, j < k + 1 → pBad b.length at_ ws j = false) := fun j hj => by
          by_cases h : j = k
          · subst h; exact hgood
          · exact Hok.out j (by omega)
        have hz : (bfc b.length (at_ + sumTo ws k) (el ws k) != 0) = false := hgood
        have hz' := bfc_zero (by simpa using hz)
        have hza : Hid (bfa b.length (at_ + sumTo ws k) (el ws k) = 0) := hz'.2.2.2.2
        have hz2 : 0 ≤ at_ + sumTo ws k ∧ at_ + sumTo ws k + el ws k ≤ 8 * (b.length : Int) ∧ 1 ≤ el ws k := ⟨hz'.2.2.1, hz'.2.2.2.1, hz'.1⟩
        have hss : Hid (at_ + sumTo ws (k + 1) = at_ + sumTo ws k + el ws k) := by show at_ + (sumTo ws k + el ws k) = _; omega
        have hsm : Hid (mk (partG b at_ ws) (k + 1) = mk (partG b at_ ws) k ++ [getV b (at_ + sumTo ws k) (el ws k)]) := mk_succ _ _
        have hb3 := hbr2.alloc hbr2.size (.cells #[.int .i64 (bfc b.length (at_ + sumTo ws k) (el ws k)), .int .i64 (bfa b.length (at_ + sumTo ws k) (el ws k))] 65)
        have hm3 := hm2.below ((Below.refl _ _).alloc (Nat.le_refl _) (.cells #[.int .i64 (bfc b.length (at_ + sumTo ws k) (el ws k)), .int .i64 (bfa b.length (at_ + sumTo ws k) (el ws k))] 65))
        clear hbad hgood hz' hck2
        go_wp2_with (at_builtin; refine wpList_append_one rfl _ _ 28 rfl sty_nums w1.heap.size rfl hm3 rfl (by simp) (Fits.of_u64 hgr.1 hgr.2) (by rw [mk_length]; omega) (by omega) hb3.size ?_; intro r' w4 hm4 hb4; have hbr4 := hb3.trans hb4; obtain ⟨b4, off4, e4, hc4⟩ := (hw1.below hbr4).here (by omega); have hck4 := hc4 k hl; cases e4; clear hc4)
        clear hm2 hm3 hb3 hb4
        go_wp2_with fail
        go_roundw
        case rel => exact ⟨k + 1, by omega, hrel2.out, by go_num, by rw [hss.out], by rw [hsm.out]; exact hm4, hbr4⟩
        case measure => simp [intOf]; omega
    · obtain rfl : k = ws.length := by omega
      have e1 : partC b.length at_ ws = 0 := by unfold partC; rw [firstN_none _ _ Hok.out, if_neg (by omega)]
      have e2 : partA b.length at_ ws = 0 := by unfold partA; rw [firstN_none _ _ Hok.out, if_neg (by omega)]
      have e3 : partV b at_ ws = mk (partG b at_ ws) ws.length := by unfold partV; rw [firstN_none _ _ Hok.out, if_neg (by omega)]
      have E1 := Lib.hid e1
      have E2 := Lib.hid e2
      rw [← e3] at hm
      have hgt : w.heap.size < w1.heap.size := H1.out
      have e1' := HW1.out
      subst e1'
      obtain ⟨hc0, hc1, hf0, hf1, hz, hB⟩ := two_facts hbr
      clear hbr e1 e2 e3
      go_wp2_with fail
      exact bodyPost_ret (v := .tuple #[u8, .agg #[.int .i64 0, .int .i64 0]]) (by simp [results, Try.results110, go_sem, hc0, hc1]) rfl
        ⟨_, by rw [E1.out, E2.out], ((hm.setLow hgt _).setLow hgt _).base_le (Nat.le_of_lt hgt), by go_grown⟩

/-- Region that reads two lists side by side. -/
theorem SameNums_any (ao bo : Option Addr) (na ca nb cb : Nat) (xs ys : List Int) (w : World) (hx : Rd w .u64 ao na ca xs) (hy : Rd w .u64 bo nb cb ys) :
    Calls Try.prog 61 #[.slice ao na ca, .slice bo nb cb] w fun e w' => e = .returned (.bool (decide (xs = ys))) ∧ ∃ q, w' = w.drewN q := by
  obtain rfl := hx.len
  obtain rfl := hy.len
  have hlx := hx.lt
  by_cases hlen : xs.length = ys.length
  case neg =>
    have hq : ((xs.length : Int) != ys.length) = true := by rw [bne_iff_ne]; omega
    have e1 : decide (xs = ys) = false := by simp; intro h; exact hlen (by rw [h])
    rw [e1]
    go_enter Try.func61, Try.ntmps61
    go_wp2_with fail
    go_ret
    exact ⟨rfl, 0, rfl⟩
  have hq : ((xs.length : Int) != ys.length) = false := by rw [hlen]; simp
  have Hlen := Lib.hid hlen
  clear hlen
  go_enter Try.func61, Try.ntmps61
  go_wp2_with fail
  go_loopw [5] (fun i wr => ∃ k : Nat, k ≤ xs.length ∧ (∀ j, j < k → el xs j = el ys j) ∧ i = .int .i64 k ∧ ∃ q, wr = w.drewN q) (fun i _ => xs.length - (intOf i).toNat)
  case atStart => exact ⟨0, Nat.zero_le _, fun j hj => absurd hj (Nat.not_lt_zero j), rfl, 0, rfl⟩
  case round =>
    obtain ⟨k, hk, hok, rfl, hqe⟩ := hrel
    have hwc : ∀ p, wr.cell? p = w.cell? p := by obtain ⟨q, rfl⟩ := hqe; intro p; rfl
    have HQ := Lib.hid hqe
    clear hqe
    have Hok := Lib.hid hok
    clear hok
    by_cases hl : k < xs.length
    · obtain ⟨b, off, rfl, hc⟩ := hx.here (by omega)
      obtain ⟨b', off', e', hc'⟩ := hy.here (by have := Hlen.out; omega)
      have hck : wr.cell? ⟨b, off + k, none⟩ = some (.int .u64 (el xs k)) := (hwc _).trans (hc k hl)
      have hck' : wr.cell? ⟨b', off' + k, none⟩ = some (.int .u64 (el ys k)) := (hwc _).trans (hc' k (by have := Hlen.out; omega))
      have hly : (k : Int) < ys.length := by have := Hlen.out; omega
      subst e'
      clear hc hc' hwc
      go_wp2_with fail
      go_quiet (fail)
      by_cases he : el xs k = el ys k
      · have he' : (el xs k != el ys k) = false := by rw [he]; simp
        have hrel2 : Hid (∀ j, j < k + 1 → el xs j = el ys j) := fun j hj => by
          by_cases h : j = k
          · subst h; exact he
          · exact Hok.out j (by omega)
        clear he
        go_wp2_with fail
        go_roundw
        case rel => exact ⟨k + 1, by omega, hrel2.out, by go_num, by obtain ⟨q, rfl⟩ := HQ.out; exact ⟨q + nq, by simp [World.drewN, Nat.add_assoc]⟩⟩
        case measure => simp [intOf]; omega
      · have he' : (el xs k != el ys k) = true := by rw [bne_iff_ne]; exact he
        have e1 : Hid (decide (xs = ys) = false) := by show decide (xs = ys) = false; simp; intro h; exact he (by rw [h])
        clear he
        go_wp2_with fail
        go_ret
        exact ⟨by rw [e1.out]; rfl, by obtain ⟨q, rfl⟩ := HQ.out; exact ⟨q + nq, by simp [World.drewN, Nat.add_assoc]⟩⟩
    · obtain rfl : k = xs.length := by omega
      have e1 : Hid (decide (xs = ys) = true) := by show decide (xs = ys) = true; simp; exact ext_el Hlen.out Hok.out
      clear hwc
      go_wp2_with fail
      go_ret
      exact ⟨by rw [e1.out]; rfl, HQ.out⟩

end Go.Proofs.Ytfakdapglbgokaa

/-
  The plain laws of bits: what was put is got; what was joined is parted. No program in sight. No condition.
-/
namespace Go.Proofs.Ytfakdapglbgokaa
set_option linter.all false
open Go.RowKit

theorem and_ones (v w : Int) (h0 : 0 ≤ v) (h1 : v ≤ 18446744073709551615) (hw0 : 1 ≤ w) (hw : w ≤ 64) : bits .and .u64 v (ones w) = v % 2 ^ w.toNat := by
  have hr := ones_range w
  unfold ones at hr ⊢
  rw [if_pos ⟨hw0, hw⟩] at hr ⊢
  obtain ⟨a, rfl⟩ := Int.eq_ofNat_of_zero_le h0
  have hp : 0 < 2 ^ w.toNat := Nat.two_pow_pos _
  have e1 : onesN w.toNat = ((2 ^ w.toNat - 1 : Nat) : Int) := by
    unfold onesN
    have : ((2 ^ w.toNat : Nat) : Int) = (2 : Int) ^ w.toNat := by simp
    omega
  rw [e1] at hr ⊢
  rw [u64_and_nat a _ (by omega) (by omega), Nat.and_two_pow_sub_one_eq_mod]
  simp

theorem putN_same (b : List Int) (at_ w : Nat) (u v : Int) : putN (putN b at_ w u) at_ w v = putN b at_ w v := by
  show bytesF _ _ = bytesF _ _
  rw [putN_length]
  refine bytesF_congr _ _ _ fun k hk => ?_
  unfold putF
  by_cases h : at_ ≤ k ∧ k < at_ + w
  · rw [if_pos h, if_pos h]
  · rw [if_neg h, if_neg h, bitAt_putN _ _ _ _ _ hk]
    unfold putF
    rw [if_neg h]
theorem putN_apart (b : List Int) (at_ w to k : Nat) (u v : Int) (h : at_ + w ≤ to ∨ to + k ≤ at_) : putN (putN b at_ w u) to k v = putN (putN b to k v) at_ w u := by
  show bytesF _ _ = bytesF _ _
  rw [putN_length, putN_length]
  refine bytesF_congr _ _ _ fun i hi => ?_
  show (if to ≤ i ∧ i < to + k then nbit v k (i - to) else bitAt (putN b at_ w u) i) = (if at_ ≤ i ∧ i < at_ + w then nbit u w (i - at_) else bitAt (putN b to k v) i)
  rw [bitAt_putN _ _ _ _ _ hi, bitAt_putN _ _ _ _ _ hi]
  unfold putF
  by_cases h1 : at_ ≤ i ∧ i < at_ + w
  · rw [if_pos h1, if_pos h1, if_neg (by omega)]
  · rw [if_neg h1, if_neg h1]
theorem getN_putN (b : List Int) (at_ w : Nat) (v : Int) (h : at_ + w ≤ 8 * b.length) : getN (putN b at_ w v) at_ w = v % 2 ^ w := by
  unfold getN
  rw [acc_congr _ (nbit v w) w fun k hk => by
    rw [bitAt_putN _ _ _ _ _ (by omega)]; unfold putF; rw [if_pos (by omega), Nat.add_sub_cancel_left]]
  rw [acc_nbit v w w (Nat.le_refl _)]
  simp
theorem getN_one (b : List Int) (k : Nat) : getN b k 1 = bitAt b k := by simp [getN, acc]

theorem catTo_le (v w : List Int) (i m : Nat) (h : i ≤ m) : (catTo v w i).length ≤ (catTo v w m).length := by
  induction m with
  | zero => obtain rfl : i = 0 := (by omega); exact Nat.le_refl _
  | succ m ih =>
    by_cases he : i = m + 1
    · subst he; exact Nat.le_refl _
    · have := ih (by omega)
      simp only [catTo, List.length_append]; omega
theorem el_catTo (v w : List Int) (i m k : Nat) (hi : i < m) (hk : k < (el w i).toNat) : el (catTo v w m) ((catTo v w i).length + k) = nbit (el v i) (el w i).toNat k := by
  induction m with
  | zero => omega
  | succ m ih =>
    have h1 : (catTo v w (i + 1)).length = (catTo v w i).length + (el w i).toNat := by simp [catTo, numB_length]
    simp only [catTo]
    by_cases he : i = m
    · subst he
      rw [el_append_right]
      exact el_mk _ _ _ hk
    · have h2 := catTo_le v w (i + 1) m (by omega)
      rw [el_append_left _ _ _ (by omega)]
      exact ih (by omega)

theorem joinC_ok {v ws : List Int} (h : joinC v.length ws = 0) : v.length = ws.length ∧ ∀ j, j < ws.length → badW ws j = false := by
  unfold joinC at h
  split at h
  · cases h
  · rename_i h1
    split at h
    · cases h
    · rename_i h2
      have := firstN_le (badW ws) ws.length
      exact ⟨by simpa using h1, firstN_all _ _ (by omega)⟩

theorem join_parted (v ws : List Int) (h : joinC v.length ws = 0) (hv : AllFit .u64 v) (i : Nat) (hi : i < ws.length) :
    pBad (joinV v ws).length 0 ws i = false ∧ partG (joinV v ws) 0 ws i = bits .and .u64 (el v i) (ones (el ws i)) := by
  obtain ⟨hlen, hok⟩ := joinC_ok h
  have hw := okW (hok i hi)
  have hcl := catTo_length v ws ws.length hok
  have hci := catTo_length v ws i (fun j hj => hok j (by omega))
  have hmo := sumTo_mono (i := i + 1) (j := ws.length) (by omega) hok
  have hsi := sumTo_ok (w := ws) (i := i) (fun j hj => hok j (by omega))
  simp only [sumTo] at hmo
  have hJ : joinV v ws = bytesF (el (catTo v ws ws.length)) (((catTo v ws ws.length).length + 7) / 8) := by unfold joinV; rw [if_pos h]
  have hJl : (joinV v ws).length = ((catTo v ws ws.length).length + 7) / 8 := by rw [hJ, bytesF_length]
  have hb : bfc (joinV v ws).length (0 + sumTo ws i) (el ws i) = 0 := by rw [hJl]; unfold bfc; rw [if_neg (by omega), if_neg (by omega)]
  have hve := hv.el_u64 i
  refine ⟨by unfold pBad; rw [hb]; rfl, ?_⟩
  unfold partG getV
  rw [if_pos hb, and_ones _ _ hve.1 hve.2 hw.1 hw.2]
  unfold getN
  rw [acc_congr _ (nbit (el v i) (el ws i).toNat) _ fun k hk => ?_]
  · rw [acc_nbit _ _ _ (Nat.le_refl _)]; simp
  · rw [hJ, bitAt_bytesF _ (catTo_bits _ _ _) _ _ (by omega), show (0 + sumTo ws i).toNat + k = (catTo v ws i).length + k from by omega]
    exact el_catTo v ws i ws.length k hi hk

end Go.Proofs.Ytfakdapglbgokaa

/-
  Package prefix: New, bit, fits, Len. No condition.
-/
namespace Go.Proofs.Ytfakdapglbgokaa
set_option linter.all false
open Go.RowKit
attribute [local go_sem ↓] Go.wp_at_zero Go.wp_at_succ

theorem i64_wrap_ {x : Int} (h : -9223372036854775808 ≤ x) (h2 : x ≤ 9223372036854775807) : IntKind.i64.wrap x = x := by
  simp [IntKind.wrap, IntKind.bits, IntKind.signed, Int.bmod]; omega
theorem pfxLen_any (gt : Nat) (width most n : Int) (M : Nat → Prop) (adr : Nat → Int → Option Nat) (dat : Nat → Int → Dat) (w : World) (h : Pfx w gt width most n M adr dat) :
    Calls Try.prog 42 #[.pointer (some ⟨gt, 0, none⟩)] w fun e w' => e = .returned (.int .i64 n) ∧ w = w' := by
  have h0 := h.blk.cell 2
  simp at h0
  have hz := h.blk.lt
  go_enter Try.func42, Try.ntmps42
  go_wp2_with fail
  go_ret
  exact ⟨rfl, rfl⟩

theorem pfxBit_any (gt : Nat) (W i : Nat) (key most n : Int) (M : Nat → Prop) (adr : Nat → Int → Option Nat) (dat : Nat → Int → Dat) (w : World) (h : Pfx w gt (W : Int) most n M adr dat) (hW : W ≤ 64) (hi : i < W) (hk : Fits .u64 key) :
    Calls Try.prog 84 #[.pointer (some ⟨gt, 0, none⟩), .int .u64 key, .int .i64 (i : Int)] w fun e w' => e = .returned (.int .i64 (kbit W key i)) ∧ w = w' := by
  have h0 := h.blk.cell 0
  simp at h0
  have hz := h.blk.lt
  have hk' := hk.u64
  have hcode : bits .and .u64 (key / 2 ^ (W - 1 - i)) 1 = kbit W key i := and_one_shift key hk'.1 hk'.2 (W - 1 - i)
  have hr := kbit_range W key i
  have hw : IntKind.i64.wrap (kbit W key i) = kbit W key i := i64_wrap_ (by omega) (by omega)
  have H := Lib.hid h
  clear h
  go_enter Try.func84, Try.ntmps84
  go_wp2_with fail
  go_ret
  refine ⟨ret_int_ ?_, rfl⟩
  first | rfl | (rw [hcode]; exact hw) | exact hw | (simp only [hw]; done)

set_option maxHeartbeats 1000000 in
theorem pfxNew_any (width most : Int) (w : World) :
    Calls Try.prog 17 #[.int .i64 width, .int .i64 most] w fun e w' => ∃ gt M adr dat, e = .returned (.pointer (some ⟨gt, 0, none⟩)) ∧ Pfx w' gt width most 0 M adr dat ∧ Below w.heap.size w w' := by
  go_enter Try.func17, Try.ntmps17
  go_wp2_with fail
  go_ret
  refine ⟨w.heap.size + 1, fun _ => False, fun i v => if i = 0 ∧ v = 0 then some w.heap.size else none, fun _ _ => noDat, rfl, ⟨?_, ⟨?_, ?_, ?_, fun _ h => h.elim⟩, fun h => h, by simp⟩, al (al (rf w) _) _⟩
  · have := Blk.new (w.alloc (.cells #[.bool false, .int .i64 0, .slice none 0 0, .pointer none, .pointer none] 111)) 113 #[.int .i64 width, .int .i64 most, .int .i64 0, .pointer (some ⟨w.heap.size, 0, none⟩)]
    simpa [ptr] using this
  · intro i v g e
    by_cases h : i = 0 ∧ v = 0
    · rw [if_pos h] at e
      cases e
      refine ⟨⟨none, 0, 0, ?_, RdL.nil_ _ _ _, Fits.of_i64 (by decide) (by decide)⟩, fun h => h⟩
      have := (Blk.new w 111 #[.bool false, .int .i64 0, .slice none 0 0, .pointer none, .pointer none]).alloc (.cells #[.int .i64 width, .int .i64 most, .int .i64 0, .pointer (some ⟨w.heap.size, 0, none⟩)] 113)
      simpa [ptr, noDat] using this
    · rw [if_neg h] at e; cases e
  · intro i v j u g e1 e2
    by_cases h : i = 0 ∧ v = 0
    · by_cases h2 : j = 0 ∧ u = 0
      · exact ⟨h.1.trans h2.1.symm, h.2.trans h2.2.symm⟩
      · rw [if_neg h2] at e2; cases e2
    · rw [if_neg h] at e1; cases e1
  · intro i v h
    simp at h
set_option maxRecDepth 100000 in
set_option maxHeartbeats 2000000 in
theorem pfxFits_any (gt : Nat) (width key k most n : Int) (M : Nat → Prop) (adr : Nat → Int → Option Nat) (dat : Nat → Int → Dat) (w : World) (h : Pfx w gt width most n M adr dat) (hw : Fits .i64 width) (hk : Fits .i64 k) (hkey : Fits .u64 key) :
    Calls Try.prog 80 #[.pointer (some ⟨gt, 0, none⟩), .int .u64 key, .int .i64 k] w fun e w' => e = .returned (.bool (pfits width key k)) ∧ w = w' := by
  have h0 := h.blk.cell 0
  simp at h0
  have hz := h.blk.lt
  have hk' := hkey.u64
  have hwi := hw.i64
  have hki := hk.i64
  clear h
  by_cases c1 : width < 1
  · have q : pfits width key k = false := by unfold pfits; rw [decide_eq_false_iff_not]; omega
    have Q := Lib.hid q
    clear q
    go_enter Try.func80, Try.ntmps80
    go_wp2_with fail
    go_ret
    exact ⟨by rw [Q.out]; rfl, rfl⟩
  have c1' : 1 ≤ width := by omega
  by_cases c2 : 64 < width
  · have q : pfits width key k = false := by unfold pfits; rw [decide_eq_false_iff_not]; omega
    have Q := Lib.hid q
    clear q
    go_enter Try.func80, Try.ntmps80
    go_wp2_with fail
    go_ret
    exact ⟨by rw [Q.out]; rfl, rfl⟩
  have c2' : width ≤ 64 := by omega
  by_cases c3 : k < 0
  · have q : pfits width key k = false := by unfold pfits; rw [decide_eq_false_iff_not]; omega
    have Q := Lib.hid q
    clear q
    go_enter Try.func80, Try.ntmps80
    go_wp2_with fail
    go_ret
    exact ⟨by rw [Q.out]; rfl, rfl⟩
  have c3' : 0 ≤ k := by omega
  by_cases c4 : width < k
  · have q : pfits width key k = false := by unfold pfits; rw [decide_eq_false_iff_not]; omega
    have Q := Lib.hid q
    clear q
    go_enter Try.func80, Try.ntmps80
    go_wp2_with fail
    go_ret
    exact ⟨by rw [Q.out]; rfl, rfl⟩
  have c4' : k ≤ width := by omega
  have hon : ones width = 2 ^ width.toNat - 1 := by unfold ones; rw [if_pos ⟨c1', c2'⟩]; rfl
  by_cases c5 : ones width < key
  · have q : pfits width key k = false := by unfold pfits; rw [decide_eq_false_iff_not]; omega
    have Q := Lib.hid q
    clear q hon
    go_enter Try.func80, Try.ntmps80
    go_wp2_with (go_at_call 111; refine (Mask_any _ _ hw).mono ?_; rintro e w' ⟨rfl, rfl⟩)
    go_ret
    exact ⟨by rw [Q.out]; rfl, rfl⟩
  have c5' : key ≤ ones width := by omega
  by_cases c6 : k = width
  · have q : pfits width key k = true := by
      unfold pfits; rw [decide_eq_true_iff]
      subst c6
      refine ⟨c1', c2', c3', Int.le_refl _, by omega, by simp⟩
    have Q := Lib.hid q
    have q6 : (k == width) = true := by rw [beq_iff_eq]; exact c6
    clear q hon c6
    go_enter Try.func80, Try.ntmps80
    go_wp2_with (go_at_call 111; refine (Mask_any _ _ hw).mono ?_; rintro e w' ⟨rfl, rfl⟩)
    go_ret
    exact ⟨by rw [Q.out]; rfl, rfl⟩
  have q6 : (k == width) = false := by rw [beq_eq_false_iff_ne]; exact c6
  have hs : IntKind.i64.wrap (width - k) = width - k := i64_wrap_ (by omega) (by omega)
  have hA : bits .and .u64 key (ones (width - k)) = key % 2 ^ (width - k).toNat := and_ones key (width - k) hk'.1 hk'.2 (by omega) (by omega)
  have hf2 : Fits .i64 (width - k) := Fits.of_i64 (by omega) (by omega)
  obtain ⟨r, hr⟩ : ∃ r, key % 2 ^ (width - k).toNat = r := ⟨_, rfl⟩
  have hq : pfits width key k = (r == 0) := by
    unfold pfits
    rw [← hr, Bool.eq_iff_iff, decide_eq_true_iff, beq_iff_eq]
    exact ⟨fun h => h.2.2.2.2.2, fun h => ⟨c1', c2', c3', c4', by omega, h⟩⟩
  rw [hr] at hA
  have Q := Lib.hid hq
  clear hq hon c6 hr
  go_enter Try.func80, Try.ntmps80
  go_wp2_with fail
  refine (Mask_any width _ hw).mono ?_
  rintro e w' ⟨rfl, rfl⟩
  go_wp2_with fail
  refine (Mask_any (width - k) _ hf2).mono ?_
  rintro e w' ⟨rfl, rfl⟩
  go_wp2_with fail
  go_ret
  exact ⟨by rw [Q.out]; rfl, rfl⟩
end Go.Proofs.Ytfakdapglbgokaa

/-
  Package prefix: at. No condition.
-/
namespace Go.Proofs.Ytfakdapglbgokaa
set_option linter.all false
open Go.RowKit
attribute [local go_sem ↓] Go.wp_at_zero Go.wp_at_succ

theorem quietEqP {P : Program} {f : FuncId} {args : Array Value} {w : World} {n : Nat} {v : Value}
    (h : Calls P f args (w.drewN n) fun e w' => e = .returned v ∧ w.drewN n = w') : Calls P f args (w.drewN n) fun e w'' => e = .returned v ∧ ∃ m, w'' = w.drewN m :=
  h.mono fun _ _ ⟨he, hm⟩ => ⟨he, n, hm.symm⟩
theorem Pfx.below {w w' : World} {gt : Nat} {width most n : Int} {M : Nat → Prop} {adr : Nat → Int → Option Nat} {dat : Nat → Int → Dat} (h : Pfx w gt width most n M adr dat) (hb : Below w.heap.size w w') : Pfx w' gt width most n M adr dat :=
  ⟨h.blk.below hb h.blk.lt, h.trie.below hb, h.out, h.root⟩

set_option maxRecDepth 100000 in
set_option maxHeartbeats 2000000 in
/-- Where a beginning stands. -/
theorem pfxAt_any (gt : Nat) (W k : Nat) (key most n : Int) (M : Nat → Prop) (adr : Nat → Int → Option Nat) (dat : Nat → Int → Dat) (w : World) (h : Pfx w gt (W : Int) most n M adr dat) (hW : W ≤ 64) (hk : k ≤ W) (hkey : Fits .u64 key) (hlt : key < 2 ^ W) :
    Calls Try.prog 81 #[.pointer (some ⟨gt, 0, none⟩), .int .u64 key, .int .i64 (k : Int), .bool false] w fun e w' => e = .returned (ptr (adr k (pre W key k))) ∧ Below w.heap.size w w' := by
  have h0 := h.blk.cell 3
  simp at h0
  have hz := h.blk.lt
  have H := Lib.hid h
  have hup := fun j (h1 : j ≤ k) (e : adr j (pre W key j) = none) => h.trie.none_up h1 hk e
  have HU := Lib.hid hup
  have p0 := pre_zero (W := W) hkey.u64.1 hlt
  obtain ⟨P, hP⟩ : ∃ P, ptr (adr k (pre W key k)) = P := ⟨_, rfl⟩
  obtain ⟨R, hR⟩ : ∃ R, ptr (adr 0 0) = R := ⟨_, rfl⟩
  rw [hR] at h0
  rw [hP]
  have HP := Lib.hid hP
  have HR := Lib.hid hR
  have HP0 := Lib.hid p0
  clear h hup hP hR p0
  go_enter Try.func81, Try.ntmps81
  go_wp2_with fail
  go_loopw [9, 10] (fun p i wr => ∃ j : Nat, j ≤ k ∧ i = .int .i64 j ∧ p = ptr (adr j (pre W key j)) ∧ Below w.heap.size w wr) (fun _ i _ => k - (intOf i).toNat)
  case atStart => exact ⟨0, Nat.zero_le _, rfl, by rw [HP0.out, HR.out], rf _⟩
  case round =>
    obtain ⟨j, hj, rfl, rfl, hbr⟩ := hrel
    by_cases hjk : j < k
    · cases e : adr j (pre W key j) with
      | none =>
        have E : Hid (P = .pointer none) := by show P = _; rw [← HP.out, HU.out j hj e]; rfl
        rw [ptr_none]
        go_wp2_with fail
        go_ret
        exact ⟨by rw [E.out]; rfl, hbr⟩
      | some g =>
        rw [ptr_some]
        obtain ⟨ao, an, ac, _, _, _, b3, b4, _, hg, _⟩ := (H.out.below hbr).trie.cells e
        have hs := pre_succ key (show j < W by omega)
        have hpr := Lib.hid hs
        have HB := fun w' (hb : Below w.heap.size w w') => pfxBit_any gt W j key most n M adr dat w' (H.out.below hb) hW (by omega) hkey
        have hkb : kbit W key j = 0 ∨ kbit W key j = 1 := by have := kbit_range W key j; omega
        have hgz : g < wr.heap.size := hg
        clear hs e hg
        rcases hkb with hb | hb
        · rw [hb] at HB
          have HB2 := Lib.hid HB
          have hn : Hid (pre W key (j + 1) = 2 * pre W key j) := by show _ = _; rw [hpr.out, hb]; omega
          clear HB hb b4
          obtain ⟨q, hq⟩ : ∃ q, adr (j + 1) (2 * pre W key j) = q := ⟨_, rfl⟩
          rw [hq] at b3
          have HQ := Lib.hid hq
          clear hq
          cases q with
          | none =>
            rw [ptr_none] at b3
            go_wp2_with fail
            go_big_quiet ((go_at_call 84; exact quietEqP (HB2.out _ (below_drewN_ hbr _))))
            go_wp2_with fail
            go_roundw
            case rel => exact ⟨j + 1, by omega, by go_num, by rw [hn.out, HQ.out]; rfl, below_drewN_ hbr _⟩
            case measure => simp [intOf]; omega
          | some g2 =>
            rw [ptr_some] at b3
            go_wp2_with fail
            go_big_quiet ((go_at_call 84; exact quietEqP (HB2.out _ (below_drewN_ hbr _))))
            go_wp2_with fail
            go_roundw
            case rel => exact ⟨j + 1, by omega, by go_num, by rw [hn.out, HQ.out]; rfl, below_drewN_ hbr _⟩
            case measure => simp [intOf]; omega
        · rw [hb] at HB
          have HB2 := Lib.hid HB
          have hn : Hid (pre W key (j + 1) = 2 * pre W key j + 1) := by show _ = _; rw [hpr.out, hb]
          clear HB hb b3
          obtain ⟨q, hq⟩ : ∃ q, adr (j + 1) (2 * pre W key j + 1) = q := ⟨_, rfl⟩
          rw [hq] at b4
          have HQ := Lib.hid hq
          clear hq
          cases q with
          | none =>
            rw [ptr_none] at b4
            go_wp2_with fail
            go_big_quiet ((go_at_call 84; exact quietEqP (HB2.out _ (below_drewN_ hbr _))))
            go_wp2_with fail
            go_roundw
            case rel => exact ⟨j + 1, by omega, by go_num, by rw [hn.out, HQ.out]; rfl, below_drewN_ hbr _⟩
            case measure => simp [intOf]; omega
          | some g2 =>
            rw [ptr_some] at b4
            go_wp2_with fail
            go_big_quiet ((go_at_call 84; exact quietEqP (HB2.out _ (below_drewN_ hbr _))))
            go_wp2_with fail
            go_roundw
            case rel => exact ⟨j + 1, by omega, by go_num, by rw [hn.out, HQ.out]; rfl, below_drewN_ hbr _⟩
            case measure => simp [intOf]; omega
    · obtain rfl : j = k := by omega
      rw [HP.out]
      go_wp2_with fail
      go_ret
      exact ⟨rfl, hbr⟩
end Go.Proofs.Ytfakdapglbgokaa

/-
  Package prefix: at, where it makes what is not there. No condition.
-/
namespace Go.Proofs.Ytfakdapglbgokaa
set_option linter.all false
open Go.RowKit
attribute [local go_sem ↓] Go.wp_at_zero Go.wp_at_succ

def adrSet (adr : Nat → Int → Option Nat) (j : Nat) (u : Int) (o : Option Nat) : Nat → Int → Option Nat := fun i v => if i = j ∧ v = u then o else adr i v
theorem adrSet_at (adr : Nat → Int → Option Nat) (j : Nat) (u : Int) (o : Option Nat) : adrSet adr j u o j u = o := by unfold adrSet; rw [if_pos ⟨rfl, rfl⟩]
theorem adrSet_ne {adr : Nat → Int → Option Nat} {j i : Nat} {u v : Int} {o : Option Nat} (h : ¬ (i = j ∧ v = u)) : adrSet adr j u o i v = adr i v := by unfold adrSet; rw [if_neg h]
def datSet (dat : Nat → Int → Dat) (j : Nat) (u : Int) (d : Dat) : Nat → Int → Dat := fun i v => if i = j ∧ v = u then d else dat i v
theorem datSet_at (dat : Nat → Int → Dat) (j : Nat) (u : Int) (d : Dat) : datSet dat j u d j u = d := by unfold datSet; rw [if_pos ⟨rfl, rfl⟩]
theorem datSet_ne {dat : Nat → Int → Dat} {j i : Nat} {u v : Int} {d : Dat} (h : ¬ (i = j ∧ v = u)) : datSet dat j u d i v = dat i v := by unfold datSet; rw [if_neg h]
/-- The cells of a new node. -/
def node0 : Array Value := #[.bool false, .int .i64 0, .slice none 0 0, .pointer none, .pointer none]
/-- A node more, below one that is there. 'c': which child (0 or 1). -/
theorem Pfx.grow {w : World} {gt : Nat} {width most n : Int} {M : Nat → Prop} {adr : Nat → Int → Option Nat} {dat : Nat → Int → Dat} (h : Pfx w gt width most n M adr dat) {j g c : Nat} {u : Int} (hg : adr j u = some g) (hc : c = 0 ∨ c = 1) (hn : adr (j + 1) (2 * u + c) = none) :
    Pfx ((w.setCell ⟨g, 3 + c, none⟩ (.pointer (some ⟨w.heap.size, 0, none⟩))).alloc (.cells node0 111)) gt width most n M (adrSet adr (j + 1) (2 * u + c) (some w.heap.size)) (datSet dat (j + 1) (2 * u + c) noDat) := by
  have hgt : gt ≠ g := fun e => h.ne hg e.symm
  have hMg : ¬ M g := (h.trie.node _ _ _ hg).2
  have hwM : ¬ M w.heap.size := fun hk => Nat.lt_irrefl _ (h.trie.lt _ hk)
  have hs : Step (fun k => k = g) w ((w.setCell ⟨g, 3 + c, none⟩ (.pointer (some ⟨w.heap.size, 0, none⟩))).alloc (.cells node0 111)) := (Step.set (fun k => k = g) w ⟨g, 3 + c, none⟩ rfl _).trans (Step.alloc _ _ _)
  refine ⟨?_, ⟨?_, ?_, ?_, fun k hk => Nat.lt_of_lt_of_le (h.trie.lt k hk) hs.size⟩, h.out, ?_⟩
  · rw [adrSet_ne (by omega)]
    exact (h.blk.far (p := ⟨g, 3 + c, none⟩) hgt _).alloc _
  · intro i v b e
    by_cases hx : i = j + 1 ∧ v = 2 * u + c
    · obtain ⟨rfl, rfl⟩ := hx
      rw [adrSet_at] at e
      cases e
      refine ⟨?_, hwM⟩
      rw [datSet_at]
      refine ⟨none, 0, 0, ?_, RdL.nil_ _ _ _, Fits.of_i64 (by decide) (by decide)⟩
      have hch : ∀ d : Int, d = 0 ∨ d = 1 → adr (j + 1 + 1) (2 * (2 * u + c) + d) = none := fun d hd => by
        cases e : adr (j + 1 + 1) (2 * (2 * u + c) + d) with
        | none => rfl
        | some x =>
          have := h.trie.up (j + 1) (2 * (2 * u + c) + d) (by rw [e]; simp)
          rw [show (2 * (2 * u + c) + d) / 2 = 2 * u + c by omega, hn] at this
          exact absurd rfl this
      have h1 := hch 0 (.inl rfl)
      have h2 := hch 1 (.inr rfl)
      rw [Int.add_zero] at h1
      rw [adrSet_ne (by omega), adrSet_ne (by omega), h1, h2]
      have := Blk.new (w.setCell ⟨g, 3 + c, none⟩ (.pointer (some ⟨w.heap.size, 0, none⟩))) 111 node0
      rw [show (w.setCell ⟨g, 3 + c, none⟩ (.pointer (some ⟨w.heap.size, 0, none⟩))).heap.size = w.heap.size by simp [World.setCell]] at this
      exact this
    · rw [adrSet_ne hx] at e
      rw [datSet_ne hx]
      obtain ⟨⟨ao, an, ac, b1, b2, b3⟩, hM⟩ := h.trie.node i v b e
      refine ⟨⟨ao, an, ac, ?_, b2.step (hs.mono fun k hk => by subst hk; exact hMg), b3⟩, hM⟩
      by_cases hij : i = j ∧ v = u
      · obtain ⟨rfl, rfl⟩ := hij
        rw [hg] at e
        cases e
        have B := (b1.set_ (3 + c) (.pointer (some ⟨w.heap.size, 0, none⟩))).alloc (.cells node0 111)
        rcases hc with rfl | rfl
        · rw [show (2 * v + ((0 : Nat) : Int)) = 2 * v by simp, adrSet_at, adrSet_ne (by omega)]
          simpa [ptr] using B
        · rw [adrSet_ne (by simp; omega), show (2 * v + ((1 : Nat) : Int)) = 2 * v + 1 by simp, adrSet_at]
          simpa [ptr] using B
      · have hbg : b ≠ g := fun hb => hij (h.trie.inj i v j u g (by rw [e, hb]) hg)
        rw [adrSet_ne (by rcases hc with rfl | rfl <;> simp <;> omega), adrSet_ne (by rcases hc with rfl | rfl <;> simp <;> omega)]
        exact (b1.far (p := ⟨g, 3 + c, none⟩) hbg _).alloc _
  · intro i v i2 v2 b e1 e2
    have hlt : ∀ i v b, adr i v = some b → b < w.heap.size := fun i v b e => by obtain ⟨⟨_, _, _, h1, _⟩, _⟩ := h.trie.node i v b e; exact h1.lt
    by_cases hx : i = j + 1 ∧ v = 2 * u + c
    · by_cases hy : i2 = j + 1 ∧ v2 = 2 * u + c
      · exact ⟨hx.1.trans hy.1.symm, hx.2.trans hy.2.symm⟩
      · obtain ⟨rfl, rfl⟩ := hx
        rw [adrSet_at] at e1
        rw [adrSet_ne hy] at e2
        cases e1
        exact absurd (hlt _ _ _ e2) (Nat.lt_irrefl _)
    · rw [adrSet_ne hx] at e1
      by_cases hy : i2 = j + 1 ∧ v2 = 2 * u + c
      · obtain ⟨rfl, rfl⟩ := hy
        rw [adrSet_at] at e2
        cases e2
        exact absurd (hlt _ _ _ e1) (Nat.lt_irrefl _)
      · rw [adrSet_ne hy] at e2
        exact h.trie.inj _ _ _ _ _ e1 e2
  · intro i v hne
    by_cases hx : i + 1 = j + 1 ∧ v = 2 * u + c
    · obtain ⟨h1, rfl⟩ := hx
      obtain rfl : i = j := by omega
      rw [show (2 * u + (c : Int)) / 2 = u by rcases hc with rfl | rfl <;> simp <;> omega]
      unfold adrSet
      split
      · simp
      · rw [hg]; simp
    · rw [adrSet_ne hx] at hne
      have := h.trie.up i v hne
      unfold adrSet
      split
      · simp
      · exact this
  · rw [adrSet_ne (by omega)]; exact h.root
/-- Nodes more, and nothing else. -/
structure Grown (w wr : World) (adr adr' : Nat → Int → Option Nat) (dat dat' : Nat → Int → Dat) : Prop where
  old : ∀ i v g, adr i v = some g → adr' i v = some g ∧ dat' i v = dat i v
  new : ∀ i v g, adr' i v = some g → adr i v = some g ∨ (w.heap.size ≤ g ∧ adr i v = none ∧ dat' i v = noDat)
  step : Step (fun b => ∃ i v, adr i v = some b) w wr
theorem Grown.refl (w : World) (adr : Nat → Int → Option Nat) (dat : Nat → Int → Dat) : Grown w w adr adr dat dat := ⟨fun _ _ _ e => ⟨e, rfl⟩, fun _ _ _ e => .inl e, Step.refl _ _⟩
theorem Grown.below {w wr w' : World} {adr adr' : Nat → Int → Option Nat} {dat dat' : Nat → Int → Dat} (h : Grown w wr adr adr' dat dat') (hb : Below wr.heap.size wr w') : Grown w w' adr adr' dat dat' := ⟨h.old, h.new, h.step.trans (Step.of hb)⟩
/-- Steps within blocks that are new are none. -/
theorem Step.fresh {A B : Nat → Prop} {w wr w' : World} (h : Step A w wr) (k : Step B wr w') (hB : ∀ b, B b → A b ∨ w.heap.size ≤ b) : Step A w w' :=
  ⟨k.os.trans h.os, k.tape.trans h.tape, k.output.trans h.output, Nat.le_trans h.size k.size, fun i hi hA => (k.block i (Nat.lt_of_lt_of_le hi h.size) fun hb => (hB i hb).elim hA fun h2 => absurd hi (Nat.not_lt_of_le h2)).trans (h.block i hi hA)⟩
theorem Grown.add {w wr : World} {gt : Nat} {width most n : Int} {M : Nat → Prop} {adr adr' : Nat → Int → Option Nat} {dat dat' : Nat → Int → Dat} (h : Grown w wr adr adr' dat dat') (hP : Pfx wr gt width most n M adr' dat') {j g c : Nat} {u : Int} (hg : adr' j u = some g) (hc : c = 0 ∨ c = 1) (hn : adr' (j + 1) (2 * u + c) = none) :
    Grown w ((wr.setCell ⟨g, 3 + c, none⟩ (.pointer (some ⟨wr.heap.size, 0, none⟩))).alloc (.cells node0 111)) adr (adrSet adr' (j + 1) (2 * u + c) (some wr.heap.size)) dat (datSet dat' (j + 1) (2 * u + c) noDat) := by
  refine ⟨fun i v b e => ?_, fun i v b e => ?_, ?_⟩
  · obtain ⟨h1, h2⟩ := h.old i v b e
    have hx : ¬ (i = j + 1 ∧ v = 2 * u + c) := fun hx => by obtain ⟨rfl, rfl⟩ := hx; rw [hn] at h1; cases h1
    rw [adrSet_ne hx, datSet_ne hx]
    exact ⟨h1, h2⟩
  · by_cases hx : i = j + 1 ∧ v = 2 * u + c
    · obtain ⟨rfl, rfl⟩ := hx
      rw [adrSet_at] at e
      cases e
      refine .inr ⟨h.step.size, ?_, datSet_at _ _ _ _⟩
      cases e2 : adr (j + 1) (2 * u + c) with
      | none => rfl
      | some x => have := (h.old _ _ _ e2).1; rw [hn] at this; cases this
    · rw [adrSet_ne hx] at e
      rw [datSet_ne hx]
      exact h.new i v b e
  · refine h.step.fresh ((Step.set (fun k => k = g) wr ⟨g, 3 + c, none⟩ rfl _).trans (Step.alloc _ _ _)) fun b hb => ?_
    subst hb
    rcases h.new j u b hg with e | ⟨e, _⟩
    · exact .inl ⟨j, u, e⟩
    · exact .inr e

set_option maxRecDepth 100000 in
set_option maxHeartbeats 4000000 in
/-- Where a beginning stands, made if it is not there. -/
theorem pfxAtGrow_any (gt : Nat) (W k : Nat) (key most n : Int) (M : Nat → Prop) (adr : Nat → Int → Option Nat) (dat : Nat → Int → Dat) (w : World) (h : Pfx w gt (W : Int) most n M adr dat) (hW : W ≤ 64) (hk : k ≤ W) (hkey : Fits .u64 key) (hlt : key < 2 ^ W) :
    Calls Try.prog 81 #[.pointer (some ⟨gt, 0, none⟩), .int .u64 key, .int .i64 (k : Int), .bool true] w fun e w' => ∃ adr' dat', e = .returned (ptr (adr' k (pre W key k))) ∧ adr' k (pre W key k) ≠ none ∧ Pfx w' gt (W : Int) most n M adr' dat' ∧ Grown w w' adr adr' dat dat' := by
  have h0 := h.blk.cell 3
  simp at h0
  have hz := h.blk.lt
  have H := Lib.hid h
  have p0 := pre_zero (W := W) hkey.u64.1 hlt
  obtain ⟨R, hR⟩ : ∃ R, ptr (adr 0 0) = R := ⟨_, rfl⟩
  rw [hR] at h0
  have HR := Lib.hid hR
  have HP0 := Lib.hid p0
  clear h hR p0
  go_enter Try.func81, Try.ntmps81
  go_wp2_with fail
  go_loopw [9, 10] (fun p i wr => ∃ (j : Nat) (adr' : Nat → Int → Option Nat) (dat' : Nat → Int → Dat), j ≤ k ∧ i = .int .i64 j ∧ p = ptr (adr' j (pre W key j)) ∧ Pfx wr gt (W : Int) most n M adr' dat' ∧ Grown w wr adr adr' dat dat' ∧ adr' j (pre W key j) ≠ none) (fun _ i _ => k - (intOf i).toNat)
  case atStart => exact ⟨0, adr, dat, Nat.zero_le _, rfl, by rw [HP0.out, HR.out], H.out, Grown.refl _ _ _, by rw [HP0.out]; exact H.out.root⟩
  case round =>
    obtain ⟨j, adr', dat', hj, rfl, rfl, hP, hGr, hne⟩ := hrel
    by_cases hjk : j < k
    · cases hE : adr' j (pre W key j) with
      | none => exact absurd hE hne
      | some g =>
        rw [ptr_some]
        obtain ⟨ao, an, ac, _, _, _, b3, b4, _, hg, hfz⟩ := hP.trie.cells hE
        have hs := pre_succ key (show j < W by omega)
        have hpr := Lib.hid hs
        have HB := fun w' (hb : Below wr.heap.size wr w') => pfxBit_any gt W j key most n M adr' dat' w' (hP.below hb) hW (by omega) hkey
        have hkb : kbit W key j = 0 ∨ kbit W key j = 1 := by have := kbit_range W key j; omega
        have hgz : g < wr.heap.size := hg
        have HE := Lib.hid hE
        clear hs hg hE
        rcases hkb with hb | hb
        · rw [hb] at HB
          have HB2 := Lib.hid HB
          have hn : Hid (pre W key (j + 1) = 2 * pre W key j) := by show _ = _; rw [hpr.out, hb]; omega
          clear HB hb b4
          obtain ⟨q, hq⟩ : ∃ q, adr' (j + 1) (2 * pre W key j) = q := ⟨_, rfl⟩
          rw [hq] at b3
          cases q with
          | none =>
            rw [ptr_none] at b3
            have HQ := Lib.hid hq
            clear hq
            go_wp2_with fail
            go_big_quiet ((go_at_call 84; exact quietEqP (HB2.out _ (below_drewN_ (rf _) _))))
            have hPd := hP.below (below_drewN_ (rf wr) nq)
            have hGd := hGr.below (below_drewN_ (rf wr) nq)
            clear hgz hfz b3 HB2
            generalize wr.drewN nq = wd at hPd hGd ⊢
            obtain ⟨ao2, an2, ac2, x0, x1, x2, x3, x4, x5, hgz, hfz⟩ := hPd.trie.cells HE.out
            clear x0 x1 x2 x5 x4
            rw [HQ.out, ptr_none] at x3
            have hfr := hfz 3
            have HG := Lib.hid (Pfx.grow hPd (c := 0) HE.out (.inl rfl) (by simpa using HQ.out))
            have HGr := Lib.hid (hGd.add hPd HE.out (c := 0) (.inl rfl) (by simpa using HQ.out))
            clear hfz
            go_wp2_with fail
            go_roundw
            case rel =>
              have e2 : pre W key (j + 1) = 2 * pre W key j + ((0 : Nat) : Int) := by rw [hn.out]; simp
              exact ⟨j + 1, _, _, by omega, by go_num, by rw [e2, adrSet_at]; rfl, HG.out, HGr.out, by rw [e2, adrSet_at]; simp⟩
            case measure => simp [intOf]; omega
          | some g2 =>
            rw [ptr_some] at b3
            have HQ := Lib.hid hq
            clear hq
            go_wp2_with fail
            go_big_quiet ((go_at_call 84; exact quietEqP (HB2.out _ (below_drewN_ (rf _) _))))
            go_wp2_with fail
            go_roundw
            case rel => exact ⟨j + 1, adr', dat', by omega, by go_num, by rw [hn.out, HQ.out]; rfl, hP.below (below_drewN_ (rf _) _), hGr.below (below_drewN_ (rf _) _), by rw [hn.out, HQ.out]; simp⟩
            case measure => simp [intOf]; omega
        · rw [hb] at HB
          have HB2 := Lib.hid HB
          have hn : Hid (pre W key (j + 1) = 2 * pre W key j + 1) := by show _ = _; rw [hpr.out, hb]
          clear HB hb b3
          obtain ⟨q, hq⟩ : ∃ q, adr' (j + 1) (2 * pre W key j + 1) = q := ⟨_, rfl⟩
          rw [hq] at b4
          cases q with
          | none =>
            rw [ptr_none] at b4
            have HQ := Lib.hid hq
            clear hq
            go_wp2_with fail
            go_big_quiet ((go_at_call 84; exact quietEqP (HB2.out _ (below_drewN_ (rf _) _))))
            have hPd := hP.below (below_drewN_ (rf wr) nq)
            have hGd := hGr.below (below_drewN_ (rf wr) nq)
            clear hgz hfz b4 HB2
            generalize wr.drewN nq = wd at hPd hGd ⊢
            obtain ⟨ao2, an2, ac2, x0, x1, x2, x3, x4, x5, hgz, hfz⟩ := hPd.trie.cells HE.out
            clear x0 x1 x2 x5 x3
            rw [HQ.out, ptr_none] at x4
            have hfr := hfz 4
            have HG := Lib.hid (Pfx.grow hPd (c := 1) HE.out (.inr rfl) (by simpa using HQ.out))
            have HGr := Lib.hid (hGd.add hPd HE.out (c := 1) (.inr rfl) (by simpa using HQ.out))
            clear hfz
            go_wp2_with fail
            go_roundw
            case rel =>
              have e2 : pre W key (j + 1) = 2 * pre W key j + ((1 : Nat) : Int) := by rw [hn.out]; simp
              exact ⟨j + 1, _, _, by omega, by go_num, by rw [e2, adrSet_at]; rfl, HG.out, HGr.out, by rw [e2, adrSet_at]; simp⟩
            case measure => simp [intOf]; omega
          | some g2 =>
            rw [ptr_some] at b4
            have HQ := Lib.hid hq
            clear hq
            go_wp2_with fail
            go_big_quiet ((go_at_call 84; exact quietEqP (HB2.out _ (below_drewN_ (rf _) _))))
            go_wp2_with fail
            go_roundw
            case rel => exact ⟨j + 1, adr', dat', by omega, by go_num, by rw [hn.out, HQ.out]; rfl, hP.below (below_drewN_ (rf _) _), hGr.below (below_drewN_ (rf _) _), by rw [hn.out, HQ.out]; simp⟩
            case measure => simp [intOf]; omega
    · obtain rfl : j = k := by omega
      obtain ⟨P, hPP⟩ : ∃ P, ptr (adr' j (pre W key j)) = P := ⟨_, rfl⟩
      have HPP := Lib.hid hPP
      rw [hPP]
      clear hPP
      go_wp2_with fail
      go_ret
      exact ⟨adr', dat', by rw [HPP.out]; rfl, hne, hP, hGr⟩
end Go.Proofs.Ytfakdapglbgokaa

/-
  slices.Clone of numbers. No condition.
-/
namespace Go.Proofs.Ytfakdapglbgokaa
set_option linter.all false
open Go.RowKit

theorem CloneNums_any (ao : Option Addr) (n cap : Nat) (xs : List Int) (w : World) (hr : Rd w .u64 ao n cap xs) (hn : n ≤ 1000000) :
    Calls Try.prog 83 #[.slice ao n cap] w fun e w' => ∃ r, e = .returned r ∧ Mine w' w.heap.size 23 .u64 r xs ∧ Below w.heap.size w w' := by
  have hq := fun w : World => Lib.run_eql_slice_nil (P := Try.prog) w 28 23 ao n cap 0 0 Try.underlying28
  cases ao with
  | none =>
    have h0 := hr.nil rfl
    have h1 := hr.le
    have h2 := hr.len
    obtain rfl : cap = 0 := h0
    obtain rfl : n = 0 := by omega
    obtain rfl : xs = [] := List.eq_nil_of_length_eq_zero h2
    go_enter Try.func83, Try.ntmps83
    go_wp2_with fail
    go_ret
    exact ⟨_, rfl, Mine.nil _ _ _ _, Below.refl _ _⟩
  | some a =>
    have hr' : Rd (w.alloc (.cells #[] 23)) .u64 (some a) n cap xs := hr.below ((Below.refl _ _).alloc (Nat.le_refl _) _)
    have hm : Mine (w.alloc (.cells #[] 23)) w.heap.size 23 .u64 (.slice (some ⟨w.heap.size, 0, none⟩) 0 0) [] := ⟨World.ownsRow_made w #[] 0 (Nat.le_refl _) (by simp [maxLen]) rfl, by simp [AllFit]⟩
    go_enter Try.func83, Try.ntmps83
    go_wp2_with (at_builtin; refine wpList_append_rd (v := .slice (some ⟨w.heap.size, 0, none⟩) 0 0) (xs := []) rfl _ _ 28 rfl sty_nums w.heap.size rfl hm rfl hr' (by simp; omega) (by omega) (by simp) ?_; intro r' w2 hm2 hg2)
    go_ret
    exact ⟨_, rfl, hm2, ((Below.refl _ _).alloc (Nat.le_refl _) _).grown hg2 (by simp) (by simp [Value.ownBlock])⟩

end Go.Proofs.Ytfakdapglbgokaa
