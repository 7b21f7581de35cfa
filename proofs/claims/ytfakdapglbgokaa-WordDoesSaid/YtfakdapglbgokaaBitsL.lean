/-
  Package bits and its references, eighth part: Part; SameNums. No condition.
-/
import Derived.Test.YtfakdapglbgokaaBitsK
namespace Go.Proofs.Ytfakdapglbgokaa
set_option linter.all false
open Go.RowKit

def pBad (n : Nat) (at_ : Int) (ws : List Int) (i : Nat) : Bool := bfc n (at_ + sumTo ws i) (el ws i) != 0
def partC (n : Nat) (at_ : Int) (ws : List Int) : Int := if firstN (pBad n at_ ws) ws.length < ws.length then bfc n (at_ + sumTo ws (firstN (pBad n at_ ws) ws.length)) (el ws (firstN (pBad n at_ ws) ws.length)) else 0
def partA (n : Nat) (at_ : Int) (ws : List Int) : Int := if firstN (pBad n at_ ws) ws.length < ws.length then (firstN (pBad n at_ ws) ws.length : Int) else 0
def partG (b : List Int) (at_ : Int) (ws : List Int) (i : Nat) : Int := getV b (at_ + sumTo ws i) (el ws i)
def partV (b : List Int) (at_ : Int) (ws : List Int) : List Int := if firstN (pBad b.length at_ ws) ws.length < ws.length then [] else mk (partG b at_ ws) ws.length
theorem pAt_fits {n : Nat} (hn : n ≤ 1000000) {at_ : Int} (ha : Fits .i64 at_) {ws : List Int} {k : Nat} (h : ∀ j, j < k → pBad n at_ ws j = false) : Fits .i64 (at_ + sumTo ws k) := by
  cases k with
  | zero => simpa [sumTo] using ha
  | succ k =>
    have h0 := h k (by omega)
    unfold pBad at h0
    have := bfc_zero (by simpa using h0)
    simp only [sumTo]
    exact Fits.of_i64 (by omega) (by omega)
theorem getV_range (b : List Int) (at_ w : Int) : 0 ≤ getV b at_ w ∧ getV b at_ w ≤ 18446744073709551615 := by
  unfold getV
  split
  · rename_i h
    obtain ⟨h1, h2, _⟩ := bfc_zero h
    have := getN_range b at_.toNat w.toNat
    have h3 : 2 ^ w.toNat ≤ 2 ^ 64 := pow2_le (by omega)
    have : (2 ^ 64 : Nat) = 18446744073709551616 := rfl
    omega
  · omega

theorem Part_any (ao bo : Option Addr) (na ca nb cb : Nat) (b ws : List Int) (at_ : Int) (w : World) (hr : Rd w .u8 ao na ca b) (hw : Rd w .i64 bo nb cb ws) (hna : na ≤ 1000000) (hnb : nb ≤ 1000000) (ha : Fits .i64 at_) :
    Calls Try.prog 109 #[.slice ao na ca, .int .i64 at_, .slice bo nb cb] w fun e w' => ∃ r, e = .returned (.tuple #[r, .agg #[.int .i64 (partC na at_ ws), .int .i64 (partA na at_ ws)]]) ∧ Mine w' w.heap.size 23 .u64 r (partV b at_ ws) ∧ Below w.heap.size w w' := by
  obtain rfl := hr.len
  obtain rfl := hw.len
  have hb1 : Below w.heap.size w (w.alloc (.cells #[.int .i64 0, .int .i64 0] 65)) := (Below.refl _ _).alloc (Nat.le_refl _) _
  have hw1 := hw.below hb1
  have hr1 := hr.below hb1
  have hF0 : Below (w.alloc (.cells #[.int .i64 0, .int .i64 0] 65)).heap.size (w.alloc (.cells #[.int .i64 0, .int .i64 0] 65)) (w.alloc (.cells #[.int .i64 0, .int .i64 0] 65)) := Below.refl _ _
  have hs1 : w.heap.size < (w.alloc (.cells #[.int .i64 0, .int .i64 0] 65)).heap.size := by simp
  have H1 := Lib.hid hs1
  clear hs1 hb1
  go_enter Try.func109, Try.ntmps109
  go_wp2_with fail
  obtain ⟨w1, hW1⟩ : ∃ w1, w1 = w.alloc (.cells #[.int .i64 0, .int .i64 0] 65) := ⟨_, rfl⟩
  rw [← hW1] at hw1 hr1 hF0 H1 ⊢
  have HW1 := Lib.hid hW1
  clear hW1
  go_loopw [1, 8, 15] (fun a r i wr => ∃ k : Nat, k ≤ ws.length ∧ (∀ j, j < k → pBad b.length at_ ws j = false) ∧ i = .int .i64 k ∧ a = .int .i64 (at_ + sumTo ws k) ∧ Mine wr w1.heap.size 23 .u64 r (mk (partG b at_ ws) k) ∧ Below w1.heap.size w1 wr) (fun _ _ i _ => ws.length - (intOf i).toNat)
  case atStart => exact ⟨0, Nat.zero_le _, fun j hj => absurd hj (Nat.not_lt_zero j), rfl, by simp [sumTo], Mine.nil _ _ _ _, hF0⟩
  case round =>
    clear hF0
    obtain ⟨k, hk, hok, rfl, rfl, hm, hbr⟩ := hrel
    have hfit := pAt_fits hna ha hok
    have Hok := Lib.hid hok
    clear hok
    by_cases hl : k < ws.length
    · obtain ⟨b', off, rfl, hc⟩ := (hw1.below hbr).here (by omega)
      have hck := hc k hl
      have hr2 := hr1.below hbr
      have hfw := Fits.of_i64 (hw.fit.el_i64 k).1 (hw.fit.el_i64 k).2
      clear hc
      go_wp2_with fail
      refine (Get_any _ _ _ _ _ _ _ hr2 hna hfit hfw).mono ?_
      rintro e w2 ⟨rfl, hb2⟩
      have hbr2 := hbr.trans (hb2.mono hbr.size)
      have hm2 := hm.below hb2
      have hck2 := ((hw1.below hbr2).here (by omega))
      have hgr := getV_range b (at_ + sumTo ws k) (el ws k)
      clear hm hb2 hr2
      by_cases hbad : pBad b.length at_ ws k = true
      · have e1 : partC b.length at_ ws = bfc b.length (at_ + sumTo ws k) (el ws k) := by unfold partC; rw [firstN_eq _ _ k Hok.out hbad hl, if_pos hl]
        have e2 : partA b.length at_ ws = k := by unfold partA; rw [firstN_eq _ _ k Hok.out hbad hl, if_pos hl]
        have e3 : partV b at_ ws = [] := by unfold partV; rw [firstN_eq _ _ k Hok.out hbad hl, if_pos hl]
        have E1 := Lib.hid e1
        have E2 := Lib.hid e2
        have E3 := Lib.hid e3
        clear e1 e2 e3
        unfold pBad at hbad
        have e1 := HW1.out
        subst e1
        obtain ⟨hc0, hc1, hf0, hf1, hz, hB⟩ := two_facts hbr2
        clear hbr2 hbr hm2 hck2 hck
        go_wp2_with fail
        go_region
        go_wp2_with fail
        exact bodyPost_ret (v := .tuple #[.slice none 0 0, .agg #[.int .i64 (bfc b.length (at_ + sumTo ws k) (el ws k)), .int .i64 k]]) (by simp [results, Try.results109, go_sem, hc0, hc1, hz]) rfl ⟨_, by rw [E1.out, E2.out], by rw [E3.out]; exact Mine.nil _ _ _ _, by go_grown⟩
      · have hgood : pBad b.length at_ ws k = false := by simpa using hbad
        have hrel2 : Hid (∀ j, j < k + 1 → pBad b.length at_ ws j = false) := fun j hj => by
          by_cases h : j = k
          · subst h; exact hgood
          · exact Hok.out j (by omega)
        have hz : (bfc b.length (at_ + sumTo ws k) (el ws k) != 0) = false := hgood
        have hz' := bfc_zero (by simpa using hz)
        have hza : Hid (bfa b.length (at_ + sumTo ws k) (el ws k) = 0) := hz'.2.2.2.2
        have hz2 : 0 ≤ at_ + sumTo ws k ∧ at_ + sumTo ws k + el ws k ≤ 8 * (b.length : Int) ∧ 1 ≤ el ws k := ⟨hz'.2.2.1, hz'.2.2.2.1, hz'.1⟩
        have hss : Hid (at_ + sumTo ws (k + 1) = at_ + sumTo ws k + el ws k) := by show at_ + (sumTo ws k + el ws k) = _; omega
        have hsm : Hid (mk (partG b at_ ws) (k + 1) = mk (partG b at_ ws) k ++ [getV b (at_ + sumTo ws k) (el ws k)]) := mk_succ _ _
        have hb3 := hbr2.alloc hbr2.size (.cells #[.int .i64 (bfc b.length (at_ + sumTo ws k) (el ws k)), .int .i64 (bfa b.length (at_ + sumTo ws k) (el ws k))] 65)
        have hm3 := hm2.below ((Below.refl _ _).alloc (Nat.le_refl _) (.cells #[.int .i64 (bfc b.length (at_ + sumTo ws k) (el ws k)), .int .i64 (bfa b.length (at_ + sumTo ws k) (el ws k))] 65))
        clear hbad hgood hz' hck2
        go_wp2_with (at_builtin; refine wpList_append_one rfl _ _ 28 rfl sty_nums w1.heap.size rfl hm3 rfl (by simp) (Fits.of_u64 hgr.1 hgr.2) (by rw [mk_length]; omega) (by omega) hb3.size ?_; intro r' w4 hm4 hb4)
        have hbr4 := hb3.trans hb4
        clear hm2 hm3 hb3 hb4
        go_wp2_with fail
        go_roundw
        case rel => exact ⟨k + 1, by omega, hrel2.out, by go_num, by rw [hss.out], by rw [hsm.out]; exact hm4, hbr4⟩
        case measure => simp [intOf]; omega
    · obtain rfl : k = ws.length := by omega
      have e1 : partC b.length at_ ws = 0 := by unfold partC; rw [firstN_none _ _ Hok.out, if_neg (by omega)]
      have e2 : partA b.length at_ ws = 0 := by unfold partA; rw [firstN_none _ _ Hok.out, if_neg (by omega)]
      have e3 : partV b at_ ws = mk (partG b at_ ws) ws.length := by unfold partV; rw [firstN_none _ _ Hok.out, if_neg (by omega)]
      have E1 := Lib.hid e1
      have E2 := Lib.hid e2
      rw [← e3] at hm
      have hgt : w.heap.size < w1.heap.size := H1.out
      have e1' := HW1.out
      subst e1'
      obtain ⟨hc0, hc1, hf0, hf1, hz, hB⟩ := two_facts hbr
      clear hbr e1 e2 e3
      go_wp2_with fail
      exact bodyPost_ret (v := .tuple #[u8, .agg #[.int .i64 0, .int .i64 0]]) (by simp [results, Try.results109, go_sem, hc0, hc1]) rfl
        ⟨_, by rw [E1.out, E2.out], ((hm.setLow hgt _).setLow hgt _).base_le (Nat.le_of_lt hgt), by go_grown⟩

theorem refPart_any (ao bo : Option Addr) (na ca nb cb : Nat) (b ws : List Int) (at_ : Int) (w : World) (hr : Rd w .u8 ao na ca b) (hw : Rd w .i64 bo nb cb ws) (hna : na ≤ 1000000) (hnb : nb ≤ 1000000) (ha : Fits .i64 at_) :
    Calls Try.prog 110 #[.slice ao na ca, .int .i64 at_, .slice bo nb cb] w fun e w' => ∃ r, e = .returned (.tuple #[r, .agg #[.int .i64 (partC na at_ ws), .int .i64 (partA na at_ ws)]]) ∧ Mine w' w.heap.size 23 .u64 r (partV b at_ ws) ∧ Below w.heap.size w w' := by
  obtain rfl := hr.len
  obtain rfl := hw.len
  have hb1 : Below w.heap.size w (w.alloc (.cells #[.int .i64 0, .int .i64 0] 65)) := (Below.refl _ _).alloc (Nat.le_refl _) _
  have hw1 := hw.below hb1
  have hr1 := hr.below hb1
  have hF0 : Below (w.alloc (.cells #[.int .i64 0, .int .i64 0] 65)).heap.size (w.alloc (.cells #[.int .i64 0, .int .i64 0] 65)) (w.alloc (.cells #[.int .i64 0, .int .i64 0] 65)) := Below.refl _ _
  have hs1 : w.heap.size < (w.alloc (.cells #[.int .i64 0, .int .i64 0] 65)).heap.size := by simp
  have H1 := Lib.hid hs1
  clear hs1 hb1
  go_enter Try.func110, Try.ntmps110
  go_wp2_with fail
  obtain ⟨w1, hW1⟩ : ∃ w1, w1 = w.alloc (.cells #[.int .i64 0, .int .i64 0] 65) := ⟨_, rfl⟩
  rw [← hW1] at hw1 hr1 hF0 H1 ⊢
  have HW1 := Lib.hid hW1
  clear hW1
  go_loopw [1, 8, 9] (fun a r i wr => ∃ k : Nat, k ≤ ws.length ∧ (∀ j, j < k → pBad b.length at_ ws j = false) ∧ i = .int .i64 k ∧ a = .int .i64 (at_ + sumTo ws k) ∧ Mine wr w1.heap.size 23 .u64 r (mk (partG b at_ ws) k) ∧ Below w1.heap.size w1 wr) (fun _ _ i _ => ws.length - (intOf i).toNat)
  case atStart => exact ⟨0, Nat.zero_le _, fun j hj => absurd hj (Nat.not_lt_zero j), rfl, by simp [sumTo], Mine.nil _ _ _ _, hF0⟩
  case round =>
    clear hF0
    obtain ⟨k, hk, hok, rfl, rfl, hm, hbr⟩ := hrel
    have hfit := pAt_fits hna ha hok
    have Hok := Lib.hid hok
    clear hok
    by_cases hl : k < ws.length
    · obtain ⟨b', off, rfl, hc⟩ := (hw1.below hbr).here (by omega)
      have hck := hc k hl
      have hr2 := hr1.below hbr
      have hfw := Fits.of_i64 (hw.fit.el_i64 k).1 (hw.fit.el_i64 k).2
      clear hc
      go_wp2_with fail
      refine (refGet_any _ _ _ _ _ _ _ hr2 hna hfit hfw).mono ?_
      rintro e w2 ⟨rfl, hb2⟩
      have hbr2 := hbr.trans (hb2.mono hbr.size)
      have hm2 := hm.below hb2
      have hck2 := ((hw1.below hbr2).here (by omega))
      have hgr := getV_range b (at_ + sumTo ws k) (el ws k)
      clear hm hb2 hr2
      by_cases hbad : pBad b.length at_ ws k = true
      · have e1 : partC b.length at_ ws = bfc b.length (at_ + sumTo ws k) (el ws k) := by unfold partC; rw [firstN_eq _ _ k Hok.out hbad hl, if_pos hl]
        have e2 : partA b.length at_ ws = k := by unfold partA; rw [firstN_eq _ _ k Hok.out hbad hl, if_pos hl]
        have e3 : partV b at_ ws = [] := by unfold partV; rw [firstN_eq _ _ k Hok.out hbad hl, if_pos hl]
        have E1 := Lib.hid e1
        have E2 := Lib.hid e2
        have E3 := Lib.hid e3
        clear e1 e2 e3
        unfold pBad at hbad
        have e1 := HW1.out
        subst e1
        obtain ⟨hc0, hc1, hf0, hf1, hz, hB⟩ := two_facts hbr2
        clear hbr2 hbr hm2 hck2 hck
        go_wp2_with (go_at_call 90; refine (F_any _ _ _).mono ?_; rintro e w1 ⟨rfl, rfl⟩)
        exact bodyPost_ret (v := .tuple #[.slice none 0 0, .agg #[.int .i64 (bfc b.length (at_ + sumTo ws k) (el ws k)), .int .i64 k]]) (by simp [results, Try.results110, go_sem, hc0, hc1, hz]) rfl ⟨_, by rw [E1.out, E2.out], by rw [E3.out]; exact Mine.nil _ _ _ _, by go_grown⟩
      · have hgood : pBad b.length at_ ws k = false := by simpa using hbad
        have hrel2 : Hid (∀ j, j < k + 1 → pBad b.length at_ ws j = false) := fun j hj => by
          by_cases h : j = k
          · subst h; exact hgood
          · exact Hok.out j (by omega)
        have hz : (bfc b.length (at_ + sumTo ws k) (el ws k) != 0) = false := hgood
        have hz' := bfc_zero (by simpa using hz)
        have hza : Hid (bfa b.length (at_ + sumTo ws k) (el ws k) = 0) := hz'.2.2.2.2
        have hz2 : 0 ≤ at_ + sumTo ws k ∧ at_ + sumTo ws k + el ws k ≤ 8 * (b.length : Int) ∧ 1 ≤ el ws k := ⟨hz'.2.2.1, hz'.2.2.2.1, hz'.1⟩
        have hss : Hid (at_ + sumTo ws (k + 1) = at_ + sumTo ws k + el ws k) := by show at_ + (sumTo ws k + el ws k) = _; omega
        have hsm : Hid (mk (partG b at_ ws) (k + 1) = mk (partG b at_ ws) k ++ [getV b (at_ + sumTo ws k) (el ws k)]) := mk_succ _ _
        have hb3 := hbr2.alloc hbr2.size (.cells #[.int .i64 (bfc b.length (at_ + sumTo ws k) (el ws k)), .int .i64 (bfa b.length (at_ + sumTo ws k) (el ws k))] 65)
        have hm3 := hm2.below ((Below.refl _ _).alloc (Nat.le_refl _) (.cells #[.int .i64 (bfc b.length (at_ + sumTo ws k) (el ws k)), .int .i64 (bfa b.length (at_ + sumTo ws k) (el ws k))] 65))
        clear hbad hgood hz' hck2
        go_wp2_with (at_builtin; refine wpList_append_one rfl _ _ 28 rfl sty_nums w1.heap.size rfl hm3 rfl (by simp) (Fits.of_u64 hgr.1 hgr.2) (by rw [mk_length]; omega) (by omega) hb3.size ?_; intro r' w4 hm4 hb4; have hbr4 := hb3.trans hb4; obtain ⟨b4, off4, e4, hc4⟩ := (hw1.below hbr4).here (by omega); have hck4 := hc4 k hl; cases e4; clear hc4)
        clear hm2 hm3 hb3 hb4
        go_wp2_with fail
        go_roundw
        case rel => exact ⟨k + 1, by omega, hrel2.out, by go_num, by rw [hss.out], by rw [hsm.out]; exact hm4, hbr4⟩
        case measure => simp [intOf]; omega
    · obtain rfl : k = ws.length := by omega
      have e1 : partC b.length at_ ws = 0 := by unfold partC; rw [firstN_none _ _ Hok.out, if_neg (by omega)]
      have e2 : partA b.length at_ ws = 0 := by unfold partA; rw [firstN_none _ _ Hok.out, if_neg (by omega)]
      have e3 : partV b at_ ws = mk (partG b at_ ws) ws.length := by unfold partV; rw [firstN_none _ _ Hok.out, if_neg (by omega)]
      have E1 := Lib.hid e1
      have E2 := Lib.hid e2
      rw [← e3] at hm
      have hgt : w.heap.size < w1.heap.size := H1.out
      have e1' := HW1.out
      subst e1'
      obtain ⟨hc0, hc1, hf0, hf1, hz, hB⟩ := two_facts hbr
      clear hbr e1 e2 e3
      go_wp2_with fail
      exact bodyPost_ret (v := .tuple #[u8, .agg #[.int .i64 0, .int .i64 0]]) (by simp [results, Try.results110, go_sem, hc0, hc1]) rfl
        ⟨_, by rw [E1.out, E2.out], ((hm.setLow hgt _).setLow hgt _).base_le (Nat.le_of_lt hgt), by go_grown⟩

/-- Region that reads two lists side by side. -/
theorem SameNums_any (ao bo : Option Addr) (na ca nb cb : Nat) (xs ys : List Int) (w : World) (hx : Rd w .u64 ao na ca xs) (hy : Rd w .u64 bo nb cb ys) :
    Calls Try.prog 61 #[.slice ao na ca, .slice bo nb cb] w fun e w' => e = .returned (.bool (decide (xs = ys))) ∧ ∃ q, w' = w.drewN q := by
  obtain rfl := hx.len
  obtain rfl := hy.len
  have hlx := hx.lt
  by_cases hlen : xs.length = ys.length
  case neg =>
    have hq : ((xs.length : Int) != ys.length) = true := by rw [bne_iff_ne]; omega
    have e1 : decide (xs = ys) = false := by simp; intro h; exact hlen (by rw [h])
    rw [e1]
    go_enter Try.func61, Try.ntmps61
    go_wp2_with fail
    go_ret
    exact ⟨rfl, 0, rfl⟩
  have hq : ((xs.length : Int) != ys.length) = false := by rw [hlen]; simp
  have Hlen := Lib.hid hlen
  clear hlen
  go_enter Try.func61, Try.ntmps61
  go_wp2_with fail
  go_loopw [5] (fun i wr => ∃ k : Nat, k ≤ xs.length ∧ (∀ j, j < k → el xs j = el ys j) ∧ i = .int .i64 k ∧ ∃ q, wr = w.drewN q) (fun i _ => xs.length - (intOf i).toNat)
  case atStart => exact ⟨0, Nat.zero_le _, fun j hj => absurd hj (Nat.not_lt_zero j), rfl, 0, rfl⟩
  case round =>
    obtain ⟨k, hk, hok, rfl, hqe⟩ := hrel
    have hwc : ∀ p, wr.cell? p = w.cell? p := by obtain ⟨q, rfl⟩ := hqe; intro p; rfl
    have HQ := Lib.hid hqe
    clear hqe
    have Hok := Lib.hid hok
    clear hok
    by_cases hl : k < xs.length
    · obtain ⟨b, off, rfl, hc⟩ := hx.here (by omega)
      obtain ⟨b', off', e', hc'⟩ := hy.here (by have := Hlen.out; omega)
      have hck : wr.cell? ⟨b, off + k, none⟩ = some (.int .u64 (el xs k)) := (hwc _).trans (hc k hl)
      have hck' : wr.cell? ⟨b', off' + k, none⟩ = some (.int .u64 (el ys k)) := (hwc _).trans (hc' k (by have := Hlen.out; omega))
      have hly : (k : Int) < ys.length := by have := Hlen.out; omega
      subst e'
      clear hc hc' hwc
      go_wp2_with fail
      go_quiet (fail)
      by_cases he : el xs k = el ys k
      · have he' : (el xs k != el ys k) = false := by rw [he]; simp
        have hrel2 : Hid (∀ j, j < k + 1 → el xs j = el ys j) := fun j hj => by
          by_cases h : j = k
          · subst h; exact he
          · exact Hok.out j (by omega)
        clear he
        go_wp2_with fail
        go_roundw
        case rel => exact ⟨k + 1, by omega, hrel2.out, by go_num, by obtain ⟨q, rfl⟩ := HQ.out; exact ⟨q + nq, by simp [World.drewN, Nat.add_assoc]⟩⟩
        case measure => simp [intOf]; omega
      · have he' : (el xs k != el ys k) = true := by rw [bne_iff_ne]; exact he
        have e1 : Hid (decide (xs = ys) = false) := by show decide (xs = ys) = false; simp; intro h; exact he (by rw [h])
        clear he
        go_wp2_with fail
        go_ret
        exact ⟨by rw [e1.out]; rfl, by obtain ⟨q, rfl⟩ := HQ.out; exact ⟨q + nq, by simp [World.drewN, Nat.add_assoc]⟩⟩
    · obtain rfl : k = xs.length := by omega
      have e1 : Hid (decide (xs = ys) = true) := by show decide (xs = ys) = true; simp; exact ext_el Hlen.out Hok.out
      clear hwc
      go_wp2_with fail
      go_ret
      exact ⟨by rw [e1.out]; rfl, HQ.out⟩

end Go.Proofs.Ytfakdapglbgokaa
