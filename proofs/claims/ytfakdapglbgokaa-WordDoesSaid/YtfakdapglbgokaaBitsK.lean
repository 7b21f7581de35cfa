/-
  Package bits and its references, seventh part: Join of the references; Part; SameNums. No condition.
-/
import Derived.Test.YtfakdapglbgokaaBitsJ
namespace Go.Proofs.Ytfakdapglbgokaa
set_option linter.all false
open Go.RowKit

theorem numBits_int (v w_ : Int) (w : World) (h0 : 0 ≤ v) (h1 : v ≤ 18446744073709551615) (hw0 : 0 ≤ w_) (hw : w_ ≤ 64) :
    Calls Try.prog 108 #[.int .u64 v, .int .i64 w_] w fun e w' => ∃ r, e = .returned r ∧ Mine w' w.heap.size 5 .u8 r (numB v w_.toNat) ∧ Below w.heap.size w w' := by
  obtain ⟨n, rfl⟩ := Int.eq_ofNat_of_zero_le hw0
  exact numBits_any v n w h0 h1 (by omega)

set_option maxHeartbeats 400000 in
theorem refJoin_any (ao bo : Option Addr) (na ca nb cb : Nat) (v ws : List Int) (w : World) (hv : Rd w .u64 ao na ca v) (hw : Rd w .i64 bo nb cb ws) (hna : na ≤ 10000) (hnb : nb ≤ 10000) :
    Calls Try.prog 113 #[.slice ao na ca, .slice bo nb cb] w fun e w' => ∃ r, e = .returned (.tuple #[r, .agg #[.int .i64 (joinC na ws), .int .i64 (joinA na ws)]]) ∧ Mine w' w.heap.size 5 .u8 r (joinV v ws) ∧ Below w.heap.size w w' := by
  obtain rfl := hv.len
  obtain rfl := hw.len
  by_cases hlen : v.length = ws.length
  case neg =>
    have hq : ((v.length : Int) != ws.length) = true := by rw [bne_iff_ne]; omega
    have e1 : joinC v.length ws = 2 := by unfold joinC; rw [if_pos hlen]
    have e2 : joinA v.length ws = -1 := by unfold joinA; rw [if_pos hlen]
    have e3 : joinV v ws = [] := by unfold joinV; rw [e1]; rfl
    rw [e1, e2, e3]
    clear e1 e2 e3
    go_enter Try.func113, Try.ntmps113
    go_wp2_with (go_at_call 90; refine (F_any _ _ _).mono ?_; rintro e w1 ⟨rfl, rfl⟩)
    exact bodyPost_ret (v := .tuple #[.slice none 0 0, .agg #[.int .i64 2, .int .i64 (-1)]]) (by simp [results, Try.results113, go_sem]) rfl ⟨_, rfl, Mine.nil _ _ _ _, by go_grown⟩
  have hq : ((v.length : Int) != ws.length) = false := by rw [hlen]; simp
  have Hlen := Lib.hid hlen
  clear hlen
  have hb1 : Below w.heap.size w (w.alloc (.cells #[.int .i64 0, .int .i64 0] 65)) := (Below.refl _ _).alloc (Nat.le_refl _) _
  have hw1 := hw.below hb1
  have hv1 := hv.below hb1
  have hF0 : Below (w.alloc (.cells #[.int .i64 0, .int .i64 0] 65)).heap.size (w.alloc (.cells #[.int .i64 0, .int .i64 0] 65)) (w.alloc (.cells #[.int .i64 0, .int .i64 0] 65)) := Below.refl _ _
  have hs1 : w.heap.size < (w.alloc (.cells #[.int .i64 0, .int .i64 0] 65)).heap.size := by simp
  have H1 := Lib.hid hs1
  clear hs1
  go_enter Try.func113, Try.ntmps113
  go_wp2_with fail
  obtain ⟨w1, hW1⟩ : ∃ w1, w1 = w.alloc (.cells #[.int .i64 0, .int .i64 0] 65) := ⟨_, rfl⟩
  rw [← hW1] at hb1 hw1 hv1 hF0 H1 ⊢
  have HW1 := Lib.hid hW1
  clear hW1
  go_loopw [6, 7] (fun r i wr => ∃ k : Nat, k ≤ ws.length ∧ (∀ j, j < k → badW ws j = false) ∧ i = .int .i64 k ∧ Mine wr w1.heap.size 5 .u8 r (catTo v ws k) ∧ Below w1.heap.size w1 wr) (fun _ i _ => ws.length - (intOf i).toNat)
  case atStart => exact ⟨0, Nat.zero_le _, fun j hj => absurd hj (Nat.not_lt_zero j), rfl, Mine.nil _ _ _ _, hF0⟩
  case round =>
    clear hF0
    obtain ⟨k, hk, hok, rfl, hm, hbr⟩ := hrel
    have hs := sumTo_ok hok
    have hcl := catTo_length v ws k hok
    have Hok := Lib.hid hok
    clear hok
    by_cases hl : k < ws.length
    · obtain ⟨b, off, rfl, hc⟩ := (hw1.below hbr).here (by omega)
      have hck := hc k hl
      clear hc
      by_cases hbad : badW ws k = true
      · have e1 : joinC v.length ws = 6 := by unfold joinC; rw [if_neg (by simpa using Hlen.out), firstN_eq _ _ k Hok.out hbad hl, if_pos hl]
        have e2 : joinA v.length ws = k := by unfold joinA; rw [if_neg (by simpa using Hlen.out), firstN_eq _ _ k Hok.out hbad hl, if_pos hl]
        have e3 : joinV v ws = [] := by unfold joinV; rw [e1]; rfl
        have E1 := Lib.hid e1
        have E2 := Lib.hid e2
        have E3 := Lib.hid e3
        clear e1 e2 e3
        unfold badW at hbad
        simp only [decide_eq_true_eq] at hbad
        have e1 := HW1.out
        subst e1
        obtain ⟨hc0, hc1, hf0, hf1, hz, hB⟩ := two_facts hbr
        clear hbr hcl hm
        rcases hbad with hbad | hbad
        all_goals
          go_wp2_with (go_at_call 90; refine (F_any _ _ _).mono ?_; rintro e w1 ⟨rfl, rfl⟩)
          exact bodyPost_ret (v := .tuple #[.slice none 0 0, .agg #[.int .i64 6, .int .i64 k]]) (by simp [results, Try.results113, go_sem, hc0, hc1, hz]) rfl ⟨_, by rw [E1.out, E2.out], by rw [E3.out]; exact Mine.nil _ _ _ _, by go_grown⟩
      · have hgood : badW ws k = false := by simpa using hbad
        have hkk := okW hgood
        have hrel2 : Hid (∀ j, j < k + 1 → badW ws j = false) := fun j hj => by
          by_cases h : j = k
          · subst h; exact hgood
          · exact Hok.out j (by omega)
        obtain ⟨b', off', e', hc'⟩ := (hv1.below hbr).here (by have := Hlen.out; omega)
        have hckv := hc' k (by have := Hlen.out; omega)
        have hvr := hv1.fit.el_u64 k
        have hlv : (k : Int) < v.length := by have := Hlen.out; omega
        subst e'
        have hsz : Hid (((catTo v ws k).length + (numB (el v k) (el ws k).toNat).length) * 1 ≤ 140737488355328) := by
          show ((catTo v ws k).length + (numB (el v k) (el ws k).toNat).length) * 1 ≤ 140737488355328
          rw [numB_length]; omega
        obtain ⟨am, cm, rfl, hrm, _⟩ := hm.rd
        have hmd := hm.drew
        have hbd : Below w1.heap.size w1 wr.drew := hbr.drew
        clear hbad hgood hc' hcl
        go_wp2_with fail
        go_region_law (first
          | (go_simp; go_at_call 108; refine (numBits_int _ _ _ hvr.1 hvr.2 (by omega) (by omega)).mono ?_; rintro e w5 ⟨r5, rfl, hm5, hb5⟩; obtain ⟨a6, cap6, rfl, hr6, _⟩ := hm5.rd; have hm4a := hmd.below hb5; have hb6 := hbd.trans (hb5.mono hbd.size))
          | ((with_reducible refine step_append_rd (k := .u8) (v := .slice am (catTo v ws k).length cm) (xs := catTo v ws k) ?_ (.tmp 34) (.tmp 43) 77 ?_ sty_bytes w1.heap.size ?_ hm4a ?_ hr6 hsz.out Nat.one_pos hb6.size ?_); rfl; rfl; go_simp; go_simp; intro v2 w6 hm6 hb7))
        all_goals
          have hbr7 := hb6.trans hb7
          clear hm4a hmd hm5 hr6 hb7 hb6 hb5 hsz hrm
          go_wp2_with fail
          go_roundw
          case rel => exact ⟨k + 1, by omega, hrel2.out, by go_num, hm6, hbr7⟩
          case measure => simp [intOf]; omega
    · obtain rfl : k = ws.length := by omega
      obtain ⟨am, cm, rfl, hrm, _⟩ := hm.rd
      have hC : joinC v.length ws = 0 := by unfold joinC; rw [if_neg (by simpa using Hlen.out), firstN_none _ _ Hok.out, if_neg (by omega)]
      have hA : joinA v.length ws = 0 := by unfold joinA; rw [if_neg (by simpa using Hlen.out), firstN_none _ _ Hok.out, if_neg (by omega)]
      have hV : bytesF (el (catTo v ws ws.length)) (((catTo v ws ws.length).length + 7) / 8) = joinV v ws := by unfold joinV; rw [if_pos hC]
      have HC := Lib.hid hC
      have HA := Lib.hid hA
      have HV := Lib.hid hV
      have hbt := catTo_bits v ws ws.length
      clear hC hA hV hm
      go_wp2_with fail
      refine (bytesOf_any _ _ _ _ _ hrm (by omega) hbt).mono ?_
      rintro e w8 ⟨r8, rfl, hm8, hb8⟩
      rw [HV.out] at hm8
      have hgt : w.heap.size < wr.heap.size := Nat.lt_of_lt_of_le H1.out hbr.size
      have hF := hbr.trans (hb8.mono hbr.size)
      have e1 := HW1.out
      subst e1
      obtain ⟨hc0, hc1, hf0, hf1, hz, hB⟩ := two_facts hF
      clear hbr hF hb8 hbt hcl
      go_wp2_with fail
      exact bodyPost_ret (v := .tuple #[r8, .agg #[.int .i64 0, .int .i64 0]]) (by simp [results, Try.results113, go_sem, hc0, hc1]) rfl
        ⟨_, by rw [HC.out, HA.out], ((hm8.setLow hgt _).setLow hgt _).base_le (Nat.le_of_lt hgt), by go_grown⟩

end Go.Proofs.Ytfakdapglbgokaa
