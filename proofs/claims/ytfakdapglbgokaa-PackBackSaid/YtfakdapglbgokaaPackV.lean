/-
  Package pack and its references: Write. No condition.
-/
import Derived.Test.YtfakdapglbgokaaPackZ
namespace Go.Proofs.Ytfakdapglbgokaa
open Go.RowKit

theorem writeC_size {ws v : List Int} (h : sizeC ws ≠ 0) : writeC ws v = sizeC ws ∧ writeA ws v = sizeA ws ∧ writeV ws v = [] := by
  have h1 : writeC ws v = sizeC ws := by unfold writeC; rw [if_pos h]
  exact ⟨h1, by unfold writeA; rw [if_pos h], by unfold writeV; rw [h1, if_neg h]⟩
theorem writeC_many {ws v : List Int} (h : sizeC ws = 0) (hl : v.length ≠ ws.length) : writeC ws v = 2 ∧ writeA ws v = -1 ∧ writeV ws v = [] := by
  have h1 : writeC ws v = 2 := by unfold writeC; rw [if_neg (by simpa using h), if_pos hl]
  exact ⟨h1, by unfold writeA; rw [if_neg (by simpa using h), if_pos hl], by unfold writeV; rw [h1, if_neg (by decide)]⟩
theorem writeC_bad {ws v : List Int} (h : sizeC ws = 0) (hl : v.length = ws.length) {k : Nat} (hok : ∀ j, j < k → vBad ws v j = false) (hb : vBad ws v k = true) (hk : k < v.length) : writeC ws v = 6 ∧ writeA ws v = k ∧ writeV ws v = [] := by
  have h1 : writeC ws v = 6 := by unfold writeC; rw [if_neg (by simpa using h), if_neg (by simpa using hl), firstN_eq _ _ k hok hb hk, if_pos hk]
  exact ⟨h1, by unfold writeA; rw [if_neg (by simpa using h), if_neg (by simpa using hl), firstN_eq _ _ k hok hb hk, if_pos hk], by unfold writeV; rw [h1, if_neg (by decide)]⟩
theorem writeC_ok {ws v : List Int} (h : sizeC ws = 0) (hl : v.length = ws.length) (hok : ∀ j, j < v.length → vBad ws v j = false) : writeC ws v = 0 ∧ writeA ws v = 0 ∧ writeV ws v = joinV v ws := by
  have h1 : writeC ws v = 0 := by unfold writeC; rw [if_neg (by simpa using h), if_neg (by simpa using hl), firstN_none _ _ hok, if_neg (Nat.lt_irrefl _)]
  exact ⟨h1, by unfold writeA; rw [if_neg (by simpa using h), if_neg (by simpa using hl), firstN_none _ _ hok, if_neg (Nat.lt_irrefl _)], by unfold writeV; rw [if_pos h1]⟩

theorem Write_any (ao bo : Option Addr) (na ca nb cb : Nat) (ws v : List Int) (w : World) (hw : Rd w .i64 ao na ca ws) (hr : Rd w .u64 bo nb cb v) :
    Calls Try.prog 62 #[.agg #[.slice ao na ca], .slice bo nb cb] w fun e w' => ∃ r, e = .returned (.tuple #[r, .agg #[.int .i64 (writeC ws v), .int .i64 (writeA ws v)]]) ∧ Mine w' w.heap.size 5 .u8 r (writeV ws v) ∧ Below w.heap.size w w' := by
  obtain rfl := hw.len
  obtain rfl := hr.len
  have hlv := hr.lt
  have hW := al (al (rf w) (.cells #[.slice ao ws.length ca] 91)) (.cells #[.int .i64 0, .int .i64 0] 65)
  have hw1 := hw.below hW
  clear hW
  go_enter Try.func62, Try.ntmps62
  go_wp2_with fail
  refine (Size_any _ _ _ _ _ hw1).mono ?_
  rintro e w1 ⟨rfl, hb1⟩
  obtain ⟨f0, f1, f2, z1, z2, z3, hB1⟩ := three_facts hb1
  clear hb1 hw1
  by_cases h0 : sizeC ws = 0
  case neg =>
    obtain ⟨e1, e2, e3⟩ := writeC_size (v := v) h0
    have E1 := Lib.hid e1
    have E2 := Lib.hid e2
    have E3 := Lib.hid e3
    clear e1 e2 e3
    have hq : (sizeC ws != 0) = true := by rw [bne_iff_ne]; exact h0
    clear h0
    go_wp2_with fail
    go_region
    go_wp2_with fail
    exact bodyPost_ret (v := .tuple #[.slice none 0 0, .agg #[.int .i64 (sizeC ws), .int .i64 (sizeA ws)]]) (by simp [results, Try.results62, go_sem, f1, f2, z3]) rfl ⟨_, by rw [E1.out, E2.out], by rw [E3.out]; exact Mine.nil _ _ _ _, by go_grown⟩
  have hq : (sizeC ws != 0) = false := by rw [h0]; rfl
  obtain ⟨s1, s2, s3, s4, s5, s6, s7, s8⟩ := size_zero h0
  clear s4 s5 s6 s7 s8
  have z0 : w.heap.size < w1.heap.size := by omega
  by_cases h2 : v.length = ws.length
  case neg =>
    obtain ⟨e1, e2, e3⟩ := writeC_many h0 h2
    have E1 := Lib.hid e1
    have E2 := Lib.hid e2
    have E3 := Lib.hid e3
    have hl : ((v.length : Int) != ws.length) = true := by rw [bne_iff_ne]; omega
    clear e1 e2 e3 s3 h0 h2
    go_wp2_with fail
    exact bodyPost_ret (v := .tuple #[.slice none 0 0, .agg #[.int .i64 2, .int .i64 (-1)]]) (by simp [results, Try.results62, go_sem, f1, f2, z3]) rfl ⟨_, by rw [E1.out, E2.out], by rw [E3.out]; exact Mine.nil _ _ _ _, by go_grown⟩
  have hl : ((v.length : Int) != ws.length) = false := by rw [h2]; simp
  have k2 := al hB1 (.cells #[.int .i64 (sizeC ws), .int .i64 (sizeA ws)] 65)
  have kk := al (rf w1) (.cells #[.int .i64 (sizeC ws), .int .i64 (sizeA ws)] 65)
  have hw2 := hw.below k2
  have hr2 := hr.below k2
  have H0 := Lib.hid h0
  have H2 := Lib.hid h2
  have S3 := Lib.hid s3
  clear h0 h2 s3
  go_wp2_with fail
  go_loop [28] (fun i => ∃ k : Nat, k ≤ v.length ∧ (∀ j, j < k → vBad ws v j = false) ∧ i = .int .i64 k) (fun i => v.length - (intOf i).toNat)
  case atStart => exact ⟨0, Nat.zero_le _, fun j hj => absurd hj (Nat.not_lt_zero j), rfl⟩
  case round =>
    obtain ⟨k, hk, hok, rfl⟩ := hrel
    have Hok := Lib.hid hok
    clear hok
    by_cases hlt : k < v.length
    · obtain ⟨b, off, rfl, hc⟩ := hr2.here (by omega)
      have hck := hc k hlt
      obtain ⟨b', off', rfl, hc'⟩ := hw2.here (by omega)
      have hck' := hc' k (by have := H2.out; omega)
      have hks : k < ws.length := by have := H2.out; omega
      have hfw := Fits.of_i64 (hw2.fit.el_i64 k).1 (hw2.fit.el_i64 k).2
      clear hc hc'
      go_wp2_with fail
      refine (Mask_any _ _ hfw).mono ?_
      rintro e w2 ⟨rfl, rfl⟩
      by_cases hbad : vBad ws v k = true
      · obtain ⟨e1, e2, e3⟩ := writeC_bad H0.out H2.out Hok.out hbad hlt
        have E1 := Lib.hid e1
        have E2 := Lib.hid e2
        have E3 := Lib.hid e3
        clear e1 e2 e3
        unfold vBad at hbad
        simp only [decide_eq_true_eq] at hbad
        go_wp2_with fail
        exact bodyPost_ret (v := .tuple #[.slice none 0 0, .agg #[.int .i64 6, .int .i64 k]]) (by simp [results, Try.results62, go_sem, f1, f2, z3]) rfl ⟨_, by rw [E1.out, E2.out], by rw [E3.out]; exact Mine.nil _ _ _ _, by go_grown⟩
      · have hgood : vBad ws v k = false := by simpa using hbad
        have hrel2 : Hid (∀ j, j < k + 1 → vBad ws v j = false) := fun j hj => by
          by_cases h : j = k
          · subst h; exact hgood
          · exact Hok.out j (by omega)
        unfold vBad at hgood
        simp only [decide_eq_false_iff_not] at hgood
        clear hbad
        go_wp2_with fail
        go_round
        case rel => exact ⟨k + 1, by omega, hrel2.out, by go_num⟩
        case measure => simp [intOf]; omega
    · obtain rfl : k = v.length := by omega
      obtain ⟨e1, e2, e3⟩ := writeC_ok H0.out H2.out Hok.out
      obtain ⟨p1, p2⟩ := joinC_zero H2.out S3.out
      have E1 := Lib.hid e1
      have E2 := Lib.hid e2
      have E3 := Lib.hid e3
      have hlt1 : w.heap.size + 1 < (w1.alloc (.cells #[.int .i64 (sizeC ws), .int .i64 (sizeA ws)] 65)).heap.size := Nat.lt_of_lt_of_le z3 kk.size
      have Hlt := Lib.hid hlt1
      have h10 : v.length ≤ 10000 := by have := H2.out; omega
      clear e1 e2 e3 hlt1
      go_wp2_with fail
      refine (Join_any _ _ _ _ _ _ _ _ _ hr2 hw2 h10 (by omega)).mono ?_
      rintro e w2 ⟨r, rfl, hm, hb2⟩
      have k3 := ov kk hb2
      have hB2 := ov k2 hb2
      replace f1 := keep f1 k3
      replace f2 := keep f2 k3
      replace z1 := keepF z1 z3 k3
      replace z2 := keepF z2 z3 k3
      replace z3 := Nat.lt_of_lt_of_le z3 k3.size
      replace z0 := Nat.lt_of_lt_of_le z0 k3.size
      rw [← E3.out] at hm
      go_wp2_with fail
      exact bodyPost_ret (v := .tuple #[r, .agg #[.int .i64 0, .int .i64 0]]) (by simp [results, Try.results62, go_sem, f1, f2]) rfl ⟨_, by rw [E1.out, E2.out], (((hm.setLow Hlt.out _).setLow Hlt.out _)).base_le (Nat.le_of_lt (Nat.lt_of_succ_lt Hlt.out)), by go_grown⟩
end Go.Proofs.Ytfakdapglbgokaa
