/-
  Package pack and its references: Size. No condition.
-/
import Derived.Test.YtfakdapglbgokaaSumV
import Derived.Test.YtfakdapglbgokaaPackP
namespace Go.Proofs.Ytfakdapglbgokaa
open Go.RowKit

theorem sizeC_many {ws : List Int} (h : ws.length = 0 ∨ 8 < ws.length) : sizeC ws = 2 ∧ sizeA ws = -1 ∧ sizeN ws = 0 := by
  have h1 : sizeC ws = 2 := by unfold sizeC; rw [if_pos h]
  refine ⟨h1, by unfold sizeA; rw [if_pos h], by unfold sizeN; rw [h1]; rfl⟩
theorem sizeC_bad {ws : List Int} (h : ¬ (ws.length = 0 ∨ 8 < ws.length)) {k : Nat} (hok : ∀ j, j < k → wBad ws j = false) (hb : wBad ws k = true) (hk : k < ws.length) : sizeC ws = 6 ∧ sizeA ws = k ∧ sizeN ws = 0 := by
  have h1 : sizeC ws = 6 := by unfold sizeC; rw [if_neg h, firstN_eq _ _ k hok hb hk, if_pos hk]
  refine ⟨h1, by unfold sizeA; rw [if_neg h, firstN_eq _ _ k hok hb hk, if_pos hk], by unfold sizeN; rw [h1]; rfl⟩
theorem sizeC_end {ws : List Int} (h : ¬ (ws.length = 0 ∨ 8 < ws.length)) (hok : ∀ j, j < ws.length → wBad ws j = false) (hs : sumTo ws ws.length % 8 ≠ 0 ∨ 256 < sumTo ws ws.length) : sizeC ws = 6 ∧ sizeA ws = -1 ∧ sizeN ws = 0 := by
  have h1 : sizeC ws = 6 := by unfold sizeC; rw [if_neg h, firstN_none _ _ hok, if_neg (Nat.lt_irrefl _), if_pos hs]
  refine ⟨h1, by unfold sizeA; rw [if_neg h, firstN_none _ _ hok, if_neg (Nat.lt_irrefl _), if_pos hs], by unfold sizeN; rw [h1]; rfl⟩
theorem sizeC_ok {ws : List Int} (h : ¬ (ws.length = 0 ∨ 8 < ws.length)) (hok : ∀ j, j < ws.length → wBad ws j = false) (hs : ¬ (sumTo ws ws.length % 8 ≠ 0 ∨ 256 < sumTo ws ws.length)) : sizeC ws = 0 ∧ sizeA ws = 0 ∧ sizeN ws = sumTo ws ws.length / 8 := by
  have h1 : sizeC ws = 0 := by unfold sizeC; rw [if_neg h, firstN_none _ _ hok, if_neg (Nat.lt_irrefl _), if_neg hs]
  refine ⟨h1, by unfold sizeA; rw [if_neg h, firstN_none _ _ hok, if_neg (Nat.lt_irrefl _), if_neg hs], by unfold sizeN; rw [if_pos h1]⟩

theorem Size_any (ao : Option Addr) (n cap : Nat) (ws : List Int) (w : World) (hw : Rd w .i64 ao n cap ws) :
    Calls Try.prog 57 #[.agg #[.slice ao n cap]] w fun e w' => e = .returned (.tuple #[.int .i64 (sizeN ws), .agg #[.int .i64 (sizeC ws), .int .i64 (sizeA ws)]]) ∧ Below w.heap.size w w' := by
  obtain rfl := hw.len
  by_cases h0 : ws.length = 0 ∨ 8 < ws.length
  · obtain ⟨e1, e2, e3⟩ := sizeC_many h0
    rw [e1, e2, e3]
    clear e1 e2 e3
    rcases h0 with h0 | h0
    · have hq : ((ws.length : Int) == 0) = true := by rw [beq_iff_eq]; omega
      clear h0
      go_enter Try.func57, Try.ntmps57
      go_wp2_with fail
      exact bodyPost_ret (v := .tuple #[.int .i64 0, .agg #[.int .i64 2, .int .i64 (-1)]]) (by simp [results, Try.results57, go_sem]) rfl ⟨rfl, by go_grown⟩
    · have hq : ((ws.length : Int) == 0) = false := by rw [beq_eq_false_iff_ne]; omega
      go_enter Try.func57, Try.ntmps57
      go_wp2_with fail
      exact bodyPost_ret (v := .tuple #[.int .i64 0, .agg #[.int .i64 2, .int .i64 (-1)]]) (by simp [results, Try.results57, go_sem]) rfl ⟨rfl, by go_grown⟩
  have hq : ((ws.length : Int) == 0) = false := by rw [beq_eq_false_iff_ne]; omega
  have h8 : ws.length ≤ 8 := by omega
  have H0 := Lib.hid h0
  clear h0
  have hw1 := hw.below (al (al (rf w) (.cells #[.slice ao ws.length cap] 91)) (.cells #[.int .i64 0, .int .i64 0] 65))
  go_enter Try.func57, Try.ntmps57
  go_wp2_with fail
  go_loop [4, 21] (fun n i => ∃ k : Nat, k ≤ ws.length ∧ (∀ j, j < k → wBad ws j = false) ∧ i = .int .i64 k ∧ n = .int .i64 (sumTo ws k)) (fun _ i => ws.length - (intOf i).toNat)
  case atStart => exact ⟨0, Nat.zero_le _, fun j hj => absurd hj (Nat.not_lt_zero j), rfl, rfl⟩
  case round =>
    obtain ⟨k, hk, hok, rfl, rfl⟩ := hrel
    have hs := wSum hok
    by_cases hl : k < ws.length
    · obtain ⟨b, off, rfl, hc⟩ := hw1.here (by omega)
      have hck := hc k hl
      clear hc
      by_cases hbad : wBad ws k = true
      · obtain ⟨e1, e2, e3⟩ := sizeC_bad H0.out hok hbad hl
        have E1 := Lib.hid e1
        have E2 := Lib.hid e2
        have E3 := Lib.hid e3
        clear e1 e2 e3 hok
        unfold wBad at hbad
        simp only [decide_eq_true_eq] at hbad
        rcases hbad with hbad | hbad
        all_goals
          go_wp2_with fail
          exact bodyPost_ret (v := .tuple #[.int .i64 0, .agg #[.int .i64 6, .int .i64 k]]) (by simp [results, Try.results57, go_sem]) rfl ⟨by rw [E1.out, E2.out, E3.out], by go_grown⟩
      · have hgood : wBad ws k = false := by simpa using hbad
        have hkk := wOk hgood
        have hrel2 : Hid (∀ j, j < k + 1 → wBad ws j = false) := fun j hj => by
          by_cases h : j = k
          · subst h; exact hgood
          · exact hok j (by omega)
        have hss : Hid (sumTo ws (k + 1) = sumTo ws k + el ws k) := rfl
        clear hbad hgood hok
        go_wp2_with fail
        go_round
        case rel => exact ⟨k + 1, by omega, hrel2.out, by go_num, by rw [hss.out]⟩
        case measure => simp [intOf]; omega
    · obtain rfl : k = ws.length := by omega
      by_cases hbad : sumTo ws ws.length % 8 ≠ 0 ∨ 256 < sumTo ws ws.length
      · obtain ⟨e1, e2, e3⟩ := sizeC_end H0.out hok hbad
        have E1 := Lib.hid e1
        have E2 := Lib.hid e2
        have E3 := Lib.hid e3
        clear e1 e2 e3 hok
        by_cases h3 : sumTo ws ws.length % 8 = 0
        · have hm : (sumTo ws ws.length % 8 != 0) = false := by rw [h3]; rfl
          have h4 : 256 < sumTo ws ws.length := by omega
          clear hbad h3
          go_wp2_with fail
          exact bodyPost_ret (v := .tuple #[.int .i64 0, .agg #[.int .i64 6, .int .i64 (-1)]]) (by simp [results, Try.results57, go_sem]) rfl ⟨by rw [E1.out, E2.out, E3.out], by go_grown⟩
        · have hm : (sumTo ws ws.length % 8 != 0) = true := by rw [bne_iff_ne]; exact h3
          clear hbad h3
          go_wp2_with fail
          exact bodyPost_ret (v := .tuple #[.int .i64 0, .agg #[.int .i64 6, .int .i64 (-1)]]) (by simp [results, Try.results57, go_sem]) rfl ⟨by rw [E1.out, E2.out, E3.out], by go_grown⟩
      · obtain ⟨e1, e2, e3⟩ := sizeC_ok H0.out hok hbad
        have E1 := Lib.hid e1
        have E2 := Lib.hid e2
        have E3 := Lib.hid e3
        clear e1 e2 e3 hok
        have hm : (sumTo ws ws.length % 8 != 0) = false := by rw [bne_eq_false_iff_eq]; omega
        have h4 : ¬ 256 < sumTo ws ws.length := by omega
        clear hbad
        go_wp2_with fail
        exact bodyPost_ret (v := .tuple #[.int .i64 (sumTo ws ws.length / 8), .agg #[.int .i64 0, .int .i64 0]]) (by simp [results, Try.results57, go_sem]) rfl ⟨by rw [E1.out, E2.out, E3.out], by go_grown⟩
end Go.Proofs.Ytfakdapglbgokaa
