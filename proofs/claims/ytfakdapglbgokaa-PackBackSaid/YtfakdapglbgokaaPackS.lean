/-
  Package pack: Sum. No condition.
-/
import Derived.Test.YtfakdapglbgokaaPackU
namespace Go.Proofs.Ytfakdapglbgokaa
open Go.RowKit

theorem Clone_nums_any (ao : Option Addr) (n cap : Nat) (xs : List Int) (w : World) (hr : Rd w .u64 ao n cap xs) (hn : n ≤ 1000000) :
    Calls Try.prog 83 #[.slice ao n cap] w fun e w' => ∃ r, e = .returned r ∧ Mine w' w.heap.size 23 .u64 r xs ∧ Below w.heap.size w w' := by
  have hq := fun w : World => Lib.run_eql_slice_nil (P := Try.prog) w 28 23 ao n cap 0 0 Try.underlying28
  cases ao with
  | none =>
    have h0 := hr.nil rfl
    have h1 := hr.le
    have h2 := hr.len
    obtain rfl : cap = 0 := h0
    obtain rfl : n = 0 := by omega
    obtain rfl : xs = [] := List.eq_nil_of_length_eq_zero h2
    go_enter Try.func83, Try.ntmps83
    go_wp2_with fail
    go_ret
    exact ⟨_, rfl, Mine.nil _ _ _ _, Below.refl _ _⟩
  | some a =>
    have hr' : Rd (w.alloc (.cells #[] 23)) .u64 (some a) n cap xs := hr.below ((Below.refl _ _).alloc (Nat.le_refl _) _)
    have hm : Mine (w.alloc (.cells #[] 23)) w.heap.size 23 .u64 (.slice (some ⟨w.heap.size, 0, none⟩) 0 0) [] := ⟨World.ownsRow_made w #[] 0 (Nat.le_refl _) (by simp [maxLen]) rfl, by simp [AllFit]⟩
    go_enter Try.func83, Try.ntmps83
    go_wp2_with (at_builtin; refine wpList_append_rd (v := .slice (some ⟨w.heap.size, 0, none⟩) 0 0) (xs := []) rfl _ _ 28 rfl sty_nums w.heap.size rfl hm rfl hr' (by simp; omega) (by omega) (by simp) ?_; intro r' w2 hm2 hg2)
    go_ret
    exact ⟨_, rfl, hm2, ((Below.refl _ _).alloc (Nat.le_refl _) _).grown hg2 (by simp) (by simp [Value.ownBlock])⟩

theorem skipV_put (v : List Int) (k : Nat) (hk : k < v.length) : put v k 0 = skipV v k := by
  refine ext_el (by rw [put_length]; exact (mk_length _ _).symm) (fun i hi => ?_)
  rw [put_length] at hi
  unfold skipV
  rw [el_put _ _ _ _ hk, el_mk _ _ _ hi]
  by_cases h : i = k
  · rw [if_pos h, if_pos (by omega)]
  · rw [if_neg h, if_neg (by omega)]
theorem skipV_same (v : List Int) (skip : Int) (h : skip < 0 ∨ (v.length : Int) ≤ skip) : skipV v skip = v := by
  refine ext_el (mk_length _ _) (fun i hi => ?_)
  unfold skipV at *
  rw [mk_length] at hi
  rw [el_mk _ _ _ hi, if_neg (by omega)]
theorem sumC_range {ws : List Int} (v : List Int) {skip : Int} (h : skip < -1 ∨ (ws.length : Int) ≤ skip) : sumC ws v skip = 1 ∧ sumA ws v skip = -1 ∧ sumN ws v skip = 0 := by
  have h1 : sumC ws v skip = 1 := by unfold sumC; rw [if_pos h]
  exact ⟨h1, by unfold sumA; rw [if_pos h], by unfold sumN; rw [h1, if_neg (by decide)]⟩
theorem sumC_in {ws : List Int} (v : List Int) {skip : Int} (h : ¬ (skip < -1 ∨ (ws.length : Int) ≤ skip)) : sumC ws v skip = writeC ws (skipV v skip) ∧ sumA ws v skip = writeA ws (skipV v skip) ∧ sumN ws v skip = if writeC ws (skipV v skip) = 0 then 65535 - whole (writeV ws (skipV v skip)) else 0 := by
  have h1 : sumC ws v skip = writeC ws (skipV v skip) := by unfold sumC; rw [if_neg h]
  exact ⟨h1, by unfold sumA; rw [if_neg h], by unfold sumN; rw [h1]⟩

theorem writeA_zero {ws v : List Int} (h : writeC ws v = 0) : writeA ws v = 0 := by
  have h0 := h
  unfold writeC at h
  unfold writeA
  split at h
  · rename_i h1; exact absurd h h1
  · split at h
    · omega
    · split at h
      · omega
      · rename_i h1 h2 h3; rw [if_neg h1, if_neg h2, if_neg h3]

theorem Sum_any (ao bo : Option Addr) (na ca nb cb : Nat) (ws v : List Int) (skip : Int) (w : World) (hw : Rd w .i64 ao na ca ws) (hr : Rd w .u64 bo nb cb v) (hnb : nb ≤ 1000000) (hs : Fits .i64 skip) :
    Calls Try.prog 64 #[.agg #[.slice ao na ca], .slice bo nb cb, .int .i64 skip] w fun e w' => e = .returned (.tuple #[.int .i64 (sumN ws v skip), .agg #[.int .i64 (sumC ws v skip), .int .i64 (sumA ws v skip)]]) ∧ Below w.heap.size w w' := by
  obtain rfl := hw.len
  obtain rfl := hr.len
  have hsk := hs.i64
  have hlw := hw.lt
  have hW := al (al (rf w) (.cells #[.slice ao ws.length ca] 91)) (.cells #[.int .i64 0, .int .i64 0] 65)
  have hr1 := hr.below hW
  clear hW
  by_cases h0 : skip < -1 ∨ (ws.length : Int) ≤ skip
  · obtain ⟨e1, e2, e3⟩ := sumC_range v h0
    rw [e1, e2, e3]
    clear e1 e2 e3
    have h0 : skip < -1 ∨ (-1 ≤ skip ∧ (ws.length : Int) ≤ skip) := by omega
    rcases h0 with h0 | h0
    all_goals
      go_enter Try.func64, Try.ntmps64
      go_wp2_with fail
      exact bodyPost_ret (v := .tuple #[.int .i64 0, .agg #[.int .i64 1, .int .i64 (-1)]]) (by simp [results, Try.results64, go_sem]) rfl ⟨rfl, by go_grown⟩
  obtain ⟨e1, e2, e3⟩ := sumC_in v h0
  have E1 := Lib.hid e1
  have E2 := Lib.hid e2
  have E3 := Lib.hid e3
  have h1 : -1 ≤ skip ∧ skip < (ws.length : Int) := by omega
  clear e1 e2 e3 h0
  go_enter Try.func64, Try.ntmps64
  go_wp2_with fail
  refine (Clone_nums_any _ _ _ _ _ hr1 hnb).mono ?_
  rintro e w1 ⟨r, rfl, hm, hb1⟩
  clear hr1
  have hcase : (0 ≤ skip ∧ skip < (v.length : Int)) ∨ skip < 0 ∨ (0 ≤ skip ∧ (v.length : Int) ≤ skip) := by omega
  rcases hcase with hk | hk | hk
  · have hkl : skip.toNat < v.length := by omega
    obtain ⟨g, c, rfl, hg1, hg2⟩ := hm.at_ (by omega)
    obtain ⟨hc, hf⟩ := hm.cell hkl
    have hm2 := hm.set skip.toNat (x := 0) rfl
    have hb2 := Below.setCell (p := (⟨g, skip.toNat, none⟩ : Addr)) hb1 hg1 (Value.int .u64 0)
    rw [skipV_put v _ hkl, Int.toNat_of_nonneg hk.1] at hm2
    have f0s := (three_facts hb2).1
    go_wp2_with fail
    obtain ⟨w2, hW2⟩ : ∃ w2, w2 = w1.setCell ⟨g, skip.toNat, none⟩ (.int .u64 0) := ⟨_, rfl⟩
    rw [← hW2] at hm2 hb2 f0s ⊢
    have hr2 := hm2.rd_
    clear hW2 hm hm2 hb1 hc hf
    obtain ⟨f0, f1, f2, z1, z2, z3, hB1⟩ := three_facts hb2
    have z0 : w.heap.size < w2.heap.size := by omega
    refine (Write_any _ _ _ _ _ _ _ _ _ (hw.below hB1) hr2).mono ?_
    rintro e w3 ⟨r3, rfl, hm3, hb3⟩
    obtain ⟨a3, c3, rfl, hr3, _⟩ := hm3.rd
    replace f1 := keep f1 hb3
    replace f2 := keep f2 hb3
    replace z1 := keepF z1 z3 hb3
    replace z2 := keepF z2 z3 hb3
    replace z3 := Nat.lt_of_lt_of_le z3 hb3.size
    replace z0 := Nat.lt_of_lt_of_le z0 hb3.size
    have hB3 := ov hB1 hb3
    have hr4 := hr3.below (al (rf w3) (.cells #[.int .i64 (writeC ws (skipV v skip)), .int .i64 (writeA ws (skipV v skip))] 65))
    clear hm3 hb3 hB1 hb2 hr2
    by_cases h3 : writeC ws (skipV v skip) = 0
    · have hq : (writeC ws (skipV v skip) != 0) = false := by rw [h3]; rfl
      have H3 := Lib.hid h3
      have HA := Lib.hid (writeA_zero h3)
      clear h3
      go_wp2_with fail
      refine (Of_any _ _ _ _ _ hr4).mono ?_
      rintro e w4 ⟨rfl, rfl⟩
      go_wp2_with fail
      exact bodyPost_ret (v := .tuple #[.int .i64 (65535 - whole (writeV ws (skipV v skip))), .agg #[.int .i64 0, .int .i64 0]]) (by simp [results, Try.results64, go_sem, f1, f2, z3]) rfl ⟨by rw [E1.out, E2.out, E3.out, H3.out, HA.out, if_pos rfl], by go_grown⟩
    · have hq : (writeC ws (skipV v skip) != 0) = true := by rw [bne_iff_ne]; exact h3
      have H3 := Lib.hid h3
      clear h3
      go_wp2_with fail
      go_region
      go_wp2_with fail
      exact bodyPost_ret (v := .tuple #[.int .i64 0, .agg #[.int .i64 (writeC ws (skipV v skip)), .int .i64 (writeA ws (skipV v skip))]]) (by simp [results, Try.results64, go_sem, f1, f2, z3]) rfl ⟨by rw [E1.out, E2.out, E3.out, if_neg H3.out], by go_grown⟩
  all_goals
    obtain ⟨a, c, rfl, hr2', _⟩ := hm.rd
    have hr2 : Rd w1 .u64 a v.length c (skipV v skip) := by rw [skipV_same v skip (by omega)]; exact hr2'
    have hb2 := hb1
    have f0s := (three_facts hb2).1
    clear hm hb1 hr2'
    go_wp2_with fail
    obtain ⟨f0, f1, f2, z1, z2, z3, hB1⟩ := three_facts hb2
    have z0 : w.heap.size < w1.heap.size := by omega
    refine (Write_any _ _ _ _ _ _ _ _ _ (hw.below hB1) hr2).mono ?_
    rintro e w3 ⟨r3, rfl, hm3, hb3⟩
    obtain ⟨a3, c3, rfl, hr3, _⟩ := hm3.rd
    replace f1 := keep f1 hb3
    replace f2 := keep f2 hb3
    replace z1 := keepF z1 z3 hb3
    replace z2 := keepF z2 z3 hb3
    replace z3 := Nat.lt_of_lt_of_le z3 hb3.size
    replace z0 := Nat.lt_of_lt_of_le z0 hb3.size
    have hB3 := ov hB1 hb3
    have hr4 := hr3.below (al (rf w3) (.cells #[.int .i64 (writeC ws (skipV v skip)), .int .i64 (writeA ws (skipV v skip))] 65))
    clear hm3 hb3 hB1 hb2 hr2
    by_cases h3 : writeC ws (skipV v skip) = 0
    · have hq : (writeC ws (skipV v skip) != 0) = false := by rw [h3]; rfl
      have H3 := Lib.hid h3
      have HA := Lib.hid (writeA_zero h3)
      clear h3
      go_wp2_with fail
      refine (Of_any _ _ _ _ _ hr4).mono ?_
      rintro e w4 ⟨rfl, rfl⟩
      go_wp2_with fail
      exact bodyPost_ret (v := .tuple #[.int .i64 (65535 - whole (writeV ws (skipV v skip))), .agg #[.int .i64 0, .int .i64 0]]) (by simp [results, Try.results64, go_sem, f1, f2, z3]) rfl ⟨by rw [E1.out, E2.out, E3.out, H3.out, HA.out, if_pos rfl], by go_grown⟩
    · have hq : (writeC ws (skipV v skip) != 0) = true := by rw [bne_iff_ne]; exact h3
      have H3 := Lib.hid h3
      clear h3
      go_wp2_with fail
      go_region
      go_wp2_with fail
      exact bodyPost_ret (v := .tuple #[.int .i64 0, .agg #[.int .i64 (writeC ws (skipV v skip)), .int .i64 (writeA ws (skipV v skip))]]) (by simp [results, Try.results64, go_sem, f1, f2, z3]) rfl ⟨by rw [E1.out, E2.out, E3.out, if_neg H3.out], by go_grown⟩
end Go.Proofs.Ytfakdapglbgokaa
