/-
  Package pack and its references: Read. No condition.
-/
import Derived.Test.YtfakdapglbgokaaPackX
namespace Go.Proofs.Ytfakdapglbgokaa
open Go.RowKit

/-- A block of one cell, then one of two, laid ahead of a call that turns nothing that was there. -/
theorem three_facts {w w1 : World} {v x y : Value} {t t' : TypeId} (hb : Below ((w.alloc (.cells #[v] t)).alloc (.cells #[x, y] t')).heap.size ((w.alloc (.cells #[v] t)).alloc (.cells #[x, y] t')) w1) :
    w1.cell? ⟨w.heap.size, 0, none⟩ = some v ∧ w1.cell? ⟨w.heap.size + 1, 0, none⟩ = some x ∧ w1.cell? ⟨w.heap.size + 1, 1, none⟩ = some y ∧ w1.frozen? ⟨w.heap.size + 1, 0, none⟩ = false ∧ w1.frozen? ⟨w.heap.size + 1, 1, none⟩ = false ∧ w.heap.size + 1 < w1.heap.size ∧ Below w.heap.size w w1 := by
  have hs : (w.alloc (.cells #[v] t)).heap.size = w.heap.size + 1 := by simp
  obtain ⟨h1, h2, h3, h4, h5, h6⟩ := two_facts hb
  rw [hs] at h1 h2 h3 h4 h5 h6
  have hh : (w.alloc (.cells #[v] t)).heap[w.heap.size]? = some (.cells #[v] t) := heap_alloc_new w _
  have hh1 : w1.heap[w.heap.size]? = some (.cells #[v] t) := (h6.block _ (by omega)).trans hh
  refine ⟨?_, h1, h2, h3, h4, h5, ((Below.refl _ _).alloc (Nat.le_refl _) _).trans (h6.mono (by omega))⟩
  rw [cell_of_row w1 _ 0 _ t (0, 0) hh1]; rfl

theorem keepF {w w' : World} {p : Addr} (h : w.frozen? p = false) (hp : p.block < w.heap.size) (hb : Below w.heap.size w w') : w'.frozen? p = false := by
  unfold World.frozen? at *
  rw [hb.block _ hp]
  exact h

theorem readC_size {ws : List Int} {m : Nat} {at_ : Int} (h : sizeC ws ≠ 0) (b : List Int) (hb : b.length = m) : readC ws m at_ = sizeC ws ∧ readA ws m at_ = sizeA ws ∧ readV ws b at_ = [] := by
  have h1 : readC ws m at_ = sizeC ws := by unfold readC; rw [if_pos h]
  exact ⟨h1, by unfold readA; rw [if_pos h], by unfold readV; rw [hb, h1, if_neg h]⟩
theorem readC_short {ws : List Int} {b : List Int} {at_ : Int} (h : sizeC ws = 0) (h2 : at_ < 0 ∨ (b.length : Int) - sizeN ws < at_) : readC ws b.length at_ = 3 ∧ readA ws b.length at_ = -1 ∧ readV ws b at_ = [] := by
  have h1 : readC ws b.length at_ = 3 := by unfold readC; rw [if_neg (by simpa using h), if_pos h2]
  exact ⟨h1, by unfold readA; rw [if_neg (by simpa using h), if_pos h2], by unfold readV; rw [h1, if_neg (by decide)]⟩
theorem readC_ok {ws : List Int} {b : List Int} {at_ : Int} (h : sizeC ws = 0) (h2 : ¬ (at_ < 0 ∨ (b.length : Int) - sizeN ws < at_)) : readC ws b.length at_ = 0 ∧ readA ws b.length at_ = 0 ∧ readV ws b at_ = partV b (8 * at_) ws := by
  have h1 : readC ws b.length at_ = 0 := by unfold readC; rw [if_neg (by simpa using h), if_neg h2]
  exact ⟨h1, by unfold readA; rw [if_neg (by simpa using h), if_neg h2], by unfold readV; rw [if_pos h1]⟩

theorem Read_any (ao bo : Option Addr) (na ca nb cb : Nat) (ws b : List Int) (at_ : Int) (w : World) (hw : Rd w .i64 ao na ca ws) (hr : Rd w .u8 bo nb cb b) (hnb : nb ≤ 1000000) (ha : Fits .i64 at_) :
    Calls Try.prog 59 #[.agg #[.slice ao na ca], .slice bo nb cb, .int .i64 at_] w fun e w' => ∃ r, e = .returned (.tuple #[r, .agg #[.int .i64 (readC ws nb at_), .int .i64 (readA ws nb at_)]]) ∧ Mine w' w.heap.size 23 .u64 r (readV ws b at_) ∧ Below w.heap.size w w' := by
  obtain rfl := hw.len
  obtain rfl := hr.len
  have hba := ha.i64
  have hW := al (al (rf w) (.cells #[.slice ao ws.length ca] 91)) (.cells #[.int .i64 0, .int .i64 0] 65)
  have hw1 := hw.below hW
  clear hW
  go_enter Try.func59, Try.ntmps59
  go_wp2_with fail
  refine (Size_any _ _ _ _ _ hw1).mono ?_
  rintro e w1 ⟨rfl, hb1⟩
  obtain ⟨f0, f1, f2, z1, z2, z3, hB1⟩ := three_facts hb1
  clear hb1 hw1
  by_cases h0 : sizeC ws = 0
  case neg =>
    obtain ⟨e1, e2, e3⟩ := readC_size (at_ := at_) h0 b rfl
    have E1 := Lib.hid e1
    have E2 := Lib.hid e2
    have E3 := Lib.hid e3
    clear e1 e2 e3
    have hq : (sizeC ws != 0) = true := by rw [bne_iff_ne]; exact h0
    clear h0
    go_wp2_with fail
    go_region
    go_wp2_with fail
    exact bodyPost_ret (v := .tuple #[.slice none 0 0, .agg #[.int .i64 (sizeC ws), .int .i64 (sizeA ws)]]) (by simp [results, Try.results59, go_sem, f1, f2, z3]) rfl ⟨_, by rw [E1.out, E2.out], by rw [E3.out]; exact Mine.nil _ _ _ _, by go_grown⟩
  have hq : (sizeC ws != 0) = false := by rw [h0]; rfl
  obtain ⟨s1, s2, s3, s4, s5, s6, s7, s8⟩ := size_zero h0
  clear s6
  have z0 : w.heap.size < w1.heap.size := by omega
  by_cases h2 : at_ < 0 ∨ (b.length : Int) - sizeN ws < at_
  · obtain ⟨e1, e2, e3⟩ := readC_short (b := b) h0 h2
    have E1 := Lib.hid e1
    have E2 := Lib.hid e2
    have E3 := Lib.hid e3
    clear e1 e2 e3 s3 h0
    have h2 : at_ < 0 ∨ (0 ≤ at_ ∧ (b.length : Int) - sizeN ws < at_) := by omega
    rcases h2 with h2 | h2
    all_goals
      go_wp2_with fail
      exact bodyPost_ret (v := .tuple #[.slice none 0 0, .agg #[.int .i64 3, .int .i64 (-1)]]) (by simp [results, Try.results59, go_sem, f1, f2, z3]) rfl ⟨_, by rw [E1.out, E2.out], by rw [E3.out]; exact Mine.nil _ _ _ _, by go_grown⟩
  obtain ⟨e1, e2, e3⟩ := readC_ok (b := b) h0 h2
  obtain ⟨p1, p2⟩ := partC_zero (n := b.length) (at_ := 8 * at_) s3 (by omega) (by omega)
  have E1 := Lib.hid e1
  have E2 := Lib.hid e2
  have E3 := Lib.hid e3
  have h3 : 0 ≤ at_ ∧ at_ ≤ (b.length : Int) - sizeN ws := by omega
  clear e1 e2 e3 s3 h0 h2
  have k2 := al hB1 (.cells #[.int .i64 (sizeC ws), .int .i64 (sizeA ws)] 65)
  have kk := al (rf w1) (.cells #[.int .i64 (sizeC ws), .int .i64 (sizeA ws)] 65)
  go_wp2_with fail

  refine (Part_any _ _ _ _ _ _ _ _ _ _ (hr.below k2) (hw.below k2) (by omega) (by omega) (Fits.of_i64 (by omega) (by omega))).mono ?_
  rintro e w2 ⟨r, rfl, hm, hb2⟩
  have k3 := ov kk hb2
  have hlt : w.heap.size + 1 < (w1.alloc (.cells #[.int .i64 (sizeC ws), .int .i64 (sizeA ws)] 65)).heap.size := Nat.lt_of_lt_of_le z3 kk.size
  have Hlt := Lib.hid hlt
  clear hlt
  replace f1 := keep f1 k3
  replace f2 := keep f2 k3
  replace z1 := keepF z1 z3 k3
  replace z2 := keepF z2 z3 k3
  replace z3 := Nat.lt_of_lt_of_le z3 k3.size
  replace z0 := Nat.lt_of_lt_of_le z0 k3.size
  have hB2 := ov k2 hb2
  rw [← E3.out] at hm
  go_wp2_with fail
  exact bodyPost_ret (v := .tuple #[r, .agg #[.int .i64 0, .int .i64 0]]) (by simp [results, Try.results59, go_sem, f1, f2, z3]) rfl ⟨_, by rw [E1.out, E2.out], (((hm.setLow Hlt.out _).setLow Hlt.out _).below (al (rf _) _)).base_le (Nat.le_of_lt (Nat.lt_of_succ_lt Hlt.out)), by go_grown⟩
end Go.Proofs.Ytfakdapglbgokaa
