/-
  The laws of package pack: packBegun. No condition.
-/
import Derived.Test.YtfakdapglbgokaaPackR
namespace Go.Proofs.Ytfakdapglbgokaa
open Go.RowKit

theorem lit_w : AllFit .i64 [4, 12, 16] := by intro x hx; simp at hx; rcases hx with rfl | rfl | rfl <;> rfl
theorem lit_v : AllFit .u64 [1, 2, 3] := by intro x hx; simp at hx; rcases hx with rfl | rfl | rfl <;> rfl
theorem lit_b : AllFit .u8 [16, 2, 0, 3] := by intro x hx; simp at hx; rcases hx with rfl | rfl | rfl | rfl <;> rfl
theorem lit_c : writeC [4, 12, 16] [1, 2, 3] = 0 ∧ writeA [4, 12, 16] [1, 2, 3] = 0 ∧ writeV [4, 12, 16] [1, 2, 3] = [16, 2, 0, 3] := by decide +kernel
theorem lit_s : sumC [4, 12, 16] [1, 2, 3] (-1) = 0 ∧ sumA [4, 12, 16] [1, 2, 3] (-1) = 0 ∧ sumN [4, 12, 16] [1, 2, 3] (-1) = 61434 := by decide +kernel

theorem packBegun_any (w : World) : Calls Try.prog 56 #[] w fun e w' => e = .returned (.bool true) ∧ Below w.heap.size w w' := by
  obtain ⟨c1, c2, c3⟩ := lit_c
  obtain ⟨d1, d2, d3⟩ := lit_s
  have hA := Rd.lit (w' := w.alloc (.cells #[.int .i64 4, .int .i64 12, .int .i64 16] 3)) .i64 [4, 12, 16] 3 w.heap.size (heap_alloc_new w _) lit_w (by simp)
  have hA1 := hA.below (al (rf _) (.cells #[.slice (some ⟨w.heap.size, 0, none⟩) 3 3] 91))
  have hA2 := hA1.below (al (rf _) (.cells #[.int .u64 1, .int .u64 2, .int .u64 3] 23))
  have hV := Rd.lit (w' := ((w.alloc (.cells #[.int .i64 4, .int .i64 12, .int .i64 16] 3)).alloc (.cells #[.slice (some ⟨w.heap.size, 0, none⟩) 3 3] 91)).alloc (.cells #[.int .u64 1, .int .u64 2, .int .u64 3] 23)) .u64 [1, 2, 3] 23 _ (heap_alloc_new _ _) lit_v (by simp)
  have hs : ((w.alloc (.cells #[.int .i64 4, .int .i64 12, .int .i64 16] 3)).alloc (.cells #[.slice (some ⟨w.heap.size, 0, none⟩) 3 3] 91)).heap.size = w.heap.size + 1 + 1 := by simp
  rw [hs] at hV
  clear hA hA1 hs
  go_enter Try.func56, Try.ntmps56
  go_wp2_with fail
  refine (Write_any _ _ _ _ _ _ _ _ _ hA2 hV).mono ?_
  rintro e w1 ⟨r, rfl, hm, hb⟩
  rw [c3] at hm
  rw [c1, c2]
  obtain ⟨ao, cap, rfl, hr, _⟩ := hm.rd
  have hB1 : Below w.heap.size w w1 := (by go_grown : Below w.heap.size w (((w.alloc (.cells #[.int .i64 4, .int .i64 12, .int .i64 16] 3)).alloc (.cells #[.slice (some ⟨w.heap.size, 0, none⟩) 3 3] 91)).alloc (.cells #[.int .u64 1, .int .u64 2, .int .u64 3] 23))).trans (hb.mono (by simp; omega))
  have hA3 := hA2.below hb
  have hhd : w1.cell? ⟨w.heap.size + 1, 0, none⟩ = some (.slice (some ⟨w.heap.size, 0, none⟩) 3 3) := keep (by go_simp) hb
  have hz : w.heap.size + 1 < w1.heap.size := by have := hb.size; simp at this; omega
  have hB2 : Below w.heap.size w (w1.alloc (.cells #[.int .i64 0, .int .i64 0] 65)) := by go_grown
  clear hm hb hV hA2
  go_wp2_with fail
  have hA5 := (hA3.below (al (rf _) (.cells #[.int .i64 0, .int .i64 0] 65))).below (al (rf _) (.cells #[.int .u64 1, .int .u64 2, .int .u64 3] 23))
  have hV := Rd.lit (w' := (w1.alloc (.cells #[.int .i64 0, .int .i64 0] 65)).alloc (.cells #[.int .u64 1, .int .u64 2, .int .u64 3] 23)) .u64 [1, 2, 3] 23 _ (heap_alloc_new _ _) lit_v (by simp)
  rw [show (w1.alloc (.cells #[.int .i64 0, .int .i64 0] 65)).heap.size = w1.heap.size + 1 by simp] at hV
  refine (Sum_any _ _ _ _ _ _ _ _ (-1) _ hA5 hV (by simp) (Fits.of_i64 (by omega) (by omega))).mono ?_
  rintro e w2 ⟨rfl, hb2⟩
  rw [d1, d2, d3]
  have hr2 := (hr.below (al (al (rf _) (.cells #[.int .i64 0, .int .i64 0] 65)) (.cells #[.int .u64 1, .int .u64 2, .int .u64 3] 23))).below hb2
  have hB3 : Below w.heap.size w w2 := (by go_grown : Below w.heap.size w ((w1.alloc (.cells #[.int .i64 0, .int .i64 0] 65)).alloc (.cells #[.int .u64 1, .int .u64 2, .int .u64 3] 23))).trans (hb2.mono (by simp; omega))
  have hhf : w2.cell? ⟨w1.heap.size, 0, none⟩ = some (.int .i64 0) := keep (by go_simp) hb2
  have hz2 : w1.heap.size < w2.heap.size := by have := hb2.size; simp at this; omega
  clear hb2 hhd hA3 hA5 hr hV hB2
  go_wp2_with fail
  have hL := Rd.lit (w' := (w2.alloc (.cells #[.int .i64 0, .int .i64 0] 65)).alloc (.cells #[.int .u8 16, .int .u8 2, .int .u8 0, .int .u8 3] 5)) .u8 [16, 2, 0, 3] 5 _ (heap_alloc_new _ _) lit_b (by simp)
  rw [show (w2.alloc (.cells #[.int .i64 0, .int .i64 0] 65)).heap.size = w2.heap.size + 1 by simp] at hL
  refine (SameBytes_any _ _ _ _ _ _ _ _ _ (hr2.below (al (al (rf _) (.cells #[.int .i64 0, .int .i64 0] 65)) (.cells #[.int .u8 16, .int .u8 2, .int .u8 0, .int .u8 3] 5))) hL).mono ?_
  rintro e w4 ⟨rfl, rfl⟩
  clear hL hr2
  go_wp2_with fail
  go_ret
  exact ⟨by simp, by go_grown⟩
end Go.Proofs.Ytfakdapglbgokaa
