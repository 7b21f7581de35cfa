/-
  Package pack's references: HeadSum. No condition.
-/
import Derived.Test.YtfakdapglbgokaaPackS
namespace Go.Proofs.Ytfakdapglbgokaa
open Go.RowKit

def skipF (v : List Int) (skip : Int) (i : Nat) : Int := if (i : Int) = skip then 0 else el v i

theorem writeC_zero {ws v : List Int} (h : writeC ws v = 0) : sizeC ws = 0 ∧ v.length = ws.length ∧ ∀ j, j < v.length → vBad ws v j = false := by
  unfold writeC at h
  split at h
  · rename_i h1; exact absurd h h1
  · rename_i h1
    split at h
    · omega
    · rename_i h2
      split at h
      · omega
      · rename_i h3
        exact ⟨by simpa using h1, by simpa using h2, firstN_all _ _ (by have := firstN_le (vBad ws v) v.length; omega)⟩
theorem writeV_length {ws v : List Int} (h : writeC ws v = 0) : ((writeV ws v).length : Int) = sizeN ws := by
  obtain ⟨h1, h2, _⟩ := writeC_zero h
  obtain ⟨s1, s2, s3, s4, s5, s6, s7, s8⟩ := size_zero h1
  have hb : ∀ j, j < ws.length → badW ws j = false := fun j hj => by have := wOk (s3 j hj); unfold badW; simp; omega
  have hc := catTo_length v ws ws.length hb
  unfold writeV joinV
  rw [if_pos h, if_pos (joinC_zero h2 s3).1, bytesF_length]
  omega
theorem writeV_small {ws v : List Int} (h : writeC ws v = 0) : (writeV ws v).length ≤ 1000000 := by
  have := writeV_length h
  have := size_zero (writeC_zero h).1
  omega

set_option maxRecDepth 4000 in
set_option maxHeartbeats 600000 in
theorem HeadSum_any (ao bo : Option Addr) (na ca nb cb : Nat) (ws v : List Int) (skip : Int) (w : World) (hw : Rd w .i64 ao na ca ws) (hr : Rd w .u64 bo nb cb v) (hnb : nb ≤ 1000000) (hs : Fits .i64 skip) :
    Calls Try.prog 65 #[.agg #[.slice ao na ca], .slice bo nb cb, .int .i64 skip] w fun e w' => e = .returned (.tuple #[.int .i64 (sumN ws v skip), .agg #[.int .i64 (sumC ws v skip), .int .i64 (sumA ws v skip)]]) ∧ Below w.heap.size w w' := by
  obtain rfl := hw.len
  obtain rfl := hr.len
  have hsk := hs.i64
  have hlw := hw.lt
  have hW := al (al (rf w) (.cells #[.slice ao ws.length ca] 91)) (.cells #[.int .i64 0, .int .i64 0] 65)
  have hr1 := hr.below hW
  by_cases h0 : skip < -1 ∨ (ws.length : Int) ≤ skip
  · obtain ⟨e1, e2, e3⟩ := sumC_range v h0
    rw [e1, e2, e3]
    clear e1 e2 e3
    have h0 : skip < -1 ∨ (-1 ≤ skip ∧ (ws.length : Int) ≤ skip) := by omega
    rcases h0 with h0 | h0
    all_goals
      go_enter Try.func65, Try.ntmps65
      go_wp2_with (go_at_call 90; refine (F_any _ _ _).mono ?_; rintro e w2 ⟨rfl, rfl⟩)
      exact bodyPost_ret (v := .tuple #[.int .i64 0, .agg #[.int .i64 1, .int .i64 (-1)]]) (by simp [results, Try.results65, go_sem]) rfl ⟨rfl, by go_grown⟩
  obtain ⟨e1, e2, e3⟩ := sumC_in v h0
  have E1 := Lib.hid e1
  have E2 := Lib.hid e2
  have E3 := Lib.hid e3
  have h1 : -1 ≤ skip ∧ skip < (ws.length : Int) := by omega
  have hF0 : Below ((w.alloc (.cells #[.slice ao ws.length ca] 91)).alloc (.cells #[.int .i64 0, .int .i64 0] 65)).heap.size ((w.alloc (.cells #[.slice ao ws.length ca] 91)).alloc (.cells #[.int .i64 0, .int .i64 0] 65)) ((w.alloc (.cells #[.slice ao ws.length ca] 91)).alloc (.cells #[.int .i64 0, .int .i64 0] 65)) := rf _
  clear e1 e2 e3 h0
  go_enter Try.func65, Try.ntmps65
  go_wp2_with fail
  obtain ⟨w1, hW1⟩ : ∃ w1, w1 = ((w.alloc (.cells #[.slice ao ws.length ca] 91)).alloc (.cells #[.int .i64 0, .int .i64 0] 65)) := ⟨_, rfl⟩
  rw [← hW1] at hr1 hF0 hW ⊢
  have HW1 := Lib.hid hW1
  clear hW1
  go_loopw [8, 9] (fun r i wr => ∃ k : Nat, k ≤ v.length ∧ i = .int .i64 k ∧ Mine wr w1.heap.size 23 .u64 r (mk (skipF v skip) k) ∧ Below w1.heap.size w1 wr) (fun _ i _ => v.length - (intOf i).toNat)
  case atStart => exact ⟨0, Nat.zero_le _, rfl, Mine.nil _ _ _ _, hF0⟩
  case round =>
    clear hF0
    obtain ⟨k, hk, rfl, hm, hbr⟩ := hrel
    by_cases hl : k < v.length
    · obtain ⟨b, off, rfl, hc⟩ := (hr1.below hbr).here (by omega)
      have hck := hc k hl
      have hsm : Hid (mk (skipF v skip) (k + 1) = mk (skipF v skip) k ++ [skipF v skip k]) := mk_succ _ _
      have hgr := hr1.fit.el_u64 k
      clear hc
      by_cases hks : (k : Int) = skip
      · have hq : ((k : Int) == skip) = true := by rw [beq_iff_eq]; exact hks
        have hv : Hid (skipF v skip k = 0) := if_pos hks
        clear hks
        go_wp2_with (at_builtin; refine wpList_append_one rfl _ _ 28 rfl sty_nums w1.heap.size rfl hm rfl (by simp) (show Fits .u64 0 from rfl) (by rw [mk_length]; omega) (by omega) hbr.size ?_; intro r' w4 hm4 hb4)
        have hbr4 := hbr.trans hb4
        go_wp2_with fail
        go_roundw
        case rel => exact ⟨k + 1, by omega, by go_num, by rw [hsm.out, hv.out]; exact hm4, hbr4⟩
        case measure => simp [intOf]; omega
      · have hq : ((k : Int) == skip) = false := by rw [beq_eq_false_iff_ne]; exact hks
        have hv : Hid (skipF v skip k = el v k) := if_neg hks
        clear hks
        go_wp2_with (at_builtin; refine wpList_append_one rfl _ _ 28 rfl sty_nums w1.heap.size rfl hm rfl (by simp) (Fits.of_u64 hgr.1 hgr.2) (by rw [mk_length]; omega) (by omega) hbr.size ?_; intro r' w4 hm4 hb4)
        have hbr4 := hbr.trans hb4
        go_wp2_with fail
        go_roundw
        case rel => exact ⟨k + 1, by omega, by go_num, by rw [hsm.out, hv.out]; exact hm4, hbr4⟩
        case measure => simp [intOf]; omega
    · obtain rfl : k = v.length := by omega
      have hm2 : Mine wr w1.heap.size 23 .u64 u8 (skipV v skip) := hm
      obtain ⟨a, c, rfl, hr2, _⟩ := hm2.rd
      clear hm hm2
      have e1' := HW1.out
      subst e1'
      obtain ⟨f0, f1, f2, z1, z2, z3, hB1⟩ := three_facts hbr
      have z0 : w.heap.size < wr.heap.size := by omega
      clear hr1 hbr
      go_wp2_with fail
      refine (WriteOf_any _ _ _ _ _ _ _ _ _ (hw.below hB1) hr2).mono ?_
      rintro e w3 ⟨r3, rfl, hm3, hb3⟩
      obtain ⟨a3, c3, rfl, hr3, _⟩ := hm3.rd
      replace f1 := keep f1 hb3
      replace f2 := keep f2 hb3
      replace z1 := keepF z1 z3 hb3
      replace z2 := keepF z2 z3 hb3
      replace z3 := Nat.lt_of_lt_of_le z3 hb3.size
      replace z0 := Nat.lt_of_lt_of_le z0 hb3.size
      have hB3 := ov hB1 hb3
      have hr4 := hr3.below (al (rf w3) (.cells #[.int .i64 (writeC ws (skipV v skip)), .int .i64 (writeA ws (skipV v skip))] 65))
      clear hm3 hb3 hB1 hr2
      by_cases h3 : writeC ws (skipV v skip) = 0
      · have hq : (writeC ws (skipV v skip) != 0) = false := by rw [h3]; rfl
        have H3 := Lib.hid h3
        have HA := Lib.hid (writeA_zero h3)
        have hlen : (writeV ws (skipV v skip)).length ≤ 1000000 := writeV_small h3
        have hwr := whole_range (writeV ws (skipV v skip))
        clear h3
        go_wp2_with fail
        refine (refWhole_any _ _ _ _ _ hr4 hlen).mono ?_
        rintro e w4 ⟨rfl, rfl⟩
        go_wp2_with fail
        exact bodyPost_ret (v := .tuple #[.int .i64 (65535 - whole (writeV ws (skipV v skip))), .agg #[.int .i64 0, .int .i64 0]]) (by simp [results, Try.results65, go_sem, f1, f2, z3]) rfl ⟨by rw [E1.out, E2.out, E3.out, H3.out, HA.out, if_pos rfl], by go_grown⟩
      · have hq : (writeC ws (skipV v skip) != 0) = true := by rw [bne_iff_ne]; exact h3
        have H3 := Lib.hid h3
        clear h3
        go_wp2_with fail
        go_region
        go_wp2_with fail
        exact bodyPost_ret (v := .tuple #[.int .i64 0, .agg #[.int .i64 (writeC ws (skipV v skip)), .int .i64 (writeA ws (skipV v skip))]]) (by simp [results, Try.results65, go_sem, f1, f2, z3]) rfl ⟨by rw [E1.out, E2.out, E3.out, if_neg H3.out], by go_grown⟩
end Go.Proofs.Ytfakdapglbgokaa
