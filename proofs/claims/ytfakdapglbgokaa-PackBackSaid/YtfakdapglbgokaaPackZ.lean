/-
  Package pack's references: ReadOf. No condition.
-/
import Derived.Test.YtfakdapglbgokaaPackY
namespace Go.Proofs.Ytfakdapglbgokaa
open Go.RowKit

set_option maxRecDepth 4000 in
theorem ReadOf_any (ao bo : Option Addr) (na ca nb cb : Nat) (ws b : List Int) (at_ : Int) (w : World) (hw : Rd w .i64 ao na ca ws) (hr : Rd w .u8 bo nb cb b) (hnb : nb ≤ 1000000) (ha : Fits .i64 at_) :
    Calls Try.prog 60 #[.agg #[.slice ao na ca], .slice bo nb cb, .int .i64 at_] w fun e w' => ∃ r, e = .returned (.tuple #[r, .agg #[.int .i64 (readC ws nb at_), .int .i64 (readA ws nb at_)]]) ∧ Mine w' w.heap.size 23 .u64 r (readV ws b at_) ∧ Below w.heap.size w w' := by
  obtain rfl := hw.len
  obtain rfl := hr.len
  have hba := ha.i64
  have hW := al (al (rf w) (.cells #[.slice ao ws.length ca] 91)) (.cells #[.int .i64 0, .int .i64 0] 65)
  have hw1 := hw.below hW
  clear hW
  go_enter Try.func60, Try.ntmps60
  go_wp2_with fail
  refine (SizeOf_any _ _ _ _ _ hw1).mono ?_
  rintro e w1 ⟨rfl, hb1⟩
  obtain ⟨f0, f1, f2, z1, z2, z3, hB1⟩ := three_facts hb1
  clear hb1 hw1
  by_cases h0 : sizeC ws = 0
  case neg =>
    obtain ⟨e1, e2, e3⟩ := readC_size (at_ := at_) h0 b rfl
    have E1 := Lib.hid e1
    have E2 := Lib.hid e2
    have E3 := Lib.hid e3
    clear e1 e2 e3
    have hq : (sizeC ws != 0) = true := by rw [bne_iff_ne]; exact h0
    clear h0
    go_wp2_with fail
    go_region
    go_wp2_with fail
    exact bodyPost_ret (v := .tuple #[.slice none 0 0, .agg #[.int .i64 (sizeC ws), .int .i64 (sizeA ws)]]) (by simp [results, Try.results60, go_sem, f1, f2, z3]) rfl ⟨_, by rw [E1.out, E2.out], by rw [E3.out]; exact Mine.nil _ _ _ _, by go_grown⟩
  have hq : (sizeC ws != 0) = false := by rw [h0]; rfl
  obtain ⟨s1, s2, s3, s4, s5, s6, s7, s8⟩ := size_zero h0
  clear s6
  have z0 : w.heap.size < w1.heap.size := by omega
  by_cases h2 : at_ < 0 ∨ (b.length : Int) - sizeN ws < at_
  · obtain ⟨e1, e2, e3⟩ := readC_short (b := b) h0 h2
    have E1 := Lib.hid e1
    have E2 := Lib.hid e2
    have E3 := Lib.hid e3
    clear e1 e2 e3 s3 h0
    have h2 : at_ < 0 ∨ (0 ≤ at_ ∧ (b.length : Int) < at_) ∨ (0 ≤ at_ ∧ at_ ≤ (b.length : Int) ∧ (b.length : Int) - at_ < sizeN ws) := by omega
    rcases h2 with h2 | h2 | h2
    all_goals
      go_wp2_with (go_at_call 90; refine (F_any _ _ _).mono ?_; rintro e w2 ⟨rfl, rfl⟩)
      exact bodyPost_ret (v := .tuple #[.slice none 0 0, .agg #[.int .i64 3, .int .i64 (-1)]]) (by simp [results, Try.results60, go_sem, f1, f2, z3, z0]) rfl ⟨_, by rw [E1.out, E2.out], by rw [E3.out]; exact Mine.nil _ _ _ _, by go_grown⟩
  obtain ⟨e1, e2, e3⟩ := readC_ok (b := b) h0 h2
  have h3 : 0 ≤ at_ ∧ at_ ≤ (b.length : Int) ∧ sizeN ws ≤ (b.length : Int) - at_ := by omega
  obtain ⟨a, hA⟩ := Int.eq_ofNat_of_zero_le h3.1
  obtain ⟨s, hs⟩ := Int.eq_ofNat_of_zero_le (show 0 ≤ sizeN ws by omega)
  have hk : ((b.drop a).take s).length = s := by simp; omega
  obtain ⟨p1, p2⟩ := partC_zero (n := s) (at_ := 0) s3 (by omega) (by omega)
  have hv := partV_cut (b := b) (a := a) (n := s) s3 (by omega) (by omega)
  have E1 := Lib.hid e1
  have E2 := Lib.hid e2
  have E3 : Hid (readV ws b at_ = partV ((b.drop a).take s) 0 ws) := by show _ = _; rw [e3, hA, hv]
  have k2 := al hB1 (.cells #[.int .i64 (sizeC ws), .int .i64 (sizeA ws)] 65)
  have kk := al (rf w1) (.cells #[.int .i64 (sizeC ws), .int .i64 (sizeA ws)] 65)
  obtain ⟨a4, hrun, hr4⟩ := (hr.below k2).cut sty_bytes a (a + s) (by omega) (by omega)
  have hrun' := hrun (w1.alloc (.cells #[.int .i64 (sizeC ws), .int .i64 (sizeA ws)] 65)).drew .i64 .i64 at_ (at_ + sizeN ws) hA (by omega)
  rw [show a + s - a = s from by omega] at hr4 hrun'
  have Hs := Lib.hid hs
  have hw2 := hw.below k2
  have hs32 : s ≤ 1000000 := by omega
  clear e1 e2 e3 s3 h0 h2 hrun hv hs hr hw ha hba
  have hsz : 0 ≤ sizeN ws ∧ at_ + sizeN ws ≤ (b.length : Int) := by omega
  have hw8 : IntKind.i64.wrap (at_ + sizeN ws) = at_ + sizeN ws := IntWalk.i64_in _ (by omega)
  have Hk := Lib.hid hk
  have HA := Lib.hid hA
  have Hsz := Lib.hid hsz
  clear hk hsz s4 s5 hA
  have kd : Below w1.heap.size w1 (w1.alloc (.cells #[.int .i64 (sizeC ws), .int .i64 (sizeA ws)] 65)).drew := below_drewN kk 1
  have kd2 : Below w.heap.size w (w1.alloc (.cells #[.int .i64 (sizeC ws), .int .i64 (sizeA ws)] 65)).drew := below_drewN k2 1
  have hr5 := hr4.below (show Below (w1.alloc (.cells #[.int .i64 (sizeC ws), .int .i64 (sizeA ws)] 65)).heap.size (w1.alloc (.cells #[.int .i64 (sizeC ws), .int .i64 (sizeA ws)] 65)) (w1.alloc (.cells #[.int .i64 (sizeC ws), .int .i64 (sizeA ws)] 65)).drew from below_drewN (rf _) 1)
  have hw5 := hw2.below (show Below (w1.alloc (.cells #[.int .i64 (sizeC ws), .int .i64 (sizeA ws)] 65)).heap.size (w1.alloc (.cells #[.int .i64 (sizeC ws), .int .i64 (sizeA ws)] 65)) (w1.alloc (.cells #[.int .i64 (sizeC ws), .int .i64 (sizeA ws)] 65)).drew from below_drewN (rf _) 1)
  have hlt : w.heap.size + 1 < (w1.alloc (.cells #[.int .i64 (sizeC ws), .int .i64 (sizeA ws)] 65)).drew.heap.size := Nat.lt_of_lt_of_le z3 kd.size
  have Hlt := Lib.hid hlt
  clear hlt hr4 hw2
  go_wp2_with fail
  go_region_law ((go_simp; go_at_call 110; refine (refPart_any _ _ _ _ _ _ _ _ _ _ hr5 hw5 hs32 (by omega) (show Fits .i64 0 from rfl)).mono ?_; rintro e w2 ⟨r, rfl, hm, hb2⟩; have k3 := ov kd hb2; replace f1 := keep f1 k3; replace f2 := keep f2 k3; replace z1 := keepF z1 z3 k3; replace z2 := keepF z2 z3 k3; replace z3 := Nat.lt_of_lt_of_le z3 k3.size; replace z0 := Nat.lt_of_lt_of_le z0 k3.size))
  all_goals
    have hB2 := ov kd2 hb2
    rw [← E3.out] at hm
    go_wp2_with fail
    exact bodyPost_ret (v := .tuple #[r, .agg #[.int .i64 0, .int .i64 0]]) (by simp [results, Try.results60, go_sem, f1, f2]) rfl ⟨_, by rw [E1.out, E2.out], (((hm.setLow Hlt.out _).setLow Hlt.out _)).base_le (Nat.le_of_lt (Nat.lt_of_succ_lt Hlt.out)), by go_grown⟩
end Go.Proofs.Ytfakdapglbgokaa
