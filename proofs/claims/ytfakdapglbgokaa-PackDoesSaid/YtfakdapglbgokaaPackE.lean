/-
  The law PackDoes. No condition.
-/
import Derived.Test.YtfakdapglbgokaaPackQ
import Derived.Test.YtfakdapglbgokaaKept
namespace Go.Proofs.Ytfakdapglbgokaa
open Go.RowKit

set_option maxRecDepth 100000 in
set_option maxHeartbeats 1000000 in
theorem PackDoes_law (wo : Option Addr) (wn wc : Nat) (ws : List Int) (bo : Option Addr) (bn bc : Nat) (b : List Int) (at_ : Int) (vo : Option Addr) (vn vc : Nat) (v : List Int) (skip : Int) (w : World) (hs : Rd w .i64 wo wn wc ws) (hr : Rd w .u8 bo bn bc b) (ha : (Lit.int .i64 at_).wf = true) (hl : Rd w .u64 vo vn vc v) (hk : (Lit.int .i64 skip).wf = true) :
    Calls Try.prog 9 #[.slice wo wn wc, .slice bo bn bc, .int .i64 at_, .slice vo vn vc, .int .i64 skip] w fun e w' => e = .returned (.bool true) ∧ Below w.heap.size w w' := by
  obtain rfl := hr.len
  obtain rfl := hl.len
  obtain rfl := hs.len
  by_cases h1 : 100 < (ws.length : Int)
  · go_enter Try.func9, Try.ntmps9
    go_wp2_with (go_at_call 56; refine (packBegun_any _).mono ?_; rintro e w' ⟨rfl, hb⟩)
    go_ret
    exact ⟨rfl, by assumption⟩
  by_cases h2 : 1000 < (b.length : Int)
  · go_enter Try.func9, Try.ntmps9
    go_wp2_with (go_at_call 56; refine (packBegun_any _).mono ?_; rintro e w' ⟨rfl, hb⟩)
    go_ret
    exact ⟨rfl, by assumption⟩
  by_cases h3 : 100 < (v.length : Int)
  · go_enter Try.func9, Try.ntmps9
    go_wp2_with (go_at_call 56; refine (packBegun_any _).mono ?_; rintro e w' ⟨rfl, hb⟩)
    go_ret
    exact ⟨rfl, by assumption⟩
  go_enter Try.func9, Try.ntmps9
  go_wp2_with fail
  refine (packBegun_any _).mono ?_
  rintro e w1 ⟨rfl, hb1⟩
  go_wp2_with (first
    | (at_builtin; refine wpList_clone rfl _ (.tmp 37) 52 rfl sty_ints rfl rfl (hs.below hb1) (by omega) (by omega) ?_; intro a2 c2 w2 hm2 hb2; have H : Kept (fun w2 => Below w.heap.size w w2 ∧ Rd w2 .i64 a2 ws.length c2 ws) w2 := ⟨ov hb1 hb2, hm2.rd_⟩; clear hm2 hb2)
    | (at_builtin; refine wpList_clone rfl _ (.tmp 40) 28 rfl sty_nums rfl rfl (hl.below (H.al (.cells #[.slice a2 ws.length c2] 91)).out.1) (by omega) (by omega) ?_; intro a3 c3 w3 hm3 hb3; replace H := (((H.new _ _).to hb3).rd hm3.rd_); clear hm3 hb3; have hz2 := H.out.1.2.lt)
    | (at_builtin; refine wpList_clone rfl _ (.tmp 42) 77 rfl sty_bytes rfl rfl (hr.below H.out.1.1.1) (by omega) (by omega) ?_; intro a4 c4 w4 hm4 hb4; replace H := (H.to hb4).rd hm4.rd_; clear hm4 hb4 hz2; have hz2 := H.out.1.1.2.lt; have hd2 := H.out.1.1.2.one))
  refine (Size_any _ _ _ _ _ H.out.1.1.1.2).mono ?_
  rintro e w5 ⟨rfl, hb5⟩
  replace H := H.to hb5
  clear hz2 hd2 hb5
  have hz2 := H.out.1.1.2.lt
  have hd2 := H.out.1.1.2.one
  go_wp2_with fail
  refine (SizeOf_any _ _ _ _ _ (H.al _).out.1.1.1.2).mono ?_
  rintro e w6 ⟨rfl, hb6⟩
  have J := ((Kept.start w5).new _ _).to hb6
  clear hz2 hd2 hb6
  have hz2 := (H.to J.out.1).out.1.1.2.lt
  have hd2 := (H.to J.out.1).out.1.1.2.one
  have hz5 := J.out.2.lt
  obtain ⟨hf0, hf1⟩ := J.out.2.two
  go_wp2_with fail
  refine (Read_any _ _ _ _ _ _ _ _ _ _ (H.to (J.al _).out.1).out.1.1.1.2 (H.to (J.al _).out.1).out.2 (by omega) ha).mono ?_
  rintro e w7 ⟨r7, rfl, hm7, hb7⟩
  have hlt : w5.heap.size < (w6.alloc (.cells #[.int .i64 (sizeC ws), .int .i64 (sizeA ws)] 65)).heap.size ∧ w6.heap.size < (w6.alloc (.cells #[.int .i64 (sizeC ws), .int .i64 (sizeA ws)] 65)).heap.size := by constructor <;> simp <;> omega
  obtain ⟨a7, c7, rfl, hr7, _⟩ := hm7.rd
  have hne : w5.heap.size < w6.heap.size := by omega
  have hn2 : w2.heap.size < w5.heap.size := H.out.1.1.2.lt
  replace J := (J.new _ _).to hb7
  clear hz2 hd2 hb7 hf0 hf1 hz5
  have hz2 := (H.to J.out.1.1).out.1.1.2.lt
  have hd2 := (H.to J.out.1.1).out.1.1.2.one
  have hz5 := J.out.1.2.lt
  have hz6 := J.out.2.lt
  have hu5 := J.out.1.2.two.1
  have hv5 := J.out.1.2.two.2
  have hw5 := J.out.1.2.frozen 0
  have hx5 := J.out.1.2.frozen 1
  go_wp2_with fail
  have hlt7 := hz6
  clear hz2 hd2 hz5 hz6 hu5 hv5 hw5 hx5
  have J7 : Kept (fun w' => (Below w5.heap.size w5 w' ∧ Blk w' w5.heap.size 65 #[.int .i64 (readC ws b.length at_), .int .i64 (readA ws b.length at_)]) ∧ Blk w' w6.heap.size 65 #[.int .i64 (sizeC ws), .int .i64 (sizeA ws)]) _ :=
    ⟨⟨below2 J.out.1.1 (Nat.le_refl _) _ _, J.out.1.2.set2 _ _⟩, J.out.2.far2 (by omega) _ _⟩
  refine (ReadOf_any _ _ _ _ _ _ _ _ _ _ (H.to J7.out.1.1).out.1.1.1.2 (hr.below (H.to J7.out.1.1).out.1.1.1.1) (by omega) ha).mono ?_
  rintro e w8 ⟨r8, rfl, hm8, hb8⟩
  obtain ⟨a8, c8, rfl, hr8, _⟩ := hm8.rd
  replace hm7 := (hm7.set2 hlt.1 _ _).below hb8
  replace J := J7.to hb8
  clear J7 hb8 hr7 hr8
  have hz2 := (H.to J.out.1.1).out.1.1.2.lt
  have hd2 := (H.to J.out.1.1).out.1.1.2.one
  have hz5 := J.out.1.2.lt
  have hz6 := J.out.2.lt
  obtain ⟨hu5, hv5⟩ := J.out.1.2.two
  obtain ⟨hu6, hv6⟩ := J.out.2.two
  have hw5 := J.out.2.frozen 0
  have hx5 := J.out.2.frozen 1
  go_wp2_with fail
  clear hz2 hd2 hz5 hz6 hu5 hv5 hu6 hv6 hw5 hx5
  replace hm7 := hm7.set2 hlt.2 (.int .i64 (readC ws b.length at_)) (.int .i64 (readA ws b.length at_))
  replace hm8 := hm8.set2 (f := w6.heap.size) (by simpa using hlt7) (.int .i64 (readC ws b.length at_)) (.int .i64 (readA ws b.length at_))
  have J8 : Kept (fun w' => (Below w5.heap.size w5 w' ∧ Blk w' w5.heap.size 65 #[.int .i64 (readC ws b.length at_), .int .i64 (readA ws b.length at_)]) ∧ Blk w' w6.heap.size 65 #[.int .i64 (readC ws b.length at_), .int .i64 (readA ws b.length at_)]) _ :=
    ⟨⟨below2 J.out.1.1 (by omega) _ _, J.out.1.2.far2 (by omega) _ _⟩, J.out.2.set2 _ _⟩
  refine (SameNums_any _ _ _ _ _ _ _ _ _ hm7.rd_ hm8.rd_).mono ?_
  rintro e w9 ⟨rfl, q, hq⟩
  have hb9 := below_drewN (rf ((w8.setCell ⟨w6.heap.size, 0, none⟩ (.int .i64 (readC ws b.length at_))).setCell ⟨w6.heap.size, 1, none⟩ (.int .i64 (readA ws b.length at_)))) q
  rw [← hq] at hb9
  replace J := J8.to hb9
  clear hq hb9 J8 hm7 hm8 hlt
  have hz2 := (H.to J.out.1.1).out.1.1.2.lt
  have hd2 := (H.to J.out.1.1).out.1.1.2.one
  have hz5 := J.out.1.2.lt
  have hz6 := J.out.2.lt
  obtain ⟨hu5, hv5⟩ := J.out.1.2.two
  obtain ⟨hu6, hv6⟩ := J.out.2.two
  have hw5 := J.out.1.2.frozen 0
  have hx5 := J.out.1.2.frozen 1
  have hw6 := J.out.2.frozen 0
  have hx6 := J.out.2.frozen 1
  go_wp2_with fail
  clear hz2 hd2 hz5 hz6 hu5 hv5 hu6 hv6 hw5 hx5 hw6 hx6
  refine (Write_any _ _ _ _ _ _ _ _ _ (H.to J.out.1.1).out.1.1.1.2 (H.to J.out.1.1).out.1.2).mono ?_
  rintro e w10 ⟨r10, rfl, hm10, hb10⟩
  obtain ⟨a10, c10, rfl, hr10, _⟩ := hm10.rd
  have hlt10 : w5.heap.size < w9.heap.size ∧ w6.heap.size < w9.heap.size := ⟨J.out.1.2.lt, J.out.2.lt⟩
  replace J := J.to hb10
  clear hb10 hr10
  have hz2 := (H.to J.out.1.1).out.1.1.2.lt
  have hd2 := (H.to J.out.1.1).out.1.1.2.one
  have hz5 := J.out.1.2.lt
  have hz6 := J.out.2.lt
  obtain ⟨hu5, hv5⟩ := J.out.1.2.two
  obtain ⟨hu6, hv6⟩ := J.out.2.two
  have hw5 := J.out.1.2.frozen 0
  have hx5 := J.out.1.2.frozen 1
  have hw6 := J.out.2.frozen 0
  have hx6 := J.out.2.frozen 1
  go_wp2_with fail
  clear hz2 hd2 hz5 hz6 hu5 hv5 hu6 hv6 hw5 hx5 hw6 hx6
  have hlt11 := J.out.2.lt
  have J10 : Kept (fun w' => (Below w5.heap.size w5 w' ∧ Blk w' w5.heap.size 65 #[.int .i64 (writeC ws v), .int .i64 (writeA ws v)]) ∧ Blk w' w6.heap.size 65 #[.int .i64 (readC ws b.length at_), .int .i64 (readA ws b.length at_)]) _ :=
    ⟨⟨below2 J.out.1.1 (Nat.le_refl _) _ _, J.out.1.2.set2 _ _⟩, J.out.2.far2 (by omega) _ _⟩
  refine (WriteOf_any _ _ _ _ _ _ _ _ _ (H.to J10.out.1.1).out.1.1.1.2 (hl.below (H.to J10.out.1.1).out.1.1.1.1)).mono ?_
  rintro e w11 ⟨r11, rfl, hm11, hb11⟩
  obtain ⟨a11, c11, rfl, hr11, _⟩ := hm11.rd
  replace hm10 := (hm10.set2 hlt10.1 _ _).below hb11
  replace J := J10.to hb11
  clear J10 hb11 hr11
  have hz2 := (H.to J.out.1.1).out.1.1.2.lt
  have hd2 := (H.to J.out.1.1).out.1.1.2.one
  have hz5 := J.out.1.2.lt
  have hz6 := J.out.2.lt
  obtain ⟨hu5, hv5⟩ := J.out.1.2.two
  obtain ⟨hu6, hv6⟩ := J.out.2.two
  have hw5 := J.out.1.2.frozen 0
  have hx5 := J.out.1.2.frozen 1
  have hw6 := J.out.2.frozen 0
  have hx6 := J.out.2.frozen 1
  go_wp2_with fail
  clear hz2 hd2 hz5 hz6 hu5 hv5 hu6 hv6 hw5 hx5 hw6 hx6
  replace hm10 := hm10.set2 hlt10.2 (.int .i64 (writeC ws v)) (.int .i64 (writeA ws v))
  replace hm11 := hm11.set2 (f := w6.heap.size) (by simpa using hlt11) (.int .i64 (writeC ws v)) (.int .i64 (writeA ws v))
  have J11 : Kept (fun w' => (Below w5.heap.size w5 w' ∧ Blk w' w5.heap.size 65 #[.int .i64 (writeC ws v), .int .i64 (writeA ws v)]) ∧ Blk w' w6.heap.size 65 #[.int .i64 (writeC ws v), .int .i64 (writeA ws v)]) _ :=
    ⟨⟨below2 J.out.1.1 (by omega) _ _, J.out.1.2.far2 (by omega) _ _⟩, J.out.2.set2 _ _⟩
  refine (SameBytes_any _ _ _ _ _ _ _ _ _ hm10.rd_ hm11.rd_).mono ?_
  rintro e w12 ⟨rfl, rfl⟩
  generalize ((w11.setCell ⟨w6.heap.size, 0, none⟩ (.int .i64 (writeC ws v))).setCell ⟨w6.heap.size, 1, none⟩ (.int .i64 (writeA ws v))) = w13 at *
  clear J hm10 hm11 hlt10 hlt11
  have J := J11
  clear J11
  have hz2 := (H.to J.out.1.1).out.1.1.2.lt
  have hd2 := (H.to J.out.1.1).out.1.1.2.one
  have hz5 := J.out.1.2.lt
  have hz6 := J.out.2.lt
  obtain ⟨hu5, hv5⟩ := J.out.1.2.two
  obtain ⟨hu6, hv6⟩ := J.out.2.two
  have hw5 := J.out.1.2.frozen 0
  have hx5 := J.out.1.2.frozen 1
  have hw6 := J.out.2.frozen 0
  have hx6 := J.out.2.frozen 1
  go_wp2_with fail
  clear hz2 hd2 hz5 hz6 hu5 hv5 hu6 hv6 hw5 hx5 hw6 hx6
  refine (Sum_any _ _ _ _ _ _ _ _ _ _ (H.to J.out.1.1).out.1.1.1.2 (H.to J.out.1.1).out.1.2 (by omega) hk).mono ?_
  rintro e w14 ⟨rfl, hb14⟩
  replace J := J.to hb14
  clear hb14
  have hz2 := (H.to J.out.1.1).out.1.1.2.lt
  have hd2 := (H.to J.out.1.1).out.1.1.2.one
  have hz5 := J.out.1.2.lt
  have hz6 := J.out.2.lt
  obtain ⟨hu5, hv5⟩ := J.out.1.2.two
  obtain ⟨hu6, hv6⟩ := J.out.2.two
  have hw5 := J.out.1.2.frozen 0
  have hx5 := J.out.1.2.frozen 1
  have hw6 := J.out.2.frozen 0
  have hx6 := J.out.2.frozen 1
  go_wp2_with fail
  clear hz2 hd2 hz5 hz6 hu5 hv5 hu6 hv6 hw5 hx5 hw6 hx6
  have J14 : Kept (fun w' => (Below w5.heap.size w5 w' ∧ Blk w' w5.heap.size 65 #[.int .i64 (sumC ws v skip), .int .i64 (sumA ws v skip)]) ∧ Blk w' w6.heap.size 65 #[.int .i64 (writeC ws v), .int .i64 (writeA ws v)]) _ :=
    ⟨⟨below2 J.out.1.1 (Nat.le_refl _) _ _, J.out.1.2.set2 _ _⟩, J.out.2.far2 (by omega) _ _⟩
  refine (HeadSum_any _ _ _ _ _ _ _ _ _ _ (H.to J14.out.1.1).out.1.1.1.2 (hl.below (H.to J14.out.1.1).out.1.1.1.1) (by omega) hk).mono ?_
  rintro e w15 ⟨rfl, hb15⟩
  replace J := J14.to hb15
  clear J14 hb15
  have hz2 := (H.to J.out.1.1).out.1.1.2.lt
  have hd2 := (H.to J.out.1.1).out.1.1.2.one
  have hz5 := J.out.1.2.lt
  have hz6 := J.out.2.lt
  obtain ⟨hu5, hv5⟩ := J.out.1.2.two
  obtain ⟨hu6, hv6⟩ := J.out.2.two
  have hw5 := J.out.1.2.frozen 0
  have hx5 := J.out.1.2.frozen 1
  have hw6 := J.out.2.frozen 0
  have hx6 := J.out.2.frozen 1
  go_wp2_with fail
  clear hz2 hd2 hz5 hz6 hu5 hv5 hu6 hv6 hw5 hx5 hw6 hx6
  have J15 : Kept (fun w' => (Below w5.heap.size w5 w' ∧ Blk w' w5.heap.size 65 #[.int .i64 (sumC ws v skip), .int .i64 (sumA ws v skip)]) ∧ Blk w' w6.heap.size 65 #[.int .i64 (sumC ws v skip), .int .i64 (sumA ws v skip)]) _ :=
    ⟨⟨below2 J.out.1.1 (by omega) _ _, J.out.1.2.far2 (by omega) _ _⟩, J.out.2.set2 _ _⟩
  generalize ((w15.setCell ⟨w6.heap.size, 0, none⟩ (.int .i64 (sumC ws v skip))).setCell ⟨w6.heap.size, 1, none⟩ (.int .i64 (sumA ws v skip))) = w16 at *
  replace H := H.to J15.out.1.1
  clear J J15
  refine (SameInts_any _ _ _ _ _ _ _ _ _ H.out.1.1.1.2 (hs.below H.out.1.1.1.1)).mono ?_
  rintro e w17 ⟨rfl, q, hq⟩
  have hb17 := below_drewN (rf w16) q
  rw [← hq] at hb17
  replace H := H.to hb17
  clear hq hb17
  go_wp2_with fail
  refine (SameNums_any _ _ _ _ _ _ _ _ _ H.out.1.2 (hl.below H.out.1.1.1.1)).mono ?_
  rintro e w18 ⟨rfl, q, hq⟩
  have hb18 := below_drewN (rf w17) q
  rw [← hq] at hb18
  replace H := H.to hb18
  clear hq hb18
  go_wp2_with fail
  refine (SameBytes_any _ _ _ _ _ _ _ _ _ H.out.2 (hr.below H.out.1.1.1.1)).mono ?_
  rintro e w19 ⟨rfl, rfl⟩
  have hB := H.out.1.1.1.1
  clear H
  go_wp2_with fail
  go_ret
  exact ⟨by simp, hB⟩

end Go.Proofs.Ytfakdapglbgokaa
