/-
  The law PackBack. No condition.
-/
import Derived.Test.YtfakdapglbgokaaPackQ
import Derived.Test.YtfakdapglbgokaaPackL
import Derived.Test.YtfakdapglbgokaaKept
namespace Go.Proofs.Ytfakdapglbgokaa
open Go.RowKit

set_option maxRecDepth 100000 in
set_option maxHeartbeats 1000000 in
theorem PackBack_law (wo : Option Addr) (wn wc : Nat) (ws : List Int) (bo : Option Addr) (bn bc : Nat) (b : List Int) (at_ : Int) (vo : Option Addr) (vn vc : Nat) (v : List Int) (w : World) (hs : Rd w .i64 wo wn wc ws) (hr : Rd w .u8 bo bn bc b) (ha : (Lit.int .i64 at_).wf = true) (hl : Rd w .u64 vo vn vc v) :
    Calls Try.prog 10 #[.slice wo wn wc, .slice bo bn bc, .int .i64 at_, .slice vo vn vc] w fun e w' => e = .returned (.bool true) ∧ Below w.heap.size w w' := by
  obtain rfl := hr.len
  obtain rfl := hl.len
  obtain rfl := hs.len
  by_cases h1 : 100 < (ws.length : Int)
  · go_enter Try.func10, Try.ntmps10
    go_wp2_with (go_at_call 56; refine (packBegun_any _).mono ?_; rintro e w' ⟨rfl, hb⟩)
    go_ret
    exact ⟨rfl, by assumption⟩
  by_cases h2 : 1000 < (b.length : Int)
  · go_enter Try.func10, Try.ntmps10
    go_wp2_with (go_at_call 56; refine (packBegun_any _).mono ?_; rintro e w' ⟨rfl, hb⟩)
    go_ret
    exact ⟨rfl, by assumption⟩
  by_cases h3 : 100 < (v.length : Int)
  · go_enter Try.func10, Try.ntmps10
    go_wp2_with (go_at_call 56; refine (packBegun_any _).mono ?_; rintro e w' ⟨rfl, hb⟩)
    go_ret
    exact ⟨rfl, by assumption⟩
  go_enter Try.func10, Try.ntmps10
  go_wp2_with fail
  refine (packBegun_any _).mono ?_
  rintro e w1 ⟨rfl, hb1⟩
  have H : Kept (fun w' => Below w.heap.size w w') w1 := hb1
  clear hb1
  go_wp2_with fail
  replace H := H.new #[.slice wo ws.length wc] 91
  refine (Size_any _ _ _ _ _ (hs.below H.out.1)).mono ?_
  rintro e w2 ⟨rfl, hb2⟩
  replace H := H.to hb2
  clear hb2
  have hz1 := H.out.2.lt
  have hd1 := H.out.2.one
  go_wp2_with fail
  replace H := H.al (.cells #[.int .i64 (sizeC ws), .int .i64 (sizeA ws)] 65)
  refine (Write_any _ _ _ _ _ _ _ _ _ (hs.below H.out.1) (hl.below H.out.1)).mono ?_
  rintro e w3 ⟨r3, rfl, hm3, hb3⟩
  obtain ⟨a3, c3, rfl, hr3, _⟩ := hm3.rd
  replace H := H.to hb3
  clear hb3 hz1 hd1 hm3
  have hz1 := H.out.2.lt
  have hd1 := H.out.2.one
  have hsz3 := H.out.1.size
  have hn13 := H.out.2.lt
  by_cases hw : writeC ws v = 0
  case neg =>
    have hq : (writeC ws v == 0) = false := by rw [beq_eq_false_iff_ne]; exact hw
    go_wp2_with fail
    have HH := H.new #[.int .i64 (writeC ws v), .int .i64 (writeA ws v)] 65
    generalize hw8 : w3.alloc (.cells #[.int .i64 (writeC ws v), .int .i64 (writeA ws v)] 65) = w8 at *
    clear hw8
    clear hq hw hz1 hd1 hr3 H
    have hz1 := HH.out.1.2.lt
    have hd1 := HH.out.1.2.one
    have hz3 := HH.out.2.lt
    have hu3 := HH.out.2.frozen 0
    have hv3 := HH.out.2.frozen 1
    obtain ⟨hx3, hy3⟩ := HH.out.2.two
    clear hz1 hd1 hz3 hu3 hv3 hx3 hy3
    have hz38 := HH.out.2.lt
    refine (Read_any _ _ _ _ _ _ _ _ _ _ (hs.below HH.out.1.1) (hr.below HH.out.1.1) (by omega) ha).mono ?_
    rintro e w9 ⟨r9, rfl, hm9, hb9⟩
    obtain ⟨a9, c9, rfl, hr9, _⟩ := hm9.rd
    replace HH := HH.to hb9
    clear hb9
    have hz1 := HH.out.1.2.lt
    have hd1 := HH.out.1.2.one
    have hz3 := HH.out.2.lt
    have hu3 := HH.out.2.frozen 0
    have hv3 := HH.out.2.frozen 1
    obtain ⟨hx3, hy3⟩ := HH.out.2.two
    have hB9 := HH.out.1.1
    by_cases hrd : readC ws b.length at_ = 0
    case neg =>
      have hq : (readC ws b.length at_ != 0) = true := by rw [bne_iff_ne]; exact hrd
      have hz' : (((readV ws b at_).length : Int) == 0) = true := by unfold readV; rw [if_neg hrd]; rfl
      clear hrd hr9 hm9
      go_wp2_with fail
      go_ret
      exact ⟨rfl, by go_grown⟩
    have hq : (readC ws b.length at_ != 0) = false := by rw [hrd]; rfl
    obtain ⟨p1, p2, p3, p4, p5⟩ := read_write hr.fit hrd
    have hsN := (size_zero p1).2.2.2.2.2.2
    have hq2 : (writeC ws (readV ws b at_) == 0) = true := by rw [p4]; rfl
    obtain ⟨cb, hcb⟩ : ∃ cb, cb = (b.drop at_.toNat).take (sizeN ws).toNat := ⟨_, rfl⟩
    rw [← hcb] at p5
    have P5 := Lib.hid p5
    have HCB := Lib.hid hcb
    clear p1 p4 p5 hrd hr9 hcb
    go_wp2_with fail
    have HH2 : Kept (fun w' => Below w.heap.size w w' ∧ Blk w' w1.heap.size 91 #[.slice wo ws.length wc]) ((w9.setCell ⟨w3.heap.size, 0, none⟩ (.int .i64 (readC ws b.length at_))).setCell ⟨w3.heap.size, 1, none⟩ (.int .i64 (readA ws b.length at_))) :=
      ⟨below2 HH.out.1.1 hsz3 _ _, HH.out.1.2.far2 (by omega) _ _⟩
    have hm9' := hm9.set2 hz38 (.int .i64 (readC ws b.length at_)) (.int .i64 (readA ws b.length at_))
    clear hz1 hd1 hz3 hu3 hv3 hx3 hy3 hB9 HH hm9
    generalize ((w9.setCell ⟨w3.heap.size, 0, none⟩ (.int .i64 (readC ws b.length at_))).setCell ⟨w3.heap.size, 1, none⟩ (.int .i64 (readA ws b.length at_))) = w10 at *
    refine (Write_any _ _ _ _ _ _ _ _ _ (hs.below HH2.out.1) hm9'.rd_).mono ?_
    rintro e w11 ⟨r11, rfl, hm11, hb11⟩
    rw [P5.out] at hm11
    obtain ⟨a11, c11, rfl, hr11, _⟩ := hm11.rd
    have hB12 := al (HH2.to hb11).out.1 (.cells #[.int .i64 (writeC ws (readV ws b at_)), .int .i64 (writeA ws (readV ws b at_))] 65)
    obtain ⟨a12, hrun, hr12⟩ := (hr.below hB12).cut sty_bytes at_.toNat (at_.toNat + (sizeN ws).toNat) (by omega) (by omega)
    rw [Nat.add_sub_cancel_left, ← HCB.out] at hr12
    rw [Nat.add_sub_cancel_left] at hrun
    have hrun' : ∀ w', (Instr.slice 77 (.slice bo b.length bc) (some (.int .i64 at_)) (some (.int .i64 (at_ + sizeN ws))) none).run Try.prog w' = .ok (.slice a12 (sizeN ws).toNat (bc - at_.toNat)) w' := fun w' => hrun w' _ _ _ _ (by omega) (by omega)
    clear hrun hb11 hm11 HH2 hm9'
    go_wp2_with fail
    refine (SameBytes_any _ _ _ _ _ _ _ _ _ (hr11.below (al (rf _) _)) hr12).mono ?_
    rintro e w13 ⟨rfl, rfl⟩
    clear hrun' hr11 hr12
    go_wp2_with fail
    go_ret
    exact ⟨by simp, hB12⟩
  case pos =>
    have hq : (writeC ws v == 0) = true := by rw [beq_iff_eq]; exact hw
    obtain ⟨hrc, hrv, hwl⟩ := write_read hl.fit hw
    have hs8 := size_zero (wz hw).1
    have hsm : (writeV ws v).length ≤ 1000000 := by omega
    have hqq : (((writeV ws v).length : Int) != sizeN ws) = false := by rw [hwl]; simp
    have hqr : (readC ws (writeV ws v).length 0 != 0) = false := by rw [hrc]; rfl
    have HRV := Lib.hid hrv
    clear hs8 hwl hrc hrv
    go_wp2_with fail
    have HH := H.new #[.int .i64 0, .int .i64 (writeA ws v)] 65
    refine (Read_any _ _ _ _ _ _ _ _ 0 _ (hs.below HH.out.1.1) (hr3.below (al (rf _) _)) hsm (Fits.of_i64 (by omega) (by omega))).mono ?_
    rintro e w6 ⟨r6, rfl, hm6, hb6⟩
    rw [HRV.out] at hm6
    obtain ⟨a6, c6, rfl, hr6, _⟩ := hm6.rd
    replace HH := (HH.to hb6).new #[.int .i64 (readC ws (writeV ws v).length 0), .int .i64 (readA ws (writeV ws v).length 0)] 65
    clear hb6 hm6 hz1 hd1
    have hz6 := HH.out.1.2.lt
    go_wp2_with fail
    refine (SameNums_any _ _ _ _ _ _ _ _ _ (hr6.below (al (rf _) _)) (hl.below HH.out.1.1.1)).mono ?_
    rintro e w8 ⟨rfl, q, hq8⟩
    have hb8 := below_drewN (rf (w6.alloc (.cells #[.int .i64 (readC ws (writeV ws v).length 0), .int .i64 (readA ws (writeV ws v).length 0)] 65))) q
    rw [← hq8] at hb8
    replace HH : Kept (fun w' => (Below w.heap.size w w' ∧ Blk w' w1.heap.size 91 #[.slice wo ws.length wc]) ∧ Blk w' w3.heap.size 65 #[.int .i64 0, .int .i64 (writeA ws v)]) w8 := (HH.to hb8).out.1
    clear hq8 hb8 H
    have hz1 := HH.out.1.2.lt
    have hd1 := HH.out.1.2.one
    have hz3 := HH.out.2.lt
    have hu3 := HH.out.2.frozen 0
    have hv3 := HH.out.2.frozen 1
    obtain ⟨hx3, hy3⟩ := HH.out.2.two
    go_wp2_with fail
    clear hq hw hqq hqr HRV
    clear hz1 hd1 hz3 hu3 hv3 hx3 hy3
    have hz38 := HH.out.2.lt
    refine (Read_any _ _ _ _ _ _ _ _ _ _ (hs.below HH.out.1.1) (hr.below HH.out.1.1) (by omega) ha).mono ?_
    rintro e w9 ⟨r9, rfl, hm9, hb9⟩
    obtain ⟨a9, c9, rfl, hr9, _⟩ := hm9.rd
    replace HH := HH.to hb9
    clear hb9
    have hz1 := HH.out.1.2.lt
    have hd1 := HH.out.1.2.one
    have hz3 := HH.out.2.lt
    have hu3 := HH.out.2.frozen 0
    have hv3 := HH.out.2.frozen 1
    obtain ⟨hx3, hy3⟩ := HH.out.2.two
    have hB9 := HH.out.1.1
    by_cases hrd : readC ws b.length at_ = 0
    case neg =>
      have hq : (readC ws b.length at_ != 0) = true := by rw [bne_iff_ne]; exact hrd
      have hz' : (((readV ws b at_).length : Int) == 0) = true := by unfold readV; rw [if_neg hrd]; rfl
      clear hrd hr9 hm9
      go_wp2_with fail
      go_ret
      exact ⟨rfl, by go_grown⟩
    have hq : (readC ws b.length at_ != 0) = false := by rw [hrd]; rfl
    obtain ⟨p1, p2, p3, p4, p5⟩ := read_write hr.fit hrd
    have hsN := (size_zero p1).2.2.2.2.2.2
    have hq2 : (writeC ws (readV ws b at_) == 0) = true := by rw [p4]; rfl
    obtain ⟨cb, hcb⟩ : ∃ cb, cb = (b.drop at_.toNat).take (sizeN ws).toNat := ⟨_, rfl⟩
    rw [← hcb] at p5
    have P5 := Lib.hid p5
    have HCB := Lib.hid hcb
    clear p1 p4 p5 hrd hr9 hcb
    go_wp2_with fail
    have HH2 : Kept (fun w' => Below w.heap.size w w' ∧ Blk w' w1.heap.size 91 #[.slice wo ws.length wc]) ((w9.setCell ⟨w3.heap.size, 0, none⟩ (.int .i64 (readC ws b.length at_))).setCell ⟨w3.heap.size, 1, none⟩ (.int .i64 (readA ws b.length at_))) :=
      ⟨below2 HH.out.1.1 hsz3 _ _, HH.out.1.2.far2 (by omega) _ _⟩
    have hm9' := hm9.set2 hz38 (.int .i64 (readC ws b.length at_)) (.int .i64 (readA ws b.length at_))
    clear hz1 hd1 hz3 hu3 hv3 hx3 hy3 hB9 HH hm9
    generalize ((w9.setCell ⟨w3.heap.size, 0, none⟩ (.int .i64 (readC ws b.length at_))).setCell ⟨w3.heap.size, 1, none⟩ (.int .i64 (readA ws b.length at_))) = w10 at *
    refine (Write_any _ _ _ _ _ _ _ _ _ (hs.below HH2.out.1) hm9'.rd_).mono ?_
    rintro e w11 ⟨r11, rfl, hm11, hb11⟩
    rw [P5.out] at hm11
    obtain ⟨a11, c11, rfl, hr11, _⟩ := hm11.rd
    have hB12 := al (HH2.to hb11).out.1 (.cells #[.int .i64 (writeC ws (readV ws b at_)), .int .i64 (writeA ws (readV ws b at_))] 65)
    obtain ⟨a12, hrun, hr12⟩ := (hr.below hB12).cut sty_bytes at_.toNat (at_.toNat + (sizeN ws).toNat) (by omega) (by omega)
    rw [Nat.add_sub_cancel_left, ← HCB.out] at hr12
    rw [Nat.add_sub_cancel_left] at hrun
    have hrun' : ∀ w', (Instr.slice 77 (.slice bo b.length bc) (some (.int .i64 at_)) (some (.int .i64 (at_ + sizeN ws))) none).run Try.prog w' = .ok (.slice a12 (sizeN ws).toNat (bc - at_.toNat)) w' := fun w' => hrun w' _ _ _ _ (by omega) (by omega)
    clear hrun hb11 hm11 HH2 hm9'
    go_wp2_with fail
    refine (SameBytes_any _ _ _ _ _ _ _ _ _ (hr11.below (al (rf _) _)) hr12).mono ?_
    rintro e w13 ⟨rfl, rfl⟩
    clear hrun' hr11 hr12
    go_wp2_with fail
    go_ret
    exact ⟨by simp, hB12⟩
end Go.Proofs.Ytfakdapglbgokaa
