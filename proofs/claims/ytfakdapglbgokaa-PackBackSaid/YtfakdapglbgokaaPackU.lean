/-
  Package pack's references: WriteOf. No condition.
-/
import Derived.Test.YtfakdapglbgokaaPackV
namespace Go.Proofs.Ytfakdapglbgokaa
open Go.RowKit

theorem quietEq {P : Program} {f : FuncId} {args : Array Value} {w : World} {n : Nat} {v : Value}
    (h : Calls P f args (w.drewN n) fun e w' => e = .returned v ∧ w.drewN n = w') : Calls P f args (w.drewN n) fun e w'' => e = .returned v ∧ ∃ m, w'' = w.drewN m :=
  h.mono fun _ _ ⟨he, hm⟩ => ⟨he, n, hm.symm⟩

theorem Wide_any (x w_ : Int) (w : World) (hw : Fits .i64 w_) :
    Calls Try.prog 94 #[.int .u64 x, .int .i64 w_] w fun e w' => e = .returned (.bool (decide (ones w_ < x))) ∧ w = w' := by
  go_enter Try.func94, Try.ntmps94
  go_wp2_with fail
  refine (Ones_any _ _ hw).mono ?_
  rintro e w' ⟨rfl, rfl⟩
  go_wp2_with fail
  go_ret
  exact ⟨rfl, rfl⟩

theorem WriteOf_any (ao bo : Option Addr) (na ca nb cb : Nat) (ws v : List Int) (w : World) (hw : Rd w .i64 ao na ca ws) (hr : Rd w .u64 bo nb cb v) :
    Calls Try.prog 63 #[.agg #[.slice ao na ca], .slice bo nb cb] w fun e w' => ∃ r, e = .returned (.tuple #[r, .agg #[.int .i64 (writeC ws v), .int .i64 (writeA ws v)]]) ∧ Mine w' w.heap.size 5 .u8 r (writeV ws v) ∧ Below w.heap.size w w' := by
  obtain rfl := hw.len
  obtain rfl := hr.len
  have hlv := hr.lt
  have hW := al (al (rf w) (.cells #[.slice ao ws.length ca] 91)) (.cells #[.int .i64 0, .int .i64 0] 65)
  have hw1 := hw.below hW
  clear hW
  go_enter Try.func63, Try.ntmps63
  go_wp2_with fail
  refine (SizeOf_any _ _ _ _ _ hw1).mono ?_
  rintro e w1 ⟨rfl, hb1⟩
  obtain ⟨f0, f1, f2, z1, z2, z3, hB1⟩ := three_facts hb1
  clear hb1 hw1
  by_cases h0 : sizeC ws = 0
  case neg =>
    obtain ⟨e1, e2, e3⟩ := writeC_size (v := v) h0
    have E1 := Lib.hid e1
    have E2 := Lib.hid e2
    have E3 := Lib.hid e3
    clear e1 e2 e3
    have hq : (sizeC ws != 0) = true := by rw [bne_iff_ne]; exact h0
    clear h0
    go_wp2_with fail
    go_region
    go_wp2_with fail
    exact bodyPost_ret (v := .tuple #[.slice none 0 0, .agg #[.int .i64 (sizeC ws), .int .i64 (sizeA ws)]]) (by simp [results, Try.results63, go_sem, f1, f2, z3]) rfl ⟨_, by rw [E1.out, E2.out], by rw [E3.out]; exact Mine.nil _ _ _ _, by go_grown⟩
  have hq : (sizeC ws != 0) = false := by rw [h0]; rfl
  obtain ⟨s1, s2, s3, s4, s5, s6, s7, s8⟩ := size_zero h0
  clear s4 s5 s6 s7 s8
  have z0 : w.heap.size < w1.heap.size := by omega
  by_cases h2 : v.length = ws.length
  case neg =>
    obtain ⟨e1, e2, e3⟩ := writeC_many h0 h2
    have E1 := Lib.hid e1
    have E2 := Lib.hid e2
    have E3 := Lib.hid e3
    have hl : ((v.length : Int) != ws.length) = true := by rw [bne_iff_ne]; omega
    clear e1 e2 e3 s3 h0 h2
    go_wp2_with (go_at_call 90; refine (F_any _ _ _).mono ?_; rintro e w2 ⟨rfl, rfl⟩)
    exact bodyPost_ret (v := .tuple #[.slice none 0 0, .agg #[.int .i64 2, .int .i64 (-1)]]) (by simp [results, Try.results63, go_sem, f1, f2, z3, z0]) rfl ⟨_, by rw [E1.out, E2.out], by rw [E3.out]; exact Mine.nil _ _ _ _, by go_grown⟩
  have hl : ((v.length : Int) != ws.length) = false := by rw [h2]; simp
  have k2 := al hB1 (.cells #[.int .i64 (sizeC ws), .int .i64 (sizeA ws)] 65)
  have kk := al (rf w1) (.cells #[.int .i64 (sizeC ws), .int .i64 (sizeA ws)] 65)
  have hw2 := hw.below k2
  have hr2 := hr.below k2
  have H0 := Lib.hid h0
  have H2 := Lib.hid h2
  have S3 := Lib.hid s3
  clear h0 h2 s3
  go_wp2_with fail
  obtain ⟨w3, hW3⟩ : ∃ w3, w3 = w1.alloc (.cells #[.int .i64 (sizeC ws), .int .i64 (sizeA ws)] 65) := ⟨_, rfl⟩
  rw [← hW3] at kk k2 hw2 hr2 ⊢
  replace f0 := keep f0 kk
  replace f1 := keep f1 kk
  replace f2 := keep f2 kk
  replace z1 := keepF z1 z3 kk
  replace z2 := keepF z2 z3 kk
  replace z3 := Nat.lt_of_lt_of_le z3 kk.size
  replace z0 := Nat.lt_of_lt_of_le z0 kk.size
  clear kk hW3 hB1
  have hF0 : Below w3.heap.size w3 w3 := rf w3
  go_loopw [8] (fun i wr => ∃ k : Nat, k ≤ v.length ∧ (∀ j, j < k → vBad ws v j = false) ∧ i = .int .i64 k ∧ Below w3.heap.size w3 wr) (fun i _ => v.length - (intOf i).toNat)
  case atStart => exact ⟨0, Nat.zero_le _, fun j hj => absurd hj (Nat.not_lt_zero j), rfl, hF0⟩
  case round =>
    clear hF0
    obtain ⟨k, hk, hok, rfl, hbr⟩ := hrel
    have Hok := Lib.hid hok
    have hlt1 : w.heap.size + 1 < w3.heap.size := z3
    have Hlt := Lib.hid hlt1
    replace f0 := keep f0 hbr
    replace f1 := keep f1 hbr
    replace f2 := keep f2 hbr
    replace z1 := keepF z1 z3 hbr
    replace z2 := keepF z2 z3 hbr
    replace z3 := Nat.lt_of_lt_of_le z3 hbr.size
    replace z0 := Nat.lt_of_lt_of_le z0 hbr.size
    replace hw2 := hw2.below hbr
    replace hr2 := hr2.below hbr
    have k3 := ov k2 hbr
    clear hok hlt1
    by_cases hlt : k < v.length
    · obtain ⟨b, off, rfl, hc⟩ := hr2.here (by omega)
      have hck := hc k hlt
      obtain ⟨b', off', rfl, hc'⟩ := hw2.here (by omega)
      have hck' := hc' k (by have := H2.out; omega)
      have hks : k < ws.length := by have := H2.out; omega
      have hfw := Fits.of_i64 (hw2.fit.el_i64 k).1 (hw2.fit.el_i64 k).2
      clear hc hc'
      go_wp2_with fail
      go_quiet ((go_at_call 94; exact quietEq (Wide_any _ _ _ hfw)))
      by_cases hbad : vBad ws v k = true
      · obtain ⟨e1, e2, e3⟩ := writeC_bad H0.out H2.out Hok.out hbad hlt
        have E1 := Lib.hid e1
        have E2 := Lib.hid e2
        have E3 := Lib.hid e3
        clear e1 e2 e3
        unfold vBad at hbad
        simp only [decide_eq_true_eq] at hbad
        have kd := below_drewN (rf wr) nq
        replace f1 := keep f1 kd
        replace f2 := keep f2 kd
        replace z1 := keepF z1 z3 kd
        replace z2 := keepF z2 z3 kd
        replace z3 := Nat.lt_of_lt_of_le z3 kd.size
        replace z0 := Nat.lt_of_lt_of_le z0 kd.size
        replace k3 := ov k3 kd
        generalize wr.drewN nq = wd at kd f1 f2 z1 z2 z3 z0 k3 ⊢
        go_wp2_with (go_at_call 90; refine (F_any _ _ _).mono ?_; rintro e w2 ⟨rfl, rfl⟩)
        exact bodyPost_ret (v := .tuple #[.slice none 0 0, .agg #[.int .i64 6, .int .i64 k]]) (by simp [results, Try.results63, go_sem, f1, f2, z3]) rfl ⟨_, by rw [E1.out, E2.out], by rw [E3.out]; exact Mine.nil _ _ _ _, by go_grown⟩
      · have hgood : vBad ws v k = false := by simpa using hbad
        have hrel2 : Hid (∀ j, j < k + 1 → vBad ws v j = false) := fun j hj => by
          by_cases h : j = k
          · subst h; exact hgood
          · exact Hok.out j (by omega)
        unfold vBad at hgood
        simp only [decide_eq_false_iff_not] at hgood
        clear hbad
        go_wp2_with fail
        go_roundw
        case rel => exact ⟨k + 1, by omega, hrel2.out, by go_num, below_drewN hbr _⟩
        case measure => simp [intOf]; omega
    · obtain rfl : k = v.length := by omega
      obtain ⟨e1, e2, e3⟩ := writeC_ok H0.out H2.out Hok.out
      obtain ⟨p1, p2⟩ := joinC_zero H2.out S3.out
      have E1 := Lib.hid e1
      have E2 := Lib.hid e2
      have E3 := Lib.hid e3
      have h10 : v.length ≤ 10000 := by have := H2.out; omega
      have hlt2 : w.heap.size + 1 < wr.heap.size := z3
      have Hlt2 := Lib.hid hlt2
      clear e1 e2 e3 hlt2
      go_wp2_with fail
      refine (refJoin_any _ _ _ _ _ _ _ _ _ hr2 hw2 h10 (by omega)).mono ?_
      rintro e w4 ⟨r, rfl, hm, hb2⟩
      have hB2 := ov k3 hb2
      replace f1 := keep f1 hb2
      replace f2 := keep f2 hb2
      replace z1 := keepF z1 z3 hb2
      replace z2 := keepF z2 z3 hb2
      replace z3 := Nat.lt_of_lt_of_le z3 hb2.size
      replace z0 := Nat.lt_of_lt_of_le z0 hb2.size
      rw [← E3.out] at hm
      go_wp2_with fail
      exact bodyPost_ret (v := .tuple #[r, .agg #[.int .i64 0, .int .i64 0]]) (by simp [results, Try.results63, go_sem, f1, f2]) rfl ⟨_, by rw [E1.out, E2.out], (((hm.setLow Hlt2.out _).setLow Hlt2.out _)).base_le (Nat.le_of_lt (Nat.lt_of_succ_lt Hlt2.out)), by go_grown⟩
end Go.Proofs.Ytfakdapglbgokaa
