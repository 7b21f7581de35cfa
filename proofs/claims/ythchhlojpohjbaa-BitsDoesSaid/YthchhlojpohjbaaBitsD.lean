/-
  The laws of bits: BitsJoins, BitsBack, BitsApart, BitsDoes. No condition.
-/
import Derived.Test.YthchhlojpohjbaaBitsQ
namespace Go.Proofs.Ythchhlojpohjbaa
open Go.RowKit

theorem lit2_fit : AllFit .u8 [171, 205] := by intro x hx; simp at hx; rcases hx with rfl | rfl <;> rfl
theorem fits_lit {k : IntKind} {x : Int} (h : (Lit.int k x).wf = true) : Fits k x := h

theorem SameBytes_any (ao bo : Option Addr) (na ca nb cb : Nat) (xs ys : List Int) (w : World) (hx : Rd w .u8 ao na ca xs) (hy : Rd w .u8 bo nb cb ys) :
    Calls Try.prog 20 #[.slice ao na ca, .slice bo nb cb] w fun e w' => e = .returned (.bool (decide (xs = ys))) ∧ w = w' := by
  have h1 := hx.str (P := Try.prog) 25 9 5 Try.underlying25 Try.underlying5 Try.underlying9
  have h2 := hy.str (P := Try.prog) 25 9 5 Try.underlying25 Try.underlying5 Try.underlying9
  have h3 := Lib.hid (strOfNums_inj hx.fit hy.fit)
  go_enter Try.func20, Try.ntmps20
  go_wp2_with fail
  go_ret
  exact ⟨by rw [← h3.out]; rfl, rfl⟩

theorem begun_any (w : World) :
    Calls Try.prog 21 #[] w fun e w' => e = .returned (.bool true) ∧ Below w.heap.size w w' := by
  have hA : getV [171, 205] 4 8 = 188 := by decide
  have hB : bfc 2 4 8 = 0 := by decide
  have hC : ones 3 = 7 := by decide
  have hl := Rd.lit (w' := w.alloc (.cells #[.int .u8 171, .int .u8 205] 5)) .u8 [171, 205] 5 w.heap.size (heap_alloc_new w _) lit2_fit (by simp)
  go_enter Try.func21, Try.ntmps21
  go_wp2_with fail
  refine (Get_any _ _ _ _ 4 8 _ hl (by simp) (Fits.of_i64 (by omega) (by omega)) (Fits.of_i64 (by omega) (by omega))).mono ?_
  rintro e w1 ⟨rfl, hb⟩
  have hB1 : Below w.heap.size w w1 := ((Below.refl _ _).alloc (Nat.le_refl _) _).trans (hb.mono (by simp))
  have hf3 : Fits .i64 3 := Fits.of_i64 (by omega) (by omega)
  have hz := hB1.size
  clear hb hl
  go_wp2_with (go_at_call 24; refine (Mask_any _ _ hf3).mono ?_; rintro e w' ⟨rfl, rfl⟩)
  go_ret
  exact ⟨rfl, by go_grown⟩

theorem Calls.quiet_eq {P : Program} {f : FuncId} {args : Array Value} {w : World} {n : Nat} {v : Value}
    (h : Calls P f args (w.drewN n) fun e w' => e = .returned v ∧ w.drewN n = w') : Calls P f args (w.drewN n) fun e w'' => e = .returned v ∧ ∃ m, w'' = w.drewN m :=
  h.mono fun _ _ ⟨he, hm⟩ => ⟨he, n, hm.symm⟩

theorem BitsJoins_law (ao : Option Addr) (na ca : Nat) (v : List Int) (bo : Option Addr) (nb cb : Nat) (ws : List Int) (w : World) (hv : Rd w .u64 ao na ca v) (hw : Rd w .i64 bo nb cb ws) :
    Calls Try.prog 10 #[.slice ao na ca, .slice bo nb cb] w fun e w' => e = .returned (.bool true) ∧ Below w.heap.size w w' := by
  obtain rfl := hv.len
  obtain rfl := hw.len
  by_cases h1 : 100 < (v.length : Int)
  · go_enter Try.func10, Try.ntmps10
    go_wp2_with (go_at_call 21; refine (begun_any _).mono ?_; rintro e w' ⟨rfl, hb⟩)
    go_ret
    exact ⟨rfl, by assumption⟩
  by_cases h2 : 100 < (ws.length : Int)
  · go_enter Try.func10, Try.ntmps10
    go_wp2_with (go_at_call 21; refine (begun_any _).mono ?_; rintro e w' ⟨rfl, hb⟩)
    go_ret
    exact ⟨rfl, by assumption⟩
  go_enter Try.func10, Try.ntmps10
  go_wp2_with fail
  refine (begun_any _).mono ?_
  rintro e w1 ⟨rfl, hb1⟩
  go_wp2_with fail
  refine (Join_any _ _ _ _ _ _ _ _ _ (hv.below hb1) (hw.below hb1) (by omega) (by omega)).mono ?_
  rintro e w2 ⟨r, rfl, hm, hb2⟩
  have hB2 := hb1.trans (hb2.mono hb1.size)
  obtain ⟨a3, c3, rfl, hr3, _⟩ := hm.rd
  by_cases hc : joinC v.length ws = 0
  case neg =>
    have hq : (joinC v.length ws != 0) = true := by rw [bne_iff_ne]; exact hc
    have hz : ((joinV v ws).length : Int) = 0 := by unfold joinV; rw [if_neg hc]; rfl
    have hz' : (((joinV v ws).length : Int) == 0) = true := by rw [beq_iff_eq]; exact hz
    have hsz := hB2.size
    clear hc hz
    go_wp2_with fail
    go_ret
    exact ⟨rfl, by go_grown⟩
  have hq : (joinC v.length ws != 0) = false := by rw [hc]; rfl
  obtain ⟨hlen, hok⟩ := joinC_ok hc
  have hpart := join_parted v ws hc hv.fit
  have hPC : partC (joinV v ws).length 0 ws = 0 := by unfold partC; rw [firstN_none _ _ fun j hj => (hpart j hj).1, if_neg (by omega)]
  have hPA : partA (joinV v ws).length 0 ws = 0 := by unfold partA; rw [firstN_none _ _ fun j hj => (hpart j hj).1, if_neg (by omega)]
  have hPV : partV (joinV v ws) 0 ws = mk (partG (joinV v ws) 0 ws) ws.length := by unfold partV; rw [firstN_none _ _ fun j hj => (hpart j hj).1, if_neg (by omega)]
  have hJl : (joinV v ws).length ≤ 10000 := by
    unfold joinV; rw [if_pos hc, bytesF_length]
    have := catTo_length v ws ws.length hok
    have := sumTo_ok hok
    omega
  have HP := Lib.hid hpart
  have HV := Lib.hid hPV
  have HL := Lib.hid hlen
  clear hok hpart hPV hc hlen
  go_wp2_with fail
  have hb3 : Below w.heap.size w (w2.alloc (.cells #[.int .i64 (joinC v.length ws), .int .i64 (joinA v.length ws)] 35)) := hB2.alloc hB2.size _
  have hr3' := hr3.below ((Below.refl _ _).alloc (Nat.le_refl _) (.cells #[.int .i64 (joinC v.length ws), .int .i64 (joinA v.length ws)] 35))
  refine (Part_any _ _ _ _ _ _ _ _ 0 _ hr3' (hw.below hb3) (by omega) (by omega) (Fits.of_i64 (by omega) (by omega))).mono ?_
  rintro e w4 ⟨r4, rfl, hm4, hb4⟩
  rw [HV.out] at hm4
  have hB4 := hb3.trans (hb4.mono hb3.size)
  obtain ⟨a4, c4, rfl, hr4, _⟩ := hm4.rd
  rw [mk_length] at *
  have hqq : ((ws.length : Int) != v.length) = false := by rw [HL.out]; simp
  have hB5 : Below w.heap.size w (w4.alloc (.cells #[.int .i64 0, .int .i64 0] 35)) := hB4.alloc hB4.size _
  have hr5 := hr4.below ((Below.refl _ _).alloc (Nat.le_refl _) (.cells #[.int .i64 0, .int .i64 0] 35))
  clear hr3' hm4 hb4 hb3 hr3 hm hB2 hb2 hr4 hB4
  go_wp2_with fail
  generalize w4.alloc (.cells #[.int .i64 0, .int .i64 0] 35) = w5 at *
  go_loopw [9] (fun i wr => ∃ k : Nat, k ≤ v.length ∧ i = .int .i64 k ∧ ∃ q, wr = w5.drewN q) (fun i _ => v.length - (intOf i).toNat)
  case atStart => exact ⟨0, Nat.zero_le _, rfl, 0, rfl⟩
  case round =>
    obtain ⟨k, hk, rfl, hqe⟩ := hrel
    have hwb : Below w5.heap.size w5 wr := by obtain ⟨q, rfl⟩ := hqe; exact below_drewN (Below.refl _ _) q
    have HQ := Lib.hid hqe
    clear hqe
    by_cases hl : k < v.length
    · obtain ⟨b, off, rfl, hc1⟩ := ((hv.below hB5).below hwb).here (by omega)
      have hck1 := hc1 k hl
      obtain ⟨b2, off2, e2, hc2⟩ := ((hw.below hB5).below hwb).here (by have := HL.out; omega)
      have hck2 := hc2 k (by have := HL.out; omega)
      obtain ⟨b3, off3, e3, hc3⟩ := (hr5.below hwb).here (by rw [mk_length]; have := HL.out; omega)
      have hck3 := hc3 k (by rw [mk_length]; have := HL.out; omega)
      rw [el_mk _ _ _ (by have := HL.out; omega), (HP.out k (by have := HL.out; omega)).2] at hck3
      subst e2 e3
      have hk2 : (k : Int) < ws.length := by have := HL.out; omega
      have hfw : Fits .i64 (el ws k) := Fits.of_i64 (hw.fit.el_i64 k).1 (hw.fit.el_i64 k).2
      clear hc1 hc2 hc3
      go_wp2_with fail
      go_quiet ((go_at_call 24; exact Calls.quiet_eq (Mask_any _ _ hfw)))
      go_wp2_with fail
      go_roundw
      case rel => exact ⟨k + 1, by omega, by go_num, by obtain ⟨q, rfl⟩ := HQ.out; exact ⟨q + nq, by simp [World.drewN, Nat.add_assoc]⟩⟩
      case measure => simp [intOf]; omega
    · obtain rfl : k = v.length := by omega
      go_wp2_with fail
      go_ret
      exact ⟨rfl, by obtain ⟨q, rfl⟩ := HQ.out; exact below_drewN hB5 q⟩

theorem BitsBack_law (ao : Option Addr) (n cap : Nat) (b : List Int) (at_ w_ other v : Int) (w : World) (hr : Rd w .u8 ao n cap b) (ha : (Lit.int .i64 at_).wf = true) (hw : (Lit.int .i64 w_).wf = true) (_ : (Lit.int .i64 other).wf = true) (hv : (Lit.int .u64 v).wf = true) :
    Calls Try.prog 7 #[.slice ao n cap, .int .i64 at_, .int .i64 w_, .int .i64 other, .int .u64 v] w fun e w' => e = .returned (.bool true) ∧ Below w.heap.size w w' := by
  obtain rfl := hr.len
  by_cases h1 : 500 < (b.length : Int)
  · go_enter Try.func7, Try.ntmps7
    go_wp2_with (go_at_call 21; refine (begun_any _).mono ?_; rintro e w' ⟨rfl, hb⟩)
    go_ret
    exact ⟨rfl, by assumption⟩
  go_enter Try.func7, Try.ntmps7
  go_wp2_with fail
  refine (begun_any _).mono ?_
  rintro e w1 ⟨rfl, hb1⟩
  go_wp2_with fail
  have hr1 := hr.below hb1
  refine (Put_any _ _ _ _ _ _ _ _ hr1 (by omega) ha hw hv).mono ?_
  rintro e w2 ⟨r, rfl, hm, hb2⟩
  have hB2 := hb1.trans (hb2.mono hb1.size)
  have hsz := hB2.size
  by_cases hc : bfc b.length at_ w_ = 0
  case neg =>
    have hq : (bfc b.length at_ w_ != 0) = true := by rw [bne_iff_ne]; exact hc
    have hz : ((putV b at_ w_ v).length : Int) = 0 := by unfold putV; rw [if_neg hc]; rfl
    have hz' : (((putV b at_ w_ v).length : Int) == 0) = true := by rw [beq_iff_eq]; exact hz
    obtain ⟨a3, c3, rfl, hr3, _⟩ := hm.rd
    clear hc hz
    go_wp2_with fail
    go_ret
    exact ⟨rfl, by go_grown⟩
  obtain ⟨k1, k2, k3, k4, k5⟩ := bfc_zero hc
  have hP : putV b at_ w_ v = putN b at_.toNat w_.toNat v := by unfold putV; rw [if_pos hc]
  rw [hP] at hm
  obtain ⟨a3, c3, rfl, hr3, _⟩ := hm.rd
  rw [putN_length] at hr3
  rw [putN_length, hc, k5]
  have hG : getV (putN b at_.toNat w_.toNat v) at_ w_ = v % 2 ^ w_.toNat := by
    unfold getV; rw [putN_length, if_pos hc]; exact getN_putN _ _ _ _ (by omega)
  have hv' := Fits.u64 hv
  have hA : bits .and .u64 v (ones w_) = v % 2 ^ w_.toNat := and_ones v w_ hv'.1 hv'.2 k1 k2
  have hB3 : Below w.heap.size w (w2.alloc (.cells #[.int .i64 0, .int .i64 0] 35)) := hB2.alloc hB2.size _
  have hr4 := hr3.below ((Below.refl _ _).alloc (Nat.le_refl _) (.cells #[.int .i64 0, .int .i64 0] 35))
  obtain ⟨t, ht, hE⟩ : ∃ t : Nat, t < 8 * b.length ∧ (IntKind.u64.wrap other).tmod (8 * (b.length : Int)) = (t : Int) := by
    have h0 : 0 ≤ IntKind.u64.wrap other := by rw [IntKind.wrap_u64]; omega
    rw [Int.tmod_eq_emod_of_nonneg h0]
    have := Int.emod_lt_of_pos (IntKind.u64.wrap other) (show 0 < 8 * (b.length : Int) by omega)
    have := Int.emod_nonneg (IntKind.u64.wrap other) (show 8 * (b.length : Int) ≠ 0 by omega)
    exact ⟨(IntKind.u64.wrap other % (8 * (b.length : Int))).toNat, by omega, by omega⟩
  have hpe : bitAt (putN b at_.toNat w_.toNat v) t = putF b at_.toNat w_.toNat v t := bitAt_putN _ _ _ _ _ ht
  have hk1 : bfc b.length (t : Int) 1 = 0 := by unfold bfc; rw [if_neg (by omega), if_neg (by omega)]
  have hy : getV b (t : Int) 1 = bitAt b t := by unfold getV; rw [if_pos hk1]; exact getN_one b t
  have hz : getV (putN b at_.toNat w_.toNat v) (t : Int) 1 = putF b at_.toNat w_.toNat v t := by
    unfold getV; rw [putN_length, if_pos hk1]; exact (getN_one _ t).trans hpe
  have hbits : (decide (at_ ≤ (t : Int)) = true ∧ decide ((t : Int) - at_ < w_) = true) ∨ (getV b (t : Int) 1 == getV (putN b at_.toNat w_.toNat v) (t : Int) 1) = true := by
    by_cases h : at_ ≤ (t : Int) ∧ (t : Int) - at_ < w_
    · exact .inl ⟨by simpa using h.1, by simpa using h.2⟩
    · refine .inr ?_
      rw [hy, hz, beq_iff_eq]
      unfold putF
      rw [if_neg (by omega)]
  have Hbits := Lib.hid hbits
  have HA := Lib.hid hA
  have HG := Lib.hid hG
  have HLn : Hid ((putN b at_.toNat w_.toNat v).length = b.length) := putN_length _ _ _ _
  clear hbits hA hG hP hpe hk1 hy hz hm hr3
  go_wp2_with fail
  generalize w2.alloc (.cells #[.int .i64 0, .int .i64 0] 35) = w3 at *
  refine (Get_any _ _ _ _ _ _ _ hr4 (by omega) ha hw).mono ?_
  rintro e w4 ⟨rfl, hb4⟩
  rw [HG.out, hc, k5]
  have hB4 := hB3.trans (hb4.mono hB3.size)
  have hm1 : (v % 2 ^ w_.toNat != v % 2 ^ w_.toNat) = false := by simp
  have hA := HA.out
  have hB5 : Below w.heap.size w (w4.alloc (.cells #[.int .i64 0, .int .i64 0] 35)) := hB4.alloc hB4.size _
  have hb5 : Below w3.heap.size w3 (w4.alloc (.cells #[.int .i64 0, .int .i64 0] 35)) := hb4.alloc hb4.size _
  have hk1f : Fits .i64 1 := Fits.of_i64 (by omega) (by omega)
  have htf : Fits .i64 (t : Int) := Fits.of_i64 (by omega) (by omega)
  have HLb := HLn
  clear HA HG HLn
  generalize hM : v % 2 ^ w_.toNat = m at *
  clear hM
  go_wp2_with (go_at_call 24; refine (Mask_any _ _ hw).mono ?_; rintro e w' ⟨rfl, rfl⟩)
  generalize w4.alloc (.cells #[.int .i64 0, .int .i64 0] 35) = w5 at *
  refine (Get_any _ _ _ _ _ _ _ (hr.below hB5) (by omega) htf hk1f).mono ?_
  rintro e w6 ⟨rfl, hb6⟩
  have hB6 := hB5.trans (hb6.mono hB5.size)
  have hb6' := hb5.trans (hb6.mono hb5.size)
  go_wp2_with fail
  refine (Get_any _ _ _ _ _ _ _ (hr4.below (al hb6' _)) (by omega) htf hk1f).mono ?_
  rintro e w7 ⟨rfl, hb7⟩
  have hB7 := ov1 hB6 hb7
  have hsz7 := hB7.size
  rcases Hbits.out with ⟨q1, q2⟩ | q1
  · rw [decide_eq_true_eq] at q1 q2
    go_wp2_with fail
    go_ret
    exact ⟨rfl, by go_grown⟩
  · by_cases q2 : at_ ≤ (t : Int)
    · by_cases q3 : (t : Int) - at_ < w_
      all_goals
        go_wp2_with fail
        go_ret
        exact ⟨rfl, by go_grown⟩
    · go_wp2_with fail
      go_ret
      exact ⟨rfl, by go_grown⟩

set_option maxHeartbeats 600000 in
theorem BitsApart_law (ao : Option Addr) (n cap : Nat) (b : List Int) (at_ w_ to k u v : Int) (w : World) (hr : Rd w .u8 ao n cap b) (ha : (Lit.int .i64 at_).wf = true) (hw : (Lit.int .i64 w_).wf = true) (ht : (Lit.int .i64 to).wf = true) (hk : (Lit.int .i64 k).wf = true) (hu : (Lit.int .u64 u).wf = true) (hv : (Lit.int .u64 v).wf = true) :
    Calls Try.prog 8 #[.slice ao n cap, .int .i64 at_, .int .i64 w_, .int .i64 to, .int .i64 k, .int .u64 u, .int .u64 v] w fun e w' => e = .returned (.bool true) ∧ Below w.heap.size w w' := by
  obtain rfl := hr.len
  by_cases h1 : 500 < (b.length : Int)
  · go_enter Try.func8, Try.ntmps8
    go_wp2_with (go_at_call 21; refine (begun_any _).mono ?_; rintro e w' ⟨rfl, hb⟩)
    go_ret
    exact ⟨rfl, by assumption⟩
  have Q : ∀ x y : Int, (bfc b.length x y != 0) = true → (bfc b.length x y != 0) = true := fun _ _ h => h
  have H : Hid (bfc b.length at_ w_ ≠ 0 ∨ (bfc b.length at_ w_ = 0 ∧ bfc b.length to k ≠ 0) ∨ (bfc b.length at_ w_ = 0 ∧ bfc b.length to k = 0)) := by
    show _ ∨ _ ∨ _
    by_cases h1 : bfc b.length at_ w_ = 0 <;> by_cases h2 : bfc b.length to k = 0 <;> simp [h1, h2]
  clear Q
  go_enter Try.func8, Try.ntmps8
  go_wp2_with fail
  refine (begun_any _).mono ?_
  rintro e w1 ⟨rfl, hb1⟩
  go_wp2_with fail
  refine (Put_any _ _ _ _ _ _ _ _ (hr.below hb1) (by omega) ha hw hu).mono ?_
  rintro e w2 ⟨r2, rfl, hm2, hb2⟩
  have hB2 := ov hb1 hb2
  obtain ⟨a2, c2, rfl, hr2, _⟩ := hm2.rd
  go_wp2_with fail
  refine (Put_any _ _ _ _ _ _ _ _ (hr.below (al hB2 _)) (by omega) ht hk hv).mono ?_
  rintro e w3 ⟨r3, rfl, hm3, hb3⟩
  have hB3 := ov1 hB2 hb3
  obtain ⟨a3, c3, rfl, hr3, _⟩ := hm3.rd
  have hr2b := hr2.below (ov1 (rf w2) hb3)
  have hcf0 : w3.cell? ⟨w2.heap.size, 0, none⟩ = some (.int .i64 (bfc b.length at_ w_)) := (two_facts hb3).1
  have hz3 : w2.heap.size < w3.heap.size := (two_facts hb3).2.2.2.2.1
  clear hm2 hb2 hr2 hb1 hm3 hb3
  rcases H.out with hc | ⟨hc, hd⟩ | ⟨hc, hd⟩
  · have hq : (bfc b.length at_ w_ != 0) = true := by rw [bne_iff_ne]; exact hc
    clear hc H
    go_wp2_with fail
    go_ret
    exact ⟨rfl, al hB3 _⟩
  · have hq : (bfc b.length to k != 0) = true := by rw [bne_iff_ne]; exact hd
    clear hd H
    go_wp2_with fail
    go_ret
    exact ⟨rfl, al hB3 _⟩
  obtain ⟨k1, k2, k3, k4, k5⟩ := bfc_zero hc
  obtain ⟨l1, l2, l3, l4, l5⟩ := bfc_zero hd
  have hP : putV b at_ w_ u = putN b at_.toNat w_.toNat u := by unfold putV; rw [if_pos hc]
  have hP2 : putV b to k v = putN b to.toNat k.toNat v := by unfold putV; rw [if_pos hd]
  rw [hP] at hr2b
  rw [hP2] at hr3
  have hx : putV (putN b at_.toNat w_.toNat u) to k v = putN (putN b at_.toNat w_.toNat u) to.toNat k.toNat v := by unfold putV; rw [putN_length, if_pos hd]
  have hy : putV (putN b to.toNat k.toNat v) at_ w_ u = putN (putN b to.toNat k.toNat v) at_.toNat w_.toNat u := by unfold putV; rw [putN_length, if_pos hc]
  have hz : putV (putN b at_.toNat w_.toNat u) at_ w_ v = putV b at_ w_ v := by
    unfold putV; rw [putN_length, if_pos hc, if_pos hc]; exact putN_same _ _ _ _ _
  have hap : (at_ < to + k ∧ to < at_ + w_) ∨ putV (putN b at_.toNat w_.toNat u) to k v = putV (putN b to.toNat k.toNat v) at_ w_ u := by
    by_cases h : at_ < to + k ∧ to < at_ + w_
    · exact .inl h
    · exact .inr (by rw [hx, hy]; exact putN_apart _ _ _ _ _ _ _ (by omega))
  have e1 : (putV b at_ w_ u).length = b.length := by rw [hP, putN_length]
  have e2 : (putV b to k v).length = b.length := by rw [hP2, putN_length]
  have HZ := Lib.hid hz
  have HA := Lib.hid hap
  rw [putN_length] at hr2b hr3
  rw [e1, e2]
  have p1 := hr2b.len
  have p2 := hr3.len
  clear hx hy hz hap hP hP2 H e1 e2
  generalize putN b at_.toNat w_.toNat u = P at *
  generalize putN b to.toNat k.toNat v = Q at *
  have hcP : bfc P.length at_ w_ = 0 := by rw [p1]; exact hc
  have hcQ : bfc Q.length at_ w_ = 0 := by rw [p2]; exact hc
  have hdP : bfc P.length to k = 0 := by rw [p1]; exact hd
  have P1 := Lib.hid p1
  have P2 := Lib.hid p2
  clear p1 p2 hcP hcQ hdP
  rw [hd, l5]
  go_wp2_with fail
  have hB3' := al hB3 (.cells #[.int .i64 0, .int .i64 0] 35)
  have hr2c := hr2b.below (al (rf w3) (.cells #[.int .i64 0, .int .i64 0] 35))
  have hr3c := hr3.below (al (rf w3) (.cells #[.int .i64 0, .int .i64 0] 35))
  clear hr2b hr3 hcf0 hz3
  refine (Put_any _ _ _ _ _ _ _ _ hr2c (by omega) ht hk hv).mono ?_
  rintro e w4 ⟨r4, rfl, hm4, hb4⟩
  rw [hd, l5]
  have hB4 := ov hB3' hb4
  obtain ⟨a4, c4, rfl, hr4, _⟩ := hm4.rd
  go_wp2_with fail
  refine (Put_any _ _ _ _ _ _ _ _ ((hr3c.below hb4).below (al (rf w4) _)) (by omega) ha hw hu).mono ?_
  rintro e w5 ⟨r5, rfl, hm5, hb5⟩
  rw [hc, k5]
  have hB5 := ov1 hB4 hb5
  obtain ⟨a5, c5, rfl, hr5, _⟩ := hm5.rd
  have hr4b := hr4.below (ov1 (rf w4) hb5)
  have hr2d := (hr2c.below hb4).below (ov1 (rf w4) hb5)
  go_wp2_with fail
  refine (Put_any _ _ _ _ _ _ _ _ (hr2d.below (al (rf w5) _)) (by omega) ha hw hv).mono ?_
  rintro e w6 ⟨r6, rfl, hm6, hb6⟩
  rw [hc, k5]
  rw [HZ.out] at hm6
  have hB6 := ov1 hB5 hb6
  obtain ⟨a6, c6, rfl, hr6, _⟩ := hm6.rd
  have hr4c := hr4b.below (ov1 (rf w5) hb6)
  have hr5b := hr5.below (ov1 (rf w5) hb6)
  clear hr2c hr3c hr2d hm4 hm5 hm6 hr4 hr4b hr5
  go_wp2_with fail
  refine (Put_any _ _ _ _ _ _ _ _ (hr.below (al hB6 _)) (by omega) ha hw hv).mono ?_
  rintro e w7 ⟨r7, rfl, hm7, hb7⟩
  rw [hc, k5]
  have hB7 := ov1 hB6 hb7
  obtain ⟨a7, c7, rfl, hr7, _⟩ := hm7.rd
  have hr6b := hr6.below (ov1 (rf w6) hb7)
  have hr4d := hr4c.below (ov1 (rf w6) hb7)
  have hr5c := hr5b.below (ov1 (rf w6) hb7)
  clear hm7 hr6 hr4c hr5b
  have f4 := keep (two_facts hb5).1 (ov1 (ov1 (rf w5) hb6) hb7)
  have f5 := keep (two_facts hb6).1 (ov1 (rf w6) hb7)
  have f6 := (two_facts hb7).1
  have z6 : w6.heap.size < w7.heap.size := (two_facts hb7).2.2.2.2.1
  have z5 : w5.heap.size < w7.heap.size := Nat.lt_trans (two_facts hb6).2.2.2.2.1 z6
  have z4 : w4.heap.size < w7.heap.size := Nat.lt_trans (two_facts hb5).2.2.2.2.1 z5
  clear hb4 hb5 hb6 hb7 hB4 hB5 hB6 hB3' hB3 hB2
  have hr6c := hr6b.below (al (rf w7) (.cells #[.int .i64 0, .int .i64 0] 35))
  have hr7c := hr7.below (al (rf w7) (.cells #[.int .i64 0, .int .i64 0] 35))
  have hr4e := hr4d.below (al (rf w7) (.cells #[.int .i64 0, .int .i64 0] 35))
  have hr5d := hr5c.below (al (rf w7) (.cells #[.int .i64 0, .int .i64 0] 35))
  go_wp2_with fail
  refine (SameBytes_any _ _ _ _ _ _ _ _ _ hr6c hr7c).mono ?_
  rintro e w8 ⟨rfl, rfl⟩
  have hdec : decide (putV b at_ w_ v = putV b at_ w_ v) = true := by simp
  rw [hdec]
  have hBz := al hB7 (.cells #[.int .i64 0, .int .i64 0] 35)
  clear hdec hr6c hr7c hr6b hr7 hr4d hr5c
  have b1 : -9223372036854775808 ≤ to + k ∧ to + k ≤ 9223372036854775807 := by omega
  have b2 : -9223372036854775808 ≤ at_ + w_ ∧ at_ + w_ ≤ 9223372036854775807 := by omega
  by_cases q1 : at_ < to + k
  · by_cases q2 : to < at_ + w_
    · go_wp2_with fail
      go_ret
      exact ⟨rfl, hBz⟩
    · have hxy : putV P to k v = putV Q at_ w_ u := by rcases HA.out with h | h; exact absurd h.2 q2; exact h
      have Hxy : Hid (decide (putV P to k v = putV Q at_ w_ u) = true) := by show decide _ = true; simp [hxy]
      clear hxy HA
      go_wp2_with fail
      refine (SameBytes_any _ _ _ _ _ _ _ _ _ hr4e hr5d).mono ?_
      rintro e w8 ⟨rfl, rfl⟩
      rw [Hxy.out]
      go_wp2_with fail
      go_ret
      exact ⟨rfl, hBz⟩
  · have hxy : putV P to k v = putV Q at_ w_ u := by rcases HA.out with h | h; exact absurd h.1 q1; exact h
    have Hxy : Hid (decide (putV P to k v = putV Q at_ w_ u) = true) := by show decide _ = true; simp [hxy]
    clear hxy HA
    go_wp2_with fail
    refine (SameBytes_any _ _ _ _ _ _ _ _ _ hr4e hr5d).mono ?_
    rintro e w8 ⟨rfl, rfl⟩
    rw [Hxy.out]
    go_wp2_with fail
    go_ret
    exact ⟨rfl, hBz⟩

end Go.Proofs.Ythchhlojpohjbaa
