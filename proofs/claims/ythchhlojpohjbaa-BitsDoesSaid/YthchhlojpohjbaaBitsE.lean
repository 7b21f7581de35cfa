/-
  The law BitsDoes. No condition.
-/
import Derived.Test.YthchhlojpohjbaaBitsD
namespace Go.Proofs.Ythchhlojpohjbaa
open Go.RowKit

set_option maxHeartbeats 1000000 in
theorem BitsDoes_law (ao : Option Addr) (n cap : Nat) (b : List Int) (at_ w_ v : Int) (lo : Option Addr) (ln lc : Nat) (l : List Int) (wo : Option Addr) (wn wc : Nat) (ws : List Int) (w : World) (hr : Rd w .u8 ao n cap b) (ha : (Lit.int .i64 at_).wf = true) (hw : (Lit.int .i64 w_).wf = true) (hv : (Lit.int .u64 v).wf = true) (hl : Rd w .u64 lo ln lc l) (hs : Rd w .i64 wo wn wc ws) :
    Calls Try.prog 9 #[.slice ao n cap, .int .i64 at_, .int .i64 w_, .int .u64 v, .slice lo ln lc, .slice wo wn wc] w fun e w' => e = .returned (.bool true) ∧ Below w.heap.size w w' := by
  obtain rfl := hr.len
  obtain rfl := hl.len
  obtain rfl := hs.len
  by_cases h1 : 500 < (b.length : Int)
  · go_enter Try.func9, Try.ntmps9
    go_wp2_with (go_at_call 21; refine (begun_any _).mono ?_; rintro e w' ⟨rfl, hb⟩)
    go_ret
    exact ⟨rfl, by assumption⟩
  by_cases h2 : 100 < (l.length : Int)
  · go_enter Try.func9, Try.ntmps9
    go_wp2_with (go_at_call 21; refine (begun_any _).mono ?_; rintro e w' ⟨rfl, hb⟩)
    go_ret
    exact ⟨rfl, by assumption⟩
  by_cases h3 : 100 < (ws.length : Int)
  · go_enter Try.func9, Try.ntmps9
    go_wp2_with (go_at_call 21; refine (begun_any _).mono ?_; rintro e w' ⟨rfl, hb⟩)
    go_ret
    exact ⟨rfl, by assumption⟩
  go_enter Try.func9, Try.ntmps9
  go_wp2_with fail
  refine (begun_any _).mono ?_
  rintro e w1 ⟨rfl, hb1⟩
  have hr1 := hr.below hb1
  go_wp2_with (at_builtin; refine wpList_append_new rfl _ _ 25 rfl sty_bytes rfl rfl hr1 (by omega) (by omega) ?_; intro r2 w2 hm2 hb2)
  obtain ⟨a2, c2, rfl, hr2, _⟩ := hm2.rd
  have hB2 := ov hb1 hb2
  clear hm2 hb2 hr1 hb1
  refine (Get_any _ _ _ _ _ _ _ hr2 (by omega) ha hw).mono ?_
  rintro e w3 ⟨rfl, hb3⟩
  have hB3 := ov hB2 hb3
  have k3 := hb3
  replace hr2 := hr2.below k3
  clear hb3 k3 hB2
  go_wp2_with fail
  refine (refGet_any _ _ _ _ _ _ _ (hr.below (al hB3 _)) (by omega) ha hw).mono ?_
  rintro e w4 ⟨rfl, hb4⟩
  have hB4 := ov1 hB3 hb4
  have k4 := ov1 (rf w3) hb4
  replace hr2 := hr2.below k4
  obtain ⟨fa3, fb3, _, _, z3, _⟩ := two_facts hb4
  clear hb4 k4 hB3
  go_wp2_with fail
  refine (Put_any _ _ _ _ _ _ _ _ (hr2.below (al (rf w4) _)) (by omega) ha hw hv).mono ?_
  rintro e w5 ⟨r5, rfl, hm5, hb5⟩
  have hB5 := ov1 hB4 hb5
  have k5 := ov1 (rf w4) hb5
  replace hr2 := hr2.below k5
  replace fa3 := keep fa3 k5
  replace fb3 := keep fb3 k5
  replace z3 := Nat.lt_of_lt_of_le z3 k5.size
  obtain ⟨fa4, fb4, _, _, z4, _⟩ := two_facts hb5
  obtain ⟨a5, c5, rfl, hr5, _⟩ := hm5.rd
  clear hb5 hm5 k5 hB4
  go_wp2_with fail
  refine (refPut_any _ _ _ _ _ _ _ _ (hr.below (al hB5 _)) (by omega) ha hw hv).mono ?_
  rintro e w6 ⟨r6, rfl, hm6, hb6⟩
  have hB6 := ov1 hB5 hb6
  have k6 := ov1 (rf w5) hb6
  replace hr2 := hr2.below k6
  replace hr5 := hr5.below k6
  replace fa3 := keep fa3 k6
  replace fb3 := keep fb3 k6
  replace fa4 := keep fa4 k6
  replace fb4 := keep fb4 k6
  replace z3 := Nat.lt_of_lt_of_le z3 k6.size
  replace z4 := Nat.lt_of_lt_of_le z4 k6.size
  obtain ⟨fa5, fb5, _, _, z5, _⟩ := two_facts hb6
  obtain ⟨a6, c6, rfl, hr6, _⟩ := hm6.rd
  clear hb6 hm6 k6 hB5
  go_wp2_with fail
  refine (Join_any _ _ _ _ _ _ _ _ _ (hl.below (al hB6 _)) (hs.below (al hB6 _)) (by omega) (by omega)).mono ?_
  rintro e w7 ⟨r7, rfl, hm7, hb7⟩
  have hB7 := ov1 hB6 hb7
  have k7 := ov1 (rf w6) hb7
  replace hr2 := hr2.below k7
  replace hr5 := hr5.below k7
  replace hr6 := hr6.below k7
  replace fa3 := keep fa3 k7
  replace fb3 := keep fb3 k7
  replace fa4 := keep fa4 k7
  replace fb4 := keep fb4 k7
  replace fa5 := keep fa5 k7
  replace fb5 := keep fb5 k7
  replace z3 := Nat.lt_of_lt_of_le z3 k7.size
  replace z4 := Nat.lt_of_lt_of_le z4 k7.size
  replace z5 := Nat.lt_of_lt_of_le z5 k7.size
  obtain ⟨fa6, fb6, _, _, z6, _⟩ := two_facts hb7
  obtain ⟨a7, c7, rfl, hr7, _⟩ := hm7.rd
  clear hb7 hm7 k7 hB6
  go_wp2_with fail
  refine (refJoin_any _ _ _ _ _ _ _ _ _ (hl.below (al hB7 _)) (hs.below (al hB7 _)) (by omega) (by omega)).mono ?_
  rintro e w8 ⟨r8, rfl, hm8, hb8⟩
  have hB8 := ov1 hB7 hb8
  have k8 := ov1 (rf w7) hb8
  replace hr2 := hr2.below k8
  replace hr5 := hr5.below k8
  replace hr6 := hr6.below k8
  replace hr7 := hr7.below k8
  replace fa3 := keep fa3 k8
  replace fb3 := keep fb3 k8
  replace fa4 := keep fa4 k8
  replace fb4 := keep fb4 k8
  replace fa5 := keep fa5 k8
  replace fb5 := keep fb5 k8
  replace fa6 := keep fa6 k8
  replace fb6 := keep fb6 k8
  replace z3 := Nat.lt_of_lt_of_le z3 k8.size
  replace z4 := Nat.lt_of_lt_of_le z4 k8.size
  replace z5 := Nat.lt_of_lt_of_le z5 k8.size
  replace z6 := Nat.lt_of_lt_of_le z6 k8.size
  obtain ⟨fa7, fb7, _, _, z7, _⟩ := two_facts hb8
  obtain ⟨a8, c8, rfl, hr8, _⟩ := hm8.rd
  clear hb8 hm8 k8 hB7
  go_wp2_with fail
  refine (Part_any _ _ _ _ _ _ _ _ _ _ (hr2.below (al (rf w8) _)) (hs.below (al hB8 _)) (by omega) (by omega) ha).mono ?_
  rintro e w9 ⟨r9, rfl, hm9, hb9⟩
  have hB9 := ov1 hB8 hb9
  have k9 := ov1 (rf w8) hb9
  replace hr2 := hr2.below k9
  replace hr5 := hr5.below k9
  replace hr6 := hr6.below k9
  replace hr7 := hr7.below k9
  replace hr8 := hr8.below k9
  replace fa3 := keep fa3 k9
  replace fb3 := keep fb3 k9
  replace fa4 := keep fa4 k9
  replace fb4 := keep fb4 k9
  replace fa5 := keep fa5 k9
  replace fb5 := keep fb5 k9
  replace fa6 := keep fa6 k9
  replace fb6 := keep fb6 k9
  replace fa7 := keep fa7 k9
  replace fb7 := keep fb7 k9
  replace z3 := Nat.lt_of_lt_of_le z3 k9.size
  replace z4 := Nat.lt_of_lt_of_le z4 k9.size
  replace z5 := Nat.lt_of_lt_of_le z5 k9.size
  replace z6 := Nat.lt_of_lt_of_le z6 k9.size
  replace z7 := Nat.lt_of_lt_of_le z7 k9.size
  obtain ⟨fa8, fb8, _, _, z8, _⟩ := two_facts hb9
  obtain ⟨a9, c9, rfl, hr9, _⟩ := hm9.rd
  clear hb9 hm9 k9 hB8
  go_wp2_with fail
  refine (refPart_any _ _ _ _ _ _ _ _ _ _ (hr.below (al hB9 _)) (hs.below (al hB9 _)) (by omega) (by omega) ha).mono ?_
  rintro e w10 ⟨r10, rfl, hm10, hb10⟩
  have hB10 := ov1 hB9 hb10
  have k10 := ov1 (rf w9) hb10
  replace hr2 := hr2.below k10
  replace hr5 := hr5.below k10
  replace hr6 := hr6.below k10
  replace hr7 := hr7.below k10
  replace hr8 := hr8.below k10
  replace hr9 := hr9.below k10
  replace fa3 := keep fa3 k10
  replace fb3 := keep fb3 k10
  replace fa4 := keep fa4 k10
  replace fb4 := keep fb4 k10
  replace fa5 := keep fa5 k10
  replace fb5 := keep fb5 k10
  replace fa6 := keep fa6 k10
  replace fb6 := keep fb6 k10
  replace fa7 := keep fa7 k10
  replace fb7 := keep fb7 k10
  replace fa8 := keep fa8 k10
  replace fb8 := keep fb8 k10
  replace z3 := Nat.lt_of_lt_of_le z3 k10.size
  replace z4 := Nat.lt_of_lt_of_le z4 k10.size
  replace z5 := Nat.lt_of_lt_of_le z5 k10.size
  replace z6 := Nat.lt_of_lt_of_le z6 k10.size
  replace z7 := Nat.lt_of_lt_of_le z7 k10.size
  replace z8 := Nat.lt_of_lt_of_le z8 k10.size
  obtain ⟨fa9, fb9, _, _, z9, _⟩ := two_facts hb10
  obtain ⟨a10, c10, rfl, hr10, _⟩ := hm10.rd
  clear hb10 hm10 k10 hB9
  have hBz := al hB10 (.cells #[.int .i64 (partC b.length at_ ws), .int .i64 (partA b.length at_ ws)] 35)
  replace hr2 := hr2.below (al (rf w10) (.cells #[.int .i64 (partC b.length at_ ws), .int .i64 (partA b.length at_ ws)] 35))
  replace hr5 := hr5.below (al (rf w10) (.cells #[.int .i64 (partC b.length at_ ws), .int .i64 (partA b.length at_ ws)] 35))
  replace hr6 := hr6.below (al (rf w10) (.cells #[.int .i64 (partC b.length at_ ws), .int .i64 (partA b.length at_ ws)] 35))
  replace hr7 := hr7.below (al (rf w10) (.cells #[.int .i64 (partC b.length at_ ws), .int .i64 (partA b.length at_ ws)] 35))
  replace hr8 := hr8.below (al (rf w10) (.cells #[.int .i64 (partC b.length at_ ws), .int .i64 (partA b.length at_ ws)] 35))
  replace hr9 := hr9.below (al (rf w10) (.cells #[.int .i64 (partC b.length at_ ws), .int .i64 (partA b.length at_ ws)] 35))
  replace hr10 := hr10.below (al (rf w10) (.cells #[.int .i64 (partC b.length at_ ws), .int .i64 (partA b.length at_ ws)] 35))
  have q1 : ∀ x : Int, (x != x) = false := fun x => by simp
  have HQ := Lib.hid q1
  clear q1
  go_wp2_with fail
  refine (Mask_any _ _ (by assumption)).mono ?_
  rintro e w' ⟨rfl, rfl⟩
  go_wp2_with fail
  refine (Ones_any _ _ (by assumption)).mono ?_
  rintro e w' ⟨rfl, rfl⟩
  have Q2 := HQ (ones w_)
  go_wp2_with fail
  refine (SameBytes_any _ _ _ _ _ _ _ _ _ hr5 hr6).mono ?_
  rintro e w' ⟨he, rfl⟩
  rw [decide_eq_true rfl] at he
  subst he
  go_wp2_with fail
  refine (SameBytes_any _ _ _ _ _ _ _ _ _ hr7 hr8).mono ?_
  rintro e w' ⟨he, rfl⟩
  rw [decide_eq_true rfl] at he
  subst he
  go_wp2_with fail
  refine (SameNums_any _ _ _ _ _ _ _ _ _ hr9 hr10).mono ?_
  rintro e w' ⟨he, d, rfl⟩
  rw [decide_eq_true rfl] at he
  subst he
  have hBd : Below w.heap.size w ((w10.alloc (.cells #[.int .i64 (partC b.length at_ ws), .int .i64 (partA b.length at_ ws)] 35)).drewN d) := below_drewN hBz d
  go_wp2_with fail
  refine (SameBytes_any _ _ _ _ _ _ _ _ _ (hr2.below (below_drewN (rf _) d)) (hr.below hBd)).mono ?_
  rintro e w' ⟨he, rfl⟩
  rw [decide_eq_true rfl] at he
  subst he
  go_wp2_with fail

  go_ret
  exact ⟨rfl, hBd⟩

end Go.Proofs.Ythchhlojpohjbaa
