/-
  The references' SameProgram. No condition.
-/
import Derived.Test.YtfakdapglbgokaaWordH
import Derived.Test.YtfakdapglbgokaaWordW
import Derived.Test.YtfakdapglbgokaaBitsV
import Derived.BigQuiet
import Derived.Deep.QuietTactic
import Derived.Outline
import Derived.Test.YtfakdapglbgokaaEqS
namespace Go.Proofs.Ytfakdapglbgokaa
set_option linter.all false
open Go.RowKit

set_option maxRecDepth 100000 in
set_option maxHeartbeats 4000000 in
theorem SameProgram_any (s1 s2 : Int) (to1 co1 to2 co2 : Option Addr) (tc1 cc1 tc2 cc2 : Nat) (t1 t2 : List Shape) (c1 c2 : List Ins) (A1 A2 : Nat → Prop) (w : World)
    (ht1 : RdL shapeLay A1 w to1 t1.length tc1 t1) (hc1 : RdL insLay A1 w co1 c1.length cc1 c1) (ht2 : RdL shapeLay A2 w to2 t2.length tc2 t2) (hc2 : RdL insLay A2 w co2 c2.length cc2 c2) :
    Calls Try.prog 35 #[.agg #[.int .i64 s1, .slice to1 t1.length tc1, .slice co1 c1.length cc1], .agg #[.int .i64 s2, .slice to2 t2.length tc2, .slice co2 c2.length cc2]] w fun e w' => e = .returned (.bool (decide ((⟨s1, t1, c1⟩ : Prog) = ⟨s2, t2, c2⟩))) ∧ Below w.heap.size w w' := by
  have l1 := ht1.lt
  have l2 := hc1.lt
  have l3 := ht2.lt
  have l4 := hc2.lt
  obtain ⟨E, hE⟩ : ∃ E, decide ((⟨s1, t1, c1⟩ : Prog) = ⟨s2, t2, c2⟩) = E := ⟨_, rfl⟩
  rw [hE]
  have HE := Lib.hid hE
  clear hE
  by_cases h1 : s1 = s2
  case neg =>
    have e1 : Hid (E = false) := by show _ = _; rw [← HE.out]; simp [h1]
    have q : (s1 != s2) = true := by rw [bne_iff_ne]; exact h1
    clear h1
    go_enter Try.func35, Try.ntmps35
    go_wp2_with fail
    go_ret
    exact ⟨by rw [e1.out]; rfl, by go_grown⟩
  subst h1
  by_cases h2 : t1.length = t2.length
  case neg =>
    have e1 : Hid (E = false) := by show _ = _; rw [← HE.out]; simp; intro h; subst h; exact absurd rfl h2
    have q : ((t1.length : Int) != (t2.length : Int)) = true := by rw [bne_iff_ne]; omega
    clear h2
    go_enter Try.func35, Try.ntmps35
    go_wp2_with fail
    go_ret
    exact ⟨by rw [e1.out]; rfl, by go_grown⟩
  by_cases h3 : c1.length = c2.length
  case neg =>
    have e1 : Hid (E = false) := by show _ = _; rw [← HE.out]; simp; intro _ h; subst h; exact absurd rfl h3
    have q : ((t1.length : Int) != (t2.length : Int)) = false := by rw [bne_eq_false_iff_eq]; omega
    have q2 : ((c1.length : Int) != (c2.length : Int)) = true := by rw [bne_iff_ne]; omega
    clear h2 h3
    go_enter Try.func35, Try.ntmps35
    go_wp2_with fail
    go_ret
    exact ⟨by rw [e1.out]; rfl, by go_grown⟩
  have q : ((t1.length : Int) != (t2.length : Int)) = false := by rw [bne_eq_false_iff_eq]; omega
  have q2 : ((c1.length : Int) != (c2.length : Int)) = false := by rw [bne_eq_false_iff_eq]; omega
  have H2 := Lib.hid h2
  have H3 := Lib.hid h3
  clear h2 h3
  have hk := blk2 (rf ((w.alloc (.cells #[.int .i64 s1, .slice to1 t1.length tc1, .slice co1 c1.length cc1] 63)).alloc (.cells #[.int .i64 s1, .slice to2 t2.length tc2, .slice co2 c2.length cc2] 63)))
  have HK : Kept (fun w' => (Below w.heap.size w w' ∧ Blk w' w.heap.size 63 #[.int .i64 s1, .slice to1 t1.length tc1, .slice co1 c1.length cc1]) ∧ Blk w' (w.heap.size + 1) 63 #[.int .i64 s1, .slice to2 t2.length tc2, .slice co2 c2.length cc2]) _ := ⟨⟨hk.1, hk.2.1⟩, hk.2.2⟩
  clear hk
  go_enter Try.func35, Try.ntmps35
  go_wp2_with fail
  generalize ((w.alloc (.cells #[.int .i64 s1, .slice to1 t1.length tc1, .slice co1 c1.length cc1] 63)).alloc (.cells #[.int .i64 s1, .slice to2 t2.length tc2, .slice co2 c2.length cc2] 63)) = w1 at *
  clear q q2
  go_loopw [5] (fun i wr => ∃ k : Nat, k ≤ t1.length ∧ (∀ j, j < k → nth t1 j = nth t2 j) ∧ i = .int .i64 k ∧ Below w1.heap.size w1 wr) (fun i _ => t1.length - (intOf i).toNat)
  case atStart => exact ⟨0, Nat.zero_le _, fun j hj => absurd hj (Nat.not_lt_zero j), rfl, rf _⟩
  case round =>
    obtain ⟨k, hk, hno, rfl, hbr⟩ := hrel
    have HN := Lib.hid hno
    clear hno
    replace HK := HK.to hbr
    have hd1 := HK.out.1.2.cell 1
    have he1 := HK.out.2.cell 1
    simp at hd1 he1
    have hz := HK.out.2.lt
    by_cases hlt : k < t1.length
    · obtain ⟨b, off, rfl, _, hb, hwf, hp0, hp1, hp2⟩ := (ht1.below HK.out.1.1).shape_at hlt
      obtain ⟨b', off', rfl, _, hb', hwf', hq0, hq1, hq2⟩ := (ht2.below HK.out.1.1).shape_at (i := k) (by have := H2.out; omega)
      have hi0 : (0 : Int) ≤ (k : Int) := by omega
      have hi1 : (k : Int) < (t1.length : Int) := by omega
      have hi2 : (k : Int) < (t2.length : Int) := by have := H2.out; omega
      clear hwf hwf' hb hb'
      have hg := guard_shape
      by_cases hx : nth t1 k = nth t2 k
      case neg =>
        have e1 : Hid (E = false) := by show _ = _; rw [← HE.out]; simp; intro h; subst h; exact absurd rfl hx
        have hq := fun w => eq_shape (nth t1 k) (nth t2 k) w
        rw [decide_eq_false hx] at hq
        have hBr := HK.out.1.1
        clear hx
        go_wp2_with fail
        go_quiet (fail)
        go_wp2_with fail
        go_ret
        exact ⟨by rw [e1.out]; rfl, below_drewN_ hBr _⟩
      have hq := fun w => eq_shape (nth t1 k) (nth t2 k) w
      rw [decide_eq_true hx] at hq
      have HN2 : Hid (∀ j, j < k + 1 → nth t1 j = nth t2 j) := fun j hj => by
        by_cases e : j = k
        · subst e; exact hx
        · exact HN.out j (by omega)
      clear hx
      go_wp2_with fail
      go_quiet (fail)
      go_wp2_with fail
      go_roundw
      case rel => exact ⟨k + 1, by omega, HN2.out, by go_num, below_drewN_ hbr _⟩
      case measure => simp [intOf]; omega
    · obtain rfl : k = t1.length := by omega
      have HT : Hid (t1 = t2) := ext_nth H2.out HN.out
      clear hlt hbr
      go_wp2_with fail
      obtain ⟨w2, hw2⟩ : ∃ w2, w2 = wr := ⟨_, rfl⟩
      rw [← hw2] at HK hz ⊢
      clear hw2 hd1 he1 hz
      go_loopw [6] (fun i wr => ∃ k : Nat, k ≤ c1.length ∧ (∀ j, j < k → nth c1 j = nth c2 j) ∧ i = .int .i64 k ∧ Below w2.heap.size w2 wr) (fun i _ => c1.length - (intOf i).toNat)
      case atStart => exact ⟨0, Nat.zero_le _, fun j hj => absurd hj (Nat.not_lt_zero j), rfl, rf _⟩
      case round =>
        obtain ⟨k, hk, hno, rfl, hbr⟩ := hrel
        have HN := Lib.hid hno
        clear hno
        replace HK := HK.to hbr
        have hd1 := HK.out.1.2.cell 2
        have he1 := HK.out.2.cell 2
        simp at hd1 he1
        have hz := HK.out.2.lt
        by_cases hlt : k < c1.length
        · obtain ⟨b, off, rfl, _, hb, hwf, hp0, hp1, hp2, hp3, hp4, hp5⟩ := (hc1.below HK.out.1.1).ins_at hlt
          obtain ⟨b', off', rfl, _, hb', hwf', hq0, hq1, hq2, hq3, hq4, hq5⟩ := (hc2.below HK.out.1.1).ins_at (i := k) (by have := H3.out; omega)
          have hi0 : (0 : Int) ≤ (k : Int) := by omega
          have hi1 : (k : Int) < (c1.length : Int) := by omega
          have hi2 : (k : Int) < (c2.length : Int) := by have := H3.out; omega
          clear hwf hwf' hb hb'
          have hg := guard_ins
          by_cases hx : nth c1 k = nth c2 k
          case neg =>
            have e1 : Hid (E = false) := by show _ = _; rw [← HE.out]; simp; intro _ h; subst h; exact absurd rfl hx
            have hq := fun w => eq_ins (nth c1 k) (nth c2 k) w
            rw [decide_eq_false hx] at hq
            have hBr := HK.out.1.1
            clear hx
            go_wp2_with fail
            go_quiet (fail)
            go_wp2_with fail
            go_ret
            exact ⟨by rw [e1.out]; rfl, below_drewN_ hBr _⟩
          have hq := fun w => eq_ins (nth c1 k) (nth c2 k) w
          rw [decide_eq_true hx] at hq
          have HN2 : Hid (∀ j, j < k + 1 → nth c1 j = nth c2 j) := fun j hj => by
            by_cases e : j = k
            · subst e; exact hx
            · exact HN.out j (by omega)
          clear hx
          go_wp2_with fail
          go_quiet (fail)
          go_wp2_with fail
          go_roundw
          case rel => exact ⟨k + 1, by omega, HN2.out, by go_num, below_drewN_ hbr _⟩
          case measure => simp [intOf]; omega
        · obtain rfl : k = c1.length := by omega
          have HC : c1 = c2 := ext_nth H3.out HN.out
          have e1 : Hid (E = true) := by show _ = _; rw [← HE.out, ← HC, ← HT.out]; simp
          have hBr := HK.out.1.1
          clear HC hlt hbr
          go_wp2_with fail
          go_ret
          exact ⟨by rw [e1.out]; rfl, hBr⟩
end Go.Proofs.Ytfakdapglbgokaa
