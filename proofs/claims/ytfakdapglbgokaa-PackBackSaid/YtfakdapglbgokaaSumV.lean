/-
  Package sum and its references: what each function computes (the part that other seats use). No condition.
-/
import Derived.Test.YtfakdapglbgokaaRows
import Derived.Test.YtfakdapglbgokaaRd
import Derived.Test.YtfakdapglbgokaaSumP
namespace Go.Proofs.Ytfakdapglbgokaa
open Go.RowKit

theorem ret_int {k : IntKind} {a b : Int} (h : a = b) : Ending.returned (.int k a) = .returned (.int k b) := by rw [h]
theorem ret_bool {a b : Bool} (h : a = b) : Ending.returned (.bool a) = .returned (.bool b) := by rw [h]

theorem Add_any (a b : Int) (w : World) :
    Calls Try.prog 157 #[.int .i64 a, .int .i64 b] w fun e w' => e = .returned (.int .i64 (addW a b)) ∧ w = w' := by
  go_enter Try.func157, Try.ntmps157
  go_wp2
  go_ret
  exact ⟨ret_int (add_code a b), rfl⟩

theorem refAdd_code (a b : Int) : wrap64 (wrap64 ((IntKind.u64.wrap a).tmod 65536) + wrap64 ((IntKind.u64.wrap b).tmod 65536)) = a % 65536 + b % 65536 := by
  rw [IntKind.wrap_u64, IntKind.wrap_u64, tmod_of_emod, tmod_of_emod]
  unfold wrap64
  omega

theorem AddWords_any (a b : Int) (w : World) :
    Calls Try.prog 140 #[.int .i64 a, .int .i64 b] w fun e w' => e = .returned (.int .i64 (addW a b)) ∧ w = w' := by
  have hc := refAdd_code a b
  go_enter Try.func140, Try.ntmps140
  go_wp2
  · go_ret
    have h : 65535 < a % 65536 + b % 65536 := by assumption
    exact ⟨ret_int (by rw [addW, if_pos h]), rfl⟩
  · go_ret
    have h : a % 65536 + b % 65536 ≤ 65535 := by assumption
    exact ⟨ret_int (by rw [hc, addW, if_neg (by omega)]), rfl⟩

theorem Whole_any (ao : Option Addr) (n cap : Nat) (xs : List Int) (w : World) (hr : Rd w .u8 ao n cap xs) :
    Calls Try.prog 139 #[.slice ao n cap] w fun e w' => e = .returned (.int .i64 (whole xs)) ∧ w = w' := by
  obtain rfl := hr.len
  have hlt := hr.lt
  go_enter Try.func139, Try.ntmps139
  go_wp2_with fail
  go_loop [3, 9] (fun n i => ∃ k : Nat, k ≤ xs.length ∧ i = .int .i64 k ∧ n = .int .i64 (wholeTo xs k)) (fun _ i => xs.length - (intOf i).toNat)
  case atStart => exact ⟨0, Nat.zero_le _, rfl, rfl⟩
  case round =>
    obtain ⟨k, hk, rfl, rfl⟩ := hrel
    by_cases hl : k < xs.length
    · obtain ⟨b, off, rfl, hc⟩ := hr.here (by omega)
      have hck := hc k hl
      have hb := hr.fit.el_u8 k
      clear hc
      rcases Nat.mod_two_eq_zero_or_one k with h2 | h2
      · have H := Lib.hid (wholeTo_even xs k h2)
        have hd : ((k : Int) % 2 == 0) = true := by rw [beq_iff_eq]; omega
        clear h2
        go_wp2_with (go_at_call 157; refine (Add_any _ _ _).mono ?_; rintro e w' ⟨rfl, rfl⟩)
        go_round
        case rel => exact ⟨k + 1, by omega, by go_num, by rw [H.out]⟩
        case measure => simp [intOf]; omega
      · have H := Lib.hid (wholeTo_odd xs k h2)
        have hd : ((k : Int) % 2 == 0) = false := by rw [beq_eq_false_iff_ne]; omega
        clear h2
        go_wp2_with (go_at_call 157; refine (Add_any _ _ _).mono ?_; rintro e w' ⟨rfl, rfl⟩)
        go_round
        case rel => exact ⟨k + 1, by omega, by go_num, by rw [H.out]⟩
        case measure => simp [intOf]; omega
    · obtain rfl : k = xs.length := by omega
      go_wp2_with fail
      go_ret
      exact ⟨rfl, rfl⟩

theorem refWhole_any (ao : Option Addr) (n cap : Nat) (xs : List Int) (w : World) (hr : Rd w .u8 ao n cap xs) (hlt : n ≤ 1000000) :
    Calls Try.prog 115 #[.slice ao n cap] w fun e w' => e = .returned (.int .i64 (whole xs)) ∧ w = w' := by
  obtain rfl := hr.len
  go_enter Try.func115, Try.ntmps115
  go_wp2_with fail
  go_loop [3, 4] (fun n i => ∃ k : Nat, k % 2 = 0 ∧ k ≤ xs.length + 1 ∧ i = .int .i64 k ∧ n = .int .i64 (wholeTo xs (min k xs.length))) (fun _ i => xs.length + 1 - (intOf i).toNat)
  case atStart => exact ⟨0, rfl, Nat.zero_le _, rfl, by rw [Nat.zero_min]; rfl⟩
  case round =>
    obtain ⟨k, h2, hk, rfl, rfl⟩ := hrel
    by_cases hl : k < xs.length
    · obtain ⟨b, off, rfl, hc⟩ := hr.here (by omega)
      have hck := hc k hl
      have hb := hr.fit.el_u8 k
      have hb1 := hr.fit.el_u8 (k + 1)
      have hm : min k xs.length = k := by omega
      rw [hm]
      clear hm
      by_cases hl1 : k + 1 < xs.length
      · have hck1 := hc (k + 1) hl1
        clear hc
        have H := Lib.hid (wholeTo_two xs k h2 hb hb1)
        have H2 := Lib.hid h2
        clear h2
        go_wp2_with (go_at_call 140; refine (AddWords_any _ _ _).mono ?_; rintro e w' ⟨rfl, rfl⟩)
        go_round
        case rel => exact ⟨k + 2, by have := H2.out; omega, by omega, by go_num, by rw [show min (k + 2) xs.length = k + 2 from by omega, H.out]⟩
        case measure => simp [intOf]; omega
      · clear hc
        have H := Lib.hid (wholeTo_even xs k h2)
        have H2 := Lib.hid h2
        clear h2
        go_wp2_with (go_at_call 140; refine (AddWords_any _ _ _).mono ?_; rintro e w' ⟨rfl, rfl⟩)
        go_round
        case rel => exact ⟨k + 2, by have := H2.out; omega, by omega, by go_num, by rw [show min (k + 2) xs.length = k + 1 from by omega, H.out]⟩
        case measure => simp [intOf]; omega
    · have hm : min k xs.length = xs.length := by omega
      rw [hm]
      have H2 := Lib.hid h2
      clear h2 hm
      go_wp2_with fail
      go_ret
      exact ⟨rfl, rfl⟩

theorem Of_any (ao : Option Addr) (n cap : Nat) (xs : List Int) (w : World) (hr : Rd w .u8 ao n cap xs) :
    Calls Try.prog 114 #[.slice ao n cap] w fun e w' => e = .returned (.int .i64 (65535 - whole xs)) ∧ w = w' := by
  go_enter Try.func114, Try.ntmps114
  go_wp2_with (go_at_call 139; refine (Whole_any _ _ _ _ _ hr).mono ?_; rintro e w' ⟨rfl, rfl⟩)
  go_ret
  exact ⟨ret_int (xor_word _ (whole_range xs).1 (whole_range xs).2), rfl⟩

theorem refTurn_code (s : Int) : wrap64 (65535 - wrap64 ((IntKind.u64.wrap s).tmod 65536)) = 65535 - s % 65536 := by
  rw [IntKind.wrap_u64, tmod_of_emod]
  unfold wrap64
  omega

end Go.Proofs.Ytfakdapglbgokaa
