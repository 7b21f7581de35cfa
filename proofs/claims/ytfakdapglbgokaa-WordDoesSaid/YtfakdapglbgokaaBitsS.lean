/-
  Package bits and its references, fifth part: Put of the references, Put whole. No condition.
-/
import Derived.Test.YtfakdapglbgokaaBitsT
import Derived.Deep.RegionLaw
namespace Go.Proofs.Ytfakdapglbgokaa
set_option linter.all false
open Go.RowKit

/-- Bytes with a number put in, if its bits are there. -/
def putV (xs : List Int) (at_ w v : Int) : List Int := if bfc xs.length at_ w = 0 then putN xs at_.toNat w.toNat v else []

theorem Put_bad (ao : Option Addr) (n cap : Nat) (at_ w_ v : Int) (w : World) (hn : n ≤ 1000000) (ha : -9223372036854775808 ≤ at_ ∧ at_ ≤ 9223372036854775807) (hw : -9223372036854775808 ≤ w_ ∧ w_ ≤ 9223372036854775807) (hbad : (bfc n at_ w_ != 0) = true) :
    Calls Try.prog 138 #[.slice ao n cap, .int .i64 at_, .int .i64 w_, .int .u64 v] w fun e w' => e = .returned (.tuple #[.slice none 0 0, .agg #[.int .i64 (bfc n at_ w_), .int .i64 (bfa n at_ w_)]]) ∧ Below w.heap.size w w' := by
  go_enter Try.func138, Try.ntmps138
  go_wp2_with (go_at_call 154; refine (inside_any _ _ _ _ _ _ hn ha hw).mono ?_; rintro e w1 ⟨rfl, hb⟩; obtain ⟨hc0, hc1, hf0, hf1, hz, hB⟩ := two_facts hb)
  go_region
  go_wp2_with fail
  exact bodyPost_ret (v := .tuple #[.slice none 0 0, .agg #[.int .i64 (bfc n at_ w_), .int .i64 (bfa n at_ w_)]]) (by simp [results, Try.results138, go_sem, hc0, hc1, hz]) rfl ⟨rfl, by go_grown⟩

theorem Put_any (ao : Option Addr) (n cap : Nat) (xs : List Int) (at_ w_ v : Int) (w : World) (hr : Rd w .u8 ao n cap xs) (hn : n ≤ 1000000) (ha : Fits .i64 at_) (hw : Fits .i64 w_) (hv : Fits .u64 v) :
    Calls Try.prog 138 #[.slice ao n cap, .int .i64 at_, .int .i64 w_, .int .u64 v] w fun e w' => ∃ r, e = .returned (.tuple #[r, .agg #[.int .i64 (bfc n at_ w_), .int .i64 (bfa n at_ w_)]]) ∧ Mine w' w.heap.size 5 .u8 r (putV xs at_ w_ v) ∧ Below w.heap.size w w' := by
  obtain rfl := hr.len
  by_cases h : bfc xs.length at_ w_ = 0
  · obtain ⟨h1, h2, h3, h4, h5⟩ := bfc_zero h
    obtain ⟨a, rfl⟩ := Int.eq_ofNat_of_zero_le h3
    obtain ⟨k, rfl⟩ := Int.eq_ofNat_of_zero_le (show 0 ≤ w_ by omega)
    refine (Put_good ao _ cap xs a k v w hr hn hv.u64.1 hv.u64.2 h h5 (by omega) (by omega) (by omega)).mono ?_
    rintro e w' ⟨r, rfl, hm, hb⟩
    refine ⟨r, by rw [h, h5], ?_, hb⟩
    unfold putV
    rw [if_pos h]
    exact hm
  · refine (Put_bad ao _ cap at_ w_ v w hn ha.i64 hw.i64 (by simpa using h)).mono ?_
    rintro e w' ⟨rfl, hb⟩
    refine ⟨_, rfl, ?_, hb⟩
    unfold putV
    rw [if_neg h]
    exact Mine.nil _ _ _ _

end Go.Proofs.Ytfakdapglbgokaa
