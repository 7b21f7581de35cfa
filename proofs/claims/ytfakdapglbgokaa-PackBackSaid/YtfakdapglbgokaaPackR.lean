/-
  The references' SameInts and SameBytes. No condition.
-/
import Derived.Test.YtfakdapglbgokaaPackT
namespace Go.Proofs.Ytfakdapglbgokaa
open Go.RowKit

theorem SameInts_any (ao bo : Option Addr) (na ca nb cb : Nat) (xs ys : List Int) (w : World) (hx : Rd w .i64 ao na ca xs) (hy : Rd w .i64 bo nb cb ys) :
    Calls Try.prog 66 #[.slice ao na ca, .slice bo nb cb] w fun e w' => e = .returned (.bool (decide (xs = ys))) ∧ ∃ q, w' = w.drewN q := by
  obtain rfl := hx.len
  obtain rfl := hy.len
  have hlx := hx.lt
  by_cases hlen : xs.length = ys.length
  case neg =>
    have hq : ((xs.length : Int) != ys.length) = true := by rw [bne_iff_ne]; omega
    have e1 : decide (xs = ys) = false := by simp; intro h; exact hlen (by rw [h])
    rw [e1]
    go_enter Try.func66, Try.ntmps66
    go_wp2_with fail
    go_ret
    exact ⟨rfl, 0, rfl⟩
  have hq : ((xs.length : Int) != ys.length) = false := by rw [hlen]; simp
  have Hlen := Lib.hid hlen
  clear hlen
  go_enter Try.func66, Try.ntmps66
  go_wp2_with fail
  go_loopw [5] (fun i wr => ∃ k : Nat, k ≤ xs.length ∧ (∀ j, j < k → el xs j = el ys j) ∧ i = .int .i64 k ∧ ∃ q, wr = w.drewN q) (fun i _ => xs.length - (intOf i).toNat)
  case atStart => exact ⟨0, Nat.zero_le _, fun j hj => absurd hj (Nat.not_lt_zero j), rfl, 0, rfl⟩
  case round =>
    obtain ⟨k, hk, hok, rfl, hqe⟩ := hrel
    have hwc : ∀ p, wr.cell? p = w.cell? p := by obtain ⟨q, rfl⟩ := hqe; intro p; rfl
    have HQ := Lib.hid hqe
    clear hqe
    have Hok := Lib.hid hok
    clear hok
    by_cases hl : k < xs.length
    · obtain ⟨b, off, rfl, hc⟩ := hx.here (by omega)
      obtain ⟨b', off', e', hc'⟩ := hy.here (by have := Hlen.out; omega)
      have hck : wr.cell? ⟨b, off + k, none⟩ = some (.int .i64 (el xs k)) := (hwc _).trans (hc k hl)
      have hck' : wr.cell? ⟨b', off' + k, none⟩ = some (.int .i64 (el ys k)) := (hwc _).trans (hc' k (by have := Hlen.out; omega))
      have hly : (k : Int) < ys.length := by have := Hlen.out; omega
      subst e'
      clear hc hc' hwc
      go_wp2_with fail
      go_quiet (fail)
      by_cases he : el xs k = el ys k
      · have he' : (el xs k != el ys k) = false := by rw [he]; simp
        have hrel2 : Hid (∀ j, j < k + 1 → el xs j = el ys j) := fun j hj => by
          by_cases h : j = k
          · subst h; exact he
          · exact Hok.out j (by omega)
        clear he
        go_wp2_with fail
        go_roundw
        case rel => exact ⟨k + 1, by omega, hrel2.out, by go_num, by obtain ⟨q, rfl⟩ := HQ.out; exact ⟨q + nq, by simp [World.drewN, Nat.add_assoc]⟩⟩
        case measure => simp [intOf]; omega
      · have he' : (el xs k != el ys k) = true := by rw [bne_iff_ne]; exact he
        have e1 : Hid (decide (xs = ys) = false) := by show decide (xs = ys) = false; simp; intro h; exact he (by rw [h])
        clear he
        go_wp2_with fail
        go_ret
        exact ⟨by rw [e1.out]; rfl, by obtain ⟨q, rfl⟩ := HQ.out; exact ⟨q + nq, by simp [World.drewN, Nat.add_assoc]⟩⟩
    · obtain rfl : k = xs.length := by omega
      have e1 : Hid (decide (xs = ys) = true) := by show decide (xs = ys) = true; simp; exact ext_el Hlen.out Hok.out
      clear hwc
      go_wp2_with fail
      go_ret
      exact ⟨by rw [e1.out]; rfl, HQ.out⟩

theorem SameBytes_any (ao bo : Option Addr) (na ca nb cb : Nat) (xs ys : List Int) (w : World) (hx : Rd w .u8 ao na ca xs) (hy : Rd w .u8 bo nb cb ys) :
    Calls Try.prog 53 #[.slice ao na ca, .slice bo nb cb] w fun e w' => e = .returned (.bool (decide (xs = ys))) ∧ w = w' := by
  have h1 := hx.str (P := Try.prog) 77 9 5 Try.underlying77 Try.underlying5 Try.underlying9
  have h2 := hy.str (P := Try.prog) 77 9 5 Try.underlying77 Try.underlying5 Try.underlying9
  have h3 := Lib.hid (strOfNums_inj hx.fit hy.fit)
  go_enter Try.func53, Try.ntmps53
  go_wp2_with fail
  go_ret
  exact ⟨by rw [← h3.out]; rfl, rfl⟩

end Go.Proofs.Ytfakdapglbgokaa
