/-
  Package word's reader: num, int, left. No condition.
-/
import Derived.Test.YtfakdapglbgokaaWordH
import Derived.Test.YtfakdapglbgokaaBitsV
import Derived.BigQuiet
import Derived.Deep.QuietTactic
namespace Go.Proofs.Ytfakdapglbgokaa
set_option linter.all false
open Go.RowKit

/-- A reader's block. -/
def Rdr (w : World) (r : Nat) (ao : Option Addr) (n cap at_ : Nat) : Prop := Blk w r 133 #[.slice ao n cap, .int .i64 ((at_ : Nat) : Int)]
instance {r : Nat} {ao : Option Addr} {n cap at_ : Nat} : Mono (fun w => Rdr w r ao n cap at_) := ⟨fun h hb => Blk.below h hb (Blk.lt h)⟩
theorem Rd.step {w w' : World} {k : IntKind} {ao : Option Addr} {n cap : Nat} {xs : List Int} (h : Rd w k ao n cap xs) {A : Nat → Prop} (hs : Step A w w') (hA : ∀ b off, ao = some ⟨b, off, none⟩ → 0 < n → ¬ A b) : Rd w' k ao n cap xs := by
  refine ⟨h.len, h.fit, h.le, h.max, fun h0 => ?_, h.nil⟩
  obtain ⟨b, off, e, hc⟩ := h.here h0
  have hA' := hA b off e (by have := h.len; omega)
  exact ⟨b, off, e, fun i hi => hs.cell (hc i hi) hA'⟩
theorem Rdr.apart {w : World} {r : Nat} {ao : Option Addr} {n cap at_ : Nat} (h : Rdr w r ao n cap at_) {xs : List Int} (hr : Rd w .u8 ao n cap xs) : ∀ b off, ao = some ⟨b, off, none⟩ → 0 < n → ¬ b = r := by
  intro b off e h0 hb
  subst hb
  obtain ⟨b', off', e', hc⟩ := hr.here (by have := hr.len; omega)
  rw [e] at e'
  cases e'
  have := hc 0 (by have := hr.len; omega)
  rw [Nat.add_zero, Blk.cell h off] at this
  match off with
  | 0 => simp at this
  | 1 => simp at this
  | k + 2 => simp at this
theorem or_byte (n x : Int) (h0 : 0 ≤ n) (h1 : n ≤ 72057594037927935) (hb : 0 ≤ x ∧ x ≤ 255) : bits .or .u64 (n * 256) x = 256 * n + x := by
  obtain ⟨a, rfl⟩ := Int.eq_ofNat_of_zero_le h0
  obtain ⟨b, rfl⟩ := Int.eq_ofNat_of_zero_le hb.1
  rw [show (a : Int) * 256 = ((a * 256 : Nat) : Int) from by omega, u64_or_nat _ _ (by omega) (by omega), nat_join 8 (a * 256) b (by omega) (by omega)]
  omega
theorem numAt_small {b : List Int} (h : AllFit .u8 b) (o n : Nat) (hn : n < 8) : 0 ≤ numAt b o n ∧ numAt b o n ≤ 72057594037927935 := by
  have := numAt_range h o n
  have hp : (256 : Int) ^ n ≤ 256 ^ 7 := by
    obtain ⟨d, hd⟩ : ∃ d, 7 = n + d := ⟨7 - n, by omega⟩
    rw [hd, Int.pow_add]
    have h1' : (0 : Int) < 256 ^ d := Int.pow_pos (by omega)
    have h1 : (1 : Int) ≤ 256 ^ d := by omega
    have h2 : (0 : Int) ≤ 256 ^ n := Int.le_of_lt (Int.pow_pos (by omega))
    calc (256 : Int) ^ n = 256 ^ n * 1 := by omega
      _ ≤ 256 ^ n * 256 ^ d := Int.mul_le_mul_of_nonneg_left h1 h2
  simp only [Int.reducePow] at hp
  omega

set_option maxHeartbeats 1000000 in
theorem num_any (r : Nat) (ao : Option Addr) (n cap at_ m : Nat) (xs : List Int) (w : World) (hr : Rd w .u8 ao n cap xs) (hb : Rdr w r ao n cap at_) (hm : m ≤ 8) (hle : at_ + m ≤ n) :
    Calls Try.prog 101 #[.pointer (some ⟨r, 0, none⟩), .int .i64 m] w fun e w' => e = .returned (.int .u64 (numAt xs at_ m)) ∧ Rdr w' r ao n cap (at_ + m) ∧ Step (fun k => k = r) w w' := by
  have hap := Lib.hid (hb.apart hr)
  have hlt := hr.lt
  obtain rfl := hr.len
  go_enter Try.func101, Try.ntmps101
  go_wp2_with fail
  go_loopw [5, 7] (fun v i wr => ∃ k : Nat, k ≤ m ∧ i = .int .i64 k ∧ v = .int .u64 (numAt xs at_ k) ∧ Rdr wr r ao xs.length cap (at_ + k) ∧ Step (fun k => k = r) w wr) (fun _ i _ => m - (intOf i).toNat)
  case atStart => exact ⟨0, Nat.zero_le _, rfl, rfl, hb, .refl _ _⟩
  case round =>
    clear hb
    obtain ⟨k, hk, rfl, rfl, hb, hs⟩ := hrel
    by_cases hl : k < m
    · obtain ⟨b, off, rfl, hc⟩ := (hr.step hs hap.out).here (by omega)
      have hck := hc (at_ + k) (by omega)
      have hc0 := Blk.cell hb 0
      have hc1 := Blk.cell hb 1
      have hfr := Blk.frozen hb 1
      simp at hc0 hc1
      have hz := Blk.lt hb
      have hx := hr.fit.el_u8 (at_ + k)
      obtain ⟨v0, v1⟩ := numAt_small hr.fit at_ k (by omega)
      have hor := or_byte _ _ v0 v1 hx
      have hs1 : numAt xs at_ (k + 1) = 256 * numAt xs at_ k + el xs (at_ + k) := rfl
      have Hs := Lib.hid hs1
      have hi0 : (0 : Int) ≤ (at_ : Int) + k := by omega
      have hi1 : (at_ : Int) + k < (xs.length : Int) := by omega
      clear hc hs1
      go_wp2_with fail
      go_quiet (fail)
      go_wp2_with fail
      have hb2 : Rdr ((wr.drewN nq).setCell ⟨r, 1, none⟩ (.int .i64 (((at_ + (k + 1) : Nat)) : Int))) r (some ⟨b, off, none⟩) xs.length cap (at_ + (k + 1)) := Blk.set_ (w := wr.drewN nq) hb 1 _
      have hs2 : Step (fun k => k = r) w ((wr.drewN nq).setCell ⟨r, 1, none⟩ (.int .i64 (((at_ + (k + 1) : Nat)) : Int))) := (hs.trans (.drewN _ _ nq)).trans (Step.set (fun k => k = r) _ ⟨r, 1, none⟩ rfl _)
      have e1 : (((at_ + (k + 1) : Nat)) : Int) = (at_ : Int) + k + 1 := by omega
      rw [e1] at hb2 hs2
      go_roundw
      case rel => exact ⟨k + 1, by omega, by go_num, by rw [Hs.out], hb2, hs2⟩
      case measure => simp [intOf]; omega
    · obtain rfl : k = m := by omega
      go_wp2_with fail
      go_ret
      exact ⟨rfl, hb, hs⟩

theorem int_any (r : Nat) (ao : Option Addr) (n cap at_ m : Nat) (xs : List Int) (w : World) (hr : Rd w .u8 ao n cap xs) (hb : Rdr w r ao n cap at_) (hm : m ≤ 2) (hle : at_ + m ≤ n) :
    Calls Try.prog 100 #[.pointer (some ⟨r, 0, none⟩), .int .i64 m] w fun e w' => e = .returned (.int .i64 (numAt xs at_ m)) ∧ Rdr w' r ao n cap (at_ + m) ∧ Step (fun k => k = r) w w' := by
  have hv := numAt_range hr.fit at_ m
  have hp : (256 : Int) ^ m ≤ 65536 := by
    have : m = 0 ∨ m = 1 ∨ m = 2 := by omega
    rcases this with rfl | rfl | rfl <;> decide
  have h0 : 0 ≤ numAt xs at_ m := hv.1
  have h1 : numAt xs at_ m ≤ 65535 := by omega
  clear hv hp
  go_enter Try.func100, Try.ntmps100
  go_wp2_with (go_at_call 101; refine (num_any r ao n cap at_ m xs _ hr hb (by omega) hle).mono ?_; rintro e w' ⟨rfl, hb', hs'⟩)
  go_ret
  exact ⟨rfl, hb', hs'⟩

theorem numAt_one (b : List Int) (o : Nat) : numAt b o 1 = el b o := by simp [numAt]
theorem int1_any (r : Nat) (ao : Option Addr) (n cap at_ : Nat) (xs : List Int) (w : World) (hr : Rd w .u8 ao n cap xs) (hb : Rdr w r ao n cap at_) (hle : at_ + 1 ≤ n) :
    Calls Try.prog 100 #[.pointer (some ⟨r, 0, none⟩), .int .i64 1] w fun e w' => e = .returned (.int .i64 (el xs at_)) ∧ Rdr w' r ao n cap (at_ + 1) ∧ Step (fun k => k = r) w w' := by
  have := int_any r ao n cap at_ 1 xs w hr hb (by omega) hle
  rw [numAt_one] at this
  exact this
theorem left_any (r : Nat) (ao : Option Addr) (n cap at_ : Nat) (m : Int) (w : World) (hb : Rdr w r ao n cap at_) (hn : n ≤ 1000000) (ha : at_ ≤ 1000000) (hm : 0 ≤ m ∧ m ≤ 1000000) :
    Calls Try.prog 99 #[.pointer (some ⟨r, 0, none⟩), .int .i64 m] w fun e w' => e = .returned (.bool (decide (m ≤ (n : Int) - at_))) ∧ ∃ q, w' = w.drewN q := by
  obtain ⟨hm0, hm1⟩ := hm
  have hc0 := Blk.cell hb 0
  have hc1 := Blk.cell hb 1
  simp at hc0 hc1
  have hz := Blk.lt hb
  go_enter Try.func99, Try.ntmps99
  go_wp2_with fail
  go_quiet (fail)
  go_wp2_with fail
  go_ret
  exact ⟨rfl, _, rfl⟩
end Go.Proofs.Ytfakdapglbgokaa
