/-
  Package pack, plain: what Size, Read, Write and Sum say. No condition.
-/
import Derived.Test.YtfakdapglbgokaaBitsL
import Derived.Test.YtfakdapglbgokaaSumP
namespace Go.Proofs.Ytfakdapglbgokaa
open Go.RowKit

def wBad (ws : List Int) (i : Nat) : Bool := decide (el ws i < 1 ∨ 48 < el ws i)
def sizeC (ws : List Int) : Int := if ws.length = 0 ∨ 8 < ws.length then 2 else if firstN (wBad ws) ws.length < ws.length then 6 else if sumTo ws ws.length % 8 ≠ 0 ∨ 256 < sumTo ws ws.length then 6 else 0
def sizeA (ws : List Int) : Int := if ws.length = 0 ∨ 8 < ws.length then -1 else if firstN (wBad ws) ws.length < ws.length then (firstN (wBad ws) ws.length : Int) else if sumTo ws ws.length % 8 ≠ 0 ∨ 256 < sumTo ws ws.length then -1 else 0
def sizeN (ws : List Int) : Int := if sizeC ws = 0 then sumTo ws ws.length / 8 else 0
theorem wOk {ws : List Int} {i : Nat} (h : wBad ws i = false) : 1 ≤ el ws i ∧ el ws i ≤ 48 := by
  unfold wBad at h; simp at h; omega
theorem wSum {ws : List Int} {k : Nat} (h : ∀ j, j < k → wBad ws j = false) : (k : Int) ≤ sumTo ws k ∧ sumTo ws k ≤ 48 * k := by
  induction k with
  | zero => simp [sumTo]
  | succ k ih =>
    have h1 := ih (fun j hj => h j (by omega))
    have h2 := wOk (h k (by omega))
    show (k + 1 : Nat) ≤ sumTo ws k + el ws k ∧ sumTo ws k + el ws k ≤ 48 * (k + 1 : Nat)
    omega
theorem size_zero {ws : List Int} (h : sizeC ws = 0) : 1 ≤ ws.length ∧ ws.length ≤ 8 ∧ (∀ j, j < ws.length → wBad ws j = false) ∧ 8 * sizeN ws = sumTo ws ws.length ∧ sumTo ws ws.length ≤ 256 ∧ sizeA ws = 0 ∧ 1 ≤ sizeN ws ∧ sizeN ws ≤ 32 := by
  have h0 := h
  unfold sizeC at h
  by_cases h1 : ws.length = 0 ∨ 8 < ws.length
  · rw [if_pos h1] at h; omega
  rw [if_neg h1] at h
  by_cases h2 : firstN (wBad ws) ws.length < ws.length
  · rw [if_pos h2] at h; omega
  rw [if_neg h2] at h
  by_cases h3 : sumTo ws ws.length % 8 ≠ 0 ∨ 256 < sumTo ws ws.length
  · rw [if_pos h3] at h; omega
  have hall := firstN_all (wBad ws) ws.length (by have := firstN_le (wBad ws) ws.length; omega)
  have hs := wSum hall
  have hN : sizeN ws = sumTo ws ws.length / 8 := by unfold sizeN; rw [if_pos h0]
  have hA : sizeA ws = 0 := by unfold sizeA; rw [if_neg h1, if_neg h2, if_neg h3]
  refine ⟨by omega, by omega, hall, by omega, by omega, hA, by omega, by omega⟩

/-- Where Read goes wrong. -/
def readC (ws : List Int) (m : Nat) (at_ : Int) : Int := if sizeC ws ≠ 0 then sizeC ws else if at_ < 0 ∨ (m : Int) - sizeN ws < at_ then 3 else 0
def readA (ws : List Int) (m : Nat) (at_ : Int) : Int := if sizeC ws ≠ 0 then sizeA ws else if at_ < 0 ∨ (m : Int) - sizeN ws < at_ then -1 else 0
def readV (ws b : List Int) (at_ : Int) : List Int := if readC ws b.length at_ = 0 then partV b (8 * at_) ws else []

/-- A number that is too great for its width. -/
def vBad (ws v : List Int) (i : Nat) : Bool := decide (ones (el ws i) < el v i)
def writeC (ws v : List Int) : Int := if sizeC ws ≠ 0 then sizeC ws else if v.length ≠ ws.length then 2 else if firstN (vBad ws v) v.length < v.length then 6 else 0
def writeA (ws v : List Int) : Int := if sizeC ws ≠ 0 then sizeA ws else if v.length ≠ ws.length then -1 else if firstN (vBad ws v) v.length < v.length then (firstN (vBad ws v) v.length : Int) else 0
def writeV (ws v : List Int) : List Int := if writeC ws v = 0 then joinV v ws else []

/-- The numbers, but for one that is 0. -/
def skipV (v : List Int) (skip : Int) : List Int := mk (fun i => if (i : Int) = skip then 0 else el v i) v.length
def sumC (ws v : List Int) (skip : Int) : Int := if skip < -1 ∨ (ws.length : Int) ≤ skip then 1 else writeC ws (skipV v skip)
def sumA (ws v : List Int) (skip : Int) : Int := if skip < -1 ∨ (ws.length : Int) ≤ skip then -1 else writeA ws (skipV v skip)
def sumN (ws v : List Int) (skip : Int) : Int := if sumC ws v skip = 0 then 65535 - whole (writeV ws (skipV v skip)) else 0

theorem joinC_zero {ws v : List Int} (hl : v.length = ws.length) (h : ∀ j, j < ws.length → wBad ws j = false) : joinC v.length ws = 0 ∧ joinA v.length ws = 0 := by
  have hn : firstN (badW ws) ws.length = ws.length := firstN_none _ _ (fun j hj => by have := wOk (h j hj); unfold badW; simp; omega)
  unfold joinC joinA
  rw [if_neg (by omega), if_neg (by omega), hn, if_neg (by omega), if_neg (by omega)]
  exact ⟨rfl, rfl⟩
theorem bfc_ok {n : Nat} {at_ w : Int} (h1 : 1 ≤ w) (h2 : w ≤ 64) (h3 : 0 ≤ at_) (h4 : at_ + w ≤ 8 * (n : Int)) : bfc n at_ w = 0 := by
  unfold bfc
  rw [if_neg (by omega), if_neg (by omega)]
theorem wSum_mono {ws : List Int} {n : Nat} (h : ∀ j, j < n → wBad ws j = false) (k : Nat) (hk : k ≤ n) : 0 ≤ sumTo ws k ∧ sumTo ws k ≤ sumTo ws n := by
  refine ⟨by have := (wSum (k := k) (fun j hj => h j (by omega))).1; omega, ?_⟩
  induction n with
  | zero => obtain rfl : k = 0 := by omega
            omega
  | succ n ih =>
    have h2 := wOk (h n (by omega))
    by_cases e : k = n + 1
    · subst e; omega
    · have := ih (fun j hj => h j (by omega)) (by omega)
      show _ ≤ sumTo ws n + el ws n
      omega
theorem partC_zero {n : Nat} {at_ : Int} {ws : List Int} (h : ∀ j, j < ws.length → wBad ws j = false) (h0 : 0 ≤ at_) (h1 : at_ + sumTo ws ws.length ≤ 8 * (n : Int)) : partC n at_ ws = 0 ∧ partA n at_ ws = 0 := by
  have hn : firstN (pBad n at_ ws) ws.length = ws.length := firstN_none _ _ (fun j hj => by
    have h2 := wOk (h j hj)
    have h3 := wSum_mono h j (by omega)
    have h4 := wSum_mono h (j + 1) (by omega)
    have h5 : sumTo ws (j + 1) = sumTo ws j + el ws j := rfl
    unfold pBad
    rw [bfc_ok (by omega) (by omega) (by omega) (by omega)]
    rfl)
  unfold partC partA
  rw [hn, if_neg (by omega), if_neg (by omega)]
  exact ⟨rfl, rfl⟩
theorem bitAt_cut (b : List Int) (a n k : Nat) (hk : k < 8 * n) : bitAt ((b.drop a).take n) k = bitAt b (8 * a + k) := by
  unfold bitAt
  rw [el_take, if_pos (by omega), el_drop, show (8 * a + k) / 8 = a + k / 8 by omega, show (8 * a + k) % 8 = k % 8 by omega]
theorem getN_cut (b : List Int) (a n i w : Nat) (h : i + w ≤ 8 * n) : getN ((b.drop a).take n) i w = getN b (8 * a + i) w := by
  unfold getN
  refine acc_congr _ _ _ (fun k hk => ?_)
  rw [bitAt_cut _ _ _ _ (by omega), Nat.add_assoc]
theorem partN {n : Nat} {at_ : Int} {ws : List Int} (h : ∀ j, j < ws.length → wBad ws j = false) (h0 : 0 ≤ at_) (h1 : at_ + sumTo ws ws.length ≤ 8 * (n : Int)) : firstN (pBad n at_ ws) ws.length = ws.length :=
  firstN_none _ _ (fun j hj => by
    have h2 := wOk (h j hj)
    have h3 := wSum_mono h j (by omega)
    have h4 := wSum_mono h (j + 1) (by omega)
    have h5 : sumTo ws (j + 1) = sumTo ws j + el ws j := rfl
    unfold pBad
    rw [bfc_ok (by omega) (by omega) (by omega) (by omega)]
    rfl)
theorem partV_eq {b : List Int} {at_ : Int} {ws : List Int} (h : ∀ j, j < ws.length → wBad ws j = false) (h0 : 0 ≤ at_) (h1 : at_ + sumTo ws ws.length ≤ 8 * (b.length : Int)) :
    partV b at_ ws = mk (fun i => getN b (at_ + sumTo ws i).toNat (el ws i).toNat) ws.length := by
  unfold partV
  rw [partN h h0 h1, if_neg (by omega)]
  refine mk_congr _ _ _ (fun j hj => ?_)
  have h2 := wOk (h j hj)
  have h3 := wSum_mono h j (by omega)
  have h4 := wSum_mono h (j + 1) (by omega)
  have h5 : sumTo ws (j + 1) = sumTo ws j + el ws j := rfl
  unfold partG getV
  rw [if_pos (bfc_ok (by omega) (by omega) (by omega) (by omega))]
theorem partV_cut {b : List Int} {a n : Nat} {ws : List Int} (h : ∀ j, j < ws.length → wBad ws j = false) (ha : a + n ≤ b.length) (hs : sumTo ws ws.length ≤ 8 * (n : Int)) :
    partV ((b.drop a).take n) 0 ws = partV b (8 * (a : Int)) ws := by
  have hl : ((b.drop a).take n).length = n := by simp; omega
  rw [partV_eq h (by omega) (by rw [hl]; omega), partV_eq h (by omega) (by omega)]
  refine mk_congr _ _ _ (fun j hj => ?_)
  have h2 := wOk (h j hj)
  have h3 := wSum_mono h j (by omega)
  have h4 := wSum_mono h (j + 1) (by omega)
  have h5 : sumTo ws (j + 1) = sumTo ws j + el ws j := rfl
  rw [getN_cut _ _ _ _ _ (by omega)]
  congr 1
  omega
end Go.Proofs.Ytfakdapglbgokaa
