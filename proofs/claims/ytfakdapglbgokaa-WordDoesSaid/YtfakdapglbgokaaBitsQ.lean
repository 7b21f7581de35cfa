/-
  The plain laws of bits: what was put is got; what was joined is parted. No program in sight. No condition.
-/
import Derived.Test.YtfakdapglbgokaaBitsL
namespace Go.Proofs.Ytfakdapglbgokaa
set_option linter.all false
open Go.RowKit

theorem and_ones (v w : Int) (h0 : 0 ≤ v) (h1 : v ≤ 18446744073709551615) (hw0 : 1 ≤ w) (hw : w ≤ 64) : bits .and .u64 v (ones w) = v % 2 ^ w.toNat := by
  have hr := ones_range w
  unfold ones at hr ⊢
  rw [if_pos ⟨hw0, hw⟩] at hr ⊢
  obtain ⟨a, rfl⟩ := Int.eq_ofNat_of_zero_le h0
  have hp : 0 < 2 ^ w.toNat := Nat.two_pow_pos _
  have e1 : onesN w.toNat = ((2 ^ w.toNat - 1 : Nat) : Int) := by
    unfold onesN
    have : ((2 ^ w.toNat : Nat) : Int) = (2 : Int) ^ w.toNat := by simp
    omega
  rw [e1] at hr ⊢
  rw [u64_and_nat a _ (by omega) (by omega), Nat.and_two_pow_sub_one_eq_mod]
  simp

theorem putN_same (b : List Int) (at_ w : Nat) (u v : Int) : putN (putN b at_ w u) at_ w v = putN b at_ w v := by
  show bytesF _ _ = bytesF _ _
  rw [putN_length]
  refine bytesF_congr _ _ _ fun k hk => ?_
  unfold putF
  by_cases h : at_ ≤ k ∧ k < at_ + w
  · rw [if_pos h, if_pos h]
  · rw [if_neg h, if_neg h, bitAt_putN _ _ _ _ _ hk]
    unfold putF
    rw [if_neg h]
theorem putN_apart (b : List Int) (at_ w to k : Nat) (u v : Int) (h : at_ + w ≤ to ∨ to + k ≤ at_) : putN (putN b at_ w u) to k v = putN (putN b to k v) at_ w u := by
  show bytesF _ _ = bytesF _ _
  rw [putN_length, putN_length]
  refine bytesF_congr _ _ _ fun i hi => ?_
  show (if to ≤ i ∧ i < to + k then nbit v k (i - to) else bitAt (putN b at_ w u) i) = (if at_ ≤ i ∧ i < at_ + w then nbit u w (i - at_) else bitAt (putN b to k v) i)
  rw [bitAt_putN _ _ _ _ _ hi, bitAt_putN _ _ _ _ _ hi]
  unfold putF
  by_cases h1 : at_ ≤ i ∧ i < at_ + w
  · rw [if_pos h1, if_pos h1, if_neg (by omega)]
  · rw [if_neg h1, if_neg h1]
theorem getN_putN (b : List Int) (at_ w : Nat) (v : Int) (h : at_ + w ≤ 8 * b.length) : getN (putN b at_ w v) at_ w = v % 2 ^ w := by
  unfold getN
  rw [acc_congr _ (nbit v w) w fun k hk => by
    rw [bitAt_putN _ _ _ _ _ (by omega)]; unfold putF; rw [if_pos (by omega), Nat.add_sub_cancel_left]]
  rw [acc_nbit v w w (Nat.le_refl _)]
  simp
theorem getN_one (b : List Int) (k : Nat) : getN b k 1 = bitAt b k := by simp [getN, acc]

theorem catTo_le (v w : List Int) (i m : Nat) (h : i ≤ m) : (catTo v w i).length ≤ (catTo v w m).length := by
  induction m with
  | zero => obtain rfl : i = 0 := (by omega); exact Nat.le_refl _
  | succ m ih =>
    by_cases he : i = m + 1
    · subst he; exact Nat.le_refl _
    · have := ih (by omega)
      simp only [catTo, List.length_append]; omega
theorem el_catTo (v w : List Int) (i m k : Nat) (hi : i < m) (hk : k < (el w i).toNat) : el (catTo v w m) ((catTo v w i).length + k) = nbit (el v i) (el w i).toNat k := by
  induction m with
  | zero => omega
  | succ m ih =>
    have h1 : (catTo v w (i + 1)).length = (catTo v w i).length + (el w i).toNat := by simp [catTo, numB_length]
    simp only [catTo]
    by_cases he : i = m
    · subst he
      rw [el_append_right]
      exact el_mk _ _ _ hk
    · have h2 := catTo_le v w (i + 1) m (by omega)
      rw [el_append_left _ _ _ (by omega)]
      exact ih (by omega)

theorem joinC_ok {v ws : List Int} (h : joinC v.length ws = 0) : v.length = ws.length ∧ ∀ j, j < ws.length → badW ws j = false := by
  unfold joinC at h
  split at h
  · cases h
  · rename_i h1
    split at h
    · cases h
    · rename_i h2
      have := firstN_le (badW ws) ws.length
      exact ⟨by simpa using h1, firstN_all _ _ (by omega)⟩

theorem join_parted (v ws : List Int) (h : joinC v.length ws = 0) (hv : AllFit .u64 v) (i : Nat) (hi : i < ws.length) :
    pBad (joinV v ws).length 0 ws i = false ∧ partG (joinV v ws) 0 ws i = bits .and .u64 (el v i) (ones (el ws i)) := by
  obtain ⟨hlen, hok⟩ := joinC_ok h
  have hw := okW (hok i hi)
  have hcl := catTo_length v ws ws.length hok
  have hci := catTo_length v ws i (fun j hj => hok j (by omega))
  have hmo := sumTo_mono (i := i + 1) (j := ws.length) (by omega) hok
  have hsi := sumTo_ok (w := ws) (i := i) (fun j hj => hok j (by omega))
  simp only [sumTo] at hmo
  have hJ : joinV v ws = bytesF (el (catTo v ws ws.length)) (((catTo v ws ws.length).length + 7) / 8) := by unfold joinV; rw [if_pos h]
  have hJl : (joinV v ws).length = ((catTo v ws ws.length).length + 7) / 8 := by rw [hJ, bytesF_length]
  have hb : bfc (joinV v ws).length (0 + sumTo ws i) (el ws i) = 0 := by rw [hJl]; unfold bfc; rw [if_neg (by omega), if_neg (by omega)]
  have hve := hv.el_u64 i
  refine ⟨by unfold pBad; rw [hb]; rfl, ?_⟩
  unfold partG getV
  rw [if_pos hb, and_ones _ _ hve.1 hve.2 hw.1 hw.2]
  unfold getN
  rw [acc_congr _ (nbit (el v i) (el ws i).toNat) _ fun k hk => ?_]
  · rw [acc_nbit _ _ _ (Nat.le_refl _)]; simp
  · rw [hJ, bitAt_bytesF _ (catTo_bits _ _ _) _ _ (by omega), show (0 + sumTo ws i).toNat + k = (catTo v ws i).length + k from by omega]
    exact el_catTo v ws i ws.length k hi hk

end Go.Proofs.Ytfakdapglbgokaa
