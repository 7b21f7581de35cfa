/-
  The plain laws of headers: what was written is read; what was read is written. No program in sight. No condition.
-/
import Derived.Test.YtfakdapglbgokaaPackP
import Derived.Test.YtfakdapglbgokaaBitsQ
namespace Go.Proofs.Ytfakdapglbgokaa
open Go.RowKit

theorem nbit_acc (f : Nat → Int) (hf : Bits f) (w j : Nat) (hj : j < w) : nbit (acc f w) w j = f j := by
  induction w with
  | zero => omega
  | succ w ih =>
    have h1 := hf w
    unfold nbit at ih ⊢
    simp only [acc]
    by_cases e : j = w
    · subst e
      rw [show j + 1 - 1 - j = 0 by omega]
      simp
      omega
    · rw [show w + 1 - 1 - j = (w - 1 - j) + 1 by omega, Int.pow_succ, show ∀ x p : Int, x / (p * 2) = x / 2 / p from fun x p => by rw [Int.mul_comm, Int.ediv_ediv, if_neg (by omega), Int.sub_zero], show (2 * acc f w + f w) / 2 = acc f w by omega]
      exact ih (by omega)

theorem nbit_getN (b : List Int) (s w j : Nat) (hj : j < w) : nbit (getN b s w) w j = bitAt b (s + j) := nbit_acc _ (fun _ => bitAt_range _ _) w j hj
theorem small_mod {x w : Int} (h0 : 0 ≤ x) (hw : 1 ≤ w) (hw2 : w ≤ 64) (h : ¬ ones w < x) : x % 2 ^ w.toNat = x := by
  unfold ones at h
  rw [if_pos ⟨hw, hw2⟩] at h
  unfold onesN at h
  exact Int.emod_eq_of_lt h0 (by omega)
theorem getN_ones (b : List Int) (at_ : Nat) (w : Int) (hw : 1 ≤ w) (hw2 : w ≤ 64) : ¬ ones w < getN b at_ w.toNat := by
  have h := getN_range b at_ w.toNat
  unfold ones
  rw [if_pos ⟨hw, hw2⟩]
  unfold onesN
  have : ((2 ^ w.toNat : Nat) : Int) = (2 : Int) ^ w.toNat := by simp
  omega

theorem wz {ws v : List Int} (h : writeC ws v = 0) : sizeC ws = 0 ∧ v.length = ws.length ∧ ∀ j, j < v.length → vBad ws v j = false := by
  unfold writeC at h
  split at h
  · rename_i h1; exact absurd h h1
  · rename_i h1
    split at h
    · omega
    · rename_i h2
      split at h
      · omega
      · rename_i h3
        exact ⟨by simpa using h1, by simpa using h2, firstN_all _ _ (by have := firstN_le (vBad ws v) v.length; omega)⟩
theorem wBad_badW {ws : List Int} {j : Nat} (h : wBad ws j = false) : badW ws j = false := by
  have := wOk h
  unfold badW; simp; omega

/-- What was written is read. -/
theorem write_read {ws v : List Int} (hv : AllFit .u64 v) (h : writeC ws v = 0) : readC ws (writeV ws v).length 0 = 0 ∧ readV ws (writeV ws v) 0 = v ∧ ((writeV ws v).length : Int) = sizeN ws := by
  obtain ⟨h1, h2, h3⟩ := wz h
  obtain ⟨s1, s2, s3, s4, s5, s6, s7, s8⟩ := size_zero h1
  have hb : ∀ j, j < ws.length → badW ws j = false := fun j hj => wBad_badW (s3 j hj)
  have hc := catTo_length v ws ws.length hb
  have hJ := (joinC_zero h2 s3).1
  have hwl : ((writeV ws v).length : Int) = sizeN ws := by
    unfold writeV joinV
    rw [if_pos h, if_pos hJ, bytesF_length]
    omega
  have hwv : writeV ws v = joinV v ws := by unfold writeV; rw [if_pos h]
  have hrc : readC ws (writeV ws v).length 0 = 0 := by
    unfold readC
    rw [if_neg (by simpa using h1), if_neg (by omega)]
  refine ⟨hrc, ?_, hwl⟩
  unfold readV
  rw [if_pos hrc, hwv]
  have hn : firstN (pBad (joinV v ws).length (8 * 0) ws) ws.length = ws.length := firstN_none _ _ fun j hj => (join_parted v ws hJ hv j hj).1
  unfold partV
  rw [hn, if_neg (by omega)]
  refine ext_el (by rw [mk_length]; exact h2.symm) fun i hi => ?_
  rw [mk_length] at hi
  rw [el_mk _ _ _ hi]
  have hj := (join_parted v ws hJ hv i hi).2
  have hw := wOk (s3 i hi)
  have hx := hv.el_u64 i
  have hvb := h3 i (by omega)
  unfold vBad at hvb
  simp only [decide_eq_false_iff_not] at hvb
  rw [show (8 * 0 : Int) = 0 by rfl, hj, and_ones _ _ hx.1 hx.2 (by omega) (by omega)]
  exact small_mod hx.1 (by omega) (by omega) hvb

theorem catTo_bitAt {b ws : List Int} {a : Int} (ha : 0 ≤ a) (h : ∀ j, j < ws.length → wBad ws j = false) (n : Nat) (hn : n ≤ ws.length) :
    ∀ k, k < (catTo (mk (fun i => getN b (a + sumTo ws i).toNat (el ws i).toNat) ws.length) ws n).length →
      el (catTo (mk (fun i => getN b (a + sumTo ws i).toNat (el ws i).toNat) ws.length) ws n) k = bitAt b (a.toNat + k) := by
  induction n with
  | zero => intro k hk; simp [catTo] at hk
  | succ n ih =>
    intro k hk
    have hcl := catTo_length (mk (fun i => getN b (a + sumTo ws i).toNat (el ws i).toNat) ws.length) ws n (fun j hj => wBad_badW (h j (by omega)))
    have hs := (wSum_mono (n := ws.length) h n (by omega)).1
    simp only [catTo, List.length_append, numB_length] at hk ⊢
    rw [el_append]
    split
    · rename_i hlt; exact ih (by omega) k hlt
    · rename_i hlt
      unfold numB
      rw [el_mk _ _ _ (by omega), el_mk _ _ _ (by omega)]
      rw [nbit_getN _ _ _ _ (by omega)]
      congr 1
      omega

/-- What was read is written to the same bytes. -/
theorem read_write {ws b : List Int} {at_ : Int} (hb : AllFit .u8 b) (h : readC ws b.length at_ = 0) :
    sizeC ws = 0 ∧ 0 ≤ at_ ∧ at_ + sizeN ws ≤ b.length ∧ writeC ws (readV ws b at_) = 0 ∧ writeV ws (readV ws b at_) = (b.drop at_.toNat).take (sizeN ws).toNat := by
  have h0 := h
  unfold readC at h
  split at h
  · rename_i h1; exact absurd h h1
  rename_i h1
  have h1 : sizeC ws = 0 := by simpa using h1
  split at h
  · omega
  rename_i h2
  obtain ⟨s1, s2, s3, s4, s5, s6, s7, s8⟩ := size_zero h1
  have hV : readV ws b at_ = mk (fun i => getN b (8 * at_ + sumTo ws i).toNat (el ws i).toNat) ws.length := by
    unfold readV
    rw [if_pos h0, partV_eq s3 (by omega) (by omega)]
  have hwc : writeC ws (readV ws b at_) = 0 := by
    unfold writeC
    rw [if_neg (by simpa using h1), hV, if_neg (by rw [mk_length]; simp), firstN_none _ _ (fun j hj => ?_), if_neg (by omega)]
    rw [mk_length] at hj
    unfold vBad
    rw [el_mk _ _ _ hj]
    have hw := wOk (s3 j hj)
    simpa using getN_ones b _ (el ws j) (by omega) (by omega)
  refine ⟨h1, by omega, by omega, hwc, ?_⟩
  have hl : (readV ws b at_).length = ws.length := by rw [hV, mk_length]
  have hJ := (joinC_zero hl s3).1
  have hcl := catTo_length (readV ws b at_) ws ws.length (fun j hj => wBad_badW (s3 j hj))
  have hcb := catTo_bitAt (b := b) (a := 8 * at_) (by omega) s3 ws.length (Nat.le_refl _)
  rw [← hV] at hcb
  have hcut : AllFit .u8 ((b.drop at_.toNat).take (sizeN ws).toNat) := fun x hx => hb x (List.mem_of_mem_drop (List.mem_of_mem_take hx))
  have hcutl : ((b.drop at_.toNat).take (sizeN ws).toNat).length = (sizeN ws).toNat := by simp; omega
  have hm : ((catTo (readV ws b at_) ws ws.length).length + 7) / 8 = (sizeN ws).toNat := by omega
  unfold writeV joinV
  rw [if_pos hwc, if_pos hJ, ← bytesF_bitAt _ hcut, hcutl, hm]
  refine bytesF_congr _ _ _ fun k hk => ?_
  rw [hcb k (by omega), bitAt_cut _ _ _ _ hk]
  congr 1
  omega

end Go.Proofs.Ytfakdapglbgokaa
