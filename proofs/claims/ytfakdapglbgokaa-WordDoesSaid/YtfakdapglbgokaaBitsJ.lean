/-
  Package bits and its references, sixth part: Join and Part. No condition.
-/
import Derived.Test.YtfakdapglbgokaaBitsS
import Derived.Test.YtfakdapglbgokaaFirst
namespace Go.Proofs.Ytfakdapglbgokaa
set_option linter.all false
open Go.RowKit

/-- A width that is none. -/
def badW (w : List Int) (i : Nat) : Bool := decide (el w i < 1 ∨ 64 < el w i)
def joinC (m : Nat) (w : List Int) : Int := if m ≠ w.length then 2 else if firstN (badW w) w.length < w.length then 6 else 0
def joinA (m : Nat) (w : List Int) : Int := if m ≠ w.length then -1 else if firstN (badW w) w.length < w.length then (firstN (badW w) w.length : Int) else 0
/-- The bits of the first so many numbers. -/
def catTo (v w : List Int) : Nat → List Int
  | 0 => []
  | i + 1 => catTo v w i ++ numB (el v i) (el w i).toNat
def joinV (v w : List Int) : List Int := if joinC v.length w = 0 then bytesF (el (catTo v w w.length)) (((catTo v w w.length).length + 7) / 8) else []
theorem okW {w : List Int} {i : Nat} (h : badW w i = false) : 1 ≤ el w i ∧ el w i ≤ 64 := by
  unfold badW at h; simp at h; omega
theorem catTo_length (v w : List Int) (i : Nat) (h : ∀ j, j < i → badW w j = false) : ((catTo v w i).length : Int) = sumTo w i := by
  induction i with
  | zero => rfl
  | succ i ih =>
    have := okW (h i (by omega))
    simp only [catTo, sumTo, List.length_append, numB_length]
    rw [← ih (fun j hj => h j (by omega))]
    omega
theorem catTo_bits (v w : List Int) (i : Nat) : Bits (el (catTo v w i)) := by
  induction i with
  | zero => intro k; simp [catTo, el]
  | succ i ih => exact ih.append (numB_bits _ _)
theorem sumTo_ok {w : List Int} {i : Nat} (h : ∀ j, j < i → badW w j = false) : 0 ≤ sumTo w i ∧ sumTo w i ≤ 64 * i := by
  induction i with
  | zero => simp [sumTo]
  | succ i ih =>
    have := okW (h i (by omega))
    have := ih (fun j hj => h j (by omega))
    simp only [sumTo]; omega
theorem sumTo_mono {w : List Int} {i j : Nat} (hij : i ≤ j) (h : ∀ k, k < j → badW w k = false) : sumTo w i ≤ sumTo w j := by
  induction j with
  | zero => obtain rfl : i = 0 := (by omega); exact Int.le_refl _
  | succ j ih =>
    by_cases he : i = j + 1
    · subst he; exact Int.le_refl _
    · have := okW (h j (by omega))
      have := ih (by omega) (fun k hk => h k (by omega))
      simp only [sumTo]; omega

/-- One number more put into what is joined. -/
theorem join_step (v w : List Int) (i M : Nat) (hok : ∀ j, j < i + 1 → badW w j = false) (hM : sumTo w (i + 1) ≤ 8 * (M : Int)) :
    putV (bytesF (el (catTo v w i)) M) (sumTo w i) (el w i) (el v i) = bytesF (el (catTo v w (i + 1))) M := by
  have hw := okW (hok i (by omega))
  have hs := sumTo_ok (w := w) (i := i) (fun j hj => hok j (by omega))
  have hl := catTo_length v w i (fun j hj => hok j (by omega))
  simp only [sumTo] at hM
  have hb : bfc M (sumTo w i) (el w i) = 0 := by unfold bfc; rw [if_neg (by omega), if_neg (by omega)]
  unfold putV
  rw [bytesF_length, if_pos hb]
  unfold putN
  rw [bytesF_length]
  refine bytesF_congr _ _ _ fun k hk => ?_
  unfold putF
  rw [bitAt_bytesF _ (catTo_bits _ _ _) _ _ hk]
  simp only [catTo]
  rw [el_append]
  by_cases h1 : k < (catTo v w i).length
  · rw [if_pos h1, if_neg (by omega)]
  · rw [if_neg h1, el_out (catTo v w i) k (by omega)]
    by_cases h2 : k < (sumTo w i).toNat + (el w i).toNat
    · rw [if_pos (by omega)]
      unfold numB
      rw [el_mk _ _ _ (by omega), show k - (sumTo w i).toNat = k - (catTo v w i).length from by omega]
    · rw [if_neg (by omega), el_out _ _ (by rw [numB_length]; omega)]

theorem sty_ints : SliceTy Try.prog 52 3 1 8 (.int .i64 0) := ⟨Try.underlying52, by kernel_rfl, rfl, by omega⟩
theorem zeros_bytesF (M : Nat) : List.replicate M (0 : Int) = bytesF (el []) M := by
  refine ext_el (by simp [bytesF_length]) fun i hi => ?_
  rw [List.length_replicate] at hi
  rw [show el (bytesF (el []) M) i = byteF (el []) i from el_mk _ _ _ hi]
  simp [byteF, el, List.getD, hi]

theorem Join_any (ao bo : Option Addr) (na ca nb cb : Nat) (v ws : List Int) (w : World) (hv : Rd w .u64 ao na ca v) (hw : Rd w .i64 bo nb cb ws) (hna : na ≤ 10000) (hnb : nb ≤ 10000) :
    Calls Try.prog 112 #[.slice ao na ca, .slice bo nb cb] w fun e w' => ∃ r, e = .returned (.tuple #[r, .agg #[.int .i64 (joinC na ws), .int .i64 (joinA na ws)]]) ∧ Mine w' w.heap.size 5 .u8 r (joinV v ws) ∧ Below w.heap.size w w' := by
  obtain rfl := hv.len
  obtain rfl := hw.len
  by_cases hlen : v.length = ws.length
  case neg =>
    have hq : ((v.length : Int) != ws.length) = true := by rw [bne_iff_ne]; omega
    have e1 : joinC v.length ws = 2 := by unfold joinC; rw [if_pos hlen]
    have e2 : joinA v.length ws = -1 := by unfold joinA; rw [if_pos hlen]
    have e3 : joinV v ws = [] := by unfold joinV; rw [e1]; rfl
    rw [e1, e2, e3]
    clear e1 e2 e3
    go_enter Try.func112, Try.ntmps112
    go_wp2_with fail
    exact bodyPost_ret (v := .tuple #[.slice none 0 0, .agg #[.int .i64 2, .int .i64 (-1)]]) (by simp [results, Try.results112, go_sem]) rfl ⟨_, rfl, Mine.nil _ _ _ _, by go_grown⟩
  have hq : ((v.length : Int) != ws.length) = false := by rw [hlen]; simp
  have Hlen := Lib.hid hlen
  clear hlen
  have hb1 : Below w.heap.size w (w.alloc (.cells #[.int .i64 0, .int .i64 0] 65)) := (Below.refl _ _).alloc (Nat.le_refl _) _
  have hw1 := hw.below hb1
  have hv1 := hv.below hb1
  go_enter Try.func112, Try.ntmps112
  go_wp2_with fail
  go_loop [6, 21] (fun n i => ∃ k : Nat, k ≤ ws.length ∧ (∀ j, j < k → badW ws j = false) ∧ i = .int .i64 k ∧ n = .int .i64 (sumTo ws k)) (fun _ i => ws.length - (intOf i).toNat)
  case atStart => exact ⟨0, Nat.zero_le _, fun j hj => absurd hj (Nat.not_lt_zero j), rfl, rfl⟩
  case round =>
    obtain ⟨k, hk, hok, rfl, rfl⟩ := hrel
    have hs := sumTo_ok hok
    have Hok := Lib.hid hok
    clear hok
    by_cases hl : k < ws.length
    · obtain ⟨b, off, rfl, hc⟩ := hw1.here (by omega)
      have hck := hc k hl
      clear hc
      by_cases hbad : badW ws k = true
      · have e1 : joinC v.length ws = 6 := by unfold joinC; rw [if_neg (by simpa using Hlen.out), firstN_eq _ _ k Hok.out hbad hl, if_pos hl]
        have e2 : joinA v.length ws = k := by unfold joinA; rw [if_neg (by simpa using Hlen.out), firstN_eq _ _ k Hok.out hbad hl, if_pos hl]
        have e3 : joinV v ws = [] := by unfold joinV; rw [e1]; rfl
        have E1 := Lib.hid e1
        have E2 := Lib.hid e2
        have E3 := Lib.hid e3
        clear e1 e2 e3
        unfold badW at hbad
        simp only [decide_eq_true_eq] at hbad
        rcases hbad with hbad | hbad
        all_goals
          go_wp2_with fail
          exact bodyPost_ret (v := .tuple #[.slice none 0 0, .agg #[.int .i64 6, .int .i64 k]]) (by simp [results, Try.results112, go_sem]) rfl ⟨_, by rw [E1.out, E2.out], by rw [E3.out]; exact Mine.nil _ _ _ _, by go_grown⟩
      · have hgood : badW ws k = false := by simpa using hbad
        have hkk := okW hgood
        have hrel2 : Hid (∀ j, j < k + 1 → badW ws j = false) := fun j hj => by
          by_cases h : j = k
          · subst h; exact hgood
          · exact Hok.out j (by omega)
        have hss : Hid (sumTo ws (k + 1) = sumTo ws k + el ws k) := rfl
        clear hbad hgood
        go_wp2_with fail
        go_round
        case rel => exact ⟨k + 1, by omega, hrel2.out, by go_num, by rw [hss.out]⟩
        case measure => simp [intOf]; omega
    · obtain rfl : k = ws.length := by omega
      have hcl := catTo_length v ws ws.length Hok.out
      have hC : joinC v.length ws = 0 := by unfold joinC; rw [if_neg (by simpa using Hlen.out), firstN_none _ _ Hok.out, if_neg (by omega)]
      have hA : joinA v.length ws = 0 := by unfold joinA; rw [if_neg (by simpa using Hlen.out), firstN_none _ _ Hok.out, if_neg (by omega)]
      obtain ⟨M, hM⟩ : ∃ M : Nat, (M : Int) = (sumTo ws ws.length + 7) / 8 := ⟨((sumTo ws ws.length + 7) / 8).toNat, by omega⟩
      have hV : joinV v ws = bytesF (el (catTo v ws ws.length)) M := by unfold joinV; rw [if_pos hC]; congr 1; omega
      have HC := Lib.hid hC
      have HA := Lib.hid hA
      have HV := Lib.hid hV
      have hMb : M ≤ 100000 := by omega
      have hM8 : sumTo ws ws.length ≤ 8 * (M : Int) := by omega
      have hMe : (sumTo ws ws.length + 7) / 8 = (M : Int) := hM.symm
      clear hC hA hV hM hcl
      go_wp2_with (at_make; refine wpList_make_ints rfl _ _ 77 rfl sty_bytes rfl .i64 .i64 _ _ M rfl rfl hMe hMe (by omega) (by omega) ?_; intro w2 hm2 hb2)
      have hB2 := hb1.trans (hb2.mono hb1.size)
      have hF2 : Below (w.alloc (.cells #[.int .i64 0, .int .i64 0] 65)).heap.size (w.alloc (.cells #[.int .i64 0, .int .i64 0] 65)) w2 := hb2
      rw [zeros_bytesF M] at hm2
      have hsz : (w.alloc (.cells #[.int .i64 0, .int .i64 0] 65)).heap.size = w.heap.size + 1 := by simp
      have Hsz := Lib.hid hsz
      rw [hsz] at hm2
      clear hsz
      have hgt : w.heap.size < (w.alloc (.cells #[.int .i64 0, .int .i64 0] 65)).heap.size := by simp
      generalize hW1 : w.alloc (.cells #[.int .i64 0, .int .i64 0] 65) = w1 at *
      have hst : Mine w2 (w.heap.size + 1) 5 .u8 (.slice (some ⟨w.heap.size + 1, 0, none⟩) M M) (bytesF (el (catTo v ws 0)) M) := hm2
      clear hm2 hMe
      have HW1 := Lib.hid hW1
      clear hW1
      go_loopw [9, 10, 44] (fun r at_ i wr => ∃ k : Nat, k ≤ ws.length ∧ i = .int .i64 k ∧ at_ = .int .i64 (sumTo ws k) ∧ Mine wr (w.heap.size + 1) 5 .u8 r (bytesF (el (catTo v ws k)) M) ∧ Below w1.heap.size w1 wr) (fun _ _ i _ => ws.length - (intOf i).toNat)
      case atStart => exact ⟨0, Nat.zero_le _, rfl, rfl, hst, hF2⟩
      case round =>
        clear hst hF2
        obtain ⟨k, hk, rfl, rfl, hm, hbr⟩ := hrel
        have hokk := sumTo_ok (w := ws) (i := k) (fun j hj => Hok.out j (by omega))
        obtain ⟨ar, cr, rfl, hrr, _⟩ := hm.rd
        rw [bytesF_length] at *
        by_cases hl : k < ws.length
        · have hkk := okW (Hok.out k hl)
          have hmo := sumTo_mono (i := k + 1) (j := ws.length) (by omega) Hok.out
          have hmo' : sumTo ws k + el ws k ≤ sumTo ws ws.length := hmo
          obtain ⟨b, off, rfl, hc⟩ := (hw1.below hbr).here (by omega)
          have hck := hc k hl
          obtain ⟨b', off', e', hc'⟩ := (hv1.below hbr).here (by have := Hlen.out; omega)
          have hckv := hc' k (by have := Hlen.out; omega)
          have hvr := hv1.fit.el_u64 k
          have HJ := Lib.hid (join_step v ws k M (fun j hj => Hok.out j (by omega)) (by have : sumTo ws (k + 1) = sumTo ws k + el ws k := rfl; omega))
          have hlv : (k : Int) < v.length := by have := Hlen.out; omega
          subst e'
          clear hc hc' hmo
          go_wp2_with fail
          refine (Put_any _ _ _ _ _ _ _ _ hrr (by omega) (Fits.of_i64 (by omega) (by omega)) (Fits.of_i64 (by omega) (by omega)) (Fits.of_u64 hvr.1 hvr.2)).mono ?_
          rintro e w3 ⟨r3, rfl, hm3, hb3⟩
          rw [HJ.out] at hm3
          have hbr3 := hbr.trans (hb3.mono hbr.size)
          have hm3' := hm3.base_le (base' := w.heap.size + 1) (by have := Hsz.out; have := hbr.size; omega)
          clear hm hm3 hb3 hrr
          go_wp2_with fail
          go_roundw
          case rel => exact ⟨k + 1, by omega, by go_num, rfl, hm3', hbr3⟩
          case measure => simp [intOf]; omega
        · obtain rfl : k = ws.length := by omega
          have hF := hbr
          have e1 := HW1.out
          subst e1
          obtain ⟨hc0, hc1, hf0, hf1, hz, hB⟩ := two_facts hF
          rw [← HV.out] at hm
          clear hbr hF hb2 hrr
          go_wp2_with fail
          exact bodyPost_ret (v := .tuple #[.slice ar M cr, .agg #[.int .i64 0, .int .i64 0]]) (by simp [results, Try.results112, go_sem, hc0, hc1]) rfl
            ⟨_, by rw [HC.out, HA.out], ((hm.setLow (by simp) _).setLow (by simp) _).base_le (by omega), by go_grown⟩

end Go.Proofs.Ytfakdapglbgokaa
