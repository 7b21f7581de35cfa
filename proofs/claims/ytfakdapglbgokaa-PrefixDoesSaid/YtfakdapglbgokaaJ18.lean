/-
  Texts joined: XPfxL XPfxM XLongA XPfxN XLongC XLongB XLongD XPfxO. No condition.
-/
import Derived.Test.YtfakdapglbgokaaJ8
import Derived.Test.YtfakdapglbgokaaI5
import Derived.Test.YtfakdapglbgokaaI17
/-
  Package prefix, plain: what stands in allF. No condition.
-/
namespace Go.Proofs.Ytfakdapglbgokaa
set_option linter.all false
open Go.RowKit
/-- An entry as it is kept. -/
def ce (W i : Nat) (v : Int) (x : Int × List Int) : Entry := ⟨[v * 2 ^ (W - i)], [], i, 0, x.1, x.2⟩
theorem mem_entL {E : Nat → Int → Option (Int × List Int)} {W i : Nat} {v : Int} {e : Entry} : e ∈ entL E W i v ↔ ∃ x, E i v = some x ∧ e = ce W i v x := by
  unfold entL ce
  cases E i v <;> simp
theorem ediv_pow (u : Int) (a : Nat) : u / 2 ^ (a + 1) = u / 2 ^ a / 2 := by
  have hp : (0 : Int) ≤ 2 ^ a := Int.pow_nonneg (by decide)
  rw [Int.pow_succ]
  first | exact (Int.ediv_ediv_of_nonneg hp).symm | exact (Int.ediv_ediv hp).symm | exact (Int.ediv_ediv_eq_ediv_mul _ hp).symm
theorem mem_allF {E : Nat → Int → Option (Int × List Int)} {W : Nat} : ∀ (d i : Nat) (v : Int) (e : Entry), e ∈ allF E W d i v ↔ ∃ (j : Nat) (u : Int) (x : Int × List Int), i ≤ j ∧ j ≤ i + d ∧ u / 2 ^ (j - i) = v ∧ E j u = some x ∧ e = ce W j u x := by
  intro d
  induction d with
  | zero =>
    intro i v e
    rw [show allF E W 0 i v = entL E W i v from rfl, mem_entL]
    constructor
    · rintro ⟨x, h1, h2⟩
      exact ⟨i, v, x, Nat.le_refl _, Nat.le_refl _, by simp, h1, h2⟩
    · rintro ⟨j, u, x, h1, h2, h3, h4, h5⟩
      obtain rfl : j = i := by omega
      simp at h3
      subst h3
      exact ⟨x, h4, h5⟩
  | succ d ih =>
    intro i v e
    rw [show allF E W (d + 1) i v = entL E W i v ++ (allF E W d (i + 1) (2 * v) ++ allF E W d (i + 1) (2 * v + 1)) from rfl, List.mem_append, List.mem_append, mem_entL, ih, ih]
    have key : ∀ (j : Nat) (u : Int), i + 1 ≤ j → u / 2 ^ (j - i) = u / 2 ^ (j - (i + 1)) / 2 := fun j u hj => by
      rw [← ediv_pow, show j - (i + 1) + 1 = j - i by omega]
    constructor
    · rintro (⟨x, h1, h2⟩ | ⟨j, u, x, h1, h2, h3, h4, h5⟩ | ⟨j, u, x, h1, h2, h3, h4, h5⟩)
      · exact ⟨i, v, x, Nat.le_refl _, by omega, by simp, h1, h2⟩
      · exact ⟨j, u, x, by omega, by omega, by rw [key j u h1, h3]; omega, h4, h5⟩
      · exact ⟨j, u, x, by omega, by omega, by rw [key j u h1, h3]; omega, h4, h5⟩
    · rintro ⟨j, u, x, h1, h2, h3, h4, h5⟩
      by_cases hj : j = i
      · subst hj
        simp at h3
        subst h3
        exact .inl ⟨x, h4, h5⟩
      · rw [key j u (by omega)] at h3
        generalize hc : u / 2 ^ (j - (i + 1)) = c at h3
        rcases (show c = 2 * v ∨ c = 2 * v + 1 by omega) with e | e
        · exact .inr (.inl ⟨j, u, x, by omega, by omega, by rw [hc, e], h4, h5⟩)
        · exact .inr (.inr ⟨j, u, x, by omega, by omega, by rw [hc, e], h4, h5⟩)
theorem entL_len (E : Nat → Int → Option (Int × List Int)) (W i : Nat) (v : Int) : (entL E W i v).length = (E i v).toList.length := by
  unfold entL
  cases E i v <;> rfl
/-- Does a place lie below a beginning? -/
def under (d i : Nat) (v : Int) (j : Nat) (u : Int) : Prop := i ≤ j ∧ j ≤ i + d ∧ u / 2 ^ (j - i) = v
instance (d i : Nat) (v : Int) (j : Nat) (u : Int) : Decidable (under d i v j u) := by unfold under; infer_instance
/-- How many entries there are, when one is said anew. -/
theorem len_allF (E : Nat → Int → Option (Int × List Int)) (W : Nat) (j : Nat) (u : Int) (y : Option (Int × List Int)) : ∀ (d i : Nat) (v : Int),
    (allF (entSet E j u y) W d i v).length + (if under d i v j u then (E j u).toList.length else 0) = (allF E W d i v).length + (if under d i v j u then y.toList.length else 0) := by
  have here : ∀ i v, (j = i ∧ u = v) → entSet E j u y i v = y := fun i v h => by unfold entSet; rw [if_pos ⟨h.1.symm, h.2.symm⟩]
  have away : ∀ i v, ¬ (j = i ∧ u = v) → entSet E j u y i v = E i v := fun i v h => by unfold entSet; rw [if_neg fun h2 => h ⟨h2.1.symm, h2.2.symm⟩]
  intro d
  induction d with
  | zero =>
    intro i v
    rw [show ∀ E, allF E W 0 i v = entL E W i v from fun _ => rfl, show ∀ E, allF E W 0 i v = entL E W i v from fun _ => rfl, entL_len, entL_len]
    by_cases h : j = i ∧ u = v
    · rw [here i v h]
      obtain ⟨rfl, rfl⟩ := h
      rw [if_pos (by unfold under; simp), if_pos (by unfold under; simp)]
      omega
    · rw [away i v h]
      have : ¬ under 0 i v j u := by
        rintro ⟨h1, h2, h3⟩
        obtain rfl : j = i := by omega
        simp at h3
        exact h ⟨rfl, h3⟩
      rw [if_neg this, if_neg this]
  | succ d ih =>
    intro i v
    have A := ih (i + 1) (2 * v)
    have B := ih (i + 1) (2 * v + 1)
    rw [show ∀ E, allF E W (d + 1) i v = entL E W i v ++ (allF E W d (i + 1) (2 * v) ++ allF E W d (i + 1) (2 * v + 1)) from fun _ => rfl, show ∀ E, allF E W (d + 1) i v = entL E W i v ++ (allF E W d (i + 1) (2 * v) ++ allF E W d (i + 1) (2 * v + 1)) from fun _ => rfl]
    simp only [List.length_append, entL_len]
    by_cases hj : j ≤ i
    · have n1 : ∀ c, ¬ under d (i + 1) c j u := fun c h => by have := h.1; omega
      rw [if_neg (n1 _), if_neg (n1 _)] at A
      rw [if_neg (n1 _), if_neg (n1 _)] at B
      by_cases h : j = i ∧ u = v
      · rw [here i v h]
        obtain ⟨rfl, rfl⟩ := h
        rw [if_pos (by unfold under; simp), if_pos (by unfold under; simp)]
        omega
      · rw [away i v h]
        have : ¬ under (d + 1) i v j u := by
          rintro ⟨h1, h2, h3⟩
          obtain rfl : j = i := by omega
          simp at h3
          exact h ⟨rfl, h3⟩
        rw [if_neg this, if_neg this]
        omega
    · rw [away i v (by omega)]
      have hk : u / 2 ^ (j - i) = u / 2 ^ (j - (i + 1)) / 2 := by rw [← ediv_pow, show j - (i + 1) + 1 = j - i by omega]
      obtain ⟨c, hc⟩ : ∃ c, u / 2 ^ (j - (i + 1)) = c := ⟨_, rfl⟩
      rw [hc] at hk
      have hA : under d (i + 1) (2 * v) j u ↔ j ≤ i + 1 + d ∧ c = 2 * v := by unfold under; rw [hc]; exact ⟨fun h => ⟨h.2.1, h.2.2⟩, fun h => ⟨by omega, h.1, h.2⟩⟩
      have hB : under d (i + 1) (2 * v + 1) j u ↔ j ≤ i + 1 + d ∧ c = 2 * v + 1 := by unfold under; rw [hc]; exact ⟨fun h => ⟨h.2.1, h.2.2⟩, fun h => ⟨by omega, h.1, h.2⟩⟩
      have hG : under (d + 1) i v j u ↔ j ≤ i + 1 + d ∧ c / 2 = v := by unfold under; rw [hk]; exact ⟨fun h => ⟨by omega, h.2.2⟩, fun h => ⟨by omega, by omega, h.2⟩⟩
      simp only [hA] at A
      simp only [hB] at B
      simp only [hG]
      by_cases hd : j ≤ i + 1 + d
      · by_cases h0 : c = 2 * v
        · rw [if_pos ⟨hd, h0⟩, if_pos ⟨hd, h0⟩] at A
          rw [if_neg (by omega), if_neg (by omega)] at B
          rw [if_pos ⟨hd, by omega⟩, if_pos ⟨hd, by omega⟩]
          omega
        · by_cases h1 : c = 2 * v + 1
          · rw [if_neg (by omega), if_neg (by omega)] at A
            rw [if_pos ⟨hd, h1⟩, if_pos ⟨hd, h1⟩] at B
            rw [if_pos ⟨hd, by omega⟩, if_pos ⟨hd, by omega⟩]
            omega
          · rw [if_neg (by omega), if_neg (by omega)] at A
            rw [if_neg (by omega), if_neg (by omega)] at B
            rw [if_neg (by omega), if_neg (by omega)]
            omega
      · rw [if_neg (by omega), if_neg (by omega)] at A
        rw [if_neg (by omega), if_neg (by omega)] at B
        rw [if_neg (by omega), if_neg (by omega)]
        omega
end Go.Proofs.Ytfakdapglbgokaa

/-
  Package prefix, plain: what stays true of a table. No condition.
-/
namespace Go.Proofs.Ytfakdapglbgokaa
set_option linter.all false
open Go.RowKit
/-- A table's count, and what it says. -/
structure PInv (W : Nat) (n : Int) (E : PE) : Prop where
  cnt : n = ((allF E W W 0 0).length : Int)
  ok : ∀ i v x, E i v = some x → i ≤ W ∧ 0 ≤ v ∧ v < 2 ^ i ∧ x.2.length ≤ 1000 ∧ AllFit .u64 x.2 ∧ Fits .i64 x.1
theorem PInv.none (W : Nat) : PInv W 0 noE := by
  refine ⟨?_, fun i v x h => by cases h⟩
  have : allF noE W W 0 0 = [] := by
    apply List.eq_nil_iff_forall_not_mem.2
    intro e he
    obtain ⟨j, u, x, _, _, _, h, _⟩ := (mem_allF W 0 0 e).1 he
    cases h
  rw [this]; rfl
theorem under_top {W j : Nat} {u : Int} (hj : j ≤ W) (h0 : 0 ≤ u) (h1 : u < 2 ^ j) : under W 0 0 j u := ⟨Nat.zero_le _, by omega, Int.ediv_eq_zero_of_lt h0 (by simpa using h1)⟩
theorem PInv.add {W : Nat} {n most : Int} {E : PE} (h : PInv W n E) {key k act : Int} {args : List Int} (h0 : 0 ≤ key) (ha : args.length ≤ 1000) (hf : AllFit .u64 args) (hact : Fits .i64 act) :
    PInv W (pfxAddN W most n E key k) (pfxAddE W most n E key k act args) ∧ (n ≤ most → pfxAddN W most n E key k ≤ most) := by
  by_cases hc : pfxAddC W most n E key k = 0
  · obtain ⟨e1, e2⟩ := pfxAdd_yes hc act args
    rw [e1, e2]
    unfold pfxAddC at hc
    split at hc
    · cases hc
    rename_i hp
    split at hc
    · cases hc
    rename_i hn
    split at hc
    · cases hc
    rename_i hm
    have hp2 : pfits W key k = true := by simpa using hp
    obtain ⟨W', K, e3, rfl, hW1, hW2, hK, hlt, _⟩ := pfits_true hp2
    obtain rfl : W = W' := by omega
    simp only [Int.toNat_natCast] at hn ⊢
    have hn2 : E K (pre W key K) = Option.none := by simpa using hn
    have l1 := pre_nonneg (W := W) h0 K
    have l2 := pre_lt hlt hK
    refine ⟨⟨?_, ?_⟩, fun _ => by omega⟩
    · have := len_allF E W K (pre W key K) (some (act, args)) W 0 0
      rw [if_pos (under_top hK l1 l2), if_pos (under_top hK l1 l2), hn2] at this
      simp at this
      rw [h.cnt]; omega
    · intro i v x hx
      unfold entSet at hx
      split at hx
      · rename_i e
        obtain ⟨rfl, rfl⟩ := e
        cases hx
        exact ⟨hK, l1, l2, ha, hf, hact⟩
      · exact h.ok i v x hx
  · obtain ⟨e1, e2⟩ := pfxAdd_no hc act args
    rw [e1, e2]
    exact ⟨h, fun h => h⟩
theorem PInv.drop {W : Nat} {n : Int} {E : PE} (h : PInv W n E) {key k : Int} (h0 : 0 ≤ key) :
    PInv W (pfxDropN W n E key k) (pfxDropE W E key k) ∧ pfxDropN W n E key k ≤ n := by
  by_cases hc : pfxDropC W E key k = 0
  · obtain ⟨e1, e2⟩ := pfxDrop_yes (n := n) hc
    rw [e1, e2]
    unfold pfxDropC at hc
    split at hc
    · cases hc
    rename_i hp
    split at hc
    case isFalse => cases hc
    rename_i hn
    have hp2 : pfits W key k = true := by simpa using hp
    obtain ⟨W', K, e3, rfl, hW1, hW2, hK, hlt, _⟩ := pfits_true hp2
    obtain rfl : W = W' := by omega
    simp only [Int.toNat_natCast] at hn ⊢
    obtain ⟨x, hx⟩ := Option.isSome_iff_exists.1 hn
    have l1 := pre_nonneg (W := W) h0 K
    have l2 := pre_lt hlt hK
    refine ⟨⟨?_, ?_⟩, by omega⟩
    · have := len_allF E W K (pre W key K) Option.none W 0 0
      rw [if_pos (under_top hK l1 l2), if_pos (under_top hK l1 l2), hx] at this
      simp at this
      rw [h.cnt]; omega
    · intro i v x hx
      unfold entSet at hx
      split at hx
      · cases hx
      · exact h.ok i v x hx
  · obtain ⟨e1, e2⟩ := pfxDrop_no (n := n) hc
    rw [e1, e2]
    exact ⟨h, Int.le_refl _⟩
end Go.Proofs.Ytfakdapglbgokaa

/-
  PrefixLongest, in the plain machine: the steps. No condition.
-/
namespace Go.Proofs.Ytfakdapglbgokaa
set_option linter.all false
open Go.RowKit
def kof (e : Entry) : Int := if e.keys = [] then 0 else el e.keys 0
theorem oneK_keys (e : Entry) : (oneK e).keys = [kof e] := by
  unfold oneK kof el
  cases h : e.keys with
  | nil => simp
  | cons x xs => simp
theorem oneK_eq (e : Entry) : oneK e = ⟨[kof e], [], e.len, 0, e.act, e.args⟩ := by
  have := oneK_keys e
  unfold oneK at this ⊢
  simp only at this
  rw [this]
structure FitE (e : Entry) : Prop where
  keys : AllFit .u64 e.keys
  args : AllFit .u64 e.args
  len : Fits .i64 e.len
  act : Fits .i64 e.act
theorem FitE.kof {e : Entry} (h : FitE e) : Fits .u64 (kof e) := by
  unfold Ytfakdapglbgokaa.kof el
  cases hk : e.keys with
  | nil => simp; exact Fits.of_u64 (by decide) (by decide)
  | cons x xs => simp; exact h.keys x (by rw [hk]; simp)
/-- A step of the table. -/
def pstep (W : Int) (st : Int × PE) (s : TStep) : Int × PE :=
  if s.d = 2 then (pfxDropN W st.1 st.2 (kof s.e) s.e.len, pfxDropE W st.2 (kof s.e) s.e.len)
  else (pfxAddN W 100 st.1 st.2 (kof s.e) s.e.len, pfxAddE W 100 st.1 st.2 (kof s.e) s.e.len s.e.act s.e.args)
def pstate (W : Int) (l : List TStep) : Int × PE := l.foldl (pstep W) (0, noE)
theorem pstep_inv {W : Nat} {st : Int × PE} {s : TStep} (h : PInv W st.1 st.2 ∧ st.1 ≤ 100) (hf : FitE s.e) (ha : s.e.args.length ≤ 20) : PInv W (pstep W st s).1 (pstep W st s).2 ∧ (pstep W st s).1 ≤ 100 := by
  unfold pstep
  have h0 := hf.kof.u64.1
  split
  · have := h.1.drop (key := kof s.e) (k := s.e.len) h0
    exact ⟨this.1, by have := this.2; have := h.2; simp only; omega⟩
  · have := h.1.add (most := 100) (key := kof s.e) (k := s.e.len) h0 (by omega) hf.args hf.act
    exact ⟨this.1, this.2 h.2⟩
end Go.Proofs.Ytfakdapglbgokaa

/-
  Package prefix, plain: the longest beginning counts. No condition.
-/
namespace Go.Proofs.Ytfakdapglbgokaa
set_option linter.all false
open Go.RowKit

theorem and_low {v : Int} (h0 : 0 ≤ v) (h1 : v ≤ 18446744073709551615) {m : Nat} (hm : m ≤ 64) : bits .and .u64 v (2 ^ m - 1) = v % 2 ^ m := by
  rcases Nat.eq_zero_or_pos m with rfl | hp
  · obtain ⟨a, rfl⟩ := Int.eq_ofNat_of_zero_le h0
    have := u64_and_nat a 0 (by omega) (by omega)
    simp at this ⊢; exact this
  · have := and_ones v m h0 h1 (by omega) (by omega)
    rw [show ones m = 2 ^ m - 1 by unfold ones onesN; rw [if_pos (by omega)]; simp] at this
    simpa using this
theorem low_key {W i : Nat} {key : Int} (h0 : 0 ≤ key) (h1 : key ≤ 18446744073709551615) (hW : W ≤ 64) : IntKind.u64.wrap (key - bits .and .u64 key (2 ^ (W - i) - 1)) = pre W key i * 2 ^ (W - i) := by
  rw [and_low h0 h1 (by omega)]
  have hp : (0 : Int) < 2 ^ (W - i) := pow_pos_ _
  have a1 := Int.emod_nonneg key (Int.ne_of_gt hp)
  have a2 := Int.emod_add_mul_ediv key (2 ^ (W - i))
  have a3 : 0 ≤ key / 2 ^ (W - i) := Int.ediv_nonneg h0 (Int.le_of_lt hp)
  have a4 : 0 ≤ 2 ^ (W - i) * (key / 2 ^ (W - i)) := Int.mul_nonneg (Int.le_of_lt hp) a3
  unfold pre
  rw [Int.mul_comm (key / 2 ^ (W - i))]
  rw [u64_in_ (by omega) (by omega)]
  omega
/-- Has a key the beginning of an entry? -/
def hasBeg (W : Nat) (key : Int) (e : Entry) : Prop := el e.keys 0 = pre W key e.len.toNat * 2 ^ (W - e.len.toNat)
/-- The best of the first i entries. -/
def BestI (W : Nat) (key : Int) (l : List Entry) (i : Nat) (b : Int) : Prop :=
  (b = -1 ∧ ∀ j e, j < i → l[j]? = some e → ¬ hasBeg W key e) ∨ ∃ (k : Nat) (e : Entry), b = k ∧ k < i ∧ l[k]? = some e ∧ hasBeg W key e ∧ ∀ j e', j < i → l[j]? = some e' → hasBeg W key e' → e'.len ≤ e.len
theorem hasBeg_ce {W j : Nat} {key u : Int} {x : Int × List Int} : hasBeg W key (ce W j u x) ↔ u = pre W key j := by
  have e1 : el (ce W j u x).keys 0 = u * 2 ^ (W - j) := by simp [ce, el]
  have e2 : (ce W j u x).len.toNat = j := by simp [ce]
  unfold hasBeg
  rw [e1, e2]
  exact ⟨fun h => Int.eq_of_mul_eq_mul_right (Int.ne_of_gt (pow_pos_ _)) h, fun h => by rw [h]⟩
theorem mem_all0 {W : Nat} {E : PE} {n : Int} (h : PInv W n E) {e : Entry} : e ∈ allF E W W 0 0 ↔ ∃ (j : Nat) (u : Int) (x : Int × List Int), j ≤ W ∧ E j u = some x ∧ e = ce W j u x := by
  rw [mem_allF]
  constructor
  · rintro ⟨j, u, x, h1, h2, h3, h4, h5⟩
    exact ⟨j, u, x, by omega, h4, h5⟩
  · rintro ⟨j, u, x, h1, h2, h3⟩
    obtain ⟨k1, k2, k3, _⟩ := h.ok j u x h2
    exact ⟨j, u, x, by omega, by omega, Int.ediv_eq_zero_of_lt k2 (by simpa using k3), h2, h3⟩
theorem find_best {W : Nat} {E : PE} {n key b : Int} (h : PInv W n E) (hW1 : 1 ≤ W) (hW : W ≤ 64) (h0 : 0 ≤ key) (h1 : key < 2 ^ W) (hb : BestI W key (allF E W W 0 0) (allF E W W 0 0).length b) :
    (b = -1 ∧ pfxFind (W : Int) E key = none) ∨ ∃ (k : Nat) (e : Entry), b = k ∧ (allF E W W 0 0)[k]? = some e ∧ pfxFind (W : Int) E key = some (e.len.toNat, e.act, e.args) ∧ 0 ≤ e.len := by
  have hf : pfits (W : Int) key (W : Int) = true := by
    unfold pfits
    refine decide_eq_true ⟨by omega, by omega, by omega, by omega, by simpa using h1, by simp⟩
  have mem : ∀ j, j < W + 1 → hasE E W key j = true → ∃ x, E j (pre W key j) = some x ∧ ∃ i : Nat, i < (allF E W W 0 0).length ∧ (allF E W W 0 0)[i]? = some (ce W j (pre W key j) x) := by
    intro j hj he
    obtain ⟨x, hx⟩ := Option.isSome_iff_exists.1 (show (E j (pre W key j)).isSome = true from he)
    have hm := (mem_all0 h (e := ce W j (pre W key j) x)).2 ⟨j, _, x, by omega, hx, rfl⟩
    obtain ⟨i, hi⟩ := List.getElem?_of_mem hm
    exact ⟨x, hx, i, (List.getElem?_eq_some_iff.1 hi).1, hi⟩
  have hF : pfxFind (W : Int) E key = match lastN (hasE E W key) (W + 1) with
    | none => none
    | some i => (E i (pre W key i)).map fun x => (i, x.1, x.2) := by
    unfold pfxFind; rw [if_pos hf]; rfl
  rw [hF]
  rcases hb with ⟨rfl, hb⟩ | ⟨k, e, rfl, hk, he, hm, hbest⟩
  · refine .inl ⟨rfl, ?_⟩
    cases hl : lastN (hasE E W key) (W + 1) with
    | none => rfl
    | some i =>
      obtain ⟨l1, l2, _⟩ := lastN_some hl
      obtain ⟨x, _, j, hj, hj2⟩ := mem i l1 l2
      exact absurd (hasBeg_ce.2 rfl) (hb j _ hj hj2)
  · refine .inr ⟨k, e, rfl, he, ?_⟩
    obtain ⟨j, u, x, hj, hx, rfl⟩ := (mem_all0 h).1 (List.mem_of_getElem? he)
    obtain rfl := hasBeg_ce.1 hm
    have hh : hasE E W key j = true := by unfold hasE; rw [hx]; rfl
    cases hl : lastN (hasE E W key) (W + 1) with
    | none => have := lastN_none hl j (by omega); rw [hh] at this; cases this
    | some i =>
      obtain ⟨l1, l2, l3⟩ := lastN_some hl
      have e1 : i = j := by
        rcases Nat.lt_trichotomy i j with h2 | h2 | h2
        · have := l3 j h2 (by omega); rw [hh] at this; cases this
        · exact h2
        · obtain ⟨y, _, m, hm2, hm3⟩ := mem i l1 l2
          have := hbest m _ hm2 hm3 (hasBeg_ce.2 rfl)
          simp [ce] at this; omega
      subst e1
      simp only
      rw [hx]
      exact ⟨rfl, by simp [ce]⟩
end Go.Proofs.Ytfakdapglbgokaa

/-
  PrefixLongest, in the plain machine: behind its first loop. No condition.
-/
namespace Go.Proofs.Ytfakdapglbgokaa
set_option linter.all false
open Go.RowKit
def c_plong_t : SCode := (.seq (.reg false c_plong_r14 [0, 2, 7]) (.seq (.reg false c_plong_r15 [0, 2, 7, 10, 11, 12]) (.seq (.reg false c_plong_r16 [0, 2, 10, 11, 12, 13]) (.seq (.reg false c_plong_r17 [0, 2, 10, 11, 12, 13, 14]) (.seq (.seq (.reg false c_plong_r18 [0, 2, 10, 11, 12, 13, 14, 15]) (.block 2 (.loop c_plong_l2))) (.seq (.seq (.reg false c_plong_r24 [10, 11, 12, 13, 14, 126]) (.cond (.t 126) (.seq (.reg false c_plong_r25 [6]) .ret) .skip)) (.seq (.reg true c_plong_r26 [6]) .ret)))))))
theorem plong_tail (X : Cx) (hP : X.P = Try.prog) (hm : X.m = 0) (W : Nat) (hW1 : 1 ≤ W) (hW2 : W ≤ 64) (key : Int) (hk : Fits .u64 key) (n : Int) (E : PE) (hpi : PInv W n E) (hn : n ≤ 100) :
    SWp X c_plong_t (QFun X (Try.f3).results.toList 0 (.bool true) []) ⟨[(0, .int .i64 W), (2, .int .u64 key), (7, .ptr 0 0)], [(0, .abs (pfxAbs W 100 n E))], 1⟩ := by
  have fin : ∀ hp nx, QFun X (Try.f3).results.toList 0 (.bool true) [] .ret ⟨[(6, .bool true)], hp, nx⟩ := fun hp nx =>
    (qfun_done (s' := ⟨[(6, .bool true)], [], 0⟩) (wk_list [] hm rfl (Nat.zero_le _) (by simp -implicitDefEqProofs [take_map_len, FrzOk, pureV_int, pureV_bool, pureV_str, pureV_nil, pureV_nilsl, pureV_view, pureV_cp, pureL_nil_, pureL_cons_, pureO_row, pureO_cells, frzS, frzH, frz, frz1, frz0, SlotsM, ObjsM, ObjM, rn, ren, ren1, ren0, gets, geth, co_self, co_int, co_own, co_view, co_nilsl, co_agg, co_tup, CoL, coll_self]) trivial) rfl trivial (by simp))
  have hw : Fits .i64 (W : Int) := Fits.of_i64 (by omega) (by omega)
  have hk0 := hk.u64
  unfold c_plong_t
  refine swp_seq (swp_reg ?_)
  rw [hP]
  simp -implicitDefEqProofs [c_plong_r14, sops_nil, sops_run, sopsk_some, sops_call, sops_guard, sopsg_yes, sopsg_tf, sopsg_ft, sopsg_undef, rg_true, SOp.run, SX.ev, putd, puts, argS, upds, SOp.touch, SSt.keep, SSt.skip, gets, geth, puth, delh, idOf, SV.cells?, setL, fillS, fillR, sbin, eq0, eq1, eqL, rowOf, qseq_n, qseq_e, qseq_r, qblock_n, qblock_r, qblock_e, qloop_e, qloop_r]
  refine call_q (scalls_q (ones_s W) (fun σ => rfl) (fun σ => rfl) rfl _) ?_
  simp -implicitDefEqProofs [sops_nil, sops_run, sopsk_some, sops_call, sops_guard, sopsg_yes, sopsg_tf, sopsg_ft, sopsg_undef, rg_true, SOp.run, SX.ev, putd, puts, argS, upds, SOp.touch, SSt.keep, SSt.skip, gets, geth, puth, delh, idOf, SV.cells?, setL, fillS, fillR, sbin, eq0, eq1, eqL, rowOf, qseq_n, qseq_e, qseq_r, qblock_n, qblock_r, qblock_e, qloop_e, qloop_r]
  have e1 : bits .and .u64 key (if (W : Int) ≤ 64 then 2 ^ (W : Int).toNat - 1 else 0) = key % 2 ^ W := by
    rw [if_pos (by omega)]
    exact and_low hk0.1 hk0.2 hW2
  simp only [Int.toNat_natCast] at e1 ⊢
  rw [e1]
  have hp : (0 : Int) < 2 ^ W := pow_pos_ W
  have q0 : 0 ≤ key % 2 ^ W := Int.emod_nonneg _ (Int.ne_of_gt hp)
  have q1 : key % 2 ^ W < 2 ^ W := Int.emod_lt_of_pos _ hp
  have q2 : (2 : Int) ^ W ≤ 18446744073709551616 := by
    have := two_pow_mono hW2; simpa using this
  generalize key % 2 ^ W = key2 at *
  clear e1
  have hk2 : Fits .u64 key2 := Fits.of_u64 (by omega) (by omega)
  refine swp_seq (swp_reg ?_)
  rw [hP]
  simp -implicitDefEqProofs [c_plong_r15, sops_nil, sops_run, sopsk_some, sops_call, sops_guard, sopsg_yes, sopsg_tf, sopsg_ft, sopsg_undef, rg_true, SOp.run, SX.ev, putd, puts, argS, upds, SOp.touch, SSt.keep, SSt.skip, gets, geth, puth, delh, idOf, SV.cells?, setL, fillS, fillR, sbin, eq0, eq1, eqL, rowOf, qseq_n, qseq_e, qseq_r, qblock_n, qblock_r, qblock_e, qloop_e, qloop_r]
  have hargs : ∀ i v x, E i v = some x → x.2.length ≤ 1000000 := fun i v x h => by have := (hpi.ok i v x h).2.2.2.1; omega
  refine call_o (pfxFind_s W 100 n E key2 hw hk2 hargs _ _) ⟨rfl, trivial⟩ ⟨rfl, trivial⟩ ?_
  simp -implicitDefEqProofs [sops_nil, sops_run, sopsk_some, sops_call, sops_guard, sopsg_yes, sopsg_tf, sopsg_ft, sopsg_undef, rg_true, SOp.run, SX.ev, putd, puts, argS, upds, SOp.touch, SSt.keep, SSt.skip, gets, geth, puth, delh, idOf, SV.cells?, setL, fillS, fillR, sbin, eq0, eq1, eqL, rowOf, qseq_n, qseq_e, qseq_r, qblock_n, qblock_r, qblock_e, qloop_e, qloop_r, mergeH, dels, adds, puth, delh, geth, idsH, findV, hcells, nums]
  refine swp_seq (swp_reg ?_)
  rw [hP]
  simp -implicitDefEqProofs [c_plong_r16, sops_nil, sops_run, sopsk_some, sops_call, sops_guard, sopsg_yes, sopsg_tf, sopsg_ft, sopsg_undef, rg_true, SOp.run, SX.ev, putd, puts, argS, upds, SOp.touch, SSt.keep, SSt.skip, gets, geth, puth, delh, idOf, SV.cells?, setL, fillS, fillR, sbin, eq0, eq1, eqL, rowOf, qseq_n, qseq_e, qseq_r, qblock_n, qblock_r, qblock_e, qloop_e, qloop_r]
  have hcnt := hpi.cnt
  refine call_o (pfxAll_s W 100 n E hW2 hargs (by omega) _ _) ⟨rfl, trivial⟩ ⟨rfl, trivial⟩ ?_
  simp -implicitDefEqProofs [sops_nil, sops_run, sopsk_some, sops_call, sops_guard, sopsg_yes, sopsg_tf, sopsg_ft, sopsg_undef, rg_true, SOp.run, SX.ev, putd, puts, argS, upds, SOp.touch, SSt.keep, SSt.skip, gets, geth, puth, delh, idOf, SV.cells?, setL, fillS, fillR, sbin, eq0, eq1, eqL, rowOf, qseq_n, qseq_e, qseq_r, qblock_n, qblock_r, qblock_e, qloop_e, qloop_r, mergeH, dels, adds, puth, delh, geth, idsH]
  refine swp_seq (swp_reg ?_)
  simp -implicitDefEqProofs [c_plong_r17, sops_nil, sops_run, sopsk_some, sops_call, sops_guard, sopsg_yes, sopsg_tf, sopsg_ft, sopsg_undef, rg_true, SOp.run, SX.ev, putd, puts, argS, upds, SOp.touch, SSt.keep, SSt.skip, gets, geth, puth, delh, idOf, SV.cells?, setL, fillS, fillR, sbin, eq0, eq1, eqL, rowOf, qseq_n, qseq_e, qseq_r, qblock_n, qblock_r, qblock_e, qloop_e, qloop_r]
  refine swp_seq (swp_seq (swp_reg ?_))
  simp -implicitDefEqProofs [c_plong_r18, sops_nil, sops_run, sopsk_some, sops_call, sops_guard, sopsg_yes, sopsg_tf, sopsg_ft, sopsg_undef, rg_true, SOp.run, SX.ev, putd, puts, argS, upds, SOp.touch, SSt.keep, SSt.skip, gets, geth, puth, delh, idOf, SV.cells?, setL, fillS, fillR, sbin, eq0, eq1, eqL, rowOf, qseq_n, qseq_e, qseq_r, qblock_n, qblock_r, qblock_e, qloop_e, qloop_r]
  have hLe : ∀ e ∈ allF E W W 0 0, ∃ (j : Nat) (v : Int), e.len = j ∧ j ≤ W ∧ e.keys = [v] ∧ e.args.length ≤ 1000 := by
    intro e he
    obtain ⟨j, u, x, h1, h2, rfl⟩ := (mem_all0 hpi).1 he
    exact ⟨j, _, rfl, h1, rfl, (hpi.ok _ _ _ h2).2.2.2.1⟩
  have hend := fun b => find_best (b := b) hpi hW1 hW2 q0 q1
  have hlen : (allF E W W 0 0).length ≤ 100 := by omega
  generalize allF E W W 0 0 = L at *
  generalize pfxFind (W : Int) E key2 = R at *
  refine swp_block (swp_loop (fun s n => ∃ (i : Nat) (b : Int), s = ⟨[(0, .int .i64 W), (2, .int .u64 key2), (10, .ptr 0 0), (11, .int .i64 (fLen R)), (12, .bool R.isSome), (13, ents L), (14, .int .i64 b), (15, .int .i64 i)], [(0, .cells 37 (hcells (fAct R) (fArgs R)))], 1⟩ ∧ i ≤ L.length ∧ BestI W key2 L i b ∧ n = L.length - i) (wk_list [(0, 27)] hm rfl (Nat.zero_le _) (by simp -implicitDefEqProofs [take_map_len, FrzOk, pureV_int, pureV_bool, pureV_str, pureV_nil, pureV_nilsl, pureV_view, pureV_cp, pureL_nil_, pureL_cons_, pureO_row, pureO_cells, frzS, frzH, frz, frz1, frz0, SlotsM, ObjsM, ObjM, rn, ren, ren1, ren0, gets, geth, co_self, co_int, co_own, co_view, co_nilsl, co_agg, co_tup, CoL, coll_self, ents]) (by simp -implicitDefEqProofs [take_map_len, FrzOk, pureV_int, pureV_bool, pureV_str, pureV_nil, pureV_nilsl, pureV_view, pureV_cp, pureL_nil_, pureL_cons_, pureO_row, pureO_cells, frzS, frzH, frz, frz1, frz0, SlotsM, ObjsM, ObjM, rn, ren, ren1, ren0, gets, geth, co_self, co_int, co_own, co_view, co_nilsl, co_agg, co_tup, CoL, coll_self, hcells, nums])) ⟨0, -1, rfl, by omega, .inl ⟨rfl, by intro j e hj; omega⟩, rfl⟩ ?_)
  rintro s n ⟨i, b, rfl, h1, h2, rfl⟩
  unfold c_plong_l2
  refine swp_seq (swp_seq (swp_reg ?_))
  simp -implicitDefEqProofs [c_plong_r19, sops_nil, sops_run, sopsk_some, sops_call, sops_guard, sopsg_yes, sopsg_tf, sopsg_ft, sopsg_undef, rg_true, SOp.run, SX.ev, putd, puts, argS, upds, SOp.touch, SSt.keep, SSt.skip, gets, geth, puth, delh, idOf, SV.cells?, setL, fillS, fillR, sbin, eq0, eq1, eqL, rowOf, qseq_n, qseq_e, qseq_r, qblock_n, qblock_r, qblock_e, qloop_e, qloop_r, ents]
  refine swp_cond rfl (fun h3 => swp_skip ?_) (fun h3 => swp_exit ?_)
  · have hi : i < L.length := by simpa using h3
    simp -implicitDefEqProofs [sops_nil, sops_run, sopsk_some, sops_call, sops_guard, sopsg_yes, sopsg_tf, sopsg_ft, sopsg_undef, rg_true, SOp.run, SX.ev, putd, puts, argS, upds, SOp.touch, SSt.keep, SSt.skip, gets, geth, puth, delh, idOf, SV.cells?, setL, fillS, fillR, sbin, eq0, eq1, eqL, rowOf, qseq_n, qseq_e, qseq_r, qblock_n, qblock_r, qblock_e, qloop_e, qloop_r]
    obtain ⟨j, v, hj, hjW, hv, ha⟩ := hLe L[i] (List.getElem_mem hi)
    have hsub : IntKind.i64.wrap ((W : Int) - (j : Int)) = ((W - j : Nat) : Int) := by
      rw [IntWalk.i64_in _ ⟨by omega, by omega⟩]; omega
    have hb64 : ((W - j : Nat) : Int) ≤ 64 := by omega
    have hlow := low_key (W := W) (i := j) hk2.u64.1 hk2.u64.2 hW2
    refine swp_seq (swp_block (swp_seq (swp_reg ?_)))
    rw [hP]
    simp -implicitDefEqProofs [c_plong_r20, sops_nil, sops_run, sopsk_some, sops_call, sops_guard, sopsg_yes, sopsg_tf, sopsg_ft, sopsg_undef, rg_true, SOp.run, SX.ev, putd, puts, argS, upds, SOp.touch, SSt.keep, SSt.skip, gets, geth, puth, delh, idOf, SV.cells?, setL, fillS, fillR, sbin, eq0, eq1, eqL, rowOf, qseq_n, qseq_e, qseq_r, qblock_n, qblock_r, qblock_e, qloop_e, qloop_r, hi, ecells, nums, hj, hsub]
    refine call_q (scalls_q (ones_s _) (fun σ => rfl) (fun σ => rfl) rfl _) ?_
    rw [if_pos hb64]
    simp -implicitDefEqProofs [sops_nil, sops_run, sopsk_some, sops_call, sops_guard, sopsg_yes, sopsg_tf, sopsg_ft, sopsg_undef, rg_true, SOp.run, SX.ev, putd, puts, argS, upds, SOp.touch, SSt.keep, SSt.skip, gets, geth, puth, delh, idOf, SV.cells?, setL, fillS, fillR, sbin, eq0, eq1, eqL, rowOf, qseq_n, qseq_e, qseq_r, qblock_n, qblock_r, qblock_e, qloop_e, qloop_r]
    have hbeg : hasBeg W key2 L[i] ↔ pre W key2 j * 2 ^ (W - j) = v := by
      unfold hasBeg; rw [hj, hv]; simp [el]; exact eq_comm
    -- the end of a round
    have next : ∀ (b' : Int) (nx : Nat) (tl : Sl), BestI W key2 L (i + 1) b' → SWp X (SCode.reg false c_plong_r23 [0, 2, 10, 11, 12, 13, 14, 15]) (QLoop X (fun s n => ∃ (i : Nat) (b : Int), s = ⟨[(0, .int .i64 W), (2, .int .u64 key2), (10, .ptr 0 0), (11, .int .i64 (fLen R)), (12, .bool R.isSome), (13, .view 6 (L.map ecells)), (14, .int .i64 b), (15, .int .i64 i)], [(0, .cells 37 (hcells (fAct R) (fArgs R)))], 1⟩ ∧ i ≤ L.length ∧ BestI W key2 L i b ∧ n = L.length - i) (L.length - i) (QBlock 2
            (QSeq X
              (((SCode.reg false c_plong_r24 [10, 11, 12, 13, 14, 126]).seq
                    (SCode.cond (SX.t 126) ((SCode.reg false c_plong_r25 [6]).seq SCode.ret) SCode.skip)).seq
                ((SCode.reg true c_plong_r26 [6]).seq SCode.ret))
              (QFun X [ResultVar.tmp 6] 0 (SV.bool true) [])))) ⟨[(0, .int .i64 W), (2, .int .u64 key2), (10, .ptr 0 0), (11, .int .i64 (fLen R)), (12, .bool R.isSome), (13, .view 6 (L.map ecells)), (14, .int .i64 b'), (15, .int .i64 i)] ++ tl, [(0, .cells 37 (hcells (fAct R) (fArgs R)))], nx⟩ := by
      intro b' nx tl hb'
      refine swp_reg ?_
      simp -implicitDefEqProofs [c_plong_r23, sops_nil, sops_run, sopsk_some, sops_call, sops_guard, sopsg_yes, sopsg_tf, sopsg_ft, sopsg_undef, rg_true, SOp.run, SX.ev, putd, puts, argS, upds, SOp.touch, SSt.keep, SSt.skip, gets, geth, puth, delh, idOf, SV.cells?, setL, fillS, fillR, sbin, eq0, eq1, eqL, rowOf, qseq_n, qseq_e, qseq_r, qblock_n, qblock_r, qblock_e, qloop_e, qloop_r]
      rw [i64_add_ (by omega) (by omega)]
      exact qloop_next (wk_list [(0, 0)] hm rfl (Nat.zero_le _) (by simp -implicitDefEqProofs [take_map_len, FrzOk, pureV_int, pureV_bool, pureV_str, pureV_nil, pureV_nilsl, pureV_view, pureV_cp, pureL_nil_, pureL_cons_, pureO_row, pureO_cells, frzS, frzH, frz, frz1, frz0, SlotsM, ObjsM, ObjM, rn, ren, ren1, ren0, gets, geth, co_self, co_int, co_own, co_view, co_nilsl, co_agg, co_tup, CoL, coll_self]) (by simp -implicitDefEqProofs [take_map_len, FrzOk, pureV_int, pureV_bool, pureV_str, pureV_nil, pureV_nilsl, pureV_view, pureV_cp, pureL_nil_, pureL_cons_, pureO_row, pureO_cells, frzS, frzH, frz, frz1, frz0, SlotsM, ObjsM, ObjM, rn, ren, ren1, ren0, gets, geth, co_self, co_int, co_own, co_view, co_nilsl, co_agg, co_tup, CoL, coll_self, hcells, nums])) ⟨i + 1, b', rfl, by omega, hb', rfl⟩ (by omega)
    refine swp_seq (swp_regd (by rw [hP]; exact mixed) ?_)
    rw [hP]
    cases k1 : pre W key2 j * 2 ^ (W - j) == v
    · simp -implicitDefEqProofs [c_plong_r21, sops_nil, sops_run, sopsk_some, sops_call, sops_guard, sopsg_yes, sopsg_tf, sopsg_ft, sopsg_undef, rg_true, SOp.run, SX.ev, putd, puts, argS, upds, SOp.touch, SSt.keep, SSt.skip, gets, geth, puth, delh, idOf, SV.cells?, setL, fillS, fillR, sbin, eq0, eq1, eqL, rowOf, qseq_n, qseq_e, qseq_r, qblock_n, qblock_r, qblock_e, qloop_e, qloop_r, hi, ecells, nums, hj, hlow, k1, hv]
      refine ⟨rfl, swp_cond rfl (by simp) (fun _ => swp_skip ?_)⟩
      simp -implicitDefEqProofs [sops_nil, sops_run, sopsk_some, sops_call, sops_guard, sopsg_yes, sopsg_tf, sopsg_ft, sopsg_undef, rg_true, SOp.run, SX.ev, putd, puts, argS, upds, SOp.touch, SSt.keep, SSt.skip, gets, geth, puth, delh, idOf, SV.cells?, setL, fillS, fillR, sbin, eq0, eq1, eqL, rowOf, qseq_n, qseq_e, qseq_r, qblock_n, qblock_r, qblock_e, qloop_e, qloop_r]
      refine next b _ [_] ?_
      have hn : ¬ hasBeg W key2 L[i] := by rw [hbeg]; simpa using k1
      rcases h2 with ⟨rfl, h2⟩ | ⟨k, e, rfl, hk, he, hke, hbest⟩
      · refine .inl ⟨rfl, fun m e hm he => ?_⟩
        rcases Nat.lt_or_ge m i with h4 | h4
        · exact h2 m e h4 he
        · obtain rfl : m = i := by omega
          rw [List.getElem?_eq_getElem hi] at he; cases he; exact hn
      · refine .inr ⟨k, e, rfl, by omega, he, hke, fun m e' hm he' hb' => ?_⟩
        rcases Nat.lt_or_ge m i with h4 | h4
        · exact hbest m e' h4 he' hb'
        · obtain rfl : m = i := by omega
          rw [List.getElem?_eq_getElem hi] at he'; cases he'; exact absurd hb' hn
    · have hyes : hasBeg W key2 L[i] := by rw [hbeg]; simpa using k1
      rcases h2 with ⟨rfl, h2⟩ | ⟨k, e, rfl, hk, he, hke, hbest⟩
      · simp -implicitDefEqProofs [c_plong_r21, sops_nil, sops_run, sopsk_some, sops_call, sops_guard, sopsg_yes, sopsg_tf, sopsg_ft, sopsg_undef, rg_true, SOp.run, SX.ev, putd, puts, argS, upds, SOp.touch, SSt.keep, SSt.skip, gets, geth, puth, delh, idOf, SV.cells?, setL, fillS, fillR, sbin, eq0, eq1, eqL, rowOf, qseq_n, qseq_e, qseq_r, qblock_n, qblock_r, qblock_e, qloop_e, qloop_r, hi, ecells, nums, hj, hlow, k1, hv]
        refine ⟨rfl, swp_cond rfl (fun _ => ?_) (by simp)⟩
        refine swp_reg ?_
        simp -implicitDefEqProofs [c_plong_r22, sops_nil, sops_run, sopsk_some, sops_call, sops_guard, sopsg_yes, sopsg_tf, sopsg_ft, sopsg_undef, rg_true, SOp.run, SX.ev, putd, puts, argS, upds, SOp.touch, SSt.keep, SSt.skip, gets, geth, puth, delh, idOf, SV.cells?, setL, fillS, fillR, sbin, eq0, eq1, eqL, rowOf, qseq_n, qseq_e, qseq_r, qblock_n, qblock_r, qblock_e, qloop_e, qloop_r]
        refine next i _ [] (.inr ⟨i, L[i], rfl, by omega, by simp [hi], hyes, fun m e' hm he' hb' => ?_⟩)
        rcases Nat.lt_or_ge m i with h4 | h4
        · exact absurd hb' (h2 m e' h4 he')
        · obtain rfl : m = i := by omega
          rw [List.getElem?_eq_getElem hi] at he'; cases he'; exact Int.le_refl _
      · obtain ⟨hkL, rfl⟩ := List.getElem?_eq_some_iff.1 he
        have hk0 : ¬ ((k : Int) < 0) := by omega
        cases k2 : decide (L[k].len < (j : Int))
        · simp -implicitDefEqProofs [c_plong_r21, sops_nil, sops_run, sopsk_some, sops_call, sops_guard, sopsg_yes, sopsg_tf, sopsg_ft, sopsg_undef, rg_true, SOp.run, SX.ev, putd, puts, argS, upds, SOp.touch, SSt.keep, SSt.skip, gets, geth, puth, delh, idOf, SV.cells?, setL, fillS, fillR, sbin, eq0, eq1, eqL, rowOf, qseq_n, qseq_e, qseq_r, qblock_n, qblock_r, qblock_e, qloop_e, qloop_r, hi, ecells, nums, hj, hlow, k1, hv, hkL, hk0, k2]
          refine ⟨rfl, swp_cond rfl (by simp) (fun _ => swp_skip ?_)⟩
          simp -implicitDefEqProofs [sops_nil, sops_run, sopsk_some, sops_call, sops_guard, sopsg_yes, sopsg_tf, sopsg_ft, sopsg_undef, rg_true, SOp.run, SX.ev, putd, puts, argS, upds, SOp.touch, SSt.keep, SSt.skip, gets, geth, puth, delh, idOf, SV.cells?, setL, fillS, fillR, sbin, eq0, eq1, eqL, rowOf, qseq_n, qseq_e, qseq_r, qblock_n, qblock_r, qblock_e, qloop_e, qloop_r]
          refine next k _ [_] (.inr ⟨k, L[k], rfl, by omega, he, hke, fun m e' hm he' hb' => ?_⟩)
          rcases Nat.lt_or_ge m i with h4 | h4
          · exact hbest m e' h4 he' hb'
          · obtain rfl : m = i := by omega
            rw [List.getElem?_eq_getElem hi] at he'; cases he'
            have : ¬ L[k].len < (j : Int) := by simpa using k2
            omega
        · simp -implicitDefEqProofs [c_plong_r21, sops_nil, sops_run, sopsk_some, sops_call, sops_guard, sopsg_yes, sopsg_tf, sopsg_ft, sopsg_undef, rg_true, SOp.run, SX.ev, putd, puts, argS, upds, SOp.touch, SSt.keep, SSt.skip, gets, geth, puth, delh, idOf, SV.cells?, setL, fillS, fillR, sbin, eq0, eq1, eqL, rowOf, qseq_n, qseq_e, qseq_r, qblock_n, qblock_r, qblock_e, qloop_e, qloop_r, hi, ecells, nums, hj, hlow, k1, hv, hkL, hk0, k2]
          refine ⟨rfl, swp_cond rfl (fun _ => ?_) (by simp)⟩
          refine swp_reg ?_
          simp -implicitDefEqProofs [c_plong_r22, sops_nil, sops_run, sopsk_some, sops_call, sops_guard, sopsg_yes, sopsg_tf, sopsg_ft, sopsg_undef, rg_true, SOp.run, SX.ev, putd, puts, argS, upds, SOp.touch, SSt.keep, SSt.skip, gets, geth, puth, delh, idOf, SV.cells?, setL, fillS, fillR, sbin, eq0, eq1, eqL, rowOf, qseq_n, qseq_e, qseq_r, qblock_n, qblock_r, qblock_e, qloop_e, qloop_r]
          have : L[k].len < (j : Int) := by simpa using k2
          refine next i _ [] (.inr ⟨i, L[i], rfl, by omega, by simp [hi], hyes, fun m e' hm he' hb' => ?_⟩)
          rcases Nat.lt_or_ge m i with h4 | h4
          · have := hbest m e' h4 he' hb'; omega
          · obtain rfl : m = i := by omega
            rw [List.getElem?_eq_getElem hi] at he'; cases he'; exact Int.le_refl _
  · have hi : i = L.length := by have : ¬ i < L.length := by simpa using h3
                                 omega
    subst hi
    simp -implicitDefEqProofs [sops_nil, sops_run, sopsk_some, sops_call, sops_guard, sopsg_yes, sopsg_tf, sopsg_ft, sopsg_undef, rg_true, SOp.run, SX.ev, putd, puts, argS, upds, SOp.touch, SSt.keep, SSt.skip, gets, geth, puth, delh, idOf, SV.cells?, setL, fillS, fillR, sbin, eq0, eq1, eqL, rowOf, qseq_n, qseq_e, qseq_r, qblock_n, qblock_r, qblock_e, qloop_e, qloop_r]
    refine swp_seq (swp_seq (swp_reg ?_))
    simp -implicitDefEqProofs [c_plong_r24, sops_nil, sops_run, sopsk_some, sops_call, sops_guard, sopsg_yes, sopsg_tf, sopsg_ft, sopsg_undef, rg_true, SOp.run, SX.ev, putd, puts, argS, upds, SOp.touch, SSt.keep, SSt.skip, gets, geth, puth, delh, idOf, SV.cells?, setL, fillS, fillR, sbin, eq0, eq1, eqL, rowOf, qseq_n, qseq_e, qseq_r, qblock_n, qblock_r, qblock_e, qloop_e, qloop_r]
    rcases hend b h2 with ⟨rfl, rfl⟩ | ⟨k, e, rfl, he, rfl, hel⟩
    · refine swp_cond rfl (fun _ => ?_) (by simp)
      refine swp_seq (swp_reg ?_)
      simp -implicitDefEqProofs [c_plong_r25, sops_nil, sops_run, sopsk_some, sops_call, sops_guard, sopsg_yes, sopsg_tf, sopsg_ft, sopsg_undef, rg_true, SOp.run, SX.ev, putd, puts, argS, upds, SOp.touch, SSt.keep, SSt.skip, gets, geth, puth, delh, idOf, SV.cells?, setL, fillS, fillR, sbin, eq0, eq1, eqL, rowOf, qseq_n, qseq_e, qseq_r, qblock_n, qblock_r, qblock_e, qloop_e, qloop_r]
      exact swp_ret (fin _ _)
    · have hk0 : ¬ ((k : Int) < 0) := by omega
      simp -implicitDefEqProofs [hk0]
      refine swp_cond rfl (by simp) (fun _ => swp_skip ?_)
      simp -implicitDefEqProofs [sops_nil, sops_run, sopsk_some, sops_call, sops_guard, sopsg_yes, sopsg_tf, sopsg_ft, sopsg_undef, rg_true, SOp.run, SX.ev, putd, puts, argS, upds, SOp.touch, SSt.keep, SSt.skip, gets, geth, puth, delh, idOf, SV.cells?, setL, fillS, fillR, sbin, eq0, eq1, eqL, rowOf, qseq_n, qseq_e, qseq_r, qblock_n, qblock_r, qblock_e, qloop_e, qloop_r]
      obtain ⟨hkL, rfl⟩ := List.getElem?_eq_some_iff.1 he
      refine swp_seq (swp_regd (by rw [hP]; exact mixed) ?_)
      rw [hP]
      have hle : (L[k].len.toNat : Int) = L[k].len := by omega
      simp -implicitDefEqProofs [c_plong_r26, sops_nil, sops_run, sopsk_some, sops_call, sops_guard, sopsg_yes, sopsg_tf, sopsg_ft, sopsg_undef, rg_true, SOp.run, SX.ev, putd, puts, argS, upds, SOp.touch, SSt.keep, SSt.skip, gets, geth, puth, delh, idOf, SV.cells?, setL, fillS, fillR, sbin, eq0, eq1, eqL, rowOf, qseq_n, qseq_e, qseq_r, qblock_n, qblock_r, qblock_e, qloop_e, qloop_r, ecells, nums, hkL, fLen, hle, fAct, fArgs, hcells]
      refine call_q (scalls_q (hitOf_s L[k]) (fun σ => rfl) (fun σ => rfl) rfl _) ?_
      simp -implicitDefEqProofs [sops_nil, sops_run, sopsk_some, sops_call, sops_guard, sopsg_yes, sopsg_tf, sopsg_ft, sopsg_undef, rg_true, SOp.run, SX.ev, putd, puts, argS, upds, SOp.touch, SSt.keep, SSt.skip, gets, geth, puth, delh, idOf, SV.cells?, setL, fillS, fillR, sbin, eq0, eq1, eqL, rowOf, qseq_n, qseq_e, qseq_r, qblock_n, qblock_r, qblock_e, qloop_e, qloop_r, hcells, nums]
      obtain ⟨_, _, _, _, _, ha⟩ := hLe L[k] (List.getElem_mem hkL)
      refine call_q (scalls_q (shit_s L[k].act L[k].act L[k].args L[k].args (by omega)) (fun σ => rfl) (fun σ => rfl) rfl _) ?_
      simp -implicitDefEqProofs [sops_nil, sops_run, sopsk_some, sops_call, sops_guard, sopsg_yes, sopsg_tf, sopsg_ft, sopsg_undef, rg_true, SOp.run, SX.ev, putd, puts, argS, upds, SOp.touch, SSt.keep, SSt.skip, gets, geth, puth, delh, idOf, SV.cells?, setL, fillS, fillR, sbin, eq0, eq1, eqL, rowOf, qseq_n, qseq_e, qseq_r, qblock_n, qblock_r, qblock_e, qloop_e, qloop_r]
      exact ⟨rfl, swp_ret (fin _ _)⟩
end Go.Proofs.Ytfakdapglbgokaa

/-
  PrefixLongest, in the plain machine. No condition.
-/
namespace Go.Proofs.Ytfakdapglbgokaa
set_option linter.all false
open Go.RowKit
theorem plong_s (width key : Int) (l : List TStep) (hw : Fits .i64 width) (hk : Fits .u64 key) (hl : ∀ s ∈ l, FitE s.e) : SCalls Try.prog 3 [.int .i64 width, steps l, .int .u64 key] [] 0 (.bool true) [] := by
  refine scalls_of (N := 148) Try.func3 rfl rfl (by kernel_rfl) comp_c_plong (by simp) ⟨rfl, rfl, rfl, trivial⟩ trivial ?_
  rintro X hP hN hm
  have fin : ∀ hp nx, QFun X (Try.f3).results.toList 0 (.bool true) [] .ret ⟨[(6, .bool true)], hp, nx⟩ := fun hp nx =>
    (qfun_done (s' := ⟨[(6, .bool true)], [], 0⟩) (wk_list [] hm rfl (Nat.zero_le _) (by simp -implicitDefEqProofs [take_map_len, FrzOk, pureV_int, pureV_bool, pureV_str, pureV_nil, pureV_nilsl, pureV_view, pureV_cp, pureL_nil_, pureL_cons_, pureO_row, pureO_cells, frzS, frzH, frz, frz1, frz0, SlotsM, ObjsM, ObjM, rn, ren, ren1, ren0, gets, geth, co_self, co_int, co_own, co_view, co_nilsl, co_agg, co_tup, CoL, coll_self]) trivial) rfl trivial (by simp))
  unfold c_plong
  refine swp_seq (swp_reg ?_)
  simp -implicitDefEqProofs [c_plong_r1, sops_nil, sops_run, sopsk_some, sops_call, sops_guard, sopsg_yes, sopsg_tf, sopsg_ft, sopsg_undef, rg_true, SOp.run, SX.ev, putd, puts, argS, upds, SOp.touch, SSt.keep, SSt.skip, gets, geth, puth, delh, idOf, SV.cells?, setL, fillS, fillR, sbin, eq0, eq1, eqL, rowOf, qseq_n, qseq_e, qseq_r, qblock_n, qblock_r, qblock_e, qloop_e, qloop_r, steps]
  refine swp_seq (swp_seq (swp_reg ?_))
  rw [hP]
  simp -implicitDefEqProofs [c_plong_r2, sops_nil, sops_run, sopsk_some, sops_call, sops_guard, sopsg_yes, sopsg_tf, sopsg_ft, sopsg_undef, rg_true, SOp.run, SX.ev, putd, puts, argS, upds, SOp.touch, SSt.keep, SSt.skip, gets, geth, puth, delh, idOf, SV.cells?, setL, fillS, fillR, sbin, eq0, eq1, eqL, rowOf, qseq_n, qseq_e, qseq_r, qblock_n, qblock_r, qblock_e, qloop_e, qloop_r]
  refine call_q (scalls_q pbeg_s (fun σ => rfl) (fun σ => rfl) rfl _) ?_
  simp -implicitDefEqProofs [sops_nil, sops_run, sopsk_some, sops_call, sops_guard, sopsg_yes, sopsg_tf, sopsg_ft, sopsg_undef, rg_true, SOp.run, SX.ev, putd, puts, argS, upds, SOp.touch, SSt.keep, SSt.skip, gets, geth, puth, delh, idOf, SV.cells?, setL, fillS, fillR, sbin, eq0, eq1, eqL, rowOf, qseq_n, qseq_e, qseq_r, qblock_n, qblock_r, qblock_e, qloop_e, qloop_r]
  refine swp_cond rfl (by simp) (fun _ => swp_skip ?_)
  simp -implicitDefEqProofs [sops_nil, sops_run, sopsk_some, sops_call, sops_guard, sopsg_yes, sopsg_tf, sopsg_ft, sopsg_undef, rg_true, SOp.run, SX.ev, putd, puts, argS, upds, SOp.touch, SSt.keep, SSt.skip, gets, geth, puth, delh, idOf, SV.cells?, setL, fillS, fillR, sbin, eq0, eq1, eqL, rowOf, qseq_n, qseq_e, qseq_r, qblock_n, qblock_r, qblock_e, qloop_e, qloop_r]
  have key1 : (bigS l || (decide (width < 1) || decide (64 < width))) = false ∨ (bigS l || (decide (width < 1) || decide (64 < width))) = true := by cases (bigS l || (decide (width < 1) || decide (64 < width))) <;> simp
  refine swp_seq (swp_seq (swp_reg ?_))
  rw [hP]
  cases k1 : bigS l
  · cases k2 : decide (width < 1)
    · simp -implicitDefEqProofs [c_plong_r4, sops_nil, sops_run, sopsk_some, sops_call, sops_guard, sopsg_yes, sopsg_tf, sopsg_ft, sopsg_undef, rg_true, SOp.run, SX.ev, putd, puts, argS, upds, SOp.touch, SSt.keep, SSt.skip, gets, geth, puth, delh, idOf, SV.cells?, setL, fillS, fillR, sbin, eq0, eq1, eqL, rowOf, qseq_n, qseq_e, qseq_r, qblock_n, qblock_r, qblock_e, qloop_e, qloop_r]
      refine call_q (scalls_q (great_s l) (fun σ => rfl) (fun σ => rfl) rfl _) ?_
      rw [k1]
      simp -implicitDefEqProofs [sops_nil, sops_run, sopsk_some, sops_call, sops_guard, sopsg_yes, sopsg_tf, sopsg_ft, sopsg_undef, rg_true, SOp.run, SX.ev, putd, puts, argS, upds, SOp.touch, SSt.keep, SSt.skip, gets, geth, puth, delh, idOf, SV.cells?, setL, fillS, fillR, sbin, eq0, eq1, eqL, rowOf, qseq_n, qseq_e, qseq_r, qblock_n, qblock_r, qblock_e, qloop_e, qloop_r, k2]
      refine swp_cond rfl (fun h => ?_) (fun h => swp_skip ?_)
      · refine swp_seq (swp_reg ?_)
        simp -implicitDefEqProofs [c_plong_r5, sops_nil, sops_run, sopsk_some, sops_call, sops_guard, sopsg_yes, sopsg_tf, sopsg_ft, sopsg_undef, rg_true, SOp.run, SX.ev, putd, puts, argS, upds, SOp.touch, SSt.keep, SSt.skip, gets, geth, puth, delh, idOf, SV.cells?, setL, fillS, fillR, sbin, eq0, eq1, eqL, rowOf, qseq_n, qseq_e, qseq_r, qblock_n, qblock_r, qblock_e, qloop_e, qloop_r]
        exact swp_ret (fin _ _)
      obtain ⟨W, rfl, hW1, hW2⟩ : ∃ W : Nat, width = W ∧ 1 ≤ W ∧ W ≤ 64 := ⟨width.toNat, by simp at h k2; omega, by simp at h k2; omega, by simp at h k2; omega⟩
      clear h k2
      simp -implicitDefEqProofs [sops_nil, sops_run, sopsk_some, sops_call, sops_guard, sopsg_yes, sopsg_tf, sopsg_ft, sopsg_undef, rg_true, SOp.run, SX.ev, putd, puts, argS, upds, SOp.touch, SSt.keep, SSt.skip, gets, geth, puth, delh, idOf, SV.cells?, setL, fillS, fillR, sbin, eq0, eq1, eqL, rowOf, qseq_n, qseq_e, qseq_r, qblock_n, qblock_r, qblock_e, qloop_e, qloop_r]
      refine swp_seq (swp_reg ?_)
      rw [hP]
      simp -implicitDefEqProofs [c_plong_r6, sops_nil, sops_run, sopsk_some, sops_call, sops_guard, sopsg_yes, sopsg_tf, sopsg_ft, sopsg_undef, rg_true, SOp.run, SX.ev, putd, puts, argS, upds, SOp.touch, SSt.keep, SSt.skip, gets, geth, puth, delh, idOf, SV.cells?, setL, fillS, fillR, sbin, eq0, eq1, eqL, rowOf, qseq_n, qseq_e, qseq_r, qblock_n, qblock_r, qblock_e, qloop_e, qloop_r]
      refine call_o (pfxNew_s W 100 _) trivial ⟨rfl, trivial⟩ ?_
      simp -implicitDefEqProofs [sops_nil, sops_run, sopsk_some, sops_call, sops_guard, sopsg_yes, sopsg_tf, sopsg_ft, sopsg_undef, rg_true, SOp.run, SX.ev, putd, puts, argS, upds, SOp.touch, SSt.keep, SSt.skip, gets, geth, puth, delh, idOf, SV.cells?, setL, fillS, fillR, sbin, eq0, eq1, eqL, rowOf, qseq_n, qseq_e, qseq_r, qblock_n, qblock_r, qblock_e, qloop_e, qloop_r, mergeH, dels, adds, puth, delh, geth, idsH]
      refine swp_seq (swp_seq (swp_reg ?_))
      simp -implicitDefEqProofs [c_plong_r7, sops_nil, sops_run, sopsk_some, sops_call, sops_guard, sopsg_yes, sopsg_tf, sopsg_ft, sopsg_undef, rg_true, SOp.run, SX.ev, putd, puts, argS, upds, SOp.touch, SSt.keep, SSt.skip, gets, geth, puth, delh, idOf, SV.cells?, setL, fillS, fillR, sbin, eq0, eq1, eqL, rowOf, qseq_n, qseq_e, qseq_r, qblock_n, qblock_r, qblock_e, qloop_e, qloop_r]
      have h200 : l.length ≤ 200 ∧ ∀ s ∈ l, bigE s.e = false := by
        simp only [bigS, Bool.or_eq_false_iff] at k1
        exact ⟨by have := k1.1; simp at this; omega, fun s hs => by have := List.any_eq_false.1 k1.2 s hs; simpa using this⟩
      have hpinv : ∀ i, i ≤ l.length → PInv W (pstate W (l.take i)).1 (pstate W (l.take i)).2 ∧ (pstate W (l.take i)).1 ≤ 100 := by
        intro i
        induction i with
        | zero => intro _; exact ⟨PInv.none W, by simp [pstate]⟩
        | succ i ih =>
          intro hi
          have e1 : pstate W (l.take (i + 1)) = pstep W (pstate W (l.take i)) l[i] := by
            unfold pstate
            rw [List.take_succ_eq_append_getElem (by omega), List.foldl_append]; rfl
          rw [e1]
          refine pstep_inv (ih (by omega)) (hl l[i] (List.getElem_mem _)) ?_
          have := h200.2 l[i] (List.getElem_mem _)
          simp only [bigE, Bool.or_eq_false_iff, decide_eq_false_iff_not] at this
          omega
      refine swp_block (swp_loop (fun s n => ∃ i : Nat, s = ⟨[(0, .int .i64 W), (1, steps l), (2, .int .u64 key), (7, .ptr 0 0), (8, .int .i64 i)], [(0, .abs (pfxAbs W 100 (pstate W (l.take i)).1 (pstate W (l.take i)).2))], 1⟩ ∧ i ≤ l.length ∧ n = l.length - i) (wk_list [(0, 28)] hm rfl (Nat.zero_le _) (by simp -implicitDefEqProofs [take_map_len, FrzOk, pureV_int, pureV_bool, pureV_str, pureV_nil, pureV_nilsl, pureV_view, pureV_cp, pureL_nil_, pureL_cons_, pureO_row, pureO_cells, frzS, frzH, frz, frz1, frz0, SlotsM, ObjsM, ObjM, rn, ren, ren1, ren0, gets, geth, co_self, co_int, co_own, co_view, co_nilsl, co_agg, co_tup, CoL, coll_self, steps]) (by simp -implicitDefEqProofs [take_map_len, FrzOk, pureV_int, pureV_bool, pureV_str, pureV_nil, pureV_nilsl, pureV_view, pureV_cp, pureL_nil_, pureL_cons_, pureO_row, pureO_cells, frzS, frzH, frz, frz1, frz0, SlotsM, ObjsM, ObjM, rn, ren, ren1, ren0, gets, geth, co_self, co_int, co_own, co_view, co_nilsl, co_agg, co_tup, CoL, coll_self, pstate])) ⟨0, rfl, by omega, rfl⟩ ?_)
      rintro s n ⟨i, rfl, h1, rfl⟩
      unfold c_plong_l1
      refine swp_seq (swp_seq (swp_reg ?_))
      simp -implicitDefEqProofs [c_plong_r8, sops_nil, sops_run, sopsk_some, sops_call, sops_guard, sopsg_yes, sopsg_tf, sopsg_ft, sopsg_undef, rg_true, SOp.run, SX.ev, putd, puts, argS, upds, SOp.touch, SSt.keep, SSt.skip, gets, geth, puth, delh, idOf, SV.cells?, setL, fillS, fillR, sbin, eq0, eq1, eqL, rowOf, qseq_n, qseq_e, qseq_r, qblock_n, qblock_r, qblock_e, qloop_e, qloop_r, steps]
      refine swp_cond rfl (fun h3 => swp_skip ?_) (fun h3 => swp_exit ?_)
      · have hi : i < l.length := by simpa using h3
        have hbe := h200.2 l[i] (List.getElem_mem hi)
        have hfe := hl l[i] (List.getElem_mem hi)
        have hsm : Small l[i].e := by
          simp only [bigE, Bool.or_eq_false_iff, decide_eq_false_iff_not] at hbe
          exact ⟨by omega, by omega, by omega⟩
        have hok := oneK_eq l[i].e
        have hpi : PInv W (pstate W (l.take i)).1 (pstate W (l.take i)).2 ∧ (pstate W (l.take i)).1 ≤ 100 := hpinv i (by omega)
        have hnext : pstate W (l.take (i + 1)) = pstep W (pstate W (l.take i)) l[i] := by
          unfold pstate
          rw [List.take_succ_eq_append_getElem hi, List.foldl_append]; rfl
        generalize hst : pstate W (l.take i) = st at *
        simp -implicitDefEqProofs [sops_nil, sops_run, sopsk_some, sops_call, sops_guard, sopsg_yes, sopsg_tf, sopsg_ft, sopsg_undef, rg_true, SOp.run, SX.ev, putd, puts, argS, upds, SOp.touch, SSt.keep, SSt.skip, gets, geth, puth, delh, idOf, SV.cells?, setL, fillS, fillR, sbin, eq0, eq1, eqL, rowOf, qseq_n, qseq_e, qseq_r, qblock_n, qblock_r, qblock_e, qloop_e, qloop_r]
        refine swp_seq (swp_block (swp_seq (swp_reg ?_)))
        rw [hP]
        simp -implicitDefEqProofs [c_plong_r9, sops_nil, sops_run, sopsk_some, sops_call, sops_guard, sopsg_yes, sopsg_tf, sopsg_ft, sopsg_undef, rg_true, SOp.run, SX.ev, putd, puts, argS, upds, SOp.touch, SSt.keep, SSt.skip, gets, geth, puth, delh, idOf, SV.cells?, setL, fillS, fillR, sbin, eq0, eq1, eqL, rowOf, qseq_n, qseq_e, qseq_r, qblock_n, qblock_r, qblock_e, qloop_e, qloop_r, hi, tcells, ecells]
        refine call_q (scalls_q (oneKey_s l[i].e hsm) (fun σ => rfl) (fun σ => rfl) rfl _) ?_
        simp -implicitDefEqProofs [sops_nil, sops_run, sopsk_some, sops_call, sops_guard, sopsg_yes, sopsg_tf, sopsg_ft, sopsg_undef, rg_true, SOp.run, SX.ev, putd, puts, argS, upds, SOp.touch, SSt.keep, SSt.skip, gets, geth, puth, delh, idOf, SV.cells?, setL, fillS, fillR, sbin, eq0, eq1, eqL, rowOf, qseq_n, qseq_e, qseq_r, qblock_n, qblock_r, qblock_e, qloop_e, qloop_r, ecells, nums]
        refine swp_seq (swp_reg ?_)
        simp -implicitDefEqProofs [c_plong_r10, sops_nil, sops_run, sopsk_some, sops_call, sops_guard, sopsg_yes, sopsg_tf, sopsg_ft, sopsg_undef, rg_true, SOp.run, SX.ev, putd, puts, argS, upds, SOp.touch, SSt.keep, SSt.skip, gets, geth, puth, delh, idOf, SV.cells?, setL, fillS, fillR, sbin, eq0, eq1, eqL, rowOf, qseq_n, qseq_e, qseq_r, qblock_n, qblock_r, qblock_e, qloop_e, qloop_r, hi, tcells]
        refine swp_cond rfl (fun k3 => ?_) (fun k3 => ?_)
        · refine swp_regd (by rw [hP]; exact mixed) ?_
          rw [hP]
          simp -implicitDefEqProofs [c_plong_r11, sops_nil, sops_run, sopsk_some, sops_call, sops_guard, sopsg_yes, sopsg_tf, sopsg_ft, sopsg_undef, rg_true, SOp.run, SX.ev, putd, puts, argS, upds, SOp.touch, SSt.keep, SSt.skip, gets, geth, puth, delh, idOf, SV.cells?, setL, fillS, fillR, sbin, eq0, eq1, eqL, rowOf, qseq_n, qseq_e, qseq_r, qblock_n, qblock_r, qblock_e, qloop_e, qloop_r, hok, ecells, nums]
          have hcn := hpi.1.cnt
          have hd : l[i].d = 2 := by simpa using k3
          refine call_o (pfxDrop_s W 100 st.1 st.2 (kof l[i].e) l[i].e.len hw hfe.kof hfe.len (by omega) _ _) ⟨rfl, trivial⟩ ⟨rfl, trivial⟩ ?_
          simp -implicitDefEqProofs [sops_nil, sops_run, sopsk_some, sops_call, sops_guard, sopsg_yes, sopsg_tf, sopsg_ft, sopsg_undef, rg_true, SOp.run, SX.ev, putd, puts, argS, upds, SOp.touch, SSt.keep, SSt.skip, gets, geth, puth, delh, idOf, SV.cells?, setL, fillS, fillR, sbin, eq0, eq1, eqL, rowOf, qseq_n, qseq_e, qseq_r, qblock_n, qblock_r, qblock_e, qloop_e, qloop_r, mergeH, dels, adds, puth, delh, geth, idsH]
          refine ⟨rfl, ?_⟩
          have hst2 : pstep W st l[i] = (pfxDropN W st.1 st.2 (kof l[i].e) l[i].e.len, pfxDropE W st.2 (kof l[i].e) l[i].e.len) := by unfold pstep; rw [if_pos hd]
          rw [hst2] at hnext
          refine swp_reg ?_
          simp -implicitDefEqProofs [c_plong_r13, sops_nil, sops_run, sopsk_some, sops_call, sops_guard, sopsg_yes, sopsg_tf, sopsg_ft, sopsg_undef, rg_true, SOp.run, SX.ev, putd, puts, argS, upds, SOp.touch, SSt.keep, SSt.skip, gets, geth, puth, delh, idOf, SV.cells?, setL, fillS, fillR, sbin, eq0, eq1, eqL, rowOf, qseq_n, qseq_e, qseq_r, qblock_n, qblock_r, qblock_e, qloop_e, qloop_r]
          rw [i64_add_ (by omega) (by omega)]
          exact qloop_next (wk_list [(0, 0)] hm rfl (Nat.zero_le _) (by simp -implicitDefEqProofs [take_map_len, FrzOk, pureV_int, pureV_bool, pureV_str, pureV_nil, pureV_nilsl, pureV_view, pureV_cp, pureL_nil_, pureL_cons_, pureO_row, pureO_cells, frzS, frzH, frz, frz1, frz0, SlotsM, ObjsM, ObjM, rn, ren, ren1, ren0, gets, geth, co_self, co_int, co_own, co_view, co_nilsl, co_agg, co_tup, CoL, coll_self, steps]) (by simp -implicitDefEqProofs [take_map_len, FrzOk, pureV_int, pureV_bool, pureV_str, pureV_nil, pureV_nilsl, pureV_view, pureV_cp, pureL_nil_, pureL_cons_, pureO_row, pureO_cells, frzS, frzH, frz, frz1, frz0, SlotsM, ObjsM, ObjM, rn, ren, ren1, ren0, gets, geth, co_self, co_int, co_own, co_view, co_nilsl, co_agg, co_tup, CoL, coll_self, hnext])) ⟨i + 1, rfl, by omega, rfl⟩ (by omega)
        · refine swp_regd (by rw [hP]; exact mixed) ?_
          rw [hP]
          simp -implicitDefEqProofs [c_plong_r12, sops_nil, sops_run, sopsk_some, sops_call, sops_guard, sopsg_yes, sopsg_tf, sopsg_ft, sopsg_undef, rg_true, SOp.run, SX.ev, putd, puts, argS, upds, SOp.touch, SSt.keep, SSt.skip, gets, geth, puth, delh, idOf, SV.cells?, setL, fillS, fillR, sbin, eq0, eq1, eqL, rowOf, qseq_n, qseq_e, qseq_r, qblock_n, qblock_r, qblock_e, qloop_e, qloop_r, hok, ecells, nums]
          have hcn := hpi.1.cnt
          have hd : ¬ l[i].d = 2 := by simpa using k3
          refine call_q (scalls_q (hitOf_s ⟨[kof l[i].e], [], l[i].e.len, 0, l[i].e.act, l[i].e.args⟩) (fun σ => rfl) (fun σ => rfl) rfl _) ?_
          simp -implicitDefEqProofs [sops_nil, sops_run, sopsk_some, sops_call, sops_guard, sopsg_yes, sopsg_tf, sopsg_ft, sopsg_undef, rg_true, SOp.run, SX.ev, putd, puts, argS, upds, SOp.touch, SSt.keep, SSt.skip, gets, geth, puth, delh, idOf, SV.cells?, setL, fillS, fillR, sbin, eq0, eq1, eqL, rowOf, qseq_n, qseq_e, qseq_r, qblock_n, qblock_r, qblock_e, qloop_e, qloop_r, hcells, nums]
          refine call_o (pfxAdd_s W 100 st.1 st.2 (kof l[i].e) l[i].e.len l[i].e.act l[i].e.args hw hfe.kof hfe.len hfe.act hfe.args hsm.2.2 (by omega) _ _) ⟨rfl, trivial⟩ ⟨rfl, trivial⟩ ?_
          simp -implicitDefEqProofs [sops_nil, sops_run, sopsk_some, sops_call, sops_guard, sopsg_yes, sopsg_tf, sopsg_ft, sopsg_undef, rg_true, SOp.run, SX.ev, putd, puts, argS, upds, SOp.touch, SSt.keep, SSt.skip, gets, geth, puth, delh, idOf, SV.cells?, setL, fillS, fillR, sbin, eq0, eq1, eqL, rowOf, qseq_n, qseq_e, qseq_r, qblock_n, qblock_r, qblock_e, qloop_e, qloop_r, mergeH, dels, adds, puth, delh, geth, idsH]
          refine ⟨rfl, ?_⟩
          have hst2 : pstep W st l[i] = (pfxAddN W 100 st.1 st.2 (kof l[i].e) l[i].e.len, pfxAddE W 100 st.1 st.2 (kof l[i].e) l[i].e.len l[i].e.act l[i].e.args) := by unfold pstep; rw [if_neg hd]
          rw [hst2] at hnext
          refine swp_reg ?_
          simp -implicitDefEqProofs [c_plong_r13, sops_nil, sops_run, sopsk_some, sops_call, sops_guard, sopsg_yes, sopsg_tf, sopsg_ft, sopsg_undef, rg_true, SOp.run, SX.ev, putd, puts, argS, upds, SOp.touch, SSt.keep, SSt.skip, gets, geth, puth, delh, idOf, SV.cells?, setL, fillS, fillR, sbin, eq0, eq1, eqL, rowOf, qseq_n, qseq_e, qseq_r, qblock_n, qblock_r, qblock_e, qloop_e, qloop_r]
          rw [i64_add_ (by omega) (by omega)]
          exact qloop_next (wk_list [(0, 0)] hm rfl (Nat.zero_le _) (by simp -implicitDefEqProofs [take_map_len, FrzOk, pureV_int, pureV_bool, pureV_str, pureV_nil, pureV_nilsl, pureV_view, pureV_cp, pureL_nil_, pureL_cons_, pureO_row, pureO_cells, frzS, frzH, frz, frz1, frz0, SlotsM, ObjsM, ObjM, rn, ren, ren1, ren0, gets, geth, co_self, co_int, co_own, co_view, co_nilsl, co_agg, co_tup, CoL, coll_self, steps]) (by simp -implicitDefEqProofs [take_map_len, FrzOk, pureV_int, pureV_bool, pureV_str, pureV_nil, pureV_nilsl, pureV_view, pureV_cp, pureL_nil_, pureL_cons_, pureO_row, pureO_cells, frzS, frzH, frz, frz1, frz0, SlotsM, ObjsM, ObjM, rn, ren, ren1, ren0, gets, geth, co_self, co_int, co_own, co_view, co_nilsl, co_agg, co_tup, CoL, coll_self, hnext])) ⟨i + 1, rfl, by omega, rfl⟩ (by omega)
      · have hi : i = l.length := by have : ¬ i < l.length := by simpa using h3
                                     omega
        subst hi
        simp -implicitDefEqProofs [sops_nil, sops_run, sopsk_some, sops_call, sops_guard, sopsg_yes, sopsg_tf, sopsg_ft, sopsg_undef, rg_true, SOp.run, SX.ev, putd, puts, argS, upds, SOp.touch, SSt.keep, SSt.skip, gets, geth, puth, delh, idOf, SV.cells?, setL, fillS, fillR, sbin, eq0, eq1, eqL, rowOf, qseq_n, qseq_e, qseq_r, qblock_n, qblock_r, qblock_e, qloop_e, qloop_r]
        have hpi := hpinv l.length (Nat.le_refl _)
        exact swp_wk (s' := ⟨[(0, .int .i64 W), (2, .int .u64 key), (7, .ptr 0 0)], [(0, .abs (pfxAbs W 100 (pstate W (l.take l.length)).1 (pstate W (l.take l.length)).2))], 1⟩) (wk_list [(0, 0)] hm rfl (Nat.zero_le _) (by simp -implicitDefEqProofs [take_map_len, FrzOk, pureV_int, pureV_bool, pureV_str, pureV_nil, pureV_nilsl, pureV_view, pureV_cp, pureL_nil_, pureL_cons_, pureO_row, pureO_cells, frzS, frzH, frz, frz1, frz0, SlotsM, ObjsM, ObjM, rn, ren, ren1, ren0, gets, geth, co_self, co_int, co_own, co_view, co_nilsl, co_agg, co_tup, CoL, coll_self]) (by simp -implicitDefEqProofs [take_map_len, FrzOk, pureV_int, pureV_bool, pureV_str, pureV_nil, pureV_nilsl, pureV_view, pureV_cp, pureL_nil_, pureL_cons_, pureO_row, pureO_cells, frzS, frzH, frz, frz1, frz0, SlotsM, ObjsM, ObjM, rn, ren, ren1, ren0, gets, geth, co_self, co_int, co_own, co_view, co_nilsl, co_agg, co_tup, CoL, coll_self])) (plong_tail X hP hm W hW1 hW2 key hk _ _ hpi.1 hpi.2)
    · simp -implicitDefEqProofs [c_plong_r4, sops_nil, sops_run, sopsk_some, sops_call, sops_guard, sopsg_yes, sopsg_tf, sopsg_ft, sopsg_undef, rg_true, SOp.run, SX.ev, putd, puts, argS, upds, SOp.touch, SSt.keep, SSt.skip, gets, geth, puth, delh, idOf, SV.cells?, setL, fillS, fillR, sbin, eq0, eq1, eqL, rowOf, qseq_n, qseq_e, qseq_r, qblock_n, qblock_r, qblock_e, qloop_e, qloop_r]
      refine call_q (scalls_q (great_s l) (fun σ => rfl) (fun σ => rfl) rfl _) ?_
      rw [k1]
      simp -implicitDefEqProofs [sops_nil, sops_run, sopsk_some, sops_call, sops_guard, sopsg_yes, sopsg_tf, sopsg_ft, sopsg_undef, rg_true, SOp.run, SX.ev, putd, puts, argS, upds, SOp.touch, SSt.keep, SSt.skip, gets, geth, puth, delh, idOf, SV.cells?, setL, fillS, fillR, sbin, eq0, eq1, eqL, rowOf, qseq_n, qseq_e, qseq_r, qblock_n, qblock_r, qblock_e, qloop_e, qloop_r, k2]
      refine swp_cond rfl (fun _ => ?_) (by simp)
      refine swp_seq (swp_reg ?_)
      simp -implicitDefEqProofs [c_plong_r5, sops_nil, sops_run, sopsk_some, sops_call, sops_guard, sopsg_yes, sopsg_tf, sopsg_ft, sopsg_undef, rg_true, SOp.run, SX.ev, putd, puts, argS, upds, SOp.touch, SSt.keep, SSt.skip, gets, geth, puth, delh, idOf, SV.cells?, setL, fillS, fillR, sbin, eq0, eq1, eqL, rowOf, qseq_n, qseq_e, qseq_r, qblock_n, qblock_r, qblock_e, qloop_e, qloop_r]
      exact swp_ret (fin _ _)
  · simp -implicitDefEqProofs [c_plong_r4, sops_nil, sops_run, sopsk_some, sops_call, sops_guard, sopsg_yes, sopsg_tf, sopsg_ft, sopsg_undef, rg_true, SOp.run, SX.ev, putd, puts, argS, upds, SOp.touch, SSt.keep, SSt.skip, gets, geth, puth, delh, idOf, SV.cells?, setL, fillS, fillR, sbin, eq0, eq1, eqL, rowOf, qseq_n, qseq_e, qseq_r, qblock_n, qblock_r, qblock_e, qloop_e, qloop_r]
    refine call_q (scalls_q (great_s l) (fun σ => rfl) (fun σ => rfl) rfl _) ?_
    rw [k1]
    simp -implicitDefEqProofs [sops_nil, sops_run, sopsk_some, sops_call, sops_guard, sopsg_yes, sopsg_tf, sopsg_ft, sopsg_undef, rg_true, SOp.run, SX.ev, putd, puts, argS, upds, SOp.touch, SSt.keep, SSt.skip, gets, geth, puth, delh, idOf, SV.cells?, setL, fillS, fillR, sbin, eq0, eq1, eqL, rowOf, qseq_n, qseq_e, qseq_r, qblock_n, qblock_r, qblock_e, qloop_e, qloop_r]
    refine swp_cond rfl (fun _ => ?_) (by simp)
    refine swp_seq (swp_reg ?_)
    simp -implicitDefEqProofs [c_plong_r5, sops_nil, sops_run, sopsk_some, sops_call, sops_guard, sopsg_yes, sopsg_tf, sopsg_ft, sopsg_undef, rg_true, SOp.run, SX.ev, putd, puts, argS, upds, SOp.touch, SSt.keep, SSt.skip, gets, geth, puth, delh, idOf, SV.cells?, setL, fillS, fillR, sbin, eq0, eq1, eqL, rowOf, qseq_n, qseq_e, qseq_r, qblock_n, qblock_r, qblock_e, qloop_e, qloop_r]
    exact swp_ret (fin _ _)
end Go.Proofs.Ytfakdapglbgokaa

/-
  PrefixLongest: what the frame wants. No condition.
-/
namespace Go.Proofs.Ytfakdapglbgokaa
set_option linter.all false
open Go.RowKit
theorem layF_entry : LayF entryLay (fun e => (∀ x ∈ e.keys, Fits .u64 x) ∧ (∀ x ∈ e.masks, Fits .u64 x) ∧ Fits .i64 e.len ∧ Fits .i64 e.prio ∧ Fits .i64 e.act ∧ ∀ x ∈ e.args, Fits .u64 x) :=
  layF_map (fun e : Entry => (e.keys, e.masks, e.len, e.prio, e.act, e.args)) (layF_pair (layF_slice (layF_int .u64)) (layF_pair (layF_slice (layF_int .u64)) (layF_pair (layF_int .i64) (layF_pair (layF_int .i64) (layF_pair (layF_int .i64) (layF_slice (layF_int .u64)))))))
theorem layF_tstep : LayF tstepLay (fun s => FitE s.e) := fun A w x cs h => by
  have h1 := layF_map (fun s : TStep => (s.d, s.e)) (layF_pair (layF_int .i64) layF_entry) A w x cs h
  exact ⟨h1.2.1, h1.2.2.2.2.2.2, h1.2.2.2.1, h1.2.2.2.2.2.1⟩
theorem layP_tstep : LayP tstepLay tcells := layP_map (fun s : TStep => (s.d, s.e)) (layP_pair (layP_int .i64) layP_entry)
theorem PrefixLongest_law (width : Int) (lo : Option Addr) (ln lc : Nat) (l : List TStep) (key : Int) (w : World) (hw : (Lit.int .i64 width).wf = true) (hl : RdL tstepLay NoA w lo ln lc l) (hk : (Lit.int .u64 key).wf = true) :
    Calls Try.prog 3 #[.int .i64 width, .slice lo ln lc, .int .u64 key] w fun e w' => e = .returned (.bool true) ∧ Below w.heap.size w w' :=
  law_of (vs := [.int .i64 width, .slice lo ln lc, .int .u64 key]) (plong_s width key l hw hk (layF_row layF_tstep hl)) (Reps.cons .int (Reps.cons (layP_view layP_tstep hl) (Reps.cons .int Reps.nil)))
end Go.Proofs.Ytfakdapglbgokaa

/-
  Package prefix: Change. No condition.
-/
namespace Go.Proofs.Ytfakdapglbgokaa
set_option linter.all false
open Go.RowKit
attribute [local go_sem ↓] Go.wp_at_zero Go.wp_at_succ
/-- A cell that is told anew what it tells. -/
theorem setCell_id {w : World} {g j : Nat} {t : TypeId} {cs : Array Value} {v : Value} (h : Blk w g t cs) (hv : cs[j]? = some v) : w.setCell ⟨g, j, none⟩ v = w := by
  have hcs : cs.setIfInBounds j v = cs := by
    apply Array.ext_getElem?
    intro i
    by_cases e : j = i
    · subst e
      obtain ⟨hj, _⟩ := Array.getElem?_eq_some_iff.1 hv
      rw [Array.getElem?_setIfInBounds_self_of_lt hj, hv]
    · rw [Array.getElem?_setIfInBounds_ne e]
  have hh : (w.setCell ⟨g, j, none⟩ v).heap = w.heap := by
    apply Array.ext_getElem?
    intro k
    by_cases e : k = g
    · subst e
      rw [heap_setCell_same w k j cs t v h, hcs]; exact h.symm
    · exact heap_setCell_other w _ k v e
  cases w with
  | mk heap tape drawn os output =>
    simp only [World.setCell] at hh ⊢
    rw [hh]
def pfxChgC (width : Int) (E : Nat → Int → Option (Int × List Int)) (key k : Int) : Int :=
  if pfits width key k = false then 6 else if (E k.toNat (pre width.toNat key k.toNat)).isSome then 0 else 9
def pfxChgE (width : Int) (E : Nat → Int → Option (Int × List Int)) (key k act : Int) (args : List Int) : Nat → Int → Option (Int × List Int) := if pfxChgC width E key k = 0 then entSet E k.toNat (pre width.toNat key k.toNat) (some (act, args)) else E
theorem pfxChg_no {width : Int} {E : Nat → Int → Option (Int × List Int)} {key k : Int} (h : pfxChgC width E key k ≠ 0) (act : Int) (args : List Int) : pfxChgE width E key k act args = E := by unfold pfxChgE; rw [if_neg h]
theorem pfxChg_yes {width : Int} {E : Nat → Int → Option (Int × List Int)} {key k : Int} (h : pfxChgC width E key k = 0) (act : Int) (args : List Int) : pfxChgE width E key k act args = entSet E k.toNat (pre width.toNat key k.toNat) (some (act, args)) := by unfold pfxChgE; rw [if_pos h]

set_option maxRecDepth 100000 in
set_option maxHeartbeats 4000000 in
theorem pfxChg_any (gt : Nat) (Fp : Nat → Prop) (width most n key k act : Int) (ao : Option Addr) (an ac : Nat) (args : List Int) (E : Nat → Int → Option (Int × List Int)) (w : World) (h : PfxObj w Fp gt width most n E) (hw : Fits .i64 width) (hkey : Fits .u64 key) (hk : Fits .i64 k) (hact : Fits .i64 act) (hr : Rd w .u64 ao an ac args) (han : an ≤ 1000000) :
    Calls Try.prog 38 #[.pointer (some ⟨gt, 0, none⟩), .int .u64 key, .int .i64 k, .agg #[.int .i64 act, .slice ao an ac]] w fun e w' => e = .returned (.int .i64 (pfxChgC width E key k)) ∧
      ∃ Fp', PfxObj w' Fp' gt width most n (pfxChgE width E key k act args) ∧ (∀ b, Fp' b → Fp b ∨ w.heap.size ≤ b) ∧ Step Fp w w' := by
  have HO := Lib.hid h
  obtain ⟨M, adr, dat, h1, h2, h3, h4, h5, h6⟩ := h
  have hal := al (rf w) (.cells #[.int .i64 act, .slice ao an ac] 37)
  have H1 := Lib.hid (h1.below hal)
  by_cases hf : pfits width key k = true
  case neg =>
    have hf' : pfits width key k = false := by simpa using hf
    have hc : pfxChgC width E key k = 6 := by unfold pfxChgC; rw [if_pos hf']
    have e2 := pfxChg_no (show pfxChgC width E key k ≠ 0 by rw [hc]; decide) act args
    rw [hc, e2]
    have HF := Lib.hid hf'
    clear hf hf' hc e2 h6 h5 h4 h3 h2
    go_enter Try.func38, Try.ntmps38
    go_wp2_with fail
    refine (pfxFits_any _ _ _ _ _ _ _ _ _ _ H1.out hw hk hkey).mono ?_
    rintro e w' ⟨rfl, rfl⟩
    rw [HF.out]
    go_wp2_with fail
    go_ret
    exact ⟨rfl, Fp, HO.out.below hal, fun b hb => .inl hb, Step.of hal⟩
  obtain ⟨W, K, rfl, rfl, hW1, hW, hK, hlt, hmod⟩ := pfits_true hf
  have HF := Lib.hid hf
  have hE := h2 K (pre W key K)
  go_enter Try.func38, Try.ntmps38
  go_wp2_with fail
  refine (pfxFits_any _ _ _ _ _ _ _ _ _ _ H1.out hw hk hkey).mono ?_
  rintro e w' ⟨rfl, rfl⟩
  rw [HF.out]
  go_wp2_with fail
  refine (pfxAt_any gt W K key most n M adr dat _ H1.out hW hK hkey hlt).mono ?_
  rintro e w2 ⟨rfl, hb2⟩
  have hB2 := ov hal hb2
  have H2 := Lib.hid (H1.out.below hb2)
  have hbox : w2.cell? ⟨w.heap.size, 0, none⟩ = some (.int .i64 act) ∧ w2.cell? ⟨w.heap.size, 1, none⟩ = some (.slice ao an ac) := by
    obtain ⟨x, y⟩ := (Blk.new w 37 #[.int .i64 act, .slice ao an ac]).two
    exact ⟨keep x hb2, keep y hb2⟩
  obtain ⟨hx0, hx1⟩ := hbox
  have hxz : w.heap.size < w2.heap.size := by have := hb2.size; simp at this; omega
  clear hb2 hal
  have hcs : (∃ g, adr K (pre W key K) = some g ∧ (dat K (pre W key K)).there = true) ∨ (E K (pre W key K) = none ∧ (adr K (pre W key K) = none ∨ ∃ g, adr K (pre W key K) = some g ∧ (dat K (pre W key K)).there = false)) := by
    cases e : adr K (pre W key K) with
    | none => exact .inr ⟨by rw [← hE, ent_none e], .inl rfl⟩
    | some g =>
      cases t : (dat K (pre W key K)).there with
      | true => exact .inl ⟨g, rfl, rfl⟩
      | false => exact .inr ⟨by rw [← hE, ent_some e, t]; rfl, .inr ⟨g, rfl, rfl⟩⟩
  rcases hcs with ⟨g, e, t⟩ | ⟨hE0, hcs⟩
  · have hc : Hid (pfxChgC (W : Int) E key (K : Int) = 0) := by
      show _ = _
      unfold pfxChgC
      rw [if_neg (by rw [HF.out]; decide), if_pos]
      show (E K (pre W key K)).isSome = true
      rw [← hE, ent_some e, t]; rfl
    rw [e, ptr_some]
    obtain ⟨_, _, _, y0, _, _, _, _, _, hgz, hfz⟩ := H2.out.trie.cells e
    rw [t] at y0
    have hnb : ∀ i v b, adr i v = some b → b < w.heap.size := fun i v b hb => h6 b (h5 i v b hb)
    have hr2 : Rd w2 .u64 ao an ac args := hr.below hB2
    obtain ⟨⟨na, nn, nc, B3, _, _⟩, nM⟩ := H2.out.trie.node _ _ _ e
    rw [t] at B3
    have hgne : ¬ w.heap.size = g := fun hh => by have := hnb _ _ _ e; omega
    have HT := Lib.hid t
    have HE := Lib.hid e
    have H24 := Lib.hid (And.intro h2 h4)
    have H5 := Lib.hid h5
    have H6 := Lib.hid h6
    clear hE t e h2 h4 h5 h6 h1 hnb
    go_wp2_with fail
    go_region_law ((first
        | (go_simp; go_at_call 83; refine (CloneNums_any _ _ _ _ _ ((hr2.below (Below.drew0_ w2)).below (rf _)) han).mono ?_; rintro e w4 ⟨r4, rfl, hm4, hb4⟩; obtain ⟨a4, c4, rfl⟩ := hm4.form; have B4 : Blk w4 g _ _ := Blk.below (w := w2.drew) B3 hb4 B3.lt; have m0 := B4.cell 0; have m1 := B4.cell 1; have m2 := B4.cell 2; simp at m0 m1 m2; have mf0 := B4.frozen 0; have mf1 := B4.frozen 1; have mf2 := B4.frozen 2; have mz := B4.lt; have m5 := keep (w := w2.drew) hx0 hb4; have m6 := keep (w := w2.drew) hx1 hb4; have m7 : w.heap.size < w4.heap.size := Nat.lt_of_lt_of_le hxz hb4.size)))
    all_goals
      have hFin := PfxObj.added n H24.out.1 h3 H24.out.2 H5.out H6.out hB2 (Grown.refl w2 adr dat) H2.out HE.out ((Below.drew0_ w2).trans hb4) hm4 hact
      have hPs := H2.out.said HE.out ((Below.drew0_ w2).trans hb4) hm4 hact
      have q1 := setCell_id hPs.blk (j := 2) (v := .int .i64 n) (by simp)
      rw [q1] at hFin
      have q2 := setCell_id B4 (j := 0) (v := .bool true) (by simp)
      unfold saidW at hFin
      rw [q2] at hFin
      have HFin := Lib.hid hFin
      clear hFin hPs q1 q2 m0 m1 m2 mf0 mf1 mf2 m5 m6 B4 B3 hx0 hx1 hm4 hb4
      generalize ((w4.setCell ⟨g, 1, none⟩ (.int .i64 act)).setCell ⟨g, 2, none⟩ (.slice a4 args.length c4)) = wF at *
      go_wp2_with fail
      go_ret
      have e2 := pfxChg_yes (show pfxChgC (W : Int) E key (K : Int) = 0 from hc.out) act args
      rw [hc.out, e2]
      exact ⟨rfl, HFin.out⟩
  have HE0 := Lib.hid hE0
  have hc : Hid (pfxChgC (W : Int) E key (K : Int) = 9) := by
    show _ = _
    unfold pfxChgC
    rw [if_neg (by rw [HF.out]; decide), if_neg]
    show ¬ (E K (pre W key K)).isSome = true
    rw [HE0.out]; decide
  have hmd : ∃ p : Value, ptr (adr K (pre W key K)) = p ∧ (p = .pointer none ∨ ∃ g, p = .pointer (some ⟨g, 0, none⟩) ∧ w2.cell? ⟨g, 0, none⟩ = some (.bool false) ∧ g < w2.heap.size) := by
    rcases hcs with e | ⟨g, e, t⟩
    · exact ⟨_, by rw [e]; rfl, .inl rfl⟩
    · obtain ⟨_, _, _, y0, _, _, _, _, _, hgz, _⟩ := H2.out.trie.cells e
      rw [t] at y0
      exact ⟨_, by rw [e]; rfl, .inr ⟨g, rfl, y0, hgz⟩⟩
  obtain ⟨p, hp, hpc⟩ := hmd
  rw [hp]
  clear hp hcs hE hE0 hx0 hx1 h1 h2 h4 h5 h6
  rcases hpc with rfl | ⟨g, rfl, y0, hgz⟩
  all_goals
    go_wp2_with fail
    go_ret
    have e2 := pfxChg_no (show pfxChgC (W : Int) E key (K : Int) ≠ 0 by rw [hc.out]; decide) act args
    rw [hc.out, e2]
    exact ⟨rfl, Fp, HO.out.step (S := fun _ => False) (Step.of hB2) (fun _ h => h.elim), fun b hb => .inl hb, Step.of hB2⟩
end Go.Proofs.Ytfakdapglbgokaa
