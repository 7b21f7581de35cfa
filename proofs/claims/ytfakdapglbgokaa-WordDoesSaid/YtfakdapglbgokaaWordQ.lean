/-
  Programs as bytes, plain. No program in sight. No condition.
-/
import Derived.Test.YtfakdapglbgokaaWordP
import Derived.Test.YtfakdapglbgokaaBitsP
namespace Go.Proofs.Ytfakdapglbgokaa
set_option linter.all false
open Go.RowKit

/-- A number of 64 bits as eight bytes, the highest first. -/
def numBytes (n : Int) : List Int := [n / 72057594037927936 % 256, n / 281474976710656 % 256, n / 1099511627776 % 256, n / 4294967296 % 256, n / 16777216 % 256, n / 65536 % 256, n / 256 % 256, n % 256]
def insBytes (x : Ins) : List Int := [x.op, x.r, x.s, x.k, x.to / 256, x.to % 256] ++ numBytes x.n
def shapeBytes (t : Shape) : List Int := [t.keys, t.acts, t.args]
def tabsTo (tabs : List Shape) : Nat → List Int
  | 0 => []
  | k + 1 => tabsTo tabs k ++ shapeBytes (nth tabs k)
def codeTo (code : List Ins) : Nat → List Int
  | 0 => []
  | k + 1 => codeTo code k ++ insBytes (nth code k)
def progBytes (p : Prog) : List Int :=
  (([83, 87, 1, p.slots, (p.tabs.length : Int)] ++ tabsTo p.tabs p.tabs.length) ++ [(p.code.length : Int) / 256, (p.code.length : Int) % 256]) ++ codeTo p.code p.code.length
theorem tabsTo_length (tabs : List Shape) (k : Nat) : (tabsTo tabs k).length = 3 * k := by
  induction k with
  | zero => rfl
  | succ k ih => simp only [tabsTo, List.length_append, ih]; simp [shapeBytes]; omega
theorem insBytes_length (x : Ins) : (insBytes x).length = 14 := rfl
theorem codeTo_length (code : List Ins) (k : Nat) : (codeTo code k).length = 14 * k := by
  induction k with
  | zero => rfl
  | succ k ih => simp only [codeTo, List.length_append, ih, insBytes_length]; omega
theorem progBytes_length (p : Prog) : (progBytes p).length = 7 + 3 * p.tabs.length + 14 * p.code.length := by
  unfold progBytes
  simp only [List.length_append, tabsTo_length, codeTo_length, List.length_cons, List.length_nil]
  omega

/-- What an instruction that may be has: bytes. -/
structure Ins.Small (x : Ins) : Prop where
  op : 0 ≤ x.op ∧ x.op ≤ 255
  r : 0 ≤ x.r ∧ x.r ≤ 255
  s : 0 ≤ x.s ∧ x.s ≤ 255
  k : 0 ≤ x.k ∧ x.k ≤ 255
  to : 0 ≤ x.to ∧ x.to ≤ 65535
theorem Ins.small {slots : Int} {tabs : List Shape} {x : Ins} {n i : Nat} (hs : 0 ≤ slots ∧ slots ≤ 96) (ht : ∀ t ∈ tabs, tabBad t = false) (hn : n ≤ 60000) (hx : x.wf) (h : insOk slots tabs x = true) (hj : jumpBad n i x = false) : x.Small := by
  unfold insOk formOk regsOk at h
  unfold jumpBad at hj
  simp only [Bool.and_eq_true, Bool.or_eq_true, decide_eq_true_eq] at h
  obtain ⟨⟨⟨⟨⟨⟨⟨ho, fr⟩, fs⟩, fk⟩, ft⟩, fn⟩, ⟨⟨hr, hs2⟩, hto⟩⟩, hkk⟩ := h
  have hop : 1 ≤ x.op ∧ x.op ≤ 18 := by unfold isOp at ho; simpa using ho
  have h13 : x.op = 13 → (0 ≤ x.s ∧ x.s ≤ 96) ∧ (0 ≤ x.k ∧ x.k ≤ 96) := by
    intro e
    unfold kindOk at hkk
    rw [e] at hkk
    simp at hkk
    obtain ⟨⟨a, b⟩, c⟩ := hkk
    have hn0 := hx.2.2.2.2.2.u64
    have hm := ht (nth tabs x.n.toNat) (by rw [nth_lt _ _ (by omega)]; exact List.getElem_mem _)
    have hm := tabBad_false hm
    unfold slotsOk at b c
    simp at b c
    omega
  have hK : x.op = 3 → (3 ≤ x.k ∧ x.k ≤ 12) := by intro e; unfold kindOk at hkk; rw [e] at hkk; simpa using hkk
  have hK6 : x.op = 6 → (1 ≤ x.k ∧ x.k ≤ 8) := by intro e; unfold kindOk at hkk; rw [e] at hkk; simp at hkk; omega
  have hK14 : x.op = 14 → (1 ≤ x.k ∧ x.k ≤ 8) := by intro e; unfold kindOk at hkk; rw [e] at hkk; simpa using hkk
  refine ⟨by omega, by omega, ?_, ?_, ?_⟩
  · rcases hs2 with e | e
    · have := h13 e; omega
    · omega
  · rcases fk with e | e
    · unfold hasK at e
      simp at e
      rcases e with e | e | e | e
      · have := hK e; omega
      · have := hK6 e; omega
      · have := h13 e; omega
      · have := hK14 e; omega
    · omega
  · rcases ft with e | e
    · rw [e] at hj
      simp at hj
      omega
    · omega
/-- A program that may be. -/
structure Valid (p : Prog) : Prop where
  slots : 0 ≤ p.slots ∧ p.slots ≤ 96
  tabs : p.tabs.length ≤ 5
  code : 1 ≤ p.code.length ∧ p.code.length ≤ 60000
  tab : ∀ j, j < p.tabs.length → tabBad (nth p.tabs j) = false
  ins : ∀ j, j < p.code.length → (nth p.code j).Small
theorem progF_valid {p : Prog} (hx : ∀ x ∈ p.code, x.wf) (h : (progF p).1 = 0) : Valid p ∧ (progF p).2 = 0 := by
  by_cases h1 : p.slots < 0 ∨ 96 < p.slots
  · rw [progF_slots h1] at h; cases h
  by_cases h2 : 5 < p.tabs.length ∨ p.code.length = 0 ∨ 60000 < p.code.length
  · rw [progF_many h1 h2] at h; cases h
  by_cases h3 : firstN (fun i => tabBad (nth p.tabs i)) p.tabs.length < p.tabs.length
  · rw [progF_tab h1 h2 (firstN_before _ _) h3 (firstN_at _ _ h3)] at h; cases h
  have h3' := firstN_all (fun i => tabBad (nth p.tabs i)) p.tabs.length (by have := firstN_le (fun i => tabBad (nth p.tabs i)) p.tabs.length; omega)
  by_cases h4 : firstN (insBad p.slots p.tabs p.code) p.code.length < p.code.length
  · rw [progF_ins h1 h2 h3' (firstN_before _ _) h4 (firstN_at _ _ h4)] at h
    simp only at h
    split at h <;> cases h
  have h4' := firstN_all (insBad p.slots p.tabs p.code) p.code.length (by have := firstN_le (insBad p.slots p.tabs p.code) p.code.length; omega)
  have he := progF_end h1 h2 h3' h4'
  have he2 : (progF p).2 = 0 := by
    rw [he] at h ⊢
    split at h
    · rename_i e; rw [if_pos e]
    · cases h
  refine ⟨⟨by omega, by omega, by omega, h3', fun j hj => ?_⟩, he2⟩
  have hb := h4' j hj
  unfold insBad at hb
  simp only [Bool.or_eq_false_iff, Bool.not_eq_false'] at hb
  refine Ins.small (n := p.code.length) (i := j) (by omega) ?_ (by omega) ?_ hb.1 hb.2
  · intro t ht
    obtain ⟨i, hi, rfl⟩ := List.getElem_of_mem ht
    rw [← nth_lt _ _ hi]
    exact h3' i hi
  · rw [nth_lt _ _ hj]
    exact hx _ (List.getElem_mem hj)

theorem div_pow (n : Int) (a b : Nat) : n / 2 ^ (a + b) = n / 2 ^ a / 2 ^ b := by
  have hp : (0 : Int) < 2 ^ a := Int.pow_pos (by omega)
  rw [Int.pow_add, Int.ediv_ediv, if_neg (by omega), Int.sub_zero]
theorem byte_of (y : Int) : 2 * (2 * (2 * (2 * (2 * (2 * (2 * (y / 2 ^ 7 % 2) + y / 2 ^ 6 % 2) + y / 2 ^ 5 % 2) + y / 2 ^ 4 % 2) + y / 2 ^ 3 % 2) + y / 2 ^ 2 % 2) + y / 2 ^ 1 % 2) + y / 2 ^ 0 % 2 = y % 256 := by
  simp only [Int.reducePow]
  omega
theorem numByte (n : Int) (i : Nat) (hi : i < 8) : byteF (el (numB n 64)) i = n / 2 ^ (56 - 8 * i) % 256 := by
  unfold byteF numB
  rw [el_mk _ _ _ (by omega), el_mk _ _ _ (by omega), el_mk _ _ _ (by omega), el_mk _ _ _ (by omega), el_mk _ _ _ (by omega), el_mk _ _ _ (by omega), el_mk _ _ _ (by omega), el_mk _ _ _ (by omega)]
  unfold nbit
  rw [show 64 - 1 - 8 * i = (56 - 8 * i) + 7 by omega, show 64 - 1 - (8 * i + 1) = (56 - 8 * i) + 6 by omega, show 64 - 1 - (8 * i + 2) = (56 - 8 * i) + 5 by omega, show 64 - 1 - (8 * i + 3) = (56 - 8 * i) + 4 by omega, show 64 - 1 - (8 * i + 4) = (56 - 8 * i) + 3 by omega, show 64 - 1 - (8 * i + 5) = (56 - 8 * i) + 2 by omega, show 64 - 1 - (8 * i + 6) = (56 - 8 * i) + 1 by omega, show 64 - 1 - (8 * i + 7) = (56 - 8 * i) + 0 by omega]
  simp only [div_pow n (56 - 8 * i)]
  exact byte_of _
/-- The eight bytes, by way of bits. -/
theorem numBytes_bits (n : Int) : bytesF (el (numB n 64)) 8 = numBytes n := by
  unfold bytesF mk numBytes
  rw [show List.range 8 = [0, 1, 2, 3, 4, 5, 6, 7] from rfl]
  simp only [List.map_cons, List.map_nil, numByte n 0 (by omega), numByte n 1 (by omega), numByte n 2 (by omega), numByte n 3 (by omega), numByte n 4 (by omega), numByte n 5 (by omega), numByte n 6 (by omega), numByte n 7 (by omega)]
  simp

end Go.Proofs.Ytfakdapglbgokaa
