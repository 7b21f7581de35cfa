/-
  Texts joined: XTerO XTerK XTerL XTerM XTrow XShPL XTerP XTerN XBv XTerR XTabE XTerV XTerQ XCtef XTerS XPfxP XPfxT XPfxY XPfxZ. No condition.
-/
import Derived.Test.YtefkifebgeagiaaRows
import Derived.Deep.QuietTactic
import Derived.BigQuiet
import Derived.WalkSmall
import Derived.Handy
import Derived.WalkSpells
import Derived.RegionTactic
import Derived.BigRegion
import Derived.Deep.RegionLaw
import Derived.Test.YtefkifebgeagiaaProg
import Derived.Deep.RegionHeld3
import Derived.Deep.DrawnRows
import Derived.Outline
import Derived.Test.YtefkifebgeagiaaTernaryFirstK3
namespace Go.Proofs.Ytefkifebgeagiaa
set_option linter.all false
open Go.RowKit
theorem qadc {a b : Int} : cmpI a b = 0 ↔ a = b := by unfold cmpI; split <;> (try split) <;> omega
theorem qaf7 {a b : Int} : cmpI a b < 0 ↔ a < b := by unfold cmpI; split <;> (try split) <;> omega
theorem qajq (a b : Int) : cmpI b a = - cmpI a b := by unfold cmpI; split <;> (try split) <;> omega
theorem qaeo : ∀ a b : List Int, cmpL b a = - cmpL a b
 | [], [] => rfl
 | [], _ :: _ => rfl
 | _ :: _, [] => rfl
 | x :: a, y :: b => by
  have h := qajq x y
  have ih := qaeo a b
  simp only [cmpL]
  split <;> split <;> omega
theorem qadt : ∀ a b : List Int, cmpL a b = 0 ↔ a = b
 | [], [] => by simp [cmpL]
 | [], _ :: _ => by simp [cmpL]
 | _ :: _, [] => by simp [cmpL]
 | x :: a, y :: b => by
  have ih := qadt a b
  have h := @qadc x y
  simp only [cmpL, List.cons.injEq]
  split
  ·constructor
   ·intro h0; omega
   ·intro h0; exact absurd (h.2 h0.1) ‹_›
  ·have : x = y := h.1 (by omega)
   simp [this, ih]
theorem qae4 : ∀ a b c : List Int, cmpL a b ≤ 0 → cmpL b c ≤ 0 → cmpL a c ≤ 0
 | [], b, [], _, _ => by simp [cmpL]
 | [], b, _ :: _, _, _ => by simp [cmpL]
 | _ :: _, [], c, h, _ => by simp [cmpL] at h
 | _ :: _, _ :: _, [], _, h => by simp [cmpL] at h
 | x :: a, y :: b, z :: c, h1, h2 => by
  have ih := qae4 a b c
  have e1 := @qadc x y
  have e2 := @qadc y z
  have e3 := @qadc x z
  have n1 := @qaf7 x y
  have n2 := @qaf7 y z
  have n3 := @qaf7 x z
  simp only [cmpL] at h1 h2 ⊢
  split at h1 <;> split at h2 <;> split <;> first | omega | (exact ih h1 h2) | (exfalso; omega)
theorem qaq4 {a b c : List Int} (h1 : cmpL a b < 0) (h2 : cmpL b c ≤ 0) : cmpL a c < 0 := by
 have h := qae4 a b c (by omega) h2
 rcases Int.lt_or_eq_of_le h with h3 | h3
 ·exact h3
 ·have h4 := (qadt a c).1 h3
  subst h4
  have := qaeo a b
  omega
def leE (a b : Entry) : Prop := ordE a b ≤ 0
theorem qajc (a b : Entry) : ordE a b = if cmpI a.prio b.prio ≠ 0 then cmpI a.prio b.prio else if cmpL a.keys b.keys ≠ 0 then cmpL a.keys b.keys else cmpL a.masks b.masks := by
 unfold ordE
 simp only [orL]
 split
 ·rfl
 ·split
  ·rfl
  ·split <;> omega
theorem qaqp (a b : Entry) : ordE b a = - ordE a b := by
 rw [qajc, qajc]
 have h1 := qajq a.prio b.prio
 have h2 := qaeo a.keys b.keys
 have h3 := qaeo a.masks b.masks
 split <;> (try split) <;> (try split) <;> (try split) <;> omega
theorem qaqo (a b : Entry) : ordE a b = 0 ↔ a.prio = b.prio ∧ a.keys = b.keys ∧ a.masks = b.masks := by
 rw [qajc]
 have h1 := @qadc a.prio b.prio
 have h2 := qadt a.keys b.keys
 have h3 := qadt a.masks b.masks
 constructor
 ·intro h
  split at h
  ·omega
  ·split at h
   ·omega
   ·exact ⟨by omega, h2.1 (by omega), h3.1 h⟩
 ·rintro ⟨e1, e2, e3⟩
  rw [if_neg (by omega), if_neg (by have := h2.2 e2; omega)]
  exact h3.2 e3
theorem qat2 (a b : Entry) : leE a b ↔ a.prio < b.prio ∨ (a.prio = b.prio ∧ (cmpL a.keys b.keys < 0 ∨ (a.keys = b.keys ∧ cmpL a.masks b.masks ≤ 0))) := by
 unfold leE
 rw [qajc]
 have h1 := @qadc a.prio b.prio
 have h1' := @qaf7 a.prio b.prio
 have h2 := qadt a.keys b.keys
 constructor
 ·intro h
  split at h
  ·exact .inl (by omega)
  ·refine .inr ⟨by omega, ?_⟩
   split at h
   ·exact .inl (by omega)
   ·exact .inr ⟨h2.1 (by omega), h⟩
 ·rintro (h | ⟨h, h3 | ⟨h3, h4⟩⟩)
  ·rw [if_pos (by omega)]; omega
  ·rw [if_neg (by omega), if_pos (by omega)]; omega
  ·rw [if_neg (by omega), if_neg (by have := h2.2 h3; omega)]; exact h4
theorem qadq {a b c : Entry} (h1 : leE a b) (h2 : leE b c) : leE a c := by
 rw [qat2] at *
 rcases h1 with h1 | ⟨e1, h1 | ⟨f1, h1⟩⟩ <;> rcases h2 with h2 | ⟨e2, h2 | ⟨f2, h2⟩⟩
 ·exact .inl (by omega)
 ·exact .inl (by omega)
 ·exact .inl (by omega)
 ·exact .inl (by omega)
 ·exact .inr ⟨by omega, .inl (qaq4 h1 (by omega))⟩
 ·exact .inr ⟨by omega, .inl (by rw [← f2]; exact h1)⟩
 ·exact .inl (by omega)
 ·exact .inr ⟨by omega, .inl (by rw [f1]; exact h2)⟩
 ·exact .inr ⟨by omega, .inr ⟨f1.trans f2, qae4 _ _ _ h1 h2⟩⟩
theorem qamz {a b : Entry} (h : ¬ ordE a b < 0) : leE b a := by
 unfold leE; rw [qaqp a b]; omega
theorem qaqv {a b : Entry} (h : ordE a b < 0) : leE a b := by unfold leE; omega
theorem qaif (a : Entry) : leE a a := by unfold leE; rw [(qaqo a a).2 ⟨rfl, rfl, rfl⟩]; omega
def e0E : Entry := ⟨[], [], 0, 0, 0, []⟩
def atE (l : List Entry) (i : Nat) : Entry := l[i]?.getD e0E
theorem qavs {l : List Entry} {i : Nat} (h : i < l.length) : atE l i = l[i] := by unfold atE; rw [List.getElem?_eq_getElem h]; rfl
theorem qauz {l : List Entry} {i j : Nat} (h : qaeb l i j = true) : leE (atE l i) (atE l j) := by
 unfold qaeb at h
 split at h
 ·rename_i a b h1 h2
  unfold atE; rw [h1, h2]; exact qaqv (by simpa using h)
 ·cases h
theorem qau0 {l : List Entry} {i j : Nat} (hi : i < l.length) (hj : j < l.length) (h : qaeb l i j = false) : leE (atE l j) (atE l i) := by
 rw [qamw hi hj] at h
 rw [qavs hi, qavs hj]
 exact qamz (by simpa using h)
theorem qajz {l : List Entry} {i j : Nat} (hi : i < l.length) (hj : j < l.length) (k : Nat) : atE (qach l i j) k = if k = j then atE l i else if k = i then atE l j else atE l k := by
 rw [qah2 hi hj]
 unfold atE
 rw [List.getElem?_set, List.getElem?_set]
 by_cases e1 : k = j
 ·subst e1
  rw [if_pos rfl, if_pos rfl, if_pos (by simpa using hj), List.getElem?_eq_getElem hi]
 ·rw [if_neg (Ne.symm e1), if_neg e1]
  by_cases e2 : k = i
  ·subst e2
   rw [if_pos rfl, if_pos rfl, if_pos hi, List.getElem?_eq_getElem hj]
  ·rw [if_neg (Ne.symm e2), if_neg e2]
def HeapN (n : Nat) (l : List Entry) : Prop := ∀ i, 0 < i → i < n → leE (atE l ((i - 1) / 2)) (atE l i)
def UpP (n : Nat) (l : List Entry) (j : Nat) : Prop := (∀ i, 0 < i → i < n → i ≠ j → leE (atE l ((i - 1) / 2)) (atE l i)) ∧ (0 < j → ∀ i, 0 < i → i < n → (i - 1) / 2 = j → leE (atE l ((j - 1) / 2)) (atE l i))
theorem qahw : ∀ (f : Nat) (l : List Entry) (j n : Nat), n ≤ l.length → j < n → j < f → UpP n l j → HeapN n (upL f l j) ∧ ∀ k, j < k → atE (upL f l j) k = atE l k
 | f + 1, l, j, n, hn, hj, hf, ⟨h1, h2⟩ => by
  rw [upL]
  by_cases hc : (j - 1) / 2 = j ∨ qaeb l j ((j - 1) / 2) = false
  ·rw [if_pos hc]
   refine ⟨fun i hi hin => ?_, fun _ _ => rfl⟩
   by_cases e : i = j
   ·subst e
    rcases hc with hc | hc
    ·omega
    ·exact qau0 (by omega) (by omega) hc
   ·exact h1 i hi hin e
  ·rw [if_neg hc]
   obtain ⟨p, hp⟩ : ∃ p, p = (j - 1) / 2 := ⟨_, rfl⟩
   rw [← hp] at hc ⊢
   have hpj : p < j := by have : p ≠ j := fun e => hc (.inl e); omega
   have hl : leE (atE l j) (atE l p) := qauz (by cases h : qaeb l j p <;> simp_all)
   have hs := qajz (l := l) (i := p) (j := j) (by omega) (by omega)
   have ih := qahw f (qach l p j) p n (by rw [qacf]; exact hn) (by omega) (by omega) ⟨fun i hi hin hip => ?_, fun hp0 i hi hin hip => ?_⟩
   ·refine ⟨ih.1, fun k hk => ?_⟩
    rw [ih.2 k (by omega), hs, if_neg (by omega), if_neg (by omega)]
   ·rw [hs, hs]
    by_cases e1 : i = j
    ·subst e1
     rw [← hp, if_neg (by omega), if_pos rfl, if_pos rfl]; exact hl
    ·rw [if_neg e1, if_neg hip]
     by_cases e2 : (i - 1) / 2 = j
     ·rw [if_pos e2, hp]; exact h2 (by omega) i hi hin e2
     ·rw [if_neg e2]
      by_cases e3 : (i - 1) / 2 = p
      ·rw [if_pos e3]
       have := h1 i hi hin e1
       rw [e3] at this
       exact qadq hl this
      ·rw [if_neg e3]; exact h1 i hi hin e1
   ·rw [hs, hs, if_neg (by omega : ¬ (p - 1) / 2 = j), if_neg (by omega : ¬ (p - 1) / 2 = p)]
    have h3 := h1 p hp0 (by omega) (by omega)
    by_cases e1 : i = j
    ·rw [if_pos e1]; exact h3
    ·rw [if_neg e1, if_neg (by omega)]
     have := h1 i hi hin e1
     rw [hip] at this
     exact qadq h3 this
theorem qah3 {l : List Entry} {i n : Nat} (hn : n ≤ l.length) (h : 2 * i + 1 < n) : (sonL l i n - 1) / 2 = i ∧ ∀ k, 0 < k → k < n → (k - 1) / 2 = i → leE (atE l (sonL l i n)) (atE l k) := by
 unfold sonL
 by_cases hc : 2 * i + 1 + 1 < n ∧ qaeb l (2 * i + 1 + 1) (2 * i + 1) = true
 ·rw [if_pos hc]
  refine ⟨by omega, fun k h1 h2 h3 => ?_⟩
  have : k = 2 * i + 1 ∨ k = 2 * i + 1 + 1 := by omega
  rcases this with rfl | rfl
  ·exact qauz hc.2
  ·exact qaif _
 ·rw [if_neg hc]
  refine ⟨by omega, fun k h1 h2 h3 => ?_⟩
  have : k = 2 * i + 1 ∨ k = 2 * i + 1 + 1 := by omega
  rcases this with rfl | rfl
  ·exact qaif _
  ·refine qau0 (by omega) (by omega) ?_
   cases h : qaeb l (2 * i + 1 + 1) (2 * i + 1)
   ·rfl
   ·exact absurd ⟨h2, h⟩ hc
theorem qae1 : ∀ (f : Nat) (l : List Entry) (i n i0 : Nat), n ≤ l.length → n - i < f → i0 ≤ i → (∀ k, 0 < k → k < n → (k - 1) / 2 ≠ i → k ≠ i0 → leE (atE l ((k - 1) / 2)) (atE l k)) → (0 < i → ∀ k, 0 < k → k < n → (k - 1) / 2 = i → leE (atE l ((i - 1) / 2)) (atE l k)) →
  (∀ k, 0 < k → k < n → k ≠ i0 → leE (atE (qac2 f l i n).1 ((k - 1) / 2)) (atE (qac2 f l i n).1 k)) ∧ (∀ k, k < i ∨ n ≤ k → atE (qac2 f l i n).1 k = atE l k) ∧ i ≤ (qac2 f l i n).2 ∧
   ((qac2 f l i n).2 = i → (qac2 f l i n).1 = l) ∧ (i < (qac2 f l i n).2 → 2 * i + 1 < n ∧ atE (qac2 f l i n).1 i = atE l (sonL l i n))
 | f + 1, l, i, n, i0, hn, hf, h0, hA, hB => by
  rw [qac2]
  by_cases hc : n ≤ 2 * i + 1 ∨ qaeb l (sonL l i n) i = false
  ·rw [if_pos hc]
   refine ⟨fun k hk hkn hk0 => ?_, fun k _ => rfl, Nat.le_refl _, fun _ => rfl, fun h => absurd h (Nat.lt_irrefl _)⟩
   by_cases e : (k - 1) / 2 = i
   ·rcases hc with hc | hc
    ·omega
    ·have hin : 2 * i + 1 < n := by omega
     obtain ⟨s1, s2⟩ := qah3 hn hin
     obtain ⟨s3, s4⟩ := qage l i n hin
     show leE (atE l ((k - 1) / 2)) (atE l k)
     rw [e]
     exact qadq (qau0 (i := sonL l i n) (j := i) (by omega) (by omega) hc) (s2 k hk hkn e)
   ·exact hA k hk hkn e hk0
  ·rw [if_neg hc]
   have hin : 2 * i + 1 < n := Nat.lt_of_not_le fun e => hc (.inl e)
   obtain ⟨s1, s2⟩ := qah3 hn hin
   obtain ⟨s3, s4⟩ := qage l i n hin
   have hl : leE (atE l (sonL l i n)) (atE l i) := qauz (by cases h : qaeb l (sonL l i n) i <;> simp_all)
   generalize sonL l i n = s at *
   have hs := qajz (l := l) (i := i) (j := s) (by omega) (by omega)
   have ih := qae1 f (qach l i s) s n i0 (by rw [qacf]; exact hn) (by omega) (by omega) (fun k hk hkn hp hk0 => ?_) (fun hs0 k hk hkn hp => ?_)
   ·obtain ⟨q1, q2, q3, q4, q5⟩ := ih
    refine ⟨q1, fun k hk => ?_, by omega, fun h => absurd h (by omega), fun _ => ⟨hin, ?_⟩⟩
    ·rw [q2 k (by omega), hs, if_neg (by omega), if_neg (by omega)]
    ·rw [q2 i (.inl s3), hs, if_neg (by omega), if_pos rfl]
   ·rw [hs, hs]
    by_cases e1 : (k - 1) / 2 = i
    ·rw [e1, if_neg (by omega : ¬ i = s), if_pos rfl]
     by_cases e2 : k = s
     ·rw [if_pos e2]; exact hl
     ·rw [if_neg e2, if_neg (by omega)]; exact s2 k hk hkn e1
    ·have ks : k ≠ s := fun e => by subst e; exact e1 s1
     rw [if_neg ks, if_neg hp, if_neg e1]
     by_cases e2 : k = i
     ·subst e2
      rw [if_pos rfl]; exact hB hk s (by omega) s4 s1
     ·rw [if_neg e2]; exact hA k hk hkn e1 hk0
   ·rw [hs, hs, s1, if_neg (by omega : ¬ i = s), if_pos rfl, if_neg (by omega : ¬ k = s), if_neg (by omega : ¬ k = i)]
    have := hA k hk hkn (by omega) (by omega)
    rw [hp] at this; exact this
theorem qau5 {n : Nat} {l : List Entry} (h : HeapN n l) : ∀ k, k < n → leE (atE l 0) (atE l k) := by
 intro k
 induction k using Nat.strongRecOn with
 | _ k ih =>
  intro hk
  rcases Nat.eq_zero_or_pos k with rfl | h0
  ·exact qaif _
  ·exact qadq (ih ((k - 1) / 2) (by omega) (by omega)) (h k h0 hk)
def Heap (l : List Entry) : Prop := HeapN l.length l
theorem qau4 : Heap [] := fun i _ h => by simp at h
theorem qaqj {l : List Entry} (h : Heap l) (e : Entry) : Heap (qamd l e) := by
 have hl : (qamd l e).length = l.length + 1 := by rw [(qact l e).length_eq]; simp
 unfold Heap
 rw [hl]
 refine (qahw (l.length + 1) (l ++ [e]) l.length (l.length + 1) (by simp) (by omega) (by omega) ⟨fun i hi hin hne => ?_, fun _ i hi hin hp => ?_⟩).1
 ·have a1 : ∀ k, k < l.length → atE (l ++ [e]) k = atE l k := fun k hk => by unfold atE; rw [List.getElem?_append_left hk]
  rw [a1 _ (by omega), a1 _ (by omega)]
  exact h i hi (by omega)
 ·omega
theorem qafo {l : List Entry} {k : Nat} (h : k < l.length - 1) : atE l.dropLast k = atE l k := by
 unfold atE; rw [List.getElem?_dropLast, if_pos h]
theorem qad7 {l : List Entry} (h : HeapN (l.length - 1) l) : Heap l.dropLast := fun i hi hin => by
 rw [List.length_dropLast] at hin
 rw [qafo hin, qafo (by omega)]
 exact h i hi hin
theorem qaul {l : List Entry} (h : Heap l) (h0 : 0 < l.length) : Heap (popL l).dropLast ∧ atE (popL l) (l.length - 1) = atE l 0 := by
 have hl : (popL l).length = l.length := (qab1 l).length_eq
 have hs := qajz (l := l) (i := 0) (j := l.length - 1) h0 (by omega)
 obtain ⟨q1, q2, -, -, -⟩ := qae1 (l.length - 1 - 0 + 1) (qach l 0 (l.length - 1)) 0 (l.length - 1) 0 (by rw [qacf]; omega) (by omega) (Nat.le_refl _) (fun k hk hkn hp _ => by
  rw [hs, hs, if_neg (by omega), if_neg hp, if_neg (by omega), if_neg (by omega)]
  exact h k hk (by omega)) (fun h => absurd h (by omega))
 refine ⟨qad7 ?_, ?_⟩
 ·rw [hl]; exact fun i hi hin => q1 i hi hin (by omega)
 ·unfold popL
  rw [q2 _ (.inr (Nat.le_refl _)), hs, if_pos rfl]
theorem qauk {l : List Entry} (h : Heap l) (i : Nat) (hi : i < l.length) : Heap (remL l i).dropLast ∧ atE (remL l i) (l.length - 1) = atE l i := by
 have hl : (remL l i).length = l.length := (qado l i).length_eq
 have key : HeapN (l.length - 1) (remL l i) ∧ atE (remL l i) (l.length - 1) = atE l i := by
  unfold remL
  by_cases e : l.length - 1 = i
  ·rw [if_pos e, e]; exact ⟨fun k hk hkn => h k hk (by omega), rfl⟩
  ·rw [if_neg e]
   have hs := qajz (l := l) (i := i) (j := l.length - 1) hi (by omega)
   have hA : ∀ k, 0 < k → k < l.length - 1 → (k - 1) / 2 ≠ i → k ≠ i → leE (atE (qach l i (l.length - 1)) ((k - 1) / 2)) (atE (qach l i (l.length - 1)) k) := fun k hk hkn hp hki => by
    rw [hs, hs, if_neg (by omega), if_neg hp, if_neg (by omega), if_neg hki]
    exact h k hk (by omega)
   have hB : 0 < i → ∀ k, 0 < k → k < l.length - 1 → (k - 1) / 2 = i → leE (atE (qach l i (l.length - 1)) ((i - 1) / 2)) (atE (qach l i (l.length - 1)) k) := fun h0 k hk hkn hp => by
    rw [hs, hs, if_neg (by omega), if_neg (by omega), if_neg (by omega), if_neg (by omega)]
    have h3 := h k hk (by omega)
    rw [hp] at h3
    exact qadq (h i h0 hi) h3
   have hsl : (qach l i (l.length - 1)).length = l.length := qacf _ _ _
   obtain ⟨q1, q2, q3, q4, q5⟩ := qae1 (l.length - 1 - i + 1) (qach l i (l.length - 1)) i (l.length - 1) i (by rw [hsl]; omega) (by omega) (Nat.le_refl _) (fun k hk hkn hp hk0 => hA k hk hkn hp hk0) hB
   have hsn := @qah3 (qach l i (l.length - 1)) i (l.length - 1) (by rw [hsl]; omega)
   have hsl2 := qage (qach l i (l.length - 1)) i (l.length - 1)
   have hlast : atE (qach l i (l.length - 1)) (l.length - 1) = atE l i := by rw [hs, if_pos rfl]
   have hdl : (qac2 (l.length - 1 - i + 1) (qach l i (l.length - 1)) i (l.length - 1)).1.length = l.length := by rw [(qab8 _ _ _ _).length_eq, hsl]
   generalize qach l i (l.length - 1) = S at *
   generalize qac2 (l.length - 1 - i + 1) S i (l.length - 1) = d at *
   by_cases hm : i < d.2
   ·rw [if_pos hm]
    refine ⟨fun k hk hkn => ?_, by rw [q2 _ (.inr (Nat.le_refl _)), hlast]⟩
    by_cases e1 : k = i
    ·subst e1
     obtain ⟨r1, r2⟩ := q5 hm
     rw [r2, q2 _ (.inl (by omega))]
     exact hB hk _ (by have := hsl2 r1; omega) (hsl2 r1).2 (hsn r1).1
    ·exact q1 k hk hkn e1
   ·rw [if_neg hm]
    have hd := q4 (by omega)
    rw [hd] at q1 hdl ⊢
    obtain ⟨u1, u2⟩ := qahw (i + 1) S i (l.length - 1) (by omega) (by omega) (by omega) ⟨q1, hB⟩
    exact ⟨u1, by rw [u2 _ (by omega), hlast]⟩
 exact ⟨qad7 (by rw [hl]; exact key.1), key.2⟩
def qap8 : Nat → List Entry → List Entry
 | 0, _ => []
 | f + 1, l => match (popL l).getLast? with
  | some x => towE x :: qap8 f (popL l).dropLast
  | none => []
def qafr (l : List Entry) : List Entry := qap8 l.length l
theorem qah8 {l : List Entry} (h0 : 0 < l.length) : (popL l).getLast? = some (atE (popL l) (l.length - 1)) ∧ popL l = (popL l).dropLast ++ [atE (popL l) (l.length - 1)] := by
 have hl : (popL l).length = l.length := (qab1 l).length_eq
 rcases List.eq_nil_or_concat (popL l) with h | ⟨L, x, h⟩
 ·rw [h] at hl; simp at hl; omega
 ·have hLl : L.length = l.length - 1 := by rw [h] at hl; simp at hl; omega
  have : atE (popL l) (l.length - 1) = x := by unfold atE; rw [h, ← hLl]; simp
  rw [this, h]; simp
theorem qaes : ∀ (f : Nat) (l : List Entry), l.length ≤ f → (qap8 f l).Perm (l.map towE)
 | 0, l, h => by rw [List.eq_nil_of_length_eq_zero (l := l) (by omega)]; exact .refl _
 | f + 1, l, h => by
  rw [qap8]
  rcases Nat.eq_zero_or_pos l.length with h0 | h0
  ·have : l = [] := List.eq_nil_of_length_eq_zero h0
   subst this
   have hp : popL [] = [] := List.Perm.eq_nil (qab1 [])
   rw [hp]; exact .refl _
  ·obtain ⟨p1, p2⟩ := qah8 h0
   have hl : (popL l).length = l.length := (qab1 l).length_eq
   rw [p1]
   refine ((qaes f _ (by rw [List.length_dropLast]; omega)).cons _).trans ?_
   refine .trans ?_ ((qab1 l).map towE)
   rw [← List.map_cons]
   refine .map _ ?_
   conv => rhs; rw [p2]
   exact (List.perm_append_singleton _ _).symm
theorem qaer : ∀ (f : Nat) (l : List Entry), l.length ≤ f → Heap l → (qap8 f l).Pairwise leE
 | 0, l, h, _ => .nil
 | f + 1, l, h, hh => by
  rw [qap8]
  rcases Nat.eq_zero_or_pos l.length with h0 | h0
  ·have : l = [] := List.eq_nil_of_length_eq_zero h0
   subst this
   have hp : popL [] = [] := List.Perm.eq_nil (qab1 [])
   rw [hp]; exact .nil
  ·obtain ⟨p1, p2⟩ := qah8 h0
   obtain ⟨q1, q2⟩ := qaul hh h0
   have hl : (popL l).length = l.length := (qab1 l).length_eq
   have hd : (popL l).dropLast.length ≤ f := by rw [List.length_dropLast]; omega
   rw [p1, q2]
   refine .cons (fun y hy => ?_) (qaer f _ hd q1)
   have hy2 := (qaes f _ hd).mem_iff.1 hy
   obtain ⟨z, hz, rfl⟩ := List.mem_map.1 hy2
   have hz2 : z ∈ l := (qab1 l).mem_iff.1 ((List.dropLast_sublist _).mem hz)
   obtain ⟨k, hk, rfl⟩ := List.mem_iff_getElem.1 hz2
   have := qau5 hh k hk
   rw [qavs hk] at this
   exact this
theorem qalw (l : List Entry) : (qafr l).Perm (l.map towE) := qaes _ _ (Nat.le_refl _)
theorem qah0 {l : List Entry} (h : Heap l) : (qafr l).Pairwise leE := qaer _ _ (Nat.le_refl _) h
end Go.Proofs.Ytefkifebgeagiaa
namespace Go.Proofs.Ytefkifebgeagiaa
set_option linter.all false
open Go.RowKit
attribute [local simp] qaar qaaq qaac qaai qaad qaah qaao qaap qaab qaa5 SOp.run SX.ev putd puts argS upds SOp.touch SSt.keep SSt.skip gets geth puth delh idOf SV.cells? setL qab5 qab6 sbin eq0 eq1 eqL qab4 qabe qabf qaas qaat qaaa qaau qaa6 qaae qaal FrzOk qaa9 qaa1 qaa7 qaa8 qaav qaa0 qabc qaa2 qaax qaba qaaw frzS frzH frz frz1 frz0 SlotsM ObjsM ObjM rn ren ren1 ren0 qabl qab0 qab3 qabk qabd qabz qab2 CoL qabb qabu dels adds idsH qabn
attribute [local irreducible] qace
theorem qamx {k m : Int} {l : List Entry} : Lent (hobj (some (k, m)) l) (.ptr 0 0) (.cp (qavz k m l)) := by
 refine qaie (t := 70) (cs := hcs (some (k, m)) l.length) rfl ⟨qac8 _, qac8 _, qaid (e := 29) rfl (qaee _ _) (by simp), trivial⟩ ?_
 intro x hx
 simp only [qavz, List.mem_cons, List.not_mem_nil, or_false] at hx
 rcases hx with rfl | rfl | rfl
 ·exact qadx _ _
 ·exact qadx _ _
 ·exact qaeg _ _
theorem qatj (k m : Int) (l : List Entry) (e : Entry) (he : qacb e) (q : Nat) : SCalls Try.prog 29 [.ptr 0 0, .agg (qaag e)] (hobj (some (k, m)) l) q (.bool (qafq k e)) (hobj (some (k, m)) l) :=
 qacs (tfits_s k m l e he q) ⟨qamx, qac8 _, trivial⟩ (qag0 _)
theorem tat_o (k m : Int) (l : List Entry) (e : Entry) (hl : l.length ≤ 1000000) (hs : ∀ x ∈ l, qacb x) (he : qacb e) (q : Nat) : SCalls Try.prog 30 [.ptr 0 0, .agg (qaag e)] (hobj (some (k, m)) l) q (.int .i64 (tatV l e)) (hobj (some (k, m)) l) :=
 qacs (tat_s k m l e hl hs he q) ⟨qamx, qac8 _, trivial⟩ (qaf8 _ _)
theorem qaez {X : Cx} {s : SSt} {c : qacl} {l : List Entry} {t : Nat} {n : Int} (hm : X.m = 1) (hw : Wk X s ⟨[(t, .int .i64 n)], hobj c l, 2⟩) : QFun X [.tmp t] 1 (.int .i64 n) [(0, .abs (qacq c l))] .ret s := by
 have h1 : Wk X s ⟨[(t, .int .i64 n)], [(0, .abs (qacq c l))], 2⟩ := hw.trans (qahv ⟨rfl, rfl, trivial⟩)
 have h2 : Wk X ⟨[(t, .int .i64 n)], [(0, .abs (qacq c l))], 2⟩ ⟨[(t, .int .i64 n)], [(0, .abs (qacq c l))], 1⟩ := qaa3 [] hm ⟨by simp only [gets, if_true]; exact Co.refl _, trivial⟩ ⟨⟨_, rfl, rfl⟩, trivial⟩ rfl (Nat.le_refl _)
 exact ⟨_, h1.trans h2, by simp [qafw, resL, resV, one_, gets], ⟨rfl, trivial⟩, by simp⟩
def dropV (k : Int) (l : List Entry) (e : Entry) : Int := if qafq k e = false then 6 else if tatV l e < 0 then 9 else 0
def qalp (k : Int) (l : List Entry) (e : Entry) : List Entry := if qafq k e = false then l else if tatV l e < 0 then l else (remL l (tatV l e).toNat).dropLast
theorem qatm (l : List Entry) (e : Entry) (h : ¬ tatV l e < 0) : ∃ i : Nat, tatV l e = i ∧ i < l.length := by
 unfold tatV idxV at h ⊢
 split at h
 ·rename_i i hi
  exact ⟨i, rfl, (List.findIdx?_eq_some_iff_getElem.1 hi).1⟩
 ·omega
theorem tdrop_s (k m : Int) (l : List Entry) (e : Entry) (hl : l.length ≤ 1000000) (hs : ∀ x ∈ l, qacb x) (he : qacb e) : SCalls Try.prog 9 [.ptr 0 0, .agg (qaag e)] [(0, .abs (qacq (some (k, m)) l))] 1 (.int .i64 (dropV k l e)) [(0, .abs (qacq (some (k, m)) (qalp k l e)))] := by
 have k1 := fun q => qatj k m l e he q
 have k2 := fun q => tat_o k m l e hl hs he q
 have hv : dropV k l e = if qafq k e = false then 6 else if tatV l e < 0 then 9 else 0 := rfl
 have hr : qalp k l e = if qafq k e = false then l else if tatV l e < 0 then l else (remL l (tatV l e).toNat).dropLast := rfl
 have k3 : ∀ i : Nat, tatV l e = i → i < l.length → ∀ q, 2 ≤ q → SCalls Try.prog 31 [.ifc 73 (.ptr 0 2), .int .i64 i] (hobj (some (k, m)) l) q (.ifc 29 (.agg (qaag ((remL l i).getLastD e)))) (hobj (some (k, m)) (remL l i).dropLast) := fun i _ hi q hq =>
  hrem_s (some (k, m)) l (remL l i).dropLast i hi ((remL l i).getLastD e) (by
   have hne : remL l i ≠ [] := by
    intro h0
    have := (qado l i).length_eq
    rw [h0] at this; simp at this; omega
   rcases List.eq_nil_or_concat (remL l i) with h0 | ⟨L', x, h0⟩
   ·exact absurd h0 hne
   ·rw [h0]; simp) hl hs q hq
 have hlt := qatm l e
 generalize dropV k l e = v at hv
 generalize qalp k l e = r at hr
 generalize qafq k e = a at k1 hv hr
 generalize tatV l e = b at k2 hv hr hlt k3
 refine qaan (N := 21) Try.func9 rfl rfl (by kernel_rfl) qais (by simp) (by repeat' (first | exact trivial | refine And.intro ?_ ?_ | rfl | decide | exact PureR.ren _)) (by repeat' (first | exact trivial | refine And.intro ?_ ?_ | rfl | decide | exact PureR.ren _)) ?_
 rintro X hP hN hm
 refine qadn (by omega) (by decide) (qaej _ l) fun hh h => ?_
 subst h
 unfold c_tdrop
 unfold qaag at k1 k2
 unfold qaag
 unfold hobj at k1 k2 k3
 unfold hobj
 cases a
 ·obtain rfl : v = 6 := by rw [hv, if_pos rfl]
  obtain rfl : r = l := by rw [hr, if_pos rfl]
  clear hlt k2 k3 hv hr
  repeat' (first | (with_reducible refine zA ?_) | ((with_reducible refine qaaf ?_); (try rw [hP]); simp -implicitDefEqProofs [*]) | ((with_reducible refine qaay ?_); (try simp only [qaas, qaaa, qaae])) | ((with_reducible refine qaak rfl (fun h => ?_) (fun h => ?_)) <;> have h' := h <;> (try simp at h') <;> (try subst h')) | (refine qacg (k1 _) ⟨rfl, rfl, trivial⟩ ⟨rfl, rfl, trivial⟩ ?_; simp -implicitDefEqProofs [*]) | ((with_reducible refine qaa3 [] hm ?_ ?_ ?_ ?_) <;> (try simp only [zT, puth, Nat.reduceEqDiff, reduceIte, Nat.reduceAdd])) | (with_reducible first | refine za ?_ ?_ | refine zb ?_ ?_ ?_ ?_ | refine zc ?_ ?_ ?_ ?_) | (with_reducible first | exact qaaj | exact qaam) | ((with_reducible first | refine zga ?_ | refine zgb ?_); rfl) | ((with_reducible refine zgc ?_); (first | (with_reducible rfl) | rfl | (simp; done))) | ((with_reducible refine zgd ?_); (first | omega | (simp; done))) | (exact Co.refl _) | (exact CoL.refl _) | ((refine qaez hm ?_; simp only [hobj])) | fail)
 ·by_cases hb : b < 0
  ·obtain rfl : v = 9 := by rw [hv, if_neg (by decide), if_pos hb]
   obtain rfl : r = l := by rw [hr, if_neg (by decide), if_pos hb]
   clear hlt k3 hv hr
   repeat' (first | (with_reducible refine zA ?_) | ((with_reducible refine qaaf ?_); (try rw [hP]); simp -implicitDefEqProofs [*]) | ((with_reducible refine qaaz ?_); (try simp -implicitDefEqProofs [*])) | ((with_reducible refine qaay ?_); (try simp only [qaas, qaaa, qaae])) | ((with_reducible refine qaak rfl (fun h => ?_) (fun h => ?_)) <;> have h' := h <;> (try simp at h') <;> (try subst h')) | ((first | refine qacg (k1 _) ⟨rfl, rfl, trivial⟩ ⟨rfl, rfl, trivial⟩ ?_ | refine qacg (k2 _) ⟨rfl, rfl, trivial⟩ ⟨rfl, rfl, trivial⟩ ?_); simp -implicitDefEqProofs [*]) | ((with_reducible refine qaa3 [] hm ?_ ?_ ?_ ?_) <;> (try simp only [zT, puth, Nat.reduceEqDiff, reduceIte, Nat.reduceAdd])) | (with_reducible first | refine za ?_ ?_ | refine zb ?_ ?_ ?_ ?_ | refine zc ?_ ?_ ?_ ?_) | (with_reducible first | exact qaaj | exact qaam) | ((with_reducible first | refine zga ?_ | refine zgb ?_); rfl) | ((with_reducible refine zgc ?_); (first | (with_reducible rfl) | rfl | (simp; done))) | ((with_reducible refine zgd ?_); (first | omega | (simp; done))) | (exact Co.refl _) | (exact CoL.refl _) | ((refine qaez hm ?_; simp only [hobj])) | fail)
  ·obtain ⟨i, rfl, hi⟩ := hlt hb
   have k4 := k3 i rfl hi
   obtain rfl : v = 0 := by rw [hv, if_neg (by decide), if_neg hb]
   rw [if_neg (by decide), if_neg hb, Int.toNat_natCast] at hr
   rw [← hr] at k4
   generalize (remL l i).getLastD e = x at k4
   clear hlt k3 hv hr
   repeat' (first | (with_reducible refine zA ?_) | ((with_reducible refine qaaf ?_); (try rw [hP]); simp -implicitDefEqProofs [*]) | ((with_reducible refine qaaz ?_); (try simp -implicitDefEqProofs [*])) | ((with_reducible refine qaay ?_); (try simp only [qaas, qaaa, qaae])) | ((with_reducible refine qaak rfl (fun h => ?_) (fun h => ?_)) <;> have h' := h <;> (try simp at h') <;> (try subst h')) | ((first | refine qacg (k1 _) ⟨rfl, rfl, trivial⟩ ⟨rfl, rfl, trivial⟩ ?_ | refine qacg (k2 _) ⟨rfl, rfl, trivial⟩ ⟨rfl, rfl, trivial⟩ ?_ | refine qac1 (k4 _ (by simp)) ⟨rfl, rfl, trivial⟩ ⟨rfl, rfl, trivial⟩ [] (by simp) ?_); simp -implicitDefEqProofs [*]) | ((with_reducible refine qaa3 [] hm ?_ ?_ ?_ ?_) <;> (try simp only [zT, puth, Nat.reduceEqDiff, reduceIte, Nat.reduceAdd])) | (with_reducible first | refine za ?_ ?_ | refine zb ?_ ?_ ?_ ?_ | refine zc ?_ ?_ ?_ ?_) | (with_reducible first | exact qaaj | exact qaam) | ((with_reducible first | refine zga ?_ | refine zgb ?_); rfl) | ((with_reducible refine zgc ?_); (first | (with_reducible rfl) | rfl | (simp; done))) | ((with_reducible refine zgd ?_); (first | omega | (simp; done))) | (exact Co.refl _) | (exact CoL.refl _) | ((refine qaez hm ?_; simp only [hobj])) | fail)
end Go.Proofs.Ytefkifebgeagiaa
namespace Go.Proofs.Ytefkifebgeagiaa
set_option linter.all false
open Go.RowKit
attribute [local simp] qaar qaaq qaac qaai qaad qaah qaao qaap qaab qaa5 SOp.run SX.ev putd puts argS upds SOp.touch SSt.keep SSt.skip gets geth puth delh idOf SV.cells? setL qab5 qab6 sbin eq0 eq1 eqL qab4 qabe qabf qaas qaat qaaa qaau qaa6 qaae qaal FrzOk qaa9 qaa1 qaa7 qaa8 qaav qaa0 qabc qaa2 qaax qaba qaaw frzS frzH frz frz1 frz0 SlotsM ObjsM ObjM rn ren ren1 ren0 qabl qab0 qab3 qabk qabd qabz qab2 CoL qabb qabu dels adds idsH qabn
theorem fin_ghn {X : Cx} {s : SSt} {c : qacl} {l : List Entry} {t : Nat} (hm : X.m = 0) (hw : Wk X s ⟨[(t, .ptr 0 0)], hobj c l, 2⟩) : QFun X [.tmp t] 0 (.ptr 0 0) [(0, .abs (qacq c l))] .ret s := by
 have h1 : Wk X s ⟨[(t, .ptr 0 0)], [(0, .abs (qacq c l))], 2⟩ := hw.trans (qahv ⟨rfl, rfl, trivial⟩)
 have h2 : Wk X ⟨[(t, .ptr 0 0)], [(0, .abs (qacq c l))], 2⟩ ⟨[(t, .ptr 0 0)], [(0, .abs (qacq c l))], 1⟩ := qaa3 [] hm ⟨by simp only [gets, if_true]; exact Co.refl _, trivial⟩ ⟨⟨_, rfl, rfl⟩, trivial⟩ rfl (Nat.zero_le _)
 exact ⟨_, h1.trans h2, by simp [qafw, resL, resV, one_, gets], ⟨rfl, trivial⟩, by simp⟩
theorem tnew_s (k m : Int) : SCalls Try.prog 8 [.int .i64 k, .int .i64 m] [] 0 (.ptr 0 0) [(0, .abs (qacq (some (k, m)) []))] := by
 refine qaan (N := 9) Try.func8 rfl rfl (by kernel_rfl) qakc (by simp) (by repeat' (first | exact trivial | refine And.intro ?_ ?_ | rfl | decide | exact PureR.ren _)) (by repeat' (first | exact trivial | refine And.intro ?_ ?_ | rfl | decide | exact PureR.ren _)) ?_
 rintro X hP hN hm
 unfold c_tnew
 repeat' (first | (with_reducible refine zA ?_) | ((with_reducible refine qaaf ?_); (try rw [hP]); simp -implicitDefEqProofs [*]) | ((with_reducible refine qaay ?_); (try simp only [qaas, qaaa, qaae])) | fail)
 refine qamc (qaqc 4 2 29 6 rfl rfl) ?_
 exact fin_ghn hm (qaa3 [(0, 4), (1, 6)] hm ⟨Co.refl _, trivial⟩ ⟨⟨_, rfl, rfl, CoL.refl _⟩, ⟨_, rfl, rfl, rfl, CoLL.refl _⟩, trivial⟩ rfl (Nat.zero_le _))
end Go.Proofs.Ytefkifebgeagiaa
namespace Go.Proofs.Ytefkifebgeagiaa
set_option linter.all false
open Go.RowKit
attribute [local simp] qaar qaaq qaac qaai qaad qaah qaao qaap qaab qaa5 SOp.run SX.ev putd puts argS upds SOp.touch SSt.keep SSt.skip gets geth puth delh idOf SV.cells? setL qab5 qab6 sbin eq0 eq1 eqL qab4 qabe qabf qaas qaat qaaa qaau qaa6 qaae qaal FrzOk qaa9 qaa1 qaa7 qaa8 qaav qaa0 qabc qaa2 qaax qaba qaaw frzS frzH frz frz1 frz0 SlotsM ObjsM ObjM rn ren ren1 ren0 qabl qab0 qab3 qabk qabd qabz qab2 CoL qabb qabu dels adds idsH qabn
theorem conf_o (g : FuncId) (b : Entry) (l : List Entry) (p : Entry → Bool) (c : qacl) (id : Nat) (h2 : 2 ≤ id) (hl : l.length ≤ 1000000) (hg : AskC g b l p) (q : Nat) : SCalls Try.prog 32 [.own 1 l.length, .fn (.func g) [] [.ptr id 0]] (hobj c l ++ [(id, .cells 29 (qaag b))]) q (.bool (decide (0 ≤ idxV l p))) (hobj c l ++ [(id, .cells 29 (qaag b))]) :=
 qacs (conf_s g b l p hl hg q) ⟨qaid (e := 29) rfl (qaee _ _) (by simp), qatz ⟨qaie (t := 29) (cs := qaag b) (by unfold hobj; simp only [List.cons_append, List.nil_append, geth]; rw [if_neg (by omega), if_neg (by omega), if_pos trivial]) (qaew _) (qamg b), trivial⟩, trivial⟩ (qag0 _)
end Go.Proofs.Ytefkifebgeagiaa
namespace Go.Proofs.Ytefkifebgeagiaa
set_option linter.all false
open Go.RowKit
instance : PureR ([] : List (List SV)) := ⟨fun _ => rfl, fun x hx => (by cases hx), fun x hx => (by cases hx)⟩
theorem qfun_wk {X : Cx} {rs : List ResultVar} {m : Nat} {r : SV} {h2 : Hp} {s s1 : SSt} (hw : Wk X s s1) (h : QFun X rs m r h2 .ret s1) : QFun X rs m r h2 .ret s := by
 obtain ⟨s', h1, h2, h3, h4⟩ := h
 exact ⟨s', hw.trans h1, h2, h3, h4⟩
end Go.Proofs.Ytefkifebgeagiaa
namespace Go.Proofs.Ytefkifebgeagiaa
set_option linter.all false
open Go.RowKit
theorem qafc {P : Program} {f : FuncId} {args : List SV} {N : Nat} {hh : Hp} {r : SV} (he : Enters P f) (hN : 0 < N) (hren : ∀ σ : Nat → Nat, (∀ i, i < N → σ i = i) → RenH σ hh) (hids : ∀ i ∈ idsH hh, i < N)
  (h : SCalls P f (.ptr 0 0 :: args) hh N r hh) (ha : ∀ σ, args.map (Go.Proofs.Ytefkifebgeagiaa.ren σ) = args) (hr : ∀ σ, Go.Proofs.Ytefkifebgeagiaa.ren σ r = r) (id q : Nat) : SCalls P f (.ptr id 0 :: args) [(id, .abs (qaqn N fun h => h = hh))] q r [(id, .abs (qaqn N fun h => h = hh))] := by
 refine qal5 he (fun O Fp w b vs hI hO hd hv => ?_) ha id q
 obtain ⟨h1, ρ, fp, c, hR, h0, hn, hobj, hdis, hlt, hF⟩ := hI
 have hR' : h1 = hh := hR
 subst hR'
 have hA : (fun k => O k ∨ Fp k) = fun k => O k ∨ Live h1 fp k := by funext k; rw [hF]
 rw [hA] at hobj hv
 refine (h.2 O ρ fp w (.pointer (some ⟨b, 0, none⟩) :: vs) ⟨hobj, hdis, fun k hk => ⟨hlt k hk, hd k ((hF k).2 hk)⟩, hO⟩ (Reps.cons (.ptr h0) (hv.mono (.refl _ _) (fun _ h _ => h) fun _ _ h => by cases h)) (fun id h3 _ => hn id h3)).mono ?_
 rintro e w' ⟨v, ρ', fp', rfl, q1, q2, q3, q4, q5, q6⟩
 have hfr : ρ' (N + 8) = none := by
  cases e : ρ' (N + 8) with
  | none => rfl
  | some p =>
   rcases q5 (N + 8) (by rw [e]; simp) with h3 | h3
   ·exact absurd (hn _ (by omega)) h3
   ·omega
 let σ : Nat → Nat := fun i => if i < N then i else N + 8
 have hσ : ∀ {i o}, geth h1 i = some o → i < N ∧ σ i = i := fun {i o} ho => by
  have := hids i (qack (by rw [ho]; simp))
  exact ⟨this, if_pos this⟩
 refine ⟨v, fun k => Live h1 fp' k, rfl, ⟨h1, fun i => ρ' (σ i), fp', c, rfl, ?_, fun i hi => ?_, fun i o ho => ?_, q1.disj, fun k hk => (q1.lt k hk).1, fun k => Iff.rfl⟩, fun k hk => ?_, q3.mono fun k hk => (hF k).2 hk, ?_⟩
 ·show ρ' (σ 0) = _
  rw [show σ 0 = 0 from if_pos hN]; exact q4 _ _ h0
 ·show ρ' (σ i) = none
  rw [show σ i = N + 8 from if_neg (by omega)]; exact hfr
 ·have h6 := ((hren σ fun i hi => if_pos hi).get i o ho).objM
  have h8 := q1.objs i o ho
  have h9 : ObjRep w' (fun k => O k ∨ Live h1 fp' k) ρ' (σ i) (fp' i) o := by rw [(hσ ho).2]; exact h8
  exact h6.back h9
 ·obtain ⟨i, o, ho, hk2⟩ := hk
  exact (q6 i o ho k hk2).imp (fun h => (hF k).2 h) fun h => h
 ·have h1 : RepV w' (fun k => O k ∨ Live h1 fp' k) ρ' (Go.Proofs.Ytefkifebgeagiaa.ren (fun _ => N + 8) r) v := by rw [hr]; exact q2
  have h2 := qah6 h1
  have e : (fun id => ρ' ((fun _ => N + 8) id)) = noPl := by funext id; show ρ' (N + 8) = _; rw [hfr]; rfl
  rw [e] at h2; exact h2
theorem qaug {X : Cx} {c : SCode} {Q : SExit → SSt → Prop} {s : SSt} (t id : Nat) (h0 : gets s.sl t = .own id 0) (h1 : SWp X c Q ⟨setS s.sl t .nilsl, s.hp, s.nx⟩) (h2 : SWp X c Q ⟨setS s.sl t .mt, s.hp, s.nx⟩) : SWp X c Q s := fun code hc ρ fp a w hs => by
 have key : ∀ x, RepV w (Av X s.hp fp) ρ x (a.tmps.getD t undef) → SimF X ρ fp ⟨setS s.sl t x, s.hp, s.nx⟩ a w := fun x hx => ⟨⟨hs.sim.h, hs.sim.tmps, hs.sim.defers, fun u => by
  show RepV w _ ρ (gets (setS s.sl t x) u) _
  rw [qaf3]
  by_cases e : u = t
  ·subst e; rw [if_pos rfl]; exact hx
  ·rw [if_neg e]; exact hs.sim.slots u⟩, hs.fresh, hs.le⟩
 have h3 := hs.sim.slots t
 rw [h0] at h3
 generalize a.tmps.getD t undef = v at h3 key
 cases h3 with
 | own0 _ => exact h1 code hc ρ fp a w (key _ .nilsl)
 | own _ _ hm => exact h2 code hc ρ fp a w (key _ (.mt hm))
theorem qafd {P : Program} {f : FuncId} {args : List SV} {I1 I2 : AbsI} {r : SV} (h : SCalls P f (.ptr 0 0 :: args) [(0, .abs I1)] 1 r [(0, .abs I2)]) (ha : ∀ σ, args.map (Go.Proofs.Ytefkifebgeagiaa.ren σ) = args) (hr : ∀ σ, Go.Proofs.Ytefkifebgeagiaa.ren σ r = r) (hk : ok2 r = true) (id q : Nat) (hq : id < q) : SCalls P f (.ptr id 0 :: args) [(id, .abs I1)] q r [(id, .abs I2)] := by
 have e0 : sg [id] q 0 = id := rfl
 refine qaci [id] h rfl (by simp) (by simp; omega) ?_ ?_ (by simp [idsH]) (hr _).symm hk ?_ (by simp [idsH]) (by simp [idsH, e0])
 ·rw [List.map_cons, ha]; simp [Go.Proofs.Ytefkifebgeagiaa.ren, ren1, ren0, e0]
 ·exact ⟨⟨.abs I1, by rw [e0]; simp [geth], rfl⟩, trivial⟩
 ·exact ⟨⟨.abs I2, by rw [e0]; simp [geth], rfl⟩, trivial⟩
theorem qal0 {X : Cx} {ops : Array Oper} {Q : SSt → List Tch → Prop} {R : Exit → Act → World → Prop} (hQ : ∀ s tr ρ fp a w, Q s tr → SimF X ρ fp s a w → R .normal a w) : ∀ (n : Nat) (l : List Oper) (bs : List Nat) (sos : List SOper), qadg X.P X.N ops l bs = some sos → ∀ (s : SSt) (tr : List Tch) (ρ : qabr) (fp : Nat → Nat → Prop) (a : Act) (w : World),
  SOps X.P (sos.take n) s tr (fun s1 t1 => ∃ s2, Wk X s1 s2 ∧ SOps X.P (sos.drop n) s2 t1 Q) → SimF X ρ fp s a w → wpList X.P ops R l a w
 | 0, l, bs, sos, hc, s, tr, ρ, fp, a, w, hk, h => by
  obtain ⟨s2, hw, h3⟩ := hk
  obtain ⟨ρ', fp', h'⟩ := hw ρ fp a w h
  exact qatn hQ l bs sos hc _ _ _ _ _ _ h3 h'
 | n + 1, [], bs, sos, hc, s, tr, ρ, fp, a, w, hk, h => by
  simp only [qadg, Option.some.injEq] at hc
  subst hc
  obtain ⟨s2, hw, h3⟩ := hk
  obtain ⟨ρ', fp', h'⟩ := hw ρ fp a w h
  exact hQ _ _ _ _ _ _ h3 h'
 | n + 1, o :: l, bs, sos, hc, s, tr, ρ, fp, a, w, hk, h => by
  have ih := fun bs sos (hc : qadg X.P X.N ops l bs = some sos) => qal0 hQ n l bs sos hc
  obtain ⟨so, r, rfl, hso, hr⟩ := qadb hc
  obtain ⟨hdst, hd, hg, _, _⟩ := qacy hso
  obtain ⟨g1, g2⟩ := qaih hg h.sim
  rw [List.take_succ_cons, List.drop_succ_cons] at hk
  refine wpList_step fun K hK => ?_
  have run : (SOp1 X.P so s fun s' x => SOps X.P (r.take n) s' (x :: tr) (fun s1 t1 => ∃ s2, Wk X s1 s2 ∧ SOps X.P (r.drop n) s2 t1 Q)) → o.wp X.P a w K R := fun hk => op1_ok hso hk h fun s' x ρ' fp' a' w' hk' h' => hK _ _ (ih _ _ hr _ _ _ _ _ _ hk' h')
  simp only [SOps] at hk
  cases hgr : so.grd with
  | none =>
   rw [hgr] at hk
   rw [if_pos (g1 hgr)]
   exact run hk
  | some tw =>
   obtain ⟨t, want⟩ := tw
   rw [hgr] at hk
   obtain ⟨g3, g4⟩ := g2 t want hgr
   simp only at hk
   split at hk
   ·rename_i b hb
    rw [g3 b hb]
    by_cases hbw : b = want
    ·rw [if_pos (by simpa using hbw)]
     exact run (hk.1 hbw)
    ·rw [if_neg (by simpa using hbw)]
     exact hK _ _ (ih _ _ hr _ _ _ _ _ _ (hk.2 hbw) (Sim.skip h hdst hd))
   ·rename_i hb
    rw [g4 hb, if_neg (by simp)]
    exact hK _ _ (ih _ _ hr _ _ _ _ _ _ hk (Sim.skip h hdst hd))
   ·cases hk
theorem qaft {X : Cx} {Q : SExit → SSt → Prop} {s : SSt} {ops : List SOper} {live : List Nat} (n : Nat) (h : SOps X.P (ops.take n) s [] fun s1 t1 => ∃ s2, Wk X s1 s2 ∧ SOps X.P (ops.drop n) s2 t1 fun s' _ => Q .normal (s'.keep live)) : SWp X (.reg false ops live) Q s := fun code hc ρ fp a w hs => by
 by_cases hreg : ∃ id o d, code = .region id o d
 ·obtain ⟨id, o, d, rfl⟩ := hreg
  obtain ⟨l, e, h1, _⟩ := qaby hc
  simp only [SCode.erase, SCode.reg.injEq, and_true] at e
  obtain ⟨rfl, rfl⟩ := e
  refine wp_region_list ?_
  refine qal0 (Q := fun s' _ => Q .normal (s'.keep live)) ?_ n _ _ _ h1 s [] ρ fp a w h hs
  intro s' tr ρ' fp' a' w' hq h'
  obtain ⟨ρ2, fp2, h2⟩ := qalq live ρ' fp' a' w' h'
  exact ⟨_, ρ2, fp2, hq, h2⟩
 ·cases code <;> (try simp only [comp, SCode.erase, Option.bind_eq_bind, Option.bind_eq_some_iff, Option.some.injEq, reduceCtorEq, and_false, exists_false, exists_const] at hc)
  case region => exact absurd ⟨_, _, _, rfl⟩ hreg
end Go.Proofs.Ytefkifebgeagiaa
namespace Go.Proofs.Ytefkifebgeagiaa
set_option linter.all false
open Go.RowKit
attribute [local simp] qaar qaaq qaac qaai qaad qaah qaao qaap qaab qaa5 SOp.run SX.ev putd puts argS upds SOp.touch SSt.keep SSt.skip gets geth puth delh idOf SV.cells? setL qab5 qab6 sbin eq0 eq1 eqL qab4 qabe qabf qaas qaat qaaa qaau qaa6 qaae qaal FrzOk qaa9 qaa1 qaa7 qaa8 qaav qaa0 qabc qaa2 qaax qaba qaaw frzS frzH frz frz1 frz0 SlotsM ObjsM ObjM rn ren ren1 ren0 qabl qab0 qab3 qabk qabd qabz qab2 CoL qabb qabu dels adds idsH qabn
theorem qaf6 {X : Cx} {sl : Sl} {hp : Hp} {t nx id e z n e' z' : Nat} {es fs : List (List SV)} [PureR es] [PureR fs] (hm : X.m = 1) (hne : id ≠ 0) (hv : gets sl t = .own id n) (h0 : geth hp 0 = some (.row e' z' fs)) (h1 : geth hp id = some (.row e z es)) : QFun X [.tmp t] 1 (.own 1 n) [(0, .row e' z' fs), (1, .row e z es)] .ret ⟨sl, hp, nx⟩ := by
 have hw : Wk X ⟨sl, hp, nx⟩ ⟨[(t, .own 1 n)], [(0, .row e' z' fs), (1, .row e z es)], 2⟩ := by
  refine qaa3 [(1, id)] hm ⟨?_, trivial⟩ ⟨⟨_, h0, rfl, rfl, ?_⟩, ⟨_, h1, rfl, rfl, ?_⟩, trivial⟩ ?_ (by simp)
  ·rw [hv]; exact Co.refl _
  ·rw [PureR.ren]; exact CoLL.refl _
  ·rw [PureR.ren]; exact CoLL.refl _
  ·simp [qabn, diag, idsH, hne, Ne.symm hne, List.range_succ]
 exact ⟨_, hw, by simp [qafw, resL, resV, one_, gets], ⟨rfl, rfl, trivial⟩, by simp⟩
theorem clrow_1 (l : List Entry) (hl : l.length ≤ 1000000) : SCalls Try.prog 37 [.own 0 l.length] [(0, .row 29 6 (l.map qaag))] 1 (.own 1 l.length) [(0, .row 29 6 (l.map qaag)), (1, .row 29 6 (l.map qaag))] := by
 rcases l with _ | ⟨x, l⟩
 ·refine qaan (N := 8) Try.func37 rfl rfl (by kernel_rfl) qae3 (by simp) (by repeat' (first | exact trivial | refine And.intro ?_ ?_ | rfl | decide | exact PureR.ren _)) ⟨by decide, rfl, trivial⟩ ?_
  rintro X hP hN hm
  unfold c_clrow
  refine qaug 0 0 rfl ?_ ?_
  ·show SWp _ _ _ ⟨[(0, .nilsl)], _, _⟩
   repeat' (first | (with_reducible refine zA ?_) | ((with_reducible refine qaaf ?_); (try rw [hP]); simp -implicitDefEqProofs [*]) | ((with_reducible refine qaay ?_); (try simp only [qaas, qaaa, qaae])) | ((with_reducible refine qaak rfl (fun h => ?_) (fun h => ?_)) <;> have h' := h <;> (try simp at h') <;> (try subst h')) | ((refine qfun_wk (qai5 2 29 6 rfl) ?_; simp only [zT, puth, Nat.reduceEqDiff, reduceIte, Nat.reduceAdd]; exact qaf6 hm (by decide) rfl rfl rfl)) | fail)
   all_goals trace_state
  ·show SWp _ _ _ ⟨[(0, .mt)], _, _⟩
   repeat' (first | (with_reducible refine zA ?_) | ((with_reducible refine qaaf ?_); (try rw [hP]); simp -implicitDefEqProofs [*]) | ((with_reducible refine qaaz ?_); (try simp -implicitDefEqProofs [*])) | ((with_reducible refine qaay ?_); (try simp only [qaas, qaaa, qaae])) | ((with_reducible refine qaak rfl (fun h => ?_) (fun h => ?_)) <;> have h' := h <;> (try simp at h') <;> (try subst h')) | ((exact qaf6 hm (by decide) rfl rfl rfl)) | fail)
   all_goals trace_state
 ·refine qaan (N := 8) Try.func37 rfl rfl (by kernel_rfl) qae3 (by simp) (by repeat' (first | exact trivial | refine And.intro ?_ ?_ | rfl | decide | exact PureR.ren _)) ⟨by decide, qabp _ _ _, trivial⟩ ?_
  rintro X hP hN hm
  have hb : (x :: l).length ≤ maxLen := by unfold maxLen; omega
  simp only [List.length_cons] at hl hb
  unfold c_clrow
  repeat' (first | (with_reducible refine zA ?_) | ((with_reducible refine qaaf ?_); (try rw [hP]); simp -implicitDefEqProofs [*]) | ((with_reducible refine qaaz ?_); (try simp -implicitDefEqProofs [*])) | ((with_reducible refine qaay ?_); (try simp only [qaas, qaaa, qaae])) | ((with_reducible refine qaak rfl (fun h => ?_) (fun h => ?_)) <;> have h' := h <;> (try simp at h') <;> (try subst h')) | ((with_reducible refine qafv ?_ ?_); (first | omega | (unfold maxLen; omega)); simp -implicitDefEqProofs [*]) | fail)
  show QFun X [.tmp 2] 1 (.own 1 (l.length + 1)) [(0, .row 29 6 ((x :: l).map qaag)), (1, .row 29 6 ((x :: l).map qaag))] .ret ⟨_, [(0, .row 29 6 ((x :: l).map qaag)), (6, .row 29 6 ((x :: l).map qaag))], _⟩
  exact qaf6 hm (by decide) rfl rfl rfl
theorem clrow_o (l : List Entry) (hl : l.length ≤ 1000000) (a q : Nat) (ha : a < q) : SCalls Try.prog 37 [.own a l.length] [(a, .row 29 6 (l.map qaag))] q (.own q l.length) [(a, .row 29 6 (l.map qaag)), (q, .row 29 6 (l.map qaag))] := by
 have e0 : sg [a] q 0 = a := rfl
 have e1 : sg [a] q 1 = q := rfl
 exact qaci [a] (clrow_1 l hl) rfl (by simp) (by simp; omega) (by simp [Go.Proofs.Ytefkifebgeagiaa.ren, ren1, ren0, e0]) ⟨⟨.row 29 6 (l.map qaag), by rw [e0]; simp [geth], rfl, rfl, by rw [qabp]; exact CoLL.refl _⟩, trivial⟩ (by simp [idsH]) (by simp [Go.Proofs.Ytefkifebgeagiaa.ren, ren1, ren0, e1]) rfl ⟨⟨.row 29 6 (l.map qaag), by rw [e0]; simp [geth], rfl, rfl, qaff _ _, (qabp _ _ _).symm⟩, ⟨.row 29 6 (l.map qaag), by rw [e1]; simp [geth], rfl, rfl, qaff _ _, (qabp _ _ _).symm⟩, trivial⟩ (by simp [idsH]) (by simp [idsH, e0, e1])
theorem hpop_r (l L : List Entry) (x : Entry) (h : popL l = L ++ [x]) (hb : l.length ≤ 1000000) (hs : ∀ x ∈ l, qacb x) (a b q : Nat) (hab : a ≠ b) (ha : a < q) (hbq : b < q) : SCalls Try.prog 38 [.ifc 73 (.ptr a 0)] [(a, .cells 68 [.own b l.length]), (b, .row 29 6 (l.map qaag))] q (.ifc 29 (.agg (qaag x))) [(a, .cells 68 [.own b L.length]), (b, .row 29 6 (L.map qaag))] := by
 have e0 : sg [a, b] q 0 = a := rfl
 have e1 : sg [a, b] q 1 = b := rfl
 have h0 := hpop_s none l L x h hb hs 2 (Nat.le_refl _)
 have g0 : ∀ o p : SObj, geth [(a, o), (b, p)] b = some p := fun o p => by simp [geth, hab]
 exact qaci [a, b] h0 rfl (by simp [hab]) (by simp; omega) (by simp [Go.Proofs.Ytefkifebgeagiaa.ren, ren1, ren0, renA, renB, e0, hoff]) ⟨⟨.cells 68 [.own b l.length], by rw [e0]; simp [geth], rfl, by simp [hcs, Go.Proofs.Ytefkifebgeagiaa.ren, ren1, ren0, e1]⟩, ⟨.row 29 6 (l.map qaag), by rw [e1]; exact g0 _ _, rfl, rfl, by rw [qabp]; exact CoLL.refl _⟩, trivial⟩ (by simp [idsH, hobj]) (by rfl) rfl ⟨⟨.cells 68 [.own b L.length], by rw [e0]; simp [geth], rfl, rfl, by simp [hcs, Go.Proofs.Ytefkifebgeagiaa.ren, ren1, ren0, e1]⟩, ⟨.row 29 6 (L.map qaag), by rw [e1]; exact g0 _ _, rfl, rfl, qaff _ _, (qabp _ _ _).symm⟩, trivial⟩ (by simp [idsH, hobj]) (by simp [idsH, hobj, e0, e1])
theorem fin_ghw {X : Cx} {s : SSt} {c : qacl} {l : List Entry} {t z : Nat} {es : List (List SV)} (hw : Wk X s ⟨[(t, .view z es)], hobj c l, 2⟩) : QFun X [.tmp t] 2 (.view z es) (hobj c l) .ret s :=
 ⟨_, hw, by simp [qafw, resL, resV, one_, gets], ⟨rfl, rfl, trivial⟩, by simp⟩
theorem qaue (k m : Int) (l : List Entry) (hl : l.length ≤ 1000000) (hs : ∀ x ∈ l, qacb x) : SCalls Try.prog 11 [.ptr 0 0] (hobj (some (k, m)) l) 2 (.view 6 ((qafr l).map qaag)) (hobj (some (k, m)) l) := by
 obtain ⟨F, hF⟩ : ∃ F, F = qafr l := ⟨_, rfl⟩
 rw [← hF]
 replace hF := Lib.hid hF
 replace hs := Lib.hid hs
 have k1 := fun q hq => clrow_o l hl 1 q hq
 refine qaan (N := 28) Try.func11 rfl rfl (by kernel_rfl) qakf (by simp) (by repeat' (first | exact trivial | refine And.intro ?_ ?_ | rfl | decide | exact PureR.ren _)) (qagn (some (k, m)) l) ?_
 rintro X hP hN hm
 unfold c_tall hobj
 repeat' (first | (with_reducible refine zA ?_) | ((with_reducible refine qaaf ?_); (try rw [hP]); simp -implicitDefEqProofs [hcs, *]) | (refine qac1 (k1 _ (by simp)) ⟨rfl, trivial⟩ ⟨rfl, by simp [geth], trivial⟩ [] (by simp) ?_; simp -implicitDefEqProofs [hcs, *]) | fail)
 refine qalx (qai5 4 29 6 rfl) ?_
 simp only [zT, puth, Nat.reduceEqDiff, reduceIte, Nat.reduceAdd]
 refine qabm (qacz (fun s (x : List Entry × List Entry) => ⟨[(3, .ptr 2 0), (4, .own 4 x.2.length)], [(0, .cells (hty (some (k, m))) (hcs (some (k, m)) l.length)), (1, .row 29 6 (l.map qaag)), (2, .cells 68 [.own 3 x.1.length]), (3, .row 29 6 (x.1.map qaag)), (4, .row 29 6 (x.2.map qaag))], 5⟩) (fun x => F = x.2 ++ qap8 x.1.length x.1 ∧ (∀ e ∈ x.1, qacb e) ∧ x.2.length + x.1.length ≤ 1000000) (fun x => x.1.length) (l, []) ?_ ⟨by rw [hF.out]; rfl, hs.out, by simpa using hl⟩ ?_)
 ·refine qaa3 [(2, 15), (3, 7), (4, 18)] hm ⟨Co.refl _, Co.refl _, trivial⟩ ⟨⟨_, rfl, rfl, qacv (some (k, m)) _ rfl⟩, ⟨_, rfl, rfl, rfl, ?_⟩, ⟨_, rfl, rfl, CoL.refl _⟩, ⟨_, rfl, rfl, rfl, ?_⟩, ⟨_, rfl, rfl, rfl, CoLL.refl _⟩, trivial⟩ rfl (by simp)
  ·rw [qabp]; exact CoLL.refl _
  ·rw [qabp]; exact CoLL.refl _
 rintro J hJ ⟨L, out⟩ ⟨h1, h2, h3⟩
 unfold qajv
 simp only [zT, puth, Nat.reduceEqDiff, reduceIte, Nat.reduceAdd] at h1 h2 h3 ⊢
 rcases Nat.eq_zero_or_pos L.length with h0 | h0
 ·have hLn : L = [] := List.eq_nil_of_length_eq_zero h0
  subst hLn
  have hFo : F = out := by rw [h1]; simp [qap8]
  subst hFo
  clear h1 h2 h3 hJ
  repeat' (first | ((with_reducible refine qafs (c := .seq (.reg false qaju [2]) .ret) ?_)) | (with_reducible refine zA ?_) | ((with_reducible refine qaaf ?_); (try rw [hP]); simp -implicitDefEqProofs [hcs, *]) | ((with_reducible refine qabt ?_); (try simp -implicitDefEqProofs [hcs, *])) | ((with_reducible refine qaak rfl (fun h => ?_) (fun h => ?_)) <;> have h' := h <;> (try simp at h') <;> (try subst h')) | fail)
  constructor
  refine swp_frz [4] ?_ ?_
  ·simp only [FrzOk, geth, Nat.reduceEqDiff, reduceIte, qatt, and_true]
  simp -implicitDefEqProofs
  repeat' (first | (with_reducible refine zA ?_) | ((with_reducible refine qaaf ?_); (try rw [hP]); simp -implicitDefEqProofs [*]) | ((with_reducible refine qaay ?_); (try simp only [qaas, qaaa, qaae])) | ((with_reducible refine qaa3 [] hm ?_ ?_ ?_ ?_) <;> (try simp only [zT, puth, Nat.reduceEqDiff, reduceIte, Nat.reduceAdd])) | (with_reducible first | refine za ?_ ?_ | refine zb ?_ ?_ ?_ ?_ | refine zc ?_ ?_ ?_ ?_) | (with_reducible first | exact qaaj | exact qaam) | ((with_reducible first | refine zga ?_ | refine zgb ?_); rfl) | ((with_reducible refine zgc ?_); (first | (with_reducible rfl) | rfl | (simp; done))) | ((with_reducible refine zgd ?_); (first | omega | (simp; done))) | (exact Co.refl _) | (exact CoL.refl _) | ((refine fin_ghw ?_; simp only [hobj])) | fail)
  all_goals trace_state
 ·obtain ⟨p1, p2⟩ := qah8 h0
  have hdl : (popL L).dropLast.length = L.length - 1 := by rw [List.length_dropLast, (qab1 L).length_eq]
  have hds : ∀ e ∈ (popL L).dropLast, qacb e := fun e he => h2 e ((qab1 L).mem_iff.1 ((List.dropLast_sublist _).mem he))
  have hxm : atE (popL L) (L.length - 1) ∈ popL L := by
   have h9 : atE (popL L) (L.length - 1) ∈ (popL L).dropLast ++ [atE (popL L) (L.length - 1)] := by simp
   rw [← p2] at h9; exact h9
  have hxs : qacb (atE (popL L) (L.length - 1)) := h2 _ ((qab1 L).mem_iff.1 hxm)
  have h4 : F = (out ++ [towE (atE (popL L) (L.length - 1))]) ++ qap8 (popL L).dropLast.length (popL L).dropLast := by
   rw [h1, hdl, show L.length = L.length - 1 + 1 by omega]
   simp only [qap8, p1]; simp
  have k2 := fun q h1 h3 => hpop_r L _ _ p2 (by omega) h2 2 3 q (by decide) h1 h3
  have k3 := fun q => town_s _ hxs q
  generalize (popL L).dropLast = L2 at *
  generalize atE (popL L) (L.length - 1) = x at *
  generalize hte : towE x = te at *
  have hro : out.map qaag ++ [qaag te] = (out ++ [te]).map qaag := by simp
  have hlo : (out ++ [te]).length = out.length + 1 := by simp
  generalize out ++ [te] = O2 at *
  have b1 : out.length + 1 ≤ maxLen := by unfold maxLen; omega
  have b2 : (out.length + 1) * 96 ≤ 140737488355328 := by omega
  have hg : ((L.length : Int) > 0) := by omega
  clear p1 p2 h1 h2 hxs hxm hte
  replace h4 := Lib.hid h4
  replace hds := Lib.hid hds
  replace hdl := Lib.hid hdl
  replace hro := Lib.hid hro
  replace hlo := Lib.hid hlo
  replace hs := Lib.hid hs
  repeat' (first | (with_reducible first | refine zA ?_ | refine qaa4 ?_) | ((with_reducible refine qaaf ?_); (try rw [hP]); simp -implicitDefEqProofs [hcs, b1, b2, qaec, qac0, qaio, *]) | ((with_reducible refine qaaz ?_); (try simp -implicitDefEqProofs [hcs, b1, b2, qaec, qac0, qaio, *])) | ((with_reducible refine qaak rfl (fun h => ?_) (fun h => ?_)) <;> have h' := h <;> (try simp at h') <;> (try subst h')) | ((first | refine qac1 (k2 _ (by simp) (by simp)) ⟨rfl, rfl, trivial⟩ ⟨rfl, rfl, trivial⟩ [] (by simp) ?_ | refine qacc (k3 _) ?_); simp -implicitDefEqProofs [hcs, b1, b2, qaec, qac0, qaio, *]) | fail)
  refine qabo hJ (L2, O2) (qaa3 [(4, 36)] hm ⟨Co.refl _, ?_, trivial⟩ ⟨⟨_, rfl, rfl, qacv (some (k, m)) _ rfl⟩, ⟨_, rfl, rfl, rfl, ?_⟩, ⟨_, rfl, rfl, CoL.refl _⟩, ⟨_, rfl, rfl, rfl, ?_⟩, ⟨_, rfl, rfl, rfl, ?_⟩, trivial⟩ rfl (by simp)) ⟨h4.out, hds.out, ?_⟩ ?_
  ·simp only [hlo.out]; exact Co.refl _
  ·rw [qabp]; exact CoLL.refl _
  ·rw [qabp]; exact CoLL.refl _
  ·rw [qabp, hro.out]; exact CoLL.refl _
  ·simp only [hlo.out, hdl.out]; omega
  ·simp only [hdl.out]; omega
end Go.Proofs.Ytefkifebgeagiaa
namespace Go.Proofs.Ytefkifebgeagiaa
set_option linter.all false
open Go.RowKit
attribute [local simp] qaar qaaq qaac qaai qaad qaah qaao qaap qaab qaa5 SOp.run SX.ev putd puts argS upds SOp.touch SSt.keep SSt.skip gets geth puth delh idOf SV.cells? setL qab5 qab6 sbin eq0 eq1 eqL qab4 qabe qabf qaas qaat qaaa qaau qaa6 qaae qaal FrzOk qaa9 qaa1 qaa7 qaa8 qaav qaa0 qabc qaa2 qaax qaba qaaw frzS frzH frz frz1 frz0 SlotsM ObjsM ObjM rn ren ren1 ren0 qabl qab0 qab3 qabk qabd qabz qab2 CoL qabb qabu dels adds idsH qabn
attribute [local irreducible] qace
def qang (l : List Entry) (e : Entry) : Int := idxV l fun x => x.prio == e.prio && qamt x e
def addV (k m : Int) (l : List Entry) (e : Entry) : Int := if qafq k e = false then 6 else if 0 ≤ tatV l e then 7 else if 0 ≤ qang l e then 8 else if m ≤ l.length then 10 else 0
def addR (k m : Int) (l : List Entry) (e : Entry) : List Entry := if addV k m l e = 0 then qamd l (towE e) else l
theorem qagp {k : Int} {e : Entry} (h : qafq k e = true) : (e.keys.length : Int) = k ∧ (e.masks.length : Int) = k := by
 unfold qafq at h
 split at h
 ·cases h
 ·omega
theorem qaqb {X : Cx} {s : SSt} {c : qacl} {l : List Entry} {o : SObj} (hs : SubH s.hp (hobj c l)) (h2 : geth s.hp 2 = some o) : Wk X s ⟨s.sl, [(0, .abs (qacq c l)), (2, o)], s.nx⟩ :=
 qati (hh := hobj c l) (R := fun h => h = hobj c l) rfl (by decide) rfl (fun σ h => qadr c l (h 1 (by decide))) (by simp [idsH, hobj]) hs rfl (fun id o' h ho => by
  simp only [geth, if_neg (Ne.symm h)] at ho
  split at ho
  ·rename_i e; subst e; cases ho; exact ⟨h2, rfl⟩
  ·cases ho)
theorem fin_ai {X : Cx} {t nx : Nat} {n : Int} {sl : Sl} {hp : Hp} {I : AbsI} (hm : X.m = 1) (hb : gets sl t = .int .i64 n) (h : geth hp 0 = some (.abs I)) : QFun X [.tmp t] 1 (.int .i64 n) [(0, .abs I)] .ret ⟨sl, hp, nx⟩ :=
 ⟨⟨[(t, .int .i64 n)], [(0, .abs I)], 1⟩, qaa3 [] hm ⟨by rw [hb]; exact Co.refl _, trivial⟩ ⟨⟨_, h, rfl⟩, trivial⟩ rfl (Nat.le_refl _), by simp [qafw, resL, resV, one_, gets], ⟨rfl, trivial⟩, by simp⟩
set_option maxRecDepth 4000 in
theorem tadd_s (k m : Int) (l : List Entry) (e : Entry) (hl : l.length < 1000000) (hs : ∀ x ∈ l, qacb x) (hk : ∀ x ∈ l, qafq k x = true) (he : qacb e) : SCalls Try.prog 10 [.ptr 0 0, .agg (qaag e)] [(0, .abs (qacq (some (k, m)) l))] 1 (.int .i64 (addV k m l e)) [(0, .abs (qacq (some (k, m)) (addR k m l e)))] := by
 have k1 := fun q => qatj k m l e he q
 have k2 := fun q => tat_o k m l e (by omega) hs he q
 have k5 := fun q => town_s e he q
 have k3 : qafq k e = true → ∀ id q, 2 ≤ id → _ := fun hf id q h2 => conf_o 33 e l (fun x => x.prio == e.prio && qamt x e) (some (k, m)) id h2 (by omega) (fun x hx q => by
  have h1 := qagp (hk x hx)
  have h3 := qagp hf
  exact ad1_s x e (hs x hx) he (by omega) (by omega) (by omega) q) q
 have k6 : ∀ q, 0 < q → SCalls Try.prog 35 [.ifc 73 (.ptr 0 2), .ifc 29 (.agg (qaag (towE e)))] [(0, .abs (qacq (some (k, m)) l))] q (.tup []) [(0, .abs (qacq (some (k, m)) (qamd l (towE e))))] := fun q hq => qafb (hpush_s (some (k, m)) l (towE e) hl hs ⟨he.1, he.2.1, he.2.2⟩) (fun σ h => by simp [Go.Proofs.Ytefkifebgeagiaa.ren, ren1, ren0, h, renA, renB, qaag, nums]) (fun σ h => rfl) rfl q hq
 have hv : addV k m l e = if qafq k e = false then 6 else if 0 ≤ tatV l e then 7 else if 0 ≤ qang l e then 8 else if m ≤ l.length then 10 else 0 := rfl
 have hr : addR k m l e = if addV k m l e = 0 then qamd l (towE e) else l := rfl
 change qafq k e = true → ∀ id q, 2 ≤ id → SCalls _ _ _ _ q (.bool (decide (0 ≤ qang l e))) _ at k3
 generalize addV k m l e = v at hv hr
 generalize addR k m l e = r at hr
 generalize qafq k e = a at k1 hv k3
 generalize tatV l e = b at k2 hv
 generalize qang l e = d at k3 hv
 refine qaan (N := 41) Try.func10 rfl rfl (by kernel_rfl) qakg (by simp) (by repeat' (first | exact trivial | refine And.intro ?_ ?_ | rfl | decide | exact PureR.ren _)) (by repeat' (first | exact trivial | refine And.intro ?_ ?_ | rfl | decide | exact PureR.ren _)) ?_
 rintro X hP hN hm
 refine qadn (by omega) (by decide) (qaej _ l) fun hh h => ?_
 subst h
 unfold c_tadd
 unfold hobj at k1 k2 k3
 generalize qaag (towE e) = z at k5 k6
 unfold qaag at k1 k2 k3 k5
 rw [show qaag e = [nums .u64 e.keys, nums .u64 e.masks, .int .i64 e.len, .int .i64 e.prio, .int .i64 e.act, nums .u64 e.args] from rfl]
 unfold hobj
 cases a
 ·obtain rfl : v = 6 := by rw [hv, if_pos rfl]
  obtain rfl : r = l := by rw [hr, if_neg (by decide)]
  clear k2 k3 hv hr k6
  repeat' (first | (with_reducible first | refine zA ?_ | refine qaa4 ?_) | ((with_reducible refine qaaf ?_); (try rw [hP]); simp -implicitDefEqProofs [*]) | ((with_reducible refine qaay ?_); (try simp only [qaas, qaaa, qaae])) | ((with_reducible refine qaak rfl (fun h => ?_) (fun h => ?_)) <;> have h' := h <;> (try simp at h') <;> (try subst h')) | (refine qacg (k1 _) ⟨rfl, rfl, trivial⟩ ⟨rfl, rfl, trivial⟩ ?_; simp -implicitDefEqProofs [*]) | ((with_reducible refine qaa3 [] hm ?_ ?_ ?_ ?_) <;> (try simp only [zT, puth, Nat.reduceEqDiff, reduceIte, Nat.reduceAdd])) | (with_reducible first | refine za ?_ ?_ | refine zb ?_ ?_ ?_ ?_ | refine zc ?_ ?_ ?_ ?_) | (with_reducible first | exact qaaj | exact qaam) | ((with_reducible first | refine zga ?_ | refine zgb ?_); rfl) | ((with_reducible refine zgc ?_); (first | (with_reducible rfl) | rfl | (simp; done))) | ((with_reducible refine zgd ?_); (first | omega | (simp; done))) | (exact Co.refl _) | (exact CoL.refl _) | ((refine qaez hm ?_; simp only [hobj])) | fail)
 ·replace k3 := k3 rfl
  rw [if_neg (by decide)] at hv
  by_cases hb : 0 ≤ b
  ·obtain rfl : v = 7 := by rw [hv, if_pos hb]
   obtain rfl : r = l := by rw [hr, if_neg (by decide)]
   clear k3 hv hr k6
   repeat' (first | (with_reducible first | refine zA ?_ | refine qaa4 ?_) | ((with_reducible refine qaaf ?_); (try rw [hP]); simp -implicitDefEqProofs [*]) | ((with_reducible refine qaay ?_); (try simp only [qaas, qaaa, qaae])) | ((with_reducible refine qaak rfl (fun h => ?_) (fun h => ?_)) <;> have h' := h <;> (try simp at h') <;> (try subst h')) | ((first | refine qacg (k1 _) ⟨rfl, rfl, trivial⟩ ⟨rfl, rfl, trivial⟩ ?_ | refine qacg (k2 _) ⟨rfl, rfl, trivial⟩ ⟨rfl, rfl, trivial⟩ ?_); simp -implicitDefEqProofs [*]) | ((with_reducible refine qaa3 [] hm ?_ ?_ ?_ ?_) <;> (try simp only [zT, puth, Nat.reduceEqDiff, reduceIte, Nat.reduceAdd])) | (with_reducible first | refine za ?_ ?_ | refine zb ?_ ?_ ?_ ?_ | refine zc ?_ ?_ ?_ ?_) | (with_reducible first | exact qaaj | exact qaam) | ((with_reducible first | refine zga ?_ | refine zgb ?_); rfl) | ((with_reducible refine zgc ?_); (first | (with_reducible rfl) | rfl | (simp; done))) | ((with_reducible refine zgd ?_); (first | omega | (simp; done))) | (exact Co.refl _) | (exact CoL.refl _) | ((refine qaez hm ?_; simp only [hobj])) | fail)
  ·rw [if_neg hb] at hv
   by_cases hd : 0 ≤ d
   ·obtain rfl : v = 8 := by rw [hv, if_pos hd]
    obtain rfl : r = l := by rw [hr, if_neg (by decide)]
    clear hv hr k6
    rw [decide_eq_true hd] at k3
    repeat' (first | (with_reducible first | refine zA ?_ | refine qaa4 ?_) | ((with_reducible refine qaaf ?_); (try rw [hP]); simp -implicitDefEqProofs [hb, *]) | ((with_reducible refine qaay ?_); (try simp only [qaas, qaaa, qaae])) | ((with_reducible refine qaak rfl (fun h => ?_) (fun h => ?_)) <;> have h' := h <;> (try simp at h') <;> (try subst h')) | ((first | refine qacg (k1 _) ⟨rfl, rfl, trivial⟩ ⟨rfl, rfl, trivial⟩ ?_ | refine qacg (k2 _) ⟨rfl, rfl, trivial⟩ ⟨rfl, rfl, trivial⟩ ?_ | refine qacg (k3 _ _ (by simp)) ⟨rfl, rfl, rfl, trivial⟩ ⟨rfl, rfl, rfl, trivial⟩ ?_); simp -implicitDefEqProofs [hb, *]) | ((with_reducible refine qaa3 [] hm ?_ ?_ ?_ ?_) <;> (try simp only [zT, puth, Nat.reduceEqDiff, reduceIte, Nat.reduceAdd])) | (with_reducible first | refine za ?_ ?_ | refine zb ?_ ?_ ?_ ?_ | refine zc ?_ ?_ ?_ ?_) | (with_reducible first | exact qaaj | exact qaam) | ((with_reducible first | refine zga ?_ | refine zgb ?_); rfl) | ((with_reducible refine zgc ?_); (first | (with_reducible rfl) | rfl | (simp; done))) | ((with_reducible refine zgd ?_); (first | omega | (simp; done))) | (exact Co.refl _) | (exact CoL.refl _) | ((refine qaez hm ?_; simp only [hobj])) | fail)
    all_goals trace_state
   ·rw [if_neg hd] at hv
    rw [decide_eq_false hd] at k3
    by_cases hml : m ≤ l.length
    ·obtain rfl : v = 10 := by rw [hv, if_pos hml]
     obtain rfl : r = l := by rw [hr, if_neg (by decide)]
     clear hv hr k6
     have c0 : hcs (some (k, m)) r.length = [.int .i64 k, .int .i64 m, .own 1 r.length] := rfl
     repeat' (first | (with_reducible first | refine zA ?_ | refine qaa4 ?_ | refine zK ?_) | ((with_reducible first | refine qaaf ?_ | refine qabs (by rw [hP]; exact qaf0) ?_); (try rw [hP]); simp -implicitDefEqProofs [hb, hml, hcs, *]) | ((with_reducible refine qaay ?_); (try simp only [qaas, qaaa, qaae])) | ((with_reducible refine qaak rfl (fun h => ?_) (fun h => ?_)) <;> have h' := h <;> (try simp at h') <;> (try subst h')) | ((first | refine qacg (k1 _) ⟨rfl, rfl, trivial⟩ ⟨rfl, rfl, trivial⟩ ?_ | refine qacg (k2 _) ⟨rfl, rfl, trivial⟩ ⟨rfl, rfl, trivial⟩ ?_ | refine qacg (k3 _ _ (by simp)) ⟨rfl, rfl, rfl, trivial⟩ ⟨rfl, rfl, rfl, trivial⟩ ?_); simp -implicitDefEqProofs [hb, hml, hcs, *]) | ((with_reducible refine qaa3 [] hm ?_ ?_ ?_ ?_) <;> (try simp only [zT, puth, Nat.reduceEqDiff, reduceIte, Nat.reduceAdd])) | (with_reducible first | refine za ?_ ?_ | refine zb ?_ ?_ ?_ ?_ | refine zc ?_ ?_ ?_ ?_) | (with_reducible first | exact qaaj | exact qaam) | ((with_reducible first | refine zga ?_ | refine zgb ?_); rfl) | ((with_reducible refine zgc ?_); (first | (with_reducible rfl) | rfl | (simp; done))) | ((with_reducible refine zgd ?_); (first | omega | (simp; done))) | (exact Co.refl _) | (exact CoL.refl _) | ((refine qaez hm ?_; simp only [hobj])) | fail)
     all_goals trace_state
    ·obtain rfl : v = 0 := by rw [hv, if_neg hml]
     rw [if_pos rfl] at hr
     rw [← hr] at k6
     clear hv hr
     replace k6 := Lib.hid k6
     repeat' (first | ((with_reducible refine qafs (c := .seq (.reg true qag4 []) _) ?_)) | (with_reducible first | refine zA ?_ | refine qaa4 ?_ | refine zK ?_) | ((with_reducible first | refine qaaf ?_ | refine qabs (by rw [hP]; exact qaf0) ?_); (try rw [hP]); simp -implicitDefEqProofs [hb, hml, hcs, *]) | ((with_reducible refine qaaz ?_); (try simp -implicitDefEqProofs [hb, hml, hcs, *])) | ((with_reducible refine qaak rfl (fun h => ?_) (fun h => ?_)) <;> have h' := h <;> (try simp at h') <;> (try subst h')) | ((first | refine qacg (k1 _) ⟨rfl, rfl, trivial⟩ ⟨rfl, rfl, trivial⟩ ?_ | refine qacg (k2 _) ⟨rfl, rfl, trivial⟩ ⟨rfl, rfl, trivial⟩ ?_ | refine qacg (k3 _ _ (by simp)) ⟨rfl, rfl, rfl, trivial⟩ ⟨rfl, rfl, rfl, trivial⟩ ?_); simp -implicitDefEqProofs [hb, hml, hcs, *]) | fail)
     constructor
     refine qalx (qaqb (c := some (k, m)) (l := l) ⟨rfl, rfl, trivial⟩ rfl) ?_
     repeat' (first | (with_reducible first | refine zA ?_ | refine zK ?_) | ((with_reducible first | refine qaaf ?_ | refine qabs (by rw [hP]; exact qaf0) ?_); (try rw [hP]); simp -implicitDefEqProofs [*]) | ((with_reducible refine qaay ?_); (try simp only [qaas, qaaa, qaae])) | ((first | refine qacc (k5 _) ?_ | refine qac1 (k6.out _ (by simp)) ⟨rfl, trivial⟩ ⟨rfl, trivial⟩ [] (by simp) ?_); simp -implicitDefEqProofs [*]) | (exact fin_ai hm rfl rfl) | fail)
     all_goals trace_state
end Go.Proofs.Ytefkifebgeagiaa
namespace Go.Proofs.Ytefkifebgeagiaa
set_option linter.all false
open Go.RowKit
theorem qajy (v : BitVec 64) : BitVec.ofInt 64 (v.toNat : Int) = v := by
 rw [BitVec.ofInt_natCast]; simp
theorem qat9 (v : BitVec 64) : IntKind.u64.wrap (v.toNat : Int) = v.toNat := u64_in_ (by omega) (by have := v.isLt; omega)
theorem bv_inj {v w : BitVec 64} : (v.toNat : Int) = w.toNat ↔ v = w := ⟨fun h => BitVec.eq_of_toNat_eq (by omega), fun h => by rw [h]⟩
end Go.Proofs.Ytefkifebgeagiaa
namespace Go.Proofs.Ytefkifebgeagiaa
set_option linter.all false
open Go.RowKit
theorem qaep (x y : Int) : bits .and .u64 x y = ((BitVec.ofInt 64 x &&& BitVec.ofInt 64 y).toNat : Int) := qat9 _
theorem qate (x y : Int) : bits .xor .u64 x y = ((BitVec.ofInt 64 x ^^^ BitVec.ofInt 64 y).toNat : Int) := qat9 _
def qatx (a b m n : Int) : Int := bits .and .u64 (bits .and .u64 (bits .xor .u64 a b) m) n
theorem qaib (a b m n : Int) : qatx a b m n = (((BitVec.ofInt 64 a ^^^ BitVec.ofInt 64 b) &&& BitVec.ofInt 64 m &&& BitVec.ofInt 64 n).toNat : Int) := by
 unfold qatx
 rw [qate, qaep, qaep, qajy, qajy]
theorem qamu (a b m n : Int) : qatx a b m n = qatx b a n m := by
 rw [qaib, qaib, BitVec.xor_comm, BitVec.and_assoc, BitVec.and_comm (BitVec.ofInt 64 m), ← BitVec.and_assoc]
theorem qaqu {x a b m n : Int} (h1 : bits .and .u64 x m = a) (h2 : bits .and .u64 x n = b) : qatx a b m n = 0 := by
 subst h1 h2
 rw [qaib, qaep, qaep, qajy, qajy, show (0 : Int) = ((0#64).toNat : Int) by rfl, bv_inj]
 ext i hi
 simp
 cases (BitVec.ofInt 64 x)[i] <;> cases (BitVec.ofInt 64 m)[i] <;> cases (BitVec.ofInt 64 n)[i] <;> decide
theorem qagk : ∀ xa xb xm xn : List Int, qalo xa xb xm xn = qalo xb xa xn xm
 | [], xb, xm, xn => by cases xb <;> cases xm <;> cases xn <;> rfl
 | _ :: _, [], xm, xn => by cases xm <;> cases xn <;> rfl
 | _ :: _, _ :: _, [], xn => by cases xn <;> rfl
 | _ :: _, _ :: _, _ :: _, [] => rfl
 | a :: xa, b :: xb, m :: xm, n :: xn => by
  have h := qamu a b m n
  unfold qatx at h
  rw [qalo, qalo, h, qagk xa xb xm xn]
theorem qajf : ∀ xa xb xm xn : List Int, (∀ i, i < xa.length → qatx (el xa i) (el xb i) (el xm i) (el xn i) = 0) → qalo xa xb xm xn = true
 | [], xb, xm, xn, _ => by cases xb <;> cases xm <;> cases xn <;> rfl
 | _ :: _, [], xm, xn, _ => by cases xm <;> cases xn <;> rfl
 | _ :: _, _ :: _, [], xn, _ => by cases xn <;> rfl
 | _ :: _, _ :: _, _ :: _, [], _ => rfl
 | a :: xa, b :: xb, m :: xm, n :: xn, h => by
  have h0 := h 0 (by simp)
  simp only [qaim] at h0
  unfold qatx at h0
  rw [qalo, if_neg (by rw [h0]; simp)]
  exact qajf xa xb xm xn fun i hi => by
   have := h (i + 1) (by simp; omega)
   simpa only [qain] using this
theorem qams (a b : Entry) : qamt a b = qamt b a := qagk _ _ _ _
def qavx (l : List Entry) : Prop := l.Pairwise fun a b => ¬ (a.prio = b.prio ∧ qamt a b = true)
structure TInv (k : Int) (l : List Entry) : Prop where
 heap : Heap l
 small : ∀ x ∈ l, qacb x
 fit : ∀ x ∈ l, qafq k x = true
 len0 : ∀ x ∈ l, x.len = 0
 no : qavx l
theorem qad0 {l l' : List Entry} (h : l.Perm l') (hl : qavx l) : qavx l' :=
 (h.pairwise_iff fun {a b} hab hba => hab ⟨hba.1.symm, by rw [qams]; exact hba.2⟩).1 hl
theorem qahy (k : Int) : TInv k [] := ⟨qau4, fun x hx => (by cases hx), fun x hx => (by cases hx), fun x hx => (by cases hx), List.Pairwise.nil⟩
theorem qaud (e : Entry) (h : e.len = 0) : towE e = e := by
 cases e; simp only at h; subst h; rfl
theorem qau3 {l : List Entry} {p : Entry → Bool} (h : ¬ 0 ≤ idxV l p) : ∀ x ∈ l, p x = false := by
 unfold idxV at h
 split at h
 ·omega
 ·rename_i h1; exact fun x hx => by have := List.findIdx?_eq_none_iff.1 h1 x hx; simpa using this
theorem qaj0 {k m : Int} {l : List Entry} {e : Entry} (h : addV k m l e = 0) : qafq k e = true ∧ ¬ 0 ≤ tatV l e ∧ ¬ 0 ≤ qang l e ∧ ¬ m ≤ l.length := by
 unfold addV at h
 split at h
 ·cases h
 ·split at h
  ·cases h
  ·split at h
   ·cases h
   ·split at h
    ·cases h
    ·exact ⟨by simp_all, by assumption, by assumption, by assumption⟩
theorem qai4 {k m : Int} {l : List Entry} {e : Entry} (h : TInv k l) (he : qacb e) : TInv k (addR k m l e) := by
 unfold addR
 by_cases h0 : addV k m l e = 0
 ·rw [if_pos h0]
  obtain ⟨q1, -, q3, -⟩ := qaj0 h0
  have hm : ∀ x, x ∈ qamd l (towE e) → x ∈ l ∨ x = towE e := fun x hx => by
   have := (qact l (towE e)).mem_iff.1 hx
   simpa using this
  refine ⟨qaqj h.heap _, fun x hx => ?_, fun x hx => ?_, fun x hx => ?_, qad0 (qact l (towE e)).symm ?_⟩
  ·rcases hm x hx with h1 | rfl
   ·exact h.small x h1
   ·exact ⟨he.1, he.2.1, he.2.2⟩
  ·rcases hm x hx with h1 | rfl
   ·exact h.fit x h1
   ·exact q1
  ·rcases hm x hx with h1 | rfl
   ·exact h.len0 x h1
   ·rfl
  ·refine List.pairwise_append.2 ⟨h.no, List.pairwise_singleton _ _, fun a ha b hb => ?_⟩
   rw [List.mem_singleton.1 hb]
   rintro ⟨h1, h2⟩
   have := qau3 q3 a ha
   have h1' : a.prio = e.prio := h1
   have e1 : (a.prio == e.prio) = true := by simpa using h1'
   rw [e1, Bool.true_and] at this
   rw [show qamt a e = true from h2] at this; cases this
 ·rw [if_neg h0]; exact h
theorem sub_inv {k : Int} {l L : List Entry} (h : TInv k l) (hh : Heap L.dropLast) (hp : L.Perm l) : TInv k L.dropLast := by
 have hm : ∀ x, x ∈ L.dropLast → x ∈ l := fun x hx => hp.mem_iff.1 ((List.dropLast_sublist _).mem hx)
 exact ⟨hh, fun x hx => h.small x (hm x hx), fun x hx => h.fit x (hm x hx), fun x hx => h.len0 x (hm x hx), (qad0 hp.symm h.no).sublist (List.dropLast_sublist _)⟩
theorem qaq2 {k : Int} {l : List Entry} {e : Entry} (h : TInv k l) : TInv k (qalp k l e) := by
 unfold qalp
 split
 ·exact h
 ·split
  ·exact h
  ·rename_i h1
   obtain ⟨i, h2, h3⟩ := qatm l e h1
   rw [h2, Int.toNat_natCast]
   exact sub_inv h (qauk h.heap i h3).1 (qado l i)
theorem qavt {k m : Int} {l : List Entry} {e : Entry} : (addR k m l e).length ≤ l.length + 1 := by
 unfold addR; split
 ·rw [(qact l (towE e)).length_eq]; simp
 ·omega
theorem qath {k m : Int} {l : List Entry} {e : Entry} (h : (l.length : Int) ≤ max m 0) : ((addR k m l e).length : Int) ≤ max m 0 := by
 unfold addR
 by_cases h0 : addV k m l e = 0
 ·rw [if_pos h0, (qact l (towE e)).length_eq]
  have := (qaj0 h0).2.2.2
  simp; omega
 ·rw [if_neg h0]; exact h
theorem qajp {k : Int} {l : List Entry} {e : Entry} : (qalp k l e).length ≤ l.length := by
 unfold qalp; split
 ·omega
 ·split
  ·omega
  ·rw [List.length_dropLast, (qado _ _).length_eq]; omega
def fitK (xs : List Int) (e : Entry) : Bool := (List.range xs.length).all fun i => bits .and .u64 (el xs i) (el e.masks i) == el e.keys i
theorem qaqy {xs : List Int} {a b : Entry} (ha : fitK xs a = true) (hb : fitK xs b = true) (hl : a.keys.length ≤ xs.length) : qamt a b = true :=
 qajf _ _ _ _ fun i hi => qaqu (by have := List.all_eq_true.1 ha i (List.mem_range.2 (by omega)); simpa using this) (by have := List.all_eq_true.1 hb i (List.mem_range.2 (by omega)); simpa using this)
theorem qau1 {a b : Entry} (h : leE a b) : a.prio ≤ b.prio := by
 rw [qat2] at h
 rcases h with h | h <;> omega
theorem qai3 {k : Int} {l : List Entry} (h : TInv k l) : (qafr l).Perm l := by
 have h1 := qalw l
 have h2 : l.map towE = l := by
  have : l.map towE = l.map id := List.map_congr_left fun x hx => qaud x (h.len0 x hx)
  rw [this, List.map_id]
 rw [h2] at h1; exact h1
theorem all_lt {k : Int} {l : List Entry} (h : TInv k l) {xs : List Int} (hx : (xs.length : Int) = k) {f i : Nat} (hfi : f < i) (hi : i < (qafr l).length) (ha : fitK xs ((qafr l)[f]'(by omega)) = true) (hb : fitK xs (qafr l)[i] = true) : ((qafr l)[f]'(by omega)).prio < (qafr l)[i].prio := by
 have hp := qai3 h
 have h1 := qau1 (List.pairwise_iff_getElem.1 (qah0 h.heap) f i (by omega) hi hfi)
 have h2 := List.pairwise_iff_getElem.1 (qad0 hp.symm h.no) f i (by omega) hi hfi
 have h3 := (qagp (h.fit _ (hp.mem_iff.1 (List.getElem_mem (show f < (qafr l).length by omega))))).1
 have h4 := qaqy ha hb (by omega)
 have : ((qafr l)[f]'(by omega)).prio ≠ (qafr l)[i].prio := fun e => h2 ⟨e, h4⟩
 omega
end Go.Proofs.Ytefkifebgeagiaa
namespace Go.Proofs.Ytefkifebgeagiaa
set_option linter.all false
open Go.RowKit
def qaea (s : TStep) : List SV := .int .i64 s.d :: qaag s.e
def qafu (l : List TStep) : SV := .view 7 (l.map qaea)
def bigE (e : Entry) : Bool := decide (e.keys.length > 20) || (decide (e.masks.length > 20) || decide (e.args.length > 20))
def bigS (l : List TStep) : Bool := decide (l.length > 200) || l.any fun s => bigE s.e
theorem great_s (l : List TStep) : SCalls Try.prog 7 [qafu l] [] 0 (.bool (bigS l)) [] := by
 refine qaan (N := 41) Try.func7 rfl rfl (by kernel_rfl) qai0 (by simp) ⟨rfl, trivial⟩ trivial ?_
 rintro X hP hN hm
 generalize hr : bigS l = r
 have fin : ∀ (r' : Bool) hp nx, r' = r → QFun X (Try.f7).results.toList 0 (.bool r) [] .ret ⟨[(2, .bool r')], hp, nx⟩ := fun r' hp nx hr => by
  rw [hr]
  exact (qac6 (s' := ⟨[(2, .bool r)], [], 0⟩) (qacm [] hm rfl (Nat.le_refl _) (by simp -implicitDefEqProofs [qaal, FrzOk, qaa9, qaa1, qaa7, qaa8, qaav, qaa0, qabc, qaa2, qaax, qaba, qaaw, frzS, frzH, frz, frz1, frz0, SlotsM, ObjsM, ObjM, rn, ren, ren1, ren0, gets, geth, qabl, qab0, qab3, qabk, qabd, qabz, qab2, CoL, qabb]) trivial) rfl trivial (by simp))
 unfold c_great qafu
 refine qabh (qaaf ?_)
 simp -implicitDefEqProofs [qaho, qaar, qaaq, qaac, qaai, qaad, qaah, qaao, qaap, qaab, qaa5, SOp.run, SX.ev, putd, puts, argS, upds, SOp.touch, SSt.keep, SSt.skip, gets, geth, puth, delh, idOf, SV.cells?, setL, qab5, qab6, sbin, eq0, eq1, eqL, qab4, qabe, qabf, qaas, qaat, qaaa, qaau, qaa6, qaae]
 refine qabh (qabh (qaaf ?_))
 simp -implicitDefEqProofs [qahn, qaar, qaaq, qaac, qaai, qaad, qaah, qaao, qaap, qaab, qaa5, SOp.run, SX.ev, putd, puts, argS, upds, SOp.touch, SSt.keep, SSt.skip, gets, geth, puth, delh, idOf, SV.cells?, setL, qab5, qab6, sbin, eq0, eq1, eqL, qab4, qabe, qabf, qaas, qaat, qaaa, qaau, qaa6, qaae]
 refine qaak rfl (fun h => ?_) (fun h => ?_)
 ·refine qabh (qaaf ?_)
  simp -implicitDefEqProofs [qahm, qaar, qaaq, qaac, qaai, qaad, qaah, qaao, qaap, qaab, qaa5, SOp.run, SX.ev, putd, puts, argS, upds, SOp.touch, SSt.keep, SSt.skip, gets, geth, puth, delh, idOf, SV.cells?, setL, qab5, qab6, sbin, eq0, eq1, eqL, qab4, qabe, qabf, qaas, qaat, qaaa, qaau, qaa6, qaae]
  refine qaay (fin _ _ _ ?_)
  have : l.length > 200 := by simp at h; omega
  rw [← hr]; simp [bigS, this]
 ·have h200 : l.length ≤ 200 := by simp at h; omega
  refine qaaz ?_
  simp -implicitDefEqProofs [qaar, qaaq, qaac, qaai, qaad, qaah, qaao, qaap, qaab, qaa5, SOp.run, SX.ev, putd, puts, argS, upds, SOp.touch, SSt.keep, SSt.skip, gets, geth, puth, delh, idOf, SV.cells?, setL, qab5, qab6, sbin, eq0, eq1, eqL, qab4, qabe, qabf, qaas, qaat, qaaa, qaau, qaa6, qaae]
  refine qabh (qabh (qaaf ?_))
  simp -implicitDefEqProofs [qahl, qaar, qaaq, qaac, qaai, qaad, qaah, qaao, qaap, qaab, qaa5, SOp.run, SX.ev, putd, puts, argS, upds, SOp.touch, SSt.keep, SSt.skip, gets, geth, puth, delh, idOf, SV.cells?, setL, qab5, qab6, sbin, eq0, eq1, eqL, qab4, qabe, qabf, qaas, qaat, qaaa, qaau, qaa6, qaae]
  refine qabm (qah1 (fun s n => ∃ i : Nat, s = ⟨[(0, qafu l), (3, .int .i64 i)], [], 0⟩ ∧ i ≤ l.length ∧ (∀ j s, j < i → l[j]? = some s → bigE s.e = false) ∧ n = l.length - i) (qacm [] hm rfl (Nat.le_refl _) (by simp -implicitDefEqProofs [qaal, FrzOk, qaa9, qaa1, qaa7, qaa8, qaav, qaa0, qabc, qaa2, qaax, qaba, qaaw, frzS, frzH, frz, frz1, frz0, SlotsM, ObjsM, ObjM, rn, ren, ren1, ren0, gets, geth, qabl, qab0, qab3, qabk, qabd, qabz, qab2, CoL, qabb, qafu]) (by trivial)) ⟨0, rfl, by omega, by intro j s hj; omega, rfl⟩ ?_)
  rintro s n ⟨i, rfl, h1, h2, rfl⟩
  unfold qahp
  refine qabh (qabh (qaaf ?_))
  simp -implicitDefEqProofs [qahk, qaar, qaaq, qaac, qaai, qaad, qaah, qaao, qaap, qaab, qaa5, SOp.run, SX.ev, putd, puts, argS, upds, SOp.touch, SSt.keep, SSt.skip, gets, geth, puth, delh, idOf, SV.cells?, setL, qab5, qab6, sbin, eq0, eq1, eqL, qab4, qabe, qabf, qaas, qaat, qaaa, qaau, qaa6, qaae, qafu]
  refine qaak rfl (fun h3 => qaaz ?_) (fun h3 => qabt ?_)
  ·have hi : i < l.length := by simpa using h3
   simp -implicitDefEqProofs [qaar, qaaq, qaac, qaai, qaad, qaah, qaao, qaap, qaab, qaa5, SOp.run, SX.ev, putd, puts, argS, upds, SOp.touch, SSt.keep, SSt.skip, gets, geth, puth, delh, idOf, SV.cells?, setL, qab5, qab6, sbin, eq0, eq1, eqL, qab4, qabe, qabf, qaas, qaat, qaaa, qaau, qaa6, qaae]
   refine qabh (qabm (qabh (qaaf ?_)))
   have yes : bigE l[i].e = true → bigS l = true := fun hb => by
    simp only [bigS, Bool.or_eq_true]
    exact .inr (List.any_eq_true.2 ⟨l[i], List.getElem_mem hi, hb⟩)
   have step : ∀ b hp nx, bigE l[i].e = b → SWp X ((SCode.cond (.t 40) (SCode.seq (.reg false qae7 [2]) .ret) .skip)) (qahr 1 (QSeq X (.reg false qae6 [0, 3]) (qavv X (fun s n => ∃ i : Nat, s = ⟨[(0, qafu l), (3, .int .i64 i)], [], 0⟩ ∧ i ≤ l.length ∧ (∀ j s, j < i → l[j]? = some s → bigE s.e = false) ∧ n = l.length - i) (l.length - i) (qahr 0 (QSeq X (SCode.seq (.reg false qae5 [2]) .ret) (QFun X [ResultVar.tmp 2] 0 (.bool r) []))))))
     ⟨[(0, .view 7 (l.map qaea)), (3, .int .i64 i), (40, .bool b)], hp, nx⟩ := by
    intro b hp nx hb
    cases b with
    | true =>
     refine qaak rfl (fun _ => ?_) (by simp)
     refine qabh (qaaf ?_)
     simp -implicitDefEqProofs [qae7, qaar, qaaq, qaac, qaai, qaad, qaah, qaao, qaap, qaab, qaa5, SOp.run, SX.ev, putd, puts, argS, upds, SOp.touch, SSt.keep, SSt.skip, gets, geth, puth, delh, idOf, SV.cells?, setL, qab5, qab6, sbin, eq0, eq1, eqL, qab4, qabe, qabf, qaas, qaat, qaaa, qaau, qaa6, qaae]
     refine qaay (fin _ _ _ ?_)
     rw [← hr, yes hb]
    | false =>
     refine qaak rfl (by simp) (fun _ => qaaz ?_)
     simp -implicitDefEqProofs [qaar, qaaq, qaac, qaai, qaad, qaah, qaao, qaap, qaab, qaa5, SOp.run, SX.ev, putd, puts, argS, upds, SOp.touch, SSt.keep, SSt.skip, gets, geth, puth, delh, idOf, SV.cells?, setL, qab5, qab6, sbin, eq0, eq1, eqL, qab4, qabe, qabf, qaas, qaat, qaaa, qaau, qaa6, qaae]
     refine qaaf ?_
     simp -implicitDefEqProofs [qae6, qaar, qaaq, qaac, qaai, qaad, qaah, qaao, qaap, qaab, qaa5, SOp.run, SX.ev, putd, puts, argS, upds, SOp.touch, SSt.keep, SSt.skip, gets, geth, puth, delh, idOf, SV.cells?, setL, qab5, qab6, sbin, eq0, eq1, eqL, qab4, qabe, qabf, qaas, qaat, qaaa, qaau, qaa6, qaae]
     rw [qacj (by omega) (by omega)]
     refine qagf (qacm [] hm rfl (Nat.zero_le _) (by simp -implicitDefEqProofs [qaal, FrzOk, qaa9, qaa1, qaa7, qaa8, qaav, qaa0, qabc, qaa2, qaax, qaba, qaaw, frzS, frzH, frz, frz1, frz0, SlotsM, ObjsM, ObjM, rn, ren, ren1, ren0, gets, geth, qabl, qab0, qab3, qabk, qabd, qabz, qab2, CoL, qabb, qafu]) (by trivial)) ⟨i + 1, rfl, by omega, ?_, rfl⟩ (by omega)
     intro j s hj hs
     rcases Nat.lt_or_ge j i with e | e
     ·exact h2 j s e hs
     ·obtain rfl : j = i := by omega
      rw [List.getElem?_eq_getElem hi] at hs; cases hs; exact hb
   cases k1 : decide ((20 : Int) < (l[i].e.keys.length : Int))
   ·cases k2 : decide ((20 : Int) < (l[i].e.masks.length : Int))
    ·simp -implicitDefEqProofs [qadu, qaar, qaaq, qaac, qaai, qaad, qaah, qaao, qaap, qaab, qaa5, SOp.run, SX.ev, putd, puts, argS, upds, SOp.touch, SSt.keep, SSt.skip, gets, geth, puth, delh, idOf, SV.cells?, setL, qab5, qab6, sbin, eq0, eq1, eqL, qab4, qabe, qabf, qaas, qaat, qaaa, qaau, qaa6, qaae, hi, qaea, qaag, nums, k1, k2]
     refine step _ _ _ ?_
     have e1 : ¬ (l[i].e.keys.length > 20) := by simp at k1; omega
     have e2 : ¬ (l[i].e.masks.length > 20) := by simp at k2; omega
     simp only [bigE, decide_eq_false e1, decide_eq_false e2, Bool.false_or]
     apply Bool.eq_iff_iff.2; simp; omega
    ·simp -implicitDefEqProofs [qadu, qaar, qaaq, qaac, qaai, qaad, qaah, qaao, qaap, qaab, qaa5, SOp.run, SX.ev, putd, puts, argS, upds, SOp.touch, SSt.keep, SSt.skip, gets, geth, puth, delh, idOf, SV.cells?, setL, qab5, qab6, sbin, eq0, eq1, eqL, qab4, qabe, qabf, qaas, qaat, qaaa, qaau, qaa6, qaae, hi, qaea, qaag, nums, k1, k2]
     refine step _ _ _ ?_
     have e2 : l[i].e.masks.length > 20 := by simp at k2; omega
     simp [bigE, e2]
   ·simp -implicitDefEqProofs [qadu, qaar, qaaq, qaac, qaai, qaad, qaah, qaao, qaap, qaab, qaa5, SOp.run, SX.ev, putd, puts, argS, upds, SOp.touch, SSt.keep, SSt.skip, gets, geth, puth, delh, idOf, SV.cells?, setL, qab5, qab6, sbin, eq0, eq1, eqL, qab4, qabe, qabf, qaas, qaat, qaaa, qaau, qaa6, qaae, hi, qaea, qaag, nums, k1]
    refine step _ _ _ ?_
    have e1 : l[i].e.keys.length > 20 := by simp at k1; omega
    simp [bigE, e1]
  ·have hi : i = l.length := by have : ¬ i < l.length := by simpa using h3
                                omega
   subst hi
   simp -implicitDefEqProofs [qaar, qaaq, qaac, qaai, qaad, qaah, qaao, qaap, qaab, qaa5, SOp.run, SX.ev, putd, puts, argS, upds, SOp.touch, SSt.keep, SSt.skip, gets, geth, puth, delh, idOf, SV.cells?, setL, qab5, qab6, sbin, eq0, eq1, eqL, qab4, qabe, qabf, qaas, qaat, qaaa, qaau, qaa6, qaae]
   refine qabh (qaaf ?_)
   simp -implicitDefEqProofs [qae5, qaar, qaaq, qaac, qaai, qaad, qaah, qaao, qaap, qaab, qaa5, SOp.run, SX.ev, putd, puts, argS, upds, SOp.touch, SSt.keep, SSt.skip, gets, geth, puth, delh, idOf, SV.cells?, setL, qab5, qab6, sbin, eq0, eq1, eqL, qab4, qabe, qabf, qaas, qaat, qaaa, qaau, qaa6, qaae]
   refine qaay (fin _ _ _ ?_)
   rw [← hr]
   simp only [bigS, Bool.false_eq, Bool.or_eq_false_iff]
   refine ⟨by simp; omega, List.any_eq_false.2 fun s hs => ?_⟩
   obtain ⟨j, hj⟩ := List.getElem?_of_mem hs
   rw [h2 j s (List.getElem?_eq_some_iff.1 hj).1 hj]; simp
end Go.Proofs.Ytefkifebgeagiaa
namespace Go.Proofs.Ytefkifebgeagiaa
set_option linter.all false
open Go.RowKit
def qagd (k : Int) (l : List Entry) (xs : List Int) : Option Entry := if (xs.length : Int) = k then (qafr l).find? (fitK xs) else none
end Go.Proofs.Ytefkifebgeagiaa
namespace Go.Proofs.Ytefkifebgeagiaa
set_option linter.all false
open Go.RowKit
attribute [local simp] qaar qaaq qaac qaai qaad qaah qaao qaap qaab qaa5 SOp.run SX.ev putd puts argS upds SOp.touch SSt.keep SSt.skip gets geth puth delh idOf SV.cells? setL qab5 qab6 sbin eq0 eq1 eqL qab4 qabe qabf qaas qaat qaaa qaau qaa6 qaae qaal FrzOk qaa9 qaa1 qaa7 qaa8 qaav qaa0 qabc qaa2 qaax qaba qaaw frzS frzH frz frz1 frz0 SlotsM ObjsM ObjM rn ren ren1 ren0 qabl qab0 qab3 qabk qabd qabz qab2 CoL qabb qabu dels adds idsH qabn
theorem qap6 : qae8 Try.prog 36 = some true := by kernel_rfl
theorem qah4 : qabj Try.prog 36 = some 2 := by kernel_rfl
def qahz (o : Option Entry) : SV := match o with
 | some e => .tup [.agg (qad1 e.act e.args), .bool true]
 | none => .tup [.agg (qad1 0 []), .bool false]
theorem qam4 {X : Cx} {sl : Sl} {hp : Hp} {c : qacl} {l : List Entry} {t u nx id n : Nat} {ty : TypeId} {cs ds : List SV} {v r : SV} (hm : X.m = 2) (hid : 2 ≤ id) (hne : t ≠ u) (hv : gets sl t = v) (hN : NoN v) (hu : gets sl u = .ptr id 0) (h : geth hp id = some (.cells ty cs)) (h0 : geth hp 0 = some (.cells (hty c) (hcs c l.length))) (h1 : geth hp 1 = some (.row 29 6 (l.map qaag))) (ha : qae8 X.P ty = some true) (hn : qabj X.P ty = some n) (hl : ds.length = n) (e : CoL cs ds) (hr : r = .tup [.agg ds, v]) (hd : ∀ σ, ds.map (Go.Proofs.Ytefkifebgeagiaa.ren σ) = ds) : QFun X [.cell u ty, .tmp t] 2 r (hobj c l) .ret ⟨sl, hp, nx⟩ := by
 subst hr hl
 have hw : Wk X ⟨sl, hp, nx⟩ ⟨[(u, .ptr 2 0), (t, v)], [(0, .cells (hty c) (hcs c l.length)), (1, .row 29 6 (l.map qaag)), (2, .cells ty ds)], 3⟩ := by
  refine qaa3 [(2, id)] hm ⟨?_, ?_, trivial⟩ ⟨⟨_, h0, rfl, qacv c _ rfl⟩, ⟨_, h1, rfl, rfl, by rw [qabp]; exact CoLL.refl _⟩, ⟨_, h, rfl, by rw [hd]; exact e⟩, trivial⟩ ?_ (by simp)
  ·rw [hu]; exact Co.refl _
  ·rw [hv, hN]; exact Co.refl _
  ·have a1 : ¬ (0 = id) := by omega
   have a2 : ¬ (1 = id) := by omega
   have a3 : ¬ (id = 0) := by omega
   have a4 : ¬ (id = 1) := by omega
   simp [qabn, diag, idsH, List.range_succ, a1, a2, a3, a4]
 refine ⟨_, hw, ?_, ⟨rfl, rfl, trivial⟩, by simp⟩
 simp [qafw, resL, resV, one_, gets, ha, SOp.run, SX.ev, geth, hne, hne.symm, hn]
theorem qaqz (xs ym ya : List Int) (j : Nat) (h1 : j < xs.length) (h2 : j < ym.length) (h3 : j < ya.length) : ([j].all fun i => bits .and .u64 (el xs i) (el ym i) == el ya i) = (bits .and .u64 xs[j] ym[j] == ya[j]) := by
 simp [qap9 xs j h1, qap9 ym j h2, qap9 ya j h3]
theorem qatl (k m : Int) (l : List Entry) (xs : List Int) (h : TInv k l) (hl : l.length ≤ 1000000) (hx : xs.length ≤ 1000000) : SCalls Try.prog 12 [.ptr 0 0, nums .u64 xs] (hobj (some (k, m)) l) 2 (qahz (qagd k l xs)) (hobj (some (k, m)) l) := by
 obtain ⟨F, hF⟩ : ∃ F, F = qagd k l xs := ⟨_, rfl⟩
 rw [← hF]
 unfold qagd at hF
 replace hF := Lib.hid hF
 have k1 := fun q hq => h_up (qaue k m l hl h.small) q hq rfl rfl rfl
 have hp := qai3 h
 have hlen : ∀ e ∈ qafr l, (e.keys.length : Int) = k ∧ (e.masks.length : Int) = k := fun e he => qagp (h.fit e (hp.mem_iff.1 he))
 have hL : (qafr l).length ≤ 1000000 := by rw [hp.length_eq]; exact hl
 generalize qafr l = A at k1 hlen hL hF
 replace hlen := Lib.hid hlen
 clear hp h
 have hcl : CoL (hcs (some (k, m)) l.length) ((hcs (some (k, m)) l.length).map id) := by rw [List.map_id]; exact CoL.refl _
 refine qaan (N := 58) Try.func12 rfl rfl (by kernel_rfl) qair (by simp) (by repeat' (first | exact trivial | refine And.intro ?_ ?_ | rfl | decide | exact PureR.ren _)) (qagn (some (k, m)) l) ?_
 rintro X hP hN hm
 unfold c_tfind
 unfold hobj at k1 ⊢
 unfold nums
 by_cases hk : (xs.length : Int) = k
 ·have e1 : ((xs.length : Int) != k) = false := by simpa using hk
  have hF2 : F = A.find? (fitK xs) := by rw [hF.out, if_pos hk]
  replace hF2 := Lib.hid hF2
  repeat' (first | (with_reducible refine zA ?_) | ((with_reducible refine qaaf ?_); (try rw [hP]); simp -implicitDefEqProofs [hcs, e1, *]) | ((with_reducible refine qaaz ?_); (try simp -implicitDefEqProofs [hcs, e1, *])) | ((with_reducible refine qaak rfl (fun h => ?_) (fun h => ?_)) <;> have h' := h <;> (try simp at h') <;> (try subst h')) | (refine qacg (k1 _ (by simp)) ⟨rfl, rfl, trivial⟩ ⟨rfl, rfl, trivial⟩ ?_; simp -implicitDefEqProofs [hcs, e1, *]) | fail)
  refine qabm (qacz (fun s (i : Nat) => s.turn [(22, .int .i64 i)] []) (fun i => i ≤ A.length ∧ F = (A.drop i).find? (fitK xs)) (fun i => A.length - i) 0 ?_ ⟨by simp, hF2.out⟩ ?_)
  ·repeat' (first | ((with_reducible refine qaa3 [] hm ?_ ?_ ?_ ?_) <;> (try simp only [zT, puth, Nat.reduceEqDiff, reduceIte, Nat.reduceAdd])) | (with_reducible first | refine za ?_ ?_ | refine zb ?_ ?_ ?_ ?_ | refine zc ?_ ?_ ?_ ?_) | (with_reducible first | exact qaaj | exact qaam) | ((with_reducible first | refine zga ?_ | refine zgb ?_); rfl) | ((with_reducible refine zgc ?_); (first | (with_reducible rfl) | rfl | (simp; done))) | ((with_reducible refine zgd ?_); (first | omega | (simp; done))) | (exact Co.refl _) | (exact CoL.refl _) | fail)
  rintro J hJ i ⟨h1, h2⟩
  unfold qag2
  simp only [zT, puth, Nat.reduceEqDiff, reduceIte, Nat.reduceAdd] at h1 h2 ⊢
  clear hF2
  replace h2 := Lib.hid h2
  rcases Nat.lt_or_ge i A.length with hi | hi
  ·have h3 := h2.out
   rw [List.drop_eq_getElem_cons hi, List.find?_cons] at h3
   obtain ⟨q1, q2⟩ := hlen.out _ (List.getElem_mem hi)
   have wi : IntKind.i64.wrap ((i : Int) + 1) = (i : Int) + 1 := qacj (by omega) (by omega)
   obtain ⟨B, hB⟩ : ∃ B, B = fitK xs A[i] := ⟨_, rfl⟩
   rw [← hB] at h3
   unfold fitK at hB
   generalize hy : A[i] = y at h3 q1 q2 hB
   obtain ⟨ya, ym, yl, yp, yc, yr⟩ := y
   dsimp only at q1 q2 hB
   replace h3 := Lib.hid h3
   replace hB := Lib.hid hB
   replace q1 := Lib.hid q1
   replace q2 := Lib.hid q2
   replace hk := Lib.hid hk
   repeat' (first | (with_reducible first | refine zA ?_ | refine qaa4 ?_) | ((with_reducible refine qaaf ?_); (try rw [hP]); simp -implicitDefEqProofs [List.getElem?_eq_getElem hi, hy, qaag, *]) | ((with_reducible refine qaaz ?_); (try simp -implicitDefEqProofs [List.getElem?_eq_getElem hi, hy, qaag, *])) | ((with_reducible refine qaak rfl (fun h => ?_) (fun h => ?_)) <;> have h' := h <;> (try simp at h') <;> (try subst h')) | fail)
   have hJo := hJ
   refine qabm (qacz (fun s (z : Nat × Bool) => s.turn [(28, .int .i64 z.1), (8, .bool z.2)] []) (fun z => z.1 ≤ xs.length ∧ z.2 = (List.range z.1).all fun i => bits .and .u64 (el xs i) (el ym i) == el ya i) (fun z => xs.length - z.1) (0, true) ?_ ⟨by simp, by simp⟩ ?_)
   ·repeat' (first | ((with_reducible refine qaa3 [] hm ?_ ?_ ?_ ?_) <;> (try simp only [zT, puth, Nat.reduceEqDiff, reduceIte, Nat.reduceAdd])) | (with_reducible first | refine za ?_ ?_ | refine zb ?_ ?_ ?_ ?_ | refine zc ?_ ?_ ?_ ?_) | (with_reducible first | exact qaaj | exact qaam) | ((with_reducible first | refine zga ?_ | refine zgb ?_); rfl) | ((with_reducible refine zgc ?_); (first | (with_reducible rfl) | rfl | (simp; done))) | ((with_reducible refine zgd ?_); (first | omega | (simp; done))) | (exact Co.refl _) | (exact CoL.refl _) | fail)
   rintro J hJ ⟨j, b⟩ ⟨g1, g2⟩
   unfold qag3
   simp only [zT, puth, Nat.reduceEqDiff, reduceIte, Nat.reduceAdd] at g1 g2 ⊢
   rcases Nat.lt_or_ge j xs.length with hj | hj
   ·have j1 : j < ya.length := by have := q1.out; have := hk.out; omega
    have j2 : j < ym.length := by have := q2.out; have := hk.out; omega
    have wj : IntKind.i64.wrap ((j : Int) + 1) = (j : Int) + 1 := qacj (by omega) (by omega)
    have g3 : ((List.range (j + 1)).all fun i => bits .and .u64 (el xs i) (el ym i) == el ya i) = (b && (bits .and .u64 xs[j] ym[j] == ya[j])) := by
     rw [List.range_succ, List.all_append, ← g2, qaqz xs ym ya j hj j2 j1]
    clear g2
    replace g3 := Lib.hid g3
    cases b
    all_goals
     repeat' (first | (with_reducible first | refine zA ?_ | refine qaa4 ?_ | refine zK ?_) | ((with_reducible first | refine qaaf ?_ | refine qabs (by rw [hP]; exact qaf0) ?_); (try rw [hP]); simp -implicitDefEqProofs [nums, wj, List.getElem?_eq_getElem hj, List.getElem?_eq_getElem j1, List.getElem?_eq_getElem j2, *]) | ((with_reducible refine qaaz ?_); (try simp -implicitDefEqProofs [nums, wj, List.getElem?_eq_getElem hj, List.getElem?_eq_getElem j1, List.getElem?_eq_getElem j2, *])) | ((with_reducible refine qaak rfl (fun h => ?_) (fun h => ?_)) <;> have h' := h <;> (try simp at h') <;> (try subst h')) | (with_reducible first | refine za ?_ ?_ | refine zb ?_ ?_ ?_ ?_ | refine zc ?_ ?_ ?_ ?_) | (with_reducible first | exact qaaj | exact qaam) | ((with_reducible first | refine zga ?_ | refine zgb ?_); rfl) | ((with_reducible refine zgc ?_); (first | (with_reducible rfl) | rfl | (simp; done))) | ((with_reducible first | refine zgd ?_ | refine zge ?_); (first | omega | (simp; done))) | (exact Co.refl _) | (exact CoL.refl _) | ((refine qabo hJ (j + 1, ?_) ?_ ?_ ?_; rotate_left 1; (with_reducible refine qaa3 [] hm ?_ ?_ ?_ ?_) <;> (try simp only [zT, puth, Nat.reduceEqDiff, reduceIte, Nat.reduceAdd]))) | fail)
     all_goals first | exact ⟨by omega, by rw [g3.out]; rfl⟩ | omega | trace_state
   ·obtain rfl : j = xs.length := by omega
    have hb2 : b = B := by rw [g2, hB.out]
    subst hb2
    clear g2
    cases b
    all_goals
     repeat' (first | (with_reducible refine zA ?_) | ((with_reducible refine qaaf ?_); (try rw [hP]); simp -implicitDefEqProofs [nums, wi, *]) | ((with_reducible first | refine qaaz ?_ | refine qabt ?_); (try simp -implicitDefEqProofs [nums, wi, *])) | ((with_reducible refine qaay ?_); (try simp only [qaas, qaaa, qaae])) | ((with_reducible refine qaak rfl (fun h => ?_) (fun h => ?_)) <;> have h' := h <;> (try simp at h') <;> (try subst h')) | (with_reducible first | refine za ?_ ?_ | refine zb ?_ ?_ ?_ ?_ | refine zc ?_ ?_ ?_ ?_) | (with_reducible first | exact qaaj | exact qaam) | ((with_reducible first | refine zga ?_ | refine zgb ?_); rfl) | ((with_reducible refine zgc ?_); (first | (with_reducible rfl) | rfl | (simp; done))) | ((with_reducible first | refine zgd ?_ | refine zge ?_); (first | omega | (simp; done))) | (exact Co.refl _) | (exact CoL.refl _) | ((refine qam4 (c := some (k, m)) (l := l) (v := .bool true) (ds := qad1 yc yr) hm (by decide) (by decide) rfl (qafz _) rfl rfl rfl rfl (by rw [hP]; exact qap6) (by rw [hP]; exact qah4) rfl (CoL.refl _) ?_ (fun σ => rfl))) | ((refine qabo hJo (i + 1) ?_ ?_ ?_; (with_reducible refine qaa3 [] hm ?_ ?_ ?_ ?_) <;> (try simp only [zT, puth, Nat.reduceEqDiff, reduceIte, Nat.reduceAdd]))) | fail)
     all_goals first | exact ⟨by omega, by rw [h3.out]⟩ | (rw [h3.out]; rfl) | omega | trace_state
  ·have h4 : F = none := by rw [h2.out, List.drop_eq_nil_of_le hi]; rfl
   subst h4
   repeat' (first | (with_reducible refine zA ?_) | ((with_reducible refine qaaf ?_); (try rw [hP]); simp -implicitDefEqProofs [Nat.not_lt.2 hi, *]) | ((with_reducible refine qabt ?_); (try simp -implicitDefEqProofs [Nat.not_lt.2 hi, *])) | ((with_reducible refine qaay ?_); (try simp only [qaas, qaaa, qaae])) | ((with_reducible refine qaak rfl (fun h => ?_) (fun h => ?_)) <;> have h' := h <;> (try simp at h') <;> (try subst h')) | ((refine qam4 (c := some (k, m)) (l := l) (v := .bool false) (ds := qad1 0 []) hm (by decide) (by decide) rfl (qafz _) rfl rfl rfl rfl (by rw [hP]; exact qap6) (by rw [hP]; exact qah4) rfl ⟨Co.refl _, Co.nilsl _, trivial⟩ rfl (fun σ => rfl))) | fail)
 ·have e1 : ((xs.length : Int) != k) = true := by simpa using hk
  have hF2 : F = none := by rw [hF.out, if_neg hk]
  subst hF2
  repeat' (first | (with_reducible refine zA ?_) | ((with_reducible refine qaaf ?_); (try rw [hP]); simp -implicitDefEqProofs [hcs, e1, *]) | ((with_reducible refine qaay ?_); (try simp only [qaas, qaaa, qaae])) | ((with_reducible refine qaak rfl (fun h => ?_) (fun h => ?_)) <;> have h' := h <;> (try simp at h') <;> (try subst h')) | ((refine qam4 (c := some (k, m)) (l := l) (v := .bool false) (ds := qad1 0 []) hm (by decide) (by decide) rfl (qafz _) rfl rfl rfl rfl (by rw [hP]; exact qap6) (by rw [hP]; exact qah4) rfl ⟨Co.refl _, Co.nilsl _, trivial⟩ rfl (fun σ => rfl))) | fail)
end Go.Proofs.Ytefkifebgeagiaa
namespace Go.Proofs.Ytefkifebgeagiaa
set_option linter.all false
open Go.RowKit
abbrev qarj : List SOper := [Oa 6 (.mv (.c (.bool false)))]
abbrev qari : List SOper := [Oc 16 6 [], Oa 17 (.un .not (.t 16))]
abbrev qarh : List SOper := [Oa 6 (.mv (.c (.bool false)))]
abbrev qarg : List SOper := [Oa 18 (.mv (.t 1)), Oc 19 7 [(.t 18)], Oa 20 (.mv (.t 19)), Oe 21 (.mv (.t 2)) 20 false, Oe 22 (.len false (.t 21)) 20 false, Oe 23 (.bin .neq (.t 22) (.c (.int .i64 2))) 20 false, Oa 24 (.pick (.t 20) (.c (.bool true)) (.t 23))]
abbrev qarf : List SOper := [Oa 6 (.mv (.c (.bool true)))]
abbrev qare : List SOper := [Oa 25 (.mv (.t 0)), Oc 26 8 [(.c (.int .i64 2)), (.t 25)], Oa 7 (.mv (.t 26))]
abbrev qard : List SOper := [Oa 8 (.mv (.c (.int .i64 0)))]
abbrev qarc : List SOper := [Oa 27 (.mv (.t 8)), Oa 28 (.mv (.t 1)), Oa 29 (.len false (.t 28)), Oa 30 (.bin .lss (.t 27) (.t 29))]
abbrev qarb : List SOper := [Oa 33 (.mv (.t 1)), Oa 34 (.mv (.t 8)), Oa 35 (.iaddr 7 (.t 33) (.t 34)), Oa 36 (.faddr 0 (.t 35)), Oa 37 (.load (.t 36)), Oa 38 (.bin .eql (.t 37) (.c (.int .i64 2)))]
abbrev qan1 : List SOper := [Oa 39 (.mv (.t 7)), Oa 40 (.mv (.t 1)), Oa 41 (.mv (.t 8)), Oa 42 (.iaddr 7 (.t 40) (.t 41)), Oa 43 (.faddr 1 (.t 42)), Oa 44 (.loads 6 (.t 43)), Oc 45 9 [(.t 39), (.t 44)]]
abbrev qan0 : List SOper := [Oa 46 (.mv (.t 7)), Oa 47 (.mv (.t 1)), Oa 48 (.mv (.t 8)), Oa 49 (.iaddr 7 (.t 47) (.t 48)), Oa 50 (.faddr 1 (.t 49)), Oa 51 (.loads 6 (.t 50)), Oc 52 10 [(.t 46), (.t 51)]]
abbrev qanz : List SOper := [Oa 31 (.mv (.t 8)), Oa 32 (.bin .add (.t 31) (.c (.int .i64 1))), Oa 8 (.mv (.t 32))]
def qajs : SCode := (.seq (.seq (.reg false qarc [0, 1, 2, 7, 8, 30]) (.cond (.t 30) .skip (.exit 0))) (.seq (.block 1 (.seq (.reg false qarb [0, 1, 2, 7, 8, 38]) (.cond (.t 38) (.reg false qan1 [0, 1, 2, 7, 8]) (.reg false qan0 [0, 1, 2, 7, 8])))) (.reg false qanz [0, 1, 2, 7, 8])))
abbrev qany : List SOper := [Oa 53 (.mv (.t 7)), Oc 54 11 [(.t 53)], Oa 9 (.mv (.t 54))]
abbrev qanx : List SOper := [Oa 56 (.mv (.t 7)), Oa 57 (.mv (.t 2)), Oc 58 12 [(.t 56), (.t 57)], Oa 55 (.mv (.t 58)), Oa 59 (.extr (.t 55) 0), Oa 60 (.extr (.t 55) 1), Oa 10 (.alloc 36 [(.int .i64 0), .nilsl]), Ob (.store 2 (.t 10) (.t 59)), Oa 11 (.mv (.t 60))]
abbrev qanw : List SOper := [Oa 12 (.mv (.c (.int .i64 (-1)))), Oa 13 (.mv (.c (.int .i64 0)))]
abbrev qanv : List SOper := [Oa 14 (.mv (.c (.int .i64 0)))]
abbrev qanu : List SOper := [Oa 61 (.mv (.t 14)), Oa 62 (.mv (.t 9)), Oa 63 (.len false (.t 62)), Oa 64 (.bin .lss (.t 61) (.t 63))]
abbrev qant : List SOper := [Oa 67 (.mv (.t 9)), Oa 68 (.mv (.t 14)), Oa 69 (.iaddr 6 (.t 67) (.t 68)), Oa 70 (.loads 6 (.t 69)), Oa 15 (.alloc 29 [.nilsl, .nilsl, (.int .i64 0), (.int .i64 0), (.int .i64 0), .nilsl]), Ob (.store 6 (.t 15) (.t 70))]
abbrev qans : List SOper := [Oa 71 (.mv (.t 2)), Od 72 (.iaddr 1 (.t 71) (.c (.int .i64 0))) 1, Od 73 (.load (.t 72)) 3, Oa 74 (.faddr 1 (.t 15)), Od 75 (.load (.t 74)) 8, Od 76 (.iaddr 1 (.t 75) (.c (.int .i64 0))) 24, Od 77 (.load (.t 76)) 56, Od 78 (.bin .and (.t 73) (.t 77)) 127, Oa 79 (.faddr 0 (.t 15)), Od 80 (.load (.t 79)) 256, Od 81 (.iaddr 1 (.t 80) (.c (.int .i64 0))) 768, Od 82 (.load (.t 81)) 1792, Od 83 (.bin .neq (.t 78) (.t 82)) 4095, Od 84 (.mv (.t 83)) 8191, Of 85 (.mv (.t 2)) 84 false 16383, Of 86 (.iaddr 1 (.t 85) (.c (.int .i64 1))) 84 false 32767, Of 87 (.load (.t 86)) 84 false 65535, Of 88 (.faddr 1 (.t 15)) 84 false 16383, Of 89 (.load (.t 88)) 84 false 147455, Of 90 (.iaddr 1 (.t 89) (.c (.int .i64 1))) 84 false 409599, Of 91 (.load (.t 90)) 84 false 933887, Of 92 (.bin .and (.t 87) (.t 91)) 84 false 2097151, Of 93 (.faddr 0 (.t 15)) 84 false 16383, Of 94 (.load (.t 93)) 84 false 4210687, Of 95 (.iaddr 1 (.t 94) (.c (.int .i64 1))) 84 false 12599295, Of 96 (.load (.t 95)) 84 false 29376511, Of 97 (.bin .neq (.t 92) (.t 96)) 84 false 67108863, Od 98 (.pick (.t 84) (.c (.bool true)) (.t 97)) 134217727]
abbrev qanr : List SOper := [Oa 99 (.mv (.t 12)), Od 100 (.bin .lss (.t 99) (.c (.int .i64 0))) 1, Od 101 (.mv (.t 100)) 3, Of 102 (.faddr 3 (.t 15)) 101 false 7, Of 103 (.load (.t 102)) 101 false 15, Of 104 (.mv (.t 9)) 101 false 7, Of 105 (.mv (.t 12)) 101 false 7, Of 106 (.iaddr 6 (.t 104) (.t 105)) 101 false 103, Of 107 (.faddr 3 (.t 106)) 101 false 231, Of 108 (.load (.t 107)) 101 false 487, Of 109 (.bin .lss (.t 103) (.t 108)) 101 false 1023, Od 110 (.pick (.t 101) (.c (.bool true)) (.t 109)) 2047]
abbrev qanq : List SOper := [Oa 111 (.mv (.t 14)), Oa 12 (.mv (.t 111)), Oa 13 (.mv (.c (.int .i64 0)))]
abbrev qanp : List SOper := [Oa 112 (.faddr 3 (.t 15)), Od 113 (.load (.t 112)) 1, Oa 114 (.mv (.t 9)), Oa 115 (.mv (.t 12)), Od 116 (.iaddr 6 (.t 114) (.t 115)) 12, Od 117 (.faddr 3 (.t 116)) 28, Od 118 (.load (.t 117)) 60, Od 119 (.bin .eql (.t 113) (.t 118)) 127]
abbrev qano : List SOper := [Oa 120 (.mv (.t 13)), Oa 121 (.bin .add (.t 120) (.c (.int .i64 1))), Oa 13 (.mv (.t 121))]
abbrev qann : List SOper := [Oa 65 (.mv (.t 14)), Oa 66 (.bin .add (.t 65) (.c (.int .i64 1))), Oa 14 (.mv (.t 66))]
def qajr : SCode := (.seq (.seq (.reg false qanu [0, 2, 9, 10, 11, 12, 13, 14, 64]) (.cond (.t 64) .skip (.exit 2))) (.seq (.block 3 (.seq (.reg false qant [0, 2, 9, 10, 11, 12, 13, 14, 15]) (.seq (.seq (.reg true qans [0, 2, 9, 10, 11, 12, 13, 14, 15, 98]) (.cond (.t 98) (.exit 3) .skip)) (.seq (.seq (.reg true qanr [0, 2, 9, 10, 11, 12, 13, 14, 15, 110]) (.cond (.t 110) (.reg false qanq [0, 2, 9, 10, 11, 12, 13, 14, 15]) .skip)) (.seq (.reg true qanp [0, 2, 9, 10, 11, 12, 13, 14, 119]) (.cond (.t 119) (.reg false qano [0, 2, 9, 10, 11, 12, 13, 14]) .skip)))))) (.reg false qann [0, 2, 9, 10, 11, 12, 13, 14])))
abbrev qanm : List SOper := [Oa 122 (.mv (.t 12)), Oa 123 (.bin .lss (.t 122) (.c (.int .i64 0)))]
abbrev qanl : List SOper := [Oa 124 (.mv (.t 11)), Oa 125 (.un .not (.t 124)), Oa 6 (.mv (.t 125))]
abbrev qank : List SOper := [Oa 126 (.mv (.t 11)), Od 127 (.mv (.t 126)) 1, Of 128 (.mv (.t 13)) 127 true 3, Of 129 (.bin .eql (.t 128) (.c (.int .i64 1))) 127 true 7, Od 130 (.pick (.t 127) (.t 129) (.c (.bool false))) 15, Od 131 (.mv (.t 130)) 31, Of 132 (.loads 2 (.t 10)) 131 true 63, Of 133 (.mv (.t 9)) 131 true 63, Of 134 (.mv (.t 12)) 131 true 63, Of 135 (.iaddr 6 (.t 133) (.t 134)) 131 true 447, Of 136 (.loads 6 (.t 135)) 131 true 959, ⟨(some 137), .mv (.c .any), some ((.c (.fn (.func 14) [] [])), [(.t 136)]), (some (131, true)), 1983⟩, ⟨(some 138), .mv (.c .any), some ((.c (.fn (.func 13) [] [])), [(.t 132), (.t 137)]), (some (131, true)), 4095⟩, Od 139 (.pick (.t 131) (.t 138) (.c (.bool false))) 8191, Od 140 (.mv (.t 139)) 16383, Of 141 (.mv (.t 9)) 140 true 32767, Of 142 (.len false (.t 141)) 140 true 65535, Of 143 (.mv (.t 0)) 140 true 32767, Of 144 (.mm true (.t 143) (.c (.int .i64 0))) 140 true 163839, Of 145 (.bin .leq (.t 142) (.t 144)) 140 true 524287, Od 146 (.pick (.t 140) (.t 145) (.c (.bool false))) 1048575, Od 6 (.mv (.t 146)) 2097151]
def c_tfst : SCode := (.seq (.reg false qarj [0, 1, 2]) (.seq (.seq (.reg false qari [0, 1, 2, 17]) (.cond (.t 17) (.seq (.reg false qarh [6]) .ret) .skip)) (.seq (.seq (.reg false qarg [0, 1, 2, 24]) (.cond (.t 24) (.seq (.reg false qarf [6]) .ret) .skip)) (.seq (.reg false qare [0, 1, 2, 7]) (.seq (.seq (.reg false qard [0, 1, 2, 7, 8]) (.block 0 (.loop qajs))) (.seq (.reg false qany [0, 2, 7, 9]) (.seq (.reg false qanx [0, 2, 9, 10, 11]) (.seq (.reg false qanw [0, 2, 9, 10, 11, 12, 13]) (.seq (.seq (.reg false qanv [0, 2, 9, 10, 11, 12, 13, 14]) (.block 2 (.loop qajr))) (.seq (.seq (.reg false qanm [0, 9, 10, 11, 12, 13, 123]) (.cond (.t 123) (.seq (.reg false qanl [6]) .ret) .skip)) (.seq (.reg true qank [6]) .ret)))))))))))
theorem qakd : comp Try.prog 147 ((Try.f3.body).getD .skip) = some c_tfst.erase := by kernel_rfl
abbrev qarp : List SOper := [Oa 0 (.mv (.c (.bool false)))]
abbrev qaro : List SOper := [Oc 8 8 [(.c (.int .i64 1)), (.c (.int .i64 4))], Oa 1 (.mv (.t 8))]
abbrev qajt : List SOper := [Oa 9 (.mv (.t 1)), Oa 10 (.mkrow 39 1 1 [(.int .u64 0)] [(0, (.c (.int .u64 16)))]), Oa 11 (.mkrow 39 1 1 [(.int .u64 0)] [(0, (.c (.int .u64 240)))]), Oa 12 (.build [.nilsl, .nilsl, (.int .i64 0), (.int .i64 0), (.int .i64 0), .nilsl] [(0, 1, (.t 10)), (1, 1, (.t 11)), (3, 1, (.c (.int .i64 2))), (4, 1, (.c (.int .i64 1)))]), Oc 13 10 [(.t 9), (.t 12)], Oa 2 (.mv (.t 13))]
abbrev qarn : List SOper := [Oa 14 (.mv (.t 1)), Oa 15 (.mkrow 39 1 1 [(.int .u64 0)] [(0, (.c (.int .u64 18)))]), Oa 16 (.mkrow 39 1 1 [(.int .u64 0)] [(0, (.c (.int .u64 255)))]), Oa 17 (.build [.nilsl, .nilsl, (.int .i64 0), (.int .i64 0), (.int .i64 0), .nilsl] [(0, 1, (.t 15)), (1, 1, (.t 16)), (3, 1, (.c (.int .i64 1))), (4, 1, (.c (.int .i64 2)))]), Oc 18 10 [(.t 14), (.t 17)], Oa 3 (.mv (.t 18))]
abbrev qarm : List SOper := [Oa 20 (.mv (.t 1)), Oa 21 (.mkrow 39 1 1 [(.int .u64 0)] [(0, (.c (.int .u64 18)))]), Oc 22 12 [(.t 20), (.t 21)], Oa 19 (.mv (.t 22)), Oa 23 (.extr (.t 19) 0), Oa 24 (.extr (.t 19) 1), Oa 4 (.alloc 36 [(.int .i64 0), .nilsl]), Ob (.store 2 (.t 4) (.t 23)), Oa 5 (.mv (.t 24))]
abbrev qarl : List SOper := [Oa 26 (.mv (.t 1)), Oa 27 (.mkrow 39 1 1 [(.int .u64 0)] [(0, (.c (.int .u64 19)))]), Oc 28 12 [(.t 26), (.t 27)], Oa 25 (.mv (.t 28)), Oa 29 (.extr (.t 25) 0), Oa 30 (.extr (.t 25) 1), Oa 6 (.alloc 36 [(.int .i64 0), .nilsl]), Ob (.store 2 (.t 6) (.t 29)), Oa 7 (.mv (.t 30))]
abbrev qark : List SOper := [Oa 31 (.mv (.t 2)), Oa 32 (.bin .eql (.t 31) (.c (.int .i64 0))), Oa 33 (.mv (.t 32)), Oe 34 (.mv (.t 3)) 33 true, Oe 35 (.bin .eql (.t 34) (.c (.int .i64 0))) 33 true, Oa 36 (.pick (.t 33) (.t 35) (.c (.bool false))), Oa 37 (.mv (.t 36)), Oe 38 (.mv (.t 5)) 37 true, Oa 39 (.pick (.t 37) (.t 38) (.c (.bool false))), Oa 40 (.mv (.t 39)), Oe 41 (.mv (.t 7)) 40 true, Oa 42 (.pick (.t 40) (.t 41) (.c (.bool false))), Oa 43 (.mv (.t 42)), Oe 44 (.faddr 0 (.t 4)) 43 true, Oe 45 (.load (.t 44)) 43 true, Oe 46 (.bin .eql (.t 45) (.c (.int .i64 2))) 43 true, Oa 47 (.pick (.t 43) (.t 46) (.c (.bool false))), Oa 48 (.mv (.t 47)), Oe 49 (.faddr 0 (.t 6)) 48 true, Oe 50 (.load (.t 49)) 48 true, Oe 51 (.bin .eql (.t 50) (.c (.int .i64 1))) 48 true, Oa 52 (.pick (.t 48) (.t 51) (.c (.bool false))), Oa 0 (.mv (.t 52))]
def c_tbeg : SCode := (.seq (.reg false qarp []) (.seq (.reg false qaro [1]) (.seq (.reg false qajt [1, 2]) (.seq (.reg false qarn [1, 2, 3]) (.seq (.reg false qarm [1, 2, 3, 4, 5]) (.seq (.reg false qarl [2, 3, 4, 5, 6, 7]) (.seq (.reg false qark [0]) .ret)))))))
theorem qake : comp Try.prog 53 ((Try.f6.body).getD .skip) = some c_tbeg.erase := by kernel_rfl
end Go.Proofs.Ytefkifebgeagiaa
namespace Go.Proofs.Ytefkifebgeagiaa
set_option linter.all false
open Go.RowKit
attribute [local simp] qaar qaaq qaac qaai qaad qaah qaao qaap qaab qaa5 SOp.run SX.ev putd puts argS upds SOp.touch SSt.keep SSt.skip gets geth puth delh idOf SV.cells? setL qab5 qab6 sbin eq0 eq1 eqL qab4 qabe qabf qaas qaat qaaa qaau qaa6 qaae qaal FrzOk qaa9 qaa1 qaa7 qaa8 qaav qaa0 qabc qaa2 qaax qaba qaaw frzS frzH frz frz1 frz0 SlotsM ObjsM ObjM rn ren ren1 ren0 qabl qab0 qab3 qabk qabd qabz qab2 CoL qabb qabu dels adds idsH qabn
theorem qalv (σ : Nat → Nat) (o : Option Entry) : Go.Proofs.Ytefkifebgeagiaa.ren σ (qahz o) = qahz o := by cases o <;> rfl
theorem qam3 (c : qacl) (l : List Entry) : ∀ i ∈ idsH (hobj c l), i < 2 := by intro i hi; simp [idsH, hobj] at hi; omega
theorem qalu (k m : Int) (l : List Entry) (xs : List Int) (h : TInv k l) (hl : l.length ≤ 1000000) (hx : xs.length ≤ 1000000) (id q : Nat) : SCalls Try.prog 12 [.ptr id 0, nums .u64 xs] [(id, .abs (qacq (some (k, m)) l))] q (qahz (qagd k l xs)) [(id, .abs (qacq (some (k, m)) l))] :=
 qafc (qatl k m l xs h hl hx).1 (by decide) (fun σ h => qadr _ _ (h 1 (by decide))) (qam3 _ _) (qatl k m l xs h hl hx) (fun _ => rfl) (fun σ => qalv σ _) id q
theorem tall_a (k m : Int) (l : List Entry) (h : TInv k l) (hl : l.length ≤ 1000000) (id q : Nat) : SCalls Try.prog 11 [.ptr id 0] [(id, .abs (qacq (some (k, m)) l))] q (ents (qafr l)) [(id, .abs (qacq (some (k, m)) l))] :=
 qafc (qaue k m l hl h.small).1 (by decide) (fun σ h => qadr _ _ (h 1 (by decide))) (qam3 _ _) (qaue k m l hl h.small) (fun _ => rfl) (fun σ => rfl) id q
theorem qauf (k m : Int) (l : List Entry) (e : Entry) (h : TInv k l) (hl : l.length < 1000000) (he : qacb e) (id q : Nat) (hq : id < q) : SCalls Try.prog 10 [.ptr id 0, .agg (qaag e)] [(id, .abs (qacq (some (k, m)) l))] q (.int .i64 (addV k m l e)) [(id, .abs (qacq (some (k, m)) (addR k m l e)))] :=
 qafd (tadd_s k m l e hl h.small h.fit he) (fun _ => rfl) (fun _ => rfl) rfl id q hq
theorem tdrop_a (k m : Int) (l : List Entry) (e : Entry) (h : TInv k l) (hl : l.length ≤ 1000000) (he : qacb e) (id q : Nat) (hq : id < q) : SCalls Try.prog 9 [.ptr id 0, .agg (qaag e)] [(id, .abs (qacq (some (k, m)) l))] q (.int .i64 (dropV k l e)) [(id, .abs (qacq (some (k, m)) (qalp k l e)))] :=
 qafd (tdrop_s k m l e hl h.small he) (fun _ => rfl) (fun _ => rfl) rfl id q hq
theorem tnew_a (k m : Int) (q : Nat) : SCalls Try.prog 8 [.int .i64 k, .int .i64 m] [] q (.ptr q 0) [(q, .abs (qacq (some (k, m)) []))] := by
 have e0 : sg [] q 0 = q := rfl
 exact qaci [] (tnew_s k m) rfl (by simp) (by simp) rfl trivial (by simp [idsH]) (by simp [Go.Proofs.Ytefkifebgeagiaa.ren, ren1, ren0, e0]) rfl ⟨⟨.abs (qacq (some (k, m)) []), by rw [e0]; simp [geth], rfl⟩, trivial⟩ (by simp [idsH]) (by simp [idsH, e0])
theorem qai6 (e z : Nat) (n : Int) : qavw (.row e z [[.int .u64 n]]) ↔ True := ⟨fun _ => trivial, fun _ x hx => by simp at hx; subst hx; exact qabx _ rfl⟩
def tbE1 : Entry := ⟨[16], [240], 0, 2, 1, []⟩
def tbE2 : Entry := ⟨[18], [255], 0, 1, 2, []⟩
theorem tb_s1 : qacb tbE1 := ⟨by simp [tbE1], by simp [tbE1], by simp [tbE1]⟩
theorem tb_s2 : qacb tbE2 := ⟨by simp [tbE2], by simp [tbE2], by simp [tbE2]⟩
theorem tb_v1 : addV 1 4 [] tbE1 = 0 := by rfl
theorem tb_r1 : addR 1 4 [] tbE1 = [tbE1] := by rfl
theorem tb_v2 : addV 1 4 [tbE1] tbE2 = 0 := by rfl
theorem tb_r2 : addR 1 4 [tbE1] tbE2 = [tbE2, tbE1] := by rfl
theorem tb_f1 : qagd 1 [tbE2, tbE1] [18] = some tbE2 := by rfl
theorem tb_f2 : qagd 1 [tbE2, tbE1] [19] = some tbE1 := by rfl
theorem tb_i1 : TInv 1 [tbE1] := by rw [← tb_r1]; exact qai4 (qahy 1) tb_s1
theorem tb_i2 : TInv 1 [tbE2, tbE1] := by rw [← tb_r2]; exact qai4 tb_i1 tb_s2
theorem tbeg_s (q : Nat) : SCalls Try.prog 6 [] [] q (.bool true) [] := by
 refine qabi ?_ (fun _ => rfl) (fun _ => rfl) rfl q
 have k1 := fun q hq => qauf 1 4 [] tbE1 (qahy 1) (by simp) tb_s1 0 q hq
 have k2 := fun q hq => qauf 1 4 [tbE1] tbE2 tb_i1 (by simp) tb_s2 0 q hq
 have k3 := fun q => qalu 1 4 [tbE2, tbE1] [18] tb_i2 (by simp) (by simp) 0 q
 have k4 := fun q => qalu 1 4 [tbE2, tbE1] [19] tb_i2 (by simp) (by simp) 0 q
 rw [tb_v1, tb_r1] at k1
 rw [tb_v2, tb_r2] at k2
 rw [tb_f1, show qahz (some tbE2) = .tup [.agg [.int .i64 2, .view 1 []], .bool true] from rfl] at k3
 rw [tb_f2, show qahz (some tbE1) = .tup [.agg [.int .i64 1, .view 1 []], .bool true] from rfl] at k4
 refine qaan (N := 53) Try.func6 rfl rfl (by kernel_rfl) qake (by simp) (by repeat' (first | exact trivial | refine And.intro ?_ ?_ | rfl | decide | exact PureR.ren _)) (by repeat' (first | exact trivial | refine And.intro ?_ ?_ | rfl | decide | exact PureR.ren _)) ?_
 rintro X hP hN hm
 unfold c_tbeg
 repeat' (first | ((with_reducible refine qafs (c := .seq (.reg false qajt [1, 2]) _) ?_)) | (with_reducible refine zA ?_) | ((with_reducible refine qaaf ?_); (try rw [hP]); simp -implicitDefEqProofs [*]) | (refine qakp (tnew_a 1 4 _) trivial ⟨rfl, trivial⟩ ?_; simp -implicitDefEqProofs [*]) | fail)
 constructor
 refine qalx (s' := ⟨[(1, .ptr 0 0)], [(0, .abs (qacq (some (1, 4)) []))], 1⟩) (qaa3 [(0, 1)] hm ⟨Co.refl _, trivial⟩ ⟨⟨_, rfl, rfl⟩, trivial⟩ rfl (Nat.zero_le _)) ?_
 refine qabh (qaft 4 ?_)
 simp -implicitDefEqProofs
 refine ⟨⟨[(1, .ptr 0 0), (9, .ptr 0 0), (12, .agg (qaag tbE1))], [(0, .abs (qacq (some (1, 4)) []))], 1⟩, qafp [2, 3] [] hm rfl (by simp only [FrzOk, geth, Nat.reduceEqDiff, reduceIte, qai6, and_true]) ⟨Co.refl _, Co.refl _, qabz ⟨Co.refl _, Co.refl _, Co.refl _, Co.refl _, Co.refl _, Co.nilsl 1, trivial⟩, trivial⟩ ⟨⟨_, rfl, rfl⟩, trivial⟩ rfl (Nat.zero_le _), ?_⟩
 simp -implicitDefEqProofs
 rw [hP]
 refine qakp (k1 _ (by simp)) ⟨rfl, trivial⟩ ⟨rfl, trivial⟩ ?_
 simp -implicitDefEqProofs
 refine qabh (qaft 4 ?_)
 simp -implicitDefEqProofs
 refine ⟨⟨[(1, .ptr 0 0), (2, .int .i64 0), (14, .ptr 0 0), (17, .agg (qaag tbE2))], [(0, .abs (qacq (some (1, 4)) [tbE1]))], 1⟩, qafp [11, 12] [] hm rfl (by simp only [FrzOk, geth, Nat.reduceEqDiff, reduceIte, qai6, and_true]) ⟨Co.refl _, Co.refl _, Co.refl _, qabz ⟨Co.refl _, Co.refl _, Co.refl _, Co.refl _, Co.refl _, Co.nilsl 1, trivial⟩, trivial⟩ ⟨⟨_, rfl, rfl⟩, trivial⟩ rfl (Nat.zero_le _), ?_⟩
 simp -implicitDefEqProofs
 rw [hP]
 refine qakp (k2 _ (by simp)) ⟨rfl, trivial⟩ ⟨rfl, trivial⟩ ?_
 simp -implicitDefEqProofs
 refine qabh (qaft 2 ?_)
 simp -implicitDefEqProofs
 refine ⟨⟨[(1, .ptr 0 0), (2, .int .i64 0), (3, .int .i64 0), (20, .ptr 0 0), (21, nums .u64 [18])], [(0, .abs (qacq (some (1, 4)) [tbE2, tbE1]))], 1⟩, qafp [11] [] hm rfl (by simp only [FrzOk, geth, Nat.reduceEqDiff, reduceIte, qai6, and_true]) ⟨Co.refl _, Co.refl _, Co.refl _, Co.refl _, Co.refl _, trivial⟩ ⟨⟨_, rfl, rfl⟩, trivial⟩ rfl (Nat.zero_le _), ?_⟩
 simp -implicitDefEqProofs
 rw [hP]
 refine qacg (k3 _) ⟨rfl, trivial⟩ ⟨rfl, trivial⟩ ?_
 simp -implicitDefEqProofs
 refine qabh (qaft 2 ?_)
 simp -implicitDefEqProofs
 refine ⟨⟨[(2, .int .i64 0), (3, .int .i64 0), (4, .ptr 1 0), (5, .bool true), (26, .ptr 0 0), (27, nums .u64 [19])], [(0, .abs (qacq (some (1, 4)) [tbE2, tbE1])), (1, .cells 36 [.int .i64 2, .view 1 []])], 2⟩, qafp [16] [(1, 12)] hm rfl (by simp only [FrzOk, geth, Nat.reduceEqDiff, reduceIte, qai6, and_true]) ⟨Co.refl _, Co.refl _, Co.refl _, Co.refl _, Co.refl _, Co.refl _, trivial⟩ ⟨⟨_, rfl, rfl⟩, ⟨_, rfl, rfl, CoL.refl _⟩, trivial⟩ rfl (Nat.zero_le _), ?_⟩
 simp -implicitDefEqProofs
 rw [hP]
 refine qacg (k4 _) ⟨rfl, trivial⟩ ⟨rfl, trivial⟩ ?_
 simp -implicitDefEqProofs
 repeat' (first | (with_reducible refine zA ?_) | ((with_reducible refine qaaf ?_); (try rw [hP]); simp -implicitDefEqProofs [*]) | ((with_reducible refine qaay ?_); (try simp only [qaas, qaaa, qaae])) | (with_reducible refine zN hm ?_) | fail)
 all_goals rfl
end Go.Proofs.Ytefkifebgeagiaa
namespace Go.Proofs.Ytefkifebgeagiaa
set_option linter.all false
open Go.RowKit
def pre (W : Nat) (key : Int) (i : Nat) : Int := key / 2 ^ (W - i)
theorem qami (n : Nat) : (0 : Int) < 2 ^ n := Int.pow_pos (by decide)
theorem qagh {W : Nat} {key : Int} (h0 : 0 ≤ key) (i : Nat) : 0 ≤ pre W key i := Int.ediv_nonneg h0 (Int.le_of_lt (qami _))
theorem pre_lt {W i : Nat} {key : Int} (h1 : key < 2 ^ W) (hi : i ≤ W) : pre W key i < 2 ^ i := by
 unfold pre
 refine Int.ediv_lt_of_lt_mul (qami _) ?_
 rw [← Int.pow_add, show i + (W - i) = W by omega]
 exact h1
def qav2 (width key n : Int) : Bool := decide (1 ≤ width ∧ width ≤ 64 ∧ 0 ≤ n ∧ n ≤ width ∧ key < 2 ^ width.toNat ∧ key % 2 ^ (width - n).toNat = 0)
end Go.Proofs.Ytefkifebgeagiaa
namespace Go.Proofs.Ytefkifebgeagiaa
set_option linter.all false
open Go.RowKit
structure Dat where
 there : Bool
 act : Int
 args : List Int
def noDat : Dat := ⟨false, 0, []⟩
def ptr (o : Option Nat) : Value := .pointer (o.map fun g => ⟨g, 0, none⟩)
end Go.Proofs.Ytefkifebgeagiaa
namespace Go.Proofs.Ytefkifebgeagiaa
set_option linter.all false
open Go.RowKit
attribute [local go_sem ↓] Go.wp_at_zero Go.wp_at_succ
structure Grown (w wr : World) (adr adr' : Nat → Int → Option Nat) (dat dat' : Nat → Int → Dat) : Prop where
 old : ∀ i v g, adr i v = some g → adr' i v = some g ∧ dat' i v = dat i v
 new : ∀ i v g, adr' i v = some g → adr i v = some g ∨ (w.heap.size ≤ g ∧ adr i v = none ∧ dat' i v = noDat)
 step : Step (fun b => ∃ i v, adr i v = some b) w wr
theorem Grown.refl (w : World) (adr : Nat → Int → Option Nat) (dat : Nat → Int → Dat) : Grown w w adr adr dat dat := ⟨fun _ _ _ e => ⟨e, rfl⟩, fun _ _ _ e => .inl e, Step.refl _ _⟩
theorem Grown.below {w wr w' : World} {adr adr' : Nat → Int → Option Nat} {dat dat' : Nat → Int → Dat} (h : Grown w wr adr adr' dat dat') (hb : Below wr.heap.size wr w') : Grown w w' adr adr' dat dat' := ⟨h.old, h.new, h.step.trans (Step.of hb)⟩
theorem Step.fresh {A B : Nat → Prop} {w wr w' : World} (h : Step A w wr) (k : Step B wr w') (hB : ∀ b, B b → A b ∨ w.heap.size ≤ b) : Step A w w' :=
 ⟨k.os.trans h.os, k.tape.trans h.tape, k.output.trans h.output, Nat.le_trans h.size k.size, fun i hi hA => (k.block i (Nat.lt_of_lt_of_le hi h.size) fun hb => (hB i hb).elim hA fun h2 => absurd hi (Nat.not_lt_of_le h2)).trans (h.block i hi hA)⟩
end Go.Proofs.Ytefkifebgeagiaa
namespace Go.Proofs.Ytefkifebgeagiaa
set_option linter.all false
open Go.RowKit
attribute [local go_sem ↓] Go.wp_at_zero Go.wp_at_succ
def ent (adr : Nat → Int → Option Nat) (dat : Nat → Int → Dat) (i : Nat) (v : Int) : Option (Int × List Int) := match adr i v with
 | some _ => if (dat i v).there then some ((dat i v).act, (dat i v).args) else none
 | none => none
theorem qaik {adr : Nat → Int → Option Nat} {dat : Nat → Int → Dat} {i : Nat} {v : Int} (h : adr i v = none) : ent adr dat i v = none := by unfold ent; rw [h]
theorem qam6 {adr : Nat → Int → Option Nat} {dat : Nat → Int → Dat} {i : Nat} {v : Int} {g : Nat} (h : adr i v = some g) : ent adr dat i v = if (dat i v).there then some ((dat i v).act, (dat i v).args) else none := by unfold ent; rw [h]
def qae0 (E : Nat → Int → Option (Int × List Int)) (i : Nat) (v : Int) (x : Option (Int × List Int)) : Nat → Int → Option (Int × List Int) := fun j u => if j = i ∧ u = v then x else E j u
def qafh (width most n : Int) (E : Nat → Int → Option (Int × List Int)) (key k : Int) : Int :=
 if qav2 width key k = false then 6 else if (E k.toNat (pre width.toNat key k.toNat)).isSome then 7 else if most ≤ n then 10 else 0
def qafg (width most n : Int) (E : Nat → Int → Option (Int × List Int)) (key k : Int) : Int := if qafh width most n E key k = 0 then n + 1 else n
def qagi (width most n : Int) (E : Nat → Int → Option (Int × List Int)) (key k act : Int) (args : List Int) : Nat → Int → Option (Int × List Int) := if qafh width most n E key k = 0 then qae0 E k.toNat (pre width.toNat key k.toNat) (some (act, args)) else E
theorem qaql {width most n : Int} {E : Nat → Int → Option (Int × List Int)} {key k : Int} (h : qafh width most n E key k ≠ 0) (act : Int) (args : List Int) : qafg width most n E key k = n ∧ qagi width most n E key k act args = E := by unfold qafg qagi; rw [if_neg h, if_neg h]; exact ⟨rfl, rfl⟩
theorem qamk {width most n : Int} {E : Nat → Int → Option (Int × List Int)} {key k : Int} (h : qafh width most n E key k = 0) (act : Int) (args : List Int) : qafg width most n E key k = n + 1 ∧ qagi width most n E key k act args = qae0 E k.toNat (pre width.toNat key k.toNat) (some (act, args)) := by unfold qafg qagi; rw [if_pos h, if_pos h]; exact ⟨rfl, rfl⟩
theorem qagj {width key k : Int} (h : qav2 width key k = true) : ∃ W K : Nat, width = W ∧ k = K ∧ 1 ≤ W ∧ W ≤ 64 ∧ K ≤ W ∧ key < 2 ^ W ∧ key % 2 ^ (W - K) = 0 := by
 unfold qav2 at h
 rw [decide_eq_true_iff] at h
 obtain ⟨h1, h2, h3, h4, h5, h6⟩ := h
 refine ⟨width.toNat, k.toNat, by omega, by omega, by omega, by omega, by omega, h5, ?_⟩
 rw [show width.toNat - k.toNat = (width - k).toNat by omega]; exact h6
theorem Grown.ent {w wr : World} {adr adr' : Nat → Int → Option Nat} {dat dat' : Nat → Int → Dat} (h : Grown w wr adr adr' dat dat') (i : Nat) (v : Int) : ent adr' dat' i v = ent adr dat i v := by
 cases e : adr' i v with
 | none =>
  rw [qaik e]
  cases e2 : adr i v with
  | none => rw [qaik e2]
  | some g => have := (h.old i v g e2).1; rw [e] at this; cases this
 | some g =>
  rw [qam6 e]
  rcases h.new i v g e with e2 | ⟨_, e2, e3⟩
  ·rw [qam6 e2, (h.old i v g e2).2]
  ·rw [qaik e2, e3]; rfl
end Go.Proofs.Ytefkifebgeagiaa
