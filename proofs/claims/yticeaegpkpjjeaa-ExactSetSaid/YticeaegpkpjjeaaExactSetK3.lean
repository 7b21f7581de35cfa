/-
  Texts joined: XExaA XExaL XExaM XExaN XShAb XCexa XShPK XShPL XCtab XFirst XWordP XEnt XTabA XOpen XPlnA XBitsP XBitsU XTabB XTabC XTStep XTabD XPlnC XCpls XPlnY XPlnZ XTabE XExaB XExaC XShY XExaD XExaE. No condition.
-/
import Derived.Shelf.SlSortCmp.NoneTotal
import Derived.Test.YticeaegpkpjjeaaProg
import Derived.ProofKit
import Derived.Deep.Slices
import Derived.Handy
import Derived.Test.YticeaegpkpjjeaaRows
import Derived.Deep.QuietTactic
import Derived.BigQuiet
import Derived.WalkSmall
import Derived.WalkSpells
import Derived.RegionTactic
import Derived.BigRegion
import Derived.Deep.RegionLaw
import Derived.Test.YticeaegpkpjjeaaExactSetK2
namespace Go.Proofs.Yticeaegpkpjjeaa
set_option linter.all false
structure XSlot where
 keys : List Int
 act : Int
 args : List Int
abbrev XTab := List (Option XSlot)
def dist (N a b : Nat) : Nat := if a ≤ b then b - a else b + N - a
def addm (N a d : Nat) : Nat := if a + d < N then a + d else a + d - N
theorem qanh {N a d : Nat} (ha : a < N) (hd : d ≤ N) : (a + d) % N = addm N a d := by
 unfold addm
 split
 ·exact Nat.mod_eq_of_lt (by assumption)
 ·rw [Nat.mod_eq_sub_mod (by omega), Nat.mod_eq_of_lt (by omega)]
theorem qacy {N a d : Nat} (ha : a < N) (hd : d ≤ N) : addm N a d < N := by unfold addm; split <;> omega
theorem qafu {N a d : Nat} (ha : a < N) (hd : d < N) : dist N a (addm N a d) = d := by
 unfold dist addm; (repeat' split) <;> omega
theorem qace {N a b : Nat} (ha : a < N) (hb : b < N) : addm N a (dist N a b) = b := by
 unfold dist addm; (repeat' split) <;> omega
theorem qadp {N a b : Nat} (ha : a < N) (hb : b < N) : dist N a b < N := by
 unfold dist; split <;> omega
theorem qarz {N a d : Nat} (ha : a < N) (hd : d < N) : addm N (addm N a d) 1 = addm N a (d + 1) := by
 unfold addm; (repeat' split) <;> omega
def qab4 (S : XTab) (xs : List Int) : Nat → Nat → Nat × Bool
 | 0, i => (i, false)
 | f + 1, i => match S[i]? with
  | some (some s) => if s.keys = xs then (i, true) else qab4 S xs f (addm S.length i 1)
  | _ => (i, false)
def OccX (S : XTab) (j : Nat) : Prop := ∃ s, S[j]? = some (some s)
structure HInv (hm : List Int → Nat) (S : XTab) (i : Nat) : Prop where
 lt : ∀ xs, hm xs < S.length
 path : ∀ (j : Nat) (s : XSlot), j ≠ i → S[j]? = some (some s) → ∀ d, d < dist S.length (hm s.keys) j → addm S.length (hm s.keys) d = i ∨ OccX S (addm S.length (hm s.keys) d)
 uniq : ∀ (j k : Nat) (s t : XSlot), j ≠ i → k ≠ i → S[j]? = some (some s) → S[k]? = some (some t) → s.keys = t.keys → j = k
 free : ∃ e : Nat, e ≠ i ∧ S[e]? = some none
def qapu (hm : List Int → Nat) (S : XTab) : Prop := HInv hm S S.length
theorem qabq {S : XTab} {j : Nat} {x : Option XSlot} (h : S[j]? = some x) : j < S.length := (List.getElem?_eq_some_iff.1 h).1
theorem qajf {hm : List Int → Nat} {S : XTab} (h : qapu hm S) {j : Nat} {s : XSlot} (hj : S[j]? = some (some s)) : qab4 S s.keys S.length (hm s.keys) = (j, true) := by
 have hl := h.lt s.keys
 have hjl := qabq hj
 have key : ∀ c d, dist S.length (hm s.keys) j = d + c → ∀ f, c < f → qab4 S s.keys f (addm S.length (hm s.keys) d) = (j, true) := by
  intro c
  induction c with
  | zero =>
   intro d hd f hf
   have e : addm S.length (hm s.keys) d = j := by unfold addm; unfold dist at hd; split <;> split at hd <;> omega
   obtain ⟨g, rfl⟩ : ∃ g, f = g + 1 := ⟨f - 1, by omega⟩
   rw [e, qab4, hj]; simp
  | succ c ih =>
   intro d hd f hf
   obtain ⟨g, rfl⟩ : ∃ g, f = g + 1 := ⟨f - 1, by omega⟩
   have hdN : d < S.length := by unfold dist at hd; split at hd <;> omega
   obtain ⟨t, ht⟩ : OccX S (addm S.length (hm s.keys) d) := by
    rcases h.path j s (by omega) hj d (by omega) with e | e
    ·have := qacy hl (show d ≤ S.length by omega); omega
    ·exact e
   have hne : t.keys ≠ s.keys := fun e => by
    have := h.uniq _ _ t s (by have := qacy hl (show d ≤ S.length by omega); omega) (by omega) ht hj e
    unfold addm at this; unfold dist at hd
    split at this <;> split at hd <;> omega
   rw [qab4, ht]
   simp only [if_neg hne]
   have e : addm S.length (addm S.length (hm s.keys) d) 1 = addm S.length (hm s.keys) (d + 1) := by unfold addm; (repeat' split) <;> omega
   rw [e]
   exact ih (d + 1) (by omega) g (by omega)
 have := key (dist S.length (hm s.keys) j) 0 (by omega) S.length (by unfold dist; split <;> omega)
 have e : addm S.length (hm s.keys) 0 = hm s.keys := by unfold addm; split <;> omega
 rw [e] at this; exact this
theorem qald {hm : List Int → Nat} {S : XTab} (h : qapu hm S) {xs : List Int} (hx : ∀ (j : Nat) (s : XSlot), S[j]? = some (some s) → s.keys ≠ xs) : ∃ r, qab4 S xs S.length (hm xs) = (r, false) ∧ S[r]? = some none ∧ ∀ d, d < dist S.length (hm xs) r → OccX S (addm S.length (hm xs) d) := by
 obtain ⟨e, -, he⟩ := h.free
 have hel := qabq he
 have hl := h.lt xs
 have key : ∀ f d, d ≤ dist S.length (hm xs) e → dist S.length (hm xs) e - d < f → (∀ d', d' < d → OccX S (addm S.length (hm xs) d')) → ∃ r, qab4 S xs f (addm S.length (hm xs) d) = (r, false) ∧ S[r]? = some none ∧ ∀ d, d < dist S.length (hm xs) r → OccX S (addm S.length (hm xs) d) := by
  intro f
  induction f with
  | zero => intro d _ h2; omega
  | succ f ih =>
   intro d h1 h2 h3
   have hdN : d < S.length := by unfold dist at h1; split at h1 <;> omega
   have hal := qacy hl (show d ≤ S.length by omega)
   rw [qab4]
   cases hs : S[addm S.length (hm xs) d]? with
   | none => rw [List.getElem?_eq_getElem hal] at hs; cases hs
   | some o =>
    cases o with
    | none =>
     refine ⟨_, rfl, hs, fun d' hd' => h3 d' ?_⟩
     unfold dist addm at hd'
     (repeat' split at hd') <;> omega
    | some t =>
     simp only [if_neg (hx _ _ hs)]
     have hne : d ≠ dist S.length (hm xs) e := fun ed => by
      have : addm S.length (hm xs) d = e := by unfold addm; unfold dist at ed; split <;> split at ed <;> omega
      rw [this, he] at hs; cases hs
     have ea : addm S.length (addm S.length (hm xs) d) 1 = addm S.length (hm xs) (d + 1) := by unfold addm; (repeat' split) <;> omega
     rw [ea]
     refine ih (d + 1) (by omega) (by omega) fun d' hd' => ?_
     rcases Nat.lt_or_ge d' d with h4 | h4
     ·exact h3 d' h4
     ·obtain rfl : d' = d := by omega
      exact ⟨t, hs⟩
 have := key S.length 0 (by omega) (by unfold dist; split <;> omega) (fun d' h => by omega)
 have e0 : addm S.length (hm xs) 0 = hm xs := by unfold addm; split <;> omega
 rw [e0] at this; exact this
theorem qabt {S : XTab} {i : Nat} (hi : i < S.length) (x : Option XSlot) (j : Nat) : (S.set i x)[j]? = if j = i then some x else S[j]? := by
 rw [List.getElem?_set]
 by_cases h : i = j
 ·subst h; rw [if_pos rfl, if_pos hi, if_pos rfl]
 ·rw [if_neg h, if_neg (Ne.symm h)]
theorem add_inv {hm : List Int → Nat} {S : XTab} (h : qapu hm S) {s : XSlot} (hx : ∀ (j : Nat) (t : XSlot), S[j]? = some (some t) → t.keys ≠ s.keys) {r : Nat} (hr : S[r]? = some none) (hp : ∀ d, d < dist S.length (hm s.keys) r → OccX S (addm S.length (hm s.keys) d)) (hf : ∃ e : Nat, e ≠ r ∧ S[e]? = some none) : qapu hm (S.set r (some s)) := by
 have hrl := qabq hr
 have occ : ∀ j, OccX S j → OccX (S.set r (some s)) j := fun j ⟨t, ht⟩ => by
  unfold OccX
  rw [qabt hrl]
  split
  ·exact ⟨s, rfl⟩
  ·exact ⟨t, ht⟩
 refine ⟨by rw [List.length_set]; exact h.lt, fun j t hj ht d hd => ?_, fun j k t u hj hk ht hu he => ?_, ?_⟩
 ·rw [List.length_set] at hd hj ⊢
  rw [qabt hrl] at ht
  right
  split at ht
  ·rename_i e; subst e; cases ht
   exact occ _ (hp d hd)
  ·rcases h.path j t hj ht d hd with e | e
   ·have := qacy (h.lt t.keys) (show d ≤ S.length by have := qabq ht; have := h.lt t.keys; unfold dist at hd; split at hd <;> omega)
    omega
   ·exact occ _ e
 ·rw [List.length_set] at hj hk
  rw [qabt hrl] at ht hu
  split at ht
  ·cases ht
   split at hu
   ·omega
   ·exact absurd he.symm (hx _ _ hu)
  ·split at hu
   ·cases hu; exact absurd he (hx _ _ ht)
   ·exact h.uniq j k t u hj hk ht hu he
 ·obtain ⟨e, h1, h2⟩ := hf
  exact ⟨e, by rw [List.length_set]; have := qabq h2; omega, by rw [qabt hrl, if_neg h1]; exact h2⟩
def qahd (hm : List Int → Nat) (S : XTab) (i : Nat) : Nat → Nat → Option Nat
 | 0, _ => none
 | f + 1, k => match S[addm S.length k 1]? with
  | some (some s) => if dist S.length i (addm S.length k 1) ≤ dist S.length (hm s.keys) (addm S.length k 1) then some (addm S.length k 1) else qahd hm S i f (addm S.length k 1)
  | _ => none
theorem qafj {hm : List Int → Nat} {S : XTab} {i : Nat} (h : HInv hm S i) (hi : i < S.length) {e : Nat} (he : e ≠ i) (h1 : S[e]? = some none) (h4 : ∀ d, 0 < d → d < dist S.length i e → OccX S (addm S.length i d)) : ∀ f k, k < S.length → dist S.length i k < dist S.length i e → dist S.length i e - dist S.length i k ≤ f →
  (∀ d, 0 < d → d ≤ dist S.length i k → ∃ s, S[addm S.length i d]? = some (some s) ∧ dist S.length (hm s.keys) (addm S.length i d) < d) →
  (∃ k' s, qahd hm S i f k = some k' ∧ k' ≠ i ∧ S[k']? = some (some s) ∧ dist S.length i k' ≤ dist S.length (hm s.keys) k' ∧ dist S.length i k' < dist S.length i e) ∨
  (qahd hm S i f k = none ∧ ∀ d, 0 < d → d < dist S.length i e → ∃ s, S[addm S.length i d]? = some (some s) ∧ dist S.length (hm s.keys) (addm S.length i d) < d)
 | 0, k, hk, h2, h3, _ => by omega
 | f + 1, k, hk, h2, h3, h5 => by
  have hel := qabq h1
  obtain ⟨d, hd⟩ : ∃ d, d = dist S.length i k + 1 := ⟨_, rfl⟩
  have hdN : d < S.length := by have := qadp hi hel; omega
  have ek : addm S.length k 1 = addm S.length i d := by
   have := qarz (d := dist S.length i k) hi (by omega)
   rw [qace hi hk] at this
   rw [this, hd]
  have hkl := qacy hk (show 1 ≤ S.length by omega)
  have edk : dist S.length i (addm S.length k 1) = d := by rw [ek]; exact qafu hi hdN
  rw [qahd]
  by_cases hed : dist S.length i e = d
  ·have hke : addm S.length k 1 = e := by rw [ek, ← hed]; exact qace hi hel
   rw [hke, h1]
   exact .inr ⟨rfl, fun d' h6 h7 => h5 d' h6 (by omega)⟩
  ·obtain ⟨s, hs⟩ := h4 d (by omega) (by omega)
   rw [ek, hs]
   simp only
   rw [← ek, edk]
   by_cases hc : d ≤ dist S.length (hm s.keys) (addm S.length k 1)
   ·rw [if_pos hc]
    refine .inl ⟨_, s, rfl, fun e1 => ?_, by rw [ek]; exact hs, by rw [edk]; exact hc, by rw [edk]; omega⟩
    rw [e1] at edk
    unfold dist at edk; split at edk <;> omega
   ·rw [if_neg hc]
    refine qafj h hi he h1 h4 f (addm S.length k 1) hkl (by omega) (by omega) fun d' h6 h7 => ?_
    rcases Nat.lt_or_ge d' d with h8 | h8
    ·exact h5 d' h6 (by omega)
    ·obtain rfl : d' = d := by omega
     exact ⟨s, hs, by rw [← ek]; omega⟩
theorem qaqb {S : XTab} {i : Nat} (hi : i < S.length) (h : ∃ e : Nat, e ≠ i ∧ S[e]? = some none) : ∃ e : Nat, e ≠ i ∧ S[e]? = some none ∧ ∀ d, 0 < d → d < dist S.length i e → OccX S (addm S.length i d) := by
 obtain ⟨e, he, h1⟩ := h
 generalize hn : dist S.length i e = n
 induction n using Nat.strongRecOn generalizing e with
 | _ n ih =>
  by_cases hall : ∀ d, 0 < d → d < dist S.length i e → OccX S (addm S.length i d)
  ·exact ⟨e, he, h1, hall⟩
  ·obtain ⟨d, hd⟩ := Classical.not_forall.1 hall
   have h2 : 0 < d := Classical.byContradiction fun h => hd fun h' => absurd h' h
   have h3 : d < dist S.length i e := Classical.byContradiction fun h => hd fun _ h' => absurd h' h
   have h4 : ¬ OccX S (addm S.length i d) := fun h => hd fun _ _ => h
   have hdN : d < S.length := by have := qadp hi (qabq h1); omega
   have hl := qacy hi (show d ≤ S.length by omega)
   have hx : S[addm S.length i d]? = some none := by
    cases hs : S[addm S.length i d]? with
    | none => rw [List.getElem?_eq_getElem hl] at hs; cases hs
    | some o =>
     cases o with
     | none => rfl
     | some t => exact absurd ⟨t, hs⟩ h4
   have hdd := qafu hi hdN
   refine ih d (by omega) (addm S.length i d) (fun e1 => ?_) hx hdd
   rw [e1] at hdd
   unfold dist at hdd; split at hdd <;> omega
theorem qany {hm : List Int → Nat} {S : XTab} {i : Nat} (h : HInv hm S i) (hi : i < S.length) {e : Nat} (he : e ≠ i) (h1 : S[e]? = some none) (h2 : ∀ d, 0 < d → d < dist S.length i e → ∃ s, S[addm S.length i d]? = some (some s) ∧ dist S.length (hm s.keys) (addm S.length i d) < d) : qapu hm (S.set i none) := by
 have hel := qabq h1
 have old : ∀ (j : Nat) (s : XSlot), (S.set i none)[j]? = some (some s) → j ≠ i ∧ S[j]? = some (some s) := fun j s hs => by
  rw [qabt hi] at hs
  split at hs
  ·cases hs
  ·exact ⟨by assumption, hs⟩
 refine ⟨by rw [List.length_set]; exact h.lt, fun j s _ hs d hd => ?_, fun j k s t _ _ hs ht => ?_, ⟨i, by rw [List.length_set]; omega, by rw [qabt hi, if_pos rfl]⟩⟩
 ·rw [List.length_set] at hd ⊢
  obtain ⟨hj, hs'⟩ := old j s hs
  have hjl := qabq hs'
  have hhl := h.lt s.keys
  have hdN : d < S.length := by have := qadp hhl hjl; omega
  right
  have hne : addm S.length (hm s.keys) d ≠ i := fun ed => by
   have h3 : dist S.length (hm s.keys) i = d := by rw [← ed]; exact qafu hhl hdN
   rcases Nat.lt_or_ge (dist S.length i j) (dist S.length i e) with h4 | h4
   ·have h5 : 0 < dist S.length i j := by unfold dist; split <;> omega
    obtain ⟨t, ht, h6⟩ := h2 (dist S.length i j) h5 h4
    rw [qace hi hjl] at ht h6
    rw [hs'] at ht; cases ht
    unfold dist at h6 hd h3; (repeat' split at *) <;> omega
   ·have h5 : dist S.length (hm s.keys) e < dist S.length (hm s.keys) j := by
     have hje : j ≠ e := fun e1 => by rw [e1, h1] at hs'; cases hs'
     unfold dist at *; (repeat' split at *) <;> omega
    have h6 := h.path j s hj hs' _ h5
    rw [qace hhl hel] at h6
    rcases h6 with h7 | ⟨t, h7⟩
    ·exact he h7
    ·rw [h1] at h7; cases h7
  rcases h.path j s hj hs' d hd with h3 | ⟨t, ht⟩
  ·exact absurd h3 hne
  ·exact ⟨t, by rw [qabt hi, if_neg hne]; exact ht⟩
 ·obtain ⟨a1, a2⟩ := old j s hs
  obtain ⟨b1, b2⟩ := old k t ht
  exact h.uniq j k s t a1 b1 a2 b2
theorem qaiq {hm : List Int → Nat} {S : XTab} {i k : Nat} {s : XSlot} (h : HInv hm S i) (hi : i < S.length) (hk : k ≠ i) (hs : S[k]? = some (some s)) (hd : dist S.length i k ≤ dist S.length (hm s.keys) k) : HInv hm (S.set i (some s)) k := by
 have hkl := qabq hs
 have occ : ∀ j, (j = i ∨ OccX S j) → OccX (S.set i (some s)) j := fun j hj => by
  unfold OccX
  rw [qabt hi]
  split
  ·exact ⟨s, rfl⟩
  ·rcases hj with h1 | h1
   ·exact absurd h1 (by assumption)
   ·exact h1
 refine ⟨by rw [List.length_set]; exact h.lt, fun j t hj ht d hdd => ?_, fun j l t u hj hl ht hu he => ?_, ?_⟩
 ·rw [List.length_set] at hdd ⊢
  rw [qabt hi] at ht
  split at ht
  ·rename_i e; subst e; cases ht
   have : d < dist S.length (hm s.keys) k := by
    have hhl := h.lt s.keys
    unfold dist at *; (repeat' split at *) <;> omega
   exact .inr (occ _ (h.path k s hk hs d this))
  ·exact .inr (occ _ (h.path j t (by assumption) ht d hdd))
 ·rw [qabt hi] at ht hu
  split at ht
  ·cases ht
   split at hu
   ·omega
   ·exact absurd (h.uniq l k u s (by assumption) hk hu hs he.symm) hl
  ·split at hu
   ·cases hu
    exact absurd (h.uniq j k t s (by assumption) hk ht hs he) hj
   ·exact h.uniq j l t u (by assumption) (by assumption) ht hu he
 ·obtain ⟨e, h1, h2⟩ := h.free
  refine ⟨e, fun e1 => ?_, by rw [qabt hi, if_neg h1]; exact h2⟩
  rw [e1, hs] at h2; cases h2
def qaft (hm : List Int → Nat) : Nat → XTab → Nat → XTab
 | 0, S, i => S.set i none
 | f + 1, S, i => match qahd hm (S.set i none) i S.length i with
  | none => S.set i none
  | some k => qaft hm f ((S.set i none).set i (S[k]?.getD none)) k
theorem qalq {hm : List Int → Nat} {S : XTab} {i : Nat} (h : HInv hm S i) (x : Option XSlot) : HInv hm (S.set i x) i := by
 have e : ∀ j, j ≠ i → (S.set i x)[j]? = S[j]? := fun j hj => by rw [List.getElem?_set, if_neg (Ne.symm hj)]
 refine ⟨by rw [List.length_set]; exact h.lt, fun j s hj hs d hd => ?_, fun j k s t hj hk hs ht => ?_, ?_⟩
 ·rw [List.length_set] at hd ⊢
  rw [e j hj] at hs
  rcases h.path j s hj hs d hd with h1 | ⟨t, h1⟩
  ·exact .inl h1
  ·by_cases h2 : addm S.length (hm s.keys) d = i
   ·exact .inl h2
   ·exact .inr ⟨t, by rw [e _ h2]; exact h1⟩
 ·rw [e j hj] at hs; rw [e k hk] at ht
  exact h.uniq j k s t hj hk hs ht
 ·obtain ⟨e1, h1, h2⟩ := h.free
  exact ⟨e1, h1, by rw [e e1 h1]; exact h2⟩
def cnt (S : XTab) : Nat := S.countP Option.isSome
theorem qae9 : ∀ (S : XTab) (i : Nat) (x : Option XSlot), (hi : i < S.length) → cnt (S.set i x) + (if S[i].isSome then 1 else 0) = cnt S + (if x.isSome then 1 else 0)
 | [], i, x, hi => by simp at hi
 | y :: S, 0, x, _ => by
  unfold cnt
  simp only [List.set_cons_zero, List.countP_cons, List.getElem_cons_zero]
  omega
 | y :: S, i + 1, x, hi => by
  have ih := qae9 S i x (by simpa using hi)
  unfold cnt at ih ⊢
  simp only [List.set_cons_succ, List.countP_cons, List.getElem_cons_succ]
  omega
theorem qafs {hm : List Int → Nat} : ∀ (f : Nat) (S : XTab) (i : Nat), HInv hm S i → i < S.length → (∃ e : Nat, e ≠ i ∧ S[e]? = some none ∧ dist S.length i e ≤ f) → qapu hm (qaft hm f S i) ∧ (qaft hm f S i).length = S.length ∧ (∀ s, (∃ j : Nat, (qaft hm f S i)[j]? = some (some s)) ↔ ∃ j : Nat, j ≠ i ∧ S[j]? = some (some s)) ∧ cnt (qaft hm f S i) = cnt (S.set i none)
 | 0, S, i, h, hi, ⟨e, he, h1, h2⟩ => by
  exfalso
  have := qabq h1
  unfold dist at h2; split at h2 <;> omega
 | f + 1, S, i, h, hi, ⟨e0, he0, h10, h20⟩ => by
  have hS := qalq h none
  have hl : (S.set i none).length = S.length := List.length_set ..
  have hi' : i < (S.set i none).length := by rw [hl]; exact hi
  obtain ⟨e, he, h1, h4⟩ := qaqb hi' hS.free
  have g1 : ∀ j, j ≠ i → (S.set i none)[j]? = S[j]? := fun j hj => by rw [qabt hi, if_neg hj]
  have d0 : dist (S.set i none).length i i = 0 := by unfold dist; simp
  have hel := qabq h1
  have hpos : 0 < dist (S.set i none).length i e := by unfold dist; split <;> omega
  have hlt := qadp hi' hel
  have hse : ∀ s, (∃ j : Nat, (S.set i none)[j]? = some (some s)) ↔ ∃ j : Nat, j ≠ i ∧ S[j]? = some (some s) := fun s => by
   constructor
   ·rintro ⟨j, hj⟩
    rw [qabt hi] at hj
    split at hj
    ·cases hj
    ·exact ⟨j, by assumption, hj⟩
   ·rintro ⟨j, hj, hs⟩
    exact ⟨j, by rw [g1 j hj]; exact hs⟩
  rw [qaft]
  rcases qafj hS hi' he h1 h4 S.length i hi' (by omega) (by omega) (fun d h5 h6 => by omega) with ⟨k, s, q1, q2, q3, q4, q5⟩ | ⟨q1, q2⟩
  ·rw [q1]
   simp only
   have hks : S[k]? = some (some s) := by rw [← g1 k q2]; exact q3
   rw [hks, Option.getD_some]
   have hm2 := qaiq hS hi' q2 q3 q4
   have hl2 : ((S.set i none).set i (some s)).length = S.length := by simp
   have hkl := qabq hks
   have he2 : S[e0]? = some none := h10
   have hke0 : dist S.length i k < dist S.length i e0 := by
    rcases Nat.lt_or_ge (dist S.length i k) (dist S.length i e0) with h9 | h9
    ·exact h9
    ·exfalso
     rw [hl] at q5
     have hp0 : 0 < dist S.length i e0 := by have := qabq h10; unfold dist; split <;> omega
     have hne : dist S.length i e0 ≠ dist S.length i k := fun e1 => by
      have a1 := qace hi (qabq h10)
      have a2 := qace hi hkl
      rw [e1, a2] at a1
      rw [← a1, hks] at h10; cases h10
     obtain ⟨t, ht⟩ := h4 (dist S.length i e0) hp0 (by rw [hl]; omega)
     rw [hl, qace hi (qabq h10), g1 e0 he0, h10] at ht
     cases ht
   have hfree : ∃ e : Nat, e ≠ k ∧ ((S.set i none).set i (some s))[e]? = some none ∧ dist ((S.set i none).set i (some s)).length k e ≤ f := by
    refine ⟨e0, (fun e1 => (by rw [e1, hks] at h10; cases h10)), ?_, ?_⟩
    ·rw [List.getElem?_set, if_neg (Ne.symm he0), g1 e0 he0]; exact h10
    ·rw [hl2]
     have := qabq h10
     unfold dist at hke0 h20 ⊢
     (repeat' split at *) <;> (repeat' split) <;> omega
   obtain ⟨r1, r2, r3, r4⟩ := qafs f _ k hm2 (by rw [hl2]; exact hkl) hfree
   refine ⟨r1, by rw [r2, hl2], fun t => ?_, ?_⟩
   ·rw [r3 t]
    constructor
    ·rintro ⟨j, hj, ht⟩
     rw [qabt hi'] at ht
     split at ht
     ·cases ht; exact ⟨k, q2, hks⟩
     ·rename_i hji
      rw [g1 j hji] at ht; exact ⟨j, hji, ht⟩
    ·rintro ⟨j, hj, ht⟩
     by_cases hjk : j = k
     ·subst hjk
      rw [hks] at ht; cases ht
      exact ⟨i, Ne.symm q2, by rw [qabt hi', if_pos rfl]⟩
     ·exact ⟨j, hjk, by rw [qabt hi', if_neg hj, g1 j hj]; exact ht⟩
   ·rw [r4]
    have c1 := qae9 ((S.set i none).set i (some s)) k none (by rw [hl2]; exact hkl)
    have c2 := qae9 (S.set i none) i (some s) hi'
    have x1 : ((S.set i none).set i (some s))[k]'(by rw [hl2]; exact hkl) = some s := by
     have : ((S.set i none).set i (some s))[k]? = some (some s) := by rw [qabt hi', if_neg q2]; exact q3
     rw [List.getElem?_eq_getElem (by rw [hl2]; exact hkl)] at this
     exact Option.some.inj this
    have x2 : (S.set i none)[i]'hi' = none := by simp
    rw [x1] at c1
    rw [x2] at c2
    simp at c1 c2 ⊢
    omega
  ·rw [q1]
   exact ⟨by have := qany hS hi' he h1 q2; rwa [List.set_set] at this, hl, hse, rfl⟩
end Go.Proofs.Yticeaegpkpjjeaa
namespace Go.Proofs.Yticeaegpkpjjeaa
set_option linter.all false
open Go.RowKit Go.Sort
theorem qaei {a b : Int} : cmpI a b = 0 ↔ a = b := by unfold cmpI; split <;> (try split) <;> omega
theorem qah7 {a b : Int} : cmpI a b < 0 ↔ a < b := by unfold cmpI; split <;> (try split) <;> omega
theorem qan9 (a b : Int) : cmpI b a = - cmpI a b := by unfold cmpI; split <;> (try split) <;> omega
theorem qacd : ∀ a b : List Int, cmpL b a = - cmpL a b
 | [], [] => rfl
 | [], _ :: _ => rfl
 | _ :: _, [] => rfl
 | x :: a, y :: b => by
  have h := qan9 x y
  have ih := qacd a b
  simp only [cmpL]
  split <;> split <;> omega
theorem qaeh : ∀ a b : List Int, cmpL a b = 0 ↔ a = b
 | [], [] => by simp [cmpL]
 | [], _ :: _ => by simp [cmpL]
 | _ :: _, [] => by simp [cmpL]
 | x :: a, y :: b => by
  have ih := qaeh a b
  have h := @qaei x y
  simp only [cmpL, List.cons.injEq]
  split
  ·constructor
   ·intro h0; omega
   ·intro h0; exact absurd (h.2 h0.1) ‹_›
  ·have : x = y := h.1 (by omega)
   simp [this, ih]
theorem qadq : ∀ a b c : List Int, cmpL a b ≤ 0 → cmpL b c ≤ 0 → cmpL a c ≤ 0
 | [], b, [], _, _ => by simp [cmpL]
 | [], b, _ :: _, _, _ => by simp [cmpL]
 | _ :: _, [], c, h, _ => by simp [cmpL] at h
 | _ :: _, _ :: _, [], _, h => by simp [cmpL] at h
 | x :: a, y :: b, z :: c, h1, h2 => by
  have ih := qadq a b c
  have e1 := @qaei x y
  have e2 := @qaei y z
  have e3 := @qaei x z
  have n1 := @qah7 x y
  have n2 := @qah7 y z
  have n3 := @qah7 x z
  simp only [cmpL] at h1 h2 ⊢
  split at h1 <;> split at h2 <;> split <;> first | omega | (exact ih h1 h2) | (exfalso; omega)
theorem qan8 {a b c : List Int} (h1 : cmpL a b < 0) (h2 : cmpL b c ≤ 0) : cmpL a c < 0 := by
 have h := qadq a b c (by omega) h2
 rcases Int.lt_or_eq_of_le h with h3 | h3
 ·exact h3
 ·have h4 := (qaeh a c).1 h3
  subst h4
  have := qacd a b
  omega
def xec (x : XSlot) : List SV := [nums .u64 x.keys, .nilsl, .int .i64 0, .int .i64 0, .int .i64 x.act, nums .u64 x.args]
structure SEl (w : World) (A : Nat → Prop) (ρ : qabm) where
 x : XSlot
 vs : List Value
 reps : Reps w A ρ (xec x) vs
 ones : Ones vs
theorem qaf2 {w : World} {A : Nat → Prop} {ρ : qabm} : ∀ (a b : List SV) (vs : List Value), Reps w A ρ (a ++ b) vs → ∃ us ws, vs = us ++ ws ∧ Reps w A ρ a us ∧ Reps w A ρ b ws
 | [], b, vs, h => ⟨[], vs, rfl, .nil, h⟩
 | x :: a, b, vs, h => by
  obtain ⟨v, vs', rfl, h1, h2⟩ := Reps.cons_inv (show Reps w A ρ (x :: (a ++ b)) vs from h)
  obtain ⟨us, ws, rfl, h3, h4⟩ := qaf2 a b vs' h2
  exact ⟨v :: us, ws, rfl, .cons h1 h3, h4⟩
theorem qaid {w : World} {A : Nat → Prop} {ρ : qabm} : ∀ (l : List XSlot) (vs : List Value), Reps w A ρ (l.map xec).flatten vs → Ones vs → ∃ ds : List (SEl w A ρ), ds.map (·.x) = l ∧ (ds.map (·.vs)).flatten = vs
 | [], vs, h, _ => ⟨[], rfl, by rw [Reps.nil_inv h]; rfl⟩
 | x :: l, vs, h, ho => by
  obtain ⟨us, ws, rfl, h1, h2⟩ := qaf2 (xec x) (l.map xec).flatten vs h
  obtain ⟨ds, h3, h4⟩ := qaid l ws h2 fun v hv => ho v (List.mem_append.2 (.inr hv))
  exact ⟨⟨x, us, h1, fun v hv => ho v (List.mem_append.2 (.inl hv))⟩ :: ds, by simp [h3], by simp [h4]⟩
theorem qaig {w : World} {A : Nat → Prop} {ρ : qabm} : ∀ (a b : List SV) (us ws : List Value), Reps w A ρ a us → Reps w A ρ b ws → Reps w A ρ (a ++ b) (us ++ ws)
 | [], b, us, ws, h, g => by rw [Reps.nil_inv h]; exact g
 | x :: a, b, us, ws, h, g => by
  obtain ⟨v, us', rfl, h1, h2⟩ := h.cons_inv
  exact .cons h1 (qaig a b us' ws h2 g)
theorem qalp {w w' : World} {A : Nat → Prop} {ρ : qabm} (hs : Step A w w') : ∀ ds : List (SEl w A ρ), Reps w' A ρ ((ds.map (·.x)).map xec).flatten (ds.map (·.vs)).flatten ∧ Ones (ds.map (·.vs)).flatten
 | [] => ⟨.nil, fun v hv => by simp at hv⟩
 | d :: ds => by
  obtain ⟨h1, h2⟩ := qalp hs ds
  refine ⟨qaig _ _ _ _ (d.reps.mono hs (fun _ h _ => h) fun _ _ h => h) h1, fun v hv => ?_⟩
  rw [List.map_cons, List.flatten_cons, List.mem_append] at hv
  exact hv.elim (d.ones v) (h2 v)
theorem SEl.len {w : World} {A : Nat → Prop} {ρ : qabm} (s : SEl w A ρ) : s.vs.length = 6 := s.reps.1.symm
theorem rdu_of {w : World} {A : Nat → Prop} {ρ : qabm} {xs : List Int} {v : Value} (h : RepV w A ρ (nums .u64 xs) v) : ∃ a n c, v = .slice a n c ∧ RdU w a n xs := by
 generalize hx : nums .u64 xs = y at h
 cases h with
 | view0 hc ha =>
  have : xs = [] := by
   unfold nums at hx
   simp at hx
   exact hx.2
  subst this
  exact ⟨_, _, _, rfl, ⟨rfl, by omega, fun h => absurd h (by omega)⟩⟩
 | view cv hn hc hm hA hb hs h1 h2 ho =>
  unfold nums at hx
  injection hx with e1 e2
  subst e1 e2
  refine ⟨_, _, _, rfl, ⟨by simpa using hn, by unfold maxLen at hm; omega, fun _ => ⟨_, _, rfl, hb, fun j hj => ?_⟩⟩⟩
  have he : (xs.map fun x => [SV.int .u64 x])[j]? = some [.int .u64 xs[j]] := by simp [hj]
  have g1 := h1 j _ 0 _ he rfl
  have g2 := h2 j _ 0 _ he rfl
  cases hv : cv j 0 <;> rw [hv] at g2 <;> cases g2
  rw [hv] at g1
  simpa using g1
 | _ => cases hx
theorem qaqr {β : Type} (f : β → List Int) : SWO (ltOf fun x y : β => cmpL (f x) (f y)) where
 irrefl x := by unfold ltOf; simp [(qaeh (f x) (f x)).2 rfl]
 trans x y z h1 h2 := by
  unfold ltOf at *
  simp only [decide_eq_true_eq] at *
  exact qan8 h1 (by omega)
 ntrans x y z h1 h2 := by
  unfold ltOf at *
  simp only [decide_eq_false_iff_not] at *
  have e1 := qacd (f x) (f y)
  have e2 := qacd (f y) (f z)
  have e3 := qacd (f x) (f z)
  have := qadq (f z) (f y) (f x) (by omega) (by omega)
  omega
theorem qarr {w : World} {A : Nat → Prop} {ρ : qabm} {g : Nat} (hA : A g) (size : Nat) [Inhabited (SEl w A ρ)] : CmpLays Try.prog 73 #[] (fun s : SEl w A ρ => s.vs) 6 (fun x y => cmpL x.x.keys y.x.keys) g 0 size w := by
 intro m os dk _ x y
 have hst : Step A w (sortWorldK (fun s : SEl w A ρ => s.vs) 6 w g 0 m dk os) := qaej _ hA
 have hx := x.reps.mono hst (fun _ h _ => h) (fun _ _ h => h)
 have hy := y.reps.mono hst (fun _ h _ => h) (fun _ _ h => h)
 generalize sortWorldK (fun s : SEl w A ρ => s.vs) 6 w g 0 m dk os = W at hx hy ⊢
 obtain ⟨⟨kx, ax, rx⟩, vx, px, qx⟩ := x
 obtain ⟨⟨ky, ay, ry⟩, vy, py, qy⟩ := y
 dsimp only at hx hy ⊢
 unfold xec at hx hy
 obtain ⟨v0, _, rfl, hv0, hx⟩ := hx.cons_inv
 obtain ⟨v1, _, rfl, -, hx⟩ := hx.cons_inv
 obtain ⟨v2, _, rfl, -, hx⟩ := hx.cons_inv
 obtain ⟨v3, _, rfl, -, hx⟩ := hx.cons_inv
 obtain ⟨v4, _, rfl, -, hx⟩ := hx.cons_inv
 obtain ⟨v5, _, rfl, -, hx⟩ := hx.cons_inv
 obtain rfl := hx.nil_inv
 obtain ⟨u0, _, rfl, hu0, hy⟩ := hy.cons_inv
 obtain ⟨u1, _, rfl, -, hy⟩ := hy.cons_inv
 obtain ⟨u2, _, rfl, -, hy⟩ := hy.cons_inv
 obtain ⟨u3, _, rfl, -, hy⟩ := hy.cons_inv
 obtain ⟨u4, _, rfl, -, hy⟩ := hy.cons_inv
 obtain ⟨u5, _, rfl, -, hy⟩ := hy.cons_inv
 obtain rfl := hy.nil_inv
 obtain ⟨a1, n1, c1, rfl, r1⟩ := rdu_of hv0
 obtain ⟨a2, n2, c2, rfl, r2⟩ := rdu_of hu0
 exact qary W a1 a2 n1 n2 c1 c2 kx ky _ _ _ _ _ _ _ _ _ _ r1 r2
end Go.Proofs.Yticeaegpkpjjeaa
namespace Go.Proofs.Yticeaegpkpjjeaa
set_option linter.all false
open Go.RowKit Go.Sort
theorem qae1 : Enters Try.prog 72 := enters_of Try.func72 (by kernel_rfl) rfl
theorem qakf : ∀ args w, (callFunc 73 args).run Try.prog w = .ok (.enter 73 args) w := enters_of Try.func73 (by kernel_rfl) rfl
theorem xec_len (x : XSlot) : (xec x).length = 6 := rfl
set_option maxHeartbeats 1000000 in
theorem qaqs (l L : List XSlot) (hne : 0 < l.length) (hl : l.length ≤ 1000000) (hL : ∀ l' : List XSlot, l'.Perm l → l'.Pairwise (fun a b => ¬ cmpL b.keys a.keys < 0) → l' = L) (nm q : Nat) : SCalls Try.prog 72 [.own nm l.length, .fn (.func 73) [] []] [(nm, .row 65 6 (l.map xec))] q (.tup []) [(nm, .row 65 6 (L.map xec))] := by
 refine ⟨qae1, fun O ρ fp w vs hok hargs hfr => ?_⟩
 obtain ⟨v0, us, rfl, h0, hus⟩ := hargs.cons_inv
 obtain ⟨v1, us2, rfl, h1, hus⟩ := hus.cons_inv
 obtain rfl := hus.nil_inv
 have hg0 : geth [(nm, SObj.row 65 6 (l.map xec))] nm = some (.row 65 6 (l.map xec)) := by simp [geth]
 obtain ⟨v, cs, how, ⟨hreps, hones⟩, hsz, hρ, hfp⟩ := hok.objs nm _ hg0
 rw [List.length_map] at how
 obtain ⟨hcl, hv⟩ := how
 rcases hv with ⟨rfl, h⟩ | ⟨g, cap, cur, rfl, -, hb, hcap, hmax, hcur, htake⟩
 ·omega
 have hfg : ∀ k, fp nm k ↔ k = g := fun k => by rw [hfp k]; simp [Value.ownBlock, eq_comm]
 have hAg : (fun k => O k ∨ Live [(nm, SObj.row 65 6 (l.map xec))] fp k) g := .inr ⟨nm, _, hg0, (hfg g).2 rfl⟩
 have hv0 : v0 = .slice (some ⟨g, 0, none⟩) l.length cap := by
  generalize hy : SV.own nm l.length = y at h0
  cases h0 with
  | own0 h => injection hy with e1 e2; omega
  | own h hn hm =>
   injection hy with e1 e2
   subst e1 e2
   rw [hρ] at h
   simp only [qack, Option.some.injEq, Prod.mk.injEq] at h
   obtain ⟨rfl, rfl⟩ := h
   rfl
  | _ => cases hy
 subst hv0
 have hv1 : v1 = .func (.func 73) #[] #[] := by
  generalize hy : SV.fn (.func 73) [] [] = y at h1
  cases h1 with
  | fn e1 e2 e3 e4 =>
   injection hy with i1 i2 i3
   subst i1 i2 i3
   rename_i vs' us'
   cases vs' with
   | nil => cases us' with
    | nil => rfl
    | cons _ _ => simp at e2
   | cons _ _ => simp at e1
  | _ => cases hy
 subst hv1
 generalize hAA : (fun k => O k ∨ Live [(nm, SObj.row 65 6 (l.map xec))] fp k) = A at hreps hargs
 have hAg : A g := by rw [← hAA]; exact hAg
 obtain ⟨ds, hds1, hds2⟩ := qaid l cs hreps hones
 have hdl : ds.length = l.length := by rw [← hds1, List.length_map]
 haveI : Inhabited (SEl w A ρ) := ⟨ds[0]'(by omega)⟩
 have hk : ∀ s : SEl w A ρ, s.vs.length = 6 := fun s => s.len
 have hF := qaf6 (fun s : SEl w A ρ => s.vs) 6 hk ds
 rw [hds2] at hF
 have hH : HoldsK (fun s : SEl w A ρ => s.vs) 6 w g 0 ds.toArray := by
  unfold HoldsK
  rw [hF]
  exact qahu hb (by rw [hcl]; exact htake)
 have hcon := AnyQ.slices_SortFunc sortE 6 Try.isAgg65 Try.sizeOf65 (fun s : SEl w A ρ => s.vs) hk (fun s v hv => s.ones v hv) (fun x y => cmpL x.x.keys y.x.keys) (qaqr fun s : SEl w A ρ => s.x.keys) 73 #[] g 0 cap ds.toArray w qakf (qarr hAg _) hH (Array.getElem?_eq_some_iff.1 hb).1 (by simp; omega)
 change Calls Try.prog 72 _ _ _ at hcon
 rw [show ds.toArray.size = l.length by simp [hdl]] at hcon
 refine hcon.mono ?_
 rintro e w' ⟨rfl, d', n, os, ⟨hp1, -, hp2⟩, hs, rfl⟩
 have hd'l : d'.toList.length = l.length := by simp [hp1, hdl]
 have hperm : d'.toList.Perm ds := by
  have e1 : d'.extract 0 l.length = d' := by rw [Array.extract_eq_self_of_le (by simp at hd'l; omega)]
  have e2 : ds.toArray.extract 0 l.length = ds.toArray := by rw [Array.extract_eq_self_of_le (by simp [hdl])]
  rw [e1, e2] at hp2
  exact hp2
 have hL' : d'.toList.map (·.x) = L := by
  refine hL _ (by rw [← hds1]; exact hperm.map _) ?_
  rw [List.pairwise_iff_getElem]
  intro i j hi hj hij
  have := hs i j (Nat.zero_le _) hij (by simpa [hd'l] using hj)
  rw [List.length_map] at hi hj
  rw [getElem!_pos d' j (by simpa using hj), getElem!_pos d' i (by simpa using hi)] at this
  unfold ltOf at this
  simpa using this
 have hLl : L.length = l.length := by rw [← hL', List.length_map, hd'l]
 have hF' := qaf6 (fun s : SEl w A ρ => s.vs) 6 hk d'.toList
 rw [Array.toArray_toList] at hF'
 have hlen' : (d'.toList.map fun s : SEl w A ρ => s.vs).flatten.length = l.length * 6 := by
  rw [qaff (k := 6) _ (fun x hx => by obtain ⟨y, -, rfl⟩ := List.mem_map.1 hx; exact hk y), List.length_map, hd'l]
 unfold sortWorldK putRowK
 rw [hF']
 generalize hV : (d'.toList.map fun s : SEl w A ρ => s.vs).flatten = V at hlen'
 have hst : ∀ B : Nat → Prop, B g → Step B w (Go.Sort.grow (putRow id (Go.Sort.ahead w n) g 0 V.toArray) os) := fun B hB => qaej _ hB
 have hj := qalp (hst A hAg) d'.toList
 rw [hL', hV] at hj
 have hhp := qahv (n := n) (os := os) V.toArray hb
 have hg1 : geth [(nm, SObj.row 65 6 (L.map xec))] nm = some (.row 65 6 (L.map xec)) := by simp [geth]
 have hlive : ∀ k, Live [(nm, SObj.row 65 6 (L.map xec))] fp k ↔ Live [(nm, SObj.row 65 6 (l.map xec))] fp k := fun k => by
  constructor
  ·rintro ⟨i, o, h, hk⟩
   simp only [geth] at h
   split at h
   ·rename_i e; subst e; exact ⟨nm, _, hg0, hk⟩
   ·cases h
  ·rintro ⟨i, o, h, hk⟩
   simp only [geth] at h
   split at h
   ·rename_i e; subst e; exact ⟨_, _, hg1, hk⟩
   ·cases h
 have hA2 : (fun k => O k ∨ Live [(nm, SObj.row 65 6 (L.map xec))] fp k) = A := by
  rw [← hAA]; funext k; rw [hlive k]
 refine ⟨.tuple #[], ρ, fp, rfl, ⟨fun i o ho => ?_, fun i i' o o' hne' h h' => ?_, fun k hk' => ?_, fun k hk' => ?_⟩, .tup rfl (by simp), hst _ ⟨nm, _, hg0, (hfg g).2 rfl⟩, fun _ _ h => h, fun _ h => .inl h, fun i o ho k hk' => .inl ((hlive k).1 ⟨i, o, ho, hk'⟩)⟩
 ·simp only [geth] at ho
  split at ho
  ·rename_i e; subst e
   cases ho
   rw [hA2]
   exact ⟨.slice (some ⟨g, 0, none⟩) l.length cap, V, ⟨by rw [List.length_map, hLl]; exact hlen', .inr ⟨g, cap, _, by rw [List.length_map, hLl], Nat.zero_le _, hhp, by rw [List.length_map, hLl]; exact hcap, hmax, by simp [putCells, hcur], by rw [List.length_map, hLl, ← hlen']; exact qafg cur V (by rw [hcur, hlen']; omega)⟩⟩, hj, fun x hx => by obtain ⟨y, -, rfl⟩ := List.mem_map.1 hx; exact xec_len y, hρ, hfp⟩
  ·cases ho
 ·simp only [geth] at h h'
  split at h
  ·split at h'
   ·omega
   ·cases h'
  ·cases h
 ·have := hok.lt k ((hlive k).1 hk')
  exact ⟨Nat.lt_of_lt_of_le this.1 (hst _ hAg).size, this.2⟩
 ·exact Nat.lt_of_lt_of_le (hok.O_lt k hk') (hst _ hAg).size
end Go.Proofs.Yticeaegpkpjjeaa
namespace Go.Proofs.Yticeaegpkpjjeaa
set_option linter.all false
open Go.RowKit Go.Sort
theorem qai9 (nm q : Nat) : SCalls Try.prog 72 [.own nm 0, .fn (.func 73) [] []] [(nm, .row 65 6 [])] q (.tup []) [(nm, .row 65 6 [])] := by
 refine ⟨qae1, fun O ρ fp w vs hok hargs hfr => ?_⟩
 obtain ⟨v0, us, rfl, h0, hus⟩ := hargs.cons_inv
 obtain ⟨v1, us2, rfl, h1, hus⟩ := hus.cons_inv
 obtain rfl := hus.nil_inv
 have hv0 : ∃ p cap, v0 = .slice p 0 cap := by
  generalize hy : SV.own nm 0 = y at h0
  cases h0 with
  | own0 h => exact ⟨_, _, rfl⟩
  | own h hn hm =>
   injection hy with e1 e2
   subst e1 e2
   exact ⟨_, _, rfl⟩
  | _ => cases hy
 obtain ⟨p, cap, rfl⟩ := hv0
 have hcon := AnyF.slices_SortFunc_none sortE p cap v1 w
 change Calls Try.prog 72 _ _ _ at hcon
 refine hcon.mono ?_
 rintro e w' ⟨rfl, rfl⟩
 exact ⟨.tuple #[], ρ, fp, rfl, hok, .tup rfl (by simp), .refl _ _, fun _ _ h => h, fun _ h => .inl h, fun i o ho k hk => .inl ⟨i, o, ho, hk⟩⟩
theorem qaqt (l L : List XSlot) (hl : l.length ≤ 1000000) (hL : ∀ l' : List XSlot, l'.Perm l → l'.Pairwise (fun a b => ¬ cmpL b.keys a.keys < 0) → l' = L) (nm q : Nat) : SCalls Try.prog 72 [.own nm l.length, .fn (.func 73) [] []] [(nm, .row 65 6 (l.map xec))] q (.tup []) [(nm, .row 65 6 (L.map xec))] := by
 rcases l with _ | ⟨x, l⟩
 ·have : [] = L := hL [] (.refl _) .nil
  subst this
  exact qai9 nm q
 ·exact qaqs _ L (by simp) hl hL nm q
end Go.Proofs.Yticeaegpkpjjeaa
namespace Go.Proofs.Yticeaegpkpjjeaa
set_option linter.all false
abbrev Oa (d : Nat) (op : SOp) : SOper := ⟨some d, op, none, none, 0⟩
abbrev Ob (op : SOp) : SOper := ⟨none, op, none, none, 0⟩
abbrev Oc (d : Nat) (f : FuncId) (args : List SX) : SOper := ⟨some d, .mv (.c .any), some (.c (.fn (.func f) [] []), args), none, 0⟩
abbrev Od (d : Nat) (op : SOp) (b : Nat) : SOper := ⟨some d, op, none, none, b⟩
abbrev Oe (d : Nat) (op : SOp) (t : Nat) (w : Bool) : SOper := ⟨some d, op, none, some (t, w), 0⟩
abbrev Of (d : Nat) (op : SOp) (t : Nat) (w : Bool) (b : Nat) : SOper := ⟨some d, op, none, some (t, w), b⟩
end Go.Proofs.Yticeaegpkpjjeaa
namespace Go.Proofs.Yticeaegpkpjjeaa
set_option linter.all false
open Go.RowKit
abbrev qaot : List SOper := [Oa 4 (.mv (.c .nil))]
abbrev qaos : List SOper := [Oa 5 (.mv (.c (.int .i64 4)))]
abbrev qaor : List SOper := [Oa 6 (.mv (.t 5)), Oa 7 (.mv (.t 1)), Oa 8 (.bin .mul (.c (.int .i64 2)) (.t 7)), Oa 9 (.bin .lss (.t 6) (.t 8)), Oa 10 (.mv (.t 9)), Oe 11 (.mv (.t 5)) 10 true, Oe 12 (.bin .lss (.t 11) (.c (.int .i64 1048576))) 10 true, Oa 13 (.pick (.t 10) (.t 12) (.c (.bool false)))]
abbrev qaoq : List SOper := [Oa 14 (.mv (.t 5)), Oa 15 (.bin .mul (.t 14) (.c (.int .i64 2))), Oa 5 (.mv (.t 15))]
def qai1 : SCode := (.seq (.seq (.reg false qaor [0, 1, 5, 13]) (.cond (.t 13) .skip (.exit 0))) (.block 1 (.reg false qaoq [0, 1, 5])))
abbrev qaop : List SOper := [Oa 16 (.mv (.t 0)), Oa 17 (.mv (.t 1)), Oa 18 (.mv (.t 5)), Oa 19 (.mkslice 167 4 64 [(.bool false), .nilsl, (.int .i64 0), .nilsl] (.t 18) (.t 18)), Oa 20 (.build [(.int .i64 0), (.int .i64 0), (.int .i64 0), .nilsl] [(0, 1, (.t 16)), (1, 1, (.t 17)), (3, 1, (.t 19))]), Oa 21 (.box 163 (.t 20)), Oa 4 (.mv (.t 21))]
def c_xnew : SCode := (.seq (.reg false qaot [0, 1]) (.seq (.reg false qaos [0, 1, 5]) (.seq (.block 0 (.loop qai1)) (.seq (.reg false qaop [4]) .ret))))
theorem qajp : comp Try.prog 22 ((Try.f26.body).getD .skip) = some c_xnew.erase := by kernel_rfl
abbrev qaoo : List SOper := [Oa 1 (.box 58 (.t 0)), Oa 2 (.alloc 58 [(.int .i64 0), .nilsl])]
abbrev qaon : List SOper := [Oa 3 (.faddr 0 (.t 1)), Od 4 (.load (.t 3)) 1, Oa 5 (.faddr 1 (.t 1)), Od 6 (.load (.t 5)) 4, ⟨(some 7), .mv (.c .any), some ((.c (.fn (.func 70) [] [])), [(.t 6)]), none, 12⟩, Od 8 (.build [(.int .i64 0), .nilsl] [(0, 1, (.t 4)), (1, 1, (.t 7))]) 31, ⟨none, .store 2 (.t 2) (.t 8), none, none, 63⟩]
def c_xown : SCode := (.seq (.reg false qaoo [1, 2]) (.seq (.reg true qaon [2]) .ret))
theorem qajo : comp Try.prog 9 ((Try.f71.body).getD .skip) = some c_xown.erase := by kernel_rfl
abbrev qamx : List SOper := [Oa 4 (.mv (.c (.int .i64 0)))]
abbrev qamw : List SOper := [Oa 5 (.mv (.c (.int .u64 14695981039346656037)))]
abbrev qamv : List SOper := [Oa 8 (.mv (.t 1)), Oa 9 (.len false (.t 8)), Oa 10 (.mv (.c (.int .i64 0)))]
abbrev qamu : List SOper := [Oa 11 (.bin .lss (.t 10) (.t 9))]
abbrev qamt : List SOper := [Oa 12 (.iaddr 1 (.t 8) (.t 10)), Oa 13 (.load (.t 12)), Oa 7 (.mv (.t 13))]
abbrev qams : List SOper := [Oa 14 (.mv (.c (.int .i64 0)))]
abbrev qamr : List SOper := [Oa 15 (.bin .lss (.t 14) (.c (.int .i64 8)))]
abbrev qamq : List SOper := [Oa 16 (.mv (.t 5)), Oa 17 (.mv (.t 7)), Oa 18 (.bin .and (.t 17) (.c (.int .u64 255))), Oa 19 (.bin .xor (.t 16) (.t 18)), Oa 20 (.bin .mul (.t 19) (.c (.int .u64 1099511628211))), Oa 5 (.mv (.t 20))]
abbrev qamp : List SOper := [Oa 21 (.mv (.t 7)), Oa 22 (.bin .shr (.t 21) (.c (.int .u64 8))), Oa 7 (.mv (.t 22))]
abbrev qaj6 : List SOper := [Oa 23 (.bin .add (.t 14) (.c (.int .i64 1))), Oa 14 (.mv (.t 23))]
def qagg : SCode := (.seq (.reg false qamr [0, 5, 7, 8, 9, 10, 14, 15]) (.seq (.cond (.t 15) .skip (.exit 2)) (.seq (.block 3 (.seq (.reg false qamq [0, 5, 7, 8, 9, 10, 14]) (.reg false qamp [0, 5, 7, 8, 9, 10, 14]))) (.reg false qaj6 [0, 5, 7, 8, 9, 10, 14]))))
abbrev qaj5 : List SOper := [Oa 24 (.bin .add (.t 10) (.c (.int .i64 1))), Oa 10 (.mv (.t 24))]
def qagf : SCode := (.seq (.reg false qamu [0, 5, 8, 9, 10, 11]) (.seq (.cond (.t 11) .skip (.exit 0)) (.seq (.block 1 (.seq (.reg false qamt [0, 5, 7, 8, 9, 10]) (.seq (.reg false qams [0, 5, 7, 8, 9, 10, 14]) (.block 2 (.loop qagg))))) (.reg false qaj5 [0, 5, 8, 9, 10]))))
abbrev qaj4 : List SOper := [Oa 25 (.mv (.t 5)), Oa 26 (.bin .shr (.t 25) (.c (.int .u64 32))), Oa 27 (.mv (.t 0)), Oa 28 (.nilc (.t 27)), Oa 29 (.faddr 3 (.t 28)), Oa 30 (.load (.t 29)), Oa 31 (.len false (.t 30)), Oa 32 (.conv .u64 (.t 31)), Oa 33 (.bin .rem (.t 26) (.t 32)), Oa 34 (.conv .i64 (.t 33)), Oa 4 (.mv (.t 34))]
def c_xhome : SCode := (.seq (.reg false qamx [0, 1]) (.seq (.reg false qamw [0, 1, 5]) (.seq (.seq (.reg false qamv [0, 5, 8, 9, 10]) (.block 0 (.loop qagf))) (.seq (.reg false qaj4 [4]) .ret))))
theorem qah0 : comp Try.prog 35 ((Try.f69.body).getD .skip) = some c_xhome.erase := by kernel_rfl
abbrev qaj3 : List SOper := [Oa 4 (.mv (.c (.int .i64 0))), Oa 5 (.mv (.c (.bool false)))]
abbrev qaj2 : List SOper := [Oa 7 (.mv (.t 0)), Oa 8 (.mv (.t 1)), Oc 9 69 [(.t 7), (.t 8)], Oa 6 (.mv (.t 9))]
abbrev qaj1 : List SOper := [Oa 10 (.mv (.t 0)), Oa 11 (.nilc (.t 10)), Oa 12 (.faddr 3 (.t 11)), Oa 13 (.load (.t 12)), Oa 14 (.mv (.t 6)), Oa 15 (.iaddr 4 (.t 13) (.t 14)), Oa 16 (.faddr 0 (.t 15)), Oa 17 (.load (.t 16))]
abbrev qaj0 : List SOper := [Oa 18 (.mv (.t 0)), Oa 19 (.nilc (.t 18)), Oa 20 (.faddr 3 (.t 19)), Oa 21 (.load (.t 20)), Oa 22 (.mv (.t 6)), Oa 23 (.iaddr 4 (.t 21) (.t 22)), Oa 24 (.faddr 1 (.t 23)), Oa 25 (.load (.t 24)), Oa 26 (.mv (.t 1)), Oc 27 114 [(.t 25), (.t 26)]]
abbrev qajz : List SOper := [Oa 28 (.mv (.t 6)), Oa 4 (.mv (.t 28)), Oa 5 (.mv (.c (.bool true)))]
abbrev qajy : List SOper := [Oa 29 (.mv (.t 6)), Oa 30 (.bin .add (.t 29) (.c (.int .i64 1))), Oa 31 (.mv (.t 0)), Oa 32 (.nilc (.t 31)), Oa 33 (.faddr 3 (.t 32)), Oa 34 (.load (.t 33)), Oa 35 (.len false (.t 34)), Oa 36 (.bin .rem (.t 30) (.t 35)), Oa 6 (.mv (.t 36))]
def qafb : SCode := (.seq (.seq (.reg false qaj1 [0, 1, 6, 17]) (.cond (.t 17) .skip (.exit 0))) (.block 1 (.seq (.seq (.reg false qaj0 [0, 1, 6, 27]) (.cond (.t 27) (.seq (.reg false qajz [4, 5]) .ret) .skip)) (.reg false qajy [0, 1, 6]))))
abbrev qajx : List SOper := [Oa 37 (.mv (.t 6)), Oa 4 (.mv (.t 37)), Oa 5 (.mv (.c (.bool false)))]
def c_xplace : SCode := (.seq (.reg false qaj3 [0, 1]) (.seq (.reg false qaj2 [0, 1, 6]) (.seq (.block 0 (.loop qafb)) (.seq (.reg false qajx [4, 5]) .ret))))
theorem qagc : comp Try.prog 38 ((Try.f68.body).getD .skip) = some c_xplace.erase := by kernel_rfl
abbrev qapi : List SOper := [Oa 5 (.box 58 (.t 2)), Oa 6 (.mv (.c (.int .i64 0)))]
abbrev qaph : List SOper := [Oa 9 (.mv (.t 1)), Oa 10 (.len false (.t 9)), Oa 11 (.mv (.t 0)), Oa 12 (.nilc (.t 11)), Oa 13 (.faddr 0 (.t 12)), Oa 14 (.load (.t 13)), Oa 15 (.bin .neq (.t 10) (.t 14))]
abbrev qapg : List SOper := [Oa 6 (.mv (.c (.int .i64 2)))]
abbrev qapf : List SOper := [Oa 17 (.mv (.t 0)), Oa 18 (.mv (.t 1)), Oc 19 68 [(.t 17), (.t 18)], Oa 16 (.mv (.t 19)), Oa 20 (.extr (.t 16) 0), Oa 21 (.extr (.t 16) 1), Oa 7 (.mv (.t 20)), Oa 8 (.mv (.t 21))]
abbrev qape : List SOper := [Oa 23 (.mv (.t 8)), Oa 22 (.mv (.t 23))]
abbrev qapd : List SOper := [Oa 6 (.mv (.c (.int .i64 7)))]
abbrev qapc : List SOper := [Oa 25 (.mv (.t 0)), Od 26 (.nilc (.t 25)) 1, Od 27 (.faddr 2 (.t 26)) 3, Od 28 (.load (.t 27)) 7, Oa 29 (.mv (.t 0)), Od 30 (.nilc (.t 29)) 16, Od 31 (.faddr 1 (.t 30)) 48, Od 32 (.load (.t 31)) 112, Od 33 (.bin .geq (.t 28) (.t 32)) 255, Od 34 (.mv (.t 33)) 511, Of 35 (.mv (.t 0)) 34 false 1023, Of 36 (.nilc (.t 35)) 34 false 2047, Of 37 (.faddr 2 (.t 36)) 34 false 4095, Of 38 (.load (.t 37)) 34 false 8191, Of 39 (.mv (.t 0)) 34 false 1023, Of 40 (.nilc (.t 39)) 34 false 17407, Of 41 (.faddr 3 (.t 40)) 34 false 50175, Of 42 (.load (.t 41)) 34 false 115711, Of 43 (.len false (.t 42)) 34 false 246783, Of 44 (.bin .sub (.t 43) (.c (.int .i64 1))) 34 false 508927, Of 45 (.bin .geq (.t 38) (.t 44)) 34 false 1048575, Od 46 (.pick (.t 34) (.c (.bool true)) (.t 45)) 2097151, Od 24 (.mv (.t 46)) 4194303]
abbrev qapb : List SOper := [Oa 6 (.mv (.c (.int .i64 10)))]
abbrev qapa : List SOper := [Oa 47 (.mv (.t 0)), Od 48 (.nilc (.t 47)) 1, Od 49 (.faddr 3 (.t 48)) 3, Od 50 (.load (.t 49)) 7, Oa 51 (.mv (.t 7)), Oa 52 (.mv (.t 1)), ⟨(some 53), .mv (.c .any), some ((.c (.fn (.func 70) [] [])), [(.t 52)]), none, 32⟩, Oa 54 (.loads 2 (.t 5)), ⟨(some 55), .mv (.c .any), some ((.c (.fn (.func 71) [] [])), [(.t 54)]), none, 224⟩, Od 56 (.build [(.bool false), .nilsl, (.int .i64 0), .nilsl] [(0, 1, (.c (.bool true))), (1, 1, (.t 53)), (2, 2, (.t 55))]) 480, Od 57 (.iaddr 4 (.t 50) (.t 51)) 1023, ⟨none, .store 4 (.t 57) (.t 56), none, none, 2047⟩]
abbrev qanf : List SOper := [Oa 58 (.mv (.t 0)), Oa 59 (.nilc (.t 58)), Oa 60 (.faddr 2 (.t 59)), Oa 61 (.load (.t 60)), Oa 62 (.bin .add (.t 61) (.c (.int .i64 1))), Oa 63 (.nilc (.t 58)), Oa 64 (.faddr 2 (.t 63)), Ob (.store 1 (.t 64) (.t 62))]
abbrev qane : List SOper := [Oa 6 (.mv (.c (.int .i64 0)))]
def c_xadd : SCode := (.seq (.reg false qapi [0, 1, 5]) (.seq (.seq (.reg false qaph [0, 1, 5, 15]) (.cond (.t 15) (.seq (.reg false qapg [6]) .ret) .skip)) (.seq (.reg false qapf [0, 1, 5, 7, 8]) (.seq (.block 0 (.seq (.reg false qape [0, 1, 5, 7, 22]) (.cond (.t 22) (.seq (.reg false qapd [6]) .ret) (.seq (.reg true qapc [0, 1, 5, 7, 24]) (.cond (.t 24) (.seq (.reg false qapb [6]) .ret) .skip))))) (.seq (.reg true qapa [0]) (.seq (.reg false qanf []) (.seq (.reg false qane [6]) .ret)))))))
theorem qajt : comp Try.prog 65 ((Try.f28.body).getD .skip) = some c_xadd.erase := by kernel_rfl
abbrev qand : List SOper := [Oa 4 (.mv (.c (.int .i64 0)))]
abbrev qanc : List SOper := [Oa 9 (.mv (.t 1)), Oa 10 (.len false (.t 9)), Oa 11 (.mv (.t 0)), Oa 12 (.nilc (.t 11)), Oa 13 (.faddr 0 (.t 12)), Oa 14 (.load (.t 13)), Oa 15 (.bin .neq (.t 10) (.t 14))]
abbrev qanb : List SOper := [Oa 4 (.mv (.c (.int .i64 2)))]
abbrev qana : List SOper := [Oa 17 (.mv (.t 0)), Oa 18 (.mv (.t 1)), Oc 19 68 [(.t 17), (.t 18)], Oa 16 (.mv (.t 19)), Oa 20 (.extr (.t 16) 0), Oa 21 (.extr (.t 16) 1), Oa 5 (.mv (.t 20)), Oa 6 (.mv (.t 21))]
abbrev qam9 : List SOper := [Oa 22 (.mv (.t 6)), Oa 23 (.un .not (.t 22))]
abbrev qam8 : List SOper := [Oa 4 (.mv (.c (.int .i64 9)))]
abbrev qam7 : List SOper := [Oa 24 (.mv (.t 0)), Oa 25 (.nilc (.t 24)), Oa 26 (.faddr 2 (.t 25)), Oa 27 (.load (.t 26)), Oa 28 (.bin .sub (.t 27) (.c (.int .i64 1))), Oa 29 (.nilc (.t 24)), Oa 30 (.faddr 2 (.t 29)), Ob (.store 1 (.t 30) (.t 28))]
abbrev qam6 : List SOper := [Oa 31 (.mv (.t 0)), Oa 32 (.nilc (.t 31)), Oa 33 (.faddr 3 (.t 32)), Oa 34 (.load (.t 33)), Oa 35 (.mv (.t 5)), Oa 36 (.build [(.bool false), .nilsl, (.int .i64 0), .nilsl] []), Oa 37 (.iaddr 4 (.t 34) (.t 35)), Ob (.store 4 (.t 37) (.t 36))]
abbrev qam5 : List SOper := [Oa 38 (.mv (.t 5)), Oa 7 (.mv (.t 38))]
abbrev qakd : List SOper := [Oa 39 (.mv (.t 7)), Oa 40 (.bin .add (.t 39) (.c (.int .i64 1))), Oa 41 (.mv (.t 0)), Oa 42 (.nilc (.t 41)), Oa 43 (.faddr 3 (.t 42)), Oa 44 (.load (.t 43)), Oa 45 (.len false (.t 44)), Oa 46 (.bin .rem (.t 40) (.t 45)), Oa 7 (.mv (.t 46))]
abbrev qakc : List SOper := [Oa 47 (.mv (.t 0)), Oa 48 (.nilc (.t 47)), Oa 49 (.faddr 3 (.t 48)), Oa 50 (.load (.t 49)), Oa 51 (.mv (.t 7)), Oa 52 (.iaddr 4 (.t 50) (.t 51)), Oa 53 (.faddr 0 (.t 52)), Oa 54 (.load (.t 53)), Oa 55 (.un .not (.t 54))]
abbrev qakb : List SOper := [Oa 4 (.mv (.c (.int .i64 0)))]
abbrev qaka : List SOper := [Oa 56 (.mv (.t 0)), Oa 57 (.mv (.t 0)), Oa 58 (.nilc (.t 57)), Oa 59 (.faddr 3 (.t 58)), Oa 60 (.load (.t 59)), Oa 61 (.mv (.t 7)), Oa 62 (.iaddr 4 (.t 60) (.t 61)), Oa 63 (.faddr 1 (.t 62)), Oa 64 (.load (.t 63)), Oc 65 69 [(.t 56), (.t 64)], Oa 8 (.mv (.t 65))]
abbrev qaj9 : List SOper := [Oa 66 (.mv (.t 7)), Oa 67 (.mv (.t 8)), Od 68 (.bin .sub (.t 66) (.t 67)) 3, Oa 69 (.mv (.t 0)), Od 70 (.nilc (.t 69)) 8, Od 71 (.faddr 3 (.t 70)) 24, Od 72 (.load (.t 71)) 56, Od 73 (.len false (.t 72)) 120, Od 74 (.bin .add (.t 68) (.t 73)) 255, Oa 75 (.mv (.t 0)), Od 76 (.nilc (.t 75)) 512, Od 77 (.faddr 3 (.t 76)) 1536, Od 78 (.load (.t 77)) 3584, Od 79 (.len false (.t 78)) 7680, Od 80 (.bin .rem (.t 74) (.t 79)) 16383, Oa 81 (.mv (.t 7)), Oa 82 (.mv (.t 5)), Od 83 (.bin .sub (.t 81) (.t 82)) 98304, Oa 84 (.mv (.t 0)), Od 85 (.nilc (.t 84)) 262144, Od 86 (.faddr 3 (.t 85)) 786432, Od 87 (.load (.t 86)) 1835008, Od 88 (.len false (.t 87)) 3932160, Od 89 (.bin .add (.t 83) (.t 88)) 8355840, Oa 90 (.mv (.t 0)), Od 91 (.nilc (.t 90)) 16777216, Od 92 (.faddr 3 (.t 91)) 50331648, Od 93 (.load (.t 92)) 117440512, Od 94 (.len false (.t 93)) 251658240, Od 95 (.bin .rem (.t 89) (.t 94)) 536838144, Od 96 (.bin .geq (.t 80) (.t 95)) 1073741823]
def qagi : SCode := (.block 3 (.seq (.reg false qakd [0, 5, 7]) (.seq (.seq (.reg false qakc [0, 5, 7, 55]) (.cond (.t 55) (.seq (.reg false qakb [4]) .ret) .skip)) (.seq (.reg false qaka [0, 5, 7, 8]) (.seq (.reg true qaj9 [0, 5, 7, 96]) (.cond (.t 96) (.exit 2) .skip))))))
abbrev qaj8 : List SOper := [Oa 97 (.mv (.t 0)), Od 98 (.nilc (.t 97)) 1, Od 99 (.faddr 3 (.t 98)) 3, Od 100 (.load (.t 99)) 7, Oa 101 (.mv (.t 5)), Oa 102 (.mv (.t 0)), Od 103 (.nilc (.t 102)) 32, Od 104 (.faddr 3 (.t 103)) 96, Od 105 (.load (.t 104)) 224, Oa 106 (.mv (.t 7)), Od 107 (.iaddr 4 (.t 105) (.t 106)) 992, Od 108 (.loads 4 (.t 107)) 2016, Od 109 (.iaddr 4 (.t 100) (.t 101)) 4095, ⟨none, .store 4 (.t 109) (.t 108), none, none, 8191⟩]
abbrev qaj7 : List SOper := [Oa 110 (.mv (.t 7)), Oa 5 (.mv (.t 110))]
def qagh : SCode := (.block 1 (.seq (.reg false qam6 [0, 5]) (.seq (.reg false qam5 [0, 5, 7]) (.seq (.block 2 (.loop qagi)) (.seq (.reg true qaj8 [0, 7]) (.reg false qaj7 [0, 5]))))))
def c_xdrop : SCode := (.seq (.reg false qand [0, 1]) (.seq (.seq (.reg false qanc [0, 1, 15]) (.cond (.t 15) (.seq (.reg false qanb [4]) .ret) .skip)) (.seq (.reg false qana [0, 5, 6]) (.seq (.seq (.reg false qam9 [0, 5, 23]) (.cond (.t 23) (.seq (.reg false qam8 [4]) .ret) .skip)) (.seq (.reg false qam7 [0, 5]) (.block 0 (.loop qagh)))))))
theorem qah2 : comp Try.prog 111 ((Try.f27.body).getD .skip) = some c_xdrop.erase := by kernel_rfl
abbrev qam4 : List SOper := [Oa 4 (.alloc 58 [(.int .i64 0), .nilsl]), Oa 5 (.mv (.c (.bool false)))]
abbrev qam3 : List SOper := [Oa 8 (.mv (.t 1)), Oa 9 (.len false (.t 8)), Oa 10 (.mv (.t 0)), Oa 11 (.nilc (.t 10)), Oa 12 (.faddr 0 (.t 11)), Oa 13 (.load (.t 12)), Oa 14 (.bin .neq (.t 9) (.t 13))]
abbrev qam2 : List SOper := [Oa 15 (.build [(.int .i64 0), .nilsl] []), Ob (.store 2 (.t 4) (.t 15)), Oa 5 (.mv (.c (.bool false)))]
abbrev qam1 : List SOper := [Oa 17 (.mv (.t 0)), Oa 18 (.mv (.t 1)), Oc 19 68 [(.t 17), (.t 18)], Oa 16 (.mv (.t 19)), Oa 20 (.extr (.t 16) 0), Oa 21 (.extr (.t 16) 1), Oa 6 (.mv (.t 20)), Oa 7 (.mv (.t 21))]
abbrev qam0 : List SOper := [Oa 22 (.mv (.t 7)), Oa 23 (.un .not (.t 22))]
abbrev qamz : List SOper := [Oa 24 (.build [(.int .i64 0), .nilsl] []), Ob (.store 2 (.t 4) (.t 24)), Oa 5 (.mv (.c (.bool false)))]
abbrev qamy : List SOper := [Oa 25 (.mv (.t 0)), Oa 26 (.nilc (.t 25)), Oa 27 (.faddr 3 (.t 26)), Oa 28 (.load (.t 27)), Oa 29 (.mv (.t 6)), Oa 30 (.iaddr 4 (.t 28) (.t 29)), Oa 31 (.faddr 2 (.t 30)), Oa 32 (.loads 2 (.t 31)), Oc 33 71 [(.t 32)], Ob (.store 2 (.t 4) (.t 33)), Oa 5 (.mv (.c (.bool true)))]
def c_xfind : SCode := (.seq (.reg false qam4 [0, 1, 4]) (.seq (.seq (.reg false qam3 [0, 1, 4, 14]) (.cond (.t 14) (.seq (.reg false qam2 [4, 5]) .ret) .skip)) (.seq (.reg false qam1 [0, 4, 6, 7]) (.seq (.seq (.reg false qam0 [0, 4, 6, 23]) (.cond (.t 23) (.seq (.reg false qamz [4, 5]) .ret) .skip)) (.seq (.reg false qamy [4, 5]) .ret)))))
theorem qah1 : comp Try.prog 34 ((Try.f31.body).getD .skip) = some c_xfind.erase := by kernel_rfl
abbrev qaov : List SOper := [Oa 2 (.mv (.c (.int .i64 0)))]
abbrev qaou : List SOper := [Oa 3 (.mv (.t 0)), Oa 4 (.nilc (.t 3)), Oa 5 (.faddr 2 (.t 4)), Oa 6 (.load (.t 5)), Oa 2 (.mv (.t 6))]
def c_xlen : SCode := (.seq (.reg false qaov [0]) (.seq (.reg false qaou [2]) .ret))
theorem qajq : comp Try.prog 7 ((Try.f34.body).getD .skip) = some c_xlen.erase := by kernel_rfl
abbrev qao9 : List SOper := [Oa 2 (.mv (.c .nilsl))]
abbrev qao8 : List SOper := [Oa 3 (.mv (.c .nilsl))]
abbrev qao7 : List SOper := [Oa 6 (.mv (.t 0)), Oa 7 (.nilc (.t 6)), Oa 8 (.faddr 3 (.t 7)), Oa 9 (.load (.t 8)), Oa 10 (.len false (.t 9)), Oa 11 (.mv (.c (.int .i64 0)))]
abbrev qao6 : List SOper := [Oa 12 (.bin .lss (.t 11) (.t 10))]
abbrev qao5 : List SOper := [Oa 13 (.iaddr 4 (.t 9) (.t 11)), Oa 14 (.loads 4 (.t 13)), Oa 5 (.alloc 167 [(.bool false), .nilsl, (.int .i64 0), .nilsl]), Ob (.store 4 (.t 5) (.t 14))]
abbrev qao4 : List SOper := [Oa 15 (.faddr 0 (.t 5)), Oa 16 (.load (.t 15))]
abbrev qao3 : List SOper := [Oa 17 (.mv (.t 3)), Oa 18 (.faddr 1 (.t 5)), Od 19 (.load (.t 18)) 2, ⟨(some 20), .mv (.c .any), some ((.c (.fn (.func 70) [] [])), [(.t 19)]), none, 6⟩, Oa 21 (.faddr 2 (.t 5)), Od 22 (.faddr 0 (.t 21)) 16, Od 23 (.load (.t 22)) 48, Oa 24 (.faddr 2 (.t 5)), Od 25 (.faddr 1 (.t 24)) 128, Od 26 (.load (.t 25)) 384, ⟨(some 27), .mv (.c .any), some ((.c (.fn (.func 70) [] [])), [(.t 26)]), none, 910⟩, Od 28 (.build [.nilsl, .nilsl, (.int .i64 0), (.int .i64 0), (.int .i64 0), .nilsl] [(0, 1, (.t 20)), (4, 1, (.t 23)), (5, 1, (.t 27))]) 2046, Od 29 (.mkrow 65 6 1 [.nilsl, .nilsl, (.int .i64 0), (.int .i64 0), (.int .i64 0), .nilsl] [(0, (.t 28))]) 4094, Od 30 (.app 65 6 96 (.t 17) (.t 29)) 8191, Od 3 (.mv (.t 30)) 16383]
abbrev qao2 : List SOper := [Oa 31 (.bin .add (.t 11) (.c (.int .i64 1))), Oa 11 (.mv (.t 31))]
def qai3 : SCode := (.seq (.reg false qao6 [3, 9, 10, 11, 12]) (.seq (.cond (.t 12) .skip (.exit 0)) (.seq (.block 1 (.seq (.reg false qao5 [3, 5, 9, 10, 11]) (.seq (.reg false qao4 [3, 5, 9, 10, 11, 16]) (.cond (.t 16) (.reg true qao3 [3, 9, 10, 11]) .skip)))) (.reg false qao2 [3, 9, 10, 11]))))
abbrev qao1 : List SOper := [Oa 32 (.mv (.t 3)), Oc 33 72 [(.t 32), (.c (.fn (.func 73) [] []))]]
abbrev qagj : List SOper := [Oa 34 (.mv (.t 3)), Oa 2 (.mv (.t 34))]
def c_xall : SCode := (.seq (.reg false qao9 [0]) (.seq (.reg false qao8 [0, 3]) (.seq (.seq (.reg false qao7 [3, 9, 10, 11]) (.block 0 (.loop qai3))) (.seq (.reg false qao1 [3]) (.seq (.reg false qagj [2]) .ret)))))
theorem qajs : comp Try.prog 35 ((Try.f30.body).getD .skip) = some c_xall.erase := by kernel_rfl
abbrev qapr : List SOper := [Oa 4 (.mv (.c (.bool false)))]
abbrev qapq : List SOper := [Oa 6 (.mv (.t 0)), Oa 7 (.len false (.t 6)), Oa 8 (.mv (.t 1)), Oa 9 (.len false (.t 8)), Oa 10 (.bin .neq (.t 7) (.t 9))]
abbrev qapp : List SOper := [Oa 4 (.mv (.c (.bool false)))]
abbrev qapo : List SOper := [Oa 11 (.mv (.t 0)), Oa 12 (.len false (.t 11)), Oa 13 (.mv (.c (.int .i64 0)))]
abbrev qapn : List SOper := [Oa 14 (.bin .lss (.t 13) (.t 12))]
abbrev qapm : List SOper := [Oa 15 (.mv (.t 13)), Oa 5 (.mv (.t 15))]
abbrev qapl : List SOper := [Oa 16 (.mv (.t 0)), Oa 17 (.mv (.t 5)), Od 18 (.iaddr 1 (.t 16) (.t 17)) 3, Od 19 (.load (.t 18)) 7, Oa 20 (.mv (.t 1)), Oa 21 (.mv (.t 5)), Od 22 (.iaddr 1 (.t 20) (.t 21)) 48, Od 23 (.load (.t 22)) 112, Od 24 (.bin .neq (.t 19) (.t 23)) 255]
abbrev qapk : List SOper := [Oa 4 (.mv (.c (.bool false)))]
abbrev qapj : List SOper := [Oa 25 (.bin .add (.t 13) (.c (.int .i64 1))), Oa 13 (.mv (.t 25))]
def qai4 : SCode := (.seq (.reg false qapn [0, 1, 12, 13, 14]) (.seq (.cond (.t 14) .skip (.exit 0)) (.seq (.block 1 (.seq (.reg false qapm [0, 1, 5, 12, 13]) (.seq (.reg true qapl [0, 1, 12, 13, 24]) (.cond (.t 24) (.seq (.reg false qapk [4]) .ret) .skip)))) (.reg false qapj [0, 1, 12, 13]))))
abbrev qang : List SOper := [Oa 4 (.mv (.c (.bool true)))]
def c_sleq : SCode := (.seq (.reg false qapr [0, 1]) (.seq (.seq (.reg false qapq [0, 1, 10]) (.cond (.t 10) (.seq (.reg false qapp [4]) .ret) .skip)) (.seq (.seq (.reg false qapo [0, 1, 12, 13]) (.block 0 (.loop qai4))) (.seq (.reg false qang [4]) .ret))))
theorem qaju : comp Try.prog 26 ((Try.f114.body).getD .skip) = some c_sleq.erase := by kernel_rfl
abbrev qao0 : List SOper := [Oa 0 (.mv (.c (.bool false)))]
abbrev qaoz : List SOper := [Oc 6 26 [(.c (.int .i64 1)), (.c (.int .i64 1))], Oa 1 (.mv (.t 6))]
abbrev qai2 : List SOper := [Oa 7 (.mv (.t 1)), Oa 8 (.mkrow 39 1 1 [(.int .u64 0)] [(0, (.c (.int .u64 5)))]), Oa 9 (.build [(.int .i64 0), .nilsl] [(0, 1, (.c (.int .i64 3)))]), Oc 10 28 [(.t 7), (.t 8), (.t 9)], Oa 2 (.mv (.t 10))]
abbrev qaoy : List SOper := [Oa 11 (.mv (.t 1)), Oa 12 (.mkrow 39 1 1 [(.int .u64 0)] [(0, (.c (.int .u64 6)))]), Oa 13 (.build [(.int .i64 0), .nilsl] []), Oc 14 28 [(.t 11), (.t 12), (.t 13)], Oa 3 (.mv (.t 14))]
abbrev qaox : List SOper := [Oa 16 (.mv (.t 1)), Oa 17 (.mkrow 39 1 1 [(.int .u64 0)] [(0, (.c (.int .u64 5)))]), Oc 18 31 [(.t 16), (.t 17)], Oa 15 (.mv (.t 18)), Oa 19 (.extr (.t 15) 0), Oa 20 (.extr (.t 15) 1), Oa 4 (.alloc 58 [(.int .i64 0), .nilsl]), Ob (.store 2 (.t 4) (.t 19)), Oa 5 (.mv (.t 20))]
abbrev qaow : List SOper := [Oa 21 (.mv (.t 2)), Oa 22 (.bin .eql (.t 21) (.c (.int .i64 0))), Oa 23 (.mv (.t 22)), Oe 24 (.mv (.t 3)) 23 true, Oe 25 (.bin .eql (.t 24) (.c (.int .i64 10))) 23 true, Oa 26 (.pick (.t 23) (.t 25) (.c (.bool false))), Oa 27 (.mv (.t 26)), Oe 28 (.mv (.t 5)) 27 true, Oa 29 (.pick (.t 27) (.t 28) (.c (.bool false))), Oa 30 (.mv (.t 29)), Oe 31 (.faddr 0 (.t 4)) 30 true, Oe 32 (.load (.t 31)) 30 true, Oe 33 (.bin .eql (.t 32) (.c (.int .i64 3))) 30 true, Oa 34 (.pick (.t 30) (.t 33) (.c (.bool false))), Oa 0 (.mv (.t 34))]
def c_xbeg : SCode := (.seq (.reg false qao0 []) (.seq (.reg false qaoz [1]) (.seq (.reg false qai2 [1, 2]) (.seq (.reg false qaoy [1, 2, 3]) (.seq (.reg false qaox [2, 3, 4, 5]) (.seq (.reg false qaow [0]) .ret))))))
theorem qajr : comp Try.prog 35 ((Try.f24.body).getD .skip) = some c_xbeg.erase := by kernel_rfl
abbrev qaom : List SOper := [Oa 6 (.mv (.c (.bool false)))]
abbrev qaol : List SOper := [Oc 18 24 [], Oa 19 (.un .not (.t 18))]
abbrev qaok : List SOper := [Oa 6 (.mv (.c (.bool false)))]
abbrev qaoj : List SOper := [Oa 20 (.mv (.t 0)), Oa 21 (.bin .gtr (.t 20) (.c (.int .i64 1000))), Oa 22 (.mv (.t 21)), Oe 23 (.mv (.t 1)) 22 false, ⟨(some 24), .mv (.c .any), some ((.c (.fn (.func 25) [] [])), [(.t 23)]), (some (22, false)), 0⟩, Oa 25 (.pick (.t 22) (.c (.bool true)) (.t 24))]
abbrev qaoi : List SOper := [Oa 6 (.mv (.c (.bool true)))]
abbrev qaoh : List SOper := [Oa 26 (.mv (.t 0)), Oc 27 26 [(.c (.int .i64 2)), (.t 26)], Oa 7 (.mv (.t 27))]
abbrev qaog : List SOper := [Oa 8 (.mv (.c (.int .i64 0)))]
abbrev qaof : List SOper := [Oa 28 (.mv (.t 8)), Oa 29 (.mv (.t 1)), Oa 30 (.len false (.t 29)), Oa 31 (.bin .lss (.t 28) (.t 30))]
abbrev qaoe : List SOper := [Oa 34 (.mv (.t 1)), Oa 35 (.mv (.t 8)), Oa 36 (.iaddr 7 (.t 34) (.t 35)), Oa 37 (.faddr 0 (.t 36)), Oa 38 (.load (.t 37)), Oa 39 (.bin .eql (.t 38) (.c (.int .i64 2)))]
abbrev qamo : List SOper := [Oa 40 (.mv (.t 7)), Oa 41 (.mv (.t 1)), Oa 42 (.mv (.t 8)), Oa 43 (.iaddr 7 (.t 41) (.t 42)), Oa 44 (.faddr 1 (.t 43)), Oa 45 (.faddr 0 (.t 44)), Oa 46 (.load (.t 45)), Oc 47 27 [(.t 40), (.t 46)]]
abbrev qamn : List SOper := [Oa 48 (.mv (.t 7)), Oa 49 (.mv (.t 1)), Oa 50 (.mv (.t 8)), Od 51 (.iaddr 7 (.t 49) (.t 50)) 6, Od 52 (.faddr 1 (.t 51)) 14, Od 53 (.faddr 0 (.t 52)) 30, Od 54 (.load (.t 53)) 62, Oa 55 (.mv (.t 1)), Oa 56 (.mv (.t 8)), Od 57 (.iaddr 7 (.t 55) (.t 56)) 384, Od 58 (.faddr 1 (.t 57)) 896, Od 59 (.loads 6 (.t 58)) 1920, ⟨(some 60), .mv (.c .any), some ((.c (.fn (.func 29) [] [])), [(.t 59)]), none, 3968⟩, ⟨(some 61), .mv (.c .any), some ((.c (.fn (.func 28) [] [])), [(.t 48), (.t 54), (.t 60)]), none, 8191⟩]
abbrev qamm : List SOper := [Oa 32 (.mv (.t 8)), Oa 33 (.bin .add (.t 32) (.c (.int .i64 1))), Oa 8 (.mv (.t 33))]
def qai0 : SCode := (.seq (.seq (.reg false qaof [0, 1, 2, 7, 8, 31]) (.cond (.t 31) .skip (.exit 0))) (.seq (.block 1 (.seq (.reg false qaoe [0, 1, 2, 7, 8, 39]) (.cond (.t 39) (.reg false qamo [0, 1, 2, 7, 8]) (.reg true qamn [0, 1, 2, 7, 8])))) (.reg false qamm [0, 1, 2, 7, 8])))
abbrev qaml : List SOper := [Oa 62 (.mv (.t 7)), Oc 63 30 [(.t 62)], Oa 9 (.mv (.t 63))]
abbrev qamk : List SOper := [Oa 64 (.mv (.t 0)), Oc 65 26 [(.c (.int .i64 2)), (.t 64)], Oa 10 (.mv (.t 65))]
abbrev qamj : List SOper := [Oa 11 (.mv (.c (.int .i64 0)))]
abbrev qami : List SOper := [Oa 66 (.mv (.t 11)), Oa 67 (.mv (.t 9)), Oa 68 (.len false (.t 67)), Oa 69 (.bin .lss (.t 66) (.t 68))]
abbrev qamh : List SOper := [Oa 72 (.mv (.t 9)), Oa 73 (.mv (.t 11)), Oa 74 (.mv (.t 2)), Oa 75 (.conv .u64 (.t 74)), Oa 76 (.mv (.t 9)), Oa 77 (.len false (.t 76)), Oa 78 (.conv .u64 (.t 77)), Oa 79 (.bin .rem (.t 75) (.t 78)), Oa 80 (.conv .i64 (.t 79)), Oa 81 (.bin .add (.t 73) (.t 80)), Oa 82 (.mv (.t 9)), Oa 83 (.len false (.t 82)), Oa 84 (.bin .rem (.t 81) (.t 83)), Oa 85 (.iaddr 6 (.t 72) (.t 84)), Oa 86 (.loads 6 (.t 85)), Oa 12 (.alloc 65 [.nilsl, .nilsl, (.int .i64 0), (.int .i64 0), (.int .i64 0), .nilsl]), Ob (.store 6 (.t 12) (.t 86))]
abbrev qamg : List SOper := [Oa 87 (.mv (.t 10)), Oa 88 (.faddr 0 (.t 12)), Od 89 (.load (.t 88)) 2, Oa 90 (.loads 6 (.t 12)), ⟨(some 91), .mv (.c .any), some ((.c (.fn (.func 29) [] [])), [(.t 90)]), none, 8⟩, ⟨(some 92), .mv (.c .any), some ((.c (.fn (.func 28) [] [])), [(.t 87), (.t 89), (.t 91)]), none, 31⟩, Od 93 (.bin .neq (.t 92) (.c (.int .i64 0))) 63]
abbrev qamf : List SOper := [Oa 6 (.mv (.c (.bool false)))]
abbrev qame : List SOper := [Oa 70 (.mv (.t 11)), Oa 71 (.bin .add (.t 70) (.c (.int .i64 1))), Oa 11 (.mv (.t 71))]
def qaiz : SCode := (.seq (.seq (.reg false qami [1, 2, 7, 9, 10, 11, 69]) (.cond (.t 69) .skip (.exit 2))) (.seq (.block 3 (.seq (.reg false qamh [1, 2, 7, 9, 10, 11, 12]) (.seq (.reg true qamg [1, 2, 7, 9, 10, 11, 93]) (.cond (.t 93) (.seq (.reg false qamf [6]) .ret) .skip)))) (.reg false qame [1, 2, 7, 9, 10, 11])))
abbrev qamd : List SOper := [Oa 13 (.mv (.c (.int .i64 0)))]
abbrev qamc : List SOper := [Oa 94 (.mv (.t 13)), Oa 95 (.mv (.t 1)), Oa 96 (.len false (.t 95)), Oa 97 (.bin .lss (.t 94) (.t 96))]
abbrev qamb : List SOper := [Oa 101 (.mv (.t 7)), Oa 102 (.mv (.t 1)), Oa 103 (.mv (.t 13)), Oa 104 (.iaddr 7 (.t 102) (.t 103)), Oa 105 (.faddr 1 (.t 104)), Oa 106 (.faddr 0 (.t 105)), Oa 107 (.load (.t 106)), Oc 108 31 [(.t 101), (.t 107)], Oa 100 (.mv (.t 108)), Oa 109 (.extr (.t 100) 0), Oa 110 (.extr (.t 100) 1), Oa 14 (.alloc 58 [(.int .i64 0), .nilsl]), Ob (.store 2 (.t 14) (.t 109)), Oa 15 (.mv (.t 110))]
abbrev qama : List SOper := [Oa 112 (.mv (.t 10)), Oa 113 (.mv (.t 1)), Oa 114 (.mv (.t 13)), Oa 115 (.iaddr 7 (.t 113) (.t 114)), Oa 116 (.faddr 1 (.t 115)), Oa 117 (.faddr 0 (.t 116)), Oa 118 (.load (.t 117)), Oc 119 31 [(.t 112), (.t 118)], Oa 111 (.mv (.t 119)), Oa 120 (.extr (.t 111) 0), Oa 121 (.extr (.t 111) 1), Oa 16 (.alloc 58 [(.int .i64 0), .nilsl]), Ob (.store 2 (.t 16) (.t 120)), Oa 17 (.mv (.t 121))]
abbrev qal9 : List SOper := [Oa 122 (.mv (.t 15)), Oa 123 (.mv (.t 17)), Oa 124 (.eq 0 true (.t 122) (.t 123)), Oa 125 (.mv (.t 124)), Oe 126 (.loads 2 (.t 14)) 125 false, Oe 127 (.loads 2 (.t 16)) 125 false, ⟨(some 128), .mv (.c .any), some ((.c (.fn (.func 32) [] [])), [(.t 126), (.t 127)]), (some (125, false)), 0⟩, Oe 129 (.un .not (.t 128)) 125 false, Oa 130 (.pick (.t 125) (.c (.bool true)) (.t 129))]
abbrev qal8 : List SOper := [Oa 6 (.mv (.c (.bool false)))]
abbrev qal7 : List SOper := [Oa 98 (.mv (.t 13)), Oa 99 (.bin .add (.t 98) (.c (.int .i64 1))), Oa 13 (.mv (.t 99))]
def qaiy : SCode := (.seq (.seq (.reg false qamc [1, 7, 9, 10, 13, 97]) (.cond (.t 97) .skip (.exit 4))) (.seq (.block 5 (.seq (.reg false qamb [1, 7, 9, 10, 13, 14, 15]) (.seq (.reg false qama [1, 7, 9, 10, 13, 14, 15, 16, 17]) (.seq (.reg false qal9 [1, 7, 9, 10, 13, 130]) (.cond (.t 130) (.seq (.reg false qal8 [6]) .ret) .skip))))) (.reg false qal7 [1, 7, 9, 10, 13])))
abbrev qal6 : List SOper := [Oa 131 (.mv (.t 10)), Oc 132 30 [(.t 131)], Oa 133 (.mv (.t 9)), Oc 134 33 [(.t 132), (.t 133)], Oa 135 (.mv (.t 134)), Oe 136 (.mv (.t 10)) 135 true, ⟨(some 137), .mv (.c .any), some ((.c (.fn (.func 34) [] [])), [(.t 136)]), (some (135, true)), 0⟩, Oe 138 (.mv (.t 7)) 135 true, ⟨(some 139), .mv (.c .any), some ((.c (.fn (.func 34) [] [])), [(.t 138)]), (some (135, true)), 0⟩, Oe 140 (.bin .eql (.t 137) (.t 139)) 135 true, Oa 141 (.pick (.t 135) (.t 140) (.c (.bool false))), Oa 142 (.mv (.t 141)), Oe 143 (.mv (.t 7)) 142 true, ⟨(some 144), .mv (.c .any), some ((.c (.fn (.func 34) [] [])), [(.t 143)]), (some (142, true)), 0⟩, Oe 145 (.mv (.t 9)) 142 true, Oe 146 (.len false (.t 145)) 142 true, Oe 147 (.bin .eql (.t 144) (.t 146)) 142 true, Oa 148 (.pick (.t 142) (.t 147) (.c (.bool false))), Oa 6 (.mv (.t 148))]
def c_xset : SCode := (.seq (.reg false qaom [0, 1, 2]) (.seq (.seq (.reg false qaol [0, 1, 2, 19]) (.cond (.t 19) (.seq (.reg false qaok [6]) .ret) .skip)) (.seq (.seq (.reg false qaoj [0, 1, 2, 25]) (.cond (.t 25) (.seq (.reg false qaoi [6]) .ret) .skip)) (.seq (.reg false qaoh [0, 1, 2, 7]) (.seq (.seq (.reg false qaog [0, 1, 2, 7, 8]) (.block 0 (.loop qai0))) (.seq (.reg false qaml [0, 1, 2, 7, 9]) (.seq (.reg false qamk [1, 2, 7, 9, 10]) (.seq (.seq (.reg false qamj [1, 2, 7, 9, 10, 11]) (.block 2 (.loop qaiz))) (.seq (.seq (.reg false qamd [1, 7, 9, 10, 13]) (.block 4 (.loop qaiy))) (.seq (.reg false qal6 [6]) .ret))))))))))
theorem qajn : comp Try.prog 149 ((Try.f6.body).getD .skip) = some c_xset.erase := by kernel_rfl
end Go.Proofs.Yticeaegpkpjjeaa
namespace Go.Proofs.Yticeaegpkpjjeaa
set_option linter.all false
open Go.RowKit
def PackN (N : Nat) (R : Hp → Prop) (w : World) (A Fp : Nat → Prop) (b : Nat) : Prop :=
 ∃ (h : Hp) (ρ : qabm) (fp : Nat → Nat → Prop) (c : Nat), R h ∧ ρ 0 = some (some (b, c)) ∧ (∀ id, N ≤ id → ρ id = none) ∧ (∀ id o, geth h id = some o → ObjRep w A ρ id (fp id) o) ∧
  (∀ id id' o o', id ≠ id' → geth h id = some o → geth h id' = some o' → ∀ k, fp id k → ¬ fp id' k) ∧ (∀ k, Live h fp k → k < w.heap.size) ∧ ∀ k, Fp k ↔ Live h fp k
def qar4 (N : Nat) (R : Hp → Prop) : AbsI where
 I := PackN N R
 lt := by rintro w A Fp b ⟨h, ρ, fp, c, _, _, _, _, _, h6, h7⟩ k hk; exact h6 k ((h7 k).1 hk)
 keep := by
  rintro w w' A A' Fp b ⟨h, ρ, fp, c, h1, h2, h3, h4, h5, h6, h7⟩ hs hA hb
  exact ⟨h, ρ, fp, c, h1, h2, h3, fun id o ho => (h4 id o ho).mono ⟨hs, hA, fun _ _ h => h⟩ fun k hk => hb k ((h7 k).2 ⟨id, o, ho, hk⟩), h5, fun k hk => Nat.lt_of_lt_of_le (h6 k hk) hs.size, h7⟩
def RenO (σ : Nat → Nat) : SObj → Prop
 | .cells _ cs => cs.map (Go.Proofs.Yticeaegpkpjjeaa.ren σ) = cs
 | .row _ _ es => es.map (·.map (Go.Proofs.Yticeaegpkpjjeaa.ren σ)) = es
 | .abs _ => True
theorem RenO.objM {σ : Nat → Nat} {o : SObj} (h : RenO σ o) : ObjM σ o o := by
 cases o with
 | cells t cs => exact ⟨rfl, by rw [show cs.map (Go.Proofs.Yticeaegpkpjjeaa.ren σ) = cs from h]; exact .refl _⟩
 | row e z es => exact ⟨rfl, rfl, by rw [show es.map (·.map (Go.Proofs.Yticeaegpkpjjeaa.ren σ)) = es from h]; exact .refl _⟩
 | abs I => rfl
def RenH (σ : Nat → Nat) : Hp → Prop
 | [] => True
 | (_, o) :: r => RenO σ o ∧ RenH σ r
theorem RenH.get {σ : Nat → Nat} : ∀ {h : Hp}, RenH σ h → ∀ id o, geth h id = some o → RenO σ o
 | [], _, id, o, h => by cases h
 | (i, x) :: r, h, id, o, hg => by
  simp only [geth] at hg
  split at hg
  ·cases hg; exact h.1
  ·exact RenH.get h.2 id o hg
end Go.Proofs.Yticeaegpkpjjeaa
namespace Go.Proofs.Yticeaegpkpjjeaa
set_option linter.all false
open Go.RowKit
theorem qaks {X : Cx} {ops : Array Oper} {Q : SSt → List Tch → Prop} {R : Exit → Act → World → Prop} (hQ : ∀ s tr ρ fp a w, Q s tr → SimF X ρ fp s a w → R .normal a w) : ∀ (n : Nat) (l : List Oper) (bs : List Nat) (sos : List SOper), qac9 X.P X.N ops l bs = some sos → ∀ (s : SSt) (tr : List Tch) (ρ : qabm) (fp : Nat → Nat → Prop) (a : Act) (w : World),
  SOps X.P (sos.take n) s tr (fun s1 t1 => ∃ s2, Wk X s1 s2 ∧ SOps X.P (sos.drop n) s2 t1 Q) → SimF X ρ fp s a w → wpList X.P ops R l a w
 | 0, l, bs, sos, hc, s, tr, ρ, fp, a, w, hk, h => by
  obtain ⟨s2, hw, h3⟩ := hk
  obtain ⟨ρ', fp', h'⟩ := hw ρ fp a w h
  exact qap0 hQ l bs sos hc _ _ _ _ _ _ h3 h'
 | n + 1, [], bs, sos, hc, s, tr, ρ, fp, a, w, hk, h => by
  simp only [qac9, Option.some.injEq] at hc
  subst hc
  obtain ⟨s2, hw, h3⟩ := hk
  obtain ⟨ρ', fp', h'⟩ := hw ρ fp a w h
  exact hQ _ _ _ _ _ _ h3 h'
 | n + 1, o :: l, bs, sos, hc, s, tr, ρ, fp, a, w, hk, h => by
  have ih := fun bs sos (hc : qac9 X.P X.N ops l bs = some sos) => qaks hQ n l bs sos hc
  obtain ⟨so, r, rfl, hso, hr⟩ := qac5 hc
  obtain ⟨hdst, hd, hg, _, _⟩ := qact hso
  obtain ⟨g1, g2⟩ := qahw hg h.sim
  rw [List.take_succ_cons, List.drop_succ_cons] at hk
  refine wpList_step fun K hK => ?_
  have run : (SOp1 X.P so s fun s' x => SOps X.P (r.take n) s' (x :: tr) (fun s1 t1 => ∃ s2, Wk X s1 s2 ∧ SOps X.P (r.drop n) s2 t1 Q)) → o.wp X.P a w K R := fun hk => op1_ok hso hk h fun s' x ρ' fp' a' w' hk' h' => hK _ _ (ih _ _ hr _ _ _ _ _ _ hk' h')
  simp only [SOps] at hk
  cases hgr : so.grd with
  | none =>
   rw [hgr] at hk
   rw [if_pos (g1 hgr)]
   exact run hk
  | some tw =>
   obtain ⟨t, want⟩ := tw
   rw [hgr] at hk
   obtain ⟨g3, g4⟩ := g2 t want hgr
   simp only at hk
   split at hk
   ·rename_i b hb
    rw [g3 b hb]
    by_cases hbw : b = want
    ·rw [if_pos (by simpa using hbw)]
     exact run (hk.1 hbw)
    ·rw [if_neg (by simpa using hbw)]
     exact hK _ _ (ih _ _ hr _ _ _ _ _ _ (hk.2 hbw) (Sim.skip h hdst hd))
   ·rename_i hb
    rw [g4 hb, if_neg (by simp)]
    exact hK _ _ (ih _ _ hr _ _ _ _ _ _ hk (Sim.skip h hdst hd))
   ·cases hk
theorem qahi {X : Cx} {Q : SExit → SSt → Prop} {s : SSt} {ops : List SOper} {live : List Nat} (n : Nat) (h : SOps X.P (ops.take n) s [] fun s1 t1 => ∃ s2, Wk X s1 s2 ∧ SOps X.P (ops.drop n) s2 t1 fun s' _ => Q .normal (s'.keep live)) : SWp X (.reg false ops live) Q s := fun code hc ρ fp a w hs => by
 by_cases hreg : ∃ id o d, code = .region id o d
 ·obtain ⟨id, o, d, rfl⟩ := hreg
  obtain ⟨l, e, h1, _⟩ := qabw hc
  simp only [SCode.erase, SCode.reg.injEq, and_true] at e
  obtain ⟨rfl, rfl⟩ := e
  refine wp_region_list ?_
  refine qaks (Q := fun s' _ => Q .normal (s'.keep live)) ?_ n _ _ _ h1 s [] ρ fp a w h hs
  intro s' tr ρ' fp' a' w' hq h'
  obtain ⟨ρ2, fp2, h2⟩ := qakm live ρ' fp' a' w' h'
  exact ⟨_, ρ2, fp2, hq, h2⟩
 ·cases code <;> (try simp only [comp, SCode.erase, Option.bind_eq_bind, Option.bind_eq_some_iff, Option.some.injEq, reduceCtorEq, and_false, exists_false, exists_const] at hc)
  case region => exact absurd ⟨_, _, _, rfl⟩ hreg
end Go.Proofs.Yticeaegpkpjjeaa
namespace Go.Proofs.Yticeaegpkpjjeaa
set_option linter.all false
open Go.RowKit
def qags : List SOper := [⟨(some 4), .mv (.c (.bool false)), none, none, 0⟩]
def qagr : List SOper := [⟨(some 6), .mv (.t 0), none, none, 0⟩,
 ⟨(some 7), .len false (.t 6), none, none, 0⟩,
 ⟨(some 8), .mv (.t 1), none, none, 0⟩,
 ⟨(some 9), .len false (.t 8), none, none, 0⟩,
 ⟨(some 10), .bin .neq (.t 7) (.t 9), none, none, 0⟩]
def qagq : List SOper := [⟨(some 4), .mv (.c (.bool false)), none, none, 0⟩]
def qagp : List SOper := [⟨(some 5), .mv (.c (.int .i64 0)), none, none, 0⟩]
def qago : List SOper := [⟨(some 11), .mv (.t 5), none, none, 0⟩,
 ⟨(some 12), .mv (.t 0), none, none, 0⟩,
 ⟨(some 13), .len false (.t 12), none, none, 0⟩,
 ⟨(some 14), .bin .lss (.t 11) (.t 13), none, none, 0⟩]
def qagn : List SOper := [⟨(some 17), .mv (.t 0), none, none, 0⟩,
 ⟨(some 18), .mv (.t 5), none, none, 0⟩,
 ⟨(some 19), .iaddr 1 (.t 17) (.t 18), none, none, 3⟩,
 ⟨(some 20), .load (.t 19), none, none, 7⟩,
 ⟨(some 21), .mv (.t 1), none, none, 0⟩,
 ⟨(some 22), .mv (.t 5), none, none, 0⟩,
 ⟨(some 23), .iaddr 1 (.t 21) (.t 22), none, none, 48⟩,
 ⟨(some 24), .load (.t 23), none, none, 112⟩,
 ⟨(some 25), .bin .neq (.t 20) (.t 24), none, none, 255⟩]
def qagm : List SOper := [⟨(some 4), .mv (.c (.bool false)), none, none, 0⟩]
def qagl : List SOper := [⟨(some 15), .mv (.t 5), none, none, 0⟩,
 ⟨(some 16), .bin .add (.t 15) (.c (.int .i64 1)), none, none, 0⟩,
 ⟨(some 5), .mv (.t 16), none, none, 0⟩]
def qagt : SCode := (.seq (.seq (.reg false qago [0, 1, 5, 14]) (.cond (.t 14) .skip (.exit 0))) (.seq (.block 1 (.seq (.reg true qagn [0, 1, 5, 25]) (.cond (.t 25) (.seq (.reg false qagm [4]) .ret) .skip))) (.reg false qagl [0, 1, 5])))
def qagk : List SOper := [⟨(some 4), .mv (.c (.bool true)), none, none, 0⟩]
def c_snums : SCode := (.seq (.reg false qags [0, 1]) (.seq (.seq (.reg false qagr [0, 1, 10]) (.cond (.t 10) (.seq (.reg false qagq [4]) .ret) .skip)) (.seq (.seq (.reg false qagp [0, 1, 5]) (.block 0 (.loop qagt))) (.seq (.reg false qagk [4]) .ret))))
theorem qah3 : comp Try.prog 26 ((Try.f18.body).getD .skip) = some c_snums.erase := by kernel_rfl
def qai7 : List SOper := [⟨(some 2), .box 65 (.t 0), none, none, 0⟩,
 ⟨(some 3), .box 65 (.t 1), none, none, 0⟩,
 ⟨(some 4), .mv (.c (.bool false)), none, none, 0⟩]
def qai6 : List SOper := [⟨(some 5), .faddr 0 (.t 2), none, none, 0⟩,
 ⟨(some 6), .load (.t 5), none, none, 0⟩,
 ⟨(some 7), .faddr 0 (.t 3), none, none, 0⟩,
 ⟨(some 8), .load (.t 7), none, none, 0⟩,
 ⟨(some 9), .mv (.c .any), some ((.c (.fn (.func 18) [] [])), [(.t 6), (.t 8)]), none, 0⟩,
 ⟨(some 10), .mv (.t 9), none, none, 0⟩,
 ⟨(some 11), .faddr 1 (.t 2), none, (some (10, true)), 0⟩,
 ⟨(some 12), .load (.t 11), none, (some (10, true)), 0⟩,
 ⟨(some 13), .faddr 1 (.t 3), none, (some (10, true)), 0⟩,
 ⟨(some 14), .load (.t 13), none, (some (10, true)), 0⟩,
 ⟨(some 15), .mv (.c .any), some ((.c (.fn (.func 18) [] [])), [(.t 12), (.t 14)]), (some (10, true)), 0⟩,
 ⟨(some 16), .pick (.t 10) (.t 15) (.c (.bool false)), none, none, 0⟩,
 ⟨(some 17), .mv (.t 16), none, none, 0⟩,
 ⟨(some 18), .faddr 2 (.t 2), none, (some (17, true)), 0⟩,
 ⟨(some 19), .load (.t 18), none, (some (17, true)), 0⟩,
 ⟨(some 20), .faddr 2 (.t 3), none, (some (17, true)), 0⟩,
 ⟨(some 21), .load (.t 20), none, (some (17, true)), 0⟩,
 ⟨(some 22), .bin .eql (.t 19) (.t 21), none, (some (17, true)), 0⟩,
 ⟨(some 23), .pick (.t 17) (.t 22) (.c (.bool false)), none, none, 0⟩,
 ⟨(some 24), .mv (.t 23), none, none, 0⟩,
 ⟨(some 25), .faddr 3 (.t 2), none, (some (24, true)), 0⟩,
 ⟨(some 26), .load (.t 25), none, (some (24, true)), 0⟩,
 ⟨(some 27), .faddr 3 (.t 3), none, (some (24, true)), 0⟩,
 ⟨(some 28), .load (.t 27), none, (some (24, true)), 0⟩,
 ⟨(some 29), .bin .eql (.t 26) (.t 28), none, (some (24, true)), 0⟩,
 ⟨(some 30), .pick (.t 24) (.t 29) (.c (.bool false)), none, none, 0⟩,
 ⟨(some 31), .mv (.t 30), none, none, 0⟩,
 ⟨(some 32), .faddr 4 (.t 2), none, (some (31, true)), 0⟩,
 ⟨(some 33), .load (.t 32), none, (some (31, true)), 0⟩,
 ⟨(some 34), .faddr 4 (.t 3), none, (some (31, true)), 0⟩,
 ⟨(some 35), .load (.t 34), none, (some (31, true)), 0⟩,
 ⟨(some 36), .bin .eql (.t 33) (.t 35), none, (some (31, true)), 0⟩,
 ⟨(some 37), .pick (.t 31) (.t 36) (.c (.bool false)), none, none, 0⟩,
 ⟨(some 38), .mv (.t 37), none, none, 0⟩,
 ⟨(some 39), .faddr 5 (.t 2), none, (some (38, true)), 0⟩,
 ⟨(some 40), .load (.t 39), none, (some (38, true)), 0⟩,
 ⟨(some 41), .faddr 5 (.t 3), none, (some (38, true)), 0⟩,
 ⟨(some 42), .load (.t 41), none, (some (38, true)), 0⟩,
 ⟨(some 43), .mv (.c .any), some ((.c (.fn (.func 18) [] [])), [(.t 40), (.t 42)]), (some (38, true)), 0⟩,
 ⟨(some 44), .pick (.t 38) (.t 43) (.c (.bool false)), none, none, 0⟩,
 ⟨(some 4), .mv (.t 44), none, none, 0⟩]
def c_sent : SCode := (.seq (.reg false qai7 [2, 3]) (.seq (.reg false qai6 [4]) .ret))
theorem qajw : comp Try.prog 45 ((Try.f41.body).getD .skip) = some c_sent.erase := by kernel_rfl
def qag2 : List SOper := [⟨(some 4), .mv (.c (.bool false)), none, none, 0⟩]
def qag1 : List SOper := [⟨(some 6), .mv (.t 0), none, none, 0⟩,
 ⟨(some 7), .len false (.t 6), none, none, 0⟩,
 ⟨(some 8), .mv (.t 1), none, none, 0⟩,
 ⟨(some 9), .len false (.t 8), none, none, 0⟩,
 ⟨(some 10), .bin .neq (.t 7) (.t 9), none, none, 0⟩]
def qag0 : List SOper := [⟨(some 4), .mv (.c (.bool false)), none, none, 0⟩]
def qagz : List SOper := [⟨(some 5), .mv (.c (.int .i64 0)), none, none, 0⟩]
def qagy : List SOper := [⟨(some 11), .mv (.t 5), none, none, 0⟩,
 ⟨(some 12), .mv (.t 0), none, none, 0⟩,
 ⟨(some 13), .len false (.t 12), none, none, 0⟩,
 ⟨(some 14), .bin .lss (.t 11) (.t 13), none, none, 0⟩]
def qagx : List SOper := [⟨(some 17), .mv (.t 0), none, none, 0⟩,
 ⟨(some 18), .mv (.t 5), none, none, 0⟩,
 ⟨(some 19), .iaddr 6 (.t 17) (.t 18), none, none, 3⟩,
 ⟨(some 20), .loads 6 (.t 19), none, none, 7⟩,
 ⟨(some 21), .mv (.t 1), none, none, 0⟩,
 ⟨(some 22), .mv (.t 5), none, none, 0⟩,
 ⟨(some 23), .iaddr 6 (.t 21) (.t 22), none, none, 48⟩,
 ⟨(some 24), .loads 6 (.t 23), none, none, 112⟩,
 ⟨(some 25), .mv (.c .any), some ((.c (.fn (.func 41) [] [])), [(.t 20), (.t 24)]), none, 255⟩,
 ⟨(some 26), .un .not (.t 25), none, none, 511⟩]
def qagw : List SOper := [⟨(some 4), .mv (.c (.bool false)), none, none, 0⟩]
def qagv : List SOper := [⟨(some 15), .mv (.t 5), none, none, 0⟩,
 ⟨(some 16), .bin .add (.t 15) (.c (.int .i64 1)), none, none, 0⟩,
 ⟨(some 5), .mv (.t 16), none, none, 0⟩]
def qag3 : SCode := (.seq (.seq (.reg false qagy [0, 1, 5, 14]) (.cond (.t 14) .skip (.exit 0))) (.seq (.block 1 (.seq (.reg true qagx [0, 1, 5, 26]) (.cond (.t 26) (.seq (.reg false qagw [4]) .ret) .skip))) (.reg false qagv [0, 1, 5])))
def qagu : List SOper := [⟨(some 4), .mv (.c (.bool true)), none, none, 0⟩]
def c_sents : SCode := (.seq (.reg false qag2 [0, 1]) (.seq (.seq (.reg false qag1 [0, 1, 10]) (.cond (.t 10) (.seq (.reg false qag0 [4]) .ret) .skip)) (.seq (.seq (.reg false qagz [0, 1, 5]) (.block 0 (.loop qag3))) (.seq (.reg false qagu [4]) .ret))))
theorem qah4 : comp Try.prog 27 ((Try.f33.body).getD .skip) = some c_sents.erase := by kernel_rfl
def qai5 : List SOper := [⟨(some 2), .box 58 (.t 0), none, none, 0⟩,
 ⟨(some 3), .box 58 (.t 1), none, none, 0⟩,
 ⟨(some 4), .mv (.c (.bool false)), none, none, 0⟩]
def qafw : List SOper := [⟨(some 5), .faddr 0 (.t 2), none, none, 0⟩,
 ⟨(some 6), .load (.t 5), none, none, 0⟩,
 ⟨(some 7), .faddr 0 (.t 3), none, none, 0⟩,
 ⟨(some 8), .load (.t 7), none, none, 0⟩,
 ⟨(some 9), .bin .eql (.t 6) (.t 8), none, none, 0⟩,
 ⟨(some 10), .mv (.t 9), none, none, 0⟩,
 ⟨(some 11), .faddr 1 (.t 2), none, (some (10, true)), 0⟩,
 ⟨(some 12), .load (.t 11), none, (some (10, true)), 0⟩,
 ⟨(some 13), .faddr 1 (.t 3), none, (some (10, true)), 0⟩,
 ⟨(some 14), .load (.t 13), none, (some (10, true)), 0⟩,
 ⟨(some 15), .mv (.c .any), some ((.c (.fn (.func 18) [] [])), [(.t 12), (.t 14)]), (some (10, true)), 0⟩,
 ⟨(some 16), .pick (.t 10) (.t 15) (.c (.bool false)), none, none, 0⟩,
 ⟨(some 4), .mv (.t 16), none, none, 0⟩]
def c_shit : SCode := (.seq (.reg false qai5 [2, 3]) (.seq (.reg false qafw [4]) .ret))
theorem qajv : comp Try.prog 17 ((Try.f32.body).getD .skip) = some c_shit.erase := by kernel_rfl
def qag5 : List SOper := [⟨(some 1), .box 65 (.t 0), none, none, 0⟩,
 ⟨(some 2), .alloc 58 [(.int .i64 0), .nilsl], none, none, 0⟩]
def qag4 : List SOper := [⟨(some 3), .faddr 4 (.t 1), none, none, 0⟩,
 ⟨(some 4), .load (.t 3), none, none, 0⟩,
 ⟨(some 5), .faddr 5 (.t 1), none, none, 0⟩,
 ⟨(some 6), .load (.t 5), none, none, 0⟩,
 ⟨(some 7), .build [(.int .i64 0), .nilsl] [(0, 1, (.t 4)), (1, 1, (.t 6))], none, none, 0⟩,
 ⟨none, .store 2 (.t 2) (.t 7), none, none, 0⟩]
def c_hitOf : SCode := (.seq (.reg false qag5 [1, 2]) (.seq (.reg false qag4 [2]) .ret))
theorem qah5 : comp Try.prog 8 ((Try.f29.body).getD .skip) = some c_hitOf.erase := by kernel_rfl
def qaha : List SOper := [⟨(some 2), .mv (.c (.bool false)), none, none, 0⟩]
def qag9 : List SOper := [⟨(some 4), .mv (.t 0), none, none, 0⟩,
 ⟨(some 5), .len false (.t 4), none, none, 0⟩,
 ⟨(some 6), .bin .gtr (.t 5) (.c (.int .i64 200)), none, none, 0⟩]
def qag8 : List SOper := [⟨(some 2), .mv (.c (.bool true)), none, none, 0⟩]
def qag7 : List SOper := [⟨(some 3), .mv (.c (.int .i64 0)), none, none, 0⟩]
def qag6 : List SOper := [⟨(some 7), .mv (.t 3), none, none, 0⟩,
 ⟨(some 8), .mv (.t 0), none, none, 0⟩,
 ⟨(some 9), .len false (.t 8), none, none, 0⟩,
 ⟨(some 10), .bin .lss (.t 7) (.t 9), none, none, 0⟩]
def qads : List SOper := [⟨(some 13), .mv (.t 0), none, none, 0⟩,
 ⟨(some 14), .mv (.t 3), none, none, 0⟩,
 ⟨(some 15), .iaddr 7 (.t 13) (.t 14), none, none, 0⟩,
 ⟨(some 16), .faddr 1 (.t 15), none, none, 0⟩,
 ⟨(some 17), .faddr 0 (.t 16), none, none, 0⟩,
 ⟨(some 18), .load (.t 17), none, none, 0⟩,
 ⟨(some 19), .len false (.t 18), none, none, 0⟩,
 ⟨(some 20), .bin .gtr (.t 19) (.c (.int .i64 20)), none, none, 0⟩,
 ⟨(some 21), .mv (.t 20), none, none, 0⟩,
 ⟨(some 22), .mv (.t 0), none, (some (21, false)), 0⟩,
 ⟨(some 23), .mv (.t 3), none, (some (21, false)), 0⟩,
 ⟨(some 24), .iaddr 7 (.t 22) (.t 23), none, (some (21, false)), 0⟩,
 ⟨(some 25), .faddr 1 (.t 24), none, (some (21, false)), 0⟩,
 ⟨(some 26), .faddr 1 (.t 25), none, (some (21, false)), 0⟩,
 ⟨(some 27), .load (.t 26), none, (some (21, false)), 0⟩,
 ⟨(some 28), .len false (.t 27), none, (some (21, false)), 0⟩,
 ⟨(some 29), .bin .gtr (.t 28) (.c (.int .i64 20)), none, (some (21, false)), 0⟩,
 ⟨(some 30), .pick (.t 21) (.c (.bool true)) (.t 29), none, none, 0⟩,
 ⟨(some 31), .mv (.t 30), none, none, 0⟩,
 ⟨(some 32), .mv (.t 0), none, (some (31, false)), 0⟩,
 ⟨(some 33), .mv (.t 3), none, (some (31, false)), 0⟩,
 ⟨(some 34), .iaddr 7 (.t 32) (.t 33), none, (some (31, false)), 0⟩,
 ⟨(some 35), .faddr 1 (.t 34), none, (some (31, false)), 0⟩,
 ⟨(some 36), .faddr 5 (.t 35), none, (some (31, false)), 0⟩,
 ⟨(some 37), .load (.t 36), none, (some (31, false)), 0⟩,
 ⟨(some 38), .len false (.t 37), none, (some (31, false)), 0⟩,
 ⟨(some 39), .bin .gtr (.t 38) (.c (.int .i64 20)), none, (some (31, false)), 0⟩,
 ⟨(some 40), .pick (.t 31) (.c (.bool true)) (.t 39), none, none, 0⟩]
def qaez : List SOper := [⟨(some 2), .mv (.c (.bool true)), none, none, 0⟩]
def qaey : List SOper := [⟨(some 11), .mv (.t 3), none, none, 0⟩,
 ⟨(some 12), .bin .add (.t 11) (.c (.int .i64 1)), none, none, 0⟩,
 ⟨(some 3), .mv (.t 12), none, none, 0⟩]
def qahb : SCode := (.seq (.seq (.reg false qag6 [0, 3, 10]) (.cond (.t 10) .skip (.exit 0))) (.seq (.block 1 (.seq (.reg false qads [0, 3, 40]) (.cond (.t 40) (.seq (.reg false qaez [2]) .ret) .skip))) (.reg false qaey [0, 3])))
def qaex : List SOper := [⟨(some 2), .mv (.c (.bool false)), none, none, 0⟩]
def c_great : SCode := (.seq (.reg false qaha [0]) (.seq (.seq (.reg false qag9 [0, 6]) (.cond (.t 6) (.seq (.reg false qag8 [2]) .ret) .skip)) (.seq (.seq (.reg false qag7 [0, 3]) (.block 0 (.loop qahb))) (.seq (.reg false qaex [2]) .ret))))
theorem qah6 : comp Try.prog 41 ((Try.f25.body).getD .skip) = some c_great.erase := by kernel_rfl
end Go.Proofs.Yticeaegpkpjjeaa
namespace Go.Proofs.Yticeaegpkpjjeaa
set_option linter.all false
open Go.RowKit
def qac8 (p : Nat → Bool) : Nat → Nat
 | 0 => 0
 | n + 1 => if qac8 p n < n then qac8 p n else if p n then n else n + 1
theorem qaiv (p : Nat → Bool) (n : Nat) : qac8 p n ≤ n := by
 induction n with
 | zero => simp [qac8]
 | succ n ih => simp only [qac8]; repeat' split
                all_goals omega
theorem qaf7 (p : Nat → Bool) (n i : Nat) (h : i < qac8 p n) : p i = false := by
 induction n with
 | zero => simp [qac8] at h
 | succ n ih =>
  have hle := qaiv p n
  simp only [qac8] at h
  split at h
  ·exact ih h
  ·split at h
   ·exact ih (by omega)
   ·rename_i h1 h2
    by_cases hi : i = n
    ·subst hi; simpa using h2
    ·exact ih (by omega)
theorem qaiw (p : Nat → Bool) (n : Nat) (h : qac8 p n < n) : p (qac8 p n) = true := by
 induction n with
 | zero => simp [qac8] at h
 | succ n ih =>
  simp only [qac8] at h ⊢
  split
  ·rename_i h1; exact ih h1
  ·split
   ·assumption
   ·rename_i h1 h2; rw [if_neg h1, if_neg h2] at h; omega
theorem qals (p : Nat → Bool) (n : Nat) (h : qac8 p n = n) : ∀ j, j < n → p j = false := fun j hj => qaf7 p n j (by omega)
end Go.Proofs.Yticeaegpkpjjeaa
namespace Go.Proofs.Yticeaegpkpjjeaa
set_option linter.all false
open Go.RowKit
structure Ins where
 op : Int
 r : Int
 s : Int
 k : Int
 to : Int
 n : Int
 deriving Inhabited, DecidableEq
structure Shape where
 keys : Int
 acts : Int
 args : Int
 deriving Inhabited, DecidableEq
def Ins.wf (x : Ins) : Prop := Fits .i64 x.op ∧ Fits .i64 x.r ∧ Fits .i64 x.s ∧ Fits .i64 x.k ∧ Fits .i64 x.to ∧ Fits .u64 x.n
def Shape.wf (x : Shape) : Prop := Fits .i64 x.keys ∧ Fits .i64 x.acts ∧ Fits .i64 x.args
def Ins.cells (x : Ins) : List Value := [.int .i64 x.op, .int .i64 x.r, .int .i64 x.s, .int .i64 x.k, .int .i64 x.to, .int .u64 x.n]
def Shape.cells (x : Shape) : List Value := [.int .i64 x.keys, .int .i64 x.acts, .int .i64 x.args]
def Lay.flat {α : Type} (size : Nat) (enc : α → List Value) (ok : α → Prop) (hl : ∀ a, (enc a).length = size) : Lay α where
 size := size
 rep _ _ x cs := cs = enc x ∧ ok x
 len h := by rw [h.1]; exact hl _
 step h _ := h
 weaken h _ := h
end Go.Proofs.Yticeaegpkpjjeaa
namespace Go.Proofs.Yticeaegpkpjjeaa
set_option linter.all false
open Go.RowKit
structure Entry where
 keys : List Int
 masks : List Int
 len : Int
 prio : Int
 act : Int
 args : List Int
instance : Inhabited Entry := ⟨⟨[], [], 0, 0, 0, []⟩⟩
def u64s : Lay (List Int) := Lay.slice (Lay.int .u64)
def qaev : Lay Entry := Lay.map (fun e => (e.keys, e.masks, e.len, e.prio, e.act, e.args)) (Lay.pair u64s (Lay.pair u64s (Lay.pair (Lay.int .i64) (Lay.pair (Lay.int .i64) (Lay.pair (Lay.int .i64) u64s)))))
instance : One qaev := ⟨fun h => One.one (L := Lay.pair (Lay.slice (Lay.int .u64)) (Lay.pair (Lay.slice (Lay.int .u64)) (Lay.pair (Lay.int .i64) (Lay.pair (Lay.int .i64) (Lay.pair (Lay.int .i64) (Lay.slice (Lay.int .u64))))))) h⟩
end Go.Proofs.Yticeaegpkpjjeaa
namespace Go.Proofs.Yticeaegpkpjjeaa
set_option linter.all false
open Go.RowKit
def qaby (e : Entry) : List SV := [nums .u64 e.keys, nums .u64 e.masks, .int .i64 e.len, .int .i64 e.prio, .int .i64 e.act, nums .u64 e.args]
def Small (e : Entry) : Prop := e.keys.length ≤ 1000000 ∧ e.masks.length ≤ 1000000 ∧ e.args.length ≤ 1000000
theorem mixed : Try.prog.follows .mixedOrders = true := by kernel_rfl
end Go.Proofs.Yticeaegpkpjjeaa
namespace Go.Proofs.Yticeaegpkpjjeaa
set_option linter.all false
open Go.RowKit Go.ChangeShapes Go.WideShapes Go.Deep
structure Opens (P : Program) (t : TypeId) {α : Type} (L : Lay α) : Prop where
 size : P.cellsOf t = L.size
 pos : 0 < L.size
 opn : ∀ {H : Type} {enc : TypeId × Value → H} {w : World} {fuel : Nat} {cs : List Value} {x : DataW H × List MemPlace}, DataW.trod enc P w 0 (fun _ => true) true fuel t cs = some x → ∃ a, L.rep NoA w a cs
theorem Opens.int {P : Program} {t : TypeId} {k : IntKind} (hu : P.underlying t = some (.int k)) (hc : P.cellsOf t = 1) : Opens P t (Lay.int k) :=
 ⟨hc, Nat.one_pos, fun h => by obtain ⟨n, rfl, _, hw⟩ := DataW.trod_int hu h; exact ⟨n, rfl, hw⟩⟩
theorem Opens.bool {P : Program} {t : TypeId} (hu : P.underlying t = some .bool) (hc : P.cellsOf t = 1) : Opens P t Lay.bool :=
 ⟨hc, Nat.one_pos, fun h => by obtain ⟨n, rfl, _⟩ := DataW.trod_bool hu h; exact ⟨n, rfl⟩⟩
theorem Opens.weak {P : Program} {t : TypeId} {α β : Type} {L : Lay α} {M : Lay β} (h : Opens P t L) (hs : M.size = L.size) (f : ∀ {w a cs}, L.rep NoA w a cs → ∃ b, M.rep NoA w b cs) : Opens P t M :=
 ⟨h.size.trans hs.symm, by rw [hs]; exact h.pos, fun hx => by obtain ⟨a, ha⟩ := h.opn hx; exact f ha⟩
theorem Opens.slice {P : Program} {t e : TypeId} {α : Type} {L : Lay α} (h : Opens P e L) (hu : P.underlying t = some (.slice e)) (hc : P.cellsOf t = 1) : Opens P t (Lay.slice L) := by
 refine ⟨hc, Nat.one_pos, fun {H enc w fuel cs x} hx => ?_⟩
 rcases open_slice hu hx with ⟨rfl, _⟩ | ⟨a, len, cap, m, n, D, Pl, rfl, _, hl, hm, hmm, _, hi⟩
 ·exact ⟨[], none, 0, 0, rfl, RdL.nil_ _ _ _⟩
 ·simp at hmm
  subst hmm
  have hs : a.spot = none ∨ m = 0 := by
   rcases Nat.eq_zero_or_pos m with e | e
   ·exact .inr e
   ·left
    obtain ⟨cs', hc', _⟩ := hi 0 e
    obtain ⟨_, hcl, hat⟩ := World.cells?_some hc'
    have h0 := hat 0 (by rw [h.size]; exact h.pos)
    obtain ⟨b, off, spot⟩ := a
    cases spot with
    | none => rfl
    | some s =>
     rw [List.getElem?_eq_getElem (by rw [hcl, h.size]; exact h.pos)] at h0
     simp [Addr.add, World.cell?] at h0
     split at h0 <;> simp at h0
  rcases hs with hs | rfl
  ·obtain ⟨b, off, spot⟩ := a
   obtain rfl : spot = none := hs
   have hel : ∀ i, i < m → ∃ x, ∃ cs, L.rep NoA w x cs ∧ ∀ j, j < L.size → w.cell? ⟨b, off + i * L.size + j, none⟩ = cs[j]? := by
    intro i him
    obtain ⟨cs', hc', ht⟩ := hi i him
    obtain ⟨x, hr⟩ := h.opn ht
    obtain ⟨_, hcl, hat⟩ := World.cells?_some hc'
    refine ⟨x, cs', hr, fun j hj => ?_⟩
    have := hat j (by rw [h.size]; exact hj)
    rw [h.size, qac7, qac7] at this
    exact this
   have hex : ∀ i : Nat, ∃ x : Option α, i < m → ∃ y, x = some y ∧ ∃ cs, L.rep NoA w y cs ∧ ∀ j, j < L.size → w.cell? ⟨b, off + i * L.size + j, none⟩ = cs[j]? := by
    intro i
    by_cases him : i < m
    ·obtain ⟨x, hx⟩ := hel i him
     exact ⟨some x, fun _ => ⟨x, rfl, hx⟩⟩
    ·exact ⟨none, fun h => absurd h him⟩
   obtain ⟨f, hf⟩ := Classical.axiomOfChoice hex
   have hfs : ∀ i (hh : i < m), (f i).isSome := fun i hh => by obtain ⟨y, hy, _⟩ := hf i hh; rw [hy]; rfl
   let xs : List α := List.ofFn fun i : Fin len => (f i).get (hfs i (by omega))
   have hxl : xs.length = len := by simp [xs]
   refine ⟨xs, some ⟨b, off, none⟩, len, m, rfl, hxl, hl, hm, by simp, fun h0 => ?_⟩
   have hblk : b < w.heap.size := by
    obtain ⟨y, hy, cs, hr, hj⟩ := hf 0 (by omega)
    have h00 := hj 0 h.pos
    rw [List.getElem?_eq_getElem (by rw [L.len hr]; exact h.pos)] at h00
    exact block_lt_of_cell h00
   refine ⟨b, off, rfl, fun h => h, hblk, fun i hi' => ?_⟩
   obtain ⟨y, hy, cs, hr, hj⟩ := hf i (by omega)
   refine ⟨cs, ?_, hj⟩
   have : xs[i] = y := by simp [xs, hy]
   rw [this]; exact hr
  ·obtain rfl : len = 0 := by omega
   refine ⟨[], some a, 0, 0, rfl, rfl, Nat.le_refl _, hm, by simp, fun h => absurd h (by omega)⟩
def OpensF (P : Program) (fs : List Field) (off : Nat) {α : Type} (L : Lay α) : Prop :=
 ∀ {H : Type} {enc : TypeId × Value → H} {w : World} {cs : List Value}, (∀ f ∈ fs, ∃ fuel x, DataW.trod enc P w 0 (fun _ => true) true fuel f.type ((cs.drop f.offset).take (P.cellsOf f.type)) = some x) → cs.length = off + L.size → ∃ a, L.rep NoA w a (cs.drop off)
theorem OpensF.one {P : Program} {f : Field} {off : Nat} {α : Type} {L : Lay α} (h : Opens P f.type L) (ho : f.offset = off) : OpensF P [f] off L := by
 intro H enc w cs hf hl
 obtain ⟨fuel, x, hx⟩ := hf f (by simp)
 rw [ho, h.size, List.take_of_length_le (by simp; omega)] at hx
 exact h.opn hx
theorem OpensF.cons {P : Program} {f : Field} {fs : List Field} {off : Nat} {α β : Type} {L : Lay α} {M : Lay β} (h : Opens P f.type L) (ho : f.offset = off) (g : OpensF P fs (off + L.size) M) : OpensF P (f :: fs) off (Lay.pair L M) := by
 intro H enc w cs hf hl
 obtain ⟨fuel, x, hx⟩ := hf f (by simp)
 rw [ho, h.size] at hx
 obtain ⟨a, ha⟩ := h.opn hx
 obtain ⟨b, hb⟩ := g (cs := cs) (fun f' hf' => hf f' (List.mem_cons_of_mem _ hf')) (by rw [hl]; show _ = _; simp only [Lay.pair]; omega)
 refine ⟨(a, b), _, _, ?_, ha, hb⟩
 rw [← List.drop_drop, List.take_append_drop]
theorem Opens.struct {P : Program} {t : TypeId} {fs : List Field} {α : Type} {L : Lay α} (hu : P.underlying t = some (.struct fs.toArray)) (h : OpensF P fs 0 L) (hc : P.cellsOf t = L.size) (hp : 0 < L.size) : Opens P t L := by
 refine ⟨hc, hp, fun {H enc w fuel cs x} hx => ?_⟩
 obtain ⟨xs, n, _, _, hl, hxl, hf⟩ := DataW.trod_struct hu hx
 have := h (cs := cs) (enc := enc) (w := w) (fun f hf' => ?_) (by rw [hl, hc, Nat.zero_add])
 ·simpa using this
 ·obtain ⟨i, hi, rfl⟩ := List.getElem_of_mem hf'
  refine ⟨n, xs[i]'(by rw [hxl]; simpa using hi), ?_⟩
  rw [hf i _ (by simp [hi])]
  exact List.getElem?_eq_getElem _
theorem Opens.arg {P : Program} {t : TypeId} {fs : Array Field} {α : Type} {L : Lay α} (h : Opens P t L) (hu : P.underlying t = some (.struct fs)) {H : Type} {enc : TypeId × Value → H} {w : World} {r : Reach} {b0 : Nat} {v : Value} {d : DataW H} {p : List MemPlace}
  (hv : Value.okWide P w r b0 t v) (ht : DataW.Trod enc P w 0 (fun _ => true) true t v d p) : ∃ a cs, v = .agg cs ∧ L.rep NoA w a cs.toList := by
 obtain ⟨cs, rfl, _⟩ := okWide_struct hu hv
 obtain ⟨fuel, hf⟩ := ht
 obtain ⟨a, ha⟩ := h.opn hf
 exact ⟨a, cs, rfl, ha⟩
theorem Opens.argSlice {P : Program} {t e : TypeId} {α : Type} {L : Lay α} (h : Opens P e L) (hu : P.underlying t = some (.slice e)) (hc : P.cellsOf t = 1) {H : Type} {enc : TypeId × Value → H} {w : World} {r : Reach} {b0 : Nat} {v : Value} {d : DataW H} {p : List MemPlace}
  (hv : Value.okWide P w r b0 t v) (ht : DataW.Trod enc P w 0 (fun _ => true) true t v d p) : ∃ xs ao n cap, v = .slice ao n cap ∧ RdL L NoA w ao n cap xs := by
 obtain ⟨a, len, cap, rfl⟩ := okWide_slice hu hv
 obtain ⟨fuel, hf⟩ := ht
 obtain ⟨xs, ao, n, cap', e, hr⟩ := (h.slice hu hc).opn hf
 simp [Value.cells] at e
 obtain ⟨rfl, rfl, rfl⟩ := e
 exact ⟨xs, _, _, _, rfl, hr⟩
theorem RdL.old {α : Type} {L : Lay α} {w : World} {ao : Option Addr} {n cap : Nat} {xs : List α} (h : RdL L NoA w ao n cap xs) : RdL L (fun k => w.heap.size ≤ k) w ao n cap xs := h.weaken fun k h1 h2 => absurd h2 (Nat.not_lt_of_le h1)
end Go.Proofs.Yticeaegpkpjjeaa
namespace Go.Proofs.Yticeaegpkpjjeaa
set_option linter.all false
open Go.RowKit Go.ChangeShapes Go.WideShapes
structure RefD where
 h : Int
 f : Int
structure PushD where
 op : Int
 r : RefD
 n : Int
structure HeadD where
 w : List Int
structure CaseD where
 value : Int
 mask : Int
 to_ : Int
structure StateD where
 head : Int
 on : RefD
 cases_ : List CaseD
 els : Int
structure OpD where
 kind : Int
 r : RefD
 head : Int
 e : List PushD
structure ActD where
 w : List Int
 ops : List OpD
structure TabD where
 kind : Int
 keys : List RefD
 acts : List Int
 cap : Int
 def_ : Int
 args : List Int
structure NodeD where
 kind : Int
 n : Int
 e : List PushD
 yes : Int
 no : Int
structure PlanD where
 heads : List HeadD
 meta_ : List Int
 states : List StateD
 acts : List ActD
 tabs : List TabD
 nodes : List NodeD
 out : List Int
def refc (r : RefD) : List SV := [.int .i64 r.h, .int .i64 r.f]
def pushc (p : PushD) : List SV := [.int .i64 p.op, .int .i64 p.r.h, .int .i64 p.r.f, .int .u64 p.n]
def pushes (l : List PushD) : SV := .view 4 (l.map pushc)
def headc (h : HeadD) : List SV := [nums .i64 h.w]
def casec (c : CaseD) : List SV := [.int .u64 c.value, .int .u64 c.mask, .int .i64 c.to_]
def qanl (s : StateD) : List SV := [.int .i64 s.head, .int .i64 s.on.h, .int .i64 s.on.f, .view 3 (s.cases_.map casec), .int .i64 s.els]
def opc (o : OpD) : List SV := [.int .i64 o.kind, .int .i64 o.r.h, .int .i64 o.r.f, .int .i64 o.head, pushes o.e]
def actc (a : ActD) : List SV := [nums .i64 a.w, .view 5 (a.ops.map opc)]
def tabc (t : TabD) : List SV := [.int .i64 t.kind, .view 2 (t.keys.map refc), nums .i64 t.acts, .int .i64 t.cap, .int .i64 t.def_, nums .u64 t.args]
def nodec (n : NodeD) : List SV := [.int .i64 n.kind, .int .i64 n.n, pushes n.e, .int .i64 n.yes, .int .i64 n.no]
def planc (p : PlanD) : List SV := [.view 1 (p.heads.map headc), nums .i64 p.meta_, .view 5 (p.states.map qanl), .view 2 (p.acts.map actc), .view 6 (p.tabs.map tabc), .view 5 (p.nodes.map nodec), nums .i64 p.out]
end Go.Proofs.Yticeaegpkpjjeaa
namespace Go.Proofs.Yticeaegpkpjjeaa
set_option linter.all false
open Go.RowKit
def mk (f : Nat → Int) (m : Nat) : List Int := (List.range m).map f
def Bits (f : Nat → Int) : Prop := ∀ k, 0 ≤ f k ∧ f k ≤ 1
def acc (f : Nat → Int) : Nat → Int
 | 0 => 0
 | i + 1 => 2 * acc f i + f i
theorem Bits.drop {xs : List Int} (h : Bits (el xs)) (lo : Nat) : Bits (el (xs.drop lo)) := fun k => by rw [el_drop]; exact h _
theorem Bits.take {xs : List Int} (h : Bits (el xs)) (m : Nat) : Bits (el (xs.take m)) := fun k => by
 rw [el_take]; split
 ·exact h k
 ·omega
theorem Bits.append {xs ys : List Int} (h : Bits (el xs)) (g : Bits (el ys)) : Bits (el (xs ++ ys)) := fun k => by
 rw [qan2]; split
 ·exact h k
 ·exact g _
theorem Bits.fit {xs : List Int} (h : Bits (el xs)) : AllFit .u8 xs := by
 intro x hx
 obtain ⟨i, hi, rfl⟩ := List.mem_iff_getElem.1 hx
 have := h i
 rw [qar5 _ _ hi] at this
 exact Fits.of_u8 (by omega) (by omega)
end Go.Proofs.Yticeaegpkpjjeaa
namespace Go.Proofs.Yticeaegpkpjjeaa
set_option linter.all false
open Go.RowKit
def onesN (k : Nat) : Int := 2 ^ k - 1
def ones (w : Int) : Int := if 1 ≤ w ∧ w ≤ 64 then onesN w.toNat else 0
end Go.Proofs.Yticeaegpkpjjeaa
namespace Go.Proofs.Yticeaegpkpjjeaa
set_option linter.all false
open Go.RowKit
theorem snums_s (xs ys : List Int) (hx : xs.length ≤ 1000000) : SCalls Try.prog 18 [nums .u64 xs, nums .u64 ys] [] 0 (.bool (decide (xs = ys))) [] := by
 refine qabc (N := 26) Try.func18 rfl rfl (by kernel_rfl) qah3 (by simp) ⟨rfl, rfl, trivial⟩ trivial ?_
 rintro X hP hN hm
 unfold c_snums nums
 refine qaa7 (qaao ?_)
 simp -implicitDefEqProofs [qags, qaak, qaaj, qaab, qaaf, qaac, qaae, qaah, qaai, qaaa, qaap, SOp.run, SX.ev, putd, puts, argS, upds, SOp.touch, SSt.keep, SSt.skip, gets, geth, puth, delh, idOf, SV.cells?, setL, qabr, qabs, sbin, eq0, eq1, eqL, qabn, qaa5, qaa6, qaav, qaal, qaad, qaam, qaaq, qaag]
 refine qaa7 (qaa7 (qaao ?_))
 simp -implicitDefEqProofs [qagr, qaak, qaaj, qaab, qaaf, qaac, qaae, qaah, qaai, qaaa, qaap, SOp.run, SX.ev, putd, puts, argS, upds, SOp.touch, SSt.keep, SSt.skip, gets, geth, puth, delh, idOf, SV.cells?, setL, qabr, qabs, sbin, eq0, eq1, eqL, qabn, qaa5, qaa6, qaav, qaal, qaad, qaam, qaaq, qaag]
 refine qaau rfl (fun h => ?_) (fun h => ?_)
 ·refine qaa7 (qaao ?_)
  simp -implicitDefEqProofs [qagq, qaak, qaaj, qaab, qaaf, qaac, qaae, qaah, qaai, qaaa, qaap, SOp.run, SX.ev, putd, puts, argS, upds, SOp.touch, SSt.keep, SSt.skip, gets, geth, puth, delh, idOf, SV.cells?, setL, qabr, qabs, sbin, eq0, eq1, eqL, qabn, qaa5, qaa6, qaav, qaal, qaad, qaam, qaaq, qaag]
  refine qaba (qacj (s' := ⟨[(4, .bool (decide (xs = ys)))], [], 0⟩) (qab8 [] hm rfl (Nat.le_refl _) ?_ trivial) rfl trivial (by simp))
  have hne : xs ≠ ys := fun e => by subst e; simp at h
  simp -implicitDefEqProofs [qaan, FrzOk, qaa2, qaax, qaa0, qaa1, qaar, qaaw, qaa8, qaay, qaat, qaa3, qaas, frzS, frzH, frz, frz1, frz0, SlotsM, ObjsM, ObjM, rn, ren, ren1, ren0, gets, geth, qabj, qab7, qab6, qabi, qaa9, qab3, qab5, CoL, qaa4, hne]
 ·have hl : xs.length = ys.length := by simp at h; omega
  refine qaaz ?_
  simp -implicitDefEqProofs [qaak, qaaj, qaab, qaaf, qaac, qaae, qaah, qaai, qaaa, qaap, SOp.run, SX.ev, putd, puts, argS, upds, SOp.touch, SSt.keep, SSt.skip, gets, geth, puth, delh, idOf, SV.cells?, setL, qabr, qabs, sbin, eq0, eq1, eqL, qabn, qaa5, qaa6, qaav, qaal, qaad, qaam, qaaq, qaag]
  refine qaa7 (qaa7 (qaao ?_))
  simp -implicitDefEqProofs [qagp, qaak, qaaj, qaab, qaaf, qaac, qaae, qaah, qaai, qaaa, qaap, SOp.run, SX.ev, putd, puts, argS, upds, SOp.touch, SSt.keep, SSt.skip, gets, geth, puth, delh, idOf, SV.cells?, setL, qabr, qabs, sbin, eq0, eq1, eqL, qabn, qaa5, qaa6, qaav, qaal, qaad, qaam, qaaq, qaag]
  refine qabf (qafh (fun s n => ∃ i : Nat, s = ⟨[(0, nums .u64 xs), (1, nums .u64 ys), (5, .int .i64 i)], [], 0⟩ ∧ i ≤ xs.length ∧ xs.take i = ys.take i ∧ n = xs.length - i) (qab8 [] hm rfl (Nat.le_refl _) (by simp -implicitDefEqProofs [qaan, FrzOk, qaa2, qaax, qaa0, qaa1, qaar, qaaw, qaa8, qaay, qaat, qaa3, qaas, frzS, frzH, frz, frz1, frz0, SlotsM, ObjsM, ObjM, rn, ren, ren1, ren0, gets, geth, qabj, qab7, qab6, qabi, qaa9, qab3, qab5, CoL, qaa4, nums]) (by trivial)) ⟨0, rfl, by omega, rfl, rfl⟩ ?_)
  rintro s n ⟨i, rfl, h1, h2, rfl⟩
  unfold qagt
  refine qaa7 (qaa7 (qaao ?_))
  simp -implicitDefEqProofs [qago, qaak, qaaj, qaab, qaaf, qaac, qaae, qaah, qaai, qaaa, qaap, SOp.run, SX.ev, putd, puts, argS, upds, SOp.touch, SSt.keep, SSt.skip, gets, geth, puth, delh, idOf, SV.cells?, setL, qabr, qabs, sbin, eq0, eq1, eqL, qabn, qaa5, qaa6, qaav, qaal, qaad, qaam, qaaq, qaag, nums]
  refine qaau rfl (fun h3 => qaaz ?_) (fun h3 => qab9 ?_)
  ·have hi : i < xs.length := by simpa using h3
   simp -implicitDefEqProofs [qaak, qaaj, qaab, qaaf, qaac, qaae, qaah, qaai, qaaa, qaap, SOp.run, SX.ev, putd, puts, argS, upds, SOp.touch, SSt.keep, SSt.skip, gets, geth, puth, delh, idOf, SV.cells?, setL, qabr, qabs, sbin, eq0, eq1, eqL, qabn, qaa5, qaa6, qaav, qaal, qaad, qaam, qaaq, qaag]
   refine qaa7 (qabf (qaa7 (qacl (by rw [hP]; exact mixed) ?_)))
   have hi2 : i < ys.length := by omega
   simp -implicitDefEqProofs [qagn, qaak, qaaj, qaab, qaaf, qaac, qaae, qaah, qaai, qaaa, qaap, SOp.run, SX.ev, putd, puts, argS, upds, SOp.touch, SSt.keep, SSt.skip, gets, geth, puth, delh, idOf, SV.cells?, setL, qabr, qabs, sbin, eq0, eq1, eqL, qabn, qaa5, qaa6, qaav, qaal, qaad, qaam, qaaq, qaag, hi, hi2]
   refine ⟨rfl, qaau rfl (fun h4 => ?_) (fun h4 => ?_)⟩
   ·refine qaa7 (qaao ?_)
    simp -implicitDefEqProofs [qagm, qaak, qaaj, qaab, qaaf, qaac, qaae, qaah, qaai, qaaa, qaap, SOp.run, SX.ev, putd, puts, argS, upds, SOp.touch, SSt.keep, SSt.skip, gets, geth, puth, delh, idOf, SV.cells?, setL, qabr, qabs, sbin, eq0, eq1, eqL, qabn, qaa5, qaa6, qaav, qaal, qaad, qaam, qaaq, qaag]
    refine qaba ?_
    refine (qacj (s' := ⟨[(4, .bool (decide (xs = ys)))], [], 0⟩) (qab8 [] hm rfl (Nat.le_refl _) ?_ trivial) rfl trivial (by simp))
    have hne : xs ≠ ys := fun e => by subst e; simp at h4
    simp -implicitDefEqProofs [qaan, FrzOk, qaa2, qaax, qaa0, qaa1, qaar, qaaw, qaa8, qaay, qaat, qaa3, qaas, frzS, frzH, frz, frz1, frz0, SlotsM, ObjsM, ObjM, rn, ren, ren1, ren0, gets, geth, qabj, qab7, qab6, qabi, qaa9, qab3, qab5, CoL, qaa4, hne]
   ·refine qaaz ?_
    simp -implicitDefEqProofs [qaak, qaaj, qaab, qaaf, qaac, qaae, qaah, qaai, qaaa, qaap, SOp.run, SX.ev, putd, puts, argS, upds, SOp.touch, SSt.keep, SSt.skip, gets, geth, puth, delh, idOf, SV.cells?, setL, qabr, qabs, sbin, eq0, eq1, eqL, qabn, qaa5, qaa6, qaav, qaal, qaad, qaam, qaaq, qaag]
    refine qaao ?_
    simp -implicitDefEqProofs [qagl, qaak, qaaj, qaab, qaaf, qaac, qaae, qaah, qaai, qaaa, qaap, SOp.run, SX.ev, putd, puts, argS, upds, SOp.touch, SSt.keep, SSt.skip, gets, geth, puth, delh, idOf, SV.cells?, setL, qabr, qabs, sbin, eq0, eq1, eqL, qabn, qaa5, qaa6, qaav, qaal, qaad, qaam, qaaq, qaag]
    rw [qacb (by omega) (by omega)]
    have h5 : xs[i] = ys[i] := by simpa using h4
    refine qaeo (qab8 [] hm rfl (Nat.le_refl _) (by simp -implicitDefEqProofs [qaan, FrzOk, qaa2, qaax, qaa0, qaa1, qaar, qaaw, qaa8, qaay, qaat, qaa3, qaas, frzS, frzH, frz, frz1, frz0, SlotsM, ObjsM, ObjM, rn, ren, ren1, ren0, gets, geth, qabj, qab7, qab6, qabi, qaa9, qab3, qab5, CoL, qaa4, nums]) (by trivial)) ⟨i + 1, rfl, by omega, ?_, rfl⟩ (by omega)
    rw [List.take_succ_eq_append_getElem hi, List.take_succ_eq_append_getElem hi2, h2, h5]
  ·have hi : i = xs.length := by have : ¬ i < xs.length := by simpa using h3
                                 omega
   have he : xs = ys := by
    have e1 := h2
    rw [hi, List.take_length, hl, List.take_length] at e1; exact e1
   simp -implicitDefEqProofs [qaak, qaaj, qaab, qaaf, qaac, qaae, qaah, qaai, qaaa, qaap, SOp.run, SX.ev, putd, puts, argS, upds, SOp.touch, SSt.keep, SSt.skip, gets, geth, puth, delh, idOf, SV.cells?, setL, qabr, qabs, sbin, eq0, eq1, eqL, qabn, qaa5, qaa6, qaav, qaal, qaad, qaam, qaaq, qaag]
   refine qaa7 (qaao ?_)
   simp -implicitDefEqProofs [qagk, qaak, qaaj, qaab, qaaf, qaac, qaae, qaah, qaai, qaaa, qaap, SOp.run, SX.ev, putd, puts, argS, upds, SOp.touch, SSt.keep, SSt.skip, gets, geth, puth, delh, idOf, SV.cells?, setL, qabr, qabs, sbin, eq0, eq1, eqL, qabn, qaa5, qaa6, qaav, qaal, qaad, qaam, qaaq, qaag]
   refine qaba ?_
   refine (qacj (s' := ⟨[(4, .bool (decide (xs = ys)))], [], 0⟩) (qab8 [] hm rfl (Nat.le_refl _) ?_ trivial) rfl trivial (by simp))
   simp -implicitDefEqProofs [qaan, FrzOk, qaa2, qaax, qaa0, qaa1, qaar, qaaw, qaa8, qaay, qaat, qaa3, qaas, frzS, frzH, frz, frz1, frz0, SlotsM, ObjsM, ObjM, rn, ren, ren1, ren0, gets, geth, qabj, qab7, qab6, qabi, qaa9, qab3, qab5, CoL, qaa4, he]
end Go.Proofs.Yticeaegpkpjjeaa
namespace Go.Proofs.Yticeaegpkpjjeaa
set_option linter.all false
open Go.RowKit
def qahl (a b : Entry) : Bool := decide (a.keys = b.keys) && (decide (a.masks = b.masks) && (a.len == b.len && (a.prio == b.prio && (a.act == b.act && decide (a.args = b.args)))))
theorem qadr (xs ys : List Int) (hx : xs.length ≤ 1000000) (q : Nat) : SCalls Try.prog 18 [.view 1 (xs.map fun x => [.int .u64 x]), .view 1 (ys.map fun x => [.int .u64 x])] [] q (.bool (decide (xs = ys))) [] :=
 qab2 (snums_s xs ys hx) (fun σ => rfl) (fun σ => rfl) rfl q
theorem sent_s (a b : Entry) (h : Small a) : SCalls Try.prog 41 [.agg (qaby a), .agg (qaby b)] [] 0 (.bool (qahl a b)) [] := by
 obtain ⟨h1, h2, h3⟩ := h
 refine qabc (N := 45) Try.func41 rfl rfl (by kernel_rfl) qajw (by simp) ⟨rfl, rfl, trivial⟩ trivial ?_
 rintro X hP hN hm
 have fin : ∀ (r : Bool) hp nx, qahl a b = r → SWp X .ret (QFun X (Try.f41).results.toList 0 (.bool (qahl a b)) []) ⟨[(4, .bool r)], hp, nx⟩ := fun r hp nx hr => by
  rw [hr]
  exact qaba (qacj (s' := ⟨[(4, .bool r)], [], 0⟩) (qab8 [] hm rfl (Nat.le_refl _) (by simp -implicitDefEqProofs [qaan, FrzOk, qaa2, qaax, qaa0, qaa1, qaar, qaaw, qaa8, qaay, qaat, qaa3, qaas, frzS, frzH, frz, frz1, frz0, SlotsM, ObjsM, ObjM, rn, ren, ren1, ren0, gets, geth, qabj, qab7, qab6, qabi, qaa9, qab3, qab5, CoL, qaa4]) trivial) rfl trivial (by simp))
 unfold c_sent
 refine qaa7 (qaao ?_)
 simp -implicitDefEqProofs [qai7, qaak, qaaj, qaab, qaaf, qaac, qaae, qaah, qaai, qaaa, qaap, SOp.run, SX.ev, putd, puts, argS, upds, SOp.touch, SSt.keep, SSt.skip, gets, geth, puth, delh, idOf, SV.cells?, setL, qabr, qabs, sbin, eq0, eq1, eqL, qabn, qaa5, qaa6, qaav, qaal, qaad, qaam, qaaq, qaag, qaby, nums]
 refine qaa7 (qaao ?_)
 rw [hP]
 simp -implicitDefEqProofs [qai6, qaak, qaaj, qaab, qaaf, qaac, qaae, qaah, qaai, qaaa, qaap, SOp.run, SX.ev, putd, puts, argS, upds, SOp.touch, SSt.keep, SSt.skip, gets, geth, puth, delh, idOf, SV.cells?, setL, qabr, qabs, sbin, eq0, eq1, eqL, qabn, qaa5, qaa6, qaav, qaal, qaad, qaam, qaaq, qaag]
 refine qaci (qadr _ _ h1 _) ?_
 cases k1 : decide (a.keys = b.keys)
 ·simp -implicitDefEqProofs [qaak, qaaj, qaab, qaaf, qaac, qaae, qaah, qaai, qaaa, qaap, SOp.run, SX.ev, putd, puts, argS, upds, SOp.touch, SSt.keep, SSt.skip, gets, geth, puth, delh, idOf, SV.cells?, setL, qabr, qabs, sbin, eq0, eq1, eqL, qabn, qaa5, qaa6, qaav, qaal, qaad, qaam, qaaq, qaag, k1]
  exact fin _ _ _ (by simp only [qahl, k1, Bool.false_and])
 simp -implicitDefEqProofs [qaak, qaaj, qaab, qaaf, qaac, qaae, qaah, qaai, qaaa, qaap, SOp.run, SX.ev, putd, puts, argS, upds, SOp.touch, SSt.keep, SSt.skip, gets, geth, puth, delh, idOf, SV.cells?, setL, qabr, qabs, sbin, eq0, eq1, eqL, qabn, qaa5, qaa6, qaav, qaal, qaad, qaam, qaaq, qaag, k1]
 refine qaci (qadr _ _ h2 _) ?_
 cases k2 : decide (a.masks = b.masks)
 ·simp -implicitDefEqProofs [qaak, qaaj, qaab, qaaf, qaac, qaae, qaah, qaai, qaaa, qaap, SOp.run, SX.ev, putd, puts, argS, upds, SOp.touch, SSt.keep, SSt.skip, gets, geth, puth, delh, idOf, SV.cells?, setL, qabr, qabs, sbin, eq0, eq1, eqL, qabn, qaa5, qaa6, qaav, qaal, qaad, qaam, qaaq, qaag, k2]
  exact fin _ _ _ (by simp only [qahl, k1, k2, Bool.false_and, Bool.true_and])
 simp -implicitDefEqProofs [qaak, qaaj, qaab, qaaf, qaac, qaae, qaah, qaai, qaaa, qaap, SOp.run, SX.ev, putd, puts, argS, upds, SOp.touch, SSt.keep, SSt.skip, gets, geth, puth, delh, idOf, SV.cells?, setL, qabr, qabs, sbin, eq0, eq1, eqL, qabn, qaa5, qaa6, qaav, qaal, qaad, qaam, qaaq, qaag, k2]
 cases k3 : a.len == b.len
 ·simp -implicitDefEqProofs [qaak, qaaj, qaab, qaaf, qaac, qaae, qaah, qaai, qaaa, qaap, SOp.run, SX.ev, putd, puts, argS, upds, SOp.touch, SSt.keep, SSt.skip, gets, geth, puth, delh, idOf, SV.cells?, setL, qabr, qabs, sbin, eq0, eq1, eqL, qabn, qaa5, qaa6, qaav, qaal, qaad, qaam, qaaq, qaag]
  exact fin _ _ _ (by simp only [qahl, k1, k2, k3, Bool.false_and, Bool.true_and])
 simp -implicitDefEqProofs [qaak, qaaj, qaab, qaaf, qaac, qaae, qaah, qaai, qaaa, qaap, SOp.run, SX.ev, putd, puts, argS, upds, SOp.touch, SSt.keep, SSt.skip, gets, geth, puth, delh, idOf, SV.cells?, setL, qabr, qabs, sbin, eq0, eq1, eqL, qabn, qaa5, qaa6, qaav, qaal, qaad, qaam, qaaq, qaag]
 cases k4 : a.prio == b.prio
 ·simp -implicitDefEqProofs [qaak, qaaj, qaab, qaaf, qaac, qaae, qaah, qaai, qaaa, qaap, SOp.run, SX.ev, putd, puts, argS, upds, SOp.touch, SSt.keep, SSt.skip, gets, geth, puth, delh, idOf, SV.cells?, setL, qabr, qabs, sbin, eq0, eq1, eqL, qabn, qaa5, qaa6, qaav, qaal, qaad, qaam, qaaq, qaag]
  exact fin _ _ _ (by simp only [qahl, k1, k2, k3, k4, Bool.false_and, Bool.true_and])
 simp -implicitDefEqProofs [qaak, qaaj, qaab, qaaf, qaac, qaae, qaah, qaai, qaaa, qaap, SOp.run, SX.ev, putd, puts, argS, upds, SOp.touch, SSt.keep, SSt.skip, gets, geth, puth, delh, idOf, SV.cells?, setL, qabr, qabs, sbin, eq0, eq1, eqL, qabn, qaa5, qaa6, qaav, qaal, qaad, qaam, qaaq, qaag]
 cases k5 : a.act == b.act
 ·simp -implicitDefEqProofs [qaak, qaaj, qaab, qaaf, qaac, qaae, qaah, qaai, qaaa, qaap, SOp.run, SX.ev, putd, puts, argS, upds, SOp.touch, SSt.keep, SSt.skip, gets, geth, puth, delh, idOf, SV.cells?, setL, qabr, qabs, sbin, eq0, eq1, eqL, qabn, qaa5, qaa6, qaav, qaal, qaad, qaam, qaaq, qaag]
  exact fin _ _ _ (by simp only [qahl, k1, k2, k3, k4, k5, Bool.false_and, Bool.true_and])
 simp -implicitDefEqProofs [qaak, qaaj, qaab, qaaf, qaac, qaae, qaah, qaai, qaaa, qaap, SOp.run, SX.ev, putd, puts, argS, upds, SOp.touch, SSt.keep, SSt.skip, gets, geth, puth, delh, idOf, SV.cells?, setL, qabr, qabs, sbin, eq0, eq1, eqL, qabn, qaa5, qaa6, qaav, qaal, qaad, qaam, qaaq, qaag]
 refine qaci (qadr _ _ h3 _) ?_
 simp -implicitDefEqProofs [qaak, qaaj, qaab, qaaf, qaac, qaae, qaah, qaai, qaaa, qaap, SOp.run, SX.ev, putd, puts, argS, upds, SOp.touch, SSt.keep, SSt.skip, gets, geth, puth, delh, idOf, SV.cells?, setL, qabr, qabs, sbin, eq0, eq1, eqL, qabn, qaa5, qaa6, qaav, qaal, qaad, qaam, qaaq, qaag]
 exact fin _ _ _ (by simp only [qahl, k1, k2, k3, k4, k5, Bool.true_and])
end Go.Proofs.Yticeaegpkpjjeaa
namespace Go.Proofs.Yticeaegpkpjjeaa
set_option linter.all false
open Go.RowKit Go.ChangeShapes Go.WideShapes
structure TStep where
 d : Int
 e : Entry
instance : Inhabited TStep := ⟨⟨0, default⟩⟩
def qahh : Lay TStep := Lay.map (fun s => (s.d, s.e)) (Lay.pair (Lay.int .i64) qaev)
theorem qanv : Opens Try.prog 3 (Lay.int .i64) := Opens.int Try.underlying3 (by kernel_rfl)
theorem opensU : Opens Try.prog 39 (Lay.int .u64) := Opens.int Try.underlying39 (by kernel_rfl)
theorem qaqy : Opens Try.prog 48 (Lay.slice (Lay.int .u64)) := opensU.slice Try.underlying48 (by kernel_rfl)
theorem qaji : Opens Try.prog 65 qaev := by
 have h : Opens Try.prog 65 (Lay.pair (Lay.slice (Lay.int .u64)) (Lay.pair (Lay.slice (Lay.int .u64)) (Lay.pair (Lay.int .i64) (Lay.pair (Lay.int .i64) (Lay.pair (Lay.int .i64) (Lay.slice (Lay.int .u64))))))) :=
  Opens.struct Try.underlying65 (OpensF.cons qaqy rfl (OpensF.cons qaqy rfl (OpensF.cons qanv rfl (OpensF.cons qanv rfl (OpensF.cons qanv rfl (OpensF.one qaqy rfl)))))) (by kernel_rfl) (by decide)
 refine h.weak rfl ?_
 rintro w ⟨a, b, c, d, e, f⟩ cs hr
 exact ⟨⟨a, b, c, d, e, f⟩, hr⟩
theorem opens_tstep : Opens Try.prog 77 qahh := by
 have h : Opens Try.prog 77 (Lay.pair (Lay.int .i64) qaev) :=
  Opens.struct Try.underlying77 (OpensF.cons qanv rfl (OpensF.one qaji rfl)) (by kernel_rfl) (by decide)
 refine h.weak rfl ?_
 rintro w ⟨a, e⟩ cs hr
 exact ⟨⟨a, e⟩, hr⟩
end Go.Proofs.Yticeaegpkpjjeaa
namespace Go.Proofs.Yticeaegpkpjjeaa
set_option linter.all false
open Go.RowKit
def ents (xs : List Entry) : SV := .view 6 (xs.map qaby)
def qaf1 (xs ys : List Entry) : Bool := decide (xs.length = ys.length) && (List.range xs.length).all fun i => match xs[i]?, ys[i]? with
 | some a, some b => qahl a b
 | _, _ => true
theorem qaod (a b : Entry) (h : Small a) (q : Nat) : SCalls Try.prog 41 [.agg (qaby a), .agg (qaby b)] [] q (.bool (qahl a b)) [] :=
 qab2 (sent_s a b h) (fun σ => rfl) (fun σ => rfl) rfl q
theorem sents_s (xs ys : List Entry) (hx : xs.length ≤ 1000000) (hs : ∀ e ∈ xs, Small e) : SCalls Try.prog 33 [ents xs, ents ys] [] 0 (.bool (qaf1 xs ys)) [] := by
 refine qabc (N := 27) Try.func33 rfl rfl (by kernel_rfl) qah4 (by simp) ⟨rfl, rfl, trivial⟩ trivial ?_
 rintro X hP hN hm
 have fin : ∀ (r : Bool) hp nx, qaf1 xs ys = r → QFun X (Try.f33).results.toList 0 (.bool (qaf1 xs ys)) [] .ret ⟨[(4, .bool r)], hp, nx⟩ := fun r hp nx hr => by
  rw [hr]
  exact (qacj (s' := ⟨[(4, .bool r)], [], 0⟩) (qab8 [] hm rfl (Nat.le_refl _) (by simp -implicitDefEqProofs [qaan, FrzOk, qaa2, qaax, qaa0, qaa1, qaar, qaaw, qaa8, qaay, qaat, qaa3, qaas, frzS, frzH, frz, frz1, frz0, SlotsM, ObjsM, ObjM, rn, ren, ren1, ren0, gets, geth, qabj, qab7, qab6, qabi, qaa9, qab3, qab5, CoL, qaa4]) trivial) rfl trivial (by simp))
 unfold c_sents ents
 refine qaa7 (qaao ?_)
 simp -implicitDefEqProofs [qag2, qaak, qaaj, qaab, qaaf, qaac, qaae, qaah, qaai, qaaa, qaap, SOp.run, SX.ev, putd, puts, argS, upds, SOp.touch, SSt.keep, SSt.skip, gets, geth, puth, delh, idOf, SV.cells?, setL, qabr, qabs, sbin, eq0, eq1, eqL, qabn, qaa5, qaa6, qaav, qaal, qaad, qaam, qaaq, qaag]
 refine qaa7 (qaa7 (qaao ?_))
 simp -implicitDefEqProofs [qag1, qaak, qaaj, qaab, qaaf, qaac, qaae, qaah, qaai, qaaa, qaap, SOp.run, SX.ev, putd, puts, argS, upds, SOp.touch, SSt.keep, SSt.skip, gets, geth, puth, delh, idOf, SV.cells?, setL, qabr, qabs, sbin, eq0, eq1, eqL, qabn, qaa5, qaa6, qaav, qaal, qaad, qaam, qaaq, qaag]
 refine qaau rfl (fun h => ?_) (fun h => ?_)
 ·refine qaa7 (qaao ?_)
  simp -implicitDefEqProofs [qag0, qaak, qaaj, qaab, qaaf, qaac, qaae, qaah, qaai, qaaa, qaap, SOp.run, SX.ev, putd, puts, argS, upds, SOp.touch, SSt.keep, SSt.skip, gets, geth, puth, delh, idOf, SV.cells?, setL, qabr, qabs, sbin, eq0, eq1, eqL, qabn, qaa5, qaa6, qaav, qaal, qaad, qaam, qaaq, qaag]
  refine qaba (fin _ _ _ ?_)
  have : ¬ (xs.length = ys.length) := by simp at h; omega
  simp [qaf1, this]
 ·have hl : xs.length = ys.length := by simp at h; omega
  refine qaaz ?_
  simp -implicitDefEqProofs [qaak, qaaj, qaab, qaaf, qaac, qaae, qaah, qaai, qaaa, qaap, SOp.run, SX.ev, putd, puts, argS, upds, SOp.touch, SSt.keep, SSt.skip, gets, geth, puth, delh, idOf, SV.cells?, setL, qabr, qabs, sbin, eq0, eq1, eqL, qabn, qaa5, qaa6, qaav, qaal, qaad, qaam, qaaq, qaag]
  refine qaa7 (qaa7 (qaao ?_))
  simp -implicitDefEqProofs [qagz, qaak, qaaj, qaab, qaaf, qaac, qaae, qaah, qaai, qaaa, qaap, SOp.run, SX.ev, putd, puts, argS, upds, SOp.touch, SSt.keep, SSt.skip, gets, geth, puth, delh, idOf, SV.cells?, setL, qabr, qabs, sbin, eq0, eq1, eqL, qabn, qaa5, qaa6, qaav, qaal, qaad, qaam, qaaq, qaag]
  refine qabf (qafh (fun s n => ∃ i : Nat, s = ⟨[(0, ents xs), (1, ents ys), (5, .int .i64 i)], [], 0⟩ ∧ i ≤ xs.length ∧ (∀ j, j < i → match xs[j]?, ys[j]? with | some a, some b => qahl a b = true | _, _ => True) ∧ n = xs.length - i) (qab8 [] hm rfl (Nat.le_refl _) (by simp -implicitDefEqProofs [qaan, FrzOk, qaa2, qaax, qaa0, qaa1, qaar, qaaw, qaa8, qaay, qaat, qaa3, qaas, frzS, frzH, frz, frz1, frz0, SlotsM, ObjsM, ObjM, rn, ren, ren1, ren0, gets, geth, qabj, qab7, qab6, qabi, qaa9, qab3, qab5, CoL, qaa4, ents]) (by trivial)) ⟨0, rfl, by omega, by intro j hj; omega, rfl⟩ ?_)
  rintro s n ⟨i, rfl, h1, h2, rfl⟩
  unfold qag3
  refine qaa7 (qaa7 (qaao ?_))
  simp -implicitDefEqProofs [qagy, qaak, qaaj, qaab, qaaf, qaac, qaae, qaah, qaai, qaaa, qaap, SOp.run, SX.ev, putd, puts, argS, upds, SOp.touch, SSt.keep, SSt.skip, gets, geth, puth, delh, idOf, SV.cells?, setL, qabr, qabs, sbin, eq0, eq1, eqL, qabn, qaa5, qaa6, qaav, qaal, qaad, qaam, qaaq, qaag, ents]
  refine qaau rfl (fun h3 => qaaz ?_) (fun h3 => qab9 ?_)
  ·have hi : i < xs.length := by simpa using h3
   simp -implicitDefEqProofs [qaak, qaaj, qaab, qaaf, qaac, qaae, qaah, qaai, qaaa, qaap, SOp.run, SX.ev, putd, puts, argS, upds, SOp.touch, SSt.keep, SSt.skip, gets, geth, puth, delh, idOf, SV.cells?, setL, qabr, qabs, sbin, eq0, eq1, eqL, qabn, qaa5, qaa6, qaav, qaal, qaad, qaam, qaaq, qaag]
   refine qaa7 (qabf (qaa7 (qacl (by rw [hP]; exact mixed) ?_)))
   have hi2 : i < ys.length := by omega
   rw [hP]
   simp -implicitDefEqProofs [qagx, qaak, qaaj, qaab, qaaf, qaac, qaae, qaah, qaai, qaaa, qaap, SOp.run, SX.ev, putd, puts, argS, upds, SOp.touch, SSt.keep, SSt.skip, gets, geth, puth, delh, idOf, SV.cells?, setL, qabr, qabs, sbin, eq0, eq1, eqL, qabn, qaa5, qaa6, qaav, qaal, qaad, qaam, qaaq, qaag, hi, hi2, show ∀ e, (qaby e).length = 6 from fun _ => rfl, show ∀ e, (qaby e).take 6 = qaby e from fun _ => rfl]
   refine qaci (qaod _ _ (hs _ (List.getElem_mem hi)) _) ?_
   simp -implicitDefEqProofs [qaak, qaaj, qaab, qaaf, qaac, qaae, qaah, qaai, qaaa, qaap, SOp.run, SX.ev, putd, puts, argS, upds, SOp.touch, SSt.keep, SSt.skip, gets, geth, puth, delh, idOf, SV.cells?, setL, qabr, qabs, sbin, eq0, eq1, eqL, qabn, qaa5, qaa6, qaav, qaal, qaad, qaam, qaaq, qaag]
   refine ⟨rfl, qaau rfl (fun h4 => ?_) (fun h4 => ?_)⟩
   ·refine qaa7 (qaao ?_)
    simp -implicitDefEqProofs [qagw, qaak, qaaj, qaab, qaaf, qaac, qaae, qaah, qaai, qaaa, qaap, SOp.run, SX.ev, putd, puts, argS, upds, SOp.touch, SSt.keep, SSt.skip, gets, geth, puth, delh, idOf, SV.cells?, setL, qabr, qabs, sbin, eq0, eq1, eqL, qabn, qaa5, qaa6, qaav, qaal, qaad, qaam, qaaq, qaag]
    refine qaba (fin _ _ _ ?_)
    have h5 : qahl xs[i] ys[i] = false := by simpa using h4
    simp only [qaf1, Bool.and_eq_false_iff]
    refine .inr (List.all_eq_false.2 ⟨i, List.mem_range.2 hi, ?_⟩)
    simp [hi, hi2, h5]
   ·refine qaaz ?_
    simp -implicitDefEqProofs [qaak, qaaj, qaab, qaaf, qaac, qaae, qaah, qaai, qaaa, qaap, SOp.run, SX.ev, putd, puts, argS, upds, SOp.touch, SSt.keep, SSt.skip, gets, geth, puth, delh, idOf, SV.cells?, setL, qabr, qabs, sbin, eq0, eq1, eqL, qabn, qaa5, qaa6, qaav, qaal, qaad, qaam, qaaq, qaag]
    refine qaao ?_
    simp -implicitDefEqProofs [qagv, qaak, qaaj, qaab, qaaf, qaac, qaae, qaah, qaai, qaaa, qaap, SOp.run, SX.ev, putd, puts, argS, upds, SOp.touch, SSt.keep, SSt.skip, gets, geth, puth, delh, idOf, SV.cells?, setL, qabr, qabs, sbin, eq0, eq1, eqL, qabn, qaa5, qaa6, qaav, qaal, qaad, qaam, qaaq, qaag]
    rw [qacb (by omega) (by omega)]
    have h5 : qahl xs[i] ys[i] = true := by simpa using h4
    refine qaeo (qab8 [] hm rfl (Nat.le_refl _) (by simp -implicitDefEqProofs [qaan, FrzOk, qaa2, qaax, qaa0, qaa1, qaar, qaaw, qaa8, qaay, qaat, qaa3, qaas, frzS, frzH, frz, frz1, frz0, SlotsM, ObjsM, ObjM, rn, ren, ren1, ren0, gets, geth, qabj, qab7, qab6, qabi, qaa9, qab3, qab5, CoL, qaa4, ents]) (by trivial)) ⟨i + 1, rfl, by omega, ?_, rfl⟩ (by omega)
    intro j hj
    rcases Nat.lt_or_ge j i with e | e
    ·exact h2 j e
    ·obtain rfl : j = i := by omega
     simp [hi, hi2, h5]
  ·have hi : i = xs.length := by have : ¬ i < xs.length := by simpa using h3
                                 omega
   subst hi
   simp -implicitDefEqProofs [qaak, qaaj, qaab, qaaf, qaac, qaae, qaah, qaai, qaaa, qaap, SOp.run, SX.ev, putd, puts, argS, upds, SOp.touch, SSt.keep, SSt.skip, gets, geth, puth, delh, idOf, SV.cells?, setL, qabr, qabs, sbin, eq0, eq1, eqL, qabn, qaa5, qaa6, qaav, qaal, qaad, qaam, qaaq, qaag]
   refine qaa7 (qaao ?_)
   simp -implicitDefEqProofs [qagu, qaak, qaaj, qaab, qaaf, qaac, qaae, qaah, qaai, qaaa, qaap, SOp.run, SX.ev, putd, puts, argS, upds, SOp.touch, SSt.keep, SSt.skip, gets, geth, puth, delh, idOf, SV.cells?, setL, qabr, qabs, sbin, eq0, eq1, eqL, qabn, qaa5, qaa6, qaav, qaal, qaad, qaam, qaaq, qaag]
   refine qaba (fin _ _ _ ?_)
   simp only [qaf1, Bool.and_eq_true, decide_eq_true_eq]
   refine ⟨hl, List.all_eq_true.2 fun j hj => ?_⟩
   have := h2 j (List.mem_range.1 hj)
   revert this
   cases xs[j]? <;> cases ys[j]? <;> simp
def qae0 (a : Int) (xs : List Int) : List SV := [.int .i64 a, nums .u64 xs]
theorem shit_s (a b : Int) (xs ys : List Int) (hx : xs.length ≤ 1000000) : SCalls Try.prog 32 [.agg (qae0 a xs), .agg (qae0 b ys)] [] 0 (.bool (a == b && decide (xs = ys))) [] := by
 refine qabc (N := 17) Try.func32 rfl rfl (by kernel_rfl) qajv (by simp) ⟨rfl, rfl, trivial⟩ trivial ?_
 rintro X hP hN hm
 generalize hr : (a == b && decide (xs = ys)) = r
 have fin : ∀ (r' : Bool) hp nx, r' = r → QFun X (Try.f32).results.toList 0 (.bool r) [] .ret ⟨[(4, .bool r')], hp, nx⟩ := fun r' hp nx hr => by
  rw [hr]
  exact (qacj (s' := ⟨[(4, .bool r)], [], 0⟩) (qab8 [] hm rfl (Nat.le_refl _) (by simp -implicitDefEqProofs [qaan, FrzOk, qaa2, qaax, qaa0, qaa1, qaar, qaaw, qaa8, qaay, qaat, qaa3, qaas, frzS, frzH, frz, frz1, frz0, SlotsM, ObjsM, ObjM, rn, ren, ren1, ren0, gets, geth, qabj, qab7, qab6, qabi, qaa9, qab3, qab5, CoL, qaa4]) trivial) rfl trivial (by simp))
 unfold c_shit
 refine qaa7 (qaao ?_)
 simp -implicitDefEqProofs [qai5, qaak, qaaj, qaab, qaaf, qaac, qaae, qaah, qaai, qaaa, qaap, SOp.run, SX.ev, putd, puts, argS, upds, SOp.touch, SSt.keep, SSt.skip, gets, geth, puth, delh, idOf, SV.cells?, setL, qabr, qabs, sbin, eq0, eq1, eqL, qabn, qaa5, qaa6, qaav, qaal, qaad, qaam, qaaq, qaag, qae0, nums]
 refine qaa7 (qaao ?_)
 rw [hP]
 cases k1 : a == b
 ·simp -implicitDefEqProofs [qafw, qaak, qaaj, qaab, qaaf, qaac, qaae, qaah, qaai, qaaa, qaap, SOp.run, SX.ev, putd, puts, argS, upds, SOp.touch, SSt.keep, SSt.skip, gets, geth, puth, delh, idOf, SV.cells?, setL, qabr, qabs, sbin, eq0, eq1, eqL, qabn, qaa5, qaa6, qaav, qaal, qaad, qaam, qaaq, qaag, k1]
  exact qaba (fin _ _ _ (by rw [← hr, k1]; rfl))
 ·simp -implicitDefEqProofs [qafw, qaak, qaaj, qaab, qaaf, qaac, qaae, qaah, qaai, qaaa, qaap, SOp.run, SX.ev, putd, puts, argS, upds, SOp.touch, SSt.keep, SSt.skip, gets, geth, puth, delh, idOf, SV.cells?, setL, qabr, qabs, sbin, eq0, eq1, eqL, qabn, qaa5, qaa6, qaav, qaal, qaad, qaam, qaaq, qaag, k1]
  refine qaci (qadr _ _ hx _) ?_
  simp -implicitDefEqProofs [qaak, qaaj, qaab, qaaf, qaac, qaae, qaah, qaai, qaaa, qaap, SOp.run, SX.ev, putd, puts, argS, upds, SOp.touch, SSt.keep, SSt.skip, gets, geth, puth, delh, idOf, SV.cells?, setL, qabr, qabs, sbin, eq0, eq1, eqL, qabn, qaa5, qaa6, qaav, qaal, qaad, qaam, qaaq, qaag]
  exact qaba (fin _ _ _ (by rw [← hr, k1, Bool.true_and]))
def wideI (n k : Int) : Bool := decide (n > if k ≤ 64 then 2 ^ k.toNat - 1 else 0)
theorem qaqf (e : Entry) : SCalls Try.prog 29 [.agg (qaby e)] [] 0 (.agg (qae0 e.act e.args)) [] := by
 refine qabc (N := 8) Try.func29 rfl rfl (by kernel_rfl) qah5 (by simp) ⟨rfl, trivial⟩ trivial ?_
 rintro X hP hN hm
 unfold c_hitOf
 refine qaa7 (qaao ?_)
 simp -implicitDefEqProofs [qag5, qaak, qaaj, qaab, qaaf, qaac, qaae, qaah, qaai, qaaa, qaap, SOp.run, SX.ev, putd, puts, argS, upds, SOp.touch, SSt.keep, SSt.skip, gets, geth, puth, delh, idOf, SV.cells?, setL, qabr, qabs, sbin, eq0, eq1, eqL, qabn, qaa5, qaa6, qaav, qaal, qaad, qaam, qaaq, qaag, qaby, nums]
 refine qaa7 (qaao ?_)
 simp -implicitDefEqProofs [qag4, qaak, qaaj, qaab, qaaf, qaac, qaae, qaah, qaai, qaaa, qaap, SOp.run, SX.ev, putd, puts, argS, upds, SOp.touch, SSt.keep, SSt.skip, gets, geth, puth, delh, idOf, SV.cells?, setL, qabr, qabs, sbin, eq0, eq1, eqL, qabn, qaa5, qaa6, qaav, qaal, qaad, qaam, qaaq, qaag]
 refine qaba (qacj (s' := ⟨[(2, .ptr 0 0)], [(0, .cells 58 (qae0 e.act e.args))], 1⟩) (qab8 [(0, 1)] hm rfl (Nat.zero_le _) (by simp -implicitDefEqProofs [qaan, FrzOk, qaa2, qaax, qaa0, qaa1, qaar, qaaw, qaa8, qaay, qaat, qaa3, qaas, frzS, frzH, frz, frz1, frz0, SlotsM, ObjsM, ObjM, rn, ren, ren1, ren0, gets, geth, qabj, qab7, qab6, qabi, qaa9, qab3, qab5, CoL, qaa4]) (by simp -implicitDefEqProofs [qaan, FrzOk, qaa2, qaax, qaa0, qaa1, qaar, qaaw, qaa8, qaay, qaat, qaa3, qaas, frzS, frzH, frz, frz1, frz0, SlotsM, ObjsM, ObjM, rn, ren, ren1, ren0, gets, geth, qabj, qab7, qab6, qabi, qaa9, qab3, qab5, CoL, qaa4, qae0, nums])) ?_ trivial (by simp))
 simp -implicitDefEqProofs [hP, qahm, resL, resV, show qafx Try.prog 58 = some true from by kernel_rfl, show qabk Try.prog 58 = some 2 from by kernel_rfl, one_, qae0, nums, qaak, qaaj, qaab, qaaf, qaac, qaae, qaah, qaai, qaaa, qaap, SOp.run, SX.ev, putd, puts, argS, upds, SOp.touch, SSt.keep, SSt.skip, gets, geth, puth, delh, idOf, SV.cells?, setL, qabr, qabs, sbin, eq0, eq1, eqL, qabn, qaa5, qaa6, qaav, qaal, qaad, qaam, qaaq, qaag]
end Go.Proofs.Yticeaegpkpjjeaa
namespace Go.Proofs.Yticeaegpkpjjeaa
set_option linter.all false
open Go.RowKit
attribute [local simp] qaak qaaj qaab qaaf qaac qaae qaah qaai qaaa qaap SOp.run SX.ev putd puts argS upds SOp.touch SSt.keep SSt.skip gets geth puth delh idOf SV.cells? setL qabr qabs sbin eq0 eq1 eqL qabn qaa5 qaa6 qaav qaal qaad qaam qaaq qaag qaan FrzOk qaa2 qaax qaa0 qaa1 qaar qaaw qaa8 qaay qaat qaa3 qaas frzS frzH frz frz1 frz0 SlotsM ObjsM ObjM rn ren ren1 ren0 qabj qab7 qab6 qabi qaa9 qab3 qab5 CoL qaa4 qab1 dels adds idsH qabz
instance : PureF refc := ⟨fun _ _ => rfl, fun _ => rfl, fun _ => qabl _ rfl⟩
instance : PureF pushc := ⟨fun _ _ => rfl, fun _ => rfl, fun _ => qabl _ rfl⟩
instance : PureF headc := ⟨fun _ _ => rfl, fun _ => rfl, fun _ => qabl _ rfl⟩
instance : PureF casec := ⟨fun _ _ => rfl, fun _ => rfl, fun _ => qabl _ rfl⟩
instance : PureF qanl := ⟨fun _ _ => rfl, fun _ => rfl, fun _ => qabl _ rfl⟩
instance : PureF opc := ⟨fun _ _ => rfl, fun _ => rfl, fun _ => qabl _ rfl⟩
instance : PureF actc := ⟨fun _ _ => rfl, fun _ => rfl, fun _ => qabl _ rfl⟩
instance : PureF tabc := ⟨fun _ _ => rfl, fun _ => rfl, fun _ => qabl _ rfl⟩
instance : PureF nodec := ⟨fun _ _ => rfl, fun _ => rfl, fun _ => qabl _ rfl⟩
attribute [local simp] headc refc pushc casec qanl opc actc tabc nodec planc nums
def jc (p : PlanD) (a b : Int) : List SV := planc p ++ [.int .i64 a, .int .i64 b]
attribute [local simp] jc
end Go.Proofs.Yticeaegpkpjjeaa
namespace Go.Proofs.Yticeaegpkpjjeaa
set_option linter.all false
open Go.RowKit
abbrev qarw : List SOper := [Oa 2 (.mv (.c .nilsl))]
abbrev qarv : List SOper := [Oa 3 (.mv (.t 0)), Oa 4 (.eq 2 false (.t 3) (.c .nilsl))]
abbrev qaru : List SOper := [Oa 2 (.mv (.c .nilsl))]
abbrev qart : List SOper := [Oa 5 (.mkrow 39 1 0 [(.int .u64 0)] []), Oa 6 (.mv (.t 0)), Oa 7 (.app 39 1 8 (.t 5) (.t 6)), Oa 2 (.mv (.t 7))]
def c_cl5 : SCode := (.seq (.reg false qarw [0]) (.seq (.seq (.reg false qarv [0, 4]) (.cond (.t 4) (.seq (.reg false qaru [2]) .ret) .skip)) (.seq (.reg false qart [2]) .ret)))
theorem qaew : comp Try.prog 8 ((Try.f70.body).getD .skip) = some c_cl5.erase := by kernel_rfl
end Go.Proofs.Yticeaegpkpjjeaa
namespace Go.Proofs.Yticeaegpkpjjeaa
set_option linter.all false
open Go.RowKit
attribute [local simp] qaak qaaj qaab qaaf qaac qaae qaah qaai qaaa qaap SOp.run SX.ev putd puts argS upds SOp.touch SSt.keep SSt.skip gets geth puth delh idOf SV.cells? setL qabr qabs sbin eq0 eq1 eqL qabn qaa5 qaa6 qaav qaal qaad qaam qaaq qaag qaan FrzOk qaa2 qaax qaa0 qaa1 qaar qaaw qaa8 qaay qaat qaa3 qaas frzS frzH frz frz1 frz0 SlotsM ObjsM ObjM rn ren ren1 ren0 qabj qab7 qab6 qabi qaa9 qab3 qab5 CoL qaa4 qab1 dels adds idsH qabz
attribute [local simp] headc refc pushc casec qanl opc actc tabc nodec planc nums
theorem qaqi {X : Cx} {sl : Sl} {hp : Hp} {t nx id n e z : Nat} {es fs : List (List SV)} [PureR es] (hm : X.m = 0) (hu : gets sl t = .own id n) (h : geth hp id = some (.row e z es)) (hn : n = es.length) (hf : es = fs) : QFun X [.tmp t] 0 (.view z fs) [] .ret ⟨sl, hp, nx⟩ := by
 subst hf hn
 have h1 : Wk X ⟨sl, hp, nx⟩ (SSt.frz ⟨sl, hp, nx⟩ [id]) := qaqo [id] fun i o hi ho => by
  have : i = id := by simpa using hi
  subst this
  rw [h] at ho; cases ho
  exact (qap6 e z es).2 trivial
 have h2 : gets (frzS (geth hp) [id] sl) t = .view z es := by
  rw [qahx, hu]; simp [frz, frz1, frz0, h]
 refine ⟨⟨[(t, .view z es)], [], 0⟩, h1.trans (qab8 [] hm rfl (Nat.zero_le _) ⟨?_, trivial⟩ trivial), by simp [qahm, resL, resV, one_, gets], trivial, by simp⟩
 show Co (gets (frzS (geth hp) [id] sl) t) _
 rw [h2]; exact Co.refl _
instance pureR_take (fs : List (List SV)) [PureR fs] (i : Nat) : PureR (fs.take i) := ⟨fun σ => by rw [List.map_take, PureR.ren], fun x hx => PureR.ok x (List.mem_of_mem_take hx), fun x hx => PureR.pure x (List.mem_of_mem_take hx)⟩
end Go.Proofs.Yticeaegpkpjjeaa
namespace Go.Proofs.Yticeaegpkpjjeaa
set_option linter.all false
open Go.RowKit
attribute [local simp] qaak qaaj qaab qaaf qaac qaae qaah qaai qaaa qaap SOp.run SX.ev putd puts argS upds SOp.touch SSt.keep SSt.skip gets geth puth delh idOf SV.cells? setL qabr qabs sbin eq0 eq1 eqL qabn qaa5 qaa6 qaav qaal qaad qaam qaaq qaag qaan FrzOk qaa2 qaax qaa0 qaa1 qaar qaaw qaa8 qaay qaat qaa3 qaas frzS frzH frz frz1 frz0 SlotsM ObjsM ObjM rn ren ren1 ren0 qabj qab7 qab6 qabi qaa9 qab3 qab5 CoL qaa4 qab1 dels adds idsH qabz
instance pureR_nil : PureR [] := ⟨fun _ => rfl, fun x hx => (by cases hx), fun x hx => (by cases hx)⟩
theorem fin_co {X : Cx} {sl : Sl} {hp : Hp} {t nx : Nat} {v r : SV} (hm : X.m = 0) (h : gets sl t = v) (hc : Co v r) (hv : NoN r) : QFun X [.tmp t] 0 r [] .ret ⟨sl, hp, nx⟩ := by
 refine ⟨⟨[(t, r)], [], 0⟩, qab8 [] hm rfl (Nat.zero_le _) ⟨?_, trivial⟩ trivial, by simp [qahm, resL, resV, one_, gets], trivial, by simp⟩
 show Co (gets sl t) (ren _ r)
 rw [h, hv]; exact hc
theorem cl5_nil : SCalls Try.prog 70 [.nilsl] [] 0 (.view 1 []) [] := by
 refine qabc (N := 8) Try.func70 rfl rfl (by kernel_rfl) qaew (by simp) (by repeat' (first | exact trivial | refine And.intro ?_ ?_ | rfl | decide | exact PureR.ren _)) (by repeat' (first | exact trivial | refine And.intro ?_ ?_ | rfl | decide | exact PureR.ren _)) ?_
 rintro X hP hN hm
 unfold c_cl5
 repeat' (first | (with_reducible refine zA ?_) | ((with_reducible refine qaao ?_); (try rw [hP]); simp -implicitDefEqProofs [*]) | ((with_reducible refine qaba ?_); (try simp only [qaav, qaad, qaag])) | ((with_reducible refine qaau rfl (fun h => ?_) (fun h => ?_)) <;> have h' := h <;> (try simp at h') <;> (try subst h')) | (refine fin_co hm rfl (Co.nilsl _) (qaq9 _ _)) | fail)
theorem cl5_mt : SCalls Try.prog 70 [.mt] [] 0 (.view 1 []) [] := by
 refine qabc (N := 8) Try.func70 rfl rfl (by kernel_rfl) qaew (by simp) (by repeat' (first | exact trivial | refine And.intro ?_ ?_ | rfl | decide | exact PureR.ren _)) (by repeat' (first | exact trivial | refine And.intro ?_ ?_ | rfl | decide | exact PureR.ren _)) ?_
 rintro X hP hN hm
 unfold c_cl5
 repeat' (first | (with_reducible refine zA ?_) | ((with_reducible refine qaao ?_); (try rw [hP]); simp -implicitDefEqProofs [*]) | ((with_reducible refine qaaz ?_); (try simp -implicitDefEqProofs [*])) | ((with_reducible refine qaba ?_); (try simp only [qaav, qaad, qaag])) | ((with_reducible refine qaau rfl (fun h => ?_) (fun h => ?_)) <;> have h' := h <;> (try simp at h') <;> (try subst h')) | (refine qaqi (es := []) hm rfl rfl ?_ rfl) | fail)
 all_goals rfl
theorem cl5_s (es : List (List SV)) [PureR es] (hl : es.length ≤ 1000000) (hz : ∀ e ∈ es, e.length = 1) (q : Nat) : SCalls Try.prog 70 [.view 1 es] [] q (.view 1 es) [] := by
 rcases es with _ | ⟨e, es⟩
 ·exact qahk (qab2 cl5_nil (fun _ => rfl) (fun _ => rfl) rfl q) (qab2 cl5_mt (fun _ => rfl) (fun _ => rfl) rfl q)
 ·refine qab2 ?_ (fun _ => rfl) (fun _ => rfl) rfl q
  refine qabc (N := 8) Try.func70 rfl rfl (by kernel_rfl) qaew (by simp) (by repeat' (first | exact trivial | refine And.intro ?_ ?_ | rfl | decide | exact PureR.ren _)) (by repeat' (first | exact trivial | refine And.intro ?_ ?_ | rfl | decide | exact PureR.ren _)) ?_
  rintro X hP hN hm
  have hb : (e :: es).length ≤ maxLen := by unfold maxLen; omega
  simp only [List.length_cons] at hl hb
  unfold c_cl5
  repeat' (first | (with_reducible refine zA ?_) | ((with_reducible refine qaao ?_); (try rw [hP]); simp -implicitDefEqProofs [*]) | ((with_reducible refine qaaz ?_); (try simp -implicitDefEqProofs [*])) | ((with_reducible refine qaba ?_); (try simp only [qaav, qaad, qaag])) | ((with_reducible refine qaau rfl (fun h => ?_) (fun h => ?_)) <;> have h' := h <;> (try simp at h') <;> (try subst h')) | ((with_reducible refine qahj ?_ ?_); (first | omega | (unfold maxLen; omega)); simp -implicitDefEqProofs [*]) | (refine qaqi (es := e :: es) hm rfl rfl ?_ rfl) | fail)
  all_goals simp
end Go.Proofs.Yticeaegpkpjjeaa
namespace Go.Proofs.Yticeaegpkpjjeaa
set_option linter.all false
open Go.RowKit
def qadc (s : TStep) : List SV := .int .i64 s.d :: qaby s.e
def qadw (l : List TStep) : SV := .view 7 (l.map qadc)
def bigE (e : Entry) : Bool := decide (e.keys.length > 20) || (decide (e.masks.length > 20) || decide (e.args.length > 20))
def bigS (l : List TStep) : Bool := decide (l.length > 200) || l.any fun s => bigE s.e
theorem great_s (l : List TStep) : SCalls Try.prog 25 [qadw l] [] 0 (.bool (bigS l)) [] := by
 refine qabc (N := 41) Try.func25 rfl rfl (by kernel_rfl) qah6 (by simp) ⟨rfl, trivial⟩ trivial ?_
 rintro X hP hN hm
 generalize hr : bigS l = r
 have fin : ∀ (r' : Bool) hp nx, r' = r → QFun X (Try.f25).results.toList 0 (.bool r) [] .ret ⟨[(2, .bool r')], hp, nx⟩ := fun r' hp nx hr => by
  rw [hr]
  exact (qacj (s' := ⟨[(2, .bool r)], [], 0⟩) (qab8 [] hm rfl (Nat.le_refl _) (by simp -implicitDefEqProofs [qaan, FrzOk, qaa2, qaax, qaa0, qaa1, qaar, qaaw, qaa8, qaay, qaat, qaa3, qaas, frzS, frzH, frz, frz1, frz0, SlotsM, ObjsM, ObjM, rn, ren, ren1, ren0, gets, geth, qabj, qab7, qab6, qabi, qaa9, qab3, qab5, CoL, qaa4]) trivial) rfl trivial (by simp))
 unfold c_great qadw
 refine qaa7 (qaao ?_)
 simp -implicitDefEqProofs [qaha, qaak, qaaj, qaab, qaaf, qaac, qaae, qaah, qaai, qaaa, qaap, SOp.run, SX.ev, putd, puts, argS, upds, SOp.touch, SSt.keep, SSt.skip, gets, geth, puth, delh, idOf, SV.cells?, setL, qabr, qabs, sbin, eq0, eq1, eqL, qabn, qaa5, qaa6, qaav, qaal, qaad, qaam, qaaq, qaag]
 refine qaa7 (qaa7 (qaao ?_))
 simp -implicitDefEqProofs [qag9, qaak, qaaj, qaab, qaaf, qaac, qaae, qaah, qaai, qaaa, qaap, SOp.run, SX.ev, putd, puts, argS, upds, SOp.touch, SSt.keep, SSt.skip, gets, geth, puth, delh, idOf, SV.cells?, setL, qabr, qabs, sbin, eq0, eq1, eqL, qabn, qaa5, qaa6, qaav, qaal, qaad, qaam, qaaq, qaag]
 refine qaau rfl (fun h => ?_) (fun h => ?_)
 ·refine qaa7 (qaao ?_)
  simp -implicitDefEqProofs [qag8, qaak, qaaj, qaab, qaaf, qaac, qaae, qaah, qaai, qaaa, qaap, SOp.run, SX.ev, putd, puts, argS, upds, SOp.touch, SSt.keep, SSt.skip, gets, geth, puth, delh, idOf, SV.cells?, setL, qabr, qabs, sbin, eq0, eq1, eqL, qabn, qaa5, qaa6, qaav, qaal, qaad, qaam, qaaq, qaag]
  refine qaba (fin _ _ _ ?_)
  have : l.length > 200 := by simp at h; omega
  rw [← hr]; simp [bigS, this]
 ·have h200 : l.length ≤ 200 := by simp at h; omega
  refine qaaz ?_
  simp -implicitDefEqProofs [qaak, qaaj, qaab, qaaf, qaac, qaae, qaah, qaai, qaaa, qaap, SOp.run, SX.ev, putd, puts, argS, upds, SOp.touch, SSt.keep, SSt.skip, gets, geth, puth, delh, idOf, SV.cells?, setL, qabr, qabs, sbin, eq0, eq1, eqL, qabn, qaa5, qaa6, qaav, qaal, qaad, qaam, qaaq, qaag]
  refine qaa7 (qaa7 (qaao ?_))
  simp -implicitDefEqProofs [qag7, qaak, qaaj, qaab, qaaf, qaac, qaae, qaah, qaai, qaaa, qaap, SOp.run, SX.ev, putd, puts, argS, upds, SOp.touch, SSt.keep, SSt.skip, gets, geth, puth, delh, idOf, SV.cells?, setL, qabr, qabs, sbin, eq0, eq1, eqL, qabn, qaa5, qaa6, qaav, qaal, qaad, qaam, qaaq, qaag]
  refine qabf (qafh (fun s n => ∃ i : Nat, s = ⟨[(0, qadw l), (3, .int .i64 i)], [], 0⟩ ∧ i ≤ l.length ∧ (∀ j s, j < i → l[j]? = some s → bigE s.e = false) ∧ n = l.length - i) (qab8 [] hm rfl (Nat.le_refl _) (by simp -implicitDefEqProofs [qaan, FrzOk, qaa2, qaax, qaa0, qaa1, qaar, qaaw, qaa8, qaay, qaat, qaa3, qaas, frzS, frzH, frz, frz1, frz0, SlotsM, ObjsM, ObjM, rn, ren, ren1, ren0, gets, geth, qabj, qab7, qab6, qabi, qaa9, qab3, qab5, CoL, qaa4, qadw]) (by trivial)) ⟨0, rfl, by omega, by intro j s hj; omega, rfl⟩ ?_)
  rintro s n ⟨i, rfl, h1, h2, rfl⟩
  unfold qahb
  refine qaa7 (qaa7 (qaao ?_))
  simp -implicitDefEqProofs [qag6, qaak, qaaj, qaab, qaaf, qaac, qaae, qaah, qaai, qaaa, qaap, SOp.run, SX.ev, putd, puts, argS, upds, SOp.touch, SSt.keep, SSt.skip, gets, geth, puth, delh, idOf, SV.cells?, setL, qabr, qabs, sbin, eq0, eq1, eqL, qabn, qaa5, qaa6, qaav, qaal, qaad, qaam, qaaq, qaag, qadw]
  refine qaau rfl (fun h3 => qaaz ?_) (fun h3 => qab9 ?_)
  ·have hi : i < l.length := by simpa using h3
   simp -implicitDefEqProofs [qaak, qaaj, qaab, qaaf, qaac, qaae, qaah, qaai, qaaa, qaap, SOp.run, SX.ev, putd, puts, argS, upds, SOp.touch, SSt.keep, SSt.skip, gets, geth, puth, delh, idOf, SV.cells?, setL, qabr, qabs, sbin, eq0, eq1, eqL, qabn, qaa5, qaa6, qaav, qaal, qaad, qaam, qaaq, qaag]
   refine qaa7 (qabf (qaa7 (qaao ?_)))
   have yes : bigE l[i].e = true → bigS l = true := fun hb => by
    simp only [bigS, Bool.or_eq_true]
    exact .inr (List.any_eq_true.2 ⟨l[i], List.getElem_mem hi, hb⟩)
   have step : ∀ b hp nx, bigE l[i].e = b → SWp X ((SCode.cond (.t 40) (SCode.seq (.reg false qaez [2]) .ret) .skip)) (qafz 1 (QSeq X (.reg false qaey [0, 3]) (qar0 X (fun s n => ∃ i : Nat, s = ⟨[(0, qadw l), (3, .int .i64 i)], [], 0⟩ ∧ i ≤ l.length ∧ (∀ j s, j < i → l[j]? = some s → bigE s.e = false) ∧ n = l.length - i) (l.length - i) (qafz 0 (QSeq X (SCode.seq (.reg false qaex [2]) .ret) (QFun X [ResultVar.tmp 2] 0 (.bool r) []))))))
     ⟨[(0, .view 7 (l.map qadc)), (3, .int .i64 i), (40, .bool b)], hp, nx⟩ := by
    intro b hp nx hb
    cases b with
    | true =>
     refine qaau rfl (fun _ => ?_) (by simp)
     refine qaa7 (qaao ?_)
     simp -implicitDefEqProofs [qaez, qaak, qaaj, qaab, qaaf, qaac, qaae, qaah, qaai, qaaa, qaap, SOp.run, SX.ev, putd, puts, argS, upds, SOp.touch, SSt.keep, SSt.skip, gets, geth, puth, delh, idOf, SV.cells?, setL, qabr, qabs, sbin, eq0, eq1, eqL, qabn, qaa5, qaa6, qaav, qaal, qaad, qaam, qaaq, qaag]
     refine qaba (fin _ _ _ ?_)
     rw [← hr, yes hb]
    | false =>
     refine qaau rfl (by simp) (fun _ => qaaz ?_)
     simp -implicitDefEqProofs [qaak, qaaj, qaab, qaaf, qaac, qaae, qaah, qaai, qaaa, qaap, SOp.run, SX.ev, putd, puts, argS, upds, SOp.touch, SSt.keep, SSt.skip, gets, geth, puth, delh, idOf, SV.cells?, setL, qabr, qabs, sbin, eq0, eq1, eqL, qabn, qaa5, qaa6, qaav, qaal, qaad, qaam, qaaq, qaag]
     refine qaao ?_
     simp -implicitDefEqProofs [qaey, qaak, qaaj, qaab, qaaf, qaac, qaae, qaah, qaai, qaaa, qaap, SOp.run, SX.ev, putd, puts, argS, upds, SOp.touch, SSt.keep, SSt.skip, gets, geth, puth, delh, idOf, SV.cells?, setL, qabr, qabs, sbin, eq0, eq1, eqL, qabn, qaa5, qaa6, qaav, qaal, qaad, qaam, qaaq, qaag]
     rw [qacb (by omega) (by omega)]
     refine qaeo (qab8 [] hm rfl (Nat.zero_le _) (by simp -implicitDefEqProofs [qaan, FrzOk, qaa2, qaax, qaa0, qaa1, qaar, qaaw, qaa8, qaay, qaat, qaa3, qaas, frzS, frzH, frz, frz1, frz0, SlotsM, ObjsM, ObjM, rn, ren, ren1, ren0, gets, geth, qabj, qab7, qab6, qabi, qaa9, qab3, qab5, CoL, qaa4, qadw]) (by trivial)) ⟨i + 1, rfl, by omega, ?_, rfl⟩ (by omega)
     intro j s hj hs
     rcases Nat.lt_or_ge j i with e | e
     ·exact h2 j s e hs
     ·obtain rfl : j = i := by omega
      rw [List.getElem?_eq_getElem hi] at hs; cases hs; exact hb
   cases k1 : decide ((20 : Int) < (l[i].e.keys.length : Int))
   ·cases k2 : decide ((20 : Int) < (l[i].e.masks.length : Int))
    ·simp -implicitDefEqProofs [qads, qaak, qaaj, qaab, qaaf, qaac, qaae, qaah, qaai, qaaa, qaap, SOp.run, SX.ev, putd, puts, argS, upds, SOp.touch, SSt.keep, SSt.skip, gets, geth, puth, delh, idOf, SV.cells?, setL, qabr, qabs, sbin, eq0, eq1, eqL, qabn, qaa5, qaa6, qaav, qaal, qaad, qaam, qaaq, qaag, hi, qadc, qaby, nums, k1, k2]
     refine step _ _ _ ?_
     have e1 : ¬ (l[i].e.keys.length > 20) := by simp at k1; omega
     have e2 : ¬ (l[i].e.masks.length > 20) := by simp at k2; omega
     simp only [bigE, decide_eq_false e1, decide_eq_false e2, Bool.false_or]
     apply Bool.eq_iff_iff.2; simp; omega
    ·simp -implicitDefEqProofs [qads, qaak, qaaj, qaab, qaaf, qaac, qaae, qaah, qaai, qaaa, qaap, SOp.run, SX.ev, putd, puts, argS, upds, SOp.touch, SSt.keep, SSt.skip, gets, geth, puth, delh, idOf, SV.cells?, setL, qabr, qabs, sbin, eq0, eq1, eqL, qabn, qaa5, qaa6, qaav, qaal, qaad, qaam, qaaq, qaag, hi, qadc, qaby, nums, k1, k2]
     refine step _ _ _ ?_
     have e2 : l[i].e.masks.length > 20 := by simp at k2; omega
     simp [bigE, e2]
   ·simp -implicitDefEqProofs [qads, qaak, qaaj, qaab, qaaf, qaac, qaae, qaah, qaai, qaaa, qaap, SOp.run, SX.ev, putd, puts, argS, upds, SOp.touch, SSt.keep, SSt.skip, gets, geth, puth, delh, idOf, SV.cells?, setL, qabr, qabs, sbin, eq0, eq1, eqL, qabn, qaa5, qaa6, qaav, qaal, qaad, qaam, qaaq, qaag, hi, qadc, qaby, nums, k1]
    refine step _ _ _ ?_
    have e1 : l[i].e.keys.length > 20 := by simp at k1; omega
    simp [bigE, e1]
  ·have hi : i = l.length := by have : ¬ i < l.length := by simpa using h3
                                omega
   subst hi
   simp -implicitDefEqProofs [qaak, qaaj, qaab, qaaf, qaac, qaae, qaah, qaai, qaaa, qaap, SOp.run, SX.ev, putd, puts, argS, upds, SOp.touch, SSt.keep, SSt.skip, gets, geth, puth, delh, idOf, SV.cells?, setL, qabr, qabs, sbin, eq0, eq1, eqL, qabn, qaa5, qaa6, qaav, qaal, qaad, qaam, qaaq, qaag]
   refine qaa7 (qaao ?_)
   simp -implicitDefEqProofs [qaex, qaak, qaaj, qaab, qaaf, qaac, qaae, qaah, qaai, qaaa, qaap, SOp.run, SX.ev, putd, puts, argS, upds, SOp.touch, SSt.keep, SSt.skip, gets, geth, puth, delh, idOf, SV.cells?, setL, qabr, qabs, sbin, eq0, eq1, eqL, qabn, qaa5, qaa6, qaav, qaal, qaad, qaam, qaaq, qaag]
   refine qaba (fin _ _ _ ?_)
   rw [← hr]
   simp only [bigS, Bool.false_eq, Bool.or_eq_false_iff]
   refine ⟨by simp; omega, List.any_eq_false.2 fun s hs => ?_⟩
   obtain ⟨j, hj⟩ := List.getElem?_of_mem hs
   rw [h2 j s (List.getElem?_eq_some_iff.1 hj).1 hj]; simp
end Go.Proofs.Yticeaegpkpjjeaa
namespace Go.Proofs.Yticeaegpkpjjeaa
set_option linter.all false
open Go.RowKit
attribute [local simp] qaak qaaj qaab qaaf qaac qaae qaah qaai qaaa qaap SOp.run SX.ev putd puts argS upds SOp.touch SSt.keep SSt.skip gets geth puth delh idOf SV.cells? setL qabr qabs sbin eq0 eq1 eqL qabn qaa5 qaa6 qaav qaal qaad qaam qaaq qaag qaan FrzOk qaa2 qaax qaa0 qaa1 qaar qaaw qaa8 qaay qaat qaa3 qaas frzS frzH frz frz1 frz0 SlotsM ObjsM ObjM rn ren ren1 ren0 qabj qab7 qab6 qabi qaa9 qab3 qab5 CoL qaa4 qab1 dels adds idsH qabz
def hround (z : Int × Int) : Int × Int := (IntKind.u64.wrap (bits .xor .u64 z.1 (bits .and .u64 z.2 255) * 1099511628211), z.2 / 2 ^ min 8 IntKind.u64.bits)
def hrep : Nat → Int × Int → Int × Int
 | 0, z => z
 | n + 1, z => hrep n (hround z)
def hashL : List Int → Int → Int
 | [], h => h
 | x :: xs, h => hashL xs (hrep 8 (h, x)).1
def hashV (xs : List Int) : Int := hashL xs 14695981039346656037
def qada (N : Nat) (xs : List Int) : Nat := (hashV xs / 2 ^ min 32 IntKind.u64.bits).toNat % N
theorem qapz (x : Int) : 0 ≤ IntKind.u64.wrap x := by
 simp [IntKind.wrap, IntKind.bits, IntKind.signed]; omega
theorem qaqe : ∀ n (z : Int × Int), 0 ≤ z.1 → 0 ≤ (hrep n z).1
 | 0, z, h => h
 | n + 1, z, h => qaqe n _ (qapz _)
theorem qalr : ∀ xs h, 0 ≤ h → 0 ≤ hashL xs h
 | [], h, hh => hh
 | x :: xs, h, hh => qalr xs _ (qaqe 8 _ hh)
theorem qarf (xs : List Int) : 0 ≤ hashV xs := qalr xs _ (by decide)
def xsc : Option XSlot → List SV
 | none => [.bool false, .nilsl, .int .i64 0, .nilsl]
 | some s => [.bool true, nums .u64 s.keys, .int .i64 s.act, nums .u64 s.args]
instance : PureF xsc := ⟨fun σ x => by cases x <;> rfl, fun x => by cases x <;> rfl, fun x => by cases x <;> exact qabl _ rfl⟩
def qaql (k m : Int) (S : XTab) : List SV := [.int .i64 k, .int .i64 m, .int .i64 (cnt S), .view 4 (S.map xsc)]
theorem qapx (k m : Int) (n : Nat) (S : XTab) (hS : 0 < S.length ∧ S.length ≤ 1048576) (xs : List Int) (hx : xs.length ≤ 1000000) (q : Nat) : SCalls Try.prog 69 [.cp [.int .i64 k, .int .i64 m, .int .i64 n, .view 4 (S.map xsc)], nums .u64 xs] [] q (.int .i64 (qada S.length xs)) [] := by
 refine qab2 ?_ (fun _ => rfl) (fun _ => rfl) rfl q
 obtain ⟨F, hF⟩ : ∃ F, F = hashV xs := ⟨_, rfl⟩
 have hFn : 0 ≤ F := by rw [hF]; exact qarf xs
 have hH : qada S.length xs = (F / 2 ^ min 32 IntKind.u64.bits).toNat % S.length := by unfold qada; rw [hF]
 rw [hH]
 clear hH
 unfold hashV at hF
 replace hF := Lib.hid hF
 refine qabc (N := 35) Try.func69 rfl rfl (by kernel_rfl) qah0 (by simp) (by repeat' (first | exact trivial | refine And.intro ?_ ?_ | rfl | decide | exact PureR.ren _)) (by repeat' (first | exact trivial | refine And.intro ?_ ?_ | rfl | decide | exact PureR.ren _)) ?_
 rintro X hP hN hm
 unfold c_xhome nums
 repeat' (first | (with_reducible refine zA ?_) | ((with_reducible refine qaao ?_); (try rw [hP]); simp -implicitDefEqProofs [*]) | fail)
 refine qabf (qacv (fun s (z : Nat × Int) => s.turn [(10, .int .i64 z.1), (5, .int .u64 z.2)] []) (fun z => z.1 ≤ xs.length ∧ F = hashL (xs.drop z.1) z.2) (fun z => xs.length - z.1) (0, 14695981039346656037) ?_ ⟨by simp, hF.out⟩ ?_)
 ·repeat' (first | ((with_reducible refine qabh [] hm ?_ ?_ ?_ ?_) <;> (try simp only [zT, puth, Nat.reduceEqDiff, reduceIte, Nat.reduceAdd])) | (with_reducible refine za ?_ ?_) | (with_reducible first | exact qabb | exact qabg) | ((with_reducible refine zgb ?_); rfl) | ((with_reducible refine zgd ?_); (first | omega | (simp; done))) | (exact Co.refl _) | fail)
 rintro J hJ ⟨i, hv⟩ ⟨h1, h2⟩
 unfold qagf
 simp only [zT, puth, Nat.reduceEqDiff, reduceIte, Nat.reduceAdd] at h1 h2 ⊢
 replace h2 := Lib.hid h2
 rcases Nat.lt_or_ge i xs.length with hi | hi
 ·have h3 := h2.out
  rw [List.drop_eq_getElem_cons hi, hashL] at h3
  have wi : IntKind.i64.wrap ((i : Int) + 1) = (i : Int) + 1 := qacb (by omega) (by omega)
  generalize htl : xs.drop (i + 1) = tl at h3
  generalize hxi : xs[i] = x at h3
  obtain ⟨H, hH⟩ : ∃ H, H = hrep 8 (hv, x) := ⟨_, rfl⟩
  rw [← hH] at h3
  replace hH := Lib.hid hH
  replace h3 := Lib.hid h3
  repeat' (first | (with_reducible first | refine zA ?_ | refine qabd ?_) | ((with_reducible refine qaao ?_); (try rw [hP]); simp -implicitDefEqProofs [List.getElem?_eq_getElem hi, hxi, *]) | ((with_reducible refine qaaz ?_); (try simp -implicitDefEqProofs [List.getElem?_eq_getElem hi, hxi, *])) | ((with_reducible refine qaau rfl (fun h => ?_) (fun h => ?_)) <;> have h' := h <;> (try simp at h') <;> (try subst h')) | fail)
  have hJo := hJ
  refine qabf (qacv (fun s (z : Nat × Int × Int) => s.turn [(14, .int .i64 z.1), (5, .int .u64 z.2.1), (7, .int .u64 z.2.2)] []) (fun z => z.1 ≤ 8 ∧ H = hrep (8 - z.1) z.2) (fun z => 8 - z.1) (0, hv, x) ?_ ⟨by simp, hH.out⟩ ?_)
  ·repeat' (first | ((with_reducible refine qabh [] hm ?_ ?_ ?_ ?_) <;> (try simp only [zT, puth, Nat.reduceEqDiff, reduceIte, Nat.reduceAdd])) | (with_reducible refine za ?_ ?_) | (with_reducible first | exact qabb | exact qabg) | ((with_reducible refine zgb ?_); rfl) | ((with_reducible refine zgd ?_); (first | omega | (simp; done))) | (exact Co.refl _) | fail)
  rintro J hJ ⟨j, a, c⟩ ⟨g1, g2⟩
  unfold qagg
  simp only [zT, puth, Nat.reduceEqDiff, reduceIte, Nat.reduceAdd] at g1 g2 ⊢
  rcases Nat.lt_or_ge j 8 with hj | hj
  ·rw [show 8 - j = (8 - (j + 1)) + 1 by omega, hrep] at g2
   have wj : IntKind.i64.wrap ((j : Int) + 1) = (j : Int) + 1 := qacb (by omega) (by omega)
   replace g2 := Lib.hid g2
   have hj8 : ((j : Int) < 8) = True := eq_true (by omega)
   repeat' (first | (with_reducible first | refine zA ?_ | refine qabd ?_) | ((with_reducible refine qaao ?_); (try rw [hP]); simp -implicitDefEqProofs [wj, hj8, *]) | ((with_reducible refine qaaz ?_); (try simp -implicitDefEqProofs [wj, hj8, *])) | ((with_reducible refine qaau rfl (fun h => ?_) (fun h => ?_)) <;> have h' := h <;> (try simp at h') <;> (try subst h')) | (with_reducible refine za ?_ ?_) | (with_reducible first | exact qabb | exact qabg) | ((with_reducible refine zgb ?_); rfl) | ((with_reducible first | refine zgd ?_ | refine zge ?_); (first | omega | (simp; done))) | (exact Co.refl _) | ((refine qab0 hJ ((j + 1, ?_, ?_)) ?_ ?_ ?_; rotate_left 2; (with_reducible refine qabh [] hm ?_ ?_ ?_ ?_) <;> (try simp only [zT, puth, Nat.reduceEqDiff, reduceIte, Nat.reduceAdd]))) | fail)
   exact ⟨by show j + 1 ≤ 8; omega, g2.out⟩
  ·obtain rfl : j = 8 := by omega
   have g3 : H = (a, c) := g2
   have h4 := h3.out
   rw [g3] at h4
   replace h4 := Lib.hid h4
   replace hJ := hJo
   repeat' (first | (with_reducible refine zA ?_) | ((with_reducible refine qaao ?_); (try rw [hP]); simp -implicitDefEqProofs [wi, *]) | ((with_reducible refine qab9 ?_); (try simp -implicitDefEqProofs [wi, *])) | ((with_reducible refine qaau rfl (fun h => ?_) (fun h => ?_)) <;> have h' := h <;> (try simp at h') <;> (try subst h')) | (with_reducible refine za ?_ ?_) | (with_reducible first | exact qabb | exact qabg) | ((with_reducible refine zgb ?_); rfl) | ((with_reducible first | refine zgd ?_ | refine zge ?_); (first | omega | (simp; done))) | (exact Co.refl _) | ((refine qab0 hJ ((i + 1, ?_)) ?_ ?_ ?_; rotate_left 1; (with_reducible refine qabh [] hm ?_ ?_ ?_ ?_) <;> (try simp only [zT, puth, Nat.reduceEqDiff, reduceIte, Nat.reduceAdd]))) | fail)
   exact ⟨by show i + 1 ≤ xs.length; omega, by rw [show xs.drop ((i + 1, a).1) = tl from htl]; exact h4.out⟩
 ·obtain rfl : i = xs.length := by omega
  have h3 := h2.out
  rw [List.drop_length] at h3
  obtain rfl : F = hv := h3
  obtain ⟨Q, hQ⟩ : ∃ Q : Nat, F / 2 ^ min 32 IntKind.u64.bits = Q := ⟨(F / 2 ^ min 32 IntKind.u64.bits).toNat, (Int.toNat_of_nonneg (Int.ediv_nonneg hFn (by decide))).symm⟩
  have wl : IntKind.u64.wrap (S.length : Int) = (S.length : Int) := by simp [IntKind.wrap, IntKind.bits, IntKind.signed]; omega
  have nz : ¬ ((S.length : Int) = 0) := by omega
  have tm : Int.tmod (Q : Int) (S.length : Int) = ((Q % S.length : Nat) : Int) := by
   rw [Int.tmod_eq_emod_of_nonneg (by omega)]; rfl
  have hml : Q % S.length < S.length := Nat.mod_lt _ hS.1
  have wc : IntKind.i64.wrap ((Q % S.length : Nat) : Int) = ((Q % S.length : Nat) : Int) := IntWalk.i64_in _ ⟨by omega, by omega⟩
  rw [hQ, show max (Q : Int) 0 = (Q : Int) by omega, show (Q : Int) % (S.length : Int) = ((Q % S.length : Nat) : Int) from rfl]
  generalize hR : Q % S.length = R at tm wc ⊢
  have hS0 : ¬ S = [] := fun e => by rw [e] at hS; exact absurd hS.1 (by simp)
  repeat' (first | (with_reducible refine zA ?_) | ((with_reducible refine qaao ?_); (try rw [hP]); simp -implicitDefEqProofs [hQ, wl, if_neg nz, nz, hS0, tm, wc, *]) | ((with_reducible refine qab9 ?_); (try simp -implicitDefEqProofs [hQ, wl, if_neg nz, nz, hS0, tm, wc, *])) | ((with_reducible refine qaba ?_); (try simp only [qaav, qaad, qaag])) | ((with_reducible refine qaau rfl (fun h => ?_) (fun h => ?_)) <;> have h' := h <;> (try simp at h') <;> (try subst h')) | (with_reducible refine zM hm ?_) | fail)
  all_goals rfl
theorem xhome_s (k m : Int) (S : XTab) (hS : 0 < S.length ∧ S.length ≤ 1048576) (xs : List Int) (hx : xs.length ≤ 1000000) (q : Nat) : SCalls Try.prog 69 [.cp (qaql k m S), nums .u64 xs] [] q (.int .i64 (qada S.length xs)) [] := qapx k m (cnt S) S hS xs hx q
end Go.Proofs.Yticeaegpkpjjeaa
namespace Go.Proofs.Yticeaegpkpjjeaa
set_option linter.all false
open Go.RowKit
attribute [local simp] qaak qaaj qaab qaaf qaac qaae qaah qaai qaaa qaap SOp.run SX.ev putd puts argS upds SOp.touch SSt.keep SSt.skip gets geth puth delh idOf SV.cells? setL qabr qabs sbin eq0 eq1 eqL qabn qaa5 qaa6 qaav qaal qaad qaam qaaq qaag qaan FrzOk qaa2 qaax qaa0 qaa1 qaar qaaw qaa8 qaay qaat qaa3 qaas frzS frzH frz frz1 frz0 SlotsM ObjsM ObjM rn ren ren1 ren0 qabj qab7 qab6 qabi qaa9 qab3 qab5 CoL qaa4 qab1 dels adds idsH qabz
theorem qafe : qafx Try.prog 58 = some true := by kernel_rfl
theorem qad8 : qabk Try.prog 58 = some 2 := by kernel_rfl
theorem xnums (xs : List Int) (h : xs.length ≤ 1000000) (q : Nat) : SCalls Try.prog 70 [nums .u64 xs] [] q (nums .u64 xs) [] := by
 unfold nums
 exact cl5_s (xs.map fun x => [.int .u64 x]) (by simpa using h) (by intro e he; obtain ⟨x, -, rfl⟩ := List.mem_map.1 he; rfl) q
def hitc (a : Int) (xs : List Int) : List SV := [.int .i64 a, nums .u64 xs]
theorem xown_s (a : Int) (xs : List Int) (h : xs.length ≤ 1000000) (q : Nat) : SCalls Try.prog 71 [.agg (hitc a xs)] [] q (.agg (hitc a xs)) [] := by
 refine qab2 ?_ (fun _ => rfl) (fun _ => rfl) rfl q
 refine qabc (N := 9) Try.func71 rfl rfl (by kernel_rfl) qajo (by simp) (by repeat' (first | exact trivial | refine And.intro ?_ ?_ | rfl | decide | exact PureR.ren _)) (by repeat' (first | exact trivial | refine And.intro ?_ ?_ | rfl | decide | exact PureR.ren _)) ?_
 rintro X hP hN hm
 have k1 := fun q => xnums xs h q
 unfold nums at k1
 unfold c_xown hitc nums
 repeat' (first | (with_reducible first | refine zA ?_ | refine zK ?_) | ((with_reducible first | refine qaao ?_ | refine qacl (by rw [hP]; exact mixed) ?_); (try rw [hP]); simp -implicitDefEqProofs [*]) | ((with_reducible refine qaba ?_); (try simp only [qaav, qaad, qaag])) | (refine qaci (k1 _) ?_; simp -implicitDefEqProofs [*]) | ((refine qarh hm rfl ?_ ?_ rfl (CoL.refl _) rfl ?_)) | fail)
 all_goals first | (rw [hP]; with_reducible exact qafe) | (rw [hP]; exact qad8) | (intro σ; rfl) | trace_state
theorem qarj (xa xb : List Int) (i : Nat) (h : i < xa.length) (g : i < xb.length) : decide (xa.drop i = xb.drop i) = if xa[i] ≠ xb[i] then false else decide (xa.drop (i + 1) = xb.drop (i + 1)) := by
 rw [List.drop_eq_getElem_cons h, List.drop_eq_getElem_cons g]
 generalize xa[i] = a
 generalize xb[i] = b
 generalize xa.drop (i + 1) = u
 generalize xb.drop (i + 1) = v
 by_cases e : a = b <;> simp [e]
theorem sleq_s (xa xb : List Int) (ha : xa.length ≤ 1000000) (hb : xb.length ≤ 1000000) (q : Nat) : SCalls Try.prog 114 [nums .u64 xa, nums .u64 xb] [] q (.bool (decide (xa = xb))) [] := by
 refine qab2 ?_ (fun _ => rfl) (fun _ => rfl) rfl q
 refine qabc (N := 26) Try.func114 rfl rfl (by kernel_rfl) qaju (by simp) (by repeat' (first | exact trivial | refine And.intro ?_ ?_ | rfl | decide | exact PureR.ren _)) (by repeat' (first | exact trivial | refine And.intro ?_ ?_ | rfl | decide | exact PureR.ren _)) ?_
 rintro X hP hN hm
 obtain ⟨F, hF⟩ : ∃ F, F = decide (xa = xb) := ⟨_, rfl⟩
 rw [← hF]
 replace hF := Lib.hid hF
 by_cases hlen : xb.length = xa.length
 ·unfold c_sleq nums
  repeat' (first | (with_reducible refine zA ?_) | ((with_reducible refine qaao ?_); (try rw [hP]); simp -implicitDefEqProofs [hlen, *]) | ((with_reducible refine qaaz ?_); (try simp -implicitDefEqProofs [hlen, *])) | ((with_reducible refine qaau rfl (fun h => ?_) (fun h => ?_)) <;> have h' := h <;> (try simp at h') <;> (try subst h')) | fail)
  refine qabf (qacv (fun s (i : Nat) => s.turn [(13, .int .i64 i)] []) (fun i => i ≤ xa.length ∧ F = decide (xa.drop i = xb.drop i)) (fun i => xa.length - i) 0 ?_ ⟨by simp, hF.out⟩ ?_)
  ·repeat' (first | ((with_reducible refine qabh [] hm ?_ ?_ ?_ ?_) <;> (try simp only [zT, puth, Nat.reduceEqDiff, reduceIte, Nat.reduceAdd])) | (with_reducible refine za ?_ ?_) | (with_reducible first | exact qabb | exact qabg) | ((with_reducible refine zgb ?_); rfl) | ((with_reducible refine zgd ?_); (first | omega | (simp; done))) | (exact Co.refl _) | fail)
  rintro J hJ i ⟨h1, h3⟩
  unfold qai4
  simp only [zT, puth, Nat.reduceEqDiff, reduceIte, Nat.reduceAdd] at h1 h3 ⊢
  replace h3 := Lib.hid h3
  rcases Nat.lt_or_ge i xa.length with hi | hi
  ·have hj : i < xb.length := by omega
   have h4 := h3.out
   rw [qarj xa xb i hi hj] at h4
   have wi : IntKind.i64.wrap ((i : Int) + 1) = (i : Int) + 1 := qacb (by omega) (by omega)
   replace h4 := Lib.hid h4
   repeat' (first | (with_reducible first | refine zA ?_ | refine qabd ?_ | refine zK ?_) | ((with_reducible first | refine qaao ?_ | refine qacl (by rw [hP]; exact mixed) ?_); (try rw [hP]); simp -implicitDefEqProofs [wi, List.getElem?_eq_getElem hi, List.getElem?_eq_getElem hj, *]) | ((with_reducible refine qaaz ?_); (try simp -implicitDefEqProofs [wi, List.getElem?_eq_getElem hi, List.getElem?_eq_getElem hj, *])) | ((with_reducible refine qaba ?_); (try simp only [qaav, qaad, qaag])) | ((with_reducible refine qaau rfl (fun h => ?_) (fun h => ?_)) <;> have h' := h <;> (try simp at h') <;> (try subst h')) | (with_reducible refine zN hm ?_) | (with_reducible refine za ?_ ?_) | (with_reducible first | exact qabb | exact qabg) | ((with_reducible refine zgb ?_); rfl) | ((with_reducible first | refine zgd ?_ | refine zge ?_); (first | omega | (simp; done))) | (exact Co.refl _) | ((refine qab0 hJ (i + 1) ?_ ?_ ?_; (with_reducible refine qabh [] hm ?_ ?_ ?_ ?_) <;> (try simp only [zT, puth, Nat.reduceEqDiff, reduceIte, Nat.reduceAdd]))) | fail)
   all_goals first | (exfalso; omega) | (rw [h4.out, if_pos ‹_›]; done) | (refine ⟨by omega, ?_⟩; rw [h4.out, if_neg (by omega)]) | omega | trace_state
  ·obtain rfl : i = xa.length := by omega
   have h4 : F = true := by rw [h3.out, List.drop_length, List.drop_eq_nil_of_le (by omega)]; rfl
   repeat' (first | (with_reducible refine zA ?_) | ((with_reducible refine qaao ?_); (try rw [hP]); simp -implicitDefEqProofs [*]) | ((with_reducible refine qab9 ?_); (try simp -implicitDefEqProofs [*])) | ((with_reducible refine qaba ?_); (try simp only [qaav, qaad, qaag])) | ((with_reducible refine qaau rfl (fun h => ?_) (fun h => ?_)) <;> have h' := h <;> (try simp at h') <;> (try subst h')) | (with_reducible refine zN hm ?_) | fail)
   all_goals first | rfl | (rw [h4])
 ·have hf : F = false := by rw [hF.out]; exact decide_eq_false fun e => hlen (by rw [e])
  have hne : ¬ (xa.length : Int) = (xb.length : Int) := by omega
  have hne2 : ¬ xa.length = xb.length := by omega
  unfold c_sleq nums
  repeat' (first | (with_reducible refine zA ?_) | ((with_reducible refine qaao ?_); (try rw [hP]); simp -implicitDefEqProofs [hne, hne2, *]) | ((with_reducible refine qaaz ?_); (try simp -implicitDefEqProofs [hne, hne2, *])) | ((with_reducible refine qaba ?_); (try simp only [qaav, qaad, qaag])) | ((with_reducible refine qaau rfl (fun h => ?_) (fun h => ?_)) <;> have h' := h <;> (try simp at h') <;> (try subst h')) | (with_reducible refine zN hm ?_) | fail)
  all_goals first | rfl | (rw [hf]; done) | (exfalso; omega) | trace_state
theorem qapy {X : Cx} {sl : Sl} {hp : Hp} {t u nx : Nat} {v w : SV} (hm : X.m = 0) (hne : t ≠ u) (hv : gets sl t = v) (hw : gets sl u = w) (hN : NoN v) (hM : NoN w) : QFun X [.tmp t, .tmp u] 0 (.tup [v, w]) [] .ret ⟨sl, hp, nx⟩ := by
 refine ⟨⟨[(t, v), (u, w)], [], 0⟩, qab8 [] hm rfl (Nat.zero_le _) ⟨?_, ?_, trivial⟩ trivial, by simp [qahm, resL, resV, one_, gets, hne, hne.symm], trivial, by simp⟩
 ·show Co (gets sl t) (Go.Proofs.Yticeaegpkpjjeaa.ren _ v)
  rw [hv, hN]; exact Co.refl _
 ·show Co (gets sl u) (Go.Proofs.Yticeaegpkpjjeaa.ren _ w)
  rw [hw, hM]; exact Co.refl _
theorem qacu : xsc none = [.bool false, .nilsl, .int .i64 0, .nilsl] := rfl
theorem qabx (s : XSlot) : xsc (some s) = [.bool true, nums .u64 s.keys, .int .i64 s.act, nums .u64 s.args] := rfl
theorem qajg {S : XTab} {xs : List Int} {f i : Nat} {s : XSlot} (h : S[i]? = some (some s)) : qab4 S xs (f + 1) i = if s.keys = xs then (i, true) else qab4 S xs f (addm S.length i 1) := by rw [qab4, h]
theorem qajh {S : XTab} {xs : List Int} {f i : Nat} (h : S[i]? = some none) : qab4 S xs (f + 1) i = (i, false) := by rw [qab4, h]
def qad7 (S : XTab) : Prop := ∀ (j : Nat) (s : XSlot), S[j]? = some (some s) → s.keys.length ≤ 1000000 ∧ s.args.length ≤ 1000000
theorem place_s (k m : Int) (S : XTab) (hS : 0 < S.length ∧ S.length ≤ 1048576) (hsm : qad7 S) (xs : List Int) (hx : xs.length ≤ 1000000) (hf : ∃ e : Nat, S[e]? = some none) (q : Nat) : SCalls Try.prog 68 [.cp (qaql k m S), nums .u64 xs] [] q (.tup [.int .i64 (qab4 S xs S.length (qada S.length xs)).1, .bool (qab4 S xs S.length (qada S.length xs)).2]) [] := by
 refine qab2 ?_ (fun _ => rfl) (fun _ => rfl) rfl q
 obtain ⟨R, b, hF⟩ : ∃ R b, (R, b) = qab4 S xs S.length (qada S.length xs) := ⟨_, _, rfl⟩
 rw [← hF]
 have hH : qada S.length xs < S.length := Nat.mod_lt _ hS.1
 have k1 := fun q => xhome_s k m S hS xs hx q
 obtain ⟨e, he⟩ := hf
 have hel := qabq he
 have hdl := qadp hH hel
 generalize qada S.length xs = H at k1 hF hH hdl
 have hS0 : ¬ S = [] := fun e => by rw [e] at hS; exact absurd hS.1 (by simp)
 replace hF := Lib.hid hF
 have k2 : ∀ (s : XSlot) (j : Nat), S[j]? = some (some s) → ∀ q, SCalls Try.prog 114 [nums .u64 s.keys, nums .u64 xs] [] q (.bool (decide (s.keys = xs))) [] := fun s j h q => sleq_s s.keys xs (hsm j s h).1 hx q
 unfold qaql nums at k1
 unfold nums at k2
 replace k2 := Lib.hid k2
 replace he := Lib.hid he
 replace hdl := Lib.hid hdl
 refine qabc (N := 38) Try.func68 rfl rfl (by kernel_rfl) qagc (by simp) (by repeat' (first | exact trivial | refine And.intro ?_ ?_ | rfl | decide | exact PureR.ren _)) (by repeat' (first | exact trivial | refine And.intro ?_ ?_ | rfl | decide | exact PureR.ren _)) ?_
 rintro X hP hN hm
 unfold c_xplace qaql nums
 repeat' (first | (with_reducible refine zA ?_) | ((with_reducible refine qaao ?_); (try rw [hP]); simp -implicitDefEqProofs [*]) | (refine qaci (k1 _) ?_; simp -implicitDefEqProofs [*]) | fail)
 refine qabf (qacv (fun s (z : Nat × Nat) => s.turn [(6, .int .i64 z.1)] []) (fun z => z.1 < S.length ∧ (R, b) = qab4 S xs z.2 z.1 ∧ dist S.length z.1 e < z.2) (fun z => z.2) (H, S.length) ?_ ⟨hH, hF.out, hdl.out⟩ ?_)
 ·repeat' (first | ((with_reducible refine qabh [] hm ?_ ?_ ?_ ?_) <;> (try simp only [zT, puth, Nat.reduceEqDiff, reduceIte, Nat.reduceAdd])) | (with_reducible refine za ?_ ?_) | (with_reducible first | exact qabb | exact qabg) | ((with_reducible refine zgb ?_); rfl) | ((with_reducible refine zgd ?_); (first | omega | (simp; done))) | (exact Co.refl _) | fail)
 rintro J hJ ⟨i, f⟩ ⟨h1, h2, h3⟩
 unfold qafb
 simp only [zT, puth, Nat.reduceEqDiff, reduceIte, Nat.reduceAdd] at h1 h2 h3 ⊢
 obtain ⟨g, rfl⟩ : ∃ g, f = g + 1 := ⟨f - 1, by omega⟩
 replace h3 := Lib.hid h3
 rcases hs : S[i] with _ | s
 ·have hs' : S[i]? = some none := by rw [List.getElem?_eq_getElem h1, hs]
  rw [qajh hs'] at h2
  obtain ⟨rfl, rfl⟩ := Prod.mk.inj h2
  repeat' (first | (with_reducible refine zA ?_) | ((with_reducible refine qaao ?_); (try rw [hP]); simp -implicitDefEqProofs [hs', qacu, *]) | ((with_reducible refine qab9 ?_); (try simp -implicitDefEqProofs [hs', qacu, *])) | ((with_reducible refine qaba ?_); (try simp only [qaav, qaad, qaag])) | ((with_reducible refine qaau rfl (fun h => ?_) (fun h => ?_)) <;> have h' := h <;> (try simp at h') <;> (try subst h')) | ((refine qapy hm (by decide) rfl rfl (fun σ => rfl) (fun σ => rfl))) | fail)
 ·have hs' : S[i]? = some (some s) := by rw [List.getElem?_eq_getElem h1, hs]
  rw [qajg hs'] at h2
  have k3 := k2.out s i hs'
  have wi : IntKind.i64.wrap ((i : Int) + 1) = (i : Int) + 1 := qacb (by omega) (by omega)
  have tm : Int.tmod ((i : Int) + 1) (S.length : Int) = ((addm S.length i 1 : Nat) : Int) := by
   rw [Int.tmod_eq_emod_of_nonneg (by omega), ← qanh h1 (by omega)]; rfl
  by_cases hB : s.keys = xs
  ·rw [if_pos hB] at h2
   obtain ⟨rfl, rfl⟩ := Prod.mk.inj h2
   rw [decide_eq_true hB] at k3
   replace hB := Lib.hid hB
   repeat' (first | (with_reducible first | refine zA ?_ | refine qabd ?_) | ((with_reducible refine qaao ?_); (try rw [hP]); simp -implicitDefEqProofs [hs', qabx, nums, wi, tm, hS0, *]) | ((with_reducible refine qaaz ?_); (try simp -implicitDefEqProofs [hs', qabx, nums, wi, tm, hS0, *])) | ((with_reducible refine qaba ?_); (try simp only [qaav, qaad, qaag])) | ((with_reducible refine qaau rfl (fun h => ?_) (fun h => ?_)) <;> have h' := h <;> (try simp at h') <;> (try subst h')) | (refine qaci (k3 _) ?_; simp -implicitDefEqProofs [hs', qabx, nums, wi, tm, hS0, *]) | ((refine qapy hm (by decide) rfl rfl (fun σ => rfl) (fun σ => rfl))) | fail)
  ·rw [if_neg hB] at h2
   rw [decide_eq_false hB] at k3
   have hie : i ≠ e := fun e1 => by
    have := he.out
    rw [← e1, hs'] at this; cases this
   have hn : addm S.length i 1 < S.length := qacy h1 (by omega)
   have hd : dist S.length (addm S.length i 1) e < g := by
    have := h3.out
    unfold dist addm at *
    (repeat' split at *) <;> (repeat' split) <;> omega
   replace h2 := Lib.hid h2
   replace hB := Lib.hid hB
   replace hd := Lib.hid hd
   repeat' (first | (with_reducible first | refine zA ?_ | refine qabd ?_) | ((with_reducible refine qaao ?_); (try rw [hP]); simp -implicitDefEqProofs [hs', qabx, nums, wi, tm, hS0, *]) | ((with_reducible refine qaaz ?_); (try simp -implicitDefEqProofs [hs', qabx, nums, wi, tm, hS0, *])) | ((with_reducible refine qaau rfl (fun h => ?_) (fun h => ?_)) <;> have h' := h <;> (try simp at h') <;> (try subst h')) | (refine qaci (k3 _) ?_; simp -implicitDefEqProofs [hs', qabx, nums, wi, tm, hS0, *]) | (with_reducible refine za ?_ ?_) | (with_reducible first | exact qabb | exact qabg) | ((with_reducible refine zgb ?_); rfl) | ((with_reducible first | refine zgd ?_ | refine zge ?_); (first | omega | (simp; done))) | (exact Co.refl _) | ((refine qab0 hJ ((addm S.length i 1, g)) ?_ ?_ ?_; (with_reducible refine qabh [] hm ?_ ?_ ?_ ?_) <;> (try simp only [zT, puth, Nat.reduceEqDiff, reduceIte, Nat.reduceAdd]))) | fail)
   all_goals first | exact ⟨hn, h2.out, hd.out⟩ | trace_state
end Go.Proofs.Yticeaegpkpjjeaa
namespace Go.Proofs.Yticeaegpkpjjeaa
set_option linter.all false
open Go.RowKit
variable {w : World} {ρ : qabm} {fp : Nat → Nat → Prop} {O : Nat → Prop} {h1 : Hp}
theorem qadf (k : Nat) : ¬ Live [] fp k := fun ⟨_, _, h, _⟩ => by cases h
def Lent (h1 : Hp) (x y : SV) : Prop := ∀ (O : Nat → Prop) (ρ : qabm) (fp : Nat → Nat → Prop) (w : World) (v : Value), HeapOk O ρ fp h1 w → RepV w (fun k => O k ∨ Live h1 fp k) ρ x v → RepV w (fun k => O k ∨ Live [] fp k) ρ y v
def qar7 (h1 : Hp) : List SV → List SV → Prop
 | [], [] => True
 | x :: xs, y :: ys => Lent h1 x y ∧ qar7 h1 xs ys
 | _, _ => False
theorem qaqd {k : Nat} : (O k ∨ Live [] fp k) → O k ∨ Live h1 fp k := fun hk => hk.elim .inl fun h => absurd h (qadf k)
theorem qadn (x : SV) : Lent h1 x x := fun _ _ _ _ _ _ hx => hx.weaken fun _ hk _ => qaqd hk
theorem qaer : ∀ {xs ys}, qar7 h1 xs ys → xs.length = ys.length
 | [], [], _ => rfl
 | _ :: _, _ :: _, h => by simp [qaer h.2]
 | [], _ :: _, h => h.elim
 | _ :: _, [], h => h.elim
theorem qafp : ∀ {xs ys : List SV} {j : Nat} {y : SV}, qar7 h1 xs ys → ys[j]? = some y → ∃ x, xs[j]? = some x ∧ Lent h1 x y
 | x :: xs, y :: ys, 0, _, h, hy => by cases hy; exact ⟨x, rfl, h.1⟩
 | x :: xs, y :: ys, j + 1, _, h, hy => qafp (xs := xs) (ys := ys) (j := j) h.2 (by simpa using hy)
 | [], [], _, _, _, hy => by simp at hy
 | [], _ :: _, _, _, h, _ => h.elim
 | _ :: _, [], _, _, h, _ => h.elim
theorem qarc {id z e : Nat} {es : List (List SV)} (ho : geth h1 id = some (.row e z es)) (hp : ∀ e ∈ es, qahf e) {n : Nat} (hn : n = es.length) : Lent h1 (.own id n) (.view z es) := fun O ρ fp w v hok hx => by
 subst hn
 obtain ⟨v0, us, how, ⟨hrep, huo⟩, hzs, hρ', hfp⟩ := hok.objs id _ ho
 generalize hn : es.length = n at hx
 cases hx with
 | own0 hρ => rw [List.eq_nil_of_length_eq_zero hn]; exact .view0 (by simp [maxLen]) (fun _ => rfl)
 | own hρ hnc hm =>
  rename_i b c
  rw [hρ] at hρ'
  have hp0 : qack v0 = some (b, c) := (Option.some.inj hρ').symm
  obtain ⟨hv0, hcell, hlt, _, _⟩ := qac0 how hp0
  have hown : fp id b := (hfp b).2 (by rw [hv0]; rfl)
  have hval : ∀ i e j x, es[i]? = some e → e[j]? = some x → ∃ u, us[i * z + j]? = some u ∧ RepV w (fun k => O k ∨ Live h1 fp k) ρ x u := fun i e j x he hx => hrep.get (qad1 hzs he hx)
  refine .view (fun i j => us.getD (i * z + j) undef) hn hnc hm (fun hO => hO.elim (hok.lt b ⟨id, _, ho, hown⟩).2 (qadf b)) hlt hzs (fun i e j x he hx => ?_) (fun i e j x he hx => ?_) (fun i e j x he hx => ?_)
  ·obtain ⟨u, h1, h2⟩ := hval i e j x he hx
   rw [Nat.zero_add, List.getD_eq_getElem?_getD, h1]
   exact hcell _ _ h1
  ·obtain ⟨u, h1, h2⟩ := hval i e j x he hx
   rw [List.getD_eq_getElem?_getD, h1]
   exact (hp e (List.mem_of_getElem? he) x (List.mem_of_getElem? hx) _ _ _ _ h2).weaken fun k hk _ => qaqd hk
  ·obtain ⟨u, h1, h2⟩ := hval i e j x he hx
   rw [List.getD_eq_getElem?_getD, h1]
   exact huo u (List.mem_of_getElem? h1)
theorem qard {id off t : Nat} {cs ds : List SV} (ho : geth h1 id = some (.cells t cs)) (hl : qar7 h1 (cs.drop off) ds) (hp : qahf ds) : Lent h1 (.ptr id off) (.cp ds) := fun O ρ fp w v hok hx => by
 obtain ⟨b, c, us, hρ', hbl, ⟨hrep, huo⟩, hfp⟩ := hok.objs id _ ho
 cases hx with
 | ptr hρ =>
  rw [hρ] at hρ'; cases hρ'
  have hval : ∀ (j : Nat) y, ds[j]? = some y → ∃ u, us[off + j]? = some u ∧ RepV w (fun k => O k ∨ Live [] fp k) noPl y u := fun j y hy => by
   obtain ⟨x, hx, hxy⟩ := qafp hl hy
   rw [List.getElem?_drop] at hx
   obtain ⟨u, h1, h2⟩ := hrep.get hx
   exact ⟨u, h1, hp y (List.mem_of_getElem? hy) _ _ _ _ (hxy O ρ fp w u hok h2)⟩
  refine .cp (fun j => us.getD (off + j) undef) (fun hO => hO.elim (hok.lt b ⟨id, _, ho, (hfp b).2 rfl⟩).2 (qadf b)) hbl.lt (fun j x hx => ?_) (fun j x hx => ?_) (fun j x hx => ?_)
  ·obtain ⟨u, h1, h2⟩ := hval j x hx
   rw [hbl.cell, List.getD_eq_getElem?_getD, h1]
   simpa using h1
  ·obtain ⟨u, h1, h2⟩ := hval j x hx
   rw [List.getD_eq_getElem?_getD, h1]
   exact h2
  ·obtain ⟨u, h1, h2⟩ := hval j x hx
   rw [List.getD_eq_getElem?_getD, h1]
   exact huo u (List.mem_of_getElem? h1)
def qakh (x : SV) : Prop := ∀ w A A' ρ v, RepV w A ρ x v → RepV w A' ρ x v
theorem qal4 (b : Bool) : qakh (.bool b) := fun w A A' ρ v h => by cases h; exact .bool
theorem qafv (k : IntKind) (n : Int) : qakh (.int k n) := fun w A A' ρ v h => by cases h; exact .int
def qapv (cs : List SV) : Prop := ∀ x ∈ cs, qakh x
theorem qagd {A A' : Nat → Prop} {cs : List SV} {vs : List Value} (hc : qapv cs) (h : Reps w A ρ cs vs) : Reps w A' ρ cs vs :=
 ⟨h.1, fun j x v hx hv => hc x (List.mem_of_getElem? hx) _ _ _ _ _ (h.2 j x v hx hv)⟩
theorem qaoa {cs : List SV} (hc : qapv cs) : qakh (.tup cs) := fun w A A' ρ v h => by
 cases h with
 | tup hl hh => exact .tup hl fun j x v hx hv => hc x (List.mem_of_getElem? hx) _ _ _ _ _ (hh j x v hx hv)
def CleanO : SObj → Prop
 | .cells _ cs => qapv cs
 | .row _ _ es => ∀ e ∈ es, qapv e
 | .abs _ => False
theorem qaob {A A' : Nat → Prop} {id : Nat} {F : Nat → Prop} {o : SObj} (hc : CleanO o) (h : ObjRep w A ρ id F o) : ObjRep w A' ρ id F o := by
 cases o with
 | cells t cs =>
  obtain ⟨b, c, vs, q1, q2, ⟨q3, q4⟩, q5⟩ := h
  exact ⟨b, c, vs, q1, q2, ⟨qagd hc q3, q4⟩, q5⟩
 | row e z es =>
  obtain ⟨v, vs, q1, ⟨q2, q3⟩, q4, q5, q6⟩ := h
  exact ⟨v, vs, q1, ⟨qagd (fun x hx => by obtain ⟨e, he, hx⟩ := List.mem_flatten.1 hx; exact hc e he x hx) q2, q3⟩, q4, q5, q6⟩
 | abs I => exact hc.elim
theorem qajl (h1 h2 : Hp) (id : Nat) : geth (h1 ++ h2) id = match geth h1 id with | some o => some o | none => geth h2 id := by
 induction h1 with
 | nil => rfl
 | cons p h1 ih =>
  obtain ⟨i, o⟩ := p
  rw [List.cons_append]
  simp only [geth]
  split
  ·rfl
  ·exact ih
theorem qajb {P : Program} {f : FuncId} {args args' : List SV} {h1 h2 : Hp} {q n : Nat} {r : SV} (h : SCalls P f args' [] q r h2 n) (ha : qar7 h1 args args') (hr : qakh r) (hc : ∀ id o, geth h2 id = some o → CleanO o)
  (hd : ∀ id, geth h1 id ≠ none → geth h2 id = none) : SCalls P f args h1 q r (h1 ++ h2) n := by
 refine ⟨h.ent, fun O ρ fp w vs hok hargs hfr => ?_⟩
 have hargs' : Reps w (fun k => O k ∨ Live [] fp k) ρ args' vs := by
  refine ⟨by rw [← qaer ha]; exact hargs.1, fun j y v hy hv => ?_⟩
  obtain ⟨x, h1, h2⟩ := qafp ha hy
  exact h2 O ρ fp w v hok (hargs.2 j x v h1 hv)
 refine (h.does O ρ fp w vs ⟨fun id o ho => (by cases ho), fun id id' o o' _ ho => (by cases ho), fun k hk => absurd hk (qadf k), hok.O_lt⟩ hargs' hfr).mono ?_
 rintro e w' ⟨v, ρ', fp', rfl, hk, hv, hst, hρ, hnew, hfp⟩
 have hst' : ∀ S : Nat → Prop, Step S w w' := fun S => hst.mono fun k hk => absurd hk (qadf k)
 have hbig : ∀ id o, geth h2 id = some o → ∀ k, fp' id k → w.heap.size ≤ k := fun id o ho k hk => (hfp id o ho k hk).elim (fun h => absurd h (qadf k)) fun h => h
 have hg : ∀ id o, geth (h1 ++ h2) id = some o → geth h1 id = some o ∧ geth h2 id = none ∨ geth h1 id = none ∧ geth h2 id = some o := fun id o ho => by
  rw [qajl] at ho
  cases e : geth h1 id with
  | some o' => rw [e] at ho; cases ho; exact .inl ⟨rfl, hd id (by rw [e]; simp)⟩
  | none => rw [e] at ho; exact .inr ⟨rfl, ho⟩
 let F : Nat → Nat → Prop := fun id k => (geth h2 id ≠ none ∧ fp' id k) ∨ (geth h2 id = none ∧ fp id k)
 have F1 : ∀ id, geth h2 id = none → F id = fp id := fun id hn => by funext k; simp [F, hn]
 have F2 : ∀ id o, geth h2 id = some o → F id = fp' id := fun id o hn => by funext k; simp [F, hn]
 have hav : ∀ k, (O k ∨ Live (h1 ++ h2) F k) → k < w.heap.size → O k ∨ Live h1 fp k := by
  rintro k (hO | ⟨id, o, ho, hk'⟩) hlt
  ·exact .inl hO
  ·rcases hg id o ho with ⟨q1, q2⟩ | ⟨q1, q2⟩
   ·rw [F1 id q2] at hk'; exact .inr ⟨id, o, q1, hk'⟩
   ·rw [F2 id o q2] at hk'; exact absurd (hbig id o q2 k hk') (by omega)
 refine ⟨v, ρ', F, rfl, ⟨fun id o ho => ?_, fun id id' o o' hne ho ho' k hk' hk2 => ?_, ?_, hk.O_lt⟩, hr _ _ _ _ _ hv, hst' _, hρ, hnew, fun id o ho k hk' => ?_⟩
 ·rcases hg id o ho with ⟨q1, q2⟩ | ⟨q1, q2⟩
  ·rw [F1 id q2]
   exact (hok.objs id o q1).mono ⟨hst' _, hav, hρ⟩ fun k hk' => hst.block k (hok.lt k ⟨id, o, q1, hk'⟩).1 (qadf k)
  ·rw [F2 id o q2]
   exact qaob (hc id o q2) (hk.objs id o q2)
 ·rcases hg id o ho with ⟨q1, q2⟩ | ⟨q1, q2⟩ <;> rcases hg id' o' ho' with ⟨q3, q4⟩ | ⟨q3, q4⟩
  ·rw [F1 id q2] at hk'; rw [F1 id' q4] at hk2; exact hok.disj id id' o o' hne q1 q3 k hk' hk2
  ·rw [F1 id q2] at hk'; rw [F2 id' o' q4] at hk2
   have := (hok.lt k ⟨id, o, q1, hk'⟩).1; have := hbig id' o' q4 k hk2; omega
  ·rw [F2 id o q2] at hk'; rw [F1 id' q4] at hk2
   have := (hok.lt k ⟨id', o', q3, hk2⟩).1; have := hbig id o q2 k hk'; omega
  ·rw [F2 id o q2] at hk'; rw [F2 id' o' q4] at hk2; exact hk.disj id id' o o' hne q2 q4 k hk' hk2
 ·rintro k ⟨id, o, ho, hk'⟩
  rcases hg id o ho with ⟨q1, q2⟩ | ⟨q1, q2⟩
  ·rw [F1 id q2] at hk'
   have := hok.lt k ⟨id, o, q1, hk'⟩
   exact ⟨Nat.lt_of_lt_of_le this.1 hst.size, this.2⟩
  ·rw [F2 id o q2] at hk'
   exact hk.lt k ⟨id, o, q2, hk'⟩
 ·rcases hg id o ho with ⟨q1, q2⟩ | ⟨q1, q2⟩
  ·rw [F1 id q2] at hk'; exact .inl ⟨id, o, q1, hk'⟩
  ·rw [F2 id o q2] at hk'; exact .inr (hbig id o q2 k hk')
theorem qady {P : Program} {f : FuncId} {args args' : List SV} {h1 : Hp} {q : Nat} {r : SV} (h : SCalls P f args' [] q r []) (ha : qar7 h1 args args') (hr : qakh r) : SCalls P f args h1 q r h1 := by
 have := qajb h ha hr (fun id o ho => by cases ho) fun _ _ => rfl
 rwa [List.append_nil] at this
end Go.Proofs.Yticeaegpkpjjeaa
namespace Go.Proofs.Yticeaegpkpjjeaa
set_option linter.all false
open Go.RowKit
attribute [local simp] qaak qaaj qaab qaaf qaac qaae qaah qaai qaaa qaap SOp.run SX.ev putd puts argS upds SOp.touch SSt.keep SSt.skip gets geth puth delh idOf SV.cells? setL qabr qabs sbin eq0 eq1 eqL qabn qaa5 qaa6 qaav qaal qaad qaam qaaq qaag qaan FrzOk qaa2 qaax qaa0 qaa1 qaar qaaw qaa8 qaay qaat qaa3 qaas frzS frzH frz frz1 frz0 SlotsM ObjsM ObjM rn ren ren1 ren0 qabj qab7 qab6 qabi qaa9 qab3 qab5 CoL qaa4 qab1 dels adds idsH qabz
def xobj (k m : Int) (c : Nat) (S : XTab) : Hp := [(0, .cells 163 [.int .i64 k, .int .i64 m, .int .i64 c, .own 1 S.length]), (1, .row 167 4 (S.map xsc))]
theorem qaf5 {k m : Int} {n : Nat} {S : XTab} : Lent (xobj k m n S) (.ptr 0 0) (.cp [.int .i64 k, .int .i64 m, .int .i64 n, .view 4 (S.map xsc)]) := by
 refine qard (t := 163) (cs := [.int .i64 k, .int .i64 m, .int .i64 n, .own 1 S.length]) rfl ⟨qadn _, qadn _, qadn _, qarc (e := 167) rfl (qaif _ _) (by simp), trivial⟩ ?_
 intro x hx
 simp only [List.mem_cons, List.not_mem_nil, or_false] at hx
 rcases hx with rfl | rfl | rfl | rfl
 ·exact qaep _ _
 ·exact qaep _ _
 ·exact qaep _ _
 ·exact qafm _ _
theorem qaim {k m : Int} {S : XTab} : Lent (xobj k m (cnt S) S) (.ptr 0 0) (.cp (qaql k m S)) := qaf5
def newF : Nat → Nat → Int → Nat
 | 0, n, _ => n
 | f + 1, n, M => if (n : Int) < M ∧ n < 1048576 then newF f (n * 2) M else n
def newN (m : Int) : Nat := newF 18 4 (IntKind.i64.wrap (2 * m))
theorem qaqa : ∀ f n M, n ≤ newF f n M
 | 0, n, M => Nat.le_refl _
 | f + 1, n, M => by
  rw [newF]; split
  ·exact Nat.le_trans (by omega) (qaqa f (n * 2) M)
  ·exact Nat.le_refl _
theorem qap9 : ∀ f n M, newF f n M ≤ n * 2 ^ f
 | 0, n, M => by simp [newF]
 | f + 1, n, M => by
  rw [newF]; split
  ·have := qap9 f (n * 2) M
   rw [Nat.pow_succ, Nat.mul_comm (2 ^ f) 2, ← Nat.mul_assoc]; exact this
  ·exact Nat.le_mul_of_pos_right _ (Nat.pow_pos (by omega))
theorem qalk : ∀ f n M, n * 2 ^ f = 1048576 → M ≤ newF f n M ∨ newF f n M = 1048576
 | 0, n, M, h => .inr (by simpa [newF] using h)
 | f + 1, n, M, h => by
  rw [newF]; split
  ·exact qalk f (n * 2) M (by rw [← h, Nat.pow_succ, Nat.mul_comm (2 ^ f) 2, ← Nat.mul_assoc])
  ·rename_i hc
   have : n ≤ n * 2 ^ (f + 1) := Nat.le_mul_of_pos_right _ (Nat.pow_pos (by omega))
   by_cases h1 : (n : Int) < M
   ·exact .inr (by have : ¬ n < 1048576 := fun h2 => hc ⟨h1, h2⟩; omega)
   ·exact .inl (by omega)
theorem qaik (m : Int) : 4 ≤ newN m ∧ newN m ≤ 1048576 := ⟨qaqa _ _ _, qap9 18 4 _⟩
theorem qaij {m : Int} (h : m ≤ 1000) : m < newN m := by
 have h1 := qaik m
 by_cases h0 : m ≤ 0
 ·omega
 ·have hw : IntKind.i64.wrap (2 * m) = 2 * m := IntWalk.i64_in _ ⟨by omega, by omega⟩
  have := qalk 18 4 (IntKind.i64.wrap (2 * m)) rfl
  unfold newN at *
  rw [hw] at *
  omega
theorem xlen_s (k m : Int) (S : XTab) (q : Nat) : SCalls Try.prog 34 [.cp (qaql k m S)] [] q (.int .i64 (cnt S)) [] := by
 refine qab2 ?_ (fun _ => rfl) (fun _ => rfl) rfl q
 refine qabc (N := 7) Try.func34 rfl rfl (by kernel_rfl) qajq (by simp) (by repeat' (first | exact trivial | refine And.intro ?_ ?_ | rfl | decide | exact PureR.ren _)) (by repeat' (first | exact trivial | refine And.intro ?_ ?_ | rfl | decide | exact PureR.ren _)) ?_
 rintro X hP hN hm
 unfold c_xlen qaql
 repeat' (first | (with_reducible refine zA ?_) | ((with_reducible refine qaao ?_); (try rw [hP]); simp -implicitDefEqProofs [*]) | ((with_reducible refine qaba ?_); (try simp only [qaav, qaad, qaag])) | (with_reducible refine zM hm ?_) | fail)
 all_goals rfl
theorem xlen_o (k m : Int) (S : XTab) (q : Nat) : SCalls Try.prog 34 [.ptr 0 0] (xobj k m (cnt S) S) q (.int .i64 (cnt S)) (xobj k m (cnt S) S) :=
 qady (xlen_s k m S q) ⟨qaim, trivial⟩ (qafv _ _)
theorem qalc (k m : Int) (S : XTab) (hS : 0 < S.length ∧ S.length ≤ 1048576) (hsm : qad7 S) (xs : List Int) (hx : xs.length ≤ 1000000) (hf : ∃ e : Nat, S[e]? = some none) (q : Nat) : SCalls Try.prog 68 [.ptr 0 0, nums .u64 xs] (xobj k m (cnt S) S) q (.tup [.int .i64 (qab4 S xs S.length (qada S.length xs)).1, .bool (qab4 S xs S.length (qada S.length xs)).2]) (xobj k m (cnt S) S) :=
 qady (place_s k m S hS hsm xs hx hf q) ⟨qaim, qadn _, trivial⟩ (qaoa (by
  intro x hx
  simp only [List.mem_cons, List.not_mem_nil, or_false] at hx
  rcases hx with rfl | rfl
  ·exact qafv _ _
  ·exact qal4 _))
theorem home_o (k m : Int) (n : Nat) (S : XTab) (hS : 0 < S.length ∧ S.length ≤ 1048576) (xs : List Int) (hx : xs.length ≤ 1000000) (q : Nat) : SCalls Try.prog 69 [.ptr 0 0, nums .u64 xs] (xobj k m n S) q (.int .i64 (qada S.length xs)) (xobj k m n S) :=
 qady (qapx k m n S hS xs hx q) ⟨qaf5, qadn _, trivial⟩ (qafv _ _)
theorem qakj (k m : Int) (N : Nat) : xobj k m 0 (List.replicate N none) = [(0, .cells 163 [.int .i64 k, .int .i64 m, .int .i64 (0 : Nat), .own 1 N]), (1, .row 167 4 ((List.replicate N none).map xsc))] := by
 unfold xobj
 rw [List.length_replicate]
theorem fin_xn {X : Cx} {s : SSt} {t : Nat} {h : Hp} {a b : SObj} (e : h = [(0, a), (1, b)]) (hw : Wk X s ⟨[(t, .ptr 0 0)], [(0, a), (1, b)], 2⟩) : QFun X [.tmp t] 0 (.ptr 0 0) h .ret s := by
 subst e
 exact ⟨_, hw, by simp [qahm, resL, resV, one_, gets], ⟨rfl, rfl, trivial⟩, by simp⟩
theorem xnew_s (k m : Int) : SCalls Try.prog 26 [.int .i64 k, .int .i64 m] [] 0 (.ptr 0 0) (xobj k m 0 (List.replicate (newN m) none)) := by
 obtain ⟨N, hN'⟩ : ∃ N, N = newN m := ⟨_, rfl⟩
 have hb := qaik m
 rw [← hN'] at hb ⊢
 unfold newN at hN'
 obtain ⟨M, hM⟩ : ∃ M, IntKind.i64.wrap (2 * m) = M := ⟨_, rfl⟩
 rw [hM] at hN'
 replace hN' := Lib.hid hN'
 replace hb := Lib.hid hb
 refine qabc (N := 22) Try.func26 rfl rfl (by kernel_rfl) qajp (by simp) (by repeat' (first | exact trivial | refine And.intro ?_ ?_ | rfl | decide | exact PureR.ren _)) (by repeat' (first | exact trivial | refine And.intro ?_ ?_ | rfl | decide | exact PureR.ren _)) ?_
 rintro X hP hN hm
 unfold c_xnew
 repeat' (first | (with_reducible refine zA ?_) | ((with_reducible refine qaao ?_); (try rw [hP]); simp -implicitDefEqProofs [*]) | fail)
 refine qabf (qacv (fun s (z : Nat × Nat) => s.turn [(5, .int .i64 z.1)] []) (fun z => z.1 * 2 ^ z.2 = 1048576 ∧ N = newF z.2 z.1 M) (fun z => z.2) (4, 18) ?_ ⟨rfl, hN'.out⟩ ?_)
 ·repeat' (first | ((with_reducible refine qabh [] hm ?_ ?_ ?_ ?_) <;> (try simp only [zT, puth, Nat.reduceEqDiff, reduceIte, Nat.reduceAdd])) | (with_reducible refine za ?_ ?_) | (with_reducible first | exact qabb | exact qabg) | ((with_reducible refine zgb ?_); rfl) | ((with_reducible refine zgd ?_); (first | omega | (simp; done))) | (exact Co.refl _) | fail)
 rintro J hJ ⟨n, f⟩ ⟨h1, h2⟩
 unfold qai1
 simp only [zT, puth, Nat.reduceEqDiff, reduceIte, Nat.reduceAdd] at h1 h2 ⊢
 have hn : n ≤ 1048576 := by
  have : n ≤ n * 2 ^ f := Nat.le_mul_of_pos_right _ (Nat.pow_pos (by omega))
  omega
 by_cases hc : (n : Int) < M ∧ n < 1048576
 ·obtain ⟨g, rfl⟩ : ∃ g, f = g + 1 := ⟨f - 1, by
   rcases f with _ | f
   ·simp at h1; omega
   ·rfl⟩
  rw [newF, if_pos hc] at h2
  have h3 : (n * 2) * 2 ^ g = 1048576 := by rw [← h1, Nat.pow_succ, Nat.mul_comm (2 ^ g) 2, ← Nat.mul_assoc]
  replace h1 := Lib.hid h1
  replace h2 := Lib.hid h2
  replace h3 := Lib.hid h3
  have wn : IntKind.i64.wrap ((n : Int) * 2) = (n : Int) * 2 := IntWalk.i64_in _ ⟨by omega, by omega⟩
  obtain ⟨c1, c2⟩ := hc
  have c3 : ((n : Int) < 1048576) = True := eq_true (by omega)
  clear c2
  replace hn := Lib.hid hn
  repeat' (first | (with_reducible first | refine zA ?_ | refine qako ?_) | ((with_reducible refine qaao ?_); (try rw [hP]); simp -implicitDefEqProofs [hM, wn, c1, c3, *]) | ((with_reducible refine qaaz ?_); (try simp -implicitDefEqProofs [hM, wn, c1, c3, *])) | ((with_reducible refine qaau rfl (fun h => ?_) (fun h => ?_)) <;> have h' := h <;> (try simp at h') <;> (try subst h')) | (with_reducible refine za ?_ ?_) | (with_reducible first | exact qabb | exact qabg) | ((with_reducible refine zgb ?_); rfl) | ((with_reducible first | refine zgd ?_ | refine zge ?_); (first | omega | (simp; done))) | (exact Co.refl _) | ((refine qab0 hJ ((n * 2, g)) ?_ ?_ ?_; (with_reducible refine qabh [] hm ?_ ?_ ?_ ?_) <;> (try simp only [zT, puth, Nat.reduceEqDiff, reduceIte, Nat.reduceAdd]))) | fail)
  exact ⟨h3.out, h2.out⟩
 ·have h3 : N = n := by
   rcases f with _ | f
   ·exact h2
   ·rw [newF, if_neg hc] at h2; exact h2
  clear h2
  subst h3
  replace h1 := Lib.hid h1
  by_cases c1 : (N : Int) < M
  ·have c3 : ((N : Int) < 1048576) = False := eq_false (by intro h; exact hc ⟨c1, by omega⟩)
   clear hc
   repeat' (first | (with_reducible refine zA ?_) | ((with_reducible refine qaao ?_); (try rw [hP]); simp -implicitDefEqProofs [hM, c1, c3, *]) | ((with_reducible refine qab9 ?_); (try simp -implicitDefEqProofs [hM, c1, c3, *])) | ((with_reducible refine qaba ?_); (try simp only [qaav, qaad, qaag])) | ((with_reducible refine qaau rfl (fun h => ?_) (fun h => ?_)) <;> have h' := h <;> (try simp at h') <;> (try subst h')) | ((with_reducible refine qahj ?_ ?_); (first | omega | (unfold maxLen; omega)); simp -implicitDefEqProofs [hM, c1, c3, *]) | fail)
   exact fin_xn (qakj k m N) (qabh [(0, 15), (1, 13)] hm ⟨Co.refl _, trivial⟩ ⟨⟨_, rfl, rfl, CoL.refl _⟩, ⟨_, rfl, rfl, rfl, by rw [qacm, List.map_replicate]; exact CoLL.refl _⟩, trivial⟩ rfl (Nat.zero_le _))
  ·clear hc
   have c3 : ((N : Int) < M) = False := eq_false c1
   clear c1
   repeat' (first | (with_reducible refine zA ?_) | ((with_reducible refine qaao ?_); (try rw [hP]); simp -implicitDefEqProofs [hM, c3, *]) | ((with_reducible refine qab9 ?_); (try simp -implicitDefEqProofs [hM, c3, *])) | ((with_reducible refine qaba ?_); (try simp only [qaav, qaad, qaag])) | ((with_reducible refine qaau rfl (fun h => ?_) (fun h => ?_)) <;> have h' := h <;> (try simp at h') <;> (try subst h')) | ((with_reducible refine qahj ?_ ?_); (first | omega | (unfold maxLen; omega)); simp -implicitDefEqProofs [hM, c3, *]) | fail)
   exact fin_xn (qakj k m N) (qabh [(0, 13), (1, 11)] hm ⟨Co.refl _, trivial⟩ ⟨⟨_, rfl, rfl, CoL.refl _⟩, ⟨_, rfl, rfl, rfl, by rw [qacm, List.map_replicate]; exact CoLL.refl _⟩, trivial⟩ rfl (Nat.zero_le _))
end Go.Proofs.Yticeaegpkpjjeaa
namespace Go.Proofs.Yticeaegpkpjjeaa
set_option linter.all false
open Go.RowKit
attribute [local simp] qaak qaaj qaab qaaf qaac qaae qaah qaai qaaa qaap SOp.run SX.ev putd puts argS upds SOp.touch SSt.keep SSt.skip gets geth puth delh idOf SV.cells? setL qabr qabs sbin eq0 eq1 eqL qabn qaa5 qaa6 qaav qaal qaad qaam qaaq qaag qaan FrzOk qaa2 qaax qaa0 qaa1 qaar qaaw qaa8 qaay qaat qaa3 qaas frzS frzH frz frz1 frz0 SlotsM ObjsM ObjM rn ren ren1 ren0 qabj qab7 qab6 qabi qaa9 qab3 qab5 CoL qaa4 qab1 dels adds idsH qabz
theorem qaea {S : XTab} {xs : List Int} : ∀ (f i : Nat), i < S.length → (qab4 S xs f i).1 < S.length
 | 0, i, h => h
 | f + 1, i, h => by
  rw [qab4]
  split
  ·split
   ·exact h
   ·exact qaea f _ (qacy h (by omega))
  ·exact h
theorem qapw (o : Option XSlot) : (xsc o).length = 4 := by cases o <;> rfl
theorem qaku {l : List SV} (h : l.length = 4) (a b c d : SV) : (((l.set 0 a).set 1 b).set 2 c).set 3 d = [a, b, c, d] := by
 match l, h with
 | [_, _, _, _], _ => rfl
theorem fin_xi {X : Cx} {s : SSt} {t : Nat} {n : Int} {h : Hp} {a b : SObj} (e : h = [(0, a), (1, b)]) (hw : Wk X s ⟨[(t, .int .i64 n)], [(0, a), (1, b)], 2⟩) : QFun X [.tmp t] 2 (.int .i64 n) h .ret s := by
 subst e
 exact ⟨_, hw, by simp [qahm, resL, resV, one_, gets], ⟨rfl, rfl, trivial⟩, by simp⟩
theorem qadb {X : Cx} {sl : Sl} {hp : Hp} {nx t : Nat} {V W : Int} {h : Hp} {k m : Int} {c N : Nat} {S : XTab} {cs : List SV} {es : List (List SV)} (hm : X.m = 2) (hV : V = W) (hh : h = xobj k m c S) (ht : gets sl t = .int .i64 W) (h0 : geth hp 0 = some (.cells 163 cs)) (hcs : cs = [.int .i64 k, .int .i64 m, .int .i64 c, .own 1 N]) (hN : N = S.length) (h1 : geth hp 1 = some (.row 167 4 es)) (he : es = S.map xsc) : QFun X [.tmp t] 2 (.int .i64 V) h .ret ⟨sl, hp, nx⟩ := by
 subst hV hcs he
 subst hN
 exact fin_xi hh (qabh [] hm ⟨by show Co (gets sl t) _; rw [ht]; exact Co.refl _, trivial⟩ ⟨⟨_, h0, rfl, CoL.refl _⟩, ⟨_, h1, rfl, rfl, by rw [qacm]; exact CoLL.refl _⟩, trivial⟩ rfl (Nat.le_refl 2))
def qabu (S : XTab) (xs : List Int) : Nat × Bool := qab4 S xs S.length (qada S.length xs)
def qahe (k m : Int) (S : XTab) (xs : List Int) : Int := if (xs.length : Int) ≠ k then 2 else if (qabu S xs).2 = true then 7 else if m ≤ cnt S ∨ (S.length : Int) - 1 ≤ cnt S then 10 else 0
def addX (k m : Int) (S : XTab) (s : XSlot) : XTab := if qahe k m S s.keys = 0 then S.set (qabu S s.keys).1 (some s) else S
theorem xadd_s (k m : Int) (S : XTab) (hS : 0 < S.length ∧ S.length ≤ 1048576) (hsm : qad7 S) (a : Int) (xs ys : List Int) (hx : xs.length ≤ 1000000) (hy : ys.length ≤ 1000000) (hf : ∃ e : Nat, S[e]? = some none) (hc : qahe k m S xs = 0 → cnt (S.set (qabu S xs).1 (some ⟨xs, a, ys⟩)) = cnt S + 1) : SCalls Try.prog 28 [.ptr 0 0, nums .u64 xs, .agg (hitc a ys)] (xobj k m (cnt S) S) 2 (.int .i64 (qahe k m S xs)) (xobj k m (cnt (addX k m S ⟨xs, a, ys⟩)) (addX k m S ⟨xs, a, ys⟩)) := by
 have k1 := fun q => qalc k m S hS hsm xs hx hf q
 have k2 := fun q => xnums xs hx q
 have k3 := fun q => xown_s a ys hy q
 have hcl : cnt S ≤ S.length := List.countP_le_length
 have hv : qahe k m S xs = if (xs.length : Int) ≠ k then 2 else if (qabu S xs).2 = true then 7 else if m ≤ cnt S ∨ (S.length : Int) - 1 ≤ cnt S then 10 else 0 := rfl
 have hr : addX k m S ⟨xs, a, ys⟩ = if qahe k m S xs = 0 then S.set (qabu S xs).1 (some ⟨xs, a, ys⟩) else S := rfl
 have hR : (qabu S xs).1 < S.length := qaea _ _ (Nat.mod_lt _ hS.1)
 rw [show qab4 S xs S.length (qada S.length xs) = qabu S xs from rfl] at k1
 generalize qahe k m S xs = V at hv hr hc ⊢
 generalize addX k m S ⟨xs, a, ys⟩ = S' at hr ⊢
 obtain ⟨R, b, hp⟩ : ∃ R b, qabu S xs = (R, b) := ⟨_, _, rfl⟩
 rw [hp] at k1 hv hr hR hc
 simp only at k1 hv hr hR hc
 generalize hn : cnt S = n at *
 replace hv := Lib.hid hv
 replace hr := Lib.hid hr
 replace hc := Lib.hid hc
 replace hp := Lib.hid hp
 replace hn := Lib.hid hn
 replace hf := Lib.hid hf
 replace hsm := Lib.hid hsm
 unfold nums at k1 k2
 unfold hitc nums at k3
 obtain ⟨H2, hH2⟩ : ∃ H, H = xobj k m (cnt S') S' := ⟨_, rfl⟩
 rw [← hH2]
 replace hH2 := Lib.hid hH2
 unfold xobj at k1 ⊢
 refine qabc (N := 65) Try.func28 rfl rfl (by kernel_rfl) qajt (by simp) (by repeat' (first | exact trivial | refine And.intro ?_ ?_ | rfl | decide | exact PureR.ren _)) (by repeat' (first | exact trivial | refine And.intro ?_ ?_ | rfl | decide | exact PureR.ren _)) ?_
 rintro X hP hN hm
 unfold c_xadd hitc nums
 by_cases h1 : (xs.length : Int) = k
 ·subst h1
  have w1 : IntKind.i64.wrap ((S.length : Int) - 1) = (S.length : Int) - 1 := IntWalk.i64_in _ ⟨by omega, by omega⟩
  have w2 : IntKind.i64.wrap ((n : Int) + 1) = (n : Int) + 1 := qacb (by omega) (by omega)
  cases b with
  | true =>
   repeat' (first | (with_reducible first | refine zA ?_ | refine qabd ?_) | ((with_reducible refine qaao ?_); (try rw [hP]); simp -implicitDefEqProofs [w1, w2, *]) | ((with_reducible refine qaaz ?_); (try simp -implicitDefEqProofs [w1, w2, *])) | ((with_reducible refine qaba ?_); (try simp only [qaav, qaad, qaag])) | ((with_reducible refine qaau rfl (fun h => ?_) (fun h => ?_)) <;> have h' := h <;> (try simp at h') <;> (try subst h')) | ((refine qadj (k1 _) ⟨rfl, rfl, trivial⟩ ⟨rfl, rfl, trivial⟩ ?_); simp -implicitDefEqProofs [w1, w2, *]) | fail)
   have hV : V = 7 := by rw [hv.out, if_neg (by simp), if_pos rfl]
   have hS' : S' = S := by rw [hr.out, if_neg (by rw [hV]; decide)]
   subst hS'
   exact qadb hm hV hH2.out rfl rfl (by rw [hn.out]) rfl rfl rfl
  | false =>
   repeat' (first | (with_reducible first | refine zA ?_ | refine qabd ?_ | refine zK ?_) | ((with_reducible first | refine qaao ?_ | refine qacl (by rw [hP]; exact mixed) ?_); (try rw [hP]); simp -implicitDefEqProofs [w1, w2, *]) | ((with_reducible refine qaaz ?_); (try simp -implicitDefEqProofs [w1, w2, *])) | ((with_reducible refine qaba ?_); (try simp only [qaav, qaad, qaag])) | ((with_reducible refine qaau rfl (fun h => ?_) (fun h => ?_)) <;> have h' := h <;> (try simp at h') <;> (try subst h')) | ((with_reducible refine qaja (fun h => ?_) (fun h => ?_)) <;> have h' := h <;> (try simp at h') <;> (try subst h') <;> simp -implicitDefEqProofs [w1, w2, *]) | ((first | refine qadj (k1 _) ⟨rfl, rfl, trivial⟩ ⟨rfl, rfl, trivial⟩ ?_ | refine qaci (k2 _) ?_ | refine qaci (k3 _) ?_); simp -implicitDefEqProofs [w1, w2, *]) | fail)
   iterate 2
    ·have hV : V = 10 := by rw [hv.out, if_neg (by simp), if_neg (by simp), if_pos (by omega)]
     have hS' : S' = S := by rw [hr.out, if_neg (by rw [hV]; decide)]
     subst hS'
     exact qadb hm hV hH2.out rfl rfl (by rw [hn.out]) rfl rfl rfl
   ·have hV : V = 0 := by rw [hv.out, if_neg (by simp), if_neg (by simp), if_neg (by omega)]
    have hS' : S' = S.set R (some ⟨xs, a, ys⟩) := by rw [hr.out, if_pos hV]
    have hc' := hc.out hV
    rw [← hS'] at hc'
    refine qadb hm hV hH2.out rfl rfl (by rw [hc']; rfl) (by rw [hS', List.length_set]) rfl (by rw [hS', List.map_set, qaku (qapw _)]; rfl)
 ·repeat' (first | (with_reducible refine zA ?_) | ((with_reducible refine qaao ?_); (try rw [hP]); simp -implicitDefEqProofs [h1, *]) | ((with_reducible refine qaaz ?_); (try simp -implicitDefEqProofs [h1, *])) | ((with_reducible refine qaba ?_); (try simp only [qaav, qaad, qaag])) | ((with_reducible refine qaau rfl (fun h => ?_) (fun h => ?_)) <;> have h' := h <;> (try simp at h') <;> (try subst h')) | fail)
  ·have hV : V = 2 := by rw [hv.out, if_pos h1]
   have hS' : S' = S := by rw [hr.out, if_neg (by rw [hV]; decide)]
   subst hS'
   exact qadb hm hV hH2.out rfl rfl (by rw [hn.out]) rfl rfl rfl
  ·exact absurd rfl h1
end Go.Proofs.Yticeaegpkpjjeaa
