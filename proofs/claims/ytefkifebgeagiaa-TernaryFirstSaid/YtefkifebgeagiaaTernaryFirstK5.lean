/-
  Texts joined: XPfxE XPfxH XEntA XPfxJ XPfxK XPfxL XPfxM XLongD XTerT. No condition.
-/
import Derived.Test.YtefkifebgeagiaaRows
import Derived.Deep.QuietTactic
import Derived.BigQuiet
import Derived.WalkSmall
import Derived.Handy
import Derived.WalkSpells
import Derived.RegionTactic
import Derived.BigRegion
import Derived.Deep.RegionLaw
import Derived.Test.YtefkifebgeagiaaProg
import Derived.Deep.RegionHeld3
import Derived.Deep.DrawnRows
import Derived.Outline
import Derived.Deep.CutRange
import Derived.Deep.CutBlock
import Derived.Laws.StructEq
import Derived.Laws.Pointers
import Derived.ChangeKeysEq
import Derived.Laws.Bits64b
import Derived.Test.YtefkifebgeagiaaTernaryFirstK4
namespace Go.Proofs.Ytefkifebgeagiaa
set_option linter.all false
open Go.RowKit
attribute [local go_sem ↓] Go.wp_at_zero Go.wp_at_succ
def qadz (width : Int) (E : Nat → Int → Option (Int × List Int)) (key k : Int) : Int :=
 if qav2 width key k = false then 6 else if (E k.toNat (pre width.toNat key k.toNat)).isSome then 0 else 9
def qady (width n : Int) (E : Nat → Int → Option (Int × List Int)) (key k : Int) : Int := if qadz width E key k = 0 then n - 1 else n
def qaeu (width : Int) (E : Nat → Int → Option (Int × List Int)) (key k : Int) : Nat → Int → Option (Int × List Int) := if qadz width E key k = 0 then qae0 E k.toNat (pre width.toNat key k.toNat) none else E
theorem qamj {width n : Int} {E : Nat → Int → Option (Int × List Int)} {key k : Int} (h : qadz width E key k ≠ 0) : qady width n E key k = n ∧ qaeu width E key k = E := by unfold qady qaeu; rw [if_neg h, if_neg h]; exact ⟨rfl, rfl⟩
theorem qaj5 {width n : Int} {E : Nat → Int → Option (Int × List Int)} {key k : Int} (h : qadz width E key k = 0) : qady width n E key k = n - 1 ∧ qaeu width E key k = qae0 E k.toNat (pre width.toNat key k.toNat) none := by unfold qady qaeu; rw [if_pos h, if_pos h]; exact ⟨rfl, rfl⟩
end Go.Proofs.Ytefkifebgeagiaa
namespace Go.Proofs.Ytefkifebgeagiaa
set_option linter.all false
open Go.RowKit
attribute [local go_sem ↓] Go.wp_at_zero Go.wp_at_succ
def entL (E : Nat → Int → Option (Int × List Int)) (W i : Nat) (v : Int) : List Entry := match E i v with
 | none => []
 | some x => [⟨[v * 2 ^ (W - i)], [], i, 0, x.1, x.2⟩]
def allF (E : Nat → Int → Option (Int × List Int)) (W : Nat) : Nat → Nat → Int → List Entry
 | 0, i, v => entL E W i v
 | d + 1, i, v => entL E W i v ++ (allF E W d (i + 1) (2 * v) ++ allF E W d (i + 1) (2 * v + 1))
structure OwnE (w : World) (B : Nat) (v : Value) (xs : List Entry) : Prop where
 mine : MineL qacx (fun k => v.ownBlock = some k ∨ k < B) w 0 29 v xs
 ge : ∀ k, v.ownBlock = some k → B ≤ k
theorem OwnE.nil (w : World) (B : Nat) : OwnE w B (.slice none 0 0) [] := ⟨MineL.nil _ _ _ _ _, by simp [Value.ownBlock]⟩
theorem OwnE.below {w w' : World} {B : Nat} {v : Value} {xs : List Entry} (h : OwnE w B v xs) (hb : Below w.heap.size w w') : OwnE w' B v xs := ⟨h.mine.below hb, h.ge⟩
theorem OwnE.own {w : World} {B : Nat} {v : Value} {xs : List Entry} (h : OwnE w B v xs) : OwnL qacx (fun k => v.ownBlock = some k ∨ k < B ∨ w.heap.size ≤ k) w (fun k => v.ownBlock = some k) 29 v xs := by
 obtain ⟨⟨cs, ho, hr⟩, _⟩ := h
 exact ⟨⟨cs, ho, hr.weaken fun k hk hlt => hk.elim .inl fun h2 => h2.elim .inr fun h3 => absurd hlt (Nat.not_lt_of_le h3)⟩, fun k hk => hk⟩
theorem OwnE.of {w w' : World} {B : Nat} {v v' : Value} {xs : List Entry} (h : OwnL qacx (fun k => v.ownBlock = some k ∨ k < B ∨ w.heap.size ≤ k) w' (fun k => v.ownBlock = some k ∨ k = w.heap.size) 29 v' xs) (hge : ∀ k, v.ownBlock = some k → B ≤ k) (hB : B ≤ w.heap.size) : OwnE w' B v' xs := by
 obtain ⟨⟨cs, ho, hr⟩, hrow⟩ := h
 refine ⟨⟨cs, ho, hr.weaken fun k hk _ => hk.elim (fun hk => (hrow k hk).imp id fun e => by rw [e]; exact .inr (Nat.le_refl _)) fun h => .inr (.inl h)⟩, fun k hk => ?_⟩
 rcases hrow k hk with e | e
 ·exact hge k e
 ·rw [e]; exact hB
end Go.Proofs.Ytefkifebgeagiaa
namespace Go.Proofs.Ytefkifebgeagiaa
set_option linter.all false
open Go.RowKit
theorem OwnE.lt {w : World} {B : Nat} {v : Value} {xs : List Entry} (h : OwnE w B v xs) : ∀ k, v.ownBlock = some k → k < w.heap.size := fun k hk => (h.mine.lt k hk).2
end Go.Proofs.Ytefkifebgeagiaa
namespace Go.Proofs.Ytefkifebgeagiaa
set_option linter.all false
open Go.RowKit
attribute [local go_sem ↓] Go.wp_at_zero Go.wp_at_succ
abbrev PE := Nat → Int → Option (Int × List Int)
def noE : PE := fun _ _ => none
end Go.Proofs.Ytefkifebgeagiaa
namespace Go.Proofs.Ytefkifebgeagiaa
set_option linter.all false
open Go.RowKit
attribute [local go_sem ↓] Go.wp_at_zero Go.wp_at_succ
theorem qagm : LayP qacx qaag :=
 qam1 (fun e : Entry => (e.keys, e.masks, e.len, e.prio, e.act, e.args)) (qac9 (qaex (qac3 .u64)) (qac9 (qaex (qac3 .u64)) (qac9 (qac3 .i64) (qac9 (qac3 .i64) (qac9 (qac3 .i64) (qaex (qac3 .u64)))))))
theorem OwnE.mineB {w : World} {B : Nat} {v : Value} {xs : List Entry} (h : OwnE w B v xs) : MineL qacx (fun k => v.ownBlock = some k ∨ k < B) w B 29 v xs := by
 obtain ⟨⟨cs, ⟨hl, ho⟩, hr⟩, hge⟩ := h
 refine ⟨cs, ⟨hl, ?_⟩, hr⟩
 rcases ho with h0 | ⟨g, cap, cur, rfl, hg, rest⟩
 ·exact .inl h0
 ·exact .inr ⟨g, cap, cur, rfl, hge g rfl, rest⟩
theorem OwnE.view {w : World} {B : Nat} {v : Value} {xs : List Entry} (h : OwnE w B v xs) {A : Nat → Prop} {ρ : qabr} (hA : ∀ k, A k → k < B) : RepV w A ρ (ents xs) v := by
 obtain ⟨ao, c, rfl, hr, hb⟩ := h.mineB.rd (A' := fun k => k < B) (fun k hk _ => .inr hk) (fun k h1 _ h2 => Nat.not_lt_of_le h1 h2)
 exact (qaei qagm hr).weaken fun k hk _ => hA k hk
end Go.Proofs.Ytefkifebgeagiaa
namespace Go.Proofs.Ytefkifebgeagiaa
set_option linter.all false
open Go.RowKit
def ce (W i : Nat) (v : Int) (x : Int × List Int) : Entry := ⟨[v * 2 ^ (W - i)], [], i, 0, x.1, x.2⟩
theorem qamq {E : Nat → Int → Option (Int × List Int)} {W i : Nat} {v : Int} {e : Entry} : e ∈ entL E W i v ↔ ∃ x, E i v = some x ∧ e = ce W i v x := by
 unfold entL ce
 cases E i v <;> simp
theorem qam7 (u : Int) (a : Nat) : u / 2 ^ (a + 1) = u / 2 ^ a / 2 := by
 have hp : (0 : Int) ≤ 2 ^ a := Int.pow_nonneg (by decide)
 rw [Int.pow_succ]
 first | exact (Int.ediv_ediv_of_nonneg hp).symm | exact (Int.ediv_ediv hp).symm | exact (Int.ediv_ediv_eq_ediv_mul _ hp).symm
theorem qauy {E : Nat → Int → Option (Int × List Int)} {W : Nat} : ∀ (d i : Nat) (v : Int) (e : Entry), e ∈ allF E W d i v ↔ ∃ (j : Nat) (u : Int) (x : Int × List Int), i ≤ j ∧ j ≤ i + d ∧ u / 2 ^ (j - i) = v ∧ E j u = some x ∧ e = ce W j u x := by
 intro d
 induction d with
 | zero =>
  intro i v e
  rw [show allF E W 0 i v = entL E W i v from rfl, qamq]
  constructor
  ·rintro ⟨x, h1, h2⟩
   exact ⟨i, v, x, Nat.le_refl _, Nat.le_refl _, by simp, h1, h2⟩
  ·rintro ⟨j, u, x, h1, h2, h3, h4, h5⟩
   obtain rfl : j = i := by omega
   simp at h3
   subst h3
   exact ⟨x, h4, h5⟩
 | succ d ih =>
  intro i v e
  rw [show allF E W (d + 1) i v = entL E W i v ++ (allF E W d (i + 1) (2 * v) ++ allF E W d (i + 1) (2 * v + 1)) from rfl, List.mem_append, List.mem_append, qamq, ih, ih]
  have key : ∀ (j : Nat) (u : Int), i + 1 ≤ j → u / 2 ^ (j - i) = u / 2 ^ (j - (i + 1)) / 2 := fun j u hj => by
   rw [← qam7, show j - (i + 1) + 1 = j - i by omega]
  constructor
  ·rintro (⟨x, h1, h2⟩ | ⟨j, u, x, h1, h2, h3, h4, h5⟩ | ⟨j, u, x, h1, h2, h3, h4, h5⟩)
   ·exact ⟨i, v, x, Nat.le_refl _, by omega, by simp, h1, h2⟩
   ·exact ⟨j, u, x, by omega, by omega, by rw [key j u h1, h3]; omega, h4, h5⟩
   ·exact ⟨j, u, x, by omega, by omega, by rw [key j u h1, h3]; omega, h4, h5⟩
  ·rintro ⟨j, u, x, h1, h2, h3, h4, h5⟩
   by_cases hj : j = i
   ·subst hj
    simp at h3
    subst h3
    exact .inl ⟨x, h4, h5⟩
   ·rw [key j u (by omega)] at h3
    generalize hc : u / 2 ^ (j - (i + 1)) = c at h3
    rcases (show c = 2 * v ∨ c = 2 * v + 1 by omega) with e | e
    ·exact .inr (.inl ⟨j, u, x, by omega, by omega, by rw [hc, e], h4, h5⟩)
    ·exact .inr (.inr ⟨j, u, x, by omega, by omega, by rw [hc, e], h4, h5⟩)
theorem qail (E : Nat → Int → Option (Int × List Int)) (W i : Nat) (v : Int) : (entL E W i v).length = (E i v).toList.length := by
 unfold entL
 cases E i v <;> rfl
def qagb (d i : Nat) (v : Int) (j : Nat) (u : Int) : Prop := i ≤ j ∧ j ≤ i + d ∧ u / 2 ^ (j - i) = v
instance (d i : Nat) (v : Int) (j : Nat) (u : Int) : Decidable (qagb d i v j u) := by unfold qagb; infer_instance
theorem qamy (E : Nat → Int → Option (Int × List Int)) (W : Nat) (j : Nat) (u : Int) (y : Option (Int × List Int)) : ∀ (d i : Nat) (v : Int),
  (allF (qae0 E j u y) W d i v).length + (if qagb d i v j u then (E j u).toList.length else 0) = (allF E W d i v).length + (if qagb d i v j u then y.toList.length else 0) := by
 have here : ∀ i v, (j = i ∧ u = v) → qae0 E j u y i v = y := fun i v h => by unfold qae0; rw [if_pos ⟨h.1.symm, h.2.symm⟩]
 have away : ∀ i v, ¬ (j = i ∧ u = v) → qae0 E j u y i v = E i v := fun i v h => by unfold qae0; rw [if_neg fun h2 => h ⟨h2.1.symm, h2.2.symm⟩]
 intro d
 induction d with
 | zero =>
  intro i v
  rw [show ∀ E, allF E W 0 i v = entL E W i v from fun _ => rfl, show ∀ E, allF E W 0 i v = entL E W i v from fun _ => rfl, qail, qail]
  by_cases h : j = i ∧ u = v
  ·rw [here i v h]
   obtain ⟨rfl, rfl⟩ := h
   rw [if_pos (by unfold qagb; simp), if_pos (by unfold qagb; simp)]
   omega
  ·rw [away i v h]
   have : ¬ qagb 0 i v j u := by
    rintro ⟨h1, h2, h3⟩
    obtain rfl : j = i := by omega
    simp at h3
    exact h ⟨rfl, h3⟩
   rw [if_neg this, if_neg this]
 | succ d ih =>
  intro i v
  have A := ih (i + 1) (2 * v)
  have B := ih (i + 1) (2 * v + 1)
  rw [show ∀ E, allF E W (d + 1) i v = entL E W i v ++ (allF E W d (i + 1) (2 * v) ++ allF E W d (i + 1) (2 * v + 1)) from fun _ => rfl, show ∀ E, allF E W (d + 1) i v = entL E W i v ++ (allF E W d (i + 1) (2 * v) ++ allF E W d (i + 1) (2 * v + 1)) from fun _ => rfl]
  simp only [List.length_append, qail]
  by_cases hj : j ≤ i
  ·have n1 : ∀ c, ¬ qagb d (i + 1) c j u := fun c h => by have := h.1; omega
   rw [if_neg (n1 _), if_neg (n1 _)] at A
   rw [if_neg (n1 _), if_neg (n1 _)] at B
   by_cases h : j = i ∧ u = v
   ·rw [here i v h]
    obtain ⟨rfl, rfl⟩ := h
    rw [if_pos (by unfold qagb; simp), if_pos (by unfold qagb; simp)]
    omega
   ·rw [away i v h]
    have : ¬ qagb (d + 1) i v j u := by
     rintro ⟨h1, h2, h3⟩
     obtain rfl : j = i := by omega
     simp at h3
     exact h ⟨rfl, h3⟩
    rw [if_neg this, if_neg this]
    omega
  ·rw [away i v (by omega)]
   have hk : u / 2 ^ (j - i) = u / 2 ^ (j - (i + 1)) / 2 := by rw [← qam7, show j - (i + 1) + 1 = j - i by omega]
   obtain ⟨c, hc⟩ : ∃ c, u / 2 ^ (j - (i + 1)) = c := ⟨_, rfl⟩
   rw [hc] at hk
   have hA : qagb d (i + 1) (2 * v) j u ↔ j ≤ i + 1 + d ∧ c = 2 * v := by unfold qagb; rw [hc]; exact ⟨fun h => ⟨h.2.1, h.2.2⟩, fun h => ⟨by omega, h.1, h.2⟩⟩
   have hB : qagb d (i + 1) (2 * v + 1) j u ↔ j ≤ i + 1 + d ∧ c = 2 * v + 1 := by unfold qagb; rw [hc]; exact ⟨fun h => ⟨h.2.1, h.2.2⟩, fun h => ⟨by omega, h.1, h.2⟩⟩
   have hG : qagb (d + 1) i v j u ↔ j ≤ i + 1 + d ∧ c / 2 = v := by unfold qagb; rw [hk]; exact ⟨fun h => ⟨by omega, h.2.2⟩, fun h => ⟨by omega, by omega, h.2⟩⟩
   simp only [hA] at A
   simp only [hB] at B
   simp only [hG]
   by_cases hd : j ≤ i + 1 + d
   ·by_cases h0 : c = 2 * v
    ·rw [if_pos ⟨hd, h0⟩, if_pos ⟨hd, h0⟩] at A
     rw [if_neg (by omega), if_neg (by omega)] at B
     rw [if_pos ⟨hd, by omega⟩, if_pos ⟨hd, by omega⟩]
     omega
    ·by_cases h1 : c = 2 * v + 1
     ·rw [if_neg (by omega), if_neg (by omega)] at A
      rw [if_pos ⟨hd, h1⟩, if_pos ⟨hd, h1⟩] at B
      rw [if_pos ⟨hd, by omega⟩, if_pos ⟨hd, by omega⟩]
      omega
     ·rw [if_neg (by omega), if_neg (by omega)] at A
      rw [if_neg (by omega), if_neg (by omega)] at B
      rw [if_neg (by omega), if_neg (by omega)]
      omega
   ·rw [if_neg (by omega), if_neg (by omega)] at A
    rw [if_neg (by omega), if_neg (by omega)] at B
    rw [if_neg (by omega), if_neg (by omega)]
    omega
end Go.Proofs.Ytefkifebgeagiaa
namespace Go.Proofs.Ytefkifebgeagiaa
set_option linter.all false
open Go.RowKit
structure PInv (W : Nat) (n : Int) (E : PE) : Prop where
 cnt : n = ((allF E W W 0 0).length : Int)
 ok : ∀ i v x, E i v = some x → i ≤ W ∧ 0 ≤ v ∧ v < 2 ^ i ∧ x.2.length ≤ 1000 ∧ AllFit .u64 x.2 ∧ Fits .i64 x.1
theorem PInv.none (W : Nat) : PInv W 0 noE := by
 refine ⟨?_, fun i v x h => by cases h⟩
 have : allF noE W W 0 0 = [] := by
  apply List.eq_nil_iff_forall_not_mem.2
  intro e he
  obtain ⟨j, u, x, _, _, _, h, _⟩ := (qauy W 0 0 e).1 he
  cases h
 rw [this]; rfl
theorem qaed {W j : Nat} {u : Int} (hj : j ≤ W) (h0 : 0 ≤ u) (h1 : u < 2 ^ j) : qagb W 0 0 j u := ⟨Nat.zero_le _, by omega, Int.ediv_eq_zero_of_lt h0 (by simpa using h1)⟩
theorem PInv.add {W : Nat} {n most : Int} {E : PE} (h : PInv W n E) {key k act : Int} {args : List Int} (h0 : 0 ≤ key) (ha : args.length ≤ 1000) (hf : AllFit .u64 args) (hact : Fits .i64 act) :
  PInv W (qafg W most n E key k) (qagi W most n E key k act args) ∧ (n ≤ most → qafg W most n E key k ≤ most) := by
 by_cases hc : qafh W most n E key k = 0
 ·obtain ⟨e1, e2⟩ := qamk hc act args
  rw [e1, e2]
  unfold qafh at hc
  split at hc
  ·cases hc
  rename_i hp
  split at hc
  ·cases hc
  rename_i hn
  split at hc
  ·cases hc
  rename_i hm
  have hp2 : qav2 W key k = true := by simpa using hp
  obtain ⟨W', K, e3, rfl, hW1, hW2, hK, hlt, _⟩ := qagj hp2
  obtain rfl : W = W' := by omega
  simp only [Int.toNat_natCast] at hn ⊢
  have hn2 : E K (pre W key K) = Option.none := by simpa using hn
  have l1 := qagh (W := W) h0 K
  have l2 := pre_lt hlt hK
  refine ⟨⟨?_, ?_⟩, fun _ => by omega⟩
  ·have := qamy E W K (pre W key K) (some (act, args)) W 0 0
   rw [if_pos (qaed hK l1 l2), if_pos (qaed hK l1 l2), hn2] at this
   simp at this
   rw [h.cnt]; omega
  ·intro i v x hx
   unfold qae0 at hx
   split at hx
   ·rename_i e
    obtain ⟨rfl, rfl⟩ := e
    cases hx
    exact ⟨hK, l1, l2, ha, hf, hact⟩
   ·exact h.ok i v x hx
 ·obtain ⟨e1, e2⟩ := qaql hc act args
  rw [e1, e2]
  exact ⟨h, fun h => h⟩
theorem PInv.drop {W : Nat} {n : Int} {E : PE} (h : PInv W n E) {key k : Int} (h0 : 0 ≤ key) :
  PInv W (qady W n E key k) (qaeu W E key k) ∧ qady W n E key k ≤ n := by
 by_cases hc : qadz W E key k = 0
 ·obtain ⟨e1, e2⟩ := qaj5 (n := n) hc
  rw [e1, e2]
  unfold qadz at hc
  split at hc
  ·cases hc
  rename_i hp
  split at hc
  case isFalse => cases hc
  rename_i hn
  have hp2 : qav2 W key k = true := by simpa using hp
  obtain ⟨W', K, e3, rfl, hW1, hW2, hK, hlt, _⟩ := qagj hp2
  obtain rfl : W = W' := by omega
  simp only [Int.toNat_natCast] at hn ⊢
  obtain ⟨x, hx⟩ := Option.isSome_iff_exists.1 hn
  have l1 := qagh (W := W) h0 K
  have l2 := pre_lt hlt hK
  refine ⟨⟨?_, ?_⟩, by omega⟩
  ·have := qamy E W K (pre W key K) Option.none W 0 0
   rw [if_pos (qaed hK l1 l2), if_pos (qaed hK l1 l2), hx] at this
   simp at this
   rw [h.cnt]; omega
  ·intro i v x hx
   unfold qae0 at hx
   split at hx
   ·cases hx
   ·exact h.ok i v x hx
 ·obtain ⟨e1, e2⟩ := qamj (n := n) hc
  rw [e1, e2]
  exact ⟨h, Int.le_refl _⟩
end Go.Proofs.Ytefkifebgeagiaa
namespace Go.Proofs.Ytefkifebgeagiaa
set_option linter.all false
open Go.RowKit
theorem qam0 : LayP qahx qaea := qam1 (fun s : TStep => (s.d, s.e)) (qac9 (qac3 .i64) qagm)
end Go.Proofs.Ytefkifebgeagiaa
namespace Go.Proofs.Ytefkifebgeagiaa
set_option linter.all false
open Go.RowKit
attribute [local simp] qaar qaaq qaac qaai qaad qaah qaao qaap qaab qaa5 SOp.run SX.ev putd puts argS upds SOp.touch SSt.keep SSt.skip gets geth puth delh idOf SV.cells? setL qab5 qab6 sbin eq0 eq1 eqL qab4 qabe qabf qaas qaat qaaa qaau qaa6 qaae qaal FrzOk qaa9 qaa1 qaa7 qaa8 qaav qaa0 qabc qaa2 qaax qaba qaaw frzS frzH frz frz1 frz0 SlotsM ObjsM ObjM rn ren ren1 ren0 qabl qab0 qab3 qabk qabd qabz qab2 CoL qabb qabu dels adds idsH qabn
theorem qaf9 (q : Nat) : SCalls Try.prog 6 [] [] q (.bool true) [] := tbeg_s q
theorem qad6 (l : List TStep) (q : Nat) : SCalls Try.prog 7 [qafu l] [] q (.bool (bigS l)) [] := qabi (great_s l) (fun σ => rfl) (fun σ => rfl) rfl q
def qahu (A : List Entry) (xs : List Int) (i : Nat) : Option Nat := (A.take i).findIdx? (fitK xs)
def tfstI (o : Option Nat) : Int := match o with | some f => f | none => -1
def tfstM (o : Option Nat) : Int := match o with | some _ => 1 | none => 0
theorem qals {A : List Entry} {xs : List Int} {i : Nat} (hi : i < A.length) : qahu A xs (i + 1) = (qahu A xs i).or (if fitK xs A[i] = true then some i else none) := by
 unfold qahu
 rw [List.take_succ_eq_append_getElem hi, List.findIdx?_append]
 congr 1
 rw [List.length_take, Nat.min_eq_left (by omega)]
 cases h : fitK xs A[i] <;> simp [List.findIdx?_cons, h]
theorem qagc {A : List Entry} {xs : List Int} {i f : Nat} (h : qahu A xs i = some f) : ∃ hf : f < A.length, f < i ∧ fitK xs A[f] = true ∧ ∀ j (hj : j < A.length), j < f → fitK xs A[j] = false := by
 obtain ⟨h1, h2, h3⟩ := List.findIdx?_eq_some_iff_getElem.1 h
 rw [List.length_take] at h1
 refine ⟨by omega, by omega, by simpa using h2, fun j hj hjf => ?_⟩
 have := h3 j hjf
 simpa using this
theorem qaqd {A : List Entry} {xs : List Int} : (∃ (f : Nat) (hf : f < A.length), qahu A xs A.length = some f ∧ A.find? (fitK xs) = some A[f]) ∨ (qahu A xs A.length = none ∧ A.find? (fitK xs) = none) := by
 cases h : qahu A xs A.length with
 | some f =>
  obtain ⟨hf, h1, h2, h3⟩ := qagc h
  exact .inl ⟨f, hf, rfl, List.find?_eq_some_iff_getElem.2 ⟨h2, f, hf, rfl, fun j hj => by rw [h3 j (by omega) hj]; rfl⟩⟩
 | none =>
  refine .inr ⟨rfl, List.find?_eq_none.2 fun x hx => ?_⟩
  unfold qahu at h
  rw [List.take_length] at h
  rw [List.findIdx?_eq_none_iff.1 h x hx]; decide
theorem qat1 {xs : List Int} (h : (xs.length : Int) = 2) : ∃ a b, xs = [a, b] := by
 have h2 : xs.length = 2 := by omega
 match xs, h2 with
 | [a, b], _ => exact ⟨a, b, rfl⟩
set_option maxRecDepth 4000 in
theorem tfst_s (m : Int) (l : List TStep) (xs : List Int) : SCalls Try.prog 3 [.int .i64 m, qafu l, nums .u64 xs] [] 0 (.bool true) [] := by
 refine qaan (N := 147) Try.func3 rfl rfl (by kernel_rfl) qakd (by simp) (by repeat' (first | exact trivial | refine And.intro ?_ ?_ | rfl | decide | exact PureR.ren _)) (by repeat' (first | exact trivial | refine And.intro ?_ ?_ | rfl | decide | exact PureR.ren _)) ?_
 rintro X hP hN hm
 unfold c_tfst
 cases hb : bigS l
 case true =>
  repeat' (first | (with_reducible refine zA ?_) | ((with_reducible refine qaaf ?_); (try rw [hP]); simp -implicitDefEqProofs [nums, *]) | ((with_reducible refine qaaz ?_); (try simp -implicitDefEqProofs [nums, *])) | ((with_reducible refine qaay ?_); (try simp only [qaas, qaaa, qaae])) | ((with_reducible refine qaak rfl (fun h => ?_) (fun h => ?_)) <;> have h' := h <;> (try simp at h') <;> (try subst h')) | ((first | refine qacc (qaf9 _) ?_ | refine qacc (qad6 l _) ?_); simp -implicitDefEqProofs [nums, *]) | (with_reducible refine zN hm ?_) | fail)
  all_goals rfl
 case false =>
  by_cases hx2 : xs.length = 2
  case neg =>
   have e1 : ((xs.length : Int) != 2) = true := by simp; omega
   repeat' (first | (with_reducible refine zA ?_) | ((with_reducible refine qaaf ?_); (try rw [hP]); simp -implicitDefEqProofs [nums, e1, *]) | ((with_reducible refine qaaz ?_); (try simp -implicitDefEqProofs [nums, e1, *])) | ((with_reducible refine qaay ?_); (try simp only [qaas, qaaa, qaae])) | ((with_reducible refine qaak rfl (fun h => ?_) (fun h => ?_)) <;> have h' := h <;> (try simp at h') <;> (try subst h')) | ((first | refine qacc (qaf9 _) ?_ | refine qacc (qad6 l _) ?_); simp -implicitDefEqProofs [nums, e1, *]) | (with_reducible refine zN hm ?_) | fail)
   all_goals rfl
  case pos =>
   obtain ⟨x0, x1, rfl⟩ : ∃ x0 x1, xs = [x0, x1] := by
    match xs, hx2 with
    | [a, b], _ => exact ⟨a, b, rfl⟩
   clear hx2
   have h200 : l.length ≤ 200 ∧ ∀ s ∈ l, bigE s.e = false := by
    simp only [bigS, Bool.or_eq_false_iff] at hb
    exact ⟨by have := hb.1; simp at this; omega, fun s hs => by have := List.any_eq_false.1 hb.2 s hs; simpa using this⟩
   replace h200 := Lib.hid h200
   repeat' (first | (with_reducible refine zA ?_) | ((with_reducible refine qaaf ?_); (try rw [hP]); simp -implicitDefEqProofs [nums, *]) | ((with_reducible refine qaaz ?_); (try simp -implicitDefEqProofs [nums, *])) | ((with_reducible refine qaak rfl (fun h => ?_) (fun h => ?_)) <;> have h' := h <;> (try simp at h') <;> (try subst h')) | ((first | refine qacc (qaf9 _) ?_ | refine qacc (qad6 l _) ?_ | refine qakp (tnew_a 2 m _) trivial ⟨rfl, trivial⟩ ?_); simp -implicitDefEqProofs [nums, *]) | fail)
   refine qabm (qacz (fun s (x : Nat × List Entry) => ⟨[(0, .int .i64 m), (1, qafu l), (2, nums .u64 [x0, x1]), (7, .ptr 0 0), (8, .int .i64 x.1)], [(0, .abs (qacq (some (2, m)) x.2))], 1⟩) (fun x => x.1 ≤ l.length ∧ TInv 2 x.2 ∧ x.2.length ≤ x.1 ∧ (x.2.length : Int) ≤ max m 0) (fun x => l.length - x.1) (0, []) (qaa3 [(0, 25)] hm ⟨Co.refl _, Co.refl _, Co.refl _, Co.refl _, Co.refl _, trivial⟩ ⟨⟨_, rfl, rfl⟩, trivial⟩ rfl (Nat.zero_le _)) ⟨by simp, qahy 2, by simp, by simp; omega⟩ ?_)
   rintro J hJ ⟨i, L⟩ ⟨g1, g2, g3, g4⟩
   unfold qajs
   simp only at g1 g2 g3 g4 ⊢
   rcases Nat.lt_or_ge i l.length with hi | hi
   ·have hbe := h200.out.2 l[i] (List.getElem_mem hi)
    have hl2 := h200.out.1
    simp only [bigE, Bool.or_eq_false_iff, decide_eq_false_iff_not] at hbe
    obtain ⟨d, e0, hle⟩ : ∃ d e0, l[i] = ⟨d, e0⟩ := ⟨_, _, rfl⟩
    rw [hle] at hbe
    simp only at hbe
    have hsm0 : qacb e0 := ⟨by omega, by omega, by omega⟩
    have k1 := fun q hq => qauf 2 m L e0 g2 (by omega) hsm0 0 q hq
    have k2 := fun q hq => tdrop_a 2 m L e0 g2 (by omega) hsm0 0 q hq
    have n1 : TInv 2 (addR 2 m L e0) ∧ (addR 2 m L e0).length ≤ i + 1 ∧ ((addR 2 m L e0).length : Int) ≤ max m 0 := ⟨qai4 g2 hsm0, by have := @qavt 2 m L e0; omega, qath g4⟩
    have n2 : TInv 2 (qalp 2 L e0) ∧ (qalp 2 L e0).length ≤ i + 1 ∧ ((qalp 2 L e0).length : Int) ≤ max m 0 := ⟨qaq2 g2, by have := @qajp 2 L e0; omega, by have := @qajp 2 L e0; omega⟩
    generalize addR 2 m L e0 = L1 at k1 n1
    generalize qalp 2 L e0 = L2 at k2 n2
    generalize addV 2 m L e0 = v1 at k1
    generalize dropV 2 L e0 = v2 at k2
    have wi : IntKind.i64.wrap ((i : Int) + 1) = (i : Int) + 1 := qacj (by omega) (by omega)
    have gi : l[i]? = some ⟨d, e0⟩ := by rw [List.getElem?_eq_getElem hi, hle]
    replace n1 := Lib.hid n1
    replace n2 := Lib.hid n2
    replace g2 := Lib.hid g2
    replace g4 := Lib.hid g4
    clear hbe hl2 hsm0 g3
    unfold qaag at k1 k2
    by_cases hd : d = 2
    ·subst hd
     repeat' (first | (with_reducible first | refine zA ?_ | refine qaa4 ?_) | ((with_reducible refine qaaf ?_); (try rw [hP]); simp -implicitDefEqProofs [qafu, qaea, qaag, wi, hle, List.getElem?_eq_getElem hi, *]) | ((with_reducible refine qaaz ?_); (try simp -implicitDefEqProofs [qafu, qaea, qaag, wi, hle, List.getElem?_eq_getElem hi, *])) | ((with_reducible refine qaak rfl (fun h => ?_) (fun h => ?_)) <;> have h' := h <;> (try simp at h') <;> (try subst h')) | (refine qakp (k2 _ (by simp)) ⟨rfl, trivial⟩ ⟨rfl, trivial⟩ ?_; simp -implicitDefEqProofs [qafu, qaea, qaag, wi, hle, List.getElem?_eq_getElem hi, *]) | (with_reducible first | refine za ?_ ?_ | refine qajd ?_ ?_) | (with_reducible first | exact qaaj | exact qaam) | ((with_reducible first | refine zga ?_ | refine zgb ?_); rfl) | ((with_reducible first | refine zgd ?_ | refine zge ?_); (first | omega | (simp; done))) | (exact Co.refl _) | ((refine qabo hJ (i + 1, L2) ?_ ?_ ?_; (with_reducible refine qaa3 [] hm ?_ ?_ ?_ ?_) <;> (try simp only [zT, puth, Nat.reduceEqDiff, reduceIte, Nat.reduceAdd]))) | fail)
     all_goals first | exact ⟨by omega, n2.out⟩ | trace_state
    ·have hdb : (d == 2) = false := by simpa using hd
     repeat' (first | (with_reducible first | refine zA ?_ | refine qaa4 ?_) | ((with_reducible refine qaaf ?_); (try rw [hP]); simp -implicitDefEqProofs [qafu, qaea, qaag, wi, hle, List.getElem?_eq_getElem hi, hdb, *]) | ((with_reducible refine qaaz ?_); (try simp -implicitDefEqProofs [qafu, qaea, qaag, wi, hle, List.getElem?_eq_getElem hi, hdb, *])) | ((with_reducible refine qaak rfl (fun h => ?_) (fun h => ?_)) <;> have h' := h <;> (try simp at h') <;> (try subst h')) | (refine qakp (k1 _ (by simp)) ⟨rfl, trivial⟩ ⟨rfl, trivial⟩ ?_; simp -implicitDefEqProofs [qafu, qaea, qaag, wi, hle, List.getElem?_eq_getElem hi, hdb, *]) | (with_reducible first | refine za ?_ ?_ | refine qajd ?_ ?_) | (with_reducible first | exact qaaj | exact qaam) | ((with_reducible first | refine zga ?_ | refine zgb ?_); rfl) | ((with_reducible first | refine zgd ?_ | refine zge ?_); (first | omega | (simp; done))) | (exact Co.refl _) | ((refine qabo hJ (i + 1, L1) ?_ ?_ ?_; (with_reducible refine qaa3 [] hm ?_ ?_ ?_ ?_) <;> (try simp only [zT, puth, Nat.reduceEqDiff, reduceIte, Nat.reduceAdd]))) | fail)
     all_goals first | exact ⟨by omega, n1.out⟩ | trace_state
   ·obtain rfl : i = l.length := by omega
    have hl2 := h200.out.1
    have hLl : L.length ≤ 1000000 := by omega
    have hp := qai3 g2
    obtain ⟨A, hA⟩ : ∃ A, A = qafr L := ⟨_, rfl⟩
    have k1 := fun q => tall_a 2 m L g2 hLl 0 q
    have k2 := fun q => qalu 2 m L [x0, x1] g2 hLl (by simp) 0 q
    have hfo : qagd 2 L [x0, x1] = A.find? (fitK [x0, x1]) := by unfold qagd; rw [if_pos (by simp), hA]
    have hlt : ∀ f i (hf : f < A.length) (hi : i < A.length), f < i → fitK [x0, x1] A[f] = true → fitK [x0, x1] A[i] = true → A[f].prio < A[i].prio := by
     subst hA
     exact fun f i hf hi hfi ha hb => @all_lt 2 L g2 [x0, x1] (by simp) f i hfi hi ha hb
    rw [← hA] at hp k1
    have hlen : ∀ e ∈ A, (e.keys.length : Int) = 2 ∧ (e.masks.length : Int) = 2 := fun e he => qagp (g2.fit e (hp.mem_iff.1 he))
    have hal : A.length = L.length := hp.length_eq
    have hsmA : ∀ e ∈ A, qacb e := fun e he => g2.small e (hp.mem_iff.1 he)
    rw [hfo] at k2
    rw [← hal] at g4 hLl
    replace hA := Lib.hid hA
    clear hp hal g2 g3
    replace g4 := Lib.hid g4
    replace hlen := Lib.hid hlen
    replace hsmA := Lib.hid hsmA
    replace hlt := Lib.hid hlt
    replace hfo := Lib.hid hfo
    replace hLl := Lib.hid hLl
    clear hJ g1 hi hl2
    obtain ⟨a, r, ok, hv, hcond⟩ : ∃ a r ok, qahz (A.find? (fitK [x0, x1])) = .tup [.agg [.int .i64 a, nums .u64 r], .bool ok] ∧ ((∃ (f : Nat) (hf : f < A.length), qahu A [x0, x1] A.length = some f ∧ a = A[f].act ∧ r = A[f].args ∧ ok = true) ∨ (qahu A [x0, x1] A.length = none ∧ ok = false)) := by
     rcases @qaqd A [x0, x1] with ⟨f, hf, z1, z2⟩ | ⟨z1, z2⟩
     ·exact ⟨A[f].act, A[f].args, true, by rw [z2]; rfl, .inl ⟨f, hf, z1, rfl, rfl, rfl⟩⟩
     ·exact ⟨0, [], false, by rw [z2]; rfl, .inr ⟨z1, rfl⟩⟩
    rw [hv] at k2
    replace hv := Lib.hid hv
    replace hcond := Lib.hid hcond
    repeat' (first | (with_reducible refine zA ?_) | ((with_reducible refine qaaf ?_); (try rw [hP]); simp -implicitDefEqProofs [qafu, *]) | ((with_reducible refine qabt ?_); (try simp -implicitDefEqProofs [qafu, *])) | ((with_reducible refine qaak rfl (fun h => ?_) (fun h => ?_)) <;> have h' := h <;> (try simp at h') <;> (try subst h')) | ((first | refine qacg (k1 _) ⟨rfl, trivial⟩ ⟨rfl, trivial⟩ ?_ | refine qacg (k2 _) ⟨rfl, trivial⟩ ⟨rfl, trivial⟩ ?_); simp -implicitDefEqProofs [qafu, *]) | fail)
    refine qabm (qacz (fun s (z : Nat × Int × Int) => ⟨[(0, .int .i64 m), (2, nums .u64 [x0, x1]), (9, ents A), (10, .ptr 0 0), (11, .bool ok), (12, .int .i64 z.2.1), (13, .int .i64 z.2.2), (14, .int .i64 z.1)], [(0, .cells 36 [.int .i64 a, nums .u64 r])], 1⟩) (fun z => z.1 ≤ A.length ∧ z.2.1 = tfstI (qahu A [x0, x1] z.1) ∧ z.2.2 = tfstM (qahu A [x0, x1] z.1)) (fun z => A.length - z.1) (0, -1, 0) (qaa3 [(0, 28)] hm ⟨Co.refl _, Co.refl _, Co.refl _, Co.refl _, Co.refl _, Co.refl _, Co.refl _, Co.refl _, trivial⟩ ⟨⟨_, rfl, rfl, CoL.refl _⟩, trivial⟩ rfl (Nat.zero_le _)) ⟨by simp, by simp [qahu, tfstI], by simp [qahu, tfstM]⟩ ?_)
    rintro J hJ ⟨i, I, M⟩ ⟨g1, g2, g3⟩
    unfold qajr
    simp only at g1 g2 g3 ⊢
    unfold ents
    rcases Nat.lt_or_ge i A.length with hi | hi
    ·have hstep := @qals A [x0, x1] i hi
     have hsome := fun f => @qagc A [x0, x1] i f
     obtain ⟨q1, q2⟩ := hlen.out _ (List.getElem_mem hi)
     have hll := hLl.out
     have wi : IntKind.i64.wrap ((i : Int) + 1) = (i : Int) + 1 := qacj (by omega) (by omega)
     have hltf : ∀ f (hf : f < A.length), f < i → fitK [x0, x1] A[f] = true → fitK [x0, x1] A[i] = true → A[f].prio < A[i].prio := fun f hf hfi => hlt.out f i hf hi hfi
     generalize qahu A [x0, x1] i = o at g2 g3 hstep hsome
     generalize ho2 : qahu A [x0, x1] (i + 1) = o2 at hstep
     replace ho2 := Lib.hid ho2
     obtain ⟨a0, a1, m0, m1, yl, yp, yc, yr, hy⟩ : ∃ a0 a1 m0 m1 yl yp yc yr, A[i] = ⟨[a0, a1], [m0, m1], yl, yp, yc, yr⟩ := by
      generalize A[i] = y at q1 q2
      obtain ⟨ks, ms, yl, yp, yc, yr⟩ := y
      obtain ⟨p, q, rfl⟩ := qat1 q1
      obtain ⟨u, v, rfl⟩ := qat1 q2
      exact ⟨p, q, u, v, yl, yp, yc, yr, rfl⟩
     have hfk : fitK [x0, x1] A[i] = (bits .and .u64 x0 m0 == a0 && bits .and .u64 x1 m1 == a1) := by
      rw [hy]; simp [fitK, List.range_succ, el]
     rw [hfk] at hstep hltf
     clear q1 q2 hfk
     replace hcond := Lib.hid hcond
     have hlel : A.length ≤ maxLen := by unfold maxLen; omega
     have ef : ∀ o3 : Option Nat, o3 = o → o2 = o3 → i + 1 ≤ A.length ∧ I = tfstI o2 ∧ M = tfstM o2 := fun o3 e1 e2 => by rw [e2, e1]; exact ⟨by omega, g2, g3⟩
     by_cases c1 : bits .and .u64 x0 m0 = a0
     ·by_cases c2 : bits .and .u64 x1 m1 = a1
      ·rw [beq_iff_eq.2 c1, beq_iff_eq.2 c2, Bool.and_true, if_pos rfl] at hstep
       cases o with
       | none =>
        have g2' : I = -1 := g2
        have g3' : M = 0 := g3
        subst g2' g3'
        have g4 : o2 = some i := by rw [hstep]; rfl
        clear hstep hsome hltf g2 g3 ef
        replace g4 := Lib.hid g4
        repeat' (first | (with_reducible first | refine zA ?_ | refine qaa4 ?_ | refine zK ?_) | ((with_reducible first | refine qaaf ?_ | refine qabs (by rw [hP]; exact qaf0) ?_); (try rw [hP]); simp -implicitDefEqProofs [List.getElem?_eq_getElem hi, hy, qaag, nums, wi, c1, c2, *]) | ((with_reducible refine qaaz ?_); (try simp -implicitDefEqProofs [List.getElem?_eq_getElem hi, hy, qaag, nums, wi, c1, c2, *])) | ((with_reducible refine qaak rfl (fun h => ?_) (fun h => ?_)) <;> have h' := h <;> (try simp at h') <;> (try subst h')) | (with_reducible first | refine za ?_ ?_ | refine zb ?_ ?_ ?_ ?_) | (with_reducible first | exact qaaj | exact qaam) | ((with_reducible first | refine zga ?_ | refine zgb ?_); rfl) | ((with_reducible first | refine zgd ?_ | refine zge ?_); (first | omega | (simp; done))) | (exact Co.refl _) | (exact CoL.refl _) | ((refine qabo hJ ((i + 1, ?_, ?_)) ?_ ?_ ?_; rotate_left 2; (with_reducible refine qaa3 [] hm ?_ ?_ ?_ ?_) <;> (try simp only [zT, puth, Nat.reduceEqDiff, reduceIte, Nat.reduceAdd]))) | fail)
        all_goals first | (simp only [ho2.out, g4.out]; exact ⟨by omega, rfl, rfl⟩) | trace_state
       | some f =>
        obtain ⟨hf, f1, f2, f3⟩ := hsome f rfl
        have hpf := hltf f hf f1 f2 (by rw [beq_iff_eq.2 c1, beq_iff_eq.2 c2]; rfl)
        have g2' : I = f := g2
        have g3' : M = 1 := g3
        subst g2' g3'
        have g4 := ef _ rfl (by rw [hstep]; rfl)
        clear hstep hsome hltf g2 g3 ef f2 f3
        obtain ⟨zk, zm, zl, zp, zc, zr, hz⟩ : ∃ zk zm zl zp zc zr, A[f] = ⟨zk, zm, zl, zp, zc, zr⟩ := ⟨_, _, _, _, _, _, rfl⟩
        rw [hz, hy] at hpf
        replace g4 := Lib.hid g4
        have p1 : ¬ (yp < zp) := by simp only at hpf; omega
        have p2 : (yp == zp) = false := by simp only at hpf; simp; omega
        have p3 : ¬ ((f : Int) < 0) := by omega
        clear hpf
        repeat' (first | (with_reducible first | refine zA ?_ | refine qaa4 ?_ | refine zK ?_) | ((with_reducible first | refine qaaf ?_ | refine qabs (by rw [hP]; exact qaf0) ?_); (try rw [hP]); simp -implicitDefEqProofs [List.getElem?_eq_getElem hi, hy, qaag, nums, wi, c1, c2, List.getElem?_eq_getElem hf, hz, p1, p2, p3, *]) | ((with_reducible refine qaaz ?_); (try simp -implicitDefEqProofs [List.getElem?_eq_getElem hi, hy, qaag, nums, wi, c1, c2, List.getElem?_eq_getElem hf, hz, p1, p2, p3, *])) | ((with_reducible refine qaak rfl (fun h => ?_) (fun h => ?_)) <;> have h' := h <;> (try simp at h') <;> (try subst h')) | (with_reducible first | refine za ?_ ?_ | refine zb ?_ ?_ ?_ ?_) | (with_reducible first | exact qaaj | exact qaam) | ((with_reducible first | refine zga ?_ | refine zgb ?_); rfl) | ((with_reducible first | refine zgd ?_ | refine zge ?_); (first | omega | (simp; done))) | (exact Co.refl _) | (exact CoL.refl _) | ((refine qabo hJ ((i + 1, ?_, ?_)) ?_ ?_ ?_; rotate_left 2; (with_reducible refine qaa3 [] hm ?_ ?_ ?_ ?_) <;> (try simp only [zT, puth, Nat.reduceEqDiff, reduceIte, Nat.reduceAdd]))) | fail)
        all_goals first | (simp only [ho2.out]; exact g4.out) | trace_state
      ·rw [beq_iff_eq.2 c1, beq_eq_false_iff_ne.2 c2, Bool.and_false, if_neg (by decide)] at hstep
       have g4 := ef _ rfl (by rw [hstep]; cases o <;> rfl)
       have c2b : (bits .and .u64 x1 m1 != a1) = true := by simpa using c2
       clear c2 hstep hsome hltf g2 g3 ef
       replace g4 := Lib.hid g4
       repeat' (first | (with_reducible first | refine zA ?_ | refine qaa4 ?_ | refine zK ?_) | ((with_reducible first | refine qaaf ?_ | refine qabs (by rw [hP]; exact qaf0) ?_); (try rw [hP]); simp -implicitDefEqProofs [List.getElem?_eq_getElem hi, hy, qaag, nums, wi, c1, c2b, *]) | ((with_reducible first | refine qaaz ?_ | refine qabt ?_); (try simp -implicitDefEqProofs [List.getElem?_eq_getElem hi, hy, qaag, nums, wi, c1, c2b, *])) | ((with_reducible refine qaak rfl (fun h => ?_) (fun h => ?_)) <;> have h' := h <;> (try simp at h') <;> (try subst h')) | (with_reducible first | refine za ?_ ?_ | refine zb ?_ ?_ ?_ ?_) | (with_reducible first | exact qaaj | exact qaam) | ((with_reducible first | refine zga ?_ | refine zgb ?_); rfl) | ((with_reducible first | refine zgd ?_ | refine zge ?_); (first | omega | (simp; done))) | (exact Co.refl _) | (exact CoL.refl _) | ((refine qabo hJ ((i + 1, ?_, ?_)) ?_ ?_ ?_; rotate_left 2; (with_reducible refine qaa3 [] hm ?_ ?_ ?_ ?_) <;> (try simp only [zT, puth, Nat.reduceEqDiff, reduceIte, Nat.reduceAdd]))) | fail)
       all_goals first | (simp only [ho2.out]; exact g4.out) | trace_state
     ·rw [beq_eq_false_iff_ne.2 c1, Bool.false_and, if_neg (by decide)] at hstep
      have g4 := ef _ rfl (by rw [hstep]; cases o <;> rfl)
      have c1b : (bits .and .u64 x0 m0 != a0) = true := by simpa using c1
      clear c1 hstep hsome hltf g2 g3 ef
      replace g4 := Lib.hid g4
      repeat' (first | (with_reducible first | refine zA ?_ | refine qaa4 ?_ | refine zK ?_) | ((with_reducible first | refine qaaf ?_ | refine qabs (by rw [hP]; exact qaf0) ?_); (try rw [hP]); simp -implicitDefEqProofs [List.getElem?_eq_getElem hi, hy, qaag, nums, wi, c1b, *]) | ((with_reducible first | refine qaaz ?_ | refine qabt ?_); (try simp -implicitDefEqProofs [List.getElem?_eq_getElem hi, hy, qaag, nums, wi, c1b, *])) | ((with_reducible refine qaak rfl (fun h => ?_) (fun h => ?_)) <;> have h' := h <;> (try simp at h') <;> (try subst h')) | (with_reducible first | refine za ?_ ?_ | refine zb ?_ ?_ ?_ ?_) | (with_reducible first | exact qaaj | exact qaam) | ((with_reducible first | refine zga ?_ | refine zgb ?_); rfl) | ((with_reducible first | refine zgd ?_ | refine zge ?_); (first | omega | (simp; done))) | (exact Co.refl _) | (exact CoL.refl _) | ((refine qabo hJ ((i + 1, ?_, ?_)) ?_ ?_ ?_; rotate_left 2; (with_reducible refine qaa3 [] hm ?_ ?_ ?_ ?_) <;> (try simp only [zT, puth, Nat.reduceEqDiff, reduceIte, Nat.reduceAdd]))) | fail)
      all_goals first | (simp only [ho2.out]; exact g4.out) | trace_state
    ·obtain rfl : i = A.length := by omega
     rcases hcond.out with ⟨f, hf, z1, rfl, rfl, rfl⟩ | ⟨z1, rfl⟩
     ·rw [z1] at g2 g3
      have g2' : I = f := g2
      have g3' : M = 1 := g3
      subst g2' g3'
      have hsm := hsmA.out _ (List.getElem_mem hf)
      have g5 := g4.out
      obtain ⟨zk, zm, zl, zp, zc, zr, hz⟩ : ∃ zk zm zl zp zc zr, A[f] = ⟨zk, zm, zl, zp, zc, zr⟩ := ⟨_, _, _, _, _, _, rfl⟩
      rw [hz] at hsm
      have ks := fun q => qabi (shit_s zc zc zr zr hsm.2.2) (fun σ => rfl) (fun σ => rfl) rfl q
      have kh := fun q => qabi (hitOf_s ⟨zk, zm, zl, zp, zc, zr⟩) (fun σ => rfl) (fun σ => rfl) rfl q
      rw [show (zc == zc && decide (zr = zr)) = true by simp] at ks
      unfold qad1 at ks kh
      unfold qaag at kh
      have p3 : ¬ ((f : Int) < 0) := by omega
      clear g2 g3 z1 hsm
      repeat' (first | (with_reducible first | refine zA ?_ | refine zK ?_) | ((with_reducible first | refine qaaf ?_ | refine qabs (by rw [hP]; exact qaf0) ?_); (try rw [hP]); simp -implicitDefEqProofs [qaag, List.getElem?_eq_getElem hf, hz, p3, g5, *]) | ((with_reducible first | refine qaaz ?_ | refine qabt ?_); (try simp -implicitDefEqProofs [qaag, List.getElem?_eq_getElem hf, hz, p3, g5, *])) | ((with_reducible refine qaay ?_); (try simp only [qaas, qaaa, qaae])) | ((with_reducible refine qaak rfl (fun h => ?_) (fun h => ?_)) <;> have h' := h <;> (try simp at h') <;> (try subst h')) | ((first | refine qacc (ks _) ?_ | refine qacc (kh _) ?_); simp -implicitDefEqProofs [qaag, List.getElem?_eq_getElem hf, hz, p3, g5, *]) | (with_reducible refine zN hm ?_) | fail)
      all_goals first | (by_cases hm0 : m < 0 <;> simp [hm0] <;> omega) | trace_state
     ·rw [z1] at g2
      have g2' : I = -1 := g2
      subst g2'
      have p4 : (-1 : Int) < 0 := by decide
      repeat' (first | (with_reducible first | refine zA ?_ | refine zK ?_) | ((with_reducible first | refine qaaf ?_ | refine qabs (by rw [hP]; exact qaf0) ?_); (try rw [hP]); simp -implicitDefEqProofs [*]) | ((with_reducible first | refine qaaz ?_ | refine qabt ?_); (try simp -implicitDefEqProofs [*])) | ((with_reducible refine qaay ?_); (try simp only [qaas, qaaa, qaae])) | ((with_reducible refine qaak rfl (fun h => ?_) (fun h => ?_)) <;> have h' := h <;> (try simp at h') <;> (try subst h')) | (with_reducible refine zN hm ?_) | fail)
      all_goals first | rfl | (exfalso; omega) | (exfalso; simp_all; done) | trace_state
theorem TernaryFirst_law (m : Int) (lo : Option Addr) (ln lc : Nat) (l : List TStep) (ko : Option Addr) (kn kc : Nat) (xs : List Int) (w : World) (_ : (Lit.int .i64 m).wf = true) (hl : RdL qahx NoA w lo ln lc l) (hk : Rd w .u64 ko kn kc xs) :
  Calls Try.prog 3 #[.int .i64 m, .slice lo ln lc, .slice ko kn kc] w fun e w' => e = .returned (.bool true) ∧ Below w.heap.size w w' :=
 law_of (vs := [.int .i64 m, .slice lo ln lc, .slice ko kn kc]) (tfst_s m l xs) (Reps.cons .int (Reps.cons (qaei qam0 hl) (Reps.cons (rd_view hk fun _ _ _ h => h) Reps.nil)))
end Go.Proofs.Ytefkifebgeagiaa
