/-
  Texts joined: XPfxE XPfxH XEntA XPfxJ XPfxK XPfxL XPfxM XLongA XLongD XTerT XTerW XTerX. No condition.
-/
import Derived.WalkSpells
import Derived.RegionTactic
import Derived.BigRegion
import Derived.Deep.RegionLaw
import Derived.Test.YtefkifebgeagiaaProg
import Derived.BigQuiet
import Derived.Deep.QuietTactic
import Derived.Deep.RegionHeld3
import Derived.Deep.DrawnRows
import Derived.Outline
import Derived.Deep.CutRange
import Derived.Deep.CutBlock
import Derived.Laws.StructEq
import Derived.Laws.Pointers
import Derived.ChangeKeysEq
import Derived.Handy
import Derived.Laws.Bits64b
import Derived.Test.YtefkifebgeagiaaTernaryDoesK5
namespace Go.Proofs.Ytefkifebgeagiaa
set_option linter.all false
open Go.RowKit
attribute [local go_sem ↓] Go.wp_at_zero Go.wp_at_succ
def qafa (width : Int) (E : Nat → Int → Option (Int × List Int)) (key k : Int) : Int :=
 if qa4v width key k = false then 6 else if (E k.toNat (pre width.toNat key k.toNat)).isSome then 0 else 9
def qae9 (width n : Int) (E : Nat → Int → Option (Int × List Int)) (key k : Int) : Int := if qafa width E key k = 0 then n - 1 else n
def qaf8 (width : Int) (E : Nat → Int → Option (Int × List Int)) (key k : Int) : Nat → Int → Option (Int × List Int) := if qafa width E key k = 0 then qagh E k.toNat (pre width.toNat key k.toNat) none else E
theorem qaq2 {width n : Int} {E : Nat → Int → Option (Int × List Int)} {key k : Int} (h : qafa width E key k ≠ 0) : qae9 width n E key k = n ∧ qaf8 width E key k = E := by unfold qae9 qaf8; rw [if_neg h, if_neg h]; exact ⟨rfl, rfl⟩
theorem qank {width n : Int} {E : Nat → Int → Option (Int × List Int)} {key k : Int} (h : qafa width E key k = 0) : qae9 width n E key k = n - 1 ∧ qaf8 width E key k = qagh E k.toNat (pre width.toNat key k.toNat) none := by unfold qae9 qaf8; rw [if_pos h, if_pos h]; exact ⟨rfl, rfl⟩
end Go.Proofs.Ytefkifebgeagiaa
namespace Go.Proofs.Ytefkifebgeagiaa
set_option linter.all false
open Go.RowKit
attribute [local go_sem ↓] Go.wp_at_zero Go.wp_at_succ
def entL (E : Nat → Int → Option (Int × List Int)) (W i : Nat) (v : Int) : List Entry := match E i v with
 | none => []
 | some x => [⟨[v * 2 ^ (W - i)], [], i, 0, x.1, x.2⟩]
def allF (E : Nat → Int → Option (Int × List Int)) (W : Nat) : Nat → Nat → Int → List Entry
 | 0, i, v => entL E W i v
 | d + 1, i, v => entL E W i v ++ (allF E W d (i + 1) (2 * v) ++ allF E W d (i + 1) (2 * v + 1))
structure OwnE (w : World) (B : Nat) (v : Value) (xs : List Entry) : Prop where
 mine : MineL qadc (fun k => v.ownBlock = some k ∨ k < B) w 0 29 v xs
 ge : ∀ k, v.ownBlock = some k → B ≤ k
theorem OwnE.nil (w : World) (B : Nat) : OwnE w B (.slice none 0 0) [] := ⟨MineL.nil _ _ _ _ _, by simp [Value.ownBlock]⟩
theorem OwnE.below {w w' : World} {B : Nat} {v : Value} {xs : List Entry} (h : OwnE w B v xs) (hb : Below w.heap.size w w') : OwnE w' B v xs := ⟨h.mine.below hb, h.ge⟩
theorem OwnE.own {w : World} {B : Nat} {v : Value} {xs : List Entry} (h : OwnE w B v xs) : OwnL qadc (fun k => v.ownBlock = some k ∨ k < B ∨ w.heap.size ≤ k) w (fun k => v.ownBlock = some k) 29 v xs := by
 obtain ⟨⟨cs, ho, hr⟩, _⟩ := h
 exact ⟨⟨cs, ho, hr.weaken fun k hk hlt => hk.elim .inl fun h2 => h2.elim .inr fun h3 => absurd hlt (Nat.not_lt_of_le h3)⟩, fun k hk => hk⟩
theorem OwnE.of {w w' : World} {B : Nat} {v v' : Value} {xs : List Entry} (h : OwnL qadc (fun k => v.ownBlock = some k ∨ k < B ∨ w.heap.size ≤ k) w' (fun k => v.ownBlock = some k ∨ k = w.heap.size) 29 v' xs) (hge : ∀ k, v.ownBlock = some k → B ≤ k) (hB : B ≤ w.heap.size) : OwnE w' B v' xs := by
 obtain ⟨⟨cs, ho, hr⟩, hrow⟩ := h
 refine ⟨⟨cs, ho, hr.weaken fun k hk _ => hk.elim (fun hk => (hrow k hk).imp id fun e => by rw [e]; exact .inr (Nat.le_refl _)) fun h => .inr (.inl h)⟩, fun k hk => ?_⟩
 rcases hrow k hk with e | e
 ·exact hge k e
 ·rw [e]; exact hB
end Go.Proofs.Ytefkifebgeagiaa
namespace Go.Proofs.Ytefkifebgeagiaa
set_option linter.all false
open Go.RowKit
theorem OwnE.lt {w : World} {B : Nat} {v : Value} {xs : List Entry} (h : OwnE w B v xs) : ∀ k, v.ownBlock = some k → k < w.heap.size := fun k hk => (h.mine.lt k hk).2
end Go.Proofs.Ytefkifebgeagiaa
namespace Go.Proofs.Ytefkifebgeagiaa
set_option linter.all false
open Go.RowKit
attribute [local go_sem ↓] Go.wp_at_zero Go.wp_at_succ
abbrev PE := Nat → Int → Option (Int × List Int)
def noE : PE := fun _ _ => none
end Go.Proofs.Ytefkifebgeagiaa
namespace Go.Proofs.Ytefkifebgeagiaa
set_option linter.all false
open Go.RowKit
attribute [local go_sem ↓] Go.wp_at_zero Go.wp_at_succ
theorem qair : LayP qadc qaae :=
 qarj (fun e : Entry => (e.keys, e.masks, e.len, e.prio, e.act, e.args)) (qad2 (qage (qael .u64)) (qad2 (qage (qael .u64)) (qad2 (qael .i64) (qad2 (qael .i64) (qad2 (qael .i64) (qage (qael .u64)))))))
theorem OwnE.mineB {w : World} {B : Nat} {v : Value} {xs : List Entry} (h : OwnE w B v xs) : MineL qadc (fun k => v.ownBlock = some k ∨ k < B) w B 29 v xs := by
 obtain ⟨⟨cs, ⟨hl, ho⟩, hr⟩, hge⟩ := h
 refine ⟨cs, ⟨hl, ?_⟩, hr⟩
 rcases ho with h0 | ⟨g, cap, cur, rfl, hg, rest⟩
 ·exact .inl h0
 ·exact .inr ⟨g, cap, cur, rfl, hge g rfl, rest⟩
theorem OwnE.view {w : World} {B : Nat} {v : Value} {xs : List Entry} (h : OwnE w B v xs) {A : Nat → Prop} {ρ : qacc} (hA : ∀ k, A k → k < B) : RepV w A ρ (ents xs) v := by
 obtain ⟨ao, c, rfl, hr, hb⟩ := h.mineB.rd (A' := fun k => k < B) (fun k hk _ => .inr hk) (fun k h1 _ h2 => Nat.not_lt_of_le h1 h2)
 exact (qahz qair hr).weaken fun k hk _ => hA k hk
end Go.Proofs.Ytefkifebgeagiaa
namespace Go.Proofs.Ytefkifebgeagiaa
set_option linter.all false
open Go.RowKit
def ce (W i : Nat) (v : Int) (x : Int × List Int) : Entry := ⟨[v * 2 ^ (W - i)], [], i, 0, x.1, x.2⟩
theorem qaq8 {E : Nat → Int → Option (Int × List Int)} {W i : Nat} {v : Int} {e : Entry} : e ∈ entL E W i v ↔ ∃ x, E i v = some x ∧ e = ce W i v x := by
 unfold entL ce
 cases E i v <;> simp
theorem qarw (u : Int) (a : Nat) : u / 2 ^ (a + 1) = u / 2 ^ a / 2 := by
 have hp : (0 : Int) ≤ 2 ^ a := Int.pow_nonneg (by decide)
 rw [Int.pow_succ]
 first | exact (Int.ediv_ediv_of_nonneg hp).symm | exact (Int.ediv_ediv hp).symm | exact (Int.ediv_ediv_eq_ediv_mul _ hp).symm
theorem qa27 {E : Nat → Int → Option (Int × List Int)} {W : Nat} : ∀ (d i : Nat) (v : Int) (e : Entry), e ∈ allF E W d i v ↔ ∃ (j : Nat) (u : Int) (x : Int × List Int), i ≤ j ∧ j ≤ i + d ∧ u / 2 ^ (j - i) = v ∧ E j u = some x ∧ e = ce W j u x := by
 intro d
 induction d with
 | zero =>
  intro i v e
  rw [show allF E W 0 i v = entL E W i v from rfl, qaq8]
  constructor
  ·rintro ⟨x, h1, h2⟩
   exact ⟨i, v, x, Nat.le_refl _, Nat.le_refl _, by simp, h1, h2⟩
  ·rintro ⟨j, u, x, h1, h2, h3, h4, h5⟩
   obtain rfl : j = i := by omega
   simp at h3
   subst h3
   exact ⟨x, h4, h5⟩
 | succ d ih =>
  intro i v e
  rw [show allF E W (d + 1) i v = entL E W i v ++ (allF E W d (i + 1) (2 * v) ++ allF E W d (i + 1) (2 * v + 1)) from rfl, List.mem_append, List.mem_append, qaq8, ih, ih]
  have key : ∀ (j : Nat) (u : Int), i + 1 ≤ j → u / 2 ^ (j - i) = u / 2 ^ (j - (i + 1)) / 2 := fun j u hj => by
   rw [← qarw, show j - (i + 1) + 1 = j - i by omega]
  constructor
  ·rintro (⟨x, h1, h2⟩ | ⟨j, u, x, h1, h2, h3, h4, h5⟩ | ⟨j, u, x, h1, h2, h3, h4, h5⟩)
   ·exact ⟨i, v, x, Nat.le_refl _, by omega, by simp, h1, h2⟩
   ·exact ⟨j, u, x, by omega, by omega, by rw [key j u h1, h3]; omega, h4, h5⟩
   ·exact ⟨j, u, x, by omega, by omega, by rw [key j u h1, h3]; omega, h4, h5⟩
  ·rintro ⟨j, u, x, h1, h2, h3, h4, h5⟩
   by_cases hj : j = i
   ·subst hj
    simp at h3
    subst h3
    exact .inl ⟨x, h4, h5⟩
   ·rw [key j u (by omega)] at h3
    generalize hc : u / 2 ^ (j - (i + 1)) = c at h3
    rcases (show c = 2 * v ∨ c = 2 * v + 1 by omega) with e | e
    ·exact .inr (.inl ⟨j, u, x, by omega, by omega, by rw [hc, e], h4, h5⟩)
    ·exact .inr (.inr ⟨j, u, x, by omega, by omega, by rw [hc, e], h4, h5⟩)
theorem qak4 (E : Nat → Int → Option (Int × List Int)) (W i : Nat) (v : Int) : (entL E W i v).length = (E i v).toList.length := by
 unfold entL
 cases E i v <;> rfl
def qaia (d i : Nat) (v : Int) (j : Nat) (u : Int) : Prop := i ≤ j ∧ j ≤ i + d ∧ u / 2 ^ (j - i) = v
instance (d i : Nat) (v : Int) (j : Nat) (u : Int) : Decidable (qaia d i v j u) := by unfold qaia; infer_instance
theorem qarg (E : Nat → Int → Option (Int × List Int)) (W : Nat) (j : Nat) (u : Int) (y : Option (Int × List Int)) : ∀ (d i : Nat) (v : Int),
  (allF (qagh E j u y) W d i v).length + (if qaia d i v j u then (E j u).toList.length else 0) = (allF E W d i v).length + (if qaia d i v j u then y.toList.length else 0) := by
 have here : ∀ i v, (j = i ∧ u = v) → qagh E j u y i v = y := fun i v h => by unfold qagh; rw [if_pos ⟨h.1.symm, h.2.symm⟩]
 have away : ∀ i v, ¬ (j = i ∧ u = v) → qagh E j u y i v = E i v := fun i v h => by unfold qagh; rw [if_neg fun h2 => h ⟨h2.1.symm, h2.2.symm⟩]
 intro d
 induction d with
 | zero =>
  intro i v
  rw [show ∀ E, allF E W 0 i v = entL E W i v from fun _ => rfl, show ∀ E, allF E W 0 i v = entL E W i v from fun _ => rfl, qak4, qak4]
  by_cases h : j = i ∧ u = v
  ·rw [here i v h]
   obtain ⟨rfl, rfl⟩ := h
   rw [if_pos (by unfold qaia; simp), if_pos (by unfold qaia; simp)]
   omega
  ·rw [away i v h]
   have : ¬ qaia 0 i v j u := by
    rintro ⟨h1, h2, h3⟩
    obtain rfl : j = i := by omega
    simp at h3
    exact h ⟨rfl, h3⟩
   rw [if_neg this, if_neg this]
 | succ d ih =>
  intro i v
  have A := ih (i + 1) (2 * v)
  have B := ih (i + 1) (2 * v + 1)
  rw [show ∀ E, allF E W (d + 1) i v = entL E W i v ++ (allF E W d (i + 1) (2 * v) ++ allF E W d (i + 1) (2 * v + 1)) from fun _ => rfl, show ∀ E, allF E W (d + 1) i v = entL E W i v ++ (allF E W d (i + 1) (2 * v) ++ allF E W d (i + 1) (2 * v + 1)) from fun _ => rfl]
  simp only [List.length_append, qak4]
  by_cases hj : j ≤ i
  ·have n1 : ∀ c, ¬ qaia d (i + 1) c j u := fun c h => by have := h.1; omega
   rw [if_neg (n1 _), if_neg (n1 _)] at A
   rw [if_neg (n1 _), if_neg (n1 _)] at B
   by_cases h : j = i ∧ u = v
   ·rw [here i v h]
    obtain ⟨rfl, rfl⟩ := h
    rw [if_pos (by unfold qaia; simp), if_pos (by unfold qaia; simp)]
    omega
   ·rw [away i v h]
    have : ¬ qaia (d + 1) i v j u := by
     rintro ⟨h1, h2, h3⟩
     obtain rfl : j = i := by omega
     simp at h3
     exact h ⟨rfl, h3⟩
    rw [if_neg this, if_neg this]
    omega
  ·rw [away i v (by omega)]
   have hk : u / 2 ^ (j - i) = u / 2 ^ (j - (i + 1)) / 2 := by rw [← qarw, show j - (i + 1) + 1 = j - i by omega]
   obtain ⟨c, hc⟩ : ∃ c, u / 2 ^ (j - (i + 1)) = c := ⟨_, rfl⟩
   rw [hc] at hk
   have hA : qaia d (i + 1) (2 * v) j u ↔ j ≤ i + 1 + d ∧ c = 2 * v := by unfold qaia; rw [hc]; exact ⟨fun h => ⟨h.2.1, h.2.2⟩, fun h => ⟨by omega, h.1, h.2⟩⟩
   have hB : qaia d (i + 1) (2 * v + 1) j u ↔ j ≤ i + 1 + d ∧ c = 2 * v + 1 := by unfold qaia; rw [hc]; exact ⟨fun h => ⟨h.2.1, h.2.2⟩, fun h => ⟨by omega, h.1, h.2⟩⟩
   have hG : qaia (d + 1) i v j u ↔ j ≤ i + 1 + d ∧ c / 2 = v := by unfold qaia; rw [hk]; exact ⟨fun h => ⟨by omega, h.2.2⟩, fun h => ⟨by omega, by omega, h.2⟩⟩
   simp only [hA] at A
   simp only [hB] at B
   simp only [hG]
   by_cases hd : j ≤ i + 1 + d
   ·by_cases h0 : c = 2 * v
    ·rw [if_pos ⟨hd, h0⟩, if_pos ⟨hd, h0⟩] at A
     rw [if_neg (by omega), if_neg (by omega)] at B
     rw [if_pos ⟨hd, by omega⟩, if_pos ⟨hd, by omega⟩]
     omega
    ·by_cases h1 : c = 2 * v + 1
     ·rw [if_neg (by omega), if_neg (by omega)] at A
      rw [if_pos ⟨hd, h1⟩, if_pos ⟨hd, h1⟩] at B
      rw [if_pos ⟨hd, by omega⟩, if_pos ⟨hd, by omega⟩]
      omega
     ·rw [if_neg (by omega), if_neg (by omega)] at A
      rw [if_neg (by omega), if_neg (by omega)] at B
      rw [if_neg (by omega), if_neg (by omega)]
      omega
   ·rw [if_neg (by omega), if_neg (by omega)] at A
    rw [if_neg (by omega), if_neg (by omega)] at B
    rw [if_neg (by omega), if_neg (by omega)]
    omega
end Go.Proofs.Ytefkifebgeagiaa
namespace Go.Proofs.Ytefkifebgeagiaa
set_option linter.all false
open Go.RowKit
structure PInv (W : Nat) (n : Int) (E : PE) : Prop where
 cnt : n = ((allF E W W 0 0).length : Int)
 ok : ∀ i v x, E i v = some x → i ≤ W ∧ 0 ≤ v ∧ v < 2 ^ i ∧ x.2.length ≤ 1000 ∧ AllFit .u64 x.2 ∧ Fits .i64 x.1
theorem PInv.none (W : Nat) : PInv W 0 noE := by
 refine ⟨?_, fun i v x h => by cases h⟩
 have : allF noE W W 0 0 = [] := by
  apply List.eq_nil_iff_forall_not_mem.2
  intro e he
  obtain ⟨j, u, x, _, _, _, h, _⟩ := (qa27 W 0 0 e).1 he
  cases h
 rw [this]; rfl
theorem qafm {W j : Nat} {u : Int} (hj : j ≤ W) (h0 : 0 ≤ u) (h1 : u < 2 ^ j) : qaia W 0 0 j u := ⟨Nat.zero_le _, by omega, Int.ediv_eq_zero_of_lt h0 (by simpa using h1)⟩
theorem PInv.add {W : Nat} {n most : Int} {E : PE} (h : PInv W n E) {key k act : Int} {args : List Int} (h0 : 0 ≤ key) (ha : args.length ≤ 1000) (hf : AllFit .u64 args) (hact : Fits .i64 act) :
  PInv W (qag1 W most n E key k) (qaij W most n E key k act args) ∧ (n ≤ most → qag1 W most n E key k ≤ most) := by
 by_cases hc : qag2 W most n E key k = 0
 ·obtain ⟨e1, e2⟩ := qaq3 hc act args
  rw [e1, e2]
  unfold qag2 at hc
  split at hc
  ·cases hc
  rename_i hp
  split at hc
  ·cases hc
  rename_i hn
  split at hc
  ·cases hc
  rename_i hm
  have hp2 : qa4v W key k = true := by simpa using hp
  obtain ⟨W', K, e3, rfl, hW1, hW2, hK, hlt, _⟩ := qaik hp2
  obtain rfl : W = W' := by omega
  simp only [Int.toNat_natCast] at hn ⊢
  have hn2 : E K (pre W key K) = Option.none := by simpa using hn
  have l1 := qaii (W := W) h0 K
  have l2 := pre_lt hlt hK
  refine ⟨⟨?_, ?_⟩, fun _ => by omega⟩
  ·have := qarg E W K (pre W key K) (some (act, args)) W 0 0
   rw [if_pos (qafm hK l1 l2), if_pos (qafm hK l1 l2), hn2] at this
   simp at this
   rw [h.cnt]; omega
  ·intro i v x hx
   unfold qagh at hx
   split at hx
   ·rename_i e
    obtain ⟨rfl, rfl⟩ := e
    cases hx
    exact ⟨hK, l1, l2, ha, hf, hact⟩
   ·exact h.ok i v x hx
 ·obtain ⟨e1, e2⟩ := qawv hc act args
  rw [e1, e2]
  exact ⟨h, fun h => h⟩
theorem PInv.drop {W : Nat} {n : Int} {E : PE} (h : PInv W n E) {key k : Int} (h0 : 0 ≤ key) :
  PInv W (qae9 W n E key k) (qaf8 W E key k) ∧ qae9 W n E key k ≤ n := by
 by_cases hc : qafa W E key k = 0
 ·obtain ⟨e1, e2⟩ := qank (n := n) hc
  rw [e1, e2]
  unfold qafa at hc
  split at hc
  ·cases hc
  rename_i hp
  split at hc
  case isFalse => cases hc
  rename_i hn
  have hp2 : qa4v W key k = true := by simpa using hp
  obtain ⟨W', K, e3, rfl, hW1, hW2, hK, hlt, _⟩ := qaik hp2
  obtain rfl : W = W' := by omega
  simp only [Int.toNat_natCast] at hn ⊢
  obtain ⟨x, hx⟩ := Option.isSome_iff_exists.1 hn
  have l1 := qaii (W := W) h0 K
  have l2 := pre_lt hlt hK
  refine ⟨⟨?_, ?_⟩, by omega⟩
  ·have := qarg E W K (pre W key K) Option.none W 0 0
   rw [if_pos (qafm hK l1 l2), if_pos (qafm hK l1 l2), hx] at this
   simp at this
   rw [h.cnt]; omega
  ·intro i v x hx
   unfold qagh at hx
   split at hx
   ·cases hx
   ·exact h.ok i v x hx
 ·obtain ⟨e1, e2⟩ := qaq2 (n := n) hc
  rw [e1, e2]
  exact ⟨h, Int.le_refl _⟩
end Go.Proofs.Ytefkifebgeagiaa
namespace Go.Proofs.Ytefkifebgeagiaa
set_option linter.all false
open Go.RowKit
structure FitE (e : Entry) : Prop where
 keys : AllFit .u64 e.keys
 args : AllFit .u64 e.args
 len : Fits .i64 e.len
 act : Fits .i64 e.act
end Go.Proofs.Ytefkifebgeagiaa
namespace Go.Proofs.Ytefkifebgeagiaa
set_option linter.all false
open Go.RowKit
theorem qarn : LayF qadc (fun e => (∀ x ∈ e.keys, Fits .u64 x) ∧ (∀ x ∈ e.masks, Fits .u64 x) ∧ Fits .i64 e.len ∧ Fits .i64 e.prio ∧ Fits .i64 e.act ∧ ∀ x ∈ e.args, Fits .u64 x) :=
 qarm (fun e : Entry => (e.keys, e.masks, e.len, e.prio, e.act, e.args)) (qad3 (qagf (qaem .u64)) (qad3 (qagf (qaem .u64)) (qad3 (qaem .i64) (qad3 (qaem .i64) (qad3 (qaem .i64) (qagf (qaem .u64)))))))
theorem qark : LayF qahp (fun s => FitE s.e) := fun A w x cs h => by
 have h1 := qarm (fun s : TStep => (s.d, s.e)) (qad3 (qaem .i64) qarn) A w x cs h
 exact ⟨h1.2.1, h1.2.2.2.2.2.2, h1.2.2.2.1, h1.2.2.2.2.2.1⟩
theorem qari : LayP qahp qacs := qarj (fun s : TStep => (s.d, s.e)) (qad2 (qael .i64) qair)
end Go.Proofs.Ytefkifebgeagiaa
namespace Go.Proofs.Ytefkifebgeagiaa
set_option linter.all false
open Go.RowKit
attribute [local simp] qaao qaan qaac qaah qaad qaag qaal qaam qaaa qaay SOp.run SX.ev putd puts argS upds SOp.touch SSt.keep SSt.skip gets geth puth delh idOf SV.cells? setL qab0 qab1 sbin eq0 eq1 eqL qabz qabd qabe qaau qaak qaab qaap qaaz qaaf qaai FrzOk qaa4 qaaw qaa2 qaa3 qaaq qaav qabb qaax qaas qaa5 qaar frzS frzH frz frz1 frz0 SlotsM ObjsM ObjM rn ren ren1 ren0 qabj qabs qaby qabi qabc qabu qabx CoL qaa6 qab4 dels adds idsH qabv
theorem qafz (q : Nat) : SCalls Try.prog 6 [] [] q (.bool true) [] := tbeg_s q
theorem qad8 (l : List TStep) (q : Nat) : SCalls Try.prog 7 [qadp l] [] q (.bool (bigS l)) [] := qabo (great_s l) (fun σ => rfl) (fun σ => rfl) rfl q
end Go.Proofs.Ytefkifebgeagiaa
namespace Go.Proofs.Ytefkifebgeagiaa
set_option linter.all false
open Go.RowKit
attribute [local simp] qaao qaan qaac qaah qaad qaag qaal qaam qaaa qaay SOp.run SX.ev putd puts argS upds SOp.touch SSt.keep SSt.skip gets geth puth delh idOf SV.cells? setL qab0 qab1 sbin eq0 eq1 eqL qabz qabd qabe qaau qaak qaab qaap qaaz qaaf qaai FrzOk qaa4 qaaw qaa2 qaa3 qaaq qaav qabb qaax qaas qaa5 qaar frzS frzH frz frz1 frz0 SlotsM ObjsM ObjM rn ren ren1 ren0 qabj qabs qaby qabi qabc qabu qabx CoL qaa6 qab4 dels adds idsH qabv
attribute [local simp] qab3 qaco qac3 qacv
def qah7 : SCode := (.seq (.reg false qacl [2, 7, 8, 9, 10, 11, 12, 13, 14]) (.seq (.reg false qahf [2, 7, 8, 9, 10, 11, 12, 13, 14, 15, 17]) (.seq (.reg true qahe [2, 7, 8, 9, 142]) (.cond (.t 142) (.seq (.reg false qahd [6]) .ret) .skip))))
theorem qaig {k : Int} {l L : List Entry} (h : RelV k l L) : ∀ a ∈ L, qab7 a := fun a ha => h.inv.small a (h.perm.mem_iff.2 ha)
theorem qaqs {k : Int} {l L : List Entry} (h : RelV k l L) : ∀ a ∈ L, (a.keys.length : Int) = k ∧ (a.masks.length : Int) = k := fun a ha => qaez (h.inv.fit a (h.perm.mem_iff.2 ha))
theorem qars {k : Int} {l L : List Entry} (h : RelV k l L) (xs : List Int) {e : Entry} (he : qae3 k l xs = some e) : qab7 e ∧ e.len = 0 := by
 unfold qae3 at he
 split at he
 ·have := List.mem_of_find?_eq_some he
  have h2 := (qaff h.inv).mem_iff.1 this
  exact ⟨h.inv.small e h2, h.inv.len0 e h2⟩
 ·cases he
set_option maxRecDepth 4000 in
theorem qap5 (X : Cx) (hP : X.P = Try.prog) (hm : X.m = 0) {Q : SExit → SSt → Prop} (steps_ : List TStep) (k m : Int) (l L : List Entry) (i : Nat) (c d : Int) (e : Entry) (hi : i < steps_.length) (hs : steps_[i] = ⟨d, e⟩) (he : qab7 e) (h : RelV k l L) (hL : L.length ≤ 1000000)
  (hQ : ∀ tl hp nx, Q .normal ⟨(2, qadp steps_) :: (7, .ptr 0 0) :: (8, .ptr 1 0) :: (9, .int .i64 i) :: tl, (0, .abs (qacx (some (k, m)) l)) :: (1, qabm 3 k 0 m 2 L.length) :: (2, qabn L) :: hp, nx⟩) :
  SWp X qah7 Q ⟨[(2, qadp steps_), (7, .ptr 0 0), (8, .ptr 1 0), (9, .int .i64 i), (10, .ptr 3 0), (11, .int .i64 c), (12, .int .i64 c)], [(0, .abs (qacx (some (k, m)) l)), (1, qabm 3 k 0 m 2 L.length), (2, qabn L), (3, .cells 29 (qaae e))], 4⟩ := by
 have hsm := qaig h
 have hll : l.length ≤ 1000000 := by rw [h.perm.length_eq]; exact hL
 have f1 := fun q => qap3 k m l e.keys h.inv hll he.1 0 q
 have f2 := fun q => rfindA 3 k 0 m L e.keys hsm hL (fun h => (by cases h)) (fun hx a ha => ⟨fun h0 => (by cases h0), fun _ _ => (by have := qaqs h a ha; omega)⟩) 1 2 q (by decide)
 rw [qa3g h] at f2
 have f3 := fun q => tlen_a k m l 0 q
 have f4 := fun q => qabo (sent_s e e he) (fun σ => rfl) (fun σ => rfl) rfl q
 rw [show qaif e e = true by simp [qaif]] at f4
 rw [h.perm.length_eq] at f3
 obtain ⟨a, r, b, n, hr, h1, h2⟩ : ∃ a r b n, r.length ≤ 1000000 ∧ qakf (qae3 k l e.keys) = .tup [.agg [.int .i64 a, nums .u64 r], .bool b] ∧ qani (qae3 k l e.keys) = .tup [.agg [.int .i64 a, nums .u64 r], .int .i64 n, .bool b] := by
  cases hf : qae3 k l e.keys with
  | none => exact ⟨0, [], false, 0, by simp, rfl, rfl⟩
  | some x => exact ⟨x.act, x.args, true, x.len, (qars h _ hf).1.2.2, rfl, rfl⟩
 rw [h1] at f1
 rw [h2] at f2
 have f5 := fun q => qabo (shit_s a a r r hr) (fun σ => rfl) (fun σ => rfl) rfl q
 rw [show (a == a && decide (r = r)) = true by simp] at f5
 clear h1 h2 h hsm
 unfold qadw at f5
 unfold qaae at f4
 replace hQ := Lib.hid hQ
 unfold qah7
 unfold qabk qabm qabn at f2
 repeat' (first | (with_reducible first | refine zA ?_ | refine zK ?_) | ((with_reducible first | refine qaaj ?_ | refine qabl (by rw [hP]; exact qadh) ?_); (try rw [hP]); simp -implicitDefEqProofs [qadp, qacs, qaae, qabm, qabn, List.getElem?_eq_getElem hi, hs, *]) | ((with_reducible refine qaa1 ?_); (try simp -implicitDefEqProofs [qadp, qacs, qaae, qabm, qabn, List.getElem?_eq_getElem hi, hs, *])) | ((with_reducible refine qaat rfl (fun h => ?_) (fun h => ?_)) <;> have h' := h <;> (try simp at h') <;> (try subst h')) | ((first | refine qab9 (f1 _) ⟨rfl, trivial⟩ ⟨rfl, trivial⟩ ?_ | refine qab9 (f2 _ (by simp) (by simp)) ⟨rfl, rfl, trivial⟩ ⟨rfl, rfl, trivial⟩ ?_ | refine qab9 (f3 _) ⟨rfl, trivial⟩ ⟨rfl, trivial⟩ ?_ | refine qab2 (f4 _) ?_ | refine qab2 (f5 _) ?_); simp -implicitDefEqProofs [qadp, qacs, qaae, qabm, qabn, List.getElem?_eq_getElem hi, hs, *]) | fail)
 exact hQ.out _ _ _
end Go.Proofs.Ytefkifebgeagiaa
namespace Go.Proofs.Ytefkifebgeagiaa
set_option linter.all false
open Go.RowKit
attribute [local simp] qaao qaan qaac qaah qaad qaag qaal qaam qaaa qaay SOp.run SX.ev putd puts argS upds SOp.touch SSt.keep SSt.skip gets geth puth delh idOf SV.cells? setL qab0 qab1 sbin eq0 eq1 eqL qabz qabd qabe qaau qaak qaab qaap qaaz qaaf qaai FrzOk qaa4 qaaw qaa2 qaa3 qaaq qaav qabb qaax qaas qaa5 qaar frzS frzH frz frz1 frz0 SlotsM ObjsM ObjM rn ren ren1 ren0 qabj qabs qaby qabi qabc qabu qabx CoL qaa6 qab4 dels adds idsH qabv
attribute [local simp] qab3 qaco qac3 qacv
theorem qang (S : List Entry) : qaie S S = true := by
 unfold qaie
 rw [decide_eq_true rfl, Bool.true_and]
 refine List.all_eq_true.2 fun i hi => ?_
 rw [List.getElem?_eq_getElem (List.mem_range.1 hi)]
 simp [qaif]
set_option maxRecDepth 4000 in
theorem tdoes_s (k m : Int) (l : List TStep) (hfit : ∀ s ∈ l, qahn s.e) : SCalls Try.prog 4 [.int .i64 k, .int .i64 m, qadp l] [] 0 (.bool true) [] := by
 refine qaa0 (N := 148) Try.func4 rfl rfl (by kernel_rfl) qald (by simp) (by repeat' (first | exact trivial | refine And.intro ?_ ?_ | rfl | decide | exact PureR.ren _)) (by repeat' (first | exact trivial | refine And.intro ?_ ?_ | rfl | decide | exact PureR.ren _)) ?_
 rintro X hP hN hm
 unfold c_tdoes
 cases hb : bigS l
 case true =>
  repeat' (first | (with_reducible refine zA ?_) | ((with_reducible refine qaaj ?_); (try rw [hP]); simp -implicitDefEqProofs [*]) | ((with_reducible refine qaa1 ?_); (try simp -implicitDefEqProofs [*])) | ((with_reducible refine qaa7 ?_); (try simp only [qaau, qaab, qaaf])) | ((with_reducible refine qaat rfl (fun h => ?_) (fun h => ?_)) <;> have h' := h <;> (try simp at h') <;> (try subst h')) | ((first | refine qab2 (qafz _) ?_ | refine qab2 (qad8 l _) ?_); simp -implicitDefEqProofs [*]) | (with_reducible refine zN hm ?_) | fail)
  all_goals rfl
 case false =>
  by_cases hk0 : k < 0
  ·repeat' (first | (with_reducible refine zA ?_) | ((with_reducible refine qaaj ?_); (try rw [hP]); simp -implicitDefEqProofs [*]) | ((with_reducible refine qaa1 ?_); (try simp -implicitDefEqProofs [*])) | ((with_reducible refine qaa7 ?_); (try simp only [qaau, qaab, qaaf])) | ((with_reducible refine qaat rfl (fun h => ?_) (fun h => ?_)) <;> have h' := h <;> (try simp at h') <;> (try subst h')) | ((first | refine qab2 (qafz _) ?_ | refine qab2 (qad8 l _) ?_); simp -implicitDefEqProofs [*]) | (with_reducible refine zN hm ?_) | fail)
   all_goals rfl
  by_cases hk20 : k > 20
  ·repeat' (first | (with_reducible refine zA ?_) | ((with_reducible refine qaaj ?_); (try rw [hP]); simp -implicitDefEqProofs [*]) | ((with_reducible refine qaa1 ?_); (try simp -implicitDefEqProofs [*])) | ((with_reducible refine qaa7 ?_); (try simp only [qaau, qaab, qaaf])) | ((with_reducible refine qaat rfl (fun h => ?_) (fun h => ?_)) <;> have h' := h <;> (try simp at h') <;> (try subst h')) | ((first | refine qab2 (qafz _) ?_ | refine qab2 (qad8 l _) ?_); simp -implicitDefEqProofs [*]) | (with_reducible refine zN hm ?_) | fail)
   all_goals rfl
  have h200 : l.length ≤ 200 ∧ ∀ s ∈ l, bigE s.e = false := by
   simp only [bigS, Bool.or_eq_false_iff] at hb
   exact ⟨by have := hb.1; simp at this; omega, fun s hs => by have := List.any_eq_false.1 hb.2 s hs; simpa using this⟩
  replace h200 := Lib.hid h200
  repeat' (first | (with_reducible refine zA ?_) | ((with_reducible refine qaaj ?_); (try rw [hP]); simp -implicitDefEqProofs [*]) | ((with_reducible refine qaa1 ?_); (try simp -implicitDefEqProofs [*])) | ((with_reducible refine qaat rfl (fun h => ?_) (fun h => ?_)) <;> have h' := h <;> (try simp at h') <;> (try subst h')) | ((first | refine qab2 (qafz _) ?_ | refine qab2 (qad8 l _) ?_ | refine qaep (tnew_a k m _) trivial ⟨rfl, trivial⟩ ?_); simp -implicitDefEqProofs [*]) | fail)
  refine qaef (qalx (t := 45) (cs := [.int .i64 3, .int .i64 k, .int .i64 0, .int .i64 m, .nilsl]) 41 4 29 6 rfl rfl) ?_
  refine qabp (qads (fun s (x : Nat × List Entry × List Entry) => ⟨[(2, qadp l), (7, .ptr 0 0), (8, .ptr 1 0), (9, .int .i64 x.1)], [(0, .abs (qacx (some (k, m)) x.2.1)), (1, qabm 3 k 0 m 2 x.2.2.length), (2, qabn x.2.2)], 3⟩) (fun x => x.1 ≤ l.length ∧ RelV k x.2.1 x.2.2 ∧ x.2.2.length ≤ x.1) (fun x => l.length - x.1) (0, [], []) (qabh [(0, 29), (1, 41), (2, 44)] hm ⟨Co.refl _, Co.refl _, Co.refl _, Co.refl _, trivial⟩ ⟨⟨_, rfl, rfl⟩, ⟨_, rfl, rfl, CoL.refl _⟩, ⟨_, rfl, rfl, rfl, CoLL.refl _⟩, trivial⟩ rfl (Nat.zero_le _)) ⟨by simp, qa2s k, by simp⟩ ?_)
  rintro J hJ ⟨i, t, L⟩ ⟨g1, g2, g3⟩
  unfold qai9
  simp only at g1 g2 g3 ⊢
  have hl2 := h200.out.1
  have hsm := qaig g2
  have htl : t.length = L.length := g2.perm.length_eq
  rcases Nat.lt_or_ge i l.length with hi | hi
  ·have hbe := h200.out.2 l[i] (List.getElem_mem hi)
   have hfe := hfit l[i] (List.getElem_mem hi)
   simp only [bigE, Bool.or_eq_false_iff, decide_eq_false_iff_not] at hbe
   obtain ⟨d, e0, hle⟩ : ∃ d e0, l[i] = ⟨d, e0⟩ := ⟨_, _, rfl⟩
   rw [hle] at hbe hfe
   simp only at hbe hfe
   have hse : qab7 e0 := ⟨by omega, by omega, by omega⟩
   have k1 := fun q hq => qa2m k m t e0 g2.inv (by omega) hse 0 q hq
   have k2 := fun q hq => tdrop_a k m t e0 g2.inv (by omega) hse 0 q hq
   have k3 := fun q hq => tchg_a k m t e0 g2.inv (by omega) hse 0 q hq
   have k0 := fun q => qabo (ownE_s e0 hse) (fun σ => rfl) (fun σ => rfl) rfl q
   have wi : IntKind.i64.wrap ((i : Int) + 1) = (i : Int) + 1 := qabt (by omega) (by omega)
   have rest : ∀ (t' L' : List Entry) (c : Int), RelV k t' L' → L'.length ≤ i + 1 → SWp X qah7 (qagu 1 (QSeq X (SCode.reg false qahc [2, 7, 8, 9]) (qa2e X J (l.length - i) (qagu 0 (QSeq X ((SCode.reg false qahb [6]).seq SCode.ret) (QFun X [ResultVar.tmp 6] 0 (SV.bool true) []))))))
     ⟨[(2, qadp l), (7, .ptr 0 0), (8, .ptr 1 0), (9, .int .i64 i), (10, .ptr 3 0), (11, .int .i64 c), (12, .int .i64 c)], [(0, .abs (qacx (some (k, m)) t')), (1, qabm 3 k 0 m 2 L'.length), (2, qabn L'), (3, .cells 29 (qaae e0))], 4⟩ := by
    intro t' L' c hr hl'
    refine qap5 X hP hm l k m t' L' i c d e0 hi hle hse hr (by omega) ?_
    intro tl hp nx
    simp only [qaak, qabd]
    replace hr := Lib.hid hr
    repeat' (first | ((with_reducible refine qaaj ?_); (try rw [hP]); simp -implicitDefEqProofs [wi, *]) | fail)
    refine qacp hJ (i + 1, t', L') (qabh [] hm ⟨Co.refl _, Co.refl _, Co.refl _, Co.refl _, trivial⟩ ⟨⟨_, rfl, rfl⟩, ⟨_, rfl, rfl, CoL.refl _⟩, ⟨_, rfl, rfl, rfl, ?_⟩, trivial⟩ rfl (Nat.zero_le _)) ⟨by simp only; omega, hr.out, hl'⟩ (by simp only; omega)
    rw [qab3]; exact CoLL.refl _
   replace rest := Lib.hid rest
   unfold qaae at k0 k1 k2 k3
   by_cases hd0 : d = 0
   ·subst hd0
    have hv := qawg (m := m) (wd := 0) g2 hfe
    have hr := add_rel (m := m) (wd := 0) g2 hfe hse
    have hmask : qa1n 3 k L := fun _ => ⟨by omega, by omega, qaqs g2⟩
    by_cases hc : addC 3 k 0 m L e0 = 0
    ·have k4 := fun q h1 h2 => raddY 3 k 0 m L e0 hsm hse (by omega) hmask hc 1 2 q (by decide) h1 h2
     rw [← hv, hc] at k1
     rw [if_pos hc] at hr
     have hlen : (L ++ [qaka 3 e0]).length ≤ i + 1 := by simp; omega
     generalize L ++ [qaka 3 e0] = L1 at k4 hr hlen
     generalize addR k m t e0 = t1 at k1 hr
     unfold qaae qabk at k4
     clear hv hmask hc hbe hfe hsm g2 htl
     replace hr := Lib.hid hr
     repeat' (first | ((with_reducible refine qac8 (c := .seq (.reg false qacl _) _) ?_)) | (with_reducible first | refine zA ?_ | refine qaa9 ?_ | refine zK ?_) | ((with_reducible first | refine qaaj ?_ | refine qabl (by rw [hP]; exact qadh) ?_); (try rw [hP]); simp -implicitDefEqProofs [qadp, qacs, qaae, hle, List.getElem?_eq_getElem hi, *]) | ((with_reducible refine qaa1 ?_); (try simp -implicitDefEqProofs [qadp, qacs, qaae, hle, List.getElem?_eq_getElem hi, *])) | ((with_reducible refine qaat rfl (fun h => ?_) (fun h => ?_)) <;> have h' := h <;> (try simp at h') <;> (try subst h')) | ((first | refine qab2 (k0 _) ?_ | refine qaep (k1 _ (by simp)) ⟨rfl, trivial⟩ ⟨rfl, trivial⟩ ?_ | refine qaep (k4 _ (by simp) (by simp)) ⟨rfl, rfl, trivial⟩ ⟨rfl, rfl, trivial⟩ ?_); simp -implicitDefEqProofs [qadp, qacs, qaae, hle, List.getElem?_eq_getElem hi, *]) | fail)
     constructor
     refine qaef ?_ (rest.out t1 L1 0 hr.out hlen)
     exact qabh [(2, 47), (3, 20)] hm ⟨Co.refl _, Co.refl _, Co.refl _, Co.refl _, Co.refl _, Co.refl _, Co.refl _, trivial⟩ ⟨⟨_, rfl, rfl⟩, ⟨_, rfl, rfl, CoL.refl _⟩, ⟨_, rfl, rfl, rfl, by rw [qab3]; exact CoLL.refl _⟩, ⟨_, rfl, rfl, CoL.refl _⟩, trivial⟩ rfl (by simp)
    ·have k4 := fun q h1 h2 => raddN 3 k 0 m L e0 hsm hse (by omega) hmask hc 1 2 q (by decide) h1 h2
     rw [← hv] at k1
     rw [if_neg hc] at hr
     have hlen : L.length ≤ i + 1 := by omega
     generalize addR k m t e0 = t1 at k1 hr
     generalize addC 3 k 0 m L e0 = v at k1 k4
     unfold qaae qabk at k4
     clear hv hmask hc hbe hfe hsm g2 htl
     replace hr := Lib.hid hr
     repeat' (first | ((with_reducible refine qac8 (c := .seq (.reg false qacl _) _) ?_)) | (with_reducible first | refine zA ?_ | refine qaa9 ?_ | refine zK ?_) | ((with_reducible first | refine qaaj ?_ | refine qabl (by rw [hP]; exact qadh) ?_); (try rw [hP]); simp -implicitDefEqProofs [qadp, qacs, qaae, hle, List.getElem?_eq_getElem hi, *]) | ((with_reducible refine qaa1 ?_); (try simp -implicitDefEqProofs [qadp, qacs, qaae, hle, List.getElem?_eq_getElem hi, *])) | ((with_reducible refine qaat rfl (fun h => ?_) (fun h => ?_)) <;> have h' := h <;> (try simp at h') <;> (try subst h')) | ((first | refine qab2 (k0 _) ?_ | refine qaep (k1 _ (by simp)) ⟨rfl, trivial⟩ ⟨rfl, trivial⟩ ?_ | refine qaep (k4 _ (by simp) (by simp)) ⟨rfl, rfl, trivial⟩ ⟨rfl, rfl, trivial⟩ ?_); simp -implicitDefEqProofs [qadp, qacs, qaae, hle, List.getElem?_eq_getElem hi, *]) | fail)
     constructor
     refine qaef ?_ (rest.out t1 L v hr.out hlen)
     exact qabh [(3, 20)] hm ⟨Co.refl _, Co.refl _, Co.refl _, Co.refl _, Co.refl _, Co.refl _, Co.refl _, trivial⟩ ⟨⟨_, rfl, rfl⟩, ⟨_, rfl, rfl, CoL.refl _⟩, ⟨_, rfl, rfl, rfl, by rw [qab3]; exact CoLL.refl _⟩, ⟨_, rfl, rfl, CoL.refl _⟩, trivial⟩ rfl (by simp)
   by_cases hd1 : d = 1
   ·subst hd1
    have hv := qafw (wd := 0) g2 hfe
    have hr := chg_rel (wd := 0) g2 hfe hse
    have k4 := fun q h1 h2 => rchgA 3 k 0 m L e0 hsm hse (by omega) 1 2 q (by decide) h1 h2
    rw [← hv] at k3
    have hlen : (chgL 3 k 0 L e0).length ≤ i + 1 := by rw [qar9]; omega
    generalize chgL 3 k 0 L e0 = L1 at k4 hr hlen
    generalize chgR k t e0 = t1 at k3 hr
    generalize chgC 3 k 0 L e0 = v at k3 k4
    unfold qaae qabk at k4
    clear hv hbe hfe hsm g2 htl
    replace hr := Lib.hid hr
    repeat' (first | ((with_reducible refine qac8 (c := .seq (.reg false qacl _) _) ?_)) | (with_reducible first | refine zA ?_ | refine qaa9 ?_ | refine zK ?_) | ((with_reducible first | refine qaaj ?_ | refine qabl (by rw [hP]; exact qadh) ?_); (try rw [hP]); simp -implicitDefEqProofs [qadp, qacs, qaae, hle, List.getElem?_eq_getElem hi, *]) | ((with_reducible refine qaa1 ?_); (try simp -implicitDefEqProofs [qadp, qacs, qaae, hle, List.getElem?_eq_getElem hi, *])) | ((with_reducible refine qaat rfl (fun h => ?_) (fun h => ?_)) <;> have h' := h <;> (try simp at h') <;> (try subst h')) | ((first | refine qab2 (k0 _) ?_ | refine qaep (k3 _ (by simp)) ⟨rfl, trivial⟩ ⟨rfl, trivial⟩ ?_ | refine qaep (k4 _ (by simp) (by simp)) ⟨rfl, rfl, trivial⟩ ⟨rfl, rfl, trivial⟩ ?_); simp -implicitDefEqProofs [qadp, qacs, qaae, hle, List.getElem?_eq_getElem hi, *]) | fail)
    constructor
    refine qaef ?_ (rest.out t1 L1 v hr.out hlen)
    exact qabh [(3, 20)] hm ⟨Co.refl _, Co.refl _, Co.refl _, Co.refl _, Co.refl _, Co.refl _, Co.refl _, trivial⟩ ⟨⟨_, rfl, rfl⟩, ⟨_, rfl, rfl, CoL.refl _⟩, ⟨_, rfl, rfl, rfl, by rw [qab3]; exact CoLL.refl _⟩, ⟨_, rfl, rfl, CoL.refl _⟩, trivial⟩ rfl (by simp)
   by_cases hd2 : d = 2
   ·subst hd2
    have hv : qakb 3 k 0 L e0 = qamk k t e0 := qafw (wd := 0) g2 hfe
    have hr := qa3k (wd := 0) g2 hfe
    have hlen : (qak8 3 k 0 L e0).length ≤ i + 1 := by rw [← hr.perm.length_eq]; have := @qaxf k t e0; omega
    by_cases hc : qakb 3 k 0 L e0 = 0
    ·have k4 := fun q h1 h2 => rdropY 3 k 0 m L e0 hsm hse (by omega) hc 1 2 q (by decide) h1 h2
     rw [← hv, hc] at k2
     generalize qak8 3 k 0 L e0 = L1 at k4 hr hlen
     generalize qapv k t e0 = t1 at k2 hr
     unfold qaae qabk at k4
     clear hv hc hbe hfe hsm g2 htl
     replace hr := Lib.hid hr
     repeat' (first | ((with_reducible refine qac8 (c := .seq (.reg false qacl _) _) ?_)) | (with_reducible first | refine zA ?_ | refine qaa9 ?_ | refine zK ?_) | ((with_reducible first | refine qaaj ?_ | refine qabl (by rw [hP]; exact qadh) ?_); (try rw [hP]); simp -implicitDefEqProofs [qadp, qacs, qaae, hle, List.getElem?_eq_getElem hi, *]) | ((with_reducible refine qaa1 ?_); (try simp -implicitDefEqProofs [qadp, qacs, qaae, hle, List.getElem?_eq_getElem hi, *])) | ((with_reducible refine qaat rfl (fun h => ?_) (fun h => ?_)) <;> have h' := h <;> (try simp at h') <;> (try subst h')) | ((first | refine qab2 (k0 _) ?_ | refine qaep (k2 _ (by simp)) ⟨rfl, trivial⟩ ⟨rfl, trivial⟩ ?_ | refine qaep (k4 _ (by simp) (by simp)) ⟨rfl, rfl, trivial⟩ ⟨rfl, rfl, trivial⟩ ?_); simp -implicitDefEqProofs [qadp, qacs, qaae, hle, List.getElem?_eq_getElem hi, *]) | fail)
     constructor
     refine qaef ?_ (rest.out t1 L1 0 hr.out hlen)
     exact qabh [(2, 51), (3, 20)] hm ⟨Co.refl _, Co.refl _, Co.refl _, Co.refl _, Co.refl _, Co.refl _, Co.refl _, trivial⟩ ⟨⟨_, rfl, rfl⟩, ⟨_, rfl, rfl, CoL.refl _⟩, ⟨_, rfl, rfl, rfl, by rw [qab3]; exact CoLL.refl _⟩, ⟨_, rfl, rfl, CoL.refl _⟩, trivial⟩ rfl (by simp)
    ·have k4 := fun q h1 h2 => rdropN 3 k 0 m L e0 hsm hse (by omega) hc 1 2 q (by decide) h1 h2
     rw [← hv] at k2
     rw [show qak8 3 k 0 L e0 = L from if_neg hc] at hr hlen
     generalize qapv k t e0 = t1 at k2 hr
     generalize qakb 3 k 0 L e0 = v at k2 k4
     unfold qaae qabk at k4
     clear hv hc hbe hfe hsm g2 htl
     replace hr := Lib.hid hr
     repeat' (first | ((with_reducible refine qac8 (c := .seq (.reg false qacl _) _) ?_)) | (with_reducible first | refine zA ?_ | refine qaa9 ?_ | refine zK ?_) | ((with_reducible first | refine qaaj ?_ | refine qabl (by rw [hP]; exact qadh) ?_); (try rw [hP]); simp -implicitDefEqProofs [qadp, qacs, qaae, hle, List.getElem?_eq_getElem hi, *]) | ((with_reducible refine qaa1 ?_); (try simp -implicitDefEqProofs [qadp, qacs, qaae, hle, List.getElem?_eq_getElem hi, *])) | ((with_reducible refine qaat rfl (fun h => ?_) (fun h => ?_)) <;> have h' := h <;> (try simp at h') <;> (try subst h')) | ((first | refine qab2 (k0 _) ?_ | refine qaep (k2 _ (by simp)) ⟨rfl, trivial⟩ ⟨rfl, trivial⟩ ?_ | refine qaep (k4 _ (by simp) (by simp)) ⟨rfl, rfl, trivial⟩ ⟨rfl, rfl, trivial⟩ ?_); simp -implicitDefEqProofs [qadp, qacs, qaae, hle, List.getElem?_eq_getElem hi, *]) | fail)
     constructor
     refine qaef ?_ (rest.out t1 L v hr.out hlen)
     exact qabh [(3, 20)] hm ⟨Co.refl _, Co.refl _, Co.refl _, Co.refl _, Co.refl _, Co.refl _, Co.refl _, trivial⟩ ⟨⟨_, rfl, rfl⟩, ⟨_, rfl, rfl, CoL.refl _⟩, ⟨_, rfl, rfl, rfl, by rw [qab3]; exact CoLL.refl _⟩, ⟨_, rfl, rfl, CoL.refl _⟩, trivial⟩ rfl (by simp)
   ·have hr := g2
    have hlen : L.length ≤ i + 1 := by omega
    have b0 : (d == 0) = false := by simpa using hd0
    have b1 : (d == 1) = false := by simpa using hd1
    have b2 : (d == 2) = false := by simpa using hd2
    clear hbe hfe hsm g2 htl
    replace hr := Lib.hid hr
    repeat' (first | ((with_reducible refine qac8 (c := .seq (.reg false qacl _) _) ?_)) | (with_reducible first | refine zA ?_ | refine qaa9 ?_) | ((with_reducible refine qaaj ?_); (try rw [hP]); simp -implicitDefEqProofs [qadp, qacs, qaae, hle, List.getElem?_eq_getElem hi, b0, b1, b2, *]) | ((with_reducible refine qaa1 ?_); (try simp -implicitDefEqProofs [qadp, qacs, qaae, hle, List.getElem?_eq_getElem hi, b0, b1, b2, *])) | ((with_reducible refine qaat rfl (fun h => ?_) (fun h => ?_)) <;> have h' := h <;> (try simp at h') <;> (try subst h')) | (refine qab2 (k0 _) ?_; simp -implicitDefEqProofs [qadp, qacs, qaae, hle, List.getElem?_eq_getElem hi, b0, b1, b2, *]) | fail)
    constructor
    refine qaef ?_ (rest.out t L 0 hr.out hlen)
    exact qabh [(3, 20)] hm ⟨Co.refl _, Co.refl _, Co.refl _, Co.refl _, Co.refl _, Co.refl _, Co.refl _, trivial⟩ ⟨⟨_, rfl, rfl⟩, ⟨_, rfl, rfl, CoL.refl _⟩, ⟨_, rfl, rfl, rfl, by rw [qab3]; exact CoLL.refl _⟩, ⟨_, rfl, rfl, CoL.refl _⟩, trivial⟩ rfl (by simp)
  ·obtain rfl : i = l.length := by omega
   have hp := all_rel g2
   have hll : (qae1 t).length ≤ 1000000 := by rw [hp.length_eq]; omega
   have k1 := fun q => tall_a k m t g2.inv (by omega) 0 q
   have k2 := fun q h1 h2 => rallA 3 k 0 m L (qae1 t) hsm (by omega) (qa1l g2.inv) hp 1 2 q (by decide) h1 h2
   have k3 := fun q => qabo (sents_s (qae1 t) (qae1 t) hll (fun e he => hsm e (hp.mem_iff.1 he))) (fun σ => rfl) (fun σ => rfl) rfl q
   rw [qang] at k3
   unfold qabk at k2
   clear hJ hsm hp hll htl g1 g2 g3 hl2
   generalize qae1 t = S at k1 k2 k3
   repeat' (first | (with_reducible refine zA ?_) | ((with_reducible refine qaaj ?_); (try rw [hP]); simp -implicitDefEqProofs [qadp, *]) | ((with_reducible refine qabw ?_); (try simp -implicitDefEqProofs [qadp, *])) | ((with_reducible refine qaa7 ?_); (try simp only [qaau, qaab, qaaf])) | ((with_reducible refine qaat rfl (fun h => ?_) (fun h => ?_)) <;> have h' := h <;> (try simp at h') <;> (try subst h')) | ((first | refine qab9 (k1 _) ⟨rfl, trivial⟩ ⟨rfl, trivial⟩ ?_ | refine qab9 (k2 _ (by simp) (by simp)) ⟨rfl, rfl, trivial⟩ ⟨rfl, rfl, trivial⟩ ?_ | refine qab2 (k3 _) ?_); simp -implicitDefEqProofs [qadp, *]) | (with_reducible refine zN hm ?_) | fail)
   all_goals rfl
theorem TernaryDoes_law (k m : Int) (lo : Option Addr) (ln lc : Nat) (l : List TStep) (w : World) (_ : (Lit.int .i64 k).wf = true) (_ : (Lit.int .i64 m).wf = true) (hl : RdL qahp NoA w lo ln lc l) :
  Calls Try.prog 4 #[.int .i64 k, .int .i64 m, .slice lo ln lc] w fun e w' => e = .returned (.bool true) ∧ Below w.heap.size w w' :=
 law_of (vs := [.int .i64 k, .int .i64 m, .slice lo ln lc]) (tdoes_s k m l fun s hs x hx => ((qarl qark hl s hs).keys x hx).u64) (Reps.cons .int (Reps.cons .int (Reps.cons (qahz qari hl) Reps.nil)))
end Go.Proofs.Ytefkifebgeagiaa
