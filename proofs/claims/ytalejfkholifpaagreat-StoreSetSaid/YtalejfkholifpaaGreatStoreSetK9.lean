/-
  Texts joined: XPfxD XPfxE XPfxG XPfxO. No condition.
-/
import Derived.WalkSpells
import Derived.RegionTactic
import Derived.BigRegion
import Derived.Deep.RegionLaw
import Derived.Test.YtalejfkholifpaaGreatProg
import Derived.Test.YtalejfkholifpaaGreatStoreSetK8
namespace Go.Proofs.YtalejfkholifpaaGreat
set_option linter.all false
open Go.RowKit
attribute [local go_sem ↓] Go.wp_at_zero Go.wp_at_succ
structure Pruned (W K : Nat) (key : Int) (M : Nat → Prop) (adr : Nat → Int → Option Nat) (dat : Nat → Int → Dat) (i : Nat) (w w' : World) (adr' : Nat → Int → Option Nat) : Prop where
 sub : ∀ j v g, adr' j v = some g → adr j v = some g
 off : ∀ j v, ¬ (i ≤ j ∧ j ≤ K ∧ v = pre W key j) → adr' j v = adr j v
 node : ∀ j g, i ≤ j → j ≤ K → adr' j (pre W key j) = some g → NodeAt w' M adr' j (pre W key j) g (qafc dat K (pre W key K) qalc j (pre W key j))
 step : Step (fun b => ∃ q, i ≤ q ∧ q ≤ K ∧ adr q (pre W key q) = some b) w w'
 gone : ∀ q, i ≤ q → q ≤ K → adr' q (pre W key q) = none → (q < K → (dat q (pre W key q)).there = false) ∧ adr' (q + 1) (2 * pre W key q) = none ∧ adr' (q + 1) (2 * pre W key q + 1) = none
theorem step3 (w : World) (g : Nat) (a b c : Value) : Step (fun k => k = g) w (((w.setCell ⟨g, 0, none⟩ a).setCell ⟨g, 1, none⟩ b).setCell ⟨g, 2, none⟩ c) :=
 ((Step.set (fun k => k = g) w ⟨g, 0, none⟩ rfl _).trans (Step.set (fun k => k = g) _ ⟨g, 1, none⟩ rfl _)).trans (Step.set (fun k => k = g) _ ⟨g, 2, none⟩ rfl _)
theorem Pruned.last {W K : Nat} {key : Int} {M : Nat → Prop} {adr : Nat → Int → Option Nat} {dat : Nat → Int → Dat} {w : World} (ht : Trie w M adr dat) {g : Nat} (hg : adr K (pre W key K) = some g) (keepIt : Bool)
  (hk : keepIt = false → adr (K + 1) (2 * pre W key K) = none ∧ adr (K + 1) (2 * pre W key K + 1) = none) :
  Pruned W K key M adr dat K w (((w.setCell ⟨g, 0, none⟩ (.bool false)).setCell ⟨g, 1, none⟩ (.int .i64 0)).setCell ⟨g, 2, none⟩ (.slice none 0 0)) (if keepIt then adr else qafe adr K (pre W key K) none) := by
 obtain ⟨⟨ao, an, ac, b1, b2, b3⟩, b4⟩ := ht.node _ _ _ hg
 have hs := step3 w g (.bool false) (.int .i64 0) (.slice none 0 0)
 refine ⟨fun j v h e => ?_, fun j v hn => ?_, fun j h h1 h2 e => ?_, hs.mono fun b hb => ⟨K, Nat.le_refl _, Nat.le_refl _, by rw [show b = g from hb]; exact hg⟩, fun q h1 h2 e => ?_⟩
 ·cases keepIt with
  | true => exact e
  | false =>
   by_cases hx : j = K ∧ v = pre W key K
   ·obtain ⟨rfl, rfl⟩ := hx
    rw [if_neg (by decide), qabx] at e; cases e
   ·rw [if_neg (by decide), qabk hx] at e; exact e
 ·cases keepIt with
  | true => rfl
  | false => rw [if_neg (by decide), qabk fun hx => hn ⟨by omega, by omega, by rw [hx.2, hx.1]⟩]
 ·obtain rfl : j = K := by omega
  cases keepIt with
  | true =>
   rw [if_pos rfl] at e ⊢
   rw [hg] at e
   cases e
   rw [qaes]
   refine ⟨none, 0, 0, ?_, RdL.nil_ _ _ _, Fits.of_i64 (by decide) (by decide)⟩
   have := ((b1.set_ 0 (.bool false)).set_ 1 (.int .i64 0)).set_ 2 (.slice none 0 0)
   simpa [qalc] using this
  | false => rw [if_neg (by decide), qabx] at e; cases e
 ·obtain rfl : q = K := by omega
  cases keepIt with
  | true => rw [if_pos rfl, hg] at e; cases e
  | false =>
   rw [if_neg (by decide), qabk (by omega), qabk (by omega)]
   exact ⟨fun h => by omega, hk rfl⟩
theorem Pruned.back {W K i : Nat} {key : Int} {M : Nat → Prop} {adr adr' : Nat → Int → Option Nat} {dat : Nat → Int → Dat} {w w1 w2 : World} (ht : Trie w M adr dat) (hb1 : Below w.heap.size w w1) (hi : i < K) (hK : K ≤ W) {g c : Nat} (hg : adr i (pre W key i) = some g) (hc : c = 0 ∨ c = 1) (hp : pre W key (i + 1) = 2 * pre W key i + c)
  (h : Pruned W K key M adr dat (i + 1) w1 w2 adr') (keepIt : Bool) (hk : keepIt = false → (dat i (pre W key i)).there = false ∧ adr' (i + 1) (2 * pre W key i) = none ∧ adr' (i + 1) (2 * pre W key i + 1) = none) :
  Pruned W K key M adr dat i w (w2.setCell ⟨g, 3 + c, none⟩ (ptr (adr' (i + 1) (pre W key (i + 1))))) (if keepIt then adr' else qafe adr' i (pre W key i) none) := by
 have hsame : adr' i (pre W key i) = some g := by rw [h.off _ _ (by omega)]; exact hg
 obtain ⟨⟨ao, an, ac, b1, b2, b3⟩, b4⟩ := (ht.below hb1).node _ _ _ hg
 have hng : ¬ (fun b => ∃ q, i + 1 ≤ q ∧ q ≤ K ∧ adr q (pre W key q) = some b) g := fun ⟨q, q1, q2, q3⟩ => by
  have := (ht.inj _ _ _ _ _ hg q3).1; omega
 have B2 : Blk w2 g _ _ := (h.step.block g b1.lt hng).trans b1
 have R2 : RdL (Lay.int .u64) (fun k => ¬ M k) w2 ao an ac (dat i (pre W key i)).args := b2.step (h.step.mono fun b ⟨q, _, _, q3⟩ => (ht.node _ _ _ q3).2)
 have hs := Step.set (fun k => k = g) w2 ⟨g, 3 + c, none⟩ rfl (ptr (adr' (i + 1) (pre W key (i + 1))))
 have hst : Step (fun b => ∃ q, i ≤ q ∧ q ≤ K ∧ adr q (pre W key q) = some b) w (w2.setCell ⟨g, 3 + c, none⟩ (ptr (adr' (i + 1) (pre W key (i + 1))))) :=
  ((Step.of hb1).trans (h.step.mono fun b ⟨q, q1, q2, q3⟩ => ⟨q, by omega, q2, q3⟩)).trans (hs.mono fun b hb => ⟨i, Nat.le_refl _, by omega, by rw [show b = g from hb]; exact hg⟩)
 have hnode : NodeAt (w2.setCell ⟨g, 3 + c, none⟩ (ptr (adr' (i + 1) (pre W key (i + 1))))) M adr' i (pre W key i) g (dat i (pre W key i)) := by
  refine ⟨ao, an, ac, ?_, R2.step (hs.mono fun b hb => by rw [show b = g from hb]; exact b4), b3⟩
  have B3 := B2.set_ (3 + c) (ptr (adr' (i + 1) (pre W key (i + 1))))
  rcases hc with rfl | rfl
  ·have e1 : adr' (i + 1) (2 * pre W key i + 1) = adr (i + 1) (2 * pre W key i + 1) := h.off _ _ (by rw [hp]; omega)
   have e2 : pre W key (i + 1) = 2 * pre W key i := by rw [hp]; simp
   rw [e1, show adr' (i + 1) (2 * pre W key i) = adr' (i + 1) (pre W key (i + 1)) by rw [e2]]
   simpa using B3
  ·have e1 : adr' (i + 1) (2 * pre W key i) = adr (i + 1) (2 * pre W key i) := h.off _ _ (by rw [hp]; omega)
   have e2 : pre W key (i + 1) = 2 * pre W key i + 1 := by rw [hp]; simp
   rw [e1, show adr' (i + 1) (2 * pre W key i + 1) = adr' (i + 1) (pre W key (i + 1)) by rw [e2]]
   simpa using B3
 have hoth : ∀ j h', i + 1 ≤ j → j ≤ K → adr' j (pre W key j) = some h' → NodeAt (w2.setCell ⟨g, 3 + c, none⟩ (ptr (adr' (i + 1) (pre W key (i + 1))))) M adr' j (pre W key j) h' (qafc dat K (pre W key K) qalc j (pre W key j)) := fun j h' j1 j2 e =>
  (h.node j h' j1 j2 e).step hs (fun b hb => by rw [show b = g from hb]; exact b4) (fun hb => by
   have := (ht.inj _ _ _ _ _ hg ((h.sub _ _ _ e).trans (by rw [show h' = g from hb]))).1; omega)
 have hdat : qafc dat K (pre W key K) qalc i (pre W key i) = dat i (pre W key i) := qad2 (by omega)
 refine ⟨fun j v b e => ?_, fun j v hn => ?_, fun j b h1 h2 e => ?_, hst, fun q h1 h2 e => ?_⟩
 ·cases keepIt with
  | true => exact h.sub j v b e
  | false =>
   by_cases hx : j = i ∧ v = pre W key i
   ·obtain ⟨rfl, rfl⟩ := hx
    rw [if_neg (by decide), qabx] at e; cases e
   ·rw [if_neg (by decide), qabk hx] at e; exact h.sub j v b e
 ·have e1 : adr' j v = adr j v := h.off j v fun hx => hn ⟨by omega, hx.2.1, hx.2.2⟩
  cases keepIt with
  | true => exact e1
  | false => rw [if_neg (by decide), qabk fun hx => hn ⟨by omega, by omega, by rw [hx.2, hx.1]⟩]; exact e1
 ·cases keepIt with
  | true =>
   rw [if_pos rfl] at e ⊢
   by_cases hj : j = i
   ·subst hj
    rw [hsame] at e
    cases e
    rw [hdat]
    exact hnode
   ·exact hoth j b (by omega) h2 e
  | false =>
   rw [if_neg (by decide)] at e ⊢
   by_cases hj : j = i
   ·subst hj
    rw [qabx] at e; cases e
   ·rw [qabk (by omega)] at e
    obtain ⟨x, y, z, n1, n2, n3⟩ := hoth j b (by omega) h2 e
    exact ⟨x, y, z, by rw [qabk (by omega), qabk (by omega)]; exact n1, n2, n3⟩
 ·cases keepIt with
  | true =>
   rw [if_pos rfl] at e ⊢
   by_cases hq : q = i
   ·subst hq
    rw [hsame] at e; cases e
   ·exact h.gone q (by omega) h2 e
  | false =>
   rw [if_neg (by decide)] at e ⊢
   by_cases hq : q = i
   ·subst hq
    rw [qabk (by omega), qabk (by omega)]
    exact ⟨fun _ => (hk rfl).1, (hk rfl).2⟩
   ·rw [qabk (by omega)] at e
    rw [qabk (by omega), qabk (by omega)]
    exact h.gone q (by omega) h2 e
set_option maxRecDepth 100000 in
set_option maxHeartbeats 4000000 in
theorem qaou (gt W K : Nat) (key most n : Int) (M : Nat → Prop) (adr : Nat → Int → Option Nat) (dat : Nat → Int → Dat) (hW : W ≤ 64) (hK : K ≤ W) (hkey : Fits .u64 key) (hlt : key < 2 ^ W) :
  ∀ (d i : Nat), i + d = K → ∀ (w : World), Pfx w gt (W : Int) most n M adr dat → ∀ (g : Nat), adr i (pre W key i) = some g → adr K (pre W key K) ≠ none →
  Calls Tryz.prog 130 #[.pointer (some ⟨gt, 0, none⟩), .pointer (some ⟨g, 0, none⟩), .int .u64 key, .int .i64 (i : Int), .int .i64 (K : Int)] w fun e w' => ∃ adr', e = .returned (ptr (adr' i (pre W key i))) ∧ Pruned W K key M adr dat i w w' adr' := by
 intro d
 induction d with
 | zero =>
  intro i hi w h g hg hne
  obtain rfl : i = K := by omega
  obtain ⟨⟨ao, an, ac, B1, _, _⟩, _⟩ := h.trie.node _ _ _ hg
  have q : ((i : Int) == (i : Int)) = true := by simp
  have b0 := B1.cell 0
  have b1 := B1.cell 1
  have b2 := B1.cell 2
  have b3 := B1.cell 3
  have b4 := B1.cell 4
  simp at b0 b1 b2 b3 b4
  have bz := B1.lt
  have f0 := B1.frozen 0
  have f1 := B1.frozen 1
  have f2 := B1.frozen 2
  have HL := Lib.hid (fun keepIt hk => Pruned.last h.trie hg keepIt hk)
  have Hg := Lib.hid hg
  obtain ⟨x, hx⟩ : ∃ x, adr (i + 1) (2 * pre W key i) = x := ⟨_, rfl⟩
  obtain ⟨y, hy⟩ : ∃ y, adr (i + 1) (2 * pre W key i + 1) = y := ⟨_, rfl⟩
  rw [hx] at b3
  rw [hy] at b4
  have HX := Lib.hid hx
  have HY := Lib.hid hy
  have hEq := fun (p q : Option Addr) (w : World) => qayc p q w
  clear h hg hne hx hy B1 hi
  cases x with
  | none =>
   cases y with
   | none =>
    rw [qado] at b3 b4
    go_enter Tryz.func130, Tryz.ntmps130
    go_wp2_with fail
    go_ret
    exact ⟨_, by rw [show (if (false : Bool) then adr else qafe adr i (pre W key i) none) = qafe adr i (pre W key i) none from rfl, qabx]; rfl, HL.out false fun _ => ⟨HX.out, HY.out⟩⟩
   | some y =>
    rw [qado] at b3
    rw [qact] at b4
    go_enter Tryz.func130, Tryz.ntmps130
    go_wp2_with fail
    go_ret
    exact ⟨adr, by rw [Hg.out]; rfl, HL.out true fun h => by cases h⟩
  | some x =>
   rw [qact] at b3
   have hptr : ∃ py, ptr y = .pointer py := ⟨_, rfl⟩
   obtain ⟨py, hpy⟩ := hptr
   rw [hpy] at b4
   clear hpy
   go_enter Tryz.func130, Tryz.ntmps130
   go_wp2_with fail
   go_ret
   exact ⟨adr, by rw [Hg.out]; rfl, HL.out true fun h => by cases h⟩
 | succ d ih =>
  intro i hi w h g hg hne
  have q : ((i : Int) == (K : Int)) = false := by rw [beq_eq_false_iff_ne]; omega
  have hs := qagf key (show i < W by omega)
  have hpr := Lib.hid hs
  have HB := fun w' (hb : Below w.heap.size w w') => qafn gt W i key most n M adr dat w' (h.below hb) hW (by omega) hkey
  have hkb : kbit W key i = 0 ∨ kbit W key i = 1 := by have := qad7 W key i; omega
  have hwr : IntKind.i64.wrap ((i : Int) + 1) = (i : Int) + 1 := qadu (by omega) (by omega)
  have H := Lib.hid h
  clear hs
  rcases hkb with hb | hb
  ·rw [hb] at HB
   have hn : pre W key (i + 1) = 2 * pre W key i := by rw [hpr.out, hb]; omega
   have HN := Lib.hid hn
   have hch : ∃ g1, adr (i + 1) (2 * pre W key i) = some g1 := by
    cases e1 : adr (i + 1) (2 * pre W key i) with
    | none => exact absurd (h.trie.none_up (show i + 1 ≤ K by omega) hK (by rw [hn]; exact e1)) hne
    | some g1 => exact ⟨g1, rfl⟩
   obtain ⟨g1, hg1⟩ := hch
   have hg1' : Hid (adr (i + 1) (pre W key (i + 1)) = some g1) := by show _ = _; rw [hn]; exact hg1
   obtain ⟨sb, hsb⟩ : ∃ sb, adr (i + 1) (2 * pre W key i + 1) = sb := ⟨_, rfl⟩
   have hIH0 : ∀ w1, Below w.heap.size w w1 → Calls Tryz.prog 130 #[.pointer (some ⟨gt, 0, none⟩), .pointer (some ⟨g1, 0, none⟩), .int .u64 key, .int .i64 ((i : Int) + 1), .int .i64 (K : Int)] w1 (fun e w' => ∃ adr', e = .returned (ptr (adr' (i + 1) (pre W key (i + 1)))) ∧ Pruned W K key M adr dat (i + 1) w1 w' adr') := by
    intro w1 hb1
    have e : (((i + 1 : Nat)) : Int) = (i : Int) + 1 := by omega
    have := ih (i + 1) (by omega) w1 (h.below hb1) g1 hg1'.out hne
    rw [e] at this
    exact this
   have hIH := Lib.hid hIH0
   clear hIH0
   obtain ⟨⟨ao, an, ac, B1, _, _⟩, _⟩ := h.trie.node _ _ _ hg
   rw [hg1, hsb, qact] at B1
   have HSb := Lib.hid hsb
   have b3 := B1.cell 3
   simp at b3
   have bz := B1.lt
   have HB2 := Lib.hid HB
   have Hg := Lib.hid hg
   have Hne := Lib.hid hne
   have hEq := fun (p q : Option Addr) (w : World) => qayc p q w
   clear HB hb hg1 hsb hn h hg hne ih
   go_enter Tryz.func130, Tryz.ntmps130
   go_wp2_with fail
   refine (HB2.out _ (rf _)).mono ?_
   rintro e w' ⟨rfl, rfl⟩
   go_wp2_with fail
   go_region_law ((first
    | (go_simp; go_at_call 130; refine (hIH.out w.drew (Below.drew0_ w)).mono ?_; rintro e w4 ⟨adr', rfl, hPr⟩; obtain ⟨pv, hpv⟩ : ∃ pv, ptr (adr' (i + 1) (pre W key (i + 1))) = Value.pointer pv := ⟨_, rfl⟩; rw [hpv]; have HPv := Lib.hid hpv; clear hpv; have hB4 : Blk w4 g _ _ := (hPr.step.block g B1.lt (fun ⟨q, q1, q2, q3⟩ => by have := (H.out.trie.inj _ _ _ _ _ Hg.out q3).1; omega)).trans B1; have fz := hB4.frozen 3; have z4 := hB4.lt; have q3 := hB4.cell 3; simp at q3)))
   all_goals
    have hBk := fun keepIt hk => Pruned.back (c := 0) H.out.trie (Below.drew0_ w) (show i < K by omega) hK Hg.out (.inl rfl) (by rw [HN.out]; simp) hPr keepIt hk
    have hch : (pv = none → adr' (i + 1) (pre W key (i + 1)) = none) := by
     intro hp
     have := HPv.out
     rw [hp] at this
     cases e1 : adr' (i + 1) (pre W key (i + 1)) with
     | none => rfl
     | some x => rw [e1] at this; cases this
    rw [HPv.out] at hBk
    have hsib : adr' (i + 1) (2 * pre W key i + 1) = sb := by rw [hPr.off _ _ (by rw [HN.out]; omega)]; exact HSb.out
    have hsm : adr' i (pre W key i) = some g := by rw [hPr.off _ _ (by omega)]; exact Hg.out
    have HBk := Lib.hid hBk
    have HC := Lib.hid hch
    have HSm := Lib.hid hsm
    have HSib := Lib.hid hsib
    have B5 := hB4.set_ 3 (.pointer pv)
    have c0 := B5.cell 0
    have c3 := B5.cell 3
    have c4 := B5.cell 4
    simp at c0 c3 c4
    have c5 := B5.lt
    clear hBk hch hsm hsib B5 hB4 hPr q3 fz z4 HPv b3 bz B1
    change Exit.then _ _ _ _ (w4.setCell ⟨g, 3 + 0, none⟩ (.pointer pv))
    generalize w4.setCell ⟨g, 3 + 0, none⟩ (.pointer pv) = w5 at *
    cases hth : (dat i (pre W key i)).there with
    | true =>
     rw [hth] at c0
     clear hth
     go_wp2_with fail
     go_ret
     exact ⟨adr', by rw [HSm.out]; rfl, HBk.out true fun h => by cases h⟩
    | false =>
     rw [hth] at c0
     have HTh := Lib.hid hth
     clear hth
     cases pv with
     | some px =>
      have hptr : ∃ py, ptr sb = Value.pointer py := ⟨_, rfl⟩
      obtain ⟨py, hpy⟩ := hptr
      rw [hpy] at c4
      clear hpy
      go_wp2_with fail
      go_ret
      exact ⟨adr', by rw [HSm.out]; rfl, HBk.out true fun h => by cases h⟩
     | none =>
      cases sb with
      | some sx =>
       rw [qact] at c4
       go_wp2_with fail
       go_ret
       exact ⟨adr', by rw [HSm.out]; rfl, HBk.out true fun h => by cases h⟩
      | none =>
       rw [qado] at c4
       go_wp2_with fail
       go_ret
       refine ⟨_, ?_, HBk.out false fun _ => ⟨HTh.out, ?_⟩⟩
       ·rw [show (if (false : Bool) then adr' else qafe adr' i (pre W key i) none) = qafe adr' i (pre W key i) none from rfl, qabx]; rfl
       ·have hch0 := HC.out (by first | rfl | trivial)
        exact ⟨by rw [HN.out] at hch0; exact hch0, by rw [HSib.out]⟩
  ·rw [hb] at HB
   have hn : pre W key (i + 1) = 2 * pre W key i + 1 := by rw [hpr.out, hb]
   have HN := Lib.hid hn
   have hch : ∃ g1, adr (i + 1) (2 * pre W key i + 1) = some g1 := by
    cases e1 : adr (i + 1) (2 * pre W key i + 1) with
    | none => exact absurd (h.trie.none_up (show i + 1 ≤ K by omega) hK (by rw [hn]; exact e1)) hne
    | some g1 => exact ⟨g1, rfl⟩
   obtain ⟨g1, hg1⟩ := hch
   have hg1' : Hid (adr (i + 1) (pre W key (i + 1)) = some g1) := by show _ = _; rw [hn]; exact hg1
   obtain ⟨sb, hsb⟩ : ∃ sb, adr (i + 1) (2 * pre W key i) = sb := ⟨_, rfl⟩
   have hIH0 : ∀ w1, Below w.heap.size w w1 → Calls Tryz.prog 130 #[.pointer (some ⟨gt, 0, none⟩), .pointer (some ⟨g1, 0, none⟩), .int .u64 key, .int .i64 ((i : Int) + 1), .int .i64 (K : Int)] w1 (fun e w' => ∃ adr', e = .returned (ptr (adr' (i + 1) (pre W key (i + 1)))) ∧ Pruned W K key M adr dat (i + 1) w1 w' adr') := by
    intro w1 hb1
    have e : (((i + 1 : Nat)) : Int) = (i : Int) + 1 := by omega
    have := ih (i + 1) (by omega) w1 (h.below hb1) g1 hg1'.out hne
    rw [e] at this
    exact this
   have hIH := Lib.hid hIH0
   clear hIH0
   obtain ⟨⟨ao, an, ac, B1, _, _⟩, _⟩ := h.trie.node _ _ _ hg
   rw [hg1, hsb, qact] at B1
   have HSb := Lib.hid hsb
   have b3 := B1.cell 4
   simp at b3
   have bz := B1.lt
   have HB2 := Lib.hid HB
   have Hg := Lib.hid hg
   have Hne := Lib.hid hne
   have hEq := fun (p q : Option Addr) (w : World) => qayc p q w
   clear HB hb hg1 hsb hn h hg hne ih
   go_enter Tryz.func130, Tryz.ntmps130
   go_wp2_with fail
   refine (HB2.out _ (rf _)).mono ?_
   rintro e w' ⟨rfl, rfl⟩
   go_wp2_with fail
   go_region_law ((first
    | (go_simp; go_at_call 130; refine (hIH.out w.drew (Below.drew0_ w)).mono ?_; rintro e w4 ⟨adr', rfl, hPr⟩; obtain ⟨pv, hpv⟩ : ∃ pv, ptr (adr' (i + 1) (pre W key (i + 1))) = Value.pointer pv := ⟨_, rfl⟩; rw [hpv]; have HPv := Lib.hid hpv; clear hpv; have hB4 : Blk w4 g _ _ := (hPr.step.block g B1.lt (fun ⟨q, q1, q2, q3⟩ => by have := (H.out.trie.inj _ _ _ _ _ Hg.out q3).1; omega)).trans B1; have fz := hB4.frozen 4; have z4 := hB4.lt; have q3 := hB4.cell 4; simp at q3)))
   all_goals
    have hBk := fun keepIt hk => Pruned.back (c := 1) H.out.trie (Below.drew0_ w) (show i < K by omega) hK Hg.out (.inr rfl) (by rw [HN.out]; simp) hPr keepIt hk
    have hch : (pv = none → adr' (i + 1) (pre W key (i + 1)) = none) := by
     intro hp
     have := HPv.out
     rw [hp] at this
     cases e1 : adr' (i + 1) (pre W key (i + 1)) with
     | none => rfl
     | some x => rw [e1] at this; cases this
    rw [HPv.out] at hBk
    have hsib : adr' (i + 1) (2 * pre W key i) = sb := by rw [hPr.off _ _ (by rw [HN.out]; omega)]; exact HSb.out
    have hsm : adr' i (pre W key i) = some g := by rw [hPr.off _ _ (by omega)]; exact Hg.out
    have HBk := Lib.hid hBk
    have HC := Lib.hid hch
    have HSm := Lib.hid hsm
    have HSib := Lib.hid hsib
    have B5 := hB4.set_ 4 (.pointer pv)
    have c0 := B5.cell 0
    have c3 := B5.cell 3
    have c4 := B5.cell 4
    simp at c0 c3 c4
    have c5 := B5.lt
    clear hBk hch hsm hsib B5 hB4 hPr q3 fz z4 HPv b3 bz B1
    change Exit.then _ _ _ _ (w4.setCell ⟨g, 3 + 1, none⟩ (.pointer pv))
    generalize w4.setCell ⟨g, 3 + 1, none⟩ (.pointer pv) = w5 at *
    cases hth : (dat i (pre W key i)).there with
    | true =>
     rw [hth] at c0
     clear hth
     go_wp2_with fail
     go_ret
     exact ⟨adr', by rw [HSm.out]; rfl, HBk.out true fun h => by cases h⟩
    | false =>
     rw [hth] at c0
     have HTh := Lib.hid hth
     clear hth
     cases pv with
     | some px =>
      have hptr : ∃ py, ptr sb = Value.pointer py := ⟨_, rfl⟩
      obtain ⟨py, hpy⟩ := hptr
      rw [hpy] at c3
      clear hpy
      go_wp2_with fail
      go_ret
      exact ⟨adr', by rw [HSm.out]; rfl, HBk.out true fun h => by cases h⟩
     | none =>
      cases sb with
      | some sx =>
       rw [qact] at c3
       go_wp2_with fail
       go_ret
       exact ⟨adr', by rw [HSm.out]; rfl, HBk.out true fun h => by cases h⟩
      | none =>
       rw [qado] at c3
       go_wp2_with fail
       go_ret
       refine ⟨_, ?_, HBk.out false fun _ => ⟨HTh.out, ?_⟩⟩
       ·rw [show (if (false : Bool) then adr' else qafe adr' i (pre W key i) none) = qafe adr' i (pre W key i) none from rfl, qabx]; rfl
       ·have hch0 := HC.out (by first | rfl | trivial)
        exact ⟨by rw [HSib.out], by rw [HN.out] at hch0; exact hch0⟩
end Go.Proofs.YtalejfkholifpaaGreat
namespace Go.Proofs.YtalejfkholifpaaGreat
set_option linter.all false
open Go.RowKit
attribute [local go_sem ↓] Go.wp_at_zero Go.wp_at_succ
theorem Pruned.trie {W K : Nat} {key : Int} {M : Nat → Prop} {adr adr' : Nat → Int → Option Nat} {dat : Nat → Int → Dat} {w w' : World} (h : Pruned W K key M adr dat 0 w w' adr') (ht : Trie w M adr dat) (hK : K ≤ W) (hkey : 0 ≤ key) (hlt : key < 2 ^ W) : Trie w' M adr' (qafc dat K (pre W key K) qalc) := by
 have hpar : ∀ j c : Nat, j < W → c ≤ 1 → ∀ v : Int, 2 * v + c = pre W key (j + 1) → v = pre W key j := fun j c hj hc v e => by
  have := qagf key hj
  have := qad7 W key j
  omega
 refine ⟨fun j v g e => ?_, fun j v i u g e1 e2 => ht.inj _ _ _ _ _ (h.sub _ _ _ e1) (h.sub _ _ _ e2), fun j v hne => ?_, fun k hk => Nat.lt_of_lt_of_le (ht.lt k hk) h.step.size⟩
 ·have hM := (ht.node _ _ _ (h.sub _ _ _ e)).2
  refine ⟨?_, hM⟩
  by_cases hx : j ≤ K ∧ v = pre W key j
  ·obtain ⟨h1, rfl⟩ := hx
   exact h.node j g (Nat.zero_le _) h1 e
  ·have hg := h.sub _ _ _ e
   obtain ⟨x, y, z, n1, n2, n3⟩ := ((ht.node _ _ _ hg).1).step h.step (fun b ⟨q, _, _, q3⟩ => (ht.node _ _ _ q3).2) (fun ⟨q, q1, q2, q3⟩ => hx (by obtain ⟨rfl, rfl⟩ := ht.inj _ _ _ _ _ hg q3; exact ⟨q2, rfl⟩))
   rw [qad2 (fun hx2 => hx ⟨by omega, by rw [hx2.2, hx2.1]⟩)]
   refine ⟨x, y, z, ?_, n2, n3⟩
   rw [h.off (j + 1) (2 * v) (fun ⟨_, k1, k2⟩ => hx ⟨by omega, hpar j 0 (by omega) (by omega) v (by simpa using k2)⟩), h.off (j + 1) (2 * v + 1) (fun ⟨_, k1, k2⟩ => hx ⟨by omega, hpar j 1 (by omega) (by omega) v (by simpa using k2)⟩)]
   exact n1
 ·intro hn
  by_cases hx : j ≤ K ∧ v / 2 = pre W key j
  ·obtain ⟨h1, h2⟩ := hx
   rw [h2] at hn
   obtain ⟨_, c0, c1⟩ := h.gone j (Nat.zero_le _) h1 hn
   have : v = 2 * pre W key j ∨ v = 2 * pre W key j + 1 := by omega
   rcases this with rfl | rfl
   ·exact hne c0
   ·exact hne c1
  ·rw [h.off j (v / 2) (fun ⟨_, k1, k2⟩ => hx ⟨k1, k2⟩)] at hn
   cases e : adr' (j + 1) v with
   | none => exact hne e
   | some g => exact ht.up j v (by rw [h.sub _ _ _ e]; simp) hn
theorem Pruned.ent {W K : Nat} {key : Int} {M : Nat → Prop} {adr adr' : Nat → Int → Option Nat} {dat : Nat → Int → Dat} {w w' : World} (h : Pruned W K key M adr dat 0 w w' adr') (i : Nat) (v : Int) :
  ent adr' (qafc dat K (pre W key K) qalc) i v = qadb (ent adr dat) K (pre W key K) none i v := by
 unfold qadb
 by_cases hx : i = K ∧ v = pre W key K
 ·rw [if_pos hx]
  obtain ⟨rfl, rfl⟩ := hx
  cases e : adr' i (pre W key i) with
  | none => rw [qadh e]
  | some g => rw [qacu e, qaes]; rfl
 ·rw [if_neg hx]
  cases e : adr' i v with
  | some g => rw [qacu e, qacu (h.sub _ _ _ e), qad2 hx]
  | none =>
   rw [qadh e]
   by_cases hp : i ≤ K ∧ v = pre W key i
   ·obtain ⟨h1, rfl⟩ := hp
    obtain ⟨t, _⟩ := h.gone i (Nat.zero_le _) h1 e
    have t := t (by rcases Nat.lt_or_ge i K with h2 | h2; exact h2; exact absurd ⟨Nat.le_antisymm h1 h2, by rw [Nat.le_antisymm h1 h2]⟩ hx)
    cases e2 : adr i (pre W key i) with
    | none => rw [qadh e2]
    | some g => rw [qacu e2, t]; rfl
   ·rw [h.off i v (fun ⟨_, k1, k2⟩ => hp ⟨k1, k2⟩)] at e
    rw [qadh e]
theorem Trie.addRoot {w : World} {M : Nat → Prop} {adr : Nat → Int → Option Nat} {dat : Nat → Int → Dat} (h : Trie w M adr dat) (h0 : adr 0 0 = none) (h1 : adr 1 0 = none) (h2 : adr 1 1 = none) :
  Trie (w.alloc (.cells qa4r 103)) M (qafe adr 0 0 (some w.heap.size)) (qafc dat 0 0 qalc) := by
 have hal := al (rf w) (.cells qa4r 103)
 have hlt : ∀ i v b, adr i v = some b → b < w.heap.size := fun i v b e => by obtain ⟨⟨_, _, _, h1, _⟩, _⟩ := h.node i v b e; exact h1.lt
 refine ⟨fun i v g e => ?_, fun i v j u g e1 e2 => ?_, fun i v hne => ?_, fun k hk => Nat.lt_of_lt_of_le (h.lt k hk) hal.size⟩
 ·by_cases hx : i = 0 ∧ v = 0
  ·obtain ⟨rfl, rfl⟩ := hx
   rw [qabx] at e
   cases e
   refine ⟨?_, fun hk => Nat.lt_irrefl _ (h.lt _ hk)⟩
   rw [qaes]
   refine ⟨none, 0, 0, ?_, RdL.nil_ _ _ _, Fits.of_i64 (by decide) (by decide)⟩
   rw [qabk (by omega), qabk (by omega), show (2 * (0 : Int)) = 0 by rfl, show ((0 : Int) + 1) = 1 by rfl, show (0 + 1) = 1 from rfl, h1, h2]
   exact Blk.new w 103 qa4r
  ·rw [qabk hx] at e
   rw [qad2 hx]
   obtain ⟨n, m⟩ := (h.below hal).node i v g e
   obtain ⟨x, y, z, n1, n2, n3⟩ := n
   refine ⟨⟨x, y, z, ?_, n2, n3⟩, m⟩
   rw [qabk (by omega), qabk (by omega)]
   exact n1
 ·by_cases hx : i = 0 ∧ v = 0
  ·by_cases hy : j = 0 ∧ u = 0
   ·exact ⟨hx.1.trans hy.1.symm, hx.2.trans hy.2.symm⟩
   ·obtain ⟨rfl, rfl⟩ := hx
    rw [qabx] at e1
    rw [qabk hy] at e2
    cases e1
    exact absurd (hlt _ _ _ e2) (Nat.lt_irrefl _)
  ·rw [qabk hx] at e1
   by_cases hy : j = 0 ∧ u = 0
   ·obtain ⟨rfl, rfl⟩ := hy
    rw [qabx] at e2
    cases e2
    exact absurd (hlt _ _ _ e1) (Nat.lt_irrefl _)
   ·rw [qabk hy] at e2
    exact h.inj _ _ _ _ _ e1 e2
 ·rw [qabk (by omega)] at hne
  have := h.up i v hne
  unfold qafe
  split
  ·simp
  ·exact this
def qacb (width : Int) (E : Nat → Int → Option (Int × List Int)) (key k : Int) : Int :=
 if qae5 width key k = false then 6 else if (E k.toNat (pre width.toNat key k.toNat)).isSome then 0 else 9
def qadq (width n : Int) (E : Nat → Int → Option (Int × List Int)) (key k : Int) : Int := if qacb width E key k = 0 then n - 1 else n
def qaec (width : Int) (E : Nat → Int → Option (Int × List Int)) (key k : Int) : Nat → Int → Option (Int × List Int) := if qacb width E key k = 0 then qadb E k.toNat (pre width.toNat key k.toNat) none else E
theorem qags {width n : Int} {E : Nat → Int → Option (Int × List Int)} {key k : Int} (h : qacb width E key k ≠ 0) : qadq width n E key k = n ∧ qaec width E key k = E := by unfold qadq qaec; rw [if_neg h, if_neg h]; exact ⟨rfl, rfl⟩
theorem qafy {width n : Int} {E : Nat → Int → Option (Int × List Int)} {key k : Int} (h : qacb width E key k = 0) : qadq width n E key k = n - 1 ∧ qaec width E key k = qadb E k.toNat (pre width.toNat key k.toNat) none := by unfold qadq qaec; rw [if_pos h, if_pos h]; exact ⟨rfl, rfl⟩
end Go.Proofs.YtalejfkholifpaaGreat
namespace Go.Proofs.YtalejfkholifpaaGreat
set_option linter.all false
open Go.RowKit
attribute [local go_sem ↓] Go.wp_at_zero Go.wp_at_succ
theorem Trie.far {w : World} {M : Nat → Prop} {adr : Nat → Int → Option Nat} {dat : Nat → Int → Dat} (h : Trie w M adr dat) {gt j : Nat} (hM : ¬ M gt) (hn : ∀ i v, adr i v ≠ some gt) (u : Value) : Trie (w.setCell ⟨gt, j, none⟩ u) M adr dat :=
 h.step (Step.set (fun k => k = gt) w ⟨gt, j, none⟩ rfl u) (fun k hk => by rw [show k = gt from hk]; exact hM) (fun i v g e hg => hn i v (by rw [e, show g = gt from hg]))
set_option maxRecDepth 100000 in
set_option maxHeartbeats 4000000 in
theorem qast (gt : Nat) (Fp : Nat → Prop) (width most n key k : Int) (E : Nat → Int → Option (Int × List Int)) (w : World) (h : PfxObj w Fp gt width most n E) (hw : Fits .i64 width) (hkey : Fits .u64 key) (hk : Fits .i64 k) (hn : -1000000 ≤ n ∧ n ≤ 1000000) :
  Calls Tryz.prog 125 #[.pointer (some ⟨gt, 0, none⟩), .int .u64 key, .int .i64 k] w fun e w' => e = .returned (.int .i64 (qacb width E key k)) ∧
   ∃ Fp', PfxObj w' Fp' gt width most (qadq width n E key k) (qaec width E key k) ∧ (∀ b, Fp' b → Fp b ∨ w.heap.size ≤ b) ∧ Step Fp w w' := by
 have HO := Lib.hid h
 obtain ⟨M, adr, dat, h1, h2, h3, h4, h5, h6⟩ := h
 have H1 := Lib.hid h1
 by_cases hf : qae5 width key k = true
 case neg =>
  have hf' : qae5 width key k = false := by simpa using hf
  have hc : qacb width E key k = 6 := by unfold qacb; rw [if_pos hf']
  obtain ⟨e1, e2⟩ := qags (n := n) (show qacb width E key k ≠ 0 by rw [hc]; decide)
  rw [hc, e1, e2]
  have HF := Lib.hid hf'
  clear hf hf' hc e1 e2 h6 h5 h4 h3 h2 h1
  go_enter Tryz.func125, Tryz.ntmps125
  go_wp2_with fail
  refine (qacj _ _ _ _ _ _ _ _ _ _ H1.out hw hk hkey).mono ?_
  rintro e w' ⟨rfl, rfl⟩
  rw [HF.out]
  go_wp2_with fail
  go_ret
  exact ⟨rfl, Fp, HO.out, fun b hb => .inl hb, Step.refl _ _⟩
 obtain ⟨W, K, rfl, rfl, hW1, hW, hK, hlt, hmod⟩ := qaek hf
 have HF := Lib.hid hf
 have hE := h2 K (pre W key K)
 have hdc : qacb (W : Int) E key (K : Int) = if (E K (pre W key K)).isSome then 0 else 9 := by unfold qacb; rw [if_neg (by rw [hf]; decide)]; rfl
 have H2 := Lib.hid h2
 have H4 := Lib.hid h4
 have H5 := Lib.hid h5
 have H6 := Lib.hid h6
 clear h1 h2 h4 h5 h6 hf
 go_enter Tryz.func125, Tryz.ntmps125
 go_wp2_with fail
 refine (qacj _ _ _ _ _ _ _ _ _ _ H1.out hw hk hkey).mono ?_
 rintro e w' ⟨rfl, rfl⟩
 rw [HF.out]
 go_wp2_with fail
 refine (qah3 gt W K key most n M adr dat _ H1.out hW hK hkey hlt).mono ?_
 rintro e w2 ⟨rfl, hb2⟩
 have HP2 := Lib.hid (H1.out.below hb2)
 have hcs : (∃ g, adr K (pre W key K) = some g ∧ (dat K (pre W key K)).there = true) ∨ (E K (pre W key K) = none ∧ (adr K (pre W key K) = none ∨ ∃ g, adr K (pre W key K) = some g ∧ (dat K (pre W key K)).there = false)) := by
  cases e : adr K (pre W key K) with
  | none => exact .inr ⟨by rw [← hE, qadh e], .inl rfl⟩
  | some g =>
   cases t : (dat K (pre W key K)).there with
   | true => exact .inl ⟨g, rfl, rfl⟩
   | false => exact .inr ⟨by rw [← hE, qacu e, t]; rfl, .inr ⟨g, rfl, rfl⟩⟩
 rcases hcs with ⟨g, eg, tg⟩ | ⟨hE0, hcs⟩
 case inr =>
  have hc : Hid (qacb (W : Int) E key (K : Int) = 9) := by show _ = _; rw [hdc, hE0]; rfl
  have hmd : ∃ p : Value, ptr (adr K (pre W key K)) = p ∧ (p = .pointer none ∨ ∃ g, p = .pointer (some ⟨g, 0, none⟩) ∧ w2.cell? ⟨g, 0, none⟩ = some (.bool false) ∧ g < w2.heap.size) := by
   rcases hcs with e | ⟨g, e, t⟩
   ·exact ⟨_, by rw [e]; rfl, .inl rfl⟩
   ·obtain ⟨_, _, _, y0, _, _, _, _, _, hgz, _⟩ := HP2.out.trie.cells e
    rw [t] at y0
    exact ⟨_, by rw [e]; rfl, .inr ⟨g, rfl, y0, hgz⟩⟩
  obtain ⟨p, hp, hpc⟩ := hmd
  rw [hp]
  clear hp hcs hE0 hdc hE
  rcases hpc with rfl | ⟨g, rfl, y0, hgz⟩
  all_goals
   go_wp2_with fail
   go_ret
   obtain ⟨e1, e2⟩ := qags (n := n) (show qacb (W : Int) E key (K : Int) ≠ 0 by rw [hc.out]; decide)
   rw [hc.out, e1, e2]
   exact ⟨rfl, Fp, HO.out.below hb2, fun b hb => .inl hb, Step.of hb2⟩
 have hc : Hid (qacb (W : Int) E key (K : Int) = 0) := by show _ = _; rw [hdc, ← hE, qacu eg, tg]; rfl
 obtain ⟨_, _, _, y0, _, _, _, _, _, hgz, _⟩ := HP2.out.trie.cells eg
 rw [tg] at y0
 have hroot : ∃ r, adr 0 0 = some r := by
  cases e : adr 0 0 with
  | none => exact absurd e H1.out.root
  | some r => exact ⟨r, rfl⟩
 obtain ⟨r, hr⟩ := hroot
 have p0 := qakn (W := W) hkey.u64.1 hlt
 have hPr := qaou gt W K key most n M adr dat hW hK hkey hlt K 0 (by omega) w2 HP2.out r (by rw [p0]; exact hr) (by rw [eg]; simp)
 rw [p0, show ((0 : Nat) : Int) = 0 from rfl] at hPr
 have HPr := Lib.hid hPr
 have Bt := HP2.out.blk
 rw [hr] at Bt
 have t3 := Bt.cell 3
 simp [ptr] at t3
 have tz := Bt.lt
 have tf3 := Bt.frozen 3
 have BT := Lib.hid Bt
 rw [eg, qact]
 have HR := Lib.hid hr
 have P0 := Lib.hid p0
 have hNT : Hid (∀ i v, adr i v ≠ some gt) := fun i v e => H1.out.ne e rfl
 clear hdc hE hPr Bt eg tg hr p0
 go_wp2_with fail
 refine HPr.out.mono ?_
 rintro e w3 ⟨adr', rfl, hD⟩
 have B3 : Blk w3 gt _ _ := (hD.step.block gt BT.out.lt (fun ⟨q, _, _, q3⟩ => hNT.out _ _ q3)).trans BT.out
 have hT := Lib.hid (hD.trie HP2.out.trie hK hkey.u64.1 hlt)
 have hEn := Lib.hid (fun i v => hD.ent i v)
 have hsub := Lib.hid hD.sub
 have hgone := Lib.hid (hD.gone 0 (Nat.le_refl _) (Nat.zero_le _))
 have hst : Hid (Step Fp w w3) := (Step.of hb2).trans (hD.step.mono fun b ⟨q, _, _, q3⟩ => H5.out _ _ _ q3)
 have hwr : IntKind.i64.wrap (n - 1) = n - 1 := qadu (by omega) (by omega)
 have hsz : w.heap.size ≤ w3.heap.size := hst.out.size
 have c3 := B3.cell 3
 have c2 := B3.cell 2
 simp at c3 c2
 have cz := B3.lt
 have f3 := B3.frozen 3
 have f2 := B3.frozen 2
 have HB3 := Lib.hid B3
 obtain ⟨q, hq⟩ : ∃ q, adr' 0 0 = q := ⟨_, rfl⟩
 have HQ := Lib.hid hq
 rw [hq]
 clear hD B3 hq t3 tz tf3 y0 hgz hb2 HPr
 cases q with
 | some r' =>
  rw [qact]
  go_wp2_with fail
  go_ret
  obtain ⟨e1, e2⟩ := qafy (n := n) (show qacb (W : Int) E key (K : Int) = 0 from hc.out)
  rw [hc.out, e1, e2]
  have hn' : ∀ i v, adr' i v ≠ some gt := fun i v e => hNT.out i v (hsub.out _ _ _ e)
  have hEE : ent adr dat = E := funext fun i => funext fun v => H2.out i v
  refine ⟨rfl, Fp, ⟨M, adr', qafc dat K (pre W key K) qalc, ⟨?_, ((hT.out.far H1.out.out hn' _).far H1.out.out hn' _), H1.out.out, by rw [HQ.out]; simp⟩, fun i v => by rw [hEn.out i v, hEE]; rfl, h3, H4.out, fun i v g e => H5.out i v g (hsub.out _ _ _ e), fun b hb => ?_⟩, fun b hb => .inl hb, (hst.out.trans (Step.set Fp _ ⟨gt, 3, none⟩ h3 _)).trans (Step.set Fp _ ⟨gt, 2, none⟩ h3 _)⟩
  ·have := (HB3.out.set_ 3 (.pointer (some ⟨r', 0, none⟩))).set_ 2 (.int .i64 (n - 1))
   rw [HQ.out]
   simpa [ptr] using this
  ·have := H6.out b hb
   simp [World.setCell]; omega
 | none =>
  rw [qado]
  go_wp2_with fail
  go_ret
  obtain ⟨e1, e2⟩ := qafy (n := n) (show qacb (W : Int) E key (K : Int) = 0 from hc.out)
  rw [hc.out, e1, e2]
  have hn' : ∀ i v, adr' i v ≠ some gt := fun i v e => hNT.out i v (hsub.out _ _ _ e)
  have hEE : ent adr dat = E := funext fun i => funext fun v => H2.out i v
  obtain ⟨_, g1, g2⟩ := hgone.out (by rw [P0.out]; exact HQ.out)
  rw [P0.out] at g1 g2
  have hT5 := (((hT.out.far H1.out.out hn' (j := 3) (.pointer none)).far H1.out.out hn' (j := 3) (.pointer (some ⟨w3.heap.size, 0, none⟩))).far H1.out.out hn' (j := 2) (.int .i64 (n - 1)))
  have hR := hT5.addRoot HQ.out (by simpa using g1) (by simpa using g2)
  rw [show (((w3.setCell ⟨gt, 3, none⟩ (.pointer none)).setCell ⟨gt, 3, none⟩ (.pointer (some ⟨w3.heap.size, 0, none⟩))).setCell ⟨gt, 2, none⟩ (.int .i64 (n - 1))).heap.size = w3.heap.size by simp [World.setCell]] at hR
  refine ⟨rfl, fun b => Fp b ∨ b = w3.heap.size, ⟨M, _, _, ⟨?_, hR, H1.out.out, by rw [qabx]; simp⟩, fun i v => ?_, .inl h3, fun b hb => .inl (H4.out b hb), fun i v g e => ?_, fun b hb => ?_⟩, fun b hb => hb.imp id fun e => by rw [e]; exact hsz, ((((hst.out.trans (Step.set Fp _ ⟨gt, 3, none⟩ h3 _)).trans (Step.set Fp _ ⟨gt, 3, none⟩ h3 _)).trans (Step.set Fp _ ⟨gt, 2, none⟩ h3 _)).trans (Step.alloc Fp _ _))⟩
  ·have := (((HB3.out.set_ 3 (.pointer none)).set_ 3 (.pointer (some ⟨w3.heap.size, 0, none⟩))).set_ 2 (.int .i64 (n - 1))).alloc (.cells qa4r 103)
   rw [qabx]
   simpa [ptr, qa4r] using this
  ·by_cases hx : i = 0 ∧ v = 0
   ·obtain ⟨rfl, rfl⟩ := hx
    rw [qacu (qabx _ _ _ _), qaes]
    have := hEn.out 0 0
    rw [qadh HQ.out, hEE] at this
    exact this
   ·have := hEn.out i v
    rw [hEE] at this
    rw [show ent (qafe adr' 0 0 (some w3.heap.size)) (qafc (qafc dat K (pre W key K) qalc) 0 0 qalc) i v = ent adr' (qafc dat K (pre W key K) qalc) i v by unfold ent; rw [qabk hx, qad2 hx]]
    exact this
  ·by_cases hx : i = 0 ∧ v = 0
   ·obtain ⟨rfl, rfl⟩ := hx
    rw [qabx] at e
    cases e
    exact .inr rfl
   ·rw [qabk hx] at e
    exact .inl (H5.out i v g (hsub.out _ _ _ e))
  ·rcases hb with hb | rfl
   ·have := H6.out b hb
    simp [World.setCell]; omega
   ·simp [World.setCell]
end Go.Proofs.YtalejfkholifpaaGreat
namespace Go.Proofs.YtalejfkholifpaaGreat
set_option linter.all false
open Go.RowKit
attribute [local go_sem ↓] Go.wp_at_zero Go.wp_at_succ
theorem qall {w : World} {g j : Nat} {t : TypeId} {cs : Array Value} {v : Value} (h : Blk w g t cs) (hv : cs[j]? = some v) : w.setCell ⟨g, j, none⟩ v = w := by
 have hcs : cs.setIfInBounds j v = cs := by
  apply Array.ext_getElem?
  intro i
  by_cases e : j = i
  ·subst e
   obtain ⟨hj, _⟩ := Array.getElem?_eq_some_iff.1 hv
   rw [Array.getElem?_setIfInBounds_self_of_lt hj, hv]
  ·rw [Array.getElem?_setIfInBounds_ne e]
 have hh : (w.setCell ⟨g, j, none⟩ v).heap = w.heap := by
  apply Array.ext_getElem?
  intro k
  by_cases e : k = g
  ·subst e
   rw [heap_setCell_same w k j cs t v h, hcs]; exact h.symm
  ·exact heap_setCell_other w _ k v e
 cases w with
 | mk heap tape drawn os output =>
  simp only [World.setCell] at hh ⊢
  rw [hh]
def qac5 (width : Int) (E : Nat → Int → Option (Int × List Int)) (key k : Int) : Int :=
 if qae5 width key k = false then 6 else if (E k.toNat (pre width.toNat key k.toNat)).isSome then 0 else 9
def qahp (width : Int) (E : Nat → Int → Option (Int × List Int)) (key k act : Int) (args : List Int) : Nat → Int → Option (Int × List Int) := if qac5 width E key k = 0 then qadb E k.toNat (pre width.toNat key k.toNat) (some (act, args)) else E
theorem qah2 {width : Int} {E : Nat → Int → Option (Int × List Int)} {key k : Int} (h : qac5 width E key k ≠ 0) (act : Int) (args : List Int) : qahp width E key k act args = E := by unfold qahp; rw [if_neg h]
theorem qain {width : Int} {E : Nat → Int → Option (Int × List Int)} {key k : Int} (h : qac5 width E key k = 0) (act : Int) (args : List Int) : qahp width E key k act args = qadb E k.toNat (pre width.toNat key k.toNat) (some (act, args)) := by unfold qahp; rw [if_pos h]
set_option maxRecDepth 100000 in
set_option maxHeartbeats 4000000 in
theorem qaw8 (gt : Nat) (Fp : Nat → Prop) (width most n key k act : Int) (ao : Option Addr) (an ac : Nat) (args : List Int) (E : Nat → Int → Option (Int × List Int)) (w : World) (h : PfxObj w Fp gt width most n E) (hw : Fits .i64 width) (hkey : Fits .u64 key) (hk : Fits .i64 k) (hact : Fits .i64 act) (hr : Rd w .u64 ao an ac args) (han : an ≤ 1000000) :
  Calls Tryz.prog 124 #[.pointer (some ⟨gt, 0, none⟩), .int .u64 key, .int .i64 k, .agg #[.int .i64 act, .slice ao an ac]] w fun e w' => e = .returned (.int .i64 (qac5 width E key k)) ∧
   ∃ Fp', PfxObj w' Fp' gt width most n (qahp width E key k act args) ∧ (∀ b, Fp' b → Fp b ∨ w.heap.size ≤ b) ∧ Step Fp w w' := by
 have HO := Lib.hid h
 obtain ⟨M, adr, dat, h1, h2, h3, h4, h5, h6⟩ := h
 have hal := al (rf w) (.cells #[.int .i64 act, .slice ao an ac] 46)
 have H1 := Lib.hid (h1.below hal)
 by_cases hf : qae5 width key k = true
 case neg =>
  have hf' : qae5 width key k = false := by simpa using hf
  have hc : qac5 width E key k = 6 := by unfold qac5; rw [if_pos hf']
  have e2 := qah2 (show qac5 width E key k ≠ 0 by rw [hc]; decide) act args
  rw [hc, e2]
  have HF := Lib.hid hf'
  clear hf hf' hc e2 h6 h5 h4 h3 h2
  go_enter Tryz.func124, Tryz.ntmps124
  go_wp2_with fail
  refine (qacj _ _ _ _ _ _ _ _ _ _ H1.out hw hk hkey).mono ?_
  rintro e w' ⟨rfl, rfl⟩
  rw [HF.out]
  go_wp2_with fail
  go_ret
  exact ⟨rfl, Fp, HO.out.below hal, fun b hb => .inl hb, Step.of hal⟩
 obtain ⟨W, K, rfl, rfl, hW1, hW, hK, hlt, hmod⟩ := qaek hf
 have HF := Lib.hid hf
 have hE := h2 K (pre W key K)
 go_enter Tryz.func124, Tryz.ntmps124
 go_wp2_with fail
 refine (qacj _ _ _ _ _ _ _ _ _ _ H1.out hw hk hkey).mono ?_
 rintro e w' ⟨rfl, rfl⟩
 rw [HF.out]
 go_wp2_with fail
 refine (qah3 gt W K key most n M adr dat _ H1.out hW hK hkey hlt).mono ?_
 rintro e w2 ⟨rfl, hb2⟩
 have hB2 := ov hal hb2
 have H2 := Lib.hid (H1.out.below hb2)
 have hbox : w2.cell? ⟨w.heap.size, 0, none⟩ = some (.int .i64 act) ∧ w2.cell? ⟨w.heap.size, 1, none⟩ = some (.slice ao an ac) := by
  obtain ⟨x, y⟩ := (Blk.new w 46 #[.int .i64 act, .slice ao an ac]).two
  exact ⟨keep x hb2, keep y hb2⟩
 obtain ⟨hx0, hx1⟩ := hbox
 have hxz : w.heap.size < w2.heap.size := by have := hb2.size; simp at this; omega
 clear hb2 hal
 have hcs : (∃ g, adr K (pre W key K) = some g ∧ (dat K (pre W key K)).there = true) ∨ (E K (pre W key K) = none ∧ (adr K (pre W key K) = none ∨ ∃ g, adr K (pre W key K) = some g ∧ (dat K (pre W key K)).there = false)) := by
  cases e : adr K (pre W key K) with
  | none => exact .inr ⟨by rw [← hE, qadh e], .inl rfl⟩
  | some g =>
   cases t : (dat K (pre W key K)).there with
   | true => exact .inl ⟨g, rfl, rfl⟩
   | false => exact .inr ⟨by rw [← hE, qacu e, t]; rfl, .inr ⟨g, rfl, rfl⟩⟩
 rcases hcs with ⟨g, e, t⟩ | ⟨hE0, hcs⟩
 ·have hc : Hid (qac5 (W : Int) E key (K : Int) = 0) := by
   show _ = _
   unfold qac5
   rw [if_neg (by rw [HF.out]; decide), if_pos]
   show (E K (pre W key K)).isSome = true
   rw [← hE, qacu e, t]; rfl
  rw [e, qact]
  obtain ⟨_, _, _, y0, _, _, _, _, _, hgz, hfz⟩ := H2.out.trie.cells e
  rw [t] at y0
  have hnb : ∀ i v b, adr i v = some b → b < w.heap.size := fun i v b hb => h6 b (h5 i v b hb)
  have hr2 : Rd w2 .u64 ao an ac args := hr.below hB2
  obtain ⟨⟨na, nn, nc, B3, _, _⟩, nM⟩ := H2.out.trie.node _ _ _ e
  rw [t] at B3
  have hgne : ¬ w.heap.size = g := fun hh => by have := hnb _ _ _ e; omega
  have HT := Lib.hid t
  have HE := Lib.hid e
  have H24 := Lib.hid (And.intro h2 h4)
  have H5 := Lib.hid h5
  have H6 := Lib.hid h6
  clear hE t e h2 h4 h5 h6 h1 hnb
  go_wp2_with fail
  go_region_law ((first
    | (go_simp; go_at_call 32; refine (qaeu _ _ _ _ _ ((hr2.below (Below.drew0_ w2)).below (rf _)) han).mono ?_; rintro e w4 ⟨r4, rfl, hm4, hb4⟩; obtain ⟨a4, c4, rfl⟩ := hm4.form; have B4 : Blk w4 g _ _ := Blk.below (w := w2.drew) B3 hb4 B3.lt; have m0 := B4.cell 0; have m1 := B4.cell 1; have m2 := B4.cell 2; simp at m0 m1 m2; have mf0 := B4.frozen 0; have mf1 := B4.frozen 1; have mf2 := B4.frozen 2; have mz := B4.lt; have m5 := keep (w := w2.drew) hx0 hb4; have m6 := keep (w := w2.drew) hx1 hb4; have m7 : w.heap.size < w4.heap.size := Nat.lt_of_lt_of_le hxz hb4.size)))
  all_goals
   have hFin := PfxObj.added n H24.out.1 h3 H24.out.2 H5.out H6.out hB2 (Grown.refl w2 adr dat) H2.out HE.out ((Below.drew0_ w2).trans hb4) hm4 hact
   have hPs := H2.out.said HE.out ((Below.drew0_ w2).trans hb4) hm4 hact
   have q1 := qall hPs.blk (j := 2) (v := .int .i64 n) (by simp)
   rw [q1] at hFin
   have q2 := qall B4 (j := 0) (v := .bool true) (by simp)
   unfold qaqy at hFin
   rw [q2] at hFin
   have HFin := Lib.hid hFin
   clear hFin hPs q1 q2 m0 m1 m2 mf0 mf1 mf2 m5 m6 B4 B3 hx0 hx1 hm4 hb4
   generalize ((w4.setCell ⟨g, 1, none⟩ (.int .i64 act)).setCell ⟨g, 2, none⟩ (.slice a4 args.length c4)) = wF at *
   go_wp2_with fail
   go_ret
   have e2 := qain (show qac5 (W : Int) E key (K : Int) = 0 from hc.out) act args
   rw [hc.out, e2]
   exact ⟨rfl, HFin.out⟩
 have HE0 := Lib.hid hE0
 have hc : Hid (qac5 (W : Int) E key (K : Int) = 9) := by
  show _ = _
  unfold qac5
  rw [if_neg (by rw [HF.out]; decide), if_neg]
  show ¬ (E K (pre W key K)).isSome = true
  rw [HE0.out]; decide
 have hmd : ∃ p : Value, ptr (adr K (pre W key K)) = p ∧ (p = .pointer none ∨ ∃ g, p = .pointer (some ⟨g, 0, none⟩) ∧ w2.cell? ⟨g, 0, none⟩ = some (.bool false) ∧ g < w2.heap.size) := by
  rcases hcs with e | ⟨g, e, t⟩
  ·exact ⟨_, by rw [e]; rfl, .inl rfl⟩
  ·obtain ⟨_, _, _, y0, _, _, _, _, _, hgz, _⟩ := H2.out.trie.cells e
   rw [t] at y0
   exact ⟨_, by rw [e]; rfl, .inr ⟨g, rfl, y0, hgz⟩⟩
 obtain ⟨p, hp, hpc⟩ := hmd
 rw [hp]
 clear hp hcs hE hE0 hx0 hx1 h1 h2 h4 h5 h6
 rcases hpc with rfl | ⟨g, rfl, y0, hgz⟩
 all_goals
  go_wp2_with fail
  go_ret
  have e2 := qah2 (show qac5 (W : Int) E key (K : Int) ≠ 0 by rw [hc.out]; decide) act args
  rw [hc.out, e2]
  exact ⟨rfl, Fp, HO.out.step (S := fun _ => False) (Step.of hB2) (fun _ h => h.elim), fun b hb => .inl hb, Step.of hB2⟩
end Go.Proofs.YtalejfkholifpaaGreat
