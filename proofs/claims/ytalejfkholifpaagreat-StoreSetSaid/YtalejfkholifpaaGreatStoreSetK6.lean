/-
  Texts joined: XPfxX XPfxY XClone XPfxZ XPfxA. No condition.
-/
import Derived.WalkSpells
import Derived.RegionTactic
import Derived.BigRegion
import Derived.Deep.RegionLaw
import Derived.Test.YtalejfkholifpaaGreatProg
import Derived.Test.YtalejfkholifpaaGreatStoreSetK5
namespace Go.Proofs.YtalejfkholifpaaGreat
set_option linter.all false
open Go.RowKit
attribute [local go_sem ↓] Go.wp_at_zero Go.wp_at_succ
theorem qaeb {P : Program} {f : FuncId} {args : Array Value} {w : World} {n : Nat} {v : Value}
  (h : Calls P f args (w.drewN n) fun e w' => e = .returned v ∧ w.drewN n = w') : Calls P f args (w.drewN n) fun e w'' => e = .returned v ∧ ∃ m, w'' = w.drewN m :=
 h.mono fun _ _ ⟨he, hm⟩ => ⟨he, n, hm.symm⟩
theorem Pfx.below {w w' : World} {gt : Nat} {width most n : Int} {M : Nat → Prop} {adr : Nat → Int → Option Nat} {dat : Nat → Int → Dat} (h : Pfx w gt width most n M adr dat) (hb : Below w.heap.size w w') : Pfx w' gt width most n M adr dat :=
 ⟨h.blk.below hb h.blk.lt, h.trie.below hb, h.out, h.root⟩
set_option maxRecDepth 100000 in
set_option maxHeartbeats 2000000 in
theorem qah3 (gt : Nat) (W k : Nat) (key most n : Int) (M : Nat → Prop) (adr : Nat → Int → Option Nat) (dat : Nat → Int → Dat) (w : World) (h : Pfx w gt (W : Int) most n M adr dat) (hW : W ≤ 64) (hk : k ≤ W) (hkey : Fits .u64 key) (hlt : key < 2 ^ W) :
  Calls Tryz.prog 128 #[.pointer (some ⟨gt, 0, none⟩), .int .u64 key, .int .i64 (k : Int), .bool false] w fun e w' => e = .returned (ptr (adr k (pre W key k))) ∧ Below w.heap.size w w' := by
 have h0 := h.blk.cell 3
 simp at h0
 have hz := h.blk.lt
 have H := Lib.hid h
 have hup := fun j (h1 : j ≤ k) (e : adr j (pre W key j) = none) => h.trie.none_up h1 hk e
 have HU := Lib.hid hup
 have p0 := qakn (W := W) hkey.u64.1 hlt
 obtain ⟨P, hP⟩ : ∃ P, ptr (adr k (pre W key k)) = P := ⟨_, rfl⟩
 obtain ⟨R, hR⟩ : ∃ R, ptr (adr 0 0) = R := ⟨_, rfl⟩
 rw [hR] at h0
 rw [hP]
 have HP := Lib.hid hP
 have HR := Lib.hid hR
 have HP0 := Lib.hid p0
 clear h hup hP hR p0
 go_enter Tryz.func128, Tryz.ntmps128
 go_wp2_with fail
 go_loopw [9, 10] (fun p i wr => ∃ j : Nat, j ≤ k ∧ i = .int .i64 j ∧ p = ptr (adr j (pre W key j)) ∧ Below w.heap.size w wr) (fun _ i _ => k - (intOf i).toNat)
 case atStart => exact ⟨0, Nat.zero_le _, rfl, by rw [HP0.out, HR.out], rf _⟩
 case round =>
  obtain ⟨j, hj, rfl, rfl, hbr⟩ := hrel
  by_cases hjk : j < k
  ·cases e : adr j (pre W key j) with
   | none =>
    have E : Hid (P = .pointer none) := by show P = _; rw [← HP.out, HU.out j hj e]; rfl
    rw [qado]
    go_wp2_with fail
    go_ret
    exact ⟨by rw [E.out]; rfl, hbr⟩
   | some g =>
    rw [qact]
    obtain ⟨ao, an, ac, _, _, _, b3, b4, _, hg, _⟩ := (H.out.below hbr).trie.cells e
    have hs := qagf key (show j < W by omega)
    have hpr := Lib.hid hs
    have HB := fun w' (hb : Below w.heap.size w w') => qafn gt W j key most n M adr dat w' (H.out.below hb) hW (by omega) hkey
    have hkb : kbit W key j = 0 ∨ kbit W key j = 1 := by have := qad7 W key j; omega
    have hgz : g < wr.heap.size := hg
    clear hs e hg
    rcases hkb with hb | hb
    ·rw [hb] at HB
     have HB2 := Lib.hid HB
     have hn : Hid (pre W key (j + 1) = 2 * pre W key j) := by show _ = _; rw [hpr.out, hb]; omega
     clear HB hb b4
     obtain ⟨q, hq⟩ : ∃ q, adr (j + 1) (2 * pre W key j) = q := ⟨_, rfl⟩
     rw [hq] at b3
     have HQ := Lib.hid hq
     clear hq
     cases q with
     | none =>
      rw [qado] at b3
      go_wp2_with fail
      go_big_quiet ((go_at_call 131; exact qaeb (HB2.out _ (qaa7 hbr _))))
      go_wp2_with fail
      go_roundw
      case rel => exact ⟨j + 1, by omega, by go_num, by rw [hn.out, HQ.out]; rfl, qaa7 hbr _⟩
      case measure => simp [intOf]; omega
     | some g2 =>
      rw [qact] at b3
      go_wp2_with fail
      go_big_quiet ((go_at_call 131; exact qaeb (HB2.out _ (qaa7 hbr _))))
      go_wp2_with fail
      go_roundw
      case rel => exact ⟨j + 1, by omega, by go_num, by rw [hn.out, HQ.out]; rfl, qaa7 hbr _⟩
      case measure => simp [intOf]; omega
    ·rw [hb] at HB
     have HB2 := Lib.hid HB
     have hn : Hid (pre W key (j + 1) = 2 * pre W key j + 1) := by show _ = _; rw [hpr.out, hb]
     clear HB hb b3
     obtain ⟨q, hq⟩ : ∃ q, adr (j + 1) (2 * pre W key j + 1) = q := ⟨_, rfl⟩
     rw [hq] at b4
     have HQ := Lib.hid hq
     clear hq
     cases q with
     | none =>
      rw [qado] at b4
      go_wp2_with fail
      go_big_quiet ((go_at_call 131; exact qaeb (HB2.out _ (qaa7 hbr _))))
      go_wp2_with fail
      go_roundw
      case rel => exact ⟨j + 1, by omega, by go_num, by rw [hn.out, HQ.out]; rfl, qaa7 hbr _⟩
      case measure => simp [intOf]; omega
     | some g2 =>
      rw [qact] at b4
      go_wp2_with fail
      go_big_quiet ((go_at_call 131; exact qaeb (HB2.out _ (qaa7 hbr _))))
      go_wp2_with fail
      go_roundw
      case rel => exact ⟨j + 1, by omega, by go_num, by rw [hn.out, HQ.out]; rfl, qaa7 hbr _⟩
      case measure => simp [intOf]; omega
  ·obtain rfl : j = k := by omega
   rw [HP.out]
   go_wp2_with fail
   go_ret
   exact ⟨rfl, hbr⟩
end Go.Proofs.YtalejfkholifpaaGreat
namespace Go.Proofs.YtalejfkholifpaaGreat
set_option linter.all false
open Go.RowKit
attribute [local go_sem ↓] Go.wp_at_zero Go.wp_at_succ
def qafe (adr : Nat → Int → Option Nat) (j : Nat) (u : Int) (o : Option Nat) : Nat → Int → Option Nat := fun i v => if i = j ∧ v = u then o else adr i v
theorem qabx (adr : Nat → Int → Option Nat) (j : Nat) (u : Int) (o : Option Nat) : qafe adr j u o j u = o := by unfold qafe; rw [if_pos ⟨rfl, rfl⟩]
theorem qabk {adr : Nat → Int → Option Nat} {j i : Nat} {u v : Int} {o : Option Nat} (h : ¬ (i = j ∧ v = u)) : qafe adr j u o i v = adr i v := by unfold qafe; rw [if_neg h]
def qafc (dat : Nat → Int → Dat) (j : Nat) (u : Int) (d : Dat) : Nat → Int → Dat := fun i v => if i = j ∧ v = u then d else dat i v
theorem qaes (dat : Nat → Int → Dat) (j : Nat) (u : Int) (d : Dat) : qafc dat j u d j u = d := by unfold qafc; rw [if_pos ⟨rfl, rfl⟩]
theorem qad2 {dat : Nat → Int → Dat} {j i : Nat} {u v : Int} {d : Dat} (h : ¬ (i = j ∧ v = u)) : qafc dat j u d i v = dat i v := by unfold qafc; rw [if_neg h]
def qa4r : Array Value := #[.bool false, .int .i64 0, .slice none 0 0, .pointer none, .pointer none]
theorem Pfx.grow {w : World} {gt : Nat} {width most n : Int} {M : Nat → Prop} {adr : Nat → Int → Option Nat} {dat : Nat → Int → Dat} (h : Pfx w gt width most n M adr dat) {j g c : Nat} {u : Int} (hg : adr j u = some g) (hc : c = 0 ∨ c = 1) (hn : adr (j + 1) (2 * u + c) = none) :
  Pfx ((w.setCell ⟨g, 3 + c, none⟩ (.pointer (some ⟨w.heap.size, 0, none⟩))).alloc (.cells qa4r 103)) gt width most n M (qafe adr (j + 1) (2 * u + c) (some w.heap.size)) (qafc dat (j + 1) (2 * u + c) qalc) := by
 have hgt : gt ≠ g := fun e => h.ne hg e.symm
 have hMg : ¬ M g := (h.trie.node _ _ _ hg).2
 have hwM : ¬ M w.heap.size := fun hk => Nat.lt_irrefl _ (h.trie.lt _ hk)
 have hs : Step (fun k => k = g) w ((w.setCell ⟨g, 3 + c, none⟩ (.pointer (some ⟨w.heap.size, 0, none⟩))).alloc (.cells qa4r 103)) := (Step.set (fun k => k = g) w ⟨g, 3 + c, none⟩ rfl _).trans (Step.alloc _ _ _)
 refine ⟨?_, ⟨?_, ?_, ?_, fun k hk => Nat.lt_of_lt_of_le (h.trie.lt k hk) hs.size⟩, h.out, ?_⟩
 ·rw [qabk (by omega)]
  exact (h.blk.far (p := ⟨g, 3 + c, none⟩) hgt _).alloc _
 ·intro i v b e
  by_cases hx : i = j + 1 ∧ v = 2 * u + c
  ·obtain ⟨rfl, rfl⟩ := hx
   rw [qabx] at e
   cases e
   refine ⟨?_, hwM⟩
   rw [qaes]
   refine ⟨none, 0, 0, ?_, RdL.nil_ _ _ _, Fits.of_i64 (by decide) (by decide)⟩
   have hch : ∀ d : Int, d = 0 ∨ d = 1 → adr (j + 1 + 1) (2 * (2 * u + c) + d) = none := fun d hd => by
    cases e : adr (j + 1 + 1) (2 * (2 * u + c) + d) with
    | none => rfl
    | some x =>
     have := h.trie.up (j + 1) (2 * (2 * u + c) + d) (by rw [e]; simp)
     rw [show (2 * (2 * u + c) + d) / 2 = 2 * u + c by omega, hn] at this
     exact absurd rfl this
   have h1 := hch 0 (.inl rfl)
   have h2 := hch 1 (.inr rfl)
   rw [Int.add_zero] at h1
   rw [qabk (by omega), qabk (by omega), h1, h2]
   have := Blk.new (w.setCell ⟨g, 3 + c, none⟩ (.pointer (some ⟨w.heap.size, 0, none⟩))) 103 qa4r
   rw [show (w.setCell ⟨g, 3 + c, none⟩ (.pointer (some ⟨w.heap.size, 0, none⟩))).heap.size = w.heap.size by simp [World.setCell]] at this
   exact this
  ·rw [qabk hx] at e
   rw [qad2 hx]
   obtain ⟨⟨ao, an, ac, b1, b2, b3⟩, hM⟩ := h.trie.node i v b e
   refine ⟨⟨ao, an, ac, ?_, b2.step (hs.mono fun k hk => by subst hk; exact hMg), b3⟩, hM⟩
   by_cases hij : i = j ∧ v = u
   ·obtain ⟨rfl, rfl⟩ := hij
    rw [hg] at e
    cases e
    have B := (b1.set_ (3 + c) (.pointer (some ⟨w.heap.size, 0, none⟩))).alloc (.cells qa4r 103)
    rcases hc with rfl | rfl
    ·rw [show (2 * v + ((0 : Nat) : Int)) = 2 * v by simp, qabx, qabk (by omega)]
     simpa [ptr] using B
    ·rw [qabk (by simp; omega), show (2 * v + ((1 : Nat) : Int)) = 2 * v + 1 by simp, qabx]
     simpa [ptr] using B
   ·have hbg : b ≠ g := fun hb => hij (h.trie.inj i v j u g (by rw [e, hb]) hg)
    rw [qabk (by rcases hc with rfl | rfl <;> simp <;> omega), qabk (by rcases hc with rfl | rfl <;> simp <;> omega)]
    exact (b1.far (p := ⟨g, 3 + c, none⟩) hbg _).alloc _
 ·intro i v i2 v2 b e1 e2
  have hlt : ∀ i v b, adr i v = some b → b < w.heap.size := fun i v b e => by obtain ⟨⟨_, _, _, h1, _⟩, _⟩ := h.trie.node i v b e; exact h1.lt
  by_cases hx : i = j + 1 ∧ v = 2 * u + c
  ·by_cases hy : i2 = j + 1 ∧ v2 = 2 * u + c
   ·exact ⟨hx.1.trans hy.1.symm, hx.2.trans hy.2.symm⟩
   ·obtain ⟨rfl, rfl⟩ := hx
    rw [qabx] at e1
    rw [qabk hy] at e2
    cases e1
    exact absurd (hlt _ _ _ e2) (Nat.lt_irrefl _)
  ·rw [qabk hx] at e1
   by_cases hy : i2 = j + 1 ∧ v2 = 2 * u + c
   ·obtain ⟨rfl, rfl⟩ := hy
    rw [qabx] at e2
    cases e2
    exact absurd (hlt _ _ _ e1) (Nat.lt_irrefl _)
   ·rw [qabk hy] at e2
    exact h.trie.inj _ _ _ _ _ e1 e2
 ·intro i v hne
  by_cases hx : i + 1 = j + 1 ∧ v = 2 * u + c
  ·obtain ⟨h1, rfl⟩ := hx
   obtain rfl : i = j := by omega
   rw [show (2 * u + (c : Int)) / 2 = u by rcases hc with rfl | rfl <;> simp <;> omega]
   unfold qafe
   split
   ·simp
   ·rw [hg]; simp
  ·rw [qabk hx] at hne
   have := h.trie.up i v hne
   unfold qafe
   split
   ·simp
   ·exact this
 ·rw [qabk (by omega)]; exact h.root
structure Grown (w wr : World) (adr adr' : Nat → Int → Option Nat) (dat dat' : Nat → Int → Dat) : Prop where
 old : ∀ i v g, adr i v = some g → adr' i v = some g ∧ dat' i v = dat i v
 new : ∀ i v g, adr' i v = some g → adr i v = some g ∨ (w.heap.size ≤ g ∧ adr i v = none ∧ dat' i v = qalc)
 step : Step (fun b => ∃ i v, adr i v = some b) w wr
theorem Grown.refl (w : World) (adr : Nat → Int → Option Nat) (dat : Nat → Int → Dat) : Grown w w adr adr dat dat := ⟨fun _ _ _ e => ⟨e, rfl⟩, fun _ _ _ e => .inl e, Step.refl _ _⟩
theorem Grown.below {w wr w' : World} {adr adr' : Nat → Int → Option Nat} {dat dat' : Nat → Int → Dat} (h : Grown w wr adr adr' dat dat') (hb : Below wr.heap.size wr w') : Grown w w' adr adr' dat dat' := ⟨h.old, h.new, h.step.trans (Step.of hb)⟩
theorem Step.fresh {A B : Nat → Prop} {w wr w' : World} (h : Step A w wr) (k : Step B wr w') (hB : ∀ b, B b → A b ∨ w.heap.size ≤ b) : Step A w w' :=
 ⟨k.os.trans h.os, k.tape.trans h.tape, k.output.trans h.output, Nat.le_trans h.size k.size, fun i hi hA => (k.block i (Nat.lt_of_lt_of_le hi h.size) fun hb => (hB i hb).elim hA fun h2 => absurd hi (Nat.not_lt_of_le h2)).trans (h.block i hi hA)⟩
theorem Grown.add {w wr : World} {gt : Nat} {width most n : Int} {M : Nat → Prop} {adr adr' : Nat → Int → Option Nat} {dat dat' : Nat → Int → Dat} (h : Grown w wr adr adr' dat dat') (hP : Pfx wr gt width most n M adr' dat') {j g c : Nat} {u : Int} (hg : adr' j u = some g) (hc : c = 0 ∨ c = 1) (hn : adr' (j + 1) (2 * u + c) = none) :
  Grown w ((wr.setCell ⟨g, 3 + c, none⟩ (.pointer (some ⟨wr.heap.size, 0, none⟩))).alloc (.cells qa4r 103)) adr (qafe adr' (j + 1) (2 * u + c) (some wr.heap.size)) dat (qafc dat' (j + 1) (2 * u + c) qalc) := by
 refine ⟨fun i v b e => ?_, fun i v b e => ?_, ?_⟩
 ·obtain ⟨h1, h2⟩ := h.old i v b e
  have hx : ¬ (i = j + 1 ∧ v = 2 * u + c) := fun hx => by obtain ⟨rfl, rfl⟩ := hx; rw [hn] at h1; cases h1
  rw [qabk hx, qad2 hx]
  exact ⟨h1, h2⟩
 ·by_cases hx : i = j + 1 ∧ v = 2 * u + c
  ·obtain ⟨rfl, rfl⟩ := hx
   rw [qabx] at e
   cases e
   refine .inr ⟨h.step.size, ?_, qaes _ _ _ _⟩
   cases e2 : adr (j + 1) (2 * u + c) with
   | none => rfl
   | some x => have := (h.old _ _ _ e2).1; rw [hn] at this; cases this
  ·rw [qabk hx] at e
   rw [qad2 hx]
   exact h.new i v b e
 ·refine h.step.fresh ((Step.set (fun k => k = g) wr ⟨g, 3 + c, none⟩ rfl _).trans (Step.alloc _ _ _)) fun b hb => ?_
  subst hb
  rcases h.new j u b hg with e | ⟨e, _⟩
  ·exact .inl ⟨j, u, e⟩
  ·exact .inr e
set_option maxRecDepth 100000 in
set_option maxHeartbeats 4000000 in
theorem qalw (gt : Nat) (W k : Nat) (key most n : Int) (M : Nat → Prop) (adr : Nat → Int → Option Nat) (dat : Nat → Int → Dat) (w : World) (h : Pfx w gt (W : Int) most n M adr dat) (hW : W ≤ 64) (hk : k ≤ W) (hkey : Fits .u64 key) (hlt : key < 2 ^ W) :
  Calls Tryz.prog 128 #[.pointer (some ⟨gt, 0, none⟩), .int .u64 key, .int .i64 (k : Int), .bool true] w fun e w' => ∃ adr' dat', e = .returned (ptr (adr' k (pre W key k))) ∧ adr' k (pre W key k) ≠ none ∧ Pfx w' gt (W : Int) most n M adr' dat' ∧ Grown w w' adr adr' dat dat' := by
 have h0 := h.blk.cell 3
 simp at h0
 have hz := h.blk.lt
 have H := Lib.hid h
 have p0 := qakn (W := W) hkey.u64.1 hlt
 obtain ⟨R, hR⟩ : ∃ R, ptr (adr 0 0) = R := ⟨_, rfl⟩
 rw [hR] at h0
 have HR := Lib.hid hR
 have HP0 := Lib.hid p0
 clear h hR p0
 go_enter Tryz.func128, Tryz.ntmps128
 go_wp2_with fail
 go_loopw [9, 10] (fun p i wr => ∃ (j : Nat) (adr' : Nat → Int → Option Nat) (dat' : Nat → Int → Dat), j ≤ k ∧ i = .int .i64 j ∧ p = ptr (adr' j (pre W key j)) ∧ Pfx wr gt (W : Int) most n M adr' dat' ∧ Grown w wr adr adr' dat dat' ∧ adr' j (pre W key j) ≠ none) (fun _ i _ => k - (intOf i).toNat)
 case atStart => exact ⟨0, adr, dat, Nat.zero_le _, rfl, by rw [HP0.out, HR.out], H.out, Grown.refl _ _ _, by rw [HP0.out]; exact H.out.root⟩
 case round =>
  obtain ⟨j, adr', dat', hj, rfl, rfl, hP, hGr, hne⟩ := hrel
  by_cases hjk : j < k
  ·cases hE : adr' j (pre W key j) with
   | none => exact absurd hE hne
   | some g =>
    rw [qact]
    obtain ⟨ao, an, ac, _, _, _, b3, b4, _, hg, hfz⟩ := hP.trie.cells hE
    have hs := qagf key (show j < W by omega)
    have hpr := Lib.hid hs
    have HB := fun w' (hb : Below wr.heap.size wr w') => qafn gt W j key most n M adr' dat' w' (hP.below hb) hW (by omega) hkey
    have hkb : kbit W key j = 0 ∨ kbit W key j = 1 := by have := qad7 W key j; omega
    have hgz : g < wr.heap.size := hg
    have HE := Lib.hid hE
    clear hs hg hE
    rcases hkb with hb | hb
    ·rw [hb] at HB
     have HB2 := Lib.hid HB
     have hn : Hid (pre W key (j + 1) = 2 * pre W key j) := by show _ = _; rw [hpr.out, hb]; omega
     clear HB hb b4
     obtain ⟨q, hq⟩ : ∃ q, adr' (j + 1) (2 * pre W key j) = q := ⟨_, rfl⟩
     rw [hq] at b3
     cases q with
     | none =>
      rw [qado] at b3
      have HQ := Lib.hid hq
      clear hq
      go_wp2_with fail
      go_big_quiet ((go_at_call 131; exact qaeb (HB2.out _ (qaa7 (rf _) _))))
      have hPd := hP.below (qaa7 (rf wr) nq)
      have hGd := hGr.below (qaa7 (rf wr) nq)
      clear hgz hfz b3 HB2
      generalize wr.drewN nq = wd at hPd hGd ⊢
      obtain ⟨ao2, an2, ac2, x0, x1, x2, x3, x4, x5, hgz, hfz⟩ := hPd.trie.cells HE.out
      clear x0 x1 x2 x5 x4
      rw [HQ.out, qado] at x3
      have hfr := hfz 3
      have HG := Lib.hid (Pfx.grow hPd (c := 0) HE.out (.inl rfl) (by simpa using HQ.out))
      have HGr := Lib.hid (hGd.add hPd HE.out (c := 0) (.inl rfl) (by simpa using HQ.out))
      clear hfz
      go_wp2_with fail
      go_roundw
      case rel =>
       have e2 : pre W key (j + 1) = 2 * pre W key j + ((0 : Nat) : Int) := by rw [hn.out]; simp
       exact ⟨j + 1, _, _, by omega, by go_num, by rw [e2, qabx]; rfl, HG.out, HGr.out, by rw [e2, qabx]; simp⟩
      case measure => simp [intOf]; omega
     | some g2 =>
      rw [qact] at b3
      have HQ := Lib.hid hq
      clear hq
      go_wp2_with fail
      go_big_quiet ((go_at_call 131; exact qaeb (HB2.out _ (qaa7 (rf _) _))))
      go_wp2_with fail
      go_roundw
      case rel => exact ⟨j + 1, adr', dat', by omega, by go_num, by rw [hn.out, HQ.out]; rfl, hP.below (qaa7 (rf _) _), hGr.below (qaa7 (rf _) _), by rw [hn.out, HQ.out]; simp⟩
      case measure => simp [intOf]; omega
    ·rw [hb] at HB
     have HB2 := Lib.hid HB
     have hn : Hid (pre W key (j + 1) = 2 * pre W key j + 1) := by show _ = _; rw [hpr.out, hb]
     clear HB hb b3
     obtain ⟨q, hq⟩ : ∃ q, adr' (j + 1) (2 * pre W key j + 1) = q := ⟨_, rfl⟩
     rw [hq] at b4
     cases q with
     | none =>
      rw [qado] at b4
      have HQ := Lib.hid hq
      clear hq
      go_wp2_with fail
      go_big_quiet ((go_at_call 131; exact qaeb (HB2.out _ (qaa7 (rf _) _))))
      have hPd := hP.below (qaa7 (rf wr) nq)
      have hGd := hGr.below (qaa7 (rf wr) nq)
      clear hgz hfz b4 HB2
      generalize wr.drewN nq = wd at hPd hGd ⊢
      obtain ⟨ao2, an2, ac2, x0, x1, x2, x3, x4, x5, hgz, hfz⟩ := hPd.trie.cells HE.out
      clear x0 x1 x2 x5 x3
      rw [HQ.out, qado] at x4
      have hfr := hfz 4
      have HG := Lib.hid (Pfx.grow hPd (c := 1) HE.out (.inr rfl) (by simpa using HQ.out))
      have HGr := Lib.hid (hGd.add hPd HE.out (c := 1) (.inr rfl) (by simpa using HQ.out))
      clear hfz
      go_wp2_with fail
      go_roundw
      case rel =>
       have e2 : pre W key (j + 1) = 2 * pre W key j + ((1 : Nat) : Int) := by rw [hn.out]; simp
       exact ⟨j + 1, _, _, by omega, by go_num, by rw [e2, qabx]; rfl, HG.out, HGr.out, by rw [e2, qabx]; simp⟩
      case measure => simp [intOf]; omega
     | some g2 =>
      rw [qact] at b4
      have HQ := Lib.hid hq
      clear hq
      go_wp2_with fail
      go_big_quiet ((go_at_call 131; exact qaeb (HB2.out _ (qaa7 (rf _) _))))
      go_wp2_with fail
      go_roundw
      case rel => exact ⟨j + 1, adr', dat', by omega, by go_num, by rw [hn.out, HQ.out]; rfl, hP.below (qaa7 (rf _) _), hGr.below (qaa7 (rf _) _), by rw [hn.out, HQ.out]; simp⟩
      case measure => simp [intOf]; omega
  ·obtain rfl : j = k := by omega
   obtain ⟨P, hPP⟩ : ∃ P, ptr (adr' j (pre W key j)) = P := ⟨_, rfl⟩
   have HPP := Lib.hid hPP
   rw [hPP]
   clear hPP
   go_wp2_with fail
   go_ret
   exact ⟨adr', dat', by rw [HPP.out]; rfl, hne, hP, hGr⟩
end Go.Proofs.YtalejfkholifpaaGreat
namespace Go.Proofs.YtalejfkholifpaaGreat
set_option linter.all false
open Go.RowKit
theorem qaeu (ao : Option Addr) (n cap : Nat) (xs : List Int) (w : World) (hr : Rd w .u64 ao n cap xs) (hn : n ≤ 1000000) :
  Calls Tryz.prog 32 #[.slice ao n cap] w fun e w' => ∃ r, e = .returned r ∧ Mine w' w.heap.size 70 .u64 r xs ∧ Below w.heap.size w w' := by
 have hq := fun w : World => Lib.run_eql_slice_nil (P := Tryz.prog) w 24 70 ao n cap 0 0 Tryz.underlying24
 cases ao with
 | none =>
  have h0 := hr.nil rfl
  have h1 := hr.le
  have h2 := hr.len
  obtain rfl : cap = 0 := h0
  obtain rfl : n = 0 := by omega
  obtain rfl : xs = [] := List.eq_nil_of_length_eq_zero h2
  go_enter Tryz.func32, Tryz.ntmps32
  go_wp2_with fail
  go_ret
  exact ⟨_, rfl, Mine.nil _ _ _ _, Below.refl _ _⟩
 | some a =>
  have hr' : Rd (w.alloc (.cells #[] 70)) .u64 (some a) n cap xs := hr.below ((Below.refl _ _).alloc (Nat.le_refl _) _)
  have hm : Mine (w.alloc (.cells #[] 70)) w.heap.size 70 .u64 (.slice (some ⟨w.heap.size, 0, none⟩) 0 0) [] := ⟨World.ownsRow_made w #[] 0 (Nat.le_refl _) (by simp [maxLen]) rfl, by simp [AllFit]⟩
  go_enter Tryz.func32, Tryz.ntmps32
  go_wp2_with (at_builtin; refine qaia (v := .slice (some ⟨w.heap.size, 0, none⟩) 0 0) (xs := []) rfl _ _ 24 rfl qbdh w.heap.size rfl hm rfl hr' (by simp; omega) (by omega) (by simp) ?_; intro r' w2 hm2 hg2)
  go_ret
  exact ⟨_, rfl, hm2, ((Below.refl _ _).alloc (Nat.le_refl _) _).grown hg2 (by simp) (by simp [Value.ownBlock])⟩
end Go.Proofs.YtalejfkholifpaaGreat
namespace Go.Proofs.YtalejfkholifpaaGreat
set_option linter.all false
open Go.RowKit
attribute [local go_sem ↓] Go.wp_at_zero Go.wp_at_succ
theorem Pfx.say {w w' : World} {gt : Nat} {width most n : Int} {M M' : Nat → Prop} {adr : Nat → Int → Option Nat} {dat : Nat → Int → Dat} (h : Pfx w gt width most n M adr dat) {i : Nat} {v : Int} {g : Nat} (hg : adr i v = some g) (hs : Step (fun k => k = g) w w')
  (hM : ∀ k, M k → M' k) (hM2 : ∀ k, M' k → M k ∨ w.heap.size ≤ k) (hM3 : ∀ k, M' k → k < w'.heap.size) {d : Dat} (hb : NodeAt w' M' adr i v g d) : Pfx w' gt width most n M' adr (qafc dat i v d) := by
 have hold : ∀ k, k < w.heap.size → ¬ M k → ¬ M' k := fun k hk hn hm => (hM2 k hm).elim hn fun h2 => Nat.not_lt_of_le h2 hk
 have hng : ¬ gt = g := fun e => h.ne hg e.symm
 refine ⟨(hs.block gt h.blk.lt hng).trans h.blk, ⟨fun j u b e => ?_, h.trie.inj, h.trie.up, hM3⟩, hold _ h.blk.lt h.out, h.root⟩
 obtain ⟨⟨ao, an, ac, b1, b2, b3⟩, b4⟩ := h.trie.node j u b e
 refine ⟨?_, hold _ b1.lt b4⟩
 by_cases hx : j = i ∧ u = v
 ·obtain ⟨rfl, rfl⟩ := hx
  rw [hg] at e
  cases e
  rw [qaes]
  exact hb
 ·rw [qad2 hx]
  have hbg : ¬ b = g := fun e2 => hx (h.trie.inj j u i v g (by rw [e, e2]) hg)
  refine ⟨ao, an, ac, (hs.block b b1.lt hbg).trans b1, ?_, b3⟩
  have h1 := b2.step (hs.mono fun k hk => by subst hk; exact (h.trie.node _ _ _ hg).2)
  exact h1.weaken fun k hk _ hm => hk (hM k hm)
theorem Pfx.count {w : World} {gt : Nat} {width most n : Int} {M : Nat → Prop} {adr : Nat → Int → Option Nat} {dat : Nat → Int → Dat} (h : Pfx w gt width most n M adr dat) (n' : Int) : Pfx (w.setCell ⟨gt, 2, none⟩ (.int .i64 n')) gt width most n' M adr dat := by
 have hs := Step.set (fun k => k = gt) w ⟨gt, 2, none⟩ rfl (.int .i64 n')
 refine ⟨by have := h.blk.set_ 2 (.int .i64 n'); simpa using this, h.trie.step hs (fun k hk => by subst hk; exact h.out) (fun i v g e hk => h.ne e hk), h.out, h.root⟩
def ent (adr : Nat → Int → Option Nat) (dat : Nat → Int → Dat) (i : Nat) (v : Int) : Option (Int × List Int) := match adr i v with
 | some _ => if (dat i v).there then some ((dat i v).act, (dat i v).args) else none
 | none => none
theorem qadh {adr : Nat → Int → Option Nat} {dat : Nat → Int → Dat} {i : Nat} {v : Int} (h : adr i v = none) : ent adr dat i v = none := by unfold ent; rw [h]
theorem qacu {adr : Nat → Int → Option Nat} {dat : Nat → Int → Dat} {i : Nat} {v : Int} {g : Nat} (h : adr i v = some g) : ent adr dat i v = if (dat i v).there then some ((dat i v).act, (dat i v).args) else none := by unfold ent; rw [h]
def PfxObj (w : World) (Fp : Nat → Prop) (gt : Nat) (width most n : Int) (E : Nat → Int → Option (Int × List Int)) : Prop :=
 ∃ M adr dat, Pfx w gt width most n M adr dat ∧ (∀ i v, ent adr dat i v = E i v) ∧ Fp gt ∧ (∀ k, M k → Fp k) ∧ (∀ i v g, adr i v = some g → Fp g) ∧ ∀ k, Fp k → k < w.heap.size
theorem PfxObj.below {w w' : World} {Fp : Nat → Prop} {gt : Nat} {width most n : Int} {E : Nat → Int → Option (Int × List Int)} (h : PfxObj w Fp gt width most n E) (hb : Below w.heap.size w w') : PfxObj w' Fp gt width most n E := by
 obtain ⟨M, adr, dat, h1, h2, h3, h4, h5, h6⟩ := h
 exact ⟨M, adr, dat, h1.below hb, h2, h3, h4, h5, fun k hk => Nat.lt_of_lt_of_le (h6 k hk) hb.size⟩
instance {Fp : Nat → Prop} {gt : Nat} {width most n : Int} {E : Nat → Int → Option (Int × List Int)} : Mono (fun w => PfxObj w Fp gt width most n E) := ⟨fun h hb => h.below hb⟩
theorem PfxObj.step {w w' : World} {Fp : Nat → Prop} {gt : Nat} {width most n : Int} {E : Nat → Int → Option (Int × List Int)} (h : PfxObj w Fp gt width most n E) {S : Nat → Prop} (hs : Step S w w') (hd : ∀ k, S k → ¬ Fp k) : PfxObj w' Fp gt width most n E := by
 obtain ⟨M, adr, dat, h1, h2, h3, h4, h5, h6⟩ := h
 exact ⟨M, adr, dat, ⟨(hs.block gt h1.blk.lt fun hk => hd _ hk h3).trans h1.blk, h1.trie.step hs (fun k hk hm => hd k hk (h4 k hm)) (fun i v g e hk => hd g hk (h5 i v g e)), h1.out, h1.root⟩, h2, h3, h4, h5, fun k hk => Nat.lt_of_lt_of_le (h6 k hk) hs.size⟩
def qadb (E : Nat → Int → Option (Int × List Int)) (i : Nat) (v : Int) (x : Option (Int × List Int)) : Nat → Int → Option (Int × List Int) := fun j u => if j = i ∧ u = v then x else E j u
def qacg (width most n : Int) (E : Nat → Int → Option (Int × List Int)) (key k : Int) : Int :=
 if qae5 width key k = false then 6 else if (E k.toNat (pre width.toNat key k.toNat)).isSome then 7 else if most ≤ n then 10 else 0
def qae1 (width most n : Int) (E : Nat → Int → Option (Int × List Int)) (key k : Int) : Int := if qacg width most n E key k = 0 then n + 1 else n
def qaff (width most n : Int) (E : Nat → Int → Option (Int × List Int)) (key k act : Int) (args : List Int) : Nat → Int → Option (Int × List Int) := if qacg width most n E key k = 0 then qadb E k.toNat (pre width.toNat key k.toNat) (some (act, args)) else E
theorem qagt {width most n : Int} {E : Nat → Int → Option (Int × List Int)} {key k : Int} (h : qacg width most n E key k ≠ 0) (act : Int) (args : List Int) : qae1 width most n E key k = n ∧ qaff width most n E key k act args = E := by unfold qae1 qaff; rw [if_neg h, if_neg h]; exact ⟨rfl, rfl⟩
theorem qaio {width most n : Int} {E : Nat → Int → Option (Int × List Int)} {key k : Int} (h : qacg width most n E key k = 0) (act : Int) (args : List Int) : qae1 width most n E key k = n + 1 ∧ qaff width most n E key k act args = qadb E k.toNat (pre width.toNat key k.toNat) (some (act, args)) := by unfold qae1 qaff; rw [if_pos h, if_pos h]; exact ⟨rfl, rfl⟩
theorem qaek {width key k : Int} (h : qae5 width key k = true) : ∃ W K : Nat, width = W ∧ k = K ∧ 1 ≤ W ∧ W ≤ 64 ∧ K ≤ W ∧ key < 2 ^ W ∧ key % 2 ^ (W - K) = 0 := by
 unfold qae5 at h
 rw [decide_eq_true_iff] at h
 obtain ⟨h1, h2, h3, h4, h5, h6⟩ := h
 refine ⟨width.toNat, k.toNat, by omega, by omega, by omega, by omega, by omega, h5, ?_⟩
 rw [show width.toNat - k.toNat = (width - k).toNat by omega]; exact h6
theorem Grown.ent {w wr : World} {adr adr' : Nat → Int → Option Nat} {dat dat' : Nat → Int → Dat} (h : Grown w wr adr adr' dat dat') (i : Nat) (v : Int) : ent adr' dat' i v = ent adr dat i v := by
 cases e : adr' i v with
 | none =>
  rw [qadh e]
  cases e2 : adr i v with
  | none => rw [qadh e2]
  | some g => have := (h.old i v g e2).1; rw [e] at this; cases this
 | some g =>
  rw [qacu e]
  rcases h.new i v g e with e2 | ⟨_, e2, e3⟩
  ·rw [qacu e2, (h.old i v g e2).2]
  ·rw [qadh e2, e3]; rfl
def qaqy (w4 : World) (g : Nat) (act : Int) (sl : Value) : World := ((w4.setCell ⟨g, 0, none⟩ (.bool true)).setCell ⟨g, 1, none⟩ (.int .i64 act)).setCell ⟨g, 2, none⟩ sl
theorem qalq (w4 : World) (g : Nat) (act : Int) (sl : Value) : Step (fun k => k = g) w4 (qaqy w4 g act sl) :=
 ((Step.set (fun k => k = g) w4 ⟨g, 0, none⟩ rfl _).trans (Step.set (fun k => k = g) _ ⟨g, 1, none⟩ rfl _)).trans (Step.set (fun k => k = g) _ ⟨g, 2, none⟩ rfl _)
theorem Pfx.said {w3 w4 : World} {gt : Nat} {width most n act : Int} {args : List Int} {M : Nat → Prop} {adr : Nat → Int → Option Nat} {dat : Nat → Int → Dat} (h : Pfx w3 gt width most n M adr dat) {i : Nat} {v : Int} {g : Nat} (hg : adr i v = some g) (hb : Below w3.heap.size w3 w4) {a4 : Option Addr} {n4 c4 : Nat}
  (hm : Mine w4 w3.heap.size 70 .u64 (.slice a4 n4 c4) args) (hact : Fits .i64 act) :
  Pfx (qaqy w4 g act (.slice a4 n4 c4)) gt width most n (fun k => M k ∨ (Value.slice a4 n4 c4).ownBlock = some k) adr (qafc dat i v ⟨true, act, args⟩) := by
 have hs := qalq w4 g act (.slice a4 n4 c4)
 obtain ⟨⟨ao, an, ac, b1, b2, b3⟩, b4⟩ := h.trie.node i v g hg
 have B4 := b1.below hb b1.lt
 refine h.say hg ((Step.of hb).trans hs) (fun k hk => .inl hk) (fun k hk => hk.imp id fun e => (hm.1.lt k e).1) (fun k hk => ?_) ?_
 ·have h2 : (qaqy w4 g act (.slice a4 n4 c4)).heap.size = w4.heap.size := by simp [qaqy, World.setCell]
  rw [h2]
  rcases hk with hk | hk
  ·exact Nat.lt_of_lt_of_le (h.trie.lt k hk) hb.size
  ·exact (hm.1.lt k hk).2
 ·refine ⟨a4, n4, c4, ?_, ?_, hact⟩
  ·have := ((B4.set_ 0 (.bool true)).set_ 1 (.int .i64 act)).set_ 2 (.slice a4 n4 c4)
   unfold qaqy
   simpa using this
  ·have hr := hm.rd_
   have hne : ∀ b off, a4 = some ⟨b, off, none⟩ → 0 < n4 → ¬ (fun k => k = g) b := by
    intro b off e _ hbg
    have hown : (Value.slice a4 n4 c4).ownBlock = some g := by rw [e]; show some b = some g; rw [show b = g from hbg]
    have := (hm.1.lt g hown).1
    exact Nat.not_lt_of_le this b1.lt
   have hr2 : Rd (qaqy w4 g act (.slice a4 n4 c4)) .u64 a4 n4 c4 args := by
    have hl := hr.len
    refine ⟨hr.len, hr.fit, hr.le, hr.max, fun h0 => ?_, hr.nil⟩
    obtain ⟨b, off, e, hc⟩ := hr.here h0
    exact ⟨b, off, e, fun j hj => hs.cell (hc j hj) (hne b off e (by omega))⟩
   refine hr2.lay _ fun a ha _ hk => hk (.inr ?_)
   rw [ha]; rfl
theorem PfxObj.added {w w2 w3 w4 : World} {Fp : Nat → Prop} {gt : Nat} {width most n act : Int} {args : List Int} {M : Nat → Prop} {adr adr' : Nat → Int → Option Nat} {dat dat' : Nat → Int → Dat} {E : Nat → Int → Option (Int × List Int)} (n' : Int)
  (h2 : ∀ i v, ent adr dat i v = E i v) (h3 : Fp gt) (h4 : ∀ k, M k → Fp k) (h5 : ∀ i v g, adr i v = some g → Fp g) (h6 : ∀ k, Fp k → k < w.heap.size) (hB : Below w.heap.size w w2) (hG : Grown w2 w3 adr adr' dat dat') (hP : Pfx w3 gt width most n M adr' dat')
  {i : Nat} {v : Int} {g : Nat} (hg : adr' i v = some g) (hb : Below w3.heap.size w3 w4) {a4 : Option Addr} {n4 c4 : Nat} (hm : Mine w4 w3.heap.size 70 .u64 (.slice a4 n4 c4) args) (hact : Fits .i64 act) :
  ∃ Fp', PfxObj ((qaqy w4 g act (.slice a4 n4 c4)).setCell ⟨gt, 2, none⟩ (.int .i64 n')) Fp' gt width most n' (qadb E i v (some (act, args))) ∧ (∀ b, Fp' b → Fp b ∨ w.heap.size ≤ b) ∧ Step Fp w ((qaqy w4 g act (.slice a4 n4 c4)).setCell ⟨gt, 2, none⟩ (.int .i64 n')) := by
 have hnode : ∀ i v b, adr' i v = some b → Fp b ∨ w.heap.size ≤ b := fun i v b e => by
  rcases hG.new i v b e with h | ⟨h, _⟩
  ·exact .inl (h5 i v b h)
  ·exact .inr (Nat.le_trans hB.size h)
 have hsz : w.heap.size ≤ w3.heap.size := Nat.le_trans hB.size hG.step.size
 have hown : ∀ k, (Value.slice a4 n4 c4).ownBlock = some k → w3.heap.size ≤ k ∧ k < w4.heap.size := fun k hk => hm.1.lt k hk
 have hs2 : (qaqy w4 g act (.slice a4 n4 c4)).heap.size = w4.heap.size := by simp [qaqy, World.setCell]
 refine ⟨fun b => Fp b ∨ (∃ i v, adr' i v = some b) ∨ (Value.slice a4 n4 c4).ownBlock = some b, ⟨_, adr', qafc dat' i v ⟨true, act, args⟩, (hP.said hg hb hm hact).count n', fun j u => ?_, .inl h3, fun k hk => ?_, fun j u b e => .inr (.inl ⟨j, u, e⟩), fun k hk => ?_⟩, fun b hk => ?_, ?_⟩
 ·unfold qadb
  by_cases hx : j = i ∧ u = v
  ·obtain ⟨rfl, rfl⟩ := hx
   rw [if_pos ⟨rfl, rfl⟩, qacu hg, qaes]; rfl
  ·rw [if_neg hx, ← h2 j u, ← hG.ent j u]
   unfold ent
   rw [qad2 hx]
 ·rcases hk with hk | hk
  ·exact .inl (h4 k hk)
  ·exact .inr (.inr hk)
 ·have : ((qaqy w4 g act (.slice a4 n4 c4)).setCell ⟨gt, 2, none⟩ (.int .i64 n')).heap.size = w4.heap.size := by rw [← hs2]; simp [World.setCell]
  rw [this]
  rcases hk with hk | ⟨j, u, e⟩ | hk
  ·exact Nat.lt_of_lt_of_le (h6 k hk) (Nat.le_trans hsz hb.size)
  ·obtain ⟨⟨_, _, _, b1, _⟩, _⟩ := hP.trie.node j u k e
   exact Nat.lt_of_lt_of_le b1.lt hb.size
  ·exact (hown k hk).2
 ·rcases hk with hk | ⟨j, u, e⟩ | hk
  ·exact .inl hk
  ·exact hnode j u b e
  ·exact .inr (Nat.le_trans hsz (hown b hk).1)
 ·have s1 : Step Fp w w3 := ((Step.of hB : Step Fp w w2)).trans (hG.step.mono fun b ⟨j, u, e⟩ => h5 j u b e)
  refine ((s1.trans (Step.of hb)).fresh (qalq w4 g act (.slice a4 n4 c4)) fun b hbg => ?_).trans (Step.set Fp _ ⟨gt, 2, none⟩ h3 _)
  rw [show b = g from hbg]
  exact hnode i v g hg
end Go.Proofs.YtalejfkholifpaaGreat
namespace Go.Proofs.YtalejfkholifpaaGreat
set_option linter.all false
open Go.RowKit
attribute [local go_sem ↓] Go.wp_at_zero Go.wp_at_succ
theorem Rd.step_ {w w' : World} {k : IntKind} {ao : Option Addr} {n cap : Nat} {xs : List Int} (h : Rd w k ao n cap xs) {S : Nat → Prop} (hs : Step S w w') (hS : ∀ b off, ao = some ⟨b, off, none⟩ → 0 < n → ¬ S b) : Rd w' k ao n cap xs := by
 have hl := h.len
 refine ⟨h.len, h.fit, h.le, h.max, fun h0 => ?_, h.nil⟩
 obtain ⟨b, off, e, hc⟩ := h.here h0
 exact ⟨b, off, e, fun i hi => hs.cell (hc i hi) (hS b off e (by omega))⟩
theorem Below.drew0_ (w : World) : Below w.heap.size w w.drew := ⟨rfl, rfl, rfl, Nat.le_refl _, fun _ _ => rfl⟩
theorem Rd.noNode {w : World} {ao : Option Addr} {n cap : Nat} {xs : List Int} (h : Rd w .u64 ao n cap xs) {M : Nat → Prop} {adr : Nat → Int → Option Nat} {dat : Nat → Int → Dat} (ht : Trie w M adr dat) : ∀ b off, ao = some ⟨b, off, none⟩ → 0 < n → ¬ ∃ i v, adr i v = some b := by
 rintro b off e h0 ⟨i, v, hg⟩
 have hl := h.len
 obtain ⟨b2, off2, e2, hc⟩ := h.here (by omega)
 rw [e] at e2
 cases e2
 have hx := hc 0 (by omega)
 obtain ⟨⟨a1, a2, a3, hb, _⟩, _⟩ := ht.node i v b hg
 rw [Nat.add_zero, hb.cell] at hx
 have : off = 0 ∨ off = 1 ∨ off = 2 ∨ off = 3 ∨ off = 4 ∨ 5 ≤ off := by omega
 rcases this with rfl | rfl | rfl | rfl | rfl | h5
 ·simp at hx
 ·simp at hx
 ·simp at hx
 ·simp [ptr] at hx
 ·simp [ptr] at hx
 ·rw [Array.getElem?_eq_none (by simpa using h5)] at hx; cases hx
set_option maxRecDepth 100000 in
set_option maxHeartbeats 4000000 in
theorem qaxa (gt : Nat) (Fp : Nat → Prop) (width most n key k act : Int) (ao : Option Addr) (an ac : Nat) (args : List Int) (E : Nat → Int → Option (Int × List Int)) (w : World) (h : PfxObj w Fp gt width most n E) (hw : Fits .i64 width) (hkey : Fits .u64 key) (hk : Fits .i64 k) (hact : Fits .i64 act) (hr : Rd w .u64 ao an ac args) (han : an ≤ 1000000) (hn : 0 ≤ n ∧ n ≤ 1000000) :
  Calls Tryz.prog 122 #[.pointer (some ⟨gt, 0, none⟩), .int .u64 key, .int .i64 k, .agg #[.int .i64 act, .slice ao an ac]] w fun e w' => e = .returned (.int .i64 (qacg width most n E key k)) ∧
   ∃ Fp', PfxObj w' Fp' gt width most (qae1 width most n E key k) (qaff width most n E key k act args) ∧ (∀ b, Fp' b → Fp b ∨ w.heap.size ≤ b) ∧ Step Fp w w' := by
 have HO := Lib.hid h
 obtain ⟨M, adr, dat, h1, h2, h3, h4, h5, h6⟩ := h
 have hal := al (rf w) (.cells #[.int .i64 act, .slice ao an ac] 46)
 have H1 := Lib.hid (h1.below hal)
 by_cases hf : qae5 width key k = true
 case neg =>
  have hf' : qae5 width key k = false := by simpa using hf
  have hc : qacg width most n E key k = 6 := by unfold qacg; rw [if_pos hf']
  obtain ⟨e1, e2⟩ := qagt (show qacg width most n E key k ≠ 0 by rw [hc]; decide) act args
  rw [hc, e1, e2]
  have HF := Lib.hid hf'
  clear hf hf' hc e1 e2 h6 h5 h4 h3 h2
  go_enter Tryz.func122, Tryz.ntmps122
  go_wp2_with fail
  refine (qacj _ _ _ _ _ _ _ _ _ _ H1.out hw hk hkey).mono ?_
  rintro e w' ⟨rfl, rfl⟩
  rw [HF.out]
  go_wp2_with fail
  go_ret
  exact ⟨rfl, Fp, HO.out.below hal, fun b hb => .inl hb, Step.of hal⟩
 obtain ⟨W, K, rfl, rfl, hW1, hW, hK, hlt, hmod⟩ := qaek hf
 have HF := Lib.hid hf
 have hE := h2 K (pre W key K)
 have HA := Lib.hid (qah3 gt W K key most n M adr dat)
 go_enter Tryz.func122, Tryz.ntmps122
 go_wp2_with fail
 refine (qacj _ _ _ _ _ _ _ _ _ _ H1.out hw hk hkey).mono ?_
 rintro e w' ⟨rfl, rfl⟩
 rw [HF.out]
 go_wp2_with fail
 refine (qah3 gt W K key most n M adr dat _ H1.out hW hK hkey hlt).mono ?_
 rintro e w2 ⟨rfl, hb2⟩
 have hB2 := ov hal hb2
 have H2 := Lib.hid (H1.out.below hb2)
 have hbox : w2.cell? ⟨w.heap.size, 0, none⟩ = some (.int .i64 act) ∧ w2.cell? ⟨w.heap.size, 1, none⟩ = some (.slice ao an ac) := by
  obtain ⟨x, y⟩ := (Blk.new w 46 #[.int .i64 act, .slice ao an ac]).two
  exact ⟨keep x hb2, keep y hb2⟩
 obtain ⟨hx0, hx1⟩ := hbox
 have hxz : w.heap.size < w2.heap.size := by have := hb2.size; simp at this; omega
 clear hb2 hal
 have hcs : (∃ g, adr K (pre W key K) = some g ∧ (dat K (pre W key K)).there = true) ∨ (E K (pre W key K) = none ∧ (adr K (pre W key K) = none ∨ ∃ g, adr K (pre W key K) = some g ∧ (dat K (pre W key K)).there = false)) := by
  cases e : adr K (pre W key K) with
  | none => exact .inr ⟨by rw [← hE, qadh e], .inl rfl⟩
  | some g =>
   cases t : (dat K (pre W key K)).there with
   | true => exact .inl ⟨g, rfl, rfl⟩
   | false => exact .inr ⟨by rw [← hE, qacu e, t]; rfl, .inr ⟨g, rfl, rfl⟩⟩
 rcases hcs with ⟨g, e, t⟩ | ⟨hE0, hcs⟩
 ·have hc : Hid (qacg (W : Int) most n E key (K : Int) = 7) := by
   show _ = _
   unfold qacg
   rw [if_neg (by rw [HF.out]; decide), if_pos]
   show (E K (pre W key K)).isSome = true
   rw [← hE, qacu e, t]; rfl
  rw [e, qact]
  obtain ⟨_, _, _, y0, _, _, _, _, _, hgz, _⟩ := H2.out.trie.cells e
  rw [t] at y0
  clear hx0 hx1 hE t e h2 h3 h4 h5 h6 h1
  go_wp2_with fail
  go_ret
  obtain ⟨e1, e2⟩ := qagt (show qacg (W : Int) most n E key (K : Int) ≠ 0 by rw [hc.out]; decide) act args
  rw [hc.out, e1, e2]
  exact ⟨rfl, Fp, HO.out.step (S := fun _ => False) (Step.of hB2) (fun _ h => h.elim), fun b hb => .inl hb, Step.of hB2⟩
 have HE0 := Lib.hid hE0
 have T0 := H2.out.blk.cell 1
 have T1 := H2.out.blk.cell 2
 simp at T0 T1
 have Tz := H2.out.blk.lt
 have hc : Hid (qacg (W : Int) most n E key (K : Int) = if most ≤ n then 10 else 0) := by
  show _ = _
  unfold qacg
  rw [if_neg (by rw [HF.out]; decide), if_neg]
  show ¬ (E K (pre W key K)).isSome = true
  rw [HE0.out]; decide
 have H6 := Lib.hid h6
 have H5 := Lib.hid h5
 have H24 := Lib.hid (And.intro h2 h4)
 have hCs := hcs
 clear hE hE0 h1 h2 h4 h5 h6 hCs
 have hmd : ∃ p : Value, ptr (adr K (pre W key K)) = p ∧ (p = .pointer none ∨ ∃ g, p = .pointer (some ⟨g, 0, none⟩) ∧ w2.cell? ⟨g, 0, none⟩ = some (.bool false) ∧ g < w2.heap.size) := by
  rcases hcs with e | ⟨g, e, t⟩
  ·exact ⟨_, by rw [e]; rfl, .inl rfl⟩
  ·obtain ⟨_, _, _, y0, _, _, _, _, _, hgz, _⟩ := H2.out.trie.cells e
   rw [t] at y0
   exact ⟨_, by rw [e]; rfl, .inr ⟨g, rfl, y0, hgz⟩⟩
 obtain ⟨p, hp, hpc⟩ := hmd
 rw [hp]
 clear hp hcs
 by_cases hfull : most ≤ n
 ·have hfull' : decide (most ≤ n) = true := decide_eq_true hfull
  have hc2 : Hid (qacg (W : Int) most n E key (K : Int) = 10) := by show _ = _; rw [hc.out, if_pos hfull]
  clear hx0 hx1
  rcases hpc with rfl | ⟨g, rfl, y0, hgz⟩
  all_goals
   go_wp2_with fail
   go_big_quiet (fail)
   go_wp2_with fail
   go_ret
   obtain ⟨e1, e2⟩ := qagt (show qacg (W : Int) most n E key (K : Int) ≠ 0 by rw [hc2.out]; decide) act args
   rw [hc2.out, e1, e2]
   exact ⟨rfl, Fp, HO.out.step (S := fun _ => False) (Step.of (qaa7 hB2 _)) (fun _ h => h.elim), fun b hb => .inl hb, Step.of (qaa7 hB2 _)⟩
 have hfull' : decide (most ≤ n) = false := decide_eq_false hfull
 have hc2 : Hid (qacg (W : Int) most n E key (K : Int) = 0) := by show _ = _; rw [hc.out, if_neg hfull]
 rcases hpc with rfl | ⟨g0, rfl, y0, hgz0⟩
 all_goals
  go_wp2_with fail
  go_big_quiet (fail)
  go_wp2_with fail
  refine (qalw gt W K key most n M adr dat _ (H2.out.below (qaa7 (rf _) _)) hW hK hkey hlt).mono ?_
  rintro e w3 ⟨adr', dat', rfl, hne, hP3, hG3⟩
  cases e3 : adr' K (pre W key K) with
  | none => exact absurd e3 hne
  | some g =>
   rw [qact]
   have hnb : ∀ i v b, adr i v = some b → b < w.heap.size := fun i v b hb => H6.out b (H5.out i v b hb)
   have hd0 : w3.cell? ⟨w.heap.size, 0, none⟩ = some (.int .i64 act) := hG3.step.cell (keep hx0 (qaa7 (rf _) _)) (fun ⟨i, v, hb⟩ => Nat.lt_irrefl _ (hnb i v _ hb))
   have hd1 : w3.cell? ⟨w.heap.size, 1, none⟩ = some (.slice ao an ac) := hG3.step.cell (keep hx1 (qaa7 (rf _) _)) (fun ⟨i, v, hb⟩ => Nat.lt_irrefl _ (hnb i v _ hb))
   have hr3 : Rd w3 .u64 ao an ac args := ((hr.below hB2).below (qaa7 (rf w2) nq)).step_ hG3.step (Rd.noNode ((hr.below hB2).below (qaa7 (rf w2) nq)) (H2.out.below (qaa7 (rf w2) nq)).trie)
   have hxz3 : w.heap.size < w3.heap.size := Nat.lt_of_lt_of_le hxz hG3.step.size
   obtain ⟨⟨na, nn, nc, B3, _, _⟩, nM⟩ := hP3.trie.node _ _ _ e3
   have hgne : ¬ w.heap.size = g := by
    intro hh
    rcases hG3.new _ _ _ e3 with h | ⟨h, _⟩
    ·have := hnb _ _ _ h; omega
    ·have hs : (w2.drewN nq).heap.size = w2.heap.size := rfl
     rw [hs] at h; omega
   have hr4 := hr3.below (Below.drew0_ w3)
   have hd0' : w3.drew.cell? ⟨w.heap.size, 0, none⟩ = some (.int .i64 act) := hd0
   have hd1' : w3.drew.cell? ⟨w.heap.size, 1, none⟩ = some (.slice ao an ac) := hd1
   clear hx0 hx1
   go_wp2_with fail
   go_region_law ((first
    | (go_simp; go_at_call 32; refine (qaeu _ _ _ _ _ (hr4.below (rf _)) han).mono ?_; rintro e w4 ⟨r4, rfl, hm4, hb4⟩; obtain ⟨a4, c4, rfl⟩ := hm4.form; have B4 : Blk w4 g _ _ := Blk.below (w := w3.drew) B3 hb4 B3.lt; have m0 := B4.cell 0; have m1 := B4.cell 1; have m2 := B4.cell 2; simp at m0 m1 m2; have mf0 := B4.frozen 0; have mf1 := B4.frozen 1; have mf2 := B4.frozen 2; have mz := B4.lt; have m5 := keep hd0' hb4; have m6 := keep hd1' hb4; have m7 : w.heap.size < w4.heap.size := Nat.lt_of_lt_of_le hxz3 hb4.size)))
   all_goals
    have hFin := PfxObj.added (n + 1) H24.out.1 h3 H24.out.2 H5.out H6.out (qaa7 hB2 nq) hG3 hP3 e3 ((Below.drew0_ w3).trans hb4) hm4 hact
    have hwr : IntKind.i64.wrap (n + 1) = n + 1 := qadu (by omega) (by omega)
    have hPs := hP3.said e3 ((Below.drew0_ w3).trans hb4) hm4 hact
    have t2 := hPs.blk.cell 2
    simp at t2
    have tz := hPs.blk.lt
    have tf := hPs.blk.frozen 2
    have HFin := Lib.hid hFin
    clear hFin hPs m0 m1 m2 mf0 mf1 mf2 m5 m6 B4 B3 hd0 hd1 hd0' hd1' hm4 hb4
    change Exit.then _ _ _ _ (qaqy w4 g act (.slice a4 args.length c4))
    generalize qaqy w4 g act (.slice a4 args.length c4) = wF at *
    go_wp2_with fail
    go_ret
    obtain ⟨e1, e2⟩ := qaio (show qacg (W : Int) most n E key (K : Int) = 0 from hc2.out) act args
    rw [hc2.out, e1, e2]
    exact ⟨rfl, HFin.out⟩
end Go.Proofs.YtalejfkholifpaaGreat
