/-
  Texts joined: XPfxH XEntA XPfxI XPfxJ XPfxK XPfxU XPfxV XPfxL XPfxM XLongA. No condition.
-/
import Derived.WalkSpells
import Derived.RegionTactic
import Derived.BigRegion
import Derived.Deep.RegionLaw
import Derived.Test.YtalejfkholifpaaGreatProg
import Derived.Laws.Bits64b
import Derived.Test.YtalejfkholifpaaGreatStoreSetK10
namespace Go.Proofs.YtalejfkholifpaaGreat
set_option linter.all false
open Go.RowKit
attribute [local go_sem ↓] Go.wp_at_zero Go.wp_at_succ
def entL (E : Nat → Int → Option (Int × List Int)) (W i : Nat) (v : Int) : List Entry := match E i v with
 | none => []
 | some x => [⟨[v * 2 ^ (W - i)], [], i, 0, x.1, x.2⟩]
def allF (E : Nat → Int → Option (Int × List Int)) (W : Nat) : Nat → Nat → Int → List Entry
 | 0, i, v => entL E W i v
 | d + 1, i, v => entL E W i v ++ (allF E W d (i + 1) (2 * v) ++ allF E W d (i + 1) (2 * v + 1))
theorem qak3 {E : Nat → Int → Option (Int × List Int)} {W i : Nat} {v : Int} (h : E i v = none) : entL E W i v = [] := by unfold entL; rw [h]
theorem qa59 {E : Nat → Int → Option (Int × List Int)} {W i : Nat} {v : Int} {x : Int × List Int} (h : E i v = some x) : entL E W i v = [⟨[v * 2 ^ (W - i)], [], i, 0, x.1, x.2⟩] := by unfold entL; rw [h]
theorem Trie.allF_nil {w : World} {M : Nat → Prop} {adr : Nat → Int → Option Nat} {dat : Nat → Int → Dat} (h : Trie w M adr dat) (W : Nat) : ∀ d i v, adr i v = none → allF (ent adr dat) W d i v = [] := by
 intro d
 induction d with
 | zero => intro i v e; exact qak3 (qadh e)
 | succ d ih =>
  intro i v e
  have hc : ∀ c : Int, c = 0 ∨ c = 1 → adr (i + 1) (2 * v + c) = none := fun c hc => by
   cases e2 : adr (i + 1) (2 * v + c) with
   | none => rfl
   | some g =>
    have := h.up i (2 * v + c) (by rw [e2]; simp)
    rw [show (2 * v + c) / 2 = v by omega, e] at this
    exact absurd rfl this
  have h0 := hc 0 (.inl rfl)
  rw [Int.add_zero] at h0
  show entL _ _ _ _ ++ (allF _ _ _ _ _ ++ allF _ _ _ _ _) = []
  rw [qak3 (qadh e), ih _ _ h0, ih _ _ (hc 1 (.inr rfl))]; rfl
structure OwnE (w : World) (B : Nat) (v : Value) (xs : List Entry) : Prop where
 mine : MineL entryLay (fun k => v.ownBlock = some k ∨ k < B) w 0 38 v xs
 ge : ∀ k, v.ownBlock = some k → B ≤ k
theorem OwnE.nil (w : World) (B : Nat) : OwnE w B (.slice none 0 0) [] := ⟨MineL.nil _ _ _ _ _, by simp [Value.ownBlock]⟩
theorem OwnE.below {w w' : World} {B : Nat} {v : Value} {xs : List Entry} (h : OwnE w B v xs) (hb : Below w.heap.size w w') : OwnE w' B v xs := ⟨h.mine.below hb, h.ge⟩
theorem OwnE.own {w : World} {B : Nat} {v : Value} {xs : List Entry} (h : OwnE w B v xs) : OwnL entryLay (fun k => v.ownBlock = some k ∨ k < B ∨ w.heap.size ≤ k) w (fun k => v.ownBlock = some k) 38 v xs := by
 obtain ⟨⟨cs, ho, hr⟩, _⟩ := h
 exact ⟨⟨cs, ho, hr.weaken fun k hk hlt => hk.elim .inl fun h2 => h2.elim .inr fun h3 => absurd hlt (Nat.not_lt_of_le h3)⟩, fun k hk => hk⟩
theorem OwnE.of {w w' : World} {B : Nat} {v v' : Value} {xs : List Entry} (h : OwnL entryLay (fun k => v.ownBlock = some k ∨ k < B ∨ w.heap.size ≤ k) w' (fun k => v.ownBlock = some k ∨ k = w.heap.size) 38 v' xs) (hge : ∀ k, v.ownBlock = some k → B ≤ k) (hB : B ≤ w.heap.size) : OwnE w' B v' xs := by
 obtain ⟨⟨cs, ho, hr⟩, hrow⟩ := h
 refine ⟨⟨cs, ho, hr.weaken fun k hk _ => hk.elim (fun hk => (hrow k hk).imp id fun e => by rw [e]; exact .inr (Nat.le_refl _)) fun h => .inr (.inl h)⟩, fun k hk => ?_⟩
 rcases hrow k hk with e | e
 ·exact hge k e
 ·rw [e]; exact hB
theorem or_key {W i : Nat} {v : Int} (hi : i < W) (hW : W ≤ 64) (h0 : 0 ≤ v) (hv : v < 2 ^ i) : bits .or .u64 (v * 2 ^ (W - i)) (2 ^ (W - 1 - i)) = (2 * v + 1) * 2 ^ (W - (i + 1)) := by
 obtain ⟨n, rfl⟩ := Int.eq_ofNat_of_zero_le h0
 obtain ⟨m, hm⟩ : ∃ m, W - 1 - i = m := ⟨_, rfl⟩
 rw [hm, show W - i = m + 1 by omega, show W - (i + 1) = m by omega]
 have e1 : ((n : Int) * 2 ^ (m + 1)) = ((n * 2 ^ (m + 1) : Nat) : Int) := by simp
 have e2 : ((2 : Int) ^ m) = ((2 ^ m : Nat) : Int) := by simp
 have hn : n < 2 ^ i := by have : ((2 : Int) ^ i) = ((2 ^ i : Nat) : Int) := by simp
                           omega
 have hb : n * 2 ^ (m + 1) + 2 ^ m < 2 ^ W := by
  have h1 : (n + 1) * 2 ^ (m + 1) ≤ 2 ^ i * 2 ^ (m + 1) := Nat.mul_le_mul_right _ hn
  rw [← Nat.pow_add, show i + (m + 1) = W by omega, Nat.add_mul, Nat.one_mul] at h1
  have h2 : 2 ^ (m + 1) = 2 * 2 ^ m := by rw [Nat.pow_succ, Nat.mul_comm]
  have h3 : 0 < 2 ^ m := Nat.two_pow_pos m
  omega
 have hW2 : 2 ^ W ≤ 2 ^ 64 := Nat.pow_le_pow_right (by omega) hW
 have h64 : (2 ^ 64 : Nat) = 18446744073709551616 := by decide
 have hx : n * 2 ^ (m + 1) < 18446744073709551616 := by
  rw [← h64]; exact Nat.lt_of_le_of_lt (Nat.le_add_right _ _) (Nat.lt_of_lt_of_le hb hW2)
 have hy : 2 ^ m < 18446744073709551616 := by
  rw [← h64]; exact Nat.lt_of_le_of_lt (Nat.le_add_left _ _) (Nat.lt_of_lt_of_le hb hW2)
 rw [e1, e2, bits_or_u64_nat _ _ hx hy]
 have h4 : n * 2 ^ (m + 1) ||| 2 ^ m = n * 2 ^ (m + 1) + 2 ^ m := by
  rw [Nat.mul_comm n, Nat.two_pow_add_eq_or_of_lt (show 2 ^ m < 2 ^ (m + 1) by rw [Nat.pow_succ]; have := Nat.two_pow_pos m; omega)]
 rw [h4]
 simp [Nat.pow_succ, Int.pow_succ]
 rw [Int.add_mul, Int.one_mul, Int.mul_assoc, Int.mul_comm 2, Int.mul_assoc]
end Go.Proofs.YtalejfkholifpaaGreat
namespace Go.Proofs.YtalejfkholifpaaGreat
set_option linter.all false
open Go.RowKit
theorem RdL.litE {α : Type} {L : Lay α} {A : Nat → Prop} {w : World} {xs : List α} {cs : List Value} {e : TypeId} {g n : Nat} (h : RepAll L A w xs cs) (hb : Blk w g e cs.toArray) (hn : xs.length = n) (hm : n ≤ maxLen) (hA : ¬ A g) : RdL L A w (some ⟨g, 0, none⟩) n n xs := by
 refine ⟨hn, Nat.le_refl _, hm, by simp, fun _ => ⟨g, 0, rfl, hA, hb.lt, fun i hi => ?_⟩⟩
 obtain ⟨c, hc, hj⟩ := h.at_ i hi
 refine ⟨c, hc, fun j hj' => ?_⟩
 rw [Nat.zero_add, hb.cell, ← hj j hj']
 simp
theorem Blk.new1 (w : World) (o : Obj) (t : TypeId) (cs : Array Value) : Blk ((w.alloc o).alloc (.cells cs t)) (w.heap.size + 1) t cs := by
 have := Blk.new (w.alloc o) t cs
 simpa using this
theorem Mine.layA {w : World} {base : Nat} {e : TypeId} {k : IntKind} {ao : Option Addr} {n c : Nat} {xs : List Int} (h : Mine w base e k (.slice ao n c) xs) (A : Nat → Prop) (hA : ∀ g, base ≤ g → g < w.heap.size → ¬ A g) : RdL (Lay.int k) A w ao n c xs := by
 obtain ⟨ao', cap', e', hr, hb⟩ := h.rd
 cases e'
 refine hr.lay A fun a ha h0 => ?_
 subst ha
 obtain ⟨b, off, e2, hc⟩ := hr.here (by have := hr.len; omega)
 cases e2
 exact hA _ (hb _ rfl).1 (block_lt_of_cell (hc 0 (by have := hr.len; omega)))
theorem OwnE.lt {w : World} {B : Nat} {v : Value} {xs : List Entry} (h : OwnE w B v xs) : ∀ k, v.ownBlock = some k → k < w.heap.size := fun k hk => (h.mine.lt k hk).2
theorem key_fit {W i : Nat} {v : Int} (hi : i ≤ W) (hW : W ≤ 64) (h0 : 0 ≤ v) (hv : v < 2 ^ i) : Fits .u64 (v * 2 ^ (W - i)) := by
 obtain ⟨n, rfl⟩ := Int.eq_ofNat_of_zero_le h0
 have hn : n < 2 ^ i := by have : ((2 : Int) ^ i) = ((2 ^ i : Nat) : Int) := by simp
                           omega
 have h1 : (n + 1) * 2 ^ (W - i) ≤ 2 ^ i * 2 ^ (W - i) := Nat.mul_le_mul_right _ hn
 rw [← Nat.pow_add, show i + (W - i) = W by omega, Nat.add_mul, Nat.one_mul] at h1
 have hp : 0 < 2 ^ (W - i) := Nat.two_pow_pos _
 have hW2 : 2 ^ W ≤ 2 ^ 64 := Nat.pow_le_pow_right (by omega) hW
 have h64 : (2 ^ 64 : Nat) = 18446744073709551616 := by decide
 have e1 : ((n : Int) * 2 ^ (W - i)) = ((n * 2 ^ (W - i) : Nat) : Int) := by simp
 rw [e1]
 exact Fits.of_u64 (by omega) (by omega)
theorem entSrc {w W : World} {B kb eb : Nat} {v : Value} {xs : List Entry} {key i act : Int} {a : Option Addr} {n c : Nat} {args : List Int} (hB : B ≤ w.heap.size) (ho : OwnE w B v xs)
  (hk : Blk W kb 70 #[.int .u64 key]) (hkb : w.heap.size ≤ kb) (hkf : Fits .u64 key)
  (ha : Mine W w.heap.size 70 .u64 (.slice a n c) args)
  (he : Blk W eb 38 #[.slice (some ⟨kb, 0, none⟩) 1 1, .slice none 0 0, .int .i64 i, .int .i64 0, .int .i64 act, .slice a n c])
  (hi : Fits .i64 i) (hact : Fits .i64 act) : Src entryLay (fun k => v.ownBlock = some k ∨ k < B ∨ W.heap.size ≤ k) W (some ⟨eb, 0, none⟩) 1 1 [⟨[key], [], i, 0, act, args⟩] := by
 obtain ⟨_, _, e, hrd, _⟩ := ha.rd
 cases e
 have hl := hrd.len
 have hav : ∀ g, w.heap.size ≤ g → g < W.heap.size → ¬ (v.ownBlock = some g ∨ g < B ∨ W.heap.size ≤ g) := by
  rintro g h1 h2 (h3 | h3 | h3)
  ·have := ho.lt g h3; omega
  ·omega
  ·omega
 refine Src.lit1 (cs := [.slice (some ⟨kb, 0, none⟩) 1 1, .slice none 0 0, .int .i64 i, .int .i64 0, .int .i64 act, .slice a _ c]) he ?_
 exact qa58 (e := ⟨[key], [], i, 0, act, args⟩) (RdL.litE (cs := [.int .u64 key]) ⟨[_], _, rfl, ⟨rfl, hkf⟩, rfl⟩ hk rfl (by simp [maxLen]) (hav _ hkb hk.lt)) (RdL.nil_ _ _ _) (ha.layA _ hav) hi (Fits.of_i64 (x := 0) (by decide) (by decide)) hact
end Go.Proofs.YtalejfkholifpaaGreat
namespace Go.Proofs.YtalejfkholifpaaGreat
set_option linter.all false
open Go.RowKit
attribute [local go_sem ↓] Go.wp_at_zero Go.wp_at_succ
theorem Pfx.belowB {w w' : World} {B : Nat} {gt : Nat} {width most n : Int} {M : Nat → Prop} {adr : Nat → Int → Option Nat} {dat : Nat → Int → Dat} (h : Pfx w gt width most n M adr dat) (hM : ∀ k, M k → k < B) (hN : ∀ i v g, adr i v = some g → g < B) (hg : gt < B) (hb : Below B w w') : Pfx w' gt width most n M adr dat := by
 have hs : Step (fun k => B ≤ k) w w' := Step.ofBelow hb fun _ h => h
 exact ⟨h.blk.below hb hg, h.trie.step hs (fun k hk hm => Nat.not_lt_of_le hk (hM k hm)) (fun i v g e hk => Nat.not_lt_of_le hk (hN i v g e)), h.out, h.root⟩
theorem qaof {m : Nat} (h : m ≤ 63) : IntKind.u64.wrap ((2 : Int) ^ m) = 2 ^ m := by
 have e : ((2 : Int) ^ m) = ((2 ^ m : Nat) : Int) := by simp
 have h2 : 2 ^ m ≤ 2 ^ 63 := Nat.pow_le_pow_right (by omega) h
 rw [e]
 generalize 2 ^ m = x at *
 simp [IntKind.wrap, IntKind.bits, IntKind.signed]
 omega
theorem entL_le (E : Nat → Int → Option (Int × List Int)) (W d i : Nat) (v : Int) : (entL E W i v).length ≤ (allF E W d i v).length := by
 cases d with
 | zero => exact Nat.le_refl _
 | succ d => show _ ≤ (entL _ _ _ _ ++ _).length; rw [List.length_append]; omega
set_option maxRecDepth 100000 in
set_option maxHeartbeats 3000000 in
theorem qasp (gt W B : Nat) (most n : Int) (M : Nat → Prop) (adr : Nat → Int → Option Nat) (dat : Nat → Int → Dat) (hW : W ≤ 64) (hargs : ∀ i v x, ent adr dat i v = some x → x.2.length ≤ 1000000) (hM : ∀ k, M k → k < B) (hN : ∀ i v g, adr i v = some g → g < B) (hgt : gt < B) :
  ∀ (d i : Nat), i + d = W → ∀ (v : Int), 0 ≤ v → v < 2 ^ i → ∀ (w : World), Pfx w gt (W : Int) most n M adr dat → B ≤ w.heap.size → ∀ (ao : Option Addr) (ac : Nat) (xs : List Entry), OwnE w B (.slice ao xs.length ac) xs → (xs ++ allF (ent adr dat) W d i v).length ≤ 1000000 →
  Calls Tryz.prog 129 #[.pointer (some ⟨gt, 0, none⟩), ptr (adr i v), .int .u64 (v * 2 ^ (W - i)), .int .i64 (i : Int), .slice ao xs.length ac] w fun e w' => ∃ ao' c', e = .returned (.slice ao' (xs ++ allF (ent adr dat) W d i v).length c') ∧ OwnE w' B (.slice ao' (xs ++ allF (ent adr dat) W d i v).length c') (xs ++ allF (ent adr dat) W d i v) ∧ Below B w w' := by
 intro d
 induction d using Nat.strongRecOn with
 | ind d ih =>
  intro i hi v h0 hv w h hB ao ac xs ho hlen
  cases e : adr i v with
  | none =>
   have hnil : Hid (xs ++ allF (ent adr dat) W d i v = xs) := by show _ = _; rw [h.trie.allF_nil W d i v e, List.append_nil]
   rw [qado]
   clear ih hlen e h
   go_enter Tryz.func129, Tryz.ntmps129
   go_wp2_with fail
   go_ret
   rw [hnil.out]
   exact ⟨ao, ac, rfl, ho, Below.refl _ _⟩
  | some g =>
   obtain ⟨⟨ga, gn, gc, B1, R1, R1act⟩, _⟩ := h.trie.node i v g e
   have hlen0 : (xs ++ entL (ent adr dat) W i v).length ≤ 1000000 := by have := entL_le (ent adr dat) W d i v; rw [List.length_append] at hlen ⊢; omega
   have b0 := B1.cell 0
   have b1 := B1.cell 1
   have b2 := B1.cell 2
   have b3 := B1.cell 3
   have b4 := B1.cell 4
   simp at b0 b1 b2 b3 b4
   have bz := B1.lt
   have H := Lib.hid h
   have He := Lib.hid e
   have HO := Lib.hid ho
   rw [qact]
   clear h e ho
   go_enter Tryz.func129, Tryz.ntmps129
   go_upto_if 17 with fail
   go_cut [4, 17] from 18 to 35 (fun o t wx => ∃ ao2 c2, o = .slice ao2 (xs ++ entL (ent adr dat) W i v).length c2 ∧ OwnE wx B (.slice ao2 (xs ++ entL (ent adr dat) W i v).length c2) (xs ++ entL (ent adr dat) W i v) ∧ Below B w wx ∧ t = t)
   case first =>
    cases ht : (dat i v).there with
    | false =>
     rw [ht] at b0
     have hx : Hid (xs ++ entL (ent adr dat) W i v = xs) := by show _ = _; rw [qak3 (by rw [qacu He.out, ht]; rfl), List.append_nil]
     clear ht
     go_wp2_with fail
     go_meet
     rw [hx.out]
     exact ⟨ao, ac, rfl, HO.out, Below.refl _ _, trivial⟩
    | true =>
     rw [ht] at b0
     have hent : ent adr dat i v = some ((dat i v).act, (dat i v).args) := by rw [qacu He.out, ht]; rfl
     have hx : Hid (xs ++ entL (ent adr dat) W i v = xs ++ [⟨[v * 2 ^ (W - i)], [], i, 0, (dat i v).act, (dat i v).args⟩]) := by show _ = _; rw [qa59 hent]
     have hal := hargs _ _ _ hent
     simp only at hal
     have hgn : gn ≤ 1000000 := by have := R1.len; omega
     go_wp2_with fail
     have hd0 : Below w.heap.size w w.drew := Below.drew0_ w
     have h63 : Hid (xs.length + 1 ≤ maxLen) := by show _ ≤ _; rw [hx.out] at hlen0; simp at hlen0; simp [maxLen]; omega
     have hsz : Hid ((xs.length + 1) * 96 ≤ 140737488355328) := by show _ ≤ _; rw [hx.out] at hlen0; simp at hlen0; omega
     have hkf : Hid (Fits .u64 (v * 2 ^ (W - i))) := key_fit (by omega) hW h0 hv
     have hif : Hid (Fits .i64 (i : Int)) := Fits.of_i64 (by omega) (by omega)
     have haf : Hid (Fits .i64 (dat i v).act) := R1act
     go_region_law ((first
      | (go_simp; go_at_call 32; refine (qaeu ga gn gc _ _ (R1.rd.below (by first | exact Below.drew0_ w | exact al (Below.drew0_ w) _)) hgn).mono ?_; rintro e w4 ⟨r4, rfl, hm4, hb4⟩; obtain ⟨a4, c4, rfl⟩ := hm4.form; (first | (have n1 := keep (w := w.drew) b1 hb4; have n2 := keep (w := w.drew) b2 hb4) | (have n1 := keep (keep (w := w.drew) b1 (al (rf _) _)) hb4; have n2 := keep (keep (w := w.drew) b2 (al (rf _) _)) hb4)); have n3 : g < w4.heap.size := block_lt_of_cell n1)
      | (refine qafl (L := entryLay) (by rfl) _ _ 42 (by rfl) qaji (by rfl) (HO.out.below (al (ov (al (Below.drew0_ w) _) hb4) _)).own (fun _ hk => .inl hk) (by rfl) (entSrc (kb := w.heap.size) hB HO.out (((Blk.new w.drew _ _).below hb4 (Blk.new w.drew _ _).lt).alloc _) (Nat.le_refl _) hkf.out ((Mine.base_le hm4 (by simp)).below (al (rf _) _)) (Blk.new _ _ _) hif.out haf.out) h63.out hsz.out ?_; intro v9 w9 hm9 hs9; obtain ⟨a9, c9, rfl⟩ := hm9.form (n := xs.length + 1) (by simp); have HQ := Lib.hid (OwnE.of hm9 (fun k hk => HO.out.ge k hk) (Nat.le_trans hB (al (ov (al (Below.drew0_ w) _) hb4) _).size)); have HW := Lib.hid (Below.trans (Below.mono (al (ov (al (Below.drew0_ w) _) hb4) _) hB) (Step.below hs9 (Nat.le_trans hB (al (ov (al (Below.drew0_ w) _) hb4) _).size) (fun k hk => HO.out.ge k hk))); clear hm9 hs9)
      | (refine qafl (L := entryLay) (by rfl) _ _ 42 (by rfl) qaji (by rfl) (HO.out.below (al (al (ov (Below.drew0_ w) hb4) _) _)).own (fun _ hk => .inl hk) (by rfl) (entSrc (kb := w4.heap.size) hB HO.out ((Blk.new w4 _ _).alloc _) (hb4.size) hkf.out (Mine.below hm4 (al (al (rf _) _) _)) (Blk.new1 _ _ _ _) hif.out haf.out) h63.out hsz.out ?_; intro v9 w9 hm9 hs9; obtain ⟨a9, c9, rfl⟩ := hm9.form (n := xs.length + 1) (by simp); have HQ := Lib.hid (OwnE.of hm9 (fun k hk => HO.out.ge k hk) (Nat.le_trans hB (al (al (ov (Below.drew0_ w) hb4) _) _).size)); have HW := Lib.hid (Below.trans (Below.mono (al (al (ov (Below.drew0_ w) hb4) _) _) hB) (Step.below hs9 (Nat.le_trans hB (al (al (ov (Below.drew0_ w) hb4) _) _).size) (fun k hk => HO.out.ge k hk))); clear hm9 hs9)
      | (go_simp; trace_state; fail)))
     all_goals
      go_wp2_with fail
      go_meet
      rw [hx.out]
      refine ⟨a9, c9, by simp, ?_, HW.out, trivial⟩
      simpa using HQ.out
   case rest =>
    cases d with
    | zero =>
     obtain ⟨ao2, c2, rfl, ho2, hb2, _⟩ := hcut
     have hPc := H.out.belowB hM hN hgt hb2
     have t0 := hPc.blk.cell 0
     simp at t0
     have tz := hPc.blk.lt
     have hlt : decide ((i : Int) < (W : Int)) = false := by simp; omega
     have HAll : Hid (xs ++ allF (ent adr dat) W 0 i v = xs ++ entL (ent adr dat) W i v) := rfl
     have HL : Hid (xs.length + (allF (ent adr dat) W 0 i v).length = (xs ++ entL (ent adr dat) W i v).length) := by show _ = _; rw [List.length_append]; rfl
     have HQ := Lib.hid ho2
     have HW := Lib.hid hb2
     clear ho2 hb2 hPc b0 b1 b2 b3 b4 bz B1 ih hlen
     go_wp2_with fail
     go_ret
     rw [HAll.out, HL.out]
     exact ⟨ao2, c2, by first | rfl | (rw [List.length_append]; rfl) | (simp [List.length_append]; rfl) | simp [List.length_append, Array.getD], HQ.out, HW.out⟩
    | succ d =>
    obtain ⟨ao2, c2, rfl, ho2, hb2, _⟩ := hcut
    have hPc := H.out.belowB hM hN hgt hb2
    have Bc := B1.below hb2 (hN _ _ _ He.out)
    have hBc : B ≤ wc.heap.size := Nat.le_trans hB hb2.size
    have c3 := Bc.cell 3
    simp at c3
    have cz := Bc.lt
    have t0 := hPc.blk.cell 0
    simp at t0
    have tz := hPc.blk.lt
    have hlt : (i : Int) < (W : Int) := by omega
    have hall : allF (ent adr dat) W (d + 1) i v = entL (ent adr dat) W i v ++ (allF (ent adr dat) W d (i + 1) (2 * v) ++ allF (ent adr dat) W d (i + 1) (2 * v + 1)) := rfl
    rw [hall] at hlen
    rw [← List.append_assoc, ← List.append_assoc] at hlen
    obtain ⟨ys, hys⟩ : ∃ ys, xs ++ entL (ent adr dat) W i v = ys := ⟨_, rfl⟩
    rw [hys] at ho2 hlen ⊢
    have hAll : xs ++ allF (ent adr dat) W (d + 1) i v = ys ++ allF (ent adr dat) W d (i + 1) (2 * v) ++ allF (ent adr dat) W d (i + 1) (2 * v + 1) := by rw [hall, ← hys, List.append_assoc, List.append_assoc]
    have hkL : 2 * v * 2 ^ (W - (i + 1)) = v * 2 ^ (W - i) := by
     rw [show W - i = (W - (i + 1)) + 1 by omega, Int.pow_succ, Int.mul_comm 2 v, Int.mul_assoc, Int.mul_comm 2]
    have hv2 : 2 * v < 2 ^ (i + 1) := by rw [Int.pow_succ]; omega
    have hv3 : 2 * v + 1 < 2 ^ (i + 1) := by rw [Int.pow_succ]; omega
    have hcast : (((i + 1 : Nat)) : Int) = (i : Int) + 1 := by omega
    obtain ⟨L1, hL1⟩ : ∃ L1, allF (ent adr dat) W d (i + 1) (2 * v) = L1 := ⟨_, rfl⟩
    obtain ⟨L2, hL2⟩ : ∃ L2, allF (ent adr dat) W d (i + 1) (2 * v + 1) = L2 := ⟨_, rfl⟩
    have hl1 : (ys ++ L1).length ≤ 1000000 := by rw [hL1, hL2] at hlen; simp at hlen ⊢; omega
    have I1 := ih d (by omega) (i + 1) (by omega) (2 * v) (by omega) hv2 wc hPc hBc ao2 c2 ys ho2 (by rw [hL1]; exact hl1)
    rw [hkL, hcast, hL1] at I1
    have I2 := fun (w2 : World) (hb : Below B wc w2) (ao3 : Option Addr) (c3 : Nat) (ho3 : OwnE w2 B (.slice ao3 (ys ++ L1).length c3) (ys ++ L1)) => ih d (by omega) (i + 1) (by omega) (2 * v + 1) (by omega) hv3 w2 (hPc.belowB hM hN hgt hb) (Nat.le_trans hBc hb.size) ao3 c3 (ys ++ L1) ho3 (by rw [← hL1]; exact hlen)
    rw [hL1, hL2] at hlen hAll
    have HAll := Lib.hid hAll
    clear hAll
    rw [hcast, hL2] at I2
    have hor := or_key (show i < W by omega) hW h0 hv
    rw [← hor] at I2
    have hwr : IntKind.i64.wrap ((i : Int) + 1) = (i : Int) + 1 := qadu (by omega) (by omega)
    have hwr2 : IntKind.i64.wrap ((W : Int) - 1) = (W : Int) - 1 := qadu (by omega) (by omega)
    have hwr3 : IntKind.i64.wrap ((W : Int) - 1 - (i : Int)) = (W : Int) - 1 - (i : Int) := qadu (by omega) (by omega)
    have hsh : IntKind.u64.wrap ((2 : Int) ^ (W - 1 - i)) = 2 ^ (W - 1 - i) := qaof (by omega)
    simp only [List.length_append] at I1 I2
    have J1 := Lib.hid I1
    have J2 := Lib.hid I2
    have HPc := Lib.hid hPc
    have HBc := Lib.hid Bc
    clear I1 I2 hPc Bc ih hall hys hkL hcast hL1 hL2 b0 b1 b2 b3 b4 bz B1 hor
    go_wp2_with fail
    refine J1.out.mono ?_
    rintro e w3 ⟨ao3, c3', rfl, ho3, hb3⟩
    have B3 := HBc.out.below hb3 (hN _ _ _ He.out)
    have d4 := B3.cell 4
    simp at d4
    have dz := B3.lt
    have P3 := HPc.out.belowB hM hN hgt hb3
    have u0 := P3.blk.cell 0
    simp at u0
    have uz := P3.blk.lt
    clear c3 cz t0 tz J1 B3 P3
    go_wp2_with fail
    go_region_law ((go_simp; go_at_call 129; refine (J2.out w3.drew ((hb3.mono (Nat.le_refl _)).trans (Below.mono (Below.drew0_ w3) (Nat.le_trans (Nat.le_trans hB hb2.size) hb3.size))) ao3 c3' (ho3.below (Below.drew0_ w3))).mono ?_; rintro e w4 ⟨ao4, c4', rfl, ho4, hb4⟩))
    all_goals
     go_wp2_with fail
     go_ret
     rw [HAll.out]
     refine ⟨ao4, c4', by simp [Nat.add_assoc], ?_, ?_⟩
     ·simpa [Nat.add_assoc] using ho4
     ·exact ((hb2.trans hb3).trans (Below.mono (Below.drew0_ w3) (Nat.le_trans (Nat.le_trans hB hb2.size) hb3.size))).trans hb4
end Go.Proofs.YtalejfkholifpaaGreat
namespace Go.Proofs.YtalejfkholifpaaGreat
set_option linter.all false
open Go.RowKit
attribute [local go_sem ↓] Go.wp_at_zero Go.wp_at_succ
abbrev PE := Nat → Int → Option (Int × List Int)
def qagg (width most n : Int) (E : PE) : AbsI where
 I w _ Fp b := PfxObj w Fp b width most n E
 lt := fun h k hk => by obtain ⟨M, adr, dat, _, _, _, _, _, h6⟩ := h; exact h6 k hk
 keep := fun {w w' A A' Fp b} h hs _ hb => h.step (S := fun k => ¬ Fp k) ⟨hs.os, hs.tape, hs.output, hs.size, fun k _ hk => hb k (Classical.not_not.1 hk)⟩ fun k hk hk2 => hk hk2
def noE : PE := fun _ _ => none
set_option maxRecDepth 100000 in
set_option maxHeartbeats 2000000 in
theorem qasq (width most : Int) (w : World) :
  Calls Tryz.prog 34 #[.int .i64 width, .int .i64 most] w fun e w' => ∃ gt Fp, e = .returned (.pointer (some ⟨gt, 0, none⟩)) ∧ PfxObj w' Fp gt width most 0 noE ∧ (∀ k, Fp k → w.heap.size ≤ k) ∧ Below w.heap.size w w' := by
 go_enter Tryz.func34, Tryz.ntmps34
 go_wp2_with fail
 go_ret
 refine ⟨w.heap.size + 1, fun k => k = w.heap.size ∨ k = w.heap.size + 1, rfl, ⟨fun _ => False, fun i v => if i = 0 ∧ v = 0 then some w.heap.size else none, fun _ _ => qalc, ⟨?_, ⟨?_, ?_, ?_, fun _ h => h.elim⟩, fun h => h, by simp⟩, ?_, .inr rfl, fun _ h => h.elim, ?_, ?_⟩, ?_, al (al (rf w) _) _⟩
 ·have := Blk.new (w.alloc (.cells #[.bool false, .int .i64 0, .slice none 0 0, .pointer none, .pointer none] 103)) 105 #[.int .i64 width, .int .i64 most, .int .i64 0, .pointer (some ⟨w.heap.size, 0, none⟩)]
  simpa [ptr] using this
 ·intro i v g e
  by_cases h : i = 0 ∧ v = 0
  ·rw [if_pos h] at e
   cases e
   refine ⟨⟨none, 0, 0, ?_, RdL.nil_ _ _ _, Fits.of_i64 (by decide) (by decide)⟩, fun h => h⟩
   have := (Blk.new w 103 #[.bool false, .int .i64 0, .slice none 0 0, .pointer none, .pointer none]).alloc (.cells #[.int .i64 width, .int .i64 most, .int .i64 0, .pointer (some ⟨w.heap.size, 0, none⟩)] 105)
   simpa [ptr, qalc] using this
  ·rw [if_neg h] at e; cases e
 ·intro i v j u g e1 e2
  by_cases h : i = 0 ∧ v = 0
  ·by_cases h2 : j = 0 ∧ u = 0
   ·exact ⟨h.1.trans h2.1.symm, h.2.trans h2.2.symm⟩
   ·rw [if_neg h2] at e2; cases e2
  ·rw [if_neg h] at e1; cases e1
 ·intro i v h
  simp at h
 ·intro i v
  unfold ent noE
  dsimp only
  by_cases h : i = 0 ∧ v = 0
  ·rw [if_pos h]; rfl
  ·rw [if_neg h]
 ·intro i v g e
  dsimp only at e
  by_cases h : i = 0 ∧ v = 0
  ·rw [if_pos h] at e; cases e; exact .inl rfl
  ·rw [if_neg h] at e; cases e
 ·rintro k (rfl | rfl) <;> simp <;> omega
 ·rintro k (rfl | rfl) <;> omega
theorem reps1 {w : World} {A : Nat → Prop} {ρ : qaci} {x : SV} {vs : List Value} (h : Reps w A ρ [x] vs) : ∃ v, vs = [v] ∧ RepV w A ρ x v := by
 obtain ⟨v, us, rfl, h1, h2⟩ := h.cons_inv
 cases h2.nil_inv
 exact ⟨v, rfl, h1⟩
theorem qacv {w : World} {A : Nat → Prop} {ρ : qaci} {k : IntKind} {x : Int} {xs : List SV} {vs : List Value} (h : Reps w A ρ (.int k x :: xs) vs) : ∃ us, vs = .int k x :: us ∧ Reps w A ρ xs us := by
 obtain ⟨v, us, rfl, h1, h2⟩ := h.cons_inv
 cases h1
 exact ⟨us, rfl, h2⟩
theorem qaq2 {w : World} {A : Nat → Prop} {ρ : qaci} {a : Int} {l : List Int} {v : Value} (h : RepV w A ρ (.agg (qaem a l)) v) (hf : AllFit .u64 l) : ∃ ao c, v = .agg #[.int .i64 a, .slice ao l.length c] ∧ Rd w .u64 ao l.length c l := by
 cases h with
 | agg ho hl h =>
  rename_i vs
  have hr : Reps w A ρ (qaem a l) vs := ⟨hl, h⟩
  obtain ⟨us, rfl, h2⟩ := qacv hr
  obtain ⟨v, rfl, h3⟩ := reps1 h2
  obtain ⟨ao, c, rfl, h4, _⟩ := view_rd h3 hf
  exact ⟨ao, c, rfl, h4⟩
theorem qbdy (width most : Int) (q : Nat) : SCalls Tryz.prog 34 [.int .i64 width, .int .i64 most] [] q (.ptr q 0) [(q, .abs (qagg width most 0 noE))] := by
 refine qaln (Enters.of Tryz.func34 rfl (by kernel_rfl)) (fun O w vs hO hr => ?_) (fun σ => rfl) q
 obtain ⟨us, rfl, hr1⟩ := qacv hr
 obtain ⟨us2, rfl, hr2⟩ := qacv hr1
 cases hr2.nil_inv
 refine (qasq width most w).mono ?_
 rintro e w' ⟨gt, Fp, rfl, h1, h2, h3⟩
 exact ⟨gt, Fp, rfl, h1, h2, h3⟩
theorem qbd1 (width most n : Int) (E : PE) (key k act : Int) (args : List Int) (hw : Fits .i64 width) (hkey : Fits .u64 key) (hk : Fits .i64 k) (hact : Fits .i64 act) (hf : AllFit .u64 args) (han : args.length ≤ 1000000) (hn : 0 ≤ n ∧ n ≤ 1000000) (id q : Nat) :
  SCalls Tryz.prog 122 [.ptr id 0, .int .u64 key, .int .i64 k, .agg (qaem act args)] [(id, .abs (qagg width most n E))] q (.int .i64 (qacg width most n E key k)) [(id, .abs (qagg width most (qae1 width most n E key k) (qaff width most n E key k act args)))] := by
 refine qadn (Enters.of Tryz.func122 rfl (by kernel_rfl)) (fun O Fp w b vs hI hO hd hr => ?_) (fun σ => rfl) id q
 obtain ⟨us, rfl, hr1⟩ := qacv hr
 obtain ⟨us2, rfl, hr2⟩ := qacv hr1
 obtain ⟨v, rfl, hr3⟩ := reps1 hr2
 obtain ⟨ao, c, rfl, hr4⟩ := qaq2 hr3 hf
 refine (qaxa b Fp width most n key k act ao _ c args E w hI hw hkey hk hact hr4 han hn).mono ?_
 rintro e w' ⟨rfl, Fp', h1, h2, h3⟩
 exact ⟨_, Fp', rfl, h1, h2, h3, .int⟩
theorem qa5f (width most n : Int) (E : PE) (key k : Int) (hw : Fits .i64 width) (hkey : Fits .u64 key) (hk : Fits .i64 k) (hn : -1000000 ≤ n ∧ n ≤ 1000000) (id q : Nat) :
  SCalls Tryz.prog 125 [.ptr id 0, .int .u64 key, .int .i64 k] [(id, .abs (qagg width most n E))] q (.int .i64 (qacb width E key k)) [(id, .abs (qagg width most (qadq width n E key k) (qaec width E key k)))] := by
 refine qadn (Enters.of Tryz.func125 rfl (by kernel_rfl)) (fun O Fp w b vs hI hO hd hr => ?_) (fun σ => rfl) id q
 obtain ⟨us, rfl, hr1⟩ := qacv hr
 obtain ⟨us2, rfl, hr2⟩ := qacv hr1
 cases hr2.nil_inv
 refine (qast b Fp width most n key k E w hI hw hkey hk hn).mono ?_
 rintro e w' ⟨rfl, Fp', h1, h2, h3⟩
 exact ⟨_, Fp', rfl, h1, h2, h3, .int⟩
theorem qbdz (width most n : Int) (E : PE) (id q : Nat) :
  SCalls Tryz.prog 115 [.ptr id 0] [(id, .abs (qagg width most n E))] q (.int .i64 n) [(id, .abs (qagg width most n E))] := by
 refine qadn (Enters.of Tryz.func115 rfl (by kernel_rfl)) (fun O Fp w b vs hI hO hd hr => ?_) (fun σ => rfl) id q
 cases hr.nil_inv
 have hI0 := hI
 obtain ⟨M, adr, dat, h1, _⟩ := hI
 refine (qalv b width most n M adr dat w h1).mono ?_
 rintro e w' ⟨rfl, rfl⟩
 exact ⟨_, Fp, rfl, hI0, fun k hk => .inl hk, .refl _ _, .int⟩
def findV (R : Option (Nat × Int × List Int)) : SV := .tup [.agg (qaem (fAct R) (qbcy R)), .int .i64 (fLen R), .bool R.isSome]
theorem qa5e (width most n : Int) (E : PE) (key : Int) (hw : Fits .i64 width) (hkey : Fits .u64 key) (hargs : ∀ i v x, E i v = some x → x.2.length ≤ 1000000) (id q : Nat) :
  SCalls Tryz.prog 126 [.ptr id 0, .int .u64 key] [(id, .abs (qagg width most n E))] q (findV (qadp width E key)) [(id, .abs (qagg width most n E))] := by
 refine qadn (Enters.of Tryz.func126 rfl (by kernel_rfl)) (fun O Fp w b vs hI hO hd hr => ?_) (fun σ => rfl) id q
 obtain ⟨us, rfl, hr1⟩ := qacv hr
 cases hr1.nil_inv
 refine (qass b Fp width most n key E w hI hw hkey hargs).mono ?_
 rintro e w' ⟨ao, c, rfl, h1, h2, h3⟩
 have hlt := (qagg width most n E).lt hI
 refine ⟨_, Fp, rfl, PfxObj.below hI h3, fun k hk => .inl hk, .of h3, .tup rfl ?_⟩
 have hv : RepV w' (fun k => O k ∨ Fp k) noPl (nums .u64 (qbcy (qadp width E key))) (.slice ao (qbcy (qadp width E key)).length c) :=
  rd_view h1 fun a ha _ hk => by
   have := h2 a ha
   rcases hk with hk | hk
   ·have := hO _ hk; omega
   ·have := hlt _ hk; omega
 intro j x v hx hv2
 match j with
 | 0 =>
  simp at hx hv2; subst hx hv2
  refine .agg (vs := [_, _]) (by simp [Value.oneCell']) rfl fun j x v hx hv2 => ?_
  match j with
  | 0 => simp [qaem] at hx hv2; subst hx hv2; exact .int
  | 1 => simp [qaem] at hx hv2; subst hx hv2; exact hv
  | j + 2 => simp at hv2
 | 1 => simp at hx hv2; subst hx hv2; exact .int
 | 2 => simp at hx hv2; subst hx hv2; exact .bool
 | j + 3 => simp at hv2
end Go.Proofs.YtalejfkholifpaaGreat
namespace Go.Proofs.YtalejfkholifpaaGreat
set_option linter.all false
open Go.RowKit
attribute [local go_sem ↓] Go.wp_at_zero Go.wp_at_succ
set_option maxRecDepth 100000 in
set_option maxHeartbeats 2000000 in
theorem qaw9 (gt : Nat) (Fp : Nat → Prop) (W : Nat) (most n : Int) (E : PE) (w : World) (h : PfxObj w Fp gt (W : Int) most n E) (hW : W ≤ 64) (hargs : ∀ i v x, E i v = some x → x.2.length ≤ 1000000) (hlen : (allF E W W 0 0).length ≤ 1000000) :
  Calls Tryz.prog 123 #[.pointer (some ⟨gt, 0, none⟩)] w fun e w' => ∃ ao c, e = .returned (.slice ao (allF E W W 0 0).length c) ∧ OwnE w' w.heap.size (.slice ao (allF E W W 0 0).length c) (allF E W W 0 0) ∧ Below w.heap.size w w' := by
 obtain ⟨M, adr, dat, h1, h2, h3, h4, h5, h6⟩ := h
 have hE : ent adr dat = E := by funext i v; exact h2 i v
 have I := qasp gt W w.heap.size most n M adr dat hW (by rw [hE]; exact hargs) (fun k hk => h6 k (h4 k hk)) (fun i v g e => h6 g (h5 i v g e)) (h6 gt h3) W 0 (by omega) 0 (by omega) (by simp) w h1 (Nat.le_refl _) none 0 [] (OwnE.nil _ _) (by rw [hE]; simpa using hlen)
 rw [hE] at I
 have e0 : (0 : Int) * 2 ^ (W - 0) = 0 := by simp
 rw [e0] at I
 simp only [List.nil_append, List.length_nil] at I
 have HI := Lib.hid I
 have g3 := h1.blk.cell 3
 simp at g3
 have gz := h1.blk.lt
 clear I h1 h2 h3 h4 h5 h6 hE e0
 generalize allF E W W 0 0 = L at *
 generalize ptr (adr 0 0) = R at *
 go_enter Tryz.func123, Tryz.ntmps123
 go_wp2_with fail
 refine HI.out.mono ?_
 rintro e w' ⟨ao, c, rfl, ho, hb⟩
 go_wp2_with fail
 go_ret
 exact ⟨ao, c, rfl, ho, hb⟩
theorem qal6 : LayP entryLay qaay :=
 qagj (fun e : Entry => (e.keys, e.masks, e.len, e.prio, e.act, e.args)) (qace (qads (qacn .u64)) (qace (qads (qacn .u64)) (qace (qacn .i64) (qace (qacn .i64) (qace (qacn .i64) (qads (qacn .u64)))))))
theorem OwnE.mineB {w : World} {B : Nat} {v : Value} {xs : List Entry} (h : OwnE w B v xs) : MineL entryLay (fun k => v.ownBlock = some k ∨ k < B) w B 38 v xs := by
 obtain ⟨⟨cs, ⟨hl, ho⟩, hr⟩, hge⟩ := h
 refine ⟨cs, ⟨hl, ?_⟩, hr⟩
 rcases ho with h0 | ⟨g, cap, cur, rfl, hg, rest⟩
 ·exact .inl h0
 ·exact .inr ⟨g, cap, cur, rfl, hge g rfl, rest⟩
theorem OwnE.view {w : World} {B : Nat} {v : Value} {xs : List Entry} (h : OwnE w B v xs) {A : Nat → Prop} {ρ : qaci} (hA : ∀ k, A k → k < B) : RepV w A ρ (ents xs) v := by
 obtain ⟨ao, c, rfl, hr, hb⟩ := h.mineB.rd (A' := fun k => k < B) (fun k hk _ => .inr hk) (fun k h1 _ h2 => Nat.not_lt_of_le h1 h2)
 exact (qaf0 qal6 hr).weaken fun k hk _ => hA k hk
theorem qbd0 (W : Nat) (most n : Int) (E : PE) (hW : W ≤ 64) (hargs : ∀ i v x, E i v = some x → x.2.length ≤ 1000000) (hlen : (allF E W W 0 0).length ≤ 1000000) (id q : Nat) :
  SCalls Tryz.prog 123 [.ptr id 0] [(id, .abs (qagg (W : Int) most n E))] q (ents (allF E W W 0 0)) [(id, .abs (qagg (W : Int) most n E))] := by
 refine qadn (Enters.of Tryz.func123 rfl (by kernel_rfl)) (fun O Fp w b vs hI hO hd hr => ?_) (fun σ => rfl) id q
 cases hr.nil_inv
 refine (qaw9 b Fp W most n E w hI hW hargs hlen).mono ?_
 rintro e w' ⟨ao, c, rfl, ho, hb⟩
 have hlt := (qagg (W : Int) most n E).lt hI
 exact ⟨_, Fp, rfl, PfxObj.below hI hb, fun k hk => .inl hk, .of hb, ho.view fun k hk => hk.elim (hO k) (hlt k)⟩
end Go.Proofs.YtalejfkholifpaaGreat
namespace Go.Proofs.YtalejfkholifpaaGreat
set_option linter.all false
open Go.RowKit
attribute [local go_sem ↓] Go.wp_at_zero Go.wp_at_succ
def Pfx0 (w : World) (gt gr : Nat) (width most : Int) : Prop := Blk w gt 105 #[.int .i64 width, .int .i64 most, .int .i64 0, .pointer (some ⟨gr, 0, none⟩)] ∧ Blk w gr 103 #[.bool false, .int .i64 0, .slice none 0 0, .pointer none, .pointer none]
def adr0 (gr : Nat) (i : Nat) (v : Int) : Option Nat := if i = 0 ∧ v = 0 then some gr else none
theorem Pfx0.pfx {w : World} {gt gr : Nat} {width most : Int} (h : Pfx0 w gt gr width most) : Pfx w gt width most 0 (fun _ => False) (adr0 gr) (fun _ _ => qalc) := by
 refine ⟨h.1, ⟨?_, ?_, ?_, fun _ h => h.elim⟩, fun h => h, by simp [adr0]⟩
 ·intro i v g e
  unfold adr0 at e
  by_cases h0 : i = 0 ∧ v = 0
  ·rw [if_pos h0] at e
   cases e
   refine ⟨⟨none, 0, 0, ?_, RdL.nil_ _ _ _, Fits.of_i64 (by decide) (by decide)⟩, fun h => h⟩
   have := h.2
   simpa [ptr, qalc, adr0] using this
  ·rw [if_neg h0] at e; cases e
 ·intro i v j u g e1 e2
  unfold adr0 at e1 e2
  by_cases h : i = 0 ∧ v = 0
  ·by_cases h2 : j = 0 ∧ u = 0
   ·exact ⟨h.1.trans h2.1.symm, h.2.trans h2.2.symm⟩
   ·rw [if_neg h2] at e2; cases e2
  ·rw [if_neg h] at e1; cases e1
 ·intro i v h
  simp [adr0] at h
theorem Pfx0.below {w w' : World} {gt gr : Nat} {width most : Int} (h : Pfx0 w gt gr width most) (hb : Below w.heap.size w w') : Pfx0 w' gt gr width most := ⟨h.1.below hb h.1.lt, h.2.below hb h.2.lt⟩
def qalx (width most : Int) : AbsI where
 I w _ Fp b := ∃ gr, Pfx0 w b gr width most ∧ ∀ k, Fp k ↔ k = b ∨ k = gr
 lt := fun h k hk => by
  obtain ⟨gr, h1, h2⟩ := h
  rcases (h2 k).1 hk with rfl | rfl
  ·exact h1.1.lt
  ·exact h1.2.lt
 keep := fun {w w' A A' Fp b} h _ _ hb => by
  obtain ⟨gr, h1, h2⟩ := h
  exact ⟨gr, ⟨(hb _ ((h2 _).2 (.inl rfl))).trans h1.1, (hb _ ((h2 _).2 (.inr rfl))).trans h1.2⟩, h2⟩
theorem qbbp {width key k : Int} (hw : ¬ (1 ≤ width ∧ width ≤ 64)) : qae5 width key k = false := by
 unfold qae5; rw [decide_eq_false_iff_not]; omega
set_option maxRecDepth 100000 in
set_option maxHeartbeats 2000000 in
theorem qasr (width most : Int) (w : World) :
  Calls Tryz.prog 34 #[.int .i64 width, .int .i64 most] w fun e w' => e = .returned (.pointer (some ⟨w.heap.size + 1, 0, none⟩)) ∧ Pfx0 w' (w.heap.size + 1) w.heap.size width most ∧ Below w.heap.size w w' := by
 go_enter Tryz.func34, Tryz.ntmps34
 go_wp2_with fail
 go_ret
 refine ⟨rfl, ⟨?_, ?_⟩, al (al (rf w) _) _⟩
 ·have := Blk.new (w.alloc (.cells #[.bool false, .int .i64 0, .slice none 0 0, .pointer none, .pointer none] 103)) 105 #[.int .i64 width, .int .i64 most, .int .i64 0, .pointer (some ⟨w.heap.size, 0, none⟩)]
  simpa using this
 ·exact (Blk.new w 103 #[.bool false, .int .i64 0, .slice none 0 0, .pointer none, .pointer none]).alloc (.cells #[.int .i64 width, .int .i64 most, .int .i64 0, .pointer (some ⟨w.heap.size, 0, none⟩)] 105)
set_option maxRecDepth 100000 in
set_option maxHeartbeats 2000000 in
theorem qasw (gt gr : Nat) (width most key k act : Int) (ao : Option Addr) (an ac : Nat) (w : World) (h : Pfx0 w gt gr width most) (hu : ¬ (1 ≤ width ∧ width ≤ 64)) (hw : Fits .i64 width) (hkey : Fits .u64 key) (hk : Fits .i64 k) :
  Calls Tryz.prog 122 #[.pointer (some ⟨gt, 0, none⟩), .int .u64 key, .int .i64 k, .agg #[.int .i64 act, .slice ao an ac]] w fun e w' => e = .returned (.int .i64 6) ∧ Below w.heap.size w w' := by
 have hal := al (rf w) (.cells #[.int .i64 act, .slice ao an ac] 46)
 have H1 := Lib.hid (h.pfx.below hal)
 have HF := Lib.hid (qbbp (key := key) (k := k) hu)
 clear h hu
 go_enter Tryz.func122, Tryz.ntmps122
 go_wp2_with fail
 refine (qacj _ _ _ _ _ _ _ _ _ _ H1.out hw hk hkey).mono ?_
 rintro e w' ⟨rfl, rfl⟩
 rw [HF.out]
 go_wp2_with fail
 go_ret
 exact ⟨rfl, hal⟩
set_option maxRecDepth 100000 in
set_option maxHeartbeats 2000000 in
theorem qasu (gt gr : Nat) (width most key k act : Int) (ao : Option Addr) (an ac : Nat) (w : World) (h : Pfx0 w gt gr width most) (hu : ¬ (1 ≤ width ∧ width ≤ 64)) (hw : Fits .i64 width) (hkey : Fits .u64 key) (hk : Fits .i64 k) :
  Calls Tryz.prog 124 #[.pointer (some ⟨gt, 0, none⟩), .int .u64 key, .int .i64 k, .agg #[.int .i64 act, .slice ao an ac]] w fun e w' => e = .returned (.int .i64 6) ∧ Below w.heap.size w w' := by
 have hal := al (rf w) (.cells #[.int .i64 act, .slice ao an ac] 46)
 have H1 := Lib.hid (h.pfx.below hal)
 have HF := Lib.hid (qbbp (key := key) (k := k) hu)
 clear h hu
 go_enter Tryz.func124, Tryz.ntmps124
 go_wp2_with fail
 refine (qacj _ _ _ _ _ _ _ _ _ _ H1.out hw hk hkey).mono ?_
 rintro e w' ⟨rfl, rfl⟩
 rw [HF.out]
 go_wp2_with fail
 go_ret
 exact ⟨rfl, hal⟩
set_option maxRecDepth 100000 in
set_option maxHeartbeats 2000000 in
theorem qaow (gt gr : Nat) (width most key k : Int) (w : World) (h : Pfx0 w gt gr width most) (hu : ¬ (1 ≤ width ∧ width ≤ 64)) (hw : Fits .i64 width) (hkey : Fits .u64 key) (hk : Fits .i64 k) :
  Calls Tryz.prog 125 #[.pointer (some ⟨gt, 0, none⟩), .int .u64 key, .int .i64 k] w fun e w' => e = .returned (.int .i64 6) ∧ Below w.heap.size w w' := by
 have H1 := Lib.hid h.pfx
 have HF := Lib.hid (qbbp (key := key) (k := k) hu)
 clear h hu
 go_enter Tryz.func125, Tryz.ntmps125
 go_wp2_with fail
 refine (qacj _ _ _ _ _ _ _ _ _ _ H1.out hw hk hkey).mono ?_
 rintro e w' ⟨rfl, rfl⟩
 rw [HF.out]
 go_wp2_with fail
 go_ret
 exact ⟨rfl, Below.refl _ _⟩
set_option maxRecDepth 100000 in
set_option maxHeartbeats 2000000 in
theorem qaov (gt gr : Nat) (width most key : Int) (w : World) (h : Pfx0 w gt gr width most) (hu : ¬ (1 ≤ width ∧ width ≤ 64)) (hw : Fits .i64 width) (hkey : Fits .u64 key) :
  Calls Tryz.prog 126 #[.pointer (some ⟨gt, 0, none⟩), .int .u64 key] w fun e w' => e = .returned (.tuple #[.agg #[.int .i64 0, .slice none 0 0], .int .i64 0, .bool false]) ∧ Below w.heap.size w w' := by
 have hal := al (rf w) (.cells #[.int .i64 0, .slice none 0 0] 46)
 have hz0 := Blk.new w 46 #[.int .i64 0, .slice none 0 0]
 have h0 := h.1.cell 0
 simp at h0
 have hz := h.1.lt
 have H1 := Lib.hid (h.pfx.below hal)
 have HF := Lib.hid (qbbp (key := key) (k := width) hu)
 clear h hu
 go_enter Tryz.func126, Tryz.ntmps126
 go_wp2_with fail
 refine (qacj _ _ _ _ _ _ _ _ _ _ H1.out hw hw hkey).mono ?_
 rintro e w' ⟨rfl, rfl⟩
 rw [HF.out]
 go_wp2_with fail
 exact bodyPost_ret (v := .tuple #[.agg #[.int .i64 0, .slice none 0 0], .int .i64 0, .bool false]) (by simp [results, Tryz.results126, go_sem]) rfl ⟨rfl, hal⟩
set_option maxRecDepth 100000 in
set_option maxHeartbeats 2000000 in
theorem qagr (gt : Nat) (key n : Int) (v : Value) (w : World) :
  Calls Tryz.prog 129 #[.pointer (some ⟨gt, 0, none⟩), .pointer none, .int .u64 key, .int .i64 n, v] w fun e w' => e = .returned v ∧ w = w' := by
 go_enter Tryz.func129, Tryz.ntmps129
 go_wp2_with fail
 go_ret
 exact ⟨rfl, rfl⟩
set_option maxRecDepth 100000 in
set_option maxHeartbeats 2000000 in
theorem qaot (gt gr : Nat) (width most : Int) (w : World) (h : Pfx0 w gt gr width most) (hu : ¬ (1 ≤ width ∧ width ≤ 64)) (hw : Fits .i64 width) :
  Calls Tryz.prog 129 #[.pointer (some ⟨gt, 0, none⟩), .pointer (some ⟨gr, 0, none⟩), .int .u64 0, .int .i64 0, .slice none 0 0] w fun e w' => e = .returned (.slice none 0 0) ∧ Below w.heap.size w w' := by
 have H := Lib.hid h
 have t0 := h.1.cell 0
 have t1 := h.2.cell 0
 have t2 := h.2.cell 3
 have t3 := h.2.cell 4
 simp at t0 t1 t2 t3
 have z0 := h.1.lt
 have z1 := h.2.lt
 have hwi := hw.i64
 clear h
 by_cases hp : 0 < width
 ·have hl : decide ((0 : Int) < width) = true := decide_eq_true hp
  obtain ⟨N, rfl⟩ : ∃ N : Nat, width = (N : Int) + 1 := ⟨(width - 1).toNat, by omega⟩
  have hwr2 : IntKind.i64.wrap ((N : Int) + 1 - 1) = N := by rw [Int.add_sub_cancel]; exact qadu (by omega) (by omega)
  have hwr3 : IntKind.i64.wrap ((N : Int) - 0) = N := by rw [Int.sub_zero]; exact qadu (by omega) (by omega)
  have hwr4 : IntKind.i64.wrap (N : Int) = N := qadu (by omega) (by omega)
  go_enter Tryz.func129, Tryz.ntmps129
  go_wp2_with fail
  refine (qagr _ _ _ _ _).mono ?_
  rintro e w' ⟨rfl, rfl⟩
  go_wp2_with fail
  go_region_law ((go_simp; go_at_call 129; refine (qagr _ _ _ _ _).mono ?_; rintro e w4 ⟨rfl, rfl⟩))
  all_goals
   go_wp2_with fail
   go_ret
   exact ⟨rfl, Below.drew0_ w⟩
 ·have hl : decide ((0 : Int) < width) = false := decide_eq_false hp
  go_enter Tryz.func129, Tryz.ntmps129
  go_wp2_with fail
  go_ret
  exact ⟨rfl, by first | exact Below.refl _ _ | go_grown⟩
set_option maxRecDepth 100000 in
set_option maxHeartbeats 2000000 in
theorem qasv (gt gr : Nat) (width most : Int) (w : World) (h : Pfx0 w gt gr width most) (hu : ¬ (1 ≤ width ∧ width ≤ 64)) (hw : Fits .i64 width) :
  Calls Tryz.prog 123 #[.pointer (some ⟨gt, 0, none⟩)] w fun e w' => e = .returned (.slice none 0 0) ∧ Below w.heap.size w w' := by
 have H := Lib.hid h
 have g3 := h.1.cell 3
 simp at g3
 have gz := h.1.lt
 clear h
 go_enter Tryz.func123, Tryz.ntmps123
 go_wp2_with fail
 refine (qaot gt gr width most _ H.out hu hw).mono ?_
 rintro e w' ⟨rfl, hb⟩
 go_wp2_with fail
 go_ret
 exact ⟨rfl, hb⟩
end Go.Proofs.YtalejfkholifpaaGreat
namespace Go.Proofs.YtalejfkholifpaaGreat
set_option linter.all false
open Go.RowKit
def okWd (width : Int) : Prop := 1 ≤ width ∧ width ≤ 64
instance (width : Int) : Decidable (okWd width) := by unfold okWd; infer_instance
def pT (width most n : Int) (E : PE) : AbsI := if okWd width then qagg width most n E else qalx width most
theorem qajc {width most n : Int} {E : PE} (h : okWd width) : pT width most n E = qagg width most n E := if_pos h
theorem qa4q {width most n : Int} {E : PE} (h : ¬ okWd width) : pT width most n E = qalx width most := if_neg h
theorem newT_s (width most : Int) (q : Nat) : SCalls Tryz.prog 34 [.int .i64 width, .int .i64 most] [] q (.ptr q 0) [(q, .abs (pT width most 0 noE))] := by
 by_cases hw : okWd width
 ·rw [qajc hw]; exact qbdy width most q
 ·rw [qa4q hw]
  refine qaln (Enters.of Tryz.func34 rfl (by kernel_rfl)) (fun O w vs hO hr => ?_) (fun σ => rfl) q
  obtain ⟨us, rfl, hr1⟩ := qacv hr
  obtain ⟨us2, rfl, hr2⟩ := qacv hr1
  cases hr2.nil_inv
  refine (qasr width most w).mono ?_
  rintro e w' ⟨rfl, h1, h2⟩
  refine ⟨_, fun k => k = w.heap.size + 1 ∨ k = w.heap.size, rfl, ⟨_, h1, fun k => Iff.rfl⟩, ?_, h2⟩
  rintro k (rfl | rfl) <;> omega
theorem qase {f : FuncId} {args : List SV} {width most : Int} {r : SV} (he : Enters Tryz.prog f)
  (h : ∀ (O : Nat → Prop) (gr : Nat) (w : World) (b : Nat) (vs : List Value), Pfx0 w b gr width most → (∀ k, O k → k < w.heap.size) → Reps w O noPl args vs → Calls Tryz.prog f (.pointer (some ⟨b, 0, none⟩) :: vs).toArray w fun e w' => ∃ v, e = .returned v ∧ Below w.heap.size w w' ∧ RepV w' O noPl r v)
  (ha : ∀ σ, args.map (ren σ) = args) (id q : Nat) : SCalls Tryz.prog f (.ptr id 0 :: args) [(id, .abs (qalx width most))] q r [(id, .abs (qalx width most))] := by
 refine qadn he (fun O Fp w b vs hI hO hd hr => ?_) ha id q
 have hlt := (qalx width most).lt hI
 obtain ⟨gr, h1, h2⟩ := hI
 refine (h (fun k => O k ∨ Fp k) gr w b vs h1 (fun k hk => hk.elim (hO k) (hlt k)) hr).mono ?_
 rintro e w' ⟨v, rfl, hb, hv⟩
 exact ⟨v, Fp, rfl, ⟨gr, h1.below hb, h2⟩, fun k hk => .inl hk, .of hb, hv⟩
theorem addT_s (width most n : Int) (E : PE) (key k act : Int) (args : List Int) (hw : Fits .i64 width) (hkey : Fits .u64 key) (hk : Fits .i64 k) (hact : Fits .i64 act) (hf : AllFit .u64 args) (han : args.length ≤ 1000000) (hn : 0 ≤ n ∧ n ≤ 1000000) (id q : Nat) :
  SCalls Tryz.prog 122 [.ptr id 0, .int .u64 key, .int .i64 k, .agg (qaem act args)] [(id, .abs (pT width most n E))] q (.int .i64 (qacg width most n E key k)) [(id, .abs (pT width most (qae1 width most n E key k) (qaff width most n E key k act args)))] := by
 by_cases hu : okWd width
 ·rw [qajc hu, qajc hu]; exact qbd1 width most n E key k act args hw hkey hk hact hf han hn id q
 ·rw [qa4q hu, qa4q hu]
  have hc : qacg width most n E key k = 6 := by unfold qacg; rw [if_pos (qbbp hu)]
  rw [hc]
  refine qase (Enters.of Tryz.func122 rfl (by kernel_rfl)) (fun O gr w b vs h1 hO hr => ?_) (fun σ => rfl) id q
  obtain ⟨us, rfl, hr1⟩ := qacv hr
  obtain ⟨us2, rfl, hr2⟩ := qacv hr1
  obtain ⟨v, rfl, hr3⟩ := reps1 hr2
  obtain ⟨ao, c, rfl, hr4⟩ := qaq2 hr3 hf
  refine (qasw b gr width most key k act ao _ c w h1 hu hw hkey hk).mono ?_
  rintro e w' ⟨rfl, hb⟩
  exact ⟨_, rfl, hb, .int⟩
theorem chgT_s (width most n : Int) (E : PE) (key k act : Int) (args : List Int) (hw : Fits .i64 width) (hkey : Fits .u64 key) (hk : Fits .i64 k) (hact : Fits .i64 act) (hf : AllFit .u64 args) (han : args.length ≤ 1000000) (id q : Nat) :
  SCalls Tryz.prog 124 [.ptr id 0, .int .u64 key, .int .i64 k, .agg (qaem act args)] [(id, .abs (pT width most n E))] q (.int .i64 (qac5 width E key k)) [(id, .abs (pT width most n (qahp width E key k act args)))] := by
 by_cases hu : okWd width
 ·rw [qajc hu, qajc hu]
  refine qadn (Enters.of Tryz.func124 rfl (by kernel_rfl)) (fun O Fp w b vs hI hO hd hr => ?_) (fun σ => rfl) id q
  obtain ⟨us, rfl, hr1⟩ := qacv hr
  obtain ⟨us2, rfl, hr2⟩ := qacv hr1
  obtain ⟨v, rfl, hr3⟩ := reps1 hr2
  obtain ⟨ao, c, rfl, hr4⟩ := qaq2 hr3 hf
  refine (qaw8 b Fp width most n key k act ao _ c args E w hI hw hkey hk hact hr4 han).mono ?_
  rintro e w' ⟨rfl, Fp', h1, h2, h3⟩
  exact ⟨_, Fp', rfl, h1, h2, h3, .int⟩
 ·rw [qa4q hu, qa4q hu]
  have hc : qac5 width E key k = 6 := by unfold qac5; rw [if_pos (qbbp hu)]
  rw [hc]
  refine qase (Enters.of Tryz.func124 rfl (by kernel_rfl)) (fun O gr w b vs h1 hO hr => ?_) (fun σ => rfl) id q
  obtain ⟨us, rfl, hr1⟩ := qacv hr
  obtain ⟨us2, rfl, hr2⟩ := qacv hr1
  obtain ⟨v, rfl, hr3⟩ := reps1 hr2
  obtain ⟨ao, c, rfl, hr4⟩ := qaq2 hr3 hf
  refine (qasu b gr width most key k act ao _ c w h1 hu hw hkey hk).mono ?_
  rintro e w' ⟨rfl, hb⟩
  exact ⟨_, rfl, hb, .int⟩
theorem dropT_s (width most n : Int) (E : PE) (key k : Int) (hw : Fits .i64 width) (hkey : Fits .u64 key) (hk : Fits .i64 k) (hn : -1000000 ≤ n ∧ n ≤ 1000000) (id q : Nat) :
  SCalls Tryz.prog 125 [.ptr id 0, .int .u64 key, .int .i64 k] [(id, .abs (pT width most n E))] q (.int .i64 (qacb width E key k)) [(id, .abs (pT width most (qadq width n E key k) (qaec width E key k)))] := by
 by_cases hu : okWd width
 ·rw [qajc hu, qajc hu]; exact qa5f width most n E key k hw hkey hk hn id q
 ·rw [qa4q hu, qa4q hu]
  have hc : qacb width E key k = 6 := by unfold qacb; rw [if_pos (qbbp hu)]
  rw [hc]
  refine qase (Enters.of Tryz.func125 rfl (by kernel_rfl)) (fun O gr w b vs h1 hO hr => ?_) (fun σ => rfl) id q
  obtain ⟨us, rfl, hr1⟩ := qacv hr
  obtain ⟨us2, rfl, hr2⟩ := qacv hr1
  cases hr2.nil_inv
  refine (qaow b gr width most key k w h1 hu hw hkey hk).mono ?_
  rintro e w' ⟨rfl, hb⟩
  exact ⟨_, rfl, hb, .int⟩
theorem lenT_s (width most n : Int) (E : PE) (h0 : ¬ okWd width → n = 0) (id q : Nat) : SCalls Tryz.prog 115 [.ptr id 0] [(id, .abs (pT width most n E))] q (.int .i64 n) [(id, .abs (pT width most n E))] := by
 by_cases hu : okWd width
 ·rw [qajc hu]; exact qbdz width most n E id q
 ·rw [qa4q hu, h0 hu]
  refine qase (Enters.of Tryz.func115 rfl (by kernel_rfl)) (fun O gr w b vs h1 hO hr => ?_) (fun σ => rfl) id q
  cases hr.nil_inv
  refine (qalv b width most 0 _ _ _ w h1.pfx).mono ?_
  rintro e w' ⟨rfl, rfl⟩
  exact ⟨_, rfl, Below.refl _ _, .int⟩
theorem findT_s (width most n : Int) (E : PE) (key : Int) (hw : Fits .i64 width) (hkey : Fits .u64 key) (hargs : ∀ i v x, E i v = some x → x.2.length ≤ 1000000) (id q : Nat) :
  SCalls Tryz.prog 126 [.ptr id 0, .int .u64 key] [(id, .abs (pT width most n E))] q (findV (qadp width E key)) [(id, .abs (pT width most n E))] := by
 by_cases hu : okWd width
 ·rw [qajc hu]; exact qa5e width most n E key hw hkey hargs id q
 ·rw [qa4q hu]
  have hc : qadp width E key = none := by unfold qadp; rw [qbbp hu]; rfl
  rw [hc]
  refine qase (Enters.of Tryz.func126 rfl (by kernel_rfl)) (fun O gr w b vs h1 hO hr => ?_) (fun σ => rfl) id q
  obtain ⟨us, rfl, hr1⟩ := qacv hr
  cases hr1.nil_inv
  refine (qaov b gr width most key w h1 hu hw hkey).mono ?_
  rintro e w' ⟨rfl, hb⟩
  refine ⟨_, rfl, hb, .tup rfl ?_⟩
  intro j x v hx hv2
  match j with
  | 0 =>
   simp at hx hv2; subst hx hv2
   refine .agg (vs := [_, _]) (by simp [Value.oneCell']) rfl fun j x v hx hv2 => ?_
   match j with
   | 0 => simp [qaem, fAct] at hx hv2; subst hx hv2; exact .int
   | 1 => simp [qaem, qbcy, nums] at hx hv2; subst hx hv2; exact .view0 (by simp [maxLen]) (fun _ => rfl)
   | j + 2 => simp at hv2
  | 1 => simp [fLen] at hx hv2; subst hx hv2; exact .int
  | 2 => simp at hx hv2; subst hx hv2; exact .bool
  | j + 3 => simp at hv2
def allT (width : Int) (E : PE) : List Entry := if okWd width then allF E width.toNat width.toNat 0 0 else []
theorem allT_s (width most n : Int) (E : PE) (hw : Fits .i64 width) (hargs : ∀ i v x, E i v = some x → x.2.length ≤ 1000000) (hlen : (allT width E).length ≤ 1000000) (id q : Nat) :
  SCalls Tryz.prog 123 [.ptr id 0] [(id, .abs (pT width most n E))] q (ents (allT width E)) [(id, .abs (pT width most n E))] := by
 by_cases hu : okWd width
 ·have e : allT width E = allF E width.toNat width.toNat 0 0 := if_pos hu
  rw [qajc hu, e]
  rw [e] at hlen
  obtain ⟨W, rfl⟩ : ∃ W : Nat, width = W := ⟨width.toNat, by have := hu.1; omega⟩
  have h2 := hu.2
  simp only [Int.toNat_natCast] at hlen ⊢
  exact qbd0 W most n E (by omega) hargs hlen id q
 ·have e : allT width E = [] := if_neg hu
  rw [qa4q hu, e]
  refine qase (Enters.of Tryz.func123 rfl (by kernel_rfl)) (fun O gr w b vs h1 hO hr => ?_) (fun σ => rfl) id q
  cases hr.nil_inv
  refine (qasv b gr width most w h1 hu hw).mono ?_
  rintro e w' ⟨rfl, hb⟩
  exact ⟨_, rfl, hb, .view0 (by simp [maxLen]) (fun _ => rfl)⟩
end Go.Proofs.YtalejfkholifpaaGreat
namespace Go.Proofs.YtalejfkholifpaaGreat
set_option linter.all false
open Go.RowKit
def ce (W i : Nat) (v : Int) (x : Int × List Int) : Entry := ⟨[v * 2 ^ (W - i)], [], i, 0, x.1, x.2⟩
theorem qao1 {E : Nat → Int → Option (Int × List Int)} {W i : Nat} {v : Int} {e : Entry} : e ∈ entL E W i v ↔ ∃ x, E i v = some x ∧ e = ce W i v x := by
 unfold entL ce
 cases E i v <;> simp
theorem qayf (u : Int) (a : Nat) : u / 2 ^ (a + 1) = u / 2 ^ a / 2 := by
 have hp : (0 : Int) ≤ 2 ^ a := Int.pow_nonneg (by decide)
 rw [Int.pow_succ]
 first | exact (Int.ediv_ediv_of_nonneg hp).symm | exact (Int.ediv_ediv hp).symm | exact (Int.ediv_ediv_eq_ediv_mul _ hp).symm
theorem qaha {E : Nat → Int → Option (Int × List Int)} {W : Nat} : ∀ (d i : Nat) (v : Int) (e : Entry), e ∈ allF E W d i v ↔ ∃ (j : Nat) (u : Int) (x : Int × List Int), i ≤ j ∧ j ≤ i + d ∧ u / 2 ^ (j - i) = v ∧ E j u = some x ∧ e = ce W j u x := by
 intro d
 induction d with
 | zero =>
  intro i v e
  rw [show allF E W 0 i v = entL E W i v from rfl, qao1]
  constructor
  ·rintro ⟨x, h1, h2⟩
   exact ⟨i, v, x, Nat.le_refl _, Nat.le_refl _, by simp, h1, h2⟩
  ·rintro ⟨j, u, x, h1, h2, h3, h4, h5⟩
   obtain rfl : j = i := by omega
   simp at h3
   subst h3
   exact ⟨x, h4, h5⟩
 | succ d ih =>
  intro i v e
  rw [show allF E W (d + 1) i v = entL E W i v ++ (allF E W d (i + 1) (2 * v) ++ allF E W d (i + 1) (2 * v + 1)) from rfl, List.mem_append, List.mem_append, qao1, ih, ih]
  have key : ∀ (j : Nat) (u : Int), i + 1 ≤ j → u / 2 ^ (j - i) = u / 2 ^ (j - (i + 1)) / 2 := fun j u hj => by
   rw [← qayf, show j - (i + 1) + 1 = j - i by omega]
  constructor
  ·rintro (⟨x, h1, h2⟩ | ⟨j, u, x, h1, h2, h3, h4, h5⟩ | ⟨j, u, x, h1, h2, h3, h4, h5⟩)
   ·exact ⟨i, v, x, Nat.le_refl _, by omega, by simp, h1, h2⟩
   ·exact ⟨j, u, x, by omega, by omega, by rw [key j u h1, h3]; omega, h4, h5⟩
   ·exact ⟨j, u, x, by omega, by omega, by rw [key j u h1, h3]; omega, h4, h5⟩
  ·rintro ⟨j, u, x, h1, h2, h3, h4, h5⟩
   by_cases hj : j = i
   ·subst hj
    simp at h3
    subst h3
    exact .inl ⟨x, h4, h5⟩
   ·rw [key j u (by omega)] at h3
    generalize hc : u / 2 ^ (j - (i + 1)) = c at h3
    rcases (show c = 2 * v ∨ c = 2 * v + 1 by omega) with e | e
    ·exact .inr (.inl ⟨j, u, x, by omega, by omega, by rw [hc, e], h4, h5⟩)
    ·exact .inr (.inr ⟨j, u, x, by omega, by omega, by rw [hc, e], h4, h5⟩)
theorem qapm (E : Nat → Int → Option (Int × List Int)) (W i : Nat) (v : Int) : (entL E W i v).length = (E i v).toList.length := by
 unfold entL
 cases E i v <;> rfl
def qalb (d i : Nat) (v : Int) (j : Nat) (u : Int) : Prop := i ≤ j ∧ j ≤ i + d ∧ u / 2 ^ (j - i) = v
instance (d i : Nat) (v : Int) (j : Nat) (u : Int) : Decidable (qalb d i v j u) := by unfold qalb; infer_instance
theorem qao7 (E : Nat → Int → Option (Int × List Int)) (W : Nat) (j : Nat) (u : Int) (y : Option (Int × List Int)) : ∀ (d i : Nat) (v : Int),
  (allF (qadb E j u y) W d i v).length + (if qalb d i v j u then (E j u).toList.length else 0) = (allF E W d i v).length + (if qalb d i v j u then y.toList.length else 0) := by
 have here : ∀ i v, (j = i ∧ u = v) → qadb E j u y i v = y := fun i v h => by unfold qadb; rw [if_pos ⟨h.1.symm, h.2.symm⟩]
 have away : ∀ i v, ¬ (j = i ∧ u = v) → qadb E j u y i v = E i v := fun i v h => by unfold qadb; rw [if_neg fun h2 => h ⟨h2.1.symm, h2.2.symm⟩]
 intro d
 induction d with
 | zero =>
  intro i v
  rw [show ∀ E, allF E W 0 i v = entL E W i v from fun _ => rfl, show ∀ E, allF E W 0 i v = entL E W i v from fun _ => rfl, qapm, qapm]
  by_cases h : j = i ∧ u = v
  ·rw [here i v h]
   obtain ⟨rfl, rfl⟩ := h
   rw [if_pos (by unfold qalb; simp), if_pos (by unfold qalb; simp)]
   omega
  ·rw [away i v h]
   have : ¬ qalb 0 i v j u := by
    rintro ⟨h1, h2, h3⟩
    obtain rfl : j = i := by omega
    simp at h3
    exact h ⟨rfl, h3⟩
   rw [if_neg this, if_neg this]
 | succ d ih =>
  intro i v
  have A := ih (i + 1) (2 * v)
  have B := ih (i + 1) (2 * v + 1)
  rw [show ∀ E, allF E W (d + 1) i v = entL E W i v ++ (allF E W d (i + 1) (2 * v) ++ allF E W d (i + 1) (2 * v + 1)) from fun _ => rfl, show ∀ E, allF E W (d + 1) i v = entL E W i v ++ (allF E W d (i + 1) (2 * v) ++ allF E W d (i + 1) (2 * v + 1)) from fun _ => rfl]
  simp only [List.length_append, qapm]
  by_cases hj : j ≤ i
  ·have n1 : ∀ c, ¬ qalb d (i + 1) c j u := fun c h => by have := h.1; omega
   rw [if_neg (n1 _), if_neg (n1 _)] at A
   rw [if_neg (n1 _), if_neg (n1 _)] at B
   by_cases h : j = i ∧ u = v
   ·rw [here i v h]
    obtain ⟨rfl, rfl⟩ := h
    rw [if_pos (by unfold qalb; simp), if_pos (by unfold qalb; simp)]
    omega
   ·rw [away i v h]
    have : ¬ qalb (d + 1) i v j u := by
     rintro ⟨h1, h2, h3⟩
     obtain rfl : j = i := by omega
     simp at h3
     exact h ⟨rfl, h3⟩
    rw [if_neg this, if_neg this]
    omega
  ·rw [away i v (by omega)]
   have hk : u / 2 ^ (j - i) = u / 2 ^ (j - (i + 1)) / 2 := by rw [← qayf, show j - (i + 1) + 1 = j - i by omega]
   obtain ⟨c, hc⟩ : ∃ c, u / 2 ^ (j - (i + 1)) = c := ⟨_, rfl⟩
   rw [hc] at hk
   have hA : qalb d (i + 1) (2 * v) j u ↔ j ≤ i + 1 + d ∧ c = 2 * v := by unfold qalb; rw [hc]; exact ⟨fun h => ⟨h.2.1, h.2.2⟩, fun h => ⟨by omega, h.1, h.2⟩⟩
   have hB : qalb d (i + 1) (2 * v + 1) j u ↔ j ≤ i + 1 + d ∧ c = 2 * v + 1 := by unfold qalb; rw [hc]; exact ⟨fun h => ⟨h.2.1, h.2.2⟩, fun h => ⟨by omega, h.1, h.2⟩⟩
   have hG : qalb (d + 1) i v j u ↔ j ≤ i + 1 + d ∧ c / 2 = v := by unfold qalb; rw [hk]; exact ⟨fun h => ⟨by omega, h.2.2⟩, fun h => ⟨by omega, by omega, h.2⟩⟩
   simp only [hA] at A
   simp only [hB] at B
   simp only [hG]
   by_cases hd : j ≤ i + 1 + d
   ·by_cases h0 : c = 2 * v
    ·rw [if_pos ⟨hd, h0⟩, if_pos ⟨hd, h0⟩] at A
     rw [if_neg (by omega), if_neg (by omega)] at B
     rw [if_pos ⟨hd, by omega⟩, if_pos ⟨hd, by omega⟩]
     omega
    ·by_cases h1 : c = 2 * v + 1
     ·rw [if_neg (by omega), if_neg (by omega)] at A
      rw [if_pos ⟨hd, h1⟩, if_pos ⟨hd, h1⟩] at B
      rw [if_pos ⟨hd, by omega⟩, if_pos ⟨hd, by omega⟩]
      omega
     ·rw [if_neg (by omega), if_neg (by omega)] at A
      rw [if_neg (by omega), if_neg (by omega)] at B
      rw [if_neg (by omega), if_neg (by omega)]
      omega
   ·rw [if_neg (by omega), if_neg (by omega)] at A
    rw [if_neg (by omega), if_neg (by omega)] at B
    rw [if_neg (by omega), if_neg (by omega)]
    omega
end Go.Proofs.YtalejfkholifpaaGreat
namespace Go.Proofs.YtalejfkholifpaaGreat
set_option linter.all false
open Go.RowKit
structure PInv (W : Nat) (n : Int) (E : PE) : Prop where
 cnt : n = ((allF E W W 0 0).length : Int)
 ok : ∀ i v x, E i v = some x → i ≤ W ∧ 0 ≤ v ∧ v < 2 ^ i ∧ x.2.length ≤ 1000 ∧ AllFit .u64 x.2 ∧ Fits .i64 x.1
theorem PInv.none (W : Nat) : PInv W 0 noE := by
 refine ⟨?_, fun i v x h => by cases h⟩
 have : allF noE W W 0 0 = [] := by
  apply List.eq_nil_iff_forall_not_mem.2
  intro e he
  obtain ⟨j, u, x, _, _, _, h, _⟩ := (qaha W 0 0 e).1 he
  cases h
 rw [this]; rfl
theorem qaft {W j : Nat} {u : Int} (hj : j ≤ W) (h0 : 0 ≤ u) (h1 : u < 2 ^ j) : qalb W 0 0 j u := ⟨Nat.zero_le _, by omega, Int.ediv_eq_zero_of_lt h0 (by simpa using h1)⟩
theorem PInv.add {W : Nat} {n most : Int} {E : PE} (h : PInv W n E) {key k act : Int} {args : List Int} (h0 : 0 ≤ key) (ha : args.length ≤ 1000) (hf : AllFit .u64 args) (hact : Fits .i64 act) :
  PInv W (qae1 W most n E key k) (qaff W most n E key k act args) ∧ (n ≤ most → qae1 W most n E key k ≤ most) := by
 by_cases hc : qacg W most n E key k = 0
 ·obtain ⟨e1, e2⟩ := qaio hc act args
  rw [e1, e2]
  unfold qacg at hc
  split at hc
  ·cases hc
  rename_i hp
  split at hc
  ·cases hc
  rename_i hn
  split at hc
  ·cases hc
  rename_i hm
  have hp2 : qae5 W key k = true := by simpa using hp
  obtain ⟨W', K, e3, rfl, hW1, hW2, hK, hlt, _⟩ := qaek hp2
  obtain rfl : W = W' := by omega
  simp only [Int.toNat_natCast] at hn ⊢
  have hn2 : E K (pre W key K) = Option.none := by simpa using hn
  have l1 := qalu (W := W) h0 K
  have l2 := pre_lt hlt hK
  refine ⟨⟨?_, ?_⟩, fun _ => by omega⟩
  ·have := qao7 E W K (pre W key K) (some (act, args)) W 0 0
   rw [if_pos (qaft hK l1 l2), if_pos (qaft hK l1 l2), hn2] at this
   simp at this
   rw [h.cnt]; omega
  ·intro i v x hx
   unfold qadb at hx
   split at hx
   ·rename_i e
    obtain ⟨rfl, rfl⟩ := e
    cases hx
    exact ⟨hK, l1, l2, ha, hf, hact⟩
   ·exact h.ok i v x hx
 ·obtain ⟨e1, e2⟩ := qagt hc act args
  rw [e1, e2]
  exact ⟨h, fun h => h⟩
theorem PInv.drop {W : Nat} {n : Int} {E : PE} (h : PInv W n E) {key k : Int} (h0 : 0 ≤ key) :
  PInv W (qadq W n E key k) (qaec W E key k) ∧ qadq W n E key k ≤ n := by
 by_cases hc : qacb W E key k = 0
 ·obtain ⟨e1, e2⟩ := qafy (n := n) hc
  rw [e1, e2]
  unfold qacb at hc
  split at hc
  ·cases hc
  rename_i hp
  split at hc
  case isFalse => cases hc
  rename_i hn
  have hp2 : qae5 W key k = true := by simpa using hp
  obtain ⟨W', K, e3, rfl, hW1, hW2, hK, hlt, _⟩ := qaek hp2
  obtain rfl : W = W' := by omega
  simp only [Int.toNat_natCast] at hn ⊢
  obtain ⟨x, hx⟩ := Option.isSome_iff_exists.1 hn
  have l1 := qalu (W := W) h0 K
  have l2 := pre_lt hlt hK
  refine ⟨⟨?_, ?_⟩, by omega⟩
  ·have := qao7 E W K (pre W key K) Option.none W 0 0
   rw [if_pos (qaft hK l1 l2), if_pos (qaft hK l1 l2), hx] at this
   simp at this
   rw [h.cnt]; omega
  ·intro i v x hx
   unfold qadb at hx
   split at hx
   ·cases hx
   ·exact h.ok i v x hx
 ·obtain ⟨e1, e2⟩ := qags (n := n) hc
  rw [e1, e2]
  exact ⟨h, Int.le_refl _⟩
end Go.Proofs.YtalejfkholifpaaGreat
namespace Go.Proofs.YtalejfkholifpaaGreat
set_option linter.all false
open Go.RowKit
def kof (e : Entry) : Int := if e.keys = [] then 0 else el e.keys 0
structure FitE (e : Entry) : Prop where
 keys : AllFit .u64 e.keys
 args : AllFit .u64 e.args
 len : Fits .i64 e.len
 act : Fits .i64 e.act
theorem FitE.kof {e : Entry} (h : FitE e) : Fits .u64 (kof e) := by
 unfold YtalejfkholifpaaGreat.kof el
 cases hk : e.keys with
 | nil => simp; exact Fits.of_u64 (by decide) (by decide)
 | cons x xs => simp; exact h.keys x (by rw [hk]; simp)
end Go.Proofs.YtalejfkholifpaaGreat
