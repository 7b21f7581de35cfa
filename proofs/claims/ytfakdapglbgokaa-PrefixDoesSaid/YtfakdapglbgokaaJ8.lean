/-
  Texts joined: XPfxG XPfxH XEntA XPfxI XPfxJ XPfxK XTabF. No condition.
-/
import Derived.Laws.Bits64b
import Derived.Test.YtfakdapglbgokaaJ7
import Derived.Test.YtfakdapglbgokaaI6
import Derived.Test.YtfakdapglbgokaaI15
import Derived.Test.YtfakdapglbgokaaI17
/-
  Package prefix: Drop, walked. No condition.
-/
namespace Go.Proofs.Ytfakdapglbgokaa
set_option linter.all false
open Go.RowKit
attribute [local go_sem ↓] Go.wp_at_zero Go.wp_at_succ

theorem Trie.far {w : World} {M : Nat → Prop} {adr : Nat → Int → Option Nat} {dat : Nat → Int → Dat} (h : Trie w M adr dat) {gt j : Nat} (hM : ¬ M gt) (hn : ∀ i v, adr i v ≠ some gt) (u : Value) : Trie (w.setCell ⟨gt, j, none⟩ u) M adr dat :=
  h.step (Step.set (fun k => k = gt) w ⟨gt, j, none⟩ rfl u) (fun k hk => by rw [show k = gt from hk]; exact hM) (fun i v g e hg => hn i v (by rw [e, show g = gt from hg]))

set_option maxRecDepth 100000 in
set_option maxHeartbeats 4000000 in
theorem pfxDrop_any (gt : Nat) (Fp : Nat → Prop) (width most n key k : Int) (E : Nat → Int → Option (Int × List Int)) (w : World) (h : PfxObj w Fp gt width most n E) (hw : Fits .i64 width) (hkey : Fits .u64 key) (hk : Fits .i64 k) (hn : -1000000 ≤ n ∧ n ≤ 1000000) :
    Calls Try.prog 19 #[.pointer (some ⟨gt, 0, none⟩), .int .u64 key, .int .i64 k] w fun e w' => e = .returned (.int .i64 (pfxDropC width E key k)) ∧
      ∃ Fp', PfxObj w' Fp' gt width most (pfxDropN width n E key k) (pfxDropE width E key k) ∧ (∀ b, Fp' b → Fp b ∨ w.heap.size ≤ b) ∧ Step Fp w w' := by
  have HO := Lib.hid h
  obtain ⟨M, adr, dat, h1, h2, h3, h4, h5, h6⟩ := h
  have H1 := Lib.hid h1
  by_cases hf : pfits width key k = true
  case neg =>
    have hf' : pfits width key k = false := by simpa using hf
    have hc : pfxDropC width E key k = 6 := by unfold pfxDropC; rw [if_pos hf']
    obtain ⟨e1, e2⟩ := pfxDrop_no (n := n) (show pfxDropC width E key k ≠ 0 by rw [hc]; decide)
    rw [hc, e1, e2]
    have HF := Lib.hid hf'
    clear hf hf' hc e1 e2 h6 h5 h4 h3 h2 h1
    go_enter Try.func19, Try.ntmps19
    go_wp2_with fail
    refine (pfxFits_any _ _ _ _ _ _ _ _ _ _ H1.out hw hk hkey).mono ?_
    rintro e w' ⟨rfl, rfl⟩
    rw [HF.out]
    go_wp2_with fail
    go_ret
    exact ⟨rfl, Fp, HO.out, fun b hb => .inl hb, Step.refl _ _⟩
  obtain ⟨W, K, rfl, rfl, hW1, hW, hK, hlt, hmod⟩ := pfits_true hf
  have HF := Lib.hid hf
  have hE := h2 K (pre W key K)
  have hdc : pfxDropC (W : Int) E key (K : Int) = if (E K (pre W key K)).isSome then 0 else 9 := by unfold pfxDropC; rw [if_neg (by rw [hf]; decide)]; rfl
  have H2 := Lib.hid h2
  have H4 := Lib.hid h4
  have H5 := Lib.hid h5
  have H6 := Lib.hid h6
  clear h1 h2 h4 h5 h6 hf
  go_enter Try.func19, Try.ntmps19
  go_wp2_with fail
  refine (pfxFits_any _ _ _ _ _ _ _ _ _ _ H1.out hw hk hkey).mono ?_
  rintro e w' ⟨rfl, rfl⟩
  rw [HF.out]
  go_wp2_with fail
  refine (pfxAt_any gt W K key most n M adr dat _ H1.out hW hK hkey hlt).mono ?_
  rintro e w2 ⟨rfl, hb2⟩
  have HP2 := Lib.hid (H1.out.below hb2)
  have hcs : (∃ g, adr K (pre W key K) = some g ∧ (dat K (pre W key K)).there = true) ∨ (E K (pre W key K) = none ∧ (adr K (pre W key K) = none ∨ ∃ g, adr K (pre W key K) = some g ∧ (dat K (pre W key K)).there = false)) := by
    cases e : adr K (pre W key K) with
    | none => exact .inr ⟨by rw [← hE, ent_none e], .inl rfl⟩
    | some g =>
      cases t : (dat K (pre W key K)).there with
      | true => exact .inl ⟨g, rfl, rfl⟩
      | false => exact .inr ⟨by rw [← hE, ent_some e, t]; rfl, .inr ⟨g, rfl, rfl⟩⟩
  rcases hcs with ⟨g, eg, tg⟩ | ⟨hE0, hcs⟩
  case inr =>
    have hc : Hid (pfxDropC (W : Int) E key (K : Int) = 9) := by show _ = _; rw [hdc, hE0]; rfl
    have hmd : ∃ p : Value, ptr (adr K (pre W key K)) = p ∧ (p = .pointer none ∨ ∃ g, p = .pointer (some ⟨g, 0, none⟩) ∧ w2.cell? ⟨g, 0, none⟩ = some (.bool false) ∧ g < w2.heap.size) := by
      rcases hcs with e | ⟨g, e, t⟩
      · exact ⟨_, by rw [e]; rfl, .inl rfl⟩
      · obtain ⟨_, _, _, y0, _, _, _, _, _, hgz, _⟩ := HP2.out.trie.cells e
        rw [t] at y0
        exact ⟨_, by rw [e]; rfl, .inr ⟨g, rfl, y0, hgz⟩⟩
    obtain ⟨p, hp, hpc⟩ := hmd
    rw [hp]
    clear hp hcs hE0 hdc hE
    rcases hpc with rfl | ⟨g, rfl, y0, hgz⟩
    all_goals
      go_wp2_with fail
      go_ret
      obtain ⟨e1, e2⟩ := pfxDrop_no (n := n) (show pfxDropC (W : Int) E key (K : Int) ≠ 0 by rw [hc.out]; decide)
      rw [hc.out, e1, e2]
      exact ⟨rfl, Fp, HO.out.below hb2, fun b hb => .inl hb, Step.of hb2⟩
  have hc : Hid (pfxDropC (W : Int) E key (K : Int) = 0) := by show _ = _; rw [hdc, ← hE, ent_some eg, tg]; rfl
  obtain ⟨_, _, _, y0, _, _, _, _, _, hgz, _⟩ := HP2.out.trie.cells eg
  rw [tg] at y0
  have hroot : ∃ r, adr 0 0 = some r := by
    cases e : adr 0 0 with
    | none => exact absurd e H1.out.root
    | some r => exact ⟨r, rfl⟩
  obtain ⟨r, hr⟩ := hroot
  have p0 := pre_zero (W := W) hkey.u64.1 hlt
  have hPr := pfxPrune_any gt W K key most n M adr dat hW hK hkey hlt K 0 (by omega) w2 HP2.out r (by rw [p0]; exact hr) (by rw [eg]; simp)
  rw [p0, show ((0 : Nat) : Int) = 0 from rfl] at hPr
  have HPr := Lib.hid hPr
  have Bt := HP2.out.blk
  rw [hr] at Bt
  have t3 := Bt.cell 3
  simp [ptr] at t3
  have tz := Bt.lt
  have tf3 := Bt.frozen 3
  have BT := Lib.hid Bt
  rw [eg, ptr_some]
  have HR := Lib.hid hr
  have P0 := Lib.hid p0
  have hNT : Hid (∀ i v, adr i v ≠ some gt) := fun i v e => H1.out.ne e rfl
  clear hdc hE hPr Bt eg tg hr p0
  go_wp2_with fail
  refine HPr.out.mono ?_
  rintro e w3 ⟨adr', rfl, hD⟩
  have B3 : Blk w3 gt _ _ := (hD.step.block gt BT.out.lt (fun ⟨q, _, _, q3⟩ => hNT.out _ _ q3)).trans BT.out
  have hT := Lib.hid (hD.trie HP2.out.trie hK hkey.u64.1 hlt)
  have hEn := Lib.hid (fun i v => hD.ent i v)
  have hsub := Lib.hid hD.sub
  have hgone := Lib.hid (hD.gone 0 (Nat.le_refl _) (Nat.zero_le _))
  have hst : Hid (Step Fp w w3) := (Step.of hb2).trans (hD.step.mono fun b ⟨q, _, _, q3⟩ => H5.out _ _ _ q3)
  have hwr : IntKind.i64.wrap (n - 1) = n - 1 := i64_wrap_ (by omega) (by omega)
  have hsz : w.heap.size ≤ w3.heap.size := hst.out.size
  have c3 := B3.cell 3
  have c2 := B3.cell 2
  simp at c3 c2
  have cz := B3.lt
  have f3 := B3.frozen 3
  have f2 := B3.frozen 2
  have HB3 := Lib.hid B3
  obtain ⟨q, hq⟩ : ∃ q, adr' 0 0 = q := ⟨_, rfl⟩
  have HQ := Lib.hid hq
  rw [hq]
  clear hD B3 hq t3 tz tf3 y0 hgz hb2 HPr
  cases q with
  | some r' =>
    rw [ptr_some]
    go_wp2_with fail
    go_ret
    obtain ⟨e1, e2⟩ := pfxDrop_yes (n := n) (show pfxDropC (W : Int) E key (K : Int) = 0 from hc.out)
    rw [hc.out, e1, e2]
    have hn' : ∀ i v, adr' i v ≠ some gt := fun i v e => hNT.out i v (hsub.out _ _ _ e)
    have hEE : ent adr dat = E := funext fun i => funext fun v => H2.out i v
    refine ⟨rfl, Fp, ⟨M, adr', datSet dat K (pre W key K) noDat, ⟨?_, ((hT.out.far H1.out.out hn' _).far H1.out.out hn' _), H1.out.out, by rw [HQ.out]; simp⟩, fun i v => by rw [hEn.out i v, hEE]; rfl, h3, H4.out, fun i v g e => H5.out i v g (hsub.out _ _ _ e), fun b hb => ?_⟩, fun b hb => .inl hb, (hst.out.trans (Step.set Fp _ ⟨gt, 3, none⟩ h3 _)).trans (Step.set Fp _ ⟨gt, 2, none⟩ h3 _)⟩
    · have := (HB3.out.set_ 3 (.pointer (some ⟨r', 0, none⟩))).set_ 2 (.int .i64 (n - 1))
      rw [HQ.out]
      simpa [ptr] using this
    · have := H6.out b hb
      simp [World.setCell]; omega
  | none =>
    rw [ptr_none]
    go_wp2_with fail
    go_ret
    obtain ⟨e1, e2⟩ := pfxDrop_yes (n := n) (show pfxDropC (W : Int) E key (K : Int) = 0 from hc.out)
    rw [hc.out, e1, e2]
    have hn' : ∀ i v, adr' i v ≠ some gt := fun i v e => hNT.out i v (hsub.out _ _ _ e)
    have hEE : ent adr dat = E := funext fun i => funext fun v => H2.out i v
    obtain ⟨_, g1, g2⟩ := hgone.out (by rw [P0.out]; exact HQ.out)
    rw [P0.out] at g1 g2
    have hT5 := (((hT.out.far H1.out.out hn' (j := 3) (.pointer none)).far H1.out.out hn' (j := 3) (.pointer (some ⟨w3.heap.size, 0, none⟩))).far H1.out.out hn' (j := 2) (.int .i64 (n - 1)))
    have hR := hT5.addRoot HQ.out (by simpa using g1) (by simpa using g2)
    rw [show (((w3.setCell ⟨gt, 3, none⟩ (.pointer none)).setCell ⟨gt, 3, none⟩ (.pointer (some ⟨w3.heap.size, 0, none⟩))).setCell ⟨gt, 2, none⟩ (.int .i64 (n - 1))).heap.size = w3.heap.size by simp [World.setCell]] at hR
    refine ⟨rfl, fun b => Fp b ∨ b = w3.heap.size, ⟨M, _, _, ⟨?_, hR, H1.out.out, by rw [adrSet_at]; simp⟩, fun i v => ?_, .inl h3, fun b hb => .inl (H4.out b hb), fun i v g e => ?_, fun b hb => ?_⟩, fun b hb => hb.imp id fun e => by rw [e]; exact hsz, ((((hst.out.trans (Step.set Fp _ ⟨gt, 3, none⟩ h3 _)).trans (Step.set Fp _ ⟨gt, 3, none⟩ h3 _)).trans (Step.set Fp _ ⟨gt, 2, none⟩ h3 _)).trans (Step.alloc Fp _ _))⟩
    · have := (((HB3.out.set_ 3 (.pointer none)).set_ 3 (.pointer (some ⟨w3.heap.size, 0, none⟩))).set_ 2 (.int .i64 (n - 1))).alloc (.cells node0 111)
      rw [adrSet_at]
      simpa [ptr, node0] using this
    · by_cases hx : i = 0 ∧ v = 0
      · obtain ⟨rfl, rfl⟩ := hx
        rw [ent_some (adrSet_at _ _ _ _), datSet_at]
        have := hEn.out 0 0
        rw [ent_none HQ.out, hEE] at this
        exact this
      · have := hEn.out i v
        rw [hEE] at this
        rw [show ent (adrSet adr' 0 0 (some w3.heap.size)) (datSet (datSet dat K (pre W key K) noDat) 0 0 noDat) i v = ent adr' (datSet dat K (pre W key K) noDat) i v by unfold ent; rw [adrSet_ne hx, datSet_ne hx]]
        exact this
    · by_cases hx : i = 0 ∧ v = 0
      · obtain ⟨rfl, rfl⟩ := hx
        rw [adrSet_at] at e
        cases e
        exact .inr rfl
      · rw [adrSet_ne hx] at e
        exact .inl (H5.out i v g (hsub.out _ _ _ e))
    · rcases hb with hb | rfl
      · have := H6.out b hb
        simp [World.setCell]; omega
      · simp [World.setCell]
end Go.Proofs.Ytfakdapglbgokaa

/-
  Package prefix: walk, All. No condition.
-/
namespace Go.Proofs.Ytfakdapglbgokaa
set_option linter.all false
open Go.RowKit
attribute [local go_sem ↓] Go.wp_at_zero Go.wp_at_succ

def entL (E : Nat → Int → Option (Int × List Int)) (W i : Nat) (v : Int) : List Entry := match E i v with
  | none => []
  | some x => [⟨[v * 2 ^ (W - i)], [], i, 0, x.1, x.2⟩]
/-- All entries from a beginning on, those of shorter beginnings first. -/
def allF (E : Nat → Int → Option (Int × List Int)) (W : Nat) : Nat → Nat → Int → List Entry
  | 0, i, v => entL E W i v
  | d + 1, i, v => entL E W i v ++ (allF E W d (i + 1) (2 * v) ++ allF E W d (i + 1) (2 * v + 1))
theorem entL_none {E : Nat → Int → Option (Int × List Int)} {W i : Nat} {v : Int} (h : E i v = none) : entL E W i v = [] := by unfold entL; rw [h]
theorem entL_some {E : Nat → Int → Option (Int × List Int)} {W i : Nat} {v : Int} {x : Int × List Int} (h : E i v = some x) : entL E W i v = [⟨[v * 2 ^ (W - i)], [], i, 0, x.1, x.2⟩] := by unfold entL; rw [h]
theorem Trie.allF_nil {w : World} {M : Nat → Prop} {adr : Nat → Int → Option Nat} {dat : Nat → Int → Dat} (h : Trie w M adr dat) (W : Nat) : ∀ d i v, adr i v = none → allF (ent adr dat) W d i v = [] := by
  intro d
  induction d with
  | zero => intro i v e; exact entL_none (ent_none e)
  | succ d ih =>
    intro i v e
    have hc : ∀ c : Int, c = 0 ∨ c = 1 → adr (i + 1) (2 * v + c) = none := fun c hc => by
      cases e2 : adr (i + 1) (2 * v + c) with
      | none => rfl
      | some g =>
        have := h.up i (2 * v + c) (by rw [e2]; simp)
        rw [show (2 * v + c) / 2 = v by omega, e] at this
        exact absurd rfl this
    have h0 := hc 0 (.inl rfl)
    rw [Int.add_zero] at h0
    show entL _ _ _ _ ++ (allF _ _ _ _ _ ++ allF _ _ _ _ _) = []
    rw [entL_none (ent_none e), ih _ _ h0, ih _ _ (hc 1 (.inr rfl))]; rfl

/-- An own row of entries. -/
structure OwnE (w : World) (B : Nat) (v : Value) (xs : List Entry) : Prop where
  mine : MineL entryLay (fun k => v.ownBlock = some k ∨ k < B) w 0 30 v xs
  ge : ∀ k, v.ownBlock = some k → B ≤ k
theorem OwnE.nil (w : World) (B : Nat) : OwnE w B (.slice none 0 0) [] := ⟨MineL.nil _ _ _ _ _, by simp [Value.ownBlock]⟩
theorem OwnE.below {w w' : World} {B : Nat} {v : Value} {xs : List Entry} (h : OwnE w B v xs) (hb : Below w.heap.size w w') : OwnE w' B v xs := ⟨h.mine.below hb, h.ge⟩
/-- Ready for an append. -/
theorem OwnE.own {w : World} {B : Nat} {v : Value} {xs : List Entry} (h : OwnE w B v xs) : OwnL entryLay (fun k => v.ownBlock = some k ∨ k < B ∨ w.heap.size ≤ k) w (fun k => v.ownBlock = some k) 30 v xs := by
  obtain ⟨⟨cs, ho, hr⟩, _⟩ := h
  exact ⟨⟨cs, ho, hr.weaken fun k hk hlt => hk.elim .inl fun h2 => h2.elim .inr fun h3 => absurd hlt (Nat.not_lt_of_le h3)⟩, fun k hk => hk⟩
theorem OwnE.of {w w' : World} {B : Nat} {v v' : Value} {xs : List Entry} (h : OwnL entryLay (fun k => v.ownBlock = some k ∨ k < B ∨ w.heap.size ≤ k) w' (fun k => v.ownBlock = some k ∨ k = w.heap.size) 30 v' xs) (hge : ∀ k, v.ownBlock = some k → B ≤ k) (hB : B ≤ w.heap.size) : OwnE w' B v' xs := by
  obtain ⟨⟨cs, ho, hr⟩, hrow⟩ := h
  refine ⟨⟨cs, ho, hr.weaken fun k hk _ => hk.elim (fun hk => (hrow k hk).imp id fun e => by rw [e]; exact .inr (Nat.le_refl _)) fun h => .inr (.inl h)⟩, fun k hk => ?_⟩
  rcases hrow k hk with e | e
  · exact hge k e
  · rw [e]; exact hB
theorem or_key {W i : Nat} {v : Int} (hi : i < W) (hW : W ≤ 64) (h0 : 0 ≤ v) (hv : v < 2 ^ i) : bits .or .u64 (v * 2 ^ (W - i)) (2 ^ (W - 1 - i)) = (2 * v + 1) * 2 ^ (W - (i + 1)) := by
  obtain ⟨n, rfl⟩ := Int.eq_ofNat_of_zero_le h0
  obtain ⟨m, hm⟩ : ∃ m, W - 1 - i = m := ⟨_, rfl⟩
  rw [hm, show W - i = m + 1 by omega, show W - (i + 1) = m by omega]
  have e1 : ((n : Int) * 2 ^ (m + 1)) = ((n * 2 ^ (m + 1) : Nat) : Int) := by simp
  have e2 : ((2 : Int) ^ m) = ((2 ^ m : Nat) : Int) := by simp
  have hn : n < 2 ^ i := by have : ((2 : Int) ^ i) = ((2 ^ i : Nat) : Int) := by simp
                            omega
  have hb : n * 2 ^ (m + 1) + 2 ^ m < 2 ^ W := by
    have h1 : (n + 1) * 2 ^ (m + 1) ≤ 2 ^ i * 2 ^ (m + 1) := Nat.mul_le_mul_right _ hn
    rw [← Nat.pow_add, show i + (m + 1) = W by omega, Nat.add_mul, Nat.one_mul] at h1
    have h2 : 2 ^ (m + 1) = 2 * 2 ^ m := by rw [Nat.pow_succ, Nat.mul_comm]
    have h3 : 0 < 2 ^ m := Nat.two_pow_pos m
    omega
  have hW2 : 2 ^ W ≤ 2 ^ 64 := Nat.pow_le_pow_right (by omega) hW
  have h64 : (2 ^ 64 : Nat) = 18446744073709551616 := by decide
  have hx : n * 2 ^ (m + 1) < 18446744073709551616 := by
    rw [← h64]; exact Nat.lt_of_le_of_lt (Nat.le_add_right _ _) (Nat.lt_of_lt_of_le hb hW2)
  have hy : 2 ^ m < 18446744073709551616 := by
    rw [← h64]; exact Nat.lt_of_le_of_lt (Nat.le_add_left _ _) (Nat.lt_of_lt_of_le hb hW2)
  rw [e1, e2, bits_or_u64_nat _ _ hx hy]
  have h4 : n * 2 ^ (m + 1) ||| 2 ^ m = n * 2 ^ (m + 1) + 2 ^ m := by
    rw [Nat.mul_comm n, Nat.two_pow_add_eq_or_of_lt (show 2 ^ m < 2 ^ (m + 1) by rw [Nat.pow_succ]; have := Nat.two_pow_pos m; omega)]
  rw [h4]
  simp [Nat.pow_succ, Int.pow_succ]
  rw [Int.add_mul, Int.one_mul, Int.mul_assoc, Int.mul_comm 2, Int.mul_assoc]
end Go.Proofs.Ytfakdapglbgokaa

/-
  An entry newly laid, as what an append takes. No condition.
-/
namespace Go.Proofs.Ytfakdapglbgokaa
set_option linter.all false
open Go.RowKit

theorem RdL.litE {α : Type} {L : Lay α} {A : Nat → Prop} {w : World} {xs : List α} {cs : List Value} {e : TypeId} {g n : Nat} (h : RepAll L A w xs cs) (hb : Blk w g e cs.toArray) (hn : xs.length = n) (hm : n ≤ maxLen) (hA : ¬ A g) : RdL L A w (some ⟨g, 0, none⟩) n n xs := by
  refine ⟨hn, Nat.le_refl _, hm, by simp, fun _ => ⟨g, 0, rfl, hA, hb.lt, fun i hi => ?_⟩⟩
  obtain ⟨c, hc, hj⟩ := h.at_ i hi
  refine ⟨c, hc, fun j hj' => ?_⟩
  rw [Nat.zero_add, hb.cell, ← hj j hj']
  simp
theorem Blk.new1 (w : World) (o : Obj) (t : TypeId) (cs : Array Value) : Blk ((w.alloc o).alloc (.cells cs t)) (w.heap.size + 1) t cs := by
  have := Blk.new (w.alloc o) t cs
  simpa using this
/-- An own row of numbers, as part of a thing that avoids A. -/
theorem Mine.layA {w : World} {base : Nat} {e : TypeId} {k : IntKind} {ao : Option Addr} {n c : Nat} {xs : List Int} (h : Mine w base e k (.slice ao n c) xs) (A : Nat → Prop) (hA : ∀ g, base ≤ g → g < w.heap.size → ¬ A g) : RdL (Lay.int k) A w ao n c xs := by
  obtain ⟨ao', cap', e', hr, hb⟩ := h.rd
  cases e'
  refine hr.lay A fun a ha h0 => ?_
  subst ha
  obtain ⟨b, off, e2, hc⟩ := hr.here (by have := hr.len; omega)
  cases e2
  exact hA _ (hb _ rfl).1 (block_lt_of_cell (hc 0 (by have := hr.len; omega)))
theorem OwnE.lt {w : World} {B : Nat} {v : Value} {xs : List Entry} (h : OwnE w B v xs) : ∀ k, v.ownBlock = some k → k < w.heap.size := fun k hk => (h.mine.lt k hk).2
theorem key_fit {W i : Nat} {v : Int} (hi : i ≤ W) (hW : W ≤ 64) (h0 : 0 ≤ v) (hv : v < 2 ^ i) : Fits .u64 (v * 2 ^ (W - i)) := by
  obtain ⟨n, rfl⟩ := Int.eq_ofNat_of_zero_le h0
  have hn : n < 2 ^ i := by have : ((2 : Int) ^ i) = ((2 ^ i : Nat) : Int) := by simp
                            omega
  have h1 : (n + 1) * 2 ^ (W - i) ≤ 2 ^ i * 2 ^ (W - i) := Nat.mul_le_mul_right _ hn
  rw [← Nat.pow_add, show i + (W - i) = W by omega, Nat.add_mul, Nat.one_mul] at h1
  have hp : 0 < 2 ^ (W - i) := Nat.two_pow_pos _
  have hW2 : 2 ^ W ≤ 2 ^ 64 := Nat.pow_le_pow_right (by omega) hW
  have h64 : (2 ^ 64 : Nat) = 18446744073709551616 := by decide
  have e1 : ((n : Int) * 2 ^ (W - i)) = ((n * 2 ^ (W - i) : Nat) : Int) := by simp
  rw [e1]
  exact Fits.of_u64 (by omega) (by omega)
/-- The entry that walk makes: what is appended. -/
theorem entSrc {w W : World} {B kb eb : Nat} {v : Value} {xs : List Entry} {key i act : Int} {a : Option Addr} {n c : Nat} {args : List Int} (hB : B ≤ w.heap.size) (ho : OwnE w B v xs)
    (hk : Blk W kb 23 #[.int .u64 key]) (hkb : w.heap.size ≤ kb) (hkf : Fits .u64 key)
    (ha : Mine W w.heap.size 23 .u64 (.slice a n c) args)
    (he : Blk W eb 30 #[.slice (some ⟨kb, 0, none⟩) 1 1, .slice none 0 0, .int .i64 i, .int .i64 0, .int .i64 act, .slice a n c])
    (hi : Fits .i64 i) (hact : Fits .i64 act) : Src entryLay (fun k => v.ownBlock = some k ∨ k < B ∨ W.heap.size ≤ k) W (some ⟨eb, 0, none⟩) 1 1 [⟨[key], [], i, 0, act, args⟩] := by
  obtain ⟨_, _, e, hrd, _⟩ := ha.rd
  cases e
  have hl := hrd.len
  have hav : ∀ g, w.heap.size ≤ g → g < W.heap.size → ¬ (v.ownBlock = some g ∨ g < B ∨ W.heap.size ≤ g) := by
    rintro g h1 h2 (h3 | h3 | h3)
    · have := ho.lt g h3; omega
    · omega
    · omega
  refine Src.lit1 (cs := [.slice (some ⟨kb, 0, none⟩) 1 1, .slice none 0 0, .int .i64 i, .int .i64 0, .int .i64 act, .slice a _ c]) he ?_
  exact entry_rep (e := ⟨[key], [], i, 0, act, args⟩) (RdL.litE (cs := [.int .u64 key]) ⟨[_], _, rfl, ⟨rfl, hkf⟩, rfl⟩ hk rfl (by simp [maxLen]) (hav _ hkb hk.lt)) (RdL.nil_ _ _ _) (ha.layA _ hav) hi (Fits.of_i64 (x := 0) (by decide) (by decide)) hact
end Go.Proofs.Ytfakdapglbgokaa

/-
  Package prefix: walk, All, walked. No condition.
-/
namespace Go.Proofs.Ytfakdapglbgokaa
set_option linter.all false
open Go.RowKit
attribute [local go_sem ↓] Go.wp_at_zero Go.wp_at_succ

theorem Pfx.belowB {w w' : World} {B : Nat} {gt : Nat} {width most n : Int} {M : Nat → Prop} {adr : Nat → Int → Option Nat} {dat : Nat → Int → Dat} (h : Pfx w gt width most n M adr dat) (hM : ∀ k, M k → k < B) (hN : ∀ i v g, adr i v = some g → g < B) (hg : gt < B) (hb : Below B w w') : Pfx w' gt width most n M adr dat := by
  have hs : Step (fun k => B ≤ k) w w' := Step.ofBelow hb fun _ h => h
  exact ⟨h.blk.below hb hg, h.trie.step hs (fun k hk hm => Nat.not_lt_of_le hk (hM k hm)) (fun i v g e hk => Nat.not_lt_of_le hk (hN i v g e)), h.out, h.root⟩

theorem u64_wrap_pow {m : Nat} (h : m ≤ 63) : IntKind.u64.wrap ((2 : Int) ^ m) = 2 ^ m := by
  have e : ((2 : Int) ^ m) = ((2 ^ m : Nat) : Int) := by simp
  have h2 : 2 ^ m ≤ 2 ^ 63 := Nat.pow_le_pow_right (by omega) h
  rw [e]
  generalize 2 ^ m = x at *
  simp [IntKind.wrap, IntKind.bits, IntKind.signed]
  omega
theorem entL_le (E : Nat → Int → Option (Int × List Int)) (W d i : Nat) (v : Int) : (entL E W i v).length ≤ (allF E W d i v).length := by
  cases d with
  | zero => exact Nat.le_refl _
  | succ d => show _ ≤ (entL _ _ _ _ ++ _).length; rw [List.length_append]; omega
set_option maxRecDepth 100000 in
set_option maxHeartbeats 3000000 in
theorem pfxWalk_any (gt W B : Nat) (most n : Int) (M : Nat → Prop) (adr : Nat → Int → Option Nat) (dat : Nat → Int → Dat) (hW : W ≤ 64) (hargs : ∀ i v x, ent adr dat i v = some x → x.2.length ≤ 1000000) (hM : ∀ k, M k → k < B) (hN : ∀ i v g, adr i v = some g → g < B) (hgt : gt < B) :
    ∀ (d i : Nat), i + d = W → ∀ (v : Int), 0 ≤ v → v < 2 ^ i → ∀ (w : World), Pfx w gt (W : Int) most n M adr dat → B ≤ w.heap.size → ∀ (ao : Option Addr) (ac : Nat) (xs : List Entry), OwnE w B (.slice ao xs.length ac) xs → (xs ++ allF (ent adr dat) W d i v).length ≤ 1000000 →
    Calls Try.prog 85 #[.pointer (some ⟨gt, 0, none⟩), ptr (adr i v), .int .u64 (v * 2 ^ (W - i)), .int .i64 (i : Int), .slice ao xs.length ac] w fun e w' => ∃ ao' c', e = .returned (.slice ao' (xs ++ allF (ent adr dat) W d i v).length c') ∧ OwnE w' B (.slice ao' (xs ++ allF (ent adr dat) W d i v).length c') (xs ++ allF (ent adr dat) W d i v) ∧ Below B w w' := by
  intro d
  induction d using Nat.strongRecOn with
  | ind d ih =>
    intro i hi v h0 hv w h hB ao ac xs ho hlen
    cases e : adr i v with
    | none =>
      have hnil : Hid (xs ++ allF (ent adr dat) W d i v = xs) := by show _ = _; rw [h.trie.allF_nil W d i v e, List.append_nil]
      rw [ptr_none]
      clear ih hlen e h
      go_enter Try.func85, Try.ntmps85
      go_wp2_with fail
      go_ret
      rw [hnil.out]
      exact ⟨ao, ac, rfl, ho, Below.refl _ _⟩
    | some g =>
      obtain ⟨⟨ga, gn, gc, B1, R1, R1act⟩, _⟩ := h.trie.node i v g e
      have hlen0 : (xs ++ entL (ent adr dat) W i v).length ≤ 1000000 := by have := entL_le (ent adr dat) W d i v; rw [List.length_append] at hlen ⊢; omega
      have b0 := B1.cell 0
      have b1 := B1.cell 1
      have b2 := B1.cell 2
      have b3 := B1.cell 3
      have b4 := B1.cell 4
      simp at b0 b1 b2 b3 b4
      have bz := B1.lt
      have H := Lib.hid h
      have He := Lib.hid e
      have HO := Lib.hid ho
      rw [ptr_some]
      clear h e ho
      go_enter Try.func85, Try.ntmps85
      go_upto_if 17 with fail
      go_cut [4, 17] from 18 to 35 (fun o t wx => ∃ ao2 c2, o = .slice ao2 (xs ++ entL (ent adr dat) W i v).length c2 ∧ OwnE wx B (.slice ao2 (xs ++ entL (ent adr dat) W i v).length c2) (xs ++ entL (ent adr dat) W i v) ∧ Below B w wx ∧ t = t)
      case first =>
        cases ht : (dat i v).there with
        | false =>
          rw [ht] at b0
          have hx : Hid (xs ++ entL (ent adr dat) W i v = xs) := by show _ = _; rw [entL_none (by rw [ent_some He.out, ht]; rfl), List.append_nil]
          clear ht
          go_wp2_with fail
          go_meet
          rw [hx.out]
          exact ⟨ao, ac, rfl, HO.out, Below.refl _ _, trivial⟩
        | true =>
          rw [ht] at b0
          have hent : ent adr dat i v = some ((dat i v).act, (dat i v).args) := by rw [ent_some He.out, ht]; rfl
          have hx : Hid (xs ++ entL (ent adr dat) W i v = xs ++ [⟨[v * 2 ^ (W - i)], [], i, 0, (dat i v).act, (dat i v).args⟩]) := by show _ = _; rw [entL_some hent]
          have hal := hargs _ _ _ hent
          simp only at hal
          have hgn : gn ≤ 1000000 := by have := R1.len; omega
          go_wp2_with fail
          have hd0 : Below w.heap.size w w.drew := Below.drew0_ w
          have h63 : Hid (xs.length + 1 ≤ maxLen) := by show _ ≤ _; rw [hx.out] at hlen0; simp at hlen0; simp [maxLen]; omega
          have hsz : Hid ((xs.length + 1) * 96 ≤ 140737488355328) := by show _ ≤ _; rw [hx.out] at hlen0; simp at hlen0; omega
          have hkf : Hid (Fits .u64 (v * 2 ^ (W - i))) := key_fit (by omega) hW h0 hv
          have hif : Hid (Fits .i64 (i : Int)) := Fits.of_i64 (by omega) (by omega)
          have haf : Hid (Fits .i64 (dat i v).act) := R1act
          go_region_law ((first
            | (go_simp; go_at_call 83; refine (CloneNums_any ga gn gc _ _ (R1.rd.below (by first | exact Below.drew0_ w | exact al (Below.drew0_ w) _)) hgn).mono ?_; rintro e w4 ⟨r4, rfl, hm4, hb4⟩; obtain ⟨a4, c4, rfl⟩ := hm4.form; (first | (have n1 := keep (w := w.drew) b1 hb4; have n2 := keep (w := w.drew) b2 hb4) | (have n1 := keep (keep (w := w.drew) b1 (al (rf _) _)) hb4; have n2 := keep (keep (w := w.drew) b2 (al (rf _) _)) hb4)); have n3 : g < w4.heap.size := block_lt_of_cell n1)
            | (refine step_append_own2 (L := entryLay) (by rfl) _ _ 42 (by rfl) sty_entries (by rfl) (HO.out.below (al (ov (al (Below.drew0_ w) _) hb4) _)).own (fun _ hk => .inl hk) (by rfl) (entSrc (kb := w.heap.size) hB HO.out (((Blk.new w.drew _ _).below hb4 (Blk.new w.drew _ _).lt).alloc _) (Nat.le_refl _) hkf.out ((Mine.base_le hm4 (by simp)).below (al (rf _) _)) (Blk.new _ _ _) hif.out haf.out) h63.out hsz.out ?_; intro v9 w9 hm9 hs9; obtain ⟨a9, c9, rfl⟩ := hm9.form (n := xs.length + 1) (by simp); have HQ := Lib.hid (OwnE.of hm9 (fun k hk => HO.out.ge k hk) (Nat.le_trans hB (al (ov (al (Below.drew0_ w) _) hb4) _).size)); have HW := Lib.hid (Below.trans (Below.mono (al (ov (al (Below.drew0_ w) _) hb4) _) hB) (Step.below hs9 (Nat.le_trans hB (al (ov (al (Below.drew0_ w) _) hb4) _).size) (fun k hk => HO.out.ge k hk))); clear hm9 hs9)
            | (refine step_append_own2 (L := entryLay) (by rfl) _ _ 42 (by rfl) sty_entries (by rfl) (HO.out.below (al (al (ov (Below.drew0_ w) hb4) _) _)).own (fun _ hk => .inl hk) (by rfl) (entSrc (kb := w4.heap.size) hB HO.out ((Blk.new w4 _ _).alloc _) (hb4.size) hkf.out (Mine.below hm4 (al (al (rf _) _) _)) (Blk.new1 _ _ _ _) hif.out haf.out) h63.out hsz.out ?_; intro v9 w9 hm9 hs9; obtain ⟨a9, c9, rfl⟩ := hm9.form (n := xs.length + 1) (by simp); have HQ := Lib.hid (OwnE.of hm9 (fun k hk => HO.out.ge k hk) (Nat.le_trans hB (al (al (ov (Below.drew0_ w) hb4) _) _).size)); have HW := Lib.hid (Below.trans (Below.mono (al (al (ov (Below.drew0_ w) hb4) _) _) hB) (Step.below hs9 (Nat.le_trans hB (al (al (ov (Below.drew0_ w) hb4) _) _).size) (fun k hk => HO.out.ge k hk))); clear hm9 hs9)
            | (go_simp; trace_state; fail)))
          all_goals
            go_wp2_with fail
            go_meet
            rw [hx.out]
            refine ⟨a9, c9, by simp, ?_, HW.out, trivial⟩
            simpa using HQ.out
      case rest =>
        cases d with
        | zero =>
          obtain ⟨ao2, c2, rfl, ho2, hb2, _⟩ := hcut
          have hPc := H.out.belowB hM hN hgt hb2
          have t0 := hPc.blk.cell 0
          simp at t0
          have tz := hPc.blk.lt
          have hlt : decide ((i : Int) < (W : Int)) = false := by simp; omega
          have HAll : Hid (xs ++ allF (ent adr dat) W 0 i v = xs ++ entL (ent adr dat) W i v) := rfl
          have HL : Hid (xs.length + (allF (ent adr dat) W 0 i v).length = (xs ++ entL (ent adr dat) W i v).length) := by show _ = _; rw [List.length_append]; rfl
          have HQ := Lib.hid ho2
          have HW := Lib.hid hb2
          clear ho2 hb2 hPc b0 b1 b2 b3 b4 bz B1 ih hlen
          go_wp2_with fail
          go_ret
          rw [HAll.out, HL.out]
          exact ⟨ao2, c2, by first | rfl | (rw [List.length_append]; rfl) | (simp [List.length_append]; rfl) | simp [List.length_append, Array.getD], HQ.out, HW.out⟩
        | succ d =>
        obtain ⟨ao2, c2, rfl, ho2, hb2, _⟩ := hcut
        have hPc := H.out.belowB hM hN hgt hb2
        have Bc := B1.below hb2 (hN _ _ _ He.out)
        have hBc : B ≤ wc.heap.size := Nat.le_trans hB hb2.size
        have c3 := Bc.cell 3
        simp at c3
        have cz := Bc.lt
        have t0 := hPc.blk.cell 0
        simp at t0
        have tz := hPc.blk.lt
        have hlt : (i : Int) < (W : Int) := by omega
        have hall : allF (ent adr dat) W (d + 1) i v = entL (ent adr dat) W i v ++ (allF (ent adr dat) W d (i + 1) (2 * v) ++ allF (ent adr dat) W d (i + 1) (2 * v + 1)) := rfl
        rw [hall] at hlen
        rw [← List.append_assoc, ← List.append_assoc] at hlen
        obtain ⟨ys, hys⟩ : ∃ ys, xs ++ entL (ent adr dat) W i v = ys := ⟨_, rfl⟩
        rw [hys] at ho2 hlen ⊢
        have hAll : xs ++ allF (ent adr dat) W (d + 1) i v = ys ++ allF (ent adr dat) W d (i + 1) (2 * v) ++ allF (ent adr dat) W d (i + 1) (2 * v + 1) := by rw [hall, ← hys, List.append_assoc, List.append_assoc]
        have hkL : 2 * v * 2 ^ (W - (i + 1)) = v * 2 ^ (W - i) := by
          rw [show W - i = (W - (i + 1)) + 1 by omega, Int.pow_succ, Int.mul_comm 2 v, Int.mul_assoc, Int.mul_comm 2]
        have hv2 : 2 * v < 2 ^ (i + 1) := by rw [Int.pow_succ]; omega
        have hv3 : 2 * v + 1 < 2 ^ (i + 1) := by rw [Int.pow_succ]; omega
        have hcast : (((i + 1 : Nat)) : Int) = (i : Int) + 1 := by omega
        obtain ⟨L1, hL1⟩ : ∃ L1, allF (ent adr dat) W d (i + 1) (2 * v) = L1 := ⟨_, rfl⟩
        obtain ⟨L2, hL2⟩ : ∃ L2, allF (ent adr dat) W d (i + 1) (2 * v + 1) = L2 := ⟨_, rfl⟩
        have hl1 : (ys ++ L1).length ≤ 1000000 := by rw [hL1, hL2] at hlen; simp at hlen ⊢; omega
        have I1 := ih d (by omega) (i + 1) (by omega) (2 * v) (by omega) hv2 wc hPc hBc ao2 c2 ys ho2 (by rw [hL1]; exact hl1)
        rw [hkL, hcast, hL1] at I1
        have I2 := fun (w2 : World) (hb : Below B wc w2) (ao3 : Option Addr) (c3 : Nat) (ho3 : OwnE w2 B (.slice ao3 (ys ++ L1).length c3) (ys ++ L1)) => ih d (by omega) (i + 1) (by omega) (2 * v + 1) (by omega) hv3 w2 (hPc.belowB hM hN hgt hb) (Nat.le_trans hBc hb.size) ao3 c3 (ys ++ L1) ho3 (by rw [← hL1]; exact hlen)
        rw [hL1, hL2] at hlen hAll
        have HAll := Lib.hid hAll
        clear hAll
        rw [hcast, hL2] at I2
        have hor := or_key (show i < W by omega) hW h0 hv
        rw [← hor] at I2
        have hwr : IntKind.i64.wrap ((i : Int) + 1) = (i : Int) + 1 := i64_wrap_ (by omega) (by omega)
        have hwr2 : IntKind.i64.wrap ((W : Int) - 1) = (W : Int) - 1 := i64_wrap_ (by omega) (by omega)
        have hwr3 : IntKind.i64.wrap ((W : Int) - 1 - (i : Int)) = (W : Int) - 1 - (i : Int) := i64_wrap_ (by omega) (by omega)
        have hsh : IntKind.u64.wrap ((2 : Int) ^ (W - 1 - i)) = 2 ^ (W - 1 - i) := u64_wrap_pow (by omega)
        simp only [List.length_append] at I1 I2
        have J1 := Lib.hid I1
        have J2 := Lib.hid I2
        have HPc := Lib.hid hPc
        have HBc := Lib.hid Bc
        clear I1 I2 hPc Bc ih hall hys hkL hcast hL1 hL2 b0 b1 b2 b3 b4 bz B1 hor
        go_wp2_with fail
        refine J1.out.mono ?_
        rintro e w3 ⟨ao3, c3', rfl, ho3, hb3⟩
        have B3 := HBc.out.below hb3 (hN _ _ _ He.out)
        have d4 := B3.cell 4
        simp at d4
        have dz := B3.lt
        have P3 := HPc.out.belowB hM hN hgt hb3
        have u0 := P3.blk.cell 0
        simp at u0
        have uz := P3.blk.lt
        clear c3 cz t0 tz J1 B3 P3
        go_wp2_with fail
        go_region_law ((go_simp; go_at_call 85; refine (J2.out w3.drew ((hb3.mono (Nat.le_refl _)).trans (Below.mono (Below.drew0_ w3) (Nat.le_trans (Nat.le_trans hB hb2.size) hb3.size))) ao3 c3' (ho3.below (Below.drew0_ w3))).mono ?_; rintro e w4 ⟨ao4, c4', rfl, ho4, hb4⟩))
        all_goals
          go_wp2_with fail
          go_ret
          rw [HAll.out]
          refine ⟨ao4, c4', by simp [Nat.add_assoc], ?_, ?_⟩
          · simpa [Nat.add_assoc] using ho4
          · exact ((hb2.trans hb3).trans (Below.mono (Below.drew0_ w3) (Nat.le_trans (Nat.le_trans hB hb2.size) hb3.size))).trans hb4
end Go.Proofs.Ytfakdapglbgokaa

/-
  Package prefix, in the plain machine: a table as an object; New, Add, Drop, Find, Len. No condition.
-/
namespace Go.Proofs.Ytfakdapglbgokaa
set_option linter.all false
open Go.RowKit
attribute [local go_sem ↓] Go.wp_at_zero Go.wp_at_succ

abbrev PE := Nat → Int → Option (Int × List Int)
def pfxAbs (width most n : Int) (E : PE) : AbsI where
  I w _ Fp b := PfxObj w Fp b width most n E
  lt := fun h k hk => by obtain ⟨M, adr, dat, _, _, _, _, _, h6⟩ := h; exact h6 k hk
  keep := fun {w w' A A' Fp b} h hs _ hb => h.step (S := fun k => ¬ Fp k) ⟨hs.os, hs.tape, hs.output, hs.size, fun k _ hk => hb k (Classical.not_not.1 hk)⟩ fun k hk hk2 => hk hk2
def noE : PE := fun _ _ => none

set_option maxRecDepth 100000 in
set_option maxHeartbeats 2000000 in
theorem pfxNew2_any (width most : Int) (w : World) :
    Calls Try.prog 17 #[.int .i64 width, .int .i64 most] w fun e w' => ∃ gt Fp, e = .returned (.pointer (some ⟨gt, 0, none⟩)) ∧ PfxObj w' Fp gt width most 0 noE ∧ (∀ k, Fp k → w.heap.size ≤ k) ∧ Below w.heap.size w w' := by
  go_enter Try.func17, Try.ntmps17
  go_wp2_with fail
  go_ret
  refine ⟨w.heap.size + 1, fun k => k = w.heap.size ∨ k = w.heap.size + 1, rfl, ⟨fun _ => False, fun i v => if i = 0 ∧ v = 0 then some w.heap.size else none, fun _ _ => noDat, ⟨?_, ⟨?_, ?_, ?_, fun _ h => h.elim⟩, fun h => h, by simp⟩, ?_, .inr rfl, fun _ h => h.elim, ?_, ?_⟩, ?_, al (al (rf w) _) _⟩
  · have := Blk.new (w.alloc (.cells #[.bool false, .int .i64 0, .slice none 0 0, .pointer none, .pointer none] 111)) 113 #[.int .i64 width, .int .i64 most, .int .i64 0, .pointer (some ⟨w.heap.size, 0, none⟩)]
    simpa [ptr] using this
  · intro i v g e
    by_cases h : i = 0 ∧ v = 0
    · rw [if_pos h] at e
      cases e
      refine ⟨⟨none, 0, 0, ?_, RdL.nil_ _ _ _, Fits.of_i64 (by decide) (by decide)⟩, fun h => h⟩
      have := (Blk.new w 111 #[.bool false, .int .i64 0, .slice none 0 0, .pointer none, .pointer none]).alloc (.cells #[.int .i64 width, .int .i64 most, .int .i64 0, .pointer (some ⟨w.heap.size, 0, none⟩)] 113)
      simpa [ptr, noDat] using this
    · rw [if_neg h] at e; cases e
  · intro i v j u g e1 e2
    by_cases h : i = 0 ∧ v = 0
    · by_cases h2 : j = 0 ∧ u = 0
      · exact ⟨h.1.trans h2.1.symm, h.2.trans h2.2.symm⟩
      · rw [if_neg h2] at e2; cases e2
    · rw [if_neg h] at e1; cases e1
  · intro i v h
    simp at h
  · intro i v
    unfold ent noE
    dsimp only
    by_cases h : i = 0 ∧ v = 0
    · rw [if_pos h]; rfl
    · rw [if_neg h]
  · intro i v g e
    dsimp only at e
    by_cases h : i = 0 ∧ v = 0
    · rw [if_pos h] at e; cases e; exact .inl rfl
    · rw [if_neg h] at e; cases e
  · rintro k (rfl | rfl) <;> simp <;> omega
  · rintro k (rfl | rfl) <;> omega

theorem reps1 {w : World} {A : Nat → Prop} {ρ : Plan_} {x : SV} {vs : List Value} (h : Reps w A ρ [x] vs) : ∃ v, vs = [v] ∧ RepV w A ρ x v := by
  obtain ⟨v, us, rfl, h1, h2⟩ := h.cons_inv
  cases h2.nil_inv
  exact ⟨v, rfl, h1⟩
theorem reps_int {w : World} {A : Nat → Prop} {ρ : Plan_} {k : IntKind} {x : Int} {xs : List SV} {vs : List Value} (h : Reps w A ρ (.int k x :: xs) vs) : ∃ us, vs = .int k x :: us ∧ Reps w A ρ xs us := by
  obtain ⟨v, us, rfl, h1, h2⟩ := h.cons_inv
  cases h1
  exact ⟨us, rfl, h2⟩
theorem rep_hit {w : World} {A : Nat → Prop} {ρ : Plan_} {a : Int} {l : List Int} {v : Value} (h : RepV w A ρ (.agg (hcells a l)) v) (hf : AllFit .u64 l) : ∃ ao c, v = .agg #[.int .i64 a, .slice ao l.length c] ∧ Rd w .u64 ao l.length c l := by
  cases h with
  | agg ho hl h =>
    rename_i vs
    have hr : Reps w A ρ (hcells a l) vs := ⟨hl, h⟩
    obtain ⟨us, rfl, h2⟩ := reps_int hr
    obtain ⟨v, rfl, h3⟩ := reps1 h2
    obtain ⟨ao, c, rfl, h4, _⟩ := view_rd h3 hf
    exact ⟨ao, c, rfl, h4⟩

theorem pfxNew_s (width most : Int) (q : Nat) : SCalls Try.prog 17 [.int .i64 width, .int .i64 most] [] q (.ptr q 0) [(q, .abs (pfxAbs width most 0 noE))] := by
  refine scalls_new (Enters.of Try.func17 rfl (by kernel_rfl)) (fun O w vs hO hr => ?_) (fun σ => rfl) q
  obtain ⟨us, rfl, hr1⟩ := reps_int hr
  obtain ⟨us2, rfl, hr2⟩ := reps_int hr1
  cases hr2.nil_inv
  refine (pfxNew2_any width most w).mono ?_
  rintro e w' ⟨gt, Fp, rfl, h1, h2, h3⟩
  exact ⟨gt, Fp, rfl, h1, h2, h3⟩
theorem pfxAdd_s (width most n : Int) (E : PE) (key k act : Int) (args : List Int) (hw : Fits .i64 width) (hkey : Fits .u64 key) (hk : Fits .i64 k) (hact : Fits .i64 act) (hf : AllFit .u64 args) (han : args.length ≤ 1000000) (hn : 0 ≤ n ∧ n ≤ 1000000) (id q : Nat) :
    SCalls Try.prog 20 [.ptr id 0, .int .u64 key, .int .i64 k, .agg (hcells act args)] [(id, .abs (pfxAbs width most n E))] q (.int .i64 (pfxAddC width most n E key k)) [(id, .abs (pfxAbs width most (pfxAddN width most n E key k) (pfxAddE width most n E key k act args)))] := by
  refine scalls_in1 (Enters.of Try.func20 rfl (by kernel_rfl)) (fun O Fp w b vs hI hO hd hr => ?_) (fun σ => rfl) id q
  obtain ⟨us, rfl, hr1⟩ := reps_int hr
  obtain ⟨us2, rfl, hr2⟩ := reps_int hr1
  obtain ⟨v, rfl, hr3⟩ := reps1 hr2
  obtain ⟨ao, c, rfl, hr4⟩ := rep_hit hr3 hf
  refine (pfxAdd_any b Fp width most n key k act ao _ c args E w hI hw hkey hk hact hr4 han hn).mono ?_
  rintro e w' ⟨rfl, Fp', h1, h2, h3⟩
  exact ⟨_, Fp', rfl, h1, h2, h3, .int⟩
theorem pfxDrop_s (width most n : Int) (E : PE) (key k : Int) (hw : Fits .i64 width) (hkey : Fits .u64 key) (hk : Fits .i64 k) (hn : -1000000 ≤ n ∧ n ≤ 1000000) (id q : Nat) :
    SCalls Try.prog 19 [.ptr id 0, .int .u64 key, .int .i64 k] [(id, .abs (pfxAbs width most n E))] q (.int .i64 (pfxDropC width E key k)) [(id, .abs (pfxAbs width most (pfxDropN width n E key k) (pfxDropE width E key k)))] := by
  refine scalls_in1 (Enters.of Try.func19 rfl (by kernel_rfl)) (fun O Fp w b vs hI hO hd hr => ?_) (fun σ => rfl) id q
  obtain ⟨us, rfl, hr1⟩ := reps_int hr
  obtain ⟨us2, rfl, hr2⟩ := reps_int hr1
  cases hr2.nil_inv
  refine (pfxDrop_any b Fp width most n key k E w hI hw hkey hk hn).mono ?_
  rintro e w' ⟨rfl, Fp', h1, h2, h3⟩
  exact ⟨_, Fp', rfl, h1, h2, h3, .int⟩
theorem pfxLen_s (width most n : Int) (E : PE) (id q : Nat) :
    SCalls Try.prog 42 [.ptr id 0] [(id, .abs (pfxAbs width most n E))] q (.int .i64 n) [(id, .abs (pfxAbs width most n E))] := by
  refine scalls_in1 (Enters.of Try.func42 rfl (by kernel_rfl)) (fun O Fp w b vs hI hO hd hr => ?_) (fun σ => rfl) id q
  cases hr.nil_inv
  have hI0 := hI
  obtain ⟨M, adr, dat, h1, _⟩ := hI
  refine (pfxLen_any b width most n M adr dat w h1).mono ?_
  rintro e w' ⟨rfl, rfl⟩
  exact ⟨_, Fp, rfl, hI0, fun k hk => .inl hk, .refl _ _, .int⟩
/-- What Find answers. -/
def findV (R : Option (Nat × Int × List Int)) : SV := .tup [.agg (hcells (fAct R) (fArgs R)), .int .i64 (fLen R), .bool R.isSome]
theorem pfxFind_s (width most n : Int) (E : PE) (key : Int) (hw : Fits .i64 width) (hkey : Fits .u64 key) (hargs : ∀ i v x, E i v = some x → x.2.length ≤ 1000000) (id q : Nat) :
    SCalls Try.prog 23 [.ptr id 0, .int .u64 key] [(id, .abs (pfxAbs width most n E))] q (findV (pfxFind width E key)) [(id, .abs (pfxAbs width most n E))] := by
  refine scalls_in1 (Enters.of Try.func23 rfl (by kernel_rfl)) (fun O Fp w b vs hI hO hd hr => ?_) (fun σ => rfl) id q
  obtain ⟨us, rfl, hr1⟩ := reps_int hr
  cases hr1.nil_inv
  refine (pfxFind_any b Fp width most n key E w hI hw hkey hargs).mono ?_
  rintro e w' ⟨ao, c, rfl, h1, h2, h3⟩
  have hlt := (pfxAbs width most n E).lt hI
  refine ⟨_, Fp, rfl, PfxObj.below hI h3, fun k hk => .inl hk, .of h3, .tup rfl ?_⟩
  have hv : RepV w' (fun k => O k ∨ Fp k) noPl (nums .u64 (fArgs (pfxFind width E key))) (.slice ao (fArgs (pfxFind width E key)).length c) :=
    rd_view h1 fun a ha _ hk => by
      have := h2 a ha
      rcases hk with hk | hk
      · have := hO _ hk; omega
      · have := hlt _ hk; omega
  intro j x v hx hv2
  match j with
  | 0 =>
    simp at hx hv2; subst hx hv2
    refine .agg (vs := [_, _]) (by simp [Value.oneCell']) rfl fun j x v hx hv2 => ?_
    match j with
    | 0 => simp [hcells] at hx hv2; subst hx hv2; exact .int
    | 1 => simp [hcells] at hx hv2; subst hx hv2; exact hv
    | j + 2 => simp at hv2
  | 1 => simp at hx hv2; subst hx hv2; exact .int
  | 2 => simp at hx hv2; subst hx hv2; exact .bool
  | j + 3 => simp at hv2
end Go.Proofs.Ytfakdapglbgokaa

/-
  Package prefix, in the plain machine: All. No condition.
-/
namespace Go.Proofs.Ytfakdapglbgokaa
set_option linter.all false
open Go.RowKit
attribute [local go_sem ↓] Go.wp_at_zero Go.wp_at_succ

set_option maxRecDepth 100000 in
set_option maxHeartbeats 2000000 in
theorem pfxAll_any (gt : Nat) (Fp : Nat → Prop) (W : Nat) (most n : Int) (E : PE) (w : World) (h : PfxObj w Fp gt (W : Int) most n E) (hW : W ≤ 64) (hargs : ∀ i v x, E i v = some x → x.2.length ≤ 1000000) (hlen : (allF E W W 0 0).length ≤ 1000000) :
    Calls Try.prog 24 #[.pointer (some ⟨gt, 0, none⟩)] w fun e w' => ∃ ao c, e = .returned (.slice ao (allF E W W 0 0).length c) ∧ OwnE w' w.heap.size (.slice ao (allF E W W 0 0).length c) (allF E W W 0 0) ∧ Below w.heap.size w w' := by
  obtain ⟨M, adr, dat, h1, h2, h3, h4, h5, h6⟩ := h
  have hE : ent adr dat = E := by funext i v; exact h2 i v
  have I := pfxWalk_any gt W w.heap.size most n M adr dat hW (by rw [hE]; exact hargs) (fun k hk => h6 k (h4 k hk)) (fun i v g e => h6 g (h5 i v g e)) (h6 gt h3) W 0 (by omega) 0 (by omega) (by simp) w h1 (Nat.le_refl _) none 0 [] (OwnE.nil _ _) (by rw [hE]; simpa using hlen)
  rw [hE] at I
  have e0 : (0 : Int) * 2 ^ (W - 0) = 0 := by simp
  rw [e0] at I
  simp only [List.nil_append, List.length_nil] at I
  have HI := Lib.hid I
  have g3 := h1.blk.cell 3
  simp at g3
  have gz := h1.blk.lt
  clear I h1 h2 h3 h4 h5 h6 hE e0
  generalize allF E W W 0 0 = L at *
  generalize ptr (adr 0 0) = R at *
  go_enter Try.func24, Try.ntmps24
  go_wp2_with fail
  refine HI.out.mono ?_
  rintro e w' ⟨ao, c, rfl, ho, hb⟩
  go_wp2_with fail
  go_ret
  exact ⟨ao, c, rfl, ho, hb⟩

theorem layP_entry : LayP entryLay ecells :=
  layP_map (fun e : Entry => (e.keys, e.masks, e.len, e.prio, e.act, e.args)) (layP_pair (layP_slice (layP_int .u64)) (layP_pair (layP_slice (layP_int .u64)) (layP_pair (layP_int .i64) (layP_pair (layP_int .i64) (layP_pair (layP_int .i64) (layP_slice (layP_int .u64)))))))
theorem OwnE.mineB {w : World} {B : Nat} {v : Value} {xs : List Entry} (h : OwnE w B v xs) : MineL entryLay (fun k => v.ownBlock = some k ∨ k < B) w B 30 v xs := by
  obtain ⟨⟨cs, ⟨hl, ho⟩, hr⟩, hge⟩ := h
  refine ⟨cs, ⟨hl, ?_⟩, hr⟩
  rcases ho with h0 | ⟨g, cap, cur, rfl, hg, rest⟩
  · exact .inl h0
  · exact .inr ⟨g, cap, cur, rfl, hge g rfl, rest⟩
/-- An own row of entries, as a view. -/
theorem OwnE.view {w : World} {B : Nat} {v : Value} {xs : List Entry} (h : OwnE w B v xs) {A : Nat → Prop} {ρ : Plan_} (hA : ∀ k, A k → k < B) : RepV w A ρ (ents xs) v := by
  obtain ⟨ao, c, rfl, hr, hb⟩ := h.mineB.rd (A' := fun k => k < B) (fun k hk _ => .inr hk) (fun k h1 _ h2 => Nat.not_lt_of_le h1 h2)
  exact (layP_view layP_entry hr).weaken fun k hk _ => hA k hk
theorem pfxAll_s (W : Nat) (most n : Int) (E : PE) (hW : W ≤ 64) (hargs : ∀ i v x, E i v = some x → x.2.length ≤ 1000000) (hlen : (allF E W W 0 0).length ≤ 1000000) (id q : Nat) :
    SCalls Try.prog 24 [.ptr id 0] [(id, .abs (pfxAbs (W : Int) most n E))] q (ents (allF E W W 0 0)) [(id, .abs (pfxAbs (W : Int) most n E))] := by
  refine scalls_in1 (Enters.of Try.func24 rfl (by kernel_rfl)) (fun O Fp w b vs hI hO hd hr => ?_) (fun σ => rfl) id q
  cases hr.nil_inv
  refine (pfxAll_any b Fp W most n E w hI hW hargs hlen).mono ?_
  rintro e w' ⟨ao, c, rfl, ho, hb⟩
  have hlt := (pfxAbs (W : Int) most n E).lt hI
  exact ⟨_, Fp, rfl, PfxObj.below hI hb, fun k hk => .inl hk, .of hb, ho.view fun k hk => hk.elim (hO k) (hlt k)⟩
end Go.Proofs.Ytfakdapglbgokaa

/-
  The law's prefixBegun, in the plain machine. No condition.
-/
namespace Go.Proofs.Ytfakdapglbgokaa
set_option linter.all false
open Go.RowKit
variable {P : Program} {s : SSt} {os : List SOper} {tr : List Tch} {R : SSt → List Tch → Prop} {dst : Option Nat}
/-- A call with objects. -/
theorem call_o {g : FuncId} {args : List SV} {h1 h2 : Hp} {r : SV} (h : SCalls P g args h1 s.nx r h2) (hs : SubH s.hp h1) (hu : Uniq h2)
    (hn : SOps P os ⟨putd s.sl dst r, mergeH s.hp h1 h2, s.nx + 8⟩ (⟨[], (idsH h1 ++ idsH h2).filter fun i => ![].contains i⟩ :: tr) R) : SOpsC P (.fn (.func g) [] []) args dst os s tr R :=
  call_do (by simpa using h) hs hu [] (by simp) hn
def begE1 : PE := pfxAddE 8 4 0 noE 128 1 1 []
def begE2 : PE := pfxAddE 8 4 1 begE1 192 2 2 []
theorem beg_n1 : pfxAddN 8 4 0 noE 128 1 = 1 := by kernel_rfl
theorem beg_c1 : pfxAddC 8 4 0 noE 128 1 = 0 := by kernel_rfl
theorem beg_n2 : pfxAddN 8 4 1 begE1 192 2 = 2 := by kernel_rfl
theorem beg_c2 : pfxAddC 8 4 1 begE1 192 2 = 0 := by kernel_rfl
theorem beg_f1 : pfxFind 8 begE2 255 = some (2, 2, []) := by kernel_rfl
theorem beg_f2 : pfxFind 8 begE2 129 = some (1, 1, []) := by kernel_rfl
theorem beg1 (id q : Nat) : SCalls Try.prog 20 [.ptr id 0, .int .u64 128, .int .i64 1, .agg [.int .i64 1, .nilsl]] [(id, .abs (pfxAbs 8 4 0 noE))] q (.int .i64 0) [(id, .abs (pfxAbs 8 4 1 begE1))] := by
  have := pfxAdd_s 8 4 0 noE 128 1 1 [] (Fits.of_i64 (by decide) (by decide)) (Fits.of_u64 (by decide) (by decide)) (Fits.of_i64 (by decide) (by decide)) (Fits.of_i64 (by decide) (by decide)) (by intro x hx; cases hx) (by simp) (by omega) id q
  rw [beg_c1, beg_n1] at this
  exact scalls_co this ⟨Co.refl _, Co.refl _, Co.refl _, Co.agg ⟨Co.refl _, Co.nilsl 1, trivial⟩, trivial⟩
theorem beg2 (id q : Nat) : SCalls Try.prog 20 [.ptr id 0, .int .u64 192, .int .i64 2, .agg [.int .i64 2, .nilsl]] [(id, .abs (pfxAbs 8 4 1 begE1))] q (.int .i64 0) [(id, .abs (pfxAbs 8 4 2 begE2))] := by
  have := pfxAdd_s 8 4 1 begE1 192 2 2 [] (Fits.of_i64 (by decide) (by decide)) (Fits.of_u64 (by decide) (by decide)) (Fits.of_i64 (by decide) (by decide)) (Fits.of_i64 (by decide) (by decide)) (by intro x hx; cases hx) (by simp) (by omega) id q
  rw [beg_c2, beg_n2] at this
  exact scalls_co this ⟨Co.refl _, Co.refl _, Co.refl _, Co.agg ⟨Co.refl _, Co.nilsl 1, trivial⟩, trivial⟩
theorem entSet_args {E : PE} {i : Nat} {v : Int} {x : Int × List Int} {B : Nat} (h : ∀ i v x, E i v = some x → x.2.length ≤ B) (hx : x.2.length ≤ B) : ∀ j u y, entSet E i v (some x) j u = some y → y.2.length ≤ B := by
  intro j u y hy
  unfold entSet at hy
  split at hy
  · cases hy; exact hx
  · exact h _ _ _ hy
theorem add_args {E : PE} {width most n key k act : Int} {args : List Int} {B : Nat} (h : ∀ i v x, E i v = some x → x.2.length ≤ B) (hx : args.length ≤ B) : ∀ j u y, pfxAddE width most n E key k act args j u = some y → y.2.length ≤ B := by
  unfold pfxAddE
  split
  · exact entSet_args h hx
  · exact h
theorem beg_args : ∀ j u y, begE2 j u = some y → y.2.length ≤ 1000000 := add_args (add_args (by intro i v x hx; cases hx) (by simp)) (by simp)
theorem beg3 (id q : Nat) : SCalls Try.prog 23 [.ptr id 0, .int .u64 255] [(id, .abs (pfxAbs 8 4 2 begE2))] q (.tup [.agg [.int .i64 2, .view 1 []], .int .i64 2, .bool true]) [(id, .abs (pfxAbs 8 4 2 begE2))] := by
  have := pfxFind_s 8 4 2 begE2 255 (Fits.of_i64 (by decide) (by decide)) (Fits.of_u64 (by decide) (by decide)) beg_args id q
  rw [beg_f1] at this
  exact this
theorem beg4 (id q : Nat) : SCalls Try.prog 23 [.ptr id 0, .int .u64 129] [(id, .abs (pfxAbs 8 4 2 begE2))] q (.tup [.agg [.int .i64 1, .view 1 []], .int .i64 1, .bool true]) [(id, .abs (pfxAbs 8 4 2 begE2))] := by
  have := pfxFind_s 8 4 2 begE2 129 (Fits.of_i64 (by decide) (by decide)) (Fits.of_u64 (by decide) (by decide)) beg_args id q
  rw [beg_f2] at this
  exact this
theorem pbeg_s : SCalls Try.prog 15 [] [] 0 (.bool true) [] := by
  refine scalls_of (N := 59) Try.func15 rfl rfl (by kernel_rfl) comp_c_pbeg (by simp) trivial trivial ?_
  rintro X hP hN hm
  unfold c_pbeg
  refine swp_seq (swp_reg ?_)
  simp -implicitDefEqProofs [c_pbeg_r1, sops_nil, sops_run, sopsk_some, sops_call, sops_guard, sopsg_yes, sopsg_tf, sopsg_ft, sopsg_undef, rg_true, SOp.run, SX.ev, putd, puts, argS, upds, SOp.touch, SSt.keep, SSt.skip, gets, geth, puth, delh, idOf, SV.cells?, setL, fillS, fillR, sbin, eq0, eq1, eqL, rowOf, qseq_n, qseq_e, qseq_r, qblock_n, qblock_r, qblock_e, qloop_e, qloop_r]
  refine swp_seq (swp_reg ?_)
  rw [hP]
  simp -implicitDefEqProofs [c_pbeg_r2, sops_nil, sops_run, sopsk_some, sops_call, sops_guard, sopsg_yes, sopsg_tf, sopsg_ft, sopsg_undef, rg_true, SOp.run, SX.ev, putd, puts, argS, upds, SOp.touch, SSt.keep, SSt.skip, gets, geth, puth, delh, idOf, SV.cells?, setL, fillS, fillR, sbin, eq0, eq1, eqL, rowOf, qseq_n, qseq_e, qseq_r, qblock_n, qblock_r, qblock_e, qloop_e, qloop_r]
  refine call_o (pfxNew_s 8 4 _) trivial ⟨rfl, trivial⟩ ?_
  simp -implicitDefEqProofs [sops_nil, sops_run, sopsk_some, sops_call, sops_guard, sopsg_yes, sopsg_tf, sopsg_ft, sopsg_undef, rg_true, SOp.run, SX.ev, putd, puts, argS, upds, SOp.touch, SSt.keep, SSt.skip, gets, geth, puth, delh, idOf, SV.cells?, setL, fillS, fillR, sbin, eq0, eq1, eqL, rowOf, qseq_n, qseq_e, qseq_r, qblock_n, qblock_r, qblock_e, qloop_e, qloop_r, mergeH, dels, adds, puth, delh, geth, idsH]
  refine swp_seq (swp_reg ?_)
  rw [hP]
  simp -implicitDefEqProofs [c_pbeg_r3, sops_nil, sops_run, sopsk_some, sops_call, sops_guard, sopsg_yes, sopsg_tf, sopsg_ft, sopsg_undef, rg_true, SOp.run, SX.ev, putd, puts, argS, upds, SOp.touch, SSt.keep, SSt.skip, gets, geth, puth, delh, idOf, SV.cells?, setL, fillS, fillR, sbin, eq0, eq1, eqL, rowOf, qseq_n, qseq_e, qseq_r, qblock_n, qblock_r, qblock_e, qloop_e, qloop_r]
  refine call_o (beg1 _ _) ⟨rfl, trivial⟩ ⟨rfl, trivial⟩ ?_
  simp -implicitDefEqProofs [sops_nil, sops_run, sopsk_some, sops_call, sops_guard, sopsg_yes, sopsg_tf, sopsg_ft, sopsg_undef, rg_true, SOp.run, SX.ev, putd, puts, argS, upds, SOp.touch, SSt.keep, SSt.skip, gets, geth, puth, delh, idOf, SV.cells?, setL, fillS, fillR, sbin, eq0, eq1, eqL, rowOf, qseq_n, qseq_e, qseq_r, qblock_n, qblock_r, qblock_e, qloop_e, qloop_r, mergeH, dels, adds, puth, delh, geth, idsH]
  refine swp_seq (swp_reg ?_)
  rw [hP]
  simp -implicitDefEqProofs [c_pbeg_r4, sops_nil, sops_run, sopsk_some, sops_call, sops_guard, sopsg_yes, sopsg_tf, sopsg_ft, sopsg_undef, rg_true, SOp.run, SX.ev, putd, puts, argS, upds, SOp.touch, SSt.keep, SSt.skip, gets, geth, puth, delh, idOf, SV.cells?, setL, fillS, fillR, sbin, eq0, eq1, eqL, rowOf, qseq_n, qseq_e, qseq_r, qblock_n, qblock_r, qblock_e, qloop_e, qloop_r]
  refine call_o (beg2 _ _) ⟨rfl, trivial⟩ ⟨rfl, trivial⟩ ?_
  simp -implicitDefEqProofs [sops_nil, sops_run, sopsk_some, sops_call, sops_guard, sopsg_yes, sopsg_tf, sopsg_ft, sopsg_undef, rg_true, SOp.run, SX.ev, putd, puts, argS, upds, SOp.touch, SSt.keep, SSt.skip, gets, geth, puth, delh, idOf, SV.cells?, setL, fillS, fillR, sbin, eq0, eq1, eqL, rowOf, qseq_n, qseq_e, qseq_r, qblock_n, qblock_r, qblock_e, qloop_e, qloop_r, mergeH, dels, adds, puth, delh, geth, idsH]
  refine swp_seq (swp_reg ?_)
  rw [hP]
  simp -implicitDefEqProofs [c_pbeg_r5, sops_nil, sops_run, sopsk_some, sops_call, sops_guard, sopsg_yes, sopsg_tf, sopsg_ft, sopsg_undef, rg_true, SOp.run, SX.ev, putd, puts, argS, upds, SOp.touch, SSt.keep, SSt.skip, gets, geth, puth, delh, idOf, SV.cells?, setL, fillS, fillR, sbin, eq0, eq1, eqL, rowOf, qseq_n, qseq_e, qseq_r, qblock_n, qblock_r, qblock_e, qloop_e, qloop_r]
  refine call_o (beg3 _ _) ⟨rfl, trivial⟩ ⟨rfl, trivial⟩ ?_
  simp -implicitDefEqProofs [sops_nil, sops_run, sopsk_some, sops_call, sops_guard, sopsg_yes, sopsg_tf, sopsg_ft, sopsg_undef, rg_true, SOp.run, SX.ev, putd, puts, argS, upds, SOp.touch, SSt.keep, SSt.skip, gets, geth, puth, delh, idOf, SV.cells?, setL, fillS, fillR, sbin, eq0, eq1, eqL, rowOf, qseq_n, qseq_e, qseq_r, qblock_n, qblock_r, qblock_e, qloop_e, qloop_r, mergeH, dels, adds, puth, delh, geth, idsH]
  refine swp_seq (swp_reg ?_)
  rw [hP]
  simp -implicitDefEqProofs [c_pbeg_r6, sops_nil, sops_run, sopsk_some, sops_call, sops_guard, sopsg_yes, sopsg_tf, sopsg_ft, sopsg_undef, rg_true, SOp.run, SX.ev, putd, puts, argS, upds, SOp.touch, SSt.keep, SSt.skip, gets, geth, puth, delh, idOf, SV.cells?, setL, fillS, fillR, sbin, eq0, eq1, eqL, rowOf, qseq_n, qseq_e, qseq_r, qblock_n, qblock_r, qblock_e, qloop_e, qloop_r]
  refine call_o (beg4 _ _) ⟨rfl, trivial⟩ ⟨rfl, trivial⟩ ?_
  simp -implicitDefEqProofs [sops_nil, sops_run, sopsk_some, sops_call, sops_guard, sopsg_yes, sopsg_tf, sopsg_ft, sopsg_undef, rg_true, SOp.run, SX.ev, putd, puts, argS, upds, SOp.touch, SSt.keep, SSt.skip, gets, geth, puth, delh, idOf, SV.cells?, setL, fillS, fillR, sbin, eq0, eq1, eqL, rowOf, qseq_n, qseq_e, qseq_r, qblock_n, qblock_r, qblock_e, qloop_e, qloop_r, mergeH, dels, adds, puth, delh, geth, idsH]
  refine swp_seq (swp_reg ?_)
  simp -implicitDefEqProofs [c_pbeg_r7, sops_nil, sops_run, sopsk_some, sops_call, sops_guard, sopsg_yes, sopsg_tf, sopsg_ft, sopsg_undef, rg_true, SOp.run, SX.ev, putd, puts, argS, upds, SOp.touch, SSt.keep, SSt.skip, gets, geth, puth, delh, idOf, SV.cells?, setL, fillS, fillR, sbin, eq0, eq1, eqL, rowOf, qseq_n, qseq_e, qseq_r, qblock_n, qblock_r, qblock_e, qloop_e, qloop_r]
  exact swp_ret (qfun_done (s' := ⟨[(0, .bool true)], [], 0⟩) (wk_list [] hm rfl (Nat.le_refl _) (by simp -implicitDefEqProofs [take_map_len, FrzOk, pureV_int, pureV_bool, pureV_str, pureV_nil, pureV_nilsl, pureV_view, pureV_cp, pureL_nil_, pureL_cons_, pureO_row, pureO_cells, frzS, frzH, frz, frz1, frz0, SlotsM, ObjsM, ObjM, rn, ren, ren1, ren0, gets, geth, co_self, co_int, co_own, co_view, co_nilsl, co_agg, co_tup, CoL, coll_self]) trivial) rfl trivial (by simp))
end Go.Proofs.Ytfakdapglbgokaa
