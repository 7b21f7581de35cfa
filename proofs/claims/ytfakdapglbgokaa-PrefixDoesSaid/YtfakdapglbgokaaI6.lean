/-
  Texts joined: XPfxZ XPfxA XEqN XWordP XEnt XOwn XShA. No condition.
-/
import Derived.Test.YtfakdapglbgokaaProg
import Derived.Laws.StructEq
import Derived.Laws.Pointers
import Derived.ChangeKeysEq
import Derived.Handy
import Derived.ProofKit
import Derived.Laws.Entries
import Derived.Test.YtfakdapglbgokaaI5
import Derived.Test.YtfakdapglbgokaaI3
import Derived.Test.YtfakdapglbgokaaI2
import Derived.Test.YtfakdapglbgokaaI1
/-
  Package prefix: what is said at a node; the object. No condition.
-/
namespace Go.Proofs.Ytfakdapglbgokaa
set_option linter.all false
open Go.RowKit
attribute [local go_sem ↓] Go.wp_at_zero Go.wp_at_succ

/-- Something else is said at a node. -/
theorem Pfx.say {w w' : World} {gt : Nat} {width most n : Int} {M M' : Nat → Prop} {adr : Nat → Int → Option Nat} {dat : Nat → Int → Dat} (h : Pfx w gt width most n M adr dat) {i : Nat} {v : Int} {g : Nat} (hg : adr i v = some g) (hs : Step (fun k => k = g) w w')
    (hM : ∀ k, M k → M' k) (hM2 : ∀ k, M' k → M k ∨ w.heap.size ≤ k) (hM3 : ∀ k, M' k → k < w'.heap.size) {d : Dat} (hb : NodeAt w' M' adr i v g d) : Pfx w' gt width most n M' adr (datSet dat i v d) := by
  have hold : ∀ k, k < w.heap.size → ¬ M k → ¬ M' k := fun k hk hn hm => (hM2 k hm).elim hn fun h2 => Nat.not_lt_of_le h2 hk
  have hng : ¬ gt = g := fun e => h.ne hg e.symm
  refine ⟨(hs.block gt h.blk.lt hng).trans h.blk, ⟨fun j u b e => ?_, h.trie.inj, h.trie.up, hM3⟩, hold _ h.blk.lt h.out, h.root⟩
  obtain ⟨⟨ao, an, ac, b1, b2, b3⟩, b4⟩ := h.trie.node j u b e
  refine ⟨?_, hold _ b1.lt b4⟩
  by_cases hx : j = i ∧ u = v
  · obtain ⟨rfl, rfl⟩ := hx
    rw [hg] at e
    cases e
    rw [datSet_at]
    exact hb
  · rw [datSet_ne hx]
    have hbg : ¬ b = g := fun e2 => hx (h.trie.inj j u i v g (by rw [e, e2]) hg)
    refine ⟨ao, an, ac, (hs.block b b1.lt hbg).trans b1, ?_, b3⟩
    have h1 := b2.step (hs.mono fun k hk => by subst hk; exact (h.trie.node _ _ _ hg).2)
    exact h1.weaken fun k hk _ hm => hk (hM k hm)
/-- Another count. -/
theorem Pfx.count {w : World} {gt : Nat} {width most n : Int} {M : Nat → Prop} {adr : Nat → Int → Option Nat} {dat : Nat → Int → Dat} (h : Pfx w gt width most n M adr dat) (n' : Int) : Pfx (w.setCell ⟨gt, 2, none⟩ (.int .i64 n')) gt width most n' M adr dat := by
  have hs := Step.set (fun k => k = gt) w ⟨gt, 2, none⟩ rfl (.int .i64 n')
  refine ⟨by have := h.blk.set_ 2 (.int .i64 n'); simpa using this, h.trie.step hs (fun k hk => by subst hk; exact h.out) (fun i v g e hk => h.ne e hk), h.out, h.root⟩
/-- What a table says at a beginning. -/
def ent (adr : Nat → Int → Option Nat) (dat : Nat → Int → Dat) (i : Nat) (v : Int) : Option (Int × List Int) := match adr i v with
  | some _ => if (dat i v).there then some ((dat i v).act, (dat i v).args) else none
  | none => none
theorem ent_none {adr : Nat → Int → Option Nat} {dat : Nat → Int → Dat} {i : Nat} {v : Int} (h : adr i v = none) : ent adr dat i v = none := by unfold ent; rw [h]
theorem ent_some {adr : Nat → Int → Option Nat} {dat : Nat → Int → Dat} {i : Nat} {v : Int} {g : Nat} (h : adr i v = some g) : ent adr dat i v = if (dat i v).there then some ((dat i v).act, (dat i v).args) else none := by unfold ent; rw [h]
/-- A table as an object: what it says ('E'); the blocks that are its own ('Fp'). -/
def PfxObj (w : World) (Fp : Nat → Prop) (gt : Nat) (width most n : Int) (E : Nat → Int → Option (Int × List Int)) : Prop :=
  ∃ M adr dat, Pfx w gt width most n M adr dat ∧ (∀ i v, ent adr dat i v = E i v) ∧ Fp gt ∧ (∀ k, M k → Fp k) ∧ (∀ i v g, adr i v = some g → Fp g) ∧ ∀ k, Fp k → k < w.heap.size
theorem PfxObj.below {w w' : World} {Fp : Nat → Prop} {gt : Nat} {width most n : Int} {E : Nat → Int → Option (Int × List Int)} (h : PfxObj w Fp gt width most n E) (hb : Below w.heap.size w w') : PfxObj w' Fp gt width most n E := by
  obtain ⟨M, adr, dat, h1, h2, h3, h4, h5, h6⟩ := h
  exact ⟨M, adr, dat, h1.below hb, h2, h3, h4, h5, fun k hk => Nat.lt_of_lt_of_le (h6 k hk) hb.size⟩
instance {Fp : Nat → Prop} {gt : Nat} {width most n : Int} {E : Nat → Int → Option (Int × List Int)} : Mono (fun w => PfxObj w Fp gt width most n E) := ⟨fun h hb => h.below hb⟩
theorem PfxObj.step {w w' : World} {Fp : Nat → Prop} {gt : Nat} {width most n : Int} {E : Nat → Int → Option (Int × List Int)} (h : PfxObj w Fp gt width most n E) {S : Nat → Prop} (hs : Step S w w') (hd : ∀ k, S k → ¬ Fp k) : PfxObj w' Fp gt width most n E := by
  obtain ⟨M, adr, dat, h1, h2, h3, h4, h5, h6⟩ := h
  exact ⟨M, adr, dat, ⟨(hs.block gt h1.blk.lt fun hk => hd _ hk h3).trans h1.blk, h1.trie.step hs (fun k hk hm => hd k hk (h4 k hm)) (fun i v g e hk => hd g hk (h5 i v g e)), h1.out, h1.root⟩, h2, h3, h4, h5, fun k hk => Nat.lt_of_lt_of_le (h6 k hk) hs.size⟩
def entSet (E : Nat → Int → Option (Int × List Int)) (i : Nat) (v : Int) (x : Option (Int × List Int)) : Nat → Int → Option (Int × List Int) := fun j u => if j = i ∧ u = v then x else E j u
/-- What Add answers. -/
def pfxAddC (width most n : Int) (E : Nat → Int → Option (Int × List Int)) (key k : Int) : Int :=
  if pfits width key k = false then 6 else if (E k.toNat (pre width.toNat key k.toNat)).isSome then 7 else if most ≤ n then 10 else 0
def pfxAddN (width most n : Int) (E : Nat → Int → Option (Int × List Int)) (key k : Int) : Int := if pfxAddC width most n E key k = 0 then n + 1 else n
def pfxAddE (width most n : Int) (E : Nat → Int → Option (Int × List Int)) (key k act : Int) (args : List Int) : Nat → Int → Option (Int × List Int) := if pfxAddC width most n E key k = 0 then entSet E k.toNat (pre width.toNat key k.toNat) (some (act, args)) else E
theorem pfxAdd_no {width most n : Int} {E : Nat → Int → Option (Int × List Int)} {key k : Int} (h : pfxAddC width most n E key k ≠ 0) (act : Int) (args : List Int) : pfxAddN width most n E key k = n ∧ pfxAddE width most n E key k act args = E := by unfold pfxAddN pfxAddE; rw [if_neg h, if_neg h]; exact ⟨rfl, rfl⟩
theorem pfxAdd_yes {width most n : Int} {E : Nat → Int → Option (Int × List Int)} {key k : Int} (h : pfxAddC width most n E key k = 0) (act : Int) (args : List Int) : pfxAddN width most n E key k = n + 1 ∧ pfxAddE width most n E key k act args = entSet E k.toNat (pre width.toNat key k.toNat) (some (act, args)) := by unfold pfxAddN pfxAddE; rw [if_pos h, if_pos h]; exact ⟨rfl, rfl⟩
theorem pfits_true {width key k : Int} (h : pfits width key k = true) : ∃ W K : Nat, width = W ∧ k = K ∧ 1 ≤ W ∧ W ≤ 64 ∧ K ≤ W ∧ key < 2 ^ W ∧ key % 2 ^ (W - K) = 0 := by
  unfold pfits at h
  rw [decide_eq_true_iff] at h
  obtain ⟨h1, h2, h3, h4, h5, h6⟩ := h
  refine ⟨width.toNat, k.toNat, by omega, by omega, by omega, by omega, by omega, h5, ?_⟩
  rw [show width.toNat - k.toNat = (width - k).toNat by omega]; exact h6
theorem Grown.ent {w wr : World} {adr adr' : Nat → Int → Option Nat} {dat dat' : Nat → Int → Dat} (h : Grown w wr adr adr' dat dat') (i : Nat) (v : Int) : ent adr' dat' i v = ent adr dat i v := by
  cases e : adr' i v with
  | none =>
    rw [ent_none e]
    cases e2 : adr i v with
    | none => rw [ent_none e2]
    | some g => have := (h.old i v g e2).1; rw [e] at this; cases this
  | some g =>
    rw [ent_some e]
    rcases h.new i v g e with e2 | ⟨_, e2, e3⟩
    · rw [ent_some e2, (h.old i v g e2).2]
    · rw [ent_none e2, e3]; rfl
/-- What is said anew at a node: the world then. -/
def saidW (w4 : World) (g : Nat) (act : Int) (sl : Value) : World := ((w4.setCell ⟨g, 0, none⟩ (.bool true)).setCell ⟨g, 1, none⟩ (.int .i64 act)).setCell ⟨g, 2, none⟩ sl
theorem saidW_step (w4 : World) (g : Nat) (act : Int) (sl : Value) : Step (fun k => k = g) w4 (saidW w4 g act sl) :=
  ((Step.set (fun k => k = g) w4 ⟨g, 0, none⟩ rfl _).trans (Step.set (fun k => k = g) _ ⟨g, 1, none⟩ rfl _)).trans (Step.set (fun k => k = g) _ ⟨g, 2, none⟩ rfl _)
theorem Pfx.said {w3 w4 : World} {gt : Nat} {width most n act : Int} {args : List Int} {M : Nat → Prop} {adr : Nat → Int → Option Nat} {dat : Nat → Int → Dat} (h : Pfx w3 gt width most n M adr dat) {i : Nat} {v : Int} {g : Nat} (hg : adr i v = some g) (hb : Below w3.heap.size w3 w4) {a4 : Option Addr} {n4 c4 : Nat}
    (hm : Mine w4 w3.heap.size 23 .u64 (.slice a4 n4 c4) args) (hact : Fits .i64 act) :
    Pfx (saidW w4 g act (.slice a4 n4 c4)) gt width most n (fun k => M k ∨ (Value.slice a4 n4 c4).ownBlock = some k) adr (datSet dat i v ⟨true, act, args⟩) := by
  have hs := saidW_step w4 g act (.slice a4 n4 c4)
  obtain ⟨⟨ao, an, ac, b1, b2, b3⟩, b4⟩ := h.trie.node i v g hg
  have B4 := b1.below hb b1.lt
  refine h.say hg ((Step.of hb).trans hs) (fun k hk => .inl hk) (fun k hk => hk.imp id fun e => (hm.1.lt k e).1) (fun k hk => ?_) ?_
  · have h2 : (saidW w4 g act (.slice a4 n4 c4)).heap.size = w4.heap.size := by simp [saidW, World.setCell]
    rw [h2]
    rcases hk with hk | hk
    · exact Nat.lt_of_lt_of_le (h.trie.lt k hk) hb.size
    · exact (hm.1.lt k hk).2
  · refine ⟨a4, n4, c4, ?_, ?_, hact⟩
    · have := ((B4.set_ 0 (.bool true)).set_ 1 (.int .i64 act)).set_ 2 (.slice a4 n4 c4)
      unfold saidW
      simpa using this
    · have hr := hm.rd_
      have hne : ∀ b off, a4 = some ⟨b, off, none⟩ → 0 < n4 → ¬ (fun k => k = g) b := by
        intro b off e _ hbg
        have hown : (Value.slice a4 n4 c4).ownBlock = some g := by rw [e]; show some b = some g; rw [show b = g from hbg]
        have := (hm.1.lt g hown).1
        exact Nat.not_lt_of_le this b1.lt
      have hr2 : Rd (saidW w4 g act (.slice a4 n4 c4)) .u64 a4 n4 c4 args := by
        have hl := hr.len
        refine ⟨hr.len, hr.fit, hr.le, hr.max, fun h0 => ?_, hr.nil⟩
        obtain ⟨b, off, e, hc⟩ := hr.here h0
        exact ⟨b, off, e, fun j hj => hs.cell (hc j hj) (hne b off e (by omega))⟩
      refine hr2.lay _ fun a ha _ hk => hk (.inr ?_)
      rw [ha]; rfl
theorem PfxObj.added {w w2 w3 w4 : World} {Fp : Nat → Prop} {gt : Nat} {width most n act : Int} {args : List Int} {M : Nat → Prop} {adr adr' : Nat → Int → Option Nat} {dat dat' : Nat → Int → Dat} {E : Nat → Int → Option (Int × List Int)} (n' : Int)
    (h2 : ∀ i v, ent adr dat i v = E i v) (h3 : Fp gt) (h4 : ∀ k, M k → Fp k) (h5 : ∀ i v g, adr i v = some g → Fp g) (h6 : ∀ k, Fp k → k < w.heap.size) (hB : Below w.heap.size w w2) (hG : Grown w2 w3 adr adr' dat dat') (hP : Pfx w3 gt width most n M adr' dat')
    {i : Nat} {v : Int} {g : Nat} (hg : adr' i v = some g) (hb : Below w3.heap.size w3 w4) {a4 : Option Addr} {n4 c4 : Nat} (hm : Mine w4 w3.heap.size 23 .u64 (.slice a4 n4 c4) args) (hact : Fits .i64 act) :
    ∃ Fp', PfxObj ((saidW w4 g act (.slice a4 n4 c4)).setCell ⟨gt, 2, none⟩ (.int .i64 n')) Fp' gt width most n' (entSet E i v (some (act, args))) ∧ (∀ b, Fp' b → Fp b ∨ w.heap.size ≤ b) ∧ Step Fp w ((saidW w4 g act (.slice a4 n4 c4)).setCell ⟨gt, 2, none⟩ (.int .i64 n')) := by
  have hnode : ∀ i v b, adr' i v = some b → Fp b ∨ w.heap.size ≤ b := fun i v b e => by
    rcases hG.new i v b e with h | ⟨h, _⟩
    · exact .inl (h5 i v b h)
    · exact .inr (Nat.le_trans hB.size h)
  have hsz : w.heap.size ≤ w3.heap.size := Nat.le_trans hB.size hG.step.size
  have hown : ∀ k, (Value.slice a4 n4 c4).ownBlock = some k → w3.heap.size ≤ k ∧ k < w4.heap.size := fun k hk => hm.1.lt k hk
  have hs2 : (saidW w4 g act (.slice a4 n4 c4)).heap.size = w4.heap.size := by simp [saidW, World.setCell]
  refine ⟨fun b => Fp b ∨ (∃ i v, adr' i v = some b) ∨ (Value.slice a4 n4 c4).ownBlock = some b, ⟨_, adr', datSet dat' i v ⟨true, act, args⟩, (hP.said hg hb hm hact).count n', fun j u => ?_, .inl h3, fun k hk => ?_, fun j u b e => .inr (.inl ⟨j, u, e⟩), fun k hk => ?_⟩, fun b hk => ?_, ?_⟩
  · unfold entSet
    by_cases hx : j = i ∧ u = v
    · obtain ⟨rfl, rfl⟩ := hx
      rw [if_pos ⟨rfl, rfl⟩, ent_some hg, datSet_at]; rfl
    · rw [if_neg hx, ← h2 j u, ← hG.ent j u]
      unfold ent
      rw [datSet_ne hx]
  · rcases hk with hk | hk
    · exact .inl (h4 k hk)
    · exact .inr (.inr hk)
  · have : ((saidW w4 g act (.slice a4 n4 c4)).setCell ⟨gt, 2, none⟩ (.int .i64 n')).heap.size = w4.heap.size := by rw [← hs2]; simp [World.setCell]
    rw [this]
    rcases hk with hk | ⟨j, u, e⟩ | hk
    · exact Nat.lt_of_lt_of_le (h6 k hk) (Nat.le_trans hsz hb.size)
    · obtain ⟨⟨_, _, _, b1, _⟩, _⟩ := hP.trie.node j u k e
      exact Nat.lt_of_lt_of_le b1.lt hb.size
    · exact (hown k hk).2
  · rcases hk with hk | ⟨j, u, e⟩ | hk
    · exact .inl hk
    · exact hnode j u b e
    · exact .inr (Nat.le_trans hsz (hown b hk).1)
  · have s1 : Step Fp w w3 := ((Step.of hB : Step Fp w w2)).trans (hG.step.mono fun b ⟨j, u, e⟩ => h5 j u b e)
    refine ((s1.trans (Step.of hb)).fresh (saidW_step w4 g act (.slice a4 n4 c4)) fun b hbg => ?_).trans (Step.set Fp _ ⟨gt, 2, none⟩ h3 _)
    rw [show b = g from hbg]
    exact hnode i v g hg
end Go.Proofs.Ytfakdapglbgokaa

/-
  Package prefix: Add. No condition.
-/
namespace Go.Proofs.Ytfakdapglbgokaa
set_option linter.all false
open Go.RowKit
attribute [local go_sem ↓] Go.wp_at_zero Go.wp_at_succ

theorem Rd.step_ {w w' : World} {k : IntKind} {ao : Option Addr} {n cap : Nat} {xs : List Int} (h : Rd w k ao n cap xs) {S : Nat → Prop} (hs : Step S w w') (hS : ∀ b off, ao = some ⟨b, off, none⟩ → 0 < n → ¬ S b) : Rd w' k ao n cap xs := by
  have hl := h.len
  refine ⟨h.len, h.fit, h.le, h.max, fun h0 => ?_, h.nil⟩
  obtain ⟨b, off, e, hc⟩ := h.here h0
  exact ⟨b, off, e, fun i hi => hs.cell (hc i hi) (hS b off e (by omega))⟩
theorem Below.drew0_ (w : World) : Below w.heap.size w w.drew := ⟨rfl, rfl, rfl, Nat.le_refl _, fun _ _ => rfl⟩
/-- Numbers do not lie in nodes. -/
theorem Rd.noNode {w : World} {ao : Option Addr} {n cap : Nat} {xs : List Int} (h : Rd w .u64 ao n cap xs) {M : Nat → Prop} {adr : Nat → Int → Option Nat} {dat : Nat → Int → Dat} (ht : Trie w M adr dat) : ∀ b off, ao = some ⟨b, off, none⟩ → 0 < n → ¬ ∃ i v, adr i v = some b := by
  rintro b off e h0 ⟨i, v, hg⟩
  have hl := h.len
  obtain ⟨b2, off2, e2, hc⟩ := h.here (by omega)
  rw [e] at e2
  cases e2
  have hx := hc 0 (by omega)
  obtain ⟨⟨a1, a2, a3, hb, _⟩, _⟩ := ht.node i v b hg
  rw [Nat.add_zero, hb.cell] at hx
  have : off = 0 ∨ off = 1 ∨ off = 2 ∨ off = 3 ∨ off = 4 ∨ 5 ≤ off := by omega
  rcases this with rfl | rfl | rfl | rfl | rfl | h5
  · simp at hx
  · simp at hx
  · simp at hx
  · simp [ptr] at hx
  · simp [ptr] at hx
  · rw [Array.getElem?_eq_none (by simpa using h5)] at hx; cases hx

set_option maxRecDepth 100000 in
set_option maxHeartbeats 4000000 in
theorem pfxAdd_any (gt : Nat) (Fp : Nat → Prop) (width most n key k act : Int) (ao : Option Addr) (an ac : Nat) (args : List Int) (E : Nat → Int → Option (Int × List Int)) (w : World) (h : PfxObj w Fp gt width most n E) (hw : Fits .i64 width) (hkey : Fits .u64 key) (hk : Fits .i64 k) (hact : Fits .i64 act) (hr : Rd w .u64 ao an ac args) (han : an ≤ 1000000) (hn : 0 ≤ n ∧ n ≤ 1000000) :
    Calls Try.prog 20 #[.pointer (some ⟨gt, 0, none⟩), .int .u64 key, .int .i64 k, .agg #[.int .i64 act, .slice ao an ac]] w fun e w' => e = .returned (.int .i64 (pfxAddC width most n E key k)) ∧
      ∃ Fp', PfxObj w' Fp' gt width most (pfxAddN width most n E key k) (pfxAddE width most n E key k act args) ∧ (∀ b, Fp' b → Fp b ∨ w.heap.size ≤ b) ∧ Step Fp w w' := by
  have HO := Lib.hid h
  obtain ⟨M, adr, dat, h1, h2, h3, h4, h5, h6⟩ := h
  have hal := al (rf w) (.cells #[.int .i64 act, .slice ao an ac] 37)
  have H1 := Lib.hid (h1.below hal)
  by_cases hf : pfits width key k = true
  case neg =>
    have hf' : pfits width key k = false := by simpa using hf
    have hc : pfxAddC width most n E key k = 6 := by unfold pfxAddC; rw [if_pos hf']
    obtain ⟨e1, e2⟩ := pfxAdd_no (show pfxAddC width most n E key k ≠ 0 by rw [hc]; decide) act args
    rw [hc, e1, e2]
    have HF := Lib.hid hf'
    clear hf hf' hc e1 e2 h6 h5 h4 h3 h2
    go_enter Try.func20, Try.ntmps20
    go_wp2_with fail
    refine (pfxFits_any _ _ _ _ _ _ _ _ _ _ H1.out hw hk hkey).mono ?_
    rintro e w' ⟨rfl, rfl⟩
    rw [HF.out]
    go_wp2_with fail
    go_ret
    exact ⟨rfl, Fp, HO.out.below hal, fun b hb => .inl hb, Step.of hal⟩
  obtain ⟨W, K, rfl, rfl, hW1, hW, hK, hlt, hmod⟩ := pfits_true hf
  have HF := Lib.hid hf
  have hE := h2 K (pre W key K)
  have HA := Lib.hid (pfxAt_any gt W K key most n M adr dat)
  go_enter Try.func20, Try.ntmps20
  go_wp2_with fail
  refine (pfxFits_any _ _ _ _ _ _ _ _ _ _ H1.out hw hk hkey).mono ?_
  rintro e w' ⟨rfl, rfl⟩
  rw [HF.out]
  go_wp2_with fail
  refine (pfxAt_any gt W K key most n M adr dat _ H1.out hW hK hkey hlt).mono ?_
  rintro e w2 ⟨rfl, hb2⟩
  have hB2 := ov hal hb2
  have H2 := Lib.hid (H1.out.below hb2)
  have hbox : w2.cell? ⟨w.heap.size, 0, none⟩ = some (.int .i64 act) ∧ w2.cell? ⟨w.heap.size, 1, none⟩ = some (.slice ao an ac) := by
    obtain ⟨x, y⟩ := (Blk.new w 37 #[.int .i64 act, .slice ao an ac]).two
    exact ⟨keep x hb2, keep y hb2⟩
  obtain ⟨hx0, hx1⟩ := hbox
  have hxz : w.heap.size < w2.heap.size := by have := hb2.size; simp at this; omega
  clear hb2 hal
  have hcs : (∃ g, adr K (pre W key K) = some g ∧ (dat K (pre W key K)).there = true) ∨ (E K (pre W key K) = none ∧ (adr K (pre W key K) = none ∨ ∃ g, adr K (pre W key K) = some g ∧ (dat K (pre W key K)).there = false)) := by
    cases e : adr K (pre W key K) with
    | none => exact .inr ⟨by rw [← hE, ent_none e], .inl rfl⟩
    | some g =>
      cases t : (dat K (pre W key K)).there with
      | true => exact .inl ⟨g, rfl, rfl⟩
      | false => exact .inr ⟨by rw [← hE, ent_some e, t]; rfl, .inr ⟨g, rfl, rfl⟩⟩
  rcases hcs with ⟨g, e, t⟩ | ⟨hE0, hcs⟩
  · have hc : Hid (pfxAddC (W : Int) most n E key (K : Int) = 7) := by
      show _ = _
      unfold pfxAddC
      rw [if_neg (by rw [HF.out]; decide), if_pos]
      show (E K (pre W key K)).isSome = true
      rw [← hE, ent_some e, t]; rfl
    rw [e, ptr_some]
    obtain ⟨_, _, _, y0, _, _, _, _, _, hgz, _⟩ := H2.out.trie.cells e
    rw [t] at y0
    clear hx0 hx1 hE t e h2 h3 h4 h5 h6 h1
    go_wp2_with fail
    go_ret
    obtain ⟨e1, e2⟩ := pfxAdd_no (show pfxAddC (W : Int) most n E key (K : Int) ≠ 0 by rw [hc.out]; decide) act args
    rw [hc.out, e1, e2]
    exact ⟨rfl, Fp, HO.out.step (S := fun _ => False) (Step.of hB2) (fun _ h => h.elim), fun b hb => .inl hb, Step.of hB2⟩
  have HE0 := Lib.hid hE0
  have T0 := H2.out.blk.cell 1
  have T1 := H2.out.blk.cell 2
  simp at T0 T1
  have Tz := H2.out.blk.lt
  have hc : Hid (pfxAddC (W : Int) most n E key (K : Int) = if most ≤ n then 10 else 0) := by
    show _ = _
    unfold pfxAddC
    rw [if_neg (by rw [HF.out]; decide), if_neg]
    show ¬ (E K (pre W key K)).isSome = true
    rw [HE0.out]; decide
  have H6 := Lib.hid h6
  have H5 := Lib.hid h5
  have H24 := Lib.hid (And.intro h2 h4)
  have hCs := hcs
  clear hE hE0 h1 h2 h4 h5 h6 hCs
  have hmd : ∃ p : Value, ptr (adr K (pre W key K)) = p ∧ (p = .pointer none ∨ ∃ g, p = .pointer (some ⟨g, 0, none⟩) ∧ w2.cell? ⟨g, 0, none⟩ = some (.bool false) ∧ g < w2.heap.size) := by
    rcases hcs with e | ⟨g, e, t⟩
    · exact ⟨_, by rw [e]; rfl, .inl rfl⟩
    · obtain ⟨_, _, _, y0, _, _, _, _, _, hgz, _⟩ := H2.out.trie.cells e
      rw [t] at y0
      exact ⟨_, by rw [e]; rfl, .inr ⟨g, rfl, y0, hgz⟩⟩
  obtain ⟨p, hp, hpc⟩ := hmd
  rw [hp]
  clear hp hcs
  by_cases hfull : most ≤ n
  · have hfull' : decide (most ≤ n) = true := decide_eq_true hfull
    have hc2 : Hid (pfxAddC (W : Int) most n E key (K : Int) = 10) := by show _ = _; rw [hc.out, if_pos hfull]
    clear hx0 hx1
    rcases hpc with rfl | ⟨g, rfl, y0, hgz⟩
    all_goals
      go_wp2_with fail
      go_big_quiet (fail)
      go_wp2_with fail
      go_ret
      obtain ⟨e1, e2⟩ := pfxAdd_no (show pfxAddC (W : Int) most n E key (K : Int) ≠ 0 by rw [hc2.out]; decide) act args
      rw [hc2.out, e1, e2]
      exact ⟨rfl, Fp, HO.out.step (S := fun _ => False) (Step.of (below_drewN_ hB2 _)) (fun _ h => h.elim), fun b hb => .inl hb, Step.of (below_drewN_ hB2 _)⟩
  have hfull' : decide (most ≤ n) = false := decide_eq_false hfull
  have hc2 : Hid (pfxAddC (W : Int) most n E key (K : Int) = 0) := by show _ = _; rw [hc.out, if_neg hfull]
  rcases hpc with rfl | ⟨g0, rfl, y0, hgz0⟩
  all_goals
    go_wp2_with fail
    go_big_quiet (fail)
    go_wp2_with fail
    refine (pfxAtGrow_any gt W K key most n M adr dat _ (H2.out.below (below_drewN_ (rf _) _)) hW hK hkey hlt).mono ?_
    rintro e w3 ⟨adr', dat', rfl, hne, hP3, hG3⟩
    cases e3 : adr' K (pre W key K) with
    | none => exact absurd e3 hne
    | some g =>
      rw [ptr_some]
      have hnb : ∀ i v b, adr i v = some b → b < w.heap.size := fun i v b hb => H6.out b (H5.out i v b hb)
      have hd0 : w3.cell? ⟨w.heap.size, 0, none⟩ = some (.int .i64 act) := hG3.step.cell (keep hx0 (below_drewN_ (rf _) _)) (fun ⟨i, v, hb⟩ => Nat.lt_irrefl _ (hnb i v _ hb))
      have hd1 : w3.cell? ⟨w.heap.size, 1, none⟩ = some (.slice ao an ac) := hG3.step.cell (keep hx1 (below_drewN_ (rf _) _)) (fun ⟨i, v, hb⟩ => Nat.lt_irrefl _ (hnb i v _ hb))
      have hr3 : Rd w3 .u64 ao an ac args := ((hr.below hB2).below (below_drewN_ (rf w2) nq)).step_ hG3.step (Rd.noNode ((hr.below hB2).below (below_drewN_ (rf w2) nq)) (H2.out.below (below_drewN_ (rf w2) nq)).trie)
      have hxz3 : w.heap.size < w3.heap.size := Nat.lt_of_lt_of_le hxz hG3.step.size
      obtain ⟨⟨na, nn, nc, B3, _, _⟩, nM⟩ := hP3.trie.node _ _ _ e3
      have hgne : ¬ w.heap.size = g := by
        intro hh
        rcases hG3.new _ _ _ e3 with h | ⟨h, _⟩
        · have := hnb _ _ _ h; omega
        · have hs : (w2.drewN nq).heap.size = w2.heap.size := rfl
          rw [hs] at h; omega
      have hr4 := hr3.below (Below.drew0_ w3)
      have hd0' : w3.drew.cell? ⟨w.heap.size, 0, none⟩ = some (.int .i64 act) := hd0
      have hd1' : w3.drew.cell? ⟨w.heap.size, 1, none⟩ = some (.slice ao an ac) := hd1
      clear hx0 hx1
      go_wp2_with fail
      go_region_law ((first
        | (go_simp; go_at_call 83; refine (CloneNums_any _ _ _ _ _ (hr4.below (rf _)) han).mono ?_; rintro e w4 ⟨r4, rfl, hm4, hb4⟩; obtain ⟨a4, c4, rfl⟩ := hm4.form; have B4 : Blk w4 g _ _ := Blk.below (w := w3.drew) B3 hb4 B3.lt; have m0 := B4.cell 0; have m1 := B4.cell 1; have m2 := B4.cell 2; simp at m0 m1 m2; have mf0 := B4.frozen 0; have mf1 := B4.frozen 1; have mf2 := B4.frozen 2; have mz := B4.lt; have m5 := keep hd0' hb4; have m6 := keep hd1' hb4; have m7 : w.heap.size < w4.heap.size := Nat.lt_of_lt_of_le hxz3 hb4.size)))
      all_goals
        have hFin := PfxObj.added (n + 1) H24.out.1 h3 H24.out.2 H5.out H6.out (below_drewN_ hB2 nq) hG3 hP3 e3 ((Below.drew0_ w3).trans hb4) hm4 hact
        have hwr : IntKind.i64.wrap (n + 1) = n + 1 := i64_wrap_ (by omega) (by omega)
        have hPs := hP3.said e3 ((Below.drew0_ w3).trans hb4) hm4 hact
        have t2 := hPs.blk.cell 2
        simp at t2
        have tz := hPs.blk.lt
        have tf := hPs.blk.frozen 2
        have HFin := Lib.hid hFin
        clear hFin hPs m0 m1 m2 mf0 mf1 mf2 m5 m6 B4 B3 hd0 hd1 hd0' hd1' hm4 hb4
        change Exit.then _ _ _ _ (saidW w4 g act (.slice a4 args.length c4))
        generalize saidW w4 g act (.slice a4 args.length c4) = wF at *
        go_wp2_with fail
        go_ret
        obtain ⟨e1, e2⟩ := pfxAdd_yes (show pfxAddC (W : Int) most n E key (K : Int) = 0 from hc2.out) act args
        rw [hc2.out, e1, e2]
        exact ⟨rfl, HFin.out⟩
end Go.Proofs.Ytfakdapglbgokaa

/-
  The two sons of a node held against nothing. No condition.
-/
namespace Go.Proofs.Ytfakdapglbgokaa
set_option linter.all false
open Go.RowKit

theorem eq_next (p q : Option Addr) (w : World) : (Op.equalIn 10000 109 (.agg #[.pointer p, .pointer q]) (.agg #[.pointer none, .pointer none])).run Try.prog w = .ok (p.isNone && q.isNone) w := by
  have h := fun (w : World) (d : Nat) (p : Option Addr) => run_equalIn_pointer_nil (P := Try.prog) w d 108 p (by kernel_rfl)
  obtain ⟨i, hi⟩ := Option.isSome_iff_exists.1 (show (Try.prog.info? 108).isSome = true by kernel_rfl)
  rw [show (10000 : Nat) = 9999 + 1 from rfl, run_equalIn_array w 9999 _ _ Try.underlying109 hi]
  rw [show Try.prog.cellsOf 108 = 1 by kernel_rfl, show List.range 2 = [0, 1] from rfl]
  have h0 : ∀ (a b : Value) (w : World), (part 108 #[a, b] 0).run Try.prog w = .ok a w := fun a b w => by simp [part, go_sem, Try.underlying108]
  have h1 : ∀ (a b : Value) (w : World), (part 108 #[a, b] 1).run Try.prog w = .ok b w := fun a b w => by simp [part, go_sem, Try.underlying108]
  simp only [Op.eqItems, Sem.run_bind, Nat.zero_mul, Nat.one_mul, h0, h1, Result.andThen_ok]
  have h9 : ∀ (w : World) (p : Option Addr), (Op.equalIn 9999 108 (.pointer p) (.pointer none)).run Try.prog w = .ok p.isNone w := fun w p => h w 9998 p
  clear h hi
  cases p <;> cases q <;> simp [h1, h9]
end Go.Proofs.Ytfakdapglbgokaa

/-
  Programs of a machine, plain: instructions, shapes, what may be. No program in sight. No condition.
-/
namespace Go.Proofs.Ytfakdapglbgokaa
set_option linter.all false
open Go.RowKit

/-- The i-th of a list: a name that the walk leaves as it is. -/
def nth {α : Type} [Inhabited α] (xs : List α) (i : Nat) : α := xs.getD i default
theorem nth_lt {α : Type} [Inhabited α] (xs : List α) (i : Nat) (h : i < xs.length) : nth xs i = xs[i] := by simp [nth, List.getD, h]
theorem ext_nth {α : Type} [Inhabited α] {xs ys : List α} (hl : xs.length = ys.length) (h : ∀ i, i < xs.length → nth xs i = nth ys i) : xs = ys :=
  List.ext_getElem hl fun i h1 h2 => by rw [← nth_lt _ _ h1, ← nth_lt _ _ h2, h i h1]
theorem nth_append {α : Type} [Inhabited α] (xs ys : List α) (i : Nat) : nth (xs ++ ys) i = if i < xs.length then nth xs i else nth ys (i - xs.length) := by
  simp only [nth, List.getD, List.getElem?_append]; split <;> rfl

structure Ins where
  op : Int
  r : Int
  s : Int
  k : Int
  to : Int
  n : Int
  deriving Inhabited, DecidableEq
structure Shape where
  keys : Int
  acts : Int
  args : Int
  deriving Inhabited, DecidableEq

def Ins.wf (x : Ins) : Prop := Fits .i64 x.op ∧ Fits .i64 x.r ∧ Fits .i64 x.s ∧ Fits .i64 x.k ∧ Fits .i64 x.to ∧ Fits .u64 x.n
def Shape.wf (x : Shape) : Prop := Fits .i64 x.keys ∧ Fits .i64 x.acts ∧ Fits .i64 x.args
def Ins.cells (x : Ins) : List Value := [.int .i64 x.op, .int .i64 x.r, .int .i64 x.s, .int .i64 x.k, .int .i64 x.to, .int .u64 x.n]
def Shape.cells (x : Shape) : List Value := [.int .i64 x.keys, .int .i64 x.acts, .int .i64 x.args]

/-- A layout that is just cells. -/
def Lay.flat {α : Type} (size : Nat) (enc : α → List Value) (ok : α → Prop) (hl : ∀ a, (enc a).length = size) : Lay α where
  size := size
  rep _ _ x cs := cs = enc x ∧ ok x
  len h := by rw [h.1]; exact hl _
  step h _ := h
  weaken h _ := h
def insLay : Lay Ins := Lay.flat 6 Ins.cells Ins.wf fun _ => rfl
def shapeLay : Lay Shape := Lay.flat 3 Shape.cells Shape.wf fun _ => rfl

theorem RdL.wf_flat {α : Type} {size : Nat} {enc : α → List Value} {ok : α → Prop} {hl : ∀ a, (enc a).length = size} {A : Nat → Prop} {w : World} {ao : Option Addr} {n cap : Nat} {xs : List α} (h : RdL (Lay.flat size enc ok hl) A w ao n cap xs) : ∀ x ∈ xs, ok x := by
  intro x hx
  obtain ⟨i, hi, rfl⟩ := List.getElem_of_mem hx
  obtain ⟨b, off, cs, e, _, _, hr, _⟩ := h.at_ hi
  exact hr.2
/-- The cells of an element. -/
theorem RdL.flat_at {α : Type} [Inhabited α] {size : Nat} {enc : α → List Value} {ok : α → Prop} {hl : ∀ a, (enc a).length = size} {A : Nat → Prop} {w : World} {ao : Option Addr} {n cap : Nat} {xs : List α} (h : RdL (Lay.flat size enc ok hl) A w ao n cap xs) {i : Nat} (hi : i < xs.length) :
    ∃ b off, ao = some ⟨b, off, none⟩ ∧ ¬ A b ∧ b < w.heap.size ∧ ok (nth xs i) ∧ ∀ j, j < size → w.cell? ⟨b, off + i * size + j, none⟩ = (enc (nth xs i))[j]? := by
  obtain ⟨b, off, cs, e, h1, h2, hr, hc⟩ := h.at_ hi
  obtain ⟨rfl, ho⟩ := hr
  rw [nth_lt _ _ hi]
  exact ⟨b, off, e, h1, h2, ho, hc⟩
theorem RdL.ins_at {A : Nat → Prop} {w : World} {ao : Option Addr} {n cap : Nat} {xs : List Ins} (h : RdL insLay A w ao n cap xs) {i : Nat} (hi : i < xs.length) :
    ∃ b off, ao = some ⟨b, off, none⟩ ∧ ¬ A b ∧ b < w.heap.size ∧ (nth xs i).wf ∧
      w.cell? ⟨b, off + i * 6, none⟩ = some (.int .i64 (nth xs i).op) ∧ w.cell? ⟨b, off + i * 6 + 1, none⟩ = some (.int .i64 (nth xs i).r) ∧ w.cell? ⟨b, off + i * 6 + 2, none⟩ = some (.int .i64 (nth xs i).s) ∧
      w.cell? ⟨b, off + i * 6 + 3, none⟩ = some (.int .i64 (nth xs i).k) ∧ w.cell? ⟨b, off + i * 6 + 4, none⟩ = some (.int .i64 (nth xs i).to) ∧ w.cell? ⟨b, off + i * 6 + 5, none⟩ = some (.int .u64 (nth xs i).n) := by
  obtain ⟨b, off, e, h1, h2, ho, hc⟩ := RdL.flat_at h hi
  exact ⟨b, off, e, h1, h2, ho, hc 0 (by omega), hc 1 (by omega), hc 2 (by omega), hc 3 (by omega), hc 4 (by omega), hc 5 (by omega)⟩
theorem RdL.shape_at {A : Nat → Prop} {w : World} {ao : Option Addr} {n cap : Nat} {xs : List Shape} (h : RdL shapeLay A w ao n cap xs) {i : Nat} (hi : i < xs.length) :
    ∃ b off, ao = some ⟨b, off, none⟩ ∧ ¬ A b ∧ b < w.heap.size ∧ (nth xs i).wf ∧
      w.cell? ⟨b, off + i * 3, none⟩ = some (.int .i64 (nth xs i).keys) ∧ w.cell? ⟨b, off + i * 3 + 1, none⟩ = some (.int .i64 (nth xs i).acts) ∧ w.cell? ⟨b, off + i * 3 + 2, none⟩ = some (.int .i64 (nth xs i).args) := by
  obtain ⟨b, off, e, h1, h2, ho, hc⟩ := RdL.flat_at h hi
  exact ⟨b, off, e, h1, h2, ho, hc 0 (by omega), hc 1 (by omega), hc 2 (by omega)⟩

/-- Which fields an instruction has. -/
def hasR (op : Int) : Bool := decide (1 ≤ op ∧ op ≤ 18 ∧ op ≠ 12 ∧ op ≠ 17)
def hasS (op : Int) : Bool := decide (op = 2 ∨ op = 3 ∨ op = 5 ∨ op = 6 ∨ op = 10 ∨ op = 11 ∨ op = 13)
def hasK (op : Int) : Bool := decide (op = 3 ∨ op = 6 ∨ op = 13 ∨ op = 14)
def hasT (op : Int) : Bool := decide (9 ≤ op ∧ op ≤ 12)
def hasN (op : Int) : Bool := decide (op = 1 ∨ (6 ≤ op ∧ op ≤ 9) ∨ op = 13)
def isOp (op : Int) : Bool := decide (1 ≤ op ∧ op ≤ 18)

def slotsOk (slots at_ n : Int) : Bool := decide (0 ≤ at_ ∧ at_ ≤ slots - n)
/-- What the instruction itself asks, of its own kind. -/
def kindOk (slots : Int) (tabs : List Shape) (x : Ins) : Bool :=
  if x.op = 3 then decide (3 ≤ x.k ∧ x.k ≤ 12)
  else if x.op = 6 then decide (1 ≤ x.k ∧ x.k ≤ 8 ∧ x.n ≤ 600)
  else if x.op = 14 then decide (1 ≤ x.k ∧ x.k ≤ 8)
  else if x.op = 7 ∨ x.op = 8 then decide (x.n < slots)
  else if x.op = 9 then decide (x.n ≤ 600)
  else if x.op = 13 then decide (x.n < tabs.length) && slotsOk slots x.s (nth tabs x.n.toNat).keys && slotsOk slots x.k (nth tabs x.n.toNat).args
  else true
/-- No field that it does not have. -/
def formOk (x : Ins) : Bool := isOp x.op && (hasR x.op || decide (x.r = 0)) && (hasS x.op || decide (x.s = 0)) && (hasK x.op || decide (x.k = 0)) && (hasT x.op || decide (x.to = 0)) && (hasN x.op || decide (x.n = 0))
def regsOk (x : Ins) : Bool := decide (0 ≤ x.r ∧ x.r < 10) && (decide (x.op = 13) || decide (0 ≤ x.s ∧ x.s < 10)) && decide (0 ≤ x.to)
def insOk (slots : Int) (tabs : List Shape) (x : Ins) : Bool := formOk x && regsOk x && kindOk slots tabs x

def tabBad (t : Shape) : Bool := decide (t.keys < 1 ∨ 3 < t.keys ∨ t.acts < 1 ∨ 8 < t.acts ∨ t.args < 0 ∨ 3 < t.args)
def jumpBad (n i : Nat) (x : Ins) : Bool := hasT x.op && decide ((n : Int) - i - 1 ≤ x.to)
def insBad (slots : Int) (tabs : List Shape) (code : List Ins) (i : Nat) : Bool := !insOk slots tabs (nth code i) || jumpBad code.length i (nth code i)
def isEnd (op : Int) : Bool := decide (op = 16 ∨ op = 17)

structure Prog where
  slots : Int
  tabs : List Shape
  code : List Ins
  deriving Inhabited, DecidableEq
/-- Where a program goes wrong: the code, and where. -/
def progF (p : Prog) : Int × Int :=
  if p.slots < 0 ∨ 96 < p.slots then (1, -1)
  else if 5 < p.tabs.length ∨ p.code.length = 0 ∨ 60000 < p.code.length then (2, -1)
  else if firstN (fun i => tabBad (nth p.tabs i)) p.tabs.length < p.tabs.length then (1, -2 - (firstN (fun i => tabBad (nth p.tabs i)) p.tabs.length : Int))
  else if firstN (insBad p.slots p.tabs p.code) p.code.length < p.code.length then
    (if insOk p.slots p.tabs (nth p.code (firstN (insBad p.slots p.tabs p.code) p.code.length)) then 17 else 4, (firstN (insBad p.slots p.tabs p.code) p.code.length : Int))
  else if isEnd (nth p.code (p.code.length - 1)).op then (0, 0) else (18, (p.code.length : Int) - 1)

theorem progF_slots {p : Prog} (h : p.slots < 0 ∨ 96 < p.slots) : progF p = (1, -1) := by unfold progF; rw [if_pos h]
theorem progF_many {p : Prog} (h : ¬ (p.slots < 0 ∨ 96 < p.slots)) (h2 : 5 < p.tabs.length ∨ p.code.length = 0 ∨ 60000 < p.code.length) : progF p = (2, -1) := by unfold progF; rw [if_neg h, if_pos h2]
theorem progF_tab {p : Prog} {i : Nat} (h : ¬ (p.slots < 0 ∨ 96 < p.slots)) (h2 : ¬ (5 < p.tabs.length ∨ p.code.length = 0 ∨ 60000 < p.code.length)) (hb : ∀ j, j < i → tabBad (nth p.tabs j) = false) (hi : i < p.tabs.length) (hx : tabBad (nth p.tabs i) = true) : progF p = (1, -2 - (i : Int)) := by
  have e := firstN_eq (fun i => tabBad (nth p.tabs i)) p.tabs.length i hb hx hi
  unfold progF; rw [if_neg h, if_neg h2, e, if_pos hi]
theorem progF_ins {p : Prog} {i : Nat} (h : ¬ (p.slots < 0 ∨ 96 < p.slots)) (h2 : ¬ (5 < p.tabs.length ∨ p.code.length = 0 ∨ 60000 < p.code.length)) (h3 : ∀ j, j < p.tabs.length → tabBad (nth p.tabs j) = false)
    (hb : ∀ j, j < i → insBad p.slots p.tabs p.code j = false) (hi : i < p.code.length) (hx : insBad p.slots p.tabs p.code i = true) : progF p = (if insOk p.slots p.tabs (nth p.code i) then 17 else 4, (i : Int)) := by
  have e := firstN_none (fun i => tabBad (nth p.tabs i)) p.tabs.length h3
  have e2 := firstN_eq (insBad p.slots p.tabs p.code) p.code.length i hb hx hi
  unfold progF; rw [if_neg h, if_neg h2, e, if_neg (by omega), e2, if_pos hi]
theorem progF_end {p : Prog} (h : ¬ (p.slots < 0 ∨ 96 < p.slots)) (h2 : ¬ (5 < p.tabs.length ∨ p.code.length = 0 ∨ 60000 < p.code.length)) (h3 : ∀ j, j < p.tabs.length → tabBad (nth p.tabs j) = false)
    (hb : ∀ j, j < p.code.length → insBad p.slots p.tabs p.code j = false) : progF p = if isEnd (nth p.code (p.code.length - 1)).op then (0, 0) else (18, (p.code.length : Int) - 1) := by
  have e := firstN_none (fun i => tabBad (nth p.tabs i)) p.tabs.length h3
  have e2 := firstN_none (insBad p.slots p.tabs p.code) p.code.length hb
  unfold progF; rw [if_neg h, if_neg h2, e, if_neg (by omega), e2, if_neg (by omega)]
theorem insBad_form {slots : Int} {tabs : List Shape} {code : List Ins} {i : Nat} (h : insOk slots tabs (nth code i) = false) : insBad slots tabs code i = true := by unfold insBad; rw [h]; rfl
theorem insBad_ok {slots : Int} {tabs : List Shape} {code : List Ins} {i : Nat} (h : insOk slots tabs (nth code i) = true) : insBad slots tabs code i = jumpBad code.length i (nth code i) := by unfold insBad; rw [h]; rfl
theorem tabBad_false {t : Shape} (h : tabBad t = false) : 1 ≤ t.keys ∧ t.keys ≤ 3 ∧ 1 ≤ t.acts ∧ t.acts ≤ 8 ∧ 0 ≤ t.args ∧ t.args ≤ 3 := by unfold tabBad at h; simp at h; omega

end Go.Proofs.Ytfakdapglbgokaa

/-
  Entries of tables: how they lie in cells; own rows of them. No condition.
-/
namespace Go.Proofs.Ytfakdapglbgokaa
set_option linter.all false
open Go.RowKit

structure Entry where
  keys : List Int
  masks : List Int
  len : Int
  prio : Int
  act : Int
  args : List Int
instance : Inhabited Entry := ⟨⟨[], [], 0, 0, 0, []⟩⟩
def u64s : Lay (List Int) := Lay.slice (Lay.int .u64)
def entryLay : Lay Entry := Lay.map (fun e => (e.keys, e.masks, e.len, e.prio, e.act, e.args)) (Lay.pair u64s (Lay.pair u64s (Lay.pair (Lay.int .i64) (Lay.pair (Lay.int .i64) (Lay.pair (Lay.int .i64) u64s)))))
instance : One entryLay := ⟨fun h => One.one (L := Lay.pair (Lay.slice (Lay.int .u64)) (Lay.pair (Lay.slice (Lay.int .u64)) (Lay.pair (Lay.int .i64) (Lay.pair (Lay.int .i64) (Lay.pair (Lay.int .i64) (Lay.slice (Lay.int .u64))))))) h⟩
/-- An entry out of its parts. -/
theorem entry_rep {A : Nat → Prop} {w : World} {e : Entry} {k m g : Option Addr} {k1 k2 m1 m2 g1 g2 : Nat} (hk : RdL (Lay.int .u64) A w k k1 k2 e.keys) (hm : RdL (Lay.int .u64) A w m m1 m2 e.masks) (hg : RdL (Lay.int .u64) A w g g1 g2 e.args) (hl : Fits .i64 e.len) (hp : Fits .i64 e.prio) (ha : Fits .i64 e.act) :
    entryLay.rep A w e [.slice k k1 k2, .slice m m1 m2, .int .i64 e.len, .int .i64 e.prio, .int .i64 e.act, .slice g g1 g2] :=
  ⟨[_], _, rfl, ⟨k, k1, k2, rfl, hk⟩, [_], _, rfl, ⟨m, m1, m2, rfl, hm⟩, [_], _, rfl, ⟨rfl, hl⟩, [_], _, rfl, ⟨rfl, hp⟩, [_], _, rfl, ⟨rfl, ha⟩, ⟨g, g1, g2, rfl, hg⟩⟩
theorem entry_parts {A : Nat → Prop} {w : World} {e : Entry} {cs : List Value} (h : entryLay.rep A w e cs) : ∃ k k1 k2 m m1 m2 g g1 g2, cs = [.slice k k1 k2, .slice m m1 m2, .int .i64 e.len, .int .i64 e.prio, .int .i64 e.act, .slice g g1 g2] ∧
    RdL (Lay.int .u64) A w k k1 k2 e.keys ∧ RdL (Lay.int .u64) A w m m1 m2 e.masks ∧ RdL (Lay.int .u64) A w g g1 g2 e.args ∧ Fits .i64 e.len ∧ Fits .i64 e.prio ∧ Fits .i64 e.act := by
  obtain ⟨_, _, rfl, ⟨k, k1, k2, rfl, hk⟩, _, _, rfl, ⟨m, m1, m2, rfl, hm⟩, _, _, rfl, ⟨rfl, hl⟩, _, _, rfl, ⟨rfl, hp⟩, _, _, rfl, ⟨rfl, ha⟩, ⟨g, g1, g2, rfl, hg⟩⟩ := h
  exact ⟨k, k1, k2, m, m1, m2, g, g1, g2, rfl, hk, hm, hg, hl, hp, ha⟩
theorem sty_entries : SliceTy Try.prog 42 30 6 96 (.agg #[.slice none 0 0, .slice none 0 0, .int .i64 0, .int .i64 0, .int .i64 0, .slice none 0 0]) := ⟨Try.underlying42, by kernel_rfl, rfl, by omega⟩
end Go.Proofs.Ytfakdapglbgokaa

/-
  append to an own slice within a region that draws its order. No program in sight. No condition.
-/
namespace Go.Proofs.Ytfakdapglbgokaa
set_option linter.all false
open Go.RowKit

theorem OwnL.below2_ {α : Type} {L : Lay α} {A : Nat → Prop} {w w' : World} {Fp : Nat → Prop} {e : TypeId} {v : Value} {xs : List α} (h : OwnL L A w Fp e v xs) (hb : Below w.heap.size w w') : OwnL L A w' Fp e v xs := ⟨h.mine.below hb, h.row⟩
/-- append(v, src...), v of a footprint, as one step of a region that draws its order. -/
theorem step_append_own2 {P : Program} {ops : Array Oper} {o : Oper} {a : Act} {w : World} {K : Act → World → Prop} {Q : Exit → Act → World → Prop} {E : Prop} (hgd : o.guard = none) (s x : Operand) (t : TypeId)
    (ho : o.op = .call { callee := .builtin .append, args := #[s, x], argTypes := #[t, t] })
    {α : Type} {L : Lay α} [One L] {A : Nat → Prop} {e : TypeId} {bytes : Nat} {z : Value} (ty : SliceTy P t e L.size bytes z) {Fp : Nat → Prop}
    {v : Value} {xs : List α} (hs : a.eval s = v) (hown : OwnL L A w Fp e v xs) (hA : ∀ k, v.ownBlock = some k → A k)
    {ao : Option Addr} {m c : Nat} {ys : List α} (hx : a.eval x = .slice ao m c) (hr : Src L A w ao m c ys)
    (h63 : xs.length + m ≤ maxLen) (hsz : (xs.length + m) * bytes ≤ 140737488355328)
    (h : ∀ v' w', OwnL L A w' (fun k => Fp k ∨ k = w.heap.size) e v' (xs ++ ys) → Step (fun k => v.ownBlock = some k) w w' → K (a.put o.dst v') w') :
    if Region.wanted o (yielded ops a.tmps) = true then Oper.wp P o a w K Q else E := by
  rw [if_pos (by simp [Region.wanted, hgd])]
  exact wp_append_own_ s x t ho ty hs hown hA hx hr h63 hsz h
end Go.Proofs.Ytfakdapglbgokaa

/-
  A plain machine beside the model: values without addresses ('SV'), objects ('SObj'), states; when a state of the model's is one of them. No program in sight. No condition.
-/
namespace Go.Proofs.Ytfakdapglbgokaa
set_option linter.all false
open Go.RowKit

/-- Values without addresses. 'view': a slice that nobody writes to, by its elements' cells; 'cp': an address of cells that nobody writes to; 'ptr', 'eptr', 'own': an address in, a place in, a slice of an object. -/
inductive SV where
  | any
  | bool (b : Bool)
  | int (k : IntKind) (n : Int)
  | str (s : ByteArray)
  | nil
  | nilsl
  | nilfn
  | view (size : Nat) (es : List (List SV))
  | cp (cs : List SV)
  | ptr (id off : Nat)
  | eptr (id size i j : Nat)
  | own (id len : Nat)
  | agg (cs : List SV)
  | tup (cs : List SV)
  | fn (f : Fn) (first cap : List SV)
  | bot
instance : Inhabited SV := ⟨.any⟩

/-- Where an object lies: nowhere yet (a nil slice), or a block, with the room of a slice. -/
abbrev Pl := Option (Nat × Nat)
abbrev Plan_ := Nat → Option Pl
def noPl : Plan_ := fun _ => none

/-- The model's value that a value without addresses stands for. -/
inductive RepV (w : World) (A : Nat → Prop) : Plan_ → SV → Value → Prop
  | any {ρ v} : RepV w A ρ .any v
  | bool {ρ b} : RepV w A ρ (.bool b) (.bool b)
  | int {ρ k n} : RepV w A ρ (.int k n) (.int k n)
  | str {ρ s} : RepV w A ρ (.str s) (.string s)
  | nil {ρ} : RepV w A ρ .nil (.pointer none)
  | nilsl {ρ} : RepV w A ρ .nilsl (.slice none 0 0)
  | nilfn {ρ} : RepV w A ρ .nilfn .nilFunc
  | view0 {ρ size a c} (hc : c ≤ maxLen) (ha : a = none → c = 0) : RepV w A ρ (.view size []) (.slice a 0 c)
  | view {ρ size} {es : List (List SV)} {b off n c : Nat} (cv : Nat → Nat → Value) (hn : es.length = n) (hc : n ≤ c) (hm : c ≤ maxLen) (hA : ¬ A b) (hb : b < w.heap.size) (hs : ∀ e ∈ es, e.length = size)
      (h1 : ∀ i e j x, es[i]? = some e → e[j]? = some x → w.cell? ⟨b, off + i * size + j, none⟩ = some (cv i j))
      (h2 : ∀ i e j x, es[i]? = some e → e[j]? = some x → RepV w A noPl x (cv i j)) (ho : ∀ i e j x, es[i]? = some e → e[j]? = some x → (cv i j).oneCell' = true) : RepV w A ρ (.view size es) (.slice (some ⟨b, off, none⟩) n c)
  | cp {ρ} {cs : List SV} {b off : Nat} (cv : Nat → Value) (hA : ¬ A b) (hb : b < w.heap.size)
      (h1 : ∀ j x, cs[j]? = some x → w.cell? ⟨b, off + j, none⟩ = some (cv j)) (h2 : ∀ j x, cs[j]? = some x → RepV w A noPl x (cv j)) (ho : ∀ j x, cs[j]? = some x → (cv j).oneCell' = true) : RepV w A ρ (.cp cs) (.pointer (some ⟨b, off, none⟩))
  | ptr {ρ id off b c} (h : ρ id = some (some (b, c))) : RepV w A ρ (.ptr id off) (.pointer (some ⟨b, off, none⟩))
  | eptr {ρ id size i j b c} (h : ρ id = some (some (b, c))) : RepV w A ρ (.eptr id size i j) (.pointer (some ⟨b, i * size + j, none⟩))
  | own0 {ρ id} (h : ρ id = some none) : RepV w A ρ (.own id 0) (.slice none 0 0)
  | own {ρ id n b c} (h : ρ id = some (some (b, c))) (hn : n ≤ c) (hm : c ≤ maxLen) : RepV w A ρ (.own id n) (.slice (some ⟨b, 0, none⟩) n c)
  | agg {ρ} {cs : List SV} {vs : List Value} (ho : ∀ v ∈ vs, v.oneCell' = true) (hl : cs.length = vs.length) (h : ∀ (j : Nat) x v, cs[j]? = some x → vs[j]? = some v → RepV w A ρ x v) : RepV w A ρ (.agg cs) (.agg vs.toArray)
  | tup {ρ} {cs : List SV} {vs : List Value} (hl : cs.length = vs.length) (h : ∀ (j : Nat) x v, cs[j]? = some x → vs[j]? = some v → RepV w A ρ x v) : RepV w A ρ (.tup cs) (.tuple vs.toArray)
  | fn {ρ f} {fs cs : List SV} {vs us : List Value} (h1 : fs.length = vs.length) (h2 : cs.length = us.length) (h3 : ∀ (j : Nat) x v, fs[j]? = some x → vs[j]? = some v → RepV w A ρ x v) (h4 : ∀ (j : Nat) x v, cs[j]? = some x → us[j]? = some v → RepV w A ρ x v) : RepV w A ρ (.fn f fs cs) (.func f vs.toArray us.toArray)

def Ones (vs : List Value) : Prop := ∀ v ∈ vs, v.oneCell' = true
/-- Values, one behind the other. -/
def Reps (w : World) (A : Nat → Prop) (ρ : Plan_) (cs : List SV) (vs : List Value) : Prop := cs.length = vs.length ∧ ∀ (j : Nat) x v, cs[j]? = some x → vs[j]? = some v → RepV w A ρ x v

theorem RepV.mono {w w' : World} {A A' : Nat → Prop} {ρ ρ' : Plan_} {x : SV} {v : Value} (h : RepV w A ρ x v) (hs : Step A w w') (hA : ∀ k, A' k → k < w.heap.size → A k) (hρ : ∀ id p, ρ id = some p → ρ' id = some p) : RepV w' A' ρ' x v := by
  induction h generalizing ρ' with
  | any => exact .any
  | bool => exact .bool
  | int => exact .int
  | str => exact .str
  | nil => exact .nil
  | nilsl => exact .nilsl
  | nilfn => exact .nilfn
  | view0 hc ha => exact .view0 hc ha
  | view cv hn hc hm hA' hb hz h1 h2 ho ih => exact .view cv hn hc hm (fun h => hA' (hA _ h hb)) (Nat.lt_of_lt_of_le hb hs.size) hz (fun i e j x he hx => hs.cell (h1 i e j x he hx) hA') (fun i e j x he hx => ih i e j x he hx fun _ _ h => h) ho
  | cp cv hA' hb h1 h2 ho ih => exact .cp cv (fun h => hA' (hA _ h hb)) (Nat.lt_of_lt_of_le hb hs.size) (fun j x hx => hs.cell (h1 j x hx) hA') (fun j x hx => ih j x hx fun _ _ h => h) ho
  | ptr h => exact .ptr (hρ _ _ h)
  | eptr h => exact .eptr (hρ _ _ h)
  | own0 h => exact .own0 (hρ _ _ h)
  | own h hn hm => exact .own (hρ _ _ h) hn hm
  | agg ho hl _ ih => exact .agg ho hl fun j x v hx hv => ih j x v hx hv hρ
  | tup hl _ ih => exact .tup hl fun j x v hx hv => ih j x v hx hv hρ
  | fn h1 h2 _ _ ih1 ih2 => exact .fn h1 h2 (fun j x v hx hv => ih1 j x v hx hv hρ) (fun j x v hx hv => ih2 j x v hx hv hρ)
theorem RepV.weaken {w : World} {A A' : Nat → Prop} {ρ : Plan_} {x : SV} {v : Value} (h : RepV w A ρ x v) (hA : ∀ k, A' k → k < w.heap.size → A k) : RepV w A' ρ x v := h.mono (.refl _ _) hA fun _ _ h => h
theorem Reps.mono {w w' : World} {A A' : Nat → Prop} {ρ ρ' : Plan_} {x : List SV} {v : List Value} (h : Reps w A ρ x v) (hs : Step A w w') (hA : ∀ k, A' k → k < w.heap.size → A k) (hρ : ∀ id p, ρ id = some p → ρ' id = some p) : Reps w' A' ρ' x v :=
  ⟨h.1, fun j x v hx hv => (h.2 j x v hx hv).mono hs hA hρ⟩
theorem Reps.nil {w : World} {A : Nat → Prop} {ρ : Plan_} : Reps w A ρ [] [] := ⟨rfl, by simp⟩
theorem Reps.cons {w : World} {A : Nat → Prop} {ρ : Plan_} {x : SV} {v : Value} {xs : List SV} {vs : List Value} (h : RepV w A ρ x v) (hs : Reps w A ρ xs vs) : Reps w A ρ (x :: xs) (v :: vs) := by
  refine ⟨by simp [hs.1], fun j y u hy hu => ?_⟩
  cases j with
  | zero => simp at hy hu; subst hy hu; exact h
  | succ j => exact hs.2 j y u (by simpa using hy) (by simpa using hu)
theorem Reps.cons_inv {w : World} {A : Nat → Prop} {ρ : Plan_} {x : SV} {xs : List SV} {vs : List Value} (h : Reps w A ρ (x :: xs) vs) : ∃ v us, vs = v :: us ∧ RepV w A ρ x v ∧ Reps w A ρ xs us := by
  obtain ⟨hl, h⟩ := h
  cases vs with
  | nil => simp at hl
  | cons v us => exact ⟨v, us, rfl, h 0 x v rfl rfl, by simpa using hl, fun j y u hy hu => h (j + 1) y u (by simpa using hy) (by simpa using hu)⟩
theorem Reps.nil_inv {w : World} {A : Nat → Prop} {ρ : Plan_} {vs : List Value} (h : Reps w A ρ [] vs) : vs = [] := by
  have := h.1; cases vs with | nil => rfl | cons => simp at this
theorem Reps.get {w : World} {A : Nat → Prop} {ρ : Plan_} {xs : List SV} {vs : List Value} (h : Reps w A ρ xs vs) {j : Nat} {x : SV} (hx : xs[j]? = some x) : ∃ v, vs[j]? = some v ∧ RepV w A ρ x v := by
  have hj : j < xs.length := (List.getElem?_eq_some_iff.1 hx).1
  exact ⟨vs[j]'(h.1 ▸ hj), List.getElem?_eq_getElem _, h.2 j x _ hx (List.getElem?_eq_getElem _)⟩
theorem Reps.append {w : World} {A : Nat → Prop} {ρ : Plan_} {xs ys : List SV} {vs us : List Value} (h : Reps w A ρ xs vs) (g : Reps w A ρ ys us) : Reps w A ρ (xs ++ ys) (vs ++ us) := by
  refine ⟨by rw [List.length_append, List.length_append, h.1, g.1], fun j x v hx hv => ?_⟩
  by_cases hj : j < xs.length
  · rw [List.getElem?_append_left hj] at hx
    rw [List.getElem?_append_left (by rw [← h.1]; exact hj)] at hv
    exact h.2 j x v hx hv
  · rw [List.getElem?_append_right (by omega)] at hx
    rw [List.getElem?_append_right (by rw [← h.1]; omega), ← h.1] at hv
    exact g.2 _ x v hx hv

/-- What an abstract object is: a predicate on worlds, the blocks that what it holds avoids, those that are its own and the block that its address names; it holds on while its own blocks stay and only avoided ones turn. -/
structure AbsI where
  I : World → (Nat → Prop) → (Nat → Prop) → Nat → Prop
  lt : ∀ {w A Fp b}, I w A Fp b → ∀ k, Fp k → k < w.heap.size
  keep : ∀ {w w' A A' Fp b}, I w A Fp b → Step A w w' → (∀ k, A' k → k < w.heap.size → A k) → (∀ k, Fp k → w'.heap[k]? = w.heap[k]?) → I w' A' Fp b

inductive SObj where
  | cells (t : TypeId) (cs : List SV)
  | row (e : TypeId) (size : Nat) (es : List (List SV))
  | abs (I : AbsI)

abbrev Hp := List (Nat × SObj)
def geth : Hp → Nat → Option SObj
  | [], _ => none
  | (i, o) :: h, n => if i = n then some o else geth h n
def puth : Hp → Nat → SObj → Hp
  | [], n, x => [(n, x)]
  | (i, o) :: h, n, x => if i = n then (n, x) :: h else (i, o) :: puth h n x
def delh : Hp → Nat → Hp
  | [], _ => []
  | (i, o) :: h, n => if i = n then delh h n else (i, o) :: delh h n
theorem geth_puth (h : Hp) (n : Nat) (x : SObj) (k : Nat) : geth (puth h n x) k = if k = n then some x else geth h k := by
  induction h with
  | nil => simp [puth, geth, eq_comm]
  | cons p h ih =>
    obtain ⟨i, o⟩ := p
    simp only [puth]
    split
    · subst i
      simp only [geth]
      by_cases hk : k = n
      · simp [hk]
      · simp [hk, Ne.symm hk]
    · rename_i hne
      simp only [geth, ih]
      by_cases hik : i = k
      · subst hik; simp [hne]
      · simp [hik]
theorem geth_delh (h : Hp) (n k : Nat) : geth (delh h n) k = if k = n then none else geth h k := by
  induction h with
  | nil => simp [delh, geth]
  | cons p h ih =>
    obtain ⟨i, o⟩ := p
    simp only [delh]
    split
    · subst i
      rw [ih]
      by_cases hk : k = n
      · simp [hk]
      · simp [hk, geth, Ne.symm hk]
    · rename_i hne
      simp only [geth, ih]
      by_cases hik : i = k
      · subst hik; simp [hne]
      · simp [hik]

abbrev Sl := List (Nat × SV)
def gets : Sl → Nat → SV
  | [], _ => .any
  | (i, v) :: l, t => if i = t then v else gets l t
def puts : Sl → Nat → SV → Sl
  | l, t, v => (t, v) :: l
theorem gets_puts (l : Sl) (t : Nat) (v : SV) (u : Nat) : gets (puts l t v) u = if u = t then v else gets l u := by
  simp only [puts, gets]
  by_cases h : t = u <;> simp [h, eq_comm]

/-- A state of the plain machine: temporaries, objects, the next name. -/
structure SSt where
  sl : Sl
  hp : Hp
  nx : Nat

/-- The value at the head of a row. -/
def placeOf : Value → Pl
  | .slice (some a) _ c => some (a.block, c)
  | _ => none

/-- An object as it lies. -/
def ObjRep (w : World) (A : Nat → Prop) (ρ : Plan_) (id : Nat) (fp : Nat → Prop) : SObj → Prop
  | .cells t cs => ∃ b c vs, ρ id = some (some (b, c)) ∧ Blk w b t vs.toArray ∧ (Reps w A ρ cs vs ∧ Ones vs) ∧ ∀ k, fp k ↔ k = b
  | .row e size es => ∃ v vs, w.ownsRow 0 e size v es.length vs ∧ (Reps w A ρ es.flatten vs ∧ Ones vs) ∧ (∀ x ∈ es, x.length = size) ∧ ρ id = some (placeOf v) ∧ ∀ k, fp k ↔ v.ownBlock = some k
  | .abs I => ∃ b c, ρ id = some (some (b, c)) ∧ I.I w A fp b

/-- What stands fast in a call: the program, how many temporaries, how many objects came in, where they lay; the world at the start, the blocks that may turn, the blocks to be avoided besides. -/
structure Cx where
  P : Program
  N : Nat
  m : Nat
  ρ0 : Plan_
  W : World
  M : Nat → Prop
  O : Nat → Prop
  O_lt : ∀ k, O k → k < W.heap.size
  O_M : ∀ k, O k → ¬ M k

def Live (hp : Hp) (fp : Nat → Nat → Prop) (k : Nat) : Prop := ∃ id o, geth hp id = some o ∧ fp id k
def Av (X : Cx) (hp : Hp) (fp : Nat → Nat → Prop) (k : Nat) : Prop := X.O k ∨ Live hp fp k

/-- The objects of a state, as they lie. -/
structure SimH (X : Cx) (ρ : Plan_) (fp : Nat → Nat → Prop) (hp : Hp) (w : World) : Prop where
  objs : ∀ id o, geth hp id = some o → ObjRep w (Av X hp fp) ρ id (fp id) o
  disj : ∀ id id' o o', id ≠ id' → geth hp id = some o → geth hp id' = some o' → ∀ k, fp id k → ¬ fp id' k
  turn : ∀ id o, geth hp id = some o → ∀ k, fp id k → (X.M k ∨ X.W.heap.size ≤ k) ∧ k < w.heap.size
  step : Step X.M X.W w
  keep : ∀ id, id < X.m → ρ id = X.ρ0 id
structure Sim (X : Cx) (ρ : Plan_) (fp : Nat → Nat → Prop) (s : SSt) (a : Act) (w : World) : Prop where
  h : SimH X ρ fp s.hp w
  tmps : a.tmps.size = X.N
  defers : a.defers = []
  slots : ∀ t, RepV w (Av X s.hp fp) ρ (gets s.sl t) (a.tmps.getD t undef)
end Go.Proofs.Ytfakdapglbgokaa
