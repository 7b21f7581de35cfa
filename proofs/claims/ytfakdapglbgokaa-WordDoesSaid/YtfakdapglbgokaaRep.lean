/-
  Data in memory: how a value of a Lean type lies in cells; readings that avoid a set of blocks. No program in sight. No condition.
-/
import Derived.Test.YtfakdapglbgokaaKept
namespace Go.Proofs.Ytfakdapglbgokaa
set_option linter.all false
open Go.RowKit

/-- From w to w' only blocks of A (and new ones) may have turned. -/
structure Step (A : Nat → Prop) (w w' : World) : Prop where
  os : w'.os = w.os
  tape : w'.tape = w.tape
  output : w'.output = w.output
  size : w.heap.size ≤ w'.heap.size
  block : ∀ k, k < w.heap.size → ¬ A k → w'.heap[k]? = w.heap[k]?
theorem Step.refl (A : Nat → Prop) (w : World) : Step A w w := ⟨rfl, rfl, rfl, Nat.le_refl _, fun _ _ _ => rfl⟩
theorem Step.trans {A : Nat → Prop} {a b c : World} (h : Step A a b) (k : Step A b c) : Step A a c :=
  ⟨k.os.trans h.os, k.tape.trans h.tape, k.output.trans h.output, Nat.le_trans h.size k.size, fun i hi hA => (k.block i (Nat.lt_of_lt_of_le hi h.size) hA).trans (h.block i hi hA)⟩
theorem Step.of {A : Nat → Prop} {w w' : World} (h : Below w.heap.size w w') : Step A w w' := ⟨h.os, h.tape, h.output, h.size, fun k hk _ => h.block k hk⟩
theorem Step.ofBelow {A : Nat → Prop} {B : Nat} {w w' : World} (h : Below B w w') (hA : ∀ k, B ≤ k → A k) : Step A w w' :=
  ⟨h.os, h.tape, h.output, h.size, fun k _ hk => h.block k (Nat.lt_of_not_le fun hle => hk (hA k hle))⟩
theorem Step.mono {A A' : Nat → Prop} {w w' : World} (h : Step A w w') (hA : ∀ k, A k → A' k) : Step A' w w' :=
  ⟨h.os, h.tape, h.output, h.size, fun k hk hn => h.block k hk fun ha => hn (hA k ha)⟩
theorem Step.below {A : Nat → Prop} {B : Nat} {w w' : World} (h : Step A w w') (hB : B ≤ w.heap.size) (hA : ∀ k, A k → B ≤ k) : Below B w w' :=
  ⟨h.os, h.tape, h.output, h.size, fun k hk => h.block k (Nat.lt_of_lt_of_le hk hB) fun ha => Nat.not_le_of_lt hk (hA k ha)⟩
theorem Step.alloc (A : Nat → Prop) (w : World) (o : Obj) : Step A w (w.alloc o) := .of (al (rf w) o)
theorem Step.set (A : Nat → Prop) (w : World) (p : Addr) (hp : A p.block) (u : Value) : Step A w (w.setCell p u) :=
  ⟨rfl, rfl, rfl, by simp [World.setCell], fun k _ hk => Below.heap_setCell _ _ _ _ fun e => hk (e ▸ hp)⟩
theorem below_drewN_ {B : Nat} {a w : World} (h : Below B a w) (n : Nat) : Below B a (w.drewN n) := ⟨h.os, h.tape, h.output, h.size, h.block⟩
theorem Step.drewN (A : Nat → Prop) (w : World) (n : Nat) : Step A w (w.drewN n) := .of (below_drewN_ (rf w) n)
theorem Step.grown {A : Nat → Prop} {w w' : World} {row : Option Nat} (hg : w.grownBy w' row) (hr : ∀ k, row = some k → A k) : Step A w w' :=
  ⟨hg.os, hg.tape, hg.output, hg.size, fun k hk hn => hg.block k hk fun e => hn (hr k e.symm)⟩
theorem Step.cell {A : Nat → Prop} {w w' : World} (h : Step A w w') {p : Addr} {v : Value} (hc : w.cell? p = some v) (hA : ¬ A p.block) : w'.cell? p = some v :=
  (World.cell?_of_block (w := w) (h.block p.block (block_lt_of_cell hc) hA)).trans hc

/-- How a value of a type lies in cells ('A': blocks that it avoids). -/
structure Lay (α : Type) where
  size : Nat
  rep : (Nat → Prop) → World → α → List Value → Prop
  len : ∀ {A w a cs}, rep A w a cs → cs.length = size
  step : ∀ {A w w' a cs}, rep A w a cs → Step A w w' → rep A w' a cs
  weaken : ∀ {A A' : Nat → Prop} {w a cs}, rep A w a cs → (∀ k, A' k → k < w.heap.size → A k) → rep A' w a cs

theorem Lay.below {α : Type} (L : Lay α) {A : Nat → Prop} {w w' : World} {a : α} {cs : List Value} (h : L.rep A w a cs) (hb : Below w.heap.size w w') : L.rep A w' a cs := L.step h (.of hb)

def Lay.int (k : IntKind) : Lay Int where
  size := 1
  rep _ _ x cs := cs = [.int k x] ∧ Fits k x
  len h := by rw [h.1]; rfl
  step h _ := h
  weaken h _ := h
def Lay.bool : Lay Bool where
  size := 1
  rep _ _ x cs := cs = [.bool x]
  len h := by rw [h]; rfl
  step h _ := h
  weaken h _ := h
def Lay.pair {α β : Type} (L : Lay α) (M : Lay β) : Lay (α × β) where
  size := L.size + M.size
  rep A w x cs := ∃ c d, cs = c ++ d ∧ L.rep A w x.1 c ∧ M.rep A w x.2 d
  len := by rintro A w a cs ⟨c, d, rfl, h1, h2⟩; rw [List.length_append, L.len h1, M.len h2]
  step := by rintro A w w' a cs ⟨c, d, rfl, h1, h2⟩ hb; exact ⟨c, d, rfl, L.step h1 hb, M.step h2 hb⟩
  weaken := by rintro A A' w a cs ⟨c, d, rfl, h1, h2⟩ hb; exact ⟨c, d, rfl, L.weaken h1 hb, M.weaken h2 hb⟩
def Lay.map {α β : Type} (f : β → α) (L : Lay α) : Lay β where
  size := L.size
  rep A w x cs := L.rep A w (f x) cs
  len h := L.len h
  step h hb := L.step h hb
  weaken h hb := L.weaken h hb

/-- A slice value reads as a list. -/
structure RdL {α : Type} (L : Lay α) (A : Nat → Prop) (w : World) (ao : Option Addr) (n cap : Nat) (xs : List α) : Prop where
  len : xs.length = n
  le : n ≤ cap
  max : cap ≤ maxLen
  nil : ao = none → cap = 0
  here : 0 < n → ∃ b off, ao = some ⟨b, off, none⟩ ∧ ¬ A b ∧ b < w.heap.size ∧ ∀ i (h : i < xs.length), ∃ cs, L.rep A w xs[i] cs ∧ ∀ j, j < L.size → w.cell? ⟨b, off + i * L.size + j, none⟩ = cs[j]?

theorem RdL.lt {α : Type} {L : Lay α} {A : Nat → Prop} {w : World} {ao : Option Addr} {n cap : Nat} {xs : List α} (h : RdL L A w ao n cap xs) : n ≤ 9223372036854775807 := by
  have := h.le; have := h.max; unfold maxLen at *; omega
theorem RdL.step {α : Type} {L : Lay α} {A : Nat → Prop} {w w' : World} {ao : Option Addr} {n cap : Nat} {xs : List α} (h : RdL L A w ao n cap xs) (hs : Step A w w') : RdL L A w' ao n cap xs := by
  refine ⟨h.len, h.le, h.max, h.nil, fun h0 => ?_⟩
  obtain ⟨b, off, e, hA, hb, hc⟩ := h.here h0
  refine ⟨b, off, e, hA, Nat.lt_of_lt_of_le hb hs.size, fun i hi => ?_⟩
  obtain ⟨cs, hr, hj⟩ := hc i hi
  refine ⟨cs, L.step hr hs, fun j hj' => ?_⟩
  rw [World.cell?_of_block (w := w) (h := hs.block b hb hA)]
  exact hj j hj'
theorem RdL.weaken {α : Type} {L : Lay α} {A A' : Nat → Prop} {w : World} {ao : Option Addr} {n cap : Nat} {xs : List α} (h : RdL L A w ao n cap xs) (hA : ∀ k, A' k → k < w.heap.size → A k) : RdL L A' w ao n cap xs := by
  refine ⟨h.len, h.le, h.max, h.nil, fun h0 => ?_⟩
  obtain ⟨b, off, e, hA', hb, hc⟩ := h.here h0
  refine ⟨b, off, e, fun ha => hA' (hA _ ha hb), hb, fun i hi => ?_⟩
  obtain ⟨cs, hr, hj⟩ := hc i hi
  exact ⟨cs, L.weaken hr hA, hj⟩
theorem RdL.below {α : Type} {L : Lay α} {A : Nat → Prop} {w w' : World} {ao : Option Addr} {n cap : Nat} {xs : List α} (h : RdL L A w ao n cap xs) (hb : Below w.heap.size w w') : RdL L A w' ao n cap xs := h.step (.of hb)
theorem RdL.nil_ {α : Type} (L : Lay α) (A : Nat → Prop) (w : World) : RdL L A w none 0 0 [] := ⟨rfl, Nat.le_refl _, by simp [maxLen], fun _ => rfl, fun h => absurd h (by simp)⟩
instance {α : Type} {L : Lay α} {A : Nat → Prop} {ao : Option Addr} {n cap : Nat} {xs : List α} : Mono (fun w => RdL L A w ao n cap xs) := ⟨fun h hb => h.below hb⟩

/-- A slice within a struct. -/
def Lay.slice {α : Type} (L : Lay α) : Lay (List α) where
  size := 1
  rep A w xs cs := ∃ ao n cap, cs = [.slice ao n cap] ∧ RdL L A w ao n cap xs
  len := by rintro A w a cs ⟨ao, n, cap, rfl, h⟩; rfl
  step := by rintro A w w' a cs ⟨ao, n, cap, rfl, h⟩ hb; exact ⟨ao, n, cap, rfl, h.step hb⟩
  weaken := by rintro A A' w a cs ⟨ao, n, cap, rfl, h⟩ hb; exact ⟨ao, n, cap, rfl, h.weaken hb⟩

/-- The element at a place: its cells. -/
theorem RdL.at_ {α : Type} {L : Lay α} {A : Nat → Prop} {w : World} {ao : Option Addr} {n cap : Nat} {xs : List α} (h : RdL L A w ao n cap xs) {i : Nat} (hi : i < xs.length) :
    ∃ b off cs, ao = some ⟨b, off, none⟩ ∧ ¬ A b ∧ b < w.heap.size ∧ L.rep A w xs[i] cs ∧ ∀ j, j < L.size → w.cell? ⟨b, off + i * L.size + j, none⟩ = cs[j]? := by
  obtain ⟨b, off, e, hA, hb, hc⟩ := h.here (by have := h.len; omega)
  obtain ⟨cs, hr, hj⟩ := hc i hi
  exact ⟨b, off, cs, e, hA, hb, hr, hj⟩

/-- Integers: the two readings. -/
theorem RdL.rd {k : IntKind} {A : Nat → Prop} {w : World} {ao : Option Addr} {n cap : Nat} {xs : List Int} (h : RdL (Lay.int k) A w ao n cap xs) : Rd w k ao n cap xs := by
  have hlen := h.len
  have hle := h.le
  refine ⟨h.len, ?_, by omega, h.max, fun h0 => ?_, h.nil⟩
  · intro x hx
    obtain ⟨i, hi, rfl⟩ := List.getElem_of_mem hx
    obtain ⟨b, off, cs, e, _, _, hr, _⟩ := h.at_ hi
    exact hr.2
  · obtain ⟨b, off, e, hA, hb, hc⟩ := h.here (by omega)
    refine ⟨b, off, e, fun i hi => ?_⟩
    obtain ⟨cs, hr, hj⟩ := hc i hi
    obtain ⟨rfl, _⟩ := hr
    have := hj 0 Nat.one_pos
    simp only [Lay.int, Nat.mul_one, Nat.add_zero] at this
    rw [this, el_lt _ _ hi]
    rfl
theorem Rd.lay {k : IntKind} {w : World} {ao : Option Addr} {n cap : Nat} {xs : List Int} (h : Rd w k ao n cap xs) (A : Nat → Prop) (hA : ∀ a, ao = some a → 0 < n → ¬ A a.block) : RdL (Lay.int k) A w ao n cap xs := by
  have hlen := h.len
  have hle := h.le
  refine ⟨h.len, by omega, h.max, h.nil, fun h0 => ?_⟩
  obtain ⟨b, off, e, hc⟩ := h.here (by omega)
  refine ⟨b, off, e, hA _ e h0, block_lt_of_cell (hc 0 (by omega)), fun i hi => ⟨[.int k xs[i]], ⟨rfl, h.fit _ (List.getElem_mem hi)⟩, fun j hj => ?_⟩⟩
  have hj : j < 1 := hj
  obtain rfl : j = 0 := by omega
  have := hc i hi
  simp only [Lay.int, Nat.mul_one, Nat.add_zero]
  rw [this, el_lt _ _ hi]
  rfl

end Go.Proofs.Ytfakdapglbgokaa
