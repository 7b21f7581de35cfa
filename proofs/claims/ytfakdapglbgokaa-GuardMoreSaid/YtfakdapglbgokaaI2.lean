/-
  Texts joined: XRep XLay XObj. No condition.
-/
import Derived.Maps.AppendAt
import Derived.Test.YtfakdapglbgokaaI1
/-
  Data in memory: how a value of a Lean type lies in cells; readings that avoid a set of blocks. No program in sight. No condition.
-/
namespace Go.Proofs.Ytfakdapglbgokaa
set_option linter.all false
open Go.RowKit

/-- From w to w' only blocks of A (and new ones) may have turned. -/
structure Step (A : Nat → Prop) (w w' : World) : Prop where
  os : w'.os = w.os
  tape : w'.tape = w.tape
  output : w'.output = w.output
  size : w.heap.size ≤ w'.heap.size
  block : ∀ k, k < w.heap.size → ¬ A k → w'.heap[k]? = w.heap[k]?
theorem Step.refl (A : Nat → Prop) (w : World) : Step A w w := ⟨rfl, rfl, rfl, Nat.le_refl _, fun _ _ _ => rfl⟩
theorem Step.trans {A : Nat → Prop} {a b c : World} (h : Step A a b) (k : Step A b c) : Step A a c :=
  ⟨k.os.trans h.os, k.tape.trans h.tape, k.output.trans h.output, Nat.le_trans h.size k.size, fun i hi hA => (k.block i (Nat.lt_of_lt_of_le hi h.size) hA).trans (h.block i hi hA)⟩
theorem Step.of {A : Nat → Prop} {w w' : World} (h : Below w.heap.size w w') : Step A w w' := ⟨h.os, h.tape, h.output, h.size, fun k hk _ => h.block k hk⟩
theorem Step.ofBelow {A : Nat → Prop} {B : Nat} {w w' : World} (h : Below B w w') (hA : ∀ k, B ≤ k → A k) : Step A w w' :=
  ⟨h.os, h.tape, h.output, h.size, fun k _ hk => h.block k (Nat.lt_of_not_le fun hle => hk (hA k hle))⟩
theorem Step.mono {A A' : Nat → Prop} {w w' : World} (h : Step A w w') (hA : ∀ k, A k → A' k) : Step A' w w' :=
  ⟨h.os, h.tape, h.output, h.size, fun k hk hn => h.block k hk fun ha => hn (hA k ha)⟩
theorem Step.below {A : Nat → Prop} {B : Nat} {w w' : World} (h : Step A w w') (hB : B ≤ w.heap.size) (hA : ∀ k, A k → B ≤ k) : Below B w w' :=
  ⟨h.os, h.tape, h.output, h.size, fun k hk => h.block k (Nat.lt_of_lt_of_le hk hB) fun ha => Nat.not_le_of_lt hk (hA k ha)⟩
theorem Step.alloc (A : Nat → Prop) (w : World) (o : Obj) : Step A w (w.alloc o) := .of (al (rf w) o)
theorem Step.set (A : Nat → Prop) (w : World) (p : Addr) (hp : A p.block) (u : Value) : Step A w (w.setCell p u) :=
  ⟨rfl, rfl, rfl, by simp [World.setCell], fun k _ hk => Below.heap_setCell _ _ _ _ fun e => hk (e ▸ hp)⟩
theorem below_drewN_ {B : Nat} {a w : World} (h : Below B a w) (n : Nat) : Below B a (w.drewN n) := ⟨h.os, h.tape, h.output, h.size, h.block⟩
theorem Step.drewN (A : Nat → Prop) (w : World) (n : Nat) : Step A w (w.drewN n) := .of (below_drewN_ (rf w) n)
theorem Step.grown {A : Nat → Prop} {w w' : World} {row : Option Nat} (hg : w.grownBy w' row) (hr : ∀ k, row = some k → A k) : Step A w w' :=
  ⟨hg.os, hg.tape, hg.output, hg.size, fun k hk hn => hg.block k hk fun e => hn (hr k e.symm)⟩
theorem Step.cell {A : Nat → Prop} {w w' : World} (h : Step A w w') {p : Addr} {v : Value} (hc : w.cell? p = some v) (hA : ¬ A p.block) : w'.cell? p = some v :=
  (World.cell?_of_block (w := w) (h.block p.block (block_lt_of_cell hc) hA)).trans hc

/-- How a value of a type lies in cells ('A': blocks that it avoids). -/
structure Lay (α : Type) where
  size : Nat
  rep : (Nat → Prop) → World → α → List Value → Prop
  len : ∀ {A w a cs}, rep A w a cs → cs.length = size
  step : ∀ {A w w' a cs}, rep A w a cs → Step A w w' → rep A w' a cs
  weaken : ∀ {A A' : Nat → Prop} {w a cs}, rep A w a cs → (∀ k, A' k → k < w.heap.size → A k) → rep A' w a cs

theorem Lay.below {α : Type} (L : Lay α) {A : Nat → Prop} {w w' : World} {a : α} {cs : List Value} (h : L.rep A w a cs) (hb : Below w.heap.size w w') : L.rep A w' a cs := L.step h (.of hb)

def Lay.int (k : IntKind) : Lay Int where
  size := 1
  rep _ _ x cs := cs = [.int k x] ∧ Fits k x
  len h := by rw [h.1]; rfl
  step h _ := h
  weaken h _ := h
def Lay.bool : Lay Bool where
  size := 1
  rep _ _ x cs := cs = [.bool x]
  len h := by rw [h]; rfl
  step h _ := h
  weaken h _ := h
def Lay.pair {α β : Type} (L : Lay α) (M : Lay β) : Lay (α × β) where
  size := L.size + M.size
  rep A w x cs := ∃ c d, cs = c ++ d ∧ L.rep A w x.1 c ∧ M.rep A w x.2 d
  len := by rintro A w a cs ⟨c, d, rfl, h1, h2⟩; rw [List.length_append, L.len h1, M.len h2]
  step := by rintro A w w' a cs ⟨c, d, rfl, h1, h2⟩ hb; exact ⟨c, d, rfl, L.step h1 hb, M.step h2 hb⟩
  weaken := by rintro A A' w a cs ⟨c, d, rfl, h1, h2⟩ hb; exact ⟨c, d, rfl, L.weaken h1 hb, M.weaken h2 hb⟩
def Lay.map {α β : Type} (f : β → α) (L : Lay α) : Lay β where
  size := L.size
  rep A w x cs := L.rep A w (f x) cs
  len h := L.len h
  step h hb := L.step h hb
  weaken h hb := L.weaken h hb

/-- A slice value reads as a list. -/
structure RdL {α : Type} (L : Lay α) (A : Nat → Prop) (w : World) (ao : Option Addr) (n cap : Nat) (xs : List α) : Prop where
  len : xs.length = n
  le : n ≤ cap
  max : cap ≤ maxLen
  nil : ao = none → cap = 0
  here : 0 < n → ∃ b off, ao = some ⟨b, off, none⟩ ∧ ¬ A b ∧ b < w.heap.size ∧ ∀ i (h : i < xs.length), ∃ cs, L.rep A w xs[i] cs ∧ ∀ j, j < L.size → w.cell? ⟨b, off + i * L.size + j, none⟩ = cs[j]?

theorem RdL.lt {α : Type} {L : Lay α} {A : Nat → Prop} {w : World} {ao : Option Addr} {n cap : Nat} {xs : List α} (h : RdL L A w ao n cap xs) : n ≤ 9223372036854775807 := by
  have := h.le; have := h.max; unfold maxLen at *; omega
theorem RdL.step {α : Type} {L : Lay α} {A : Nat → Prop} {w w' : World} {ao : Option Addr} {n cap : Nat} {xs : List α} (h : RdL L A w ao n cap xs) (hs : Step A w w') : RdL L A w' ao n cap xs := by
  refine ⟨h.len, h.le, h.max, h.nil, fun h0 => ?_⟩
  obtain ⟨b, off, e, hA, hb, hc⟩ := h.here h0
  refine ⟨b, off, e, hA, Nat.lt_of_lt_of_le hb hs.size, fun i hi => ?_⟩
  obtain ⟨cs, hr, hj⟩ := hc i hi
  refine ⟨cs, L.step hr hs, fun j hj' => ?_⟩
  rw [World.cell?_of_block (w := w) (h := hs.block b hb hA)]
  exact hj j hj'
theorem RdL.weaken {α : Type} {L : Lay α} {A A' : Nat → Prop} {w : World} {ao : Option Addr} {n cap : Nat} {xs : List α} (h : RdL L A w ao n cap xs) (hA : ∀ k, A' k → k < w.heap.size → A k) : RdL L A' w ao n cap xs := by
  refine ⟨h.len, h.le, h.max, h.nil, fun h0 => ?_⟩
  obtain ⟨b, off, e, hA', hb, hc⟩ := h.here h0
  refine ⟨b, off, e, fun ha => hA' (hA _ ha hb), hb, fun i hi => ?_⟩
  obtain ⟨cs, hr, hj⟩ := hc i hi
  exact ⟨cs, L.weaken hr hA, hj⟩
theorem RdL.below {α : Type} {L : Lay α} {A : Nat → Prop} {w w' : World} {ao : Option Addr} {n cap : Nat} {xs : List α} (h : RdL L A w ao n cap xs) (hb : Below w.heap.size w w') : RdL L A w' ao n cap xs := h.step (.of hb)
theorem RdL.nil_ {α : Type} (L : Lay α) (A : Nat → Prop) (w : World) : RdL L A w none 0 0 [] := ⟨rfl, Nat.le_refl _, by simp [maxLen], fun _ => rfl, fun h => absurd h (by simp)⟩
instance {α : Type} {L : Lay α} {A : Nat → Prop} {ao : Option Addr} {n cap : Nat} {xs : List α} : Mono (fun w => RdL L A w ao n cap xs) := ⟨fun h hb => h.below hb⟩

/-- A slice within a struct. -/
def Lay.slice {α : Type} (L : Lay α) : Lay (List α) where
  size := 1
  rep A w xs cs := ∃ ao n cap, cs = [.slice ao n cap] ∧ RdL L A w ao n cap xs
  len := by rintro A w a cs ⟨ao, n, cap, rfl, h⟩; rfl
  step := by rintro A w w' a cs ⟨ao, n, cap, rfl, h⟩ hb; exact ⟨ao, n, cap, rfl, h.step hb⟩
  weaken := by rintro A A' w a cs ⟨ao, n, cap, rfl, h⟩ hb; exact ⟨ao, n, cap, rfl, h.weaken hb⟩

/-- The element at a place: its cells. -/
theorem RdL.at_ {α : Type} {L : Lay α} {A : Nat → Prop} {w : World} {ao : Option Addr} {n cap : Nat} {xs : List α} (h : RdL L A w ao n cap xs) {i : Nat} (hi : i < xs.length) :
    ∃ b off cs, ao = some ⟨b, off, none⟩ ∧ ¬ A b ∧ b < w.heap.size ∧ L.rep A w xs[i] cs ∧ ∀ j, j < L.size → w.cell? ⟨b, off + i * L.size + j, none⟩ = cs[j]? := by
  obtain ⟨b, off, e, hA, hb, hc⟩ := h.here (by have := h.len; omega)
  obtain ⟨cs, hr, hj⟩ := hc i hi
  exact ⟨b, off, cs, e, hA, hb, hr, hj⟩

/-- Integers: the two readings. -/
theorem RdL.rd {k : IntKind} {A : Nat → Prop} {w : World} {ao : Option Addr} {n cap : Nat} {xs : List Int} (h : RdL (Lay.int k) A w ao n cap xs) : Rd w k ao n cap xs := by
  have hlen := h.len
  have hle := h.le
  refine ⟨h.len, ?_, by omega, h.max, fun h0 => ?_, h.nil⟩
  · intro x hx
    obtain ⟨i, hi, rfl⟩ := List.getElem_of_mem hx
    obtain ⟨b, off, cs, e, _, _, hr, _⟩ := h.at_ hi
    exact hr.2
  · obtain ⟨b, off, e, hA, hb, hc⟩ := h.here (by omega)
    refine ⟨b, off, e, fun i hi => ?_⟩
    obtain ⟨cs, hr, hj⟩ := hc i hi
    obtain ⟨rfl, _⟩ := hr
    have := hj 0 Nat.one_pos
    simp only [Lay.int, Nat.mul_one, Nat.add_zero] at this
    rw [this, el_lt _ _ hi]
    rfl
theorem Rd.lay {k : IntKind} {w : World} {ao : Option Addr} {n cap : Nat} {xs : List Int} (h : Rd w k ao n cap xs) (A : Nat → Prop) (hA : ∀ a, ao = some a → 0 < n → ¬ A a.block) : RdL (Lay.int k) A w ao n cap xs := by
  have hlen := h.len
  have hle := h.le
  refine ⟨h.len, by omega, h.max, h.nil, fun h0 => ?_⟩
  obtain ⟨b, off, e, hc⟩ := h.here (by omega)
  refine ⟨b, off, e, hA _ e h0, block_lt_of_cell (hc 0 (by omega)), fun i hi => ⟨[.int k xs[i]], ⟨rfl, h.fit _ (List.getElem_mem hi)⟩, fun j hj => ?_⟩⟩
  have hj : j < 1 := hj
  obtain rfl : j = 0 := by omega
  have := hc i hi
  simp only [Lay.int, Nat.mul_one, Nat.add_zero]
  rw [this, el_lt _ _ hi]
  rfl

end Go.Proofs.Ytfakdapglbgokaa

/-
  Own slices of things that lie in cells; appends of such. No program in sight. No condition.
-/
namespace Go.Proofs.Ytfakdapglbgokaa
set_option linter.all false
open Go.RowKit

/-- All blocks are avoided (for things that refer to nothing). -/
def AnyA : Nat → Prop := fun _ => True
/-- No block is avoided. -/
def NoA : Nat → Prop := fun _ => False
/-- A layout whose cells are one cell each. -/
class One {α : Type} (L : Lay α) : Prop where
  one : ∀ {A w a cs}, L.rep A w a cs → ∀ u ∈ cs, u.oneCell' = true
instance {k : IntKind} : One (Lay.int k) := ⟨fun h u hu => by rw [h.1, List.mem_singleton] at hu; subst hu; rfl⟩
instance : One Lay.bool := ⟨fun h u hu => by rw [h, List.mem_singleton] at hu; subst hu; rfl⟩
instance {α β : Type} {L : Lay α} {M : Lay β} [One L] [One M] : One (Lay.pair L M) := ⟨fun h u hu => by
  obtain ⟨c, d, rfl, h1, h2⟩ := h
  rcases List.mem_append.1 hu with hu | hu
  · exact One.one h1 u hu
  · exact One.one h2 u hu⟩
instance {α β : Type} {f : β → α} {L : Lay α} [One L] : One (Lay.map f L) := ⟨fun h => One.one (L := L) h⟩
instance {α : Type} {L : Lay α} : One (Lay.slice L) := ⟨fun h u hu => by
  obtain ⟨ao, n, cap, rfl, _⟩ := h
  rw [List.mem_singleton] at hu; subst hu; rfl⟩

/-- Things in cells, one behind the other. -/
def RepAll {α : Type} (L : Lay α) (A : Nat → Prop) (w : World) : List α → List Value → Prop
  | [], cs => cs = []
  | x :: xs, cs => ∃ c d, cs = c ++ d ∧ L.rep A w x c ∧ RepAll L A w xs d
theorem RepAll.length {α : Type} {L : Lay α} {A : Nat → Prop} {w : World} {xs : List α} {cs : List Value} (h : RepAll L A w xs cs) : cs.length = xs.length * L.size := by
  induction xs generalizing cs with
  | nil => rw [show cs = [] from h]; simp
  | cons x xs ih =>
    obtain ⟨c, d, rfl, h1, h2⟩ := h
    rw [List.length_append, L.len h1, ih h2, List.length_cons, Nat.add_mul]; omega
theorem RepAll.append {α : Type} {L : Lay α} {A : Nat → Prop} {w : World} {xs ys : List α} {cs ds : List Value} (h : RepAll L A w xs cs) (g : RepAll L A w ys ds) : RepAll L A w (xs ++ ys) (cs ++ ds) := by
  induction xs generalizing cs with
  | nil => rw [show cs = [] from h]; exact g
  | cons x xs ih =>
    obtain ⟨c, d, rfl, h1, h2⟩ := h
    exact ⟨c, d ++ ds, by rw [List.append_assoc], h1, ih h2⟩
theorem RepAll.one {α : Type} {L : Lay α} {A : Nat → Prop} {w : World} {x : α} {c : List Value} (h : L.rep A w x c) : RepAll L A w [x] c := ⟨c, [], by simp, h, rfl⟩
theorem RepAll.step {α : Type} {L : Lay α} {A : Nat → Prop} {w w' : World} {xs : List α} {cs : List Value} (h : RepAll L A w xs cs) (hs : Step A w w') : RepAll L A w' xs cs := by
  induction xs generalizing cs with
  | nil => exact h
  | cons x xs ih =>
    obtain ⟨c, d, rfl, h1, h2⟩ := h
    exact ⟨c, d, rfl, L.step h1 hs, ih h2⟩
theorem RepAll.weaken {α : Type} {L : Lay α} {A A' : Nat → Prop} {w : World} {xs : List α} {cs : List Value} (h : RepAll L A w xs cs) (hA : ∀ k, A' k → k < w.heap.size → A k) : RepAll L A' w xs cs := by
  induction xs generalizing cs with
  | nil => exact h
  | cons x xs ih =>
    obtain ⟨c, d, rfl, h1, h2⟩ := h
    exact ⟨c, d, rfl, L.weaken h1 hA, ih h2⟩
theorem RepAll.ones {α : Type} {L : Lay α} [One L] {A : Nat → Prop} {w : World} {xs : List α} {cs : List Value} (h : RepAll L A w xs cs) : ∀ u ∈ cs, u.oneCell' = true := by
  induction xs generalizing cs with
  | nil => rw [show cs = [] from h]; intro u hu; cases hu
  | cons x xs ih =>
    obtain ⟨c, d, rfl, h1, h2⟩ := h
    intro u hu
    rcases List.mem_append.1 hu with hu | hu
    · exact One.one h1 u hu
    · exact ih h2 u hu
theorem RepAll.at_ {α : Type} {L : Lay α} {A : Nat → Prop} {w : World} {xs : List α} {cs : List Value} (h : RepAll L A w xs cs) (i : Nat) (hi : i < xs.length) :
    ∃ c, L.rep A w xs[i] c ∧ ∀ j, j < L.size → cs[i * L.size + j]? = c[j]? := by
  induction xs generalizing cs i with
  | nil => simp at hi
  | cons x xs ih =>
    obtain ⟨c, d, rfl, h1, h2⟩ := h
    have hc := L.len h1
    cases i with
    | zero => exact ⟨c, h1, fun j hj => by rw [Nat.zero_mul, Nat.zero_add, List.getElem?_append_left (by omega)]⟩
    | succ i =>
      obtain ⟨c', hr, hj⟩ := ih h2 i (by simpa using hi)
      refine ⟨c', hr, fun j hj' => ?_⟩
      rw [← hj j hj', List.getElem?_append_right (by rw [hc, Nat.add_mul]; omega), hc, Nat.add_mul]
      congr 1; omega
/-- From its parts. -/
theorem RepAll.of {α : Type} {L : Lay α} {A : Nat → Prop} {w : World} : ∀ (xs : List α) (f : Nat → List Value), (∀ i (h : i < xs.length), L.rep A w xs[i] (f i)) → RepAll L A w xs ((List.range xs.length).flatMap f) := by
  intro xs
  induction xs with
  | nil => intro f _; rfl
  | cons x xs ih =>
    intro f h
    refine ⟨f 0, _, ?_, h 0 (by simp), ih (fun i => f (i + 1)) (fun i hi => h (i + 1) (by simpa using hi))⟩
    rw [List.length_cons, List.range_succ_eq_map, List.flatMap_cons, List.flatMap_map]

theorem RdL.repAll {α : Type} {L : Lay α} {A : Nat → Prop} {w : World} {ao : Option Addr} {n cap : Nat} {xs : List α} (h : RdL L A w ao n cap xs) :
    ∃ cs, RepAll L A w xs cs ∧ ∀ ad, ao = some ad → ∀ j u, cs[j]? = some u → w.cell? (ad.add j) = some u := by
  have hlen := h.len
  by_cases h0 : 0 < n
  · obtain ⟨b, off, rfl, hA, hb, hc⟩ := h.here h0
    have hex : ∀ i, ∃ cs, i < xs.length → ∃ x, xs[i]? = some x ∧ L.rep A w x cs ∧ ∀ j, j < L.size → w.cell? ⟨b, off + i * L.size + j, none⟩ = cs[j]? := by
      intro i
      by_cases hi : i < xs.length
      · obtain ⟨cs, h1, h2⟩ := hc i hi
        exact ⟨cs, fun _ => ⟨_, List.getElem?_eq_getElem hi, h1, h2⟩⟩
      · exact ⟨[], fun h => absurd h hi⟩
    have hch := Classical.axiomOfChoice hex
    obtain ⟨f, hf⟩ := hch
    have hrep : ∀ i (h : i < xs.length), L.rep A w xs[i] (f i) := fun i hi => by
      obtain ⟨x, hx, h1, _⟩ := hf i hi
      rw [List.getElem?_eq_getElem hi] at hx
      cases hx
      exact h1
    have hra := RepAll.of xs f hrep
    refine ⟨_, hra, fun ad had j u hu => ?_⟩
    cases had
    rw [add_plain]
    have hjl : j < ((List.range xs.length).flatMap f).length := (List.getElem?_eq_some_iff.1 hu).1
    rw [hra.length] at hjl
    have hs : 0 < L.size := by
      rcases Nat.eq_zero_or_pos L.size with e | e
      · rw [e] at hjl; simp at hjl
      · exact e
    have hi : j / L.size < xs.length := (Nat.div_lt_iff_lt_mul hs).2 hjl
    have hm := Nat.mod_lt j hs
    have hjd : j / L.size * L.size + j % L.size = j := by rw [Nat.mul_comm]; exact Nat.div_add_mod j L.size
    obtain ⟨x, hx, h1, h2⟩ := hf _ hi
    have e1 := h2 _ hm
    rw [Nat.add_assoc, hjd] at e1
    rw [e1]
    -- the cell in the row of all
    have key : ∀ (n i j : Nat), i < n → j < L.size → n ≤ xs.length → ((List.range n).flatMap f)[i * L.size + j]? = (f i)[j]? := by
      intro n
      induction n with
      | zero => intro i j hi; omega
      | succ n ih =>
        intro i j hi hj hn
        have hl : ((List.range n).flatMap f).length = n * L.size := by
          clear ih hi
          induction n with
          | zero => simp
          | succ n ih2 =>
            rw [List.range_succ, List.flatMap_append, List.length_append, ih2 (by omega)]
            simp only [List.flatMap_cons, List.flatMap_nil, List.append_nil]
            rw [L.len (hrep n (by omega)), Nat.add_mul]; omega
        rw [List.range_succ, List.flatMap_append]
        by_cases he : i < n
        · rw [List.getElem?_append_left (by rw [hl]; calc i * L.size + j < i * L.size + L.size := by omega
            _ = (i + 1) * L.size := by rw [Nat.add_mul]; omega
            _ ≤ n * L.size := Nat.mul_le_mul_right _ he)]
          exact ih i j he hj (by omega)
        · obtain rfl : i = n := by omega
          rw [List.getElem?_append_right (by rw [hl]; omega), hl]
          simp only [List.flatMap_cons, List.flatMap_nil, List.append_nil]
          congr 1; omega
    have e2 := key xs.length (j / L.size) (j % L.size) hi hm (Nat.le_refl _)
    rw [hjd] at e2
    rw [← e2]; exact hu
  · have : xs = [] := List.eq_nil_of_length_eq_zero (by omega)
    subst this
    exact ⟨[], rfl, fun _ _ j u hu => by simp at hu⟩

/-- A slice that the call itself made (or nil) of things that lie in cells. -/
def MineL {α : Type} (L : Lay α) (A : Nat → Prop) (w : World) (base : Nat) (e : TypeId) (v : Value) (xs : List α) : Prop := ∃ cs, w.ownsRow base e L.size v xs.length cs ∧ RepAll L A w xs cs
theorem MineL.nil {α : Type} (L : Lay α) (A : Nat → Prop) (w : World) (base : Nat) (e : TypeId) : MineL L A w base e (.slice none 0 0) [] := ⟨[], World.ownsRow_nil _ _ _ _, rfl⟩
theorem MineL.rd {α : Type} {L : Lay α} {A A' : Nat → Prop} {w : World} {base : Nat} {e : TypeId} {v : Value} {xs : List α} (h : MineL L A w base e v xs) (h1 : ∀ k, A' k → k < w.heap.size → A k) (h2 : ∀ k, base ≤ k → k < w.heap.size → ¬ A' k) :
    ∃ ao cap, v = .slice ao xs.length cap ∧ RdL L A' w ao xs.length cap xs ∧ (∀ a, ao = some a → base ≤ a.block ∧ a.block < w.heap.size ∧ a.off = 0 ∧ a.spot = none) := by
  obtain ⟨cs, ⟨hl, ho⟩, hr⟩ := h
  rcases ho with ⟨rfl, h0⟩ | ⟨g, cap, cur, rfl, hg, hh, hn, hm, hcs, ht⟩
  · have : xs = [] := List.eq_nil_of_length_eq_zero h0
    subst this
    exact ⟨none, 0, rfl, RdL.nil_ _ _ _, by simp⟩
  · have hlt : g < w.heap.size := (Array.getElem?_eq_some_iff.1 hh).1
    refine ⟨some ⟨g, 0, none⟩, cap, rfl, ⟨rfl, hn, hm, by simp, fun h0 => ⟨g, 0, rfl, h2 g hg hlt, hlt, fun i hi => ?_⟩⟩, by simp; exact ⟨hg, hlt⟩⟩
    obtain ⟨c, hc, hj⟩ := hr.at_ i hi
    refine ⟨c, L.weaken hc h1, fun j hj' => ?_⟩
    rw [Nat.zero_add, cell_of_row w g _ cur e (0, 0) hh, ← hj j hj']
    have hjl : i * L.size + j < xs.length * L.size := Nat.lt_of_lt_of_le (by rw [Nat.add_mul, Nat.one_mul]; omega : i * L.size + j < (i + 1) * L.size) (Nat.mul_le_mul_right _ hi)
    rw [← ht, List.getElem?_take, if_pos hjl]
    simp
theorem MineL.form {α : Type} {L : Lay α} {A : Nat → Prop} {w : World} {base : Nat} {e : TypeId} {v : Value} {xs : List α} (h : MineL L A w base e v xs) : ∃ a c, v = .slice a xs.length c := by
  obtain ⟨cs, ⟨hl, ho⟩, hr⟩ := h
  rcases ho with ⟨rfl, h0⟩ | ⟨g, cap, cur, rfl, _⟩
  · exact ⟨none, 0, by rw [h0]⟩
  · exact ⟨_, _, rfl⟩
theorem MineL.formN {α : Type} {L : Lay α} {A : Nat → Prop} {w : World} {base : Nat} {e : TypeId} {v : Value} {xs : List α} (h : MineL L A w base e v xs) {n : Nat} (hn : xs.length = n) : ∃ a c, v = .slice a n c := by
  subst hn; exact h.form
theorem Mine.form {w : World} {base : Nat} {e : TypeId} {k : IntKind} {v : Value} {xs : List Int} (h : Mine w base e k v xs) : ∃ a c, v = .slice a xs.length c := by
  obtain ⟨ao, cap, e, _, _⟩ := h.rd
  exact ⟨ao, cap, e⟩
theorem MineL.rd0 {α : Type} {L : Lay α} {w : World} {base : Nat} {e : TypeId} {v : Value} {xs : List α} (h : MineL L NoA w base e v xs) :
    ∃ ao cap, v = .slice ao xs.length cap ∧ RdL L NoA w ao xs.length cap xs := by
  obtain ⟨ao, cap, e, h, _⟩ := h.rd (A' := NoA) (fun k h => h.elim) (fun k _ _ h => h)
  exact ⟨ao, cap, e, h⟩
theorem MineL.kept {α : Type} {L : Lay α} {A : Nat → Prop} {w w' : World} {base : Nat} {e : TypeId} {v : Value} {xs : List α} (h : MineL L A w base e v xs) {B : Nat} (hb : Below B w w') (hB : ∀ g, v.ownBlock = some g → g < B) (hA : ∀ k, B ≤ k → A k) : MineL L A w' base e v xs := by
  obtain ⟨cs, ⟨hl, ho⟩, hr⟩ := h
  refine ⟨cs, ⟨hl, ?_⟩, hr.step (.ofBelow hb hA)⟩
  rcases ho with h2 | ⟨g, cap, cur, rfl, hg, hh, rest⟩
  · exact .inl h2
  · exact .inr ⟨g, cap, cur, rfl, hg, by rw [hb.block g (hB g rfl)]; exact hh, rest⟩
theorem MineL.below {α : Type} {L : Lay α} {A : Nat → Prop} {w w' : World} {base : Nat} {e : TypeId} {v : Value} {xs : List α} (h : MineL L A w base e v xs) (hb : Below w.heap.size w w') : MineL L A w' base e v xs := by
  obtain ⟨cs, ho, hr⟩ := h
  refine ⟨cs, ⟨ho.1, ?_⟩, hr.step (.of hb)⟩
  rcases ho.2 with h2 | ⟨g, cap, cur, rfl, hg, hh, rest⟩
  · exact .inl h2
  · exact .inr ⟨g, cap, cur, rfl, hg, by rw [hb.block g (Array.getElem?_eq_some_iff.1 hh).1]; exact hh, rest⟩
/-- Where just other blocks turn. -/
theorem MineL.step {α : Type} {L : Lay α} {A : Nat → Prop} {w w' : World} {base : Nat} {e : TypeId} {v : Value} {xs : List α} (h : MineL L A w base e v xs) {S : Nat → Prop} (hs : Step S w w') (hB : ∀ g, v.ownBlock = some g → ¬ S g) (hA : ∀ k, S k → A k) : MineL L A w' base e v xs := by
  obtain ⟨cs, ho, hr⟩ := h
  refine ⟨cs, ⟨ho.1, ?_⟩, hr.step (hs.mono hA)⟩
  rcases ho.2 with h2 | ⟨g, cap, cur, rfl, hg, hh, rest⟩
  · exact .inl h2
  · exact .inr ⟨g, cap, cur, rfl, hg, by rw [hs.block g (Array.getElem?_eq_some_iff.1 hh).1 (hB g rfl)]; exact hh, rest⟩
theorem MineL.base_le {α : Type} {L : Lay α} {A : Nat → Prop} {w : World} {base base' : Nat} {e : TypeId} {v : Value} {xs : List α} (h : MineL L A w base e v xs) (hb : base' ≤ base) : MineL L A w base' e v xs := by
  obtain ⟨cs, ⟨hl, ho⟩, hr⟩ := h
  refine ⟨cs, ⟨hl, ?_⟩, hr⟩
  rcases ho with h2 | ⟨g, cap, cur, rfl, hg, rest⟩
  · exact .inl h2
  · exact .inr ⟨g, cap, cur, rfl, Nat.le_trans hb hg, rest⟩
theorem MineL.drew {α : Type} {L : Lay α} {A : Nat → Prop} {w : World} {base : Nat} {e : TypeId} {v : Value} {xs : List α} (h : MineL L A w base e v xs) : MineL L A w.drew base e v xs := h.below ⟨rfl, rfl, rfl, Nat.le_refl _, fun _ _ => rfl⟩
instance {α : Type} {L : Lay α} {A : Nat → Prop} {base : Nat} {e : TypeId} {v : Value} {xs : List α} : Mono (fun w => MineL L A w base e v xs) := ⟨fun h hb => h.below hb⟩
theorem MineL.lt {α : Type} {L : Lay α} {A : Nat → Prop} {w : World} {base : Nat} {e : TypeId} {v : Value} {xs : List α} (h : MineL L A w base e v xs) : ∀ g, v.ownBlock = some g → base ≤ g ∧ g < w.heap.size := by
  obtain ⟨cs, ho, hr⟩ := h
  exact fun g hg => ho.lt g hg

/-- What an append takes: things in cells, one behind the other. -/
def Src {α : Type} (L : Lay α) (A : Nat → Prop) (w : World) (ao : Option Addr) (m c : Nat) (ys : List α) : Prop :=
  ys.length = m ∧ (ao = none → m = 0 ∧ c = 0) ∧ ∃ news, RepAll L A w ys news ∧ ∀ ad, ao = some ad → ∀ j u, news[j]? = some u → w.cell? (ad.add j) = some u
theorem RdL.src {α : Type} {L : Lay α} {A A' : Nat → Prop} {w : World} {ao : Option Addr} {n cap : Nat} {xs : List α} (h : RdL L A' w ao n cap xs) (hA : ∀ k, A k → k < w.heap.size → A' k) : Src L A w ao n cap xs := by
  obtain ⟨news, h1, h2⟩ := h.repAll
  refine ⟨h.len, fun e => ?_, news, h1.weaken hA, h2⟩
  have := h.nil e; have := h.le; omega
/-- Things that refer to nothing. -/
class Flat {α : Type} (L : Lay α) : Prop where
  flat : ∀ {A A' w w' a cs}, L.rep A w a cs → L.rep A' w' a cs
instance {k : IntKind} : Flat (Lay.int k) := ⟨fun h => h⟩
theorem RepAll.flat {α : Type} {L : Lay α} [Flat L] {A A' : Nat → Prop} {w w' : World} {xs : List α} {cs : List Value} (h : RepAll L A w xs cs) : RepAll L A' w' xs cs := by
  induction xs generalizing cs with
  | nil => exact h
  | cons x xs ih =>
    obtain ⟨c, d, rfl, h1, h2⟩ := h
    exact ⟨c, d, rfl, Flat.flat h1, ih h2⟩
theorem MineL.flat {α : Type} {L : Lay α} [Flat L] {A A' : Nat → Prop} {w : World} {base : Nat} {e : TypeId} {v : Value} {xs : List α} (h : MineL L A w base e v xs) : MineL L A' w base e v xs := by
  obtain ⟨cs, ho, hr⟩ := h
  exact ⟨cs, ho, hr.flat⟩
theorem MineL.rdF {α : Type} {L : Lay α} [Flat L] {A : Nat → Prop} {w : World} {base : Nat} {e : TypeId} {a : Option Addr} {n c : Nat} {xs : List α} (h : MineL L A w base e (.slice a n c) xs) : RdL L (fun k => k < base) w a n c xs := by
  obtain ⟨ao, cap, e, hr, _⟩ := MineL.rd (A := fun _ => True) (A' := fun k => k < base) h.flat (fun _ _ _ => trivial) (fun k h1 _ h3 => Nat.not_lt_of_le h1 h3)
  cases e
  exact hr
theorem RdL.set {α : Type} {L : Lay α} {A : Nat → Prop} {w : World} {ao : Option Addr} {n cap : Nat} {xs : List α} (h : RdL L A w ao n cap xs) {p : Addr} (hp : A p.block) (u : Value) : RdL L A (w.setCell p u) ao n cap xs := h.step (.set A w p hp u)
theorem RdL.no {α : Type} {L : Lay α} {A : Nat → Prop} {w : World} {ao : Option Addr} {n cap : Nat} {xs : List α} (h : RdL L A w ao n cap xs) : RdL L NoA w ao n cap xs := h.weaken fun _ h _ => h.elim
theorem RdL.srcF {α : Type} {L : Lay α} [Flat L] {A A' : Nat → Prop} {w : World} {ao : Option Addr} {n cap : Nat} {xs : List α} (h : RdL L A' w ao n cap xs) : Src L A w ao n cap xs := by
  obtain ⟨news, h1, h2⟩ := h.repAll
  refine ⟨h.len, fun e => ?_, news, h1.flat, h2⟩
  have := h.nil e; have := h.le; omega
theorem Src.lit1 {α : Type} {L : Lay α} {A : Nat → Prop} {w : World} {x : α} {cs : List Value} {e : TypeId} {g : Nat} (hb : Blk w g e cs.toArray) (hr : L.rep A w x cs) : Src L A w (some ⟨g, 0, none⟩) 1 1 [x] := by
  refine ⟨rfl, by simp, cs, .one hr, fun ad had j u hu => ?_⟩
  cases had
  rw [add_plain, Nat.zero_add, hb.cell]
  simpa using hu

/-- append(v, src...): v of the call's own make (or nil). What is in the elements avoids v's row ('hA'). -/
theorem wp_append_lay {P : Program} {w : World} {o : Oper} {a : Act} {K : Act → World → Prop} {Q : Exit → Act → World → Prop} (s x : Operand) (t : TypeId)
    (ho : o.op = .call { callee := .builtin .append, args := #[s, x], argTypes := #[t, t] })
    {α : Type} {L : Lay α} [One L] {A : Nat → Prop} {e : TypeId} {bytes : Nat} {z : Value} (ty : SliceTy P t e L.size bytes z) (base : Nat)
    {v : Value} {xs : List α} (hs : a.eval s = v) (hown : MineL L A w base e v xs) (hA : ∀ k, v.ownBlock = some k → A k)
    {ao : Option Addr} {m c : Nat} {ys : List α} (hx : a.eval x = .slice ao m c) (hr : Src L A w ao m c ys)
    (h63 : xs.length + m ≤ maxLen) (hsz : (xs.length + m) * bytes ≤ 140737488355328) (hbase : base ≤ w.heap.size)
    (h : ∀ v' w', MineL L A w' base e v' (xs ++ ys) → w.grownBy w' v.ownBlock → K (a.put o.dst v') w') : o.wp P a w K Q := by
  obtain ⟨cs, hc, hcr⟩ := hown
  obtain ⟨rfl, hnil, news, hnr, hn⟩ := hr
  refine wp_append_any s x t ho ty base v xs.length cs hs hc ao ys.length c news hx hnr.length hnil hn hnr.ones h63 hsz hbase ?_
  intro v' w' ho' hg
  have hst : Step A w w' := .grown hg hA
  refine h v' w' ⟨cs ++ news, by rw [List.length_append]; exact ho', (hcr.step hst).append (hnr.step hst)⟩ hg
theorem wpList_append_lay {P : Program} {w : World} {ops : Array Oper} {rest : List Oper} {o : Oper} {a : Act} {Q : Exit → Act → World → Prop} (hgd : o.guard = none) (s x : Operand) (t : TypeId)
    (ho : o.op = .call { callee := .builtin .append, args := #[s, x], argTypes := #[t, t] })
    {α : Type} {L : Lay α} [One L] {A : Nat → Prop} {e : TypeId} {bytes : Nat} {z : Value} (ty : SliceTy P t e L.size bytes z) (base : Nat)
    {v : Value} {xs : List α} (hs : a.eval s = v) (hown : MineL L A w base e v xs) (hA : ∀ k, v.ownBlock = some k → A k)
    {ao : Option Addr} {m c : Nat} {ys : List α} (hx : a.eval x = .slice ao m c) (hr : Src L A w ao m c ys)
    (h63 : xs.length + m ≤ maxLen) (hsz : (xs.length + m) * bytes ≤ 140737488355328) (hbase : base ≤ w.heap.size)
    (h : ∀ v' w', MineL L A w' base e v' (xs ++ ys) → Below base w w' → wpList P ops Q rest (a.put o.dst v') w') : wpList P ops Q (o :: rest) a w :=
  wpList_plain hgd fun _ hK => wp_append_lay s x t ho ty base hs hown hA hx hr h63 hsz hbase fun v' w' h1 h2 => hK _ _ (h v' w' h1 ((Below.refl _ _).grown h2 hbase fun g hg => (hown.lt g hg).1))
/-- The same, as one step of a region that draws its order. -/
theorem step_append_lay {P : Program} {ops : Array Oper} {o : Oper} {a : Act} {w : World} {K : Act → World → Prop} {Q : Exit → Act → World → Prop} {E : Prop} (hgd : o.guard = none) (s x : Operand) (t : TypeId)
    (ho : o.op = .call { callee := .builtin .append, args := #[s, x], argTypes := #[t, t] })
    {α : Type} {L : Lay α} [One L] {A : Nat → Prop} {e : TypeId} {bytes : Nat} {z : Value} (ty : SliceTy P t e L.size bytes z) (base : Nat)
    {v : Value} {xs : List α} (hs : a.eval s = v) (hown : MineL L A w base e v xs) (hA : ∀ k, v.ownBlock = some k → A k)
    {ao : Option Addr} {m c : Nat} {ys : List α} (hx : a.eval x = .slice ao m c) (hr : Src L A w ao m c ys)
    (h63 : xs.length + m ≤ maxLen) (hsz : (xs.length + m) * bytes ≤ 140737488355328) (hbase : base ≤ w.heap.size)
    (h : ∀ v' w', MineL L A w' base e v' (xs ++ ys) → Below base w w' → K (a.put o.dst v') w') :
    if Region.wanted o (yielded ops a.tmps) = true then Oper.wp P o a w K Q else E := by
  rw [if_pos (by simp [Region.wanted, hgd])]
  exact wp_append_lay s x t ho ty base hs hown hA hx hr h63 hsz hbase fun v' w' h1 h2 => h v' w' h1 ((Below.refl _ _).grown h2 hbase fun g hg => (hown.lt g hg).1)
/-- append(nil, src...): a copy in new memory. -/
theorem wpList_clone_lay {P : Program} {w : World} {ops : Array Oper} {rest : List Oper} {o : Oper} {a : Act} {Q : Exit → Act → World → Prop} (hgd : o.guard = none) (s x : Operand) (t : TypeId)
    (ho : o.op = .call { callee := .builtin .append, args := #[s, x], argTypes := #[t, t] })
    {α : Type} {L : Lay α} [One L] {A : Nat → Prop} {e : TypeId} {bytes : Nat} {z : Value} (ty : SliceTy P t e L.size bytes z)
    (hs : a.eval s = .slice none 0 0)
    {ao : Option Addr} {m c : Nat} {ys : List α} (hx : a.eval x = .slice ao m c) (hr : Src L A w ao m c ys)
    (h63 : m ≤ maxLen) (hsz : m * bytes ≤ 140737488355328)
    (h : ∀ a' c' w', MineL L A w' w.heap.size e (.slice a' m c') ys → Below w.heap.size w w' → wpList P ops Q rest (a.put o.dst (.slice a' m c')) w') : wpList P ops Q (o :: rest) a w := by
  refine wpList_append_lay hgd s x t ho ty w.heap.size hs (MineL.nil _ _ _ _ _) (by simp [Value.ownBlock]) hx hr (by simpa using h63) (by simpa using hsz) (Nat.le_refl _) ?_
  intro v' w' hm hb
  have hm : MineL L A w' w.heap.size e v' ys := hm
  have hlen := hr.1
  obtain ⟨cs, ho, hrr⟩ := hm
  rcases ho.2 with ⟨rfl, h0⟩ | ⟨g, cap, cur, rfl, hg, hh, rest⟩
  · rw [hlen] at h0
    subst h0
    exact h none 0 w' ⟨cs, ho, hrr⟩ hb
  · have := h (some ⟨g, 0, none⟩) cap w'
    rw [← hlen] at this
    exact this ⟨cs, ho, hrr⟩ hb

/-- A literal of one struct, newly laid, as a slice of one. -/
theorem RdL.lit1 {α : Type} {L : Lay α} {A : Nat → Prop} {w : World} {x : α} {cs : List Value} {e : TypeId} {g : Nat} (hb : Blk w g e cs.toArray) (hr : L.rep A w x cs) (hA : ¬ A g) : RdL L A w (some ⟨g, 0, none⟩) 1 1 [x] := by
  refine ⟨rfl, Nat.le_refl _, by simp [maxLen], by simp, fun _ => ⟨g, 0, rfl, hA, hb.lt, fun i hi => ?_⟩⟩
  have hi : i < 1 := hi
  obtain rfl : i = 0 := by omega
  refine ⟨cs, hr, fun j hj => ?_⟩
  rw [Nat.zero_mul, Nat.add_zero, Nat.zero_add, hb.cell]
  simp
end Go.Proofs.Ytfakdapglbgokaa

/-
  Objects: own slices whose rows lie in a footprint. No program in sight. No condition.
-/
namespace Go.Proofs.Ytfakdapglbgokaa
set_option linter.all false
open Go.RowKit

/-- append(v, src...): v of the call's own make (or nil), and where the new row lies. -/
theorem wp_append_at {P : Program} {w : World} {o : Oper} {a : Act} {K : Act → World → Prop} {Q : Exit → Act → World → Prop} (s x : Operand) (t : TypeId)
    (ho : o.op = .call { callee := .builtin .append, args := #[s, x], argTypes := #[t, t] })
    {e : TypeId} {size bytes : Nat} {z : Value} (ty : SliceTy P t e size bytes z)
    (v : Value) (n : Nat) (xs : List Value) (hs : a.eval s = v) (hown : w.ownsRow 0 e size v n xs)
    (ao : Option Addr) (m c : Nat) (news : List Value) (hx : a.eval x = .slice ao m c) (hl : news.length = m * size) (hnone : ao = none → m = 0 ∧ c = 0)
    (hnews : ∀ ad, ao = some ad → ∀ j u, news[j]? = some u → w.cell? (ad.add j) = some u) (h1 : ∀ u ∈ news, u.oneCell' = true)
    (h63 : n + m ≤ maxLen) (hbytes : (n + m) * bytes ≤ 140737488355328)
    (h : ∀ v' w', w'.ownsRow 0 e size v' (n + m) (xs ++ news) → w.grownBy w' v.ownBlock → (v'.ownBlock = v.ownBlock ∨ v'.ownBlock = some w.heap.size) → K (a.put o.dst v') w') : o.wp P a w K Q := by
  obtain ⟨i, hi, hz0, hz1, hz2⟩ := info_parts ty.info
  cases ao with
  | some ad =>
    obtain ⟨v', w', hr, h2, h3, h4, h5⟩ := run_append_own_at (P := P) w 0 t o.type e i z size bytes ty.und hi hz0 hz1 hz2 ty.cells ty.pos v n xs hown ad m c news hl (hnews ad rfl) h1 h63 hbytes (Nat.zero_le _)
    unfold Oper.wp execOp
    simp only [ho, resolve, invoke, builtin, Sem.run_bind, Sem.run_pure, Result.andThen_ok, List.map_toArray, List.map_cons, List.map_nil, hs, hx, hr]
    exact h v' w' h2 h3 h5
  | none =>
    obtain ⟨rfl, rfl⟩ := hnone rfl
    have hn : news = [] := List.eq_nil_of_length_eq_zero (by simpa using hl)
    subst hn
    have hrun := run_append_owned_none (P := P) (w := w) 0 t o.type e i size ty.und hi v n xs hown
    unfold Oper.wp
    simp [execOp, ho, resolve, invoke, builtin, hs, hx, hrun, Result.andThen]
    exact h v w (by simpa using hown) (World.grownBy.refl _ _) (.inl rfl)

/-- An own slice of things whose row lies in a footprint. -/
structure OwnL {α : Type} (L : Lay α) (A : Nat → Prop) (w : World) (Fp : Nat → Prop) (e : TypeId) (v : Value) (xs : List α) : Prop where
  mine : MineL L A w 0 e v xs
  row : ∀ k, v.ownBlock = some k → Fp k
theorem OwnL.nil {α : Type} (L : Lay α) (A : Nat → Prop) (w : World) (Fp : Nat → Prop) (e : TypeId) : OwnL L A w Fp e (.slice none 0 0) [] := ⟨MineL.nil _ _ _ _ _, by simp [Value.ownBlock]⟩
theorem OwnL.step {α : Type} {L : Lay α} {A : Nat → Prop} {w w' : World} {Fp : Nat → Prop} {e : TypeId} {v : Value} {xs : List α} (h : OwnL L A w Fp e v xs) {S : Nat → Prop} (hs : Step S w w') (hd : ∀ k, v.ownBlock = some k → ¬ S k) (hA : ∀ k, S k → A k) : OwnL L A w' Fp e v xs :=
  ⟨h.mine.step hs hd hA, h.row⟩
theorem OwnL.ne {α : Type} {L : Lay α} {A : Nat → Prop} {w : World} {Fp : Nat → Prop} {e t : TypeId} {v : Value} {xs : List α} {g : Nat} {cs : Array Value} (h : OwnL L A w Fp e v xs) (hg : Blk w g t cs) (hne : e ≠ t) : v.ownBlock ≠ some g := by
  obtain ⟨⟨cs', ho, _⟩, _⟩ := h
  exact own_ne ho hg hne
theorem OwnL.apart {α β : Type} {L : Lay α} {M : Lay β} {A A' : Nat → Prop} {w : World} {Fp Fp' : Nat → Prop} {e e' : TypeId} {v v' : Value} {xs : List α} {ys : List β} (h : OwnL L A w Fp e v xs) (g : OwnL M A' w Fp' e' v' ys) (hne : e ≠ e') : ∀ k, v.ownBlock = some k → v'.ownBlock ≠ some k := by
  obtain ⟨⟨cs, ⟨_, ho⟩, _⟩, _⟩ := h
  intro k hk
  rcases ho with ⟨rfl, _⟩ | ⟨b, cap, cur, rfl, _, hb, _⟩
  · simp [Value.ownBlock] at hk
  · obtain rfl : b = k := by simpa [Value.ownBlock] using hk
    exact g.ne (t := e) (cs := cur) hb (Ne.symm hne)
theorem OwnL.form {α : Type} {L : Lay α} {A : Nat → Prop} {w : World} {Fp : Nat → Prop} {e : TypeId} {v : Value} {xs : List α} (h : OwnL L A w Fp e v xs) {n : Nat} (hn : xs.length = n) : ∃ a c, v = .slice a n c := h.mine.formN hn
theorem OwnL.rd {α : Type} {L : Lay α} [Flat L] {A : Nat → Prop} {w : World} {Fp : Nat → Prop} {e : TypeId} {a : Option Addr} {n c : Nat} {xs : List α} (h : OwnL L A w Fp e (.slice a n c) xs) : RdL L NoA w a n c xs := (MineL.rdF h.mine).no
theorem OwnL.weaken {α : Type} {L : Lay α} {A : Nat → Prop} {w : World} {Fp Fp' : Nat → Prop} {e : TypeId} {v : Value} {xs : List α} (h : OwnL L A w Fp e v xs) (hF : ∀ k, Fp k → Fp' k) : OwnL L A w Fp' e v xs := ⟨h.mine, fun k hk => hF k (h.row k hk)⟩
theorem OwnL.lt {α : Type} {L : Lay α} {A : Nat → Prop} {w : World} {Fp : Nat → Prop} {e : TypeId} {v : Value} {xs : List α} (h : OwnL L A w Fp e v xs) : ∀ g, v.ownBlock = some g → g < w.heap.size := fun g hg => (h.mine.lt g hg).2
/-- append(v, src...): v of a footprint. -/
theorem wp_append_own_ {P : Program} {w : World} {o : Oper} {a : Act} {K : Act → World → Prop} {Q : Exit → Act → World → Prop} (s x : Operand) (t : TypeId)
    (ho : o.op = .call { callee := .builtin .append, args := #[s, x], argTypes := #[t, t] })
    {α : Type} {L : Lay α} [One L] {A : Nat → Prop} {e : TypeId} {bytes : Nat} {z : Value} (ty : SliceTy P t e L.size bytes z) {Fp : Nat → Prop}
    {v : Value} {xs : List α} (hs : a.eval s = v) (hown : OwnL L A w Fp e v xs) (hA : ∀ k, v.ownBlock = some k → A k)
    {ao : Option Addr} {m c : Nat} {ys : List α} (hx : a.eval x = .slice ao m c) (hr : Src L A w ao m c ys)
    (h63 : xs.length + m ≤ maxLen) (hsz : (xs.length + m) * bytes ≤ 140737488355328)
    (h : ∀ v' w', OwnL L A w' (fun k => Fp k ∨ k = w.heap.size) e v' (xs ++ ys) → Step (fun k => v.ownBlock = some k) w w' → K (a.put o.dst v') w') : o.wp P a w K Q := by
  obtain ⟨⟨cs, hc, hcr⟩, hrow⟩ := hown
  obtain ⟨rfl, hnil, news, hnr, hn⟩ := hr
  refine wp_append_at s x t ho ty v xs.length cs hs hc ao ys.length c news hx hnr.length hnil hn hnr.ones h63 hsz ?_
  intro v' w' ho' hg hb
  have hst : Step A w w' := .grown hg hA
  refine h v' w' ⟨⟨cs ++ news, by rw [List.length_append]; exact ho', (hcr.step hst).append (hnr.step hst)⟩, fun k hk => ?_⟩ (.grown hg fun k hk => hk)
  rcases hb with hb | hb
  · exact .inl (hrow k (by rw [← hb]; exact hk))
  · rw [hk] at hb; exact .inr (Option.some.inj hb)
theorem wpList_append_own_ {P : Program} {w : World} {ops : Array Oper} {rest : List Oper} {o : Oper} {a : Act} {Q : Exit → Act → World → Prop} (hgd : o.guard = none) (s x : Operand) (t : TypeId)
    (ho : o.op = .call { callee := .builtin .append, args := #[s, x], argTypes := #[t, t] })
    {α : Type} {L : Lay α} [One L] {A : Nat → Prop} {e : TypeId} {bytes : Nat} {z : Value} (ty : SliceTy P t e L.size bytes z) {Fp : Nat → Prop}
    {v : Value} {xs : List α} (hs : a.eval s = v) (hown : OwnL L A w Fp e v xs) (hA : ∀ k, v.ownBlock = some k → A k)
    {ao : Option Addr} {m c : Nat} {ys : List α} (hx : a.eval x = .slice ao m c) (hr : Src L A w ao m c ys)
    (h63 : xs.length + m ≤ maxLen) (hsz : (xs.length + m) * bytes ≤ 140737488355328)
    (h : ∀ v' w', OwnL L A w' (fun k => Fp k ∨ k = w.heap.size) e v' (xs ++ ys) → Step (fun k => v.ownBlock = some k) w w' → wpList P ops Q rest (a.put o.dst v') w') : wpList P ops Q (o :: rest) a w :=
  wpList_plain hgd fun _ hK => wp_append_own_ s x t ho ty hs hown hA hx hr h63 hsz fun v' w' h1 h2 => hK _ _ (h v' w' h1 h2)
/-- One cell of one thing is another one. -/
theorem RepAll.set_ {α : Type} {L : Lay α} {A : Nat → Prop} {w : World} {xs : List α} {cs : List Value} (h : RepAll L A w xs cs) {i : Nat} (hi : i < xs.length) {j : Nat} (hj : j < L.size) {u : Value} {y : α} (hy : ∀ c, L.rep A w xs[i] c → L.rep A w y (c.set j u)) :
    RepAll L A w (xs.set i y) (cs.set (i * L.size + j) u) := by
  induction xs generalizing cs i with
  | nil => simp at hi
  | cons x xs ih =>
    obtain ⟨c, d, rfl, h1, h2⟩ := h
    have hc := L.len h1
    cases i with
    | zero =>
      refine ⟨c.set j u, d, ?_, hy c h1, h2⟩
      rw [Nat.zero_mul, Nat.zero_add, List.set_append_left _ _ (by omega)]
    | succ i =>
      refine ⟨c, d.set (i * L.size + j) u, ?_, h1, ih h2 (by simpa using hi) (by simpa using hy)⟩
      rw [List.set_append_right _ _ (by rw [hc, Nat.add_mul]; omega), hc, Nat.add_mul]
      congr 2; omega
theorem MineL.setAt {α : Type} {L : Lay α} {A : Nat → Prop} {w : World} {base : Nat} {e : TypeId} {xs : List α} {g n cap : Nat} (h : MineL L A w base e (.slice (some ⟨g, 0, none⟩) n cap) xs) {i : Nat} (hi : i < xs.length) {j : Nat} (hj : j < L.size) {u : Value} {y : α} (hA : A g)
    (hy : ∀ c, L.rep A w xs[i] c → L.rep A w y (c.set j u)) {q : Nat} (hq : q = i * L.size + j) : MineL L A (w.setCell ⟨g, q, none⟩ u) base e (.slice (some ⟨g, 0, none⟩) n cap) (xs.set i y) := by
  subst hq
  obtain ⟨cs, ⟨h1, h2⟩, hr⟩ := h
  refine ⟨cs.set (i * L.size + j) u, ⟨by rw [List.length_set, List.length_set]; exact h1, ?_⟩, (hr.set_ hi hj hy).step (.set A w ⟨g, _, none⟩ hA u)⟩
  rcases h2 with ⟨hv, _⟩ | ⟨g', cap', cur, hv, hg, hh, hn, hm, hcs, ht⟩
  · cases hv
  · cases hv
    refine .inr ⟨g, cap, cur.setIfInBounds (i * L.size + j) u, by rw [List.length_set], hg, ?_, by rw [List.length_set]; exact hn, hm, by simpa using hcs, ?_⟩
    · simp [World.setCell, Array.getElem?_modify, hh]
    · rw [List.length_set]
      have : (cur.setIfInBounds (i * L.size + j) u).toList = cur.toList.set (i * L.size + j) u := by simp
      rw [this, List.take_set, ht]
theorem MineL.cellAt {α : Type} {L : Lay α} {A : Nat → Prop} {w : World} {base : Nat} {e : TypeId} {xs : List α} {g n cap : Nat} (h : MineL L A w base e (.slice (some ⟨g, 0, none⟩) n cap) xs) {i : Nat} (hi : i < xs.length) :
    ∃ c, L.rep A w xs[i] c ∧ (∀ j, j < L.size → w.cell? ⟨g, i * L.size + j, none⟩ = c[j]?) ∧ (∀ j, w.frozen? ⟨g, j, none⟩ = false) ∧ base ≤ g ∧ g < w.heap.size := by
  obtain ⟨cs, ⟨hl, ho⟩, hr⟩ := h
  rcases ho with ⟨hv, _⟩ | ⟨g', cap', cur, hv, hg, hh, hn, hm, hcs, ht⟩
  · cases hv
  · cases hv
    obtain ⟨c, hc, hj⟩ := hr.at_ i hi
    refine ⟨c, hc, fun j hj' => ?_, fun j => by simp [World.frozen?, hh], hg, (Array.getElem?_eq_some_iff.1 hh).1⟩
    rw [cell_of_row w g _ cur e (0, 0) hh, ← hj j hj']
    have hjl : i * L.size + j < xs.length * L.size := Nat.lt_of_lt_of_le (by rw [Nat.add_mul, Nat.one_mul]; omega : i * L.size + j < (i + 1) * L.size) (Nat.mul_le_mul_right _ hi)
    rw [← ht, List.getElem?_take, if_pos hjl]
    simp
/-- An own slice with something in it: its block. -/
theorem MineL.at_ {α : Type} {L : Lay α} {A : Nat → Prop} {w : World} {base : Nat} {e : TypeId} {v : Value} {xs : List α} (h : MineL L A w base e v xs) (h0 : 0 < xs.length) :
    ∃ g cap, v = .slice (some ⟨g, 0, none⟩) xs.length cap ∧ base ≤ g ∧ g < w.heap.size := by
  obtain ⟨cs, ⟨h1, h2⟩, hf⟩ := h
  rcases h2 with ⟨rfl, h0'⟩ | ⟨g, cap, cur, rfl, hg, hh, hn, hm, hcs, ht⟩
  · omega
  · exact ⟨g, cap, rfl, hg, (Array.getElem?_eq_some_iff.1 hh).1⟩
theorem repAll_ints {k : IntKind} {A : Nat → Prop} {w : World} {xs : List Int} {cs : List Value} (h : RepAll (Lay.int k) A w xs cs) : cs = ints k xs ∧ AllFit k xs := by
  induction xs generalizing cs with
  | nil => exact ⟨h, by intro x hx; cases hx⟩
  | cons x xs ih =>
    obtain ⟨c, d, rfl, ⟨rfl, h1⟩, h2⟩ := h
    obtain ⟨rfl, h3⟩ := ih h2
    refine ⟨rfl, fun y hy => ?_⟩
    rcases List.mem_cons.1 hy with rfl | hy
    · exact h1
    · exact h3 y hy
theorem MineL.fit {k : IntKind} {A : Nat → Prop} {w : World} {base : Nat} {e : TypeId} {v : Value} {xs : List Int} (h : MineL (Lay.int k) A w base e v xs) : AllFit k xs := by
  obtain ⟨cs, _, hr⟩ := h
  exact (repAll_ints hr).2
theorem OwnL.exact_ {α : Type} {L : Lay α} {A : Nat → Prop} {w : World} {Fp : Nat → Prop} {e : TypeId} {v : Value} {xs : List α} (h : OwnL L A w Fp e v xs) (Gp : Nat → Prop) (hG : ∀ k, v.ownBlock = some k → Gp k) : OwnL L A w Gp e v xs := ⟨h.mine, hG⟩
end Go.Proofs.Ytfakdapglbgokaa
