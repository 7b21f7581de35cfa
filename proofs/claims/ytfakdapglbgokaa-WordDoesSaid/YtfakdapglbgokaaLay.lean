/-
  Own slices of things that lie in cells; appends of such. No program in sight. No condition.
-/
import Derived.Test.YtfakdapglbgokaaLit
import Derived.Test.YtfakdapglbgokaaRep
namespace Go.Proofs.Ytfakdapglbgokaa
set_option linter.all false
open Go.RowKit

/-- All blocks are avoided (for things that refer to nothing). -/
def AnyA : Nat → Prop := fun _ => True
/-- No block is avoided. -/
def NoA : Nat → Prop := fun _ => False
/-- A layout whose cells are one cell each. -/
class One {α : Type} (L : Lay α) : Prop where
  one : ∀ {A w a cs}, L.rep A w a cs → ∀ u ∈ cs, u.oneCell' = true
instance {k : IntKind} : One (Lay.int k) := ⟨fun h u hu => by rw [h.1, List.mem_singleton] at hu; subst hu; rfl⟩
instance : One Lay.bool := ⟨fun h u hu => by rw [h, List.mem_singleton] at hu; subst hu; rfl⟩
instance {α β : Type} {L : Lay α} {M : Lay β} [One L] [One M] : One (Lay.pair L M) := ⟨fun h u hu => by
  obtain ⟨c, d, rfl, h1, h2⟩ := h
  rcases List.mem_append.1 hu with hu | hu
  · exact One.one h1 u hu
  · exact One.one h2 u hu⟩
instance {α β : Type} {f : β → α} {L : Lay α} [One L] : One (Lay.map f L) := ⟨fun h => One.one (L := L) h⟩
instance {α : Type} {L : Lay α} : One (Lay.slice L) := ⟨fun h u hu => by
  obtain ⟨ao, n, cap, rfl, _⟩ := h
  rw [List.mem_singleton] at hu; subst hu; rfl⟩

/-- Things in cells, one behind the other. -/
def RepAll {α : Type} (L : Lay α) (A : Nat → Prop) (w : World) : List α → List Value → Prop
  | [], cs => cs = []
  | x :: xs, cs => ∃ c d, cs = c ++ d ∧ L.rep A w x c ∧ RepAll L A w xs d
theorem RepAll.length {α : Type} {L : Lay α} {A : Nat → Prop} {w : World} {xs : List α} {cs : List Value} (h : RepAll L A w xs cs) : cs.length = xs.length * L.size := by
  induction xs generalizing cs with
  | nil => rw [show cs = [] from h]; simp
  | cons x xs ih =>
    obtain ⟨c, d, rfl, h1, h2⟩ := h
    rw [List.length_append, L.len h1, ih h2, List.length_cons, Nat.add_mul]; omega
theorem RepAll.append {α : Type} {L : Lay α} {A : Nat → Prop} {w : World} {xs ys : List α} {cs ds : List Value} (h : RepAll L A w xs cs) (g : RepAll L A w ys ds) : RepAll L A w (xs ++ ys) (cs ++ ds) := by
  induction xs generalizing cs with
  | nil => rw [show cs = [] from h]; exact g
  | cons x xs ih =>
    obtain ⟨c, d, rfl, h1, h2⟩ := h
    exact ⟨c, d ++ ds, by rw [List.append_assoc], h1, ih h2⟩
theorem RepAll.one {α : Type} {L : Lay α} {A : Nat → Prop} {w : World} {x : α} {c : List Value} (h : L.rep A w x c) : RepAll L A w [x] c := ⟨c, [], by simp, h, rfl⟩
theorem RepAll.step {α : Type} {L : Lay α} {A : Nat → Prop} {w w' : World} {xs : List α} {cs : List Value} (h : RepAll L A w xs cs) (hs : Step A w w') : RepAll L A w' xs cs := by
  induction xs generalizing cs with
  | nil => exact h
  | cons x xs ih =>
    obtain ⟨c, d, rfl, h1, h2⟩ := h
    exact ⟨c, d, rfl, L.step h1 hs, ih h2⟩
theorem RepAll.weaken {α : Type} {L : Lay α} {A A' : Nat → Prop} {w : World} {xs : List α} {cs : List Value} (h : RepAll L A w xs cs) (hA : ∀ k, A' k → k < w.heap.size → A k) : RepAll L A' w xs cs := by
  induction xs generalizing cs with
  | nil => exact h
  | cons x xs ih =>
    obtain ⟨c, d, rfl, h1, h2⟩ := h
    exact ⟨c, d, rfl, L.weaken h1 hA, ih h2⟩
theorem RepAll.ones {α : Type} {L : Lay α} [One L] {A : Nat → Prop} {w : World} {xs : List α} {cs : List Value} (h : RepAll L A w xs cs) : ∀ u ∈ cs, u.oneCell' = true := by
  induction xs generalizing cs with
  | nil => rw [show cs = [] from h]; intro u hu; cases hu
  | cons x xs ih =>
    obtain ⟨c, d, rfl, h1, h2⟩ := h
    intro u hu
    rcases List.mem_append.1 hu with hu | hu
    · exact One.one h1 u hu
    · exact ih h2 u hu
theorem RepAll.at_ {α : Type} {L : Lay α} {A : Nat → Prop} {w : World} {xs : List α} {cs : List Value} (h : RepAll L A w xs cs) (i : Nat) (hi : i < xs.length) :
    ∃ c, L.rep A w xs[i] c ∧ ∀ j, j < L.size → cs[i * L.size + j]? = c[j]? := by
  induction xs generalizing cs i with
  | nil => simp at hi
  | cons x xs ih =>
    obtain ⟨c, d, rfl, h1, h2⟩ := h
    have hc := L.len h1
    cases i with
    | zero => exact ⟨c, h1, fun j hj => by rw [Nat.zero_mul, Nat.zero_add, List.getElem?_append_left (by omega)]⟩
    | succ i =>
      obtain ⟨c', hr, hj⟩ := ih h2 i (by simpa using hi)
      refine ⟨c', hr, fun j hj' => ?_⟩
      rw [← hj j hj', List.getElem?_append_right (by rw [hc, Nat.add_mul]; omega), hc, Nat.add_mul]
      congr 1; omega
/-- From its parts. -/
theorem RepAll.of {α : Type} {L : Lay α} {A : Nat → Prop} {w : World} : ∀ (xs : List α) (f : Nat → List Value), (∀ i (h : i < xs.length), L.rep A w xs[i] (f i)) → RepAll L A w xs ((List.range xs.length).flatMap f) := by
  intro xs
  induction xs with
  | nil => intro f _; rfl
  | cons x xs ih =>
    intro f h
    refine ⟨f 0, _, ?_, h 0 (by simp), ih (fun i => f (i + 1)) (fun i hi => h (i + 1) (by simpa using hi))⟩
    rw [List.length_cons, List.range_succ_eq_map, List.flatMap_cons, List.flatMap_map]

theorem RdL.repAll {α : Type} {L : Lay α} {A : Nat → Prop} {w : World} {ao : Option Addr} {n cap : Nat} {xs : List α} (h : RdL L A w ao n cap xs) :
    ∃ cs, RepAll L A w xs cs ∧ ∀ ad, ao = some ad → ∀ j u, cs[j]? = some u → w.cell? (ad.add j) = some u := by
  have hlen := h.len
  by_cases h0 : 0 < n
  · obtain ⟨b, off, rfl, hA, hb, hc⟩ := h.here h0
    have hex : ∀ i, ∃ cs, i < xs.length → ∃ x, xs[i]? = some x ∧ L.rep A w x cs ∧ ∀ j, j < L.size → w.cell? ⟨b, off + i * L.size + j, none⟩ = cs[j]? := by
      intro i
      by_cases hi : i < xs.length
      · obtain ⟨cs, h1, h2⟩ := hc i hi
        exact ⟨cs, fun _ => ⟨_, List.getElem?_eq_getElem hi, h1, h2⟩⟩
      · exact ⟨[], fun h => absurd h hi⟩
    have hch := Classical.axiomOfChoice hex
    obtain ⟨f, hf⟩ := hch
    have hrep : ∀ i (h : i < xs.length), L.rep A w xs[i] (f i) := fun i hi => by
      obtain ⟨x, hx, h1, _⟩ := hf i hi
      rw [List.getElem?_eq_getElem hi] at hx
      cases hx
      exact h1
    have hra := RepAll.of xs f hrep
    refine ⟨_, hra, fun ad had j u hu => ?_⟩
    cases had
    rw [add_plain]
    have hjl : j < ((List.range xs.length).flatMap f).length := (List.getElem?_eq_some_iff.1 hu).1
    rw [hra.length] at hjl
    have hs : 0 < L.size := by
      rcases Nat.eq_zero_or_pos L.size with e | e
      · rw [e] at hjl; simp at hjl
      · exact e
    have hi : j / L.size < xs.length := (Nat.div_lt_iff_lt_mul hs).2 hjl
    have hm := Nat.mod_lt j hs
    have hjd : j / L.size * L.size + j % L.size = j := by rw [Nat.mul_comm]; exact Nat.div_add_mod j L.size
    obtain ⟨x, hx, h1, h2⟩ := hf _ hi
    have e1 := h2 _ hm
    rw [Nat.add_assoc, hjd] at e1
    rw [e1]
    -- the cell in the row of all
    have key : ∀ (n i j : Nat), i < n → j < L.size → n ≤ xs.length → ((List.range n).flatMap f)[i * L.size + j]? = (f i)[j]? := by
      intro n
      induction n with
      | zero => intro i j hi; omega
      | succ n ih =>
        intro i j hi hj hn
        have hl : ((List.range n).flatMap f).length = n * L.size := by
          clear ih hi
          induction n with
          | zero => simp
          | succ n ih2 =>
            rw [List.range_succ, List.flatMap_append, List.length_append, ih2 (by omega)]
            simp only [List.flatMap_cons, List.flatMap_nil, List.append_nil]
            rw [L.len (hrep n (by omega)), Nat.add_mul]; omega
        rw [List.range_succ, List.flatMap_append]
        by_cases he : i < n
        · rw [List.getElem?_append_left (by rw [hl]; calc i * L.size + j < i * L.size + L.size := by omega
            _ = (i + 1) * L.size := by rw [Nat.add_mul]; omega
            _ ≤ n * L.size := Nat.mul_le_mul_right _ he)]
          exact ih i j he hj (by omega)
        · obtain rfl : i = n := by omega
          rw [List.getElem?_append_right (by rw [hl]; omega), hl]
          simp only [List.flatMap_cons, List.flatMap_nil, List.append_nil]
          congr 1; omega
    have e2 := key xs.length (j / L.size) (j % L.size) hi hm (Nat.le_refl _)
    rw [hjd] at e2
    rw [← e2]; exact hu
  · have : xs = [] := List.eq_nil_of_length_eq_zero (by omega)
    subst this
    exact ⟨[], rfl, fun _ _ j u hu => by simp at hu⟩

/-- A slice that the call itself made (or nil) of things that lie in cells. -/
def MineL {α : Type} (L : Lay α) (A : Nat → Prop) (w : World) (base : Nat) (e : TypeId) (v : Value) (xs : List α) : Prop := ∃ cs, w.ownsRow base e L.size v xs.length cs ∧ RepAll L A w xs cs
theorem MineL.nil {α : Type} (L : Lay α) (A : Nat → Prop) (w : World) (base : Nat) (e : TypeId) : MineL L A w base e (.slice none 0 0) [] := ⟨[], World.ownsRow_nil _ _ _ _, rfl⟩
theorem MineL.rd {α : Type} {L : Lay α} {A A' : Nat → Prop} {w : World} {base : Nat} {e : TypeId} {v : Value} {xs : List α} (h : MineL L A w base e v xs) (h1 : ∀ k, A' k → k < w.heap.size → A k) (h2 : ∀ k, base ≤ k → k < w.heap.size → ¬ A' k) :
    ∃ ao cap, v = .slice ao xs.length cap ∧ RdL L A' w ao xs.length cap xs ∧ (∀ a, ao = some a → base ≤ a.block ∧ a.block < w.heap.size ∧ a.off = 0 ∧ a.spot = none) := by
  obtain ⟨cs, ⟨hl, ho⟩, hr⟩ := h
  rcases ho with ⟨rfl, h0⟩ | ⟨g, cap, cur, rfl, hg, hh, hn, hm, hcs, ht⟩
  · have : xs = [] := List.eq_nil_of_length_eq_zero h0
    subst this
    exact ⟨none, 0, rfl, RdL.nil_ _ _ _, by simp⟩
  · have hlt : g < w.heap.size := (Array.getElem?_eq_some_iff.1 hh).1
    refine ⟨some ⟨g, 0, none⟩, cap, rfl, ⟨rfl, hn, hm, by simp, fun h0 => ⟨g, 0, rfl, h2 g hg hlt, hlt, fun i hi => ?_⟩⟩, by simp; exact ⟨hg, hlt⟩⟩
    obtain ⟨c, hc, hj⟩ := hr.at_ i hi
    refine ⟨c, L.weaken hc h1, fun j hj' => ?_⟩
    rw [Nat.zero_add, cell_of_row w g _ cur e (0, 0) hh, ← hj j hj']
    have hjl : i * L.size + j < xs.length * L.size := Nat.lt_of_lt_of_le (by rw [Nat.add_mul, Nat.one_mul]; omega : i * L.size + j < (i + 1) * L.size) (Nat.mul_le_mul_right _ hi)
    rw [← ht, List.getElem?_take, if_pos hjl]
    simp
theorem MineL.form {α : Type} {L : Lay α} {A : Nat → Prop} {w : World} {base : Nat} {e : TypeId} {v : Value} {xs : List α} (h : MineL L A w base e v xs) : ∃ a c, v = .slice a xs.length c := by
  obtain ⟨cs, ⟨hl, ho⟩, hr⟩ := h
  rcases ho with ⟨rfl, h0⟩ | ⟨g, cap, cur, rfl, _⟩
  · exact ⟨none, 0, by rw [h0]⟩
  · exact ⟨_, _, rfl⟩
theorem MineL.formN {α : Type} {L : Lay α} {A : Nat → Prop} {w : World} {base : Nat} {e : TypeId} {v : Value} {xs : List α} (h : MineL L A w base e v xs) {n : Nat} (hn : xs.length = n) : ∃ a c, v = .slice a n c := by
  subst hn; exact h.form
theorem Mine.form {w : World} {base : Nat} {e : TypeId} {k : IntKind} {v : Value} {xs : List Int} (h : Mine w base e k v xs) : ∃ a c, v = .slice a xs.length c := by
  obtain ⟨ao, cap, e, _, _⟩ := h.rd
  exact ⟨ao, cap, e⟩
theorem MineL.rd0 {α : Type} {L : Lay α} {w : World} {base : Nat} {e : TypeId} {v : Value} {xs : List α} (h : MineL L NoA w base e v xs) :
    ∃ ao cap, v = .slice ao xs.length cap ∧ RdL L NoA w ao xs.length cap xs := by
  obtain ⟨ao, cap, e, h, _⟩ := h.rd (A' := NoA) (fun k h => h.elim) (fun k _ _ h => h)
  exact ⟨ao, cap, e, h⟩
theorem MineL.kept {α : Type} {L : Lay α} {A : Nat → Prop} {w w' : World} {base : Nat} {e : TypeId} {v : Value} {xs : List α} (h : MineL L A w base e v xs) {B : Nat} (hb : Below B w w') (hB : ∀ g, v.ownBlock = some g → g < B) (hA : ∀ k, B ≤ k → A k) : MineL L A w' base e v xs := by
  obtain ⟨cs, ⟨hl, ho⟩, hr⟩ := h
  refine ⟨cs, ⟨hl, ?_⟩, hr.step (.ofBelow hb hA)⟩
  rcases ho with h2 | ⟨g, cap, cur, rfl, hg, hh, rest⟩
  · exact .inl h2
  · exact .inr ⟨g, cap, cur, rfl, hg, by rw [hb.block g (hB g rfl)]; exact hh, rest⟩
theorem MineL.below {α : Type} {L : Lay α} {A : Nat → Prop} {w w' : World} {base : Nat} {e : TypeId} {v : Value} {xs : List α} (h : MineL L A w base e v xs) (hb : Below w.heap.size w w') : MineL L A w' base e v xs := by
  obtain ⟨cs, ho, hr⟩ := h
  refine ⟨cs, ⟨ho.1, ?_⟩, hr.step (.of hb)⟩
  rcases ho.2 with h2 | ⟨g, cap, cur, rfl, hg, hh, rest⟩
  · exact .inl h2
  · exact .inr ⟨g, cap, cur, rfl, hg, by rw [hb.block g (Array.getElem?_eq_some_iff.1 hh).1]; exact hh, rest⟩
/-- Where just other blocks turn. -/
theorem MineL.step {α : Type} {L : Lay α} {A : Nat → Prop} {w w' : World} {base : Nat} {e : TypeId} {v : Value} {xs : List α} (h : MineL L A w base e v xs) {S : Nat → Prop} (hs : Step S w w') (hB : ∀ g, v.ownBlock = some g → ¬ S g) (hA : ∀ k, S k → A k) : MineL L A w' base e v xs := by
  obtain ⟨cs, ho, hr⟩ := h
  refine ⟨cs, ⟨ho.1, ?_⟩, hr.step (hs.mono hA)⟩
  rcases ho.2 with h2 | ⟨g, cap, cur, rfl, hg, hh, rest⟩
  · exact .inl h2
  · exact .inr ⟨g, cap, cur, rfl, hg, by rw [hs.block g (Array.getElem?_eq_some_iff.1 hh).1 (hB g rfl)]; exact hh, rest⟩
theorem MineL.base_le {α : Type} {L : Lay α} {A : Nat → Prop} {w : World} {base base' : Nat} {e : TypeId} {v : Value} {xs : List α} (h : MineL L A w base e v xs) (hb : base' ≤ base) : MineL L A w base' e v xs := by
  obtain ⟨cs, ⟨hl, ho⟩, hr⟩ := h
  refine ⟨cs, ⟨hl, ?_⟩, hr⟩
  rcases ho with h2 | ⟨g, cap, cur, rfl, hg, rest⟩
  · exact .inl h2
  · exact .inr ⟨g, cap, cur, rfl, Nat.le_trans hb hg, rest⟩
theorem MineL.drew {α : Type} {L : Lay α} {A : Nat → Prop} {w : World} {base : Nat} {e : TypeId} {v : Value} {xs : List α} (h : MineL L A w base e v xs) : MineL L A w.drew base e v xs := h.below ⟨rfl, rfl, rfl, Nat.le_refl _, fun _ _ => rfl⟩
instance {α : Type} {L : Lay α} {A : Nat → Prop} {base : Nat} {e : TypeId} {v : Value} {xs : List α} : Mono (fun w => MineL L A w base e v xs) := ⟨fun h hb => h.below hb⟩
theorem MineL.lt {α : Type} {L : Lay α} {A : Nat → Prop} {w : World} {base : Nat} {e : TypeId} {v : Value} {xs : List α} (h : MineL L A w base e v xs) : ∀ g, v.ownBlock = some g → base ≤ g ∧ g < w.heap.size := by
  obtain ⟨cs, ho, hr⟩ := h
  exact fun g hg => ho.lt g hg

/-- What an append takes: things in cells, one behind the other. -/
def Src {α : Type} (L : Lay α) (A : Nat → Prop) (w : World) (ao : Option Addr) (m c : Nat) (ys : List α) : Prop :=
  ys.length = m ∧ (ao = none → m = 0 ∧ c = 0) ∧ ∃ news, RepAll L A w ys news ∧ ∀ ad, ao = some ad → ∀ j u, news[j]? = some u → w.cell? (ad.add j) = some u
theorem RdL.src {α : Type} {L : Lay α} {A A' : Nat → Prop} {w : World} {ao : Option Addr} {n cap : Nat} {xs : List α} (h : RdL L A' w ao n cap xs) (hA : ∀ k, A k → k < w.heap.size → A' k) : Src L A w ao n cap xs := by
  obtain ⟨news, h1, h2⟩ := h.repAll
  refine ⟨h.len, fun e => ?_, news, h1.weaken hA, h2⟩
  have := h.nil e; have := h.le; omega
/-- Things that refer to nothing. -/
class Flat {α : Type} (L : Lay α) : Prop where
  flat : ∀ {A A' w w' a cs}, L.rep A w a cs → L.rep A' w' a cs
instance {k : IntKind} : Flat (Lay.int k) := ⟨fun h => h⟩
theorem RepAll.flat {α : Type} {L : Lay α} [Flat L] {A A' : Nat → Prop} {w w' : World} {xs : List α} {cs : List Value} (h : RepAll L A w xs cs) : RepAll L A' w' xs cs := by
  induction xs generalizing cs with
  | nil => exact h
  | cons x xs ih =>
    obtain ⟨c, d, rfl, h1, h2⟩ := h
    exact ⟨c, d, rfl, Flat.flat h1, ih h2⟩
theorem MineL.flat {α : Type} {L : Lay α} [Flat L] {A A' : Nat → Prop} {w : World} {base : Nat} {e : TypeId} {v : Value} {xs : List α} (h : MineL L A w base e v xs) : MineL L A' w base e v xs := by
  obtain ⟨cs, ho, hr⟩ := h
  exact ⟨cs, ho, hr.flat⟩
theorem MineL.rdF {α : Type} {L : Lay α} [Flat L] {A : Nat → Prop} {w : World} {base : Nat} {e : TypeId} {a : Option Addr} {n c : Nat} {xs : List α} (h : MineL L A w base e (.slice a n c) xs) : RdL L (fun k => k < base) w a n c xs := by
  obtain ⟨ao, cap, e, hr, _⟩ := MineL.rd (A := fun _ => True) (A' := fun k => k < base) h.flat (fun _ _ _ => trivial) (fun k h1 _ h3 => Nat.not_lt_of_le h1 h3)
  cases e
  exact hr
theorem RdL.set {α : Type} {L : Lay α} {A : Nat → Prop} {w : World} {ao : Option Addr} {n cap : Nat} {xs : List α} (h : RdL L A w ao n cap xs) {p : Addr} (hp : A p.block) (u : Value) : RdL L A (w.setCell p u) ao n cap xs := h.step (.set A w p hp u)
theorem RdL.no {α : Type} {L : Lay α} {A : Nat → Prop} {w : World} {ao : Option Addr} {n cap : Nat} {xs : List α} (h : RdL L A w ao n cap xs) : RdL L NoA w ao n cap xs := h.weaken fun _ h _ => h.elim
theorem RdL.srcF {α : Type} {L : Lay α} [Flat L] {A A' : Nat → Prop} {w : World} {ao : Option Addr} {n cap : Nat} {xs : List α} (h : RdL L A' w ao n cap xs) : Src L A w ao n cap xs := by
  obtain ⟨news, h1, h2⟩ := h.repAll
  refine ⟨h.len, fun e => ?_, news, h1.flat, h2⟩
  have := h.nil e; have := h.le; omega
theorem Src.lit1 {α : Type} {L : Lay α} {A : Nat → Prop} {w : World} {x : α} {cs : List Value} {e : TypeId} {g : Nat} (hb : Blk w g e cs.toArray) (hr : L.rep A w x cs) : Src L A w (some ⟨g, 0, none⟩) 1 1 [x] := by
  refine ⟨rfl, by simp, cs, .one hr, fun ad had j u hu => ?_⟩
  cases had
  rw [add_plain, Nat.zero_add, hb.cell]
  simpa using hu

/-- append(v, src...): v of the call's own make (or nil). What is in the elements avoids v's row ('hA'). -/
theorem wp_append_lay {P : Program} {w : World} {o : Oper} {a : Act} {K : Act → World → Prop} {Q : Exit → Act → World → Prop} (s x : Operand) (t : TypeId)
    (ho : o.op = .call { callee := .builtin .append, args := #[s, x], argTypes := #[t, t] })
    {α : Type} {L : Lay α} [One L] {A : Nat → Prop} {e : TypeId} {bytes : Nat} {z : Value} (ty : SliceTy P t e L.size bytes z) (base : Nat)
    {v : Value} {xs : List α} (hs : a.eval s = v) (hown : MineL L A w base e v xs) (hA : ∀ k, v.ownBlock = some k → A k)
    {ao : Option Addr} {m c : Nat} {ys : List α} (hx : a.eval x = .slice ao m c) (hr : Src L A w ao m c ys)
    (h63 : xs.length + m ≤ maxLen) (hsz : (xs.length + m) * bytes ≤ 140737488355328) (hbase : base ≤ w.heap.size)
    (h : ∀ v' w', MineL L A w' base e v' (xs ++ ys) → w.grownBy w' v.ownBlock → K (a.put o.dst v') w') : o.wp P a w K Q := by
  obtain ⟨cs, hc, hcr⟩ := hown
  obtain ⟨rfl, hnil, news, hnr, hn⟩ := hr
  refine wp_append_any s x t ho ty base v xs.length cs hs hc ao ys.length c news hx hnr.length hnil hn hnr.ones h63 hsz hbase ?_
  intro v' w' ho' hg
  have hst : Step A w w' := .grown hg hA
  refine h v' w' ⟨cs ++ news, by rw [List.length_append]; exact ho', (hcr.step hst).append (hnr.step hst)⟩ hg
theorem wpList_append_lay {P : Program} {w : World} {ops : Array Oper} {rest : List Oper} {o : Oper} {a : Act} {Q : Exit → Act → World → Prop} (hgd : o.guard = none) (s x : Operand) (t : TypeId)
    (ho : o.op = .call { callee := .builtin .append, args := #[s, x], argTypes := #[t, t] })
    {α : Type} {L : Lay α} [One L] {A : Nat → Prop} {e : TypeId} {bytes : Nat} {z : Value} (ty : SliceTy P t e L.size bytes z) (base : Nat)
    {v : Value} {xs : List α} (hs : a.eval s = v) (hown : MineL L A w base e v xs) (hA : ∀ k, v.ownBlock = some k → A k)
    {ao : Option Addr} {m c : Nat} {ys : List α} (hx : a.eval x = .slice ao m c) (hr : Src L A w ao m c ys)
    (h63 : xs.length + m ≤ maxLen) (hsz : (xs.length + m) * bytes ≤ 140737488355328) (hbase : base ≤ w.heap.size)
    (h : ∀ v' w', MineL L A w' base e v' (xs ++ ys) → Below base w w' → wpList P ops Q rest (a.put o.dst v') w') : wpList P ops Q (o :: rest) a w :=
  wpList_plain hgd fun _ hK => wp_append_lay s x t ho ty base hs hown hA hx hr h63 hsz hbase fun v' w' h1 h2 => hK _ _ (h v' w' h1 ((Below.refl _ _).grown h2 hbase fun g hg => (hown.lt g hg).1))
/-- The same, as one step of a region that draws its order. -/
theorem step_append_lay {P : Program} {ops : Array Oper} {o : Oper} {a : Act} {w : World} {K : Act → World → Prop} {Q : Exit → Act → World → Prop} {E : Prop} (hgd : o.guard = none) (s x : Operand) (t : TypeId)
    (ho : o.op = .call { callee := .builtin .append, args := #[s, x], argTypes := #[t, t] })
    {α : Type} {L : Lay α} [One L] {A : Nat → Prop} {e : TypeId} {bytes : Nat} {z : Value} (ty : SliceTy P t e L.size bytes z) (base : Nat)
    {v : Value} {xs : List α} (hs : a.eval s = v) (hown : MineL L A w base e v xs) (hA : ∀ k, v.ownBlock = some k → A k)
    {ao : Option Addr} {m c : Nat} {ys : List α} (hx : a.eval x = .slice ao m c) (hr : Src L A w ao m c ys)
    (h63 : xs.length + m ≤ maxLen) (hsz : (xs.length + m) * bytes ≤ 140737488355328) (hbase : base ≤ w.heap.size)
    (h : ∀ v' w', MineL L A w' base e v' (xs ++ ys) → Below base w w' → K (a.put o.dst v') w') :
    if Region.wanted o (yielded ops a.tmps) = true then Oper.wp P o a w K Q else E := by
  rw [if_pos (by simp [Region.wanted, hgd])]
  exact wp_append_lay s x t ho ty base hs hown hA hx hr h63 hsz hbase fun v' w' h1 h2 => h v' w' h1 ((Below.refl _ _).grown h2 hbase fun g hg => (hown.lt g hg).1)
/-- append(nil, src...): a copy in new memory. -/
theorem wpList_clone_lay {P : Program} {w : World} {ops : Array Oper} {rest : List Oper} {o : Oper} {a : Act} {Q : Exit → Act → World → Prop} (hgd : o.guard = none) (s x : Operand) (t : TypeId)
    (ho : o.op = .call { callee := .builtin .append, args := #[s, x], argTypes := #[t, t] })
    {α : Type} {L : Lay α} [One L] {A : Nat → Prop} {e : TypeId} {bytes : Nat} {z : Value} (ty : SliceTy P t e L.size bytes z)
    (hs : a.eval s = .slice none 0 0)
    {ao : Option Addr} {m c : Nat} {ys : List α} (hx : a.eval x = .slice ao m c) (hr : Src L A w ao m c ys)
    (h63 : m ≤ maxLen) (hsz : m * bytes ≤ 140737488355328)
    (h : ∀ a' c' w', MineL L A w' w.heap.size e (.slice a' m c') ys → Below w.heap.size w w' → wpList P ops Q rest (a.put o.dst (.slice a' m c')) w') : wpList P ops Q (o :: rest) a w := by
  refine wpList_append_lay hgd s x t ho ty w.heap.size hs (MineL.nil _ _ _ _ _) (by simp [Value.ownBlock]) hx hr (by simpa using h63) (by simpa using hsz) (Nat.le_refl _) ?_
  intro v' w' hm hb
  have hm : MineL L A w' w.heap.size e v' ys := hm
  have hlen := hr.1
  obtain ⟨cs, ho, hrr⟩ := hm
  rcases ho.2 with ⟨rfl, h0⟩ | ⟨g, cap, cur, rfl, hg, hh, rest⟩
  · rw [hlen] at h0
    subst h0
    exact h none 0 w' ⟨cs, ho, hrr⟩ hb
  · have := h (some ⟨g, 0, none⟩) cap w'
    rw [← hlen] at this
    exact this ⟨cs, ho, hrr⟩ hb

/-- A literal of one struct, newly laid, as a slice of one. -/
theorem RdL.lit1 {α : Type} {L : Lay α} {A : Nat → Prop} {w : World} {x : α} {cs : List Value} {e : TypeId} {g : Nat} (hb : Blk w g e cs.toArray) (hr : L.rep A w x cs) (hA : ¬ A g) : RdL L A w (some ⟨g, 0, none⟩) 1 1 [x] := by
  refine ⟨rfl, Nat.le_refl _, by simp [maxLen], by simp, fun _ => ⟨g, 0, rfl, hA, hb.lt, fun i hi => ?_⟩⟩
  have hi : i < 1 := hi
  obtain rfl : i = 0 := by omega
  refine ⟨cs, hr, fun j hj => ?_⟩
  rw [Nat.zero_mul, Nat.add_zero, Nat.zero_add, hb.cell]
  simp
end Go.Proofs.Ytfakdapglbgokaa
