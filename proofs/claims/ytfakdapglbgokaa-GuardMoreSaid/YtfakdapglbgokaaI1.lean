/-
  Texts joined: XRd XFirst XKept XLit. No condition.
-/
import Derived.WalkKit
import Derived.ProofKit
import Derived.OpenShut
import Derived.Lib.Hide
import Derived.Laws.BytesArg
import Derived.Laws.AppendOwnNone
import Derived.Deep.Draws
import Derived.ArgAppend
import Derived.Lib.SmallJoins
/-
  Readings of slices of integers in memory: no program in sight. No condition.
-/
namespace Go.Proofs.Ytfakdapglbgokaa
set_option linter.all false
open Go.RowKit

/-- The i-th number of a list (0 behind its end): a name that the walk leaves as it is. -/
def el (xs : List Int) (i : Nat) : Int := xs.getD i 0
theorem el_lt (xs : List Int) (i : Nat) (h : i < xs.length) : el xs i = xs[i] := by simp [el, List.getD, h]
theorem el_cons_succ (x : Int) (xs : List Int) (i : Nat) : el (x :: xs) (i + 1) = el xs i := by simp [el]
theorem el_cons_zero (x : Int) (xs : List Int) : el (x :: xs) 0 = x := by simp [el]
theorem el_append_left (xs ys : List Int) (i : Nat) (h : i < xs.length) : el (xs ++ ys) i = el xs i := by
  simp [el, List.getD, List.getElem?_append_left h]
theorem el_append_right (xs ys : List Int) (i : Nat) : el (xs ++ ys) (xs.length + i) = el ys i := by
  simp [el, List.getD, List.getElem?_append_right]

theorem ext_el {xs ys : List Int} (hl : xs.length = ys.length) (h : ∀ i, i < xs.length → el xs i = el ys i) : xs = ys :=
  List.ext_getElem hl fun i h1 h2 => by rw [← el_lt _ _ h1, ← el_lt _ _ h2, h i h1]
theorem el_out (xs : List Int) (k : Nat) (h : xs.length ≤ k) : el xs k = 0 := by simp [el, List.getD, h]
theorem el_drop (xs : List Int) (lo i : Nat) : el (xs.drop lo) i = el xs (lo + i) := by simp [el, List.getD]
theorem el_take (xs : List Int) (m i : Nat) : el (xs.take m) i = if i < m then el xs i else 0 := by
  simp only [el, List.getD, List.getElem?_take]; split <;> simp
theorem el_append (xs ys : List Int) (i : Nat) : el (xs ++ ys) i = if i < xs.length then el xs i else el ys (i - xs.length) := by
  simp only [el, List.getD, List.getElem?_append]; split <;> rfl

/-- The number of a kind. -/
def Fits (k : IntKind) (x : Int) : Prop := (Lit.int k x).wf = true
def AllFit (k : IntKind) (xs : List Int) : Prop := ∀ x ∈ xs, Fits k x
theorem Fits.u8 {x : Int} (h : Fits .u8 x) : 0 ≤ x ∧ x ≤ 255 := by
  simp [Fits, Lit.wf, IntKind.min, IntKind.max, IntKind.signed, IntKind.bits] at h; omega
theorem Fits.i64 {x : Int} (h : Fits .i64 x) : -9223372036854775808 ≤ x ∧ x ≤ 9223372036854775807 := by
  simp [Fits, Lit.wf, IntKind.min, IntKind.max, IntKind.signed, IntKind.bits] at h; omega
theorem Fits.u64 {x : Int} (h : Fits .u64 x) : 0 ≤ x ∧ x ≤ 18446744073709551615 := by
  simp [Fits, Lit.wf, IntKind.min, IntKind.max, IntKind.signed, IntKind.bits] at h; omega
theorem Fits.of_u8 {x : Int} (h0 : 0 ≤ x) (h1 : x ≤ 255) : Fits .u8 x := by
  simp [Fits, Lit.wf, IntKind.min, IntKind.max, IntKind.signed, IntKind.bits]; omega
theorem Fits.of_i64 {x : Int} (h0 : -9223372036854775808 ≤ x) (h1 : x ≤ 9223372036854775807) : Fits .i64 x := by
  simp [Fits, Lit.wf, IntKind.min, IntKind.max, IntKind.signed, IntKind.bits]; omega
theorem Fits.of_u64 {x : Int} (h0 : 0 ≤ x) (h1 : x ≤ 18446744073709551615) : Fits .u64 x := by
  simp [Fits, Lit.wf, IntKind.min, IntKind.max, IntKind.signed, IntKind.bits]; omega
theorem AllFit.el_u8 {xs : List Int} (h : AllFit .u8 xs) (i : Nat) : 0 ≤ el xs i ∧ el xs i ≤ 255 := by
  by_cases hi : i < xs.length
  · rw [el_lt _ _ hi]; exact (h _ (List.getElem_mem hi)).u8
  · simp [el, List.getD, List.getElem?_eq_none (Nat.le_of_not_lt hi)]
theorem AllFit.el_u64 {xs : List Int} (h : AllFit .u64 xs) (i : Nat) : 0 ≤ el xs i ∧ el xs i ≤ 18446744073709551615 := by
  by_cases hi : i < xs.length
  · rw [el_lt _ _ hi]; exact (h _ (List.getElem_mem hi)).u64
  · simp [el, List.getD, List.getElem?_eq_none (Nat.le_of_not_lt hi)]
theorem AllFit.el_i64 {xs : List Int} (h : AllFit .i64 xs) (i : Nat) : -9223372036854775808 ≤ el xs i ∧ el xs i ≤ 9223372036854775807 := by
  by_cases hi : i < xs.length
  · rw [el_lt _ _ hi]; exact (h _ (List.getElem_mem hi)).i64
  · simp [el, List.getD, List.getElem?_eq_none (Nat.le_of_not_lt hi)]
theorem AllFit.append {k : IntKind} {xs ys : List Int} (h : AllFit k xs) (g : AllFit k ys) : AllFit k (xs ++ ys) := by
  intro x hx; rcases List.mem_append.1 hx with h' | h'; exact h _ h'; exact g _ h'

/-- A slice value reads as a list of numbers of a kind. 'lim': a bound of its capacity. -/
structure Rd (w : World) (k : IntKind) (ao : Option Addr) (n cap : Nat) (xs : List Int) : Prop where
  len : xs.length = n
  fit : AllFit k xs
  le : xs.length ≤ cap
  max : cap ≤ maxLen
  here : 0 < xs.length → ∃ b off, ao = some ⟨b, off, none⟩ ∧ ∀ i, i < xs.length → w.cell? ⟨b, off + i, none⟩ = some (.int k (el xs i))
  nil : ao = none → cap = 0

theorem Rd.lt {w : World} {k : IntKind} {ao : Option Addr} {n cap : Nat} {xs : List Int} (h : Rd w k ao n cap xs) : n ≤ 9223372036854775807 := by
  have := h.len; have := h.le; have := h.max; unfold maxLen at *; omega

/-- Two calls one behind the other; a new block; both. -/
theorem ov {a w w' : World} (h : Below a.heap.size a w) (h2 : Below w.heap.size w w') : Below a.heap.size a w' := h.trans (h2.mono h.size)
theorem al {a w : World} (h : Below a.heap.size a w) (o : Obj) : Below a.heap.size a (w.alloc o) := h.alloc h.size o
theorem ov1 {a w w' : World} {o : Obj} (h : Below a.heap.size a w) (h2 : Below (w.alloc o).heap.size (w.alloc o) w') : Below a.heap.size a w' := ov (al h o) h2
theorem rf (w : World) : Below w.heap.size w w := Below.refl _ _

theorem keep {w w' : World} {p : Addr} {v : Value} (h : w.cell? p = some v) (hb : Below w.heap.size w w') : w'.cell? p = some v :=
  (hb.cell (World.block_lt_of_cell? w p h)).trans h

/-- Readings stay where no old block turns. -/
theorem Rd.below {w w' : World} {k : IntKind} {ao : Option Addr} {n cap : Nat} {xs : List Int} (h : Rd w k ao n cap xs) (hb : Below w.heap.size w w') : Rd w' k ao n cap xs := by
  refine ⟨h.len, h.fit, h.le, h.max, fun h0 => ?_, h.nil⟩
  obtain ⟨b, off, e, hc⟩ := h.here h0
  refine ⟨b, off, e, fun i hi => ?_⟩
  have := hc i hi
  rw [hb.cell (p := ⟨b, off + i, none⟩) (World.block_lt_of_cell? w _ this)]
  exact this

theorem add_plain (b off i : Nat) : (⟨b, off, none⟩ : Addr).add i = ⟨b, off + i, none⟩ := by unfold Addr.add; split <;> simp_all

/-- From the frame's word on a slice of integers that came in. -/
theorem Rd.of_row {w : World} {k : IntKind} {a : Option Addr} {len cap : Nat} {zs : List Int}
    (h : (a = none ∧ len = 0 ∧ cap = 0 ∧ zs = []) ∨
      ∃ x, a = some x ∧ len ≤ cap ∧ cap ≤ maxLen ∧ zs.length = cap ∧ (∀ i, i < zs.length → w.cell? (x.add i) = some (.int k (zs.getD i 0))) ∧ ∀ n ∈ zs, (Lit.int k n).wf = true) :
    ∃ xs, Rd w k a len cap xs := by
  rcases h with ⟨rfl, rfl, rfl, rfl⟩ | ⟨x, rfl, hl, hm, hz, hc, hw⟩
  · exact ⟨[], ⟨rfl, by simp [AllFit], Nat.le_refl _, by simp [maxLen], fun h => absurd h (by simp), fun _ => rfl⟩⟩
  · refine ⟨zs.take len, ⟨by simp; omega, fun n hn => hw n (List.mem_of_mem_take hn), by simp; omega, hm, fun h0 => ?_, fun h => by simp at h⟩⟩
    have hlen : (zs.take len).length = len := by simp; omega
    rw [hlen] at h0
    obtain ⟨b, off, spot⟩ := x
    have hs : spot = none := by
      have h0' := hc 0 (by omega)
      cases spot with
      | none => rfl
      | some s => simp [Addr.add, World.cell?] at h0'; split at h0' <;> simp at h0'
    subst hs
    refine ⟨b, off, rfl, fun i hi => ?_⟩
    rw [hlen] at hi
    have := hc i (by omega)
    rw [add_plain] at this
    rw [this]
    simp [el, List.getD, hi]

/-- The nil slice. -/
theorem Rd.nil_ (w : World) (k : IntKind) : Rd w k none 0 0 [] := ⟨rfl, by simp [AllFit], Nat.le_refl _, by simp [maxLen], fun h => absurd h (by simp), fun _ => rfl⟩

/-- The cells of a list of numbers. -/
def ints (k : IntKind) (xs : List Int) : List Value := xs.map (Value.int k)
theorem ints_append (k : IntKind) (xs ys : List Int) : ints k (xs ++ ys) = ints k xs ++ ints k ys := by simp [ints]
theorem ints_length (k : IntKind) (xs : List Int) : (ints k xs).length = xs.length := by simp [ints]
theorem ints_get {k : IntKind} {xs : List Int} {j : Nat} {u : Value} (h : (ints k xs)[j]? = some u) : j < xs.length ∧ u = .int k (el xs j) := by
  have hj : j < xs.length := by have := (List.getElem?_eq_some_iff.1 h).1; simpa [ints] using this
  refine ⟨hj, ?_⟩
  simp [ints, hj] at h
  rw [el_lt _ _ hj, ← h]

/-- A slice of integers that the call itself made (or nil): its numbers; its row lies in a block from 'base' on. -/
def Mine (w : World) (base : Nat) (e : TypeId) (k : IntKind) (v : Value) (xs : List Int) : Prop := w.ownsRow base e 1 v xs.length (ints k xs) ∧ AllFit k xs

theorem Mine.nil (w : World) (base : Nat) (e : TypeId) (k : IntKind) : Mine w base e k (.slice none 0 0) [] := ⟨World.ownsRow_nil _ _ _ _, by simp [AllFit]⟩

theorem Mine.rd {w : World} {base : Nat} {e : TypeId} {k : IntKind} {v : Value} {xs : List Int} (h : Mine w base e k v xs) :
    ∃ ao cap, v = .slice ao xs.length cap ∧ Rd w k ao xs.length cap xs ∧ (∀ a, ao = some a → base ≤ a.block ∧ a.off = 0 ∧ a.spot = none) := by
  obtain ⟨⟨h1, h2⟩, hf⟩ := h
  rcases h2 with ⟨rfl, h0⟩ | ⟨g, cap, cur, rfl, hg, hh, hn, hm, hcs, ht⟩
  · have : xs = [] := List.eq_nil_of_length_eq_zero h0
    subst this
    exact ⟨none, 0, rfl, Rd.nil_ _ _, by simp⟩
  · refine ⟨some ⟨g, 0, none⟩, cap, rfl, ⟨rfl, hf, hn, hm, fun h0 => ⟨g, 0, rfl, fun i hi => ?_⟩, by simp⟩, by simp; exact hg⟩
    rw [Nat.zero_add, cell_of_row w g i cur e (0, 0) hh]
    have : (ints k xs)[i]? = some (.int k (el xs i)) := by simp [ints, hi, el_lt _ _ hi]
    rw [← ht, List.getElem?_take] at this
    split at this
    · simpa using this
    · cases this

theorem Mine.rd_ {w : World} {base : Nat} {e : TypeId} {k : IntKind} {ao : Option Addr} {n cap : Nat} {xs : List Int} (h : Mine w base e k (.slice ao n cap) xs) : Rd w k ao n cap xs := by
  obtain ⟨ao', cap', e, hr, _⟩ := h.rd
  cases e
  exact hr
theorem Mine.kept {w w' : World} {base : Nat} {e : TypeId} {k : IntKind} {v : Value} {xs : List Int} (h : Mine w base e k v xs) {B : Nat} (hb : Below B w w') (hB : ∀ g, v.ownBlock = some g → g < B) : Mine w' base e k v xs := by
  obtain ⟨⟨h1, h2⟩, hf⟩ := h
  refine ⟨⟨h1, ?_⟩, hf⟩
  rcases h2 with h2 | ⟨g, cap, cur, rfl, hg, hh, rest⟩
  · exact .inl h2
  · exact .inr ⟨g, cap, cur, rfl, hg, by rw [hb.block g (hB g rfl)]; exact hh, rest⟩
theorem Mine.below {w w' : World} {base : Nat} {e : TypeId} {k : IntKind} {v : Value} {xs : List Int} (h : Mine w base e k v xs) (hb : Below w.heap.size w w') : Mine w' base e k v xs :=
  h.kept hb fun g hg => (h.1.lt g hg).2

/-- A slice literal of numbers, newly laid. -/
theorem Rd.lit {w' : World} (k : IntKind) (xs : List Int) (e : TypeId) (b : Nat) (hw : w'.heap[b]? = some (.cells (ints k xs).toArray e)) (hf : AllFit k xs) (hm : xs.length ≤ 1000000) : Rd w' k (some ⟨b, 0, none⟩) xs.length xs.length xs := by
  refine ⟨rfl, hf, Nat.le_refl _, by unfold maxLen; omega, fun _ => ⟨b, 0, rfl, fun i hi => ?_⟩, fun h => by simp at h⟩
  rw [Nat.zero_add, cell_of_row w' b i _ e (0, 0) hw]
  simp [ints, hi, el_lt _ _ hi]

/-- A list with another number at a place: a name that the walk leaves as it is. -/
def put (xs : List Int) (i : Nat) (x : Int) : List Int := xs.set i x
theorem put_length (xs : List Int) (i : Nat) (x : Int) : (put xs i x).length = xs.length := by simp [put]
theorem el_put (xs : List Int) (i : Nat) (x : Int) (j : Nat) (h : i < xs.length) : el (put xs i x) j = if j = i then x else el xs j := by
  simp only [el, put, List.getD, List.getElem?_set]
  by_cases hj : i = j
  · subst hj; simp [h]
  · rw [if_neg hj, if_neg (fun h => hj h.symm)]
theorem AllFit.put {k : IntKind} {xs : List Int} (h : AllFit k xs) {x : Int} (hx : Fits k x) (i : Nat) : AllFit k (put xs i x) := by
  intro y hy
  rcases List.mem_or_eq_of_mem_set hy with h' | h'
  · exact h _ h'
  · exact h' ▸ hx

/-- An own slice with something in it: its block; its cells; none of them is frozen. -/
theorem Mine.at_ {w : World} {base : Nat} {e : TypeId} {k : IntKind} {v : Value} {xs : List Int} (h : Mine w base e k v xs) (h0 : 0 < xs.length) :
    ∃ g cap, v = .slice (some ⟨g, 0, none⟩) xs.length cap ∧ base ≤ g ∧ g < w.heap.size := by
  obtain ⟨⟨h1, h2⟩, hf⟩ := h
  rcases h2 with ⟨rfl, h0'⟩ | ⟨g, cap, cur, rfl, hg, hh, hn, hm, hcs, ht⟩
  · omega
  · exact ⟨g, cap, rfl, hg, (Array.getElem?_eq_some_iff.1 hh).1⟩
theorem Mine.cell {w : World} {base : Nat} {e : TypeId} {k : IntKind} {xs : List Int} {g n cap : Nat} (h : Mine w base e k (.slice (some ⟨g, 0, none⟩) n cap) xs) {i : Nat} (hi : i < xs.length) :
    w.cell? ⟨g, i, none⟩ = some (.int k (el xs i)) ∧ w.frozen? ⟨g, i, none⟩ = false := by
  have hc := h.1.cells (g := g) rfl i (.int k (el xs i)) (by simp [ints, hi, el_lt _ _ hi])
  rw [add_plain, Nat.zero_add] at hc
  refine ⟨hc, ?_⟩
  rcases h.1.2 with ⟨hv, _⟩ | ⟨g', cap', cur, hv, hg, hh, _⟩
  · cases hv
  · cases hv
    simp [World.frozen?, hh]
theorem Mine.set {w : World} {base : Nat} {e : TypeId} {k : IntKind} {xs : List Int} {g n cap : Nat} (h : Mine w base e k (.slice (some ⟨g, 0, none⟩) n cap) xs) (i : Nat) {x : Int} (hx : Fits k x) :
    Mine (w.setCell ⟨g, i, none⟩ (.int k x)) base e k (.slice (some ⟨g, 0, none⟩) n cap) (put xs i x) := by
  obtain ⟨⟨h1, h2⟩, hf⟩ := h
  refine ⟨⟨by rw [ints_length, put_length]; rw [ints_length] at h1; exact h1, ?_⟩, hf.put hx i⟩
  rcases h2 with ⟨hv, _⟩ | ⟨g', cap', cur, hv, hg, hh, hn, hm, hcs, ht⟩
  · cases hv
  · cases hv
    refine .inr ⟨g, cap, cur.setIfInBounds i (.int k x), by rw [put_length], hg, ?_, by rw [put_length]; exact hn, hm, by simpa using hcs, ?_⟩
    · simp [World.setCell, Array.getElem?_modify, hh]
    · rw [put_length]
      have : (cur.setIfInBounds i (.int k x)).toList = cur.toList.set i (.int k x) := by simp
      rw [this, List.take_set, ht]
      simp [ints, put]

theorem Mine.setLow {w : World} {base : Nat} {e : TypeId} {k : IntKind} {v : Value} {xs : List Int} (h : Mine w base e k v xs) {a : Addr} (ha : a.block < base) (u : Value) : Mine (w.setCell a u) base e k v xs :=
  ⟨ownsRow_setCell_below h.1 ha u, h.2⟩
theorem Mine.base_le {w : World} {base base' : Nat} {e : TypeId} {k : IntKind} {v : Value} {xs : List Int} (h : Mine w base e k v xs) (hb : base' ≤ base) : Mine w base' e k v xs := by
  obtain ⟨⟨h1, h2⟩, hf⟩ := h
  refine ⟨⟨h1, ?_⟩, hf⟩
  rcases h2 with h2 | ⟨g, cap, cur, rfl, hg, rest⟩
  · exact .inl h2
  · exact .inr ⟨g, cap, cur, rfl, Nat.le_trans hb hg, rest⟩
theorem Mine.drewN {w : World} {base : Nat} {e : TypeId} {k : IntKind} {v : Value} {xs : List Int} (h : Mine w base e k v xs) (n : Nat) : Mine (w.drewN n) base e k v xs := h
theorem Mine.drew {w : World} {base : Nat} {e : TypeId} {k : IntKind} {v : Value} {xs : List Int} (h : Mine w base e k v xs) : Mine w.drew base e k v xs := h

/-- The types of a slice, off the program's table. -/
structure SliceTy (P : Program) (t e : TypeId) (size bytes : Nat) (z : Value) : Prop where
  und : P.underlying t = some (.slice e)
  info : (P.info? e).map (fun i => (i.zero, i.size, i.bytes)) = some (some z, size, bytes)
  cells : z.cells.size = size
  pos : 0 < size

/-- append(v, src...): v of the call's own make (or nil), src whatever slice whose cells are known. -/
theorem wp_append_any {P : Program} {w : World} {o : Oper} {a : Act} {K : Act → World → Prop} {Q : Exit → Act → World → Prop} (s x : Operand) (t : TypeId)
    (ho : o.op = .call { callee := .builtin .append, args := #[s, x], argTypes := #[t, t] })
    {e : TypeId} {size bytes : Nat} {z : Value} (ty : SliceTy P t e size bytes z) (base : Nat)
    (v : Value) (n : Nat) (xs : List Value) (hs : a.eval s = v) (hown : w.ownsRow base e size v n xs)
    (ao : Option Addr) (m c : Nat) (news : List Value) (hx : a.eval x = .slice ao m c) (hl : news.length = m * size) (hnone : ao = none → m = 0 ∧ c = 0)
    (hnews : ∀ ad, ao = some ad → ∀ j u, news[j]? = some u → w.cell? (ad.add j) = some u) (h1 : ∀ u ∈ news, u.oneCell' = true)
    (h63 : n + m ≤ maxLen) (hbytes : (n + m) * bytes ≤ 140737488355328) (hbase : base ≤ w.heap.size)
    (h : ∀ v' w', w'.ownsRow base e size v' (n + m) (xs ++ news) → w.grownBy w' v.ownBlock → K (a.put o.dst v') w') : o.wp P a w K Q := by
  obtain ⟨i, hi, hz0, hz1, hz2⟩ := info_parts ty.info
  cases ao with
  | some ad => exact wp_append_own w s x t ho base e i z size bytes ty.und hi hz0 hz1 hz2 ty.cells ty.pos v n xs hs hown ad m c news hx hl (hnews ad rfl) h1 h63 hbytes hbase (fun v' w' a b _ => h v' w' a b)
  | none =>
    obtain ⟨rfl, rfl⟩ := hnone rfl
    have hn : news = [] := List.eq_nil_of_length_eq_zero (by simpa using hl)
    subst hn
    have hrun := run_append_owned_none (P := P) (w := w) base t o.type e i size ty.und hi v n xs hown
    unfold Oper.wp
    simp [execOp, ho, resolve, invoke, builtin, hs, hx, hrun, Result.andThen]
    exact h v w (by simpa using hown) (World.grownBy.refl _ _)

/-- The same over integers. -/
theorem wp_append_rd {P : Program} {w : World} {o : Oper} {a : Act} {K : Act → World → Prop} {Q : Exit → Act → World → Prop} (s x : Operand) (t : TypeId)
    (ho : o.op = .call { callee := .builtin .append, args := #[s, x], argTypes := #[t, t] })
    {e : TypeId} {bytes : Nat} {z : Value} (ty : SliceTy P t e 1 bytes z) (base : Nat) {k : IntKind}
    {v : Value} {xs : List Int} (hs : a.eval s = v) (hown : Mine w base e k v xs)
    {ao : Option Addr} {m c : Nat} {ys : List Int} (hx : a.eval x = .slice ao m c) (hr : Rd w k ao m c ys)
    (hsz : (xs.length + m) * bytes ≤ 140737488355328) (hb0 : 0 < bytes) (hbase : base ≤ w.heap.size)
    (h : ∀ v' w', Mine w' base e k v' (xs ++ ys) → w.grownBy w' v.ownBlock → K (a.put o.dst v') w') : o.wp P a w K Q := by
  obtain rfl := hr.len
  have hle : xs.length + ys.length ≤ 140737488355328 := Nat.le_trans (Nat.le_mul_of_pos_right _ hb0) hsz
  refine wp_append_any s x t ho ty base v xs.length (ints k xs) hs hown.1 ao ys.length c (ints k ys) hx (by simp [ints]) ?_ ?_ ?_ (by unfold maxLen; omega) hsz hbase ?_
  · intro hao
    have := hr.nil hao; have := hr.le; omega
  · intro ad had j u hu
    obtain ⟨hj, rfl⟩ := ints_get hu
    obtain ⟨b, off, hao, hc⟩ := hr.here (by omega)
    rw [had] at hao
    obtain rfl := Option.some.inj hao
    rw [add_plain]
    exact hc j hj
  · exact ints_oneCell k ys
  · intro v' w' ho' hg
    refine h v' w' ⟨?_, hown.2.append hr.fit⟩ hg
    rw [List.length_append, ints_append]
    exact ho'

/-- append(v, src...) over integers, in a walk. -/
theorem wpList_append_rd {P : Program} {w : World} {ops : Array Oper} {rest : List Oper} {o : Oper} {a : Act} {Q : Exit → Act → World → Prop} (hgd : o.guard = none) (s x : Operand) (t : TypeId)
    (ho : o.op = .call { callee := .builtin .append, args := #[s, x], argTypes := #[t, t] })
    {e : TypeId} {bytes : Nat} {z : Value} (ty : SliceTy P t e 1 bytes z) (base : Nat) {k : IntKind}
    {v : Value} {xs : List Int} (hs : a.eval s = v) (hown : Mine w base e k v xs)
    {ao : Option Addr} {m c : Nat} {ys : List Int} (hx : a.eval x = .slice ao m c) (hr : Rd w k ao m c ys)
    (hsz : (xs.length + m) * bytes ≤ 140737488355328) (hb0 : 0 < bytes) (hbase : base ≤ w.heap.size)
    (h : ∀ v' w', Mine w' base e k v' (xs ++ ys) → w.grownBy w' v.ownBlock → wpList P ops Q rest (a.put o.dst v') w') : wpList P ops Q (o :: rest) a w :=
  wpList_plain hgd fun _ hK => wp_append_rd s x t ho ty base hs hown hx hr hsz hb0 hbase fun v' w' h1 h2 => hK _ _ (h v' w' h1 h2)

/-- append(v, src...) over integers, as one step of a region that draws its order. -/
theorem step_append_rd {P : Program} {ops : Array Oper} {o : Oper} {a : Act} {w : World} {K : Act → World → Prop} {Q : Exit → Act → World → Prop} {E : Prop} (hgd : o.guard = none) (s x : Operand) (t : TypeId)
    (ho : o.op = .call { callee := .builtin .append, args := #[s, x], argTypes := #[t, t] })
    {e : TypeId} {bytes : Nat} {z : Value} (ty : SliceTy P t e 1 bytes z) (base : Nat) {k : IntKind}
    {v : Value} {xs : List Int} (hs : a.eval s = v) (hown : Mine w base e k v xs)
    {ao : Option Addr} {m c : Nat} {ys : List Int} (hx : a.eval x = .slice ao m c) (hr : Rd w k ao m c ys)
    (hsz : (xs.length + m) * bytes ≤ 140737488355328) (hb0 : 0 < bytes) (hbase : base ≤ w.heap.size)
    (h : ∀ v' w', Mine w' base e k v' (xs ++ ys) → Below base w w' → K (a.put o.dst v') w') :
    if Region.wanted o (yielded ops a.tmps) = true then Oper.wp P o a w K Q else E := by
  rw [if_pos (by simp [Region.wanted, hgd])]
  exact wp_append_rd s x t ho ty base hs hown hx hr hsz hb0 hbase fun v' w' h1 h2 => h v' w' h1 ((Below.refl _ _).grown h2 hbase fun g hg => (hown.1.lt g hg).1)

/-- append(nil, src...) over integers: a copy in new memory. -/
theorem wpList_append_new {P : Program} {w : World} {ops : Array Oper} {rest : List Oper} {o : Oper} {a : Act} {Q : Exit → Act → World → Prop} (hgd : o.guard = none) (s x : Operand) (t : TypeId)
    (ho : o.op = .call { callee := .builtin .append, args := #[s, x], argTypes := #[t, t] })
    {e : TypeId} {bytes : Nat} {z : Value} (ty : SliceTy P t e 1 bytes z) {k : IntKind}
    (hs : a.eval s = .slice none 0 0)
    {ao : Option Addr} {m c : Nat} {ys : List Int} (hx : a.eval x = .slice ao m c) (hr : Rd w k ao m c ys)
    (hsz : m * bytes ≤ 140737488355328) (hb0 : 0 < bytes)
    (h : ∀ v' w', Mine w' w.heap.size e k v' ys → Below w.heap.size w w' → wpList P ops Q rest (a.put o.dst v') w') : wpList P ops Q (o :: rest) a w := by
  refine wpList_append_rd hgd s x t ho ty w.heap.size hs (Mine.nil _ _ _ _) hx hr (by simpa using hsz) hb0 (Nat.le_refl _) ?_
  intro v' w' hm hg
  exact h v' w' hm ((Below.refl _ _).grown hg (Nat.le_refl _) (by simp [Value.ownBlock]))

/-- append(v, x) of one number: v of the call's own make (or nil). -/
theorem wpList_append_one {P : Program} {w : World} {ops : Array Oper} {rest : List Oper} {o : Oper} {a : Act} {Q : Exit → Act → World → Prop} (hgd : o.guard = none) (s x : Operand) (t : TypeId)
    (ho : o.op = .call { callee := .builtin .append, args := #[s, x], argTypes := #[t, t] })
    {e : TypeId} {bytes : Nat} {z : Value} (ty : SliceTy P t e 1 bytes z) (base : Nat) {k : IntKind}
    {v : Value} {xs : List Int} (hs : a.eval s = v) (hown : Mine w base e k v xs) {y : Int} {N : Nat}
    (hx : a.eval x = .slice (some ⟨N, 0, none⟩) 1 1) (hN : N = w.heap.size) (hy : Fits k y)
    (hsz : (xs.length + 1) * bytes ≤ 140737488355328) (hb0 : 0 < bytes) (hbase : base ≤ w.heap.size)
    (h : ∀ v' w', Mine w' base e k v' (xs ++ [y]) → Below base w w' → wpList P ops Q rest (a.put o.dst v') w') : wpList P ops Q (o :: rest) a (w.alloc (.cells #[.int k y] e)) := by
  subst hN
  have hl : Rd (w.alloc (.cells #[.int k y] e)) k (some ⟨w.heap.size, 0, none⟩) 1 1 [y] :=
    Rd.lit k [y] e w.heap.size (heap_alloc_new w _) (fun u hu => by rw [List.mem_singleton.1 hu]; exact hy) (by simp)
  have hm : Mine (w.alloc (.cells #[.int k y] e)) base e k v xs := hown.below ((Below.refl _ _).alloc (Nat.le_refl _) _)
  refine wpList_append_rd hgd s x t ho ty base hs hm hx hl hsz hb0 (by simp; omega) fun v' w' h1 h2 => h v' w' h1 ?_
  exact (((Below.refl _ _).alloc hbase _).grown h2 (by simp; omega) fun g hg => (hown.1.lt g hg).1)

/-- make([]T, n) over integers: noughts in new memory. -/
theorem wpList_make_ints {P : Program} {w : World} {ops : Array Oper} {rest : List Oper} {o : Oper} {a : Act} {Q : Exit → Act → World → Prop}
    (hg : o.guard = none) (l c : Operand) (t : TypeId) (hop : o.op = Op.makeSlice t l c)
    {e : TypeId} {bytes : Nat} {k : IntKind} (ty : SliceTy P t e 1 bytes (.int k 0)) (hk : Fits k 0)
    (kl kc : IntKind) (L C : Int) (n : Nat) (hl : a.eval l = .int kl L) (hc : a.eval c = .int kc C) (hL : L = (n : Int)) (hC : C = (n : Int)) (b2 : bytes * n ≤ 281474976710656) (b3 : n ≤ 281474976710656)
    (hK : ∀ w', Mine w' w.heap.size e k (.slice (some ⟨w.heap.size, 0, none⟩) n n) (List.replicate n 0) → Below w.heap.size w w' → wpList P ops Q rest (a.put o.dst (.slice (some ⟨w.heap.size, 0, none⟩) n n)) w') :
    wpList P ops Q (o :: rest) a w := by
  obtain ⟨i, hi, hz0, hz1, hz2⟩ := info_parts ty.info
  refine wpList_make_full w hg l c t hop w.heap.size e i (.int k 0) 1 ty.und hi hz0 hz1 kl kc L C n hl hc hL hC (by rw [hz2]; exact b2) (by unfold maxLen; omega) (Nat.le_refl _) fun w' ho hgr => hK w' ⟨?_, ?_⟩ ?_
  · have e1 : (madeCells (Value.int k 0).cells (n * 1)).toList = ints k (List.replicate n 0) := by
      rw [Nat.mul_one, show (Value.int k 0).cells = #[.int k 0] from rfl, toList_madeCells_one]
      simp [ints]
    rw [← e1, List.length_replicate]
    exact ho
  · intro x hx
    rw [List.eq_of_mem_replicate hx]; exact hk
  · exact (Below.refl _ _).grown hgr (Nat.le_refl _) (by simp)

theorem run_sizeOf {P : Program} {t e : TypeId} {size bytes : Nat} {z : Value} (ty : SliceTy P t e size bytes z) (w : World) : (sizeOf e).run P w = .ok size w := by
  obtain ⟨i, hi, _, hz1, _⟩ := info_parts ty.info
  simp [sizeOf, typeInfo, hi, hz1]

theorem Rd.cut_rd {w : World} {k : IntKind} {ao : Option Addr} {n cap : Nat} {xs : List Int} (h : Rd w k ao n cap xs) (lo hi : Nat) (h1 : lo ≤ hi) (h2 : hi ≤ n) :
    Rd w k (if cap = lo then ao else ao.map (·.add (lo * 1))) (hi - lo) (cap - lo) ((xs.drop lo).take (hi - lo)) := by
  have hlen := h.len
  have hle := h.le
  have hmax := h.max
  have hl : ((xs.drop lo).take (hi - lo)).length = hi - lo := by simp; omega
  refine ⟨hl, fun x hx => h.fit x (List.mem_of_mem_drop (List.mem_of_mem_take hx)), by rw [hl]; omega, by omega, fun h0 => ?_, fun hn => ?_⟩
  · rw [hl] at h0
    obtain ⟨b, off, rfl, hc⟩ := h.here (by omega)
    refine ⟨b, off + lo, by rw [if_neg (by omega)]; simp [add_plain], fun i hi' => ?_⟩
    rw [hl] at hi'
    have := hc (lo + i) (by omega)
    rw [Nat.add_assoc, this]
    rw [el_lt _ _ (by omega), el_lt _ _ (by rw [hl]; exact hi')]
    simp
  · by_cases hcl : cap = lo
    · omega
    · rw [if_neg hcl] at hn
      cases ao with
      | none => have := h.nil rfl; omega
      | some a => simp at hn

/-- x[lo:hi]. -/
theorem Rd.cut {P : Program} {t e : TypeId} {bytes : Nat} {z : Value} (ty : SliceTy P t e 1 bytes z) {w : World} {k : IntKind} {ao : Option Addr} {n cap : Nat} {xs : List Int} (h : Rd w k ao n cap xs) (lo hi : Nat) (h1 : lo ≤ hi) (h2 : hi ≤ n) :
    ∃ ao', (∀ (w' : World) (kl kh : IntKind) (l u : Int), l = lo → u = hi → (Instr.slice t (.slice ao n cap) (some (.int kl l)) (some (.int kh u)) none).run P w' = .ok (.slice ao' (hi - lo) (cap - lo)) w') ∧ Rd w k ao' (hi - lo) (cap - lo) ((xs.drop lo).take (hi - lo)) := by
  refine ⟨_, fun w' kl kh l u hl hu => ?_, h.cut_rd lo hi h1 h2⟩
  have := h.le; have := h.len
  subst hl hu
  have a1 := run_sliceBound (P := P) w' kh (hi : Int) cap .sliceAcap (by omega) (by omega)
  have a2 := run_sliceBound (P := P) w' kl (lo : Int) hi .sliceB (by omega) (by omega)
  simp only [Int.toNat_natCast] at a1 a2
  simp [Instr.slice, run_underlying ty.und, Instr.sliceBounds, a1, a2, run_sizeOf ty]

/-- x[:hi]. -/
theorem Rd.cut_to {P : Program} {t e : TypeId} {bytes : Nat} {z : Value} (ty : SliceTy P t e 1 bytes z) {w : World} {k : IntKind} {ao : Option Addr} {n cap : Nat} {xs : List Int} (h : Rd w k ao n cap xs) (hi : Nat) (h2 : hi ≤ n) :
    ∃ ao', (∀ (w' : World) (kh : IntKind) (u : Int), u = hi → (Instr.slice t (.slice ao n cap) none (some (.int kh u)) none).run P w' = .ok (.slice ao' hi cap) w') ∧ Rd w k ao' hi cap (xs.take hi) := by
  have hc := h.cut_rd 0 hi (by omega) h2
  simp only [Nat.sub_zero, List.drop_zero] at hc
  refine ⟨_, fun w' kh u hu => ?_, hc⟩
  have := h.le; have := h.len
  subst hu
  have a1 := run_sliceBound (P := P) w' kh (hi : Int) cap .sliceAcap (by omega) (by omega)
  simp only [Int.toNat_natCast] at a1
  simp [Instr.slice, run_underlying ty.und, Instr.sliceBounds, a1, run_sizeOf ty]

/-- x[lo:]. -/
theorem Rd.cut_from {P : Program} {t e : TypeId} {bytes : Nat} {z : Value} (ty : SliceTy P t e 1 bytes z) {w : World} {k : IntKind} {ao : Option Addr} {n cap : Nat} {xs : List Int} (h : Rd w k ao n cap xs) (lo : Nat) (h2 : lo ≤ n) :
    ∃ ao', (∀ (w' : World) (kl : IntKind) (l : Int), l = lo → (Instr.slice t (.slice ao n cap) (some (.int kl l)) none none).run P w' = .ok (.slice ao' (n - lo) (cap - lo)) w') ∧ Rd w k ao' (n - lo) (cap - lo) (xs.drop lo) := by
  have hc := h.cut_rd lo n h2 (Nat.le_refl _)
  rw [List.take_of_length_le (by simp [h.len])] at hc
  refine ⟨_, fun w' kl l hl => ?_, hc⟩
  have := h.le; have := h.len
  subst hl
  have a2 := run_sliceBound (P := P) w' kl (lo : Int) n .sliceB (by omega) (by omega)
  simp only [Int.toNat_natCast] at a2
  simp [Instr.slice, run_underlying ty.und, Instr.sliceBounds, a2, run_sizeOf ty]

/-- A string of bytes that read as numbers. -/
theorem Rd.str {P : Program} {w : World} {ao : Option Addr} {n cap : Nat} {xs : List Int} (h : Rd w .u8 ao n cap xs) (src dst e : TypeId) (hs : P.underlying src = some (.slice e)) (he : P.underlying e = some (.int .u8)) (hd : P.underlying dst = some .string) :
    (convert src dst (.slice ao n cap)).run P w = .ok (.string (strOfNums xs)) w := by
  obtain rfl := h.len
  by_cases h0 : 0 < xs.length
  · obtain ⟨b, off, rfl, hc⟩ := h.here h0
    exact run_convert_bytes_arg w src e hs he b off xs.length cap xs rfl hc dst hd
  · have : xs = [] := List.eq_nil_of_length_eq_zero (by omega)
    subst this
    cases ao with
    | none => exact run_convert_bytes_nil w src e hs he _ _ dst hd
    | some a =>
      have := run_bytesToString (P := P) w a 0 cap [] (by simp [loadCells, loadCellsFrom, Sem.run_pure])
      rw [run_convert_bytes_string w src dst e _ _ cap hs he hd]
      exact this

theorem strOfNums_inj {xs ys : List Int} (hx : AllFit .u8 xs) (hy : AllFit .u8 ys) : ((strOfNums xs).toList == (strOfNums ys).toList) = decide (xs = ys) := by
  rw [Bool.eq_iff_iff, beq_iff_eq, decide_eq_true_eq, ByteArray.toList_eq, ByteArray.toList_eq, strOfNums_data, strOfNums_data]
  constructor
  · intro h
    have hl : xs.length = ys.length := by simpa using congrArg List.length h
    refine List.ext_getElem hl fun i h1 h2 => ?_
    have hi := congrArg (fun l => l[i]?) h
    simp [h1, h2] at hi
    have a1 := (hx _ (List.getElem_mem h1)).u8
    have a2 := (hy _ (List.getElem_mem h2)).u8
    have := congrArg UInt8.toNat hi
    simp at this
    omega
  · rintro rfl; rfl

end Go.Proofs.Ytfakdapglbgokaa

/-
  The first index at which something is so; sums of lists: plain, no program in sight. No condition.
-/
namespace Go.Proofs.Ytfakdapglbgokaa
set_option linter.all false
open Go.RowKit

/-- The first index below n at which p is so; n: there is none. -/
def firstN (p : Nat → Bool) : Nat → Nat
  | 0 => 0
  | n + 1 => if firstN p n < n then firstN p n else if p n then n else n + 1
theorem firstN_le (p : Nat → Bool) (n : Nat) : firstN p n ≤ n := by
  induction n with
  | zero => simp [firstN]
  | succ n ih => simp only [firstN]; repeat' split
                 all_goals omega
theorem firstN_before (p : Nat → Bool) (n i : Nat) (h : i < firstN p n) : p i = false := by
  induction n with
  | zero => simp [firstN] at h
  | succ n ih =>
    have hle := firstN_le p n
    simp only [firstN] at h
    split at h
    · exact ih h
    · split at h
      · exact ih (by omega)
      · rename_i h1 h2
        by_cases hi : i = n
        · subst hi; simpa using h2
        · exact ih (by omega)
theorem firstN_at (p : Nat → Bool) (n : Nat) (h : firstN p n < n) : p (firstN p n) = true := by
  induction n with
  | zero => simp [firstN] at h
  | succ n ih =>
    simp only [firstN] at h ⊢
    split
    · rename_i h1; exact ih h1
    · split
      · assumption
      · rename_i h1 h2; rw [if_neg h1, if_neg h2] at h; omega
theorem firstN_eq (p : Nat → Bool) (n i : Nat) (h : ∀ j, j < i → p j = false) (hp : p i = true) (hi : i < n) : firstN p n = i := by
  rcases Nat.lt_trichotomy (firstN p n) i with hlt | he | hgt
  · have := firstN_at p n (by omega)
    rw [h _ hlt] at this; cases this
  · exact he
  · have := firstN_before p n i hgt
    rw [hp] at this; cases this
theorem firstN_none (p : Nat → Bool) (n : Nat) (h : ∀ j, j < n → p j = false) : firstN p n = n := by
  have hle := firstN_le p n
  by_cases hlt : firstN p n < n
  · have := firstN_at p n hlt
    rw [h _ hlt] at this; cases this
  · omega
theorem firstN_all (p : Nat → Bool) (n : Nat) (h : firstN p n = n) : ∀ j, j < n → p j = false := fun j hj => firstN_before p n j (by omega)

/-- The sum of the first so many numbers. -/
def sumTo (l : List Int) : Nat → Int
  | 0 => 0
  | i + 1 => sumTo l i + el l i

end Go.Proofs.Ytfakdapglbgokaa

/-
  Facts on the world that stay where no old block turns, carried together. No program in sight. No condition.
-/
namespace Go.Proofs.Ytfakdapglbgokaa
set_option linter.all false
open Go.RowKit

/-- Facts that are carried together. -/
def Kept (P : World → Prop) (w : World) : Prop := P w
theorem Kept.out {P : World → Prop} {w : World} (h : Kept P w) : P w := h
/-- What stays where no old block turns. -/
class Mono (P : World → Prop) : Prop where
  mono : ∀ {w w' : World}, P w → Below w.heap.size w w' → P w'
instance {k : IntKind} {ao : Option Addr} {n cap : Nat} {xs : List Int} : Mono (fun w => Rd w k ao n cap xs) := ⟨fun h hb => h.below hb⟩
instance {base : Nat} {e : TypeId} {k : IntKind} {v : Value} {xs : List Int} : Mono (fun w => Mine w base e k v xs) := ⟨fun h hb => h.below hb⟩
instance {p : Addr} {v : Value} : Mono (fun w => w.cell? p = some v) := ⟨fun h hb => keep h hb⟩
instance {n : Nat} : Mono (fun w => n < w.heap.size) := ⟨fun h hb => Nat.lt_of_lt_of_le h hb.size⟩
instance {n : Nat} : Mono (fun w => n ≤ w.heap.size) := ⟨fun h hb => Nat.le_trans h hb.size⟩
instance {a : World} : Mono (fun w => Below a.heap.size a w) := ⟨fun h hb => ov h hb⟩
instance {p : Prop} : Mono (fun _ => p) := ⟨fun h _ => h⟩
instance {P Q : World → Prop} [Mono P] [Mono Q] : Mono (fun w => P w ∧ Q w) := ⟨fun h hb => ⟨Mono.mono h.1 hb, Mono.mono h.2 hb⟩⟩
/-- A block known whole. -/
def Blk (w : World) (g : Nat) (t : TypeId) (cs : Array Value) : Prop := w.heap[g]? = some (.cells cs t (0, 0))
theorem Blk.lt {w : World} {g : Nat} {t : TypeId} {cs : Array Value} (h : Blk w g t cs) : g < w.heap.size := by
  rcases Nat.lt_or_ge g w.heap.size with hlt | hge
  · exact hlt
  · unfold Blk at h; rw [Array.getElem?_eq_none hge] at h; cases h
theorem Blk.cell {w : World} {g : Nat} {t : TypeId} {cs : Array Value} (h : Blk w g t cs) (i : Nat) : w.cell? ⟨g, i, none⟩ = cs[i]? := cell_of_row w g i cs t (0, 0) h
theorem Blk.frozen {w : World} {g : Nat} {t : TypeId} {cs : Array Value} (h : Blk w g t cs) (i : Nat) : w.frozen? ⟨g, i, none⟩ = false := by
  unfold Blk at h
  simp [World.frozen?, h]
theorem Blk.new (w : World) (t : TypeId) (cs : Array Value) : Blk (w.alloc (.cells cs t)) w.heap.size t cs := heap_alloc_new w _
theorem Blk.alloc {w : World} {g : Nat} {t : TypeId} {cs : Array Value} (h : Blk w g t cs) (o : Obj) : Blk (w.alloc o) g t cs := (Below.heap_alloc w o g h.lt).trans h
theorem Blk.set_ {w : World} {g : Nat} {t : TypeId} {cs : Array Value} (h : Blk w g t cs) (i : Nat) (u : Value) : Blk (w.setCell ⟨g, i, none⟩ u) g t (cs.setIfInBounds i u) := by
  unfold Blk at h ⊢
  simp [World.setCell, Array.getElem?_modify, h]
theorem Blk.far {w : World} {g : Nat} {t : TypeId} {cs : Array Value} (h : Blk w g t cs) {p : Addr} (hp : g ≠ p.block) (u : Value) : Blk (w.setCell p u) g t cs := (Below.heap_setCell w p u g hp).trans h
theorem Blk.below {w w' : World} {g : Nat} {t : TypeId} {cs : Array Value} {B : Nat} (h : Blk w g t cs) (hb : Below B w w') (hg : g < B) : Blk w' g t cs := (hb.block g hg).trans h
instance {g : Nat} {t : TypeId} {cs : Array Value} : Mono (fun w => Blk w g t cs) := ⟨fun h hb => h.below hb h.lt⟩
theorem Kept.to {P : World → Prop} {w w' : World} [Mono P] (h : Kept P w) (hb : Below w.heap.size w w') : Kept P w' := Mono.mono (P := P) h hb
theorem Kept.al {P : World → Prop} {w : World} [Mono P] (h : Kept P w) (o : Obj) : Kept P (w.alloc o) := h.to ((Below.refl _ _).alloc (Nat.le_refl _) o)
theorem Kept.rd {P : World → Prop} {w : World} (h : Kept P w) {k : IntKind} {ao : Option Addr} {n cap : Nat} {xs : List Int} (h2 : Rd w k ao n cap xs) : Kept (fun w => P w ∧ Rd w k ao n cap xs) w := ⟨h, h2⟩
theorem Kept.mine {P : World → Prop} {w : World} (h : Kept P w) {k : IntKind} {base : Nat} {e : TypeId} {v : Value} {xs : List Int} (h2 : Mine w base e k v xs) : Kept (fun w => P w ∧ Mine w base e k v xs) w := ⟨h, h2⟩
theorem Kept.blk {P : World → Prop} {w : World} (h : Kept P w) {g : Nat} {t : TypeId} {cs : Array Value} (h2 : Blk w g t cs) : Kept (fun w => P w ∧ Blk w g t cs) w := ⟨h, h2⟩
theorem Kept.new {P : World → Prop} {w : World} [Mono P] (h : Kept P w) (cs : Array Value) (t : TypeId) : Kept (fun w' => P w' ∧ Blk w' w.heap.size t cs) (w.alloc (.cells cs t)) := ⟨h.al _, Blk.new w t cs⟩
theorem Kept.and {P Q : World → Prop} {w : World} (h : Kept P w) (g : Kept Q w) : Kept (fun w => P w ∧ Q w) w := ⟨h, g⟩
theorem Kept.drew {P : World → Prop} {w : World} [Mono P] (h : Kept P w) : Kept P w.drew := h.to ⟨rfl, rfl, rfl, Nat.le_refl _, fun _ _ => rfl⟩
theorem Kept.base {P : World → Prop} {w : World} (h : Kept P w) : Kept (fun w' => P w' ∧ Below w.heap.size w w') w := ⟨h, Below.refl _ _⟩
/-- Two cells of a block known whole. -/
theorem Blk.two {w : World} {g : Nat} {t : TypeId} {x y : Value} (h : Blk w g t #[x, y]) : w.cell? ⟨g, 0, none⟩ = some x ∧ w.cell? ⟨g, 1, none⟩ = some y := ⟨by rw [h.cell]; rfl, by rw [h.cell]; rfl⟩
theorem Blk.one {w : World} {g : Nat} {t : TypeId} {x : Value} (h : Blk w g t #[x]) : w.cell? ⟨g, 0, none⟩ = some x := by rw [h.cell]; rfl

theorem Kept.start (w : World) : Kept (fun w' => Below w.heap.size w w') w := Below.refl _ _
/-- Two cells stored anew. -/
theorem Blk.set2 {w : World} {g : Nat} {t : TypeId} {x y : Value} (h : Blk w g t #[x, y]) (u v : Value) : Blk ((w.setCell ⟨g, 0, none⟩ u).setCell ⟨g, 1, none⟩ v) g t #[u, v] := (h.set_ 0 u).set_ 1 v
theorem Blk.far2 {w : World} {g f : Nat} {t : TypeId} {cs : Array Value} (h : Blk w g t cs) (hp : g ≠ f) (u v : Value) : Blk ((w.setCell ⟨f, 0, none⟩ u).setCell ⟨f, 1, none⟩ v) g t cs := (h.far (p := ⟨f, 0, none⟩) hp u).far (p := ⟨f, 1, none⟩) hp v
theorem below2 {a w : World} {B f : Nat} (h : Below B a w) (hp : B ≤ f) (u v : Value) : Below B a ((w.setCell ⟨f, 0, none⟩ u).setCell ⟨f, 1, none⟩ v) := (h.setCell (p := ⟨f, 0, none⟩) hp u).setCell (p := ⟨f, 1, none⟩) hp v
theorem Mine.set2 {w : World} {base : Nat} {e : TypeId} {k : IntKind} {v : Value} {xs : List Int} (h : Mine w base e k v xs) {f : Nat} (hf : f < base) (x y : Value) : Mine ((w.setCell ⟨f, 0, none⟩ x).setCell ⟨f, 1, none⟩ y) base e k v xs := (h.setLow (a := ⟨f, 0, none⟩) hf x).setLow (a := ⟨f, 1, none⟩) hf y

/-- append(nil, src...) over integers, the new slice written out. -/
theorem wpList_clone {P : Program} {w : World} {ops : Array Oper} {rest : List Oper} {o : Oper} {a : Act} {Q : Exit → Act → World → Prop} (hgd : o.guard = none) (s x : Operand) (t : TypeId)
    (ho : o.op = .call { callee := .builtin .append, args := #[s, x], argTypes := #[t, t] })
    {e : TypeId} {bytes : Nat} {z : Value} (ty : SliceTy P t e 1 bytes z) {k : IntKind}
    (hs : a.eval s = .slice none 0 0)
    {ao : Option Addr} {m c : Nat} {ys : List Int} (hx : a.eval x = .slice ao m c) (hr : Rd w k ao m c ys)
    (hsz : m * bytes ≤ 140737488355328) (hb0 : 0 < bytes)
    (h : ∀ a' c' w', Mine w' w.heap.size e k (.slice a' m c') ys → Below w.heap.size w w' → wpList P ops Q rest (a.put o.dst (.slice a' m c')) w') : wpList P ops Q (o :: rest) a w :=
  wpList_append_new hgd s x t ho ty hs hx hr hsz hb0 fun v' w' hm hb => by
    obtain ⟨a', c', rfl, _, _⟩ := hm.rd
    rw [hr.len] at hm ⊢
    exact h a' c' w' hm hb

/-- Blocks newly laid, behind a call that turns nothing that was there. -/
theorem blk1 {w w1 : World} {c0 : Array Value} {t0 : TypeId} (hb : Below (w.alloc (.cells c0 t0)).heap.size (w.alloc (.cells c0 t0)) w1) : Below w.heap.size w w1 ∧ Blk w1 w.heap.size t0 c0 :=
  ⟨ov (al (rf w) _) (hb.mono (Nat.le_refl _)), (Blk.new w t0 c0).below hb (by simp)⟩
theorem blk2 {w w1 : World} {c0 c1 : Array Value} {t0 t1 : TypeId} (hb : Below ((w.alloc (.cells c0 t0)).alloc (.cells c1 t1)).heap.size ((w.alloc (.cells c0 t0)).alloc (.cells c1 t1)) w1) :
    Below w.heap.size w w1 ∧ Blk w1 w.heap.size t0 c0 ∧ Blk w1 (w.heap.size + 1) t1 c1 := by
  obtain ⟨h1, h2⟩ := blk1 hb
  rw [World.size_alloc] at h2
  exact ⟨ov (al (rf w) (.cells c0 t0)) h1, (Blk.new w t0 c0).below h1 (by simp), h2⟩
theorem blk3 {w w1 : World} {c0 c1 c2 : Array Value} {t0 t1 t2 : TypeId} (hb : Below (((w.alloc (.cells c0 t0)).alloc (.cells c1 t1)).alloc (.cells c2 t2)).heap.size (((w.alloc (.cells c0 t0)).alloc (.cells c1 t1)).alloc (.cells c2 t2)) w1) :
    Below w.heap.size w w1 ∧ Blk w1 w.heap.size t0 c0 ∧ Blk w1 (w.heap.size + 1) t1 c1 ∧ Blk w1 (w.heap.size + 1 + 1) t2 c2 := by
  obtain ⟨h1, h2, h3⟩ := blk2 hb
  rw [World.size_alloc] at h2 h3
  exact ⟨ov (al (rf w) (.cells c0 t0)) h1, (Blk.new w t0 c0).below h1 (by simp), h2, h3⟩

end Go.Proofs.Ytfakdapglbgokaa

/-
  append of a literal's numbers to an own slice. No program in sight. No condition.
-/
namespace Go.Proofs.Ytfakdapglbgokaa
set_option linter.all false
open Go.RowKit

theorem Blk.grown {w w' : World} {g : Nat} {t : TypeId} {cs : Array Value} {row : Option Nat} (h : Blk w g t cs) (hb : w.grownBy w' row) (hg : some g ≠ row) : Blk w' g t cs := (hb.block g h.lt hg).trans h
theorem own_ne {w : World} {base g size n : Nat} {e t : TypeId} {v : Value} {xs : List Value} {cs : Array Value} (h : w.ownsRow base e size v n xs) (hg : Blk w g t cs) (hne : e ≠ t) : v.ownBlock ≠ some g := by
  rcases h.2 with ⟨rfl, _⟩ | ⟨g', cap, cur, rfl, _, hh, _⟩
  · simp [Value.ownBlock]
  · intro he
    have : g' = g := by simpa [Value.ownBlock] using he
    subst this
    unfold Blk at hg
    rw [hh] at hg
    injection hg with hg
    injection hg with _ ht
    exact hne ht
/-- append(v, y1, .., ym): v of the call's own make (or nil), the numbers in a block newly laid. -/
theorem wpList_append_lit {P : Program} {w : World} {ops : Array Oper} {rest : List Oper} {o : Oper} {a : Act} {Q : Exit → Act → World → Prop} (hgd : o.guard = none) (s x : Operand) (t : TypeId)
    (ho : o.op = .call { callee := .builtin .append, args := #[s, x], argTypes := #[t, t] })
    {e : TypeId} {bytes : Nat} {z : Value} (ty : SliceTy P t e 1 bytes z) (base : Nat) {k : IntKind}
    {v : Value} {xs : List Int} (hs : a.eval s = v) (hown : Mine w base e k v xs) {ys : List Int} {N m : Nat}
    (hx : a.eval x = .slice (some ⟨N, 0, none⟩) m m) (hN : N = w.heap.size) (hm : ys.length = m) (hy : AllFit k ys) (cs : Array Value) (hcs : cs = (ints k ys).toArray)
    (hsz : (xs.length + m) * bytes ≤ 140737488355328) (hb0 : 0 < bytes) (hml : m ≤ 1000000) (hbase : base ≤ w.heap.size)
    (h : ∀ v' w', Mine w' base e k v' (xs ++ ys) → Below base w w' → (∀ g t' cs', Blk w g t' cs' → t' ≠ e → Blk w' g t' cs') → wpList P ops Q rest (a.put o.dst v') w') : wpList P ops Q (o :: rest) a (w.alloc (.cells cs e)) := by
  subst hN hm hcs
  have hl : Rd (w.alloc (.cells (ints k ys).toArray e)) k (some ⟨w.heap.size, 0, none⟩) ys.length ys.length ys := Rd.lit k ys e w.heap.size (heap_alloc_new w _) hy hml
  have hm : Mine (w.alloc (.cells (ints k ys).toArray e)) base e k v xs := hown.below ((Below.refl _ _).alloc (Nat.le_refl _) _)
  refine wpList_append_rd hgd s x t ho ty base hs hm hx hl hsz hb0 (by simp; omega) fun v' w' h1 h2 => ?_
  exact h v' w' h1 (((Below.refl _ _).alloc hbase _).grown h2 (by simp; omega) fun g hg => (hown.1.lt g hg).1) fun g t' cs' hB ht => Blk.grown (hB.alloc _) h2 (Ne.symm (own_ne hown.1 hB (Ne.symm ht)))

/-- A literal's slice is an own one. -/
theorem Mine.lit {w : World} {base g : Nat} {e : TypeId} {k : IntKind} {xs : List Int} (hb : Blk w g e (ints k xs).toArray) (hf : AllFit k xs) (hm : xs.length ≤ 1000000) (hg : base ≤ g) : Mine w base e k (.slice (some ⟨g, 0, none⟩) xs.length xs.length) xs := by
  refine ⟨⟨by rw [ints_length]; omega, .inr ⟨g, xs.length, (ints k xs).toArray, rfl, hg, hb, Nat.le_refl _, by unfold maxLen; omega, by simp [ints], ?_⟩⟩, hf⟩
  simp [ints, List.take_of_length_le]

/-- append(v, y1, .., ym) beyond v's room: v whatever slice that reads as numbers. -/
theorem wpList_append_over {P : Program} {w : World} {ops : Array Oper} {rest : List Oper} {o : Oper} {a : Act} {Q : Exit → Act → World → Prop} (hgd : o.guard = none) (s x : Operand) (t : TypeId)
    (ho : o.op = .call { callee := .builtin .append, args := #[s, x], argTypes := #[t, t] })
    {e : TypeId} {bytes : Nat} {z : Value} (ty : SliceTy P t e 1 bytes z) {k : IntKind}
    {g n cap : Nat} {xs : List Int} (hs : a.eval s = .slice (some ⟨g, 0, none⟩) n cap) (hr : Rd w k (some ⟨g, 0, none⟩) n cap xs) {ys : List Int} {N m : Nat}
    (hx : a.eval x = .slice (some ⟨N, 0, none⟩) m m) (hN : N = w.heap.size) (hm : ys.length = m) (hy : AllFit k ys) (cs : Array Value) (hcs : cs = (ints k ys).toArray)
    (hfull : cap < n + m) (hsz : (n + m) * bytes ≤ 140737488355328) (hb0 : 0 < bytes) (hml : m ≤ 1000000)
    (h : ∀ a' c' w', Mine w' w.heap.size e k (.slice a' (n + m) c') (xs ++ ys) → Below w.heap.size w w' → wpList P ops Q rest (a.put o.dst (.slice a' (n + m) c')) w') : wpList P ops Q (o :: rest) a (w.alloc (.cells cs e)) := by
  subst hN hm hcs
  obtain rfl := hr.len
  obtain ⟨i, hi, hz0, hz1, hz2⟩ := info_parts ty.info
  have hle : xs.length + ys.length ≤ 140737488355328 := Nat.le_trans (Nat.le_mul_of_pos_right _ hb0) hsz
  have hr2 := hr.below (al (rf w) (.cells (ints k ys).toArray e))
  refine wpList_append_grows (w.alloc (.cells (ints k ys).toArray e)) hgd s x t ho e i z 1 bytes ty.und hi hz0 hz1 hz2 ty.cells ty.pos (some ⟨g, 0, none⟩) xs.length cap (ints k xs) hs (by simp) (by rw [ints_length]; omega) ?_ ⟨w.heap.size, 0, none⟩ ys.length ys.length (ints k ys) hx (by rw [ints_length]; omega) ?_ (ints_oneCell k ys) hfull (by unfold maxLen; omega) hsz ?_
  · intro b hb j u hu
    obtain rfl := Option.some.inj hb
    obtain ⟨hj, rfl⟩ := ints_get hu
    obtain ⟨b2, off, e2, hc⟩ := hr2.here (by omega)
    cases e2
    rw [add_plain]
    exact hc j hj
  · intro j u hu
    rw [add_plain, Nat.zero_add, cell_of_row _ w.heap.size j _ e (0, 0) (heap_alloc_new w _)]
    simpa using hu
  · intro v' w' ho' hg
    have hM : Mine w' w.heap.size e k v' (xs ++ ys) := ⟨by
      rw [List.length_append, ints_append]
      have := Mine.base_le (k := k) (xs := xs ++ ys) (base' := w.heap.size) ⟨by rw [List.length_append, ints_append]; exact ho', hr.fit.append hy⟩ (by simp)
      have h1 := this.1
      rw [List.length_append, ints_append] at h1
      exact h1, hr.fit.append hy⟩
    obtain ⟨a', c', rfl, _, _⟩ := hM.rd
    rw [List.length_append] at hM ⊢
    exact h a' c' w' hM ((al (rf w) _).grown hg (by simp) (by simp))

theorem AllFit.nil (k : IntKind) : AllFit k [] := by intro x hx; cases hx
theorem AllFit.cons {k : IntKind} {x : Int} {xs : List Int} (h : Fits k x) (g : AllFit k xs) : AllFit k (x :: xs) := by
  intro y hy
  rcases List.mem_cons.1 hy with rfl | h'
  · exact h
  · exact g _ h'
theorem AllFit.u8s {xs : List Int} (h : ∀ x ∈ xs, 0 ≤ x ∧ x ≤ 255) : AllFit .u8 xs := fun x hx => Fits.of_u8 (h x hx).1 (h x hx).2
end Go.Proofs.Ytfakdapglbgokaa
