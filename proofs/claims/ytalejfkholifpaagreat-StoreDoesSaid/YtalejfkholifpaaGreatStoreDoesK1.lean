/-
  Texts joined: XRd XKept XRep XShA XShB XShC XShD XLit XLay XObj. No condition.
-/
import Derived.WalkKit
import Derived.ProofKit
import Derived.OpenShut
import Derived.Lib.Hide
import Derived.Laws.BytesArg
import Derived.Laws.AppendOwnNone
import Derived.Deep.Draws
import Derived.Laws.Entries
import Derived.Tactics
import Derived.Laws.Tables
import Derived.Laws.StructEq
import Derived.Laws.Cells
import Derived.ChangeKeysEq
import Derived.ArgAppend
import Derived.Lib.SmallJoins
import Derived.Maps.AppendAt
set_option linter.all false
namespace Go.Proofs.YtalejfkholifpaaGreat
open Go.RowKit
def el (xs : List Int) (i : Nat) : Int := xs.getD i 0
theorem qagx (xs : List Int) (i : Nat) (h : i < xs.length) : el xs i = xs[i] := by simp [el, List.getD, h]
theorem qari (x : Int) (xs : List Int) (i : Nat) : el (x :: xs) (i + 1) = el xs i := by simp [el]
theorem qarh (x : Int) (xs : List Int) : el (x :: xs) 0 = x := by simp [el]
theorem el_drop (xs : List Int) (lo i : Nat) : el (xs.drop lo) i = el xs (lo + i) := by simp [el, List.getD]
theorem el_take (xs : List Int) (m i : Nat) : el (xs.take m) i = if i < m then el xs i else 0 := by
 simp only [el, List.getD, List.getElem?_take]; split <;> simp
theorem qbbj (xs ys : List Int) (i : Nat) : el (xs ++ ys) i = if i < xs.length then el xs i else el ys (i - xs.length) := by
 simp only [el, List.getD, List.getElem?_append]; split <;> rfl
def Fits (k : IntKind) (x : Int) : Prop := (Lit.int k x).wf = true
def AllFit (k : IntKind) (xs : List Int) : Prop := ∀ x ∈ xs, Fits k x
theorem Fits.u8 {x : Int} (h : Fits .u8 x) : 0 ≤ x ∧ x ≤ 255 := by
 simp [Fits, Lit.wf, IntKind.min, IntKind.max, IntKind.signed, IntKind.bits] at h; omega
theorem Fits.i64 {x : Int} (h : Fits .i64 x) : -9223372036854775808 ≤ x ∧ x ≤ 9223372036854775807 := by
 simp [Fits, Lit.wf, IntKind.min, IntKind.max, IntKind.signed, IntKind.bits] at h; omega
theorem Fits.u64 {x : Int} (h : Fits .u64 x) : 0 ≤ x ∧ x ≤ 18446744073709551615 := by
 simp [Fits, Lit.wf, IntKind.min, IntKind.max, IntKind.signed, IntKind.bits] at h; omega
theorem Fits.of_u8 {x : Int} (h0 : 0 ≤ x) (h1 : x ≤ 255) : Fits .u8 x := by
 simp [Fits, Lit.wf, IntKind.min, IntKind.max, IntKind.signed, IntKind.bits]; omega
theorem Fits.of_i64 {x : Int} (h0 : -9223372036854775808 ≤ x) (h1 : x ≤ 9223372036854775807) : Fits .i64 x := by
 simp [Fits, Lit.wf, IntKind.min, IntKind.max, IntKind.signed, IntKind.bits]; omega
theorem Fits.of_u64 {x : Int} (h0 : 0 ≤ x) (h1 : x ≤ 18446744073709551615) : Fits .u64 x := by
 simp [Fits, Lit.wf, IntKind.min, IntKind.max, IntKind.signed, IntKind.bits]; omega
theorem AllFit.append {k : IntKind} {xs ys : List Int} (h : AllFit k xs) (g : AllFit k ys) : AllFit k (xs ++ ys) := by
 intro x hx; rcases List.mem_append.1 hx with h' | h'; exact h _ h'; exact g _ h'
structure Rd (w : World) (k : IntKind) (ao : Option Addr) (n cap : Nat) (xs : List Int) : Prop where
 len : xs.length = n
 fit : AllFit k xs
 le : xs.length ≤ cap
 max : cap ≤ maxLen
 here : 0 < xs.length → ∃ b off, ao = some ⟨b, off, none⟩ ∧ ∀ i, i < xs.length → w.cell? ⟨b, off + i, none⟩ = some (.int k (el xs i))
 nil : ao = none → cap = 0
theorem Rd.lt {w : World} {k : IntKind} {ao : Option Addr} {n cap : Nat} {xs : List Int} (h : Rd w k ao n cap xs) : n ≤ 9223372036854775807 := by
 have := h.len; have := h.le; have := h.max; unfold maxLen at *; omega
theorem ov {a w w' : World} (h : Below a.heap.size a w) (h2 : Below w.heap.size w w') : Below a.heap.size a w' := h.trans (h2.mono h.size)
theorem al {a w : World} (h : Below a.heap.size a w) (o : Obj) : Below a.heap.size a (w.alloc o) := h.alloc h.size o
theorem rf (w : World) : Below w.heap.size w w := Below.refl _ _
theorem keep {w w' : World} {p : Addr} {v : Value} (h : w.cell? p = some v) (hb : Below w.heap.size w w') : w'.cell? p = some v :=
 (hb.cell (World.block_lt_of_cell? w p h)).trans h
theorem Rd.below {w w' : World} {k : IntKind} {ao : Option Addr} {n cap : Nat} {xs : List Int} (h : Rd w k ao n cap xs) (hb : Below w.heap.size w w') : Rd w' k ao n cap xs := by
 refine ⟨h.len, h.fit, h.le, h.max, fun h0 => ?_, h.nil⟩;obtain ⟨b, off, e, hc⟩ := h.here h0;refine ⟨b, off, e, fun i hi => ?_⟩;have := hc i hi;rw [hb.cell (p := ⟨b, off + i, none⟩) (World.block_lt_of_cell? w _ this)];exact this
theorem qae2 (b off i : Nat) : (⟨b, off, none⟩ : Addr).add i = ⟨b, off + i, none⟩ := by unfold Addr.add; split <;> simp_all
theorem Rd.of_row {w : World} {k : IntKind} {a : Option Addr} {len cap : Nat} {zs : List Int}
  (h : (a = none ∧ len = 0 ∧ cap = 0 ∧ zs = []) ∨
   ∃ x, a = some x ∧ len ≤ cap ∧ cap ≤ maxLen ∧ zs.length = cap ∧ (∀ i, i < zs.length → w.cell? (x.add i) = some (.int k (zs.getD i 0))) ∧ ∀ n ∈ zs, (Lit.int k n).wf = true) :
  ∃ xs, Rd w k a len cap xs := by
 rcases h with ⟨rfl, rfl, rfl, rfl⟩ | ⟨x, rfl, hl, hm, hz, hc, hw⟩
 ·exact ⟨[], ⟨rfl, by simp [AllFit], Nat.le_refl _, by simp [maxLen], fun h => absurd h (by simp), fun _ => rfl⟩⟩
 ·refine ⟨zs.take len, ⟨by simp; omega, fun n hn => hw n (List.mem_of_mem_take hn), by simp; omega, hm, fun h0 => ?_, fun h => by simp at h⟩⟩;have hlen : (zs.take len).length = len := by simp; omega
  rw [hlen] at h0;obtain ⟨b, off, spot⟩ := x;have hs : spot = none := by
   have h0' := hc 0 (by omega);cases spot with
   | none => rfl
   | some s => simp [Addr.add, World.cell?] at h0'; split at h0' <;> simp at h0'
  subst hs;refine ⟨b, off, rfl, fun i hi => ?_⟩;rw [hlen] at hi;have := hc i (by omega);rw [qae2] at this;rw [this];simp [el, List.getD, hi]
theorem Rd.nil_ (w : World) (k : IntKind) : Rd w k none 0 0 [] := ⟨rfl, by simp [AllFit], Nat.le_refl _, by simp [maxLen], fun h => absurd h (by simp), fun _ => rfl⟩
def ints (k : IntKind) (xs : List Int) : List Value := xs.map (Value.int k)
theorem qau6 (k : IntKind) (xs ys : List Int) : ints k (xs ++ ys) = ints k xs ++ ints k ys := by simp [ints]
theorem qakz (k : IntKind) (xs : List Int) : (ints k xs).length = xs.length := by simp [ints]
theorem qbmu {k : IntKind} {xs : List Int} {j : Nat} {u : Value} (h : (ints k xs)[j]? = some u) : j < xs.length ∧ u = .int k (el xs j) := by
 have hj : j < xs.length := by have := (List.getElem?_eq_some_iff.1 h).1; simpa [ints] using this
 refine ⟨hj, ?_⟩;simp [ints, hj] at h;rw [qagx _ _ hj, ← h]
def Mine (w : World) (base : Nat) (e : TypeId) (k : IntKind) (v : Value) (xs : List Int) : Prop := w.ownsRow base e 1 v xs.length (ints k xs) ∧ AllFit k xs
theorem Mine.nil (w : World) (base : Nat) (e : TypeId) (k : IntKind) : Mine w base e k (.slice none 0 0) [] := ⟨World.ownsRow_nil _ _ _ _, by simp [AllFit]⟩
theorem Mine.rd {w : World} {base : Nat} {e : TypeId} {k : IntKind} {v : Value} {xs : List Int} (h : Mine w base e k v xs) :
  ∃ ao cap, v = .slice ao xs.length cap ∧ Rd w k ao xs.length cap xs ∧ (∀ a, ao = some a → base ≤ a.block ∧ a.off = 0 ∧ a.spot = none) := by
 obtain ⟨⟨h1, h2⟩, hf⟩ := h;rcases h2 with ⟨rfl, h0⟩ | ⟨g, cap, cur, rfl, hg, hh, hn, hm, hcs, ht⟩
 ·have : xs = [] := List.eq_nil_of_length_eq_zero h0;subst this;exact ⟨none, 0, rfl, Rd.nil_ _ _, by simp⟩
 ·refine ⟨some ⟨g, 0, none⟩, cap, rfl, ⟨rfl, hf, hn, hm, fun h0 => ⟨g, 0, rfl, fun i hi => ?_⟩, by simp⟩, by simp; exact hg⟩;rw [Nat.zero_add, cell_of_row w g i cur e (0, 0) hh];have : (ints k xs)[i]? = some (.int k (el xs i)) := by simp [ints, hi, qagx _ _ hi]
  rw [← ht, List.getElem?_take] at this;split at this
  ·simpa using this
  ·cases this
theorem Mine.rd_ {w : World} {base : Nat} {e : TypeId} {k : IntKind} {ao : Option Addr} {n cap : Nat} {xs : List Int} (h : Mine w base e k (.slice ao n cap) xs) : Rd w k ao n cap xs := by
 obtain ⟨ao', cap', e, hr, _⟩ := h.rd;cases e
 exact hr
theorem Mine.kept {w w' : World} {base : Nat} {e : TypeId} {k : IntKind} {v : Value} {xs : List Int} (h : Mine w base e k v xs) {B : Nat} (hb : Below B w w') (hB : ∀ g, v.ownBlock = some g → g < B) : Mine w' base e k v xs := by
 obtain ⟨⟨h1, h2⟩, hf⟩ := h;refine ⟨⟨h1, ?_⟩, hf⟩;rcases h2 with h2 | ⟨g, cap, cur, rfl, hg, hh, rest⟩
 ·exact .inl h2
 ·exact .inr ⟨g, cap, cur, rfl, hg, by rw [hb.block g (hB g rfl)]; exact hh, rest⟩
theorem Mine.below {w w' : World} {base : Nat} {e : TypeId} {k : IntKind} {v : Value} {xs : List Int} (h : Mine w base e k v xs) (hb : Below w.heap.size w w') : Mine w' base e k v xs :=
 h.kept hb fun g hg => (h.1.lt g hg).2
def put (xs : List Int) (i : Nat) (x : Int) : List Int := xs.set i x
theorem qahf (xs : List Int) (i : Nat) (x : Int) : (put xs i x).length = xs.length := by simp [put]
theorem AllFit.put {k : IntKind} {xs : List Int} (h : AllFit k xs) {x : Int} (hx : Fits k x) (i : Nat) : AllFit k (put xs i x) := by
 intro y hy;rcases List.mem_or_eq_of_mem_set hy with h' | h'
 ·exact h _ h'
 ·exact h' ▸ hx
theorem Mine.at_ {w : World} {base : Nat} {e : TypeId} {k : IntKind} {v : Value} {xs : List Int} (h : Mine w base e k v xs) (h0 : 0 < xs.length) :
  ∃ g cap, v = .slice (some ⟨g, 0, none⟩) xs.length cap ∧ base ≤ g ∧ g < w.heap.size := by
 obtain ⟨⟨h1, h2⟩, hf⟩ := h;rcases h2 with ⟨rfl, h0'⟩ | ⟨g, cap, cur, rfl, hg, hh, hn, hm, hcs, ht⟩
 ·omega
 ·exact ⟨g, cap, rfl, hg, (Array.getElem?_eq_some_iff.1 hh).1⟩
theorem Mine.cell {w : World} {base : Nat} {e : TypeId} {k : IntKind} {xs : List Int} {g n cap : Nat} (h : Mine w base e k (.slice (some ⟨g, 0, none⟩) n cap) xs) {i : Nat} (hi : i < xs.length) :
  w.cell? ⟨g, i, none⟩ = some (.int k (el xs i)) ∧ w.frozen? ⟨g, i, none⟩ = false := by
 have hc := h.1.cells (g := g) rfl i (.int k (el xs i)) (by simp [ints, hi, qagx _ _ hi]);rw [qae2, Nat.zero_add] at hc;refine ⟨hc, ?_⟩;rcases h.1.2 with ⟨hv, _⟩ | ⟨g', cap', cur, hv, hg, hh, _⟩
 ·cases hv
 ·cases hv
  simp [World.frozen?, hh]
theorem Mine.set {w : World} {base : Nat} {e : TypeId} {k : IntKind} {xs : List Int} {g n cap : Nat} (h : Mine w base e k (.slice (some ⟨g, 0, none⟩) n cap) xs) (i : Nat) {x : Int} (hx : Fits k x) :
  Mine (w.setCell ⟨g, i, none⟩ (.int k x)) base e k (.slice (some ⟨g, 0, none⟩) n cap) (put xs i x) := by
 obtain ⟨⟨h1, h2⟩, hf⟩ := h;refine ⟨⟨by rw [qakz, qahf]; rw [qakz] at h1; exact h1, ?_⟩, hf.put hx i⟩;rcases h2 with ⟨hv, _⟩ | ⟨g', cap', cur, hv, hg, hh, hn, hm, hcs, ht⟩
 ·cases hv
 ·cases hv
  refine .inr ⟨g, cap, cur.setIfInBounds i (.int k x), by rw [qahf], hg, ?_, by rw [qahf]; exact hn, hm, by simpa using hcs, ?_⟩
  ·simp [World.setCell, Array.getElem?_modify, hh]
  ·rw [qahf];have : (cur.setIfInBounds i (.int k x)).toList = cur.toList.set i (.int k x) := by simp
   rw [this, List.take_set, ht];simp [ints, put]
theorem Mine.setLow {w : World} {base : Nat} {e : TypeId} {k : IntKind} {v : Value} {xs : List Int} (h : Mine w base e k v xs) {a : Addr} (ha : a.block < base) (u : Value) : Mine (w.setCell a u) base e k v xs :=
 ⟨ownsRow_setCell_below h.1 ha u, h.2⟩
theorem Mine.base_le {w : World} {base base' : Nat} {e : TypeId} {k : IntKind} {v : Value} {xs : List Int} (h : Mine w base e k v xs) (hb : base' ≤ base) : Mine w base' e k v xs := by
 obtain ⟨⟨h1, h2⟩, hf⟩ := h;refine ⟨⟨h1, ?_⟩, hf⟩;rcases h2 with h2 | ⟨g, cap, cur, rfl, hg, rest⟩
 ·exact .inl h2
 ·exact .inr ⟨g, cap, cur, rfl, Nat.le_trans hb hg, rest⟩
theorem Mine.drewN {w : World} {base : Nat} {e : TypeId} {k : IntKind} {v : Value} {xs : List Int} (h : Mine w base e k v xs) (n : Nat) : Mine (w.drewN n) base e k v xs := h
theorem Mine.drew {w : World} {base : Nat} {e : TypeId} {k : IntKind} {v : Value} {xs : List Int} (h : Mine w base e k v xs) : Mine w.drew base e k v xs := h
structure SliceTy (P : Program) (t e : TypeId) (size bytes : Nat) (z : Value) : Prop where
 und : P.underlying t = some (.slice e)
 info : (P.info? e).map (fun i => (i.zero, i.size, i.bytes)) = some (some z, size, bytes)
 cells : z.cells.size = size
 pos : 0 < size
theorem qam4 {P : Program} {w : World} {o : Oper} {a : Act} {K : Act → World → Prop} {Q : Exit → Act → World → Prop} (s x : Operand) (t : TypeId)
  (ho : o.op = .call { callee := .builtin .append, args := #[s, x], argTypes := #[t, t] })
  {e : TypeId} {size bytes : Nat} {z : Value} (ty : SliceTy P t e size bytes z) (base : Nat)
  (v : Value) (n : Nat) (xs : List Value) (hs : a.eval s = v) (hown : w.ownsRow base e size v n xs)
  (ao : Option Addr) (m c : Nat) (news : List Value) (hx : a.eval x = .slice ao m c) (hl : news.length = m * size) (hnone : ao = none → m = 0 ∧ c = 0)
  (hnews : ∀ ad, ao = some ad → ∀ j u, news[j]? = some u → w.cell? (ad.add j) = some u) (h1 : ∀ u ∈ news, u.oneCell' = true)
  (h63 : n + m ≤ maxLen) (hbytes : (n + m) * bytes ≤ 140737488355328) (hbase : base ≤ w.heap.size)
  (h : ∀ v' w', w'.ownsRow base e size v' (n + m) (xs ++ news) → w.grownBy w' v.ownBlock → K (a.put o.dst v') w') : o.wp P a w K Q := by
 obtain ⟨i, hi, hz0, hz1, hz2⟩ := info_parts ty.info;cases ao with
 | some ad => exact wp_append_own w s x t ho base e i z size bytes ty.und hi hz0 hz1 hz2 ty.cells ty.pos v n xs hs hown ad m c news hx hl (hnews ad rfl) h1 h63 hbytes hbase (fun v' w' a b _ => h v' w' a b)
 | none =>
  obtain ⟨rfl, rfl⟩ := hnone rfl;have hn : news = [] := List.eq_nil_of_length_eq_zero (by simpa using hl);subst hn;have hrun := run_append_owned_none (P := P) (w := w) base t o.type e i size ty.und hi v n xs hown;unfold Oper.wp;simp [execOp, ho, resolve, invoke, builtin, hs, hx, hrun, Result.andThen];exact h v w (by simpa using hown) (World.grownBy.refl _ _)
theorem qap9 {P : Program} {w : World} {o : Oper} {a : Act} {K : Act → World → Prop} {Q : Exit → Act → World → Prop} (s x : Operand) (t : TypeId)
  (ho : o.op = .call { callee := .builtin .append, args := #[s, x], argTypes := #[t, t] })
  {e : TypeId} {bytes : Nat} {z : Value} (ty : SliceTy P t e 1 bytes z) (base : Nat) {k : IntKind}
  {v : Value} {xs : List Int} (hs : a.eval s = v) (hown : Mine w base e k v xs)
  {ao : Option Addr} {m c : Nat} {ys : List Int} (hx : a.eval x = .slice ao m c) (hr : Rd w k ao m c ys)
  (hsz : (xs.length + m) * bytes ≤ 140737488355328) (hb0 : 0 < bytes) (hbase : base ≤ w.heap.size)
  (h : ∀ v' w', Mine w' base e k v' (xs ++ ys) → w.grownBy w' v.ownBlock → K (a.put o.dst v') w') : o.wp P a w K Q := by
 obtain rfl := hr.len;have hle : xs.length + ys.length ≤ 140737488355328 := Nat.le_trans (Nat.le_mul_of_pos_right _ hb0) hsz;refine qam4 s x t ho ty base v xs.length (ints k xs) hs hown.1 ao ys.length c (ints k ys) hx (by simp [ints]) ?_ ?_ ?_ (by unfold maxLen; omega) hsz hbase ?_
 ·intro hao;have := hr.nil hao; have := hr.le; omega
 ·intro ad had j u hu;obtain ⟨hj, rfl⟩ := qbmu hu;obtain ⟨b, off, hao, hc⟩ := hr.here (by omega);rw [had] at hao;obtain rfl := Option.some.inj hao;rw [qae2];exact hc j hj
 ·exact ints_oneCell k ys
 ·intro v' w' ho' hg;refine h v' w' ⟨?_, hown.2.append hr.fit⟩ hg;rw [List.length_append, qau6];exact ho'
theorem qai9 {P : Program} {w : World} {ops : Array Oper} {rest : List Oper} {o : Oper} {a : Act} {Q : Exit → Act → World → Prop} (hgd : o.guard = none) (s x : Operand) (t : TypeId)
  (ho : o.op = .call { callee := .builtin .append, args := #[s, x], argTypes := #[t, t] })
  {e : TypeId} {bytes : Nat} {z : Value} (ty : SliceTy P t e 1 bytes z) (base : Nat) {k : IntKind}
  {v : Value} {xs : List Int} (hs : a.eval s = v) (hown : Mine w base e k v xs)
  {ao : Option Addr} {m c : Nat} {ys : List Int} (hx : a.eval x = .slice ao m c) (hr : Rd w k ao m c ys)
  (hsz : (xs.length + m) * bytes ≤ 140737488355328) (hb0 : 0 < bytes) (hbase : base ≤ w.heap.size)
  (h : ∀ v' w', Mine w' base e k v' (xs ++ ys) → w.grownBy w' v.ownBlock → wpList P ops Q rest (a.put o.dst v') w') : wpList P ops Q (o :: rest) a w :=
 wpList_plain hgd fun _ hK => qap9 s x t ho ty base hs hown hx hr hsz hb0 hbase fun v' w' h1 h2 => hK _ _ (h v' w' h1 h2)
theorem qazj {P : Program} {t e : TypeId} {size bytes : Nat} {z : Value} (ty : SliceTy P t e size bytes z) (w : World) : (sizeOf e).run P w = .ok size w := by
 obtain ⟨i, hi, _, hz1, _⟩ := info_parts ty.info;simp [sizeOf, typeInfo, hi, hz1]
theorem Rd.cut_rd {w : World} {k : IntKind} {ao : Option Addr} {n cap : Nat} {xs : List Int} (h : Rd w k ao n cap xs) (lo hi : Nat) (h1 : lo ≤ hi) (h2 : hi ≤ n) :
  Rd w k (if cap = lo then ao else ao.map (·.add (lo * 1))) (hi - lo) (cap - lo) ((xs.drop lo).take (hi - lo)) := by
 have hlen := h.len;have hle := h.le;have hmax := h.max;have hl : ((xs.drop lo).take (hi - lo)).length = hi - lo := by simp; omega
 refine ⟨hl, fun x hx => h.fit x (List.mem_of_mem_drop (List.mem_of_mem_take hx)), by rw [hl]; omega, by omega, fun h0 => ?_, fun hn => ?_⟩
 ·rw [hl] at h0;obtain ⟨b, off, rfl, hc⟩ := h.here (by omega);refine ⟨b, off + lo, by rw [if_neg (by omega)]; simp [qae2], fun i hi' => ?_⟩;rw [hl] at hi';have := hc (lo + i) (by omega);rw [Nat.add_assoc, this];rw [qagx _ _ (by omega), qagx _ _ (by rw [hl]; exact hi')];simp
 ·by_cases hcl : cap = lo
  ·omega
  ·rw [if_neg hcl] at hn;cases ao with
   | none => have := h.nil rfl; omega
   | some a => simp at hn
theorem Rd.cut {P : Program} {t e : TypeId} {bytes : Nat} {z : Value} (ty : SliceTy P t e 1 bytes z) {w : World} {k : IntKind} {ao : Option Addr} {n cap : Nat} {xs : List Int} (h : Rd w k ao n cap xs) (lo hi : Nat) (h1 : lo ≤ hi) (h2 : hi ≤ n) :
  ∃ ao', (∀ (w' : World) (kl kh : IntKind) (l u : Int), l = lo → u = hi → (Instr.slice t (.slice ao n cap) (some (.int kl l)) (some (.int kh u)) none).run P w' = .ok (.slice ao' (hi - lo) (cap - lo)) w') ∧ Rd w k ao' (hi - lo) (cap - lo) ((xs.drop lo).take (hi - lo)) := by
 refine ⟨_, fun w' kl kh l u hl hu => ?_, h.cut_rd lo hi h1 h2⟩;have := h.le; have := h.len
 subst hl hu;have a1 := run_sliceBound (P := P) w' kh (hi : Int) cap .sliceAcap (by omega) (by omega);have a2 := run_sliceBound (P := P) w' kl (lo : Int) hi .sliceB (by omega) (by omega);simp only [Int.toNat_natCast] at a1 a2;simp [Instr.slice, run_underlying ty.und, Instr.sliceBounds, a1, a2, qazj ty]
theorem Rd.str {P : Program} {w : World} {ao : Option Addr} {n cap : Nat} {xs : List Int} (h : Rd w .u8 ao n cap xs) (src dst e : TypeId) (hs : P.underlying src = some (.slice e)) (he : P.underlying e = some (.int .u8)) (hd : P.underlying dst = some .string) :
  (convert src dst (.slice ao n cap)).run P w = .ok (.string (strOfNums xs)) w := by
 obtain rfl := h.len;by_cases h0 : 0 < xs.length
 ·obtain ⟨b, off, rfl, hc⟩ := h.here h0;exact run_convert_bytes_arg w src e hs he b off xs.length cap xs rfl hc dst hd
 ·have : xs = [] := List.eq_nil_of_length_eq_zero (by omega);subst this;cases ao with
  | none => exact run_convert_bytes_nil w src e hs he _ _ dst hd
  | some a =>
   have := run_bytesToString (P := P) w a 0 cap [] (by simp [loadCells, loadCellsFrom, Sem.run_pure]);rw [run_convert_bytes_string w src dst e _ _ cap hs he hd];exact this
def Kept (P : World → Prop) (w : World) : Prop := P w
theorem Kept.out {P : World → Prop} {w : World} (h : Kept P w) : P w := h
class Mono (P : World → Prop) : Prop where
 mono : ∀ {w w' : World}, P w → Below w.heap.size w w' → P w'
instance {k : IntKind} {ao : Option Addr} {n cap : Nat} {xs : List Int} : Mono (fun w => Rd w k ao n cap xs) := ⟨fun h hb => h.below hb⟩
instance {base : Nat} {e : TypeId} {k : IntKind} {v : Value} {xs : List Int} : Mono (fun w => Mine w base e k v xs) := ⟨fun h hb => h.below hb⟩
instance {p : Addr} {v : Value} : Mono (fun w => w.cell? p = some v) := ⟨fun h hb => keep h hb⟩
instance {n : Nat} : Mono (fun w => n < w.heap.size) := ⟨fun h hb => Nat.lt_of_lt_of_le h hb.size⟩
instance {n : Nat} : Mono (fun w => n ≤ w.heap.size) := ⟨fun h hb => Nat.le_trans h hb.size⟩
instance {a : World} : Mono (fun w => Below a.heap.size a w) := ⟨fun h hb => ov h hb⟩
instance {p : Prop} : Mono (fun _ => p) := ⟨fun h _ => h⟩
instance {P Q : World → Prop} [Mono P] [Mono Q] : Mono (fun w => P w ∧ Q w) := ⟨fun h hb => ⟨Mono.mono h.1 hb, Mono.mono h.2 hb⟩⟩
def Blk (w : World) (g : Nat) (t : TypeId) (cs : Array Value) : Prop := w.heap[g]? = some (.cells cs t (0, 0))
theorem Blk.lt {w : World} {g : Nat} {t : TypeId} {cs : Array Value} (h : Blk w g t cs) : g < w.heap.size := by
 rcases Nat.lt_or_ge g w.heap.size with hlt | hge
 ·exact hlt
 ·unfold Blk at h; rw [Array.getElem?_eq_none hge] at h; cases h
theorem Blk.cell {w : World} {g : Nat} {t : TypeId} {cs : Array Value} (h : Blk w g t cs) (i : Nat) : w.cell? ⟨g, i, none⟩ = cs[i]? := cell_of_row w g i cs t (0, 0) h
theorem Blk.frozen {w : World} {g : Nat} {t : TypeId} {cs : Array Value} (h : Blk w g t cs) (i : Nat) : w.frozen? ⟨g, i, none⟩ = false := by
 unfold Blk at h;simp [World.frozen?, h]
theorem Blk.new (w : World) (t : TypeId) (cs : Array Value) : Blk (w.alloc (.cells cs t)) w.heap.size t cs := heap_alloc_new w _
theorem Blk.alloc {w : World} {g : Nat} {t : TypeId} {cs : Array Value} (h : Blk w g t cs) (o : Obj) : Blk (w.alloc o) g t cs := (Below.heap_alloc w o g h.lt).trans h
theorem Blk.set_ {w : World} {g : Nat} {t : TypeId} {cs : Array Value} (h : Blk w g t cs) (i : Nat) (u : Value) : Blk (w.setCell ⟨g, i, none⟩ u) g t (cs.setIfInBounds i u) := by
 unfold Blk at h ⊢;simp [World.setCell, Array.getElem?_modify, h]
theorem Blk.far {w : World} {g : Nat} {t : TypeId} {cs : Array Value} (h : Blk w g t cs) {p : Addr} (hp : g ≠ p.block) (u : Value) : Blk (w.setCell p u) g t cs := (Below.heap_setCell w p u g hp).trans h
theorem Blk.below {w w' : World} {g : Nat} {t : TypeId} {cs : Array Value} {B : Nat} (h : Blk w g t cs) (hb : Below B w w') (hg : g < B) : Blk w' g t cs := (hb.block g hg).trans h
instance {g : Nat} {t : TypeId} {cs : Array Value} : Mono (fun w => Blk w g t cs) := ⟨fun h hb => h.below hb h.lt⟩
theorem Kept.to {P : World → Prop} {w w' : World} [Mono P] (h : Kept P w) (hb : Below w.heap.size w w') : Kept P w' := Mono.mono (P := P) h hb
theorem Kept.al {P : World → Prop} {w : World} [Mono P] (h : Kept P w) (o : Obj) : Kept P (w.alloc o) := h.to ((Below.refl _ _).alloc (Nat.le_refl _) o)
theorem Kept.rd {P : World → Prop} {w : World} (h : Kept P w) {k : IntKind} {ao : Option Addr} {n cap : Nat} {xs : List Int} (h2 : Rd w k ao n cap xs) : Kept (fun w => P w ∧ Rd w k ao n cap xs) w := ⟨h, h2⟩
theorem Kept.mine {P : World → Prop} {w : World} (h : Kept P w) {k : IntKind} {base : Nat} {e : TypeId} {v : Value} {xs : List Int} (h2 : Mine w base e k v xs) : Kept (fun w => P w ∧ Mine w base e k v xs) w := ⟨h, h2⟩
theorem Kept.blk {P : World → Prop} {w : World} (h : Kept P w) {g : Nat} {t : TypeId} {cs : Array Value} (h2 : Blk w g t cs) : Kept (fun w => P w ∧ Blk w g t cs) w := ⟨h, h2⟩
theorem Kept.new {P : World → Prop} {w : World} [Mono P] (h : Kept P w) (cs : Array Value) (t : TypeId) : Kept (fun w' => P w' ∧ Blk w' w.heap.size t cs) (w.alloc (.cells cs t)) := ⟨h.al _, Blk.new w t cs⟩
theorem Kept.and {P Q : World → Prop} {w : World} (h : Kept P w) (g : Kept Q w) : Kept (fun w => P w ∧ Q w) w := ⟨h, g⟩
theorem Kept.drew {P : World → Prop} {w : World} [Mono P] (h : Kept P w) : Kept P w.drew := h.to ⟨rfl, rfl, rfl, Nat.le_refl _, fun _ _ => rfl⟩
theorem Kept.base {P : World → Prop} {w : World} (h : Kept P w) : Kept (fun w' => P w' ∧ Below w.heap.size w w') w := ⟨h, Below.refl _ _⟩
theorem Blk.two {w : World} {g : Nat} {t : TypeId} {x y : Value} (h : Blk w g t #[x, y]) : w.cell? ⟨g, 0, none⟩ = some x ∧ w.cell? ⟨g, 1, none⟩ = some y := ⟨by rw [h.cell]; rfl, by rw [h.cell]; rfl⟩
theorem Blk.one {w : World} {g : Nat} {t : TypeId} {x : Value} (h : Blk w g t #[x]) : w.cell? ⟨g, 0, none⟩ = some x := by rw [h.cell]; rfl
theorem Blk.set2 {w : World} {g : Nat} {t : TypeId} {x y : Value} (h : Blk w g t #[x, y]) (u v : Value) : Blk ((w.setCell ⟨g, 0, none⟩ u).setCell ⟨g, 1, none⟩ v) g t #[u, v] := (h.set_ 0 u).set_ 1 v
theorem below2 {a w : World} {B f : Nat} (h : Below B a w) (hp : B ≤ f) (u v : Value) : Below B a ((w.setCell ⟨f, 0, none⟩ u).setCell ⟨f, 1, none⟩ v) := (h.setCell (p := ⟨f, 0, none⟩) hp u).setCell (p := ⟨f, 1, none⟩) hp v
theorem Mine.set2 {w : World} {base : Nat} {e : TypeId} {k : IntKind} {v : Value} {xs : List Int} (h : Mine w base e k v xs) {f : Nat} (hf : f < base) (x y : Value) : Mine ((w.setCell ⟨f, 0, none⟩ x).setCell ⟨f, 1, none⟩ y) base e k v xs := (h.setLow (a := ⟨f, 0, none⟩) hf x).setLow (a := ⟨f, 1, none⟩) hf y
theorem blk1 {w w1 : World} {c0 : Array Value} {t0 : TypeId} (hb : Below (w.alloc (.cells c0 t0)).heap.size (w.alloc (.cells c0 t0)) w1) : Below w.heap.size w w1 ∧ Blk w1 w.heap.size t0 c0 :=
 ⟨ov (al (rf w) _) (hb.mono (Nat.le_refl _)), (Blk.new w t0 c0).below hb (by simp)⟩
structure Step (A : Nat → Prop) (w w' : World) : Prop where
 os : w'.os = w.os
 tape : w'.tape = w.tape
 output : w'.output = w.output
 size : w.heap.size ≤ w'.heap.size
 block : ∀ k, k < w.heap.size → ¬ A k → w'.heap[k]? = w.heap[k]?
theorem Step.refl (A : Nat → Prop) (w : World) : Step A w w := ⟨rfl, rfl, rfl, Nat.le_refl _, fun _ _ _ => rfl⟩
theorem Step.trans {A : Nat → Prop} {a b c : World} (h : Step A a b) (k : Step A b c) : Step A a c :=
 ⟨k.os.trans h.os, k.tape.trans h.tape, k.output.trans h.output, Nat.le_trans h.size k.size, fun i hi hA => (k.block i (Nat.lt_of_lt_of_le hi h.size) hA).trans (h.block i hi hA)⟩
theorem Step.of {A : Nat → Prop} {w w' : World} (h : Below w.heap.size w w') : Step A w w' := ⟨h.os, h.tape, h.output, h.size, fun k hk _ => h.block k hk⟩
theorem Step.ofBelow {A : Nat → Prop} {B : Nat} {w w' : World} (h : Below B w w') (hA : ∀ k, B ≤ k → A k) : Step A w w' :=
 ⟨h.os, h.tape, h.output, h.size, fun k _ hk => h.block k (Nat.lt_of_not_le fun hle => hk (hA k hle))⟩
theorem Step.mono {A A' : Nat → Prop} {w w' : World} (h : Step A w w') (hA : ∀ k, A k → A' k) : Step A' w w' :=
 ⟨h.os, h.tape, h.output, h.size, fun k hk hn => h.block k hk fun ha => hn (hA k ha)⟩
theorem Step.below {A : Nat → Prop} {B : Nat} {w w' : World} (h : Step A w w') (hB : B ≤ w.heap.size) (hA : ∀ k, A k → B ≤ k) : Below B w w' :=
 ⟨h.os, h.tape, h.output, h.size, fun k hk => h.block k (Nat.lt_of_lt_of_le hk hB) fun ha => Nat.not_le_of_lt hk (hA k ha)⟩
theorem Step.alloc (A : Nat → Prop) (w : World) (o : Obj) : Step A w (w.alloc o) := .of (al (rf w) o)
theorem Step.set (A : Nat → Prop) (w : World) (p : Addr) (hp : A p.block) (u : Value) : Step A w (w.setCell p u) :=
 ⟨rfl, rfl, rfl, by simp [World.setCell], fun k _ hk => Below.heap_setCell _ _ _ _ fun e => hk (e ▸ hp)⟩
theorem qaa0 {B : Nat} {a w : World} (h : Below B a w) (n : Nat) : Below B a (w.drewN n) := ⟨h.os, h.tape, h.output, h.size, h.block⟩
theorem Step.drewN (A : Nat → Prop) (w : World) (n : Nat) : Step A w (w.drewN n) := .of (qaa0 (rf w) n)
theorem Step.grown {A : Nat → Prop} {w w' : World} {row : Option Nat} (hg : w.grownBy w' row) (hr : ∀ k, row = some k → A k) : Step A w w' :=
 ⟨hg.os, hg.tape, hg.output, hg.size, fun k hk hn => hg.block k hk fun e => hn (hr k e.symm)⟩
theorem Step.cell {A : Nat → Prop} {w w' : World} (h : Step A w w') {p : Addr} {v : Value} (hc : w.cell? p = some v) (hA : ¬ A p.block) : w'.cell? p = some v :=
 (World.cell?_of_block (w := w) (h.block p.block (block_lt_of_cell hc) hA)).trans hc
structure Lay (α : Type) where
 size : Nat
 rep : (Nat → Prop) → World → α → List Value → Prop
 len : ∀ {A w a cs}, rep A w a cs → cs.length = size
 step : ∀ {A w w' a cs}, rep A w a cs → Step A w w' → rep A w' a cs
 weaken : ∀ {A A' : Nat → Prop} {w a cs}, rep A w a cs → (∀ k, A' k → k < w.heap.size → A k) → rep A' w a cs
theorem Lay.below {α : Type} (L : Lay α) {A : Nat → Prop} {w w' : World} {a : α} {cs : List Value} (h : L.rep A w a cs) (hb : Below w.heap.size w w') : L.rep A w' a cs := L.step h (.of hb)
def Lay.int (k : IntKind) : Lay Int where
 size := 1
 rep _ _ x cs := cs = [.int k x] ∧ Fits k x
 len h := by rw [h.1]; rfl
 step h _ := h
 weaken h _ := h
def Lay.bool : Lay Bool where
 size := 1
 rep _ _ x cs := cs = [.bool x]
 len h := by rw [h]; rfl
 step h _ := h
 weaken h _ := h
def Lay.pair {α β : Type} (L : Lay α) (M : Lay β) : Lay (α × β) where
 size := L.size + M.size
 rep A w x cs := ∃ c d, cs = c ++ d ∧ L.rep A w x.1 c ∧ M.rep A w x.2 d
 len := by rintro A w a cs ⟨c, d, rfl, h1, h2⟩; rw [List.length_append, L.len h1, M.len h2]
 step := by rintro A w w' a cs ⟨c, d, rfl, h1, h2⟩ hb; exact ⟨c, d, rfl, L.step h1 hb, M.step h2 hb⟩
 weaken := by rintro A A' w a cs ⟨c, d, rfl, h1, h2⟩ hb; exact ⟨c, d, rfl, L.weaken h1 hb, M.weaken h2 hb⟩
def Lay.map {α β : Type} (f : β → α) (L : Lay α) : Lay β where
 size := L.size
 rep A w x cs := L.rep A w (f x) cs
 len h := L.len h
 step h hb := L.step h hb
 weaken h hb := L.weaken h hb
structure RdL {α : Type} (L : Lay α) (A : Nat → Prop) (w : World) (ao : Option Addr) (n cap : Nat) (xs : List α) : Prop where
 len : xs.length = n
 le : n ≤ cap
 max : cap ≤ maxLen
 nil : ao = none → cap = 0
 here : 0 < n → ∃ b off, ao = some ⟨b, off, none⟩ ∧ ¬ A b ∧ b < w.heap.size ∧ ∀ i (h : i < xs.length), ∃ cs, L.rep A w xs[i] cs ∧ ∀ j, j < L.size → w.cell? ⟨b, off + i * L.size + j, none⟩ = cs[j]?
theorem RdL.lt {α : Type} {L : Lay α} {A : Nat → Prop} {w : World} {ao : Option Addr} {n cap : Nat} {xs : List α} (h : RdL L A w ao n cap xs) : n ≤ 9223372036854775807 := by
 have := h.le; have := h.max; unfold maxLen at *; omega
theorem RdL.step {α : Type} {L : Lay α} {A : Nat → Prop} {w w' : World} {ao : Option Addr} {n cap : Nat} {xs : List α} (h : RdL L A w ao n cap xs) (hs : Step A w w') : RdL L A w' ao n cap xs := by
 refine ⟨h.len, h.le, h.max, h.nil, fun h0 => ?_⟩;obtain ⟨b, off, e, hA, hb, hc⟩ := h.here h0;refine ⟨b, off, e, hA, Nat.lt_of_lt_of_le hb hs.size, fun i hi => ?_⟩;obtain ⟨cs, hr, hj⟩ := hc i hi;refine ⟨cs, L.step hr hs, fun j hj' => ?_⟩;rw [World.cell?_of_block (w := w) (h := hs.block b hb hA)];exact hj j hj'
theorem RdL.weaken {α : Type} {L : Lay α} {A A' : Nat → Prop} {w : World} {ao : Option Addr} {n cap : Nat} {xs : List α} (h : RdL L A w ao n cap xs) (hA : ∀ k, A' k → k < w.heap.size → A k) : RdL L A' w ao n cap xs := by
 refine ⟨h.len, h.le, h.max, h.nil, fun h0 => ?_⟩;obtain ⟨b, off, e, hA', hb, hc⟩ := h.here h0;refine ⟨b, off, e, fun ha => hA' (hA _ ha hb), hb, fun i hi => ?_⟩;obtain ⟨cs, hr, hj⟩ := hc i hi;exact ⟨cs, L.weaken hr hA, hj⟩
theorem RdL.below {α : Type} {L : Lay α} {A : Nat → Prop} {w w' : World} {ao : Option Addr} {n cap : Nat} {xs : List α} (h : RdL L A w ao n cap xs) (hb : Below w.heap.size w w') : RdL L A w' ao n cap xs := h.step (.of hb)
theorem RdL.nil_ {α : Type} (L : Lay α) (A : Nat → Prop) (w : World) : RdL L A w none 0 0 [] := ⟨rfl, Nat.le_refl _, by simp [maxLen], fun _ => rfl, fun h => absurd h (by simp)⟩
instance {α : Type} {L : Lay α} {A : Nat → Prop} {ao : Option Addr} {n cap : Nat} {xs : List α} : Mono (fun w => RdL L A w ao n cap xs) := ⟨fun h hb => h.below hb⟩
def Lay.slice {α : Type} (L : Lay α) : Lay (List α) where
 size := 1
 rep A w xs cs := ∃ ao n cap, cs = [.slice ao n cap] ∧ RdL L A w ao n cap xs
 len := by rintro A w a cs ⟨ao, n, cap, rfl, h⟩; rfl
 step := by rintro A w w' a cs ⟨ao, n, cap, rfl, h⟩ hb; exact ⟨ao, n, cap, rfl, h.step hb⟩
 weaken := by rintro A A' w a cs ⟨ao, n, cap, rfl, h⟩ hb; exact ⟨ao, n, cap, rfl, h.weaken hb⟩
theorem RdL.at_ {α : Type} {L : Lay α} {A : Nat → Prop} {w : World} {ao : Option Addr} {n cap : Nat} {xs : List α} (h : RdL L A w ao n cap xs) {i : Nat} (hi : i < xs.length) :
  ∃ b off cs, ao = some ⟨b, off, none⟩ ∧ ¬ A b ∧ b < w.heap.size ∧ L.rep A w xs[i] cs ∧ ∀ j, j < L.size → w.cell? ⟨b, off + i * L.size + j, none⟩ = cs[j]? := by
 obtain ⟨b, off, e, hA, hb, hc⟩ := h.here (by have := h.len; omega);obtain ⟨cs, hr, hj⟩ := hc i hi;exact ⟨b, off, cs, e, hA, hb, hr, hj⟩
theorem RdL.rd {k : IntKind} {A : Nat → Prop} {w : World} {ao : Option Addr} {n cap : Nat} {xs : List Int} (h : RdL (Lay.int k) A w ao n cap xs) : Rd w k ao n cap xs := by
 have hlen := h.len;have hle := h.le;refine ⟨h.len, ?_, by omega, h.max, fun h0 => ?_, h.nil⟩
 ·intro x hx;obtain ⟨i, hi, rfl⟩ := List.getElem_of_mem hx;obtain ⟨b, off, cs, e, _, _, hr, _⟩ := h.at_ hi;exact hr.2
 ·obtain ⟨b, off, e, hA, hb, hc⟩ := h.here (by omega);refine ⟨b, off, e, fun i hi => ?_⟩;obtain ⟨cs, hr, hj⟩ := hc i hi;obtain ⟨rfl, _⟩ := hr;have := hj 0 Nat.one_pos;simp only [Lay.int, Nat.mul_one, Nat.add_zero] at this;rw [this, qagx _ _ hi];rfl
theorem Rd.lay {k : IntKind} {w : World} {ao : Option Addr} {n cap : Nat} {xs : List Int} (h : Rd w k ao n cap xs) (A : Nat → Prop) (hA : ∀ a, ao = some a → 0 < n → ¬ A a.block) : RdL (Lay.int k) A w ao n cap xs := by
 have hlen := h.len;have hle := h.le;refine ⟨h.len, by omega, h.max, h.nil, fun h0 => ?_⟩;obtain ⟨b, off, e, hc⟩ := h.here (by omega);refine ⟨b, off, e, hA _ e h0, block_lt_of_cell (hc 0 (by omega)), fun i hi => ⟨[.int k xs[i]], ⟨rfl, h.fit _ (List.getElem_mem hi)⟩, fun j hj => ?_⟩⟩;have hj : j < 1 := hj;obtain rfl : j = 0 := by omega
 have := hc i hi;simp only [Lay.int, Nat.mul_one, Nat.add_zero];rw [this, qagx _ _ hi];rfl
inductive SV where
 | any
 | bool (b : Bool)
 | int (k : IntKind) (n : Int)
 | str (s : ByteArray)
 | nil
 | nilsl
 | nilfn
 | niliface
 | ifc (t : TypeId) (x : SV)
 | mt
 | view (size : Nat) (es : List (List SV))
 | cp (cs : List SV)
 | ptr (id off : Nat)
 | eptr (id size i j : Nat)
 | own (id len : Nat)
 | owno (id size off len : Nat)
 | agg (cs : List SV)
 | tup (cs : List SV)
 | fn (f : Fn) (first cap : List SV)
 | bot
instance : Inhabited SV := ⟨.any⟩
abbrev Pl := Option (Nat × Nat)
abbrev qact := Nat → Option Pl
def noPl : qact := fun _ => none
inductive RepV (w : World) (A : Nat → Prop) : qact → SV → Value → Prop
 | any {ρ v} : RepV w A ρ .any v
 | bool {ρ b} : RepV w A ρ (.bool b) (.bool b)
 | int {ρ k n} : RepV w A ρ (.int k n) (.int k n)
 | str {ρ s} : RepV w A ρ (.str s) (.string s)
 | nil {ρ} : RepV w A ρ .nil (.pointer none)
 | nilsl {ρ} : RepV w A ρ .nilsl (.slice none 0 0)
 | nilfn {ρ} : RepV w A ρ .nilfn .nilFunc
 | niliface {ρ} : RepV w A ρ .niliface .nilIface
 | ifc {ρ t x v} (h : RepV w A ρ x v) : RepV w A ρ (.ifc t x) (.iface t v)
 | mt {ρ a c} (hc : c ≤ maxLen) : RepV w A ρ .mt (.slice (some a) 0 c)
 | view0 {ρ size a c} (hc : c ≤ maxLen) (ha : a = none → c = 0) : RepV w A ρ (.view size []) (.slice a 0 c)
 | view {ρ size} {es : List (List SV)} {b off n c : Nat} (cv : Nat → Nat → Value) (hn : es.length = n) (hc : n ≤ c) (hm : c ≤ maxLen) (hA : ¬ A b) (hb : b < w.heap.size) (hs : ∀ e ∈ es, e.length = size)
   (h1 : ∀ i e j x, es[i]? = some e → e[j]? = some x → w.cell? ⟨b, off + i * size + j, none⟩ = some (cv i j))
   (h2 : ∀ i e j x, es[i]? = some e → e[j]? = some x → RepV w A noPl x (cv i j)) (ho : ∀ i e j x, es[i]? = some e → e[j]? = some x → (cv i j).oneCell' = true) : RepV w A ρ (.view size es) (.slice (some ⟨b, off, none⟩) n c)
 | cp {ρ} {cs : List SV} {b off : Nat} (cv : Nat → Value) (hA : ¬ A b) (hb : b < w.heap.size)
   (h1 : ∀ j x, cs[j]? = some x → w.cell? ⟨b, off + j, none⟩ = some (cv j)) (h2 : ∀ j x, cs[j]? = some x → RepV w A noPl x (cv j)) (ho : ∀ j x, cs[j]? = some x → (cv j).oneCell' = true) : RepV w A ρ (.cp cs) (.pointer (some ⟨b, off, none⟩))
 | ptr {ρ id off b c} (h : ρ id = some (some (b, c))) : RepV w A ρ (.ptr id off) (.pointer (some ⟨b, off, none⟩))
 | eptr {ρ id size i j b c} (h : ρ id = some (some (b, c))) : RepV w A ρ (.eptr id size i j) (.pointer (some ⟨b, i * size + j, none⟩))
 | own0 {ρ id} (h : ρ id = some none) : RepV w A ρ (.own id 0) (.slice none 0 0)
 | own {ρ id n b c} (h : ρ id = some (some (b, c))) (hn : n ≤ c) (hm : c ≤ maxLen) : RepV w A ρ (.own id n) (.slice (some ⟨b, 0, none⟩) n c)
 | owno {ρ id size off n b c} (h : ρ id = some (some (b, c))) (hn : off + n ≤ c) (hm : c ≤ maxLen) : RepV w A ρ (.owno id size off n) (.slice (some ⟨b, off * size, none⟩) n (c - off))
 | agg {ρ} {cs : List SV} {vs : List Value} (ho : ∀ v ∈ vs, v.oneCell' = true) (hl : cs.length = vs.length) (h : ∀ (j : Nat) x v, cs[j]? = some x → vs[j]? = some v → RepV w A ρ x v) : RepV w A ρ (.agg cs) (.agg vs.toArray)
 | tup {ρ} {cs : List SV} {vs : List Value} (hl : cs.length = vs.length) (h : ∀ (j : Nat) x v, cs[j]? = some x → vs[j]? = some v → RepV w A ρ x v) : RepV w A ρ (.tup cs) (.tuple vs.toArray)
 | fn {ρ f} {fs cs : List SV} {vs us : List Value} (h1 : fs.length = vs.length) (h2 : cs.length = us.length) (h3 : ∀ (j : Nat) x v, fs[j]? = some x → vs[j]? = some v → RepV w A ρ x v) (h4 : ∀ (j : Nat) x v, cs[j]? = some x → us[j]? = some v → RepV w A ρ x v) : RepV w A ρ (.fn f fs cs) (.func f vs.toArray us.toArray)
def Ones (vs : List Value) : Prop := ∀ v ∈ vs, v.oneCell' = true
def Reps (w : World) (A : Nat → Prop) (ρ : qact) (cs : List SV) (vs : List Value) : Prop := cs.length = vs.length ∧ ∀ (j : Nat) x v, cs[j]? = some x → vs[j]? = some v → RepV w A ρ x v
theorem RepV.mono {w w' : World} {A A' : Nat → Prop} {ρ ρ' : qact} {x : SV} {v : Value} (h : RepV w A ρ x v) (hs : Step A w w') (hA : ∀ k, A' k → k < w.heap.size → A k) (hρ : ∀ id p, ρ id = some p → ρ' id = some p) : RepV w' A' ρ' x v := by
 induction h generalizing ρ' with
 | any => exact .any
 | bool => exact .bool
 | int => exact .int
 | str => exact .str
 | nil => exact .nil
 | nilsl => exact .nilsl
 | nilfn => exact .nilfn
 | niliface => exact .niliface
 | ifc _ ih => exact .ifc (ih hρ)
 | mt hc => exact .mt hc
 | view0 hc ha => exact .view0 hc ha
 | view cv hn hc hm hA' hb hz h1 h2 ho ih => exact .view cv hn hc hm (fun h => hA' (hA _ h hb)) (Nat.lt_of_lt_of_le hb hs.size) hz (fun i e j x he hx => hs.cell (h1 i e j x he hx) hA') (fun i e j x he hx => ih i e j x he hx fun _ _ h => h) ho
 | cp cv hA' hb h1 h2 ho ih => exact .cp cv (fun h => hA' (hA _ h hb)) (Nat.lt_of_lt_of_le hb hs.size) (fun j x hx => hs.cell (h1 j x hx) hA') (fun j x hx => ih j x hx fun _ _ h => h) ho
 | ptr h => exact .ptr (hρ _ _ h)
 | eptr h => exact .eptr (hρ _ _ h)
 | own0 h => exact .own0 (hρ _ _ h)
 | own h hn hm => exact .own (hρ _ _ h) hn hm
 | owno h hn hm => exact .owno (hρ _ _ h) hn hm
 | agg ho hl _ ih => exact .agg ho hl fun j x v hx hv => ih j x v hx hv hρ
 | tup hl _ ih => exact .tup hl fun j x v hx hv => ih j x v hx hv hρ
 | fn h1 h2 _ _ ih1 ih2 => exact .fn h1 h2 (fun j x v hx hv => ih1 j x v hx hv hρ) (fun j x v hx hv => ih2 j x v hx hv hρ)
theorem RepV.weaken {w : World} {A A' : Nat → Prop} {ρ : qact} {x : SV} {v : Value} (h : RepV w A ρ x v) (hA : ∀ k, A' k → k < w.heap.size → A k) : RepV w A' ρ x v := h.mono (.refl _ _) hA fun _ _ h => h
theorem Reps.mono {w w' : World} {A A' : Nat → Prop} {ρ ρ' : qact} {x : List SV} {v : List Value} (h : Reps w A ρ x v) (hs : Step A w w') (hA : ∀ k, A' k → k < w.heap.size → A k) (hρ : ∀ id p, ρ id = some p → ρ' id = some p) : Reps w' A' ρ' x v :=
 ⟨h.1, fun j x v hx hv => (h.2 j x v hx hv).mono hs hA hρ⟩
theorem Reps.nil {w : World} {A : Nat → Prop} {ρ : qact} : Reps w A ρ [] [] := ⟨rfl, by simp⟩
theorem Reps.cons {w : World} {A : Nat → Prop} {ρ : qact} {x : SV} {v : Value} {xs : List SV} {vs : List Value} (h : RepV w A ρ x v) (hs : Reps w A ρ xs vs) : Reps w A ρ (x :: xs) (v :: vs) := by
 refine ⟨by simp [hs.1], fun j y u hy hu => ?_⟩;cases j with
 | zero => simp at hy hu; subst hy hu; exact h
 | succ j => exact hs.2 j y u (by simpa using hy) (by simpa using hu)
theorem Reps.cons_inv {w : World} {A : Nat → Prop} {ρ : qact} {x : SV} {xs : List SV} {vs : List Value} (h : Reps w A ρ (x :: xs) vs) : ∃ v us, vs = v :: us ∧ RepV w A ρ x v ∧ Reps w A ρ xs us := by
 obtain ⟨hl, h⟩ := h;cases vs with
 | nil => simp at hl
 | cons v us => exact ⟨v, us, rfl, h 0 x v rfl rfl, by simpa using hl, fun j y u hy hu => h (j + 1) y u (by simpa using hy) (by simpa using hu)⟩
theorem Reps.nil_inv {w : World} {A : Nat → Prop} {ρ : qact} {vs : List Value} (h : Reps w A ρ [] vs) : vs = [] := by
 have := h.1; cases vs with | nil => rfl | cons => simp at this
theorem Reps.get {w : World} {A : Nat → Prop} {ρ : qact} {xs : List SV} {vs : List Value} (h : Reps w A ρ xs vs) {j : Nat} {x : SV} (hx : xs[j]? = some x) : ∃ v, vs[j]? = some v ∧ RepV w A ρ x v := by
 have hj : j < xs.length := (List.getElem?_eq_some_iff.1 hx).1;exact ⟨vs[j]'(h.1 ▸ hj), List.getElem?_eq_getElem _, h.2 j x _ hx (List.getElem?_eq_getElem _)⟩
theorem Reps.append {w : World} {A : Nat → Prop} {ρ : qact} {xs ys : List SV} {vs us : List Value} (h : Reps w A ρ xs vs) (g : Reps w A ρ ys us) : Reps w A ρ (xs ++ ys) (vs ++ us) := by
 refine ⟨by rw [List.length_append, List.length_append, h.1, g.1], fun j x v hx hv => ?_⟩;by_cases hj : j < xs.length
 ·rw [List.getElem?_append_left hj] at hx;rw [List.getElem?_append_left (by rw [← h.1]; exact hj)] at hv;exact h.2 j x v hx hv
 ·rw [List.getElem?_append_right (by omega)] at hx;rw [List.getElem?_append_right (by rw [← h.1]; omega), ← h.1] at hv;exact g.2 _ x v hx hv
structure AbsI where
 I : World → (Nat → Prop) → (Nat → Prop) → Nat → Prop
 lt : ∀ {w A Fp b}, I w A Fp b → ∀ k, Fp k → k < w.heap.size
 keep : ∀ {w w' A A' Fp b}, I w A Fp b → Step A w w' → (∀ k, A' k → k < w.heap.size → A k) → (∀ k, Fp k → w'.heap[k]? = w.heap[k]?) → I w' A' Fp b
inductive SObj where
 | cells (t : TypeId) (cs : List SV)
 | row (e : TypeId) (size : Nat) (es : List (List SV))
 | abs (I : AbsI)
abbrev Hp := List (Nat × SObj)
def geth : Hp → Nat → Option SObj
 | [], _ => none
 | (i, o) :: h, n => if i = n then some o else geth h n
def puth : Hp → Nat → SObj → Hp
 | [], n, x => [(n, x)]
 | (i, o) :: h, n, x => if i = n then (n, x) :: h else (i, o) :: puth h n x
def delh : Hp → Nat → Hp
 | [], _ => []
 | (i, o) :: h, n => if i = n then delh h n else (i, o) :: delh h n
theorem qacx (h : Hp) (n : Nat) (x : SObj) (k : Nat) : geth (puth h n x) k = if k = n then some x else geth h k := by
 induction h with
 | nil => simp [puth, geth, eq_comm]
 | cons p h ih =>
  obtain ⟨i, o⟩ := p;simp only [puth];split
  ·subst i;simp only [geth];by_cases hk : k = n
   ·simp [hk]
   ·simp [hk, Ne.symm hk]
  ·rename_i hne;simp only [geth, ih];by_cases hik : i = k
   ·subst hik; simp [hne]
   ·simp [hik]
theorem qai2 (h : Hp) (n k : Nat) : geth (delh h n) k = if k = n then none else geth h k := by
 induction h with
 | nil => simp [delh, geth]
 | cons p h ih =>
  obtain ⟨i, o⟩ := p;simp only [delh];split
  ·subst i;rw [ih];by_cases hk : k = n
   ·simp [hk]
   ·simp [hk, geth, Ne.symm hk]
  ·rename_i hne;simp only [geth, ih];by_cases hik : i = k
   ·subst hik; simp [hne]
   ·simp [hik]
abbrev Sl := List (Nat × SV)
def gets : Sl → Nat → SV
 | [], _ => .any
 | (i, v) :: l, t => if i = t then v else gets l t
def puts : Sl → Nat → SV → Sl
 | l, t, v => (t, v) :: l
theorem qai0 (l : Sl) (t : Nat) (v : SV) (u : Nat) : gets (puts l t v) u = if u = t then v else gets l u := by
 simp only [puts, gets];by_cases h : t = u <;> simp [h, eq_comm]
structure SSt where
 sl : Sl
 hp : Hp
 nx : Nat
def qad9 : Value → Pl
 | .slice (some a) _ c => some (a.block, c)
 | _ => none
def RowP (w : World) (e size : Nat) (v : Value) (n : Nat) (vs : List Value) : Prop :=
 vs.length = n * size ∧ ((v = .slice none 0 0 ∧ n = 0) ∨ ∃ g cap cur fz, v = .slice (some ⟨g, 0, none⟩) n cap ∧ w.heap[g]? = some (.cells cur e fz) ∧ (fz = (0, 0) ∨ (size = 1 ∧ fz = (cur.size, cur.size + 1))) ∧ n ≤ cap ∧ cap ≤ maxLen ∧ cur.size = cap * size ∧ cur.toList.take (n * size) = vs)
theorem RowP.of {w : World} {e size n : Nat} {v : Value} {vs : List Value} {b : Nat} (h : w.ownsRow b e size v n vs) : RowP w e size v n vs :=
 ⟨h.1, h.2.imp (fun h => h) fun ⟨g, cap, cur, h1, _, h3, h4⟩ => ⟨g, cap, cur, (0, 0), h1, h3, .inl rfl, h4⟩⟩
theorem RowP.owns {w : World} {e size n : Nat} {v : Value} {vs : List Value} (h : RowP w e size v n vs) (hs : size ≠ 1) : w.ownsRow 0 e size v n vs :=
 ⟨h.1, h.2.imp (fun h => h) fun ⟨g, cap, cur, fz, h1, h3, h4, h5⟩ => by
  rcases h4 with rfl | ⟨h4, _⟩
  ·exact ⟨g, cap, cur, h1, Nat.zero_le _, h3, h5⟩
  ·exact absurd h4 hs⟩
theorem RowP.nil (w : World) (e size : Nat) : RowP w e size (.slice none 0 0) 0 [] := .of (World.ownsRow_nil w 0 e size)
def ObjRep (w : World) (A : Nat → Prop) (ρ : qact) (id : Nat) (fp : Nat → Prop) : SObj → Prop
 | .cells t cs => ∃ b c vs, ρ id = some (some (b, c)) ∧ Blk w b t vs.toArray ∧ (Reps w A ρ cs vs ∧ Ones vs) ∧ ∀ k, fp k ↔ k = b
 | .row e size es => ∃ v vs, RowP w e size v es.length vs ∧ (Reps w A ρ es.flatten vs ∧ Ones vs) ∧ (∀ x ∈ es, x.length = size) ∧ ρ id = some (qad9 v) ∧ ∀ k, fp k ↔ v.ownBlock = some k
 | .abs I => ∃ b c, ρ id = some (some (b, c)) ∧ I.I w A fp b
structure Cx where
 P : Program
 N : Nat
 m : Nat
 ρ0 : qact
 W : World
 M : Nat → Prop
 O : Nat → Prop
 O_lt : ∀ k, O k → k < W.heap.size
 O_M : ∀ k, O k → ¬ M k
 D : List Deferred
def Live (hp : Hp) (fp : Nat → Nat → Prop) (k : Nat) : Prop := ∃ id o, geth hp id = some o ∧ fp id k
def Av (X : Cx) (hp : Hp) (fp : Nat → Nat → Prop) (k : Nat) : Prop := X.O k ∨ Live hp fp k
structure SimH (X : Cx) (ρ : qact) (fp : Nat → Nat → Prop) (hp : Hp) (w : World) : Prop where
 objs : ∀ id o, geth hp id = some o → ObjRep w (Av X hp fp) ρ id (fp id) o
 disj : ∀ id id' o o', id ≠ id' → geth hp id = some o → geth hp id' = some o' → ∀ k, fp id k → ¬ fp id' k
 turn : ∀ id o, geth hp id = some o → ∀ k, fp id k → (X.M k ∨ X.W.heap.size ≤ k) ∧ k < w.heap.size
 step : Step X.M X.W w
 keep : ∀ id, id < X.m → ρ id = X.ρ0 id
structure Sim (X : Cx) (ρ : qact) (fp : Nat → Nat → Prop) (s : SSt) (a : Act) (w : World) : Prop where
 h : SimH X ρ fp s.hp w
 tmps : a.tmps.size = X.N
 defers : a.defers = X.D
 slots : ∀ t, RepV w (Av X s.hp fp) ρ (gets s.sl t) (a.tmps.getD t undef)
inductive SX where
 | t (n : Nat)
 | c (v : SV)
def SX.ev (l : Sl) : SX → SV
 | .t n => gets l n
 | .c v => v
inductive SOp where
 | mv (x : SX)
 | pick (c a b : SX)
 | alloc (t : TypeId) (z : List SV)
 | box (t : TypeId) (x : SX)
 | build (z : List SV) (parts : List (Nat × Nat × SX))
 | mkrow (e size n : Nat) (z : List SV) (parts : List (Nat × SX))
 | load (x : SX)
 | loads (n : Nat) (x : SX)
 | store (n : Nat) (x v : SX)
 | nilc (x : SX)
 | bin (op : BinOp) (x y : SX)
 | eq (k : Nat) (neg : Bool) (x y : SX)
 | eqs (ks : List Nat) (neg : Bool) (x y : SX)
 | un (op : UnOp) (x : SX)
 | conv (k : IntKind) (x : SX)
 | mkslice (e size bytes : Nat) (z : List SV) (l c : SX)
 | slice (size : Nat) (x : SX) (lo hi : Option SX)
 | slstr (x : SX) (lo hi : Option SX)
 | faddr (off : Nat) (x : SX)
 | iaddr (size : Nat) (x i : SX)
 | iarr (len size : Nat) (x i : SX)
 | field (off : Nat) (n : Option Nat) (x : SX)
 | idx (len size : Nat) (n : Option Nat) (x i : SX)
 | idxs (x i : SX)
 | extr (x : SX) (i : Nat)
 | len (str : Bool) (x : SX)
 | app (e size bytes : Nat) (s x : SX)
 | mm (max : Bool) (x y : SX)
 | mkfn (f : Fn) (first cap : List SX)
 | b2s (x : SX)
 | b2b (x : SX)
 | mkifc (t : TypeId) (x : SX)
 | asrt (t : TypeId) (z : SV) (x : SX)
def rg {α : Type} (c : Prop) [Decidable c] (o : Option α) : Option α := if c then o else none
theorem rg_pos {α : Type} {c : Prop} [Decidable c] (h : c) (o : Option α) : rg c o = o := if_pos h
theorem qacw {α : Type} {c : Prop} [Decidable c] {o : Option α} {x : α} : rg c o = some x ↔ c ∧ o = some x := by
 unfold rg; split <;> simp [*]
def SV.cells? : SV → Option (List SV)
 | .agg cs => some cs
 | .any | .tup _ => none
 | v => some [v]
def setL : List SV → Nat → List SV → List SV
 | cs, _, [] => cs
 | cs, off, v :: vs => setL (cs.set off v) (off + 1) vs
def qac5 : List SV → List (Nat × Nat × SV) → Option (List SV)
 | z, [] => some z
 | z, (off, size, v) :: r => match v.cells? with
  | some cs => if cs.length = size ∧ off + size ≤ z.length then qac5 (setL z off cs) r else none
  | none => none
def qac6 : Nat → List (List SV) → List (Nat × SV) → Option (List (List SV))
 | _, es, [] => some es
 | size, es, (i, v) :: r => match v.cells? with
  | some cs => if cs.length = size ∧ i < es.length then qac6 size (es.set i cs) r else none
  | none => none
def sbin : BinOp → IntKind → Int → IntKind → Int → Option SV
 | .shl, k, a, _, b => rg (0 ≤ b) (some (.int k (k.wrap (a * 2 ^ min b.toNat k.bits))))
 | .shr, k, a, _, b => rg (0 ≤ b) (some (.int k (a / 2 ^ min b.toNat k.bits)))
 | .add, k, a, k', b => if k = k' then some (.int k (k.wrap (a + b))) else none
 | .sub, k, a, k', b => if k = k' then some (.int k (k.wrap (a - b))) else none
 | .mul, k, a, k', b => if k = k' then some (.int k (k.wrap (a * b))) else none
 | .quo, k, a, k', b => if k = k' then rg (b ≠ 0) (some (.int k (k.wrap (a.tdiv b)))) else none
 | .rem, k, a, k', b => if k = k' then rg (b ≠ 0) (some (.int k (a.tmod b))) else none
 | .and, k, a, k', b => if k = k' then some (.int k (bits .and k a b)) else none
 | .or, k, a, k', b => if k = k' then some (.int k (bits .or k a b)) else none
 | .xor, k, a, k', b => if k = k' then some (.int k (bits .xor k a b)) else none
 | .andNot, k, a, k', b => if k = k' then some (.int k (bits .andNot k a b)) else none
 | .eql, k, a, k', b => if k = k' then some (.bool (a == b)) else none
 | .neq, k, a, k', b => if k = k' then some (.bool (a != b)) else none
 | .lss, k, a, k', b => if k = k' then some (.bool (a < b)) else none
 | .leq, k, a, k', b => if k = k' then some (.bool (a ≤ b)) else none
 | .gtr, k, a, k', b => if k = k' then some (.bool (a > b)) else none
 | .geq, k, a, k', b => if k = k' then some (.bool (a ≥ b)) else none
def eq1 : Nat → SV → SV → Option Bool
 | 0, .bool a, .bool b => some (a == b)
 | 1, .int k a, .int k' b => if k = k' then some (a == b) else none
 | 2, .str a, .str b => some (a.toList == b.toList)
 | _, _, _ => none
def eq0 : Nat → SV → SV → Option Bool
 | 0, .bool a, .bool b => some (a == b)
 | 1, .nil, .nil => some true
 | 1, .nil, .ptr _ _ | 1, .nil, .cp _ | 1, .nil, .eptr _ _ _ _ => some false
 | 1, .ptr _ _, .nil | 1, .cp _, .nil | 1, .eptr _ _ _ _, .nil => some false
 | 2, .nilsl, .nilsl => some true
 | 2, .view _ (_ :: _), .nilsl => some false
 | 2, .mt, .nilsl => some false
 | 2, .own _ (_ + 1), .nilsl => some false
 | 3, .nilfn, .nilfn => some true
 | 3, .nilfn, .fn _ _ _ | 3, .fn _ _ _, .nilfn => some false
 | _, _, _ => none
def eqL : List Nat → List SV → List SV → Option Bool
 | [], [], [] => some true
 | k :: ks, x :: xs, y :: ys => match eq1 k x y, eqL ks xs ys with
  | some a, some b => some (a && b)
  | _, _ => none
 | _, _, _ => none
abbrev Upd := List (Nat × Option SObj)
def upds : Hp → Upd → Hp
 | h, [] => h
 | h, (i, some o) :: u => upds (puth h i o) u
 | h, (i, none) :: u => upds (delh h i) u
def qac2 (size : Nat) (g : Nat → Option SObj) : SV → Option (List (List SV))
 | .nilsl => some []
 | .mt => some []
 | .view size' es => if size = size' then some es else none
 | .own id n => match g id with
  | some (.row _ size' es) => if size = size' then rg (n ≤ es.length) (some (es.take n)) else none
  | _ => none
 | .owno id size' off n => match g id with
  | some (.row _ size'' es) => if size = size' ∧ size = size'' then rg (off + n ≤ es.length) (some ((es.drop off).take n)) else none
  | _ => none
 | _ => none
def qat9 : List (List SV) → Option (List Int)
 | [] => some []
 | [.int .u8 n] :: r => (qat9 r).map (n :: ·)
 | _ => none
def SOp.run (ev : SX → SV) (g : Nat → Option SObj) (nx : Nat) : SOp → Option (SV × Upd × Nat)
 | .mv x => some (ev x, [], nx)
 | .pick c a b => match ev c with
  | .bool c => match ev a, ev b with
   | .bool a, .bool b => some (.bool (bif c then a else b), [], nx)
   | x, y => some (match c with | true => x | false => y, [], nx)
  | _ => none
 | .alloc t z => some (.ptr nx 0, [(nx, some (.cells t z))], nx + 1)
 | .box t x => match (ev x).cells? with
  | some cs => some (.ptr nx 0, [(nx, some (.cells t cs))], nx + 1)
  | none => none
 | .build z parts => match qac5 z (parts.map fun p => (p.1, p.2.1, ev p.2.2)) with
  | some cs => some (.agg cs, [], nx)
  | none => none
 | .mkrow e size n z parts => match qac6 size (List.replicate n z) (parts.map fun p => (p.1, ev p.2)) with
  | some es => some (.own nx n, [(nx, some (.row e size es))], nx + 1)
  | none => none
 | .load x => match ev x with
  | .cp (c :: _) => some (c, [], nx)
  | .ptr id off => match g id with
   | some (.cells _ cs) => (cs[off]?).map fun c => (c, [], nx)
   | _ => none
  | .eptr id size i j => match g id with
   | some (.row _ size' es) => if size = size' ∧ j < size then ((es[i]?).bind (·[j]?)).map fun c => (c, [], nx) else none
   | _ => none
  | _ => none
 | .loads n x => match ev x with
  | .cp cs => if n ≤ cs.length then some (.agg (cs.take n), [], nx) else none
  | .ptr id off => match g id with
   | some (.cells _ cs) => if off + n ≤ cs.length then some (.agg ((cs.drop off).take n), [], nx) else none
   | _ => none
  | .eptr id size i j => match g id with
   | some (.row _ size' es) => if size = size' ∧ j + n ≤ size then (es[i]?).map fun e => (.agg ((e.drop j).take n), [], nx) else none
   | _ => none
  | _ => none
 | .store n x v => match (ev v).cells? with
  | none => none
  | some vs => if vs.length = n then (match ev x with
   | .ptr id off => match g id with
    | some (.cells t cs) => rg (off + n ≤ cs.length) (some (.any, [(id, some (.cells t (setL cs off vs)))], nx))
    | _ => none
   | .eptr id size i j => match g id with
    | some (.row e size' es) => if size = size' ∧ j + n ≤ size then (es[i]?).map fun x => (.any, [(id, some (.row e size (es.set i (setL x j vs))))], nx) else none
    | _ => none
   | _ => none) else none
 | .nilc x => match ev x with
  | .ptr id off => some (.ptr id off, [], nx)
  | .cp cs => some (.cp cs, [], nx)
  | .eptr id size i j => some (.eptr id size i j, [], nx)
  | .fn (.func f) a b => some (.fn (.func f) a b, [], nx)
  | _ => none
 | .bin op x y => match ev x, ev y with
  | .int k a, .int k' b => (sbin op k a k' b).map fun v => (v, [], nx)
  | .str a, .str b => match op with
   | .add => rg (a.size + b.size ≤ maxLen) (some (.str (a ++ b), [], nx))
   | .eql => some (.bool (a.toList == b.toList), [], nx)
   | .neq => some (.bool (!(a.toList == b.toList)), [], nx)
   | _ => none
  | _, _ => none
 | .eq k neg x y => (eq0 k (ev x) (ev y)).map fun b => (.bool (neg != b), [], nx)
 | .eqs ks neg x y => match ev x, ev y with
  | .agg xs, .agg ys => (eqL ks xs ys).map fun b => (.bool (neg != b), [], nx)
  | _, _ => none
 | .un op x => match op, ev x with
  | .neg, .int k n => some (.int k (k.wrap (0 - n)), [], nx)
  | .xor, .int k n => some (.int k (bits .xor k (if k.signed then -1 else k.max) n), [], nx)
  | .not, .bool b => some (.bool (!b), [], nx)
  | _, _ => none
 | .conv k x => match ev x with
  | .int _ n => some (.int k (k.wrap n), [], nx)
  | _ => none
 | .mkslice e size bytes z l c => match ev l, ev c with
  | .int .i64 l, .int .i64 c => rg (0 ≤ l ∧ l ≤ c ∧ c ≤ maxLen ∧ c * bytes ≤ 140737488355328) (some (.own nx l.toNat, [(nx, some (.row e size (List.replicate l.toNat z)))], nx + 1))
  | _, _ => none
 | .slice size x lo hi =>
  match lo.map ev, hi.map ev with
  | none, none => (match ev x with
   | .view size' es => if size = size' then some (.view size es, [], nx) else none
   | .own id n => some (.own id n, [], nx)
   | _ => none)
  | some (.int _ l), none => (match ev x with
   | .view size' es => if size = size' then rg (0 ≤ l ∧ l ≤ es.length) (some (.view size (es.drop l.toNat), [], nx)) else none
   | .own id n => rg (0 ≤ l ∧ l < n) (some (.owno id size l.toNat (n - l.toNat), [], nx))
   | _ => none)
  | none, some (.int _ h) => (match ev x with
   | .view size' es => if size = size' then rg (0 ≤ h ∧ h ≤ es.length) (some (.view size (es.take h.toNat), [], nx)) else none
   | .own id n => rg (0 ≤ h ∧ h ≤ n) (some (.own id h.toNat, [], nx))
   | _ => none)
  | some (.int _ l), some (.int _ h) => (match ev x with
   | .view size' es => if size = size' then rg (0 ≤ l ∧ l ≤ h ∧ h ≤ es.length) (some (.view size ((es.take h.toNat).drop l.toNat), [], nx)) else none
   | .own id n => rg (0 ≤ l ∧ l < h ∧ h ≤ n) (some (.owno id size l.toNat (h.toNat - l.toNat), [], nx))
   | _ => none)
  | _, _ => none
 | .slstr x lo hi =>
  match ev x with
  | .str s => (match lo.map ev, hi.map ev with
   | some (.int _ l), none => rg (0 ≤ l ∧ l ≤ s.size) (some (.str (s.extract l.toNat s.size), [], nx))
   | none, some (.int _ h) => rg (0 ≤ h ∧ h ≤ s.size) (some (.str (s.extract 0 h.toNat), [], nx))
   | some (.int _ l), some (.int _ h) => rg (0 ≤ l ∧ l ≤ h ∧ h ≤ s.size) (some (.str (s.extract l.toNat h.toNat), [], nx))
   | _, _ => none)
  | _ => none
 | .faddr off x => match ev x with
  | .ptr id o => some (.ptr id (o + off), [], nx)
  | .cp cs => some (.cp (cs.drop off), [], nx)
  | .eptr id size i j => some (.eptr id size i (j + off), [], nx)
  | _ => none
 | .iaddr size x i => match ev i with
  | .int _ i => match ev x with
   | .view size' es => if size = size' then rg (0 ≤ i ∧ i < es.length) (some (.cp ((es[i.toNat]?).getD []), [], nx)) else none
   | .own id n => rg (0 ≤ i ∧ i < n) (some (.eptr id size i.toNat 0, [], nx))
   | .owno id size' off n => if size = size' then rg (0 ≤ i ∧ i < n) (some (.eptr id size (off + i.toNat) 0, [], nx)) else none
   | _ => none
  | _ => none
 | .iarr n size x i => match ev i with
  | .int _ i => match ev x with
   | .ptr id off => rg (0 ≤ i ∧ i < n) (some (.ptr id (off + i.toNat * size), [], nx))
   | .cp cs => rg (0 ≤ i ∧ i < n) (some (.cp (cs.drop (i.toNat * size)), [], nx))
   | .eptr id size' i' j => rg (0 ≤ i ∧ i < n) (some (.eptr id size' i' (j + i.toNat * size), [], nx))
   | _ => none
  | _ => none
 | .field off n x => match ev x with
  | .agg cs => match n with
   | none => (cs[off]?).map fun c => (c, [], nx)
   | some n => if off + n ≤ cs.length then some (.agg ((cs.drop off).take n), [], nx) else none
  | _ => none
 | .idx m size n x i => match ev i with
  | .int _ i => match ev x with
   | .agg cs => rg (0 ≤ i ∧ i < m) (match n with
    | none => (cs[i.toNat * size]?).map fun c => (c, [], nx)
    | some n => rg (i.toNat * size + n ≤ cs.length) (some (.agg ((cs.drop (i.toNat * size)).take n), [], nx)))
   | _ => none
  | _ => none
 | .idxs x i => match ev i with
  | .int _ i => match ev x with
   | .str s => rg (0 ≤ i) (match s[i.toNat]? with
    | some b => some (.int .u8 b.toNat, [], nx)
    | none => none)
   | _ => none
  | _ => none
 | .extr x i => match ev x with
  | .tup vs => (vs[i]?).map fun c => (c, [], nx)
  | _ => none
 | .len st x => match ev x with
  | .view _ es => if st = false then some (.int .i64 es.length, [], nx) else none
  | .own _ n => if st = false then some (.int .i64 n, [], nx) else none
  | .owno _ _ _ n => if st = false then some (.int .i64 n, [], nx) else none
  | .nilsl => if st = false then some (.int .i64 0, [], nx) else none
  | .str s => if st = true then some (.int .i64 s.size, [], nx) else none
  | _ => none
 | .app e size bytes s x => match qac2 size g (ev x) with
  | none => none
  | some ys => match ev s with
   | .nilsl => rg (ys.length ≤ maxLen ∧ ys.length * bytes ≤ 140737488355328) (some (.own nx ys.length, [(nx, some (.row e size ys))], nx + 1))
   | .own id n => match g id with
    | some (.row e' size' es) => if e = e' ∧ size = size' ∧ n = es.length then rg (n + ys.length ≤ maxLen ∧ (n + ys.length) * bytes ≤ 140737488355328) (some (.own nx (n + ys.length), [(id, none), (nx, some (.row e size (es ++ ys)))], nx + 1)) else if e = e' ∧ size = size' ∧ n < es.length then rg (n + ys.length ≤ maxLen ∧ (n + ys.length) * bytes ≤ 140737488355328) (some (.own nx (n + ys.length), [(id, none), (nx, some (.row e size (es.take n ++ ys)))], nx + 1)) else none
    | _ => none
   | _ => none
 | .mm max x y => match ev x, ev y with
  | .int k a, .int k' b => if k = k' then some (.int k (if max then (if b > a then b else a) else (if b < a then b else a)), [], nx) else none
  | _, _ => none
 | .mkfn f first cap => some (.fn f (first.map ev) (cap.map ev), [], nx)
 | .b2s x => match qac2 1 g (ev x) with
  | some ys => (qat9 ys).map fun xs => (.str (strOfNums xs), [], nx)
  | none => none
 | .b2b x => match ev x with
  | .own id n => match g id with
   | some (.row e size es) => if size = 1 ∧ 0 < n then some (.own id n, [(id, some (.row e size es))], nx) else none
   | _ => none
  | _ => none
 | .mkifc t x => some (.ifc t (ev x), [], nx)
 | .asrt t z x => match ev x with
  | .niliface => some (.tup [z, .bool false], [], nx)
  | .ifc t' v => some (if t' = t then .tup [v, .bool true] else .tup [z, .bool false], [], nx)
  | _ => none
def cone : Value → Option SV
 | .bool b => some (.bool b)
 | .int k n => some (.int k n)
 | .string s => some (.str s)
 | .pointer none => some .nil
 | .slice none 0 0 => some .nilsl
 | .nilFunc => some .nilfn
 | .nilIface => some .niliface
 | _ => none
def cval : Value → Option SV
 | .agg cs => (cs.toList.mapM cone).map .agg
 | v => cone v
def cx (N : Nat) : Operand → Option SX
 | .tmp t => if t < N then some (.t t) else none
 | .const v => (cval v).map .c
 | .func f => some (.c (.fn (.func f) [] []))
 | _ => none
def cxo (N : Nat) : Option Operand → Option (Option SX)
 | none => some none
 | some y => (cx N y).map some
def qaim (P : Program) (t : TypeId) : Option (List SV) := match P.info? t with
 | some i => match i.zero with
  | some z => if z.cells.size = i.size then z.cells.toList.mapM cone else none
  | none => none
 | none => none
def qag8 (P : Program) (t : TypeId) : Option Bool := match P.underlying t with
 | some (.struct _) | some (.array _ _) => some true
 | some _ => some false
 | none => none
def qab8 (P : Program) (t : TypeId) : Option Nat := (P.info? t).map (·.size)
def zeroV (P : Program) (t : TypeId) : Option SV := match P.info? t with
 | some i => i.zero.bind cval
 | none => none
def qas8 (P : Program) (t : TypeId) (i : Nat) : Option (Nat × Nat × TypeId) := match P.underlying t with
 | some (.struct fs) => match fs[i]? with
  | some f => (qab8 P f.type).map fun n => (f.offset, n, f.type)
  | none => none
 | some (.array n e) => if i < n then (qab8 P e).map fun n => (i * n, n, e) else none
 | _ => none
def qaqo (P : Program) (t : TypeId) : Option (Nat → Option (Nat × Nat)) := match P.underlying t with
 | some (.struct fs) => (fs.toList.mapM fun f => (P.info? f.type).map fun i => (f.offset, i.size)).map fun ps i => ps[i]?
 | some (.array _ e) => (P.info? e).map fun ie i => some (i * ie.size, ie.size)
 | _ => none
def cpart (N : Nat) (pl : Nat → Option (Nat × Nat)) (p : Nat × Operand) : Option (Nat × Nat × SX) := match pl p.1, cx N p.2 with
 | some f, some x => some (f.1, f.2, x)
 | _, _ => none
def qbnb (N : Nat) (p : Nat × Operand) : Option (Nat × SX) := (cx N p.2).map fun x => (p.1, x)
def qag2 (P : Program) (t : TypeId) : Option Nat := match P.underlying t with
 | some .bool => some 0
 | some (.int _) => some 1
 | some .string => some 2
 | _ => none
def flatF (P : Program) : Nat → List Field → Option (List Nat)
 | _, [] => some []
 | i, f :: fs => if f.offset = i ∧ f.name ≠ "_" then (match qag2 P f.type, flatF P (i + 1) fs with
  | some k, some ks => some (k :: ks)
  | _, _ => none) else none
def qba7 (P : Program) (t : TypeId) : Option (List Nat) := match P.underlying t with
 | some (.struct fs) => if !P.stoodInHeld t && !P.eqGuardType P.depth t then flatF P 0 fs.toList else none
 | _ => none
def qbjz (P : Program) (t : TypeId) : Option Nat := match P.underlying t with
 | some .bool => some 0
 | some (.pointer _) => some 1
 | some (.slice _) => some 2
 | some (.func _ _ _) => some 3
 | _ => none
def isInt (P : Program) (t : TypeId) : Bool := match P.underlying t with
 | some (.int _) | some .string => true
 | _ => false
def cbi (P : Program) (N : Nat) : Builtin → List Operand → List TypeId → Option SOp
 | .len, [x], [t] => match P.underlying t with
  | some .string => do some (.len true (← cx N x))
  | some (.slice _) => do some (.len false (← cx N x))
  | some (.array n _) => some (.mv (.c (.int .i64 n)))
  | _ => none
 | .append, [s, x], [t, u] => match P.underlying t with
  | some (.slice e) => do
   let i ← P.info? e
   let _ ← qaim P e
   if t = u ∧ 0 < i.size then some (.app e i.size i.bytes (← cx N s) (← cx N x)) else none
  | _ => none
 | .min, [x, y], _ => do some (.mm false (← cx N x) (← cx N y))
 | .max, [x, y], _ => do some (.mm true (← cx N x) (← cx N y))
 | _, _, _ => none
def cop (P : Program) (N : Nat) (ty : TypeId) : Op → Option SOp
 | .move x | .assign x => do some (.mv (← cx N x))
 | .pick c a b => do some (.pick (← cx N c) (← cx N a) (← cx N b))
 | .alloc t => do some (.alloc t (← qaim P t))
 | .box t x => do some (.box t (← cx N x))
 | .build t ps => do
  let z ← qaim P t
  let pl ← qaqo P t
  let ps ← ps.toList.mapM (cpart N pl)
  some (.build z ps)
 | .buildSlice t n ps => match P.underlying t with
  | some (.slice e) => do
   let z ← qaim P e
   let ps ← ps.toList.mapM (qbnb N)
   let size ← qab8 P e
   if 0 < size ∧ n * size ≤ 2 ^ 20 then some (.mkrow e size n z ps) else none
  | _ => none
 | .load t x => do
  let x ← cx N x
  if ← qag8 P t then some (.loads (← qab8 P t) x) else some (.load x)
 | .store t x v => do some (.store (← qab8 P t) (← cx N x) (← cx N v))
 | .nilCheck x => do some (.nilc (← cx N x))
 | .binOp op t x y _ => do
  let x ← cx N x
  let y ← cx N y
  if isInt P t then some (.bin op x y) else match op with
   | .eql => match qbjz P t with
    | some k => some (.eq k false x y)
    | none => (qba7 P t).map fun ks => .eqs ks false x y
   | .neq => match qbjz P t with
    | some k => some (.eq k true x y)
    | none => (qba7 P t).map fun ks => .eqs ks true x y
   | _ => none
 | .unOp op _ x => do some (.un op (← cx N x))
 | .convert s d x => match P.underlying s, P.underlying d with
  | some (.int _), some (.int k) => do some (.conv k (← cx N x))
  | some (.slice e), some .string => match P.underlying e with
   | some (.int .u8) => do some (.b2s (← cx N x))
   | _ => none
  | some (.slice e), some (.slice _) => match P.underlying e with
   | some (.int .u8) => do
    let x ← cx N x
    if s = d then some (.b2b x) else none
   | _ => none
  | _, _ => none
 | .makeSlice t l c => match P.underlying t with
  | some (.slice e) => do
   let z ← qaim P e
   let i ← P.info? e
   if 0 < i.size then some (.mkslice e i.size i.bytes z (← cx N l) (← cx N c)) else none
  | _ => none
 | .slice t x lo hi none => do
  let x ← cx N x
  let lo ← cxo N lo
  let hi ← cxo N hi
  match P.underlying t with
  | some (.slice e) => do some (.slice (← qab8 P e) x lo hi)
  | some .string => some (.slstr x lo hi)
  | _ => none
 | .fieldAddr t x i => match P.underlying t with
  | some (.struct _) => do
   let f ← qas8 P t i
   if f.2.1 = 0 then none else some (.faddr f.1 (← cx N x))
  | _ => none
 | .field t x i => match P.underlying t with
  | some (.struct _) => do
   let f ← qas8 P t i
   some (.field f.1 (if ← qag8 P f.2.2 then some f.2.1 else none) (← cx N x))
  | _ => none
 | .indexAddr t x i => do
  let x ← cx N x
  let i ← cx N i
  match P.underlying t with
  | some (.slice e) => do some (.iaddr (← qab8 P e) x i)
  | some (.array n e) => do some (.iarr n (← qab8 P e) x i)
  | _ => none
 | .index t x i => do
  let x ← cx N x
  let i ← cx N i
  match P.underlying t with
  | some .string => some (.idxs x i)
  | some (.array n e) => do
   let size ← qab8 P e
   some (.idx n size (if ← qag8 P e then some size else none) x i)
  | _ => none
 | .extract x i => do some (.extr (← cx N x) i)
 | .makeInterface t x => match P.underlying t with
  | some (.interface _) => none
  | some _ => do some (.mkifc t (← cx N x))
  | none => none
 | .typeAssert x _ t true => match P.underlying t with
  | some (.interface _) => none
  | some _ => do some (.asrt t (← zeroV P t) (← cx N x))
  | none => none
 | .makeFunc f first cap => do some (.mkfn f (← first.toList.mapM (cx N)) (← cap.toList.mapM (cx N)))
 | .call { callee := .builtin b, args, argTypes } => cbi P N b args.toList argTypes.toList
 | _ => none
structure SOper where
 dst : Option Nat
 op : SOp
 cal : Option (SX × List SX)
 grd : Option (Nat × Bool)
 bef : Nat
inductive SCode where
 | skip
 | reg (draw : Bool) (ops : List SOper) (live : List Nat)
 | seq (a b : SCode)
 | cond (c : SX) (a b : SCode)
 | block (id : Nat) (a : SCode)
 | loop (a : SCode)
 | exit (id : Nat)
 | ret
def SCode.erase : SCode → SCode
 | .reg d ops _ => .reg d ops []
 | .seq a b => .seq a.erase b.erase
 | .cond c a b => .cond c a.erase b.erase
 | .block id a => .block id a.erase
 | .loop a => .loop a.erase
 | c => c
def cgrd (ops : Array Oper) : Option (Nat × Bool) → Option (Option (Nat × Bool))
 | none => some none
 | some (j, want) => match (ops[j]?).bind (·.dst) with
  | some t => some (some (t, want))
  | none => none
def ccal (N : Nat) (f : Operand) (args : List Operand) : Option (SX × List SX) := match cx N f, args.mapM (cx N) with
 | some f, some l => some (f, l)
 | _, _ => none
abbrev SOp.bad : SOp := .extr (.c .any) 0
def qbnc (P : Program) (N : Nat) (ops : Array Oper) (o : Oper) (b : Nat) : Option SOper :=
 if o.dst.all (· < N) then (match cgrd ops o.guard with
  | none => none
  | some g => match o.op with
   | .call { callee := .value f, args, argTypes := _ } => (ccal N f args.toList).map fun c => ⟨o.dst, .mv (.c .any), some c, g, b⟩
   | .call { callee := .invoke r nm, args, argTypes := _ } => (ccal N r args.toList).map fun c => ⟨o.dst, .mv (.c .any), some (.c (.fn (.method nm) [] []), c.1 :: c.2), g, b⟩
   | op => some ⟨o.dst, (cop P N o.type op).getD SOp.bad, none, g, b⟩) else none
def qaif (P : Program) (N : Nat) (ops : Array Oper) : List Oper → List Nat → Option (List SOper)
 | [], _ => some []
 | o :: os, bs => do some ((← qbnc P N ops o (bs.headD 0)) :: (← qaif P N ops os bs.tail))
def qbbk : Nat → List Oper → Bool
 | _, [] => true
 | i, o :: os => (o.after.toList.all fun e => !Region.binds .any e || decide (e.on < i)) && qbbk (i + 1) os
def qa1m (ops : Array Oper) : Bool := qbbk 0 ops.toList
def comp (P : Program) (N : Nat) : Code → Option SCode
 | .skip => some .skip
 | .region _ ops draw => do
  if draw = false ∨ qa1m ops = true then
   let l ← qaif P N ops ops.toList (if draw then (Region.before ops).toList else [])
   some (.reg draw l [])
  else none
 | .seq a b => do some (.seq (← comp P N a) (← comp P N b))
 | .cond c a b => do some (.cond (← cx N c) (← comp P N a) (← comp P N b))
 | .block id a => do some (.block id (← comp P N a))
 | .loop a => do some (.loop (← comp P N a))
 | .exit id => some (.exit id)
 | .ret => some .ret
 | .label _ => some .skip
 | _ => none
section
def Yld (r : Result Next) (v : Value) (w : World) : Prop := r = .ok (.value v) w ∨ (r = .ok .skip w ∧ v = undef)
structure Pres (w : World) (A : Nat → Prop) (ρ : qact) (w' : World) (A' : Nat → Prop) (ρ' : qact) : Prop where
 step : Step A w w'
 av : ∀ k, A' k → k < w.heap.size → A k
 pl : ∀ id p, ρ id = some p → ρ' id = some p
theorem Pres.refl (w : World) (A : Nat → Prop) (ρ : qact) : Pres w A ρ w A ρ := ⟨.refl _ _, fun _ h _ => h, fun _ _ h => h⟩
theorem Pres.rep {w : World} {A : Nat → Prop} {ρ : qact} {w' : World} {A' : Nat → Prop} {ρ' : qact} (h : Pres w A ρ w' A' ρ') {x : SV} {v : Value} (hx : RepV w A ρ x v) : RepV w' A' ρ' x v := hx.mono h.step h.av h.pl
theorem Pres.reps {w : World} {A : Nat → Prop} {ρ : qact} {w' : World} {A' : Nat → Prop} {ρ' : qact} (h : Pres w A ρ w' A' ρ') {x : List SV} {v : List Value} (hx : Reps w A ρ x v) : Reps w' A' ρ' x v := hx.mono h.step h.av h.pl
def OpOut (X : Cx) (ρ : qact) (fp : Nat → Nat → Prop) (hp : Hp) (w : World) (nx : Nat) (u : Upd) (v : SV) (v' : Value) (w' : World) : Prop :=
 ∃ ρ' fp', SimH X ρ' fp' (upds hp u) w' ∧ RepV w' (Av X (upds hp u) fp') ρ' v v' ∧ Pres w (Av X hp fp) ρ w' (Av X (upds hp u) fp') ρ' ∧ ∀ id, ρ' id ≠ none → ρ id ≠ none ∨ id = nx
theorem OpOut.same {nx : Nat} {X : Cx} {ρ : qact} {fp : Nat → Nat → Prop} {hp : Hp} {w : World} {v : SV} {v' : Value} (h : SimH X ρ fp hp w) (hv : RepV w (Av X hp fp) ρ v v') : OpOut X ρ fp hp w nx [] v v' w :=
 ⟨ρ, fp, h, hv, .refl _ _ _, fun _ h => .inl h⟩
theorem qa1t {w : World} {A : Nat → Prop} {ρ : qact} {v : Value} {x : SV} (h : cone v = some x) : RepV w A ρ x v := by
 unfold cone at h;split at h <;> first | (cases h; constructor) | cases h
theorem qbnd {v : Value} {x : SV} (h : cone v = some x) : v.oneCell' = true := by
 unfold cone at h;split at h <;> first | rfl | cases h
theorem qagj {α β : Type} {f : α → Option β} : ∀ {l : List α} {r : List β}, l.mapM f = some r → r.length = l.length ∧ ∀ (j : Nat) x, l[j]? = some x → ∃ y, r[j]? = some y ∧ f x = some y := by
 intro l;induction l with
 | nil => intro r h; simp at h; subst h; simp
 | cons x l ih =>
  intro r h;rw [List.mapM_cons] at h;simp only [bind, Option.bind_eq_some_iff, pure, Option.some.injEq] at h;obtain ⟨y, hy, r', hr, rfl⟩ := h;obtain ⟨h1, h2⟩ := ih hr;refine ⟨by simp [h1], fun j z hz => ?_⟩;cases j with
  | zero => simp at hz; subst hz; exact ⟨y, rfl, hy⟩
  | succ j => exact h2 j z (by simpa using hz)
theorem qaoa {w : World} {A : Nat → Prop} {ρ : qact} {vs : List Value} {xs : List SV} (h : vs.mapM cone = some xs) : Reps w A ρ xs vs := by
 obtain ⟨h1, h2⟩ := qagj h;refine ⟨h1, fun j x v hx hv => ?_⟩;obtain ⟨y, hy, hc⟩ := h2 j v hv;rw [hx] at hy; cases hy
 exact qa1t hc
theorem qaob {vs : List Value} {xs : List SV} (h : vs.mapM cone = some xs) : Ones vs := by
 obtain ⟨h1, h2⟩ := qagj h;intro v hv;obtain ⟨j, hj⟩ := List.getElem?_of_mem hv;obtain ⟨y, _, hc⟩ := h2 j v hj;exact qbnd hc
theorem qa1r {w : World} {A : Nat → Prop} {ρ : qact} {v : Value} {x : SV} (h : cval v = some x) : RepV w A ρ x v := by
 unfold cval at h;split at h
 ·rename_i cs;simp only [Option.map_eq_some_iff] at h;obtain ⟨xs, hx, rfl⟩ := h;have hr := qaoa (w := w) (A := A) (ρ := ρ) hx;have := RepV.agg (w := w) (A := A) (ρ := ρ) (qaob hx) hr.1 hr.2;simpa using this
 ·exact qa1t h
theorem qaci {w : World} {A : Nat → Prop} {ρ : qact} {N : Nat} {x : Operand} {y : SX} {sl : Sl} {a : Act} (h : cx N x = some y) (hs : ∀ t, RepV w A ρ (gets sl t) (a.tmps.getD t undef)) : RepV w A ρ (y.ev sl) (a.eval x) := by
 unfold cx at h;split at h
 ·split at h
  ·cases h; exact hs _
  ·cases h
 ·simp only [Option.map_eq_some_iff] at h;obtain ⟨v, hv, rfl⟩ := h;exact qa1r hv
 ·cases h
  have := RepV.fn (w := w) (A := A) (ρ := ρ) (f := .func ‹_›) (fs := []) (cs := []) (vs := []) (us := []) rfl rfl (by simp) (by simp);exact this
 ·cases h
theorem qag7 {w : World} {A : Nat → Prop} {ρ : qact} {N : Nat} {xs : List Operand} {ys : List SX} {sl : Sl} {a : Act} (h : xs.mapM (cx N) = some ys) (hs : ∀ t, RepV w A ρ (gets sl t) (a.tmps.getD t undef)) : Reps w A ρ (ys.map (·.ev sl)) (xs.map a.eval) := by
 obtain ⟨h1, h2⟩ := qagj h;refine ⟨by simp [h1], fun j x v hx hv => ?_⟩;simp only [List.getElem?_map, Option.map_eq_some_iff] at hx hv;obtain ⟨y, hy, rfl⟩ := hx;obtain ⟨o, ho, rfl⟩ := hv;obtain ⟨z, hz, hc⟩ := h2 j o ho;rw [hy] at hz; cases hz
 exact qaci hc hs
theorem qagt {P : Program} {t : TypeId} {b : Bool} (h : qag8 P t = some b) (w : World) : (isAgg t).run P w = .ok b w := by
 unfold qag8 at h;split at h
 ·rename_i hu; cases h; simp [isAgg, run_underlying hu]
 ·rename_i hu; cases h; simp [isAgg, run_underlying hu]
 ·rename_i d h1 h2 hu; cases h
  simp only [isAgg, Sem.run_bind, run_underlying hu, Result.andThen_ok];cases d <;> first | rfl | (exfalso; first | exact h1 _ hu | exact h2 _ _ hu)
 ·cases h
theorem qac4 {P : Program} {t : TypeId} {n : Nat} (h : qab8 P t = some n) (w : World) : (sizeOf t).run P w = .ok n w := by
 unfold qab8 at h;simp only [Option.map_eq_some_iff] at h;obtain ⟨i, hi, rfl⟩ := h;simp [sizeOf, typeInfo, hi]
theorem qaeh (b off n : Nat) : (⟨b, off, none⟩ : Addr).add n = ⟨b, off + n, none⟩ := by unfold Addr.add; split <;> simp_all
def POk (P : Program) (w : World) (A : Nat → Prop) (ρ : qact) (a : Act) (op : Op) (v : SV) : Prop := ∃ v', (∀ o : Oper, o.op = op → (execOp a.eval o).run P w = .ok (.value v') w) ∧ RepV w A ρ v v'
variable {P : Program} {w : World} {A : Nat → Prop} {ρ : qact} {N : Nat} {a : Act} {sl : Sl}
theorem RepV.cells {x : SV} {v : Value} {cs : List SV} (h : RepV w A ρ x v) (hc : x.cells? = some cs) : Reps w A ρ cs v.cells.toList ∧ Ones v.cells.toList := by
 cases h with
 | any => simp [SV.cells?] at hc
 | tup => simp [SV.cells?] at hc
 | agg ho hl hh =>
  simp [SV.cells?] at hc; subst hc
  exact ⟨⟨by simpa [Value.cells] using hl, by simpa [Value.cells] using hh⟩, by simpa [Value.cells, Ones] using ho⟩
 | _ =>
  change some _ = some cs at hc
  injection hc with hc; subst hc
  refine ⟨Reps.cons (by first | (constructor; done) | (constructor <;> assumption)) Reps.nil, fun u hu => ?_⟩;simp [Value.cells] at hu; subst hu; rfl
theorem qbmc (hs : ∀ t, RepV w A ρ (gets sl t) (a.tmps.getD t undef)) {x : Operand} {x' : SX} (hx : cx N x = some x') {t : TypeId} {d : TypeDesc} (ht : P.underlying t = some d) (hni : ∀ l, d ≠ .interface l) {g : Nat → Option SObj} {nx nx' : Nat} {v : SV} {u : Upd}
  (h : (SOp.mkifc t x').run (·.ev sl) g nx = some (v, u, nx')) : u = [] ∧ POk P w A ρ a (.makeInterface t x) v := by
 have rx := qaci hx hs;simp only [SOp.run] at h;cases h
 refine ⟨rfl, _, fun o ho => ?_, .ifc rx⟩;cases d <;> first | exact absurd rfl (hni _) | simp [execOp, ho, Instr.makeInterface, run_underlying ht]
theorem ok_asrt (hs : ∀ t, RepV w A ρ (gets sl t) (a.tmps.getD t undef)) {x : Operand} {x' : SX} (hx : cx N x = some x') {t t0 : TypeId} {z : SV} {d : TypeDesc} (ht : P.underlying t = some d) (hni : ∀ l, d ≠ .interface l) (hz : zeroV P t = some z) {g : Nat → Option SObj} {nx nx' : Nat} {v : SV} {u : Upd}
  (h : (SOp.asrt t z x').run (·.ev sl) g nx = some (v, u, nx')) : u = [] ∧ POk P w A ρ a (.typeAssert x t0 t true) v := by
 have rx := qaci hx hs;obtain ⟨i, zv, hi, hzi, hzc⟩ : ∃ i zv, P.info? t = some i ∧ i.zero = some zv ∧ cval zv = some z := by
  unfold zeroV at hz;split at hz
  ·rename_i i hi;obtain ⟨zv, h1, h2⟩ := Option.bind_eq_some_iff.1 hz;exact ⟨i, zv, hi, h1, h2⟩
  ·cases hz
 have rz := qa1r (w := w) (A := A) (ρ := ρ) hzc;have tup : ∀ {y : SV} {vy : Value} {b : Bool}, RepV w A ρ y vy → RepV w A ρ (.tup [y, .bool b]) (.tuple #[vy, .bool b]) := fun {y vy b} hy => .tup (vs := [vy, .bool b]) rfl (Reps.cons hy (Reps.cons .bool Reps.nil)).2
 simp only [SOp.run] at h;generalize hv : a.eval x = vx at rx;split at h
 ·rename_i he;rw [he] at rx;cases rx; cases h
  refine ⟨rfl, .tuple #[zv, .bool false], fun o ho => ?_, tup rz⟩;cases d <;> first | exact absurd rfl (hni _) | simp [execOp, ho, hv, Instr.typeAssert, run_underlying ht, zeroValue, typeInfo, hi, hzi]
 ·rename_i t' y he;rw [he] at rx;cases rx with
  | ifc hy =>
   cases h
   by_cases e : t' = t
   ·rw [if_pos e];refine ⟨rfl, _, fun o ho => ?_, tup hy⟩;cases d <;> first | exact absurd rfl (hni _) | simp [execOp, ho, hv, Instr.typeAssert, run_underlying ht, e]
   ·rw [if_neg e];refine ⟨rfl, .tuple #[zv, .bool false], fun o ho => ?_, tup rz⟩;cases d <;> first | exact absurd rfl (hni _) | simp [execOp, ho, hv, Instr.typeAssert, run_underlying ht, zeroValue, typeInfo, hi, hzi, e]
 ·cases h
theorem ok_mv (hs : ∀ t, RepV w A ρ (gets sl t) (a.tmps.getD t undef)) {x : Operand} {y : SX} (hx : cx N x = some y) : POk P w A ρ a (.move x) (y.ev sl) ∧ POk P w A ρ a (.assign x) (y.ev sl) :=
 ⟨⟨_, fun o ho => by simp [execOp, ho], qaci hx hs⟩, ⟨_, fun o ho => by simp [execOp, ho], qaci hx hs⟩⟩
theorem ok_pick (hs : ∀ t, RepV w A ρ (gets sl t) (a.tmps.getD t undef)) {c x y : Operand} {c' x' y' : SX} (hc : cx N c = some c') (hx : cx N x = some x') (hy : cx N y = some y') {g : Nat → Option SObj} {nx nx' : Nat} {v : SV} {u : Upd}
  (h : (SOp.pick c' x' y').run (·.ev sl) g nx = some (v, u, nx')) : u = [] ∧ POk P w A ρ a (.pick c x y) v := by
 have rc := qaci hc hs;have rx := qaci hx hs;have ry := qaci hy hs;simp only [SOp.run] at h;split at h
 ·rename_i b hb;rw [hb] at rc;have hvc : a.eval c = .bool b := by generalize a.eval c = vc at rc; cases rc; rfl
  have hrun : ∀ o : Oper, o.op = .pick c x y → (execOp a.eval o).run P w = .ok (.value (if b then a.eval x else a.eval y)) w := fun o ho => by
   cases b <;> simp [execOp, ho, hvc, asBool]
  split at h
  ·rename_i p q hp hq;cases h
   rw [hp] at rx; rw [hq] at ry
   refine ⟨rfl, _, hrun, ?_⟩;cases b
   ·simpa using ry
   ·simpa using rx
  ·cases h
   refine ⟨rfl, _, hrun, ?_⟩;cases b
   ·simpa using ry
   ·simpa using rx
 ·cases h
theorem ok_nilc (hs : ∀ t, RepV w A ρ (gets sl t) (a.tmps.getD t undef)) {x : Operand} {x' : SX} (hx : cx N x = some x') {g : Nat → Option SObj} {nx nx' : Nat} {v : SV} {u : Upd}
  (h : (SOp.nilc x').run (·.ev sl) g nx = some (v, u, nx')) : u = [] ∧ POk P w A ρ a (.nilCheck x) v := by
 have rx := qaci hx hs;simp only [SOp.run] at h;split at h <;> first | (cases h; done) | skip
 all_goals
  rename_i he;rw [he] at rx;cases h
  refine ⟨rfl, a.eval x, fun o ho => ?_, rx⟩;simp only [execOp, ho];generalize a.eval x = vx at *;cases rx <;> rfl
theorem ok_conv (hs : ∀ t, RepV w A ρ (gets sl t) (a.tmps.getD t undef)) {x : Operand} {x' : SX} (hx : cx N x = some x') {s d : TypeId} {k : IntKind} {j : IntKind} (h1 : P.underlying s = some (.int j)) (h2 : P.underlying d = some (.int k)) {g : Nat → Option SObj} {nx nx' : Nat} {v : SV} {u : Upd}
  (h : (SOp.conv k x').run (·.ev sl) g nx = some (v, u, nx')) : u = [] ∧ POk P w A ρ a (.convert s d x) v := by
 have rx := qaci hx hs;simp only [SOp.run] at h;split at h
 ·rename_i j' n he;rw [he] at rx;cases h
  refine ⟨rfl, _, fun o ho => ?_, .int⟩;generalize hv : a.eval x = vx at rx;cases rx
  simp [execOp, ho, convert, run_underlying h1, run_underlying h2, Conv.intToInt, hv]
 ·cases h
theorem ok_un (hs : ∀ t, RepV w A ρ (gets sl t) (a.tmps.getD t undef)) {x : Operand} {x' : SX} (hx : cx N x = some x') {op : UnOp} {t : TypeId} {g : Nat → Option SObj} {nx nx' : Nat} {v : SV} {u : Upd}
  (h : (SOp.un op x').run (·.ev sl) g nx = some (v, u, nx')) : u = [] ∧ POk P w A ρ a (.unOp op t x) v := by
 have rx := qaci hx hs;simp only [SOp.run] at h;split at h
 ·rename_i k n he;rw [he] at rx;cases h
  refine ⟨rfl, _, fun o ho => ?_, .int⟩;generalize hv : a.eval x = vx at rx;cases rx
  simp [execOp, ho, Op.unary, Op.intArith, hv]
 ·rename_i k n he;rw [he] at rx;cases h
  refine ⟨rfl, _, fun o ho => ?_, .int⟩;generalize hv : a.eval x = vx at rx;cases rx
  simp [execOp, ho, Op.unary, intBits_xor, hv]
 ·rename_i b he;rw [he] at rx;cases h
  refine ⟨rfl, _, fun o ho => ?_, .bool⟩;generalize hv : a.eval x = vx at rx;cases rx
  simp [execOp, ho, Op.unary, hv]
 ·cases h
theorem ok_extr (hs : ∀ t, RepV w A ρ (gets sl t) (a.tmps.getD t undef)) {x : Operand} {x' : SX} {i : Nat} (hx : cx N x = some x') {g : Nat → Option SObj} {nx nx' : Nat} {v : SV} {u : Upd}
  (h : (SOp.extr x' i).run (·.ev sl) g nx = some (v, u, nx')) : u = [] ∧ POk P w A ρ a (.extract x i) v := by
 have rx := qaci hx hs;simp only [SOp.run] at h;split at h
 ·rename_i vs he;rw [he] at rx;simp only [Option.map_eq_some_iff] at h;obtain ⟨c, hc, h⟩ := h;cases h
  generalize hv : a.eval x = vx at *;cases rx with
  | tup hl hh =>
   rename_i us;obtain ⟨y, hy, hr⟩ := Reps.get ⟨hl, hh⟩ hc;exact ⟨rfl, y, fun o ho => by simp [execOp, ho, hv, Instr.extract, hy], hr⟩
 ·cases h
theorem ok_len (hs : ∀ t, RepV w A ρ (gets sl t) (a.tmps.getD t undef)) {x : Operand} {x' : SX} {t : TypeId} (hx : cx N x = some x') (ht : P.underlying t = some .string ∨ ∃ e, P.underlying t = some (.slice e)) {g : Nat → Option SObj} {nx nx' : Nat} {v : SV} {u : Upd} {st : Bool} (hst : P.underlying t = some .string ↔ st = true)
  (h : (SOp.len st x').run (·.ev sl) g nx = some (v, u, nx')) : u = [] ∧ POk P w A ρ a (.call { callee := .builtin .len, args := #[x], argTypes := #[t] }) v := by
 have rx := qaci hx hs;simp only [SOp.run] at h;split at h;all_goals first | (cases h; done) | skip
 all_goals
  rename_i he;rw [he] at rx;split at h <;> first | (cases h; done) | skip
  rename_i hs';cases h
  generalize hv : a.eval x = vx at rx
 ·obtain ⟨e, ht⟩ : ∃ e, P.underlying t = some (.slice e) := ht.resolve_left fun h => by rw [hst.1 h] at hs'; cases hs'
  cases rx with
  | view0 hc ha => exact ⟨rfl, _, fun o ho => by simp [execOp, ho, hv, resolve, invoke, builtin, Builtin.len_, run_underlying ht, goInt], .int⟩
  | view cv hn hc hm hA hb hz h1 h2 hone => exact ⟨rfl, _, fun o ho => by simp [execOp, ho, hv, resolve, invoke, builtin, Builtin.len_, run_underlying ht, goInt, hn], .int⟩
 ·obtain ⟨e, ht⟩ : ∃ e, P.underlying t = some (.slice e) := ht.resolve_left fun h => by rw [hst.1 h] at hs'; cases hs'
  cases rx <;> exact ⟨rfl, _, fun o ho => by simp [execOp, ho, hv, resolve, invoke, builtin, Builtin.len_, run_underlying ht, goInt], .int⟩
 ·obtain ⟨e, ht⟩ : ∃ e, P.underlying t = some (.slice e) := ht.resolve_left fun h => by rw [hst.1 h] at hs'; cases hs'
  cases rx; exact ⟨rfl, _, fun o ho => by simp [execOp, ho, hv, resolve, invoke, builtin, Builtin.len_, run_underlying ht, goInt], .int⟩
 ·obtain ⟨e, ht⟩ : ∃ e, P.underlying t = some (.slice e) := ht.resolve_left fun h => by rw [hst.1 h] at hs'; cases hs'
  cases rx; exact ⟨rfl, _, fun o ho => by simp [execOp, ho, hv, resolve, invoke, builtin, Builtin.len_, run_underlying ht, goInt], .int⟩
 ·have ht := hst.2 hs';cases rx; exact ⟨rfl, _, fun o ho => by simp [execOp, ho, hv, resolve, invoke, builtin, Builtin.len_, run_underlying ht, goInt], .int⟩
theorem qbmf (hs : ∀ t, RepV w A ρ (gets sl t) (a.tmps.getD t undef)) {x : Operand} {x' : SX} {t : TypeId} {i : Nat} {fs : Array Field} {f : Field} {n : Nat} (hx : cx N x = some x') (ht : P.underlying t = some (.struct fs)) (hf : fs[i]? = some f) (hn : qab8 P f.type = some n) (h0 : n ≠ 0) {g : Nat → Option SObj} {nx nx' : Nat} {v : SV} {u : Upd}
  (h : (SOp.faddr f.offset x').run (·.ev sl) g nx = some (v, u, nx')) : u = [] ∧ POk P w A ρ a (.fieldAddr t x i) v := by
 have rx := qaci hx hs;have hrun : ∀ b off, a.eval x = .pointer (some ⟨b, off, none⟩) → ∀ o : Oper, o.op = .fieldAddr t x i → (execOp a.eval o).run P w = .ok (.value (.pointer (some ⟨b, off + f.offset, none⟩))) w := fun b off hv o ho => by
  have hsz := qac4 hn w;simp [execOp, ho, hv, Instr.fieldAt, run_underlying ht, hf, Instr.sureAddr, fieldPlace, hsz, h0];unfold Addr.add;split <;> simp_all
 simp only [SOp.run] at h;split at h
 ·rename_i id o he;rw [he] at rx;cases h
  generalize hv : a.eval x = vx at *;cases rx with
  | ptr hρ => exact ⟨rfl, _, hrun _ _ rfl, .ptr hρ⟩
 ·rename_i cs he;rw [he] at rx;cases h
  generalize hv : a.eval x = vx at *;cases rx with
  | cp cv hA hb h1 h2 ho =>
   refine ⟨rfl, _, hrun _ _ rfl, .cp (fun j => cv (f.offset + j)) hA hb (fun j y hy => ?_) (fun j y hy => ?_) (fun j y hy => ?_)⟩
   ·rw [List.getElem?_drop] at hy;rw [Nat.add_assoc];exact h1 _ _ hy
   ·rw [List.getElem?_drop] at hy;exact h2 _ _ hy
   ·rw [List.getElem?_drop] at hy;exact ho _ _ hy
 ·rename_i id size k j he;rw [he] at rx;cases h
  generalize hv : a.eval x = vx at *;cases rx with
  | eptr hρ => refine ⟨rfl, _, hrun _ _ rfl, ?_⟩; rw [Nat.add_assoc]; exact .eptr hρ
 ·cases h
theorem qbmd (hs : ∀ t, RepV w A ρ (gets sl t) (a.tmps.getD t undef)) {x i : Operand} {x' i' : SX} {t e : TypeId} {size : Nat} (hx : cx N x = some x') (hi : cx N i = some i') (ht : P.underlying t = some (.slice e)) (hn : qab8 P e = some size) {g : Nat → Option SObj} {nx nx' : Nat} {v : SV} {u : Upd}
  (h : (SOp.iaddr size x' i').run (·.ev sl) g nx = some (v, u, nx')) : u = [] ∧ POk P w A ρ a (.indexAddr t x i) v := by
 have rx := qaci hx hs;have ri := qaci hi hs;simp only [SOp.run] at h;split at h
 ·rename_i k n he;rw [he] at ri;generalize hvi : a.eval i = vi at *;cases ri
  have hrun : ∀ b off ln c, a.eval x = .slice (some ⟨b, off, none⟩) ln c → 0 ≤ n ∧ n < (ln : Int) → ∀ o : Oper, o.op = .indexAddr t x i → (execOp a.eval o).run P w = .ok (.value (.pointer (some ⟨b, off + n.toNat * size, none⟩))) w := fun b off ln c hv hr o ho => by
   have hsz := qac4 hn w;simp [execOp, ho, hv, hvi, Instr.indexAt, run_underlying ht, asIntOf, hr, hsz, qaeh]
  split at h
  ·rename_i size' es he2;rw [he2] at rx;split at h
   ·rename_i hsz;subst hsz;rw [qacw] at h;obtain ⟨hr, h⟩ := h;cases h
    generalize hv : a.eval x = vx at *;cases rx with
    | view0 hc ha => simp at hr; omega
    | view cv hl hc hm hA hb hz h1 h2 ho =>
     rename_i b off m c;obtain ⟨e1, he1⟩ : ∃ e1, es[n.toNat]? = some e1 := ⟨_, List.getElem?_eq_getElem (by omega)⟩
     refine ⟨rfl, _, hrun _ _ _ _ rfl (by omega), ?_⟩;rw [he1];exact .cp (fun j => cv n.toNat j) hA hb (fun j y hy => h1 _ _ _ _ he1 hy) (fun j y hy => h2 _ _ _ _ he1 hy) (fun j y hy => ho _ _ _ _ he1 hy)
   ·cases h
  ·rename_i id m he2;rw [he2] at rx;rw [qacw] at h;obtain ⟨hr, h⟩ := h;cases h
   generalize hv : a.eval x = vx at *;cases rx with
   | own0 hρ => simp at hr; omega
   | own hρ hn' hm =>
    refine ⟨rfl, _, hrun _ _ _ _ rfl hr, ?_⟩;have := RepV.eptr (w := w) (A := A) (size := size) (i := n.toNat) (j := 0) hρ;simpa using this
  ·rename_i id size' off m he2;rw [he2] at rx;split at h
   ·rename_i hsz;subst hsz;rw [qacw] at h;obtain ⟨hr, h⟩ := h;cases h
    generalize hv : a.eval x = vx at *;cases rx with
    | owno hρ hn' hm =>
     refine ⟨rfl, _, hrun _ _ _ _ rfl hr, ?_⟩;have := RepV.eptr (w := w) (A := A) (size := size) (i := off + n.toNat) (j := 0) hρ;rw [Nat.add_zero, Nat.add_mul] at this;exact this
   ·cases h
  ·cases h
 ·cases h
theorem ok_iarr (hs : ∀ t, RepV w A ρ (gets sl t) (a.tmps.getD t undef)) {x i : Operand} {x' i' : SX} {t e : TypeId} {m size : Nat} (hx : cx N x = some x') (hi : cx N i = some i') (ht : P.underlying t = some (.array m e)) (hn : qab8 P e = some size) {g : Nat → Option SObj} {nx nx' : Nat} {v : SV} {u : Upd}
  (h : (SOp.iarr m size x' i').run (·.ev sl) g nx = some (v, u, nx')) : u = [] ∧ POk P w A ρ a (.indexAddr t x i) v := by
 have rx := qaci hx hs;have ri := qaci hi hs;simp only [SOp.run] at h;split at h
 ·rename_i k n he;rw [he] at ri;generalize hvi : a.eval i = vi at *;cases ri
  have hrun : ∀ b off, a.eval x = .pointer (some ⟨b, off, none⟩) → 0 ≤ n ∧ n < (m : Int) → ∀ o : Oper, o.op = .indexAddr t x i → (execOp a.eval o).run P w = .ok (.value (.pointer (some ⟨b, off + n.toNat * size, none⟩))) w := fun b off hv hr o ho => by
   have hsz := qac4 hn w;simp [execOp, ho, hv, hvi, Instr.indexAt, run_underlying ht, asIntOf, hr, hsz, qaeh, Instr.sureAddr]
  split at h
  ·rename_i id off he2;rw [he2] at rx;rw [qacw] at h;obtain ⟨hr, h⟩ := h;cases h
   generalize hv : a.eval x = vx at *;cases rx with
   | ptr hρ => exact ⟨rfl, _, hrun _ _ rfl hr, .ptr hρ⟩
  ·rename_i cs he2;rw [he2] at rx;rw [qacw] at h;obtain ⟨hr, h⟩ := h;cases h
   generalize hv : a.eval x = vx at *;cases rx with
   | cp cv hA hb h1 h2 ho =>
    refine ⟨rfl, _, hrun _ _ rfl hr, .cp (fun j => cv (n.toNat * size + j)) hA hb (fun j y hy => ?_) (fun j y hy => ?_) (fun j y hy => ?_)⟩
    ·rw [List.getElem?_drop] at hy;rw [Nat.add_assoc];exact h1 _ _ hy
    ·rw [List.getElem?_drop] at hy;exact h2 _ _ hy
    ·rw [List.getElem?_drop] at hy;exact ho _ _ hy
  ·rename_i id size' i'' j he2;rw [he2] at rx;rw [qacw] at h;obtain ⟨hr, h⟩ := h;cases h
   generalize hv : a.eval x = vx at *;cases rx with
   | eptr hρ => refine ⟨rfl, _, hrun _ _ rfl hr, ?_⟩; rw [Nat.add_assoc]; exact .eptr hρ
  ·cases h
 ·cases h
theorem ok_bin (hs : ∀ t, RepV w A ρ (gets sl t) (a.tmps.getD t undef)) {x y : Operand} {x' y' : SX} {op : BinOp} {t yt : TypeId} (hx : cx N x = some x') (hy : cx N y = some y') {g : Nat → Option SObj} {nx nx' : Nat} {v : SV} {u : Upd}
  (h : (SOp.bin op x' y').run (·.ev sl) g nx = some (v, u, nx')) : u = [] ∧ POk P w A ρ a (.binOp op t x y yt) v := by
 have rx := qaci hx hs;have ry := qaci hy hs;simp only [SOp.run] at h;split at h
 ·rename_i k n k' m he he2;rw [he] at rx; rw [he2] at ry
  simp only [Option.map_eq_some_iff] at h;obtain ⟨r, hr, h⟩ := h;cases h
  generalize hv : a.eval x = vx at rx;generalize hv2 : a.eval y = vy at ry;cases rx; cases ry
  have hg : (eqGuard op t x y (.int k n) (.int k' m)).run P w = .ok () w := by cases op <;> simp [eqGuard]
  suffices hb : ∃ r', (binOp op t (.int k n) (.int k' m)).run P w = .ok r' w ∧ RepV w A ρ v r' by
   obtain ⟨r', h1, h2⟩ := hb;exact ⟨rfl, r', fun o ho => by simp [execOp, ho, hv, hv2, hg, h1], h2⟩
  cases op <;> simp only [sbin] at hr
  case shl =>
   rw [qacw] at hr;obtain ⟨h0, hr⟩ := hr;cases hr
   exact ⟨_, by simp [binOp, Op.shift, Int.not_lt.2 h0] <;> rfl, .int⟩
  case shr =>
   rw [qacw] at hr;obtain ⟨h0, hr⟩ := hr;cases hr
   refine ⟨_, by simp [binOp, Op.shift, Int.not_lt.2 h0] <;> rfl, ?_⟩;rw [Int.fdiv_eq_ediv_of_nonneg _ (Int.pow_nonneg (by decide))];exact .int
  all_goals
   split at hr
   ·rename_i hk;subst hk;first
    | (rw [qacw] at hr; obtain ⟨h0, hr⟩ := hr; cases hr; exact ⟨_, by simp [binOp, Op.intDiv, h0] <;> rfl, .int⟩)
    | (cases hr; exact ⟨_, by simp [binOp, Op.intArith, intBits_and, intBits_or, intBits_xor, intBits_andNot, Op.intCmp] <;> rfl, by constructor⟩)
   ·cases hr
 ·rename_i s1 s2 he he2;rw [he] at rx; rw [he2] at ry
  generalize hv : a.eval x = vx at rx;generalize hv2 : a.eval y = vy at ry;cases rx; cases ry
  have hg : (eqGuard op t x y (.string s1) (.string s2)).run P w = .ok () w := by cases op <;> simp [eqGuard]
  split at h
  ·rw [qacw] at h;obtain ⟨h0, h⟩ := h;cases h
   refine ⟨rfl, _, fun o ho => ?_, .str⟩;have : ¬ (((s1.size + s2.size : Nat) : Int) > IntKind.i64.max) := by
    simp only [maxLen] at h0;simp [IntKind.max, IntKind.signed, IntKind.bits]; omega
   simp only [execOp, ho, hv, hv2, Sem.run_bind, hg, Result.andThen_ok, binOp, Op.stringOp, if_neg this];rfl
  ·cases h
   exact ⟨rfl, _, fun o ho => by simp [execOp, ho, hv, hv2, hg, binOp, Op.stringOp], .bool⟩
  ·cases h
   exact ⟨rfl, _, fun o ho => by simp [execOp, ho, hv, hv2, hg, binOp, Op.stringOp], .bool⟩
  ·cases h
 ·cases h
theorem ok_mm (hs : ∀ t, RepV w A ρ (gets sl t) (a.tmps.getD t undef)) {x y : Operand} {x' y' : SX} {mx : Bool} {ty : Array TypeId} (hx : cx N x = some x') (hy : cx N y = some y') {g : Nat → Option SObj} {nx nx' : Nat} {v : SV} {u : Upd}
  (h : (SOp.mm mx x' y').run (·.ev sl) g nx = some (v, u, nx')) : u = [] ∧ POk P w A ρ a (.call { callee := .builtin (if mx then .max else .min), args := #[x, y], argTypes := ty }) v := by
 have rx := qaci hx hs;have ry := qaci hy hs;simp only [SOp.run] at h;split at h
 ·rename_i k n k' m he he2;rw [he] at rx; rw [he2] at ry
  split at h
  ·cases h
   generalize hv : a.eval x = vx at rx;generalize hv2 : a.eval y = vy at ry;cases rx; cases ry
   refine ⟨rfl, _, fun o ho => ?_, .int⟩;cases mx <;> simp [execOp, ho, hv, hv2, resolve, invoke, builtin, Builtin.min_, Builtin.max_, Builtin.min2, Builtin.max2]
  ·cases h
 ·cases h
theorem ok_idxs (hs : ∀ t, RepV w A ρ (gets sl t) (a.tmps.getD t undef)) {x i : Operand} {x' i' : SX} {t : TypeId} (hx : cx N x = some x') (hi : cx N i = some i') (ht : P.underlying t = some .string) {g : Nat → Option SObj} {nx nx' : Nat} {v : SV} {u : Upd}
  (h : (SOp.idxs x' i').run (·.ev sl) g nx = some (v, u, nx')) : u = [] ∧ POk P w A ρ a (.index t x i) v := by
 have rx := qaci hx hs;have ri := qaci hi hs;simp only [SOp.run] at h;split at h
 ·rename_i k n he;rw [he] at ri;generalize hvi : a.eval i = vi at ri;cases ri
  split at h
  ·rename_i st he2;rw [he2] at rx;generalize hv : a.eval x = vx at rx;cases rx
   rw [qacw] at h;obtain ⟨h0, h⟩ := h;split at h
   ·rename_i b hb;cases h
    exact ⟨rfl, _, fun o ho => by simp [execOp, ho, hv, hvi, Instr.index, asIntOf, run_underlying ht, h0, hb], .int⟩
   ·cases h
  ·cases h
 ·cases h
theorem qa0b {e : TypeId} {b : Bool} {n : Nat} (hb : qag8 P e = some b) (hn : qab8 P e = some n) {vs : Array Value} {cs : List SV} (hr : Reps w A ρ cs vs.toList) (ho : Ones vs.toList) {off : Nat} {v : SV} (hv : if b then off + n ≤ cs.length ∧ v = .agg ((cs.drop off).take n) else cs[off]? = some v) :
  ∃ v', (part e vs off).run P w = .ok v' w ∧ RepV w A ρ v v' := by
 have hl : cs.length = vs.size := by simpa using hr.1
 cases b with
 | true =>
  obtain ⟨h1, rfl⟩ := by simpa using hv
  refine ⟨.agg (vs.extract off (off + n)), by simp [part, qagt hb w, qac4 hn w], ?_⟩;have h2 : vs.extract off (off + n) = ((vs.toList.drop off).take n).toArray := by
   apply Array.ext';simp [List.extract_eq_take_drop]
  rw [h2];refine .agg (fun v hv => ho v (List.mem_of_mem_drop (List.mem_of_mem_take hv))) (by simp [hl]) fun j x v hx hv => ?_
  rw [List.getElem?_take] at hx hv;split at hx
  ·rename_i hj;rw [if_pos hj] at hv;rw [List.getElem?_drop] at hx hv;exact hr.2 _ _ _ hx hv
  ·cases hx
 | false =>
  simp only [Bool.false_eq_true, if_false] at hv;obtain ⟨v', h1, h2⟩ := hr.get hv;refine ⟨v', ?_, h2⟩;have : vs[off]? = some v' := by simpa using h1
  simp [part, qagt hb w, this]
theorem qbme (hs : ∀ t, RepV w A ρ (gets sl t) (a.tmps.getD t undef)) {x : Operand} {x' : SX} {t : TypeId} {i : Nat} {fs : Array Field} {f : Field} {n : Nat} {b : Bool} (hx : cx N x = some x') (ht : P.underlying t = some (.struct fs)) (hf : fs[i]? = some f) (hn : qab8 P f.type = some n) (hb : qag8 P f.type = some b) {g : Nat → Option SObj} {nx nx' : Nat} {v : SV} {u : Upd}
  (h : (SOp.field f.offset (if b then some n else none) x').run (·.ev sl) g nx = some (v, u, nx')) : u = [] ∧ POk P w A ρ a (.field t x i) v := by
 have rx := qaci hx hs;simp only [SOp.run] at h;split at h
 ·rename_i cs he;rw [he] at rx;generalize hv : a.eval x = vx at rx;cases rx with
  | agg hone hl hh =>
   rename_i vs;have hr : Reps w A ρ cs (vs.toArray).toList := by show Reps w A ρ cs vs; exact ⟨hl, hh⟩
   have key : u = [] ∧ (if b then f.offset + n ≤ cs.length ∧ v = .agg ((cs.drop f.offset).take n) else cs[f.offset]? = some v) := by
    cases b with
    | true =>
     simp only [if_true] at h;split at h
     ·cases h; exact ⟨rfl, by simpa using ‹_›⟩
     ·cases h
    | false =>
     simp only [Bool.false_eq_true, if_false, Option.map_eq_some_iff] at h;obtain ⟨c, hc, h⟩ := h;cases h; exact ⟨rfl, by simpa using hc⟩
   obtain ⟨rfl, key⟩ := key;obtain ⟨v', h1, h2⟩ := qa0b hb hn hr hone key;exact ⟨rfl, v', fun o ho => by simp [execOp, ho, hv, Instr.field, run_underlying ht, hf, asAgg, h1], h2⟩
 ·cases h
theorem ok_idx (hs : ∀ t, RepV w A ρ (gets sl t) (a.tmps.getD t undef)) {x i : Operand} {x' i' : SX} {t e : TypeId} {m n : Nat} {b : Bool} (hx : cx N x = some x') (hi : cx N i = some i') (ht : P.underlying t = some (.array m e)) (hn : qab8 P e = some n) (hb : qag8 P e = some b) {g : Nat → Option SObj} {nx nx' : Nat} {v : SV} {u : Upd}
  (h : (SOp.idx m n (if b then some n else none) x' i').run (·.ev sl) g nx = some (v, u, nx')) : u = [] ∧ POk P w A ρ a (.index t x i) v := by
 have rx := qaci hx hs;have ri := qaci hi hs;simp only [SOp.run] at h;split at h
 ·rename_i k q he0;rw [he0] at ri;generalize hvi : a.eval i = vi at ri;cases ri
  split at h
  ·rename_i cs he;rw [he] at rx;generalize hv : a.eval x = vx at rx;cases rx with
   | agg hone hl hh =>
    rename_i vs;rw [qacw] at h;obtain ⟨h0, h⟩ := h;have hr : Reps w A ρ cs (vs.toArray).toList := by show Reps w A ρ cs vs; exact ⟨hl, hh⟩
    have key : u = [] ∧ (if b then q.toNat * n + n ≤ cs.length ∧ v = .agg ((cs.drop (q.toNat * n)).take n) else cs[q.toNat * n]? = some v) := by
     cases b with
     | true =>
      simp only [if_true] at h;rw [qacw] at h;obtain ⟨h1, h⟩ := h;cases h; exact ⟨rfl, by simpa using h1⟩
     | false =>
      simp only [Bool.false_eq_true, if_false, Option.map_eq_some_iff] at h;obtain ⟨c, hc, h⟩ := h;cases h; exact ⟨rfl, by simpa using hc⟩
    obtain ⟨rfl, key⟩ := key;obtain ⟨v', h1, h2⟩ := qa0b hb hn hr hone key;exact ⟨rfl, v', fun o ho => by simp [execOp, ho, hv, hvi, Instr.index, run_underlying ht, asIntOf, h0, qac4 hn w, h1], h2⟩
  ·cases h
 ·cases h
theorem qaq0 {t : TypeId} (hb : qag8 P t = some false) {b off : Nat} {v : Value} (hc : w.cell? ⟨b, off, none⟩ = some v) {x : Operand} (hx : a.eval x = .pointer (some ⟨b, off, none⟩)) : ∀ o : Oper, o.op = .load t x → (execOp a.eval o).run P w = .ok (.value v) w := fun o ho => by
 simp [execOp, ho, hx, Instr.loadAt, Instr.sureAddr, loadVar, qagt hb w, load, Sem.run, hc]
theorem qamg {t : TypeId} (hb : qag8 P t = some true) {b off : Nat} {vs : List Value} (hn : qab8 P t = some vs.length) (hc : ∀ (j : Nat) v, vs[j]? = some v → w.cell? ⟨b, off + j, none⟩ = some v) {x : Operand} (hx : a.eval x = .pointer (some ⟨b, off, none⟩)) : ∀ o : Oper, o.op = .load t x → (execOp a.eval o).run P w = .ok (.value (.agg vs.toArray)) w := fun o ho => by
 have := run_loadCells_list (P := P) w ⟨b, off, none⟩ vs fun j v hv => by rw [qaeh]; exact hc j v hv
 simp [execOp, ho, hx, Instr.loadAt, Instr.sureAddr, loadVar, qagt hb w, qac4 hn w, this]
theorem Reps.sub {cs : List SV} {vs : List Value} (h : Reps w A ρ cs vs) (off n : Nat) : Reps w A ρ ((cs.drop off).take n) ((vs.drop off).take n) := by
 refine ⟨by simp [h.1], fun j x v hx hv => ?_⟩;rw [List.getElem?_take] at hx hv;split at hx
 ·rename_i hj;rw [if_pos hj] at hv;rw [List.getElem?_drop] at hx hv;exact h.2 _ _ _ hx hv
 ·cases hx
theorem RepV.lift {x : SV} {v : Value} (h : RepV w A noPl x v) : RepV w A ρ x v := h.mono (.refl _ _) (fun _ h _ => h) fun _ _ h => by cases h
theorem qah9 {size : Nat} : ∀ {es : List (List SV)} (_ : ∀ e ∈ es, e.length = size) {i : Nat} {e : List SV} (_ : es[i]? = some e) {j : Nat} {x : SV} (_ : e[j]? = some x), es.flatten[i * size + j]? = some x := by
 intro es;induction es with
 | nil => intro _ i e he; simp at he
 | cons d es ih =>
  intro hz i e he j x hx;have hd : d.length = size := hz d (by simp);cases i with
  | zero =>
   simp at he; subst he
   have hj : j < d.length := (List.getElem?_eq_some_iff.1 hx).1;rw [List.flatten_cons, Nat.zero_mul, Nat.zero_add, List.getElem?_append_left hj]; exact hx
  | succ i =>
   have hlt : d.length ≤ (i + 1) * size + j := by rw [Nat.add_mul]; omega
   rw [List.flatten_cons, List.getElem?_append_right hlt, hd, show (i + 1) * size + j - size = i * size + j by rw [Nat.add_mul]; omega];exact ih (fun e he => hz e (by simp [he])) (by simpa using he) hx
theorem qadu {size : Nat} : ∀ {es : List (List SV)} (_ : ∀ e ∈ es, e.length = size), es.flatten.length = es.length * size := by
 intro es;induction es with
 | nil => simp
 | cons d es ih =>
  intro hz;rw [List.flatten_cons, List.length_append, ih (fun e he => hz e (by simp [he])), hz d (by simp), List.length_cons, Nat.add_mul]; omega
theorem qaez {e size n : Nat} {v : Value} {vs : List Value} (h : RowP w e size v n vs) {b c : Nat} (hp : qad9 v = some (b, c)) : v = .slice (some ⟨b, 0, none⟩) n c ∧ (∀ (j : Nat) u, vs[j]? = some u → w.cell? ⟨b, j, none⟩ = some u) ∧ b < w.heap.size ∧ n ≤ c ∧ c ≤ maxLen := by
 obtain ⟨h1, h2⟩ := h;rcases h2 with ⟨rfl, _⟩ | ⟨g, cap, cur, fz, rfl, hg, _, hn, hm, hcs, ht⟩
 ·cases hp
 ·cases hp
  refine ⟨rfl, fun j u hu => ?_, (Array.getElem?_eq_some_iff.1 hg).1, hn, hm⟩;rw [cell_of_row w g j cur e fz hg];rw [← ht, List.getElem?_take] at hu;split at hu
  ·simpa using hu
  ·cases hu
theorem qbjf (hs : ∀ t, RepV w A ρ (gets sl t) (a.tmps.getD t undef)) {hp : Hp} (hobj : ∀ id o, geth hp id = some o → ∃ fp, ObjRep w A ρ id fp o) {x : Operand} {x' : SX} {t : TypeId} (hx : cx N x = some x') (hb : qag8 P t = some false) {nx nx' : Nat} {v : SV} {u : Upd}
  (h : (SOp.load x').run (·.ev sl) (geth hp) nx = some (v, u, nx')) : u = [] ∧ POk P w A ρ a (.load t x) v := by
 have rx := qaci hx hs;simp only [SOp.run] at h;split at h
 ·rename_i c cs he;rw [he] at rx;cases h
  generalize hv : a.eval x = vx at rx;cases rx with
  | cp cv hA hb' h1 h2 ho => exact ⟨rfl, cv 0, qaq0 hb (by simpa using h1 0 v rfl) hv, (h2 0 v rfl).lift⟩
 ·rename_i id off he;rw [he] at rx;generalize hv : a.eval x = vx at rx;cases rx with
  | ptr hρ =>
   rename_i b c;split at h
   ·rename_i t' cs hg;obtain ⟨fp, b', c', vs, hρ', hbl, ⟨hr, hone⟩, _⟩ := hobj _ _ hg;rw [hρ] at hρ'; cases hρ'
    simp only [Option.map_eq_some_iff] at h;obtain ⟨y, hy, h⟩ := h;cases h
    obtain ⟨v', h1, h2⟩ := hr.get hy;exact ⟨rfl, v', qaq0 hb (by rw [hbl.cell]; simpa using h1) hv, h2⟩
   ·cases h
 ·rename_i id size i j he;rw [he] at rx;generalize hv : a.eval x = vx at rx;cases rx with
  | eptr hρ =>
   rename_i b c;split at h
   ·rename_i e size' es hg;obtain ⟨fp, v0, vs, how, ⟨hr, hone⟩, hz, hρ', _⟩ := hobj _ _ hg;rw [hρ] at hρ';have hp : qad9 v0 = some (b, c) := (Option.some.inj hρ').symm;split at h
    ·rename_i hsz;obtain ⟨rfl, hj⟩ := hsz;simp only [Option.map_eq_some_iff] at h;obtain ⟨y, hy, h⟩ := h;cases h
     simp only [Option.bind_eq_some_iff] at hy;obtain ⟨e1, he1, hy⟩ := hy;obtain ⟨v', h1, h2⟩ := hr.get (qah9 hz he1 hy);obtain ⟨_, hc, _⟩ := qaez how hp;exact ⟨rfl, v', qaq0 hb (hc _ _ h1) hv, h2⟩
    ·cases h
   ·cases h
 ·cases h
theorem qa0f (hs : ∀ t, RepV w A ρ (gets sl t) (a.tmps.getD t undef)) {hp : Hp} (hobj : ∀ id o, geth hp id = some o → ∃ fp, ObjRep w A ρ id fp o) {x : Operand} {x' : SX} {t : TypeId} {n : Nat} (hx : cx N x = some x') (hb : qag8 P t = some true) (hn : qab8 P t = some n) {nx nx' : Nat} {v : SV} {u : Upd}
  (h : (SOp.loads n x').run (·.ev sl) (geth hp) nx = some (v, u, nx')) : u = [] ∧ POk P w A ρ a (.load t x) v := by
 have rx := qaci hx hs;simp only [SOp.run] at h;split at h
 ·rename_i cs he;rw [he] at rx;generalize hv : a.eval x = vx at rx;split at h
  ·rename_i hle;cases h
   cases rx with
   | cp cv hA hb' h1 h2 ho =>
    have hlen : ((List.range n).map cv).length = n := by simp
    have hg : ∀ (j : Nat) u, ((List.range n).map cv)[j]? = some u → j < n ∧ u = cv j := fun j u hu => by
     simp only [List.getElem?_map, Option.map_eq_some_iff] at hu;obtain ⟨k, hk, rfl⟩ := hu;obtain ⟨h1, h2⟩ := List.getElem?_eq_some_iff.1 hk;simp at h1 h2; subst h2; exact ⟨h1, rfl⟩
    refine ⟨rfl, _, qamg hb (by rw [hlen]; exact hn) (fun j u hu => ?_) hv, .agg (fun u hu => by obtain ⟨j, hj⟩ := List.getElem?_of_mem hu; obtain ⟨hj, rfl⟩ := hg j u hj; exact ho j cs[j] (List.getElem?_eq_getElem (by omega))) (by simp; omega) fun j y u hy hu => ?_⟩
    ·obtain ⟨hj, rfl⟩ := hg j u hu;exact h1 j cs[j] (List.getElem?_eq_getElem (by omega))
    ·obtain ⟨hj, rfl⟩ := hg j u hu;rw [List.getElem?_take, if_pos hj] at hy;exact (h2 j y hy).lift
  ·cases h
 ·rename_i id off he;rw [he] at rx;generalize hv : a.eval x = vx at rx;cases rx with
  | ptr hρ =>
   rename_i b c;split at h
   ·rename_i t' cs hg;obtain ⟨fp, b', c', vs, hρ', hbl, ⟨hr, hone⟩, _⟩ := hobj _ _ hg;rw [hρ] at hρ'; cases hρ'
    split at h
    ·rename_i hle;cases h
     have hsub := hr.sub off n;have hlen : ((vs.drop off).take n).length = n := by have := hr.1; simp; omega
     refine ⟨rfl, _, qamg hb (by rw [hlen]; exact hn) (fun j u hu => ?_) hv, .agg (fun v hv => hone v (List.mem_of_mem_drop (List.mem_of_mem_take hv))) hsub.1 hsub.2⟩;rw [List.getElem?_take] at hu;split at hu
     ·rw [List.getElem?_drop] at hu;rw [hbl.cell]; simpa using hu
     ·cases hu
    ·cases h
   ·cases h
 ·rename_i id size i j he;rw [he] at rx;generalize hv : a.eval x = vx at rx;cases rx with
  | eptr hρ =>
   rename_i b c;split at h
   ·rename_i e size' es hg;obtain ⟨fp, v0, vs, how, ⟨hr, hone⟩, hz, hρ', _⟩ := hobj _ _ hg;rw [hρ] at hρ';have hp : qad9 v0 = some (b, c) := (Option.some.inj hρ').symm;split at h
    ·rename_i hsz;obtain ⟨rfl, hj⟩ := hsz;simp only [Option.map_eq_some_iff] at h;obtain ⟨e1, he1, h⟩ := h;cases h
     obtain ⟨_, hc, _⟩ := qaez how hp;have hel : e1.length = size := hz e1 (List.mem_of_getElem? he1);have hsub := hr.sub (i * size + j) n;have hil : i < es.length := (List.getElem?_eq_some_iff.1 he1).1;have hfl := qadu hz;have hroom : (i + 1) * size ≤ es.length * size := Nat.mul_le_mul_right _ hil;rw [Nat.add_mul, Nat.one_mul] at hroom;have hlen : ((vs.drop (i * size + j)).take n).length = n := by have := hr.1; simp; omega
     have hcs : (es.flatten.drop (i * size + j)).take n = (e1.drop j).take n := by
      apply List.ext_getElem?;intro k;rw [List.getElem?_take, List.getElem?_take];split
      ·rename_i hk;rw [List.getElem?_drop, List.getElem?_drop, Nat.add_assoc];have : j + k < e1.length := by omega
       rw [List.getElem?_eq_getElem this];exact qah9 hz he1 (List.getElem?_eq_getElem this)
      ·rfl
     rw [hcs] at hsub;refine ⟨rfl, _, qamg hb (by rw [hlen]; exact hn) (fun k u hu => ?_) hv, .agg (fun v hv => hone v (List.mem_of_mem_drop (List.mem_of_mem_take hv))) hsub.1 hsub.2⟩;rw [List.getElem?_take] at hu;split at hu
     ·rw [List.getElem?_drop] at hu;exact hc _ _ hu
     ·cases hu
    ·cases h
   ·cases h
 ·cases h
theorem qai4 {t : TypeId} {vx vy : Value} {b : Bool} (h : ∀ d, (Op.equalIn (d + 1) t vx vy).run P w = .ok b w) (hb : ∀ op, op = .eql ∨ op = .neq → binOp op t vx vy = if op = .eql then (do pure (.bool (← Op.equal t vx vy))) else (do pure (.bool (!(← Op.equal t vx vy))))) :
  (binOp .eql t vx vy).run P w = .ok (.bool b) w ∧ (binOp .neq t vx vy).run P w = .ok (.bool (!b)) w := by
 have he : (Op.equal t vx vy).run P w = .ok b w := h 9999;refine ⟨?_, ?_⟩
 ·rw [hb .eql (.inl rfl), if_pos rfl];simp only [Sem.run_bind, he, Result.andThen_ok, Sem.run_pure]
 ·rw [hb .neq (.inr rfl), if_neg (by decide)];simp only [Sem.run_bind, he, Result.andThen_ok, Sem.run_pure]
theorem eq0_run {k : Nat} {t : TypeId} (hk : qbjz P t = some k) {x y : SV} {b : Bool} (h : eq0 k x y = some b) {vx vy : Value} (rx : RepV w A ρ x vx) (ry : RepV w A ρ y vy) :
  ((binOp .eql t vx vy).run P w = .ok (.bool b) w ∧ (binOp .neq t vx vy).run P w = .ok (.bool (!b)) w) ∧ ∀ op X Y, (eqGuard op t X Y vx vy).run P w = .ok () w := by
 unfold eq0 at h;split at h;all_goals first | (cases h; done) | skip
 all_goals cases h
 ·have hu : P.underlying t = some .bool := by unfold qbjz at hk; split at hk <;> first | assumption | cases hk
  cases rx; cases ry
  exact ⟨qai4 (fun d => by simp [Op.equalIn, run_underlying hu]) (by rintro op (rfl | rfl) <;> rfl), fun op X Y => by cases op <;> simp [eqGuard]⟩
 iterate 7
  ·obtain ⟨e, hu⟩ : ∃ e, P.underlying t = some (.pointer e) := by unfold qbjz at hk; split at hk <;> first | exact ⟨_, by assumption⟩ | cases hk
   cases rx; cases ry
   exact ⟨qai4 (fun d => by simp [Op.equalIn, run_underlying hu]) (by rintro op (rfl | rfl) <;> rfl), fun op X Y => by cases op <;> simp [eqGuard]⟩
 iterate 4
  ·obtain ⟨e, hu⟩ : ∃ e, P.underlying t = some (.slice e) := by unfold qbjz at hk; split at hk <;> first | exact ⟨_, by assumption⟩ | cases hk
   cases rx; cases ry
   exact ⟨qai4 (fun d => by simp [Op.equalIn, run_underlying hu]) (by rintro op (rfl | rfl) <;> rfl), fun op X Y => by cases op <;> simp [eqGuard]⟩
 iterate 3
  ·obtain ⟨e, r, u, hu⟩ : ∃ e r u, P.underlying t = some (.func e r u) := by unfold qbjz at hk; split at hk <;> first | exact ⟨_, _, _, by assumption⟩ | cases hk
   cases rx; cases ry
   exact ⟨qai4 (fun d => by simp [Op.equalIn, run_underlying hu]) (by rintro op (rfl | rfl) <;> rfl), fun op X Y => by cases op <;> simp [eqGuard]⟩
end
section
variable {P : Program} {w : World} {A : Nat → Prop} {ρ : qact} {N : Nat} {a : Act} {sl : Sl}
theorem ok_eq (hs : ∀ t, RepV w A ρ (gets sl t) (a.tmps.getD t undef)) {x y : Operand} {x' y' : SX} {neg : Bool} {k : Nat} {t yt : TypeId} (hx : cx N x = some x') (hy : cx N y = some y') (hk : qbjz P t = some k) {g : Nat → Option SObj} {nx nx' : Nat} {v : SV} {u : Upd}
  (h : (SOp.eq k neg x' y').run (·.ev sl) g nx = some (v, u, nx')) : u = [] ∧ POk P w A ρ a (.binOp (if neg then .neq else .eql) t x y yt) v := by
 have rx := qaci hx hs;have ry := qaci hy hs;simp only [SOp.run, Option.map_eq_some_iff] at h;obtain ⟨b, hb, h⟩ := h;cases h
 obtain ⟨⟨h1, h2⟩, h3⟩ := eq0_run hk hb rx ry;refine ⟨rfl, _, fun o ho => ?_, .bool⟩;cases neg
 ·simp [execOp, ho, h3, h1]
 ·simp [execOp, ho, h3, h2]
theorem eq1_run {k d : Nat} {t : TypeId} (hk : qag2 P t = some k) {x y : SV} {b : Bool} (h : eq1 k x y = some b) {vx vy : Value} (rx : RepV w A ρ x vx) (ry : RepV w A ρ y vy) : (Op.equalIn (d + 1) t vx vy).run P w = .ok b w := by
 unfold eq1 at h;split at h
 ·cases h
  have hu : P.underlying t = some .bool := by unfold qag2 at hk; split at hk <;> first | assumption | cases hk
  cases rx; cases ry
  simp [Op.equalIn, run_underlying hu]
 ·split at h
  ·rename_i hkk;cases h
   obtain ⟨j, hu⟩ : ∃ j, P.underlying t = some (.int j) := by unfold qag2 at hk; split at hk <;> first | exact ⟨_, by assumption⟩ | cases hk
   cases rx; cases ry
   subst hkk;simp [Op.equalIn, run_underlying hu]
  ·cases h
 ·cases h
  have hu : P.underlying t = some .string := by unfold qag2 at hk; split at hk <;> first | assumption | cases hk
  cases rx; cases ry
  simp [Op.equalIn, run_underlying hu, beq_toListBytes]
 ·cases h
theorem qakr {k : Nat} {t : TypeId} (hk : qag2 P t = some k) {vs : Array Value} {i : Nat} {v : Value} (hv : vs[i]? = some v) : (part t vs i).run P w = .ok v w := by
 have : qag8 P t = some false := by
  unfold qag2 at hk;unfold qag8;split at hk <;> first | (rename_i hu; rw [hu]) | cases hk
 simp [part, qagt this w, hv]
theorem eqF_run {d : Nat} {xs ys : Array Value} : ∀ (fs : List Field) (i : Nat) (ks : List Nat), flatF P i fs = some ks → ∀ (cs ds : List SV) (b : Bool), eqL ks cs ds = some b →
  (∀ (j : Nat) x, cs[j]? = some x → ∃ v, xs[i + j]? = some v ∧ RepV w A ρ x v) → (∀ (j : Nat) x, ds[j]? = some x → ∃ v, ys[i + j]? = some v ∧ RepV w A ρ x v) → (Op.eqFields (d + 1) xs ys fs).run P w = .ok b w := by
 intro fs;induction fs with
 | nil =>
  intro i ks hk cs ds b h _ _;cases hk
  cases cs <;> cases ds <;> simp [eqL] at h
  subst h; rfl
 | cons f fs ih =>
  intro i ks hk cs ds b h hx hy;simp only [flatF] at hk;split at hk
  ·rename_i hf;obtain ⟨h0, hn⟩ := hf;split at hk
   ·rename_i k ks' h1 h2;cases hk
    cases cs with
    | nil => simp [eqL] at h
    | cons c cs =>
     cases ds with
     | nil => simp [eqL] at h
     | cons e ds =>
      simp only [eqL] at h;split at h
      ·rename_i p q hp hq;cases h
       obtain ⟨vc, hvc, rc⟩ := hx 0 c rfl;obtain ⟨ve, hve, re⟩ := hy 0 e rfl;have r1 : (part f.type xs f.offset).run P w = .ok vc w := qakr h1 (by rw [h0]; simpa using hvc);have r2 : (part f.type ys f.offset).run P w = .ok ve w := qakr h1 (by rw [h0]; simpa using hve);have r3 := eq1_run (d := d) h1 hp rc re;have r4 := ih (i + 1) ks' h2 cs ds q hq (fun j x hj => by have := hx (j + 1) x (by simpa using hj); rwa [show i + 1 + j = i + (j + 1) by omega]) (fun j x hj => by have := hy (j + 1) x (by simpa using hj); rwa [show i + 1 + j = i + (j + 1) by omega]);simp only [Op.eqFields, if_pos hn, Sem.run_bind, r1, r2, r3, Result.andThen_ok];cases p
       ·simp
       ·simpa using r4
      ·cases h
   ·cases hk
  ·cases hk
theorem ok_eqs (hs : ∀ t, RepV w A ρ (gets sl t) (a.tmps.getD t undef)) {x y : Operand} {x' y' : SX} {neg : Bool} {ks : List Nat} {t yt : TypeId} (hx : cx N x = some x') (hy : cx N y = some y') (hk : qba7 P t = some ks) {g : Nat → Option SObj} {nx nx' : Nat} {v : SV} {u : Upd}
  (h : (SOp.eqs ks neg x' y').run (·.ev sl) g nx = some (v, u, nx')) : u = [] ∧ POk P w A ρ a (.binOp (if neg then .neq else .eql) t x y yt) v := by
 have rx := qaci hx hs;have ry := qaci hy hs;simp only [SOp.run] at h;split at h
 ·rename_i cs ds he he2;rw [he] at rx; rw [he2] at ry
  simp only [Option.map_eq_some_iff] at h;obtain ⟨b, hb, h⟩ := h;cases h
  unfold qba7 at hk;split at hk
  ·rename_i fs hu;split at hk
   ·rename_i hc;simp only [Bool.and_eq_true, Bool.not_eq_true'] at hc;generalize hv : a.eval x = vx at rx;generalize hv2 : a.eval y = vy at ry;cases rx with
    | agg hone hl hh =>
     rename_i vs;cases ry with
     | agg hone2 hl2 hh2 =>
      rename_i us;have hfo : P.fieldsOf t = fs := by simp [Program.fieldsOf, hu]
      have hrun : (Op.equalIn 10000 t (.agg vs.toArray) (.agg us.toArray)).run P w = .ok b w := by
       rw [show (10000 : Nat) = 9998 + 1 + 1 from rfl, run_equalIn_struct w _ t _ _ (by rw [hfo]; exact hu) hc.1, hfo];refine eqF_run (A := A) (ρ := ρ) fs.toList 0 ks hk cs ds b hb (fun j x hj => ?_) (fun j x hj => ?_)
       ·obtain ⟨v, h1, h2⟩ := Reps.get ⟨hl, hh⟩ hj;exact ⟨v, by simpa using h1, h2⟩
       ·obtain ⟨v, h1, h2⟩ := Reps.get ⟨hl2, hh2⟩ hj;exact ⟨v, by simpa using h1, h2⟩
      refine ⟨rfl, _, fun o ho => ?_, .bool⟩;cases neg
      ·simp [execOp, ho, hv, hv2, run_eqGuard_agg w _ t _ _ _ _ hc.2, run_eql_struct, hrun]
      ·simp [execOp, ho, hv, hv2, run_eqGuard_agg w _ t _ _ _ _ hc.2, run_neq_struct, hrun]
   ·cases hk
  ·cases hk
 ·cases h
theorem RepV.cut {size : Nat} {es : List (List SV)} {b : Option Addr} {n c l h : Nat} (hr : RepV w A ρ (.view size es) (.slice b n c)) (hl : l ≤ h) (hh : h ≤ es.length) :
  RepV w A ρ (.view size ((es.take h).drop l)) (.slice (if c = l then b else b.map (·.add (l * size))) (h - l) (c - l)) := by
 cases hr with
 | view0 hc ha =>
  simp at hh; subst hh
  obtain rfl : l = 0 := by omega
  simp only [List.take_nil, List.drop_nil, Nat.sub_zero];refine .view0 hc fun e => ?_
  split at e
  ·exact ha e
  ·simp at e; exact ha e
 | view cv hn hc hm hA hb hz h1 h2 ho =>
  rename_i g off;by_cases h0 : h - l = 0
  ·have : (es.take h).drop l = [] := by apply List.eq_nil_of_length_eq_zero; simp; omega
   rw [this, h0];exact .view0 (by omega) (by split <;> simp)
  ·rw [if_neg (by omega)];simp only [Option.map_some, qaeh];refine .view (fun i j => cv (l + i) j) (by simp; omega) (by omega) (by omega) hA hb (fun e he => hz e (List.mem_of_mem_take (List.mem_of_mem_drop he))) (fun i e j x hi hx => ?_) (fun i e j x hi hx => ?_) (fun i e j x hi hx => ?_)
   ·rw [List.getElem?_drop, List.getElem?_take] at hi;split at hi
    ·have := h1 _ _ _ _ hi hx;rw [show off + l * size + i * size + j = off + (l + i) * size + j by rw [Nat.add_mul]; omega];exact this
    ·cases hi
   ·rw [List.getElem?_drop, List.getElem?_take] at hi;split at hi
    ·exact h2 _ _ _ _ hi hx
    ·cases hi
   ·rw [List.getElem?_drop, List.getElem?_take] at hi;split at hi
    ·exact ho _ _ _ _ hi hx
    ·cases hi
theorem qad4 {t e : TypeId} (ht : P.underlying t = some (.slice e)) {size : Nat} (hn : qab8 P e = some size) {x : Operand} {lo hi : Option Operand} {b : Option Addr} {n c l h : Nat} (hx : a.eval x = .slice b n c)
  (hlo : (lo = none ∧ l = 0) ∨ ∃ y k, lo = some y ∧ a.eval y = .int k (l : Int)) (hhi : (hi = none ∧ h = n) ∨ ∃ y k, hi = some y ∧ a.eval y = .int k (h : Int)) (h1 : l ≤ h) (h2 : h ≤ n) (h3 : n ≤ c) :
  ∀ o : Oper, o.op = .slice t x lo hi none → (execOp a.eval o).run P w = .ok (.value (.slice (if c = l then b else b.map (·.add (l * size))) (h - l) (c - l))) w := fun o ho => by
 have hc : h ≤ c := Nat.le_trans h2 h3;rcases hlo with ⟨rfl, rfl⟩ | ⟨y, k, rfl, hy⟩ <;> rcases hhi with ⟨rfl, rfl⟩ | ⟨z, k', rfl, hz⟩
 ·simp [execOp, ho, hx, Instr.sliceAt, Instr.slice, run_underlying ht, Instr.sliceBounds, qac4 hn w]
 ·simp [execOp, ho, hx, hz, Instr.sliceAt, Instr.slice, run_underlying ht, Instr.sliceBounds, Instr.sliceBound, asIntOf, qac4 hn w, hc]
 ·simp [execOp, ho, hx, hy, Instr.sliceAt, Instr.slice, run_underlying ht, Instr.sliceBounds, Instr.sliceBound, asIntOf, qac4 hn w, h1]
 ·simp [execOp, ho, hx, hy, hz, Instr.sliceAt, Instr.slice, run_underlying ht, Instr.sliceBounds, Instr.sliceBound, asIntOf, qac4 hn w, hc, h1]
theorem qajk {t : TypeId} (ht : P.underlying t = some .string) {x : Operand} {lo hi : Option Operand} {s : ByteArray} {l h : Nat} (hx : a.eval x = .string s)
  (hlo : (lo = none ∧ l = 0) ∨ ∃ y k, lo = some y ∧ a.eval y = .int k (l : Int)) (hhi : (hi = none ∧ h = s.size) ∨ ∃ y k, hi = some y ∧ a.eval y = .int k (h : Int)) (h1 : l ≤ h) (h2 : h ≤ s.size) :
  ∀ o : Oper, o.op = .slice t x lo hi none → (execOp a.eval o).run P w = .ok (.value (.string (s.extract l h))) w := fun o ho => by
 rcases hlo with ⟨rfl, rfl⟩ | ⟨y, k, rfl, hy⟩ <;> rcases hhi with ⟨rfl, rfl⟩ | ⟨z, k', rfl, hz⟩
 ·simp [execOp, ho, hx, Instr.sliceAt, Instr.slice, run_underlying ht, Instr.sliceBounds]
 ·simp [execOp, ho, hx, hz, Instr.sliceAt, Instr.slice, run_underlying ht, Instr.sliceBounds, Instr.sliceBound, asIntOf, h2]
 ·simp [execOp, ho, hx, hy, Instr.sliceAt, Instr.slice, run_underlying ht, Instr.sliceBounds, Instr.sliceBound, asIntOf, h1]
 ·simp [execOp, ho, hx, hy, hz, Instr.sliceAt, Instr.slice, run_underlying ht, Instr.sliceBounds, Instr.sliceBound, asIntOf, h2, h1]
theorem qaid (hs : ∀ t, RepV w A ρ (gets sl t) (a.tmps.getD t undef)) {x : Option Operand} {y : Option SX} (h : cxo N x = some y) (hn : y.map (·.ev sl) = none) : x = none := by
 cases x with
 | none => rfl
 | some o => simp [cxo] at h; obtain ⟨z, _, rfl⟩ := h; simp at hn
theorem qaik (hs : ∀ t, RepV w A ρ (gets sl t) (a.tmps.getD t undef)) {x : Option Operand} {y : Option SX} (h : cxo N x = some y) {k : IntKind} {n : Int} (hn : y.map (·.ev sl) = some (.int k n)) : ∃ o, x = some o ∧ a.eval o = .int k n := by
 cases x with
 | none => simp [cxo] at h; subst h; simp at hn
 | some o =>
  simp [cxo] at h;obtain ⟨z, hz, rfl⟩ := h;have := qaci hz hs;simp at hn;rw [hn] at this;refine ⟨o, rfl, ?_⟩;generalize a.eval o = v at this;cases this; rfl
theorem qbma (hs : ∀ t, RepV w A ρ (gets sl t) (a.tmps.getD t undef)) {x : Operand} {x' : SX} {lo hi : Option Operand} {lo' hi' : Option SX} {size : Nat} {t e : TypeId} (hx : cx N x = some x') (hlo : cxo N lo = some lo') (hhi : cxo N hi = some hi') (ht : P.underlying t = some (.slice e)) (hn : qab8 P e = some size) {g : Nat → Option SObj} {nx nx' : Nat} {v : SV} {u : Upd}
  (h : (SOp.slice size x' lo' hi').run (·.ev sl) g nx = some (v, u, nx')) : u = [] ∧ POk P w A ρ a (.slice t x lo hi none) v := by
 have rx := qaci hx hs;have view_le : ∀ {b : Option Addr} {n c size : Nat} {es : List (List SV)}, RepV w A ρ (.view size es) (.slice b n c) → es.length = n ∧ n ≤ c := fun h => by
  cases h with
  | view0 => simp
  | view cv hn hc => exact ⟨hn, hc⟩
 simp only [SOp.run] at h;split at h
 ·rename_i h1 h2;have e1 := qaid hs hlo h1;have e2 := qaid hs hhi h2;split at h
  ·rename_i size' es he;rw [he] at rx;split at h
   ·rename_i hsz;subst hsz;cases h
    generalize hv : a.eval x = vx at rx;obtain ⟨b, n, c, rfl⟩ : ∃ b n c, vx = .slice b n c := by cases rx <;> exact ⟨_, _, _, rfl⟩
    obtain ⟨hl, hc⟩ := view_le rx;have := rx.cut (l := 0) (h := n) (Nat.zero_le _) (by omega);refine ⟨rfl, _, qad4 ht hn hv (.inl ⟨e1, rfl⟩) (.inl ⟨e2, rfl⟩) (Nat.zero_le _) (Nat.le_refl _) hc, ?_⟩;rw [List.drop_zero, List.take_of_length_le (by omega)] at this;exact this
   ·cases h
  ·rename_i id n he;rw [he] at rx;cases h
   generalize hv : a.eval x = vx at rx;cases rx with
   | own0 hρ => exact ⟨rfl, _, qad4 ht hn hv (.inl ⟨e1, rfl⟩) (.inl ⟨e2, rfl⟩) (Nat.zero_le _) (Nat.le_refl _) (Nat.le_refl _), by simpa using RepV.own0 hρ⟩
   | own hρ hn' hm =>
    refine ⟨rfl, _, qad4 ht hn hv (.inl ⟨e1, rfl⟩) (.inl ⟨e2, rfl⟩) (Nat.zero_le _) (Nat.le_refl _) hn', ?_⟩;simp only [Nat.zero_mul, Option.map_some, qaeh, Nat.add_zero, ite_self, Nat.sub_zero];exact .own hρ hn' hm
  ·cases h
 ·rename_i k l h1 h2;obtain ⟨y, e1, hy⟩ := qaik hs hlo h1;have e2 := qaid hs hhi h2;split at h
  ·rename_i size' es he;rw [he] at rx;split at h
   ·rename_i hsz;subst hsz;rw [qacw] at h;obtain ⟨hr, h⟩ := h;cases h
    generalize hv : a.eval x = vx at rx;obtain ⟨b, n, c, rfl⟩ : ∃ b n c, vx = .slice b n c := by cases rx <;> exact ⟨_, _, _, rfl⟩
    obtain ⟨hl, hc⟩ := view_le rx;obtain ⟨l, rfl⟩ := Int.eq_ofNat_of_zero_le hr.1;have := rx.cut (l := l) (h := n) (by omega) (by omega);refine ⟨rfl, _, qad4 ht hn hv (.inr ⟨y, k, e1, hy⟩) (.inl ⟨e2, rfl⟩) (by omega) (Nat.le_refl _) hc, ?_⟩;rw [List.take_of_length_le (by omega)] at this;exact this
   ·cases h
  ·rename_i id n he;rw [he] at rx;rw [qacw] at h;obtain ⟨hr, h⟩ := h;cases h
   obtain ⟨l, rfl⟩ := Int.eq_ofNat_of_zero_le hr.1;generalize hv : a.eval x = vx at rx;cases rx with
   | own0 hρ => omega
   | own hρ hn' hm =>
    refine ⟨rfl, _, qad4 ht hn hv (.inr ⟨y, k, e1, hy⟩) (.inl ⟨e2, rfl⟩) (by omega) (Nat.le_refl _) hn', ?_⟩;rw [if_neg (by omega)];simp only [Option.map_some, qaeh, Nat.zero_add, Int.toNat_natCast];exact .owno hρ (by omega) hm
  ·cases h
 ·rename_i k l h1 h2;have e1 := qaid hs hlo h1;obtain ⟨y, e2, hy⟩ := qaik hs hhi h2;split at h
  ·rename_i size' es he;rw [he] at rx;split at h
   ·rename_i hsz;subst hsz;rw [qacw] at h;obtain ⟨hr, h⟩ := h;cases h
    generalize hv : a.eval x = vx at rx;obtain ⟨b, n, c, rfl⟩ : ∃ b n c, vx = .slice b n c := by cases rx <;> exact ⟨_, _, _, rfl⟩
    obtain ⟨hl, hc⟩ := view_le rx;obtain ⟨l, rfl⟩ := Int.eq_ofNat_of_zero_le hr.1;have := rx.cut (l := 0) (h := l) (by omega) (by omega);refine ⟨rfl, _, qad4 ht hn hv (.inl ⟨e1, rfl⟩) (.inr ⟨y, k, e2, hy⟩) (by omega) (by omega) hc, ?_⟩;rw [List.drop_zero] at this;exact this
   ·cases h
  ·rename_i id n he;rw [he] at rx;rw [qacw] at h;obtain ⟨hr, h⟩ := h;cases h
   obtain ⟨l, rfl⟩ := Int.eq_ofNat_of_zero_le hr.1;generalize hv : a.eval x = vx at rx;cases rx with
   | own0 hρ =>
    obtain rfl : l = 0 := by omega
    exact ⟨rfl, _, qad4 ht hn hv (.inl ⟨e1, rfl⟩) (.inr ⟨y, k, e2, hy⟩) (Nat.zero_le _) (Nat.le_refl _) (Nat.le_refl _), by simpa using RepV.own0 hρ⟩
   | own hρ hn' hm =>
    refine ⟨rfl, _, qad4 ht hn hv (.inl ⟨e1, rfl⟩) (.inr ⟨y, k, e2, hy⟩) (Nat.zero_le _) (by omega) hn', ?_⟩;simp only [Nat.zero_mul, Option.map_some, qaeh, Nat.add_zero, ite_self, Nat.sub_zero];exact .own hρ (by simp; omega) hm
  ·cases h
 ·rename_i k l k' m h1 h2;obtain ⟨y, e1, hy⟩ := qaik hs hlo h1;obtain ⟨z, e2, hz⟩ := qaik hs hhi h2;split at h
  ·rename_i size' es he;rw [he] at rx;split at h
   ·rename_i hsz;subst hsz;rw [qacw] at h;obtain ⟨hr, h⟩ := h;cases h
    generalize hv : a.eval x = vx at rx;obtain ⟨b, n, c, rfl⟩ : ∃ b n c, vx = .slice b n c := by cases rx <;> exact ⟨_, _, _, rfl⟩
    obtain ⟨hl, hc⟩ := view_le rx;obtain ⟨l, rfl⟩ := Int.eq_ofNat_of_zero_le hr.1;obtain ⟨m, rfl⟩ := Int.eq_ofNat_of_zero_le (Int.le_trans hr.1 hr.2.1);have := rx.cut (l := l) (h := m) (by omega) (by omega);exact ⟨rfl, _, qad4 ht hn hv (.inr ⟨y, k, e1, hy⟩) (.inr ⟨z, k', e2, hz⟩) (by omega) (by omega) hc, this⟩
   ·cases h
  ·rename_i id n he;rw [he] at rx;rw [qacw] at h;obtain ⟨hr, h⟩ := h;cases h
   obtain ⟨l, rfl⟩ := Int.eq_ofNat_of_zero_le hr.1;obtain ⟨m, rfl⟩ := Int.eq_ofNat_of_zero_le (Int.le_trans hr.1 (Int.le_of_lt hr.2.1));generalize hv : a.eval x = vx at rx;cases rx with
   | own0 hρ => omega
   | own hρ hn' hm =>
    refine ⟨rfl, _, qad4 ht hn hv (.inr ⟨y, k, e1, hy⟩) (.inr ⟨z, k', e2, hz⟩) (by omega) (by omega) hn', ?_⟩;rw [if_neg (by omega)];simp only [Option.map_some, qaeh, Nat.zero_add, Int.toNat_natCast];exact .owno hρ (by omega) hm
  ·cases h
 ·cases h
theorem qbl9 (hs : ∀ t, RepV w A ρ (gets sl t) (a.tmps.getD t undef)) {x : Operand} {x' : SX} {lo hi : Option Operand} {lo' hi' : Option SX} {t : TypeId} (hx : cx N x = some x') (hlo : cxo N lo = some lo') (hhi : cxo N hi = some hi') (ht : P.underlying t = some .string) {g : Nat → Option SObj} {nx nx' : Nat} {v : SV} {u : Upd}
  (h : (SOp.slstr x' lo' hi').run (·.ev sl) g nx = some (v, u, nx')) : u = [] ∧ POk P w A ρ a (.slice t x lo hi none) v := by
 have rx := qaci hx hs;simp only [SOp.run] at h;split at h
 ·rename_i s he;rw [he] at rx;generalize hv : a.eval x = vx at rx;cases rx
  split at h
  ·rename_i k l h1 h2;obtain ⟨y, e1, hy⟩ := qaik hs hlo h1;have e2 := qaid hs hhi h2;rw [qacw] at h;obtain ⟨hr, h⟩ := h;cases h
   obtain ⟨l, rfl⟩ := Int.eq_ofNat_of_zero_le hr.1;exact ⟨rfl, _, qajk ht hv (.inr ⟨y, k, e1, hy⟩) (.inl ⟨e2, rfl⟩) (by omega) (Nat.le_refl _), .str⟩
  ·rename_i k l h1 h2;have e1 := qaid hs hlo h1;obtain ⟨y, e2, hy⟩ := qaik hs hhi h2;rw [qacw] at h;obtain ⟨hr, h⟩ := h;cases h
   obtain ⟨l, rfl⟩ := Int.eq_ofNat_of_zero_le hr.1;exact ⟨rfl, _, qajk ht hv (.inl ⟨e1, rfl⟩) (.inr ⟨y, k, e2, hy⟩) (by omega) (by omega), .str⟩
  ·rename_i k l k' m h1 h2;obtain ⟨y, e1, hy⟩ := qaik hs hlo h1;obtain ⟨z, e2, hz⟩ := qaik hs hhi h2;rw [qacw] at h;obtain ⟨hr, h⟩ := h;cases h
   obtain ⟨l, rfl⟩ := Int.eq_ofNat_of_zero_le hr.1;obtain ⟨m, rfl⟩ := Int.eq_ofNat_of_zero_le (Int.le_trans hr.1 hr.2.1);exact ⟨rfl, _, qajk ht hv (.inr ⟨y, k, e1, hy⟩) (.inr ⟨z, k', e2, hz⟩) (by omega) (by omega), .str⟩
  ·cases h
 ·cases h
theorem ok_mkfn (hs : ∀ t, RepV w A ρ (gets sl t) (a.tmps.getD t undef)) {f : Fn} {fs cs : Array Operand} {fs' cs' : List SX} (hf : fs.toList.mapM (cx N) = some fs') (hc : cs.toList.mapM (cx N) = some cs') {g : Nat → Option SObj} {nx nx' : Nat} {v : SV} {u : Upd}
  (h : (SOp.mkfn f fs' cs').run (·.ev sl) g nx = some (v, u, nx')) : u = [] ∧ POk P w A ρ a (.makeFunc f fs cs) v := by
 simp only [SOp.run] at h;cases h
 have h1 := qag7 hf hs;have h2 := qag7 hc hs;refine ⟨rfl, _, fun o ho => ?_, .fn h1.1 h2.1 h1.2 h2.2⟩;have e : ∀ l : Array Operand, l.map a.eval = (l.toList.map a.eval).toArray := fun l => by apply Array.ext'; simp
 simp [execOp, ho, Instr.makeFunc, e]
def setV : List Value → Nat → List Value → List Value
 | cs, _, [] => cs
 | cs, off, v :: vs => setV (cs.set off v) (off + 1) vs
theorem qage : ∀ (vs cs : List Value) (off : Nat), (setV cs off vs).length = cs.length
 | [], _, _ => rfl
 | v :: vs, cs, off => by rw [setV, qage vs]; simp
theorem qakp : ∀ (vs cs : List SV) (off : Nat), (setL cs off vs).length = cs.length
 | [], _, _ => rfl
 | v :: vs, cs, off => by rw [setL, qakp vs]; simp
theorem Reps.set {cs : List SV} {vs : List Value} (h : Reps w A ρ cs vs) {i : Nat} {x : SV} {v : Value} (hx : RepV w A ρ x v) : Reps w A ρ (cs.set i x) (vs.set i v) := by
 refine ⟨by simp [h.1], fun j y u hy hu => ?_⟩;rw [List.getElem?_set] at hy hu;split at hy
 ·rename_i hij;subst hij;rw [if_pos rfl] at hu;split at hy
  ·split at hu
   ·cases hy; cases hu; exact hx
   ·cases hu
  ·cases hy
 ·rename_i hij;rw [if_neg hij] at hu;exact h.2 j y u hy hu
theorem Reps.setL : ∀ {xs : List SV} {us : List Value} (_ : Reps w A ρ xs us) {cs : List SV} {vs : List Value} (_ : Reps w A ρ cs vs) (off : Nat), Reps w A ρ (setL cs off xs) (setV vs off us) := by
 intro xs;induction xs with
 | nil => intro us h cs vs g off; obtain rfl := h.nil_inv; exact g
 | cons x xs ih =>
  intro us h cs vs g off;obtain ⟨u, us, rfl, h1, h2⟩ := h.cons_inv;exact ih h2 (g.set h1) (off + 1)
theorem qaj4 : ∀ (us : List Value) (k off : Nat) (arr : Array Value), ((us.zipIdx k).foldl (fun cs (p : Value × Nat) => cs.setIfInBounds (off + p.2) p.1) arr) = (setV arr.toList (off + k) us).toArray
 | [], k, off, arr => by simp [setV]
 | u :: us, k, off, arr => by
  rw [List.zipIdx_cons, List.foldl_cons, qaj4 us (k + 1) off];simp [setV, Nat.add_assoc]
theorem Ones.setV : ∀ {us : List Value} (_ : Ones us) {cs : List Value} (_ : Ones cs) (off : Nat), Ones (setV cs off us)
 | [], _, _, h, _ => h
 | u :: us, hu, cs, h, off => by
  refine Ones.setV (us := us) (fun v hv => hu v (by simp [hv])) (fun v hv => ?_) (off + 1);rcases List.mem_or_eq_of_mem_set hv with h1 | h1
  ·exact h v h1
  ·rw [h1]; exact hu u (by simp)
theorem fill_ok {place : Nat → Option (Nat × Nat)} : ∀ (ps : List (Nat × Value)) (qs : List (Nat × Nat × SV)), ps.length = qs.length → (∀ (j : Nat) p q, ps[j]? = some p → qs[j]? = some q → place p.1 = some (q.1, q.2.1) ∧ RepV w A ρ q.2.2 p.2) →
  ∀ (zs cs : List SV) (zv : List Value), qac5 zs qs = some cs → Reps w A ρ zs zv → Ones zv → ∃ cv, Instr.fill place zv.toArray ps = some cv.toArray ∧ Reps w A ρ cs cv ∧ Ones cv := by
 intro ps;induction ps with
 | nil =>
  intro qs hl _ zs cs zv h hr ho;obtain rfl : qs = [] := List.eq_nil_of_length_eq_zero (by simpa using hl.symm);simp only [qac5] at h; cases h
  exact ⟨zv, rfl, hr, ho⟩
 | cons p ps ih =>
  intro qs hl hp zs cs zv h hr ho;cases qs with
  | nil => simp at hl
  | cons q qs =>
   obtain ⟨off, size, x⟩ := q;obtain ⟨i, v⟩ := p;obtain ⟨h1, h2⟩ := hp 0 _ _ rfl rfl;simp only [qac5] at h;split at h
   ·rename_i xs hxs;obtain ⟨hcr, hco⟩ := h2.cells hxs;split at h
    ·rename_i hc;have hsz : v.cells.size = size := by have := hcr.1; simp at this; omega
     have hzl : zv.length = zs.length := hr.1.symm;obtain ⟨cv, e1, e2⟩ := ih qs (by simpa using hl) (fun j p q hj hk => hp (j + 1) p q (by simpa using hj) (by simpa using hk)) _ _ _ h (hcr.setL hr off) (hco.setV ho off);refine ⟨cv, ?_, e2⟩;simp only at h1;rw [Instr.fill, h1];simp only;have hno : (v.cells.size ≠ size || decide (off + v.cells.size > zv.toArray.size)) = false := by simp [hsz]; omega
     rw [hno];simp only [Bool.false_eq_true, if_false];rw [← Array.foldl_toList, Array.toList_zipIdx, qaj4];exact e1
    ·cases h
   ·cases h
theorem qafa {t : TypeId} {z : List SV} (h : qaim P t = some z) : ∃ i v, P.info? t = some i ∧ i.zero = some v ∧ v.cells.size = i.size ∧ z.length = i.size ∧ Ones v.cells.toList ∧ ∀ {w A ρ}, Reps w A ρ z v.cells.toList := by
 unfold qaim at h;split at h
 ·rename_i i hi;split at h
  ·rename_i v hv;split at h
   ·rename_i hs;exact ⟨i, v, hi, hv, hs, by have := (qagj h).1; simpa [hs] using this, qaob h, qaoa h⟩
   ·cases h
  ·cases h
 ·cases h
theorem qbmg (hs : ∀ t, RepV w A ρ (gets sl t) (a.tmps.getD t undef)) {t : TypeId} {ps : Array (Nat × Operand)} {z : List SV} {pl : Nat → Option (Nat × Nat)} {qs : List (Nat × Nat × SX)} (hz : qaim P t = some z) (hpl : qaqo P t = some pl) (hq : ps.toList.mapM (cpart N pl) = some qs) {g : Nat → Option SObj} {nx nx' : Nat} {v : SV} {u : Upd}
  (h : (SOp.build z qs).run (·.ev sl) g nx = some (v, u, nx')) : u = [] ∧ POk P w A ρ a (.build t ps) v := by
 simp only [SOp.run] at h;split at h
 ·rename_i cs hf;cases h
  obtain ⟨i, zv, hi, hzv, hzs, hzl, hzo, hzr⟩ := qafa hz;obtain ⟨hl, hj⟩ := qagj hq;obtain ⟨cv, e1, e2⟩ := fill_ok (place := pl) (ps.toList.map fun p => (p.1, a.eval p.2)) _ (by simp [hl]) (fun j p q hp hq => by
   simp only [List.getElem?_map, Option.map_eq_some_iff] at hp hq;obtain ⟨p, hp, rfl⟩ := hp;obtain ⟨q, hq, rfl⟩ := hq;obtain ⟨y, hy, hc⟩ := hj j p hp;rw [hq] at hy; cases hy
   unfold cpart at hc;split at hc
   ·rename_i f x hf hx;cases hc
    exact ⟨hf, qaci hx hs⟩
   ·cases hc) z cs zv.cells.toList hf (hzr (w := w) (A := A) (ρ := ρ)) hzo
  have hb : P.built t (ps.map fun (i, x) => (i, a.eval x)).toList = some cv.toArray := by
   have e3 : (ps.map fun (i, x) => (i, a.eval x)).toList = ps.toList.map fun p => (p.1, a.eval p.2) := by simp
   rw [e3];unfold qaqo at hpl;unfold Program.built;rw [hi];split at hpl
   ·rename_i fs hu;simp only [Option.map_eq_some_iff] at hpl;obtain ⟨pp, hpp, rfl⟩ := hpl;simp only [hu, hzv, hpp];simpa using e1
   ·rename_i m e hu;simp only [Option.map_eq_some_iff] at hpl;obtain ⟨ie, hie, rfl⟩ := hpl;simp only [hu, hzv, hie];simpa using e1
   ·cases hpl
  refine ⟨rfl, _, fun o ho => ?_, .agg e2.2 e2.1.1 e2.1.2⟩;simp [execOp, ho, run_build w t _ _ hb]
 ·cases h
end
theorem Blk.grown {w w' : World} {g : Nat} {t : TypeId} {cs : Array Value} {row : Option Nat} (h : Blk w g t cs) (hb : w.grownBy w' row) (hg : some g ≠ row) : Blk w' g t cs := (hb.block g h.lt hg).trans h
theorem own_ne {w : World} {base g size n : Nat} {e t : TypeId} {v : Value} {xs : List Value} {cs : Array Value} (h : w.ownsRow base e size v n xs) (hg : Blk w g t cs) (hne : e ≠ t) : v.ownBlock ≠ some g := by
 rcases h.2 with ⟨rfl, _⟩ | ⟨g', cap, cur, rfl, _, hh, _⟩
 ·simp [Value.ownBlock]
 ·intro he;have : g' = g := by simpa [Value.ownBlock] using he
  subst this;unfold Blk at hg;rw [hh] at hg;injection hg with hg
  injection hg with _ ht
  exact hne ht
theorem AllFit.nil (k : IntKind) : AllFit k [] := by intro x hx; cases hx
theorem AllFit.cons {k : IntKind} {x : Int} {xs : List Int} (h : Fits k x) (g : AllFit k xs) : AllFit k (x :: xs) := by
 intro y hy;rcases List.mem_cons.1 hy with rfl | h'
 ·exact h
 ·exact g _ h'
def NoA : Nat → Prop := fun _ => False
class One {α : Type} (L : Lay α) : Prop where
 one : ∀ {A w a cs}, L.rep A w a cs → ∀ u ∈ cs, u.oneCell' = true
instance {k : IntKind} : One (Lay.int k) := ⟨fun h u hu => by rw [h.1, List.mem_singleton] at hu; subst hu; rfl⟩
instance : One Lay.bool := ⟨fun h u hu => by rw [h, List.mem_singleton] at hu; subst hu; rfl⟩
instance {α β : Type} {L : Lay α} {M : Lay β} [One L] [One M] : One (Lay.pair L M) := ⟨fun h u hu => by
 obtain ⟨c, d, rfl, h1, h2⟩ := h;rcases List.mem_append.1 hu with hu | hu
 ·exact One.one h1 u hu
 ·exact One.one h2 u hu⟩
instance {α β : Type} {f : β → α} {L : Lay α} [One L] : One (Lay.map f L) := ⟨fun h => One.one (L := L) h⟩
instance {α : Type} {L : Lay α} : One (Lay.slice L) := ⟨fun h u hu => by
 obtain ⟨ao, n, cap, rfl, _⟩ := h;rw [List.mem_singleton] at hu; subst hu; rfl⟩
def RepAll {α : Type} (L : Lay α) (A : Nat → Prop) (w : World) : List α → List Value → Prop
 | [], cs => cs = []
 | x :: xs, cs => ∃ c d, cs = c ++ d ∧ L.rep A w x c ∧ RepAll L A w xs d
theorem RepAll.length {α : Type} {L : Lay α} {A : Nat → Prop} {w : World} {xs : List α} {cs : List Value} (h : RepAll L A w xs cs) : cs.length = xs.length * L.size := by
 induction xs generalizing cs with
 | nil => rw [show cs = [] from h]; simp
 | cons x xs ih =>
  obtain ⟨c, d, rfl, h1, h2⟩ := h;rw [List.length_append, L.len h1, ih h2, List.length_cons, Nat.add_mul]; omega
theorem RepAll.append {α : Type} {L : Lay α} {A : Nat → Prop} {w : World} {xs ys : List α} {cs ds : List Value} (h : RepAll L A w xs cs) (g : RepAll L A w ys ds) : RepAll L A w (xs ++ ys) (cs ++ ds) := by
 induction xs generalizing cs with
 | nil => rw [show cs = [] from h]; exact g
 | cons x xs ih =>
  obtain ⟨c, d, rfl, h1, h2⟩ := h;exact ⟨c, d ++ ds, by rw [List.append_assoc], h1, ih h2⟩
theorem RepAll.one {α : Type} {L : Lay α} {A : Nat → Prop} {w : World} {x : α} {c : List Value} (h : L.rep A w x c) : RepAll L A w [x] c := ⟨c, [], by simp, h, rfl⟩
theorem RepAll.step {α : Type} {L : Lay α} {A : Nat → Prop} {w w' : World} {xs : List α} {cs : List Value} (h : RepAll L A w xs cs) (hs : Step A w w') : RepAll L A w' xs cs := by
 induction xs generalizing cs with
 | nil => exact h
 | cons x xs ih =>
  obtain ⟨c, d, rfl, h1, h2⟩ := h;exact ⟨c, d, rfl, L.step h1 hs, ih h2⟩
theorem RepAll.weaken {α : Type} {L : Lay α} {A A' : Nat → Prop} {w : World} {xs : List α} {cs : List Value} (h : RepAll L A w xs cs) (hA : ∀ k, A' k → k < w.heap.size → A k) : RepAll L A' w xs cs := by
 induction xs generalizing cs with
 | nil => exact h
 | cons x xs ih =>
  obtain ⟨c, d, rfl, h1, h2⟩ := h;exact ⟨c, d, rfl, L.weaken h1 hA, ih h2⟩
theorem RepAll.ones {α : Type} {L : Lay α} [One L] {A : Nat → Prop} {w : World} {xs : List α} {cs : List Value} (h : RepAll L A w xs cs) : ∀ u ∈ cs, u.oneCell' = true := by
 induction xs generalizing cs with
 | nil => rw [show cs = [] from h]; intro u hu; cases hu
 | cons x xs ih =>
  obtain ⟨c, d, rfl, h1, h2⟩ := h;intro u hu;rcases List.mem_append.1 hu with hu | hu
  ·exact One.one h1 u hu
  ·exact ih h2 u hu
theorem RepAll.at_ {α : Type} {L : Lay α} {A : Nat → Prop} {w : World} {xs : List α} {cs : List Value} (h : RepAll L A w xs cs) (i : Nat) (hi : i < xs.length) :
  ∃ c, L.rep A w xs[i] c ∧ ∀ j, j < L.size → cs[i * L.size + j]? = c[j]? := by
 induction xs generalizing cs i with
 | nil => simp at hi
 | cons x xs ih =>
  obtain ⟨c, d, rfl, h1, h2⟩ := h;have hc := L.len h1;cases i with
  | zero => exact ⟨c, h1, fun j hj => by rw [Nat.zero_mul, Nat.zero_add, List.getElem?_append_left (by omega)]⟩
  | succ i =>
   obtain ⟨c', hr, hj⟩ := ih h2 i (by simpa using hi);refine ⟨c', hr, fun j hj' => ?_⟩;rw [← hj j hj', List.getElem?_append_right (by rw [hc, Nat.add_mul]; omega), hc, Nat.add_mul];congr 1; omega
theorem RepAll.of {α : Type} {L : Lay α} {A : Nat → Prop} {w : World} : ∀ (xs : List α) (f : Nat → List Value), (∀ i (h : i < xs.length), L.rep A w xs[i] (f i)) → RepAll L A w xs ((List.range xs.length).flatMap f) := by
 intro xs;induction xs with
 | nil => intro f _; rfl
 | cons x xs ih =>
  intro f h;refine ⟨f 0, _, ?_, h 0 (by simp), ih (fun i => f (i + 1)) (fun i hi => h (i + 1) (by simpa using hi))⟩;rw [List.length_cons, List.range_succ_eq_map, List.flatMap_cons, List.flatMap_map]
theorem RdL.repAll {α : Type} {L : Lay α} {A : Nat → Prop} {w : World} {ao : Option Addr} {n cap : Nat} {xs : List α} (h : RdL L A w ao n cap xs) :
  ∃ cs, RepAll L A w xs cs ∧ ∀ ad, ao = some ad → ∀ j u, cs[j]? = some u → w.cell? (ad.add j) = some u := by
 have hlen := h.len;by_cases h0 : 0 < n
 ·obtain ⟨b, off, rfl, hA, hb, hc⟩ := h.here h0;have hex : ∀ i, ∃ cs, i < xs.length → ∃ x, xs[i]? = some x ∧ L.rep A w x cs ∧ ∀ j, j < L.size → w.cell? ⟨b, off + i * L.size + j, none⟩ = cs[j]? := by
   intro i;by_cases hi : i < xs.length
   ·obtain ⟨cs, h1, h2⟩ := hc i hi;exact ⟨cs, fun _ => ⟨_, List.getElem?_eq_getElem hi, h1, h2⟩⟩
   ·exact ⟨[], fun h => absurd h hi⟩
  have hch := Classical.axiomOfChoice hex;obtain ⟨f, hf⟩ := hch;have hrep : ∀ i (h : i < xs.length), L.rep A w xs[i] (f i) := fun i hi => by
   obtain ⟨x, hx, h1, _⟩ := hf i hi;rw [List.getElem?_eq_getElem hi] at hx;cases hx
   exact h1
  have hra := RepAll.of xs f hrep;refine ⟨_, hra, fun ad had j u hu => ?_⟩;cases had
  rw [qae2];have hjl : j < ((List.range xs.length).flatMap f).length := (List.getElem?_eq_some_iff.1 hu).1;rw [hra.length] at hjl;have hs : 0 < L.size := by
   rcases Nat.eq_zero_or_pos L.size with e | e
   ·rw [e] at hjl; simp at hjl
   ·exact e
  have hi : j / L.size < xs.length := (Nat.div_lt_iff_lt_mul hs).2 hjl;have hm := Nat.mod_lt j hs;have hjd : j / L.size * L.size + j % L.size = j := by rw [Nat.mul_comm]; exact Nat.div_add_mod j L.size
  obtain ⟨x, hx, h1, h2⟩ := hf _ hi;have e1 := h2 _ hm;rw [Nat.add_assoc, hjd] at e1;rw [e1];have key : ∀ (n i j : Nat), i < n → j < L.size → n ≤ xs.length → ((List.range n).flatMap f)[i * L.size + j]? = (f i)[j]? := by
   intro n;induction n with
   | zero => intro i j hi; omega
   | succ n ih =>
    intro i j hi hj hn;have hl : ((List.range n).flatMap f).length = n * L.size := by
     clear ih hi;induction n with
     | zero => simp
     | succ n ih2 =>
      rw [List.range_succ, List.flatMap_append, List.length_append, ih2 (by omega)];simp only [List.flatMap_cons, List.flatMap_nil, List.append_nil];rw [L.len (hrep n (by omega)), Nat.add_mul]; omega
    rw [List.range_succ, List.flatMap_append];by_cases he : i < n
    ·rw [List.getElem?_append_left (by rw [hl]; calc i * L.size + j < i * L.size + L.size := by omega
      _ = (i + 1) * L.size := by rw [Nat.add_mul]; omega
      _ ≤ n * L.size := Nat.mul_le_mul_right _ he)]
     exact ih i j he hj (by omega)
    ·obtain rfl : i = n := by omega
     rw [List.getElem?_append_right (by rw [hl]; omega), hl];simp only [List.flatMap_cons, List.flatMap_nil, List.append_nil];congr 1; omega
  have e2 := key xs.length (j / L.size) (j % L.size) hi hm (Nat.le_refl _);rw [hjd] at e2;rw [← e2]; exact hu
 ·have : xs = [] := List.eq_nil_of_length_eq_zero (by omega);subst this;exact ⟨[], rfl, fun _ _ j u hu => by simp at hu⟩
def MineL {α : Type} (L : Lay α) (A : Nat → Prop) (w : World) (base : Nat) (e : TypeId) (v : Value) (xs : List α) : Prop := ∃ cs, w.ownsRow base e L.size v xs.length cs ∧ RepAll L A w xs cs
theorem MineL.nil {α : Type} (L : Lay α) (A : Nat → Prop) (w : World) (base : Nat) (e : TypeId) : MineL L A w base e (.slice none 0 0) [] := ⟨[], World.ownsRow_nil _ _ _ _, rfl⟩
theorem MineL.rd {α : Type} {L : Lay α} {A A' : Nat → Prop} {w : World} {base : Nat} {e : TypeId} {v : Value} {xs : List α} (h : MineL L A w base e v xs) (h1 : ∀ k, A' k → k < w.heap.size → A k) (h2 : ∀ k, base ≤ k → k < w.heap.size → ¬ A' k) :
  ∃ ao cap, v = .slice ao xs.length cap ∧ RdL L A' w ao xs.length cap xs ∧ (∀ a, ao = some a → base ≤ a.block ∧ a.block < w.heap.size ∧ a.off = 0 ∧ a.spot = none) := by
 obtain ⟨cs, ⟨hl, ho⟩, hr⟩ := h;rcases ho with ⟨rfl, h0⟩ | ⟨g, cap, cur, rfl, hg, hh, hn, hm, hcs, ht⟩
 ·have : xs = [] := List.eq_nil_of_length_eq_zero h0;subst this;exact ⟨none, 0, rfl, RdL.nil_ _ _ _, by simp⟩
 ·have hlt : g < w.heap.size := (Array.getElem?_eq_some_iff.1 hh).1;refine ⟨some ⟨g, 0, none⟩, cap, rfl, ⟨rfl, hn, hm, by simp, fun h0 => ⟨g, 0, rfl, h2 g hg hlt, hlt, fun i hi => ?_⟩⟩, by simp; exact ⟨hg, hlt⟩⟩;obtain ⟨c, hc, hj⟩ := hr.at_ i hi;refine ⟨c, L.weaken hc h1, fun j hj' => ?_⟩;rw [Nat.zero_add, cell_of_row w g _ cur e (0, 0) hh, ← hj j hj'];have hjl : i * L.size + j < xs.length * L.size := Nat.lt_of_lt_of_le (by rw [Nat.add_mul, Nat.one_mul]; omega : i * L.size + j < (i + 1) * L.size) (Nat.mul_le_mul_right _ hi);rw [← ht, List.getElem?_take, if_pos hjl];simp
theorem MineL.form {α : Type} {L : Lay α} {A : Nat → Prop} {w : World} {base : Nat} {e : TypeId} {v : Value} {xs : List α} (h : MineL L A w base e v xs) : ∃ a c, v = .slice a xs.length c := by
 obtain ⟨cs, ⟨hl, ho⟩, hr⟩ := h;rcases ho with ⟨rfl, h0⟩ | ⟨g, cap, cur, rfl, _⟩
 ·exact ⟨none, 0, by rw [h0]⟩
 ·exact ⟨_, _, rfl⟩
theorem MineL.formN {α : Type} {L : Lay α} {A : Nat → Prop} {w : World} {base : Nat} {e : TypeId} {v : Value} {xs : List α} (h : MineL L A w base e v xs) {n : Nat} (hn : xs.length = n) : ∃ a c, v = .slice a n c := by
 subst hn; exact h.form
theorem Mine.form {w : World} {base : Nat} {e : TypeId} {k : IntKind} {v : Value} {xs : List Int} (h : Mine w base e k v xs) : ∃ a c, v = .slice a xs.length c := by
 obtain ⟨ao, cap, e, _, _⟩ := h.rd;exact ⟨ao, cap, e⟩
theorem MineL.kept {α : Type} {L : Lay α} {A : Nat → Prop} {w w' : World} {base : Nat} {e : TypeId} {v : Value} {xs : List α} (h : MineL L A w base e v xs) {B : Nat} (hb : Below B w w') (hB : ∀ g, v.ownBlock = some g → g < B) (hA : ∀ k, B ≤ k → A k) : MineL L A w' base e v xs := by
 obtain ⟨cs, ⟨hl, ho⟩, hr⟩ := h;refine ⟨cs, ⟨hl, ?_⟩, hr.step (.ofBelow hb hA)⟩;rcases ho with h2 | ⟨g, cap, cur, rfl, hg, hh, rest⟩
 ·exact .inl h2
 ·exact .inr ⟨g, cap, cur, rfl, hg, by rw [hb.block g (hB g rfl)]; exact hh, rest⟩
theorem MineL.below {α : Type} {L : Lay α} {A : Nat → Prop} {w w' : World} {base : Nat} {e : TypeId} {v : Value} {xs : List α} (h : MineL L A w base e v xs) (hb : Below w.heap.size w w') : MineL L A w' base e v xs := by
 obtain ⟨cs, ho, hr⟩ := h;refine ⟨cs, ⟨ho.1, ?_⟩, hr.step (.of hb)⟩;rcases ho.2 with h2 | ⟨g, cap, cur, rfl, hg, hh, rest⟩
 ·exact .inl h2
 ·exact .inr ⟨g, cap, cur, rfl, hg, by rw [hb.block g (Array.getElem?_eq_some_iff.1 hh).1]; exact hh, rest⟩
theorem MineL.step {α : Type} {L : Lay α} {A : Nat → Prop} {w w' : World} {base : Nat} {e : TypeId} {v : Value} {xs : List α} (h : MineL L A w base e v xs) {S : Nat → Prop} (hs : Step S w w') (hB : ∀ g, v.ownBlock = some g → ¬ S g) (hA : ∀ k, S k → A k) : MineL L A w' base e v xs := by
 obtain ⟨cs, ho, hr⟩ := h;refine ⟨cs, ⟨ho.1, ?_⟩, hr.step (hs.mono hA)⟩;rcases ho.2 with h2 | ⟨g, cap, cur, rfl, hg, hh, rest⟩
 ·exact .inl h2
 ·exact .inr ⟨g, cap, cur, rfl, hg, by rw [hs.block g (Array.getElem?_eq_some_iff.1 hh).1 (hB g rfl)]; exact hh, rest⟩
theorem MineL.base_le {α : Type} {L : Lay α} {A : Nat → Prop} {w : World} {base base' : Nat} {e : TypeId} {v : Value} {xs : List α} (h : MineL L A w base e v xs) (hb : base' ≤ base) : MineL L A w base' e v xs := by
 obtain ⟨cs, ⟨hl, ho⟩, hr⟩ := h;refine ⟨cs, ⟨hl, ?_⟩, hr⟩;rcases ho with h2 | ⟨g, cap, cur, rfl, hg, rest⟩
 ·exact .inl h2
 ·exact .inr ⟨g, cap, cur, rfl, Nat.le_trans hb hg, rest⟩
theorem MineL.drew {α : Type} {L : Lay α} {A : Nat → Prop} {w : World} {base : Nat} {e : TypeId} {v : Value} {xs : List α} (h : MineL L A w base e v xs) : MineL L A w.drew base e v xs := h.below ⟨rfl, rfl, rfl, Nat.le_refl _, fun _ _ => rfl⟩
instance {α : Type} {L : Lay α} {A : Nat → Prop} {base : Nat} {e : TypeId} {v : Value} {xs : List α} : Mono (fun w => MineL L A w base e v xs) := ⟨fun h hb => h.below hb⟩
theorem MineL.lt {α : Type} {L : Lay α} {A : Nat → Prop} {w : World} {base : Nat} {e : TypeId} {v : Value} {xs : List α} (h : MineL L A w base e v xs) : ∀ g, v.ownBlock = some g → base ≤ g ∧ g < w.heap.size := by
 obtain ⟨cs, ho, hr⟩ := h;exact fun g hg => ho.lt g hg
def Src {α : Type} (L : Lay α) (A : Nat → Prop) (w : World) (ao : Option Addr) (m c : Nat) (ys : List α) : Prop :=
 ys.length = m ∧ (ao = none → m = 0 ∧ c = 0) ∧ ∃ news, RepAll L A w ys news ∧ ∀ ad, ao = some ad → ∀ j u, news[j]? = some u → w.cell? (ad.add j) = some u
theorem RdL.src {α : Type} {L : Lay α} {A A' : Nat → Prop} {w : World} {ao : Option Addr} {n cap : Nat} {xs : List α} (h : RdL L A' w ao n cap xs) (hA : ∀ k, A k → k < w.heap.size → A' k) : Src L A w ao n cap xs := by
 obtain ⟨news, h1, h2⟩ := h.repAll;refine ⟨h.len, fun e => ?_, news, h1.weaken hA, h2⟩;have := h.nil e; have := h.le; omega
class Flat {α : Type} (L : Lay α) : Prop where
 flat : ∀ {A A' w w' a cs}, L.rep A w a cs → L.rep A' w' a cs
instance {k : IntKind} : Flat (Lay.int k) := ⟨fun h => h⟩
theorem RepAll.flat {α : Type} {L : Lay α} [Flat L] {A A' : Nat → Prop} {w w' : World} {xs : List α} {cs : List Value} (h : RepAll L A w xs cs) : RepAll L A' w' xs cs := by
 induction xs generalizing cs with
 | nil => exact h
 | cons x xs ih =>
  obtain ⟨c, d, rfl, h1, h2⟩ := h;exact ⟨c, d, rfl, Flat.flat h1, ih h2⟩
theorem MineL.flat {α : Type} {L : Lay α} [Flat L] {A A' : Nat → Prop} {w : World} {base : Nat} {e : TypeId} {v : Value} {xs : List α} (h : MineL L A w base e v xs) : MineL L A' w base e v xs := by
 obtain ⟨cs, ho, hr⟩ := h;exact ⟨cs, ho, hr.flat⟩
theorem MineL.rdF {α : Type} {L : Lay α} [Flat L] {A : Nat → Prop} {w : World} {base : Nat} {e : TypeId} {a : Option Addr} {n c : Nat} {xs : List α} (h : MineL L A w base e (.slice a n c) xs) : RdL L (fun k => k < base) w a n c xs := by
 obtain ⟨ao, cap, e, hr, _⟩ := MineL.rd (A := fun _ => True) (A' := fun k => k < base) h.flat (fun _ _ _ => trivial) (fun k h1 _ h3 => Nat.not_lt_of_le h1 h3);cases e
 exact hr
theorem RdL.set {α : Type} {L : Lay α} {A : Nat → Prop} {w : World} {ao : Option Addr} {n cap : Nat} {xs : List α} (h : RdL L A w ao n cap xs) {p : Addr} (hp : A p.block) (u : Value) : RdL L A (w.setCell p u) ao n cap xs := h.step (.set A w p hp u)
theorem RdL.no {α : Type} {L : Lay α} {A : Nat → Prop} {w : World} {ao : Option Addr} {n cap : Nat} {xs : List α} (h : RdL L A w ao n cap xs) : RdL L NoA w ao n cap xs := h.weaken fun _ h _ => h.elim
theorem Src.lit1 {α : Type} {L : Lay α} {A : Nat → Prop} {w : World} {x : α} {cs : List Value} {e : TypeId} {g : Nat} (hb : Blk w g e cs.toArray) (hr : L.rep A w x cs) : Src L A w (some ⟨g, 0, none⟩) 1 1 [x] := by
 refine ⟨rfl, by simp, cs, .one hr, fun ad had j u hu => ?_⟩;cases had
 rw [qae2, Nat.zero_add, hb.cell];simpa using hu
theorem RdL.lit1 {α : Type} {L : Lay α} {A : Nat → Prop} {w : World} {x : α} {cs : List Value} {e : TypeId} {g : Nat} (hb : Blk w g e cs.toArray) (hr : L.rep A w x cs) (hA : ¬ A g) : RdL L A w (some ⟨g, 0, none⟩) 1 1 [x] := by
 refine ⟨rfl, Nat.le_refl _, by simp [maxLen], by simp, fun _ => ⟨g, 0, rfl, hA, hb.lt, fun i hi => ?_⟩⟩;have hi : i < 1 := hi;obtain rfl : i = 0 := by omega
 refine ⟨cs, hr, fun j hj => ?_⟩;rw [Nat.zero_mul, Nat.add_zero, Nat.zero_add, hb.cell];simp
theorem qaqa {P : Program} {w : World} {o : Oper} {a : Act} {K : Act → World → Prop} {Q : Exit → Act → World → Prop} (s x : Operand) (t : TypeId)
  (ho : o.op = .call { callee := .builtin .append, args := #[s, x], argTypes := #[t, t] })
  {e : TypeId} {size bytes : Nat} {z : Value} (ty : SliceTy P t e size bytes z)
  (v : Value) (n : Nat) (xs : List Value) (hs : a.eval s = v) (hown : w.ownsRow 0 e size v n xs)
  (ao : Option Addr) (m c : Nat) (news : List Value) (hx : a.eval x = .slice ao m c) (hl : news.length = m * size) (hnone : ao = none → m = 0 ∧ c = 0)
  (hnews : ∀ ad, ao = some ad → ∀ j u, news[j]? = some u → w.cell? (ad.add j) = some u) (h1 : ∀ u ∈ news, u.oneCell' = true)
  (h63 : n + m ≤ maxLen) (hbytes : (n + m) * bytes ≤ 140737488355328)
  (h : ∀ v' w', w'.ownsRow 0 e size v' (n + m) (xs ++ news) → w.grownBy w' v.ownBlock → (v'.ownBlock = v.ownBlock ∨ v'.ownBlock = some w.heap.size) → K (a.put o.dst v') w') : o.wp P a w K Q := by
 obtain ⟨i, hi, hz0, hz1, hz2⟩ := info_parts ty.info;cases ao with
 | some ad =>
  obtain ⟨v', w', hr, h2, h3, h4, h5⟩ := run_append_own_at (P := P) w 0 t o.type e i z size bytes ty.und hi hz0 hz1 hz2 ty.cells ty.pos v n xs hown ad m c news hl (hnews ad rfl) h1 h63 hbytes (Nat.zero_le _);unfold Oper.wp execOp;simp only [ho, resolve, invoke, builtin, Sem.run_bind, Sem.run_pure, Result.andThen_ok, List.map_toArray, List.map_cons, List.map_nil, hs, hx, hr];exact h v' w' h2 h3 h5
 | none =>
  obtain ⟨rfl, rfl⟩ := hnone rfl;have hn : news = [] := List.eq_nil_of_length_eq_zero (by simpa using hl);subst hn;have hrun := run_append_owned_none (P := P) (w := w) 0 t o.type e i size ty.und hi v n xs hown;unfold Oper.wp;simp [execOp, ho, resolve, invoke, builtin, hs, hx, hrun, Result.andThen];exact h v w (by simpa using hown) (World.grownBy.refl _ _) (.inl rfl)
structure OwnL {α : Type} (L : Lay α) (A : Nat → Prop) (w : World) (Fp : Nat → Prop) (e : TypeId) (v : Value) (xs : List α) : Prop where
 mine : MineL L A w 0 e v xs
 row : ∀ k, v.ownBlock = some k → Fp k
theorem OwnL.nil {α : Type} (L : Lay α) (A : Nat → Prop) (w : World) (Fp : Nat → Prop) (e : TypeId) : OwnL L A w Fp e (.slice none 0 0) [] := ⟨MineL.nil _ _ _ _ _, by simp [Value.ownBlock]⟩
theorem OwnL.step {α : Type} {L : Lay α} {A : Nat → Prop} {w w' : World} {Fp : Nat → Prop} {e : TypeId} {v : Value} {xs : List α} (h : OwnL L A w Fp e v xs) {S : Nat → Prop} (hs : Step S w w') (hd : ∀ k, v.ownBlock = some k → ¬ S k) (hA : ∀ k, S k → A k) : OwnL L A w' Fp e v xs :=
 ⟨h.mine.step hs hd hA, h.row⟩
theorem OwnL.ne {α : Type} {L : Lay α} {A : Nat → Prop} {w : World} {Fp : Nat → Prop} {e t : TypeId} {v : Value} {xs : List α} {g : Nat} {cs : Array Value} (h : OwnL L A w Fp e v xs) (hg : Blk w g t cs) (hne : e ≠ t) : v.ownBlock ≠ some g := by
 obtain ⟨⟨cs', ho, _⟩, _⟩ := h;exact own_ne ho hg hne
theorem OwnL.form {α : Type} {L : Lay α} {A : Nat → Prop} {w : World} {Fp : Nat → Prop} {e : TypeId} {v : Value} {xs : List α} (h : OwnL L A w Fp e v xs) {n : Nat} (hn : xs.length = n) : ∃ a c, v = .slice a n c := h.mine.formN hn
theorem OwnL.rd {α : Type} {L : Lay α} [Flat L] {A : Nat → Prop} {w : World} {Fp : Nat → Prop} {e : TypeId} {a : Option Addr} {n c : Nat} {xs : List α} (h : OwnL L A w Fp e (.slice a n c) xs) : RdL L NoA w a n c xs := (MineL.rdF h.mine).no
theorem OwnL.weaken {α : Type} {L : Lay α} {A : Nat → Prop} {w : World} {Fp Fp' : Nat → Prop} {e : TypeId} {v : Value} {xs : List α} (h : OwnL L A w Fp e v xs) (hF : ∀ k, Fp k → Fp' k) : OwnL L A w Fp' e v xs := ⟨h.mine, fun k hk => hF k (h.row k hk)⟩
theorem OwnL.lt {α : Type} {L : Lay α} {A : Nat → Prop} {w : World} {Fp : Nat → Prop} {e : TypeId} {v : Value} {xs : List α} (h : OwnL L A w Fp e v xs) : ∀ g, v.ownBlock = some g → g < w.heap.size := fun g hg => (h.mine.lt g hg).2
theorem qalw {P : Program} {w : World} {o : Oper} {a : Act} {K : Act → World → Prop} {Q : Exit → Act → World → Prop} (s x : Operand) (t : TypeId)
  (ho : o.op = .call { callee := .builtin .append, args := #[s, x], argTypes := #[t, t] })
  {α : Type} {L : Lay α} [One L] {A : Nat → Prop} {e : TypeId} {bytes : Nat} {z : Value} (ty : SliceTy P t e L.size bytes z) {Fp : Nat → Prop}
  {v : Value} {xs : List α} (hs : a.eval s = v) (hown : OwnL L A w Fp e v xs) (hA : ∀ k, v.ownBlock = some k → A k)
  {ao : Option Addr} {m c : Nat} {ys : List α} (hx : a.eval x = .slice ao m c) (hr : Src L A w ao m c ys)
  (h63 : xs.length + m ≤ maxLen) (hsz : (xs.length + m) * bytes ≤ 140737488355328)
  (h : ∀ v' w', OwnL L A w' (fun k => Fp k ∨ k = w.heap.size) e v' (xs ++ ys) → Step (fun k => v.ownBlock = some k) w w' → K (a.put o.dst v') w') : o.wp P a w K Q := by
 obtain ⟨⟨cs, hc, hcr⟩, hrow⟩ := hown;obtain ⟨rfl, hnil, news, hnr, hn⟩ := hr;refine qaqa s x t ho ty v xs.length cs hs hc ao ys.length c news hx hnr.length hnil hn hnr.ones h63 hsz ?_;intro v' w' ho' hg hb;have hst : Step A w w' := .grown hg hA;refine h v' w' ⟨⟨cs ++ news, by rw [List.length_append]; exact ho', (hcr.step hst).append (hnr.step hst)⟩, fun k hk => ?_⟩ (.grown hg fun k hk => hk);rcases hb with hb | hb
 ·exact .inl (hrow k (by rw [← hb]; exact hk))
 ·rw [hk] at hb; exact .inr (Option.some.inj hb)
theorem RepAll.set_ {α : Type} {L : Lay α} {A : Nat → Prop} {w : World} {xs : List α} {cs : List Value} (h : RepAll L A w xs cs) {i : Nat} (hi : i < xs.length) {j : Nat} (hj : j < L.size) {u : Value} {y : α} (hy : ∀ c, L.rep A w xs[i] c → L.rep A w y (c.set j u)) :
  RepAll L A w (xs.set i y) (cs.set (i * L.size + j) u) := by
 induction xs generalizing cs i with
 | nil => simp at hi
 | cons x xs ih =>
  obtain ⟨c, d, rfl, h1, h2⟩ := h;have hc := L.len h1;cases i with
  | zero =>
   refine ⟨c.set j u, d, ?_, hy c h1, h2⟩;rw [Nat.zero_mul, Nat.zero_add, List.set_append_left _ _ (by omega)]
  | succ i =>
   refine ⟨c, d.set (i * L.size + j) u, ?_, h1, ih h2 (by simpa using hi) (by simpa using hy)⟩;rw [List.set_append_right _ _ (by rw [hc, Nat.add_mul]; omega), hc, Nat.add_mul];congr 2; omega
theorem MineL.at_ {α : Type} {L : Lay α} {A : Nat → Prop} {w : World} {base : Nat} {e : TypeId} {v : Value} {xs : List α} (h : MineL L A w base e v xs) (h0 : 0 < xs.length) :
  ∃ g cap, v = .slice (some ⟨g, 0, none⟩) xs.length cap ∧ base ≤ g ∧ g < w.heap.size := by
 obtain ⟨cs, ⟨h1, h2⟩, hf⟩ := h;rcases h2 with ⟨rfl, h0'⟩ | ⟨g, cap, cur, rfl, hg, hh, hn, hm, hcs, ht⟩
 ·omega
 ·exact ⟨g, cap, rfl, hg, (Array.getElem?_eq_some_iff.1 hh).1⟩
theorem qauo {k : IntKind} {A : Nat → Prop} {w : World} {xs : List Int} {cs : List Value} (h : RepAll (Lay.int k) A w xs cs) : cs = ints k xs ∧ AllFit k xs := by
 induction xs generalizing cs with
 | nil => exact ⟨h, by intro x hx; cases hx⟩
 | cons x xs ih =>
  obtain ⟨c, d, rfl, ⟨rfl, h1⟩, h2⟩ := h;obtain ⟨rfl, h3⟩ := ih h2;refine ⟨rfl, fun y hy => ?_⟩;rcases List.mem_cons.1 hy with rfl | hy
  ·exact h1
  ·exact h3 y hy
theorem MineL.fit {k : IntKind} {A : Nat → Prop} {w : World} {base : Nat} {e : TypeId} {v : Value} {xs : List Int} (h : MineL (Lay.int k) A w base e v xs) : AllFit k xs := by
 obtain ⟨cs, _, hr⟩ := h;exact (qauo hr).2
end Go.Proofs.YtalejfkholifpaaGreat
