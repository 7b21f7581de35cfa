/-
  Facts on the world that stay where no old block turns, carried together. No program in sight. No condition.
-/
import Derived.Test.YtfakdapglbgokaaRd
namespace Go.Proofs.Ytfakdapglbgokaa
set_option linter.all false
open Go.RowKit

/-- Facts that are carried together. -/
def Kept (P : World → Prop) (w : World) : Prop := P w
theorem Kept.out {P : World → Prop} {w : World} (h : Kept P w) : P w := h
/-- What stays where no old block turns. -/
class Mono (P : World → Prop) : Prop where
  mono : ∀ {w w' : World}, P w → Below w.heap.size w w' → P w'
instance {k : IntKind} {ao : Option Addr} {n cap : Nat} {xs : List Int} : Mono (fun w => Rd w k ao n cap xs) := ⟨fun h hb => h.below hb⟩
instance {base : Nat} {e : TypeId} {k : IntKind} {v : Value} {xs : List Int} : Mono (fun w => Mine w base e k v xs) := ⟨fun h hb => h.below hb⟩
instance {p : Addr} {v : Value} : Mono (fun w => w.cell? p = some v) := ⟨fun h hb => keep h hb⟩
instance {n : Nat} : Mono (fun w => n < w.heap.size) := ⟨fun h hb => Nat.lt_of_lt_of_le h hb.size⟩
instance {n : Nat} : Mono (fun w => n ≤ w.heap.size) := ⟨fun h hb => Nat.le_trans h hb.size⟩
instance {a : World} : Mono (fun w => Below a.heap.size a w) := ⟨fun h hb => ov h hb⟩
instance {p : Prop} : Mono (fun _ => p) := ⟨fun h _ => h⟩
instance {P Q : World → Prop} [Mono P] [Mono Q] : Mono (fun w => P w ∧ Q w) := ⟨fun h hb => ⟨Mono.mono h.1 hb, Mono.mono h.2 hb⟩⟩
/-- A block known whole. -/
def Blk (w : World) (g : Nat) (t : TypeId) (cs : Array Value) : Prop := w.heap[g]? = some (.cells cs t (0, 0))
theorem Blk.lt {w : World} {g : Nat} {t : TypeId} {cs : Array Value} (h : Blk w g t cs) : g < w.heap.size := by
  rcases Nat.lt_or_ge g w.heap.size with hlt | hge
  · exact hlt
  · unfold Blk at h; rw [Array.getElem?_eq_none hge] at h; cases h
theorem Blk.cell {w : World} {g : Nat} {t : TypeId} {cs : Array Value} (h : Blk w g t cs) (i : Nat) : w.cell? ⟨g, i, none⟩ = cs[i]? := cell_of_row w g i cs t (0, 0) h
theorem Blk.frozen {w : World} {g : Nat} {t : TypeId} {cs : Array Value} (h : Blk w g t cs) (i : Nat) : w.frozen? ⟨g, i, none⟩ = false := by
  unfold Blk at h
  simp [World.frozen?, h]
theorem Blk.new (w : World) (t : TypeId) (cs : Array Value) : Blk (w.alloc (.cells cs t)) w.heap.size t cs := heap_alloc_new w _
theorem Blk.alloc {w : World} {g : Nat} {t : TypeId} {cs : Array Value} (h : Blk w g t cs) (o : Obj) : Blk (w.alloc o) g t cs := (Below.heap_alloc w o g h.lt).trans h
theorem Blk.set_ {w : World} {g : Nat} {t : TypeId} {cs : Array Value} (h : Blk w g t cs) (i : Nat) (u : Value) : Blk (w.setCell ⟨g, i, none⟩ u) g t (cs.setIfInBounds i u) := by
  unfold Blk at h ⊢
  simp [World.setCell, Array.getElem?_modify, h]
theorem Blk.far {w : World} {g : Nat} {t : TypeId} {cs : Array Value} (h : Blk w g t cs) {p : Addr} (hp : g ≠ p.block) (u : Value) : Blk (w.setCell p u) g t cs := (Below.heap_setCell w p u g hp).trans h
theorem Blk.below {w w' : World} {g : Nat} {t : TypeId} {cs : Array Value} {B : Nat} (h : Blk w g t cs) (hb : Below B w w') (hg : g < B) : Blk w' g t cs := (hb.block g hg).trans h
instance {g : Nat} {t : TypeId} {cs : Array Value} : Mono (fun w => Blk w g t cs) := ⟨fun h hb => h.below hb h.lt⟩
theorem Kept.to {P : World → Prop} {w w' : World} [Mono P] (h : Kept P w) (hb : Below w.heap.size w w') : Kept P w' := Mono.mono (P := P) h hb
theorem Kept.al {P : World → Prop} {w : World} [Mono P] (h : Kept P w) (o : Obj) : Kept P (w.alloc o) := h.to ((Below.refl _ _).alloc (Nat.le_refl _) o)
theorem Kept.rd {P : World → Prop} {w : World} (h : Kept P w) {k : IntKind} {ao : Option Addr} {n cap : Nat} {xs : List Int} (h2 : Rd w k ao n cap xs) : Kept (fun w => P w ∧ Rd w k ao n cap xs) w := ⟨h, h2⟩
theorem Kept.mine {P : World → Prop} {w : World} (h : Kept P w) {k : IntKind} {base : Nat} {e : TypeId} {v : Value} {xs : List Int} (h2 : Mine w base e k v xs) : Kept (fun w => P w ∧ Mine w base e k v xs) w := ⟨h, h2⟩
theorem Kept.blk {P : World → Prop} {w : World} (h : Kept P w) {g : Nat} {t : TypeId} {cs : Array Value} (h2 : Blk w g t cs) : Kept (fun w => P w ∧ Blk w g t cs) w := ⟨h, h2⟩
theorem Kept.new {P : World → Prop} {w : World} [Mono P] (h : Kept P w) (cs : Array Value) (t : TypeId) : Kept (fun w' => P w' ∧ Blk w' w.heap.size t cs) (w.alloc (.cells cs t)) := ⟨h.al _, Blk.new w t cs⟩
theorem Kept.and {P Q : World → Prop} {w : World} (h : Kept P w) (g : Kept Q w) : Kept (fun w => P w ∧ Q w) w := ⟨h, g⟩
theorem Kept.drew {P : World → Prop} {w : World} [Mono P] (h : Kept P w) : Kept P w.drew := h.to ⟨rfl, rfl, rfl, Nat.le_refl _, fun _ _ => rfl⟩
theorem Kept.base {P : World → Prop} {w : World} (h : Kept P w) : Kept (fun w' => P w' ∧ Below w.heap.size w w') w := ⟨h, Below.refl _ _⟩
/-- Two cells of a block known whole. -/
theorem Blk.two {w : World} {g : Nat} {t : TypeId} {x y : Value} (h : Blk w g t #[x, y]) : w.cell? ⟨g, 0, none⟩ = some x ∧ w.cell? ⟨g, 1, none⟩ = some y := ⟨by rw [h.cell]; rfl, by rw [h.cell]; rfl⟩
theorem Blk.one {w : World} {g : Nat} {t : TypeId} {x : Value} (h : Blk w g t #[x]) : w.cell? ⟨g, 0, none⟩ = some x := by rw [h.cell]; rfl

theorem Kept.start (w : World) : Kept (fun w' => Below w.heap.size w w') w := Below.refl _ _
/-- Two cells stored anew. -/
theorem Blk.set2 {w : World} {g : Nat} {t : TypeId} {x y : Value} (h : Blk w g t #[x, y]) (u v : Value) : Blk ((w.setCell ⟨g, 0, none⟩ u).setCell ⟨g, 1, none⟩ v) g t #[u, v] := (h.set_ 0 u).set_ 1 v
theorem Blk.far2 {w : World} {g f : Nat} {t : TypeId} {cs : Array Value} (h : Blk w g t cs) (hp : g ≠ f) (u v : Value) : Blk ((w.setCell ⟨f, 0, none⟩ u).setCell ⟨f, 1, none⟩ v) g t cs := (h.far (p := ⟨f, 0, none⟩) hp u).far (p := ⟨f, 1, none⟩) hp v
theorem below2 {a w : World} {B f : Nat} (h : Below B a w) (hp : B ≤ f) (u v : Value) : Below B a ((w.setCell ⟨f, 0, none⟩ u).setCell ⟨f, 1, none⟩ v) := (h.setCell (p := ⟨f, 0, none⟩) hp u).setCell (p := ⟨f, 1, none⟩) hp v
theorem Mine.set2 {w : World} {base : Nat} {e : TypeId} {k : IntKind} {v : Value} {xs : List Int} (h : Mine w base e k v xs) {f : Nat} (hf : f < base) (x y : Value) : Mine ((w.setCell ⟨f, 0, none⟩ x).setCell ⟨f, 1, none⟩ y) base e k v xs := (h.setLow (a := ⟨f, 0, none⟩) hf x).setLow (a := ⟨f, 1, none⟩) hf y

/-- append(nil, src...) over integers, the new slice written out. -/
theorem wpList_clone {P : Program} {w : World} {ops : Array Oper} {rest : List Oper} {o : Oper} {a : Act} {Q : Exit → Act → World → Prop} (hgd : o.guard = none) (s x : Operand) (t : TypeId)
    (ho : o.op = .call { callee := .builtin .append, args := #[s, x], argTypes := #[t, t] })
    {e : TypeId} {bytes : Nat} {z : Value} (ty : SliceTy P t e 1 bytes z) {k : IntKind}
    (hs : a.eval s = .slice none 0 0)
    {ao : Option Addr} {m c : Nat} {ys : List Int} (hx : a.eval x = .slice ao m c) (hr : Rd w k ao m c ys)
    (hsz : m * bytes ≤ 140737488355328) (hb0 : 0 < bytes)
    (h : ∀ a' c' w', Mine w' w.heap.size e k (.slice a' m c') ys → Below w.heap.size w w' → wpList P ops Q rest (a.put o.dst (.slice a' m c')) w') : wpList P ops Q (o :: rest) a w :=
  wpList_append_new hgd s x t ho ty hs hx hr hsz hb0 fun v' w' hm hb => by
    obtain ⟨a', c', rfl, _, _⟩ := hm.rd
    rw [hr.len] at hm ⊢
    exact h a' c' w' hm hb

/-- Blocks newly laid, behind a call that turns nothing that was there. -/
theorem blk1 {w w1 : World} {c0 : Array Value} {t0 : TypeId} (hb : Below (w.alloc (.cells c0 t0)).heap.size (w.alloc (.cells c0 t0)) w1) : Below w.heap.size w w1 ∧ Blk w1 w.heap.size t0 c0 :=
  ⟨ov (al (rf w) _) (hb.mono (Nat.le_refl _)), (Blk.new w t0 c0).below hb (by simp)⟩
theorem blk2 {w w1 : World} {c0 c1 : Array Value} {t0 t1 : TypeId} (hb : Below ((w.alloc (.cells c0 t0)).alloc (.cells c1 t1)).heap.size ((w.alloc (.cells c0 t0)).alloc (.cells c1 t1)) w1) :
    Below w.heap.size w w1 ∧ Blk w1 w.heap.size t0 c0 ∧ Blk w1 (w.heap.size + 1) t1 c1 := by
  obtain ⟨h1, h2⟩ := blk1 hb
  rw [World.size_alloc] at h2
  exact ⟨ov (al (rf w) (.cells c0 t0)) h1, (Blk.new w t0 c0).below h1 (by simp), h2⟩
theorem blk3 {w w1 : World} {c0 c1 c2 : Array Value} {t0 t1 t2 : TypeId} (hb : Below (((w.alloc (.cells c0 t0)).alloc (.cells c1 t1)).alloc (.cells c2 t2)).heap.size (((w.alloc (.cells c0 t0)).alloc (.cells c1 t1)).alloc (.cells c2 t2)) w1) :
    Below w.heap.size w w1 ∧ Blk w1 w.heap.size t0 c0 ∧ Blk w1 (w.heap.size + 1) t1 c1 ∧ Blk w1 (w.heap.size + 1 + 1) t2 c2 := by
  obtain ⟨h1, h2, h3⟩ := blk2 hb
  rw [World.size_alloc] at h2 h3
  exact ⟨ov (al (rf w) (.cells c0 t0)) h1, (Blk.new w t0 c0).below h1 (by simp), h2, h3⟩

end Go.Proofs.Ytfakdapglbgokaa
