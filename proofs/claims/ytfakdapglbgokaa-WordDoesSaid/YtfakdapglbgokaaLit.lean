/-
  append of a literal's numbers to an own slice. No program in sight. No condition.
-/
import Derived.Test.YtfakdapglbgokaaKept
import Derived.ArgAppend
import Derived.Lib.SmallJoins
namespace Go.Proofs.Ytfakdapglbgokaa
set_option linter.all false
open Go.RowKit

theorem Blk.grown {w w' : World} {g : Nat} {t : TypeId} {cs : Array Value} {row : Option Nat} (h : Blk w g t cs) (hb : w.grownBy w' row) (hg : some g ≠ row) : Blk w' g t cs := (hb.block g h.lt hg).trans h
theorem own_ne {w : World} {base g size n : Nat} {e t : TypeId} {v : Value} {xs : List Value} {cs : Array Value} (h : w.ownsRow base e size v n xs) (hg : Blk w g t cs) (hne : e ≠ t) : v.ownBlock ≠ some g := by
  rcases h.2 with ⟨rfl, _⟩ | ⟨g', cap, cur, rfl, _, hh, _⟩
  · simp [Value.ownBlock]
  · intro he
    have : g' = g := by simpa [Value.ownBlock] using he
    subst this
    unfold Blk at hg
    rw [hh] at hg
    injection hg with hg
    injection hg with _ ht
    exact hne ht
/-- append(v, y1, .., ym): v of the call's own make (or nil), the numbers in a block newly laid. -/
theorem wpList_append_lit {P : Program} {w : World} {ops : Array Oper} {rest : List Oper} {o : Oper} {a : Act} {Q : Exit → Act → World → Prop} (hgd : o.guard = none) (s x : Operand) (t : TypeId)
    (ho : o.op = .call { callee := .builtin .append, args := #[s, x], argTypes := #[t, t] })
    {e : TypeId} {bytes : Nat} {z : Value} (ty : SliceTy P t e 1 bytes z) (base : Nat) {k : IntKind}
    {v : Value} {xs : List Int} (hs : a.eval s = v) (hown : Mine w base e k v xs) {ys : List Int} {N m : Nat}
    (hx : a.eval x = .slice (some ⟨N, 0, none⟩) m m) (hN : N = w.heap.size) (hm : ys.length = m) (hy : AllFit k ys) (cs : Array Value) (hcs : cs = (ints k ys).toArray)
    (hsz : (xs.length + m) * bytes ≤ 140737488355328) (hb0 : 0 < bytes) (hml : m ≤ 1000000) (hbase : base ≤ w.heap.size)
    (h : ∀ v' w', Mine w' base e k v' (xs ++ ys) → Below base w w' → (∀ g t' cs', Blk w g t' cs' → t' ≠ e → Blk w' g t' cs') → wpList P ops Q rest (a.put o.dst v') w') : wpList P ops Q (o :: rest) a (w.alloc (.cells cs e)) := by
  subst hN hm hcs
  have hl : Rd (w.alloc (.cells (ints k ys).toArray e)) k (some ⟨w.heap.size, 0, none⟩) ys.length ys.length ys := Rd.lit k ys e w.heap.size (heap_alloc_new w _) hy hml
  have hm : Mine (w.alloc (.cells (ints k ys).toArray e)) base e k v xs := hown.below ((Below.refl _ _).alloc (Nat.le_refl _) _)
  refine wpList_append_rd hgd s x t ho ty base hs hm hx hl hsz hb0 (by simp; omega) fun v' w' h1 h2 => ?_
  exact h v' w' h1 (((Below.refl _ _).alloc hbase _).grown h2 (by simp; omega) fun g hg => (hown.1.lt g hg).1) fun g t' cs' hB ht => Blk.grown (hB.alloc _) h2 (Ne.symm (own_ne hown.1 hB (Ne.symm ht)))

/-- A literal's slice is an own one. -/
theorem Mine.lit {w : World} {base g : Nat} {e : TypeId} {k : IntKind} {xs : List Int} (hb : Blk w g e (ints k xs).toArray) (hf : AllFit k xs) (hm : xs.length ≤ 1000000) (hg : base ≤ g) : Mine w base e k (.slice (some ⟨g, 0, none⟩) xs.length xs.length) xs := by
  refine ⟨⟨by rw [ints_length]; omega, .inr ⟨g, xs.length, (ints k xs).toArray, rfl, hg, hb, Nat.le_refl _, by unfold maxLen; omega, by simp [ints], ?_⟩⟩, hf⟩
  simp [ints, List.take_of_length_le]

/-- append(v, y1, .., ym) beyond v's room: v whatever slice that reads as numbers. -/
theorem wpList_append_over {P : Program} {w : World} {ops : Array Oper} {rest : List Oper} {o : Oper} {a : Act} {Q : Exit → Act → World → Prop} (hgd : o.guard = none) (s x : Operand) (t : TypeId)
    (ho : o.op = .call { callee := .builtin .append, args := #[s, x], argTypes := #[t, t] })
    {e : TypeId} {bytes : Nat} {z : Value} (ty : SliceTy P t e 1 bytes z) {k : IntKind}
    {g n cap : Nat} {xs : List Int} (hs : a.eval s = .slice (some ⟨g, 0, none⟩) n cap) (hr : Rd w k (some ⟨g, 0, none⟩) n cap xs) {ys : List Int} {N m : Nat}
    (hx : a.eval x = .slice (some ⟨N, 0, none⟩) m m) (hN : N = w.heap.size) (hm : ys.length = m) (hy : AllFit k ys) (cs : Array Value) (hcs : cs = (ints k ys).toArray)
    (hfull : cap < n + m) (hsz : (n + m) * bytes ≤ 140737488355328) (hb0 : 0 < bytes) (hml : m ≤ 1000000)
    (h : ∀ a' c' w', Mine w' w.heap.size e k (.slice a' (n + m) c') (xs ++ ys) → Below w.heap.size w w' → wpList P ops Q rest (a.put o.dst (.slice a' (n + m) c')) w') : wpList P ops Q (o :: rest) a (w.alloc (.cells cs e)) := by
  subst hN hm hcs
  obtain rfl := hr.len
  obtain ⟨i, hi, hz0, hz1, hz2⟩ := info_parts ty.info
  have hle : xs.length + ys.length ≤ 140737488355328 := Nat.le_trans (Nat.le_mul_of_pos_right _ hb0) hsz
  have hr2 := hr.below (al (rf w) (.cells (ints k ys).toArray e))
  refine wpList_append_grows (w.alloc (.cells (ints k ys).toArray e)) hgd s x t ho e i z 1 bytes ty.und hi hz0 hz1 hz2 ty.cells ty.pos (some ⟨g, 0, none⟩) xs.length cap (ints k xs) hs (by simp) (by rw [ints_length]; omega) ?_ ⟨w.heap.size, 0, none⟩ ys.length ys.length (ints k ys) hx (by rw [ints_length]; omega) ?_ (ints_oneCell k ys) hfull (by unfold maxLen; omega) hsz ?_
  · intro b hb j u hu
    obtain rfl := Option.some.inj hb
    obtain ⟨hj, rfl⟩ := ints_get hu
    obtain ⟨b2, off, e2, hc⟩ := hr2.here (by omega)
    cases e2
    rw [add_plain]
    exact hc j hj
  · intro j u hu
    rw [add_plain, Nat.zero_add, cell_of_row _ w.heap.size j _ e (0, 0) (heap_alloc_new w _)]
    simpa using hu
  · intro v' w' ho' hg
    have hM : Mine w' w.heap.size e k v' (xs ++ ys) := ⟨by
      rw [List.length_append, ints_append]
      have := Mine.base_le (k := k) (xs := xs ++ ys) (base' := w.heap.size) ⟨by rw [List.length_append, ints_append]; exact ho', hr.fit.append hy⟩ (by simp)
      have h1 := this.1
      rw [List.length_append, ints_append] at h1
      exact h1, hr.fit.append hy⟩
    obtain ⟨a', c', rfl, _, _⟩ := hM.rd
    rw [List.length_append] at hM ⊢
    exact h a' c' w' hM ((al (rf w) _).grown hg (by simp) (by simp))

theorem AllFit.nil (k : IntKind) : AllFit k [] := by intro x hx; cases hx
theorem AllFit.cons {k : IntKind} {x : Int} {xs : List Int} (h : Fits k x) (g : AllFit k xs) : AllFit k (x :: xs) := by
  intro y hy
  rcases List.mem_cons.1 hy with rfl | h'
  · exact h
  · exact g _ h'
theorem AllFit.u8s {xs : List Int} (h : ∀ x ∈ xs, 0 ≤ x ∧ x ≤ 255) : AllFit .u8 xs := fun x hx => Fits.of_u8 (h x hx).1 (h x hx).2
end Go.Proofs.Ytfakdapglbgokaa
