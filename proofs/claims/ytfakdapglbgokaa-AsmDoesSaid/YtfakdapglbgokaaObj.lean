/-
  Objects: own slices whose rows lie in a footprint. No program in sight. No condition.
-/
import Derived.Test.YtfakdapglbgokaaLay
import Derived.Maps.AppendAt
namespace Go.Proofs.Ytfakdapglbgokaa
set_option linter.all false
open Go.RowKit

/-- append(v, src...): v of the call's own make (or nil), and where the new row lies. -/
theorem wp_append_at {P : Program} {w : World} {o : Oper} {a : Act} {K : Act → World → Prop} {Q : Exit → Act → World → Prop} (s x : Operand) (t : TypeId)
    (ho : o.op = .call { callee := .builtin .append, args := #[s, x], argTypes := #[t, t] })
    {e : TypeId} {size bytes : Nat} {z : Value} (ty : SliceTy P t e size bytes z)
    (v : Value) (n : Nat) (xs : List Value) (hs : a.eval s = v) (hown : w.ownsRow 0 e size v n xs)
    (ao : Option Addr) (m c : Nat) (news : List Value) (hx : a.eval x = .slice ao m c) (hl : news.length = m * size) (hnone : ao = none → m = 0 ∧ c = 0)
    (hnews : ∀ ad, ao = some ad → ∀ j u, news[j]? = some u → w.cell? (ad.add j) = some u) (h1 : ∀ u ∈ news, u.oneCell' = true)
    (h63 : n + m ≤ maxLen) (hbytes : (n + m) * bytes ≤ 140737488355328)
    (h : ∀ v' w', w'.ownsRow 0 e size v' (n + m) (xs ++ news) → w.grownBy w' v.ownBlock → (v'.ownBlock = v.ownBlock ∨ v'.ownBlock = some w.heap.size) → K (a.put o.dst v') w') : o.wp P a w K Q := by
  obtain ⟨i, hi, hz0, hz1, hz2⟩ := info_parts ty.info
  cases ao with
  | some ad =>
    obtain ⟨v', w', hr, h2, h3, h4, h5⟩ := run_append_own_at (P := P) w 0 t o.type e i z size bytes ty.und hi hz0 hz1 hz2 ty.cells ty.pos v n xs hown ad m c news hl (hnews ad rfl) h1 h63 hbytes (Nat.zero_le _)
    unfold Oper.wp execOp
    simp only [ho, resolve, invoke, builtin, Sem.run_bind, Sem.run_pure, Result.andThen_ok, List.map_toArray, List.map_cons, List.map_nil, hs, hx, hr]
    exact h v' w' h2 h3 h5
  | none =>
    obtain ⟨rfl, rfl⟩ := hnone rfl
    have hn : news = [] := List.eq_nil_of_length_eq_zero (by simpa using hl)
    subst hn
    have hrun := run_append_owned_none (P := P) (w := w) 0 t o.type e i size ty.und hi v n xs hown
    unfold Oper.wp
    simp [execOp, ho, resolve, invoke, builtin, hs, hx, hrun, Result.andThen]
    exact h v w (by simpa using hown) (World.grownBy.refl _ _) (.inl rfl)

/-- An own slice of things whose row lies in a footprint. -/
structure OwnL {α : Type} (L : Lay α) (A : Nat → Prop) (w : World) (Fp : Nat → Prop) (e : TypeId) (v : Value) (xs : List α) : Prop where
  mine : MineL L A w 0 e v xs
  row : ∀ k, v.ownBlock = some k → Fp k
theorem OwnL.nil {α : Type} (L : Lay α) (A : Nat → Prop) (w : World) (Fp : Nat → Prop) (e : TypeId) : OwnL L A w Fp e (.slice none 0 0) [] := ⟨MineL.nil _ _ _ _ _, by simp [Value.ownBlock]⟩
theorem OwnL.step {α : Type} {L : Lay α} {A : Nat → Prop} {w w' : World} {Fp : Nat → Prop} {e : TypeId} {v : Value} {xs : List α} (h : OwnL L A w Fp e v xs) {S : Nat → Prop} (hs : Step S w w') (hd : ∀ k, v.ownBlock = some k → ¬ S k) (hA : ∀ k, S k → A k) : OwnL L A w' Fp e v xs :=
  ⟨h.mine.step hs hd hA, h.row⟩
theorem OwnL.ne {α : Type} {L : Lay α} {A : Nat → Prop} {w : World} {Fp : Nat → Prop} {e t : TypeId} {v : Value} {xs : List α} {g : Nat} {cs : Array Value} (h : OwnL L A w Fp e v xs) (hg : Blk w g t cs) (hne : e ≠ t) : v.ownBlock ≠ some g := by
  obtain ⟨⟨cs', ho, _⟩, _⟩ := h
  exact own_ne ho hg hne
theorem OwnL.apart {α β : Type} {L : Lay α} {M : Lay β} {A A' : Nat → Prop} {w : World} {Fp Fp' : Nat → Prop} {e e' : TypeId} {v v' : Value} {xs : List α} {ys : List β} (h : OwnL L A w Fp e v xs) (g : OwnL M A' w Fp' e' v' ys) (hne : e ≠ e') : ∀ k, v.ownBlock = some k → v'.ownBlock ≠ some k := by
  obtain ⟨⟨cs, ⟨_, ho⟩, _⟩, _⟩ := h
  intro k hk
  rcases ho with ⟨rfl, _⟩ | ⟨b, cap, cur, rfl, _, hb, _⟩
  · simp [Value.ownBlock] at hk
  · obtain rfl : b = k := by simpa [Value.ownBlock] using hk
    exact g.ne (t := e) (cs := cur) hb (Ne.symm hne)
theorem OwnL.form {α : Type} {L : Lay α} {A : Nat → Prop} {w : World} {Fp : Nat → Prop} {e : TypeId} {v : Value} {xs : List α} (h : OwnL L A w Fp e v xs) {n : Nat} (hn : xs.length = n) : ∃ a c, v = .slice a n c := h.mine.formN hn
theorem OwnL.rd {α : Type} {L : Lay α} [Flat L] {A : Nat → Prop} {w : World} {Fp : Nat → Prop} {e : TypeId} {a : Option Addr} {n c : Nat} {xs : List α} (h : OwnL L A w Fp e (.slice a n c) xs) : RdL L NoA w a n c xs := (MineL.rdF h.mine).no
theorem OwnL.weaken {α : Type} {L : Lay α} {A : Nat → Prop} {w : World} {Fp Fp' : Nat → Prop} {e : TypeId} {v : Value} {xs : List α} (h : OwnL L A w Fp e v xs) (hF : ∀ k, Fp k → Fp' k) : OwnL L A w Fp' e v xs := ⟨h.mine, fun k hk => hF k (h.row k hk)⟩
theorem OwnL.lt {α : Type} {L : Lay α} {A : Nat → Prop} {w : World} {Fp : Nat → Prop} {e : TypeId} {v : Value} {xs : List α} (h : OwnL L A w Fp e v xs) : ∀ g, v.ownBlock = some g → g < w.heap.size := fun g hg => (h.mine.lt g hg).2
/-- append(v, src...): v of a footprint. -/
theorem wp_append_own_ {P : Program} {w : World} {o : Oper} {a : Act} {K : Act → World → Prop} {Q : Exit → Act → World → Prop} (s x : Operand) (t : TypeId)
    (ho : o.op = .call { callee := .builtin .append, args := #[s, x], argTypes := #[t, t] })
    {α : Type} {L : Lay α} [One L] {A : Nat → Prop} {e : TypeId} {bytes : Nat} {z : Value} (ty : SliceTy P t e L.size bytes z) {Fp : Nat → Prop}
    {v : Value} {xs : List α} (hs : a.eval s = v) (hown : OwnL L A w Fp e v xs) (hA : ∀ k, v.ownBlock = some k → A k)
    {ao : Option Addr} {m c : Nat} {ys : List α} (hx : a.eval x = .slice ao m c) (hr : Src L A w ao m c ys)
    (h63 : xs.length + m ≤ maxLen) (hsz : (xs.length + m) * bytes ≤ 140737488355328)
    (h : ∀ v' w', OwnL L A w' (fun k => Fp k ∨ k = w.heap.size) e v' (xs ++ ys) → Step (fun k => v.ownBlock = some k) w w' → K (a.put o.dst v') w') : o.wp P a w K Q := by
  obtain ⟨⟨cs, hc, hcr⟩, hrow⟩ := hown
  obtain ⟨rfl, hnil, news, hnr, hn⟩ := hr
  refine wp_append_at s x t ho ty v xs.length cs hs hc ao ys.length c news hx hnr.length hnil hn hnr.ones h63 hsz ?_
  intro v' w' ho' hg hb
  have hst : Step A w w' := .grown hg hA
  refine h v' w' ⟨⟨cs ++ news, by rw [List.length_append]; exact ho', (hcr.step hst).append (hnr.step hst)⟩, fun k hk => ?_⟩ (.grown hg fun k hk => hk)
  rcases hb with hb | hb
  · exact .inl (hrow k (by rw [← hb]; exact hk))
  · rw [hk] at hb; exact .inr (Option.some.inj hb)
theorem wpList_append_own_ {P : Program} {w : World} {ops : Array Oper} {rest : List Oper} {o : Oper} {a : Act} {Q : Exit → Act → World → Prop} (hgd : o.guard = none) (s x : Operand) (t : TypeId)
    (ho : o.op = .call { callee := .builtin .append, args := #[s, x], argTypes := #[t, t] })
    {α : Type} {L : Lay α} [One L] {A : Nat → Prop} {e : TypeId} {bytes : Nat} {z : Value} (ty : SliceTy P t e L.size bytes z) {Fp : Nat → Prop}
    {v : Value} {xs : List α} (hs : a.eval s = v) (hown : OwnL L A w Fp e v xs) (hA : ∀ k, v.ownBlock = some k → A k)
    {ao : Option Addr} {m c : Nat} {ys : List α} (hx : a.eval x = .slice ao m c) (hr : Src L A w ao m c ys)
    (h63 : xs.length + m ≤ maxLen) (hsz : (xs.length + m) * bytes ≤ 140737488355328)
    (h : ∀ v' w', OwnL L A w' (fun k => Fp k ∨ k = w.heap.size) e v' (xs ++ ys) → Step (fun k => v.ownBlock = some k) w w' → wpList P ops Q rest (a.put o.dst v') w') : wpList P ops Q (o :: rest) a w :=
  wpList_plain hgd fun _ hK => wp_append_own_ s x t ho ty hs hown hA hx hr h63 hsz fun v' w' h1 h2 => hK _ _ (h v' w' h1 h2)
/-- One cell of one thing is another one. -/
theorem RepAll.set_ {α : Type} {L : Lay α} {A : Nat → Prop} {w : World} {xs : List α} {cs : List Value} (h : RepAll L A w xs cs) {i : Nat} (hi : i < xs.length) {j : Nat} (hj : j < L.size) {u : Value} {y : α} (hy : ∀ c, L.rep A w xs[i] c → L.rep A w y (c.set j u)) :
    RepAll L A w (xs.set i y) (cs.set (i * L.size + j) u) := by
  induction xs generalizing cs i with
  | nil => simp at hi
  | cons x xs ih =>
    obtain ⟨c, d, rfl, h1, h2⟩ := h
    have hc := L.len h1
    cases i with
    | zero =>
      refine ⟨c.set j u, d, ?_, hy c h1, h2⟩
      rw [Nat.zero_mul, Nat.zero_add, List.set_append_left _ _ (by omega)]
    | succ i =>
      refine ⟨c, d.set (i * L.size + j) u, ?_, h1, ih h2 (by simpa using hi) (by simpa using hy)⟩
      rw [List.set_append_right _ _ (by rw [hc, Nat.add_mul]; omega), hc, Nat.add_mul]
      congr 2; omega
theorem MineL.setAt {α : Type} {L : Lay α} {A : Nat → Prop} {w : World} {base : Nat} {e : TypeId} {xs : List α} {g n cap : Nat} (h : MineL L A w base e (.slice (some ⟨g, 0, none⟩) n cap) xs) {i : Nat} (hi : i < xs.length) {j : Nat} (hj : j < L.size) {u : Value} {y : α} (hA : A g)
    (hy : ∀ c, L.rep A w xs[i] c → L.rep A w y (c.set j u)) {q : Nat} (hq : q = i * L.size + j) : MineL L A (w.setCell ⟨g, q, none⟩ u) base e (.slice (some ⟨g, 0, none⟩) n cap) (xs.set i y) := by
  subst hq
  obtain ⟨cs, ⟨h1, h2⟩, hr⟩ := h
  refine ⟨cs.set (i * L.size + j) u, ⟨by rw [List.length_set, List.length_set]; exact h1, ?_⟩, (hr.set_ hi hj hy).step (.set A w ⟨g, _, none⟩ hA u)⟩
  rcases h2 with ⟨hv, _⟩ | ⟨g', cap', cur, hv, hg, hh, hn, hm, hcs, ht⟩
  · cases hv
  · cases hv
    refine .inr ⟨g, cap, cur.setIfInBounds (i * L.size + j) u, by rw [List.length_set], hg, ?_, by rw [List.length_set]; exact hn, hm, by simpa using hcs, ?_⟩
    · simp [World.setCell, Array.getElem?_modify, hh]
    · rw [List.length_set]
      have : (cur.setIfInBounds (i * L.size + j) u).toList = cur.toList.set (i * L.size + j) u := by simp
      rw [this, List.take_set, ht]
theorem MineL.cellAt {α : Type} {L : Lay α} {A : Nat → Prop} {w : World} {base : Nat} {e : TypeId} {xs : List α} {g n cap : Nat} (h : MineL L A w base e (.slice (some ⟨g, 0, none⟩) n cap) xs) {i : Nat} (hi : i < xs.length) :
    ∃ c, L.rep A w xs[i] c ∧ (∀ j, j < L.size → w.cell? ⟨g, i * L.size + j, none⟩ = c[j]?) ∧ (∀ j, w.frozen? ⟨g, j, none⟩ = false) ∧ base ≤ g ∧ g < w.heap.size := by
  obtain ⟨cs, ⟨hl, ho⟩, hr⟩ := h
  rcases ho with ⟨hv, _⟩ | ⟨g', cap', cur, hv, hg, hh, hn, hm, hcs, ht⟩
  · cases hv
  · cases hv
    obtain ⟨c, hc, hj⟩ := hr.at_ i hi
    refine ⟨c, hc, fun j hj' => ?_, fun j => by simp [World.frozen?, hh], hg, (Array.getElem?_eq_some_iff.1 hh).1⟩
    rw [cell_of_row w g _ cur e (0, 0) hh, ← hj j hj']
    have hjl : i * L.size + j < xs.length * L.size := Nat.lt_of_lt_of_le (by rw [Nat.add_mul, Nat.one_mul]; omega : i * L.size + j < (i + 1) * L.size) (Nat.mul_le_mul_right _ hi)
    rw [← ht, List.getElem?_take, if_pos hjl]
    simp
/-- An own slice with something in it: its block. -/
theorem MineL.at_ {α : Type} {L : Lay α} {A : Nat → Prop} {w : World} {base : Nat} {e : TypeId} {v : Value} {xs : List α} (h : MineL L A w base e v xs) (h0 : 0 < xs.length) :
    ∃ g cap, v = .slice (some ⟨g, 0, none⟩) xs.length cap ∧ base ≤ g ∧ g < w.heap.size := by
  obtain ⟨cs, ⟨h1, h2⟩, hf⟩ := h
  rcases h2 with ⟨rfl, h0'⟩ | ⟨g, cap, cur, rfl, hg, hh, hn, hm, hcs, ht⟩
  · omega
  · exact ⟨g, cap, rfl, hg, (Array.getElem?_eq_some_iff.1 hh).1⟩
theorem repAll_ints {k : IntKind} {A : Nat → Prop} {w : World} {xs : List Int} {cs : List Value} (h : RepAll (Lay.int k) A w xs cs) : cs = ints k xs ∧ AllFit k xs := by
  induction xs generalizing cs with
  | nil => exact ⟨h, by intro x hx; cases hx⟩
  | cons x xs ih =>
    obtain ⟨c, d, rfl, ⟨rfl, h1⟩, h2⟩ := h
    obtain ⟨rfl, h3⟩ := ih h2
    refine ⟨rfl, fun y hy => ?_⟩
    rcases List.mem_cons.1 hy with rfl | hy
    · exact h1
    · exact h3 y hy
theorem MineL.fit {k : IntKind} {A : Nat → Prop} {w : World} {base : Nat} {e : TypeId} {v : Value} {xs : List Int} (h : MineL (Lay.int k) A w base e v xs) : AllFit k xs := by
  obtain ⟨cs, _, hr⟩ := h
  exact (repAll_ints hr).2
theorem OwnL.exact_ {α : Type} {L : Lay α} {A : Nat → Prop} {w : World} {Fp : Nat → Prop} {e : TypeId} {v : Value} {xs : List α} (h : OwnL L A w Fp e v xs) (Gp : Nat → Prop) (hG : ∀ k, v.ownBlock = some k → Gp k) : OwnL L A w Gp e v xs := ⟨h.mine, hG⟩
end Go.Proofs.Ytfakdapglbgokaa
