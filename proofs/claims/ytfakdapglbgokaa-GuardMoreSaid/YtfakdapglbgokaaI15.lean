/-
  Texts joined: XShT XShM XShN XShO. No condition.
-/
import Derived.Orders
import Derived.Test.YtfakdapglbgokaaI14
import Derived.Test.YtfakdapglbgokaaI13
/-
  The plain machine: contracts about an object that is made, or used, into the plain machine. No condition.
-/
namespace Go.Proofs.Ytfakdapglbgokaa
set_option linter.all false
open Go.RowKit
theorem live_one {id : Nat} {o : SObj} {fp : Nat → Nat → Prop} {k : Nat} : Live [(id, o)] fp k ↔ fp id k := by
  unfold Live
  constructor
  · rintro ⟨j, x, hj, hk⟩
    simp only [geth] at hj
    split at hj
    · rename_i e; subst e; exact hk
    · cases hj
  · exact fun h => ⟨id, o, by simp [geth], h⟩
theorem geth_one {id j : Nat} {o x : SObj} (h : geth [(id, o)] j = some x) : j = id ∧ x = o := by
  simp only [geth] at h
  split at h
  · rename_i e; subst e; cases h; exact ⟨rfl, rfl⟩
  · cases h
/-- A method of one abstract object. -/
theorem scalls_in1 {P : Program} {f : FuncId} {args : List SV} {I1 I2 : AbsI} {r : SV} (he : Enters P f)
    (h : ∀ (O Fp : Nat → Prop) (w : World) (b : Nat) (vs : List Value), I1.I w (fun k => O k ∨ Fp k) Fp b → (∀ k, O k → k < w.heap.size) → (∀ k, Fp k → ¬ O k) → Reps w (fun k => O k ∨ Fp k) noPl args vs →
      Calls P f (.pointer (some ⟨b, 0, none⟩) :: vs).toArray w fun e w' => ∃ v Fp', e = .returned v ∧ I2.I w' (fun k => O k ∨ Fp' k) Fp' b ∧ (∀ k, Fp' k → Fp k ∨ w.heap.size ≤ k) ∧ Step Fp w w' ∧ RepV w' (fun k => O k ∨ Fp' k) noPl r v)
    (ha : ∀ σ, args.map (ren σ) = args) (id q : Nat) : SCalls P f (.ptr id 0 :: args) [(id, .abs I1)] q r [(id, .abs I2)] := by
  refine ⟨he, fun O ρ fp w vs hok hargs hfr => ?_⟩
  obtain ⟨v0, us, rfl, h0, hus⟩ := hargs.cons_inv
  have hL : (fun k => O k ∨ Live [(id, SObj.abs I1)] fp k) = fun k => O k ∨ fp id k := by funext k; rw [live_one]
  rw [hL] at hus
  obtain ⟨b, c, hb, hI⟩ := hok.objs id _ (show geth [(id, SObj.abs I1)] id = some (.abs I1) by simp [geth])
  rw [hL] at hI
  have ha' : Reps w (fun k => O k ∨ fp id k) noPl args us := by
    have h1 : Reps w (fun k => O k ∨ fp id k) ρ (args.map (ren fun _ => q)) us := by rw [ha]; exact hus
    have h2 := rens_back h1
    have e : (fun id => ρ ((fun _ => q) id)) = noPl := by funext id; exact hfr q (Nat.le_refl _) (by omega)
    rw [e] at h2; exact h2
  cases h0 with
  | ptr hp =>
    rw [hb] at hp
    cases hp
    refine (h O (fp id) w b us hI hok.O_lt (fun k hk => (hok.lt k (live_one.2 hk)).2) ha').mono ?_
    rintro e w' ⟨v, Fp', rfl, hI2, hF, hs, hr⟩
    have hfp : ∀ k, (fun j k => if j = id then Fp' k else fp j k) id k ↔ Fp' k := fun k => by simp
    have hL2 : (fun k => O k ∨ Live [(id, SObj.abs I2)] (fun j k => if j = id then Fp' k else fp j k) k) = fun k => O k ∨ Fp' k := by funext k; rw [live_one]; simp
    refine ⟨v, ρ, fun j k => if j = id then Fp' k else fp j k, rfl, ⟨?_, ?_, ?_, ?_⟩, ?_, ?_, fun _ _ h => h, fun _ h => .inl h, ?_⟩
    · intro j o hj
      obtain ⟨rfl, rfl⟩ := geth_one hj
      rw [hL2]
      exact ⟨b, c, hb, by simpa using hI2⟩
    · intro j j' o o' hne h1 h2
      exact absurd ((geth_one h1).1.trans (geth_one h2).1.symm) hne
    · intro k hk
      rw [live_one] at hk
      have hk2 := (hfp k).1 hk
      exact ⟨I2.lt hI2 k hk2, fun ho => (hF k hk2).elim (fun h => (hok.lt k (live_one.2 h)).2 ho) fun h => Nat.not_lt_of_le h (hok.O_lt k ho)⟩
    · exact fun k hk => Nat.lt_of_lt_of_le (hok.O_lt k hk) hs.size
    · rw [hL2]; exact hr.mono (.refl _ _) (fun _ h _ => h) fun _ _ h => by cases h
    · exact hs.mono fun k hk => live_one.2 hk
    · intro j o hj k hk
      obtain ⟨rfl, rfl⟩ := geth_one hj
      exact (hF k ((hfp k).1 hk)).imp (fun h => live_one.2 h) fun h => h
/-- A function that makes an abstract object. -/
theorem scalls_new {P : Program} {f : FuncId} {args : List SV} {I : AbsI} (he : Enters P f)
    (h : ∀ (O : Nat → Prop) (w : World) (vs : List Value), (∀ k, O k → k < w.heap.size) → Reps w O noPl args vs →
      Calls P f vs.toArray w fun e w' => ∃ b Fp, e = .returned (.pointer (some ⟨b, 0, none⟩)) ∧ I.I w' (fun k => O k ∨ Fp k) Fp b ∧ (∀ k, Fp k → w.heap.size ≤ k) ∧ Below w.heap.size w w')
    (ha : ∀ σ, args.map (ren σ) = args) (q : Nat) : SCalls P f args [] q (.ptr q 0) [(q, .abs I)] := by
  refine ⟨he, fun O ρ fp w vs hok hargs hfr => ?_⟩
  have hO : (fun k => O k ∨ Live [] fp k) = O := by funext k; simp [Live, geth]
  rw [hO] at hargs
  have hq : ρ q = none := hfr q (Nat.le_refl _) (by omega)
  have ha' : Reps w O noPl args vs := by
    have h1 : Reps w O ρ (args.map (ren fun _ => q)) vs := by rw [ha]; exact hargs
    have h2 := rens_back h1
    have e : (fun id => ρ ((fun _ => q) id)) = noPl := by funext id; exact hq
    rw [e] at h2; exact h2
  refine (h O w vs hok.O_lt ha').mono ?_
  rintro e w' ⟨b, Fp, rfl, hI, hF, hs⟩
  refine ⟨_, fun j => if j = q then some (some (b, 0)) else ρ j, fun j k => if j = q then Fp k else fp j k, rfl, ⟨?_, ?_, ?_, ?_⟩, .ptr (c := 0) (by simp), .of hs, ?_, ?_, ?_⟩
  · intro j o hj
    obtain ⟨rfl, rfl⟩ := geth_one hj
    have hL2 : (fun k => O k ∨ Live [(j, SObj.abs I)] (fun i k => if i = j then Fp k else fp i k) k) = fun k => O k ∨ Fp k := by funext k; rw [live_one]; simp
    rw [hL2]
    exact ⟨b, 0, by simp, by simpa using hI⟩
  · intro j j' o o' hne h1 h2
    exact absurd ((geth_one h1).1.trans (geth_one h2).1.symm) hne
  · intro k hk
    rw [live_one] at hk
    have hk2 : Fp k := by simpa using hk
    exact ⟨I.lt hI k hk2, fun ho => Nat.not_lt_of_le (hF k hk2) (hok.O_lt k ho)⟩
  · exact fun k hk => Nat.lt_of_lt_of_le (hok.O_lt k hk) hs.size
  · intro j p hj
    have : j ≠ q := fun e => by subst e; rw [hq] at hj; cases hj
    simpa [this] using hj
  · intro j hj
    by_cases e : j = q
    · exact .inr ⟨by omega, by omega⟩
    · exact .inl (by simpa [e] using hj)
  · intro j o hj k hk
    obtain ⟨rfl, rfl⟩ := geth_one hj
    exact .inr (hF k (by simpa using hk))
end Go.Proofs.Ytfakdapglbgokaa

/-
  The plain machine: an operation looks at what it says it looks at; the order of a region that draws. No condition.
-/
namespace Go.Proofs.Ytfakdapglbgokaa
set_option linter.all false
open Go.RowKit

/-- An operation's operands. -/
def SOp.sxs : SOp → List SX
  | .mv x | .box _ x | .load x | .loads _ x | .nilc x | .un _ x | .conv _ x | .faddr _ x | .field _ _ x | .extr x _ | .len _ x => [x]
  | .pick c a b => [c, a, b]
  | .alloc _ _ => []
  | .build _ ps => ps.map (·.2.2)
  | .mkrow _ _ _ _ ps => ps.map (·.2)
  | .store _ x v | .bin _ x v | .eq _ _ x v | .eqs _ _ x v | .mkslice _ _ _ _ x v | .iaddr _ x v | .iarr _ _ x v | .idx _ _ _ x v | .idxs x v | .app _ _ _ x v | .mm _ x v => [x, v]
  | .slice _ x lo hi | .slstr x lo hi => x :: (lo.toList ++ hi.toList)
  | .mkfn _ a b => a ++ b
theorem rowOf_congr {size : Nat} {g g' : Nat → Option SObj} {x : SV} (h : ∀ id ∈ idOf x, g id = g' id) : rowOf size g x = rowOf size g' x := by
  unfold rowOf
  split <;> first | rfl | (rw [h _ (by simp [idOf])])
theorem run_congr {op : SOp} {ev ev' : SX → SV} {g g' : Nat → Option SObj} {nx : Nat} (h : ∀ x ∈ op.sxs, ev x = ev' x) (hg : ∀ id ∈ op.touch ev, g id = g' id) : op.run ev g nx = op.run ev' g' nx := by
  cases op
  case load x =>
    have e := h x (by simp [SOp.sxs])
    simp only [SOp.touch] at hg
    simp only [SOp.run, ← e]
    split <;> first | rfl | (rename_i hq; rw [hg _ (by rw [hq]; simp [idOf])])
  case loads n x =>
    have e := h x (by simp [SOp.sxs])
    simp only [SOp.touch] at hg
    simp only [SOp.run, ← e]
    split <;> first | rfl | (rename_i hq; rw [hg _ (by rw [hq]; simp [idOf])])
  case store n x v =>
    have e := h x (by simp [SOp.sxs])
    have e2 := h v (by simp [SOp.sxs])
    simp only [SOp.touch] at hg
    simp only [SOp.run, ← e, ← e2]
    split
    · rfl
    · split
      · split <;> first | rfl | (rename_i hq; rw [hg _ (by rw [hq]; simp [idOf])])
      · rfl
  case app e size bytes s x =>
    have e1 := h s (by simp [SOp.sxs])
    have e2 := h x (by simp [SOp.sxs])
    simp only [SOp.touch] at hg
    simp only [SOp.run, ← e1, ← e2]
    rw [rowOf_congr (g := g) (g' := g') fun id hid => hg id (List.mem_append_right _ hid)]
    split
    · rfl
    · split
      · rfl
      · rename_i hs; rw [hg _ (List.mem_append_left _ (by rw [hs]; simp [idOf]))]
      · rfl
  case build z ps =>
    have e : (ps.map fun p => (p.1, p.2.1, ev p.2.2)) = ps.map fun p => (p.1, p.2.1, ev' p.2.2) := List.map_congr_left fun p hp => by rw [h p.2.2 (by simp [SOp.sxs]; exact ⟨_, _, hp⟩)]
    simp only [SOp.run, e]
  case mkrow e size n z ps =>
    have e : (ps.map fun p => (p.1, ev p.2)) = ps.map fun p => (p.1, ev' p.2) := List.map_congr_left fun p hp => by rw [h p.2 (by simp [SOp.sxs]; exact ⟨_, hp⟩)]
    simp only [SOp.run, e]
  case mkfn f gs bs =>
    have e1 : gs.map ev = gs.map ev' := List.map_congr_left fun p hp => h p (by simp [SOp.sxs, hp])
    have e2 : bs.map ev = bs.map ev' := List.map_congr_left fun p hp => h p (by simp [SOp.sxs, hp])
    simp only [SOp.run, e1, e2]
  case slice size x lo hi =>
    have e := h x (by simp [SOp.sxs])
    have e1 : lo.map ev = lo.map ev' := by cases lo with | none => rfl | some y => simp [h y (by simp [SOp.sxs])]
    have e2 : hi.map ev = hi.map ev' := by cases hi with | none => rfl | some y => simp [h y (by simp [SOp.sxs])]
    simp only [SOp.run, ← e, e1, e2]
  case slstr x lo hi =>
    have e := h x (by simp [SOp.sxs])
    have e1 : lo.map ev = lo.map ev' := by cases lo with | none => rfl | some y => simp [h y (by simp [SOp.sxs])]
    have e2 : hi.map ev = hi.map ev' := by cases hi with | none => rfl | some y => simp [h y (by simp [SOp.sxs])]
    simp only [SOp.run, ← e, e1, e2]
  all_goals simp only [SOp.sxs, List.mem_cons, List.not_mem_nil, or_false, forall_eq_or_imp, forall_eq, false_implies, implies_true] at h
  all_goals first
    | (obtain ⟨e1, e2, e3⟩ := h; simp only [SOp.run, ← e1, ← e2, ← e3]; done)
    | (obtain ⟨e1, e2⟩ := h; simp only [SOp.run, ← e1, ← e2]; done)
    | (simp only [SOp.run, ← h]; done)
    | (simp only [SOp.run]; done)
/-- The temporaries that an operation looks at. -/
def tmpsOf : List SX → List Nat
  | [] => []
  | .t n :: l => n :: tmpsOf l
  | .c _ :: l => tmpsOf l
def SOper.reads (o : SOper) : List Nat := (match o.cal with
  | some (f, args) => tmpsOf (f :: args)
  | none => tmpsOf o.op.sxs) ++ (match o.grd with
  | some (t, _) => [t]
  | none => [])
theorem ev_tmps {l l' : Sl} : ∀ {xs : List SX}, (∀ t ∈ tmpsOf xs, gets l t = gets l' t) → ∀ x ∈ xs, SX.ev l x = SX.ev l' x
  | [], _, x, hx => by cases hx
  | .t n :: xs, h, x, hx => by
    rcases List.mem_cons.1 hx with e | e
    · subst e; exact h n (by simp [tmpsOf])
    · exact ev_tmps (xs := xs) (fun t ht => h t (by simp [tmpsOf, ht])) x e
  | .c v :: xs, h, x, hx => by
    rcases List.mem_cons.1 hx with e | e
    · subst e; rfl
    · exact ev_tmps (xs := xs) (fun t ht => h t (by simpa [tmpsOf] using ht)) x e
end Go.Proofs.Ytfakdapglbgokaa

/-
  The plain machine: a region that draws its order does what it does in the order of its text, if what does not stand apart is ordered. No condition.
-/
namespace Go.Proofs.Ytfakdapglbgokaa
set_option linter.all false
open Go.RowKit

/-- What one operation does to a state: a temporary, the objects of wr. -/
structure Eff where
  dst : Option Nat
  v : SV
  wr : List Nat
  c : Nat → Option SObj
def Eff.at (e : Eff) (t t' : SSt) : Prop :=
  (∀ x, gets t'.sl x = if e.dst = some x then e.v else gets t.sl x) ∧ ∀ id, geth t'.hp id = if id ∈ e.wr then e.c id else geth t.hp id
variable {X : Cx} {s : SSt}
/-- An operation, from whatever state that agrees with s where it looks. -/
def Loc (X : Cx) (ops : Array Oper) (o : Oper) (reads rd : List Nat) (lo hi : Nat) (s : SSt) (e : Eff) : Prop :=
  ∀ (t : SSt) (ρ : Plan_) (fp : Nat → Nat → Prop) (a : Act) (w : World), Sim X ρ fp t a w → (∀ y ∈ reads, gets t.sl y = gets s.sl y) → (∀ id, id ∈ rd ∨ id ∈ e.wr → geth t.hp id = geth s.hp id) → (∀ id, lo ≤ id → id < hi → ρ id = none) →
    ∀ (K : Act → World → Prop) (R : Exit → Act → World → Prop), (∀ t' ρ' fp' a' w', e.at t t' → Sim X ρ' fp' t' a' w' → (∀ id, ρ' id ≠ none → ρ id ≠ none ∨ (lo ≤ id ∧ id < hi)) → K a' w') →
      if Region.wanted o (yielded ops a.tmps) = true then o.wp X.P a w K R else K (a.put o.dst undef) w
theorem gets_putd (l : Sl) (d : Option Nat) (v : SV) (x : Nat) : gets (putd l d v) x = if d = some x then v else gets l x := by
  cases d with
  | none => simp [putd]
  | some d => simp only [putd, gets_puts, Option.some.injEq, eq_comm]
/-- The last word on an object. -/
def lastU : Upd → Nat → Option SObj → Option SObj
  | [], _, x => x
  | (i, o) :: u, id, x => lastU u id (if i = id then o else x)
theorem geth_upds : ∀ (u : Upd) (h : Hp) (id : Nat), geth (upds h u) id = lastU u id (geth h id)
  | [], h, id => rfl
  | (i, some o) :: u, h, id => by
    rw [upds, geth_upds u, geth_puth, lastU]
    by_cases e : id = i
    · simp [e]
    · simp [e, Ne.symm e]
  | (i, none) :: u, h, id => by
    rw [upds, geth_upds u, geth_delh, lastU]
    by_cases e : id = i
    · simp [e]
    · simp [e, Ne.symm e]
theorem lastU_not {u : Upd} {id : Nat} : ∀ {x}, id ∉ u.map (·.1) → lastU u id x = x := by
  induction u with
  | nil => intro x _; rfl
  | cons p u ih =>
    obtain ⟨i, o⟩ := p
    intro x h
    simp only [List.map_cons, List.mem_cons, not_or] at h
    rw [lastU, if_neg (Ne.symm h.1)]
    exact ih h.2
theorem lastU_mem {u : Upd} {id : Nat} : ∀ {x y}, id ∈ u.map (·.1) → lastU u id x = lastU u id y := by
  induction u with
  | nil => intro x y h; simp at h
  | cons p u ih =>
    obtain ⟨i, o⟩ := p
    intro x y h
    simp only [List.map_cons, List.mem_cons] at h
    rw [lastU, lastU]
    by_cases e : i = id
    · simp [e]
    · rw [if_neg e, if_neg e]
      exact ih (h.resolve_left (Ne.symm e))
theorem geth_ids' : ∀ {h : Hp} {id : Nat} {o : SObj}, geth h id = some o → id ∈ idsH h
  | [], id, o, h => by cases h
  | (i, x) :: r, id, o, h => by
    by_cases e : i = id
    · subst e; simp [idsH]
    · simp only [geth, if_neg e] at h
      exact List.mem_cons_of_mem _ (geth_ids' h)
theorem ids_geth : ∀ {h : Hp} {id : Nat}, id ∈ idsH h → geth h id ≠ none
  | [], id, h => by cases h
  | (i, x) :: r, id, h => by
    by_cases e : i = id
    · subst e; simp [geth]
    · simp only [geth, if_neg e]
      simp only [idsH, List.map_cons, List.mem_cons] at h
      exact ids_geth (h.resolve_left (Ne.symm e))
/-- One step of the order of the text. -/
def Stp (X : Cx) (ops : Array Oper) (o : Oper) (so : SOper) (s s' : SSt) (x : Tch) : Prop :=
  s.nx ≤ s'.nx ∧ ∃ e : Eff, e.dst = so.dst ∧ e.wr = x.wr ∧ e.at s s' ∧ Loc X ops o so.reads x.rd s.nx s'.nx s e
theorem skip_loc {ops : Array Oper} {o : Oper} {b : Nat} {so : SOper} (hc : coper X.P X.N ops o b = some so) (hw : ∀ (t : SSt) ρ fp a w, Sim X ρ fp t a w → (∀ y ∈ so.reads, gets t.sl y = gets s.sl y) → Region.wanted o (yielded ops a.tmps) = false) : Stp X ops o so s (s.skip so) ⟨[], []⟩ := by
  obtain ⟨hdst, hd, _, _, _⟩ := coper_inv hc
  refine ⟨Nat.le_refl _, ⟨so.dst, .tup [], [], fun _ => none⟩, rfl, rfl, ⟨fun x => gets_putd _ _ _ _, fun id => by simp [SSt.skip]⟩, ?_⟩
  intro t ρ fp a w h hr _ _ K R hK
  rw [hw t ρ fp a w h hr]
  simp only [Bool.false_eq_true, if_false]
  refine hK ⟨putd t.sl so.dst (.tup []), t.hp, t.nx⟩ ρ fp _ _ ⟨fun x => gets_putd _ _ _ _, fun id => by simp⟩ ?_ (fun id hid => .inl hid)
  have := h.put (nx' := t.nx) h.h (.refl _ _ _) (RepV.tup (cs := []) (vs := []) rfl (by simp)) (dst := so.dst) (by rw [hdst]; exact hd)
  rw [hdst] at this ⊢
  exact this
/-- One operation, as a step. -/
theorem op1_stp {ops : Array Oper} {o : Oper} {b : Nat} {so : SOper} (hc : coper X.P X.N ops o b = some so) (hle : X.m ≤ s.nx) {K : SSt → Tch → Prop} (hk : SOp1 X.P so s K) (hw : ∀ (t : SSt) ρ fp a w, Sim X ρ fp t a w → (∀ y ∈ so.reads, gets t.sl y = gets s.sl y) → Region.wanted o (yielded ops a.tmps) = true) : ∃ s' x, K s' x ∧ Stp X ops o so s s' x := by
  obtain ⟨hdst, hd, _, _, hop⟩ := coper_inv hc
  unfold SOp1 at hk
  rcases hop with ⟨hcal, hop⟩ | ⟨f, args, g, gs, tys, hcal, hop, hf, hargs⟩
  · rw [hcal] at hk
    simp only at hk
    split at hk
    · rename_i v u nx' hr
      refine ⟨_, _, hk, Nat.le_succ _, ⟨so.dst, v, u.map (·.1), fun id => lastU u id none⟩, rfl, rfl, ⟨fun x => gets_putd _ _ _ _, fun id => ?_⟩, ?_⟩
      · rw [geth_upds]
        split
        · exact lastU_mem ‹_›
        · exact lastU_not ‹_›
      · intro t ρ fp a w h hrd hobj hfr K' R hK
        rw [if_pos (hw t ρ fp a w h hrd)]
        have hsub : ∀ y ∈ tmpsOf so.op.sxs, gets s.sl y = gets t.sl y := fun y hy => (hrd y (by simp [SOper.reads, hcal, hy])).symm
        have hev := ev_tmps hsub
        have hr2 : so.op.run (·.ev t.sl) (geth t.hp) s.nx = some (v, u, nx') := by
          rw [← hr]
          exact (run_congr hev fun id hid => (hobj id (.inl hid)).symm).symm
        obtain ⟨v', w', h1, ρ', fp', h2, h3, h4, h5⟩ := op_ok h.h h.slots hop hle (hfr _ (Nat.le_refl _) (Nat.lt_succ_self _)) hr2
        refine (h1 o rfl).upon (hK ⟨putd t.sl so.dst v, upds t.hp u, t.nx⟩ ρ' fp' _ _ ⟨fun x => gets_putd _ _ _ _, fun id => ?_⟩ ?_ (fun id hid => (h5 id hid).imp (fun h => h) fun e => by simp only; omega))
        · show geth (upds t.hp u) id = _
          rw [geth_upds]
          split
          · exact lastU_mem ‹_›
          · exact lastU_not ‹_›
        · have := h.put (nx' := t.nx) h2 h4 h3 (dst := so.dst) (by rw [hdst]; exact hd)
          rw [hdst] at this ⊢; exact this
    · cases hk
  · rw [hcal] at hk
    simp only at hk
    split at hk
    · rename_i g' first cap hfv
      obtain ⟨h1, r, h2, rd, ⟨hent, hcall⟩, hsub, hu, hrd0, hk⟩ := hk
      have mem_ids : ∀ {h : Hp} {id : Nat} {o : SObj}, geth h id = some o → id ∈ idsH h := fun h => geth_ids' h
      have heff : ∀ t : SSt, (∀ id, id ∈ rd ∨ id ∈ (idsH h1 ++ idsH h2).filter (fun i => !rd.contains i) → geth t.hp id = geth s.hp id) → ∀ id, geth (mergeH t.hp h1 h2) id = if id ∈ (idsH h1 ++ idsH h2).filter (fun i => !rd.contains i) then geth h2 id else geth t.hp id := by
        intro t ht id
        rw [geth_merge hu]
        by_cases hin : id ∈ (idsH h1 ++ idsH h2).filter (fun i => !rd.contains i)
        · rw [if_pos hin]
          cases e : geth h2 id with
          | some o => rfl
          | none =>
            simp only
            split
            · rfl
            · rename_i h3
              have h3' : geth h1 id = none := by simpa using h3
              rw [List.mem_filter, List.mem_append] at hin
              exfalso
              rcases hin.1 with h4 | h4
              · exact ids_geth h4 h3'
              · exact ids_geth h4 e
        · rw [if_neg hin]
          by_cases hr : id ∈ rd
          · rw [hrd0 id hr]
            cases e : geth h1 id with
            | none => simp
            | some o =>
              simp only
              rw [ht id (.inl hr), hsub.get id o e]
          · have hni : id ∉ idsH h1 ++ idsH h2 := fun h3 => hin (List.mem_filter.2 ⟨h3, by simpa using hr⟩)
            rw [List.mem_append, not_or] at hni
            have n1 : geth h1 id = none := by
              cases e : geth h1 id with
              | none => rfl
              | some o => exact absurd (mem_ids e) hni.1
            have n2 : geth h2 id = none := by
              cases e : geth h2 id with
              | none => rfl
              | some o => exact absurd (mem_ids e) hni.2
            rw [n1, n2]; simp
      refine ⟨_, _, hk, by simp only; omega, ⟨so.dst, r, (idsH h1 ++ idsH h2).filter (fun i => !rd.contains i), geth h2⟩, rfl, rfl, ⟨fun x => gets_putd _ _ _ _, heff s fun _ _ => rfl⟩, ?_⟩
      intro t ρ fp a w h hrd hobj hfr K' R hK
      rw [if_pos (hw t ρ fp a w h hrd)]
      have hsubt : ∀ y ∈ tmpsOf (f :: args), gets s.sl y = gets t.sl y := fun y hy => (hrd y (by simp [SOper.reads, hcal, hy])).symm
      have hev := ev_tmps hsubt
      have hfv2 : f.ev t.sl = .fn (.func g') first cap := by rw [← hev f (by simp)]; exact hfv
      have hargs2 : args.map (·.ev t.sl) = args.map (·.ev s.sl) := List.map_congr_left fun x hx => (hev x (by simp [hx])).symm
      have hsub' : ∀ id o, geth h1 id = some o → geth t.hp id = some o := fun id o ho => by
        rw [hobj id ?_]
        · exact hsub.get id o ho
        · by_cases hr : id ∈ rd
          · exact .inl hr
          · exact .inr (List.mem_filter.2 ⟨List.mem_append_left _ (mem_ids ho), by simpa using hr⟩)
      have rf := cx_rep hf h.slots
      rw [hfv2] at rf
      have rargs := cxs_reps hargs h.slots
      rw [hargs2] at rargs
      generalize hgv : a.eval g = gv at rf
      cases rf with
      | fn l1 l2 r1 r2 =>
        rename_i vs us
        have hav : ∀ k, (Rest X fp t.hp h1 k ∨ Live h1 fp k) → Av X t.hp fp k := fun k hk => (Rest.av hsub' k).1 hk
        have hreps : Reps w (fun k => Rest X fp t.hp h1 k ∨ Live h1 fp k) ρ (first ++ args.map (·.ev s.sl) ++ cap) (vs ++ gs.toList.map a.eval ++ us) :=
          ((Reps.append (Reps.append ⟨l1, r1⟩ rargs) ⟨l2, r2⟩)).weaken fun k hk _ => hav k hk
        have := hcall (Rest X fp t.hp h1) ρ fp w _ (h.h.part hsub') hreps hfr
        have hrun : (execOp a.eval o).run X.P w = .ok (.enter g' (vs ++ gs.toList.map a.eval ++ us).toArray) w := by
          have e1 : (vs.toArray ++ gs.map a.eval ++ us.toArray) = (vs ++ gs.toList.map a.eval ++ us).toArray := by apply Array.ext'; simp
          simp only [execOp, hop, resolve, hgv, Deferred.ofValue, Sem.run_bind, Sem.run_pure, Result.andThen_ok, invoke, e1]
          exact hent _ _
        unfold Oper.wp
        rw [hrun, Oper.upon_enter]
        refine this.mono ?_
        rintro e w' ⟨v, ρ', fp', rfl, q1, q2, q3, q4, q5, q6⟩
        obtain ⟨p1, p2, p3⟩ := h.h.called hsub' hu (q := s.nx) hle q1 q3 q4 q5 q6
        refine hK ⟨putd t.sl so.dst r, mergeH t.hp h1 h2, t.nx⟩ ρ' (fun id k => (geth h2 id ≠ none ∧ fp' id k) ∨ (geth h2 id = none ∧ fp id k)) _ _ ⟨fun x => gets_putd _ _ _ _, heff t hobj⟩ ?_ q5
        have := h.put (nx' := t.nx) p1 p2 (q2.weaken fun k hk _ => p3 k hk) (dst := so.dst) (by rw [hdst]; exact hd)
        rw [hdst] at this ⊢; exact this
    · cases hk
end Go.Proofs.Ytfakdapglbgokaa

/-
  The plain machine: a region that draws its order, whole. No condition.
-/
namespace Go.Proofs.Ytfakdapglbgokaa
set_option linter.all false
open Go.RowKit

def clash (a b : SOper × Tch) : Bool :=
  (match a.1.dst with | some d => b.1.reads.contains d || b.1.dst == some d | none => false) || (match b.1.dst with | some d => a.1.reads.contains d | none => false) ||
    a.2.wr.any (fun i => b.2.rd.contains i || b.2.wr.contains i) || b.2.wr.any fun i => a.2.rd.contains i
/-- What does not stand apart is ordered. -/
def okDraw (l : List (SOper × Tch)) : Bool :=
  (List.range l.length).all fun j => (List.range j).all fun i => match l[i]?, l[j]? with
    | some a, some b => !clash a b || b.1.bef.testBit i
    | _, _ => true
theorem okDraw_spec {l : List (SOper × Tch)} (h : okDraw l = true) {i j : Nat} {a b : SOper × Tch} (hij : i < j) (ha : l[i]? = some a) (hb : l[j]? = some b) (hc : clash a b = true) : b.1.bef.testBit i = true := by
  have hj : j < l.length := (List.getElem?_eq_some_iff.1 hb).1
  have h1 := List.all_eq_true.1 (List.all_eq_true.1 h j (List.mem_range.2 hj)) i (List.mem_range.2 hij)
  simpa [ha, hb, hc] using h1

/-- What 'before' says. -/
def befG (acc : Array Nat) (o : Oper) : Nat := o.after.foldl (fun s e => if Region.binds .any e then s ||| 2 ^ e.on ||| acc.getD e.on 0 else s) 0
theorem befG_spec (acc : Array Nat) (o : Oper) (i : Nat) (h : (befG acc o).testBit i = true) : ∃ e ∈ o.after.toList, Region.binds .any e = true ∧ (e.on = i ∨ (acc.getD e.on 0).testBit i = true) := by
  unfold befG at h
  rw [← Array.foldl_toList] at h
  have gen : ∀ (l : List Edge) (s : Nat), (l.foldl (fun s e => if Region.binds .any e then s ||| 2 ^ e.on ||| acc.getD e.on 0 else s) s).testBit i = true → s.testBit i = true ∨ ∃ e ∈ l, Region.binds .any e = true ∧ (e.on = i ∨ (acc.getD e.on 0).testBit i = true) := by
    intro l
    induction l with
    | nil => intro s h; exact .inl h
    | cons e l ih =>
      intro s h
      rw [List.foldl_cons] at h
      rcases ih _ h with h1 | ⟨e', h1, h2⟩
      · split at h1
        · rename_i hb
          rw [Nat.testBit_or, Nat.testBit_or, Bool.or_eq_true, Bool.or_eq_true] at h1
          rcases h1 with (h1 | h1) | h1
          · exact .inl h1
          · rw [Nat.testBit_two_pow] at h1
            exact .inr ⟨e, by simp, hb, .inl (by simpa using h1)⟩
          · exact .inr ⟨e, by simp, hb, .inr h1⟩
        · exact .inl h1
      · exact .inr ⟨e', by simp [h1], h2⟩
  rcases gen _ _ h with h1 | h1
  · simp at h1
  · exact h1
theorem before_spec (ops : Array Oper) : (Region.before ops).size = ops.size ∧ ∀ (j : Nat) o, ops[j]? = some o → ∀ i, ((Region.before ops).getD j 0).testBit i = true → ∃ e ∈ o.after.toList, Region.binds .any e = true ∧ (e.on = i ∨ ((Region.before ops).getD e.on 0).testBit i = true) := by
  unfold Region.before
  rw [← Array.foldl_toList]
  have gen : ∀ (l done : List Oper) (acc : Array Nat), acc.size = done.length → (∀ (j : Nat) o, done[j]? = some o → ∀ i, (acc.getD j 0).testBit i = true → ∃ e ∈ o.after.toList, Region.binds .any e = true ∧ (e.on = i ∨ (acc.getD e.on 0).testBit i = true)) →
      (l.foldl (fun acc o => acc.push (befG acc o)) acc).size = (done ++ l).length ∧ ∀ (j : Nat) o, (done ++ l)[j]? = some o → ∀ i, ((l.foldl (fun acc o => acc.push (befG acc o)) acc).getD j 0).testBit i = true → ∃ e ∈ o.after.toList, Region.binds .any e = true ∧ (e.on = i ∨ ((l.foldl (fun acc o => acc.push (befG acc o)) acc).getD e.on 0).testBit i = true) := by
    intro l
    induction l with
    | nil => intro done acc h1 h2; rw [List.append_nil]; exact ⟨h1, h2⟩
    | cons o l ih =>
      intro done acc h1 h2
      have up : ∀ k i, (acc.getD k 0).testBit i = true → ((acc.push (befG acc o)).getD k 0).testBit i = true := fun k i h => by
        rw [Array.getD_eq_getD_getElem?] at h ⊢
        cases e : acc[k]? with
        | none => rw [e] at h; simp at h
        | some x =>
          have hk : k < acc.size := (Array.getElem?_eq_some_iff.1 e).1
          rw [Array.getElem?_push, if_neg (by omega), e]
          rw [e] at h; exact h
      have := ih (done ++ [o]) (acc.push (befG acc o)) (by simp [h1]) (fun j o' hj i hi => by
        by_cases hjd : j < done.length
        · rw [List.getElem?_append_left hjd] at hj
          rw [Array.getD_eq_getD_getElem?, Array.getElem?_push, if_neg (by omega), ← Array.getD_eq_getD_getElem?] at hi
          obtain ⟨e, q1, q2, q3⟩ := h2 j o' hj i hi
          exact ⟨e, q1, q2, q3.imp (fun h => h) (up _ _)⟩
        · rw [List.getElem?_append_right (by omega)] at hj
          have hj0 : j = done.length := by have := (List.getElem?_eq_some_iff.1 hj).1; simp at this; omega
          subst hj0
          simp at hj
          subst hj
          rw [Array.getD_eq_getD_getElem?, Array.getElem?_push, if_pos h1.symm] at hi
          obtain ⟨e, q1, q2, q3⟩ := befG_spec acc o i hi
          exact ⟨e, q1, q2, q3.imp (fun h => h) (up _ _)⟩)
      rw [List.append_assoc] at this
      exact this
  have := gen ops.toList [] #[] rfl (fun j o h => by simp at h)
  refine ⟨by have h := this.1; rw [List.nil_append, Array.length_toList] at h; exact h, fun j o hj => this.2 j o (by simpa using hj)⟩
theorem edgesL_spec : ∀ {l : List Oper} {k : Nat}, edgesL k l = true → ∀ (j : Nat) o, l[j]? = some o → ∀ e ∈ o.after.toList, Region.binds .any e = true → e.on < k + j
  | [], k, _, j, o, ho, _, _, _ => by simp at ho
  | o :: l, k, h, j, o', ho, e, he, hb => by
    simp only [edgesL, Bool.and_eq_true] at h
    cases j with
    | zero =>
      simp at ho; subst ho
      have := List.all_eq_true.1 h.1 e he
      simpa [hb] using this
    | succ j =>
      have := edgesL_spec h.2 j o' (by simpa using ho) e he hb
      omega

/-- One entry of the order of the text. -/
structure Ent where
  o : Oper
  so : SOper
  s : SSt
  s' : SSt
  x : Tch
  e : Eff
variable {X : Cx}
def EntOk (X : Cx) (ops : Array Oper) (t : Ent) : Prop := t.s.nx ≤ t.s'.nx ∧ t.e.dst = t.so.dst ∧ t.e.wr = t.x.wr ∧ t.e.at t.s t.s' ∧ Loc X ops t.o t.so.reads t.x.rd t.s.nx t.s'.nx t.s t.e
def Chain (s : SSt) : List Ent → SSt → Prop
  | [], t => s = t
  | e :: es, t => e.s = s ∧ Chain e.s' es t
theorem sops_trace {ops : Array Oper} {Q : SSt → List Tch → Prop} : ∀ (l : List Oper) (bs : List Nat) (sos : List SOper), copers X.P X.N ops l bs = some sos → ∀ (s : SSt) (tr : List Tch), X.m ≤ s.nx → SOps X.P sos s tr Q →
    ∃ es sN, Chain s es sN ∧ (∀ t ∈ es, EntOk X ops t) ∧ es.map (·.o) = l ∧ es.map (·.so) = sos ∧ Q sN ((es.map (·.x)).reverse ++ tr) := by
  intro l
  induction l with
  | nil =>
    intro bs sos hc s tr hle hk
    simp only [copers, Option.some.injEq] at hc
    subst hc
    exact ⟨[], s, rfl, by simp, rfl, rfl, hk⟩
  | cons o l ih =>
    intro bs sos hc s tr hle hk
    obtain ⟨so, r, rfl, hso, hr⟩ := copers_cons hc
    obtain ⟨hdst, hd, hg, _, _⟩ := coper_inv hso
    -- a guard looks at what is read
    have gd : ∀ (t : SSt) ρ fp a w, Sim X ρ fp t a w → _ := fun t ρ fp a w h => guard_ok (s := t) hg h
    have join : ∀ s' x, Stp X ops o so s s' x → SOps X.P r s' (x :: tr) Q → ∃ es sN, Chain s es sN ∧ (∀ t ∈ es, EntOk X ops t) ∧ es.map (·.o) = o :: l ∧ es.map (·.so) = so :: r ∧ Q sN ((es.map (·.x)).reverse ++ tr) := by
      rintro s' x ⟨h1, e, h2, h3, h4, h5⟩ hk'
      obtain ⟨es, sN, q1, q2, q3, q4, q5⟩ := ih _ _ hr s' (x :: tr) (Nat.le_trans hle h1) hk'
      refine ⟨⟨o, so, s, s', x, e⟩ :: es, sN, ⟨rfl, q1⟩, fun t ht => ?_, by simp [q3], by simp [q4], by simpa using q5⟩
      rcases List.mem_cons.1 ht with ht | ht
      · subst ht; exact ⟨h1, h2, h3, h4, h5⟩
      · exact q2 t ht
    simp only [SOps] at hk
    cases hgr : so.grd with
    | none =>
      rw [hgr] at hk
      obtain ⟨s', x, h1, h2⟩ := op1_stp hso hle hk fun t ρ fp a w h _ => (gd t ρ fp a w h).1 hgr
      exact join s' x h2 h1
    | some tw =>
      obtain ⟨t0, want⟩ := tw
      rw [hgr] at hk
      have hin : t0 ∈ so.reads := by simp [SOper.reads, hgr]
      simp only at hk
      split at hk
      · rename_i b hb
        by_cases hbw : b = want
        · obtain ⟨s', x, h1, h2⟩ := op1_stp hso hle (hk.1 hbw) fun t ρ fp a w h hrd => by
            rw [((gd t ρ fp a w h).2 t0 want hgr).1 b (by rw [hrd t0 hin]; exact hb)]; simpa using hbw
          exact join s' x h2 h1
        · exact join _ _ (skip_loc hso fun t ρ fp a w h hrd => by
            rw [((gd t ρ fp a w h).2 t0 want hgr).1 b (by rw [hrd t0 hin]; exact hb)]; simpa using hbw) (hk.2 hbw)
      · rename_i hb
        exact join _ _ (skip_loc hso fun t ρ fp a w h hrd => ((gd t ρ fp a w h).2 t0 want hgr).2 (by rw [hrd t0 hin]; exact hb)) hk
      · cases hk

/-- Things that an operation turns or looks at: temporaries, objects. -/
inductive Rs where
  | sl (t : Nat)
  | ob (id : Nat)
def Ent.W (t : Ent) : Rs → Prop
  | .sl y => t.e.dst = some y
  | .ob id => id ∈ t.e.wr
def Ent.L (t : Ent) : Rs → Prop
  | .sl y => y ∈ t.so.reads ∨ t.e.dst = some y
  | .ob id => id ∈ t.x.rd ∨ id ∈ t.e.wr
/-- Who turned a thing last, of those in S. -/
def Lw (es : List Ent) (S : Nat → Prop) (r : Rs) : Option Nat → Prop
  | some k => S k ∧ (∃ t, es[k]? = some t ∧ t.W r) ∧ ∀ k', k < k' → S k' → ∀ t, es[k']? = some t → ¬ t.W r
  | none => ∀ k, S k → ∀ t, es[k]? = some t → ¬ t.W r
def Inv (es : List Ent) (s0 : SSt) (S : Nat → Prop) (t : SSt) : Prop :=
  (∀ y, ∃ o, Lw es S (.sl y) o ∧ gets t.sl y = match o with | some k => ((es[k]?).map (·.e.v)).getD .any | none => gets s0.sl y) ∧
  ∀ id, ∃ o, Lw es S (.ob id) o ∧ geth t.hp id = match o with | some k => ((es[k]?).map (·.e.c id)).getD none | none => geth s0.hp id
theorem Ent.W_L {t : Ent} {r : Rs} (h : t.W r) : t.L r := by cases r <;> exact .inr h
theorem Lw.uniq {es : List Ent} {S : Nat → Prop} {r : Rs} {o o' : Option Nat} (h : Lw es S r o) (h' : Lw es S r o') : o = o' := by
  cases o with
  | none =>
    cases o' with
    | none => rfl
    | some k => obtain ⟨h1, ⟨t, h2, h3⟩, _⟩ := h'; exact absurd h3 (h k h1 t h2)
  | some k =>
    obtain ⟨h1, ⟨t, h2, h3⟩, h4⟩ := h
    cases o' with
    | none => exact absurd h3 (h' k h1 t h2)
    | some k' =>
      obtain ⟨g1, ⟨t', g2, g3⟩, g4⟩ := h'
      rcases Nat.lt_trichotomy k k' with e | e | e
      · exact absurd g3 (h4 k' e g1 t' g2)
      · rw [e]
      · exact absurd h3 (g4 k e h1 t h2)
/-- The order of the text: ordered pairs. -/
structure Ord (es : List Ent) (B : Nat → Nat → Prop) : Prop where
  ord : ∀ i j a b r, i < j → es[i]? = some a → es[j]? = some b → (a.W r ∧ b.L r) ∨ (a.L r ∧ b.W r) → B j i
/-- Where an operation looks, the set and the order of the text agree. -/
theorem Lw.agree {es : List Ent} {B : Nat → Nat → Prop} (hB : Ord es B) {S : Nat → Prop} (hcl : ∀ j i, S j → B j i → S i) {j : Nat} {t : Ent} (hj : es[j]? = some t) (hnj : ¬ S j) (hdep : ∀ i, B j i → S i) {r : Rs} (hl : t.L r) {o o' : Option Nat} (h : Lw es S r o) (h' : Lw es (· < j) r o') : o = o' := by
  have lt_of : ∀ k u, S k → es[k]? = some u → u.W r → k < j := fun k u hk hu hw => by
    rcases Nat.lt_trichotomy k j with e | e | e
    · exact e
    · rw [e] at hk; exact absurd hk hnj
    · exact absurd (hcl k j hk (hB.ord j k t u r e hj hu (.inr ⟨hl, hw⟩))) hnj
  have in_of : ∀ k u, k < j → es[k]? = some u → u.W r → S k := fun k u hk hu hw => hdep k (hB.ord k j u t r hk hu hj (.inl ⟨hw, hl⟩))
  have h2 : Lw es (· < j) r o := by
    cases o with
    | none => exact fun k hk u hu hw => h k (in_of k u hk hu hw) u hu hw
    | some k =>
      obtain ⟨h1, ⟨u, h2, h3⟩, h4⟩ := h
      exact ⟨lt_of k u h1 h2 h3, ⟨u, h2, h3⟩, fun k' hk hk' u' hu' hw => h4 k' hk (in_of k' u' hk' hu' hw) u' hu' hw⟩
  exact h2.uniq h'
theorem Lw.add {es : List Ent} {B : Nat → Nat → Prop} (hB : Ord es B) {S : Nat → Prop} (hcl : ∀ j i, S j → B j i → S i) {j : Nat} {t : Ent} (hj : es[j]? = some t) (hnj : ¬ S j) {r : Rs} {o : Option Nat} (h : Lw es S r o) :
    (t.W r → Lw es (fun k => S k ∨ k = j) r (some j)) ∧ (¬ t.W r → Lw es (fun k => S k ∨ k = j) r o) := by
  refine ⟨fun hw => ⟨.inr rfl, ⟨t, hj, hw⟩, fun k' hk hk' u hu hw' => ?_⟩, fun hw => ?_⟩
  · rcases hk' with hk' | hk'
    · exact hnj (hcl k' j hk' (hB.ord j k' t u r hk hj hu (.inl ⟨hw, Ent.W_L hw'⟩)))
    · omega
  · cases o with
    | none =>
      intro k hk u hu hw'
      rcases hk with hk | hk
      · exact h k hk u hu hw'
      · subst hk; rw [hj] at hu; cases hu; exact hw hw'
    | some k =>
      obtain ⟨h1, h2, h4⟩ := h
      refine ⟨.inl h1, h2, fun k' hk hk' u hu hw' => ?_⟩
      rcases hk' with hk' | hk'
      · exact h4 k' hk hk' u hu hw'
      · subst hk'; rw [hj] at hu; cases hu; exact hw hw'
theorem Lw.exists_ {es : List Ent} {S : Nat → Prop} {r : Rs} : ∃ o, Lw es S r o := by
  by_cases h : ∃ k t, S k ∧ es[k]? = some t ∧ t.W r
  · -- the greatest
    have hb : ∀ n, (∀ k t, S k → es[k]? = some t → t.W r → k < n) → ∃ o, Lw es S r o := by
      intro n
      induction n with
      | zero => intro hn; exact ⟨none, fun k hk t ht hw => by have := hn k t hk ht hw; omega⟩
      | succ n ih =>
        intro hn
        by_cases h : ∃ t, S n ∧ es[n]? = some t ∧ t.W r
        · obtain ⟨t, h1, h2, h3⟩ := h
          exact ⟨some n, h1, ⟨t, h2, h3⟩, fun k' hk hk' u hu hw => by have := hn k' u hk' hu hw; omega⟩
        · refine ih fun k t hk ht hw => ?_
          have := hn k t hk ht hw
          rcases Nat.lt_or_ge k n with e | e
          · exact e
          · obtain rfl : k = n := by omega
            exact absurd ⟨t, hk, ht, hw⟩ h
    exact hb es.length fun k t _ ht _ => (List.getElem?_eq_some_iff.1 ht).1
  · exact ⟨none, fun k hk t ht hw => h ⟨k, t, hk, ht, hw⟩⟩
/-- The states of the order of the text. -/
theorem Chain.inv {ops : Array Oper} : ∀ {es : List Ent} {s0 sN : SSt}, Chain s0 es sN → (∀ t ∈ es, EntOk X ops t) → ∀ (pre : List Ent) (s00 : SSt), Inv (pre ++ es) s00 (· < pre.length) s0 → (∀ (j : Nat) t, es[j]? = some t → Inv (pre ++ es) s00 (· < pre.length + j) t.s) ∧ Inv (pre ++ es) s00 (· < (pre ++ es).length) sN := by
  intro es
  induction es with
  | nil =>
    intro s0 sN hc _ pre s00 h
    obtain rfl : s0 = sN := hc
    exact ⟨fun j t ht => by simp at ht, by simpa using h⟩
  | cons t es ih =>
    intro s0 sN hc hok pre s00 h
    obtain ⟨rfl, hc⟩ := hc
    obtain ⟨_, _, _, hat, _⟩ := hok t (by simp)
    have hget : (pre ++ t :: es)[pre.length]? = some t := by simp
    have hnext : Inv (pre ++ t :: es) s00 (· < pre.length + 1) t.s' := by
      have hstep : ∀ r o, Lw (pre ++ t :: es) (· < pre.length) r o → (t.W r → Lw (pre ++ t :: es) (· < pre.length + 1) r (some pre.length)) ∧ (¬ t.W r → Lw (pre ++ t :: es) (· < pre.length + 1) r o) := fun r o ho => by
        refine ⟨fun hw => ⟨Nat.lt_succ_self _, ⟨t, hget, hw⟩, fun k' h1 h2 => by omega⟩, fun hw => ?_⟩
        cases o with
        | none =>
          intro k hk u hu hw'
          rcases Nat.lt_or_ge k pre.length with e | e
          · exact ho k e u hu hw'
          · obtain rfl : k = pre.length := by have hk' : k < pre.length + 1 := hk; omega
            rw [hget] at hu; cases hu; exact hw hw'
        | some k =>
          obtain ⟨h1, h2, h4⟩ := ho
          refine ⟨Nat.lt_succ_of_lt h1, h2, fun k' hk hk' u hu hw' => ?_⟩
          rcases Nat.lt_or_ge k' pre.length with e | e
          · exact h4 k' hk e u hu hw'
          · obtain rfl : k' = pre.length := by have hk2 : k' < pre.length + 1 := hk'; omega
            rw [hget] at hu; cases hu; exact hw hw'
      refine ⟨fun y => ?_, fun id => ?_⟩
      · obtain ⟨o, ho, hv⟩ := h.1 y
        obtain ⟨q1, q2⟩ := hstep (.sl y) o ho
        rw [hat.1 y]
        by_cases hw : t.e.dst = some y
        · exact ⟨some pre.length, q1 hw, by rw [if_pos hw]; simp only [hget]; rfl⟩
        · exact ⟨o, q2 hw, by rw [if_neg hw]; exact hv⟩
      · obtain ⟨o, ho, hv⟩ := h.2 id
        obtain ⟨q1, q2⟩ := hstep (.ob id) o ho
        rw [hat.2 id]
        by_cases hw : id ∈ t.e.wr
        · exact ⟨some pre.length, q1 hw, by rw [if_pos hw]; simp only [hget]; rfl⟩
        · exact ⟨o, q2 hw, by rw [if_neg hw]; exact hv⟩
    have hre : pre ++ t :: es = (pre ++ [t]) ++ es := by simp
    rw [hre] at hnext h ⊢
    obtain ⟨r1, r2⟩ := ih hc (fun u hu => hok u (by simp [hu])) (pre ++ [t]) s00 (by simpa using hnext)
    refine ⟨fun j u hu => ?_, r2⟩
    cases j with
    | zero => simp at hu; subst hu; simpa using h
    | succ j =>
      have := r1 j u (by simpa using hu)
      rw [List.length_append, List.length_singleton] at this
      rw [show pre.length + (j + 1) = pre.length + 1 + j by omega]
      exact this
end Go.Proofs.Ytfakdapglbgokaa
