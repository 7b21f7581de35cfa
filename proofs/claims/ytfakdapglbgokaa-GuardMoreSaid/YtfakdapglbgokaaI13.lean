/-
  Texts joined: XShG XShH XShI XShJ. No condition.
-/
import Derived.Test.YtfakdapglbgokaaI12
/-
  The plain machine: calls, states, regions in their order, code. No condition.
-/
namespace Go.Proofs.Ytfakdapglbgokaa
set_option linter.all false
open Go.RowKit

/-- Objects as they lie, whatever the call; 'O': blocks to be avoided besides. -/
structure HeapOk (O : Nat → Prop) (ρ : Plan_) (fp : Nat → Nat → Prop) (hp : Hp) (w : World) : Prop where
  objs : ∀ id o, geth hp id = some o → ObjRep w (fun k => O k ∨ Live hp fp k) ρ id (fp id) o
  disj : ∀ id id' o o', id ≠ id' → geth hp id = some o → geth hp id' = some o' → ∀ k, fp id k → ¬ fp id' k
  lt : ∀ k, Live hp fp k → k < w.heap.size ∧ ¬ O k
  O_lt : ∀ k, O k → k < w.heap.size
/-- A function that is entered. -/
def Enters (P : Program) (f : FuncId) : Prop := ∀ args (w : World), (callFunc f args).run P w = .ok (.enter f args) w
/-- A call: with these arguments and objects it yields this, and these objects; new names are q .. q + 7. -/
structure SCalls (P : Program) (f : FuncId) (args : List SV) (h1 : Hp) (q : Nat) (r : SV) (h2 : Hp) : Prop where
  ent : Enters P f
  does : ∀ (O : Nat → Prop) (ρ : Plan_) (fp : Nat → Nat → Prop) (w : World) (vs : List Value), HeapOk O ρ fp h1 w → Reps w (fun k => O k ∨ Live h1 fp k) ρ args vs → (∀ id, q ≤ id → id < q + 8 → ρ id = none) →
    Calls P f vs.toArray w fun e w' => ∃ v ρ' fp', e = .returned v ∧ HeapOk O ρ' fp' h2 w' ∧ RepV w' (fun k => O k ∨ Live h2 fp' k) ρ' r v ∧ Step (Live h1 fp) w w' ∧
      (∀ id p, ρ id = some p → ρ' id = some p) ∧ (∀ id, ρ' id ≠ none → ρ id ≠ none ∨ (q ≤ id ∧ id < q + 8)) ∧ ∀ id o, geth h2 id = some o → ∀ k, fp' id k → Live h1 fp k ∨ w.heap.size ≤ k

def dels : Hp → Hp → Hp → Hp
  | h, [], _ => h
  | h, (i, _) :: r, h2 => dels (match geth h2 i with | some _ => h | none => delh h i) r h2
def adds : Hp → Hp → Hp
  | h, [] => h
  | h, (i, o) :: r => adds (puth h i o) r
def mergeH (hp h1 h2 : Hp) : Hp := adds (dels hp h1 h2) h2
/-- No name stands twice. -/
def Uniq : Hp → Prop
  | [] => True
  | (i, _) :: r => geth r i = none ∧ Uniq r
def SubH (hp : Hp) : Hp → Prop
  | [] => True
  | (i, o) :: r => geth hp i = some o ∧ SubH hp r
theorem SubH.get {hp : Hp} : ∀ {h1 : Hp}, SubH hp h1 → ∀ id o, geth h1 id = some o → geth hp id = some o
  | [], _, id, o, h => by cases h
  | (i, x) :: r, h, id, o, hg => by
    simp only [geth] at hg
    split at hg
    · rename_i e; subst e; cases hg; exact h.1
    · exact SubH.get h.2 id o hg
theorem geth_dels : ∀ (h1 hp h2 : Hp) (id : Nat), geth (dels hp h1 h2) id = if geth h1 id ≠ none ∧ geth h2 id = none then none else geth hp id
  | [], hp, h2, id => by simp [dels, geth]
  | (i, x) :: r, hp, h2, id => by
    rw [dels, geth_dels r]
    by_cases e : i = id
    · subst e
      cases h : geth h2 i with
      | some o => simp [geth]
      | none => simp [geth, geth_delh]
    · cases h : geth h2 i with
      | some o => simp [geth, e]
      | none => simp [geth, e, geth_delh, Ne.symm e]
theorem geth_adds : ∀ (h2 hp : Hp), Uniq h2 → ∀ id, geth (adds hp h2) id = match geth h2 id with | some o => some o | none => geth hp id
  | [], hp, _, id => rfl
  | (i, x) :: r, hp, hu, id => by
    rw [adds, geth_adds r _ hu.2]
    by_cases e : i = id
    · subst e
      rw [hu.1]; simp [geth, geth_puth]
    · simp only [geth, if_neg e]
      split
      · rfl
      · rw [geth_puth, if_neg (Ne.symm e)]
theorem geth_merge {hp h1 h2 : Hp} (hu : Uniq h2) (id : Nat) : geth (mergeH hp h1 h2) id = match geth h2 id with | some o => some o | none => if geth h1 id ≠ none then none else geth hp id := by
  unfold mergeH
  rw [geth_adds _ _ hu, geth_dels]
  cases h : geth h2 id with
  | some o => rfl
  | none => simp

variable {X : Cx} {ρ : Plan_} {fp : Nat → Nat → Prop} {hp : Hp} {w : World} {N : Nat} {a : Act} {sl : Sl}

theorem ObjRep.weaken {A A' : Nat → Prop} {id : Nat} {F : Nat → Prop} {o : SObj} (h : ObjRep w A ρ id F o) (hA : ∀ k, A' k → k < w.heap.size → A k) : ObjRep w A' ρ id F o :=
  h.mono ⟨.refl _ _, hA, fun _ _ h => h⟩ fun _ _ => rfl
theorem Reps.weaken {A A' : Nat → Prop} {x : List SV} {v : List Value} (h : Reps w A ρ x v) (hA : ∀ k, A' k → k < w.heap.size → A k) : Reps w A' ρ x v := h.mono (.refl _ _) hA fun _ _ h => h
/-- The objects that a call does not get. -/
def Rest (X : Cx) (fp : Nat → Nat → Prop) (hp h1 : Hp) (k : Nat) : Prop := X.O k ∨ ∃ id o, geth hp id = some o ∧ geth h1 id = none ∧ fp id k
theorem Rest.av {h1 : Hp} (hsub : ∀ id o, geth h1 id = some o → geth hp id = some o) (k : Nat) : (Rest X fp hp h1 k ∨ Live h1 fp k) ↔ Av X hp fp k := by
  constructor
  · rintro ((h | ⟨id, o, h1, _, h3⟩) | ⟨id, o, h1, h2⟩)
    · exact .inl h
    · exact .inr ⟨id, o, h1, h3⟩
    · exact .inr ⟨id, o, hsub _ _ h1, h2⟩
  · rintro (h | ⟨id, o, h3, h4⟩)
    · exact .inl (.inl h)
    · cases e : geth h1 id with
      | none => exact .inl (.inr ⟨id, o, h3, e, h4⟩)
      | some o' => exact .inr ⟨id, o', e, h4⟩
theorem SimH.part (h : SimH X ρ fp hp w) {h1 : Hp} (hsub : ∀ id o, geth h1 id = some o → geth hp id = some o) : HeapOk (Rest X fp hp h1) ρ fp h1 w := by
  refine ⟨fun id o ho => (h.objs id o (hsub _ _ ho)).weaken fun k hk _ => (Rest.av hsub k).1 hk, fun id id' o o' hne ho ho' => h.disj id id' o o' hne (hsub _ _ ho) (hsub _ _ ho'), ?_, ?_⟩
  · rintro k ⟨id, o, ho, hk⟩
    have ht := h.turn id o (hsub _ _ ho) k hk
    refine ⟨ht.2, ?_⟩
    rintro (hO | ⟨id', o', ho', hn, hk'⟩)
    · rcases ht.1 with hM | hM
      · exact X.O_M k hO hM
      · exact absurd (X.O_lt k hO) (Nat.not_lt_of_le hM)
    · have hne : id ≠ id' := fun e => by rw [e, hn] at ho; cases ho
      exact h.disj id id' o o' hne (hsub _ _ ho) ho' k hk hk'
  · rintro k (hO | ⟨id', o', ho', hn, hk'⟩)
    · exact Nat.lt_of_lt_of_le (X.O_lt k hO) h.step.size
    · exact (h.turn id' o' ho' k hk').2
/-- Behind a call. -/
theorem SimH.called (h : SimH X ρ fp hp w) {h1 h2 : Hp} (hsub : ∀ id o, geth h1 id = some o → geth hp id = some o) (hu : Uniq h2) {ρ' : Plan_} {fp' : Nat → Nat → Prop} {w' : World} {q : Nat} (hq : X.m ≤ q)
    (hk : HeapOk (Rest X fp hp h1) ρ' fp' h2 w') (hst : Step (Live h1 fp) w w') (hρ : ∀ id p, ρ id = some p → ρ' id = some p) (hn : ∀ id, ρ' id ≠ none → ρ id ≠ none ∨ (q ≤ id ∧ id < q + 8))
    (hfp : ∀ id o, geth h2 id = some o → ∀ k, fp' id k → Live h1 fp k ∨ w.heap.size ≤ k) :
    SimH X ρ' (fun id k => (geth h2 id ≠ none ∧ fp' id k) ∨ (geth h2 id = none ∧ fp id k)) (mergeH hp h1 h2) w' ∧ Pres w (Av X hp fp) ρ w' (Av X (mergeH hp h1 h2) (fun id k => (geth h2 id ≠ none ∧ fp' id k) ∨ (geth h2 id = none ∧ fp id k))) ρ' ∧
      ∀ k, Av X (mergeH hp h1 h2) (fun id k => (geth h2 id ≠ none ∧ fp' id k) ∨ (geth h2 id = none ∧ fp id k)) k → Rest X fp hp h1 k ∨ Live h2 fp' k := by
  have e2 : ∀ id o, geth h2 id = some o → (fun k => (geth h2 id ≠ none ∧ fp' id k) ∨ (geth h2 id = none ∧ fp id k)) = fp' id := fun id o ho => by
    funext k; simp [ho]
  have e0 : ∀ id, geth h2 id = none → (fun k => (geth h2 id ≠ none ∧ fp' id k) ∨ (geth h2 id = none ∧ fp id k)) = fp id := fun id ho => by
    funext k; simp [ho]
  have hav : ∀ k, Av X (mergeH hp h1 h2) (fun id k => (geth h2 id ≠ none ∧ fp' id k) ∨ (geth h2 id = none ∧ fp id k)) k → Rest X fp hp h1 k ∨ Live h2 fp' k := by
    rintro k (hO | ⟨id, o, ho, hk'⟩)
    · exact .inl (.inl hO)
    · rw [geth_merge hu] at ho
      cases e : geth h2 id with
      | some o' => rcases hk' with ⟨_, hk'⟩ | ⟨h3, _⟩
                   · exact .inr ⟨id, o', e, hk'⟩
                   · rw [e] at h3; cases h3
      | none =>
        rw [e] at ho
        simp only at ho
        split at ho
        · cases ho
        · rename_i h1n
          rcases hk' with ⟨h3, _⟩ | ⟨_, hk'⟩
          · exact absurd e h3
          · exact .inl (.inr ⟨id, o, ho, by simpa using h1n, hk'⟩)
  obtain ⟨q1, q2⟩ := h.change (hp' := mergeH hp h1 h2) (ρ' := ρ') (fp' := fun id k => (geth h2 id ≠ none ∧ fp' id k) ∨ (geth h2 id = none ∧ fp id k)) (S := Live h1 fp) (fun id => geth h1 id ≠ none) (fun id => geth h2 id ≠ none) hst
    (fun k ⟨id, o, ho, hk'⟩ => ⟨id, o, hsub _ _ ho, hk', by rw [ho]; simp⟩)
    (fun id o ho hnew => by
      have e : geth h2 id = none := by simpa using hnew
      rw [geth_merge hu, e] at ho
      simp only at ho
      split at ho
      · cases ho
      · rename_i h3; exact ⟨ho, h3, e0 id e⟩)
    hρ
    (fun id hid => by
      cases e : ρ id with
      | some p => exact hρ _ _ e
      | none =>
        cases e' : ρ' id with
        | none => rfl
        | some p => rcases hn id (by rw [e']; simp) with h3 | h3
                    · exact absurd e h3
                    · omega)
    (fun id o hnew ho k hk' => by
      obtain ⟨o', e⟩ := Option.ne_none_iff_exists'.1 hnew
      have hk2 : fp' id k := by rw [← e2 id o' e]; exact hk'
      refine ⟨?_, (hk.lt k ⟨id, o', e, hk2⟩).1⟩
      rcases hfp id o' e k hk2 with ⟨j, oj, h3, h4⟩ | h3
      · exact .inl ⟨j, oj, hsub _ _ h3, h4, by rw [h3]; simp⟩
      · exact .inr h3)
    (fun id id' o o' hnew hnew' hne _ _ k hk1 hk2 => by
      obtain ⟨x, e⟩ := Option.ne_none_iff_exists'.1 hnew
      obtain ⟨y, e'⟩ := Option.ne_none_iff_exists'.1 hnew'
      have a1 : fp' id k := by rw [← e2 id x e]; exact hk1
      have a2 : fp' id' k := by rw [← e2 id' y e']; exact hk2
      exact hk.disj id id' x y hne e e' k a1 a2)
    (fun _ id o hnew ho => by
      obtain ⟨x, e⟩ := Option.ne_none_iff_exists'.1 hnew
      rw [geth_merge hu, e] at ho
      cases ho
      rw [show (fun k => (geth h2 id ≠ none ∧ fp' id k) ∨ (geth h2 id = none ∧ fp id k)) = fp' id from e2 id _ e]
      exact (hk.objs id _ e).weaken fun k hk' _ => hav k hk')
  exact ⟨q1, q2, hav⟩
end Go.Proofs.Ytfakdapglbgokaa

/-
  The plain machine: regions, code. No condition.
-/
namespace Go.Proofs.Ytfakdapglbgokaa
set_option linter.all false
open Go.RowKit

def putd (l : Sl) (dst : Option Nat) (v : SV) : Sl := match dst with
  | none => l
  | some d => puts l d v
/-- Which objects an operation looked at, which it turned. -/
structure Tch where
  rd : List Nat
  wr : List Nat
def idOf : SV → List Nat
  | .ptr id _ | .eptr id _ _ _ | .own id _ => [id]
  | _ => []
def SOp.touch (ev : SX → SV) : SOp → List Nat
  | .load x | .loads _ x | .store _ x _ => idOf (ev x)
  | .app _ _ _ s x => idOf (ev s) ++ idOf (ev x)
  | _ => []
def idsH (h : Hp) : List Nat := h.map (·.1)
/-- One operation. -/
def SOp1 (P : Program) (o : SOper) (s : SSt) (K : SSt → Tch → Prop) : Prop := match o.cal with
  | some (f, args) => match f.ev s.sl with
    | .fn (.func g) first cap => ∃ h1 r h2 rd, SCalls P g (first ++ args.map (·.ev s.sl) ++ cap) h1 s.nx r h2 ∧ SubH s.hp h1 ∧ Uniq h2 ∧ (∀ id ∈ rd, geth h2 id = geth h1 id) ∧
        K ⟨putd s.sl o.dst r, mergeH s.hp h1 h2, s.nx + 8⟩ ⟨rd, (idsH h1 ++ idsH h2).filter fun i => !rd.contains i⟩
    | _ => False
  | none => match o.op.run (·.ev s.sl) (geth s.hp) s.nx with
    | some (v, u, _) => K ⟨putd s.sl o.dst v, upds s.hp u, s.nx + 1⟩ ⟨o.op.touch (·.ev s.sl), u.map (·.1)⟩
    | none => False
def SSt.skip (s : SSt) (o : SOper) : SSt := ⟨putd s.sl o.dst (.tup []), s.hp, s.nx⟩
/-- A region's operations in their order. -/
def SOps (P : Program) : List SOper → SSt → List Tch → (SSt → List Tch → Prop) → Prop
  | [], s, tr, Q => Q s tr
  | o :: os, s, tr, Q => match o.grd with
    | none => SOp1 P o s fun s' x => SOps P os s' (x :: tr) Q
    | some (t, want) => match gets s.sl t with
      | .bool b => (b = want → SOp1 P o s fun s' x => SOps P os s' (x :: tr) Q) ∧ (b ≠ want → SOps P os (s.skip o) (⟨[], []⟩ :: tr) Q)
      | .tup [] => SOps P os (s.skip o) (⟨[], []⟩ :: tr) Q
      | _ => False

structure SimF (X : Cx) (ρ : Plan_) (fp : Nat → Nat → Prop) (s : SSt) (a : Act) (w : World) : Prop where
  sim : Sim X ρ fp s a w
  fresh : ∀ id, s.nx ≤ id → ρ id = none
  le : X.m ≤ s.nx
theorem Enters.of {P : Program} {f : FuncId} {fn : Func} (hf : P.funcs[f]? = some fn) (hb : fn.body.isSome = true) (hn : (fn.name == "runtime.NumGoroutine") = false) : Enters P f := fun args w => by
  have hb' : fn.body.isNone = false := by cases h : fn.body <;> simp_all
  unfold callFunc
  simp only [Sem.run_bind, run_program, Result.andThen_ok, hf, hn, hb', Bool.false_eq_true, if_false, Sem.run_pure]

variable {X : Cx} {ρ : Plan_} {fp : Nat → Nat → Prop} {w : World} {a : Act} {s : SSt}

theorem Sim.put (h : Sim X ρ fp s a w) {ρ' : Plan_} {fp' : Nat → Nat → Prop} {hp' : Hp} {w' : World} {nx' : Nat} (hh : SimH X ρ' fp' hp' w') (hp : Pres w (Av X s.hp fp) ρ w' (Av X hp' fp') ρ') {v : SV} {v' : Value} (hv : RepV w' (Av X hp' fp') ρ' v v') {dst : Option Nat} (hd : dst.all (· < X.N) = true) :
    Sim X ρ' fp' ⟨putd s.sl dst v, hp', nx'⟩ (a.put dst v') w' := by
  cases dst with
  | none => exact ⟨hh, h.tmps, h.defers, fun t => hp.rep (h.slots t)⟩
  | some d =>
    have hd' : d < a.tmps.size := by rw [h.tmps]; simpa using hd
    refine ⟨hh, by simp [Act.put, h.tmps], h.defers, fun t => ?_⟩
    show RepV w' (Av X hp' fp') ρ' (gets (puts s.sl d v) t) ((a.tmps.setIfInBounds d v').getD t undef)
    rw [gets_puts]
    by_cases e : t = d
    · subst e
      rw [if_pos rfl]
      simp [hd']
      exact hv
    · rw [if_neg e]
      have := hp.rep (h.slots t)
      simpa [Array.getElem?_setIfInBounds_ne (Ne.symm e)] using this
theorem coper_inv {P : Program} {N : Nat} {ops : Array Oper} {o : Oper} {b : Nat} {so : SOper} (h : coper P N ops o b = some so) : so.dst = o.dst ∧ o.dst.all (· < N) = true ∧ cgrd ops o.guard = some so.grd ∧ so.bef = b ∧
    ((so.cal = none ∧ cop P N o.type o.op = some so.op) ∨ ∃ f args g gs tys, so.cal = some (f, args) ∧ o.op = .call { callee := .value g, args := gs, argTypes := tys } ∧ cx N g = some f ∧ gs.toList.mapM (cx N) = some args) := by
  unfold coper at h
  split at h
  · rename_i hd
    split at h
    · cases h
    · rename_i g hg
      split at h
      · rename_i f args tys hop
        simp only [Option.map_eq_some_iff] at h
        obtain ⟨c, hc, rfl⟩ := h
        unfold ccal at hc
        split at hc
        · rename_i f' l h1 h2
          cases hc
          exact ⟨rfl, hd, hg, rfl, .inr ⟨f', l, f, args, tys, rfl, hop, h1, h2⟩⟩
        · cases hc
      · simp only [Option.map_eq_some_iff] at h
        obtain ⟨op, hop, rfl⟩ := h
        exact ⟨rfl, hd, hg, rfl, .inl ⟨rfl, hop⟩⟩
  · cases h
theorem Yld.upon {P : Program} {o : Oper} {next : Act → World → Prop} {Q : Exit → Act → World → Prop} {v : Value} {w' : World} (h : Yld ((execOp a.eval o).run P w) v w') (hn : next (a.put o.dst v) w') : o.wp P a w next Q := by
  unfold Oper.wp
  rcases h with h | ⟨h, rfl⟩ <;> rw [h] <;> exact hn
/-- One operation does what it says. -/
theorem op1_ok {ops : Array Oper} {o : Oper} {b : Nat} {so : SOper} (hc : coper X.P X.N ops o b = some so) {K : SSt → Tch → Prop} (hk : SOp1 X.P so s K) (h : SimF X ρ fp s a w) {next : Act → World → Prop} {Q : Exit → Act → World → Prop}
    (hn : ∀ s' x ρ' fp' a' w', K s' x → SimF X ρ' fp' s' a' w' → next a' w') : o.wp X.P a w next Q := by
  obtain ⟨hdst, hd, _, _, hop⟩ := coper_inv hc
  unfold SOp1 at hk
  rcases hop with ⟨hcal, hop⟩ | ⟨f, args, g, gs, tys, hcal, hop, hf, hargs⟩
  · rw [hcal] at hk
    simp only at hk
    split at hk
    · rename_i v u nx' hr
      obtain ⟨v', w', h1, ρ', fp', h2, h3, h4, h5⟩ := op_ok h.sim.h h.sim.slots hop h.le (h.fresh _ (Nat.le_refl _)) hr
      refine (h1 o rfl).upon (hn _ _ ρ' fp' _ _ hk ⟨?_, fun id hid => ?_, ?_⟩)
      · have := h.sim.put (nx' := s.nx + 1) h2 h4 h3 (dst := so.dst) (by rw [hdst]; exact hd)
        rw [hdst] at this ⊢; exact this
      · cases e : ρ' id with
        | none => rfl
        | some p =>
          simp only at hid
          rcases h5 id (by rw [e]; simp) with h6 | h6
          · exact absurd (h.fresh id (by omega)) h6
          · omega
      · have := h.le; simp only; omega
    · cases hk
  · rw [hcal] at hk
    simp only at hk
    split at hk
    · rename_i g' first cap hfv
      obtain ⟨h1, r, h2, rd, ⟨hent, hcall⟩, hsub, hu, _, hk⟩ := hk
      have hsub' := hsub.get
      have rf := cx_rep hf h.sim.slots
      rw [hfv] at rf
      have rargs := cxs_reps hargs h.sim.slots
      generalize hgv : a.eval g = gv at rf
      cases rf with
      | fn l1 l2 r1 r2 =>
        rename_i vs us
        have hav : ∀ k, (Rest X fp s.hp h1 k ∨ Live h1 fp k) → Av X s.hp fp k := fun k hk => (Rest.av hsub' k).1 hk
        have hreps : Reps w (fun k => Rest X fp s.hp h1 k ∨ Live h1 fp k) ρ (first ++ args.map (·.ev s.sl) ++ cap) (vs ++ gs.toList.map a.eval ++ us) :=
          ((Reps.append (Reps.append ⟨l1, r1⟩ rargs) ⟨l2, r2⟩)).weaken fun k hk _ => hav k hk
        have := hcall (Rest X fp s.hp h1) ρ fp w _ (h.sim.h.part hsub') hreps (fun id h3 _ => h.fresh id h3)
        have hrun : (execOp a.eval o).run X.P w = .ok (.enter g' (vs ++ gs.toList.map a.eval ++ us).toArray) w := by
          have e1 : (vs.toArray ++ gs.map a.eval ++ us.toArray) = (vs ++ gs.toList.map a.eval ++ us).toArray := by apply Array.ext'; simp
          simp only [execOp, hop, resolve, hgv, Deferred.ofValue, Sem.run_bind, Sem.run_pure, Result.andThen_ok, invoke, e1]
          exact hent _ _
        unfold Oper.wp
        rw [hrun, Oper.upon_enter]
        refine this.mono ?_
        rintro e w' ⟨v, ρ', fp', rfl, q1, q2, q3, q4, q5, q6⟩
        obtain ⟨p1, p2, p3⟩ := h.sim.h.called hsub' hu (q := s.nx) h.le q1 q3 q4 q5 q6
        refine hn _ _ ρ' (fun id k => (geth h2 id ≠ none ∧ fp' id k) ∨ (geth h2 id = none ∧ fp id k)) _ _ hk ⟨?_, fun id hid => ?_, ?_⟩
        · have := h.sim.put (nx' := s.nx + 8) p1 p2 (q2.weaken fun k hk _ => p3 k hk) (dst := so.dst) (by rw [hdst]; exact hd)
          rw [hdst] at this ⊢; exact this
        · cases e : ρ' id with
          | none => rfl
          | some p =>
            simp only at hid
            rcases q5 id (by rw [e]; simp) with h6 | h6
            · exact absurd (h.fresh id (by omega)) h6
            · omega
        · have := h.le; simp only; omega
    · cases hk

theorem guard_ok {ops : Array Oper} {o : Oper} {so : SOper} (hg : cgrd ops o.guard = some so.grd) (h : Sim X ρ fp s a w) :
    (so.grd = none → Region.wanted o (yielded ops a.tmps) = true) ∧ ∀ t want, so.grd = some (t, want) → (∀ b, gets s.sl t = .bool b → Region.wanted o (yielded ops a.tmps) = decide (b = want)) ∧ (gets s.sl t = .tup [] → Region.wanted o (yielded ops a.tmps) = false) := by
  cases hgd : o.guard with
  | none =>
    rw [hgd] at hg
    simp only [cgrd, Option.some.injEq] at hg
    rw [← hg]
    exact ⟨(fun _ => by simp [Region.wanted, hgd]), (fun t want e => by cases e)⟩
  | some jw =>
    obtain ⟨j, want'⟩ := jw
    rw [hgd] at hg
    simp only [cgrd] at hg
    split at hg
    · rename_i t ht
      injection hg with hg
      rw [← hg]
      refine ⟨(fun e => by cases e), fun t' want e => ?_⟩
      cases e
      have hs := h.slots t
      refine ⟨fun b hb => ?_, fun hb => ?_⟩
      · rw [hb] at hs
        have hv : a.tmps.getD t undef = .bool b := by generalize a.tmps.getD t undef = v at hs; cases hs; rfl
        have hv2 : a.tmps[t]? = some (.bool b) := by
          cases e : a.tmps[t]? with
          | none => rw [Array.getD_eq_getD_getElem?, e] at hv; cases hv
          | some x => rw [Array.getD_eq_getD_getElem?, e] at hv; rw [← hv]; rfl
        simp only [Region.wanted, hgd, yielded, ht, Option.bind_some, hv2]
        cases b <;> cases want' <;> rfl
      · rw [hb] at hs
        have hv : a.tmps.getD t undef = .tuple #[] := by
          generalize a.tmps.getD t undef = v at hs
          cases hs with
          | tup hl _ => have := List.eq_nil_of_length_eq_zero hl.symm; rw [this]
        have hv2 : ∀ b, a.tmps[t]? ≠ some (.bool b) := fun b e => by
          rw [Array.getD_eq_getD_getElem?, e] at hv; cases hv
        simp only [Region.wanted, hgd, yielded, ht, Option.bind_some]
        first | rfl | (split <;> first | rfl | (rename_i b hb'; exact absurd hb' (hv2 b)) | simp)
    · cases hg
theorem Sim.skip (h : SimF X ρ fp s a w) {so : SOper} {dst : Option Nat} (hdst : so.dst = dst) (hd : dst.all (· < X.N) = true) : SimF X ρ fp (s.skip so) (a.put dst undef) w := by
  subst hdst
  exact ⟨h.sim.put (nx' := s.nx) h.sim.h (.refl _ _ _) (RepV.tup (cs := []) (vs := []) rfl (by simp)) hd, h.fresh, h.le⟩
theorem copers_cons {P : Program} {N : Nat} {ops : Array Oper} {o : Oper} {os : List Oper} {bs : List Nat} {sos : List SOper} (h : copers P N ops (o :: os) bs = some sos) : ∃ so r, sos = so :: r ∧ coper P N ops o (bs.headD 0) = some so ∧ copers P N ops os bs.tail = some r := by
  simp only [copers, Option.bind_eq_bind, Option.bind_eq_some_iff, Option.some.injEq] at h
  obtain ⟨so, h1, r, h2, rfl⟩ := h
  exact ⟨so, r, rfl, h1, h2⟩
/-- A region's operations in their order. -/
theorem sops_ok {ops : Array Oper} {Q : SSt → List Tch → Prop} {R : Exit → Act → World → Prop} (hQ : ∀ s tr ρ fp a w, Q s tr → SimF X ρ fp s a w → R .normal a w) : ∀ (l : List Oper) (bs : List Nat) (sos : List SOper), copers X.P X.N ops l bs = some sos → ∀ (s : SSt) (tr : List Tch) (ρ : Plan_) (fp : Nat → Nat → Prop) (a : Act) (w : World),
    SOps X.P sos s tr Q → SimF X ρ fp s a w → wpList X.P ops R l a w := by
  intro l
  induction l with
  | nil =>
    intro bs sos hc s tr ρ fp a w hk h
    simp only [copers, Option.some.injEq] at hc
    subst hc
    exact hQ _ _ _ _ _ _ hk h
  | cons o l ih =>
    intro bs sos hc s tr ρ fp a w hk h
    obtain ⟨so, r, rfl, hso, hr⟩ := copers_cons hc
    obtain ⟨hdst, hd, hg, _, _⟩ := coper_inv hso
    obtain ⟨g1, g2⟩ := guard_ok hg h.sim
    refine wpList_step fun K hK => ?_
    have run : (SOp1 X.P so s fun s' x => SOps X.P r s' (x :: tr) Q) → o.wp X.P a w K R := fun hk => op1_ok hso hk h fun s' x ρ' fp' a' w' hk' h' => hK _ _ (ih _ _ hr _ _ _ _ _ _ hk' h')
    simp only [SOps] at hk
    cases hgr : so.grd with
    | none =>
      rw [hgr] at hk
      rw [if_pos (g1 hgr)]
      exact run hk
    | some tw =>
      obtain ⟨t, want⟩ := tw
      rw [hgr] at hk
      obtain ⟨g3, g4⟩ := g2 t want hgr
      simp only at hk
      split at hk
      · rename_i b hb
        rw [g3 b hb]
        by_cases hbw : b = want
        · rw [if_pos (by simpa using hbw)]
          exact run (hk.1 hbw)
        · rw [if_neg (by simpa using hbw)]
          exact hK _ _ (ih _ _ hr _ _ _ _ _ _ (hk.2 hbw) (Sim.skip h hdst hd))
      · rename_i hb
        rw [g4 hb, if_neg (by simp)]
        exact hK _ _ (ih _ _ hr _ _ _ _ _ _ hk (Sim.skip h hdst hd))
      · cases hk
end Go.Proofs.Ytfakdapglbgokaa

/-
  The plain machine: code. No condition.
-/
namespace Go.Proofs.Ytfakdapglbgokaa
set_option linter.all false
open Go.RowKit

inductive SExit where
  | normal
  | exit (id : Nat)
  | ret
/-- What a way out of the plain machine's says of the model's. -/
def Out (X : Cx) (Q : SExit → SSt → Prop) : Exit → Act → World → Prop
  | .normal, a, w => ∃ s ρ fp, Q .normal s ∧ SimF X ρ fp s a w
  | .exit id, a, w => ∃ s ρ fp, Q (.exit id) s ∧ SimF X ρ fp s a w
  | .ret, a, w => ∃ s ρ fp, Q .ret s ∧ SimF X ρ fp s a w
  | _, _, _ => False
def SWp (X : Cx) (c : SCode) (Q : SExit → SSt → Prop) (s : SSt) : Prop :=
  ∀ code, comp X.P X.N code = some c.erase → ∀ ρ fp a w, SimF X ρ fp s a w → code.wp X.P (Out X Q) a w
/-- What is so of a state is so of another one. -/
def Wk (X : Cx) (s s' : SSt) : Prop := ∀ ρ fp a w, SimF X ρ fp s a w → ∃ ρ' fp', SimF X ρ' fp' s' a w
theorem Wk.refl (X : Cx) (s : SSt) : Wk X s s := fun ρ fp _ _ h => ⟨ρ, fp, h⟩
theorem Wk.trans {X : Cx} {s t u : SSt} (h : Wk X s t) (k : Wk X t u) : Wk X s u := fun ρ fp a w hs => let ⟨_, _, h1⟩ := h ρ fp a w hs; k _ _ a w h1
theorem comp_region {P : Program} {N id : Nat} {ops : Array Oper} {draw : Bool} {c : SCode} (h : comp P N (.region id ops draw) = some c) : ∃ l, c = .reg draw l [] ∧ copers P N ops ops.toList (if draw then (Region.before ops).toList else []) = some l ∧ (draw = false ∨ edgesOk ops = true) := by
  simp only [comp] at h
  split at h
  · rename_i hd
    simp only [Option.bind_eq_bind, Option.bind_eq_some_iff, Option.some.injEq] at h
    obtain ⟨l, h1, rfl⟩ := h
    exact ⟨l, rfl, h1, hd⟩
  · cases h
variable {X : Cx} {s : SSt} {Q : SExit → SSt → Prop}
theorem swp_wk {c : SCode} {s' : SSt} (hw : Wk X s s') (h : SWp X c Q s') : SWp X c Q s := fun code hc ρ fp a w hs => let ⟨_, _, h1⟩ := hw ρ fp a w hs; h code hc _ _ a w h1
theorem Out.mono {Q' : SExit → SSt → Prop} (hq : ∀ e s, Q e s → Q' e s) : ∀ e a w, Out X Q e a w → Out X Q' e a w := by
  intro e a w h
  cases e <;> first | exact h | (obtain ⟨s, ρ, fp, h1, h2⟩ := h; exact ⟨s, ρ, fp, hq _ _ h1, h2⟩)
theorem swp_mono {c : SCode} {Q' : SExit → SSt → Prop} (h : SWp X c Q s) (hq : ∀ e s, Q e s → Q' e s) : SWp X c Q' s := fun code hc ρ fp a w hs => wp_mono (h code hc ρ fp a w hs) (Out.mono hq)
theorem swp_skip (h : Q .normal s) : SWp X .skip Q s := fun code hc ρ fp a w hs => by
  by_cases hreg : ∃ id o d, code = .region id o d
  · obtain ⟨_, _, _, rfl⟩ := hreg
    obtain ⟨_, e, _⟩ := comp_region hc
    simp [SCode.erase] at e
  cases code <;> (try simp only [comp, SCode.erase, Option.bind_eq_bind, Option.bind_eq_some_iff, Option.some.injEq, reduceCtorEq, and_false, exists_false, exists_const] at hc)
  case skip => exact wp_skip ⟨s, ρ, fp, h, hs⟩
  case label => exact wp_label ⟨s, ρ, fp, h, hs⟩
  case region => exact absurd ⟨_, _, _, rfl⟩ hreg
theorem swp_exit {id : Nat} (h : Q (.exit id) s) : SWp X (.exit id) Q s := fun code hc ρ fp a w hs => by
  by_cases hreg : ∃ id o d, code = .region id o d
  · obtain ⟨_, _, _, rfl⟩ := hreg
    obtain ⟨_, e, _⟩ := comp_region hc
    simp [SCode.erase] at e
  cases code <;> (try simp only [comp, SCode.erase, Option.bind_eq_bind, Option.bind_eq_some_iff, Option.some.injEq, reduceCtorEq, and_false, exists_false, exists_const, SCode.exit.injEq] at hc)
  case exit => subst hc; exact wp_exit ⟨s, ρ, fp, h, hs⟩
  case region => exact absurd ⟨_, _, _, rfl⟩ hreg
theorem swp_ret (h : Q .ret s) : SWp X .ret Q s := fun code hc ρ fp a w hs => by
  by_cases hreg : ∃ id o d, code = .region id o d
  · obtain ⟨_, _, _, rfl⟩ := hreg
    obtain ⟨_, e, _⟩ := comp_region hc
    simp [SCode.erase] at e
  cases code <;> (try simp only [comp, SCode.erase, Option.bind_eq_bind, Option.bind_eq_some_iff, Option.some.injEq, reduceCtorEq, and_false, exists_false, exists_const] at hc)
  case ret => exact wp_ret ⟨s, ρ, fp, h, hs⟩
  case region => exact absurd ⟨_, _, _, rfl⟩ hreg
/-- One behind the other. -/
def QSeq (X : Cx) (y : SCode) (Q : SExit → SSt → Prop) : SExit → SSt → Prop
  | .normal, s => SWp X y Q s
  | e, s => Q e s
theorem swp_seq {x y : SCode} (h : SWp X x (QSeq X y Q) s) : SWp X (.seq x y) Q s := fun code hc ρ fp a w hs => by
  by_cases hreg : ∃ id o d, code = .region id o d
  · obtain ⟨_, _, _, rfl⟩ := hreg
    obtain ⟨_, e, _⟩ := comp_region hc
    simp [SCode.erase] at e
  cases code <;> (try simp only [comp, SCode.erase, Option.bind_eq_bind, Option.bind_eq_some_iff, Option.some.injEq, reduceCtorEq, and_false, exists_false, exists_const, SCode.seq.injEq] at hc)
  case seq c d =>
    obtain ⟨c', h1, d', h2, rfl, rfl⟩ := hc
    refine wp_seq (wp_mono (h c h1 ρ fp a w hs) ?_)
    intro e a' w' ho
    cases e with
    | normal => obtain ⟨s', ρ', fp', q1, q2⟩ := ho; exact q1 d h2 ρ' fp' a' w' q2
    | exit id => exact ho
    | ret => exact ho
    | goto l => exact ho.elim
    | panic c => exact ho.elim
    | outgrown => exact ho.elim
  case region => exact absurd ⟨_, _, _, rfl⟩ hreg
theorem swp_cond {c : SX} {x y : SCode} {b : Bool} (hb : c.ev s.sl = .bool b) (h1 : b = true → SWp X x Q s) (h2 : b = false → SWp X y Q s) : SWp X (.cond c x y) Q s := fun code hc ρ fp a w hs => by
  by_cases hreg : ∃ id o d, code = .region id o d
  · obtain ⟨_, _, _, rfl⟩ := hreg
    obtain ⟨_, e, _⟩ := comp_region hc
    simp [SCode.erase] at e
  cases code <;> (try simp only [comp, SCode.erase, Option.bind_eq_bind, Option.bind_eq_some_iff, Option.some.injEq, reduceCtorEq, and_false, exists_false, exists_const, SCode.cond.injEq] at hc)
  case cond o d e =>
    obtain ⟨o', q1, d', q2, e', q3, rfl, rfl, rfl⟩ := hc
    have r := cx_rep q1 hs.sim.slots
    rw [hb] at r
    have hv : a.eval o = .bool b := by generalize a.eval o = v at r; cases r; rfl
    exact wp_cond_split hv (fun hb => h1 hb d q2 ρ fp a w hs) (fun hb => h2 hb e q3 ρ fp a w hs)
  case region => exact absurd ⟨_, _, _, rfl⟩ hreg
/-- Out of a block. -/
def QBlock (id : Nat) (Q : SExit → SSt → Prop) : SExit → SSt → Prop
  | .exit i, s => if i = id then Q .normal s else Q (.exit i) s
  | e, s => Q e s
theorem swp_block {id : Nat} {c : SCode} (h : SWp X c (QBlock id Q) s) : SWp X (.block id c) Q s := fun code hc ρ fp a w hs => by
  by_cases hreg : ∃ id o d, code = .region id o d
  · obtain ⟨_, _, _, rfl⟩ := hreg
    obtain ⟨_, e, _⟩ := comp_region hc
    simp [SCode.erase] at e
  cases code <;> (try simp only [comp, SCode.erase, Option.bind_eq_bind, Option.bind_eq_some_iff, Option.some.injEq, reduceCtorEq, and_false, exists_false, exists_const, SCode.block.injEq] at hc)
  case block i d =>
    obtain ⟨d', h1, rfl, rfl⟩ := hc
    refine wp_block (wp_mono (h d h1 ρ fp a w hs) ?_)
    intro e a' w' ho
    cases e with
    | normal => exact ho
    | exit i' =>
      obtain ⟨s', ρ', fp', q1, q2⟩ := ho
      simp only [QBlock] at q1
      simp only [Exit.inBlock]
      split
      · rename_i e; rw [if_pos e] at q1; exact ⟨s', ρ', fp', q1, q2⟩
      · rename_i e; rw [if_neg e] at q1; exact ⟨s', ρ', fp', q1, q2⟩
    | ret => exact ho
    | goto l => exact ho.elim
    | panic c => exact ho.elim
    | outgrown => exact ho.elim
  case region => exact absurd ⟨_, _, _, rfl⟩ hreg
def SSt.keep (s : SSt) (live : List Nat) : SSt := ⟨live.map fun t => (t, gets s.sl t), s.hp, s.nx⟩
theorem gets_keep (sl : Sl) (live : List Nat) (t : Nat) : gets (live.map fun t => (t, gets sl t)) t = if t ∈ live then gets sl t else .any := by
  induction live with
  | nil => rfl
  | cons u l ih =>
    simp only [List.map_cons, gets, ih, List.mem_cons]
    by_cases e : u = t
    · simp [e]
    · simp [e, Ne.symm e]
theorem wk_keep (live : List Nat) : Wk X s (s.keep live) := fun ρ fp a w h => ⟨ρ, fp, ⟨h.sim.h, h.sim.tmps, h.sim.defers, fun t => by
  show RepV w _ ρ (gets (live.map fun t => (t, gets s.sl t)) t) _
  rw [gets_keep]
  split
  · exact h.sim.slots t
  · exact .any⟩, h.fresh, h.le⟩
theorem swp_reg {ops : List SOper} {live : List Nat} (h : SOps X.P ops s [] fun s' _ => Q .normal (s'.keep live)) : SWp X (.reg false ops live) Q s := fun code hc ρ fp a w hs => by
  by_cases hreg : ∃ id o d, code = .region id o d
  · obtain ⟨id, o, d, rfl⟩ := hreg
    obtain ⟨l, e, h1, _⟩ := comp_region hc
    simp only [SCode.erase, SCode.reg.injEq, and_true] at e
    obtain ⟨rfl, rfl⟩ := e
    refine wp_region_list ?_
    refine sops_ok (Q := fun s' _ => Q .normal (s'.keep live)) ?_ _ _ _ h1 s [] ρ fp a w h hs
    intro s' tr ρ' fp' a' w' hq h'
    obtain ⟨ρ2, fp2, h2⟩ := wk_keep live ρ' fp' a' w' h'
    exact ⟨_, ρ2, fp2, hq, h2⟩
  · cases code <;> (try simp only [comp, SCode.erase, Option.bind_eq_bind, Option.bind_eq_some_iff, Option.some.injEq, reduceCtorEq, and_false, exists_false, exists_const] at hc)
    case region => exact absurd ⟨_, _, _, rfl⟩ hreg
theorem exists_min {p : Nat → Prop} (h : ∃ n, p n) : ∃ n, p n ∧ ∀ m, p m → n ≤ m := by
  obtain ⟨n, hn⟩ := h
  induction n using Nat.strongRecOn with
  | ind n ih =>
    by_cases h : ∃ m, m < n ∧ p m
    · obtain ⟨m, h1, h2⟩ := h; exact ih m h1 h2
    · exact ⟨n, hn, fun m hm => Nat.le_of_not_lt fun hl => h ⟨m, hl, hm⟩⟩
/-- A loop's round. -/
def QLoop (X : Cx) (I : SSt → Nat → Prop) (n : Nat) (Q : SExit → SSt → Prop) : SExit → SSt → Prop
  | .normal, s => ∃ s' m, Wk X s s' ∧ I s' m ∧ m < n
  | e, s => Q e s
theorem swp_loop {c : SCode} (I : SSt → Nat → Prop) {n : Nat} {s0 : SSt} (hw : Wk X s s0) (h0 : I s0 n) (h : ∀ s n, I s n → SWp X c (QLoop X I n Q) s) : SWp X (.loop c) Q s := fun code hc ρ fp a w hs => by
  by_cases hreg : ∃ id o d, code = .region id o d
  · obtain ⟨_, _, _, rfl⟩ := hreg
    obtain ⟨_, e, _⟩ := comp_region hc
    simp [SCode.erase] at e
  cases code <;> (try simp only [comp, SCode.erase, Option.bind_eq_bind, Option.bind_eq_some_iff, Option.some.injEq, reduceCtorEq, and_false, exists_false, exists_const, SCode.loop.injEq] at hc)
  case loop d =>
    obtain ⟨d', h1, rfl⟩ := hc
    obtain ⟨ρ0, fp0, hs0⟩ := hw ρ fp a w hs
    let p : Act → World → Nat → Prop := fun a w n => ∃ s ρ fp, I s n ∧ SimF X ρ fp s a w
    have hmin : ∀ a w, ∃ n, (∃ m, p a w m) → (p a w n ∧ ∀ m, p a w m → n ≤ m) := fun a w => by
      by_cases h : ∃ m, p a w m
      · obtain ⟨n, hn⟩ := exists_min h; exact ⟨n, fun _ => hn⟩
      · exact ⟨0, fun h' => absurd h' h⟩
    have hch := fun a => Classical.axiomOfChoice (hmin a)
    obtain ⟨μ, hμ⟩ := Classical.axiomOfChoice hch
    refine wp_loop (fun a w => ∃ n, p a w n) μ ⟨n, s0, ρ0, fp0, h0, hs0⟩ ?_
    intro a w hI
    obtain ⟨⟨s1, ρ1, fp1, q1, q2⟩, q3⟩ := hμ a w hI
    refine wp_mono (h s1 _ q1 d h1 ρ1 fp1 a w q2) ?_
    intro e a' w' ho
    cases e with
    | normal =>
      obtain ⟨s', ρ', fp', ⟨s2, m, r1, r2, r3⟩, r4⟩ := ho
      obtain ⟨ρ2, fp2, r5⟩ := r1 ρ' fp' a' w' r4
      have hp : p a' w' m := ⟨s2, ρ2, fp2, r2, r5⟩
      exact ⟨⟨m, hp⟩, Nat.lt_of_le_of_lt ((hμ a' w' ⟨m, hp⟩).2 m hp) r3⟩
    | exit id => exact ho
    | ret => exact ho
    | goto l => exact ho.elim
    | panic c => exact ho.elim
    | outgrown => exact ho.elim
  case region => exact absurd ⟨_, _, _, rfl⟩ hreg
end Go.Proofs.Ytfakdapglbgokaa

/-
  The plain machine: other names, rows that are no longer written to; calls out of bodies. No condition.
-/
namespace Go.Proofs.Ytfakdapglbgokaa
set_option linter.all false
open Go.RowKit

def ren0 (σ : Nat → Nat) : SV → SV
  | .ptr id o => .ptr (σ id) o
  | .eptr id z i j => .eptr (σ id) z i j
  | .own id n => .own (σ id) n
  | .agg _ | .tup _ => .bot
  | .fn f [] [] => .fn f [] []
  | .fn _ _ _ => .bot
  | x => x
def ren1 (σ : Nat → Nat) : SV → SV
  | .agg cs => .agg (cs.map (ren0 σ))
  | .fn f gs bs => .fn f (gs.map (ren0 σ)) (bs.map (ren0 σ))
  | x => ren0 σ x
def ren (σ : Nat → Nat) : SV → SV
  | .tup cs => .tup (cs.map (ren1 σ))
  | .agg cs => .agg (cs.map (ren1 σ))
  | x => ren1 σ x
variable {w : World} {A : Nat → Prop} {ρ : Plan_} {σ : Nat → Nat}
theorem RepV.view_any {ρ' : Plan_} {size : Nat} {es : List (List SV)} {v : Value} (h : RepV w A ρ (.view size es) v) : RepV w A ρ' (.view size es) v := by
  cases h with
  | view0 hc ha => exact .view0 hc ha
  | view cv hn hc hm hA hb hz h1 h2 ho => exact .view cv hn hc hm hA hb hz h1 h2 ho
theorem RepV.cp_any {ρ' : Plan_} {cs : List SV} {v : Value} (h : RepV w A ρ (.cp cs) v) : RepV w A ρ' (.cp cs) v := by
  cases h with
  | cp cv hA hb h1 h2 ho => exact .cp cv hA hb h1 h2 ho
theorem ren0_back {x : SV} {v : Value} (h : RepV w A ρ (ren0 σ x) v) : RepV w A (fun id => ρ (σ id)) x v := by
  cases x with
  | any => exact .any
  | bool b => change RepV w A ρ (.bool b) v at h; cases h; exact .bool
  | int k n => change RepV w A ρ (.int k n) v at h; cases h; exact .int
  | str t => change RepV w A ρ (.str t) v at h; cases h; exact .str
  | nil => change RepV w A ρ .nil v at h; cases h; exact .nil
  | nilsl => change RepV w A ρ .nilsl v at h; cases h; exact .nilsl
  | nilfn => change RepV w A ρ .nilfn v at h; cases h; exact .nilfn
  | view z es => exact RepV.view_any h
  | cp cs => exact RepV.cp_any h
  | ptr id o => change RepV w A ρ (.ptr (σ id) o) v at h; cases h with | ptr h => exact .ptr h
  | eptr id z i j => change RepV w A ρ (.eptr (σ id) z i j) v at h; cases h with | eptr h => exact .eptr h
  | own id n =>
    change RepV w A ρ (.own (σ id) n) v at h
    cases h with
    | own0 h => exact .own0 h
    | own h h2 h3 => exact .own h h2 h3
  | agg cs => change RepV w A ρ .bot v at h; cases h
  | tup cs => change RepV w A ρ .bot v at h; cases h
  | bot => change RepV w A ρ .bot v at h; cases h
  | fn f a b =>
    cases a with
    | nil =>
      cases b with
      | nil =>
        change RepV w A ρ (.fn f [] []) v at h
        cases h with
        | fn l1 l2 r1 r2 => exact .fn l1 l2 (by simp) (by simp)
      | cons y b => change RepV w A ρ .bot v at h; cases h
    | cons y a => change RepV w A ρ .bot v at h; cases h
theorem back_list {f : SV → SV} {g : Plan_} (hf : ∀ {x v}, RepV w A ρ (f x) v → RepV w A g x v) {cs : List SV} {vs : List Value} (h : ∀ (j : Nat) x v, (cs.map f)[j]? = some x → vs[j]? = some v → RepV w A ρ x v) : ∀ (j : Nat) x v, cs[j]? = some x → vs[j]? = some v → RepV w A g x v := fun j x v hx hv => by
  refine hf (h j (f x) v ?_ hv)
  rw [List.getElem?_map, hx]; rfl
theorem ren1_back {x : SV} {v : Value} (h : RepV w A ρ (ren1 σ x) v) : RepV w A (fun id => ρ (σ id)) x v := by
  cases x with
  | agg cs =>
    change RepV w A ρ (.agg (cs.map (ren0 σ))) v at h
    cases h with
    | agg ho hl hh => exact .agg ho (by simpa using hl) (back_list ren0_back hh)
  | fn f a b =>
    change RepV w A ρ (.fn f (a.map (ren0 σ)) (b.map (ren0 σ))) v at h
    cases h with
    | fn l1 l2 r1 r2 => exact .fn (by simpa using l1) (by simpa using l2) (back_list ren0_back r1) (back_list ren0_back r2)
  | _ => exact ren0_back h
theorem ren_back {x : SV} {v : Value} (h : RepV w A ρ (ren σ x) v) : RepV w A (fun id => ρ (σ id)) x v := by
  cases x with
  | agg cs =>
    change RepV w A ρ (.agg (cs.map (ren1 σ))) v at h
    cases h with
    | agg ho hl hh => exact .agg ho (by simpa using hl) (back_list ren1_back hh)
  | tup cs =>
    change RepV w A ρ (.tup (cs.map (ren1 σ))) v at h
    cases h with
    | tup hl hh => exact .tup (by simpa using hl) (back_list ren1_back hh)
  | _ => exact ren1_back h
theorem rens_back {xs : List SV} {vs : List Value} (h : Reps w A ρ (xs.map (ren σ)) vs) : Reps w A (fun id => ρ (σ id)) xs vs := ⟨by simpa using h.1, back_list ren_back h.2⟩

/-- A value that may be taken for another one. -/
def Co (x y : SV) : Prop := ∀ w A ρ v, RepV w A ρ x v → RepV w A ρ y v
theorem Co.refl (x : SV) : Co x x := fun _ _ _ _ h => h
theorem Co.any (x : SV) : Co x .any := fun _ _ _ _ _ => .any
theorem Co.nilsl (z : Nat) : Co .nilsl (.view z []) := fun _ _ _ _ h => by cases h; exact .view0 (by simp [maxLen]) (fun _ => rfl)
def CoL : List SV → List SV → Prop
  | [], [] => True
  | x :: xs, y :: ys => Co x y ∧ CoL xs ys
  | _, _ => False
theorem CoL.refl : ∀ xs, CoL xs xs
  | [] => trivial
  | x :: xs => ⟨.refl x, CoL.refl xs⟩
theorem CoL.length : ∀ {xs ys}, CoL xs ys → xs.length = ys.length
  | [], [], _ => rfl
  | x :: xs, y :: ys, h => by rw [List.length_cons, List.length_cons, CoL.length h.2]
  | [], _ :: _, h => h.elim
  | _ :: _, [], h => h.elim
theorem CoL.reps : ∀ {xs ys : List SV} {vs : List Value}, CoL xs ys → Reps w A ρ xs vs → Reps w A ρ ys vs
  | [], [], _, _, h => h
  | x :: xs, y :: ys, vs, h, hr => by
    obtain ⟨v, us, rfl, h1, h2⟩ := hr.cons_inv
    exact Reps.cons (h.1 _ _ _ _ h1) (CoL.reps h.2 h2)
  | [], _ :: _, _, h, _ => h.elim
  | _ :: _, [], _, h, _ => h.elim
theorem CoL.append : ∀ {xs ys us vs : List SV}, CoL xs ys → CoL us vs → CoL (xs ++ us) (ys ++ vs)
  | [], [], _, _, _, h => h
  | x :: xs, y :: ys, _, _, h, g => ⟨h.1, CoL.append h.2 g⟩
  | [], _ :: _, _, _, h, _ => h.elim
  | _ :: _, [], _, _, h, _ => h.elim
theorem Co.agg {xs ys : List SV} (h : CoL xs ys) : Co (.agg xs) (.agg ys) := fun w A ρ v hv => by
  cases hv with
  | agg ho hl hh => have := h.reps ⟨hl, hh⟩; exact .agg ho this.1 this.2
theorem Co.tup {xs ys : List SV} (h : CoL xs ys) : Co (.tup xs) (.tup ys) := fun w A ρ v hv => by
  cases hv with
  | tup hl hh => have := h.reps ⟨hl, hh⟩; exact .tup this.1 this.2
def CoLL : List (List SV) → List (List SV) → Prop
  | [], [] => True
  | x :: xs, y :: ys => CoL x y ∧ CoLL xs ys
  | _, _ => False
theorem CoLL.refl : ∀ xs, CoLL xs xs
  | [] => trivial
  | x :: xs => ⟨.refl x, CoLL.refl xs⟩
theorem CoLL.append : ∀ {xs ys us vs : List (List SV)}, CoLL xs ys → CoLL us vs → CoLL (xs ++ us) (ys ++ vs)
  | [], [], _, _, _, h => h
  | x :: xs, y :: ys, _, _, h, g => ⟨h.1, CoLL.append h.2 g⟩
  | [], _ :: _, _, _, h, _ => h.elim
  | _ :: _, [], _, _, h, _ => h.elim
theorem CoLL.length : ∀ {xs ys}, CoLL xs ys → xs.length = ys.length
  | [], [], _ => rfl
  | x :: xs, y :: ys, h => by rw [List.length_cons, List.length_cons, CoLL.length h.2]
  | [], _ :: _, h => h.elim
  | _ :: _, [], h => h.elim
theorem CoLL.flat : ∀ {xs ys}, CoLL xs ys → CoL xs.flatten ys.flatten
  | [], [], _ => trivial
  | x :: xs, y :: ys, h => by rw [List.flatten_cons, List.flatten_cons]; exact h.1.append (CoLL.flat h.2)
  | [], _ :: _, h => h.elim
  | _ :: _, [], h => h.elim
theorem CoLL.sizes {z : Nat} : ∀ {xs ys}, CoLL xs ys → (∀ x ∈ xs, x.length = z) → ∀ y ∈ ys, y.length = z
  | [], [], _, _, y, hy => by cases hy
  | x :: xs, y :: ys, h, hz, u, hu => by
    rcases List.mem_cons.1 hu with e | e
    · rw [e, ← h.1.length]; exact hz x (by simp)
    · exact CoLL.sizes h.2 (fun x hx => hz x (by simp [hx])) u e
  | [], _ :: _, h, _, _, _ => h.elim
  | _ :: _, [], h, _, _, _ => h.elim
/-- An object under other names. -/
def ObjM (σ : Nat → Nat) : SObj → SObj → Prop
  | .cells t cs, .cells t' ds => t = t' ∧ CoL cs (ds.map (ren σ))
  | .row e z es, .row e' z' fs => e = e' ∧ z = z' ∧ CoLL es (fs.map (·.map (ren σ)))
  | .abs I, .abs I' => I = I'
  | _, _ => False
theorem ObjM.back {o o' : SObj} (h : ObjM σ o o') {id : Nat} {F : Nat → Prop} (hr : ObjRep w A ρ (σ id) F o) : ObjRep w A (fun id => ρ (σ id)) id F o' := by
  cases o with
  | cells t cs =>
    cases o' with
    | cells t' ds =>
      obtain ⟨rfl, hco⟩ := h
      obtain ⟨b, c, vs, h1, h2, ⟨h3, h4⟩, h5⟩ := hr
      exact ⟨b, c, vs, h1, h2, ⟨rens_back (hco.reps h3), h4⟩, h5⟩
    | row => exact h.elim
    | abs => exact h.elim
  | row e z es =>
    cases o' with
    | row e' z' fs =>
      obtain ⟨rfl, rfl, hco⟩ := h
      obtain ⟨v, vs, h1, ⟨h2, h3⟩, h4, h5, h6⟩ := hr
      have hl : es.length = fs.length := by have := hco.length; simpa using this
      refine ⟨v, vs, by rw [← hl]; exact h1, ⟨?_, h3⟩, fun x hx => ?_, h5, h6⟩
      · have h7 := hco.flat.reps h2
        rw [← List.map_flatten] at h7
        exact rens_back h7
      · have := hco.sizes h4 (x.map (ren σ)) (List.mem_map.2 ⟨x, hx, rfl⟩)
        simpa using this
    | cells => exact h.elim
    | abs => exact h.elim
  | abs I =>
    cases o' with
    | abs I' => obtain rfl := h; exact hr
    | cells => exact h.elim
    | row => exact h.elim
def SlotsM (σ : Nat → Nat) (sl : Sl) : Sl → Prop
  | [] => True
  | (t, v) :: r => Co (gets sl t) (ren σ v) ∧ SlotsM σ sl r
def ObjsM (σ : Nat → Nat) (hp : Hp) : Hp → Prop
  | [] => True
  | (i, o') :: r => (∃ o, geth hp (σ i) = some o ∧ ObjM σ o o') ∧ ObjsM σ hp r
theorem SlotsM.get {sl : Sl} : ∀ {l : Sl}, SlotsM σ sl l → ∀ t, gets l t = .any ∨ Co (gets sl t) (ren σ (gets l t))
  | [], _, t => .inl rfl
  | (u, v) :: r, h, t => by
    simp only [gets]
    split
    · rename_i e; subst e; exact .inr h.1
    · exact SlotsM.get h.2 t
theorem ObjsM.get {hp : Hp} : ∀ {l : Hp}, ObjsM σ hp l → ∀ id o', geth l id = some o' → ∃ o, geth hp (σ id) = some o ∧ ObjM σ o o'
  | [], _, id, o', h => by cases h
  | (i, x) :: r, h, id, o', hg => by
    simp only [geth] at hg
    split at hg
    · rename_i e; subst e; cases hg; exact h.1
    · exact ObjsM.get h.2 id o' hg
/-- Names as a list; other ones go beyond U. -/
def rn : List (Nat × Nat) → Nat → Nat → Nat
  | [], U, id => U + id
  | (i, j) :: D, U, id => if i = id then j else rn D U id
variable {X : Cx} {s s' : SSt}
theorem wk_ren (σ : Nat → Nat) (hm : ∀ id, id < X.m → σ id = id) (hsl : SlotsM σ s.sl s'.sl) (hhp : ObjsM σ s.hp s'.hp) (hinj : ∀ id id', geth s'.hp id ≠ none → geth s'.hp id' ≠ none → σ id = σ id' → id = id') (hfr : ∀ id, s'.nx ≤ id → s.nx ≤ σ id) (hle : X.m ≤ s'.nx) : Wk X s s' := by
  intro ρ fp a w h
  have hav : ∀ k, Av X s'.hp (fun id => fp (σ id)) k → Av X s.hp fp k := by
    rintro k (hO | ⟨id, o', ho, hk⟩)
    · exact .inl hO
    · obtain ⟨o, h1, _⟩ := hhp.get id o' ho
      exact .inr ⟨σ id, o, h1, hk⟩
  refine ⟨fun id => ρ (σ id), fun id => fp (σ id), ⟨⟨fun id o' ho => ?_, fun id id' o o' hne ho ho' k hk => ?_, fun id o ho k hk => ?_, h.sim.h.step, fun id hid => ?_⟩, h.sim.tmps, h.sim.defers, fun t => ?_⟩, fun id hid => h.fresh _ (hfr id hid), hle⟩
  · obtain ⟨o, h1, h2⟩ := hhp.get id o' ho
    exact (h2.back (h.sim.h.objs _ _ h1)).weaken fun k hk _ => hav k hk
  · obtain ⟨x, h1, _⟩ := hhp.get id o ho
    obtain ⟨y, h2, _⟩ := hhp.get id' o' ho'
    exact h.sim.h.disj _ _ x y (fun e => hne (hinj id id' (by rw [ho]; simp) (by rw [ho']; simp) e)) h1 h2 k hk
  · obtain ⟨x, h1, _⟩ := hhp.get id o ho
    exact h.sim.h.turn _ x h1 k hk
  · show ρ (σ id) = _
    rw [hm id hid]; exact h.sim.h.keep id hid
  · rcases hsl.get t with h1 | h1
    · rw [h1]; exact .any
    · exact (ren_back (h1 _ _ _ _ (h.sim.slots t))).weaken fun k hk _ => hav k hk
theorem rn_fresh {U n : Nat} : ∀ (D : List (Nat × Nat)), (D.all fun p => decide (p.1 < n)) = true → ∀ id, n ≤ id → rn D U id = U + id
  | [], _, id, _ => rfl
  | (i, j) :: D, h, id, hid => by
    simp only [List.all_cons, Bool.and_eq_true, decide_eq_true_eq] at h
    rw [rn, if_neg (by omega)]
    exact rn_fresh D h.2 id hid
/-- Other names, by a list. -/
def okNames (m n : Nat) (D : List (Nat × Nat)) (hp' : Hp) : Bool :=
  (D.all fun p => decide (p.1 < n)) && ((List.range m).all fun i => rn D 0 i == i && D.any fun p => p.1 == i) && ((idsH hp').all fun i => D.any fun p => p.1 == i) && decide (((D.filter fun p => (idsH hp').contains p.1).map (·.2)).Nodup)
end Go.Proofs.Ytfakdapglbgokaa
