/-
  Texts joined: XShG XShH XShI XShJ XShK XShL XShR XShS XShV XShM XShN XShO XShP XShQ XShW XShX XFirst XWordP XTabA XOpen XPlnA XBitsP XBitsU XPackP XTStep XTabD XPlnB XShAb. No condition.
-/
import Derived.Orders
import Derived.IntWalk
import Derived.Test.YticeaegpkpjjeaaProg
import Derived.ProofKit
import Derived.Deep.Slices
import Derived.Handy
import Derived.Test.YticeaegpkpjjeaaRows
import Derived.Deep.QuietTactic
import Derived.BigQuiet
import Derived.WalkSmall
import Derived.WalkSpells
import Derived.RegionTactic
import Derived.BigRegion
import Derived.Deep.RegionLaw
import Derived.Test.YticeaegpkpjjeaaWalkSureK1
namespace Go.Proofs.Yticeaegpkpjjeaa
set_option linter.all false
open Go.RowKit
structure HeapOk (O : Nat → Prop) (ρ : qach) (fp : Nat → Nat → Prop) (hp : Hp) (w : World) : Prop where
 objs : ∀ id o, geth hp id = some o → ObjRep w (fun k => O k ∨ Live hp fp k) ρ id (fp id) o
 disj : ∀ id id' o o', id ≠ id' → geth hp id = some o → geth hp id' = some o' → ∀ k, fp id k → ¬ fp id' k
 lt : ∀ k, Live hp fp k → k < w.heap.size ∧ ¬ O k
 O_lt : ∀ k, O k → k < w.heap.size
def Enters (P : Program) (f : FuncId) : Prop := ∀ args (w : World), (callFunc f args).run P w = .ok (.enter f args) w
structure SCalls (P : Program) (f : FuncId) (args : List SV) (h1 : Hp) (q : Nat) (r : SV) (h2 : Hp) (n : Nat := 8) : Prop where
 ent : Enters P f
 does : ∀ (O : Nat → Prop) (ρ : qach) (fp : Nat → Nat → Prop) (w : World) (vs : List Value), HeapOk O ρ fp h1 w → Reps w (fun k => O k ∨ Live h1 fp k) ρ args vs → (∀ id, q ≤ id → id < q + n → ρ id = none) →
  Calls P f vs.toArray w fun e w' => ∃ v ρ' fp', e = .returned v ∧ HeapOk O ρ' fp' h2 w' ∧ RepV w' (fun k => O k ∨ Live h2 fp' k) ρ' r v ∧ Step (Live h1 fp) w w' ∧
   (∀ id p, ρ id = some p → ρ' id = some p) ∧ (∀ id, ρ' id ≠ none → ρ id ≠ none ∨ (q ≤ id ∧ id < q + n)) ∧ ∀ id o, geth h2 id = some o → ∀ k, fp' id k → Live h1 fp k ∨ w.heap.size ≤ k
def dels : Hp → Hp → Hp → Hp
 | h, [], _ => h
 | h, (i, _) :: r, h2 => dels (match geth h2 i with | some _ => h | none => delh h i) r h2
def adds : Hp → Hp → Hp
 | h, [] => h
 | h, (i, o) :: r => adds (puth h i o) r
def qab7 (hp h1 h2 : Hp) : Hp := adds (dels hp h1 h2) h2
def Uniq : Hp → Prop
 | [] => True
 | (i, _) :: r => geth r i = none ∧ Uniq r
def SubH (hp : Hp) : Hp → Prop
 | [] => True
 | (i, o) :: r => geth hp i = some o ∧ SubH hp r
theorem SubH.get {hp : Hp} : ∀ {h1 : Hp}, SubH hp h1 → ∀ id o, geth h1 id = some o → geth hp id = some o
 | [], _, id, o, h => by cases h
 | (i, x) :: r, h, id, o, hg => by
  simp only [geth] at hg
  split at hg
  ·rename_i e; subst e; cases hg; exact h.1
  ·exact SubH.get h.2 id o hg
theorem qanw : ∀ (h1 hp h2 : Hp) (id : Nat), geth (dels hp h1 h2) id = if geth h1 id ≠ none ∧ geth h2 id = none then none else geth hp id
 | [], hp, h2, id => by simp [dels, geth]
 | (i, x) :: r, hp, h2, id => by
  rw [dels, qanw r]
  by_cases e : i = id
  ·subst e
   cases h : geth h2 i with
   | some o => simp [geth]
   | none => simp [geth, qafy]
  ·cases h : geth h2 i with
   | some o => simp [geth, e]
   | none => simp [geth, e, qafy, Ne.symm e]
theorem qanx : ∀ (h2 hp : Hp), Uniq h2 → ∀ id, geth (adds hp h2) id = match geth h2 id with | some o => some o | none => geth hp id
 | [], hp, _, id => rfl
 | (i, x) :: r, hp, hu, id => by
  rw [adds, qanx r _ hu.2]
  by_cases e : i = id
  ·subst e
   rw [hu.1]; simp [geth, qacm]
  ·simp only [geth, if_neg e]
   split
   ·rfl
   ·rw [qacm, if_neg (Ne.symm e)]
theorem qaez {hp h1 h2 : Hp} (hu : Uniq h2) (id : Nat) : geth (qab7 hp h1 h2) id = match geth h2 id with | some o => some o | none => if geth h1 id ≠ none then none else geth hp id := by
 unfold qab7
 rw [qanx _ _ hu, qanw]
 cases h : geth h2 id with
 | some o => rfl
 | none => simp
variable {X : Cx} {ρ : qach} {fp : Nat → Nat → Prop} {hp : Hp} {w : World} {N : Nat} {a : Act} {sl : Sl}
theorem ObjRep.weaken {A A' : Nat → Prop} {id : Nat} {F : Nat → Prop} {o : SObj} (h : ObjRep w A ρ id F o) (hA : ∀ k, A' k → k < w.heap.size → A k) : ObjRep w A' ρ id F o :=
 h.mono ⟨.refl _ _, hA, fun _ _ h => h⟩ fun _ _ => rfl
theorem Reps.weaken {A A' : Nat → Prop} {x : List SV} {v : List Value} (h : Reps w A ρ x v) (hA : ∀ k, A' k → k < w.heap.size → A k) : Reps w A' ρ x v := h.mono (.refl _ _) hA fun _ _ h => h
def Rest (X : Cx) (fp : Nat → Nat → Prop) (hp h1 : Hp) (k : Nat) : Prop := X.O k ∨ ∃ id o, geth hp id = some o ∧ geth h1 id = none ∧ fp id k
theorem Rest.av {h1 : Hp} (hsub : ∀ id o, geth h1 id = some o → geth hp id = some o) (k : Nat) : (Rest X fp hp h1 k ∨ Live h1 fp k) ↔ Av X hp fp k := by
 constructor
 ·rintro ((h | ⟨id, o, h1, _, h3⟩) | ⟨id, o, h1, h2⟩)
  ·exact .inl h
  ·exact .inr ⟨id, o, h1, h3⟩
  ·exact .inr ⟨id, o, hsub _ _ h1, h2⟩
 ·rintro (h | ⟨id, o, h3, h4⟩)
  ·exact .inl (.inl h)
  ·cases e : geth h1 id with
   | none => exact .inl (.inr ⟨id, o, h3, e, h4⟩)
   | some o' => exact .inr ⟨id, o', e, h4⟩
theorem SimH.part (h : SimH X ρ fp hp w) {h1 : Hp} (hsub : ∀ id o, geth h1 id = some o → geth hp id = some o) : HeapOk (Rest X fp hp h1) ρ fp h1 w := by
 refine ⟨fun id o ho => (h.objs id o (hsub _ _ ho)).weaken fun k hk _ => (Rest.av hsub k).1 hk, fun id id' o o' hne ho ho' => h.disj id id' o o' hne (hsub _ _ ho) (hsub _ _ ho'), ?_, ?_⟩
 ·rintro k ⟨id, o, ho, hk⟩
  have ht := h.turn id o (hsub _ _ ho) k hk
  refine ⟨ht.2, ?_⟩
  rintro (hO | ⟨id', o', ho', hn, hk'⟩)
  ·rcases ht.1 with hM | hM
   ·exact X.O_M k hO hM
   ·exact absurd (X.O_lt k hO) (Nat.not_lt_of_le hM)
  ·have hne : id ≠ id' := fun e => by rw [e, hn] at ho; cases ho
   exact h.disj id id' o o' hne (hsub _ _ ho) ho' k hk hk'
 ·rintro k (hO | ⟨id', o', ho', hn, hk'⟩)
  ·exact Nat.lt_of_lt_of_le (X.O_lt k hO) h.step.size
  ·exact (h.turn id' o' ho' k hk').2
theorem SimH.called (h : SimH X ρ fp hp w) {h1 h2 : Hp} (hsub : ∀ id o, geth h1 id = some o → geth hp id = some o) (hu : Uniq h2) {ρ' : qach} {fp' : Nat → Nat → Prop} {w' : World} {q n : Nat} (hq : X.m ≤ q)
  (hk : HeapOk (Rest X fp hp h1) ρ' fp' h2 w') (hst : Step (Live h1 fp) w w') (hρ : ∀ id p, ρ id = some p → ρ' id = some p) (hn : ∀ id, ρ' id ≠ none → ρ id ≠ none ∨ (q ≤ id ∧ id < q + n))
  (hfp : ∀ id o, geth h2 id = some o → ∀ k, fp' id k → Live h1 fp k ∨ w.heap.size ≤ k) :
  SimH X ρ' (fun id k => (geth h2 id ≠ none ∧ fp' id k) ∨ (geth h2 id = none ∧ fp id k)) (qab7 hp h1 h2) w' ∧ Pres w (Av X hp fp) ρ w' (Av X (qab7 hp h1 h2) (fun id k => (geth h2 id ≠ none ∧ fp' id k) ∨ (geth h2 id = none ∧ fp id k))) ρ' ∧
   ∀ k, Av X (qab7 hp h1 h2) (fun id k => (geth h2 id ≠ none ∧ fp' id k) ∨ (geth h2 id = none ∧ fp id k)) k → Rest X fp hp h1 k ∨ Live h2 fp' k := by
 have e2 : ∀ id o, geth h2 id = some o → (fun k => (geth h2 id ≠ none ∧ fp' id k) ∨ (geth h2 id = none ∧ fp id k)) = fp' id := fun id o ho => by
  funext k; simp [ho]
 have e0 : ∀ id, geth h2 id = none → (fun k => (geth h2 id ≠ none ∧ fp' id k) ∨ (geth h2 id = none ∧ fp id k)) = fp id := fun id ho => by
  funext k; simp [ho]
 have hav : ∀ k, Av X (qab7 hp h1 h2) (fun id k => (geth h2 id ≠ none ∧ fp' id k) ∨ (geth h2 id = none ∧ fp id k)) k → Rest X fp hp h1 k ∨ Live h2 fp' k := by
  rintro k (hO | ⟨id, o, ho, hk'⟩)
  ·exact .inl (.inl hO)
  ·rw [qaez hu] at ho
   cases e : geth h2 id with
   | some o' => rcases hk' with ⟨_, hk'⟩ | ⟨h3, _⟩
                ·exact .inr ⟨id, o', e, hk'⟩
                ·rw [e] at h3; cases h3
   | none =>
    rw [e] at ho
    simp only at ho
    split at ho
    ·cases ho
    ·rename_i h1n
     rcases hk' with ⟨h3, _⟩ | ⟨_, hk'⟩
     ·exact absurd e h3
     ·exact .inl (.inr ⟨id, o, ho, by simpa using h1n, hk'⟩)
 obtain ⟨q1, q2⟩ := h.change (hp' := qab7 hp h1 h2) (ρ' := ρ') (fp' := fun id k => (geth h2 id ≠ none ∧ fp' id k) ∨ (geth h2 id = none ∧ fp id k)) (S := Live h1 fp) (fun id => geth h1 id ≠ none) (fun id => geth h2 id ≠ none) hst
  (fun k ⟨id, o, ho, hk'⟩ => ⟨id, o, hsub _ _ ho, hk', by rw [ho]; simp⟩)
  (fun id o ho hnew => by
   have e : geth h2 id = none := by simpa using hnew
   rw [qaez hu, e] at ho
   simp only at ho
   split at ho
   ·cases ho
   ·rename_i h3; exact ⟨ho, h3, e0 id e⟩)
  hρ
  (fun id hid => by
   cases e : ρ id with
   | some p => exact hρ _ _ e
   | none =>
    cases e' : ρ' id with
    | none => rfl
    | some p => rcases hn id (by rw [e']; simp) with h3 | h3
                ·exact absurd e h3
                ·omega)
  (fun id o hnew ho k hk' => by
   obtain ⟨o', e⟩ := Option.ne_none_iff_exists'.1 hnew
   have hk2 : fp' id k := by rw [← e2 id o' e]; exact hk'
   refine ⟨?_, (hk.lt k ⟨id, o', e, hk2⟩).1⟩
   rcases hfp id o' e k hk2 with ⟨j, oj, h3, h4⟩ | h3
   ·exact .inl ⟨j, oj, hsub _ _ h3, h4, by rw [h3]; simp⟩
   ·exact .inr h3)
  (fun id id' o o' hnew hnew' hne _ _ k hk1 hk2 => by
   obtain ⟨x, e⟩ := Option.ne_none_iff_exists'.1 hnew
   obtain ⟨y, e'⟩ := Option.ne_none_iff_exists'.1 hnew'
   have a1 : fp' id k := by rw [← e2 id x e]; exact hk1
   have a2 : fp' id' k := by rw [← e2 id' y e']; exact hk2
   exact hk.disj id id' x y hne e e' k a1 a2)
  (fun _ id o hnew ho => by
   obtain ⟨x, e⟩ := Option.ne_none_iff_exists'.1 hnew
   rw [qaez hu, e] at ho
   cases ho
   rw [show (fun k => (geth h2 id ≠ none ∧ fp' id k) ∨ (geth h2 id = none ∧ fp id k)) = fp' id from e2 id _ e]
   exact (hk.objs id _ e).weaken fun k hk' _ => hav k hk')
 exact ⟨q1, q2, hav⟩
end Go.Proofs.Yticeaegpkpjjeaa
namespace Go.Proofs.Yticeaegpkpjjeaa
set_option linter.all false
open Go.RowKit
def putd (l : Sl) (dst : Option Nat) (v : SV) : Sl := match dst with
 | none => l
 | some d => puts l d v
structure Tch where
 rd : List Nat
 wr : List Nat
def idOf : SV → List Nat
 | .ptr id _ | .eptr id _ _ _ | .own id _ | .owno id _ _ _ => [id]
 | _ => []
def SOp.touch (ev : SX → SV) : SOp → List Nat
 | .load x | .loads _ x | .store _ x _ => idOf (ev x)
 | .app _ _ _ s x => idOf (ev s) ++ idOf (ev x)
 | _ => []
def idsH (h : Hp) : List Nat := h.map (·.1)
def SOp1 (P : Program) (o : SOper) (s : SSt) (K : SSt → Tch → Prop) : Prop := match o.cal with
 | some (f, args) => match f.ev s.sl with
  | .fn (.func g) first cap => ∃ h1 r h2 rd n, SCalls P g (first ++ args.map (·.ev s.sl) ++ cap) h1 s.nx r h2 n ∧ SubH s.hp h1 ∧ Uniq h2 ∧ (∀ id ∈ rd, geth h2 id = geth h1 id) ∧
    K ⟨putd s.sl o.dst r, qab7 s.hp h1 h2, s.nx + n⟩ ⟨rd, (idsH h1 ++ idsH h2).filter fun i => !rd.contains i⟩
  | _ => False
 | none => match o.op.run (·.ev s.sl) (geth s.hp) s.nx with
  | some (v, u, _) => K ⟨putd s.sl o.dst v, upds s.hp u, s.nx + 1⟩ ⟨o.op.touch (·.ev s.sl), u.map (·.1)⟩
  | none => False
def SSt.skip (s : SSt) (o : SOper) : SSt := ⟨putd s.sl o.dst (.tup []), s.hp, s.nx⟩
def SOps (P : Program) : List SOper → SSt → List Tch → (SSt → List Tch → Prop) → Prop
 | [], s, tr, Q => Q s tr
 | o :: os, s, tr, Q => match o.grd with
  | none => SOp1 P o s fun s' x => SOps P os s' (x :: tr) Q
  | some (t, want) => match gets s.sl t with
   | .bool b => (b = want → SOp1 P o s fun s' x => SOps P os s' (x :: tr) Q) ∧ (b ≠ want → SOps P os (s.skip o) (⟨[], []⟩ :: tr) Q)
   | .tup [] => SOps P os (s.skip o) (⟨[], []⟩ :: tr) Q
   | _ => False
structure SimF (X : Cx) (ρ : qach) (fp : Nat → Nat → Prop) (s : SSt) (a : Act) (w : World) : Prop where
 sim : Sim X ρ fp s a w
 fresh : ∀ id, s.nx ≤ id → ρ id = none
 le : X.m ≤ s.nx
theorem Enters.of {P : Program} {f : FuncId} {fn : Func} (hf : P.funcs[f]? = some fn) (hb : fn.body.isSome = true) (hn : (fn.name == "runtime.NumGoroutine") = false) : Enters P f := fun args w => by
 have hb' : fn.body.isNone = false := by cases h : fn.body <;> simp_all
 unfold callFunc
 simp only [Sem.run_bind, run_program, Result.andThen_ok, hf, hn, hb', Bool.false_eq_true, if_false, Sem.run_pure]
variable {X : Cx} {ρ : qach} {fp : Nat → Nat → Prop} {w : World} {a : Act} {s : SSt}
theorem Sim.put (h : Sim X ρ fp s a w) {ρ' : qach} {fp' : Nat → Nat → Prop} {hp' : Hp} {w' : World} {nx' : Nat} (hh : SimH X ρ' fp' hp' w') (hp : Pres w (Av X s.hp fp) ρ w' (Av X hp' fp') ρ') {v : SV} {v' : Value} (hv : RepV w' (Av X hp' fp') ρ' v v') {dst : Option Nat} (hd : dst.all (· < X.N) = true) :
  Sim X ρ' fp' ⟨putd s.sl dst v, hp', nx'⟩ (a.put dst v') w' := by
 cases dst with
 | none => exact ⟨hh, h.tmps, h.defers, fun t => hp.rep (h.slots t)⟩
 | some d =>
  have hd' : d < a.tmps.size := by rw [h.tmps]; simpa using hd
  refine ⟨hh, by simp [Act.put, h.tmps], h.defers, fun t => ?_⟩
  show RepV w' (Av X hp' fp') ρ' (gets (puts s.sl d v) t) ((a.tmps.setIfInBounds d v').getD t undef)
  rw [qafw]
  by_cases e : t = d
  ·subst e
   rw [if_pos rfl]
   simp [hd']
   exact hv
  ·rw [if_neg e]
   have := hp.rep (h.slots t)
   simpa [Array.getElem?_setIfInBounds_ne (Ne.symm e)] using this
theorem qad3 {P : Program} {N : Nat} {ops : Array Oper} {o : Oper} {b : Nat} {so : SOper} (h : qa31 P N ops o b = some so) : so.dst = o.dst ∧ o.dst.all (· < N) = true ∧ cgrd ops o.guard = some so.grd ∧ so.bef = b ∧
  ((so.cal = none ∧ cop P N o.type o.op = some so.op) ∨ ∃ f args g gs tys, so.cal = some (f, args) ∧ o.op = .call { callee := .value g, args := gs, argTypes := tys } ∧ cx N g = some f ∧ gs.toList.mapM (cx N) = some args) := by
 unfold qa31 at h
 split at h
 ·rename_i hd
  split at h
  ·cases h
  ·rename_i g hg
   split at h
   ·rename_i f args tys hop
    simp only [Option.map_eq_some_iff] at h
    obtain ⟨c, hc, rfl⟩ := h
    unfold ccal at hc
    split at hc
    ·rename_i f' l h1 h2
     cases hc
     exact ⟨rfl, hd, hg, rfl, .inr ⟨f', l, f, args, tys, rfl, hop, h1, h2⟩⟩
    ·cases hc
   ·simp only [Option.map_eq_some_iff] at h
    obtain ⟨op, hop, rfl⟩ := h
    exact ⟨rfl, hd, hg, rfl, .inl ⟨rfl, hop⟩⟩
 ·cases h
theorem Yld.upon {P : Program} {o : Oper} {next : Act → World → Prop} {Q : Exit → Act → World → Prop} {v : Value} {w' : World} (h : Yld ((execOp a.eval o).run P w) v w') (hn : next (a.put o.dst v) w') : o.wp P a w next Q := by
 unfold Oper.wp
 rcases h with h | ⟨h, rfl⟩ <;> rw [h] <;> exact hn
theorem op1_ok {ops : Array Oper} {o : Oper} {b : Nat} {so : SOper} (hc : qa31 X.P X.N ops o b = some so) {K : SSt → Tch → Prop} (hk : SOp1 X.P so s K) (h : SimF X ρ fp s a w) {next : Act → World → Prop} {Q : Exit → Act → World → Prop}
  (hn : ∀ s' x ρ' fp' a' w', K s' x → SimF X ρ' fp' s' a' w' → next a' w') : o.wp X.P a w next Q := by
 obtain ⟨hdst, hd, _, _, hop⟩ := qad3 hc
 unfold SOp1 at hk
 rcases hop with ⟨hcal, hop⟩ | ⟨f, args, g, gs, tys, hcal, hop, hf, hargs⟩
 ·rw [hcal] at hk
  simp only at hk
  split at hk
  ·rename_i v u nx' hr
   obtain ⟨v', w', h1, ρ', fp', h2, h3, h4, h5⟩ := op_ok h.sim.h h.sim.slots hop h.le (h.fresh _ (Nat.le_refl _)) hr
   refine (h1 o rfl).upon (hn _ _ ρ' fp' _ _ hk ⟨?_, fun id hid => ?_, ?_⟩)
   ·have := h.sim.put (nx' := s.nx + 1) h2 h4 h3 (dst := so.dst) (by rw [hdst]; exact hd)
    rw [hdst] at this ⊢; exact this
   ·cases e : ρ' id with
    | none => rfl
    | some p =>
     simp only at hid
     rcases h5 id (by rw [e]; simp) with h6 | h6
     ·exact absurd (h.fresh id (by omega)) h6
     ·omega
   ·have := h.le; simp only; omega
  ·cases hk
 ·rw [hcal] at hk
  simp only at hk
  split at hk
  ·rename_i g' first cap hfv
   obtain ⟨h1, r, h2, rd, nn, ⟨hent, hcall⟩, hsub, hu, _, hk⟩ := hk
   have hsub' := hsub.get
   have rf := qab8 hf h.sim.slots
   rw [hfv] at rf
   have rargs := qah4 hargs h.sim.slots
   generalize hgv : a.eval g = gv at rf
   cases rf with
   | fn l1 l2 r1 r2 =>
    rename_i vs us
    have hav : ∀ k, (Rest X fp s.hp h1 k ∨ Live h1 fp k) → Av X s.hp fp k := fun k hk => (Rest.av hsub' k).1 hk
    have hreps : Reps w (fun k => Rest X fp s.hp h1 k ∨ Live h1 fp k) ρ (first ++ args.map (·.ev s.sl) ++ cap) (vs ++ gs.toList.map a.eval ++ us) :=
     ((Reps.append (Reps.append ⟨l1, r1⟩ rargs) ⟨l2, r2⟩)).weaken fun k hk _ => hav k hk
    have := hcall (Rest X fp s.hp h1) ρ fp w _ (h.sim.h.part hsub') hreps (fun id h3 _ => h.fresh id h3)
    have hrun : (execOp a.eval o).run X.P w = .ok (.enter g' (vs ++ gs.toList.map a.eval ++ us).toArray) w := by
     have e1 : (vs.toArray ++ gs.map a.eval ++ us.toArray) = (vs ++ gs.toList.map a.eval ++ us).toArray := by apply Array.ext'; simp
     simp only [execOp, hop, resolve, hgv, Deferred.ofValue, Sem.run_bind, Sem.run_pure, Result.andThen_ok, invoke, e1]
     exact hent _ _
    unfold Oper.wp
    rw [hrun, Oper.upon_enter]
    refine this.mono ?_
    rintro e w' ⟨v, ρ', fp', rfl, q1, q2, q3, q4, q5, q6⟩
    obtain ⟨p1, p2, p3⟩ := h.sim.h.called hsub' hu (q := s.nx) h.le q1 q3 q4 q5 q6
    refine hn _ _ ρ' (fun id k => (geth h2 id ≠ none ∧ fp' id k) ∨ (geth h2 id = none ∧ fp id k)) _ _ hk ⟨?_, fun id hid => ?_, ?_⟩
    ·have := h.sim.put (nx' := s.nx + nn) p1 p2 (q2.weaken fun k hk _ => p3 k hk) (dst := so.dst) (by rw [hdst]; exact hd)
     rw [hdst] at this ⊢; exact this
    ·cases e : ρ' id with
     | none => rfl
     | some p =>
      simp only at hid
      rcases q5 id (by rw [e]; simp) with h6 | h6
      ·exact absurd (h.fresh id (by omega)) h6
      ·omega
    ·have := h.le; simp only; omega
  ·cases hk
theorem qatw {ops : Array Oper} {o : Oper} {so : SOper} (hg : cgrd ops o.guard = some so.grd) (h : Sim X ρ fp s a w) :
  (so.grd = none → Region.wanted o (yielded ops a.tmps) = true) ∧ ∀ t want, so.grd = some (t, want) → (∀ b, gets s.sl t = .bool b → Region.wanted o (yielded ops a.tmps) = decide (b = want)) ∧ (gets s.sl t = .tup [] → Region.wanted o (yielded ops a.tmps) = false) := by
 cases hgd : o.guard with
 | none =>
  rw [hgd] at hg
  simp only [cgrd, Option.some.injEq] at hg
  rw [← hg]
  exact ⟨(fun _ => by simp [Region.wanted, hgd]), (fun t want e => by cases e)⟩
 | some jw =>
  obtain ⟨j, want'⟩ := jw
  rw [hgd] at hg
  simp only [cgrd] at hg
  split at hg
  ·rename_i t ht
   injection hg with hg
   rw [← hg]
   refine ⟨(fun e => by cases e), fun t' want e => ?_⟩
   cases e
   have hs := h.slots t
   refine ⟨fun b hb => ?_, fun hb => ?_⟩
   ·rw [hb] at hs
    have hv : a.tmps.getD t undef = .bool b := by generalize a.tmps.getD t undef = v at hs; cases hs; rfl
    have hv2 : a.tmps[t]? = some (.bool b) := by
     cases e : a.tmps[t]? with
     | none => rw [Array.getD_eq_getD_getElem?, e] at hv; cases hv
     | some x => rw [Array.getD_eq_getD_getElem?, e] at hv; rw [← hv]; rfl
    simp only [Region.wanted, hgd, yielded, ht, Option.bind_some, hv2]
    cases b <;> cases want' <;> rfl
   ·rw [hb] at hs
    have hv : a.tmps.getD t undef = .tuple #[] := by
     generalize a.tmps.getD t undef = v at hs
     cases hs with
     | tup hl _ => have := List.eq_nil_of_length_eq_zero hl.symm; rw [this]
    have hv2 : ∀ b, a.tmps[t]? ≠ some (.bool b) := fun b e => by
     rw [Array.getD_eq_getD_getElem?, e] at hv; cases hv
    simp only [Region.wanted, hgd, yielded, ht, Option.bind_some]
    first | rfl | (split <;> first | rfl | (rename_i b hb'; exact absurd hb' (hv2 b)) | simp)
  ·cases hg
theorem Sim.skip (h : SimF X ρ fp s a w) {so : SOper} {dst : Option Nat} (hdst : so.dst = dst) (hd : dst.all (· < X.N) = true) : SimF X ρ fp (s.skip so) (a.put dst undef) w := by
 subst hdst
 exact ⟨h.sim.put (nx' := s.nx) h.sim.h (.refl _ _ _) (RepV.tup (cs := []) (vs := []) rfl (by simp)) hd, h.fresh, h.le⟩
theorem qafa {P : Program} {N : Nat} {ops : Array Oper} {o : Oper} {os : List Oper} {bs : List Nat} {sos : List SOper} (h : qafb P N ops (o :: os) bs = some sos) : ∃ so r, sos = so :: r ∧ qa31 P N ops o (bs.headD 0) = some so ∧ qafb P N ops os bs.tail = some r := by
 simp only [qafb, Option.bind_eq_bind, Option.bind_eq_some_iff, Option.some.injEq] at h
 obtain ⟨so, h1, r, h2, rfl⟩ := h
 exact ⟨so, r, rfl, h1, h2⟩
theorem sops_ok {ops : Array Oper} {Q : SSt → List Tch → Prop} {R : Exit → Act → World → Prop} (hQ : ∀ s tr ρ fp a w, Q s tr → SimF X ρ fp s a w → R .normal a w) : ∀ (l : List Oper) (bs : List Nat) (sos : List SOper), qafb X.P X.N ops l bs = some sos → ∀ (s : SSt) (tr : List Tch) (ρ : qach) (fp : Nat → Nat → Prop) (a : Act) (w : World),
  SOps X.P sos s tr Q → SimF X ρ fp s a w → wpList X.P ops R l a w := by
 intro l
 induction l with
 | nil =>
  intro bs sos hc s tr ρ fp a w hk h
  simp only [qafb, Option.some.injEq] at hc
  subst hc
  exact hQ _ _ _ _ _ _ hk h
 | cons o l ih =>
  intro bs sos hc s tr ρ fp a w hk h
  obtain ⟨so, r, rfl, hso, hr⟩ := qafa hc
  obtain ⟨hdst, hd, hg, _, _⟩ := qad3 hso
  obtain ⟨g1, g2⟩ := qatw hg h.sim
  refine wpList_step fun K hK => ?_
  have run : (SOp1 X.P so s fun s' x => SOps X.P r s' (x :: tr) Q) → o.wp X.P a w K R := fun hk => op1_ok hso hk h fun s' x ρ' fp' a' w' hk' h' => hK _ _ (ih _ _ hr _ _ _ _ _ _ hk' h')
  simp only [SOps] at hk
  cases hgr : so.grd with
  | none =>
   rw [hgr] at hk
   rw [if_pos (g1 hgr)]
   exact run hk
  | some tw =>
   obtain ⟨t, want⟩ := tw
   rw [hgr] at hk
   obtain ⟨g3, g4⟩ := g2 t want hgr
   simp only at hk
   split at hk
   ·rename_i b hb
    rw [g3 b hb]
    by_cases hbw : b = want
    ·rw [if_pos (by simpa using hbw)]
     exact run (hk.1 hbw)
    ·rw [if_neg (by simpa using hbw)]
     exact hK _ _ (ih _ _ hr _ _ _ _ _ _ (hk.2 hbw) (Sim.skip h hdst hd))
   ·rename_i hb
    rw [g4 hb, if_neg (by simp)]
    exact hK _ _ (ih _ _ hr _ _ _ _ _ _ hk (Sim.skip h hdst hd))
   ·cases hk
end Go.Proofs.Yticeaegpkpjjeaa
namespace Go.Proofs.Yticeaegpkpjjeaa
set_option linter.all false
open Go.RowKit
inductive SExit where
 | normal
 | exit (id : Nat)
 | ret
def Out (X : Cx) (Q : SExit → SSt → Prop) : Exit → Act → World → Prop
 | .normal, a, w => ∃ s ρ fp, Q .normal s ∧ SimF X ρ fp s a w
 | .exit id, a, w => ∃ s ρ fp, Q (.exit id) s ∧ SimF X ρ fp s a w
 | .ret, a, w => ∃ s ρ fp, Q .ret s ∧ SimF X ρ fp s a w
 | _, _, _ => False
def SWp (X : Cx) (c : SCode) (Q : SExit → SSt → Prop) (s : SSt) : Prop :=
 ∀ code, comp X.P X.N code = some c.erase → ∀ ρ fp a w, SimF X ρ fp s a w → code.wp X.P (Out X Q) a w
def Wk (X : Cx) (s s' : SSt) : Prop := ∀ ρ fp a w, SimF X ρ fp s a w → ∃ ρ' fp', SimF X ρ' fp' s' a w
theorem Wk.refl (X : Cx) (s : SSt) : Wk X s s := fun ρ fp _ _ h => ⟨ρ, fp, h⟩
theorem Wk.trans {X : Cx} {s t u : SSt} (h : Wk X s t) (k : Wk X t u) : Wk X s u := fun ρ fp a w hs => let ⟨_, _, h1⟩ := h ρ fp a w hs; k _ _ a w h1
theorem qacn {P : Program} {N id : Nat} {ops : Array Oper} {draw : Bool} {c : SCode} (h : comp P N (.region id ops draw) = some c) : ∃ l, c = .reg draw l [] ∧ qafb P N ops ops.toList (if draw then (Region.before ops).toList else []) = some l ∧ (draw = false ∨ qat8 ops = true) := by
 simp only [comp] at h
 split at h
 ·rename_i hd
  simp only [Option.bind_eq_bind, Option.bind_eq_some_iff, Option.some.injEq] at h
  obtain ⟨l, h1, rfl⟩ := h
  exact ⟨l, rfl, h1, hd⟩
 ·cases h
variable {X : Cx} {s : SSt} {Q : SExit → SSt → Prop}
theorem qacy {c : SCode} {s' : SSt} (hw : Wk X s s') (h : SWp X c Q s') : SWp X c Q s := fun code hc ρ fp a w hs => let ⟨_, _, h1⟩ := hw ρ fp a w hs; h code hc _ _ a w h1
theorem Out.mono {Q' : SExit → SSt → Prop} (hq : ∀ e s, Q e s → Q' e s) : ∀ e a w, Out X Q e a w → Out X Q' e a w := by
 intro e a w h
 cases e <;> first | exact h | (obtain ⟨s, ρ, fp, h1, h2⟩ := h; exact ⟨s, ρ, fp, hq _ _ h1, h2⟩)
theorem qaae (h : Q .normal s) : SWp X .skip Q s := fun code hc ρ fp a w hs => by
 by_cases hreg : ∃ id o d, code = .region id o d
 ·obtain ⟨_, _, _, rfl⟩ := hreg
  obtain ⟨_, e, _⟩ := qacn hc
  simp [SCode.erase] at e
 cases code <;> (try simp only [comp, SCode.erase, Option.bind_eq_bind, Option.bind_eq_some_iff, Option.some.injEq, reduceCtorEq, and_false, exists_false, exists_const] at hc)
 case skip => exact wp_skip ⟨s, ρ, fp, h, hs⟩
 case label => exact wp_label ⟨s, ρ, fp, h, hs⟩
 case region => exact absurd ⟨_, _, _, rfl⟩ hreg
theorem qaao {id : Nat} (h : Q (.exit id) s) : SWp X (.exit id) Q s := fun code hc ρ fp a w hs => by
 by_cases hreg : ∃ id o d, code = .region id o d
 ·obtain ⟨_, _, _, rfl⟩ := hreg
  obtain ⟨_, e, _⟩ := qacn hc
  simp [SCode.erase] at e
 cases code <;> (try simp only [comp, SCode.erase, Option.bind_eq_bind, Option.bind_eq_some_iff, Option.some.injEq, reduceCtorEq, and_false, exists_false, exists_const, SCode.exit.injEq] at hc)
 case exit => subst hc; exact wp_exit ⟨s, ρ, fp, h, hs⟩
 case region => exact absurd ⟨_, _, _, rfl⟩ hreg
theorem qaam (h : Q .ret s) : SWp X .ret Q s := fun code hc ρ fp a w hs => by
 by_cases hreg : ∃ id o d, code = .region id o d
 ·obtain ⟨_, _, _, rfl⟩ := hreg
  obtain ⟨_, e, _⟩ := qacn hc
  simp [SCode.erase] at e
 cases code <;> (try simp only [comp, SCode.erase, Option.bind_eq_bind, Option.bind_eq_some_iff, Option.some.injEq, reduceCtorEq, and_false, exists_false, exists_const] at hc)
 case ret => exact wp_ret ⟨s, ρ, fp, h, hs⟩
 case region => exact absurd ⟨_, _, _, rfl⟩ hreg
def QSeq (X : Cx) (y : SCode) (Q : SExit → SSt → Prop) : SExit → SSt → Prop
 | .normal, s => SWp X y Q s
 | e, s => Q e s
theorem swp_seq {x y : SCode} (h : SWp X x (QSeq X y Q) s) : SWp X (.seq x y) Q s := fun code hc ρ fp a w hs => by
 by_cases hreg : ∃ id o d, code = .region id o d
 ·obtain ⟨_, _, _, rfl⟩ := hreg
  obtain ⟨_, e, _⟩ := qacn hc
  simp [SCode.erase] at e
 cases code <;> (try simp only [comp, SCode.erase, Option.bind_eq_bind, Option.bind_eq_some_iff, Option.some.injEq, reduceCtorEq, and_false, exists_false, exists_const, SCode.seq.injEq] at hc)
 case seq c d =>
  obtain ⟨c', h1, d', h2, rfl, rfl⟩ := hc
  refine wp_seq (wp_mono (h c h1 ρ fp a w hs) ?_)
  intro e a' w' ho
  cases e with
  | normal => obtain ⟨s', ρ', fp', q1, q2⟩ := ho; exact q1 d h2 ρ' fp' a' w' q2
  | exit id => exact ho
  | ret => exact ho
  | goto l => exact ho.elim
  | panic c => exact ho.elim
  | outgrown => exact ho.elim
 case region => exact absurd ⟨_, _, _, rfl⟩ hreg
theorem qaab {c : SX} {x y : SCode} {b : Bool} (hb : c.ev s.sl = .bool b) (h1 : b = true → SWp X x Q s) (h2 : b = false → SWp X y Q s) : SWp X (.cond c x y) Q s := fun code hc ρ fp a w hs => by
 by_cases hreg : ∃ id o d, code = .region id o d
 ·obtain ⟨_, _, _, rfl⟩ := hreg
  obtain ⟨_, e, _⟩ := qacn hc
  simp [SCode.erase] at e
 cases code <;> (try simp only [comp, SCode.erase, Option.bind_eq_bind, Option.bind_eq_some_iff, Option.some.injEq, reduceCtorEq, and_false, exists_false, exists_const, SCode.cond.injEq] at hc)
 case cond o d e =>
  obtain ⟨o', q1, d', q2, e', q3, rfl, rfl, rfl⟩ := hc
  have r := qab8 q1 hs.sim.slots
  rw [hb] at r
  have hv : a.eval o = .bool b := by generalize a.eval o = v at r; cases r; rfl
  exact wp_cond_split hv (fun hb => h1 hb d q2 ρ fp a w hs) (fun hb => h2 hb e q3 ρ fp a w hs)
 case region => exact absurd ⟨_, _, _, rfl⟩ hreg
def qana (id : Nat) (Q : SExit → SSt → Prop) : SExit → SSt → Prop
 | .exit i, s => if i = id then Q .normal s else Q (.exit i) s
 | e, s => Q e s
theorem qaat {id : Nat} {c : SCode} (h : SWp X c (qana id Q) s) : SWp X (.block id c) Q s := fun code hc ρ fp a w hs => by
 by_cases hreg : ∃ id o d, code = .region id o d
 ·obtain ⟨_, _, _, rfl⟩ := hreg
  obtain ⟨_, e, _⟩ := qacn hc
  simp [SCode.erase] at e
 cases code <;> (try simp only [comp, SCode.erase, Option.bind_eq_bind, Option.bind_eq_some_iff, Option.some.injEq, reduceCtorEq, and_false, exists_false, exists_const, SCode.block.injEq] at hc)
 case block i d =>
  obtain ⟨d', h1, rfl, rfl⟩ := hc
  refine wp_block (wp_mono (h d h1 ρ fp a w hs) ?_)
  intro e a' w' ho
  cases e with
  | normal => exact ho
  | exit i' =>
   obtain ⟨s', ρ', fp', q1, q2⟩ := ho
   simp only [qana] at q1
   simp only [Exit.inBlock]
   split
   ·rename_i e; rw [if_pos e] at q1; exact ⟨s', ρ', fp', q1, q2⟩
   ·rename_i e; rw [if_neg e] at q1; exact ⟨s', ρ', fp', q1, q2⟩
  | ret => exact ho
  | goto l => exact ho.elim
  | panic c => exact ho.elim
  | outgrown => exact ho.elim
 case region => exact absurd ⟨_, _, _, rfl⟩ hreg
def SSt.keep (s : SSt) (live : List Nat) : SSt := ⟨live.map fun t => (t, gets s.sl t), s.hp, s.nx⟩
theorem qaz0 (sl : Sl) (live : List Nat) (t : Nat) : gets (live.map fun t => (t, gets sl t)) t = if t ∈ live then gets sl t else .any := by
 induction live with
 | nil => rfl
 | cons u l ih =>
  simp only [List.map_cons, gets, ih, List.mem_cons]
  by_cases e : u = t
  ·simp [e]
  ·simp [e, Ne.symm e]
theorem qa1t (live : List Nat) : Wk X s (s.keep live) := fun ρ fp a w h => ⟨ρ, fp, ⟨h.sim.h, h.sim.tmps, h.sim.defers, fun t => by
 show RepV w _ ρ (gets (live.map fun t => (t, gets s.sl t)) t) _
 rw [qaz0]
 split
 ·exact h.sim.slots t
 ·exact .any⟩, h.fresh, h.le⟩
theorem qaad {ops : List SOper} {live : List Nat} (h : SOps X.P ops s [] fun s' _ => Q .normal (s'.keep live)) : SWp X (.reg false ops live) Q s := fun code hc ρ fp a w hs => by
 by_cases hreg : ∃ id o d, code = .region id o d
 ·obtain ⟨id, o, d, rfl⟩ := hreg
  obtain ⟨l, e, h1, _⟩ := qacn hc
  simp only [SCode.erase, SCode.reg.injEq, and_true] at e
  obtain ⟨rfl, rfl⟩ := e
  refine wp_region_list ?_
  refine sops_ok (Q := fun s' _ => Q .normal (s'.keep live)) ?_ _ _ _ h1 s [] ρ fp a w h hs
  intro s' tr ρ' fp' a' w' hq h'
  obtain ⟨ρ2, fp2, h2⟩ := qa1t live ρ' fp' a' w' h'
  exact ⟨_, ρ2, fp2, hq, h2⟩
 ·cases code <;> (try simp only [comp, SCode.erase, Option.bind_eq_bind, Option.bind_eq_some_iff, Option.some.injEq, reduceCtorEq, and_false, exists_false, exists_const] at hc)
  case region => exact absurd ⟨_, _, _, rfl⟩ hreg
theorem qat7 {p : Nat → Prop} (h : ∃ n, p n) : ∃ n, p n ∧ ∀ m, p m → n ≤ m := by
 obtain ⟨n, hn⟩ := h
 induction n using Nat.strongRecOn with
 | ind n ih =>
  by_cases h : ∃ m, m < n ∧ p m
  ·obtain ⟨m, h1, h2⟩ := h; exact ih m h1 h2
  ·exact ⟨n, hn, fun m hm => Nat.le_of_not_lt fun hl => h ⟨m, hl, hm⟩⟩
def QLoop (X : Cx) (I : SSt → Nat → Prop) (n : Nat) (Q : SExit → SSt → Prop) : SExit → SSt → Prop
 | .normal, s => ∃ s' m, Wk X s s' ∧ I s' m ∧ m < n
 | e, s => Q e s
theorem qa2r {c : SCode} (I : SSt → Nat → Prop) {n : Nat} {s0 : SSt} (hw : Wk X s s0) (h0 : I s0 n) (h : ∀ s n, I s n → SWp X c (QLoop X I n Q) s) : SWp X (.loop c) Q s := fun code hc ρ fp a w hs => by
 by_cases hreg : ∃ id o d, code = .region id o d
 ·obtain ⟨_, _, _, rfl⟩ := hreg
  obtain ⟨_, e, _⟩ := qacn hc
  simp [SCode.erase] at e
 cases code <;> (try simp only [comp, SCode.erase, Option.bind_eq_bind, Option.bind_eq_some_iff, Option.some.injEq, reduceCtorEq, and_false, exists_false, exists_const, SCode.loop.injEq] at hc)
 case loop d =>
  obtain ⟨d', h1, rfl⟩ := hc
  obtain ⟨ρ0, fp0, hs0⟩ := hw ρ fp a w hs
  let p : Act → World → Nat → Prop := fun a w n => ∃ s ρ fp, I s n ∧ SimF X ρ fp s a w
  have hmin : ∀ a w, ∃ n, (∃ m, p a w m) → (p a w n ∧ ∀ m, p a w m → n ≤ m) := fun a w => by
   by_cases h : ∃ m, p a w m
   ·obtain ⟨n, hn⟩ := qat7 h; exact ⟨n, fun _ => hn⟩
   ·exact ⟨0, fun h' => absurd h' h⟩
  have hch := fun a => Classical.axiomOfChoice (hmin a)
  obtain ⟨μ, hμ⟩ := Classical.axiomOfChoice hch
  refine wp_loop (fun a w => ∃ n, p a w n) μ ⟨n, s0, ρ0, fp0, h0, hs0⟩ ?_
  intro a w hI
  obtain ⟨⟨s1, ρ1, fp1, q1, q2⟩, q3⟩ := hμ a w hI
  refine wp_mono (h s1 _ q1 d h1 ρ1 fp1 a w q2) ?_
  intro e a' w' ho
  cases e with
  | normal =>
   obtain ⟨s', ρ', fp', ⟨s2, m, r1, r2, r3⟩, r4⟩ := ho
   obtain ⟨ρ2, fp2, r5⟩ := r1 ρ' fp' a' w' r4
   have hp : p a' w' m := ⟨s2, ρ2, fp2, r2, r5⟩
   exact ⟨⟨m, hp⟩, Nat.lt_of_le_of_lt ((hμ a' w' ⟨m, hp⟩).2 m hp) r3⟩
  | exit id => exact ho
  | ret => exact ho
  | goto l => exact ho.elim
  | panic c => exact ho.elim
  | outgrown => exact ho.elim
 case region => exact absurd ⟨_, _, _, rfl⟩ hreg
end Go.Proofs.Yticeaegpkpjjeaa
namespace Go.Proofs.Yticeaegpkpjjeaa
set_option linter.all false
open Go.RowKit
def ren0 (σ : Nat → Nat) : SV → SV
 | .ptr id o => .ptr (σ id) o
 | .eptr id z i j => .eptr (σ id) z i j
 | .own id n => .own (σ id) n
 | .owno id z i n => .owno (σ id) z i n
 | .agg _ | .tup _ => .bot
 | .fn f [] [] => .fn f [] []
 | .fn _ _ _ => .bot
 | x => x
def ren1 (σ : Nat → Nat) : SV → SV
 | .agg cs => .agg (cs.map (ren0 σ))
 | .fn f gs bs => .fn f (gs.map (ren0 σ)) (bs.map (ren0 σ))
 | x => ren0 σ x
def ren (σ : Nat → Nat) : SV → SV
 | .tup cs => .tup (cs.map (ren1 σ))
 | .agg cs => .agg (cs.map (ren1 σ))
 | x => ren1 σ x
variable {w : World} {A : Nat → Prop} {ρ : qach} {σ : Nat → Nat}
theorem RepV.view_any {ρ' : qach} {size : Nat} {es : List (List SV)} {v : Value} (h : RepV w A ρ (.view size es) v) : RepV w A ρ' (.view size es) v := by
 cases h with
 | view0 hc ha => exact .view0 hc ha
 | view cv hn hc hm hA hb hz h1 h2 ho => exact .view cv hn hc hm hA hb hz h1 h2 ho
theorem RepV.cp_any {ρ' : qach} {cs : List SV} {v : Value} (h : RepV w A ρ (.cp cs) v) : RepV w A ρ' (.cp cs) v := by
 cases h with
 | cp cv hA hb h1 h2 ho => exact .cp cv hA hb h1 h2 ho
theorem qafr {x : SV} {v : Value} (h : RepV w A ρ (ren0 σ x) v) : RepV w A (fun id => ρ (σ id)) x v := by
 cases x with
 | any => exact .any
 | bool b => change RepV w A ρ (.bool b) v at h; cases h; exact .bool
 | int k n => change RepV w A ρ (.int k n) v at h; cases h; exact .int
 | str t => change RepV w A ρ (.str t) v at h; cases h; exact .str
 | nil => change RepV w A ρ .nil v at h; cases h; exact .nil
 | nilsl => change RepV w A ρ .nilsl v at h; cases h; exact .nilsl
 | nilfn => change RepV w A ρ .nilfn v at h; cases h; exact .nilfn
 | mt => change RepV w A ρ .mt v at h; cases h with | mt hc => exact .mt hc
 | view z es => exact RepV.view_any h
 | cp cs => exact RepV.cp_any h
 | ptr id o => change RepV w A ρ (.ptr (σ id) o) v at h; cases h with | ptr h => exact .ptr h
 | eptr id z i j => change RepV w A ρ (.eptr (σ id) z i j) v at h; cases h with | eptr h => exact .eptr h
 | own id n =>
  change RepV w A ρ (.own (σ id) n) v at h
  cases h with
  | own0 h => exact .own0 h
  | own h h2 h3 => exact .own h h2 h3
 | owno id z i n => change RepV w A ρ (.owno (σ id) z i n) v at h; cases h with | owno h h2 h3 => exact .owno h h2 h3
 | agg cs => change RepV w A ρ .bot v at h; cases h
 | tup cs => change RepV w A ρ .bot v at h; cases h
 | bot => change RepV w A ρ .bot v at h; cases h
 | fn f a b =>
  cases a with
  | nil =>
   cases b with
   | nil =>
    change RepV w A ρ (.fn f [] []) v at h
    cases h with
    | fn l1 l2 r1 r2 => exact .fn l1 l2 (by simp) (by simp)
   | cons y b => change RepV w A ρ .bot v at h; cases h
  | cons y a => change RepV w A ρ .bot v at h; cases h
theorem qad6 {f : SV → SV} {g : qach} (hf : ∀ {x v}, RepV w A ρ (f x) v → RepV w A g x v) {cs : List SV} {vs : List Value} (h : ∀ (j : Nat) x v, (cs.map f)[j]? = some x → vs[j]? = some v → RepV w A ρ x v) : ∀ (j : Nat) x v, cs[j]? = some x → vs[j]? = some v → RepV w A g x v := fun j x v hx hv => by
 refine hf (h j (f x) v ?_ hv)
 rw [List.getElem?_map, hx]; rfl
theorem qahs {x : SV} {v : Value} (h : RepV w A ρ (ren1 σ x) v) : RepV w A (fun id => ρ (σ id)) x v := by
 cases x with
 | agg cs =>
  change RepV w A ρ (.agg (cs.map (ren0 σ))) v at h
  cases h with
  | agg ho hl hh => exact .agg ho (by simpa using hl) (qad6 qafr hh)
 | fn f a b =>
  change RepV w A ρ (.fn f (a.map (ren0 σ)) (b.map (ren0 σ))) v at h
  cases h with
  | fn l1 l2 r1 r2 => exact .fn (by simpa using l1) (by simpa using l2) (qad6 qafr r1) (qad6 qafr r2)
 | _ => exact qafr h
theorem qatd {x : SV} {v : Value} (h : RepV w A ρ (ren σ x) v) : RepV w A (fun id => ρ (σ id)) x v := by
 cases x with
 | agg cs =>
  change RepV w A ρ (.agg (cs.map (ren1 σ))) v at h
  cases h with
  | agg ho hl hh => exact .agg ho (by simpa using hl) (qad6 qahs hh)
 | tup cs =>
  change RepV w A ρ (.tup (cs.map (ren1 σ))) v at h
  cases h with
  | tup hl hh => exact .tup (by simpa using hl) (qad6 qahs hh)
 | _ => exact qahs h
theorem qadz {xs : List SV} {vs : List Value} (h : Reps w A ρ (xs.map (ren σ)) vs) : Reps w A (fun id => ρ (σ id)) xs vs := ⟨by simpa using h.1, qad6 qatd h.2⟩
def Co (x y : SV) : Prop := ∀ w A ρ v, RepV w A ρ x v → RepV w A ρ y v
theorem Co.refl (x : SV) : Co x x := fun _ _ _ _ h => h
theorem Co.any (x : SV) : Co x .any := fun _ _ _ _ _ => .any
theorem Co.nilsl (z : Nat) : Co .nilsl (.view z []) := fun _ _ _ _ h => by cases h; exact .view0 (by simp [maxLen]) (fun _ => rfl)
def CoL : List SV → List SV → Prop
 | [], [] => True
 | x :: xs, y :: ys => Co x y ∧ CoL xs ys
 | _, _ => False
theorem CoL.refl : ∀ xs, CoL xs xs
 | [] => trivial
 | x :: xs => ⟨.refl x, CoL.refl xs⟩
theorem CoL.length : ∀ {xs ys}, CoL xs ys → xs.length = ys.length
 | [], [], _ => rfl
 | x :: xs, y :: ys, h => by rw [List.length_cons, List.length_cons, CoL.length h.2]
 | [], _ :: _, h => h.elim
 | _ :: _, [], h => h.elim
theorem CoL.reps : ∀ {xs ys : List SV} {vs : List Value}, CoL xs ys → Reps w A ρ xs vs → Reps w A ρ ys vs
 | [], [], _, _, h => h
 | x :: xs, y :: ys, vs, h, hr => by
  obtain ⟨v, us, rfl, h1, h2⟩ := hr.cons_inv
  exact Reps.cons (h.1 _ _ _ _ h1) (CoL.reps h.2 h2)
 | [], _ :: _, _, h, _ => h.elim
 | _ :: _, [], _, h, _ => h.elim
theorem CoL.append : ∀ {xs ys us vs : List SV}, CoL xs ys → CoL us vs → CoL (xs ++ us) (ys ++ vs)
 | [], [], _, _, _, h => h
 | x :: xs, y :: ys, _, _, h, g => ⟨h.1, CoL.append h.2 g⟩
 | [], _ :: _, _, _, h, _ => h.elim
 | _ :: _, [], _, _, h, _ => h.elim
theorem Co.agg {xs ys : List SV} (h : CoL xs ys) : Co (.agg xs) (.agg ys) := fun w A ρ v hv => by
 cases hv with
 | agg ho hl hh => have := h.reps ⟨hl, hh⟩; exact .agg ho this.1 this.2
theorem Co.tup {xs ys : List SV} (h : CoL xs ys) : Co (.tup xs) (.tup ys) := fun w A ρ v hv => by
 cases hv with
 | tup hl hh => have := h.reps ⟨hl, hh⟩; exact .tup this.1 this.2
def CoLL : List (List SV) → List (List SV) → Prop
 | [], [] => True
 | x :: xs, y :: ys => CoL x y ∧ CoLL xs ys
 | _, _ => False
theorem CoLL.refl : ∀ xs, CoLL xs xs
 | [] => trivial
 | x :: xs => ⟨.refl x, CoLL.refl xs⟩
theorem CoLL.append : ∀ {xs ys us vs : List (List SV)}, CoLL xs ys → CoLL us vs → CoLL (xs ++ us) (ys ++ vs)
 | [], [], _, _, _, h => h
 | x :: xs, y :: ys, _, _, h, g => ⟨h.1, CoLL.append h.2 g⟩
 | [], _ :: _, _, _, h, _ => h.elim
 | _ :: _, [], _, _, h, _ => h.elim
theorem CoLL.length : ∀ {xs ys}, CoLL xs ys → xs.length = ys.length
 | [], [], _ => rfl
 | x :: xs, y :: ys, h => by rw [List.length_cons, List.length_cons, CoLL.length h.2]
 | [], _ :: _, h => h.elim
 | _ :: _, [], h => h.elim
theorem CoLL.flat : ∀ {xs ys}, CoLL xs ys → CoL xs.flatten ys.flatten
 | [], [], _ => trivial
 | x :: xs, y :: ys, h => by rw [List.flatten_cons, List.flatten_cons]; exact h.1.append (CoLL.flat h.2)
 | [], _ :: _, h => h.elim
 | _ :: _, [], h => h.elim
theorem CoLL.sizes {z : Nat} : ∀ {xs ys}, CoLL xs ys → (∀ x ∈ xs, x.length = z) → ∀ y ∈ ys, y.length = z
 | [], [], _, _, y, hy => by cases hy
 | x :: xs, y :: ys, h, hz, u, hu => by
  rcases List.mem_cons.1 hu with e | e
  ·rw [e, ← h.1.length]; exact hz x (by simp)
  ·exact CoLL.sizes h.2 (fun x hx => hz x (by simp [hx])) u e
 | [], _ :: _, h, _, _, _ => h.elim
 | _ :: _, [], h, _, _, _ => h.elim
def ObjM (σ : Nat → Nat) : SObj → SObj → Prop
 | .cells t cs, .cells t' ds => t = t' ∧ CoL cs (ds.map (ren σ))
 | .row e z es, .row e' z' fs => e = e' ∧ z = z' ∧ CoLL es (fs.map (·.map (ren σ)))
 | .abs I, .abs I' => I = I'
 | _, _ => False
theorem ObjM.back {o o' : SObj} (h : ObjM σ o o') {id : Nat} {F : Nat → Prop} (hr : ObjRep w A ρ (σ id) F o) : ObjRep w A (fun id => ρ (σ id)) id F o' := by
 cases o with
 | cells t cs =>
  cases o' with
  | cells t' ds =>
   obtain ⟨rfl, hco⟩ := h
   obtain ⟨b, c, vs, h1, h2, ⟨h3, h4⟩, h5⟩ := hr
   exact ⟨b, c, vs, h1, h2, ⟨qadz (hco.reps h3), h4⟩, h5⟩
  | row => exact h.elim
  | abs => exact h.elim
 | row e z es =>
  cases o' with
  | row e' z' fs =>
   obtain ⟨rfl, rfl, hco⟩ := h
   obtain ⟨v, vs, h1, ⟨h2, h3⟩, h4, h5, h6⟩ := hr
   have hl : es.length = fs.length := by have := hco.length; simpa using this
   refine ⟨v, vs, by rw [← hl]; exact h1, ⟨?_, h3⟩, fun x hx => ?_, h5, h6⟩
   ·have h7 := hco.flat.reps h2
    rw [← List.map_flatten] at h7
    exact qadz h7
   ·have := hco.sizes h4 (x.map (ren σ)) (List.mem_map.2 ⟨x, hx, rfl⟩)
    simpa using this
  | cells => exact h.elim
  | abs => exact h.elim
 | abs I =>
  cases o' with
  | abs I' => obtain rfl := h; exact hr
  | cells => exact h.elim
  | row => exact h.elim
def SlotsM (σ : Nat → Nat) (sl : Sl) : Sl → Prop
 | [] => True
 | (t, v) :: r => Co (gets sl t) (ren σ v) ∧ SlotsM σ sl r
def ObjsM (σ : Nat → Nat) (hp : Hp) : Hp → Prop
 | [] => True
 | (i, o') :: r => (∃ o, geth hp (σ i) = some o ∧ ObjM σ o o') ∧ ObjsM σ hp r
theorem SlotsM.get {sl : Sl} : ∀ {l : Sl}, SlotsM σ sl l → ∀ t, gets l t = .any ∨ Co (gets sl t) (ren σ (gets l t))
 | [], _, t => .inl rfl
 | (u, v) :: r, h, t => by
  simp only [gets]
  split
  ·rename_i e; subst e; exact .inr h.1
  ·exact SlotsM.get h.2 t
theorem ObjsM.get {hp : Hp} : ∀ {l : Hp}, ObjsM σ hp l → ∀ id o', geth l id = some o' → ∃ o, geth hp (σ id) = some o ∧ ObjM σ o o'
 | [], _, id, o', h => by cases h
 | (i, x) :: r, h, id, o', hg => by
  simp only [geth] at hg
  split at hg
  ·rename_i e; subst e; cases hg; exact h.1
  ·exact ObjsM.get h.2 id o' hg
def rn : List (Nat × Nat) → Nat → Nat → Nat
 | [], U, id => U + id
 | (i, j) :: D, U, id => if i = id then j else rn D U id
variable {X : Cx} {s s' : SSt}
theorem wk_ren (σ : Nat → Nat) (hm : ∀ id, id < X.m → σ id = id) (hsl : SlotsM σ s.sl s'.sl) (hhp : ObjsM σ s.hp s'.hp) (hinj : ∀ id id', geth s'.hp id ≠ none → geth s'.hp id' ≠ none → σ id = σ id' → id = id') (hfr : ∀ id, s'.nx ≤ id → s.nx ≤ σ id) (hle : X.m ≤ s'.nx) : Wk X s s' := by
 intro ρ fp a w h
 have hav : ∀ k, Av X s'.hp (fun id => fp (σ id)) k → Av X s.hp fp k := by
  rintro k (hO | ⟨id, o', ho, hk⟩)
  ·exact .inl hO
  ·obtain ⟨o, h1, _⟩ := hhp.get id o' ho
   exact .inr ⟨σ id, o, h1, hk⟩
 refine ⟨fun id => ρ (σ id), fun id => fp (σ id), ⟨⟨fun id o' ho => ?_, fun id id' o o' hne ho ho' k hk => ?_, fun id o ho k hk => ?_, h.sim.h.step, fun id hid => ?_⟩, h.sim.tmps, h.sim.defers, fun t => ?_⟩, fun id hid => h.fresh _ (hfr id hid), hle⟩
 ·obtain ⟨o, h1, h2⟩ := hhp.get id o' ho
  exact (h2.back (h.sim.h.objs _ _ h1)).weaken fun k hk _ => hav k hk
 ·obtain ⟨x, h1, _⟩ := hhp.get id o ho
  obtain ⟨y, h2, _⟩ := hhp.get id' o' ho'
  exact h.sim.h.disj _ _ x y (fun e => hne (hinj id id' (by rw [ho]; simp) (by rw [ho']; simp) e)) h1 h2 k hk
 ·obtain ⟨x, h1, _⟩ := hhp.get id o ho
  exact h.sim.h.turn _ x h1 k hk
 ·show ρ (σ id) = _
  rw [hm id hid]; exact h.sim.h.keep id hid
 ·rcases hsl.get t with h1 | h1
  ·rw [h1]; exact .any
  ·exact (qatd (h1 _ _ _ _ (h.sim.slots t))).weaken fun k hk _ => hav k hk
theorem qata {U n : Nat} : ∀ (D : List (Nat × Nat)), (D.all fun p => decide (p.1 < n)) = true → ∀ id, n ≤ id → rn D U id = U + id
 | [], _, id, _ => rfl
 | (i, j) :: D, h, id, hid => by
  simp only [List.all_cons, Bool.and_eq_true, decide_eq_true_eq] at h
  rw [rn, if_neg (by omega)]
  exact qata D h.2 id hid
def qabt (m n : Nat) (D : List (Nat × Nat)) (hp' : Hp) : Bool :=
 (D.all fun p => decide (p.1 < n)) && ((List.range m).all fun i => rn D 0 i == i && D.any fun p => p.1 == i) && ((idsH hp').all fun i => D.any fun p => p.1 == i) && decide (((D.filter fun p => (idsH hp').contains p.1).map (·.2)).Nodup)
end Go.Proofs.Yticeaegpkpjjeaa
namespace Go.Proofs.Yticeaegpkpjjeaa
set_option linter.all false
open Go.RowKit
variable {w : World} {A : Nat → Prop} {ρ : qach} {σ : Nat → Nat} {X : Cx} {s s' : SSt}
theorem qazb {U : Nat} : ∀ (D : List (Nat × Nat)) (id : Nat), (D.any fun p => p.1 == id) = true → rn D U id = rn D 0 id ∧ (id, rn D 0 id) ∈ D
 | [], id, h => by simp at h
 | (i, j) :: D, id, h => by
  by_cases e : i = id
  ·subst e; simp [rn]
  ·simp only [List.any_cons, Bool.or_eq_true, beq_iff_eq, e, false_or] at h
   obtain ⟨h1, h2⟩ := qazb (U := U) D id h
   simp only [rn, if_neg e]
   exact ⟨h1, List.mem_cons_of_mem _ h2⟩
theorem qazk {D : List (Nat × Nat)} (h : (D.map (·.2)).Nodup) {a b c : Nat} (h1 : (a, c) ∈ D) (h2 : (b, c) ∈ D) : a = b := by
 induction D with
 | nil => cases h1
 | cons p D ih =>
  rw [List.map_cons, List.nodup_cons] at h
  rcases List.mem_cons.1 h1 with e1 | e1
  ·rcases List.mem_cons.1 h2 with e2 | e2
   ·exact (Prod.mk.inj (e1.trans e2.symm)).1
   ·exact absurd (List.mem_map.2 ⟨_, e2, by rw [← e1]⟩) h.1
  ·rcases List.mem_cons.1 h2 with e2 | e2
   ·exact absurd (List.mem_map.2 ⟨_, e1, by rw [← e2]⟩) h.1
   ·exact ih h.2 e1 e2
theorem qade : ∀ {hp : Hp} {id : Nat}, geth hp id ≠ none → id ∈ idsH hp
 | [], id, h => absurd rfl h
 | (i, o) :: r, id, h => by
  by_cases e : i = id
  ·subst e; simp [idsH]
  ·simp only [geth, if_neg e] at h
   exact List.mem_cons_of_mem _ (qade h)
theorem qa1s (D : List (Nat × Nat)) {m : Nat} (hm : X.m = m) (hok : qabt m s'.nx D s'.hp = true) (hle : m ≤ s'.nx) (hsl : SlotsM (rn D s.nx) s.sl s'.sl) (hhp : ObjsM (rn D s.nx) s.hp s'.hp) : Wk X s s' := by
 simp only [qabt, Bool.and_eq_true, decide_eq_true_eq] at hok
 obtain ⟨⟨⟨h1, h2⟩, h3⟩, h4⟩ := hok
 refine wk_ren (rn D s.nx) (fun id hid => ?_) hsl hhp (fun id id' ho ho' e => ?_) (fun id hid => ?_) (by omega)
 ·rw [hm] at hid
  have := List.all_eq_true.1 h2 id (List.mem_range.2 hid)
  simp only [Bool.and_eq_true, beq_iff_eq] at this
  rw [(qazb D id this.2).1]; exact this.1
 ·have a1 := List.all_eq_true.1 h3 id (qade ho)
  have a2 := List.all_eq_true.1 h3 id' (qade ho')
  obtain ⟨b1, b2⟩ := qazb (U := s.nx) D id a1
  obtain ⟨c1, c2⟩ := qazb (U := s.nx) D id' a2
  rw [b1, c1] at e
  rw [e] at b2
  have m1 : (id, rn D 0 id') ∈ D.filter fun p => (idsH s'.hp).contains p.1 := List.mem_filter.2 ⟨b2, by simpa using qade ho⟩
  have m2 : (id', rn D 0 id') ∈ D.filter fun p => (idsH s'.hp).contains p.1 := List.mem_filter.2 ⟨c2, by simpa using qade ho'⟩
  exact qazk h4 m1 m2
 ·rw [qata D h1 id hid]; omega
theorem qa2l (t e size : Nat) (h : gets s.sl t = .nilsl) : Wk X s ⟨puts s.sl t (.own s.nx 0), puth s.hp s.nx (.row e size []), s.nx + 1⟩ := by
 intro ρ fp a w hs
 obtain ⟨ρ', fp', h1, h2, h3, h4⟩ := hs.sim.h.add (w' := w) hs.le (hs.fresh _ (Nat.le_refl _)) (.row e size []) none (fun _ => False) (Below.refl _ _) (fun _ h => h.elim) fun A' ρ' hp' hpl => ⟨.slice none 0 0, [], World.ownsRow_nil _ _ _ _, ⟨Reps.nil, fun v hv => by cases hv⟩, (fun x hx => by cases hx), hpl, fun k => by simp [Value.ownBlock]⟩
 refine ⟨ρ', fp', ⟨h1, hs.sim.tmps, hs.sim.defers, fun u => ?_⟩, fun id hid => ?_, by have := hs.le; simp only; omega⟩
 ·show RepV w _ ρ' (gets (puts s.sl t (.own s.nx 0)) u) _
  rw [qafw]
  have := hs.sim.slots u
  split
  ·rename_i e; subst e
   rw [h] at this
   generalize a.tmps.getD u undef = v at this
   cases this
   exact .own0 h3
  ·exact h2.rep this
 ·cases e : ρ' id with
  | none => rfl
  | some p =>
   simp only at hid
   rcases h4 id (by rw [e]; simp) with h5 | h5
   ·exact absurd (hs.fresh id (by omega)) h5
   ·omega
def qaj8 (x : SV) : Prop := ∀ w A ρ v, RepV w A ρ x v → RepV w A noPl x v
theorem qatg (k : IntKind) (n : Int) : qaj8 (.int k n) := fun w A ρ v h => by cases h; exact .int
theorem qanl (b : Bool) : qaj8 (.bool b) := fun w A ρ v h => by cases h; exact .bool
theorem qate (t : ByteArray) : qaj8 (.str t) := fun w A ρ v h => by cases h; exact .str
theorem qatf : qaj8 .nil := fun w A ρ v h => by cases h; exact .nil
theorem qaik : qaj8 .nilsl := fun w A ρ v h => by cases h; exact .nilsl
theorem qank (z : Nat) (es : List (List SV)) : qaj8 (.view z es) := fun w A ρ v h => h.view_any
theorem qa13 (cs : List SV) : qaj8 (.cp cs) := fun w A ρ v h => h.cp_any
def qan5 (cs : List SV) : Prop := ∀ x ∈ cs, qaj8 x
theorem qaze : qan5 [] := fun x hx => by cases hx
theorem qath {x : SV} {cs : List SV} (h : qaj8 x) (hs : qan5 cs) : qan5 (x :: cs) := fun y hy => by
 rcases List.mem_cons.1 hy with e | e
 ·rw [e]; exact h
 ·exact hs y e
def qa46 : SObj → Prop
 | .cells _ cs => qan5 cs
 | .row _ _ es => ∀ e ∈ es, qan5 e
 | .abs _ => False
def frz0 (g : Nat → Option SObj) (D : List Nat) : SV → SV
 | .own id n => if D.contains id then (match g id with
  | some (.row _ z es) => if n ≤ es.length then .view z (es.take n) else .own id n
  | _ => .own id n) else .own id n
 | .owno id z i n => if D.contains id then (match g id with
  | some (.row _ z' es) => if z = z' ∧ i + n ≤ es.length then .view z ((es.drop i).take n) else .owno id z i n
  | _ => .owno id z i n) else .owno id z i n
 | .ptr id off => if D.contains id then (match g id with
  | some (.cells _ cs) => .cp (cs.drop off)
  | _ => .ptr id off) else .ptr id off
 | x => x
def frz1 (g : Nat → Option SObj) (D : List Nat) : SV → SV
 | .agg cs => .agg (cs.map (frz0 g D))
 | .tup cs => .tup (cs.map (frz0 g D))
 | x => frz0 g D x
def frz (g : Nat → Option SObj) (D : List Nat) : SV → SV
 | .tup cs => .tup (cs.map (frz1 g D))
 | x => frz1 g D x
def frzH (g : Nat → Option SObj) (D : List Nat) : Hp → Hp
 | [] => []
 | (i, o) :: r => if D.contains i then frzH g D r else (i, match o with
  | .cells t cs => .cells t (cs.map (frz0 g D))
  | .row e z es => .row e z (es.map (·.map (frz0 g D)))
  | .abs I => .abs I) :: frzH g D r
def frzS (g : Nat → Option SObj) (D : List Nat) : Sl → Sl
 | [] => []
 | (t, v) :: r => (t, frz g D v) :: frzS g D r
def SSt.frz (s : SSt) (D : List Nat) : SSt := ⟨frzS (geth s.hp) D s.sl, frzH (geth s.hp) D s.hp, s.nx⟩
theorem qat2 (g : Nat → Option SObj) (D : List Nat) : ∀ (l : Sl) (t : Nat), gets (frzS g D l) t = Go.Proofs.Yticeaegpkpjjeaa.frz g D (gets l t)
 | [], t => rfl
 | (u, v) :: r, t => by
  simp only [frzS, gets]
  split
  ·rfl
  ·exact qat2 g D r t
theorem qakj (g : Nat → Option SObj) (D : List Nat) : ∀ (h : Hp) (i : Nat), geth (frzH g D h) i = if D.contains i then none else (geth h i).map fun o => match o with
  | .cells t cs => .cells t (cs.map (frz0 g D))
  | .row e z es => .row e z (es.map (·.map (frz0 g D)))
  | .abs I => .abs I
 | [], i => by simp [frzH, geth]
 | (j, o) :: r, i => by
  simp only [frzH]
  split
  ·rename_i hj
   rw [qakj g D r]
   split
   ·rfl
   ·rename_i hi
    have : j ≠ i := fun e => hi (e ▸ hj)
    simp [geth, this]
  ·rename_i hj
   by_cases e : j = i
   ·subst e; simp only [geth, if_pos, hj]; rfl
   ·simp only [geth, if_neg e]; exact qakj g D r i
theorem qaio {ρ' : qach} {A' : Nat → Prop} {f : SV → SV} (hf : ∀ {x v}, RepV w A ρ x v → RepV w A' ρ' (f x) v) {cs : List SV} {vs : List Value} (h : ∀ (j : Nat) x v, cs[j]? = some x → vs[j]? = some v → RepV w A ρ x v) : ∀ (j : Nat) x v, (cs.map f)[j]? = some x → vs[j]? = some v → RepV w A' ρ' x v := fun j x v hx hv => by
 rw [List.getElem?_map, Option.map_eq_some_iff] at hx
 obtain ⟨y, hy, rfl⟩ := hx
 exact hf (h j y v hy hv)
theorem wk_frz (D : List Nat) (hp : ∀ id o, D.contains id = true → geth s.hp id = some o → qa46 o) : Wk X s (s.frz D) := by
 intro ρ fp a w h
 have hg' : ∀ id o', geth (frzH (geth s.hp) D s.hp) id = some o' → D.contains id = false ∧ ∃ o, geth s.hp id = some o ∧ o' = (match o with
  | .cells t cs => .cells t (cs.map (frz0 (geth s.hp) D))
  | .row e z es => .row e z (es.map (·.map (frz0 (geth s.hp) D)))
  | .abs I => .abs I) := fun id o' ho => by
  rw [qakj] at ho
  split at ho
  ·cases ho
  ·rename_i hc
   rw [Option.map_eq_some_iff] at ho
   obtain ⟨o, h1, h2⟩ := ho
   exact ⟨by simpa using hc, o, h1, h2.symm⟩
 have hav : ∀ k, Av X (frzH (geth s.hp) D s.hp) fp k → Av X s.hp fp k := by
  rintro k (hO | ⟨id, o', ho, hk⟩)
  ·exact .inl hO
  ·obtain ⟨_, o, h1, _⟩ := hg' id o' ho
   exact .inr ⟨id, o, h1, hk⟩
 have hfree : ∀ id o k, D.contains id = true → geth s.hp id = some o → fp id k → ¬ Av X (frzH (geth s.hp) D s.hp) fp k := by
  rintro id o k hc ho hk (hO | ⟨id', o', ho', hk'⟩)
  ·rcases (h.sim.h.turn id o ho k hk).1 with h1 | h1
   ·exact X.O_M k hO h1
   ·exact absurd (X.O_lt k hO) (Nat.not_lt_of_le h1)
  ·obtain ⟨h1, o2, h2, _⟩ := hg' id' o' ho'
   have hne : id ≠ id' := fun e => by rw [e, h1] at hc; cases hc
   exact h.sim.h.disj id id' o o2 hne ho h2 k hk hk'
 have f0 : ∀ {x v}, RepV w (Av X s.hp fp) ρ x v → RepV w (Av X (frzH (geth s.hp) D s.hp) fp) ρ (frz0 (geth s.hp) D x) v := by
  intro x v hx
  have hx' := hx.weaken (A' := Av X (frzH (geth s.hp) D s.hp) fp) fun k hk _ => hav k hk
  unfold frz0
  split
  ·rename_i id n
   split
   ·rename_i hc
    split
    ·rename_i e z es ho
     split
     ·rename_i hn
      obtain ⟨v0, us, how, ⟨hrep, huo⟩, hzs, hρ', hfp⟩ := h.sim.h.objs id _ ho
      cases hx with
      | own0 hρ => rw [List.take_zero]; exact .view0 (by simp [maxLen]) (fun _ => rfl)
      | own hρ hnc hm =>
       rename_i b c
       rw [hρ] at hρ'
       have hp0 : qads v0 = some (b, c) := (Option.some.inj hρ').symm
       obtain ⟨hv0, hcell, hlt, _, _⟩ := qaev how hp0
       have hown : fp id b := (hfp b).2 (by rw [hv0]; rfl)
       have hget : ∀ i e j x, (es.take n)[i]? = some e → e[j]? = some x → es.flatten[i * z + j]? = some x := fun i e j x he hx => by
        rw [List.getElem?_take] at he
        split at he
        ·exact qaf9 hzs he hx
        ·cases he
       have hval : ∀ i e j x, (es.take n)[i]? = some e → e[j]? = some x → ∃ u, us[i * z + j]? = some u ∧ RepV w (Av X s.hp fp) ρ x u := fun i e j x he hx => hrep.get (hget i e j x he hx)
       refine .view (fun i j => us.getD (i * z + j) undef) (by simp; omega) hnc hm (hfree id _ b hc ho hown) hlt (fun e he => hzs e (List.mem_of_mem_take he)) (fun i e j x he hx => ?_) (fun i e j x he hx => ?_) (fun i e j x he hx => ?_)
       ·obtain ⟨u, h1, h2⟩ := hval i e j x he hx
        rw [Nat.zero_add, List.getD_eq_getElem?_getD, h1]
        exact hcell _ _ h1
       ·obtain ⟨u, h1, h2⟩ := hval i e j x he hx
        rw [List.getD_eq_getElem?_getD, h1]
        have hpe := hp id _ hc ho e (by rw [List.getElem?_take] at he; split at he; exact List.mem_of_getElem? he; cases he) x (List.mem_of_getElem? hx)
        exact (hpe _ _ _ _ h2).weaken fun k hk _ => hav k hk
       ·obtain ⟨u, h1, h2⟩ := hval i e j x he hx
        rw [List.getD_eq_getElem?_getD, h1]
        exact huo u (List.mem_of_getElem? h1)
     ·exact hx'
    ·exact hx'
   ·exact hx'
  ·rename_i id z1 i1 n
   split
   ·rename_i hc
    split
    ·rename_i e z es ho
     split
     ·rename_i hn
      obtain ⟨rfl, hn⟩ := hn
      obtain ⟨v0, us, how, ⟨hrep, huo⟩, hzs, hρ', hfp⟩ := h.sim.h.objs id _ ho
      cases hx with
      | owno hρ hnc hm =>
       rename_i b c
       rw [hρ] at hρ'
       have hp0 : qads v0 = some (b, c) := (Option.some.inj hρ').symm
       obtain ⟨hv0, hcell, hlt, _, _⟩ := qaev how hp0
       have hown : fp id b := (hfp b).2 (by rw [hv0]; rfl)
       have hin : ∀ i e, ((es.drop i1).take n)[i]? = some e → es[i1 + i]? = some e := fun i e he => by
        rw [List.getElem?_take] at he
        split at he
        ·rw [List.getElem?_drop] at he; exact he
        ·cases he
       have hval : ∀ i e j x, ((es.drop i1).take n)[i]? = some e → e[j]? = some x → ∃ u, us[(i1 + i) * z1 + j]? = some u ∧ RepV w (Av X s.hp fp) ρ x u := fun i e j x he hx => hrep.get (qaf9 hzs (hin i e he) hx)
       refine .view (fun i j => us.getD ((i1 + i) * z1 + j) undef) (by simp; omega) (by omega) (by omega) (hfree id _ b hc ho hown) hlt (fun e he => hzs e (List.mem_of_mem_drop (List.mem_of_mem_take he))) (fun i e j x he hx => ?_) (fun i e j x he hx => ?_) (fun i e j x he hx => ?_)
       ·obtain ⟨u, h1, h2⟩ := hval i e j x he hx
        rw [show i1 * z1 + i * z1 + j = (i1 + i) * z1 + j by rw [Nat.add_mul], List.getD_eq_getElem?_getD, h1]
        exact hcell _ _ h1
       ·obtain ⟨u, h1, h2⟩ := hval i e j x he hx
        rw [List.getD_eq_getElem?_getD, h1]
        exact (hp id _ hc ho e (List.mem_of_getElem? (hin i e he)) x (List.mem_of_getElem? hx) _ _ _ _ h2).weaken fun k hk _ => hav k hk
       ·obtain ⟨u, h1, h2⟩ := hval i e j x he hx
        rw [List.getD_eq_getElem?_getD, h1]
        exact huo u (List.mem_of_getElem? h1)
     ·exact hx'
    ·exact hx'
   ·exact hx'
  ·rename_i id off
   split
   ·rename_i hc
    split
    ·rename_i t cs ho
     obtain ⟨b, c, us, hρ', hbl, ⟨hrep, huo⟩, hfp⟩ := h.sim.h.objs id _ ho
     cases hx with
     | ptr hρ =>
      rw [hρ] at hρ'; cases hρ'
      have hval : ∀ (j : Nat) x, (cs.drop off)[j]? = some x → ∃ u, us[off + j]? = some u ∧ RepV w (Av X s.hp fp) ρ x u := fun j x hx => by
       rw [List.getElem?_drop] at hx
       exact hrep.get hx
      refine .cp (fun j => us.getD (off + j) undef) (hfree id _ b hc ho ((hfp b).2 rfl)) hbl.lt (fun j x hx => ?_) (fun j x hx => ?_) (fun j x hx => ?_)
      ·obtain ⟨u, h1, h2⟩ := hval j x hx
       rw [hbl.cell, List.getD_eq_getElem?_getD, h1]
       simpa using h1
      ·obtain ⟨u, h1, h2⟩ := hval j x hx
       rw [List.getD_eq_getElem?_getD, h1]
       exact (hp id _ hc ho x (List.mem_of_mem_drop (List.mem_of_getElem? hx)) _ _ _ _ h2).weaken fun k hk _ => hav k hk
      ·obtain ⟨u, h1, h2⟩ := hval j x hx
       rw [List.getD_eq_getElem?_getD, h1]
       exact huo u (List.mem_of_getElem? h1)
    ·exact hx'
   ·exact hx'
  ·exact hx'
 have f1 : ∀ {x v}, RepV w (Av X s.hp fp) ρ x v → RepV w (Av X (frzH (geth s.hp) D s.hp) fp) ρ (frz1 (geth s.hp) D x) v := by
  intro x v hx
  unfold frz1
  split
  ·cases hx with
   | agg ho hl hh => exact .agg ho (by simpa using hl) (qaio f0 hh)
  ·cases hx with
   | tup hl hh => exact .tup (by simpa using hl) (qaio f0 hh)
  ·exact f0 hx
 have f2 : ∀ {x v}, RepV w (Av X s.hp fp) ρ x v → RepV w (Av X (frzH (geth s.hp) D s.hp) fp) ρ (Go.Proofs.Yticeaegpkpjjeaa.frz (geth s.hp) D x) v := by
  intro x v hx
  unfold Go.Proofs.Yticeaegpkpjjeaa.frz
  split
  ·cases hx with
   | tup hl hh => exact .tup (by simpa using hl) (qaio f1 hh)
  ·exact f1 hx
 refine ⟨ρ, fp, ⟨⟨fun id o' ho => ?_, fun id id' o o' hne ho ho' => ?_, fun id o ho => ?_, h.sim.h.step, h.sim.h.keep⟩, h.sim.tmps, h.sim.defers, fun t => ?_⟩, h.fresh, h.le⟩
 ·obtain ⟨_, o, h1, rfl⟩ := hg' id o' ho
  have hr := h.sim.h.objs id o h1
  cases o with
  | cells t cs =>
   obtain ⟨b, c, vs, q1, q2, ⟨q3, q4⟩, q5⟩ := hr
   exact ⟨b, c, vs, q1, q2, ⟨⟨by simpa using q3.1, qaio f0 q3.2⟩, q4⟩, q5⟩
  | row e z es =>
   obtain ⟨v, vs, q1, ⟨q2, q3⟩, q4, q5, q6⟩ := hr
   refine ⟨v, vs, by simpa using q1, ⟨⟨?_, ?_⟩, q3⟩, fun x hx => ?_, q5, q6⟩
   ·rw [← List.map_flatten, List.length_map]; exact q2.1
   ·rw [← List.map_flatten]; exact qaio f0 q2.2
   ·obtain ⟨y, hy, rfl⟩ := List.mem_map.1 hx
    simpa using q4 y hy
  | abs I =>
   obtain ⟨b, c, q1, q2⟩ := hr
   exact ⟨b, c, q1, I.keep q2 (.refl _ _) (fun k hk _ => hav k hk) fun _ _ => rfl⟩
 ·obtain ⟨_, x, h1, _⟩ := hg' id o ho
  obtain ⟨_, y, h2, _⟩ := hg' id' o' ho'
  exact h.sim.h.disj id id' x y hne h1 h2
 ·obtain ⟨_, x, h1, _⟩ := hg' id o ho
  exact h.sim.h.turn id x h1
 ·show RepV w _ ρ (gets (frzS (geth s.hp) D s.sl) t) _
  rw [qat2]
  exact f2 (h.sim.slots t)
end Go.Proofs.Yticeaegpkpjjeaa
namespace Go.Proofs.Yticeaegpkpjjeaa
set_option linter.all false
open Go.RowKit
variable {w : World} {A : Nat → Prop} {ρ : qach} {σ : Nat → Nat} {X : Cx} {s s' : SSt}
def resV (P : Program) (s : SSt) : ResultVar → Option SV
 | .tmp t => some (gets s.sl t)
 | .cell a t => match qagq P t, qaby P t with
  | some false, some _ => ((SOp.load (.t a)).run (·.ev s.sl) (geth s.hp) s.nx).map (·.1)
  | some true, some n => ((SOp.loads n (.t a)).run (·.ev s.sl) (geth s.hp) s.nx).map (·.1)
  | _, _ => none
def resL (P : Program) (s : SSt) : List ResultVar → Option (List SV)
 | [] => some []
 | r :: rs => match resV P s r, resL P s rs with
  | some v, some vs => some (v :: vs)
  | _, _ => none
def one_ : List SV → SV
 | [v] => v
 | vs => .tup vs
def qaoe (P : Program) (s : SSt) (rs : List ResultVar) : Option SV := (resL P s rs).map one_
def qazc (tmps : Array Value) : ResultVar → Sem Value
 | .tmp t => pure (tmps.getD t undef)
 | .cell a t => do loadVar t (← asAddr (tmps.getD a undef))
theorem qa18 {P : Program} {t : TypeId} {x : Operand} {a : Act} {v' : Value} (h : ∀ o : Oper, o.op = .load t x → (execOp a.eval o).run P w = .ok (.value v') w) : (do loadVar t (← asAddr (a.eval x)) : Sem Value).run P w = .ok v' w := by
 have h1 := h ⟨none, .load t x, 0, "", #[], none⟩ rfl
 simp only [execOp, Instr.loadAt, Sem.run_bind] at h1
 generalize a.eval x = y at h1
 cases y with
 | pointer p =>
  cases p with
  | none => simp [Instr.sureAddr, stuck, Sem.run, Result.andThen] at h1
  | some ad =>
   simp only [Instr.sureAddr, Sem.run_pure, Result.andThen_ok] at h1
   simp only [asAddr, Sem.run_bind, Sem.run_pure, Result.andThen_ok]
   generalize (loadVar t ad).run P w = r at h1
   cases r with
   | ok u w' => simp only [Result.andThen_ok, Result.ok.injEq, Next.value.injEq] at h1; rw [h1.1, h1.2]
   | halt u w' => simp [Result.andThen] at h1
 | _ => simp [Instr.sureAddr, stuck, Sem.run, Result.andThen] at h1
theorem resV_ok {ρ : qach} {fp : Nat → Nat → Prop} {a : Act} {w : World} (h : SimF X ρ fp s a w) {r : ResultVar} {v : SV} (hr : resV X.P s r = some v) : ∃ v', (qazc a.tmps r).run X.P w = .ok v' w ∧ RepV w (Av X s.hp fp) ρ v v' := by
 have hobj : ∀ id o, geth s.hp id = some o → ∃ fp', ObjRep w (Av X s.hp fp) ρ id fp' o := fun id o ho => ⟨_, h.sim.h.objs id o ho⟩
 cases r with
 | tmp t =>
  simp only [resV, Option.some.injEq] at hr
  subst hr
  exact ⟨_, rfl, h.sim.slots t⟩
 | cell b t =>
  simp only [resV] at hr
  have hx : cx (b + 1) (.tmp b) = some (.t b) := by simp [cx]
  split at hr
  ·rename_i n hb hn
   simp only [Option.map_eq_some_iff] at hr
   obtain ⟨⟨v1, u, nx⟩, h1, rfl⟩ := hr
   obtain ⟨_, v', h2, h3⟩ := qa17 h.sim.slots hobj hx hb h1
   exact ⟨v', qa18 h2, h3⟩
  ·rename_i n hb hn
   simp only [Option.map_eq_some_iff] at hr
   obtain ⟨⟨v1, u, nx⟩, h1, rfl⟩ := hr
   obtain ⟨_, v', h2, h3⟩ := qatk h.sim.slots hobj hx hb hn h1
   exact ⟨v', qa18 h2, h3⟩
  ·cases hr
theorem qa11 {ρ : qach} {fp : Nat → Nat → Prop} {a : Act} {w : World} (h : SimF X ρ fp s a w) : ∀ {rs : List ResultVar} {vs : List SV}, resL X.P s rs = some vs → ∃ us, (rs.mapM (qazc a.tmps)).run X.P w = .ok us w ∧ Reps w (Av X s.hp fp) ρ vs us
 | [], vs, hr => by simp only [resL, Option.some.injEq] at hr; subst hr; exact ⟨[], rfl, Reps.nil⟩
 | r :: rs, vs, hr => by
  simp only [resL] at hr
  split at hr
  ·rename_i v vs' h1 h2
   cases hr
   obtain ⟨u, q1, q2⟩ := resV_ok h h1
   obtain ⟨us, q3, q4⟩ := qa11 h h2
   exact ⟨u :: us, by simp [List.mapM_cons, q1, q3], Reps.cons q2 q4⟩
  ·cases hr
theorem qatb {ρ : qach} {fp : Nat → Nat → Prop} {a : Act} {w : World} (h : SimF X ρ fp s a w) {fn : Func} {r : SV} (hr : qaoe X.P s fn.results.toList = some r) : ∃ v, (results fn a.tmps).run X.P w = .ok v w ∧ RepV w (Av X s.hp fp) ρ r v := by
 simp only [qaoe, Option.map_eq_some_iff] at hr
 obtain ⟨vs, h1, rfl⟩ := hr
 obtain ⟨us, h2, h3⟩ := qa11 h h1
 have hm : (results fn a.tmps).run X.P w = .ok (if h : us.toArray.size = 1 then us.toArray[0] else .tuple us.toArray) w := by
  have e : (fn.results.mapM (qazc a.tmps)).run X.P w = .ok us.toArray w := by
   rw [Array.mapM_eq_mapM_toList]; simp [h2]
  have e2 : results fn a.tmps = (fn.results.mapM (qazc a.tmps) >>= fun vs => pure (if h : vs.size = 1 then vs[0] else .tuple vs)) := by
   unfold results
   congr 1
  rw [e2, Sem.run_bind, e]
  rfl
 refine ⟨_, hm, ?_⟩
 match vs, us, h3 with
 | [], us, h3 => obtain rfl := h3.nil_inv; exact .tup rfl (by simp)
 | [v], us, h3 =>
  obtain ⟨u, us', rfl, h4, h5⟩ := h3.cons_inv
  obtain rfl := h5.nil_inv
  exact h4
 | v :: v2 :: vs, us, h3 =>
  obtain ⟨u, us', rfl, h4, h5⟩ := h3.cons_inv
  obtain ⟨u2, us2, rfl, h6, h7⟩ := h5.cons_inv
  rw [dif_neg (by simp)]
  exact .tup h3.1 h3.2
def ltV (m : Nat) (x : SV) : Prop := ren (fun i => if i < m then i else m) x = x
def LtL (m : Nat) : List SV → Prop
 | [] => True
 | x :: xs => ltV m x ∧ LtL m xs
theorem LtL.map {m : Nat} : ∀ {xs : List SV}, LtL m xs → xs.map (ren (fun i => if i < m then i else m)) = xs
 | [], _ => rfl
 | x :: xs, h => by rw [List.map_cons, h.1, LtL.map h.2]
def LtO (m : Nat) : SObj → Prop
 | .cells _ cs => cs.map (ren (fun i => if i < m then i else m)) = cs
 | .row _ _ es => es.map (·.map (ren (fun i => if i < m then i else m))) = es
 | .abs _ => True
def LtH (m : Nat) : Hp → Prop
 | [] => True
 | (i, o) :: r => i < m ∧ LtO m o ∧ LtH m r
theorem LtH.get {m : Nat} : ∀ {h : Hp}, LtH m h → ∀ id o, geth h id = some o → id < m ∧ LtO m o
 | [], _, id, o, h => by cases h
 | (i, x) :: r, h, id, o, hg => by
  simp only [geth] at hg
  split at hg
  ·rename_i e; subst e; cases hg; exact ⟨h.1, h.2.1⟩
  ·exact LtH.get h.2.2 id o hg
theorem LtO.objM {m : Nat} {o : SObj} (h : LtO m o) : ObjM (fun i => if i < m then i else m) o o := by
 cases o with
 | cells t cs => exact ⟨rfl, by rw [show cs.map (ren _) = cs from h]; exact .refl _⟩
 | row e z es => exact ⟨rfl, rfl, by rw [show es.map (fun x => x.map (ren (fun i => if i < m then i else m))) = es from h]; exact .refl _⟩
 | abs I => rfl
def argS : Nat → List SV → Sl
 | _, [] => []
 | i, x :: xs => (i, x) :: argS (i + 1) xs
theorem qanu : ∀ (xs : List SV) (i t : Nat), gets (argS i xs) t = if t < i then .any else (xs[t - i]?).getD .any
 | [], i, t => by simp [argS, gets]
 | x :: xs, i, t => by
  simp only [argS, gets, qanu xs]
  by_cases e : i = t
  ·subst e; simp
  ·rw [if_neg e]
   by_cases h : t < i
   ·rw [if_pos h, if_pos (by omega)]
   ·rw [if_neg h, if_neg (by omega)]
    obtain ⟨d, hd⟩ : ∃ d, t - i = d + 1 := ⟨t - i - 1, by omega⟩
    rw [hd, show t - (i + 1) = d by omega, List.getElem?_cons_succ]
def QFunN (n : Nat) (X : Cx) (rs : List ResultVar) (m : Nat) (r : SV) (h2 : Hp) : SExit → SSt → Prop
 | .exit _, _ => False
 | _, s => ∃ s', Wk X s s' ∧ qaoe X.P s' rs = some r ∧ SubH s'.hp h2 ∧ s'.nx ≤ m + n
abbrev QFun (X : Cx) (rs : List ResultVar) (m : Nat) (r : SV) (h2 : Hp) : SExit → SSt → Prop := QFunN 8 X rs m r h2
theorem qas6 (n : Nat) (hn0 : 0 < n) {P : Program} {f : FuncId} {fn : Func} {N m : Nat} {code : Code} {c : SCode} {args : List SV} {h1 h2 : Hp} {r : SV} (hf : P.funcs[f]? = some fn) (hb : fn.body = some code) (hN : fn.ntmps = N) (hname : (fn.name == "runtime.NumGoroutine") = false) (hc : comp P N code = some c.erase) (hal : args.length ≤ N)
  (hla : LtL m args) (hlh : LtH m h1)
  (h : ∀ X : Cx, X.P = P → X.N = N → X.m = m → SWp X c (QFunN n X fn.results.toList m r h2) ⟨argS 0 args, h1, m⟩) : SCalls P f args h1 m r h2 n := by
 refine ⟨.of hf (by rw [hb]; rfl) hname, fun O ρ fp w vs hok hargs hfr => ?_⟩
 let σ : Nat → Nat := fun i => if i < m then i else m
 let ρi : qach := fun id => ρ (σ id)
 have hm0 : ρ m = none := hfr m (Nat.le_refl _) (by omega)
 let X : Cx := ⟨P, N, m, ρi, w, Live h1 fp, O, hok.O_lt, fun k hO hl => (hok.lt k hl).2 hO⟩
 have hgl : ∀ id o, geth h1 id = some o → id < m ∧ σ id = id := fun id o ho => by
  have := (hlh.get id o ho).1
  exact ⟨this, if_pos this⟩
 have hfp : (fun id => fp id) = fp := rfl
 have hsimh : SimH X ρi fp h1 w := by
  refine ⟨fun id o ho => ?_, hok.disj, fun id o ho k hk => ⟨.inl ⟨id, o, ho, hk⟩, (hok.lt k ⟨id, o, ho, hk⟩).1⟩, .refl _ _, fun _ _ => rfl⟩
  have h3 := hok.objs id o ho
  obtain ⟨h4, h5⟩ := hgl id o ho
  have h6 := (hlh.get id o ho).2.objM
  rw [show id = σ id from h5.symm] at h3
  have := h6.back h3
  rw [h5] at this
  exact this
 have hlen := hargs.1
 have hreps : Reps w (Av X h1 fp) ρi args vs := by
  have h3 : Reps w (fun k => O k ∨ Live h1 fp k) ρ (args.map (ren σ)) vs := by rw [hla.map]; exact hargs
  exact qadz h3
 let a0 : Act := { tmps := vs.toArray ++ Array.replicate (fn.ntmps - vs.toArray.size) undef, defers := [] }
 have hsz : a0.tmps.size = N := by simp [a0, hN]; omega
 have hsim : SimF X ρi fp ⟨argS 0 args, h1, m⟩ a0 w := by
  refine ⟨⟨hsimh, hsz, rfl, fun t => ?_⟩, fun id hid => ?_, Nat.le_refl _⟩
  ·show RepV w _ ρi (gets (argS 0 args) t) _
   rw [qanu, if_neg (by omega), Nat.sub_zero]
   cases e : args[t]? with
   | none => exact .any
   | some x =>
    obtain ⟨v, h3, h4⟩ := hreps.get e
    have hlt : t < vs.length := (List.getElem?_eq_some_iff.1 h3).1
    have : a0.tmps.getD t undef = v := by
     have h5 : a0.tmps[t]? = some v := by
      simp only [a0]
      rw [Array.getElem?_append_left (by simpa using hlt)]
      simpa using h3
     rw [Array.getD_eq_getD_getElem?, h5]; rfl
    rw [this]; exact h4
  ·show ρ (σ id) = none
   simp only [σ]
   rw [if_neg (by simp only at hid; omega)]; exact hm0
 have hw := h X rfl rfl rfl code hc ρi fp a0 w hsim
 refine calls_of_wp hf hb (wp_mono hw ?_)
 have fin : ∀ s ρ' fp' a w', (∃ s', Wk X s s' ∧ qaoe X.P s' fn.results.toList = some r ∧ SubH s'.hp h2 ∧ s'.nx ≤ m + n) → SimF X ρ' fp' s a w' →
   a.defers = [] ∧ ∃ v, (results fn a.tmps).run P w' = .ok v w' ∧ ∃ v2 ρ2 fp2, Ending.returned v = .returned v2 ∧ HeapOk O ρ2 fp2 h2 w' ∧ RepV w' (fun k => O k ∨ Live h2 fp2 k) ρ2 r v2 ∧ Step (Live h1 fp) w w' ∧
    (∀ id p, ρ id = some p → ρ2 id = some p) ∧ (∀ id, ρ2 id ≠ none → ρ id ≠ none ∨ (m ≤ id ∧ id < m + n)) ∧ ∀ id o, geth h2 id = some o → ∀ k, fp2 id k → Live h1 fp k ∨ w.heap.size ≤ k := by
  rintro s ρ' fp' a w' ⟨s', hwk, hres, hsb, hnx⟩ hs
  obtain ⟨ρ3, fp3, hs3⟩ := hwk ρ' fp' a w' hs
  obtain ⟨v, q1, q2⟩ := qatb hs3 hres
  let ρ2 : qach := fun id => match ρ id with
   | some p => some p
   | none => ρ3 id
  have hext : ∀ id p, ρ3 id = some p → ρ2 id = some p := fun id p hp => by
   simp only [ρ2]
   cases e : ρ id with
   | none => exact hp
   | some p' =>
    simp only
    by_cases hid : id < m
    ·have h5 : ρ3 id = ρi id := hs3.sim.h.keep id hid
     rw [h5] at hp
     simp only [ρi, σ, if_pos hid, e] at hp
     exact hp
    ·by_cases hid2 : id < m + n
     ·rw [hfr id (by omega) hid2] at e; cases e
     ·rw [hs3.fresh id (by omega)] at hp; cases hp
  have hsg := hsb.get
  have hav : ∀ k, (O k ∨ Live h2 fp3 k) → Av X s'.hp fp3 k := by
   rintro k (hO | ⟨id, o, ho, hk⟩)
   ·exact .inl hO
   ·exact .inr ⟨id, o, hsg id o ho, hk⟩
  refine ⟨hs3.sim.defers, v, q1, v, ρ2, fp3, rfl, ⟨fun id o ho => ?_, fun id id' o o' hne ho ho' => hs3.sim.h.disj id id' o o' hne (hsg _ _ ho) (hsg _ _ ho'), ?_, ?_⟩, q2.mono (.refl _ _) (fun k h _ => hav k h) hext, hs3.sim.h.step, fun id p hp => ?_, fun id hid => ?_, fun id o ho k hk => ?_⟩
  ·exact (hs3.sim.h.objs id o (hsg _ _ ho)).mono ⟨.refl _ _, fun k h _ => hav k h, hext⟩ fun _ _ => rfl
  ·rintro k ⟨id, o, ho, hk⟩
   obtain ⟨h5, h6⟩ := hs3.sim.h.turn id o (hsg _ _ ho) k hk
   refine ⟨h6, fun hO => ?_⟩
   rcases h5 with h5 | h5
   ·exact X.O_M k hO h5
   ·exact absurd (hok.O_lt k hO) (Nat.not_lt_of_le h5)
  ·exact fun k hO => Nat.lt_of_lt_of_le (hok.O_lt k hO) hs3.sim.h.step.size
  ·simp only [ρ2, hp]
  ·cases e : ρ id with
   | some p => exact .inl (by simp)
   | none =>
    simp only [ρ2, e] at hid
    refine .inr ?_
    by_cases hlt : id < m
    ·have h5 : ρ3 id = ρi id := hs3.sim.h.keep id hlt
     rw [h5] at hid
     simp only [ρi, σ, if_pos hlt, e] at hid
     exact absurd rfl hid
    ·refine ⟨by omega, Nat.lt_of_not_le fun hge => hid (hs3.fresh id (by omega))⟩
  ·exact (hs3.sim.h.turn id o (hsg _ _ ho) k hk).1
 intro e a w' ho
 cases e with
 | normal => obtain ⟨s, ρ', fp', h3, h4⟩ := ho; exact fin s ρ' fp' a w' h3 h4
 | ret => obtain ⟨s, ρ', fp', h3, h4⟩ := ho; exact fin s ρ' fp' a w' h3 h4
 | exit id => obtain ⟨s, ρ', fp', h3, h4⟩ := ho; exact h3.elim
 | goto l => exact ho.elim
 | panic c => exact ho.elim
 | outgrown => exact ho.elim
theorem qaal {P : Program} {f : FuncId} {fn : Func} {N m : Nat} {code : Code} {c : SCode} {args : List SV} {h1 h2 : Hp} {r : SV} (hf : P.funcs[f]? = some fn) (hb : fn.body = some code) (hN : fn.ntmps = N) (hname : (fn.name == "runtime.NumGoroutine") = false) (hc : comp P N code = some c.erase) (hal : args.length ≤ N)
  (hla : LtL m args) (hlh : LtH m h1)
  (h : ∀ X : Cx, X.P = P → X.N = N → X.m = m → SWp X c (QFun X fn.results.toList m r h2) ⟨argS 0 args, h1, m⟩) : SCalls P f args h1 m r h2 := qas6 8 (by decide) hf hb hN hname hc hal hla hlh h
end Go.Proofs.Yticeaegpkpjjeaa
namespace Go.Proofs.Yticeaegpkpjjeaa
set_option linter.all false
open Go.RowKit
variable {w : World} {A : Nat → Prop} {ρ ρ2 : qach} {σ : Nat → Nat}
def ok0 : SV → Bool
 | .agg _ | .tup _ => false
 | .fn _ [] [] => true
 | .fn _ _ _ => false
 | _ => true
def ok1 : SV → Bool
 | .agg cs => cs.all ok0
 | .fn _ a b => a.all ok0 && b.all ok0
 | x => ok0 x
def ok2 : SV → Bool
 | .tup cs => cs.all ok1
 | .agg cs => cs.all ok1
 | x => ok1 x
theorem qaht (hσ : ∀ c p, ρ c = some p → ρ2 (σ c) = some p) {x : SV} {v : Value} (hx : ok0 x = true) (h : RepV w A ρ x v) : RepV w A ρ2 (ren0 σ x) v := by
 cases h with
 | any => exact .any
 | bool => exact .bool
 | int => exact .int
 | str => exact .str
 | nil => exact .nil
 | nilsl => exact .nilsl
 | nilfn => exact .nilfn
 | mt hc => exact .mt hc
 | view0 hc ha => exact .view0 hc ha
 | view cv hn hc hm hA hb hz h1 h2 ho => exact .view cv hn hc hm hA hb hz h1 h2 ho
 | cp cv hA hb h1 h2 ho => exact .cp cv hA hb h1 h2 ho
 | ptr h => exact .ptr (hσ _ _ h)
 | eptr h => exact .eptr (hσ _ _ h)
 | own0 h => exact .own0 (hσ _ _ h)
 | own h hn hm => exact .own (hσ _ _ h) hn hm
 | owno h hn hm => exact .owno (hσ _ _ h) hn hm
 | agg => simp [ok0] at hx
 | tup => simp [ok0] at hx
 | fn l1 l2 r1 r2 =>
  rename_i f fs cs vs us
  cases fs with
  | nil =>
   cases cs with
   | nil => exact .fn l1 l2 (by simp) (by simp)
   | cons y b => simp [ok0] at hx
  | cons y a => simp [ok0] at hx
theorem qae8 {f : SV → SV} {ok : SV → Bool} (hf : ∀ {x v}, ok x = true → RepV w A ρ x v → RepV w A ρ2 (f x) v) {cs : List SV} {vs : List Value} (hk : cs.all ok = true) (h : ∀ (j : Nat) x v, cs[j]? = some x → vs[j]? = some v → RepV w A ρ x v) : ∀ (j : Nat) x v, (cs.map f)[j]? = some x → vs[j]? = some v → RepV w A ρ2 x v := fun j x v hx hv => by
 rw [List.getElem?_map, Option.map_eq_some_iff] at hx
 obtain ⟨y, hy, rfl⟩ := hx
 exact hf (List.all_eq_true.1 hk y (List.mem_of_getElem? hy)) (h j y v hy hv)
theorem qakd (hσ : ∀ c p, ρ c = some p → ρ2 (σ c) = some p) {x : SV} {v : Value} (hx : ok1 x = true) (h : RepV w A ρ x v) : RepV w A ρ2 (ren1 σ x) v := by
 cases x with
 | agg cs =>
  cases h with
  | agg ho hl hh => exact .agg ho (by simpa using hl) (qae8 (qaht hσ) hx hh)
 | fn f gs bs =>
  simp only [ok1, Bool.and_eq_true] at hx
  cases h with
  | fn l1 l2 r1 r2 => exact .fn (by simpa using l1) (by simpa using l2) (qae8 (qaht hσ) hx.1 r1) (qae8 (qaht hσ) hx.2 r2)
 | _ => (refine qaht hσ ?_ h; exact hx)
theorem qa12 (hσ : ∀ c p, ρ c = some p → ρ2 (σ c) = some p) {x : SV} {v : Value} (hx : ok2 x = true) (h : RepV w A ρ x v) : RepV w A ρ2 (ren σ x) v := by
 cases x with
 | agg cs =>
  cases h with
  | agg ho hl hh => exact .agg ho (by simpa using hl) (qae8 (qakd hσ) hx hh)
 | tup cs =>
  cases h with
  | tup hl hh => exact .tup (by simpa using hl) (qae8 (qakd hσ) hx hh)
 | _ => (refine qakd hσ ?_ h; exact hx)
theorem qatc (hσ : ∀ c p, ρ c = some p → ρ2 (σ c) = some p) {xs : List SV} {vs : List Value} (hx : xs.all ok2 = true) (h : Reps w A ρ xs vs) : Reps w A ρ2 (xs.map (ren σ)) vs := ⟨by simpa using h.1, qae8 (qa12 hσ) hx h.2⟩
def ObjF (σ : Nat → Nat) : SObj → SObj → Prop
 | .cells t cs, .cells t' ds => t = t' ∧ cs.all ok2 = true ∧ ds = cs.map (ren σ)
 | .row e z es, .row e' z' fs => e = e' ∧ z = z' ∧ (∀ x ∈ es, x.all ok2 = true) ∧ fs = es.map (·.map (ren σ))
 | .abs I, .abs I' => I = I'
 | _, _ => False
theorem ObjF.fwd {o o' : SObj} (h : ObjF σ o o') (hσ : ∀ c p, ρ c = some p → ρ2 (σ c) = some p) {id : Nat} {F : Nat → Prop} (hr : ObjRep w A ρ id F o) : ObjRep w A ρ2 (σ id) F o' := by
 cases o with
 | cells t cs =>
  cases o' with
  | cells t' ds =>
   obtain ⟨rfl, hk, rfl⟩ := h
   obtain ⟨b, c, vs, h1, h2, ⟨h3, h4⟩, h5⟩ := hr
   exact ⟨b, c, vs, hσ _ _ h1, h2, ⟨qatc hσ hk h3, h4⟩, h5⟩
  | row => exact h.elim
  | abs => exact h.elim
 | row e z es =>
  cases o' with
  | row e' z' fs =>
   obtain ⟨rfl, rfl, hk, rfl⟩ := h
   obtain ⟨v, vs, h1, ⟨h2, h3⟩, h4, h5, h6⟩ := hr
   refine ⟨v, vs, by simpa using h1, ⟨?_, h3⟩, fun x hx => ?_, hσ _ _ h5, h6⟩
   ·rw [← List.map_flatten]
    refine qatc hσ (List.all_eq_true.2 fun x hx => ?_) h2
    obtain ⟨l, hl, hx⟩ := List.mem_flatten.1 hx
    exact List.all_eq_true.1 (hk l hl) x hx
   ·obtain ⟨y, hy, rfl⟩ := List.mem_map.1 hx
    simpa using h4 y hy
  | cells => exact h.elim
  | abs => exact h.elim
 | abs I =>
  cases o' with
  | abs I' => obtain rfl := h; obtain ⟨b, c, h1, h2⟩ := hr; exact ⟨b, c, hσ _ _ h1, h2⟩
  | cells => exact h.elim
  | row => exact h.elim
def sg (τ : List Nat) (q c : Nat) : Nat := if c < τ.length then τ.getD c 0 else if c < τ.length + 8 then q + (c - τ.length) else q
def ObjsF (σ : Nat → Nat) (h' : Hp) : Hp → Prop
 | [] => True
 | (i, o) :: r => (∃ o', geth h' (σ i) = some o' ∧ ObjF σ o o') ∧ ObjsF σ h' r
theorem ObjsF.get {h' : Hp} : ∀ {h : Hp}, ObjsF σ h' h → ∀ id o, geth h id = some o → ∃ o', geth h' (σ id) = some o' ∧ ObjF σ o o'
 | [], _, id, o, hg => by cases hg
 | (i, x) :: r, h, id, o, hg => by
  simp only [geth] at hg
  split at hg
  ·rename_i e; subst e; cases hg; exact h.1
  ·exact ObjsF.get h.2 id o hg
theorem sg_inj {τ : List Nat} {q : Nat} (hn : τ.Nodup) (hq : ∀ i ∈ τ, i < q ∨ q + 8 ≤ i) {a b : Nat} (ha : a < τ.length + 8) (hb : b < τ.length + 8) (h : sg τ q a = sg τ q b) : a = b := by
 unfold sg at h
 by_cases h1 : a < τ.length
 ·rw [if_pos h1] at h
  have ma : τ.getD a 0 ∈ τ := by rw [List.getD_eq_getElem?_getD, List.getElem?_eq_getElem h1]; exact List.getElem_mem _
  by_cases h2 : b < τ.length
  ·rw [if_pos h2] at h
   rw [List.getD_eq_getElem?_getD, List.getD_eq_getElem?_getD, List.getElem?_eq_getElem h1, List.getElem?_eq_getElem h2] at h
   exact (List.getElem_inj hn).1 h
  ·rw [if_neg h2, if_pos hb] at h
   have := hq _ ma; omega
 ·rw [if_neg h1, if_pos ha] at h
  by_cases h2 : b < τ.length
  ·rw [if_pos h2] at h
   have mb : τ.getD b 0 ∈ τ := by rw [List.getD_eq_getElem?_getD, List.getElem?_eq_getElem h2]; exact List.getElem_mem _
   have := hq _ mb; omega
  ·rw [if_neg h2, if_pos hb] at h; omega
theorem qac6 (τ : List Nat) {P : Program} {f : FuncId} {args args' : List SV} {h1 h1' h2 h2' : Hp} {r r' : SV} {q m : Nat} (h : SCalls P f args h1 m r h2) (hm : m = τ.length) (hn : τ.Nodup) (hq : ∀ i ∈ τ, i < q ∨ q + 8 ≤ i)
  (ha : args' = args.map (ren (sg τ q))) (hh1 : ObjsM (sg τ q) h1' h1) (hlt1 : ∀ i ∈ idsH h1, i < m) (hr : r' = ren (sg τ q) r) (hrk : ok2 r = true) (hh2 : ObjsF (sg τ q) h2' h2) (hlt2 : ∀ i ∈ idsH h2, i < m + 8) (hb2 : idsH h2' = (idsH h2).map (sg τ q)) : SCalls P f args' h1' q r' h2' := by
 subst hm ha hr
 refine ⟨h.1, fun O ρ fp w vs hok hargs hfr => ?_⟩
 have hnone : ∀ c, τ.length ≤ c → ρ (sg τ q c) = none := fun c hc => by
  unfold sg
  rw [if_neg (by omega)]
  split
  ·exact hfr _ (by omega) (by omega)
  ·exact hfr _ (Nat.le_refl _) (by omega)
 have hsub : ∀ k, Live h1 (fun c => fp (sg τ q c)) k → Live h1' fp k := by
  rintro k ⟨c, o, ho, hk⟩
  obtain ⟨o', h3, _⟩ := hh1.get c o ho
  exact ⟨_, o', h3, hk⟩
 have hok1 : HeapOk O (fun c => ρ (sg τ q c)) (fun c => fp (sg τ q c)) h1 w := by
  refine ⟨fun c o ho => ?_, fun c d o o' hne ho ho' => ?_, fun k hk => hok.lt k (hsub k hk), hok.O_lt⟩
  ·obtain ⟨o', h3, h4⟩ := hh1.get c o ho
   exact (h4.back (hok.objs _ _ h3)).weaken fun k hk _ => hk.imp (fun h => h) (hsub k)
  ·obtain ⟨x, h3, _⟩ := hh1.get c o ho
   obtain ⟨y, h4, _⟩ := hh1.get d o' ho'
   refine hok.disj _ _ x y (fun e => hne (sg_inj hn hq ?_ ?_ e)) h3 h4
   ·have := hlt1 c (qade (by rw [ho]; simp)); omega
   ·have := hlt1 d (qade (by rw [ho']; simp)); omega
 refine (h.2 O (fun c => ρ (sg τ q c)) (fun c => fp (sg τ q c)) w vs hok1 ((qadz hargs).weaken fun k hk _ => hk.imp (fun h => h) (hsub k)) (fun id h3 _ => hnone id h3)).mono ?_
 rintro e w' ⟨v, ρc, fpc, rfl, q1, q2, q3, q4, q5, q6⟩
 let ρ' : qach := fun id => match ρ id with
  | some p => some p
  | none => if q ≤ id ∧ id < q + 8 then ρc (τ.length + (id - q)) else none
 have hσ : ∀ c p, ρc c = some p → ρ' (sg τ q c) = some p := fun c p hp => by
  rcases q5 c (by rw [hp]; simp) with h3 | h3
  ·obtain ⟨p0, h4⟩ := Option.ne_none_iff_exists'.1 h3
   have h5 := q4 c p0 h4
   rw [hp] at h5; cases h5
   simp only [ρ', h4]
  ·have h4 : sg τ q c = q + (c - τ.length) := by unfold sg; rw [if_neg (by omega), if_pos (by omega)]
   have h5 := hnone c h3.1
   simp only [ρ', h5]
   rw [h4, if_pos (by omega), show τ.length + (q + (c - τ.length) - q) = c by omega]; exact hp
 let fp' : Nat → Nat → Prop := fun id k => ∃ c, geth h2 c ≠ none ∧ sg τ q c = id ∧ fpc c k
 have hinv : ∀ id o', geth h2' id = some o' → ∃ c o, geth h2 c = some o ∧ sg τ q c = id ∧ ObjF (sg τ q) o o' := fun id o' ho' => by
  have h3 := qade (hp := h2') (id := id) (by rw [ho']; simp)
  rw [hb2] at h3
  obtain ⟨c, hc, rfl⟩ := List.mem_map.1 h3
  have h4 : geth h2 c ≠ none := by
   have gen : ∀ {h : Hp}, c ∈ idsH h → geth h c ≠ none := by
    intro h
    induction h with
    | nil => intro h; cases h
    | cons x h ih =>
     obtain ⟨i, o⟩ := x
     intro hc
     by_cases e : i = c
     ·simp [geth, e]
     ·simp only [geth, if_neg e]
      exact ih ((List.mem_cons.1 hc).resolve_left (Ne.symm e))
   exact gen hc
  obtain ⟨o, h5⟩ := Option.ne_none_iff_exists'.1 h4
  obtain ⟨o2, h6, h7⟩ := hh2.get c o h5
  rw [ho'] at h6; cases h6
  exact ⟨c, o, h5, rfl, h7⟩
 have hfp : ∀ c o, geth h2 c = some o → fp' (sg τ q c) = fpc c := fun c o ho => by
  funext k
  apply propext
  constructor
  ·rintro ⟨d, h3, h4, h5⟩
   have hlt : ∀ {x}, geth h2 x ≠ none → x < τ.length + 8 := fun hx => hlt2 _ (qade hx)
   rw [sg_inj hn hq (hlt h3) (hlt (by rw [ho]; simp)) h4] at h5; exact h5
  ·intro hk; exact ⟨c, by rw [ho]; simp, rfl, hk⟩
 have hlive : ∀ k, Live h2' fp' k → Live h2 fpc k := by
  rintro k ⟨id, o', ho', c, h3, h4, h5⟩
  obtain ⟨o, h6⟩ := Option.ne_none_iff_exists'.1 h3
  exact ⟨c, o, h6, h5⟩
 refine ⟨v, ρ', fp', rfl, ⟨fun id o' ho' => ?_, fun id id' o o' hne ho ho' k hk hk' => ?_, fun k hk => q1.lt k (hlive k hk), q1.O_lt⟩, (qa12 hσ hrk q2).weaken fun k hk _ => hk.imp (fun h => h) (hlive k), q3.mono hsub, fun id p hp => ?_, fun id hid => ?_, fun id o' ho' k hk => ?_⟩
 ·obtain ⟨c, o, h3, rfl, h4⟩ := hinv id o' ho'
  rw [hfp c o h3]
  exact (h4.fwd hσ (q1.objs c o h3)).weaken fun k hk _ => hk.imp (fun h => h) (hlive k)
 ·obtain ⟨c, oc, h3, rfl, _⟩ := hinv id o ho
  obtain ⟨d, od, h4, rfl, _⟩ := hinv id' o' ho'
  rw [hfp c oc h3] at hk
  rw [hfp d od h4] at hk'
  exact q1.disj c d oc od (fun e => hne (by rw [e])) h3 h4 k hk hk'
 ·simp only [ρ', hp]
 ·cases e : ρ id with
  | some p => exact .inl (by simp)
  | none =>
   simp only [ρ', e] at hid
   split at hid
   ·exact .inr ‹_›
   ·exact absurd rfl hid
 ·obtain ⟨c, o, h3, rfl, _⟩ := hinv id o' ho'
  rw [hfp c o h3] at hk
  exact (q6 c o h3 k hk).imp (hsub k) fun h => h
theorem qabs {P : Program} {f : FuncId} {args : List SV} {r : SV} (h : SCalls P f args [] 0 r []) (ha : ∀ σ, args.map (ren σ) = args) (hr : ∀ σ, ren σ r = r) (hk : ok2 r = true) (q : Nat) : SCalls P f args [] q r [] :=
 qac6 [] h rfl (by simp) (by simp) (ha _).symm trivial (by simp [idsH]) (hr _).symm hk trivial (by simp [idsH]) rfl
theorem qafq {P : Program} {f : FuncId} {args args' : List SV} {h1 h2 : Hp} {q : Nat} {r : SV} (h : SCalls P f args' h1 q r h2) (hc : CoL args args') : SCalls P f args h1 q r h2 :=
 ⟨h.1, fun O ρ fp w vs hok hargs hfr => h.2 O ρ fp w vs hok (hc.reps hargs) hfr⟩
end Go.Proofs.Yticeaegpkpjjeaa
namespace Go.Proofs.Yticeaegpkpjjeaa
set_option linter.all false
open Go.RowKit
variable {w : World} {A : Nat → Prop} {ρ : qach}
def nums (k : IntKind) (xs : List Int) : SV := .view 1 (xs.map fun x => [.int k x])
def LayP {α : Type} (L : Lay α) (f : α → List SV) : Prop := ∀ A w x cs, L.rep A w x cs → Reps w A noPl (f x) cs ∧ Ones cs
theorem qabx (k : IntKind) : LayP (Lay.int k) (fun x => [.int k x]) := fun A w x cs h => by
 rw [h.1]; exact ⟨Reps.cons .int Reps.nil, fun v hv => by simp at hv; rw [hv]; rfl⟩
theorem qabd {α β : Type} {L : Lay α} {M : Lay β} {f : α → List SV} {g : β → List SV} (hf : LayP L f) (hg : LayP M g) : LayP (Lay.pair L M) (fun x => f x.1 ++ g x.2) := fun A w x cs h => by
 obtain ⟨c, d, rfl, h1, h2⟩ := h
 obtain ⟨r1, o1⟩ := hf _ _ _ _ h1
 obtain ⟨r2, o2⟩ := hg _ _ _ _ h2
 exact ⟨r1.append r2, fun v hv => (List.mem_append.1 hv).elim (o1 v) (o2 v)⟩
theorem qadc {α β : Type} {L : Lay α} {f : α → List SV} (g : β → α) (hf : LayP L f) : LayP (Lay.map g L) (fun x => f (g x)) := fun A w x cs h => hf _ _ _ _ h
theorem qann {α : Type} {L : Lay α} {f : α → List SV} (hf : LayP L f) {ao : Option Addr} {n c : Nat} {xs : List α} (h : RdL L A w ao n c xs) : RepV w A ρ (.view L.size (xs.map f)) (.slice ao n c) := by
 by_cases h0 : 0 < n
 ·obtain ⟨b, off, rfl, hA, hb, hh⟩ := h.here h0
  have hl := h.len
  have get : ∀ i e j x, (xs.map f)[i]? = some e → e[j]? = some x → ∃ u, w.cell? ⟨b, off + i * L.size + j, none⟩ = some u ∧ RepV w A noPl x u ∧ u.oneCell' = true := fun i e j x he hx => by
   rw [List.getElem?_map, Option.map_eq_some_iff] at he
   obtain ⟨y, hy, rfl⟩ := he
   obtain ⟨hi, rfl⟩ := List.getElem?_eq_some_iff.1 hy
   obtain ⟨cs, h1, h2⟩ := hh i hi
   obtain ⟨r, o⟩ := hf _ _ _ _ h1
   have hj : j < (f xs[i]).length := (List.getElem?_eq_some_iff.1 hx).1
   have hjs : j < L.size := by rw [← L.len h1, ← r.1]; exact hj
   obtain ⟨u, hu, hr⟩ := r.get hx
   exact ⟨u, by rw [h2 j hjs]; exact hu, hr, o u (List.mem_of_getElem? hu)⟩
  refine .view (fun i j => (w.cell? ⟨b, off + i * L.size + j, none⟩).getD undef) (by simp [hl]) h.le h.max hA hb (fun e he => ?_) (fun i e j x he hx => ?_) (fun i e j x he hx => ?_) (fun i e j x he hx => ?_)
  ·obtain ⟨y, hy, rfl⟩ := List.mem_map.1 he
   obtain ⟨i, hi0⟩ := List.getElem?_of_mem hy
   obtain ⟨hi, rfl⟩ := List.getElem?_eq_some_iff.1 hi0
   obtain ⟨cs, h1, _⟩ := hh i hi
   rw [(hf _ _ _ _ h1).1.1, L.len h1]
  ·obtain ⟨u, h1, _⟩ := get i e j x he hx; rw [h1]; rfl
  ·obtain ⟨u, h1, h2, _⟩ := get i e j x he hx; rw [h1]; exact h2
  ·obtain ⟨u, h1, _, h3⟩ := get i e j x he hx; rw [h1]; exact h3
 ·have hn : n = 0 := by omega
  have : xs = [] := List.eq_nil_of_length_eq_zero (by rw [h.len, hn])
  subst this hn
  exact .view0 h.max h.nil
theorem qabz {α : Type} {L : Lay α} {f : α → List SV} (hf : LayP L f) : LayP (Lay.slice L) (fun xs => [.view L.size (xs.map f)]) := fun A w x cs h => by
 obtain ⟨ao, n, c, rfl, h1⟩ := h
 exact ⟨Reps.cons (qann hf h1) Reps.nil, fun v hv => by simp at hv; rw [hv]; rfl⟩
theorem rd_view {k : IntKind} {ao : Option Addr} {n c : Nat} {xs : List Int} (h : Rd w k ao n c xs) (hA : ∀ a, ao = some a → 0 < n → ¬ A a.block) : RepV w A ρ (nums k xs) (.slice ao n c) := qann (qabx k) (h.lay A hA)
theorem law_of {P : Program} {f : FuncId} {args : List SV} {vs : List Value} (h : SCalls P f args [] 0 (.bool true) []) (hr : Reps w (fun _ => False) noPl args vs) : Calls P f vs.toArray w fun e w' => e = .returned (.bool true) ∧ Below w.heap.size w w' := by
 refine (h.2 (fun _ => False) noPl (fun _ _ => False) w vs ⟨fun id o ho => by simp [geth] at ho, fun id id' o o' _ ho => by simp [geth] at ho, fun k ⟨id, o, ho, _⟩ => by simp [geth] at ho, fun k h => h.elim⟩ (hr.weaken fun k hk _ => hk.elim (fun h => h) fun ⟨id, o, ho, _⟩ => by simp [geth] at ho) (fun _ _ _ => rfl)).mono ?_
 rintro e w' ⟨v, ρ', fp', rfl, _, q2, q3, _⟩
 cases q2
 exact ⟨rfl, q3.below (Nat.le_refl _) fun k ⟨id, o, ho, _⟩ => by simp [geth] at ho⟩
theorem qay4 {P : Program} {f : FuncId} {args : List SV} {r : SV} (he : Enters P f)
  (h : ∀ (O : Nat → Prop) (w : World) (vs : List Value), (∀ k, O k → k < w.heap.size) → Reps w O noPl args vs → Calls P f vs.toArray w fun e w' => ∃ v, e = .returned v ∧ Below w.heap.size w w' ∧ RepV w' O noPl r v)
  (ha : ∀ σ, args.map (ren σ) = args) (q : Nat) : SCalls P f args [] q r [] := by
 refine ⟨he, fun O ρ fp w vs hok hargs hfr => ?_⟩
 have hO : (fun k => O k ∨ Live [] fp k) = O := by funext k; simp [Live, geth]
 rw [hO] at hargs
 have ha' : Reps w O noPl args vs := by
  have h1 : Reps w O ρ (args.map (ren fun _ => q)) vs := by rw [ha]; exact hargs
  have h2 := qadz h1
  have e : (fun id => ρ ((fun _ => q) id)) = noPl := by funext id; exact hfr q (Nat.le_refl _) (by omega)
  rw [e] at h2; exact h2
 refine (h O w vs hok.O_lt ha').mono ?_
 rintro e w' ⟨v, rfl, hb, hr⟩
 refine ⟨v, ρ, fp, rfl, ⟨fun id o ho => by simp [geth] at ho, fun id id' o o' _ ho => by simp [geth] at ho, fun k ⟨id, o, ho, _⟩ => by simp [geth] at ho, fun k hk => Nat.lt_of_lt_of_le (hok.O_lt k hk) hb.size⟩, ?_, .of hb, fun _ _ h => h, fun id h => .inl h, fun id o ho => by simp [geth] at ho⟩
 exact hr.mono (.refl _ _) (fun k hk _ => by have := congrFun hO k; rw [← this]; exact hk) fun _ _ h => by cases h
end Go.Proofs.Yticeaegpkpjjeaa
namespace Go.Proofs.Yticeaegpkpjjeaa
set_option linter.all false
open Go.RowKit
def LayF {α : Type} (L : Lay α) (ok : α → Prop) : Prop := ∀ A w x cs, L.rep A w x cs → ok x
theorem qace (k : IntKind) : LayF (Lay.int k) (fun x => Fits k x) := fun A w x cs h => h.2
theorem qabe {α β : Type} {L : Lay α} {M : Lay β} {f : α → Prop} {g : β → Prop} (hf : LayF L f) (hg : LayF M g) : LayF (Lay.pair L M) (fun x => f x.1 ∧ g x.2) := fun A w x cs h => by
 obtain ⟨c, d, rfl, h1, h2⟩ := h
 exact ⟨hf _ _ _ _ h1, hg _ _ _ _ h2⟩
theorem qadd {α β : Type} {L : Lay α} {f : α → Prop} (g : β → α) (hf : LayF L f) : LayF (Lay.map g L) (fun x => f (g x)) := fun A w x cs h => hf _ _ _ _ h
theorem qa3o {α : Type} {L : Lay α} {f : α → Prop} (hf : LayF L f) {A : Nat → Prop} {w : World} {ao : Option Addr} {n c : Nat} {xs : List α} (h : RdL L A w ao n c xs) : ∀ x ∈ xs, f x := fun x hx => by
 obtain ⟨i, hi0⟩ := List.getElem?_of_mem hx
 obtain ⟨hi, rfl⟩ := List.getElem?_eq_some_iff.1 hi0
 obtain ⟨b, off, _, _, _, hh⟩ := h.here (by have := h.len; omega)
 obtain ⟨cs, h1, _⟩ := hh i hi
 exact hf _ _ _ _ h1
theorem qack {α : Type} {L : Lay α} {f : α → Prop} (hf : LayF L f) : LayF (Lay.slice L) (fun xs => ∀ x ∈ xs, f x) := fun A w x cs h => by
 obtain ⟨ao, n, c, rfl, h1⟩ := h
 exact qa3o hf h1
end Go.Proofs.Yticeaegpkpjjeaa
namespace Go.Proofs.Yticeaegpkpjjeaa
set_option linter.all false
open Go.RowKit
def SOp.sxs : SOp → List SX
 | .mv x | .box _ x | .load x | .loads _ x | .nilc x | .un _ x | .conv _ x | .faddr _ x | .field _ _ x | .extr x _ | .len _ x => [x]
 | .pick c a b => [c, a, b]
 | .alloc _ _ => []
 | .build _ ps => ps.map (·.2.2)
 | .mkrow _ _ _ _ ps => ps.map (·.2)
 | .store _ x v | .bin _ x v | .eq _ _ x v | .eqs _ _ x v | .mkslice _ _ _ _ x v | .iaddr _ x v | .iarr _ _ x v | .idx _ _ _ x v | .idxs x v | .app _ _ _ x v | .mm _ x v => [x, v]
 | .slice _ x lo hi | .slstr x lo hi => x :: (lo.toList ++ hi.toList)
 | .mkfn _ a b => a ++ b
theorem qaod {size : Nat} {g g' : Nat → Option SObj} {x : SV} (h : ∀ id ∈ idOf x, g id = g' id) : qadr size g x = qadr size g' x := by
 unfold qadr
 split <;> first | rfl | (rw [h _ (by simp [idOf])])
theorem qay7 {op : SOp} {ev ev' : SX → SV} {g g' : Nat → Option SObj} {nx : Nat} (h : ∀ x ∈ op.sxs, ev x = ev' x) (hg : ∀ id ∈ op.touch ev, g id = g' id) : op.run ev g nx = op.run ev' g' nx := by
 cases op
 case load x =>
  have e := h x (by simp [SOp.sxs])
  simp only [SOp.touch] at hg
  simp only [SOp.run, ← e]
  split <;> first | rfl | (rename_i hq; rw [hg _ (by rw [hq]; simp [idOf])])
 case loads n x =>
  have e := h x (by simp [SOp.sxs])
  simp only [SOp.touch] at hg
  simp only [SOp.run, ← e]
  split <;> first | rfl | (rename_i hq; rw [hg _ (by rw [hq]; simp [idOf])])
 case store n x v =>
  have e := h x (by simp [SOp.sxs])
  have e2 := h v (by simp [SOp.sxs])
  simp only [SOp.touch] at hg
  simp only [SOp.run, ← e, ← e2]
  split
  ·rfl
  ·split
   ·split <;> first | rfl | (rename_i hq; rw [hg _ (by rw [hq]; simp [idOf])])
   ·rfl
 case app e size bytes s x =>
  have e1 := h s (by simp [SOp.sxs])
  have e2 := h x (by simp [SOp.sxs])
  simp only [SOp.touch] at hg
  simp only [SOp.run, ← e1, ← e2]
  rw [qaod (g := g) (g' := g') fun id hid => hg id (List.mem_append_right _ hid)]
  split
  ·rfl
  ·split
   ·rfl
   ·rename_i hs; rw [hg _ (List.mem_append_left _ (by rw [hs]; simp [idOf]))]
   ·rfl
 case build z ps =>
  have e : (ps.map fun p => (p.1, p.2.1, ev p.2.2)) = ps.map fun p => (p.1, p.2.1, ev' p.2.2) := List.map_congr_left fun p hp => by rw [h p.2.2 (by simp [SOp.sxs]; exact ⟨_, _, hp⟩)]
  simp only [SOp.run, e]
 case mkrow e size n z ps =>
  have e : (ps.map fun p => (p.1, ev p.2)) = ps.map fun p => (p.1, ev' p.2) := List.map_congr_left fun p hp => by rw [h p.2 (by simp [SOp.sxs]; exact ⟨_, hp⟩)]
  simp only [SOp.run, e]
 case mkfn f gs bs =>
  have e1 : gs.map ev = gs.map ev' := List.map_congr_left fun p hp => h p (by simp [SOp.sxs, hp])
  have e2 : bs.map ev = bs.map ev' := List.map_congr_left fun p hp => h p (by simp [SOp.sxs, hp])
  simp only [SOp.run, e1, e2]
 case slice size x lo hi =>
  have e := h x (by simp [SOp.sxs])
  have e1 : lo.map ev = lo.map ev' := by cases lo with | none => rfl | some y => simp [h y (by simp [SOp.sxs])]
  have e2 : hi.map ev = hi.map ev' := by cases hi with | none => rfl | some y => simp [h y (by simp [SOp.sxs])]
  simp only [SOp.run, ← e, e1, e2]
 case slstr x lo hi =>
  have e := h x (by simp [SOp.sxs])
  have e1 : lo.map ev = lo.map ev' := by cases lo with | none => rfl | some y => simp [h y (by simp [SOp.sxs])]
  have e2 : hi.map ev = hi.map ev' := by cases hi with | none => rfl | some y => simp [h y (by simp [SOp.sxs])]
  simp only [SOp.run, ← e, e1, e2]
 all_goals simp only [SOp.sxs, List.mem_cons, List.not_mem_nil, or_false, forall_eq_or_imp, forall_eq, false_implies, implies_true] at h
 all_goals first
  | (obtain ⟨e1, e2, e3⟩ := h; simp only [SOp.run, ← e1, ← e2, ← e3]; done)
  | (obtain ⟨e1, e2⟩ := h; simp only [SOp.run, ← e1, ← e2]; done)
  | (simp only [SOp.run, ← h]; done)
  | (simp only [SOp.run]; done)
def qags : List SX → List Nat
 | [] => []
 | .t n :: l => n :: qags l
 | .c _ :: l => qags l
def SOper.reads (o : SOper) : List Nat := (match o.cal with
 | some (f, args) => qags (f :: args)
 | none => qags o.op.sxs) ++ (match o.grd with
 | some (t, _) => [t]
 | none => [])
theorem qan1 {l l' : Sl} : ∀ {xs : List SX}, (∀ t ∈ qags xs, gets l t = gets l' t) → ∀ x ∈ xs, SX.ev l x = SX.ev l' x
 | [], _, x, hx => by cases hx
 | .t n :: xs, h, x, hx => by
  rcases List.mem_cons.1 hx with e | e
  ·subst e; exact h n (by simp [qags])
  ·exact qan1 (xs := xs) (fun t ht => h t (by simp [qags, ht])) x e
 | .c v :: xs, h, x, hx => by
  rcases List.mem_cons.1 hx with e | e
  ·subst e; rfl
  ·exact qan1 (xs := xs) (fun t ht => h t (by simpa [qags] using ht)) x e
end Go.Proofs.Yticeaegpkpjjeaa
namespace Go.Proofs.Yticeaegpkpjjeaa
set_option linter.all false
open Go.RowKit
structure Eff where
 dst : Option Nat
 v : SV
 wr : List Nat
 c : Nat → Option SObj
def Eff.at (e : Eff) (t t' : SSt) : Prop :=
 (∀ x, gets t'.sl x = if e.dst = some x then e.v else gets t.sl x) ∧ ∀ id, geth t'.hp id = if id ∈ e.wr then e.c id else geth t.hp id
variable {X : Cx} {s : SSt}
def Loc (X : Cx) (ops : Array Oper) (o : Oper) (reads rd : List Nat) (lo hi : Nat) (s : SSt) (e : Eff) : Prop :=
 ∀ (t : SSt) (ρ : qach) (fp : Nat → Nat → Prop) (a : Act) (w : World), Sim X ρ fp t a w → (∀ y ∈ reads, gets t.sl y = gets s.sl y) → (∀ id, id ∈ rd ∨ id ∈ e.wr → geth t.hp id = geth s.hp id) → (∀ id, lo ≤ id → id < hi → ρ id = none) →
  ∀ (K : Act → World → Prop) (R : Exit → Act → World → Prop), (∀ t' ρ' fp' a' w', e.at t t' → Sim X ρ' fp' t' a' w' → (∀ id, ρ' id ≠ none → ρ id ≠ none ∨ (lo ≤ id ∧ id < hi)) → K a' w') →
   if Region.wanted o (yielded ops a.tmps) = true then o.wp X.P a w K R else K (a.put o.dst undef) w
theorem qad2 (l : Sl) (d : Option Nat) (v : SV) (x : Nat) : gets (putd l d v) x = if d = some x then v else gets l x := by
 cases d with
 | none => simp [putd]
 | some d => simp only [putd, qafw, Option.some.injEq, eq_comm]
def qatv : Upd → Nat → Option SObj → Option SObj
 | [], _, x => x
 | (i, o) :: u, id, x => qatv u id (if i = id then o else x)
theorem qafx : ∀ (u : Upd) (h : Hp) (id : Nat), geth (upds h u) id = qatv u id (geth h id)
 | [], h, id => rfl
 | (i, some o) :: u, h, id => by
  rw [upds, qafx u, qacm, qatv]
  by_cases e : id = i
  ·simp [e]
  ·simp [e, Ne.symm e]
 | (i, none) :: u, h, id => by
  rw [upds, qafx u, qafy, qatv]
  by_cases e : id = i
  ·simp [e]
  ·simp [e, Ne.symm e]
theorem qanq {u : Upd} {id : Nat} : ∀ {x}, id ∉ u.map (·.1) → qatv u id x = x := by
 induction u with
 | nil => intro x _; rfl
 | cons p u ih =>
  obtain ⟨i, o⟩ := p
  intro x h
  simp only [List.map_cons, List.mem_cons, not_or] at h
  rw [qatv, if_neg (Ne.symm h.1)]
  exact ih h.2
theorem qanr {u : Upd} {id : Nat} : ∀ {x y}, id ∈ u.map (·.1) → qatv u id x = qatv u id y := by
 induction u with
 | nil => intro x y h; simp at h
 | cons p u ih =>
  obtain ⟨i, o⟩ := p
  intro x y h
  simp only [List.map_cons, List.mem_cons] at h
  rw [qatv, qatv]
  by_cases e : i = id
  ·simp [e]
  ·rw [if_neg e, if_neg e]
   exact ih (h.resolve_left (Ne.symm e))
theorem qanv : ∀ {h : Hp} {id : Nat} {o : SObj}, geth h id = some o → id ∈ idsH h
 | [], id, o, h => by cases h
 | (i, x) :: r, id, o, h => by
  by_cases e : i = id
  ·subst e; simp [idsH]
  ·simp only [geth, if_neg e] at h
   exact List.mem_cons_of_mem _ (qanv h)
theorem qakh : ∀ {h : Hp} {id : Nat}, id ∈ idsH h → geth h id ≠ none
 | [], id, h => by cases h
 | (i, x) :: r, id, h => by
  by_cases e : i = id
  ·subst e; simp [geth]
  ·simp only [geth, if_neg e]
   simp only [idsH, List.map_cons, List.mem_cons] at h
   exact qakh (h.resolve_left (Ne.symm e))
def Stp (X : Cx) (ops : Array Oper) (o : Oper) (so : SOper) (s s' : SSt) (x : Tch) : Prop :=
 s.nx ≤ s'.nx ∧ ∃ e : Eff, e.dst = so.dst ∧ e.wr = x.wr ∧ e.at s s' ∧ Loc X ops o so.reads x.rd s.nx s'.nx s e
theorem qas1 {ops : Array Oper} {o : Oper} {b : Nat} {so : SOper} (hc : qa31 X.P X.N ops o b = some so) (hw : ∀ (t : SSt) ρ fp a w, Sim X ρ fp t a w → (∀ y ∈ so.reads, gets t.sl y = gets s.sl y) → Region.wanted o (yielded ops a.tmps) = false) : Stp X ops o so s (s.skip so) ⟨[], []⟩ := by
 obtain ⟨hdst, hd, _, _, _⟩ := qad3 hc
 refine ⟨Nat.le_refl _, ⟨so.dst, .tup [], [], fun _ => none⟩, rfl, rfl, ⟨fun x => qad2 _ _ _ _, fun id => by simp [SSt.skip]⟩, ?_⟩
 intro t ρ fp a w h hr _ _ K R hK
 rw [hw t ρ fp a w h hr]
 simp only [Bool.false_eq_true, if_false]
 refine hK ⟨putd t.sl so.dst (.tup []), t.hp, t.nx⟩ ρ fp _ _ ⟨fun x => qad2 _ _ _ _, fun id => by simp⟩ ?_ (fun id hid => .inl hid)
 have := h.put (nx' := t.nx) h.h (.refl _ _ _) (RepV.tup (cs := []) (vs := []) rfl (by simp)) (dst := so.dst) (by rw [hdst]; exact hd)
 rw [hdst] at this ⊢
 exact this
theorem qa16 {ops : Array Oper} {o : Oper} {b : Nat} {so : SOper} (hc : qa31 X.P X.N ops o b = some so) (hle : X.m ≤ s.nx) {K : SSt → Tch → Prop} (hk : SOp1 X.P so s K) (hw : ∀ (t : SSt) ρ fp a w, Sim X ρ fp t a w → (∀ y ∈ so.reads, gets t.sl y = gets s.sl y) → Region.wanted o (yielded ops a.tmps) = true) : ∃ s' x, K s' x ∧ Stp X ops o so s s' x := by
 obtain ⟨hdst, hd, _, _, hop⟩ := qad3 hc
 unfold SOp1 at hk
 rcases hop with ⟨hcal, hop⟩ | ⟨f, args, g, gs, tys, hcal, hop, hf, hargs⟩
 ·rw [hcal] at hk
  simp only at hk
  split at hk
  ·rename_i v u nx' hr
   refine ⟨_, _, hk, Nat.le_succ _, ⟨so.dst, v, u.map (·.1), fun id => qatv u id none⟩, rfl, rfl, ⟨fun x => qad2 _ _ _ _, fun id => ?_⟩, ?_⟩
   ·rw [qafx]
    split
    ·exact qanr ‹_›
    ·exact qanq ‹_›
   ·intro t ρ fp a w h hrd hobj hfr K' R hK
    rw [if_pos (hw t ρ fp a w h hrd)]
    have hsub : ∀ y ∈ qags so.op.sxs, gets s.sl y = gets t.sl y := fun y hy => (hrd y (by simp [SOper.reads, hcal, hy])).symm
    have hev := qan1 hsub
    have hr2 : so.op.run (·.ev t.sl) (geth t.hp) s.nx = some (v, u, nx') := by
     rw [← hr]
     exact (qay7 hev fun id hid => (hobj id (.inl hid)).symm).symm
    obtain ⟨v', w', h1, ρ', fp', h2, h3, h4, h5⟩ := op_ok h.h h.slots hop hle (hfr _ (Nat.le_refl _) (Nat.lt_succ_self _)) hr2
    refine (h1 o rfl).upon (hK ⟨putd t.sl so.dst v, upds t.hp u, t.nx⟩ ρ' fp' _ _ ⟨fun x => qad2 _ _ _ _, fun id => ?_⟩ ?_ (fun id hid => (h5 id hid).imp (fun h => h) fun e => by simp only; omega))
    ·show geth (upds t.hp u) id = _
     rw [qafx]
     split
     ·exact qanr ‹_›
     ·exact qanq ‹_›
    ·have := h.put (nx' := t.nx) h2 h4 h3 (dst := so.dst) (by rw [hdst]; exact hd)
     rw [hdst] at this ⊢; exact this
  ·cases hk
 ·rw [hcal] at hk
  simp only at hk
  split at hk
  ·rename_i g' first cap hfv
   obtain ⟨h1, r, h2, rd, nn, ⟨hent, hcall⟩, hsub, hu, hrd0, hk⟩ := hk
   have mem_ids : ∀ {h : Hp} {id : Nat} {o : SObj}, geth h id = some o → id ∈ idsH h := fun h => qanv h
   have heff : ∀ t : SSt, (∀ id, id ∈ rd ∨ id ∈ (idsH h1 ++ idsH h2).filter (fun i => !rd.contains i) → geth t.hp id = geth s.hp id) → ∀ id, geth (qab7 t.hp h1 h2) id = if id ∈ (idsH h1 ++ idsH h2).filter (fun i => !rd.contains i) then geth h2 id else geth t.hp id := by
    intro t ht id
    rw [qaez hu]
    by_cases hin : id ∈ (idsH h1 ++ idsH h2).filter (fun i => !rd.contains i)
    ·rw [if_pos hin]
     cases e : geth h2 id with
     | some o => rfl
     | none =>
      simp only
      split
      ·rfl
      ·rename_i h3
       have h3' : geth h1 id = none := by simpa using h3
       rw [List.mem_filter, List.mem_append] at hin
       exfalso
       rcases hin.1 with h4 | h4
       ·exact qakh h4 h3'
       ·exact qakh h4 e
    ·rw [if_neg hin]
     by_cases hr : id ∈ rd
     ·rw [hrd0 id hr]
      cases e : geth h1 id with
      | none => simp
      | some o =>
       simp only
       rw [ht id (.inl hr), hsub.get id o e]
     ·have hni : id ∉ idsH h1 ++ idsH h2 := fun h3 => hin (List.mem_filter.2 ⟨h3, by simpa using hr⟩)
      rw [List.mem_append, not_or] at hni
      have n1 : geth h1 id = none := by
       cases e : geth h1 id with
       | none => rfl
       | some o => exact absurd (mem_ids e) hni.1
      have n2 : geth h2 id = none := by
       cases e : geth h2 id with
       | none => rfl
       | some o => exact absurd (mem_ids e) hni.2
      rw [n1, n2]; simp
   refine ⟨_, _, hk, by simp only; omega, ⟨so.dst, r, (idsH h1 ++ idsH h2).filter (fun i => !rd.contains i), geth h2⟩, rfl, rfl, ⟨fun x => qad2 _ _ _ _, heff s fun _ _ => rfl⟩, ?_⟩
   intro t ρ fp a w h hrd hobj hfr K' R hK
   rw [if_pos (hw t ρ fp a w h hrd)]
   have hsubt : ∀ y ∈ qags (f :: args), gets s.sl y = gets t.sl y := fun y hy => (hrd y (by simp [SOper.reads, hcal, hy])).symm
   have hev := qan1 hsubt
   have hfv2 : f.ev t.sl = .fn (.func g') first cap := by rw [← hev f (by simp)]; exact hfv
   have hargs2 : args.map (·.ev t.sl) = args.map (·.ev s.sl) := List.map_congr_left fun x hx => (hev x (by simp [hx])).symm
   have hsub' : ∀ id o, geth h1 id = some o → geth t.hp id = some o := fun id o ho => by
    rw [hobj id ?_]
    ·exact hsub.get id o ho
    ·by_cases hr : id ∈ rd
     ·exact .inl hr
     ·exact .inr (List.mem_filter.2 ⟨List.mem_append_left _ (mem_ids ho), by simpa using hr⟩)
   have rf := qab8 hf h.slots
   rw [hfv2] at rf
   have rargs := qah4 hargs h.slots
   rw [hargs2] at rargs
   generalize hgv : a.eval g = gv at rf
   cases rf with
   | fn l1 l2 r1 r2 =>
    rename_i vs us
    have hav : ∀ k, (Rest X fp t.hp h1 k ∨ Live h1 fp k) → Av X t.hp fp k := fun k hk => (Rest.av hsub' k).1 hk
    have hreps : Reps w (fun k => Rest X fp t.hp h1 k ∨ Live h1 fp k) ρ (first ++ args.map (·.ev s.sl) ++ cap) (vs ++ gs.toList.map a.eval ++ us) :=
     ((Reps.append (Reps.append ⟨l1, r1⟩ rargs) ⟨l2, r2⟩)).weaken fun k hk _ => hav k hk
    have := hcall (Rest X fp t.hp h1) ρ fp w _ (h.h.part hsub') hreps hfr
    have hrun : (execOp a.eval o).run X.P w = .ok (.enter g' (vs ++ gs.toList.map a.eval ++ us).toArray) w := by
     have e1 : (vs.toArray ++ gs.map a.eval ++ us.toArray) = (vs ++ gs.toList.map a.eval ++ us).toArray := by apply Array.ext'; simp
     simp only [execOp, hop, resolve, hgv, Deferred.ofValue, Sem.run_bind, Sem.run_pure, Result.andThen_ok, invoke, e1]
     exact hent _ _
    unfold Oper.wp
    rw [hrun, Oper.upon_enter]
    refine this.mono ?_
    rintro e w' ⟨v, ρ', fp', rfl, q1, q2, q3, q4, q5, q6⟩
    obtain ⟨p1, p2, p3⟩ := h.h.called hsub' hu (q := s.nx) hle q1 q3 q4 q5 q6
    refine hK ⟨putd t.sl so.dst r, qab7 t.hp h1 h2, t.nx⟩ ρ' (fun id k => (geth h2 id ≠ none ∧ fp' id k) ∨ (geth h2 id = none ∧ fp id k)) _ _ ⟨fun x => qad2 _ _ _ _, heff t hobj⟩ ?_ q5
    have := h.put (nx' := t.nx) p1 p2 (q2.weaken fun k hk _ => p3 k hk) (dst := so.dst) (by rw [hdst]; exact hd)
    rw [hdst] at this ⊢; exact this
  ·cases hk
end Go.Proofs.Yticeaegpkpjjeaa
namespace Go.Proofs.Yticeaegpkpjjeaa
set_option linter.all false
open Go.RowKit
def clash (a b : SOper × Tch) : Bool :=
 (match a.1.dst with | some d => b.1.reads.contains d || b.1.dst == some d | none => false) || (match b.1.dst with | some d => a.1.reads.contains d | none => false) ||
  a.2.wr.any (fun i => b.2.rd.contains i || b.2.wr.contains i) || b.2.wr.any fun i => a.2.rd.contains i
def qatl (l : List (SOper × Tch)) : Bool :=
 (List.range l.length).all fun j => (List.range j).all fun i => match l[i]?, l[j]? with
  | some a, some b => !clash a b || b.1.bef.testBit i
  | _, _ => true
theorem qaoj {l : List (SOper × Tch)} (h : qatl l = true) {i j : Nat} {a b : SOper × Tch} (hij : i < j) (ha : l[i]? = some a) (hb : l[j]? = some b) (hc : clash a b = true) : b.1.bef.testBit i = true := by
 have hj : j < l.length := (List.getElem?_eq_some_iff.1 hb).1
 have h1 := List.all_eq_true.1 (List.all_eq_true.1 h j (List.mem_range.2 hj)) i (List.mem_range.2 hij)
 simpa [ha, hb, hc] using h1
def befG (acc : Array Nat) (o : Oper) : Nat := o.after.foldl (fun s e => if Region.binds .any e then s ||| 2 ^ e.on ||| acc.getD e.on 0 else s) 0
theorem qa1o (acc : Array Nat) (o : Oper) (i : Nat) (h : (befG acc o).testBit i = true) : ∃ e ∈ o.after.toList, Region.binds .any e = true ∧ (e.on = i ∨ (acc.getD e.on 0).testBit i = true) := by
 unfold befG at h
 rw [← Array.foldl_toList] at h
 have gen : ∀ (l : List Edge) (s : Nat), (l.foldl (fun s e => if Region.binds .any e then s ||| 2 ^ e.on ||| acc.getD e.on 0 else s) s).testBit i = true → s.testBit i = true ∨ ∃ e ∈ l, Region.binds .any e = true ∧ (e.on = i ∨ (acc.getD e.on 0).testBit i = true) := by
  intro l
  induction l with
  | nil => intro s h; exact .inl h
  | cons e l ih =>
   intro s h
   rw [List.foldl_cons] at h
   rcases ih _ h with h1 | ⟨e', h1, h2⟩
   ·split at h1
    ·rename_i hb
     rw [Nat.testBit_or, Nat.testBit_or, Bool.or_eq_true, Bool.or_eq_true] at h1
     rcases h1 with (h1 | h1) | h1
     ·exact .inl h1
     ·rw [Nat.testBit_two_pow] at h1
      exact .inr ⟨e, by simp, hb, .inl (by simpa using h1)⟩
     ·exact .inr ⟨e, by simp, hb, .inr h1⟩
    ·exact .inl h1
   ·exact .inr ⟨e', by simp [h1], h2⟩
 rcases gen _ _ h with h1 | h1
 ·simp at h1
 ·exact h1
theorem qash (ops : Array Oper) : (Region.before ops).size = ops.size ∧ ∀ (j : Nat) o, ops[j]? = some o → ∀ i, ((Region.before ops).getD j 0).testBit i = true → ∃ e ∈ o.after.toList, Region.binds .any e = true ∧ (e.on = i ∨ ((Region.before ops).getD e.on 0).testBit i = true) := by
 unfold Region.before
 rw [← Array.foldl_toList]
 have gen : ∀ (l done : List Oper) (acc : Array Nat), acc.size = done.length → (∀ (j : Nat) o, done[j]? = some o → ∀ i, (acc.getD j 0).testBit i = true → ∃ e ∈ o.after.toList, Region.binds .any e = true ∧ (e.on = i ∨ (acc.getD e.on 0).testBit i = true)) →
   (l.foldl (fun acc o => acc.push (befG acc o)) acc).size = (done ++ l).length ∧ ∀ (j : Nat) o, (done ++ l)[j]? = some o → ∀ i, ((l.foldl (fun acc o => acc.push (befG acc o)) acc).getD j 0).testBit i = true → ∃ e ∈ o.after.toList, Region.binds .any e = true ∧ (e.on = i ∨ ((l.foldl (fun acc o => acc.push (befG acc o)) acc).getD e.on 0).testBit i = true) := by
  intro l
  induction l with
  | nil => intro done acc h1 h2; rw [List.append_nil]; exact ⟨h1, h2⟩
  | cons o l ih =>
   intro done acc h1 h2
   have up : ∀ k i, (acc.getD k 0).testBit i = true → ((acc.push (befG acc o)).getD k 0).testBit i = true := fun k i h => by
    rw [Array.getD_eq_getD_getElem?] at h ⊢
    cases e : acc[k]? with
    | none => rw [e] at h; simp at h
    | some x =>
     have hk : k < acc.size := (Array.getElem?_eq_some_iff.1 e).1
     rw [Array.getElem?_push, if_neg (by omega), e]
     rw [e] at h; exact h
   have := ih (done ++ [o]) (acc.push (befG acc o)) (by simp [h1]) (fun j o' hj i hi => by
    by_cases hjd : j < done.length
    ·rw [List.getElem?_append_left hjd] at hj
     rw [Array.getD_eq_getD_getElem?, Array.getElem?_push, if_neg (by omega), ← Array.getD_eq_getD_getElem?] at hi
     obtain ⟨e, q1, q2, q3⟩ := h2 j o' hj i hi
     exact ⟨e, q1, q2, q3.imp (fun h => h) (up _ _)⟩
    ·rw [List.getElem?_append_right (by omega)] at hj
     have hj0 : j = done.length := by have := (List.getElem?_eq_some_iff.1 hj).1; simp at this; omega
     subst hj0
     simp at hj
     subst hj
     rw [Array.getD_eq_getD_getElem?, Array.getElem?_push, if_pos h1.symm] at hi
     obtain ⟨e, q1, q2, q3⟩ := qa1o acc o i hi
     exact ⟨e, q1, q2, q3.imp (fun h => h) (up _ _)⟩)
   rw [List.append_assoc] at this
   exact this
 have := gen ops.toList [] #[] rfl (fun j o h => by simp at h)
 refine ⟨by have h := this.1; rw [List.nil_append, Array.length_toList] at h; exact h, fun j o hj => this.2 j o (by simpa using hj)⟩
theorem qag9 : ∀ {l : List Oper} {k : Nat}, qaz6 k l = true → ∀ (j : Nat) o, l[j]? = some o → ∀ e ∈ o.after.toList, Region.binds .any e = true → e.on < k + j
 | [], k, _, j, o, ho, _, _, _ => by simp at ho
 | o :: l, k, h, j, o', ho, e, he, hb => by
  simp only [qaz6, Bool.and_eq_true] at h
  cases j with
  | zero =>
   simp at ho; subst ho
   have := List.all_eq_true.1 h.1 e he
   simpa [hb] using this
  | succ j =>
   have := qag9 h.2 j o' (by simpa using ho) e he hb
   omega
structure Ent where
 o : Oper
 so : SOper
 s : SSt
 s' : SSt
 x : Tch
 e : Eff
variable {X : Cx}
def qa47 (X : Cx) (ops : Array Oper) (t : Ent) : Prop := t.s.nx ≤ t.s'.nx ∧ t.e.dst = t.so.dst ∧ t.e.wr = t.x.wr ∧ t.e.at t.s t.s' ∧ Loc X ops t.o t.so.reads t.x.rd t.s.nx t.s'.nx t.s t.e
def Chain (s : SSt) : List Ent → SSt → Prop
 | [], t => s = t
 | e :: es, t => e.s = s ∧ Chain e.s' es t
theorem qas0 {ops : Array Oper} {Q : SSt → List Tch → Prop} : ∀ (l : List Oper) (bs : List Nat) (sos : List SOper), qafb X.P X.N ops l bs = some sos → ∀ (s : SSt) (tr : List Tch), X.m ≤ s.nx → SOps X.P sos s tr Q →
  ∃ es sN, Chain s es sN ∧ (∀ t ∈ es, qa47 X ops t) ∧ es.map (·.o) = l ∧ es.map (·.so) = sos ∧ Q sN ((es.map (·.x)).reverse ++ tr) := by
 intro l
 induction l with
 | nil =>
  intro bs sos hc s tr hle hk
  simp only [qafb, Option.some.injEq] at hc
  subst hc
  exact ⟨[], s, rfl, by simp, rfl, rfl, hk⟩
 | cons o l ih =>
  intro bs sos hc s tr hle hk
  obtain ⟨so, r, rfl, hso, hr⟩ := qafa hc
  obtain ⟨hdst, hd, hg, _, _⟩ := qad3 hso
  have gd : ∀ (t : SSt) ρ fp a w, Sim X ρ fp t a w → _ := fun t ρ fp a w h => qatw (s := t) hg h
  have join : ∀ s' x, Stp X ops o so s s' x → SOps X.P r s' (x :: tr) Q → ∃ es sN, Chain s es sN ∧ (∀ t ∈ es, qa47 X ops t) ∧ es.map (·.o) = o :: l ∧ es.map (·.so) = so :: r ∧ Q sN ((es.map (·.x)).reverse ++ tr) := by
   rintro s' x ⟨h1, e, h2, h3, h4, h5⟩ hk'
   obtain ⟨es, sN, q1, q2, q3, q4, q5⟩ := ih _ _ hr s' (x :: tr) (Nat.le_trans hle h1) hk'
   refine ⟨⟨o, so, s, s', x, e⟩ :: es, sN, ⟨rfl, q1⟩, fun t ht => ?_, by simp [q3], by simp [q4], by simpa using q5⟩
   rcases List.mem_cons.1 ht with ht | ht
   ·subst ht; exact ⟨h1, h2, h3, h4, h5⟩
   ·exact q2 t ht
  simp only [SOps] at hk
  cases hgr : so.grd with
  | none =>
   rw [hgr] at hk
   obtain ⟨s', x, h1, h2⟩ := qa16 hso hle hk fun t ρ fp a w h _ => (gd t ρ fp a w h).1 hgr
   exact join s' x h2 h1
  | some tw =>
   obtain ⟨t0, want⟩ := tw
   rw [hgr] at hk
   have hin : t0 ∈ so.reads := by simp [SOper.reads, hgr]
   simp only at hk
   split at hk
   ·rename_i b hb
    by_cases hbw : b = want
    ·obtain ⟨s', x, h1, h2⟩ := qa16 hso hle (hk.1 hbw) fun t ρ fp a w h hrd => by
      rw [((gd t ρ fp a w h).2 t0 want hgr).1 b (by rw [hrd t0 hin]; exact hb)]; simpa using hbw
     exact join s' x h2 h1
    ·exact join _ _ (qas1 hso fun t ρ fp a w h hrd => by
      rw [((gd t ρ fp a w h).2 t0 want hgr).1 b (by rw [hrd t0 hin]; exact hb)]; simpa using hbw) (hk.2 hbw)
   ·rename_i hb
    exact join _ _ (qas1 hso fun t ρ fp a w h hrd => ((gd t ρ fp a w h).2 t0 want hgr).2 (by rw [hrd t0 hin]; exact hb)) hk
   ·cases hk
inductive Rs where
 | sl (t : Nat)
 | ob (id : Nat)
def Ent.W (t : Ent) : Rs → Prop
 | .sl y => t.e.dst = some y
 | .ob id => id ∈ t.e.wr
def Ent.L (t : Ent) : Rs → Prop
 | .sl y => y ∈ t.so.reads ∨ t.e.dst = some y
 | .ob id => id ∈ t.x.rd ∨ id ∈ t.e.wr
def Lw (es : List Ent) (S : Nat → Prop) (r : Rs) : Option Nat → Prop
 | some k => S k ∧ (∃ t, es[k]? = some t ∧ t.W r) ∧ ∀ k', k < k' → S k' → ∀ t, es[k']? = some t → ¬ t.W r
 | none => ∀ k, S k → ∀ t, es[k]? = some t → ¬ t.W r
def Inv (es : List Ent) (s0 : SSt) (S : Nat → Prop) (t : SSt) : Prop :=
 (∀ y, ∃ o, Lw es S (.sl y) o ∧ gets t.sl y = match o with | some k => ((es[k]?).map (·.e.v)).getD .any | none => gets s0.sl y) ∧
 ∀ id, ∃ o, Lw es S (.ob id) o ∧ geth t.hp id = match o with | some k => ((es[k]?).map (·.e.c id)).getD none | none => geth s0.hp id
theorem Ent.W_L {t : Ent} {r : Rs} (h : t.W r) : t.L r := by cases r <;> exact .inr h
theorem Lw.uniq {es : List Ent} {S : Nat → Prop} {r : Rs} {o o' : Option Nat} (h : Lw es S r o) (h' : Lw es S r o') : o = o' := by
 cases o with
 | none =>
  cases o' with
  | none => rfl
  | some k => obtain ⟨h1, ⟨t, h2, h3⟩, _⟩ := h'; exact absurd h3 (h k h1 t h2)
 | some k =>
  obtain ⟨h1, ⟨t, h2, h3⟩, h4⟩ := h
  cases o' with
  | none => exact absurd h3 (h' k h1 t h2)
  | some k' =>
   obtain ⟨g1, ⟨t', g2, g3⟩, g4⟩ := h'
   rcases Nat.lt_trichotomy k k' with e | e | e
   ·exact absurd g3 (h4 k' e g1 t' g2)
   ·rw [e]
   ·exact absurd h3 (g4 k e h1 t h2)
structure Ord (es : List Ent) (B : Nat → Nat → Prop) : Prop where
 ord : ∀ i j a b r, i < j → es[i]? = some a → es[j]? = some b → (a.W r ∧ b.L r) ∨ (a.L r ∧ b.W r) → B j i
theorem Lw.agree {es : List Ent} {B : Nat → Nat → Prop} (hB : Ord es B) {S : Nat → Prop} (hcl : ∀ j i, S j → B j i → S i) {j : Nat} {t : Ent} (hj : es[j]? = some t) (hnj : ¬ S j) (hdep : ∀ i, B j i → S i) {r : Rs} (hl : t.L r) {o o' : Option Nat} (h : Lw es S r o) (h' : Lw es (· < j) r o') : o = o' := by
 have lt_of : ∀ k u, S k → es[k]? = some u → u.W r → k < j := fun k u hk hu hw => by
  rcases Nat.lt_trichotomy k j with e | e | e
  ·exact e
  ·rw [e] at hk; exact absurd hk hnj
  ·exact absurd (hcl k j hk (hB.ord j k t u r e hj hu (.inr ⟨hl, hw⟩))) hnj
 have in_of : ∀ k u, k < j → es[k]? = some u → u.W r → S k := fun k u hk hu hw => hdep k (hB.ord k j u t r hk hu hj (.inl ⟨hw, hl⟩))
 have h2 : Lw es (· < j) r o := by
  cases o with
  | none => exact fun k hk u hu hw => h k (in_of k u hk hu hw) u hu hw
  | some k =>
   obtain ⟨h1, ⟨u, h2, h3⟩, h4⟩ := h
   exact ⟨lt_of k u h1 h2 h3, ⟨u, h2, h3⟩, fun k' hk hk' u' hu' hw => h4 k' hk (in_of k' u' hk' hu' hw) u' hu' hw⟩
 exact h2.uniq h'
theorem Lw.add {es : List Ent} {B : Nat → Nat → Prop} (hB : Ord es B) {S : Nat → Prop} (hcl : ∀ j i, S j → B j i → S i) {j : Nat} {t : Ent} (hj : es[j]? = some t) (hnj : ¬ S j) {r : Rs} {o : Option Nat} (h : Lw es S r o) :
  (t.W r → Lw es (fun k => S k ∨ k = j) r (some j)) ∧ (¬ t.W r → Lw es (fun k => S k ∨ k = j) r o) := by
 refine ⟨fun hw => ⟨.inr rfl, ⟨t, hj, hw⟩, fun k' hk hk' u hu hw' => ?_⟩, fun hw => ?_⟩
 ·rcases hk' with hk' | hk'
  ·exact hnj (hcl k' j hk' (hB.ord j k' t u r hk hj hu (.inl ⟨hw, Ent.W_L hw'⟩)))
  ·omega
 ·cases o with
  | none =>
   intro k hk u hu hw'
   rcases hk with hk | hk
   ·exact h k hk u hu hw'
   ·subst hk; rw [hj] at hu; cases hu; exact hw hw'
  | some k =>
   obtain ⟨h1, h2, h4⟩ := h
   refine ⟨.inl h1, h2, fun k' hk hk' u hu hw' => ?_⟩
   rcases hk' with hk' | hk'
   ·exact h4 k' hk hk' u hu hw'
   ·subst hk'; rw [hj] at hu; cases hu; exact hw hw'
theorem Chain.inv {ops : Array Oper} : ∀ {es : List Ent} {s0 sN : SSt}, Chain s0 es sN → (∀ t ∈ es, qa47 X ops t) → ∀ (pre : List Ent) (s00 : SSt), Inv (pre ++ es) s00 (· < pre.length) s0 → (∀ (j : Nat) t, es[j]? = some t → Inv (pre ++ es) s00 (· < pre.length + j) t.s) ∧ Inv (pre ++ es) s00 (· < (pre ++ es).length) sN := by
 intro es
 induction es with
 | nil =>
  intro s0 sN hc _ pre s00 h
  obtain rfl : s0 = sN := hc
  exact ⟨fun j t ht => by simp at ht, by simpa using h⟩
 | cons t es ih =>
  intro s0 sN hc hok pre s00 h
  obtain ⟨rfl, hc⟩ := hc
  obtain ⟨_, _, _, hat, _⟩ := hok t (by simp)
  have hget : (pre ++ t :: es)[pre.length]? = some t := by simp
  have hnext : Inv (pre ++ t :: es) s00 (· < pre.length + 1) t.s' := by
   have hstep : ∀ r o, Lw (pre ++ t :: es) (· < pre.length) r o → (t.W r → Lw (pre ++ t :: es) (· < pre.length + 1) r (some pre.length)) ∧ (¬ t.W r → Lw (pre ++ t :: es) (· < pre.length + 1) r o) := fun r o ho => by
    refine ⟨fun hw => ⟨Nat.lt_succ_self _, ⟨t, hget, hw⟩, fun k' h1 h2 => by omega⟩, fun hw => ?_⟩
    cases o with
    | none =>
     intro k hk u hu hw'
     rcases Nat.lt_or_ge k pre.length with e | e
     ·exact ho k e u hu hw'
     ·obtain rfl : k = pre.length := by have hk' : k < pre.length + 1 := hk; omega
      rw [hget] at hu; cases hu; exact hw hw'
    | some k =>
     obtain ⟨h1, h2, h4⟩ := ho
     refine ⟨Nat.lt_succ_of_lt h1, h2, fun k' hk hk' u hu hw' => ?_⟩
     rcases Nat.lt_or_ge k' pre.length with e | e
     ·exact h4 k' hk e u hu hw'
     ·obtain rfl : k' = pre.length := by have hk2 : k' < pre.length + 1 := hk'; omega
      rw [hget] at hu; cases hu; exact hw hw'
   refine ⟨fun y => ?_, fun id => ?_⟩
   ·obtain ⟨o, ho, hv⟩ := h.1 y
    obtain ⟨q1, q2⟩ := hstep (.sl y) o ho
    rw [hat.1 y]
    by_cases hw : t.e.dst = some y
    ·exact ⟨some pre.length, q1 hw, by rw [if_pos hw]; simp only [hget]; rfl⟩
    ·exact ⟨o, q2 hw, by rw [if_neg hw]; exact hv⟩
   ·obtain ⟨o, ho, hv⟩ := h.2 id
    obtain ⟨q1, q2⟩ := hstep (.ob id) o ho
    rw [hat.2 id]
    by_cases hw : id ∈ t.e.wr
    ·exact ⟨some pre.length, q1 hw, by rw [if_pos hw]; simp only [hget]; rfl⟩
    ·exact ⟨o, q2 hw, by rw [if_neg hw]; exact hv⟩
  have hre : pre ++ t :: es = (pre ++ [t]) ++ es := by simp
  rw [hre] at hnext h ⊢
  obtain ⟨r1, r2⟩ := ih hc (fun u hu => hok u (by simp [hu])) (pre ++ [t]) s00 (by simpa using hnext)
  refine ⟨fun j u hu => ?_, r2⟩
  cases j with
  | zero => simp at hu; subst hu; simpa using h
  | succ j =>
   have := r1 j u (by simpa using hu)
   rw [List.length_append, List.length_singleton] at this
   rw [show pre.length + (j + 1) = pre.length + 1 + j by omega]
   exact this
end Go.Proofs.Yticeaegpkpjjeaa
namespace Go.Proofs.Yticeaegpkpjjeaa
set_option linter.all false
open Go.RowKit
variable {X : Cx}
theorem qag8 {p q : Nat → Bool} : ∀ (l : List Nat) (i : Nat), i ∈ l → p i = true → q i = false → (∀ k, q k = true → p k = true) → (l.filter q).length < (l.filter p).length
 | [], i, h, _, _, _ => by cases h
 | x :: l, i, h, hp, hq, hpq => by
  have mono : ∀ l : List Nat, (l.filter q).length ≤ (l.filter p).length := fun l => by
   induction l with
   | nil => exact Nat.le_refl _
   | cons y l ih =>
    simp only [List.filter_cons]
    cases hy : q y with
    | true => rw [hpq y hy]; simp; exact ih
    | false => cases hy' : p y <;> simp <;> omega
  simp only [List.filter_cons]
  by_cases e : x = i
  ·subst e
   rw [hp, hq]
   have := mono l
   simp; omega
  ·have := qag8 l i ((List.mem_cons.1 h).resolve_left (Ne.symm e)) hp hq hpq
   cases hy : q x with
   | true => rw [hpq x hy]; simp; exact this
   | false => cases hy' : p x <;> simp <;> omega
theorem Sim.congr {ρ : qach} {fp : Nat → Nat → Prop} {s t : SSt} {a : Act} {w : World} (h : Sim X ρ fp s a w) (h1 : ∀ y, gets t.sl y = gets s.sl y) (h2 : ∀ id, geth t.hp id = geth s.hp id) : Sim X ρ fp t a w := by
 have hL : Live t.hp fp = Live s.hp fp := by funext k; unfold Live; simp only [h2]
 have hA : Av X t.hp fp = Av X s.hp fp := by funext k; unfold Av; rw [hL]
 refine ⟨⟨fun id o ho => ?_, fun id id' o o' hne ho ho' => ?_, fun id o ho => ?_, h.h.step, h.h.keep⟩, h.tmps, h.defers, fun y => ?_⟩
 ·rw [hA]; exact h.h.objs id o (by rw [← h2]; exact ho)
 ·exact h.h.disj id id' o o' hne (by rw [← h2]; exact ho) (by rw [← h2]; exact ho')
 ·exact h.h.turn id o (by rw [← h2]; exact ho)
 ·rw [hA, h1]; exact h.slots y
theorem SimH.drew {ρ : qach} {fp : Nat → Nat → Prop} {hp : Hp} {w : World} (h : SimH X ρ fp hp w) : SimH X ρ fp hp { w with drawn := w.drawn + 1 } ∧ Pres w (Av X hp fp) ρ { w with drawn := w.drawn + 1 } (Av X hp fp) ρ := by
 have hst : Step (fun _ => False) w { w with drawn := w.drawn + 1 } := ⟨rfl, rfl, rfl, Nat.le_refl _, fun _ _ _ => rfl⟩
 exact h.change (hp' := hp) (fun _ => False) (fun _ => False) hst (fun _ h => h.elim) (fun id o ho _ => ⟨ho, fun h => h, rfl⟩) (fun _ _ h => h) (fun _ _ => rfl) (fun _ _ h => h.elim) (fun _ _ _ _ h => h.elim) (fun _ _ _ h => h.elim)
theorem qa34 {a b : Ent} (ha : a.e.dst = a.so.dst) (ha2 : a.e.wr = a.x.wr) (hb : b.e.dst = b.so.dst) (hb2 : b.e.wr = b.x.wr) {r : Rs} (h : (a.W r ∧ b.L r) ∨ (a.L r ∧ b.W r)) : clash (a.so, a.x) (b.so, b.x) = true := by
 unfold clash
 simp only [Bool.or_eq_true]
 cases r with
 | sl y =>
  simp only [Ent.W, Ent.L] at h
  rw [ha, hb] at h
  rcases h with ⟨h1, h2 | h2⟩ | ⟨h2 | h2, h1⟩
  ·exact .inl (.inl (.inl (by rw [h1]; simp [h2])))
  ·exact .inl (.inl (.inl (by rw [h1]; simp [h2])))
  ·exact .inl (.inl (.inr (by rw [h1]; simp [h2])))
  ·exact .inl (.inl (.inl (by rw [h2]; simp [h1])))
 | ob id =>
  simp only [Ent.W, Ent.L] at h
  rw [ha2, hb2] at h
  rcases h with ⟨h1, h2 | h2⟩ | ⟨h2 | h2, h1⟩
  ·exact .inl (.inr (List.any_eq_true.2 ⟨id, h1, by simp [h2]⟩))
  ·exact .inl (.inr (List.any_eq_true.2 ⟨id, h1, by simp [h2]⟩))
  ·exact .inr (List.any_eq_true.2 ⟨id, h1, by simp [h2]⟩)
  ·exact .inl (.inr (List.any_eq_true.2 ⟨id, h2, by simp [h1]⟩))
theorem qanm {α β : Type} {f : α → β} {es : List α} {l : List β} (h : es.map f = l) {j : Nat} {t : α} (ht : es[j]? = some t) : l[j]? = some (f t) := by rw [← h]; simp [ht]
theorem qaiu {P : Program} {N : Nat} {ops : Array Oper} : ∀ (l : List Oper) (bs : List Nat) (sos : List SOper), qafb P N ops l bs = some sos → ∀ (j : Nat) so, sos[j]? = some so → so.bef = (bs.drop j).headD 0
 | [], bs, sos, h, j, so, hj => by simp only [qafb, Option.some.injEq] at h; subst h; simp at hj
 | o :: l, bs, sos, h, j, so, hj => by
  obtain ⟨so0, r, rfl, h1, h2⟩ := qafa h
  cases j with
  | zero => simp at hj; subst hj; rw [List.drop_zero]; exact (qad3 h1).2.2.2.1
  | succ j =>
   have := qaiu l bs.tail r h2 j so (by simpa using hj)
   rw [this]; cases bs <;> simp
theorem qa2x {ops : Array Oper} (hed : qat8 ops = true) {sos : List SOper} (hc : qafb X.P X.N ops ops.toList (Region.before ops).toList = some sos) {Q : SSt → Prop} {R : Exit → Act → World → Prop} (hQ : ∀ s ρ fp a w, Q s → SimF X ρ fp s a w → R .normal a w)
  {s : SSt} {ρ : qach} {fp : Nat → Nat → Prop} {a : Act} {w : World} (hk : SOps X.P sos s [] fun s' tr => qatl (sos.zip tr.reverse) = true ∧ Q s') (h : SimF X ρ fp s a w) : wpAny X.P .any ops R ops.size (Array.replicate ops.size false) a { w with drawn := w.drawn + 1 } := by
 obtain ⟨es, sN, hch, hok, ho, hso, hok2, hq⟩ := qas0 _ _ _ hc s [] h.le hk
 simp only [List.append_nil, List.reverse_reverse] at hok2
 have hlen : es.length = ops.size := by have := congrArg List.length ho; simpa using this
 have hzip : sos.zip (es.map (·.x)) = es.map fun t => (t.so, t.x) := by
  rw [← hso]
  clear hok2 ho hso hch hok hlen hq hc hk
  induction es with
  | nil => rfl
  | cons t es ih => simp [ih]
 rw [hzip] at hok2
 let B : Nat → Nat → Prop := fun j i => ((Region.before ops).getD j 0).testBit i = true
 have hbef : ∀ (j : Nat) t, es[j]? = some t → t.so.bef = (Region.before ops).getD j 0 := fun j t ht => by
  rw [qaiu _ _ _ hc j t.so (qanm hso ht)]
  rw [List.headD_eq_head?_getD, List.head?_drop, Array.getD_eq_getD_getElem?]; simp
 have hord : Ord es B := ⟨fun i j x y r hij hx hy hcl => by
  have ox := hok x (List.mem_of_getElem? hx)
  have oy := hok y (List.mem_of_getElem? hy)
  have := qaoj hok2 hij (qanm rfl hx) (qanm rfl hy) (qa34 ox.2.1 ox.2.2.1 oy.2.1 oy.2.2.1 hcl)
  show ((Region.before ops).getD j 0).testBit i = true
  rw [← hbef j y hy]; exact this⟩
 have hinv0 : Inv es s (fun _ => False) s := ⟨fun y => ⟨none, fun _ h => h.elim, rfl⟩, fun id => ⟨none, fun _ h => h.elim, rfl⟩⟩
 have hinv00 : Inv ([] ++ es) s (· < ([] : List Ent).length) s := by
  have e : (fun k => k < ([] : List Ent).length) = fun _ => False := by funext k; simp
  rw [e]; exact hinv0
 obtain ⟨hst, hfin⟩ := hch.inv hok [] s hinv00
 simp only [List.nil_append, List.length_nil, Nat.zero_add] at hst hfin
 have hnx : ∀ (j : Nat) t, es[j]? = some t → s.nx ≤ t.s.nx ∧ t.s'.nx ≤ sN.nx := by
  have gen : ∀ (es : List Ent) (s sN : SSt), Chain s es sN → (∀ t ∈ es, qa47 X ops t) → s.nx ≤ sN.nx ∧ ∀ (j : Nat) t, es[j]? = some t → s.nx ≤ t.s.nx ∧ t.s'.nx ≤ sN.nx := by
   intro es
   induction es with
   | nil => intro s sN hc _; obtain rfl : s = sN := hc; exact ⟨Nat.le_refl _, fun j t ht => by simp at ht⟩
   | cons u es ih =>
    intro s sN hc ho
    obtain ⟨rfl, hc⟩ := hc
    have hu := (ho u (by simp)).1
    obtain ⟨h1, h2⟩ := ih _ _ hc fun t ht => ho t (by simp [ht])
    refine ⟨by omega, fun j t ht => ?_⟩
    cases j with
    | zero => simp at ht; subst ht; exact ⟨Nat.le_refl _, h1⟩
    | succ j => have := h2 j t (by simpa using ht); omega
  exact (gen es s sN hch hok).2
 have hle : s.nx ≤ sN.nx := by
  have gen : ∀ (es : List Ent) (s sN : SSt), Chain s es sN → (∀ t ∈ es, qa47 X ops t) → s.nx ≤ sN.nx := by
   intro es
   induction es with
   | nil => intro s sN hc _; obtain rfl : s = sN := hc; exact Nat.le_refl _
   | cons u es ih =>
    intro s sN hc ho
    obtain ⟨rfl, hc⟩ := hc
    have hu := (ho u (by simp)).1
    have := ih _ _ hc fun t ht => ho t (by simp [ht])
    omega
  exact gen es s sN hch hok
 have hapart : ∀ (i j : Nat) t u, es[i]? = some t → es[j]? = some u → i < j → t.s'.nx ≤ u.s.nx := by
  have gen : ∀ (es : List Ent) (s sN : SSt), Chain s es sN → (∀ t ∈ es, qa47 X ops t) → (∀ (j : Nat) u, es[j]? = some u → s.nx ≤ u.s.nx) ∧ ∀ (i j : Nat) t u, es[i]? = some t → es[j]? = some u → i < j → t.s'.nx ≤ u.s.nx := by
   intro es
   induction es with
   | nil => intro s sN hc _; exact ⟨fun j t ht => by simp at ht, fun i j t u ht => by simp at ht⟩
   | cons v es ih =>
    intro s sN hc ho
    obtain ⟨rfl, hc⟩ := hc
    have hv := (ho v (by simp)).1
    obtain ⟨h1, h2⟩ := ih _ _ hc fun t ht => ho t (by simp [ht])
    refine ⟨fun j u hu => ?_, fun i j t u ht hu hij => ?_⟩
    ·cases j with
     | zero => simp at hu; subst hu; exact Nat.le_refl _
     | succ j => have := h1 j u (by simpa using hu); omega
    ·cases j with
     | zero => omega
     | succ j =>
      cases i with
      | zero => simp at ht; subst ht; exact h1 j u (by simpa using hu)
      | succ i => exact h2 i j t u (by simpa using ht) (by simpa using hu) (by omega)
  exact (gen es s sN hch hok).2
 have main : ∀ (fuel : Nat) (listed : Array Bool) (t : SSt) (ρ : qach) (fp : Nat → Nat → Prop) (a : Act) (w : World), listed.size = ops.size → ((List.range ops.size).filter fun i => !listed.getD i true).length ≤ fuel →
   (∀ j i, listed.getD j false = true → B j i → listed.getD i false = true) → Inv es s (fun i => listed.getD i false = true) t → Sim X ρ fp t a w → (∀ id, ρ id ≠ none → id < s.nx ∨ ∃ (i : Nat) (u : Ent), listed.getD i false = true ∧ es[i]? = some u ∧ u.s.nx ≤ id ∧ id < u.s'.nx) →
   wpAny X.P .any ops R fuel listed a w := by
  intro fuel
  induction fuel with
  | zero =>
   intro listed t ρ fp a w hsz hcnt hcl hinv hsim hρ
   have hall : ∀ i, i < ops.size → listed.getD i true = true := fun i hi => by
    cases e : listed.getD i true with
    | true => rfl
    | false =>
     have : i ∈ (List.range ops.size).filter fun i => !listed.getD i true := List.mem_filter.2 ⟨List.mem_range.2 hi, by simp [e]⟩
     have h0 := List.length_pos_of_mem this
     omega
   refine ⟨?_, ?_⟩
   ·cases hr : Region.ready .any ops listed with
    | nil => rfl
    | cons i r =>
     have hi : i ∈ Region.ready .any ops listed := by rw [hr]; simp
     obtain ⟨h1, o, h2, _⟩ := mem_ready.1 hi
     have := hall i (Array.getElem?_eq_some_iff.1 h2).1
     rw [h1] at this; cases this
   ·exact (by
     have hS : (fun i => listed.getD i false = true) = fun i => i < es.length := by
      funext i
      apply propext
      constructor
      ·intro hi
       rw [hlen, ← hsz]
       rcases Nat.lt_or_ge i listed.size with h | h
       ·exact h
       ·simp [Array.getElem?_eq_none h] at hi
      ·intro hi
       have h1 := hall i (by omega)
       have h2 : i < listed.size := by omega
       simp [h2] at h1 ⊢; exact h1
     rw [hS] at hinv
     have hsimN : Sim X ρ fp sN a w := hsim.congr (fun y => by
      obtain ⟨o, q1, q2⟩ := hinv.1 y
      obtain ⟨o', q3, q4⟩ := hfin.1 y
      rw [q1.uniq q3] at q2
      rw [q2, q4]) (fun id => by
      obtain ⟨o, q1, q2⟩ := hinv.2 id
      obtain ⟨o', q3, q4⟩ := hfin.2 id
      rw [q1.uniq q3] at q2
      rw [q2, q4])
     exact hQ sN ρ fp a w hq ⟨hsimN, fun id hid => by
      cases e : ρ id with
      | none => rfl
      | some p =>
       rcases hρ id (by rw [e]; simp) with h5 | ⟨i, u, _, h6, h7, h8⟩
       ·omega
       ·have := (hnx i u h6).2; omega, Nat.le_trans h.le hle⟩)
  | succ fuel ih =>
   intro listed t ρ fp a w hsz hcnt hcl hinv hsim hρ
   refine ⟨fun hr => ?_, fun j hj => ?_⟩
   ·-- nothing is ready: all has been done
    have hall : ∀ i, i < ops.size → listed.getD i true = true := fun i => by
     induction i using Nat.strongRecOn with
     | ind i ihi =>
      intro hi
      cases e : listed.getD i true with
      | true => rfl
      | false =>
       have : i ∈ Region.ready .any ops listed := mem_ready.2 ⟨e, ops[i], Array.getElem?_eq_getElem hi, fun ed hed1 hed2 => by
        have hlt := qag9 hed i ops[i] (by simp [hi]) ed (by simpa using hed1) hed2
        have h1 := ihi ed.on (by omega) (by omega)
        have h2 : ed.on < listed.size := by omega
        simp [h2] at h1 ⊢; exact h1⟩
       rw [hr] at this; cases this
    have hz : ((List.range ops.size).filter fun i => !listed.getD i true).length ≤ 0 := by
     rw [List.filter_eq_nil_iff.2 fun i hi => by rw [hall i (List.mem_range.1 hi)]; simp]; simp
    have hS : (fun i => listed.getD i false = true) = fun i => i < es.length := by
     funext i
     apply propext
     constructor
     ·intro hi
      rw [hlen, ← hsz]
      rcases Nat.lt_or_ge i listed.size with h | h
      ·exact h
      ·simp [Array.getElem?_eq_none h] at hi
     ·intro hi
      have h1 := hall i (by omega)
      have h2 : i < listed.size := by omega
      simp [h2] at h1 ⊢; exact h1
    rw [hS] at hinv
    have hsimN : Sim X ρ fp sN a w := hsim.congr (fun y => by
     obtain ⟨o, q1, q2⟩ := hinv.1 y
     obtain ⟨o', q3, q4⟩ := hfin.1 y
     rw [q1.uniq q3] at q2
     rw [q2, q4]) (fun id => by
     obtain ⟨o, q1, q2⟩ := hinv.2 id
     obtain ⟨o', q3, q4⟩ := hfin.2 id
     rw [q1.uniq q3] at q2
     rw [q2, q4])
    exact hQ sN ρ fp a w hq ⟨hsimN, fun id hid => by
     cases e : ρ id with
     | none => rfl
     | some p =>
      rcases hρ id (by rw [e]; simp) with h5 | ⟨i, u, _, h6, h7, h8⟩
      ·omega
      ·have := (hnx i u h6).2; omega, Nat.le_trans h.le hle⟩
   ·obtain ⟨hun, o, hoj, hdep⟩ := mem_ready.1 hj
    have hjlt : j < ops.size := (Array.getElem?_eq_some_iff.1 hoj).1
    have hnj : ¬ (listed.getD j false = true) := by
     have h2 : j < listed.size := by omega
     simp [h2] at hun ⊢; rw [hun]
    obtain ⟨u, hu⟩ : ∃ u, es[j]? = some u := ⟨_, List.getElem?_eq_getElem (by omega)⟩
    have huo : u.o = o := by
     have := qanm ho hu
     rw [Array.getElem?_toList, hoj] at this
     exact (Option.some.inj this).symm
    obtain ⟨hmono, hd, hwr, hat, hloc⟩ := hok u (List.mem_of_getElem? hu)
    have hdeps : ∀ i, B j i → listed.getD i false = true := fun i hi => by
     obtain ⟨ed, q1, q2, q3⟩ := (qash ops).2 j o hoj i hi
     have h5 := hdep ed (by simpa using q1) q2
     rcases q3 with q3 | q3
     ·rw [← q3]; exact h5
     ·exact hcl _ _ h5 q3
    have hcan := hst j u hu
    unfold wpOp
    rw [hoj]
    simp only
    have hL := hloc t ρ fp a w hsim (fun y hy => by
      obtain ⟨o1, q1, q2⟩ := hinv.1 y
      obtain ⟨o2, q3, q4⟩ := hcan.1 y
      rw [q1.agree hord (fun j i => hcl j i) hu hnj hdeps (show u.L (.sl y) from Or.inl hy) q3] at q2
      rw [q2, q4]) (fun id hid => by
      obtain ⟨o1, q1, q2⟩ := hinv.2 id
      obtain ⟨o2, q3, q4⟩ := hcan.2 id
      rw [q1.agree hord (fun j i => hcl j i) hu hnj hdeps (show u.L (.ob id) from hid) q3] at q2
      rw [q2, q4]) (fun id h5 h6 => by
      cases e : ρ id with
      | none => rfl
      | some p =>
       rcases hρ id (by rw [e]; simp) with h7 | ⟨i, v, h7, h8, h9, h10⟩
       ·have := (hnx j u hu).1; omega
       ·rcases Nat.lt_trichotomy i j with hij | hij | hij
        ·have := hapart i j v u h8 hu hij; omega
        ·subst hij; exact absurd h7 hnj
        ·have := hapart j i u v hu h8 hij; omega) (wpAny X.P .any ops R fuel (listed.setIfInBounds j true)) R (fun t' ρ' fp' a' w' hat' hsim' hρ' => by
      have hS : (fun i => (listed.setIfInBounds j true).getD i false = true) = fun i => listed.getD i false = true ∨ i = j := by
       funext i
       apply propext
       by_cases e : i = j
       ·subst e
        have h2 : i < listed.size := by omega
        simp [h2]
       ·rw [getD_set_ne false (Ne.symm e)]; simp [e]
      refine ih (listed.setIfInBounds j true) t' ρ' fp' a' w' (by simp [hsz]) ?_ (fun k i hk hki => ?_) ?_ hsim' (fun id hid => ?_)
      ·have := qag8 (p := fun i => !listed.getD i true) (q := fun i => !(listed.setIfInBounds j true).getD i true) (List.range ops.size) j (List.mem_range.2 hjlt) (by simp only [hun]; rfl) (by
        have h2 : j < listed.size := by omega
        simp [h2]) (fun k hk => by
        by_cases e : j = k
        ·subst e
         have h2 : j < listed.size := by omega
         simp [h2] at hk
        ·rw [getD_set_ne true e] at hk; exact hk)
       omega
      ·have hk' : listed.getD k false = true ∨ k = j := by have := congrFun hS k; rw [← this]; exact hk
       have hgoal : listed.getD i false = true := by
        rcases hk' with hk' | hk'
        ·exact hcl k i hk' hki
        ·subst hk'; exact hdeps i hki
       have := congrFun hS i
       rw [this]; exact .inl hgoal
      ·rw [hS]
       refine ⟨fun y => ?_, fun id => ?_⟩
       ·obtain ⟨o1, q1, q2⟩ := hinv.1 y
        obtain ⟨r1, r2⟩ := q1.add hord (fun j i => hcl j i) hu hnj
        rw [hat'.1 y]
        by_cases hw : u.e.dst = some y
        ·exact ⟨some j, r1 hw, by rw [if_pos hw]; simp only [hu]; rfl⟩
        ·exact ⟨o1, r2 hw, by rw [if_neg hw]; exact q2⟩
       ·obtain ⟨o1, q1, q2⟩ := hinv.2 id
        obtain ⟨r1, r2⟩ := q1.add hord (fun j i => hcl j i) hu hnj
        rw [hat'.2 id]
        by_cases hw : id ∈ u.e.wr
        ·exact ⟨some j, r1 hw, by rw [if_pos hw]; simp only [hu]; rfl⟩
        ·exact ⟨o1, r2 hw, by rw [if_neg hw]; exact q2⟩
      ·rcases hρ' id hid with h5 | h5
       ·rcases hρ id h5 with h6 | ⟨i, v, h7, h8, h9, h10⟩
        ·exact .inl h6
        ·exact .inr ⟨i, v, by have := congrFun hS i; rw [this]; exact .inl h7, h8, h9, h10⟩
       ·exact .inr ⟨j, u, by have := congrFun hS j; rw [this]; exact .inr rfl, hu, h5.1, h5.2⟩)
    rw [huo] at hL
    split
    ·rename_i hwd
     rw [if_pos hwd] at hL
     exact .inl hL
    ·rename_i hwd
     rw [if_neg hwd] at hL
     exact hL
 obtain ⟨hd1, hd2⟩ := h.sim.h.drew
 refine main ops.size (Array.replicate ops.size false) s ρ fp a _ (by simp) (by have := List.length_filter_le (fun i => !(Array.replicate ops.size false).getD i true) (List.range ops.size); simpa using this) (fun j i hj => ?_) ?_ ⟨hd1, h.sim.tmps, h.sim.defers, fun t => hd2.rep (h.sim.slots t)⟩ (fun id hid => .inl (Nat.lt_of_not_le fun hge => hid (h.fresh id hge)))
 ·exfalso
  by_cases hlt : j < ops.size <;> simp [hlt] at hj
 ·have e : (fun i => (Array.replicate ops.size false).getD i false = true) = fun _ => False := by
   funext i
   by_cases hlt : i < ops.size <;> simp [hlt]
  rw [e]; exact hinv0
theorem qaa8 {s : SSt} {Q : SExit → SSt → Prop} {ops : List SOper} {live : List Nat} (hm : X.P.follows .mixedOrders = true) (h : SOps X.P ops s [] fun s' tr => qatl (ops.zip tr.reverse) = true ∧ Q .normal (s'.keep live)) : SWp X (.reg true ops live) Q s := fun code hc ρ fp a w hs => by
 by_cases hreg : ∃ id o d, code = .region id o d
 ·obtain ⟨id, o, d, rfl⟩ := hreg
  obtain ⟨l, e, h1, h2⟩ := qacn hc
  simp only [SCode.erase, SCode.reg.injEq, and_true] at e
  obtain ⟨rfl, rfl⟩ := e
  refine wp_region_any hm ?_
  refine qa2x (h2.resolve_left (by simp)) (by simpa using h1) (Q := fun s' => Q .normal (s'.keep live)) ?_ h hs
  intro s' ρ' fp' a' w' hq h'
  obtain ⟨ρ2, fp2, h2⟩ := qa1t live ρ' fp' a' w' h'
  exact ⟨_, ρ2, fp2, hq, h2⟩
 ·cases code <;> (try simp only [comp, SCode.erase, Option.bind_eq_bind, Option.bind_eq_some_iff, Option.some.injEq, reduceCtorEq, and_false, exists_false, exists_const] at hc)
  case region => exact absurd ⟨_, _, _, rfl⟩ hreg
end Go.Proofs.Yticeaegpkpjjeaa
namespace Go.Proofs.Yticeaegpkpjjeaa
set_option linter.all false
open Go.RowKit
variable {X : Cx} {s : SSt} {Q : SExit → SSt → Prop} {y : SCode}
theorem qacr : QSeq X y Q .normal s = SWp X y Q s := rfl
theorem qacs {i : Nat} : QSeq X y Q (.exit i) s = Q (.exit i) s := rfl
theorem qaau : QSeq X y Q .ret s = Q .ret s := rfl
theorem qabk {id : Nat} : qana id Q .normal s = Q .normal s := rfl
theorem qaaf {id : Nat} : qana id Q .ret s = Q .ret s := rfl
theorem qabl {id i : Nat} : qana id Q (.exit i) s = if i = id then Q .normal s else Q (.exit i) s := rfl
theorem qab3 {I : SSt → Nat → Prop} {n i : Nat} : QLoop X I n Q (.exit i) s = Q (.exit i) s := rfl
theorem qaai {I : SSt → Nat → Prop} {n : Nat} : QLoop X I n Q .ret s = Q .ret s := rfl
theorem qaav {a b : Int} (h1 : -9223372036854775808 ≤ a + b) (h2 : a + b ≤ 9223372036854775807) : IntKind.i64.wrap (a + b) = a + b := IntWalk.i64_in _ ⟨h1, h2⟩
theorem qab6 (x : SV) : Co x x ↔ True := ⟨fun _ => trivial, fun _ => Co.refl x⟩
theorem qacp {k : IntKind} {a b : Int} (h : a = b) : Co (.int k a) (.int k b) := by rw [h]; exact Co.refl _
theorem qacu {i n m : Nat} (h : n = m) : Co (.own i n) (.own i m) := by rw [h]; exact Co.refl _
theorem qab5 {z : Nat} {xs ys : List (List SV)} (h : xs = ys) : Co (.view z xs) (.view z ys) := by rw [h]; exact Co.refl _
theorem qabn (z : Nat) : Co .nilsl (.view z []) ↔ True := ⟨fun _ => trivial, fun _ => Co.nilsl z⟩
theorem qacv {xs ys : List SV} (h : CoL xs ys) : Co (.agg xs) (.agg ys) := Co.agg h
theorem qact {xs ys : List SV} (h : CoL xs ys) : Co (.tup xs) (.tup ys) := Co.tup h
theorem qaa7 (xs : List (List SV)) : CoLL xs xs ↔ True := ⟨fun _ => trivial, fun _ => CoLL.refl xs⟩
theorem qand {n : Int} (h : 0 ≤ n) (h2 : n < 18446744073709551616) : IntKind.u64.wrap n = n := by
 simp [IntKind.wrap, IntKind.bits, IntKind.signed]; omega
theorem qab2 {α : Type} {h : Decidable True} (o : Option α) : @rg α True h o = o := rg_pos trivial o
variable {P : Program} {dst : Option Nat} {op : SOp} {b : Nat} {os : List SOper} {tr : List Tch} {R : SSt → List Tch → Prop}
theorem qabj : SOps P [] s tr R = R s tr := rfl
def SOpsK (P : Program) (r : Option (SV × Upd × Nat)) (dst : Option Nat) (t : List Nat) (os : List SOper) (s : SSt) (tr : List Tch) (R : SSt → List Tch → Prop) : Prop := match r with
 | some (v, u, _) => SOps P os ⟨putd s.sl dst v, upds s.hp u, s.nx + 1⟩ (⟨t, u.map (·.1)⟩ :: tr) R
 | none => False
theorem qabi : SOps P (⟨dst, op, none, none, b⟩ :: os) s tr R = SOpsK P (op.run (·.ev s.sl) (geth s.hp) s.nx) dst (op.touch (·.ev s.sl)) os s tr R := rfl
theorem qaaw {v : SV} {u : Upd} {n : Nat} {t : List Nat} : SOpsK P (some (v, u, n)) dst t os s tr R = SOps P os ⟨putd s.sl dst v, upds s.hp u, s.nx + 1⟩ (⟨t, u.map (·.1)⟩ :: tr) R := rfl
def qa44 (P : Program) (f : SV) (args : List SV) (dst : Option Nat) (os : List SOper) (s : SSt) (tr : List Tch) (R : SSt → List Tch → Prop) : Prop := match f with
 | .fn (.func g) first cap => ∃ h1 r h2 rd n, SCalls P g (first ++ args ++ cap) h1 s.nx r h2 n ∧ SubH s.hp h1 ∧ Uniq h2 ∧ (∀ id ∈ rd, geth h2 id = geth h1 id) ∧
   SOps P os ⟨putd s.sl dst r, qab7 s.hp h1 h2, s.nx + n⟩ (⟨rd, (idsH h1 ++ idsH h2).filter fun i => !rd.contains i⟩ :: tr) R
 | _ => False
theorem qaa2 {f : SX} {args : List SX} : SOps P (⟨dst, op, some (f, args), none, b⟩ :: os) s tr R = qa44 P (f.ev s.sl) (args.map (·.ev s.sl)) dst os s tr R := by
 simp only [SOps, SOp1, qa44]
 all_goals generalize f.ev s.sl = v
 all_goals cases v
 all_goals (first | rfl | (rename_i f' _ _; cases f' <;> rfl))
theorem qa2j {g : FuncId} {first cap args : List SV} {h1 h2 : Hp} {r : SV} {n : Nat} (h : SCalls P g (first ++ args ++ cap) h1 s.nx r h2 n) (hs : SubH s.hp h1) (hu : Uniq h2) (rd : List Nat) (hr : ∀ id ∈ rd, geth h2 id = geth h1 id)
  (hn : SOps P os ⟨putd s.sl dst r, qab7 s.hp h1 h2, s.nx + n⟩ (⟨rd, (idsH h1 ++ idsH h2).filter fun i => !rd.contains i⟩ :: tr) R) : qa44 P (.fn (.func g) first cap) args dst os s tr R := ⟨h1, r, h2, rd, n, h, hs, hu, hr, hn⟩
theorem qabb {g : FuncId} {args : List SV} {r : SV} (h : SCalls P g args [] s.nx r []) (hn : SOps P os ⟨putd s.sl dst r, s.hp, s.nx + 8⟩ (⟨[], []⟩ :: tr) R) : qa44 P (.fn (.func g) [] []) args dst os s tr R :=
 ⟨[], r, [], [], 8, by simpa using h, trivial, trivial, by simp, hn⟩
def qasj (P : Program) (v : SV) (want : Bool) (o : SOper) (os : List SOper) (s : SSt) (tr : List Tch) (R : SSt → List Tch → Prop) : Prop := match v with
 | .bool b => (b = want → SOps P (⟨o.dst, o.op, o.cal, none, o.bef⟩ :: os) s tr R) ∧ (b ≠ want → SOps P os (s.skip o) (⟨[], []⟩ :: tr) R)
 | .tup [] => SOps P os (s.skip o) (⟨[], []⟩ :: tr) R
 | _ => False
theorem qaax {c : Option (SX × List SX)} {t : Nat} {want : Bool} : SOps P (⟨dst, op, c, some (t, want), b⟩ :: os) s tr R = qasj P (gets s.sl t) want ⟨dst, op, c, some (t, want), b⟩ os s tr R := by
 cases c with
 | none => (simp only [SOps, qasj, SOp1]; all_goals rfl)
 | some fa => (simp only [SOps, qasj, SOp1]; all_goals rfl)
theorem qaa1 {want : Bool} {c : Option (SX × List SX)} {g : Option (Nat × Bool)} : qasj P (.bool want) want ⟨dst, op, c, g, b⟩ os s tr R = SOps P (⟨dst, op, c, none, b⟩ :: os) s tr R := by simp [qasj]
theorem qasz {want w' : Bool} {o : SOper} (h : (w' == want) = false) : qasj P (.bool w') want o os s tr R = SOps P os (s.skip o) (⟨[], []⟩ :: tr) R := by
 have : w' ≠ want := by simpa using h
 simp [qasj, this]
theorem qabg {o : SOper} : qasj P (.bool true) false o os s tr R = SOps P os (s.skip o) (⟨[], []⟩ :: tr) R := qasz rfl
theorem qabh {o : SOper} : qasj P (.bool false) true o os s tr R = SOps P os (s.skip o) (⟨[], []⟩ :: tr) R := qasz rfl
theorem qaap {want : Bool} {o : SOper} : qasj P (.tup []) want o os s tr R = SOps P os (s.skip o) (⟨[], []⟩ :: tr) R := rfl
def FrzOk (hp : Hp) : List Nat → Prop
 | [] => True
 | i :: D => (match geth hp i with | some o => qa46 o | none => True) ∧ FrzOk hp D
theorem FrzOk.get {hp : Hp} : ∀ {D : List Nat}, FrzOk hp D → ∀ id o, D.contains id = true → geth hp id = some o → qa46 o
 | [], _, id, o, h, _ => by simp at h
 | i :: D, h, id, o, hc, ho => by
  by_cases e : id = i
  ·subst e; have := h.1; rw [ho] at this; exact this
  ·refine FrzOk.get h.2 id o ?_ ho
   simpa [e] using hc
theorem qaa5 (k : IntKind) (n : Int) : qaj8 (.int k n) ↔ True := ⟨fun _ => trivial, fun _ => qatg k n⟩
theorem qaaz (b : Bool) : qaj8 (.bool b) ↔ True := ⟨fun _ => trivial, fun _ => qanl b⟩
theorem qaa3 (b : ByteArray) : qaj8 (.str b) ↔ True := ⟨fun _ => trivial, fun _ => qate b⟩
theorem qaa4 : qaj8 .nil ↔ True := ⟨fun _ => trivial, fun _ => qatf⟩
theorem qaaq : qaj8 .nilsl ↔ True := ⟨fun _ => trivial, fun _ => qaik⟩
theorem qaay (z : Nat) (es : List (List SV)) : qaj8 (.view z es) ↔ True := ⟨fun _ => trivial, fun _ => qank z es⟩
theorem qabm (cs : List SV) : qaj8 (.cp cs) ↔ True := ⟨fun _ => trivial, fun _ => qa13 cs⟩
theorem qaa0 : qan5 [] ↔ True := ⟨fun _ => trivial, fun _ => qaze⟩
theorem qaas (x : SV) (xs : List SV) : qan5 (x :: xs) ↔ qaj8 x ∧ qan5 xs := ⟨fun h => ⟨h x (by simp), fun y hy => h y (by simp [hy])⟩, fun h => qath h.1 h.2⟩
theorem qaa6 (e z : Nat) (es : List (List SV)) : qa46 (.row e z es) ↔ ∀ x ∈ es, qan5 x := Iff.rfl
theorem qaar (t : TypeId) (cs : List SV) : qa46 (.cells t cs) ↔ qan5 cs := Iff.rfl
theorem qaak {α : Type} (f : α → List SV) (xs : List α) : (xs.map f).take xs.length = xs.map f := List.take_of_length_le (by simp)
end Go.Proofs.Yticeaegpkpjjeaa
namespace Go.Proofs.Yticeaegpkpjjeaa
set_option linter.all false
open Go.RowKit
variable {P : Program} {s : SSt} {os : List SOper} {o : SOper} {tr : List Tch} {R : SSt → List Tch → Prop}
theorem qaa9 {b want : Bool} (h1 : b = true → qasj P (.bool true) want o os s tr R) (h2 : b = false → qasj P (.bool false) want o os s tr R) : qasj P (.bool b) want o os s tr R := by
 cases b
 ·exact h2 rfl
 ·exact h1 rfl
theorem qabc {dst : Option Nat} {g : FuncId} {args : List SV} {h1 h2 : Hp} {r : SV} (h : SCalls P g args h1 s.nx r h2) (hs : SubH s.hp h1) (hu : Uniq h2)
  (hn : SOps P os ⟨putd s.sl dst r, qab7 s.hp h1 h2, s.nx + 8⟩ (⟨[], (idsH h1 ++ idsH h2).filter fun i => ![].contains i⟩ :: tr) R) : qa44 P (.fn (.func g) [] []) args dst os s tr R :=
 qa2j (by simpa using h) hs hu [] (by simp) hn
theorem call_r {dst : Option Nat} {g : FuncId} {args : List SV} {h1 : Hp} {r : SV} (h : SCalls P g args h1 s.nx r h1) (hs : SubH s.hp h1) (hu : Uniq h1)
  (hn : SOps P os ⟨putd s.sl dst r, qab7 s.hp h1 h1, s.nx + 8⟩ (⟨idsH h1, (idsH h1 ++ idsH h1).filter fun i => !(idsH h1).contains i⟩ :: tr) R) : qa44 P (.fn (.func g) [] []) args dst os s tr R :=
 qa2j (by simpa using h) hs hu (idsH h1) (fun _ _ => rfl) hn
theorem qaah {X : Cx} {Q : SExit → SSt → Prop} {id : Nat} {a b : SCode} (h : SWp X (.seq a b) (qana id Q) s) : SWp X (.block id (.seq a b)) Q s := qaat h
theorem qacj {X : Cx} {Q : SExit → SSt → Prop} {id : Nat} {d : Bool} {l : List SOper} {k : List Nat} (h : SWp X (.reg d l k) (qana id Q) s) : SWp X (.block id (.reg d l k)) Q s := qaat h
theorem qaec {X : Cx} {Q : SExit → SSt → Prop} {c : SCode} (D : List Nat) (hf : FrzOk s.hp D) (h : SWp X c Q ⟨frzS (geth s.hp) D s.sl, frzH (geth s.hp) D s.hp, s.nx⟩) : SWp X c Q s := qacy (wk_frz D hf.get) h
theorem qabw {c : Prop} {hd : Decidable c} {r : Option (SV × Upd × Nat)} {dst : Option Nat} {t : List Nat} (h : c) (hn : SOpsK P r dst t os s tr R) : SOpsK P (@rg _ c hd r) dst t os s tr R := by
 rw [rg_pos h]; exact hn
end Go.Proofs.Yticeaegpkpjjeaa
namespace Go.Proofs.Yticeaegpkpjjeaa
set_option linter.all false
open Go.RowKit
variable {X : Cx} {s : SSt}
theorem qafn {t : TypeId} {cs : List SV} (id j e size : Nat) (h : geth s.hp id = some (.cells t cs)) (hj : cs[j]? = some .nilsl) : Wk X s ⟨s.sl, puth (puth s.hp s.nx (.row e size [])) id (.cells t (cs.set j (.own s.nx 0))), s.nx + 1⟩ := by
 intro ρ fp a w hs
 obtain ⟨ρ', fp', h1, h2, h3, h4⟩ := hs.sim.h.add (w' := w) hs.le (hs.fresh _ (Nat.le_refl _)) (.row e size []) none (fun _ => False) (Below.refl _ _) (fun _ h => h.elim) fun A' ρ' hp' hpl => ⟨.slice none 0 0, [], World.ownsRow_nil _ _ _ _, ⟨Reps.nil, fun v hv => by cases hv⟩, (fun x hx => by cases hx), hpl, fun k => by simp [Value.ownBlock]⟩
 have hne : id ≠ s.nx := fun e => by
  have := (hs.sim.h.objs id _ h).place
  rw [e] at this
  exact this (hs.fresh _ (Nat.le_refl _))
 have hg : geth (puth s.hp s.nx (.row e size [])) id = some (.cells t cs) := by rw [qacm, if_neg hne]; exact h
 have hlive : ∀ k, Live (puth (puth s.hp s.nx (.row e size [])) id (.cells t (cs.set j (.own s.nx 0)))) fp' k → Live (puth s.hp s.nx (.row e size [])) fp' k := by
  rintro k ⟨i, o, ho, hk⟩
  rw [qacm] at ho
  split at ho
  ·rename_i e; subst e; exact ⟨i, _, hg, hk⟩
  ·exact ⟨i, o, ho, hk⟩
 have hobj : ∀ i o, geth (puth (puth s.hp s.nx (.row e size [])) id (.cells t (cs.set j (.own s.nx 0)))) i = some o → ∃ o', geth (puth s.hp s.nx (.row e size [])) i = some o' := by
  intro i o ho
  rw [qacm] at ho
  split at ho
  ·rename_i e; subst e; exact ⟨_, hg⟩
  ·exact ⟨o, ho⟩
 refine ⟨ρ', fp', ⟨⟨fun i o ho => ?_, fun i i' o o' hne' ho ho' => ?_, fun i o ho => ?_, h1.step, h1.keep⟩, hs.sim.tmps, hs.sim.defers, fun u => ?_⟩, fun i hi => ?_, by have := hs.le; simp only; omega⟩
 ·rw [qacm] at ho
  split at ho
  ·rename_i e; subst e
   cases ho
   obtain ⟨b, c, vs, p1, p2, ⟨p3, p4⟩, p5⟩ := h1.objs i _ hg
   refine ⟨b, c, vs, p1, p2, ⟨⟨by rw [List.length_set]; exact p3.1, fun m x v hx hv => ?_⟩, p4⟩, p5⟩
   rw [List.getElem?_set] at hx
   split at hx
   ·rename_i ejm; subst ejm
    split at hx
    ·cases hx
     have := p3.2 j _ v hj hv
     cases this
     exact .own0 h3
    ·cases hx
   ·exact (p3.2 m x v hx hv).weaken fun k hk _ => hk.imp (fun h => h) (hlive k)
  ·exact (h1.objs i o ho).weaken fun k hk _ => hk.imp (fun h => h) (hlive k)
 ·obtain ⟨x, hx⟩ := hobj i o ho
  obtain ⟨y, hy⟩ := hobj i' o' ho'
  exact h1.disj i i' x y hne' hx hy
 ·obtain ⟨x, hx⟩ := hobj i o ho
  exact h1.turn i x hx
 ·exact (h2.rep (hs.sim.slots u)).weaken fun k hk _ => hk.imp (fun h => h) (hlive k)
 ·cases e : ρ' i with
  | none => rfl
  | some p =>
   simp only at hi
   rcases h4 i (by rw [e]; simp) with h5 | h5
   ·exact absurd (hs.fresh i (by omega)) h5
   ·omega
structure Stop (p : Prop) : Prop where
 out : p
theorem qac1 {Q : SExit → SSt → Prop} {c : SCode} (h : Stop (SWp X c Q s)) : SWp X c Q s := h.out
end Go.Proofs.Yticeaegpkpjjeaa
namespace Go.Proofs.Yticeaegpkpjjeaa
set_option linter.all false
open Go.RowKit
def qadg (p : Nat → Bool) : Nat → Nat
 | 0 => 0
 | n + 1 => if qadg p n < n then qadg p n else if p n then n else n + 1
theorem qah1 (p : Nat → Bool) (n : Nat) : qadg p n ≤ n := by
 induction n with
 | zero => simp [qadg]
 | succ n ih => simp only [qadg]; repeat' split
                all_goals omega
theorem qafh (p : Nat → Bool) (n i : Nat) (h : i < qadg p n) : p i = false := by
 induction n with
 | zero => simp [qadg] at h
 | succ n ih =>
  have hle := qah1 p n
  simp only [qadg] at h
  split at h
  ·exact ih h
  ·split at h
   ·exact ih (by omega)
   ·rename_i h1 h2
    by_cases hi : i = n
    ·subst hi; simpa using h2
    ·exact ih (by omega)
theorem qanz (p : Nat → Bool) (n : Nat) (h : qadg p n < n) : p (qadg p n) = true := by
 induction n with
 | zero => simp [qadg] at h
 | succ n ih =>
  simp only [qadg] at h ⊢
  split
  ·rename_i h1; exact ih h1
  ·split
   ·assumption
   ·rename_i h1 h2; rw [if_neg h1, if_neg h2] at h; omega
theorem qaz2 (p : Nat → Bool) (n i : Nat) (h : ∀ j, j < i → p j = false) (hp : p i = true) (hi : i < n) : qadg p n = i := by
 rcases Nat.lt_trichotomy (qadg p n) i with hlt | he | hgt
 ·have := qanz p n (by omega)
  rw [h _ hlt] at this; cases this
 ·exact he
 ·have := qafh p n i hgt
  rw [hp] at this; cases this
theorem qaon (p : Nat → Bool) (n : Nat) (h : ∀ j, j < n → p j = false) : qadg p n = n := by
 have hle := qah1 p n
 by_cases hlt : qadg p n < n
 ·have := qanz p n hlt
  rw [h _ hlt] at this; cases this
 ·omega
theorem qat3 (p : Nat → Bool) (n : Nat) (h : qadg p n = n) : ∀ j, j < n → p j = false := fun j hj => qafh p n j (by omega)
def qac4 (l : List Int) : Nat → Int
 | 0 => 0
 | i + 1 => qac4 l i + el l i
end Go.Proofs.Yticeaegpkpjjeaa
namespace Go.Proofs.Yticeaegpkpjjeaa
set_option linter.all false
open Go.RowKit
structure Ins where
 op : Int
 r : Int
 s : Int
 k : Int
 to : Int
 n : Int
 deriving Inhabited, DecidableEq
structure Shape where
 keys : Int
 acts : Int
 args : Int
 deriving Inhabited, DecidableEq
def Ins.wf (x : Ins) : Prop := Fits .i64 x.op ∧ Fits .i64 x.r ∧ Fits .i64 x.s ∧ Fits .i64 x.k ∧ Fits .i64 x.to ∧ Fits .u64 x.n
def Shape.wf (x : Shape) : Prop := Fits .i64 x.keys ∧ Fits .i64 x.acts ∧ Fits .i64 x.args
def Ins.cells (x : Ins) : List Value := [.int .i64 x.op, .int .i64 x.r, .int .i64 x.s, .int .i64 x.k, .int .i64 x.to, .int .u64 x.n]
def Shape.cells (x : Shape) : List Value := [.int .i64 x.keys, .int .i64 x.acts, .int .i64 x.args]
def Lay.flat {α : Type} (size : Nat) (enc : α → List Value) (ok : α → Prop) (hl : ∀ a, (enc a).length = size) : Lay α where
 size := size
 rep _ _ x cs := cs = enc x ∧ ok x
 len h := by rw [h.1]; exact hl _
 step h _ := h
 weaken h _ := h
end Go.Proofs.Yticeaegpkpjjeaa
namespace Go.Proofs.Yticeaegpkpjjeaa
set_option linter.all false
open Go.RowKit
theorem qadn : Try.prog.follows .mixedOrders = true := by kernel_rfl
end Go.Proofs.Yticeaegpkpjjeaa
namespace Go.Proofs.Yticeaegpkpjjeaa
set_option linter.all false
open Go.RowKit Go.ChangeShapes Go.WideShapes Go.Deep
structure Opens (P : Program) (t : TypeId) {α : Type} (L : Lay α) : Prop where
 size : P.cellsOf t = L.size
 pos : 0 < L.size
 opn : ∀ {H : Type} {enc : TypeId × Value → H} {w : World} {fuel : Nat} {cs : List Value} {x : DataW H × List MemPlace}, DataW.trod enc P w 0 (fun _ => true) true fuel t cs = some x → ∃ a, L.rep NoA w a cs
theorem Opens.int {P : Program} {t : TypeId} {k : IntKind} (hu : P.underlying t = some (.int k)) (hc : P.cellsOf t = 1) : Opens P t (Lay.int k) :=
 ⟨hc, Nat.one_pos, fun h => by obtain ⟨n, rfl, _, hw⟩ := DataW.trod_int hu h; exact ⟨n, rfl, hw⟩⟩
theorem Opens.bool {P : Program} {t : TypeId} (hu : P.underlying t = some .bool) (hc : P.cellsOf t = 1) : Opens P t Lay.bool :=
 ⟨hc, Nat.one_pos, fun h => by obtain ⟨n, rfl, _⟩ := DataW.trod_bool hu h; exact ⟨n, rfl⟩⟩
theorem Opens.weak {P : Program} {t : TypeId} {α β : Type} {L : Lay α} {M : Lay β} (h : Opens P t L) (hs : M.size = L.size) (f : ∀ {w a cs}, L.rep NoA w a cs → ∃ b, M.rep NoA w b cs) : Opens P t M :=
 ⟨h.size.trans hs.symm, by rw [hs]; exact h.pos, fun hx => by obtain ⟨a, ha⟩ := h.opn hx; exact f ha⟩
theorem Opens.slice {P : Program} {t e : TypeId} {α : Type} {L : Lay α} (h : Opens P e L) (hu : P.underlying t = some (.slice e)) (hc : P.cellsOf t = 1) : Opens P t (Lay.slice L) := by
 refine ⟨hc, Nat.one_pos, fun {H enc w fuel cs x} hx => ?_⟩
 rcases open_slice hu hx with ⟨rfl, _⟩ | ⟨a, len, cap, m, n, D, Pl, rfl, _, hl, hm, hmm, _, hi⟩
 ·exact ⟨[], none, 0, 0, rfl, RdL.nil_ _ _ _⟩
 ·simp at hmm
  subst hmm
  have hs : a.spot = none ∨ m = 0 := by
   rcases Nat.eq_zero_or_pos m with e | e
   ·exact .inr e
   ·left
    obtain ⟨cs', hc', _⟩ := hi 0 e
    obtain ⟨_, hcl, hat⟩ := World.cells?_some hc'
    have h0 := hat 0 (by rw [h.size]; exact h.pos)
    obtain ⟨b, off, spot⟩ := a
    cases spot with
    | none => rfl
    | some s =>
     rw [List.getElem?_eq_getElem (by rw [hcl, h.size]; exact h.pos)] at h0
     simp [Addr.add, World.cell?] at h0
     split at h0 <;> simp at h0
  rcases hs with hs | rfl
  ·obtain ⟨b, off, spot⟩ := a
   obtain rfl : spot = none := hs
   have hel : ∀ i, i < m → ∃ x, ∃ cs, L.rep NoA w x cs ∧ ∀ j, j < L.size → w.cell? ⟨b, off + i * L.size + j, none⟩ = cs[j]? := by
    intro i him
    obtain ⟨cs', hc', ht⟩ := hi i him
    obtain ⟨x, hr⟩ := h.opn ht
    obtain ⟨_, hcl, hat⟩ := World.cells?_some hc'
    refine ⟨x, cs', hr, fun j hj => ?_⟩
    have := hat j (by rw [h.size]; exact hj)
    rw [h.size, qad7, qad7] at this
    exact this
   have hex : ∀ i : Nat, ∃ x : Option α, i < m → ∃ y, x = some y ∧ ∃ cs, L.rep NoA w y cs ∧ ∀ j, j < L.size → w.cell? ⟨b, off + i * L.size + j, none⟩ = cs[j]? := by
    intro i
    by_cases him : i < m
    ·obtain ⟨x, hx⟩ := hel i him
     exact ⟨some x, fun _ => ⟨x, rfl, hx⟩⟩
    ·exact ⟨none, fun h => absurd h him⟩
   obtain ⟨f, hf⟩ := Classical.axiomOfChoice hex
   have hfs : ∀ i (hh : i < m), (f i).isSome := fun i hh => by obtain ⟨y, hy, _⟩ := hf i hh; rw [hy]; rfl
   let xs : List α := List.ofFn fun i : Fin len => (f i).get (hfs i (by omega))
   have hxl : xs.length = len := by simp [xs]
   refine ⟨xs, some ⟨b, off, none⟩, len, m, rfl, hxl, hl, hm, by simp, fun h0 => ?_⟩
   have hblk : b < w.heap.size := by
    obtain ⟨y, hy, cs, hr, hj⟩ := hf 0 (by omega)
    have h00 := hj 0 h.pos
    rw [List.getElem?_eq_getElem (by rw [L.len hr]; exact h.pos)] at h00
    exact block_lt_of_cell h00
   refine ⟨b, off, rfl, fun h => h, hblk, fun i hi' => ?_⟩
   obtain ⟨y, hy, cs, hr, hj⟩ := hf i (by omega)
   refine ⟨cs, ?_, hj⟩
   have : xs[i] = y := by simp [xs, hy]
   rw [this]; exact hr
  ·obtain rfl : len = 0 := by omega
   refine ⟨[], some a, 0, 0, rfl, rfl, Nat.le_refl _, hm, by simp, fun h => absurd h (by omega)⟩
def OpensF (P : Program) (fs : List Field) (off : Nat) {α : Type} (L : Lay α) : Prop :=
 ∀ {H : Type} {enc : TypeId × Value → H} {w : World} {cs : List Value}, (∀ f ∈ fs, ∃ fuel x, DataW.trod enc P w 0 (fun _ => true) true fuel f.type ((cs.drop f.offset).take (P.cellsOf f.type)) = some x) → cs.length = off + L.size → ∃ a, L.rep NoA w a (cs.drop off)
theorem OpensF.one {P : Program} {f : Field} {off : Nat} {α : Type} {L : Lay α} (h : Opens P f.type L) (ho : f.offset = off) : OpensF P [f] off L := by
 intro H enc w cs hf hl
 obtain ⟨fuel, x, hx⟩ := hf f (by simp)
 rw [ho, h.size, List.take_of_length_le (by simp; omega)] at hx
 exact h.opn hx
theorem OpensF.cons {P : Program} {f : Field} {fs : List Field} {off : Nat} {α β : Type} {L : Lay α} {M : Lay β} (h : Opens P f.type L) (ho : f.offset = off) (g : OpensF P fs (off + L.size) M) : OpensF P (f :: fs) off (Lay.pair L M) := by
 intro H enc w cs hf hl
 obtain ⟨fuel, x, hx⟩ := hf f (by simp)
 rw [ho, h.size] at hx
 obtain ⟨a, ha⟩ := h.opn hx
 obtain ⟨b, hb⟩ := g (cs := cs) (fun f' hf' => hf f' (List.mem_cons_of_mem _ hf')) (by rw [hl]; show _ = _; simp only [Lay.pair]; omega)
 refine ⟨(a, b), _, _, ?_, ha, hb⟩
 rw [← List.drop_drop, List.take_append_drop]
theorem Opens.struct {P : Program} {t : TypeId} {fs : List Field} {α : Type} {L : Lay α} (hu : P.underlying t = some (.struct fs.toArray)) (h : OpensF P fs 0 L) (hc : P.cellsOf t = L.size) (hp : 0 < L.size) : Opens P t L := by
 refine ⟨hc, hp, fun {H enc w fuel cs x} hx => ?_⟩
 obtain ⟨xs, n, _, _, hl, hxl, hf⟩ := DataW.trod_struct hu hx
 have := h (cs := cs) (enc := enc) (w := w) (fun f hf' => ?_) (by rw [hl, hc, Nat.zero_add])
 ·simpa using this
 ·obtain ⟨i, hi, rfl⟩ := List.getElem_of_mem hf'
  refine ⟨n, xs[i]'(by rw [hxl]; simpa using hi), ?_⟩
  rw [hf i _ (by simp [hi])]
  exact List.getElem?_eq_getElem _
theorem Opens.arg {P : Program} {t : TypeId} {fs : Array Field} {α : Type} {L : Lay α} (h : Opens P t L) (hu : P.underlying t = some (.struct fs)) {H : Type} {enc : TypeId × Value → H} {w : World} {r : Reach} {b0 : Nat} {v : Value} {d : DataW H} {p : List MemPlace}
  (hv : Value.okWide P w r b0 t v) (ht : DataW.Trod enc P w 0 (fun _ => true) true t v d p) : ∃ a cs, v = .agg cs ∧ L.rep NoA w a cs.toList := by
 obtain ⟨cs, rfl, _⟩ := okWide_struct hu hv
 obtain ⟨fuel, hf⟩ := ht
 obtain ⟨a, ha⟩ := h.opn hf
 exact ⟨a, cs, rfl, ha⟩
theorem Opens.argSlice {P : Program} {t e : TypeId} {α : Type} {L : Lay α} (h : Opens P e L) (hu : P.underlying t = some (.slice e)) (hc : P.cellsOf t = 1) {H : Type} {enc : TypeId × Value → H} {w : World} {r : Reach} {b0 : Nat} {v : Value} {d : DataW H} {p : List MemPlace}
  (hv : Value.okWide P w r b0 t v) (ht : DataW.Trod enc P w 0 (fun _ => true) true t v d p) : ∃ xs ao n cap, v = .slice ao n cap ∧ RdL L NoA w ao n cap xs := by
 obtain ⟨a, len, cap, rfl⟩ := okWide_slice hu hv
 obtain ⟨fuel, hf⟩ := ht
 obtain ⟨xs, ao, n, cap', e, hr⟩ := (h.slice hu hc).opn hf
 simp [Value.cells] at e
 obtain ⟨rfl, rfl, rfl⟩ := e
 exact ⟨xs, _, _, _, rfl, hr⟩
end Go.Proofs.Yticeaegpkpjjeaa
namespace Go.Proofs.Yticeaegpkpjjeaa
set_option linter.all false
open Go.RowKit Go.ChangeShapes Go.WideShapes
structure RefD where
 h : Int
 f : Int
structure PushD where
 op : Int
 r : RefD
 n : Int
structure HeadD where
 w : List Int
structure CaseD where
 value : Int
 mask : Int
 to_ : Int
structure StateD where
 head : Int
 on : RefD
 cases_ : List CaseD
 els : Int
structure OpD where
 kind : Int
 r : RefD
 head : Int
 e : List PushD
structure ActD where
 w : List Int
 ops : List OpD
structure TabD where
 kind : Int
 keys : List RefD
 acts : List Int
 cap : Int
 def_ : Int
 args : List Int
structure NodeD where
 kind : Int
 n : Int
 e : List PushD
 yes : Int
 no : Int
structure PlanD where
 heads : List HeadD
 meta_ : List Int
 states : List StateD
 acts : List ActD
 tabs : List TabD
 nodes : List NodeD
 out : List Int
def refc (r : RefD) : List SV := [.int .i64 r.h, .int .i64 r.f]
def qaee (p : PushD) : List SV := [.int .i64 p.op, .int .i64 p.r.h, .int .i64 p.r.f, .int .u64 p.n]
def qac3 (l : List PushD) : SV := .view 4 (l.map qaee)
def qaeh (h : HeadD) : List SV := [nums .i64 h.w]
def qaea (c : CaseD) : List SV := [.int .u64 c.value, .int .u64 c.mask, .int .i64 c.to_]
def qacl (s : StateD) : List SV := [.int .i64 s.head, .int .i64 s.on.h, .int .i64 s.on.f, .view 3 (s.cases_.map qaea), .int .i64 s.els]
def opc (o : OpD) : List SV := [.int .i64 o.kind, .int .i64 o.r.h, .int .i64 o.r.f, .int .i64 o.head, qac3 o.e]
def actc (a : ActD) : List SV := [nums .i64 a.w, .view 5 (a.ops.map opc)]
def tabc (t : TabD) : List SV := [.int .i64 t.kind, .view 2 (t.keys.map refc), nums .i64 t.acts, .int .i64 t.cap, .int .i64 t.def_, nums .u64 t.args]
def qaef (n : NodeD) : List SV := [.int .i64 n.kind, .int .i64 n.n, qac3 n.e, .int .i64 n.yes, .int .i64 n.no]
def qacc (p : PlanD) : List SV := [.view 1 (p.heads.map qaeh), nums .i64 p.meta_, .view 5 (p.states.map qacl), .view 2 (p.acts.map actc), .view 6 (p.tabs.map tabc), .view 5 (p.nodes.map qaef), nums .i64 p.out]
def i64L : Lay Int := Lay.int .i64
def u64L : Lay Int := Lay.int .u64
def qaf5 : Lay RefD := Lay.map (fun r => (r.h, r.f)) (Lay.pair i64L i64L)
def qaff : Lay PushD := Lay.map (fun p => (p.op, p.r, p.n)) (Lay.pair i64L (Lay.pair qaf5 u64L))
def qaiq : Lay HeadD := Lay.map (fun h => h.w) (Lay.slice i64L)
def qai6 : Lay CaseD := Lay.map (fun c => (c.value, c.mask, c.to_)) (Lay.pair u64L (Lay.pair u64L i64L))
def qaf1 : Lay StateD := Lay.map (fun s => (s.head, s.on, s.cases_, s.els)) (Lay.pair i64L (Lay.pair qaf5 (Lay.pair (Lay.slice qai6) i64L)))
def opLay : Lay OpD := Lay.map (fun o => (o.kind, o.r, o.head, o.e)) (Lay.pair i64L (Lay.pair qaf5 (Lay.pair i64L (Lay.slice qaff))))
def qayp : Lay ActD := Lay.map (fun a => (a.w, a.ops)) (Lay.pair (Lay.slice i64L) (Lay.slice opLay))
def qasv : Lay TabD := Lay.map (fun t => (t.kind, t.keys, t.acts, t.cap, t.def_, t.args)) (Lay.pair i64L (Lay.pair (Lay.slice qaf5) (Lay.pair (Lay.slice i64L) (Lay.pair i64L (Lay.pair i64L (Lay.slice u64L))))))
def qain : Lay NodeD := Lay.map (fun n => (n.kind, n.n, n.e, n.yes, n.no)) (Lay.pair i64L (Lay.pair i64L (Lay.pair (Lay.slice qaff) (Lay.pair i64L i64L))))
def planLay : Lay PlanD := Lay.map (fun p => (p.heads, p.meta_, p.states, p.acts, p.tabs, p.nodes, p.out)) (Lay.pair (Lay.slice qaiq) (Lay.pair (Lay.slice i64L) (Lay.pair (Lay.slice qaf1) (Lay.pair (Lay.slice qayp) (Lay.pair (Lay.slice qasv) (Lay.pair (Lay.slice qain) (Lay.slice i64L)))))))
theorem qahw : LayP qaf5 refc := qadc (fun r : RefD => (r.h, r.f)) (qabd (qabx .i64) (qabx .i64))
theorem qano : LayP qaff qaee := qadc (fun p : PushD => (p.op, p.r, p.n)) (qabd (qabx .i64) (qabd qahw (qabx .u64)))
theorem qazr : LayP qaiq qaeh := qadc (fun h : HeadD => h.w) (qabz (qabx .i64))
theorem qazs : LayP qai6 qaea := qadc (fun c : CaseD => (c.value, c.mask, c.to_)) (qabd (qabx .u64) (qabd (qabx .u64) (qabx .i64)))
theorem qatt : LayP qaf1 qacl := qadc (fun s : StateD => (s.head, s.on, s.cases_, s.els)) (qabd (qabx .i64) (qabd qahw (qabd (qabz qazs) (qabx .i64))))
theorem layP_op : LayP opLay opc := qadc (fun o : OpD => (o.kind, o.r, o.head, o.e)) (qabd (qabx .i64) (qabd qahw (qabd (qabx .i64) (qabz qano))))
theorem qa3m : LayP qayp actc := qadc (fun a : ActD => (a.w, a.ops)) (qabd (qabz (qabx .i64)) (qabz layP_op))
theorem qa3l : LayP qasv tabc := qadc (fun t : TabD => (t.kind, t.keys, t.acts, t.cap, t.def_, t.args)) (qabd (qabx .i64) (qabd (qabz qahw) (qabd (qabz (qabx .i64)) (qabd (qabx .i64) (qabd (qabx .i64) (qabz (qabx .u64)))))))
theorem qazq : LayP qain qaef := qadc (fun n : NodeD => (n.kind, n.n, n.e, n.yes, n.no)) (qabd (qabx .i64) (qabd (qabx .i64) (qabd (qabz qano) (qabd (qabx .i64) (qabx .i64)))))
theorem qazp : LayP planLay qacc := qadc (fun p : PlanD => (p.heads, p.meta_, p.states, p.acts, p.tabs, p.nodes, p.out)) (qabd (qabz qazr) (qabd (qabz (qabx .i64)) (qabd (qabz qatt) (qabd (qabz qa3m) (qabd (qabz qa3l) (qabd (qabz qazq) (qabz (qabx .i64))))))))
def qa4x (p : PushD) : Prop := Fits .i64 p.op ∧ (Fits .i64 p.r.h ∧ Fits .i64 p.r.f) ∧ Fits .u64 p.n
def OkRef (r : RefD) : Prop := Fits .i64 r.h ∧ Fits .i64 r.f
def qa1q (c : CaseD) : Prop := Fits .u64 c.value ∧ Fits .u64 c.mask ∧ Fits .i64 c.to_
def qayq (s : StateD) : Prop := Fits .i64 s.head ∧ OkRef s.on ∧ (∀ c ∈ s.cases_, qa1q c) ∧ Fits .i64 s.els
def OkOp (o : OpD) : Prop := Fits .i64 o.kind ∧ OkRef o.r ∧ Fits .i64 o.head ∧ ∀ x ∈ o.e, qa4x x
def OkAct (a : ActD) : Prop := AllFit .i64 a.w ∧ ∀ o ∈ a.ops, OkOp o
def OkTab (t : TabD) : Prop := Fits .i64 t.kind ∧ (∀ r ∈ t.keys, OkRef r) ∧ AllFit .i64 t.acts ∧ Fits .i64 t.cap ∧ Fits .i64 t.def_ ∧ AllFit .u64 t.args
def OkNode (n : NodeD) : Prop := Fits .i64 n.kind ∧ Fits .i64 n.n ∧ (∀ x ∈ n.e, qa4x x) ∧ Fits .i64 n.yes ∧ Fits .i64 n.no
def qaid (p : PlanD) : Prop := (∀ h ∈ p.heads, AllFit .i64 h.w) ∧ AllFit .i64 p.meta_ ∧ (∀ s ∈ p.states, qayq s) ∧ (∀ a ∈ p.acts, OkAct a) ∧ (∀ t ∈ p.tabs, OkTab t) ∧ (∀ n ∈ p.nodes, OkNode n) ∧ AllFit .i64 p.out
theorem qahx : LayF qaf5 OkRef := qadd (fun r : RefD => (r.h, r.f)) (qabe (qace .i64) (qace .i64))
theorem qanp : LayF qaff qa4x := qadd (fun p : PushD => (p.op, p.r, p.n)) (qabe (qace .i64) (qabe qahx (qace .u64)))
theorem qad1 (k : IntKind) : LayF (Lay.slice (Lay.int k)) (AllFit k) := fun A w x cs h => qack (qace k) A w x cs h
theorem qazv : LayF qaiq (fun h => AllFit .i64 h.w) := qadd (fun h : HeadD => h.w) (qad1 .i64)
theorem qazw : LayF qai6 qa1q := qadd (fun c : CaseD => (c.value, c.mask, c.to_)) (qabe (qace .u64) (qabe (qace .u64) (qace .i64)))
theorem qatu : LayF qaf1 qayq := qadd (fun s : StateD => (s.head, s.on, s.cases_, s.els)) (qabe (qace .i64) (qabe qahx (qabe (qack qazw) (qace .i64))))
theorem layF_op : LayF opLay OkOp := qadd (fun o : OpD => (o.kind, o.r, o.head, o.e)) (qabe (qace .i64) (qabe qahx (qabe (qace .i64) (qack qanp))))
theorem qa3p : LayF qayp OkAct := qadd (fun a : ActD => (a.w, a.ops)) (qabe (qad1 .i64) (qack layF_op))
theorem qa3n : LayF qasv OkTab := qadd (fun t : TabD => (t.kind, t.keys, t.acts, t.cap, t.def_, t.args)) (qabe (qace .i64) (qabe (qack qahx) (qabe (qad1 .i64) (qabe (qace .i64) (qabe (qace .i64) (qad1 .u64))))))
theorem qazu : LayF qain OkNode := qadd (fun n : NodeD => (n.kind, n.n, n.e, n.yes, n.no)) (qabe (qace .i64) (qabe (qace .i64) (qabe (qack qanp) (qabe (qace .i64) (qace .i64)))))
theorem qazt : LayF planLay qaid := qadd (fun p : PlanD => (p.heads, p.meta_, p.states, p.acts, p.tabs, p.nodes, p.out)) (qabe (qack qazv) (qabe (qad1 .i64) (qabe (qack qatu) (qabe (qack qa3p) (qabe (qack qa3n) (qabe (qack qazu) (qad1 .i64)))))))
end Go.Proofs.Yticeaegpkpjjeaa
namespace Go.Proofs.Yticeaegpkpjjeaa
set_option linter.all false
open Go.RowKit
def mk (f : Nat → Int) (m : Nat) : List Int := (List.range m).map f
def Bits (f : Nat → Int) : Prop := ∀ k, 0 ≤ f k ∧ f k ≤ 1
def acc (f : Nat → Int) : Nat → Int
 | 0 => 0
 | i + 1 => 2 * acc f i + f i
theorem Bits.drop {xs : List Int} (h : Bits (el xs)) (lo : Nat) : Bits (el (xs.drop lo)) := fun k => by rw [el_drop]; exact h _
theorem Bits.take {xs : List Int} (h : Bits (el xs)) (m : Nat) : Bits (el (xs.take m)) := fun k => by
 rw [el_take]; split
 ·exact h k
 ·omega
theorem Bits.append {xs ys : List Int} (h : Bits (el xs)) (g : Bits (el ys)) : Bits (el (xs ++ ys)) := fun k => by
 rw [qaz5]; split
 ·exact h k
 ·exact g _
theorem Bits.fit {xs : List Int} (h : Bits (el xs)) : AllFit .u8 xs := by
 intro x hx
 obtain ⟨i, hi, rfl⟩ := List.mem_iff_getElem.1 hx
 have := h i
 rw [qaz4 _ _ hi] at this
 exact Fits.of_u8 (by omega) (by omega)
end Go.Proofs.Yticeaegpkpjjeaa
namespace Go.Proofs.Yticeaegpkpjjeaa
set_option linter.all false
open Go.RowKit
theorem qa2z {k : IntKind} {a b : Int} (h : a = b) : Ending.returned (.int k a) = .returned (.int k b) := by rw [h]
def onesN (k : Nat) : Int := 2 ^ k - 1
def ones (w : Int) : Int := if 1 ≤ w ∧ w ≤ 64 then onesN w.toNat else 0
theorem qazh : ∀ k : Fin 65, (18446744073709551615 : Int) / 2 ^ (64 - k.val) = onesN k.val := by unfold onesN; decide +kernel
theorem qa4y (w_ : Int) (w : World) (hw : Fits .i64 w_) :
  Calls Try.prog 122 #[.int .i64 w_] w fun e w' => e = .returned (.int .u64 (ones w_)) ∧ w = w' := by
 have h := hw.i64
 unfold ones
 by_cases h1 : w_ < 1
 ·rw [if_neg (by omega)]
  go_enter Try.func122, Try.ntmps122
  go_wp2_with fail
  go_ret
  exact ⟨rfl, rfl⟩
 by_cases h2 : 64 < w_
 ·rw [if_neg (by omega)]
  go_enter Try.func122, Try.ntmps122
  go_wp2_with fail
  go_ret
  exact ⟨rfl, rfl⟩
 ·rw [if_pos (by omega)]
  go_enter Try.func122, Try.ntmps122
  go_wp2_with fail
  go_ret
  refine ⟨qa2z ?_, rfl⟩
  have := qazh ⟨w_.toNat, by omega⟩
  rw [show (64 - w_).toNat = 64 - w_.toNat from by omega]
  exact this
end Go.Proofs.Yticeaegpkpjjeaa
namespace Go.Proofs.Yticeaegpkpjjeaa
set_option linter.all false
open Go.RowKit
def wBad (ws : List Int) (i : Nat) : Bool := decide (el ws i < 1 ∨ 48 < el ws i)
def qag0 (ws : List Int) : Int := if ws.length = 0 ∨ 8 < ws.length then 2 else if qadg (wBad ws) ws.length < ws.length then 6 else if qac4 ws ws.length % 8 ≠ 0 ∨ 256 < qac4 ws ws.length then 6 else 0
def qays (ws : List Int) : Int := if ws.length = 0 ∨ 8 < ws.length then -1 else if qadg (wBad ws) ws.length < ws.length then (qadg (wBad ws) ws.length : Int) else if qac4 ws ws.length % 8 ≠ 0 ∨ 256 < qac4 ws ws.length then -1 else 0
def qaka (ws : List Int) : Int := if qag0 ws = 0 then qac4 ws ws.length / 8 else 0
theorem wOk {ws : List Int} {i : Nat} (h : wBad ws i = false) : 1 ≤ el ws i ∧ el ws i ≤ 48 := by
 unfold wBad at h; simp at h; omega
theorem wSum {ws : List Int} {k : Nat} (h : ∀ j, j < k → wBad ws j = false) : (k : Int) ≤ qac4 ws k ∧ qac4 ws k ≤ 48 * k := by
 induction k with
 | zero => simp [qac4]
 | succ k ih =>
  have h1 := ih (fun j hj => h j (by omega))
  have h2 := wOk (h k (by omega))
  show (k + 1 : Nat) ≤ qac4 ws k + el ws k ∧ qac4 ws k + el ws k ≤ 48 * (k + 1 : Nat)
  omega
theorem qaet {ws : List Int} (h : qag0 ws = 0) : 1 ≤ ws.length ∧ ws.length ≤ 8 ∧ (∀ j, j < ws.length → wBad ws j = false) ∧ 8 * qaka ws = qac4 ws ws.length ∧ qac4 ws ws.length ≤ 256 ∧ qays ws = 0 ∧ 1 ≤ qaka ws ∧ qaka ws ≤ 32 := by
 have h0 := h
 unfold qag0 at h
 by_cases h1 : ws.length = 0 ∨ 8 < ws.length
 ·rw [if_pos h1] at h; omega
 rw [if_neg h1] at h
 by_cases h2 : qadg (wBad ws) ws.length < ws.length
 ·rw [if_pos h2] at h; omega
 rw [if_neg h2] at h
 by_cases h3 : qac4 ws ws.length % 8 ≠ 0 ∨ 256 < qac4 ws ws.length
 ·rw [if_pos h3] at h; omega
 have hall := qat3 (wBad ws) ws.length (by have := qah1 (wBad ws) ws.length; omega)
 have hs := wSum hall
 have hN : qaka ws = qac4 ws ws.length / 8 := by unfold qaka; rw [if_pos h0]
 have hA : qays ws = 0 := by unfold qays; rw [if_neg h1, if_neg h2, if_neg h3]
 refine ⟨by omega, by omega, hall, by omega, by omega, hA, by omega, by omega⟩
end Go.Proofs.Yticeaegpkpjjeaa
namespace Go.Proofs.Yticeaegpkpjjeaa
set_option linter.all false
open Go.RowKit Go.ChangeShapes Go.WideShapes
theorem opensI : Opens Try.prog 3 (Lay.int .i64) := Opens.int Try.underlying3 (by kernel_rfl)
theorem opensU : Opens Try.prog 39 (Lay.int .u64) := Opens.int Try.underlying39 (by kernel_rfl)
theorem opensN : Opens Try.prog 48 (Lay.slice (Lay.int .u64)) := opensU.slice Try.underlying48 (by kernel_rfl)
end Go.Proofs.Yticeaegpkpjjeaa
namespace Go.Proofs.Yticeaegpkpjjeaa
set_option linter.all false
open Go.RowKit
def qayt (n k : Int) : Bool := decide (n > if k ≤ 64 then 2 ^ k.toNat - 1 else 0)
end Go.Proofs.Yticeaegpkpjjeaa
namespace Go.Proofs.Yticeaegpkpjjeaa
set_option linter.all false
open Go.RowKit
def qae2 (p : PlanD) (h : Int) : List Int := ((p.heads[h.toNat]?).map HeadD.w).getD []
def qahq (p : PlanD) (h : Int) (args : List Int) : List Int := if h = -3 then [16] else if h = -1 then p.meta_ else if h = -2 then args else if 0 ≤ h ∧ h < p.heads.length then qae2 p h else []
def qasl (l : List Int) (f : Int) : Int := if f < 0 ∨ l.length ≤ f then 0 else el l f.toNat
def qabo (p : PlanD) (r : RefD) (args : List Int) : Int := qasl (qahq p r.h args) r.f
def qacw (op : Int) : Int := if op = 1 ∨ op = 2 then 0 else if 3 ≤ op ∧ op ≤ 12 then 2 else if op = 13 then 1 else -1
def qabu (p : PlanD) (t : TabD) : List Int := t.keys.map fun r => qabo p r []
def qagv (p : PlanD) (args : List Int) : List PushD → Int → Int
 | [], n => if n = 1 then 0 else 13
 | x :: l, n => if qacw x.op < 0 ∨ n < qacw x.op then 13 else if x.op = 2 ∧ qabo p x.r args = 0 then 1 else qagv p args l (n + (1 - qacw x.op))
theorem qaoo (p : PlanD) (args : List Int) (x : PushD) (l : List PushD) (n : Int) : qagv p args (x :: l) n = if qacw x.op < 0 ∨ n < qacw x.op then 13 else if x.op = 2 ∧ qabo p x.r args = 0 then 1 else qagv p args l (n + (1 - qacw x.op)) := rfl
theorem qat6 (p : PlanD) (args : List Int) (n : Int) : qagv p args [] n = if n = 1 then 0 else 13 := rfl
def qah3 (p : PlanD) (l : List PushD) (args : List Int) : Int := if 8 < l.length then 2 else qagv p args l 0
def qadt (p : PlanD) (h : Int) : Bool := decide (0 ≤ h) && decide (h < p.heads.length)
def mayBe (p : PlanD) (r : RefD) : Bool := decide (-1 ≤ r.h) && decide (0 < qabo p r [])
def qaop (p : PlanD) (o : OpD) (args : List Int) : Int :=
 if o.kind = 1 then (if mayBe p o.r then qah3 p o.e args else 1)
 else if o.kind = 2 ∨ o.kind = 3 then (if qadt p o.head then 0 else 1)
 else if o.kind = 4 then 0
 else if o.kind = 5 then qah3 p o.e args
 else if o.kind = 6 then (if mayBe p o.r && qadt p o.head then 0 else 1)
 else 5
def qaip (p : PlanD) (from_ to_ : Int) : Int := if to_ = 1000 ∨ to_ = 1001 then 0 else if to_ < 0 ∨ p.states.length ≤ to_ then 1 else if to_ ≤ from_ then 11 else 0
def qaco {α : Type} (f : α → Int) : List α → Int
 | [] => 0
 | x :: l => if f x = 0 then qaco f l else f x
def qagy : List Int → List Int → Bool
 | x :: xs, k :: ks => qayt x k || qagy xs ks
 | _, _ => false
def actW (acts : List ActD) (k : Int) : List Int := ((acts[k.toNat]?).map ActD.w).getD []
def qask (tacts : List Int) (acts : List ActD) (act : Int) (args : List Int) : Int :=
 if tacts.contains act then (if args.length ≠ (actW acts act).length then 2 else if qagy args (actW acts act) then 6 else 0) else 5
def wOut (k : Int) : Bool := decide (k < 1) || decide (48 < k)
def aOut (n : Nat) (a : Int) : Bool := decide (a < 0) || decide ((n : Int) ≤ a)
def qaei (t : TabD) (ws : List Int) (acts : List ActD) : Int :=
 if t.kind < 1 ∨ 3 < t.kind then 5
 else if ws.length < 1 ∨ 3 < ws.length ∨ (t.kind = 2 ∧ 1 < ws.length) ∨ t.acts.length < 1 ∨ 4 < t.acts.length then 2
 else if t.cap < 0 ∨ 16 < t.cap then 1
 else if ws.any wOut then 6
 else if t.acts.any (aOut acts.length) then 1
 else qask t.acts acts t.def_ t.args
def qaow (p : PlanD) (i w : Int) (c : CaseD) : Int := if qayt c.mask w || decide (bits .and .u64 c.value c.mask ≠ c.value) then 6 else qaip p i c.to_
def qagt (p : PlanD) (i : Int) (s : StateD) : Int :=
 if s.head < -1 ∨ p.heads.length ≤ s.head then 1
 else if 4 < s.cases_.length then 2
 else if 0 < s.cases_.length ∧ qabo p s.on [] = 0 then 1
 else if qaco (qaow p i (qabo p s.on [])) s.cases_ ≠ 0 then qaco (qaow p i (qabo p s.on [])) s.cases_
 else qaip p i s.els
def actF (p : PlanD) (a : ActD) : Int :=
 if 3 < a.w.length ∨ 5 < a.ops.length then 2
 else if a.w.any wOut then 6
 else qaco (fun o => qaop p o a.w) a.ops
def tabF (p : PlanD) (t : TabD) : Int :=
 if 3 < t.keys.length then 2
 else if (qabu p t).contains 0 then 1
 else qaei t (qabu p t) p.acts
def toF (p : PlanD) (i to_ : Int) : Int := if to_ < 0 ∨ p.nodes.length < to_ then 1 else if to_ ≤ i then 11 else 0
def qa3f (p : PlanD) (i : Int) (n : NodeD) : Int :=
 if n.kind = 1 then (if n.n < 0 ∨ p.tabs.length ≤ n.n then 1 else toF p i n.yes)
 else if n.kind = 2 then (if n.n < 0 ∨ p.acts.length ≤ n.n then 1 else if 0 < (actW p.acts n.n).length then 2 else toF p i n.yes)
 else if n.kind = 3 then (if qah3 p n.e [] ≠ 0 then qah3 p n.e [] else if toF p i n.yes ≠ 0 then toF p i n.yes else toF p i n.no)
 else if n.kind = 4 then (if qadt p n.n then (if toF p i n.yes ≠ 0 then toF p i n.yes else toF p i n.no) else 1)
 else 5
def rowF {α : Type} (f : Nat → α → Int) (base : Int) : Nat → List α → Int × Int
 | _, [] => (0, 0)
 | i, x :: l => if f i x ≠ 0 then (f i x, base + i) else rowF f base (i + 1) l
def orF (f g : Int × Int) : Int × Int := if f.1 ≠ 0 then f else if g.1 ≠ 0 then g else f
def qasm (b : Bool) (at_ : Int) : Int × Int := if b then (2, at_) else (0, 0)
def outF (p : PlanD) (i : Nat) (o : Int) : Int := if qadt p o then (if (p.out.take i).contains o then 7 else 0) else 1
def qaf7 (p : PlanD) : Int × Int := orF (qasm (decide (6 < p.heads.length)) (-1)) (rowF (fun _ h => qag0 h.w) 1000 0 p.heads)
def qa3i (p : PlanD) : Int × Int := orF (qasm (decide (4 < p.meta_.length)) (-2)) (rowF (fun _ w => if wOut w then 6 else 0) 2000 0 p.meta_)
def qaed (p : PlanD) : Int × Int := orF (qasm (decide (p.states.length < 1) || decide (8 < p.states.length)) (-3)) (rowF (fun i s => qagt p i s) 3000 0 p.states)
def qayo (p : PlanD) : Int × Int := orF (qasm (decide (8 < p.acts.length)) (-4)) (rowF (fun _ a => actF p a) 4000 0 p.acts)
def qayr (p : PlanD) : Int × Int := orF (qasm (decide (5 < p.tabs.length)) (-5)) (rowF (fun _ t => tabF p t) 5000 0 p.tabs)
def qagu (p : PlanD) : Int × Int := orF (qasm (decide (10 < p.nodes.length)) (-6)) (rowF (fun i n => qa3f p i n) 6000 0 p.nodes)
def outsF (p : PlanD) : Int × Int := orF (qasm (decide (6 < p.out.length)) (-7)) (rowF (fun i o => outF p i o) 7000 0 p.out)
def qafs (p : PlanD) : Int × Int := orF (qaf7 p) (orF (qa3i p) (orF (qaed p) (orF (qayo p) (orF (qayr p) (orF (qagu p) (outsF p))))))
theorem qafg {f : Int × Int} (h : f.1 ≠ 0) (g : Int × Int) : orF f g = f := if_pos h
theorem qadm (f g h : Int × Int) : orF (orF f g) h = orF f (orF g h) := by
 unfold orF
 by_cases h1 : f.1 = 0 <;> by_cases h2 : g.1 = 0 <;> by_cases h3 : h.1 = 0 <;> simp [h1, h2, h3]
theorem qacd (f : Int × Int) {g : Int × Int} (h : g.1 = 0) : orF f g = f := by
 unfold orF; simp [h]
theorem qag7 {α : Type} (f : α → Int) {l : List α} {i : Nat} (hi : i < l.length) : qaco f (l.drop i) = if f l[i] = 0 then qaco f (l.drop (i + 1)) else f l[i] := by
 rw [List.drop_eq_getElem_cons hi]; rfl
theorem qadb {α : Type} (f : Nat → α → Int) (b : Int) {l : List α} {i : Nat} (hi : i < l.length) : rowF f b i (l.drop i) = if f i l[i] ≠ 0 then (f i l[i], b + i) else rowF f b (i + 1) (l.drop (i + 1)) := by
 rw [List.drop_eq_getElem_cons hi]; rfl
theorem qadq {α : Type} (f : α → Bool) {l : List α} {i : Nat} (hi : i < l.length) : (l.drop i).any f = (f l[i] || (l.drop (i + 1)).any f) := by
 rw [List.drop_eq_getElem_cons hi]; rfl
end Go.Proofs.Yticeaegpkpjjeaa
namespace Go.Proofs.Yticeaegpkpjjeaa
set_option linter.all false
abbrev Oa (d : Nat) (op : SOp) : SOper := ⟨some d, op, none, none, 0⟩
abbrev Ob (op : SOp) : SOper := ⟨none, op, none, none, 0⟩
abbrev Oc (d : Nat) (f : FuncId) (args : List SX) : SOper := ⟨some d, .mv (.c .any), some (.c (.fn (.func f) [] []), args), none, 0⟩
abbrev Od (d : Nat) (op : SOp) (b : Nat) : SOper := ⟨some d, op, none, none, b⟩
abbrev Oe (d : Nat) (op : SOp) (t : Nat) (w : Bool) : SOper := ⟨some d, op, none, some (t, w), 0⟩
abbrev Of (d : Nat) (op : SOp) (t : Nat) (w : Bool) (b : Nat) : SOper := ⟨some d, op, none, some (t, w), b⟩
end Go.Proofs.Yticeaegpkpjjeaa
