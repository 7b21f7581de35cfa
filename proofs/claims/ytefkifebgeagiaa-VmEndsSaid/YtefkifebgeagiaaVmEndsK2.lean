/-
  Texts joined: XShG XShH XShI XShM XShN XShO XShP XShAb XCvm XShJ XShK XShL XShR XShS. No condition.
-/
import Derived.Orders
import Derived.Test.YtefkifebgeagiaaProg
import Derived.Test.YtefkifebgeagiaaVmEndsK1
namespace Go.Proofs.Ytefkifebgeagiaa
set_option linter.all false
open Go.RowKit
structure HeapOk (O : Nat → Prop) (ρ : qaau) (fp : Nat → Nat → Prop) (hp : Hp) (w : World) : Prop where
 objs : ∀ id o, geth hp id = some o → ObjRep w (fun k => O k ∨ Live hp fp k) ρ id (fp id) o
 disj : ∀ id id' o o', id ≠ id' → geth hp id = some o → geth hp id' = some o' → ∀ k, fp id k → ¬ fp id' k
 lt : ∀ k, Live hp fp k → k < w.heap.size ∧ ¬ O k
 O_lt : ∀ k, O k → k < w.heap.size
def Enters (P : Program) (f : FuncId) : Prop := ∀ args (w : World), (callFunc f args).run P w = .ok (.enter f args) w
def Meth (P : Program) (g : Nat → Option SObj) (t : TypeId) (x : SV) (nm : String) (f : FuncId) (x' : SV) : Prop :=
 ∀ (w : World) (A : Nat → Prop) (ρ : qaau) (v : Value), (∀ id o, g id = some o → ∃ fp, ObjRep w A ρ id fp o) → RepV w A ρ x v → ∃ v', (method (P.types.size + Made.depth) t v nm).run P w = .ok (f, v') w ∧ RepV w A ρ x' v'
structure SCalls (P : Program) (f : FuncId) (args : List SV) (h1 : Hp) (q : Nat) (r : SV) (h2 : Hp) (n : Nat := 8) : Prop where
 ent : Enters P f
 does : ∀ (O : Nat → Prop) (ρ : qaau) (fp : Nat → Nat → Prop) (w : World) (vs : List Value), HeapOk O ρ fp h1 w → Reps w (fun k => O k ∨ Live h1 fp k) ρ args vs → (∀ id, q ≤ id → id < q + n → ρ id = none) →
  Calls P f vs.toArray w fun e w' => ∃ v ρ' fp', e = .returned v ∧ HeapOk O ρ' fp' h2 w' ∧ RepV w' (fun k => O k ∨ Live h2 fp' k) ρ' r v ∧ Step (Live h1 fp) w w' ∧
   (∀ id p, ρ id = some p → ρ' id = some p) ∧ (∀ id, ρ' id ≠ none → ρ id ≠ none ∨ (q ≤ id ∧ id < q + n)) ∧ ∀ id o, geth h2 id = some o → ∀ k, fp' id k → Live h1 fp k ∨ w.heap.size ≤ k
def dels : Hp → Hp → Hp → Hp
 | h, [], _ => h
 | h, (i, _) :: r, h2 => dels (match geth h2 i with | some _ => h | none => delh h i) r h2
def adds : Hp → Hp → Hp
 | h, [] => h
 | h, (i, o) :: r => adds (puth h i o) r
def qabl (hp h1 h2 : Hp) : Hp := adds (dels hp h1 h2) h2
def Uniq : Hp → Prop
 | [] => True
 | (i, _) :: r => geth r i = none ∧ Uniq r
def SubH (hp : Hp) : Hp → Prop
 | [] => True
 | (i, o) :: r => geth hp i = some o ∧ SubH hp r
theorem SubH.get {hp : Hp} : ∀ {h1 : Hp}, SubH hp h1 → ∀ id o, geth h1 id = some o → geth hp id = some o
 | [], _, id, o, h => by cases h
 | (i, x) :: r, h, id, o, hg => by
  simp only [geth] at hg
  split at hg
  ·rename_i e; subst e; cases hg; exact h.1
  ·exact SubH.get h.2 id o hg
theorem qaia : ∀ (h1 hp h2 : Hp) (id : Nat), geth (dels hp h1 h2) id = if geth h1 id ≠ none ∧ geth h2 id = none then none else geth hp id
 | [], hp, h2, id => by simp [dels, geth]
 | (i, x) :: r, hp, h2, id => by
  rw [dels, qaia r]
  by_cases e : i = id
  ·subst e
   cases h : geth h2 i with
   | some o => simp [geth]
   | none => simp [geth, qaea]
  ·cases h : geth h2 i with
   | some o => simp [geth, e]
   | none => simp [geth, e, qaea, Ne.symm e]
theorem qaib : ∀ (h2 hp : Hp), Uniq h2 → ∀ id, geth (adds hp h2) id = match geth h2 id with | some o => some o | none => geth hp id
 | [], hp, _, id => rfl
 | (i, x) :: r, hp, hu, id => by
  rw [adds, qaib r _ hu.2]
  by_cases e : i = id
  ·subst e
   rw [hu.1]; simp [geth, qaa8]
  ·simp only [geth, if_neg e]
   split
   ·rfl
   ·rw [qaa8, if_neg (Ne.symm e)]
theorem qadr {hp h1 h2 : Hp} (hu : Uniq h2) (id : Nat) : geth (qabl hp h1 h2) id = match geth h2 id with | some o => some o | none => if geth h1 id ≠ none then none else geth hp id := by
 unfold qabl
 rw [qaib _ _ hu, qaia]
 cases h : geth h2 id with
 | some o => rfl
 | none => simp
variable {X : Cx} {ρ : qaau} {fp : Nat → Nat → Prop} {hp : Hp} {w : World} {N : Nat} {a : Act} {sl : Sl}
theorem ObjRep.weaken {A A' : Nat → Prop} {id : Nat} {F : Nat → Prop} {o : SObj} (h : ObjRep w A ρ id F o) (hA : ∀ k, A' k → k < w.heap.size → A k) : ObjRep w A' ρ id F o :=
 h.mono ⟨.refl _ _, hA, fun _ _ h => h⟩ fun _ _ => rfl
theorem Reps.weaken {A A' : Nat → Prop} {x : List SV} {v : List Value} (h : Reps w A ρ x v) (hA : ∀ k, A' k → k < w.heap.size → A k) : Reps w A' ρ x v := h.mono (.refl _ _) hA fun _ _ h => h
def Rest (X : Cx) (fp : Nat → Nat → Prop) (hp h1 : Hp) (k : Nat) : Prop := X.O k ∨ ∃ id o, geth hp id = some o ∧ geth h1 id = none ∧ fp id k
theorem Rest.av {h1 : Hp} (hsub : ∀ id o, geth h1 id = some o → geth hp id = some o) (k : Nat) : (Rest X fp hp h1 k ∨ Live h1 fp k) ↔ Av X hp fp k := by
 constructor
 ·rintro ((h | ⟨id, o, h1, _, h3⟩) | ⟨id, o, h1, h2⟩)
  ·exact .inl h
  ·exact .inr ⟨id, o, h1, h3⟩
  ·exact .inr ⟨id, o, hsub _ _ h1, h2⟩
 ·rintro (h | ⟨id, o, h3, h4⟩)
  ·exact .inl (.inl h)
  ·cases e : geth h1 id with
   | none => exact .inl (.inr ⟨id, o, h3, e, h4⟩)
   | some o' => exact .inr ⟨id, o', e, h4⟩
theorem SimH.part (h : SimH X ρ fp hp w) {h1 : Hp} (hsub : ∀ id o, geth h1 id = some o → geth hp id = some o) : HeapOk (Rest X fp hp h1) ρ fp h1 w := by
 refine ⟨fun id o ho => (h.objs id o (hsub _ _ ho)).weaken fun k hk _ => (Rest.av hsub k).1 hk, fun id id' o o' hne ho ho' => h.disj id id' o o' hne (hsub _ _ ho) (hsub _ _ ho'), ?_, ?_⟩
 ·rintro k ⟨id, o, ho, hk⟩
  have ht := h.turn id o (hsub _ _ ho) k hk
  refine ⟨ht.2, ?_⟩
  rintro (hO | ⟨id', o', ho', hn, hk'⟩)
  ·rcases ht.1 with hM | hM
   ·exact X.O_M k hO hM
   ·exact absurd (X.O_lt k hO) (Nat.not_lt_of_le hM)
  ·have hne : id ≠ id' := fun e => by rw [e, hn] at ho; cases ho
   exact h.disj id id' o o' hne (hsub _ _ ho) ho' k hk hk'
 ·rintro k (hO | ⟨id', o', ho', hn, hk'⟩)
  ·exact Nat.lt_of_lt_of_le (X.O_lt k hO) h.step.size
  ·exact (h.turn id' o' ho' k hk').2
theorem SimH.called (h : SimH X ρ fp hp w) {h1 h2 : Hp} (hsub : ∀ id o, geth h1 id = some o → geth hp id = some o) (hu : Uniq h2) {ρ' : qaau} {fp' : Nat → Nat → Prop} {w' : World} {q n : Nat} (hq : X.m ≤ q)
  (hk : HeapOk (Rest X fp hp h1) ρ' fp' h2 w') (hst : Step (Live h1 fp) w w') (hρ : ∀ id p, ρ id = some p → ρ' id = some p) (hn : ∀ id, ρ' id ≠ none → ρ id ≠ none ∨ (q ≤ id ∧ id < q + n))
  (hfp : ∀ id o, geth h2 id = some o → ∀ k, fp' id k → Live h1 fp k ∨ w.heap.size ≤ k) :
  SimH X ρ' (fun id k => (geth h2 id ≠ none ∧ fp' id k) ∨ (geth h2 id = none ∧ fp id k)) (qabl hp h1 h2) w' ∧ Pres w (Av X hp fp) ρ w' (Av X (qabl hp h1 h2) (fun id k => (geth h2 id ≠ none ∧ fp' id k) ∨ (geth h2 id = none ∧ fp id k))) ρ' ∧
   ∀ k, Av X (qabl hp h1 h2) (fun id k => (geth h2 id ≠ none ∧ fp' id k) ∨ (geth h2 id = none ∧ fp id k)) k → Rest X fp hp h1 k ∨ Live h2 fp' k := by
 have e2 : ∀ id o, geth h2 id = some o → (fun k => (geth h2 id ≠ none ∧ fp' id k) ∨ (geth h2 id = none ∧ fp id k)) = fp' id := fun id o ho => by
  funext k; simp [ho]
 have e0 : ∀ id, geth h2 id = none → (fun k => (geth h2 id ≠ none ∧ fp' id k) ∨ (geth h2 id = none ∧ fp id k)) = fp id := fun id ho => by
  funext k; simp [ho]
 have hav : ∀ k, Av X (qabl hp h1 h2) (fun id k => (geth h2 id ≠ none ∧ fp' id k) ∨ (geth h2 id = none ∧ fp id k)) k → Rest X fp hp h1 k ∨ Live h2 fp' k := by
  rintro k (hO | ⟨id, o, ho, hk'⟩)
  ·exact .inl (.inl hO)
  ·rw [qadr hu] at ho
   cases e : geth h2 id with
   | some o' => rcases hk' with ⟨_, hk'⟩ | ⟨h3, _⟩
                ·exact .inr ⟨id, o', e, hk'⟩
                ·rw [e] at h3; cases h3
   | none =>
    rw [e] at ho
    simp only at ho
    split at ho
    ·cases ho
    ·rename_i h1n
     rcases hk' with ⟨h3, _⟩ | ⟨_, hk'⟩
     ·exact absurd e h3
     ·exact .inl (.inr ⟨id, o, ho, by simpa using h1n, hk'⟩)
 obtain ⟨q1, q2⟩ := h.change (hp' := qabl hp h1 h2) (ρ' := ρ') (fp' := fun id k => (geth h2 id ≠ none ∧ fp' id k) ∨ (geth h2 id = none ∧ fp id k)) (S := Live h1 fp) (fun id => geth h1 id ≠ none) (fun id => geth h2 id ≠ none) hst
  (fun k ⟨id, o, ho, hk'⟩ => ⟨id, o, hsub _ _ ho, hk', by rw [ho]; simp⟩)
  (fun id o ho hnew => by
   have e : geth h2 id = none := by simpa using hnew
   rw [qadr hu, e] at ho
   simp only at ho
   split at ho
   ·cases ho
   ·rename_i h3; exact ⟨ho, h3, e0 id e⟩)
  hρ
  (fun id hid => by
   cases e : ρ id with
   | some p => exact hρ _ _ e
   | none =>
    cases e' : ρ' id with
    | none => rfl
    | some p => rcases hn id (by rw [e']; simp) with h3 | h3
                ·exact absurd e h3
                ·omega)
  (fun id o hnew ho k hk' => by
   obtain ⟨o', e⟩ := Option.ne_none_iff_exists'.1 hnew
   have hk2 : fp' id k := by rw [← e2 id o' e]; exact hk'
   refine ⟨?_, (hk.lt k ⟨id, o', e, hk2⟩).1⟩
   rcases hfp id o' e k hk2 with ⟨j, oj, h3, h4⟩ | h3
   ·exact .inl ⟨j, oj, hsub _ _ h3, h4, by rw [h3]; simp⟩
   ·exact .inr h3)
  (fun id id' o o' hnew hnew' hne _ _ k hk1 hk2 => by
   obtain ⟨x, e⟩ := Option.ne_none_iff_exists'.1 hnew
   obtain ⟨y, e'⟩ := Option.ne_none_iff_exists'.1 hnew'
   have a1 : fp' id k := by rw [← e2 id x e]; exact hk1
   have a2 : fp' id' k := by rw [← e2 id' y e']; exact hk2
   exact hk.disj id id' x y hne e e' k a1 a2)
  (fun _ id o hnew ho => by
   obtain ⟨x, e⟩ := Option.ne_none_iff_exists'.1 hnew
   rw [qadr hu, e] at ho
   cases ho
   rw [show (fun k => (geth h2 id ≠ none ∧ fp' id k) ∨ (geth h2 id = none ∧ fp id k)) = fp' id from e2 id _ e]
   exact (hk.objs id _ e).weaken fun k hk' _ => hav k hk')
 exact ⟨q1, q2, hav⟩
end Go.Proofs.Ytefkifebgeagiaa
namespace Go.Proofs.Ytefkifebgeagiaa
set_option linter.all false
open Go.RowKit
def putd (l : Sl) (dst : Option Nat) (v : SV) : Sl := match dst with
 | none => l
 | some d => puts l d v
structure Tch where
 rd : List Nat
 wr : List Nat
def idOf : SV → List Nat
 | .ptr id _ | .eptr id _ _ _ | .own id _ | .owno id _ _ _ => [id]
 | _ => []
def SOp.touch (ev : SX → SV) : SOp → List Nat
 | .load x | .loads _ x | .store _ x _ => idOf (ev x)
 | .app _ _ _ s x => idOf (ev s) ++ idOf (ev x)
 | _ => []
def idsH (h : Hp) : List Nat := h.map (·.1)
def SOp1 (P : Program) (o : SOper) (s : SSt) (K : SSt → Tch → Prop) : Prop := match o.cal with
 | some (f, args) => match f.ev s.sl with
  | .fn (.func g) first cap => ∃ h1 r h2 rd n, SCalls P g (first ++ args.map (·.ev s.sl) ++ cap) h1 s.nx r h2 n ∧ SubH s.hp h1 ∧ Uniq h2 ∧ (∀ id ∈ rd, geth h2 id = geth h1 id) ∧
    K ⟨putd s.sl o.dst r, qabl s.hp h1 h2, s.nx + n⟩ ⟨rd, (idsH h1 ++ idsH h2).filter fun i => !rd.contains i⟩
  | .fn (.method nm) [] [] => match (args.map (fun x : SX => x.ev s.sl) : List SV) with
   | .ifc t x :: az => ∃ hm x' g h1 r h2 rd n, SubH s.hp hm ∧ Meth P (geth hm) t x nm g x' ∧ SCalls P g (x' :: az) h1 s.nx r h2 n ∧ SubH s.hp h1 ∧ Uniq h2 ∧ (∀ id ∈ rd, geth h2 id = geth h1 id) ∧
    K ⟨putd s.sl o.dst r, qabl s.hp h1 h2, s.nx + n⟩ ⟨idsH hm ++ rd, (idsH h1 ++ idsH h2).filter fun i => !rd.contains i⟩
   | _ => False
  | _ => False
 | none => match o.op.run (·.ev s.sl) (geth s.hp) s.nx with
  | some (v, u, _) => K ⟨putd s.sl o.dst v, upds s.hp u, s.nx + 1⟩ ⟨o.op.touch (·.ev s.sl), u.map (·.1)⟩
  | none => False
def SSt.skip (s : SSt) (o : SOper) : SSt := ⟨putd s.sl o.dst (.tup []), s.hp, s.nx⟩
def SOps (P : Program) : List SOper → SSt → List Tch → (SSt → List Tch → Prop) → Prop
 | [], s, tr, Q => Q s tr
 | o :: os, s, tr, Q => match o.grd with
  | none => SOp1 P o s fun s' x => SOps P os s' (x :: tr) Q
  | some (t, want) => match gets s.sl t with
   | .bool b => (b = want → SOp1 P o s fun s' x => SOps P os s' (x :: tr) Q) ∧ (b ≠ want → SOps P os (s.skip o) (⟨[], []⟩ :: tr) Q)
   | .tup [] => SOps P os (s.skip o) (⟨[], []⟩ :: tr) Q
   | _ => False
structure SimF (X : Cx) (ρ : qaau) (fp : Nat → Nat → Prop) (s : SSt) (a : Act) (w : World) : Prop where
 sim : Sim X ρ fp s a w
 fresh : ∀ id, s.nx ≤ id → ρ id = none
 le : X.m ≤ s.nx
theorem Enters.of {P : Program} {f : FuncId} {fn : Func} (hf : P.funcs[f]? = some fn) (hb : fn.body.isSome = true) (hn : (fn.name == "runtime.NumGoroutine") = false) : Enters P f := fun args w => by
 have hb' : fn.body.isNone = false := by cases h : fn.body <;> simp_all
 unfold callFunc
 simp only [Sem.run_bind, run_program, Result.andThen_ok, hf, hn, hb', Bool.false_eq_true, if_false, Sem.run_pure]
variable {X : Cx} {ρ : qaau} {fp : Nat → Nat → Prop} {w : World} {a : Act} {s : SSt}
theorem Sim.put (h : Sim X ρ fp s a w) {ρ' : qaau} {fp' : Nat → Nat → Prop} {hp' : Hp} {w' : World} {nx' : Nat} (hh : SimH X ρ' fp' hp' w') (hp : Pres w (Av X s.hp fp) ρ w' (Av X hp' fp') ρ') {v : SV} {v' : Value} (hv : RepV w' (Av X hp' fp') ρ' v v') {dst : Option Nat} (hd : dst.all (· < X.N) = true) :
  Sim X ρ' fp' ⟨putd s.sl dst v, hp', nx'⟩ (a.put dst v') w' := by
 cases dst with
 | none => exact ⟨hh, h.tmps, h.defers, fun t => hp.rep (h.slots t)⟩
 | some d =>
  have hd' : d < a.tmps.size := by rw [h.tmps]; simpa using hd
  refine ⟨hh, by simp [Act.put, h.tmps], h.defers, fun t => ?_⟩
  show RepV w' (Av X hp' fp') ρ' (gets (puts s.sl d v) t) ((a.tmps.setIfInBounds d v').getD t undef)
  rw [qah8]
  by_cases e : t = d
  ·subst e
   rw [if_pos rfl]
   simp [hd']
   exact hv
  ·rw [if_neg e]
   have := hp.rep (h.slots t)
   simpa [Array.getElem?_setIfInBounds_ne (Ne.symm e)] using this
theorem qacp {P : Program} {N : Nat} {ops : Array Oper} {o : Oper} {b : Nat} {so : SOper} (h : qaqq P N ops o b = some so) : so.dst = o.dst ∧ o.dst.all (· < N) = true ∧ cgrd ops o.guard = some so.grd ∧ so.bef = b ∧
  ((so.cal = none ∧ cop P N o.type o.op = some so.op) ∨ (∃ f args g gs tys, so.cal = some (f, args) ∧ o.op = .call { callee := .value g, args := gs, argTypes := tys } ∧ cx N g = some f ∧ gs.toList.mapM (cx N) = some args) ∨ ∃ r args nm g gs tys, so.cal = some (.c (.fn (.method nm) [] []), r :: args) ∧ o.op = .call { callee := .invoke g nm, args := gs, argTypes := tys } ∧ cx N g = some r ∧ gs.toList.mapM (cx N) = some args) := by
 unfold qaqq at h
 split at h
 ·rename_i hd
  split at h
  ·cases h
  ·rename_i g hg
   split at h
   ·rename_i f args tys hop
    simp only [Option.map_eq_some_iff] at h
    obtain ⟨c, hc, rfl⟩ := h
    unfold ccal at hc
    split at hc
    ·rename_i f' l h1 h2
     cases hc
     exact ⟨rfl, hd, hg, rfl, .inr (.inl ⟨f', l, f, args, tys, rfl, hop, h1, h2⟩)⟩
    ·cases hc
   ·rename_i f nm args tys hop
    simp only [Option.map_eq_some_iff] at h
    obtain ⟨c, hc, rfl⟩ := h
    unfold ccal at hc
    split at hc
    ·rename_i f' l h1 h2
     cases hc
     exact ⟨rfl, hd, hg, rfl, .inr (.inr ⟨f', l, nm, f, args, tys, rfl, hop, h1, h2⟩)⟩
    ·cases hc
   ·simp only [Option.map_eq_some_iff] at h
    obtain ⟨op, hop, rfl⟩ := h
    exact ⟨rfl, hd, hg, rfl, .inl ⟨rfl, hop⟩⟩
 ·cases h
theorem Yld.upon {P : Program} {o : Oper} {next : Act → World → Prop} {Q : Exit → Act → World → Prop} {v : Value} {w' : World} (h : Yld ((execOp a.eval o).run P w) v w') (hn : next (a.put o.dst v) w') : o.wp P a w next Q := by
 unfold Oper.wp
 rcases h with h | ⟨h, rfl⟩ <;> rw [h] <;> exact hn
theorem qafe {P : Program} {w : World} {A : Nat → Prop} {ρ : qaau} {g0 : Nat → Option SObj} (hobj : ∀ id o, g0 id = some o → ∃ fp, ObjRep w A ρ id fp o) {t : TypeId} {x x' : SV} {nm : String} {g : FuncId} (hM : Meth P g0 t x nm g x') (hent : Enters P g) {az : List SV} {vals : List Value} (hr : Reps w A ρ (.ifc t x :: az) vals) :
  ∃ v' avs, (invoke (.fn (.method nm) #[]) vals.toArray).run P w = .ok (.enter g (v' :: avs).toArray) w ∧ Reps w A ρ (x' :: az) (v' :: avs) := by
 obtain ⟨vx, avs, rfl, rx, ras⟩ := hr.cons_inv
 cases rx with
 | ifc rx =>
  rename_i v
  obtain ⟨v', h1, h2⟩ := hM w A ρ v hobj rx
  refine ⟨v', avs, ?_, Reps.cons h2 ras⟩
  have e0 : (Value.iface t v :: avs).toArray[0]? = some (.iface t v) := by simp
  have e1 : (Value.iface t v :: avs).toArray.extract 1 (Value.iface t v :: avs).toArray.size = avs.toArray := by simp
  have e2 : (#[v'] ++ avs.toArray) = (v' :: avs).toArray := by simp
  have hp : (program : Sem Program).run P w = .ok P w := rfl
  simp only [invoke, e0, callMethod, Sem.run_bind, hp, Result.andThen_ok, e1, h1, e2]
  exact hent _ _
theorem op1_ok {ops : Array Oper} {o : Oper} {b : Nat} {so : SOper} (hc : qaqq X.P X.N ops o b = some so) {K : SSt → Tch → Prop} (hk : SOp1 X.P so s K) (h : SimF X ρ fp s a w) {next : Act → World → Prop} {Q : Exit → Act → World → Prop}
  (hn : ∀ s' x ρ' fp' a' w', K s' x → SimF X ρ' fp' s' a' w' → next a' w') : o.wp X.P a w next Q := by
 obtain ⟨hdst, hd, _, _, hop⟩ := qacp hc
 unfold SOp1 at hk
 rcases hop with ⟨hcal, hop⟩ | ⟨f, args, g, gs, tys, hcal, hop, hf, hargs⟩ | ⟨r, args, nm, g, gs, tys, hcal, hop, hf, hargs⟩
 ·rw [hcal] at hk
  simp only at hk
  split at hk
  ·rename_i v u nx' hr
   obtain ⟨v', w', h1, ρ', fp', h2, h3, h4, h5⟩ := op_ok h.sim.h h.sim.slots hop h.le (h.fresh _ (Nat.le_refl _)) hr
   refine (h1 o rfl).upon (hn _ _ ρ' fp' _ _ hk ⟨?_, fun id hid => ?_, ?_⟩)
   ·have := h.sim.put (nx' := s.nx + 1) h2 h4 h3 (dst := so.dst) (by rw [hdst]; exact hd)
    rw [hdst] at this ⊢; exact this
   ·cases e : ρ' id with
    | none => rfl
    | some p =>
     simp only at hid
     rcases h5 id (by rw [e]; simp) with h6 | h6
     ·exact absurd (h.fresh id (by omega)) h6
     ·omega
   ·have := h.le; simp only; omega
  ·cases hk
 all_goals
  have fin : ∀ {g' : FuncId} {args' : List SV} {h1 h2 : Hp} {r : SV} {nn : Nat} {tch : Tch} (vals : List Value), SCalls X.P g' args' h1 s.nx r h2 nn → SubH s.hp h1 → Uniq h2 → Reps w (Av X s.hp fp) ρ args' vals → (execOp a.eval o).run X.P w = .ok (.enter g' vals.toArray) w → K ⟨putd s.sl so.dst r, qabl s.hp h1 h2, s.nx + nn⟩ tch → o.wp X.P a w next Q := by
   rintro g' args' h1 h2 r nn tch vals ⟨hent, hcall⟩ hsub hu hreps0 hrun hk
   have hsub' := hsub.get
   have hav : ∀ k, (Rest X fp s.hp h1 k ∨ Live h1 fp k) → Av X s.hp fp k := fun k hk => (Rest.av hsub' k).1 hk
   have hreps := hreps0.weaken fun k hk _ => hav k hk
   have := hcall (Rest X fp s.hp h1) ρ fp w _ (h.sim.h.part hsub') hreps (fun id h3 _ => h.fresh id h3)
   unfold Oper.wp
   rw [hrun, Oper.upon_enter]
   refine this.mono ?_
   rintro e w' ⟨v, ρ', fp', rfl, q1, q2, q3, q4, q5, q6⟩
   obtain ⟨p1, p2, p3⟩ := h.sim.h.called hsub' hu (q := s.nx) h.le q1 q3 q4 q5 q6
   refine hn _ _ ρ' (fun id k => (geth h2 id ≠ none ∧ fp' id k) ∨ (geth h2 id = none ∧ fp id k)) _ _ hk ⟨?_, fun id hid => ?_, ?_⟩
   ·have := h.sim.put (nx' := s.nx + nn) p1 p2 (q2.weaken fun k hk _ => p3 k hk) (dst := so.dst) (by rw [hdst]; exact hd)
    rw [hdst] at this ⊢; exact this
   ·cases e : ρ' id with
    | none => rfl
    | some p =>
     simp only at hid
     rcases q5 id (by rw [e]; simp) with h6 | h6
     ·exact absurd (h.fresh id (by omega)) h6
     ·omega
   ·have := h.le; simp only; omega
  have hobj : ∀ {hm : Hp}, SubH s.hp hm → ∀ id o, geth hm id = some o → ∃ fp', ObjRep w (Av X s.hp fp) ρ id fp' o := fun hs id o ho => ⟨_, h.sim.h.objs id o (hs.get id o ho)⟩
 ·rw [hcal] at hk
  simp only at hk
  have rf := qaaq hf h.sim.slots
  have rargs := qadh hargs h.sim.slots
  generalize hgv : a.eval g = gv at rf
  split at hk
  ·rename_i g' first cap hfv
   obtain ⟨h1, r, h2, rd, nn, hS, hsub, hu, _, hk⟩ := hk
   rw [hfv] at rf
   cases rf with
   | fn l1 l2 r1 r2 =>
    rename_i vs us
    refine fin (vs ++ gs.toList.map a.eval ++ us) hS hsub hu (Reps.append (Reps.append ⟨l1, r1⟩ rargs) ⟨l2, r2⟩) ?_ hk
    have e1 : (vs.toArray ++ gs.map a.eval ++ us.toArray) = (vs ++ gs.toList.map a.eval ++ us).toArray := by apply Array.ext'; simp
    simp only [execOp, hop, resolve, hgv, Deferred.ofValue, Sem.run_bind, Sem.run_pure, Result.andThen_ok, invoke, e1]
    exact hS.ent _ _
  ·rename_i nm hfv
   split at hk
   ·rename_i t x az hav
    obtain ⟨hm, x', g', h1, r, h2, rd, nn, hsm, hM, hS, hsub, hu, _, hk⟩ := hk
    rw [hfv] at rf
    cases rf with
    | fn l1 l2 r1 r2 =>
     rename_i vs us
     obtain rfl := List.eq_nil_of_length_eq_zero l1.symm
     obtain rfl := List.eq_nil_of_length_eq_zero l2.symm
     rw [show args.map (·.ev s.sl) = .ifc t x :: az from hav] at rargs
     obtain ⟨v', avs, h3, h4⟩ := qafe (hobj hsm) hM hS.ent rargs
     refine fin (v' :: avs) hS hsub hu h4 ?_ hk
     have e1 : (([] : List Value).toArray ++ gs.map a.eval) = (gs.toList.map a.eval).toArray := by apply Array.ext'; simp
     have e2 : ([] : List Value).toArray = #[] := rfl
     simp only [execOp, hop, resolve, hgv, Deferred.ofValue, Sem.run_bind, Sem.run_pure, Result.andThen_ok, e1]
     exact h3
   ·cases hk
  ·cases hk
 ·rw [hcal] at hk
  simp only [SX.ev] at hk
  have rf := qaaq hf h.sim.slots
  have rargs := qadh hargs h.sim.slots
  split at hk
  ·rename_i t x az hav
   obtain ⟨hm, x', g', h1, rr, h2, rd, nn, hsm, hM, hS, hsub, hu, _, hk⟩ := hk
   have rall : Reps w (Av X s.hp fp) ρ (.ifc t x :: az) (a.eval g :: gs.toList.map a.eval) := by
    have := Reps.cons rf rargs
    rw [List.map_cons] at hav
    have e : r.ev s.sl :: args.map (·.ev s.sl) = .ifc t x :: az := hav
    rw [e] at this; exact this
   obtain ⟨v', avs, h3, h4⟩ := qafe (hobj hsm) hM hS.ent rall
   refine fin (v' :: avs) hS hsub hu h4 ?_ hk
   have e1 : (#[a.eval g] ++ gs.map a.eval) = (a.eval g :: gs.toList.map a.eval).toArray := by apply Array.ext'; simp
   simp only [execOp, hop, resolve, Sem.run_bind, Sem.run_pure, Result.andThen_ok, e1]
   exact h3
  ·cases hk
theorem qagl {ops : Array Oper} {o : Oper} {so : SOper} (hg : cgrd ops o.guard = some so.grd) (h : Sim X ρ fp s a w) :
  (so.grd = none → Region.wanted o (yielded ops a.tmps) = true) ∧ ∀ t want, so.grd = some (t, want) → (∀ b, gets s.sl t = .bool b → Region.wanted o (yielded ops a.tmps) = decide (b = want)) ∧ (gets s.sl t = .tup [] → Region.wanted o (yielded ops a.tmps) = false) := by
 cases hgd : o.guard with
 | none =>
  rw [hgd] at hg
  simp only [cgrd, Option.some.injEq] at hg
  rw [← hg]
  exact ⟨(fun _ => by simp [Region.wanted, hgd]), (fun t want e => by cases e)⟩
 | some jw =>
  obtain ⟨j, want'⟩ := jw
  rw [hgd] at hg
  simp only [cgrd] at hg
  split at hg
  ·rename_i t ht
   injection hg with hg
   rw [← hg]
   refine ⟨(fun e => by cases e), fun t' want e => ?_⟩
   cases e
   have hs := h.slots t
   refine ⟨fun b hb => ?_, fun hb => ?_⟩
   ·rw [hb] at hs
    have hv : a.tmps.getD t undef = .bool b := by generalize a.tmps.getD t undef = v at hs; cases hs; rfl
    have hv2 : a.tmps[t]? = some (.bool b) := by
     cases e : a.tmps[t]? with
     | none => rw [Array.getD_eq_getD_getElem?, e] at hv; cases hv
     | some x => rw [Array.getD_eq_getD_getElem?, e] at hv; rw [← hv]; rfl
    simp only [Region.wanted, hgd, yielded, ht, Option.bind_some, hv2]
    cases b <;> cases want' <;> rfl
   ·rw [hb] at hs
    have hv : a.tmps.getD t undef = .tuple #[] := by
     generalize a.tmps.getD t undef = v at hs
     cases hs with
     | tup hl _ => have := List.eq_nil_of_length_eq_zero hl.symm; rw [this]
    have hv2 : ∀ b, a.tmps[t]? ≠ some (.bool b) := fun b e => by
     rw [Array.getD_eq_getD_getElem?, e] at hv; cases hv
    simp only [Region.wanted, hgd, yielded, ht, Option.bind_some]
    first | rfl | (split <;> first | rfl | (rename_i b hb'; exact absurd hb' (hv2 b)) | simp)
  ·cases hg
theorem Sim.skip (h : SimF X ρ fp s a w) {so : SOper} {dst : Option Nat} (hdst : so.dst = dst) (hd : dst.all (· < X.N) = true) : SimF X ρ fp (s.skip so) (a.put dst undef) w := by
 subst hdst
 exact ⟨h.sim.put (nx' := s.nx) h.sim.h (.refl _ _ _) (RepV.tup (cs := []) (vs := []) rfl (by simp)) hd, h.fresh, h.le⟩
theorem qac5 {P : Program} {N : Nat} {ops : Array Oper} {o : Oper} {os : List Oper} {bs : List Nat} {sos : List SOper} (h : qac9 P N ops (o :: os) bs = some sos) : ∃ so r, sos = so :: r ∧ qaqq P N ops o (bs.headD 0) = some so ∧ qac9 P N ops os bs.tail = some r := by
 simp only [qac9, Option.bind_eq_bind, Option.bind_eq_some_iff, Option.some.injEq] at h
 obtain ⟨so, h1, r, h2, rfl⟩ := h
 exact ⟨so, r, rfl, h1, h2⟩
theorem qao4 {ops : Array Oper} {Q : SSt → List Tch → Prop} {R : Exit → Act → World → Prop} (hQ : ∀ s tr ρ fp a w, Q s tr → SimF X ρ fp s a w → R .normal a w) : ∀ (l : List Oper) (bs : List Nat) (sos : List SOper), qac9 X.P X.N ops l bs = some sos → ∀ (s : SSt) (tr : List Tch) (ρ : qaau) (fp : Nat → Nat → Prop) (a : Act) (w : World),
  SOps X.P sos s tr Q → SimF X ρ fp s a w → wpList X.P ops R l a w := by
 intro l
 induction l with
 | nil =>
  intro bs sos hc s tr ρ fp a w hk h
  simp only [qac9, Option.some.injEq] at hc
  subst hc
  exact hQ _ _ _ _ _ _ hk h
 | cons o l ih =>
  intro bs sos hc s tr ρ fp a w hk h
  obtain ⟨so, r, rfl, hso, hr⟩ := qac5 hc
  obtain ⟨hdst, hd, hg, _, _⟩ := qacp hso
  obtain ⟨g1, g2⟩ := qagl hg h.sim
  refine wpList_step fun K hK => ?_
  have run : (SOp1 X.P so s fun s' x => SOps X.P r s' (x :: tr) Q) → o.wp X.P a w K R := fun hk => op1_ok hso hk h fun s' x ρ' fp' a' w' hk' h' => hK _ _ (ih _ _ hr _ _ _ _ _ _ hk' h')
  simp only [SOps] at hk
  cases hgr : so.grd with
  | none =>
   rw [hgr] at hk
   rw [if_pos (g1 hgr)]
   exact run hk
  | some tw =>
   obtain ⟨t, want⟩ := tw
   rw [hgr] at hk
   obtain ⟨g3, g4⟩ := g2 t want hgr
   simp only at hk
   split at hk
   ·rename_i b hb
    rw [g3 b hb]
    by_cases hbw : b = want
    ·rw [if_pos (by simpa using hbw)]
     exact run (hk.1 hbw)
    ·rw [if_neg (by simpa using hbw)]
     exact hK _ _ (ih _ _ hr _ _ _ _ _ _ (hk.2 hbw) (Sim.skip h hdst hd))
   ·rename_i hb
    rw [g4 hb, if_neg (by simp)]
    exact hK _ _ (ih _ _ hr _ _ _ _ _ _ hk (Sim.skip h hdst hd))
   ·cases hk
end Go.Proofs.Ytefkifebgeagiaa
namespace Go.Proofs.Ytefkifebgeagiaa
set_option linter.all false
open Go.RowKit
inductive SExit where
 | normal
 | exit (id : Nat)
 | ret
def Out (X : Cx) (Q : SExit → SSt → Prop) : Exit → Act → World → Prop
 | .normal, a, w => ∃ s ρ fp, Q .normal s ∧ SimF X ρ fp s a w
 | .exit id, a, w => ∃ s ρ fp, Q (.exit id) s ∧ SimF X ρ fp s a w
 | .ret, a, w => ∃ s ρ fp, Q .ret s ∧ SimF X ρ fp s a w
 | _, _, _ => False
def SWp (X : Cx) (c : SCode) (Q : SExit → SSt → Prop) (s : SSt) : Prop :=
 ∀ code, comp X.P X.N code = some c.erase → ∀ ρ fp a w, SimF X ρ fp s a w → code.wp X.P (Out X Q) a w
def Wk (X : Cx) (s s' : SSt) : Prop := ∀ ρ fp a w, SimF X ρ fp s a w → ∃ ρ' fp', SimF X ρ' fp' s' a w
theorem Wk.refl (X : Cx) (s : SSt) : Wk X s s := fun ρ fp _ _ h => ⟨ρ, fp, h⟩
theorem Wk.trans {X : Cx} {s t u : SSt} (h : Wk X s t) (k : Wk X t u) : Wk X s u := fun ρ fp a w hs => let ⟨_, _, h1⟩ := h ρ fp a w hs; k _ _ a w h1
theorem qaa1 {P : Program} {N id : Nat} {ops : Array Oper} {draw : Bool} {c : SCode} (h : comp P N (.region id ops draw) = some c) : ∃ l, c = .reg draw l [] ∧ qac9 P N ops ops.toList (if draw then (Region.before ops).toList else []) = some l ∧ (draw = false ∨ qak6 ops = true) := by
 simp only [comp] at h
 split at h
 ·rename_i hd
  simp only [Option.bind_eq_bind, Option.bind_eq_some_iff, Option.some.injEq] at h
  obtain ⟨l, h1, rfl⟩ := h
  exact ⟨l, rfl, h1, hd⟩
 ·cases h
variable {X : Cx} {s : SSt} {Q : SExit → SSt → Prop}
theorem swp_wk {c : SCode} {s' : SSt} (hw : Wk X s s') (h : SWp X c Q s') : SWp X c Q s := fun code hc ρ fp a w hs => let ⟨_, _, h1⟩ := hw ρ fp a w hs; h code hc _ _ a w h1
theorem Out.mono {Q' : SExit → SSt → Prop} (hq : ∀ e s, Q e s → Q' e s) : ∀ e a w, Out X Q e a w → Out X Q' e a w := by
 intro e a w h
 cases e <;> first | exact h | (obtain ⟨s, ρ, fp, h1, h2⟩ := h; exact ⟨s, ρ, fp, hq _ _ h1, h2⟩)
theorem qaai (h : Q .normal s) : SWp X .skip Q s := fun code hc ρ fp a w hs => by
 by_cases hreg : ∃ id o d, code = .region id o d
 ·obtain ⟨_, _, _, rfl⟩ := hreg
  obtain ⟨_, e, _⟩ := qaa1 hc
  simp [SCode.erase] at e
 cases code <;> (try simp only [comp, SCode.erase, Option.bind_eq_bind, Option.bind_eq_some_iff, Option.some.injEq, reduceCtorEq, and_false, exists_false, exists_const] at hc)
 case skip => exact wp_skip ⟨s, ρ, fp, h, hs⟩
 case label => exact wp_label ⟨s, ρ, fp, h, hs⟩
 case region => exact absurd ⟨_, _, _, rfl⟩ hreg
theorem qae6 {id : Nat} (h : Q (.exit id) s) : SWp X (.exit id) Q s := fun code hc ρ fp a w hs => by
 by_cases hreg : ∃ id o d, code = .region id o d
 ·obtain ⟨_, _, _, rfl⟩ := hreg
  obtain ⟨_, e, _⟩ := qaa1 hc
  simp [SCode.erase] at e
 cases code <;> (try simp only [comp, SCode.erase, Option.bind_eq_bind, Option.bind_eq_some_iff, Option.some.injEq, reduceCtorEq, and_false, exists_false, exists_const, SCode.exit.injEq] at hc)
 case exit => subst hc; exact wp_exit ⟨s, ρ, fp, h, hs⟩
 case region => exact absurd ⟨_, _, _, rfl⟩ hreg
theorem qaah (h : Q .ret s) : SWp X .ret Q s := fun code hc ρ fp a w hs => by
 by_cases hreg : ∃ id o d, code = .region id o d
 ·obtain ⟨_, _, _, rfl⟩ := hreg
  obtain ⟨_, e, _⟩ := qaa1 hc
  simp [SCode.erase] at e
 cases code <;> (try simp only [comp, SCode.erase, Option.bind_eq_bind, Option.bind_eq_some_iff, Option.some.injEq, reduceCtorEq, and_false, exists_false, exists_const] at hc)
 case ret => exact wp_ret ⟨s, ρ, fp, h, hs⟩
 case region => exact absurd ⟨_, _, _, rfl⟩ hreg
def QSeq (X : Cx) (y : SCode) (Q : SExit → SSt → Prop) : SExit → SSt → Prop
 | .normal, s => SWp X y Q s
 | e, s => Q e s
theorem qao2 {x y : SCode} (h : SWp X x (QSeq X y Q) s) : SWp X (.seq x y) Q s := fun code hc ρ fp a w hs => by
 by_cases hreg : ∃ id o d, code = .region id o d
 ·obtain ⟨_, _, _, rfl⟩ := hreg
  obtain ⟨_, e, _⟩ := qaa1 hc
  simp [SCode.erase] at e
 cases code <;> (try simp only [comp, SCode.erase, Option.bind_eq_bind, Option.bind_eq_some_iff, Option.some.injEq, reduceCtorEq, and_false, exists_false, exists_const, SCode.seq.injEq] at hc)
 case seq c d =>
  obtain ⟨c', h1, d', h2, rfl, rfl⟩ := hc
  refine wp_seq (wp_mono (h c h1 ρ fp a w hs) ?_)
  intro e a' w' ho
  cases e with
  | normal => obtain ⟨s', ρ', fp', q1, q2⟩ := ho; exact q1 d h2 ρ' fp' a' w' q2
  | exit id => exact ho
  | ret => exact ho
  | goto l => exact ho.elim
  | panic c => exact ho.elim
  | outgrown => exact ho.elim
 case region => exact absurd ⟨_, _, _, rfl⟩ hreg
theorem qaab {c : SX} {x y : SCode} {b : Bool} (hb : c.ev s.sl = .bool b) (h1 : b = true → SWp X x Q s) (h2 : b = false → SWp X y Q s) : SWp X (.cond c x y) Q s := fun code hc ρ fp a w hs => by
 by_cases hreg : ∃ id o d, code = .region id o d
 ·obtain ⟨_, _, _, rfl⟩ := hreg
  obtain ⟨_, e, _⟩ := qaa1 hc
  simp [SCode.erase] at e
 cases code <;> (try simp only [comp, SCode.erase, Option.bind_eq_bind, Option.bind_eq_some_iff, Option.some.injEq, reduceCtorEq, and_false, exists_false, exists_const, SCode.cond.injEq] at hc)
 case cond o d e =>
  obtain ⟨o', q1, d', q2, e', q3, rfl, rfl, rfl⟩ := hc
  have r := qaaq q1 hs.sim.slots
  rw [hb] at r
  have hv : a.eval o = .bool b := by generalize a.eval o = v at r; cases r; rfl
  exact wp_cond_split hv (fun hb => h1 hb d q2 ρ fp a w hs) (fun hb => h2 hb e q3 ρ fp a w hs)
 case region => exact absurd ⟨_, _, _, rfl⟩ hreg
def qahv (id : Nat) (Q : SExit → SSt → Prop) : SExit → SSt → Prop
 | .exit i, s => if i = id then Q .normal s else Q (.exit i) s
 | e, s => Q e s
theorem qab8 {id : Nat} {c : SCode} (h : SWp X c (qahv id Q) s) : SWp X (.block id c) Q s := fun code hc ρ fp a w hs => by
 by_cases hreg : ∃ id o d, code = .region id o d
 ·obtain ⟨_, _, _, rfl⟩ := hreg
  obtain ⟨_, e, _⟩ := qaa1 hc
  simp [SCode.erase] at e
 cases code <;> (try simp only [comp, SCode.erase, Option.bind_eq_bind, Option.bind_eq_some_iff, Option.some.injEq, reduceCtorEq, and_false, exists_false, exists_const, SCode.block.injEq] at hc)
 case block i d =>
  obtain ⟨d', h1, rfl, rfl⟩ := hc
  refine wp_block (wp_mono (h d h1 ρ fp a w hs) ?_)
  intro e a' w' ho
  cases e with
  | normal => exact ho
  | exit i' =>
   obtain ⟨s', ρ', fp', q1, q2⟩ := ho
   simp only [qahv] at q1
   simp only [Exit.inBlock]
   split
   ·rename_i e; rw [if_pos e] at q1; exact ⟨s', ρ', fp', q1, q2⟩
   ·rename_i e; rw [if_neg e] at q1; exact ⟨s', ρ', fp', q1, q2⟩
  | ret => exact ho
  | goto l => exact ho.elim
  | panic c => exact ho.elim
  | outgrown => exact ho.elim
 case region => exact absurd ⟨_, _, _, rfl⟩ hreg
def SSt.keep (s : SSt) (live : List Nat) : SSt := ⟨live.map fun t => (t, gets s.sl t), s.hp, s.nx⟩
theorem qanu (sl : Sl) (live : List Nat) (t : Nat) : gets (live.map fun t => (t, gets sl t)) t = if t ∈ live then gets sl t else .any := by
 induction live with
 | nil => rfl
 | cons u l ih =>
  simp only [List.map_cons, gets, ih, List.mem_cons]
  by_cases e : u = t
  ·simp [e]
  ·simp [e, Ne.symm e]
theorem qaj0 (live : List Nat) : Wk X s (s.keep live) := fun ρ fp a w h => ⟨ρ, fp, ⟨h.sim.h, h.sim.tmps, h.sim.defers, fun t => by
 show RepV w _ ρ (gets (live.map fun t => (t, gets s.sl t)) t) _
 rw [qanu]
 split
 ·exact h.sim.slots t
 ·exact .any⟩, h.fresh, h.le⟩
theorem qaac {ops : List SOper} {live : List Nat} (h : SOps X.P ops s [] fun s' _ => Q .normal (s'.keep live)) : SWp X (.reg false ops live) Q s := fun code hc ρ fp a w hs => by
 by_cases hreg : ∃ id o d, code = .region id o d
 ·obtain ⟨id, o, d, rfl⟩ := hreg
  obtain ⟨l, e, h1, _⟩ := qaa1 hc
  simp only [SCode.erase, SCode.reg.injEq, and_true] at e
  obtain ⟨rfl, rfl⟩ := e
  refine wp_region_list ?_
  refine qao4 (Q := fun s' _ => Q .normal (s'.keep live)) ?_ _ _ _ h1 s [] ρ fp a w h hs
  intro s' tr ρ' fp' a' w' hq h'
  obtain ⟨ρ2, fp2, h2⟩ := qaj0 live ρ' fp' a' w' h'
  exact ⟨_, ρ2, fp2, hq, h2⟩
 ·cases code <;> (try simp only [comp, SCode.erase, Option.bind_eq_bind, Option.bind_eq_some_iff, Option.some.injEq, reduceCtorEq, and_false, exists_false, exists_const] at hc)
  case region => exact absurd ⟨_, _, _, rfl⟩ hreg
theorem qak5 {p : Nat → Prop} (h : ∃ n, p n) : ∃ n, p n ∧ ∀ m, p m → n ≤ m := by
 obtain ⟨n, hn⟩ := h
 induction n using Nat.strongRecOn with
 | ind n ih =>
  by_cases h : ∃ m, m < n ∧ p m
  ·obtain ⟨m, h1, h2⟩ := h; exact ih m h1 h2
  ·exact ⟨n, hn, fun m hm => Nat.le_of_not_lt fun hl => h ⟨m, hl, hm⟩⟩
def QLoop (X : Cx) (I : SSt → Nat → Prop) (n : Nat) (Q : SExit → SSt → Prop) : SExit → SSt → Prop
 | .normal, s => ∃ s' m, Wk X s s' ∧ I s' m ∧ m < n
 | e, s => Q e s
theorem qapt {c : SCode} (I : SSt → Nat → Prop) {n : Nat} {s0 : SSt} (hw : Wk X s s0) (h0 : I s0 n) (h : ∀ s n, I s n → SWp X c (QLoop X I n Q) s) : SWp X (.loop c) Q s := fun code hc ρ fp a w hs => by
 by_cases hreg : ∃ id o d, code = .region id o d
 ·obtain ⟨_, _, _, rfl⟩ := hreg
  obtain ⟨_, e, _⟩ := qaa1 hc
  simp [SCode.erase] at e
 cases code <;> (try simp only [comp, SCode.erase, Option.bind_eq_bind, Option.bind_eq_some_iff, Option.some.injEq, reduceCtorEq, and_false, exists_false, exists_const, SCode.loop.injEq] at hc)
 case loop d =>
  obtain ⟨d', h1, rfl⟩ := hc
  obtain ⟨ρ0, fp0, hs0⟩ := hw ρ fp a w hs
  let p : Act → World → Nat → Prop := fun a w n => ∃ s ρ fp, I s n ∧ SimF X ρ fp s a w
  have hmin : ∀ a w, ∃ n, (∃ m, p a w m) → (p a w n ∧ ∀ m, p a w m → n ≤ m) := fun a w => by
   by_cases h : ∃ m, p a w m
   ·obtain ⟨n, hn⟩ := qak5 h; exact ⟨n, fun _ => hn⟩
   ·exact ⟨0, fun h' => absurd h' h⟩
  have hch := fun a => Classical.axiomOfChoice (hmin a)
  obtain ⟨μ, hμ⟩ := Classical.axiomOfChoice hch
  refine wp_loop (fun a w => ∃ n, p a w n) μ ⟨n, s0, ρ0, fp0, h0, hs0⟩ ?_
  intro a w hI
  obtain ⟨⟨s1, ρ1, fp1, q1, q2⟩, q3⟩ := hμ a w hI
  refine wp_mono (h s1 _ q1 d h1 ρ1 fp1 a w q2) ?_
  intro e a' w' ho
  cases e with
  | normal =>
   obtain ⟨s', ρ', fp', ⟨s2, m, r1, r2, r3⟩, r4⟩ := ho
   obtain ⟨ρ2, fp2, r5⟩ := r1 ρ' fp' a' w' r4
   have hp : p a' w' m := ⟨s2, ρ2, fp2, r2, r5⟩
   exact ⟨⟨m, hp⟩, Nat.lt_of_le_of_lt ((hμ a' w' ⟨m, hp⟩).2 m hp) r3⟩
  | exit id => exact ho
  | ret => exact ho
  | goto l => exact ho.elim
  | panic c => exact ho.elim
  | outgrown => exact ho.elim
 case region => exact absurd ⟨_, _, _, rfl⟩ hreg
end Go.Proofs.Ytefkifebgeagiaa
namespace Go.Proofs.Ytefkifebgeagiaa
set_option linter.all false
open Go.RowKit
def SOp.sxs : SOp → List SX
 | .mkifc _ x | .asrt _ _ x | .mv x | .box _ x | .load x | .loads _ x | .nilc x | .un _ x | .conv _ x | .faddr _ x | .field _ _ x | .extr x _ | .len _ x => [x]
 | .pick c a b => [c, a, b]
 | .alloc _ _ => []
 | .build _ ps => ps.map (·.2.2)
 | .mkrow _ _ _ _ ps => ps.map (·.2)
 | .store _ x v | .bin _ x v | .eq _ _ x v | .eqs _ _ x v | .mkslice _ _ _ _ x v | .iaddr _ x v | .iarr _ _ x v | .idx _ _ _ x v | .idxs x v | .app _ _ _ x v | .mm _ x v => [x, v]
 | .slice _ x lo hi | .slstr x lo hi => x :: (lo.toList ++ hi.toList)
 | .mkfn _ a b => a ++ b
theorem qaim {size : Nat} {g g' : Nat → Option SObj} {x : SV} (h : ∀ id ∈ idOf x, g id = g' id) : qafp size g x = qafp size g' x := by
 unfold qafp
 split <;> first | rfl | (rw [h _ (by simp [idOf])])
theorem qane {op : SOp} {ev ev' : SX → SV} {g g' : Nat → Option SObj} {nx : Nat} (h : ∀ x ∈ op.sxs, ev x = ev' x) (hg : ∀ id ∈ op.touch ev, g id = g' id) : op.run ev g nx = op.run ev' g' nx := by
 cases op
 case load x =>
  have e := h x (by simp [SOp.sxs])
  simp only [SOp.touch] at hg
  simp only [SOp.run, ← e]
  split <;> first | rfl | (rename_i hq; rw [hg _ (by rw [hq]; simp [idOf])])
 case loads n x =>
  have e := h x (by simp [SOp.sxs])
  simp only [SOp.touch] at hg
  simp only [SOp.run, ← e]
  split <;> first | rfl | (rename_i hq; rw [hg _ (by rw [hq]; simp [idOf])])
 case store n x v =>
  have e := h x (by simp [SOp.sxs])
  have e2 := h v (by simp [SOp.sxs])
  simp only [SOp.touch] at hg
  simp only [SOp.run, ← e, ← e2]
  split
  ·rfl
  ·split
   ·split <;> first | rfl | (rename_i hq; rw [hg _ (by rw [hq]; simp [idOf])])
   ·rfl
 case app e size bytes s x =>
  have e1 := h s (by simp [SOp.sxs])
  have e2 := h x (by simp [SOp.sxs])
  simp only [SOp.touch] at hg
  simp only [SOp.run, ← e1, ← e2]
  rw [qaim (g := g) (g' := g') fun id hid => hg id (List.mem_append_right _ hid)]
  split
  ·rfl
  ·split
   ·rfl
   ·rename_i hs; rw [hg _ (List.mem_append_left _ (by rw [hs]; simp [idOf]))]
   ·rfl
 case build z ps =>
  have e : (ps.map fun p => (p.1, p.2.1, ev p.2.2)) = ps.map fun p => (p.1, p.2.1, ev' p.2.2) := List.map_congr_left fun p hp => by rw [h p.2.2 (by simp [SOp.sxs]; exact ⟨_, _, hp⟩)]
  simp only [SOp.run, e]
 case mkrow e size n z ps =>
  have e : (ps.map fun p => (p.1, ev p.2)) = ps.map fun p => (p.1, ev' p.2) := List.map_congr_left fun p hp => by rw [h p.2 (by simp [SOp.sxs]; exact ⟨_, hp⟩)]
  simp only [SOp.run, e]
 case mkfn f gs bs =>
  have e1 : gs.map ev = gs.map ev' := List.map_congr_left fun p hp => h p (by simp [SOp.sxs, hp])
  have e2 : bs.map ev = bs.map ev' := List.map_congr_left fun p hp => h p (by simp [SOp.sxs, hp])
  simp only [SOp.run, e1, e2]
 case slice size x lo hi =>
  have e := h x (by simp [SOp.sxs])
  have e1 : lo.map ev = lo.map ev' := by cases lo with | none => rfl | some y => simp [h y (by simp [SOp.sxs])]
  have e2 : hi.map ev = hi.map ev' := by cases hi with | none => rfl | some y => simp [h y (by simp [SOp.sxs])]
  simp only [SOp.run, ← e, e1, e2]
 case slstr x lo hi =>
  have e := h x (by simp [SOp.sxs])
  have e1 : lo.map ev = lo.map ev' := by cases lo with | none => rfl | some y => simp [h y (by simp [SOp.sxs])]
  have e2 : hi.map ev = hi.map ev' := by cases hi with | none => rfl | some y => simp [h y (by simp [SOp.sxs])]
  simp only [SOp.run, ← e, e1, e2]
 all_goals simp only [SOp.sxs, List.mem_cons, List.not_mem_nil, or_false, forall_eq_or_imp, forall_eq, false_implies, implies_true] at h
 all_goals first
  | (obtain ⟨e1, e2, e3⟩ := h; simp only [SOp.run, ← e1, ← e2, ← e3]; done)
  | (obtain ⟨e1, e2⟩ := h; simp only [SOp.run, ← e1, ← e2]; done)
  | (simp only [SOp.run, ← h]; done)
  | (simp only [SOp.run]; done)
def qadv : List SX → List Nat
 | [] => []
 | .t n :: l => n :: qadv l
 | .c _ :: l => qadv l
def SOper.reads (o : SOper) : List Nat := (match o.cal with
 | some (f, args) => qadv (f :: args)
 | none => qadv o.op.sxs) ++ (match o.grd with
 | some (t, _) => [t]
 | none => [])
theorem qae2 {l l' : Sl} : ∀ {xs : List SX}, (∀ t ∈ qadv xs, gets l t = gets l' t) → ∀ x ∈ xs, SX.ev l x = SX.ev l' x
 | [], _, x, hx => by cases hx
 | .t n :: xs, h, x, hx => by
  rcases List.mem_cons.1 hx with e | e
  ·subst e; exact h n (by simp [qadv])
  ·exact qae2 (xs := xs) (fun t ht => h t (by simp [qadv, ht])) x e
 | .c v :: xs, h, x, hx => by
  rcases List.mem_cons.1 hx with e | e
  ·subst e; rfl
  ·exact qae2 (xs := xs) (fun t ht => h t (by simpa [qadv] using ht)) x e
end Go.Proofs.Ytefkifebgeagiaa
namespace Go.Proofs.Ytefkifebgeagiaa
set_option linter.all false
open Go.RowKit
structure Eff where
 dst : Option Nat
 v : SV
 wr : List Nat
 c : Nat → Option SObj
def Eff.at (e : Eff) (t t' : SSt) : Prop :=
 (∀ x, gets t'.sl x = if e.dst = some x then e.v else gets t.sl x) ∧ ∀ id, geth t'.hp id = if id ∈ e.wr then e.c id else geth t.hp id
variable {X : Cx} {s : SSt}
def Loc (X : Cx) (ops : Array Oper) (o : Oper) (reads rd : List Nat) (lo hi : Nat) (s : SSt) (e : Eff) : Prop :=
 ∀ (t : SSt) (ρ : qaau) (fp : Nat → Nat → Prop) (a : Act) (w : World), Sim X ρ fp t a w → (∀ y ∈ reads, gets t.sl y = gets s.sl y) → (∀ id, id ∈ rd ∨ id ∈ e.wr → geth t.hp id = geth s.hp id) → (∀ id, lo ≤ id → id < hi → ρ id = none) →
  ∀ (K : Act → World → Prop) (R : Exit → Act → World → Prop), (∀ t' ρ' fp' a' w', e.at t t' → Sim X ρ' fp' t' a' w' → (∀ id, ρ' id ≠ none → ρ id ≠ none ∨ (lo ≤ id ∧ id < hi)) → K a' w') →
   if Region.wanted o (yielded ops a.tmps) = true then o.wp X.P a w K R else K (a.put o.dst undef) w
theorem qac2 (l : Sl) (d : Option Nat) (v : SV) (x : Nat) : gets (putd l d v) x = if d = some x then v else gets l x := by
 cases d with
 | none => simp [putd]
 | some d => simp only [putd, qah8, Option.some.injEq, eq_comm]
def qak1 : Upd → Nat → Option SObj → Option SObj
 | [], _, x => x
 | (i, o) :: u, id, x => qak1 u id (if i = id then o else x)
theorem qad9 : ∀ (u : Upd) (h : Hp) (id : Nat), geth (upds h u) id = qak1 u id (geth h id)
 | [], h, id => rfl
 | (i, some o) :: u, h, id => by
  rw [upds, qad9 u, qaa8, qak1]
  by_cases e : id = i
  ·simp [e]
  ·simp [e, Ne.symm e]
 | (i, none) :: u, h, id => by
  rw [upds, qad9 u, qaea, qak1]
  by_cases e : id = i
  ·simp [e]
  ·simp [e, Ne.symm e]
theorem qah6 {u : Upd} {id : Nat} : ∀ {x}, id ∉ u.map (·.1) → qak1 u id x = x := by
 induction u with
 | nil => intro x _; rfl
 | cons p u ih =>
  obtain ⟨i, o⟩ := p
  intro x h
  simp only [List.map_cons, List.mem_cons, not_or] at h
  rw [qak1, if_neg (Ne.symm h.1)]
  exact ih h.2
theorem qah7 {u : Upd} {id : Nat} : ∀ {x y}, id ∈ u.map (·.1) → qak1 u id x = qak1 u id y := by
 induction u with
 | nil => intro x y h; simp at h
 | cons p u ih =>
  obtain ⟨i, o⟩ := p
  intro x y h
  simp only [List.map_cons, List.mem_cons] at h
  rw [qak1, qak1]
  by_cases e : i = id
  ·simp [e]
  ·rw [if_neg e, if_neg e]
   exact ih (h.resolve_left (Ne.symm e))
theorem qafj : ∀ {h : Hp} {id : Nat} {o : SObj}, geth h id = some o → id ∈ idsH h
 | [], id, o, h => by cases h
 | (i, x) :: r, id, o, h => by
  by_cases e : i = id
  ·subst e; simp [idsH]
  ·simp only [geth, if_neg e] at h
   exact List.mem_cons_of_mem _ (qafj h)
theorem qagk : ∀ {h : Hp} {id : Nat}, id ∈ idsH h → geth h id ≠ none
 | [], id, h => by cases h
 | (i, x) :: r, id, h => by
  by_cases e : i = id
  ·subst e; simp [geth]
  ·simp only [geth, if_neg e]
   simp only [idsH, List.map_cons, List.mem_cons] at h
   exact qagk (h.resolve_left (Ne.symm e))
def Stp (X : Cx) (ops : Array Oper) (o : Oper) (so : SOper) (s s' : SSt) (x : Tch) : Prop :=
 s.nx ≤ s'.nx ∧ ∃ e : Eff, e.dst = so.dst ∧ e.wr = x.wr ∧ e.at s s' ∧ Loc X ops o so.reads x.rd s.nx s'.nx s e
theorem qakh {ops : Array Oper} {o : Oper} {b : Nat} {so : SOper} (hc : qaqq X.P X.N ops o b = some so) (hw : ∀ (t : SSt) ρ fp a w, Sim X ρ fp t a w → (∀ y ∈ so.reads, gets t.sl y = gets s.sl y) → Region.wanted o (yielded ops a.tmps) = false) : Stp X ops o so s (s.skip so) ⟨[], []⟩ := by
 obtain ⟨hdst, hd, _, _, _⟩ := qacp hc
 refine ⟨Nat.le_refl _, ⟨so.dst, .tup [], [], fun _ => none⟩, rfl, rfl, ⟨fun x => qac2 _ _ _ _, fun id => by simp [SSt.skip]⟩, ?_⟩
 intro t ρ fp a w h hr _ _ K R hK
 rw [hw t ρ fp a w h hr]
 simp only [Bool.false_eq_true, if_false]
 refine hK ⟨putd t.sl so.dst (.tup []), t.hp, t.nx⟩ ρ fp _ _ ⟨fun x => qac2 _ _ _ _, fun id => by simp⟩ ?_ (fun id hid => .inl hid)
 have := h.put (nx' := t.nx) h.h (.refl _ _ _) (RepV.tup (cs := []) (vs := []) rfl (by simp)) (dst := so.dst) (by rw [hdst]; exact hd)
 rw [hdst] at this ⊢
 exact this
theorem qao9 {ops : Array Oper} {o : Oper} {b : Nat} {so : SOper} (hc : qaqq X.P X.N ops o b = some so) (hle : X.m ≤ s.nx) {K : SSt → Tch → Prop} (hk : SOp1 X.P so s K) (hw : ∀ (t : SSt) ρ fp a w, Sim X ρ fp t a w → (∀ y ∈ so.reads, gets t.sl y = gets s.sl y) → Region.wanted o (yielded ops a.tmps) = true) : ∃ s' x, K s' x ∧ Stp X ops o so s s' x := by
 obtain ⟨hdst, hd, _, _, hop⟩ := qacp hc
 unfold SOp1 at hk
 rcases hop with ⟨hcal, hop⟩ | ⟨f, args, g, gs, tys, hcal, hop, hf, hargs⟩ | ⟨r, args, nm, g, gs, tys, hcal, hop, hf, hargs⟩
 ·rw [hcal] at hk
  simp only at hk
  split at hk
  ·rename_i v u nx' hr
   refine ⟨_, _, hk, Nat.le_succ _, ⟨so.dst, v, u.map (·.1), fun id => qak1 u id none⟩, rfl, rfl, ⟨fun x => qac2 _ _ _ _, fun id => ?_⟩, ?_⟩
   ·rw [qad9]
    split
    ·exact qah7 ‹_›
    ·exact qah6 ‹_›
   ·intro t ρ fp a w h hrd hobj hfr K' R hK
    rw [if_pos (hw t ρ fp a w h hrd)]
    have hsub : ∀ y ∈ qadv so.op.sxs, gets s.sl y = gets t.sl y := fun y hy => (hrd y (by simp [SOper.reads, hcal, hy])).symm
    have hev := qae2 hsub
    have hr2 : so.op.run (·.ev t.sl) (geth t.hp) s.nx = some (v, u, nx') := by
     rw [← hr]
     exact (qane hev fun id hid => (hobj id (.inl hid)).symm).symm
    obtain ⟨v', w', h1, ρ', fp', h2, h3, h4, h5⟩ := op_ok h.h h.slots hop hle (hfr _ (Nat.le_refl _) (Nat.lt_succ_self _)) hr2
    refine (h1 o rfl).upon (hK ⟨putd t.sl so.dst v, upds t.hp u, t.nx⟩ ρ' fp' _ _ ⟨fun x => qac2 _ _ _ _, fun id => ?_⟩ ?_ (fun id hid => (h5 id hid).imp (fun h => h) fun e => by simp only; omega))
    ·show geth (upds t.hp u) id = _
     rw [qad9]
     split
     ·exact qah7 ‹_›
     ·exact qah6 ‹_›
    ·have := h.put (nx' := t.nx) h2 h4 h3 (dst := so.dst) (by rw [hdst]; exact hd)
     rw [hdst] at this ⊢; exact this
  ·cases hk
 all_goals
  have fin : ∀ {g' : FuncId} {args' : List SV} {h1 h2 : Hp} {r : SV} {nn : Nat} (rd2 rd : List Nat), SCalls X.P g' args' h1 s.nx r h2 nn → SubH s.hp h1 → Uniq h2 → (∀ id ∈ rd, geth h2 id = geth h1 id) → K ⟨putd s.sl so.dst r, qabl s.hp h1 h2, s.nx + nn⟩ ⟨rd2 ++ rd, (idsH h1 ++ idsH h2).filter fun i => !rd.contains i⟩ →
    (∀ (t : SSt) ρ fp (a : Act) w, Sim X ρ fp t a w → (∀ y ∈ so.reads, gets t.sl y = gets s.sl y) → (∀ id ∈ rd2, geth t.hp id = geth s.hp id) → ∃ vals : List Value, (execOp a.eval o).run X.P w = .ok (.enter g' vals.toArray) w ∧ Reps w (Av X t.hp fp) ρ args' vals) → ∃ s' x, K s' x ∧ Stp X ops o so s s' x := by
   rintro g' args' h1 h2 r nn rd2 rd ⟨hent, hcall⟩ hsub hu hrd0 hk hruns
   have mem_ids : ∀ {h : Hp} {id : Nat} {o : SObj}, geth h id = some o → id ∈ idsH h := fun h => qafj h
   have heff : ∀ t : SSt, (∀ id, id ∈ rd ∨ id ∈ (idsH h1 ++ idsH h2).filter (fun i => !rd.contains i) → geth t.hp id = geth s.hp id) → ∀ id, geth (qabl t.hp h1 h2) id = if id ∈ (idsH h1 ++ idsH h2).filter (fun i => !rd.contains i) then geth h2 id else geth t.hp id := by
    intro t ht id
    rw [qadr hu]
    by_cases hin : id ∈ (idsH h1 ++ idsH h2).filter (fun i => !rd.contains i)
    ·rw [if_pos hin]
     cases e : geth h2 id with
     | some o => rfl
     | none =>
      simp only
      split
      ·rfl
      ·rename_i h3
       have h3' : geth h1 id = none := by simpa using h3
       rw [List.mem_filter, List.mem_append] at hin
       exfalso
       rcases hin.1 with h4 | h4
       ·exact qagk h4 h3'
       ·exact qagk h4 e
    ·rw [if_neg hin]
     by_cases hr : id ∈ rd
     ·rw [hrd0 id hr]
      cases e : geth h1 id with
      | none => simp
      | some o =>
       simp only
       rw [ht id (.inl hr), hsub.get id o e]
     ·have hni : id ∉ idsH h1 ++ idsH h2 := fun h3 => hin (List.mem_filter.2 ⟨h3, by simpa using hr⟩)
      rw [List.mem_append, not_or] at hni
      have n1 : geth h1 id = none := by
       cases e : geth h1 id with
       | none => rfl
       | some o => exact absurd (mem_ids e) hni.1
      have n2 : geth h2 id = none := by
       cases e : geth h2 id with
       | none => rfl
       | some o => exact absurd (mem_ids e) hni.2
      rw [n1, n2]; simp
   refine ⟨_, _, hk, by simp only; omega, ⟨so.dst, r, (idsH h1 ++ idsH h2).filter (fun i => !rd.contains i), geth h2⟩, rfl, rfl, ⟨fun x => qac2 _ _ _ _, heff s fun _ _ => rfl⟩, ?_⟩
   intro t ρ fp a w h hrd hobj0 hfr K' R hK
   rw [if_pos (hw t ρ fp a w h hrd)]
   have hobj : ∀ id, id ∈ rd ∨ id ∈ (idsH h1 ++ idsH h2).filter (fun i => !rd.contains i) → geth t.hp id = geth s.hp id := fun id h3 => hobj0 id (h3.imp (fun h4 => List.mem_append_right _ h4) fun h4 => h4)
   obtain ⟨vals, hrun, hreps0⟩ := hruns t ρ fp a w h hrd fun id h3 => hobj0 id (.inl (List.mem_append_left _ h3))
   have hsub' : ∀ id o, geth h1 id = some o → geth t.hp id = some o := fun id o ho => by
    rw [hobj id ?_]
    ·exact hsub.get id o ho
    ·by_cases hr : id ∈ rd
     ·exact .inl hr
     ·exact .inr (List.mem_filter.2 ⟨List.mem_append_left _ (mem_ids ho), by simpa using hr⟩)
   have hav : ∀ k, (Rest X fp t.hp h1 k ∨ Live h1 fp k) → Av X t.hp fp k := fun k hk => (Rest.av hsub' k).1 hk
   have hreps := hreps0.weaken fun k hk _ => hav k hk
   have := hcall (Rest X fp t.hp h1) ρ fp w _ (h.h.part hsub') hreps hfr
   unfold Oper.wp
   rw [hrun, Oper.upon_enter]
   refine this.mono ?_
   rintro e w' ⟨v, ρ', fp', rfl, q1, q2, q3, q4, q5, q6⟩
   obtain ⟨p1, p2, p3⟩ := h.h.called hsub' hu (q := s.nx) hle q1 q3 q4 q5 q6
   refine hK ⟨putd t.sl so.dst r, qabl t.hp h1 h2, t.nx⟩ ρ' (fun id k => (geth h2 id ≠ none ∧ fp' id k) ∨ (geth h2 id = none ∧ fp id k)) _ _ ⟨fun x => qac2 _ _ _ _, heff t hobj⟩ ?_ q5
   have := h.put (nx' := t.nx) p1 p2 (q2.weaken fun k hk _ => p3 k hk) (dst := so.dst) (by rw [hdst]; exact hd)
   rw [hdst] at this ⊢; exact this
  have hobjm : ∀ {hm : Hp} {t : SSt} {ρ : qaau} {fp : Nat → Nat → Prop} {a : Act} {w : World}, SubH s.hp hm → Sim X ρ fp t a w → (∀ id ∈ idsH hm, geth t.hp id = geth s.hp id) → ∀ id o, geth hm id = some o → ∃ fp', ObjRep w (Av X t.hp fp) ρ id fp' o := fun hs h ht id o ho => ⟨_, h.h.objs id o (by rw [ht id (qafj ho)]; exact hs.get id o ho)⟩
 ·rw [hcal] at hk
  simp only at hk
  have hsubt : ∀ {t : SSt}, (∀ y ∈ so.reads, gets t.sl y = gets s.sl y) → ∀ y ∈ qadv (f :: args), gets s.sl y = gets t.sl y := fun hrd y hy => (hrd y (by simp [SOper.reads, hcal, hy])).symm
  split at hk
  ·rename_i g' first cap hfv
   obtain ⟨h1, r, h2, rd, nn, hS, hsub, hu, hrd0, hk⟩ := hk
   refine fin [] rd hS hsub hu hrd0 hk fun t ρ fp a w h hrd _ => ?_
   have hev := qae2 (hsubt hrd)
   have hfv2 : f.ev t.sl = .fn (.func g') first cap := by rw [← hev f (by simp)]; exact hfv
   have hargs2 : args.map (·.ev t.sl) = args.map (·.ev s.sl) := List.map_congr_left fun x hx => (hev x (by simp [hx])).symm
   have rf := qaaq hf h.slots
   rw [hfv2] at rf
   have rargs := qadh hargs h.slots
   rw [hargs2] at rargs
   generalize hgv : a.eval g = gv at rf
   cases rf with
   | fn l1 l2 r1 r2 =>
    rename_i vs us
    refine ⟨vs ++ gs.toList.map a.eval ++ us, ?_, Reps.append (Reps.append ⟨l1, r1⟩ rargs) ⟨l2, r2⟩⟩
    have e1 : (vs.toArray ++ gs.map a.eval ++ us.toArray) = (vs ++ gs.toList.map a.eval ++ us).toArray := by apply Array.ext'; simp
    simp only [execOp, hop, resolve, hgv, Deferred.ofValue, Sem.run_bind, Sem.run_pure, Result.andThen_ok, invoke, e1]
    exact hS.ent _ _
  ·rename_i nm hfv
   split at hk
   ·rename_i tt x az hav
    obtain ⟨hm, x', g', h1, r, h2, rd, nn, hsm, hM, hS, hsub, hu, hrd0, hk⟩ := hk
    refine fin (idsH hm) rd hS hsub hu hrd0 hk fun t ρ fp a w h hrd hrd2 => ?_
    have hev := qae2 (hsubt hrd)
    have hfv2 : f.ev t.sl = .fn (.method nm) [] [] := by rw [← hev f (by simp)]; exact hfv
    have hargs2 : args.map (·.ev t.sl) = args.map (·.ev s.sl) := List.map_congr_left fun x hx => (hev x (by simp [hx])).symm
    have rf := qaaq hf h.slots
    rw [hfv2] at rf
    have rargs := qadh hargs h.slots
    rw [hargs2, show args.map (·.ev s.sl) = .ifc tt x :: az from hav] at rargs
    generalize hgv : a.eval g = gv at rf
    cases rf with
    | fn l1 l2 r1 r2 =>
     rename_i vs us
     obtain rfl := List.eq_nil_of_length_eq_zero l1.symm
     obtain rfl := List.eq_nil_of_length_eq_zero l2.symm
     obtain ⟨v', avs, h3, h4⟩ := qafe (hobjm hsm h hrd2) hM hS.ent rargs
     refine ⟨v' :: avs, ?_, h4⟩
     have e1 : (([] : List Value).toArray ++ gs.map a.eval) = (gs.toList.map a.eval).toArray := by apply Array.ext'; simp
     simp only [execOp, hop, resolve, hgv, Deferred.ofValue, Sem.run_bind, Sem.run_pure, Result.andThen_ok, e1]
     exact h3
   ·cases hk
  ·cases hk
 ·rw [hcal] at hk
  simp only [SX.ev] at hk
  have hsubt : ∀ {t : SSt}, (∀ y ∈ so.reads, gets t.sl y = gets s.sl y) → ∀ y ∈ qadv (r :: args), gets s.sl y = gets t.sl y := fun hrd y hy => (hrd y (by
   have : y ∈ qadv (SX.c (.fn (.method nm) [] []) :: r :: args) := by simpa [qadv] using hy
   simp only [SOper.reads, hcal]; first | exact List.mem_append_right _ (List.mem_append_left _ this) | simp [this])).symm
  split at hk
  ·rename_i tt x az hav
   obtain ⟨hm, x', g', h1, rr, h2, rd, nn, hsm, hM, hS, hsub, hu, hrd0, hk⟩ := hk
   refine fin (idsH hm) rd hS hsub hu hrd0 hk fun t ρ fp a w h hrd hrd2 => ?_
   have hev := qae2 (hsubt hrd)
   have hargs2 : (r :: args).map (·.ev t.sl) = (r :: args).map (·.ev s.sl) := List.map_congr_left fun x hx => (hev x hx).symm
   have rf := qaaq hf h.slots
   have rargs := qadh hargs h.slots
   have rall : Reps w (Av X t.hp fp) ρ (.ifc tt x :: az) (a.eval g :: gs.toList.map a.eval) := by
    have := Reps.cons rf rargs
    have e : (r :: args).map (·.ev s.sl) = .ifc tt x :: az := hav
    rw [← e, ← hargs2]; exact this
   obtain ⟨v', avs, h3, h4⟩ := qafe (hobjm hsm h hrd2) hM hS.ent rall
   refine ⟨v' :: avs, ?_, h4⟩
   have e1 : (#[a.eval g] ++ gs.map a.eval) = (a.eval g :: gs.toList.map a.eval).toArray := by apply Array.ext'; simp
   simp only [execOp, hop, resolve, Sem.run_bind, Sem.run_pure, Result.andThen_ok, e1]
   exact h3
  ·cases hk
end Go.Proofs.Ytefkifebgeagiaa
namespace Go.Proofs.Ytefkifebgeagiaa
set_option linter.all false
open Go.RowKit
def clash (a b : SOper × Tch) : Bool :=
 (match a.1.dst with | some d => b.1.reads.contains d || b.1.dst == some d | none => false) || (match b.1.dst with | some d => a.1.reads.contains d | none => false) ||
  a.2.wr.any (fun i => b.2.rd.contains i || b.2.wr.contains i) || b.2.wr.any fun i => a.2.rd.contains i
def qakz (l : List (SOper × Tch)) : Bool :=
 (List.range l.length).all fun j => (List.range j).all fun i => match l[i]?, l[j]? with
  | some a, some b => !clash a b || b.1.bef.testBit i
  | _, _ => true
theorem qaio {l : List (SOper × Tch)} (h : qakz l = true) {i j : Nat} {a b : SOper × Tch} (hij : i < j) (ha : l[i]? = some a) (hb : l[j]? = some b) (hc : clash a b = true) : b.1.bef.testBit i = true := by
 have hj : j < l.length := (List.getElem?_eq_some_iff.1 hb).1
 have h1 := List.all_eq_true.1 (List.all_eq_true.1 h j (List.mem_range.2 hj)) i (List.mem_range.2 hij)
 simpa [ha, hb, hc] using h1
def befG (acc : Array Nat) (o : Oper) : Nat := o.after.foldl (fun s e => if Region.binds .any e then s ||| 2 ^ e.on ||| acc.getD e.on 0 else s) 0
theorem qaox (acc : Array Nat) (o : Oper) (i : Nat) (h : (befG acc o).testBit i = true) : ∃ e ∈ o.after.toList, Region.binds .any e = true ∧ (e.on = i ∨ (acc.getD e.on 0).testBit i = true) := by
 unfold befG at h
 rw [← Array.foldl_toList] at h
 have gen : ∀ (l : List Edge) (s : Nat), (l.foldl (fun s e => if Region.binds .any e then s ||| 2 ^ e.on ||| acc.getD e.on 0 else s) s).testBit i = true → s.testBit i = true ∨ ∃ e ∈ l, Region.binds .any e = true ∧ (e.on = i ∨ (acc.getD e.on 0).testBit i = true) := by
  intro l
  induction l with
  | nil => intro s h; exact .inl h
  | cons e l ih =>
   intro s h
   rw [List.foldl_cons] at h
   rcases ih _ h with h1 | ⟨e', h1, h2⟩
   ·split at h1
    ·rename_i hb
     rw [Nat.testBit_or, Nat.testBit_or, Bool.or_eq_true, Bool.or_eq_true] at h1
     rcases h1 with (h1 | h1) | h1
     ·exact .inl h1
     ·rw [Nat.testBit_two_pow] at h1
      exact .inr ⟨e, by simp, hb, .inl (by simpa using h1)⟩
     ·exact .inr ⟨e, by simp, hb, .inr h1⟩
    ·exact .inl h1
   ·exact .inr ⟨e', by simp [h1], h2⟩
 rcases gen _ _ h with h1 | h1
 ·simp at h1
 ·exact h1
theorem qajx (ops : Array Oper) : (Region.before ops).size = ops.size ∧ ∀ (j : Nat) o, ops[j]? = some o → ∀ i, ((Region.before ops).getD j 0).testBit i = true → ∃ e ∈ o.after.toList, Region.binds .any e = true ∧ (e.on = i ∨ ((Region.before ops).getD e.on 0).testBit i = true) := by
 unfold Region.before
 rw [← Array.foldl_toList]
 have gen : ∀ (l done : List Oper) (acc : Array Nat), acc.size = done.length → (∀ (j : Nat) o, done[j]? = some o → ∀ i, (acc.getD j 0).testBit i = true → ∃ e ∈ o.after.toList, Region.binds .any e = true ∧ (e.on = i ∨ (acc.getD e.on 0).testBit i = true)) →
   (l.foldl (fun acc o => acc.push (befG acc o)) acc).size = (done ++ l).length ∧ ∀ (j : Nat) o, (done ++ l)[j]? = some o → ∀ i, ((l.foldl (fun acc o => acc.push (befG acc o)) acc).getD j 0).testBit i = true → ∃ e ∈ o.after.toList, Region.binds .any e = true ∧ (e.on = i ∨ ((l.foldl (fun acc o => acc.push (befG acc o)) acc).getD e.on 0).testBit i = true) := by
  intro l
  induction l with
  | nil => intro done acc h1 h2; rw [List.append_nil]; exact ⟨h1, h2⟩
  | cons o l ih =>
   intro done acc h1 h2
   have up : ∀ k i, (acc.getD k 0).testBit i = true → ((acc.push (befG acc o)).getD k 0).testBit i = true := fun k i h => by
    rw [Array.getD_eq_getD_getElem?] at h ⊢
    cases e : acc[k]? with
    | none => rw [e] at h; simp at h
    | some x =>
     have hk : k < acc.size := (Array.getElem?_eq_some_iff.1 e).1
     rw [Array.getElem?_push, if_neg (by omega), e]
     rw [e] at h; exact h
   have := ih (done ++ [o]) (acc.push (befG acc o)) (by simp [h1]) (fun j o' hj i hi => by
    by_cases hjd : j < done.length
    ·rw [List.getElem?_append_left hjd] at hj
     rw [Array.getD_eq_getD_getElem?, Array.getElem?_push, if_neg (by omega), ← Array.getD_eq_getD_getElem?] at hi
     obtain ⟨e, q1, q2, q3⟩ := h2 j o' hj i hi
     exact ⟨e, q1, q2, q3.imp (fun h => h) (up _ _)⟩
    ·rw [List.getElem?_append_right (by omega)] at hj
     have hj0 : j = done.length := by have := (List.getElem?_eq_some_iff.1 hj).1; simp at this; omega
     subst hj0
     simp at hj
     subst hj
     rw [Array.getD_eq_getD_getElem?, Array.getElem?_push, if_pos h1.symm] at hi
     obtain ⟨e, q1, q2, q3⟩ := qaox acc o i hi
     exact ⟨e, q1, q2, q3.imp (fun h => h) (up _ _)⟩)
   rw [List.append_assoc] at this
   exact this
 have := gen ops.toList [] #[] rfl (fun j o h => by simp at h)
 refine ⟨by have h := this.1; rw [List.nil_append, Array.length_toList] at h; exact h, fun j o hj => this.2 j o (by simpa using hj)⟩
theorem qae3 : ∀ {l : List Oper} {k : Nat}, qanz k l = true → ∀ (j : Nat) o, l[j]? = some o → ∀ e ∈ o.after.toList, Region.binds .any e = true → e.on < k + j
 | [], k, _, j, o, ho, _, _, _ => by simp at ho
 | o :: l, k, h, j, o', ho, e, he, hb => by
  simp only [qanz, Bool.and_eq_true] at h
  cases j with
  | zero =>
   simp at ho; subst ho
   have := List.all_eq_true.1 h.1 e he
   simpa [hb] using this
  | succ j =>
   have := qae3 h.2 j o' (by simpa using ho) e he hb
   omega
structure Ent where
 o : Oper
 so : SOper
 s : SSt
 s' : SSt
 x : Tch
 e : Eff
variable {X : Cx}
def qaqx (X : Cx) (ops : Array Oper) (t : Ent) : Prop := t.s.nx ≤ t.s'.nx ∧ t.e.dst = t.so.dst ∧ t.e.wr = t.x.wr ∧ t.e.at t.s t.s' ∧ Loc X ops t.o t.so.reads t.x.rd t.s.nx t.s'.nx t.s t.e
def Chain (s : SSt) : List Ent → SSt → Prop
 | [], t => s = t
 | e :: es, t => e.s = s ∧ Chain e.s' es t
theorem qakf {ops : Array Oper} {Q : SSt → List Tch → Prop} : ∀ (l : List Oper) (bs : List Nat) (sos : List SOper), qac9 X.P X.N ops l bs = some sos → ∀ (s : SSt) (tr : List Tch), X.m ≤ s.nx → SOps X.P sos s tr Q →
  ∃ es sN, Chain s es sN ∧ (∀ t ∈ es, qaqx X ops t) ∧ es.map (·.o) = l ∧ es.map (·.so) = sos ∧ Q sN ((es.map (·.x)).reverse ++ tr) := by
 intro l
 induction l with
 | nil =>
  intro bs sos hc s tr hle hk
  simp only [qac9, Option.some.injEq] at hc
  subst hc
  exact ⟨[], s, rfl, by simp, rfl, rfl, hk⟩
 | cons o l ih =>
  intro bs sos hc s tr hle hk
  obtain ⟨so, r, rfl, hso, hr⟩ := qac5 hc
  obtain ⟨hdst, hd, hg, _, _⟩ := qacp hso
  have gd : ∀ (t : SSt) ρ fp a w, Sim X ρ fp t a w → _ := fun t ρ fp a w h => qagl (s := t) hg h
  have join : ∀ s' x, Stp X ops o so s s' x → SOps X.P r s' (x :: tr) Q → ∃ es sN, Chain s es sN ∧ (∀ t ∈ es, qaqx X ops t) ∧ es.map (·.o) = o :: l ∧ es.map (·.so) = so :: r ∧ Q sN ((es.map (·.x)).reverse ++ tr) := by
   rintro s' x ⟨h1, e, h2, h3, h4, h5⟩ hk'
   obtain ⟨es, sN, q1, q2, q3, q4, q5⟩ := ih _ _ hr s' (x :: tr) (Nat.le_trans hle h1) hk'
   refine ⟨⟨o, so, s, s', x, e⟩ :: es, sN, ⟨rfl, q1⟩, fun t ht => ?_, by simp [q3], by simp [q4], by simpa using q5⟩
   rcases List.mem_cons.1 ht with ht | ht
   ·subst ht; exact ⟨h1, h2, h3, h4, h5⟩
   ·exact q2 t ht
  simp only [SOps] at hk
  cases hgr : so.grd with
  | none =>
   rw [hgr] at hk
   obtain ⟨s', x, h1, h2⟩ := qao9 hso hle hk fun t ρ fp a w h _ => (gd t ρ fp a w h).1 hgr
   exact join s' x h2 h1
  | some tw =>
   obtain ⟨t0, want⟩ := tw
   rw [hgr] at hk
   have hin : t0 ∈ so.reads := by simp [SOper.reads, hgr]
   simp only at hk
   split at hk
   ·rename_i b hb
    by_cases hbw : b = want
    ·obtain ⟨s', x, h1, h2⟩ := qao9 hso hle (hk.1 hbw) fun t ρ fp a w h hrd => by
      rw [((gd t ρ fp a w h).2 t0 want hgr).1 b (by rw [hrd t0 hin]; exact hb)]; simpa using hbw
     exact join s' x h2 h1
    ·exact join _ _ (qakh hso fun t ρ fp a w h hrd => by
      rw [((gd t ρ fp a w h).2 t0 want hgr).1 b (by rw [hrd t0 hin]; exact hb)]; simpa using hbw) (hk.2 hbw)
   ·rename_i hb
    exact join _ _ (qakh hso fun t ρ fp a w h hrd => ((gd t ρ fp a w h).2 t0 want hgr).2 (by rw [hrd t0 hin]; exact hb)) hk
   ·cases hk
inductive Rs where
 | sl (t : Nat)
 | ob (id : Nat)
def Ent.W (t : Ent) : Rs → Prop
 | .sl y => t.e.dst = some y
 | .ob id => id ∈ t.e.wr
def Ent.L (t : Ent) : Rs → Prop
 | .sl y => y ∈ t.so.reads ∨ t.e.dst = some y
 | .ob id => id ∈ t.x.rd ∨ id ∈ t.e.wr
def Lw (es : List Ent) (S : Nat → Prop) (r : Rs) : Option Nat → Prop
 | some k => S k ∧ (∃ t, es[k]? = some t ∧ t.W r) ∧ ∀ k', k < k' → S k' → ∀ t, es[k']? = some t → ¬ t.W r
 | none => ∀ k, S k → ∀ t, es[k]? = some t → ¬ t.W r
def Inv (es : List Ent) (s0 : SSt) (S : Nat → Prop) (t : SSt) : Prop :=
 (∀ y, ∃ o, Lw es S (.sl y) o ∧ gets t.sl y = match o with | some k => ((es[k]?).map (·.e.v)).getD .any | none => gets s0.sl y) ∧
 ∀ id, ∃ o, Lw es S (.ob id) o ∧ geth t.hp id = match o with | some k => ((es[k]?).map (·.e.c id)).getD none | none => geth s0.hp id
theorem Ent.W_L {t : Ent} {r : Rs} (h : t.W r) : t.L r := by cases r <;> exact .inr h
theorem Lw.uniq {es : List Ent} {S : Nat → Prop} {r : Rs} {o o' : Option Nat} (h : Lw es S r o) (h' : Lw es S r o') : o = o' := by
 cases o with
 | none =>
  cases o' with
  | none => rfl
  | some k => obtain ⟨h1, ⟨t, h2, h3⟩, _⟩ := h'; exact absurd h3 (h k h1 t h2)
 | some k =>
  obtain ⟨h1, ⟨t, h2, h3⟩, h4⟩ := h
  cases o' with
  | none => exact absurd h3 (h' k h1 t h2)
  | some k' =>
   obtain ⟨g1, ⟨t', g2, g3⟩, g4⟩ := h'
   rcases Nat.lt_trichotomy k k' with e | e | e
   ·exact absurd g3 (h4 k' e g1 t' g2)
   ·rw [e]
   ·exact absurd h3 (g4 k e h1 t h2)
structure Ord (es : List Ent) (B : Nat → Nat → Prop) : Prop where
 ord : ∀ i j a b r, i < j → es[i]? = some a → es[j]? = some b → (a.W r ∧ b.L r) ∨ (a.L r ∧ b.W r) → B j i
theorem Lw.agree {es : List Ent} {B : Nat → Nat → Prop} (hB : Ord es B) {S : Nat → Prop} (hcl : ∀ j i, S j → B j i → S i) {j : Nat} {t : Ent} (hj : es[j]? = some t) (hnj : ¬ S j) (hdep : ∀ i, B j i → S i) {r : Rs} (hl : t.L r) {o o' : Option Nat} (h : Lw es S r o) (h' : Lw es (· < j) r o') : o = o' := by
 have lt_of : ∀ k u, S k → es[k]? = some u → u.W r → k < j := fun k u hk hu hw => by
  rcases Nat.lt_trichotomy k j with e | e | e
  ·exact e
  ·rw [e] at hk; exact absurd hk hnj
  ·exact absurd (hcl k j hk (hB.ord j k t u r e hj hu (.inr ⟨hl, hw⟩))) hnj
 have in_of : ∀ k u, k < j → es[k]? = some u → u.W r → S k := fun k u hk hu hw => hdep k (hB.ord k j u t r hk hu hj (.inl ⟨hw, hl⟩))
 have h2 : Lw es (· < j) r o := by
  cases o with
  | none => exact fun k hk u hu hw => h k (in_of k u hk hu hw) u hu hw
  | some k =>
   obtain ⟨h1, ⟨u, h2, h3⟩, h4⟩ := h
   exact ⟨lt_of k u h1 h2 h3, ⟨u, h2, h3⟩, fun k' hk hk' u' hu' hw => h4 k' hk (in_of k' u' hk' hu' hw) u' hu' hw⟩
 exact h2.uniq h'
theorem Lw.add {es : List Ent} {B : Nat → Nat → Prop} (hB : Ord es B) {S : Nat → Prop} (hcl : ∀ j i, S j → B j i → S i) {j : Nat} {t : Ent} (hj : es[j]? = some t) (hnj : ¬ S j) {r : Rs} {o : Option Nat} (h : Lw es S r o) :
  (t.W r → Lw es (fun k => S k ∨ k = j) r (some j)) ∧ (¬ t.W r → Lw es (fun k => S k ∨ k = j) r o) := by
 refine ⟨fun hw => ⟨.inr rfl, ⟨t, hj, hw⟩, fun k' hk hk' u hu hw' => ?_⟩, fun hw => ?_⟩
 ·rcases hk' with hk' | hk'
  ·exact hnj (hcl k' j hk' (hB.ord j k' t u r hk hj hu (.inl ⟨hw, Ent.W_L hw'⟩)))
  ·omega
 ·cases o with
  | none =>
   intro k hk u hu hw'
   rcases hk with hk | hk
   ·exact h k hk u hu hw'
   ·subst hk; rw [hj] at hu; cases hu; exact hw hw'
  | some k =>
   obtain ⟨h1, h2, h4⟩ := h
   refine ⟨.inl h1, h2, fun k' hk hk' u hu hw' => ?_⟩
   rcases hk' with hk' | hk'
   ·exact h4 k' hk hk' u hu hw'
   ·subst hk'; rw [hj] at hu; cases hu; exact hw hw'
theorem Chain.inv {ops : Array Oper} : ∀ {es : List Ent} {s0 sN : SSt}, Chain s0 es sN → (∀ t ∈ es, qaqx X ops t) → ∀ (pre : List Ent) (s00 : SSt), Inv (pre ++ es) s00 (· < pre.length) s0 → (∀ (j : Nat) t, es[j]? = some t → Inv (pre ++ es) s00 (· < pre.length + j) t.s) ∧ Inv (pre ++ es) s00 (· < (pre ++ es).length) sN := by
 intro es
 induction es with
 | nil =>
  intro s0 sN hc _ pre s00 h
  obtain rfl : s0 = sN := hc
  exact ⟨fun j t ht => by simp at ht, by simpa using h⟩
 | cons t es ih =>
  intro s0 sN hc hok pre s00 h
  obtain ⟨rfl, hc⟩ := hc
  obtain ⟨_, _, _, hat, _⟩ := hok t (by simp)
  have hget : (pre ++ t :: es)[pre.length]? = some t := by simp
  have hnext : Inv (pre ++ t :: es) s00 (· < pre.length + 1) t.s' := by
   have hstep : ∀ r o, Lw (pre ++ t :: es) (· < pre.length) r o → (t.W r → Lw (pre ++ t :: es) (· < pre.length + 1) r (some pre.length)) ∧ (¬ t.W r → Lw (pre ++ t :: es) (· < pre.length + 1) r o) := fun r o ho => by
    refine ⟨fun hw => ⟨Nat.lt_succ_self _, ⟨t, hget, hw⟩, fun k' h1 h2 => by omega⟩, fun hw => ?_⟩
    cases o with
    | none =>
     intro k hk u hu hw'
     rcases Nat.lt_or_ge k pre.length with e | e
     ·exact ho k e u hu hw'
     ·obtain rfl : k = pre.length := by have hk' : k < pre.length + 1 := hk; omega
      rw [hget] at hu; cases hu; exact hw hw'
    | some k =>
     obtain ⟨h1, h2, h4⟩ := ho
     refine ⟨Nat.lt_succ_of_lt h1, h2, fun k' hk hk' u hu hw' => ?_⟩
     rcases Nat.lt_or_ge k' pre.length with e | e
     ·exact h4 k' hk e u hu hw'
     ·obtain rfl : k' = pre.length := by have hk2 : k' < pre.length + 1 := hk'; omega
      rw [hget] at hu; cases hu; exact hw hw'
   refine ⟨fun y => ?_, fun id => ?_⟩
   ·obtain ⟨o, ho, hv⟩ := h.1 y
    obtain ⟨q1, q2⟩ := hstep (.sl y) o ho
    rw [hat.1 y]
    by_cases hw : t.e.dst = some y
    ·exact ⟨some pre.length, q1 hw, by rw [if_pos hw]; simp only [hget]; rfl⟩
    ·exact ⟨o, q2 hw, by rw [if_neg hw]; exact hv⟩
   ·obtain ⟨o, ho, hv⟩ := h.2 id
    obtain ⟨q1, q2⟩ := hstep (.ob id) o ho
    rw [hat.2 id]
    by_cases hw : id ∈ t.e.wr
    ·exact ⟨some pre.length, q1 hw, by rw [if_pos hw]; simp only [hget]; rfl⟩
    ·exact ⟨o, q2 hw, by rw [if_neg hw]; exact hv⟩
  have hre : pre ++ t :: es = (pre ++ [t]) ++ es := by simp
  rw [hre] at hnext h ⊢
  obtain ⟨r1, r2⟩ := ih hc (fun u hu => hok u (by simp [hu])) (pre ++ [t]) s00 (by simpa using hnext)
  refine ⟨fun j u hu => ?_, r2⟩
  cases j with
  | zero => simp at hu; subst hu; simpa using h
  | succ j =>
   have := r1 j u (by simpa using hu)
   rw [List.length_append, List.length_singleton] at this
   rw [show pre.length + (j + 1) = pre.length + 1 + j by omega]
   exact this
end Go.Proofs.Ytefkifebgeagiaa
namespace Go.Proofs.Ytefkifebgeagiaa
set_option linter.all false
open Go.RowKit
variable {X : Cx}
theorem qae1 {p q : Nat → Bool} : ∀ (l : List Nat) (i : Nat), i ∈ l → p i = true → q i = false → (∀ k, q k = true → p k = true) → (l.filter q).length < (l.filter p).length
 | [], i, h, _, _, _ => by cases h
 | x :: l, i, h, hp, hq, hpq => by
  have mono : ∀ l : List Nat, (l.filter q).length ≤ (l.filter p).length := fun l => by
   induction l with
   | nil => exact Nat.le_refl _
   | cons y l ih =>
    simp only [List.filter_cons]
    cases hy : q y with
    | true => rw [hpq y hy]; simp; exact ih
    | false => cases hy' : p y <;> simp <;> omega
  simp only [List.filter_cons]
  by_cases e : x = i
  ·subst e
   rw [hp, hq]
   have := mono l
   simp; omega
  ·have := qae1 l i ((List.mem_cons.1 h).resolve_left (Ne.symm e)) hp hq hpq
   cases hy : q x with
   | true => rw [hpq x hy]; simp; exact this
   | false => cases hy' : p x <;> simp <;> omega
theorem Sim.congr {ρ : qaau} {fp : Nat → Nat → Prop} {s t : SSt} {a : Act} {w : World} (h : Sim X ρ fp s a w) (h1 : ∀ y, gets t.sl y = gets s.sl y) (h2 : ∀ id, geth t.hp id = geth s.hp id) : Sim X ρ fp t a w := by
 have hL : Live t.hp fp = Live s.hp fp := by funext k; unfold Live; simp only [h2]
 have hA : Av X t.hp fp = Av X s.hp fp := by funext k; unfold Av; rw [hL]
 refine ⟨⟨fun id o ho => ?_, fun id id' o o' hne ho ho' => ?_, fun id o ho => ?_, h.h.step, h.h.keep⟩, h.tmps, h.defers, fun y => ?_⟩
 ·rw [hA]; exact h.h.objs id o (by rw [← h2]; exact ho)
 ·exact h.h.disj id id' o o' hne (by rw [← h2]; exact ho) (by rw [← h2]; exact ho')
 ·exact h.h.turn id o (by rw [← h2]; exact ho)
 ·rw [hA, h1]; exact h.slots y
theorem SimH.drew {ρ : qaau} {fp : Nat → Nat → Prop} {hp : Hp} {w : World} (h : SimH X ρ fp hp w) : SimH X ρ fp hp { w with drawn := w.drawn + 1 } ∧ Pres w (Av X hp fp) ρ { w with drawn := w.drawn + 1 } (Av X hp fp) ρ := by
 have hst : Step (fun _ => False) w { w with drawn := w.drawn + 1 } := ⟨rfl, rfl, rfl, Nat.le_refl _, fun _ _ _ => rfl⟩
 exact h.change (hp' := hp) (fun _ => False) (fun _ => False) hst (fun _ h => h.elim) (fun id o ho _ => ⟨ho, fun h => h, rfl⟩) (fun _ _ h => h) (fun _ _ => rfl) (fun _ _ h => h.elim) (fun _ _ _ _ h => h.elim) (fun _ _ _ h => h.elim)
theorem qaqs {a b : Ent} (ha : a.e.dst = a.so.dst) (ha2 : a.e.wr = a.x.wr) (hb : b.e.dst = b.so.dst) (hb2 : b.e.wr = b.x.wr) {r : Rs} (h : (a.W r ∧ b.L r) ∨ (a.L r ∧ b.W r)) : clash (a.so, a.x) (b.so, b.x) = true := by
 unfold clash
 simp only [Bool.or_eq_true]
 cases r with
 | sl y =>
  simp only [Ent.W, Ent.L] at h
  rw [ha, hb] at h
  rcases h with ⟨h1, h2 | h2⟩ | ⟨h2 | h2, h1⟩
  ·exact .inl (.inl (.inl (by rw [h1]; simp [h2])))
  ·exact .inl (.inl (.inl (by rw [h1]; simp [h2])))
  ·exact .inl (.inl (.inr (by rw [h1]; simp [h2])))
  ·exact .inl (.inl (.inl (by rw [h2]; simp [h1])))
 | ob id =>
  simp only [Ent.W, Ent.L] at h
  rw [ha2, hb2] at h
  rcases h with ⟨h1, h2 | h2⟩ | ⟨h2 | h2, h1⟩
  ·exact .inl (.inr (List.any_eq_true.2 ⟨id, h1, by simp [h2]⟩))
  ·exact .inl (.inr (List.any_eq_true.2 ⟨id, h1, by simp [h2]⟩))
  ·exact .inr (List.any_eq_true.2 ⟨id, h1, by simp [h2]⟩)
  ·exact .inl (.inr (List.any_eq_true.2 ⟨id, h2, by simp [h1]⟩))
theorem qah5 {α β : Type} {f : α → β} {es : List α} {l : List β} (h : es.map f = l) {j : Nat} {t : α} (ht : es[j]? = some t) : l[j]? = some (f t) := by rw [← h]; simp [ht]
theorem qaft {P : Program} {N : Nat} {ops : Array Oper} : ∀ (l : List Oper) (bs : List Nat) (sos : List SOper), qac9 P N ops l bs = some sos → ∀ (j : Nat) so, sos[j]? = some so → so.bef = (bs.drop j).headD 0
 | [], bs, sos, h, j, so, hj => by simp only [qac9, Option.some.injEq] at h; subst h; simp at hj
 | o :: l, bs, sos, h, j, so, hj => by
  obtain ⟨so0, r, rfl, h1, h2⟩ := qac5 h
  cases j with
  | zero => simp at hj; subst hj; rw [List.drop_zero]; exact (qacp h1).2.2.2.1
  | succ j =>
   have := qaft l bs.tail r h2 j so (by simpa using hj)
   rw [this]; cases bs <;> simp
theorem qapx {ops : Array Oper} (hed : qak6 ops = true) {sos : List SOper} (hc : qac9 X.P X.N ops ops.toList (Region.before ops).toList = some sos) {Q : SSt → Prop} {R : Exit → Act → World → Prop} (hQ : ∀ s ρ fp a w, Q s → SimF X ρ fp s a w → R .normal a w)
  {s : SSt} {ρ : qaau} {fp : Nat → Nat → Prop} {a : Act} {w : World} (hk : SOps X.P sos s [] fun s' tr => qakz (sos.zip tr.reverse) = true ∧ Q s') (h : SimF X ρ fp s a w) : wpAny X.P .any ops R ops.size (Array.replicate ops.size false) a { w with drawn := w.drawn + 1 } := by
 obtain ⟨es, sN, hch, hok, ho, hso, hok2, hq⟩ := qakf _ _ _ hc s [] h.le hk
 simp only [List.append_nil, List.reverse_reverse] at hok2
 have hlen : es.length = ops.size := by have := congrArg List.length ho; simpa using this
 have hzip : sos.zip (es.map (·.x)) = es.map fun t => (t.so, t.x) := by
  rw [← hso]
  clear hok2 ho hso hch hok hlen hq hc hk
  induction es with
  | nil => rfl
  | cons t es ih => simp [ih]
 rw [hzip] at hok2
 let B : Nat → Nat → Prop := fun j i => ((Region.before ops).getD j 0).testBit i = true
 have hbef : ∀ (j : Nat) t, es[j]? = some t → t.so.bef = (Region.before ops).getD j 0 := fun j t ht => by
  rw [qaft _ _ _ hc j t.so (qah5 hso ht)]
  rw [List.headD_eq_head?_getD, List.head?_drop, Array.getD_eq_getD_getElem?]; simp
 have hord : Ord es B := ⟨fun i j x y r hij hx hy hcl => by
  have ox := hok x (List.mem_of_getElem? hx)
  have oy := hok y (List.mem_of_getElem? hy)
  have := qaio hok2 hij (qah5 rfl hx) (qah5 rfl hy) (qaqs ox.2.1 ox.2.2.1 oy.2.1 oy.2.2.1 hcl)
  show ((Region.before ops).getD j 0).testBit i = true
  rw [← hbef j y hy]; exact this⟩
 have hinv0 : Inv es s (fun _ => False) s := ⟨fun y => ⟨none, fun _ h => h.elim, rfl⟩, fun id => ⟨none, fun _ h => h.elim, rfl⟩⟩
 have hinv00 : Inv ([] ++ es) s (· < ([] : List Ent).length) s := by
  have e : (fun k => k < ([] : List Ent).length) = fun _ => False := by funext k; simp
  rw [e]; exact hinv0
 obtain ⟨hst, hfin⟩ := hch.inv hok [] s hinv00
 simp only [List.nil_append, List.length_nil, Nat.zero_add] at hst hfin
 have hnx : ∀ (j : Nat) t, es[j]? = some t → s.nx ≤ t.s.nx ∧ t.s'.nx ≤ sN.nx := by
  have gen : ∀ (es : List Ent) (s sN : SSt), Chain s es sN → (∀ t ∈ es, qaqx X ops t) → s.nx ≤ sN.nx ∧ ∀ (j : Nat) t, es[j]? = some t → s.nx ≤ t.s.nx ∧ t.s'.nx ≤ sN.nx := by
   intro es
   induction es with
   | nil => intro s sN hc _; obtain rfl : s = sN := hc; exact ⟨Nat.le_refl _, fun j t ht => by simp at ht⟩
   | cons u es ih =>
    intro s sN hc ho
    obtain ⟨rfl, hc⟩ := hc
    have hu := (ho u (by simp)).1
    obtain ⟨h1, h2⟩ := ih _ _ hc fun t ht => ho t (by simp [ht])
    refine ⟨by omega, fun j t ht => ?_⟩
    cases j with
    | zero => simp at ht; subst ht; exact ⟨Nat.le_refl _, h1⟩
    | succ j => have := h2 j t (by simpa using ht); omega
  exact (gen es s sN hch hok).2
 have hle : s.nx ≤ sN.nx := by
  have gen : ∀ (es : List Ent) (s sN : SSt), Chain s es sN → (∀ t ∈ es, qaqx X ops t) → s.nx ≤ sN.nx := by
   intro es
   induction es with
   | nil => intro s sN hc _; obtain rfl : s = sN := hc; exact Nat.le_refl _
   | cons u es ih =>
    intro s sN hc ho
    obtain ⟨rfl, hc⟩ := hc
    have hu := (ho u (by simp)).1
    have := ih _ _ hc fun t ht => ho t (by simp [ht])
    omega
  exact gen es s sN hch hok
 have hapart : ∀ (i j : Nat) t u, es[i]? = some t → es[j]? = some u → i < j → t.s'.nx ≤ u.s.nx := by
  have gen : ∀ (es : List Ent) (s sN : SSt), Chain s es sN → (∀ t ∈ es, qaqx X ops t) → (∀ (j : Nat) u, es[j]? = some u → s.nx ≤ u.s.nx) ∧ ∀ (i j : Nat) t u, es[i]? = some t → es[j]? = some u → i < j → t.s'.nx ≤ u.s.nx := by
   intro es
   induction es with
   | nil => intro s sN hc _; exact ⟨fun j t ht => by simp at ht, fun i j t u ht => by simp at ht⟩
   | cons v es ih =>
    intro s sN hc ho
    obtain ⟨rfl, hc⟩ := hc
    have hv := (ho v (by simp)).1
    obtain ⟨h1, h2⟩ := ih _ _ hc fun t ht => ho t (by simp [ht])
    refine ⟨fun j u hu => ?_, fun i j t u ht hu hij => ?_⟩
    ·cases j with
     | zero => simp at hu; subst hu; exact Nat.le_refl _
     | succ j => have := h1 j u (by simpa using hu); omega
    ·cases j with
     | zero => omega
     | succ j =>
      cases i with
      | zero => simp at ht; subst ht; exact h1 j u (by simpa using hu)
      | succ i => exact h2 i j t u (by simpa using ht) (by simpa using hu) (by omega)
  exact (gen es s sN hch hok).2
 have main : ∀ (fuel : Nat) (listed : Array Bool) (t : SSt) (ρ : qaau) (fp : Nat → Nat → Prop) (a : Act) (w : World), listed.size = ops.size → ((List.range ops.size).filter fun i => !listed.getD i true).length ≤ fuel →
   (∀ j i, listed.getD j false = true → B j i → listed.getD i false = true) → Inv es s (fun i => listed.getD i false = true) t → Sim X ρ fp t a w → (∀ id, ρ id ≠ none → id < s.nx ∨ ∃ (i : Nat) (u : Ent), listed.getD i false = true ∧ es[i]? = some u ∧ u.s.nx ≤ id ∧ id < u.s'.nx) →
   wpAny X.P .any ops R fuel listed a w := by
  intro fuel
  induction fuel with
  | zero =>
   intro listed t ρ fp a w hsz hcnt hcl hinv hsim hρ
   have hall : ∀ i, i < ops.size → listed.getD i true = true := fun i hi => by
    cases e : listed.getD i true with
    | true => rfl
    | false =>
     have : i ∈ (List.range ops.size).filter fun i => !listed.getD i true := List.mem_filter.2 ⟨List.mem_range.2 hi, by simp [e]⟩
     have h0 := List.length_pos_of_mem this
     omega
   refine ⟨?_, ?_⟩
   ·cases hr : Region.ready .any ops listed with
    | nil => rfl
    | cons i r =>
     have hi : i ∈ Region.ready .any ops listed := by rw [hr]; simp
     obtain ⟨h1, o, h2, _⟩ := mem_ready.1 hi
     have := hall i (Array.getElem?_eq_some_iff.1 h2).1
     rw [h1] at this; cases this
   ·exact (by
     have hS : (fun i => listed.getD i false = true) = fun i => i < es.length := by
      funext i
      apply propext
      constructor
      ·intro hi
       rw [hlen, ← hsz]
       rcases Nat.lt_or_ge i listed.size with h | h
       ·exact h
       ·simp [Array.getElem?_eq_none h] at hi
      ·intro hi
       have h1 := hall i (by omega)
       have h2 : i < listed.size := by omega
       simp [h2] at h1 ⊢; exact h1
     rw [hS] at hinv
     have hsimN : Sim X ρ fp sN a w := hsim.congr (fun y => by
      obtain ⟨o, q1, q2⟩ := hinv.1 y
      obtain ⟨o', q3, q4⟩ := hfin.1 y
      rw [q1.uniq q3] at q2
      rw [q2, q4]) (fun id => by
      obtain ⟨o, q1, q2⟩ := hinv.2 id
      obtain ⟨o', q3, q4⟩ := hfin.2 id
      rw [q1.uniq q3] at q2
      rw [q2, q4])
     exact hQ sN ρ fp a w hq ⟨hsimN, fun id hid => by
      cases e : ρ id with
      | none => rfl
      | some p =>
       rcases hρ id (by rw [e]; simp) with h5 | ⟨i, u, _, h6, h7, h8⟩
       ·omega
       ·have := (hnx i u h6).2; omega, Nat.le_trans h.le hle⟩)
  | succ fuel ih =>
   intro listed t ρ fp a w hsz hcnt hcl hinv hsim hρ
   refine ⟨fun hr => ?_, fun j hj => ?_⟩
   ·-- nothing is ready: all has been done
    have hall : ∀ i, i < ops.size → listed.getD i true = true := fun i => by
     induction i using Nat.strongRecOn with
     | ind i ihi =>
      intro hi
      cases e : listed.getD i true with
      | true => rfl
      | false =>
       have : i ∈ Region.ready .any ops listed := mem_ready.2 ⟨e, ops[i], Array.getElem?_eq_getElem hi, fun ed hed1 hed2 => by
        have hlt := qae3 hed i ops[i] (by simp [hi]) ed (by simpa using hed1) hed2
        have h1 := ihi ed.on (by omega) (by omega)
        have h2 : ed.on < listed.size := by omega
        simp [h2] at h1 ⊢; exact h1⟩
       rw [hr] at this; cases this
    have hz : ((List.range ops.size).filter fun i => !listed.getD i true).length ≤ 0 := by
     rw [List.filter_eq_nil_iff.2 fun i hi => by rw [hall i (List.mem_range.1 hi)]; simp]; simp
    have hS : (fun i => listed.getD i false = true) = fun i => i < es.length := by
     funext i
     apply propext
     constructor
     ·intro hi
      rw [hlen, ← hsz]
      rcases Nat.lt_or_ge i listed.size with h | h
      ·exact h
      ·simp [Array.getElem?_eq_none h] at hi
     ·intro hi
      have h1 := hall i (by omega)
      have h2 : i < listed.size := by omega
      simp [h2] at h1 ⊢; exact h1
    rw [hS] at hinv
    have hsimN : Sim X ρ fp sN a w := hsim.congr (fun y => by
     obtain ⟨o, q1, q2⟩ := hinv.1 y
     obtain ⟨o', q3, q4⟩ := hfin.1 y
     rw [q1.uniq q3] at q2
     rw [q2, q4]) (fun id => by
     obtain ⟨o, q1, q2⟩ := hinv.2 id
     obtain ⟨o', q3, q4⟩ := hfin.2 id
     rw [q1.uniq q3] at q2
     rw [q2, q4])
    exact hQ sN ρ fp a w hq ⟨hsimN, fun id hid => by
     cases e : ρ id with
     | none => rfl
     | some p =>
      rcases hρ id (by rw [e]; simp) with h5 | ⟨i, u, _, h6, h7, h8⟩
      ·omega
      ·have := (hnx i u h6).2; omega, Nat.le_trans h.le hle⟩
   ·obtain ⟨hun, o, hoj, hdep⟩ := mem_ready.1 hj
    have hjlt : j < ops.size := (Array.getElem?_eq_some_iff.1 hoj).1
    have hnj : ¬ (listed.getD j false = true) := by
     have h2 : j < listed.size := by omega
     simp [h2] at hun ⊢; rw [hun]
    obtain ⟨u, hu⟩ : ∃ u, es[j]? = some u := ⟨_, List.getElem?_eq_getElem (by omega)⟩
    have huo : u.o = o := by
     have := qah5 ho hu
     rw [Array.getElem?_toList, hoj] at this
     exact (Option.some.inj this).symm
    obtain ⟨hmono, hd, hwr, hat, hloc⟩ := hok u (List.mem_of_getElem? hu)
    have hdeps : ∀ i, B j i → listed.getD i false = true := fun i hi => by
     obtain ⟨ed, q1, q2, q3⟩ := (qajx ops).2 j o hoj i hi
     have h5 := hdep ed (by simpa using q1) q2
     rcases q3 with q3 | q3
     ·rw [← q3]; exact h5
     ·exact hcl _ _ h5 q3
    have hcan := hst j u hu
    unfold wpOp
    rw [hoj]
    simp only
    have hL := hloc t ρ fp a w hsim (fun y hy => by
      obtain ⟨o1, q1, q2⟩ := hinv.1 y
      obtain ⟨o2, q3, q4⟩ := hcan.1 y
      rw [q1.agree hord (fun j i => hcl j i) hu hnj hdeps (show u.L (.sl y) from Or.inl hy) q3] at q2
      rw [q2, q4]) (fun id hid => by
      obtain ⟨o1, q1, q2⟩ := hinv.2 id
      obtain ⟨o2, q3, q4⟩ := hcan.2 id
      rw [q1.agree hord (fun j i => hcl j i) hu hnj hdeps (show u.L (.ob id) from hid) q3] at q2
      rw [q2, q4]) (fun id h5 h6 => by
      cases e : ρ id with
      | none => rfl
      | some p =>
       rcases hρ id (by rw [e]; simp) with h7 | ⟨i, v, h7, h8, h9, h10⟩
       ·have := (hnx j u hu).1; omega
       ·rcases Nat.lt_trichotomy i j with hij | hij | hij
        ·have := hapart i j v u h8 hu hij; omega
        ·subst hij; exact absurd h7 hnj
        ·have := hapart j i u v hu h8 hij; omega) (wpAny X.P .any ops R fuel (listed.setIfInBounds j true)) R (fun t' ρ' fp' a' w' hat' hsim' hρ' => by
      have hS : (fun i => (listed.setIfInBounds j true).getD i false = true) = fun i => listed.getD i false = true ∨ i = j := by
       funext i
       apply propext
       by_cases e : i = j
       ·subst e
        have h2 : i < listed.size := by omega
        simp [h2]
       ·rw [getD_set_ne false (Ne.symm e)]; simp [e]
      refine ih (listed.setIfInBounds j true) t' ρ' fp' a' w' (by simp [hsz]) ?_ (fun k i hk hki => ?_) ?_ hsim' (fun id hid => ?_)
      ·have := qae1 (p := fun i => !listed.getD i true) (q := fun i => !(listed.setIfInBounds j true).getD i true) (List.range ops.size) j (List.mem_range.2 hjlt) (by simp only [hun]; rfl) (by
        have h2 : j < listed.size := by omega
        simp [h2]) (fun k hk => by
        by_cases e : j = k
        ·subst e
         have h2 : j < listed.size := by omega
         simp [h2] at hk
        ·rw [getD_set_ne true e] at hk; exact hk)
       omega
      ·have hk' : listed.getD k false = true ∨ k = j := by have := congrFun hS k; rw [← this]; exact hk
       have hgoal : listed.getD i false = true := by
        rcases hk' with hk' | hk'
        ·exact hcl k i hk' hki
        ·subst hk'; exact hdeps i hki
       have := congrFun hS i
       rw [this]; exact .inl hgoal
      ·rw [hS]
       refine ⟨fun y => ?_, fun id => ?_⟩
       ·obtain ⟨o1, q1, q2⟩ := hinv.1 y
        obtain ⟨r1, r2⟩ := q1.add hord (fun j i => hcl j i) hu hnj
        rw [hat'.1 y]
        by_cases hw : u.e.dst = some y
        ·exact ⟨some j, r1 hw, by rw [if_pos hw]; simp only [hu]; rfl⟩
        ·exact ⟨o1, r2 hw, by rw [if_neg hw]; exact q2⟩
       ·obtain ⟨o1, q1, q2⟩ := hinv.2 id
        obtain ⟨r1, r2⟩ := q1.add hord (fun j i => hcl j i) hu hnj
        rw [hat'.2 id]
        by_cases hw : id ∈ u.e.wr
        ·exact ⟨some j, r1 hw, by rw [if_pos hw]; simp only [hu]; rfl⟩
        ·exact ⟨o1, r2 hw, by rw [if_neg hw]; exact q2⟩
      ·rcases hρ' id hid with h5 | h5
       ·rcases hρ id h5 with h6 | ⟨i, v, h7, h8, h9, h10⟩
        ·exact .inl h6
        ·exact .inr ⟨i, v, by have := congrFun hS i; rw [this]; exact .inl h7, h8, h9, h10⟩
       ·exact .inr ⟨j, u, by have := congrFun hS j; rw [this]; exact .inr rfl, hu, h5.1, h5.2⟩)
    rw [huo] at hL
    split
    ·rename_i hwd
     rw [if_pos hwd] at hL
     exact .inl hL
    ·rename_i hwd
     rw [if_neg hwd] at hL
     exact hL
 obtain ⟨hd1, hd2⟩ := h.sim.h.drew
 refine main ops.size (Array.replicate ops.size false) s ρ fp a _ (by simp) (by have := List.length_filter_le (fun i => !(Array.replicate ops.size false).getD i true) (List.range ops.size); simpa using this) (fun j i hj => ?_) ?_ ⟨hd1, h.sim.tmps, h.sim.defers, fun t => hd2.rep (h.sim.slots t)⟩ (fun id hid => .inl (Nat.lt_of_not_le fun hge => hid (h.fresh id hge)))
 ·exfalso
  by_cases hlt : j < ops.size <;> simp [hlt] at hj
 ·have e : (fun i => (Array.replicate ops.size false).getD i false = true) = fun _ => False := by
   funext i
   by_cases hlt : i < ops.size <;> simp [hlt]
  rw [e]; exact hinv0
theorem qaap {s : SSt} {Q : SExit → SSt → Prop} {ops : List SOper} {live : List Nat} (hm : X.P.follows .mixedOrders = true) (h : SOps X.P ops s [] fun s' tr => qakz (ops.zip tr.reverse) = true ∧ Q .normal (s'.keep live)) : SWp X (.reg true ops live) Q s := fun code hc ρ fp a w hs => by
 by_cases hreg : ∃ id o d, code = .region id o d
 ·obtain ⟨id, o, d, rfl⟩ := hreg
  obtain ⟨l, e, h1, h2⟩ := qaa1 hc
  simp only [SCode.erase, SCode.reg.injEq, and_true] at e
  obtain ⟨rfl, rfl⟩ := e
  refine wp_region_any hm ?_
  refine qapx (h2.resolve_left (by simp)) (by simpa using h1) (Q := fun s' => Q .normal (s'.keep live)) ?_ h hs
  intro s' ρ' fp' a' w' hq h'
  obtain ⟨ρ2, fp2, h2⟩ := qaj0 live ρ' fp' a' w' h'
  exact ⟨_, ρ2, fp2, hq, h2⟩
 ·cases code <;> (try simp only [comp, SCode.erase, Option.bind_eq_bind, Option.bind_eq_some_iff, Option.some.injEq, reduceCtorEq, and_false, exists_false, exists_const] at hc)
  case region => exact absurd ⟨_, _, _, rfl⟩ hreg
end Go.Proofs.Ytefkifebgeagiaa
namespace Go.Proofs.Ytefkifebgeagiaa
set_option linter.all false
abbrev Oa (d : Nat) (op : SOp) : SOper := ⟨some d, op, none, none, 0⟩
abbrev Ob (op : SOp) : SOper := ⟨none, op, none, none, 0⟩
abbrev Oc (d : Nat) (f : FuncId) (args : List SX) : SOper := ⟨some d, .mv (.c .any), some (.c (.fn (.func f) [] []), args), none, 0⟩
abbrev Od (d : Nat) (op : SOp) (b : Nat) : SOper := ⟨some d, op, none, none, b⟩
abbrev Oe (d : Nat) (op : SOp) (t : Nat) (w : Bool) : SOper := ⟨some d, op, none, some (t, w), 0⟩
abbrev Of (d : Nat) (op : SOp) (t : Nat) (w : Bool) (b : Nat) : SOper := ⟨some d, op, none, some (t, w), b⟩
end Go.Proofs.Ytefkifebgeagiaa
namespace Go.Proofs.Ytefkifebgeagiaa
set_option linter.all false
open Go.RowKit
abbrev qaob : List SOper := [Oa 4 (.box 56 (.t 0)), Oa 8 (.alloc 60 [(.int .i64 0), .nilsl]), Oa 9 (.mv (.c (.int .i64 0))), Oa 10 (.alloc 62 [(.int .i64 0), (.int .i64 0)])]
abbrev qaoa : List SOper := [Oa 18 (.loads 3 (.t 4)), Oc 19 47 [(.t 18)], Oa 11 (.alloc 62 [(.int .i64 0), (.int .i64 0)]), Ob (.store 2 (.t 11) (.t 19))]
abbrev qan9 : List SOper := [Oa 20 (.faddr 0 (.t 11)), Oa 21 (.load (.t 20)), Oa 22 (.bin .neq (.t 21) (.c (.int .i64 0)))]
abbrev qan8 : List SOper := [Oa 23 (.build [(.int .i64 0), .nilsl] []), Oa 24 (.loads 2 (.t 11)), ⟨none, .store 2 (.t 8) (.t 23), none, none, 1⟩, Od 9 (.mv (.c (.int .i64 0))) 5, ⟨none, .store 2 (.t 10) (.t 24), none, none, 15⟩]
abbrev qan7 : List SOper := [Oa 25 (.loads 3 (.t 4)), Oa 26 (.mv (.t 1)), Oc 27 48 [(.t 25), (.t 26)], Oa 28 (.un .not (.t 27))]
abbrev qan6 : List SOper := [Oa 29 (.build [(.int .i64 0), .nilsl] []), Oa 30 (.build [(.int .i64 0), (.int .i64 0)] [(0, 1, (.c (.int .i64 2))), (1, 1, (.c (.int .i64 (-1))))]), Ob (.store 2 (.t 8) (.t 29)), Oa 9 (.mv (.c (.int .i64 0))), Ob (.store 2 (.t 10) (.t 30))]
abbrev qan5 : List SOper := [Oa 31 (.mv (.t 2)), Oa 32 (.len false (.t 31)), Oa 33 (.bin .gtr (.t 32) (.c (.int .i64 600)))]
abbrev qan4 : List SOper := [Oa 34 (.build [(.int .i64 0), .nilsl] []), Oa 35 (.build [(.int .i64 0), (.int .i64 0)] [(0, 1, (.c (.int .i64 14))), (1, 1, (.c (.int .i64 (-1))))]), Ob (.store 2 (.t 8) (.t 34)), Oa 9 (.mv (.c (.int .i64 0))), Ob (.store 2 (.t 10) (.t 35))]
abbrev qan3 : List SOper := [Oa 36 (.mv (.t 3)), Oa 37 (.bin .lss (.t 36) (.c (.int .i64 0))), Oa 38 (.mv (.t 37)), Oe 39 (.mv (.t 3)) 38 false, Oe 40 (.bin .gtr (.t 39) (.c (.int .i64 65535))) 38 false, Oa 41 (.pick (.t 38) (.c (.bool true)) (.t 40))]
abbrev qalo : List SOper := [Oa 42 (.build [(.int .i64 0), .nilsl] []), Oa 43 (.build [(.int .i64 0), (.int .i64 0)] [(0, 1, (.c (.int .i64 1))), (1, 1, (.c (.int .i64 (-1))))]), Ob (.store 2 (.t 8) (.t 42)), Oa 9 (.mv (.c (.int .i64 0))), Ob (.store 2 (.t 10) (.t 43))]
abbrev qaln : List SOper := [Oa 44 (.loads 3 (.t 4)), Oa 45 (.mv (.t 1)), Oa 46 (.mv (.t 2)), Oa 47 (.mv (.t 3)), Oa 48 (.faddr 0 (.t 4)), Od 49 (.load (.t 48)) 16, Od 50 (.mkslice 39 1 8 [(.int .u64 0)] (.t 49) (.t 49)) 48, Oa 51 (.faddr 0 (.t 4)), Od 52 (.load (.t 51)) 128, Od 53 (.mkslice 4 1 1 [(.bool false)] (.t 52) (.t 52)) 384, Od 54 (.build [(.int .i64 0), .nilsl, .nilsl, .nilsl, .nilsl, (.int .i64 0), (.int .u64 0), (.int .u64 0), (.int .u64 0), (.int .u64 0), (.int .u64 0), (.int .u64 0), (.int .u64 0), (.int .u64 0), (.int .u64 0), (.int .u64 0), (.bool false), (.bool false), (.bool false), (.bool false), (.bool false), (.bool false), (.bool false), (.bool false), (.bool false), (.bool false), .nilsl, .nilsl, (.int .i64 0), .nilsl] [(0, 3, (.t 44)), (3, 1, (.t 45)), (4, 1, (.t 46)), (5, 1, (.t 47)), (26, 1, (.t 50)), (27, 1, (.t 53))]) 1023, Od 55 (.box 91 (.t 54)) 2047, Od 12 (.mv (.t 55)) 4095]
abbrev qalm : List SOper := [Oa 13 (.mv (.c (.int .i64 0))), Oa 14 (.mv (.c (.int .i64 1)))]
abbrev qall : List SOper := [Oa 60 (.faddr 2 (.t 4)), Oa 61 (.load (.t 60)), Oa 62 (.mv (.t 13)), Oa 63 (.iaddr 6 (.t 61) (.t 62)), Oa 64 (.loads 6 (.t 63)), Oa 15 (.alloc 83 [(.int .i64 0), (.int .i64 0), (.int .i64 0), (.int .i64 0), (.int .i64 0), (.int .u64 0)]), Ob (.store 6 (.t 15) (.t 64))]
abbrev qalk : List SOper := [Oa 65 (.faddr 0 (.t 15)), Oa 66 (.load (.t 65)), Oa 67 (.bin .eql (.t 66) (.c (.int .i64 17)))]
abbrev qalj : List SOper := [Oa 68 (.build [(.int .i64 0), .nilsl] [(0, 1, (.c (.int .i64 (-1))))]), Oa 69 (.mv (.t 14)), Oa 70 (.build [(.int .i64 0), (.int .i64 0)] []), Ob (.store 2 (.t 8) (.t 68)), Oa 9 (.mv (.t 69)), Ob (.store 2 (.t 10) (.t 70))]
abbrev qali : List SOper := [Oa 72 (.mv (.t 12)), Oa 73 (.loads 6 (.t 15)), Oc 74 49 [(.t 72), (.t 73)], Oa 71 (.mv (.t 74)), Oa 75 (.extr (.t 71) 0), Oa 76 (.extr (.t 71) 1), Oa 16 (.mv (.t 75)), Oa 17 (.mv (.t 76))]
abbrev qalh : List SOper := [Oa 78 (.mv (.t 17)), Oa 79 (.bin .neq (.t 78) (.c (.int .i64 0))), Oa 77 (.mv (.t 79))]
abbrev qalg : List SOper := [Oa 80 (.build [(.int .i64 0), .nilsl] []), Oa 81 (.mv (.t 17)), Oa 82 (.mv (.t 13)), Oa 83 (.build [(.int .i64 0), (.int .i64 0)] [(0, 1, (.t 81)), (1, 1, (.t 82))]), Ob (.store 2 (.t 8) (.t 80)), Oa 9 (.mv (.c (.int .i64 0))), Ob (.store 2 (.t 10) (.t 83))]
abbrev qalf : List SOper := [Oa 85 (.faddr 0 (.t 15)), Oa 86 (.load (.t 85)), Oa 87 (.bin .eql (.t 86) (.c (.int .i64 16))), Oa 84 (.mv (.t 87))]
abbrev qale : List SOper := [Oa 88 (.mv (.t 12)), Oa 89 (.nilc (.t 88)), Oa 90 (.faddr 28 (.t 89)), Oa 91 (.loads 2 (.t 90)), Oa 92 (.mv (.t 14)), Oa 93 (.build [(.int .i64 0), (.int .i64 0)] []), Ob (.store 2 (.t 8) (.t 91)), Oa 9 (.mv (.t 92)), Ob (.store 2 (.t 10) (.t 93))]
abbrev qald : List SOper := [Oa 95 (.mv (.t 16)), Oa 94 (.mv (.t 95))]
abbrev qalc : List SOper := [Oa 96 (.mv (.t 13)), Oa 97 (.faddr 4 (.t 15)), Oa 98 (.load (.t 97)), Oa 99 (.bin .add (.t 96) (.t 98)), Oa 13 (.mv (.t 99))]
abbrev qalb : List SOper := [Oa 56 (.mv (.t 13)), Oa 57 (.bin .add (.t 56) (.c (.int .i64 1))), Oa 58 (.mv (.t 14)), Oa 59 (.bin .add (.t 58) (.c (.int .i64 1))), Oa 13 (.mv (.t 57)), Oa 14 (.mv (.t 59))]
def qaif : SCode := (.seq (.block 1 (.seq (.reg false qall [4, 8, 10, 12, 13, 14, 15]) (.seq (.seq (.reg false qalk [4, 8, 10, 12, 13, 14, 15, 67]) (.cond (.t 67) (.seq (.reg false qalj [8, 9, 10]) .ret) .skip)) (.seq (.reg false qali [4, 8, 10, 12, 13, 14, 15, 16, 17]) (.block 2 (.seq (.reg false qalh [4, 8, 10, 12, 13, 14, 15, 16, 17, 77]) (.cond (.t 77) (.seq (.reg false qalg [8, 9, 10]) .ret) (.seq (.reg false qalf [4, 8, 10, 12, 13, 14, 15, 16, 84]) (.cond (.t 84) (.seq (.reg false qale [8, 9, 10]) .ret) (.seq (.reg false qald [4, 8, 10, 12, 13, 14, 15, 94]) (.cond (.t 94) (.reg false qalc [4, 8, 10, 12, 13, 14]) .skip))))))))))) (.reg false qalb [4, 8, 10, 12, 13, 14]))
def c_vrun : SCode := (.seq (.reg false qaob [1, 2, 3, 4, 8, 10]) (.seq (.seq (.reg false qaoa [1, 2, 3, 4, 8, 10, 11]) (.seq (.reg false qan9 [1, 2, 3, 4, 8, 10, 11, 22]) (.cond (.t 22) (.seq (.reg true qan8 [8, 9, 10]) .ret) .skip))) (.seq (.seq (.reg false qan7 [1, 2, 3, 4, 8, 10, 28]) (.cond (.t 28) (.seq (.reg false qan6 [8, 9, 10]) .ret) .skip)) (.seq (.seq (.reg false qan5 [1, 2, 3, 4, 8, 10, 33]) (.cond (.t 33) (.seq (.reg false qan4 [8, 9, 10]) .ret) .skip)) (.seq (.seq (.reg false qan3 [1, 2, 3, 4, 8, 10, 41]) (.cond (.t 41) (.seq (.reg false qalo [8, 9, 10]) .ret) .skip)) (.seq (.reg true qaln [4, 8, 10, 12]) (.seq (.reg false qalm [4, 8, 10, 12, 13, 14]) (.block 0 (.loop qaif)))))))))
theorem qae4 : comp Try.prog 100 ((Try.f27.body).getD .skip) = some c_vrun.erase := by kernel_rfl
abbrev qaoj : List SOper := [Oa 4 (.mv (.c (.int .i64 0)))]
abbrev qaoi : List SOper := [Oa 7 (.mv (.t 1)), Oa 8 (.len false (.t 7)), Oa 9 (.mv (.c (.int .i64 0)))]
abbrev qaoh : List SOper := [Oa 10 (.bin .lss (.t 9) (.t 8))]
abbrev qaog : List SOper := [Oa 11 (.iaddr 1 (.t 7) (.t 9)), Oa 12 (.load (.t 11)), Oa 6 (.mv (.t 12))]
abbrev qaof : List SOper := [Oa 13 (.mv (.t 0)), Oa 14 (.mv (.t 6)), Oa 15 (.nilc (.t 13)), Oa 16 (.faddr 16 (.t 15)), Oa 17 (.iarr 10 1 (.t 16) (.t 14)), Oa 18 (.load (.t 17)), Oa 19 (.un .not (.t 18))]
abbrev qaoe : List SOper := [Oa 4 (.mv (.c (.int .i64 15)))]
abbrev qaod : List SOper := [Oa 20 (.bin .add (.t 9) (.c (.int .i64 1))), Oa 9 (.mv (.t 20))]
def qaig : SCode := (.seq (.reg false qaoh [0, 7, 8, 9, 10]) (.seq (.cond (.t 10) .skip (.exit 0)) (.seq (.block 1 (.seq (.reg false qaog [0, 6, 7, 8, 9]) (.seq (.reg false qaof [0, 7, 8, 9, 19]) (.cond (.t 19) (.seq (.reg false qaoe [4]) .ret) .skip)))) (.reg false qaod [0, 7, 8, 9]))))
abbrev qaoc : List SOper := [Oa 4 (.mv (.c (.int .i64 0)))]
def c_vreg : SCode := (.seq (.reg false qaoj [0, 1]) (.seq (.seq (.reg false qaoi [0, 7, 8, 9]) (.block 0 (.loop qaig))) (.seq (.reg false qaoc [4]) .ret)))
theorem qaiu : comp Try.prog 21 ((Try.f66.body).getD .skip) = some c_vreg.erase := by kernel_rfl
abbrev qaom : List SOper := [Oa 6 (.mv (.c (.int .i64 0)))]
abbrev qaol : List SOper := [Oa 7 (.mv (.t 0)), Oa 8 (.mv (.t 1)), Oa 9 (.mv (.t 0)), Oa 10 (.mv (.t 1)), Oa 11 (.mv (.t 2)), Od 12 (.nilc (.t 7)) 1, Od 13 (.faddr 6 (.t 12)) 33, Od 14 (.iarr 10 1 (.t 13) (.t 8)) 115, ⟨none, .store 1 (.t 14) (.t 11), none, none, 243⟩, Od 15 (.nilc (.t 9)) 4, Od 16 (.faddr 16 (.t 15)) 516, Od 17 (.iarr 10 1 (.t 16) (.t 10)) 2047, ⟨none, .store 1 (.t 17) (.c (.bool true)), none, none, 4095⟩]
abbrev qaok : List SOper := [Oa 6 (.mv (.c (.int .i64 0)))]
def c_vput : SCode := (.seq (.reg false qaom [0, 1, 2]) (.seq (.reg true qaol []) (.seq (.reg false qaok [6]) .ret)))
theorem qaiv : comp Try.prog 18 ((Try.f71.body).getD .skip) = some c_vput.erase := by kernel_rfl
abbrev qagu : List SOper := [Oa 6 (.mv (.c (.bool false)))]
abbrev qagt : List SOper := [Oa 8 (.mv (.t 0)), Oa 9 (.nilc (.t 8)), Oa 10 (.faddr 4 (.t 9)), Oa 11 (.load (.t 10)), Oa 12 (.len false (.t 11)), Oa 13 (.conv .u64 (.t 12)), Oa 7 (.mv (.t 13))]
abbrev qags : List SOper := [Oa 14 (.mv (.t 1)), Oa 15 (.mv (.t 7)), Oa 16 (.bin .leq (.t 14) (.t 15)), Oa 17 (.mv (.t 16)), Oe 18 (.mv (.t 2)) 17 true, Oe 19 (.mv (.t 7)) 17 true, Oe 20 (.mv (.t 1)) 17 true, Oe 21 (.bin .sub (.t 19) (.t 20)) 17 true, Oe 22 (.bin .leq (.t 18) (.t 21)) 17 true, Oa 23 (.pick (.t 17) (.t 22) (.c (.bool false))), Oa 6 (.mv (.t 23))]
def c_vwithin : SCode := (.seq (.reg false qagu [0, 1, 2]) (.seq (.reg false qagt [1, 2, 7]) (.seq (.reg false qags [6]) .ret)))
theorem qafk : comp Try.prog 24 ((Try.f65.body).getD .skip) = some c_vwithin.erase := by kernel_rfl
abbrev qamg : List SOper := [Oa 3 (.box 83 (.t 1)), Oa 4 (.mv (.c (.int .i64 0)))]
abbrev qamf : List SOper := [Oa 8 (.mv (.t 0)), Oa 9 (.faddr 2 (.t 3)), Od 10 (.load (.t 9)) 2, Od 11 (.nilc (.t 8)) 1, Od 12 (.faddr 6 (.t 11)) 9, Od 13 (.iarr 10 1 (.t 12) (.t 10)) 31, Od 14 (.load (.t 13)) 63, Od 5 (.mv (.t 14)) 127]
abbrev qame : List SOper := [Oa 15 (.mv (.t 0)), Oa 16 (.mv (.t 5)), Oa 17 (.faddr 5 (.t 3)), Oa 18 (.load (.t 17)), Oa 19 (.faddr 3 (.t 3)), Oa 20 (.load (.t 19)), Oa 21 (.conv .u64 (.t 20)), Oa 22 (.bin .add (.t 18) (.t 21)), Oc 23 65 [(.t 15), (.t 16), (.t 22)], Oa 24 (.un .not (.t 23))]
abbrev qamd : List SOper := [Oa 4 (.mv (.c (.int .i64 16)))]
abbrev qamc : List SOper := [Oa 6 (.mv (.c (.int .u64 0)))]
abbrev qamb : List SOper := [Oa 25 (.faddr 3 (.t 3)), Oa 26 (.load (.t 25)), Oa 27 (.mv (.c (.int .i64 0)))]
abbrev qama : List SOper := [Oa 28 (.bin .lss (.t 27) (.t 26))]
abbrev qal9 : List SOper := [Oa 29 (.mv (.t 27)), Oa 7 (.mv (.t 29))]
abbrev qal8 : List SOper := [Oa 30 (.mv (.t 6)), Od 31 (.bin .shl (.t 30) (.c (.int .u64 8))) 1, Oa 32 (.mv (.t 0)), Od 33 (.nilc (.t 32)) 4, Od 34 (.faddr 4 (.t 33)) 12, Od 35 (.load (.t 34)) 28, Oa 36 (.mv (.t 5)), Oa 37 (.faddr 5 (.t 3)), Od 38 (.load (.t 37)) 128, Od 39 (.bin .add (.t 36) (.t 38)) 448, Od 40 (.conv .i64 (.t 39)) 960, Oa 41 (.mv (.t 7)), Od 42 (.bin .add (.t 40) (.t 41)) 4032, Od 43 (.iaddr 1 (.t 35) (.t 42)) 8188, Od 44 (.load (.t 43)) 16380, Od 45 (.conv .u64 (.t 44)) 32764, Od 46 (.bin .or (.t 31) (.t 45)) 65535, Od 6 (.mv (.t 46)) 131071]
abbrev qai8 : List SOper := [Oa 47 (.bin .add (.t 27) (.c (.int .i64 1))), Oa 27 (.mv (.t 47))]
def qaf2 : SCode := (.seq (.reg false qama [0, 3, 5, 6, 26, 27, 28]) (.seq (.cond (.t 28) .skip (.exit 0)) (.seq (.block 1 (.seq (.reg false qal9 [0, 3, 5, 6, 7, 26, 27]) (.reg true qal8 [0, 3, 5, 6, 26, 27]))) (.reg false qai8 [0, 3, 5, 6, 26, 27]))))
abbrev qai7 : List SOper := [Oa 48 (.mv (.t 0)), Oa 49 (.faddr 1 (.t 3)), Oa 50 (.load (.t 49)), Oa 51 (.mv (.t 6)), Oc 52 71 [(.t 48), (.t 50), (.t 51)], Oa 4 (.mv (.t 52))]
def c_vload : SCode := (.seq (.reg false qamg [0, 3]) (.seq (.reg true qamf [0, 3, 5]) (.seq (.seq (.reg false qame [0, 3, 5, 24]) (.cond (.t 24) (.seq (.reg false qamd [4]) .ret) .skip)) (.seq (.reg false qamc [0, 3, 5, 6]) (.seq (.seq (.reg false qamb [0, 3, 5, 6, 26, 27]) (.block 0 (.loop qaf2))) (.seq (.reg false qai7 [4]) .ret))))))
theorem qaem : comp Try.prog 53 ((Try.f73.body).getD .skip) = some c_vload.erase := by kernel_rfl
abbrev qai6 : List SOper := [Oa 3 (.box 83 (.t 1)), Oa 4 (.mv (.c (.int .i64 0)))]
abbrev qai5 : List SOper := [Oa 7 (.faddr 0 (.t 3)), Oa 8 (.load (.t 7))]
abbrev qai4 : List SOper := [Oa 10 (.bin .eql (.t 8) (.c (.int .i64 1))), Oa 9 (.mv (.t 10))]
abbrev qai3 : List SOper := [Oa 11 (.mv (.t 0)), Oa 12 (.faddr 1 (.t 3)), Oa 13 (.load (.t 12)), Oa 14 (.faddr 5 (.t 3)), Oa 15 (.load (.t 14)), Oc 16 71 [(.t 11), (.t 13), (.t 15)], Oa 4 (.mv (.t 16))]
abbrev qai2 : List SOper := [Oa 18 (.bin .eql (.t 8) (.c (.int .i64 18))), Oa 17 (.mv (.t 18))]
abbrev qai1 : List SOper := [Oa 19 (.mv (.t 0)), Oa 20 (.faddr 1 (.t 3)), Od 21 (.load (.t 20)) 2, Oa 22 (.mv (.t 0)), Od 23 (.nilc (.t 22)) 8, Od 24 (.faddr 5 (.t 23)) 24, Od 25 (.load (.t 24)) 56, Od 26 (.conv .u64 (.t 25)) 120, ⟨(some 27), .mv (.c .any), some ((.c (.fn (.func 71) [] [])), [(.t 19), (.t 21), (.t 26)]), none, 255⟩, Od 4 (.mv (.t 27)) 511]
abbrev qai0 : List SOper := [Oa 29 (.bin .eql (.t 8) (.c (.int .i64 7))), Oa 28 (.mv (.t 29))]
abbrev qaiz : List SOper := [Oa 30 (.mv (.t 0)), Od 31 (.nilc (.t 30)) 1, Od 32 (.faddr 27 (.t 31)) 3, Od 33 (.load (.t 32)) 7, Oa 34 (.faddr 5 (.t 3)), Od 35 (.load (.t 34)) 16, Od 36 (.iaddr 1 (.t 33) (.t 35)) 63, Od 37 (.load (.t 36)) 127, Od 38 (.un .not (.t 37)) 255]
abbrev qaiy : List SOper := [Oa 4 (.mv (.c (.int .i64 15)))]
abbrev qahe : List SOper := [Oa 39 (.mv (.t 0)), Oa 40 (.faddr 1 (.t 3)), Od 41 (.load (.t 40)) 2, Oa 42 (.mv (.t 0)), Od 43 (.nilc (.t 42)) 8, Od 44 (.faddr 26 (.t 43)) 24, Od 45 (.load (.t 44)) 56, Oa 46 (.faddr 5 (.t 3)), Od 47 (.load (.t 46)) 128, Od 48 (.iaddr 1 (.t 45) (.t 47)) 504, Od 49 (.load (.t 48)) 1016, ⟨(some 50), .mv (.c .any), some ((.c (.fn (.func 71) [] [])), [(.t 39), (.t 41), (.t 49)]), none, 2047⟩, Od 4 (.mv (.t 50)) 4095]
abbrev qahd : List SOper := [Oa 52 (.bin .eql (.t 8) (.c (.int .i64 13))), Oa 51 (.mv (.t 52))]
abbrev qahc : List SOper := [Oa 53 (.mv (.t 0)), Oa 54 (.loads 6 (.t 3)), Oc 55 72 [(.t 53), (.t 54)], Oa 4 (.mv (.t 55))]
abbrev qahb : List SOper := [Oa 57 (.bin .eql (.t 8) (.c (.int .i64 2))), Oa 56 (.mv (.t 57))]
abbrev qaha : List SOper := [Oa 58 (.bin .eql (.t 8) (.c (.int .i64 6))), Oa 56 (.mv (.t 58))]
abbrev qag9 : List SOper := [Oa 59 (.mv (.t 0)), Oa 60 (.faddr 2 (.t 3)), Oa 61 (.load (.t 60)), Oa 62 (.mkrow 3 1 1 [(.int .i64 0)] [(0, (.t 61))]), Oc 63 66 [(.t 59), (.t 62)], Oa 5 (.mv (.t 63))]
abbrev qag8 : List SOper := [Oa 64 (.mv (.t 5)), Oa 65 (.bin .neq (.t 64) (.c (.int .i64 0)))]
abbrev qag7 : List SOper := [Oa 66 (.mv (.t 5)), Oa 4 (.mv (.t 66))]
abbrev qag6 : List SOper := [Oa 67 (.faddr 0 (.t 3)), Oa 68 (.load (.t 67)), Oa 69 (.bin .eql (.t 68) (.c (.int .i64 6)))]
abbrev qag5 : List SOper := [Oa 70 (.mv (.t 0)), Oa 71 (.loads 6 (.t 3)), Oc 72 73 [(.t 70), (.t 71)], Oa 4 (.mv (.t 72))]
abbrev qag4 : List SOper := [Oa 73 (.mv (.t 0)), Oa 74 (.faddr 1 (.t 3)), Od 75 (.load (.t 74)) 2, Oa 76 (.mv (.t 0)), Oa 77 (.faddr 2 (.t 3)), Od 78 (.load (.t 77)) 16, Od 79 (.nilc (.t 76)) 8, Od 80 (.faddr 6 (.t 79)) 72, Od 81 (.iarr 10 1 (.t 80) (.t 78)) 248, Od 82 (.load (.t 81)) 504, ⟨(some 83), .mv (.c .any), some ((.c (.fn (.func 71) [] [])), [(.t 73), (.t 75), (.t 82)]), none, 1023⟩, Od 4 (.mv (.t 83)) 2047]
abbrev qag3 : List SOper := [Oa 85 (.bin .eql (.t 8) (.c (.int .i64 3))), Oa 84 (.mv (.t 85))]
abbrev qag2 : List SOper := [Oa 86 (.bin .eql (.t 8) (.c (.int .i64 5))), Oa 84 (.mv (.t 86))]
abbrev qag1 : List SOper := [Oa 87 (.mv (.t 0)), Oa 88 (.faddr 1 (.t 3)), Oa 89 (.load (.t 88)), Oa 90 (.faddr 2 (.t 3)), Oa 91 (.load (.t 90)), Oa 92 (.mkrow 3 1 2 [(.int .i64 0)] [(0, (.t 89)), (1, (.t 91))]), Oc 93 66 [(.t 87), (.t 92)], Oa 6 (.mv (.t 93))]
abbrev qag0 : List SOper := [Oa 94 (.mv (.t 6)), Oa 95 (.bin .neq (.t 94) (.c (.int .i64 0)))]
abbrev qagz : List SOper := [Oa 96 (.mv (.t 6)), Oa 4 (.mv (.t 96))]
abbrev qagy : List SOper := [Oa 97 (.faddr 0 (.t 3)), Oa 98 (.load (.t 97)), Oa 99 (.bin .eql (.t 98) (.c (.int .i64 5)))]
abbrev qagx : List SOper := [Oa 100 (.mv (.t 0)), Oa 101 (.faddr 1 (.t 3)), Od 102 (.load (.t 101)) 2, Oa 103 (.mv (.t 0)), Oa 104 (.faddr 1 (.t 3)), Od 105 (.load (.t 104)) 16, Od 106 (.nilc (.t 103)) 8, Od 107 (.faddr 6 (.t 106)) 72, Od 108 (.iarr 10 1 (.t 107) (.t 105)) 248, Od 109 (.load (.t 108)) 504, Oa 110 (.mv (.t 0)), Oa 111 (.faddr 2 (.t 3)), Od 112 (.load (.t 111)) 2048, Od 113 (.nilc (.t 110)) 1024, Od 114 (.faddr 6 (.t 113)) 9216, Od 115 (.iarr 10 1 (.t 114) (.t 112)) 31744, Od 116 (.load (.t 115)) 64512, ⟨(some 117), .mv (.c .any), some ((.c (.fn (.func 74) [] [])), [(.t 109), (.t 116)]), none, 131064⟩, ⟨(some 118), .mv (.c .any), some ((.c (.fn (.func 71) [] [])), [(.t 100), (.t 102), (.t 117)]), none, 262143⟩, Od 4 (.mv (.t 118)) 524287]
abbrev qagw : List SOper := [Oa 119 (.mv (.t 0)), Oa 120 (.faddr 1 (.t 3)), Od 121 (.load (.t 120)) 2, Oa 122 (.faddr 3 (.t 3)), Od 123 (.load (.t 122)) 8, Oa 124 (.mv (.t 0)), Oa 125 (.faddr 1 (.t 3)), Od 126 (.load (.t 125)) 64, Od 127 (.nilc (.t 124)) 32, Od 128 (.faddr 6 (.t 127)) 288, Od 129 (.iarr 10 1 (.t 128) (.t 126)) 992, Od 130 (.load (.t 129)) 2016, Oa 131 (.mv (.t 0)), Oa 132 (.faddr 2 (.t 3)), Od 133 (.load (.t 132)) 8192, Od 134 (.nilc (.t 131)) 4096, Od 135 (.faddr 6 (.t 134)) 36864, Od 136 (.iarr 10 1 (.t 135) (.t 133)) 126976, Od 137 (.load (.t 136)) 258048, ⟨(some 138), .mv (.c .any), some ((.c (.fn (.func 75) [] [])), [(.t 123), (.t 130), (.t 137)]), none, 524280⟩, ⟨(some 139), .mv (.c .any), some ((.c (.fn (.func 71) [] [])), [(.t 119), (.t 121), (.t 138)]), none, 1048575⟩, Od 4 (.mv (.t 139)) 2097151]
abbrev qagv : List SOper := [Oa 140 (.mv (.t 0)), Oa 141 (.loads 6 (.t 3)), Oc 142 76 [(.t 140), (.t 141)], Oa 4 (.mv (.t 142))]
def c_vplain : SCode := (.seq (.reg false qai6 [0, 3]) (.seq (.seq (.reg false qai5 [0, 3, 8]) (.block 0 (.seq (.reg false qai4 [0, 3, 8, 9]) (.cond (.t 9) (.seq (.reg false qai3 [4]) .ret) (.seq (.reg false qai2 [0, 3, 8, 17]) (.cond (.t 17) (.seq (.reg true qai1 [4]) .ret) (.seq (.reg false qai0 [0, 3, 8, 28]) (.cond (.t 28) (.seq (.seq (.reg true qaiz [0, 3, 38]) (.cond (.t 38) (.seq (.reg false qaiy [4]) .ret) .skip)) (.seq (.reg true qahe [4]) .ret)) (.seq (.reg false qahd [0, 3, 8, 51]) (.cond (.t 51) (.seq (.reg false qahc [4]) .ret) (.seq (.seq (.reg false qahb [0, 3, 8, 56]) (.cond (.t 56) .skip (.reg false qaha [0, 3, 8, 56]))) (.cond (.t 56) (.seq (.seq (.reg false qag9 [0, 3, 5]) (.seq (.reg false qag8 [0, 3, 5, 65]) (.cond (.t 65) (.seq (.reg false qag7 [4]) .ret) .skip))) (.seq (.seq (.reg false qag6 [0, 3, 69]) (.cond (.t 69) (.seq (.reg false qag5 [4]) .ret) .skip)) (.seq (.reg true qag4 [4]) .ret))) (.seq (.seq (.reg false qag3 [0, 3, 8, 84]) (.cond (.t 84) .skip (.reg false qag2 [0, 3, 84]))) (.cond (.t 84) (.seq (.seq (.reg false qag1 [0, 3, 6]) (.seq (.reg false qag0 [0, 3, 6, 95]) (.cond (.t 95) (.seq (.reg false qagz [4]) .ret) .skip))) (.seq (.seq (.reg false qagy [0, 3, 99]) (.cond (.t 99) (.seq (.reg true qagx [4]) .ret) .skip)) (.seq (.reg true qagw [4]) .ret))) .skip)))))))))))))) (.seq (.reg false qagv [4]) .ret)))
theorem qafw : comp Try.prog 143 ((Try.f67.body).getD .skip) = some c_vplain.erase := by kernel_rfl
abbrev qaov : List SOper := [Oa 3 (.box 83 (.t 1)), Oa 4 (.mv (.c (.int .i64 0)))]
abbrev qaou : List SOper := [Oa 8 (.mv (.t 0)), Oa 9 (.faddr 1 (.t 3)), Oa 10 (.load (.t 9)), Oa 11 (.mkrow 3 1 1 [(.int .i64 0)] [(0, (.t 10))]), Oc 12 66 [(.t 8), (.t 11)], Oa 5 (.mv (.t 12))]
abbrev qaot : List SOper := [Oa 13 (.mv (.t 5)), Oa 14 (.bin .neq (.t 13) (.c (.int .i64 0)))]
abbrev qaos : List SOper := [Oa 15 (.mv (.t 5)), Oa 4 (.mv (.t 15))]
abbrev qaor : List SOper := [Oa 16 (.mv (.t 0)), Oa 17 (.faddr 1 (.t 3)), Od 18 (.load (.t 17)) 2, Od 19 (.nilc (.t 16)) 1, Od 20 (.faddr 6 (.t 19)) 9, Od 21 (.iarr 10 1 (.t 20) (.t 18)) 31, Od 22 (.load (.t 21)) 63, Od 6 (.mv (.t 22)) 127]
abbrev qaoq : List SOper := [Oa 23 (.faddr 0 (.t 3)), Oa 24 (.load (.t 23))]
abbrev qaop : List SOper := [Oa 26 (.bin .eql (.t 24) (.c (.int .i64 4))), Oa 25 (.mv (.t 26))]
abbrev qaoo : List SOper := [Oa 27 (.mv (.t 0)), Oa 28 (.faddr 1 (.t 3)), Oa 29 (.load (.t 28)), Oa 30 (.mv (.t 6)), Oa 31 (.un .xor (.t 30)), Oc 32 71 [(.t 27), (.t 29), (.t 31)], Oa 4 (.mv (.t 32))]
abbrev qaon : List SOper := [Oa 34 (.bin .eql (.t 24) (.c (.int .i64 8))), Oa 33 (.mv (.t 34))]
abbrev qal5 : List SOper := [Oa 35 (.mv (.t 0)), Od 36 (.nilc (.t 35)) 1, Od 37 (.faddr 26 (.t 36)) 3, Od 38 (.load (.t 37)) 7, Oa 39 (.faddr 5 (.t 3)), Od 40 (.load (.t 39)) 16, Oa 41 (.mv (.t 0)), Od 42 (.nilc (.t 41)) 64, Od 43 (.faddr 27 (.t 42)) 192, Od 44 (.load (.t 43)) 448, Oa 45 (.faddr 5 (.t 3)), Od 46 (.load (.t 45)) 1024, Oa 47 (.mv (.t 6)), Od 48 (.iaddr 1 (.t 38) (.t 40)) 5119, ⟨none, .store 1 (.t 48) (.t 47), none, none, 13311⟩, Od 49 (.iaddr 1 (.t 44) (.t 46)) 32767, ⟨none, .store 1 (.t 49) (.c (.bool true)), none, none, 65535⟩]
abbrev qal4 : List SOper := [Oa 51 (.bin .eql (.t 24) (.c (.int .i64 14))), Oa 50 (.mv (.t 51))]
abbrev qal3 : List SOper := [Oa 52 (.faddr 3 (.t 3)), Oa 53 (.load (.t 52)), Oa 54 (.bin .sub (.t 53) (.c (.int .i64 1))), Oa 7 (.mv (.t 54))]
abbrev qal2 : List SOper := [Oa 55 (.mv (.t 7)), Oa 56 (.bin .geq (.t 55) (.c (.int .i64 0)))]
abbrev qal1 : List SOper := [Oa 59 (.mv (.t 0)), Oa 60 (.mv (.t 0)), Od 61 (.nilc (.t 60)) 2, Od 62 (.faddr 28 (.t 61)) 6, Od 63 (.faddr 1 (.t 62)) 14, Od 64 (.load (.t 63)) 30, Oa 65 (.mv (.t 6)), Oa 66 (.mv (.t 7)), Od 67 (.bin .mul (.c (.int .i64 8)) (.t 66)) 128, Od 68 (.bin .shr (.t 65) (.t 67)) 448, Od 69 (.conv .u8 (.t 68)) 960, Od 70 (.mkrow 5 1 1 [(.int .u8 0)] [(0, (.t 69))]) 1984, Od 71 (.app 5 1 1 (.t 64) (.t 70)) 4094, Od 72 (.nilc (.t 59)) 8191, Od 73 (.faddr 28 (.t 72)) 16383, Od 74 (.faddr 1 (.t 73)) 32767, ⟨none, .store 1 (.t 74) (.t 71), none, none, 65535⟩]
abbrev qal0 : List SOper := [Oa 57 (.mv (.t 7)), Oa 58 (.bin .sub (.t 57) (.c (.int .i64 1))), Oa 7 (.mv (.t 58))]
def qaih : SCode := (.seq (.seq (.reg false qal2 [0, 6, 7, 56]) (.cond (.t 56) .skip (.exit 1))) (.seq (.block 2 (.reg true qal1 [0, 6, 7])) (.reg false qal0 [0, 6, 7])))
abbrev qalz : List SOper := [Oa 76 (.bin .eql (.t 24) (.c (.int .i64 15))), Oa 75 (.mv (.t 76))]
abbrev qaly : List SOper := [Oa 77 (.mv (.t 0)), Oa 78 (.mv (.t 6)), Oc 79 65 [(.t 77), (.t 78), (.c (.int .u64 0))], Oa 80 (.un .not (.t 79))]
abbrev qalx : List SOper := [Oa 4 (.mv (.c (.int .i64 16)))]
abbrev qalw : List SOper := [Oa 81 (.mv (.t 0)), Oa 82 (.mv (.t 0)), Od 83 (.nilc (.t 82)) 2, Od 84 (.faddr 28 (.t 83)) 6, Od 85 (.faddr 1 (.t 84)) 14, Od 86 (.load (.t 85)) 30, Oa 87 (.mv (.t 0)), Od 88 (.nilc (.t 87)) 64, Od 89 (.faddr 4 (.t 88)) 192, Od 90 (.load (.t 89)) 448, Oa 91 (.mv (.t 6)), Od 92 (.slice 1 (.t 90) (some (.t 91)) none) 1984, Od 93 (.app 5 1 1 (.t 86) (.t 92)) 4094, Od 94 (.nilc (.t 81)) 8191, Od 95 (.faddr 28 (.t 94)) 16383, Od 96 (.faddr 1 (.t 95)) 32767, ⟨none, .store 1 (.t 96) (.t 93), none, none, 65535⟩]
abbrev qalv : List SOper := [Oa 98 (.bin .eql (.t 24) (.c (.int .i64 16))), Oa 97 (.mv (.t 98))]
abbrev qalu : List SOper := [Oa 99 (.mv (.t 0)), Oa 100 (.mv (.t 6)), Oa 101 (.bin .and (.t 100) (.c (.int .u64 65535))), Oa 102 (.conv .i64 (.t 101)), Oa 103 (.nilc (.t 99)), Oa 104 (.faddr 28 (.t 103)), Oa 105 (.faddr 0 (.t 104)), Ob (.store 1 (.t 105) (.t 102))]
abbrev qalt : List SOper := [Oa 107 (.bin .eql (.t 24) (.c (.int .i64 17))), Oa 106 (.mv (.t 107))]
abbrev qals : List SOper := [Oa 4 (.mv (.c (.int .i64 0)))]
def c_vone : SCode := (.seq (.reg false qaov [0, 3]) (.seq (.seq (.reg false qaou [0, 3, 5]) (.seq (.reg false qaot [0, 3, 5, 14]) (.cond (.t 14) (.seq (.reg false qaos [4]) .ret) .skip))) (.seq (.reg true qaor [0, 3, 6]) (.seq (.seq (.reg false qaoq [0, 3, 6, 24]) (.block 0 (.seq (.reg false qaop [0, 3, 6, 24, 25]) (.cond (.t 25) (.seq (.reg false qaoo [4]) .ret) (.seq (.reg false qaon [0, 3, 6, 24, 33]) (.cond (.t 33) (.reg true qal5 []) (.seq (.reg false qal4 [0, 3, 6, 24, 50]) (.cond (.t 50) (.seq (.reg false qal3 [0, 6, 7]) (.block 1 (.loop qaih))) (.seq (.reg false qalz [0, 6, 24, 75]) (.cond (.t 75) (.seq (.seq (.reg false qaly [0, 6, 80]) (.cond (.t 80) (.seq (.reg false qalx [4]) .ret) .skip)) (.reg true qalw [])) (.seq (.reg false qalv [0, 6, 24, 97]) (.cond (.t 97) (.reg false qalu []) (.seq (.reg false qalt [106]) (.cond (.t 106) .skip .skip)))))))))))))) (.seq (.reg false qals [4]) .ret)))))
theorem qaiw : comp Try.prog 108 ((Try.f76.body).getD .skip) = some c_vone.erase := by kernel_rfl
abbrev qajh : List SOper := [Oa 3 (.box 83 (.t 1)), Oa 4 (.mv (.c (.bool false))), Oa 5 (.mv (.c (.int .i64 0)))]
abbrev qajg : List SOper := [Oa 6 (.faddr 0 (.t 3)), Oa 7 (.load (.t 6))]
abbrev qajf : List SOper := [Oa 9 (.bin .eql (.t 7) (.c (.int .i64 12))), Oa 8 (.mv (.t 9))]
abbrev qaje : List SOper := [Oa 4 (.mv (.c (.bool true))), Oa 5 (.mv (.c (.int .i64 0)))]
abbrev qajd : List SOper := [Oa 11 (.bin .eql (.t 7) (.c (.int .i64 9))), Oa 10 (.mv (.t 11))]
abbrev qajc : List SOper := [Oa 12 (.mv (.t 0)), Oa 13 (.mv (.t 0)), Oa 14 (.faddr 1 (.t 3)), Od 15 (.load (.t 14)) 4, Od 16 (.nilc (.t 13)) 2, Od 17 (.faddr 6 (.t 16)) 18, Od 18 (.iarr 10 1 (.t 17) (.t 15)) 62, Od 19 (.load (.t 18)) 126, Oa 20 (.faddr 5 (.t 3)), Od 21 (.load (.t 20)) 256, ⟨(some 22), .mv (.c .any), some ((.c (.fn (.func 65) [] [])), [(.t 12), (.t 19), (.t 21)]), none, 1023⟩, Od 23 (.un .not (.t 22)) 2047, Oa 24 (.mv (.t 0)), Oa 25 (.faddr 1 (.t 3)), Od 26 (.load (.t 25)) 8192, Od 27 (.mkrow 3 1 1 [(.int .i64 0)] [(0, (.t 26))]) 24576, ⟨(some 28), .mv (.c .any), some ((.c (.fn (.func 66) [] [])), [(.t 24), (.t 27)]), none, 63487⟩, Od 4 (.mv (.t 23)) 131071, Od 5 (.mv (.t 28)) 262143]
abbrev qajb : List SOper := [Oa 30 (.bin .eql (.t 7) (.c (.int .i64 10))), Oa 29 (.mv (.t 30))]
abbrev qaja : List SOper := [Oa 31 (.mv (.t 0)), Oa 32 (.faddr 1 (.t 3)), Od 33 (.load (.t 32)) 2, Od 34 (.nilc (.t 31)) 1, Od 35 (.faddr 6 (.t 34)) 9, Od 36 (.iarr 10 1 (.t 35) (.t 33)) 31, Od 37 (.load (.t 36)) 63, Oa 38 (.mv (.t 0)), Oa 39 (.faddr 2 (.t 3)), Od 40 (.load (.t 39)) 256, Od 41 (.nilc (.t 38)) 128, Od 42 (.faddr 6 (.t 41)) 1152, Od 43 (.iarr 10 1 (.t 42) (.t 40)) 3968, Od 44 (.load (.t 43)) 8064, Od 45 (.bin .lss (.t 37) (.t 44)) 16383, Oa 46 (.mv (.t 0)), Oa 47 (.faddr 1 (.t 3)), Od 48 (.load (.t 47)) 65536, Oa 49 (.faddr 2 (.t 3)), Od 50 (.load (.t 49)) 262144, Od 51 (.mkrow 3 1 2 [(.int .i64 0)] [(0, (.t 48)), (1, (.t 50))]) 983040, ⟨(some 52), .mv (.c .any), some ((.c (.fn (.func 66) [] [])), [(.t 46), (.t 51)]), none, 2064384⟩, Od 4 (.mv (.t 45)) 4194303, Od 5 (.mv (.t 52)) 8388607]
abbrev qai9 : List SOper := [Oa 54 (.bin .eql (.t 7) (.c (.int .i64 11))), Oa 53 (.mv (.t 54))]
abbrev qahg : List SOper := [Oa 55 (.mv (.t 0)), Oa 56 (.faddr 1 (.t 3)), Od 57 (.load (.t 56)) 2, Od 58 (.nilc (.t 55)) 1, Od 59 (.faddr 6 (.t 58)) 9, Od 60 (.iarr 10 1 (.t 59) (.t 57)) 31, Od 61 (.load (.t 60)) 63, Oa 62 (.mv (.t 0)), Oa 63 (.faddr 2 (.t 3)), Od 64 (.load (.t 63)) 256, Od 65 (.nilc (.t 62)) 128, Od 66 (.faddr 6 (.t 65)) 1152, Od 67 (.iarr 10 1 (.t 66) (.t 64)) 3968, Od 68 (.load (.t 67)) 8064, Od 69 (.bin .eql (.t 61) (.t 68)) 16383, Oa 70 (.mv (.t 0)), Oa 71 (.faddr 1 (.t 3)), Od 72 (.load (.t 71)) 65536, Oa 73 (.faddr 2 (.t 3)), Od 74 (.load (.t 73)) 262144, Od 75 (.mkrow 3 1 2 [(.int .i64 0)] [(0, (.t 72)), (1, (.t 74))]) 983040, ⟨(some 76), .mv (.c .any), some ((.c (.fn (.func 66) [] [])), [(.t 70), (.t 75)]), none, 2064384⟩, Od 4 (.mv (.t 69)) 4194303, Od 5 (.mv (.t 76)) 8388607]
abbrev qahf : List SOper := [Oa 77 (.mv (.t 0)), Oa 78 (.loads 6 (.t 3)), Oc 79 67 [(.t 77), (.t 78)], Oa 4 (.mv (.c (.bool false))), Oa 5 (.mv (.t 79))]
def c_vleads : SCode := (.seq (.reg false qajh [0, 3]) (.seq (.seq (.reg false qajg [0, 3, 7]) (.block 0 (.seq (.reg false qajf [0, 3, 7, 8]) (.cond (.t 8) (.seq (.reg false qaje [4, 5]) .ret) (.seq (.reg false qajd [0, 3, 7, 10]) (.cond (.t 10) (.seq (.reg true qajc [4, 5]) .ret) (.seq (.reg false qajb [0, 3, 7, 29]) (.cond (.t 29) (.seq (.reg true qaja [4, 5]) .ret) (.seq (.reg false qai9 [0, 3, 53]) (.cond (.t 53) (.seq (.reg true qahg [4, 5]) .ret) .skip)))))))))) (.seq (.reg false qahf [4, 5]) .ret)))
theorem qafx : comp Try.prog 80 ((Try.f49.body).getD .skip) = some c_vleads.erase := by kernel_rfl
abbrev qamp : List SOper := [Oa 2 (.box 56 (.t 0)), Oa 4 (.mv (.c (.bool false)))]
abbrev qamo : List SOper := [Oa 7 (.faddr 1 (.t 2)), Oa 8 (.load (.t 7)), Oa 9 (.len false (.t 8)), Oa 10 (.mv (.t 1)), Oa 11 (.len false (.t 10)), Oa 12 (.bin .neq (.t 9) (.t 11))]
abbrev qamn : List SOper := [Oa 4 (.mv (.c (.bool false)))]
abbrev qamm : List SOper := [Oa 13 (.faddr 1 (.t 2)), Oa 14 (.load (.t 13)), Oa 15 (.len false (.t 14)), Oa 16 (.mv (.c (.int .i64 0)))]
abbrev qaml : List SOper := [Oa 17 (.bin .lss (.t 16) (.t 15))]
abbrev qamk : List SOper := [Oa 18 (.mv (.t 16)), Oa 19 (.iaddr 3 (.t 14) (.t 16)), Oa 20 (.loads 3 (.t 19)), Oa 6 (.alloc 107 [(.int .i64 0), (.int .i64 0), (.int .i64 0)]), Oa 5 (.mv (.t 18)), Ob (.store 3 (.t 6) (.t 20))]
abbrev qamj : List SOper := [Oa 21 (.mv (.t 1)), Oa 22 (.mv (.t 5)), Od 23 (.iaddr 1 (.t 21) (.t 22)) 3, Od 24 (.load (.t 23)) 7, Od 25 (.eq 1 false (.t 24) (.c .nil)) 15, Od 26 (.mv (.t 25)) 31, Of 27 (.mv (.t 1)) 26 false 63, Of 28 (.mv (.t 5)) 26 false 63, Of 29 (.iaddr 1 (.t 27) (.t 28)) 26 false 255, Of 30 (.load (.t 29)) 26 false 511, ⟨(some 31), .mv (.c .any), some ((.c (.fn (.func 64) [] [])), [(.t 30)]), (some (26, false)), 1023⟩, Of 32 (.faddr 0 (.t 6)) 26 false 63, Of 33 (.load (.t 32)) 26 false 2111, Of 34 (.bin .neq (.t 31) (.t 33)) 26 false 8191, Od 35 (.pick (.t 26) (.c (.bool true)) (.t 34)) 16383]
abbrev qami : List SOper := [Oa 4 (.mv (.c (.bool false)))]
abbrev qamh : List SOper := [Oa 36 (.bin .add (.t 16) (.c (.int .i64 1))), Oa 16 (.mv (.t 36))]
def qaer : SCode := (.seq (.reg false qaml [1, 14, 15, 16, 17]) (.seq (.cond (.t 17) .skip (.exit 0)) (.seq (.block 1 (.seq (.reg false qamk [1, 5, 6, 14, 15, 16]) (.seq (.reg true qamj [1, 14, 15, 16, 35]) (.cond (.t 35) (.seq (.reg false qami [4]) .ret) .skip)))) (.reg false qamh [1, 14, 15, 16]))))
abbrev qaji : List SOper := [Oa 4 (.mv (.c (.bool true)))]
def c_vfits : SCode := (.seq (.reg false qamp [1, 2]) (.seq (.seq (.reg false qamo [1, 2, 12]) (.cond (.t 12) (.seq (.reg false qamn [4]) .ret) .skip)) (.seq (.seq (.reg false qamm [1, 14, 15, 16]) (.block 0 (.loop qaer))) (.seq (.reg false qaji [4]) .ret))))
theorem qaen : comp Try.prog 37 ((Try.f48.body).getD .skip) = some c_vfits.erase := by kernel_rfl
abbrev qalr : List SOper := [Oa 4 (.mv (.c (.int .u64 0)))]
abbrev qalq : List SOper := [Oa 6 (.mv (.t 0)), Oa 7 (.bin .and (.t 6) (.c (.int .u64 65535))), Oa 8 (.mv (.t 1)), Oa 9 (.bin .and (.t 8) (.c (.int .u64 65535))), Oa 10 (.bin .add (.t 7) (.t 9)), Oa 5 (.mv (.t 10))]
abbrev qalp : List SOper := [Oa 11 (.mv (.t 5)), Oa 12 (.bin .and (.t 11) (.c (.int .u64 65535))), Oa 13 (.mv (.t 5)), Oa 14 (.bin .shr (.t 13) (.c (.int .u64 16))), Oa 15 (.bin .add (.t 12) (.t 14)), Oa 4 (.mv (.t 15))]
def c_vones : SCode := (.seq (.reg false qalr [0, 1]) (.seq (.reg false qalq [5]) (.seq (.reg false qalp [4]) .ret)))
theorem qagn : comp Try.prog 16 ((Try.f74.body).getD .skip) = some c_vones.erase := by kernel_rfl
abbrev qajw : List SOper := [Oa 6 (.mv (.c (.int .u64 0)))]
abbrev qajv : List SOper := [Oa 7 (.mv (.t 0))]
abbrev qaju : List SOper := [Oa 9 (.bin .eql (.t 7) (.c (.int .i64 3))), Oa 8 (.mv (.t 9))]
abbrev qajt : List SOper := [Oa 10 (.mv (.t 1)), Oa 11 (.mv (.t 2)), Oa 12 (.bin .add (.t 10) (.t 11)), Oa 6 (.mv (.t 12))]
abbrev qajs : List SOper := [Oa 14 (.bin .eql (.t 7) (.c (.int .i64 4))), Oa 13 (.mv (.t 14))]
abbrev qajr : List SOper := [Oa 15 (.mv (.t 1)), Oa 16 (.mv (.t 2)), Oa 17 (.bin .sub (.t 15) (.t 16)), Oa 6 (.mv (.t 17))]
abbrev qajq : List SOper := [Oa 19 (.bin .eql (.t 7) (.c (.int .i64 5))), Oa 18 (.mv (.t 19))]
abbrev qajp : List SOper := [Oa 20 (.mv (.t 1)), Oa 21 (.mv (.t 2)), Oa 22 (.bin .mul (.t 20) (.t 21)), Oa 6 (.mv (.t 22))]
abbrev qajo : List SOper := [Oa 24 (.bin .eql (.t 7) (.c (.int .i64 6))), Oa 23 (.mv (.t 24))]
abbrev qahu : List SOper := [Oa 25 (.mv (.t 1)), Oa 26 (.mv (.t 2)), Oa 27 (.bin .and (.t 25) (.t 26)), Oa 6 (.mv (.t 27))]
abbrev qaht : List SOper := [Oa 29 (.bin .eql (.t 7) (.c (.int .i64 7))), Oa 28 (.mv (.t 29))]
abbrev qahs : List SOper := [Oa 30 (.mv (.t 1)), Oa 31 (.mv (.t 2)), Oa 32 (.bin .or (.t 30) (.t 31)), Oa 6 (.mv (.t 32))]
abbrev qahr : List SOper := [Oa 34 (.bin .eql (.t 7) (.c (.int .i64 8))), Oa 33 (.mv (.t 34))]
abbrev qahq : List SOper := [Oa 35 (.mv (.t 1)), Oa 36 (.mv (.t 2)), Oa 37 (.bin .xor (.t 35) (.t 36)), Oa 6 (.mv (.t 37))]
abbrev qahp : List SOper := [Oa 39 (.bin .eql (.t 7) (.c (.int .i64 9))), Oa 38 (.mv (.t 39))]
abbrev qaho : List SOper := [Oa 40 (.mv (.t 1)), Oa 41 (.mv (.t 2)), Oa 42 (.bin .shl (.t 40) (.t 41)), Oa 6 (.mv (.t 42))]
abbrev qahn : List SOper := [Oa 44 (.bin .eql (.t 7) (.c (.int .i64 10))), Oa 43 (.mv (.t 44))]
abbrev qahm : List SOper := [Oa 45 (.mv (.t 1)), Oa 46 (.mv (.t 2)), Oa 47 (.bin .shr (.t 45) (.t 46)), Oa 6 (.mv (.t 47))]
abbrev qahl : List SOper := [Oa 49 (.bin .eql (.t 7) (.c (.int .i64 11))), Oa 48 (.mv (.t 49))]
abbrev qahk : List SOper := [Oa 50 (.mv (.t 1)), Oa 51 (.mv (.t 2)), Oa 52 (.bin .lss (.t 50) (.t 51)), Oc 53 81 [(.t 52)], Oa 6 (.mv (.t 53))]
abbrev qahj : List SOper := [Oa 55 (.bin .eql (.t 7) (.c (.int .i64 12))), Oa 54 (.mv (.t 55))]
abbrev qahi : List SOper := [Oa 56 (.mv (.t 1)), Oa 57 (.mv (.t 2)), Oa 58 (.bin .eql (.t 56) (.t 57)), Oc 59 81 [(.t 58)], Oa 6 (.mv (.t 59))]
abbrev qahh : List SOper := [Oa 6 (.mv (.c (.int .u64 0)))]
def c_papply : SCode := (.seq (.reg false qajw [0, 1, 2]) (.seq (.seq (.reg false qajv [1, 2, 7]) (.block 0 (.seq (.reg false qaju [1, 2, 7, 8]) (.cond (.t 8) (.seq (.reg false qajt [6]) .ret) (.seq (.reg false qajs [1, 2, 7, 13]) (.cond (.t 13) (.seq (.reg false qajr [6]) .ret) (.seq (.reg false qajq [1, 2, 7, 18]) (.cond (.t 18) (.seq (.reg false qajp [6]) .ret) (.seq (.reg false qajo [1, 2, 7, 23]) (.cond (.t 23) (.seq (.reg false qahu [6]) .ret) (.seq (.reg false qaht [1, 2, 7, 28]) (.cond (.t 28) (.seq (.reg false qahs [6]) .ret) (.seq (.reg false qahr [1, 2, 7, 33]) (.cond (.t 33) (.seq (.reg false qahq [6]) .ret) (.seq (.reg false qahp [1, 2, 7, 38]) (.cond (.t 38) (.seq (.reg false qaho [6]) .ret) (.seq (.reg false qahn [1, 2, 7, 43]) (.cond (.t 43) (.seq (.reg false qahm [6]) .ret) (.seq (.reg false qahl [1, 2, 7, 48]) (.cond (.t 48) (.seq (.reg false qahk [6]) .ret) (.seq (.reg false qahj [1, 2, 54]) (.cond (.t 54) (.seq (.reg false qahi [6]) .ret) .skip)))))))))))))))))))))) (.seq (.reg false qahh [6]) .ret)))
theorem qafz : comp Try.prog 60 ((Try.f75.body).getD .skip) = some c_papply.erase := by kernel_rfl
abbrev qamy : List SOper := [Oa 3 (.box 56 (.t 0)), Oa 6 (.mv (.c (.bool false)))]
abbrev qamx : List SOper := [Oc 13 25 [], Oa 14 (.un .not (.t 13))]
abbrev qamw : List SOper := [Oa 6 (.mv (.c (.bool false)))]
abbrev qamv : List SOper := [Oa 15 (.loads 3 (.t 3)), Oc 16 26 [(.t 15)], Oa 17 (.mv (.t 16)), Oe 18 (.mv (.t 1)) 17 false, Oe 19 (.len false (.t 18)) 17 false, Oe 20 (.bin .gtr (.t 19) (.c (.int .i64 2000))) 17 false, Oa 21 (.pick (.t 17) (.c (.bool true)) (.t 20))]
abbrev qamu : List SOper := [Oa 6 (.mv (.c (.bool true)))]
abbrev qamt : List SOper := [Oa 23 (.loads 3 (.t 3)), Oa 24 (.mv (.t 1)), Oa 25 (.mv (.t 2)), Oc 26 27 [(.t 23), (.c .nilsl), (.t 24), (.t 25)], Oa 22 (.mv (.t 26)), Oa 27 (.extr (.t 22) 0), Oa 28 (.extr (.t 22) 1), Oa 29 (.extr (.t 22) 2), Oa 7 (.alloc 60 [(.int .i64 0), .nilsl]), Oa 9 (.alloc 62 [(.int .i64 0), (.int .i64 0)]), Ob (.store 2 (.t 7) (.t 27)), Oa 8 (.mv (.t 28)), Ob (.store 2 (.t 9) (.t 29))]
abbrev qams : List SOper := [Oa 31 (.loads 3 (.t 3)), Oa 32 (.mkrow 114 1 1 [.nil] [(0, (.c .nil))]), Oa 33 (.mv (.t 1)), Oa 34 (.mv (.t 2)), Oc 35 27 [(.t 31), (.t 32), (.t 33), (.t 34)], Oa 30 (.mv (.t 35)), Oa 36 (.extr (.t 30) 0), Oa 37 (.extr (.t 30) 1), Oa 38 (.extr (.t 30) 2), Oa 10 (.alloc 60 [(.int .i64 0), .nilsl]), Oa 12 (.alloc 62 [(.int .i64 0), (.int .i64 0)]), Ob (.store 2 (.t 10) (.t 36)), Oa 11 (.mv (.t 37)), Ob (.store 2 (.t 12) (.t 38))]
abbrev qamr : List SOper := [Oa 39 (.mv (.t 8)), Oa 40 (.bin .lss (.t 39) (.c (.int .i64 0))), Oa 41 (.mv (.t 40)), Oe 42 (.mv (.t 8)) 41 false, Oe 43 (.faddr 2 (.t 3)) 41 false, Oe 44 (.load (.t 43)) 41 false, Oe 45 (.len false (.t 44)) 41 false, Oe 46 (.bin .gtr (.t 42) (.t 45)) 41 false, Oa 47 (.pick (.t 41) (.c (.bool true)) (.t 46)), Oa 48 (.mv (.t 47)), Oe 49 (.faddr 0 (.t 9)) 48 false, Oe 50 (.load (.t 49)) 48 false, Oe 51 (.bin .eql (.t 50) (.c (.int .i64 0))) 48 false, Oe 52 (.mv (.t 51)) 48 false, Oe 53 (.mv (.t 8)) 52 true, Oe 54 (.bin .eql (.t 53) (.c (.int .i64 0))) 52 true, Oe 55 (.pick (.t 52) (.t 54) (.c (.bool false))) 48 false, Oa 56 (.pick (.t 48) (.c (.bool true)) (.t 55)), Oa 57 (.mv (.t 56)), Oe 58 (.faddr 1 (.t 9)) 57 false, Oe 59 (.load (.t 58)) 57 false, Oe 60 (.faddr 2 (.t 3)) 57 false, Oe 61 (.load (.t 60)) 57 false, Oe 62 (.len false (.t 61)) 57 false, Oe 63 (.bin .geq (.t 59) (.t 62)) 57 false, Oa 64 (.pick (.t 57) (.c (.bool true)) (.t 63))]
abbrev qamq : List SOper := [Oa 6 (.mv (.c (.bool false)))]
abbrev qajj : List SOper := [Oa 65 (.faddr 0 (.t 12)), Oa 66 (.load (.t 65)), Oa 67 (.bin .neq (.t 66) (.c (.int .i64 0))), Oa 68 (.mv (.t 67)), Oe 69 (.mv (.t 11)) 68 true, Oe 70 (.bin .eql (.t 69) (.c (.int .i64 0))) 68 true, Oa 71 (.pick (.t 68) (.t 70) (.c (.bool false))), Oa 72 (.mv (.t 71)), Oe 73 (.loads 2 (.t 10)) 72 true, Oe 74 (.build [(.int .i64 0), .nilsl] []) 72 true, ⟨(some 75), .mv (.c .any), some ((.c (.fn (.func 28) [] [])), [(.t 73), (.t 74)]), (some (72, true)), 0⟩, Oa 76 (.pick (.t 72) (.t 75) (.c (.bool false))), Oa 6 (.mv (.t 76))]
def c_vends : SCode := (.seq (.reg false qamy [1, 2, 3]) (.seq (.seq (.reg false qamx [1, 2, 3, 14]) (.cond (.t 14) (.seq (.reg false qamw [6]) .ret) .skip)) (.seq (.seq (.reg false qamv [1, 2, 3, 21]) (.cond (.t 21) (.seq (.reg false qamu [6]) .ret) .skip)) (.seq (.reg false qamt [1, 2, 3, 8, 9]) (.seq (.reg false qams [3, 8, 9, 10, 11, 12]) (.seq (.seq (.reg false qamr [10, 11, 12, 64]) (.cond (.t 64) (.seq (.reg false qamq [6]) .ret) .skip)) (.seq (.reg false qajj [6]) .ret)))))))
theorem qagp : comp Try.prog 77 ((Try.f5.body).getD .skip) = some c_vends.erase := by kernel_rfl
abbrev qal7 : List SOper := [Oa 0 (.mv (.c (.bool false)))]
abbrev qaf1 : List SOper := [Oa 5 (.build [(.int .i64 0), (.int .i64 0), (.int .i64 0), (.int .i64 0), (.int .i64 0), (.int .u64 0)] [(0, 1, (.c (.int .i64 1))), (5, 1, (.c (.int .u64 5)))]), Oa 6 (.build [(.int .i64 0), (.int .i64 0), (.int .i64 0), (.int .i64 0), (.int .i64 0), (.int .u64 0)] [(0, 1, (.c (.int .i64 16)))]), Oa 7 (.mkrow 83 6 2 [(.int .i64 0), (.int .i64 0), (.int .i64 0), (.int .i64 0), (.int .i64 0), (.int .u64 0)] [(0, (.t 5)), (1, (.t 6))]), Oa 8 (.build [(.int .i64 0), .nilsl, .nilsl] [(2, 1, (.t 7))]), Oa 9 (.mkrow 5 1 1 [(.int .u8 0)] [(0, (.c (.int .u8 1)))]), Oc 10 27 [(.t 8), (.c .nilsl), (.t 9), (.c (.int .i64 2))], Oa 4 (.mv (.t 10)), Oa 11 (.extr (.t 4) 0), Oa 12 (.extr (.t 4) 1), Oa 13 (.extr (.t 4) 2), Oa 1 (.alloc 60 [(.int .i64 0), .nilsl]), Oa 3 (.alloc 62 [(.int .i64 0), (.int .i64 0)]), Ob (.store 2 (.t 1) (.t 11)), Oa 2 (.mv (.t 12)), Ob (.store 2 (.t 3) (.t 13))]
abbrev qal6 : List SOper := [Oa 14 (.faddr 0 (.t 3)), Oa 15 (.load (.t 14)), Oa 16 (.bin .eql (.t 15) (.c (.int .i64 0))), Oa 17 (.mv (.t 16)), Oe 18 (.mv (.t 2)) 17 true, Oe 19 (.bin .eql (.t 18) (.c (.int .i64 2))) 17 true, Oa 20 (.pick (.t 17) (.t 19) (.c (.bool false))), Oa 21 (.mv (.t 20)), Oe 22 (.loads 2 (.t 1)) 21 true, Oe 23 (.build [(.int .i64 0), .nilsl] [(0, 1, (.c (.int .i64 5)))]) 21 true, ⟨(some 24), .mv (.c .any), some ((.c (.fn (.func 28) [] [])), [(.t 22), (.t 23)]), (some (21, true)), 0⟩, Oa 25 (.pick (.t 21) (.t 24) (.c (.bool false))), Oa 0 (.mv (.t 25))]
def c_vmbeg : SCode := (.seq (.reg false qal7 []) (.seq (.reg false qaf1 [1, 2, 3]) (.seq (.reg false qal6 [0]) .ret)))
theorem qago : comp Try.prog 26 ((Try.f25.body).getD .skip) = some c_vmbeg.erase := by kernel_rfl
end Go.Proofs.Ytefkifebgeagiaa
namespace Go.Proofs.Ytefkifebgeagiaa
set_option linter.all false
open Go.RowKit
def renB (σ : Nat → Nat) : SV → SV
 | .ptr id o => .ptr (σ id) o
 | .eptr id z i j => .eptr (σ id) z i j
 | .own id n => .own (σ id) n
 | .owno id z i n => .owno (σ id) z i n
 | .agg _ | .tup _ | .fn _ _ _ | .ifc _ _ => .bot
 | x => x
def renA (σ : Nat → Nat) : SV → SV
 | .agg cs => .agg (cs.map (renB σ))
 | x => renB σ x
def ren0 (σ : Nat → Nat) : SV → SV
 | .ifc t x => .ifc t (renA σ x)
 | .ptr id o => .ptr (σ id) o
 | .eptr id z i j => .eptr (σ id) z i j
 | .own id n => .own (σ id) n
 | .owno id z i n => .owno (σ id) z i n
 | .agg _ | .tup _ => .bot
 | .fn f [] [] => .fn f [] []
 | .fn _ _ _ => .bot
 | x => x
def ren1 (σ : Nat → Nat) : SV → SV
 | .agg cs => .agg (cs.map (ren0 σ))
 | .fn f gs bs => .fn f (gs.map (ren0 σ)) (bs.map (ren0 σ))
 | x => ren0 σ x
def ren (σ : Nat → Nat) : SV → SV
 | .tup cs => .tup (cs.map (ren1 σ))
 | .agg cs => .agg (cs.map (ren1 σ))
 | x => ren1 σ x
variable {w : World} {A : Nat → Prop} {ρ : qaau} {σ : Nat → Nat}
theorem RepV.view_any {ρ' : qaau} {size : Nat} {es : List (List SV)} {v : Value} (h : RepV w A ρ (.view size es) v) : RepV w A ρ' (.view size es) v := by
 cases h with
 | view0 hc ha => exact .view0 hc ha
 | view cv hn hc hm hA hb hz h1 h2 ho => exact .view cv hn hc hm hA hb hz h1 h2 ho
theorem RepV.cp_any {ρ' : qaau} {cs : List SV} {v : Value} (h : RepV w A ρ (.cp cs) v) : RepV w A ρ' (.cp cs) v := by
 cases h with
 | cp cv hA hb h1 h2 ho => exact .cp cv hA hb h1 h2 ho
theorem qah2 {x : SV} {v : Value} (h : RepV w A ρ (renB σ x) v) : RepV w A (fun id => ρ (σ id)) x v := by
 cases x with
 | any => exact .any
 | bool b => change RepV w A ρ (.bool b) v at h; cases h; exact .bool
 | int k n => change RepV w A ρ (.int k n) v at h; cases h; exact .int
 | str t => change RepV w A ρ (.str t) v at h; cases h; exact .str
 | nil => change RepV w A ρ .nil v at h; cases h; exact .nil
 | nilsl => change RepV w A ρ .nilsl v at h; cases h; exact .nilsl
 | nilfn => change RepV w A ρ .nilfn v at h; cases h; exact .nilfn
 | niliface => change RepV w A ρ .niliface v at h; cases h; exact .niliface
 | mt => change RepV w A ρ .mt v at h; cases h with | mt hc => exact .mt hc
 | view z es => exact RepV.view_any h
 | cp cs => exact RepV.cp_any h
 | ptr id o => change RepV w A ρ (.ptr (σ id) o) v at h; cases h with | ptr h => exact .ptr h
 | eptr id z i j => change RepV w A ρ (.eptr (σ id) z i j) v at h; cases h with | eptr h => exact .eptr h
 | own id n =>
  change RepV w A ρ (.own (σ id) n) v at h
  cases h with
  | own0 h => exact .own0 h
  | own h h2 h3 => exact .own h h2 h3
 | owno id z i n => change RepV w A ρ (.owno (σ id) z i n) v at h; cases h with | owno h h2 h3 => exact .owno h h2 h3
 | agg cs => change RepV w A ρ .bot v at h; cases h
 | tup cs => change RepV w A ρ .bot v at h; cases h
 | bot => change RepV w A ρ .bot v at h; cases h
 | fn f a b => change RepV w A ρ .bot v at h; cases h
 | ifc t x => change RepV w A ρ .bot v at h; cases h
theorem qanl {x : SV} {v : Value} (h : RepV w A ρ (renA σ x) v) : RepV w A (fun id => ρ (σ id)) x v := by
 cases x with
 | agg cs =>
  change RepV w A ρ (.agg (cs.map (renB σ))) v at h
  cases h with
  | agg ho hl hh =>
   refine .agg ho (by simpa using hl) fun j x v hx hv => qah2 (hh j (renB σ x) v ?_ hv)
   rw [List.getElem?_map, hx]; rfl
 | _ => exact qah2 h
theorem qad8 {x : SV} {v : Value} (h : RepV w A ρ (ren0 σ x) v) : RepV w A (fun id => ρ (σ id)) x v := by
 cases x with
 | any => exact .any
 | bool b => change RepV w A ρ (.bool b) v at h; cases h; exact .bool
 | int k n => change RepV w A ρ (.int k n) v at h; cases h; exact .int
 | str t => change RepV w A ρ (.str t) v at h; cases h; exact .str
 | nil => change RepV w A ρ .nil v at h; cases h; exact .nil
 | nilsl => change RepV w A ρ .nilsl v at h; cases h; exact .nilsl
 | nilfn => change RepV w A ρ .nilfn v at h; cases h; exact .nilfn
 | niliface => change RepV w A ρ .niliface v at h; cases h; exact .niliface
 | ifc t x => change RepV w A ρ (.ifc t (renA σ x)) v at h; cases h with | ifc h => exact .ifc (qanl h)
 | mt => change RepV w A ρ .mt v at h; cases h with | mt hc => exact .mt hc
 | view z es => exact RepV.view_any h
 | cp cs => exact RepV.cp_any h
 | ptr id o => change RepV w A ρ (.ptr (σ id) o) v at h; cases h with | ptr h => exact .ptr h
 | eptr id z i j => change RepV w A ρ (.eptr (σ id) z i j) v at h; cases h with | eptr h => exact .eptr h
 | own id n =>
  change RepV w A ρ (.own (σ id) n) v at h
  cases h with
  | own0 h => exact .own0 h
  | own h h2 h3 => exact .own h h2 h3
 | owno id z i n => change RepV w A ρ (.owno (σ id) z i n) v at h; cases h with | owno h h2 h3 => exact .owno h h2 h3
 | agg cs => change RepV w A ρ .bot v at h; cases h
 | tup cs => change RepV w A ρ .bot v at h; cases h
 | bot => change RepV w A ρ .bot v at h; cases h
 | fn f a b =>
  cases a with
  | nil =>
   cases b with
   | nil =>
    change RepV w A ρ (.fn f [] []) v at h
    cases h with
    | fn l1 l2 r1 r2 => exact .fn l1 l2 (by simp) (by simp)
   | cons y b => change RepV w A ρ .bot v at h; cases h
  | cons y a => change RepV w A ρ .bot v at h; cases h
theorem qac6 {f : SV → SV} {g : qaau} (hf : ∀ {x v}, RepV w A ρ (f x) v → RepV w A g x v) {cs : List SV} {vs : List Value} (h : ∀ (j : Nat) x v, (cs.map f)[j]? = some x → vs[j]? = some v → RepV w A ρ x v) : ∀ (j : Nat) x v, cs[j]? = some x → vs[j]? = some v → RepV w A g x v := fun j x v hx hv => by
 refine hf (h j (f x) v ?_ hv)
 rw [List.getElem?_map, hx]; rfl
theorem qae9 {x : SV} {v : Value} (h : RepV w A ρ (ren1 σ x) v) : RepV w A (fun id => ρ (σ id)) x v := by
 cases x with
 | agg cs =>
  change RepV w A ρ (.agg (cs.map (ren0 σ))) v at h
  cases h with
  | agg ho hl hh => exact .agg ho (by simpa using hl) (qac6 qad8 hh)
 | fn f a b =>
  change RepV w A ρ (.fn f (a.map (ren0 σ)) (b.map (ren0 σ))) v at h
  cases h with
  | fn l1 l2 r1 r2 => exact .fn (by simpa using l1) (by simpa using l2) (qac6 qad8 r1) (qac6 qad8 r2)
 | _ => exact qad8 h
theorem qako {x : SV} {v : Value} (h : RepV w A ρ (ren σ x) v) : RepV w A (fun id => ρ (σ id)) x v := by
 cases x with
 | agg cs =>
  change RepV w A ρ (.agg (cs.map (ren1 σ))) v at h
  cases h with
  | agg ho hl hh => exact .agg ho (by simpa using hl) (qac6 qae9 hh)
 | tup cs =>
  change RepV w A ρ (.tup (cs.map (ren1 σ))) v at h
  cases h with
  | tup hl hh => exact .tup (by simpa using hl) (qac6 qae9 hh)
 | _ => exact qae9 h
theorem qadl {xs : List SV} {vs : List Value} (h : Reps w A ρ (xs.map (ren σ)) vs) : Reps w A (fun id => ρ (σ id)) xs vs := ⟨by simpa using h.1, qac6 qako h.2⟩
def Co (x y : SV) : Prop := ∀ w A ρ v, RepV w A ρ x v → RepV w A ρ y v
theorem Co.refl (x : SV) : Co x x := fun _ _ _ _ h => h
theorem Co.any (x : SV) : Co x .any := fun _ _ _ _ _ => .any
theorem Co.nilsl (z : Nat) : Co .nilsl (.view z []) := fun _ _ _ _ h => by cases h; exact .view0 (by simp [maxLen]) (fun _ => rfl)
def CoL : List SV → List SV → Prop
 | [], [] => True
 | x :: xs, y :: ys => Co x y ∧ CoL xs ys
 | _, _ => False
theorem CoL.refl : ∀ xs, CoL xs xs
 | [] => trivial
 | x :: xs => ⟨.refl x, CoL.refl xs⟩
theorem CoL.length : ∀ {xs ys}, CoL xs ys → xs.length = ys.length
 | [], [], _ => rfl
 | x :: xs, y :: ys, h => by rw [List.length_cons, List.length_cons, CoL.length h.2]
 | [], _ :: _, h => h.elim
 | _ :: _, [], h => h.elim
theorem CoL.reps : ∀ {xs ys : List SV} {vs : List Value}, CoL xs ys → Reps w A ρ xs vs → Reps w A ρ ys vs
 | [], [], _, _, h => h
 | x :: xs, y :: ys, vs, h, hr => by
  obtain ⟨v, us, rfl, h1, h2⟩ := hr.cons_inv
  exact Reps.cons (h.1 _ _ _ _ h1) (CoL.reps h.2 h2)
 | [], _ :: _, _, h, _ => h.elim
 | _ :: _, [], _, h, _ => h.elim
theorem CoL.append : ∀ {xs ys us vs : List SV}, CoL xs ys → CoL us vs → CoL (xs ++ us) (ys ++ vs)
 | [], [], _, _, _, h => h
 | x :: xs, y :: ys, _, _, h, g => ⟨h.1, CoL.append h.2 g⟩
 | [], _ :: _, _, _, h, _ => h.elim
 | _ :: _, [], _, _, h, _ => h.elim
theorem Co.agg {xs ys : List SV} (h : CoL xs ys) : Co (.agg xs) (.agg ys) := fun w A ρ v hv => by
 cases hv with
 | agg ho hl hh => have := h.reps ⟨hl, hh⟩; exact .agg ho this.1 this.2
theorem Co.tup {xs ys : List SV} (h : CoL xs ys) : Co (.tup xs) (.tup ys) := fun w A ρ v hv => by
 cases hv with
 | tup hl hh => have := h.reps ⟨hl, hh⟩; exact .tup this.1 this.2
def CoLL : List (List SV) → List (List SV) → Prop
 | [], [] => True
 | x :: xs, y :: ys => CoL x y ∧ CoLL xs ys
 | _, _ => False
theorem CoLL.refl : ∀ xs, CoLL xs xs
 | [] => trivial
 | x :: xs => ⟨.refl x, CoLL.refl xs⟩
theorem CoLL.append : ∀ {xs ys us vs : List (List SV)}, CoLL xs ys → CoLL us vs → CoLL (xs ++ us) (ys ++ vs)
 | [], [], _, _, _, h => h
 | x :: xs, y :: ys, _, _, h, g => ⟨h.1, CoLL.append h.2 g⟩
 | [], _ :: _, _, _, h, _ => h.elim
 | _ :: _, [], _, _, h, _ => h.elim
theorem CoLL.length : ∀ {xs ys}, CoLL xs ys → xs.length = ys.length
 | [], [], _ => rfl
 | x :: xs, y :: ys, h => by rw [List.length_cons, List.length_cons, CoLL.length h.2]
 | [], _ :: _, h => h.elim
 | _ :: _, [], h => h.elim
theorem CoLL.flat : ∀ {xs ys}, CoLL xs ys → CoL xs.flatten ys.flatten
 | [], [], _ => trivial
 | x :: xs, y :: ys, h => by rw [List.flatten_cons, List.flatten_cons]; exact h.1.append (CoLL.flat h.2)
 | [], _ :: _, h => h.elim
 | _ :: _, [], h => h.elim
theorem CoLL.sizes {z : Nat} : ∀ {xs ys}, CoLL xs ys → (∀ x ∈ xs, x.length = z) → ∀ y ∈ ys, y.length = z
 | [], [], _, _, y, hy => by cases hy
 | x :: xs, y :: ys, h, hz, u, hu => by
  rcases List.mem_cons.1 hu with e | e
  ·rw [e, ← h.1.length]; exact hz x (by simp)
  ·exact CoLL.sizes h.2 (fun x hx => hz x (by simp [hx])) u e
 | [], _ :: _, h, _, _, _ => h.elim
 | _ :: _, [], h, _, _, _ => h.elim
def ObjM (σ : Nat → Nat) : SObj → SObj → Prop
 | .cells t cs, .cells t' ds => t = t' ∧ CoL cs (ds.map (ren σ))
 | .row e z es, .row e' z' fs => e = e' ∧ z = z' ∧ CoLL es (fs.map (·.map (ren σ)))
 | .abs I, .abs I' => I = I'
 | _, _ => False
theorem ObjM.back {o o' : SObj} (h : ObjM σ o o') {id : Nat} {F : Nat → Prop} (hr : ObjRep w A ρ (σ id) F o) : ObjRep w A (fun id => ρ (σ id)) id F o' := by
 cases o with
 | cells t cs =>
  cases o' with
  | cells t' ds =>
   obtain ⟨rfl, hco⟩ := h
   obtain ⟨b, c, vs, h1, h2, ⟨h3, h4⟩, h5⟩ := hr
   exact ⟨b, c, vs, h1, h2, ⟨qadl (hco.reps h3), h4⟩, h5⟩
  | row => exact h.elim
  | abs => exact h.elim
 | row e z es =>
  cases o' with
  | row e' z' fs =>
   obtain ⟨rfl, rfl, hco⟩ := h
   obtain ⟨v, vs, h1, ⟨h2, h3⟩, h4, h5, h6⟩ := hr
   have hl : es.length = fs.length := by have := hco.length; simpa using this
   refine ⟨v, vs, by rw [← hl]; exact h1, ⟨?_, h3⟩, fun x hx => ?_, h5, h6⟩
   ·have h7 := hco.flat.reps h2
    rw [← List.map_flatten] at h7
    exact qadl h7
   ·have := hco.sizes h4 (x.map (ren σ)) (List.mem_map.2 ⟨x, hx, rfl⟩)
    simpa using this
  | cells => exact h.elim
  | abs => exact h.elim
 | abs I =>
  cases o' with
  | abs I' => obtain rfl := h; exact hr
  | cells => exact h.elim
  | row => exact h.elim
def SlotsM (σ : Nat → Nat) (sl : Sl) : Sl → Prop
 | [] => True
 | (t, v) :: r => Co (gets sl t) (ren σ v) ∧ SlotsM σ sl r
def ObjsM (σ : Nat → Nat) (hp : Hp) : Hp → Prop
 | [] => True
 | (i, o') :: r => (∃ o, geth hp (σ i) = some o ∧ ObjM σ o o') ∧ ObjsM σ hp r
theorem SlotsM.get {sl : Sl} : ∀ {l : Sl}, SlotsM σ sl l → ∀ t, gets l t = .any ∨ Co (gets sl t) (ren σ (gets l t))
 | [], _, t => .inl rfl
 | (u, v) :: r, h, t => by
  simp only [gets]
  split
  ·rename_i e; subst e; exact .inr h.1
  ·exact SlotsM.get h.2 t
theorem ObjsM.get {hp : Hp} : ∀ {l : Hp}, ObjsM σ hp l → ∀ id o', geth l id = some o' → ∃ o, geth hp (σ id) = some o ∧ ObjM σ o o'
 | [], _, id, o', h => by cases h
 | (i, x) :: r, h, id, o', hg => by
  simp only [geth] at hg
  split at hg
  ·rename_i e; subst e; cases hg; exact h.1
  ·exact ObjsM.get h.2 id o' hg
def rn : List (Nat × Nat) → Nat → Nat → Nat
 | [], U, id => U + id
 | (i, j) :: D, U, id => if i = id then j else rn D U id
variable {X : Cx} {s s' : SSt}
theorem wk_ren (σ : Nat → Nat) (hm : ∀ id, id < X.m → σ id = id) (hsl : SlotsM σ s.sl s'.sl) (hhp : ObjsM σ s.hp s'.hp) (hinj : ∀ id id', geth s'.hp id ≠ none → geth s'.hp id' ≠ none → σ id = σ id' → id = id') (hfr : ∀ id, s'.nx ≤ id → s.nx ≤ σ id) (hle : X.m ≤ s'.nx) : Wk X s s' := by
 intro ρ fp a w h
 have hav : ∀ k, Av X s'.hp (fun id => fp (σ id)) k → Av X s.hp fp k := by
  rintro k (hO | ⟨id, o', ho, hk⟩)
  ·exact .inl hO
  ·obtain ⟨o, h1, _⟩ := hhp.get id o' ho
   exact .inr ⟨σ id, o, h1, hk⟩
 refine ⟨fun id => ρ (σ id), fun id => fp (σ id), ⟨⟨fun id o' ho => ?_, fun id id' o o' hne ho ho' k hk => ?_, fun id o ho k hk => ?_, h.sim.h.step, fun id hid => ?_⟩, h.sim.tmps, h.sim.defers, fun t => ?_⟩, fun id hid => h.fresh _ (hfr id hid), hle⟩
 ·obtain ⟨o, h1, h2⟩ := hhp.get id o' ho
  exact (h2.back (h.sim.h.objs _ _ h1)).weaken fun k hk _ => hav k hk
 ·obtain ⟨x, h1, _⟩ := hhp.get id o ho
  obtain ⟨y, h2, _⟩ := hhp.get id' o' ho'
  exact h.sim.h.disj _ _ x y (fun e => hne (hinj id id' (by rw [ho]; simp) (by rw [ho']; simp) e)) h1 h2 k hk
 ·obtain ⟨x, h1, _⟩ := hhp.get id o ho
  exact h.sim.h.turn _ x h1 k hk
 ·show ρ (σ id) = _
  rw [hm id hid]; exact h.sim.h.keep id hid
 ·rcases hsl.get t with h1 | h1
  ·rw [h1]; exact .any
  ·exact (qako (h1 _ _ _ _ (h.sim.slots t))).weaken fun k hk _ => hav k hk
theorem qakl {U n : Nat} : ∀ (D : List (Nat × Nat)), (D.all fun p => decide (p.1 < n)) = true → ∀ id, n ≤ id → rn D U id = U + id
 | [], _, id, _ => rfl
 | (i, j) :: D, h, id, hid => by
  simp only [List.all_cons, Bool.and_eq_true, decide_eq_true_eq] at h
  rw [rn, if_neg (by omega)]
  exact qakl D h.2 id hid
def qabc (m n : Nat) (D : List (Nat × Nat)) (hp' : Hp) : Bool :=
 (D.all fun p => decide (p.1 < n)) && ((List.range m).all fun i => rn D 0 i == i && D.any fun p => p.1 == i) && ((idsH hp').all fun i => D.any fun p => p.1 == i) && decide (((D.filter fun p => (idsH hp').contains p.1).map (·.2)).Nodup)
end Go.Proofs.Ytefkifebgeagiaa
namespace Go.Proofs.Ytefkifebgeagiaa
set_option linter.all false
open Go.RowKit
variable {w : World} {A : Nat → Prop} {ρ : qaau} {σ : Nat → Nat} {X : Cx} {s s' : SSt}
theorem qanh {U : Nat} : ∀ (D : List (Nat × Nat)) (id : Nat), (D.any fun p => p.1 == id) = true → rn D U id = rn D 0 id ∧ (id, rn D 0 id) ∈ D
 | [], id, h => by simp at h
 | (i, j) :: D, id, h => by
  by_cases e : i = id
  ·subst e; simp [rn]
  ·simp only [List.any_cons, Bool.or_eq_true, beq_iff_eq, e, false_or] at h
   obtain ⟨h1, h2⟩ := qanh (U := U) D id h
   simp only [rn, if_neg e]
   exact ⟨h1, List.mem_cons_of_mem _ h2⟩
theorem qanq {D : List (Nat × Nat)} (h : (D.map (·.2)).Nodup) {a b c : Nat} (h1 : (a, c) ∈ D) (h2 : (b, c) ∈ D) : a = b := by
 induction D with
 | nil => cases h1
 | cons p D ih =>
  rw [List.map_cons, List.nodup_cons] at h
  rcases List.mem_cons.1 h1 with e1 | e1
  ·rcases List.mem_cons.1 h2 with e2 | e2
   ·exact (Prod.mk.inj (e1.trans e2.symm)).1
   ·exact absurd (List.mem_map.2 ⟨_, e2, by rw [← e1]⟩) h.1
  ·rcases List.mem_cons.1 h2 with e2 | e2
   ·exact absurd (List.mem_map.2 ⟨_, e1, by rw [← e2]⟩) h.1
   ·exact ih h.2 e1 e2
theorem qaco : ∀ {hp : Hp} {id : Nat}, geth hp id ≠ none → id ∈ idsH hp
 | [], id, h => absurd rfl h
 | (i, o) :: r, id, h => by
  by_cases e : i = id
  ·subst e; simp [idsH]
  ·simp only [geth, if_neg e] at h
   exact List.mem_cons_of_mem _ (qaco h)
theorem qao0 (D : List (Nat × Nat)) {m : Nat} (hm : X.m = m) (hok : qabc m s'.nx D s'.hp = true) (hle : m ≤ s'.nx) (hsl : SlotsM (rn D s.nx) s.sl s'.sl) (hhp : ObjsM (rn D s.nx) s.hp s'.hp) : Wk X s s' := by
 simp only [qabc, Bool.and_eq_true, decide_eq_true_eq] at hok
 obtain ⟨⟨⟨h1, h2⟩, h3⟩, h4⟩ := hok
 refine wk_ren (rn D s.nx) (fun id hid => ?_) hsl hhp (fun id id' ho ho' e => ?_) (fun id hid => ?_) (by omega)
 ·rw [hm] at hid
  have := List.all_eq_true.1 h2 id (List.mem_range.2 hid)
  simp only [Bool.and_eq_true, beq_iff_eq] at this
  rw [(qanh D id this.2).1]; exact this.1
 ·have a1 := List.all_eq_true.1 h3 id (qaco ho)
  have a2 := List.all_eq_true.1 h3 id' (qaco ho')
  obtain ⟨b1, b2⟩ := qanh (U := s.nx) D id a1
  obtain ⟨c1, c2⟩ := qanh (U := s.nx) D id' a2
  rw [b1, c1] at e
  rw [e] at b2
  have m1 : (id, rn D 0 id') ∈ D.filter fun p => (idsH s'.hp).contains p.1 := List.mem_filter.2 ⟨b2, by simpa using qaco ho⟩
  have m2 : (id', rn D 0 id') ∈ D.filter fun p => (idsH s'.hp).contains p.1 := List.mem_filter.2 ⟨c2, by simpa using qaco ho'⟩
  exact qanq h4 m1 m2
 ·rw [qakl D h1 id hid]; omega
def qaf5 (x : SV) : Prop := ∀ w A ρ v, RepV w A ρ x v → RepV w A noPl x v
theorem qage (k : IntKind) (n : Int) : qaf5 (.int k n) := fun w A ρ v h => by cases h; exact .int
theorem qafd (b : Bool) : qaf5 (.bool b) := fun w A ρ v h => by cases h; exact .bool
theorem qaks (t : ByteArray) : qaf5 (.str t) := fun w A ρ v h => by cases h; exact .str
theorem qakt : qaf5 .nil := fun w A ρ v h => by cases h; exact .nil
theorem qaeh : qaf5 .nilsl := fun w A ρ v h => by cases h; exact .nilsl
theorem qafc (z : Nat) (es : List (List SV)) : qaf5 (.view z es) := fun w A ρ v h => h.view_any
theorem qao8 (cs : List SV) : qaf5 (.cp cs) := fun w A ρ v h => h.cp_any
def qaga (cs : List SV) : Prop := ∀ x ∈ cs, qaf5 x
theorem qann : qaga [] := fun x hx => by cases hx
theorem qaku {x : SV} {cs : List SV} (h : qaf5 x) (hs : qaga cs) : qaga (x :: cs) := fun y hy => by
 rcases List.mem_cons.1 hy with e | e
 ·rw [e]; exact h
 ·exact hs y e
def qapi : SObj → Prop
 | .cells _ cs => qaga cs
 | .row _ _ es => ∀ e ∈ es, qaga e
 | .abs _ => False
def frz0 (g : Nat → Option SObj) (D : List Nat) : SV → SV
 | .own id n => if D.contains id then (match g id with
  | some (.row _ z es) => if n ≤ es.length then .view z (es.take n) else .own id n
  | _ => .own id n) else .own id n
 | .owno id z i n => if D.contains id then (match g id with
  | some (.row _ z' es) => if z = z' ∧ i + n ≤ es.length then .view z ((es.drop i).take n) else .owno id z i n
  | _ => .owno id z i n) else .owno id z i n
 | .ptr id off => if D.contains id then (match g id with
  | some (.cells _ cs) => .cp (cs.drop off)
  | _ => .ptr id off) else .ptr id off
 | x => x
def frz1 (g : Nat → Option SObj) (D : List Nat) : SV → SV
 | .agg cs => .agg (cs.map (frz0 g D))
 | .tup cs => .tup (cs.map (frz0 g D))
 | x => frz0 g D x
def frz (g : Nat → Option SObj) (D : List Nat) : SV → SV
 | .tup cs => .tup (cs.map (frz1 g D))
 | x => frz1 g D x
def frzH (g : Nat → Option SObj) (D : List Nat) : Hp → Hp
 | [] => []
 | (i, o) :: r => if D.contains i then frzH g D r else (i, match o with
  | .cells t cs => .cells t (cs.map (frz0 g D))
  | .row e z es => .row e z (es.map (·.map (frz0 g D)))
  | .abs I => .abs I) :: frzH g D r
def frzS (g : Nat → Option SObj) (D : List Nat) : Sl → Sl
 | [] => []
 | (t, v) :: r => (t, frz g D v) :: frzS g D r
def SSt.frz (s : SSt) (D : List Nat) : SSt := ⟨frzS (geth s.hp) D s.sl, frzH (geth s.hp) D s.hp, s.nx⟩
theorem qak3 (g : Nat → Option SObj) (D : List Nat) : ∀ (l : Sl) (t : Nat), gets (frzS g D l) t = Go.Proofs.Ytefkifebgeagiaa.frz g D (gets l t)
 | [], t => rfl
 | (u, v) :: r, t => by
  simp only [frzS, gets]
  split
  ·rfl
  ·exact qak3 g D r t
theorem qagm (g : Nat → Option SObj) (D : List Nat) : ∀ (h : Hp) (i : Nat), geth (frzH g D h) i = if D.contains i then none else (geth h i).map fun o => match o with
  | .cells t cs => .cells t (cs.map (frz0 g D))
  | .row e z es => .row e z (es.map (·.map (frz0 g D)))
  | .abs I => .abs I
 | [], i => by simp [frzH, geth]
 | (j, o) :: r, i => by
  simp only [frzH]
  split
  ·rename_i hj
   rw [qagm g D r]
   split
   ·rfl
   ·rename_i hi
    have : j ≠ i := fun e => hi (e ▸ hj)
    simp [geth, this]
  ·rename_i hj
   by_cases e : j = i
   ·subst e; simp only [geth, if_pos, hj]; rfl
   ·simp only [geth, if_neg e]; exact qagm g D r i
theorem qafr {ρ' : qaau} {A' : Nat → Prop} {f : SV → SV} (hf : ∀ {x v}, RepV w A ρ x v → RepV w A' ρ' (f x) v) {cs : List SV} {vs : List Value} (h : ∀ (j : Nat) x v, cs[j]? = some x → vs[j]? = some v → RepV w A ρ x v) : ∀ (j : Nat) x v, (cs.map f)[j]? = some x → vs[j]? = some v → RepV w A' ρ' x v := fun j x v hx hv => by
 rw [List.getElem?_map, Option.map_eq_some_iff] at hx
 obtain ⟨y, hy, rfl⟩ := hx
 exact hf (h j y v hy hv)
theorem wk_frz (D : List Nat) (hp : ∀ id o, D.contains id = true → geth s.hp id = some o → qapi o) : Wk X s (s.frz D) := by
 intro ρ fp a w h
 have hg' : ∀ id o', geth (frzH (geth s.hp) D s.hp) id = some o' → D.contains id = false ∧ ∃ o, geth s.hp id = some o ∧ o' = (match o with
  | .cells t cs => .cells t (cs.map (frz0 (geth s.hp) D))
  | .row e z es => .row e z (es.map (·.map (frz0 (geth s.hp) D)))
  | .abs I => .abs I) := fun id o' ho => by
  rw [qagm] at ho
  split at ho
  ·cases ho
  ·rename_i hc
   rw [Option.map_eq_some_iff] at ho
   obtain ⟨o, h1, h2⟩ := ho
   exact ⟨by simpa using hc, o, h1, h2.symm⟩
 have hav : ∀ k, Av X (frzH (geth s.hp) D s.hp) fp k → Av X s.hp fp k := by
  rintro k (hO | ⟨id, o', ho, hk⟩)
  ·exact .inl hO
  ·obtain ⟨_, o, h1, _⟩ := hg' id o' ho
   exact .inr ⟨id, o, h1, hk⟩
 have hfree : ∀ id o k, D.contains id = true → geth s.hp id = some o → fp id k → ¬ Av X (frzH (geth s.hp) D s.hp) fp k := by
  rintro id o k hc ho hk (hO | ⟨id', o', ho', hk'⟩)
  ·rcases (h.sim.h.turn id o ho k hk).1 with h1 | h1
   ·exact X.O_M k hO h1
   ·exact absurd (X.O_lt k hO) (Nat.not_lt_of_le h1)
  ·obtain ⟨h1, o2, h2, _⟩ := hg' id' o' ho'
   have hne : id ≠ id' := fun e => by rw [e, h1] at hc; cases hc
   exact h.sim.h.disj id id' o o2 hne ho h2 k hk hk'
 have f0 : ∀ {x v}, RepV w (Av X s.hp fp) ρ x v → RepV w (Av X (frzH (geth s.hp) D s.hp) fp) ρ (frz0 (geth s.hp) D x) v := by
  intro x v hx
  have hx' := hx.weaken (A' := Av X (frzH (geth s.hp) D s.hp) fp) fun k hk _ => hav k hk
  unfold frz0
  split
  ·rename_i id n
   split
   ·rename_i hc
    split
    ·rename_i e z es ho
     split
     ·rename_i hn
      obtain ⟨v0, us, how, ⟨hrep, huo⟩, hzs, hρ', hfp⟩ := h.sim.h.objs id _ ho
      cases hx with
      | own0 hρ => rw [List.take_zero]; exact .view0 (by simp [maxLen]) (fun _ => rfl)
      | own hρ hnc hm =>
       rename_i b c
       rw [hρ] at hρ'
       have hp0 : qack v0 = some (b, c) := (Option.some.inj hρ').symm
       obtain ⟨hv0, hcell, hlt, _, _⟩ := qacy how hp0
       have hown : fp id b := (hfp b).2 (by rw [hv0]; rfl)
       have hget : ∀ i e j x, (es.take n)[i]? = some e → e[j]? = some x → es.flatten[i * z + j]? = some x := fun i e j x he hx => by
        rw [List.getElem?_take] at he
        split at he
        ·exact qad0 hzs he hx
        ·cases he
       have hval : ∀ i e j x, (es.take n)[i]? = some e → e[j]? = some x → ∃ u, us[i * z + j]? = some u ∧ RepV w (Av X s.hp fp) ρ x u := fun i e j x he hx => hrep.get (hget i e j x he hx)
       refine .view (fun i j => us.getD (i * z + j) undef) (by simp; omega) hnc hm (hfree id _ b hc ho hown) hlt (fun e he => hzs e (List.mem_of_mem_take he)) (fun i e j x he hx => ?_) (fun i e j x he hx => ?_) (fun i e j x he hx => ?_)
       ·obtain ⟨u, h1, h2⟩ := hval i e j x he hx
        rw [Nat.zero_add, List.getD_eq_getElem?_getD, h1]
        exact hcell _ _ h1
       ·obtain ⟨u, h1, h2⟩ := hval i e j x he hx
        rw [List.getD_eq_getElem?_getD, h1]
        have hpe := hp id _ hc ho e (by rw [List.getElem?_take] at he; split at he; exact List.mem_of_getElem? he; cases he) x (List.mem_of_getElem? hx)
        exact (hpe _ _ _ _ h2).weaken fun k hk _ => hav k hk
       ·obtain ⟨u, h1, h2⟩ := hval i e j x he hx
        rw [List.getD_eq_getElem?_getD, h1]
        exact huo u (List.mem_of_getElem? h1)
     ·exact hx'
    ·exact hx'
   ·exact hx'
  ·rename_i id z1 i1 n
   split
   ·rename_i hc
    split
    ·rename_i e z es ho
     split
     ·rename_i hn
      obtain ⟨rfl, hn⟩ := hn
      obtain ⟨v0, us, how, ⟨hrep, huo⟩, hzs, hρ', hfp⟩ := h.sim.h.objs id _ ho
      cases hx with
      | owno hρ hnc hm =>
       rename_i b c
       rw [hρ] at hρ'
       have hp0 : qack v0 = some (b, c) := (Option.some.inj hρ').symm
       obtain ⟨hv0, hcell, hlt, _, _⟩ := qacy how hp0
       have hown : fp id b := (hfp b).2 (by rw [hv0]; rfl)
       have hin : ∀ i e, ((es.drop i1).take n)[i]? = some e → es[i1 + i]? = some e := fun i e he => by
        rw [List.getElem?_take] at he
        split at he
        ·rw [List.getElem?_drop] at he; exact he
        ·cases he
       have hval : ∀ i e j x, ((es.drop i1).take n)[i]? = some e → e[j]? = some x → ∃ u, us[(i1 + i) * z1 + j]? = some u ∧ RepV w (Av X s.hp fp) ρ x u := fun i e j x he hx => hrep.get (qad0 hzs (hin i e he) hx)
       refine .view (fun i j => us.getD ((i1 + i) * z1 + j) undef) (by simp; omega) (by omega) (by omega) (hfree id _ b hc ho hown) hlt (fun e he => hzs e (List.mem_of_mem_drop (List.mem_of_mem_take he))) (fun i e j x he hx => ?_) (fun i e j x he hx => ?_) (fun i e j x he hx => ?_)
       ·obtain ⟨u, h1, h2⟩ := hval i e j x he hx
        rw [show i1 * z1 + i * z1 + j = (i1 + i) * z1 + j by rw [Nat.add_mul], List.getD_eq_getElem?_getD, h1]
        exact hcell _ _ h1
       ·obtain ⟨u, h1, h2⟩ := hval i e j x he hx
        rw [List.getD_eq_getElem?_getD, h1]
        exact (hp id _ hc ho e (List.mem_of_getElem? (hin i e he)) x (List.mem_of_getElem? hx) _ _ _ _ h2).weaken fun k hk _ => hav k hk
       ·obtain ⟨u, h1, h2⟩ := hval i e j x he hx
        rw [List.getD_eq_getElem?_getD, h1]
        exact huo u (List.mem_of_getElem? h1)
     ·exact hx'
    ·exact hx'
   ·exact hx'
  ·rename_i id off
   split
   ·rename_i hc
    split
    ·rename_i t cs ho
     obtain ⟨b, c, us, hρ', hbl, ⟨hrep, huo⟩, hfp⟩ := h.sim.h.objs id _ ho
     cases hx with
     | ptr hρ =>
      rw [hρ] at hρ'; cases hρ'
      have hval : ∀ (j : Nat) x, (cs.drop off)[j]? = some x → ∃ u, us[off + j]? = some u ∧ RepV w (Av X s.hp fp) ρ x u := fun j x hx => by
       rw [List.getElem?_drop] at hx
       exact hrep.get hx
      refine .cp (fun j => us.getD (off + j) undef) (hfree id _ b hc ho ((hfp b).2 rfl)) hbl.lt (fun j x hx => ?_) (fun j x hx => ?_) (fun j x hx => ?_)
      ·obtain ⟨u, h1, h2⟩ := hval j x hx
       rw [hbl.cell, List.getD_eq_getElem?_getD, h1]
       simpa using h1
      ·obtain ⟨u, h1, h2⟩ := hval j x hx
       rw [List.getD_eq_getElem?_getD, h1]
       exact (hp id _ hc ho x (List.mem_of_mem_drop (List.mem_of_getElem? hx)) _ _ _ _ h2).weaken fun k hk _ => hav k hk
      ·obtain ⟨u, h1, h2⟩ := hval j x hx
       rw [List.getD_eq_getElem?_getD, h1]
       exact huo u (List.mem_of_getElem? h1)
    ·exact hx'
   ·exact hx'
  ·exact hx'
 have f1 : ∀ {x v}, RepV w (Av X s.hp fp) ρ x v → RepV w (Av X (frzH (geth s.hp) D s.hp) fp) ρ (frz1 (geth s.hp) D x) v := by
  intro x v hx
  unfold frz1
  split
  ·cases hx with
   | agg ho hl hh => exact .agg ho (by simpa using hl) (qafr f0 hh)
  ·cases hx with
   | tup hl hh => exact .tup (by simpa using hl) (qafr f0 hh)
  ·exact f0 hx
 have f2 : ∀ {x v}, RepV w (Av X s.hp fp) ρ x v → RepV w (Av X (frzH (geth s.hp) D s.hp) fp) ρ (Go.Proofs.Ytefkifebgeagiaa.frz (geth s.hp) D x) v := by
  intro x v hx
  unfold Go.Proofs.Ytefkifebgeagiaa.frz
  split
  ·cases hx with
   | tup hl hh => exact .tup (by simpa using hl) (qafr f1 hh)
  ·exact f1 hx
 refine ⟨ρ, fp, ⟨⟨fun id o' ho => ?_, fun id id' o o' hne ho ho' => ?_, fun id o ho => ?_, h.sim.h.step, h.sim.h.keep⟩, h.sim.tmps, h.sim.defers, fun t => ?_⟩, h.fresh, h.le⟩
 ·obtain ⟨_, o, h1, rfl⟩ := hg' id o' ho
  have hr := h.sim.h.objs id o h1
  cases o with
  | cells t cs =>
   obtain ⟨b, c, vs, q1, q2, ⟨q3, q4⟩, q5⟩ := hr
   exact ⟨b, c, vs, q1, q2, ⟨⟨by simpa using q3.1, qafr f0 q3.2⟩, q4⟩, q5⟩
  | row e z es =>
   obtain ⟨v, vs, q1, ⟨q2, q3⟩, q4, q5, q6⟩ := hr
   refine ⟨v, vs, by simpa using q1, ⟨⟨?_, ?_⟩, q3⟩, fun x hx => ?_, q5, q6⟩
   ·rw [← List.map_flatten, List.length_map]; exact q2.1
   ·rw [← List.map_flatten]; exact qafr f0 q2.2
   ·obtain ⟨y, hy, rfl⟩ := List.mem_map.1 hx
    simpa using q4 y hy
  | abs I =>
   obtain ⟨b, c, q1, q2⟩ := hr
   exact ⟨b, c, q1, I.keep q2 (.refl _ _) (fun k hk _ => hav k hk) fun _ _ => rfl⟩
 ·obtain ⟨_, x, h1, _⟩ := hg' id o ho
  obtain ⟨_, y, h2, _⟩ := hg' id' o' ho'
  exact h.sim.h.disj id id' x y hne h1 h2
 ·obtain ⟨_, x, h1, _⟩ := hg' id o ho
  exact h.sim.h.turn id x h1
 ·show RepV w _ ρ (gets (frzS (geth s.hp) D s.sl) t) _
  rw [qak3]
  exact f2 (h.sim.slots t)
end Go.Proofs.Ytefkifebgeagiaa
namespace Go.Proofs.Ytefkifebgeagiaa
set_option linter.all false
open Go.RowKit
variable {w : World} {A : Nat → Prop} {ρ : qaau} {σ : Nat → Nat} {X : Cx} {s s' : SSt}
def resV (P : Program) (s : SSt) : ResultVar → Option SV
 | .tmp t => some (gets s.sl t)
 | .cell a t => match qafl P t, qaat P t with
  | some false, some _ => ((SOp.load (.t a)).run (·.ev s.sl) (geth s.hp) s.nx).map (·.1)
  | some true, some n => ((SOp.loads n (.t a)).run (·.ev s.sl) (geth s.hp) s.nx).map (·.1)
  | _, _ => none
def resL (P : Program) (s : SSt) : List ResultVar → Option (List SV)
 | [] => some []
 | r :: rs => match resV P s r, resL P s rs with
  | some v, some vs => some (v :: vs)
  | _, _ => none
def one_ : List SV → SV
 | [v] => v
 | vs => .tup vs
def qanj (P : Program) (s : SSt) (rs : List ResultVar) : Option SV := (resL P s rs).map one_
def qani (tmps : Array Value) : ResultVar → Sem Value
 | .tmp t => pure (tmps.getD t undef)
 | .cell a t => do loadVar t (← asAddr (tmps.getD a undef))
theorem qapb {P : Program} {t : TypeId} {x : Operand} {a : Act} {v' : Value} (h : ∀ o : Oper, o.op = .load t x → (execOp a.eval o).run P w = .ok (.value v') w) : (do loadVar t (← asAddr (a.eval x)) : Sem Value).run P w = .ok v' w := by
 have h1 := h ⟨none, .load t x, 0, "", #[], none⟩ rfl
 simp only [execOp, Instr.loadAt, Sem.run_bind] at h1
 generalize a.eval x = y at h1
 cases y with
 | pointer p =>
  cases p with
  | none => simp [Instr.sureAddr, stuck, Sem.run, Result.andThen] at h1
  | some ad =>
   simp only [Instr.sureAddr, Sem.run_pure, Result.andThen_ok] at h1
   simp only [asAddr, Sem.run_bind, Sem.run_pure, Result.andThen_ok]
   generalize (loadVar t ad).run P w = r at h1
   cases r with
   | ok u w' => simp only [Result.andThen_ok, Result.ok.injEq, Next.value.injEq] at h1; rw [h1.1, h1.2]
   | halt u w' => simp [Result.andThen] at h1
 | _ => simp [Instr.sureAddr, stuck, Sem.run, Result.andThen] at h1
theorem resV_ok {ρ : qaau} {fp : Nat → Nat → Prop} {a : Act} {w : World} (h : SimF X ρ fp s a w) {r : ResultVar} {v : SV} (hr : resV X.P s r = some v) : ∃ v', (qani a.tmps r).run X.P w = .ok v' w ∧ RepV w (Av X s.hp fp) ρ v v' := by
 have hobj : ∀ id o, geth s.hp id = some o → ∃ fp', ObjRep w (Av X s.hp fp) ρ id fp' o := fun id o ho => ⟨_, h.sim.h.objs id o ho⟩
 cases r with
 | tmp t =>
  simp only [resV, Option.some.injEq] at hr
  subst hr
  exact ⟨_, rfl, h.sim.slots t⟩
 | cell b t =>
  simp only [resV] at hr
  have hx : cx (b + 1) (.tmp b) = some (.t b) := by simp [cx]
  split at hr
  ·rename_i n hb hn
   simp only [Option.map_eq_some_iff] at hr
   obtain ⟨⟨v1, u, nx⟩, h1, rfl⟩ := hr
   obtain ⟨_, v', h2, h3⟩ := qapa h.sim.slots hobj hx hb h1
   exact ⟨v', qapb h2, h3⟩
  ·rename_i n hb hn
   simp only [Option.map_eq_some_iff] at hr
   obtain ⟨⟨v1, u, nx⟩, h1, rfl⟩ := hr
   obtain ⟨_, v', h2, h3⟩ := qaky h.sim.slots hobj hx hb hn h1
   exact ⟨v', qapb h2, h3⟩
  ·cases hr
theorem qao6 {ρ : qaau} {fp : Nat → Nat → Prop} {a : Act} {w : World} (h : SimF X ρ fp s a w) : ∀ {rs : List ResultVar} {vs : List SV}, resL X.P s rs = some vs → ∃ us, (rs.mapM (qani a.tmps)).run X.P w = .ok us w ∧ Reps w (Av X s.hp fp) ρ vs us
 | [], vs, hr => by simp only [resL, Option.some.injEq] at hr; subst hr; exact ⟨[], rfl, Reps.nil⟩
 | r :: rs, vs, hr => by
  simp only [resL] at hr
  split at hr
  ·rename_i v vs' h1 h2
   cases hr
   obtain ⟨u, q1, q2⟩ := resV_ok h h1
   obtain ⟨us, q3, q4⟩ := qao6 h h2
   exact ⟨u :: us, by simp [List.mapM_cons, q1, q3], Reps.cons q2 q4⟩
  ·cases hr
theorem qakm {ρ : qaau} {fp : Nat → Nat → Prop} {a : Act} {w : World} (h : SimF X ρ fp s a w) {fn : Func} {r : SV} (hr : qanj X.P s fn.results.toList = some r) : ∃ v, (results fn a.tmps).run X.P w = .ok v w ∧ RepV w (Av X s.hp fp) ρ r v := by
 simp only [qanj, Option.map_eq_some_iff] at hr
 obtain ⟨vs, h1, rfl⟩ := hr
 obtain ⟨us, h2, h3⟩ := qao6 h h1
 have hm : (results fn a.tmps).run X.P w = .ok (if h : us.toArray.size = 1 then us.toArray[0] else .tuple us.toArray) w := by
  have e : (fn.results.mapM (qani a.tmps)).run X.P w = .ok us.toArray w := by
   rw [Array.mapM_eq_mapM_toList]; simp [h2]
  have e2 : results fn a.tmps = (fn.results.mapM (qani a.tmps) >>= fun vs => pure (if h : vs.size = 1 then vs[0] else .tuple vs)) := by
   unfold results
   congr 1
  rw [e2, Sem.run_bind, e]
  rfl
 refine ⟨_, hm, ?_⟩
 match vs, us, h3 with
 | [], us, h3 => obtain rfl := h3.nil_inv; exact .tup rfl (by simp)
 | [v], us, h3 =>
  obtain ⟨u, us', rfl, h4, h5⟩ := h3.cons_inv
  obtain rfl := h5.nil_inv
  exact h4
 | v :: v2 :: vs, us, h3 =>
  obtain ⟨u, us', rfl, h4, h5⟩ := h3.cons_inv
  obtain ⟨u2, us2, rfl, h6, h7⟩ := h5.cons_inv
  rw [dif_neg (by simp)]
  exact .tup h3.1 h3.2
def ltV (m : Nat) (x : SV) : Prop := ren (fun i => if i < m then i else m) x = x
def LtL (m : Nat) : List SV → Prop
 | [] => True
 | x :: xs => ltV m x ∧ LtL m xs
theorem LtL.map {m : Nat} : ∀ {xs : List SV}, LtL m xs → xs.map (ren (fun i => if i < m then i else m)) = xs
 | [], _ => rfl
 | x :: xs, h => by rw [List.map_cons, h.1, LtL.map h.2]
def LtO (m : Nat) : SObj → Prop
 | .cells _ cs => cs.map (ren (fun i => if i < m then i else m)) = cs
 | .row _ _ es => es.map (·.map (ren (fun i => if i < m then i else m))) = es
 | .abs _ => True
def LtH (m : Nat) : Hp → Prop
 | [] => True
 | (i, o) :: r => i < m ∧ LtO m o ∧ LtH m r
theorem LtH.get {m : Nat} : ∀ {h : Hp}, LtH m h → ∀ id o, geth h id = some o → id < m ∧ LtO m o
 | [], _, id, o, h => by cases h
 | (i, x) :: r, h, id, o, hg => by
  simp only [geth] at hg
  split at hg
  ·rename_i e; subst e; cases hg; exact ⟨h.1, h.2.1⟩
  ·exact LtH.get h.2.2 id o hg
theorem LtO.objM {m : Nat} {o : SObj} (h : LtO m o) : ObjM (fun i => if i < m then i else m) o o := by
 cases o with
 | cells t cs => exact ⟨rfl, by rw [show cs.map (ren _) = cs from h]; exact .refl _⟩
 | row e z es => exact ⟨rfl, rfl, by rw [show es.map (fun x => x.map (ren (fun i => if i < m then i else m))) = es from h]; exact .refl _⟩
 | abs I => rfl
def argS : Nat → List SV → Sl
 | _, [] => []
 | i, x :: xs => (i, x) :: argS (i + 1) xs
theorem qah9 : ∀ (xs : List SV) (i t : Nat), gets (argS i xs) t = if t < i then .any else (xs[t - i]?).getD .any
 | [], i, t => by simp [argS, gets]
 | x :: xs, i, t => by
  simp only [argS, gets, qah9 xs]
  by_cases e : i = t
  ·subst e; simp
  ·rw [if_neg e]
   by_cases h : t < i
   ·rw [if_pos h, if_pos (by omega)]
   ·rw [if_neg h, if_neg (by omega)]
    obtain ⟨d, hd⟩ : ∃ d, t - i = d + 1 := ⟨t - i - 1, by omega⟩
    rw [hd, show t - (i + 1) = d by omega, List.getElem?_cons_succ]
def QFunN (n : Nat) (X : Cx) (rs : List ResultVar) (m : Nat) (r : SV) (h2 : Hp) : SExit → SSt → Prop
 | .exit _, _ => False
 | _, s => ∃ s', Wk X s s' ∧ qanj X.P s' rs = some r ∧ SubH s'.hp h2 ∧ s'.nx ≤ m + n
abbrev QFun (X : Cx) (rs : List ResultVar) (m : Nat) (r : SV) (h2 : Hp) : SExit → SSt → Prop := QFunN 8 X rs m r h2
theorem qakj (n : Nat) (hn0 : 0 < n) {P : Program} {f : FuncId} {fn : Func} {N m : Nat} {code : Code} {c : SCode} {args : List SV} {h1 h2 : Hp} {r : SV} (hf : P.funcs[f]? = some fn) (hb : fn.body = some code) (hN : fn.ntmps = N) (hname : (fn.name == "runtime.NumGoroutine") = false) (hc : comp P N code = some c.erase) (hal : args.length ≤ N)
  (hla : LtL m args) (hlh : LtH m h1)
  (h : ∀ X : Cx, X.P = P → X.N = N → X.m = m → SWp X c (QFunN n X fn.results.toList m r h2) ⟨argS 0 args, h1, m⟩) : SCalls P f args h1 m r h2 n := by
 refine ⟨.of hf (by rw [hb]; rfl) hname, fun O ρ fp w vs hok hargs hfr => ?_⟩
 let σ : Nat → Nat := fun i => if i < m then i else m
 let ρi : qaau := fun id => ρ (σ id)
 have hm0 : ρ m = none := hfr m (Nat.le_refl _) (by omega)
 let X : Cx := ⟨P, N, m, ρi, w, Live h1 fp, O, hok.O_lt, fun k hO hl => (hok.lt k hl).2 hO⟩
 have hgl : ∀ id o, geth h1 id = some o → id < m ∧ σ id = id := fun id o ho => by
  have := (hlh.get id o ho).1
  exact ⟨this, if_pos this⟩
 have hfp : (fun id => fp id) = fp := rfl
 have hsimh : SimH X ρi fp h1 w := by
  refine ⟨fun id o ho => ?_, hok.disj, fun id o ho k hk => ⟨.inl ⟨id, o, ho, hk⟩, (hok.lt k ⟨id, o, ho, hk⟩).1⟩, .refl _ _, fun _ _ => rfl⟩
  have h3 := hok.objs id o ho
  obtain ⟨h4, h5⟩ := hgl id o ho
  have h6 := (hlh.get id o ho).2.objM
  rw [show id = σ id from h5.symm] at h3
  have := h6.back h3
  rw [h5] at this
  exact this
 have hlen := hargs.1
 have hreps : Reps w (Av X h1 fp) ρi args vs := by
  have h3 : Reps w (fun k => O k ∨ Live h1 fp k) ρ (args.map (ren σ)) vs := by rw [hla.map]; exact hargs
  exact qadl h3
 let a0 : Act := { tmps := vs.toArray ++ Array.replicate (fn.ntmps - vs.toArray.size) undef, defers := [] }
 have hsz : a0.tmps.size = N := by simp [a0, hN]; omega
 have hsim : SimF X ρi fp ⟨argS 0 args, h1, m⟩ a0 w := by
  refine ⟨⟨hsimh, hsz, rfl, fun t => ?_⟩, fun id hid => ?_, Nat.le_refl _⟩
  ·show RepV w _ ρi (gets (argS 0 args) t) _
   rw [qah9, if_neg (by omega), Nat.sub_zero]
   cases e : args[t]? with
   | none => exact .any
   | some x =>
    obtain ⟨v, h3, h4⟩ := hreps.get e
    have hlt : t < vs.length := (List.getElem?_eq_some_iff.1 h3).1
    have : a0.tmps.getD t undef = v := by
     have h5 : a0.tmps[t]? = some v := by
      simp only [a0]
      rw [Array.getElem?_append_left (by simpa using hlt)]
      simpa using h3
     rw [Array.getD_eq_getD_getElem?, h5]; rfl
    rw [this]; exact h4
  ·show ρ (σ id) = none
   simp only [σ]
   rw [if_neg (by simp only at hid; omega)]; exact hm0
 have hw := h X rfl rfl rfl code hc ρi fp a0 w hsim
 refine calls_of_wp hf hb (wp_mono hw ?_)
 have fin : ∀ s ρ' fp' a w', (∃ s', Wk X s s' ∧ qanj X.P s' fn.results.toList = some r ∧ SubH s'.hp h2 ∧ s'.nx ≤ m + n) → SimF X ρ' fp' s a w' →
   a.defers = [] ∧ ∃ v, (results fn a.tmps).run P w' = .ok v w' ∧ ∃ v2 ρ2 fp2, Ending.returned v = .returned v2 ∧ HeapOk O ρ2 fp2 h2 w' ∧ RepV w' (fun k => O k ∨ Live h2 fp2 k) ρ2 r v2 ∧ Step (Live h1 fp) w w' ∧
    (∀ id p, ρ id = some p → ρ2 id = some p) ∧ (∀ id, ρ2 id ≠ none → ρ id ≠ none ∨ (m ≤ id ∧ id < m + n)) ∧ ∀ id o, geth h2 id = some o → ∀ k, fp2 id k → Live h1 fp k ∨ w.heap.size ≤ k := by
  rintro s ρ' fp' a w' ⟨s', hwk, hres, hsb, hnx⟩ hs
  obtain ⟨ρ3, fp3, hs3⟩ := hwk ρ' fp' a w' hs
  obtain ⟨v, q1, q2⟩ := qakm hs3 hres
  let ρ2 : qaau := fun id => match ρ id with
   | some p => some p
   | none => ρ3 id
  have hext : ∀ id p, ρ3 id = some p → ρ2 id = some p := fun id p hp => by
   simp only [ρ2]
   cases e : ρ id with
   | none => exact hp
   | some p' =>
    simp only
    by_cases hid : id < m
    ·have h5 : ρ3 id = ρi id := hs3.sim.h.keep id hid
     rw [h5] at hp
     simp only [ρi, σ, if_pos hid, e] at hp
     exact hp
    ·by_cases hid2 : id < m + n
     ·rw [hfr id (by omega) hid2] at e; cases e
     ·rw [hs3.fresh id (by omega)] at hp; cases hp
  have hsg := hsb.get
  have hav : ∀ k, (O k ∨ Live h2 fp3 k) → Av X s'.hp fp3 k := by
   rintro k (hO | ⟨id, o, ho, hk⟩)
   ·exact .inl hO
   ·exact .inr ⟨id, o, hsg id o ho, hk⟩
  refine ⟨hs3.sim.defers, v, q1, v, ρ2, fp3, rfl, ⟨fun id o ho => ?_, fun id id' o o' hne ho ho' => hs3.sim.h.disj id id' o o' hne (hsg _ _ ho) (hsg _ _ ho'), ?_, ?_⟩, q2.mono (.refl _ _) (fun k h _ => hav k h) hext, hs3.sim.h.step, fun id p hp => ?_, fun id hid => ?_, fun id o ho k hk => ?_⟩
  ·exact (hs3.sim.h.objs id o (hsg _ _ ho)).mono ⟨.refl _ _, fun k h _ => hav k h, hext⟩ fun _ _ => rfl
  ·rintro k ⟨id, o, ho, hk⟩
   obtain ⟨h5, h6⟩ := hs3.sim.h.turn id o (hsg _ _ ho) k hk
   refine ⟨h6, fun hO => ?_⟩
   rcases h5 with h5 | h5
   ·exact X.O_M k hO h5
   ·exact absurd (hok.O_lt k hO) (Nat.not_lt_of_le h5)
  ·exact fun k hO => Nat.lt_of_lt_of_le (hok.O_lt k hO) hs3.sim.h.step.size
  ·simp only [ρ2, hp]
  ·cases e : ρ id with
   | some p => exact .inl (by simp)
   | none =>
    simp only [ρ2, e] at hid
    refine .inr ?_
    by_cases hlt : id < m
    ·have h5 : ρ3 id = ρi id := hs3.sim.h.keep id hlt
     rw [h5] at hid
     simp only [ρi, σ, if_pos hlt, e] at hid
     exact absurd rfl hid
    ·refine ⟨by omega, Nat.lt_of_not_le fun hge => hid (hs3.fresh id (by omega))⟩
  ·exact (hs3.sim.h.turn id o (hsg _ _ ho) k hk).1
 intro e a w' ho
 cases e with
 | normal => obtain ⟨s, ρ', fp', h3, h4⟩ := ho; exact fin s ρ' fp' a w' h3 h4
 | ret => obtain ⟨s, ρ', fp', h3, h4⟩ := ho; exact fin s ρ' fp' a w' h3 h4
 | exit id => obtain ⟨s, ρ', fp', h3, h4⟩ := ho; exact h3.elim
 | goto l => exact ho.elim
 | panic c => exact ho.elim
 | outgrown => exact ho.elim
theorem qaar {P : Program} {f : FuncId} {fn : Func} {N m : Nat} {code : Code} {c : SCode} {args : List SV} {h1 h2 : Hp} {r : SV} (hf : P.funcs[f]? = some fn) (hb : fn.body = some code) (hN : fn.ntmps = N) (hname : (fn.name == "runtime.NumGoroutine") = false) (hc : comp P N code = some c.erase) (hal : args.length ≤ N)
  (hla : LtL m args) (hlh : LtH m h1)
  (h : ∀ X : Cx, X.P = P → X.N = N → X.m = m → SWp X c (QFun X fn.results.toList m r h2) ⟨argS 0 args, h1, m⟩) : SCalls P f args h1 m r h2 := qakj 8 (by decide) hf hb hN hname hc hal hla hlh h
end Go.Proofs.Ytefkifebgeagiaa
namespace Go.Proofs.Ytefkifebgeagiaa
set_option linter.all false
open Go.RowKit
variable {w : World} {A : Nat → Prop} {ρ ρ2 : qaau} {σ : Nat → Nat}
def okB : SV → Bool
 | .agg _ | .tup _ | .fn _ _ _ | .ifc _ _ => false
 | _ => true
def okA : SV → Bool
 | .agg cs => cs.all okB
 | x => okB x
def ok0 : SV → Bool
 | .ifc _ x => okA x
 | .agg _ | .tup _ => false
 | .fn _ [] [] => true
 | .fn _ _ _ => false
 | _ => true
def ok1 : SV → Bool
 | .agg cs => cs.all ok0
 | .fn _ a b => a.all ok0 && b.all ok0
 | x => ok0 x
def ok2 : SV → Bool
 | .tup cs => cs.all ok1
 | .agg cs => cs.all ok1
 | x => ok1 x
theorem qakp (hσ : ∀ c p, ρ c = some p → ρ2 (σ c) = some p) {x : SV} {v : Value} (hx : okB x = true) (h : RepV w A ρ x v) : RepV w A ρ2 (renB σ x) v := by
 cases h with
 | any => exact .any
 | bool => exact .bool
 | int => exact .int
 | str => exact .str
 | nil => exact .nil
 | nilsl => exact .nilsl
 | nilfn => exact .nilfn
 | niliface => exact .niliface
 | ifc h => simp [okB] at hx
 | mt hc => exact .mt hc
 | view0 hc ha => exact .view0 hc ha
 | view cv hn hc hm hA hb hz h1 h2 ho => exact .view cv hn hc hm hA hb hz h1 h2 ho
 | cp cv hA hb h1 h2 ho => exact .cp cv hA hb h1 h2 ho
 | ptr h => exact .ptr (hσ _ _ h)
 | eptr h => exact .eptr (hσ _ _ h)
 | own0 h => exact .own0 (hσ _ _ h)
 | own h hn hm => exact .own (hσ _ _ h) hn hm
 | owno h hn hm => exact .owno (hσ _ _ h) hn hm
 | agg => simp [okB] at hx
 | tup => simp [okB] at hx
 | fn => simp [okB] at hx
theorem qap2 (hσ : ∀ c p, ρ c = some p → ρ2 (σ c) = some p) {x : SV} {v : Value} (hx : okA x = true) (h : RepV w A ρ x v) : RepV w A ρ2 (renA σ x) v := by
 cases x with
 | agg cs =>
  cases h with
  | agg ho hl hh =>
   refine .agg ho (by simpa using hl) fun j x v hx' hv => ?_
   rw [List.getElem?_map, Option.map_eq_some_iff] at hx'
   obtain ⟨y, hy, rfl⟩ := hx'
   exact qakp hσ (List.all_eq_true.1 hx y (List.mem_of_getElem? hy)) (hh j y v hy hv)
 | _ => (simp only [okA] at hx; exact qakp hσ hx h)
theorem qafa (hσ : ∀ c p, ρ c = some p → ρ2 (σ c) = some p) {x : SV} {v : Value} (hx : ok0 x = true) (h : RepV w A ρ x v) : RepV w A ρ2 (ren0 σ x) v := by
 cases h with
 | any => exact .any
 | bool => exact .bool
 | int => exact .int
 | str => exact .str
 | nil => exact .nil
 | nilsl => exact .nilsl
 | nilfn => exact .nilfn
 | niliface => exact .niliface
 | ifc h => exact .ifc (qap2 hσ hx h)
 | mt hc => exact .mt hc
 | view0 hc ha => exact .view0 hc ha
 | view cv hn hc hm hA hb hz h1 h2 ho => exact .view cv hn hc hm hA hb hz h1 h2 ho
 | cp cv hA hb h1 h2 ho => exact .cp cv hA hb h1 h2 ho
 | ptr h => exact .ptr (hσ _ _ h)
 | eptr h => exact .eptr (hσ _ _ h)
 | own0 h => exact .own0 (hσ _ _ h)
 | own h hn hm => exact .own (hσ _ _ h) hn hm
 | owno h hn hm => exact .owno (hσ _ _ h) hn hm
 | agg => simp [ok0] at hx
 | tup => simp [ok0] at hx
 | fn l1 l2 r1 r2 =>
  rename_i f fs cs vs us
  cases fs with
  | nil =>
   cases cs with
   | nil => exact .fn l1 l2 (by simp) (by simp)
   | cons y b => simp [ok0] at hx
  | cons y a => simp [ok0] at hx
theorem qadz {f : SV → SV} {ok : SV → Bool} (hf : ∀ {x v}, ok x = true → RepV w A ρ x v → RepV w A ρ2 (f x) v) {cs : List SV} {vs : List Value} (hk : cs.all ok = true) (h : ∀ (j : Nat) x v, cs[j]? = some x → vs[j]? = some v → RepV w A ρ x v) : ∀ (j : Nat) x v, (cs.map f)[j]? = some x → vs[j]? = some v → RepV w A ρ2 x v := fun j x v hx hv => by
 rw [List.getElem?_map, Option.map_eq_some_iff] at hx
 obtain ⟨y, hy, rfl⟩ := hx
 exact hf (List.all_eq_true.1 hk y (List.mem_of_getElem? hy)) (h j y v hy hv)
theorem qagd (hσ : ∀ c p, ρ c = some p → ρ2 (σ c) = some p) {x : SV} {v : Value} (hx : ok1 x = true) (h : RepV w A ρ x v) : RepV w A ρ2 (ren1 σ x) v := by
 cases x with
 | agg cs =>
  cases h with
  | agg ho hl hh => exact .agg ho (by simpa using hl) (qadz (qafa hσ) hx hh)
 | fn f gs bs =>
  simp only [ok1, Bool.and_eq_true] at hx
  cases h with
  | fn l1 l2 r1 r2 => exact .fn (by simpa using l1) (by simpa using l2) (qadz (qafa hσ) hx.1 r1) (qadz (qafa hσ) hx.2 r2)
 | _ => (refine qafa hσ ?_ h; exact hx)
theorem qao7 (hσ : ∀ c p, ρ c = some p → ρ2 (σ c) = some p) {x : SV} {v : Value} (hx : ok2 x = true) (h : RepV w A ρ x v) : RepV w A ρ2 (ren σ x) v := by
 cases x with
 | agg cs =>
  cases h with
  | agg ho hl hh => exact .agg ho (by simpa using hl) (qadz (qagd hσ) hx hh)
 | tup cs =>
  cases h with
  | tup hl hh => exact .tup (by simpa using hl) (qadz (qagd hσ) hx hh)
 | _ => (refine qagd hσ ?_ h; exact hx)
theorem qakn (hσ : ∀ c p, ρ c = some p → ρ2 (σ c) = some p) {xs : List SV} {vs : List Value} (hx : xs.all ok2 = true) (h : Reps w A ρ xs vs) : Reps w A ρ2 (xs.map (ren σ)) vs := ⟨by simpa using h.1, qadz (qao7 hσ) hx h.2⟩
def ObjF (σ : Nat → Nat) : SObj → SObj → Prop
 | .cells t cs, .cells t' ds => t = t' ∧ cs.all ok2 = true ∧ ds = cs.map (ren σ)
 | .row e z es, .row e' z' fs => e = e' ∧ z = z' ∧ (∀ x ∈ es, x.all ok2 = true) ∧ fs = es.map (·.map (ren σ))
 | .abs I, .abs I' => I = I'
 | _, _ => False
theorem ObjF.fwd {o o' : SObj} (h : ObjF σ o o') (hσ : ∀ c p, ρ c = some p → ρ2 (σ c) = some p) {id : Nat} {F : Nat → Prop} (hr : ObjRep w A ρ id F o) : ObjRep w A ρ2 (σ id) F o' := by
 cases o with
 | cells t cs =>
  cases o' with
  | cells t' ds =>
   obtain ⟨rfl, hk, rfl⟩ := h
   obtain ⟨b, c, vs, h1, h2, ⟨h3, h4⟩, h5⟩ := hr
   exact ⟨b, c, vs, hσ _ _ h1, h2, ⟨qakn hσ hk h3, h4⟩, h5⟩
  | row => exact h.elim
  | abs => exact h.elim
 | row e z es =>
  cases o' with
  | row e' z' fs =>
   obtain ⟨rfl, rfl, hk, rfl⟩ := h
   obtain ⟨v, vs, h1, ⟨h2, h3⟩, h4, h5, h6⟩ := hr
   refine ⟨v, vs, by simpa using h1, ⟨?_, h3⟩, fun x hx => ?_, hσ _ _ h5, h6⟩
   ·rw [← List.map_flatten]
    refine qakn hσ (List.all_eq_true.2 fun x hx => ?_) h2
    obtain ⟨l, hl, hx⟩ := List.mem_flatten.1 hx
    exact List.all_eq_true.1 (hk l hl) x hx
   ·obtain ⟨y, hy, rfl⟩ := List.mem_map.1 hx
    simpa using h4 y hy
  | cells => exact h.elim
  | abs => exact h.elim
 | abs I =>
  cases o' with
  | abs I' => obtain rfl := h; obtain ⟨b, c, h1, h2⟩ := hr; exact ⟨b, c, hσ _ _ h1, h2⟩
  | cells => exact h.elim
  | row => exact h.elim
def sg (τ : List Nat) (q c : Nat) : Nat := if c < τ.length then τ.getD c 0 else if c < τ.length + 8 then q + (c - τ.length) else q
def ObjsF (σ : Nat → Nat) (h' : Hp) : Hp → Prop
 | [] => True
 | (i, o) :: r => (∃ o', geth h' (σ i) = some o' ∧ ObjF σ o o') ∧ ObjsF σ h' r
theorem ObjsF.get {h' : Hp} : ∀ {h : Hp}, ObjsF σ h' h → ∀ id o, geth h id = some o → ∃ o', geth h' (σ id) = some o' ∧ ObjF σ o o'
 | [], _, id, o, hg => by cases hg
 | (i, x) :: r, h, id, o, hg => by
  simp only [geth] at hg
  split at hg
  ·rename_i e; subst e; cases hg; exact h.1
  ·exact ObjsF.get h.2 id o hg
theorem sg_inj {τ : List Nat} {q : Nat} (hn : τ.Nodup) (hq : ∀ i ∈ τ, i < q ∨ q + 8 ≤ i) {a b : Nat} (ha : a < τ.length + 8) (hb : b < τ.length + 8) (h : sg τ q a = sg τ q b) : a = b := by
 unfold sg at h
 by_cases h1 : a < τ.length
 ·rw [if_pos h1] at h
  have ma : τ.getD a 0 ∈ τ := by rw [List.getD_eq_getElem?_getD, List.getElem?_eq_getElem h1]; exact List.getElem_mem _
  by_cases h2 : b < τ.length
  ·rw [if_pos h2] at h
   rw [List.getD_eq_getElem?_getD, List.getD_eq_getElem?_getD, List.getElem?_eq_getElem h1, List.getElem?_eq_getElem h2] at h
   exact (List.getElem_inj hn).1 h
  ·rw [if_neg h2, if_pos hb] at h
   have := hq _ ma; omega
 ·rw [if_neg h1, if_pos ha] at h
  by_cases h2 : b < τ.length
  ·rw [if_pos h2] at h
   have mb : τ.getD b 0 ∈ τ := by rw [List.getD_eq_getElem?_getD, List.getElem?_eq_getElem h2]; exact List.getElem_mem _
   have := hq _ mb; omega
  ·rw [if_neg h2, if_pos hb] at h; omega
theorem qaee (τ : List Nat) {P : Program} {f : FuncId} {args args' : List SV} {h1 h1' h2 h2' : Hp} {r r' : SV} {q m : Nat} (h : SCalls P f args h1 m r h2) (hm : m = τ.length) (hn : τ.Nodup) (hq : ∀ i ∈ τ, i < q ∨ q + 8 ≤ i)
  (ha : args' = args.map (ren (sg τ q))) (hh1 : ObjsM (sg τ q) h1' h1) (hlt1 : ∀ i ∈ idsH h1, i < m) (hr : r' = ren (sg τ q) r) (hrk : ok2 r = true) (hh2 : ObjsF (sg τ q) h2' h2) (hlt2 : ∀ i ∈ idsH h2, i < m + 8) (hb2 : idsH h2' = (idsH h2).map (sg τ q)) : SCalls P f args' h1' q r' h2' := by
 subst hm ha hr
 refine ⟨h.1, fun O ρ fp w vs hok hargs hfr => ?_⟩
 have hnone : ∀ c, τ.length ≤ c → ρ (sg τ q c) = none := fun c hc => by
  unfold sg
  rw [if_neg (by omega)]
  split
  ·exact hfr _ (by omega) (by omega)
  ·exact hfr _ (Nat.le_refl _) (by omega)
 have hsub : ∀ k, Live h1 (fun c => fp (sg τ q c)) k → Live h1' fp k := by
  rintro k ⟨c, o, ho, hk⟩
  obtain ⟨o', h3, _⟩ := hh1.get c o ho
  exact ⟨_, o', h3, hk⟩
 have hok1 : HeapOk O (fun c => ρ (sg τ q c)) (fun c => fp (sg τ q c)) h1 w := by
  refine ⟨fun c o ho => ?_, fun c d o o' hne ho ho' => ?_, fun k hk => hok.lt k (hsub k hk), hok.O_lt⟩
  ·obtain ⟨o', h3, h4⟩ := hh1.get c o ho
   exact (h4.back (hok.objs _ _ h3)).weaken fun k hk _ => hk.imp (fun h => h) (hsub k)
  ·obtain ⟨x, h3, _⟩ := hh1.get c o ho
   obtain ⟨y, h4, _⟩ := hh1.get d o' ho'
   refine hok.disj _ _ x y (fun e => hne (sg_inj hn hq ?_ ?_ e)) h3 h4
   ·have := hlt1 c (qaco (by rw [ho]; simp)); omega
   ·have := hlt1 d (qaco (by rw [ho']; simp)); omega
 refine (h.2 O (fun c => ρ (sg τ q c)) (fun c => fp (sg τ q c)) w vs hok1 ((qadl hargs).weaken fun k hk _ => hk.imp (fun h => h) (hsub k)) (fun id h3 _ => hnone id h3)).mono ?_
 rintro e w' ⟨v, ρc, fpc, rfl, q1, q2, q3, q4, q5, q6⟩
 let ρ' : qaau := fun id => match ρ id with
  | some p => some p
  | none => if q ≤ id ∧ id < q + 8 then ρc (τ.length + (id - q)) else none
 have hσ : ∀ c p, ρc c = some p → ρ' (sg τ q c) = some p := fun c p hp => by
  rcases q5 c (by rw [hp]; simp) with h3 | h3
  ·obtain ⟨p0, h4⟩ := Option.ne_none_iff_exists'.1 h3
   have h5 := q4 c p0 h4
   rw [hp] at h5; cases h5
   simp only [ρ', h4]
  ·have h4 : sg τ q c = q + (c - τ.length) := by unfold sg; rw [if_neg (by omega), if_pos (by omega)]
   have h5 := hnone c h3.1
   simp only [ρ', h5]
   rw [h4, if_pos (by omega), show τ.length + (q + (c - τ.length) - q) = c by omega]; exact hp
 let fp' : Nat → Nat → Prop := fun id k => ∃ c, geth h2 c ≠ none ∧ sg τ q c = id ∧ fpc c k
 have hinv : ∀ id o', geth h2' id = some o' → ∃ c o, geth h2 c = some o ∧ sg τ q c = id ∧ ObjF (sg τ q) o o' := fun id o' ho' => by
  have h3 := qaco (hp := h2') (id := id) (by rw [ho']; simp)
  rw [hb2] at h3
  obtain ⟨c, hc, rfl⟩ := List.mem_map.1 h3
  have h4 : geth h2 c ≠ none := by
   have gen : ∀ {h : Hp}, c ∈ idsH h → geth h c ≠ none := by
    intro h
    induction h with
    | nil => intro h; cases h
    | cons x h ih =>
     obtain ⟨i, o⟩ := x
     intro hc
     by_cases e : i = c
     ·simp [geth, e]
     ·simp only [geth, if_neg e]
      exact ih ((List.mem_cons.1 hc).resolve_left (Ne.symm e))
   exact gen hc
  obtain ⟨o, h5⟩ := Option.ne_none_iff_exists'.1 h4
  obtain ⟨o2, h6, h7⟩ := hh2.get c o h5
  rw [ho'] at h6; cases h6
  exact ⟨c, o, h5, rfl, h7⟩
 have hfp : ∀ c o, geth h2 c = some o → fp' (sg τ q c) = fpc c := fun c o ho => by
  funext k
  apply propext
  constructor
  ·rintro ⟨d, h3, h4, h5⟩
   have hlt : ∀ {x}, geth h2 x ≠ none → x < τ.length + 8 := fun hx => hlt2 _ (qaco hx)
   rw [sg_inj hn hq (hlt h3) (hlt (by rw [ho]; simp)) h4] at h5; exact h5
  ·intro hk; exact ⟨c, by rw [ho]; simp, rfl, hk⟩
 have hlive : ∀ k, Live h2' fp' k → Live h2 fpc k := by
  rintro k ⟨id, o', ho', c, h3, h4, h5⟩
  obtain ⟨o, h6⟩ := Option.ne_none_iff_exists'.1 h3
  exact ⟨c, o, h6, h5⟩
 refine ⟨v, ρ', fp', rfl, ⟨fun id o' ho' => ?_, fun id id' o o' hne ho ho' k hk hk' => ?_, fun k hk => q1.lt k (hlive k hk), q1.O_lt⟩, (qao7 hσ hrk q2).weaken fun k hk _ => hk.imp (fun h => h) (hlive k), q3.mono hsub, fun id p hp => ?_, fun id hid => ?_, fun id o' ho' k hk => ?_⟩
 ·obtain ⟨c, o, h3, rfl, h4⟩ := hinv id o' ho'
  rw [hfp c o h3]
  exact (h4.fwd hσ (q1.objs c o h3)).weaken fun k hk _ => hk.imp (fun h => h) (hlive k)
 ·obtain ⟨c, oc, h3, rfl, _⟩ := hinv id o ho
  obtain ⟨d, od, h4, rfl, _⟩ := hinv id' o' ho'
  rw [hfp c oc h3] at hk
  rw [hfp d od h4] at hk'
  exact q1.disj c d oc od (fun e => hne (by rw [e])) h3 h4 k hk hk'
 ·simp only [ρ', hp]
 ·cases e : ρ id with
  | some p => exact .inl (by simp)
  | none =>
   simp only [ρ', e] at hid
   split at hid
   ·exact .inr ‹_›
   ·exact absurd rfl hid
 ·obtain ⟨c, o, h3, rfl, _⟩ := hinv id o' ho'
  rw [hfp c o h3] at hk
  exact (q6 c o h3 k hk).imp (hsub k) fun h => h
theorem qabu {P : Program} {f : FuncId} {args : List SV} {r : SV} (h : SCalls P f args [] 0 r []) (ha : ∀ σ, args.map (ren σ) = args) (hr : ∀ σ, ren σ r = r) (hk : ok2 r = true) (q : Nat) : SCalls P f args [] q r [] :=
 qaee [] h rfl (by simp) (by simp) (ha _).symm trivial (by simp [idsH]) (hr _).symm hk trivial (by simp [idsH]) rfl
theorem qah1 {P : Program} {f : FuncId} {args args' : List SV} {h1 h2 : Hp} {q : Nat} {r : SV} (h : SCalls P f args' h1 q r h2) (hc : CoL args args') : SCalls P f args h1 q r h2 :=
 ⟨h.1, fun O ρ fp w vs hok hargs hfr => h.2 O ρ fp w vs hok (hc.reps hargs) hfr⟩
end Go.Proofs.Ytefkifebgeagiaa
namespace Go.Proofs.Ytefkifebgeagiaa
set_option linter.all false
open Go.RowKit
variable {w : World} {A : Nat → Prop} {ρ : qaau}
def nums (k : IntKind) (xs : List Int) : SV := .view 1 (xs.map fun x => [.int k x])
def LayP {α : Type} (L : Lay α) (f : α → List SV) : Prop := ∀ A w x cs, L.rep A w x cs → Reps w A noPl (f x) cs ∧ Ones cs
theorem qaqj (k : IntKind) : LayP (Lay.int k) (fun x => [.int k x]) := fun A w x cs h => by
 rw [h.1]; exact ⟨Reps.cons .int Reps.nil, fun v hv => by simp at hv; rw [hv]; rfl⟩
theorem qafh {α : Type} {L : Lay α} {f : α → List SV} (hf : LayP L f) {ao : Option Addr} {n c : Nat} {xs : List α} (h : RdL L A w ao n c xs) : RepV w A ρ (.view L.size (xs.map f)) (.slice ao n c) := by
 by_cases h0 : 0 < n
 ·obtain ⟨b, off, rfl, hA, hb, hh⟩ := h.here h0
  have hl := h.len
  have get : ∀ i e j x, (xs.map f)[i]? = some e → e[j]? = some x → ∃ u, w.cell? ⟨b, off + i * L.size + j, none⟩ = some u ∧ RepV w A noPl x u ∧ u.oneCell' = true := fun i e j x he hx => by
   rw [List.getElem?_map, Option.map_eq_some_iff] at he
   obtain ⟨y, hy, rfl⟩ := he
   obtain ⟨hi, rfl⟩ := List.getElem?_eq_some_iff.1 hy
   obtain ⟨cs, h1, h2⟩ := hh i hi
   obtain ⟨r, o⟩ := hf _ _ _ _ h1
   have hj : j < (f xs[i]).length := (List.getElem?_eq_some_iff.1 hx).1
   have hjs : j < L.size := by rw [← L.len h1, ← r.1]; exact hj
   obtain ⟨u, hu, hr⟩ := r.get hx
   exact ⟨u, by rw [h2 j hjs]; exact hu, hr, o u (List.mem_of_getElem? hu)⟩
  refine .view (fun i j => (w.cell? ⟨b, off + i * L.size + j, none⟩).getD undef) (by simp [hl]) h.le h.max hA hb (fun e he => ?_) (fun i e j x he hx => ?_) (fun i e j x he hx => ?_) (fun i e j x he hx => ?_)
  ·obtain ⟨y, hy, rfl⟩ := List.mem_map.1 he
   obtain ⟨i, hi0⟩ := List.getElem?_of_mem hy
   obtain ⟨hi, rfl⟩ := List.getElem?_eq_some_iff.1 hi0
   obtain ⟨cs, h1, _⟩ := hh i hi
   rw [(hf _ _ _ _ h1).1.1, L.len h1]
  ·obtain ⟨u, h1, _⟩ := get i e j x he hx; rw [h1]; rfl
  ·obtain ⟨u, h1, h2, _⟩ := get i e j x he hx; rw [h1]; exact h2
  ·obtain ⟨u, h1, _, h3⟩ := get i e j x he hx; rw [h1]; exact h3
 ·have hn : n = 0 := by omega
  have : xs = [] := List.eq_nil_of_length_eq_zero (by rw [h.len, hn])
  subst this hn
  exact .view0 h.max h.nil
theorem rd_view {k : IntKind} {ao : Option Addr} {n c : Nat} {xs : List Int} (h : Rd w k ao n c xs) (hA : ∀ a, ao = some a → 0 < n → ¬ A a.block) : RepV w A ρ (nums k xs) (.slice ao n c) := qafh (qaqj k) (h.lay A hA)
theorem qao1 {k : IntKind} {v : Value} {xs : List Int} (h : RepV w A ρ (nums k xs) v) (hf : AllFit k xs) : ∃ ao c, v = .slice ao xs.length c ∧ Rd w k ao xs.length c xs ∧ ∀ a, ao = some a → 0 < xs.length → ¬ A a.block := by
 unfold nums at h
 cases xs with
 | nil =>
  cases h with
  | view0 hc ha => exact ⟨_, _, rfl, ⟨rfl, hf, Nat.zero_le _, hc, by simp, ha⟩, by simp⟩
  | view cv hn hc hm hA hb hz h1 h2 ho => subst hn; exact ⟨_, _, rfl, ⟨rfl, hf, Nat.zero_le _, hm, by simp, by simp⟩, by simp⟩
 | cons y ys =>
  generalize hxs : y :: ys = xs at *
  generalize hes : (xs.map fun x => [SV.int k x]) = es at h
  cases h with
  | view0 hc ha => rw [← hxs] at hes; simp at hes
  | view cv hn hc hm hA hb hz h1 h2 ho =>
   rename_i b off n c
   have hl : xs.length = n := by rw [← hn, ← hes]; simp
   refine ⟨some ⟨b, off, none⟩, c, by rw [hl], ⟨rfl, hf, by omega, hm, fun _ => ⟨b, off, rfl, fun i hi => ?_⟩, by simp⟩, fun a ha _ => by cases ha; exact hA⟩
   have he : es[i]? = some [SV.int k xs[i]] := by rw [← hes]; simp [hi]
   have r1 := h1 i _ 0 _ he rfl
   have r2 := h2 i _ 0 _ he rfl
   simp only [Nat.mul_one, Nat.add_zero] at r1
   rw [r1]
   generalize cv i 0 = u at r2
   cases r2
   have : el xs i = xs[i] := by unfold el; simp [hi]
   rw [this]
theorem law_of {P : Program} {f : FuncId} {args : List SV} {vs : List Value} (h : SCalls P f args [] 0 (.bool true) []) (hr : Reps w (fun _ => False) noPl args vs) : Calls P f vs.toArray w fun e w' => e = .returned (.bool true) ∧ Below w.heap.size w w' := by
 refine (h.2 (fun _ => False) noPl (fun _ _ => False) w vs ⟨fun id o ho => by simp [geth] at ho, fun id id' o o' _ ho => by simp [geth] at ho, fun k ⟨id, o, ho, _⟩ => by simp [geth] at ho, fun k h => h.elim⟩ (hr.weaken fun k hk _ => hk.elim (fun h => h) fun ⟨id, o, ho, _⟩ => by simp [geth] at ho) (fun _ _ _ => rfl)).mono ?_
 rintro e w' ⟨v, ρ', fp', rfl, _, q2, q3, _⟩
 cases q2
 exact ⟨rfl, q3.below (Nat.le_refl _) fun k ⟨id, o, ho, _⟩ => by simp [geth] at ho⟩
theorem qah0 {P : Program} {f : FuncId} {args : List SV} {r : SV} (he : Enters P f)
  (h : ∀ (O : Nat → Prop) (w : World) (vs : List Value), (∀ k, O k → k < w.heap.size) → Reps w O noPl args vs → Calls P f vs.toArray w fun e w' => ∃ v, e = .returned v ∧ Below w.heap.size w w' ∧ RepV w' O noPl r v)
  (ha : ∀ σ, args.map (ren σ) = args) (q : Nat) : SCalls P f args [] q r [] := by
 refine ⟨he, fun O ρ fp w vs hok hargs hfr => ?_⟩
 have hO : (fun k => O k ∨ Live [] fp k) = O := by funext k; simp [Live, geth]
 rw [hO] at hargs
 have ha' : Reps w O noPl args vs := by
  have h1 : Reps w O ρ (args.map (ren fun _ => q)) vs := by rw [ha]; exact hargs
  have h2 := qadl h1
  have e : (fun id => ρ ((fun _ => q) id)) = noPl := by funext id; exact hfr q (Nat.le_refl _) (by omega)
  rw [e] at h2; exact h2
 refine (h O w vs hok.O_lt ha').mono ?_
 rintro e w' ⟨v, rfl, hb, hr⟩
 refine ⟨v, ρ, fp, rfl, ⟨fun id o ho => by simp [geth] at ho, fun id id' o o' _ ho => by simp [geth] at ho, fun k ⟨id, o, ho, _⟩ => by simp [geth] at ho, fun k hk => Nat.lt_of_lt_of_le (hok.O_lt k hk) hb.size⟩, ?_, .of hb, fun _ _ h => h, fun id h => .inl h, fun id o ho => by simp [geth] at ho⟩
 exact hr.mono (.refl _ _) (fun k hk _ => by have := congrFun hO k; rw [← this]; exact hk) fun _ _ h => by cases h
end Go.Proofs.Ytefkifebgeagiaa
