/-
  Texts joined: XShF XShG XShH XShI XShJ XShK XShL XShR XIntA XShM XShN XShO XShP XIntB. No condition.
-/
import Derived.Orders
import Derived.Test.YteoijlmgiemffaaGreatLowerShapesK1
namespace Go.Proofs.YteoijlmgiemffaaGreat
set_option linter.all false
open Go.RowKit
variable {X : Cx} {ρ : qacu} {fp : Nat → Nat → Prop} {hp : Hp} {w : World} {N : Nat} {a : Act} {sl : Sl}
theorem bi_ok (h : SimH X ρ fp hp w) (hs : ∀ t, RepV w (Av X hp fp) ρ (gets sl t) (a.tmps.getD t undef)) {b : Builtin} {args : Array Operand} {tys : Array TypeId} {so : SOp} (hc : cbi X.P N b args.toList tys.toList = some so) {nx nx' : Nat} {v : SV} {u : Upd} (hm : X.m ≤ nx) (hf : ρ nx = none)
  (hr : so.run (·.ev sl) (geth hp) nx = some (v, u, nx')) : MOk X ρ fp hp w a (.call { callee := .builtin b, args, argTypes := tys }) nx v u := by
 obtain ⟨args⟩ := args
 obtain ⟨tys⟩ := tys
 simp only at hc
 have pk : ∀ {op : Op} {v : SV} {u : Upd}, (u = [] ∧ POk X.P w (Av X hp fp) ρ a op v) → MOk X ρ fp hp w a op nx v u := by
  rintro op v u ⟨rfl, h1⟩; exact h1.mok h
 unfold cbi at hc
 split at hc <;> (try simp only [Option.bind_eq_bind, Option.bind_eq_some_iff, Option.some.injEq, reduceCtorEq] at hc)
 ·split at hc
  ·rename_i ht
   simp only [Option.bind_eq_some_iff, Option.some.injEq] at hc
   obtain ⟨x, hx, rfl⟩ := hc
   exact pk (ok_len hs hx (.inl ht) (by simp [ht]) hr)
  ·rename_i e ht
   simp only [Option.bind_eq_some_iff, Option.some.injEq] at hc
   obtain ⟨x, hx, rfl⟩ := hc
   exact pk (ok_len hs hx (.inr ⟨_, ht⟩) (by simp [ht]) hr)
  ·rename_i n e ht
   simp only [Option.some.injEq] at hc
   subst hc
   simp only [SOp.run] at hr; cases hr
   refine pk ⟨rfl, _, fun o ho => ?_, .int⟩
   simp [execOp, ho, resolve, invoke, builtin, Builtin.len_, run_underlying ht, goInt]
  ·cases hc
 ·split at hc
  ·rename_i e ht
   simp only [Option.bind_eq_some_iff] at hc
   obtain ⟨i, hi, z, hz, hc⟩ := hc
   split at hc
   ·rename_i hcc
    obtain ⟨rfl, hpos⟩ := hcc
    simp only [Option.bind_eq_some_iff, Option.some.injEq] at hc
    obtain ⟨s, hss, x, hx, rfl⟩ := hc
    exact ok_app h hs ht hz hi hpos hss hx hm hf hr
   ·cases hc
  ·cases hc
 ·obtain ⟨x, hx, y, hy, rfl⟩ := hc
  exact pk (ok_mm (mx := false) hs hx hy hr)
 ·obtain ⟨x, hx, y, hy, rfl⟩ := hc
  exact pk (ok_mm (mx := true) hs hx hy hr)
theorem op_ok (h : SimH X ρ fp hp w) (hs : ∀ t, RepV w (Av X hp fp) ρ (gets sl t) (a.tmps.getD t undef)) {ty : TypeId} {op : Op} {so : SOp} (hc : cop X.P N ty op = some so) {nx nx' : Nat} {v : SV} {u : Upd} (hm : X.m ≤ nx) (hf : ρ nx = none)
  (hr : so.run (·.ev sl) (geth hp) nx = some (v, u, nx')) : MOk X ρ fp hp w a op nx v u := by
 have hobj : ∀ id o, geth hp id = some o → ∃ fp', ObjRep w (Av X hp fp) ρ id fp' o := fun id o ho => ⟨_, h.objs id o ho⟩
 have pk : ∀ {v : SV} {u : Upd}, (u = [] ∧ POk X.P w (Av X hp fp) ρ a op v) → MOk X ρ fp hp w a op nx v u := by
  rintro v u ⟨rfl, h1⟩; exact h1.mok h
 unfold cop at hc
 split at hc <;> (try simp only [Option.bind_eq_bind, Option.bind_eq_some_iff, Option.some.injEq, reduceCtorEq] at hc)
 ·obtain ⟨y, hy, rfl⟩ := hc
  simp only [SOp.run] at hr; cases hr
  exact pk ⟨rfl, (ok_mv hs hy).1⟩
 ·obtain ⟨y, hy, rfl⟩ := hc
  simp only [SOp.run] at hr; cases hr
  exact pk ⟨rfl, (ok_mv hs hy).2⟩
 ·obtain ⟨c, h1, x, h2, y, h3, rfl⟩ := hc
  exact pk (ok_pick hs h1 h2 h3 hr)
 ·obtain ⟨z, hz, rfl⟩ := hc
  exact qbjg h hz hm hf hr
 ·obtain ⟨x, hx, rfl⟩ := hc
  exact ok_box h hs hx hm hf hr
 ·obtain ⟨z, hz, pl, hpl, q, hq, rfl⟩ := hc
  exact pk (qbjf hs hz hpl hq hr)
 ·split at hc
  ·rename_i e ht
   simp only [Option.bind_eq_bind, Option.bind_eq_some_iff, Option.some.injEq] at hc
   obtain ⟨z, hz, q, hq, size, hsz, hc⟩ := hc
   split at hc
   ·cases hc
    exact qbja h hs ht hz hsz hq ‹_› hm hf hr
   ·cases hc
  ·cases hc
 ·obtain ⟨x, hx, b, hb, hc⟩ := hc
  cases b with
  | true =>
   simp only [if_true, Option.bind_eq_some_iff, Option.some.injEq] at hc
   obtain ⟨n, hn, rfl⟩ := hc
   exact pk (qa5p hs hobj hx hb hn hr)
  | false =>
   simp only [Bool.false_eq_true, if_false, Option.some.injEq] at hc
   subst hc
   exact pk (qbhw hs hobj hx hb hr)
 ·obtain ⟨n, hn, x, hx, y, hy, rfl⟩ := hc
  exact qbi7 h hs hx hy hn hr
 ·obtain ⟨x, hx, rfl⟩ := hc
  exact pk (ok_nilc hs hx hr)
 ·obtain ⟨x, hx, y, hy, hc⟩ := hc
  split at hc
  ·cases hc
   exact pk (ok_bin hs hx hy hr)
  ·split at hc
   ·split at hc
    ·rename_i k hk; cases hc
     exact pk (ok_eq (neg := false) hs hx hy hk hr)
    ·simp only [Option.map_eq_some_iff] at hc
     obtain ⟨ks, hk, rfl⟩ := hc
     exact pk (ok_eqs (neg := false) hs hx hy hk hr)
   ·split at hc
    ·rename_i k hk; cases hc
     exact pk (ok_eq (neg := true) hs hx hy hk hr)
    ·simp only [Option.map_eq_some_iff] at hc
     obtain ⟨ks, hk, rfl⟩ := hc
     exact pk (ok_eqs (neg := true) hs hx hy hk hr)
   ·cases hc
 ·obtain ⟨x, hx, rfl⟩ := hc
  exact pk (ok_un hs hx hr)
 ·split at hc
  ·rename_i j k h1 h2
   simp only [Option.bind_eq_some_iff, Option.some.injEq] at hc
   obtain ⟨x, hx, rfl⟩ := hc
   exact pk (ok_conv hs hx h1 h2 hr)
  ·rename_i e h1 h2
   split at hc
   ·rename_i he
    simp only [Option.bind_eq_bind, Option.bind_eq_some_iff, Option.some.injEq] at hc
    obtain ⟨x, hx, rfl⟩ := hc
    exact pk (ok_b2s h hs hx h1 he h2 hr)
   ·cases hc
  ·cases hc
 ·split at hc
  ·rename_i e ht
   simp only [Option.bind_eq_bind, Option.bind_eq_some_iff, Option.some.injEq] at hc
   obtain ⟨z, hz, i, hi, hc⟩ := hc
   split at hc
   ·simp only [Option.bind_eq_some_iff, Option.some.injEq] at hc
    obtain ⟨l, hl, c, hcc, rfl⟩ := hc
    exact qa5o h hs ht hz hi ‹_› hl hcc hm hf hr
   ·cases hc
  ·cases hc
 ·obtain ⟨x, hx, lo, hlo, hi, hhi, hc⟩ := hc
  split at hc
  ·rename_i e ht
   simp only [Option.bind_eq_some_iff, Option.some.injEq] at hc
   obtain ⟨n, hn, rfl⟩ := hc
   exact pk (qbi9 hs hx hlo hhi ht hn hr)
  ·rename_i ht
   cases hc
   exact pk (qbi8 hs hx hlo hhi ht hr)
  ·cases hc
 ·split at hc
  ·rename_i fs ht
   simp only [Option.bind_eq_bind, Option.bind_eq_some_iff, Option.some.injEq] at hc
   obtain ⟨f, hf', hc⟩ := hc
   split at hc
   ·cases hc
   ·rename_i h0
    simp only [Option.bind_eq_some_iff, Option.some.injEq] at hc
    obtain ⟨x', hx, rfl⟩ := hc
    unfold qate at hf'
    rw [ht] at hf'
    simp only at hf'
    split at hf'
    ·rename_i fd hfd
     simp only [Option.map_eq_some_iff] at hf'
     obtain ⟨n, hn, rfl⟩ := hf'
     exact pk (qbje hs hx ht hfd hn h0 hr)
    ·cases hf'
  ·cases hc
 ·split at hc
  ·rename_i fs ht
   simp only [Option.bind_eq_bind, Option.bind_eq_some_iff, Option.some.injEq] at hc
   obtain ⟨f, hf', b, hb, x', hx, rfl⟩ := hc
   unfold qate at hf'
   rw [ht] at hf'
   simp only at hf'
   split at hf'
   ·rename_i fd hfd
    simp only [Option.map_eq_some_iff] at hf'
    obtain ⟨n, hn, rfl⟩ := hf'
    exact pk (qbjd hs hx ht hfd hn hb hr)
   ·cases hf'
  ·cases hc
 ·obtain ⟨x, hx, i, hi, hc⟩ := hc
  split at hc
  ·rename_i e ht
   simp only [Option.bind_eq_some_iff, Option.some.injEq] at hc
   obtain ⟨n, hn, rfl⟩ := hc
   exact pk (qbjc hs hx hi ht hn hr)
  ·rename_i n e ht
   simp only [Option.bind_eq_some_iff, Option.some.injEq] at hc
   obtain ⟨m, hn, rfl⟩ := hc
   exact pk (ok_iarr hs hx hi ht hn hr)
  ·cases hc
 ·obtain ⟨x, hx, i, hi, hc⟩ := hc
  split at hc
  ·rename_i ht
   cases hc
   exact pk (ok_idxs hs hx hi ht hr)
  ·rename_i n e ht
   simp only [Option.bind_eq_some_iff, Option.some.injEq] at hc
   obtain ⟨m, hn, b, hb, rfl⟩ := hc
   exact pk (ok_idx hs hx hi ht hn hb hr)
  ·cases hc
 ·obtain ⟨x, hx, rfl⟩ := hc
  exact pk (ok_extr hs hx hr)
 ·split at hc
  ·cases hc
  ·rename_i d hni ht
   simp only [Option.bind_eq_bind, Option.bind_eq_some_iff, Option.some.injEq] at hc
   obtain ⟨x, hx, rfl⟩ := hc
   exact pk (qbjb hs hx ht (fun l e => hni l e) hr)
  ·cases hc
 ·split at hc
  ·cases hc
  ·rename_i d hni ht
   simp only [Option.bind_eq_bind, Option.bind_eq_some_iff, Option.some.injEq] at hc
   obtain ⟨z, hz, x, hx, rfl⟩ := hc
   exact pk (ok_asrt hs hx ht (fun l e => hni l e) hz hr)
  ·cases hc
 ·obtain ⟨x, hx, y, hy, rfl⟩ := hc
  exact pk (ok_mkfn hs hx hy hr)
 ·rename_i b args tys
  exact bi_ok h hs hc hm hf hr
end Go.Proofs.YteoijlmgiemffaaGreat
namespace Go.Proofs.YteoijlmgiemffaaGreat
set_option linter.all false
open Go.RowKit
structure HeapOk (O : Nat → Prop) (ρ : qacu) (fp : Nat → Nat → Prop) (hp : Hp) (w : World) : Prop where
 objs : ∀ id o, geth hp id = some o → ObjRep w (fun k => O k ∨ Live hp fp k) ρ id (fp id) o
 disj : ∀ id id' o o', id ≠ id' → geth hp id = some o → geth hp id' = some o' → ∀ k, fp id k → ¬ fp id' k
 lt : ∀ k, Live hp fp k → k < w.heap.size ∧ ¬ O k
 O_lt : ∀ k, O k → k < w.heap.size
def Enters (P : Program) (f : FuncId) : Prop := ∀ args (w : World), (callFunc f args).run P w = .ok (.enter f args) w
def Meth (P : Program) (g : Nat → Option SObj) (t : TypeId) (x : SV) (nm : String) (f : FuncId) (x' : SV) : Prop :=
 ∀ (w : World) (A : Nat → Prop) (ρ : qacu) (v : Value), (∀ id o, g id = some o → ∃ fp, ObjRep w A ρ id fp o) → RepV w A ρ x v → ∃ v', (method (P.types.size + Made.depth) t v nm).run P w = .ok (f, v') w ∧ RepV w A ρ x' v'
structure SCalls (P : Program) (f : FuncId) (args : List SV) (h1 : Hp) (q : Nat) (r : SV) (h2 : Hp) (n : Nat := 8) : Prop where
 ent : Enters P f
 does : ∀ (O : Nat → Prop) (ρ : qacu) (fp : Nat → Nat → Prop) (w : World) (vs : List Value), HeapOk O ρ fp h1 w → Reps w (fun k => O k ∨ Live h1 fp k) ρ args vs → (∀ id, q ≤ id → id < q + n → ρ id = none) →
  Calls P f vs.toArray w fun e w' => ∃ v ρ' fp', e = .returned v ∧ HeapOk O ρ' fp' h2 w' ∧ RepV w' (fun k => O k ∨ Live h2 fp' k) ρ' r v ∧ Step (Live h1 fp) w w' ∧
   (∀ id p, ρ id = some p → ρ' id = some p) ∧ (∀ id, ρ' id ≠ none → ρ id ≠ none ∨ (q ≤ id ∧ id < q + n)) ∧ ∀ id o, geth h2 id = some o → ∀ k, fp' id k → Live h1 fp k ∨ w.heap.size ≤ k
def dels : Hp → Hp → Hp → Hp
 | h, [], _ => h
 | h, (i, _) :: r, h2 => dels (match geth h2 i with | some _ => h | none => delh h i) r h2
def adds : Hp → Hp → Hp
 | h, [] => h
 | h, (i, o) :: r => adds (puth h i o) r
def qab3 (hp h1 h2 : Hp) : Hp := adds (dels hp h1 h2) h2
def Uniq : Hp → Prop
 | [] => True
 | (i, _) :: r => geth r i = none ∧ Uniq r
def SubH (hp : Hp) : Hp → Prop
 | [] => True
 | (i, o) :: r => geth hp i = some o ∧ SubH hp r
theorem SubH.get {hp : Hp} : ∀ {h1 : Hp}, SubH hp h1 → ∀ id o, geth h1 id = some o → geth hp id = some o
 | [], _, id, o, h => by cases h
 | (i, x) :: r, h, id, o, hg => by
  simp only [geth] at hg
  split at hg
  ·rename_i e; subst e; cases hg; exact h.1
  ·exact SubH.get h.2 id o hg
theorem qas8 : ∀ (h1 hp h2 : Hp) (id : Nat), geth (dels hp h1 h2) id = if geth h1 id ≠ none ∧ geth h2 id = none then none else geth hp id
 | [], hp, h2, id => by simp [dels, geth]
 | (i, x) :: r, hp, h2, id => by
  rw [dels, qas8 r]
  by_cases e : i = id
  ·subst e
   cases h : geth h2 i with
   | some o => simp [geth]
   | none => simp [geth, qahg]
  ·cases h : geth h2 i with
   | some o => simp [geth, e]
   | none => simp [geth, e, qahg, Ne.symm e]
theorem qas9 : ∀ (h2 hp : Hp), Uniq h2 → ∀ id, geth (adds hp h2) id = match geth h2 id with | some o => some o | none => geth hp id
 | [], hp, _, id => rfl
 | (i, x) :: r, hp, hu, id => by
  rw [adds, qas9 r _ hu.2]
  by_cases e : i = id
  ·subst e
   rw [hu.1]; simp [geth, qac7]
  ·simp only [geth, if_neg e]
   split
   ·rfl
   ·rw [qac7, if_neg (Ne.symm e)]
theorem qagb {hp h1 h2 : Hp} (hu : Uniq h2) (id : Nat) : geth (qab3 hp h1 h2) id = match geth h2 id with | some o => some o | none => if geth h1 id ≠ none then none else geth hp id := by
 unfold qab3
 rw [qas9 _ _ hu, qas8]
 cases h : geth h2 id with
 | some o => rfl
 | none => simp
variable {X : Cx} {ρ : qacu} {fp : Nat → Nat → Prop} {hp : Hp} {w : World} {N : Nat} {a : Act} {sl : Sl}
theorem ObjRep.weaken {A A' : Nat → Prop} {id : Nat} {F : Nat → Prop} {o : SObj} (h : ObjRep w A ρ id F o) (hA : ∀ k, A' k → k < w.heap.size → A k) : ObjRep w A' ρ id F o :=
 h.mono ⟨.refl _ _, hA, fun _ _ h => h⟩ fun _ _ => rfl
theorem Reps.weaken {A A' : Nat → Prop} {x : List SV} {v : List Value} (h : Reps w A ρ x v) (hA : ∀ k, A' k → k < w.heap.size → A k) : Reps w A' ρ x v := h.mono (.refl _ _) hA fun _ _ h => h
def Rest (X : Cx) (fp : Nat → Nat → Prop) (hp h1 : Hp) (k : Nat) : Prop := X.O k ∨ ∃ id o, geth hp id = some o ∧ geth h1 id = none ∧ fp id k
theorem Rest.av {h1 : Hp} (hsub : ∀ id o, geth h1 id = some o → geth hp id = some o) (k : Nat) : (Rest X fp hp h1 k ∨ Live h1 fp k) ↔ Av X hp fp k := by
 constructor
 ·rintro ((h | ⟨id, o, h1, _, h3⟩) | ⟨id, o, h1, h2⟩)
  ·exact .inl h
  ·exact .inr ⟨id, o, h1, h3⟩
  ·exact .inr ⟨id, o, hsub _ _ h1, h2⟩
 ·rintro (h | ⟨id, o, h3, h4⟩)
  ·exact .inl (.inl h)
  ·cases e : geth h1 id with
   | none => exact .inl (.inr ⟨id, o, h3, e, h4⟩)
   | some o' => exact .inr ⟨id, o', e, h4⟩
theorem SimH.part (h : SimH X ρ fp hp w) {h1 : Hp} (hsub : ∀ id o, geth h1 id = some o → geth hp id = some o) : HeapOk (Rest X fp hp h1) ρ fp h1 w := by
 refine ⟨fun id o ho => (h.objs id o (hsub _ _ ho)).weaken fun k hk _ => (Rest.av hsub k).1 hk, fun id id' o o' hne ho ho' => h.disj id id' o o' hne (hsub _ _ ho) (hsub _ _ ho'), ?_, ?_⟩
 ·rintro k ⟨id, o, ho, hk⟩
  have ht := h.turn id o (hsub _ _ ho) k hk
  refine ⟨ht.2, ?_⟩
  rintro (hO | ⟨id', o', ho', hn, hk'⟩)
  ·rcases ht.1 with hM | hM
   ·exact X.O_M k hO hM
   ·exact absurd (X.O_lt k hO) (Nat.not_lt_of_le hM)
  ·have hne : id ≠ id' := fun e => by rw [e, hn] at ho; cases ho
   exact h.disj id id' o o' hne (hsub _ _ ho) ho' k hk hk'
 ·rintro k (hO | ⟨id', o', ho', hn, hk'⟩)
  ·exact Nat.lt_of_lt_of_le (X.O_lt k hO) h.step.size
  ·exact (h.turn id' o' ho' k hk').2
theorem SimH.called (h : SimH X ρ fp hp w) {h1 h2 : Hp} (hsub : ∀ id o, geth h1 id = some o → geth hp id = some o) (hu : Uniq h2) {ρ' : qacu} {fp' : Nat → Nat → Prop} {w' : World} {q n : Nat} (hq : X.m ≤ q)
  (hk : HeapOk (Rest X fp hp h1) ρ' fp' h2 w') (hst : Step (Live h1 fp) w w') (hρ : ∀ id p, ρ id = some p → ρ' id = some p) (hn : ∀ id, ρ' id ≠ none → ρ id ≠ none ∨ (q ≤ id ∧ id < q + n))
  (hfp : ∀ id o, geth h2 id = some o → ∀ k, fp' id k → Live h1 fp k ∨ w.heap.size ≤ k) :
  SimH X ρ' (fun id k => (geth h2 id ≠ none ∧ fp' id k) ∨ (geth h2 id = none ∧ fp id k)) (qab3 hp h1 h2) w' ∧ Pres w (Av X hp fp) ρ w' (Av X (qab3 hp h1 h2) (fun id k => (geth h2 id ≠ none ∧ fp' id k) ∨ (geth h2 id = none ∧ fp id k))) ρ' ∧
   ∀ k, Av X (qab3 hp h1 h2) (fun id k => (geth h2 id ≠ none ∧ fp' id k) ∨ (geth h2 id = none ∧ fp id k)) k → Rest X fp hp h1 k ∨ Live h2 fp' k := by
 have e2 : ∀ id o, geth h2 id = some o → (fun k => (geth h2 id ≠ none ∧ fp' id k) ∨ (geth h2 id = none ∧ fp id k)) = fp' id := fun id o ho => by
  funext k; simp [ho]
 have e0 : ∀ id, geth h2 id = none → (fun k => (geth h2 id ≠ none ∧ fp' id k) ∨ (geth h2 id = none ∧ fp id k)) = fp id := fun id ho => by
  funext k; simp [ho]
 have hav : ∀ k, Av X (qab3 hp h1 h2) (fun id k => (geth h2 id ≠ none ∧ fp' id k) ∨ (geth h2 id = none ∧ fp id k)) k → Rest X fp hp h1 k ∨ Live h2 fp' k := by
  rintro k (hO | ⟨id, o, ho, hk'⟩)
  ·exact .inl (.inl hO)
  ·rw [qagb hu] at ho
   cases e : geth h2 id with
   | some o' => rcases hk' with ⟨_, hk'⟩ | ⟨h3, _⟩
                ·exact .inr ⟨id, o', e, hk'⟩
                ·rw [e] at h3; cases h3
   | none =>
    rw [e] at ho
    simp only at ho
    split at ho
    ·cases ho
    ·rename_i h1n
     rcases hk' with ⟨h3, _⟩ | ⟨_, hk'⟩
     ·exact absurd e h3
     ·exact .inl (.inr ⟨id, o, ho, by simpa using h1n, hk'⟩)
 obtain ⟨q1, q2⟩ := h.change (hp' := qab3 hp h1 h2) (ρ' := ρ') (fp' := fun id k => (geth h2 id ≠ none ∧ fp' id k) ∨ (geth h2 id = none ∧ fp id k)) (S := Live h1 fp) (fun id => geth h1 id ≠ none) (fun id => geth h2 id ≠ none) hst
  (fun k ⟨id, o, ho, hk'⟩ => ⟨id, o, hsub _ _ ho, hk', by rw [ho]; simp⟩)
  (fun id o ho hnew => by
   have e : geth h2 id = none := by simpa using hnew
   rw [qagb hu, e] at ho
   simp only at ho
   split at ho
   ·cases ho
   ·rename_i h3; exact ⟨ho, h3, e0 id e⟩)
  hρ
  (fun id hid => by
   cases e : ρ id with
   | some p => exact hρ _ _ e
   | none =>
    cases e' : ρ' id with
    | none => rfl
    | some p => rcases hn id (by rw [e']; simp) with h3 | h3
                ·exact absurd e h3
                ·omega)
  (fun id o hnew ho k hk' => by
   obtain ⟨o', e⟩ := Option.ne_none_iff_exists'.1 hnew
   have hk2 : fp' id k := by rw [← e2 id o' e]; exact hk'
   refine ⟨?_, (hk.lt k ⟨id, o', e, hk2⟩).1⟩
   rcases hfp id o' e k hk2 with ⟨j, oj, h3, h4⟩ | h3
   ·exact .inl ⟨j, oj, hsub _ _ h3, h4, by rw [h3]; simp⟩
   ·exact .inr h3)
  (fun id id' o o' hnew hnew' hne _ _ k hk1 hk2 => by
   obtain ⟨x, e⟩ := Option.ne_none_iff_exists'.1 hnew
   obtain ⟨y, e'⟩ := Option.ne_none_iff_exists'.1 hnew'
   have a1 : fp' id k := by rw [← e2 id x e]; exact hk1
   have a2 : fp' id' k := by rw [← e2 id' y e']; exact hk2
   exact hk.disj id id' x y hne e e' k a1 a2)
  (fun _ id o hnew ho => by
   obtain ⟨x, e⟩ := Option.ne_none_iff_exists'.1 hnew
   rw [qagb hu, e] at ho
   cases ho
   rw [show (fun k => (geth h2 id ≠ none ∧ fp' id k) ∨ (geth h2 id = none ∧ fp id k)) = fp' id from e2 id _ e]
   exact (hk.objs id _ e).weaken fun k hk' _ => hav k hk')
 exact ⟨q1, q2, hav⟩
end Go.Proofs.YteoijlmgiemffaaGreat
namespace Go.Proofs.YteoijlmgiemffaaGreat
set_option linter.all false
open Go.RowKit
def putd (l : Sl) (dst : Option Nat) (v : SV) : Sl := match dst with
 | none => l
 | some d => puts l d v
structure Tch where
 rd : List Nat
 wr : List Nat
def idOf : SV → List Nat
 | .ptr id _ | .eptr id _ _ _ | .own id _ | .owno id _ _ _ => [id]
 | _ => []
def SOp.touch (ev : SX → SV) : SOp → List Nat
 | .load x | .loads _ x | .store _ x _ | .b2s x => idOf (ev x)
 | .app _ _ _ s x => idOf (ev s) ++ idOf (ev x)
 | _ => []
def idsH (h : Hp) : List Nat := h.map (·.1)
def SOp1 (P : Program) (o : SOper) (s : SSt) (K : SSt → Tch → Prop) : Prop := match o.cal with
 | some (f, args) => match f.ev s.sl with
  | .fn (.func g) first cap => ∃ h1 r h2 rd n, SCalls P g (first ++ args.map (·.ev s.sl) ++ cap) h1 s.nx r h2 n ∧ SubH s.hp h1 ∧ Uniq h2 ∧ (∀ id ∈ rd, geth h2 id = geth h1 id) ∧
    K ⟨putd s.sl o.dst r, qab3 s.hp h1 h2, s.nx + n⟩ ⟨rd, (idsH h1 ++ idsH h2).filter fun i => !rd.contains i⟩
  | .fn (.method nm) [] [] => match (args.map (fun x : SX => x.ev s.sl) : List SV) with
   | .ifc t x :: az => ∃ hm x' g h1 r h2 rd n, SubH s.hp hm ∧ Meth P (geth hm) t x nm g x' ∧ SCalls P g (x' :: az) h1 s.nx r h2 n ∧ SubH s.hp h1 ∧ Uniq h2 ∧ (∀ id ∈ rd, geth h2 id = geth h1 id) ∧
    K ⟨putd s.sl o.dst r, qab3 s.hp h1 h2, s.nx + n⟩ ⟨idsH hm ++ rd, (idsH h1 ++ idsH h2).filter fun i => !rd.contains i⟩
   | _ => False
  | _ => False
 | none => match o.op.run (·.ev s.sl) (geth s.hp) s.nx with
  | some (v, u, _) => K ⟨putd s.sl o.dst v, upds s.hp u, s.nx + 1⟩ ⟨o.op.touch (·.ev s.sl), u.map (·.1)⟩
  | none => False
def SSt.skip (s : SSt) (o : SOper) : SSt := ⟨putd s.sl o.dst (.tup []), s.hp, s.nx⟩
def SOps (P : Program) : List SOper → SSt → List Tch → (SSt → List Tch → Prop) → Prop
 | [], s, tr, Q => Q s tr
 | o :: os, s, tr, Q => match o.grd with
  | none => SOp1 P o s fun s' x => SOps P os s' (x :: tr) Q
  | some (t, want) => match gets s.sl t with
   | .bool b => (b = want → SOp1 P o s fun s' x => SOps P os s' (x :: tr) Q) ∧ (b ≠ want → SOps P os (s.skip o) (⟨[], []⟩ :: tr) Q)
   | .tup [] => SOps P os (s.skip o) (⟨[], []⟩ :: tr) Q
   | _ => False
structure SimF (X : Cx) (ρ : qacu) (fp : Nat → Nat → Prop) (s : SSt) (a : Act) (w : World) : Prop where
 sim : Sim X ρ fp s a w
 fresh : ∀ id, s.nx ≤ id → ρ id = none
 le : X.m ≤ s.nx
theorem Enters.of {P : Program} {f : FuncId} {fn : Func} (hf : P.funcs[f]? = some fn) (hb : fn.body.isSome = true) (hn : (fn.name == "runtime.NumGoroutine") = false) : Enters P f := fun args w => by
 have hb' : fn.body.isNone = false := by cases h : fn.body <;> simp_all
 unfold callFunc
 simp only [Sem.run_bind, run_program, Result.andThen_ok, hf, hn, hb', Bool.false_eq_true, if_false, Sem.run_pure]
variable {X : Cx} {ρ : qacu} {fp : Nat → Nat → Prop} {w : World} {a : Act} {s : SSt}
theorem Sim.put (h : Sim X ρ fp s a w) {ρ' : qacu} {fp' : Nat → Nat → Prop} {hp' : Hp} {w' : World} {nx' : Nat} (hh : SimH X ρ' fp' hp' w') (hp : Pres w (Av X s.hp fp) ρ w' (Av X hp' fp') ρ') {v : SV} {v' : Value} (hv : RepV w' (Av X hp' fp') ρ' v v') {dst : Option Nat} (hd : dst.all (· < X.N) = true) :
  Sim X ρ' fp' ⟨putd s.sl dst v, hp', nx'⟩ (a.put dst v') w' := by
 cases dst with
 | none => exact ⟨hh, h.tmps, h.defers, fun t => hp.rep (h.slots t)⟩
 | some d =>
  have hd' : d < a.tmps.size := by rw [h.tmps]; simpa using hd
  refine ⟨hh, by simp [Act.put, h.tmps], h.defers, fun t => ?_⟩
  show RepV w' (Av X hp' fp') ρ' (gets (puts s.sl d v) t) ((a.tmps.setIfInBounds d v').getD t undef)
  rw [qahe]
  by_cases e : t = d
  ·subst e
   rw [if_pos rfl]
   simp [hd']
   exact hv
  ·rw [if_neg e]
   have := hp.rep (h.slots t)
   simpa [Array.getElem?_setIfInBounds_ne (Ne.symm e)] using this
theorem qae8 {P : Program} {N : Nat} {ops : Array Oper} {o : Oper} {b : Nat} {so : SOper} (h : qbj3 P N ops o b = some so) : so.dst = o.dst ∧ o.dst.all (· < N) = true ∧ cgrd ops o.guard = some so.grd ∧ so.bef = b ∧
  ((so.cal = none ∧ (cop P N o.type o.op = some so.op ∨ so.op = SOp.bad)) ∨ (∃ f args g gs tys, so.cal = some (f, args) ∧ o.op = .call { callee := .value g, args := gs, argTypes := tys } ∧ cx N g = some f ∧ gs.toList.mapM (cx N) = some args) ∨ ∃ r args nm g gs tys, so.cal = some (.c (.fn (.method nm) [] []), r :: args) ∧ o.op = .call { callee := .invoke g nm, args := gs, argTypes := tys } ∧ cx N g = some r ∧ gs.toList.mapM (cx N) = some args) := by
 unfold qbj3 at h
 split at h
 ·rename_i hd
  split at h
  ·cases h
  ·rename_i g hg
   split at h
   ·rename_i f args tys hop
    simp only [Option.map_eq_some_iff] at h
    obtain ⟨c, hc, rfl⟩ := h
    unfold ccal at hc
    split at hc
    ·rename_i f' l h1 h2
     cases hc
     exact ⟨rfl, hd, hg, rfl, .inr (.inl ⟨f', l, f, args, tys, rfl, hop, h1, h2⟩)⟩
    ·cases hc
   ·rename_i f nm args tys hop
    simp only [Option.map_eq_some_iff] at h
    obtain ⟨c, hc, rfl⟩ := h
    unfold ccal at hc
    split at hc
    ·rename_i f' l h1 h2
     cases hc
     exact ⟨rfl, hd, hg, rfl, .inr (.inr ⟨f', l, nm, f, args, tys, rfl, hop, h1, h2⟩)⟩
    ·cases hc
   ·cases h
    refine ⟨rfl, hd, hg, rfl, .inl ⟨rfl, ?_⟩⟩
    cases hc : cop P N o.type o.op with
    | none => exact .inr rfl
    | some op => exact .inl rfl
 ·cases h
theorem Yld.upon {P : Program} {o : Oper} {next : Act → World → Prop} {Q : Exit → Act → World → Prop} {v : Value} {w' : World} (h : Yld ((execOp a.eval o).run P w) v w') (hn : next (a.put o.dst v) w') : o.wp P a w next Q := by
 unfold Oper.wp
 rcases h with h | ⟨h, rfl⟩ <;> rw [h] <;> exact hn
theorem qaju {P : Program} {w : World} {A : Nat → Prop} {ρ : qacu} {g0 : Nat → Option SObj} (hobj : ∀ id o, g0 id = some o → ∃ fp, ObjRep w A ρ id fp o) {t : TypeId} {x x' : SV} {nm : String} {g : FuncId} (hM : Meth P g0 t x nm g x') (hent : Enters P g) {az : List SV} {vals : List Value} (hr : Reps w A ρ (.ifc t x :: az) vals) :
  ∃ v' avs, (invoke (.fn (.method nm) #[]) vals.toArray).run P w = .ok (.enter g (v' :: avs).toArray) w ∧ Reps w A ρ (x' :: az) (v' :: avs) := by
 obtain ⟨vx, avs, rfl, rx, ras⟩ := hr.cons_inv
 cases rx with
 | ifc rx =>
  rename_i v
  obtain ⟨v', h1, h2⟩ := hM w A ρ v hobj rx
  refine ⟨v', avs, ?_, Reps.cons h2 ras⟩
  have e0 : (Value.iface t v :: avs).toArray[0]? = some (.iface t v) := by simp
  have e1 : (Value.iface t v :: avs).toArray.extract 1 (Value.iface t v :: avs).toArray.size = avs.toArray := by simp
  have e2 : (#[v'] ++ avs.toArray) = (v' :: avs).toArray := by simp
  have hp : (program : Sem Program).run P w = .ok P w := rfl
  simp only [invoke, e0, callMethod, Sem.run_bind, hp, Result.andThen_ok, e1, h1, e2]
  exact hent _ _
theorem op1_ok {ops : Array Oper} {o : Oper} {b : Nat} {so : SOper} (hc : qbj3 X.P X.N ops o b = some so) {K : SSt → Tch → Prop} (hk : SOp1 X.P so s K) (h : SimF X ρ fp s a w) {next : Act → World → Prop} {Q : Exit → Act → World → Prop}
  (hn : ∀ s' x ρ' fp' a' w', K s' x → SimF X ρ' fp' s' a' w' → next a' w') : o.wp X.P a w next Q := by
 obtain ⟨hdst, hd, _, _, hop⟩ := qae8 hc
 unfold SOp1 at hk
 rcases hop with ⟨hcal, hop⟩ | ⟨f, args, g, gs, tys, hcal, hop, hf, hargs⟩ | ⟨r, args, nm, g, gs, tys, hcal, hop, hf, hargs⟩
 ·rw [hcal] at hk
  simp only at hk
  split at hk
  ·rename_i v u nx' hr
   replace hop := hop.resolve_right fun e => by rw [e] at hr; simp [SOp.run, SX.ev] at hr
   obtain ⟨v', w', h1, ρ', fp', h2, h3, h4, h5⟩ := op_ok h.sim.h h.sim.slots hop h.le (h.fresh _ (Nat.le_refl _)) hr
   refine (h1 o rfl).upon (hn _ _ ρ' fp' _ _ hk ⟨?_, fun id hid => ?_, ?_⟩)
   ·have := h.sim.put (nx' := s.nx + 1) h2 h4 h3 (dst := so.dst) (by rw [hdst]; exact hd)
    rw [hdst] at this ⊢; exact this
   ·cases e : ρ' id with
    | none => rfl
    | some p =>
     simp only at hid
     rcases h5 id (by rw [e]; simp) with h6 | h6
     ·exact absurd (h.fresh id (by omega)) h6
     ·omega
   ·have := h.le; simp only; omega
  ·cases hk
 all_goals
  have fin : ∀ {g' : FuncId} {args' : List SV} {h1 h2 : Hp} {r : SV} {nn : Nat} {tch : Tch} (vals : List Value), SCalls X.P g' args' h1 s.nx r h2 nn → SubH s.hp h1 → Uniq h2 → Reps w (Av X s.hp fp) ρ args' vals → (execOp a.eval o).run X.P w = .ok (.enter g' vals.toArray) w → K ⟨putd s.sl so.dst r, qab3 s.hp h1 h2, s.nx + nn⟩ tch → o.wp X.P a w next Q := by
   rintro g' args' h1 h2 r nn tch vals ⟨hent, hcall⟩ hsub hu hreps0 hrun hk
   have hsub' := hsub.get
   have hav : ∀ k, (Rest X fp s.hp h1 k ∨ Live h1 fp k) → Av X s.hp fp k := fun k hk => (Rest.av hsub' k).1 hk
   have hreps := hreps0.weaken fun k hk _ => hav k hk
   have := hcall (Rest X fp s.hp h1) ρ fp w _ (h.sim.h.part hsub') hreps (fun id h3 _ => h.fresh id h3)
   unfold Oper.wp
   rw [hrun, Oper.upon_enter]
   refine this.mono ?_
   rintro e w' ⟨v, ρ', fp', rfl, q1, q2, q3, q4, q5, q6⟩
   obtain ⟨p1, p2, p3⟩ := h.sim.h.called hsub' hu (q := s.nx) h.le q1 q3 q4 q5 q6
   refine hn _ _ ρ' (fun id k => (geth h2 id ≠ none ∧ fp' id k) ∨ (geth h2 id = none ∧ fp id k)) _ _ hk ⟨?_, fun id hid => ?_, ?_⟩
   ·have := h.sim.put (nx' := s.nx + nn) p1 p2 (q2.weaken fun k hk _ => p3 k hk) (dst := so.dst) (by rw [hdst]; exact hd)
    rw [hdst] at this ⊢; exact this
   ·cases e : ρ' id with
    | none => rfl
    | some p =>
     simp only at hid
     rcases q5 id (by rw [e]; simp) with h6 | h6
     ·exact absurd (h.fresh id (by omega)) h6
     ·omega
   ·have := h.le; simp only; omega
  have hobj : ∀ {hm : Hp}, SubH s.hp hm → ∀ id o, geth hm id = some o → ∃ fp', ObjRep w (Av X s.hp fp) ρ id fp' o := fun hs id o ho => ⟨_, h.sim.h.objs id o (hs.get id o ho)⟩
 ·rw [hcal] at hk
  simp only at hk
  have rf := qab6 hf h.sim.slots
  have rargs := qaft hargs h.sim.slots
  generalize hgv : a.eval g = gv at rf
  split at hk
  ·rename_i g' first cap hfv
   obtain ⟨h1, r, h2, rd, nn, hS, hsub, hu, _, hk⟩ := hk
   rw [hfv] at rf
   cases rf with
   | fn l1 l2 r1 r2 =>
    rename_i vs us
    refine fin (vs ++ gs.toList.map a.eval ++ us) hS hsub hu (Reps.append (Reps.append ⟨l1, r1⟩ rargs) ⟨l2, r2⟩) ?_ hk
    have e1 : (vs.toArray ++ gs.map a.eval ++ us.toArray) = (vs ++ gs.toList.map a.eval ++ us).toArray := by apply Array.ext'; simp
    simp only [execOp, hop, resolve, hgv, Deferred.ofValue, Sem.run_bind, Sem.run_pure, Result.andThen_ok, invoke, e1]
    exact hS.ent _ _
  ·rename_i nm hfv
   split at hk
   ·rename_i t x az hav
    obtain ⟨hm, x', g', h1, r, h2, rd, nn, hsm, hM, hS, hsub, hu, _, hk⟩ := hk
    rw [hfv] at rf
    cases rf with
    | fn l1 l2 r1 r2 =>
     rename_i vs us
     obtain rfl := List.eq_nil_of_length_eq_zero l1.symm
     obtain rfl := List.eq_nil_of_length_eq_zero l2.symm
     rw [show args.map (·.ev s.sl) = .ifc t x :: az from hav] at rargs
     obtain ⟨v', avs, h3, h4⟩ := qaju (hobj hsm) hM hS.ent rargs
     refine fin (v' :: avs) hS hsub hu h4 ?_ hk
     have e1 : (([] : List Value).toArray ++ gs.map a.eval) = (gs.toList.map a.eval).toArray := by apply Array.ext'; simp
     have e2 : ([] : List Value).toArray = #[] := rfl
     simp only [execOp, hop, resolve, hgv, Deferred.ofValue, Sem.run_bind, Sem.run_pure, Result.andThen_ok, e1]
     exact h3
   ·cases hk
  ·cases hk
 ·rw [hcal] at hk
  simp only [SX.ev] at hk
  have rf := qab6 hf h.sim.slots
  have rargs := qaft hargs h.sim.slots
  split at hk
  ·rename_i t x az hav
   obtain ⟨hm, x', g', h1, rr, h2, rd, nn, hsm, hM, hS, hsub, hu, _, hk⟩ := hk
   have rall : Reps w (Av X s.hp fp) ρ (.ifc t x :: az) (a.eval g :: gs.toList.map a.eval) := by
    have := Reps.cons rf rargs
    rw [List.map_cons] at hav
    have e : r.ev s.sl :: args.map (·.ev s.sl) = .ifc t x :: az := hav
    rw [e] at this; exact this
   obtain ⟨v', avs, h3, h4⟩ := qaju (hobj hsm) hM hS.ent rall
   refine fin (v' :: avs) hS hsub hu h4 ?_ hk
   have e1 : (#[a.eval g] ++ gs.map a.eval) = (a.eval g :: gs.toList.map a.eval).toArray := by apply Array.ext'; simp
   simp only [execOp, hop, resolve, Sem.run_bind, Sem.run_pure, Result.andThen_ok, e1]
   exact h3
  ·cases hk
theorem qa56 {ops : Array Oper} {o : Oper} {so : SOper} (hg : cgrd ops o.guard = some so.grd) (h : Sim X ρ fp s a w) :
  (so.grd = none → Region.wanted o (yielded ops a.tmps) = true) ∧ ∀ t want, so.grd = some (t, want) → (∀ b, gets s.sl t = .bool b → Region.wanted o (yielded ops a.tmps) = decide (b = want)) ∧ (gets s.sl t = .tup [] → Region.wanted o (yielded ops a.tmps) = false) := by
 cases hgd : o.guard with
 | none =>
  rw [hgd] at hg
  simp only [cgrd, Option.some.injEq] at hg
  rw [← hg]
  exact ⟨(fun _ => by simp [Region.wanted, hgd]), (fun t want e => by cases e)⟩
 | some jw =>
  obtain ⟨j, want'⟩ := jw
  rw [hgd] at hg
  simp only [cgrd] at hg
  split at hg
  ·rename_i t ht
   injection hg with hg
   rw [← hg]
   refine ⟨(fun e => by cases e), fun t' want e => ?_⟩
   cases e
   have hs := h.slots t
   refine ⟨fun b hb => ?_, fun hb => ?_⟩
   ·rw [hb] at hs
    have hv : a.tmps.getD t undef = .bool b := by generalize a.tmps.getD t undef = v at hs; cases hs; rfl
    have hv2 : a.tmps[t]? = some (.bool b) := by
     cases e : a.tmps[t]? with
     | none => rw [Array.getD_eq_getD_getElem?, e] at hv; cases hv
     | some x => rw [Array.getD_eq_getD_getElem?, e] at hv; rw [← hv]; rfl
    simp only [Region.wanted, hgd, yielded, ht, Option.bind_some, hv2]
    cases b <;> cases want' <;> rfl
   ·rw [hb] at hs
    have hv : a.tmps.getD t undef = .tuple #[] := by
     generalize a.tmps.getD t undef = v at hs
     cases hs with
     | tup hl _ => have := List.eq_nil_of_length_eq_zero hl.symm; rw [this]
    have hv2 : ∀ b, a.tmps[t]? ≠ some (.bool b) := fun b e => by
     rw [Array.getD_eq_getD_getElem?, e] at hv; cases hv
    simp only [Region.wanted, hgd, yielded, ht, Option.bind_some]
    first | rfl | (split <;> first | rfl | (rename_i b hb'; exact absurd hb' (hv2 b)) | simp)
  ·cases hg
theorem Sim.skip (h : SimF X ρ fp s a w) {so : SOper} {dst : Option Nat} (hdst : so.dst = dst) (hd : dst.all (· < X.N) = true) : SimF X ρ fp (s.skip so) (a.put dst undef) w := by
 subst hdst
 exact ⟨h.sim.put (nx' := s.nx) h.sim.h (.refl _ _ _) (RepV.tup (cs := []) (vs := []) rfl (by simp)) hd, h.fresh, h.le⟩
theorem qagu {P : Program} {N : Nat} {ops : Array Oper} {o : Oper} {os : List Oper} {bs : List Nat} {sos : List SOper} (h : qagv P N ops (o :: os) bs = some sos) : ∃ so r, sos = so :: r ∧ qbj3 P N ops o (bs.headD 0) = some so ∧ qagv P N ops os bs.tail = some r := by
 simp only [qagv, Option.bind_eq_bind, Option.bind_eq_some_iff, Option.some.injEq] at h
 obtain ⟨so, h1, r, h2, rfl⟩ := h
 exact ⟨so, r, rfl, h1, h2⟩
theorem sops_ok {ops : Array Oper} {Q : SSt → List Tch → Prop} {R : Exit → Act → World → Prop} (hQ : ∀ s tr ρ fp a w, Q s tr → SimF X ρ fp s a w → R .normal a w) : ∀ (l : List Oper) (bs : List Nat) (sos : List SOper), qagv X.P X.N ops l bs = some sos → ∀ (s : SSt) (tr : List Tch) (ρ : qacu) (fp : Nat → Nat → Prop) (a : Act) (w : World),
  SOps X.P sos s tr Q → SimF X ρ fp s a w → wpList X.P ops R l a w := by
 intro l
 induction l with
 | nil =>
  intro bs sos hc s tr ρ fp a w hk h
  simp only [qagv, Option.some.injEq] at hc
  subst hc
  exact hQ _ _ _ _ _ _ hk h
 | cons o l ih =>
  intro bs sos hc s tr ρ fp a w hk h
  obtain ⟨so, r, rfl, hso, hr⟩ := qagu hc
  obtain ⟨hdst, hd, hg, _, _⟩ := qae8 hso
  obtain ⟨g1, g2⟩ := qa56 hg h.sim
  refine wpList_step fun K hK => ?_
  have run : (SOp1 X.P so s fun s' x => SOps X.P r s' (x :: tr) Q) → o.wp X.P a w K R := fun hk => op1_ok hso hk h fun s' x ρ' fp' a' w' hk' h' => hK _ _ (ih _ _ hr _ _ _ _ _ _ hk' h')
  simp only [SOps] at hk
  cases hgr : so.grd with
  | none =>
   rw [hgr] at hk
   rw [if_pos (g1 hgr)]
   exact run hk
  | some tw =>
   obtain ⟨t, want⟩ := tw
   rw [hgr] at hk
   obtain ⟨g3, g4⟩ := g2 t want hgr
   simp only at hk
   split at hk
   ·rename_i b hb
    rw [g3 b hb]
    by_cases hbw : b = want
    ·rw [if_pos (by simpa using hbw)]
     exact run (hk.1 hbw)
    ·rw [if_neg (by simpa using hbw)]
     exact hK _ _ (ih _ _ hr _ _ _ _ _ _ (hk.2 hbw) (Sim.skip h hdst hd))
   ·rename_i hb
    rw [g4 hb, if_neg (by simp)]
    exact hK _ _ (ih _ _ hr _ _ _ _ _ _ hk (Sim.skip h hdst hd))
   ·cases hk
end Go.Proofs.YteoijlmgiemffaaGreat
namespace Go.Proofs.YteoijlmgiemffaaGreat
set_option linter.all false
open Go.RowKit
inductive SExit where
 | normal
 | exit (id : Nat)
 | ret
def Out (X : Cx) (Q : SExit → SSt → Prop) : Exit → Act → World → Prop
 | .normal, a, w => ∃ s ρ fp, Q .normal s ∧ SimF X ρ fp s a w
 | .exit id, a, w => ∃ s ρ fp, Q (.exit id) s ∧ SimF X ρ fp s a w
 | .ret, a, w => ∃ s ρ fp, Q .ret s ∧ SimF X ρ fp s a w
 | _, _, _ => False
def SWp (X : Cx) (c : SCode) (Q : SExit → SSt → Prop) (s : SSt) : Prop :=
 ∀ code, comp X.P X.N code = some c.erase → ∀ ρ fp a w, SimF X ρ fp s a w → code.wp X.P (Out X Q) a w
def Wk (X : Cx) (s s' : SSt) : Prop := ∀ ρ fp a w, SimF X ρ fp s a w → ∃ ρ' fp', SimF X ρ' fp' s' a w
theorem Wk.refl (X : Cx) (s : SSt) : Wk X s s := fun ρ fp _ _ h => ⟨ρ, fp, h⟩
theorem Wk.trans {X : Cx} {s t u : SSt} (h : Wk X s t) (k : Wk X t u) : Wk X s u := fun ρ fp a w hs => let ⟨_, _, h1⟩ := h ρ fp a w hs; k _ _ a w h1
theorem qacy {P : Program} {N id : Nat} {ops : Array Oper} {draw : Bool} {c : SCode} (h : comp P N (.region id ops draw) = some c) : ∃ l, c = .reg draw l [] ∧ qagv P N ops ops.toList (if draw then (Region.before ops).toList else []) = some l ∧ (draw = false ∨ qa6f ops = true) := by
 simp only [comp] at h
 split at h
 ·rename_i hd
  simp only [Option.bind_eq_bind, Option.bind_eq_some_iff, Option.some.injEq] at h
  obtain ⟨l, h1, rfl⟩ := h
  exact ⟨l, rfl, h1, hd⟩
 ·cases h
variable {X : Cx} {s : SSt} {Q : SExit → SSt → Prop}
theorem qaco {c : SCode} {s' : SSt} (hw : Wk X s s') (h : SWp X c Q s') : SWp X c Q s := fun code hc ρ fp a w hs => let ⟨_, _, h1⟩ := hw ρ fp a w hs; h code hc _ _ a w h1
theorem Out.mono {Q' : SExit → SSt → Prop} (hq : ∀ e s, Q e s → Q' e s) : ∀ e a w, Out X Q e a w → Out X Q' e a w := by
 intro e a w h
 cases e <;> first | exact h | (obtain ⟨s, ρ, fp, h1, h2⟩ := h; exact ⟨s, ρ, fp, hq _ _ h1, h2⟩)
theorem qaaf (h : Q .normal s) : SWp X .skip Q s := fun code hc ρ fp a w hs => by
 by_cases hreg : ∃ id o d, code = .region id o d
 ·obtain ⟨_, _, _, rfl⟩ := hreg
  obtain ⟨_, e, _⟩ := qacy hc
  simp [SCode.erase] at e
 cases code <;> (try simp only [comp, SCode.erase, Option.bind_eq_bind, Option.bind_eq_some_iff, Option.some.injEq, reduceCtorEq, and_false, exists_false, exists_const] at hc)
 case skip => exact wp_skip ⟨s, ρ, fp, h, hs⟩
 case label => exact wp_label ⟨s, ρ, fp, h, hs⟩
 case region => exact absurd ⟨_, _, _, rfl⟩ hreg
theorem qaak {id : Nat} (h : Q (.exit id) s) : SWp X (.exit id) Q s := fun code hc ρ fp a w hs => by
 by_cases hreg : ∃ id o d, code = .region id o d
 ·obtain ⟨_, _, _, rfl⟩ := hreg
  obtain ⟨_, e, _⟩ := qacy hc
  simp [SCode.erase] at e
 cases code <;> (try simp only [comp, SCode.erase, Option.bind_eq_bind, Option.bind_eq_some_iff, Option.some.injEq, reduceCtorEq, and_false, exists_false, exists_const, SCode.exit.injEq] at hc)
 case exit => subst hc; exact wp_exit ⟨s, ρ, fp, h, hs⟩
 case region => exact absurd ⟨_, _, _, rfl⟩ hreg
theorem qaam (h : Q .ret s) : SWp X .ret Q s := fun code hc ρ fp a w hs => by
 by_cases hreg : ∃ id o d, code = .region id o d
 ·obtain ⟨_, _, _, rfl⟩ := hreg
  obtain ⟨_, e, _⟩ := qacy hc
  simp [SCode.erase] at e
 cases code <;> (try simp only [comp, SCode.erase, Option.bind_eq_bind, Option.bind_eq_some_iff, Option.some.injEq, reduceCtorEq, and_false, exists_false, exists_const] at hc)
 case ret => exact wp_ret ⟨s, ρ, fp, h, hs⟩
 case region => exact absurd ⟨_, _, _, rfl⟩ hreg
def QSeq (X : Cx) (y : SCode) (Q : SExit → SSt → Prop) : SExit → SSt → Prop
 | .normal, s => SWp X y Q s
 | e, s => Q e s
theorem qad8 {x y : SCode} (h : SWp X x (QSeq X y Q) s) : SWp X (.seq x y) Q s := fun code hc ρ fp a w hs => by
 by_cases hreg : ∃ id o d, code = .region id o d
 ·obtain ⟨_, _, _, rfl⟩ := hreg
  obtain ⟨_, e, _⟩ := qacy hc
  simp [SCode.erase] at e
 cases code <;> (try simp only [comp, SCode.erase, Option.bind_eq_bind, Option.bind_eq_some_iff, Option.some.injEq, reduceCtorEq, and_false, exists_false, exists_const, SCode.seq.injEq] at hc)
 case seq c d =>
  obtain ⟨c', h1, d', h2, rfl, rfl⟩ := hc
  refine wp_seq (wp_mono (h c h1 ρ fp a w hs) ?_)
  intro e a' w' ho
  cases e with
  | normal => obtain ⟨s', ρ', fp', q1, q2⟩ := ho; exact q1 d h2 ρ' fp' a' w' q2
  | exit id => exact ho
  | ret => exact ho
  | goto l => exact ho.elim
  | panic c => exact ho.elim
  | outgrown => exact ho.elim
 case region => exact absurd ⟨_, _, _, rfl⟩ hreg
theorem qaaa {c : SX} {x y : SCode} {b : Bool} (hb : c.ev s.sl = .bool b) (h1 : b = true → SWp X x Q s) (h2 : b = false → SWp X y Q s) : SWp X (.cond c x y) Q s := fun code hc ρ fp a w hs => by
 by_cases hreg : ∃ id o d, code = .region id o d
 ·obtain ⟨_, _, _, rfl⟩ := hreg
  obtain ⟨_, e, _⟩ := qacy hc
  simp [SCode.erase] at e
 cases code <;> (try simp only [comp, SCode.erase, Option.bind_eq_bind, Option.bind_eq_some_iff, Option.some.injEq, reduceCtorEq, and_false, exists_false, exists_const, SCode.cond.injEq] at hc)
 case cond o d e =>
  obtain ⟨o', q1, d', q2, e', q3, rfl, rfl, rfl⟩ := hc
  have r := qab6 q1 hs.sim.slots
  rw [hb] at r
  have hv : a.eval o = .bool b := by generalize a.eval o = v at r; cases r; rfl
  exact wp_cond_split hv (fun hb => h1 hb d q2 ρ fp a w hs) (fun hb => h2 hb e q3 ρ fp a w hs)
 case region => exact absurd ⟨_, _, _, rfl⟩ hreg
def qake (id : Nat) (Q : SExit → SSt → Prop) : SExit → SSt → Prop
 | .exit i, s => if i = id then Q .normal s else Q (.exit i) s
 | e, s => Q e s
theorem qaal {id : Nat} {c : SCode} (h : SWp X c (qake id Q) s) : SWp X (.block id c) Q s := fun code hc ρ fp a w hs => by
 by_cases hreg : ∃ id o d, code = .region id o d
 ·obtain ⟨_, _, _, rfl⟩ := hreg
  obtain ⟨_, e, _⟩ := qacy hc
  simp [SCode.erase] at e
 cases code <;> (try simp only [comp, SCode.erase, Option.bind_eq_bind, Option.bind_eq_some_iff, Option.some.injEq, reduceCtorEq, and_false, exists_false, exists_const, SCode.block.injEq] at hc)
 case block i d =>
  obtain ⟨d', h1, rfl, rfl⟩ := hc
  refine wp_block (wp_mono (h d h1 ρ fp a w hs) ?_)
  intro e a' w' ho
  cases e with
  | normal => exact ho
  | exit i' =>
   obtain ⟨s', ρ', fp', q1, q2⟩ := ho
   simp only [qake] at q1
   simp only [Exit.inBlock]
   split
   ·rename_i e; rw [if_pos e] at q1; exact ⟨s', ρ', fp', q1, q2⟩
   ·rename_i e; rw [if_neg e] at q1; exact ⟨s', ρ', fp', q1, q2⟩
  | ret => exact ho
  | goto l => exact ho.elim
  | panic c => exact ho.elim
  | outgrown => exact ho.elim
 case region => exact absurd ⟨_, _, _, rfl⟩ hreg
def SSt.keep (s : SSt) (live : List Nat) : SSt := ⟨live.map fun t => (t, gets s.sl t), s.hp, s.nx⟩
theorem qbfc (sl : Sl) (live : List Nat) (t : Nat) : gets (live.map fun t => (t, gets sl t)) t = if t ∈ live then gets sl t else .any := by
 induction live with
 | nil => rfl
 | cons u l ih =>
  simp only [List.map_cons, gets, ih, List.mem_cons]
  by_cases e : u = t
  ·simp [e]
  ·simp [e, Ne.symm e]
theorem qbhd (live : List Nat) : Wk X s (s.keep live) := fun ρ fp a w h => ⟨ρ, fp, ⟨h.sim.h, h.sim.tmps, h.sim.defers, fun t => by
 show RepV w _ ρ (gets (live.map fun t => (t, gets s.sl t)) t) _
 rw [qbfc]
 split
 ·exact h.sim.slots t
 ·exact .any⟩, h.fresh, h.le⟩
theorem qaac {ops : List SOper} {live : List Nat} (h : SOps X.P ops s [] fun s' _ => Q .normal (s'.keep live)) : SWp X (.reg false ops live) Q s := fun code hc ρ fp a w hs => by
 by_cases hreg : ∃ id o d, code = .region id o d
 ·obtain ⟨id, o, d, rfl⟩ := hreg
  obtain ⟨l, e, h1, _⟩ := qacy hc
  simp only [SCode.erase, SCode.reg.injEq, and_true] at e
  obtain ⟨rfl, rfl⟩ := e
  refine wp_region_list ?_
  refine sops_ok (Q := fun s' _ => Q .normal (s'.keep live)) ?_ _ _ _ h1 s [] ρ fp a w h hs
  intro s' tr ρ' fp' a' w' hq h'
  obtain ⟨ρ2, fp2, h2⟩ := qbhd live ρ' fp' a' w' h'
  exact ⟨_, ρ2, fp2, hq, h2⟩
 ·cases code <;> (try simp only [comp, SCode.erase, Option.bind_eq_bind, Option.bind_eq_some_iff, Option.some.injEq, reduceCtorEq, and_false, exists_false, exists_const] at hc)
  case region => exact absurd ⟨_, _, _, rfl⟩ hreg
theorem qa6e {p : Nat → Prop} (h : ∃ n, p n) : ∃ n, p n ∧ ∀ m, p m → n ≤ m := by
 obtain ⟨n, hn⟩ := h
 induction n using Nat.strongRecOn with
 | ind n ih =>
  by_cases h : ∃ m, m < n ∧ p m
  ·obtain ⟨m, h1, h2⟩ := h; exact ih m h1 h2
  ·exact ⟨n, hn, fun m hm => Nat.le_of_not_lt fun hl => h ⟨m, hl, hm⟩⟩
def qbk4 (X : Cx) (I : SSt → Nat → Prop) (n : Nat) (Q : SExit → SSt → Prop) : SExit → SSt → Prop
 | .normal, s => ∃ s' m, Wk X s s' ∧ I s' m ∧ m < n
 | e, s => Q e s
theorem qank {c : SCode} (I : SSt → Nat → Prop) {n : Nat} {s0 : SSt} (hw : Wk X s s0) (h0 : I s0 n) (h : ∀ s n, I s n → SWp X c (qbk4 X I n Q) s) : SWp X (.loop c) Q s := fun code hc ρ fp a w hs => by
 by_cases hreg : ∃ id o d, code = .region id o d
 ·obtain ⟨_, _, _, rfl⟩ := hreg
  obtain ⟨_, e, _⟩ := qacy hc
  simp [SCode.erase] at e
 cases code <;> (try simp only [comp, SCode.erase, Option.bind_eq_bind, Option.bind_eq_some_iff, Option.some.injEq, reduceCtorEq, and_false, exists_false, exists_const, SCode.loop.injEq] at hc)
 case loop d =>
  obtain ⟨d', h1, rfl⟩ := hc
  obtain ⟨ρ0, fp0, hs0⟩ := hw ρ fp a w hs
  let p : Act → World → Nat → Prop := fun a w n => ∃ s ρ fp, I s n ∧ SimF X ρ fp s a w
  have hmin : ∀ a w, ∃ n, (∃ m, p a w m) → (p a w n ∧ ∀ m, p a w m → n ≤ m) := fun a w => by
   by_cases h : ∃ m, p a w m
   ·obtain ⟨n, hn⟩ := qa6e h; exact ⟨n, fun _ => hn⟩
   ·exact ⟨0, fun h' => absurd h' h⟩
  have hch := fun a => Classical.axiomOfChoice (hmin a)
  obtain ⟨μ, hμ⟩ := Classical.axiomOfChoice hch
  refine wp_loop (fun a w => ∃ n, p a w n) μ ⟨n, s0, ρ0, fp0, h0, hs0⟩ ?_
  intro a w hI
  obtain ⟨⟨s1, ρ1, fp1, q1, q2⟩, q3⟩ := hμ a w hI
  refine wp_mono (h s1 _ q1 d h1 ρ1 fp1 a w q2) ?_
  intro e a' w' ho
  cases e with
  | normal =>
   obtain ⟨s', ρ', fp', ⟨s2, m, r1, r2, r3⟩, r4⟩ := ho
   obtain ⟨ρ2, fp2, r5⟩ := r1 ρ' fp' a' w' r4
   have hp : p a' w' m := ⟨s2, ρ2, fp2, r2, r5⟩
   exact ⟨⟨m, hp⟩, Nat.lt_of_le_of_lt ((hμ a' w' ⟨m, hp⟩).2 m hp) r3⟩
  | exit id => exact ho
  | ret => exact ho
  | goto l => exact ho.elim
  | panic c => exact ho.elim
  | outgrown => exact ho.elim
 case region => exact absurd ⟨_, _, _, rfl⟩ hreg
end Go.Proofs.YteoijlmgiemffaaGreat
namespace Go.Proofs.YteoijlmgiemffaaGreat
set_option linter.all false
open Go.RowKit
def renB (σ : Nat → Nat) : SV → SV
 | .ptr id o => .ptr (σ id) o
 | .eptr id z i j => .eptr (σ id) z i j
 | .own id n => .own (σ id) n
 | .owno id z i n => .owno (σ id) z i n
 | .agg _ | .tup _ | .fn _ _ _ | .ifc _ _ => .bot
 | x => x
def renA (σ : Nat → Nat) : SV → SV
 | .agg cs => .agg (cs.map (renB σ))
 | x => renB σ x
def ren0 (σ : Nat → Nat) : SV → SV
 | .ifc t x => .ifc t (renA σ x)
 | .ptr id o => .ptr (σ id) o
 | .eptr id z i j => .eptr (σ id) z i j
 | .own id n => .own (σ id) n
 | .owno id z i n => .owno (σ id) z i n
 | .agg _ | .tup _ => .bot
 | .fn f [] [] => .fn f [] []
 | .fn _ _ _ => .bot
 | x => x
def ren1 (σ : Nat → Nat) : SV → SV
 | .agg cs => .agg (cs.map (ren0 σ))
 | .fn f gs bs => .fn f (gs.map (ren0 σ)) (bs.map (ren0 σ))
 | x => ren0 σ x
def ren (σ : Nat → Nat) : SV → SV
 | .tup cs => .tup (cs.map (ren1 σ))
 | .agg cs => .agg (cs.map (ren1 σ))
 | x => ren1 σ x
variable {w : World} {A : Nat → Prop} {ρ : qacu} {σ : Nat → Nat}
theorem RepV.view_any {ρ' : qacu} {size : Nat} {es : List (List SV)} {v : Value} (h : RepV w A ρ (.view size es) v) : RepV w A ρ' (.view size es) v := by
 cases h with
 | view0 hc ha => exact .view0 hc ha
 | view cv hn hc hm hA hb hz h1 h2 ho => exact .view cv hn hc hm hA hb hz h1 h2 ho
theorem RepV.cp_any {ρ' : qacu} {cs : List SV} {v : Value} (h : RepV w A ρ (.cp cs) v) : RepV w A ρ' (.cp cs) v := by
 cases h with
 | cp cv hA hb h1 h2 ho => exact .cp cv hA hb h1 h2 ho
theorem qass {x : SV} {v : Value} (h : RepV w A ρ (renB σ x) v) : RepV w A (fun id => ρ (σ id)) x v := by
 cases x with
 | any => exact .any
 | bool b => change RepV w A ρ (.bool b) v at h; cases h; exact .bool
 | int k n => change RepV w A ρ (.int k n) v at h; cases h; exact .int
 | str t => change RepV w A ρ (.str t) v at h; cases h; exact .str
 | nil => change RepV w A ρ .nil v at h; cases h; exact .nil
 | nilsl => change RepV w A ρ .nilsl v at h; cases h; exact .nilsl
 | nilfn => change RepV w A ρ .nilfn v at h; cases h; exact .nilfn
 | niliface => change RepV w A ρ .niliface v at h; cases h; exact .niliface
 | mt => change RepV w A ρ .mt v at h; cases h with | mt hc => exact .mt hc
 | view z es => exact RepV.view_any h
 | cp cs => exact RepV.cp_any h
 | ptr id o => change RepV w A ρ (.ptr (σ id) o) v at h; cases h with | ptr h => exact .ptr h
 | eptr id z i j => change RepV w A ρ (.eptr (σ id) z i j) v at h; cases h with | eptr h => exact .eptr h
 | own id n =>
  change RepV w A ρ (.own (σ id) n) v at h
  cases h with
  | own0 h => exact .own0 h
  | own h h2 h3 => exact .own h h2 h3
 | owno id z i n => change RepV w A ρ (.owno (σ id) z i n) v at h; cases h with | owno h h2 h3 => exact .owno h h2 h3
 | agg cs => change RepV w A ρ .bot v at h; cases h
 | tup cs => change RepV w A ρ .bot v at h; cases h
 | bot => change RepV w A ρ .bot v at h; cases h
 | fn f a b => change RepV w A ρ .bot v at h; cases h
 | ifc t x => change RepV w A ρ .bot v at h; cases h
theorem qbeq {x : SV} {v : Value} (h : RepV w A ρ (renA σ x) v) : RepV w A (fun id => ρ (σ id)) x v := by
 cases x with
 | agg cs =>
  change RepV w A ρ (.agg (cs.map (renB σ))) v at h
  cases h with
  | agg ho hl hh =>
   refine .agg ho (by simpa using hl) fun j x v hx hv => qass (hh j (renB σ x) v ?_ hv)
   rw [List.getElem?_map, hx]; rfl
 | _ => exact qass h
theorem qahd {x : SV} {v : Value} (h : RepV w A ρ (ren0 σ x) v) : RepV w A (fun id => ρ (σ id)) x v := by
 cases x with
 | any => exact .any
 | bool b => change RepV w A ρ (.bool b) v at h; cases h; exact .bool
 | int k n => change RepV w A ρ (.int k n) v at h; cases h; exact .int
 | str t => change RepV w A ρ (.str t) v at h; cases h; exact .str
 | nil => change RepV w A ρ .nil v at h; cases h; exact .nil
 | nilsl => change RepV w A ρ .nilsl v at h; cases h; exact .nilsl
 | nilfn => change RepV w A ρ .nilfn v at h; cases h; exact .nilfn
 | niliface => change RepV w A ρ .niliface v at h; cases h; exact .niliface
 | ifc t x => change RepV w A ρ (.ifc t (renA σ x)) v at h; cases h with | ifc h => exact .ifc (qbeq h)
 | mt => change RepV w A ρ .mt v at h; cases h with | mt hc => exact .mt hc
 | view z es => exact RepV.view_any h
 | cp cs => exact RepV.cp_any h
 | ptr id o => change RepV w A ρ (.ptr (σ id) o) v at h; cases h with | ptr h => exact .ptr h
 | eptr id z i j => change RepV w A ρ (.eptr (σ id) z i j) v at h; cases h with | eptr h => exact .eptr h
 | own id n =>
  change RepV w A ρ (.own (σ id) n) v at h
  cases h with
  | own0 h => exact .own0 h
  | own h h2 h3 => exact .own h h2 h3
 | owno id z i n => change RepV w A ρ (.owno (σ id) z i n) v at h; cases h with | owno h h2 h3 => exact .owno h h2 h3
 | agg cs => change RepV w A ρ .bot v at h; cases h
 | tup cs => change RepV w A ρ .bot v at h; cases h
 | bot => change RepV w A ρ .bot v at h; cases h
 | fn f a b =>
  cases a with
  | nil =>
   cases b with
   | nil =>
    change RepV w A ρ (.fn f [] []) v at h
    cases h with
    | fn l1 l2 r1 r2 => exact .fn l1 l2 (by simp) (by simp)
   | cons y b => change RepV w A ρ .bot v at h; cases h
  | cons y a => change RepV w A ρ .bot v at h; cases h
theorem qafe {f : SV → SV} {g : qacu} (hf : ∀ {x v}, RepV w A ρ (f x) v → RepV w A g x v) {cs : List SV} {vs : List Value} (h : ∀ (j : Nat) x v, (cs.map f)[j]? = some x → vs[j]? = some v → RepV w A ρ x v) : ∀ (j : Nat) x v, cs[j]? = some x → vs[j]? = some v → RepV w A g x v := fun j x v hx hv => by
 refine hf (h j (f x) v ?_ hv)
 rw [List.getElem?_map, hx]; rfl
theorem qajs {x : SV} {v : Value} (h : RepV w A ρ (ren1 σ x) v) : RepV w A (fun id => ρ (σ id)) x v := by
 cases x with
 | agg cs =>
  change RepV w A ρ (.agg (cs.map (ren0 σ))) v at h
  cases h with
  | agg ho hl hh => exact .agg ho (by simpa using hl) (qafe qahd hh)
 | fn f a b =>
  change RepV w A ρ (.fn f (a.map (ren0 σ)) (b.map (ren0 σ))) v at h
  cases h with
  | fn l1 l2 r1 r2 => exact .fn (by simpa using l1) (by simpa using l2) (qafe qahd r1) (qafe qahd r2)
 | _ => exact qahd h
theorem qann {x : SV} {v : Value} (h : RepV w A ρ (ren σ x) v) : RepV w A (fun id => ρ (σ id)) x v := by
 cases x with
 | agg cs =>
  change RepV w A ρ (.agg (cs.map (ren1 σ))) v at h
  cases h with
  | agg ho hl hh => exact .agg ho (by simpa using hl) (qafe qajs hh)
 | tup cs =>
  change RepV w A ρ (.tup (cs.map (ren1 σ))) v at h
  cases h with
  | tup hl hh => exact .tup (by simpa using hl) (qafe qajs hh)
 | _ => exact qajs h
theorem qae3 {xs : List SV} {vs : List Value} (h : Reps w A ρ (xs.map (ren σ)) vs) : Reps w A (fun id => ρ (σ id)) xs vs := ⟨by simpa using h.1, qafe qann h.2⟩
def Co (x y : SV) : Prop := ∀ w A ρ v, RepV w A ρ x v → RepV w A ρ y v
theorem Co.refl (x : SV) : Co x x := fun _ _ _ _ h => h
theorem Co.any (x : SV) : Co x .any := fun _ _ _ _ _ => .any
theorem Co.nilsl (z : Nat) : Co .nilsl (.view z []) := fun _ _ _ _ h => by cases h; exact .view0 (by simp [maxLen]) (fun _ => rfl)
def CoL : List SV → List SV → Prop
 | [], [] => True
 | x :: xs, y :: ys => Co x y ∧ CoL xs ys
 | _, _ => False
theorem CoL.refl : ∀ xs, CoL xs xs
 | [] => trivial
 | x :: xs => ⟨.refl x, CoL.refl xs⟩
theorem CoL.length : ∀ {xs ys}, CoL xs ys → xs.length = ys.length
 | [], [], _ => rfl
 | x :: xs, y :: ys, h => by rw [List.length_cons, List.length_cons, CoL.length h.2]
 | [], _ :: _, h => h.elim
 | _ :: _, [], h => h.elim
theorem CoL.reps : ∀ {xs ys : List SV} {vs : List Value}, CoL xs ys → Reps w A ρ xs vs → Reps w A ρ ys vs
 | [], [], _, _, h => h
 | x :: xs, y :: ys, vs, h, hr => by
  obtain ⟨v, us, rfl, h1, h2⟩ := hr.cons_inv
  exact Reps.cons (h.1 _ _ _ _ h1) (CoL.reps h.2 h2)
 | [], _ :: _, _, h, _ => h.elim
 | _ :: _, [], _, h, _ => h.elim
theorem CoL.append : ∀ {xs ys us vs : List SV}, CoL xs ys → CoL us vs → CoL (xs ++ us) (ys ++ vs)
 | [], [], _, _, _, h => h
 | x :: xs, y :: ys, _, _, h, g => ⟨h.1, CoL.append h.2 g⟩
 | [], _ :: _, _, _, h, _ => h.elim
 | _ :: _, [], _, _, h, _ => h.elim
theorem Co.agg {xs ys : List SV} (h : CoL xs ys) : Co (.agg xs) (.agg ys) := fun w A ρ v hv => by
 cases hv with
 | agg ho hl hh => have := h.reps ⟨hl, hh⟩; exact .agg ho this.1 this.2
theorem Co.tup {xs ys : List SV} (h : CoL xs ys) : Co (.tup xs) (.tup ys) := fun w A ρ v hv => by
 cases hv with
 | tup hl hh => have := h.reps ⟨hl, hh⟩; exact .tup this.1 this.2
def CoLL : List (List SV) → List (List SV) → Prop
 | [], [] => True
 | x :: xs, y :: ys => CoL x y ∧ CoLL xs ys
 | _, _ => False
theorem CoLL.refl : ∀ xs, CoLL xs xs
 | [] => trivial
 | x :: xs => ⟨.refl x, CoLL.refl xs⟩
theorem CoLL.append : ∀ {xs ys us vs : List (List SV)}, CoLL xs ys → CoLL us vs → CoLL (xs ++ us) (ys ++ vs)
 | [], [], _, _, _, h => h
 | x :: xs, y :: ys, _, _, h, g => ⟨h.1, CoLL.append h.2 g⟩
 | [], _ :: _, _, _, h, _ => h.elim
 | _ :: _, [], _, _, h, _ => h.elim
theorem CoLL.length : ∀ {xs ys}, CoLL xs ys → xs.length = ys.length
 | [], [], _ => rfl
 | x :: xs, y :: ys, h => by rw [List.length_cons, List.length_cons, CoLL.length h.2]
 | [], _ :: _, h => h.elim
 | _ :: _, [], h => h.elim
theorem CoLL.flat : ∀ {xs ys}, CoLL xs ys → CoL xs.flatten ys.flatten
 | [], [], _ => trivial
 | x :: xs, y :: ys, h => by rw [List.flatten_cons, List.flatten_cons]; exact h.1.append (CoLL.flat h.2)
 | [], _ :: _, h => h.elim
 | _ :: _, [], h => h.elim
theorem CoLL.sizes {z : Nat} : ∀ {xs ys}, CoLL xs ys → (∀ x ∈ xs, x.length = z) → ∀ y ∈ ys, y.length = z
 | [], [], _, _, y, hy => by cases hy
 | x :: xs, y :: ys, h, hz, u, hu => by
  rcases List.mem_cons.1 hu with e | e
  ·rw [e, ← h.1.length]; exact hz x (by simp)
  ·exact CoLL.sizes h.2 (fun x hx => hz x (by simp [hx])) u e
 | [], _ :: _, h, _, _, _ => h.elim
 | _ :: _, [], h, _, _, _ => h.elim
def ObjM (σ : Nat → Nat) : SObj → SObj → Prop
 | .cells t cs, .cells t' ds => t = t' ∧ CoL cs (ds.map (ren σ))
 | .row e z es, .row e' z' fs => e = e' ∧ z = z' ∧ CoLL es (fs.map (·.map (ren σ)))
 | .abs I, .abs I' => I = I'
 | _, _ => False
theorem ObjM.back {o o' : SObj} (h : ObjM σ o o') {id : Nat} {F : Nat → Prop} (hr : ObjRep w A ρ (σ id) F o) : ObjRep w A (fun id => ρ (σ id)) id F o' := by
 cases o with
 | cells t cs =>
  cases o' with
  | cells t' ds =>
   obtain ⟨rfl, hco⟩ := h
   obtain ⟨b, c, vs, h1, h2, ⟨h3, h4⟩, h5⟩ := hr
   exact ⟨b, c, vs, h1, h2, ⟨qae3 (hco.reps h3), h4⟩, h5⟩
  | row => exact h.elim
  | abs => exact h.elim
 | row e z es =>
  cases o' with
  | row e' z' fs =>
   obtain ⟨rfl, rfl, hco⟩ := h
   obtain ⟨v, vs, h1, ⟨h2, h3⟩, h4, h5, h6⟩ := hr
   have hl : es.length = fs.length := by have := hco.length; simpa using this
   refine ⟨v, vs, by rw [← hl]; exact h1, ⟨?_, h3⟩, fun x hx => ?_, h5, h6⟩
   ·have h7 := hco.flat.reps h2
    rw [← List.map_flatten] at h7
    exact qae3 h7
   ·have := hco.sizes h4 (x.map (ren σ)) (List.mem_map.2 ⟨x, hx, rfl⟩)
    simpa using this
  | cells => exact h.elim
  | abs => exact h.elim
 | abs I =>
  cases o' with
  | abs I' => obtain rfl := h; exact hr
  | cells => exact h.elim
  | row => exact h.elim
def SlotsM (σ : Nat → Nat) (sl : Sl) : Sl → Prop
 | [] => True
 | (t, v) :: r => Co (gets sl t) (ren σ v) ∧ SlotsM σ sl r
def ObjsM (σ : Nat → Nat) (hp : Hp) : Hp → Prop
 | [] => True
 | (i, o') :: r => (∃ o, geth hp (σ i) = some o ∧ ObjM σ o o') ∧ ObjsM σ hp r
theorem SlotsM.get {sl : Sl} : ∀ {l : Sl}, SlotsM σ sl l → ∀ t, gets l t = .any ∨ Co (gets sl t) (ren σ (gets l t))
 | [], _, t => .inl rfl
 | (u, v) :: r, h, t => by
  simp only [gets]
  split
  ·rename_i e; subst e; exact .inr h.1
  ·exact SlotsM.get h.2 t
theorem ObjsM.get {hp : Hp} : ∀ {l : Hp}, ObjsM σ hp l → ∀ id o', geth l id = some o' → ∃ o, geth hp (σ id) = some o ∧ ObjM σ o o'
 | [], _, id, o', h => by cases h
 | (i, x) :: r, h, id, o', hg => by
  simp only [geth] at hg
  split at hg
  ·rename_i e; subst e; cases hg; exact h.1
  ·exact ObjsM.get h.2 id o' hg
def rn : List (Nat × Nat) → Nat → Nat → Nat
 | [], U, id => U + id
 | (i, j) :: D, U, id => if i = id then j else rn D U id
variable {X : Cx} {s s' : SSt}
theorem wk_ren (σ : Nat → Nat) (hm : ∀ id, id < X.m → σ id = id) (hsl : SlotsM σ s.sl s'.sl) (hhp : ObjsM σ s.hp s'.hp) (hinj : ∀ id id', geth s'.hp id ≠ none → geth s'.hp id' ≠ none → σ id = σ id' → id = id') (hfr : ∀ id, s'.nx ≤ id → s.nx ≤ σ id) (hle : X.m ≤ s'.nx) : Wk X s s' := by
 intro ρ fp a w h
 have hav : ∀ k, Av X s'.hp (fun id => fp (σ id)) k → Av X s.hp fp k := by
  rintro k (hO | ⟨id, o', ho, hk⟩)
  ·exact .inl hO
  ·obtain ⟨o, h1, _⟩ := hhp.get id o' ho
   exact .inr ⟨σ id, o, h1, hk⟩
 refine ⟨fun id => ρ (σ id), fun id => fp (σ id), ⟨⟨fun id o' ho => ?_, fun id id' o o' hne ho ho' k hk => ?_, fun id o ho k hk => ?_, h.sim.h.step, fun id hid => ?_⟩, h.sim.tmps, h.sim.defers, fun t => ?_⟩, fun id hid => h.fresh _ (hfr id hid), hle⟩
 ·obtain ⟨o, h1, h2⟩ := hhp.get id o' ho
  exact (h2.back (h.sim.h.objs _ _ h1)).weaken fun k hk _ => hav k hk
 ·obtain ⟨x, h1, _⟩ := hhp.get id o ho
  obtain ⟨y, h2, _⟩ := hhp.get id' o' ho'
  exact h.sim.h.disj _ _ x y (fun e => hne (hinj id id' (by rw [ho]; simp) (by rw [ho']; simp) e)) h1 h2 k hk
 ·obtain ⟨x, h1, _⟩ := hhp.get id o ho
  exact h.sim.h.turn _ x h1 k hk
 ·show ρ (σ id) = _
  rw [hm id hid]; exact h.sim.h.keep id hid
 ·rcases hsl.get t with h1 | h1
  ·rw [h1]; exact .any
  ·exact (qann (h1 _ _ _ _ (h.sim.slots t))).weaken fun k hk _ => hav k hk
theorem qa5a {U n : Nat} : ∀ (D : List (Nat × Nat)), (D.all fun p => decide (p.1 < n)) = true → ∀ id, n ≤ id → rn D U id = U + id
 | [], _, id, _ => rfl
 | (i, j) :: D, h, id, hid => by
  simp only [List.all_cons, Bool.and_eq_true, decide_eq_true_eq] at h
  rw [rn, if_neg (by omega)]
  exact qa5a D h.2 id hid
def qabz (m n : Nat) (D : List (Nat × Nat)) (hp' : Hp) : Bool :=
 (D.all fun p => decide (p.1 < n)) && ((List.range m).all fun i => rn D 0 i == i && D.any fun p => p.1 == i) && ((idsH hp').all fun i => D.any fun p => p.1 == i) && decide (((D.filter fun p => (idsH hp').contains p.1).map (·.2)).Nodup)
end Go.Proofs.YteoijlmgiemffaaGreat
namespace Go.Proofs.YteoijlmgiemffaaGreat
set_option linter.all false
open Go.RowKit
variable {w : World} {A : Nat → Prop} {ρ : qacu} {σ : Nat → Nat} {X : Cx} {s s' : SSt}
theorem qbeo {U : Nat} : ∀ (D : List (Nat × Nat)) (id : Nat), (D.any fun p => p.1 == id) = true → rn D U id = rn D 0 id ∧ (id, rn D 0 id) ∈ D
 | [], id, h => by simp at h
 | (i, j) :: D, id, h => by
  by_cases e : i = id
  ·subst e; simp [rn]
  ·simp only [List.any_cons, Bool.or_eq_true, beq_iff_eq, e, false_or] at h
   obtain ⟨h1, h2⟩ := qbeo (U := U) D id h
   simp only [rn, if_neg e]
   exact ⟨h1, List.mem_cons_of_mem _ h2⟩
theorem qbey {D : List (Nat × Nat)} (h : (D.map (·.2)).Nodup) {a b c : Nat} (h1 : (a, c) ∈ D) (h2 : (b, c) ∈ D) : a = b := by
 induction D with
 | nil => cases h1
 | cons p D ih =>
  rw [List.map_cons, List.nodup_cons] at h
  rcases List.mem_cons.1 h1 with e1 | e1
  ·rcases List.mem_cons.1 h2 with e2 | e2
   ·exact (Prod.mk.inj (e1.trans e2.symm)).1
   ·exact absurd (List.mem_map.2 ⟨_, e2, by rw [← e1]⟩) h.1
  ·rcases List.mem_cons.1 h2 with e2 | e2
   ·exact absurd (List.mem_map.2 ⟨_, e1, by rw [← e2]⟩) h.1
   ·exact ih h.2 e1 e2
theorem qaeq : ∀ {hp : Hp} {id : Nat}, geth hp id ≠ none → id ∈ idsH hp
 | [], id, h => absurd rfl h
 | (i, o) :: r, id, h => by
  by_cases e : i = id
  ·subst e; simp [idsH]
  ·simp only [geth, if_neg e] at h
   exact List.mem_cons_of_mem _ (qaeq h)
theorem qaeu (D : List (Nat × Nat)) {m : Nat} (hm : X.m = m) (hok : qabz m s'.nx D s'.hp = true) (hle : m ≤ s'.nx) (hsl : SlotsM (rn D s.nx) s.sl s'.sl) (hhp : ObjsM (rn D s.nx) s.hp s'.hp) : Wk X s s' := by
 simp only [qabz, Bool.and_eq_true, decide_eq_true_eq] at hok
 obtain ⟨⟨⟨h1, h2⟩, h3⟩, h4⟩ := hok
 refine wk_ren (rn D s.nx) (fun id hid => ?_) hsl hhp (fun id id' ho ho' e => ?_) (fun id hid => ?_) (by omega)
 ·rw [hm] at hid
  have := List.all_eq_true.1 h2 id (List.mem_range.2 hid)
  simp only [Bool.and_eq_true, beq_iff_eq] at this
  rw [(qbeo D id this.2).1]; exact this.1
 ·have a1 := List.all_eq_true.1 h3 id (qaeq ho)
  have a2 := List.all_eq_true.1 h3 id' (qaeq ho')
  obtain ⟨b1, b2⟩ := qbeo (U := s.nx) D id a1
  obtain ⟨c1, c2⟩ := qbeo (U := s.nx) D id' a2
  rw [b1, c1] at e
  rw [e] at b2
  have m1 : (id, rn D 0 id') ∈ D.filter fun p => (idsH s'.hp).contains p.1 := List.mem_filter.2 ⟨b2, by simpa using qaeq ho⟩
  have m2 : (id', rn D 0 id') ∈ D.filter fun p => (idsH s'.hp).contains p.1 := List.mem_filter.2 ⟨c2, by simpa using qaeq ho'⟩
  exact qbey h4 m1 m2
 ·rw [qa5a D h1 id hid]; omega
theorem qbie (t e size : Nat) (h : gets s.sl t = .nilsl) : Wk X s ⟨puts s.sl t (.own s.nx 0), puth s.hp s.nx (.row e size []), s.nx + 1⟩ := by
 intro ρ fp a w hs
 obtain ⟨ρ', fp', h1, h2, h3, h4⟩ := hs.sim.h.add (w' := w) hs.le (hs.fresh _ (Nat.le_refl _)) (.row e size []) none (fun _ => False) (Below.refl _ _) (fun _ h => h.elim) fun A' ρ' hp' hpl => ⟨.slice none 0 0, [], World.ownsRow_nil _ _ _ _, ⟨Reps.nil, fun v hv => by cases hv⟩, (fun x hx => by cases hx), hpl, fun k => by simp [Value.ownBlock]⟩
 refine ⟨ρ', fp', ⟨h1, hs.sim.tmps, hs.sim.defers, fun u => ?_⟩, fun id hid => ?_, by have := hs.le; simp only; omega⟩
 ·show RepV w _ ρ' (gets (puts s.sl t (.own s.nx 0)) u) _
  rw [qahe]
  have := hs.sim.slots u
  split
  ·rename_i e; subst e
   rw [h] at this
   generalize a.tmps.getD u undef = v at this
   cases this
   exact .own0 h3
  ·exact h2.rep this
 ·cases e : ρ' id with
  | none => rfl
  | some p =>
   simp only at hid
   rcases h4 id (by rw [e]; simp) with h5 | h5
   ·exact absurd (hs.fresh id (by omega)) h5
   ·omega
def qana (x : SV) : Prop := ∀ w A ρ v, RepV w A ρ x v → RepV w A noPl x v
theorem qa5k (k : IntKind) (n : Int) : qana (.int k n) := fun w A ρ v h => by cases h; exact .int
theorem qasv (b : Bool) : qana (.bool b) := fun w A ρ v h => by cases h; exact .bool
theorem qa5i (t : ByteArray) : qana (.str t) := fun w A ρ v h => by cases h; exact .str
theorem qa5j : qana .nil := fun w A ρ v h => by cases h; exact .nil
theorem qakn : qana .nilsl := fun w A ρ v h => by cases h; exact .nilsl
theorem qasu (z : Nat) (es : List (List SV)) : qana (.view z es) := fun w A ρ v h => h.view_any
theorem qbhq (cs : List SV) : qana (.cp cs) := fun w A ρ v h => h.cp_any
def qanb (cs : List SV) : Prop := ∀ x ∈ cs, qana x
theorem qbes : qanb [] := fun x hx => by cases hx
theorem qa5l {x : SV} {cs : List SV} (h : qana x) (hs : qanb cs) : qanb (x :: cs) := fun y hy => by
 rcases List.mem_cons.1 hy with e | e
 ·rw [e]; exact h
 ·exact hs y e
def qblg : SObj → Prop
 | .cells _ cs => qanb cs
 | .row _ _ es => ∀ e ∈ es, qanb e
 | .abs _ => False
def frz0 (g : Nat → Option SObj) (D : List Nat) : SV → SV
 | .own id n => if D.contains id then (match g id with
  | some (.row _ z es) => if n ≤ es.length then .view z (es.take n) else .own id n
  | _ => .own id n) else .own id n
 | .owno id z i n => if D.contains id then (match g id with
  | some (.row _ z' es) => if z = z' ∧ i + n ≤ es.length then .view z ((es.drop i).take n) else .owno id z i n
  | _ => .owno id z i n) else .owno id z i n
 | .ptr id off => if D.contains id then (match g id with
  | some (.cells _ cs) => .cp (cs.drop off)
  | _ => .ptr id off) else .ptr id off
 | x => x
def frz1 (g : Nat → Option SObj) (D : List Nat) : SV → SV
 | .agg cs => .agg (cs.map (frz0 g D))
 | .tup cs => .tup (cs.map (frz0 g D))
 | x => frz0 g D x
def frz (g : Nat → Option SObj) (D : List Nat) : SV → SV
 | .tup cs => .tup (cs.map (frz1 g D))
 | x => frz1 g D x
def frzH (g : Nat → Option SObj) (D : List Nat) : Hp → Hp
 | [] => []
 | (i, o) :: r => if D.contains i then frzH g D r else (i, match o with
  | .cells t cs => .cells t (cs.map (frz0 g D))
  | .row e z es => .row e z (es.map (·.map (frz0 g D)))
  | .abs I => .abs I) :: frzH g D r
def frzS (g : Nat → Option SObj) (D : List Nat) : Sl → Sl
 | [] => []
 | (t, v) :: r => (t, frz g D v) :: frzS g D r
def SSt.frz (s : SSt) (D : List Nat) : SSt := ⟨frzS (geth s.hp) D s.sl, frzH (geth s.hp) D s.hp, s.nx⟩
theorem qanz (g : Nat → Option SObj) (D : List Nat) : ∀ (l : Sl) (t : Nat), gets (frzS g D l) t = Go.Proofs.YteoijlmgiemffaaGreat.frz g D (gets l t)
 | [], t => rfl
 | (u, v) :: r, t => by
  simp only [frzS, gets]
  split
  ·rfl
  ·exact qanz g D r t
theorem qan1 (g : Nat → Option SObj) (D : List Nat) : ∀ (h : Hp) (i : Nat), geth (frzH g D h) i = if D.contains i then none else (geth h i).map fun o => match o with
  | .cells t cs => .cells t (cs.map (frz0 g D))
  | .row e z es => .row e z (es.map (·.map (frz0 g D)))
  | .abs I => .abs I
 | [], i => by simp [frzH, geth]
 | (j, o) :: r, i => by
  simp only [frzH]
  split
  ·rename_i hj
   rw [qan1 g D r]
   split
   ·rfl
   ·rename_i hi
    have : j ≠ i := fun e => hi (e ▸ hj)
    simp [geth, this]
  ·rename_i hj
   by_cases e : j = i
   ·subst e; simp only [geth, if_pos, hj]; rfl
   ·simp only [geth, if_neg e]; exact qan1 g D r i
theorem qakr {ρ' : qacu} {A' : Nat → Prop} {f : SV → SV} (hf : ∀ {x v}, RepV w A ρ x v → RepV w A' ρ' (f x) v) {cs : List SV} {vs : List Value} (h : ∀ (j : Nat) x v, cs[j]? = some x → vs[j]? = some v → RepV w A ρ x v) : ∀ (j : Nat) x v, (cs.map f)[j]? = some x → vs[j]? = some v → RepV w A' ρ' x v := fun j x v hx hv => by
 rw [List.getElem?_map, Option.map_eq_some_iff] at hx
 obtain ⟨y, hy, rfl⟩ := hx
 exact hf (h j y v hy hv)
theorem wk_frz (D : List Nat) (hp : ∀ id o, D.contains id = true → geth s.hp id = some o → qblg o) : Wk X s (s.frz D) := by
 intro ρ fp a w h
 have hg' : ∀ id o', geth (frzH (geth s.hp) D s.hp) id = some o' → D.contains id = false ∧ ∃ o, geth s.hp id = some o ∧ o' = (match o with
  | .cells t cs => .cells t (cs.map (frz0 (geth s.hp) D))
  | .row e z es => .row e z (es.map (·.map (frz0 (geth s.hp) D)))
  | .abs I => .abs I) := fun id o' ho => by
  rw [qan1] at ho
  split at ho
  ·cases ho
  ·rename_i hc
   rw [Option.map_eq_some_iff] at ho
   obtain ⟨o, h1, h2⟩ := ho
   exact ⟨by simpa using hc, o, h1, h2.symm⟩
 have hav : ∀ k, Av X (frzH (geth s.hp) D s.hp) fp k → Av X s.hp fp k := by
  rintro k (hO | ⟨id, o', ho, hk⟩)
  ·exact .inl hO
  ·obtain ⟨_, o, h1, _⟩ := hg' id o' ho
   exact .inr ⟨id, o, h1, hk⟩
 have hfree : ∀ id o k, D.contains id = true → geth s.hp id = some o → fp id k → ¬ Av X (frzH (geth s.hp) D s.hp) fp k := by
  rintro id o k hc ho hk (hO | ⟨id', o', ho', hk'⟩)
  ·rcases (h.sim.h.turn id o ho k hk).1 with h1 | h1
   ·exact X.O_M k hO h1
   ·exact absurd (X.O_lt k hO) (Nat.not_lt_of_le h1)
  ·obtain ⟨h1, o2, h2, _⟩ := hg' id' o' ho'
   have hne : id ≠ id' := fun e => by rw [e, h1] at hc; cases hc
   exact h.sim.h.disj id id' o o2 hne ho h2 k hk hk'
 have f0 : ∀ {x v}, RepV w (Av X s.hp fp) ρ x v → RepV w (Av X (frzH (geth s.hp) D s.hp) fp) ρ (frz0 (geth s.hp) D x) v := by
  intro x v hx
  have hx' := hx.weaken (A' := Av X (frzH (geth s.hp) D s.hp) fp) fun k hk _ => hav k hk
  unfold frz0
  split
  ·rename_i id n
   split
   ·rename_i hc
    split
    ·rename_i e z es ho
     split
     ·rename_i hn
      obtain ⟨v0, us, how, ⟨hrep, huo⟩, hzs, hρ', hfp⟩ := h.sim.h.objs id _ ho
      cases hx with
      | own0 hρ => rw [List.take_zero]; exact .view0 (by simp [maxLen]) (fun _ => rfl)
      | own hρ hnc hm =>
       rename_i b c
       rw [hρ] at hρ'
       have hp0 : qad2 v0 = some (b, c) := (Option.some.inj hρ').symm
       obtain ⟨hv0, hcell, hlt, _, _⟩ := qaen how hp0
       have hown : fp id b := (hfp b).2 (by rw [hv0]; rfl)
       have hget : ∀ i e j x, (es.take n)[i]? = some e → e[j]? = some x → es.flatten[i * z + j]? = some x := fun i e j x he hx => by
        rw [List.getElem?_take] at he
        split at he
        ·exact qagp hzs he hx
        ·cases he
       have hval : ∀ i e j x, (es.take n)[i]? = some e → e[j]? = some x → ∃ u, us[i * z + j]? = some u ∧ RepV w (Av X s.hp fp) ρ x u := fun i e j x he hx => hrep.get (hget i e j x he hx)
       refine .view (fun i j => us.getD (i * z + j) undef) (by simp; omega) hnc hm (hfree id _ b hc ho hown) hlt (fun e he => hzs e (List.mem_of_mem_take he)) (fun i e j x he hx => ?_) (fun i e j x he hx => ?_) (fun i e j x he hx => ?_)
       ·obtain ⟨u, h1, h2⟩ := hval i e j x he hx
        rw [Nat.zero_add, List.getD_eq_getElem?_getD, h1]
        exact hcell _ _ h1
       ·obtain ⟨u, h1, h2⟩ := hval i e j x he hx
        rw [List.getD_eq_getElem?_getD, h1]
        have hpe := hp id _ hc ho e (by rw [List.getElem?_take] at he; split at he; exact List.mem_of_getElem? he; cases he) x (List.mem_of_getElem? hx)
        exact (hpe _ _ _ _ h2).weaken fun k hk _ => hav k hk
       ·obtain ⟨u, h1, h2⟩ := hval i e j x he hx
        rw [List.getD_eq_getElem?_getD, h1]
        exact huo u (List.mem_of_getElem? h1)
     ·exact hx'
    ·exact hx'
   ·exact hx'
  ·rename_i id z1 i1 n
   split
   ·rename_i hc
    split
    ·rename_i e z es ho
     split
     ·rename_i hn
      obtain ⟨rfl, hn⟩ := hn
      obtain ⟨v0, us, how, ⟨hrep, huo⟩, hzs, hρ', hfp⟩ := h.sim.h.objs id _ ho
      cases hx with
      | owno hρ hnc hm =>
       rename_i b c
       rw [hρ] at hρ'
       have hp0 : qad2 v0 = some (b, c) := (Option.some.inj hρ').symm
       obtain ⟨hv0, hcell, hlt, _, _⟩ := qaen how hp0
       have hown : fp id b := (hfp b).2 (by rw [hv0]; rfl)
       have hin : ∀ i e, ((es.drop i1).take n)[i]? = some e → es[i1 + i]? = some e := fun i e he => by
        rw [List.getElem?_take] at he
        split at he
        ·rw [List.getElem?_drop] at he; exact he
        ·cases he
       have hval : ∀ i e j x, ((es.drop i1).take n)[i]? = some e → e[j]? = some x → ∃ u, us[(i1 + i) * z1 + j]? = some u ∧ RepV w (Av X s.hp fp) ρ x u := fun i e j x he hx => hrep.get (qagp hzs (hin i e he) hx)
       refine .view (fun i j => us.getD ((i1 + i) * z1 + j) undef) (by simp; omega) (by omega) (by omega) (hfree id _ b hc ho hown) hlt (fun e he => hzs e (List.mem_of_mem_drop (List.mem_of_mem_take he))) (fun i e j x he hx => ?_) (fun i e j x he hx => ?_) (fun i e j x he hx => ?_)
       ·obtain ⟨u, h1, h2⟩ := hval i e j x he hx
        rw [show i1 * z1 + i * z1 + j = (i1 + i) * z1 + j by rw [Nat.add_mul], List.getD_eq_getElem?_getD, h1]
        exact hcell _ _ h1
       ·obtain ⟨u, h1, h2⟩ := hval i e j x he hx
        rw [List.getD_eq_getElem?_getD, h1]
        exact (hp id _ hc ho e (List.mem_of_getElem? (hin i e he)) x (List.mem_of_getElem? hx) _ _ _ _ h2).weaken fun k hk _ => hav k hk
       ·obtain ⟨u, h1, h2⟩ := hval i e j x he hx
        rw [List.getD_eq_getElem?_getD, h1]
        exact huo u (List.mem_of_getElem? h1)
     ·exact hx'
    ·exact hx'
   ·exact hx'
  ·rename_i id off
   split
   ·rename_i hc
    split
    ·rename_i t cs ho
     obtain ⟨b, c, us, hρ', hbl, ⟨hrep, huo⟩, hfp⟩ := h.sim.h.objs id _ ho
     cases hx with
     | ptr hρ =>
      rw [hρ] at hρ'; cases hρ'
      have hval : ∀ (j : Nat) x, (cs.drop off)[j]? = some x → ∃ u, us[off + j]? = some u ∧ RepV w (Av X s.hp fp) ρ x u := fun j x hx => by
       rw [List.getElem?_drop] at hx
       exact hrep.get hx
      refine .cp (fun j => us.getD (off + j) undef) (hfree id _ b hc ho ((hfp b).2 rfl)) hbl.lt (fun j x hx => ?_) (fun j x hx => ?_) (fun j x hx => ?_)
      ·obtain ⟨u, h1, h2⟩ := hval j x hx
       rw [hbl.cell, List.getD_eq_getElem?_getD, h1]
       simpa using h1
      ·obtain ⟨u, h1, h2⟩ := hval j x hx
       rw [List.getD_eq_getElem?_getD, h1]
       exact (hp id _ hc ho x (List.mem_of_mem_drop (List.mem_of_getElem? hx)) _ _ _ _ h2).weaken fun k hk _ => hav k hk
      ·obtain ⟨u, h1, h2⟩ := hval j x hx
       rw [List.getD_eq_getElem?_getD, h1]
       exact huo u (List.mem_of_getElem? h1)
    ·exact hx'
   ·exact hx'
  ·exact hx'
 have f1 : ∀ {x v}, RepV w (Av X s.hp fp) ρ x v → RepV w (Av X (frzH (geth s.hp) D s.hp) fp) ρ (frz1 (geth s.hp) D x) v := by
  intro x v hx
  unfold frz1
  split
  ·cases hx with
   | agg ho hl hh => exact .agg ho (by simpa using hl) (qakr f0 hh)
  ·cases hx with
   | tup hl hh => exact .tup (by simpa using hl) (qakr f0 hh)
  ·exact f0 hx
 have f2 : ∀ {x v}, RepV w (Av X s.hp fp) ρ x v → RepV w (Av X (frzH (geth s.hp) D s.hp) fp) ρ (Go.Proofs.YteoijlmgiemffaaGreat.frz (geth s.hp) D x) v := by
  intro x v hx
  unfold Go.Proofs.YteoijlmgiemffaaGreat.frz
  split
  ·cases hx with
   | tup hl hh => exact .tup (by simpa using hl) (qakr f1 hh)
  ·exact f1 hx
 refine ⟨ρ, fp, ⟨⟨fun id o' ho => ?_, fun id id' o o' hne ho ho' => ?_, fun id o ho => ?_, h.sim.h.step, h.sim.h.keep⟩, h.sim.tmps, h.sim.defers, fun t => ?_⟩, h.fresh, h.le⟩
 ·obtain ⟨_, o, h1, rfl⟩ := hg' id o' ho
  have hr := h.sim.h.objs id o h1
  cases o with
  | cells t cs =>
   obtain ⟨b, c, vs, q1, q2, ⟨q3, q4⟩, q5⟩ := hr
   exact ⟨b, c, vs, q1, q2, ⟨⟨by simpa using q3.1, qakr f0 q3.2⟩, q4⟩, q5⟩
  | row e z es =>
   obtain ⟨v, vs, q1, ⟨q2, q3⟩, q4, q5, q6⟩ := hr
   refine ⟨v, vs, by simpa using q1, ⟨⟨?_, ?_⟩, q3⟩, fun x hx => ?_, q5, q6⟩
   ·rw [← List.map_flatten, List.length_map]; exact q2.1
   ·rw [← List.map_flatten]; exact qakr f0 q2.2
   ·obtain ⟨y, hy, rfl⟩ := List.mem_map.1 hx
    simpa using q4 y hy
  | abs I =>
   obtain ⟨b, c, q1, q2⟩ := hr
   exact ⟨b, c, q1, I.keep q2 (.refl _ _) (fun k hk _ => hav k hk) fun _ _ => rfl⟩
 ·obtain ⟨_, x, h1, _⟩ := hg' id o ho
  obtain ⟨_, y, h2, _⟩ := hg' id' o' ho'
  exact h.sim.h.disj id id' x y hne h1 h2
 ·obtain ⟨_, x, h1, _⟩ := hg' id o ho
  exact h.sim.h.turn id x h1
 ·show RepV w _ ρ (gets (frzS (geth s.hp) D s.sl) t) _
  rw [qanz]
  exact f2 (h.sim.slots t)
end Go.Proofs.YteoijlmgiemffaaGreat
namespace Go.Proofs.YteoijlmgiemffaaGreat
set_option linter.all false
open Go.RowKit
variable {w : World} {A : Nat → Prop} {ρ : qacu} {σ : Nat → Nat} {X : Cx} {s s' : SSt}
def resV (P : Program) (s : SSt) : ResultVar → Option SV
 | .tmp t => some (gets s.sl t)
 | .cell a t => match qaig P t, qacb P t with
  | some false, some _ => ((SOp.load (.t a)).run (·.ev s.sl) (geth s.hp) s.nx).map (·.1)
  | some true, some n => ((SOp.loads n (.t a)).run (·.ev s.sl) (geth s.hp) s.nx).map (·.1)
  | _, _ => none
def resL (P : Program) (s : SSt) : List ResultVar → Option (List SV)
 | [] => some []
 | r :: rs => match resV P s r, resL P s rs with
  | some v, some vs => some (v :: vs)
  | _, _ => none
def one_ : List SV → SV
 | [v] => v
 | vs => .tup vs
def qakm (P : Program) (s : SSt) (rs : List ResultVar) : Option SV := (resL P s rs).map one_
def qbep (tmps : Array Value) : ResultVar → Sem Value
 | .tmp t => pure (tmps.getD t undef)
 | .cell a t => do loadVar t (← asAddr (tmps.getD a undef))
theorem qbh0 {P : Program} {t : TypeId} {x : Operand} {a : Act} {v' : Value} (h : ∀ o : Oper, o.op = .load t x → (execOp a.eval o).run P w = .ok (.value v') w) : (do loadVar t (← asAddr (a.eval x)) : Sem Value).run P w = .ok v' w := by
 have h1 := h ⟨none, .load t x, 0, "", #[], none⟩ rfl
 simp only [execOp, Instr.loadAt, Sem.run_bind] at h1
 generalize a.eval x = y at h1
 cases y with
 | pointer p =>
  cases p with
  | none => simp [Instr.sureAddr, stuck, Sem.run, Result.andThen] at h1
  | some ad =>
   simp only [Instr.sureAddr, Sem.run_pure, Result.andThen_ok] at h1
   simp only [asAddr, Sem.run_bind, Sem.run_pure, Result.andThen_ok]
   generalize (loadVar t ad).run P w = r at h1
   cases r with
   | ok u w' => simp only [Result.andThen_ok, Result.ok.injEq, Next.value.injEq] at h1; rw [h1.1, h1.2]
   | halt u w' => simp [Result.andThen] at h1
 | _ => simp [Instr.sureAddr, stuck, Sem.run, Result.andThen] at h1
theorem resV_ok {ρ : qacu} {fp : Nat → Nat → Prop} {a : Act} {w : World} (h : SimF X ρ fp s a w) {r : ResultVar} {v : SV} (hr : resV X.P s r = some v) : ∃ v', (qbep a.tmps r).run X.P w = .ok v' w ∧ RepV w (Av X s.hp fp) ρ v v' := by
 have hobj : ∀ id o, geth s.hp id = some o → ∃ fp', ObjRep w (Av X s.hp fp) ρ id fp' o := fun id o ho => ⟨_, h.sim.h.objs id o ho⟩
 cases r with
 | tmp t =>
  simp only [resV, Option.some.injEq] at hr
  subst hr
  exact ⟨_, rfl, h.sim.slots t⟩
 | cell b t =>
  simp only [resV] at hr
  have hx : cx (b + 1) (.tmp b) = some (.t b) := by simp [cx]
  split at hr
  ·rename_i n hb hn
   simp only [Option.map_eq_some_iff] at hr
   obtain ⟨⟨v1, u, nx⟩, h1, rfl⟩ := hr
   obtain ⟨_, v', h2, h3⟩ := qbhw h.sim.slots hobj hx hb h1
   exact ⟨v', qbh0 h2, h3⟩
  ·rename_i n hb hn
   simp only [Option.map_eq_some_iff] at hr
   obtain ⟨⟨v1, u, nx⟩, h1, rfl⟩ := hr
   obtain ⟨_, v', h2, h3⟩ := qa5p h.sim.slots hobj hx hb hn h1
   exact ⟨v', qbh0 h2, h3⟩
  ·cases hr
theorem qbhm {ρ : qacu} {fp : Nat → Nat → Prop} {a : Act} {w : World} (h : SimF X ρ fp s a w) : ∀ {rs : List ResultVar} {vs : List SV}, resL X.P s rs = some vs → ∃ us, (rs.mapM (qbep a.tmps)).run X.P w = .ok us w ∧ Reps w (Av X s.hp fp) ρ vs us
 | [], vs, hr => by simp only [resL, Option.some.injEq] at hr; subst hr; exact ⟨[], rfl, Reps.nil⟩
 | r :: rs, vs, hr => by
  simp only [resL] at hr
  split at hr
  ·rename_i v vs' h1 h2
   cases hr
   obtain ⟨u, q1, q2⟩ := resV_ok h h1
   obtain ⟨us, q3, q4⟩ := qbhm h h2
   exact ⟨u :: us, by simp [List.mapM_cons, q1, q3], Reps.cons q2 q4⟩
  ·cases hr
theorem qa5c {ρ : qacu} {fp : Nat → Nat → Prop} {a : Act} {w : World} (h : SimF X ρ fp s a w) {fn : Func} {r : SV} (hr : qakm X.P s fn.results.toList = some r) : ∃ v, (results fn a.tmps).run X.P w = .ok v w ∧ RepV w (Av X s.hp fp) ρ r v := by
 simp only [qakm, Option.map_eq_some_iff] at hr
 obtain ⟨vs, h1, rfl⟩ := hr
 obtain ⟨us, h2, h3⟩ := qbhm h h1
 have hm : (results fn a.tmps).run X.P w = .ok (if h : us.toArray.size = 1 then us.toArray[0] else .tuple us.toArray) w := by
  have e : (fn.results.mapM (qbep a.tmps)).run X.P w = .ok us.toArray w := by
   rw [Array.mapM_eq_mapM_toList]; simp [h2]
  have e2 : results fn a.tmps = (fn.results.mapM (qbep a.tmps) >>= fun vs => pure (if h : vs.size = 1 then vs[0] else .tuple vs)) := by
   unfold results
   congr 1
  rw [e2, Sem.run_bind, e]
  rfl
 refine ⟨_, hm, ?_⟩
 match vs, us, h3 with
 | [], us, h3 => obtain rfl := h3.nil_inv; exact .tup rfl (by simp)
 | [v], us, h3 =>
  obtain ⟨u, us', rfl, h4, h5⟩ := h3.cons_inv
  obtain rfl := h5.nil_inv
  exact h4
 | v :: v2 :: vs, us, h3 =>
  obtain ⟨u, us', rfl, h4, h5⟩ := h3.cons_inv
  obtain ⟨u2, us2, rfl, h6, h7⟩ := h5.cons_inv
  rw [dif_neg (by simp)]
  exact .tup h3.1 h3.2
def ltV (m : Nat) (x : SV) : Prop := ren (fun i => if i < m then i else m) x = x
def LtL (m : Nat) : List SV → Prop
 | [] => True
 | x :: xs => ltV m x ∧ LtL m xs
theorem LtL.map {m : Nat} : ∀ {xs : List SV}, LtL m xs → xs.map (ren (fun i => if i < m then i else m)) = xs
 | [], _ => rfl
 | x :: xs, h => by rw [List.map_cons, h.1, LtL.map h.2]
def LtO (m : Nat) : SObj → Prop
 | .cells _ cs => cs.map (ren (fun i => if i < m then i else m)) = cs
 | .row _ _ es => es.map (·.map (ren (fun i => if i < m then i else m))) = es
 | .abs _ => True
def LtH (m : Nat) : Hp → Prop
 | [] => True
 | (i, o) :: r => i < m ∧ LtO m o ∧ LtH m r
theorem LtH.get {m : Nat} : ∀ {h : Hp}, LtH m h → ∀ id o, geth h id = some o → id < m ∧ LtO m o
 | [], _, id, o, h => by cases h
 | (i, x) :: r, h, id, o, hg => by
  simp only [geth] at hg
  split at hg
  ·rename_i e; subst e; cases hg; exact ⟨h.1, h.2.1⟩
  ·exact LtH.get h.2.2 id o hg
theorem LtO.objM {m : Nat} {o : SObj} (h : LtO m o) : ObjM (fun i => if i < m then i else m) o o := by
 cases o with
 | cells t cs => exact ⟨rfl, by rw [show cs.map (ren _) = cs from h]; exact .refl _⟩
 | row e z es => exact ⟨rfl, rfl, by rw [show es.map (fun x => x.map (ren (fun i => if i < m then i else m))) = es from h]; exact .refl _⟩
 | abs I => rfl
def argS : Nat → List SV → Sl
 | _, [] => []
 | i, x :: xs => (i, x) :: argS (i + 1) xs
theorem qas7 : ∀ (xs : List SV) (i t : Nat), gets (argS i xs) t = if t < i then .any else (xs[t - i]?).getD .any
 | [], i, t => by simp [argS, gets]
 | x :: xs, i, t => by
  simp only [argS, gets, qas7 xs]
  by_cases e : i = t
  ·subst e; simp
  ·rw [if_neg e]
   by_cases h : t < i
   ·rw [if_pos h, if_pos (by omega)]
   ·rw [if_neg h, if_neg (by omega)]
    obtain ⟨d, hd⟩ : ∃ d, t - i = d + 1 := ⟨t - i - 1, by omega⟩
    rw [hd, show t - (i + 1) = d by omega, List.getElem?_cons_succ]
def QFunN (n : Nat) (X : Cx) (rs : List ResultVar) (m : Nat) (r : SV) (h2 : Hp) : SExit → SSt → Prop
 | .exit _, _ => False
 | _, s => ∃ s', Wk X s s' ∧ qakm X.P s' rs = some r ∧ SubH s'.hp h2 ∧ s'.nx ≤ m + n
abbrev QFun (X : Cx) (rs : List ResultVar) (m : Nat) (r : SV) (h2 : Hp) : SExit → SSt → Prop := QFunN 8 X rs m r h2
theorem qakl (n : Nat) (hn0 : 0 < n) {P : Program} {f : FuncId} {fn : Func} {N m : Nat} {code : Code} {c : SCode} {args : List SV} {h1 h2 : Hp} {r : SV} (hf : P.funcs[f]? = some fn) (hb : fn.body = some code) (hN : fn.ntmps = N) (hname : (fn.name == "runtime.NumGoroutine") = false) (hc : comp P N code = some c.erase) (hal : args.length ≤ N)
  (hla : LtL m args) (hlh : LtH m h1)
  (h : ∀ X : Cx, X.P = P → X.N = N → X.m = m → SWp X c (QFunN n X fn.results.toList m r h2) ⟨argS 0 args, h1, m⟩) : SCalls P f args h1 m r h2 n := by
 refine ⟨.of hf (by rw [hb]; rfl) hname, fun O ρ fp w vs hok hargs hfr => ?_⟩
 let σ : Nat → Nat := fun i => if i < m then i else m
 let ρi : qacu := fun id => ρ (σ id)
 have hm0 : ρ m = none := hfr m (Nat.le_refl _) (by omega)
 let X : Cx := ⟨P, N, m, ρi, w, Live h1 fp, O, hok.O_lt, fun k hO hl => (hok.lt k hl).2 hO⟩
 have hgl : ∀ id o, geth h1 id = some o → id < m ∧ σ id = id := fun id o ho => by
  have := (hlh.get id o ho).1
  exact ⟨this, if_pos this⟩
 have hfp : (fun id => fp id) = fp := rfl
 have hsimh : SimH X ρi fp h1 w := by
  refine ⟨fun id o ho => ?_, hok.disj, fun id o ho k hk => ⟨.inl ⟨id, o, ho, hk⟩, (hok.lt k ⟨id, o, ho, hk⟩).1⟩, .refl _ _, fun _ _ => rfl⟩
  have h3 := hok.objs id o ho
  obtain ⟨h4, h5⟩ := hgl id o ho
  have h6 := (hlh.get id o ho).2.objM
  rw [show id = σ id from h5.symm] at h3
  have := h6.back h3
  rw [h5] at this
  exact this
 have hlen := hargs.1
 have hreps : Reps w (Av X h1 fp) ρi args vs := by
  have h3 : Reps w (fun k => O k ∨ Live h1 fp k) ρ (args.map (ren σ)) vs := by rw [hla.map]; exact hargs
  exact qae3 h3
 let a0 : Act := { tmps := vs.toArray ++ Array.replicate (fn.ntmps - vs.toArray.size) undef, defers := [] }
 have hsz : a0.tmps.size = N := by simp [a0, hN]; omega
 have hsim : SimF X ρi fp ⟨argS 0 args, h1, m⟩ a0 w := by
  refine ⟨⟨hsimh, hsz, rfl, fun t => ?_⟩, fun id hid => ?_, Nat.le_refl _⟩
  ·show RepV w _ ρi (gets (argS 0 args) t) _
   rw [qas7, if_neg (by omega), Nat.sub_zero]
   cases e : args[t]? with
   | none => exact .any
   | some x =>
    obtain ⟨v, h3, h4⟩ := hreps.get e
    have hlt : t < vs.length := (List.getElem?_eq_some_iff.1 h3).1
    have : a0.tmps.getD t undef = v := by
     have h5 : a0.tmps[t]? = some v := by
      simp only [a0]
      rw [Array.getElem?_append_left (by simpa using hlt)]
      simpa using h3
     rw [Array.getD_eq_getD_getElem?, h5]; rfl
    rw [this]; exact h4
  ·show ρ (σ id) = none
   simp only [σ]
   rw [if_neg (by simp only at hid; omega)]; exact hm0
 have hw := h X rfl rfl rfl code hc ρi fp a0 w hsim
 refine calls_of_wp hf hb (wp_mono hw ?_)
 have fin : ∀ s ρ' fp' a w', (∃ s', Wk X s s' ∧ qakm X.P s' fn.results.toList = some r ∧ SubH s'.hp h2 ∧ s'.nx ≤ m + n) → SimF X ρ' fp' s a w' →
   a.defers = [] ∧ ∃ v, (results fn a.tmps).run P w' = .ok v w' ∧ ∃ v2 ρ2 fp2, Ending.returned v = .returned v2 ∧ HeapOk O ρ2 fp2 h2 w' ∧ RepV w' (fun k => O k ∨ Live h2 fp2 k) ρ2 r v2 ∧ Step (Live h1 fp) w w' ∧
    (∀ id p, ρ id = some p → ρ2 id = some p) ∧ (∀ id, ρ2 id ≠ none → ρ id ≠ none ∨ (m ≤ id ∧ id < m + n)) ∧ ∀ id o, geth h2 id = some o → ∀ k, fp2 id k → Live h1 fp k ∨ w.heap.size ≤ k := by
  rintro s ρ' fp' a w' ⟨s', hwk, hres, hsb, hnx⟩ hs
  obtain ⟨ρ3, fp3, hs3⟩ := hwk ρ' fp' a w' hs
  obtain ⟨v, q1, q2⟩ := qa5c hs3 hres
  let ρ2 : qacu := fun id => match ρ id with
   | some p => some p
   | none => ρ3 id
  have hext : ∀ id p, ρ3 id = some p → ρ2 id = some p := fun id p hp => by
   simp only [ρ2]
   cases e : ρ id with
   | none => exact hp
   | some p' =>
    simp only
    by_cases hid : id < m
    ·have h5 : ρ3 id = ρi id := hs3.sim.h.keep id hid
     rw [h5] at hp
     simp only [ρi, σ, if_pos hid, e] at hp
     exact hp
    ·by_cases hid2 : id < m + n
     ·rw [hfr id (by omega) hid2] at e; cases e
     ·rw [hs3.fresh id (by omega)] at hp; cases hp
  have hsg := hsb.get
  have hav : ∀ k, (O k ∨ Live h2 fp3 k) → Av X s'.hp fp3 k := by
   rintro k (hO | ⟨id, o, ho, hk⟩)
   ·exact .inl hO
   ·exact .inr ⟨id, o, hsg id o ho, hk⟩
  refine ⟨hs3.sim.defers, v, q1, v, ρ2, fp3, rfl, ⟨fun id o ho => ?_, fun id id' o o' hne ho ho' => hs3.sim.h.disj id id' o o' hne (hsg _ _ ho) (hsg _ _ ho'), ?_, ?_⟩, q2.mono (.refl _ _) (fun k h _ => hav k h) hext, hs3.sim.h.step, fun id p hp => ?_, fun id hid => ?_, fun id o ho k hk => ?_⟩
  ·exact (hs3.sim.h.objs id o (hsg _ _ ho)).mono ⟨.refl _ _, fun k h _ => hav k h, hext⟩ fun _ _ => rfl
  ·rintro k ⟨id, o, ho, hk⟩
   obtain ⟨h5, h6⟩ := hs3.sim.h.turn id o (hsg _ _ ho) k hk
   refine ⟨h6, fun hO => ?_⟩
   rcases h5 with h5 | h5
   ·exact X.O_M k hO h5
   ·exact absurd (hok.O_lt k hO) (Nat.not_lt_of_le h5)
  ·exact fun k hO => Nat.lt_of_lt_of_le (hok.O_lt k hO) hs3.sim.h.step.size
  ·simp only [ρ2, hp]
  ·cases e : ρ id with
   | some p => exact .inl (by simp)
   | none =>
    simp only [ρ2, e] at hid
    refine .inr ?_
    by_cases hlt : id < m
    ·have h5 : ρ3 id = ρi id := hs3.sim.h.keep id hlt
     rw [h5] at hid
     simp only [ρi, σ, if_pos hlt, e] at hid
     exact absurd rfl hid
    ·refine ⟨by omega, Nat.lt_of_not_le fun hge => hid (hs3.fresh id (by omega))⟩
  ·exact (hs3.sim.h.turn id o (hsg _ _ ho) k hk).1
 intro e a w' ho
 cases e with
 | normal => obtain ⟨s, ρ', fp', h3, h4⟩ := ho; exact fin s ρ' fp' a w' h3 h4
 | ret => obtain ⟨s, ρ', fp', h3, h4⟩ := ho; exact fin s ρ' fp' a w' h3 h4
 | exit id => obtain ⟨s, ρ', fp', h3, h4⟩ := ho; exact h3.elim
 | goto l => exact ho.elim
 | panic c => exact ho.elim
 | outgrown => exact ho.elim
theorem qaas {P : Program} {f : FuncId} {fn : Func} {N m : Nat} {code : Code} {c : SCode} {args : List SV} {h1 h2 : Hp} {r : SV} (hf : P.funcs[f]? = some fn) (hb : fn.body = some code) (hN : fn.ntmps = N) (hname : (fn.name == "runtime.NumGoroutine") = false) (hc : comp P N code = some c.erase) (hal : args.length ≤ N)
  (hla : LtL m args) (hlh : LtH m h1)
  (h : ∀ X : Cx, X.P = P → X.N = N → X.m = m → SWp X c (QFun X fn.results.toList m r h2) ⟨argS 0 args, h1, m⟩) : SCalls P f args h1 m r h2 := qakl 8 (by decide) hf hb hN hname hc hal hla hlh h
end Go.Proofs.YteoijlmgiemffaaGreat
namespace Go.Proofs.YteoijlmgiemffaaGreat
set_option linter.all false
open Go.RowKit
variable {w : World} {A : Nat → Prop} {ρ ρ2 : qacu} {σ : Nat → Nat}
def okB : SV → Bool
 | .agg _ | .tup _ | .fn _ _ _ | .ifc _ _ => false
 | _ => true
def okA : SV → Bool
 | .agg cs => cs.all okB
 | x => okB x
def ok0 : SV → Bool
 | .ifc _ x => okA x
 | .agg _ | .tup _ => false
 | .fn _ [] [] => true
 | .fn _ _ _ => false
 | _ => true
def ok1 : SV → Bool
 | .agg cs => cs.all ok0
 | .fn _ a b => a.all ok0 && b.all ok0
 | x => ok0 x
def ok2 : SV → Bool
 | .tup cs => cs.all ok1
 | .agg cs => cs.all ok1
 | x => ok1 x
theorem qa5e (hσ : ∀ c p, ρ c = some p → ρ2 (σ c) = some p) {x : SV} {v : Value} (hx : okB x = true) (h : RepV w A ρ x v) : RepV w A ρ2 (renB σ x) v := by
 cases h with
 | any => exact .any
 | bool => exact .bool
 | int => exact .int
 | str => exact .str
 | nil => exact .nil
 | nilsl => exact .nilsl
 | nilfn => exact .nilfn
 | niliface => exact .niliface
 | ifc h => simp [okB] at hx
 | mt hc => exact .mt hc
 | view0 hc ha => exact .view0 hc ha
 | view cv hn hc hm hA hb hz h1 h2 ho => exact .view cv hn hc hm hA hb hz h1 h2 ho
 | cp cv hA hb h1 h2 ho => exact .cp cv hA hb h1 h2 ho
 | ptr h => exact .ptr (hσ _ _ h)
 | eptr h => exact .eptr (hσ _ _ h)
 | own0 h => exact .own0 (hσ _ _ h)
 | own h hn hm => exact .own (hσ _ _ h) hn hm
 | owno h hn hm => exact .owno (hσ _ _ h) hn hm
 | agg => simp [okB] at hx
 | tup => simp [okB] at hx
 | fn => simp [okB] at hx
theorem qbi1 (hσ : ∀ c p, ρ c = some p → ρ2 (σ c) = some p) {x : SV} {v : Value} (hx : okA x = true) (h : RepV w A ρ x v) : RepV w A ρ2 (renA σ x) v := by
 cases x with
 | agg cs =>
  cases h with
  | agg ho hl hh =>
   refine .agg ho (by simpa using hl) fun j x v hx' hv => ?_
   rw [List.getElem?_map, Option.map_eq_some_iff] at hx'
   obtain ⟨y, hy, rfl⟩ := hx'
   exact qa5e hσ (List.all_eq_true.1 hx y (List.mem_of_getElem? hy)) (hh j y v hy hv)
 | _ => (simp only [okA] at hx; exact qa5e hσ hx h)
theorem qajt (hσ : ∀ c p, ρ c = some p → ρ2 (σ c) = some p) {x : SV} {v : Value} (hx : ok0 x = true) (h : RepV w A ρ x v) : RepV w A ρ2 (ren0 σ x) v := by
 cases h with
 | any => exact .any
 | bool => exact .bool
 | int => exact .int
 | str => exact .str
 | nil => exact .nil
 | nilsl => exact .nilsl
 | nilfn => exact .nilfn
 | niliface => exact .niliface
 | ifc h => exact .ifc (qbi1 hσ hx h)
 | mt hc => exact .mt hc
 | view0 hc ha => exact .view0 hc ha
 | view cv hn hc hm hA hb hz h1 h2 ho => exact .view cv hn hc hm hA hb hz h1 h2 ho
 | cp cv hA hb h1 h2 ho => exact .cp cv hA hb h1 h2 ho
 | ptr h => exact .ptr (hσ _ _ h)
 | eptr h => exact .eptr (hσ _ _ h)
 | own0 h => exact .own0 (hσ _ _ h)
 | own h hn hm => exact .own (hσ _ _ h) hn hm
 | owno h hn hm => exact .owno (hσ _ _ h) hn hm
 | agg => simp [ok0] at hx
 | tup => simp [ok0] at hx
 | fn l1 l2 r1 r2 =>
  rename_i f fs cs vs us
  cases fs with
  | nil =>
   cases cs with
   | nil => exact .fn l1 l2 (by simp) (by simp)
   | cons y b => simp [ok0] at hx
  | cons y a => simp [ok0] at hx
theorem qago {f : SV → SV} {ok : SV → Bool} (hf : ∀ {x v}, ok x = true → RepV w A ρ x v → RepV w A ρ2 (f x) v) {cs : List SV} {vs : List Value} (hk : cs.all ok = true) (h : ∀ (j : Nat) x v, cs[j]? = some x → vs[j]? = some v → RepV w A ρ x v) : ∀ (j : Nat) x v, (cs.map f)[j]? = some x → vs[j]? = some v → RepV w A ρ2 x v := fun j x v hx hv => by
 rw [List.getElem?_map, Option.map_eq_some_iff] at hx
 obtain ⟨y, hy, rfl⟩ := hx
 exact hf (List.all_eq_true.1 hk y (List.mem_of_getElem? hy)) (h j y v hy hv)
theorem qano (hσ : ∀ c p, ρ c = some p → ρ2 (σ c) = some p) {x : SV} {v : Value} (hx : ok1 x = true) (h : RepV w A ρ x v) : RepV w A ρ2 (ren1 σ x) v := by
 cases x with
 | agg cs =>
  cases h with
  | agg ho hl hh => exact .agg ho (by simpa using hl) (qago (qajt hσ) hx hh)
 | fn f gs bs =>
  simp only [ok1, Bool.and_eq_true] at hx
  cases h with
  | fn l1 l2 r1 r2 => exact .fn (by simpa using l1) (by simpa using l2) (qago (qajt hσ) hx.1 r1) (qago (qajt hσ) hx.2 r2)
 | _ => (refine qajt hσ ?_ h; exact hx)
theorem qbhn (hσ : ∀ c p, ρ c = some p → ρ2 (σ c) = some p) {x : SV} {v : Value} (hx : ok2 x = true) (h : RepV w A ρ x v) : RepV w A ρ2 (ren σ x) v := by
 cases x with
 | agg cs =>
  cases h with
  | agg ho hl hh => exact .agg ho (by simpa using hl) (qago (qano hσ) hx hh)
 | tup cs =>
  cases h with
  | tup hl hh => exact .tup (by simpa using hl) (qago (qano hσ) hx hh)
 | _ => (refine qano hσ ?_ h; exact hx)
theorem qa5d (hσ : ∀ c p, ρ c = some p → ρ2 (σ c) = some p) {xs : List SV} {vs : List Value} (hx : xs.all ok2 = true) (h : Reps w A ρ xs vs) : Reps w A ρ2 (xs.map (ren σ)) vs := ⟨by simpa using h.1, qago (qbhn hσ) hx h.2⟩
def ObjF (σ : Nat → Nat) : SObj → SObj → Prop
 | .cells t cs, .cells t' ds => t = t' ∧ cs.all ok2 = true ∧ ds = cs.map (ren σ)
 | .row e z es, .row e' z' fs => e = e' ∧ z = z' ∧ (∀ x ∈ es, x.all ok2 = true) ∧ fs = es.map (·.map (ren σ))
 | .abs I, .abs I' => I = I'
 | _, _ => False
theorem ObjF.fwd {o o' : SObj} (h : ObjF σ o o') (hσ : ∀ c p, ρ c = some p → ρ2 (σ c) = some p) {id : Nat} {F : Nat → Prop} (hr : ObjRep w A ρ id F o) : ObjRep w A ρ2 (σ id) F o' := by
 cases o with
 | cells t cs =>
  cases o' with
  | cells t' ds =>
   obtain ⟨rfl, hk, rfl⟩ := h
   obtain ⟨b, c, vs, h1, h2, ⟨h3, h4⟩, h5⟩ := hr
   exact ⟨b, c, vs, hσ _ _ h1, h2, ⟨qa5d hσ hk h3, h4⟩, h5⟩
  | row => exact h.elim
  | abs => exact h.elim
 | row e z es =>
  cases o' with
  | row e' z' fs =>
   obtain ⟨rfl, rfl, hk, rfl⟩ := h
   obtain ⟨v, vs, h1, ⟨h2, h3⟩, h4, h5, h6⟩ := hr
   refine ⟨v, vs, by simpa using h1, ⟨?_, h3⟩, fun x hx => ?_, hσ _ _ h5, h6⟩
   ·rw [← List.map_flatten]
    refine qa5d hσ (List.all_eq_true.2 fun x hx => ?_) h2
    obtain ⟨l, hl, hx⟩ := List.mem_flatten.1 hx
    exact List.all_eq_true.1 (hk l hl) x hx
   ·obtain ⟨y, hy, rfl⟩ := List.mem_map.1 hx
    simpa using h4 y hy
  | cells => exact h.elim
  | abs => exact h.elim
 | abs I =>
  cases o' with
  | abs I' => obtain rfl := h; obtain ⟨b, c, h1, h2⟩ := hr; exact ⟨b, c, hσ _ _ h1, h2⟩
  | cells => exact h.elim
  | row => exact h.elim
def sg (τ : List Nat) (q c : Nat) : Nat := if c < τ.length then τ.getD c 0 else if c < τ.length + 8 then q + (c - τ.length) else q
def ObjsF (σ : Nat → Nat) (h' : Hp) : Hp → Prop
 | [] => True
 | (i, o) :: r => (∃ o', geth h' (σ i) = some o' ∧ ObjF σ o o') ∧ ObjsF σ h' r
theorem ObjsF.get {h' : Hp} : ∀ {h : Hp}, ObjsF σ h' h → ∀ id o, geth h id = some o → ∃ o', geth h' (σ id) = some o' ∧ ObjF σ o o'
 | [], _, id, o, hg => by cases hg
 | (i, x) :: r, h, id, o, hg => by
  simp only [geth] at hg
  split at hg
  ·rename_i e; subst e; cases hg; exact h.1
  ·exact ObjsF.get h.2 id o hg
theorem sg_inj {τ : List Nat} {q : Nat} (hn : τ.Nodup) (hq : ∀ i ∈ τ, i < q ∨ q + 8 ≤ i) {a b : Nat} (ha : a < τ.length + 8) (hb : b < τ.length + 8) (h : sg τ q a = sg τ q b) : a = b := by
 unfold sg at h
 by_cases h1 : a < τ.length
 ·rw [if_pos h1] at h
  have ma : τ.getD a 0 ∈ τ := by rw [List.getD_eq_getElem?_getD, List.getElem?_eq_getElem h1]; exact List.getElem_mem _
  by_cases h2 : b < τ.length
  ·rw [if_pos h2] at h
   rw [List.getD_eq_getElem?_getD, List.getD_eq_getElem?_getD, List.getElem?_eq_getElem h1, List.getElem?_eq_getElem h2] at h
   exact (List.getElem_inj hn).1 h
  ·rw [if_neg h2, if_pos hb] at h
   have := hq _ ma; omega
 ·rw [if_neg h1, if_pos ha] at h
  by_cases h2 : b < τ.length
  ·rw [if_pos h2] at h
   have mb : τ.getD b 0 ∈ τ := by rw [List.getD_eq_getElem?_getD, List.getElem?_eq_getElem h2]; exact List.getElem_mem _
   have := hq _ mb; omega
  ·rw [if_neg h2, if_pos hb] at h; omega
theorem qaev (τ : List Nat) {P : Program} {f : FuncId} {args args' : List SV} {h1 h1' h2 h2' : Hp} {r r' : SV} {q m : Nat} (h : SCalls P f args h1 m r h2) (hm : m = τ.length) (hn : τ.Nodup) (hq : ∀ i ∈ τ, i < q ∨ q + 8 ≤ i)
  (ha : args' = args.map (ren (sg τ q))) (hh1 : ObjsM (sg τ q) h1' h1) (hlt1 : ∀ i ∈ idsH h1, i < m) (hr : r' = ren (sg τ q) r) (hrk : ok2 r = true) (hh2 : ObjsF (sg τ q) h2' h2) (hlt2 : ∀ i ∈ idsH h2, i < m + 8) (hb2 : idsH h2' = (idsH h2).map (sg τ q)) : SCalls P f args' h1' q r' h2' := by
 subst hm ha hr
 refine ⟨h.1, fun O ρ fp w vs hok hargs hfr => ?_⟩
 have hnone : ∀ c, τ.length ≤ c → ρ (sg τ q c) = none := fun c hc => by
  unfold sg
  rw [if_neg (by omega)]
  split
  ·exact hfr _ (by omega) (by omega)
  ·exact hfr _ (Nat.le_refl _) (by omega)
 have hsub : ∀ k, Live h1 (fun c => fp (sg τ q c)) k → Live h1' fp k := by
  rintro k ⟨c, o, ho, hk⟩
  obtain ⟨o', h3, _⟩ := hh1.get c o ho
  exact ⟨_, o', h3, hk⟩
 have hok1 : HeapOk O (fun c => ρ (sg τ q c)) (fun c => fp (sg τ q c)) h1 w := by
  refine ⟨fun c o ho => ?_, fun c d o o' hne ho ho' => ?_, fun k hk => hok.lt k (hsub k hk), hok.O_lt⟩
  ·obtain ⟨o', h3, h4⟩ := hh1.get c o ho
   exact (h4.back (hok.objs _ _ h3)).weaken fun k hk _ => hk.imp (fun h => h) (hsub k)
  ·obtain ⟨x, h3, _⟩ := hh1.get c o ho
   obtain ⟨y, h4, _⟩ := hh1.get d o' ho'
   refine hok.disj _ _ x y (fun e => hne (sg_inj hn hq ?_ ?_ e)) h3 h4
   ·have := hlt1 c (qaeq (by rw [ho]; simp)); omega
   ·have := hlt1 d (qaeq (by rw [ho']; simp)); omega
 refine (h.2 O (fun c => ρ (sg τ q c)) (fun c => fp (sg τ q c)) w vs hok1 ((qae3 hargs).weaken fun k hk _ => hk.imp (fun h => h) (hsub k)) (fun id h3 _ => hnone id h3)).mono ?_
 rintro e w' ⟨v, ρc, fpc, rfl, q1, q2, q3, q4, q5, q6⟩
 let ρ' : qacu := fun id => match ρ id with
  | some p => some p
  | none => if q ≤ id ∧ id < q + 8 then ρc (τ.length + (id - q)) else none
 have hσ : ∀ c p, ρc c = some p → ρ' (sg τ q c) = some p := fun c p hp => by
  rcases q5 c (by rw [hp]; simp) with h3 | h3
  ·obtain ⟨p0, h4⟩ := Option.ne_none_iff_exists'.1 h3
   have h5 := q4 c p0 h4
   rw [hp] at h5; cases h5
   simp only [ρ', h4]
  ·have h4 : sg τ q c = q + (c - τ.length) := by unfold sg; rw [if_neg (by omega), if_pos (by omega)]
   have h5 := hnone c h3.1
   simp only [ρ', h5]
   rw [h4, if_pos (by omega), show τ.length + (q + (c - τ.length) - q) = c by omega]; exact hp
 let fp' : Nat → Nat → Prop := fun id k => ∃ c, geth h2 c ≠ none ∧ sg τ q c = id ∧ fpc c k
 have hinv : ∀ id o', geth h2' id = some o' → ∃ c o, geth h2 c = some o ∧ sg τ q c = id ∧ ObjF (sg τ q) o o' := fun id o' ho' => by
  have h3 := qaeq (hp := h2') (id := id) (by rw [ho']; simp)
  rw [hb2] at h3
  obtain ⟨c, hc, rfl⟩ := List.mem_map.1 h3
  have h4 : geth h2 c ≠ none := by
   have gen : ∀ {h : Hp}, c ∈ idsH h → geth h c ≠ none := by
    intro h
    induction h with
    | nil => intro h; cases h
    | cons x h ih =>
     obtain ⟨i, o⟩ := x
     intro hc
     by_cases e : i = c
     ·simp [geth, e]
     ·simp only [geth, if_neg e]
      exact ih ((List.mem_cons.1 hc).resolve_left (Ne.symm e))
   exact gen hc
  obtain ⟨o, h5⟩ := Option.ne_none_iff_exists'.1 h4
  obtain ⟨o2, h6, h7⟩ := hh2.get c o h5
  rw [ho'] at h6; cases h6
  exact ⟨c, o, h5, rfl, h7⟩
 have hfp : ∀ c o, geth h2 c = some o → fp' (sg τ q c) = fpc c := fun c o ho => by
  funext k
  apply propext
  constructor
  ·rintro ⟨d, h3, h4, h5⟩
   have hlt : ∀ {x}, geth h2 x ≠ none → x < τ.length + 8 := fun hx => hlt2 _ (qaeq hx)
   rw [sg_inj hn hq (hlt h3) (hlt (by rw [ho]; simp)) h4] at h5; exact h5
  ·intro hk; exact ⟨c, by rw [ho]; simp, rfl, hk⟩
 have hlive : ∀ k, Live h2' fp' k → Live h2 fpc k := by
  rintro k ⟨id, o', ho', c, h3, h4, h5⟩
  obtain ⟨o, h6⟩ := Option.ne_none_iff_exists'.1 h3
  exact ⟨c, o, h6, h5⟩
 refine ⟨v, ρ', fp', rfl, ⟨fun id o' ho' => ?_, fun id id' o o' hne ho ho' k hk hk' => ?_, fun k hk => q1.lt k (hlive k hk), q1.O_lt⟩, (qbhn hσ hrk q2).weaken fun k hk _ => hk.imp (fun h => h) (hlive k), q3.mono hsub, fun id p hp => ?_, fun id hid => ?_, fun id o' ho' k hk => ?_⟩
 ·obtain ⟨c, o, h3, rfl, h4⟩ := hinv id o' ho'
  rw [hfp c o h3]
  exact (h4.fwd hσ (q1.objs c o h3)).weaken fun k hk _ => hk.imp (fun h => h) (hlive k)
 ·obtain ⟨c, oc, h3, rfl, _⟩ := hinv id o ho
  obtain ⟨d, od, h4, rfl, _⟩ := hinv id' o' ho'
  rw [hfp c oc h3] at hk
  rw [hfp d od h4] at hk'
  exact q1.disj c d oc od (fun e => hne (by rw [e])) h3 h4 k hk hk'
 ·simp only [ρ', hp]
 ·cases e : ρ id with
  | some p => exact .inl (by simp)
  | none =>
   simp only [ρ', e] at hid
   split at hid
   ·exact .inr ‹_›
   ·exact absurd rfl hid
 ·obtain ⟨c, o, h3, rfl, _⟩ := hinv id o' ho'
  rw [hfp c o h3] at hk
  exact (q6 c o h3 k hk).imp (hsub k) fun h => h
theorem qabj {P : Program} {f : FuncId} {args : List SV} {r : SV} (h : SCalls P f args [] 0 r []) (ha : ∀ σ, args.map (ren σ) = args) (hr : ∀ σ, ren σ r = r) (hk : ok2 r = true) (q : Nat) : SCalls P f args [] q r [] :=
 qaev [] h rfl (by simp) (by simp) (ha _).symm trivial (by simp [idsH]) (hr _).symm hk trivial (by simp [idsH]) rfl
theorem qahc {P : Program} {f : FuncId} {args args' : List SV} {h1 h2 : Hp} {q : Nat} {r : SV} (h : SCalls P f args' h1 q r h2) (hc : CoL args args') : SCalls P f args h1 q r h2 :=
 ⟨h.1, fun O ρ fp w vs hok hargs hfr => h.2 O ρ fp w vs hok (hc.reps hargs) hfr⟩
end Go.Proofs.YteoijlmgiemffaaGreat
namespace Go.Proofs.YteoijlmgiemffaaGreat
set_option linter.all false
open Go.RowKit
noncomputable def fNat {α : Type} (n : Nat) (k : Nat → α) : α := Nat.rec (k 0) (fun m _ => k (.succ m)) n
theorem qag4 {α : Type} (n : Nat) (k : Nat → α) : fNat n k = k n := by cases n <;> rfl
noncomputable def fInt {α : Type} (n : Int) (k : Int → α) : α := Int.rec (fun m => fNat m fun m => k (.ofNat m)) (fun m => fNat m fun m => k (.negSucc m)) n
theorem qatf {α : Type} (n : Int) (k : Int → α) : fInt n k = k n := by cases n <;> simp [fInt, qag4]
noncomputable def qbfg {α β : Type} (f : β → (β → α) → α) (l : List β) : (List β → α) → α := List.rec (fun k => k []) (fun x _ ih k => f x fun x' => ih fun xs' => k (x' :: xs')) l
theorem qafs {α β : Type} {f : β → (β → α) → α} (hf : ∀ x k, f x k = k x) : ∀ (l : List β) (k : List β → α), qbfg f l k = k l
 | [], _ => rfl
 | x :: xs, k => by
  show f x (fun x' => qbfg f xs fun xs' => k (x' :: xs')) = _
  rw [hf, qafs hf xs]
noncomputable def fB {α : Type} (x : SV) : (SV → α) → α := SV.rec (motive_1 := fun _ => (SV → α) → α) (motive_2 := fun _ => PUnit) (motive_3 := fun _ => PUnit)
 (fun k => k (.any))
 (fun b k => Bool.rec (k (.bool false)) (k (.bool true)) b)
 (fun kd n k => fInt n fun n => k (.int kd n))
 (fun s k => k (.str s))
 (fun k => k (.nil))
 (fun k => k (.nilsl))
 (fun k => k (.nilfn))
 (fun k => k (.niliface))
 (fun t x _ k => k (.ifc t x))
 (fun k => k (.mt))
 (fun z es _ k => k (.view z es))
 (fun cs _ k => k (.cp cs))
 (fun i o k => fNat i fun i => fNat o fun o => k (.ptr i o))
 (fun i z a b k => fNat i fun i => fNat a fun a => fNat b fun b => k (.eptr i z a b))
 (fun i n k => fNat i fun i => fNat n fun n => k (.own i n))
 (fun i z o n k => fNat i fun i => fNat o fun o => fNat n fun n => k (.owno i z o n))
 (fun cs _ k => k (.agg cs))
 (fun cs _ k => k (.tup cs))
 (fun f a b _ _ k => k (.fn f a b))
 (fun k => k (.bot))
 ⟨⟩ (fun _ _ _ _ => ⟨⟩) ⟨⟩ (fun _ _ _ _ => ⟨⟩) x
theorem fB_eq {α : Type} (x : SV) (k : SV → α) : fB x k = k x := by
 cases x <;> simp [fB, qatf, qag4]
 rename_i b; cases b <;> rfl
noncomputable def f0 {α : Type} (x : SV) : (SV → α) → α := SV.rec (motive_1 := fun _ => (SV → α) → α) (motive_2 := fun _ => PUnit) (motive_3 := fun _ => PUnit)
 (fun k => k (.any))
 (fun b k => Bool.rec (k (.bool false)) (k (.bool true)) b)
 (fun kd n k => fInt n fun n => k (.int kd n))
 (fun s k => k (.str s))
 (fun k => k (.nil))
 (fun k => k (.nilsl))
 (fun k => k (.nilfn))
 (fun k => k (.niliface))
 (fun t x _ k => fB x fun x => k (.ifc t x))
 (fun k => k (.mt))
 (fun z es _ k => k (.view z es))
 (fun cs _ k => k (.cp cs))
 (fun i o k => fNat i fun i => fNat o fun o => k (.ptr i o))
 (fun i z a b k => fNat i fun i => fNat a fun a => fNat b fun b => k (.eptr i z a b))
 (fun i n k => fNat i fun i => fNat n fun n => k (.own i n))
 (fun i z o n k => fNat i fun i => fNat o fun o => fNat n fun n => k (.owno i z o n))
 (fun cs _ k => k (.agg cs))
 (fun cs _ k => k (.tup cs))
 (fun f a b _ _ k => k (.fn f a b))
 (fun k => k (.bot))
 ⟨⟩ (fun _ _ _ _ => ⟨⟩) ⟨⟩ (fun _ _ _ _ => ⟨⟩) x
theorem f0_eq {α : Type} (x : SV) (k : SV → α) : f0 x k = k x := by
 cases x <;> simp [f0, qatf, qag4, fB_eq]
 rename_i b; cases b <;> rfl
noncomputable def f1 {α : Type} (x : SV) : (SV → α) → α := SV.rec (motive_1 := fun _ => (SV → α) → α) (motive_2 := fun _ => PUnit) (motive_3 := fun _ => PUnit)
 (fun k => k (.any))
 (fun b k => Bool.rec (k (.bool false)) (k (.bool true)) b)
 (fun kd n k => fInt n fun n => k (.int kd n))
 (fun s k => k (.str s))
 (fun k => k (.nil))
 (fun k => k (.nilsl))
 (fun k => k (.nilfn))
 (fun k => k (.niliface))
 (fun t x _ k => fB x fun x => k (.ifc t x))
 (fun k => k (.mt))
 (fun z es _ k => k (.view z es))
 (fun cs _ k => k (.cp cs))
 (fun i o k => fNat i fun i => fNat o fun o => k (.ptr i o))
 (fun i z a b k => fNat i fun i => fNat a fun a => fNat b fun b => k (.eptr i z a b))
 (fun i n k => fNat i fun i => fNat n fun n => k (.own i n))
 (fun i z o n k => fNat i fun i => fNat o fun o => fNat n fun n => k (.owno i z o n))
 (fun cs _ k => qbfg f0 cs fun cs => k (.agg cs))
 (fun cs _ k => k (.tup cs))
 (fun f a b _ _ k => k (.fn f a b))
 (fun k => k (.bot))
 ⟨⟩ (fun _ _ _ _ => ⟨⟩) ⟨⟩ (fun _ _ _ _ => ⟨⟩) x
theorem f1_eq {α : Type} (x : SV) (k : SV → α) : f1 x k = k x := by
 cases x <;> simp [f1, qatf, qag4, fB_eq, qafs f0_eq]
 rename_i b; cases b <;> rfl
noncomputable def f2 {α : Type} (x : SV) : (SV → α) → α := SV.rec (motive_1 := fun _ => (SV → α) → α) (motive_2 := fun _ => PUnit) (motive_3 := fun _ => PUnit)
 (fun k => k (.any))
 (fun b k => Bool.rec (k (.bool false)) (k (.bool true)) b)
 (fun kd n k => fInt n fun n => k (.int kd n))
 (fun s k => k (.str s))
 (fun k => k (.nil))
 (fun k => k (.nilsl))
 (fun k => k (.nilfn))
 (fun k => k (.niliface))
 (fun t x _ k => fB x fun x => k (.ifc t x))
 (fun k => k (.mt))
 (fun z es _ k => k (.view z es))
 (fun cs _ k => k (.cp cs))
 (fun i o k => fNat i fun i => fNat o fun o => k (.ptr i o))
 (fun i z a b k => fNat i fun i => fNat a fun a => fNat b fun b => k (.eptr i z a b))
 (fun i n k => fNat i fun i => fNat n fun n => k (.own i n))
 (fun i z o n k => fNat i fun i => fNat o fun o => fNat n fun n => k (.owno i z o n))
 (fun cs _ k => qbfg f1 cs fun cs => k (.agg cs))
 (fun cs _ k => qbfg f1 cs fun cs => k (.tup cs))
 (fun f a b _ _ k => k (.fn f a b))
 (fun k => k (.bot))
 ⟨⟩ (fun _ _ _ _ => ⟨⟩) ⟨⟩ (fun _ _ _ _ => ⟨⟩) x
theorem f2_eq {α : Type} (x : SV) (k : SV → α) : f2 x k = k x := by
 cases x <;> simp [f2, qatf, qag4, fB_eq, qafs f1_eq]
 rename_i b; cases b <;> rfl
noncomputable def fO {α : Type} (o : SObj) (k : SObj → α) : α := SObj.rec (fun t cs => qbfg f1 cs fun cs => k (.cells t cs)) (fun e z es => qbfg (qbfg f1) es fun es => k (.row e z es)) (fun I => k (.abs I)) o
theorem fO_eq {α : Type} (o : SObj) (k : SObj → α) : fO o k = k o := by cases o <;> simp [fO, qafs f1_eq, qafs (fun x k => qafs f1_eq x k)]
end Go.Proofs.YteoijlmgiemffaaGreat
namespace Go.Proofs.YteoijlmgiemffaaGreat
set_option linter.all false
open Go.RowKit
def SOp.sxs : SOp → List SX
 | .b2s x | .mkifc _ x | .asrt _ _ x | .mv x | .box _ x | .load x | .loads _ x | .nilc x | .un _ x | .conv _ x | .faddr _ x | .field _ _ x | .extr x _ | .len _ x => [x]
 | .pick c a b => [c, a, b]
 | .alloc _ _ => []
 | .build _ ps => ps.map (·.2.2)
 | .mkrow _ _ _ _ ps => ps.map (·.2)
 | .store _ x v | .bin _ x v | .eq _ _ x v | .eqs _ _ x v | .mkslice _ _ _ _ x v | .iaddr _ x v | .iarr _ _ x v | .idx _ _ _ x v | .idxs x v | .app _ _ _ x v | .mm _ x v => [x, v]
 | .slice _ x lo hi | .slstr x lo hi => x :: (lo.toList ++ hi.toList)
 | .mkfn _ a b => a ++ b
theorem qair {size : Nat} {g g' : Nat → Option SObj} {x : SV} (h : ∀ id ∈ idOf x, g id = g' id) : qadf size g x = qadf size g' x := by
 unfold qadf
 split <;> first | rfl | (rw [h _ (by simp [idOf])])
theorem qbek {op : SOp} {ev ev' : SX → SV} {g g' : Nat → Option SObj} {nx : Nat} (h : ∀ x ∈ op.sxs, ev x = ev' x) (hg : ∀ id ∈ op.touch ev, g id = g' id) : op.run ev g nx = op.run ev' g' nx := by
 cases op
 case load x =>
  have e := h x (by simp [SOp.sxs])
  simp only [SOp.touch] at hg
  simp only [SOp.run, ← e]
  split <;> first | rfl | (rename_i hq; rw [hg _ (by rw [hq]; simp [idOf])])
 case loads n x =>
  have e := h x (by simp [SOp.sxs])
  simp only [SOp.touch] at hg
  simp only [SOp.run, ← e]
  split <;> first | rfl | (rename_i hq; rw [hg _ (by rw [hq]; simp [idOf])])
 case store n x v =>
  have e := h x (by simp [SOp.sxs])
  have e2 := h v (by simp [SOp.sxs])
  simp only [SOp.touch] at hg
  simp only [SOp.run, ← e, ← e2]
  split
  ·rfl
  ·split
   ·split <;> first | rfl | (rename_i hq; rw [hg _ (by rw [hq]; simp [idOf])])
   ·rfl
 case b2s x =>
  have e2 := h x (by simp [SOp.sxs])
  simp only [SOp.touch] at hg
  simp only [SOp.run, ← e2]
  rw [qair (g := g) (g' := g') fun id hid => hg id hid]
 case app e size bytes s x =>
  have e1 := h s (by simp [SOp.sxs])
  have e2 := h x (by simp [SOp.sxs])
  simp only [SOp.touch] at hg
  simp only [SOp.run, ← e1, ← e2]
  rw [qair (g := g) (g' := g') fun id hid => hg id (List.mem_append_right _ hid)]
  split
  ·rfl
  ·split
   ·rfl
   ·rename_i hs; rw [hg _ (List.mem_append_left _ (by rw [hs]; simp [idOf]))]
   ·rfl
 case build z ps =>
  have e : (ps.map fun p => (p.1, p.2.1, ev p.2.2)) = ps.map fun p => (p.1, p.2.1, ev' p.2.2) := List.map_congr_left fun p hp => by rw [h p.2.2 (by simp [SOp.sxs]; exact ⟨_, _, hp⟩)]
  simp only [SOp.run, e]
 case mkrow e size n z ps =>
  have e : (ps.map fun p => (p.1, ev p.2)) = ps.map fun p => (p.1, ev' p.2) := List.map_congr_left fun p hp => by rw [h p.2 (by simp [SOp.sxs]; exact ⟨_, hp⟩)]
  simp only [SOp.run, e]
 case mkfn f gs bs =>
  have e1 : gs.map ev = gs.map ev' := List.map_congr_left fun p hp => h p (by simp [SOp.sxs, hp])
  have e2 : bs.map ev = bs.map ev' := List.map_congr_left fun p hp => h p (by simp [SOp.sxs, hp])
  simp only [SOp.run, e1, e2]
 case slice size x lo hi =>
  have e := h x (by simp [SOp.sxs])
  have e1 : lo.map ev = lo.map ev' := by cases lo with | none => rfl | some y => simp [h y (by simp [SOp.sxs])]
  have e2 : hi.map ev = hi.map ev' := by cases hi with | none => rfl | some y => simp [h y (by simp [SOp.sxs])]
  simp only [SOp.run, ← e, e1, e2]
 case slstr x lo hi =>
  have e := h x (by simp [SOp.sxs])
  have e1 : lo.map ev = lo.map ev' := by cases lo with | none => rfl | some y => simp [h y (by simp [SOp.sxs])]
  have e2 : hi.map ev = hi.map ev' := by cases hi with | none => rfl | some y => simp [h y (by simp [SOp.sxs])]
  simp only [SOp.run, ← e, e1, e2]
 all_goals simp only [SOp.sxs, List.mem_cons, List.not_mem_nil, or_false, forall_eq_or_imp, forall_eq, false_implies, implies_true] at h
 all_goals first
  | (obtain ⟨e1, e2, e3⟩ := h; simp only [SOp.run, ← e1, ← e2, ← e3]; done)
  | (obtain ⟨e1, e2⟩ := h; simp only [SOp.run, ← e1, ← e2]; done)
  | (simp only [SOp.run, ← h]; done)
  | (simp only [SOp.run]; done)
def qagg : List SX → List Nat
 | [] => []
 | .t n :: l => n :: qagg l
 | .c _ :: l => qagg l
def SOper.reads (o : SOper) : List Nat := (match o.cal with
 | some (f, args) => qagg (f :: args)
 | none => qagg o.op.sxs) ++ (match o.grd with
 | some (t, _) => [t]
 | none => [])
theorem qaix {l l' : Sl} : ∀ {xs : List SX}, (∀ t ∈ qagg xs, gets l t = gets l' t) → ∀ x ∈ xs, SX.ev l x = SX.ev l' x
 | [], _, x, hx => by cases hx
 | .t n :: xs, h, x, hx => by
  rcases List.mem_cons.1 hx with e | e
  ·subst e; exact h n (by simp [qagg])
  ·exact qaix (xs := xs) (fun t ht => h t (by simp [qagg, ht])) x e
 | .c v :: xs, h, x, hx => by
  rcases List.mem_cons.1 hx with e | e
  ·subst e; rfl
  ·exact qaix (xs := xs) (fun t ht => h t (by simpa [qagg] using ht)) x e
end Go.Proofs.YteoijlmgiemffaaGreat
namespace Go.Proofs.YteoijlmgiemffaaGreat
set_option linter.all false
open Go.RowKit
structure Eff where
 dst : Option Nat
 v : SV
 wr : List Nat
 c : Nat → Option SObj
def Eff.at (e : Eff) (t t' : SSt) : Prop :=
 (∀ x, gets t'.sl x = if e.dst = some x then e.v else gets t.sl x) ∧ ∀ id, geth t'.hp id = if id ∈ e.wr then e.c id else geth t.hp id
variable {X : Cx} {s : SSt}
def Loc (X : Cx) (ops : Array Oper) (o : Oper) (reads rd : List Nat) (lo hi : Nat) (s : SSt) (e : Eff) : Prop :=
 ∀ (t : SSt) (ρ : qacu) (fp : Nat → Nat → Prop) (a : Act) (w : World), Sim X ρ fp t a w → (∀ y ∈ reads, gets t.sl y = gets s.sl y) → (∀ id, id ∈ rd ∨ id ∈ e.wr → geth t.hp id = geth s.hp id) → (∀ id, lo ≤ id → id < hi → ρ id = none) →
  ∀ (K : Act → World → Prop) (R : Exit → Act → World → Prop), (∀ t' ρ' fp' a' w', e.at t t' → Sim X ρ' fp' t' a' w' → (∀ id, ρ' id ≠ none → ρ id ≠ none ∨ (lo ≤ id ∧ id < hi)) → K a' w') →
   if Region.wanted o (yielded ops a.tmps) = true then o.wp X.P a w K R else K (a.put o.dst undef) w
theorem qae6 (l : Sl) (d : Option Nat) (v : SV) (x : Nat) : gets (putd l d v) x = if d = some x then v else gets l x := by
 cases d with
 | none => simp [putd]
 | some d => simp only [putd, qahe, Option.some.injEq, eq_comm]
def qa53 : Upd → Nat → Option SObj → Option SObj
 | [], _, x => x
 | (i, o) :: u, id, x => qa53 u id (if i = id then o else x)
theorem qahf : ∀ (u : Upd) (h : Hp) (id : Nat), geth (upds h u) id = qa53 u id (geth h id)
 | [], h, id => rfl
 | (i, some o) :: u, h, id => by
  rw [upds, qahf u, qac7, qa53]
  by_cases e : id = i
  ·simp [e]
  ·simp [e, Ne.symm e]
 | (i, none) :: u, h, id => by
  rw [upds, qahf u, qahg, qa53]
  by_cases e : id = i
  ·simp [e]
  ·simp [e, Ne.symm e]
theorem qas3 {u : Upd} {id : Nat} : ∀ {x}, id ∉ u.map (·.1) → qa53 u id x = x := by
 induction u with
 | nil => intro x _; rfl
 | cons p u ih =>
  obtain ⟨i, o⟩ := p
  intro x h
  simp only [List.map_cons, List.mem_cons, not_or] at h
  rw [qa53, if_neg (Ne.symm h.1)]
  exact ih h.2
theorem qas4 {u : Upd} {id : Nat} : ∀ {x y}, id ∈ u.map (·.1) → qa53 u id x = qa53 u id y := by
 induction u with
 | nil => intro x y h; simp at h
 | cons p u ih =>
  obtain ⟨i, o⟩ := p
  intro x y h
  simp only [List.map_cons, List.mem_cons] at h
  rw [qa53, qa53]
  by_cases e : i = id
  ·simp [e]
  ·rw [if_neg e, if_neg e]
   exact ih (h.resolve_left (Ne.symm e))
theorem qaj3 : ∀ {h : Hp} {id : Nat} {o : SObj}, geth h id = some o → id ∈ idsH h
 | [], id, o, h => by cases h
 | (i, x) :: r, id, o, h => by
  by_cases e : i = id
  ·subst e; simp [idsH]
  ·simp only [geth, if_neg e] at h
   exact List.mem_cons_of_mem _ (qaj3 h)
theorem qanx : ∀ {h : Hp} {id : Nat}, id ∈ idsH h → geth h id ≠ none
 | [], id, h => by cases h
 | (i, x) :: r, id, h => by
  by_cases e : i = id
  ·subst e; simp [geth]
  ·simp only [geth, if_neg e]
   simp only [idsH, List.map_cons, List.mem_cons] at h
   exact qanx (h.resolve_left (Ne.symm e))
def Stp (X : Cx) (ops : Array Oper) (o : Oper) (so : SOper) (s s' : SSt) (x : Tch) : Prop :=
 s.nx ≤ s'.nx ∧ ∃ e : Eff, e.dst = so.dst ∧ e.wr = x.wr ∧ e.at s s' ∧ Loc X ops o so.reads x.rd s.nx s'.nx s e
theorem qa4z {ops : Array Oper} {o : Oper} {b : Nat} {so : SOper} (hc : qbj3 X.P X.N ops o b = some so) (hw : ∀ (t : SSt) ρ fp a w, Sim X ρ fp t a w → (∀ y ∈ so.reads, gets t.sl y = gets s.sl y) → Region.wanted o (yielded ops a.tmps) = false) : Stp X ops o so s (s.skip so) ⟨[], []⟩ := by
 obtain ⟨hdst, hd, _, _, _⟩ := qae8 hc
 refine ⟨Nat.le_refl _, ⟨so.dst, .tup [], [], fun _ => none⟩, rfl, rfl, ⟨fun x => qae6 _ _ _ _, fun id => by simp [SSt.skip]⟩, ?_⟩
 intro t ρ fp a w h hr _ _ K R hK
 rw [hw t ρ fp a w h hr]
 simp only [Bool.false_eq_true, if_false]
 refine hK ⟨putd t.sl so.dst (.tup []), t.hp, t.nx⟩ ρ fp _ _ ⟨fun x => qae6 _ _ _ _, fun id => by simp⟩ ?_ (fun id hid => .inl hid)
 have := h.put (nx' := t.nx) h.h (.refl _ _ _) (RepV.tup (cs := []) (vs := []) rfl (by simp)) (dst := so.dst) (by rw [hdst]; exact hd)
 rw [hdst] at this ⊢
 exact this
theorem qbht {ops : Array Oper} {o : Oper} {b : Nat} {so : SOper} (hc : qbj3 X.P X.N ops o b = some so) (hle : X.m ≤ s.nx) {K : SSt → Tch → Prop} (hk : SOp1 X.P so s K) (hw : ∀ (t : SSt) ρ fp a w, Sim X ρ fp t a w → (∀ y ∈ so.reads, gets t.sl y = gets s.sl y) → Region.wanted o (yielded ops a.tmps) = true) : ∃ s' x, K s' x ∧ Stp X ops o so s s' x := by
 obtain ⟨hdst, hd, _, _, hop⟩ := qae8 hc
 unfold SOp1 at hk
 rcases hop with ⟨hcal, hop⟩ | ⟨f, args, g, gs, tys, hcal, hop, hf, hargs⟩ | ⟨r, args, nm, g, gs, tys, hcal, hop, hf, hargs⟩
 ·rw [hcal] at hk
  simp only at hk
  split at hk
  ·rename_i v u nx' hr
   replace hop := hop.resolve_right fun e => by rw [e] at hr; simp [SOp.run, SX.ev] at hr
   refine ⟨_, _, hk, Nat.le_succ _, ⟨so.dst, v, u.map (·.1), fun id => qa53 u id none⟩, rfl, rfl, ⟨fun x => qae6 _ _ _ _, fun id => ?_⟩, ?_⟩
   ·rw [qahf]
    split
    ·exact qas4 ‹_›
    ·exact qas3 ‹_›
   ·intro t ρ fp a w h hrd hobj hfr K' R hK
    rw [if_pos (hw t ρ fp a w h hrd)]
    have hsub : ∀ y ∈ qagg so.op.sxs, gets s.sl y = gets t.sl y := fun y hy => (hrd y (by simp [SOper.reads, hcal, hy])).symm
    have hev := qaix hsub
    have hr2 : so.op.run (·.ev t.sl) (geth t.hp) s.nx = some (v, u, nx') := by
     rw [← hr]
     exact (qbek hev fun id hid => (hobj id (.inl hid)).symm).symm
    obtain ⟨v', w', h1, ρ', fp', h2, h3, h4, h5⟩ := op_ok h.h h.slots hop hle (hfr _ (Nat.le_refl _) (Nat.lt_succ_self _)) hr2
    refine (h1 o rfl).upon (hK ⟨putd t.sl so.dst v, upds t.hp u, t.nx⟩ ρ' fp' _ _ ⟨fun x => qae6 _ _ _ _, fun id => ?_⟩ ?_ (fun id hid => (h5 id hid).imp (fun h => h) fun e => by simp only; omega))
    ·show geth (upds t.hp u) id = _
     rw [qahf]
     split
     ·exact qas4 ‹_›
     ·exact qas3 ‹_›
    ·have := h.put (nx' := t.nx) h2 h4 h3 (dst := so.dst) (by rw [hdst]; exact hd)
     rw [hdst] at this ⊢; exact this
  ·cases hk
 all_goals
  have fin : ∀ {g' : FuncId} {args' : List SV} {h1 h2 : Hp} {r : SV} {nn : Nat} (rd2 rd : List Nat), SCalls X.P g' args' h1 s.nx r h2 nn → SubH s.hp h1 → Uniq h2 → (∀ id ∈ rd, geth h2 id = geth h1 id) → K ⟨putd s.sl so.dst r, qab3 s.hp h1 h2, s.nx + nn⟩ ⟨rd2 ++ rd, (idsH h1 ++ idsH h2).filter fun i => !rd.contains i⟩ →
    (∀ (t : SSt) ρ fp (a : Act) w, Sim X ρ fp t a w → (∀ y ∈ so.reads, gets t.sl y = gets s.sl y) → (∀ id ∈ rd2, geth t.hp id = geth s.hp id) → ∃ vals : List Value, (execOp a.eval o).run X.P w = .ok (.enter g' vals.toArray) w ∧ Reps w (Av X t.hp fp) ρ args' vals) → ∃ s' x, K s' x ∧ Stp X ops o so s s' x := by
   rintro g' args' h1 h2 r nn rd2 rd ⟨hent, hcall⟩ hsub hu hrd0 hk hruns
   have mem_ids : ∀ {h : Hp} {id : Nat} {o : SObj}, geth h id = some o → id ∈ idsH h := fun h => qaj3 h
   have heff : ∀ t : SSt, (∀ id, id ∈ rd ∨ id ∈ (idsH h1 ++ idsH h2).filter (fun i => !rd.contains i) → geth t.hp id = geth s.hp id) → ∀ id, geth (qab3 t.hp h1 h2) id = if id ∈ (idsH h1 ++ idsH h2).filter (fun i => !rd.contains i) then geth h2 id else geth t.hp id := by
    intro t ht id
    rw [qagb hu]
    by_cases hin : id ∈ (idsH h1 ++ idsH h2).filter (fun i => !rd.contains i)
    ·rw [if_pos hin]
     cases e : geth h2 id with
     | some o => rfl
     | none =>
      simp only
      split
      ·rfl
      ·rename_i h3
       have h3' : geth h1 id = none := by simpa using h3
       rw [List.mem_filter, List.mem_append] at hin
       exfalso
       rcases hin.1 with h4 | h4
       ·exact qanx h4 h3'
       ·exact qanx h4 e
    ·rw [if_neg hin]
     by_cases hr : id ∈ rd
     ·rw [hrd0 id hr]
      cases e : geth h1 id with
      | none => simp
      | some o =>
       simp only
       rw [ht id (.inl hr), hsub.get id o e]
     ·have hni : id ∉ idsH h1 ++ idsH h2 := fun h3 => hin (List.mem_filter.2 ⟨h3, by simpa using hr⟩)
      rw [List.mem_append, not_or] at hni
      have n1 : geth h1 id = none := by
       cases e : geth h1 id with
       | none => rfl
       | some o => exact absurd (mem_ids e) hni.1
      have n2 : geth h2 id = none := by
       cases e : geth h2 id with
       | none => rfl
       | some o => exact absurd (mem_ids e) hni.2
      rw [n1, n2]; simp
   refine ⟨_, _, hk, by simp only; omega, ⟨so.dst, r, (idsH h1 ++ idsH h2).filter (fun i => !rd.contains i), geth h2⟩, rfl, rfl, ⟨fun x => qae6 _ _ _ _, heff s fun _ _ => rfl⟩, ?_⟩
   intro t ρ fp a w h hrd hobj0 hfr K' R hK
   rw [if_pos (hw t ρ fp a w h hrd)]
   have hobj : ∀ id, id ∈ rd ∨ id ∈ (idsH h1 ++ idsH h2).filter (fun i => !rd.contains i) → geth t.hp id = geth s.hp id := fun id h3 => hobj0 id (h3.imp (fun h4 => List.mem_append_right _ h4) fun h4 => h4)
   obtain ⟨vals, hrun, hreps0⟩ := hruns t ρ fp a w h hrd fun id h3 => hobj0 id (.inl (List.mem_append_left _ h3))
   have hsub' : ∀ id o, geth h1 id = some o → geth t.hp id = some o := fun id o ho => by
    rw [hobj id ?_]
    ·exact hsub.get id o ho
    ·by_cases hr : id ∈ rd
     ·exact .inl hr
     ·exact .inr (List.mem_filter.2 ⟨List.mem_append_left _ (mem_ids ho), by simpa using hr⟩)
   have hav : ∀ k, (Rest X fp t.hp h1 k ∨ Live h1 fp k) → Av X t.hp fp k := fun k hk => (Rest.av hsub' k).1 hk
   have hreps := hreps0.weaken fun k hk _ => hav k hk
   have := hcall (Rest X fp t.hp h1) ρ fp w _ (h.h.part hsub') hreps hfr
   unfold Oper.wp
   rw [hrun, Oper.upon_enter]
   refine this.mono ?_
   rintro e w' ⟨v, ρ', fp', rfl, q1, q2, q3, q4, q5, q6⟩
   obtain ⟨p1, p2, p3⟩ := h.h.called hsub' hu (q := s.nx) hle q1 q3 q4 q5 q6
   refine hK ⟨putd t.sl so.dst r, qab3 t.hp h1 h2, t.nx⟩ ρ' (fun id k => (geth h2 id ≠ none ∧ fp' id k) ∨ (geth h2 id = none ∧ fp id k)) _ _ ⟨fun x => qae6 _ _ _ _, heff t hobj⟩ ?_ q5
   have := h.put (nx' := t.nx) p1 p2 (q2.weaken fun k hk _ => p3 k hk) (dst := so.dst) (by rw [hdst]; exact hd)
   rw [hdst] at this ⊢; exact this
  have hobjm : ∀ {hm : Hp} {t : SSt} {ρ : qacu} {fp : Nat → Nat → Prop} {a : Act} {w : World}, SubH s.hp hm → Sim X ρ fp t a w → (∀ id ∈ idsH hm, geth t.hp id = geth s.hp id) → ∀ id o, geth hm id = some o → ∃ fp', ObjRep w (Av X t.hp fp) ρ id fp' o := fun hs h ht id o ho => ⟨_, h.h.objs id o (by rw [ht id (qaj3 ho)]; exact hs.get id o ho)⟩
 ·rw [hcal] at hk
  simp only at hk
  have hsubt : ∀ {t : SSt}, (∀ y ∈ so.reads, gets t.sl y = gets s.sl y) → ∀ y ∈ qagg (f :: args), gets s.sl y = gets t.sl y := fun hrd y hy => (hrd y (by simp [SOper.reads, hcal, hy])).symm
  split at hk
  ·rename_i g' first cap hfv
   obtain ⟨h1, r, h2, rd, nn, hS, hsub, hu, hrd0, hk⟩ := hk
   refine fin [] rd hS hsub hu hrd0 hk fun t ρ fp a w h hrd _ => ?_
   have hev := qaix (hsubt hrd)
   have hfv2 : f.ev t.sl = .fn (.func g') first cap := by rw [← hev f (by simp)]; exact hfv
   have hargs2 : args.map (·.ev t.sl) = args.map (·.ev s.sl) := List.map_congr_left fun x hx => (hev x (by simp [hx])).symm
   have rf := qab6 hf h.slots
   rw [hfv2] at rf
   have rargs := qaft hargs h.slots
   rw [hargs2] at rargs
   generalize hgv : a.eval g = gv at rf
   cases rf with
   | fn l1 l2 r1 r2 =>
    rename_i vs us
    refine ⟨vs ++ gs.toList.map a.eval ++ us, ?_, Reps.append (Reps.append ⟨l1, r1⟩ rargs) ⟨l2, r2⟩⟩
    have e1 : (vs.toArray ++ gs.map a.eval ++ us.toArray) = (vs ++ gs.toList.map a.eval ++ us).toArray := by apply Array.ext'; simp
    simp only [execOp, hop, resolve, hgv, Deferred.ofValue, Sem.run_bind, Sem.run_pure, Result.andThen_ok, invoke, e1]
    exact hS.ent _ _
  ·rename_i nm hfv
   split at hk
   ·rename_i tt x az hav
    obtain ⟨hm, x', g', h1, r, h2, rd, nn, hsm, hM, hS, hsub, hu, hrd0, hk⟩ := hk
    refine fin (idsH hm) rd hS hsub hu hrd0 hk fun t ρ fp a w h hrd hrd2 => ?_
    have hev := qaix (hsubt hrd)
    have hfv2 : f.ev t.sl = .fn (.method nm) [] [] := by rw [← hev f (by simp)]; exact hfv
    have hargs2 : args.map (·.ev t.sl) = args.map (·.ev s.sl) := List.map_congr_left fun x hx => (hev x (by simp [hx])).symm
    have rf := qab6 hf h.slots
    rw [hfv2] at rf
    have rargs := qaft hargs h.slots
    rw [hargs2, show args.map (·.ev s.sl) = .ifc tt x :: az from hav] at rargs
    generalize hgv : a.eval g = gv at rf
    cases rf with
    | fn l1 l2 r1 r2 =>
     rename_i vs us
     obtain rfl := List.eq_nil_of_length_eq_zero l1.symm
     obtain rfl := List.eq_nil_of_length_eq_zero l2.symm
     obtain ⟨v', avs, h3, h4⟩ := qaju (hobjm hsm h hrd2) hM hS.ent rargs
     refine ⟨v' :: avs, ?_, h4⟩
     have e1 : (([] : List Value).toArray ++ gs.map a.eval) = (gs.toList.map a.eval).toArray := by apply Array.ext'; simp
     simp only [execOp, hop, resolve, hgv, Deferred.ofValue, Sem.run_bind, Sem.run_pure, Result.andThen_ok, e1]
     exact h3
   ·cases hk
  ·cases hk
 ·rw [hcal] at hk
  simp only [SX.ev] at hk
  have hsubt : ∀ {t : SSt}, (∀ y ∈ so.reads, gets t.sl y = gets s.sl y) → ∀ y ∈ qagg (r :: args), gets s.sl y = gets t.sl y := fun hrd y hy => (hrd y (by
   have : y ∈ qagg (SX.c (.fn (.method nm) [] []) :: r :: args) := by simpa [qagg] using hy
   simp only [SOper.reads, hcal]; first | exact List.mem_append_right _ (List.mem_append_left _ this) | simp [this])).symm
  split at hk
  ·rename_i tt x az hav
   obtain ⟨hm, x', g', h1, rr, h2, rd, nn, hsm, hM, hS, hsub, hu, hrd0, hk⟩ := hk
   refine fin (idsH hm) rd hS hsub hu hrd0 hk fun t ρ fp a w h hrd hrd2 => ?_
   have hev := qaix (hsubt hrd)
   have hargs2 : (r :: args).map (·.ev t.sl) = (r :: args).map (·.ev s.sl) := List.map_congr_left fun x hx => (hev x hx).symm
   have rf := qab6 hf h.slots
   have rargs := qaft hargs h.slots
   have rall : Reps w (Av X t.hp fp) ρ (.ifc tt x :: az) (a.eval g :: gs.toList.map a.eval) := by
    have := Reps.cons rf rargs
    have e : (r :: args).map (·.ev s.sl) = .ifc tt x :: az := hav
    rw [← e, ← hargs2]; exact this
   obtain ⟨v', avs, h3, h4⟩ := qaju (hobjm hsm h hrd2) hM hS.ent rall
   refine ⟨v' :: avs, ?_, h4⟩
   have e1 : (#[a.eval g] ++ gs.map a.eval) = (a.eval g :: gs.toList.map a.eval).toArray := by apply Array.ext'; simp
   simp only [execOp, hop, resolve, Sem.run_bind, Sem.run_pure, Result.andThen_ok, e1]
   exact h3
  ·cases hk
end Go.Proofs.YteoijlmgiemffaaGreat
namespace Go.Proofs.YteoijlmgiemffaaGreat
set_option linter.all false
open Go.RowKit
def qbj8 (a b : SOper × Tch) : Bool :=
 (match a.1.dst with | some d => b.1.reads.contains d || b.1.dst == some d | none => false) || (match b.1.dst with | some d => a.1.reads.contains d | none => false) ||
  a.2.wr.any (fun i => b.2.rd.contains i || b.2.wr.contains i) || b.2.wr.any fun i => a.2.rd.contains i
def qans (l : List (SOper × Tch)) : Bool :=
 (List.range l.length).all fun j => (List.range j).all fun i => match l[i]?, l[j]? with
  | some a, some b => !qbj8 a b || b.1.bef.testBit i
  | _, _ => true
theorem qat5 {l : List (SOper × Tch)} (h : qans l = true) {i j : Nat} {a b : SOper × Tch} (hij : i < j) (ha : l[i]? = some a) (hb : l[j]? = some b) (hc : qbj8 a b = true) : b.1.bef.testBit i = true := by
 have hj : j < l.length := (List.getElem?_eq_some_iff.1 hb).1
 have h1 := List.all_eq_true.1 (List.all_eq_true.1 h j (List.mem_range.2 hj)) i (List.mem_range.2 hij)
 simpa [ha, hb, hc] using h1
def befG (acc : Array Nat) (o : Oper) : Nat := o.after.foldl (fun s e => if Region.binds .any e then s ||| 2 ^ e.on ||| acc.getD e.on 0 else s) 0
theorem qbhb (acc : Array Nat) (o : Oper) (i : Nat) (h : (befG acc o).testBit i = true) : ∃ e ∈ o.after.toList, Region.binds .any e = true ∧ (e.on = i ∨ (acc.getD e.on 0).testBit i = true) := by
 unfold befG at h
 rw [← Array.foldl_toList] at h
 have gen : ∀ (l : List Edge) (s : Nat), (l.foldl (fun s e => if Region.binds .any e then s ||| 2 ^ e.on ||| acc.getD e.on 0 else s) s).testBit i = true → s.testBit i = true ∨ ∃ e ∈ l, Region.binds .any e = true ∧ (e.on = i ∨ (acc.getD e.on 0).testBit i = true) := by
  intro l
  induction l with
  | nil => intro s h; exact .inl h
  | cons e l ih =>
   intro s h
   rw [List.foldl_cons] at h
   rcases ih _ h with h1 | ⟨e', h1, h2⟩
   ·split at h1
    ·rename_i hb
     rw [Nat.testBit_or, Nat.testBit_or, Bool.or_eq_true, Bool.or_eq_true] at h1
     rcases h1 with (h1 | h1) | h1
     ·exact .inl h1
     ·rw [Nat.testBit_two_pow] at h1
      exact .inr ⟨e, by simp, hb, .inl (by simpa using h1)⟩
     ·exact .inr ⟨e, by simp, hb, .inr h1⟩
    ·exact .inl h1
   ·exact .inr ⟨e', by simp [h1], h2⟩
 rcases gen _ _ h with h1 | h1
 ·simp at h1
 ·exact h1
theorem qa4h (ops : Array Oper) : (Region.before ops).size = ops.size ∧ ∀ (j : Nat) o, ops[j]? = some o → ∀ i, ((Region.before ops).getD j 0).testBit i = true → ∃ e ∈ o.after.toList, Region.binds .any e = true ∧ (e.on = i ∨ ((Region.before ops).getD e.on 0).testBit i = true) := by
 unfold Region.before
 rw [← Array.foldl_toList]
 have gen : ∀ (l done : List Oper) (acc : Array Nat), acc.size = done.length → (∀ (j : Nat) o, done[j]? = some o → ∀ i, (acc.getD j 0).testBit i = true → ∃ e ∈ o.after.toList, Region.binds .any e = true ∧ (e.on = i ∨ (acc.getD e.on 0).testBit i = true)) →
   (l.foldl (fun acc o => acc.push (befG acc o)) acc).size = (done ++ l).length ∧ ∀ (j : Nat) o, (done ++ l)[j]? = some o → ∀ i, ((l.foldl (fun acc o => acc.push (befG acc o)) acc).getD j 0).testBit i = true → ∃ e ∈ o.after.toList, Region.binds .any e = true ∧ (e.on = i ∨ ((l.foldl (fun acc o => acc.push (befG acc o)) acc).getD e.on 0).testBit i = true) := by
  intro l
  induction l with
  | nil => intro done acc h1 h2; rw [List.append_nil]; exact ⟨h1, h2⟩
  | cons o l ih =>
   intro done acc h1 h2
   have up : ∀ k i, (acc.getD k 0).testBit i = true → ((acc.push (befG acc o)).getD k 0).testBit i = true := fun k i h => by
    rw [Array.getD_eq_getD_getElem?] at h ⊢
    cases e : acc[k]? with
    | none => rw [e] at h; simp at h
    | some x =>
     have hk : k < acc.size := (Array.getElem?_eq_some_iff.1 e).1
     rw [Array.getElem?_push, if_neg (by omega), e]
     rw [e] at h; exact h
   have := ih (done ++ [o]) (acc.push (befG acc o)) (by simp [h1]) (fun j o' hj i hi => by
    by_cases hjd : j < done.length
    ·rw [List.getElem?_append_left hjd] at hj
     rw [Array.getD_eq_getD_getElem?, Array.getElem?_push, if_neg (by omega), ← Array.getD_eq_getD_getElem?] at hi
     obtain ⟨e, q1, q2, q3⟩ := h2 j o' hj i hi
     exact ⟨e, q1, q2, q3.imp (fun h => h) (up _ _)⟩
    ·rw [List.getElem?_append_right (by omega)] at hj
     have hj0 : j = done.length := by have := (List.getElem?_eq_some_iff.1 hj).1; simp at this; omega
     subst hj0
     simp at hj
     subst hj
     rw [Array.getD_eq_getD_getElem?, Array.getElem?_push, if_pos h1.symm] at hi
     obtain ⟨e, q1, q2, q3⟩ := qbhb acc o i hi
     exact ⟨e, q1, q2, q3.imp (fun h => h) (up _ _)⟩)
   rw [List.append_assoc] at this
   exact this
 have := gen ops.toList [] #[] rfl (fun j o h => by simp at h)
 refine ⟨by have h := this.1; rw [List.nil_append, Array.length_toList] at h; exact h, fun j o hj => this.2 j o (by simpa using hj)⟩
theorem qaiy : ∀ {l : List Oper} {k : Nat}, qbfi k l = true → ∀ (j : Nat) o, l[j]? = some o → ∀ e ∈ o.after.toList, Region.binds .any e = true → e.on < k + j
 | [], k, _, j, o, ho, _, _, _ => by simp at ho
 | o :: l, k, h, j, o', ho, e, he, hb => by
  simp only [qbfi, Bool.and_eq_true] at h
  cases j with
  | zero =>
   simp at ho; subst ho
   have := List.all_eq_true.1 h.1 e he
   simpa [hb] using this
  | succ j =>
   have := qaiy h.2 j o' (by simpa using ho) e he hb
   omega
structure Ent where
 o : Oper
 so : SOper
 s : SSt
 s' : SSt
 x : Tch
 e : Eff
variable {X : Cx}
def qbli (X : Cx) (ops : Array Oper) (t : Ent) : Prop := t.s.nx ≤ t.s'.nx ∧ t.e.dst = t.so.dst ∧ t.e.wr = t.x.wr ∧ t.e.at t.s t.s' ∧ Loc X ops t.o t.so.reads t.x.rd t.s.nx t.s'.nx t.s t.e
def Chain (s : SSt) : List Ent → SSt → Prop
 | [], t => s = t
 | e :: es, t => e.s = s ∧ Chain e.s' es t
theorem qa4y {ops : Array Oper} {Q : SSt → List Tch → Prop} : ∀ (l : List Oper) (bs : List Nat) (sos : List SOper), qagv X.P X.N ops l bs = some sos → ∀ (s : SSt) (tr : List Tch), X.m ≤ s.nx → SOps X.P sos s tr Q →
  ∃ es sN, Chain s es sN ∧ (∀ t ∈ es, qbli X ops t) ∧ es.map (·.o) = l ∧ es.map (·.so) = sos ∧ Q sN ((es.map (·.x)).reverse ++ tr) := by
 intro l
 induction l with
 | nil =>
  intro bs sos hc s tr hle hk
  simp only [qagv, Option.some.injEq] at hc
  subst hc
  exact ⟨[], s, rfl, by simp, rfl, rfl, hk⟩
 | cons o l ih =>
  intro bs sos hc s tr hle hk
  obtain ⟨so, r, rfl, hso, hr⟩ := qagu hc
  obtain ⟨hdst, hd, hg, _, _⟩ := qae8 hso
  have gd : ∀ (t : SSt) ρ fp a w, Sim X ρ fp t a w → _ := fun t ρ fp a w h => qa56 (s := t) hg h
  have join : ∀ s' x, Stp X ops o so s s' x → SOps X.P r s' (x :: tr) Q → ∃ es sN, Chain s es sN ∧ (∀ t ∈ es, qbli X ops t) ∧ es.map (·.o) = o :: l ∧ es.map (·.so) = so :: r ∧ Q sN ((es.map (·.x)).reverse ++ tr) := by
   rintro s' x ⟨h1, e, h2, h3, h4, h5⟩ hk'
   obtain ⟨es, sN, q1, q2, q3, q4, q5⟩ := ih _ _ hr s' (x :: tr) (Nat.le_trans hle h1) hk'
   refine ⟨⟨o, so, s, s', x, e⟩ :: es, sN, ⟨rfl, q1⟩, fun t ht => ?_, by simp [q3], by simp [q4], by simpa using q5⟩
   rcases List.mem_cons.1 ht with ht | ht
   ·subst ht; exact ⟨h1, h2, h3, h4, h5⟩
   ·exact q2 t ht
  simp only [SOps] at hk
  cases hgr : so.grd with
  | none =>
   rw [hgr] at hk
   obtain ⟨s', x, h1, h2⟩ := qbht hso hle hk fun t ρ fp a w h _ => (gd t ρ fp a w h).1 hgr
   exact join s' x h2 h1
  | some tw =>
   obtain ⟨t0, want⟩ := tw
   rw [hgr] at hk
   have hin : t0 ∈ so.reads := by simp [SOper.reads, hgr]
   simp only at hk
   split at hk
   ·rename_i b hb
    by_cases hbw : b = want
    ·obtain ⟨s', x, h1, h2⟩ := qbht hso hle (hk.1 hbw) fun t ρ fp a w h hrd => by
      rw [((gd t ρ fp a w h).2 t0 want hgr).1 b (by rw [hrd t0 hin]; exact hb)]; simpa using hbw
     exact join s' x h2 h1
    ·exact join _ _ (qa4z hso fun t ρ fp a w h hrd => by
      rw [((gd t ρ fp a w h).2 t0 want hgr).1 b (by rw [hrd t0 hin]; exact hb)]; simpa using hbw) (hk.2 hbw)
   ·rename_i hb
    exact join _ _ (qa4z hso fun t ρ fp a w h hrd => ((gd t ρ fp a w h).2 t0 want hgr).2 (by rw [hrd t0 hin]; exact hb)) hk
   ·cases hk
inductive Rs where
 | sl (t : Nat)
 | ob (id : Nat)
def Ent.W (t : Ent) : Rs → Prop
 | .sl y => t.e.dst = some y
 | .ob id => id ∈ t.e.wr
def Ent.L (t : Ent) : Rs → Prop
 | .sl y => y ∈ t.so.reads ∨ t.e.dst = some y
 | .ob id => id ∈ t.x.rd ∨ id ∈ t.e.wr
def Lw (es : List Ent) (S : Nat → Prop) (r : Rs) : Option Nat → Prop
 | some k => S k ∧ (∃ t, es[k]? = some t ∧ t.W r) ∧ ∀ k', k < k' → S k' → ∀ t, es[k']? = some t → ¬ t.W r
 | none => ∀ k, S k → ∀ t, es[k]? = some t → ¬ t.W r
def Inv (es : List Ent) (s0 : SSt) (S : Nat → Prop) (t : SSt) : Prop :=
 (∀ y, ∃ o, Lw es S (.sl y) o ∧ gets t.sl y = match o with | some k => ((es[k]?).map (·.e.v)).getD .any | none => gets s0.sl y) ∧
 ∀ id, ∃ o, Lw es S (.ob id) o ∧ geth t.hp id = match o with | some k => ((es[k]?).map (·.e.c id)).getD none | none => geth s0.hp id
theorem Ent.W_L {t : Ent} {r : Rs} (h : t.W r) : t.L r := by cases r <;> exact .inr h
theorem Lw.uniq {es : List Ent} {S : Nat → Prop} {r : Rs} {o o' : Option Nat} (h : Lw es S r o) (h' : Lw es S r o') : o = o' := by
 cases o with
 | none =>
  cases o' with
  | none => rfl
  | some k => obtain ⟨h1, ⟨t, h2, h3⟩, _⟩ := h'; exact absurd h3 (h k h1 t h2)
 | some k =>
  obtain ⟨h1, ⟨t, h2, h3⟩, h4⟩ := h
  cases o' with
  | none => exact absurd h3 (h' k h1 t h2)
  | some k' =>
   obtain ⟨g1, ⟨t', g2, g3⟩, g4⟩ := h'
   rcases Nat.lt_trichotomy k k' with e | e | e
   ·exact absurd g3 (h4 k' e g1 t' g2)
   ·rw [e]
   ·exact absurd h3 (g4 k e h1 t h2)
structure Ord (es : List Ent) (B : Nat → Nat → Prop) : Prop where
 ord : ∀ i j a b r, i < j → es[i]? = some a → es[j]? = some b → (a.W r ∧ b.L r) ∨ (a.L r ∧ b.W r) → B j i
theorem Lw.agree {es : List Ent} {B : Nat → Nat → Prop} (hB : Ord es B) {S : Nat → Prop} (hcl : ∀ j i, S j → B j i → S i) {j : Nat} {t : Ent} (hj : es[j]? = some t) (hnj : ¬ S j) (hdep : ∀ i, B j i → S i) {r : Rs} (hl : t.L r) {o o' : Option Nat} (h : Lw es S r o) (h' : Lw es (· < j) r o') : o = o' := by
 have lt_of : ∀ k u, S k → es[k]? = some u → u.W r → k < j := fun k u hk hu hw => by
  rcases Nat.lt_trichotomy k j with e | e | e
  ·exact e
  ·rw [e] at hk; exact absurd hk hnj
  ·exact absurd (hcl k j hk (hB.ord j k t u r e hj hu (.inr ⟨hl, hw⟩))) hnj
 have in_of : ∀ k u, k < j → es[k]? = some u → u.W r → S k := fun k u hk hu hw => hdep k (hB.ord k j u t r hk hu hj (.inl ⟨hw, hl⟩))
 have h2 : Lw es (· < j) r o := by
  cases o with
  | none => exact fun k hk u hu hw => h k (in_of k u hk hu hw) u hu hw
  | some k =>
   obtain ⟨h1, ⟨u, h2, h3⟩, h4⟩ := h
   exact ⟨lt_of k u h1 h2 h3, ⟨u, h2, h3⟩, fun k' hk hk' u' hu' hw => h4 k' hk (in_of k' u' hk' hu' hw) u' hu' hw⟩
 exact h2.uniq h'
theorem Lw.add {es : List Ent} {B : Nat → Nat → Prop} (hB : Ord es B) {S : Nat → Prop} (hcl : ∀ j i, S j → B j i → S i) {j : Nat} {t : Ent} (hj : es[j]? = some t) (hnj : ¬ S j) {r : Rs} {o : Option Nat} (h : Lw es S r o) :
  (t.W r → Lw es (fun k => S k ∨ k = j) r (some j)) ∧ (¬ t.W r → Lw es (fun k => S k ∨ k = j) r o) := by
 refine ⟨fun hw => ⟨.inr rfl, ⟨t, hj, hw⟩, fun k' hk hk' u hu hw' => ?_⟩, fun hw => ?_⟩
 ·rcases hk' with hk' | hk'
  ·exact hnj (hcl k' j hk' (hB.ord j k' t u r hk hj hu (.inl ⟨hw, Ent.W_L hw'⟩)))
  ·omega
 ·cases o with
  | none =>
   intro k hk u hu hw'
   rcases hk with hk | hk
   ·exact h k hk u hu hw'
   ·subst hk; rw [hj] at hu; cases hu; exact hw hw'
  | some k =>
   obtain ⟨h1, h2, h4⟩ := h
   refine ⟨.inl h1, h2, fun k' hk hk' u hu hw' => ?_⟩
   rcases hk' with hk' | hk'
   ·exact h4 k' hk hk' u hu hw'
   ·subst hk'; rw [hj] at hu; cases hu; exact hw hw'
theorem Chain.inv {ops : Array Oper} : ∀ {es : List Ent} {s0 sN : SSt}, Chain s0 es sN → (∀ t ∈ es, qbli X ops t) → ∀ (pre : List Ent) (s00 : SSt), Inv (pre ++ es) s00 (· < pre.length) s0 → (∀ (j : Nat) t, es[j]? = some t → Inv (pre ++ es) s00 (· < pre.length + j) t.s) ∧ Inv (pre ++ es) s00 (· < (pre ++ es).length) sN := by
 intro es
 induction es with
 | nil =>
  intro s0 sN hc _ pre s00 h
  obtain rfl : s0 = sN := hc
  exact ⟨fun j t ht => by simp at ht, by simpa using h⟩
 | cons t es ih =>
  intro s0 sN hc hok pre s00 h
  obtain ⟨rfl, hc⟩ := hc
  obtain ⟨_, _, _, hat, _⟩ := hok t (by simp)
  have hget : (pre ++ t :: es)[pre.length]? = some t := by simp
  have hnext : Inv (pre ++ t :: es) s00 (· < pre.length + 1) t.s' := by
   have hstep : ∀ r o, Lw (pre ++ t :: es) (· < pre.length) r o → (t.W r → Lw (pre ++ t :: es) (· < pre.length + 1) r (some pre.length)) ∧ (¬ t.W r → Lw (pre ++ t :: es) (· < pre.length + 1) r o) := fun r o ho => by
    refine ⟨fun hw => ⟨Nat.lt_succ_self _, ⟨t, hget, hw⟩, fun k' h1 h2 => by omega⟩, fun hw => ?_⟩
    cases o with
    | none =>
     intro k hk u hu hw'
     rcases Nat.lt_or_ge k pre.length with e | e
     ·exact ho k e u hu hw'
     ·obtain rfl : k = pre.length := by have hk' : k < pre.length + 1 := hk; omega
      rw [hget] at hu; cases hu; exact hw hw'
    | some k =>
     obtain ⟨h1, h2, h4⟩ := ho
     refine ⟨Nat.lt_succ_of_lt h1, h2, fun k' hk hk' u hu hw' => ?_⟩
     rcases Nat.lt_or_ge k' pre.length with e | e
     ·exact h4 k' hk e u hu hw'
     ·obtain rfl : k' = pre.length := by have hk2 : k' < pre.length + 1 := hk'; omega
      rw [hget] at hu; cases hu; exact hw hw'
   refine ⟨fun y => ?_, fun id => ?_⟩
   ·obtain ⟨o, ho, hv⟩ := h.1 y
    obtain ⟨q1, q2⟩ := hstep (.sl y) o ho
    rw [hat.1 y]
    by_cases hw : t.e.dst = some y
    ·exact ⟨some pre.length, q1 hw, by rw [if_pos hw]; simp only [hget]; rfl⟩
    ·exact ⟨o, q2 hw, by rw [if_neg hw]; exact hv⟩
   ·obtain ⟨o, ho, hv⟩ := h.2 id
    obtain ⟨q1, q2⟩ := hstep (.ob id) o ho
    rw [hat.2 id]
    by_cases hw : id ∈ t.e.wr
    ·exact ⟨some pre.length, q1 hw, by rw [if_pos hw]; simp only [hget]; rfl⟩
    ·exact ⟨o, q2 hw, by rw [if_neg hw]; exact hv⟩
  have hre : pre ++ t :: es = (pre ++ [t]) ++ es := by simp
  rw [hre] at hnext h ⊢
  obtain ⟨r1, r2⟩ := ih hc (fun u hu => hok u (by simp [hu])) (pre ++ [t]) s00 (by simpa using hnext)
  refine ⟨fun j u hu => ?_, r2⟩
  cases j with
  | zero => simp at hu; subst hu; simpa using h
  | succ j =>
   have := r1 j u (by simpa using hu)
   rw [List.length_append, List.length_singleton] at this
   rw [show pre.length + (j + 1) = pre.length + 1 + j by omega]
   exact this
end Go.Proofs.YteoijlmgiemffaaGreat
namespace Go.Proofs.YteoijlmgiemffaaGreat
set_option linter.all false
open Go.RowKit
variable {X : Cx}
theorem qaiw {p q : Nat → Bool} : ∀ (l : List Nat) (i : Nat), i ∈ l → p i = true → q i = false → (∀ k, q k = true → p k = true) → (l.filter q).length < (l.filter p).length
 | [], i, h, _, _, _ => by cases h
 | x :: l, i, h, hp, hq, hpq => by
  have mono : ∀ l : List Nat, (l.filter q).length ≤ (l.filter p).length := fun l => by
   induction l with
   | nil => exact Nat.le_refl _
   | cons y l ih =>
    simp only [List.filter_cons]
    cases hy : q y with
    | true => rw [hpq y hy]; simp; exact ih
    | false => cases hy' : p y <;> simp <;> omega
  simp only [List.filter_cons]
  by_cases e : x = i
  ·subst e
   rw [hp, hq]
   have := mono l
   simp; omega
  ·have := qaiw l i ((List.mem_cons.1 h).resolve_left (Ne.symm e)) hp hq hpq
   cases hy : q x with
   | true => rw [hpq x hy]; simp; exact this
   | false => cases hy' : p x <;> simp <;> omega
theorem Sim.congr {ρ : qacu} {fp : Nat → Nat → Prop} {s t : SSt} {a : Act} {w : World} (h : Sim X ρ fp s a w) (h1 : ∀ y, gets t.sl y = gets s.sl y) (h2 : ∀ id, geth t.hp id = geth s.hp id) : Sim X ρ fp t a w := by
 have hL : Live t.hp fp = Live s.hp fp := by funext k; unfold Live; simp only [h2]
 have hA : Av X t.hp fp = Av X s.hp fp := by funext k; unfold Av; rw [hL]
 refine ⟨⟨fun id o ho => ?_, fun id id' o o' hne ho ho' => ?_, fun id o ho => ?_, h.h.step, h.h.keep⟩, h.tmps, h.defers, fun y => ?_⟩
 ·rw [hA]; exact h.h.objs id o (by rw [← h2]; exact ho)
 ·exact h.h.disj id id' o o' hne (by rw [← h2]; exact ho) (by rw [← h2]; exact ho')
 ·exact h.h.turn id o (by rw [← h2]; exact ho)
 ·rw [hA, h1]; exact h.slots y
theorem SimH.drew {ρ : qacu} {fp : Nat → Nat → Prop} {hp : Hp} {w : World} (h : SimH X ρ fp hp w) : SimH X ρ fp hp { w with drawn := w.drawn + 1 } ∧ Pres w (Av X hp fp) ρ { w with drawn := w.drawn + 1 } (Av X hp fp) ρ := by
 have hst : Step (fun _ => False) w { w with drawn := w.drawn + 1 } := ⟨rfl, rfl, rfl, Nat.le_refl _, fun _ _ _ => rfl⟩
 exact h.change (hp' := hp) (fun _ => False) (fun _ => False) hst (fun _ h => h.elim) (fun id o ho _ => ⟨ho, fun h => h, rfl⟩) (fun _ _ h => h) (fun _ _ => rfl) (fun _ _ h => h.elim) (fun _ _ _ _ h => h.elim) (fun _ _ _ h => h.elim)
theorem qbj5 {a b : Ent} (ha : a.e.dst = a.so.dst) (ha2 : a.e.wr = a.x.wr) (hb : b.e.dst = b.so.dst) (hb2 : b.e.wr = b.x.wr) {r : Rs} (h : (a.W r ∧ b.L r) ∨ (a.L r ∧ b.W r)) : qbj8 (a.so, a.x) (b.so, b.x) = true := by
 unfold qbj8
 simp only [Bool.or_eq_true]
 cases r with
 | sl y =>
  simp only [Ent.W, Ent.L] at h
  rw [ha, hb] at h
  rcases h with ⟨h1, h2 | h2⟩ | ⟨h2 | h2, h1⟩
  ·exact .inl (.inl (.inl (by rw [h1]; simp [h2])))
  ·exact .inl (.inl (.inl (by rw [h1]; simp [h2])))
  ·exact .inl (.inl (.inr (by rw [h1]; simp [h2])))
  ·exact .inl (.inl (.inl (by rw [h2]; simp [h1])))
 | ob id =>
  simp only [Ent.W, Ent.L] at h
  rw [ha2, hb2] at h
  rcases h with ⟨h1, h2 | h2⟩ | ⟨h2 | h2, h1⟩
  ·exact .inl (.inr (List.any_eq_true.2 ⟨id, h1, by simp [h2]⟩))
  ·exact .inl (.inr (List.any_eq_true.2 ⟨id, h1, by simp [h2]⟩))
  ·exact .inr (List.any_eq_true.2 ⟨id, h1, by simp [h2]⟩)
  ·exact .inl (.inr (List.any_eq_true.2 ⟨id, h2, by simp [h1]⟩))
theorem qasy {α β : Type} {f : α → β} {es : List α} {l : List β} (h : es.map f = l) {j : Nat} {t : α} (ht : es[j]? = some t) : l[j]? = some (f t) := by rw [← h]; simp [ht]
theorem qak1 {P : Program} {N : Nat} {ops : Array Oper} : ∀ (l : List Oper) (bs : List Nat) (sos : List SOper), qagv P N ops l bs = some sos → ∀ (j : Nat) so, sos[j]? = some so → so.bef = (bs.drop j).headD 0
 | [], bs, sos, h, j, so, hj => by simp only [qagv, Option.some.injEq] at h; subst h; simp at hj
 | o :: l, bs, sos, h, j, so, hj => by
  obtain ⟨so0, r, rfl, h1, h2⟩ := qagu h
  cases j with
  | zero => simp at hj; subst hj; rw [List.drop_zero]; exact (qae8 h1).2.2.2.1
  | succ j =>
   have := qak1 l bs.tail r h2 j so (by simpa using hj)
   rw [this]; cases bs <;> simp
theorem qbiq {ops : Array Oper} (hed : qa6f ops = true) {sos : List SOper} (hc : qagv X.P X.N ops ops.toList (Region.before ops).toList = some sos) {Q : SSt → Prop} {R : Exit → Act → World → Prop} (hQ : ∀ s ρ fp a w, Q s → SimF X ρ fp s a w → R .normal a w)
  {s : SSt} {ρ : qacu} {fp : Nat → Nat → Prop} {a : Act} {w : World} (hk : SOps X.P sos s [] fun s' tr => qans (sos.zip tr.reverse) = true ∧ Q s') (h : SimF X ρ fp s a w) : wpAny X.P .any ops R ops.size (Array.replicate ops.size false) a { w with drawn := w.drawn + 1 } := by
 obtain ⟨es, sN, hch, hok, ho, hso, hok2, hq⟩ := qa4y _ _ _ hc s [] h.le hk
 simp only [List.append_nil, List.reverse_reverse] at hok2
 have hlen : es.length = ops.size := by have := congrArg List.length ho; simpa using this
 have hzip : sos.zip (es.map (·.x)) = es.map fun t => (t.so, t.x) := by
  rw [← hso]
  clear hok2 ho hso hch hok hlen hq hc hk
  induction es with
  | nil => rfl
  | cons t es ih => simp [ih]
 rw [hzip] at hok2
 let B : Nat → Nat → Prop := fun j i => ((Region.before ops).getD j 0).testBit i = true
 have hbef : ∀ (j : Nat) t, es[j]? = some t → t.so.bef = (Region.before ops).getD j 0 := fun j t ht => by
  rw [qak1 _ _ _ hc j t.so (qasy hso ht)]
  rw [List.headD_eq_head?_getD, List.head?_drop, Array.getD_eq_getD_getElem?]; simp
 have hord : Ord es B := ⟨fun i j x y r hij hx hy hcl => by
  have ox := hok x (List.mem_of_getElem? hx)
  have oy := hok y (List.mem_of_getElem? hy)
  have := qat5 hok2 hij (qasy rfl hx) (qasy rfl hy) (qbj5 ox.2.1 ox.2.2.1 oy.2.1 oy.2.2.1 hcl)
  show ((Region.before ops).getD j 0).testBit i = true
  rw [← hbef j y hy]; exact this⟩
 have hinv0 : Inv es s (fun _ => False) s := ⟨fun y => ⟨none, fun _ h => h.elim, rfl⟩, fun id => ⟨none, fun _ h => h.elim, rfl⟩⟩
 have hinv00 : Inv ([] ++ es) s (· < ([] : List Ent).length) s := by
  have e : (fun k => k < ([] : List Ent).length) = fun _ => False := by funext k; simp
  rw [e]; exact hinv0
 obtain ⟨hst, hfin⟩ := hch.inv hok [] s hinv00
 simp only [List.nil_append, List.length_nil, Nat.zero_add] at hst hfin
 have hnx : ∀ (j : Nat) t, es[j]? = some t → s.nx ≤ t.s.nx ∧ t.s'.nx ≤ sN.nx := by
  have gen : ∀ (es : List Ent) (s sN : SSt), Chain s es sN → (∀ t ∈ es, qbli X ops t) → s.nx ≤ sN.nx ∧ ∀ (j : Nat) t, es[j]? = some t → s.nx ≤ t.s.nx ∧ t.s'.nx ≤ sN.nx := by
   intro es
   induction es with
   | nil => intro s sN hc _; obtain rfl : s = sN := hc; exact ⟨Nat.le_refl _, fun j t ht => by simp at ht⟩
   | cons u es ih =>
    intro s sN hc ho
    obtain ⟨rfl, hc⟩ := hc
    have hu := (ho u (by simp)).1
    obtain ⟨h1, h2⟩ := ih _ _ hc fun t ht => ho t (by simp [ht])
    refine ⟨by omega, fun j t ht => ?_⟩
    cases j with
    | zero => simp at ht; subst ht; exact ⟨Nat.le_refl _, h1⟩
    | succ j => have := h2 j t (by simpa using ht); omega
  exact (gen es s sN hch hok).2
 have hle : s.nx ≤ sN.nx := by
  have gen : ∀ (es : List Ent) (s sN : SSt), Chain s es sN → (∀ t ∈ es, qbli X ops t) → s.nx ≤ sN.nx := by
   intro es
   induction es with
   | nil => intro s sN hc _; obtain rfl : s = sN := hc; exact Nat.le_refl _
   | cons u es ih =>
    intro s sN hc ho
    obtain ⟨rfl, hc⟩ := hc
    have hu := (ho u (by simp)).1
    have := ih _ _ hc fun t ht => ho t (by simp [ht])
    omega
  exact gen es s sN hch hok
 have hapart : ∀ (i j : Nat) t u, es[i]? = some t → es[j]? = some u → i < j → t.s'.nx ≤ u.s.nx := by
  have gen : ∀ (es : List Ent) (s sN : SSt), Chain s es sN → (∀ t ∈ es, qbli X ops t) → (∀ (j : Nat) u, es[j]? = some u → s.nx ≤ u.s.nx) ∧ ∀ (i j : Nat) t u, es[i]? = some t → es[j]? = some u → i < j → t.s'.nx ≤ u.s.nx := by
   intro es
   induction es with
   | nil => intro s sN hc _; exact ⟨fun j t ht => by simp at ht, fun i j t u ht => by simp at ht⟩
   | cons v es ih =>
    intro s sN hc ho
    obtain ⟨rfl, hc⟩ := hc
    have hv := (ho v (by simp)).1
    obtain ⟨h1, h2⟩ := ih _ _ hc fun t ht => ho t (by simp [ht])
    refine ⟨fun j u hu => ?_, fun i j t u ht hu hij => ?_⟩
    ·cases j with
     | zero => simp at hu; subst hu; exact Nat.le_refl _
     | succ j => have := h1 j u (by simpa using hu); omega
    ·cases j with
     | zero => omega
     | succ j =>
      cases i with
      | zero => simp at ht; subst ht; exact h1 j u (by simpa using hu)
      | succ i => exact h2 i j t u (by simpa using ht) (by simpa using hu) (by omega)
  exact (gen es s sN hch hok).2
 have main : ∀ (fuel : Nat) (listed : Array Bool) (t : SSt) (ρ : qacu) (fp : Nat → Nat → Prop) (a : Act) (w : World), listed.size = ops.size → ((List.range ops.size).filter fun i => !listed.getD i true).length ≤ fuel →
   (∀ j i, listed.getD j false = true → B j i → listed.getD i false = true) → Inv es s (fun i => listed.getD i false = true) t → Sim X ρ fp t a w → (∀ id, ρ id ≠ none → id < s.nx ∨ ∃ (i : Nat) (u : Ent), listed.getD i false = true ∧ es[i]? = some u ∧ u.s.nx ≤ id ∧ id < u.s'.nx) →
   wpAny X.P .any ops R fuel listed a w := by
  intro fuel
  induction fuel with
  | zero =>
   intro listed t ρ fp a w hsz hcnt hcl hinv hsim hρ
   have hall : ∀ i, i < ops.size → listed.getD i true = true := fun i hi => by
    cases e : listed.getD i true with
    | true => rfl
    | false =>
     have : i ∈ (List.range ops.size).filter fun i => !listed.getD i true := List.mem_filter.2 ⟨List.mem_range.2 hi, by simp [e]⟩
     have h0 := List.length_pos_of_mem this
     omega
   refine ⟨?_, ?_⟩
   ·cases hr : Region.ready .any ops listed with
    | nil => rfl
    | cons i r =>
     have hi : i ∈ Region.ready .any ops listed := by rw [hr]; simp
     obtain ⟨h1, o, h2, _⟩ := mem_ready.1 hi
     have := hall i (Array.getElem?_eq_some_iff.1 h2).1
     rw [h1] at this; cases this
   ·exact (by
     have hS : (fun i => listed.getD i false = true) = fun i => i < es.length := by
      funext i
      apply propext
      constructor
      ·intro hi
       rw [hlen, ← hsz]
       rcases Nat.lt_or_ge i listed.size with h | h
       ·exact h
       ·simp [Array.getElem?_eq_none h] at hi
      ·intro hi
       have h1 := hall i (by omega)
       have h2 : i < listed.size := by omega
       simp [h2] at h1 ⊢; exact h1
     rw [hS] at hinv
     have hsimN : Sim X ρ fp sN a w := hsim.congr (fun y => by
      obtain ⟨o, q1, q2⟩ := hinv.1 y
      obtain ⟨o', q3, q4⟩ := hfin.1 y
      rw [q1.uniq q3] at q2
      rw [q2, q4]) (fun id => by
      obtain ⟨o, q1, q2⟩ := hinv.2 id
      obtain ⟨o', q3, q4⟩ := hfin.2 id
      rw [q1.uniq q3] at q2
      rw [q2, q4])
     exact hQ sN ρ fp a w hq ⟨hsimN, fun id hid => by
      cases e : ρ id with
      | none => rfl
      | some p =>
       rcases hρ id (by rw [e]; simp) with h5 | ⟨i, u, _, h6, h7, h8⟩
       ·omega
       ·have := (hnx i u h6).2; omega, Nat.le_trans h.le hle⟩)
  | succ fuel ih =>
   intro listed t ρ fp a w hsz hcnt hcl hinv hsim hρ
   refine ⟨fun hr => ?_, fun j hj => ?_⟩
   ·-- nothing is ready: all has been done
    have hall : ∀ i, i < ops.size → listed.getD i true = true := fun i => by
     induction i using Nat.strongRecOn with
     | ind i ihi =>
      intro hi
      cases e : listed.getD i true with
      | true => rfl
      | false =>
       have : i ∈ Region.ready .any ops listed := mem_ready.2 ⟨e, ops[i], Array.getElem?_eq_getElem hi, fun ed hed1 hed2 => by
        have hlt := qaiy hed i ops[i] (by simp [hi]) ed (by simpa using hed1) hed2
        have h1 := ihi ed.on (by omega) (by omega)
        have h2 : ed.on < listed.size := by omega
        simp [h2] at h1 ⊢; exact h1⟩
       rw [hr] at this; cases this
    have hz : ((List.range ops.size).filter fun i => !listed.getD i true).length ≤ 0 := by
     rw [List.filter_eq_nil_iff.2 fun i hi => by rw [hall i (List.mem_range.1 hi)]; simp]; simp
    have hS : (fun i => listed.getD i false = true) = fun i => i < es.length := by
     funext i
     apply propext
     constructor
     ·intro hi
      rw [hlen, ← hsz]
      rcases Nat.lt_or_ge i listed.size with h | h
      ·exact h
      ·simp [Array.getElem?_eq_none h] at hi
     ·intro hi
      have h1 := hall i (by omega)
      have h2 : i < listed.size := by omega
      simp [h2] at h1 ⊢; exact h1
    rw [hS] at hinv
    have hsimN : Sim X ρ fp sN a w := hsim.congr (fun y => by
     obtain ⟨o, q1, q2⟩ := hinv.1 y
     obtain ⟨o', q3, q4⟩ := hfin.1 y
     rw [q1.uniq q3] at q2
     rw [q2, q4]) (fun id => by
     obtain ⟨o, q1, q2⟩ := hinv.2 id
     obtain ⟨o', q3, q4⟩ := hfin.2 id
     rw [q1.uniq q3] at q2
     rw [q2, q4])
    exact hQ sN ρ fp a w hq ⟨hsimN, fun id hid => by
     cases e : ρ id with
     | none => rfl
     | some p =>
      rcases hρ id (by rw [e]; simp) with h5 | ⟨i, u, _, h6, h7, h8⟩
      ·omega
      ·have := (hnx i u h6).2; omega, Nat.le_trans h.le hle⟩
   ·obtain ⟨hun, o, hoj, hdep⟩ := mem_ready.1 hj
    have hjlt : j < ops.size := (Array.getElem?_eq_some_iff.1 hoj).1
    have hnj : ¬ (listed.getD j false = true) := by
     have h2 : j < listed.size := by omega
     simp [h2] at hun ⊢; rw [hun]
    obtain ⟨u, hu⟩ : ∃ u, es[j]? = some u := ⟨_, List.getElem?_eq_getElem (by omega)⟩
    have huo : u.o = o := by
     have := qasy ho hu
     rw [Array.getElem?_toList, hoj] at this
     exact (Option.some.inj this).symm
    obtain ⟨hmono, hd, hwr, hat, hloc⟩ := hok u (List.mem_of_getElem? hu)
    have hdeps : ∀ i, B j i → listed.getD i false = true := fun i hi => by
     obtain ⟨ed, q1, q2, q3⟩ := (qa4h ops).2 j o hoj i hi
     have h5 := hdep ed (by simpa using q1) q2
     rcases q3 with q3 | q3
     ·rw [← q3]; exact h5
     ·exact hcl _ _ h5 q3
    have hcan := hst j u hu
    unfold wpOp
    rw [hoj]
    simp only
    have hL := hloc t ρ fp a w hsim (fun y hy => by
      obtain ⟨o1, q1, q2⟩ := hinv.1 y
      obtain ⟨o2, q3, q4⟩ := hcan.1 y
      rw [q1.agree hord (fun j i => hcl j i) hu hnj hdeps (show u.L (.sl y) from Or.inl hy) q3] at q2
      rw [q2, q4]) (fun id hid => by
      obtain ⟨o1, q1, q2⟩ := hinv.2 id
      obtain ⟨o2, q3, q4⟩ := hcan.2 id
      rw [q1.agree hord (fun j i => hcl j i) hu hnj hdeps (show u.L (.ob id) from hid) q3] at q2
      rw [q2, q4]) (fun id h5 h6 => by
      cases e : ρ id with
      | none => rfl
      | some p =>
       rcases hρ id (by rw [e]; simp) with h7 | ⟨i, v, h7, h8, h9, h10⟩
       ·have := (hnx j u hu).1; omega
       ·rcases Nat.lt_trichotomy i j with hij | hij | hij
        ·have := hapart i j v u h8 hu hij; omega
        ·subst hij; exact absurd h7 hnj
        ·have := hapart j i u v hu h8 hij; omega) (wpAny X.P .any ops R fuel (listed.setIfInBounds j true)) R (fun t' ρ' fp' a' w' hat' hsim' hρ' => by
      have hS : (fun i => (listed.setIfInBounds j true).getD i false = true) = fun i => listed.getD i false = true ∨ i = j := by
       funext i
       apply propext
       by_cases e : i = j
       ·subst e
        have h2 : i < listed.size := by omega
        simp [h2]
       ·rw [getD_set_ne false (Ne.symm e)]; simp [e]
      refine ih (listed.setIfInBounds j true) t' ρ' fp' a' w' (by simp [hsz]) ?_ (fun k i hk hki => ?_) ?_ hsim' (fun id hid => ?_)
      ·have := qaiw (p := fun i => !listed.getD i true) (q := fun i => !(listed.setIfInBounds j true).getD i true) (List.range ops.size) j (List.mem_range.2 hjlt) (by simp only [hun]; rfl) (by
        have h2 : j < listed.size := by omega
        simp [h2]) (fun k hk => by
        by_cases e : j = k
        ·subst e
         have h2 : j < listed.size := by omega
         simp [h2] at hk
        ·rw [getD_set_ne true e] at hk; exact hk)
       omega
      ·have hk' : listed.getD k false = true ∨ k = j := by have := congrFun hS k; rw [← this]; exact hk
       have hgoal : listed.getD i false = true := by
        rcases hk' with hk' | hk'
        ·exact hcl k i hk' hki
        ·subst hk'; exact hdeps i hki
       have := congrFun hS i
       rw [this]; exact .inl hgoal
      ·rw [hS]
       refine ⟨fun y => ?_, fun id => ?_⟩
       ·obtain ⟨o1, q1, q2⟩ := hinv.1 y
        obtain ⟨r1, r2⟩ := q1.add hord (fun j i => hcl j i) hu hnj
        rw [hat'.1 y]
        by_cases hw : u.e.dst = some y
        ·exact ⟨some j, r1 hw, by rw [if_pos hw]; simp only [hu]; rfl⟩
        ·exact ⟨o1, r2 hw, by rw [if_neg hw]; exact q2⟩
       ·obtain ⟨o1, q1, q2⟩ := hinv.2 id
        obtain ⟨r1, r2⟩ := q1.add hord (fun j i => hcl j i) hu hnj
        rw [hat'.2 id]
        by_cases hw : id ∈ u.e.wr
        ·exact ⟨some j, r1 hw, by rw [if_pos hw]; simp only [hu]; rfl⟩
        ·exact ⟨o1, r2 hw, by rw [if_neg hw]; exact q2⟩
      ·rcases hρ' id hid with h5 | h5
       ·rcases hρ id h5 with h6 | ⟨i, v, h7, h8, h9, h10⟩
        ·exact .inl h6
        ·exact .inr ⟨i, v, by have := congrFun hS i; rw [this]; exact .inl h7, h8, h9, h10⟩
       ·exact .inr ⟨j, u, by have := congrFun hS j; rw [this]; exact .inr rfl, hu, h5.1, h5.2⟩)
    rw [huo] at hL
    split
    ·rename_i hwd
     rw [if_pos hwd] at hL
     exact .inl hL
    ·rename_i hwd
     rw [if_neg hwd] at hL
     exact hL
 obtain ⟨hd1, hd2⟩ := h.sim.h.drew
 refine main ops.size (Array.replicate ops.size false) s ρ fp a _ (by simp) (by have := List.length_filter_le (fun i => !(Array.replicate ops.size false).getD i true) (List.range ops.size); simpa using this) (fun j i hj => ?_) ?_ ⟨hd1, h.sim.tmps, h.sim.defers, fun t => hd2.rep (h.sim.slots t)⟩ (fun id hid => .inl (Nat.lt_of_not_le fun hge => hid (h.fresh id hge)))
 ·exfalso
  by_cases hlt : j < ops.size <;> simp [hlt] at hj
 ·have e : (fun i => (Array.replicate ops.size false).getD i false = true) = fun _ => False := by
   funext i
   by_cases hlt : i < ops.size <;> simp [hlt]
  rw [e]; exact hinv0
theorem qaaz {s : SSt} {Q : SExit → SSt → Prop} {ops : List SOper} {live : List Nat} (hm : X.P.follows .mixedOrders = true) (h : SOps X.P ops s [] fun s' tr => qans (ops.zip tr.reverse) = true ∧ Q .normal (s'.keep live)) : SWp X (.reg true ops live) Q s := fun code hc ρ fp a w hs => by
 by_cases hreg : ∃ id o d, code = .region id o d
 ·obtain ⟨id, o, d, rfl⟩ := hreg
  obtain ⟨l, e, h1, h2⟩ := qacy hc
  simp only [SCode.erase, SCode.reg.injEq, and_true] at e
  obtain ⟨rfl, rfl⟩ := e
  refine wp_region_any hm ?_
  refine qbiq (h2.resolve_left (by simp)) (by simpa using h1) (Q := fun s' => Q .normal (s'.keep live)) ?_ h hs
  intro s' ρ' fp' a' w' hq h'
  obtain ⟨ρ2, fp2, h2⟩ := qbhd live ρ' fp' a' w' h'
  exact ⟨_, ρ2, fp2, hq, h2⟩
 ·cases code <;> (try simp only [comp, SCode.erase, Option.bind_eq_bind, Option.bind_eq_some_iff, Option.some.injEq, reduceCtorEq, and_false, exists_false, exists_const] at hc)
  case region => exact absurd ⟨_, _, _, rfl⟩ hreg
end Go.Proofs.YteoijlmgiemffaaGreat
namespace Go.Proofs.YteoijlmgiemffaaGreat
set_option linter.all false
open Go.RowKit
noncomputable def getsR (l : Sl) (t : Nat) : SV := List.rec .any (fun p _ ih => Prod.rec (fun i v => Bool.rec ih v (Nat.beq i t)) p) l
theorem qan0 (t : Nat) : ∀ l : Sl, getsR l t = gets l t
 | [] => rfl
 | (i, v) :: l => by
  show Bool.rec (getsR l t) v (Nat.beq i t) = if i = t then v else gets l t
  rw [qan0 t l]
  cases h : Nat.beq i t with
  | true => rw [if_pos (Nat.eq_of_beq_eq_true h)]
  | false => rw [if_neg (Nat.ne_of_beq_eq_false h)]
noncomputable def qakt (l : Hp) (t : Nat) : Option SObj := List.rec none (fun p _ ih => Prod.rec (fun i v => Bool.rec ih (some v) (Nat.beq i t)) p) l
theorem qagn (t : Nat) : ∀ l : Hp, qakt l t = geth l t
 | [] => rfl
 | (i, v) :: l => by
  show Bool.rec (qakt l t) (some v) (Nat.beq i t) = if i = t then some v else geth l t
  rw [qagn t l]
  cases h : Nat.beq i t with
  | true => rw [if_pos (Nat.eq_of_beq_eq_true h)]
  | false => rw [if_neg (Nat.ne_of_beq_eq_false h)]
noncomputable def puthR (l : Hp) (t : Nat) (x : SObj) : Hp := List.rec [(t, x)] (fun p l ih => Prod.rec (fun i v => Bool.rec ((i, v) :: ih) ((t, x) :: l) (Nat.beq i t)) p) l
theorem qa5h (t : Nat) (x : SObj) : ∀ l : Hp, puthR l t x = puth l t x
 | [] => rfl
 | (i, v) :: l => by
  show Bool.rec ((i, v) :: puthR l t x) ((t, x) :: l) (Nat.beq i t) = if i = t then (t, x) :: l else (i, v) :: puth l t x
  rw [qa5h t x l]
  cases h : Nat.beq i t with
  | true => rw [if_pos (Nat.eq_of_beq_eq_true h)]
  | false => rw [if_neg (Nat.ne_of_beq_eq_false h)]
noncomputable def delhR (l : Hp) (t : Nat) : Hp := List.rec [] (fun p _ ih => Prod.rec (fun i v => Bool.rec ((i, v) :: ih) ih (Nat.beq i t)) p) l
theorem qa6g (t : Nat) : ∀ l : Hp, delhR l t = delh l t
 | [] => rfl
 | (i, v) :: l => by
  show Bool.rec ((i, v) :: delhR l t) (delhR l t) (Nat.beq i t) = if i = t then delh l t else (i, v) :: delh l t
  rw [qa6g t l]
  cases h : Nat.beq i t with
  | true => rw [if_pos (Nat.eq_of_beq_eq_true h)]
  | false => rw [if_neg (Nat.ne_of_beq_eq_false h)]
noncomputable def SX.evR (l : Sl) (x : SX) : SV := SX.rec (fun n => getsR l n) (fun v => v) x
theorem qauc (l : Sl) (x : SX) : x.evR l = x.ev l := by cases x <;> simp [SX.evR, SX.ev, qan0]
noncomputable def annot {α : Type} (c : SCode) : List (List Nat) → (SCode → List (List Nat) → α) → α := SCode.rec
 (fun h k => k .skip h) (fun d ops l h k => List.rec (k (.reg d ops l) []) (fun x t _ => k (.reg d ops x) t) h)
 (fun _ _ iha ihb h k => iha h fun a h => ihb h fun b h => k (.seq a b) h) (fun x _ _ iha ihb h k => iha h fun a h => ihb h fun b h => k (.cond x a b) h)
 (fun i _ iha h k => iha h fun a h => k (.block i a) h) (fun _ iha h k => iha h fun a h => k (.loop a) h) (fun i h k => k (.exit i) h) (fun h k => k .ret h) c
noncomputable def look (l : List (Nat × List (List Nat))) (g : Nat) : List (List Nat) := List.rec [] (fun p _ ih => Prod.rec (fun i v => Bool.rec ih v (Nat.beq i g)) p) l
structure FD where
 N : Nat
 c : SCode
 res : List ResultVar
noncomputable def fdata (P : Program) (H : List (Nat × List (List Nat))) (g : FuncId) : Option FD := match P.funcs[g]? with
 | some fn => match fn.body with
  | some b => match fn.name == "runtime.NumGoroutine" with
   | true => none
   | false => match comp P fn.ntmps b with
    | some c => annot c (look H g) fun c _ => some ⟨fn.ntmps, c, fn.results.toList⟩
    | none => none
  | none => none
 | none => none
def nmB : SV → List Nat
 | .ptr id _ | .eptr id _ _ _ | .own id _ | .owno id _ _ _ => [id]
 | _ => []
def nmA : SV → List Nat
 | .agg cs => cs.flatMap nmB
 | x => nmB x
def nm0 : SV → List Nat
 | .ifc _ x => nmA x
 | x => nmB x
def nm1 : SV → List Nat
 | .agg cs => cs.flatMap nm0
 | .fn _ a b => a.flatMap nm0 ++ b.flatMap nm0
 | x => nm0 x
def nm2 : SV → List Nat
 | .tup cs => cs.flatMap nm1
 | .agg cs => cs.flatMap nm1
 | x => nm1 x
def nmO : SObj → List Nat
 | .cells _ cs => cs.flatMap nm2
 | .row _ _ es => es.flatMap fun e => e.flatMap nm2
 | .abs _ => []
noncomputable def qbi2 (hp : Hp) (f : Nat) : List Nat → Hp → Hp := Nat.rec (fun _ acc => acc) (fun _ ih l acc => List.rec acc (fun i l _ => Option.rec (Option.rec (ih l acc) (fun o => ih (nmO o ++ l) ((i, o) :: acc)) (qakt hp i)) (fun _ => ih l acc) (qakt acc i)) l) f
def ltB (m : Nat) : SV → Bool
 | .ptr id _ | .eptr id _ _ _ | .own id _ | .owno id _ _ _ => Nat.blt id m
 | .agg _ | .tup _ | .fn _ _ _ | .ifc _ _ => false
 | _ => true
def ltA (m : Nat) : SV → Bool
 | .agg cs => cs.all (ltB m)
 | x => ltB m x
def lt0 (m : Nat) : SV → Bool
 | .ifc _ x => ltA m x
 | .fn _ [] [] => true
 | x => ltB m x
def lt1 (m : Nat) : SV → Bool
 | .agg cs => cs.all (lt0 m)
 | .fn _ a b => a.all (lt0 m) && b.all (lt0 m)
 | x => lt0 m x
def lt2 (m : Nat) : SV → Bool
 | .tup cs => cs.all (lt1 m)
 | .agg cs => cs.all (lt1 m)
 | x => lt1 m x
def ltO (m : Nat) : SObj → Bool
 | .cells _ cs => cs.all (lt2 m)
 | .row _ _ es => es.all fun e => e.all (lt2 m)
 | .abs _ => true
def ltHp (m : Nat) (h : Hp) : Bool := h.all fun p => Nat.blt p.1 m && ltO m p.2
noncomputable def uniqB : Hp → Bool
 | [] => true
 | (i, _) :: r => (match qakt r i with | none => true | some _ => false) && uniqB r
inductive Tsk where
 | code (c : SCode) (s : SSt)
 | call (g : FuncId) (args : List SV) (h : Hp) (nx : Nat)
inductive Ans where
 | st (e : SExit) (s : SSt)
 | val (r : SV) (h : Hp) (nx : Nat)
def SOp.runF : SOp → (SX → SV) → (Nat → Option SObj) → Nat → Option (SV × Upd × Nat)
 | .mv x => fun ev g nx => some (ev x, [], nx)
 | .pick c a b => fun ev g nx => match ev c with
  | .bool c => match ev a, ev b with
   | .bool a, .bool b => some (.bool (bif c then a else b), [], nx)
   | x, y => some (match c with | true => x | false => y, [], nx)
  | _ => none
 | .alloc t z => fun ev g nx => some (.ptr nx 0, [(nx, some (.cells t z))], nx + 1)
 | .box t x => fun ev g nx => match (ev x).cells? with
  | some cs => some (.ptr nx 0, [(nx, some (.cells t cs))], nx + 1)
  | none => none
 | .build z parts => fun ev g nx => match qadh z (parts.map fun p => (p.1, p.2.1, ev p.2.2)) with
  | some cs => some (.agg cs, [], nx)
  | none => none
 | .mkrow e size n z parts => fun ev g nx => match qadi size (List.replicate n z) (parts.map fun p => (p.1, ev p.2)) with
  | some es => some (.own nx n, [(nx, some (.row e size es))], nx + 1)
  | none => none
 | .load x => fun ev g nx => match ev x with
  | .cp (c :: _) => some (c, [], nx)
  | .ptr id off => match g id with
   | some (.cells _ cs) => (cs[off]?).map fun c => (c, [], nx)
   | _ => none
  | .eptr id size i j => match g id with
   | some (.row _ size' es) => if size = size' ∧ j < size then ((es[i]?).bind (·[j]?)).map fun c => (c, [], nx) else none
   | _ => none
  | _ => none
 | .loads n x => fun ev g nx => match ev x with
  | .cp cs => if n ≤ cs.length then some (.agg (cs.take n), [], nx) else none
  | .ptr id off => match g id with
   | some (.cells _ cs) => if off + n ≤ cs.length then some (.agg ((cs.drop off).take n), [], nx) else none
   | _ => none
  | .eptr id size i j => match g id with
   | some (.row _ size' es) => if size = size' ∧ j + n ≤ size then (es[i]?).map fun e => (.agg ((e.drop j).take n), [], nx) else none
   | _ => none
  | _ => none
 | .store n x v => fun ev g nx => match (ev v).cells? with
  | none => none
  | some vs => if vs.length = n then (match ev x with
   | .ptr id off => match g id with
    | some (.cells t cs) => rg (off + n ≤ cs.length) (some (.any, [(id, some (.cells t (setL cs off vs)))], nx))
    | _ => none
   | .eptr id size i j => match g id with
    | some (.row e size' es) => if size = size' ∧ j + n ≤ size then (es[i]?).map fun x => (.any, [(id, some (.row e size (es.set i (setL x j vs))))], nx) else none
    | _ => none
   | _ => none) else none
 | .nilc x => fun ev g nx => match ev x with
  | .ptr id off => some (.ptr id off, [], nx)
  | .cp cs => some (.cp cs, [], nx)
  | .eptr id size i j => some (.eptr id size i j, [], nx)
  | .fn (.func f) a b => some (.fn (.func f) a b, [], nx)
  | _ => none
 | .bin op x y => fun ev g nx => match ev x, ev y with
  | .int k a, .int k' b => (sbin op k a k' b).map fun v => (v, [], nx)
  | .str a, .str b => match op with
   | .add => rg (a.size + b.size ≤ maxLen) (some (.str (a ++ b), [], nx))
   | .eql => some (.bool (a.toList == b.toList), [], nx)
   | .neq => some (.bool (!(a.toList == b.toList)), [], nx)
   | _ => none
  | _, _ => none
 | .eq k neg x y => fun ev g nx => (eq0 k (ev x) (ev y)).map fun b => (.bool (neg != b), [], nx)
 | .eqs ks neg x y => fun ev g nx => match ev x, ev y with
  | .agg xs, .agg ys => (eqL ks xs ys).map fun b => (.bool (neg != b), [], nx)
  | _, _ => none
 | .un op x => fun ev g nx => match op, ev x with
  | .neg, .int k n => some (.int k (k.wrap (0 - n)), [], nx)
  | .xor, .int k n => some (.int k (bits .xor k (if k.signed then -1 else k.max) n), [], nx)
  | .not, .bool b => some (.bool (!b), [], nx)
  | _, _ => none
 | .conv k x => fun ev g nx => match ev x with
  | .int _ n => some (.int k (k.wrap n), [], nx)
  | _ => none
 | .mkslice e size bytes z l c => fun ev g nx => match ev l, ev c with
  | .int .i64 l, .int .i64 c => rg (0 ≤ l ∧ l ≤ c ∧ c ≤ maxLen ∧ c * bytes ≤ 140737488355328) (some (.own nx l.toNat, [(nx, some (.row e size (List.replicate l.toNat z)))], nx + 1))
  | _, _ => none
 | .slice size x lo hi => fun ev g nx =>
  match lo.map ev, hi.map ev with
  | none, none => (match ev x with
   | .view size' es => if size = size' then some (.view size es, [], nx) else none
   | .own id n => some (.own id n, [], nx)
   | _ => none)
  | some (.int _ l), none => (match ev x with
   | .view size' es => if size = size' then rg (0 ≤ l ∧ l ≤ es.length) (some (.view size (es.drop l.toNat), [], nx)) else none
   | .own id n => rg (0 ≤ l ∧ l < n) (some (.owno id size l.toNat (n - l.toNat), [], nx))
   | _ => none)
  | none, some (.int _ h) => (match ev x with
   | .view size' es => if size = size' then rg (0 ≤ h ∧ h ≤ es.length) (some (.view size (es.take h.toNat), [], nx)) else none
   | .own id n => rg (0 ≤ h ∧ h ≤ n) (some (.own id h.toNat, [], nx))
   | _ => none)
  | some (.int _ l), some (.int _ h) => (match ev x with
   | .view size' es => if size = size' then rg (0 ≤ l ∧ l ≤ h ∧ h ≤ es.length) (some (.view size ((es.take h.toNat).drop l.toNat), [], nx)) else none
   | .own id n => rg (0 ≤ l ∧ l < h ∧ h ≤ n) (some (.owno id size l.toNat (h.toNat - l.toNat), [], nx))
   | _ => none)
  | _, _ => none
 | .slstr x lo hi => fun ev g nx =>
  match ev x with
  | .str s => (match lo.map ev, hi.map ev with
   | some (.int _ l), none => rg (0 ≤ l ∧ l ≤ s.size) (some (.str (s.extract l.toNat s.size), [], nx))
   | none, some (.int _ h) => rg (0 ≤ h ∧ h ≤ s.size) (some (.str (s.extract 0 h.toNat), [], nx))
   | some (.int _ l), some (.int _ h) => rg (0 ≤ l ∧ l ≤ h ∧ h ≤ s.size) (some (.str (s.extract l.toNat h.toNat), [], nx))
   | _, _ => none)
  | _ => none
 | .faddr off x => fun ev g nx => match ev x with
  | .ptr id o => some (.ptr id (o + off), [], nx)
  | .cp cs => some (.cp (cs.drop off), [], nx)
  | .eptr id size i j => some (.eptr id size i (j + off), [], nx)
  | _ => none
 | .iaddr size x i => fun ev g nx => match ev i with
  | .int _ i => match ev x with
   | .view size' es => if size = size' then rg (0 ≤ i ∧ i < es.length) (some (.cp ((es[i.toNat]?).getD []), [], nx)) else none
   | .own id n => rg (0 ≤ i ∧ i < n) (some (.eptr id size i.toNat 0, [], nx))
   | .owno id size' off n => if size = size' then rg (0 ≤ i ∧ i < n) (some (.eptr id size (off + i.toNat) 0, [], nx)) else none
   | _ => none
  | _ => none
 | .iarr n size x i => fun ev g nx => match ev i with
  | .int _ i => match ev x with
   | .ptr id off => rg (0 ≤ i ∧ i < n) (some (.ptr id (off + i.toNat * size), [], nx))
   | .cp cs => rg (0 ≤ i ∧ i < n) (some (.cp (cs.drop (i.toNat * size)), [], nx))
   | .eptr id size' i' j => rg (0 ≤ i ∧ i < n) (some (.eptr id size' i' (j + i.toNat * size), [], nx))
   | _ => none
  | _ => none
 | .field off n x => fun ev g nx => match ev x with
  | .agg cs => match n with
   | none => (cs[off]?).map fun c => (c, [], nx)
   | some n => if off + n ≤ cs.length then some (.agg ((cs.drop off).take n), [], nx) else none
  | _ => none
 | .idx m size n x i => fun ev g nx => match ev i with
  | .int _ i => match ev x with
   | .agg cs => rg (0 ≤ i ∧ i < m) (match n with
    | none => (cs[i.toNat * size]?).map fun c => (c, [], nx)
    | some n => rg (i.toNat * size + n ≤ cs.length) (some (.agg ((cs.drop (i.toNat * size)).take n), [], nx)))
   | _ => none
  | _ => none
 | .idxs x i => fun ev g nx => match ev i with
  | .int _ i => match ev x with
   | .str s => rg (0 ≤ i) (match s[i.toNat]? with
    | some b => some (.int .u8 b.toNat, [], nx)
    | none => none)
   | _ => none
  | _ => none
 | .extr x i => fun ev g nx => match ev x with
  | .tup vs => (vs[i]?).map fun c => (c, [], nx)
  | _ => none
 | .len st x => fun ev g nx => match ev x with
  | .view _ es => if st = false then some (.int .i64 es.length, [], nx) else none
  | .own _ n => if st = false then some (.int .i64 n, [], nx) else none
  | .owno _ _ _ n => if st = false then some (.int .i64 n, [], nx) else none
  | .nilsl => if st = false then some (.int .i64 0, [], nx) else none
  | .str s => if st = true then some (.int .i64 s.size, [], nx) else none
  | _ => none
 | .app e size bytes s x => fun ev g nx => match qadf size g (ev x) with
  | none => none
  | some ys => match ev s with
   | .nilsl => rg (ys.length ≤ maxLen ∧ ys.length * bytes ≤ 140737488355328) (some (.own nx ys.length, [(nx, some (.row e size ys))], nx + 1))
   | .own id n => match g id with
    | some (.row e' size' es) => if e = e' ∧ size = size' ∧ n = es.length then rg (n + ys.length ≤ maxLen ∧ (n + ys.length) * bytes ≤ 140737488355328) (some (.own nx (n + ys.length), [(id, none), (nx, some (.row e size (es ++ ys)))], nx + 1)) else if e = e' ∧ size = size' ∧ n < es.length then rg (n + ys.length ≤ maxLen ∧ (n + ys.length) * bytes ≤ 140737488355328) (some (.own nx (n + ys.length), [(id, none), (nx, some (.row e size (es.take n ++ ys)))], nx + 1)) else none
    | _ => none
   | _ => none
 | .mm max x y => fun ev g nx => match ev x, ev y with
  | .int k a, .int k' b => if k = k' then some (.int k (if max then (if b > a then b else a) else (if b < a then b else a)), [], nx) else none
  | _, _ => none
 | .mkfn f first cap => fun ev g nx => some (.fn f (first.map ev) (cap.map ev), [], nx)
 | .b2s x => fun ev g nx => match qadf 1 g (ev x) with
  | some ys => (qam8 ys).map fun xs => (.str (strOfNums xs), [], nx)
  | none => none
 | .mkifc t x => fun ev g nx => some (.ifc t (ev x), [], nx)
 | .asrt t z x => fun ev g nx => match ev x with
  | .niliface => some (.tup [z, .bool false], [], nx)
  | .ifc t' v => some (if t' = t then .tup [v, .bool true] else .tup [z, .bool false], [], nx)
  | _ => none
theorem runF_eq (op : SOp) (ev : SX → SV) (g : Nat → Option SObj) (nx : Nat) : op.runF ev g nx = op.run ev g nx := by cases op <;> rfl
noncomputable def qbhx {β : Type} (bef : β → Nat) (cl : β → β → Bool) (b : β) (l : List β) : Nat → Nat → Bool := List.rec (fun _ _ => true) (fun a _ ih n i => Nat.rec true (fun n _ => Bool.rec (Bool.rec (ih n (.succ i)) false (cl a b)) (ih n (.succ i)) (Nat.testBit (bef b) i)) n) l
noncomputable def qa5r {β : Type} (bef : β → Nat) (cl : β → β → Bool) (all : List β) (l : List β) : Nat → Bool := List.rec (fun _ => true) (fun b _ ih j => Bool.rec false (ih (.succ j)) (qbhx bef cl b all j 0)) l
def qbj6 (a b : SOper) : Bool := (match a.dst with | some d => b.reads.contains d || b.dst == some d | none => false) || (match b.dst with | some d => a.reads.contains d | none => false)
def qbj7 (a b : SOper × Tch) : Bool := a.2.wr.any (fun i => b.2.rd.contains i || b.2.wr.contains i) || b.2.wr.any fun i => a.2.rd.contains i
noncomputable def okS (ops : List SOper) : Bool := qa5r (·.bef) qbj6 ops ops 0
noncomputable def okD (l : List (SOper × Tch)) : Bool := qa5r (·.1.bef) qbj7 l l 0
def eqI (a b : Int) : Bool := match a, b with
 | .ofNat m, .ofNat n => Nat.beq m n
 | .negSucc m, .negSucc n => Nat.beq m n
 | _, _ => false
def eqV : Nat → SV → SV → Bool
 | 0, _, _ => false
 | n + 1, x, y => match x, y with
  | .any, .any => true
  | .bool a, .bool b => a == b
  | .int k a, .int j b => decide (k = j) && eqI a b
  | .nil, .nil => true
  | .nilsl, .nilsl => true
  | .nilfn, .nilfn => true
  | .niliface, .niliface => true
  | .mt, .mt => true
  | .ptr a b, .ptr c d => Nat.beq a c && Nat.beq b d
  | .own a b, .own c d => Nat.beq a c && Nat.beq b d
  | .owno a b c d, .owno a' b' c' d' => Nat.beq a a' && Nat.beq b b' && Nat.beq c c' && Nat.beq d d'
  | .agg xs, .agg ys => eqVs (eqV n) xs ys
  | .cp xs, .cp ys => eqVs (eqV n) xs ys
  | .view z xs, .view w ys => Nat.beq z w && eqVss (eqV n) xs ys
  | _, _ => false
where
 eqVs (f : SV → SV → Bool) : List SV → List SV → Bool
  | [], [] => true
  | x :: xs, y :: ys => f x y && eqVs f xs ys
  | _, _ => false
 eqVss (f : SV → SV → Bool) : List (List SV) → List (List SV) → Bool
  | [], [] => true
  | x :: xs, y :: ys => eqVs f x y && eqVss f xs ys
  | _, _ => false
def eqO : SObj → SObj → Bool
 | .cells t cs, .cells u ds => Nat.beq t u && eqV.eqVs (eqV 9) cs ds
 | .row e z es, .row e' z' fs => Nat.beq e e' && Nat.beq z z' && eqV.eqVss (eqV 9) es fs
 | _, _ => false
noncomputable def qbla (h2 h1 l : Hp) : List Nat := List.rec [] (fun p _ ih => Option.rec ih (fun o => Option.rec ih (fun o' => Bool.rec ih (p.1 :: ih) (eqO o o')) (qakt h2 p.1)) (qakt h1 p.1)) l
noncomputable def same (h2 h1 : Hp) : List Nat := qbla h2 h1 h1
noncomputable def fSp {α : Type} (h : Hp) : (Hp → α) → α := List.rec (fun k => k []) (fun p _ ih k => ih fun h => k (p :: h)) h
noncomputable def fUpd {α : Type} (u : Upd) : Hp → (Hp → α) → α := List.rec (fun h k => k h) (fun p _ ih h k => Prod.rec (fun i o => Option.rec (fSp (delhR h i) fun h => ih h k) (fun o => fNat i fun i => fO o fun o => fSp (puthR h i o) fun h => ih h k) o) p) u
noncomputable def runCl (v : SV) : (Tsk → Option Ans) → List SV → Option Nat → SSt → (SSt → Tch → Option Ans) → Option Ans := match v with
 | .fn (.func g) first cap => fun ih args dst s K => qbfg f2 (first ++ args ++ cap) fun as_ => fSp (qbi2 s.hp 100000 (as_.flatMap nm2) []) fun h1 =>
   match ih (.call g as_ h1 s.nx) with
   | some (.val r h2 nx) => fSp (qab3 s.hp h1 h2) fun hp => K ⟨putd s.sl dst r, hp, nx⟩ ⟨same h2 h1, (idsH h1 ++ idsH h2).filter fun i => !(same h2 h1).contains i⟩
   | _ => none
 | _ => fun _ _ _ _ _ => none
noncomputable def runOp (o : SOper) (s : SSt) (K : SSt → Tch → Option Ans) : Option Ans := match o.op.runF (·.evR s.sl) (qakt s.hp) s.nx with
  | some (v, u, _) => f2 v fun v => fUpd u s.hp fun hp => fNat (.succ s.nx) fun nx => K ⟨putd s.sl o.dst v, hp, nx⟩ ⟨o.op.touch (·.ev s.sl), u.map (·.1)⟩
  | none => none
noncomputable def run1 (ih : Tsk → Option Ans) (o : SOper) (s : SSt) (K : SSt → Tch → Option Ans) : Option Ans := match o.cal with
 | some (f, args) => runCl (f.evR s.sl) ih (args.map (·.evR s.sl)) o.dst s K
 | none => runOp o s K
noncomputable def runG (v : SV) : (Tsk → Option Ans) → Bool → SOper → SSt → (SSt → Tch → Option Ans) → Option Ans := match v with
 | .bool b => fun ih want o s K => match b == want with
       | true => run1 ih o s K
       | false => K (s.skip o) ⟨[], []⟩
 | .tup [] => fun _ _ o s K => K (s.skip o) ⟨[], []⟩
 | _ => fun _ _ _ _ _ => none
noncomputable def runO (ih : Tsk → Option Ans) (o : SOper) (s : SSt) (K : SSt → Tch → Option Ans) : Option Ans := match o.grd with
 | none => run1 ih o s K
 | some (t, want) => runG (getsR s.sl t) ih want o s K
noncomputable def qbis (ih : Tsk → Option Ans) (l : List SOper) : SSt → List Tch → (SSt → List Tch → Option Ans) → Option Ans :=
 List.rec (fun s tr K => K s tr) (fun o _ rest s tr K => runO ih o s fun s' x => rest s' (x :: tr) K) l
noncomputable def getK {α : Type} (l : Sl) (t : Nat) (k : SV → α) : α := List.rec (k .any) (fun p _ ih => Prod.rec (fun i v => Bool.rec ih (k v) (Nat.beq i t)) p) l
theorem qbh5 {α : Type} (t : Nat) (k : SV → α) : ∀ l : Sl, getK l t k = k (gets l t)
 | [] => rfl
 | (i, v) :: l => by
  show Bool.rec (getK l t k) (k v) (Nat.beq i t) = k (if i = t then v else gets l t)
  rw [qbh5 t k l]
  cases h : Nat.beq i t with
  | true => rw [if_pos (Nat.eq_of_beq_eq_true h)]
  | false => rw [if_neg (Nat.ne_of_beq_eq_false h)]
noncomputable def fKeep {α : Type} (cr : List Nat) (s : SSt) (k : SSt → α) : α := List.rec (fun k => k []) (fun t _ ih k => getK s.sl t fun v => ih fun sl => k ((t, v) :: sl)) cr fun sl => k ⟨sl, s.hp, s.nx⟩
noncomputable def qbd8 : SCode → (Tsk → Option Ans) → SSt → Option Ans
 | .skip => fun _ s => some (.st .normal s)
 | .exit i => fun _ s => some (.st (.exit i) s)
 | .ret => fun _ s => some (.st .ret s)
 | .reg d ops live => fun ih s => qbis ih ops s [] fun s' tr => match !d || (okS ops && okD (ops.zip tr.reverse)) with
   | true => fKeep live s' fun s' => some (.st .normal s')
   | false => none
 | .seq a b => fun ih s => match ih (.code a s) with
   | some (.st .normal s') => ih (.code b s')
   | r => r
 | .cond x a b => fun ih s => match x.evR s.sl with
   | .bool true => ih (.code a s)
   | .bool false => ih (.code b s)
   | _ => none
 | .block id a => fun ih s => match ih (.code a s) with
   | some (.st (.exit i) s') => match Nat.beq i id with
    | true => some (.st .normal s')
    | false => some (.st (.exit i) s')
   | r => r
 | .loop a => fun ih s => match ih (.code a s) with
   | some (.st .normal s') => ih (.code (.loop a) s')
   | r => r
noncomputable def leave (P : Program) (res : List ResultVar) (h : Hp) (nx : Nat) (s' : SSt) : Option Ans := match qakm P s' res with
 | some r => f2 r fun r => fSp (qbi2 s'.hp 100000 (nm2 r ++ idsH h) []) fun h2 => match uniqB h2 && Nat.ble nx s'.nx with
  | true => fNat (.succ s'.nx) fun nx => some (.val r h2 nx)
  | false => none
 | none => none
noncomputable def stepF (P : Program) (H : List (Nat × List (List Nat))) (ih : Tsk → Option Ans) (g : FuncId) (as_ : List SV) (h : Hp) (nx : Nat) : Option Ans := match fdata P H g with
 | some fd => match Nat.ble as_.length fd.N && as_.all (lt2 nx) && ltHp nx h with
  | true => match ih (.code fd.c ⟨argS 0 as_, h, nx⟩) with
   | some (.st (.exit _) _) => none
   | some (.st _ s') => leave P fd.res h nx s'
   | _ => none
  | false => none
 | none => none
noncomputable def step (P : Program) (H : List (Nat × List (List Nat))) (kn : FuncId → List SV → Hp → Nat → Option Ans) (ih : Tsk → Option Ans) : Tsk → Option Ans
 | .code c s => qbd8 c ih s
 | .call g as_ h nx => match kn g as_ h nx with
  | some a => some a
  | none => stepF P H ih g as_ h nx
noncomputable def run (P : Program) (H : List (Nat × List (List Nat))) (kn : FuncId → List SV → Hp → Nat → Option Ans) (n : Nat) : Tsk → Option Ans := Nat.rec (fun _ => none) (fun _ ih t => step P H kn ih t) n
end Go.Proofs.YteoijlmgiemffaaGreat
