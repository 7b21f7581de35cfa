/-
  Texts joined: XShK XShL XShR XShS. No condition.
-/
import Derived.Test.YtfakdapglbgokaaI13
import Derived.Test.YtfakdapglbgokaaI2
/-
  The plain machine: a state under other names; nil slices that become rows; rows that are no longer written to; calls out of bodies. No condition.
-/
namespace Go.Proofs.Ytfakdapglbgokaa
set_option linter.all false
open Go.RowKit
variable {w : World} {A : Nat → Prop} {ρ : Plan_} {σ : Nat → Nat} {X : Cx} {s s' : SSt}

theorem rn_any {U : Nat} : ∀ (D : List (Nat × Nat)) (id : Nat), (D.any fun p => p.1 == id) = true → rn D U id = rn D 0 id ∧ (id, rn D 0 id) ∈ D
  | [], id, h => by simp at h
  | (i, j) :: D, id, h => by
    by_cases e : i = id
    · subst e; simp [rn]
    · simp only [List.any_cons, Bool.or_eq_true, beq_iff_eq, e, false_or] at h
      obtain ⟨h1, h2⟩ := rn_any (U := U) D id h
      simp only [rn, if_neg e]
      exact ⟨h1, List.mem_cons_of_mem _ h2⟩
theorem nodup_snd {D : List (Nat × Nat)} (h : (D.map (·.2)).Nodup) {a b c : Nat} (h1 : (a, c) ∈ D) (h2 : (b, c) ∈ D) : a = b := by
  induction D with
  | nil => cases h1
  | cons p D ih =>
    rw [List.map_cons, List.nodup_cons] at h
    rcases List.mem_cons.1 h1 with e1 | e1
    · rcases List.mem_cons.1 h2 with e2 | e2
      · exact (Prod.mk.inj (e1.trans e2.symm)).1
      · exact absurd (List.mem_map.2 ⟨_, e2, by rw [← e1]⟩) h.1
    · rcases List.mem_cons.1 h2 with e2 | e2
      · exact absurd (List.mem_map.2 ⟨_, e1, by rw [← e2]⟩) h.1
      · exact ih h.2 e1 e2
theorem geth_ids : ∀ {hp : Hp} {id : Nat}, geth hp id ≠ none → id ∈ idsH hp
  | [], id, h => absurd rfl h
  | (i, o) :: r, id, h => by
    by_cases e : i = id
    · subst e; simp [idsH]
    · simp only [geth, if_neg e] at h
      exact List.mem_cons_of_mem _ (geth_ids h)
/-- The same state under other names (and less of it): D tells for each new name the old one. -/
theorem wk_list (D : List (Nat × Nat)) {m : Nat} (hm : X.m = m) (hok : okNames m s'.nx D s'.hp = true) (hle : m ≤ s'.nx) (hsl : SlotsM (rn D s.nx) s.sl s'.sl) (hhp : ObjsM (rn D s.nx) s.hp s'.hp) : Wk X s s' := by
  simp only [okNames, Bool.and_eq_true, decide_eq_true_eq] at hok
  obtain ⟨⟨⟨h1, h2⟩, h3⟩, h4⟩ := hok
  refine wk_ren (rn D s.nx) (fun id hid => ?_) hsl hhp (fun id id' ho ho' e => ?_) (fun id hid => ?_) (by omega)
  · rw [hm] at hid
    have := List.all_eq_true.1 h2 id (List.mem_range.2 hid)
    simp only [Bool.and_eq_true, beq_iff_eq] at this
    rw [(rn_any D id this.2).1]; exact this.1
  · have a1 := List.all_eq_true.1 h3 id (geth_ids ho)
    have a2 := List.all_eq_true.1 h3 id' (geth_ids ho')
    obtain ⟨b1, b2⟩ := rn_any (U := s.nx) D id a1
    obtain ⟨c1, c2⟩ := rn_any (U := s.nx) D id' a2
    rw [b1, c1] at e
    rw [e] at b2
    have m1 : (id, rn D 0 id') ∈ D.filter fun p => (idsH s'.hp).contains p.1 := List.mem_filter.2 ⟨b2, by simpa using geth_ids ho⟩
    have m2 : (id', rn D 0 id') ∈ D.filter fun p => (idsH s'.hp).contains p.1 := List.mem_filter.2 ⟨c2, by simpa using geth_ids ho'⟩
    exact nodup_snd h4 m1 m2
  · rw [rn_fresh D h1 id hid]; omega
/-- A nil slice becomes an own row with nothing in it. -/
theorem wk_adopt (t e size : Nat) (h : gets s.sl t = .nilsl) : Wk X s ⟨puts s.sl t (.own s.nx 0), puth s.hp s.nx (.row e size []), s.nx + 1⟩ := by
  intro ρ fp a w hs
  obtain ⟨ρ', fp', h1, h2, h3, h4⟩ := hs.sim.h.add (w' := w) hs.le (hs.fresh _ (Nat.le_refl _)) (.row e size []) none (fun _ => False) (Below.refl _ _) (fun _ h => h.elim) fun A' ρ' hp' hpl => ⟨.slice none 0 0, [], World.ownsRow_nil _ _ _ _, ⟨Reps.nil, fun v hv => by cases hv⟩, (fun x hx => by cases hx), hpl, fun k => by simp [Value.ownBlock]⟩
  refine ⟨ρ', fp', ⟨h1, hs.sim.tmps, hs.sim.defers, fun u => ?_⟩, fun id hid => ?_, by have := hs.le; simp only; omega⟩
  · show RepV w _ ρ' (gets (puts s.sl t (.own s.nx 0)) u) _
    rw [gets_puts]
    have := hs.sim.slots u
    split
    · rename_i e; subst e
      rw [h] at this
      generalize a.tmps.getD u undef = v at this
      cases this
      exact .own0 h3
    · exact h2.rep this
  · cases e : ρ' id with
    | none => rfl
    | some p =>
      simp only at hid
      rcases h4 id (by rw [e]; simp) with h5 | h5
      · exact absurd (hs.fresh id (by omega)) h5
      · omega

/-- Values without own names. -/
def PureV (x : SV) : Prop := ∀ w A ρ v, RepV w A ρ x v → RepV w A noPl x v
theorem pure_int (k : IntKind) (n : Int) : PureV (.int k n) := fun w A ρ v h => by cases h; exact .int
theorem pure_bool (b : Bool) : PureV (.bool b) := fun w A ρ v h => by cases h; exact .bool
theorem pure_str (t : ByteArray) : PureV (.str t) := fun w A ρ v h => by cases h; exact .str
theorem pure_nil : PureV .nil := fun w A ρ v h => by cases h; exact .nil
theorem pure_nilsl : PureV .nilsl := fun w A ρ v h => by cases h; exact .nilsl
theorem pure_any : PureV .any := fun w A ρ v _ => .any
theorem pure_view (z : Nat) (es : List (List SV)) : PureV (.view z es) := fun w A ρ v h => h.view_any
theorem pure_cp (cs : List SV) : PureV (.cp cs) := fun w A ρ v h => h.cp_any
def PureL (cs : List SV) : Prop := ∀ x ∈ cs, PureV x
theorem pureL_nil : PureL [] := fun x hx => by cases hx
theorem pureL_cons {x : SV} {cs : List SV} (h : PureV x) (hs : PureL cs) : PureL (x :: cs) := fun y hy => by
  rcases List.mem_cons.1 hy with e | e
  · rw [e]; exact h
  · exact hs y e
def PureO : SObj → Prop
  | .cells _ cs => PureL cs
  | .row _ _ es => ∀ e ∈ es, PureL e
  | .abs _ => False

/-- A value, once the objects of D are no longer written to. -/
def frz0 (g : Nat → Option SObj) (D : List Nat) : SV → SV
  | .own id n => if D.contains id then (match g id with
    | some (.row _ z es) => if n ≤ es.length then .view z (es.take n) else .own id n
    | _ => .own id n) else .own id n
  | .ptr id off => if D.contains id then (match g id with
    | some (.cells _ cs) => .cp (cs.drop off)
    | _ => .ptr id off) else .ptr id off
  | x => x
def frz1 (g : Nat → Option SObj) (D : List Nat) : SV → SV
  | .agg cs => .agg (cs.map (frz0 g D))
  | .tup cs => .tup (cs.map (frz0 g D))
  | x => frz0 g D x
def frz (g : Nat → Option SObj) (D : List Nat) : SV → SV
  | .tup cs => .tup (cs.map (frz1 g D))
  | x => frz1 g D x
def frzH (g : Nat → Option SObj) (D : List Nat) : Hp → Hp
  | [] => []
  | (i, o) :: r => if D.contains i then frzH g D r else (i, match o with
    | .cells t cs => .cells t (cs.map (frz0 g D))
    | .row e z es => .row e z (es.map (·.map (frz0 g D)))
    | .abs I => .abs I) :: frzH g D r
def frzS (g : Nat → Option SObj) (D : List Nat) : Sl → Sl
  | [] => []
  | (t, v) :: r => (t, frz g D v) :: frzS g D r
def SSt.frz (s : SSt) (D : List Nat) : SSt := ⟨frzS (geth s.hp) D s.sl, frzH (geth s.hp) D s.hp, s.nx⟩
theorem gets_frz (g : Nat → Option SObj) (D : List Nat) : ∀ (l : Sl) (t : Nat), gets (frzS g D l) t = Go.Proofs.Ytfakdapglbgokaa.frz g D (gets l t)
  | [], t => rfl
  | (u, v) :: r, t => by
    simp only [frzS, gets]
    split
    · rfl
    · exact gets_frz g D r t
theorem geth_frz (g : Nat → Option SObj) (D : List Nat) : ∀ (h : Hp) (i : Nat), geth (frzH g D h) i = if D.contains i then none else (geth h i).map fun o => match o with
    | .cells t cs => .cells t (cs.map (frz0 g D))
    | .row e z es => .row e z (es.map (·.map (frz0 g D)))
    | .abs I => .abs I
  | [], i => by simp [frzH, geth]
  | (j, o) :: r, i => by
    simp only [frzH]
    split
    · rename_i hj
      rw [geth_frz g D r]
      split
      · rfl
      · rename_i hi
        have : j ≠ i := fun e => hi (e ▸ hj)
        simp [geth, this]
    · rename_i hj
      by_cases e : j = i
      · subst e; simp only [geth, if_pos, hj]; rfl
      · simp only [geth, if_neg e]; exact geth_frz g D r i
theorem map_rep {ρ' : Plan_} {A' : Nat → Prop} {f : SV → SV} (hf : ∀ {x v}, RepV w A ρ x v → RepV w A' ρ' (f x) v) {cs : List SV} {vs : List Value} (h : ∀ (j : Nat) x v, cs[j]? = some x → vs[j]? = some v → RepV w A ρ x v) : ∀ (j : Nat) x v, (cs.map f)[j]? = some x → vs[j]? = some v → RepV w A' ρ' x v := fun j x v hx hv => by
  rw [List.getElem?_map, Option.map_eq_some_iff] at hx
  obtain ⟨y, hy, rfl⟩ := hx
  exact hf (h j y v hy hv)
/-- Rows and cells that are no longer written to. -/
theorem wk_frz (D : List Nat) (hp : ∀ id o, D.contains id = true → geth s.hp id = some o → PureO o) : Wk X s (s.frz D) := by
  intro ρ fp a w h
  have hg' : ∀ id o', geth (frzH (geth s.hp) D s.hp) id = some o' → D.contains id = false ∧ ∃ o, geth s.hp id = some o ∧ o' = (match o with
    | .cells t cs => .cells t (cs.map (frz0 (geth s.hp) D))
    | .row e z es => .row e z (es.map (·.map (frz0 (geth s.hp) D)))
    | .abs I => .abs I) := fun id o' ho => by
    rw [geth_frz] at ho
    split at ho
    · cases ho
    · rename_i hc
      rw [Option.map_eq_some_iff] at ho
      obtain ⟨o, h1, h2⟩ := ho
      exact ⟨by simpa using hc, o, h1, h2.symm⟩
  have hav : ∀ k, Av X (frzH (geth s.hp) D s.hp) fp k → Av X s.hp fp k := by
    rintro k (hO | ⟨id, o', ho, hk⟩)
    · exact .inl hO
    · obtain ⟨_, o, h1, _⟩ := hg' id o' ho
      exact .inr ⟨id, o, h1, hk⟩
  -- a frozen object's blocks are avoided no more
  have hfree : ∀ id o k, D.contains id = true → geth s.hp id = some o → fp id k → ¬ Av X (frzH (geth s.hp) D s.hp) fp k := by
    rintro id o k hc ho hk (hO | ⟨id', o', ho', hk'⟩)
    · rcases (h.sim.h.turn id o ho k hk).1 with h1 | h1
      · exact X.O_M k hO h1
      · exact absurd (X.O_lt k hO) (Nat.not_lt_of_le h1)
    · obtain ⟨h1, o2, h2, _⟩ := hg' id' o' ho'
      have hne : id ≠ id' := fun e => by rw [e, h1] at hc; cases hc
      exact h.sim.h.disj id id' o o2 hne ho h2 k hk hk'
  have f0 : ∀ {x v}, RepV w (Av X s.hp fp) ρ x v → RepV w (Av X (frzH (geth s.hp) D s.hp) fp) ρ (frz0 (geth s.hp) D x) v := by
    intro x v hx
    have hx' := hx.weaken (A' := Av X (frzH (geth s.hp) D s.hp) fp) fun k hk _ => hav k hk
    unfold frz0
    split
    · rename_i id n
      split
      · rename_i hc
        split
        · rename_i e z es ho
          split
          · rename_i hn
            obtain ⟨v0, us, how, ⟨hrep, huo⟩, hzs, hρ', hfp⟩ := h.sim.h.objs id _ ho
            cases hx with
            | own0 hρ => rw [List.take_zero]; exact .view0 (by simp [maxLen]) (fun _ => rfl)
            | own hρ hnc hm =>
              rename_i b c
              rw [hρ] at hρ'
              have hp0 : placeOf v0 = some (b, c) := (Option.some.inj hρ').symm
              obtain ⟨hv0, hcell, hlt, _, _⟩ := row_cells how hp0
              have hown : fp id b := (hfp b).2 (by rw [hv0]; rfl)
              have hget : ∀ i e j x, (es.take n)[i]? = some e → e[j]? = some x → es.flatten[i * z + j]? = some x := fun i e j x he hx => by
                rw [List.getElem?_take] at he
                split at he
                · exact flat_get hzs he hx
                · cases he
              have hval : ∀ i e j x, (es.take n)[i]? = some e → e[j]? = some x → ∃ u, us[i * z + j]? = some u ∧ RepV w (Av X s.hp fp) ρ x u := fun i e j x he hx => hrep.get (hget i e j x he hx)
              refine .view (fun i j => us.getD (i * z + j) undef) (by simp; omega) hnc hm (hfree id _ b hc ho hown) hlt (fun e he => hzs e (List.mem_of_mem_take he)) (fun i e j x he hx => ?_) (fun i e j x he hx => ?_) (fun i e j x he hx => ?_)
              · obtain ⟨u, h1, h2⟩ := hval i e j x he hx
                rw [Nat.zero_add, List.getD_eq_getElem?_getD, h1]
                exact hcell _ _ h1
              · obtain ⟨u, h1, h2⟩ := hval i e j x he hx
                rw [List.getD_eq_getElem?_getD, h1]
                have hpe := hp id _ hc ho e (by rw [List.getElem?_take] at he; split at he; exact List.mem_of_getElem? he; cases he) x (List.mem_of_getElem? hx)
                exact (hpe _ _ _ _ h2).weaken fun k hk _ => hav k hk
              · obtain ⟨u, h1, h2⟩ := hval i e j x he hx
                rw [List.getD_eq_getElem?_getD, h1]
                exact huo u (List.mem_of_getElem? h1)
          · exact hx'
        · exact hx'
      · exact hx'
    · rename_i id off
      split
      · rename_i hc
        split
        · rename_i t cs ho
          obtain ⟨b, c, us, hρ', hbl, ⟨hrep, huo⟩, hfp⟩ := h.sim.h.objs id _ ho
          cases hx with
          | ptr hρ =>
            rw [hρ] at hρ'; cases hρ'
            have hval : ∀ (j : Nat) x, (cs.drop off)[j]? = some x → ∃ u, us[off + j]? = some u ∧ RepV w (Av X s.hp fp) ρ x u := fun j x hx => by
              rw [List.getElem?_drop] at hx
              exact hrep.get hx
            refine .cp (fun j => us.getD (off + j) undef) (hfree id _ b hc ho ((hfp b).2 rfl)) hbl.lt (fun j x hx => ?_) (fun j x hx => ?_) (fun j x hx => ?_)
            · obtain ⟨u, h1, h2⟩ := hval j x hx
              rw [hbl.cell, List.getD_eq_getElem?_getD, h1]
              simpa using h1
            · obtain ⟨u, h1, h2⟩ := hval j x hx
              rw [List.getD_eq_getElem?_getD, h1]
              exact (hp id _ hc ho x (List.mem_of_mem_drop (List.mem_of_getElem? hx)) _ _ _ _ h2).weaken fun k hk _ => hav k hk
            · obtain ⟨u, h1, h2⟩ := hval j x hx
              rw [List.getD_eq_getElem?_getD, h1]
              exact huo u (List.mem_of_getElem? h1)
        · exact hx'
      · exact hx'
    · exact hx'
  have f1 : ∀ {x v}, RepV w (Av X s.hp fp) ρ x v → RepV w (Av X (frzH (geth s.hp) D s.hp) fp) ρ (frz1 (geth s.hp) D x) v := by
    intro x v hx
    unfold frz1
    split
    · cases hx with
      | agg ho hl hh => exact .agg ho (by simpa using hl) (map_rep f0 hh)
    · cases hx with
      | tup hl hh => exact .tup (by simpa using hl) (map_rep f0 hh)
    · exact f0 hx
  have f2 : ∀ {x v}, RepV w (Av X s.hp fp) ρ x v → RepV w (Av X (frzH (geth s.hp) D s.hp) fp) ρ (Go.Proofs.Ytfakdapglbgokaa.frz (geth s.hp) D x) v := by
    intro x v hx
    unfold Go.Proofs.Ytfakdapglbgokaa.frz
    split
    · cases hx with
      | tup hl hh => exact .tup (by simpa using hl) (map_rep f1 hh)
    · exact f1 hx
  refine ⟨ρ, fp, ⟨⟨fun id o' ho => ?_, fun id id' o o' hne ho ho' => ?_, fun id o ho => ?_, h.sim.h.step, h.sim.h.keep⟩, h.sim.tmps, h.sim.defers, fun t => ?_⟩, h.fresh, h.le⟩
  · obtain ⟨_, o, h1, rfl⟩ := hg' id o' ho
    have hr := h.sim.h.objs id o h1
    cases o with
    | cells t cs =>
      obtain ⟨b, c, vs, q1, q2, ⟨q3, q4⟩, q5⟩ := hr
      exact ⟨b, c, vs, q1, q2, ⟨⟨by simpa using q3.1, map_rep f0 q3.2⟩, q4⟩, q5⟩
    | row e z es =>
      obtain ⟨v, vs, q1, ⟨q2, q3⟩, q4, q5, q6⟩ := hr
      refine ⟨v, vs, by simpa using q1, ⟨⟨?_, ?_⟩, q3⟩, fun x hx => ?_, q5, q6⟩
      · rw [← List.map_flatten, List.length_map]; exact q2.1
      · rw [← List.map_flatten]; exact map_rep f0 q2.2
      · obtain ⟨y, hy, rfl⟩ := List.mem_map.1 hx
        simpa using q4 y hy
    | abs I =>
      obtain ⟨b, c, q1, q2⟩ := hr
      exact ⟨b, c, q1, I.keep q2 (.refl _ _) (fun k hk _ => hav k hk) fun _ _ => rfl⟩
  · obtain ⟨_, x, h1, _⟩ := hg' id o ho
    obtain ⟨_, y, h2, _⟩ := hg' id' o' ho'
    exact h.sim.h.disj id id' x y hne h1 h2
  · obtain ⟨_, x, h1, _⟩ := hg' id o ho
    exact h.sim.h.turn id x h1
  · show RepV w _ ρ (gets (frzS (geth s.hp) D s.sl) t) _
    rw [gets_frz]
    exact f2 (h.sim.slots t)
end Go.Proofs.Ytfakdapglbgokaa

/-
  The plain machine: what a body yields; a call's contract out of its body; contracts under other names. No condition.
-/
namespace Go.Proofs.Ytfakdapglbgokaa
set_option linter.all false
open Go.RowKit
variable {w : World} {A : Nat → Prop} {ρ : Plan_} {σ : Nat → Nat} {X : Cx} {s s' : SSt}

/-- What a body yields, one value. -/
def resV (P : Program) (s : SSt) : ResultVar → Option SV
  | .tmp t => some (gets s.sl t)
  | .cell a t => match aggOf P t, sizeOf_ P t with
    | some false, some _ => ((SOp.load (.t a)).run (·.ev s.sl) (geth s.hp) s.nx).map (·.1)
    | some true, some n => ((SOp.loads n (.t a)).run (·.ev s.sl) (geth s.hp) s.nx).map (·.1)
    | _, _ => none
def resL (P : Program) (s : SSt) : List ResultVar → Option (List SV)
  | [] => some []
  | r :: rs => match resV P s r, resL P s rs with
    | some v, some vs => some (v :: vs)
    | _, _ => none
def one_ : List SV → SV
  | [v] => v
  | vs => .tup vs
def resOf (P : Program) (s : SSt) (rs : List ResultVar) : Option SV := (resL P s rs).map one_
def resSem (tmps : Array Value) : ResultVar → Sem Value
  | .tmp t => pure (tmps.getD t undef)
  | .cell a t => do loadVar t (← asAddr (tmps.getD a undef))
theorem load_of {P : Program} {t : TypeId} {x : Operand} {a : Act} {v' : Value} (h : ∀ o : Oper, o.op = .load t x → (execOp a.eval o).run P w = .ok (.value v') w) : (do loadVar t (← asAddr (a.eval x)) : Sem Value).run P w = .ok v' w := by
  have h1 := h ⟨none, .load t x, 0, "", #[], none⟩ rfl
  simp only [execOp, Instr.loadAt, Sem.run_bind] at h1
  generalize a.eval x = y at h1
  cases y with
  | pointer p =>
    cases p with
    | none => simp [Instr.sureAddr, stuck, Sem.run, Result.andThen] at h1
    | some ad =>
      simp only [Instr.sureAddr, Sem.run_pure, Result.andThen_ok] at h1
      simp only [asAddr, Sem.run_bind, Sem.run_pure, Result.andThen_ok]
      generalize (loadVar t ad).run P w = r at h1
      cases r with
      | ok u w' => simp only [Result.andThen_ok, Result.ok.injEq, Next.value.injEq] at h1; rw [h1.1, h1.2]
      | halt u w' => simp [Result.andThen] at h1
  | _ => simp [Instr.sureAddr, stuck, Sem.run, Result.andThen] at h1
theorem resV_ok {ρ : Plan_} {fp : Nat → Nat → Prop} {a : Act} {w : World} (h : SimF X ρ fp s a w) {r : ResultVar} {v : SV} (hr : resV X.P s r = some v) : ∃ v', (resSem a.tmps r).run X.P w = .ok v' w ∧ RepV w (Av X s.hp fp) ρ v v' := by
  have hobj : ∀ id o, geth s.hp id = some o → ∃ fp', ObjRep w (Av X s.hp fp) ρ id fp' o := fun id o ho => ⟨_, h.sim.h.objs id o ho⟩
  cases r with
  | tmp t =>
    simp only [resV, Option.some.injEq] at hr
    subst hr
    exact ⟨_, rfl, h.sim.slots t⟩
  | cell b t =>
    simp only [resV] at hr
    -- an operand as wide as wanted
    have hx : cx (b + 1) (.tmp b) = some (.t b) := by simp [cx]
    split at hr
    · rename_i n hb hn
      simp only [Option.map_eq_some_iff] at hr
      obtain ⟨⟨v1, u, nx⟩, h1, rfl⟩ := hr
      obtain ⟨_, v', h2, h3⟩ := ok_load h.sim.slots hobj hx hb h1
      exact ⟨v', load_of h2, h3⟩
    · rename_i n hb hn
      simp only [Option.map_eq_some_iff] at hr
      obtain ⟨⟨v1, u, nx⟩, h1, rfl⟩ := hr
      obtain ⟨_, v', h2, h3⟩ := ok_loads h.sim.slots hobj hx hb hn h1
      exact ⟨v', load_of h2, h3⟩
    · cases hr
theorem resL_ok {ρ : Plan_} {fp : Nat → Nat → Prop} {a : Act} {w : World} (h : SimF X ρ fp s a w) : ∀ {rs : List ResultVar} {vs : List SV}, resL X.P s rs = some vs → ∃ us, (rs.mapM (resSem a.tmps)).run X.P w = .ok us w ∧ Reps w (Av X s.hp fp) ρ vs us
  | [], vs, hr => by simp only [resL, Option.some.injEq] at hr; subst hr; exact ⟨[], rfl, Reps.nil⟩
  | r :: rs, vs, hr => by
    simp only [resL] at hr
    split at hr
    · rename_i v vs' h1 h2
      cases hr
      obtain ⟨u, q1, q2⟩ := resV_ok h h1
      obtain ⟨us, q3, q4⟩ := resL_ok h h2
      exact ⟨u :: us, by simp [List.mapM_cons, q1, q3], Reps.cons q2 q4⟩
    · cases hr
theorem Reps.cons_ {x : SV} {v : Value} {xs : List SV} {vs : List Value} (h : RepV w A ρ x v) (hs : Reps w A ρ xs vs) : Reps w A ρ (x :: xs) (v :: vs) := .cons h hs
theorem results_ok {ρ : Plan_} {fp : Nat → Nat → Prop} {a : Act} {w : World} (h : SimF X ρ fp s a w) {fn : Func} {r : SV} (hr : resOf X.P s fn.results.toList = some r) : ∃ v, (results fn a.tmps).run X.P w = .ok v w ∧ RepV w (Av X s.hp fp) ρ r v := by
  simp only [resOf, Option.map_eq_some_iff] at hr
  obtain ⟨vs, h1, rfl⟩ := hr
  obtain ⟨us, h2, h3⟩ := resL_ok h h1
  have hm : (results fn a.tmps).run X.P w = .ok (if h : us.toArray.size = 1 then us.toArray[0] else .tuple us.toArray) w := by
    have e : (fn.results.mapM (resSem a.tmps)).run X.P w = .ok us.toArray w := by
      rw [Array.mapM_eq_mapM_toList]; simp [h2]
    have e2 : results fn a.tmps = (fn.results.mapM (resSem a.tmps) >>= fun vs => pure (if h : vs.size = 1 then vs[0] else .tuple vs)) := by
      unfold results
      congr 1
    rw [e2, Sem.run_bind, e]
    rfl
  refine ⟨_, hm, ?_⟩
  match vs, us, h3 with
  | [], us, h3 => obtain rfl := h3.nil_inv; exact .tup rfl (by simp)
  | [v], us, h3 =>
    obtain ⟨u, us', rfl, h4, h5⟩ := h3.cons_inv
    obtain rfl := h5.nil_inv
    exact h4
  | v :: v2 :: vs, us, h3 =>
    obtain ⟨u, us', rfl, h4, h5⟩ := h3.cons_inv
    obtain ⟨u2, us2, rfl, h6, h7⟩ := h5.cons_inv
    rw [dif_neg (by simp)]
    exact .tup h3.1 h3.2

/-- Values whose own names are below m. -/
def ltV (m : Nat) (x : SV) : Prop := ren (fun i => if i < m then i else m) x = x
def LtL (m : Nat) : List SV → Prop
  | [] => True
  | x :: xs => ltV m x ∧ LtL m xs
theorem LtL.map {m : Nat} : ∀ {xs : List SV}, LtL m xs → xs.map (ren (fun i => if i < m then i else m)) = xs
  | [], _ => rfl
  | x :: xs, h => by rw [List.map_cons, h.1, LtL.map h.2]
def LtO (m : Nat) : SObj → Prop
  | .cells _ cs => cs.map (ren (fun i => if i < m then i else m)) = cs
  | .row _ _ es => es.map (·.map (ren (fun i => if i < m then i else m))) = es
  | .abs _ => True
def LtH (m : Nat) : Hp → Prop
  | [] => True
  | (i, o) :: r => i < m ∧ LtO m o ∧ LtH m r
theorem LtH.get {m : Nat} : ∀ {h : Hp}, LtH m h → ∀ id o, geth h id = some o → id < m ∧ LtO m o
  | [], _, id, o, h => by cases h
  | (i, x) :: r, h, id, o, hg => by
    simp only [geth] at hg
    split at hg
    · rename_i e; subst e; cases hg; exact ⟨h.1, h.2.1⟩
    · exact LtH.get h.2.2 id o hg
theorem LtO.objM {m : Nat} {o : SObj} (h : LtO m o) : ObjM (fun i => if i < m then i else m) o o := by
  cases o with
  | cells t cs => exact ⟨rfl, by rw [show cs.map (ren _) = cs from h]; exact .refl _⟩
  | row e z es => exact ⟨rfl, rfl, by rw [show es.map (fun x => x.map (ren (fun i => if i < m then i else m))) = es from h]; exact .refl _⟩
  | abs I => rfl
/-- The parameters' temporaries. -/
def argS : Nat → List SV → Sl
  | _, [] => []
  | i, x :: xs => (i, x) :: argS (i + 1) xs
theorem gets_argS : ∀ (xs : List SV) (i t : Nat), gets (argS i xs) t = if t < i then .any else (xs[t - i]?).getD .any
  | [], i, t => by simp [argS, gets]
  | x :: xs, i, t => by
    simp only [argS, gets, gets_argS xs]
    by_cases e : i = t
    · subst e; simp
    · rw [if_neg e]
      by_cases h : t < i
      · rw [if_pos h, if_pos (by omega)]
      · rw [if_neg h, if_neg (by omega)]
        obtain ⟨d, hd⟩ : ∃ d, t - i = d + 1 := ⟨t - i - 1, by omega⟩
        rw [hd, show t - (i + 1) = d by omega, List.getElem?_cons_succ]
def QFun (X : Cx) (rs : List ResultVar) (m : Nat) (r : SV) (h2 : Hp) : SExit → SSt → Prop
  | .exit _, _ => False
  | _, s => ∃ s', Wk X s s' ∧ resOf X.P s' rs = some r ∧ SubH s'.hp h2 ∧ s'.nx ≤ m + 8
/-- A contract out of a body. -/
theorem scalls_of {P : Program} {f : FuncId} {fn : Func} {N m : Nat} {code : Code} {c : SCode} {args : List SV} {h1 h2 : Hp} {r : SV} (hf : P.funcs[f]? = some fn) (hb : fn.body = some code) (hN : fn.ntmps = N) (hname : (fn.name == "runtime.NumGoroutine") = false) (hc : comp P N code = some c.erase) (hal : args.length ≤ N)
    (hla : LtL m args) (hlh : LtH m h1)
    (h : ∀ X : Cx, X.P = P → X.N = N → X.m = m → SWp X c (QFun X fn.results.toList m r h2) ⟨argS 0 args, h1, m⟩) : SCalls P f args h1 m r h2 := by
  refine ⟨.of hf (by rw [hb]; rfl) hname, fun O ρ fp w vs hok hargs hfr => ?_⟩
  let σ : Nat → Nat := fun i => if i < m then i else m
  let ρi : Plan_ := fun id => ρ (σ id)
  have hm0 : ρ m = none := hfr m (Nat.le_refl _) (by omega)
  let X : Cx := ⟨P, N, m, ρi, w, Live h1 fp, O, hok.O_lt, fun k hO hl => (hok.lt k hl).2 hO⟩
  have hgl : ∀ id o, geth h1 id = some o → id < m ∧ σ id = id := fun id o ho => by
    have := (hlh.get id o ho).1
    exact ⟨this, if_pos this⟩
  have hfp : (fun id => fp id) = fp := rfl
  have hsimh : SimH X ρi fp h1 w := by
    refine ⟨fun id o ho => ?_, hok.disj, fun id o ho k hk => ⟨.inl ⟨id, o, ho, hk⟩, (hok.lt k ⟨id, o, ho, hk⟩).1⟩, .refl _ _, fun _ _ => rfl⟩
    have h3 := hok.objs id o ho
    obtain ⟨h4, h5⟩ := hgl id o ho
    have h6 := (hlh.get id o ho).2.objM
    rw [show id = σ id from h5.symm] at h3
    have := h6.back h3
    rw [h5] at this
    exact this
  have hlen := hargs.1
  have hreps : Reps w (Av X h1 fp) ρi args vs := by
    have h3 : Reps w (fun k => O k ∨ Live h1 fp k) ρ (args.map (ren σ)) vs := by rw [hla.map]; exact hargs
    exact rens_back h3
  let a0 : Act := { tmps := vs.toArray ++ Array.replicate (fn.ntmps - vs.toArray.size) undef, defers := [] }
  have hsz : a0.tmps.size = N := by simp [a0, hN]; omega
  have hsim : SimF X ρi fp ⟨argS 0 args, h1, m⟩ a0 w := by
    refine ⟨⟨hsimh, hsz, rfl, fun t => ?_⟩, fun id hid => ?_, Nat.le_refl _⟩
    · show RepV w _ ρi (gets (argS 0 args) t) _
      rw [gets_argS, if_neg (by omega), Nat.sub_zero]
      cases e : args[t]? with
      | none => exact .any
      | some x =>
        obtain ⟨v, h3, h4⟩ := hreps.get e
        have hlt : t < vs.length := (List.getElem?_eq_some_iff.1 h3).1
        have : a0.tmps.getD t undef = v := by
          have h5 : a0.tmps[t]? = some v := by
            simp only [a0]
            rw [Array.getElem?_append_left (by simpa using hlt)]
            simpa using h3
          rw [Array.getD_eq_getD_getElem?, h5]; rfl
        rw [this]; exact h4
    · show ρ (σ id) = none
      simp only [σ]
      rw [if_neg (by simp only at hid; omega)]; exact hm0
  have hw := h X rfl rfl rfl code hc ρi fp a0 w hsim
  refine calls_of_wp hf hb (wp_mono hw ?_)
  have fin : ∀ s ρ' fp' a w', (∃ s', Wk X s s' ∧ resOf X.P s' fn.results.toList = some r ∧ SubH s'.hp h2 ∧ s'.nx ≤ m + 8) → SimF X ρ' fp' s a w' →
      a.defers = [] ∧ ∃ v, (results fn a.tmps).run P w' = .ok v w' ∧ ∃ v2 ρ2 fp2, Ending.returned v = .returned v2 ∧ HeapOk O ρ2 fp2 h2 w' ∧ RepV w' (fun k => O k ∨ Live h2 fp2 k) ρ2 r v2 ∧ Step (Live h1 fp) w w' ∧
        (∀ id p, ρ id = some p → ρ2 id = some p) ∧ (∀ id, ρ2 id ≠ none → ρ id ≠ none ∨ (m ≤ id ∧ id < m + 8)) ∧ ∀ id o, geth h2 id = some o → ∀ k, fp2 id k → Live h1 fp k ∨ w.heap.size ≤ k := by
    rintro s ρ' fp' a w' ⟨s', hwk, hres, hsb, hnx⟩ hs
    obtain ⟨ρ3, fp3, hs3⟩ := hwk ρ' fp' a w' hs
    obtain ⟨v, q1, q2⟩ := results_ok hs3 hres
    let ρ2 : Plan_ := fun id => match ρ id with
      | some p => some p
      | none => ρ3 id
    have hext : ∀ id p, ρ3 id = some p → ρ2 id = some p := fun id p hp => by
      simp only [ρ2]
      cases e : ρ id with
      | none => exact hp
      | some p' =>
        simp only
        by_cases hid : id < m
        · have h5 : ρ3 id = ρi id := hs3.sim.h.keep id hid
          rw [h5] at hp
          simp only [ρi, σ, if_pos hid, e] at hp
          exact hp
        · by_cases hid2 : id < m + 8
          · rw [hfr id (by omega) hid2] at e; cases e
          · rw [hs3.fresh id (by omega)] at hp; cases hp
    have hsg := hsb.get
    have hav : ∀ k, (O k ∨ Live h2 fp3 k) → Av X s'.hp fp3 k := by
      rintro k (hO | ⟨id, o, ho, hk⟩)
      · exact .inl hO
      · exact .inr ⟨id, o, hsg id o ho, hk⟩
    refine ⟨hs3.sim.defers, v, q1, v, ρ2, fp3, rfl, ⟨fun id o ho => ?_, fun id id' o o' hne ho ho' => hs3.sim.h.disj id id' o o' hne (hsg _ _ ho) (hsg _ _ ho'), ?_, ?_⟩, q2.mono (.refl _ _) (fun k h _ => hav k h) hext, hs3.sim.h.step, fun id p hp => ?_, fun id hid => ?_, fun id o ho k hk => ?_⟩
    · exact (hs3.sim.h.objs id o (hsg _ _ ho)).mono ⟨.refl _ _, fun k h _ => hav k h, hext⟩ fun _ _ => rfl
    · rintro k ⟨id, o, ho, hk⟩
      obtain ⟨h5, h6⟩ := hs3.sim.h.turn id o (hsg _ _ ho) k hk
      refine ⟨h6, fun hO => ?_⟩
      rcases h5 with h5 | h5
      · exact X.O_M k hO h5
      · exact absurd (hok.O_lt k hO) (Nat.not_lt_of_le h5)
    · exact fun k hO => Nat.lt_of_lt_of_le (hok.O_lt k hO) hs3.sim.h.step.size
    · simp only [ρ2, hp]
    · cases e : ρ id with
      | some p => exact .inl (by simp)
      | none =>
        simp only [ρ2, e] at hid
        refine .inr ?_
        by_cases hlt : id < m
        · have h5 : ρ3 id = ρi id := hs3.sim.h.keep id hlt
          rw [h5] at hid
          simp only [ρi, σ, if_pos hlt, e] at hid
          exact absurd rfl hid
        · refine ⟨by omega, Nat.lt_of_not_le fun hge => hid (hs3.fresh id (by omega))⟩
    · exact (hs3.sim.h.turn id o (hsg _ _ ho) k hk).1
  intro e a w' ho
  cases e with
  | normal => obtain ⟨s, ρ', fp', h3, h4⟩ := ho; exact fin s ρ' fp' a w' h3 h4
  | ret => obtain ⟨s, ρ', fp', h3, h4⟩ := ho; exact fin s ρ' fp' a w' h3 h4
  | exit id => obtain ⟨s, ρ', fp', h3, h4⟩ := ho; exact h3.elim
  | goto l => exact ho.elim
  | panic c => exact ho.elim
  | outgrown => exact ho.elim
end Go.Proofs.Ytfakdapglbgokaa

/-
  The plain machine: contracts under other names. No condition.
-/
namespace Go.Proofs.Ytfakdapglbgokaa
set_option linter.all false
open Go.RowKit
variable {w : World} {A : Nat → Prop} {ρ ρ2 : Plan_} {σ : Nat → Nat}

def ok0 : SV → Bool
  | .agg _ | .tup _ => false
  | .fn _ [] [] => true
  | .fn _ _ _ => false
  | _ => true
def ok1 : SV → Bool
  | .agg cs => cs.all ok0
  | .fn _ a b => a.all ok0 && b.all ok0
  | x => ok0 x
def ok2 : SV → Bool
  | .tup cs => cs.all ok1
  | .agg cs => cs.all ok1
  | x => ok1 x
theorem ren0_fwd (hσ : ∀ c p, ρ c = some p → ρ2 (σ c) = some p) {x : SV} {v : Value} (hx : ok0 x = true) (h : RepV w A ρ x v) : RepV w A ρ2 (ren0 σ x) v := by
  cases h with
  | any => exact .any
  | bool => exact .bool
  | int => exact .int
  | str => exact .str
  | nil => exact .nil
  | nilsl => exact .nilsl
  | nilfn => exact .nilfn
  | view0 hc ha => exact .view0 hc ha
  | view cv hn hc hm hA hb hz h1 h2 ho => exact .view cv hn hc hm hA hb hz h1 h2 ho
  | cp cv hA hb h1 h2 ho => exact .cp cv hA hb h1 h2 ho
  | ptr h => exact .ptr (hσ _ _ h)
  | eptr h => exact .eptr (hσ _ _ h)
  | own0 h => exact .own0 (hσ _ _ h)
  | own h hn hm => exact .own (hσ _ _ h) hn hm
  | agg => simp [ok0] at hx
  | tup => simp [ok0] at hx
  | fn l1 l2 r1 r2 =>
    rename_i f fs cs vs us
    cases fs with
    | nil =>
      cases cs with
      | nil => exact .fn l1 l2 (by simp) (by simp)
      | cons y b => simp [ok0] at hx
    | cons y a => simp [ok0] at hx
theorem fwd_list {f : SV → SV} {ok : SV → Bool} (hf : ∀ {x v}, ok x = true → RepV w A ρ x v → RepV w A ρ2 (f x) v) {cs : List SV} {vs : List Value} (hk : cs.all ok = true) (h : ∀ (j : Nat) x v, cs[j]? = some x → vs[j]? = some v → RepV w A ρ x v) : ∀ (j : Nat) x v, (cs.map f)[j]? = some x → vs[j]? = some v → RepV w A ρ2 x v := fun j x v hx hv => by
  rw [List.getElem?_map, Option.map_eq_some_iff] at hx
  obtain ⟨y, hy, rfl⟩ := hx
  exact hf (List.all_eq_true.1 hk y (List.mem_of_getElem? hy)) (h j y v hy hv)
theorem ren1_fwd (hσ : ∀ c p, ρ c = some p → ρ2 (σ c) = some p) {x : SV} {v : Value} (hx : ok1 x = true) (h : RepV w A ρ x v) : RepV w A ρ2 (ren1 σ x) v := by
  cases x with
  | agg cs =>
    cases h with
    | agg ho hl hh => exact .agg ho (by simpa using hl) (fwd_list (ren0_fwd hσ) hx hh)
  | fn f gs bs =>
    simp only [ok1, Bool.and_eq_true] at hx
    cases h with
    | fn l1 l2 r1 r2 => exact .fn (by simpa using l1) (by simpa using l2) (fwd_list (ren0_fwd hσ) hx.1 r1) (fwd_list (ren0_fwd hσ) hx.2 r2)
  | _ => (refine ren0_fwd hσ ?_ h; exact hx)
theorem ren_fwd (hσ : ∀ c p, ρ c = some p → ρ2 (σ c) = some p) {x : SV} {v : Value} (hx : ok2 x = true) (h : RepV w A ρ x v) : RepV w A ρ2 (ren σ x) v := by
  cases x with
  | agg cs =>
    cases h with
    | agg ho hl hh => exact .agg ho (by simpa using hl) (fwd_list (ren1_fwd hσ) hx hh)
  | tup cs =>
    cases h with
    | tup hl hh => exact .tup (by simpa using hl) (fwd_list (ren1_fwd hσ) hx hh)
  | _ => (refine ren1_fwd hσ ?_ h; exact hx)
theorem rens_fwd (hσ : ∀ c p, ρ c = some p → ρ2 (σ c) = some p) {xs : List SV} {vs : List Value} (hx : xs.all ok2 = true) (h : Reps w A ρ xs vs) : Reps w A ρ2 (xs.map (ren σ)) vs := ⟨by simpa using h.1, fwd_list (ren_fwd hσ) hx h.2⟩
/-- An object, the other way round. -/
def ObjF (σ : Nat → Nat) : SObj → SObj → Prop
  | .cells t cs, .cells t' ds => t = t' ∧ cs.all ok2 = true ∧ ds = cs.map (ren σ)
  | .row e z es, .row e' z' fs => e = e' ∧ z = z' ∧ (∀ x ∈ es, x.all ok2 = true) ∧ fs = es.map (·.map (ren σ))
  | .abs I, .abs I' => I = I'
  | _, _ => False
theorem ObjF.fwd {o o' : SObj} (h : ObjF σ o o') (hσ : ∀ c p, ρ c = some p → ρ2 (σ c) = some p) {id : Nat} {F : Nat → Prop} (hr : ObjRep w A ρ id F o) : ObjRep w A ρ2 (σ id) F o' := by
  cases o with
  | cells t cs =>
    cases o' with
    | cells t' ds =>
      obtain ⟨rfl, hk, rfl⟩ := h
      obtain ⟨b, c, vs, h1, h2, ⟨h3, h4⟩, h5⟩ := hr
      exact ⟨b, c, vs, hσ _ _ h1, h2, ⟨rens_fwd hσ hk h3, h4⟩, h5⟩
    | row => exact h.elim
    | abs => exact h.elim
  | row e z es =>
    cases o' with
    | row e' z' fs =>
      obtain ⟨rfl, rfl, hk, rfl⟩ := h
      obtain ⟨v, vs, h1, ⟨h2, h3⟩, h4, h5, h6⟩ := hr
      refine ⟨v, vs, by simpa using h1, ⟨?_, h3⟩, fun x hx => ?_, hσ _ _ h5, h6⟩
      · rw [← List.map_flatten]
        refine rens_fwd hσ (List.all_eq_true.2 fun x hx => ?_) h2
        obtain ⟨l, hl, hx⟩ := List.mem_flatten.1 hx
        exact List.all_eq_true.1 (hk l hl) x hx
      · obtain ⟨y, hy, rfl⟩ := List.mem_map.1 hx
        simpa using h4 y hy
    | cells => exact h.elim
    | abs => exact h.elim
  | abs I =>
    cases o' with
    | abs I' => obtain rfl := h; obtain ⟨b, c, h1, h2⟩ := hr; exact ⟨b, c, hσ _ _ h1, h2⟩
    | cells => exact h.elim
    | row => exact h.elim
/-- Names of a contract at a call: parameters by τ, new ones from q on. -/
def sg (τ : List Nat) (q c : Nat) : Nat := if c < τ.length then τ.getD c 0 else if c < τ.length + 8 then q + (c - τ.length) else q
def ObjsF (σ : Nat → Nat) (h' : Hp) : Hp → Prop
  | [] => True
  | (i, o) :: r => (∃ o', geth h' (σ i) = some o' ∧ ObjF σ o o') ∧ ObjsF σ h' r
theorem ObjsF.get {h' : Hp} : ∀ {h : Hp}, ObjsF σ h' h → ∀ id o, geth h id = some o → ∃ o', geth h' (σ id) = some o' ∧ ObjF σ o o'
  | [], _, id, o, hg => by cases hg
  | (i, x) :: r, h, id, o, hg => by
    simp only [geth] at hg
    split at hg
    · rename_i e; subst e; cases hg; exact h.1
    · exact ObjsF.get h.2 id o hg
theorem sg_inj {τ : List Nat} {q : Nat} (hn : τ.Nodup) (hq : ∀ i ∈ τ, i < q ∨ q + 8 ≤ i) {a b : Nat} (ha : a < τ.length + 8) (hb : b < τ.length + 8) (h : sg τ q a = sg τ q b) : a = b := by
  unfold sg at h
  by_cases h1 : a < τ.length
  · rw [if_pos h1] at h
    have ma : τ.getD a 0 ∈ τ := by rw [List.getD_eq_getElem?_getD, List.getElem?_eq_getElem h1]; exact List.getElem_mem _
    by_cases h2 : b < τ.length
    · rw [if_pos h2] at h
      rw [List.getD_eq_getElem?_getD, List.getD_eq_getElem?_getD, List.getElem?_eq_getElem h1, List.getElem?_eq_getElem h2] at h
      exact (List.getElem_inj hn).1 h
    · rw [if_neg h2, if_pos hb] at h
      have := hq _ ma; omega
  · rw [if_neg h1, if_pos ha] at h
    by_cases h2 : b < τ.length
    · rw [if_pos h2] at h
      have mb : τ.getD b 0 ∈ τ := by rw [List.getD_eq_getElem?_getD, List.getElem?_eq_getElem h2]; exact List.getElem_mem _
      have := hq _ mb; omega
    · rw [if_neg h2, if_pos hb] at h; omega
/-- A contract under other names. -/
theorem scalls_ren (τ : List Nat) {P : Program} {f : FuncId} {args args' : List SV} {h1 h1' h2 h2' : Hp} {r r' : SV} {q m : Nat} (h : SCalls P f args h1 m r h2) (hm : m = τ.length) (hn : τ.Nodup) (hq : ∀ i ∈ τ, i < q ∨ q + 8 ≤ i)
    (ha : args' = args.map (ren (sg τ q))) (hh1 : ObjsM (sg τ q) h1' h1) (hlt1 : ∀ i ∈ idsH h1, i < m) (hr : r' = ren (sg τ q) r) (hrk : ok2 r = true) (hh2 : ObjsF (sg τ q) h2' h2) (hlt2 : ∀ i ∈ idsH h2, i < m + 8) (hb2 : idsH h2' = (idsH h2).map (sg τ q)) : SCalls P f args' h1' q r' h2' := by
  subst hm ha hr
  refine ⟨h.1, fun O ρ fp w vs hok hargs hfr => ?_⟩
  have hnone : ∀ c, τ.length ≤ c → ρ (sg τ q c) = none := fun c hc => by
    unfold sg
    rw [if_neg (by omega)]
    split
    · exact hfr _ (by omega) (by omega)
    · exact hfr _ (Nat.le_refl _) (by omega)
  have hsub : ∀ k, Live h1 (fun c => fp (sg τ q c)) k → Live h1' fp k := by
    rintro k ⟨c, o, ho, hk⟩
    obtain ⟨o', h3, _⟩ := hh1.get c o ho
    exact ⟨_, o', h3, hk⟩
  have hok1 : HeapOk O (fun c => ρ (sg τ q c)) (fun c => fp (sg τ q c)) h1 w := by
    refine ⟨fun c o ho => ?_, fun c d o o' hne ho ho' => ?_, fun k hk => hok.lt k (hsub k hk), hok.O_lt⟩
    · obtain ⟨o', h3, h4⟩ := hh1.get c o ho
      exact (h4.back (hok.objs _ _ h3)).weaken fun k hk _ => hk.imp (fun h => h) (hsub k)
    · obtain ⟨x, h3, _⟩ := hh1.get c o ho
      obtain ⟨y, h4, _⟩ := hh1.get d o' ho'
      refine hok.disj _ _ x y (fun e => hne (sg_inj hn hq ?_ ?_ e)) h3 h4
      · have := hlt1 c (geth_ids (by rw [ho]; simp)); omega
      · have := hlt1 d (geth_ids (by rw [ho']; simp)); omega
  refine (h.2 O (fun c => ρ (sg τ q c)) (fun c => fp (sg τ q c)) w vs hok1 ((rens_back hargs).weaken fun k hk _ => hk.imp (fun h => h) (hsub k)) (fun id h3 _ => hnone id h3)).mono ?_
  rintro e w' ⟨v, ρc, fpc, rfl, q1, q2, q3, q4, q5, q6⟩
  let ρ' : Plan_ := fun id => match ρ id with
    | some p => some p
    | none => if q ≤ id ∧ id < q + 8 then ρc (τ.length + (id - q)) else none
  have hσ : ∀ c p, ρc c = some p → ρ' (sg τ q c) = some p := fun c p hp => by
    rcases q5 c (by rw [hp]; simp) with h3 | h3
    · obtain ⟨p0, h4⟩ := Option.ne_none_iff_exists'.1 h3
      have h5 := q4 c p0 h4
      rw [hp] at h5; cases h5
      simp only [ρ', h4]
    · have h4 : sg τ q c = q + (c - τ.length) := by unfold sg; rw [if_neg (by omega), if_pos (by omega)]
      have h5 := hnone c h3.1
      simp only [ρ', h5]
      rw [h4, if_pos (by omega), show τ.length + (q + (c - τ.length) - q) = c by omega]; exact hp
  let fp' : Nat → Nat → Prop := fun id k => ∃ c, geth h2 c ≠ none ∧ sg τ q c = id ∧ fpc c k
  have hinv : ∀ id o', geth h2' id = some o' → ∃ c o, geth h2 c = some o ∧ sg τ q c = id ∧ ObjF (sg τ q) o o' := fun id o' ho' => by
    have h3 := geth_ids (hp := h2') (id := id) (by rw [ho']; simp)
    rw [hb2] at h3
    obtain ⟨c, hc, rfl⟩ := List.mem_map.1 h3
    have h4 : geth h2 c ≠ none := by
      have gen : ∀ {h : Hp}, c ∈ idsH h → geth h c ≠ none := by
        intro h
        induction h with
        | nil => intro h; cases h
        | cons x h ih =>
          obtain ⟨i, o⟩ := x
          intro hc
          by_cases e : i = c
          · simp [geth, e]
          · simp only [geth, if_neg e]
            exact ih ((List.mem_cons.1 hc).resolve_left (Ne.symm e))
      exact gen hc
    obtain ⟨o, h5⟩ := Option.ne_none_iff_exists'.1 h4
    obtain ⟨o2, h6, h7⟩ := hh2.get c o h5
    rw [ho'] at h6; cases h6
    exact ⟨c, o, h5, rfl, h7⟩
  have hfp : ∀ c o, geth h2 c = some o → fp' (sg τ q c) = fpc c := fun c o ho => by
    funext k
    apply propext
    constructor
    · rintro ⟨d, h3, h4, h5⟩
      have hlt : ∀ {x}, geth h2 x ≠ none → x < τ.length + 8 := fun hx => hlt2 _ (geth_ids hx)
      rw [sg_inj hn hq (hlt h3) (hlt (by rw [ho]; simp)) h4] at h5; exact h5
    · intro hk; exact ⟨c, by rw [ho]; simp, rfl, hk⟩
  have hlive : ∀ k, Live h2' fp' k → Live h2 fpc k := by
    rintro k ⟨id, o', ho', c, h3, h4, h5⟩
    obtain ⟨o, h6⟩ := Option.ne_none_iff_exists'.1 h3
    exact ⟨c, o, h6, h5⟩
  refine ⟨v, ρ', fp', rfl, ⟨fun id o' ho' => ?_, fun id id' o o' hne ho ho' k hk hk' => ?_, fun k hk => q1.lt k (hlive k hk), q1.O_lt⟩, (ren_fwd hσ hrk q2).weaken fun k hk _ => hk.imp (fun h => h) (hlive k), q3.mono hsub, fun id p hp => ?_, fun id hid => ?_, fun id o' ho' k hk => ?_⟩
  · obtain ⟨c, o, h3, rfl, h4⟩ := hinv id o' ho'
    rw [hfp c o h3]
    exact (h4.fwd hσ (q1.objs c o h3)).weaken fun k hk _ => hk.imp (fun h => h) (hlive k)
  · obtain ⟨c, oc, h3, rfl, _⟩ := hinv id o ho
    obtain ⟨d, od, h4, rfl, _⟩ := hinv id' o' ho'
    rw [hfp c oc h3] at hk
    rw [hfp d od h4] at hk'
    exact q1.disj c d oc od (fun e => hne (by rw [e])) h3 h4 k hk hk'
  · simp only [ρ', hp]
  · cases e : ρ id with
    | some p => exact .inl (by simp)
    | none =>
      simp only [ρ', e] at hid
      split at hid
      · exact .inr ‹_›
      · exact absurd rfl hid
  · obtain ⟨c, o, h3, rfl, _⟩ := hinv id o' ho'
    rw [hfp c o h3] at hk
    exact (q6 c o h3 k hk).imp (hsub k) fun h => h
/-- A contract without objects. -/
theorem scalls_q {P : Program} {f : FuncId} {args : List SV} {r : SV} (h : SCalls P f args [] 0 r []) (ha : ∀ σ, args.map (ren σ) = args) (hr : ∀ σ, ren σ r = r) (hk : ok2 r = true) (q : Nat) : SCalls P f args [] q r [] :=
  scalls_ren [] h rfl (by simp) (by simp) (ha _).symm trivial (by simp [idsH]) (hr _).symm hk trivial (by simp [idsH]) rfl
/-- Arguments that may be taken for those that are wanted. -/
theorem scalls_co {P : Program} {f : FuncId} {args args' : List SV} {h1 h2 : Hp} {q : Nat} {r : SV} (h : SCalls P f args' h1 q r h2) (hc : CoL args args') : SCalls P f args h1 q r h2 :=
  ⟨h.1, fun O ρ fp w vs hok hargs hfr => h.2 O ρ fp w vs hok (hc.reps hargs) hfr⟩
end Go.Proofs.Ytfakdapglbgokaa

/-
  The plain machine: what lies by a layout is a view; contracts about numbers, into the plain machine; laws, out of it. No condition.
-/
namespace Go.Proofs.Ytfakdapglbgokaa
set_option linter.all false
open Go.RowKit
variable {w : World} {A : Nat → Prop} {ρ : Plan_}

def nums (k : IntKind) (xs : List Int) : SV := .view 1 (xs.map fun x => [.int k x])
/-- A layout's cells, as values without addresses. -/
def LayP {α : Type} (L : Lay α) (f : α → List SV) : Prop := ∀ A w x cs, L.rep A w x cs → Reps w A noPl (f x) cs ∧ Ones cs
theorem layP_int (k : IntKind) : LayP (Lay.int k) (fun x => [.int k x]) := fun A w x cs h => by
  rw [h.1]; exact ⟨Reps.cons .int Reps.nil, fun v hv => by simp at hv; rw [hv]; rfl⟩
theorem layP_bool : LayP Lay.bool (fun x => [.bool x]) := fun A w x cs h => by
  rw [show cs = [.bool x] from h]; exact ⟨Reps.cons .bool Reps.nil, fun v hv => by simp at hv; rw [hv]; rfl⟩
theorem layP_pair {α β : Type} {L : Lay α} {M : Lay β} {f : α → List SV} {g : β → List SV} (hf : LayP L f) (hg : LayP M g) : LayP (Lay.pair L M) (fun x => f x.1 ++ g x.2) := fun A w x cs h => by
  obtain ⟨c, d, rfl, h1, h2⟩ := h
  obtain ⟨r1, o1⟩ := hf _ _ _ _ h1
  obtain ⟨r2, o2⟩ := hg _ _ _ _ h2
  exact ⟨r1.append r2, fun v hv => (List.mem_append.1 hv).elim (o1 v) (o2 v)⟩
theorem layP_map {α β : Type} {L : Lay α} {f : α → List SV} (g : β → α) (hf : LayP L f) : LayP (Lay.map g L) (fun x => f (g x)) := fun A w x cs h => hf _ _ _ _ h
theorem layP_view {α : Type} {L : Lay α} {f : α → List SV} (hf : LayP L f) {ao : Option Addr} {n c : Nat} {xs : List α} (h : RdL L A w ao n c xs) : RepV w A ρ (.view L.size (xs.map f)) (.slice ao n c) := by
  by_cases h0 : 0 < n
  · obtain ⟨b, off, rfl, hA, hb, hh⟩ := h.here h0
    have hl := h.len
    have get : ∀ i e j x, (xs.map f)[i]? = some e → e[j]? = some x → ∃ u, w.cell? ⟨b, off + i * L.size + j, none⟩ = some u ∧ RepV w A noPl x u ∧ u.oneCell' = true := fun i e j x he hx => by
      rw [List.getElem?_map, Option.map_eq_some_iff] at he
      obtain ⟨y, hy, rfl⟩ := he
      obtain ⟨hi, rfl⟩ := List.getElem?_eq_some_iff.1 hy
      obtain ⟨cs, h1, h2⟩ := hh i hi
      obtain ⟨r, o⟩ := hf _ _ _ _ h1
      have hj : j < (f xs[i]).length := (List.getElem?_eq_some_iff.1 hx).1
      have hjs : j < L.size := by rw [← L.len h1, ← r.1]; exact hj
      obtain ⟨u, hu, hr⟩ := r.get hx
      exact ⟨u, by rw [h2 j hjs]; exact hu, hr, o u (List.mem_of_getElem? hu)⟩
    refine .view (fun i j => (w.cell? ⟨b, off + i * L.size + j, none⟩).getD undef) (by simp [hl]) h.le h.max hA hb (fun e he => ?_) (fun i e j x he hx => ?_) (fun i e j x he hx => ?_) (fun i e j x he hx => ?_)
    · obtain ⟨y, hy, rfl⟩ := List.mem_map.1 he
      obtain ⟨i, hi0⟩ := List.getElem?_of_mem hy
      obtain ⟨hi, rfl⟩ := List.getElem?_eq_some_iff.1 hi0
      obtain ⟨cs, h1, _⟩ := hh i hi
      rw [(hf _ _ _ _ h1).1.1, L.len h1]
    · obtain ⟨u, h1, _⟩ := get i e j x he hx; rw [h1]; rfl
    · obtain ⟨u, h1, h2, _⟩ := get i e j x he hx; rw [h1]; exact h2
    · obtain ⟨u, h1, _, h3⟩ := get i e j x he hx; rw [h1]; exact h3
  · have hn : n = 0 := by omega
    have : xs = [] := List.eq_nil_of_length_eq_zero (by rw [h.len, hn])
    subst this hn
    exact .view0 h.max h.nil
theorem layP_slice {α : Type} {L : Lay α} {f : α → List SV} (hf : LayP L f) : LayP (Lay.slice L) (fun xs => [.view L.size (xs.map f)]) := fun A w x cs h => by
  obtain ⟨ao, n, c, rfl, h1⟩ := h
  exact ⟨Reps.cons (layP_view hf h1) Reps.nil, fun v hv => by simp at hv; rw [hv]; rfl⟩
theorem rd_view {k : IntKind} {ao : Option Addr} {n c : Nat} {xs : List Int} (h : Rd w k ao n c xs) (hA : ∀ a, ao = some a → 0 < n → ¬ A a.block) : RepV w A ρ (nums k xs) (.slice ao n c) := layP_view (layP_int k) (h.lay A hA)
theorem view_rd {k : IntKind} {v : Value} {xs : List Int} (h : RepV w A ρ (nums k xs) v) (hf : AllFit k xs) : ∃ ao c, v = .slice ao xs.length c ∧ Rd w k ao xs.length c xs ∧ ∀ a, ao = some a → 0 < xs.length → ¬ A a.block := by
  unfold nums at h
  cases xs with
  | nil =>
    cases h with
    | view0 hc ha => exact ⟨_, _, rfl, ⟨rfl, hf, Nat.zero_le _, hc, by simp, ha⟩, by simp⟩
    | view cv hn hc hm hA hb hz h1 h2 ho => subst hn; exact ⟨_, _, rfl, ⟨rfl, hf, Nat.zero_le _, hm, by simp, by simp⟩, by simp⟩
  | cons y ys =>
    generalize hxs : y :: ys = xs at *
    generalize hes : (xs.map fun x => [SV.int k x]) = es at h
    cases h with
    | view0 hc ha => rw [← hxs] at hes; simp at hes
    | view cv hn hc hm hA hb hz h1 h2 ho =>
      rename_i b off n c
      have hl : xs.length = n := by rw [← hn, ← hes]; simp
      refine ⟨some ⟨b, off, none⟩, c, by rw [hl], ⟨rfl, hf, by omega, hm, fun _ => ⟨b, off, rfl, fun i hi => ?_⟩, by simp⟩, fun a ha _ => by cases ha; exact hA⟩
      have he : es[i]? = some [SV.int k xs[i]] := by rw [← hes]; simp [hi]
      have r1 := h1 i _ 0 _ he rfl
      have r2 := h2 i _ 0 _ he rfl
      simp only [Nat.mul_one, Nat.add_zero] at r1
      rw [r1]
      generalize cv i 0 = u at r2
      cases r2
      have : el xs i = xs[i] := by unfold el; simp [hi]
      rw [this]
theorem mine_view {w0 : World} {base : Nat} {e : TypeId} {k : IntKind} {v : Value} {xs : List Int} (h : Mine w base e k v xs) (hA : ∀ b, base ≤ b → ¬ A b) : RepV w A ρ (nums k xs) v := by
  obtain ⟨ao, c, rfl, h1, h2⟩ := h.rd
  exact rd_view h1 fun a ha _ => hA _ (h2 a ha).1
/-- A law, out of the plain machine. -/
theorem law_of {P : Program} {f : FuncId} {args : List SV} {vs : List Value} (h : SCalls P f args [] 0 (.bool true) []) (hr : Reps w (fun _ => False) noPl args vs) : Calls P f vs.toArray w fun e w' => e = .returned (.bool true) ∧ Below w.heap.size w w' := by
  refine (h.2 (fun _ => False) noPl (fun _ _ => False) w vs ⟨fun id o ho => by simp [geth] at ho, fun id id' o o' _ ho => by simp [geth] at ho, fun k ⟨id, o, ho, _⟩ => by simp [geth] at ho, fun k h => h.elim⟩ (hr.weaken fun k hk _ => hk.elim (fun h => h) fun ⟨id, o, ho, _⟩ => by simp [geth] at ho) (fun _ _ _ => rfl)).mono ?_
  rintro e w' ⟨v, ρ', fp', rfl, _, q2, q3, _⟩
  cases q2
  exact ⟨rfl, q3.below (Nat.le_refl _) fun k ⟨id, o, ho, _⟩ => by simp [geth] at ho⟩
/-- A contract about worlds that only takes values without own names, into the plain machine. -/
theorem scalls_in {P : Program} {f : FuncId} {args : List SV} {r : SV} (he : Enters P f)
    (h : ∀ (O : Nat → Prop) (w : World) (vs : List Value), (∀ k, O k → k < w.heap.size) → Reps w O noPl args vs → Calls P f vs.toArray w fun e w' => ∃ v, e = .returned v ∧ Below w.heap.size w w' ∧ RepV w' O noPl r v)
    (ha : ∀ σ, args.map (ren σ) = args) (q : Nat) : SCalls P f args [] q r [] := by
  refine ⟨he, fun O ρ fp w vs hok hargs hfr => ?_⟩
  have hO : (fun k => O k ∨ Live [] fp k) = O := by funext k; simp [Live, geth]
  rw [hO] at hargs
  have ha' : Reps w O noPl args vs := by
    have h1 : Reps w O ρ (args.map (ren fun _ => q)) vs := by rw [ha]; exact hargs
    have h2 := rens_back h1
    have e : (fun id => ρ ((fun _ => q) id)) = noPl := by funext id; exact hfr q (Nat.le_refl _) (by omega)
    rw [e] at h2; exact h2
  refine (h O w vs hok.O_lt ha').mono ?_
  rintro e w' ⟨v, rfl, hb, hr⟩
  refine ⟨v, ρ, fp, rfl, ⟨fun id o ho => by simp [geth] at ho, fun id id' o o' _ ho => by simp [geth] at ho, fun k ⟨id, o, ho, _⟩ => by simp [geth] at ho, fun k hk => Nat.lt_of_lt_of_le (hok.O_lt k hk) hb.size⟩, ?_, .of hb, fun _ _ h => h, fun id h => .inl h, fun id o ho => by simp [geth] at ho⟩
  exact hr.mono (.refl _ _) (fun k hk _ => by have := congrFun hO k; rw [← this]; exact hk) fun _ _ h => by cases h
end Go.Proofs.Ytfakdapglbgokaa
