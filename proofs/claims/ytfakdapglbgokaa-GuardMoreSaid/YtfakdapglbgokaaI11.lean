/-
  Texts joined: XShD. No condition.
-/
import Derived.Test.YtfakdapglbgokaaI10
/-
  The plain machine's operations do what the model's do: structs held against each other, made, slices cut; what turns objects. No condition.
-/
namespace Go.Proofs.Ytfakdapglbgokaa
set_option linter.all false
open Go.RowKit
variable {P : Program} {w : World} {A : Nat → Prop} {ρ : Plan_} {N : Nat} {a : Act} {sl : Sl}

theorem ok_eq (hs : ∀ t, RepV w A ρ (gets sl t) (a.tmps.getD t undef)) {x y : Operand} {x' y' : SX} {neg : Bool} {k : Nat} {t yt : TypeId} (hx : cx N x = some x') (hy : cx N y = some y') (hk : cmpOf P t = some k) {g : Nat → Option SObj} {nx nx' : Nat} {v : SV} {u : Upd}
    (h : (SOp.eq k neg x' y').run (·.ev sl) g nx = some (v, u, nx')) : u = [] ∧ POk P w A ρ a (.binOp (if neg then .neq else .eql) t x y yt) v := by
  have rx := cx_rep hx hs
  have ry := cx_rep hy hs
  simp only [SOp.run, Option.map_eq_some_iff] at h
  obtain ⟨b, hb, h⟩ := h
  cases h
  obtain ⟨⟨h1, h2⟩, h3⟩ := eq0_run hk hb rx ry
  refine ⟨rfl, _, fun o ho => ?_, .bool⟩
  cases neg
  · simp [execOp, ho, h3, h1]
  · simp [execOp, ho, h3, h2]
theorem eq1_run {k d : Nat} {t : TypeId} (hk : scalarOf P t = some k) {x y : SV} {b : Bool} (h : eq1 k x y = some b) {vx vy : Value} (rx : RepV w A ρ x vx) (ry : RepV w A ρ y vy) : (Op.equalIn (d + 1) t vx vy).run P w = .ok b w := by
  unfold eq1 at h
  split at h
  · cases h
    have hu : P.underlying t = some .bool := by unfold scalarOf at hk; split at hk <;> first | assumption | cases hk
    cases rx; cases ry
    simp [Op.equalIn, run_underlying hu]
  · split at h
    · rename_i hkk
      cases h
      obtain ⟨j, hu⟩ : ∃ j, P.underlying t = some (.int j) := by unfold scalarOf at hk; split at hk <;> first | exact ⟨_, by assumption⟩ | cases hk
      cases rx; cases ry
      subst hkk
      simp [Op.equalIn, run_underlying hu]
    · cases h
  · cases h
    have hu : P.underlying t = some .string := by unfold scalarOf at hk; split at hk <;> first | assumption | cases hk
    cases rx; cases ry
    simp [Op.equalIn, run_underlying hu, beq_toListBytes]
  · cases h
theorem scalar_part {k : Nat} {t : TypeId} (hk : scalarOf P t = some k) {vs : Array Value} {i : Nat} {v : Value} (hv : vs[i]? = some v) : (part t vs i).run P w = .ok v w := by
  have : aggOf P t = some false := by
    unfold scalarOf at hk
    unfold aggOf
    split at hk <;> first | (rename_i hu; rw [hu]) | cases hk
  simp [part, aggOf_run this w, hv]
theorem eqF_run {d : Nat} {xs ys : Array Value} : ∀ (fs : List Field) (i : Nat) (ks : List Nat), flatF P i fs = some ks → ∀ (cs ds : List SV) (b : Bool), eqL ks cs ds = some b →
    (∀ (j : Nat) x, cs[j]? = some x → ∃ v, xs[i + j]? = some v ∧ RepV w A ρ x v) → (∀ (j : Nat) x, ds[j]? = some x → ∃ v, ys[i + j]? = some v ∧ RepV w A ρ x v) → (Op.eqFields (d + 1) xs ys fs).run P w = .ok b w := by
  intro fs
  induction fs with
  | nil =>
    intro i ks hk cs ds b h _ _
    cases hk
    cases cs <;> cases ds <;> simp [eqL] at h
    subst h; rfl
  | cons f fs ih =>
    intro i ks hk cs ds b h hx hy
    simp only [flatF] at hk
    split at hk
    · rename_i hf
      obtain ⟨h0, hn⟩ := hf
      split at hk
      · rename_i k ks' h1 h2
        cases hk
        cases cs with
        | nil => simp [eqL] at h
        | cons c cs =>
          cases ds with
          | nil => simp [eqL] at h
          | cons e ds =>
            simp only [eqL] at h
            split at h
            · rename_i p q hp hq
              cases h
              obtain ⟨vc, hvc, rc⟩ := hx 0 c rfl
              obtain ⟨ve, hve, re⟩ := hy 0 e rfl
              have r1 : (part f.type xs f.offset).run P w = .ok vc w := scalar_part h1 (by rw [h0]; simpa using hvc)
              have r2 : (part f.type ys f.offset).run P w = .ok ve w := scalar_part h1 (by rw [h0]; simpa using hve)
              have r3 := eq1_run (d := d) h1 hp rc re
              have r4 := ih (i + 1) ks' h2 cs ds q hq (fun j x hj => by have := hx (j + 1) x (by simpa using hj); rwa [show i + 1 + j = i + (j + 1) by omega]) (fun j x hj => by have := hy (j + 1) x (by simpa using hj); rwa [show i + 1 + j = i + (j + 1) by omega])
              simp only [Op.eqFields, if_pos hn, Sem.run_bind, r1, r2, r3, Result.andThen_ok]
              cases p
              · simp
              · simpa using r4
            · cases h
      · cases hk
    · cases hk
theorem ok_eqs (hs : ∀ t, RepV w A ρ (gets sl t) (a.tmps.getD t undef)) {x y : Operand} {x' y' : SX} {neg : Bool} {ks : List Nat} {t yt : TypeId} (hx : cx N x = some x') (hy : cx N y = some y') (hk : flatOf P t = some ks) {g : Nat → Option SObj} {nx nx' : Nat} {v : SV} {u : Upd}
    (h : (SOp.eqs ks neg x' y').run (·.ev sl) g nx = some (v, u, nx')) : u = [] ∧ POk P w A ρ a (.binOp (if neg then .neq else .eql) t x y yt) v := by
  have rx := cx_rep hx hs
  have ry := cx_rep hy hs
  simp only [SOp.run] at h
  split at h
  · rename_i cs ds he he2
    rw [he] at rx; rw [he2] at ry
    simp only [Option.map_eq_some_iff] at h
    obtain ⟨b, hb, h⟩ := h
    cases h
    unfold flatOf at hk
    split at hk
    · rename_i fs hu
      split at hk
      · rename_i hc
        simp only [Bool.and_eq_true, Bool.not_eq_true'] at hc
        generalize hv : a.eval x = vx at rx
        generalize hv2 : a.eval y = vy at ry
        cases rx with
        | agg hone hl hh =>
          rename_i vs
          cases ry with
          | agg hone2 hl2 hh2 =>
            rename_i us
            have hfo : P.fieldsOf t = fs := by simp [Program.fieldsOf, hu]
            have hrun : (Op.equalIn 10000 t (.agg vs.toArray) (.agg us.toArray)).run P w = .ok b w := by
              rw [show (10000 : Nat) = 9998 + 1 + 1 from rfl, run_equalIn_struct w _ t _ _ (by rw [hfo]; exact hu) hc.1, hfo]
              refine eqF_run (A := A) (ρ := ρ) fs.toList 0 ks hk cs ds b hb (fun j x hj => ?_) (fun j x hj => ?_)
              · obtain ⟨v, h1, h2⟩ := Reps.get ⟨hl, hh⟩ hj
                exact ⟨v, by simpa using h1, h2⟩
              · obtain ⟨v, h1, h2⟩ := Reps.get ⟨hl2, hh2⟩ hj
                exact ⟨v, by simpa using h1, h2⟩
            refine ⟨rfl, _, fun o ho => ?_, .bool⟩
            cases neg
            · simp [execOp, ho, hv, hv2, run_eqGuard_agg w _ t _ _ _ _ hc.2, run_eql_struct, hrun]
            · simp [execOp, ho, hv, hv2, run_eqGuard_agg w _ t _ _ _ _ hc.2, run_neq_struct, hrun]
      · cases hk
    · cases hk
  · cases h

theorem RepV.cut {size : Nat} {es : List (List SV)} {b : Option Addr} {n c l h : Nat} (hr : RepV w A ρ (.view size es) (.slice b n c)) (hl : l ≤ h) (hh : h ≤ es.length) :
    RepV w A ρ (.view size ((es.take h).drop l)) (.slice (if c = l then b else b.map (·.add (l * size))) (h - l) (c - l)) := by
  cases hr with
  | view0 hc ha =>
    simp at hh; subst hh
    obtain rfl : l = 0 := by omega
    simp only [List.take_nil, List.drop_nil, Nat.sub_zero]
    refine .view0 hc fun e => ?_
    split at e
    · exact ha e
    · simp at e; exact ha e
  | view cv hn hc hm hA hb hz h1 h2 ho =>
    rename_i g off
    by_cases h0 : h - l = 0
    · have : (es.take h).drop l = [] := by apply List.eq_nil_of_length_eq_zero; simp; omega
      rw [this, h0]
      exact .view0 (by omega) (by split <;> simp)
    · rw [if_neg (by omega)]
      simp only [Option.map_some, addr_add]
      refine .view (fun i j => cv (l + i) j) (by simp; omega) (by omega) (by omega) hA hb (fun e he => hz e (List.mem_of_mem_take (List.mem_of_mem_drop he))) (fun i e j x hi hx => ?_) (fun i e j x hi hx => ?_) (fun i e j x hi hx => ?_)
      · rw [List.getElem?_drop, List.getElem?_take] at hi
        split at hi
        · have := h1 _ _ _ _ hi hx
          rw [show off + l * size + i * size + j = off + (l + i) * size + j by rw [Nat.add_mul]; omega]
          exact this
        · cases hi
      · rw [List.getElem?_drop, List.getElem?_take] at hi
        split at hi
        · exact h2 _ _ _ _ hi hx
        · cases hi
      · rw [List.getElem?_drop, List.getElem?_take] at hi
        split at hi
        · exact ho _ _ _ _ hi hx
        · cases hi
theorem slice_run {t e : TypeId} (ht : P.underlying t = some (.slice e)) {size : Nat} (hn : sizeOf_ P e = some size) {x : Operand} {lo hi : Option Operand} {b : Option Addr} {n c l h : Nat} (hx : a.eval x = .slice b n c)
    (hlo : (lo = none ∧ l = 0) ∨ ∃ y k, lo = some y ∧ a.eval y = .int k (l : Int)) (hhi : (hi = none ∧ h = n) ∨ ∃ y k, hi = some y ∧ a.eval y = .int k (h : Int)) (h1 : l ≤ h) (h2 : h ≤ n) (h3 : n ≤ c) :
    ∀ o : Oper, o.op = .slice t x lo hi none → (execOp a.eval o).run P w = .ok (.value (.slice (if c = l then b else b.map (·.add (l * size))) (h - l) (c - l))) w := fun o ho => by
  have hc : h ≤ c := Nat.le_trans h2 h3
  rcases hlo with ⟨rfl, rfl⟩ | ⟨y, k, rfl, hy⟩ <;> rcases hhi with ⟨rfl, rfl⟩ | ⟨z, k', rfl, hz⟩
  · simp [execOp, ho, hx, Instr.sliceAt, Instr.slice, run_underlying ht, Instr.sliceBounds, sizeOf_run hn w]
  · simp [execOp, ho, hx, hz, Instr.sliceAt, Instr.slice, run_underlying ht, Instr.sliceBounds, Instr.sliceBound, asIntOf, sizeOf_run hn w, hc]
  · simp [execOp, ho, hx, hy, Instr.sliceAt, Instr.slice, run_underlying ht, Instr.sliceBounds, Instr.sliceBound, asIntOf, sizeOf_run hn w, h1]
  · simp [execOp, ho, hx, hy, hz, Instr.sliceAt, Instr.slice, run_underlying ht, Instr.sliceBounds, Instr.sliceBound, asIntOf, sizeOf_run hn w, hc, h1]
theorem sliceS_run {t : TypeId} (ht : P.underlying t = some .string) {x : Operand} {lo hi : Option Operand} {s : ByteArray} {l h : Nat} (hx : a.eval x = .string s)
    (hlo : (lo = none ∧ l = 0) ∨ ∃ y k, lo = some y ∧ a.eval y = .int k (l : Int)) (hhi : (hi = none ∧ h = s.size) ∨ ∃ y k, hi = some y ∧ a.eval y = .int k (h : Int)) (h1 : l ≤ h) (h2 : h ≤ s.size) :
    ∀ o : Oper, o.op = .slice t x lo hi none → (execOp a.eval o).run P w = .ok (.value (.string (s.extract l h))) w := fun o ho => by
  rcases hlo with ⟨rfl, rfl⟩ | ⟨y, k, rfl, hy⟩ <;> rcases hhi with ⟨rfl, rfl⟩ | ⟨z, k', rfl, hz⟩
  · simp [execOp, ho, hx, Instr.sliceAt, Instr.slice, run_underlying ht, Instr.sliceBounds]
  · simp [execOp, ho, hx, hz, Instr.sliceAt, Instr.slice, run_underlying ht, Instr.sliceBounds, Instr.sliceBound, asIntOf, h2]
  · simp [execOp, ho, hx, hy, Instr.sliceAt, Instr.slice, run_underlying ht, Instr.sliceBounds, Instr.sliceBound, asIntOf, h1]
  · simp [execOp, ho, hx, hy, hz, Instr.sliceAt, Instr.slice, run_underlying ht, Instr.sliceBounds, Instr.sliceBound, asIntOf, h2, h1]

theorem cxo_none (hs : ∀ t, RepV w A ρ (gets sl t) (a.tmps.getD t undef)) {x : Option Operand} {y : Option SX} (h : cxo N x = some y) (hn : y.map (·.ev sl) = none) : x = none := by
  cases x with
  | none => rfl
  | some o => simp [cxo] at h; obtain ⟨z, _, rfl⟩ := h; simp at hn
theorem cxo_int (hs : ∀ t, RepV w A ρ (gets sl t) (a.tmps.getD t undef)) {x : Option Operand} {y : Option SX} (h : cxo N x = some y) {k : IntKind} {n : Int} (hn : y.map (·.ev sl) = some (.int k n)) : ∃ o, x = some o ∧ a.eval o = .int k n := by
  cases x with
  | none => simp [cxo] at h; subst h; simp at hn
  | some o =>
    simp [cxo] at h
    obtain ⟨z, hz, rfl⟩ := h
    have := cx_rep hz hs
    simp at hn
    rw [hn] at this
    refine ⟨o, rfl, ?_⟩
    generalize a.eval o = v at this
    cases this; rfl
theorem ok_slice (hs : ∀ t, RepV w A ρ (gets sl t) (a.tmps.getD t undef)) {x : Operand} {x' : SX} {lo hi : Option Operand} {lo' hi' : Option SX} {size : Nat} {t e : TypeId} (hx : cx N x = some x') (hlo : cxo N lo = some lo') (hhi : cxo N hi = some hi') (ht : P.underlying t = some (.slice e)) (hn : sizeOf_ P e = some size) {g : Nat → Option SObj} {nx nx' : Nat} {v : SV} {u : Upd}
    (h : (SOp.slice size x' lo' hi').run (·.ev sl) g nx = some (v, u, nx')) : u = [] ∧ POk P w A ρ a (.slice t x lo hi none) v := by
  have rx := cx_rep hx hs
  have view_le : ∀ {b : Option Addr} {n c size : Nat} {es : List (List SV)}, RepV w A ρ (.view size es) (.slice b n c) → es.length = n ∧ n ≤ c := fun h => by
    cases h with
    | view0 => simp
    | view cv hn hc => exact ⟨hn, hc⟩
  simp only [SOp.run] at h
  split at h
  · rename_i h1 h2
    have e1 := cxo_none hs hlo h1
    have e2 := cxo_none hs hhi h2
    split at h
    · rename_i size' es he
      rw [he] at rx
      split at h
      · rename_i hsz
        subst hsz
        cases h
        generalize hv : a.eval x = vx at rx
        obtain ⟨b, n, c, rfl⟩ : ∃ b n c, vx = .slice b n c := by cases rx <;> exact ⟨_, _, _, rfl⟩
        obtain ⟨hl, hc⟩ := view_le rx
        have := rx.cut (l := 0) (h := n) (Nat.zero_le _) (by omega)
        refine ⟨rfl, _, slice_run ht hn hv (.inl ⟨e1, rfl⟩) (.inl ⟨e2, rfl⟩) (Nat.zero_le _) (Nat.le_refl _) hc, ?_⟩
        rw [List.drop_zero, List.take_of_length_le (by omega)] at this
        exact this
      · cases h
    · rename_i id n he
      rw [he] at rx
      cases h
      generalize hv : a.eval x = vx at rx
      cases rx with
      | own0 hρ => exact ⟨rfl, _, slice_run ht hn hv (.inl ⟨e1, rfl⟩) (.inl ⟨e2, rfl⟩) (Nat.zero_le _) (Nat.le_refl _) (Nat.le_refl _), by simpa using RepV.own0 hρ⟩
      | own hρ hn' hm =>
        refine ⟨rfl, _, slice_run ht hn hv (.inl ⟨e1, rfl⟩) (.inl ⟨e2, rfl⟩) (Nat.zero_le _) (Nat.le_refl _) hn', ?_⟩
        simp only [Nat.zero_mul, Option.map_some, addr_add, Nat.add_zero, ite_self, Nat.sub_zero]
        exact .own hρ hn' hm
    · cases h
  · rename_i k l h1 h2
    obtain ⟨y, e1, hy⟩ := cxo_int hs hlo h1
    have e2 := cxo_none hs hhi h2
    split at h
    · rename_i size' es he
      rw [he] at rx
      split at h
      · rename_i hsz
        subst hsz
        rw [rg_some] at h
        obtain ⟨hr, h⟩ := h
        cases h
        generalize hv : a.eval x = vx at rx
        obtain ⟨b, n, c, rfl⟩ : ∃ b n c, vx = .slice b n c := by cases rx <;> exact ⟨_, _, _, rfl⟩
        obtain ⟨hl, hc⟩ := view_le rx
        obtain ⟨l, rfl⟩ := Int.eq_ofNat_of_zero_le hr.1
        have := rx.cut (l := l) (h := n) (by omega) (by omega)
        refine ⟨rfl, _, slice_run ht hn hv (.inr ⟨y, k, e1, hy⟩) (.inl ⟨e2, rfl⟩) (by omega) (Nat.le_refl _) hc, ?_⟩
        rw [List.take_of_length_le (by omega)] at this
        exact this
      · cases h
    · cases h
  · rename_i k l h1 h2
    have e1 := cxo_none hs hlo h1
    obtain ⟨y, e2, hy⟩ := cxo_int hs hhi h2
    split at h
    · rename_i size' es he
      rw [he] at rx
      split at h
      · rename_i hsz
        subst hsz
        rw [rg_some] at h
        obtain ⟨hr, h⟩ := h
        cases h
        generalize hv : a.eval x = vx at rx
        obtain ⟨b, n, c, rfl⟩ : ∃ b n c, vx = .slice b n c := by cases rx <;> exact ⟨_, _, _, rfl⟩
        obtain ⟨hl, hc⟩ := view_le rx
        obtain ⟨l, rfl⟩ := Int.eq_ofNat_of_zero_le hr.1
        have := rx.cut (l := 0) (h := l) (by omega) (by omega)
        refine ⟨rfl, _, slice_run ht hn hv (.inl ⟨e1, rfl⟩) (.inr ⟨y, k, e2, hy⟩) (by omega) (by omega) hc, ?_⟩
        rw [List.drop_zero] at this
        exact this
      · cases h
    · rename_i id n he
      rw [he] at rx
      rw [rg_some] at h
      obtain ⟨hr, h⟩ := h
      cases h
      obtain ⟨l, rfl⟩ := Int.eq_ofNat_of_zero_le hr.1
      generalize hv : a.eval x = vx at rx
      cases rx with
      | own0 hρ =>
        obtain rfl : l = 0 := by omega
        exact ⟨rfl, _, slice_run ht hn hv (.inl ⟨e1, rfl⟩) (.inr ⟨y, k, e2, hy⟩) (Nat.zero_le _) (Nat.le_refl _) (Nat.le_refl _), by simpa using RepV.own0 hρ⟩
      | own hρ hn' hm =>
        refine ⟨rfl, _, slice_run ht hn hv (.inl ⟨e1, rfl⟩) (.inr ⟨y, k, e2, hy⟩) (Nat.zero_le _) (by omega) hn', ?_⟩
        simp only [Nat.zero_mul, Option.map_some, addr_add, Nat.add_zero, ite_self, Nat.sub_zero]
        exact .own hρ (by simp; omega) hm
    · cases h
  · rename_i k l k' m h1 h2
    obtain ⟨y, e1, hy⟩ := cxo_int hs hlo h1
    obtain ⟨z, e2, hz⟩ := cxo_int hs hhi h2
    split at h
    · rename_i size' es he
      rw [he] at rx
      split at h
      · rename_i hsz
        subst hsz
        rw [rg_some] at h
        obtain ⟨hr, h⟩ := h
        cases h
        generalize hv : a.eval x = vx at rx
        obtain ⟨b, n, c, rfl⟩ : ∃ b n c, vx = .slice b n c := by cases rx <;> exact ⟨_, _, _, rfl⟩
        obtain ⟨hl, hc⟩ := view_le rx
        obtain ⟨l, rfl⟩ := Int.eq_ofNat_of_zero_le hr.1
        obtain ⟨m, rfl⟩ := Int.eq_ofNat_of_zero_le (Int.le_trans hr.1 hr.2.1)
        have := rx.cut (l := l) (h := m) (by omega) (by omega)
        exact ⟨rfl, _, slice_run ht hn hv (.inr ⟨y, k, e1, hy⟩) (.inr ⟨z, k', e2, hz⟩) (by omega) (by omega) hc, this⟩
      · cases h
    · cases h
  · cases h
theorem ok_slstr (hs : ∀ t, RepV w A ρ (gets sl t) (a.tmps.getD t undef)) {x : Operand} {x' : SX} {lo hi : Option Operand} {lo' hi' : Option SX} {t : TypeId} (hx : cx N x = some x') (hlo : cxo N lo = some lo') (hhi : cxo N hi = some hi') (ht : P.underlying t = some .string) {g : Nat → Option SObj} {nx nx' : Nat} {v : SV} {u : Upd}
    (h : (SOp.slstr x' lo' hi').run (·.ev sl) g nx = some (v, u, nx')) : u = [] ∧ POk P w A ρ a (.slice t x lo hi none) v := by
  have rx := cx_rep hx hs
  simp only [SOp.run] at h
  split at h
  · rename_i s he
    rw [he] at rx
    generalize hv : a.eval x = vx at rx
    cases rx
    split at h
    · rename_i k l h1 h2
      obtain ⟨y, e1, hy⟩ := cxo_int hs hlo h1
      have e2 := cxo_none hs hhi h2
      rw [rg_some] at h
      obtain ⟨hr, h⟩ := h
      cases h
      obtain ⟨l, rfl⟩ := Int.eq_ofNat_of_zero_le hr.1
      exact ⟨rfl, _, sliceS_run ht hv (.inr ⟨y, k, e1, hy⟩) (.inl ⟨e2, rfl⟩) (by omega) (Nat.le_refl _), .str⟩
    · rename_i k l h1 h2
      have e1 := cxo_none hs hlo h1
      obtain ⟨y, e2, hy⟩ := cxo_int hs hhi h2
      rw [rg_some] at h
      obtain ⟨hr, h⟩ := h
      cases h
      obtain ⟨l, rfl⟩ := Int.eq_ofNat_of_zero_le hr.1
      exact ⟨rfl, _, sliceS_run ht hv (.inl ⟨e1, rfl⟩) (.inr ⟨y, k, e2, hy⟩) (by omega) (by omega), .str⟩
    · rename_i k l k' m h1 h2
      obtain ⟨y, e1, hy⟩ := cxo_int hs hlo h1
      obtain ⟨z, e2, hz⟩ := cxo_int hs hhi h2
      rw [rg_some] at h
      obtain ⟨hr, h⟩ := h
      cases h
      obtain ⟨l, rfl⟩ := Int.eq_ofNat_of_zero_le hr.1
      obtain ⟨m, rfl⟩ := Int.eq_ofNat_of_zero_le (Int.le_trans hr.1 hr.2.1)
      exact ⟨rfl, _, sliceS_run ht hv (.inr ⟨y, k, e1, hy⟩) (.inr ⟨z, k', e2, hz⟩) (by omega) (by omega), .str⟩
    · cases h
  · cases h
theorem ok_mkfn (hs : ∀ t, RepV w A ρ (gets sl t) (a.tmps.getD t undef)) {f : Fn} {fs cs : Array Operand} {fs' cs' : List SX} (hf : fs.toList.mapM (cx N) = some fs') (hc : cs.toList.mapM (cx N) = some cs') {g : Nat → Option SObj} {nx nx' : Nat} {v : SV} {u : Upd}
    (h : (SOp.mkfn f fs' cs').run (·.ev sl) g nx = some (v, u, nx')) : u = [] ∧ POk P w A ρ a (.makeFunc f fs cs) v := by
  simp only [SOp.run] at h
  cases h
  have h1 := cxs_reps hf hs
  have h2 := cxs_reps hc hs
  refine ⟨rfl, _, fun o ho => ?_, .fn h1.1 h2.1 h1.2 h2.2⟩
  have e : ∀ l : Array Operand, l.map a.eval = (l.toList.map a.eval).toArray := fun l => by apply Array.ext'; simp
  simp [execOp, ho, Instr.makeFunc, e]

def setV : List Value → Nat → List Value → List Value
  | cs, _, [] => cs
  | cs, off, v :: vs => setV (cs.set off v) (off + 1) vs
theorem setV_length : ∀ (vs cs : List Value) (off : Nat), (setV cs off vs).length = cs.length
  | [], _, _ => rfl
  | v :: vs, cs, off => by rw [setV, setV_length vs]; simp
theorem setL_length : ∀ (vs cs : List SV) (off : Nat), (setL cs off vs).length = cs.length
  | [], _, _ => rfl
  | v :: vs, cs, off => by rw [setL, setL_length vs]; simp
theorem Reps.set {cs : List SV} {vs : List Value} (h : Reps w A ρ cs vs) {i : Nat} {x : SV} {v : Value} (hx : RepV w A ρ x v) : Reps w A ρ (cs.set i x) (vs.set i v) := by
  refine ⟨by simp [h.1], fun j y u hy hu => ?_⟩
  rw [List.getElem?_set] at hy hu
  split at hy
  · rename_i hij
    subst hij
    rw [if_pos rfl] at hu
    split at hy
    · split at hu
      · cases hy; cases hu; exact hx
      · cases hu
    · cases hy
  · rename_i hij
    rw [if_neg hij] at hu
    exact h.2 j y u hy hu
theorem Reps.setL : ∀ {xs : List SV} {us : List Value} (_ : Reps w A ρ xs us) {cs : List SV} {vs : List Value} (_ : Reps w A ρ cs vs) (off : Nat), Reps w A ρ (setL cs off xs) (setV vs off us) := by
  intro xs
  induction xs with
  | nil => intro us h cs vs g off; obtain rfl := h.nil_inv; exact g
  | cons x xs ih =>
    intro us h cs vs g off
    obtain ⟨u, us, rfl, h1, h2⟩ := h.cons_inv
    exact ih h2 (g.set h1) (off + 1)
theorem foldl_setV : ∀ (us : List Value) (k off : Nat) (arr : Array Value), ((us.zipIdx k).foldl (fun cs (p : Value × Nat) => cs.setIfInBounds (off + p.2) p.1) arr) = (setV arr.toList (off + k) us).toArray
  | [], k, off, arr => by simp [setV]
  | u :: us, k, off, arr => by
    rw [List.zipIdx_cons, List.foldl_cons, foldl_setV us (k + 1) off]
    simp [setV, Nat.add_assoc]
theorem Ones.setV : ∀ {us : List Value} (_ : Ones us) {cs : List Value} (_ : Ones cs) (off : Nat), Ones (setV cs off us)
  | [], _, _, h, _ => h
  | u :: us, hu, cs, h, off => by
    refine Ones.setV (us := us) (fun v hv => hu v (by simp [hv])) (fun v hv => ?_) (off + 1)
    rcases List.mem_or_eq_of_mem_set hv with h1 | h1
    · exact h v h1
    · rw [h1]; exact hu u (by simp)
theorem fill_ok {place : Nat → Option (Nat × Nat)} : ∀ (ps : List (Nat × Value)) (qs : List (Nat × Nat × SV)), ps.length = qs.length → (∀ (j : Nat) p q, ps[j]? = some p → qs[j]? = some q → place p.1 = some (q.1, q.2.1) ∧ RepV w A ρ q.2.2 p.2) →
    ∀ (zs cs : List SV) (zv : List Value), fillS zs qs = some cs → Reps w A ρ zs zv → Ones zv → ∃ cv, Instr.fill place zv.toArray ps = some cv.toArray ∧ Reps w A ρ cs cv ∧ Ones cv := by
  intro ps
  induction ps with
  | nil =>
    intro qs hl _ zs cs zv h hr ho
    obtain rfl : qs = [] := List.eq_nil_of_length_eq_zero (by simpa using hl.symm)
    simp only [fillS] at h; cases h
    exact ⟨zv, rfl, hr, ho⟩
  | cons p ps ih =>
    intro qs hl hp zs cs zv h hr ho
    cases qs with
    | nil => simp at hl
    | cons q qs =>
      obtain ⟨off, size, x⟩ := q
      obtain ⟨i, v⟩ := p
      obtain ⟨h1, h2⟩ := hp 0 _ _ rfl rfl
      simp only [fillS] at h
      split at h
      · rename_i xs hxs
        obtain ⟨hcr, hco⟩ := h2.cells hxs
        split at h
        · rename_i hc
          have hsz : v.cells.size = size := by have := hcr.1; simp at this; omega
          have hzl : zv.length = zs.length := hr.1.symm
          obtain ⟨cv, e1, e2⟩ := ih qs (by simpa using hl) (fun j p q hj hk => hp (j + 1) p q (by simpa using hj) (by simpa using hk)) _ _ _ h (hcr.setL hr off) (hco.setV ho off)
          refine ⟨cv, ?_, e2⟩
          simp only at h1
          rw [Instr.fill, h1]
          simp only
          have hno : (v.cells.size ≠ size || decide (off + v.cells.size > zv.toArray.size)) = false := by simp [hsz]; omega
          rw [hno]
          simp only [Bool.false_eq_true, if_false]
          rw [← Array.foldl_toList, Array.toList_zipIdx, foldl_setV]
          exact e1
        · cases h
      · cases h
theorem zeroOf_spec {t : TypeId} {z : List SV} (h : zeroOf P t = some z) : ∃ i v, P.info? t = some i ∧ i.zero = some v ∧ v.cells.size = i.size ∧ z.length = i.size ∧ Ones v.cells.toList ∧ ∀ {w A ρ}, Reps w A ρ z v.cells.toList := by
  unfold zeroOf at h
  split at h
  · rename_i i hi
    split at h
    · rename_i v hv
      split at h
      · rename_i hs
        exact ⟨i, v, hi, hv, hs, by have := (mapM_some h).1; simpa [hs] using this, cones_ones h, cones_reps h⟩
      · cases h
    · cases h
  · cases h
theorem ok_build (hs : ∀ t, RepV w A ρ (gets sl t) (a.tmps.getD t undef)) {t : TypeId} {ps : Array (Nat × Operand)} {z : List SV} {pl : Nat → Option (Nat × Nat)} {qs : List (Nat × Nat × SX)} (hz : zeroOf P t = some z) (hpl : placesOf P t = some pl) (hq : ps.toList.mapM (cpart N pl) = some qs) {g : Nat → Option SObj} {nx nx' : Nat} {v : SV} {u : Upd}
    (h : (SOp.build z qs).run (·.ev sl) g nx = some (v, u, nx')) : u = [] ∧ POk P w A ρ a (.build t ps) v := by
  simp only [SOp.run] at h
  split at h
  · rename_i cs hf
    cases h
    obtain ⟨i, zv, hi, hzv, hzs, hzl, hzo, hzr⟩ := zeroOf_spec hz
    obtain ⟨hl, hj⟩ := mapM_some hq
    obtain ⟨cv, e1, e2⟩ := fill_ok (place := pl) (ps.toList.map fun p => (p.1, a.eval p.2)) _ (by simp [hl]) (fun j p q hp hq => by
      simp only [List.getElem?_map, Option.map_eq_some_iff] at hp hq
      obtain ⟨p, hp, rfl⟩ := hp
      obtain ⟨q, hq, rfl⟩ := hq
      obtain ⟨y, hy, hc⟩ := hj j p hp
      rw [hq] at hy; cases hy
      unfold cpart at hc
      split at hc
      · rename_i f x hf hx
        cases hc
        exact ⟨hf, cx_rep hx hs⟩
      · cases hc) z cs zv.cells.toList hf (hzr (w := w) (A := A) (ρ := ρ)) hzo
    have hb : P.built t (ps.map fun (i, x) => (i, a.eval x)).toList = some cv.toArray := by
      have e3 : (ps.map fun (i, x) => (i, a.eval x)).toList = ps.toList.map fun p => (p.1, a.eval p.2) := by simp
      rw [e3]
      unfold placesOf at hpl
      unfold Program.built
      rw [hi]
      split at hpl
      · rename_i fs hu
        simp only [Option.map_eq_some_iff] at hpl
        obtain ⟨pp, hpp, rfl⟩ := hpl
        simp only [hu, hzv, hpp]
        simpa using e1
      · rename_i m e hu
        simp only [Option.map_eq_some_iff] at hpl
        obtain ⟨ie, hie, rfl⟩ := hpl
        simp only [hu, hzv, hie]
        simpa using e1
      · cases hpl
    refine ⟨rfl, _, fun o ho => ?_, .agg e2.2 e2.1.1 e2.1.2⟩
    simp [execOp, ho, run_build w t _ _ hb]
  · cases h
end Go.Proofs.Ytfakdapglbgokaa
