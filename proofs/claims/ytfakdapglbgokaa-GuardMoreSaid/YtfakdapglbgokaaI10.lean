/-
  Texts joined: XShC. No condition.
-/
import Derived.Tactics
import Derived.Laws.Tables
import Derived.Laws.StructEq
import Derived.Laws.Cells
import Derived.ChangeKeysEq
import Derived.ProofKit
import Derived.Test.YtfakdapglbgokaaI9
/-
  The plain machine's operations do what the model's do: those that turn no object. No condition.
-/
namespace Go.Proofs.Ytfakdapglbgokaa
set_option linter.all false
open Go.RowKit

def Yld (r : Result Next) (v : Value) (w : World) : Prop := r = .ok (.value v) w ∨ (r = .ok .skip w ∧ v = undef)
structure Pres (w : World) (A : Nat → Prop) (ρ : Plan_) (w' : World) (A' : Nat → Prop) (ρ' : Plan_) : Prop where
  step : Step A w w'
  av : ∀ k, A' k → k < w.heap.size → A k
  pl : ∀ id p, ρ id = some p → ρ' id = some p
theorem Pres.refl (w : World) (A : Nat → Prop) (ρ : Plan_) : Pres w A ρ w A ρ := ⟨.refl _ _, fun _ h _ => h, fun _ _ h => h⟩
theorem Pres.rep {w : World} {A : Nat → Prop} {ρ : Plan_} {w' : World} {A' : Nat → Prop} {ρ' : Plan_} (h : Pres w A ρ w' A' ρ') {x : SV} {v : Value} (hx : RepV w A ρ x v) : RepV w' A' ρ' x v := hx.mono h.step h.av h.pl
theorem Pres.reps {w : World} {A : Nat → Prop} {ρ : Plan_} {w' : World} {A' : Nat → Prop} {ρ' : Plan_} (h : Pres w A ρ w' A' ρ') {x : List SV} {v : List Value} (hx : Reps w A ρ x v) : Reps w' A' ρ' x v := hx.mono h.step h.av h.pl
def OpOut (X : Cx) (ρ : Plan_) (fp : Nat → Nat → Prop) (hp : Hp) (w : World) (nx : Nat) (u : Upd) (v : SV) (v' : Value) (w' : World) : Prop :=
  ∃ ρ' fp', SimH X ρ' fp' (upds hp u) w' ∧ RepV w' (Av X (upds hp u) fp') ρ' v v' ∧ Pres w (Av X hp fp) ρ w' (Av X (upds hp u) fp') ρ' ∧ ∀ id, ρ' id ≠ none → ρ id ≠ none ∨ id = nx
theorem OpOut.same {nx : Nat} {X : Cx} {ρ : Plan_} {fp : Nat → Nat → Prop} {hp : Hp} {w : World} {v : SV} {v' : Value} (h : SimH X ρ fp hp w) (hv : RepV w (Av X hp fp) ρ v v') : OpOut X ρ fp hp w nx [] v v' w :=
  ⟨ρ, fp, h, hv, .refl _ _ _, fun _ h => .inl h⟩

theorem cone_rep {w : World} {A : Nat → Prop} {ρ : Plan_} {v : Value} {x : SV} (h : cone v = some x) : RepV w A ρ x v := by
  unfold cone at h
  split at h <;> first | (cases h; constructor) | cases h
theorem cone_one {v : Value} {x : SV} (h : cone v = some x) : v.oneCell' = true := by
  unfold cone at h
  split at h <;> first | rfl | cases h
theorem mapM_some {α β : Type} {f : α → Option β} : ∀ {l : List α} {r : List β}, l.mapM f = some r → r.length = l.length ∧ ∀ (j : Nat) x, l[j]? = some x → ∃ y, r[j]? = some y ∧ f x = some y := by
  intro l
  induction l with
  | nil => intro r h; simp at h; subst h; simp
  | cons x l ih =>
    intro r h
    rw [List.mapM_cons] at h
    simp only [bind, Option.bind_eq_some_iff, pure, Option.some.injEq] at h
    obtain ⟨y, hy, r', hr, rfl⟩ := h
    obtain ⟨h1, h2⟩ := ih hr
    refine ⟨by simp [h1], fun j z hz => ?_⟩
    cases j with
    | zero => simp at hz; subst hz; exact ⟨y, rfl, hy⟩
    | succ j => exact h2 j z (by simpa using hz)
theorem cones_reps {w : World} {A : Nat → Prop} {ρ : Plan_} {vs : List Value} {xs : List SV} (h : vs.mapM cone = some xs) : Reps w A ρ xs vs := by
  obtain ⟨h1, h2⟩ := mapM_some h
  refine ⟨h1, fun j x v hx hv => ?_⟩
  obtain ⟨y, hy, hc⟩ := h2 j v hv
  rw [hx] at hy; cases hy
  exact cone_rep hc
theorem cones_ones {vs : List Value} {xs : List SV} (h : vs.mapM cone = some xs) : Ones vs := by
  obtain ⟨h1, h2⟩ := mapM_some h
  intro v hv
  obtain ⟨j, hj⟩ := List.getElem?_of_mem hv
  obtain ⟨y, _, hc⟩ := h2 j v hj
  exact cone_one hc
theorem cval_rep {w : World} {A : Nat → Prop} {ρ : Plan_} {v : Value} {x : SV} (h : cval v = some x) : RepV w A ρ x v := by
  unfold cval at h
  split at h
  · rename_i cs
    simp only [Option.map_eq_some_iff] at h
    obtain ⟨xs, hx, rfl⟩ := h
    have hr := cones_reps (w := w) (A := A) (ρ := ρ) hx
    have := RepV.agg (w := w) (A := A) (ρ := ρ) (cones_ones hx) hr.1 hr.2
    simpa using this
  · exact cone_rep h
theorem cx_rep {w : World} {A : Nat → Prop} {ρ : Plan_} {N : Nat} {x : Operand} {y : SX} {sl : Sl} {a : Act} (h : cx N x = some y) (hs : ∀ t, RepV w A ρ (gets sl t) (a.tmps.getD t undef)) : RepV w A ρ (y.ev sl) (a.eval x) := by
  unfold cx at h
  split at h
  · split at h
    · cases h; exact hs _
    · cases h
  · simp only [Option.map_eq_some_iff] at h
    obtain ⟨v, hv, rfl⟩ := h
    exact cval_rep hv
  · cases h
    have := RepV.fn (w := w) (A := A) (ρ := ρ) (f := .func ‹_›) (fs := []) (cs := []) (vs := []) (us := []) rfl rfl (by simp) (by simp)
    exact this
  · cases h
theorem cxs_reps {w : World} {A : Nat → Prop} {ρ : Plan_} {N : Nat} {xs : List Operand} {ys : List SX} {sl : Sl} {a : Act} (h : xs.mapM (cx N) = some ys) (hs : ∀ t, RepV w A ρ (gets sl t) (a.tmps.getD t undef)) : Reps w A ρ (ys.map (·.ev sl)) (xs.map a.eval) := by
  obtain ⟨h1, h2⟩ := mapM_some h
  refine ⟨by simp [h1], fun j x v hx hv => ?_⟩
  simp only [List.getElem?_map, Option.map_eq_some_iff] at hx hv
  obtain ⟨y, hy, rfl⟩ := hx
  obtain ⟨o, ho, rfl⟩ := hv
  obtain ⟨z, hz, hc⟩ := h2 j o ho
  rw [hy] at hz; cases hz
  exact cx_rep hc hs

theorem aggOf_run {P : Program} {t : TypeId} {b : Bool} (h : aggOf P t = some b) (w : World) : (isAgg t).run P w = .ok b w := by
  unfold aggOf at h
  split at h
  · rename_i hu; cases h; simp [isAgg, run_underlying hu]
  · rename_i hu; cases h; simp [isAgg, run_underlying hu]
  · rename_i d h1 h2 hu; cases h
    simp only [isAgg, Sem.run_bind, run_underlying hu, Result.andThen_ok]
    cases d <;> first | rfl | (exfalso; first | exact h1 _ hu | exact h2 _ _ hu)
  · cases h
theorem sizeOf_run {P : Program} {t : TypeId} {n : Nat} (h : sizeOf_ P t = some n) (w : World) : (sizeOf t).run P w = .ok n w := by
  unfold sizeOf_ at h
  simp only [Option.map_eq_some_iff] at h
  obtain ⟨i, hi, rfl⟩ := h
  simp [sizeOf, typeInfo, hi]

theorem addr_add (b off n : Nat) : (⟨b, off, none⟩ : Addr).add n = ⟨b, off + n, none⟩ := by unfold Addr.add; split <;> simp_all
/-- What a pure operation yields. -/
def POk (P : Program) (w : World) (A : Nat → Prop) (ρ : Plan_) (a : Act) (op : Op) (v : SV) : Prop := ∃ v', (∀ o : Oper, o.op = op → (execOp a.eval o).run P w = .ok (.value v') w) ∧ RepV w A ρ v v'
variable {P : Program} {w : World} {A : Nat → Prop} {ρ : Plan_} {N : Nat} {a : Act} {sl : Sl}

theorem RepV.cells {x : SV} {v : Value} {cs : List SV} (h : RepV w A ρ x v) (hc : x.cells? = some cs) : Reps w A ρ cs v.cells.toList ∧ Ones v.cells.toList := by
  cases h with
  | any => simp [SV.cells?] at hc
  | tup => simp [SV.cells?] at hc
  | agg ho hl hh =>
    simp [SV.cells?] at hc; subst hc
    exact ⟨⟨by simpa [Value.cells] using hl, by simpa [Value.cells] using hh⟩, by simpa [Value.cells, Ones] using ho⟩
  | _ =>
    change some _ = some cs at hc
    injection hc with hc; subst hc
    refine ⟨Reps.cons (by first | (constructor; done) | (constructor <;> assumption)) Reps.nil, fun u hu => ?_⟩
    simp [Value.cells] at hu; subst hu; rfl

theorem ok_mv (hs : ∀ t, RepV w A ρ (gets sl t) (a.tmps.getD t undef)) {x : Operand} {y : SX} (hx : cx N x = some y) : POk P w A ρ a (.move x) (y.ev sl) ∧ POk P w A ρ a (.assign x) (y.ev sl) :=
  ⟨⟨_, fun o ho => by simp [execOp, ho], cx_rep hx hs⟩, ⟨_, fun o ho => by simp [execOp, ho], cx_rep hx hs⟩⟩
theorem ok_pick (hs : ∀ t, RepV w A ρ (gets sl t) (a.tmps.getD t undef)) {c x y : Operand} {c' x' y' : SX} (hc : cx N c = some c') (hx : cx N x = some x') (hy : cx N y = some y') {g : Nat → Option SObj} {nx nx' : Nat} {v : SV} {u : Upd}
    (h : (SOp.pick c' x' y').run (·.ev sl) g nx = some (v, u, nx')) : u = [] ∧ POk P w A ρ a (.pick c x y) v := by
  have rc := cx_rep hc hs
  have rx := cx_rep hx hs
  have ry := cx_rep hy hs
  simp only [SOp.run] at h
  split at h
  · rename_i b hb
    rw [hb] at rc
    have hvc : a.eval c = .bool b := by generalize a.eval c = vc at rc; cases rc; rfl
    have hrun : ∀ o : Oper, o.op = .pick c x y → (execOp a.eval o).run P w = .ok (.value (if b then a.eval x else a.eval y)) w := fun o ho => by
      cases b <;> simp [execOp, ho, hvc, asBool]
    split at h
    · rename_i p q hp hq
      cases h
      rw [hp] at rx; rw [hq] at ry
      refine ⟨rfl, _, hrun, ?_⟩
      cases b
      · simpa using ry
      · simpa using rx
    · cases h
      refine ⟨rfl, _, hrun, ?_⟩
      cases b
      · simpa using ry
      · simpa using rx
  · cases h

theorem ok_nilc (hs : ∀ t, RepV w A ρ (gets sl t) (a.tmps.getD t undef)) {x : Operand} {x' : SX} (hx : cx N x = some x') {g : Nat → Option SObj} {nx nx' : Nat} {v : SV} {u : Upd}
    (h : (SOp.nilc x').run (·.ev sl) g nx = some (v, u, nx')) : u = [] ∧ POk P w A ρ a (.nilCheck x) v := by
  have rx := cx_rep hx hs
  simp only [SOp.run] at h
  split at h <;> first | (cases h; done) | skip
  all_goals
    rename_i he
    rw [he] at rx
    cases h
    refine ⟨rfl, a.eval x, fun o ho => ?_, rx⟩
    simp only [execOp, ho]
    generalize a.eval x = vx at *
    cases rx <;> rfl
theorem ok_conv (hs : ∀ t, RepV w A ρ (gets sl t) (a.tmps.getD t undef)) {x : Operand} {x' : SX} (hx : cx N x = some x') {s d : TypeId} {k : IntKind} {j : IntKind} (h1 : P.underlying s = some (.int j)) (h2 : P.underlying d = some (.int k)) {g : Nat → Option SObj} {nx nx' : Nat} {v : SV} {u : Upd}
    (h : (SOp.conv k x').run (·.ev sl) g nx = some (v, u, nx')) : u = [] ∧ POk P w A ρ a (.convert s d x) v := by
  have rx := cx_rep hx hs
  simp only [SOp.run] at h
  split at h
  · rename_i j' n he
    rw [he] at rx
    cases h
    refine ⟨rfl, _, fun o ho => ?_, .int⟩
    generalize hv : a.eval x = vx at rx
    cases rx
    simp [execOp, ho, convert, run_underlying h1, run_underlying h2, Conv.intToInt, hv]
  · cases h
theorem ok_un (hs : ∀ t, RepV w A ρ (gets sl t) (a.tmps.getD t undef)) {x : Operand} {x' : SX} (hx : cx N x = some x') {op : UnOp} {t : TypeId} {g : Nat → Option SObj} {nx nx' : Nat} {v : SV} {u : Upd}
    (h : (SOp.un op x').run (·.ev sl) g nx = some (v, u, nx')) : u = [] ∧ POk P w A ρ a (.unOp op t x) v := by
  have rx := cx_rep hx hs
  simp only [SOp.run] at h
  split at h
  · rename_i k n he
    rw [he] at rx
    cases h
    refine ⟨rfl, _, fun o ho => ?_, .int⟩
    generalize hv : a.eval x = vx at rx
    cases rx
    simp [execOp, ho, Op.unary, Op.intArith, hv]
  · rename_i k n he
    rw [he] at rx
    cases h
    refine ⟨rfl, _, fun o ho => ?_, .int⟩
    generalize hv : a.eval x = vx at rx
    cases rx
    simp [execOp, ho, Op.unary, intBits_xor, hv]
  · rename_i b he
    rw [he] at rx
    cases h
    refine ⟨rfl, _, fun o ho => ?_, .bool⟩
    generalize hv : a.eval x = vx at rx
    cases rx
    simp [execOp, ho, Op.unary, hv]
  · cases h
theorem ok_extr (hs : ∀ t, RepV w A ρ (gets sl t) (a.tmps.getD t undef)) {x : Operand} {x' : SX} {i : Nat} (hx : cx N x = some x') {g : Nat → Option SObj} {nx nx' : Nat} {v : SV} {u : Upd}
    (h : (SOp.extr x' i).run (·.ev sl) g nx = some (v, u, nx')) : u = [] ∧ POk P w A ρ a (.extract x i) v := by
  have rx := cx_rep hx hs
  simp only [SOp.run] at h
  split at h
  · rename_i vs he
    rw [he] at rx
    simp only [Option.map_eq_some_iff] at h
    obtain ⟨c, hc, h⟩ := h
    cases h
    generalize hv : a.eval x = vx at *
    cases rx with
    | tup hl hh =>
      rename_i us
      obtain ⟨y, hy, hr⟩ := Reps.get ⟨hl, hh⟩ hc
      exact ⟨rfl, y, fun o ho => by simp [execOp, ho, hv, Instr.extract, hy], hr⟩
  · cases h
theorem ok_len (hs : ∀ t, RepV w A ρ (gets sl t) (a.tmps.getD t undef)) {x : Operand} {x' : SX} {t : TypeId} (hx : cx N x = some x') (ht : P.underlying t = some .string ∨ ∃ e, P.underlying t = some (.slice e)) {g : Nat → Option SObj} {nx nx' : Nat} {v : SV} {u : Upd} {st : Bool} (hst : P.underlying t = some .string ↔ st = true)
    (h : (SOp.len st x').run (·.ev sl) g nx = some (v, u, nx')) : u = [] ∧ POk P w A ρ a (.call { callee := .builtin .len, args := #[x], argTypes := #[t] }) v := by
  have rx := cx_rep hx hs
  simp only [SOp.run] at h
  split at h
  all_goals first | (cases h; done) | skip
  all_goals
    rename_i he
    rw [he] at rx
    split at h <;> first | (cases h; done) | skip
    rename_i hs'
    cases h
    generalize hv : a.eval x = vx at rx
  · obtain ⟨e, ht⟩ : ∃ e, P.underlying t = some (.slice e) := ht.resolve_left fun h => by rw [hst.1 h] at hs'; cases hs'
    cases rx with
    | view0 hc ha => exact ⟨rfl, _, fun o ho => by simp [execOp, ho, hv, resolve, invoke, builtin, Builtin.len_, run_underlying ht, goInt], .int⟩
    | view cv hn hc hm hA hb hz h1 h2 hone => exact ⟨rfl, _, fun o ho => by simp [execOp, ho, hv, resolve, invoke, builtin, Builtin.len_, run_underlying ht, goInt, hn], .int⟩
  · obtain ⟨e, ht⟩ : ∃ e, P.underlying t = some (.slice e) := ht.resolve_left fun h => by rw [hst.1 h] at hs'; cases hs'
    cases rx <;> exact ⟨rfl, _, fun o ho => by simp [execOp, ho, hv, resolve, invoke, builtin, Builtin.len_, run_underlying ht, goInt], .int⟩
  · obtain ⟨e, ht⟩ : ∃ e, P.underlying t = some (.slice e) := ht.resolve_left fun h => by rw [hst.1 h] at hs'; cases hs'
    cases rx; exact ⟨rfl, _, fun o ho => by simp [execOp, ho, hv, resolve, invoke, builtin, Builtin.len_, run_underlying ht, goInt], .int⟩
  · have ht := hst.2 hs'
    cases rx; exact ⟨rfl, _, fun o ho => by simp [execOp, ho, hv, resolve, invoke, builtin, Builtin.len_, run_underlying ht, goInt], .int⟩
theorem ok_faddr (hs : ∀ t, RepV w A ρ (gets sl t) (a.tmps.getD t undef)) {x : Operand} {x' : SX} {t : TypeId} {i : Nat} {fs : Array Field} {f : Field} {n : Nat} (hx : cx N x = some x') (ht : P.underlying t = some (.struct fs)) (hf : fs[i]? = some f) (hn : sizeOf_ P f.type = some n) (h0 : n ≠ 0) {g : Nat → Option SObj} {nx nx' : Nat} {v : SV} {u : Upd}
    (h : (SOp.faddr f.offset x').run (·.ev sl) g nx = some (v, u, nx')) : u = [] ∧ POk P w A ρ a (.fieldAddr t x i) v := by
  have rx := cx_rep hx hs
  have hrun : ∀ b off, a.eval x = .pointer (some ⟨b, off, none⟩) → ∀ o : Oper, o.op = .fieldAddr t x i → (execOp a.eval o).run P w = .ok (.value (.pointer (some ⟨b, off + f.offset, none⟩))) w := fun b off hv o ho => by
    have hsz := sizeOf_run hn w
    simp [execOp, ho, hv, Instr.fieldAt, run_underlying ht, hf, Instr.sureAddr, fieldPlace, hsz, h0]
    unfold Addr.add
    split <;> simp_all
  simp only [SOp.run] at h
  split at h
  · rename_i id o he
    rw [he] at rx
    cases h
    generalize hv : a.eval x = vx at *
    cases rx with
    | ptr hρ => exact ⟨rfl, _, hrun _ _ rfl, .ptr hρ⟩
  · rename_i cs he
    rw [he] at rx
    cases h
    generalize hv : a.eval x = vx at *
    cases rx with
    | cp cv hA hb h1 h2 ho =>
      refine ⟨rfl, _, hrun _ _ rfl, .cp (fun j => cv (f.offset + j)) hA hb (fun j y hy => ?_) (fun j y hy => ?_) (fun j y hy => ?_)⟩
      · rw [List.getElem?_drop] at hy
        rw [Nat.add_assoc]
        exact h1 _ _ hy
      · rw [List.getElem?_drop] at hy
        exact h2 _ _ hy
      · rw [List.getElem?_drop] at hy
        exact ho _ _ hy
  · rename_i id size k j he
    rw [he] at rx
    cases h
    generalize hv : a.eval x = vx at *
    cases rx with
    | eptr hρ => refine ⟨rfl, _, hrun _ _ rfl, ?_⟩; rw [Nat.add_assoc]; exact .eptr hρ
  · cases h
theorem ok_iaddr (hs : ∀ t, RepV w A ρ (gets sl t) (a.tmps.getD t undef)) {x i : Operand} {x' i' : SX} {t e : TypeId} {size : Nat} (hx : cx N x = some x') (hi : cx N i = some i') (ht : P.underlying t = some (.slice e)) (hn : sizeOf_ P e = some size) {g : Nat → Option SObj} {nx nx' : Nat} {v : SV} {u : Upd}
    (h : (SOp.iaddr size x' i').run (·.ev sl) g nx = some (v, u, nx')) : u = [] ∧ POk P w A ρ a (.indexAddr t x i) v := by
  have rx := cx_rep hx hs
  have ri := cx_rep hi hs
  simp only [SOp.run] at h
  split at h
  · rename_i k n he
    rw [he] at ri
    generalize hvi : a.eval i = vi at *
    cases ri
    have hrun : ∀ b off ln c, a.eval x = .slice (some ⟨b, off, none⟩) ln c → 0 ≤ n ∧ n < (ln : Int) → ∀ o : Oper, o.op = .indexAddr t x i → (execOp a.eval o).run P w = .ok (.value (.pointer (some ⟨b, off + n.toNat * size, none⟩))) w := fun b off ln c hv hr o ho => by
      have hsz := sizeOf_run hn w
      simp [execOp, ho, hv, hvi, Instr.indexAt, run_underlying ht, asIntOf, hr, hsz, addr_add]
    split at h
    · rename_i size' es he2
      rw [he2] at rx
      split at h
      · rename_i hsz
        subst hsz
        rw [rg_some] at h
        obtain ⟨hr, h⟩ := h
        cases h
        generalize hv : a.eval x = vx at *
        cases rx with
        | view0 hc ha => simp at hr; omega
        | view cv hl hc hm hA hb hz h1 h2 ho =>
          rename_i b off m c
          obtain ⟨e1, he1⟩ : ∃ e1, es[n.toNat]? = some e1 := ⟨_, List.getElem?_eq_getElem (by omega)⟩
          refine ⟨rfl, _, hrun _ _ _ _ rfl (by omega), ?_⟩
          rw [he1]
          exact .cp (fun j => cv n.toNat j) hA hb (fun j y hy => h1 _ _ _ _ he1 hy) (fun j y hy => h2 _ _ _ _ he1 hy) (fun j y hy => ho _ _ _ _ he1 hy)
      · cases h
    · rename_i id m he2
      rw [he2] at rx
      rw [rg_some] at h
      obtain ⟨hr, h⟩ := h
      cases h
      generalize hv : a.eval x = vx at *
      cases rx with
      | own0 hρ => simp at hr; omega
      | own hρ hn' hm =>
        refine ⟨rfl, _, hrun _ _ _ _ rfl hr, ?_⟩
        have := RepV.eptr (w := w) (A := A) (size := size) (i := n.toNat) (j := 0) hρ
        simpa using this
    · cases h
  · cases h
theorem ok_iarr (hs : ∀ t, RepV w A ρ (gets sl t) (a.tmps.getD t undef)) {x i : Operand} {x' i' : SX} {t e : TypeId} {m size : Nat} (hx : cx N x = some x') (hi : cx N i = some i') (ht : P.underlying t = some (.array m e)) (hn : sizeOf_ P e = some size) {g : Nat → Option SObj} {nx nx' : Nat} {v : SV} {u : Upd}
    (h : (SOp.iarr m size x' i').run (·.ev sl) g nx = some (v, u, nx')) : u = [] ∧ POk P w A ρ a (.indexAddr t x i) v := by
  have rx := cx_rep hx hs
  have ri := cx_rep hi hs
  simp only [SOp.run] at h
  split at h
  · rename_i k n he
    rw [he] at ri
    generalize hvi : a.eval i = vi at *
    cases ri
    have hrun : ∀ b off, a.eval x = .pointer (some ⟨b, off, none⟩) → 0 ≤ n ∧ n < (m : Int) → ∀ o : Oper, o.op = .indexAddr t x i → (execOp a.eval o).run P w = .ok (.value (.pointer (some ⟨b, off + n.toNat * size, none⟩))) w := fun b off hv hr o ho => by
      have hsz := sizeOf_run hn w
      simp [execOp, ho, hv, hvi, Instr.indexAt, run_underlying ht, asIntOf, hr, hsz, addr_add, Instr.sureAddr]
    split at h
    · rename_i id off he2
      rw [he2] at rx
      rw [rg_some] at h
      obtain ⟨hr, h⟩ := h
      cases h
      generalize hv : a.eval x = vx at *
      cases rx with
      | ptr hρ => exact ⟨rfl, _, hrun _ _ rfl hr, .ptr hρ⟩
    · rename_i cs he2
      rw [he2] at rx
      rw [rg_some] at h
      obtain ⟨hr, h⟩ := h
      cases h
      generalize hv : a.eval x = vx at *
      cases rx with
      | cp cv hA hb h1 h2 ho =>
        refine ⟨rfl, _, hrun _ _ rfl hr, .cp (fun j => cv (n.toNat * size + j)) hA hb (fun j y hy => ?_) (fun j y hy => ?_) (fun j y hy => ?_)⟩
        · rw [List.getElem?_drop] at hy
          rw [Nat.add_assoc]
          exact h1 _ _ hy
        · rw [List.getElem?_drop] at hy
          exact h2 _ _ hy
        · rw [List.getElem?_drop] at hy
          exact ho _ _ hy
    · rename_i id size' i'' j he2
      rw [he2] at rx
      rw [rg_some] at h
      obtain ⟨hr, h⟩ := h
      cases h
      generalize hv : a.eval x = vx at *
      cases rx with
      | eptr hρ => refine ⟨rfl, _, hrun _ _ rfl hr, ?_⟩; rw [Nat.add_assoc]; exact .eptr hρ
    · cases h
  · cases h

theorem ok_bin (hs : ∀ t, RepV w A ρ (gets sl t) (a.tmps.getD t undef)) {x y : Operand} {x' y' : SX} {op : BinOp} {t yt : TypeId} (hx : cx N x = some x') (hy : cx N y = some y') {g : Nat → Option SObj} {nx nx' : Nat} {v : SV} {u : Upd}
    (h : (SOp.bin op x' y').run (·.ev sl) g nx = some (v, u, nx')) : u = [] ∧ POk P w A ρ a (.binOp op t x y yt) v := by
  have rx := cx_rep hx hs
  have ry := cx_rep hy hs
  simp only [SOp.run] at h
  split at h
  · rename_i k n k' m he he2
    rw [he] at rx; rw [he2] at ry
    simp only [Option.map_eq_some_iff] at h
    obtain ⟨r, hr, h⟩ := h
    cases h
    generalize hv : a.eval x = vx at rx
    generalize hv2 : a.eval y = vy at ry
    cases rx; cases ry
    have hg : (eqGuard op t x y (.int k n) (.int k' m)).run P w = .ok () w := by cases op <;> simp [eqGuard]
    suffices hb : ∃ r', (binOp op t (.int k n) (.int k' m)).run P w = .ok r' w ∧ RepV w A ρ v r' by
      obtain ⟨r', h1, h2⟩ := hb
      exact ⟨rfl, r', fun o ho => by simp [execOp, ho, hv, hv2, hg, h1], h2⟩
    cases op <;> simp only [sbin] at hr
    case shl =>
      rw [rg_some] at hr
      obtain ⟨h0, hr⟩ := hr
      cases hr
      exact ⟨_, by simp [binOp, Op.shift, Int.not_lt.2 h0] <;> rfl, .int⟩
    case shr =>
      rw [rg_some] at hr
      obtain ⟨h0, hr⟩ := hr
      cases hr
      refine ⟨_, by simp [binOp, Op.shift, Int.not_lt.2 h0] <;> rfl, ?_⟩
      rw [Int.fdiv_eq_ediv_of_nonneg _ (Int.pow_nonneg (by decide))]
      exact .int
    all_goals
      split at hr
      · rename_i hk
        subst hk
        first
        | (rw [rg_some] at hr; obtain ⟨h0, hr⟩ := hr; cases hr; exact ⟨_, by simp [binOp, Op.intDiv, h0] <;> rfl, .int⟩)
        | (cases hr; exact ⟨_, by simp [binOp, Op.intArith, intBits_and, intBits_or, intBits_xor, intBits_andNot, Op.intCmp] <;> rfl, by constructor⟩)
      · cases hr
  · rename_i s1 s2 he he2
    rw [he] at rx; rw [he2] at ry
    generalize hv : a.eval x = vx at rx
    generalize hv2 : a.eval y = vy at ry
    cases rx; cases ry
    have hg : (eqGuard op t x y (.string s1) (.string s2)).run P w = .ok () w := by cases op <;> simp [eqGuard]
    split at h
    · rw [rg_some] at h
      obtain ⟨h0, h⟩ := h
      cases h
      refine ⟨rfl, _, fun o ho => ?_, .str⟩
      have : ¬ (((s1.size + s2.size : Nat) : Int) > IntKind.i64.max) := by
        simp only [maxLen] at h0
        simp [IntKind.max, IntKind.signed, IntKind.bits]; omega
      simp only [execOp, ho, hv, hv2, Sem.run_bind, hg, Result.andThen_ok, binOp, Op.stringOp, if_neg this]
      rfl
    · cases h
      exact ⟨rfl, _, fun o ho => by simp [execOp, ho, hv, hv2, hg, binOp, Op.stringOp], .bool⟩
    · cases h
      exact ⟨rfl, _, fun o ho => by simp [execOp, ho, hv, hv2, hg, binOp, Op.stringOp], .bool⟩
    · cases h
  · cases h
theorem ok_mm (hs : ∀ t, RepV w A ρ (gets sl t) (a.tmps.getD t undef)) {x y : Operand} {x' y' : SX} {mx : Bool} {ty : Array TypeId} (hx : cx N x = some x') (hy : cx N y = some y') {g : Nat → Option SObj} {nx nx' : Nat} {v : SV} {u : Upd}
    (h : (SOp.mm mx x' y').run (·.ev sl) g nx = some (v, u, nx')) : u = [] ∧ POk P w A ρ a (.call { callee := .builtin (if mx then .max else .min), args := #[x, y], argTypes := ty }) v := by
  have rx := cx_rep hx hs
  have ry := cx_rep hy hs
  simp only [SOp.run] at h
  split at h
  · rename_i k n k' m he he2
    rw [he] at rx; rw [he2] at ry
    split at h
    · cases h
      generalize hv : a.eval x = vx at rx
      generalize hv2 : a.eval y = vy at ry
      cases rx; cases ry
      refine ⟨rfl, _, fun o ho => ?_, .int⟩
      cases mx <;> simp [execOp, ho, hv, hv2, resolve, invoke, builtin, Builtin.min_, Builtin.max_, Builtin.min2, Builtin.max2]
    · cases h
  · cases h
theorem ok_idxs (hs : ∀ t, RepV w A ρ (gets sl t) (a.tmps.getD t undef)) {x i : Operand} {x' i' : SX} {t : TypeId} (hx : cx N x = some x') (hi : cx N i = some i') (ht : P.underlying t = some .string) {g : Nat → Option SObj} {nx nx' : Nat} {v : SV} {u : Upd}
    (h : (SOp.idxs x' i').run (·.ev sl) g nx = some (v, u, nx')) : u = [] ∧ POk P w A ρ a (.index t x i) v := by
  have rx := cx_rep hx hs
  have ri := cx_rep hi hs
  simp only [SOp.run] at h
  split at h
  · rename_i k n he
    rw [he] at ri
    generalize hvi : a.eval i = vi at ri
    cases ri
    split at h
    · rename_i st he2
      rw [he2] at rx
      generalize hv : a.eval x = vx at rx
      cases rx
      rw [rg_some] at h
      obtain ⟨h0, h⟩ := h
      split at h
      · rename_i b hb
        cases h
        exact ⟨rfl, _, fun o ho => by simp [execOp, ho, hv, hvi, Instr.index, asIntOf, run_underlying ht, h0, hb], .int⟩
      · cases h
    · cases h
  · cases h
theorem part_run {e : TypeId} {b : Bool} {n : Nat} (hb : aggOf P e = some b) (hn : sizeOf_ P e = some n) {vs : Array Value} {cs : List SV} (hr : Reps w A ρ cs vs.toList) (ho : Ones vs.toList) {off : Nat} {v : SV} (hv : if b then off + n ≤ cs.length ∧ v = .agg ((cs.drop off).take n) else cs[off]? = some v) :
    ∃ v', (part e vs off).run P w = .ok v' w ∧ RepV w A ρ v v' := by
  have hl : cs.length = vs.size := by simpa using hr.1
  cases b with
  | true =>
    obtain ⟨h1, rfl⟩ := by simpa using hv
    refine ⟨.agg (vs.extract off (off + n)), by simp [part, aggOf_run hb w, sizeOf_run hn w], ?_⟩
    have h2 : vs.extract off (off + n) = ((vs.toList.drop off).take n).toArray := by
      apply Array.ext'
      simp [List.extract_eq_take_drop]
    rw [h2]
    refine .agg (fun v hv => ho v (List.mem_of_mem_drop (List.mem_of_mem_take hv))) (by simp [hl]) fun j x v hx hv => ?_
    rw [List.getElem?_take] at hx hv
    split at hx
    · rename_i hj
      rw [if_pos hj] at hv
      rw [List.getElem?_drop] at hx hv
      exact hr.2 _ _ _ hx hv
    · cases hx
  | false =>
    simp only [Bool.false_eq_true, if_false] at hv
    obtain ⟨v', h1, h2⟩ := hr.get hv
    refine ⟨v', ?_, h2⟩
    have : vs[off]? = some v' := by simpa using h1
    simp [part, aggOf_run hb w, this]
theorem ok_field (hs : ∀ t, RepV w A ρ (gets sl t) (a.tmps.getD t undef)) {x : Operand} {x' : SX} {t : TypeId} {i : Nat} {fs : Array Field} {f : Field} {n : Nat} {b : Bool} (hx : cx N x = some x') (ht : P.underlying t = some (.struct fs)) (hf : fs[i]? = some f) (hn : sizeOf_ P f.type = some n) (hb : aggOf P f.type = some b) {g : Nat → Option SObj} {nx nx' : Nat} {v : SV} {u : Upd}
    (h : (SOp.field f.offset (if b then some n else none) x').run (·.ev sl) g nx = some (v, u, nx')) : u = [] ∧ POk P w A ρ a (.field t x i) v := by
  have rx := cx_rep hx hs
  simp only [SOp.run] at h
  split at h
  · rename_i cs he
    rw [he] at rx
    generalize hv : a.eval x = vx at rx
    cases rx with
    | agg hone hl hh =>
      rename_i vs
      have hr : Reps w A ρ cs (vs.toArray).toList := by show Reps w A ρ cs vs; exact ⟨hl, hh⟩
      have key : u = [] ∧ (if b then f.offset + n ≤ cs.length ∧ v = .agg ((cs.drop f.offset).take n) else cs[f.offset]? = some v) := by
        cases b with
        | true =>
          simp only [if_true] at h
          split at h
          · cases h; exact ⟨rfl, by simpa using ‹_›⟩
          · cases h
        | false =>
          simp only [Bool.false_eq_true, if_false, Option.map_eq_some_iff] at h
          obtain ⟨c, hc, h⟩ := h
          cases h; exact ⟨rfl, by simpa using hc⟩
      obtain ⟨rfl, key⟩ := key
      obtain ⟨v', h1, h2⟩ := part_run hb hn hr hone key
      exact ⟨rfl, v', fun o ho => by simp [execOp, ho, hv, Instr.field, run_underlying ht, hf, asAgg, h1], h2⟩
  · cases h
theorem ok_idx (hs : ∀ t, RepV w A ρ (gets sl t) (a.tmps.getD t undef)) {x i : Operand} {x' i' : SX} {t e : TypeId} {m n : Nat} {b : Bool} (hx : cx N x = some x') (hi : cx N i = some i') (ht : P.underlying t = some (.array m e)) (hn : sizeOf_ P e = some n) (hb : aggOf P e = some b) {g : Nat → Option SObj} {nx nx' : Nat} {v : SV} {u : Upd}
    (h : (SOp.idx m n (if b then some n else none) x' i').run (·.ev sl) g nx = some (v, u, nx')) : u = [] ∧ POk P w A ρ a (.index t x i) v := by
  have rx := cx_rep hx hs
  have ri := cx_rep hi hs
  simp only [SOp.run] at h
  split at h
  · rename_i k q he0
    rw [he0] at ri
    generalize hvi : a.eval i = vi at ri
    cases ri
    split at h
    · rename_i cs he
      rw [he] at rx
      generalize hv : a.eval x = vx at rx
      cases rx with
      | agg hone hl hh =>
        rename_i vs
        rw [rg_some] at h
        obtain ⟨h0, h⟩ := h
        have hr : Reps w A ρ cs (vs.toArray).toList := by show Reps w A ρ cs vs; exact ⟨hl, hh⟩
        have key : u = [] ∧ (if b then q.toNat * n + n ≤ cs.length ∧ v = .agg ((cs.drop (q.toNat * n)).take n) else cs[q.toNat * n]? = some v) := by
          cases b with
          | true =>
            simp only [if_true] at h
            rw [rg_some] at h
            obtain ⟨h1, h⟩ := h
            cases h; exact ⟨rfl, by simpa using h1⟩
          | false =>
            simp only [Bool.false_eq_true, if_false, Option.map_eq_some_iff] at h
            obtain ⟨c, hc, h⟩ := h
            cases h; exact ⟨rfl, by simpa using hc⟩
        obtain ⟨rfl, key⟩ := key
        obtain ⟨v', h1, h2⟩ := part_run hb hn hr hone key
        exact ⟨rfl, v', fun o ho => by simp [execOp, ho, hv, hvi, Instr.index, run_underlying ht, asIntOf, h0, sizeOf_run hn w, h1], h2⟩
    · cases h
  · cases h

theorem load_run {t : TypeId} (hb : aggOf P t = some false) {b off : Nat} {v : Value} (hc : w.cell? ⟨b, off, none⟩ = some v) {x : Operand} (hx : a.eval x = .pointer (some ⟨b, off, none⟩)) : ∀ o : Oper, o.op = .load t x → (execOp a.eval o).run P w = .ok (.value v) w := fun o ho => by
  simp [execOp, ho, hx, Instr.loadAt, Instr.sureAddr, loadVar, aggOf_run hb w, load, Sem.run, hc]
theorem loads_run {t : TypeId} (hb : aggOf P t = some true) {b off : Nat} {vs : List Value} (hn : sizeOf_ P t = some vs.length) (hc : ∀ (j : Nat) v, vs[j]? = some v → w.cell? ⟨b, off + j, none⟩ = some v) {x : Operand} (hx : a.eval x = .pointer (some ⟨b, off, none⟩)) : ∀ o : Oper, o.op = .load t x → (execOp a.eval o).run P w = .ok (.value (.agg vs.toArray)) w := fun o ho => by
  have := run_loadCells_list (P := P) w ⟨b, off, none⟩ vs fun j v hv => by rw [addr_add]; exact hc j v hv
  simp [execOp, ho, hx, Instr.loadAt, Instr.sureAddr, loadVar, aggOf_run hb w, sizeOf_run hn w, this]
theorem Reps.sub {cs : List SV} {vs : List Value} (h : Reps w A ρ cs vs) (off n : Nat) : Reps w A ρ ((cs.drop off).take n) ((vs.drop off).take n) := by
  refine ⟨by simp [h.1], fun j x v hx hv => ?_⟩
  rw [List.getElem?_take] at hx hv
  split at hx
  · rename_i hj
    rw [if_pos hj] at hv
    rw [List.getElem?_drop] at hx hv
    exact h.2 _ _ _ hx hv
  · cases hx
theorem RepV.lift {x : SV} {v : Value} (h : RepV w A noPl x v) : RepV w A ρ x v := h.mono (.refl _ _) (fun _ h _ => h) fun _ _ h => by cases h
theorem flat_get {size : Nat} : ∀ {es : List (List SV)} (_ : ∀ e ∈ es, e.length = size) {i : Nat} {e : List SV} (_ : es[i]? = some e) {j : Nat} {x : SV} (_ : e[j]? = some x), es.flatten[i * size + j]? = some x := by
  intro es
  induction es with
  | nil => intro _ i e he; simp at he
  | cons d es ih =>
    intro hz i e he j x hx
    have hd : d.length = size := hz d (by simp)
    cases i with
    | zero =>
      simp at he; subst he
      have hj : j < d.length := (List.getElem?_eq_some_iff.1 hx).1
      rw [List.flatten_cons, Nat.zero_mul, Nat.zero_add, List.getElem?_append_left hj]; exact hx
    | succ i =>
      have hlt : d.length ≤ (i + 1) * size + j := by rw [Nat.add_mul]; omega
      rw [List.flatten_cons, List.getElem?_append_right hlt, hd, show (i + 1) * size + j - size = i * size + j by rw [Nat.add_mul]; omega]
      exact ih (fun e he => hz e (by simp [he])) (by simpa using he) hx
theorem flat_len {size : Nat} : ∀ {es : List (List SV)} (_ : ∀ e ∈ es, e.length = size), es.flatten.length = es.length * size := by
  intro es
  induction es with
  | nil => simp
  | cons d es ih =>
    intro hz
    rw [List.flatten_cons, List.length_append, ih (fun e he => hz e (by simp [he])), hz d (by simp), List.length_cons, Nat.add_mul]; omega
theorem row_cells {e size n : Nat} {v : Value} {vs : List Value} (h : w.ownsRow 0 e size v n vs) {b c : Nat} (hp : placeOf v = some (b, c)) : v = .slice (some ⟨b, 0, none⟩) n c ∧ (∀ (j : Nat) u, vs[j]? = some u → w.cell? ⟨b, j, none⟩ = some u) ∧ b < w.heap.size ∧ n ≤ c ∧ c ≤ maxLen := by
  obtain ⟨h1, h2⟩ := h
  rcases h2 with ⟨rfl, _⟩ | ⟨g, cap, cur, rfl, _, hg, hn, hm, hcs, ht⟩
  · cases hp
  · cases hp
    refine ⟨rfl, fun j u hu => ?_, (Array.getElem?_eq_some_iff.1 hg).1, hn, hm⟩
    rw [cell_of_row w g j cur e (0, 0) hg]
    rw [← ht, List.getElem?_take] at hu
    split at hu
    · simpa using hu
    · cases hu
theorem ok_load (hs : ∀ t, RepV w A ρ (gets sl t) (a.tmps.getD t undef)) {hp : Hp} (hobj : ∀ id o, geth hp id = some o → ∃ fp, ObjRep w A ρ id fp o) {x : Operand} {x' : SX} {t : TypeId} (hx : cx N x = some x') (hb : aggOf P t = some false) {nx nx' : Nat} {v : SV} {u : Upd}
    (h : (SOp.load x').run (·.ev sl) (geth hp) nx = some (v, u, nx')) : u = [] ∧ POk P w A ρ a (.load t x) v := by
  have rx := cx_rep hx hs
  simp only [SOp.run] at h
  split at h
  · rename_i c cs he
    rw [he] at rx
    cases h
    generalize hv : a.eval x = vx at rx
    cases rx with
    | cp cv hA hb' h1 h2 ho => exact ⟨rfl, cv 0, load_run hb (by simpa using h1 0 v rfl) hv, (h2 0 v rfl).lift⟩
  · rename_i id off he
    rw [he] at rx
    generalize hv : a.eval x = vx at rx
    cases rx with
    | ptr hρ =>
      rename_i b c
      split at h
      · rename_i t' cs hg
        obtain ⟨fp, b', c', vs, hρ', hbl, ⟨hr, hone⟩, _⟩ := hobj _ _ hg
        rw [hρ] at hρ'; cases hρ'
        simp only [Option.map_eq_some_iff] at h
        obtain ⟨y, hy, h⟩ := h
        cases h
        obtain ⟨v', h1, h2⟩ := hr.get hy
        exact ⟨rfl, v', load_run hb (by rw [hbl.cell]; simpa using h1) hv, h2⟩
      · cases h
  · rename_i id size i j he
    rw [he] at rx
    generalize hv : a.eval x = vx at rx
    cases rx with
    | eptr hρ =>
      rename_i b c
      split at h
      · rename_i e size' es hg
        obtain ⟨fp, v0, vs, how, ⟨hr, hone⟩, hz, hρ', _⟩ := hobj _ _ hg
        rw [hρ] at hρ'
        have hp : placeOf v0 = some (b, c) := (Option.some.inj hρ').symm
        split at h
        · rename_i hsz
          obtain ⟨rfl, hj⟩ := hsz
          simp only [Option.map_eq_some_iff] at h
          obtain ⟨y, hy, h⟩ := h
          cases h
          simp only [Option.bind_eq_some_iff] at hy
          obtain ⟨e1, he1, hy⟩ := hy
          obtain ⟨v', h1, h2⟩ := hr.get (flat_get hz he1 hy)
          obtain ⟨_, hc, _⟩ := row_cells how hp
          exact ⟨rfl, v', load_run hb (hc _ _ h1) hv, h2⟩
        · cases h
      · cases h
  · cases h
theorem ok_loads (hs : ∀ t, RepV w A ρ (gets sl t) (a.tmps.getD t undef)) {hp : Hp} (hobj : ∀ id o, geth hp id = some o → ∃ fp, ObjRep w A ρ id fp o) {x : Operand} {x' : SX} {t : TypeId} {n : Nat} (hx : cx N x = some x') (hb : aggOf P t = some true) (hn : sizeOf_ P t = some n) {nx nx' : Nat} {v : SV} {u : Upd}
    (h : (SOp.loads n x').run (·.ev sl) (geth hp) nx = some (v, u, nx')) : u = [] ∧ POk P w A ρ a (.load t x) v := by
  have rx := cx_rep hx hs
  simp only [SOp.run] at h
  split at h
  · rename_i cs he
    rw [he] at rx
    generalize hv : a.eval x = vx at rx
    split at h
    · rename_i hle
      cases h
      cases rx with
      | cp cv hA hb' h1 h2 ho =>
        have hlen : ((List.range n).map cv).length = n := by simp
        have hg : ∀ (j : Nat) u, ((List.range n).map cv)[j]? = some u → j < n ∧ u = cv j := fun j u hu => by
          simp only [List.getElem?_map, Option.map_eq_some_iff] at hu
          obtain ⟨k, hk, rfl⟩ := hu
          obtain ⟨h1, h2⟩ := List.getElem?_eq_some_iff.1 hk
          simp at h1 h2; subst h2; exact ⟨h1, rfl⟩
        refine ⟨rfl, _, loads_run hb (by rw [hlen]; exact hn) (fun j u hu => ?_) hv, .agg (fun u hu => by obtain ⟨j, hj⟩ := List.getElem?_of_mem hu; obtain ⟨hj, rfl⟩ := hg j u hj; exact ho j cs[j] (List.getElem?_eq_getElem (by omega))) (by simp; omega) fun j y u hy hu => ?_⟩
        · obtain ⟨hj, rfl⟩ := hg j u hu
          exact h1 j cs[j] (List.getElem?_eq_getElem (by omega))
        · obtain ⟨hj, rfl⟩ := hg j u hu
          rw [List.getElem?_take, if_pos hj] at hy
          exact (h2 j y hy).lift
    · cases h
  · rename_i id off he
    rw [he] at rx
    generalize hv : a.eval x = vx at rx
    cases rx with
    | ptr hρ =>
      rename_i b c
      split at h
      · rename_i t' cs hg
        obtain ⟨fp, b', c', vs, hρ', hbl, ⟨hr, hone⟩, _⟩ := hobj _ _ hg
        rw [hρ] at hρ'; cases hρ'
        split at h
        · rename_i hle
          cases h
          have hsub := hr.sub off n
          have hlen : ((vs.drop off).take n).length = n := by have := hr.1; simp; omega
          refine ⟨rfl, _, loads_run hb (by rw [hlen]; exact hn) (fun j u hu => ?_) hv, .agg (fun v hv => hone v (List.mem_of_mem_drop (List.mem_of_mem_take hv))) hsub.1 hsub.2⟩
          rw [List.getElem?_take] at hu
          split at hu
          · rw [List.getElem?_drop] at hu
            rw [hbl.cell]; simpa using hu
          · cases hu
        · cases h
      · cases h
  · rename_i id size i j he
    rw [he] at rx
    generalize hv : a.eval x = vx at rx
    cases rx with
    | eptr hρ =>
      rename_i b c
      split at h
      · rename_i e size' es hg
        obtain ⟨fp, v0, vs, how, ⟨hr, hone⟩, hz, hρ', _⟩ := hobj _ _ hg
        rw [hρ] at hρ'
        have hp : placeOf v0 = some (b, c) := (Option.some.inj hρ').symm
        split at h
        · rename_i hsz
          obtain ⟨rfl, hj⟩ := hsz
          simp only [Option.map_eq_some_iff] at h
          obtain ⟨e1, he1, h⟩ := h
          cases h
          obtain ⟨_, hc, _⟩ := row_cells how hp
          have hel : e1.length = size := hz e1 (List.mem_of_getElem? he1)
          have hsub := hr.sub (i * size + j) n
          have hil : i < es.length := (List.getElem?_eq_some_iff.1 he1).1
          have hfl := flat_len hz
          have hroom : (i + 1) * size ≤ es.length * size := Nat.mul_le_mul_right _ hil
          rw [Nat.add_mul, Nat.one_mul] at hroom
          have hlen : ((vs.drop (i * size + j)).take n).length = n := by have := hr.1; simp; omega
          have hcs : (es.flatten.drop (i * size + j)).take n = (e1.drop j).take n := by
            apply List.ext_getElem?
            intro k
            rw [List.getElem?_take, List.getElem?_take]
            split
            · rename_i hk
              rw [List.getElem?_drop, List.getElem?_drop, Nat.add_assoc]
              have : j + k < e1.length := by omega
              rw [List.getElem?_eq_getElem this]
              exact flat_get hz he1 (List.getElem?_eq_getElem this)
            · rfl
          rw [hcs] at hsub
          refine ⟨rfl, _, loads_run hb (by rw [hlen]; exact hn) (fun k u hu => ?_) hv, .agg (fun v hv => hone v (List.mem_of_mem_drop (List.mem_of_mem_take hv))) hsub.1 hsub.2⟩
          rw [List.getElem?_take] at hu
          split at hu
          · rw [List.getElem?_drop] at hu
            exact hc _ _ hu
          · cases hu
        · cases h
      · cases h
  · cases h

theorem eqIn_both {t : TypeId} {vx vy : Value} {b : Bool} (h : ∀ d, (Op.equalIn (d + 1) t vx vy).run P w = .ok b w) (hb : ∀ op, op = .eql ∨ op = .neq → binOp op t vx vy = if op = .eql then (do pure (.bool (← Op.equal t vx vy))) else (do pure (.bool (!(← Op.equal t vx vy))))) :
    (binOp .eql t vx vy).run P w = .ok (.bool b) w ∧ (binOp .neq t vx vy).run P w = .ok (.bool (!b)) w := by
  have he : (Op.equal t vx vy).run P w = .ok b w := h 9999
  refine ⟨?_, ?_⟩
  · rw [hb .eql (.inl rfl), if_pos rfl]
    simp only [Sem.run_bind, he, Result.andThen_ok, Sem.run_pure]
  · rw [hb .neq (.inr rfl), if_neg (by decide)]
    simp only [Sem.run_bind, he, Result.andThen_ok, Sem.run_pure]
theorem eq0_run {k : Nat} {t : TypeId} (hk : cmpOf P t = some k) {x y : SV} {b : Bool} (h : eq0 k x y = some b) {vx vy : Value} (rx : RepV w A ρ x vx) (ry : RepV w A ρ y vy) :
    ((binOp .eql t vx vy).run P w = .ok (.bool b) w ∧ (binOp .neq t vx vy).run P w = .ok (.bool (!b)) w) ∧ ∀ op X Y, (eqGuard op t X Y vx vy).run P w = .ok () w := by
  unfold eq0 at h
  split at h
  all_goals first | (cases h; done) | skip
  all_goals cases h
  · have hu : P.underlying t = some .bool := by unfold cmpOf at hk; split at hk <;> first | assumption | cases hk
    cases rx; cases ry
    exact ⟨eqIn_both (fun d => by simp [Op.equalIn, run_underlying hu]) (by rintro op (rfl | rfl) <;> rfl), fun op X Y => by cases op <;> simp [eqGuard]⟩
  iterate 7
    · obtain ⟨e, hu⟩ : ∃ e, P.underlying t = some (.pointer e) := by unfold cmpOf at hk; split at hk <;> first | exact ⟨_, by assumption⟩ | cases hk
      cases rx; cases ry
      exact ⟨eqIn_both (fun d => by simp [Op.equalIn, run_underlying hu]) (by rintro op (rfl | rfl) <;> rfl), fun op X Y => by cases op <;> simp [eqGuard]⟩
  iterate 2
    · obtain ⟨e, hu⟩ : ∃ e, P.underlying t = some (.slice e) := by unfold cmpOf at hk; split at hk <;> first | exact ⟨_, by assumption⟩ | cases hk
      cases rx; cases ry
      exact ⟨eqIn_both (fun d => by simp [Op.equalIn, run_underlying hu]) (by rintro op (rfl | rfl) <;> rfl), fun op X Y => by cases op <;> simp [eqGuard]⟩
  iterate 3
    · obtain ⟨e, r, u, hu⟩ : ∃ e r u, P.underlying t = some (.func e r u) := by unfold cmpOf at hk; split at hk <;> first | exact ⟨_, _, _, by assumption⟩ | cases hk
      cases rx; cases ry
      exact ⟨eqIn_both (fun d => by simp [Op.equalIn, run_underlying hu]) (by rintro op (rfl | rfl) <;> rfl), fun op X Y => by cases op <;> simp [eqGuard]⟩
end Go.Proofs.Ytfakdapglbgokaa
