/-
  Texts joined: XShE XShF. No condition.
-/
import Derived.Great.BuildSlice
import Derived.Test.YtfakdapglbgokaaI11
import Derived.Test.YtfakdapglbgokaaI2
/-
  The plain machine's operations do what the model's do: those that turn objects. No condition.
-/
namespace Go.Proofs.Ytfakdapglbgokaa
set_option linter.all false
open Go.RowKit

theorem ObjRep.place {w : World} {A : Nat → Prop} {ρ : Plan_} {id : Nat} {fp : Nat → Prop} {o : SObj} (h : ObjRep w A ρ id fp o) : ρ id ≠ none := by
  cases o with
  | cells t cs => obtain ⟨b, c, vs, h, _⟩ := h; rw [h]; simp
  | row e size es => obtain ⟨v, vs, _, _, _, h, _⟩ := h; rw [h]; simp
  | abs I => obtain ⟨b, c, h, _⟩ := h; rw [h]; simp
theorem ownsRow_same {w w' : World} {base e size n : Nat} {v : Value} {xs : List Value} (h : w.ownsRow base e size v n xs) (hb : ∀ k, v.ownBlock = some k → w'.heap[k]? = w.heap[k]?) : w'.ownsRow base e size v n xs := by
  refine ⟨h.1, ?_⟩
  rcases h.2 with h2 | ⟨g, cap, cur, rfl, hg, hh, r⟩
  · exact .inl h2
  · exact .inr ⟨g, cap, cur, rfl, hg, by rw [hb g rfl]; exact hh, r⟩
theorem ObjRep.mono {w w' : World} {A A' : Nat → Prop} {ρ ρ' : Plan_} {id : Nat} {fp : Nat → Prop} {o : SObj} (h : ObjRep w A ρ id fp o) (hp : Pres w A ρ w' A' ρ') (hb : ∀ k, fp k → w'.heap[k]? = w.heap[k]?) : ObjRep w' A' ρ' id fp o := by
  cases o with
  | cells t cs =>
    obtain ⟨b, c, vs, h1, h2, h3, h4⟩ := h
    exact ⟨b, c, vs, hp.pl _ _ h1, (hb b ((h4 b).2 rfl)).trans h2, ⟨hp.reps h3.1, h3.2⟩, h4⟩
  | row e size es =>
    obtain ⟨v, vs, h1, h2, h3, h4, h5⟩ := h
    exact ⟨v, vs, ownsRow_same h1 fun k hk => hb k ((h5 k).2 hk), ⟨hp.reps h2.1, h2.2⟩, h3, hp.pl _ _ h4, h5⟩
  | abs I =>
    obtain ⟨b, c, h1, h2⟩ := h
    exact ⟨b, c, hp.pl _ _ h1, I.keep h2 hp.step hp.av hb⟩
theorem ObjRep.lt {X : Cx} {ρ : Plan_} {fp : Nat → Nat → Prop} {hp : Hp} {w : World} (h : SimH X ρ fp hp w) {id : Nat} {o : SObj} (ho : geth hp id = some o) : ∀ k, fp id k → k < w.heap.size := fun k hk => (h.turn id o ho k hk).2
theorem SimH.none_of {X : Cx} {ρ : Plan_} {fp : Nat → Nat → Prop} {hp : Hp} {w : World} (h : SimH X ρ fp hp w) {id : Nat} (hn : ρ id = none) : geth hp id = none := by
  cases e : geth hp id with
  | none => rfl
  | some o => exact absurd hn (h.objs id o e).place

/-- Some objects turn ('Ch'), some are new or come in their place ('New'). -/
theorem SimH.change {X : Cx} {ρ ρ' : Plan_} {fp fp' : Nat → Nat → Prop} {hp hp' : Hp} {w w' : World} (h : SimH X ρ fp hp w) {S : Nat → Prop} (Ch New : Nat → Prop) (hst : Step S w w')
    (hS : ∀ k, S k → ∃ id o, geth hp id = some o ∧ fp id k ∧ Ch id)
    (hold : ∀ id o, geth hp' id = some o → ¬ New id → geth hp id = some o ∧ ¬ Ch id ∧ fp' id = fp id)
    (hρ : ∀ id p, ρ id = some p → ρ' id = some p) (hkeep : ∀ id, id < X.m → ρ' id = ρ id)
    (hfp : ∀ id o, New id → geth hp' id = some o → ∀ k, fp' id k → ((∃ j o, geth hp j = some o ∧ fp j k ∧ Ch j) ∨ w.heap.size ≤ k) ∧ k < w'.heap.size)
    (hdisj : ∀ id id' o o', New id → New id' → id ≠ id' → geth hp' id = some o → geth hp' id' = some o' → ∀ k, fp' id k → ¬ fp' id' k)
    (hnew : Pres w (Av X hp fp) ρ w' (Av X hp' fp') ρ' → ∀ id o, New id → geth hp' id = some o → ObjRep w' (Av X hp' fp') ρ' id (fp' id) o) :
    SimH X ρ' fp' hp' w' ∧ Pres w (Av X hp fp) ρ w' (Av X hp' fp') ρ' := by
  have hSA : ∀ k, S k → Av X hp fp k := fun k hk => by obtain ⟨id, o, h1, h2, _⟩ := hS k hk; exact .inr ⟨id, o, h1, h2⟩
  have hpres : Pres w (Av X hp fp) ρ w' (Av X hp' fp') ρ' := by
    refine ⟨hst.mono hSA, fun k hk hlt => ?_, hρ⟩
    rcases hk with hk | ⟨id, o, h1, h2⟩
    · exact .inl hk
    · by_cases hn : New id
      · rcases (hfp id o hn h1 k h2).1 with ⟨j, o', h3, h4, _⟩ | h3
        · exact .inr ⟨j, o', h3, h4⟩
        · exact absurd hlt (Nat.not_lt_of_le h3)
      · obtain ⟨h3, _, h4⟩ := hold id o h1 hn
        exact .inr ⟨id, o, h3, by rw [← h4]; exact h2⟩
  have hsame : ∀ id o, geth hp id = some o → ¬ Ch id → ∀ k, fp id k → w'.heap[k]? = w.heap[k]? := fun id o h1 hc k hk => by
    refine hst.block k (h.turn id o h1 k hk).2 fun hs => ?_
    obtain ⟨j, o', h2, h3, h4⟩ := hS k hs
    have hne : id ≠ j := fun e => hc (e ▸ h4)
    exact h.disj id j o o' hne h1 h2 k hk h3
  refine ⟨⟨fun id o h1 => ?_, fun id id' o o' hne h1 h2 k hk hk' => ?_, fun id o h1 k hk => ?_, ?_, fun id hid => (hkeep id hid).trans (h.keep id hid)⟩, hpres⟩
  · by_cases hn : New id
    · exact hnew hpres id o hn h1
    · obtain ⟨h2, h3, h4⟩ := hold id o h1 hn
      rw [h4]
      exact (h.objs id o h2).mono hpres (hsame id o h2 h3)
  · by_cases hn : New id
    · by_cases hn' : New id'
      · exact hdisj id id' o o' hn hn' hne h1 h2 k hk hk'
      · obtain ⟨h3, h4, h5⟩ := hold id' o' h2 hn'
        rw [h5] at hk'
        rcases (hfp id o hn h1 k hk).1 with ⟨j, oj, h6, h7, h8⟩ | h6
        · exact h.disj id' j o' oj (fun e => h4 (e ▸ h8)) h3 h6 k hk' h7
        · exact absurd (h.turn id' o' h3 k hk').2 (Nat.not_lt_of_le h6)
    · obtain ⟨h3, h4, h5⟩ := hold id o h1 hn
      rw [h5] at hk
      by_cases hn' : New id'
      · rcases (hfp id' o' hn' h2 k hk').1 with ⟨j, oj, h6, h7, h8⟩ | h6
        · exact h.disj id j o oj (fun e => h4 (e ▸ h8)) h3 h6 k hk h7
        · exact absurd (h.turn id o h3 k hk).2 (Nat.not_lt_of_le h6)
      · obtain ⟨h6, _, h7⟩ := hold id' o' h2 hn'
        rw [h7] at hk'
        exact h.disj id id' o o' hne h3 h6 k hk hk'
  · by_cases hn : New id
    · obtain ⟨h2, h3⟩ := hfp id o hn h1 k hk
      refine ⟨?_, h3⟩
      rcases h2 with ⟨j, oj, h4, h5, _⟩ | h4
      · exact (h.turn j oj h4 k h5).1
      · exact .inr (Nat.le_trans h.step.size h4)
    · obtain ⟨h2, _, h4⟩ := hold id o h1 hn
      rw [h4] at hk
      exact ⟨(h.turn id o h2 k hk).1, Nat.lt_of_lt_of_le (h.turn id o h2 k hk).2 hst.size⟩
  · refine ⟨hst.os.trans h.step.os, hst.tape.trans h.step.tape, hst.output.trans h.step.output, Nat.le_trans h.step.size hst.size, fun k hk hM => ?_⟩
    rw [← h.step.block k hk hM]
    refine hst.block k (Nat.lt_of_lt_of_le hk h.step.size) fun hs => ?_
    obtain ⟨id, o, h1, h2, _⟩ := hS k hs
    rcases (h.turn id o h1 k h2).1 with h3 | h3
    · exact hM h3
    · exact absurd hk (Nat.not_lt_of_le h3)

/-- A new object in new blocks. -/
theorem SimH.add {X : Cx} {ρ : Plan_} {fp : Nat → Nat → Prop} {hp : Hp} {w w' : World} (h : SimH X ρ fp hp w) {nx : Nat} (hm : X.m ≤ nx) (hf : ρ nx = none) (o : SObj) (p : Pl) (F : Nat → Prop) (hb : Below w.heap.size w w')
    (hF : ∀ k, F k → w.heap.size ≤ k ∧ k < w'.heap.size)
    (hnew : ∀ A' ρ', Pres w (Av X hp fp) ρ w' A' ρ' → ρ' nx = some p → ObjRep w' A' ρ' nx F o) :
    ∃ ρ' fp', SimH X ρ' fp' (puth hp nx o) w' ∧ Pres w (Av X hp fp) ρ w' (Av X (puth hp nx o) fp') ρ' ∧ ρ' nx = some p ∧ ∀ id, ρ' id ≠ none → ρ id ≠ none ∨ id = nx := by
  have hn := h.none_of hf
  obtain ⟨h1, h2⟩ := h.change (hp' := puth hp nx o) (ρ' := fun id => if id = nx then some p else ρ id) (fp' := fun id => if id = nx then F else fp id) (S := fun _ => False) (fun _ => False) (fun id => id = nx) (.of hb) (fun _ h => h.elim)
    (fun id o' hg hne => ⟨by rw [geth_puth, if_neg hne] at hg; exact hg, fun h => h, by simp [hne]⟩)
    (fun id q hq => by have hne : id ≠ nx := fun e => by rw [e, hf] at hq; cases hq
                       simp [hne, hq])
    (fun id hid => by have hne : id ≠ nx := by omega
                      simp [hne])
    (fun id o' hi _ k hk => by subst hi; simp only [if_true] at hk; exact ⟨.inr (hF k hk).1, (hF k hk).2⟩)
    (fun id id' o' o'' hi hi' hne => absurd (hi.trans hi'.symm) hne)
    (fun hpres id o' hi hg => by
      subst hi
      rw [geth_puth, if_pos rfl] at hg
      cases hg
      simp only [if_true]
      exact hnew _ _ hpres (by simp))
  exact ⟨_, _, h1, h2, by simp, fun id hid => by by_cases e : id = nx <;> simp_all⟩

def MOk (X : Cx) (ρ : Plan_) (fp : Nat → Nat → Prop) (hp : Hp) (w : World) (a : Act) (op : Op) (nx : Nat) (v : SV) (u : Upd) : Prop := ∃ v' w', (∀ o : Oper, o.op = op → Yld ((execOp a.eval o).run X.P w) v' w') ∧ OpOut X ρ fp hp w nx u v v' w'
theorem POk.mok {nx : Nat} {X : Cx} {ρ : Plan_} {fp : Nat → Nat → Prop} {hp : Hp} {w : World} {a : Act} {op : Op} {v : SV} (h : SimH X ρ fp hp w) (hp' : POk X.P w (Av X hp fp) ρ a op v) : MOk X ρ fp hp w a op nx v [] := by
  obtain ⟨v', h1, h2⟩ := hp'
  exact ⟨v', w, fun o ho => .inl (h1 o ho), .same h h2⟩
variable {X : Cx} {ρ : Plan_} {fp : Nat → Nat → Prop} {hp : Hp} {w : World} {N : Nat} {a : Act} {sl : Sl}

/-- A new block of cells. -/
theorem OpOut.cells (h : SimH X ρ fp hp w) {nx : Nat} (hm : X.m ≤ nx) (hf : ρ nx = none) (t : TypeId) {cs : List SV} {vs : List Value} (hr : Reps w (Av X hp fp) ρ cs vs) (hone : Ones vs) :
    OpOut X ρ fp hp w nx [(nx, some (.cells t cs))] (.ptr nx 0) (.pointer (some ⟨w.heap.size, 0, none⟩)) (w.alloc (.cells vs.toArray t)) := by
  obtain ⟨ρ', fp', h1, h2, h3, h4⟩ := h.add hm hf (.cells t cs) (some (w.heap.size, 0)) (fun k => k = w.heap.size) (al (rf w) (.cells vs.toArray t)) (fun k hk => by subst hk; simp) fun A' ρ' hp' hpl => ⟨_, _, vs, hpl, Blk.new _ _ _, ⟨hp'.reps hr, hone⟩, fun k => Iff.rfl⟩
  exact ⟨ρ', fp', h1, .ptr h3, h2, h4⟩
theorem ok_alloc (h : SimH X ρ fp hp w) {t : TypeId} {z : List SV} (hz : zeroOf X.P t = some z) {g : Nat → Option SObj} {nx nx' : Nat} {v : SV} {u : Upd} (hm : X.m ≤ nx) (hf : ρ nx = none)
    (hr : (SOp.alloc t z).run (·.ev sl) g nx = some (v, u, nx')) : MOk X ρ fp hp w a (.alloc t) nx v u := by
  simp only [SOp.run] at hr
  cases hr
  obtain ⟨i, zv, hi, hzv, hzs, hzl, hzo, hzr⟩ := zeroOf_spec hz
  refine ⟨_, _, fun o ho => .inl ?_, OpOut.cells h hm hf t (hzr (w := w) (A := Av X hp fp) (ρ := ρ)) hzo⟩
  simp [execOp, ho, Instr.alloc, zeroValue, typeInfo, hi, hzv, newVar, newRow]
theorem ok_box (h : SimH X ρ fp hp w) (hs : ∀ t, RepV w (Av X hp fp) ρ (gets sl t) (a.tmps.getD t undef)) {t : TypeId} {x : Operand} {x' : SX} (hx : cx N x = some x') {g : Nat → Option SObj} {nx nx' : Nat} {v : SV} {u : Upd} (hm : X.m ≤ nx) (hf : ρ nx = none)
    (hr : (SOp.box t x').run (·.ev sl) g nx = some (v, u, nx')) : MOk X ρ fp hp w a (.box t x) nx v u := by
  have rx := cx_rep hx hs
  simp only [SOp.run] at hr
  split at hr
  · rename_i cs hc
    cases hr
    obtain ⟨hcr, hco⟩ := rx.cells hc
    refine ⟨_, _, fun o ho => .inl ?_, OpOut.cells h hm hf t hcr hco⟩
    simp [execOp, ho, Instr.box, newVar, newRow]
  · cases hr
/-- A new row. -/
theorem OpOut.row (h : SimH X ρ fp hp w) {nx : Nat} (hm : X.m ≤ nx) (hf : ρ nx = none) (e size : Nat) {es : List (List SV)} {v' : Value} {vs : List Value} {w' : World} (hb : Below w.heap.size w w') (ho : w'.ownsRow 0 e size v' es.length vs) (hge : ∀ k, v'.ownBlock = some k → w.heap.size ≤ k)
    (hz : ∀ x ∈ es, x.length = size) (hr : Reps w (Av X hp fp) ρ es.flatten vs) (hone : Ones vs) :
    OpOut X ρ fp hp w nx [(nx, some (.row e size es))] (.own nx es.length) v' w' := by
  obtain ⟨ρ', fp', h1, h2, h3, h4⟩ := h.add hm hf (.row e size es) (placeOf v') (fun k => v'.ownBlock = some k) hb (fun k hk => ⟨hge k hk, (ho.lt k hk).2⟩) fun A' ρ' hp' hpl => ⟨v', vs, ho, ⟨hp'.reps hr, hone⟩, hz, hpl, fun k => Iff.rfl⟩
  refine ⟨ρ', fp', h1, ?_, h2, h4⟩
  rcases ho.2 with ⟨rfl, hn⟩ | ⟨g, cap, cur, rfl, _, _, hn, hmx, _⟩
  · rw [hn]; exact .own0 h3
  · exact .own h3 hn hmx
theorem fillR_ok {size : Nat} {w : World} {A : Nat → Prop} {ρ : Plan_} : ∀ (ps : List (Nat × Value)) (qs : List (Nat × SV)), ps.length = qs.length → (∀ (j : Nat) p q, ps[j]? = some p → qs[j]? = some q → p.1 = q.1 ∧ RepV w A ρ q.2 p.2) →
    ∀ (zs cs : List (List SV)) (zv : List Value), fillR size zs qs = some cs → (∀ x ∈ zs, x.length = size) → Reps w A ρ zs.flatten zv → Ones zv →
      ∃ cv, Instr.fill (fun i => some (i * size, size)) zv.toArray ps = some cv.toArray ∧ (Reps w A ρ cs.flatten cv ∧ Ones cv) ∧ (∀ x ∈ cs, x.length = size) ∧ cs.length = zs.length := by
  intro ps
  induction ps with
  | nil =>
    intro qs hl _ zs cs zv h hz hr ho
    obtain rfl : qs = [] := List.eq_nil_of_length_eq_zero (by simpa using hl.symm)
    simp only [fillR] at h; cases h
    exact ⟨zv, rfl, ⟨hr, ho⟩, hz, rfl⟩
  | cons p ps ih =>
    intro qs hl hp zs cs zv h hz hr ho
    cases qs with
    | nil => simp at hl
    | cons q qs =>
      obtain ⟨i, x⟩ := q
      obtain ⟨i', v⟩ := p
      obtain ⟨h1, h2⟩ := hp 0 _ _ rfl rfl
      simp only at h1 h2
      subst h1
      simp only [fillR] at h
      split at h
      · rename_i xs hxs
        obtain ⟨hcr, hco⟩ := h2.cells hxs
        split at h
        · rename_i hc
          obtain ⟨hc1, hc2⟩ := hc
          have hsz : v.cells.size = size := by have := hcr.1; simp at this; omega
          have hfl := flat_len hz
          have hroom : (i' + 1) * size ≤ zs.length * size := Nat.mul_le_mul_right _ hc2
          rw [Nat.add_mul, Nat.one_mul] at hroom
          have hset : (zs.set i' xs).flatten = setL zs.flatten (i' * size) xs := by
            clear h ih hr hcr hl hp hfl hroom ho hco
            have gen : ∀ (xs ys : List SV) (pre post : List SV), xs.length = ys.length → setL (pre ++ ys ++ post) pre.length xs = pre ++ xs ++ post := by
              intro xs
              induction xs with
              | nil => intro ys pre post hl; cases ys with | nil => simp [setL] | cons => simp at hl
              | cons x xs ihx =>
                intro ys pre post hl
                cases ys with
                | nil => simp at hl
                | cons y ys =>
                  simp only [setL]
                  have e1 : (pre ++ y :: ys ++ post).set pre.length x = (pre ++ [x]) ++ ys ++ post := by
                    rw [List.append_assoc, List.set_append_right _ _ (Nat.le_refl _)]; simp
                  rw [e1]
                  have := ihx ys (pre ++ [x]) post (by simpa using hl)
                  simp only [List.length_append, List.length_cons, List.length_nil] at this
                  rw [this]; simp
            have hsplit : zs = zs.take i' ++ zs[i'] :: zs.drop (i' + 1) := by simp
            have hfl1 : (zs.take i').flatten.length = i' * size := by rw [flat_len (fun e he => hz e (List.mem_of_mem_take he))]; simp; rw [Nat.min_eq_left (by omega)]
            have e1 : zs.flatten = (zs.take i').flatten ++ zs[i'] ++ (zs.drop (i' + 1)).flatten := by
              have := congrArg List.flatten hsplit
              rw [List.flatten_append, List.flatten_cons, ← List.append_assoc] at this
              exact this
            have e2 : (zs.set i' xs).flatten = (zs.take i').flatten ++ xs ++ (zs.drop (i' + 1)).flatten := by
              rw [List.set_eq_take_append_cons_drop, if_pos hc2]; simp
            rw [e1, e2, ← hfl1]
            exact (gen xs zs[i'] _ _ (by rw [hc1, hz _ (List.getElem_mem _)])).symm
          obtain ⟨cv, e1, e2, e3, e4⟩ := ih qs (by simpa using hl) (fun j p q hj hk => hp (j + 1) p q (by simpa using hj) (by simpa using hk)) _ _ (setV zv (i' * size) v.cells.toList) h
            (fun x hx => by rcases List.mem_or_eq_of_mem_set hx with h | h; exact hz x h; rw [h]; exact hc1) (by rw [hset]; exact hcr.setL hr _) (hco.setV ho _)
          refine ⟨cv, ?_, e2, e3, by rw [e4]; simp⟩
          rw [Instr.fill]
          simp only
          have hzl := hr.1
          have hno : (v.cells.size ≠ size || decide (i' * size + v.cells.size > zv.toArray.size)) = false := by simp [hsz]; omega
          rw [hno]
          simp only [Bool.false_eq_true, if_false]
          rw [← Array.foldl_toList, Array.toList_zipIdx, foldl_setV]
          exact e1
        · cases h
      · cases h

theorem Ones.rep {zv : List Value} (h : Ones zv) : ∀ n, Ones (List.replicate n zv).flatten := fun n v hv => by
  obtain ⟨l, hl, hv⟩ := List.mem_flatten.1 hv
  rw [(List.mem_replicate.1 hl).2] at hv
  exact h v hv
theorem replicate_flat {w : World} {A : Nat → Prop} {ρ : Plan_} {z : List SV} {zv : List Value} (h : Reps w A ρ z zv) : ∀ n, Reps w A ρ (List.replicate n z).flatten (List.replicate n zv).flatten
  | 0 => by simpa using Reps.nil
  | n + 1 => by rw [List.replicate_succ, List.replicate_succ, List.flatten_cons, List.flatten_cons]; exact h.append (replicate_flat h n)
theorem cyc_flat {zv : Array Value} (n : Nat) (hz : 0 < zv.size) : ((Array.range (n * zv.size)).map (zv[· % zv.size]!)) = (List.replicate n zv.toList).flatten.toArray := by
  have hlen : ((List.replicate n zv.toList).flatten).length = n * zv.size := by simp
  apply Array.ext'
  apply List.ext_getElem?
  intro j
  by_cases hj : j < n * zv.size
  · have h1 : ((Array.range (n * zv.size)).map (zv[· % zv.size]!)).toList[j]? = some (zv[j % zv.size]!) := by simp [hj]
    rw [h1]
    have hm : j % zv.size < zv.size := Nat.mod_lt _ hz
    have hd : j / zv.size < n := (Nat.div_lt_iff_lt_mul hz).2 hj
    have key : ∀ (n i k : Nat), i < n → k < zv.size → ((List.replicate n zv.toList).flatten)[i * zv.size + k]? = zv[k]? := by
      intro n
      induction n with
      | zero => intro i k hi; omega
      | succ n ih =>
        intro i k hi hk
        rw [List.replicate_succ, List.flatten_cons]
        cases i with
        | zero => rw [Nat.zero_mul, Nat.zero_add, List.getElem?_append_left (by simpa using hk)]; simp
        | succ i =>
          have hlt : zv.toList.length ≤ (i + 1) * zv.size + k := by rw [Nat.add_mul]; simp; omega
          rw [List.getElem?_append_right hlt, show (i + 1) * zv.size + k - zv.toList.length = i * zv.size + k by rw [Nat.add_mul]; simp; omega]
          exact ih i k (by omega) hk
    have := key n (j / zv.size) (j % zv.size) hd hm
    have hjd : j / zv.size * zv.size + j % zv.size = j := by rw [Nat.mul_comm]; exact Nat.div_add_mod j zv.size
    rw [hjd] at this
    rw [this, getElem!_pos zv _ hm]
    simp
  · rw [List.getElem?_eq_none (by simp; omega), List.getElem?_eq_none (by rw [hlen]; omega)]
theorem ok_mkrow (h : SimH X ρ fp hp w) (hs : ∀ t, RepV w (Av X hp fp) ρ (gets sl t) (a.tmps.getD t undef)) {t e size n : Nat} {z : List SV} {ps : Array (Nat × Operand)} {qs : List (Nat × SX)} (ht : X.P.underlying t = some (.slice e)) (hz : zeroOf X.P e = some z) (hsz : sizeOf_ X.P e = some size) (hq : ps.toList.mapM (cpart1 N) = some qs) (hc : 0 < size ∧ n * size ≤ 2 ^ 20)
    {g : Nat → Option SObj} {nx nx' : Nat} {v : SV} {u : Upd} (hm : X.m ≤ nx) (hf : ρ nx = none) (hr : (SOp.mkrow e size n z qs).run (·.ev sl) g nx = some (v, u, nx')) : MOk X ρ fp hp w a (.buildSlice t n ps) nx v u := by
  simp only [SOp.run] at hr
  split at hr
  · rename_i es hes
    cases hr
    obtain ⟨i, zv, hi, hzv, hzs, hzl, hzo, hzr⟩ := zeroOf_spec hz
    have hsi : i.size = size := by simp only [sizeOf_, hi, Option.map_some] at hsz; exact Option.some.inj hsz
    obtain ⟨hl, hj⟩ := mapM_some hq
    have hrep := replicate_flat (hzr (w := w) (A := Av X hp fp) (ρ := ρ)) n
    obtain ⟨cv, e1, e2, e3, e4⟩ := fillR_ok (size := size) (ps.toList.map fun p => (p.1, a.eval p.2)) _ (by simp [hl]) (fun j p q hp hq => by
      simp only [List.getElem?_map, Option.map_eq_some_iff] at hp hq
      obtain ⟨p, hp, rfl⟩ := hp
      obtain ⟨q, hq, rfl⟩ := hq
      obtain ⟨y, hy, hcc⟩ := hj j p hp
      rw [hq] at hy; cases hy
      simp only [cpart1, Option.map_eq_some_iff] at hcc
      obtain ⟨x, hx, hcc⟩ := hcc
      cases hcc
      exact ⟨rfl, cx_rep hx hs⟩) (List.replicate n z) es _ hes (fun x hx => by rw [(List.mem_replicate.1 hx).2, hzl, hsi]) hrep (hzo.rep n)
    rw [List.length_replicate] at e4
    have hfl := flat_len e3
    have hcl : cv.length = n * size := by rw [← e2.1.1, hfl, e4]
    have hbig : n ≤ n * size := Nat.le_mul_of_pos_right n hc.1
    have hn20 : n ≤ 1048576 := by have := hc.2; omega
    have hmax : n ≤ maxLen := by simp [maxLen]; omega
    have hrun : ∀ o : Oper, o.op = .buildSlice t n ps → (execOp a.eval o).run X.P w = .ok (.value (.slice (some ⟨w.heap.size, 0, none⟩) n n)) (w.alloc (.cells cv.toArray e)) := fun o ho => by
      have e5 : (ps.map fun (i, x) => (i, a.eval x)).toList = ps.toList.map fun p => (p.1, a.eval p.2) := by simp
      have hpos : 0 < zv.cells.size := by rw [hzs, hsi]; exact hc.1
      by_cases hn0 : n = 0
      · subst hn0
        have hcv : cv = [] := List.eq_nil_of_length_eq_zero (by simpa using hcl)
        subst hcv
        have e6 := e1
        simp only [List.replicate_zero, List.flatten_nil] at e6
        have e7 : Instr.fill (fun i => some (i * size, size)) #[] (List.map (fun x => (x.fst, a.eval x.snd)) ps.toList) = some #[] := e6
        simp [execOp, ho, Instr.buildSlice, run_underlying ht, sizeOf_run hsz w, newRow, show Array.range 0 = #[] from rfl, e7]
      · have hne : ¬ n * i.size = 0 := by rw [hsi]; exact Nat.ne_of_gt (Nat.mul_pos (by omega) hc.1)
        have := run_buildSlice (P := X.P) w t e n (ps.map fun (i, x) => (i, a.eval x)) cv.toArray i zv ht hi hzv (by rw [hsi]; omega) hne (by
          rw [e5]
          have hcy := cyc_flat n hpos
          rw [hzs] at hcy
          rw [hzs, hcy, hsi]
          exact e1)
        simp only [execOp, ho, Sem.run_bind, this, Result.andThen_ok, Sem.run_pure]
    refine ⟨_, _, fun o ho => .inl (hrun o ho), ?_⟩
    have := OpOut.row h hm hf e size (es := es) (v' := .slice (some ⟨w.heap.size, 0, none⟩) n n) (vs := cv) (al (rf w) (.cells cv.toArray e)) ?_ (fun k hk => by simp [Value.ownBlock] at hk; omega) e3 e2.1 e2.2
    · rw [e4] at this; exact this
    · rw [e4]
      refine ⟨hcl, .inr ⟨w.heap.size, n, cv.toArray, rfl, Nat.zero_le _, Blk.new _ _ _, Nat.le_refl _, hmax, by simpa using hcl, ?_⟩⟩
      rw [List.take_of_length_le (by simp [hcl])]
  · cases hr

theorem setV_take : ∀ (us cs : List Value) (off m : Nat), (setV cs off us).take m = setV (cs.take m) off us
  | [], _, _, _ => rfl
  | u :: us, cs, off, m => by rw [setV, setV_take us, setV, List.take_set]
theorem setV_eq : ∀ (us cs : List Value) (off : Nat), off + us.length ≤ cs.length → setV cs off us = cs.take off ++ us ++ cs.drop (off + us.length)
  | [], cs, off, h => by simp [setV]
  | u :: us, cs, off, h => by
    simp only [List.length_cons] at h
    rw [setV, setV_eq us _ _ (by simp; omega)]
    have h1 : (cs.set off u).take (off + 1) = cs.take off ++ [u] := by
      rw [List.take_succ, List.take_set_of_le (Nat.le_refl _), List.getElem?_set_self (by omega)]; rfl
    have h2 : (cs.set off u).drop (off + 1 + us.length) = cs.drop (off + (u :: us).length) := by
      rw [List.drop_set_of_lt (by omega), List.length_cons]; congr 1; omega
    rw [h1, h2]; simp
theorem setL_eq : ∀ (us cs : List SV) (off : Nat), off + us.length ≤ cs.length → setL cs off us = cs.take off ++ us ++ cs.drop (off + us.length)
  | [], cs, off, h => by simp [setL]
  | u :: us, cs, off, h => by
    simp only [List.length_cons] at h
    rw [setL, setL_eq us _ _ (by simp; omega)]
    have h1 : (cs.set off u).take (off + 1) = cs.take off ++ [u] := by
      rw [List.take_succ, List.take_set_of_le (Nat.le_refl _), List.getElem?_set_self (by omega)]; rfl
    have h2 : (cs.set off u).drop (off + 1 + us.length) = cs.drop (off + (u :: us).length) := by
      rw [List.drop_set_of_lt (by omega), List.length_cons]; congr 1; omega
    rw [h1, h2]; simp
theorem flat_set {size : Nat} {es : List (List SV)} (hz : ∀ e ∈ es, e.length = size) {i : Nat} {x : List SV} (hx : es[i]? = some x) {j : Nat} {xs : List SV} (hj : j + xs.length ≤ size) : (es.set i (setL x j xs)).flatten = setL es.flatten (i * size + j) xs := by
  have hi : i < es.length := (List.getElem?_eq_some_iff.1 hx).1
  have hxe : es[i] = x := (List.getElem?_eq_some_iff.1 hx).2
  have hxl : x.length = size := hz x (List.mem_of_getElem? hx)
  have hfl := flat_len hz
  have hroom : (i + 1) * size ≤ es.length * size := Nat.mul_le_mul_right _ hi
  rw [Nat.add_mul, Nat.one_mul] at hroom
  have hsplit : es = es.take i ++ x :: es.drop (i + 1) := by rw [← hxe]; simp
  have hl1 : (es.take i).flatten.length = i * size := by rw [flat_len (fun e he => hz e (List.mem_of_mem_take he))]; simp; rw [Nat.min_eq_left (by omega)]
  have e1 : es.flatten = (es.take i).flatten ++ x ++ (es.drop (i + 1)).flatten := by
    have := congrArg List.flatten hsplit
    rw [List.flatten_append, List.flatten_cons, ← List.append_assoc] at this
    exact this
  have e2 : (es.set i (setL x j xs)).flatten = (es.take i).flatten ++ setL x j xs ++ (es.drop (i + 1)).flatten := by
    rw [List.set_eq_take_append_cons_drop, if_pos hi]; simp
  rw [e2, setL_eq xs x j (by omega), setL_eq xs es.flatten _ (by omega), e1, ← hl1]
  rw [List.append_assoc _ x, List.take_append, List.drop_append]
  rw [List.take_of_length_le (Nat.le_add_right _ _), List.drop_eq_nil_of_le (show (es.take i).flatten.length ≤ (es.take i).flatten.length + j + xs.length by omega)]
  rw [show (es.take i).flatten.length + j - (es.take i).flatten.length = j by omega, show (es.take i).flatten.length + j + xs.length - (es.take i).flatten.length = j + xs.length by omega]
  rw [List.take_append_of_le_length (by omega), List.drop_append_of_le_length (by omega)]
  simp
theorem store_run {P : Program} {t : TypeId} {n : Nat} (hn : sizeOf_ P t = some n) {b off : Nat} {et : TypeId} {cur : Array Value} (hb : w.heap[b]? = some (.cells cur et (0, 0))) {x y : Operand} (hx : a.eval x = .pointer (some ⟨b, off, none⟩)) (hl : (a.eval y).cells.size = n) (hroom : off + n ≤ cur.size) (h1 : Ones (a.eval y).cells.toList) :
    ∀ o : Oper, o.op = .store t x y → (execOp a.eval o).run P w = .ok .skip (w.setRow b (setV cur.toList off (a.eval y).cells.toList).toArray) := fun o ho => by
  have hs := run_storeCells_at (P := P) b off et (a.eval y).cells.toList 0 cur w hb (by simp; omega) h1
  rw [Nat.add_zero, ← setV_eq _ _ _ (by simp; omega)] at hs
  simp only [execOp, ho, Instr.storeAt, hx, Instr.sureAddr, Sem.run_bind, Sem.run_pure, Result.andThen_ok, storeVar, sizeOf_run hn w, hl, ne_eq, not_true, if_false, hs]
theorem step_setRow (A : Nat → Prop) (w : World) (g : Nat) (hg : A g) (cs : Array Value) : Step A w (w.setRow g cs) :=
  ⟨rfl, rfl, rfl, by simp, fun k _ hk => setRow_other w g k cs fun e => hk (e ▸ hg)⟩
/-- An object's own block turns. -/
theorem OpOut.turn {nx : Nat} (h : SimH X ρ fp hp w) {id : Nat} {o o' : SObj} (ho : geth hp id = some o) {b : Nat} (hb : fp id b) (cs : Array Value)
    (hnew : ∀ A' , Pres w (Av X hp fp) ρ (w.setRow b cs) A' ρ → ObjRep (w.setRow b cs) A' ρ id (fp id) o') :
    OpOut X ρ fp hp w nx [(id, some o')] .any undef (w.setRow b cs) := by
  obtain ⟨h1, h2⟩ := h.change (hp' := puth hp id o') (ρ' := ρ) (fp' := fp) (S := fun k => k = b) (fun j => j = id) (fun j => j = id) (step_setRow (fun k => k = b) w b rfl cs) (fun k hk => ⟨id, o, ho, by rw [show k = b from hk]; exact hb, rfl⟩)
    (fun j oj hg hne => ⟨by rw [geth_puth, if_neg hne] at hg; exact hg, hne, rfl⟩) (fun _ _ h => h) (fun _ _ => rfl)
    (fun j oj hj _ k hk => by subst hj; exact ⟨.inl ⟨j, o, ho, hk, rfl⟩, by have := (h.turn j o ho k hk).2; rw [setRow_size]; exact this⟩)
    (fun i j _ _ hi hj hne => absurd (hi.trans hj.symm) hne)
    (fun hpres j oj hj hg => by
      subst hj
      rw [geth_puth, if_pos rfl] at hg
      cases hg
      exact hnew _ hpres)
  exact ⟨ρ, fp, h1, .any, h2, fun j hj => .inl hj⟩
theorem ok_store (h : SimH X ρ fp hp w) (hs : ∀ t, RepV w (Av X hp fp) ρ (gets sl t) (a.tmps.getD t undef)) {t n : Nat} {x y : Operand} {x' y' : SX} (hx : cx N x = some x') (hy : cx N y = some y') (hn : sizeOf_ X.P t = some n) {nx nx' : Nat} {v : SV} {u : Upd}
    (hr : (SOp.store n x' y').run (·.ev sl) (geth hp) nx = some (v, u, nx')) : MOk X ρ fp hp w a (.store t x y) nx v u := by
  have rx := cx_rep hx hs
  have ry := cx_rep hy hs
  simp only [SOp.run] at hr
  split at hr
  · cases hr
  · rename_i vs hvs
    obtain ⟨hcr, hone⟩ := ry.cells hvs
    split at hr
    · rename_i hc1
      have hl : (a.eval y).cells.size = n := by have := hcr.1; simp at this; omega
      split at hr
      · rename_i id off he
        rw [he] at rx
        generalize hv : a.eval x = vx at rx
        split at hr
        · rename_i t' cs hg
          rw [rg_some] at hr
          obtain ⟨hroom, hr⟩ := hr
          cases hr
          cases rx with
          | ptr hρ =>
            rename_i b c
            obtain ⟨b', c', us, hρ', hbl, ⟨hrep, huo⟩, hfp⟩ := h.objs id _ hg
            rw [hρ] at hρ'; cases hρ'
            have hul := hrep.1
            refine ⟨_, _, fun o ho => .inr ⟨store_run hn hbl hv hl (by simp; omega) hone o ho, rfl⟩, ?_⟩
            refine OpOut.turn h hg ((hfp b).2 rfl) _ fun A' hp' => ⟨b, c, _, hρ, ?_, ⟨(hp'.reps hcr).setL (hp'.reps hrep) off, hone.setV huo off⟩, hfp⟩
            have := setRow_heap w b us.toArray (setV us.toArray.toList off (a.eval y).cells.toList).toArray t' (0, 0) hbl
            exact this
        · cases hr
      · rename_i id size i j he
        rw [he] at rx
        generalize hv : a.eval x = vx at rx
        split at hr
        · rename_i e size' es hg
          split at hr
          · rename_i hsz
            obtain ⟨rfl, hj⟩ := hsz
            simp only [Option.map_eq_some_iff] at hr
            obtain ⟨z, hz, hr⟩ := hr
            cases hr
            cases rx with
            | eptr hρ =>
              rename_i b c
              obtain ⟨v0, us, how, ⟨hrep, huo⟩, hzs, hρ', hfp⟩ := h.objs id _ hg
              rw [hρ] at hρ'
              have hp0 : placeOf v0 = some (b, c) := (Option.some.inj hρ').symm
              obtain ⟨hl0, how2⟩ := how
              rcases how2 with ⟨rfl, _⟩ | ⟨g, cap, cur, rfl, hge, hbl, hnc, hmx, hcs, htk⟩
              · cases hp0
              · cases hp0
                have hil : i < es.length := (List.getElem?_eq_some_iff.1 hz).1
                have hroom : (i + 1) * size ≤ es.length * size := Nat.mul_le_mul_right _ hil
                rw [Nat.add_mul, Nat.one_mul] at hroom
                have hcap : es.length * size ≤ c * size := Nat.mul_le_mul_right _ hnc
                refine ⟨_, _, fun o ho => .inr ⟨store_run hn hbl hv hl (by omega) hone o ho, rfl⟩, ?_⟩
                refine OpOut.turn h hg ((hfp g).2 rfl) _ fun A' hp' => ⟨.slice (some ⟨g, 0, none⟩) es.length c, setV us (i * size + j) (a.eval y).cells.toList, ?_, ?_, ?_, hρ, hfp⟩
                · rw [List.length_set]
                  refine ⟨by rw [setV_length]; exact hl0, .inr ⟨g, c, _, rfl, hge, setRow_heap w g cur _ e (0, 0) hbl, hnc, hmx, by simp [setV_length]; exact hcs, ?_⟩⟩
                  rw [← htk]
                  exact setV_take _ _ _ _
                · rw [flat_set hzs hz (by omega)]
                  exact ⟨(hp'.reps hcr).setL (hp'.reps hrep) _, hone.setV huo _⟩
                · intro q hq
                  rcases List.mem_or_eq_of_mem_set hq with hq | hq
                  · exact hzs q hq
                  · rw [hq, setL_length]; exact hzs z (List.mem_of_getElem? hz)
          · cases hr
        · cases hr
      · cases hr
    · cases hr

theorem ok_mkslice (h : SimH X ρ fp hp w) (hs : ∀ t, RepV w (Av X hp fp) ρ (gets sl t) (a.tmps.getD t undef)) {t e : TypeId} {i : TypeInfo} {z : List SV} {x y : Operand} {x' y' : SX} (ht : X.P.underlying t = some (.slice e)) (hz : zeroOf X.P e = some z) (hi : X.P.info? e = some i) (hpos : 0 < i.size) (hx : cx N x = some x') (hy : cx N y = some y')
    {g : Nat → Option SObj} {nx nx' : Nat} {v : SV} {u : Upd} (hm : X.m ≤ nx) (hf : ρ nx = none) (hr : (SOp.mkslice e i.size i.bytes z x' y').run (·.ev sl) g nx = some (v, u, nx')) : MOk X ρ fp hp w a (.makeSlice t x y) nx v u := by
  have rx := cx_rep hx hs
  have ry := cx_rep hy hs
  simp only [SOp.run] at hr
  split at hr
  · rename_i l c he he2
    rw [he] at rx; rw [he2] at ry
    rw [rg_some] at hr
    obtain ⟨⟨h0, h1, h2, h3⟩, hr⟩ := hr
    cases hr
    generalize hv : a.eval x = vx at rx
    generalize hv2 : a.eval y = vy at ry
    cases rx; cases ry
    obtain ⟨i', zv, hi', hzv, hzs, hzl, hzo, hzr⟩ := zeroOf_spec hz
    rw [hi] at hi'; cases hi'
    obtain ⟨l, rfl⟩ := Int.eq_ofNat_of_zero_le h0
    obtain ⟨c, rfl⟩ := Int.eq_ofNat_of_zero_le (Int.le_trans h0 h1)
    have hmk := run_make (P := X.P) w t e i zv ht hi hzv .i64 .i64 (l : Int) (c : Int) h0 h1 (by rw [Int.mul_comm]; omega) (by simp [maxLen] at h2; omega)
    simp only [Int.toNat_natCast] at hmk ⊢
    have hmc : madeCells zv.cells (c * i.size) = (List.replicate c zv.cells.toList).flatten.toArray := by
      unfold madeCells; rw [← hzs]; exact cyc_flat c (by rw [hzs]; exact hpos)
    have hlc : l ≤ c := by omega
    have hpre : ((List.replicate c zv.cells.toList).flatten).take (l * i.size) = (List.replicate l zv.cells.toList).flatten := by
      obtain ⟨d, rfl⟩ := Nat.exists_eq_add_of_le hlc
      rw [List.replicate_append_replicate.symm, List.flatten_append, List.take_append_of_le_length (by simp [hzs]), List.take_of_length_le (by simp [hzs])]
    have := OpOut.row (X := X) (ρ := ρ) (fp := fp) (hp := hp) (w := w) h hm hf e i.size (es := List.replicate l z) (v' := .slice (some ⟨w.heap.size, 0, none⟩) l c) (vs := (List.replicate l zv.cells.toList).flatten) (al (rf w) (.cells (madeCells zv.cells (c * i.size)) e))
      ⟨by simp [hzs], .inr ⟨w.heap.size, c, _, by simp, Nat.zero_le _, Blk.new _ _ _, by simpa using hlc, by omega, size_madeCells _ _, by rw [hmc]; simpa using hpre⟩⟩ (fun k hk => by simp [Value.ownBlock] at hk; omega) (fun q hq => by rw [(List.mem_replicate.1 hq).2, hzl]) (replicate_flat (hzr (w := w) (A := Av X hp fp) (ρ := ρ)) l) (hzo.rep l)
    rw [List.length_replicate] at this
    exact ⟨_, _, fun o ho => .inl (by simp only [execOp, ho, hv, hv2, Sem.run_bind, hmk, Result.andThen_ok, Sem.run_pure]), this⟩
  · cases hr
/-- What an append takes. -/
theorem src_of (h : SimH X ρ fp hp w) {x : SV} {vx : Value} (rx : RepV w (Av X hp fp) ρ x vx) {size : Nat} {ys : List (List SV)} (hr : rowOf size (geth hp) x = some ys) (hpos : 0 < size) :
    ∃ b c news, vx = .slice b ys.length c ∧ (b = none → ys = [] ∧ c = 0) ∧ Reps w (Av X hp fp) ρ ys.flatten news ∧ Ones news ∧ (∀ q ∈ ys, q.length = size) ∧ ∀ ad, b = some ad → ∀ (j : Nat) u, news[j]? = some u → w.cell? (ad.add j) = some u := by
  unfold rowOf at hr
  split at hr
  · cases hr
    cases rx
    exact ⟨none, 0, [], rfl, fun _ => ⟨rfl, rfl⟩, Reps.nil, (fun v hv => by cases hv), (fun q hq => by cases hq), fun ad had => by cases had⟩
  · rename_i size' es
    split at hr
    rotate_left
    · cases hr
    rename_i hsz
    subst hsz
    cases hr
    cases rx with
    | view0 hc ha => exact ⟨_, _, [], rfl, fun e => ⟨rfl, ha e⟩, Reps.nil, (fun v hv => by cases hv), (fun q hq => by cases hq), fun _ _ j u hu => by simp at hu⟩
    | view cv hn hc hm hA hb hz h1 h2 ho =>
      rename_i b off n c
      have hfl := flat_len hz
      have hdm : ∀ j, j / size * size + j % size = j := fun j => by rw [Nat.mul_comm]; exact Nat.div_add_mod j size
      have get : ∀ j, j < ys.length * size → ∃ e x, ys[j / size]? = some e ∧ e[j % size]? = some x ∧ ys.flatten[j]? = some x := fun j hj => by
        have hi : j / size < ys.length := (Nat.div_lt_iff_lt_mul hpos).2 hj
        have hk : j % size < (ys[j / size]).length := by rw [hz _ (List.getElem_mem _)]; exact Nat.mod_lt _ hpos
        refine ⟨ys[j / size], (ys[j / size])[j % size], List.getElem?_eq_getElem hi, List.getElem?_eq_getElem hk, ?_⟩
        have := flat_get hz (List.getElem?_eq_getElem hi) (List.getElem?_eq_getElem hk)
        rwa [hdm j] at this
      have gl : ∀ (j : Nat) u, ((List.range (ys.length * size)).map fun k => cv (k / size) (k % size))[j]? = some u → j < ys.length * size ∧ u = cv (j / size) (j % size) := fun j u hu => by
        simp only [List.getElem?_map, Option.map_eq_some_iff] at hu
        obtain ⟨k, hk, rfl⟩ := hu
        obtain ⟨h3, h4⟩ := List.getElem?_eq_some_iff.1 hk
        simp at h3 h4; subst h4; exact ⟨h3, rfl⟩
      refine ⟨_, c, (List.range (ys.length * size)).map fun k => cv (k / size) (k % size), by rw [hn], fun e => (by cases e), ⟨by simp [hfl], fun j x u hx hu => ?_⟩, fun u hu => ?_, hz, fun ad had j u hu => ?_⟩
      · obtain ⟨hj, rfl⟩ := gl j u hu
        obtain ⟨e, x', he, hx', hf⟩ := get j hj
        rw [hx] at hf; cases hf
        exact (h2 _ _ _ _ he hx').lift
      · obtain ⟨j, hj⟩ := List.getElem?_of_mem hu
        obtain ⟨hj2, rfl⟩ := gl j u hj
        obtain ⟨e, x', he, hx', hf⟩ := get j hj2
        exact ho _ _ _ _ he hx'
      · cases had
        obtain ⟨hj, rfl⟩ := gl j u hu
        obtain ⟨e, x', he, hx', hf⟩ := get j hj
        have := h1 _ _ _ _ he hx'
        rwa [Nat.add_assoc, hdm j, ← addr_add] at this
  · rename_i id n
    split at hr
    · rename_i e' size' es hg
      split at hr
      rotate_left
      · cases hr
      rename_i hsz
      subst hsz
      rw [rg_some] at hr
      obtain ⟨hle, hr⟩ := hr
      cases hr
      obtain ⟨v0, us, how, ⟨hrep, huo⟩, hzs, hρ', hfp⟩ := h.objs id _ hg
      have hfl := flat_len hzs
      cases rx with
      | own0 hρ =>
        exact ⟨none, 0, [], by simp, (fun _ => by simp), by simpa using Reps.nil, (fun v hv => by cases hv), (fun q hq => by simp at hq), fun ad had => by cases had⟩
      | own hρ hn hm =>
        rename_i b c
        rw [hρ] at hρ'
        have hp0 : placeOf v0 = some (b, c) := (Option.some.inj hρ').symm
        obtain ⟨hv0, hcell, hlt, hnc, hmx⟩ := row_cells how hp0
        have htf : (es.take n).flatten = es.flatten.take (n * size) := by
          have h1 : es.flatten = (es.take n).flatten ++ (es.drop n).flatten := by rw [← List.flatten_append, List.take_append_drop]
          have h2 : (es.take n).flatten.length = n * size := by rw [flat_len (fun e he => hzs e (List.mem_of_mem_take he))]; simp; rw [Nat.min_eq_left hle]
          rw [h1, ← h2, List.take_left]
        refine ⟨some ⟨b, 0, none⟩, c, us.take (n * size), by simp [Nat.min_eq_left hle], fun e => (by cases e), ?_, fun v hv => huo v (List.mem_of_mem_take hv), fun q hq => hzs q (List.mem_of_mem_take hq), fun ad had j u hu => ?_⟩
        · rw [htf]
          have := hrep.sub 0 (n * size)
          simpa using this
        · cases had
          rw [addr_add, Nat.zero_add]
          rw [List.getElem?_take] at hu
          split at hu
          · exact hcell j u hu
          · cases hu
    · cases hr
  · cases hr

theorem step_grown {A : Nat → Prop} {w w' : World} {row : Option Nat} (hg : w.grownBy w' row) (hr : ∀ k, row = some k → A k) : Step A w w' := .grown hg hr
theorem ok_app (h : SimH X ρ fp hp w) (hs : ∀ t, RepV w (Av X hp fp) ρ (gets sl t) (a.tmps.getD t undef)) {t e : TypeId} {i : TypeInfo} {z : List SV} {s x : Operand} {s' x' : SX} (ht : X.P.underlying t = some (.slice e)) (hz : zeroOf X.P e = some z) (hi : X.P.info? e = some i) (hpos : 0 < i.size) (hss : cx N s = some s') (hx : cx N x = some x')
    {nx nx' : Nat} {v : SV} {u : Upd} (hm : X.m ≤ nx) (hf : ρ nx = none) (hr : (SOp.app e i.size i.bytes s' x').run (·.ev sl) (geth hp) nx = some (v, u, nx')) : MOk X ρ fp hp w a (.call { callee := .builtin .append, args := #[s, x], argTypes := #[t, t] }) nx v u := by
  have rs := cx_rep hss hs
  have rx := cx_rep hx hs
  obtain ⟨i', zv, hi', hzv, hzs, hzl, hzo, hzr⟩ := zeroOf_spec hz
  rw [hi] at hi'; cases hi'
  simp only [SOp.run] at hr
  split at hr
  · cases hr
  · rename_i ys hys
    obtain ⟨b, c, news, hvx, hnone, hnr, hno, hyz, hcell⟩ := src_of h rx hys hpos
    have hnl : news.length = ys.length * i.size := by rw [← hnr.1, flat_len hyz]
    -- the append itself
    have run : ∀ (v0 : Value) (n : Nat) (vs : List Value), w.ownsRow 0 e i.size v0 n vs → (n + ys.length ≤ maxLen ∧ (n + ys.length) * i.bytes ≤ 140737488355328) → a.eval s = v0 →
        ∃ v' w', (∀ o : Oper, o.op = .call { callee := .builtin .append, args := #[s, x], argTypes := #[t, t] } → (execOp a.eval o).run X.P w = .ok (.value v') w') ∧ w'.ownsRow 0 e i.size v' (n + ys.length) (vs ++ news) ∧ w.grownBy w' v0.ownBlock ∧ (v'.ownBlock = v0.ownBlock ∨ v'.ownBlock = some w.heap.size) := by
      intro v0 n vs how hb hv0
      cases b with
      | none =>
        obtain ⟨hy0, hc0⟩ := hnone rfl
        subst hy0 hc0
        have hn0 : news = [] := List.eq_nil_of_length_eq_zero (by simpa using hnl)
        subst hn0
        refine ⟨v0, w, fun o ho => ?_, by simpa using how, World.grownBy.refl _ _, .inl rfl⟩
        have := run_append_owned_none (P := X.P) (w := w) 0 t o.type e i i.size ht hi v0 n vs how
        simp only [List.length_nil] at hvx
        simp [execOp, ho, resolve, invoke, builtin, hv0, hvx, this]
      | some ad =>
        have hrun := fun ty => run_append_own_at (P := X.P) w 0 t ty e i zv i.size i.bytes ht hi hzv rfl rfl hzs hpos v0 n vs how ad ys.length c news hnl (hcell ad rfl) hno hb.1 hb.2 (Nat.zero_le _)
        obtain ⟨v', w', h1, h2, h3, _, h5⟩ := hrun 0
        refine ⟨v', w', fun o ho => ?_, h2, h3, h5⟩
        have : (Builtin.append_ #[t, t] o.type #[v0, .slice (some ad) ys.length c]).run X.P w = .ok v' w' := h1
        simp [execOp, ho, resolve, invoke, builtin, hv0, hvx, this]
    split at hr
    · rename_i he
      rw [he] at rs
      rw [rg_some] at hr
      obtain ⟨hb, hr⟩ := hr
      cases hr
      generalize hv : a.eval s = vs at rs
      cases rs
      obtain ⟨v', w', h1, h2, h3, h5⟩ := run _ 0 [] (World.ownsRow_nil _ _ _ _) (by simpa using hb) hv
      rw [Nat.zero_add, List.nil_append] at h2
      refine ⟨v', w', fun o ho => .inl (h1 o ho), ?_⟩
      refine OpOut.row h hm hf e i.size ⟨h3.os, h3.tape, h3.output, h3.size, fun k hk => h3.block k hk (by simp [Value.ownBlock])⟩ h2 (fun k hk => ?_) hyz hnr hno
      rcases h5 with h5 | h5
      · rw [hk] at h5; simp [Value.ownBlock] at h5
      · rw [hk] at h5; cases h5; exact Nat.le_refl _
    · rename_i id n he
      rw [he] at rs
      split at hr
      · rename_i e' size' es hg
        split at hr
        · rename_i hc
          obtain ⟨rfl, rfl, rfl⟩ := hc
          rw [rg_some] at hr
          obtain ⟨hb, hr⟩ := hr
          cases hr
          obtain ⟨v0, us, how, ⟨hrep, huo⟩, hzs', hρ', hfp⟩ := h.objs id _ hg
          have hv0 : a.eval s = v0 := by
            generalize a.eval s = vs at rs
            rcases how.2 with ⟨rfl, hn0⟩ | ⟨g, cap, cur, rfl, _⟩
            · generalize hes : es.length = m at rs
              cases rs with
              | own0 hρ => rfl
              | own hρ => rw [hρ] at hρ'; cases hρ'
            · generalize hes : es.length = m at rs
              cases rs with
              | own0 hρ => rw [hρ] at hρ'; cases hρ'
              | own hρ => rw [hρ] at hρ'; cases hρ'; rfl
          obtain ⟨v', w', h1, h2, h3, h5⟩ := run v0 es.length us how hb hv0
          refine ⟨v', w', fun o ho => .inl (h1 o ho), ?_⟩
          have hne : id ≠ nx := fun e => by subst e; rw [hf] at hρ'; cases hρ'
          have hfz : ∀ q ∈ es ++ ys, q.length = i.size := fun q hq => (List.mem_append.1 hq).elim (hzs' q) (hyz q)
          obtain ⟨q1, q2⟩ := h.change (hp' := puth (delh hp id) nx (.row e i.size (es ++ ys))) (ρ' := fun j => if j = nx then some (placeOf v') else ρ j) (fp' := fun j => if j = nx then fun k => v'.ownBlock = some k else fp j) (S := fun k => v0.ownBlock = some k) (fun j => j = id) (fun j => j = nx)
            (.grown h3 fun k hk => hk) (fun k hk => ⟨id, _, hg, (hfp k).2 hk, rfl⟩)
            (fun j oj hgj hj => by
              rw [geth_puth, if_neg hj, geth_delh] at hgj
              split at hgj
              · cases hgj
              · rename_i hji; exact ⟨hgj, hji, by simp [hj]⟩)
            (fun j q hq => by have hj : j ≠ nx := fun e => by rw [e, hf] at hq; cases hq
                              simp [hj, hq])
            (fun j hj => by have : j ≠ nx := by omega
                            simp [this])
            (fun j oj hj _ k hk => by
              subst hj
              simp only [if_true] at hk
              refine ⟨?_, (h2.lt k hk).2⟩
              rcases h5 with h5 | h5
              · exact .inl ⟨id, _, hg, (hfp k).2 (by rw [← h5]; exact hk), rfl⟩
              · rw [hk] at h5; cases h5; exact .inr (Nat.le_refl _))
            (fun j k _ _ hj hk hjk => absurd (hj.trans hk.symm) hjk)
            (fun hpres j oj hj hgj => by
              subst hj
              rw [geth_puth, if_pos rfl] at hgj
              cases hgj
              simp only [if_true]
              refine ⟨v', us ++ news, by rw [List.length_append]; exact h2, ⟨?_, fun q hq => (List.mem_append.1 hq).elim (huo q) (hno q)⟩, hfz, by simp, fun k => Iff.rfl⟩
              rw [List.flatten_append]
              exact (hpres.reps hrep).append (hpres.reps hnr))
          refine ⟨_, _, q1, ?_, q2, fun j hj => ?_⟩
          · have hl2 : (es ++ ys).length = es.length + ys.length := List.length_append
            rw [← hl2] at h2 ⊢
            rcases h2.2 with ⟨rfl, hn⟩ | ⟨g, cap, cur, rfl, _, _, hn, hmx, _⟩
            · rw [hn]; exact .own0 (by simp [placeOf])
            · exact .own (by simp [placeOf]) hn hmx
          · by_cases hjn : j = nx
            · exact .inr hjn
            · simp only [if_neg hjn] at hj; exact .inl hj
        · cases hr
      · cases hr
    · cases hr
end Go.Proofs.Ytfakdapglbgokaa

/-
  The plain machine's operations do what the model's do, all of them; states, code. No condition.
-/
namespace Go.Proofs.Ytfakdapglbgokaa
set_option linter.all false
open Go.RowKit
variable {X : Cx} {ρ : Plan_} {fp : Nat → Nat → Prop} {hp : Hp} {w : World} {N : Nat} {a : Act} {sl : Sl}

theorem bi_ok (h : SimH X ρ fp hp w) (hs : ∀ t, RepV w (Av X hp fp) ρ (gets sl t) (a.tmps.getD t undef)) {b : Builtin} {args : Array Operand} {tys : Array TypeId} {so : SOp} (hc : cbi X.P N b args.toList tys.toList = some so) {nx nx' : Nat} {v : SV} {u : Upd} (hm : X.m ≤ nx) (hf : ρ nx = none)
    (hr : so.run (·.ev sl) (geth hp) nx = some (v, u, nx')) : MOk X ρ fp hp w a (.call { callee := .builtin b, args, argTypes := tys }) nx v u := by
  obtain ⟨args⟩ := args
  obtain ⟨tys⟩ := tys
  simp only at hc
  have pk : ∀ {op : Op} {v : SV} {u : Upd}, (u = [] ∧ POk X.P w (Av X hp fp) ρ a op v) → MOk X ρ fp hp w a op nx v u := by
    rintro op v u ⟨rfl, h1⟩; exact h1.mok h
  unfold cbi at hc
  split at hc <;> (try simp only [Option.bind_eq_bind, Option.bind_eq_some_iff, Option.some.injEq, reduceCtorEq] at hc)
  · split at hc
    · rename_i ht
      simp only [Option.bind_eq_some_iff, Option.some.injEq] at hc
      obtain ⟨x, hx, rfl⟩ := hc
      exact pk (ok_len hs hx (.inl ht) (by simp [ht]) hr)
    · rename_i e ht
      simp only [Option.bind_eq_some_iff, Option.some.injEq] at hc
      obtain ⟨x, hx, rfl⟩ := hc
      exact pk (ok_len hs hx (.inr ⟨_, ht⟩) (by simp [ht]) hr)
    · rename_i n e ht
      simp only [Option.some.injEq] at hc
      subst hc
      simp only [SOp.run] at hr; cases hr
      refine pk ⟨rfl, _, fun o ho => ?_, .int⟩
      simp [execOp, ho, resolve, invoke, builtin, Builtin.len_, run_underlying ht, goInt]
    · cases hc
  · split at hc
    · rename_i e ht
      simp only [Option.bind_eq_some_iff] at hc
      obtain ⟨i, hi, z, hz, hc⟩ := hc
      split at hc
      · rename_i hcc
        obtain ⟨rfl, hpos⟩ := hcc
        simp only [Option.bind_eq_some_iff, Option.some.injEq] at hc
        obtain ⟨s, hss, x, hx, rfl⟩ := hc
        exact ok_app h hs ht hz hi hpos hss hx hm hf hr
      · cases hc
    · cases hc
  · obtain ⟨x, hx, y, hy, rfl⟩ := hc
    exact pk (ok_mm (mx := false) hs hx hy hr)
  · obtain ⟨x, hx, y, hy, rfl⟩ := hc
    exact pk (ok_mm (mx := true) hs hx hy hr)
theorem op_ok (h : SimH X ρ fp hp w) (hs : ∀ t, RepV w (Av X hp fp) ρ (gets sl t) (a.tmps.getD t undef)) {ty : TypeId} {op : Op} {so : SOp} (hc : cop X.P N ty op = some so) {nx nx' : Nat} {v : SV} {u : Upd} (hm : X.m ≤ nx) (hf : ρ nx = none)
    (hr : so.run (·.ev sl) (geth hp) nx = some (v, u, nx')) : MOk X ρ fp hp w a op nx v u := by
  have hobj : ∀ id o, geth hp id = some o → ∃ fp', ObjRep w (Av X hp fp) ρ id fp' o := fun id o ho => ⟨_, h.objs id o ho⟩
  have pk : ∀ {v : SV} {u : Upd}, (u = [] ∧ POk X.P w (Av X hp fp) ρ a op v) → MOk X ρ fp hp w a op nx v u := by
    rintro v u ⟨rfl, h1⟩; exact h1.mok h
  unfold cop at hc
  split at hc <;> (try simp only [Option.bind_eq_bind, Option.bind_eq_some_iff, Option.some.injEq, reduceCtorEq] at hc)
  · obtain ⟨y, hy, rfl⟩ := hc
    simp only [SOp.run] at hr; cases hr
    exact pk ⟨rfl, (ok_mv hs hy).1⟩
  · obtain ⟨y, hy, rfl⟩ := hc
    simp only [SOp.run] at hr; cases hr
    exact pk ⟨rfl, (ok_mv hs hy).2⟩
  · obtain ⟨c, h1, x, h2, y, h3, rfl⟩ := hc
    exact pk (ok_pick hs h1 h2 h3 hr)
  · obtain ⟨z, hz, rfl⟩ := hc
    exact ok_alloc h hz hm hf hr
  · obtain ⟨x, hx, rfl⟩ := hc
    exact ok_box h hs hx hm hf hr
  · obtain ⟨z, hz, pl, hpl, q, hq, rfl⟩ := hc
    exact pk (ok_build hs hz hpl hq hr)
  · split at hc
    · rename_i e ht
      simp only [Option.bind_eq_bind, Option.bind_eq_some_iff, Option.some.injEq] at hc
      obtain ⟨z, hz, q, hq, size, hsz, hc⟩ := hc
      split at hc
      · cases hc
        exact ok_mkrow h hs ht hz hsz hq ‹_› hm hf hr
      · cases hc
    · cases hc
  · obtain ⟨x, hx, b, hb, hc⟩ := hc
    cases b with
    | true =>
      simp only [if_true, Option.bind_eq_some_iff, Option.some.injEq] at hc
      obtain ⟨n, hn, rfl⟩ := hc
      exact pk (ok_loads hs hobj hx hb hn hr)
    | false =>
      simp only [Bool.false_eq_true, if_false, Option.some.injEq] at hc
      subst hc
      exact pk (ok_load hs hobj hx hb hr)
  · obtain ⟨n, hn, x, hx, y, hy, rfl⟩ := hc
    exact ok_store h hs hx hy hn hr
  · obtain ⟨x, hx, rfl⟩ := hc
    exact pk (ok_nilc hs hx hr)
  · obtain ⟨x, hx, y, hy, hc⟩ := hc
    split at hc
    · cases hc
      exact pk (ok_bin hs hx hy hr)
    · split at hc
      · split at hc
        · rename_i k hk; cases hc
          exact pk (ok_eq (neg := false) hs hx hy hk hr)
        · simp only [Option.map_eq_some_iff] at hc
          obtain ⟨ks, hk, rfl⟩ := hc
          exact pk (ok_eqs (neg := false) hs hx hy hk hr)
      · split at hc
        · rename_i k hk; cases hc
          exact pk (ok_eq (neg := true) hs hx hy hk hr)
        · simp only [Option.map_eq_some_iff] at hc
          obtain ⟨ks, hk, rfl⟩ := hc
          exact pk (ok_eqs (neg := true) hs hx hy hk hr)
      · cases hc
  · obtain ⟨x, hx, rfl⟩ := hc
    exact pk (ok_un hs hx hr)
  · split at hc
    · rename_i j k h1 h2
      simp only [Option.bind_eq_some_iff, Option.some.injEq] at hc
      obtain ⟨x, hx, rfl⟩ := hc
      exact pk (ok_conv hs hx h1 h2 hr)
    · cases hc
  · split at hc
    · rename_i e ht
      simp only [Option.bind_eq_bind, Option.bind_eq_some_iff, Option.some.injEq] at hc
      obtain ⟨z, hz, i, hi, hc⟩ := hc
      split at hc
      · simp only [Option.bind_eq_some_iff, Option.some.injEq] at hc
        obtain ⟨l, hl, c, hcc, rfl⟩ := hc
        exact ok_mkslice h hs ht hz hi ‹_› hl hcc hm hf hr
      · cases hc
    · cases hc
  · obtain ⟨x, hx, lo, hlo, hi, hhi, hc⟩ := hc
    split at hc
    · rename_i e ht
      simp only [Option.bind_eq_some_iff, Option.some.injEq] at hc
      obtain ⟨n, hn, rfl⟩ := hc
      exact pk (ok_slice hs hx hlo hhi ht hn hr)
    · rename_i ht
      cases hc
      exact pk (ok_slstr hs hx hlo hhi ht hr)
    · cases hc
  · split at hc
    · rename_i fs ht
      simp only [Option.bind_eq_bind, Option.bind_eq_some_iff, Option.some.injEq] at hc
      obtain ⟨f, hf', hc⟩ := hc
      split at hc
      · cases hc
      · rename_i h0
        simp only [Option.bind_eq_some_iff, Option.some.injEq] at hc
        obtain ⟨x', hx, rfl⟩ := hc
        unfold fieldOf at hf'
        rw [ht] at hf'
        simp only at hf'
        split at hf'
        · rename_i fd hfd
          simp only [Option.map_eq_some_iff] at hf'
          obtain ⟨n, hn, rfl⟩ := hf'
          exact pk (ok_faddr hs hx ht hfd hn h0 hr)
        · cases hf'
    · cases hc
  · split at hc
    · rename_i fs ht
      simp only [Option.bind_eq_bind, Option.bind_eq_some_iff, Option.some.injEq] at hc
      obtain ⟨f, hf', b, hb, x', hx, rfl⟩ := hc
      unfold fieldOf at hf'
      rw [ht] at hf'
      simp only at hf'
      split at hf'
      · rename_i fd hfd
        simp only [Option.map_eq_some_iff] at hf'
        obtain ⟨n, hn, rfl⟩ := hf'
        exact pk (ok_field hs hx ht hfd hn hb hr)
      · cases hf'
    · cases hc
  · obtain ⟨x, hx, i, hi, hc⟩ := hc
    split at hc
    · rename_i e ht
      simp only [Option.bind_eq_some_iff, Option.some.injEq] at hc
      obtain ⟨n, hn, rfl⟩ := hc
      exact pk (ok_iaddr hs hx hi ht hn hr)
    · rename_i n e ht
      simp only [Option.bind_eq_some_iff, Option.some.injEq] at hc
      obtain ⟨m, hn, rfl⟩ := hc
      exact pk (ok_iarr hs hx hi ht hn hr)
    · cases hc
  · obtain ⟨x, hx, i, hi, hc⟩ := hc
    split at hc
    · rename_i ht
      cases hc
      exact pk (ok_idxs hs hx hi ht hr)
    · rename_i n e ht
      simp only [Option.bind_eq_some_iff, Option.some.injEq] at hc
      obtain ⟨m, hn, b, hb, rfl⟩ := hc
      exact pk (ok_idx hs hx hi ht hn hb hr)
    · cases hc
  · obtain ⟨x, hx, rfl⟩ := hc
    exact pk (ok_extr hs hx hr)
  · obtain ⟨x, hx, y, hy, rfl⟩ := hc
    exact pk (ok_mkfn hs hx hy hr)
  · rename_i b args tys
    exact bi_ok h hs hc hm hf hr
end Go.Proofs.Ytfakdapglbgokaa
