/-
  Texts joined: XShE XShF XShG XShH XShI XShM XShN XShO XShP XShAb XCcod. No condition.
-/
import Derived.Great.BuildSlice
import Derived.ArgAppend
import Derived.Orders
import Derived.Test.YtbefmmajjfijnaaProg
import Derived.Test.YtbefmmajjfijnaaCodecTornK1
namespace Go.Proofs.Ytbefmmajjfijnaa
set_option linter.all false
open Go.RowKit
theorem ObjRep.place {w : World} {A : Nat → Prop} {ρ : qab1} {id : Nat} {fp : Nat → Prop} {o : SObj} (h : ObjRep w A ρ id fp o) : ρ id ≠ none := by
 cases o with
 | cells t cs => obtain ⟨b, c, vs, h, _⟩ := h; rw [h]; simp
 | row e size es => obtain ⟨v, vs, _, _, _, h, _⟩ := h; rw [h]; simp
 | abs I => obtain ⟨b, c, h, _⟩ := h; rw [h]; simp
theorem qaka {w w' : World} {e size n : Nat} {v : Value} {xs : List Value} (h : RowP w e size v n xs) (hb : ∀ k, v.ownBlock = some k → w'.heap[k]? = w.heap[k]?) : RowP w' e size v n xs := by
 refine ⟨h.1, ?_⟩
 rcases h.2 with h2 | ⟨g, cap, cur, fz, rfl, hh, r⟩
 ·exact .inl h2
 ·exact .inr ⟨g, cap, cur, fz, rfl, by rw [hb g rfl]; exact hh, r⟩
theorem ObjRep.mono {w w' : World} {A A' : Nat → Prop} {ρ ρ' : qab1} {id : Nat} {fp : Nat → Prop} {o : SObj} (h : ObjRep w A ρ id fp o) (hp : Pres w A ρ w' A' ρ') (hb : ∀ k, fp k → w'.heap[k]? = w.heap[k]?) : ObjRep w' A' ρ' id fp o := by
 cases o with
 | cells t cs =>
  obtain ⟨b, c, vs, h1, h2, h3, h4⟩ := h
  exact ⟨b, c, vs, hp.pl _ _ h1, (hb b ((h4 b).2 rfl)).trans h2, ⟨hp.reps h3.1, h3.2⟩, h4⟩
 | row e size es =>
  obtain ⟨v, vs, h1, h2, h3, h4, h5⟩ := h
  exact ⟨v, vs, qaka h1 fun k hk => hb k ((h5 k).2 hk), ⟨hp.reps h2.1, h2.2⟩, h3, hp.pl _ _ h4, h5⟩
 | abs I =>
  obtain ⟨b, c, h1, h2⟩ := h
  exact ⟨b, c, hp.pl _ _ h1, I.keep h2 hp.step hp.av hb⟩
theorem ObjRep.lt {X : Cx} {ρ : qab1} {fp : Nat → Nat → Prop} {hp : Hp} {w : World} (h : SimH X ρ fp hp w) {id : Nat} {o : SObj} (ho : geth hp id = some o) : ∀ k, fp id k → k < w.heap.size := fun k hk => (h.turn id o ho k hk).2
theorem SimH.none_of {X : Cx} {ρ : qab1} {fp : Nat → Nat → Prop} {hp : Hp} {w : World} (h : SimH X ρ fp hp w) {id : Nat} (hn : ρ id = none) : geth hp id = none := by
 cases e : geth hp id with
 | none => rfl
 | some o => exact absurd hn (h.objs id o e).place
theorem SimH.change {X : Cx} {ρ ρ' : qab1} {fp fp' : Nat → Nat → Prop} {hp hp' : Hp} {w w' : World} (h : SimH X ρ fp hp w) {S : Nat → Prop} (Ch New : Nat → Prop) (hst : Step S w w')
  (hS : ∀ k, S k → ∃ id o, geth hp id = some o ∧ fp id k ∧ Ch id)
  (hold : ∀ id o, geth hp' id = some o → ¬ New id → geth hp id = some o ∧ ¬ Ch id ∧ fp' id = fp id)
  (hρ : ∀ id p, ρ id = some p → ρ' id = some p) (hkeep : ∀ id, id < X.m → ρ' id = ρ id)
  (hfp : ∀ id o, New id → geth hp' id = some o → ∀ k, fp' id k → ((∃ j o, geth hp j = some o ∧ fp j k ∧ Ch j) ∨ w.heap.size ≤ k) ∧ k < w'.heap.size)
  (hdisj : ∀ id id' o o', New id → New id' → id ≠ id' → geth hp' id = some o → geth hp' id' = some o' → ∀ k, fp' id k → ¬ fp' id' k)
  (hnew : Pres w (Av X hp fp) ρ w' (Av X hp' fp') ρ' → ∀ id o, New id → geth hp' id = some o → ObjRep w' (Av X hp' fp') ρ' id (fp' id) o) :
  SimH X ρ' fp' hp' w' ∧ Pres w (Av X hp fp) ρ w' (Av X hp' fp') ρ' := by
 have hSA : ∀ k, S k → Av X hp fp k := fun k hk => by obtain ⟨id, o, h1, h2, _⟩ := hS k hk; exact .inr ⟨id, o, h1, h2⟩
 have hpres : Pres w (Av X hp fp) ρ w' (Av X hp' fp') ρ' := by
  refine ⟨hst.mono hSA, fun k hk hlt => ?_, hρ⟩
  rcases hk with hk | ⟨id, o, h1, h2⟩
  ·exact .inl hk
  ·by_cases hn : New id
   ·rcases (hfp id o hn h1 k h2).1 with ⟨j, o', h3, h4, _⟩ | h3
    ·exact .inr ⟨j, o', h3, h4⟩
    ·exact absurd hlt (Nat.not_lt_of_le h3)
   ·obtain ⟨h3, _, h4⟩ := hold id o h1 hn
    exact .inr ⟨id, o, h3, by rw [← h4]; exact h2⟩
 have hsame : ∀ id o, geth hp id = some o → ¬ Ch id → ∀ k, fp id k → w'.heap[k]? = w.heap[k]? := fun id o h1 hc k hk => by
  refine hst.block k (h.turn id o h1 k hk).2 fun hs => ?_
  obtain ⟨j, o', h2, h3, h4⟩ := hS k hs
  have hne : id ≠ j := fun e => hc (e ▸ h4)
  exact h.disj id j o o' hne h1 h2 k hk h3
 refine ⟨⟨fun id o h1 => ?_, fun id id' o o' hne h1 h2 k hk hk' => ?_, fun id o h1 k hk => ?_, ?_, fun id hid => (hkeep id hid).trans (h.keep id hid)⟩, hpres⟩
 ·by_cases hn : New id
  ·exact hnew hpres id o hn h1
  ·obtain ⟨h2, h3, h4⟩ := hold id o h1 hn
   rw [h4]
   exact (h.objs id o h2).mono hpres (hsame id o h2 h3)
 ·by_cases hn : New id
  ·by_cases hn' : New id'
   ·exact hdisj id id' o o' hn hn' hne h1 h2 k hk hk'
   ·obtain ⟨h3, h4, h5⟩ := hold id' o' h2 hn'
    rw [h5] at hk'
    rcases (hfp id o hn h1 k hk).1 with ⟨j, oj, h6, h7, h8⟩ | h6
    ·exact h.disj id' j o' oj (fun e => h4 (e ▸ h8)) h3 h6 k hk' h7
    ·exact absurd (h.turn id' o' h3 k hk').2 (Nat.not_lt_of_le h6)
  ·obtain ⟨h3, h4, h5⟩ := hold id o h1 hn
   rw [h5] at hk
   by_cases hn' : New id'
   ·rcases (hfp id' o' hn' h2 k hk').1 with ⟨j, oj, h6, h7, h8⟩ | h6
    ·exact h.disj id j o oj (fun e => h4 (e ▸ h8)) h3 h6 k hk h7
    ·exact absurd (h.turn id o h3 k hk).2 (Nat.not_lt_of_le h6)
   ·obtain ⟨h6, _, h7⟩ := hold id' o' h2 hn'
    rw [h7] at hk'
    exact h.disj id id' o o' hne h3 h6 k hk hk'
 ·by_cases hn : New id
  ·obtain ⟨h2, h3⟩ := hfp id o hn h1 k hk
   refine ⟨?_, h3⟩
   rcases h2 with ⟨j, oj, h4, h5, _⟩ | h4
   ·exact (h.turn j oj h4 k h5).1
   ·exact .inr (Nat.le_trans h.step.size h4)
  ·obtain ⟨h2, _, h4⟩ := hold id o h1 hn
   rw [h4] at hk
   exact ⟨(h.turn id o h2 k hk).1, Nat.lt_of_lt_of_le (h.turn id o h2 k hk).2 hst.size⟩
 ·refine ⟨hst.os.trans h.step.os, hst.tape.trans h.step.tape, hst.output.trans h.step.output, Nat.le_trans h.step.size hst.size, fun k hk hM => ?_⟩
  rw [← h.step.block k hk hM]
  refine hst.block k (Nat.lt_of_lt_of_le hk h.step.size) fun hs => ?_
  obtain ⟨id, o, h1, h2, _⟩ := hS k hs
  rcases (h.turn id o h1 k h2).1 with h3 | h3
  ·exact hM h3
  ·exact absurd hk (Nat.not_lt_of_le h3)
theorem RowP.lt {w : World} {e size n : Nat} {v : Value} {vs : List Value} (h : RowP w e size v n vs) (k : Nat) (hk : v.ownBlock = some k) : 0 ≤ k ∧ k < w.heap.size := by
 rcases h.2 with ⟨rfl, _⟩ | ⟨g, cap, cur, fz, rfl, hh, _⟩
 ·simp [Value.ownBlock] at hk
 ·simp only [Value.ownBlock, Option.some.injEq] at hk
  subst hk
  exact ⟨Nat.zero_le _, (Array.getElem?_eq_some_iff.1 hh).1⟩
theorem SimH.add {X : Cx} {ρ : qab1} {fp : Nat → Nat → Prop} {hp : Hp} {w w' : World} (h : SimH X ρ fp hp w) {nx : Nat} (hm : X.m ≤ nx) (hf : ρ nx = none) (o : SObj) (p : Pl) (F : Nat → Prop) (hb : Below w.heap.size w w')
  (hF : ∀ k, F k → w.heap.size ≤ k ∧ k < w'.heap.size)
  (hnew : ∀ A' ρ', Pres w (Av X hp fp) ρ w' A' ρ' → ρ' nx = some p → ObjRep w' A' ρ' nx F o) :
  ∃ ρ' fp', SimH X ρ' fp' (puth hp nx o) w' ∧ Pres w (Av X hp fp) ρ w' (Av X (puth hp nx o) fp') ρ' ∧ ρ' nx = some p ∧ ∀ id, ρ' id ≠ none → ρ id ≠ none ∨ id = nx := by
 have hn := h.none_of hf
 obtain ⟨h1, h2⟩ := h.change (hp' := puth hp nx o) (ρ' := fun id => if id = nx then some p else ρ id) (fp' := fun id => if id = nx then F else fp id) (S := fun _ => False) (fun _ => False) (fun id => id = nx) (.of hb) (fun _ h => h.elim)
  (fun id o' hg hne => ⟨by rw [qaco, if_neg hne] at hg; exact hg, fun h => h, by simp [hne]⟩)
  (fun id q hq => by have hne : id ≠ nx := fun e => by rw [e, hf] at hq; cases hq
                     simp [hne, hq])
  (fun id hid => by have hne : id ≠ nx := by omega
                    simp [hne])
  (fun id o' hi _ k hk => by subst hi; simp only [if_true] at hk; exact ⟨.inr (hF k hk).1, (hF k hk).2⟩)
  (fun id id' o' o'' hi hi' hne => absurd (hi.trans hi'.symm) hne)
  (fun hpres id o' hi hg => by
   subst hi
   rw [qaco, if_pos rfl] at hg
   cases hg
   simp only [if_true]
   exact hnew _ _ hpres (by simp))
 exact ⟨_, _, h1, h2, by simp, fun id hid => by by_cases e : id = nx <;> simp_all⟩
def MOk (X : Cx) (ρ : qab1) (fp : Nat → Nat → Prop) (hp : Hp) (w : World) (a : Act) (op : Op) (nx : Nat) (v : SV) (u : Upd) : Prop := ∃ v' w', (∀ o : Oper, o.op = op → Yld ((execOp a.eval o).run X.P w) v' w') ∧ OpOut X ρ fp hp w nx u v v' w'
theorem POk.mok {nx : Nat} {X : Cx} {ρ : qab1} {fp : Nat → Nat → Prop} {hp : Hp} {w : World} {a : Act} {op : Op} {v : SV} (h : SimH X ρ fp hp w) (hp' : POk X.P w (Av X hp fp) ρ a op v) : MOk X ρ fp hp w a op nx v [] := by
 obtain ⟨v', h1, h2⟩ := hp'
 exact ⟨v', w, fun o ho => .inl (h1 o ho), .same h h2⟩
variable {X : Cx} {ρ : qab1} {fp : Nat → Nat → Prop} {hp : Hp} {w : World} {N : Nat} {a : Act} {sl : Sl}
theorem OpOut.cells (h : SimH X ρ fp hp w) {nx : Nat} (hm : X.m ≤ nx) (hf : ρ nx = none) (t : TypeId) {cs : List SV} {vs : List Value} (hr : Reps w (Av X hp fp) ρ cs vs) (hone : Ones vs) :
  OpOut X ρ fp hp w nx [(nx, some (.cells t cs))] (.ptr nx 0) (.pointer (some ⟨w.heap.size, 0, none⟩)) (w.alloc (.cells vs.toArray t)) := by
 obtain ⟨ρ', fp', h1, h2, h3, h4⟩ := h.add hm hf (.cells t cs) (some (w.heap.size, 0)) (fun k => k = w.heap.size) (al (rf w) (.cells vs.toArray t)) (fun k hk => by subst hk; simp) fun A' ρ' hp' hpl => ⟨_, _, vs, hpl, Blk.new _ _ _, ⟨hp'.reps hr, hone⟩, fun k => Iff.rfl⟩
 exact ⟨ρ', fp', h1, .ptr h3, h2, h4⟩
theorem qa25 (h : SimH X ρ fp hp w) {t : TypeId} {z : List SV} (hz : qafh X.P t = some z) {g : Nat → Option SObj} {nx nx' : Nat} {v : SV} {u : Upd} (hm : X.m ≤ nx) (hf : ρ nx = none)
  (hr : (SOp.alloc t z).run (·.ev sl) g nx = some (v, u, nx')) : MOk X ρ fp hp w a (.alloc t) nx v u := by
 simp only [SOp.run] at hr
 cases hr
 obtain ⟨i, zv, hi, hzv, hzs, hzl, hzo, hzr⟩ := qadi hz
 refine ⟨_, _, fun o ho => .inl ?_, OpOut.cells h hm hf t (hzr (w := w) (A := Av X hp fp) (ρ := ρ)) hzo⟩
 simp [execOp, ho, Instr.alloc, zeroValue, typeInfo, hi, hzv, newVar, newRow]
theorem ok_box (h : SimH X ρ fp hp w) (hs : ∀ t, RepV w (Av X hp fp) ρ (gets sl t) (a.tmps.getD t undef)) {t : TypeId} {x : Operand} {x' : SX} (hx : cx N x = some x') {g : Nat → Option SObj} {nx nx' : Nat} {v : SV} {u : Upd} (hm : X.m ≤ nx) (hf : ρ nx = none)
  (hr : (SOp.box t x').run (·.ev sl) g nx = some (v, u, nx')) : MOk X ρ fp hp w a (.box t x) nx v u := by
 have rx := qabh hx hs
 simp only [SOp.run] at hr
 split at hr
 ·rename_i cs hc
  cases hr
  obtain ⟨hcr, hco⟩ := rx.cells hc
  refine ⟨_, _, fun o ho => .inl ?_, OpOut.cells h hm hf t hcr hco⟩
  simp [execOp, ho, Instr.box, newVar, newRow]
 ·cases hr
theorem OpOut.row (h : SimH X ρ fp hp w) {nx : Nat} (hm : X.m ≤ nx) (hf : ρ nx = none) (e size : Nat) {es : List (List SV)} {v' : Value} {vs : List Value} {w' : World} (hb : Below w.heap.size w w') (ho : RowP w' e size v' es.length vs) (hge : ∀ k, v'.ownBlock = some k → w.heap.size ≤ k)
  (hz : ∀ x ∈ es, x.length = size) (hr : Reps w (Av X hp fp) ρ es.flatten vs) (hone : Ones vs) :
  OpOut X ρ fp hp w nx [(nx, some (.row e size es))] (.own nx es.length) v' w' := by
 obtain ⟨ρ', fp', h1, h2, h3, h4⟩ := h.add hm hf (.row e size es) (qac5 v') (fun k => v'.ownBlock = some k) hb (fun k hk => ⟨hge k hk, (ho.lt k hk).2⟩) fun A' ρ' hp' hpl => ⟨v', vs, ho, ⟨hp'.reps hr, hone⟩, hz, hpl, fun k => Iff.rfl⟩
 refine ⟨ρ', fp', h1, ?_, h2, h4⟩
 rcases ho.2 with ⟨rfl, hn⟩ | ⟨g, cap, cur, fz, rfl, _, _, hn, hmx, _⟩
 ·rw [hn]; exact .own0 h3
 ·exact .own h3 hn hmx
theorem qa3n {size : Nat} {w : World} {A : Nat → Prop} {ρ : qab1} : ∀ (ps : List (Nat × Value)) (qs : List (Nat × SV)), ps.length = qs.length → (∀ (j : Nat) p q, ps[j]? = some p → qs[j]? = some q → p.1 = q.1 ∧ RepV w A ρ q.2 p.2) →
  ∀ (zs cs : List (List SV)) (zv : List Value), qaec size zs qs = some cs → (∀ x ∈ zs, x.length = size) → Reps w A ρ zs.flatten zv → Ones zv →
   ∃ cv, Instr.fill (fun i => some (i * size, size)) zv.toArray ps = some cv.toArray ∧ (Reps w A ρ cs.flatten cv ∧ Ones cv) ∧ (∀ x ∈ cs, x.length = size) ∧ cs.length = zs.length := by
 intro ps
 induction ps with
 | nil =>
  intro qs hl _ zs cs zv h hz hr ho
  obtain rfl : qs = [] := List.eq_nil_of_length_eq_zero (by simpa using hl.symm)
  simp only [qaec] at h; cases h
  exact ⟨zv, rfl, ⟨hr, ho⟩, hz, rfl⟩
 | cons p ps ih =>
  intro qs hl hp zs cs zv h hz hr ho
  cases qs with
  | nil => simp at hl
  | cons q qs =>
   obtain ⟨i, x⟩ := q
   obtain ⟨i', v⟩ := p
   obtain ⟨h1, h2⟩ := hp 0 _ _ rfl rfl
   simp only at h1 h2
   subst h1
   simp only [qaec] at h
   split at h
   ·rename_i xs hxs
    obtain ⟨hcr, hco⟩ := h2.cells hxs
    split at h
    ·rename_i hc
     obtain ⟨hc1, hc2⟩ := hc
     have hsz : v.cells.size = size := by have := hcr.1; simp at this; omega
     have hfl := qacp hz
     have hroom : (i' + 1) * size ≤ zs.length * size := Nat.mul_le_mul_right _ hc2
     rw [Nat.add_mul, Nat.one_mul] at hroom
     have hset : (zs.set i' xs).flatten = setL zs.flatten (i' * size) xs := by
      clear h ih hr hcr hl hp hfl hroom ho hco
      have gen : ∀ (xs ys : List SV) (pre post : List SV), xs.length = ys.length → setL (pre ++ ys ++ post) pre.length xs = pre ++ xs ++ post := by
       intro xs
       induction xs with
       | nil => intro ys pre post hl; cases ys with | nil => simp [setL] | cons => simp at hl
       | cons x xs ihx =>
        intro ys pre post hl
        cases ys with
        | nil => simp at hl
        | cons y ys =>
         simp only [setL]
         have e1 : (pre ++ y :: ys ++ post).set pre.length x = (pre ++ [x]) ++ ys ++ post := by
          rw [List.append_assoc, List.set_append_right _ _ (Nat.le_refl _)]; simp
         rw [e1]
         have := ihx ys (pre ++ [x]) post (by simpa using hl)
         simp only [List.length_append, List.length_cons, List.length_nil] at this
         rw [this]; simp
      have hsplit : zs = zs.take i' ++ zs[i'] :: zs.drop (i' + 1) := by simp
      have hfl1 : (zs.take i').flatten.length = i' * size := by rw [qacp (fun e he => hz e (List.mem_of_mem_take he))]; simp; rw [Nat.min_eq_left (by omega)]
      have e1 : zs.flatten = (zs.take i').flatten ++ zs[i'] ++ (zs.drop (i' + 1)).flatten := by
       have := congrArg List.flatten hsplit
       rw [List.flatten_append, List.flatten_cons, ← List.append_assoc] at this
       exact this
      have e2 : (zs.set i' xs).flatten = (zs.take i').flatten ++ xs ++ (zs.drop (i' + 1)).flatten := by
       rw [List.set_eq_take_append_cons_drop, if_pos hc2]; simp
      rw [e1, e2, ← hfl1]
      exact (gen xs zs[i'] _ _ (by rw [hc1, hz _ (List.getElem_mem _)])).symm
     obtain ⟨cv, e1, e2, e3, e4⟩ := ih qs (by simpa using hl) (fun j p q hj hk => hp (j + 1) p q (by simpa using hj) (by simpa using hk)) _ _ (setV zv (i' * size) v.cells.toList) h
      (fun x hx => by rcases List.mem_or_eq_of_mem_set hx with h | h; exact hz x h; rw [h]; exact hc1) (by rw [hset]; exact hcr.setL hr _) (hco.setV ho _)
     refine ⟨cv, ?_, e2, e3, by rw [e4]; simp⟩
     rw [Instr.fill]
     simp only
     have hzl := hr.1
     have hno : (v.cells.size ≠ size || decide (i' * size + v.cells.size > zv.toArray.size)) = false := by simp [hsz]; omega
     rw [hno]
     simp only [Bool.false_eq_true, if_false]
     rw [← Array.foldl_toList, Array.toList_zipIdx, qaf1]
     exact e1
    ·cases h
   ·cases h
theorem Ones.rep {zv : List Value} (h : Ones zv) : ∀ n, Ones (List.replicate n zv).flatten := fun n v hv => by
 obtain ⟨l, hl, hv⟩ := List.mem_flatten.1 hv
 rw [(List.mem_replicate.1 hl).2] at hv
 exact h v hv
theorem qadm {w : World} {A : Nat → Prop} {ρ : qab1} {z : List SV} {zv : List Value} (h : Reps w A ρ z zv) : ∀ n, Reps w A ρ (List.replicate n z).flatten (List.replicate n zv).flatten
 | 0 => by simpa using Reps.nil
 | n + 1 => by rw [List.replicate_succ, List.replicate_succ, List.flatten_cons, List.flatten_cons]; exact h.append (qadm h n)
theorem qatc {zv : Array Value} (n : Nat) (hz : 0 < zv.size) : ((Array.range (n * zv.size)).map (zv[· % zv.size]!)) = (List.replicate n zv.toList).flatten.toArray := by
 have hlen : ((List.replicate n zv.toList).flatten).length = n * zv.size := by simp
 apply Array.ext'
 apply List.ext_getElem?
 intro j
 by_cases hj : j < n * zv.size
 ·have h1 : ((Array.range (n * zv.size)).map (zv[· % zv.size]!)).toList[j]? = some (zv[j % zv.size]!) := by simp [hj]
  rw [h1]
  have hm : j % zv.size < zv.size := Nat.mod_lt _ hz
  have hd : j / zv.size < n := (Nat.div_lt_iff_lt_mul hz).2 hj
  have key : ∀ (n i k : Nat), i < n → k < zv.size → ((List.replicate n zv.toList).flatten)[i * zv.size + k]? = zv[k]? := by
   intro n
   induction n with
   | zero => intro i k hi; omega
   | succ n ih =>
    intro i k hi hk
    rw [List.replicate_succ, List.flatten_cons]
    cases i with
    | zero => rw [Nat.zero_mul, Nat.zero_add, List.getElem?_append_left (by simpa using hk)]; simp
    | succ i =>
     have hlt : zv.toList.length ≤ (i + 1) * zv.size + k := by rw [Nat.add_mul]; simp; omega
     rw [List.getElem?_append_right hlt, show (i + 1) * zv.size + k - zv.toList.length = i * zv.size + k by rw [Nat.add_mul]; simp; omega]
     exact ih i k (by omega) hk
  have := key n (j / zv.size) (j % zv.size) hd hm
  have hjd : j / zv.size * zv.size + j % zv.size = j := by rw [Nat.mul_comm]; exact Nat.div_add_mod j zv.size
  rw [hjd] at this
  rw [this, getElem!_pos zv _ hm]
  simp
 ·rw [List.getElem?_eq_none (by simp; omega), List.getElem?_eq_none (by rw [hlen]; omega)]
theorem qa2z (h : SimH X ρ fp hp w) (hs : ∀ t, RepV w (Av X hp fp) ρ (gets sl t) (a.tmps.getD t undef)) {t e size n : Nat} {z : List SV} {ps : Array (Nat × Operand)} {qs : List (Nat × SX)} (ht : X.P.underlying t = some (.slice e)) (hz : qafh X.P e = some z) (hsz : qabt X.P e = some size) (hq : ps.toList.mapM (qa31 N) = some qs) (hc : 0 < size ∧ n * size ≤ 2 ^ 20)
  {g : Nat → Option SObj} {nx nx' : Nat} {v : SV} {u : Upd} (hm : X.m ≤ nx) (hf : ρ nx = none) (hr : (SOp.mkrow e size n z qs).run (·.ev sl) g nx = some (v, u, nx')) : MOk X ρ fp hp w a (.buildSlice t n ps) nx v u := by
 simp only [SOp.run] at hr
 split at hr
 ·rename_i es hes
  cases hr
  obtain ⟨i, zv, hi, hzv, hzs, hzl, hzo, hzr⟩ := qadi hz
  have hsi : i.size = size := by simp only [qabt, hi, Option.map_some] at hsz; exact Option.some.inj hsz
  obtain ⟨hl, hj⟩ := qady hq
  have hrep := qadm (hzr (w := w) (A := Av X hp fp) (ρ := ρ)) n
  obtain ⟨cv, e1, e2, e3, e4⟩ := qa3n (size := size) (ps.toList.map fun p => (p.1, a.eval p.2)) _ (by simp [hl]) (fun j p q hp hq => by
   simp only [List.getElem?_map, Option.map_eq_some_iff] at hp hq
   obtain ⟨p, hp, rfl⟩ := hp
   obtain ⟨q, hq, rfl⟩ := hq
   obtain ⟨y, hy, hcc⟩ := hj j p hp
   rw [hq] at hy; cases hy
   simp only [qa31, Option.map_eq_some_iff] at hcc
   obtain ⟨x, hx, hcc⟩ := hcc
   cases hcc
   exact ⟨rfl, qabh hx hs⟩) (List.replicate n z) es _ hes (fun x hx => by rw [(List.mem_replicate.1 hx).2, hzl, hsi]) hrep (hzo.rep n)
  rw [List.length_replicate] at e4
  have hfl := qacp e3
  have hcl : cv.length = n * size := by rw [← e2.1.1, hfl, e4]
  have hbig : n ≤ n * size := Nat.le_mul_of_pos_right n hc.1
  have hn20 : n ≤ 1048576 := by have := hc.2; omega
  have hmax : n ≤ maxLen := by simp [maxLen]; omega
  have hrun : ∀ o : Oper, o.op = .buildSlice t n ps → (execOp a.eval o).run X.P w = .ok (.value (.slice (some ⟨w.heap.size, 0, none⟩) n n)) (w.alloc (.cells cv.toArray e)) := fun o ho => by
   have e5 : (ps.map fun (i, x) => (i, a.eval x)).toList = ps.toList.map fun p => (p.1, a.eval p.2) := by simp
   have hpos : 0 < zv.cells.size := by rw [hzs, hsi]; exact hc.1
   by_cases hn0 : n = 0
   ·subst hn0
    have hcv : cv = [] := List.eq_nil_of_length_eq_zero (by simpa using hcl)
    subst hcv
    have e6 := e1
    simp only [List.replicate_zero, List.flatten_nil] at e6
    have e7 : Instr.fill (fun i => some (i * size, size)) #[] (List.map (fun x => (x.fst, a.eval x.snd)) ps.toList) = some #[] := e6
    simp [execOp, ho, Instr.buildSlice, run_underlying ht, qab5 hsz w, newRow, show Array.range 0 = #[] from rfl, e7]
   ·have hne : ¬ n * i.size = 0 := by rw [hsi]; exact Nat.ne_of_gt (Nat.mul_pos (by omega) hc.1)
    have := run_buildSlice (P := X.P) w t e n (ps.map fun (i, x) => (i, a.eval x)) cv.toArray i zv ht hi hzv (by rw [hsi]; omega) hne (by
     rw [e5]
     have hcy := qatc n hpos
     rw [hzs] at hcy
     rw [hzs, hcy, hsi]
     exact e1)
    simp only [execOp, ho, Sem.run_bind, this, Result.andThen_ok, Sem.run_pure]
  refine ⟨_, _, fun o ho => .inl (hrun o ho), ?_⟩
  have := OpOut.row h hm hf e size (es := es) (v' := .slice (some ⟨w.heap.size, 0, none⟩) n n) (vs := cv) (al (rf w) (.cells cv.toArray e)) ?_ (fun k hk => by simp [Value.ownBlock] at hk; omega) e3 e2.1 e2.2
  ·rw [e4] at this; exact this
  ·rw [e4]
   refine .of (b := 0) ⟨hcl, .inr ⟨w.heap.size, n, cv.toArray, rfl, Nat.zero_le _, Blk.new _ _ _, Nat.le_refl _, hmax, by simpa using hcl, ?_⟩⟩
   rw [List.take_of_length_le (by simp [hcl])]
 ·cases hr
theorem qams : ∀ (us cs : List Value) (off m : Nat), (setV cs off us).take m = setV (cs.take m) off us
 | [], _, _, _ => rfl
 | u :: us, cs, off, m => by rw [setV, qams us, setV, List.take_set]
theorem qa1e : ∀ (us cs : List Value) (off : Nat), off + us.length ≤ cs.length → setV cs off us = cs.take off ++ us ++ cs.drop (off + us.length)
 | [], cs, off, h => by simp [setV]
 | u :: us, cs, off, h => by
  simp only [List.length_cons] at h
  rw [setV, qa1e us _ _ (by simp; omega)]
  have h1 : (cs.set off u).take (off + 1) = cs.take off ++ [u] := by
   rw [List.take_succ, List.take_set_of_le (Nat.le_refl _), List.getElem?_set_self (by omega)]; rfl
  have h2 : (cs.set off u).drop (off + 1 + us.length) = cs.drop (off + (u :: us).length) := by
   rw [List.drop_set_of_lt (by omega), List.length_cons]; congr 1; omega
  rw [h1, h2]; simp
theorem qar7 : ∀ (us cs : List SV) (off : Nat), off + us.length ≤ cs.length → setL cs off us = cs.take off ++ us ++ cs.drop (off + us.length)
 | [], cs, off, h => by simp [setL]
 | u :: us, cs, off, h => by
  simp only [List.length_cons] at h
  rw [setL, qar7 us _ _ (by simp; omega)]
  have h1 : (cs.set off u).take (off + 1) = cs.take off ++ [u] := by
   rw [List.take_succ, List.take_set_of_le (Nat.le_refl _), List.getElem?_set_self (by omega)]; rfl
  have h2 : (cs.set off u).drop (off + 1 + us.length) = cs.drop (off + (u :: us).length) := by
   rw [List.drop_set_of_lt (by omega), List.length_cons]; congr 1; omega
  rw [h1, h2]; simp
theorem qa3k {size : Nat} {es : List (List SV)} (hz : ∀ e ∈ es, e.length = size) {i : Nat} {x : List SV} (hx : es[i]? = some x) {j : Nat} {xs : List SV} (hj : j + xs.length ≤ size) : (es.set i (setL x j xs)).flatten = setL es.flatten (i * size + j) xs := by
 have hi : i < es.length := (List.getElem?_eq_some_iff.1 hx).1
 have hxe : es[i] = x := (List.getElem?_eq_some_iff.1 hx).2
 have hxl : x.length = size := hz x (List.mem_of_getElem? hx)
 have hfl := qacp hz
 have hroom : (i + 1) * size ≤ es.length * size := Nat.mul_le_mul_right _ hi
 rw [Nat.add_mul, Nat.one_mul] at hroom
 have hsplit : es = es.take i ++ x :: es.drop (i + 1) := by rw [← hxe]; simp
 have hl1 : (es.take i).flatten.length = i * size := by rw [qacp (fun e he => hz e (List.mem_of_mem_take he))]; simp; rw [Nat.min_eq_left (by omega)]
 have e1 : es.flatten = (es.take i).flatten ++ x ++ (es.drop (i + 1)).flatten := by
  have := congrArg List.flatten hsplit
  rw [List.flatten_append, List.flatten_cons, ← List.append_assoc] at this
  exact this
 have e2 : (es.set i (setL x j xs)).flatten = (es.take i).flatten ++ setL x j xs ++ (es.drop (i + 1)).flatten := by
  rw [List.set_eq_take_append_cons_drop, if_pos hi]; simp
 rw [e2, qar7 xs x j (by omega), qar7 xs es.flatten _ (by omega), e1, ← hl1]
 rw [List.append_assoc _ x, List.take_append, List.drop_append]
 rw [List.take_of_length_le (Nat.le_add_right _ _), List.drop_eq_nil_of_le (show (es.take i).flatten.length ≤ (es.take i).flatten.length + j + xs.length by omega)]
 rw [show (es.take i).flatten.length + j - (es.take i).flatten.length = j by omega, show (es.take i).flatten.length + j + xs.length - (es.take i).flatten.length = j + xs.length by omega]
 rw [List.take_append_of_le_length (by omega), List.drop_append_of_le_length (by omega)]
 simp
theorem qacz {P : Program} (g o : Nat) (t : TypeId) : ∀ (vs : List Value) (i : Nat) (cur : Array Value) (fz : Nat × Nat) (w : World), w.heap[g]? = some (.cells cur t fz) → (fz = (0, 0) ∨ fz = (cur.size, cur.size + 1)) → o + i + vs.length ≤ cur.size → (∀ v ∈ vs, v.oneCell' = true) →
  (storeCells ⟨g, o, none⟩ vs i).run P w = .ok () (w.setRow g (cur.toList.take (o + i) ++ vs ++ cur.toList.drop (o + i + vs.length)).toArray)
 | [], i, cur, fz, w, hg, _, _, _ => by
  simp only [storeCells, List.append_nil, List.length_nil, Nat.add_zero, List.take_append_drop, Array.toArray_toList]
  rw [setRow_self w g cur t fz hg]
  rfl
 | v :: rest, i, cur, fz, w, hg, hz, hl, h1 => by
  have hi : o + i < cur.size := by simp at hl; omega
  have hadd : (⟨g, o, none⟩ : Addr).add i = ⟨g, o + i, none⟩ := by unfold Addr.add; split <;> simp_all
  have hcell : w.cell? ⟨g, o + i, none⟩ = some cur[o + i] := by simp [World.cell?, hg, hi]
  have hfro : w.frozen? ⟨g, o + i, none⟩ = false := by
   rcases hz with rfl | rfl
   ·simp [World.frozen?, hg]
   ·simp [World.frozen?, hg]; omega
  have hst : (store ((⟨g, o, none⟩ : Addr).add i) v).run P w = .ok () (w.setRow g (cur.setIfInBounds (o + i) v)) := by
   rw [hadd, run_store P w _ v _ (h1 v (by simp)), hcell]
   simp [hfro, setCell_eq_setRow w g (o + i) cur t fz v hg]
  have ih := qacz (P := P) g o t rest (i + 1) (cur.setIfInBounds (o + i) v) fz (w.setRow g (cur.setIfInBounds (o + i) v)) (setRow_heap w g cur _ t _ hg) (by simpa using hz) (by simp at hl ⊢; omega) (fun x hx => h1 x (by simp [hx]))
  simp only [storeCells, Sem.run_bind, hst, Result.andThen_ok, ih, setRow_setRow]
  congr 3
  have e := list_seg_step cur.toList (o + i) v rest (by simp at hl ⊢; omega)
  simpa [Array.toList_setIfInBounds, Nat.add_assoc] using e
theorem qamr {P : Program} {t : TypeId} {n : Nat} (hn : qabt P t = some n) {b off : Nat} {et : TypeId} {cur : Array Value} {fz : Nat × Nat} (hb : w.heap[b]? = some (.cells cur et fz)) (hz : fz = (0, 0) ∨ fz = (cur.size, cur.size + 1)) {x y : Operand} (hx : a.eval x = .pointer (some ⟨b, off, none⟩)) (hl : (a.eval y).cells.size = n) (hroom : off + n ≤ cur.size) (h1 : Ones (a.eval y).cells.toList) :
  ∀ o : Oper, o.op = .store t x y → (execOp a.eval o).run P w = .ok .skip (w.setRow b (setV cur.toList off (a.eval y).cells.toList).toArray) := fun o ho => by
 have hs := qacz (P := P) b off et (a.eval y).cells.toList 0 cur fz w hb hz (by simp; omega) h1
 rw [Nat.add_zero, ← qa1e _ _ _ (by simp; omega)] at hs
 simp only [execOp, ho, Instr.storeAt, hx, Instr.sureAddr, Sem.run_bind, Sem.run_pure, Result.andThen_ok, storeVar, qab5 hn w, hl, ne_eq, not_true, if_false, hs]
theorem qanp (A : Nat → Prop) (w : World) (g : Nat) (hg : A g) (cs : Array Value) : Step A w (w.setRow g cs) :=
 ⟨rfl, rfl, rfl, by simp, fun k _ hk => setRow_other w g k cs fun e => hk (e ▸ hg)⟩
theorem OpOut.turn {nx : Nat} (h : SimH X ρ fp hp w) {id : Nat} {o o' : SObj} (ho : geth hp id = some o) {b : Nat} (hb : fp id b) (cs : Array Value)
  (hnew : ∀ A' , Pres w (Av X hp fp) ρ (w.setRow b cs) A' ρ → ObjRep (w.setRow b cs) A' ρ id (fp id) o') :
  OpOut X ρ fp hp w nx [(id, some o')] .any undef (w.setRow b cs) := by
 obtain ⟨h1, h2⟩ := h.change (hp' := puth hp id o') (ρ' := ρ) (fp' := fp) (S := fun k => k = b) (fun j => j = id) (fun j => j = id) (qanp (fun k => k = b) w b rfl cs) (fun k hk => ⟨id, o, ho, by rw [show k = b from hk]; exact hb, rfl⟩)
  (fun j oj hg hne => ⟨by rw [qaco, if_neg hne] at hg; exact hg, hne, rfl⟩) (fun _ _ h => h) (fun _ _ => rfl)
  (fun j oj hj _ k hk => by subst hj; exact ⟨.inl ⟨j, o, ho, hk, rfl⟩, by have := (h.turn j o ho k hk).2; rw [setRow_size]; exact this⟩)
  (fun i j _ _ hi hj hne => absurd (hi.trans hj.symm) hne)
  (fun hpres j oj hj hg => by
   subst hj
   rw [qaco, if_pos rfl] at hg
   cases hg
   exact hnew _ hpres)
 exact ⟨ρ, fp, h1, .any, h2, fun j hj => .inl hj⟩
theorem qa2w (h : SimH X ρ fp hp w) (hs : ∀ t, RepV w (Av X hp fp) ρ (gets sl t) (a.tmps.getD t undef)) {t n : Nat} {x y : Operand} {x' y' : SX} (hx : cx N x = some x') (hy : cx N y = some y') (hn : qabt X.P t = some n) {nx nx' : Nat} {v : SV} {u : Upd}
  (hr : (SOp.store n x' y').run (·.ev sl) (geth hp) nx = some (v, u, nx')) : MOk X ρ fp hp w a (.store t x y) nx v u := by
 have rx := qabh hx hs
 have ry := qabh hy hs
 simp only [SOp.run] at hr
 split at hr
 ·cases hr
 ·rename_i vs hvs
  obtain ⟨hcr, hone⟩ := ry.cells hvs
  split at hr
  ·rename_i hc1
   have hl : (a.eval y).cells.size = n := by have := hcr.1; simp at this; omega
   split at hr
   ·rename_i id off he
    rw [he] at rx
    generalize hv : a.eval x = vx at rx
    split at hr
    ·rename_i t' cs hg
     rw [qabw] at hr
     obtain ⟨hroom, hr⟩ := hr
     cases hr
     cases rx with
     | ptr hρ =>
      rename_i b c
      obtain ⟨b', c', us, hρ', hbl, ⟨hrep, huo⟩, hfp⟩ := h.objs id _ hg
      rw [hρ] at hρ'; cases hρ'
      have hul := hrep.1
      refine ⟨_, _, fun o ho => .inr ⟨qamr hn hbl (.inl rfl) hv hl (by simp; omega) hone o ho, rfl⟩, ?_⟩
      refine OpOut.turn h hg ((hfp b).2 rfl) _ fun A' hp' => ⟨b, c, _, hρ, ?_, ⟨(hp'.reps hcr).setL (hp'.reps hrep) off, hone.setV huo off⟩, hfp⟩
      have := setRow_heap w b us.toArray (setV us.toArray.toList off (a.eval y).cells.toList).toArray t' (0, 0) hbl
      exact this
    ·cases hr
   ·rename_i id size i j he
    rw [he] at rx
    generalize hv : a.eval x = vx at rx
    split at hr
    ·rename_i e size' es hg
     split at hr
     ·rename_i hsz
      obtain ⟨rfl, hj⟩ := hsz
      simp only [Option.map_eq_some_iff] at hr
      obtain ⟨z, hz, hr⟩ := hr
      cases hr
      cases rx with
      | eptr hρ =>
       rename_i b c
       obtain ⟨v0, us, how, ⟨hrep, huo⟩, hzs, hρ', hfp⟩ := h.objs id _ hg
       rw [hρ] at hρ'
       have hp0 : qac5 v0 = some (b, c) := (Option.some.inj hρ').symm
       obtain ⟨hl0, how2⟩ := how
       rcases how2 with ⟨rfl, _⟩ | ⟨g, cap, cur, fz, rfl, hbl, hfz, hnc, hmx, hcs, htk⟩
       ·cases hp0
       ·cases hp0
        have hil : i < es.length := (List.getElem?_eq_some_iff.1 hz).1
        have hroom : (i + 1) * size ≤ es.length * size := Nat.mul_le_mul_right _ hil
        rw [Nat.add_mul, Nat.one_mul] at hroom
        have hcap : es.length * size ≤ c * size := Nat.mul_le_mul_right _ hnc
        refine ⟨_, _, fun o ho => .inr ⟨qamr hn hbl (hfz.imp (fun h => h) fun h => h.2) hv hl (by omega) hone o ho, rfl⟩, ?_⟩
        refine OpOut.turn h hg ((hfp g).2 rfl) _ fun A' hp' => ⟨.slice (some ⟨g, 0, none⟩) es.length c, setV us (i * size + j) (a.eval y).cells.toList, ?_, ?_, ?_, hρ, hfp⟩
        ·rw [List.length_set]
         refine ⟨by rw [qadw]; exact hl0, .inr ⟨g, c, _, fz, rfl, setRow_heap w g cur _ e fz hbl, by simpa [qadw] using hfz, hnc, hmx, by simp [qadw]; exact hcs, ?_⟩⟩
         rw [← htk]
         exact qams _ _ _ _
        ·rw [qa3k hzs hz (by omega)]
         exact ⟨(hp'.reps hcr).setL (hp'.reps hrep) _, hone.setV huo _⟩
        ·intro q hq
         rcases List.mem_or_eq_of_mem_set hq with hq | hq
         ·exact hzs q hq
         ·rw [hq, qago]; exact hzs z (List.mem_of_getElem? hz)
     ·cases hr
    ·cases hr
   ·cases hr
  ·cases hr
theorem qasm (h : SimH X ρ fp hp w) (hs : ∀ t, RepV w (Av X hp fp) ρ (gets sl t) (a.tmps.getD t undef)) {t e : TypeId} {i : TypeInfo} {z : List SV} {x y : Operand} {x' y' : SX} (ht : X.P.underlying t = some (.slice e)) (hz : qafh X.P e = some z) (hi : X.P.info? e = some i) (hpos : 0 < i.size) (hx : cx N x = some x') (hy : cx N y = some y')
  {g : Nat → Option SObj} {nx nx' : Nat} {v : SV} {u : Upd} (hm : X.m ≤ nx) (hf : ρ nx = none) (hr : (SOp.mkslice e i.size i.bytes z x' y').run (·.ev sl) g nx = some (v, u, nx')) : MOk X ρ fp hp w a (.makeSlice t x y) nx v u := by
 have rx := qabh hx hs
 have ry := qabh hy hs
 simp only [SOp.run] at hr
 split at hr
 ·rename_i l c he he2
  rw [he] at rx; rw [he2] at ry
  rw [qabw] at hr
  obtain ⟨⟨h0, h1, h2, h3⟩, hr⟩ := hr
  cases hr
  generalize hv : a.eval x = vx at rx
  generalize hv2 : a.eval y = vy at ry
  cases rx; cases ry
  obtain ⟨i', zv, hi', hzv, hzs, hzl, hzo, hzr⟩ := qadi hz
  rw [hi] at hi'; cases hi'
  obtain ⟨l, rfl⟩ := Int.eq_ofNat_of_zero_le h0
  obtain ⟨c, rfl⟩ := Int.eq_ofNat_of_zero_le (Int.le_trans h0 h1)
  have hmk := run_make (P := X.P) w t e i zv ht hi hzv .i64 .i64 (l : Int) (c : Int) h0 h1 (by rw [Int.mul_comm]; omega) (by simp [maxLen] at h2; omega)
  simp only [Int.toNat_natCast] at hmk ⊢
  have hmc : madeCells zv.cells (c * i.size) = (List.replicate c zv.cells.toList).flatten.toArray := by
   unfold madeCells; rw [← hzs]; exact qatc c (by rw [hzs]; exact hpos)
  have hlc : l ≤ c := by omega
  have hpre : ((List.replicate c zv.cells.toList).flatten).take (l * i.size) = (List.replicate l zv.cells.toList).flatten := by
   obtain ⟨d, rfl⟩ := Nat.exists_eq_add_of_le hlc
   rw [List.replicate_append_replicate.symm, List.flatten_append, List.take_append_of_le_length (by simp [hzs]), List.take_of_length_le (by simp [hzs])]
  have := OpOut.row (X := X) (ρ := ρ) (fp := fp) (hp := hp) (w := w) h hm hf e i.size (es := List.replicate l z) (v' := .slice (some ⟨w.heap.size, 0, none⟩) l c) (vs := (List.replicate l zv.cells.toList).flatten) (al (rf w) (.cells (madeCells zv.cells (c * i.size)) e))
   (.of (b := 0) ⟨by simp [hzs], .inr ⟨w.heap.size, c, _, by simp, Nat.zero_le _, Blk.new _ _ _, by simpa using hlc, by omega, size_madeCells _ _, by rw [hmc]; simpa using hpre⟩⟩) (fun k hk => by simp [Value.ownBlock] at hk; omega) (fun q hq => by rw [(List.mem_replicate.1 hq).2, hzl]) (qadm (hzr (w := w) (A := Av X hp fp) (ρ := ρ)) l) (hzo.rep l)
  rw [List.length_replicate] at this
  exact ⟨_, _, fun o ho => .inl (by simp only [execOp, ho, hv, hv2, Sem.run_bind, hmk, Result.andThen_ok, Sem.run_pure]), this⟩
 ·cases hr
theorem src_of (h : SimH X ρ fp hp w) {x : SV} {vx : Value} (rx : RepV w (Av X hp fp) ρ x vx) {size : Nat} {ys : List (List SV)} (hr : qadx size (geth hp) x = some ys) (hpos : 0 < size) :
  ∃ b c news, vx = .slice b ys.length c ∧ (b = none → ys = [] ∧ c = 0) ∧ Reps w (Av X hp fp) ρ ys.flatten news ∧ Ones news ∧ (∀ q ∈ ys, q.length = size) ∧ ∀ ad, b = some ad → ∀ (j : Nat) u, news[j]? = some u → w.cell? (ad.add j) = some u := by
 unfold qadx at hr
 split at hr
 ·cases hr
  cases rx
  exact ⟨none, 0, [], rfl, fun _ => ⟨rfl, rfl⟩, Reps.nil, (fun v hv => by cases hv), (fun q hq => by cases hq), fun ad had => by cases had⟩
 ·cases hr
  cases rx
  exact ⟨some _, _, [], rfl, (fun e => by cases e), Reps.nil, (fun v hv => by cases hv), (fun q hq => by cases hq), fun _ _ j u hu => by simp at hu⟩
 ·rename_i size' es
  split at hr
  rotate_left
  ·cases hr
  rename_i hsz
  subst hsz
  cases hr
  cases rx with
  | view0 hc ha => exact ⟨_, _, [], rfl, fun e => ⟨rfl, ha e⟩, Reps.nil, (fun v hv => by cases hv), (fun q hq => by cases hq), fun _ _ j u hu => by simp at hu⟩
  | view cv hn hc hm hA hb hz h1 h2 ho =>
   rename_i b off n c
   have hfl := qacp hz
   have hdm : ∀ j, j / size * size + j % size = j := fun j => by rw [Nat.mul_comm]; exact Nat.div_add_mod j size
   have get : ∀ j, j < ys.length * size → ∃ e x, ys[j / size]? = some e ∧ e[j % size]? = some x ∧ ys.flatten[j]? = some x := fun j hj => by
    have hi : j / size < ys.length := (Nat.div_lt_iff_lt_mul hpos).2 hj
    have hk : j % size < (ys[j / size]).length := by rw [hz _ (List.getElem_mem _)]; exact Nat.mod_lt _ hpos
    refine ⟨ys[j / size], (ys[j / size])[j % size], List.getElem?_eq_getElem hi, List.getElem?_eq_getElem hk, ?_⟩
    have := qae4 hz (List.getElem?_eq_getElem hi) (List.getElem?_eq_getElem hk)
    rwa [hdm j] at this
   have gl : ∀ (j : Nat) u, ((List.range (ys.length * size)).map fun k => cv (k / size) (k % size))[j]? = some u → j < ys.length * size ∧ u = cv (j / size) (j % size) := fun j u hu => by
    simp only [List.getElem?_map, Option.map_eq_some_iff] at hu
    obtain ⟨k, hk, rfl⟩ := hu
    obtain ⟨h3, h4⟩ := List.getElem?_eq_some_iff.1 hk
    simp at h3 h4; subst h4; exact ⟨h3, rfl⟩
   refine ⟨_, c, (List.range (ys.length * size)).map fun k => cv (k / size) (k % size), by rw [hn], fun e => (by cases e), ⟨by simp [hfl], fun j x u hx hu => ?_⟩, fun u hu => ?_, hz, fun ad had j u hu => ?_⟩
   ·obtain ⟨hj, rfl⟩ := gl j u hu
    obtain ⟨e, x', he, hx', hf⟩ := get j hj
    rw [hx] at hf; cases hf
    exact (h2 _ _ _ _ he hx').lift
   ·obtain ⟨j, hj⟩ := List.getElem?_of_mem hu
    obtain ⟨hj2, rfl⟩ := gl j u hj
    obtain ⟨e, x', he, hx', hf⟩ := get j hj2
    exact ho _ _ _ _ he hx'
   ·cases had
    obtain ⟨hj, rfl⟩ := gl j u hu
    obtain ⟨e, x', he, hx', hf⟩ := get j hj
    have := h1 _ _ _ _ he hx'
    rwa [Nat.add_assoc, hdm j, ← qac4] at this
 ·rename_i id n
  split at hr
  ·rename_i e' size' es hg
   split at hr
   rotate_left
   ·cases hr
   rename_i hsz
   subst hsz
   rw [qabw] at hr
   obtain ⟨hle, hr⟩ := hr
   cases hr
   obtain ⟨v0, us, how, ⟨hrep, huo⟩, hzs, hρ', hfp⟩ := h.objs id _ hg
   have hfl := qacp hzs
   cases rx with
   | own0 hρ =>
    exact ⟨none, 0, [], by simp, (fun _ => by simp), by simpa using Reps.nil, (fun v hv => by cases hv), (fun q hq => by simp at hq), fun ad had => by cases had⟩
   | own hρ hn hm =>
    rename_i b c
    rw [hρ] at hρ'
    have hp0 : qac5 v0 = some (b, c) := (Option.some.inj hρ').symm
    obtain ⟨hv0, hcell, hlt, hnc, hmx⟩ := qadd how hp0
    have htf : (es.take n).flatten = es.flatten.take (n * size) := by
     have h1 : es.flatten = (es.take n).flatten ++ (es.drop n).flatten := by rw [← List.flatten_append, List.take_append_drop]
     have h2 : (es.take n).flatten.length = n * size := by rw [qacp (fun e he => hzs e (List.mem_of_mem_take he))]; simp; rw [Nat.min_eq_left hle]
     rw [h1, ← h2, List.take_left]
    refine ⟨some ⟨b, 0, none⟩, c, us.take (n * size), by simp [Nat.min_eq_left hle], fun e => (by cases e), ?_, fun v hv => huo v (List.mem_of_mem_take hv), fun q hq => hzs q (List.mem_of_mem_take hq), fun ad had j u hu => ?_⟩
    ·rw [htf]
     have := hrep.sub 0 (n * size)
     simpa using this
    ·cases had
     rw [qac4, Nat.zero_add]
     rw [List.getElem?_take] at hu
     split at hu
     ·exact hcell j u hu
     ·cases hu
  ·cases hr
 ·rename_i id size' off n
  split at hr
  ·rename_i e' size'' es hg
   split at hr
   rotate_left
   ·cases hr
   rename_i hsz
   obtain ⟨rfl, rfl⟩ := hsz
   rw [qabw] at hr
   obtain ⟨hle, hr⟩ := hr
   cases hr
   obtain ⟨v0, us, how, ⟨hrep, huo⟩, hzs, hρ', hfp⟩ := h.objs id _ hg
   have hfl := qacp hzs
   cases rx with
   | owno hρ hn hm =>
    rename_i b c
    rw [hρ] at hρ'
    have hp0 : qac5 v0 = some (b, c) := (Option.some.inj hρ').symm
    obtain ⟨hv0, hcell, hlt, hnc, hmx⟩ := qadd how hp0
    have htd : (es.drop off).flatten = es.flatten.drop (off * size) := by
     have h1 : es.flatten = (es.take off).flatten ++ (es.drop off).flatten := by rw [← List.flatten_append, List.take_append_drop]
     have h2 : (es.take off).flatten.length = off * size := by rw [qacp (fun e he => hzs e (List.mem_of_mem_take he))]; simp; rw [Nat.min_eq_left (by omega)]
     rw [h1, ← h2, List.drop_left]
    have htf : ((es.drop off).take n).flatten = (es.flatten.drop (off * size)).take (n * size) := by
     rw [← htd]
     have h1 : (es.drop off).flatten = ((es.drop off).take n).flatten ++ ((es.drop off).drop n).flatten := by rw [← List.flatten_append, List.take_append_drop]
     have h2 : ((es.drop off).take n).flatten.length = n * size := by rw [qacp (fun e he => hzs e (List.mem_of_mem_drop (List.mem_of_mem_take he)))]; simp; rw [Nat.min_eq_left (by omega)]
     rw [h1, ← h2, List.take_left]
    refine ⟨some ⟨b, off * size, none⟩, c - off, (us.drop (off * size)).take (n * size), by rw [List.length_take, List.length_drop, Nat.min_eq_left (by omega)], fun e => (by cases e), ?_, fun v hv => huo v (List.mem_of_mem_drop (List.mem_of_mem_take hv)), fun q hq => hzs q (List.mem_of_mem_drop (List.mem_of_mem_take hq)), fun ad had j u hu => ?_⟩
    ·rw [htf]
     exact hrep.sub (off * size) (n * size)
    ·cases had
     rw [qac4]
     rw [List.getElem?_take] at hu
     split at hu
     ·rw [List.getElem?_drop] at hu
      exact hcell _ u hu
     ·cases hu
  ·cases hr
 ·cases hr
theorem qagc : ∀ {ys : List (List SV)} {xs : List Int}, qaew ys = some xs → ys.length = xs.length ∧ ys.flatten = xs.map (SV.int .u8)
 | [], xs, h => by cases h; exact ⟨rfl, rfl⟩
 | [.int .u8 n] :: r, xs, h => by
  simp only [qaew, Option.map_eq_some_iff] at h
  obtain ⟨xs', h1, rfl⟩ := h
  obtain ⟨h2, h3⟩ := qagc h1
  exact ⟨by simp [h2], by simp [h3]⟩
theorem ok_b2s (h : SimH X ρ fp hp w) (hs : ∀ t, RepV w (Av X hp fp) ρ (gets sl t) (a.tmps.getD t undef)) {src dst e : TypeId} {x : Operand} {x' : SX} (hx : cx N x = some x') (h1 : X.P.underlying src = some (.slice e)) (he : X.P.underlying e = some (.int .u8)) (h2 : X.P.underlying dst = some .string) {nx nx' : Nat} {v : SV} {u : Upd}
  (hr : (SOp.b2s x').run (·.ev sl) (geth hp) nx = some (v, u, nx')) : u = [] ∧ POk X.P w (Av X hp fp) ρ a (.convert src dst x) v := by
 have rx := qabh hx hs
 simp only [SOp.run] at hr
 split at hr
 ·rename_i ys hys
  simp only [Option.map_eq_some_iff] at hr
  obtain ⟨xs, hxs, hr⟩ := hr
  cases hr
  obtain ⟨b, c, news, hvx, hnone, hnr, hno, hyz, hcell⟩ := src_of h rx hys (by decide)
  obtain ⟨hl, hf⟩ := qagc hxs
  have hnews : news = xs.map (Value.int .u8) := by
   rw [hf] at hnr
   refine List.ext_getElem? fun j => ?_
   rw [List.getElem?_map]
   cases e : xs[j]? with
   | none =>
    have : xs.length ≤ j := by simpa using e
    have h3 := hnr.1
    rw [List.length_map] at h3
    simp; omega
   | some n =>
    obtain ⟨u, h4, h5⟩ := hnr.get (j := j) (x := .int .u8 n) (by rw [List.getElem?_map, e]; rfl)
    cases h5
    exact h4
  refine ⟨rfl, .string (strOfNums xs), fun o ho => ?_, .str⟩
  have hc : (convert src dst (a.eval x)).run X.P w = .ok (.string (strOfNums xs)) w := by
   rw [hvx]
   cases b with
   | none =>
    obtain ⟨rfl, -⟩ := hnone rfl
    obtain rfl : xs = [] := List.eq_nil_of_length_eq_zero (by simpa using hl.symm)
    exact run_convert_bytes_nil w src e h1 he _ _ dst h2
   | some ad =>
    rw [run_convert_bytes_string w src dst e _ _ c h1 he h2]
    have h6 : (loadCells ad ys.length).run X.P w = .ok (xs.map (Value.int .u8)).toArray w := by
     have := run_loadCells_list (P := X.P) (w := w) ad news (hcell ad rfl)
     rw [hnews, List.length_map, ← hl] at this
     exact this
    rw [run_bytesToString w ad ys.length c xs h6, foldl_push_bytes]
    simp [strOfNums, ByteArray.empty, ByteArray.emptyWithCapacity]
    try rfl
  simp only [execOp, ho, Sem.run_bind, hc]
  rfl
 ·cases hr
theorem qanz (w : World) {b : Nat} {cur : Array Value} {e : TypeId} {fz : Nat × Nat} (hb : w.heap[b]? = some (.cells cur e fz)) (hz : fz = (0, 0) ∨ fz = (cur.size, cur.size + 1)) : (w.freeze ⟨b, cur.size, none⟩ 1).heap[b]? = some (.cells cur e (cur.size, cur.size + 1)) := by
 unfold World.freeze
 rw [if_neg (by decide)]
 simp only [Array.getElem?_modify, if_true, hb, Option.map_some]
 rcases hz with rfl | rfl
 ·simp
 ·simp
theorem qakk (w : World) {b k n : Nat} {a : Option _} (h : k ≠ b) : (w.freeze ⟨b, n, a⟩ 1).heap[k]? = w.heap[k]? := by
 unfold World.freeze
 rw [if_neg (by decide)]
 simp only [Array.getElem?_modify, if_neg (Ne.symm h)]
theorem qagw (w : World) (a : Addr) : (w.freeze a 1).heap.size = w.heap.size := by
 unfold World.freeze
 rw [if_neg (by decide)]
 simp
theorem ok_b2b (h : SimH X ρ fp hp w) (hs : ∀ t, RepV w (Av X hp fp) ρ (gets sl t) (a.tmps.getD t undef)) {t e : TypeId} {x : Operand} {x' : SX} (hx : cx N x = some x') (ht : X.P.underlying t = some (.slice e)) (he : X.P.underlying e = some (.int .u8)) {nx nx' : Nat} {v : SV} {u : Upd}
  (hr : (SOp.b2b x').run (·.ev sl) (geth hp) nx = some (v, u, nx')) : MOk X ρ fp hp w a (.convert t t x) nx v u := by
 have rx := qabh hx hs
 simp only [SOp.run] at hr
 split at hr
 ·rename_i id n hev
  rw [hev] at rx
  split at hr
  ·rename_i e' size es hg
   split at hr
   ·rename_i hc
    obtain ⟨rfl, hn0⟩ := hc
    cases hr
    obtain ⟨v0, us, how, ⟨hrep, huo⟩, hzs, hρ', hfp⟩ := h.objs id _ hg
    generalize hv : a.eval x = vx at rx
    cases rx with
    | own0 => omega
    | own hρ hnc hm =>
     rename_i b c
     rw [hρ] at hρ'
     have hp0 : qac5 v0 = some (b, c) := (Option.some.inj hρ').symm
     obtain ⟨hl0, how2⟩ := how
     rcases how2 with ⟨rfl, _⟩ | ⟨g, cap, cur, fz, rfl, hbl, hfz, hnc2, hmx, hcs, htk⟩
     ·cases hp0
     ·cases hp0
      have hfz' : fz = (0, 0) ∨ fz = (cur.size, cur.size + 1) := hfz.imp (fun h => h) fun h => h.2
      have hsh : w.shape? g = some (e', cur.size) := by unfold World.shape?; rw [hbl]
      refine ⟨.slice (some ⟨g, 0, none⟩) n c, w.freeze ⟨g, cur.size, none⟩ 1, fun o ho => .inl ?_, ?_⟩
      ·have hc : (convert t t (a.eval x)).run X.P w = .ok (.slice (some ⟨g, 0, none⟩) n c) (w.freeze ⟨g, cur.size, none⟩ 1) := by
        rw [hv]
        simp [convert, run_underlying ht, run_underlying he, markStringish, hsh]
       simp only [execOp, ho, Sem.run_bind, hc]
       rfl
      ·have hst : Step (fun k => k = g) w (w.freeze ⟨g, cur.size, none⟩ 1) := ⟨by unfold World.freeze; rw [if_neg (by decide)], by unfold World.freeze; rw [if_neg (by decide)], by unfold World.freeze; rw [if_neg (by decide)], by rw [qagw]; exact Nat.le_refl _, fun k _ hk => qakk w hk⟩
       obtain ⟨h1, h2⟩ := h.change (hp' := puth hp id (.row e' 1 es)) (ρ' := ρ) (fp' := fp) (S := fun k => k = g) (fun j => j = id) (fun j => j = id) hst (fun k hk => ⟨id, _, hg, by rw [show k = g from hk]; exact (hfp g).2 rfl, rfl⟩)
        (fun j oj hgj hne => ⟨by rw [qaco, if_neg hne] at hgj; exact hgj, hne, rfl⟩) (fun _ _ h => h) (fun _ _ => rfl)
        (fun j oj hj _ k hk => by subst hj; exact ⟨.inl ⟨j, _, hg, hk, rfl⟩, by have := (h.turn j _ hg k hk).2; rw [qagw]; exact this⟩)
        (fun i j _ _ hi hj hne => absurd (hi.trans hj.symm) hne)
        (fun hpres j oj hj hgj => by
         subst hj
         rw [qaco, if_pos rfl] at hgj
         cases hgj
         exact ⟨.slice (some ⟨g, 0, none⟩) es.length c, us, ⟨hl0, .inr ⟨g, c, cur, _, rfl, qanz w hbl hfz', .inr ⟨rfl, rfl⟩, hnc2, hmx, hcs, htk⟩⟩, ⟨hpres.reps hrep, huo⟩, hzs, hρ, hfp⟩)
       exact ⟨ρ, fp, h1, .own hρ hnc hm, h2, fun j hj => .inl hj⟩
   ·cases hr
  ·cases hr
 ·cases hr
theorem ok_app (h : SimH X ρ fp hp w) (hs : ∀ t, RepV w (Av X hp fp) ρ (gets sl t) (a.tmps.getD t undef)) {t e : TypeId} {i : TypeInfo} {z : List SV} {s x : Operand} {s' x' : SX} (ht : X.P.underlying t = some (.slice e)) (hz : qafh X.P e = some z) (hi : X.P.info? e = some i) (hpos : 0 < i.size) (hss : cx N s = some s') (hx : cx N x = some x')
  {nx nx' : Nat} {v : SV} {u : Upd} (hm : X.m ≤ nx) (hf : ρ nx = none) (hr : (SOp.app e i.size i.bytes s' x').run (·.ev sl) (geth hp) nx = some (v, u, nx')) : MOk X ρ fp hp w a (.call { callee := .builtin .append, args := #[s, x], argTypes := #[t, t] }) nx v u := by
 have rs := qabh hss hs
 have rx := qabh hx hs
 obtain ⟨i', zv, hi', hzv, hzs, hzl, hzo, hzr⟩ := qadi hz
 rw [hi] at hi'; cases hi'
 simp only [SOp.run] at hr
 split at hr
 ·cases hr
 ·rename_i ys hys
  obtain ⟨b, c, news, hvx, hnone, hnr, hno, hyz, hcell⟩ := src_of h rx hys hpos
  have hnl : news.length = ys.length * i.size := by rw [← hnr.1, qacp hyz]
  have run : ∀ (v0 : Value) (n : Nat) (vs : List Value), RowP w e i.size v0 n vs → (n + ys.length ≤ maxLen ∧ (n + ys.length) * i.bytes ≤ 140737488355328) → a.eval s = v0 →
    ∃ v' w', (∀ o : Oper, o.op = .call { callee := .builtin .append, args := #[s, x], argTypes := #[t, t] } → (execOp a.eval o).run X.P w = .ok (.value v') w') ∧ RowP w' e i.size v' (n + ys.length) (vs ++ news) ∧ w.grownBy w' v0.ownBlock ∧ (v'.ownBlock = v0.ownBlock ∨ ∀ k, v'.ownBlock = some k → w.heap.size ≤ k) := by
   intro v0 n vs how hb hv0
   have hcase : w.ownsRow 0 e i.size v0 n vs ∨ ∃ g cap cur, i.size = 1 ∧ v0 = .slice (some ⟨g, 0, none⟩) n cap ∧ w.heap[g]? = some (.cells cur e (cur.size, cur.size + 1)) ∧ n ≤ cap ∧ cap ≤ maxLen ∧ cur.size = cap * i.size ∧ cur.toList.take (n * i.size) = vs := by
    rcases how.2 with h2 | ⟨g, cap, cur, fz, h2, h3, h4, h5, h6, h7, h8⟩
    ·exact .inl ⟨how.1, .inl h2⟩
    ·rcases h4 with rfl | ⟨h4, rfl⟩
     ·exact .inl ⟨how.1, .inr ⟨g, cap, cur, h2, Nat.zero_le _, h3, h5, h6, h7, h8⟩⟩
     ·exact .inr ⟨g, cap, cur, h4, h2, h3, h5, h6, h7, h8⟩
   rcases hcase with how0 | ⟨g, cap, cur, hs1, rfl, hh, hnc, hmx, hcs, htk⟩
   ·cases b with
    | none =>
     obtain ⟨hy0, hc0⟩ := hnone rfl
     subst hy0 hc0
     have hn0 : news = [] := List.eq_nil_of_length_eq_zero (by simpa using hnl)
     subst hn0
     refine ⟨v0, w, fun o ho => ?_, by simpa using how, World.grownBy.refl _ _, .inl rfl⟩
     have := run_append_owned_none (P := X.P) (w := w) 0 t o.type e i i.size ht hi v0 n vs how0
     simp only [List.length_nil] at hvx
     simp [execOp, ho, resolve, invoke, builtin, hv0, hvx, this]
    | some ad =>
     have hrun := fun ty => run_append_own_at (P := X.P) w 0 t ty e i zv i.size i.bytes ht hi hzv rfl rfl hzs hpos v0 n vs how0 ad ys.length c news hnl (hcell ad rfl) hno hb.1 hb.2 (Nat.zero_le _)
     obtain ⟨v', w', h1, h2, h3, _, h5⟩ := hrun 0
     refine ⟨v', w', fun o ho => ?_, .of h2, h3, h5.imp (fun h => h) fun h k hk => by rw [hk] at h; cases h; exact Nat.le_refl _⟩
     have : (Builtin.append_ #[t, t] o.type #[v0, .slice (some ad) ys.length c]).run X.P w = .ok v' w' := h1
     simp [execOp, ho, resolve, invoke, builtin, hv0, hvx, this]
   ·have hroomE : ∀ ty, n + ys.length ≤ cap → (Builtin.append_ #[t, t] ty #[.slice (some ⟨g, 0, none⟩) n cap, .slice b ys.length c]).run X.P w = .ok (.slice (some ⟨g, 0, none⟩) (n + ys.length) cap) (w.setRow g (cur.toList.take (n * i.size) ++ news ++ cur.toList.drop (n * i.size + news.length)).toArray) := by
     intro ty hroom
     have hst := qacz (P := X.P) g (n * i.size) e news 0 cur _ w hh (.inr rfl) (by rw [hnl, hcs, Nat.add_zero, ← Nat.add_mul]; exact Nat.mul_le_mul_right _ hroom) hno
     rw [Nat.add_zero] at hst
     have hfc : (Builtin.firstCells i.size ys.length (.slice b ys.length c)).run X.P w = .ok news.toArray w := by
      cases b with
      | none =>
       obtain ⟨hy0, hc0⟩ := hnone rfl
       subst hy0 hc0
       have hn0 : news = [] := List.eq_nil_of_length_eq_zero (by simpa using hnl)
       subst hn0
       rfl
      | some ad => exact run_firstCells_some (P := X.P) w i.size ys.length ad ys.length c news hnl (hcell ad rfl)
     simp [Builtin.append_, run_underlying ht, sizeOf, typeInfo, hi, Builtin.lenOf, hroom, hfc, Addr.add_lit, hst]
    by_cases hroom : n + ys.length ≤ cap
    ·have hl1 : (cur.toList.take (n * i.size)).length = n * i.size := by rw [htk]; exact how.1
     have hle : (n + ys.length) * i.size ≤ cur.size := by rw [hcs]; exact Nat.mul_le_mul_right _ hroom
     rw [Nat.add_mul, ← hnl] at hle
     have hsz : (cur.toList.take (n * i.size) ++ news ++ cur.toList.drop (n * i.size + news.length)).toArray.size = cur.size := by
      simp only [List.size_toArray, List.length_append, hl1, List.length_drop, Array.length_toList]; omega
     refine ⟨_, _, fun o ho => ?_, ⟨by rw [List.length_append, how.1, hnl, Nat.add_mul], .inr ⟨g, cap, _, _, rfl, setRow_heap w g cur _ e _ hh, .inr ⟨hs1, by rw [hsz]⟩, hroom, hmx, by rw [hsz]; exact hcs, ?_⟩⟩, ⟨rfl, rfl, rfl, by simp, fun k hk hne => setRow_other w g k _ fun e => hne (by rw [e]; rfl)⟩, .inl rfl⟩
     ·have := hroomE o.type hroom
      simp [execOp, ho, resolve, invoke, builtin, hv0, hvx, this]
     ·rw [List.toList_toArray, Nat.add_mul, ← hnl, List.take_append_of_le_length (by rw [List.length_append, hl1]; exact Nat.le_refl _), List.take_of_length_le (by rw [List.length_append, hl1]; exact Nat.le_refl _), htk]
    ·cases b with
     | none =>
      obtain ⟨hy0, hc0⟩ := hnone rfl
      subst hy0 hc0
      exact absurd hnc (by simpa using hroom)
     | some ad =>
      have hcl := (qadd how rfl).2.1
      obtain ⟨v', w', h1, h2, h3⟩ := run_append_arg_grows (P := X.P) w t 0 e i zv i.size i.bytes ht hi hzv rfl rfl hzs hpos ⟨g, 0, none⟩ n cap vs how.1 (fun j u hu => by rw [qac4, Nat.zero_add]; exact hcl j u hu) ad ys.length c news hnl (hcell ad rfl) (by omega) hb.1 hb.2
      refine ⟨v', w', fun o ho => ?_, .of h2, ⟨h3.os, h3.tape, h3.output, h3.size, fun k hk _ => h3.block k hk (by simp)⟩, .inr fun k hk => (h2.lt k hk).1⟩
      have : (Builtin.append_ #[t, t] o.type #[.slice (some ⟨g, 0, none⟩) n cap, .slice (some ad) ys.length c]).run X.P w = .ok v' w' := h1
      simp [execOp, ho, resolve, invoke, builtin, hv0, hvx, this]
  split at hr
  ·rename_i he
   rw [he] at rs
   rw [qabw] at hr
   obtain ⟨hb, hr⟩ := hr
   cases hr
   generalize hv : a.eval s = vs at rs
   cases rs
   obtain ⟨v', w', h1, h2, h3, h5⟩ := run _ 0 [] (RowP.nil _ _ _) (by simpa using hb) hv
   rw [Nat.zero_add, List.nil_append] at h2
   refine ⟨v', w', fun o ho => .inl (h1 o ho), ?_⟩
   refine OpOut.row h hm hf e i.size ⟨h3.os, h3.tape, h3.output, h3.size, fun k hk => h3.block k hk (by simp [Value.ownBlock])⟩ h2 (fun k hk => ?_) hyz hnr hno
   rcases h5 with h5 | h5
   ·rw [hk] at h5; simp [Value.ownBlock] at h5
   ·exact h5 k hk
  ·rename_i id n he
   rw [he] at rs
   split at hr
   ·rename_i e' size' es hg
    have key : e = e' → i.size = size' → ∀ (es1 : List (List SV)) (v0 : Value) (us : List Value), RowP w e i.size v0 es1.length us → Reps w (Av X hp fp) ρ es1.flatten us → Ones us → (∀ x ∈ es1, x.length = i.size) → ρ id = some (qac5 v0) → (∀ k, fp id k ↔ v0.ownBlock = some k) → a.eval s = v0 → (es1.length + ys.length ≤ maxLen ∧ (es1.length + ys.length) * i.bytes ≤ 140737488355328) →
      MOk X ρ fp hp w a (.call { callee := .builtin .append, args := #[s, x], argTypes := #[t, t] }) nx (.own nx (es1.length + ys.length)) [(id, none), (nx, some (.row e i.size (es1 ++ ys)))] := by
      rintro rfl rfl es1 v0 us how hrep huo hzs' hρ' hfp hv0 hb
      obtain ⟨v', w', h1, h2, h3, h5⟩ := run v0 es1.length us how hb hv0
      refine ⟨v', w', fun o ho => .inl (h1 o ho), ?_⟩
      have hne : id ≠ nx := fun e => by subst e; rw [hf] at hρ'; cases hρ'
      have hfz : ∀ q ∈ es1 ++ ys, q.length = i.size := fun q hq => (List.mem_append.1 hq).elim (hzs' q) (hyz q)
      obtain ⟨q1, q2⟩ := h.change (hp' := puth (delh hp id) nx (.row e i.size (es1 ++ ys))) (ρ' := fun j => if j = nx then some (qac5 v') else ρ j) (fp' := fun j => if j = nx then fun k => v'.ownBlock = some k else fp j) (S := fun k => v0.ownBlock = some k) (fun j => j = id) (fun j => j = nx)
       (.grown h3 fun k hk => hk) (fun k hk => ⟨id, _, hg, (hfp k).2 hk, rfl⟩)
       (fun j oj hgj hj => by
        rw [qaco, if_neg hj, qafm] at hgj
        split at hgj
        ·cases hgj
        ·rename_i hji; exact ⟨hgj, hji, by simp [hj]⟩)
       (fun j q hq => by have hj : j ≠ nx := fun e => by rw [e, hf] at hq; cases hq
                         simp [hj, hq])
       (fun j hj => by have : j ≠ nx := by omega
                       simp [this])
       (fun j oj hj _ k hk => by
        subst hj
        simp only [if_true] at hk
        refine ⟨?_, (h2.lt k hk).2⟩
        rcases h5 with h5 | h5
        ·exact .inl ⟨id, _, hg, (hfp k).2 (by rw [← h5]; exact hk), rfl⟩
        ·exact .inr (h5 k hk))
       (fun j k _ _ hj hk hjk => absurd (hj.trans hk.symm) hjk)
       (fun hpres j oj hj hgj => by
        subst hj
        rw [qaco, if_pos rfl] at hgj
        cases hgj
        simp only [if_true]
        refine ⟨v', us ++ news, by rw [List.length_append]; exact h2, ⟨?_, fun q hq => (List.mem_append.1 hq).elim (huo q) (hno q)⟩, hfz, by simp, fun k => Iff.rfl⟩
        rw [List.flatten_append]
        exact (hpres.reps hrep).append (hpres.reps hnr))
      refine ⟨_, _, q1, ?_, q2, fun j hj => ?_⟩
      ·have hl2 : (es1 ++ ys).length = es1.length + ys.length := List.length_append
       rw [← hl2] at h2 ⊢
       rcases h2.2 with ⟨rfl, hn⟩ | ⟨g, cap, cur, fz, rfl, _, _, hn, hmx, _⟩
       ·rw [hn]; exact .own0 (by simp [qac5])
       ·exact .own (by simp [qac5]) hn hmx
      ·by_cases hjn : j = nx
       ·exact .inr hjn
       ·simp only [if_neg hjn] at hj; exact .inl hj
    split at hr
    ·rename_i hc
     obtain ⟨rfl, rfl, rfl⟩ := hc
     rw [qabw] at hr
     obtain ⟨hb, hr⟩ := hr
     cases hr
     obtain ⟨v0, us, how, ⟨hrep, huo⟩, hzs', hρ', hfp⟩ := h.objs id _ hg
     have hv0 : a.eval s = v0 := by
      generalize a.eval s = vs at rs
      rcases how.2 with ⟨rfl, hn0⟩ | ⟨g, cap, cur, fz, rfl, _⟩
      ·generalize hes : es.length = m at rs
       cases rs with
       | own0 hρ => rfl
       | own hρ => rw [hρ] at hρ'; cases hρ'
      ·generalize hes : es.length = m at rs
       cases rs with
       | own0 hρ => rw [hρ] at hρ'; cases hρ'
       | own hρ => rw [hρ] at hρ'; cases hρ'; rfl
     exact key rfl rfl es v0 us how hrep huo hzs' hρ' hfp hv0 hb
    ·split at hr
     ·rename_i hc
      obtain ⟨rfl, rfl, hlt⟩ := hc
      rw [qabw] at hr
      obtain ⟨hb, hr⟩ := hr
      cases hr
      obtain ⟨v0, us, how, ⟨hrep, huo⟩, hzs', hρ', hfp⟩ := h.objs id _ hg
      obtain ⟨hlen, hsh⟩ := how
      rcases hsh with ⟨rfl, hn0⟩ | ⟨g, cap, cur, fz, rfl, hgg, hfz, hnc, hmx, hcs, htk⟩
      ·omega
      ·have hv0 : a.eval s = .slice (some ⟨g, 0, none⟩) n cap := by
        generalize a.eval s = vs at rs
        cases rs with
        | own0 hρ => rw [hρ] at hρ'; cases hρ'
        | own hρ => rw [hρ] at hρ'; cases hρ'; rfl
       have hl1 : (es.take n).length = n := by rw [List.length_take]; omega
       have htf : (es.take n).flatten = es.flatten.take (n * i.size) := by
        have h1 : es.flatten = (es.take n).flatten ++ (es.drop n).flatten := by rw [← List.flatten_append, List.take_append_drop]
        have h2 : (es.take n).flatten.length = n * i.size := by rw [qacp (fun e he => hzs' e (List.mem_of_mem_take he)), hl1]
        rw [h1, ← h2, List.take_left]
       have hmul : n * i.size ≤ es.length * i.size := Nat.mul_le_mul_right _ (Nat.le_of_lt hlt)
       have k1 := key rfl rfl (es.take n) (.slice (some ⟨g, 0, none⟩) n cap) (us.take (n * i.size)) ?_ ?_ (fun u hu => huo u (List.mem_of_mem_take hu)) (fun q hq => hzs' q (List.mem_of_mem_take hq)) hρ' hfp hv0 (by rw [hl1]; exact hb)
       ·rw [hl1] at k1; exact k1
       ·rw [hl1]
        refine ⟨by rw [List.length_take, hlen]; omega, .inr ⟨g, cap, cur, fz, rfl, hgg, hfz, by omega, hmx, hcs, ?_⟩⟩
        rw [← htk, List.take_take, Nat.min_eq_left hmul]
       ·rw [htf]
        have := hrep.sub 0 (n * i.size)
        simpa using this
     ·cases hr
   ·cases hr
  ·cases hr
end Go.Proofs.Ytbefmmajjfijnaa
namespace Go.Proofs.Ytbefmmajjfijnaa
set_option linter.all false
open Go.RowKit
variable {X : Cx} {ρ : qab1} {fp : Nat → Nat → Prop} {hp : Hp} {w : World} {N : Nat} {a : Act} {sl : Sl}
theorem bi_ok (h : SimH X ρ fp hp w) (hs : ∀ t, RepV w (Av X hp fp) ρ (gets sl t) (a.tmps.getD t undef)) {b : Builtin} {args : Array Operand} {tys : Array TypeId} {so : SOp} (hc : cbi X.P N b args.toList tys.toList = some so) {nx nx' : Nat} {v : SV} {u : Upd} (hm : X.m ≤ nx) (hf : ρ nx = none)
  (hr : so.run (·.ev sl) (geth hp) nx = some (v, u, nx')) : MOk X ρ fp hp w a (.call { callee := .builtin b, args, argTypes := tys }) nx v u := by
 obtain ⟨args⟩ := args
 obtain ⟨tys⟩ := tys
 simp only at hc
 have pk : ∀ {op : Op} {v : SV} {u : Upd}, (u = [] ∧ POk X.P w (Av X hp fp) ρ a op v) → MOk X ρ fp hp w a op nx v u := by
  rintro op v u ⟨rfl, h1⟩; exact h1.mok h
 unfold cbi at hc
 split at hc <;> (try simp only [Option.bind_eq_bind, Option.bind_eq_some_iff, Option.some.injEq, reduceCtorEq] at hc)
 ·split at hc
  ·rename_i ht
   simp only [Option.bind_eq_some_iff, Option.some.injEq] at hc
   obtain ⟨x, hx, rfl⟩ := hc
   exact pk (ok_len hs hx (.inl ht) (by simp [ht]) hr)
  ·rename_i e ht
   simp only [Option.bind_eq_some_iff, Option.some.injEq] at hc
   obtain ⟨x, hx, rfl⟩ := hc
   exact pk (ok_len hs hx (.inr ⟨_, ht⟩) (by simp [ht]) hr)
  ·rename_i n e ht
   simp only [Option.some.injEq] at hc
   subst hc
   simp only [SOp.run] at hr; cases hr
   refine pk ⟨rfl, _, fun o ho => ?_, .int⟩
   simp [execOp, ho, resolve, invoke, builtin, Builtin.len_, run_underlying ht, goInt]
  ·cases hc
 ·split at hc
  ·rename_i e ht
   simp only [Option.bind_eq_some_iff] at hc
   obtain ⟨i, hi, z, hz, hc⟩ := hc
   split at hc
   ·rename_i hcc
    obtain ⟨rfl, hpos⟩ := hcc
    simp only [Option.bind_eq_some_iff, Option.some.injEq] at hc
    obtain ⟨s, hss, x, hx, rfl⟩ := hc
    exact ok_app h hs ht hz hi hpos hss hx hm hf hr
   ·cases hc
  ·cases hc
 ·obtain ⟨x, hx, y, hy, rfl⟩ := hc
  exact pk (ok_mm (mx := false) hs hx hy hr)
 ·obtain ⟨x, hx, y, hy, rfl⟩ := hc
  exact pk (ok_mm (mx := true) hs hx hy hr)
theorem op_ok (h : SimH X ρ fp hp w) (hs : ∀ t, RepV w (Av X hp fp) ρ (gets sl t) (a.tmps.getD t undef)) {ty : TypeId} {op : Op} {so : SOp} (hc : cop X.P N ty op = some so) {nx nx' : Nat} {v : SV} {u : Upd} (hm : X.m ≤ nx) (hf : ρ nx = none)
  (hr : so.run (·.ev sl) (geth hp) nx = some (v, u, nx')) : MOk X ρ fp hp w a op nx v u := by
 have hobj : ∀ id o, geth hp id = some o → ∃ fp', ObjRep w (Av X hp fp) ρ id fp' o := fun id o ho => ⟨_, h.objs id o ho⟩
 have pk : ∀ {v : SV} {u : Upd}, (u = [] ∧ POk X.P w (Av X hp fp) ρ a op v) → MOk X ρ fp hp w a op nx v u := by
  rintro v u ⟨rfl, h1⟩; exact h1.mok h
 unfold cop at hc
 split at hc <;> (try simp only [Option.bind_eq_bind, Option.bind_eq_some_iff, Option.some.injEq, reduceCtorEq] at hc)
 ·obtain ⟨y, hy, rfl⟩ := hc
  simp only [SOp.run] at hr; cases hr
  exact pk ⟨rfl, (ok_mv hs hy).1⟩
 ·obtain ⟨y, hy, rfl⟩ := hc
  simp only [SOp.run] at hr; cases hr
  exact pk ⟨rfl, (ok_mv hs hy).2⟩
 ·obtain ⟨c, h1, x, h2, y, h3, rfl⟩ := hc
  exact pk (ok_pick hs h1 h2 h3 hr)
 ·obtain ⟨z, hz, rfl⟩ := hc
  exact qa25 h hz hm hf hr
 ·obtain ⟨x, hx, rfl⟩ := hc
  exact ok_box h hs hx hm hf hr
 ·obtain ⟨z, hz, pl, hpl, q, hq, rfl⟩ := hc
  exact pk (qa24 hs hz hpl hq hr)
 ·split at hc
  ·rename_i e ht
   simp only [Option.bind_eq_bind, Option.bind_eq_some_iff, Option.some.injEq] at hc
   obtain ⟨z, hz, q, hq, size, hsz, hc⟩ := hc
   split at hc
   ·cases hc
    exact qa2z h hs ht hz hsz hq ‹_› hm hf hr
   ·cases hc
  ·cases hc
 ·obtain ⟨x, hx, b, hb, hc⟩ := hc
  cases b with
  | true =>
   simp only [if_true, Option.bind_eq_some_iff, Option.some.injEq] at hc
   obtain ⟨n, hn, rfl⟩ := hc
   exact pk (qasn hs hobj hx hb hn hr)
  | false =>
   simp only [Bool.false_eq_true, if_false, Option.some.injEq] at hc
   subst hc
   exact pk (qa1n hs hobj hx hb hr)
 ·obtain ⟨n, hn, x, hx, y, hy, rfl⟩ := hc
  exact qa2w h hs hx hy hn hr
 ·obtain ⟨x, hx, rfl⟩ := hc
  exact pk (ok_nilc hs hx hr)
 ·obtain ⟨x, hx, y, hy, hc⟩ := hc
  split at hc
  ·cases hc
   exact pk (ok_bin hs hx hy hr)
  ·split at hc
   ·split at hc
    ·rename_i k hk; cases hc
     exact pk (ok_eq (neg := false) hs hx hy hk hr)
    ·simp only [Option.map_eq_some_iff] at hc
     obtain ⟨ks, hk, rfl⟩ := hc
     exact pk (ok_eqs (neg := false) hs hx hy hk hr)
   ·split at hc
    ·rename_i k hk; cases hc
     exact pk (ok_eq (neg := true) hs hx hy hk hr)
    ·simp only [Option.map_eq_some_iff] at hc
     obtain ⟨ks, hk, rfl⟩ := hc
     exact pk (ok_eqs (neg := true) hs hx hy hk hr)
   ·cases hc
 ·obtain ⟨x, hx, rfl⟩ := hc
  exact pk (ok_un hs hx hr)
 ·split at hc
  ·rename_i j k h1 h2
   simp only [Option.bind_eq_some_iff, Option.some.injEq] at hc
   obtain ⟨x, hx, rfl⟩ := hc
   exact pk (ok_conv hs hx h1 h2 hr)
  ·rename_i e h1 h2
   split at hc
   ·rename_i he
    simp only [Option.bind_eq_bind, Option.bind_eq_some_iff, Option.some.injEq] at hc
    obtain ⟨x, hx, rfl⟩ := hc
    exact pk (ok_b2s h hs hx h1 he h2 hr)
   ·cases hc
  ·rename_i e e2 h1 h2
   split at hc
   ·rename_i he
    simp only [Option.bind_eq_bind, Option.bind_eq_some_iff, Option.some.injEq] at hc
    obtain ⟨x, hx, hc⟩ := hc
    split at hc
    ·rename_i hsd
     subst hsd
     cases hc
     exact ok_b2b h hs hx h1 he hr
    ·cases hc
   ·cases hc
  ·cases hc
 ·split at hc
  ·rename_i e ht
   simp only [Option.bind_eq_bind, Option.bind_eq_some_iff, Option.some.injEq] at hc
   obtain ⟨z, hz, i, hi, hc⟩ := hc
   split at hc
   ·simp only [Option.bind_eq_some_iff, Option.some.injEq] at hc
    obtain ⟨l, hl, c, hcc, rfl⟩ := hc
    exact qasm h hs ht hz hi ‹_› hl hcc hm hf hr
   ·cases hc
  ·cases hc
 ·obtain ⟨x, hx, lo, hlo, hi, hhi, hc⟩ := hc
  split at hc
  ·rename_i e ht
   simp only [Option.bind_eq_some_iff, Option.some.injEq] at hc
   obtain ⟨n, hn, rfl⟩ := hc
   exact pk (qa2y hs hx hlo hhi ht hn hr)
  ·rename_i ht
   cases hc
   exact pk (qa2x hs hx hlo hhi ht hr)
  ·cases hc
 ·split at hc
  ·rename_i fs ht
   simp only [Option.bind_eq_bind, Option.bind_eq_some_iff, Option.some.injEq] at hc
   obtain ⟨f, hf', hc⟩ := hc
   split at hc
   ·cases hc
   ·rename_i h0
    simp only [Option.bind_eq_some_iff, Option.some.injEq] at hc
    obtain ⟨x', hx, rfl⟩ := hc
    unfold qanb at hf'
    rw [ht] at hf'
    simp only at hf'
    split at hf'
    ·rename_i fd hfd
     simp only [Option.map_eq_some_iff] at hf'
     obtain ⟨n, hn, rfl⟩ := hf'
     exact pk (qa23 hs hx ht hfd hn h0 hr)
    ·cases hf'
  ·cases hc
 ·split at hc
  ·rename_i fs ht
   simp only [Option.bind_eq_bind, Option.bind_eq_some_iff, Option.some.injEq] at hc
   obtain ⟨f, hf', b, hb, x', hx, rfl⟩ := hc
   unfold qanb at hf'
   rw [ht] at hf'
   simp only at hf'
   split at hf'
   ·rename_i fd hfd
    simp only [Option.map_eq_some_iff] at hf'
    obtain ⟨n, hn, rfl⟩ := hf'
    exact pk (qa22 hs hx ht hfd hn hb hr)
   ·cases hf'
  ·cases hc
 ·obtain ⟨x, hx, i, hi, hc⟩ := hc
  split at hc
  ·rename_i e ht
   simp only [Option.bind_eq_some_iff, Option.some.injEq] at hc
   obtain ⟨n, hn, rfl⟩ := hc
   exact pk (qa21 hs hx hi ht hn hr)
  ·rename_i n e ht
   simp only [Option.bind_eq_some_iff, Option.some.injEq] at hc
   obtain ⟨m, hn, rfl⟩ := hc
   exact pk (ok_iarr hs hx hi ht hn hr)
  ·cases hc
 ·obtain ⟨x, hx, i, hi, hc⟩ := hc
  split at hc
  ·rename_i ht
   cases hc
   exact pk (ok_idxs hs hx hi ht hr)
  ·rename_i n e ht
   simp only [Option.bind_eq_some_iff, Option.some.injEq] at hc
   obtain ⟨m, hn, b, hb, rfl⟩ := hc
   exact pk (ok_idx hs hx hi ht hn hb hr)
  ·cases hc
 ·obtain ⟨x, hx, rfl⟩ := hc
  exact pk (ok_extr hs hx hr)
 ·split at hc
  ·cases hc
  ·rename_i d hni ht
   simp only [Option.bind_eq_bind, Option.bind_eq_some_iff, Option.some.injEq] at hc
   obtain ⟨x, hx, rfl⟩ := hc
   exact pk (qa20 hs hx ht (fun l e => hni l e) hr)
  ·cases hc
 ·split at hc
  ·cases hc
  ·rename_i d hni ht
   simp only [Option.bind_eq_bind, Option.bind_eq_some_iff, Option.some.injEq] at hc
   obtain ⟨z, hz, x, hx, rfl⟩ := hc
   exact pk (ok_asrt hs hx ht (fun l e => hni l e) hz hr)
  ·cases hc
 ·obtain ⟨x, hx, y, hy, rfl⟩ := hc
  exact pk (ok_mkfn hs hx hy hr)
 ·rename_i b args tys
  exact bi_ok h hs hc hm hf hr
end Go.Proofs.Ytbefmmajjfijnaa
namespace Go.Proofs.Ytbefmmajjfijnaa
set_option linter.all false
open Go.RowKit
structure HeapOk (O : Nat → Prop) (ρ : qab1) (fp : Nat → Nat → Prop) (hp : Hp) (w : World) : Prop where
 objs : ∀ id o, geth hp id = some o → ObjRep w (fun k => O k ∨ Live hp fp k) ρ id (fp id) o
 disj : ∀ id id' o o', id ≠ id' → geth hp id = some o → geth hp id' = some o' → ∀ k, fp id k → ¬ fp id' k
 lt : ∀ k, Live hp fp k → k < w.heap.size ∧ ¬ O k
 O_lt : ∀ k, O k → k < w.heap.size
def Enters (P : Program) (f : FuncId) : Prop := ∀ args (w : World), (callFunc f args).run P w = .ok (.enter f args) w
def Meth (P : Program) (g : Nat → Option SObj) (t : TypeId) (x : SV) (nm : String) (f : FuncId) (x' : SV) : Prop :=
 ∀ (w : World) (A : Nat → Prop) (ρ : qab1) (v : Value), (∀ id o, g id = some o → ∃ fp, ObjRep w A ρ id fp o) → RepV w A ρ x v → ∃ v', (method (P.types.size + Made.depth) t v nm).run P w = .ok (f, v') w ∧ RepV w A ρ x' v'
structure SCalls (P : Program) (f : FuncId) (args : List SV) (h1 : Hp) (q : Nat) (r : SV) (h2 : Hp) (n : Nat := 8) : Prop where
 ent : Enters P f
 does : ∀ (O : Nat → Prop) (ρ : qab1) (fp : Nat → Nat → Prop) (w : World) (vs : List Value), HeapOk O ρ fp h1 w → Reps w (fun k => O k ∨ Live h1 fp k) ρ args vs → (∀ id, q ≤ id → id < q + n → ρ id = none) →
  Calls P f vs.toArray w fun e w' => ∃ v ρ' fp', e = .returned v ∧ HeapOk O ρ' fp' h2 w' ∧ RepV w' (fun k => O k ∨ Live h2 fp' k) ρ' r v ∧ Step (Live h1 fp) w w' ∧
   (∀ id p, ρ id = some p → ρ' id = some p) ∧ (∀ id, ρ' id ≠ none → ρ id ≠ none ∨ (q ≤ id ∧ id < q + n)) ∧ ∀ id o, geth h2 id = some o → ∀ k, fp' id k → Live h1 fp k ∨ w.heap.size ≤ k
def dels : Hp → Hp → Hp → Hp
 | h, [], _ => h
 | h, (i, _) :: r, h2 => dels (match geth h2 i with | some _ => h | none => delh h i) r h2
def adds : Hp → Hp → Hp
 | h, [] => h
 | h, (i, o) :: r => adds (puth h i o) r
def qaby (hp h1 h2 : Hp) : Hp := adds (dels hp h1 h2) h2
def Uniq : Hp → Prop
 | [] => True
 | (i, _) :: r => geth r i = none ∧ Uniq r
def SubH (hp : Hp) : Hp → Prop
 | [] => True
 | (i, o) :: r => geth hp i = some o ∧ SubH hp r
theorem SubH.get {hp : Hp} : ∀ {h1 : Hp}, SubH hp h1 → ∀ id o, geth h1 id = some o → geth hp id = some o
 | [], _, id, o, h => by cases h
 | (i, x) :: r, h, id, o, hg => by
  simp only [geth] at hg
  split at hg
  ·rename_i e; subst e; cases hg; exact h.1
  ·exact SubH.get h.2 id o hg
theorem qam8 : ∀ (h1 hp h2 : Hp) (id : Nat), geth (dels hp h1 h2) id = if geth h1 id ≠ none ∧ geth h2 id = none then none else geth hp id
 | [], hp, h2, id => by simp [dels, geth]
 | (i, x) :: r, hp, h2, id => by
  rw [dels, qam8 r]
  by_cases e : i = id
  ·subst e
   cases h : geth h2 i with
   | some o => simp [geth]
   | none => simp [geth, qafm]
  ·cases h : geth h2 i with
   | some o => simp [geth, e]
   | none => simp [geth, e, qafm, Ne.symm e]
theorem qam9 : ∀ (h2 hp : Hp), Uniq h2 → ∀ id, geth (adds hp h2) id = match geth h2 id with | some o => some o | none => geth hp id
 | [], hp, _, id => rfl
 | (i, x) :: r, hp, hu, id => by
  rw [adds, qam9 r _ hu.2]
  by_cases e : i = id
  ·subst e
   rw [hu.1]; simp [geth, qaco]
  ·simp only [geth, if_neg e]
   split
   ·rfl
   ·rw [qaco, if_neg (Ne.symm e)]
theorem qaeu {hp h1 h2 : Hp} (hu : Uniq h2) (id : Nat) : geth (qaby hp h1 h2) id = match geth h2 id with | some o => some o | none => if geth h1 id ≠ none then none else geth hp id := by
 unfold qaby
 rw [qam9 _ _ hu, qam8]
 cases h : geth h2 id with
 | some o => rfl
 | none => simp
variable {X : Cx} {ρ : qab1} {fp : Nat → Nat → Prop} {hp : Hp} {w : World} {N : Nat} {a : Act} {sl : Sl}
theorem ObjRep.weaken {A A' : Nat → Prop} {id : Nat} {F : Nat → Prop} {o : SObj} (h : ObjRep w A ρ id F o) (hA : ∀ k, A' k → k < w.heap.size → A k) : ObjRep w A' ρ id F o :=
 h.mono ⟨.refl _ _, hA, fun _ _ h => h⟩ fun _ _ => rfl
theorem Reps.weaken {A A' : Nat → Prop} {x : List SV} {v : List Value} (h : Reps w A ρ x v) (hA : ∀ k, A' k → k < w.heap.size → A k) : Reps w A' ρ x v := h.mono (.refl _ _) hA fun _ _ h => h
def Rest (X : Cx) (fp : Nat → Nat → Prop) (hp h1 : Hp) (k : Nat) : Prop := X.O k ∨ ∃ id o, geth hp id = some o ∧ geth h1 id = none ∧ fp id k
theorem Rest.av {h1 : Hp} (hsub : ∀ id o, geth h1 id = some o → geth hp id = some o) (k : Nat) : (Rest X fp hp h1 k ∨ Live h1 fp k) ↔ Av X hp fp k := by
 constructor
 ·rintro ((h | ⟨id, o, h1, _, h3⟩) | ⟨id, o, h1, h2⟩)
  ·exact .inl h
  ·exact .inr ⟨id, o, h1, h3⟩
  ·exact .inr ⟨id, o, hsub _ _ h1, h2⟩
 ·rintro (h | ⟨id, o, h3, h4⟩)
  ·exact .inl (.inl h)
  ·cases e : geth h1 id with
   | none => exact .inl (.inr ⟨id, o, h3, e, h4⟩)
   | some o' => exact .inr ⟨id, o', e, h4⟩
theorem SimH.part (h : SimH X ρ fp hp w) {h1 : Hp} (hsub : ∀ id o, geth h1 id = some o → geth hp id = some o) : HeapOk (Rest X fp hp h1) ρ fp h1 w := by
 refine ⟨fun id o ho => (h.objs id o (hsub _ _ ho)).weaken fun k hk _ => (Rest.av hsub k).1 hk, fun id id' o o' hne ho ho' => h.disj id id' o o' hne (hsub _ _ ho) (hsub _ _ ho'), ?_, ?_⟩
 ·rintro k ⟨id, o, ho, hk⟩
  have ht := h.turn id o (hsub _ _ ho) k hk
  refine ⟨ht.2, ?_⟩
  rintro (hO | ⟨id', o', ho', hn, hk'⟩)
  ·rcases ht.1 with hM | hM
   ·exact X.O_M k hO hM
   ·exact absurd (X.O_lt k hO) (Nat.not_lt_of_le hM)
  ·have hne : id ≠ id' := fun e => by rw [e, hn] at ho; cases ho
   exact h.disj id id' o o' hne (hsub _ _ ho) ho' k hk hk'
 ·rintro k (hO | ⟨id', o', ho', hn, hk'⟩)
  ·exact Nat.lt_of_lt_of_le (X.O_lt k hO) h.step.size
  ·exact (h.turn id' o' ho' k hk').2
theorem SimH.called (h : SimH X ρ fp hp w) {h1 h2 : Hp} (hsub : ∀ id o, geth h1 id = some o → geth hp id = some o) (hu : Uniq h2) {ρ' : qab1} {fp' : Nat → Nat → Prop} {w' : World} {q n : Nat} (hq : X.m ≤ q)
  (hk : HeapOk (Rest X fp hp h1) ρ' fp' h2 w') (hst : Step (Live h1 fp) w w') (hρ : ∀ id p, ρ id = some p → ρ' id = some p) (hn : ∀ id, ρ' id ≠ none → ρ id ≠ none ∨ (q ≤ id ∧ id < q + n))
  (hfp : ∀ id o, geth h2 id = some o → ∀ k, fp' id k → Live h1 fp k ∨ w.heap.size ≤ k) :
  SimH X ρ' (fun id k => (geth h2 id ≠ none ∧ fp' id k) ∨ (geth h2 id = none ∧ fp id k)) (qaby hp h1 h2) w' ∧ Pres w (Av X hp fp) ρ w' (Av X (qaby hp h1 h2) (fun id k => (geth h2 id ≠ none ∧ fp' id k) ∨ (geth h2 id = none ∧ fp id k))) ρ' ∧
   ∀ k, Av X (qaby hp h1 h2) (fun id k => (geth h2 id ≠ none ∧ fp' id k) ∨ (geth h2 id = none ∧ fp id k)) k → Rest X fp hp h1 k ∨ Live h2 fp' k := by
 have e2 : ∀ id o, geth h2 id = some o → (fun k => (geth h2 id ≠ none ∧ fp' id k) ∨ (geth h2 id = none ∧ fp id k)) = fp' id := fun id o ho => by
  funext k; simp [ho]
 have e0 : ∀ id, geth h2 id = none → (fun k => (geth h2 id ≠ none ∧ fp' id k) ∨ (geth h2 id = none ∧ fp id k)) = fp id := fun id ho => by
  funext k; simp [ho]
 have hav : ∀ k, Av X (qaby hp h1 h2) (fun id k => (geth h2 id ≠ none ∧ fp' id k) ∨ (geth h2 id = none ∧ fp id k)) k → Rest X fp hp h1 k ∨ Live h2 fp' k := by
  rintro k (hO | ⟨id, o, ho, hk'⟩)
  ·exact .inl (.inl hO)
  ·rw [qaeu hu] at ho
   cases e : geth h2 id with
   | some o' => rcases hk' with ⟨_, hk'⟩ | ⟨h3, _⟩
                ·exact .inr ⟨id, o', e, hk'⟩
                ·rw [e] at h3; cases h3
   | none =>
    rw [e] at ho
    simp only at ho
    split at ho
    ·cases ho
    ·rename_i h1n
     rcases hk' with ⟨h3, _⟩ | ⟨_, hk'⟩
     ·exact absurd e h3
     ·exact .inl (.inr ⟨id, o, ho, by simpa using h1n, hk'⟩)
 obtain ⟨q1, q2⟩ := h.change (hp' := qaby hp h1 h2) (ρ' := ρ') (fp' := fun id k => (geth h2 id ≠ none ∧ fp' id k) ∨ (geth h2 id = none ∧ fp id k)) (S := Live h1 fp) (fun id => geth h1 id ≠ none) (fun id => geth h2 id ≠ none) hst
  (fun k ⟨id, o, ho, hk'⟩ => ⟨id, o, hsub _ _ ho, hk', by rw [ho]; simp⟩)
  (fun id o ho hnew => by
   have e : geth h2 id = none := by simpa using hnew
   rw [qaeu hu, e] at ho
   simp only at ho
   split at ho
   ·cases ho
   ·rename_i h3; exact ⟨ho, h3, e0 id e⟩)
  hρ
  (fun id hid => by
   cases e : ρ id with
   | some p => exact hρ _ _ e
   | none =>
    cases e' : ρ' id with
    | none => rfl
    | some p => rcases hn id (by rw [e']; simp) with h3 | h3
                ·exact absurd e h3
                ·omega)
  (fun id o hnew ho k hk' => by
   obtain ⟨o', e⟩ := Option.ne_none_iff_exists'.1 hnew
   have hk2 : fp' id k := by rw [← e2 id o' e]; exact hk'
   refine ⟨?_, (hk.lt k ⟨id, o', e, hk2⟩).1⟩
   rcases hfp id o' e k hk2 with ⟨j, oj, h3, h4⟩ | h3
   ·exact .inl ⟨j, oj, hsub _ _ h3, h4, by rw [h3]; simp⟩
   ·exact .inr h3)
  (fun id id' o o' hnew hnew' hne _ _ k hk1 hk2 => by
   obtain ⟨x, e⟩ := Option.ne_none_iff_exists'.1 hnew
   obtain ⟨y, e'⟩ := Option.ne_none_iff_exists'.1 hnew'
   have a1 : fp' id k := by rw [← e2 id x e]; exact hk1
   have a2 : fp' id' k := by rw [← e2 id' y e']; exact hk2
   exact hk.disj id id' x y hne e e' k a1 a2)
  (fun _ id o hnew ho => by
   obtain ⟨x, e⟩ := Option.ne_none_iff_exists'.1 hnew
   rw [qaeu hu, e] at ho
   cases ho
   rw [show (fun k => (geth h2 id ≠ none ∧ fp' id k) ∨ (geth h2 id = none ∧ fp id k)) = fp' id from e2 id _ e]
   exact (hk.objs id _ e).weaken fun k hk' _ => hav k hk')
 exact ⟨q1, q2, hav⟩
end Go.Proofs.Ytbefmmajjfijnaa
namespace Go.Proofs.Ytbefmmajjfijnaa
set_option linter.all false
open Go.RowKit
def putd (l : Sl) (dst : Option Nat) (v : SV) : Sl := match dst with
 | none => l
 | some d => puts l d v
structure Tch where
 rd : List Nat
 wr : List Nat
def idOf : SV → List Nat
 | .ptr id _ | .eptr id _ _ _ | .own id _ | .owno id _ _ _ => [id]
 | _ => []
def SOp.touch (ev : SX → SV) : SOp → List Nat
 | .load x | .loads _ x | .store _ x _ | .b2s x | .b2b x => idOf (ev x)
 | .app _ _ _ s x => idOf (ev s) ++ idOf (ev x)
 | _ => []
def idsH (h : Hp) : List Nat := h.map (·.1)
def SOp1 (P : Program) (o : SOper) (s : SSt) (K : SSt → Tch → Prop) : Prop := match o.cal with
 | some (f, args) => match f.ev s.sl with
  | .fn (.func g) first cap => ∃ h1 r h2 rd n, SCalls P g (first ++ args.map (·.ev s.sl) ++ cap) h1 s.nx r h2 n ∧ SubH s.hp h1 ∧ Uniq h2 ∧ (∀ id ∈ rd, geth h2 id = geth h1 id) ∧
    K ⟨putd s.sl o.dst r, qaby s.hp h1 h2, s.nx + n⟩ ⟨rd, (idsH h1 ++ idsH h2).filter fun i => !rd.contains i⟩
  | .fn (.method nm) [] [] => match (args.map (fun x : SX => x.ev s.sl) : List SV) with
   | .ifc t x :: az => ∃ hm x' g h1 r h2 rd n, SubH s.hp hm ∧ Meth P (geth hm) t x nm g x' ∧ SCalls P g (x' :: az) h1 s.nx r h2 n ∧ SubH s.hp h1 ∧ Uniq h2 ∧ (∀ id ∈ rd, geth h2 id = geth h1 id) ∧
    K ⟨putd s.sl o.dst r, qaby s.hp h1 h2, s.nx + n⟩ ⟨idsH hm ++ rd, (idsH h1 ++ idsH h2).filter fun i => !rd.contains i⟩
   | _ => False
  | _ => False
 | none => match o.op.run (·.ev s.sl) (geth s.hp) s.nx with
  | some (v, u, _) => K ⟨putd s.sl o.dst v, upds s.hp u, s.nx + 1⟩ ⟨o.op.touch (·.ev s.sl), u.map (·.1)⟩
  | none => False
def SSt.skip (s : SSt) (o : SOper) : SSt := ⟨putd s.sl o.dst (.tup []), s.hp, s.nx⟩
def SOps (P : Program) : List SOper → SSt → List Tch → (SSt → List Tch → Prop) → Prop
 | [], s, tr, Q => Q s tr
 | o :: os, s, tr, Q => match o.grd with
  | none => SOp1 P o s fun s' x => SOps P os s' (x :: tr) Q
  | some (t, want) => match gets s.sl t with
   | .bool b => (b = want → SOp1 P o s fun s' x => SOps P os s' (x :: tr) Q) ∧ (b ≠ want → SOps P os (s.skip o) (⟨[], []⟩ :: tr) Q)
   | .tup [] => SOps P os (s.skip o) (⟨[], []⟩ :: tr) Q
   | _ => False
structure SimF (X : Cx) (ρ : qab1) (fp : Nat → Nat → Prop) (s : SSt) (a : Act) (w : World) : Prop where
 sim : Sim X ρ fp s a w
 fresh : ∀ id, s.nx ≤ id → ρ id = none
 le : X.m ≤ s.nx
theorem Enters.of {P : Program} {f : FuncId} {fn : Func} (hf : P.funcs[f]? = some fn) (hb : fn.body.isSome = true) (hn : (fn.name == "runtime.NumGoroutine") = false) : Enters P f := fun args w => by
 have hb' : fn.body.isNone = false := by cases h : fn.body <;> simp_all
 unfold callFunc
 simp only [Sem.run_bind, run_program, Result.andThen_ok, hf, hn, hb', Bool.false_eq_true, if_false, Sem.run_pure]
variable {X : Cx} {ρ : qab1} {fp : Nat → Nat → Prop} {w : World} {a : Act} {s : SSt}
theorem Sim.put (h : Sim X ρ fp s a w) {ρ' : qab1} {fp' : Nat → Nat → Prop} {hp' : Hp} {w' : World} {nx' : Nat} (hh : SimH X ρ' fp' hp' w') (hp : Pres w (Av X s.hp fp) ρ w' (Av X hp' fp') ρ') {v : SV} {v' : Value} (hv : RepV w' (Av X hp' fp') ρ' v v') {dst : Option Nat} (hd : dst.all (· < X.N) = true) :
  Sim X ρ' fp' ⟨putd s.sl dst v, hp', nx'⟩ (a.put dst v') w' := by
 cases dst with
 | none => exact ⟨hh, h.tmps, h.defers, fun t => hp.rep (h.slots t)⟩
 | some d =>
  have hd' : d < a.tmps.size := by rw [h.tmps]; simpa using hd
  refine ⟨hh, by simp [Act.put, h.tmps], h.defers, fun t => ?_⟩
  show RepV w' (Av X hp' fp') ρ' (gets (puts s.sl d v) t) ((a.tmps.setIfInBounds d v').getD t undef)
  rw [qafk]
  by_cases e : t = d
  ·subst e
   rw [if_pos rfl]
   simp [hd']
   exact hv
  ·rw [if_neg e]
   have := hp.rep (h.slots t)
   simpa [Array.getElem?_setIfInBounds_ne (Ne.symm e)] using this
theorem qad1 {P : Program} {N : Nat} {ops : Array Oper} {o : Oper} {b : Nat} {so : SOper} (h : qa32 P N ops o b = some so) : so.dst = o.dst ∧ o.dst.all (· < N) = true ∧ cgrd ops o.guard = some so.grd ∧ so.bef = b ∧
  ((so.cal = none ∧ (cop P N o.type o.op = some so.op ∨ so.op = SOp.bad)) ∨ (∃ f args g gs tys, so.cal = some (f, args) ∧ o.op = .call { callee := .value g, args := gs, argTypes := tys } ∧ cx N g = some f ∧ gs.toList.mapM (cx N) = some args) ∨ ∃ r args nm g gs tys, so.cal = some (.c (.fn (.method nm) [] []), r :: args) ∧ o.op = .call { callee := .invoke g nm, args := gs, argTypes := tys } ∧ cx N g = some r ∧ gs.toList.mapM (cx N) = some args) := by
 unfold qa32 at h
 split at h
 ·rename_i hd
  split at h
  ·cases h
  ·rename_i g hg
   split at h
   ·rename_i f args tys hop
    simp only [Option.map_eq_some_iff] at h
    obtain ⟨c, hc, rfl⟩ := h
    unfold ccal at hc
    split at hc
    ·rename_i f' l h1 h2
     cases hc
     exact ⟨rfl, hd, hg, rfl, .inr (.inl ⟨f', l, f, args, tys, rfl, hop, h1, h2⟩)⟩
    ·cases hc
   ·rename_i f nm args tys hop
    simp only [Option.map_eq_some_iff] at h
    obtain ⟨c, hc, rfl⟩ := h
    unfold ccal at hc
    split at hc
    ·rename_i f' l h1 h2
     cases hc
     exact ⟨rfl, hd, hg, rfl, .inr (.inr ⟨f', l, nm, f, args, tys, rfl, hop, h1, h2⟩)⟩
    ·cases hc
   ·cases h
    refine ⟨rfl, hd, hg, rfl, .inl ⟨rfl, ?_⟩⟩
    cases hc : cop P N o.type o.op with
    | none => exact .inr rfl
    | some op => exact .inl rfl
 ·cases h
theorem Yld.upon {P : Program} {o : Oper} {next : Act → World → Prop} {Q : Exit → Act → World → Prop} {v : Value} {w' : World} (h : Yld ((execOp a.eval o).run P w) v w') (hn : next (a.put o.dst v) w') : o.wp P a w next Q := by
 unfold Oper.wp
 rcases h with h | ⟨h, rfl⟩ <;> rw [h] <;> exact hn
theorem qahk {P : Program} {w : World} {A : Nat → Prop} {ρ : qab1} {g0 : Nat → Option SObj} (hobj : ∀ id o, g0 id = some o → ∃ fp, ObjRep w A ρ id fp o) {t : TypeId} {x x' : SV} {nm : String} {g : FuncId} (hM : Meth P g0 t x nm g x') (hent : Enters P g) {az : List SV} {vals : List Value} (hr : Reps w A ρ (.ifc t x :: az) vals) :
  ∃ v' avs, (invoke (.fn (.method nm) #[]) vals.toArray).run P w = .ok (.enter g (v' :: avs).toArray) w ∧ Reps w A ρ (x' :: az) (v' :: avs) := by
 obtain ⟨vx, avs, rfl, rx, ras⟩ := hr.cons_inv
 cases rx with
 | ifc rx =>
  rename_i v
  obtain ⟨v', h1, h2⟩ := hM w A ρ v hobj rx
  refine ⟨v', avs, ?_, Reps.cons h2 ras⟩
  have e0 : (Value.iface t v :: avs).toArray[0]? = some (.iface t v) := by simp
  have e1 : (Value.iface t v :: avs).toArray.extract 1 (Value.iface t v :: avs).toArray.size = avs.toArray := by simp
  have e2 : (#[v'] ++ avs.toArray) = (v' :: avs).toArray := by simp
  have hp : (program : Sem Program).run P w = .ok P w := rfl
  simp only [invoke, e0, callMethod, Sem.run_bind, hp, Result.andThen_ok, e1, h1, e2]
  exact hent _ _
theorem op1_ok {ops : Array Oper} {o : Oper} {b : Nat} {so : SOper} (hc : qa32 X.P X.N ops o b = some so) {K : SSt → Tch → Prop} (hk : SOp1 X.P so s K) (h : SimF X ρ fp s a w) {next : Act → World → Prop} {Q : Exit → Act → World → Prop}
  (hn : ∀ s' x ρ' fp' a' w', K s' x → SimF X ρ' fp' s' a' w' → next a' w') : o.wp X.P a w next Q := by
 obtain ⟨hdst, hd, _, _, hop⟩ := qad1 hc
 unfold SOp1 at hk
 rcases hop with ⟨hcal, hop⟩ | ⟨f, args, g, gs, tys, hcal, hop, hf, hargs⟩ | ⟨r, args, nm, g, gs, tys, hcal, hop, hf, hargs⟩
 ·rw [hcal] at hk
  simp only at hk
  split at hk
  ·rename_i v u nx' hr
   replace hop := hop.resolve_right fun e => by rw [e] at hr; simp [SOp.run, SX.ev] at hr
   obtain ⟨v', w', h1, ρ', fp', h2, h3, h4, h5⟩ := op_ok h.sim.h h.sim.slots hop h.le (h.fresh _ (Nat.le_refl _)) hr
   refine (h1 o rfl).upon (hn _ _ ρ' fp' _ _ hk ⟨?_, fun id hid => ?_, ?_⟩)
   ·have := h.sim.put (nx' := s.nx + 1) h2 h4 h3 (dst := so.dst) (by rw [hdst]; exact hd)
    rw [hdst] at this ⊢; exact this
   ·cases e : ρ' id with
    | none => rfl
    | some p =>
     simp only at hid
     rcases h5 id (by rw [e]; simp) with h6 | h6
     ·exact absurd (h.fresh id (by omega)) h6
     ·omega
   ·have := h.le; simp only; omega
  ·cases hk
 all_goals
  have fin : ∀ {g' : FuncId} {args' : List SV} {h1 h2 : Hp} {r : SV} {nn : Nat} {tch : Tch} (vals : List Value), SCalls X.P g' args' h1 s.nx r h2 nn → SubH s.hp h1 → Uniq h2 → Reps w (Av X s.hp fp) ρ args' vals → (execOp a.eval o).run X.P w = .ok (.enter g' vals.toArray) w → K ⟨putd s.sl so.dst r, qaby s.hp h1 h2, s.nx + nn⟩ tch → o.wp X.P a w next Q := by
   rintro g' args' h1 h2 r nn tch vals ⟨hent, hcall⟩ hsub hu hreps0 hrun hk
   have hsub' := hsub.get
   have hav : ∀ k, (Rest X fp s.hp h1 k ∨ Live h1 fp k) → Av X s.hp fp k := fun k hk => (Rest.av hsub' k).1 hk
   have hreps := hreps0.weaken fun k hk _ => hav k hk
   have := hcall (Rest X fp s.hp h1) ρ fp w _ (h.sim.h.part hsub') hreps (fun id h3 _ => h.fresh id h3)
   unfold Oper.wp
   rw [hrun, Oper.upon_enter]
   refine this.mono ?_
   rintro e w' ⟨v, ρ', fp', rfl, q1, q2, q3, q4, q5, q6⟩
   obtain ⟨p1, p2, p3⟩ := h.sim.h.called hsub' hu (q := s.nx) h.le q1 q3 q4 q5 q6
   refine hn _ _ ρ' (fun id k => (geth h2 id ≠ none ∧ fp' id k) ∨ (geth h2 id = none ∧ fp id k)) _ _ hk ⟨?_, fun id hid => ?_, ?_⟩
   ·have := h.sim.put (nx' := s.nx + nn) p1 p2 (q2.weaken fun k hk _ => p3 k hk) (dst := so.dst) (by rw [hdst]; exact hd)
    rw [hdst] at this ⊢; exact this
   ·cases e : ρ' id with
    | none => rfl
    | some p =>
     simp only at hid
     rcases q5 id (by rw [e]; simp) with h6 | h6
     ·exact absurd (h.fresh id (by omega)) h6
     ·omega
   ·have := h.le; simp only; omega
  have hobj : ∀ {hm : Hp}, SubH s.hp hm → ∀ id o, geth hm id = some o → ∃ fp', ObjRep w (Av X s.hp fp) ρ id fp' o := fun hs id o ho => ⟨_, h.sim.h.objs id o (hs.get id o ho)⟩
 ·rw [hcal] at hk
  simp only at hk
  have rf := qabh hf h.sim.slots
  have rargs := qaee hargs h.sim.slots
  generalize hgv : a.eval g = gv at rf
  split at hk
  ·rename_i g' first cap hfv
   obtain ⟨h1, r, h2, rd, nn, hS, hsub, hu, _, hk⟩ := hk
   rw [hfv] at rf
   cases rf with
   | fn l1 l2 r1 r2 =>
    rename_i vs us
    refine fin (vs ++ gs.toList.map a.eval ++ us) hS hsub hu (Reps.append (Reps.append ⟨l1, r1⟩ rargs) ⟨l2, r2⟩) ?_ hk
    have e1 : (vs.toArray ++ gs.map a.eval ++ us.toArray) = (vs ++ gs.toList.map a.eval ++ us).toArray := by apply Array.ext'; simp
    simp only [execOp, hop, resolve, hgv, Deferred.ofValue, Sem.run_bind, Sem.run_pure, Result.andThen_ok, invoke, e1]
    exact hS.ent _ _
  ·rename_i nm hfv
   split at hk
   ·rename_i t x az hav
    obtain ⟨hm, x', g', h1, r, h2, rd, nn, hsm, hM, hS, hsub, hu, _, hk⟩ := hk
    rw [hfv] at rf
    cases rf with
    | fn l1 l2 r1 r2 =>
     rename_i vs us
     obtain rfl := List.eq_nil_of_length_eq_zero l1.symm
     obtain rfl := List.eq_nil_of_length_eq_zero l2.symm
     rw [show args.map (·.ev s.sl) = .ifc t x :: az from hav] at rargs
     obtain ⟨v', avs, h3, h4⟩ := qahk (hobj hsm) hM hS.ent rargs
     refine fin (v' :: avs) hS hsub hu h4 ?_ hk
     have e1 : (([] : List Value).toArray ++ gs.map a.eval) = (gs.toList.map a.eval).toArray := by apply Array.ext'; simp
     have e2 : ([] : List Value).toArray = #[] := rfl
     simp only [execOp, hop, resolve, hgv, Deferred.ofValue, Sem.run_bind, Sem.run_pure, Result.andThen_ok, e1]
     exact h3
   ·cases hk
  ·cases hk
 ·rw [hcal] at hk
  simp only [SX.ev] at hk
  have rf := qabh hf h.sim.slots
  have rargs := qaee hargs h.sim.slots
  split at hk
  ·rename_i t x az hav
   obtain ⟨hm, x', g', h1, rr, h2, rd, nn, hsm, hM, hS, hsub, hu, _, hk⟩ := hk
   have rall : Reps w (Av X s.hp fp) ρ (.ifc t x :: az) (a.eval g :: gs.toList.map a.eval) := by
    have := Reps.cons rf rargs
    rw [List.map_cons] at hav
    have e : r.ev s.sl :: args.map (·.ev s.sl) = .ifc t x :: az := hav
    rw [e] at this; exact this
   obtain ⟨v', avs, h3, h4⟩ := qahk (hobj hsm) hM hS.ent rall
   refine fin (v' :: avs) hS hsub hu h4 ?_ hk
   have e1 : (#[a.eval g] ++ gs.map a.eval) = (a.eval g :: gs.toList.map a.eval).toArray := by apply Array.ext'; simp
   simp only [execOp, hop, resolve, Sem.run_bind, Sem.run_pure, Result.andThen_ok, e1]
   exact h3
  ·cases hk
theorem qasy {ops : Array Oper} {o : Oper} {so : SOper} (hg : cgrd ops o.guard = some so.grd) (h : Sim X ρ fp s a w) :
  (so.grd = none → Region.wanted o (yielded ops a.tmps) = true) ∧ ∀ t want, so.grd = some (t, want) → (∀ b, gets s.sl t = .bool b → Region.wanted o (yielded ops a.tmps) = decide (b = want)) ∧ (gets s.sl t = .tup [] → Region.wanted o (yielded ops a.tmps) = false) := by
 cases hgd : o.guard with
 | none =>
  rw [hgd] at hg
  simp only [cgrd, Option.some.injEq] at hg
  rw [← hg]
  exact ⟨(fun _ => by simp [Region.wanted, hgd]), (fun t want e => by cases e)⟩
 | some jw =>
  obtain ⟨j, want'⟩ := jw
  rw [hgd] at hg
  simp only [cgrd] at hg
  split at hg
  ·rename_i t ht
   injection hg with hg
   rw [← hg]
   refine ⟨(fun e => by cases e), fun t' want e => ?_⟩
   cases e
   have hs := h.slots t
   refine ⟨fun b hb => ?_, fun hb => ?_⟩
   ·rw [hb] at hs
    have hv : a.tmps.getD t undef = .bool b := by generalize a.tmps.getD t undef = v at hs; cases hs; rfl
    have hv2 : a.tmps[t]? = some (.bool b) := by
     cases e : a.tmps[t]? with
     | none => rw [Array.getD_eq_getD_getElem?, e] at hv; cases hv
     | some x => rw [Array.getD_eq_getD_getElem?, e] at hv; rw [← hv]; rfl
    simp only [Region.wanted, hgd, yielded, ht, Option.bind_some, hv2]
    cases b <;> cases want' <;> rfl
   ·rw [hb] at hs
    have hv : a.tmps.getD t undef = .tuple #[] := by
     generalize a.tmps.getD t undef = v at hs
     cases hs with
     | tup hl _ => have := List.eq_nil_of_length_eq_zero hl.symm; rw [this]
    have hv2 : ∀ b, a.tmps[t]? ≠ some (.bool b) := fun b e => by
     rw [Array.getD_eq_getD_getElem?, e] at hv; cases hv
    simp only [Region.wanted, hgd, yielded, ht, Option.bind_some]
    first | rfl | (split <;> first | rfl | (rename_i b hb'; exact absurd hb' (hv2 b)) | simp)
  ·cases hg
theorem Sim.skip (h : SimF X ρ fp s a w) {so : SOper} {dst : Option Nat} (hdst : so.dst = dst) (hd : dst.all (· < X.N) = true) : SimF X ρ fp (s.skip so) (a.put dst undef) w := by
 subst hdst
 exact ⟨h.sim.put (nx' := s.nx) h.sim.h (.refl _ _ _) (RepV.tup (cs := []) (vs := []) rfl (by simp)) hd, h.fresh, h.le⟩
theorem qae6 {P : Program} {N : Nat} {ops : Array Oper} {o : Oper} {os : List Oper} {bs : List Nat} {sos : List SOper} (h : qae7 P N ops (o :: os) bs = some sos) : ∃ so r, sos = so :: r ∧ qa32 P N ops o (bs.headD 0) = some so ∧ qae7 P N ops os bs.tail = some r := by
 simp only [qae7, Option.bind_eq_bind, Option.bind_eq_some_iff, Option.some.injEq] at h
 obtain ⟨so, h1, r, h2, rfl⟩ := h
 exact ⟨so, r, rfl, h1, h2⟩
theorem sops_ok {ops : Array Oper} {Q : SSt → List Tch → Prop} {R : Exit → Act → World → Prop} (hQ : ∀ s tr ρ fp a w, Q s tr → SimF X ρ fp s a w → R .normal a w) : ∀ (l : List Oper) (bs : List Nat) (sos : List SOper), qae7 X.P X.N ops l bs = some sos → ∀ (s : SSt) (tr : List Tch) (ρ : qab1) (fp : Nat → Nat → Prop) (a : Act) (w : World),
  SOps X.P sos s tr Q → SimF X ρ fp s a w → wpList X.P ops R l a w := by
 intro l
 induction l with
 | nil =>
  intro bs sos hc s tr ρ fp a w hk h
  simp only [qae7, Option.some.injEq] at hc
  subst hc
  exact hQ _ _ _ _ _ _ hk h
 | cons o l ih =>
  intro bs sos hc s tr ρ fp a w hk h
  obtain ⟨so, r, rfl, hso, hr⟩ := qae6 hc
  obtain ⟨hdst, hd, hg, _, _⟩ := qad1 hso
  obtain ⟨g1, g2⟩ := qasy hg h.sim
  refine wpList_step fun K hK => ?_
  have run : (SOp1 X.P so s fun s' x => SOps X.P r s' (x :: tr) Q) → o.wp X.P a w K R := fun hk => op1_ok hso hk h fun s' x ρ' fp' a' w' hk' h' => hK _ _ (ih _ _ hr _ _ _ _ _ _ hk' h')
  simp only [SOps] at hk
  cases hgr : so.grd with
  | none =>
   rw [hgr] at hk
   rw [if_pos (g1 hgr)]
   exact run hk
  | some tw =>
   obtain ⟨t, want⟩ := tw
   rw [hgr] at hk
   obtain ⟨g3, g4⟩ := g2 t want hgr
   simp only at hk
   split at hk
   ·rename_i b hb
    rw [g3 b hb]
    by_cases hbw : b = want
    ·rw [if_pos (by simpa using hbw)]
     exact run (hk.1 hbw)
    ·rw [if_neg (by simpa using hbw)]
     exact hK _ _ (ih _ _ hr _ _ _ _ _ _ (hk.2 hbw) (Sim.skip h hdst hd))
   ·rename_i hb
    rw [g4 hb, if_neg (by simp)]
    exact hK _ _ (ih _ _ hr _ _ _ _ _ _ hk (Sim.skip h hdst hd))
   ·cases hk
end Go.Proofs.Ytbefmmajjfijnaa
namespace Go.Proofs.Ytbefmmajjfijnaa
set_option linter.all false
open Go.RowKit
inductive SExit where
 | normal
 | exit (id : Nat)
 | ret
def Out (X : Cx) (Q : SExit → SSt → Prop) : Exit → Act → World → Prop
 | .normal, a, w => ∃ s ρ fp, Q .normal s ∧ SimF X ρ fp s a w
 | .exit id, a, w => ∃ s ρ fp, Q (.exit id) s ∧ SimF X ρ fp s a w
 | .ret, a, w => ∃ s ρ fp, Q .ret s ∧ SimF X ρ fp s a w
 | _, _, _ => False
def SWp (X : Cx) (c : SCode) (Q : SExit → SSt → Prop) (s : SSt) : Prop :=
 ∀ code, comp X.P X.N code = some c.erase → ∀ ρ fp a w, SimF X ρ fp s a w → code.wp X.P (Out X Q) a w
def Wk (X : Cx) (s s' : SSt) : Prop := ∀ ρ fp a w, SimF X ρ fp s a w → ∃ ρ' fp', SimF X ρ' fp' s' a w
theorem Wk.refl (X : Cx) (s : SSt) : Wk X s s := fun ρ fp _ _ h => ⟨ρ, fp, h⟩
theorem Wk.trans {X : Cx} {s t u : SSt} (h : Wk X s t) (k : Wk X t u) : Wk X s u := fun ρ fp a w hs => let ⟨_, _, h1⟩ := h ρ fp a w hs; k _ _ a w h1
theorem qacb {P : Program} {N id : Nat} {ops : Array Oper} {draw : Bool} {c : SCode} (h : comp P N (.region id ops draw) = some c) : ∃ l, c = .reg draw l [] ∧ qae7 P N ops ops.toList (if draw then (Region.before ops).toList else []) = some l ∧ (draw = false ∨ qata ops = true) := by
 simp only [comp] at h
 split at h
 ·rename_i hd
  simp only [Option.bind_eq_bind, Option.bind_eq_some_iff, Option.some.injEq] at h
  obtain ⟨l, h1, rfl⟩ := h
  exact ⟨l, rfl, h1, hd⟩
 ·cases h
variable {X : Cx} {s : SSt} {Q : SExit → SSt → Prop}
theorem qaep {c : SCode} {s' : SSt} (hw : Wk X s s') (h : SWp X c Q s') : SWp X c Q s := fun code hc ρ fp a w hs => let ⟨_, _, h1⟩ := hw ρ fp a w hs; h code hc _ _ a w h1
theorem Out.mono {Q' : SExit → SSt → Prop} (hq : ∀ e s, Q e s → Q' e s) : ∀ e a w, Out X Q e a w → Out X Q' e a w := by
 intro e a w h
 cases e <;> first | exact h | (obtain ⟨s, ρ, fp, h1, h2⟩ := h; exact ⟨s, ρ, fp, hq _ _ h1, h2⟩)
theorem qaaf (h : Q .normal s) : SWp X .skip Q s := fun code hc ρ fp a w hs => by
 by_cases hreg : ∃ id o d, code = .region id o d
 ·obtain ⟨_, _, _, rfl⟩ := hreg
  obtain ⟨_, e, _⟩ := qacb hc
  simp [SCode.erase] at e
 cases code <;> (try simp only [comp, SCode.erase, Option.bind_eq_bind, Option.bind_eq_some_iff, Option.some.injEq, reduceCtorEq, and_false, exists_false, exists_const] at hc)
 case skip => exact wp_skip ⟨s, ρ, fp, h, hs⟩
 case label => exact wp_label ⟨s, ρ, fp, h, hs⟩
 case region => exact absurd ⟨_, _, _, rfl⟩ hreg
theorem qaam {id : Nat} (h : Q (.exit id) s) : SWp X (.exit id) Q s := fun code hc ρ fp a w hs => by
 by_cases hreg : ∃ id o d, code = .region id o d
 ·obtain ⟨_, _, _, rfl⟩ := hreg
  obtain ⟨_, e, _⟩ := qacb hc
  simp [SCode.erase] at e
 cases code <;> (try simp only [comp, SCode.erase, Option.bind_eq_bind, Option.bind_eq_some_iff, Option.some.injEq, reduceCtorEq, and_false, exists_false, exists_const, SCode.exit.injEq] at hc)
 case exit => subst hc; exact wp_exit ⟨s, ρ, fp, h, hs⟩
 case region => exact absurd ⟨_, _, _, rfl⟩ hreg
theorem qaa4 (h : Q .ret s) : SWp X .ret Q s := fun code hc ρ fp a w hs => by
 by_cases hreg : ∃ id o d, code = .region id o d
 ·obtain ⟨_, _, _, rfl⟩ := hreg
  obtain ⟨_, e, _⟩ := qacb hc
  simp [SCode.erase] at e
 cases code <;> (try simp only [comp, SCode.erase, Option.bind_eq_bind, Option.bind_eq_some_iff, Option.some.injEq, reduceCtorEq, and_false, exists_false, exists_const] at hc)
 case ret => exact wp_ret ⟨s, ρ, fp, h, hs⟩
 case region => exact absurd ⟨_, _, _, rfl⟩ hreg
def QSeq (X : Cx) (y : SCode) (Q : SExit → SSt → Prop) : SExit → SSt → Prop
 | .normal, s => SWp X y Q s
 | e, s => Q e s
theorem qamp {x y : SCode} (h : SWp X x (QSeq X y Q) s) : SWp X (.seq x y) Q s := fun code hc ρ fp a w hs => by
 by_cases hreg : ∃ id o d, code = .region id o d
 ·obtain ⟨_, _, _, rfl⟩ := hreg
  obtain ⟨_, e, _⟩ := qacb hc
  simp [SCode.erase] at e
 cases code <;> (try simp only [comp, SCode.erase, Option.bind_eq_bind, Option.bind_eq_some_iff, Option.some.injEq, reduceCtorEq, and_false, exists_false, exists_const, SCode.seq.injEq] at hc)
 case seq c d =>
  obtain ⟨c', h1, d', h2, rfl, rfl⟩ := hc
  refine wp_seq (wp_mono (h c h1 ρ fp a w hs) ?_)
  intro e a' w' ho
  cases e with
  | normal => obtain ⟨s', ρ', fp', q1, q2⟩ := ho; exact q1 d h2 ρ' fp' a' w' q2
  | exit id => exact ho
  | ret => exact ho
  | goto l => exact ho.elim
  | panic c => exact ho.elim
  | outgrown => exact ho.elim
 case region => exact absurd ⟨_, _, _, rfl⟩ hreg
theorem qaab {c : SX} {x y : SCode} {b : Bool} (hb : c.ev s.sl = .bool b) (h1 : b = true → SWp X x Q s) (h2 : b = false → SWp X y Q s) : SWp X (.cond c x y) Q s := fun code hc ρ fp a w hs => by
 by_cases hreg : ∃ id o d, code = .region id o d
 ·obtain ⟨_, _, _, rfl⟩ := hreg
  obtain ⟨_, e, _⟩ := qacb hc
  simp [SCode.erase] at e
 cases code <;> (try simp only [comp, SCode.erase, Option.bind_eq_bind, Option.bind_eq_some_iff, Option.some.injEq, reduceCtorEq, and_false, exists_false, exists_const, SCode.cond.injEq] at hc)
 case cond o d e =>
  obtain ⟨o', q1, d', q2, e', q3, rfl, rfl, rfl⟩ := hc
  have r := qabh q1 hs.sim.slots
  rw [hb] at r
  have hv : a.eval o = .bool b := by generalize a.eval o = v at r; cases r; rfl
  exact wp_cond_split hv (fun hb => h1 hb d q2 ρ fp a w hs) (fun hb => h2 hb e q3 ρ fp a w hs)
 case region => exact absurd ⟨_, _, _, rfl⟩ hreg
def qamk (id : Nat) (Q : SExit → SSt → Prop) : SExit → SSt → Prop
 | .exit i, s => if i = id then Q .normal s else Q (.exit i) s
 | e, s => Q e s
theorem qaaj {id : Nat} {c : SCode} (h : SWp X c (qamk id Q) s) : SWp X (.block id c) Q s := fun code hc ρ fp a w hs => by
 by_cases hreg : ∃ id o d, code = .region id o d
 ·obtain ⟨_, _, _, rfl⟩ := hreg
  obtain ⟨_, e, _⟩ := qacb hc
  simp [SCode.erase] at e
 cases code <;> (try simp only [comp, SCode.erase, Option.bind_eq_bind, Option.bind_eq_some_iff, Option.some.injEq, reduceCtorEq, and_false, exists_false, exists_const, SCode.block.injEq] at hc)
 case block i d =>
  obtain ⟨d', h1, rfl, rfl⟩ := hc
  refine wp_block (wp_mono (h d h1 ρ fp a w hs) ?_)
  intro e a' w' ho
  cases e with
  | normal => exact ho
  | exit i' =>
   obtain ⟨s', ρ', fp', q1, q2⟩ := ho
   simp only [qamk] at q1
   simp only [Exit.inBlock]
   split
   ·rename_i e; rw [if_pos e] at q1; exact ⟨s', ρ', fp', q1, q2⟩
   ·rename_i e; rw [if_neg e] at q1; exact ⟨s', ρ', fp', q1, q2⟩
  | ret => exact ho
  | goto l => exact ho.elim
  | panic c => exact ho.elim
  | outgrown => exact ho.elim
 case region => exact absurd ⟨_, _, _, rfl⟩ hreg
def SSt.keep (s : SSt) (live : List Nat) : SSt := ⟨live.map fun t => (t, gets s.sl t), s.hp, s.nx⟩
theorem qayq (sl : Sl) (live : List Nat) (t : Nat) : gets (live.map fun t => (t, gets sl t)) t = if t ∈ live then gets sl t else .any := by
 induction live with
 | nil => rfl
 | cons u l ih =>
  simp only [List.map_cons, gets, ih, List.mem_cons]
  by_cases e : u = t
  ·simp [e]
  ·simp [e, Ne.symm e]
theorem qa08 (live : List Nat) : Wk X s (s.keep live) := fun ρ fp a w h => ⟨ρ, fp, ⟨h.sim.h, h.sim.tmps, h.sim.defers, fun t => by
 show RepV w _ ρ (gets (live.map fun t => (t, gets s.sl t)) t) _
 rw [qayq]
 split
 ·exact h.sim.slots t
 ·exact .any⟩, h.fresh, h.le⟩
theorem qaad {ops : List SOper} {live : List Nat} (h : SOps X.P ops s [] fun s' _ => Q .normal (s'.keep live)) : SWp X (.reg false ops live) Q s := fun code hc ρ fp a w hs => by
 by_cases hreg : ∃ id o d, code = .region id o d
 ·obtain ⟨id, o, d, rfl⟩ := hreg
  obtain ⟨l, e, h1, _⟩ := qacb hc
  simp only [SCode.erase, SCode.reg.injEq, and_true] at e
  obtain ⟨rfl, rfl⟩ := e
  refine wp_region_list ?_
  refine sops_ok (Q := fun s' _ => Q .normal (s'.keep live)) ?_ _ _ _ h1 s [] ρ fp a w h hs
  intro s' tr ρ' fp' a' w' hq h'
  obtain ⟨ρ2, fp2, h2⟩ := qa08 live ρ' fp' a' w' h'
  exact ⟨_, ρ2, fp2, hq, h2⟩
 ·cases code <;> (try simp only [comp, SCode.erase, Option.bind_eq_bind, Option.bind_eq_some_iff, Option.some.injEq, reduceCtorEq, and_false, exists_false, exists_const] at hc)
  case region => exact absurd ⟨_, _, _, rfl⟩ hreg
theorem qas9 {p : Nat → Prop} (h : ∃ n, p n) : ∃ n, p n ∧ ∀ m, p m → n ≤ m := by
 obtain ⟨n, hn⟩ := h
 induction n using Nat.strongRecOn with
 | ind n ih =>
  by_cases h : ∃ m, m < n ∧ p m
  ·obtain ⟨m, h1, h2⟩ := h; exact ih m h1 h2
  ·exact ⟨n, hn, fun m hm => Nat.le_of_not_lt fun hl => h ⟨m, hl, hm⟩⟩
def QLoop (X : Cx) (I : SSt → Nat → Prop) (n : Nat) (Q : SExit → SSt → Prop) : SExit → SSt → Prop
 | .normal, s => ∃ s' m, Wk X s s' ∧ I s' m ∧ m < n
 | e, s => Q e s
theorem qar0 {c : SCode} (I : SSt → Nat → Prop) {n : Nat} {s0 : SSt} (hw : Wk X s s0) (h0 : I s0 n) (h : ∀ s n, I s n → SWp X c (QLoop X I n Q) s) : SWp X (.loop c) Q s := fun code hc ρ fp a w hs => by
 by_cases hreg : ∃ id o d, code = .region id o d
 ·obtain ⟨_, _, _, rfl⟩ := hreg
  obtain ⟨_, e, _⟩ := qacb hc
  simp [SCode.erase] at e
 cases code <;> (try simp only [comp, SCode.erase, Option.bind_eq_bind, Option.bind_eq_some_iff, Option.some.injEq, reduceCtorEq, and_false, exists_false, exists_const, SCode.loop.injEq] at hc)
 case loop d =>
  obtain ⟨d', h1, rfl⟩ := hc
  obtain ⟨ρ0, fp0, hs0⟩ := hw ρ fp a w hs
  let p : Act → World → Nat → Prop := fun a w n => ∃ s ρ fp, I s n ∧ SimF X ρ fp s a w
  have hmin : ∀ a w, ∃ n, (∃ m, p a w m) → (p a w n ∧ ∀ m, p a w m → n ≤ m) := fun a w => by
   by_cases h : ∃ m, p a w m
   ·obtain ⟨n, hn⟩ := qas9 h; exact ⟨n, fun _ => hn⟩
   ·exact ⟨0, fun h' => absurd h' h⟩
  have hch := fun a => Classical.axiomOfChoice (hmin a)
  obtain ⟨μ, hμ⟩ := Classical.axiomOfChoice hch
  refine wp_loop (fun a w => ∃ n, p a w n) μ ⟨n, s0, ρ0, fp0, h0, hs0⟩ ?_
  intro a w hI
  obtain ⟨⟨s1, ρ1, fp1, q1, q2⟩, q3⟩ := hμ a w hI
  refine wp_mono (h s1 _ q1 d h1 ρ1 fp1 a w q2) ?_
  intro e a' w' ho
  cases e with
  | normal =>
   obtain ⟨s', ρ', fp', ⟨s2, m, r1, r2, r3⟩, r4⟩ := ho
   obtain ⟨ρ2, fp2, r5⟩ := r1 ρ' fp' a' w' r4
   have hp : p a' w' m := ⟨s2, ρ2, fp2, r2, r5⟩
   exact ⟨⟨m, hp⟩, Nat.lt_of_le_of_lt ((hμ a' w' ⟨m, hp⟩).2 m hp) r3⟩
  | exit id => exact ho
  | ret => exact ho
  | goto l => exact ho.elim
  | panic c => exact ho.elim
  | outgrown => exact ho.elim
 case region => exact absurd ⟨_, _, _, rfl⟩ hreg
end Go.Proofs.Ytbefmmajjfijnaa
namespace Go.Proofs.Ytbefmmajjfijnaa
set_option linter.all false
open Go.RowKit
def SOp.sxs : SOp → List SX
 | .b2s x | .b2b x | .mkifc _ x | .asrt _ _ x | .mv x | .box _ x | .load x | .loads _ x | .nilc x | .un _ x | .conv _ x | .faddr _ x | .field _ _ x | .extr x _ | .len _ x => [x]
 | .pick c a b => [c, a, b]
 | .alloc _ _ => []
 | .build _ ps => ps.map (·.2.2)
 | .mkrow _ _ _ _ ps => ps.map (·.2)
 | .store _ x v | .bin _ x v | .eq _ _ x v | .eqs _ _ x v | .mkslice _ _ _ _ x v | .iaddr _ x v | .iarr _ _ x v | .idx _ _ _ x v | .idxs x v | .app _ _ _ x v | .mm _ x v => [x, v]
 | .slice _ x lo hi | .slstr x lo hi => x :: (lo.toList ++ hi.toList)
 | .mkfn _ a b => a ++ b
theorem qags {size : Nat} {g g' : Nat → Option SObj} {x : SV} (h : ∀ id ∈ idOf x, g id = g' id) : qadx size g x = qadx size g' x := by
 unfold qadx
 split <;> first | rfl | (rw [h _ (by simp [idOf])])
theorem qaxx {op : SOp} {ev ev' : SX → SV} {g g' : Nat → Option SObj} {nx : Nat} (h : ∀ x ∈ op.sxs, ev x = ev' x) (hg : ∀ id ∈ op.touch ev, g id = g' id) : op.run ev g nx = op.run ev' g' nx := by
 cases op
 case load x =>
  have e := h x (by simp [SOp.sxs])
  simp only [SOp.touch] at hg
  simp only [SOp.run, ← e]
  split <;> first | rfl | (rename_i hq; rw [hg _ (by rw [hq]; simp [idOf])])
 case loads n x =>
  have e := h x (by simp [SOp.sxs])
  simp only [SOp.touch] at hg
  simp only [SOp.run, ← e]
  split <;> first | rfl | (rename_i hq; rw [hg _ (by rw [hq]; simp [idOf])])
 case store n x v =>
  have e := h x (by simp [SOp.sxs])
  have e2 := h v (by simp [SOp.sxs])
  simp only [SOp.touch] at hg
  simp only [SOp.run, ← e, ← e2]
  split
  ·rfl
  ·split
   ·split <;> first | rfl | (rename_i hq; rw [hg _ (by rw [hq]; simp [idOf])])
   ·rfl
 case b2b x =>
  have e2 := h x (by simp [SOp.sxs])
  simp only [SOp.touch] at hg
  simp only [SOp.run, ← e2]
  split
  ·rename_i hs; rw [hg _ (by rw [hs]; simp [idOf])]
  ·rfl
 case b2s x =>
  have e2 := h x (by simp [SOp.sxs])
  simp only [SOp.touch] at hg
  simp only [SOp.run, ← e2]
  rw [qags (g := g) (g' := g') fun id hid => hg id hid]
 case app e size bytes s x =>
  have e1 := h s (by simp [SOp.sxs])
  have e2 := h x (by simp [SOp.sxs])
  simp only [SOp.touch] at hg
  simp only [SOp.run, ← e1, ← e2]
  rw [qags (g := g) (g' := g') fun id hid => hg id (List.mem_append_right _ hid)]
  split
  ·rfl
  ·split
   ·rfl
   ·rename_i hs; rw [hg _ (List.mem_append_left _ (by rw [hs]; simp [idOf]))]
   ·rfl
 case build z ps =>
  have e : (ps.map fun p => (p.1, p.2.1, ev p.2.2)) = ps.map fun p => (p.1, p.2.1, ev' p.2.2) := List.map_congr_left fun p hp => by rw [h p.2.2 (by simp [SOp.sxs]; exact ⟨_, _, hp⟩)]
  simp only [SOp.run, e]
 case mkrow e size n z ps =>
  have e : (ps.map fun p => (p.1, ev p.2)) = ps.map fun p => (p.1, ev' p.2) := List.map_congr_left fun p hp => by rw [h p.2 (by simp [SOp.sxs]; exact ⟨_, hp⟩)]
  simp only [SOp.run, e]
 case mkfn f gs bs =>
  have e1 : gs.map ev = gs.map ev' := List.map_congr_left fun p hp => h p (by simp [SOp.sxs, hp])
  have e2 : bs.map ev = bs.map ev' := List.map_congr_left fun p hp => h p (by simp [SOp.sxs, hp])
  simp only [SOp.run, e1, e2]
 case slice size x lo hi =>
  have e := h x (by simp [SOp.sxs])
  have e1 : lo.map ev = lo.map ev' := by cases lo with | none => rfl | some y => simp [h y (by simp [SOp.sxs])]
  have e2 : hi.map ev = hi.map ev' := by cases hi with | none => rfl | some y => simp [h y (by simp [SOp.sxs])]
  simp only [SOp.run, ← e, e1, e2]
 case slstr x lo hi =>
  have e := h x (by simp [SOp.sxs])
  have e1 : lo.map ev = lo.map ev' := by cases lo with | none => rfl | some y => simp [h y (by simp [SOp.sxs])]
  have e2 : hi.map ev = hi.map ev' := by cases hi with | none => rfl | some y => simp [h y (by simp [SOp.sxs])]
  simp only [SOp.run, ← e, e1, e2]
 all_goals simp only [SOp.sxs, List.mem_cons, List.not_mem_nil, or_false, forall_eq_or_imp, forall_eq, false_implies, implies_true] at h
 all_goals first
  | (obtain ⟨e1, e2, e3⟩ := h; simp only [SOp.run, ← e1, ← e2, ← e3]; done)
  | (obtain ⟨e1, e2⟩ := h; simp only [SOp.run, ← e1, ← e2]; done)
  | (simp only [SOp.run, ← h]; done)
  | (simp only [SOp.run]; done)
def qaez : List SX → List Nat
 | [] => []
 | .t n :: l => n :: qaez l
 | .c _ :: l => qaez l
def SOper.reads (o : SOper) : List Nat := (match o.cal with
 | some (f, args) => qaez (f :: args)
 | none => qaez o.op.sxs) ++ (match o.grd with
 | some (t, _) => [t]
 | none => [])
theorem qag0 {l l' : Sl} : ∀ {xs : List SX}, (∀ t ∈ qaez xs, gets l t = gets l' t) → ∀ x ∈ xs, SX.ev l x = SX.ev l' x
 | [], _, x, hx => by cases hx
 | .t n :: xs, h, x, hx => by
  rcases List.mem_cons.1 hx with e | e
  ·subst e; exact h n (by simp [qaez])
  ·exact qag0 (xs := xs) (fun t ht => h t (by simp [qaez, ht])) x e
 | .c v :: xs, h, x, hx => by
  rcases List.mem_cons.1 hx with e | e
  ·subst e; rfl
  ·exact qag0 (xs := xs) (fun t ht => h t (by simpa [qaez] using ht)) x e
end Go.Proofs.Ytbefmmajjfijnaa
namespace Go.Proofs.Ytbefmmajjfijnaa
set_option linter.all false
open Go.RowKit
structure Eff where
 dst : Option Nat
 v : SV
 wr : List Nat
 c : Nat → Option SObj
def Eff.at (e : Eff) (t t' : SSt) : Prop :=
 (∀ x, gets t'.sl x = if e.dst = some x then e.v else gets t.sl x) ∧ ∀ id, geth t'.hp id = if id ∈ e.wr then e.c id else geth t.hp id
variable {X : Cx} {s : SSt}
def Loc (X : Cx) (ops : Array Oper) (o : Oper) (reads rd : List Nat) (lo hi : Nat) (s : SSt) (e : Eff) : Prop :=
 ∀ (t : SSt) (ρ : qab1) (fp : Nat → Nat → Prop) (a : Act) (w : World), Sim X ρ fp t a w → (∀ y ∈ reads, gets t.sl y = gets s.sl y) → (∀ id, id ∈ rd ∨ id ∈ e.wr → geth t.hp id = geth s.hp id) → (∀ id, lo ≤ id → id < hi → ρ id = none) →
  ∀ (K : Act → World → Prop) (R : Exit → Act → World → Prop), (∀ t' ρ' fp' a' w', e.at t t' → Sim X ρ' fp' t' a' w' → (∀ id, ρ' id ≠ none → ρ id ≠ none ∨ (lo ≤ id ∧ id < hi)) → K a' w') →
   if Region.wanted o (yielded ops a.tmps) = true then o.wp X.P a w K R else K (a.put o.dst undef) w
theorem qad0 (l : Sl) (d : Option Nat) (v : SV) (x : Nat) : gets (putd l d v) x = if d = some x then v else gets l x := by
 cases d with
 | none => simp [putd]
 | some d => simp only [putd, qafk, Option.some.injEq, eq_comm]
def qasw : Upd → Nat → Option SObj → Option SObj
 | [], _, x => x
 | (i, o) :: u, id, x => qasw u id (if i = id then o else x)
theorem qafl : ∀ (u : Upd) (h : Hp) (id : Nat), geth (upds h u) id = qasw u id (geth h id)
 | [], h, id => rfl
 | (i, some o) :: u, h, id => by
  rw [upds, qafl u, qaco, qasw]
  by_cases e : id = i
  ·simp [e]
  ·simp [e, Ne.symm e]
 | (i, none) :: u, h, id => by
  rw [upds, qafl u, qafm, qasw]
  by_cases e : id = i
  ·simp [e]
  ·simp [e, Ne.symm e]
theorem qam5 {u : Upd} {id : Nat} : ∀ {x}, id ∉ u.map (·.1) → qasw u id x = x := by
 induction u with
 | nil => intro x _; rfl
 | cons p u ih =>
  obtain ⟨i, o⟩ := p
  intro x h
  simp only [List.map_cons, List.mem_cons, not_or] at h
  rw [qasw, if_neg (Ne.symm h.1)]
  exact ih h.2
theorem qam6 {u : Upd} {id : Nat} : ∀ {x y}, id ∈ u.map (·.1) → qasw u id x = qasw u id y := by
 induction u with
 | nil => intro x y h; simp at h
 | cons p u ih =>
  obtain ⟨i, o⟩ := p
  intro x y h
  simp only [List.map_cons, List.mem_cons] at h
  rw [qasw, qasw]
  by_cases e : i = id
  ·simp [e]
  ·rw [if_neg e, if_neg e]
   exact ih (h.resolve_left (Ne.symm e))
theorem qahx : ∀ {h : Hp} {id : Nat} {o : SObj}, geth h id = some o → id ∈ idsH h
 | [], id, o, h => by cases h
 | (i, x) :: r, id, o, h => by
  by_cases e : i = id
  ·subst e; simp [idsH]
  ·simp only [geth, if_neg e] at h
   exact List.mem_cons_of_mem _ (qahx h)
theorem qahu : ∀ {h : Hp} {id : Nat}, id ∈ idsH h → geth h id ≠ none
 | [], id, h => by cases h
 | (i, x) :: r, id, h => by
  by_cases e : i = id
  ·subst e; simp [geth]
  ·simp only [geth, if_neg e]
   simp only [idsH, List.map_cons, List.mem_cons] at h
   exact qahu (h.resolve_left (Ne.symm e))
def Stp (X : Cx) (ops : Array Oper) (o : Oper) (so : SOper) (s s' : SSt) (x : Tch) : Prop :=
 s.nx ≤ s'.nx ∧ ∃ e : Eff, e.dst = so.dst ∧ e.wr = x.wr ∧ e.at s s' ∧ Loc X ops o so.reads x.rd s.nx s'.nx s e
theorem qar3 {ops : Array Oper} {o : Oper} {b : Nat} {so : SOper} (hc : qa32 X.P X.N ops o b = some so) (hw : ∀ (t : SSt) ρ fp a w, Sim X ρ fp t a w → (∀ y ∈ so.reads, gets t.sl y = gets s.sl y) → Region.wanted o (yielded ops a.tmps) = false) : Stp X ops o so s (s.skip so) ⟨[], []⟩ := by
 obtain ⟨hdst, hd, _, _, _⟩ := qad1 hc
 refine ⟨Nat.le_refl _, ⟨so.dst, .tup [], [], fun _ => none⟩, rfl, rfl, ⟨fun x => qad0 _ _ _ _, fun id => by simp [SSt.skip]⟩, ?_⟩
 intro t ρ fp a w h hr _ _ K R hK
 rw [hw t ρ fp a w h hr]
 simp only [Bool.false_eq_true, if_false]
 refine hK ⟨putd t.sl so.dst (.tup []), t.hp, t.nx⟩ ρ fp _ _ ⟨fun x => qad0 _ _ _ _, fun id => by simp⟩ ?_ (fun id hid => .inl hid)
 have := h.put (nx' := t.nx) h.h (.refl _ _ _) (RepV.tup (cs := []) (vs := []) rfl (by simp)) (dst := so.dst) (by rw [hdst]; exact hd)
 rw [hdst] at this ⊢
 exact this
theorem qa1l {ops : Array Oper} {o : Oper} {b : Nat} {so : SOper} (hc : qa32 X.P X.N ops o b = some so) (hle : X.m ≤ s.nx) {K : SSt → Tch → Prop} (hk : SOp1 X.P so s K) (hw : ∀ (t : SSt) ρ fp a w, Sim X ρ fp t a w → (∀ y ∈ so.reads, gets t.sl y = gets s.sl y) → Region.wanted o (yielded ops a.tmps) = true) : ∃ s' x, K s' x ∧ Stp X ops o so s s' x := by
 obtain ⟨hdst, hd, _, _, hop⟩ := qad1 hc
 unfold SOp1 at hk
 rcases hop with ⟨hcal, hop⟩ | ⟨f, args, g, gs, tys, hcal, hop, hf, hargs⟩ | ⟨r, args, nm, g, gs, tys, hcal, hop, hf, hargs⟩
 ·rw [hcal] at hk
  simp only at hk
  split at hk
  ·rename_i v u nx' hr
   replace hop := hop.resolve_right fun e => by rw [e] at hr; simp [SOp.run, SX.ev] at hr
   refine ⟨_, _, hk, Nat.le_succ _, ⟨so.dst, v, u.map (·.1), fun id => qasw u id none⟩, rfl, rfl, ⟨fun x => qad0 _ _ _ _, fun id => ?_⟩, ?_⟩
   ·rw [qafl]
    split
    ·exact qam6 ‹_›
    ·exact qam5 ‹_›
   ·intro t ρ fp a w h hrd hobj hfr K' R hK
    rw [if_pos (hw t ρ fp a w h hrd)]
    have hsub : ∀ y ∈ qaez so.op.sxs, gets s.sl y = gets t.sl y := fun y hy => (hrd y (by simp [SOper.reads, hcal, hy])).symm
    have hev := qag0 hsub
    have hr2 : so.op.run (·.ev t.sl) (geth t.hp) s.nx = some (v, u, nx') := by
     rw [← hr]
     exact (qaxx hev fun id hid => (hobj id (.inl hid)).symm).symm
    obtain ⟨v', w', h1, ρ', fp', h2, h3, h4, h5⟩ := op_ok h.h h.slots hop hle (hfr _ (Nat.le_refl _) (Nat.lt_succ_self _)) hr2
    refine (h1 o rfl).upon (hK ⟨putd t.sl so.dst v, upds t.hp u, t.nx⟩ ρ' fp' _ _ ⟨fun x => qad0 _ _ _ _, fun id => ?_⟩ ?_ (fun id hid => (h5 id hid).imp (fun h => h) fun e => by simp only; omega))
    ·show geth (upds t.hp u) id = _
     rw [qafl]
     split
     ·exact qam6 ‹_›
     ·exact qam5 ‹_›
    ·have := h.put (nx' := t.nx) h2 h4 h3 (dst := so.dst) (by rw [hdst]; exact hd)
     rw [hdst] at this ⊢; exact this
  ·cases hk
 all_goals
  have fin : ∀ {g' : FuncId} {args' : List SV} {h1 h2 : Hp} {r : SV} {nn : Nat} (rd2 rd : List Nat), SCalls X.P g' args' h1 s.nx r h2 nn → SubH s.hp h1 → Uniq h2 → (∀ id ∈ rd, geth h2 id = geth h1 id) → K ⟨putd s.sl so.dst r, qaby s.hp h1 h2, s.nx + nn⟩ ⟨rd2 ++ rd, (idsH h1 ++ idsH h2).filter fun i => !rd.contains i⟩ →
    (∀ (t : SSt) ρ fp (a : Act) w, Sim X ρ fp t a w → (∀ y ∈ so.reads, gets t.sl y = gets s.sl y) → (∀ id ∈ rd2, geth t.hp id = geth s.hp id) → ∃ vals : List Value, (execOp a.eval o).run X.P w = .ok (.enter g' vals.toArray) w ∧ Reps w (Av X t.hp fp) ρ args' vals) → ∃ s' x, K s' x ∧ Stp X ops o so s s' x := by
   rintro g' args' h1 h2 r nn rd2 rd ⟨hent, hcall⟩ hsub hu hrd0 hk hruns
   have mem_ids : ∀ {h : Hp} {id : Nat} {o : SObj}, geth h id = some o → id ∈ idsH h := fun h => qahx h
   have heff : ∀ t : SSt, (∀ id, id ∈ rd ∨ id ∈ (idsH h1 ++ idsH h2).filter (fun i => !rd.contains i) → geth t.hp id = geth s.hp id) → ∀ id, geth (qaby t.hp h1 h2) id = if id ∈ (idsH h1 ++ idsH h2).filter (fun i => !rd.contains i) then geth h2 id else geth t.hp id := by
    intro t ht id
    rw [qaeu hu]
    by_cases hin : id ∈ (idsH h1 ++ idsH h2).filter (fun i => !rd.contains i)
    ·rw [if_pos hin]
     cases e : geth h2 id with
     | some o => rfl
     | none =>
      simp only
      split
      ·rfl
      ·rename_i h3
       have h3' : geth h1 id = none := by simpa using h3
       rw [List.mem_filter, List.mem_append] at hin
       exfalso
       rcases hin.1 with h4 | h4
       ·exact qahu h4 h3'
       ·exact qahu h4 e
    ·rw [if_neg hin]
     by_cases hr : id ∈ rd
     ·rw [hrd0 id hr]
      cases e : geth h1 id with
      | none => simp
      | some o =>
       simp only
       rw [ht id (.inl hr), hsub.get id o e]
     ·have hni : id ∉ idsH h1 ++ idsH h2 := fun h3 => hin (List.mem_filter.2 ⟨h3, by simpa using hr⟩)
      rw [List.mem_append, not_or] at hni
      have n1 : geth h1 id = none := by
       cases e : geth h1 id with
       | none => rfl
       | some o => exact absurd (mem_ids e) hni.1
      have n2 : geth h2 id = none := by
       cases e : geth h2 id with
       | none => rfl
       | some o => exact absurd (mem_ids e) hni.2
      rw [n1, n2]; simp
   refine ⟨_, _, hk, by simp only; omega, ⟨so.dst, r, (idsH h1 ++ idsH h2).filter (fun i => !rd.contains i), geth h2⟩, rfl, rfl, ⟨fun x => qad0 _ _ _ _, heff s fun _ _ => rfl⟩, ?_⟩
   intro t ρ fp a w h hrd hobj0 hfr K' R hK
   rw [if_pos (hw t ρ fp a w h hrd)]
   have hobj : ∀ id, id ∈ rd ∨ id ∈ (idsH h1 ++ idsH h2).filter (fun i => !rd.contains i) → geth t.hp id = geth s.hp id := fun id h3 => hobj0 id (h3.imp (fun h4 => List.mem_append_right _ h4) fun h4 => h4)
   obtain ⟨vals, hrun, hreps0⟩ := hruns t ρ fp a w h hrd fun id h3 => hobj0 id (.inl (List.mem_append_left _ h3))
   have hsub' : ∀ id o, geth h1 id = some o → geth t.hp id = some o := fun id o ho => by
    rw [hobj id ?_]
    ·exact hsub.get id o ho
    ·by_cases hr : id ∈ rd
     ·exact .inl hr
     ·exact .inr (List.mem_filter.2 ⟨List.mem_append_left _ (mem_ids ho), by simpa using hr⟩)
   have hav : ∀ k, (Rest X fp t.hp h1 k ∨ Live h1 fp k) → Av X t.hp fp k := fun k hk => (Rest.av hsub' k).1 hk
   have hreps := hreps0.weaken fun k hk _ => hav k hk
   have := hcall (Rest X fp t.hp h1) ρ fp w _ (h.h.part hsub') hreps hfr
   unfold Oper.wp
   rw [hrun, Oper.upon_enter]
   refine this.mono ?_
   rintro e w' ⟨v, ρ', fp', rfl, q1, q2, q3, q4, q5, q6⟩
   obtain ⟨p1, p2, p3⟩ := h.h.called hsub' hu (q := s.nx) hle q1 q3 q4 q5 q6
   refine hK ⟨putd t.sl so.dst r, qaby t.hp h1 h2, t.nx⟩ ρ' (fun id k => (geth h2 id ≠ none ∧ fp' id k) ∨ (geth h2 id = none ∧ fp id k)) _ _ ⟨fun x => qad0 _ _ _ _, heff t hobj⟩ ?_ q5
   have := h.put (nx' := t.nx) p1 p2 (q2.weaken fun k hk _ => p3 k hk) (dst := so.dst) (by rw [hdst]; exact hd)
   rw [hdst] at this ⊢; exact this
  have hobjm : ∀ {hm : Hp} {t : SSt} {ρ : qab1} {fp : Nat → Nat → Prop} {a : Act} {w : World}, SubH s.hp hm → Sim X ρ fp t a w → (∀ id ∈ idsH hm, geth t.hp id = geth s.hp id) → ∀ id o, geth hm id = some o → ∃ fp', ObjRep w (Av X t.hp fp) ρ id fp' o := fun hs h ht id o ho => ⟨_, h.h.objs id o (by rw [ht id (qahx ho)]; exact hs.get id o ho)⟩
 ·rw [hcal] at hk
  simp only at hk
  have hsubt : ∀ {t : SSt}, (∀ y ∈ so.reads, gets t.sl y = gets s.sl y) → ∀ y ∈ qaez (f :: args), gets s.sl y = gets t.sl y := fun hrd y hy => (hrd y (by simp [SOper.reads, hcal, hy])).symm
  split at hk
  ·rename_i g' first cap hfv
   obtain ⟨h1, r, h2, rd, nn, hS, hsub, hu, hrd0, hk⟩ := hk
   refine fin [] rd hS hsub hu hrd0 hk fun t ρ fp a w h hrd _ => ?_
   have hev := qag0 (hsubt hrd)
   have hfv2 : f.ev t.sl = .fn (.func g') first cap := by rw [← hev f (by simp)]; exact hfv
   have hargs2 : args.map (·.ev t.sl) = args.map (·.ev s.sl) := List.map_congr_left fun x hx => (hev x (by simp [hx])).symm
   have rf := qabh hf h.slots
   rw [hfv2] at rf
   have rargs := qaee hargs h.slots
   rw [hargs2] at rargs
   generalize hgv : a.eval g = gv at rf
   cases rf with
   | fn l1 l2 r1 r2 =>
    rename_i vs us
    refine ⟨vs ++ gs.toList.map a.eval ++ us, ?_, Reps.append (Reps.append ⟨l1, r1⟩ rargs) ⟨l2, r2⟩⟩
    have e1 : (vs.toArray ++ gs.map a.eval ++ us.toArray) = (vs ++ gs.toList.map a.eval ++ us).toArray := by apply Array.ext'; simp
    simp only [execOp, hop, resolve, hgv, Deferred.ofValue, Sem.run_bind, Sem.run_pure, Result.andThen_ok, invoke, e1]
    exact hS.ent _ _
  ·rename_i nm hfv
   split at hk
   ·rename_i tt x az hav
    obtain ⟨hm, x', g', h1, r, h2, rd, nn, hsm, hM, hS, hsub, hu, hrd0, hk⟩ := hk
    refine fin (idsH hm) rd hS hsub hu hrd0 hk fun t ρ fp a w h hrd hrd2 => ?_
    have hev := qag0 (hsubt hrd)
    have hfv2 : f.ev t.sl = .fn (.method nm) [] [] := by rw [← hev f (by simp)]; exact hfv
    have hargs2 : args.map (·.ev t.sl) = args.map (·.ev s.sl) := List.map_congr_left fun x hx => (hev x (by simp [hx])).symm
    have rf := qabh hf h.slots
    rw [hfv2] at rf
    have rargs := qaee hargs h.slots
    rw [hargs2, show args.map (·.ev s.sl) = .ifc tt x :: az from hav] at rargs
    generalize hgv : a.eval g = gv at rf
    cases rf with
    | fn l1 l2 r1 r2 =>
     rename_i vs us
     obtain rfl := List.eq_nil_of_length_eq_zero l1.symm
     obtain rfl := List.eq_nil_of_length_eq_zero l2.symm
     obtain ⟨v', avs, h3, h4⟩ := qahk (hobjm hsm h hrd2) hM hS.ent rargs
     refine ⟨v' :: avs, ?_, h4⟩
     have e1 : (([] : List Value).toArray ++ gs.map a.eval) = (gs.toList.map a.eval).toArray := by apply Array.ext'; simp
     simp only [execOp, hop, resolve, hgv, Deferred.ofValue, Sem.run_bind, Sem.run_pure, Result.andThen_ok, e1]
     exact h3
   ·cases hk
  ·cases hk
 ·rw [hcal] at hk
  simp only [SX.ev] at hk
  have hsubt : ∀ {t : SSt}, (∀ y ∈ so.reads, gets t.sl y = gets s.sl y) → ∀ y ∈ qaez (r :: args), gets s.sl y = gets t.sl y := fun hrd y hy => (hrd y (by
   have : y ∈ qaez (SX.c (.fn (.method nm) [] []) :: r :: args) := by simpa [qaez] using hy
   simp only [SOper.reads, hcal]; first | exact List.mem_append_right _ (List.mem_append_left _ this) | simp [this])).symm
  split at hk
  ·rename_i tt x az hav
   obtain ⟨hm, x', g', h1, rr, h2, rd, nn, hsm, hM, hS, hsub, hu, hrd0, hk⟩ := hk
   refine fin (idsH hm) rd hS hsub hu hrd0 hk fun t ρ fp a w h hrd hrd2 => ?_
   have hev := qag0 (hsubt hrd)
   have hargs2 : (r :: args).map (·.ev t.sl) = (r :: args).map (·.ev s.sl) := List.map_congr_left fun x hx => (hev x hx).symm
   have rf := qabh hf h.slots
   have rargs := qaee hargs h.slots
   have rall : Reps w (Av X t.hp fp) ρ (.ifc tt x :: az) (a.eval g :: gs.toList.map a.eval) := by
    have := Reps.cons rf rargs
    have e : (r :: args).map (·.ev s.sl) = .ifc tt x :: az := hav
    rw [← e, ← hargs2]; exact this
   obtain ⟨v', avs, h3, h4⟩ := qahk (hobjm hsm h hrd2) hM hS.ent rall
   refine ⟨v' :: avs, ?_, h4⟩
   have e1 : (#[a.eval g] ++ gs.map a.eval) = (a.eval g :: gs.toList.map a.eval).toArray := by apply Array.ext'; simp
   simp only [execOp, hop, resolve, Sem.run_bind, Sem.run_pure, Result.andThen_ok, e1]
   exact h3
  ·cases hk
end Go.Proofs.Ytbefmmajjfijnaa
namespace Go.Proofs.Ytbefmmajjfijnaa
set_option linter.all false
open Go.RowKit
def qa37 (a b : SOper × Tch) : Bool :=
 (match a.1.dst with | some d => b.1.reads.contains d || b.1.dst == some d | none => false) || (match b.1.dst with | some d => a.1.reads.contains d | none => false) ||
  a.2.wr.any (fun i => b.2.rd.contains i || b.2.wr.contains i) || b.2.wr.any fun i => a.2.rd.contains i
def qakb (l : List (SOper × Tch)) : Bool :=
 (List.range l.length).all fun j => (List.range j).all fun i => match l[i]?, l[j]? with
  | some a, some b => !qa37 a b || b.1.bef.testBit i
  | _, _ => true
theorem qanv {l : List (SOper × Tch)} (h : qakb l = true) {i j : Nat} {a b : SOper × Tch} (hij : i < j) (ha : l[i]? = some a) (hb : l[j]? = some b) (hc : qa37 a b = true) : b.1.bef.testBit i = true := by
 have hj : j < l.length := (List.getElem?_eq_some_iff.1 hb).1
 have h1 := List.all_eq_true.1 (List.all_eq_true.1 h j (List.mem_range.2 hj)) i (List.mem_range.2 hij)
 simpa [ha, hb, hc] using h1
def befG (acc : Array Nat) (o : Oper) : Nat := o.after.foldl (fun s e => if Region.binds .any e then s ||| 2 ^ e.on ||| acc.getD e.on 0 else s) 0
theorem qa00 (acc : Array Nat) (o : Oper) (i : Nat) (h : (befG acc o).testBit i = true) : ∃ e ∈ o.after.toList, Region.binds .any e = true ∧ (e.on = i ∨ (acc.getD e.on 0).testBit i = true) := by
 unfold befG at h
 rw [← Array.foldl_toList] at h
 have gen : ∀ (l : List Edge) (s : Nat), (l.foldl (fun s e => if Region.binds .any e then s ||| 2 ^ e.on ||| acc.getD e.on 0 else s) s).testBit i = true → s.testBit i = true ∨ ∃ e ∈ l, Region.binds .any e = true ∧ (e.on = i ∨ (acc.getD e.on 0).testBit i = true) := by
  intro l
  induction l with
  | nil => intro s h; exact .inl h
  | cons e l ih =>
   intro s h
   rw [List.foldl_cons] at h
   rcases ih _ h with h1 | ⟨e', h1, h2⟩
   ·split at h1
    ·rename_i hb
     rw [Nat.testBit_or, Nat.testBit_or, Bool.or_eq_true, Bool.or_eq_true] at h1
     rcases h1 with (h1 | h1) | h1
     ·exact .inl h1
     ·rw [Nat.testBit_two_pow] at h1
      exact .inr ⟨e, by simp, hb, .inl (by simpa using h1)⟩
     ·exact .inr ⟨e, by simp, hb, .inr h1⟩
    ·exact .inl h1
   ·exact .inr ⟨e', by simp [h1], h2⟩
 rcases gen _ _ h with h1 | h1
 ·simp at h1
 ·exact h1
theorem qaro (ops : Array Oper) : (Region.before ops).size = ops.size ∧ ∀ (j : Nat) o, ops[j]? = some o → ∀ i, ((Region.before ops).getD j 0).testBit i = true → ∃ e ∈ o.after.toList, Region.binds .any e = true ∧ (e.on = i ∨ ((Region.before ops).getD e.on 0).testBit i = true) := by
 unfold Region.before
 rw [← Array.foldl_toList]
 have gen : ∀ (l done : List Oper) (acc : Array Nat), acc.size = done.length → (∀ (j : Nat) o, done[j]? = some o → ∀ i, (acc.getD j 0).testBit i = true → ∃ e ∈ o.after.toList, Region.binds .any e = true ∧ (e.on = i ∨ (acc.getD e.on 0).testBit i = true)) →
   (l.foldl (fun acc o => acc.push (befG acc o)) acc).size = (done ++ l).length ∧ ∀ (j : Nat) o, (done ++ l)[j]? = some o → ∀ i, ((l.foldl (fun acc o => acc.push (befG acc o)) acc).getD j 0).testBit i = true → ∃ e ∈ o.after.toList, Region.binds .any e = true ∧ (e.on = i ∨ ((l.foldl (fun acc o => acc.push (befG acc o)) acc).getD e.on 0).testBit i = true) := by
  intro l
  induction l with
  | nil => intro done acc h1 h2; rw [List.append_nil]; exact ⟨h1, h2⟩
  | cons o l ih =>
   intro done acc h1 h2
   have up : ∀ k i, (acc.getD k 0).testBit i = true → ((acc.push (befG acc o)).getD k 0).testBit i = true := fun k i h => by
    rw [Array.getD_eq_getD_getElem?] at h ⊢
    cases e : acc[k]? with
    | none => rw [e] at h; simp at h
    | some x =>
     have hk : k < acc.size := (Array.getElem?_eq_some_iff.1 e).1
     rw [Array.getElem?_push, if_neg (by omega), e]
     rw [e] at h; exact h
   have := ih (done ++ [o]) (acc.push (befG acc o)) (by simp [h1]) (fun j o' hj i hi => by
    by_cases hjd : j < done.length
    ·rw [List.getElem?_append_left hjd] at hj
     rw [Array.getD_eq_getD_getElem?, Array.getElem?_push, if_neg (by omega), ← Array.getD_eq_getD_getElem?] at hi
     obtain ⟨e, q1, q2, q3⟩ := h2 j o' hj i hi
     exact ⟨e, q1, q2, q3.imp (fun h => h) (up _ _)⟩
    ·rw [List.getElem?_append_right (by omega)] at hj
     have hj0 : j = done.length := by have := (List.getElem?_eq_some_iff.1 hj).1; simp at this; omega
     subst hj0
     simp at hj
     subst hj
     rw [Array.getD_eq_getD_getElem?, Array.getElem?_push, if_pos h1.symm] at hi
     obtain ⟨e, q1, q2, q3⟩ := qa00 acc o i hi
     exact ⟨e, q1, q2, q3.imp (fun h => h) (up _ _)⟩)
   rw [List.append_assoc] at this
   exact this
 have := gen ops.toList [] #[] rfl (fun j o h => by simp at h)
 refine ⟨by have h := this.1; rw [List.nil_append, Array.length_toList] at h; exact h, fun j o hj => this.2 j o (by simpa using hj)⟩
theorem qag1 : ∀ {l : List Oper} {k : Nat}, qayx k l = true → ∀ (j : Nat) o, l[j]? = some o → ∀ e ∈ o.after.toList, Region.binds .any e = true → e.on < k + j
 | [], k, _, j, o, ho, _, _, _ => by simp at ho
 | o :: l, k, h, j, o', ho, e, he, hb => by
  simp only [qayx, Bool.and_eq_true] at h
  cases j with
  | zero =>
   simp at ho; subst ho
   have := List.all_eq_true.1 h.1 e he
   simpa [hb] using this
  | succ j =>
   have := qag1 h.2 j o' (by simpa using ho) e he hb
   omega
structure Ent where
 o : Oper
 so : SOper
 s : SSt
 s' : SSt
 x : Tch
 e : Eff
variable {X : Cx}
def qa5d (X : Cx) (ops : Array Oper) (t : Ent) : Prop := t.s.nx ≤ t.s'.nx ∧ t.e.dst = t.so.dst ∧ t.e.wr = t.x.wr ∧ t.e.at t.s t.s' ∧ Loc X ops t.o t.so.reads t.x.rd t.s.nx t.s'.nx t.s t.e
def Chain (s : SSt) : List Ent → SSt → Prop
 | [], t => s = t
 | e :: es, t => e.s = s ∧ Chain e.s' es t
theorem qar2 {ops : Array Oper} {Q : SSt → List Tch → Prop} : ∀ (l : List Oper) (bs : List Nat) (sos : List SOper), qae7 X.P X.N ops l bs = some sos → ∀ (s : SSt) (tr : List Tch), X.m ≤ s.nx → SOps X.P sos s tr Q →
  ∃ es sN, Chain s es sN ∧ (∀ t ∈ es, qa5d X ops t) ∧ es.map (·.o) = l ∧ es.map (·.so) = sos ∧ Q sN ((es.map (·.x)).reverse ++ tr) := by
 intro l
 induction l with
 | nil =>
  intro bs sos hc s tr hle hk
  simp only [qae7, Option.some.injEq] at hc
  subst hc
  exact ⟨[], s, rfl, by simp, rfl, rfl, hk⟩
 | cons o l ih =>
  intro bs sos hc s tr hle hk
  obtain ⟨so, r, rfl, hso, hr⟩ := qae6 hc
  obtain ⟨hdst, hd, hg, _, _⟩ := qad1 hso
  have gd : ∀ (t : SSt) ρ fp a w, Sim X ρ fp t a w → _ := fun t ρ fp a w h => qasy (s := t) hg h
  have join : ∀ s' x, Stp X ops o so s s' x → SOps X.P r s' (x :: tr) Q → ∃ es sN, Chain s es sN ∧ (∀ t ∈ es, qa5d X ops t) ∧ es.map (·.o) = o :: l ∧ es.map (·.so) = so :: r ∧ Q sN ((es.map (·.x)).reverse ++ tr) := by
   rintro s' x ⟨h1, e, h2, h3, h4, h5⟩ hk'
   obtain ⟨es, sN, q1, q2, q3, q4, q5⟩ := ih _ _ hr s' (x :: tr) (Nat.le_trans hle h1) hk'
   refine ⟨⟨o, so, s, s', x, e⟩ :: es, sN, ⟨rfl, q1⟩, fun t ht => ?_, by simp [q3], by simp [q4], by simpa using q5⟩
   rcases List.mem_cons.1 ht with ht | ht
   ·subst ht; exact ⟨h1, h2, h3, h4, h5⟩
   ·exact q2 t ht
  simp only [SOps] at hk
  cases hgr : so.grd with
  | none =>
   rw [hgr] at hk
   obtain ⟨s', x, h1, h2⟩ := qa1l hso hle hk fun t ρ fp a w h _ => (gd t ρ fp a w h).1 hgr
   exact join s' x h2 h1
  | some tw =>
   obtain ⟨t0, want⟩ := tw
   rw [hgr] at hk
   have hin : t0 ∈ so.reads := by simp [SOper.reads, hgr]
   simp only at hk
   split at hk
   ·rename_i b hb
    by_cases hbw : b = want
    ·obtain ⟨s', x, h1, h2⟩ := qa1l hso hle (hk.1 hbw) fun t ρ fp a w h hrd => by
      rw [((gd t ρ fp a w h).2 t0 want hgr).1 b (by rw [hrd t0 hin]; exact hb)]; simpa using hbw
     exact join s' x h2 h1
    ·exact join _ _ (qar3 hso fun t ρ fp a w h hrd => by
      rw [((gd t ρ fp a w h).2 t0 want hgr).1 b (by rw [hrd t0 hin]; exact hb)]; simpa using hbw) (hk.2 hbw)
   ·rename_i hb
    exact join _ _ (qar3 hso fun t ρ fp a w h hrd => ((gd t ρ fp a w h).2 t0 want hgr).2 (by rw [hrd t0 hin]; exact hb)) hk
   ·cases hk
inductive Rs where
 | sl (t : Nat)
 | ob (id : Nat)
def Ent.W (t : Ent) : Rs → Prop
 | .sl y => t.e.dst = some y
 | .ob id => id ∈ t.e.wr
def Ent.L (t : Ent) : Rs → Prop
 | .sl y => y ∈ t.so.reads ∨ t.e.dst = some y
 | .ob id => id ∈ t.x.rd ∨ id ∈ t.e.wr
def Lw (es : List Ent) (S : Nat → Prop) (r : Rs) : Option Nat → Prop
 | some k => S k ∧ (∃ t, es[k]? = some t ∧ t.W r) ∧ ∀ k', k < k' → S k' → ∀ t, es[k']? = some t → ¬ t.W r
 | none => ∀ k, S k → ∀ t, es[k]? = some t → ¬ t.W r
def Inv (es : List Ent) (s0 : SSt) (S : Nat → Prop) (t : SSt) : Prop :=
 (∀ y, ∃ o, Lw es S (.sl y) o ∧ gets t.sl y = match o with | some k => ((es[k]?).map (·.e.v)).getD .any | none => gets s0.sl y) ∧
 ∀ id, ∃ o, Lw es S (.ob id) o ∧ geth t.hp id = match o with | some k => ((es[k]?).map (·.e.c id)).getD none | none => geth s0.hp id
theorem Ent.W_L {t : Ent} {r : Rs} (h : t.W r) : t.L r := by cases r <;> exact .inr h
theorem Lw.uniq {es : List Ent} {S : Nat → Prop} {r : Rs} {o o' : Option Nat} (h : Lw es S r o) (h' : Lw es S r o') : o = o' := by
 cases o with
 | none =>
  cases o' with
  | none => rfl
  | some k => obtain ⟨h1, ⟨t, h2, h3⟩, _⟩ := h'; exact absurd h3 (h k h1 t h2)
 | some k =>
  obtain ⟨h1, ⟨t, h2, h3⟩, h4⟩ := h
  cases o' with
  | none => exact absurd h3 (h' k h1 t h2)
  | some k' =>
   obtain ⟨g1, ⟨t', g2, g3⟩, g4⟩ := h'
   rcases Nat.lt_trichotomy k k' with e | e | e
   ·exact absurd g3 (h4 k' e g1 t' g2)
   ·rw [e]
   ·exact absurd h3 (g4 k e h1 t h2)
structure Ord (es : List Ent) (B : Nat → Nat → Prop) : Prop where
 ord : ∀ i j a b r, i < j → es[i]? = some a → es[j]? = some b → (a.W r ∧ b.L r) ∨ (a.L r ∧ b.W r) → B j i
theorem Lw.agree {es : List Ent} {B : Nat → Nat → Prop} (hB : Ord es B) {S : Nat → Prop} (hcl : ∀ j i, S j → B j i → S i) {j : Nat} {t : Ent} (hj : es[j]? = some t) (hnj : ¬ S j) (hdep : ∀ i, B j i → S i) {r : Rs} (hl : t.L r) {o o' : Option Nat} (h : Lw es S r o) (h' : Lw es (· < j) r o') : o = o' := by
 have lt_of : ∀ k u, S k → es[k]? = some u → u.W r → k < j := fun k u hk hu hw => by
  rcases Nat.lt_trichotomy k j with e | e | e
  ·exact e
  ·rw [e] at hk; exact absurd hk hnj
  ·exact absurd (hcl k j hk (hB.ord j k t u r e hj hu (.inr ⟨hl, hw⟩))) hnj
 have in_of : ∀ k u, k < j → es[k]? = some u → u.W r → S k := fun k u hk hu hw => hdep k (hB.ord k j u t r hk hu hj (.inl ⟨hw, hl⟩))
 have h2 : Lw es (· < j) r o := by
  cases o with
  | none => exact fun k hk u hu hw => h k (in_of k u hk hu hw) u hu hw
  | some k =>
   obtain ⟨h1, ⟨u, h2, h3⟩, h4⟩ := h
   exact ⟨lt_of k u h1 h2 h3, ⟨u, h2, h3⟩, fun k' hk hk' u' hu' hw => h4 k' hk (in_of k' u' hk' hu' hw) u' hu' hw⟩
 exact h2.uniq h'
theorem Lw.add {es : List Ent} {B : Nat → Nat → Prop} (hB : Ord es B) {S : Nat → Prop} (hcl : ∀ j i, S j → B j i → S i) {j : Nat} {t : Ent} (hj : es[j]? = some t) (hnj : ¬ S j) {r : Rs} {o : Option Nat} (h : Lw es S r o) :
  (t.W r → Lw es (fun k => S k ∨ k = j) r (some j)) ∧ (¬ t.W r → Lw es (fun k => S k ∨ k = j) r o) := by
 refine ⟨fun hw => ⟨.inr rfl, ⟨t, hj, hw⟩, fun k' hk hk' u hu hw' => ?_⟩, fun hw => ?_⟩
 ·rcases hk' with hk' | hk'
  ·exact hnj (hcl k' j hk' (hB.ord j k' t u r hk hj hu (.inl ⟨hw, Ent.W_L hw'⟩)))
  ·omega
 ·cases o with
  | none =>
   intro k hk u hu hw'
   rcases hk with hk | hk
   ·exact h k hk u hu hw'
   ·subst hk; rw [hj] at hu; cases hu; exact hw hw'
  | some k =>
   obtain ⟨h1, h2, h4⟩ := h
   refine ⟨.inl h1, h2, fun k' hk hk' u hu hw' => ?_⟩
   rcases hk' with hk' | hk'
   ·exact h4 k' hk hk' u hu hw'
   ·subst hk'; rw [hj] at hu; cases hu; exact hw hw'
theorem Chain.inv {ops : Array Oper} : ∀ {es : List Ent} {s0 sN : SSt}, Chain s0 es sN → (∀ t ∈ es, qa5d X ops t) → ∀ (pre : List Ent) (s00 : SSt), Inv (pre ++ es) s00 (· < pre.length) s0 → (∀ (j : Nat) t, es[j]? = some t → Inv (pre ++ es) s00 (· < pre.length + j) t.s) ∧ Inv (pre ++ es) s00 (· < (pre ++ es).length) sN := by
 intro es
 induction es with
 | nil =>
  intro s0 sN hc _ pre s00 h
  obtain rfl : s0 = sN := hc
  exact ⟨fun j t ht => by simp at ht, by simpa using h⟩
 | cons t es ih =>
  intro s0 sN hc hok pre s00 h
  obtain ⟨rfl, hc⟩ := hc
  obtain ⟨_, _, _, hat, _⟩ := hok t (by simp)
  have hget : (pre ++ t :: es)[pre.length]? = some t := by simp
  have hnext : Inv (pre ++ t :: es) s00 (· < pre.length + 1) t.s' := by
   have hstep : ∀ r o, Lw (pre ++ t :: es) (· < pre.length) r o → (t.W r → Lw (pre ++ t :: es) (· < pre.length + 1) r (some pre.length)) ∧ (¬ t.W r → Lw (pre ++ t :: es) (· < pre.length + 1) r o) := fun r o ho => by
    refine ⟨fun hw => ⟨Nat.lt_succ_self _, ⟨t, hget, hw⟩, fun k' h1 h2 => by omega⟩, fun hw => ?_⟩
    cases o with
    | none =>
     intro k hk u hu hw'
     rcases Nat.lt_or_ge k pre.length with e | e
     ·exact ho k e u hu hw'
     ·obtain rfl : k = pre.length := by have hk' : k < pre.length + 1 := hk; omega
      rw [hget] at hu; cases hu; exact hw hw'
    | some k =>
     obtain ⟨h1, h2, h4⟩ := ho
     refine ⟨Nat.lt_succ_of_lt h1, h2, fun k' hk hk' u hu hw' => ?_⟩
     rcases Nat.lt_or_ge k' pre.length with e | e
     ·exact h4 k' hk e u hu hw'
     ·obtain rfl : k' = pre.length := by have hk2 : k' < pre.length + 1 := hk'; omega
      rw [hget] at hu; cases hu; exact hw hw'
   refine ⟨fun y => ?_, fun id => ?_⟩
   ·obtain ⟨o, ho, hv⟩ := h.1 y
    obtain ⟨q1, q2⟩ := hstep (.sl y) o ho
    rw [hat.1 y]
    by_cases hw : t.e.dst = some y
    ·exact ⟨some pre.length, q1 hw, by rw [if_pos hw]; simp only [hget]; rfl⟩
    ·exact ⟨o, q2 hw, by rw [if_neg hw]; exact hv⟩
   ·obtain ⟨o, ho, hv⟩ := h.2 id
    obtain ⟨q1, q2⟩ := hstep (.ob id) o ho
    rw [hat.2 id]
    by_cases hw : id ∈ t.e.wr
    ·exact ⟨some pre.length, q1 hw, by rw [if_pos hw]; simp only [hget]; rfl⟩
    ·exact ⟨o, q2 hw, by rw [if_neg hw]; exact hv⟩
  have hre : pre ++ t :: es = (pre ++ [t]) ++ es := by simp
  rw [hre] at hnext h ⊢
  obtain ⟨r1, r2⟩ := ih hc (fun u hu => hok u (by simp [hu])) (pre ++ [t]) s00 (by simpa using hnext)
  refine ⟨fun j u hu => ?_, r2⟩
  cases j with
  | zero => simp at hu; subst hu; simpa using h
  | succ j =>
   have := r1 j u (by simpa using hu)
   rw [List.length_append, List.length_singleton] at this
   rw [show pre.length + (j + 1) = pre.length + 1 + j by omega]
   exact this
end Go.Proofs.Ytbefmmajjfijnaa
namespace Go.Proofs.Ytbefmmajjfijnaa
set_option linter.all false
open Go.RowKit
variable {X : Cx}
theorem qagz {p q : Nat → Bool} : ∀ (l : List Nat) (i : Nat), i ∈ l → p i = true → q i = false → (∀ k, q k = true → p k = true) → (l.filter q).length < (l.filter p).length
 | [], i, h, _, _, _ => by cases h
 | x :: l, i, h, hp, hq, hpq => by
  have mono : ∀ l : List Nat, (l.filter q).length ≤ (l.filter p).length := fun l => by
   induction l with
   | nil => exact Nat.le_refl _
   | cons y l ih =>
    simp only [List.filter_cons]
    cases hy : q y with
    | true => rw [hpq y hy]; simp; exact ih
    | false => cases hy' : p y <;> simp <;> omega
  simp only [List.filter_cons]
  by_cases e : x = i
  ·subst e
   rw [hp, hq]
   have := mono l
   simp; omega
  ·have := qagz l i ((List.mem_cons.1 h).resolve_left (Ne.symm e)) hp hq hpq
   cases hy : q x with
   | true => rw [hpq x hy]; simp; exact this
   | false => cases hy' : p x <;> simp <;> omega
theorem Sim.congr {ρ : qab1} {fp : Nat → Nat → Prop} {s t : SSt} {a : Act} {w : World} (h : Sim X ρ fp s a w) (h1 : ∀ y, gets t.sl y = gets s.sl y) (h2 : ∀ id, geth t.hp id = geth s.hp id) : Sim X ρ fp t a w := by
 have hL : Live t.hp fp = Live s.hp fp := by funext k; unfold Live; simp only [h2]
 have hA : Av X t.hp fp = Av X s.hp fp := by funext k; unfold Av; rw [hL]
 refine ⟨⟨fun id o ho => ?_, fun id id' o o' hne ho ho' => ?_, fun id o ho => ?_, h.h.step, h.h.keep⟩, h.tmps, h.defers, fun y => ?_⟩
 ·rw [hA]; exact h.h.objs id o (by rw [← h2]; exact ho)
 ·exact h.h.disj id id' o o' hne (by rw [← h2]; exact ho) (by rw [← h2]; exact ho')
 ·exact h.h.turn id o (by rw [← h2]; exact ho)
 ·rw [hA, h1]; exact h.slots y
theorem SimH.drew {ρ : qab1} {fp : Nat → Nat → Prop} {hp : Hp} {w : World} (h : SimH X ρ fp hp w) : SimH X ρ fp hp { w with drawn := w.drawn + 1 } ∧ Pres w (Av X hp fp) ρ { w with drawn := w.drawn + 1 } (Av X hp fp) ρ := by
 have hst : Step (fun _ => False) w { w with drawn := w.drawn + 1 } := ⟨rfl, rfl, rfl, Nat.le_refl _, fun _ _ _ => rfl⟩
 exact h.change (hp' := hp) (fun _ => False) (fun _ => False) hst (fun _ h => h.elim) (fun id o ho _ => ⟨ho, fun h => h, rfl⟩) (fun _ _ h => h) (fun _ _ => rfl) (fun _ _ h => h.elim) (fun _ _ _ _ h => h.elim) (fun _ _ _ h => h.elim)
theorem qa34 {a b : Ent} (ha : a.e.dst = a.so.dst) (ha2 : a.e.wr = a.x.wr) (hb : b.e.dst = b.so.dst) (hb2 : b.e.wr = b.x.wr) {r : Rs} (h : (a.W r ∧ b.L r) ∨ (a.L r ∧ b.W r)) : qa37 (a.so, a.x) (b.so, b.x) = true := by
 unfold qa37
 simp only [Bool.or_eq_true]
 cases r with
 | sl y =>
  simp only [Ent.W, Ent.L] at h
  rw [ha, hb] at h
  rcases h with ⟨h1, h2 | h2⟩ | ⟨h2 | h2, h1⟩
  ·exact .inl (.inl (.inl (by rw [h1]; simp [h2])))
  ·exact .inl (.inl (.inl (by rw [h1]; simp [h2])))
  ·exact .inl (.inl (.inr (by rw [h1]; simp [h2])))
  ·exact .inl (.inl (.inl (by rw [h2]; simp [h1])))
 | ob id =>
  simp only [Ent.W, Ent.L] at h
  rw [ha2, hb2] at h
  rcases h with ⟨h1, h2 | h2⟩ | ⟨h2 | h2, h1⟩
  ·exact .inl (.inr (List.any_eq_true.2 ⟨id, h1, by simp [h2]⟩))
  ·exact .inl (.inr (List.any_eq_true.2 ⟨id, h1, by simp [h2]⟩))
  ·exact .inr (List.any_eq_true.2 ⟨id, h1, by simp [h2]⟩)
  ·exact .inl (.inr (List.any_eq_true.2 ⟨id, h2, by simp [h1]⟩))
theorem qam1 {α β : Type} {f : α → β} {es : List α} {l : List β} (h : es.map f = l) {j : Nat} {t : α} (ht : es[j]? = some t) : l[j]? = some (f t) := by rw [← h]; simp [ht]
theorem qaip {P : Program} {N : Nat} {ops : Array Oper} : ∀ (l : List Oper) (bs : List Nat) (sos : List SOper), qae7 P N ops l bs = some sos → ∀ (j : Nat) so, sos[j]? = some so → so.bef = (bs.drop j).headD 0
 | [], bs, sos, h, j, so, hj => by simp only [qae7, Option.some.injEq] at h; subst h; simp at hj
 | o :: l, bs, sos, h, j, so, hj => by
  obtain ⟨so0, r, rfl, h1, h2⟩ := qae6 h
  cases j with
  | zero => simp at hj; subst hj; rw [List.drop_zero]; exact (qad1 h1).2.2.2.1
  | succ j =>
   have := qaip l bs.tail r h2 j so (by simpa using hj)
   rw [this]; cases bs <;> simp
theorem qa2j {ops : Array Oper} (hed : qata ops = true) {sos : List SOper} (hc : qae7 X.P X.N ops ops.toList (Region.before ops).toList = some sos) {Q : SSt → Prop} {R : Exit → Act → World → Prop} (hQ : ∀ s ρ fp a w, Q s → SimF X ρ fp s a w → R .normal a w)
  {s : SSt} {ρ : qab1} {fp : Nat → Nat → Prop} {a : Act} {w : World} (hk : SOps X.P sos s [] fun s' tr => qakb (sos.zip tr.reverse) = true ∧ Q s') (h : SimF X ρ fp s a w) : wpAny X.P .any ops R ops.size (Array.replicate ops.size false) a { w with drawn := w.drawn + 1 } := by
 obtain ⟨es, sN, hch, hok, ho, hso, hok2, hq⟩ := qar2 _ _ _ hc s [] h.le hk
 simp only [List.append_nil, List.reverse_reverse] at hok2
 have hlen : es.length = ops.size := by have := congrArg List.length ho; simpa using this
 have hzip : sos.zip (es.map (·.x)) = es.map fun t => (t.so, t.x) := by
  rw [← hso]
  clear hok2 ho hso hch hok hlen hq hc hk
  induction es with
  | nil => rfl
  | cons t es ih => simp [ih]
 rw [hzip] at hok2
 let B : Nat → Nat → Prop := fun j i => ((Region.before ops).getD j 0).testBit i = true
 have hbef : ∀ (j : Nat) t, es[j]? = some t → t.so.bef = (Region.before ops).getD j 0 := fun j t ht => by
  rw [qaip _ _ _ hc j t.so (qam1 hso ht)]
  rw [List.headD_eq_head?_getD, List.head?_drop, Array.getD_eq_getD_getElem?]; simp
 have hord : Ord es B := ⟨fun i j x y r hij hx hy hcl => by
  have ox := hok x (List.mem_of_getElem? hx)
  have oy := hok y (List.mem_of_getElem? hy)
  have := qanv hok2 hij (qam1 rfl hx) (qam1 rfl hy) (qa34 ox.2.1 ox.2.2.1 oy.2.1 oy.2.2.1 hcl)
  show ((Region.before ops).getD j 0).testBit i = true
  rw [← hbef j y hy]; exact this⟩
 have hinv0 : Inv es s (fun _ => False) s := ⟨fun y => ⟨none, fun _ h => h.elim, rfl⟩, fun id => ⟨none, fun _ h => h.elim, rfl⟩⟩
 have hinv00 : Inv ([] ++ es) s (· < ([] : List Ent).length) s := by
  have e : (fun k => k < ([] : List Ent).length) = fun _ => False := by funext k; simp
  rw [e]; exact hinv0
 obtain ⟨hst, hfin⟩ := hch.inv hok [] s hinv00
 simp only [List.nil_append, List.length_nil, Nat.zero_add] at hst hfin
 have hnx : ∀ (j : Nat) t, es[j]? = some t → s.nx ≤ t.s.nx ∧ t.s'.nx ≤ sN.nx := by
  have gen : ∀ (es : List Ent) (s sN : SSt), Chain s es sN → (∀ t ∈ es, qa5d X ops t) → s.nx ≤ sN.nx ∧ ∀ (j : Nat) t, es[j]? = some t → s.nx ≤ t.s.nx ∧ t.s'.nx ≤ sN.nx := by
   intro es
   induction es with
   | nil => intro s sN hc _; obtain rfl : s = sN := hc; exact ⟨Nat.le_refl _, fun j t ht => by simp at ht⟩
   | cons u es ih =>
    intro s sN hc ho
    obtain ⟨rfl, hc⟩ := hc
    have hu := (ho u (by simp)).1
    obtain ⟨h1, h2⟩ := ih _ _ hc fun t ht => ho t (by simp [ht])
    refine ⟨by omega, fun j t ht => ?_⟩
    cases j with
    | zero => simp at ht; subst ht; exact ⟨Nat.le_refl _, h1⟩
    | succ j => have := h2 j t (by simpa using ht); omega
  exact (gen es s sN hch hok).2
 have hle : s.nx ≤ sN.nx := by
  have gen : ∀ (es : List Ent) (s sN : SSt), Chain s es sN → (∀ t ∈ es, qa5d X ops t) → s.nx ≤ sN.nx := by
   intro es
   induction es with
   | nil => intro s sN hc _; obtain rfl : s = sN := hc; exact Nat.le_refl _
   | cons u es ih =>
    intro s sN hc ho
    obtain ⟨rfl, hc⟩ := hc
    have hu := (ho u (by simp)).1
    have := ih _ _ hc fun t ht => ho t (by simp [ht])
    omega
  exact gen es s sN hch hok
 have hapart : ∀ (i j : Nat) t u, es[i]? = some t → es[j]? = some u → i < j → t.s'.nx ≤ u.s.nx := by
  have gen : ∀ (es : List Ent) (s sN : SSt), Chain s es sN → (∀ t ∈ es, qa5d X ops t) → (∀ (j : Nat) u, es[j]? = some u → s.nx ≤ u.s.nx) ∧ ∀ (i j : Nat) t u, es[i]? = some t → es[j]? = some u → i < j → t.s'.nx ≤ u.s.nx := by
   intro es
   induction es with
   | nil => intro s sN hc _; exact ⟨fun j t ht => by simp at ht, fun i j t u ht => by simp at ht⟩
   | cons v es ih =>
    intro s sN hc ho
    obtain ⟨rfl, hc⟩ := hc
    have hv := (ho v (by simp)).1
    obtain ⟨h1, h2⟩ := ih _ _ hc fun t ht => ho t (by simp [ht])
    refine ⟨fun j u hu => ?_, fun i j t u ht hu hij => ?_⟩
    ·cases j with
     | zero => simp at hu; subst hu; exact Nat.le_refl _
     | succ j => have := h1 j u (by simpa using hu); omega
    ·cases j with
     | zero => omega
     | succ j =>
      cases i with
      | zero => simp at ht; subst ht; exact h1 j u (by simpa using hu)
      | succ i => exact h2 i j t u (by simpa using ht) (by simpa using hu) (by omega)
  exact (gen es s sN hch hok).2
 have main : ∀ (fuel : Nat) (listed : Array Bool) (t : SSt) (ρ : qab1) (fp : Nat → Nat → Prop) (a : Act) (w : World), listed.size = ops.size → ((List.range ops.size).filter fun i => !listed.getD i true).length ≤ fuel →
   (∀ j i, listed.getD j false = true → B j i → listed.getD i false = true) → Inv es s (fun i => listed.getD i false = true) t → Sim X ρ fp t a w → (∀ id, ρ id ≠ none → id < s.nx ∨ ∃ (i : Nat) (u : Ent), listed.getD i false = true ∧ es[i]? = some u ∧ u.s.nx ≤ id ∧ id < u.s'.nx) →
   wpAny X.P .any ops R fuel listed a w := by
  intro fuel
  induction fuel with
  | zero =>
   intro listed t ρ fp a w hsz hcnt hcl hinv hsim hρ
   have hall : ∀ i, i < ops.size → listed.getD i true = true := fun i hi => by
    cases e : listed.getD i true with
    | true => rfl
    | false =>
     have : i ∈ (List.range ops.size).filter fun i => !listed.getD i true := List.mem_filter.2 ⟨List.mem_range.2 hi, by simp [e]⟩
     have h0 := List.length_pos_of_mem this
     omega
   refine ⟨?_, ?_⟩
   ·cases hr : Region.ready .any ops listed with
    | nil => rfl
    | cons i r =>
     have hi : i ∈ Region.ready .any ops listed := by rw [hr]; simp
     obtain ⟨h1, o, h2, _⟩ := mem_ready.1 hi
     have := hall i (Array.getElem?_eq_some_iff.1 h2).1
     rw [h1] at this; cases this
   ·exact (by
     have hS : (fun i => listed.getD i false = true) = fun i => i < es.length := by
      funext i
      apply propext
      constructor
      ·intro hi
       rw [hlen, ← hsz]
       rcases Nat.lt_or_ge i listed.size with h | h
       ·exact h
       ·simp [Array.getElem?_eq_none h] at hi
      ·intro hi
       have h1 := hall i (by omega)
       have h2 : i < listed.size := by omega
       simp [h2] at h1 ⊢; exact h1
     rw [hS] at hinv
     have hsimN : Sim X ρ fp sN a w := hsim.congr (fun y => by
      obtain ⟨o, q1, q2⟩ := hinv.1 y
      obtain ⟨o', q3, q4⟩ := hfin.1 y
      rw [q1.uniq q3] at q2
      rw [q2, q4]) (fun id => by
      obtain ⟨o, q1, q2⟩ := hinv.2 id
      obtain ⟨o', q3, q4⟩ := hfin.2 id
      rw [q1.uniq q3] at q2
      rw [q2, q4])
     exact hQ sN ρ fp a w hq ⟨hsimN, fun id hid => by
      cases e : ρ id with
      | none => rfl
      | some p =>
       rcases hρ id (by rw [e]; simp) with h5 | ⟨i, u, _, h6, h7, h8⟩
       ·omega
       ·have := (hnx i u h6).2; omega, Nat.le_trans h.le hle⟩)
  | succ fuel ih =>
   intro listed t ρ fp a w hsz hcnt hcl hinv hsim hρ
   refine ⟨fun hr => ?_, fun j hj => ?_⟩
   ·-- nothing is ready: all has been done
    have hall : ∀ i, i < ops.size → listed.getD i true = true := fun i => by
     induction i using Nat.strongRecOn with
     | ind i ihi =>
      intro hi
      cases e : listed.getD i true with
      | true => rfl
      | false =>
       have : i ∈ Region.ready .any ops listed := mem_ready.2 ⟨e, ops[i], Array.getElem?_eq_getElem hi, fun ed hed1 hed2 => by
        have hlt := qag1 hed i ops[i] (by simp [hi]) ed (by simpa using hed1) hed2
        have h1 := ihi ed.on (by omega) (by omega)
        have h2 : ed.on < listed.size := by omega
        simp [h2] at h1 ⊢; exact h1⟩
       rw [hr] at this; cases this
    have hz : ((List.range ops.size).filter fun i => !listed.getD i true).length ≤ 0 := by
     rw [List.filter_eq_nil_iff.2 fun i hi => by rw [hall i (List.mem_range.1 hi)]; simp]; simp
    have hS : (fun i => listed.getD i false = true) = fun i => i < es.length := by
     funext i
     apply propext
     constructor
     ·intro hi
      rw [hlen, ← hsz]
      rcases Nat.lt_or_ge i listed.size with h | h
      ·exact h
      ·simp [Array.getElem?_eq_none h] at hi
     ·intro hi
      have h1 := hall i (by omega)
      have h2 : i < listed.size := by omega
      simp [h2] at h1 ⊢; exact h1
    rw [hS] at hinv
    have hsimN : Sim X ρ fp sN a w := hsim.congr (fun y => by
     obtain ⟨o, q1, q2⟩ := hinv.1 y
     obtain ⟨o', q3, q4⟩ := hfin.1 y
     rw [q1.uniq q3] at q2
     rw [q2, q4]) (fun id => by
     obtain ⟨o, q1, q2⟩ := hinv.2 id
     obtain ⟨o', q3, q4⟩ := hfin.2 id
     rw [q1.uniq q3] at q2
     rw [q2, q4])
    exact hQ sN ρ fp a w hq ⟨hsimN, fun id hid => by
     cases e : ρ id with
     | none => rfl
     | some p =>
      rcases hρ id (by rw [e]; simp) with h5 | ⟨i, u, _, h6, h7, h8⟩
      ·omega
      ·have := (hnx i u h6).2; omega, Nat.le_trans h.le hle⟩
   ·obtain ⟨hun, o, hoj, hdep⟩ := mem_ready.1 hj
    have hjlt : j < ops.size := (Array.getElem?_eq_some_iff.1 hoj).1
    have hnj : ¬ (listed.getD j false = true) := by
     have h2 : j < listed.size := by omega
     simp [h2] at hun ⊢; rw [hun]
    obtain ⟨u, hu⟩ : ∃ u, es[j]? = some u := ⟨_, List.getElem?_eq_getElem (by omega)⟩
    have huo : u.o = o := by
     have := qam1 ho hu
     rw [Array.getElem?_toList, hoj] at this
     exact (Option.some.inj this).symm
    obtain ⟨hmono, hd, hwr, hat, hloc⟩ := hok u (List.mem_of_getElem? hu)
    have hdeps : ∀ i, B j i → listed.getD i false = true := fun i hi => by
     obtain ⟨ed, q1, q2, q3⟩ := (qaro ops).2 j o hoj i hi
     have h5 := hdep ed (by simpa using q1) q2
     rcases q3 with q3 | q3
     ·rw [← q3]; exact h5
     ·exact hcl _ _ h5 q3
    have hcan := hst j u hu
    unfold wpOp
    rw [hoj]
    simp only
    have hL := hloc t ρ fp a w hsim (fun y hy => by
      obtain ⟨o1, q1, q2⟩ := hinv.1 y
      obtain ⟨o2, q3, q4⟩ := hcan.1 y
      rw [q1.agree hord (fun j i => hcl j i) hu hnj hdeps (show u.L (.sl y) from Or.inl hy) q3] at q2
      rw [q2, q4]) (fun id hid => by
      obtain ⟨o1, q1, q2⟩ := hinv.2 id
      obtain ⟨o2, q3, q4⟩ := hcan.2 id
      rw [q1.agree hord (fun j i => hcl j i) hu hnj hdeps (show u.L (.ob id) from hid) q3] at q2
      rw [q2, q4]) (fun id h5 h6 => by
      cases e : ρ id with
      | none => rfl
      | some p =>
       rcases hρ id (by rw [e]; simp) with h7 | ⟨i, v, h7, h8, h9, h10⟩
       ·have := (hnx j u hu).1; omega
       ·rcases Nat.lt_trichotomy i j with hij | hij | hij
        ·have := hapart i j v u h8 hu hij; omega
        ·subst hij; exact absurd h7 hnj
        ·have := hapart j i u v hu h8 hij; omega) (wpAny X.P .any ops R fuel (listed.setIfInBounds j true)) R (fun t' ρ' fp' a' w' hat' hsim' hρ' => by
      have hS : (fun i => (listed.setIfInBounds j true).getD i false = true) = fun i => listed.getD i false = true ∨ i = j := by
       funext i
       apply propext
       by_cases e : i = j
       ·subst e
        have h2 : i < listed.size := by omega
        simp [h2]
       ·rw [getD_set_ne false (Ne.symm e)]; simp [e]
      refine ih (listed.setIfInBounds j true) t' ρ' fp' a' w' (by simp [hsz]) ?_ (fun k i hk hki => ?_) ?_ hsim' (fun id hid => ?_)
      ·have := qagz (p := fun i => !listed.getD i true) (q := fun i => !(listed.setIfInBounds j true).getD i true) (List.range ops.size) j (List.mem_range.2 hjlt) (by simp only [hun]; rfl) (by
        have h2 : j < listed.size := by omega
        simp [h2]) (fun k hk => by
        by_cases e : j = k
        ·subst e
         have h2 : j < listed.size := by omega
         simp [h2] at hk
        ·rw [getD_set_ne true e] at hk; exact hk)
       omega
      ·have hk' : listed.getD k false = true ∨ k = j := by have := congrFun hS k; rw [← this]; exact hk
       have hgoal : listed.getD i false = true := by
        rcases hk' with hk' | hk'
        ·exact hcl k i hk' hki
        ·subst hk'; exact hdeps i hki
       have := congrFun hS i
       rw [this]; exact .inl hgoal
      ·rw [hS]
       refine ⟨fun y => ?_, fun id => ?_⟩
       ·obtain ⟨o1, q1, q2⟩ := hinv.1 y
        obtain ⟨r1, r2⟩ := q1.add hord (fun j i => hcl j i) hu hnj
        rw [hat'.1 y]
        by_cases hw : u.e.dst = some y
        ·exact ⟨some j, r1 hw, by rw [if_pos hw]; simp only [hu]; rfl⟩
        ·exact ⟨o1, r2 hw, by rw [if_neg hw]; exact q2⟩
       ·obtain ⟨o1, q1, q2⟩ := hinv.2 id
        obtain ⟨r1, r2⟩ := q1.add hord (fun j i => hcl j i) hu hnj
        rw [hat'.2 id]
        by_cases hw : id ∈ u.e.wr
        ·exact ⟨some j, r1 hw, by rw [if_pos hw]; simp only [hu]; rfl⟩
        ·exact ⟨o1, r2 hw, by rw [if_neg hw]; exact q2⟩
      ·rcases hρ' id hid with h5 | h5
       ·rcases hρ id h5 with h6 | ⟨i, v, h7, h8, h9, h10⟩
        ·exact .inl h6
        ·exact .inr ⟨i, v, by have := congrFun hS i; rw [this]; exact .inl h7, h8, h9, h10⟩
       ·exact .inr ⟨j, u, by have := congrFun hS j; rw [this]; exact .inr rfl, hu, h5.1, h5.2⟩)
    rw [huo] at hL
    split
    ·rename_i hwd
     rw [if_pos hwd] at hL
     exact .inl hL
    ·rename_i hwd
     rw [if_neg hwd] at hL
     exact hL
 obtain ⟨hd1, hd2⟩ := h.sim.h.drew
 refine main ops.size (Array.replicate ops.size false) s ρ fp a _ (by simp) (by have := List.length_filter_le (fun i => !(Array.replicate ops.size false).getD i true) (List.range ops.size); simpa using this) (fun j i hj => ?_) ?_ ⟨hd1, h.sim.tmps, h.sim.defers, fun t => hd2.rep (h.sim.slots t)⟩ (fun id hid => .inl (Nat.lt_of_not_le fun hge => hid (h.fresh id hge)))
 ·exfalso
  by_cases hlt : j < ops.size <;> simp [hlt] at hj
 ·have e : (fun i => (Array.replicate ops.size false).getD i false = true) = fun _ => False := by
   funext i
   by_cases hlt : i < ops.size <;> simp [hlt]
  rw [e]; exact hinv0
theorem qacm {s : SSt} {Q : SExit → SSt → Prop} {ops : List SOper} {live : List Nat} (hm : X.P.follows .mixedOrders = true) (h : SOps X.P ops s [] fun s' tr => qakb (ops.zip tr.reverse) = true ∧ Q .normal (s'.keep live)) : SWp X (.reg true ops live) Q s := fun code hc ρ fp a w hs => by
 by_cases hreg : ∃ id o d, code = .region id o d
 ·obtain ⟨id, o, d, rfl⟩ := hreg
  obtain ⟨l, e, h1, h2⟩ := qacb hc
  simp only [SCode.erase, SCode.reg.injEq, and_true] at e
  obtain ⟨rfl, rfl⟩ := e
  refine wp_region_any hm ?_
  refine qa2j (h2.resolve_left (by simp)) (by simpa using h1) (Q := fun s' => Q .normal (s'.keep live)) ?_ h hs
  intro s' ρ' fp' a' w' hq h'
  obtain ⟨ρ2, fp2, h2⟩ := qa08 live ρ' fp' a' w' h'
  exact ⟨_, ρ2, fp2, hq, h2⟩
 ·cases code <;> (try simp only [comp, SCode.erase, Option.bind_eq_bind, Option.bind_eq_some_iff, Option.some.injEq, reduceCtorEq, and_false, exists_false, exists_const] at hc)
  case region => exact absurd ⟨_, _, _, rfl⟩ hreg
end Go.Proofs.Ytbefmmajjfijnaa
namespace Go.Proofs.Ytbefmmajjfijnaa
set_option linter.all false
abbrev Oa (d : Nat) (op : SOp) : SOper := ⟨some d, op, none, none, 0⟩
abbrev Ob (op : SOp) : SOper := ⟨none, op, none, none, 0⟩
abbrev Oc (d : Nat) (f : FuncId) (args : List SX) : SOper := ⟨some d, .mv (.c .any), some (.c (.fn (.func f) [] []), args), none, 0⟩
abbrev Od (d : Nat) (op : SOp) (b : Nat) : SOper := ⟨some d, op, none, none, b⟩
abbrev Oe (d : Nat) (op : SOp) (t : Nat) (w : Bool) : SOper := ⟨some d, op, none, some (t, w), 0⟩
abbrev Of (d : Nat) (op : SOp) (t : Nat) (w : Bool) (b : Nat) : SOper := ⟨some d, op, none, some (t, w), b⟩
end Go.Proofs.Ytbefmmajjfijnaa
namespace Go.Proofs.Ytbefmmajjfijnaa
set_option linter.all false
open Go.RowKit
abbrev qazm : List SOper := [Oa 6 (.mv (.t 1)), Oa 7 (.len false (.t 6)), Oa 8 (.mv (.c (.int .i64 0)))]
abbrev qazl : List SOper := [Oa 9 (.bin .lss (.t 8) (.t 7))]
abbrev qazk : List SOper := [Oa 10 (.iaddr 1 (.t 6) (.t 8)), Oa 11 (.load (.t 10)), Oa 5 (.mv (.t 11))]
abbrev qazj : List SOper := [Oa 12 (.mv (.t 5)), Oa 13 (.bin .geq (.t 12) (.c (.int .u64 128)))]
abbrev qazi : List SOper := [Oa 16 (.mv (.t 0)), Oa 17 (.mv (.t 0)), Oa 18 (.nilc (.t 17)), Oa 19 (.faddr 0 (.t 18)), Oa 20 (.load (.t 19)), Oa 21 (.mv (.t 5)), Oa 22 (.conv .u8 (.t 21)), Oa 23 (.bin .or (.t 22) (.c (.int .u8 128))), Oa 24 (.mkrow 5 1 1 [(.int .u8 0)] [(0, (.t 23))]), Oa 25 (.app 5 1 1 (.t 20) (.t 24)), Oa 26 (.nilc (.t 16)), Oa 27 (.faddr 0 (.t 26)), Ob (.store 1 (.t 27) (.t 25))]
abbrev qazh : List SOper := [Oa 14 (.mv (.t 5)), Oa 15 (.bin .shr (.t 14) (.c (.int .u64 7))), Oa 5 (.mv (.t 15))]
def qani : SCode := (.seq (.seq (.reg false qazj [0, 5, 6, 7, 8, 13]) (.cond (.t 13) .skip (.exit 2))) (.seq (.block 3 (.reg false qazi [0, 5, 6, 7, 8])) (.reg false qazh [0, 5, 6, 7, 8])))
abbrev qazg : List SOper := [Oa 28 (.mv (.t 0)), Oa 29 (.mv (.t 0)), Oa 30 (.nilc (.t 29)), Oa 31 (.faddr 0 (.t 30)), Oa 32 (.load (.t 31)), Oa 33 (.mv (.t 5)), Oa 34 (.conv .u8 (.t 33)), Oa 35 (.mkrow 5 1 1 [(.int .u8 0)] [(0, (.t 34))]), Oa 36 (.app 5 1 1 (.t 32) (.t 35)), Oa 37 (.nilc (.t 28)), Oa 38 (.faddr 0 (.t 37)), Ob (.store 1 (.t 38) (.t 36))]
abbrev qazf : List SOper := [Oa 39 (.bin .add (.t 8) (.c (.int .i64 1))), Oa 8 (.mv (.t 39))]
def qanh : SCode := (.seq (.reg false qazl [0, 6, 7, 8, 9]) (.seq (.cond (.t 9) .skip (.exit 0)) (.seq (.block 1 (.seq (.reg false qazk [0, 5, 6, 7, 8]) (.seq (.block 2 (.loop qani)) (.reg false qazg [0, 6, 7, 8])))) (.reg false qazf [0, 6, 7, 8]))))
def c_wnum : SCode := (.seq (.reg false qazm [0, 6, 7, 8]) (.block 0 (.loop qanh)))
theorem qan6 : comp Try.prog 40 ((Try.f57.body).getD .skip) = some c_wnum.erase := by kernel_rfl
abbrev qazr : List SOper := [Oa 6 (.mv (.t 1)), Oa 7 (.len false (.t 6)), Oa 8 (.mv (.c (.int .i64 0)))]
abbrev qazq : List SOper := [Oa 9 (.bin .lss (.t 8) (.t 7))]
abbrev qazp : List SOper := [Oa 10 (.iaddr 1 (.t 6) (.t 8)), Oa 11 (.load (.t 10)), Oa 5 (.mv (.t 11))]
abbrev qazo : List SOper := [Oa 12 (.mv (.t 0)), Oa 13 (.mv (.t 5)), Oa 14 (.conv .u64 (.t 13)), Oa 15 (.bin .shl (.t 14) (.c (.int .u64 1))), Oa 16 (.mv (.t 5)), Oa 17 (.bin .shr (.t 16) (.c (.int .u64 63))), Oa 18 (.conv .u64 (.t 17)), Oa 19 (.bin .xor (.t 15) (.t 18)), Oa 20 (.mkrow 107 1 1 [(.int .u64 0)] [(0, (.t 19))]), Oc 21 57 [(.t 12), (.t 20)]]
abbrev qazn : List SOper := [Oa 22 (.bin .add (.t 8) (.c (.int .i64 1))), Oa 8 (.mv (.t 22))]
def qanj : SCode := (.seq (.reg false qazq [0, 6, 7, 8, 9]) (.seq (.cond (.t 9) .skip (.exit 0)) (.seq (.block 1 (.seq (.reg false qazp [0, 5, 6, 7, 8]) (.reg false qazo [0, 6, 7, 8]))) (.reg false qazn [0, 6, 7, 8]))))
def c_wint : SCode := (.seq (.reg false qazr [0, 6, 7, 8]) (.block 0 (.loop qanj)))
theorem qan7 : comp Try.prog 23 ((Try.f29.body).getD .skip) = some c_wint.erase := by kernel_rfl
abbrev qaua : List SOper := [Oa 4 (.mv (.t 0)), Oa 5 (.mv (.t 1)), Oa 6 (.len false (.t 5)), Oa 7 (.mkrow 3 1 1 [(.int .i64 0)] [(0, (.t 6))]), Oc 8 29 [(.t 4), (.t 7)]]
abbrev qat9 : List SOper := [Oa 9 (.mv (.t 0)), Oa 10 (.mv (.t 1)), Oc 11 29 [(.t 9), (.t 10)]]
def c_wints : SCode := (.seq (.reg false qaua [0, 1]) (.reg false qat9 []))
theorem qaks : comp Try.prog 12 ((Try.f30.body).getD .skip) = some c_wints.erase := by kernel_rfl
abbrev qaze : List SOper := [Oa 3 (.box 45 (.t 1))]
abbrev qazd : List SOper := [Oa 4 (.mv (.t 0)), Oa 5 (.faddr 0 (.t 3)), Oa 6 (.load (.t 5)), Oa 7 (.faddr 1 (.t 3)), Oa 8 (.load (.t 7)), Oa 9 (.mkrow 3 1 2 [(.int .i64 0)] [(0, (.t 6)), (1, (.t 8))]), Oc 10 29 [(.t 4), (.t 9)]]
def c_wref : SCode := (.seq (.reg false qaze [0, 3]) (.reg false qazd []))
theorem qan5 : comp Try.prog 11 ((Try.f58.body).getD .skip) = some c_wref.erase := by kernel_rfl
abbrev qaty : List SOper := [Oa 6 (.mv (.t 0)), Oa 7 (.mv (.t 1)), Oa 8 (.len false (.t 7)), Oa 9 (.mkrow 3 1 1 [(.int .i64 0)] [(0, (.t 8))]), Oc 10 29 [(.t 6), (.t 9)]]
abbrev qatx : List SOper := [Oa 11 (.mv (.t 1)), Oa 12 (.len false (.t 11)), Oa 13 (.mv (.c (.int .i64 0)))]
abbrev qatw : List SOper := [Oa 14 (.bin .lss (.t 13) (.t 12))]
abbrev qatv : List SOper := [Oa 15 (.iaddr 4 (.t 11) (.t 13)), Oa 16 (.loads 4 (.t 15)), Oa 5 (.alloc 132 [(.int .i64 0), (.int .i64 0), (.int .i64 0), (.int .u64 0)]), Ob (.store 4 (.t 5) (.t 16))]
abbrev qatu : List SOper := [Oa 17 (.mv (.t 0)), Oa 18 (.faddr 0 (.t 5)), Oa 19 (.load (.t 18)), Oa 20 (.mkrow 3 1 1 [(.int .i64 0)] [(0, (.t 19))]), Oc 21 29 [(.t 17), (.t 20)]]
abbrev qatt : List SOper := [Oa 22 (.faddr 0 (.t 5)), Oa 23 (.load (.t 22))]
abbrev qats : List SOper := [Oa 25 (.bin .eql (.t 23) (.c (.int .i64 1))), Oa 24 (.mv (.t 25))]
abbrev qatr : List SOper := [Oa 26 (.mv (.t 0)), Oa 27 (.faddr 3 (.t 5)), Oa 28 (.load (.t 27)), Oa 29 (.mkrow 107 1 1 [(.int .u64 0)] [(0, (.t 28))]), Oc 30 57 [(.t 26), (.t 29)]]
abbrev qatq : List SOper := [Oa 32 (.bin .eql (.t 23) (.c (.int .i64 2))), Oa 31 (.mv (.t 32))]
abbrev qaoi : List SOper := [Oa 33 (.mv (.t 0)), Oa 34 (.faddr 1 (.t 5)), Oa 35 (.loads 2 (.t 34)), Oc 36 58 [(.t 33), (.t 35)]]
abbrev qaoh : List SOper := [Oa 37 (.bin .add (.t 13) (.c (.int .i64 1))), Oa 13 (.mv (.t 37))]
def qai2 : SCode := (.seq (.reg false qatw [0, 11, 12, 13, 14]) (.seq (.cond (.t 14) .skip (.exit 0)) (.seq (.block 1 (.seq (.reg false qatv [0, 5, 11, 12, 13]) (.seq (.reg false qatu [0, 5, 11, 12, 13]) (.seq (.reg false qatt [0, 5, 11, 12, 13, 23]) (.block 2 (.seq (.reg false qats [0, 5, 11, 12, 13, 23, 24]) (.cond (.t 24) (.reg false qatr [0, 11, 12, 13]) (.seq (.reg false qatq [0, 5, 11, 12, 13, 31]) (.cond (.t 31) (.reg false qaoi [0, 11, 12, 13]) .skip))))))))) (.reg false qaoh [0, 11, 12, 13]))))
def c_wtree : SCode := (.seq (.reg false qaty [0, 1]) (.seq (.reg false qatx [0, 11, 12, 13]) (.block 0 (.loop qai2))))
theorem qakq : comp Try.prog 38 ((Try.f59.body).getD .skip) = some c_wtree.erase := by kernel_rfl
abbrev qaoq : List SOper := [Oa 3 (.box 48 (.t 1))]
abbrev qaop : List SOper := [Oa 6 (.mv (.t 0)), Oa 7 (.faddr 0 (.t 3)), Oa 8 (.load (.t 7)), Oa 9 (.faddr 3 (.t 3)), Oa 10 (.load (.t 9)), Oa 11 (.len false (.t 10)), Oa 12 (.mkrow 3 1 2 [(.int .i64 0)] [(0, (.t 8)), (1, (.t 11))]), Oc 13 29 [(.t 6), (.t 12)]]
abbrev qaoo : List SOper := [Oa 14 (.faddr 3 (.t 3)), Oa 15 (.load (.t 14)), Oa 16 (.len false (.t 15)), Oa 17 (.bin .gtr (.t 16) (.c (.int .i64 0)))]
abbrev qaon : List SOper := [Oa 18 (.mv (.t 0)), Oa 19 (.faddr 1 (.t 3)), Oa 20 (.loads 2 (.t 19)), Oc 21 58 [(.t 18), (.t 20)]]
abbrev qad2 : List SOper := [Oa 22 (.faddr 3 (.t 3)), Oa 23 (.load (.t 22)), Oa 24 (.len false (.t 23)), Oa 25 (.mv (.c (.int .i64 0)))]
abbrev qaom : List SOper := [Oa 26 (.bin .lss (.t 25) (.t 24))]
abbrev qaol : List SOper := [Oa 27 (.iaddr 3 (.t 23) (.t 25)), Oa 28 (.loads 3 (.t 27)), Oa 5 (.alloc 109 [(.int .u64 0), (.int .u64 0), (.int .i64 0)]), Ob (.store 3 (.t 5) (.t 28))]
abbrev qaok : List SOper := [Oa 29 (.mv (.t 0)), Oa 30 (.faddr 0 (.t 5)), Oa 31 (.load (.t 30)), Oa 32 (.faddr 1 (.t 5)), Oa 33 (.load (.t 32)), Oa 34 (.mkrow 107 1 2 [(.int .u64 0)] [(0, (.t 31)), (1, (.t 33))]), Oc 35 57 [(.t 29), (.t 34)]]
abbrev qaoj : List SOper := [Oa 36 (.mv (.t 0)), Oa 37 (.faddr 2 (.t 5)), Oa 38 (.load (.t 37)), Oa 39 (.mkrow 3 1 1 [(.int .i64 0)] [(0, (.t 38))]), Oc 40 29 [(.t 36), (.t 39)]]
abbrev qak7 : List SOper := [Oa 41 (.bin .add (.t 25) (.c (.int .i64 1))), Oa 25 (.mv (.t 41))]
def qae9 : SCode := (.seq (.reg false qaom [0, 3, 23, 24, 25, 26]) (.seq (.cond (.t 26) .skip (.exit 0)) (.seq (.block 1 (.seq (.reg false qaol [0, 3, 5, 23, 24, 25]) (.seq (.reg false qaok [0, 3, 5, 23, 24, 25]) (.reg false qaoj [0, 3, 23, 24, 25])))) (.reg false qak7 [0, 3, 23, 24, 25]))))
abbrev qaf7 : List SOper := [Oa 42 (.mv (.t 0)), Oa 43 (.faddr 4 (.t 3)), Oa 44 (.load (.t 43)), Oa 45 (.mkrow 3 1 1 [(.int .i64 0)] [(0, (.t 44))]), Oc 46 29 [(.t 42), (.t 45)]]
def c_wstate : SCode := (.seq (.reg false qaoq [0, 3]) (.seq (.reg false qaop [0, 3]) (.seq (.seq (.reg false qaoo [0, 3, 17]) (.cond (.t 17) (.reg false qaon [0, 3]) .skip)) (.seq (.seq (.reg false qad2 [0, 3, 23, 24, 25]) (.block 0 (.loop qae9))) (.reg false qaf7 [])))))
theorem qais : comp Try.prog 47 ((Try.f31.body).getD .skip) = some c_wstate.erase := by kernel_rfl
abbrev qaz0 : List SOper := [Oa 3 (.box 55 (.t 1))]
abbrev qazz : List SOper := [Oa 6 (.mv (.t 0)), Oa 7 (.faddr 0 (.t 3)), Oa 8 (.load (.t 7)), Oc 9 30 [(.t 6), (.t 8)]]
abbrev qazy : List SOper := [Oa 10 (.mv (.t 0)), Oa 11 (.faddr 1 (.t 3)), Oa 12 (.load (.t 11)), Oa 13 (.len false (.t 12)), Oa 14 (.mkrow 3 1 1 [(.int .i64 0)] [(0, (.t 13))]), Oc 15 29 [(.t 10), (.t 14)]]
abbrev qazx : List SOper := [Oa 16 (.faddr 1 (.t 3)), Oa 17 (.load (.t 16)), Oa 18 (.len false (.t 17)), Oa 19 (.mv (.c (.int .i64 0)))]
abbrev qazw : List SOper := [Oa 20 (.bin .lss (.t 19) (.t 18))]
abbrev qazv : List SOper := [Oa 21 (.iaddr 5 (.t 17) (.t 19)), Oa 22 (.loads 5 (.t 21)), Oa 5 (.alloc 58 [(.int .i64 0), (.int .i64 0), (.int .i64 0), (.int .i64 0), .nilsl]), Ob (.store 5 (.t 5) (.t 22))]
abbrev qazu : List SOper := [Oa 23 (.mv (.t 0)), Oa 24 (.faddr 0 (.t 5)), Oa 25 (.load (.t 24)), Oa 26 (.mkrow 3 1 1 [(.int .i64 0)] [(0, (.t 25))]), Oc 27 29 [(.t 23), (.t 26)]]
abbrev qazt : List SOper := [Oa 28 (.faddr 0 (.t 5)), Oa 29 (.load (.t 28))]
abbrev qazs : List SOper := [Oa 31 (.bin .eql (.t 29) (.c (.int .i64 1))), Oa 30 (.mv (.t 31))]
abbrev qau2 : List SOper := [Oa 32 (.mv (.t 0)), Oa 33 (.faddr 1 (.t 5)), Oa 34 (.loads 2 (.t 33)), Oc 35 58 [(.t 32), (.t 34)]]
abbrev qau1 : List SOper := [Oa 36 (.mv (.t 0)), Oa 37 (.faddr 4 (.t 5)), Oa 38 (.load (.t 37)), Oc 39 59 [(.t 36), (.t 38)]]
abbrev qau0 : List SOper := [Oa 41 (.bin .eql (.t 29) (.c (.int .i64 2))), Oa 40 (.mv (.t 41))]
abbrev qauz : List SOper := [Oa 42 (.bin .eql (.t 29) (.c (.int .i64 3))), Oa 40 (.mv (.t 42))]
abbrev qauy : List SOper := [Oa 43 (.mv (.t 0)), Oa 44 (.faddr 3 (.t 5)), Oa 45 (.load (.t 44)), Oa 46 (.mkrow 3 1 1 [(.int .i64 0)] [(0, (.t 45))]), Oc 47 29 [(.t 43), (.t 46)]]
abbrev qaux : List SOper := [Oa 49 (.bin .eql (.t 29) (.c (.int .i64 5))), Oa 48 (.mv (.t 49))]
abbrev qauw : List SOper := [Oa 50 (.mv (.t 0)), Oa 51 (.faddr 4 (.t 5)), Oa 52 (.load (.t 51)), Oc 53 59 [(.t 50), (.t 52)]]
abbrev qauv : List SOper := [Oa 55 (.bin .eql (.t 29) (.c (.int .i64 6))), Oa 54 (.mv (.t 55))]
abbrev qauu : List SOper := [Oa 56 (.mv (.t 0)), Oa 57 (.faddr 1 (.t 5)), Oa 58 (.loads 2 (.t 57)), Oc 59 58 [(.t 56), (.t 58)]]
abbrev qaut : List SOper := [Oa 60 (.mv (.t 0)), Oa 61 (.faddr 3 (.t 5)), Oa 62 (.load (.t 61)), Oa 63 (.mkrow 3 1 1 [(.int .i64 0)] [(0, (.t 62))]), Oc 64 29 [(.t 60), (.t 63)]]
abbrev qaus : List SOper := [Oa 65 (.bin .add (.t 19) (.c (.int .i64 1))), Oa 19 (.mv (.t 65))]
def qank : SCode := (.seq (.reg false qazw [0, 17, 18, 19, 20]) (.seq (.cond (.t 20) .skip (.exit 0)) (.seq (.block 1 (.seq (.reg false qazv [0, 5, 17, 18, 19]) (.seq (.reg false qazu [0, 5, 17, 18, 19]) (.seq (.reg false qazt [0, 5, 17, 18, 19, 29]) (.block 2 (.seq (.reg false qazs [0, 5, 17, 18, 19, 29, 30]) (.cond (.t 30) (.seq (.reg false qau2 [0, 5, 17, 18, 19]) (.reg false qau1 [0, 17, 18, 19])) (.seq (.seq (.reg false qau0 [0, 5, 17, 18, 19, 29, 40]) (.cond (.t 40) .skip (.reg false qauz [0, 5, 17, 18, 19, 29, 40]))) (.cond (.t 40) (.reg false qauy [0, 17, 18, 19]) (.seq (.reg false qaux [0, 5, 17, 18, 19, 29, 48]) (.cond (.t 48) (.reg false qauw [0, 17, 18, 19]) (.seq (.reg false qauv [0, 5, 17, 18, 19, 54]) (.cond (.t 54) (.seq (.reg false qauu [0, 5, 17, 18, 19]) (.reg false qaut [0, 17, 18, 19])) .skip))))))))))))) (.reg false qaus [0, 17, 18, 19]))))
def c_wact : SCode := (.seq (.reg false qaz0 [0, 3]) (.seq (.reg false qazz [0, 3]) (.seq (.reg false qazy [0, 3]) (.seq (.reg false qazx [0, 17, 18, 19]) (.block 0 (.loop qank))))))
theorem qan8 : comp Try.prog 66 ((Try.f32.body).getD .skip) = some c_wact.erase := by kernel_rfl
abbrev qazc : List SOper := [Oa 3 (.box 62 (.t 1))]
abbrev qazb : List SOper := [Oa 6 (.mv (.t 0)), Oa 7 (.faddr 0 (.t 3)), Oa 8 (.load (.t 7)), Oa 9 (.faddr 1 (.t 3)), Oa 10 (.load (.t 9)), Oa 11 (.len false (.t 10)), Oa 12 (.mkrow 3 1 2 [(.int .i64 0)] [(0, (.t 8)), (1, (.t 11))]), Oc 13 29 [(.t 6), (.t 12)]]
abbrev qaza : List SOper := [Oa 14 (.faddr 1 (.t 3)), Oa 15 (.load (.t 14)), Oa 16 (.len false (.t 15)), Oa 17 (.mv (.c (.int .i64 0)))]
abbrev qay9 : List SOper := [Oa 18 (.bin .lss (.t 17) (.t 16))]
abbrev qay8 : List SOper := [Oa 19 (.iaddr 2 (.t 15) (.t 17)), Oa 20 (.loads 2 (.t 19)), Oa 5 (.alloc 45 [(.int .i64 0), (.int .i64 0)]), Ob (.store 2 (.t 5) (.t 20))]
abbrev qay7 : List SOper := [Oa 21 (.mv (.t 0)), Oa 22 (.loads 2 (.t 5)), Oc 23 58 [(.t 21), (.t 22)]]
abbrev qay6 : List SOper := [Oa 24 (.bin .add (.t 17) (.c (.int .i64 1))), Oa 17 (.mv (.t 24))]
def qang : SCode := (.seq (.reg false qay9 [0, 3, 15, 16, 17, 18]) (.seq (.cond (.t 18) .skip (.exit 0)) (.seq (.block 1 (.seq (.reg false qay8 [0, 3, 5, 15, 16, 17]) (.reg false qay7 [0, 3, 15, 16, 17]))) (.reg false qay6 [0, 3, 15, 16, 17]))))
abbrev qay5 : List SOper := [Oa 25 (.mv (.t 0)), Oa 26 (.faddr 2 (.t 3)), Oa 27 (.load (.t 26)), Oc 28 30 [(.t 25), (.t 27)]]
abbrev qay4 : List SOper := [Oa 29 (.mv (.t 0)), Oa 30 (.faddr 3 (.t 3)), Oa 31 (.load (.t 30)), Oa 32 (.faddr 4 (.t 3)), Oa 33 (.load (.t 32)), Oa 34 (.faddr 5 (.t 3)), Oa 35 (.load (.t 34)), Oa 36 (.len false (.t 35)), Oa 37 (.mkrow 3 1 3 [(.int .i64 0)] [(0, (.t 31)), (1, (.t 33)), (2, (.t 36))]), Oc 38 29 [(.t 29), (.t 37)]]
abbrev qatz : List SOper := [Oa 39 (.mv (.t 0)), Oa 40 (.faddr 5 (.t 3)), Oa 41 (.load (.t 40)), Oc 42 57 [(.t 39), (.t 41)]]
def c_wtab : SCode := (.seq (.reg false qazc [0, 3]) (.seq (.reg false qazb [0, 3]) (.seq (.seq (.reg false qaza [0, 3, 15, 16, 17]) (.block 0 (.loop qang))) (.seq (.reg false qay5 [0, 3]) (.seq (.reg false qay4 [0, 3]) (.reg false qatz []))))))
theorem qan4 : comp Try.prog 43 ((Try.f33.body).getD .skip) = some c_wtab.erase := by kernel_rfl
abbrev qat8 : List SOper := [Oa 3 (.box 64 (.t 1))]
abbrev qat7 : List SOper := [Oa 4 (.mv (.t 0)), Oa 5 (.faddr 0 (.t 3)), Oa 6 (.load (.t 5)), Oa 7 (.faddr 3 (.t 3)), Oa 8 (.load (.t 7)), Oa 9 (.mkrow 3 1 2 [(.int .i64 0)] [(0, (.t 6)), (1, (.t 8))]), Oc 10 29 [(.t 4), (.t 9)]]
abbrev qat6 : List SOper := [Oa 11 (.faddr 0 (.t 3)), Oa 12 (.load (.t 11))]
abbrev qat5 : List SOper := [Oa 19 (.bin .eql (.t 12) (.c (.int .i64 3))), Oa 18 (.mv (.t 19))]
abbrev qat4 : List SOper := [Oa 20 (.mv (.t 0)), Oa 21 (.faddr 2 (.t 3)), Oa 22 (.load (.t 21)), Oc 23 59 [(.t 20), (.t 22)]]
abbrev qat3 : List SOper := [Oa 24 (.mv (.t 0)), Oa 25 (.faddr 4 (.t 3)), Oa 26 (.load (.t 25)), Oa 27 (.mkrow 3 1 1 [(.int .i64 0)] [(0, (.t 26))]), Oc 28 29 [(.t 24), (.t 27)]]
abbrev qat2 : List SOper := [Oa 30 (.bin .eql (.t 12) (.c (.int .i64 4))), Oa 29 (.mv (.t 30))]
abbrev qat1 : List SOper := [Oa 31 (.mv (.t 0)), Oa 32 (.faddr 1 (.t 3)), Oa 33 (.load (.t 32)), Oa 34 (.faddr 4 (.t 3)), Oa 35 (.load (.t 34)), Oa 36 (.mkrow 3 1 2 [(.int .i64 0)] [(0, (.t 33)), (1, (.t 35))]), Oc 37 29 [(.t 31), (.t 36)]]
abbrev qat0 : List SOper := [Oa 13 (.mv (.t 0)), Oa 14 (.faddr 1 (.t 3)), Oa 15 (.load (.t 14)), Oa 16 (.mkrow 3 1 1 [(.int .i64 0)] [(0, (.t 15))]), Oc 17 29 [(.t 13), (.t 16)]]
def c_wnode : SCode := (.seq (.reg false qat8 [0, 3]) (.seq (.reg false qat7 [0, 3]) (.seq (.reg false qat6 [0, 3, 12]) (.block 0 (.seq (.reg false qat5 [0, 3, 12, 18]) (.cond (.t 18) (.seq (.reg false qat4 [0, 3]) (.reg false qat3 [])) (.seq (.reg false qat2 [0, 3, 29]) (.cond (.t 29) (.reg false qat1 []) (.reg false qat0 [])))))))))
theorem qakr : comp Try.prog 38 ((Try.f34.body).getD .skip) = some c_wnode.erase := by kernel_rfl
abbrev qaur : List SOper := [Oa 1 (.box 29 (.t 0)), Oa 2 (.mv (.c .nilsl))]
abbrev qauq : List SOper := [Oa 14 (.mkrow 5 1 3 [(.int .u8 0)] [(0, (.c (.int .u8 83))), (1, (.c (.int .u8 89))), (2, (.c (.int .u8 1)))]), Oa 15 (.b2b (.t 14)), Oa 16 (.build [.nilsl] [(0, 1, (.t 15))]), Oa 17 (.box 88 (.t 16)), Oa 3 (.mv (.t 17))]
abbrev qai3 : List SOper := [Oa 18 (.mv (.t 3)), Oa 19 (.faddr 0 (.t 1)), Oa 20 (.load (.t 19)), Oa 21 (.len false (.t 20)), Oa 22 (.mkrow 3 1 1 [(.int .i64 0)] [(0, (.t 21))]), Oc 23 29 [(.t 18), (.t 22)]]
abbrev qaup : List SOper := [Oa 24 (.faddr 0 (.t 1)), Oa 25 (.load (.t 24)), Oa 26 (.len false (.t 25)), Oa 27 (.mv (.c (.int .i64 0)))]
abbrev qauo : List SOper := [Oa 28 (.bin .lss (.t 27) (.t 26))]
abbrev qaun : List SOper := [Oa 29 (.iaddr 1 (.t 25) (.t 27)), Oa 30 (.loads 1 (.t 29)), Oa 5 (.alloc 52 [.nilsl]), Ob (.store 1 (.t 5) (.t 30))]
abbrev qaum : List SOper := [Oa 31 (.mv (.t 3)), Oa 32 (.faddr 0 (.t 5)), Oa 33 (.load (.t 32)), Oc 34 30 [(.t 31), (.t 33)]]
abbrev qaul : List SOper := [Oa 35 (.bin .add (.t 27) (.c (.int .i64 1))), Oa 27 (.mv (.t 35))]
def qai8 : SCode := (.seq (.reg false qauo [1, 3, 25, 26, 27, 28]) (.seq (.cond (.t 28) .skip (.exit 0)) (.seq (.block 1 (.seq (.reg false qaun [1, 3, 5, 25, 26, 27]) (.reg false qaum [1, 3, 25, 26, 27]))) (.reg false qaul [1, 3, 25, 26, 27]))))
abbrev qauk : List SOper := [Oa 36 (.mv (.t 3)), Oa 37 (.faddr 1 (.t 1)), Oa 38 (.load (.t 37)), Oc 39 30 [(.t 36), (.t 38)]]
abbrev qapq : List SOper := [Oa 40 (.mv (.t 3)), Oa 41 (.faddr 2 (.t 1)), Oa 42 (.load (.t 41)), Oa 43 (.len false (.t 42)), Oa 44 (.mkrow 3 1 1 [(.int .i64 0)] [(0, (.t 43))]), Oc 45 29 [(.t 40), (.t 44)]]
abbrev qapp : List SOper := [Oa 46 (.faddr 2 (.t 1)), Oa 47 (.load (.t 46)), Oa 48 (.len false (.t 47)), Oa 49 (.mv (.c (.int .i64 0)))]
abbrev qapo : List SOper := [Oa 50 (.bin .lss (.t 49) (.t 48))]
abbrev qapn : List SOper := [Oa 51 (.iaddr 5 (.t 47) (.t 49)), Oa 52 (.loads 5 (.t 51)), Oa 7 (.alloc 48 [(.int .i64 0), (.int .i64 0), (.int .i64 0), .nilsl, (.int .i64 0)]), Ob (.store 5 (.t 7) (.t 52))]
abbrev qapm : List SOper := [Oa 53 (.mv (.t 3)), Oa 54 (.loads 5 (.t 7)), Oc 55 31 [(.t 53), (.t 54)]]
abbrev qapl : List SOper := [Oa 56 (.bin .add (.t 49) (.c (.int .i64 1))), Oa 49 (.mv (.t 56))]
def qai7 : SCode := (.seq (.reg false qapo [1, 3, 47, 48, 49, 50]) (.seq (.cond (.t 50) .skip (.exit 2)) (.seq (.block 3 (.seq (.reg false qapn [1, 3, 7, 47, 48, 49]) (.reg false qapm [1, 3, 47, 48, 49]))) (.reg false qapl [1, 3, 47, 48, 49]))))
abbrev qapk : List SOper := [Oa 57 (.mv (.t 3)), Oa 58 (.faddr 3 (.t 1)), Oa 59 (.load (.t 58)), Oa 60 (.len false (.t 59)), Oa 61 (.mkrow 3 1 1 [(.int .i64 0)] [(0, (.t 60))]), Oc 62 29 [(.t 57), (.t 61)]]
abbrev qapj : List SOper := [Oa 63 (.faddr 3 (.t 1)), Oa 64 (.load (.t 63)), Oa 65 (.len false (.t 64)), Oa 66 (.mv (.c (.int .i64 0)))]
abbrev qapi : List SOper := [Oa 67 (.bin .lss (.t 66) (.t 65))]
abbrev qaph : List SOper := [Oa 68 (.iaddr 2 (.t 64) (.t 66)), Oa 69 (.loads 2 (.t 68)), Oa 9 (.alloc 55 [.nilsl, .nilsl]), Ob (.store 2 (.t 9) (.t 69))]
abbrev qapg : List SOper := [Oa 70 (.mv (.t 3)), Oa 71 (.loads 2 (.t 9)), Oc 72 32 [(.t 70), (.t 71)]]
abbrev qapf : List SOper := [Oa 73 (.bin .add (.t 66) (.c (.int .i64 1))), Oa 66 (.mv (.t 73))]
def qai6 : SCode := (.seq (.reg false qapi [1, 3, 64, 65, 66, 67]) (.seq (.cond (.t 67) .skip (.exit 4)) (.seq (.block 5 (.seq (.reg false qaph [1, 3, 9, 64, 65, 66]) (.reg false qapg [1, 3, 64, 65, 66]))) (.reg false qapf [1, 3, 64, 65, 66]))))
abbrev qape : List SOper := [Oa 74 (.mv (.t 3)), Oa 75 (.faddr 4 (.t 1)), Oa 76 (.load (.t 75)), Oa 77 (.len false (.t 76)), Oa 78 (.mkrow 3 1 1 [(.int .i64 0)] [(0, (.t 77))]), Oc 79 29 [(.t 74), (.t 78)]]
abbrev qapd : List SOper := [Oa 80 (.faddr 4 (.t 1)), Oa 81 (.load (.t 80)), Oa 82 (.len false (.t 81)), Oa 83 (.mv (.c (.int .i64 0)))]
abbrev qapc : List SOper := [Oa 84 (.bin .lss (.t 83) (.t 82))]
abbrev qapb : List SOper := [Oa 85 (.iaddr 6 (.t 81) (.t 83)), Oa 86 (.loads 6 (.t 85)), Oa 11 (.alloc 62 [(.int .i64 0), .nilsl, .nilsl, (.int .i64 0), (.int .i64 0), .nilsl]), Ob (.store 6 (.t 11) (.t 86))]
abbrev qapa : List SOper := [Oa 87 (.mv (.t 3)), Oa 88 (.loads 6 (.t 11)), Oc 89 33 [(.t 87), (.t 88)]]
abbrev qao9 : List SOper := [Oa 90 (.bin .add (.t 83) (.c (.int .i64 1))), Oa 83 (.mv (.t 90))]
def qai5 : SCode := (.seq (.reg false qapc [1, 3, 81, 82, 83, 84]) (.seq (.cond (.t 84) .skip (.exit 6)) (.seq (.block 7 (.seq (.reg false qapb [1, 3, 11, 81, 82, 83]) (.reg false qapa [1, 3, 81, 82, 83]))) (.reg false qao9 [1, 3, 81, 82, 83]))))
abbrev qao8 : List SOper := [Oa 91 (.mv (.t 3)), Oa 92 (.faddr 5 (.t 1)), Oa 93 (.load (.t 92)), Oa 94 (.len false (.t 93)), Oa 95 (.mkrow 3 1 1 [(.int .i64 0)] [(0, (.t 94))]), Oc 96 29 [(.t 91), (.t 95)]]
abbrev qao7 : List SOper := [Oa 97 (.faddr 5 (.t 1)), Oa 98 (.load (.t 97)), Oa 99 (.len false (.t 98)), Oa 100 (.mv (.c (.int .i64 0)))]
abbrev qao6 : List SOper := [Oa 101 (.bin .lss (.t 100) (.t 99))]
abbrev qao5 : List SOper := [Oa 102 (.iaddr 5 (.t 98) (.t 100)), Oa 103 (.loads 5 (.t 102)), Oa 13 (.alloc 64 [(.int .i64 0), (.int .i64 0), .nilsl, (.int .i64 0), (.int .i64 0)]), Ob (.store 5 (.t 13) (.t 103))]
abbrev qao4 : List SOper := [Oa 104 (.mv (.t 3)), Oa 105 (.loads 5 (.t 13)), Oc 106 34 [(.t 104), (.t 105)]]
abbrev qao3 : List SOper := [Oa 107 (.bin .add (.t 100) (.c (.int .i64 1))), Oa 100 (.mv (.t 107))]
def qai4 : SCode := (.seq (.reg false qao6 [1, 3, 98, 99, 100, 101]) (.seq (.cond (.t 101) .skip (.exit 8)) (.seq (.block 9 (.seq (.reg false qao5 [1, 3, 13, 98, 99, 100]) (.reg false qao4 [1, 3, 98, 99, 100]))) (.reg false qao3 [1, 3, 98, 99, 100]))))
abbrev qao2 : List SOper := [Oa 108 (.mv (.t 3)), Oa 109 (.faddr 6 (.t 1)), Oa 110 (.load (.t 109)), Oc 111 30 [(.t 108), (.t 110)]]
abbrev qag6 : List SOper := [Oa 112 (.mv (.t 3)), Oa 113 (.nilc (.t 112)), Oa 114 (.faddr 0 (.t 113)), Oa 115 (.load (.t 114)), Oa 2 (.mv (.t 115))]
def c_whole : SCode := (.seq (.reg false qaur [1]) (.seq (.reg false qauq [1, 3]) (.seq (.reg false qai3 [1, 3]) (.seq (.seq (.reg false qaup [1, 3, 25, 26, 27]) (.block 0 (.loop qai8))) (.seq (.reg false qauk [1, 3]) (.seq (.reg false qapq [1, 3]) (.seq (.seq (.reg false qapp [1, 3, 47, 48, 49]) (.block 2 (.loop qai7))) (.seq (.reg false qapk [1, 3]) (.seq (.seq (.reg false qapj [1, 3, 64, 65, 66]) (.block 4 (.loop qai6))) (.seq (.reg false qape [1, 3]) (.seq (.seq (.reg false qapd [1, 3, 81, 82, 83]) (.block 6 (.loop qai5))) (.seq (.reg false qao8 [1, 3]) (.seq (.seq (.reg false qao7 [1, 3, 98, 99, 100]) (.block 8 (.loop qai4))) (.seq (.reg false qao2 [3]) (.seq (.reg false qag6 [2]) .ret)))))))))))))))
theorem qaku : comp Try.prog 116 ((Try.f13.body).getD .skip) = some c_whole.erase := by kernel_rfl
abbrev qa0z : List SOper := [Oa 2 (.mv (.c (.int .u32 0)))]
abbrev qa0y : List SOper := [Oa 3 (.mv (.c (.int .u32 4294967295)))]
abbrev qa0x : List SOper := [Oa 6 (.mv (.t 0)), Oa 7 (.len false (.t 6)), Oa 8 (.mv (.c (.int .i64 0)))]
abbrev qa0w : List SOper := [Oa 9 (.bin .lss (.t 8) (.t 7))]
abbrev qa0v : List SOper := [Oa 10 (.iaddr 1 (.t 6) (.t 8)), Oa 11 (.load (.t 10)), Oa 5 (.mv (.t 11))]
abbrev qa0u : List SOper := [Oa 12 (.mv (.t 3)), Oa 13 (.mv (.t 5)), Oa 14 (.conv .u32 (.t 13)), Oa 15 (.bin .xor (.t 12) (.t 14)), Oa 3 (.mv (.t 15))]
abbrev qa0t : List SOper := [Oa 16 (.mv (.c (.int .i64 0)))]
abbrev qa0s : List SOper := [Oa 17 (.bin .lss (.t 16) (.c (.int .i64 8)))]
abbrev qa0r : List SOper := [Oa 18 (.mv (.t 3)), Oa 19 (.bin .shr (.t 18) (.c (.int .u64 1))), Oa 20 (.mv (.t 3)), Oa 21 (.bin .and (.t 20) (.c (.int .u32 1))), Oa 22 (.un .neg (.t 21)), Oa 23 (.bin .and (.c (.int .u32 3988292384)) (.t 22)), Oa 24 (.bin .xor (.t 19) (.t 23)), Oa 3 (.mv (.t 24))]
abbrev qaxa : List SOper := [Oa 25 (.bin .add (.t 16) (.c (.int .i64 1))), Oa 16 (.mv (.t 25))]
def qann : SCode := (.seq (.reg false qa0s [3, 6, 7, 8, 16, 17]) (.seq (.cond (.t 17) .skip (.exit 2)) (.seq (.block 3 (.reg false qa0r [3, 6, 7, 8, 16])) (.reg false qaxa [3, 6, 7, 8, 16]))))
abbrev qaw9 : List SOper := [Oa 26 (.bin .add (.t 8) (.c (.int .i64 1))), Oa 8 (.mv (.t 26))]
def qanm : SCode := (.seq (.reg false qa0w [3, 6, 7, 8, 9]) (.seq (.cond (.t 9) .skip (.exit 0)) (.seq (.block 1 (.seq (.reg false qa0v [3, 5, 6, 7, 8]) (.seq (.reg false qa0u [3, 6, 7, 8]) (.seq (.reg false qa0t [3, 6, 7, 8, 16]) (.block 2 (.loop qann)))))) (.reg false qaw9 [3, 6, 7, 8]))))
abbrev qaw8 : List SOper := [Oa 27 (.mv (.t 3)), Oa 28 (.un .xor (.t 27)), Oa 2 (.mv (.t 28))]
def c_csum : SCode := (.seq (.reg false qa0z [0]) (.seq (.reg false qa0y [0, 3]) (.seq (.seq (.reg false qa0x [3, 6, 7, 8]) (.block 0 (.loop qanm))) (.seq (.reg false qaw8 [2]) .ret))))
theorem qaoc : comp Try.prog 29 ((Try.f11.body).getD .skip) = some c_csum.erase := by kernel_rfl
abbrev qa4r : List SOper := [Oa 1 (.box 29 (.t 0)), Oa 2 (.mv (.c .nilsl)), Oa 3 (.alloc 34 [(.int .i64 0), (.int .i64 0)])]
abbrev qa4q : List SOper := [Oa 7 (.loads 7 (.t 1)), Oc 8 12 [(.t 7)], Oa 4 (.alloc 34 [(.int .i64 0), (.int .i64 0)]), Ob (.store 2 (.t 4) (.t 8))]
abbrev qa4p : List SOper := [Oa 9 (.faddr 0 (.t 4)), Oa 10 (.load (.t 9)), Oa 11 (.bin .neq (.t 10) (.c (.int .i64 0)))]
abbrev qa4o : List SOper := [Oa 12 (.loads 2 (.t 4)), Oa 2 (.mv (.c .nilsl)), ⟨none, .store 2 (.t 3) (.t 12), none, none, 3⟩]
abbrev qa4n : List SOper := [Oa 13 (.loads 7 (.t 1)), Oc 14 13 [(.t 13)], Oa 5 (.mv (.t 14))]
abbrev qa4m : List SOper := [Oa 15 (.mv (.t 5)), Oc 16 11 [(.t 15)], Oa 6 (.mv (.t 16))]
abbrev qa4l : List SOper := [Oa 17 (.mv (.t 5)), Oa 18 (.mv (.t 6)), Oa 19 (.conv .u8 (.t 18)), Oa 20 (.mv (.t 6)), Oa 21 (.bin .shr (.t 20) (.c (.int .u64 8))), Oa 22 (.conv .u8 (.t 21)), Oa 23 (.mv (.t 6)), Oa 24 (.bin .shr (.t 23) (.c (.int .u64 16))), Oa 25 (.conv .u8 (.t 24)), Oa 26 (.mv (.t 6)), Oa 27 (.bin .shr (.t 26) (.c (.int .u64 24))), Oa 28 (.conv .u8 (.t 27)), Oa 29 (.mkrow 5 1 4 [(.int .u8 0)] [(0, (.t 19)), (1, (.t 22)), (2, (.t 25)), (3, (.t 28))]), Oa 30 (.app 5 1 1 (.t 17) (.t 29)), Oa 31 (.build [(.int .i64 0), (.int .i64 0)] []), Oa 2 (.mv (.t 30)), Ob (.store 2 (.t 3) (.t 31))]
def c_enc : SCode := (.seq (.reg false qa4r [1, 3]) (.seq (.seq (.reg false qa4q [1, 3, 4]) (.seq (.reg false qa4p [1, 3, 4, 11]) (.cond (.t 11) (.seq (.reg true qa4o [2, 3]) .ret) .skip))) (.seq (.reg false qa4n [3, 5]) (.seq (.reg false qa4m [3, 5, 6]) (.seq (.reg false qa4l [2, 3]) .ret)))))
theorem qaix : comp Try.prog 32 ((Try.f7.body).getD .skip) = some c_enc.erase := by kernel_rfl
abbrev qaw7 : List SOper := [Oa 3 (.box 29 (.t 0)), Oa 6 (.mv (.c (.bool false)))]
abbrev qaw6 : List SOper := [Oc 12 5 [], Oa 13 (.un .not (.t 12))]
abbrev qaw5 : List SOper := [Oa 6 (.mv (.c (.bool false)))]
abbrev qaw4 : List SOper := [Oa 14 (.loads 7 (.t 3)), Oc 15 6 [(.t 14)], Oa 16 (.mv (.t 15)), Oe 17 (.mv (.t 2)) 16 false, Oe 18 (.bin .eql (.t 17) (.c (.int .u8 0))) 16 false, Oa 19 (.pick (.t 16) (.c (.bool true)) (.t 18))]
abbrev qaw3 : List SOper := [Oa 6 (.mv (.c (.bool true)))]
abbrev qaw2 : List SOper := [Oa 21 (.loads 7 (.t 3)), Oc 22 7 [(.t 21)], Oa 20 (.mv (.t 22)), Oa 23 (.extr (.t 20) 0), Oa 24 (.extr (.t 20) 1), Oa 8 (.alloc 34 [(.int .i64 0), (.int .i64 0)]), Oa 7 (.mv (.t 23)), Ob (.store 2 (.t 8) (.t 24))]
abbrev qaw1 : List SOper := [Oa 25 (.faddr 0 (.t 8)), Oa 26 (.load (.t 25)), Oa 27 (.bin .neq (.t 26) (.c (.int .i64 0)))]
abbrev qaw0 : List SOper := [Oa 6 (.mv (.c (.bool true)))]
abbrev qawz : List SOper := [Oa 28 (.mv (.t 1)), Oa 29 (.conv .u64 (.t 28)), Oa 30 (.mv (.t 7)), Oa 31 (.len false (.t 30)), Oa 32 (.conv .u64 (.t 31)), Oa 33 (.bin .rem (.t 29) (.t 32)), Oa 34 (.conv .i64 (.t 33)), Oa 9 (.mv (.t 34))]
abbrev qarm : List SOper := [Oa 35 (.mv (.t 7)), Oa 36 (.mv (.t 9)), Oa 37 (.mv (.t 7)), Oa 38 (.mv (.t 9)), Oa 39 (.iaddr 1 (.t 37) (.t 38)), Oa 40 (.load (.t 39)), Oa 41 (.mv (.t 2)), Oa 42 (.bin .xor (.t 40) (.t 41)), Oa 43 (.iaddr 1 (.t 35) (.t 36)), Ob (.store 1 (.t 43) (.t 42))]
abbrev qarl : List SOper := [Oa 45 (.mv (.t 7)), Oc 46 8 [(.t 45)], Oa 44 (.mv (.t 46)), Oa 47 (.extr (.t 44) 0), Oa 48 (.extr (.t 44) 1), Oa 10 (.alloc 29 [.nilsl, .nilsl, .nilsl, .nilsl, .nilsl, .nilsl, .nilsl]), Oa 11 (.alloc 34 [(.int .i64 0), (.int .i64 0)]), Ob (.store 7 (.t 10) (.t 47)), Ob (.store 2 (.t 11) (.t 48))]
abbrev qark : List SOper := [Oa 49 (.faddr 0 (.t 11)), Oa 50 (.load (.t 49)), Oa 51 (.bin .neq (.t 50) (.c (.int .i64 0))), Oa 6 (.mv (.t 51))]
def c_ctorn : SCode := (.seq (.reg false qaw7 [1, 2, 3]) (.seq (.seq (.reg false qaw6 [1, 2, 3, 13]) (.cond (.t 13) (.seq (.reg false qaw5 [6]) .ret) .skip)) (.seq (.seq (.reg false qaw4 [1, 2, 3, 19]) (.cond (.t 19) (.seq (.reg false qaw3 [6]) .ret) .skip)) (.seq (.reg false qaw2 [1, 2, 7, 8]) (.seq (.seq (.reg false qaw1 [1, 2, 7, 27]) (.cond (.t 27) (.seq (.reg false qaw0 [6]) .ret) .skip)) (.seq (.reg false qawz [2, 7, 9]) (.seq (.reg false qarm [7]) (.seq (.reg false qarl [11]) (.seq (.reg false qark [6]) .ret)))))))))
theorem qak4 : comp Try.prog 52 ((Try.f4.body).getD .skip) = some c_ctorn.erase := by kernel_rfl
end Go.Proofs.Ytbefmmajjfijnaa
