/-
  Texts joined: XShE XShF XShG XShH XShI XShJ XShK XShL XShR XShS XShT XShV XShM XShN. No condition.
-/
import Derived.Great.BuildSlice
import Derived.ArgAppend
import Derived.Orders
import Derived.Test.YtalejfkholifpaaGreatStoreDoesK1
set_option linter.all false
namespace Go.Proofs.YtalejfkholifpaaGreat
open Go.RowKit
section
theorem ObjRep.place {w : World} {A : Nat → Prop} {ρ : qact} {id : Nat} {fp : Nat → Prop} {o : SObj} (h : ObjRep w A ρ id fp o) : ρ id ≠ none := by
 cases o with
 | cells t cs => obtain ⟨b, c, vs, h, _⟩ := h; rw [h]; simp
 | row e size es => obtain ⟨v, vs, _, _, _, h, _⟩ := h; rw [h]; simp
 | abs I => obtain ⟨b, c, h, _⟩ := h; rw [h]; simp
theorem qaqv {w w' : World} {e size n : Nat} {v : Value} {xs : List Value} (h : RowP w e size v n xs) (hb : ∀ k, v.ownBlock = some k → w'.heap[k]? = w.heap[k]?) : RowP w' e size v n xs := by
 refine ⟨h.1, ?_⟩;rcases h.2 with h2 | ⟨g, cap, cur, fz, rfl, hh, r⟩
 ·exact .inl h2
 ·exact .inr ⟨g, cap, cur, fz, rfl, by rw [hb g rfl]; exact hh, r⟩
theorem ObjRep.mono {w w' : World} {A A' : Nat → Prop} {ρ ρ' : qact} {id : Nat} {fp : Nat → Prop} {o : SObj} (h : ObjRep w A ρ id fp o) (hp : Pres w A ρ w' A' ρ') (hb : ∀ k, fp k → w'.heap[k]? = w.heap[k]?) : ObjRep w' A' ρ' id fp o := by
 cases o with
 | cells t cs =>
  obtain ⟨b, c, vs, h1, h2, h3, h4⟩ := h;exact ⟨b, c, vs, hp.pl _ _ h1, (hb b ((h4 b).2 rfl)).trans h2, ⟨hp.reps h3.1, h3.2⟩, h4⟩
 | row e size es =>
  obtain ⟨v, vs, h1, h2, h3, h4, h5⟩ := h;exact ⟨v, vs, qaqv h1 fun k hk => hb k ((h5 k).2 hk), ⟨hp.reps h2.1, h2.2⟩, h3, hp.pl _ _ h4, h5⟩
 | abs I =>
  obtain ⟨b, c, h1, h2⟩ := h;exact ⟨b, c, hp.pl _ _ h1, I.keep h2 hp.step hp.av hb⟩
theorem ObjRep.lt {X : Cx} {ρ : qact} {fp : Nat → Nat → Prop} {hp : Hp} {w : World} (h : SimH X ρ fp hp w) {id : Nat} {o : SObj} (ho : geth hp id = some o) : ∀ k, fp id k → k < w.heap.size := fun k hk => (h.turn id o ho k hk).2
theorem SimH.none_of {X : Cx} {ρ : qact} {fp : Nat → Nat → Prop} {hp : Hp} {w : World} (h : SimH X ρ fp hp w) {id : Nat} (hn : ρ id = none) : geth hp id = none := by
 cases e : geth hp id with
 | none => rfl
 | some o => exact absurd hn (h.objs id o e).place
theorem SimH.change {X : Cx} {ρ ρ' : qact} {fp fp' : Nat → Nat → Prop} {hp hp' : Hp} {w w' : World} (h : SimH X ρ fp hp w) {S : Nat → Prop} (Ch New : Nat → Prop) (hst : Step S w w')
  (hS : ∀ k, S k → ∃ id o, geth hp id = some o ∧ fp id k ∧ Ch id)
  (hold : ∀ id o, geth hp' id = some o → ¬ New id → geth hp id = some o ∧ ¬ Ch id ∧ fp' id = fp id)
  (hρ : ∀ id p, ρ id = some p → ρ' id = some p) (hkeep : ∀ id, id < X.m → ρ' id = ρ id)
  (hfp : ∀ id o, New id → geth hp' id = some o → ∀ k, fp' id k → ((∃ j o, geth hp j = some o ∧ fp j k ∧ Ch j) ∨ w.heap.size ≤ k) ∧ k < w'.heap.size)
  (hdisj : ∀ id id' o o', New id → New id' → id ≠ id' → geth hp' id = some o → geth hp' id' = some o' → ∀ k, fp' id k → ¬ fp' id' k)
  (hnew : Pres w (Av X hp fp) ρ w' (Av X hp' fp') ρ' → ∀ id o, New id → geth hp' id = some o → ObjRep w' (Av X hp' fp') ρ' id (fp' id) o) :
  SimH X ρ' fp' hp' w' ∧ Pres w (Av X hp fp) ρ w' (Av X hp' fp') ρ' := by
 have hSA : ∀ k, S k → Av X hp fp k := fun k hk => by obtain ⟨id, o, h1, h2, _⟩ := hS k hk; exact .inr ⟨id, o, h1, h2⟩
 have hpres : Pres w (Av X hp fp) ρ w' (Av X hp' fp') ρ' := by
  refine ⟨hst.mono hSA, fun k hk hlt => ?_, hρ⟩;rcases hk with hk | ⟨id, o, h1, h2⟩
  ·exact .inl hk
  ·by_cases hn : New id
   ·rcases (hfp id o hn h1 k h2).1 with ⟨j, o', h3, h4, _⟩ | h3
    ·exact .inr ⟨j, o', h3, h4⟩
    ·exact absurd hlt (Nat.not_lt_of_le h3)
   ·obtain ⟨h3, _, h4⟩ := hold id o h1 hn;exact .inr ⟨id, o, h3, by rw [← h4]; exact h2⟩
 have hsame : ∀ id o, geth hp id = some o → ¬ Ch id → ∀ k, fp id k → w'.heap[k]? = w.heap[k]? := fun id o h1 hc k hk => by
  refine hst.block k (h.turn id o h1 k hk).2 fun hs => ?_
  obtain ⟨j, o', h2, h3, h4⟩ := hS k hs;have hne : id ≠ j := fun e => hc (e ▸ h4)
  exact h.disj id j o o' hne h1 h2 k hk h3
 refine ⟨⟨fun id o h1 => ?_, fun id id' o o' hne h1 h2 k hk hk' => ?_, fun id o h1 k hk => ?_, ?_, fun id hid => (hkeep id hid).trans (h.keep id hid)⟩, hpres⟩
 ·by_cases hn : New id
  ·exact hnew hpres id o hn h1
  ·obtain ⟨h2, h3, h4⟩ := hold id o h1 hn;rw [h4];exact (h.objs id o h2).mono hpres (hsame id o h2 h3)
 ·by_cases hn : New id
  ·by_cases hn' : New id'
   ·exact hdisj id id' o o' hn hn' hne h1 h2 k hk hk'
   ·obtain ⟨h3, h4, h5⟩ := hold id' o' h2 hn';rw [h5] at hk';rcases (hfp id o hn h1 k hk).1 with ⟨j, oj, h6, h7, h8⟩ | h6
    ·exact h.disj id' j o' oj (fun e => h4 (e ▸ h8)) h3 h6 k hk' h7
    ·exact absurd (h.turn id' o' h3 k hk').2 (Nat.not_lt_of_le h6)
  ·obtain ⟨h3, h4, h5⟩ := hold id o h1 hn;rw [h5] at hk;by_cases hn' : New id'
   ·rcases (hfp id' o' hn' h2 k hk').1 with ⟨j, oj, h6, h7, h8⟩ | h6
    ·exact h.disj id j o oj (fun e => h4 (e ▸ h8)) h3 h6 k hk h7
    ·exact absurd (h.turn id o h3 k hk).2 (Nat.not_lt_of_le h6)
   ·obtain ⟨h6, _, h7⟩ := hold id' o' h2 hn';rw [h7] at hk';exact h.disj id id' o o' hne h3 h6 k hk hk'
 ·by_cases hn : New id
  ·obtain ⟨h2, h3⟩ := hfp id o hn h1 k hk;refine ⟨?_, h3⟩;rcases h2 with ⟨j, oj, h4, h5, _⟩ | h4
   ·exact (h.turn j oj h4 k h5).1
   ·exact .inr (Nat.le_trans h.step.size h4)
  ·obtain ⟨h2, _, h4⟩ := hold id o h1 hn;rw [h4] at hk;exact ⟨(h.turn id o h2 k hk).1, Nat.lt_of_lt_of_le (h.turn id o h2 k hk).2 hst.size⟩
 ·refine ⟨hst.os.trans h.step.os, hst.tape.trans h.step.tape, hst.output.trans h.step.output, Nat.le_trans h.step.size hst.size, fun k hk hM => ?_⟩;rw [← h.step.block k hk hM];refine hst.block k (Nat.lt_of_lt_of_le hk h.step.size) fun hs => ?_
  obtain ⟨id, o, h1, h2, _⟩ := hS k hs;rcases (h.turn id o h1 k h2).1 with h3 | h3
  ·exact hM h3
  ·exact absurd hk (Nat.not_lt_of_le h3)
theorem RowP.lt {w : World} {e size n : Nat} {v : Value} {vs : List Value} (h : RowP w e size v n vs) (k : Nat) (hk : v.ownBlock = some k) : 0 ≤ k ∧ k < w.heap.size := by
 rcases h.2 with ⟨rfl, _⟩ | ⟨g, cap, cur, fz, rfl, hh, _⟩
 ·simp [Value.ownBlock] at hk
 ·simp only [Value.ownBlock, Option.some.injEq] at hk;subst hk;exact ⟨Nat.zero_le _, (Array.getElem?_eq_some_iff.1 hh).1⟩
theorem SimH.add {X : Cx} {ρ : qact} {fp : Nat → Nat → Prop} {hp : Hp} {w w' : World} (h : SimH X ρ fp hp w) {nx : Nat} (hm : X.m ≤ nx) (hf : ρ nx = none) (o : SObj) (p : Pl) (F : Nat → Prop) (hb : Below w.heap.size w w')
  (hF : ∀ k, F k → w.heap.size ≤ k ∧ k < w'.heap.size)
  (hnew : ∀ A' ρ', Pres w (Av X hp fp) ρ w' A' ρ' → ρ' nx = some p → ObjRep w' A' ρ' nx F o) :
  ∃ ρ' fp', SimH X ρ' fp' (puth hp nx o) w' ∧ Pres w (Av X hp fp) ρ w' (Av X (puth hp nx o) fp') ρ' ∧ ρ' nx = some p ∧ ∀ id, ρ' id ≠ none → ρ id ≠ none ∨ id = nx := by
 have hn := h.none_of hf
 obtain ⟨h1, h2⟩ := h.change (hp' := puth hp nx o) (ρ' := fun id => if id = nx then some p else ρ id) (fp' := fun id => if id = nx then F else fp id) (S := fun _ => False) (fun _ => False) (fun id => id = nx) (.of hb) (fun _ h => h.elim)
  (fun id o' hg hne => ⟨by rw [qacx, if_neg hne] at hg; exact hg, fun h => h, by simp [hne]⟩)
  (fun id q hq => by have hne : id ≠ nx := fun e => by rw [e, hf] at hq; cases hq
                     simp [hne, hq])
  (fun id hid => by have hne : id ≠ nx := by omega
                    simp [hne])
  (fun id o' hi _ k hk => by subst hi; simp only [if_true] at hk; exact ⟨.inr (hF k hk).1, (hF k hk).2⟩)
  (fun id id' o' o'' hi hi' hne => absurd (hi.trans hi'.symm) hne)
  (fun hpres id o' hi hg => by
   subst hi;rw [qacx, if_pos rfl] at hg;cases hg
   simp only [if_true];exact hnew _ _ hpres (by simp))
 exact ⟨_, _, h1, h2, by simp, fun id hid => by by_cases e : id = nx <;> simp_all⟩
def MOk (X : Cx) (ρ : qact) (fp : Nat → Nat → Prop) (hp : Hp) (w : World) (a : Act) (op : Op) (nx : Nat) (v : SV) (u : Upd) : Prop := ∃ v' w', (∀ o : Oper, o.op = op → Yld ((execOp a.eval o).run X.P w) v' w') ∧ OpOut X ρ fp hp w nx u v v' w'
theorem POk.mok {nx : Nat} {X : Cx} {ρ : qact} {fp : Nat → Nat → Prop} {hp : Hp} {w : World} {a : Act} {op : Op} {v : SV} (h : SimH X ρ fp hp w) (hp' : POk X.P w (Av X hp fp) ρ a op v) : MOk X ρ fp hp w a op nx v [] := by
 obtain ⟨v', h1, h2⟩ := hp';exact ⟨v', w, fun o ho => .inl (h1 o ho), .same h h2⟩
variable {X : Cx} {ρ : qact} {fp : Nat → Nat → Prop} {hp : Hp} {w : World} {N : Nat} {a : Act} {sl : Sl}
theorem OpOut.cells (h : SimH X ρ fp hp w) {nx : Nat} (hm : X.m ≤ nx) (hf : ρ nx = none) (t : TypeId) {cs : List SV} {vs : List Value} (hr : Reps w (Av X hp fp) ρ cs vs) (hone : Ones vs) :
  OpOut X ρ fp hp w nx [(nx, some (.cells t cs))] (.ptr nx 0) (.pointer (some ⟨w.heap.size, 0, none⟩)) (w.alloc (.cells vs.toArray t)) := by
 obtain ⟨ρ', fp', h1, h2, h3, h4⟩ := h.add hm hf (.cells t cs) (some (w.heap.size, 0)) (fun k => k = w.heap.size) (al (rf w) (.cells vs.toArray t)) (fun k hk => by subst hk; simp) fun A' ρ' hp' hpl => ⟨_, _, vs, hpl, Blk.new _ _ _, ⟨hp'.reps hr, hone⟩, fun k => Iff.rfl⟩
 exact ⟨ρ', fp', h1, .ptr h3, h2, h4⟩
theorem qbmh (h : SimH X ρ fp hp w) {t : TypeId} {z : List SV} (hz : qaim X.P t = some z) {g : Nat → Option SObj} {nx nx' : Nat} {v : SV} {u : Upd} (hm : X.m ≤ nx) (hf : ρ nx = none)
  (hr : (SOp.alloc t z).run (·.ev sl) g nx = some (v, u, nx')) : MOk X ρ fp hp w a (.alloc t) nx v u := by
 simp only [SOp.run] at hr;cases hr
 obtain ⟨i, zv, hi, hzv, hzs, hzl, hzo, hzr⟩ := qafa hz;refine ⟨_, _, fun o ho => .inl ?_, OpOut.cells h hm hf t (hzr (w := w) (A := Av X hp fp) (ρ := ρ)) hzo⟩;simp [execOp, ho, Instr.alloc, zeroValue, typeInfo, hi, hzv, newVar, newRow]
theorem ok_box (h : SimH X ρ fp hp w) (hs : ∀ t, RepV w (Av X hp fp) ρ (gets sl t) (a.tmps.getD t undef)) {t : TypeId} {x : Operand} {x' : SX} (hx : cx N x = some x') {g : Nat → Option SObj} {nx nx' : Nat} {v : SV} {u : Upd} (hm : X.m ≤ nx) (hf : ρ nx = none)
  (hr : (SOp.box t x').run (·.ev sl) g nx = some (v, u, nx')) : MOk X ρ fp hp w a (.box t x) nx v u := by
 have rx := qaci hx hs;simp only [SOp.run] at hr;split at hr
 ·rename_i cs hc;cases hr
  obtain ⟨hcr, hco⟩ := rx.cells hc;refine ⟨_, _, fun o ho => .inl ?_, OpOut.cells h hm hf t hcr hco⟩;simp [execOp, ho, Instr.box, newVar, newRow]
 ·cases hr
theorem OpOut.row (h : SimH X ρ fp hp w) {nx : Nat} (hm : X.m ≤ nx) (hf : ρ nx = none) (e size : Nat) {es : List (List SV)} {v' : Value} {vs : List Value} {w' : World} (hb : Below w.heap.size w w') (ho : RowP w' e size v' es.length vs) (hge : ∀ k, v'.ownBlock = some k → w.heap.size ≤ k)
  (hz : ∀ x ∈ es, x.length = size) (hr : Reps w (Av X hp fp) ρ es.flatten vs) (hone : Ones vs) :
  OpOut X ρ fp hp w nx [(nx, some (.row e size es))] (.own nx es.length) v' w' := by
 obtain ⟨ρ', fp', h1, h2, h3, h4⟩ := h.add hm hf (.row e size es) (qad9 v') (fun k => v'.ownBlock = some k) hb (fun k hk => ⟨hge k hk, (ho.lt k hk).2⟩) fun A' ρ' hp' hpl => ⟨v', vs, ho, ⟨hp'.reps hr, hone⟩, hz, hpl, fun k => Iff.rfl⟩
 refine ⟨ρ', fp', h1, ?_, h2, h4⟩;rcases ho.2 with ⟨rfl, hn⟩ | ⟨g, cap, cur, fz, rfl, _, _, hn, hmx, _⟩
 ·rw [hn]; exact .own0 h3
 ·exact .own h3 hn hmx
theorem qbm8 {size : Nat} {w : World} {A : Nat → Prop} {ρ : qact} : ∀ (ps : List (Nat × Value)) (qs : List (Nat × SV)), ps.length = qs.length → (∀ (j : Nat) p q, ps[j]? = some p → qs[j]? = some q → p.1 = q.1 ∧ RepV w A ρ q.2 p.2) →
  ∀ (zs cs : List (List SV)) (zv : List Value), qac6 size zs qs = some cs → (∀ x ∈ zs, x.length = size) → Reps w A ρ zs.flatten zv → Ones zv →
   ∃ cv, Instr.fill (fun i => some (i * size, size)) zv.toArray ps = some cv.toArray ∧ (Reps w A ρ cs.flatten cv ∧ Ones cv) ∧ (∀ x ∈ cs, x.length = size) ∧ cs.length = zs.length := by
 intro ps;induction ps with
 | nil =>
  intro qs hl _ zs cs zv h hz hr ho;obtain rfl : qs = [] := List.eq_nil_of_length_eq_zero (by simpa using hl.symm);simp only [qac6] at h; cases h
  exact ⟨zv, rfl, ⟨hr, ho⟩, hz, rfl⟩
 | cons p ps ih =>
  intro qs hl hp zs cs zv h hz hr ho;cases qs with
  | nil => simp at hl
  | cons q qs =>
   obtain ⟨i, x⟩ := q;obtain ⟨i', v⟩ := p;obtain ⟨h1, h2⟩ := hp 0 _ _ rfl rfl;simp only at h1 h2;subst h1;simp only [qac6] at h;split at h
   ·rename_i xs hxs;obtain ⟨hcr, hco⟩ := h2.cells hxs;split at h
    ·rename_i hc;obtain ⟨hc1, hc2⟩ := hc;have hsz : v.cells.size = size := by have := hcr.1; simp at this; omega
     have hfl := qadu hz;have hroom : (i' + 1) * size ≤ zs.length * size := Nat.mul_le_mul_right _ hc2;rw [Nat.add_mul, Nat.one_mul] at hroom;have hset : (zs.set i' xs).flatten = setL zs.flatten (i' * size) xs := by
      clear h ih hr hcr hl hp hfl hroom ho hco;have gen : ∀ (xs ys : List SV) (pre post : List SV), xs.length = ys.length → setL (pre ++ ys ++ post) pre.length xs = pre ++ xs ++ post := by
       intro xs;induction xs with
       | nil => intro ys pre post hl; cases ys with | nil => simp [setL] | cons => simp at hl
       | cons x xs ihx =>
        intro ys pre post hl;cases ys with
        | nil => simp at hl
        | cons y ys =>
         simp only [setL];have e1 : (pre ++ y :: ys ++ post).set pre.length x = (pre ++ [x]) ++ ys ++ post := by
          rw [List.append_assoc, List.set_append_right _ _ (Nat.le_refl _)]; simp
         rw [e1];have := ihx ys (pre ++ [x]) post (by simpa using hl);simp only [List.length_append, List.length_cons, List.length_nil] at this;rw [this]; simp
      have hsplit : zs = zs.take i' ++ zs[i'] :: zs.drop (i' + 1) := by simp
      have hfl1 : (zs.take i').flatten.length = i' * size := by rw [qadu (fun e he => hz e (List.mem_of_mem_take he))]; simp; rw [Nat.min_eq_left (by omega)]
      have e1 : zs.flatten = (zs.take i').flatten ++ zs[i'] ++ (zs.drop (i' + 1)).flatten := by
       have := congrArg List.flatten hsplit;rw [List.flatten_append, List.flatten_cons, ← List.append_assoc] at this;exact this
      have e2 : (zs.set i' xs).flatten = (zs.take i').flatten ++ xs ++ (zs.drop (i' + 1)).flatten := by
       rw [List.set_eq_take_append_cons_drop, if_pos hc2]; simp
      rw [e1, e2, ← hfl1];exact (gen xs zs[i'] _ _ (by rw [hc1, hz _ (List.getElem_mem _)])).symm
     obtain ⟨cv, e1, e2, e3, e4⟩ := ih qs (by simpa using hl) (fun j p q hj hk => hp (j + 1) p q (by simpa using hj) (by simpa using hk)) _ _ (setV zv (i' * size) v.cells.toList) h
      (fun x hx => by rcases List.mem_or_eq_of_mem_set hx with h | h; exact hz x h; rw [h]; exact hc1) (by rw [hset]; exact hcr.setL hr _) (hco.setV ho _)
     refine ⟨cv, ?_, e2, e3, by rw [e4]; simp⟩;rw [Instr.fill];simp only;have hzl := hr.1;have hno : (v.cells.size ≠ size || decide (i' * size + v.cells.size > zv.toArray.size)) = false := by simp [hsz]; omega
     rw [hno];simp only [Bool.false_eq_true, if_false];rw [← Array.foldl_toList, Array.toList_zipIdx, qaj4];exact e1
    ·cases h
   ·cases h
theorem Ones.rep {zv : List Value} (h : Ones zv) : ∀ n, Ones (List.replicate n zv).flatten := fun n v hv => by
 obtain ⟨l, hl, hv⟩ := List.mem_flatten.1 hv;rw [(List.mem_replicate.1 hl).2] at hv;exact h v hv
theorem qafn {w : World} {A : Nat → Prop} {ρ : qact} {z : List SV} {zv : List Value} (h : Reps w A ρ z zv) : ∀ n, Reps w A ρ (List.replicate n z).flatten (List.replicate n zv).flatten
 | 0 => by simpa using Reps.nil
 | n + 1 => by rw [List.replicate_succ, List.replicate_succ, List.flatten_cons, List.flatten_cons]; exact h.append (qafn h n)
theorem qa1q {zv : Array Value} (n : Nat) (hz : 0 < zv.size) : ((Array.range (n * zv.size)).map (zv[· % zv.size]!)) = (List.replicate n zv.toList).flatten.toArray := by
 have hlen : ((List.replicate n zv.toList).flatten).length = n * zv.size := by simp
 apply Array.ext';apply List.ext_getElem?;intro j;by_cases hj : j < n * zv.size
 ·have h1 : ((Array.range (n * zv.size)).map (zv[· % zv.size]!)).toList[j]? = some (zv[j % zv.size]!) := by simp [hj]
  rw [h1];have hm : j % zv.size < zv.size := Nat.mod_lt _ hz;have hd : j / zv.size < n := (Nat.div_lt_iff_lt_mul hz).2 hj;have key : ∀ (n i k : Nat), i < n → k < zv.size → ((List.replicate n zv.toList).flatten)[i * zv.size + k]? = zv[k]? := by
   intro n;induction n with
   | zero => intro i k hi; omega
   | succ n ih =>
    intro i k hi hk;rw [List.replicate_succ, List.flatten_cons];cases i with
    | zero => rw [Nat.zero_mul, Nat.zero_add, List.getElem?_append_left (by simpa using hk)]; simp
    | succ i =>
     have hlt : zv.toList.length ≤ (i + 1) * zv.size + k := by rw [Nat.add_mul]; simp; omega
     rw [List.getElem?_append_right hlt, show (i + 1) * zv.size + k - zv.toList.length = i * zv.size + k by rw [Nat.add_mul]; simp; omega];exact ih i k (by omega) hk
  have := key n (j / zv.size) (j % zv.size) hd hm;have hjd : j / zv.size * zv.size + j % zv.size = j := by rw [Nat.mul_comm]; exact Nat.div_add_mod j zv.size
  rw [hjd] at this;rw [this, getElem!_pos zv _ hm];simp
 ·rw [List.getElem?_eq_none (by simp; omega), List.getElem?_eq_none (by rw [hlen]; omega)]
theorem qbmb (h : SimH X ρ fp hp w) (hs : ∀ t, RepV w (Av X hp fp) ρ (gets sl t) (a.tmps.getD t undef)) {t e size n : Nat} {z : List SV} {ps : Array (Nat × Operand)} {qs : List (Nat × SX)} (ht : X.P.underlying t = some (.slice e)) (hz : qaim X.P e = some z) (hsz : qab8 X.P e = some size) (hq : ps.toList.mapM (qbnb N) = some qs) (hc : 0 < size ∧ n * size ≤ 2 ^ 20)
  {g : Nat → Option SObj} {nx nx' : Nat} {v : SV} {u : Upd} (hm : X.m ≤ nx) (hf : ρ nx = none) (hr : (SOp.mkrow e size n z qs).run (·.ev sl) g nx = some (v, u, nx')) : MOk X ρ fp hp w a (.buildSlice t n ps) nx v u := by
 simp only [SOp.run] at hr;split at hr
 ·rename_i es hes;cases hr
  obtain ⟨i, zv, hi, hzv, hzs, hzl, hzo, hzr⟩ := qafa hz;have hsi : i.size = size := by simp only [qab8, hi, Option.map_some] at hsz; exact Option.some.inj hsz
  obtain ⟨hl, hj⟩ := qagj hq;have hrep := qafn (hzr (w := w) (A := Av X hp fp) (ρ := ρ)) n;obtain ⟨cv, e1, e2, e3, e4⟩ := qbm8 (size := size) (ps.toList.map fun p => (p.1, a.eval p.2)) _ (by simp [hl]) (fun j p q hp hq => by
   simp only [List.getElem?_map, Option.map_eq_some_iff] at hp hq;obtain ⟨p, hp, rfl⟩ := hp;obtain ⟨q, hq, rfl⟩ := hq;obtain ⟨y, hy, hcc⟩ := hj j p hp;rw [hq] at hy; cases hy
   simp only [qbnb, Option.map_eq_some_iff] at hcc;obtain ⟨x, hx, hcc⟩ := hcc;cases hcc
   exact ⟨rfl, qaci hx hs⟩) (List.replicate n z) es _ hes (fun x hx => by rw [(List.mem_replicate.1 hx).2, hzl, hsi]) hrep (hzo.rep n)
  rw [List.length_replicate] at e4;have hfl := qadu e3;have hcl : cv.length = n * size := by rw [← e2.1.1, hfl, e4]
  have hbig : n ≤ n * size := Nat.le_mul_of_pos_right n hc.1;have hn20 : n ≤ 1048576 := by have := hc.2; omega
  have hmax : n ≤ maxLen := by simp [maxLen]; omega
  have hrun : ∀ o : Oper, o.op = .buildSlice t n ps → (execOp a.eval o).run X.P w = .ok (.value (.slice (some ⟨w.heap.size, 0, none⟩) n n)) (w.alloc (.cells cv.toArray e)) := fun o ho => by
   have e5 : (ps.map fun (i, x) => (i, a.eval x)).toList = ps.toList.map fun p => (p.1, a.eval p.2) := by simp
   have hpos : 0 < zv.cells.size := by rw [hzs, hsi]; exact hc.1
   by_cases hn0 : n = 0
   ·subst hn0;have hcv : cv = [] := List.eq_nil_of_length_eq_zero (by simpa using hcl);subst hcv;have e6 := e1;simp only [List.replicate_zero, List.flatten_nil] at e6;have e7 : Instr.fill (fun i => some (i * size, size)) #[] (List.map (fun x => (x.fst, a.eval x.snd)) ps.toList) = some #[] := e6;simp [execOp, ho, Instr.buildSlice, run_underlying ht, qac4 hsz w, newRow, show Array.range 0 = #[] from rfl, e7]
   ·have hne : ¬ n * i.size = 0 := by rw [hsi]; exact Nat.ne_of_gt (Nat.mul_pos (by omega) hc.1)
    have := run_buildSlice (P := X.P) w t e n (ps.map fun (i, x) => (i, a.eval x)) cv.toArray i zv ht hi hzv (by rw [hsi]; omega) hne (by
     rw [e5];have hcy := qa1q n hpos;rw [hzs] at hcy;rw [hzs, hcy, hsi];exact e1)
    simp only [execOp, ho, Sem.run_bind, this, Result.andThen_ok, Sem.run_pure]
  refine ⟨_, _, fun o ho => .inl (hrun o ho), ?_⟩;have := OpOut.row h hm hf e size (es := es) (v' := .slice (some ⟨w.heap.size, 0, none⟩) n n) (vs := cv) (al (rf w) (.cells cv.toArray e)) ?_ (fun k hk => by simp [Value.ownBlock] at hk; omega) e3 e2.1 e2.2
  ·rw [e4] at this; exact this
  ·rw [e4];refine .of (b := 0) ⟨hcl, .inr ⟨w.heap.size, n, cv.toArray, rfl, Nat.zero_le _, Blk.new _ _ _, Nat.le_refl _, hmax, by simpa using hcl, ?_⟩⟩;rw [List.take_of_length_le (by simp [hcl])]
 ·cases hr
theorem qasi : ∀ (us cs : List Value) (off m : Nat), (setV cs off us).take m = setV (cs.take m) off us
 | [], _, _, _ => rfl
 | u :: us, cs, off, m => by rw [setV, qasi us, setV, List.take_set]
theorem qbi6 : ∀ (us cs : List Value) (off : Nat), off + us.length ≤ cs.length → setV cs off us = cs.take off ++ us ++ cs.drop (off + us.length)
 | [], cs, off, h => by simp [setV]
 | u :: us, cs, off, h => by
  simp only [List.length_cons] at h;rw [setV, qbi6 us _ _ (by simp; omega)];have h1 : (cs.set off u).take (off + 1) = cs.take off ++ [u] := by
   rw [List.take_succ, List.take_set_of_le (Nat.le_refl _), List.getElem?_set_self (by omega)]; rfl
  have h2 : (cs.set off u).drop (off + 1 + us.length) = cs.drop (off + (u :: us).length) := by
   rw [List.drop_set_of_lt (by omega), List.length_cons]; congr 1; omega
  rw [h1, h2]; simp
theorem qay8 : ∀ (us cs : List SV) (off : Nat), off + us.length ≤ cs.length → setL cs off us = cs.take off ++ us ++ cs.drop (off + us.length)
 | [], cs, off, h => by simp [setL]
 | u :: us, cs, off, h => by
  simp only [List.length_cons] at h;rw [setL, qay8 us _ _ (by simp; omega)];have h1 : (cs.set off u).take (off + 1) = cs.take off ++ [u] := by
   rw [List.take_succ, List.take_set_of_le (Nat.le_refl _), List.getElem?_set_self (by omega)]; rfl
  have h2 : (cs.set off u).drop (off + 1 + us.length) = cs.drop (off + (u :: us).length) := by
   rw [List.drop_set_of_lt (by omega), List.length_cons]; congr 1; omega
  rw [h1, h2]; simp
theorem qbm0 {size : Nat} {es : List (List SV)} (hz : ∀ e ∈ es, e.length = size) {i : Nat} {x : List SV} (hx : es[i]? = some x) {j : Nat} {xs : List SV} (hj : j + xs.length ≤ size) : (es.set i (setL x j xs)).flatten = setL es.flatten (i * size + j) xs := by
 have hi : i < es.length := (List.getElem?_eq_some_iff.1 hx).1;have hxe : es[i] = x := (List.getElem?_eq_some_iff.1 hx).2;have hxl : x.length = size := hz x (List.mem_of_getElem? hx);have hfl := qadu hz;have hroom : (i + 1) * size ≤ es.length * size := Nat.mul_le_mul_right _ hi;rw [Nat.add_mul, Nat.one_mul] at hroom;have hsplit : es = es.take i ++ x :: es.drop (i + 1) := by rw [← hxe]; simp
 have hl1 : (es.take i).flatten.length = i * size := by rw [qadu (fun e he => hz e (List.mem_of_mem_take he))]; simp; rw [Nat.min_eq_left (by omega)]
 have e1 : es.flatten = (es.take i).flatten ++ x ++ (es.drop (i + 1)).flatten := by
  have := congrArg List.flatten hsplit;rw [List.flatten_append, List.flatten_cons, ← List.append_assoc] at this;exact this
 have e2 : (es.set i (setL x j xs)).flatten = (es.take i).flatten ++ setL x j xs ++ (es.drop (i + 1)).flatten := by
  rw [List.set_eq_take_append_cons_drop, if_pos hi]; simp
 rw [e2, qay8 xs x j (by omega), qay8 xs es.flatten _ (by omega), e1, ← hl1];rw [List.append_assoc _ x, List.take_append, List.drop_append];rw [List.take_of_length_le (Nat.le_add_right _ _), List.drop_eq_nil_of_le (show (es.take i).flatten.length ≤ (es.take i).flatten.length + j + xs.length by omega)];rw [show (es.take i).flatten.length + j - (es.take i).flatten.length = j by omega, show (es.take i).flatten.length + j + xs.length - (es.take i).flatten.length = j + xs.length by omega];rw [List.take_append_of_le_length (by omega), List.drop_append_of_le_length (by omega)];simp
theorem qaed {P : Program} (g o : Nat) (t : TypeId) : ∀ (vs : List Value) (i : Nat) (cur : Array Value) (fz : Nat × Nat) (w : World), w.heap[g]? = some (.cells cur t fz) → (fz = (0, 0) ∨ fz = (cur.size, cur.size + 1)) → o + i + vs.length ≤ cur.size → (∀ v ∈ vs, v.oneCell' = true) →
  (storeCells ⟨g, o, none⟩ vs i).run P w = .ok () (w.setRow g (cur.toList.take (o + i) ++ vs ++ cur.toList.drop (o + i + vs.length)).toArray)
 | [], i, cur, fz, w, hg, _, _, _ => by
  simp only [storeCells, List.append_nil, List.length_nil, Nat.add_zero, List.take_append_drop, Array.toArray_toList];rw [setRow_self w g cur t fz hg];rfl
 | v :: rest, i, cur, fz, w, hg, hz, hl, h1 => by
  have hi : o + i < cur.size := by simp at hl; omega
  have hadd : (⟨g, o, none⟩ : Addr).add i = ⟨g, o + i, none⟩ := by unfold Addr.add; split <;> simp_all
  have hcell : w.cell? ⟨g, o + i, none⟩ = some cur[o + i] := by simp [World.cell?, hg, hi]
  have hfro : w.frozen? ⟨g, o + i, none⟩ = false := by
   rcases hz with rfl | rfl
   ·simp [World.frozen?, hg]
   ·simp [World.frozen?, hg]; omega
  have hst : (store ((⟨g, o, none⟩ : Addr).add i) v).run P w = .ok () (w.setRow g (cur.setIfInBounds (o + i) v)) := by
   rw [hadd, run_store P w _ v _ (h1 v (by simp)), hcell];simp [hfro, setCell_eq_setRow w g (o + i) cur t fz v hg]
  have ih := qaed (P := P) g o t rest (i + 1) (cur.setIfInBounds (o + i) v) fz (w.setRow g (cur.setIfInBounds (o + i) v)) (setRow_heap w g cur _ t _ hg) (by simpa using hz) (by simp at hl ⊢; omega) (fun x hx => h1 x (by simp [hx]));simp only [storeCells, Sem.run_bind, hst, Result.andThen_ok, ih, setRow_setRow];congr 3
  have e := list_seg_step cur.toList (o + i) v rest (by simp at hl ⊢; omega);simpa [Array.toList_setIfInBounds, Nat.add_assoc] using e
theorem qasf {P : Program} {t : TypeId} {n : Nat} (hn : qab8 P t = some n) {b off : Nat} {et : TypeId} {cur : Array Value} {fz : Nat × Nat} (hb : w.heap[b]? = some (.cells cur et fz)) (hz : fz = (0, 0) ∨ fz = (cur.size, cur.size + 1)) {x y : Operand} (hx : a.eval x = .pointer (some ⟨b, off, none⟩)) (hl : (a.eval y).cells.size = n) (hroom : off + n ≤ cur.size) (h1 : Ones (a.eval y).cells.toList) :
  ∀ o : Oper, o.op = .store t x y → (execOp a.eval o).run P w = .ok .skip (w.setRow b (setV cur.toList off (a.eval y).cells.toList).toArray) := fun o ho => by
 have hs := qaed (P := P) b off et (a.eval y).cells.toList 0 cur fz w hb hz (by simp; omega) h1;rw [Nat.add_zero, ← qbi6 _ _ _ (by simp; omega)] at hs;simp only [execOp, ho, Instr.storeAt, hx, Instr.sureAddr, Sem.run_bind, Sem.run_pure, Result.andThen_ok, storeVar, qac4 hn w, hl, ne_eq, not_true, if_false, hs]
theorem qauj (A : Nat → Prop) (w : World) (g : Nat) (hg : A g) (cs : Array Value) : Step A w (w.setRow g cs) :=
 ⟨rfl, rfl, rfl, by simp, fun k _ hk => setRow_other w g k cs fun e => hk (e ▸ hg)⟩
theorem OpOut.turn {nx : Nat} (h : SimH X ρ fp hp w) {id : Nat} {o o' : SObj} (ho : geth hp id = some o) {b : Nat} (hb : fp id b) (cs : Array Value)
  (hnew : ∀ A' , Pres w (Av X hp fp) ρ (w.setRow b cs) A' ρ → ObjRep (w.setRow b cs) A' ρ id (fp id) o') :
  OpOut X ρ fp hp w nx [(id, some o')] .any undef (w.setRow b cs) := by
 obtain ⟨h1, h2⟩ := h.change (hp' := puth hp id o') (ρ' := ρ) (fp' := fp) (S := fun k => k = b) (fun j => j = id) (fun j => j = id) (qauj (fun k => k = b) w b rfl cs) (fun k hk => ⟨id, o, ho, by rw [show k = b from hk]; exact hb, rfl⟩)
  (fun j oj hg hne => ⟨by rw [qacx, if_neg hne] at hg; exact hg, hne, rfl⟩) (fun _ _ h => h) (fun _ _ => rfl)
  (fun j oj hj _ k hk => by subst hj; exact ⟨.inl ⟨j, o, ho, hk, rfl⟩, by have := (h.turn j o ho k hk).2; rw [setRow_size]; exact this⟩)
  (fun i j _ _ hi hj hne => absurd (hi.trans hj.symm) hne)
  (fun hpres j oj hj hg => by
   subst hj;rw [qacx, if_pos rfl] at hg;cases hg
   exact hnew _ hpres)
 exact ⟨ρ, fp, h1, .any, h2, fun j hj => .inl hj⟩
theorem qbl8 (h : SimH X ρ fp hp w) (hs : ∀ t, RepV w (Av X hp fp) ρ (gets sl t) (a.tmps.getD t undef)) {t n : Nat} {x y : Operand} {x' y' : SX} (hx : cx N x = some x') (hy : cx N y = some y') (hn : qab8 X.P t = some n) {nx nx' : Nat} {v : SV} {u : Upd}
  (hr : (SOp.store n x' y').run (·.ev sl) (geth hp) nx = some (v, u, nx')) : MOk X ρ fp hp w a (.store t x y) nx v u := by
 have rx := qaci hx hs;have ry := qaci hy hs;simp only [SOp.run] at hr;split at hr
 ·cases hr
 ·rename_i vs hvs;obtain ⟨hcr, hone⟩ := ry.cells hvs;split at hr
  ·rename_i hc1;have hl : (a.eval y).cells.size = n := by have := hcr.1; simp at this; omega
   split at hr
   ·rename_i id off he;rw [he] at rx;generalize hv : a.eval x = vx at rx;split at hr
    ·rename_i t' cs hg;rw [qacw] at hr;obtain ⟨hroom, hr⟩ := hr;cases hr
     cases rx with
     | ptr hρ =>
      rename_i b c;obtain ⟨b', c', us, hρ', hbl, ⟨hrep, huo⟩, hfp⟩ := h.objs id _ hg;rw [hρ] at hρ'; cases hρ'
      have hul := hrep.1;refine ⟨_, _, fun o ho => .inr ⟨qasf hn hbl (.inl rfl) hv hl (by simp; omega) hone o ho, rfl⟩, ?_⟩;refine OpOut.turn h hg ((hfp b).2 rfl) _ fun A' hp' => ⟨b, c, _, hρ, ?_, ⟨(hp'.reps hcr).setL (hp'.reps hrep) off, hone.setV huo off⟩, hfp⟩
      have := setRow_heap w b us.toArray (setV us.toArray.toList off (a.eval y).cells.toList).toArray t' (0, 0) hbl;exact this
    ·cases hr
   ·rename_i id size i j he;rw [he] at rx;generalize hv : a.eval x = vx at rx;split at hr
    ·rename_i e size' es hg;split at hr
     ·rename_i hsz;obtain ⟨rfl, hj⟩ := hsz;simp only [Option.map_eq_some_iff] at hr;obtain ⟨z, hz, hr⟩ := hr;cases hr
      cases rx with
      | eptr hρ =>
       rename_i b c;obtain ⟨v0, us, how, ⟨hrep, huo⟩, hzs, hρ', hfp⟩ := h.objs id _ hg;rw [hρ] at hρ';have hp0 : qad9 v0 = some (b, c) := (Option.some.inj hρ').symm;obtain ⟨hl0, how2⟩ := how;rcases how2 with ⟨rfl, _⟩ | ⟨g, cap, cur, fz, rfl, hbl, hfz, hnc, hmx, hcs, htk⟩
       ·cases hp0
       ·cases hp0
        have hil : i < es.length := (List.getElem?_eq_some_iff.1 hz).1;have hroom : (i + 1) * size ≤ es.length * size := Nat.mul_le_mul_right _ hil;rw [Nat.add_mul, Nat.one_mul] at hroom;have hcap : es.length * size ≤ c * size := Nat.mul_le_mul_right _ hnc;refine ⟨_, _, fun o ho => .inr ⟨qasf hn hbl (hfz.imp (fun h => h) fun h => h.2) hv hl (by omega) hone o ho, rfl⟩, ?_⟩;refine OpOut.turn h hg ((hfp g).2 rfl) _ fun A' hp' => ⟨.slice (some ⟨g, 0, none⟩) es.length c, setV us (i * size + j) (a.eval y).cells.toList, ?_, ?_, ?_, hρ, hfp⟩
        ·rw [List.length_set];refine ⟨by rw [qage]; exact hl0, .inr ⟨g, c, _, fz, rfl, setRow_heap w g cur _ e fz hbl, by simpa [qage] using hfz, hnc, hmx, by simp [qage]; exact hcs, ?_⟩⟩;rw [← htk];exact qasi _ _ _ _
        ·rw [qbm0 hzs hz (by omega)];exact ⟨(hp'.reps hcr).setL (hp'.reps hrep) _, hone.setV huo _⟩
        ·intro q hq;rcases List.mem_or_eq_of_mem_set hq with hq | hq
         ·exact hzs q hq
         ·rw [hq, qakp]; exact hzs z (List.mem_of_getElem? hz)
     ·cases hr
    ·cases hr
   ·cases hr
  ·cases hr
theorem qa0e (h : SimH X ρ fp hp w) (hs : ∀ t, RepV w (Av X hp fp) ρ (gets sl t) (a.tmps.getD t undef)) {t e : TypeId} {i : TypeInfo} {z : List SV} {x y : Operand} {x' y' : SX} (ht : X.P.underlying t = some (.slice e)) (hz : qaim X.P e = some z) (hi : X.P.info? e = some i) (hpos : 0 < i.size) (hx : cx N x = some x') (hy : cx N y = some y')
  {g : Nat → Option SObj} {nx nx' : Nat} {v : SV} {u : Upd} (hm : X.m ≤ nx) (hf : ρ nx = none) (hr : (SOp.mkslice e i.size i.bytes z x' y').run (·.ev sl) g nx = some (v, u, nx')) : MOk X ρ fp hp w a (.makeSlice t x y) nx v u := by
 have rx := qaci hx hs;have ry := qaci hy hs;simp only [SOp.run] at hr;split at hr
 ·rename_i l c he he2;rw [he] at rx; rw [he2] at ry
  rw [qacw] at hr;obtain ⟨⟨h0, h1, h2, h3⟩, hr⟩ := hr;cases hr
  generalize hv : a.eval x = vx at rx;generalize hv2 : a.eval y = vy at ry;cases rx; cases ry
  obtain ⟨i', zv, hi', hzv, hzs, hzl, hzo, hzr⟩ := qafa hz;rw [hi] at hi'; cases hi'
  obtain ⟨l, rfl⟩ := Int.eq_ofNat_of_zero_le h0;obtain ⟨c, rfl⟩ := Int.eq_ofNat_of_zero_le (Int.le_trans h0 h1);have hmk := run_make (P := X.P) w t e i zv ht hi hzv .i64 .i64 (l : Int) (c : Int) h0 h1 (by rw [Int.mul_comm]; omega) (by simp [maxLen] at h2; omega);simp only [Int.toNat_natCast] at hmk ⊢;have hmc : madeCells zv.cells (c * i.size) = (List.replicate c zv.cells.toList).flatten.toArray := by
   unfold madeCells; rw [← hzs]; exact qa1q c (by rw [hzs]; exact hpos)
  have hlc : l ≤ c := by omega
  have hpre : ((List.replicate c zv.cells.toList).flatten).take (l * i.size) = (List.replicate l zv.cells.toList).flatten := by
   obtain ⟨d, rfl⟩ := Nat.exists_eq_add_of_le hlc;rw [List.replicate_append_replicate.symm, List.flatten_append, List.take_append_of_le_length (by simp [hzs]), List.take_of_length_le (by simp [hzs])]
  have := OpOut.row (X := X) (ρ := ρ) (fp := fp) (hp := hp) (w := w) h hm hf e i.size (es := List.replicate l z) (v' := .slice (some ⟨w.heap.size, 0, none⟩) l c) (vs := (List.replicate l zv.cells.toList).flatten) (al (rf w) (.cells (madeCells zv.cells (c * i.size)) e))
   (.of (b := 0) ⟨by simp [hzs], .inr ⟨w.heap.size, c, _, by simp, Nat.zero_le _, Blk.new _ _ _, by simpa using hlc, by omega, size_madeCells _ _, by rw [hmc]; simpa using hpre⟩⟩) (fun k hk => by simp [Value.ownBlock] at hk; omega) (fun q hq => by rw [(List.mem_replicate.1 hq).2, hzl]) (qafn (hzr (w := w) (A := Av X hp fp) (ρ := ρ)) l) (hzo.rep l)
  rw [List.length_replicate] at this;exact ⟨_, _, fun o ho => .inl (by simp only [execOp, ho, hv, hv2, Sem.run_bind, hmk, Result.andThen_ok, Sem.run_pure]), this⟩
 ·cases hr
theorem src_of (h : SimH X ρ fp hp w) {x : SV} {vx : Value} (rx : RepV w (Av X hp fp) ρ x vx) {size : Nat} {ys : List (List SV)} (hr : qac2 size (geth hp) x = some ys) (hpos : 0 < size) :
  ∃ b c news, vx = .slice b ys.length c ∧ (b = none → ys = [] ∧ c = 0) ∧ Reps w (Av X hp fp) ρ ys.flatten news ∧ Ones news ∧ (∀ q ∈ ys, q.length = size) ∧ ∀ ad, b = some ad → ∀ (j : Nat) u, news[j]? = some u → w.cell? (ad.add j) = some u := by
 unfold qac2 at hr;split at hr
 ·cases hr
  cases rx
  exact ⟨none, 0, [], rfl, fun _ => ⟨rfl, rfl⟩, Reps.nil, (fun v hv => by cases hv), (fun q hq => by cases hq), fun ad had => by cases had⟩
 ·cases hr
  cases rx
  exact ⟨some _, _, [], rfl, (fun e => by cases e), Reps.nil, (fun v hv => by cases hv), (fun q hq => by cases hq), fun _ _ j u hu => by simp at hu⟩
 ·rename_i size' es;split at hr;rotate_left
  ·cases hr
  rename_i hsz;subst hsz;cases hr
  cases rx with
  | view0 hc ha => exact ⟨_, _, [], rfl, fun e => ⟨rfl, ha e⟩, Reps.nil, (fun v hv => by cases hv), (fun q hq => by cases hq), fun _ _ j u hu => by simp at hu⟩
  | view cv hn hc hm hA hb hz h1 h2 ho =>
   rename_i b off n c;have hfl := qadu hz;have hdm : ∀ j, j / size * size + j % size = j := fun j => by rw [Nat.mul_comm]; exact Nat.div_add_mod j size
   have get : ∀ j, j < ys.length * size → ∃ e x, ys[j / size]? = some e ∧ e[j % size]? = some x ∧ ys.flatten[j]? = some x := fun j hj => by
    have hi : j / size < ys.length := (Nat.div_lt_iff_lt_mul hpos).2 hj;have hk : j % size < (ys[j / size]).length := by rw [hz _ (List.getElem_mem _)]; exact Nat.mod_lt _ hpos
    refine ⟨ys[j / size], (ys[j / size])[j % size], List.getElem?_eq_getElem hi, List.getElem?_eq_getElem hk, ?_⟩;have := qah9 hz (List.getElem?_eq_getElem hi) (List.getElem?_eq_getElem hk);rwa [hdm j] at this
   have gl : ∀ (j : Nat) u, ((List.range (ys.length * size)).map fun k => cv (k / size) (k % size))[j]? = some u → j < ys.length * size ∧ u = cv (j / size) (j % size) := fun j u hu => by
    simp only [List.getElem?_map, Option.map_eq_some_iff] at hu;obtain ⟨k, hk, rfl⟩ := hu;obtain ⟨h3, h4⟩ := List.getElem?_eq_some_iff.1 hk;simp at h3 h4; subst h4; exact ⟨h3, rfl⟩
   refine ⟨_, c, (List.range (ys.length * size)).map fun k => cv (k / size) (k % size), by rw [hn], fun e => (by cases e), ⟨by simp [hfl], fun j x u hx hu => ?_⟩, fun u hu => ?_, hz, fun ad had j u hu => ?_⟩
   ·obtain ⟨hj, rfl⟩ := gl j u hu;obtain ⟨e, x', he, hx', hf⟩ := get j hj;rw [hx] at hf; cases hf
    exact (h2 _ _ _ _ he hx').lift
   ·obtain ⟨j, hj⟩ := List.getElem?_of_mem hu;obtain ⟨hj2, rfl⟩ := gl j u hj;obtain ⟨e, x', he, hx', hf⟩ := get j hj2;exact ho _ _ _ _ he hx'
   ·cases had
    obtain ⟨hj, rfl⟩ := gl j u hu;obtain ⟨e, x', he, hx', hf⟩ := get j hj;have := h1 _ _ _ _ he hx';rwa [Nat.add_assoc, hdm j, ← qaeh] at this
 ·rename_i id n;split at hr
  ·rename_i e' size' es hg;split at hr;rotate_left
   ·cases hr
   rename_i hsz;subst hsz;rw [qacw] at hr;obtain ⟨hle, hr⟩ := hr;cases hr
   obtain ⟨v0, us, how, ⟨hrep, huo⟩, hzs, hρ', hfp⟩ := h.objs id _ hg;have hfl := qadu hzs;cases rx with
   | own0 hρ =>
    exact ⟨none, 0, [], by simp, (fun _ => by simp), by simpa using Reps.nil, (fun v hv => by cases hv), (fun q hq => by simp at hq), fun ad had => by cases had⟩
   | own hρ hn hm =>
    rename_i b c;rw [hρ] at hρ';have hp0 : qad9 v0 = some (b, c) := (Option.some.inj hρ').symm;obtain ⟨hv0, hcell, hlt, hnc, hmx⟩ := qaez how hp0;have htf : (es.take n).flatten = es.flatten.take (n * size) := by
     have h1 : es.flatten = (es.take n).flatten ++ (es.drop n).flatten := by rw [← List.flatten_append, List.take_append_drop]
     have h2 : (es.take n).flatten.length = n * size := by rw [qadu (fun e he => hzs e (List.mem_of_mem_take he))]; simp; rw [Nat.min_eq_left hle]
     rw [h1, ← h2, List.take_left]
    refine ⟨some ⟨b, 0, none⟩, c, us.take (n * size), by simp [Nat.min_eq_left hle], fun e => (by cases e), ?_, fun v hv => huo v (List.mem_of_mem_take hv), fun q hq => hzs q (List.mem_of_mem_take hq), fun ad had j u hu => ?_⟩
    ·rw [htf];have := hrep.sub 0 (n * size);simpa using this
    ·cases had
     rw [qaeh, Nat.zero_add];rw [List.getElem?_take] at hu;split at hu
     ·exact hcell j u hu
     ·cases hu
  ·cases hr
 ·rename_i id size' off n;split at hr
  ·rename_i e' size'' es hg;split at hr;rotate_left
   ·cases hr
   rename_i hsz;obtain ⟨rfl, rfl⟩ := hsz;rw [qacw] at hr;obtain ⟨hle, hr⟩ := hr;cases hr
   obtain ⟨v0, us, how, ⟨hrep, huo⟩, hzs, hρ', hfp⟩ := h.objs id _ hg;have hfl := qadu hzs;cases rx with
   | owno hρ hn hm =>
    rename_i b c;rw [hρ] at hρ';have hp0 : qad9 v0 = some (b, c) := (Option.some.inj hρ').symm;obtain ⟨hv0, hcell, hlt, hnc, hmx⟩ := qaez how hp0;have htd : (es.drop off).flatten = es.flatten.drop (off * size) := by
     have h1 : es.flatten = (es.take off).flatten ++ (es.drop off).flatten := by rw [← List.flatten_append, List.take_append_drop]
     have h2 : (es.take off).flatten.length = off * size := by rw [qadu (fun e he => hzs e (List.mem_of_mem_take he))]; simp; rw [Nat.min_eq_left (by omega)]
     rw [h1, ← h2, List.drop_left]
    have htf : ((es.drop off).take n).flatten = (es.flatten.drop (off * size)).take (n * size) := by
     rw [← htd];have h1 : (es.drop off).flatten = ((es.drop off).take n).flatten ++ ((es.drop off).drop n).flatten := by rw [← List.flatten_append, List.take_append_drop]
     have h2 : ((es.drop off).take n).flatten.length = n * size := by rw [qadu (fun e he => hzs e (List.mem_of_mem_drop (List.mem_of_mem_take he)))]; simp; rw [Nat.min_eq_left (by omega)]
     rw [h1, ← h2, List.take_left]
    refine ⟨some ⟨b, off * size, none⟩, c - off, (us.drop (off * size)).take (n * size), by rw [List.length_take, List.length_drop, Nat.min_eq_left (by omega)], fun e => (by cases e), ?_, fun v hv => huo v (List.mem_of_mem_drop (List.mem_of_mem_take hv)), fun q hq => hzs q (List.mem_of_mem_drop (List.mem_of_mem_take hq)), fun ad had j u hu => ?_⟩
    ·rw [htf];exact hrep.sub (off * size) (n * size)
    ·cases had
     rw [qaeh];rw [List.getElem?_take] at hu;split at hu
     ·rw [List.getElem?_drop] at hu;exact hcell _ u hu
     ·cases hu
  ·cases hr
 ·cases hr
theorem qakc : ∀ {ys : List (List SV)} {xs : List Int}, qat9 ys = some xs → ys.length = xs.length ∧ ys.flatten = xs.map (SV.int .u8)
 | [], xs, h => by cases h; exact ⟨rfl, rfl⟩
 | [.int .u8 n] :: r, xs, h => by
  simp only [qat9, Option.map_eq_some_iff] at h;obtain ⟨xs', h1, rfl⟩ := h;obtain ⟨h2, h3⟩ := qakc h1;exact ⟨by simp [h2], by simp [h3]⟩
theorem ok_b2s (h : SimH X ρ fp hp w) (hs : ∀ t, RepV w (Av X hp fp) ρ (gets sl t) (a.tmps.getD t undef)) {src dst e : TypeId} {x : Operand} {x' : SX} (hx : cx N x = some x') (h1 : X.P.underlying src = some (.slice e)) (he : X.P.underlying e = some (.int .u8)) (h2 : X.P.underlying dst = some .string) {nx nx' : Nat} {v : SV} {u : Upd}
  (hr : (SOp.b2s x').run (·.ev sl) (geth hp) nx = some (v, u, nx')) : u = [] ∧ POk X.P w (Av X hp fp) ρ a (.convert src dst x) v := by
 have rx := qaci hx hs;simp only [SOp.run] at hr;split at hr
 ·rename_i ys hys;simp only [Option.map_eq_some_iff] at hr;obtain ⟨xs, hxs, hr⟩ := hr;cases hr
  obtain ⟨b, c, news, hvx, hnone, hnr, hno, hyz, hcell⟩ := src_of h rx hys (by decide);obtain ⟨hl, hf⟩ := qakc hxs;have hnews : news = xs.map (Value.int .u8) := by
   rw [hf] at hnr;refine List.ext_getElem? fun j => ?_
   rw [List.getElem?_map];cases e : xs[j]? with
   | none =>
    have : xs.length ≤ j := by simpa using e
    have h3 := hnr.1;rw [List.length_map] at h3;simp; omega
   | some n =>
    obtain ⟨u, h4, h5⟩ := hnr.get (j := j) (x := .int .u8 n) (by rw [List.getElem?_map, e]; rfl);cases h5
    exact h4
  refine ⟨rfl, .string (strOfNums xs), fun o ho => ?_, .str⟩;have hc : (convert src dst (a.eval x)).run X.P w = .ok (.string (strOfNums xs)) w := by
   rw [hvx];cases b with
   | none =>
    obtain ⟨rfl, -⟩ := hnone rfl;obtain rfl : xs = [] := List.eq_nil_of_length_eq_zero (by simpa using hl.symm);exact run_convert_bytes_nil w src e h1 he _ _ dst h2
   | some ad =>
    rw [run_convert_bytes_string w src dst e _ _ c h1 he h2];have h6 : (loadCells ad ys.length).run X.P w = .ok (xs.map (Value.int .u8)).toArray w := by
     have := run_loadCells_list (P := X.P) (w := w) ad news (hcell ad rfl);rw [hnews, List.length_map, ← hl] at this;exact this
    rw [run_bytesToString w ad ys.length c xs h6, foldl_push_bytes];simp [strOfNums, ByteArray.empty, ByteArray.emptyWithCapacity];try rfl
  simp only [execOp, ho, Sem.run_bind, hc];rfl
 ·cases hr
theorem qau7 (w : World) {b : Nat} {cur : Array Value} {e : TypeId} {fz : Nat × Nat} (hb : w.heap[b]? = some (.cells cur e fz)) (hz : fz = (0, 0) ∨ fz = (cur.size, cur.size + 1)) : (w.freeze ⟨b, cur.size, none⟩ 1).heap[b]? = some (.cells cur e (cur.size, cur.size + 1)) := by
 unfold World.freeze;rw [if_neg (by decide)];simp only [Array.getElem?_modify, if_true, hb, Option.map_some];rcases hz with rfl | rfl
 ·simp
 ·simp
theorem qard (w : World) {b k n : Nat} {a : Option _} (h : k ≠ b) : (w.freeze ⟨b, n, a⟩ 1).heap[k]? = w.heap[k]? := by
 unfold World.freeze;rw [if_neg (by decide)];simp only [Array.getElem?_modify, if_neg (Ne.symm h)]
theorem qak1 (w : World) (a : Addr) : (w.freeze a 1).heap.size = w.heap.size := by
 unfold World.freeze;rw [if_neg (by decide)];simp
theorem ok_b2b (h : SimH X ρ fp hp w) (hs : ∀ t, RepV w (Av X hp fp) ρ (gets sl t) (a.tmps.getD t undef)) {t e : TypeId} {x : Operand} {x' : SX} (hx : cx N x = some x') (ht : X.P.underlying t = some (.slice e)) (he : X.P.underlying e = some (.int .u8)) {nx nx' : Nat} {v : SV} {u : Upd}
  (hr : (SOp.b2b x').run (·.ev sl) (geth hp) nx = some (v, u, nx')) : MOk X ρ fp hp w a (.convert t t x) nx v u := by
 have rx := qaci hx hs;simp only [SOp.run] at hr;split at hr
 ·rename_i id n hev;rw [hev] at rx;split at hr
  ·rename_i e' size es hg;split at hr
   ·rename_i hc;obtain ⟨rfl, hn0⟩ := hc;cases hr
    obtain ⟨v0, us, how, ⟨hrep, huo⟩, hzs, hρ', hfp⟩ := h.objs id _ hg;generalize hv : a.eval x = vx at rx;cases rx with
    | own0 => omega
    | own hρ hnc hm =>
     rename_i b c;rw [hρ] at hρ';have hp0 : qad9 v0 = some (b, c) := (Option.some.inj hρ').symm;obtain ⟨hl0, how2⟩ := how;rcases how2 with ⟨rfl, _⟩ | ⟨g, cap, cur, fz, rfl, hbl, hfz, hnc2, hmx, hcs, htk⟩
     ·cases hp0
     ·cases hp0
      have hfz' : fz = (0, 0) ∨ fz = (cur.size, cur.size + 1) := hfz.imp (fun h => h) fun h => h.2
      have hsh : w.shape? g = some (e', cur.size) := by unfold World.shape?; rw [hbl]
      refine ⟨.slice (some ⟨g, 0, none⟩) n c, w.freeze ⟨g, cur.size, none⟩ 1, fun o ho => .inl ?_, ?_⟩
      ·have hc : (convert t t (a.eval x)).run X.P w = .ok (.slice (some ⟨g, 0, none⟩) n c) (w.freeze ⟨g, cur.size, none⟩ 1) := by
        rw [hv];simp [convert, run_underlying ht, run_underlying he, markStringish, hsh]
       simp only [execOp, ho, Sem.run_bind, hc];rfl
      ·have hst : Step (fun k => k = g) w (w.freeze ⟨g, cur.size, none⟩ 1) := ⟨by unfold World.freeze; rw [if_neg (by decide)], by unfold World.freeze; rw [if_neg (by decide)], by unfold World.freeze; rw [if_neg (by decide)], by rw [qak1]; exact Nat.le_refl _, fun k _ hk => qard w hk⟩
       obtain ⟨h1, h2⟩ := h.change (hp' := puth hp id (.row e' 1 es)) (ρ' := ρ) (fp' := fp) (S := fun k => k = g) (fun j => j = id) (fun j => j = id) hst (fun k hk => ⟨id, _, hg, by rw [show k = g from hk]; exact (hfp g).2 rfl, rfl⟩)
        (fun j oj hgj hne => ⟨by rw [qacx, if_neg hne] at hgj; exact hgj, hne, rfl⟩) (fun _ _ h => h) (fun _ _ => rfl)
        (fun j oj hj _ k hk => by subst hj; exact ⟨.inl ⟨j, _, hg, hk, rfl⟩, by have := (h.turn j _ hg k hk).2; rw [qak1]; exact this⟩)
        (fun i j _ _ hi hj hne => absurd (hi.trans hj.symm) hne)
        (fun hpres j oj hj hgj => by
         subst hj;rw [qacx, if_pos rfl] at hgj;cases hgj
         exact ⟨.slice (some ⟨g, 0, none⟩) es.length c, us, ⟨hl0, .inr ⟨g, c, cur, _, rfl, qau7 w hbl hfz', .inr ⟨rfl, rfl⟩, hnc2, hmx, hcs, htk⟩⟩, ⟨hpres.reps hrep, huo⟩, hzs, hρ, hfp⟩)
       exact ⟨ρ, fp, h1, .own hρ hnc hm, h2, fun j hj => .inl hj⟩
   ·cases hr
  ·cases hr
 ·cases hr
theorem ok_app (h : SimH X ρ fp hp w) (hs : ∀ t, RepV w (Av X hp fp) ρ (gets sl t) (a.tmps.getD t undef)) {t e : TypeId} {i : TypeInfo} {z : List SV} {s x : Operand} {s' x' : SX} (ht : X.P.underlying t = some (.slice e)) (hz : qaim X.P e = some z) (hi : X.P.info? e = some i) (hpos : 0 < i.size) (hss : cx N s = some s') (hx : cx N x = some x')
  {nx nx' : Nat} {v : SV} {u : Upd} (hm : X.m ≤ nx) (hf : ρ nx = none) (hr : (SOp.app e i.size i.bytes s' x').run (·.ev sl) (geth hp) nx = some (v, u, nx')) : MOk X ρ fp hp w a (.call { callee := .builtin .append, args := #[s, x], argTypes := #[t, t] }) nx v u := by
 have rs := qaci hss hs;have rx := qaci hx hs;obtain ⟨i', zv, hi', hzv, hzs, hzl, hzo, hzr⟩ := qafa hz;rw [hi] at hi'; cases hi'
 simp only [SOp.run] at hr;split at hr
 ·cases hr
 ·rename_i ys hys;obtain ⟨b, c, news, hvx, hnone, hnr, hno, hyz, hcell⟩ := src_of h rx hys hpos;have hnl : news.length = ys.length * i.size := by rw [← hnr.1, qadu hyz]
  have run : ∀ (v0 : Value) (n : Nat) (vs : List Value), RowP w e i.size v0 n vs → (n + ys.length ≤ maxLen ∧ (n + ys.length) * i.bytes ≤ 140737488355328) → a.eval s = v0 →
    ∃ v' w', (∀ o : Oper, o.op = .call { callee := .builtin .append, args := #[s, x], argTypes := #[t, t] } → (execOp a.eval o).run X.P w = .ok (.value v') w') ∧ RowP w' e i.size v' (n + ys.length) (vs ++ news) ∧ w.grownBy w' v0.ownBlock ∧ (v'.ownBlock = v0.ownBlock ∨ ∀ k, v'.ownBlock = some k → w.heap.size ≤ k) := by
   intro v0 n vs how hb hv0;have hcase : w.ownsRow 0 e i.size v0 n vs ∨ ∃ g cap cur, i.size = 1 ∧ v0 = .slice (some ⟨g, 0, none⟩) n cap ∧ w.heap[g]? = some (.cells cur e (cur.size, cur.size + 1)) ∧ n ≤ cap ∧ cap ≤ maxLen ∧ cur.size = cap * i.size ∧ cur.toList.take (n * i.size) = vs := by
    rcases how.2 with h2 | ⟨g, cap, cur, fz, h2, h3, h4, h5, h6, h7, h8⟩
    ·exact .inl ⟨how.1, .inl h2⟩
    ·rcases h4 with rfl | ⟨h4, rfl⟩
     ·exact .inl ⟨how.1, .inr ⟨g, cap, cur, h2, Nat.zero_le _, h3, h5, h6, h7, h8⟩⟩
     ·exact .inr ⟨g, cap, cur, h4, h2, h3, h5, h6, h7, h8⟩
   rcases hcase with how0 | ⟨g, cap, cur, hs1, rfl, hh, hnc, hmx, hcs, htk⟩
   ·cases b with
    | none =>
     obtain ⟨hy0, hc0⟩ := hnone rfl;subst hy0 hc0;have hn0 : news = [] := List.eq_nil_of_length_eq_zero (by simpa using hnl);subst hn0;refine ⟨v0, w, fun o ho => ?_, by simpa using how, World.grownBy.refl _ _, .inl rfl⟩;have := run_append_owned_none (P := X.P) (w := w) 0 t o.type e i i.size ht hi v0 n vs how0;simp only [List.length_nil] at hvx;simp [execOp, ho, resolve, invoke, builtin, hv0, hvx, this]
    | some ad =>
     have hrun := fun ty => run_append_own_at (P := X.P) w 0 t ty e i zv i.size i.bytes ht hi hzv rfl rfl hzs hpos v0 n vs how0 ad ys.length c news hnl (hcell ad rfl) hno hb.1 hb.2 (Nat.zero_le _)
     obtain ⟨v', w', h1, h2, h3, _, h5⟩ := hrun 0;refine ⟨v', w', fun o ho => ?_, .of h2, h3, h5.imp (fun h => h) fun h k hk => by rw [hk] at h; cases h; exact Nat.le_refl _⟩;have : (Builtin.append_ #[t, t] o.type #[v0, .slice (some ad) ys.length c]).run X.P w = .ok v' w' := h1;simp [execOp, ho, resolve, invoke, builtin, hv0, hvx, this]
   ·have hroomE : ∀ ty, n + ys.length ≤ cap → (Builtin.append_ #[t, t] ty #[.slice (some ⟨g, 0, none⟩) n cap, .slice b ys.length c]).run X.P w = .ok (.slice (some ⟨g, 0, none⟩) (n + ys.length) cap) (w.setRow g (cur.toList.take (n * i.size) ++ news ++ cur.toList.drop (n * i.size + news.length)).toArray) := by
     intro ty hroom;have hst := qaed (P := X.P) g (n * i.size) e news 0 cur _ w hh (.inr rfl) (by rw [hnl, hcs, Nat.add_zero, ← Nat.add_mul]; exact Nat.mul_le_mul_right _ hroom) hno;rw [Nat.add_zero] at hst;have hfc : (Builtin.firstCells i.size ys.length (.slice b ys.length c)).run X.P w = .ok news.toArray w := by
      cases b with
      | none =>
       obtain ⟨hy0, hc0⟩ := hnone rfl;subst hy0 hc0;have hn0 : news = [] := List.eq_nil_of_length_eq_zero (by simpa using hnl);subst hn0;rfl
      | some ad => exact run_firstCells_some (P := X.P) w i.size ys.length ad ys.length c news hnl (hcell ad rfl)
     simp [Builtin.append_, run_underlying ht, sizeOf, typeInfo, hi, Builtin.lenOf, hroom, hfc, Addr.add_lit, hst]
    by_cases hroom : n + ys.length ≤ cap
    ·have hl1 : (cur.toList.take (n * i.size)).length = n * i.size := by rw [htk]; exact how.1
     have hle : (n + ys.length) * i.size ≤ cur.size := by rw [hcs]; exact Nat.mul_le_mul_right _ hroom
     rw [Nat.add_mul, ← hnl] at hle;have hsz : (cur.toList.take (n * i.size) ++ news ++ cur.toList.drop (n * i.size + news.length)).toArray.size = cur.size := by
      simp only [List.size_toArray, List.length_append, hl1, List.length_drop, Array.length_toList]; omega
     refine ⟨_, _, fun o ho => ?_, ⟨by rw [List.length_append, how.1, hnl, Nat.add_mul], .inr ⟨g, cap, _, _, rfl, setRow_heap w g cur _ e _ hh, .inr ⟨hs1, by rw [hsz]⟩, hroom, hmx, by rw [hsz]; exact hcs, ?_⟩⟩, ⟨rfl, rfl, rfl, by simp, fun k hk hne => setRow_other w g k _ fun e => hne (by rw [e]; rfl)⟩, .inl rfl⟩
     ·have := hroomE o.type hroom;simp [execOp, ho, resolve, invoke, builtin, hv0, hvx, this]
     ·rw [List.toList_toArray, Nat.add_mul, ← hnl, List.take_append_of_le_length (by rw [List.length_append, hl1]; exact Nat.le_refl _), List.take_of_length_le (by rw [List.length_append, hl1]; exact Nat.le_refl _), htk]
    ·cases b with
     | none =>
      obtain ⟨hy0, hc0⟩ := hnone rfl;subst hy0 hc0;exact absurd hnc (by simpa using hroom)
     | some ad =>
      have hcl := (qaez how rfl).2.1;obtain ⟨v', w', h1, h2, h3⟩ := run_append_arg_grows (P := X.P) w t 0 e i zv i.size i.bytes ht hi hzv rfl rfl hzs hpos ⟨g, 0, none⟩ n cap vs how.1 (fun j u hu => by rw [qaeh, Nat.zero_add]; exact hcl j u hu) ad ys.length c news hnl (hcell ad rfl) (by omega) hb.1 hb.2;refine ⟨v', w', fun o ho => ?_, .of h2, ⟨h3.os, h3.tape, h3.output, h3.size, fun k hk _ => h3.block k hk (by simp)⟩, .inr fun k hk => (h2.lt k hk).1⟩;have : (Builtin.append_ #[t, t] o.type #[.slice (some ⟨g, 0, none⟩) n cap, .slice (some ad) ys.length c]).run X.P w = .ok v' w' := h1;simp [execOp, ho, resolve, invoke, builtin, hv0, hvx, this]
  split at hr
  ·rename_i he;rw [he] at rs;rw [qacw] at hr;obtain ⟨hb, hr⟩ := hr;cases hr
   generalize hv : a.eval s = vs at rs;cases rs
   obtain ⟨v', w', h1, h2, h3, h5⟩ := run _ 0 [] (RowP.nil _ _ _) (by simpa using hb) hv;rw [Nat.zero_add, List.nil_append] at h2;refine ⟨v', w', fun o ho => .inl (h1 o ho), ?_⟩;refine OpOut.row h hm hf e i.size ⟨h3.os, h3.tape, h3.output, h3.size, fun k hk => h3.block k hk (by simp [Value.ownBlock])⟩ h2 (fun k hk => ?_) hyz hnr hno;rcases h5 with h5 | h5
   ·rw [hk] at h5; simp [Value.ownBlock] at h5
   ·exact h5 k hk
  ·rename_i id n he;rw [he] at rs;split at hr
   ·rename_i e' size' es hg
    have key : e = e' → i.size = size' → ∀ (es1 : List (List SV)) (v0 : Value) (us : List Value), RowP w e i.size v0 es1.length us → Reps w (Av X hp fp) ρ es1.flatten us → Ones us → (∀ x ∈ es1, x.length = i.size) → ρ id = some (qad9 v0) → (∀ k, fp id k ↔ v0.ownBlock = some k) → a.eval s = v0 → (es1.length + ys.length ≤ maxLen ∧ (es1.length + ys.length) * i.bytes ≤ 140737488355328) →
      MOk X ρ fp hp w a (.call { callee := .builtin .append, args := #[s, x], argTypes := #[t, t] }) nx (.own nx (es1.length + ys.length)) [(id, none), (nx, some (.row e i.size (es1 ++ ys)))] := by
      rintro rfl rfl es1 v0 us how hrep huo hzs' hρ' hfp hv0 hb;obtain ⟨v', w', h1, h2, h3, h5⟩ := run v0 es1.length us how hb hv0;refine ⟨v', w', fun o ho => .inl (h1 o ho), ?_⟩;have hne : id ≠ nx := fun e => by subst e; rw [hf] at hρ'; cases hρ'
      have hfz : ∀ q ∈ es1 ++ ys, q.length = i.size := fun q hq => (List.mem_append.1 hq).elim (hzs' q) (hyz q)
      obtain ⟨q1, q2⟩ := h.change (hp' := puth (delh hp id) nx (.row e i.size (es1 ++ ys))) (ρ' := fun j => if j = nx then some (qad9 v') else ρ j) (fp' := fun j => if j = nx then fun k => v'.ownBlock = some k else fp j) (S := fun k => v0.ownBlock = some k) (fun j => j = id) (fun j => j = nx)
       (.grown h3 fun k hk => hk) (fun k hk => ⟨id, _, hg, (hfp k).2 hk, rfl⟩)
       (fun j oj hgj hj => by
        rw [qacx, if_neg hj, qai2] at hgj;split at hgj
        ·cases hgj
        ·rename_i hji; exact ⟨hgj, hji, by simp [hj]⟩)
       (fun j q hq => by have hj : j ≠ nx := fun e => by rw [e, hf] at hq; cases hq
                         simp [hj, hq])
       (fun j hj => by have : j ≠ nx := by omega
                       simp [this])
       (fun j oj hj _ k hk => by
        subst hj;simp only [if_true] at hk;refine ⟨?_, (h2.lt k hk).2⟩;rcases h5 with h5 | h5
        ·exact .inl ⟨id, _, hg, (hfp k).2 (by rw [← h5]; exact hk), rfl⟩
        ·exact .inr (h5 k hk))
       (fun j k _ _ hj hk hjk => absurd (hj.trans hk.symm) hjk)
       (fun hpres j oj hj hgj => by
        subst hj;rw [qacx, if_pos rfl] at hgj;cases hgj
        simp only [if_true];refine ⟨v', us ++ news, by rw [List.length_append]; exact h2, ⟨?_, fun q hq => (List.mem_append.1 hq).elim (huo q) (hno q)⟩, hfz, by simp, fun k => Iff.rfl⟩;rw [List.flatten_append];exact (hpres.reps hrep).append (hpres.reps hnr))
      refine ⟨_, _, q1, ?_, q2, fun j hj => ?_⟩
      ·have hl2 : (es1 ++ ys).length = es1.length + ys.length := List.length_append;rw [← hl2] at h2 ⊢;rcases h2.2 with ⟨rfl, hn⟩ | ⟨g, cap, cur, fz, rfl, _, _, hn, hmx, _⟩
       ·rw [hn]; exact .own0 (by simp [qad9])
       ·exact .own (by simp [qad9]) hn hmx
      ·by_cases hjn : j = nx
       ·exact .inr hjn
       ·simp only [if_neg hjn] at hj; exact .inl hj
    split at hr
    ·rename_i hc;obtain ⟨rfl, rfl, rfl⟩ := hc;rw [qacw] at hr;obtain ⟨hb, hr⟩ := hr;cases hr
     obtain ⟨v0, us, how, ⟨hrep, huo⟩, hzs', hρ', hfp⟩ := h.objs id _ hg;have hv0 : a.eval s = v0 := by
      generalize a.eval s = vs at rs;rcases how.2 with ⟨rfl, hn0⟩ | ⟨g, cap, cur, fz, rfl, _⟩
      ·generalize hes : es.length = m at rs;cases rs with
       | own0 hρ => rfl
       | own hρ => rw [hρ] at hρ'; cases hρ'
      ·generalize hes : es.length = m at rs;cases rs with
       | own0 hρ => rw [hρ] at hρ'; cases hρ'
       | own hρ => rw [hρ] at hρ'; cases hρ'; rfl
     exact key rfl rfl es v0 us how hrep huo hzs' hρ' hfp hv0 hb
    ·split at hr
     ·rename_i hc;obtain ⟨rfl, rfl, hlt⟩ := hc;rw [qacw] at hr;obtain ⟨hb, hr⟩ := hr;cases hr
      obtain ⟨v0, us, how, ⟨hrep, huo⟩, hzs', hρ', hfp⟩ := h.objs id _ hg;obtain ⟨hlen, hsh⟩ := how;rcases hsh with ⟨rfl, hn0⟩ | ⟨g, cap, cur, fz, rfl, hgg, hfz, hnc, hmx, hcs, htk⟩
      ·omega
      ·have hv0 : a.eval s = .slice (some ⟨g, 0, none⟩) n cap := by
        generalize a.eval s = vs at rs;cases rs with
        | own0 hρ => rw [hρ] at hρ'; cases hρ'
        | own hρ => rw [hρ] at hρ'; cases hρ'; rfl
       have hl1 : (es.take n).length = n := by rw [List.length_take]; omega
       have htf : (es.take n).flatten = es.flatten.take (n * i.size) := by
        have h1 : es.flatten = (es.take n).flatten ++ (es.drop n).flatten := by rw [← List.flatten_append, List.take_append_drop]
        have h2 : (es.take n).flatten.length = n * i.size := by rw [qadu (fun e he => hzs' e (List.mem_of_mem_take he)), hl1]
        rw [h1, ← h2, List.take_left]
       have hmul : n * i.size ≤ es.length * i.size := Nat.mul_le_mul_right _ (Nat.le_of_lt hlt);have k1 := key rfl rfl (es.take n) (.slice (some ⟨g, 0, none⟩) n cap) (us.take (n * i.size)) ?_ ?_ (fun u hu => huo u (List.mem_of_mem_take hu)) (fun q hq => hzs' q (List.mem_of_mem_take hq)) hρ' hfp hv0 (by rw [hl1]; exact hb)
       ·rw [hl1] at k1; exact k1
       ·rw [hl1];refine ⟨by rw [List.length_take, hlen]; omega, .inr ⟨g, cap, cur, fz, rfl, hgg, hfz, by omega, hmx, hcs, ?_⟩⟩;rw [← htk, List.take_take, Nat.min_eq_left hmul]
       ·rw [htf];have := hrep.sub 0 (n * i.size);simpa using this
     ·cases hr
   ·cases hr
  ·cases hr
end
section
variable {X : Cx} {ρ : qact} {fp : Nat → Nat → Prop} {hp : Hp} {w : World} {N : Nat} {a : Act} {sl : Sl}
theorem bi_ok (h : SimH X ρ fp hp w) (hs : ∀ t, RepV w (Av X hp fp) ρ (gets sl t) (a.tmps.getD t undef)) {b : Builtin} {args : Array Operand} {tys : Array TypeId} {so : SOp} (hc : cbi X.P N b args.toList tys.toList = some so) {nx nx' : Nat} {v : SV} {u : Upd} (hm : X.m ≤ nx) (hf : ρ nx = none)
  (hr : so.run (·.ev sl) (geth hp) nx = some (v, u, nx')) : MOk X ρ fp hp w a (.call { callee := .builtin b, args, argTypes := tys }) nx v u := by
 obtain ⟨args⟩ := args;obtain ⟨tys⟩ := tys;simp only at hc;have pk : ∀ {op : Op} {v : SV} {u : Upd}, (u = [] ∧ POk X.P w (Av X hp fp) ρ a op v) → MOk X ρ fp hp w a op nx v u := by
  rintro op v u ⟨rfl, h1⟩; exact h1.mok h
 unfold cbi at hc;split at hc <;> (try simp only [Option.bind_eq_bind, Option.bind_eq_some_iff, Option.some.injEq, reduceCtorEq] at hc)
 ·split at hc
  ·rename_i ht;simp only [Option.bind_eq_some_iff, Option.some.injEq] at hc;obtain ⟨x, hx, rfl⟩ := hc;exact pk (ok_len hs hx (.inl ht) (by simp [ht]) hr)
  ·rename_i e ht;simp only [Option.bind_eq_some_iff, Option.some.injEq] at hc;obtain ⟨x, hx, rfl⟩ := hc;exact pk (ok_len hs hx (.inr ⟨_, ht⟩) (by simp [ht]) hr)
  ·rename_i n e ht;simp only [Option.some.injEq] at hc;subst hc;simp only [SOp.run] at hr; cases hr
   refine pk ⟨rfl, _, fun o ho => ?_, .int⟩;simp [execOp, ho, resolve, invoke, builtin, Builtin.len_, run_underlying ht, goInt]
  ·cases hc
 ·split at hc
  ·rename_i e ht;simp only [Option.bind_eq_some_iff] at hc;obtain ⟨i, hi, z, hz, hc⟩ := hc;split at hc
   ·rename_i hcc;obtain ⟨rfl, hpos⟩ := hcc;simp only [Option.bind_eq_some_iff, Option.some.injEq] at hc;obtain ⟨s, hss, x, hx, rfl⟩ := hc;exact ok_app h hs ht hz hi hpos hss hx hm hf hr
   ·cases hc
  ·cases hc
 ·obtain ⟨x, hx, y, hy, rfl⟩ := hc;exact pk (ok_mm (mx := false) hs hx hy hr)
 ·obtain ⟨x, hx, y, hy, rfl⟩ := hc;exact pk (ok_mm (mx := true) hs hx hy hr)
theorem op_ok (h : SimH X ρ fp hp w) (hs : ∀ t, RepV w (Av X hp fp) ρ (gets sl t) (a.tmps.getD t undef)) {ty : TypeId} {op : Op} {so : SOp} (hc : cop X.P N ty op = some so) {nx nx' : Nat} {v : SV} {u : Upd} (hm : X.m ≤ nx) (hf : ρ nx = none)
  (hr : so.run (·.ev sl) (geth hp) nx = some (v, u, nx')) : MOk X ρ fp hp w a op nx v u := by
 have hobj : ∀ id o, geth hp id = some o → ∃ fp', ObjRep w (Av X hp fp) ρ id fp' o := fun id o ho => ⟨_, h.objs id o ho⟩
 have pk : ∀ {v : SV} {u : Upd}, (u = [] ∧ POk X.P w (Av X hp fp) ρ a op v) → MOk X ρ fp hp w a op nx v u := by
  rintro v u ⟨rfl, h1⟩; exact h1.mok h
 unfold cop at hc;split at hc <;> (try simp only [Option.bind_eq_bind, Option.bind_eq_some_iff, Option.some.injEq, reduceCtorEq] at hc)
 ·obtain ⟨y, hy, rfl⟩ := hc;simp only [SOp.run] at hr; cases hr
  exact pk ⟨rfl, (ok_mv hs hy).1⟩
 ·obtain ⟨y, hy, rfl⟩ := hc;simp only [SOp.run] at hr; cases hr
  exact pk ⟨rfl, (ok_mv hs hy).2⟩
 ·obtain ⟨c, h1, x, h2, y, h3, rfl⟩ := hc;exact pk (ok_pick hs h1 h2 h3 hr)
 ·obtain ⟨z, hz, rfl⟩ := hc;exact qbmh h hz hm hf hr
 ·obtain ⟨x, hx, rfl⟩ := hc;exact ok_box h hs hx hm hf hr
 ·obtain ⟨z, hz, pl, hpl, q, hq, rfl⟩ := hc;exact pk (qbmg hs hz hpl hq hr)
 ·split at hc
  ·rename_i e ht;simp only [Option.bind_eq_bind, Option.bind_eq_some_iff, Option.some.injEq] at hc;obtain ⟨z, hz, q, hq, size, hsz, hc⟩ := hc;split at hc
   ·cases hc
    exact qbmb h hs ht hz hsz hq ‹_› hm hf hr
   ·cases hc
  ·cases hc
 ·obtain ⟨x, hx, b, hb, hc⟩ := hc;cases b with
  | true =>
   simp only [if_true, Option.bind_eq_some_iff, Option.some.injEq] at hc;obtain ⟨n, hn, rfl⟩ := hc;exact pk (qa0f hs hobj hx hb hn hr)
  | false =>
   simp only [Bool.false_eq_true, if_false, Option.some.injEq] at hc;subst hc;exact pk (qbjf hs hobj hx hb hr)
 ·obtain ⟨n, hn, x, hx, y, hy, rfl⟩ := hc;exact qbl8 h hs hx hy hn hr
 ·obtain ⟨x, hx, rfl⟩ := hc;exact pk (ok_nilc hs hx hr)
 ·obtain ⟨x, hx, y, hy, hc⟩ := hc;split at hc
  ·cases hc
   exact pk (ok_bin hs hx hy hr)
  ·split at hc
   ·split at hc
    ·rename_i k hk; cases hc
     exact pk (ok_eq (neg := false) hs hx hy hk hr)
    ·simp only [Option.map_eq_some_iff] at hc;obtain ⟨ks, hk, rfl⟩ := hc;exact pk (ok_eqs (neg := false) hs hx hy hk hr)
   ·split at hc
    ·rename_i k hk; cases hc
     exact pk (ok_eq (neg := true) hs hx hy hk hr)
    ·simp only [Option.map_eq_some_iff] at hc;obtain ⟨ks, hk, rfl⟩ := hc;exact pk (ok_eqs (neg := true) hs hx hy hk hr)
   ·cases hc
 ·obtain ⟨x, hx, rfl⟩ := hc;exact pk (ok_un hs hx hr)
 ·split at hc
  ·rename_i j k h1 h2;simp only [Option.bind_eq_some_iff, Option.some.injEq] at hc;obtain ⟨x, hx, rfl⟩ := hc;exact pk (ok_conv hs hx h1 h2 hr)
  ·rename_i e h1 h2;split at hc
   ·rename_i he;simp only [Option.bind_eq_bind, Option.bind_eq_some_iff, Option.some.injEq] at hc;obtain ⟨x, hx, rfl⟩ := hc;exact pk (ok_b2s h hs hx h1 he h2 hr)
   ·cases hc
  ·rename_i e e2 h1 h2;split at hc
   ·rename_i he;simp only [Option.bind_eq_bind, Option.bind_eq_some_iff, Option.some.injEq] at hc;obtain ⟨x, hx, hc⟩ := hc;split at hc
    ·rename_i hsd;subst hsd;cases hc
     exact ok_b2b h hs hx h1 he hr
    ·cases hc
   ·cases hc
  ·cases hc
 ·split at hc
  ·rename_i e ht;simp only [Option.bind_eq_bind, Option.bind_eq_some_iff, Option.some.injEq] at hc;obtain ⟨z, hz, i, hi, hc⟩ := hc;split at hc
   ·simp only [Option.bind_eq_some_iff, Option.some.injEq] at hc;obtain ⟨l, hl, c, hcc, rfl⟩ := hc;exact qa0e h hs ht hz hi ‹_› hl hcc hm hf hr
   ·cases hc
  ·cases hc
 ·obtain ⟨x, hx, lo, hlo, hi, hhi, hc⟩ := hc;split at hc
  ·rename_i e ht;simp only [Option.bind_eq_some_iff, Option.some.injEq] at hc;obtain ⟨n, hn, rfl⟩ := hc;exact pk (qbma hs hx hlo hhi ht hn hr)
  ·rename_i ht;cases hc
   exact pk (qbl9 hs hx hlo hhi ht hr)
  ·cases hc
 ·split at hc
  ·rename_i fs ht;simp only [Option.bind_eq_bind, Option.bind_eq_some_iff, Option.some.injEq] at hc;obtain ⟨f, hf', hc⟩ := hc;split at hc
   ·cases hc
   ·rename_i h0;simp only [Option.bind_eq_some_iff, Option.some.injEq] at hc;obtain ⟨x', hx, rfl⟩ := hc;unfold qas8 at hf';rw [ht] at hf';simp only at hf';split at hf'
    ·rename_i fd hfd;simp only [Option.map_eq_some_iff] at hf';obtain ⟨n, hn, rfl⟩ := hf';exact pk (qbmf hs hx ht hfd hn h0 hr)
    ·cases hf'
  ·cases hc
 ·split at hc
  ·rename_i fs ht;simp only [Option.bind_eq_bind, Option.bind_eq_some_iff, Option.some.injEq] at hc;obtain ⟨f, hf', b, hb, x', hx, rfl⟩ := hc;unfold qas8 at hf';rw [ht] at hf';simp only at hf';split at hf'
   ·rename_i fd hfd;simp only [Option.map_eq_some_iff] at hf';obtain ⟨n, hn, rfl⟩ := hf';exact pk (qbme hs hx ht hfd hn hb hr)
   ·cases hf'
  ·cases hc
 ·obtain ⟨x, hx, i, hi, hc⟩ := hc;split at hc
  ·rename_i e ht;simp only [Option.bind_eq_some_iff, Option.some.injEq] at hc;obtain ⟨n, hn, rfl⟩ := hc;exact pk (qbmd hs hx hi ht hn hr)
  ·rename_i n e ht;simp only [Option.bind_eq_some_iff, Option.some.injEq] at hc;obtain ⟨m, hn, rfl⟩ := hc;exact pk (ok_iarr hs hx hi ht hn hr)
  ·cases hc
 ·obtain ⟨x, hx, i, hi, hc⟩ := hc;split at hc
  ·rename_i ht;cases hc
   exact pk (ok_idxs hs hx hi ht hr)
  ·rename_i n e ht;simp only [Option.bind_eq_some_iff, Option.some.injEq] at hc;obtain ⟨m, hn, b, hb, rfl⟩ := hc;exact pk (ok_idx hs hx hi ht hn hb hr)
  ·cases hc
 ·obtain ⟨x, hx, rfl⟩ := hc;exact pk (ok_extr hs hx hr)
 ·split at hc
  ·cases hc
  ·rename_i d hni ht;simp only [Option.bind_eq_bind, Option.bind_eq_some_iff, Option.some.injEq] at hc;obtain ⟨x, hx, rfl⟩ := hc;exact pk (qbmc hs hx ht (fun l e => hni l e) hr)
  ·cases hc
 ·split at hc
  ·cases hc
  ·rename_i d hni ht;simp only [Option.bind_eq_bind, Option.bind_eq_some_iff, Option.some.injEq] at hc;obtain ⟨z, hz, x, hx, rfl⟩ := hc;exact pk (ok_asrt hs hx ht (fun l e => hni l e) hz hr)
  ·cases hc
 ·obtain ⟨x, hx, y, hy, rfl⟩ := hc;exact pk (ok_mkfn hs hx hy hr)
 ·rename_i b args tys;exact bi_ok h hs hc hm hf hr
end
section
structure HeapOk (O : Nat → Prop) (ρ : qact) (fp : Nat → Nat → Prop) (hp : Hp) (w : World) : Prop where
 objs : ∀ id o, geth hp id = some o → ObjRep w (fun k => O k ∨ Live hp fp k) ρ id (fp id) o
 disj : ∀ id id' o o', id ≠ id' → geth hp id = some o → geth hp id' = some o' → ∀ k, fp id k → ¬ fp id' k
 lt : ∀ k, Live hp fp k → k < w.heap.size ∧ ¬ O k
 O_lt : ∀ k, O k → k < w.heap.size
def Enters (P : Program) (f : FuncId) : Prop := ∀ args (w : World), (callFunc f args).run P w = .ok (.enter f args) w
def Meth (P : Program) (g : Nat → Option SObj) (t : TypeId) (x : SV) (nm : String) (f : FuncId) (x' : SV) : Prop :=
 ∀ (w : World) (A : Nat → Prop) (ρ : qact) (v : Value), (∀ id o, g id = some o → ∃ fp, ObjRep w A ρ id fp o) → RepV w A ρ x v → ∃ v', (method (P.types.size + Made.depth) t v nm).run P w = .ok (f, v') w ∧ RepV w A ρ x' v'
structure SCalls (P : Program) (f : FuncId) (args : List SV) (h1 : Hp) (q : Nat) (r : SV) (h2 : Hp) (n : Nat := 8) : Prop where
 ent : Enters P f
 does : ∀ (O : Nat → Prop) (ρ : qact) (fp : Nat → Nat → Prop) (w : World) (vs : List Value), HeapOk O ρ fp h1 w → Reps w (fun k => O k ∨ Live h1 fp k) ρ args vs → (∀ id, q ≤ id → id < q + n → ρ id = none) →
  Calls P f vs.toArray w fun e w' => ∃ v ρ' fp', e = .returned v ∧ HeapOk O ρ' fp' h2 w' ∧ RepV w' (fun k => O k ∨ Live h2 fp' k) ρ' r v ∧ Step (Live h1 fp) w w' ∧
   (∀ id p, ρ id = some p → ρ' id = some p) ∧ (∀ id, ρ' id ≠ none → ρ id ≠ none ∨ (q ≤ id ∧ id < q + n)) ∧ ∀ id o, geth h2 id = some o → ∀ k, fp' id k → Live h1 fp k ∨ w.heap.size ≤ k
def dels : Hp → Hp → Hp → Hp
 | h, [], _ => h
 | h, (i, _) :: r, h2 => dels (match geth h2 i with | some _ => h | none => delh h i) r h2
def adds : Hp → Hp → Hp
 | h, [] => h
 | h, (i, o) :: r => adds (puth h i o) r
def qabr (hp h1 h2 : Hp) : Hp := adds (dels hp h1 h2) h2
def Uniq : Hp → Prop
 | [] => True
 | (i, _) :: r => geth r i = none ∧ Uniq r
def SubH (hp : Hp) : Hp → Prop
 | [] => True
 | (i, o) :: r => geth hp i = some o ∧ SubH hp r
theorem SubH.get {hp : Hp} : ∀ {h1 : Hp}, SubH hp h1 → ∀ id o, geth h1 id = some o → geth hp id = some o
 | [], _, id, o, h => by cases h
 | (i, x) :: r, h, id, o, hg => by
  simp only [geth] at hg;split at hg
  ·rename_i e; subst e; cases hg; exact h.1
  ·exact SubH.get h.2 id o hg
theorem qas4 : ∀ (h1 hp h2 : Hp) (id : Nat), geth (dels hp h1 h2) id = if geth h1 id ≠ none ∧ geth h2 id = none then none else geth hp id
 | [], hp, h2, id => by simp [dels, geth]
 | (i, x) :: r, hp, h2, id => by
  rw [dels, qas4 r];by_cases e : i = id
  ·subst e;cases h : geth h2 i with
   | some o => simp [geth]
   | none => simp [geth, qai2]
  ·cases h : geth h2 i with
   | some o => simp [geth, e]
   | none => simp [geth, e, qai2, Ne.symm e]
theorem qas5 : ∀ (h2 hp : Hp), Uniq h2 → ∀ id, geth (adds hp h2) id = match geth h2 id with | some o => some o | none => geth hp id
 | [], hp, _, id => rfl
 | (i, x) :: r, hp, hu, id => by
  rw [adds, qas5 r _ hu.2];by_cases e : i = id
  ·subst e;rw [hu.1]; simp [geth, qacx]
  ·simp only [geth, if_neg e];split
   ·rfl
   ·rw [qacx, if_neg (Ne.symm e)]
theorem qahr {hp h1 h2 : Hp} (hu : Uniq h2) (id : Nat) : geth (qabr hp h1 h2) id = match geth h2 id with | some o => some o | none => if geth h1 id ≠ none then none else geth hp id := by
 unfold qabr;rw [qas5 _ _ hu, qas4];cases h : geth h2 id with
 | some o => rfl
 | none => simp
variable {X : Cx} {ρ : qact} {fp : Nat → Nat → Prop} {hp : Hp} {w : World} {N : Nat} {a : Act} {sl : Sl}
theorem ObjRep.weaken {A A' : Nat → Prop} {id : Nat} {F : Nat → Prop} {o : SObj} (h : ObjRep w A ρ id F o) (hA : ∀ k, A' k → k < w.heap.size → A k) : ObjRep w A' ρ id F o :=
 h.mono ⟨.refl _ _, hA, fun _ _ h => h⟩ fun _ _ => rfl
theorem Reps.weaken {A A' : Nat → Prop} {x : List SV} {v : List Value} (h : Reps w A ρ x v) (hA : ∀ k, A' k → k < w.heap.size → A k) : Reps w A' ρ x v := h.mono (.refl _ _) hA fun _ _ h => h
def Rest (X : Cx) (fp : Nat → Nat → Prop) (hp h1 : Hp) (k : Nat) : Prop := X.O k ∨ ∃ id o, geth hp id = some o ∧ geth h1 id = none ∧ fp id k
theorem Rest.av {h1 : Hp} (hsub : ∀ id o, geth h1 id = some o → geth hp id = some o) (k : Nat) : (Rest X fp hp h1 k ∨ Live h1 fp k) ↔ Av X hp fp k := by
 constructor
 ·rintro ((h | ⟨id, o, h1, _, h3⟩) | ⟨id, o, h1, h2⟩)
  ·exact .inl h
  ·exact .inr ⟨id, o, h1, h3⟩
  ·exact .inr ⟨id, o, hsub _ _ h1, h2⟩
 ·rintro (h | ⟨id, o, h3, h4⟩)
  ·exact .inl (.inl h)
  ·cases e : geth h1 id with
   | none => exact .inl (.inr ⟨id, o, h3, e, h4⟩)
   | some o' => exact .inr ⟨id, o', e, h4⟩
theorem SimH.part (h : SimH X ρ fp hp w) {h1 : Hp} (hsub : ∀ id o, geth h1 id = some o → geth hp id = some o) : HeapOk (Rest X fp hp h1) ρ fp h1 w := by
 refine ⟨fun id o ho => (h.objs id o (hsub _ _ ho)).weaken fun k hk _ => (Rest.av hsub k).1 hk, fun id id' o o' hne ho ho' => h.disj id id' o o' hne (hsub _ _ ho) (hsub _ _ ho'), ?_, ?_⟩
 ·rintro k ⟨id, o, ho, hk⟩;have ht := h.turn id o (hsub _ _ ho) k hk;refine ⟨ht.2, ?_⟩;rintro (hO | ⟨id', o', ho', hn, hk'⟩)
  ·rcases ht.1 with hM | hM
   ·exact X.O_M k hO hM
   ·exact absurd (X.O_lt k hO) (Nat.not_lt_of_le hM)
  ·have hne : id ≠ id' := fun e => by rw [e, hn] at ho; cases ho
   exact h.disj id id' o o' hne (hsub _ _ ho) ho' k hk hk'
 ·rintro k (hO | ⟨id', o', ho', hn, hk'⟩)
  ·exact Nat.lt_of_lt_of_le (X.O_lt k hO) h.step.size
  ·exact (h.turn id' o' ho' k hk').2
theorem SimH.called (h : SimH X ρ fp hp w) {h1 h2 : Hp} (hsub : ∀ id o, geth h1 id = some o → geth hp id = some o) (hu : Uniq h2) {ρ' : qact} {fp' : Nat → Nat → Prop} {w' : World} {q n : Nat} (hq : X.m ≤ q)
  (hk : HeapOk (Rest X fp hp h1) ρ' fp' h2 w') (hst : Step (Live h1 fp) w w') (hρ : ∀ id p, ρ id = some p → ρ' id = some p) (hn : ∀ id, ρ' id ≠ none → ρ id ≠ none ∨ (q ≤ id ∧ id < q + n))
  (hfp : ∀ id o, geth h2 id = some o → ∀ k, fp' id k → Live h1 fp k ∨ w.heap.size ≤ k) :
  SimH X ρ' (fun id k => (geth h2 id ≠ none ∧ fp' id k) ∨ (geth h2 id = none ∧ fp id k)) (qabr hp h1 h2) w' ∧ Pres w (Av X hp fp) ρ w' (Av X (qabr hp h1 h2) (fun id k => (geth h2 id ≠ none ∧ fp' id k) ∨ (geth h2 id = none ∧ fp id k))) ρ' ∧
   ∀ k, Av X (qabr hp h1 h2) (fun id k => (geth h2 id ≠ none ∧ fp' id k) ∨ (geth h2 id = none ∧ fp id k)) k → Rest X fp hp h1 k ∨ Live h2 fp' k := by
 have e2 : ∀ id o, geth h2 id = some o → (fun k => (geth h2 id ≠ none ∧ fp' id k) ∨ (geth h2 id = none ∧ fp id k)) = fp' id := fun id o ho => by
  funext k; simp [ho]
 have e0 : ∀ id, geth h2 id = none → (fun k => (geth h2 id ≠ none ∧ fp' id k) ∨ (geth h2 id = none ∧ fp id k)) = fp id := fun id ho => by
  funext k; simp [ho]
 have hav : ∀ k, Av X (qabr hp h1 h2) (fun id k => (geth h2 id ≠ none ∧ fp' id k) ∨ (geth h2 id = none ∧ fp id k)) k → Rest X fp hp h1 k ∨ Live h2 fp' k := by
  rintro k (hO | ⟨id, o, ho, hk'⟩)
  ·exact .inl (.inl hO)
  ·rw [qahr hu] at ho;cases e : geth h2 id with
   | some o' => rcases hk' with ⟨_, hk'⟩ | ⟨h3, _⟩
                ·exact .inr ⟨id, o', e, hk'⟩
                ·rw [e] at h3; cases h3
   | none =>
    rw [e] at ho;simp only at ho;split at ho
    ·cases ho
    ·rename_i h1n;rcases hk' with ⟨h3, _⟩ | ⟨_, hk'⟩
     ·exact absurd e h3
     ·exact .inl (.inr ⟨id, o, ho, by simpa using h1n, hk'⟩)
 obtain ⟨q1, q2⟩ := h.change (hp' := qabr hp h1 h2) (ρ' := ρ') (fp' := fun id k => (geth h2 id ≠ none ∧ fp' id k) ∨ (geth h2 id = none ∧ fp id k)) (S := Live h1 fp) (fun id => geth h1 id ≠ none) (fun id => geth h2 id ≠ none) hst
  (fun k ⟨id, o, ho, hk'⟩ => ⟨id, o, hsub _ _ ho, hk', by rw [ho]; simp⟩)
  (fun id o ho hnew => by
   have e : geth h2 id = none := by simpa using hnew
   rw [qahr hu, e] at ho;simp only at ho;split at ho
   ·cases ho
   ·rename_i h3; exact ⟨ho, h3, e0 id e⟩)
  hρ
  (fun id hid => by
   cases e : ρ id with
   | some p => exact hρ _ _ e
   | none =>
    cases e' : ρ' id with
    | none => rfl
    | some p => rcases hn id (by rw [e']; simp) with h3 | h3
                ·exact absurd e h3
                ·omega)
  (fun id o hnew ho k hk' => by
   obtain ⟨o', e⟩ := Option.ne_none_iff_exists'.1 hnew;have hk2 : fp' id k := by rw [← e2 id o' e]; exact hk'
   refine ⟨?_, (hk.lt k ⟨id, o', e, hk2⟩).1⟩;rcases hfp id o' e k hk2 with ⟨j, oj, h3, h4⟩ | h3
   ·exact .inl ⟨j, oj, hsub _ _ h3, h4, by rw [h3]; simp⟩
   ·exact .inr h3)
  (fun id id' o o' hnew hnew' hne _ _ k hk1 hk2 => by
   obtain ⟨x, e⟩ := Option.ne_none_iff_exists'.1 hnew;obtain ⟨y, e'⟩ := Option.ne_none_iff_exists'.1 hnew';have a1 : fp' id k := by rw [← e2 id x e]; exact hk1
   have a2 : fp' id' k := by rw [← e2 id' y e']; exact hk2
   exact hk.disj id id' x y hne e e' k a1 a2)
  (fun _ id o hnew ho => by
   obtain ⟨x, e⟩ := Option.ne_none_iff_exists'.1 hnew;rw [qahr hu, e] at ho;cases ho
   rw [show (fun k => (geth h2 id ≠ none ∧ fp' id k) ∨ (geth h2 id = none ∧ fp id k)) = fp' id from e2 id _ e];exact (hk.objs id _ e).weaken fun k hk' _ => hav k hk')
 exact ⟨q1, q2, hav⟩
end
section
def putd (l : Sl) (dst : Option Nat) (v : SV) : Sl := match dst with
 | none => l
 | some d => puts l d v
structure Tch where
 rd : List Nat
 wr : List Nat
def idOf : SV → List Nat
 | .ptr id _ | .eptr id _ _ _ | .own id _ | .owno id _ _ _ => [id]
 | _ => []
def SOp.touch (ev : SX → SV) : SOp → List Nat
 | .load x | .loads _ x | .store _ x _ | .b2s x | .b2b x => idOf (ev x)
 | .app _ _ _ s x => idOf (ev s) ++ idOf (ev x)
 | _ => []
def idsH (h : Hp) : List Nat := h.map (·.1)
def SOp1 (P : Program) (o : SOper) (s : SSt) (K : SSt → Tch → Prop) : Prop := match o.cal with
 | some (f, args) => match f.ev s.sl with
  | .fn (.func g) first cap => ∃ h1 r h2 rd n, SCalls P g (first ++ args.map (·.ev s.sl) ++ cap) h1 s.nx r h2 n ∧ SubH s.hp h1 ∧ Uniq h2 ∧ (∀ id ∈ rd, geth h2 id = geth h1 id) ∧
    K ⟨putd s.sl o.dst r, qabr s.hp h1 h2, s.nx + n⟩ ⟨rd, (idsH h1 ++ idsH h2).filter fun i => !rd.contains i⟩
  | .fn (.method nm) [] [] => match (args.map (fun x : SX => x.ev s.sl) : List SV) with
   | .ifc t x :: az => ∃ hm x' g h1 r h2 rd n, SubH s.hp hm ∧ Meth P (geth hm) t x nm g x' ∧ SCalls P g (x' :: az) h1 s.nx r h2 n ∧ SubH s.hp h1 ∧ Uniq h2 ∧ (∀ id ∈ rd, geth h2 id = geth h1 id) ∧
    K ⟨putd s.sl o.dst r, qabr s.hp h1 h2, s.nx + n⟩ ⟨idsH hm ++ rd, (idsH h1 ++ idsH h2).filter fun i => !rd.contains i⟩
   | _ => False
  | _ => False
 | none => match o.op.run (·.ev s.sl) (geth s.hp) s.nx with
  | some (v, u, _) => K ⟨putd s.sl o.dst v, upds s.hp u, s.nx + 1⟩ ⟨o.op.touch (·.ev s.sl), u.map (·.1)⟩
  | none => False
def SSt.skip (s : SSt) (o : SOper) : SSt := ⟨putd s.sl o.dst (.tup []), s.hp, s.nx⟩
def SOps (P : Program) : List SOper → SSt → List Tch → (SSt → List Tch → Prop) → Prop
 | [], s, tr, Q => Q s tr
 | o :: os, s, tr, Q => match o.grd with
  | none => SOp1 P o s fun s' x => SOps P os s' (x :: tr) Q
  | some (t, want) => match gets s.sl t with
   | .bool b => (b = want → SOp1 P o s fun s' x => SOps P os s' (x :: tr) Q) ∧ (b ≠ want → SOps P os (s.skip o) (⟨[], []⟩ :: tr) Q)
   | .tup [] => SOps P os (s.skip o) (⟨[], []⟩ :: tr) Q
   | _ => False
structure SimF (X : Cx) (ρ : qact) (fp : Nat → Nat → Prop) (s : SSt) (a : Act) (w : World) : Prop where
 sim : Sim X ρ fp s a w
 fresh : ∀ id, s.nx ≤ id → ρ id = none
 le : X.m ≤ s.nx
theorem Enters.of {P : Program} {f : FuncId} {fn : Func} (hf : P.funcs[f]? = some fn) (hb : fn.body.isSome = true) (hn : (fn.name == "runtime.NumGoroutine") = false) : Enters P f := fun args w => by
 have hb' : fn.body.isNone = false := by cases h : fn.body <;> simp_all
 unfold callFunc;simp only [Sem.run_bind, run_program, Result.andThen_ok, hf, hn, hb', Bool.false_eq_true, if_false, Sem.run_pure]
variable {X : Cx} {ρ : qact} {fp : Nat → Nat → Prop} {w : World} {a : Act} {s : SSt}
theorem Sim.put (h : Sim X ρ fp s a w) {ρ' : qact} {fp' : Nat → Nat → Prop} {hp' : Hp} {w' : World} {nx' : Nat} (hh : SimH X ρ' fp' hp' w') (hp : Pres w (Av X s.hp fp) ρ w' (Av X hp' fp') ρ') {v : SV} {v' : Value} (hv : RepV w' (Av X hp' fp') ρ' v v') {dst : Option Nat} (hd : dst.all (· < X.N) = true) :
  Sim X ρ' fp' ⟨putd s.sl dst v, hp', nx'⟩ (a.put dst v') w' := by
 cases dst with
 | none => exact ⟨hh, h.tmps, h.defers, fun t => hp.rep (h.slots t)⟩
 | some d =>
  have hd' : d < a.tmps.size := by rw [h.tmps]; simpa using hd
  refine ⟨hh, by simp [Act.put, h.tmps], h.defers, fun t => ?_⟩;show RepV w' (Av X hp' fp') ρ' (gets (puts s.sl d v) t) ((a.tmps.setIfInBounds d v').getD t undef);rw [qai0];by_cases e : t = d
  ·subst e;rw [if_pos rfl];simp [hd'];exact hv
  ·rw [if_neg e];have := hp.rep (h.slots t);simpa [Array.getElem?_setIfInBounds_ne (Ne.symm e)] using this
theorem qagq {P : Program} {N : Nat} {ops : Array Oper} {o : Oper} {b : Nat} {so : SOper} (h : qbnc P N ops o b = some so) : so.dst = o.dst ∧ o.dst.all (· < N) = true ∧ cgrd ops o.guard = some so.grd ∧ so.bef = b ∧
  ((so.cal = none ∧ (cop P N o.type o.op = some so.op ∨ so.op = SOp.bad)) ∨ (∃ f args g gs tys, so.cal = some (f, args) ∧ o.op = .call { callee := .value g, args := gs, argTypes := tys } ∧ cx N g = some f ∧ gs.toList.mapM (cx N) = some args) ∨ ∃ r args nm g gs tys, so.cal = some (.c (.fn (.method nm) [] []), r :: args) ∧ o.op = .call { callee := .invoke g nm, args := gs, argTypes := tys } ∧ cx N g = some r ∧ gs.toList.mapM (cx N) = some args) := by
 unfold qbnc at h;split at h
 ·rename_i hd;split at h
  ·cases h
  ·rename_i g hg;split at h
   ·rename_i f args tys hop;simp only [Option.map_eq_some_iff] at h;obtain ⟨c, hc, rfl⟩ := h;unfold ccal at hc;split at hc
    ·rename_i f' l h1 h2;cases hc
     exact ⟨rfl, hd, hg, rfl, .inr (.inl ⟨f', l, f, args, tys, rfl, hop, h1, h2⟩)⟩
    ·cases hc
   ·rename_i f nm args tys hop;simp only [Option.map_eq_some_iff] at h;obtain ⟨c, hc, rfl⟩ := h;unfold ccal at hc;split at hc
    ·rename_i f' l h1 h2;cases hc
     exact ⟨rfl, hd, hg, rfl, .inr (.inr ⟨f', l, nm, f, args, tys, rfl, hop, h1, h2⟩)⟩
    ·cases hc
   ·cases h
    refine ⟨rfl, hd, hg, rfl, .inl ⟨rfl, ?_⟩⟩;cases hc : cop P N o.type o.op with
    | none => exact .inr rfl
    | some op => exact .inl rfl
 ·cases h
theorem Yld.upon {P : Program} {o : Oper} {next : Act → World → Prop} {Q : Exit → Act → World → Prop} {v : Value} {w' : World} (h : Yld ((execOp a.eval o).run P w) v w') (hn : next (a.put o.dst v) w') : o.wp P a w next Q := by
 unfold Oper.wp;rcases h with h | ⟨h, rfl⟩ <;> rw [h] <;> exact hn
theorem qamd {P : Program} {w : World} {A : Nat → Prop} {ρ : qact} {g0 : Nat → Option SObj} (hobj : ∀ id o, g0 id = some o → ∃ fp, ObjRep w A ρ id fp o) {t : TypeId} {x x' : SV} {nm : String} {g : FuncId} (hM : Meth P g0 t x nm g x') (hent : Enters P g) {az : List SV} {vals : List Value} (hr : Reps w A ρ (.ifc t x :: az) vals) :
  ∃ v' avs, (invoke (.fn (.method nm) #[]) vals.toArray).run P w = .ok (.enter g (v' :: avs).toArray) w ∧ Reps w A ρ (x' :: az) (v' :: avs) := by
 obtain ⟨vx, avs, rfl, rx, ras⟩ := hr.cons_inv;cases rx with
 | ifc rx =>
  rename_i v;obtain ⟨v', h1, h2⟩ := hM w A ρ v hobj rx;refine ⟨v', avs, ?_, Reps.cons h2 ras⟩;have e0 : (Value.iface t v :: avs).toArray[0]? = some (.iface t v) := by simp
  have e1 : (Value.iface t v :: avs).toArray.extract 1 (Value.iface t v :: avs).toArray.size = avs.toArray := by simp
  have e2 : (#[v'] ++ avs.toArray) = (v' :: avs).toArray := by simp
  have hp : (program : Sem Program).run P w = .ok P w := rfl;simp only [invoke, e0, callMethod, Sem.run_bind, hp, Result.andThen_ok, e1, h1, e2];exact hent _ _
theorem op1_ok {ops : Array Oper} {o : Oper} {b : Nat} {so : SOper} (hc : qbnc X.P X.N ops o b = some so) {K : SSt → Tch → Prop} (hk : SOp1 X.P so s K) (h : SimF X ρ fp s a w) {next : Act → World → Prop} {Q : Exit → Act → World → Prop}
  (hn : ∀ s' x ρ' fp' a' w', K s' x → SimF X ρ' fp' s' a' w' → next a' w') : o.wp X.P a w next Q := by
 obtain ⟨hdst, hd, _, _, hop⟩ := qagq hc;unfold SOp1 at hk;rcases hop with ⟨hcal, hop⟩ | ⟨f, args, g, gs, tys, hcal, hop, hf, hargs⟩ | ⟨r, args, nm, g, gs, tys, hcal, hop, hf, hargs⟩
 ·rw [hcal] at hk;simp only at hk;split at hk
  ·rename_i v u nx' hr;replace hop := hop.resolve_right fun e => by rw [e] at hr; simp [SOp.run, SX.ev] at hr
   obtain ⟨v', w', h1, ρ', fp', h2, h3, h4, h5⟩ := op_ok h.sim.h h.sim.slots hop h.le (h.fresh _ (Nat.le_refl _)) hr;refine (h1 o rfl).upon (hn _ _ ρ' fp' _ _ hk ⟨?_, fun id hid => ?_, ?_⟩)
   ·have := h.sim.put (nx' := s.nx + 1) h2 h4 h3 (dst := so.dst) (by rw [hdst]; exact hd);rw [hdst] at this ⊢; exact this
   ·cases e : ρ' id with
    | none => rfl
    | some p =>
     simp only at hid;rcases h5 id (by rw [e]; simp) with h6 | h6
     ·exact absurd (h.fresh id (by omega)) h6
     ·omega
   ·have := h.le; simp only; omega
  ·cases hk
 all_goals
  have fin : ∀ {g' : FuncId} {args' : List SV} {h1 h2 : Hp} {r : SV} {nn : Nat} {tch : Tch} (vals : List Value), SCalls X.P g' args' h1 s.nx r h2 nn → SubH s.hp h1 → Uniq h2 → Reps w (Av X s.hp fp) ρ args' vals → (execOp a.eval o).run X.P w = .ok (.enter g' vals.toArray) w → K ⟨putd s.sl so.dst r, qabr s.hp h1 h2, s.nx + nn⟩ tch → o.wp X.P a w next Q := by
   rintro g' args' h1 h2 r nn tch vals ⟨hent, hcall⟩ hsub hu hreps0 hrun hk;have hsub' := hsub.get;have hav : ∀ k, (Rest X fp s.hp h1 k ∨ Live h1 fp k) → Av X s.hp fp k := fun k hk => (Rest.av hsub' k).1 hk
   have hreps := hreps0.weaken fun k hk _ => hav k hk
   have := hcall (Rest X fp s.hp h1) ρ fp w _ (h.sim.h.part hsub') hreps (fun id h3 _ => h.fresh id h3);unfold Oper.wp;rw [hrun, Oper.upon_enter];refine this.mono ?_;rintro e w' ⟨v, ρ', fp', rfl, q1, q2, q3, q4, q5, q6⟩;obtain ⟨p1, p2, p3⟩ := h.sim.h.called hsub' hu (q := s.nx) h.le q1 q3 q4 q5 q6;refine hn _ _ ρ' (fun id k => (geth h2 id ≠ none ∧ fp' id k) ∨ (geth h2 id = none ∧ fp id k)) _ _ hk ⟨?_, fun id hid => ?_, ?_⟩
   ·have := h.sim.put (nx' := s.nx + nn) p1 p2 (q2.weaken fun k hk _ => p3 k hk) (dst := so.dst) (by rw [hdst]; exact hd);rw [hdst] at this ⊢; exact this
   ·cases e : ρ' id with
    | none => rfl
    | some p =>
     simp only at hid;rcases q5 id (by rw [e]; simp) with h6 | h6
     ·exact absurd (h.fresh id (by omega)) h6
     ·omega
   ·have := h.le; simp only; omega
  have hobj : ∀ {hm : Hp}, SubH s.hp hm → ∀ id o, geth hm id = some o → ∃ fp', ObjRep w (Av X s.hp fp) ρ id fp' o := fun hs id o ho => ⟨_, h.sim.h.objs id o (hs.get id o ho)⟩
 ·rw [hcal] at hk;simp only at hk;have rf := qaci hf h.sim.slots;have rargs := qag7 hargs h.sim.slots;generalize hgv : a.eval g = gv at rf;split at hk
  ·rename_i g' first cap hfv;obtain ⟨h1, r, h2, rd, nn, hS, hsub, hu, _, hk⟩ := hk;rw [hfv] at rf;cases rf with
   | fn l1 l2 r1 r2 =>
    rename_i vs us;refine fin (vs ++ gs.toList.map a.eval ++ us) hS hsub hu (Reps.append (Reps.append ⟨l1, r1⟩ rargs) ⟨l2, r2⟩) ?_ hk;have e1 : (vs.toArray ++ gs.map a.eval ++ us.toArray) = (vs ++ gs.toList.map a.eval ++ us).toArray := by apply Array.ext'; simp
    simp only [execOp, hop, resolve, hgv, Deferred.ofValue, Sem.run_bind, Sem.run_pure, Result.andThen_ok, invoke, e1];exact hS.ent _ _
  ·rename_i nm hfv;split at hk
   ·rename_i t x az hav;obtain ⟨hm, x', g', h1, r, h2, rd, nn, hsm, hM, hS, hsub, hu, _, hk⟩ := hk;rw [hfv] at rf;cases rf with
    | fn l1 l2 r1 r2 =>
     rename_i vs us;obtain rfl := List.eq_nil_of_length_eq_zero l1.symm;obtain rfl := List.eq_nil_of_length_eq_zero l2.symm;rw [show args.map (·.ev s.sl) = .ifc t x :: az from hav] at rargs;obtain ⟨v', avs, h3, h4⟩ := qamd (hobj hsm) hM hS.ent rargs;refine fin (v' :: avs) hS hsub hu h4 ?_ hk;have e1 : (([] : List Value).toArray ++ gs.map a.eval) = (gs.toList.map a.eval).toArray := by apply Array.ext'; simp
     have e2 : ([] : List Value).toArray = #[] := rfl;simp only [execOp, hop, resolve, hgv, Deferred.ofValue, Sem.run_bind, Sem.run_pure, Result.andThen_ok, e1];exact h3
   ·cases hk
  ·cases hk
 ·rw [hcal] at hk;simp only [SX.ev] at hk;have rf := qaci hf h.sim.slots;have rargs := qag7 hargs h.sim.slots;split at hk
  ·rename_i t x az hav;obtain ⟨hm, x', g', h1, rr, h2, rd, nn, hsm, hM, hS, hsub, hu, _, hk⟩ := hk;have rall : Reps w (Av X s.hp fp) ρ (.ifc t x :: az) (a.eval g :: gs.toList.map a.eval) := by
    have := Reps.cons rf rargs;rw [List.map_cons] at hav;have e : r.ev s.sl :: args.map (·.ev s.sl) = .ifc t x :: az := hav;rw [e] at this; exact this
   obtain ⟨v', avs, h3, h4⟩ := qamd (hobj hsm) hM hS.ent rall;refine fin (v' :: avs) hS hsub hu h4 ?_ hk;have e1 : (#[a.eval g] ++ gs.map a.eval) = (a.eval g :: gs.toList.map a.eval).toArray := by apply Array.ext'; simp
   simp only [execOp, hop, resolve, Sem.run_bind, Sem.run_pure, Result.andThen_ok, e1];exact h3
  ·cases hk
theorem qa07 {ops : Array Oper} {o : Oper} {so : SOper} (hg : cgrd ops o.guard = some so.grd) (h : Sim X ρ fp s a w) :
  (so.grd = none → Region.wanted o (yielded ops a.tmps) = true) ∧ ∀ t want, so.grd = some (t, want) → (∀ b, gets s.sl t = .bool b → Region.wanted o (yielded ops a.tmps) = decide (b = want)) ∧ (gets s.sl t = .tup [] → Region.wanted o (yielded ops a.tmps) = false) := by
 cases hgd : o.guard with
 | none =>
  rw [hgd] at hg;simp only [cgrd, Option.some.injEq] at hg;rw [← hg];exact ⟨(fun _ => by simp [Region.wanted, hgd]), (fun t want e => by cases e)⟩
 | some jw =>
  obtain ⟨j, want'⟩ := jw;rw [hgd] at hg;simp only [cgrd] at hg;split at hg
  ·rename_i t ht;injection hg with hg
   rw [← hg];refine ⟨(fun e => by cases e), fun t' want e => ?_⟩;cases e
   have hs := h.slots t;refine ⟨fun b hb => ?_, fun hb => ?_⟩
   ·rw [hb] at hs;have hv : a.tmps.getD t undef = .bool b := by generalize a.tmps.getD t undef = v at hs; cases hs; rfl
    have hv2 : a.tmps[t]? = some (.bool b) := by
     cases e : a.tmps[t]? with
     | none => rw [Array.getD_eq_getD_getElem?, e] at hv; cases hv
     | some x => rw [Array.getD_eq_getD_getElem?, e] at hv; rw [← hv]; rfl
    simp only [Region.wanted, hgd, yielded, ht, Option.bind_some, hv2];cases b <;> cases want' <;> rfl
   ·rw [hb] at hs;have hv : a.tmps.getD t undef = .tuple #[] := by
     generalize a.tmps.getD t undef = v at hs;cases hs with
     | tup hl _ => have := List.eq_nil_of_length_eq_zero hl.symm; rw [this]
    have hv2 : ∀ b, a.tmps[t]? ≠ some (.bool b) := fun b e => by
     rw [Array.getD_eq_getD_getElem?, e] at hv; cases hv
    simp only [Region.wanted, hgd, yielded, ht, Option.bind_some];first | rfl | (split <;> first | rfl | (rename_i b hb'; exact absurd hb' (hv2 b)) | simp)
  ·cases hg
theorem Sim.skip (h : SimF X ρ fp s a w) {so : SOper} {dst : Option Nat} (hdst : so.dst = dst) (hd : dst.all (· < X.N) = true) : SimF X ρ fp (s.skip so) (a.put dst undef) w := by
 subst hdst;exact ⟨h.sim.put (nx' := s.nx) h.sim.h (.refl _ _ _) (RepV.tup (cs := []) (vs := []) rfl (by simp)) hd, h.fresh, h.le⟩
theorem qaie {P : Program} {N : Nat} {ops : Array Oper} {o : Oper} {os : List Oper} {bs : List Nat} {sos : List SOper} (h : qaif P N ops (o :: os) bs = some sos) : ∃ so r, sos = so :: r ∧ qbnc P N ops o (bs.headD 0) = some so ∧ qaif P N ops os bs.tail = some r := by
 simp only [qaif, Option.bind_eq_bind, Option.bind_eq_some_iff, Option.some.injEq] at h;obtain ⟨so, h1, r, h2, rfl⟩ := h;exact ⟨so, r, rfl, h1, h2⟩
theorem sops_ok {ops : Array Oper} {Q : SSt → List Tch → Prop} {R : Exit → Act → World → Prop} (hQ : ∀ s tr ρ fp a w, Q s tr → SimF X ρ fp s a w → R .normal a w) : ∀ (l : List Oper) (bs : List Nat) (sos : List SOper), qaif X.P X.N ops l bs = some sos → ∀ (s : SSt) (tr : List Tch) (ρ : qact) (fp : Nat → Nat → Prop) (a : Act) (w : World),
  SOps X.P sos s tr Q → SimF X ρ fp s a w → wpList X.P ops R l a w := by
 intro l;induction l with
 | nil =>
  intro bs sos hc s tr ρ fp a w hk h;simp only [qaif, Option.some.injEq] at hc;subst hc;exact hQ _ _ _ _ _ _ hk h
 | cons o l ih =>
  intro bs sos hc s tr ρ fp a w hk h;obtain ⟨so, r, rfl, hso, hr⟩ := qaie hc;obtain ⟨hdst, hd, hg, _, _⟩ := qagq hso;obtain ⟨g1, g2⟩ := qa07 hg h.sim;refine wpList_step fun K hK => ?_
  have run : (SOp1 X.P so s fun s' x => SOps X.P r s' (x :: tr) Q) → o.wp X.P a w K R := fun hk => op1_ok hso hk h fun s' x ρ' fp' a' w' hk' h' => hK _ _ (ih _ _ hr _ _ _ _ _ _ hk' h')
  simp only [SOps] at hk;cases hgr : so.grd with
  | none =>
   rw [hgr] at hk;rw [if_pos (g1 hgr)];exact run hk
  | some tw =>
   obtain ⟨t, want⟩ := tw;rw [hgr] at hk;obtain ⟨g3, g4⟩ := g2 t want hgr;simp only at hk;split at hk
   ·rename_i b hb;rw [g3 b hb];by_cases hbw : b = want
    ·rw [if_pos (by simpa using hbw)];exact run (hk.1 hbw)
    ·rw [if_neg (by simpa using hbw)];exact hK _ _ (ih _ _ hr _ _ _ _ _ _ (hk.2 hbw) (Sim.skip h hdst hd))
   ·rename_i hb;rw [g4 hb, if_neg (by simp)];exact hK _ _ (ih _ _ hr _ _ _ _ _ _ hk (Sim.skip h hdst hd))
   ·cases hk
end
section
inductive SExit where
 | normal
 | exit (id : Nat)
 | ret
def Out (X : Cx) (Q : SExit → SSt → Prop) : Exit → Act → World → Prop
 | .normal, a, w => ∃ s ρ fp, Q .normal s ∧ SimF X ρ fp s a w
 | .exit id, a, w => ∃ s ρ fp, Q (.exit id) s ∧ SimF X ρ fp s a w
 | .ret, a, w => ∃ s ρ fp, Q .ret s ∧ SimF X ρ fp s a w
 | _, _, _ => False
def SWp (X : Cx) (c : SCode) (Q : SExit → SSt → Prop) (s : SSt) : Prop :=
 ∀ code, comp X.P X.N code = some c.erase → ∀ ρ fp a w, SimF X ρ fp s a w → code.wp X.P (Out X Q) a w
def Wk (X : Cx) (s s' : SSt) : Prop := ∀ ρ fp a w, SimF X ρ fp s a w → ∃ ρ' fp', SimF X ρ' fp' s' a w
theorem Wk.refl (X : Cx) (s : SSt) : Wk X s s := fun ρ fp _ _ h => ⟨ρ, fp, h⟩
theorem Wk.trans {X : Cx} {s t u : SSt} (h : Wk X s t) (k : Wk X t u) : Wk X s u := fun ρ fp a w hs => let ⟨_, _, h1⟩ := h ρ fp a w hs; k _ _ a w h1
theorem qadc {P : Program} {N id : Nat} {ops : Array Oper} {draw : Bool} {c : SCode} (h : comp P N (.region id ops draw) = some c) : ∃ l, c = .reg draw l [] ∧ qaif P N ops ops.toList (if draw then (Region.before ops).toList else []) = some l ∧ (draw = false ∨ qa1m ops = true) := by
 simp only [comp] at h;split at h
 ·rename_i hd;simp only [Option.bind_eq_bind, Option.bind_eq_some_iff, Option.some.injEq] at h;obtain ⟨l, h1, rfl⟩ := h;exact ⟨l, rfl, h1, hd⟩
 ·cases h
variable {X : Cx} {s : SSt} {Q : SExit → SSt → Prop}
theorem qad8 {c : SCode} {s' : SSt} (hw : Wk X s s') (h : SWp X c Q s') : SWp X c Q s := fun code hc ρ fp a w hs => let ⟨_, _, h1⟩ := hw ρ fp a w hs; h code hc _ _ a w h1
theorem Out.mono {Q' : SExit → SSt → Prop} (hq : ∀ e s, Q e s → Q' e s) : ∀ e a w, Out X Q e a w → Out X Q' e a w := by
 intro e a w h;cases e <;> first | exact h | (obtain ⟨s, ρ, fp, h1, h2⟩ := h; exact ⟨s, ρ, fp, hq _ _ h1, h2⟩)
theorem qaai (h : Q .normal s) : SWp X .skip Q s := fun code hc ρ fp a w hs => by
 by_cases hreg : ∃ id o d, code = .region id o d
 ·obtain ⟨_, _, _, rfl⟩ := hreg;obtain ⟨_, e, _⟩ := qadc hc;simp [SCode.erase] at e
 cases code <;> (try simp only [comp, SCode.erase, Option.bind_eq_bind, Option.bind_eq_some_iff, Option.some.injEq, reduceCtorEq, and_false, exists_false, exists_const] at hc)
 case skip => exact wp_skip ⟨s, ρ, fp, h, hs⟩
 case label => exact wp_label ⟨s, ρ, fp, h, hs⟩
 case region => exact absurd ⟨_, _, _, rfl⟩ hreg
theorem qabv {id : Nat} (h : Q (.exit id) s) : SWp X (.exit id) Q s := fun code hc ρ fp a w hs => by
 by_cases hreg : ∃ id o d, code = .region id o d
 ·obtain ⟨_, _, _, rfl⟩ := hreg;obtain ⟨_, e, _⟩ := qadc hc;simp [SCode.erase] at e
 cases code <;> (try simp only [comp, SCode.erase, Option.bind_eq_bind, Option.bind_eq_some_iff, Option.some.injEq, reduceCtorEq, and_false, exists_false, exists_const, SCode.exit.injEq] at hc)
 case exit => subst hc; exact wp_exit ⟨s, ρ, fp, h, hs⟩
 case region => exact absurd ⟨_, _, _, rfl⟩ hreg
theorem qaba (h : Q .ret s) : SWp X .ret Q s := fun code hc ρ fp a w hs => by
 by_cases hreg : ∃ id o d, code = .region id o d
 ·obtain ⟨_, _, _, rfl⟩ := hreg;obtain ⟨_, e, _⟩ := qadc hc;simp [SCode.erase] at e
 cases code <;> (try simp only [comp, SCode.erase, Option.bind_eq_bind, Option.bind_eq_some_iff, Option.some.injEq, reduceCtorEq, and_false, exists_false, exists_const] at hc)
 case ret => exact wp_ret ⟨s, ρ, fp, h, hs⟩
 case region => exact absurd ⟨_, _, _, rfl⟩ hreg
def QSeq (X : Cx) (y : SCode) (Q : SExit → SSt → Prop) : SExit → SSt → Prop
 | .normal, s => SWp X y Q s
 | e, s => Q e s
theorem qabb {x y : SCode} (h : SWp X x (QSeq X y Q) s) : SWp X (.seq x y) Q s := fun code hc ρ fp a w hs => by
 by_cases hreg : ∃ id o d, code = .region id o d
 ·obtain ⟨_, _, _, rfl⟩ := hreg;obtain ⟨_, e, _⟩ := qadc hc;simp [SCode.erase] at e
 cases code <;> (try simp only [comp, SCode.erase, Option.bind_eq_bind, Option.bind_eq_some_iff, Option.some.injEq, reduceCtorEq, and_false, exists_false, exists_const, SCode.seq.injEq] at hc)
 case seq c d =>
  obtain ⟨c', h1, d', h2, rfl, rfl⟩ := hc;refine wp_seq (wp_mono (h c h1 ρ fp a w hs) ?_);intro e a' w' ho;cases e with
  | normal => obtain ⟨s', ρ', fp', q1, q2⟩ := ho; exact q1 d h2 ρ' fp' a' w' q2
  | exit id => exact ho
  | ret => exact ho
  | goto l => exact ho.elim
  | panic c => exact ho.elim
  | outgrown => exact ho.elim
 case region => exact absurd ⟨_, _, _, rfl⟩ hreg
theorem qaap {c : SX} {x y : SCode} {b : Bool} (hb : c.ev s.sl = .bool b) (h1 : b = true → SWp X x Q s) (h2 : b = false → SWp X y Q s) : SWp X (.cond c x y) Q s := fun code hc ρ fp a w hs => by
 by_cases hreg : ∃ id o d, code = .region id o d
 ·obtain ⟨_, _, _, rfl⟩ := hreg;obtain ⟨_, e, _⟩ := qadc hc;simp [SCode.erase] at e
 cases code <;> (try simp only [comp, SCode.erase, Option.bind_eq_bind, Option.bind_eq_some_iff, Option.some.injEq, reduceCtorEq, and_false, exists_false, exists_const, SCode.cond.injEq] at hc)
 case cond o d e =>
  obtain ⟨o', q1, d', q2, e', q3, rfl, rfl, rfl⟩ := hc;have r := qaci q1 hs.sim.slots;rw [hb] at r;have hv : a.eval o = .bool b := by generalize a.eval o = v at r; cases r; rfl
  exact wp_cond_split hv (fun hb => h1 hb d q2 ρ fp a w hs) (fun hb => h2 hb e q3 ρ fp a w hs)
 case region => exact absurd ⟨_, _, _, rfl⟩ hreg
def qakd (id : Nat) (Q : SExit → SSt → Prop) : SExit → SSt → Prop
 | .exit i, s => if i = id then Q .normal s else Q (.exit i) s
 | e, s => Q e s
theorem qabf {id : Nat} {c : SCode} (h : SWp X c (qakd id Q) s) : SWp X (.block id c) Q s := fun code hc ρ fp a w hs => by
 by_cases hreg : ∃ id o d, code = .region id o d
 ·obtain ⟨_, _, _, rfl⟩ := hreg;obtain ⟨_, e, _⟩ := qadc hc;simp [SCode.erase] at e
 cases code <;> (try simp only [comp, SCode.erase, Option.bind_eq_bind, Option.bind_eq_some_iff, Option.some.injEq, reduceCtorEq, and_false, exists_false, exists_const, SCode.block.injEq] at hc)
 case block i d =>
  obtain ⟨d', h1, rfl, rfl⟩ := hc;refine wp_block (wp_mono (h d h1 ρ fp a w hs) ?_);intro e a' w' ho;cases e with
  | normal => exact ho
  | exit i' =>
   obtain ⟨s', ρ', fp', q1, q2⟩ := ho;simp only [qakd] at q1;simp only [Exit.inBlock];split
   ·rename_i e; rw [if_pos e] at q1; exact ⟨s', ρ', fp', q1, q2⟩
   ·rename_i e; rw [if_neg e] at q1; exact ⟨s', ρ', fp', q1, q2⟩
  | ret => exact ho
  | goto l => exact ho.elim
  | panic c => exact ho.elim
  | outgrown => exact ho.elim
 case region => exact absurd ⟨_, _, _, rfl⟩ hreg
def SSt.keep (s : SSt) (live : List Nat) : SSt := ⟨live.map fun t => (t, gets s.sl t), s.hp, s.nx⟩
theorem qba6 (sl : Sl) (live : List Nat) (t : Nat) : gets (live.map fun t => (t, gets sl t)) t = if t ∈ live then gets sl t else .any := by
 induction live with
 | nil => rfl
 | cons u l ih =>
  simp only [List.map_cons, gets, ih, List.mem_cons];by_cases e : u = t
  ·simp [e]
  ·simp [e, Ne.symm e]
theorem qbiz (live : List Nat) : Wk X s (s.keep live) := fun ρ fp a w h => ⟨ρ, fp, ⟨h.sim.h, h.sim.tmps, h.sim.defers, fun t => by
 show RepV w _ ρ (gets (live.map fun t => (t, gets s.sl t)) t) _;rw [qba6];split
 ·exact h.sim.slots t
 ·exact .any⟩, h.fresh, h.le⟩
theorem qaab {ops : List SOper} {live : List Nat} (h : SOps X.P ops s [] fun s' _ => Q .normal (s'.keep live)) : SWp X (.reg false ops live) Q s := fun code hc ρ fp a w hs => by
 by_cases hreg : ∃ id o d, code = .region id o d
 ·obtain ⟨id, o, d, rfl⟩ := hreg;obtain ⟨l, e, h1, _⟩ := qadc hc;simp only [SCode.erase, SCode.reg.injEq, and_true] at e;obtain ⟨rfl, rfl⟩ := e;refine wp_region_list ?_;refine sops_ok (Q := fun s' _ => Q .normal (s'.keep live)) ?_ _ _ _ h1 s [] ρ fp a w h hs;intro s' tr ρ' fp' a' w' hq h';obtain ⟨ρ2, fp2, h2⟩ := qbiz live ρ' fp' a' w' h';exact ⟨_, ρ2, fp2, hq, h2⟩
 ·cases code <;> (try simp only [comp, SCode.erase, Option.bind_eq_bind, Option.bind_eq_some_iff, Option.some.injEq, reduceCtorEq, and_false, exists_false, exists_const] at hc)
  case region => exact absurd ⟨_, _, _, rfl⟩ hreg
theorem qa1i {p : Nat → Prop} (h : ∃ n, p n) : ∃ n, p n ∧ ∀ m, p m → n ≤ m := by
 obtain ⟨n, hn⟩ := h;induction n using Nat.strongRecOn with
 | ind n ih =>
  by_cases h : ∃ m, m < n ∧ p m
  ·obtain ⟨m, h1, h2⟩ := h; exact ih m h1 h2
  ·exact ⟨n, hn, fun m hm => Nat.le_of_not_lt fun hl => h ⟨m, hl, hm⟩⟩
def qbk0 (X : Cx) (I : SSt → Nat → Prop) (n : Nat) (Q : SExit → SSt → Prop) : SExit → SSt → Prop
 | .normal, s => ∃ s' m, Wk X s s' ∧ I s' m ∧ m < n
 | e, s => Q e s
theorem qadm {c : SCode} (I : SSt → Nat → Prop) {n : Nat} {s0 : SSt} (hw : Wk X s s0) (h0 : I s0 n) (h : ∀ s n, I s n → SWp X c (qbk0 X I n Q) s) : SWp X (.loop c) Q s := fun code hc ρ fp a w hs => by
 by_cases hreg : ∃ id o d, code = .region id o d
 ·obtain ⟨_, _, _, rfl⟩ := hreg;obtain ⟨_, e, _⟩ := qadc hc;simp [SCode.erase] at e
 cases code <;> (try simp only [comp, SCode.erase, Option.bind_eq_bind, Option.bind_eq_some_iff, Option.some.injEq, reduceCtorEq, and_false, exists_false, exists_const, SCode.loop.injEq] at hc)
 case loop d =>
  obtain ⟨d', h1, rfl⟩ := hc;obtain ⟨ρ0, fp0, hs0⟩ := hw ρ fp a w hs;let p : Act → World → Nat → Prop := fun a w n => ∃ s ρ fp, I s n ∧ SimF X ρ fp s a w
  have hmin : ∀ a w, ∃ n, (∃ m, p a w m) → (p a w n ∧ ∀ m, p a w m → n ≤ m) := fun a w => by
   by_cases h : ∃ m, p a w m
   ·obtain ⟨n, hn⟩ := qa1i h; exact ⟨n, fun _ => hn⟩
   ·exact ⟨0, fun h' => absurd h' h⟩
  have hch := fun a => Classical.axiomOfChoice (hmin a)
  obtain ⟨μ, hμ⟩ := Classical.axiomOfChoice hch;refine wp_loop (fun a w => ∃ n, p a w n) μ ⟨n, s0, ρ0, fp0, h0, hs0⟩ ?_;intro a w hI;obtain ⟨⟨s1, ρ1, fp1, q1, q2⟩, q3⟩ := hμ a w hI;refine wp_mono (h s1 _ q1 d h1 ρ1 fp1 a w q2) ?_;intro e a' w' ho;cases e with
  | normal =>
   obtain ⟨s', ρ', fp', ⟨s2, m, r1, r2, r3⟩, r4⟩ := ho;obtain ⟨ρ2, fp2, r5⟩ := r1 ρ' fp' a' w' r4;have hp : p a' w' m := ⟨s2, ρ2, fp2, r2, r5⟩
   exact ⟨⟨m, hp⟩, Nat.lt_of_le_of_lt ((hμ a' w' ⟨m, hp⟩).2 m hp) r3⟩
  | exit id => exact ho
  | ret => exact ho
  | goto l => exact ho.elim
  | panic c => exact ho.elim
  | outgrown => exact ho.elim
 case region => exact absurd ⟨_, _, _, rfl⟩ hreg
end
section
def renB (σ : Nat → Nat) : SV → SV
 | .ptr id o => .ptr (σ id) o
 | .eptr id z i j => .eptr (σ id) z i j
 | .own id n => .own (σ id) n
 | .owno id z i n => .owno (σ id) z i n
 | .agg _ | .tup _ | .fn _ _ _ | .ifc _ _ => .bot
 | x => x
def renA (σ : Nat → Nat) : SV → SV
 | .agg cs => .agg (cs.map (renB σ))
 | x => renB σ x
def ren0 (σ : Nat → Nat) : SV → SV
 | .ifc t x => .ifc t (renA σ x)
 | .ptr id o => .ptr (σ id) o
 | .eptr id z i j => .eptr (σ id) z i j
 | .own id n => .own (σ id) n
 | .owno id z i n => .owno (σ id) z i n
 | .agg _ | .tup _ => .bot
 | .fn f [] [] => .fn f [] []
 | .fn _ _ _ => .bot
 | x => x
def ren1 (σ : Nat → Nat) : SV → SV
 | .agg cs => .agg (cs.map (ren0 σ))
 | .fn f gs bs => .fn f (gs.map (ren0 σ)) (bs.map (ren0 σ))
 | x => ren0 σ x
def ren (σ : Nat → Nat) : SV → SV
 | .tup cs => .tup (cs.map (ren1 σ))
 | .agg cs => .agg (cs.map (ren1 σ))
 | x => ren1 σ x
variable {w : World} {A : Nat → Prop} {ρ : qact} {σ : Nat → Nat}
theorem RepV.view_any {ρ' : qact} {size : Nat} {es : List (List SV)} {v : Value} (h : RepV w A ρ (.view size es) v) : RepV w A ρ' (.view size es) v := by
 cases h with
 | view0 hc ha => exact .view0 hc ha
 | view cv hn hc hm hA hb hz h1 h2 ho => exact .view cv hn hc hm hA hb hz h1 h2 ho
theorem RepV.cp_any {ρ' : qact} {cs : List SV} {v : Value} (h : RepV w A ρ (.cp cs) v) : RepV w A ρ' (.cp cs) v := by
 cases h with
 | cp cv hA hb h1 h2 ho => exact .cp cv hA hb h1 h2 ho
theorem qasp {x : SV} {v : Value} (h : RepV w A ρ (renB σ x) v) : RepV w A (fun id => ρ (σ id)) x v := by
 cases x with
 | any => exact .any
 | bool b => change RepV w A ρ (.bool b) v at h; cases h; exact .bool
 | int k n => change RepV w A ρ (.int k n) v at h; cases h; exact .int
 | str t => change RepV w A ρ (.str t) v at h; cases h; exact .str
 | nil => change RepV w A ρ .nil v at h; cases h; exact .nil
 | nilsl => change RepV w A ρ .nilsl v at h; cases h; exact .nilsl
 | nilfn => change RepV w A ρ .nilfn v at h; cases h; exact .nilfn
 | niliface => change RepV w A ρ .niliface v at h; cases h; exact .niliface
 | mt => change RepV w A ρ .mt v at h; cases h with | mt hc => exact .mt hc
 | view z es => exact RepV.view_any h
 | cp cs => exact RepV.cp_any h
 | ptr id o => change RepV w A ρ (.ptr (σ id) o) v at h; cases h with | ptr h => exact .ptr h
 | eptr id z i j => change RepV w A ρ (.eptr (σ id) z i j) v at h; cases h with | eptr h => exact .eptr h
 | own id n =>
  change RepV w A ρ (.own (σ id) n) v at h
  cases h with
  | own0 h => exact .own0 h
  | own h h2 h3 => exact .own h h2 h3
 | owno id z i n => change RepV w A ρ (.owno (σ id) z i n) v at h; cases h with | owno h h2 h3 => exact .owno h h2 h3
 | agg cs => change RepV w A ρ .bot v at h; cases h
 | tup cs => change RepV w A ρ .bot v at h; cases h
 | bot => change RepV w A ρ .bot v at h; cases h
 | fn f a b => change RepV w A ρ .bot v at h; cases h
 | ifc t x => change RepV w A ρ .bot v at h; cases h
theorem qbai {x : SV} {v : Value} (h : RepV w A ρ (renA σ x) v) : RepV w A (fun id => ρ (σ id)) x v := by
 cases x with
 | agg cs =>
  change RepV w A ρ (.agg (cs.map (renB σ))) v at h
  cases h with
  | agg ho hl hh =>
   refine .agg ho (by simpa using hl) fun j x v hx hv => qasp (hh j (renB σ x) v ?_ hv)
   rw [List.getElem?_map, hx]; rfl
 | _ => exact qasp h
theorem qaiw {x : SV} {v : Value} (h : RepV w A ρ (ren0 σ x) v) : RepV w A (fun id => ρ (σ id)) x v := by
 cases x with
 | any => exact .any
 | bool b => change RepV w A ρ (.bool b) v at h; cases h; exact .bool
 | int k n => change RepV w A ρ (.int k n) v at h; cases h; exact .int
 | str t => change RepV w A ρ (.str t) v at h; cases h; exact .str
 | nil => change RepV w A ρ .nil v at h; cases h; exact .nil
 | nilsl => change RepV w A ρ .nilsl v at h; cases h; exact .nilsl
 | nilfn => change RepV w A ρ .nilfn v at h; cases h; exact .nilfn
 | niliface => change RepV w A ρ .niliface v at h; cases h; exact .niliface
 | ifc t x => change RepV w A ρ (.ifc t (renA σ x)) v at h; cases h with | ifc h => exact .ifc (qbai h)
 | mt => change RepV w A ρ .mt v at h; cases h with | mt hc => exact .mt hc
 | view z es => exact RepV.view_any h
 | cp cs => exact RepV.cp_any h
 | ptr id o => change RepV w A ρ (.ptr (σ id) o) v at h; cases h with | ptr h => exact .ptr h
 | eptr id z i j => change RepV w A ρ (.eptr (σ id) z i j) v at h; cases h with | eptr h => exact .eptr h
 | own id n =>
  change RepV w A ρ (.own (σ id) n) v at h
  cases h with
  | own0 h => exact .own0 h
  | own h h2 h3 => exact .own h h2 h3
 | owno id z i n => change RepV w A ρ (.owno (σ id) z i n) v at h; cases h with | owno h h2 h3 => exact .owno h h2 h3
 | agg cs => change RepV w A ρ .bot v at h; cases h
 | tup cs => change RepV w A ρ .bot v at h; cases h
 | bot => change RepV w A ρ .bot v at h; cases h
 | fn f a b =>
  cases a with
  | nil =>
   cases b with
   | nil =>
    change RepV w A ρ (.fn f [] []) v at h
    cases h with
    | fn l1 l2 r1 r2 => exact .fn l1 l2 (by simp) (by simp)
   | cons y b => change RepV w A ρ .bot v at h; cases h
  | cons y a => change RepV w A ρ .bot v at h; cases h
theorem qags {f : SV → SV} {g : qact} (hf : ∀ {x v}, RepV w A ρ (f x) v → RepV w A g x v) {cs : List SV} {vs : List Value} (h : ∀ (j : Nat) x v, (cs.map f)[j]? = some x → vs[j]? = some v → RepV w A ρ x v) : ∀ (j : Nat) x v, cs[j]? = some x → vs[j]? = some v → RepV w A g x v := fun j x v hx hv => by
 refine hf (h j (f x) v ?_ hv);rw [List.getElem?_map, hx]; rfl
theorem qal8 {x : SV} {v : Value} (h : RepV w A ρ (ren1 σ x) v) : RepV w A (fun id => ρ (σ id)) x v := by
 cases x with
 | agg cs =>
  change RepV w A ρ (.agg (cs.map (ren0 σ))) v at h
  cases h with
  | agg ho hl hh => exact .agg ho (by simpa using hl) (qags qaiw hh)
 | fn f a b =>
  change RepV w A ρ (.fn f (a.map (ren0 σ)) (b.map (ren0 σ))) v at h
  cases h with
  | fn l1 l2 r1 r2 => exact .fn (by simpa using l1) (by simpa using l2) (qags qaiw r1) (qags qaiw r2)
 | _ => exact qaiw h
theorem qal7 {x : SV} {v : Value} (h : RepV w A ρ (ren σ x) v) : RepV w A (fun id => ρ (σ id)) x v := by
 cases x with
 | agg cs =>
  change RepV w A ρ (.agg (cs.map (ren1 σ))) v at h
  cases h with
  | agg ho hl hh => exact .agg ho (by simpa using hl) (qags qal8 hh)
 | tup cs =>
  change RepV w A ρ (.tup (cs.map (ren1 σ))) v at h
  cases h with
  | tup hl hh => exact .tup (by simpa using hl) (qags qal8 hh)
 | _ => exact qal8 h
theorem qaek {xs : List SV} {vs : List Value} (h : Reps w A ρ (xs.map (ren σ)) vs) : Reps w A (fun id => ρ (σ id)) xs vs := ⟨by simpa using h.1, qags qal7 h.2⟩
def Co (x y : SV) : Prop := ∀ w A ρ v, RepV w A ρ x v → RepV w A ρ y v
theorem Co.refl (x : SV) : Co x x := fun _ _ _ _ h => h
theorem Co.any (x : SV) : Co x .any := fun _ _ _ _ _ => .any
theorem Co.nilsl (z : Nat) : Co .nilsl (.view z []) := fun _ _ _ _ h => by cases h; exact .view0 (by simp [maxLen]) (fun _ => rfl)
def CoL : List SV → List SV → Prop
 | [], [] => True
 | x :: xs, y :: ys => Co x y ∧ CoL xs ys
 | _, _ => False
theorem CoL.refl : ∀ xs, CoL xs xs
 | [] => trivial
 | x :: xs => ⟨.refl x, CoL.refl xs⟩
theorem CoL.length : ∀ {xs ys}, CoL xs ys → xs.length = ys.length
 | [], [], _ => rfl
 | x :: xs, y :: ys, h => by rw [List.length_cons, List.length_cons, CoL.length h.2]
 | [], _ :: _, h => h.elim
 | _ :: _, [], h => h.elim
theorem CoL.reps : ∀ {xs ys : List SV} {vs : List Value}, CoL xs ys → Reps w A ρ xs vs → Reps w A ρ ys vs
 | [], [], _, _, h => h
 | x :: xs, y :: ys, vs, h, hr => by
  obtain ⟨v, us, rfl, h1, h2⟩ := hr.cons_inv;exact Reps.cons (h.1 _ _ _ _ h1) (CoL.reps h.2 h2)
 | [], _ :: _, _, h, _ => h.elim
 | _ :: _, [], _, h, _ => h.elim
theorem CoL.append : ∀ {xs ys us vs : List SV}, CoL xs ys → CoL us vs → CoL (xs ++ us) (ys ++ vs)
 | [], [], _, _, _, h => h
 | x :: xs, y :: ys, _, _, h, g => ⟨h.1, CoL.append h.2 g⟩
 | [], _ :: _, _, _, h, _ => h.elim
 | _ :: _, [], _, _, h, _ => h.elim
theorem Co.agg {xs ys : List SV} (h : CoL xs ys) : Co (.agg xs) (.agg ys) := fun w A ρ v hv => by
 cases hv with
 | agg ho hl hh => have := h.reps ⟨hl, hh⟩; exact .agg ho this.1 this.2
theorem Co.tup {xs ys : List SV} (h : CoL xs ys) : Co (.tup xs) (.tup ys) := fun w A ρ v hv => by
 cases hv with
 | tup hl hh => have := h.reps ⟨hl, hh⟩; exact .tup this.1 this.2
def CoLL : List (List SV) → List (List SV) → Prop
 | [], [] => True
 | x :: xs, y :: ys => CoL x y ∧ CoLL xs ys
 | _, _ => False
theorem CoLL.refl : ∀ xs, CoLL xs xs
 | [] => trivial
 | x :: xs => ⟨.refl x, CoLL.refl xs⟩
theorem CoLL.append : ∀ {xs ys us vs : List (List SV)}, CoLL xs ys → CoLL us vs → CoLL (xs ++ us) (ys ++ vs)
 | [], [], _, _, _, h => h
 | x :: xs, y :: ys, _, _, h, g => ⟨h.1, CoLL.append h.2 g⟩
 | [], _ :: _, _, _, h, _ => h.elim
 | _ :: _, [], _, _, h, _ => h.elim
theorem CoLL.length : ∀ {xs ys}, CoLL xs ys → xs.length = ys.length
 | [], [], _ => rfl
 | x :: xs, y :: ys, h => by rw [List.length_cons, List.length_cons, CoLL.length h.2]
 | [], _ :: _, h => h.elim
 | _ :: _, [], h => h.elim
theorem CoLL.flat : ∀ {xs ys}, CoLL xs ys → CoL xs.flatten ys.flatten
 | [], [], _ => trivial
 | x :: xs, y :: ys, h => by rw [List.flatten_cons, List.flatten_cons]; exact h.1.append (CoLL.flat h.2)
 | [], _ :: _, h => h.elim
 | _ :: _, [], h => h.elim
theorem CoLL.sizes {z : Nat} : ∀ {xs ys}, CoLL xs ys → (∀ x ∈ xs, x.length = z) → ∀ y ∈ ys, y.length = z
 | [], [], _, _, y, hy => by cases hy
 | x :: xs, y :: ys, h, hz, u, hu => by
  rcases List.mem_cons.1 hu with e | e
  ·rw [e, ← h.1.length]; exact hz x (by simp)
  ·exact CoLL.sizes h.2 (fun x hx => hz x (by simp [hx])) u e
 | [], _ :: _, h, _, _, _ => h.elim
 | _ :: _, [], h, _, _, _ => h.elim
def ObjM (σ : Nat → Nat) : SObj → SObj → Prop
 | .cells t cs, .cells t' ds => t = t' ∧ CoL cs (ds.map (ren σ))
 | .row e z es, .row e' z' fs => e = e' ∧ z = z' ∧ CoLL es (fs.map (·.map (ren σ)))
 | .abs I, .abs I' => I = I'
 | _, _ => False
theorem ObjM.back {o o' : SObj} (h : ObjM σ o o') {id : Nat} {F : Nat → Prop} (hr : ObjRep w A ρ (σ id) F o) : ObjRep w A (fun id => ρ (σ id)) id F o' := by
 cases o with
 | cells t cs =>
  cases o' with
  | cells t' ds =>
   obtain ⟨rfl, hco⟩ := h;obtain ⟨b, c, vs, h1, h2, ⟨h3, h4⟩, h5⟩ := hr;exact ⟨b, c, vs, h1, h2, ⟨qaek (hco.reps h3), h4⟩, h5⟩
  | row => exact h.elim
  | abs => exact h.elim
 | row e z es =>
  cases o' with
  | row e' z' fs =>
   obtain ⟨rfl, rfl, hco⟩ := h;obtain ⟨v, vs, h1, ⟨h2, h3⟩, h4, h5, h6⟩ := hr;have hl : es.length = fs.length := by have := hco.length; simpa using this
   refine ⟨v, vs, by rw [← hl]; exact h1, ⟨?_, h3⟩, fun x hx => ?_, h5, h6⟩
   ·have h7 := hco.flat.reps h2;rw [← List.map_flatten] at h7;exact qaek h7
   ·have := hco.sizes h4 (x.map (ren σ)) (List.mem_map.2 ⟨x, hx, rfl⟩);simpa using this
  | cells => exact h.elim
  | abs => exact h.elim
 | abs I =>
  cases o' with
  | abs I' => obtain rfl := h; exact hr
  | cells => exact h.elim
  | row => exact h.elim
def SlotsM (σ : Nat → Nat) (sl : Sl) : Sl → Prop
 | [] => True
 | (t, v) :: r => Co (gets sl t) (ren σ v) ∧ SlotsM σ sl r
def ObjsM (σ : Nat → Nat) (hp : Hp) : Hp → Prop
 | [] => True
 | (i, o') :: r => (∃ o, geth hp (σ i) = some o ∧ ObjM σ o o') ∧ ObjsM σ hp r
theorem SlotsM.get {sl : Sl} : ∀ {l : Sl}, SlotsM σ sl l → ∀ t, gets l t = .any ∨ Co (gets sl t) (ren σ (gets l t))
 | [], _, t => .inl rfl
 | (u, v) :: r, h, t => by
  simp only [gets];split
  ·rename_i e; subst e; exact .inr h.1
  ·exact SlotsM.get h.2 t
theorem ObjsM.get {hp : Hp} : ∀ {l : Hp}, ObjsM σ hp l → ∀ id o', geth l id = some o' → ∃ o, geth hp (σ id) = some o ∧ ObjM σ o o'
 | [], _, id, o', h => by cases h
 | (i, x) :: r, h, id, o', hg => by
  simp only [geth] at hg;split at hg
  ·rename_i e; subst e; cases hg; exact h.1
  ·exact ObjsM.get h.2 id o' hg
def rn : List (Nat × Nat) → Nat → Nat → Nat
 | [], U, id => U + id
 | (i, j) :: D, U, id => if i = id then j else rn D U id
variable {X : Cx} {s s' : SSt}
theorem wk_ren (σ : Nat → Nat) (hm : ∀ id, id < X.m → σ id = id) (hsl : SlotsM σ s.sl s'.sl) (hhp : ObjsM σ s.hp s'.hp) (hinj : ∀ id id', geth s'.hp id ≠ none → geth s'.hp id' ≠ none → σ id = σ id' → id = id') (hfr : ∀ id, s'.nx ≤ id → s.nx ≤ σ id) (hle : X.m ≤ s'.nx) : Wk X s s' := by
 intro ρ fp a w h;have hav : ∀ k, Av X s'.hp (fun id => fp (σ id)) k → Av X s.hp fp k := by
  rintro k (hO | ⟨id, o', ho, hk⟩)
  ·exact .inl hO
  ·obtain ⟨o, h1, _⟩ := hhp.get id o' ho;exact .inr ⟨σ id, o, h1, hk⟩
 refine ⟨fun id => ρ (σ id), fun id => fp (σ id), ⟨⟨fun id o' ho => ?_, fun id id' o o' hne ho ho' k hk => ?_, fun id o ho k hk => ?_, h.sim.h.step, fun id hid => ?_⟩, h.sim.tmps, h.sim.defers, fun t => ?_⟩, fun id hid => h.fresh _ (hfr id hid), hle⟩
 ·obtain ⟨o, h1, h2⟩ := hhp.get id o' ho;exact (h2.back (h.sim.h.objs _ _ h1)).weaken fun k hk _ => hav k hk
 ·obtain ⟨x, h1, _⟩ := hhp.get id o ho;obtain ⟨y, h2, _⟩ := hhp.get id' o' ho';exact h.sim.h.disj _ _ x y (fun e => hne (hinj id id' (by rw [ho]; simp) (by rw [ho']; simp) e)) h1 h2 k hk
 ·obtain ⟨x, h1, _⟩ := hhp.get id o ho;exact h.sim.h.turn _ x h1 k hk
 ·show ρ (σ id) = _;rw [hm id hid]; exact h.sim.h.keep id hid
 ·rcases hsl.get t with h1 | h1
  ·rw [h1]; exact .any
  ·exact (qal7 (h1 _ _ _ _ (h.sim.slots t))).weaken fun k hk _ => hav k hk
theorem qazn {U n : Nat} : ∀ (D : List (Nat × Nat)), (D.all fun p => decide (p.1 < n)) = true → ∀ id, n ≤ id → rn D U id = U + id
 | [], _, id, _ => rfl
 | (i, j) :: D, h, id, hid => by
  simp only [List.all_cons, Bool.and_eq_true, decide_eq_true_eq] at h;rw [rn, if_neg (by omega)];exact qazn D h.2 id hid
def qabc (m n : Nat) (D : List (Nat × Nat)) (hp' : Hp) : Bool :=
 (D.all fun p => decide (p.1 < n)) && ((List.range m).all fun i => rn D 0 i == i && D.any fun p => p.1 == i) && ((idsH hp').all fun i => D.any fun p => p.1 == i) && decide (((D.filter fun p => (idsH hp').contains p.1).map (·.2)).Nodup)
end
section
variable {w : World} {A : Nat → Prop} {ρ : qact} {σ : Nat → Nat} {X : Cx} {s s' : SSt}
theorem qbag {U : Nat} : ∀ (D : List (Nat × Nat)) (id : Nat), (D.any fun p => p.1 == id) = true → rn D U id = rn D 0 id ∧ (id, rn D 0 id) ∈ D
 | [], id, h => by simp at h
 | (i, j) :: D, id, h => by
  by_cases e : i = id
  ·subst e; simp [rn]
  ·simp only [List.any_cons, Bool.or_eq_true, beq_iff_eq, e, false_or] at h;obtain ⟨h1, h2⟩ := qbag (U := U) D id h;simp only [rn, if_neg e];exact ⟨h1, List.mem_cons_of_mem _ h2⟩
theorem qbau {D : List (Nat × Nat)} (h : (D.map (·.2)).Nodup) {a b c : Nat} (h1 : (a, c) ∈ D) (h2 : (b, c) ∈ D) : a = b := by
 induction D with
 | nil => cases h1
 | cons p D ih =>
  rw [List.map_cons, List.nodup_cons] at h;rcases List.mem_cons.1 h1 with e1 | e1
  ·rcases List.mem_cons.1 h2 with e2 | e2
   ·exact (Prod.mk.inj (e1.trans e2.symm)).1
   ·exact absurd (List.mem_map.2 ⟨_, e2, by rw [← e1]⟩) h.1
  ·rcases List.mem_cons.1 h2 with e2 | e2
   ·exact absurd (List.mem_map.2 ⟨_, e1, by rw [← e2]⟩) h.1
   ·exact ih h.2 e1 e2
theorem qad2 : ∀ {hp : Hp} {id : Nat}, geth hp id ≠ none → id ∈ idsH hp
 | [], id, h => absurd rfl h
 | (i, o) :: r, id, h => by
  by_cases e : i = id
  ·subst e; simp [idsH]
  ·simp only [geth, if_neg e] at h;exact List.mem_cons_of_mem _ (qad2 h)
theorem qabl (D : List (Nat × Nat)) {m : Nat} (hm : X.m = m) (hok : qabc m s'.nx D s'.hp = true) (hle : m ≤ s'.nx) (hsl : SlotsM (rn D s.nx) s.sl s'.sl) (hhp : ObjsM (rn D s.nx) s.hp s'.hp) : Wk X s s' := by
 simp only [qabc, Bool.and_eq_true, decide_eq_true_eq] at hok;obtain ⟨⟨⟨h1, h2⟩, h3⟩, h4⟩ := hok;refine wk_ren (rn D s.nx) (fun id hid => ?_) hsl hhp (fun id id' ho ho' e => ?_) (fun id hid => ?_) (by omega)
 ·rw [hm] at hid;have := List.all_eq_true.1 h2 id (List.mem_range.2 hid);simp only [Bool.and_eq_true, beq_iff_eq] at this;rw [(qbag D id this.2).1]; exact this.1
 ·have a1 := List.all_eq_true.1 h3 id (qad2 ho);have a2 := List.all_eq_true.1 h3 id' (qad2 ho');obtain ⟨b1, b2⟩ := qbag (U := s.nx) D id a1;obtain ⟨c1, c2⟩ := qbag (U := s.nx) D id' a2;rw [b1, c1] at e;rw [e] at b2;have m1 : (id, rn D 0 id') ∈ D.filter fun p => (idsH s'.hp).contains p.1 := List.mem_filter.2 ⟨b2, by simpa using qad2 ho⟩
  have m2 : (id', rn D 0 id') ∈ D.filter fun p => (idsH s'.hp).contains p.1 := List.mem_filter.2 ⟨c2, by simpa using qad2 ho'⟩
  exact qbau h4 m1 m2
 ·rw [qazn D h1 id hid]; omega
theorem qayp (t e size : Nat) (h : gets s.sl t = .nilsl) : Wk X s ⟨puts s.sl t (.own s.nx 0), puth s.hp s.nx (.row e size []), s.nx + 1⟩ := by
 intro ρ fp a w hs;obtain ⟨ρ', fp', h1, h2, h3, h4⟩ := hs.sim.h.add (w' := w) hs.le (hs.fresh _ (Nat.le_refl _)) (.row e size []) none (fun _ => False) (Below.refl _ _) (fun _ h => h.elim) fun A' ρ' hp' hpl => ⟨.slice none 0 0, [], RowP.nil _ _ _, ⟨Reps.nil, fun v hv => by cases hv⟩, (fun x hx => by cases hx), hpl, fun k => by simp [Value.ownBlock]⟩
 refine ⟨ρ', fp', ⟨h1, hs.sim.tmps, hs.sim.defers, fun u => ?_⟩, fun id hid => ?_, by have := hs.le; simp only; omega⟩
 ·show RepV w _ ρ' (gets (puts s.sl t (.own s.nx 0)) u) _;rw [qai0];have := hs.sim.slots u;split
  ·rename_i e; subst e
   rw [h] at this;generalize a.tmps.getD u undef = v at this;cases this
   exact .own0 h3
  ·exact h2.rep this
 ·cases e : ρ' id with
  | none => rfl
  | some p =>
   simp only at hid;rcases h4 id (by rw [e]; simp) with h5 | h5
   ·exact absurd (hs.fresh id (by omega)) h5
   ·omega
def qap6 (x : SV) : Prop := ∀ w A ρ v, RepV w A ρ x v → RepV w A noPl x v
theorem qafp (k : IntKind) (n : Int) : qap6 (.int k n) := fun w A ρ v h => by cases h; exact .int
theorem qasq (b : Bool) : qap6 (.bool b) := fun w A ρ v h => by cases h; exact .bool
theorem qaz3 (t : ByteArray) : qap6 (.str t) := fun w A ρ v h => by cases h; exact .str
theorem qaz4 : qap6 .nil := fun w A ρ v h => by cases h; exact .nil
theorem qanj : qap6 .nilsl := fun w A ρ v h => by cases h; exact .nilsl
theorem qahg (z : Nat) (es : List (List SV)) : qap6 (.view z es) := fun w A ρ v h => h.view_any
theorem qbjb (cs : List SV) : qap6 (.cp cs) := fun w A ρ v h => h.cp_any
def qamy (cs : List SV) : Prop := ∀ x ∈ cs, qap6 x
theorem qbal : qamy [] := fun x hx => by cases hx
theorem qaz6 {x : SV} {cs : List SV} (h : qap6 x) (hs : qamy cs) : qamy (x :: cs) := fun y hy => by
 rcases List.mem_cons.1 hy with e | e
 ·rw [e]; exact h
 ·exact hs y e
def qbqg : SObj → Prop
 | .cells _ cs => qamy cs
 | .row _ _ es => ∀ e ∈ es, qamy e
 | .abs _ => False
def frz0 (g : Nat → Option SObj) (D : List Nat) : SV → SV
 | .own id n => if D.contains id then (match g id with
  | some (.row _ z es) => if n ≤ es.length then .view z (es.take n) else .own id n
  | _ => .own id n) else .own id n
 | .owno id z i n => if D.contains id then (match g id with
  | some (.row _ z' es) => if z = z' ∧ i + n ≤ es.length then .view z ((es.drop i).take n) else .owno id z i n
  | _ => .owno id z i n) else .owno id z i n
 | .ptr id off => if D.contains id then (match g id with
  | some (.cells _ cs) => .cp (cs.drop off)
  | _ => .ptr id off) else .ptr id off
 | x => x
def frz1 (g : Nat → Option SObj) (D : List Nat) : SV → SV
 | .agg cs => .agg (cs.map (frz0 g D))
 | .tup cs => .tup (cs.map (frz0 g D))
 | x => frz0 g D x
def frz (g : Nat → Option SObj) (D : List Nat) : SV → SV
 | .tup cs => .tup (cs.map (frz1 g D))
 | x => frz1 g D x
def frzH (g : Nat → Option SObj) (D : List Nat) : Hp → Hp
 | [] => []
 | (i, o) :: r => if D.contains i then frzH g D r else (i, match o with
  | .cells t cs => .cells t (cs.map (frz0 g D))
  | .row e z es => .row e z (es.map (·.map (frz0 g D)))
  | .abs I => .abs I) :: frzH g D r
def frzS (g : Nat → Option SObj) (D : List Nat) : Sl → Sl
 | [] => []
 | (t, v) :: r => (t, frz g D v) :: frzS g D r
def SSt.frz (s : SSt) (D : List Nat) : SSt := ⟨frzS (geth s.hp) D s.sl, frzH (geth s.hp) D s.hp, s.nx⟩
theorem qarb (g : Nat → Option SObj) (D : List Nat) : ∀ (l : Sl) (t : Nat), gets (frzS g D l) t = Go.Proofs.YtalejfkholifpaaGreat.frz g D (gets l t)
 | [], t => rfl
 | (u, v) :: r, t => by
  simp only [frzS, gets];split
  ·rfl
  ·exact qarb g D r t
theorem qarc (g : Nat → Option SObj) (D : List Nat) : ∀ (h : Hp) (i : Nat), geth (frzH g D h) i = if D.contains i then none else (geth h i).map fun o => match o with
  | .cells t cs => .cells t (cs.map (frz0 g D))
  | .row e z es => .row e z (es.map (·.map (frz0 g D)))
  | .abs I => .abs I
 | [], i => by simp [frzH, geth]
 | (j, o) :: r, i => by
  simp only [frzH];split
  ·rename_i hj;rw [qarc g D r];split
   ·rfl
   ·rename_i hi;have : j ≠ i := fun e => hi (e ▸ hj)
    simp [geth, this]
  ·rename_i hj;by_cases e : j = i
   ·subst e; simp only [geth, if_pos, hj]; rfl
   ·simp only [geth, if_neg e]; exact qarc g D r i
theorem qans {ρ' : qact} {A' : Nat → Prop} {f : SV → SV} (hf : ∀ {x v}, RepV w A ρ x v → RepV w A' ρ' (f x) v) {cs : List SV} {vs : List Value} (h : ∀ (j : Nat) x v, cs[j]? = some x → vs[j]? = some v → RepV w A ρ x v) : ∀ (j : Nat) x v, (cs.map f)[j]? = some x → vs[j]? = some v → RepV w A' ρ' x v := fun j x v hx hv => by
 rw [List.getElem?_map, Option.map_eq_some_iff] at hx;obtain ⟨y, hy, rfl⟩ := hx;exact hf (h j y v hy hv)
theorem qbk4 (D : List Nat) (hp : ∀ id o, D.contains id = true → geth s.hp id = some o → qbqg o) : Wk X s (s.frz D) := by
 intro ρ fp a w h
 have hg' : ∀ id o', geth (frzH (geth s.hp) D s.hp) id = some o' → D.contains id = false ∧ ∃ o, geth s.hp id = some o ∧ o' = (match o with
  | .cells t cs => .cells t (cs.map (frz0 (geth s.hp) D))
  | .row e z es => .row e z (es.map (·.map (frz0 (geth s.hp) D)))
  | .abs I => .abs I) := fun id o' ho => by
  rw [qarc] at ho;split at ho
  ·cases ho
  ·rename_i hc;rw [Option.map_eq_some_iff] at ho;obtain ⟨o, h1, h2⟩ := ho;exact ⟨by simpa using hc, o, h1, h2.symm⟩
 have hav : ∀ k, Av X (frzH (geth s.hp) D s.hp) fp k → Av X s.hp fp k := by
  rintro k (hO | ⟨id, o', ho, hk⟩)
  ·exact .inl hO
  ·obtain ⟨_, o, h1, _⟩ := hg' id o' ho;exact .inr ⟨id, o, h1, hk⟩
 have hfree : ∀ id o k, D.contains id = true → geth s.hp id = some o → fp id k → ¬ Av X (frzH (geth s.hp) D s.hp) fp k := by
  rintro id o k hc ho hk (hO | ⟨id', o', ho', hk'⟩)
  ·rcases (h.sim.h.turn id o ho k hk).1 with h1 | h1
   ·exact X.O_M k hO h1
   ·exact absurd (X.O_lt k hO) (Nat.not_lt_of_le h1)
  ·obtain ⟨h1, o2, h2, _⟩ := hg' id' o' ho';have hne : id ≠ id' := fun e => by rw [e, h1] at hc; cases hc
   exact h.sim.h.disj id id' o o2 hne ho h2 k hk hk'
 have f0 : ∀ {x v}, RepV w (Av X s.hp fp) ρ x v → RepV w (Av X (frzH (geth s.hp) D s.hp) fp) ρ (frz0 (geth s.hp) D x) v := by
  intro x v hx;have hx' := hx.weaken (A' := Av X (frzH (geth s.hp) D s.hp) fp) fun k hk _ => hav k hk
  unfold frz0;split
  ·rename_i id n;split
   ·rename_i hc;split
    ·rename_i e z es ho;split
     ·rename_i hn;obtain ⟨v0, us, how, ⟨hrep, huo⟩, hzs, hρ', hfp⟩ := h.sim.h.objs id _ ho;cases hx with
      | own0 hρ => rw [List.take_zero]; exact .view0 (by simp [maxLen]) (fun _ => rfl)
      | own hρ hnc hm =>
       rename_i b c;rw [hρ] at hρ';have hp0 : qad9 v0 = some (b, c) := (Option.some.inj hρ').symm;obtain ⟨hv0, hcell, hlt, _, _⟩ := qaez how hp0;have hown : fp id b := (hfp b).2 (by rw [hv0]; rfl);have hget : ∀ i e j x, (es.take n)[i]? = some e → e[j]? = some x → es.flatten[i * z + j]? = some x := fun i e j x he hx => by
        rw [List.getElem?_take] at he;split at he
        ·exact qah9 hzs he hx
        ·cases he
       have hval : ∀ i e j x, (es.take n)[i]? = some e → e[j]? = some x → ∃ u, us[i * z + j]? = some u ∧ RepV w (Av X s.hp fp) ρ x u := fun i e j x he hx => hrep.get (hget i e j x he hx)
       refine .view (fun i j => us.getD (i * z + j) undef) (by simp; omega) hnc hm (hfree id _ b hc ho hown) hlt (fun e he => hzs e (List.mem_of_mem_take he)) (fun i e j x he hx => ?_) (fun i e j x he hx => ?_) (fun i e j x he hx => ?_)
       ·obtain ⟨u, h1, h2⟩ := hval i e j x he hx;rw [Nat.zero_add, List.getD_eq_getElem?_getD, h1];exact hcell _ _ h1
       ·obtain ⟨u, h1, h2⟩ := hval i e j x he hx;rw [List.getD_eq_getElem?_getD, h1];have hpe := hp id _ hc ho e (by rw [List.getElem?_take] at he; split at he; exact List.mem_of_getElem? he; cases he) x (List.mem_of_getElem? hx);exact (hpe _ _ _ _ h2).weaken fun k hk _ => hav k hk
       ·obtain ⟨u, h1, h2⟩ := hval i e j x he hx;rw [List.getD_eq_getElem?_getD, h1];exact huo u (List.mem_of_getElem? h1)
     ·exact hx'
    ·exact hx'
   ·exact hx'
  ·rename_i id z1 i1 n;split
   ·rename_i hc;split
    ·rename_i e z es ho;split
     ·rename_i hn;obtain ⟨rfl, hn⟩ := hn;obtain ⟨v0, us, how, ⟨hrep, huo⟩, hzs, hρ', hfp⟩ := h.sim.h.objs id _ ho;cases hx with
      | owno hρ hnc hm =>
       rename_i b c;rw [hρ] at hρ';have hp0 : qad9 v0 = some (b, c) := (Option.some.inj hρ').symm;obtain ⟨hv0, hcell, hlt, _, _⟩ := qaez how hp0;have hown : fp id b := (hfp b).2 (by rw [hv0]; rfl);have hin : ∀ i e, ((es.drop i1).take n)[i]? = some e → es[i1 + i]? = some e := fun i e he => by
        rw [List.getElem?_take] at he;split at he
        ·rw [List.getElem?_drop] at he; exact he
        ·cases he
       have hval : ∀ i e j x, ((es.drop i1).take n)[i]? = some e → e[j]? = some x → ∃ u, us[(i1 + i) * z1 + j]? = some u ∧ RepV w (Av X s.hp fp) ρ x u := fun i e j x he hx => hrep.get (qah9 hzs (hin i e he) hx)
       refine .view (fun i j => us.getD ((i1 + i) * z1 + j) undef) (by simp; omega) (by omega) (by omega) (hfree id _ b hc ho hown) hlt (fun e he => hzs e (List.mem_of_mem_drop (List.mem_of_mem_take he))) (fun i e j x he hx => ?_) (fun i e j x he hx => ?_) (fun i e j x he hx => ?_)
       ·obtain ⟨u, h1, h2⟩ := hval i e j x he hx;rw [show i1 * z1 + i * z1 + j = (i1 + i) * z1 + j by rw [Nat.add_mul], List.getD_eq_getElem?_getD, h1];exact hcell _ _ h1
       ·obtain ⟨u, h1, h2⟩ := hval i e j x he hx;rw [List.getD_eq_getElem?_getD, h1];exact (hp id _ hc ho e (List.mem_of_getElem? (hin i e he)) x (List.mem_of_getElem? hx) _ _ _ _ h2).weaken fun k hk _ => hav k hk
       ·obtain ⟨u, h1, h2⟩ := hval i e j x he hx;rw [List.getD_eq_getElem?_getD, h1];exact huo u (List.mem_of_getElem? h1)
     ·exact hx'
    ·exact hx'
   ·exact hx'
  ·rename_i id off;split
   ·rename_i hc;split
    ·rename_i t cs ho;obtain ⟨b, c, us, hρ', hbl, ⟨hrep, huo⟩, hfp⟩ := h.sim.h.objs id _ ho;cases hx with
     | ptr hρ =>
      rw [hρ] at hρ'; cases hρ'
      have hval : ∀ (j : Nat) x, (cs.drop off)[j]? = some x → ∃ u, us[off + j]? = some u ∧ RepV w (Av X s.hp fp) ρ x u := fun j x hx => by
       rw [List.getElem?_drop] at hx;exact hrep.get hx
      refine .cp (fun j => us.getD (off + j) undef) (hfree id _ b hc ho ((hfp b).2 rfl)) hbl.lt (fun j x hx => ?_) (fun j x hx => ?_) (fun j x hx => ?_)
      ·obtain ⟨u, h1, h2⟩ := hval j x hx;rw [hbl.cell, List.getD_eq_getElem?_getD, h1];simpa using h1
      ·obtain ⟨u, h1, h2⟩ := hval j x hx;rw [List.getD_eq_getElem?_getD, h1];exact (hp id _ hc ho x (List.mem_of_mem_drop (List.mem_of_getElem? hx)) _ _ _ _ h2).weaken fun k hk _ => hav k hk
      ·obtain ⟨u, h1, h2⟩ := hval j x hx;rw [List.getD_eq_getElem?_getD, h1];exact huo u (List.mem_of_getElem? h1)
    ·exact hx'
   ·exact hx'
  ·exact hx'
 have f1 : ∀ {x v}, RepV w (Av X s.hp fp) ρ x v → RepV w (Av X (frzH (geth s.hp) D s.hp) fp) ρ (frz1 (geth s.hp) D x) v := by
  intro x v hx;unfold frz1;split
  ·cases hx with
   | agg ho hl hh => exact .agg ho (by simpa using hl) (qans f0 hh)
  ·cases hx with
   | tup hl hh => exact .tup (by simpa using hl) (qans f0 hh)
  ·exact f0 hx
 have f2 : ∀ {x v}, RepV w (Av X s.hp fp) ρ x v → RepV w (Av X (frzH (geth s.hp) D s.hp) fp) ρ (Go.Proofs.YtalejfkholifpaaGreat.frz (geth s.hp) D x) v := by
  intro x v hx;unfold Go.Proofs.YtalejfkholifpaaGreat.frz;split
  ·cases hx with
   | tup hl hh => exact .tup (by simpa using hl) (qans f1 hh)
  ·exact f1 hx
 refine ⟨ρ, fp, ⟨⟨fun id o' ho => ?_, fun id id' o o' hne ho ho' => ?_, fun id o ho => ?_, h.sim.h.step, h.sim.h.keep⟩, h.sim.tmps, h.sim.defers, fun t => ?_⟩, h.fresh, h.le⟩
 ·obtain ⟨_, o, h1, rfl⟩ := hg' id o' ho;have hr := h.sim.h.objs id o h1;cases o with
  | cells t cs =>
   obtain ⟨b, c, vs, q1, q2, ⟨q3, q4⟩, q5⟩ := hr;exact ⟨b, c, vs, q1, q2, ⟨⟨by simpa using q3.1, qans f0 q3.2⟩, q4⟩, q5⟩
  | row e z es =>
   obtain ⟨v, vs, q1, ⟨q2, q3⟩, q4, q5, q6⟩ := hr;refine ⟨v, vs, by simpa using q1, ⟨⟨?_, ?_⟩, q3⟩, fun x hx => ?_, q5, q6⟩
   ·rw [← List.map_flatten, List.length_map]; exact q2.1
   ·rw [← List.map_flatten]; exact qans f0 q2.2
   ·obtain ⟨y, hy, rfl⟩ := List.mem_map.1 hx;simpa using q4 y hy
  | abs I =>
   obtain ⟨b, c, q1, q2⟩ := hr;exact ⟨b, c, q1, I.keep q2 (.refl _ _) (fun k hk _ => hav k hk) fun _ _ => rfl⟩
 ·obtain ⟨_, x, h1, _⟩ := hg' id o ho;obtain ⟨_, y, h2, _⟩ := hg' id' o' ho';exact h.sim.h.disj id id' x y hne h1 h2
 ·obtain ⟨_, x, h1, _⟩ := hg' id o ho;exact h.sim.h.turn id x h1
 ·show RepV w _ ρ (gets (frzS (geth s.hp) D s.sl) t) _;rw [qarb];exact f2 (h.sim.slots t)
end
section
variable {w : World} {A : Nat → Prop} {ρ : qact} {σ : Nat → Nat} {X : Cx} {s s' : SSt}
def resV (P : Program) (s : SSt) : ResultVar → Option SV
 | .tmp t => some (gets s.sl t)
 | .cell a t => match qag8 P t, qab8 P t with
  | some false, some _ => ((SOp.load (.t a)).run (·.ev s.sl) (geth s.hp) s.nx).map (·.1)
  | some true, some n => ((SOp.loads n (.t a)).run (·.ev s.sl) (geth s.hp) s.nx).map (·.1)
  | _, _ => none
def resL (P : Program) (s : SSt) : List ResultVar → Option (List SV)
 | [] => some []
 | r :: rs => match resV P s r, resL P s rs with
  | some v, some vs => some (v :: vs)
  | _, _ => none
def one_ : List SV → SV
 | [v] => v
 | vs => .tup vs
def qafc (P : Program) (s : SSt) (rs : List ResultVar) : Option SV := (resL P s rs).map one_
def qbah (tmps : Array Value) : ResultVar → Sem Value
 | .tmp t => pure (tmps.getD t undef)
 | .cell a t => do loadVar t (← asAddr (tmps.getD a undef))
theorem qbjk {P : Program} {t : TypeId} {x : Operand} {a : Act} {v' : Value} (h : ∀ o : Oper, o.op = .load t x → (execOp a.eval o).run P w = .ok (.value v') w) : (do loadVar t (← asAddr (a.eval x)) : Sem Value).run P w = .ok v' w := by
 have h1 := h ⟨none, .load t x, 0, "", #[], none⟩ rfl;simp only [execOp, Instr.loadAt, Sem.run_bind] at h1;generalize a.eval x = y at h1;cases y with
 | pointer p =>
  cases p with
  | none => simp [Instr.sureAddr, stuck, Sem.run, Result.andThen] at h1
  | some ad =>
   simp only [Instr.sureAddr, Sem.run_pure, Result.andThen_ok] at h1;simp only [asAddr, Sem.run_bind, Sem.run_pure, Result.andThen_ok];generalize (loadVar t ad).run P w = r at h1;cases r with
   | ok u w' => simp only [Result.andThen_ok, Result.ok.injEq, Next.value.injEq] at h1; rw [h1.1, h1.2]
   | halt u w' => simp [Result.andThen] at h1
 | _ => simp [Instr.sureAddr, stuck, Sem.run, Result.andThen] at h1
theorem resV_ok {ρ : qact} {fp : Nat → Nat → Prop} {a : Act} {w : World} (h : SimF X ρ fp s a w) {r : ResultVar} {v : SV} (hr : resV X.P s r = some v) : ∃ v', (qbah a.tmps r).run X.P w = .ok v' w ∧ RepV w (Av X s.hp fp) ρ v v' := by
 have hobj : ∀ id o, geth s.hp id = some o → ∃ fp', ObjRep w (Av X s.hp fp) ρ id fp' o := fun id o ho => ⟨_, h.sim.h.objs id o ho⟩
 cases r with
 | tmp t =>
  simp only [resV, Option.some.injEq] at hr;subst hr;exact ⟨_, rfl, h.sim.slots t⟩
 | cell b t =>
  simp only [resV] at hr;have hx : cx (b + 1) (.tmp b) = some (.t b) := by simp [cx]
  split at hr
  ·rename_i n hb hn;simp only [Option.map_eq_some_iff] at hr;obtain ⟨⟨v1, u, nx⟩, h1, rfl⟩ := hr;obtain ⟨_, v', h2, h3⟩ := qbjf h.sim.slots hobj hx hb h1;exact ⟨v', qbjk h2, h3⟩
  ·rename_i n hb hn;simp only [Option.map_eq_some_iff] at hr;obtain ⟨⟨v1, u, nx⟩, h1, rfl⟩ := hr;obtain ⟨_, v', h2, h3⟩ := qa0f h.sim.slots hobj hx hb hn h1;exact ⟨v', qbjk h2, h3⟩
  ·cases hr
theorem qbi8 {ρ : qact} {fp : Nat → Nat → Prop} {a : Act} {w : World} (h : SimF X ρ fp s a w) : ∀ {rs : List ResultVar} {vs : List SV}, resL X.P s rs = some vs → ∃ us, (rs.mapM (qbah a.tmps)).run X.P w = .ok us w ∧ Reps w (Av X s.hp fp) ρ vs us
 | [], vs, hr => by simp only [resL, Option.some.injEq] at hr; subst hr; exact ⟨[], rfl, Reps.nil⟩
 | r :: rs, vs, hr => by
  simp only [resL] at hr;split at hr
  ·rename_i v vs' h1 h2;cases hr
   obtain ⟨u, q1, q2⟩ := resV_ok h h1;obtain ⟨us, q3, q4⟩ := qbi8 h h2;exact ⟨u :: us, by simp [List.mapM_cons, q1, q3], Reps.cons q2 q4⟩
  ·cases hr
theorem qazr {ρ : qact} {fp : Nat → Nat → Prop} {a : Act} {w : World} (h : SimF X ρ fp s a w) {fn : Func} {r : SV} (hr : qafc X.P s fn.results.toList = some r) : ∃ v, (results fn a.tmps).run X.P w = .ok v w ∧ RepV w (Av X s.hp fp) ρ r v := by
 simp only [qafc, Option.map_eq_some_iff] at hr;obtain ⟨vs, h1, rfl⟩ := hr;obtain ⟨us, h2, h3⟩ := qbi8 h h1;have hm : (results fn a.tmps).run X.P w = .ok (if h : us.toArray.size = 1 then us.toArray[0] else .tuple us.toArray) w := by
  have e : (fn.results.mapM (qbah a.tmps)).run X.P w = .ok us.toArray w := by
   rw [Array.mapM_eq_mapM_toList]; simp [h2]
  have e2 : results fn a.tmps = (fn.results.mapM (qbah a.tmps) >>= fun vs => pure (if h : vs.size = 1 then vs[0] else .tuple vs)) := by
   unfold results;congr 1
  rw [e2, Sem.run_bind, e];rfl
 refine ⟨_, hm, ?_⟩;match vs, us, h3 with
 | [], us, h3 => obtain rfl := h3.nil_inv; exact .tup rfl (by simp)
 | [v], us, h3 =>
  obtain ⟨u, us', rfl, h4, h5⟩ := h3.cons_inv;obtain rfl := h5.nil_inv;exact h4
 | v :: v2 :: vs, us, h3 =>
  obtain ⟨u, us', rfl, h4, h5⟩ := h3.cons_inv;obtain ⟨u2, us2, rfl, h6, h7⟩ := h5.cons_inv;rw [dif_neg (by simp)];exact .tup h3.1 h3.2
def ltV (m : Nat) (x : SV) : Prop := ren (fun i => if i < m then i else m) x = x
def LtL (m : Nat) : List SV → Prop
 | [] => True
 | x :: xs => ltV m x ∧ LtL m xs
theorem LtL.map {m : Nat} : ∀ {xs : List SV}, LtL m xs → xs.map (ren (fun i => if i < m then i else m)) = xs
 | [], _ => rfl
 | x :: xs, h => by rw [List.map_cons, h.1, LtL.map h.2]
def LtO (m : Nat) : SObj → Prop
 | .cells _ cs => cs.map (ren (fun i => if i < m then i else m)) = cs
 | .row _ _ es => es.map (·.map (ren (fun i => if i < m then i else m))) = es
 | .abs _ => True
def LtH (m : Nat) : Hp → Prop
 | [] => True
 | (i, o) :: r => i < m ∧ LtO m o ∧ LtH m r
theorem LtH.get {m : Nat} : ∀ {h : Hp}, LtH m h → ∀ id o, geth h id = some o → id < m ∧ LtO m o
 | [], _, id, o, h => by cases h
 | (i, x) :: r, h, id, o, hg => by
  simp only [geth] at hg;split at hg
  ·rename_i e; subst e; cases hg; exact ⟨h.1, h.2.1⟩
  ·exact LtH.get h.2.2 id o hg
theorem LtO.objM {m : Nat} {o : SObj} (h : LtO m o) : ObjM (fun i => if i < m then i else m) o o := by
 cases o with
 | cells t cs => exact ⟨rfl, by rw [show cs.map (ren _) = cs from h]; exact .refl _⟩
 | row e z es => exact ⟨rfl, rfl, by rw [show es.map (fun x => x.map (ren (fun i => if i < m then i else m))) = es from h]; exact .refl _⟩
 | abs I => rfl
def argS : Nat → List SV → Sl
 | _, [] => []
 | i, x :: xs => (i, x) :: argS (i + 1) xs
theorem qas3 : ∀ (xs : List SV) (i t : Nat), gets (argS i xs) t = if t < i then .any else (xs[t - i]?).getD .any
 | [], i, t => by simp [argS, gets]
 | x :: xs, i, t => by
  simp only [argS, gets, qas3 xs];by_cases e : i = t
  ·subst e; simp
  ·rw [if_neg e];by_cases h : t < i
   ·rw [if_pos h, if_pos (by omega)]
   ·rw [if_neg h, if_neg (by omega)];obtain ⟨d, hd⟩ : ∃ d, t - i = d + 1 := ⟨t - i - 1, by omega⟩
    rw [hd, show t - (i + 1) = d by omega, List.getElem?_cons_succ]
def QFunN (n : Nat) (X : Cx) (rs : List ResultVar) (m : Nat) (r : SV) (h2 : Hp) : SExit → SSt → Prop
 | .exit _, _ => False
 | _, s => ∃ s', Wk X s s' ∧ qafc X.P s' rs = some r ∧ SubH s'.hp h2 ∧ s'.nx ≤ m + n
abbrev QFun (X : Cx) (rs : List ResultVar) (m : Nat) (r : SV) (h2 : Hp) : SExit → SSt → Prop := QFunN 8 X rs m r h2
theorem qaze (n : Nat) (hn0 : 0 < n) {P : Program} {f : FuncId} {fn : Func} {N m : Nat} {code : Code} {c : SCode} {args : List SV} {h1 h2 : Hp} {r : SV} (hf : P.funcs[f]? = some fn) (hb : fn.body = some code) (hN : fn.ntmps = N) (hname : (fn.name == "runtime.NumGoroutine") = false) (hc : comp P N code = some c.erase) (hal : args.length ≤ N)
  (hla : LtL m args) (hlh : LtH m h1)
  (h : ∀ X : Cx, X.P = P → X.N = N → X.m = m → SWp X c (QFunN n X fn.results.toList m r h2) ⟨argS 0 args, h1, m⟩) : SCalls P f args h1 m r h2 n := by
 refine ⟨.of hf (by rw [hb]; rfl) hname, fun O ρ fp w vs hok hargs hfr => ?_⟩;let σ : Nat → Nat := fun i => if i < m then i else m
 let ρi : qact := fun id => ρ (σ id)
 have hm0 : ρ m = none := hfr m (Nat.le_refl _) (by omega);let X : Cx := ⟨P, N, m, ρi, w, Live h1 fp, O, hok.O_lt, fun k hO hl => (hok.lt k hl).2 hO, []⟩
 have hgl : ∀ id o, geth h1 id = some o → id < m ∧ σ id = id := fun id o ho => by
  have := (hlh.get id o ho).1;exact ⟨this, if_pos this⟩
 have hfp : (fun id => fp id) = fp := rfl;have hsimh : SimH X ρi fp h1 w := by
  refine ⟨fun id o ho => ?_, hok.disj, fun id o ho k hk => ⟨.inl ⟨id, o, ho, hk⟩, (hok.lt k ⟨id, o, ho, hk⟩).1⟩, .refl _ _, fun _ _ => rfl⟩;have h3 := hok.objs id o ho;obtain ⟨h4, h5⟩ := hgl id o ho;have h6 := (hlh.get id o ho).2.objM;rw [show id = σ id from h5.symm] at h3;have := h6.back h3;rw [h5] at this;exact this
 have hlen := hargs.1;have hreps : Reps w (Av X h1 fp) ρi args vs := by
  have h3 : Reps w (fun k => O k ∨ Live h1 fp k) ρ (args.map (ren σ)) vs := by rw [hla.map]; exact hargs
  exact qaek h3
 let a0 : Act := { tmps := vs.toArray ++ Array.replicate (fn.ntmps - vs.toArray.size) undef, defers := [] }
 have hsz : a0.tmps.size = N := by simp [a0, hN]; omega
 have hsim : SimF X ρi fp ⟨argS 0 args, h1, m⟩ a0 w := by
  refine ⟨⟨hsimh, hsz, rfl, fun t => ?_⟩, fun id hid => ?_, Nat.le_refl _⟩
  ·show RepV w _ ρi (gets (argS 0 args) t) _;rw [qas3, if_neg (by omega), Nat.sub_zero];cases e : args[t]? with
   | none => exact .any
   | some x =>
    obtain ⟨v, h3, h4⟩ := hreps.get e;have hlt : t < vs.length := (List.getElem?_eq_some_iff.1 h3).1;have : a0.tmps.getD t undef = v := by
     have h5 : a0.tmps[t]? = some v := by
      simp only [a0];rw [Array.getElem?_append_left (by simpa using hlt)];simpa using h3
     rw [Array.getD_eq_getD_getElem?, h5]; rfl
    rw [this]; exact h4
  ·show ρ (σ id) = none;simp only [σ];rw [if_neg (by simp only at hid; omega)]; exact hm0
 have hw := h X rfl rfl rfl code hc ρi fp a0 w hsim;refine calls_of_wp hf hb (wp_mono hw ?_)
 have fin : ∀ s ρ' fp' a w', (∃ s', Wk X s s' ∧ qafc X.P s' fn.results.toList = some r ∧ SubH s'.hp h2 ∧ s'.nx ≤ m + n) → SimF X ρ' fp' s a w' →
   a.defers = [] ∧ ∃ v, (results fn a.tmps).run P w' = .ok v w' ∧ ∃ v2 ρ2 fp2, Ending.returned v = .returned v2 ∧ HeapOk O ρ2 fp2 h2 w' ∧ RepV w' (fun k => O k ∨ Live h2 fp2 k) ρ2 r v2 ∧ Step (Live h1 fp) w w' ∧
    (∀ id p, ρ id = some p → ρ2 id = some p) ∧ (∀ id, ρ2 id ≠ none → ρ id ≠ none ∨ (m ≤ id ∧ id < m + n)) ∧ ∀ id o, geth h2 id = some o → ∀ k, fp2 id k → Live h1 fp k ∨ w.heap.size ≤ k := by
  rintro s ρ' fp' a w' ⟨s', hwk, hres, hsb, hnx⟩ hs;obtain ⟨ρ3, fp3, hs3⟩ := hwk ρ' fp' a w' hs;obtain ⟨v, q1, q2⟩ := qazr hs3 hres
  let ρ2 : qact := fun id => match ρ id with
   | some p => some p
   | none => ρ3 id
  have hext : ∀ id p, ρ3 id = some p → ρ2 id = some p := fun id p hp => by
   simp only [ρ2];cases e : ρ id with
   | none => exact hp
   | some p' =>
    simp only;by_cases hid : id < m
    ·have h5 : ρ3 id = ρi id := hs3.sim.h.keep id hid;rw [h5] at hp;simp only [ρi, σ, if_pos hid, e] at hp;exact hp
    ·by_cases hid2 : id < m + n
     ·rw [hfr id (by omega) hid2] at e; cases e
     ·rw [hs3.fresh id (by omega)] at hp; cases hp
  have hsg := hsb.get;have hav : ∀ k, (O k ∨ Live h2 fp3 k) → Av X s'.hp fp3 k := by
   rintro k (hO | ⟨id, o, ho, hk⟩)
   ·exact .inl hO
   ·exact .inr ⟨id, o, hsg id o ho, hk⟩
  refine ⟨hs3.sim.defers, v, q1, v, ρ2, fp3, rfl, ⟨fun id o ho => ?_, fun id id' o o' hne ho ho' => hs3.sim.h.disj id id' o o' hne (hsg _ _ ho) (hsg _ _ ho'), ?_, ?_⟩, q2.mono (.refl _ _) (fun k h _ => hav k h) hext, hs3.sim.h.step, fun id p hp => ?_, fun id hid => ?_, fun id o ho k hk => ?_⟩
  ·exact (hs3.sim.h.objs id o (hsg _ _ ho)).mono ⟨.refl _ _, fun k h _ => hav k h, hext⟩ fun _ _ => rfl
  ·rintro k ⟨id, o, ho, hk⟩;obtain ⟨h5, h6⟩ := hs3.sim.h.turn id o (hsg _ _ ho) k hk;refine ⟨h6, fun hO => ?_⟩;rcases h5 with h5 | h5
   ·exact X.O_M k hO h5
   ·exact absurd (hok.O_lt k hO) (Nat.not_lt_of_le h5)
  ·exact fun k hO => Nat.lt_of_lt_of_le (hok.O_lt k hO) hs3.sim.h.step.size
  ·simp only [ρ2, hp]
  ·cases e : ρ id with
   | some p => exact .inl (by simp)
   | none =>
    simp only [ρ2, e] at hid;refine .inr ?_;by_cases hlt : id < m
    ·have h5 : ρ3 id = ρi id := hs3.sim.h.keep id hlt;rw [h5] at hid;simp only [ρi, σ, if_pos hlt, e] at hid;exact absurd rfl hid
    ·refine ⟨by omega, Nat.lt_of_not_le fun hge => hid (hs3.fresh id (by omega))⟩
  ·exact (hs3.sim.h.turn id o (hsg _ _ ho) k hk).1
 intro e a w' ho;cases e with
 | normal => obtain ⟨s, ρ', fp', h3, h4⟩ := ho; exact fin s ρ' fp' a w' h3 h4
 | ret => obtain ⟨s, ρ', fp', h3, h4⟩ := ho; exact fin s ρ' fp' a w' h3 h4
 | exit id => obtain ⟨s, ρ', fp', h3, h4⟩ := ho; exact h3.elim
 | goto l => exact ho.elim
 | panic c => exact ho.elim
 | outgrown => exact ho.elim
theorem qasj {P : Program} {f : FuncId} {fn : Func} {N m : Nat} {code : Code} {c : SCode} {args : List SV} {h1 h2 : Hp} {r : SV} (hf : P.funcs[f]? = some fn) (hb : fn.body = some code) (hN : fn.ntmps = N) (hname : (fn.name == "runtime.NumGoroutine") = false) (hc : comp P N code = some c.erase) (hal : args.length ≤ N)
  (hla : LtL m args) (hlh : LtH m h1)
  (h : ∀ X : Cx, X.P = P → X.N = N → X.m = m → SWp X c (QFun X fn.results.toList m r h2) ⟨argS 0 args, h1, m⟩) : SCalls P f args h1 m r h2 := qaze 8 (by decide) hf hb hN hname hc hal hla hlh h
end
section
variable {w : World} {A : Nat → Prop} {ρ ρ2 : qact} {σ : Nat → Nat}
def okB : SV → Bool
 | .agg _ | .tup _ | .fn _ _ _ | .ifc _ _ => false
 | _ => true
def okA : SV → Bool
 | .agg cs => cs.all okB
 | x => okB x
def ok0 : SV → Bool
 | .ifc _ x => okA x
 | .agg _ | .tup _ => false
 | .fn _ [] [] => true
 | .fn _ _ _ => false
 | _ => true
def ok1 : SV → Bool
 | .agg cs => cs.all ok0
 | .fn _ a b => a.all ok0 && b.all ok0
 | x => ok0 x
def ok2 : SV → Bool
 | .tup cs => cs.all ok1
 | .agg cs => cs.all ok1
 | x => ok1 x
theorem qazt (hσ : ∀ c p, ρ c = some p → ρ2 (σ c) = some p) {x : SV} {v : Value} (hx : okB x = true) (h : RepV w A ρ x v) : RepV w A ρ2 (renB σ x) v := by
 cases h with
 | any => exact .any
 | bool => exact .bool
 | int => exact .int
 | str => exact .str
 | nil => exact .nil
 | nilsl => exact .nilsl
 | nilfn => exact .nilfn
 | niliface => exact .niliface
 | ifc h => simp [okB] at hx
 | mt hc => exact .mt hc
 | view0 hc ha => exact .view0 hc ha
 | view cv hn hc hm hA hb hz h1 h2 ho => exact .view cv hn hc hm hA hb hz h1 h2 ho
 | cp cv hA hb h1 h2 ho => exact .cp cv hA hb h1 h2 ho
 | ptr h => exact .ptr (hσ _ _ h)
 | eptr h => exact .eptr (hσ _ _ h)
 | own0 h => exact .own0 (hσ _ _ h)
 | own h hn hm => exact .own (hσ _ _ h) hn hm
 | owno h hn hm => exact .owno (hσ _ _ h) hn hm
 | agg => simp [okB] at hx
 | tup => simp [okB] at hx
 | fn => simp [okB] at hx
theorem qblv (hσ : ∀ c p, ρ c = some p → ρ2 (σ c) = some p) {x : SV} {v : Value} (hx : okA x = true) (h : RepV w A ρ x v) : RepV w A ρ2 (renA σ x) v := by
 cases x with
 | agg cs =>
  cases h with
  | agg ho hl hh =>
   refine .agg ho (by simpa using hl) fun j x v hx' hv => ?_
   rw [List.getElem?_map, Option.map_eq_some_iff] at hx';obtain ⟨y, hy, rfl⟩ := hx';exact qazt hσ (List.all_eq_true.1 hx y (List.mem_of_getElem? hy)) (hh j y v hy hv)
 | _ => (simp only [okA] at hx; exact qazt hσ hx h)
theorem qal9 (hσ : ∀ c p, ρ c = some p → ρ2 (σ c) = some p) {x : SV} {v : Value} (hx : ok0 x = true) (h : RepV w A ρ x v) : RepV w A ρ2 (ren0 σ x) v := by
 cases h with
 | any => exact .any
 | bool => exact .bool
 | int => exact .int
 | str => exact .str
 | nil => exact .nil
 | nilsl => exact .nilsl
 | nilfn => exact .nilfn
 | niliface => exact .niliface
 | ifc h => exact .ifc (qblv hσ hx h)
 | mt hc => exact .mt hc
 | view0 hc ha => exact .view0 hc ha
 | view cv hn hc hm hA hb hz h1 h2 ho => exact .view cv hn hc hm hA hb hz h1 h2 ho
 | cp cv hA hb h1 h2 ho => exact .cp cv hA hb h1 h2 ho
 | ptr h => exact .ptr (hσ _ _ h)
 | eptr h => exact .eptr (hσ _ _ h)
 | own0 h => exact .own0 (hσ _ _ h)
 | own h hn hm => exact .own (hσ _ _ h) hn hm
 | owno h hn hm => exact .owno (hσ _ _ h) hn hm
 | agg => simp [ok0] at hx
 | tup => simp [ok0] at hx
 | fn l1 l2 r1 r2 =>
  rename_i f fs cs vs us;cases fs with
  | nil =>
   cases cs with
   | nil => exact .fn l1 l2 (by simp) (by simp)
   | cons y b => simp [ok0] at hx
  | cons y a => simp [ok0] at hx
theorem qah8 {f : SV → SV} {ok : SV → Bool} (hf : ∀ {x v}, ok x = true → RepV w A ρ x v → RepV w A ρ2 (f x) v) {cs : List SV} {vs : List Value} (hk : cs.all ok = true) (h : ∀ (j : Nat) x v, cs[j]? = some x → vs[j]? = some v → RepV w A ρ x v) : ∀ (j : Nat) x v, (cs.map f)[j]? = some x → vs[j]? = some v → RepV w A ρ2 x v := fun j x v hx hv => by
 rw [List.getElem?_map, Option.map_eq_some_iff] at hx;obtain ⟨y, hy, rfl⟩ := hx;exact hf (List.all_eq_true.1 hk y (List.mem_of_getElem? hy)) (h j y v hy hv)
theorem qaqm (hσ : ∀ c p, ρ c = some p → ρ2 (σ c) = some p) {x : SV} {v : Value} (hx : ok1 x = true) (h : RepV w A ρ x v) : RepV w A ρ2 (ren1 σ x) v := by
 cases x with
 | agg cs =>
  cases h with
  | agg ho hl hh => exact .agg ho (by simpa using hl) (qah8 (qal9 hσ) hx hh)
 | fn f gs bs =>
  simp only [ok1, Bool.and_eq_true] at hx;cases h with
  | fn l1 l2 r1 r2 => exact .fn (by simpa using l1) (by simpa using l2) (qah8 (qal9 hσ) hx.1 r1) (qah8 (qal9 hσ) hx.2 r2)
 | _ => (refine qal9 hσ ?_ h; exact hx)
theorem qbi9 (hσ : ∀ c p, ρ c = some p → ρ2 (σ c) = some p) {x : SV} {v : Value} (hx : ok2 x = true) (h : RepV w A ρ x v) : RepV w A ρ2 (ren σ x) v := by
 cases x with
 | agg cs =>
  cases h with
  | agg ho hl hh => exact .agg ho (by simpa using hl) (qah8 (qaqm hσ) hx hh)
 | tup cs =>
  cases h with
  | tup hl hh => exact .tup (by simpa using hl) (qah8 (qaqm hσ) hx hh)
 | _ => (refine qaqm hσ ?_ h; exact hx)
theorem qazs (hσ : ∀ c p, ρ c = some p → ρ2 (σ c) = some p) {xs : List SV} {vs : List Value} (hx : xs.all ok2 = true) (h : Reps w A ρ xs vs) : Reps w A ρ2 (xs.map (ren σ)) vs := ⟨by simpa using h.1, qah8 (qbi9 hσ) hx h.2⟩
def ObjF (σ : Nat → Nat) : SObj → SObj → Prop
 | .cells t cs, .cells t' ds => t = t' ∧ cs.all ok2 = true ∧ ds = cs.map (ren σ)
 | .row e z es, .row e' z' fs => e = e' ∧ z = z' ∧ (∀ x ∈ es, x.all ok2 = true) ∧ fs = es.map (·.map (ren σ))
 | .abs I, .abs I' => I = I'
 | _, _ => False
theorem ObjF.fwd {o o' : SObj} (h : ObjF σ o o') (hσ : ∀ c p, ρ c = some p → ρ2 (σ c) = some p) {id : Nat} {F : Nat → Prop} (hr : ObjRep w A ρ id F o) : ObjRep w A ρ2 (σ id) F o' := by
 cases o with
 | cells t cs =>
  cases o' with
  | cells t' ds =>
   obtain ⟨rfl, hk, rfl⟩ := h;obtain ⟨b, c, vs, h1, h2, ⟨h3, h4⟩, h5⟩ := hr;exact ⟨b, c, vs, hσ _ _ h1, h2, ⟨qazs hσ hk h3, h4⟩, h5⟩
  | row => exact h.elim
  | abs => exact h.elim
 | row e z es =>
  cases o' with
  | row e' z' fs =>
   obtain ⟨rfl, rfl, hk, rfl⟩ := h;obtain ⟨v, vs, h1, ⟨h2, h3⟩, h4, h5, h6⟩ := hr;refine ⟨v, vs, by simpa using h1, ⟨?_, h3⟩, fun x hx => ?_, hσ _ _ h5, h6⟩
   ·rw [← List.map_flatten];refine qazs hσ (List.all_eq_true.2 fun x hx => ?_) h2;obtain ⟨l, hl, hx⟩ := List.mem_flatten.1 hx;exact List.all_eq_true.1 (hk l hl) x hx
   ·obtain ⟨y, hy, rfl⟩ := List.mem_map.1 hx;simpa using h4 y hy
  | cells => exact h.elim
  | abs => exact h.elim
 | abs I =>
  cases o' with
  | abs I' => obtain rfl := h; obtain ⟨b, c, h1, h2⟩ := hr; exact ⟨b, c, hσ _ _ h1, h2⟩
  | cells => exact h.elim
  | row => exact h.elim
def sg (τ : List Nat) (q c : Nat) : Nat := if c < τ.length then τ.getD c 0 else if c < τ.length + 8 then q + (c - τ.length) else q
def ObjsF (σ : Nat → Nat) (h' : Hp) : Hp → Prop
 | [] => True
 | (i, o) :: r => (∃ o', geth h' (σ i) = some o' ∧ ObjF σ o o') ∧ ObjsF σ h' r
theorem ObjsF.get {h' : Hp} : ∀ {h : Hp}, ObjsF σ h' h → ∀ id o, geth h id = some o → ∃ o', geth h' (σ id) = some o' ∧ ObjF σ o o'
 | [], _, id, o, hg => by cases hg
 | (i, x) :: r, h, id, o, hg => by
  simp only [geth] at hg;split at hg
  ·rename_i e; subst e; cases hg; exact h.1
  ·exact ObjsF.get h.2 id o hg
theorem sg_inj {τ : List Nat} {q : Nat} (hn : τ.Nodup) (hq : ∀ i ∈ τ, i < q ∨ q + 8 ≤ i) {a b : Nat} (ha : a < τ.length + 8) (hb : b < τ.length + 8) (h : sg τ q a = sg τ q b) : a = b := by
 unfold sg at h;by_cases h1 : a < τ.length
 ·rw [if_pos h1] at h;have ma : τ.getD a 0 ∈ τ := by rw [List.getD_eq_getElem?_getD, List.getElem?_eq_getElem h1]; exact List.getElem_mem _
  by_cases h2 : b < τ.length
  ·rw [if_pos h2] at h;rw [List.getD_eq_getElem?_getD, List.getD_eq_getElem?_getD, List.getElem?_eq_getElem h1, List.getElem?_eq_getElem h2] at h;exact (List.getElem_inj hn).1 h
  ·rw [if_neg h2, if_pos hb] at h;have := hq _ ma; omega
 ·rw [if_neg h1, if_pos ha] at h;by_cases h2 : b < τ.length
  ·rw [if_pos h2] at h;have mb : τ.getD b 0 ∈ τ := by rw [List.getD_eq_getElem?_getD, List.getElem?_eq_getElem h2]; exact List.getElem_mem _
   have := hq _ mb; omega
  ·rw [if_neg h2, if_pos hb] at h; omega
theorem qacp (τ : List Nat) {P : Program} {f : FuncId} {args args' : List SV} {h1 h1' h2 h2' : Hp} {r r' : SV} {q m : Nat} (h : SCalls P f args h1 m r h2) (hm : m = τ.length) (hn : τ.Nodup) (hq : ∀ i ∈ τ, i < q ∨ q + 8 ≤ i)
  (ha : args' = args.map (ren (sg τ q))) (hh1 : ObjsM (sg τ q) h1' h1) (hlt1 : ∀ i ∈ idsH h1, i < m) (hr : r' = ren (sg τ q) r) (hrk : ok2 r = true) (hh2 : ObjsF (sg τ q) h2' h2) (hlt2 : ∀ i ∈ idsH h2, i < m + 8) (hb2 : idsH h2' = (idsH h2).map (sg τ q)) : SCalls P f args' h1' q r' h2' := by
 subst hm ha hr;refine ⟨h.1, fun O ρ fp w vs hok hargs hfr => ?_⟩;have hnone : ∀ c, τ.length ≤ c → ρ (sg τ q c) = none := fun c hc => by
  unfold sg;rw [if_neg (by omega)];split
  ·exact hfr _ (by omega) (by omega)
  ·exact hfr _ (Nat.le_refl _) (by omega)
 have hsub : ∀ k, Live h1 (fun c => fp (sg τ q c)) k → Live h1' fp k := by
  rintro k ⟨c, o, ho, hk⟩;obtain ⟨o', h3, _⟩ := hh1.get c o ho;exact ⟨_, o', h3, hk⟩
 have hok1 : HeapOk O (fun c => ρ (sg τ q c)) (fun c => fp (sg τ q c)) h1 w := by
  refine ⟨fun c o ho => ?_, fun c d o o' hne ho ho' => ?_, fun k hk => hok.lt k (hsub k hk), hok.O_lt⟩
  ·obtain ⟨o', h3, h4⟩ := hh1.get c o ho;exact (h4.back (hok.objs _ _ h3)).weaken fun k hk _ => hk.imp (fun h => h) (hsub k)
  ·obtain ⟨x, h3, _⟩ := hh1.get c o ho;obtain ⟨y, h4, _⟩ := hh1.get d o' ho';refine hok.disj _ _ x y (fun e => hne (sg_inj hn hq ?_ ?_ e)) h3 h4
   ·have := hlt1 c (qad2 (by rw [ho]; simp)); omega
   ·have := hlt1 d (qad2 (by rw [ho']; simp)); omega
 refine (h.2 O (fun c => ρ (sg τ q c)) (fun c => fp (sg τ q c)) w vs hok1 ((qaek hargs).weaken fun k hk _ => hk.imp (fun h => h) (hsub k)) (fun id h3 _ => hnone id h3)).mono ?_;rintro e w' ⟨v, ρc, fpc, rfl, q1, q2, q3, q4, q5, q6⟩
 let ρ' : qact := fun id => match ρ id with
  | some p => some p
  | none => if q ≤ id ∧ id < q + 8 then ρc (τ.length + (id - q)) else none
 have hσ : ∀ c p, ρc c = some p → ρ' (sg τ q c) = some p := fun c p hp => by
  rcases q5 c (by rw [hp]; simp) with h3 | h3
  ·obtain ⟨p0, h4⟩ := Option.ne_none_iff_exists'.1 h3;have h5 := q4 c p0 h4;rw [hp] at h5; cases h5
   simp only [ρ', h4]
  ·have h4 : sg τ q c = q + (c - τ.length) := by unfold sg; rw [if_neg (by omega), if_pos (by omega)]
   have h5 := hnone c h3.1;simp only [ρ', h5];rw [h4, if_pos (by omega), show τ.length + (q + (c - τ.length) - q) = c by omega]; exact hp
 let fp' : Nat → Nat → Prop := fun id k => ∃ c, geth h2 c ≠ none ∧ sg τ q c = id ∧ fpc c k
 have hinv : ∀ id o', geth h2' id = some o' → ∃ c o, geth h2 c = some o ∧ sg τ q c = id ∧ ObjF (sg τ q) o o' := fun id o' ho' => by
  have h3 := qad2 (hp := h2') (id := id) (by rw [ho']; simp);rw [hb2] at h3;obtain ⟨c, hc, rfl⟩ := List.mem_map.1 h3;have h4 : geth h2 c ≠ none := by
   have gen : ∀ {h : Hp}, c ∈ idsH h → geth h c ≠ none := by
    intro h;induction h with
    | nil => intro h; cases h
    | cons x h ih =>
     obtain ⟨i, o⟩ := x;intro hc;by_cases e : i = c
     ·simp [geth, e]
     ·simp only [geth, if_neg e];exact ih ((List.mem_cons.1 hc).resolve_left (Ne.symm e))
   exact gen hc
  obtain ⟨o, h5⟩ := Option.ne_none_iff_exists'.1 h4;obtain ⟨o2, h6, h7⟩ := hh2.get c o h5;rw [ho'] at h6; cases h6
  exact ⟨c, o, h5, rfl, h7⟩
 have hfp : ∀ c o, geth h2 c = some o → fp' (sg τ q c) = fpc c := fun c o ho => by
  funext k
  apply propext;constructor
  ·rintro ⟨d, h3, h4, h5⟩;have hlt : ∀ {x}, geth h2 x ≠ none → x < τ.length + 8 := fun hx => hlt2 _ (qad2 hx)
   rw [sg_inj hn hq (hlt h3) (hlt (by rw [ho]; simp)) h4] at h5; exact h5
  ·intro hk; exact ⟨c, by rw [ho]; simp, rfl, hk⟩
 have hlive : ∀ k, Live h2' fp' k → Live h2 fpc k := by
  rintro k ⟨id, o', ho', c, h3, h4, h5⟩;obtain ⟨o, h6⟩ := Option.ne_none_iff_exists'.1 h3;exact ⟨c, o, h6, h5⟩
 refine ⟨v, ρ', fp', rfl, ⟨fun id o' ho' => ?_, fun id id' o o' hne ho ho' k hk hk' => ?_, fun k hk => q1.lt k (hlive k hk), q1.O_lt⟩, (qbi9 hσ hrk q2).weaken fun k hk _ => hk.imp (fun h => h) (hlive k), q3.mono hsub, fun id p hp => ?_, fun id hid => ?_, fun id o' ho' k hk => ?_⟩
 ·obtain ⟨c, o, h3, rfl, h4⟩ := hinv id o' ho';rw [hfp c o h3];exact (h4.fwd hσ (q1.objs c o h3)).weaken fun k hk _ => hk.imp (fun h => h) (hlive k)
 ·obtain ⟨c, oc, h3, rfl, _⟩ := hinv id o ho;obtain ⟨d, od, h4, rfl, _⟩ := hinv id' o' ho';rw [hfp c oc h3] at hk;rw [hfp d od h4] at hk';exact q1.disj c d oc od (fun e => hne (by rw [e])) h3 h4 k hk hk'
 ·simp only [ρ', hp]
 ·cases e : ρ id with
  | some p => exact .inl (by simp)
  | none =>
   simp only [ρ', e] at hid;split at hid
   ·exact .inr ‹_›
   ·exact absurd rfl hid
 ·obtain ⟨c, o, h3, rfl, _⟩ := hinv id o' ho';rw [hfp c o h3] at hk;exact (q6 c o h3 k hk).imp (hsub k) fun h => h
theorem qabt {P : Program} {f : FuncId} {args : List SV} {r : SV} (h : SCalls P f args [] 0 r []) (ha : ∀ σ, args.map (ren σ) = args) (hr : ∀ σ, ren σ r = r) (hk : ok2 r = true) (q : Nat) : SCalls P f args [] q r [] :=
 qacp [] h rfl (by simp) (by simp) (ha _).symm trivial (by simp [idsH]) (hr _).symm hk trivial (by simp [idsH]) rfl
theorem qask {P : Program} {f : FuncId} {args args' : List SV} {h1 h2 : Hp} {q : Nat} {r : SV} (h : SCalls P f args' h1 q r h2) (hc : CoL args args') : SCalls P f args h1 q r h2 :=
 ⟨h.1, fun O ρ fp w vs hok hargs hfr => h.2 O ρ fp w vs hok (hc.reps hargs) hfr⟩
end
section
variable {w : World} {A : Nat → Prop} {ρ : qact}
def nums (k : IntKind) (xs : List Int) : SV := .view 1 (xs.map fun x => [.int k x])
def LayP {α : Type} (L : Lay α) (f : α → List SV) : Prop := ∀ A w x cs, L.rep A w x cs → Reps w A noPl (f x) cs ∧ Ones cs
theorem qacy (k : IntKind) : LayP (Lay.int k) (fun x => [.int k x]) := fun A w x cs h => by
 rw [h.1]; exact ⟨Reps.cons .int Reps.nil, fun v hv => by simp at hv; rw [hv]; rfl⟩
theorem qacr {α β : Type} {L : Lay α} {M : Lay β} {f : α → List SV} {g : β → List SV} (hf : LayP L f) (hg : LayP M g) : LayP (Lay.pair L M) (fun x => f x.1 ++ g x.2) := fun A w x cs h => by
 obtain ⟨c, d, rfl, h1, h2⟩ := h;obtain ⟨r1, o1⟩ := hf _ _ _ _ h1;obtain ⟨r2, o2⟩ := hg _ _ _ _ h2;exact ⟨r1.append r2, fun v hv => (List.mem_append.1 hv).elim (o1 v) (o2 v)⟩
theorem qag6 {α β : Type} {L : Lay α} {f : α → List SV} (g : β → α) (hf : LayP L f) : LayP (Lay.map g L) (fun x => f (g x)) := fun A w x cs h => hf _ _ _ _ h
theorem qagl {α : Type} {L : Lay α} {f : α → List SV} (hf : LayP L f) {ao : Option Addr} {n c : Nat} {xs : List α} (h : RdL L A w ao n c xs) : RepV w A ρ (.view L.size (xs.map f)) (.slice ao n c) := by
 by_cases h0 : 0 < n
 ·obtain ⟨b, off, rfl, hA, hb, hh⟩ := h.here h0;have hl := h.len;have get : ∀ i e j x, (xs.map f)[i]? = some e → e[j]? = some x → ∃ u, w.cell? ⟨b, off + i * L.size + j, none⟩ = some u ∧ RepV w A noPl x u ∧ u.oneCell' = true := fun i e j x he hx => by
   rw [List.getElem?_map, Option.map_eq_some_iff] at he;obtain ⟨y, hy, rfl⟩ := he;obtain ⟨hi, rfl⟩ := List.getElem?_eq_some_iff.1 hy;obtain ⟨cs, h1, h2⟩ := hh i hi;obtain ⟨r, o⟩ := hf _ _ _ _ h1;have hj : j < (f xs[i]).length := (List.getElem?_eq_some_iff.1 hx).1;have hjs : j < L.size := by rw [← L.len h1, ← r.1]; exact hj
   obtain ⟨u, hu, hr⟩ := r.get hx;exact ⟨u, by rw [h2 j hjs]; exact hu, hr, o u (List.mem_of_getElem? hu)⟩
  refine .view (fun i j => (w.cell? ⟨b, off + i * L.size + j, none⟩).getD undef) (by simp [hl]) h.le h.max hA hb (fun e he => ?_) (fun i e j x he hx => ?_) (fun i e j x he hx => ?_) (fun i e j x he hx => ?_)
  ·obtain ⟨y, hy, rfl⟩ := List.mem_map.1 he;obtain ⟨i, hi0⟩ := List.getElem?_of_mem hy;obtain ⟨hi, rfl⟩ := List.getElem?_eq_some_iff.1 hi0;obtain ⟨cs, h1, _⟩ := hh i hi;rw [(hf _ _ _ _ h1).1.1, L.len h1]
  ·obtain ⟨u, h1, _⟩ := get i e j x he hx; rw [h1]; rfl
  ·obtain ⟨u, h1, h2, _⟩ := get i e j x he hx; rw [h1]; exact h2
  ·obtain ⟨u, h1, _, h3⟩ := get i e j x he hx; rw [h1]; exact h3
 ·have hn : n = 0 := by omega
  have : xs = [] := List.eq_nil_of_length_eq_zero (by rw [h.len, hn]);subst this hn;exact .view0 h.max h.nil
theorem qadr {α : Type} {L : Lay α} {f : α → List SV} (hf : LayP L f) : LayP (Lay.slice L) (fun xs => [.view L.size (xs.map f)]) := fun A w x cs h => by
 obtain ⟨ao, n, c, rfl, h1⟩ := h;exact ⟨Reps.cons (qagl hf h1) Reps.nil, fun v hv => by simp at hv; rw [hv]; rfl⟩
theorem rd_view {k : IntKind} {ao : Option Addr} {n c : Nat} {xs : List Int} (h : Rd w k ao n c xs) (hA : ∀ a, ao = some a → 0 < n → ¬ A a.block) : RepV w A ρ (nums k xs) (.slice ao n c) := qagl (qacy k) (h.lay A hA)
theorem view_rd {k : IntKind} {v : Value} {xs : List Int} (h : RepV w A ρ (nums k xs) v) (hf : AllFit k xs) : ∃ ao c, v = .slice ao xs.length c ∧ Rd w k ao xs.length c xs ∧ ∀ a, ao = some a → 0 < xs.length → ¬ A a.block := by
 unfold nums at h;cases xs with
 | nil =>
  cases h with
  | view0 hc ha => exact ⟨_, _, rfl, ⟨rfl, hf, Nat.zero_le _, hc, by simp, ha⟩, by simp⟩
  | view cv hn hc hm hA hb hz h1 h2 ho => subst hn; exact ⟨_, _, rfl, ⟨rfl, hf, Nat.zero_le _, hm, by simp, by simp⟩, by simp⟩
 | cons y ys =>
  generalize hxs : y :: ys = xs at *;generalize hes : (xs.map fun x => [SV.int k x]) = es at h;cases h with
  | view0 hc ha => rw [← hxs] at hes; simp at hes
  | view cv hn hc hm hA hb hz h1 h2 ho =>
   rename_i b off n c;have hl : xs.length = n := by rw [← hn, ← hes]; simp
   refine ⟨some ⟨b, off, none⟩, c, by rw [hl], ⟨rfl, hf, by omega, hm, fun _ => ⟨b, off, rfl, fun i hi => ?_⟩, by simp⟩, fun a ha _ => by cases ha; exact hA⟩;have he : es[i]? = some [SV.int k xs[i]] := by rw [← hes]; simp [hi]
   have r1 := h1 i _ 0 _ he rfl;have r2 := h2 i _ 0 _ he rfl;simp only [Nat.mul_one, Nat.add_zero] at r1;rw [r1];generalize cv i 0 = u at r2;cases r2
   have : el xs i = xs[i] := by unfold el; simp [hi]
   rw [this]
theorem law_of {P : Program} {f : FuncId} {args : List SV} {vs : List Value} (h : SCalls P f args [] 0 (.bool true) []) (hr : Reps w (fun _ => False) noPl args vs) : Calls P f vs.toArray w fun e w' => e = .returned (.bool true) ∧ Below w.heap.size w w' := by
 refine (h.2 (fun _ => False) noPl (fun _ _ => False) w vs ⟨fun id o ho => by simp [geth] at ho, fun id id' o o' _ ho => by simp [geth] at ho, fun k ⟨id, o, ho, _⟩ => by simp [geth] at ho, fun k h => h.elim⟩ (hr.weaken fun k hk _ => hk.elim (fun h => h) fun ⟨id, o, ho, _⟩ => by simp [geth] at ho) (fun _ _ _ => rfl)).mono ?_;rintro e w' ⟨v, ρ', fp', rfl, _, q2, q3, _⟩;cases q2
 exact ⟨rfl, q3.below (Nat.le_refl _) fun k ⟨id, o, ho, _⟩ => by simp [geth] at ho⟩
theorem qbaa {P : Program} {f : FuncId} {args : List SV} {r : SV} (he : Enters P f)
  (h : ∀ (O : Nat → Prop) (w : World) (vs : List Value), (∀ k, O k → k < w.heap.size) → Reps w O noPl args vs → Calls P f vs.toArray w fun e w' => ∃ v, e = .returned v ∧ Below w.heap.size w w' ∧ RepV w' O noPl r v)
  (ha : ∀ σ, args.map (ren σ) = args) (q : Nat) : SCalls P f args [] q r [] := by
 refine ⟨he, fun O ρ fp w vs hok hargs hfr => ?_⟩;have hO : (fun k => O k ∨ Live [] fp k) = O := by funext k; simp [Live, geth]
 rw [hO] at hargs;have ha' : Reps w O noPl args vs := by
  have h1 : Reps w O ρ (args.map (ren fun _ => q)) vs := by rw [ha]; exact hargs
  have h2 := qaek h1;have e : (fun id => ρ ((fun _ => q) id)) = noPl := by funext id; exact hfr q (Nat.le_refl _) (by omega)
  rw [e] at h2; exact h2
 refine (h O w vs hok.O_lt ha').mono ?_;rintro e w' ⟨v, rfl, hb, hr⟩;refine ⟨v, ρ, fp, rfl, ⟨fun id o ho => by simp [geth] at ho, fun id id' o o' _ ho => by simp [geth] at ho, fun k ⟨id, o, ho, _⟩ => by simp [geth] at ho, fun k hk => Nat.lt_of_lt_of_le (hok.O_lt k hk) hb.size⟩, ?_, .of hb, fun _ _ h => h, fun id h => .inl h, fun id o ho => by simp [geth] at ho⟩;exact hr.mono (.refl _ _) (fun k hk _ => by have := congrFun hO k; rw [← this]; exact hk) fun _ _ h => by cases h
end
theorem qae8 {id : Nat} {o : SObj} {fp : Nat → Nat → Prop} {k : Nat} : Live [(id, o)] fp k ↔ fp id k := by
 unfold Live;constructor
 ·rintro ⟨j, x, hj, hk⟩;simp only [geth] at hj;split at hj
  ·rename_i e; subst e; exact hk
  ·cases hj
 ·exact fun h => ⟨id, o, by simp [geth], h⟩
theorem qaf8 {id j : Nat} {o x : SObj} (h : geth [(id, o)] j = some x) : j = id ∧ x = o := by
 simp only [geth] at h;split at h
 ·rename_i e; subst e; cases h; exact ⟨rfl, rfl⟩
 ·cases h
theorem qado {P : Program} {f : FuncId} {args : List SV} {I1 I2 : AbsI} {r : SV} (he : Enters P f)
  (h : ∀ (O Fp : Nat → Prop) (w : World) (b : Nat) (vs : List Value), I1.I w (fun k => O k ∨ Fp k) Fp b → (∀ k, O k → k < w.heap.size) → (∀ k, Fp k → ¬ O k) → Reps w (fun k => O k ∨ Fp k) noPl args vs →
   Calls P f (.pointer (some ⟨b, 0, none⟩) :: vs).toArray w fun e w' => ∃ v Fp', e = .returned v ∧ I2.I w' (fun k => O k ∨ Fp' k) Fp' b ∧ (∀ k, Fp' k → Fp k ∨ w.heap.size ≤ k) ∧ Step Fp w w' ∧ RepV w' (fun k => O k ∨ Fp' k) noPl r v)
  (ha : ∀ σ, args.map (ren σ) = args) (id q : Nat) : SCalls P f (.ptr id 0 :: args) [(id, .abs I1)] q r [(id, .abs I2)] := by
 refine ⟨he, fun O ρ fp w vs hok hargs hfr => ?_⟩;obtain ⟨v0, us, rfl, h0, hus⟩ := hargs.cons_inv;have hL : (fun k => O k ∨ Live [(id, SObj.abs I1)] fp k) = fun k => O k ∨ fp id k := by funext k; rw [qae8]
 rw [hL] at hus;obtain ⟨b, c, hb, hI⟩ := hok.objs id _ (show geth [(id, SObj.abs I1)] id = some (.abs I1) by simp [geth]);rw [hL] at hI;have ha' : Reps w (fun k => O k ∨ fp id k) noPl args us := by
  have h1 : Reps w (fun k => O k ∨ fp id k) ρ (args.map (ren fun _ => q)) us := by rw [ha]; exact hus
  have h2 := qaek h1;have e : (fun id => ρ ((fun _ => q) id)) = noPl := by funext id; exact hfr q (Nat.le_refl _) (by omega)
  rw [e] at h2; exact h2
 cases h0 with
 | ptr hp =>
  rw [hb] at hp;cases hp
  refine (h O (fp id) w b us hI hok.O_lt (fun k hk => (hok.lt k (qae8.2 hk)).2) ha').mono ?_;rintro e w' ⟨v, Fp', rfl, hI2, hF, hs, hr⟩;have hfp : ∀ k, (fun j k => if j = id then Fp' k else fp j k) id k ↔ Fp' k := fun k => by simp
  have hL2 : (fun k => O k ∨ Live [(id, SObj.abs I2)] (fun j k => if j = id then Fp' k else fp j k) k) = fun k => O k ∨ Fp' k := by funext k; rw [qae8]; simp
  refine ⟨v, ρ, fun j k => if j = id then Fp' k else fp j k, rfl, ⟨?_, ?_, ?_, ?_⟩, ?_, ?_, fun _ _ h => h, fun _ h => .inl h, ?_⟩
  ·intro j o hj;obtain ⟨rfl, rfl⟩ := qaf8 hj;rw [hL2];exact ⟨b, c, hb, by simpa using hI2⟩
  ·intro j j' o o' hne h1 h2;exact absurd ((qaf8 h1).1.trans (qaf8 h2).1.symm) hne
  ·intro k hk;rw [qae8] at hk;have hk2 := (hfp k).1 hk;exact ⟨I2.lt hI2 k hk2, fun ho => (hF k hk2).elim (fun h => (hok.lt k (qae8.2 h)).2 ho) fun h => Nat.not_lt_of_le h (hok.O_lt k ho)⟩
  ·exact fun k hk => Nat.lt_of_lt_of_le (hok.O_lt k hk) hs.size
  ·rw [hL2]; exact hr.mono (.refl _ _) (fun _ h _ => h) fun _ _ h => by cases h
  ·exact hs.mono fun k hk => qae8.2 hk
  ·intro j o hj k hk;obtain ⟨rfl, rfl⟩ := qaf8 hj;exact (hF k ((hfp k).1 hk)).imp (fun h => qae8.2 h) fun h => h
theorem qana {P : Program} {f : FuncId} {args : List SV} {I : AbsI} (he : Enters P f)
  (h : ∀ (O : Nat → Prop) (w : World) (vs : List Value), (∀ k, O k → k < w.heap.size) → Reps w O noPl args vs →
   Calls P f vs.toArray w fun e w' => ∃ b Fp, e = .returned (.pointer (some ⟨b, 0, none⟩)) ∧ I.I w' (fun k => O k ∨ Fp k) Fp b ∧ (∀ k, Fp k → w.heap.size ≤ k) ∧ Below w.heap.size w w')
  (ha : ∀ σ, args.map (ren σ) = args) (q : Nat) : SCalls P f args [] q (.ptr q 0) [(q, .abs I)] := by
 refine ⟨he, fun O ρ fp w vs hok hargs hfr => ?_⟩;have hO : (fun k => O k ∨ Live [] fp k) = O := by funext k; simp [Live, geth]
 rw [hO] at hargs;have hq : ρ q = none := hfr q (Nat.le_refl _) (by omega);have ha' : Reps w O noPl args vs := by
  have h1 : Reps w O ρ (args.map (ren fun _ => q)) vs := by rw [ha]; exact hargs
  have h2 := qaek h1;have e : (fun id => ρ ((fun _ => q) id)) = noPl := by funext id; exact hq
  rw [e] at h2; exact h2
 refine (h O w vs hok.O_lt ha').mono ?_;rintro e w' ⟨b, Fp, rfl, hI, hF, hs⟩;refine ⟨_, fun j => if j = q then some (some (b, 0)) else ρ j, fun j k => if j = q then Fp k else fp j k, rfl, ⟨?_, ?_, ?_, ?_⟩, .ptr (c := 0) (by simp), .of hs, ?_, ?_, ?_⟩
 ·intro j o hj;obtain ⟨rfl, rfl⟩ := qaf8 hj;have hL2 : (fun k => O k ∨ Live [(j, SObj.abs I)] (fun i k => if i = j then Fp k else fp i k) k) = fun k => O k ∨ Fp k := by funext k; rw [qae8]; simp
  rw [hL2];exact ⟨b, 0, by simp, by simpa using hI⟩
 ·intro j j' o o' hne h1 h2;exact absurd ((qaf8 h1).1.trans (qaf8 h2).1.symm) hne
 ·intro k hk;rw [qae8] at hk;have hk2 : Fp k := by simpa using hk
  exact ⟨I.lt hI k hk2, fun ho => Nat.not_lt_of_le (hF k hk2) (hok.O_lt k ho)⟩
 ·exact fun k hk => Nat.lt_of_lt_of_le (hok.O_lt k hk) hs.size
 ·intro j p hj;have : j ≠ q := fun e => by subst e; rw [hq] at hj; cases hj
  simpa [this] using hj
 ·intro j hj;by_cases e : j = q
  ·exact .inr ⟨by omega, by omega⟩
  ·exact .inl (by simpa [e] using hj)
 ·intro j o hj k hk;obtain ⟨rfl, rfl⟩ := qaf8 hj;exact .inr (hF k (by simpa using hk))
def LayF {α : Type} (L : Lay α) (ok : α → Prop) : Prop := ∀ A w x cs, L.rep A w x cs → ok x
theorem qads (k : IntKind) : LayF (Lay.int k) (fun x => Fits k x) := fun A w x cs h => h.2
theorem qadb {α β : Type} {L : Lay α} {M : Lay β} {f : α → Prop} {g : β → Prop} (hf : LayF L f) (hg : LayF M g) : LayF (Lay.pair L M) (fun x => f x.1 ∧ g x.2) := fun A w x cs h => by
 obtain ⟨c, d, rfl, h1, h2⟩ := h;exact ⟨hf _ _ _ _ h1, hg _ _ _ _ h2⟩
theorem qah6 {α β : Type} {L : Lay α} {f : α → Prop} (g : β → α) (hf : LayF L f) : LayF (Lay.map g L) (fun x => f (g x)) := fun A w x cs h => hf _ _ _ _ h
theorem qaq5 {α : Type} {L : Lay α} {f : α → Prop} (hf : LayF L f) {A : Nat → Prop} {w : World} {ao : Option Addr} {n c : Nat} {xs : List α} (h : RdL L A w ao n c xs) : ∀ x ∈ xs, f x := fun x hx => by
 obtain ⟨i, hi0⟩ := List.getElem?_of_mem hx;obtain ⟨hi, rfl⟩ := List.getElem?_eq_some_iff.1 hi0;obtain ⟨b, off, _, _, _, hh⟩ := h.here (by have := h.len; omega);obtain ⟨cs, h1, _⟩ := hh i hi;exact hf _ _ _ _ h1
theorem qafe {α : Type} {L : Lay α} {f : α → Prop} (hf : LayF L f) : LayF (Lay.slice L) (fun xs => ∀ x ∈ xs, f x) := fun A w x cs h => by
 obtain ⟨ao, n, c, rfl, h1⟩ := h;exact qaq5 hf h1
def SOp.sxs : SOp → List SX
 | .b2s x | .b2b x | .mkifc _ x | .asrt _ _ x | .mv x | .box _ x | .load x | .loads _ x | .nilc x | .un _ x | .conv _ x | .faddr _ x | .field _ _ x | .extr x _ | .len _ x => [x]
 | .pick c a b => [c, a, b]
 | .alloc _ _ => []
 | .build _ ps => ps.map (·.2.2)
 | .mkrow _ _ _ _ ps => ps.map (·.2)
 | .store _ x v | .bin _ x v | .eq _ _ x v | .eqs _ _ x v | .mkslice _ _ _ _ x v | .iaddr _ x v | .iarr _ _ x v | .idx _ _ _ x v | .idxs x v | .app _ _ _ x v | .mm _ x v => [x, v]
 | .slice _ x lo hi | .slstr x lo hi => x :: (lo.toList ++ hi.toList)
 | .mkfn _ a b => a ++ b
theorem qakt {size : Nat} {g g' : Nat → Option SObj} {x : SV} (h : ∀ id ∈ idOf x, g id = g' id) : qac2 size g x = qac2 size g' x := by
 unfold qac2;split <;> first | rfl | (rw [h _ (by simp [idOf])])
theorem qbac {op : SOp} {ev ev' : SX → SV} {g g' : Nat → Option SObj} {nx : Nat} (h : ∀ x ∈ op.sxs, ev x = ev' x) (hg : ∀ id ∈ op.touch ev, g id = g' id) : op.run ev g nx = op.run ev' g' nx := by
 cases op
 case load x =>
  have e := h x (by simp [SOp.sxs]);simp only [SOp.touch] at hg;simp only [SOp.run, ← e];split <;> first | rfl | (rename_i hq; rw [hg _ (by rw [hq]; simp [idOf])])
 case loads n x =>
  have e := h x (by simp [SOp.sxs]);simp only [SOp.touch] at hg;simp only [SOp.run, ← e];split <;> first | rfl | (rename_i hq; rw [hg _ (by rw [hq]; simp [idOf])])
 case store n x v =>
  have e := h x (by simp [SOp.sxs]);have e2 := h v (by simp [SOp.sxs]);simp only [SOp.touch] at hg;simp only [SOp.run, ← e, ← e2];split
  ·rfl
  ·split
   ·split <;> first | rfl | (rename_i hq; rw [hg _ (by rw [hq]; simp [idOf])])
   ·rfl
 case b2b x =>
  have e2 := h x (by simp [SOp.sxs]);simp only [SOp.touch] at hg;simp only [SOp.run, ← e2];split
  ·rename_i hs; rw [hg _ (by rw [hs]; simp [idOf])]
  ·rfl
 case b2s x =>
  have e2 := h x (by simp [SOp.sxs]);simp only [SOp.touch] at hg;simp only [SOp.run, ← e2];rw [qakt (g := g) (g' := g') fun id hid => hg id hid]
 case app e size bytes s x =>
  have e1 := h s (by simp [SOp.sxs]);have e2 := h x (by simp [SOp.sxs]);simp only [SOp.touch] at hg;simp only [SOp.run, ← e1, ← e2];rw [qakt (g := g) (g' := g') fun id hid => hg id (List.mem_append_right _ hid)];split
  ·rfl
  ·split
   ·rfl
   ·rename_i hs; rw [hg _ (List.mem_append_left _ (by rw [hs]; simp [idOf]))]
   ·rfl
 case build z ps =>
  have e : (ps.map fun p => (p.1, p.2.1, ev p.2.2)) = ps.map fun p => (p.1, p.2.1, ev' p.2.2) := List.map_congr_left fun p hp => by rw [h p.2.2 (by simp [SOp.sxs]; exact ⟨_, _, hp⟩)]
  simp only [SOp.run, e]
 case mkrow e size n z ps =>
  have e : (ps.map fun p => (p.1, ev p.2)) = ps.map fun p => (p.1, ev' p.2) := List.map_congr_left fun p hp => by rw [h p.2 (by simp [SOp.sxs]; exact ⟨_, hp⟩)]
  simp only [SOp.run, e]
 case mkfn f gs bs =>
  have e1 : gs.map ev = gs.map ev' := List.map_congr_left fun p hp => h p (by simp [SOp.sxs, hp])
  have e2 : bs.map ev = bs.map ev' := List.map_congr_left fun p hp => h p (by simp [SOp.sxs, hp])
  simp only [SOp.run, e1, e2]
 case slice size x lo hi =>
  have e := h x (by simp [SOp.sxs]);have e1 : lo.map ev = lo.map ev' := by cases lo with | none => rfl | some y => simp [h y (by simp [SOp.sxs])]
  have e2 : hi.map ev = hi.map ev' := by cases hi with | none => rfl | some y => simp [h y (by simp [SOp.sxs])]
  simp only [SOp.run, ← e, e1, e2]
 case slstr x lo hi =>
  have e := h x (by simp [SOp.sxs]);have e1 : lo.map ev = lo.map ev' := by cases lo with | none => rfl | some y => simp [h y (by simp [SOp.sxs])]
  have e2 : hi.map ev = hi.map ev' := by cases hi with | none => rfl | some y => simp [h y (by simp [SOp.sxs])]
  simp only [SOp.run, ← e, e1, e2]
 all_goals simp only [SOp.sxs, List.mem_cons, List.not_mem_nil, or_false, forall_eq_or_imp, forall_eq, false_implies, implies_true] at h
 all_goals first
  | (obtain ⟨e1, e2, e3⟩ := h; simp only [SOp.run, ← e1, ← e2, ← e3]; done)
  | (obtain ⟨e1, e2⟩ := h; simp only [SOp.run, ← e1, ← e2]; done)
  | (simp only [SOp.run, ← h]; done)
  | (simp only [SOp.run]; done)
def qah1 : List SX → List Nat
 | [] => []
 | .t n :: l => n :: qah1 l
 | .c _ :: l => qah1 l
def SOper.reads (o : SOper) : List Nat := (match o.cal with
 | some (f, args) => qah1 (f :: args)
 | none => qah1 o.op.sxs) ++ (match o.grd with
 | some (t, _) => [t]
 | none => [])
theorem qak7 {l l' : Sl} : ∀ {xs : List SX}, (∀ t ∈ qah1 xs, gets l t = gets l' t) → ∀ x ∈ xs, SX.ev l x = SX.ev l' x
 | [], _, x, hx => by cases hx
 | .t n :: xs, h, x, hx => by
  rcases List.mem_cons.1 hx with e | e
  ·subst e; exact h n (by simp [qah1])
  ·exact qak7 (xs := xs) (fun t ht => h t (by simp [qah1, ht])) x e
 | .c v :: xs, h, x, hx => by
  rcases List.mem_cons.1 hx with e | e
  ·subst e; rfl
  ·exact qak7 (xs := xs) (fun t ht => h t (by simpa [qah1] using ht)) x e
section
structure Eff where
 dst : Option Nat
 v : SV
 wr : List Nat
 c : Nat → Option SObj
def Eff.at (e : Eff) (t t' : SSt) : Prop :=
 (∀ x, gets t'.sl x = if e.dst = some x then e.v else gets t.sl x) ∧ ∀ id, geth t'.hp id = if id ∈ e.wr then e.c id else geth t.hp id
variable {X : Cx} {s : SSt}
def Loc (X : Cx) (ops : Array Oper) (o : Oper) (reads rd : List Nat) (lo hi : Nat) (s : SSt) (e : Eff) : Prop :=
 ∀ (t : SSt) (ρ : qact) (fp : Nat → Nat → Prop) (a : Act) (w : World), Sim X ρ fp t a w → (∀ y ∈ reads, gets t.sl y = gets s.sl y) → (∀ id, id ∈ rd ∨ id ∈ e.wr → geth t.hp id = geth s.hp id) → (∀ id, lo ≤ id → id < hi → ρ id = none) →
  ∀ (K : Act → World → Prop) (R : Exit → Act → World → Prop), (∀ t' ρ' fp' a' w', e.at t t' → Sim X ρ' fp' t' a' w' → (∀ id, ρ' id ≠ none → ρ id ≠ none ∨ (lo ≤ id ∧ id < hi)) → K a' w') →
   if Region.wanted o (yielded ops a.tmps) = true then o.wp X.P a w K R else K (a.put o.dst undef) w
theorem qagn (l : Sl) (d : Option Nat) (v : SV) (x : Nat) : gets (putd l d v) x = if d = some x then v else gets l x := by
 cases d with
 | none => simp [putd]
 | some d => simp only [putd, qai0, Option.some.injEq, eq_comm]
def qa0z : Upd → Nat → Option SObj → Option SObj
 | [], _, x => x
 | (i, o) :: u, id, x => qa0z u id (if i = id then o else x)
theorem qai1 : ∀ (u : Upd) (h : Hp) (id : Nat), geth (upds h u) id = qa0z u id (geth h id)
 | [], h, id => rfl
 | (i, some o) :: u, h, id => by
  rw [upds, qai1 u, qacx, qa0z];by_cases e : id = i
  ·simp [e]
  ·simp [e, Ne.symm e]
 | (i, none) :: u, h, id => by
  rw [upds, qai1 u, qai2, qa0z];by_cases e : id = i
  ·simp [e]
  ·simp [e, Ne.symm e]
theorem qas0 {u : Upd} {id : Nat} : ∀ {x}, id ∉ u.map (·.1) → qa0z u id x = x := by
 induction u with
 | nil => intro x _; rfl
 | cons p u ih =>
  obtain ⟨i, o⟩ := p;intro x h;simp only [List.map_cons, List.mem_cons, not_or] at h;rw [qa0z, if_neg (Ne.symm h.1)];exact ih h.2
theorem qas1 {u : Upd} {id : Nat} : ∀ {x y}, id ∈ u.map (·.1) → qa0z u id x = qa0z u id y := by
 induction u with
 | nil => intro x y h; simp at h
 | cons p u ih =>
  obtain ⟨i, o⟩ := p;intro x y h;simp only [List.map_cons, List.mem_cons] at h;rw [qa0z, qa0z];by_cases e : i = id
  ·simp [e]
  ·rw [if_neg e, if_neg e];exact ih (h.resolve_left (Ne.symm e))
theorem qaml : ∀ {h : Hp} {id : Nat} {o : SObj}, geth h id = some o → id ∈ idsH h
 | [], id, o, h => by cases h
 | (i, x) :: r, id, o, h => by
  by_cases e : i = id
  ·subst e; simp [idsH]
  ·simp only [geth, if_neg e] at h;exact List.mem_cons_of_mem _ (qaml h)
theorem qaq7 : ∀ {h : Hp} {id : Nat}, id ∈ idsH h → geth h id ≠ none
 | [], id, h => by cases h
 | (i, x) :: r, id, h => by
  by_cases e : i = id
  ·subst e; simp [geth]
  ·simp only [geth, if_neg e];simp only [idsH, List.map_cons, List.mem_cons] at h;exact qaq7 (h.resolve_left (Ne.symm e))
def Stp (X : Cx) (ops : Array Oper) (o : Oper) (so : SOper) (s s' : SSt) (x : Tch) : Prop :=
 s.nx ≤ s'.nx ∧ ∃ e : Eff, e.dst = so.dst ∧ e.wr = x.wr ∧ e.at s s' ∧ Loc X ops o so.reads x.rd s.nx s'.nx s e
theorem qay5 {ops : Array Oper} {o : Oper} {b : Nat} {so : SOper} (hc : qbnc X.P X.N ops o b = some so) (hw : ∀ (t : SSt) ρ fp a w, Sim X ρ fp t a w → (∀ y ∈ so.reads, gets t.sl y = gets s.sl y) → Region.wanted o (yielded ops a.tmps) = false) : Stp X ops o so s (s.skip so) ⟨[], []⟩ := by
 obtain ⟨hdst, hd, _, _, _⟩ := qagq hc;refine ⟨Nat.le_refl _, ⟨so.dst, .tup [], [], fun _ => none⟩, rfl, rfl, ⟨fun x => qagn _ _ _ _, fun id => by simp [SSt.skip]⟩, ?_⟩;intro t ρ fp a w h hr _ _ K R hK;rw [hw t ρ fp a w h hr];simp only [Bool.false_eq_true, if_false];refine hK ⟨putd t.sl so.dst (.tup []), t.hp, t.nx⟩ ρ fp _ _ ⟨fun x => qagn _ _ _ _, fun id => by simp⟩ ?_ (fun id hid => .inl hid);have := h.put (nx' := t.nx) h.h (.refl _ _ _) (RepV.tup (cs := []) (vs := []) rfl (by simp)) (dst := so.dst) (by rw [hdst]; exact hd);rw [hdst] at this ⊢;exact this
theorem qbje {ops : Array Oper} {o : Oper} {b : Nat} {so : SOper} (hc : qbnc X.P X.N ops o b = some so) (hle : X.m ≤ s.nx) {K : SSt → Tch → Prop} (hk : SOp1 X.P so s K) (hw : ∀ (t : SSt) ρ fp a w, Sim X ρ fp t a w → (∀ y ∈ so.reads, gets t.sl y = gets s.sl y) → Region.wanted o (yielded ops a.tmps) = true) : ∃ s' x, K s' x ∧ Stp X ops o so s s' x := by
 obtain ⟨hdst, hd, _, _, hop⟩ := qagq hc;unfold SOp1 at hk;rcases hop with ⟨hcal, hop⟩ | ⟨f, args, g, gs, tys, hcal, hop, hf, hargs⟩ | ⟨r, args, nm, g, gs, tys, hcal, hop, hf, hargs⟩
 ·rw [hcal] at hk;simp only at hk;split at hk
  ·rename_i v u nx' hr;replace hop := hop.resolve_right fun e => by rw [e] at hr; simp [SOp.run, SX.ev] at hr
   refine ⟨_, _, hk, Nat.le_succ _, ⟨so.dst, v, u.map (·.1), fun id => qa0z u id none⟩, rfl, rfl, ⟨fun x => qagn _ _ _ _, fun id => ?_⟩, ?_⟩
   ·rw [qai1];split
    ·exact qas1 ‹_›
    ·exact qas0 ‹_›
   ·intro t ρ fp a w h hrd hobj hfr K' R hK;rw [if_pos (hw t ρ fp a w h hrd)];have hsub : ∀ y ∈ qah1 so.op.sxs, gets s.sl y = gets t.sl y := fun y hy => (hrd y (by simp [SOper.reads, hcal, hy])).symm
    have hev := qak7 hsub;have hr2 : so.op.run (·.ev t.sl) (geth t.hp) s.nx = some (v, u, nx') := by
     rw [← hr];exact (qbac hev fun id hid => (hobj id (.inl hid)).symm).symm
    obtain ⟨v', w', h1, ρ', fp', h2, h3, h4, h5⟩ := op_ok h.h h.slots hop hle (hfr _ (Nat.le_refl _) (Nat.lt_succ_self _)) hr2;refine (h1 o rfl).upon (hK ⟨putd t.sl so.dst v, upds t.hp u, t.nx⟩ ρ' fp' _ _ ⟨fun x => qagn _ _ _ _, fun id => ?_⟩ ?_ (fun id hid => (h5 id hid).imp (fun h => h) fun e => by simp only; omega))
    ·show geth (upds t.hp u) id = _;rw [qai1];split
     ·exact qas1 ‹_›
     ·exact qas0 ‹_›
    ·have := h.put (nx' := t.nx) h2 h4 h3 (dst := so.dst) (by rw [hdst]; exact hd);rw [hdst] at this ⊢; exact this
  ·cases hk
 all_goals
  have fin : ∀ {g' : FuncId} {args' : List SV} {h1 h2 : Hp} {r : SV} {nn : Nat} (rd2 rd : List Nat), SCalls X.P g' args' h1 s.nx r h2 nn → SubH s.hp h1 → Uniq h2 → (∀ id ∈ rd, geth h2 id = geth h1 id) → K ⟨putd s.sl so.dst r, qabr s.hp h1 h2, s.nx + nn⟩ ⟨rd2 ++ rd, (idsH h1 ++ idsH h2).filter fun i => !rd.contains i⟩ →
    (∀ (t : SSt) ρ fp (a : Act) w, Sim X ρ fp t a w → (∀ y ∈ so.reads, gets t.sl y = gets s.sl y) → (∀ id ∈ rd2, geth t.hp id = geth s.hp id) → ∃ vals : List Value, (execOp a.eval o).run X.P w = .ok (.enter g' vals.toArray) w ∧ Reps w (Av X t.hp fp) ρ args' vals) → ∃ s' x, K s' x ∧ Stp X ops o so s s' x := by
   rintro g' args' h1 h2 r nn rd2 rd ⟨hent, hcall⟩ hsub hu hrd0 hk hruns;have mem_ids : ∀ {h : Hp} {id : Nat} {o : SObj}, geth h id = some o → id ∈ idsH h := fun h => qaml h
   have heff : ∀ t : SSt, (∀ id, id ∈ rd ∨ id ∈ (idsH h1 ++ idsH h2).filter (fun i => !rd.contains i) → geth t.hp id = geth s.hp id) → ∀ id, geth (qabr t.hp h1 h2) id = if id ∈ (idsH h1 ++ idsH h2).filter (fun i => !rd.contains i) then geth h2 id else geth t.hp id := by
    intro t ht id;rw [qahr hu];by_cases hin : id ∈ (idsH h1 ++ idsH h2).filter (fun i => !rd.contains i)
    ·rw [if_pos hin];cases e : geth h2 id with
     | some o => rfl
     | none =>
      simp only;split
      ·rfl
      ·rename_i h3;have h3' : geth h1 id = none := by simpa using h3
       rw [List.mem_filter, List.mem_append] at hin;exfalso;rcases hin.1 with h4 | h4
       ·exact qaq7 h4 h3'
       ·exact qaq7 h4 e
    ·rw [if_neg hin];by_cases hr : id ∈ rd
     ·rw [hrd0 id hr];cases e : geth h1 id with
      | none => simp
      | some o =>
       simp only;rw [ht id (.inl hr), hsub.get id o e]
     ·have hni : id ∉ idsH h1 ++ idsH h2 := fun h3 => hin (List.mem_filter.2 ⟨h3, by simpa using hr⟩)
      rw [List.mem_append, not_or] at hni;have n1 : geth h1 id = none := by
       cases e : geth h1 id with
       | none => rfl
       | some o => exact absurd (mem_ids e) hni.1
      have n2 : geth h2 id = none := by
       cases e : geth h2 id with
       | none => rfl
       | some o => exact absurd (mem_ids e) hni.2
      rw [n1, n2]; simp
   refine ⟨_, _, hk, by simp only; omega, ⟨so.dst, r, (idsH h1 ++ idsH h2).filter (fun i => !rd.contains i), geth h2⟩, rfl, rfl, ⟨fun x => qagn _ _ _ _, heff s fun _ _ => rfl⟩, ?_⟩;intro t ρ fp a w h hrd hobj0 hfr K' R hK;rw [if_pos (hw t ρ fp a w h hrd)];have hobj : ∀ id, id ∈ rd ∨ id ∈ (idsH h1 ++ idsH h2).filter (fun i => !rd.contains i) → geth t.hp id = geth s.hp id := fun id h3 => hobj0 id (h3.imp (fun h4 => List.mem_append_right _ h4) fun h4 => h4)
   obtain ⟨vals, hrun, hreps0⟩ := hruns t ρ fp a w h hrd fun id h3 => hobj0 id (.inl (List.mem_append_left _ h3))
   have hsub' : ∀ id o, geth h1 id = some o → geth t.hp id = some o := fun id o ho => by
    rw [hobj id ?_]
    ·exact hsub.get id o ho
    ·by_cases hr : id ∈ rd
     ·exact .inl hr
     ·exact .inr (List.mem_filter.2 ⟨List.mem_append_left _ (mem_ids ho), by simpa using hr⟩)
   have hav : ∀ k, (Rest X fp t.hp h1 k ∨ Live h1 fp k) → Av X t.hp fp k := fun k hk => (Rest.av hsub' k).1 hk
   have hreps := hreps0.weaken fun k hk _ => hav k hk
   have := hcall (Rest X fp t.hp h1) ρ fp w _ (h.h.part hsub') hreps hfr;unfold Oper.wp;rw [hrun, Oper.upon_enter];refine this.mono ?_;rintro e w' ⟨v, ρ', fp', rfl, q1, q2, q3, q4, q5, q6⟩;obtain ⟨p1, p2, p3⟩ := h.h.called hsub' hu (q := s.nx) hle q1 q3 q4 q5 q6;refine hK ⟨putd t.sl so.dst r, qabr t.hp h1 h2, t.nx⟩ ρ' (fun id k => (geth h2 id ≠ none ∧ fp' id k) ∨ (geth h2 id = none ∧ fp id k)) _ _ ⟨fun x => qagn _ _ _ _, heff t hobj⟩ ?_ q5;have := h.put (nx' := t.nx) p1 p2 (q2.weaken fun k hk _ => p3 k hk) (dst := so.dst) (by rw [hdst]; exact hd);rw [hdst] at this ⊢; exact this
  have hobjm : ∀ {hm : Hp} {t : SSt} {ρ : qact} {fp : Nat → Nat → Prop} {a : Act} {w : World}, SubH s.hp hm → Sim X ρ fp t a w → (∀ id ∈ idsH hm, geth t.hp id = geth s.hp id) → ∀ id o, geth hm id = some o → ∃ fp', ObjRep w (Av X t.hp fp) ρ id fp' o := fun hs h ht id o ho => ⟨_, h.h.objs id o (by rw [ht id (qaml ho)]; exact hs.get id o ho)⟩
 ·rw [hcal] at hk;simp only at hk;have hsubt : ∀ {t : SSt}, (∀ y ∈ so.reads, gets t.sl y = gets s.sl y) → ∀ y ∈ qah1 (f :: args), gets s.sl y = gets t.sl y := fun hrd y hy => (hrd y (by simp [SOper.reads, hcal, hy])).symm
  split at hk
  ·rename_i g' first cap hfv;obtain ⟨h1, r, h2, rd, nn, hS, hsub, hu, hrd0, hk⟩ := hk;refine fin [] rd hS hsub hu hrd0 hk fun t ρ fp a w h hrd _ => ?_
   have hev := qak7 (hsubt hrd);have hfv2 : f.ev t.sl = .fn (.func g') first cap := by rw [← hev f (by simp)]; exact hfv
   have hargs2 : args.map (·.ev t.sl) = args.map (·.ev s.sl) := List.map_congr_left fun x hx => (hev x (by simp [hx])).symm
   have rf := qaci hf h.slots;rw [hfv2] at rf;have rargs := qag7 hargs h.slots;rw [hargs2] at rargs;generalize hgv : a.eval g = gv at rf;cases rf with
   | fn l1 l2 r1 r2 =>
    rename_i vs us;refine ⟨vs ++ gs.toList.map a.eval ++ us, ?_, Reps.append (Reps.append ⟨l1, r1⟩ rargs) ⟨l2, r2⟩⟩;have e1 : (vs.toArray ++ gs.map a.eval ++ us.toArray) = (vs ++ gs.toList.map a.eval ++ us).toArray := by apply Array.ext'; simp
    simp only [execOp, hop, resolve, hgv, Deferred.ofValue, Sem.run_bind, Sem.run_pure, Result.andThen_ok, invoke, e1];exact hS.ent _ _
  ·rename_i nm hfv;split at hk
   ·rename_i tt x az hav;obtain ⟨hm, x', g', h1, r, h2, rd, nn, hsm, hM, hS, hsub, hu, hrd0, hk⟩ := hk;refine fin (idsH hm) rd hS hsub hu hrd0 hk fun t ρ fp a w h hrd hrd2 => ?_
    have hev := qak7 (hsubt hrd);have hfv2 : f.ev t.sl = .fn (.method nm) [] [] := by rw [← hev f (by simp)]; exact hfv
    have hargs2 : args.map (·.ev t.sl) = args.map (·.ev s.sl) := List.map_congr_left fun x hx => (hev x (by simp [hx])).symm
    have rf := qaci hf h.slots;rw [hfv2] at rf;have rargs := qag7 hargs h.slots;rw [hargs2, show args.map (·.ev s.sl) = .ifc tt x :: az from hav] at rargs;generalize hgv : a.eval g = gv at rf;cases rf with
    | fn l1 l2 r1 r2 =>
     rename_i vs us;obtain rfl := List.eq_nil_of_length_eq_zero l1.symm;obtain rfl := List.eq_nil_of_length_eq_zero l2.symm;obtain ⟨v', avs, h3, h4⟩ := qamd (hobjm hsm h hrd2) hM hS.ent rargs;refine ⟨v' :: avs, ?_, h4⟩;have e1 : (([] : List Value).toArray ++ gs.map a.eval) = (gs.toList.map a.eval).toArray := by apply Array.ext'; simp
     simp only [execOp, hop, resolve, hgv, Deferred.ofValue, Sem.run_bind, Sem.run_pure, Result.andThen_ok, e1];exact h3
   ·cases hk
  ·cases hk
 ·rw [hcal] at hk;simp only [SX.ev] at hk;have hsubt : ∀ {t : SSt}, (∀ y ∈ so.reads, gets t.sl y = gets s.sl y) → ∀ y ∈ qah1 (r :: args), gets s.sl y = gets t.sl y := fun hrd y hy => (hrd y (by
   have : y ∈ qah1 (SX.c (.fn (.method nm) [] []) :: r :: args) := by simpa [qah1] using hy
   simp only [SOper.reads, hcal]; first | exact List.mem_append_right _ (List.mem_append_left _ this) | simp [this])).symm
  split at hk
  ·rename_i tt x az hav;obtain ⟨hm, x', g', h1, rr, h2, rd, nn, hsm, hM, hS, hsub, hu, hrd0, hk⟩ := hk;refine fin (idsH hm) rd hS hsub hu hrd0 hk fun t ρ fp a w h hrd hrd2 => ?_
   have hev := qak7 (hsubt hrd);have hargs2 : (r :: args).map (·.ev t.sl) = (r :: args).map (·.ev s.sl) := List.map_congr_left fun x hx => (hev x hx).symm
   have rf := qaci hf h.slots;have rargs := qag7 hargs h.slots;have rall : Reps w (Av X t.hp fp) ρ (.ifc tt x :: az) (a.eval g :: gs.toList.map a.eval) := by
    have := Reps.cons rf rargs;have e : (r :: args).map (·.ev s.sl) = .ifc tt x :: az := hav;rw [← e, ← hargs2]; exact this
   obtain ⟨v', avs, h3, h4⟩ := qamd (hobjm hsm h hrd2) hM hS.ent rall;refine ⟨v' :: avs, ?_, h4⟩;have e1 : (#[a.eval g] ++ gs.map a.eval) = (a.eval g :: gs.toList.map a.eval).toArray := by apply Array.ext'; simp
   simp only [execOp, hop, resolve, Sem.run_bind, Sem.run_pure, Result.andThen_ok, e1];exact h3
  ·cases hk
end
end Go.Proofs.YtalejfkholifpaaGreat
