/-
  Programs of a machine, plain: instructions, shapes, what may be. No program in sight. No condition.
-/
import Derived.Test.YtfakdapglbgokaaRep
import Derived.Test.YtfakdapglbgokaaFirst
namespace Go.Proofs.Ytfakdapglbgokaa
set_option linter.all false
open Go.RowKit

/-- The i-th of a list: a name that the walk leaves as it is. -/
def nth {α : Type} [Inhabited α] (xs : List α) (i : Nat) : α := xs.getD i default
theorem nth_lt {α : Type} [Inhabited α] (xs : List α) (i : Nat) (h : i < xs.length) : nth xs i = xs[i] := by simp [nth, List.getD, h]
theorem ext_nth {α : Type} [Inhabited α] {xs ys : List α} (hl : xs.length = ys.length) (h : ∀ i, i < xs.length → nth xs i = nth ys i) : xs = ys :=
  List.ext_getElem hl fun i h1 h2 => by rw [← nth_lt _ _ h1, ← nth_lt _ _ h2, h i h1]
theorem nth_append {α : Type} [Inhabited α] (xs ys : List α) (i : Nat) : nth (xs ++ ys) i = if i < xs.length then nth xs i else nth ys (i - xs.length) := by
  simp only [nth, List.getD, List.getElem?_append]; split <;> rfl

structure Ins where
  op : Int
  r : Int
  s : Int
  k : Int
  to : Int
  n : Int
  deriving Inhabited, DecidableEq
structure Shape where
  keys : Int
  acts : Int
  args : Int
  deriving Inhabited, DecidableEq

def Ins.wf (x : Ins) : Prop := Fits .i64 x.op ∧ Fits .i64 x.r ∧ Fits .i64 x.s ∧ Fits .i64 x.k ∧ Fits .i64 x.to ∧ Fits .u64 x.n
def Shape.wf (x : Shape) : Prop := Fits .i64 x.keys ∧ Fits .i64 x.acts ∧ Fits .i64 x.args
def Ins.cells (x : Ins) : List Value := [.int .i64 x.op, .int .i64 x.r, .int .i64 x.s, .int .i64 x.k, .int .i64 x.to, .int .u64 x.n]
def Shape.cells (x : Shape) : List Value := [.int .i64 x.keys, .int .i64 x.acts, .int .i64 x.args]

/-- A layout that is just cells. -/
def Lay.flat {α : Type} (size : Nat) (enc : α → List Value) (ok : α → Prop) (hl : ∀ a, (enc a).length = size) : Lay α where
  size := size
  rep _ _ x cs := cs = enc x ∧ ok x
  len h := by rw [h.1]; exact hl _
  step h _ := h
  weaken h _ := h
def insLay : Lay Ins := Lay.flat 6 Ins.cells Ins.wf fun _ => rfl
def shapeLay : Lay Shape := Lay.flat 3 Shape.cells Shape.wf fun _ => rfl

theorem RdL.wf_flat {α : Type} {size : Nat} {enc : α → List Value} {ok : α → Prop} {hl : ∀ a, (enc a).length = size} {A : Nat → Prop} {w : World} {ao : Option Addr} {n cap : Nat} {xs : List α} (h : RdL (Lay.flat size enc ok hl) A w ao n cap xs) : ∀ x ∈ xs, ok x := by
  intro x hx
  obtain ⟨i, hi, rfl⟩ := List.getElem_of_mem hx
  obtain ⟨b, off, cs, e, _, _, hr, _⟩ := h.at_ hi
  exact hr.2
/-- The cells of an element. -/
theorem RdL.flat_at {α : Type} [Inhabited α] {size : Nat} {enc : α → List Value} {ok : α → Prop} {hl : ∀ a, (enc a).length = size} {A : Nat → Prop} {w : World} {ao : Option Addr} {n cap : Nat} {xs : List α} (h : RdL (Lay.flat size enc ok hl) A w ao n cap xs) {i : Nat} (hi : i < xs.length) :
    ∃ b off, ao = some ⟨b, off, none⟩ ∧ ¬ A b ∧ b < w.heap.size ∧ ok (nth xs i) ∧ ∀ j, j < size → w.cell? ⟨b, off + i * size + j, none⟩ = (enc (nth xs i))[j]? := by
  obtain ⟨b, off, cs, e, h1, h2, hr, hc⟩ := h.at_ hi
  obtain ⟨rfl, ho⟩ := hr
  rw [nth_lt _ _ hi]
  exact ⟨b, off, e, h1, h2, ho, hc⟩
theorem RdL.ins_at {A : Nat → Prop} {w : World} {ao : Option Addr} {n cap : Nat} {xs : List Ins} (h : RdL insLay A w ao n cap xs) {i : Nat} (hi : i < xs.length) :
    ∃ b off, ao = some ⟨b, off, none⟩ ∧ ¬ A b ∧ b < w.heap.size ∧ (nth xs i).wf ∧
      w.cell? ⟨b, off + i * 6, none⟩ = some (.int .i64 (nth xs i).op) ∧ w.cell? ⟨b, off + i * 6 + 1, none⟩ = some (.int .i64 (nth xs i).r) ∧ w.cell? ⟨b, off + i * 6 + 2, none⟩ = some (.int .i64 (nth xs i).s) ∧
      w.cell? ⟨b, off + i * 6 + 3, none⟩ = some (.int .i64 (nth xs i).k) ∧ w.cell? ⟨b, off + i * 6 + 4, none⟩ = some (.int .i64 (nth xs i).to) ∧ w.cell? ⟨b, off + i * 6 + 5, none⟩ = some (.int .u64 (nth xs i).n) := by
  obtain ⟨b, off, e, h1, h2, ho, hc⟩ := RdL.flat_at h hi
  exact ⟨b, off, e, h1, h2, ho, hc 0 (by omega), hc 1 (by omega), hc 2 (by omega), hc 3 (by omega), hc 4 (by omega), hc 5 (by omega)⟩
theorem RdL.shape_at {A : Nat → Prop} {w : World} {ao : Option Addr} {n cap : Nat} {xs : List Shape} (h : RdL shapeLay A w ao n cap xs) {i : Nat} (hi : i < xs.length) :
    ∃ b off, ao = some ⟨b, off, none⟩ ∧ ¬ A b ∧ b < w.heap.size ∧ (nth xs i).wf ∧
      w.cell? ⟨b, off + i * 3, none⟩ = some (.int .i64 (nth xs i).keys) ∧ w.cell? ⟨b, off + i * 3 + 1, none⟩ = some (.int .i64 (nth xs i).acts) ∧ w.cell? ⟨b, off + i * 3 + 2, none⟩ = some (.int .i64 (nth xs i).args) := by
  obtain ⟨b, off, e, h1, h2, ho, hc⟩ := RdL.flat_at h hi
  exact ⟨b, off, e, h1, h2, ho, hc 0 (by omega), hc 1 (by omega), hc 2 (by omega)⟩

/-- Which fields an instruction has. -/
def hasR (op : Int) : Bool := decide (1 ≤ op ∧ op ≤ 18 ∧ op ≠ 12 ∧ op ≠ 17)
def hasS (op : Int) : Bool := decide (op = 2 ∨ op = 3 ∨ op = 5 ∨ op = 6 ∨ op = 10 ∨ op = 11 ∨ op = 13)
def hasK (op : Int) : Bool := decide (op = 3 ∨ op = 6 ∨ op = 13 ∨ op = 14)
def hasT (op : Int) : Bool := decide (9 ≤ op ∧ op ≤ 12)
def hasN (op : Int) : Bool := decide (op = 1 ∨ (6 ≤ op ∧ op ≤ 9) ∨ op = 13)
def isOp (op : Int) : Bool := decide (1 ≤ op ∧ op ≤ 18)

def slotsOk (slots at_ n : Int) : Bool := decide (0 ≤ at_ ∧ at_ ≤ slots - n)
/-- What the instruction itself asks, of its own kind. -/
def kindOk (slots : Int) (tabs : List Shape) (x : Ins) : Bool :=
  if x.op = 3 then decide (3 ≤ x.k ∧ x.k ≤ 12)
  else if x.op = 6 then decide (1 ≤ x.k ∧ x.k ≤ 8 ∧ x.n ≤ 600)
  else if x.op = 14 then decide (1 ≤ x.k ∧ x.k ≤ 8)
  else if x.op = 7 ∨ x.op = 8 then decide (x.n < slots)
  else if x.op = 9 then decide (x.n ≤ 600)
  else if x.op = 13 then decide (x.n < tabs.length) && slotsOk slots x.s (nth tabs x.n.toNat).keys && slotsOk slots x.k (nth tabs x.n.toNat).args
  else true
/-- No field that it does not have. -/
def formOk (x : Ins) : Bool := isOp x.op && (hasR x.op || decide (x.r = 0)) && (hasS x.op || decide (x.s = 0)) && (hasK x.op || decide (x.k = 0)) && (hasT x.op || decide (x.to = 0)) && (hasN x.op || decide (x.n = 0))
def regsOk (x : Ins) : Bool := decide (0 ≤ x.r ∧ x.r < 10) && (decide (x.op = 13) || decide (0 ≤ x.s ∧ x.s < 10)) && decide (0 ≤ x.to)
def insOk (slots : Int) (tabs : List Shape) (x : Ins) : Bool := formOk x && regsOk x && kindOk slots tabs x

def tabBad (t : Shape) : Bool := decide (t.keys < 1 ∨ 3 < t.keys ∨ t.acts < 1 ∨ 8 < t.acts ∨ t.args < 0 ∨ 3 < t.args)
def jumpBad (n i : Nat) (x : Ins) : Bool := hasT x.op && decide ((n : Int) - i - 1 ≤ x.to)
def insBad (slots : Int) (tabs : List Shape) (code : List Ins) (i : Nat) : Bool := !insOk slots tabs (nth code i) || jumpBad code.length i (nth code i)
def isEnd (op : Int) : Bool := decide (op = 16 ∨ op = 17)

structure Prog where
  slots : Int
  tabs : List Shape
  code : List Ins
  deriving Inhabited, DecidableEq
/-- Where a program goes wrong: the code, and where. -/
def progF (p : Prog) : Int × Int :=
  if p.slots < 0 ∨ 96 < p.slots then (1, -1)
  else if 5 < p.tabs.length ∨ p.code.length = 0 ∨ 60000 < p.code.length then (2, -1)
  else if firstN (fun i => tabBad (nth p.tabs i)) p.tabs.length < p.tabs.length then (1, -2 - (firstN (fun i => tabBad (nth p.tabs i)) p.tabs.length : Int))
  else if firstN (insBad p.slots p.tabs p.code) p.code.length < p.code.length then
    (if insOk p.slots p.tabs (nth p.code (firstN (insBad p.slots p.tabs p.code) p.code.length)) then 17 else 4, (firstN (insBad p.slots p.tabs p.code) p.code.length : Int))
  else if isEnd (nth p.code (p.code.length - 1)).op then (0, 0) else (18, (p.code.length : Int) - 1)

theorem progF_slots {p : Prog} (h : p.slots < 0 ∨ 96 < p.slots) : progF p = (1, -1) := by unfold progF; rw [if_pos h]
theorem progF_many {p : Prog} (h : ¬ (p.slots < 0 ∨ 96 < p.slots)) (h2 : 5 < p.tabs.length ∨ p.code.length = 0 ∨ 60000 < p.code.length) : progF p = (2, -1) := by unfold progF; rw [if_neg h, if_pos h2]
theorem progF_tab {p : Prog} {i : Nat} (h : ¬ (p.slots < 0 ∨ 96 < p.slots)) (h2 : ¬ (5 < p.tabs.length ∨ p.code.length = 0 ∨ 60000 < p.code.length)) (hb : ∀ j, j < i → tabBad (nth p.tabs j) = false) (hi : i < p.tabs.length) (hx : tabBad (nth p.tabs i) = true) : progF p = (1, -2 - (i : Int)) := by
  have e := firstN_eq (fun i => tabBad (nth p.tabs i)) p.tabs.length i hb hx hi
  unfold progF; rw [if_neg h, if_neg h2, e, if_pos hi]
theorem progF_ins {p : Prog} {i : Nat} (h : ¬ (p.slots < 0 ∨ 96 < p.slots)) (h2 : ¬ (5 < p.tabs.length ∨ p.code.length = 0 ∨ 60000 < p.code.length)) (h3 : ∀ j, j < p.tabs.length → tabBad (nth p.tabs j) = false)
    (hb : ∀ j, j < i → insBad p.slots p.tabs p.code j = false) (hi : i < p.code.length) (hx : insBad p.slots p.tabs p.code i = true) : progF p = (if insOk p.slots p.tabs (nth p.code i) then 17 else 4, (i : Int)) := by
  have e := firstN_none (fun i => tabBad (nth p.tabs i)) p.tabs.length h3
  have e2 := firstN_eq (insBad p.slots p.tabs p.code) p.code.length i hb hx hi
  unfold progF; rw [if_neg h, if_neg h2, e, if_neg (by omega), e2, if_pos hi]
theorem progF_end {p : Prog} (h : ¬ (p.slots < 0 ∨ 96 < p.slots)) (h2 : ¬ (5 < p.tabs.length ∨ p.code.length = 0 ∨ 60000 < p.code.length)) (h3 : ∀ j, j < p.tabs.length → tabBad (nth p.tabs j) = false)
    (hb : ∀ j, j < p.code.length → insBad p.slots p.tabs p.code j = false) : progF p = if isEnd (nth p.code (p.code.length - 1)).op then (0, 0) else (18, (p.code.length : Int) - 1) := by
  have e := firstN_none (fun i => tabBad (nth p.tabs i)) p.tabs.length h3
  have e2 := firstN_none (insBad p.slots p.tabs p.code) p.code.length hb
  unfold progF; rw [if_neg h, if_neg h2, e, if_neg (by omega), e2, if_neg (by omega)]
theorem insBad_form {slots : Int} {tabs : List Shape} {code : List Ins} {i : Nat} (h : insOk slots tabs (nth code i) = false) : insBad slots tabs code i = true := by unfold insBad; rw [h]; rfl
theorem insBad_ok {slots : Int} {tabs : List Shape} {code : List Ins} {i : Nat} (h : insOk slots tabs (nth code i) = true) : insBad slots tabs code i = jumpBad code.length i (nth code i) := by unfold insBad; rw [h]; rfl
theorem tabBad_false {t : Shape} (h : tabBad t = false) : 1 ≤ t.keys ∧ t.keys ≤ 3 ∧ 1 ≤ t.acts ∧ t.acts ≤ 8 ∧ 0 ≤ t.args ∧ t.args ≤ 3 := by unfold tabBad at h; simp at h; omega

end Go.Proofs.Ytfakdapglbgokaa
