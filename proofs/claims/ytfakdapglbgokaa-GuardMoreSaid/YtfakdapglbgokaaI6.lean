/-
  Texts joined: XWordP XEnt XShA. No condition.
-/
import Derived.Test.YtfakdapglbgokaaProg
import Derived.ProofKit
import Derived.Laws.Entries
import Derived.Test.YtfakdapglbgokaaI2
import Derived.Test.YtfakdapglbgokaaI1
/-
  Programs of a machine, plain: instructions, shapes, what may be. No program in sight. No condition.
-/
namespace Go.Proofs.Ytfakdapglbgokaa
set_option linter.all false
open Go.RowKit

/-- The i-th of a list: a name that the walk leaves as it is. -/
def nth {α : Type} [Inhabited α] (xs : List α) (i : Nat) : α := xs.getD i default
theorem nth_lt {α : Type} [Inhabited α] (xs : List α) (i : Nat) (h : i < xs.length) : nth xs i = xs[i] := by simp [nth, List.getD, h]
theorem ext_nth {α : Type} [Inhabited α] {xs ys : List α} (hl : xs.length = ys.length) (h : ∀ i, i < xs.length → nth xs i = nth ys i) : xs = ys :=
  List.ext_getElem hl fun i h1 h2 => by rw [← nth_lt _ _ h1, ← nth_lt _ _ h2, h i h1]
theorem nth_append {α : Type} [Inhabited α] (xs ys : List α) (i : Nat) : nth (xs ++ ys) i = if i < xs.length then nth xs i else nth ys (i - xs.length) := by
  simp only [nth, List.getD, List.getElem?_append]; split <;> rfl

structure Ins where
  op : Int
  r : Int
  s : Int
  k : Int
  to : Int
  n : Int
  deriving Inhabited, DecidableEq
structure Shape where
  keys : Int
  acts : Int
  args : Int
  deriving Inhabited, DecidableEq

def Ins.wf (x : Ins) : Prop := Fits .i64 x.op ∧ Fits .i64 x.r ∧ Fits .i64 x.s ∧ Fits .i64 x.k ∧ Fits .i64 x.to ∧ Fits .u64 x.n
def Shape.wf (x : Shape) : Prop := Fits .i64 x.keys ∧ Fits .i64 x.acts ∧ Fits .i64 x.args
def Ins.cells (x : Ins) : List Value := [.int .i64 x.op, .int .i64 x.r, .int .i64 x.s, .int .i64 x.k, .int .i64 x.to, .int .u64 x.n]
def Shape.cells (x : Shape) : List Value := [.int .i64 x.keys, .int .i64 x.acts, .int .i64 x.args]

/-- A layout that is just cells. -/
def Lay.flat {α : Type} (size : Nat) (enc : α → List Value) (ok : α → Prop) (hl : ∀ a, (enc a).length = size) : Lay α where
  size := size
  rep _ _ x cs := cs = enc x ∧ ok x
  len h := by rw [h.1]; exact hl _
  step h _ := h
  weaken h _ := h
def insLay : Lay Ins := Lay.flat 6 Ins.cells Ins.wf fun _ => rfl
def shapeLay : Lay Shape := Lay.flat 3 Shape.cells Shape.wf fun _ => rfl

theorem RdL.wf_flat {α : Type} {size : Nat} {enc : α → List Value} {ok : α → Prop} {hl : ∀ a, (enc a).length = size} {A : Nat → Prop} {w : World} {ao : Option Addr} {n cap : Nat} {xs : List α} (h : RdL (Lay.flat size enc ok hl) A w ao n cap xs) : ∀ x ∈ xs, ok x := by
  intro x hx
  obtain ⟨i, hi, rfl⟩ := List.getElem_of_mem hx
  obtain ⟨b, off, cs, e, _, _, hr, _⟩ := h.at_ hi
  exact hr.2
/-- The cells of an element. -/
theorem RdL.flat_at {α : Type} [Inhabited α] {size : Nat} {enc : α → List Value} {ok : α → Prop} {hl : ∀ a, (enc a).length = size} {A : Nat → Prop} {w : World} {ao : Option Addr} {n cap : Nat} {xs : List α} (h : RdL (Lay.flat size enc ok hl) A w ao n cap xs) {i : Nat} (hi : i < xs.length) :
    ∃ b off, ao = some ⟨b, off, none⟩ ∧ ¬ A b ∧ b < w.heap.size ∧ ok (nth xs i) ∧ ∀ j, j < size → w.cell? ⟨b, off + i * size + j, none⟩ = (enc (nth xs i))[j]? := by
  obtain ⟨b, off, cs, e, h1, h2, hr, hc⟩ := h.at_ hi
  obtain ⟨rfl, ho⟩ := hr
  rw [nth_lt _ _ hi]
  exact ⟨b, off, e, h1, h2, ho, hc⟩
theorem RdL.ins_at {A : Nat → Prop} {w : World} {ao : Option Addr} {n cap : Nat} {xs : List Ins} (h : RdL insLay A w ao n cap xs) {i : Nat} (hi : i < xs.length) :
    ∃ b off, ao = some ⟨b, off, none⟩ ∧ ¬ A b ∧ b < w.heap.size ∧ (nth xs i).wf ∧
      w.cell? ⟨b, off + i * 6, none⟩ = some (.int .i64 (nth xs i).op) ∧ w.cell? ⟨b, off + i * 6 + 1, none⟩ = some (.int .i64 (nth xs i).r) ∧ w.cell? ⟨b, off + i * 6 + 2, none⟩ = some (.int .i64 (nth xs i).s) ∧
      w.cell? ⟨b, off + i * 6 + 3, none⟩ = some (.int .i64 (nth xs i).k) ∧ w.cell? ⟨b, off + i * 6 + 4, none⟩ = some (.int .i64 (nth xs i).to) ∧ w.cell? ⟨b, off + i * 6 + 5, none⟩ = some (.int .u64 (nth xs i).n) := by
  obtain ⟨b, off, e, h1, h2, ho, hc⟩ := RdL.flat_at h hi
  exact ⟨b, off, e, h1, h2, ho, hc 0 (by omega), hc 1 (by omega), hc 2 (by omega), hc 3 (by omega), hc 4 (by omega), hc 5 (by omega)⟩
theorem RdL.shape_at {A : Nat → Prop} {w : World} {ao : Option Addr} {n cap : Nat} {xs : List Shape} (h : RdL shapeLay A w ao n cap xs) {i : Nat} (hi : i < xs.length) :
    ∃ b off, ao = some ⟨b, off, none⟩ ∧ ¬ A b ∧ b < w.heap.size ∧ (nth xs i).wf ∧
      w.cell? ⟨b, off + i * 3, none⟩ = some (.int .i64 (nth xs i).keys) ∧ w.cell? ⟨b, off + i * 3 + 1, none⟩ = some (.int .i64 (nth xs i).acts) ∧ w.cell? ⟨b, off + i * 3 + 2, none⟩ = some (.int .i64 (nth xs i).args) := by
  obtain ⟨b, off, e, h1, h2, ho, hc⟩ := RdL.flat_at h hi
  exact ⟨b, off, e, h1, h2, ho, hc 0 (by omega), hc 1 (by omega), hc 2 (by omega)⟩

/-- Which fields an instruction has. -/
def hasR (op : Int) : Bool := decide (1 ≤ op ∧ op ≤ 18 ∧ op ≠ 12 ∧ op ≠ 17)
def hasS (op : Int) : Bool := decide (op = 2 ∨ op = 3 ∨ op = 5 ∨ op = 6 ∨ op = 10 ∨ op = 11 ∨ op = 13)
def hasK (op : Int) : Bool := decide (op = 3 ∨ op = 6 ∨ op = 13 ∨ op = 14)
def hasT (op : Int) : Bool := decide (9 ≤ op ∧ op ≤ 12)
def hasN (op : Int) : Bool := decide (op = 1 ∨ (6 ≤ op ∧ op ≤ 9) ∨ op = 13)
def isOp (op : Int) : Bool := decide (1 ≤ op ∧ op ≤ 18)

def slotsOk (slots at_ n : Int) : Bool := decide (0 ≤ at_ ∧ at_ ≤ slots - n)
/-- What the instruction itself asks, of its own kind. -/
def kindOk (slots : Int) (tabs : List Shape) (x : Ins) : Bool :=
  if x.op = 3 then decide (3 ≤ x.k ∧ x.k ≤ 12)
  else if x.op = 6 then decide (1 ≤ x.k ∧ x.k ≤ 8 ∧ x.n ≤ 600)
  else if x.op = 14 then decide (1 ≤ x.k ∧ x.k ≤ 8)
  else if x.op = 7 ∨ x.op = 8 then decide (x.n < slots)
  else if x.op = 9 then decide (x.n ≤ 600)
  else if x.op = 13 then decide (x.n < tabs.length) && slotsOk slots x.s (nth tabs x.n.toNat).keys && slotsOk slots x.k (nth tabs x.n.toNat).args
  else true
/-- No field that it does not have. -/
def formOk (x : Ins) : Bool := isOp x.op && (hasR x.op || decide (x.r = 0)) && (hasS x.op || decide (x.s = 0)) && (hasK x.op || decide (x.k = 0)) && (hasT x.op || decide (x.to = 0)) && (hasN x.op || decide (x.n = 0))
def regsOk (x : Ins) : Bool := decide (0 ≤ x.r ∧ x.r < 10) && (decide (x.op = 13) || decide (0 ≤ x.s ∧ x.s < 10)) && decide (0 ≤ x.to)
def insOk (slots : Int) (tabs : List Shape) (x : Ins) : Bool := formOk x && regsOk x && kindOk slots tabs x

def tabBad (t : Shape) : Bool := decide (t.keys < 1 ∨ 3 < t.keys ∨ t.acts < 1 ∨ 8 < t.acts ∨ t.args < 0 ∨ 3 < t.args)
def jumpBad (n i : Nat) (x : Ins) : Bool := hasT x.op && decide ((n : Int) - i - 1 ≤ x.to)
def insBad (slots : Int) (tabs : List Shape) (code : List Ins) (i : Nat) : Bool := !insOk slots tabs (nth code i) || jumpBad code.length i (nth code i)
def isEnd (op : Int) : Bool := decide (op = 16 ∨ op = 17)

structure Prog where
  slots : Int
  tabs : List Shape
  code : List Ins
  deriving Inhabited, DecidableEq
/-- Where a program goes wrong: the code, and where. -/
def progF (p : Prog) : Int × Int :=
  if p.slots < 0 ∨ 96 < p.slots then (1, -1)
  else if 5 < p.tabs.length ∨ p.code.length = 0 ∨ 60000 < p.code.length then (2, -1)
  else if firstN (fun i => tabBad (nth p.tabs i)) p.tabs.length < p.tabs.length then (1, -2 - (firstN (fun i => tabBad (nth p.tabs i)) p.tabs.length : Int))
  else if firstN (insBad p.slots p.tabs p.code) p.code.length < p.code.length then
    (if insOk p.slots p.tabs (nth p.code (firstN (insBad p.slots p.tabs p.code) p.code.length)) then 17 else 4, (firstN (insBad p.slots p.tabs p.code) p.code.length : Int))
  else if isEnd (nth p.code (p.code.length - 1)).op then (0, 0) else (18, (p.code.length : Int) - 1)

theorem progF_slots {p : Prog} (h : p.slots < 0 ∨ 96 < p.slots) : progF p = (1, -1) := by unfold progF; rw [if_pos h]
theorem progF_many {p : Prog} (h : ¬ (p.slots < 0 ∨ 96 < p.slots)) (h2 : 5 < p.tabs.length ∨ p.code.length = 0 ∨ 60000 < p.code.length) : progF p = (2, -1) := by unfold progF; rw [if_neg h, if_pos h2]
theorem progF_tab {p : Prog} {i : Nat} (h : ¬ (p.slots < 0 ∨ 96 < p.slots)) (h2 : ¬ (5 < p.tabs.length ∨ p.code.length = 0 ∨ 60000 < p.code.length)) (hb : ∀ j, j < i → tabBad (nth p.tabs j) = false) (hi : i < p.tabs.length) (hx : tabBad (nth p.tabs i) = true) : progF p = (1, -2 - (i : Int)) := by
  have e := firstN_eq (fun i => tabBad (nth p.tabs i)) p.tabs.length i hb hx hi
  unfold progF; rw [if_neg h, if_neg h2, e, if_pos hi]
theorem progF_ins {p : Prog} {i : Nat} (h : ¬ (p.slots < 0 ∨ 96 < p.slots)) (h2 : ¬ (5 < p.tabs.length ∨ p.code.length = 0 ∨ 60000 < p.code.length)) (h3 : ∀ j, j < p.tabs.length → tabBad (nth p.tabs j) = false)
    (hb : ∀ j, j < i → insBad p.slots p.tabs p.code j = false) (hi : i < p.code.length) (hx : insBad p.slots p.tabs p.code i = true) : progF p = (if insOk p.slots p.tabs (nth p.code i) then 17 else 4, (i : Int)) := by
  have e := firstN_none (fun i => tabBad (nth p.tabs i)) p.tabs.length h3
  have e2 := firstN_eq (insBad p.slots p.tabs p.code) p.code.length i hb hx hi
  unfold progF; rw [if_neg h, if_neg h2, e, if_neg (by omega), e2, if_pos hi]
theorem progF_end {p : Prog} (h : ¬ (p.slots < 0 ∨ 96 < p.slots)) (h2 : ¬ (5 < p.tabs.length ∨ p.code.length = 0 ∨ 60000 < p.code.length)) (h3 : ∀ j, j < p.tabs.length → tabBad (nth p.tabs j) = false)
    (hb : ∀ j, j < p.code.length → insBad p.slots p.tabs p.code j = false) : progF p = if isEnd (nth p.code (p.code.length - 1)).op then (0, 0) else (18, (p.code.length : Int) - 1) := by
  have e := firstN_none (fun i => tabBad (nth p.tabs i)) p.tabs.length h3
  have e2 := firstN_none (insBad p.slots p.tabs p.code) p.code.length hb
  unfold progF; rw [if_neg h, if_neg h2, e, if_neg (by omega), e2, if_neg (by omega)]
theorem insBad_form {slots : Int} {tabs : List Shape} {code : List Ins} {i : Nat} (h : insOk slots tabs (nth code i) = false) : insBad slots tabs code i = true := by unfold insBad; rw [h]; rfl
theorem insBad_ok {slots : Int} {tabs : List Shape} {code : List Ins} {i : Nat} (h : insOk slots tabs (nth code i) = true) : insBad slots tabs code i = jumpBad code.length i (nth code i) := by unfold insBad; rw [h]; rfl
theorem tabBad_false {t : Shape} (h : tabBad t = false) : 1 ≤ t.keys ∧ t.keys ≤ 3 ∧ 1 ≤ t.acts ∧ t.acts ≤ 8 ∧ 0 ≤ t.args ∧ t.args ≤ 3 := by unfold tabBad at h; simp at h; omega

end Go.Proofs.Ytfakdapglbgokaa

/-
  Entries of tables: how they lie in cells; own rows of them. No condition.
-/
namespace Go.Proofs.Ytfakdapglbgokaa
set_option linter.all false
open Go.RowKit

structure Entry where
  keys : List Int
  masks : List Int
  len : Int
  prio : Int
  act : Int
  args : List Int
instance : Inhabited Entry := ⟨⟨[], [], 0, 0, 0, []⟩⟩
def u64s : Lay (List Int) := Lay.slice (Lay.int .u64)
def entryLay : Lay Entry := Lay.map (fun e => (e.keys, e.masks, e.len, e.prio, e.act, e.args)) (Lay.pair u64s (Lay.pair u64s (Lay.pair (Lay.int .i64) (Lay.pair (Lay.int .i64) (Lay.pair (Lay.int .i64) u64s)))))
instance : One entryLay := ⟨fun h => One.one (L := Lay.pair (Lay.slice (Lay.int .u64)) (Lay.pair (Lay.slice (Lay.int .u64)) (Lay.pair (Lay.int .i64) (Lay.pair (Lay.int .i64) (Lay.pair (Lay.int .i64) (Lay.slice (Lay.int .u64))))))) h⟩
/-- An entry out of its parts. -/
theorem entry_rep {A : Nat → Prop} {w : World} {e : Entry} {k m g : Option Addr} {k1 k2 m1 m2 g1 g2 : Nat} (hk : RdL (Lay.int .u64) A w k k1 k2 e.keys) (hm : RdL (Lay.int .u64) A w m m1 m2 e.masks) (hg : RdL (Lay.int .u64) A w g g1 g2 e.args) (hl : Fits .i64 e.len) (hp : Fits .i64 e.prio) (ha : Fits .i64 e.act) :
    entryLay.rep A w e [.slice k k1 k2, .slice m m1 m2, .int .i64 e.len, .int .i64 e.prio, .int .i64 e.act, .slice g g1 g2] :=
  ⟨[_], _, rfl, ⟨k, k1, k2, rfl, hk⟩, [_], _, rfl, ⟨m, m1, m2, rfl, hm⟩, [_], _, rfl, ⟨rfl, hl⟩, [_], _, rfl, ⟨rfl, hp⟩, [_], _, rfl, ⟨rfl, ha⟩, ⟨g, g1, g2, rfl, hg⟩⟩
theorem entry_parts {A : Nat → Prop} {w : World} {e : Entry} {cs : List Value} (h : entryLay.rep A w e cs) : ∃ k k1 k2 m m1 m2 g g1 g2, cs = [.slice k k1 k2, .slice m m1 m2, .int .i64 e.len, .int .i64 e.prio, .int .i64 e.act, .slice g g1 g2] ∧
    RdL (Lay.int .u64) A w k k1 k2 e.keys ∧ RdL (Lay.int .u64) A w m m1 m2 e.masks ∧ RdL (Lay.int .u64) A w g g1 g2 e.args ∧ Fits .i64 e.len ∧ Fits .i64 e.prio ∧ Fits .i64 e.act := by
  obtain ⟨_, _, rfl, ⟨k, k1, k2, rfl, hk⟩, _, _, rfl, ⟨m, m1, m2, rfl, hm⟩, _, _, rfl, ⟨rfl, hl⟩, _, _, rfl, ⟨rfl, hp⟩, _, _, rfl, ⟨rfl, ha⟩, ⟨g, g1, g2, rfl, hg⟩⟩ := h
  exact ⟨k, k1, k2, m, m1, m2, g, g1, g2, rfl, hk, hm, hg, hl, hp, ha⟩
theorem sty_entries : SliceTy Try.prog 42 30 6 96 (.agg #[.slice none 0 0, .slice none 0 0, .int .i64 0, .int .i64 0, .int .i64 0, .slice none 0 0]) := ⟨Try.underlying42, by kernel_rfl, rfl, by omega⟩
end Go.Proofs.Ytfakdapglbgokaa

/-
  A plain machine beside the model: values without addresses ('SV'), objects ('SObj'), states; when a state of the model's is one of them. No program in sight. No condition.
-/
namespace Go.Proofs.Ytfakdapglbgokaa
set_option linter.all false
open Go.RowKit

/-- Values without addresses. 'view': a slice that nobody writes to, by its elements' cells; 'cp': an address of cells that nobody writes to; 'ptr', 'eptr', 'own': an address in, a place in, a slice of an object. -/
inductive SV where
  | any
  | bool (b : Bool)
  | int (k : IntKind) (n : Int)
  | str (s : ByteArray)
  | nil
  | nilsl
  | nilfn
  | view (size : Nat) (es : List (List SV))
  | cp (cs : List SV)
  | ptr (id off : Nat)
  | eptr (id size i j : Nat)
  | own (id len : Nat)
  | agg (cs : List SV)
  | tup (cs : List SV)
  | fn (f : Fn) (first cap : List SV)
  | bot
instance : Inhabited SV := ⟨.any⟩

/-- Where an object lies: nowhere yet (a nil slice), or a block, with the room of a slice. -/
abbrev Pl := Option (Nat × Nat)
abbrev Plan_ := Nat → Option Pl
def noPl : Plan_ := fun _ => none

/-- The model's value that a value without addresses stands for. -/
inductive RepV (w : World) (A : Nat → Prop) : Plan_ → SV → Value → Prop
  | any {ρ v} : RepV w A ρ .any v
  | bool {ρ b} : RepV w A ρ (.bool b) (.bool b)
  | int {ρ k n} : RepV w A ρ (.int k n) (.int k n)
  | str {ρ s} : RepV w A ρ (.str s) (.string s)
  | nil {ρ} : RepV w A ρ .nil (.pointer none)
  | nilsl {ρ} : RepV w A ρ .nilsl (.slice none 0 0)
  | nilfn {ρ} : RepV w A ρ .nilfn .nilFunc
  | view0 {ρ size a c} (hc : c ≤ maxLen) (ha : a = none → c = 0) : RepV w A ρ (.view size []) (.slice a 0 c)
  | view {ρ size} {es : List (List SV)} {b off n c : Nat} (cv : Nat → Nat → Value) (hn : es.length = n) (hc : n ≤ c) (hm : c ≤ maxLen) (hA : ¬ A b) (hb : b < w.heap.size) (hs : ∀ e ∈ es, e.length = size)
      (h1 : ∀ i e j x, es[i]? = some e → e[j]? = some x → w.cell? ⟨b, off + i * size + j, none⟩ = some (cv i j))
      (h2 : ∀ i e j x, es[i]? = some e → e[j]? = some x → RepV w A noPl x (cv i j)) (ho : ∀ i e j x, es[i]? = some e → e[j]? = some x → (cv i j).oneCell' = true) : RepV w A ρ (.view size es) (.slice (some ⟨b, off, none⟩) n c)
  | cp {ρ} {cs : List SV} {b off : Nat} (cv : Nat → Value) (hA : ¬ A b) (hb : b < w.heap.size)
      (h1 : ∀ j x, cs[j]? = some x → w.cell? ⟨b, off + j, none⟩ = some (cv j)) (h2 : ∀ j x, cs[j]? = some x → RepV w A noPl x (cv j)) (ho : ∀ j x, cs[j]? = some x → (cv j).oneCell' = true) : RepV w A ρ (.cp cs) (.pointer (some ⟨b, off, none⟩))
  | ptr {ρ id off b c} (h : ρ id = some (some (b, c))) : RepV w A ρ (.ptr id off) (.pointer (some ⟨b, off, none⟩))
  | eptr {ρ id size i j b c} (h : ρ id = some (some (b, c))) : RepV w A ρ (.eptr id size i j) (.pointer (some ⟨b, i * size + j, none⟩))
  | own0 {ρ id} (h : ρ id = some none) : RepV w A ρ (.own id 0) (.slice none 0 0)
  | own {ρ id n b c} (h : ρ id = some (some (b, c))) (hn : n ≤ c) (hm : c ≤ maxLen) : RepV w A ρ (.own id n) (.slice (some ⟨b, 0, none⟩) n c)
  | agg {ρ} {cs : List SV} {vs : List Value} (ho : ∀ v ∈ vs, v.oneCell' = true) (hl : cs.length = vs.length) (h : ∀ (j : Nat) x v, cs[j]? = some x → vs[j]? = some v → RepV w A ρ x v) : RepV w A ρ (.agg cs) (.agg vs.toArray)
  | tup {ρ} {cs : List SV} {vs : List Value} (hl : cs.length = vs.length) (h : ∀ (j : Nat) x v, cs[j]? = some x → vs[j]? = some v → RepV w A ρ x v) : RepV w A ρ (.tup cs) (.tuple vs.toArray)
  | fn {ρ f} {fs cs : List SV} {vs us : List Value} (h1 : fs.length = vs.length) (h2 : cs.length = us.length) (h3 : ∀ (j : Nat) x v, fs[j]? = some x → vs[j]? = some v → RepV w A ρ x v) (h4 : ∀ (j : Nat) x v, cs[j]? = some x → us[j]? = some v → RepV w A ρ x v) : RepV w A ρ (.fn f fs cs) (.func f vs.toArray us.toArray)

def Ones (vs : List Value) : Prop := ∀ v ∈ vs, v.oneCell' = true
/-- Values, one behind the other. -/
def Reps (w : World) (A : Nat → Prop) (ρ : Plan_) (cs : List SV) (vs : List Value) : Prop := cs.length = vs.length ∧ ∀ (j : Nat) x v, cs[j]? = some x → vs[j]? = some v → RepV w A ρ x v

theorem RepV.mono {w w' : World} {A A' : Nat → Prop} {ρ ρ' : Plan_} {x : SV} {v : Value} (h : RepV w A ρ x v) (hs : Step A w w') (hA : ∀ k, A' k → k < w.heap.size → A k) (hρ : ∀ id p, ρ id = some p → ρ' id = some p) : RepV w' A' ρ' x v := by
  induction h generalizing ρ' with
  | any => exact .any
  | bool => exact .bool
  | int => exact .int
  | str => exact .str
  | nil => exact .nil
  | nilsl => exact .nilsl
  | nilfn => exact .nilfn
  | view0 hc ha => exact .view0 hc ha
  | view cv hn hc hm hA' hb hz h1 h2 ho ih => exact .view cv hn hc hm (fun h => hA' (hA _ h hb)) (Nat.lt_of_lt_of_le hb hs.size) hz (fun i e j x he hx => hs.cell (h1 i e j x he hx) hA') (fun i e j x he hx => ih i e j x he hx fun _ _ h => h) ho
  | cp cv hA' hb h1 h2 ho ih => exact .cp cv (fun h => hA' (hA _ h hb)) (Nat.lt_of_lt_of_le hb hs.size) (fun j x hx => hs.cell (h1 j x hx) hA') (fun j x hx => ih j x hx fun _ _ h => h) ho
  | ptr h => exact .ptr (hρ _ _ h)
  | eptr h => exact .eptr (hρ _ _ h)
  | own0 h => exact .own0 (hρ _ _ h)
  | own h hn hm => exact .own (hρ _ _ h) hn hm
  | agg ho hl _ ih => exact .agg ho hl fun j x v hx hv => ih j x v hx hv hρ
  | tup hl _ ih => exact .tup hl fun j x v hx hv => ih j x v hx hv hρ
  | fn h1 h2 _ _ ih1 ih2 => exact .fn h1 h2 (fun j x v hx hv => ih1 j x v hx hv hρ) (fun j x v hx hv => ih2 j x v hx hv hρ)
theorem RepV.weaken {w : World} {A A' : Nat → Prop} {ρ : Plan_} {x : SV} {v : Value} (h : RepV w A ρ x v) (hA : ∀ k, A' k → k < w.heap.size → A k) : RepV w A' ρ x v := h.mono (.refl _ _) hA fun _ _ h => h
theorem Reps.mono {w w' : World} {A A' : Nat → Prop} {ρ ρ' : Plan_} {x : List SV} {v : List Value} (h : Reps w A ρ x v) (hs : Step A w w') (hA : ∀ k, A' k → k < w.heap.size → A k) (hρ : ∀ id p, ρ id = some p → ρ' id = some p) : Reps w' A' ρ' x v :=
  ⟨h.1, fun j x v hx hv => (h.2 j x v hx hv).mono hs hA hρ⟩
theorem Reps.nil {w : World} {A : Nat → Prop} {ρ : Plan_} : Reps w A ρ [] [] := ⟨rfl, by simp⟩
theorem Reps.cons {w : World} {A : Nat → Prop} {ρ : Plan_} {x : SV} {v : Value} {xs : List SV} {vs : List Value} (h : RepV w A ρ x v) (hs : Reps w A ρ xs vs) : Reps w A ρ (x :: xs) (v :: vs) := by
  refine ⟨by simp [hs.1], fun j y u hy hu => ?_⟩
  cases j with
  | zero => simp at hy hu; subst hy hu; exact h
  | succ j => exact hs.2 j y u (by simpa using hy) (by simpa using hu)
theorem Reps.cons_inv {w : World} {A : Nat → Prop} {ρ : Plan_} {x : SV} {xs : List SV} {vs : List Value} (h : Reps w A ρ (x :: xs) vs) : ∃ v us, vs = v :: us ∧ RepV w A ρ x v ∧ Reps w A ρ xs us := by
  obtain ⟨hl, h⟩ := h
  cases vs with
  | nil => simp at hl
  | cons v us => exact ⟨v, us, rfl, h 0 x v rfl rfl, by simpa using hl, fun j y u hy hu => h (j + 1) y u (by simpa using hy) (by simpa using hu)⟩
theorem Reps.nil_inv {w : World} {A : Nat → Prop} {ρ : Plan_} {vs : List Value} (h : Reps w A ρ [] vs) : vs = [] := by
  have := h.1; cases vs with | nil => rfl | cons => simp at this
theorem Reps.get {w : World} {A : Nat → Prop} {ρ : Plan_} {xs : List SV} {vs : List Value} (h : Reps w A ρ xs vs) {j : Nat} {x : SV} (hx : xs[j]? = some x) : ∃ v, vs[j]? = some v ∧ RepV w A ρ x v := by
  have hj : j < xs.length := (List.getElem?_eq_some_iff.1 hx).1
  exact ⟨vs[j]'(h.1 ▸ hj), List.getElem?_eq_getElem _, h.2 j x _ hx (List.getElem?_eq_getElem _)⟩
theorem Reps.append {w : World} {A : Nat → Prop} {ρ : Plan_} {xs ys : List SV} {vs us : List Value} (h : Reps w A ρ xs vs) (g : Reps w A ρ ys us) : Reps w A ρ (xs ++ ys) (vs ++ us) := by
  refine ⟨by rw [List.length_append, List.length_append, h.1, g.1], fun j x v hx hv => ?_⟩
  by_cases hj : j < xs.length
  · rw [List.getElem?_append_left hj] at hx
    rw [List.getElem?_append_left (by rw [← h.1]; exact hj)] at hv
    exact h.2 j x v hx hv
  · rw [List.getElem?_append_right (by omega)] at hx
    rw [List.getElem?_append_right (by rw [← h.1]; omega), ← h.1] at hv
    exact g.2 _ x v hx hv

/-- What an abstract object is: a predicate on worlds, the blocks that what it holds avoids, those that are its own and the block that its address names; it holds on while its own blocks stay and only avoided ones turn. -/
structure AbsI where
  I : World → (Nat → Prop) → (Nat → Prop) → Nat → Prop
  lt : ∀ {w A Fp b}, I w A Fp b → ∀ k, Fp k → k < w.heap.size
  keep : ∀ {w w' A A' Fp b}, I w A Fp b → Step A w w' → (∀ k, A' k → k < w.heap.size → A k) → (∀ k, Fp k → w'.heap[k]? = w.heap[k]?) → I w' A' Fp b

inductive SObj where
  | cells (t : TypeId) (cs : List SV)
  | row (e : TypeId) (size : Nat) (es : List (List SV))
  | abs (I : AbsI)

abbrev Hp := List (Nat × SObj)
def geth : Hp → Nat → Option SObj
  | [], _ => none
  | (i, o) :: h, n => if i = n then some o else geth h n
def puth : Hp → Nat → SObj → Hp
  | [], n, x => [(n, x)]
  | (i, o) :: h, n, x => if i = n then (n, x) :: h else (i, o) :: puth h n x
def delh : Hp → Nat → Hp
  | [], _ => []
  | (i, o) :: h, n => if i = n then delh h n else (i, o) :: delh h n
theorem geth_puth (h : Hp) (n : Nat) (x : SObj) (k : Nat) : geth (puth h n x) k = if k = n then some x else geth h k := by
  induction h with
  | nil => simp [puth, geth, eq_comm]
  | cons p h ih =>
    obtain ⟨i, o⟩ := p
    simp only [puth]
    split
    · subst i
      simp only [geth]
      by_cases hk : k = n
      · simp [hk]
      · simp [hk, Ne.symm hk]
    · rename_i hne
      simp only [geth, ih]
      by_cases hik : i = k
      · subst hik; simp [hne]
      · simp [hik]
theorem geth_delh (h : Hp) (n k : Nat) : geth (delh h n) k = if k = n then none else geth h k := by
  induction h with
  | nil => simp [delh, geth]
  | cons p h ih =>
    obtain ⟨i, o⟩ := p
    simp only [delh]
    split
    · subst i
      rw [ih]
      by_cases hk : k = n
      · simp [hk]
      · simp [hk, geth, Ne.symm hk]
    · rename_i hne
      simp only [geth, ih]
      by_cases hik : i = k
      · subst hik; simp [hne]
      · simp [hik]

abbrev Sl := List (Nat × SV)
def gets : Sl → Nat → SV
  | [], _ => .any
  | (i, v) :: l, t => if i = t then v else gets l t
def puts : Sl → Nat → SV → Sl
  | l, t, v => (t, v) :: l
theorem gets_puts (l : Sl) (t : Nat) (v : SV) (u : Nat) : gets (puts l t v) u = if u = t then v else gets l u := by
  simp only [puts, gets]
  by_cases h : t = u <;> simp [h, eq_comm]

/-- A state of the plain machine: temporaries, objects, the next name. -/
structure SSt where
  sl : Sl
  hp : Hp
  nx : Nat

/-- The value at the head of a row. -/
def placeOf : Value → Pl
  | .slice (some a) _ c => some (a.block, c)
  | _ => none

/-- An object as it lies. -/
def ObjRep (w : World) (A : Nat → Prop) (ρ : Plan_) (id : Nat) (fp : Nat → Prop) : SObj → Prop
  | .cells t cs => ∃ b c vs, ρ id = some (some (b, c)) ∧ Blk w b t vs.toArray ∧ (Reps w A ρ cs vs ∧ Ones vs) ∧ ∀ k, fp k ↔ k = b
  | .row e size es => ∃ v vs, w.ownsRow 0 e size v es.length vs ∧ (Reps w A ρ es.flatten vs ∧ Ones vs) ∧ (∀ x ∈ es, x.length = size) ∧ ρ id = some (placeOf v) ∧ ∀ k, fp k ↔ v.ownBlock = some k
  | .abs I => ∃ b c, ρ id = some (some (b, c)) ∧ I.I w A fp b

/-- What stands fast in a call: the program, how many temporaries, how many objects came in, where they lay; the world at the start, the blocks that may turn, the blocks to be avoided besides. -/
structure Cx where
  P : Program
  N : Nat
  m : Nat
  ρ0 : Plan_
  W : World
  M : Nat → Prop
  O : Nat → Prop
  O_lt : ∀ k, O k → k < W.heap.size
  O_M : ∀ k, O k → ¬ M k

def Live (hp : Hp) (fp : Nat → Nat → Prop) (k : Nat) : Prop := ∃ id o, geth hp id = some o ∧ fp id k
def Av (X : Cx) (hp : Hp) (fp : Nat → Nat → Prop) (k : Nat) : Prop := X.O k ∨ Live hp fp k

/-- The objects of a state, as they lie. -/
structure SimH (X : Cx) (ρ : Plan_) (fp : Nat → Nat → Prop) (hp : Hp) (w : World) : Prop where
  objs : ∀ id o, geth hp id = some o → ObjRep w (Av X hp fp) ρ id (fp id) o
  disj : ∀ id id' o o', id ≠ id' → geth hp id = some o → geth hp id' = some o' → ∀ k, fp id k → ¬ fp id' k
  turn : ∀ id o, geth hp id = some o → ∀ k, fp id k → (X.M k ∨ X.W.heap.size ≤ k) ∧ k < w.heap.size
  step : Step X.M X.W w
  keep : ∀ id, id < X.m → ρ id = X.ρ0 id
structure Sim (X : Cx) (ρ : Plan_) (fp : Nat → Nat → Prop) (s : SSt) (a : Act) (w : World) : Prop where
  h : SimH X ρ fp s.hp w
  tmps : a.tmps.size = X.N
  defers : a.defers = []
  slots : ∀ t, RepV w (Av X s.hp fp) ρ (gets s.sl t) (a.tmps.getD t undef)
end Go.Proofs.Ytfakdapglbgokaa
