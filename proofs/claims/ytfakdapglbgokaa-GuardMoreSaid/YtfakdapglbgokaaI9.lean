/-
  Texts joined: XShB. No condition.
-/
import Derived.Laws.Entries
import Derived.Test.YtfakdapglbgokaaI6
/-
  The plain machine's operations, and how they are got out of the model's. No condition.
-/
namespace Go.Proofs.Ytfakdapglbgokaa
set_option linter.all false
open Go.RowKit

/-- An operand. -/
inductive SX where
  | t (n : Nat)
  | c (v : SV)
def SX.ev (l : Sl) : SX → SV
  | .t n => gets l n
  | .c v => v

inductive SOp where
  | mv (x : SX)
  | pick (c a b : SX)
  | alloc (t : TypeId) (z : List SV)
  | box (t : TypeId) (x : SX)
  | build (z : List SV) (parts : List (Nat × Nat × SX))
  | mkrow (e size n : Nat) (z : List SV) (parts : List (Nat × SX))
  | load (x : SX)
  | loads (n : Nat) (x : SX)
  | store (n : Nat) (x v : SX)
  | nilc (x : SX)
  | bin (op : BinOp) (x y : SX)
  | eq (k : Nat) (neg : Bool) (x y : SX)
  | eqs (ks : List Nat) (neg : Bool) (x y : SX)
  | un (op : UnOp) (x : SX)
  | conv (k : IntKind) (x : SX)
  | mkslice (e size bytes : Nat) (z : List SV) (l c : SX)
  | slice (size : Nat) (x : SX) (lo hi : Option SX)
  | slstr (x : SX) (lo hi : Option SX)
  | faddr (off : Nat) (x : SX)
  | iaddr (size : Nat) (x i : SX)
  | iarr (len size : Nat) (x i : SX)
  | field (off : Nat) (n : Option Nat) (x : SX)
  | idx (len size : Nat) (n : Option Nat) (x i : SX)
  | idxs (x i : SX)
  | extr (x : SX) (i : Nat)
  | len (str : Bool) (x : SX)
  | app (e size bytes : Nat) (s x : SX)
  | mm (max : Bool) (x y : SX)
  | mkfn (f : Fn) (first cap : List SX)

/-- A condition that must hold. -/
def rg {α : Type} (c : Prop) [Decidable c] (o : Option α) : Option α := if c then o else none
theorem rg_pos {α : Type} {c : Prop} [Decidable c] (h : c) (o : Option α) : rg c o = o := if_pos h
theorem rg_some {α : Type} {c : Prop} [Decidable c] {o : Option α} {x : α} : rg c o = some x ↔ c ∧ o = some x := by
  unfold rg; split <;> simp [*]

/-- The cells of a value. -/
def SV.cells? : SV → Option (List SV)
  | .agg cs => some cs
  | .any | .tup _ => none
  | v => some [v]
def setL : List SV → Nat → List SV → List SV
  | cs, _, [] => cs
  | cs, off, v :: vs => setL (cs.set off v) (off + 1) vs
def fillS : List SV → List (Nat × Nat × SV) → Option (List SV)
  | z, [] => some z
  | z, (off, size, v) :: r => match v.cells? with
    | some cs => if cs.length = size ∧ off + size ≤ z.length then fillS (setL z off cs) r else none
    | none => none
def fillR : Nat → List (List SV) → List (Nat × SV) → Option (List (List SV))
  | _, es, [] => some es
  | size, es, (i, v) :: r => match v.cells? with
    | some cs => if cs.length = size ∧ i < es.length then fillR size (es.set i cs) r else none
    | none => none
def sbin : BinOp → IntKind → Int → IntKind → Int → Option SV
  | .shl, k, a, _, b => rg (0 ≤ b) (some (.int k (k.wrap (a * 2 ^ min b.toNat k.bits))))
  | .shr, k, a, _, b => rg (0 ≤ b) (some (.int k (a / 2 ^ min b.toNat k.bits)))
  | .add, k, a, k', b => if k = k' then some (.int k (k.wrap (a + b))) else none
  | .sub, k, a, k', b => if k = k' then some (.int k (k.wrap (a - b))) else none
  | .mul, k, a, k', b => if k = k' then some (.int k (k.wrap (a * b))) else none
  | .quo, k, a, k', b => if k = k' then rg (b ≠ 0) (some (.int k (k.wrap (a.tdiv b)))) else none
  | .rem, k, a, k', b => if k = k' then rg (b ≠ 0) (some (.int k (a.tmod b))) else none
  | .and, k, a, k', b => if k = k' then some (.int k (bits .and k a b)) else none
  | .or, k, a, k', b => if k = k' then some (.int k (bits .or k a b)) else none
  | .xor, k, a, k', b => if k = k' then some (.int k (bits .xor k a b)) else none
  | .andNot, k, a, k', b => if k = k' then some (.int k (bits .andNot k a b)) else none
  | .eql, k, a, k', b => if k = k' then some (.bool (a == b)) else none
  | .neq, k, a, k', b => if k = k' then some (.bool (a != b)) else none
  | .lss, k, a, k', b => if k = k' then some (.bool (a < b)) else none
  | .leq, k, a, k', b => if k = k' then some (.bool (a ≤ b)) else none
  | .gtr, k, a, k', b => if k = k' then some (.bool (a > b)) else none
  | .geq, k, a, k', b => if k = k' then some (.bool (a ≥ b)) else none
/-- One cell against another. -/
def eq1 : Nat → SV → SV → Option Bool
  | 0, .bool a, .bool b => some (a == b)
  | 1, .int k a, .int k' b => if k = k' then some (a == b) else none
  | 2, .str a, .str b => some (a.toList == b.toList)
  | _, _, _ => none
def eq0 : Nat → SV → SV → Option Bool
  | 0, .bool a, .bool b => some (a == b)
  | 1, .nil, .nil => some true
  | 1, .nil, .ptr _ _ | 1, .nil, .cp _ | 1, .nil, .eptr _ _ _ _ => some false
  | 1, .ptr _ _, .nil | 1, .cp _, .nil | 1, .eptr _ _ _ _, .nil => some false
  | 2, .nilsl, .nilsl => some true
  | 2, .view _ (_ :: _), .nilsl => some false
  | 3, .nilfn, .nilfn => some true
  | 3, .nilfn, .fn _ _ _ | 3, .fn _ _ _, .nilfn => some false
  | _, _, _ => none
def eqL : List Nat → List SV → List SV → Option Bool
  | [], [], [] => some true
  | k :: ks, x :: xs, y :: ys => match eq1 k x y, eqL ks xs ys with
    | some a, some b => some (a && b)
    | _, _ => none
  | _, _, _ => none

/-- What an operation yields; the objects that it turns (none: no more there); the next name. -/
abbrev Upd := List (Nat × Option SObj)
def upds : Hp → Upd → Hp
  | h, [] => h
  | h, (i, some o) :: u => upds (puth h i o) u
  | h, (i, none) :: u => upds (delh h i) u

def rowOf (size : Nat) (g : Nat → Option SObj) : SV → Option (List (List SV))
  | .nilsl => some []
  | .view size' es => if size = size' then some es else none
  | .own id n => match g id with
    | some (.row _ size' es) => if size = size' then rg (n ≤ es.length) (some (es.take n)) else none
    | _ => none
  | _ => none

def SOp.run (ev : SX → SV) (g : Nat → Option SObj) (nx : Nat) : SOp → Option (SV × Upd × Nat)
  | .mv x => some (ev x, [], nx)
  | .pick c a b => match ev c with
    | .bool c => match ev a, ev b with
      | .bool a, .bool b => some (.bool (bif c then a else b), [], nx)
      | x, y => some (match c with | true => x | false => y, [], nx)
    | _ => none
  | .alloc t z => some (.ptr nx 0, [(nx, some (.cells t z))], nx + 1)
  | .box t x => match (ev x).cells? with
    | some cs => some (.ptr nx 0, [(nx, some (.cells t cs))], nx + 1)
    | none => none
  | .build z parts => match fillS z (parts.map fun p => (p.1, p.2.1, ev p.2.2)) with
    | some cs => some (.agg cs, [], nx)
    | none => none
  | .mkrow e size n z parts => match fillR size (List.replicate n z) (parts.map fun p => (p.1, ev p.2)) with
    | some es => some (.own nx n, [(nx, some (.row e size es))], nx + 1)
    | none => none
  | .load x => match ev x with
    | .cp (c :: _) => some (c, [], nx)
    | .ptr id off => match g id with
      | some (.cells _ cs) => (cs[off]?).map fun c => (c, [], nx)
      | _ => none
    | .eptr id size i j => match g id with
      | some (.row _ size' es) => if size = size' ∧ j < size then ((es[i]?).bind (·[j]?)).map fun c => (c, [], nx) else none
      | _ => none
    | _ => none
  | .loads n x => match ev x with
    | .cp cs => if n ≤ cs.length then some (.agg (cs.take n), [], nx) else none
    | .ptr id off => match g id with
      | some (.cells _ cs) => if off + n ≤ cs.length then some (.agg ((cs.drop off).take n), [], nx) else none
      | _ => none
    | .eptr id size i j => match g id with
      | some (.row _ size' es) => if size = size' ∧ j + n ≤ size then (es[i]?).map fun e => (.agg ((e.drop j).take n), [], nx) else none
      | _ => none
    | _ => none
  | .store n x v => match (ev v).cells? with
    | none => none
    | some vs => if vs.length = n then (match ev x with
      | .ptr id off => match g id with
        | some (.cells t cs) => rg (off + n ≤ cs.length) (some (.any, [(id, some (.cells t (setL cs off vs)))], nx))
        | _ => none
      | .eptr id size i j => match g id with
        | some (.row e size' es) => if size = size' ∧ j + n ≤ size then (es[i]?).map fun x => (.any, [(id, some (.row e size (es.set i (setL x j vs))))], nx) else none
        | _ => none
      | _ => none) else none
  | .nilc x => match ev x with
    | .ptr id off => some (.ptr id off, [], nx)
    | .cp cs => some (.cp cs, [], nx)
    | .eptr id size i j => some (.eptr id size i j, [], nx)
    | .fn (.func f) a b => some (.fn (.func f) a b, [], nx)
    | _ => none
  | .bin op x y => match ev x, ev y with
    | .int k a, .int k' b => (sbin op k a k' b).map fun v => (v, [], nx)
    | .str a, .str b => match op with
      | .add => rg (a.size + b.size ≤ maxLen) (some (.str (a ++ b), [], nx))
      | .eql => some (.bool (a.toList == b.toList), [], nx)
      | .neq => some (.bool (!(a.toList == b.toList)), [], nx)
      | _ => none
    | _, _ => none
  | .eq k neg x y => (eq0 k (ev x) (ev y)).map fun b => (.bool (neg != b), [], nx)
  | .eqs ks neg x y => match ev x, ev y with
    | .agg xs, .agg ys => (eqL ks xs ys).map fun b => (.bool (neg != b), [], nx)
    | _, _ => none
  | .un op x => match op, ev x with
    | .neg, .int k n => some (.int k (k.wrap (0 - n)), [], nx)
    | .xor, .int k n => some (.int k (bits .xor k (if k.signed then -1 else k.max) n), [], nx)
    | .not, .bool b => some (.bool (!b), [], nx)
    | _, _ => none
  | .conv k x => match ev x with
    | .int _ n => some (.int k (k.wrap n), [], nx)
    | _ => none
  | .mkslice e size bytes z l c => match ev l, ev c with
    | .int .i64 l, .int .i64 c => rg (0 ≤ l ∧ l ≤ c ∧ c ≤ maxLen ∧ c * bytes ≤ 140737488355328) (some (.own nx l.toNat, [(nx, some (.row e size (List.replicate l.toNat z)))], nx + 1))
    | _, _ => none
  | .slice size x lo hi =>
    match lo.map ev, hi.map ev with
    | none, none => (match ev x with
      | .view size' es => if size = size' then some (.view size es, [], nx) else none
      | .own id n => some (.own id n, [], nx)
      | _ => none)
    | some (.int _ l), none => (match ev x with
      | .view size' es => if size = size' then rg (0 ≤ l ∧ l ≤ es.length) (some (.view size (es.drop l.toNat), [], nx)) else none
      | _ => none)
    | none, some (.int _ h) => (match ev x with
      | .view size' es => if size = size' then rg (0 ≤ h ∧ h ≤ es.length) (some (.view size (es.take h.toNat), [], nx)) else none
      | .own id n => rg (0 ≤ h ∧ h ≤ n) (some (.own id h.toNat, [], nx))
      | _ => none)
    | some (.int _ l), some (.int _ h) => (match ev x with
      | .view size' es => if size = size' then rg (0 ≤ l ∧ l ≤ h ∧ h ≤ es.length) (some (.view size ((es.take h.toNat).drop l.toNat), [], nx)) else none
      | _ => none)
    | _, _ => none
  | .slstr x lo hi =>
    match ev x with
    | .str s => (match lo.map ev, hi.map ev with
      | some (.int _ l), none => rg (0 ≤ l ∧ l ≤ s.size) (some (.str (s.extract l.toNat s.size), [], nx))
      | none, some (.int _ h) => rg (0 ≤ h ∧ h ≤ s.size) (some (.str (s.extract 0 h.toNat), [], nx))
      | some (.int _ l), some (.int _ h) => rg (0 ≤ l ∧ l ≤ h ∧ h ≤ s.size) (some (.str (s.extract l.toNat h.toNat), [], nx))
      | _, _ => none)
    | _ => none
  | .faddr off x => match ev x with
    | .ptr id o => some (.ptr id (o + off), [], nx)
    | .cp cs => some (.cp (cs.drop off), [], nx)
    | .eptr id size i j => some (.eptr id size i (j + off), [], nx)
    | _ => none
  | .iaddr size x i => match ev i with
    | .int _ i => match ev x with
      | .view size' es => if size = size' then rg (0 ≤ i ∧ i < es.length) (some (.cp ((es[i.toNat]?).getD []), [], nx)) else none
      | .own id n => rg (0 ≤ i ∧ i < n) (some (.eptr id size i.toNat 0, [], nx))
      | _ => none
    | _ => none
  | .iarr n size x i => match ev i with
    | .int _ i => match ev x with
      | .ptr id off => rg (0 ≤ i ∧ i < n) (some (.ptr id (off + i.toNat * size), [], nx))
      | .cp cs => rg (0 ≤ i ∧ i < n) (some (.cp (cs.drop (i.toNat * size)), [], nx))
      | .eptr id size' i' j => rg (0 ≤ i ∧ i < n) (some (.eptr id size' i' (j + i.toNat * size), [], nx))
      | _ => none
    | _ => none
  | .field off n x => match ev x with
    | .agg cs => match n with
      | none => (cs[off]?).map fun c => (c, [], nx)
      | some n => if off + n ≤ cs.length then some (.agg ((cs.drop off).take n), [], nx) else none
    | _ => none
  | .idx m size n x i => match ev i with
    | .int _ i => match ev x with
      | .agg cs => rg (0 ≤ i ∧ i < m) (match n with
        | none => (cs[i.toNat * size]?).map fun c => (c, [], nx)
        | some n => rg (i.toNat * size + n ≤ cs.length) (some (.agg ((cs.drop (i.toNat * size)).take n), [], nx)))
      | _ => none
    | _ => none
  | .idxs x i => match ev i with
    | .int _ i => match ev x with
      | .str s => rg (0 ≤ i) (match s[i.toNat]? with
        | some b => some (.int .u8 b.toNat, [], nx)
        | none => none)
      | _ => none
    | _ => none
  | .extr x i => match ev x with
    | .tup vs => (vs[i]?).map fun c => (c, [], nx)
    | _ => none
  | .len st x => match ev x with
    | .view _ es => if st = false then some (.int .i64 es.length, [], nx) else none
    | .own _ n => if st = false then some (.int .i64 n, [], nx) else none
    | .nilsl => if st = false then some (.int .i64 0, [], nx) else none
    | .str s => if st = true then some (.int .i64 s.size, [], nx) else none
    | _ => none
  | .app e size bytes s x => match rowOf size g (ev x) with
    | none => none
    | some ys => match ev s with
      | .nilsl => rg (ys.length ≤ maxLen ∧ ys.length * bytes ≤ 140737488355328) (some (.own nx ys.length, [(nx, some (.row e size ys))], nx + 1))
      | .own id n => match g id with
        | some (.row e' size' es) => if e = e' ∧ size = size' ∧ n = es.length then rg (n + ys.length ≤ maxLen ∧ (n + ys.length) * bytes ≤ 140737488355328) (some (.own nx (n + ys.length), [(id, none), (nx, some (.row e size (es ++ ys)))], nx + 1)) else none
        | _ => none
      | _ => none
  | .mm max x y => match ev x, ev y with
    | .int k a, .int k' b => if k = k' then some (.int k (if max then (if b > a then b else a) else (if b < a then b else a)), [], nx) else none
    | _, _ => none
  | .mkfn f first cap => some (.fn f (first.map ev) (cap.map ev), [], nx)

/-- Constants. -/
def cone : Value → Option SV
  | .bool b => some (.bool b)
  | .int k n => some (.int k n)
  | .string s => some (.str s)
  | .pointer none => some .nil
  | .slice none 0 0 => some .nilsl
  | .nilFunc => some .nilfn
  | _ => none
def cval : Value → Option SV
  | .agg cs => (cs.toList.mapM cone).map .agg
  | v => cone v
def cx (N : Nat) : Operand → Option SX
  | .tmp t => if t < N then some (.t t) else none
  | .const v => (cval v).map .c
  | .func f => some (.c (.fn (.func f) [] []))
  | _ => none
def cxo (N : Nat) : Option Operand → Option (Option SX)
  | none => some none
  | some y => (cx N y).map some
def zeroOf (P : Program) (t : TypeId) : Option (List SV) := match P.info? t with
  | some i => match i.zero with
    | some z => if z.cells.size = i.size then z.cells.toList.mapM cone else none
    | none => none
  | none => none
def aggOf (P : Program) (t : TypeId) : Option Bool := match P.underlying t with
  | some (.struct _) | some (.array _ _) => some true
  | some _ => some false
  | none => none
def sizeOf_ (P : Program) (t : TypeId) : Option Nat := (P.info? t).map (·.size)
/-- The parts of a struct by their places. -/
def fieldOf (P : Program) (t : TypeId) (i : Nat) : Option (Nat × Nat × TypeId) := match P.underlying t with
  | some (.struct fs) => match fs[i]? with
    | some f => (sizeOf_ P f.type).map fun n => (f.offset, n, f.type)
    | none => none
  | some (.array n e) => if i < n then (sizeOf_ P e).map fun n => (i * n, n, e) else none
  | _ => none
/-- The places of a struct's or an array's parts. -/
def placesOf (P : Program) (t : TypeId) : Option (Nat → Option (Nat × Nat)) := match P.underlying t with
  | some (.struct fs) => (fs.toList.mapM fun f => (P.info? f.type).map fun i => (f.offset, i.size)).map fun ps i => ps[i]?
  | some (.array _ e) => (P.info? e).map fun ie i => some (i * ie.size, ie.size)
  | _ => none
def cpart (N : Nat) (pl : Nat → Option (Nat × Nat)) (p : Nat × Operand) : Option (Nat × Nat × SX) := match pl p.1, cx N p.2 with
  | some f, some x => some (f.1, f.2, x)
  | _, _ => none
def cpart1 (N : Nat) (p : Nat × Operand) : Option (Nat × SX) := (cx N p.2).map fun x => (p.1, x)
def scalarOf (P : Program) (t : TypeId) : Option Nat := match P.underlying t with
  | some .bool => some 0
  | some (.int _) => some 1
  | some .string => some 2
  | _ => none
def flatF (P : Program) : Nat → List Field → Option (List Nat)
  | _, [] => some []
  | i, f :: fs => if f.offset = i ∧ f.name ≠ "_" then (match scalarOf P f.type, flatF P (i + 1) fs with
    | some k, some ks => some (k :: ks)
    | _, _ => none) else none
/-- A struct whose values are compared cell by cell. -/
def flatOf (P : Program) (t : TypeId) : Option (List Nat) := match P.underlying t with
  | some (.struct fs) => if !P.stoodInHeld t && !P.eqGuardType P.depth t then flatF P 0 fs.toList else none
  | _ => none
def cmpOf (P : Program) (t : TypeId) : Option Nat := match P.underlying t with
  | some .bool => some 0
  | some (.pointer _) => some 1
  | some (.slice _) => some 2
  | some (.func _ _ _) => some 3
  | _ => none
def isInt (P : Program) (t : TypeId) : Bool := match P.underlying t with
  | some (.int _) | some .string => true
  | _ => false

def cbi (P : Program) (N : Nat) : Builtin → List Operand → List TypeId → Option SOp
  | .len, [x], [t] => match P.underlying t with
    | some .string => do some (.len true (← cx N x))
    | some (.slice _) => do some (.len false (← cx N x))
    | some (.array n _) => some (.mv (.c (.int .i64 n)))
    | _ => none
  | .append, [s, x], [t, u] => match P.underlying t with
    | some (.slice e) => do
      let i ← P.info? e
      let _ ← zeroOf P e
      if t = u ∧ 0 < i.size then some (.app e i.size i.bytes (← cx N s) (← cx N x)) else none
    | _ => none
  | .min, [x, y], _ => do some (.mm false (← cx N x) (← cx N y))
  | .max, [x, y], _ => do some (.mm true (← cx N x) (← cx N y))
  | _, _, _ => none
def cop (P : Program) (N : Nat) (ty : TypeId) : Op → Option SOp
  | .move x | .assign x => do some (.mv (← cx N x))
  | .pick c a b => do some (.pick (← cx N c) (← cx N a) (← cx N b))
  | .alloc t => do some (.alloc t (← zeroOf P t))
  | .box t x => do some (.box t (← cx N x))
  | .build t ps => do
    let z ← zeroOf P t
    let pl ← placesOf P t
    let ps ← ps.toList.mapM (cpart N pl)
    some (.build z ps)
  | .buildSlice t n ps => match P.underlying t with
    | some (.slice e) => do
      let z ← zeroOf P e
      let ps ← ps.toList.mapM (cpart1 N)
      let size ← sizeOf_ P e
      if 0 < size ∧ n * size ≤ 2 ^ 20 then some (.mkrow e size n z ps) else none
    | _ => none
  | .load t x => do
    let x ← cx N x
    if ← aggOf P t then some (.loads (← sizeOf_ P t) x) else some (.load x)
  | .store t x v => do some (.store (← sizeOf_ P t) (← cx N x) (← cx N v))
  | .nilCheck x => do some (.nilc (← cx N x))
  | .binOp op t x y _ => do
    let x ← cx N x
    let y ← cx N y
    if isInt P t then some (.bin op x y) else match op with
      | .eql => match cmpOf P t with
        | some k => some (.eq k false x y)
        | none => (flatOf P t).map fun ks => .eqs ks false x y
      | .neq => match cmpOf P t with
        | some k => some (.eq k true x y)
        | none => (flatOf P t).map fun ks => .eqs ks true x y
      | _ => none
  | .unOp op _ x => do some (.un op (← cx N x))
  | .convert s d x => match P.underlying s, P.underlying d with
    | some (.int _), some (.int k) => do some (.conv k (← cx N x))
    | _, _ => none
  | .makeSlice t l c => match P.underlying t with
    | some (.slice e) => do
      let z ← zeroOf P e
      let i ← P.info? e
      if 0 < i.size then some (.mkslice e i.size i.bytes z (← cx N l) (← cx N c)) else none
    | _ => none
  | .slice t x lo hi none => do
    let x ← cx N x
    let lo ← cxo N lo
    let hi ← cxo N hi
    match P.underlying t with
    | some (.slice e) => do some (.slice (← sizeOf_ P e) x lo hi)
    | some .string => some (.slstr x lo hi)
    | _ => none
  | .fieldAddr t x i => match P.underlying t with
    | some (.struct _) => do
      let f ← fieldOf P t i
      if f.2.1 = 0 then none else some (.faddr f.1 (← cx N x))
    | _ => none
  | .field t x i => match P.underlying t with
    | some (.struct _) => do
      let f ← fieldOf P t i
      some (.field f.1 (if ← aggOf P f.2.2 then some f.2.1 else none) (← cx N x))
    | _ => none
  | .indexAddr t x i => do
    let x ← cx N x
    let i ← cx N i
    match P.underlying t with
    | some (.slice e) => do some (.iaddr (← sizeOf_ P e) x i)
    | some (.array n e) => do some (.iarr n (← sizeOf_ P e) x i)
    | _ => none
  | .index t x i => do
    let x ← cx N x
    let i ← cx N i
    match P.underlying t with
    | some .string => some (.idxs x i)
    | some (.array n e) => do
      let size ← sizeOf_ P e
      some (.idx n size (if ← aggOf P e then some size else none) x i)
    | _ => none
  | .extract x i => do some (.extr (← cx N x) i)
  | .makeFunc f first cap => do some (.mkfn f (← first.toList.mapM (cx N)) (← cap.toList.mapM (cx N)))
  | .call { callee := .builtin b, args, argTypes } => cbi P N b args.toList argTypes.toList
  | _ => none

/-- One of a region's operations: where it writes, what it is, which must be ahead of it (as bits). -/
structure SOper where
  dst : Option Nat
  op : SOp
  cal : Option (SX × List SX)
  grd : Option (Nat × Bool)
  bef : Nat

inductive SCode where
  | skip
  | reg (draw : Bool) (ops : List SOper) (live : List Nat)
  | seq (a b : SCode)
  | cond (c : SX) (a b : SCode)
  | block (id : Nat) (a : SCode)
  | loop (a : SCode)
  | exit (id : Nat)
  | ret
def SCode.erase : SCode → SCode
  | .reg d ops _ => .reg d ops []
  | .seq a b => .seq a.erase b.erase
  | .cond c a b => .cond c a.erase b.erase
  | .block id a => .block id a.erase
  | .loop a => .loop a.erase
  | c => c
def cgrd (ops : Array Oper) : Option (Nat × Bool) → Option (Option (Nat × Bool))
  | none => some none
  | some (j, want) => match (ops[j]?).bind (·.dst) with
    | some t => some (some (t, want))
    | none => none
def ccal (N : Nat) (f : Operand) (args : List Operand) : Option (SX × List SX) := match cx N f, args.mapM (cx N) with
  | some f, some l => some (f, l)
  | _, _ => none
def coper (P : Program) (N : Nat) (ops : Array Oper) (o : Oper) (b : Nat) : Option SOper :=
  if o.dst.all (· < N) then (match cgrd ops o.guard with
    | none => none
    | some g => match o.op with
      | .call { callee := .value f, args, argTypes := _ } => (ccal N f args.toList).map fun c => ⟨o.dst, .mv (.c .any), some c, g, b⟩
      | op => (cop P N o.type op).map fun op => ⟨o.dst, op, none, g, b⟩) else none
def copers (P : Program) (N : Nat) (ops : Array Oper) : List Oper → List Nat → Option (List SOper)
  | [], _ => some []
  | o :: os, bs => do some ((← coper P N ops o (bs.headD 0)) :: (← copers P N ops os bs.tail))
/-- What comes first stands first. -/
def edgesL : Nat → List Oper → Bool
  | _, [] => true
  | i, o :: os => (o.after.toList.all fun e => !Region.binds .any e || decide (e.on < i)) && edgesL (i + 1) os
def edgesOk (ops : Array Oper) : Bool := edgesL 0 ops.toList
def comp (P : Program) (N : Nat) : Code → Option SCode
  | .skip => some .skip
  | .region _ ops draw => do
    if draw = false ∨ edgesOk ops = true then
      let l ← copers P N ops ops.toList (if draw then (Region.before ops).toList else [])
      some (.reg draw l [])
    else none
  | .seq a b => do some (.seq (← comp P N a) (← comp P N b))
  | .cond c a b => do some (.cond (← cx N c) (← comp P N a) (← comp P N b))
  | .block id a => do some (.block id (← comp P N a))
  | .loop a => do some (.loop (← comp P N a))
  | .exit id => some (.exit id)
  | .ret => some .ret
  | .label _ => some .skip
  | _ => none
end Go.Proofs.Ytfakdapglbgokaa
