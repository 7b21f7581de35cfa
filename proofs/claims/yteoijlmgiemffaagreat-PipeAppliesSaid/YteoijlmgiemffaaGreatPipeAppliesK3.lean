/-
  Texts joined: XIntA XIntB XIntC XPapC. No condition.
-/
import Derived.KernelRfl
import Derived.Test.YteoijlmgiemffaaGreatPipeAppliesK2
namespace Go.Proofs.YteoijlmgiemffaaGreat
set_option linter.all false
open Go.RowKit
noncomputable def fNat {α : Type} (n : Nat) (k : Nat → α) : α := Nat.rec (k 0) (fun m _ => k (.succ m)) n
theorem qabj {α : Type} (n : Nat) (k : Nat → α) : fNat n k = k n := by cases n <;> rfl
noncomputable def fInt {α : Type} (n : Int) (k : Int → α) : α := Int.rec (fun m => fNat m fun m => k (.ofNat m)) (fun m => fNat m fun m => k (.negSucc m)) n
theorem qad3 {α : Type} (n : Int) (k : Int → α) : fInt n k = k n := by cases n <;> simp [fInt, qabj]
noncomputable def qagz {α β : Type} (f : β → (β → α) → α) (l : List β) : (List β → α) → α := List.rec (fun k => k []) (fun x _ ih k => f x fun x' => ih fun xs' => k (x' :: xs')) l
theorem qaa4 {α β : Type} {f : β → (β → α) → α} (hf : ∀ x k, f x k = k x) : ∀ (l : List β) (k : List β → α), qagz f l k = k l
 | [], _ => rfl
 | x :: xs, k => by
  show f x (fun x' => qagz f xs fun xs' => k (x' :: xs')) = _
  rw [hf, qaa4 hf xs]
noncomputable def fB {α : Type} (x : SV) : (SV → α) → α := SV.rec (motive_1 := fun _ => (SV → α) → α) (motive_2 := fun _ => PUnit) (motive_3 := fun _ => PUnit)
 (fun k => k (.any))
 (fun b k => Bool.rec (k (.bool false)) (k (.bool true)) b)
 (fun kd n k => fInt n fun n => k (.int kd n))
 (fun s k => k (.str s))
 (fun k => k (.nil))
 (fun k => k (.nilsl))
 (fun k => k (.nilfn))
 (fun k => k (.niliface))
 (fun t x _ k => k (.ifc t x))
 (fun k => k (.mt))
 (fun z es _ k => k (.view z es))
 (fun cs _ k => k (.cp cs))
 (fun i o k => fNat i fun i => fNat o fun o => k (.ptr i o))
 (fun i z a b k => fNat i fun i => fNat a fun a => fNat b fun b => k (.eptr i z a b))
 (fun i n k => fNat i fun i => fNat n fun n => k (.own i n))
 (fun i z o n k => fNat i fun i => fNat o fun o => fNat n fun n => k (.owno i z o n))
 (fun cs _ k => k (.agg cs))
 (fun cs _ k => k (.tup cs))
 (fun f a b _ _ k => k (.fn f a b))
 (fun k => k (.bot))
 ⟨⟩ (fun _ _ _ _ => ⟨⟩) ⟨⟩ (fun _ _ _ _ => ⟨⟩) x
theorem fB_eq {α : Type} (x : SV) (k : SV → α) : fB x k = k x := by
 cases x <;> simp [fB, qad3, qabj]
 rename_i b; cases b <;> rfl
noncomputable def f0 {α : Type} (x : SV) : (SV → α) → α := SV.rec (motive_1 := fun _ => (SV → α) → α) (motive_2 := fun _ => PUnit) (motive_3 := fun _ => PUnit)
 (fun k => k (.any))
 (fun b k => Bool.rec (k (.bool false)) (k (.bool true)) b)
 (fun kd n k => fInt n fun n => k (.int kd n))
 (fun s k => k (.str s))
 (fun k => k (.nil))
 (fun k => k (.nilsl))
 (fun k => k (.nilfn))
 (fun k => k (.niliface))
 (fun t x _ k => fB x fun x => k (.ifc t x))
 (fun k => k (.mt))
 (fun z es _ k => k (.view z es))
 (fun cs _ k => k (.cp cs))
 (fun i o k => fNat i fun i => fNat o fun o => k (.ptr i o))
 (fun i z a b k => fNat i fun i => fNat a fun a => fNat b fun b => k (.eptr i z a b))
 (fun i n k => fNat i fun i => fNat n fun n => k (.own i n))
 (fun i z o n k => fNat i fun i => fNat o fun o => fNat n fun n => k (.owno i z o n))
 (fun cs _ k => k (.agg cs))
 (fun cs _ k => k (.tup cs))
 (fun f a b _ _ k => k (.fn f a b))
 (fun k => k (.bot))
 ⟨⟩ (fun _ _ _ _ => ⟨⟩) ⟨⟩ (fun _ _ _ _ => ⟨⟩) x
theorem f0_eq {α : Type} (x : SV) (k : SV → α) : f0 x k = k x := by
 cases x <;> simp [f0, qad3, qabj, fB_eq]
 rename_i b; cases b <;> rfl
noncomputable def f1 {α : Type} (x : SV) : (SV → α) → α := SV.rec (motive_1 := fun _ => (SV → α) → α) (motive_2 := fun _ => PUnit) (motive_3 := fun _ => PUnit)
 (fun k => k (.any))
 (fun b k => Bool.rec (k (.bool false)) (k (.bool true)) b)
 (fun kd n k => fInt n fun n => k (.int kd n))
 (fun s k => k (.str s))
 (fun k => k (.nil))
 (fun k => k (.nilsl))
 (fun k => k (.nilfn))
 (fun k => k (.niliface))
 (fun t x _ k => fB x fun x => k (.ifc t x))
 (fun k => k (.mt))
 (fun z es _ k => k (.view z es))
 (fun cs _ k => k (.cp cs))
 (fun i o k => fNat i fun i => fNat o fun o => k (.ptr i o))
 (fun i z a b k => fNat i fun i => fNat a fun a => fNat b fun b => k (.eptr i z a b))
 (fun i n k => fNat i fun i => fNat n fun n => k (.own i n))
 (fun i z o n k => fNat i fun i => fNat o fun o => fNat n fun n => k (.owno i z o n))
 (fun cs _ k => qagz f0 cs fun cs => k (.agg cs))
 (fun cs _ k => k (.tup cs))
 (fun f a b _ _ k => k (.fn f a b))
 (fun k => k (.bot))
 ⟨⟩ (fun _ _ _ _ => ⟨⟩) ⟨⟩ (fun _ _ _ _ => ⟨⟩) x
theorem f1_eq {α : Type} (x : SV) (k : SV → α) : f1 x k = k x := by
 cases x <;> simp [f1, qad3, qabj, fB_eq, qaa4 f0_eq]
 rename_i b; cases b <;> rfl
noncomputable def f2 {α : Type} (x : SV) : (SV → α) → α := SV.rec (motive_1 := fun _ => (SV → α) → α) (motive_2 := fun _ => PUnit) (motive_3 := fun _ => PUnit)
 (fun k => k (.any))
 (fun b k => Bool.rec (k (.bool false)) (k (.bool true)) b)
 (fun kd n k => fInt n fun n => k (.int kd n))
 (fun s k => k (.str s))
 (fun k => k (.nil))
 (fun k => k (.nilsl))
 (fun k => k (.nilfn))
 (fun k => k (.niliface))
 (fun t x _ k => fB x fun x => k (.ifc t x))
 (fun k => k (.mt))
 (fun z es _ k => k (.view z es))
 (fun cs _ k => k (.cp cs))
 (fun i o k => fNat i fun i => fNat o fun o => k (.ptr i o))
 (fun i z a b k => fNat i fun i => fNat a fun a => fNat b fun b => k (.eptr i z a b))
 (fun i n k => fNat i fun i => fNat n fun n => k (.own i n))
 (fun i z o n k => fNat i fun i => fNat o fun o => fNat n fun n => k (.owno i z o n))
 (fun cs _ k => qagz f1 cs fun cs => k (.agg cs))
 (fun cs _ k => qagz f1 cs fun cs => k (.tup cs))
 (fun f a b _ _ k => k (.fn f a b))
 (fun k => k (.bot))
 ⟨⟩ (fun _ _ _ _ => ⟨⟩) ⟨⟩ (fun _ _ _ _ => ⟨⟩) x
theorem f2_eq {α : Type} (x : SV) (k : SV → α) : f2 x k = k x := by
 cases x <;> simp [f2, qad3, qabj, fB_eq, qaa4 f1_eq]
 rename_i b; cases b <;> rfl
noncomputable def fO {α : Type} (o : SObj) (k : SObj → α) : α := SObj.rec (fun t cs => qagz f1 cs fun cs => k (.cells t cs)) (fun e z es => qagz (qagz f1) es fun es => k (.row e z es)) (fun I => k (.abs I)) o
theorem fO_eq {α : Type} (o : SObj) (k : SObj → α) : fO o k = k o := by cases o <;> simp [fO, qaa4 f1_eq, qaa4 (fun x k => qaa4 f1_eq x k)]
end Go.Proofs.YteoijlmgiemffaaGreat
namespace Go.Proofs.YteoijlmgiemffaaGreat
set_option linter.all false
open Go.RowKit
noncomputable def getsR (l : Sl) (t : Nat) : SV := List.rec .any (fun p _ ih => Prod.rec (fun i v => Bool.rec ih v (Nat.beq i t)) p) l
theorem qac5 (t : Nat) : ∀ l : Sl, getsR l t = gets l t
 | [] => rfl
 | (i, v) :: l => by
  show Bool.rec (getsR l t) v (Nat.beq i t) = if i = t then v else gets l t
  rw [qac5 t l]
  cases h : Nat.beq i t with
  | true => rw [if_pos (Nat.eq_of_beq_eq_true h)]
  | false => rw [if_neg (Nat.ne_of_beq_eq_false h)]
noncomputable def qacr (l : Hp) (t : Nat) : Option SObj := List.rec none (fun p _ ih => Prod.rec (fun i v => Bool.rec ih (some v) (Nat.beq i t)) p) l
theorem qabe (t : Nat) : ∀ l : Hp, qacr l t = geth l t
 | [] => rfl
 | (i, v) :: l => by
  show Bool.rec (qacr l t) (some v) (Nat.beq i t) = if i = t then some v else geth l t
  rw [qabe t l]
  cases h : Nat.beq i t with
  | true => rw [if_pos (Nat.eq_of_beq_eq_true h)]
  | false => rw [if_neg (Nat.ne_of_beq_eq_false h)]
noncomputable def puthR (l : Hp) (t : Nat) (x : SObj) : Hp := List.rec [(t, x)] (fun p l ih => Prod.rec (fun i v => Bool.rec ((i, v) :: ih) ((t, x) :: l) (Nat.beq i t)) p) l
theorem qafc (t : Nat) (x : SObj) : ∀ l : Hp, puthR l t x = puth l t x
 | [] => rfl
 | (i, v) :: l => by
  show Bool.rec ((i, v) :: puthR l t x) ((t, x) :: l) (Nat.beq i t) = if i = t then (t, x) :: l else (i, v) :: puth l t x
  rw [qafc t x l]
  cases h : Nat.beq i t with
  | true => rw [if_pos (Nat.eq_of_beq_eq_true h)]
  | false => rw [if_neg (Nat.ne_of_beq_eq_false h)]
noncomputable def delhR (l : Hp) (t : Nat) : Hp := List.rec [] (fun p _ ih => Prod.rec (fun i v => Bool.rec ((i, v) :: ih) ih (Nat.beq i t)) p) l
theorem qafu (t : Nat) : ∀ l : Hp, delhR l t = delh l t
 | [] => rfl
 | (i, v) :: l => by
  show Bool.rec ((i, v) :: delhR l t) (delhR l t) (Nat.beq i t) = if i = t then delh l t else (i, v) :: delh l t
  rw [qafu t l]
  cases h : Nat.beq i t with
  | true => rw [if_pos (Nat.eq_of_beq_eq_true h)]
  | false => rw [if_neg (Nat.ne_of_beq_eq_false h)]
noncomputable def SX.evR (l : Sl) (x : SX) : SV := SX.rec (fun n => getsR l n) (fun v => v) x
theorem qad9 (l : Sl) (x : SX) : x.evR l = x.ev l := by cases x <;> simp [SX.evR, SX.ev, qac5]
noncomputable def memN (n : Nat) (l : List Nat) : Bool := List.rec false (fun m _ ih => Bool.rec ih true (Nat.beq n m)) l
noncomputable def addNs (ns : List Nat) : List Nat → List Nat := List.rec (fun l => l) (fun n _ ih l => Bool.rec (ih (n :: l)) (ih l) (memN n l)) ns
noncomputable def addMs (wr : List Nat) (ns : List Nat) : List Nat → List Nat := List.rec (fun l => l) (fun n _ ih l => Bool.rec (Bool.rec (ih (n :: l)) (ih l) (memN n l)) (ih l) (memN n wr)) ns
noncomputable def crossR (ops : List SOper) : List Nat → List Nat → List Nat := List.rec (fun _ acc => acc) (fun o _ ih wr acc => ih (Option.rec wr (fun d => d :: wr) o.dst) (addMs wr o.reads acc)) ops
noncomputable def qac8 : SCode → List Nat → List Nat
 | .reg _ ops _ => fun acc => crossR ops [] acc
 | .seq a b => fun acc => qac8 b (qac8 a acc)
 | .cond c a b => fun acc => qac8 b (qac8 a (addNs (qaa6 [c]) acc))
 | .block _ a => fun acc => qac8 a acc
 | .loop a => fun acc => qac8 a acc
 | _ => fun acc => acc
def resTs : List ResultVar → List Nat
 | [] => []
 | .tmp t :: r => t :: resTs r
 | .cell a _ :: r => a :: resTs r
structure FD where
 N : Nat
 c : SCode
 cross : List Nat
 res : List ResultVar
noncomputable def fdata (P : Program) (g : FuncId) : Option FD := match P.funcs[g]? with
 | some fn => match fn.body with
  | some b => match fn.name == "runtime.NumGoroutine" with
   | true => none
   | false => match comp P fn.ntmps b with
    | some c => some ⟨fn.ntmps, c, qac8 c (addNs (resTs fn.results.toList) []), fn.results.toList⟩
    | none => none
  | none => none
 | none => none
def nmB : SV → List Nat
 | .ptr id _ | .eptr id _ _ _ | .own id _ | .owno id _ _ _ => [id]
 | _ => []
def nmA : SV → List Nat
 | .agg cs => cs.flatMap nmB
 | x => nmB x
def nm0 : SV → List Nat
 | .ifc _ x => nmA x
 | x => nmB x
def nm1 : SV → List Nat
 | .agg cs => cs.flatMap nm0
 | .fn _ a b => a.flatMap nm0 ++ b.flatMap nm0
 | x => nm0 x
def nm2 : SV → List Nat
 | .tup cs => cs.flatMap nm1
 | .agg cs => cs.flatMap nm1
 | x => nm1 x
def nmO : SObj → List Nat
 | .cells _ cs => cs.flatMap nm2
 | .row _ _ es => es.flatMap fun e => e.flatMap nm2
 | .abs _ => []
noncomputable def qaiv (hp : Hp) (f : Nat) : List Nat → Hp → Hp := Nat.rec (fun _ acc => acc) (fun _ ih l acc => List.rec acc (fun i l _ => Option.rec (Option.rec (ih l acc) (fun o => ih (nmO o ++ l) ((i, o) :: acc)) (qacr hp i)) (fun _ => ih l acc) (qacr acc i)) l) f
def ltB (m : Nat) : SV → Bool
 | .ptr id _ | .eptr id _ _ _ | .own id _ | .owno id _ _ _ => Nat.blt id m
 | .agg _ | .tup _ | .fn _ _ _ | .ifc _ _ => false
 | _ => true
def ltA (m : Nat) : SV → Bool
 | .agg cs => cs.all (ltB m)
 | x => ltB m x
def lt0 (m : Nat) : SV → Bool
 | .ifc _ x => ltA m x
 | .fn _ [] [] => true
 | x => ltB m x
def lt1 (m : Nat) : SV → Bool
 | .agg cs => cs.all (lt0 m)
 | .fn _ a b => a.all (lt0 m) && b.all (lt0 m)
 | x => lt0 m x
def lt2 (m : Nat) : SV → Bool
 | .tup cs => cs.all (lt1 m)
 | .agg cs => cs.all (lt1 m)
 | x => lt1 m x
def ltO (m : Nat) : SObj → Bool
 | .cells _ cs => cs.all (lt2 m)
 | .row _ _ es => es.all fun e => e.all (lt2 m)
 | .abs _ => true
def ltHp (m : Nat) (h : Hp) : Bool := h.all fun p => Nat.blt p.1 m && ltO m p.2
noncomputable def uniqB : Hp → Bool
 | [] => true
 | (i, _) :: r => (match qacr r i with | none => true | some _ => false) && uniqB r
inductive Tsk where
 | code (cr : List Nat) (c : SCode) (s : SSt)
 | call (g : FuncId) (args : List SV) (h : Hp) (nx : Nat)
inductive Ans where
 | st (e : SExit) (s : SSt)
 | val (r : SV) (h : Hp) (nx : Nat)
def SOp.runF : SOp → (SX → SV) → (Nat → Option SObj) → Nat → Option (SV × Upd × Nat)
 | .mv x => fun ev g nx => some (ev x, [], nx)
 | .pick c a b => fun ev g nx => match ev c with
  | .bool c => match ev a, ev b with
   | .bool a, .bool b => some (.bool (bif c then a else b), [], nx)
   | x, y => some (match c with | true => x | false => y, [], nx)
  | _ => none
 | .alloc t z => fun ev g nx => some (.ptr nx 0, [(nx, some (.cells t z))], nx + 1)
 | .box t x => fun ev g nx => match (ev x).cells? with
  | some cs => some (.ptr nx 0, [(nx, some (.cells t cs))], nx + 1)
  | none => none
 | .build z parts => fun ev g nx => match qaia z (parts.map fun p => (p.1, p.2.1, ev p.2.2)) with
  | some cs => some (.agg cs, [], nx)
  | none => none
 | .mkrow e size n z parts => fun ev g nx => match qaib size (List.replicate n z) (parts.map fun p => (p.1, ev p.2)) with
  | some es => some (.own nx n, [(nx, some (.row e size es))], nx + 1)
  | none => none
 | .load x => fun ev g nx => match ev x with
  | .cp (c :: _) => some (c, [], nx)
  | .ptr id off => match g id with
   | some (.cells _ cs) => (cs[off]?).map fun c => (c, [], nx)
   | _ => none
  | .eptr id size i j => match g id with
   | some (.row _ size' es) => if size = size' ∧ j < size then ((es[i]?).bind (·[j]?)).map fun c => (c, [], nx) else none
   | _ => none
  | _ => none
 | .loads n x => fun ev g nx => match ev x with
  | .cp cs => if n ≤ cs.length then some (.agg (cs.take n), [], nx) else none
  | .ptr id off => match g id with
   | some (.cells _ cs) => if off + n ≤ cs.length then some (.agg ((cs.drop off).take n), [], nx) else none
   | _ => none
  | .eptr id size i j => match g id with
   | some (.row _ size' es) => if size = size' ∧ j + n ≤ size then (es[i]?).map fun e => (.agg ((e.drop j).take n), [], nx) else none
   | _ => none
  | _ => none
 | .store n x v => fun ev g nx => match (ev v).cells? with
  | none => none
  | some vs => if vs.length = n then (match ev x with
   | .ptr id off => match g id with
    | some (.cells t cs) => rg (off + n ≤ cs.length) (some (.any, [(id, some (.cells t (setL cs off vs)))], nx))
    | _ => none
   | .eptr id size i j => match g id with
    | some (.row e size' es) => if size = size' ∧ j + n ≤ size then (es[i]?).map fun x => (.any, [(id, some (.row e size (es.set i (setL x j vs))))], nx) else none
    | _ => none
   | _ => none) else none
 | .nilc x => fun ev g nx => match ev x with
  | .ptr id off => some (.ptr id off, [], nx)
  | .cp cs => some (.cp cs, [], nx)
  | .eptr id size i j => some (.eptr id size i j, [], nx)
  | .fn (.func f) a b => some (.fn (.func f) a b, [], nx)
  | _ => none
 | .bin op x y => fun ev g nx => match ev x, ev y with
  | .int k a, .int k' b => (sbin op k a k' b).map fun v => (v, [], nx)
  | .str a, .str b => match op with
   | .add => rg (a.size + b.size ≤ maxLen) (some (.str (a ++ b), [], nx))
   | .eql => some (.bool (a.toList == b.toList), [], nx)
   | .neq => some (.bool (!(a.toList == b.toList)), [], nx)
   | _ => none
  | _, _ => none
 | .eq k neg x y => fun ev g nx => (eq0 k (ev x) (ev y)).map fun b => (.bool (neg != b), [], nx)
 | .eqs ks neg x y => fun ev g nx => match ev x, ev y with
  | .agg xs, .agg ys => (eqL ks xs ys).map fun b => (.bool (neg != b), [], nx)
  | _, _ => none
 | .un op x => fun ev g nx => match op, ev x with
  | .neg, .int k n => some (.int k (k.wrap (0 - n)), [], nx)
  | .xor, .int k n => some (.int k (bits .xor k (if k.signed then -1 else k.max) n), [], nx)
  | .not, .bool b => some (.bool (!b), [], nx)
  | _, _ => none
 | .conv k x => fun ev g nx => match ev x with
  | .int _ n => some (.int k (k.wrap n), [], nx)
  | _ => none
 | .mkslice e size bytes z l c => fun ev g nx => match ev l, ev c with
  | .int .i64 l, .int .i64 c => rg (0 ≤ l ∧ l ≤ c ∧ c ≤ maxLen ∧ c * bytes ≤ 140737488355328) (some (.own nx l.toNat, [(nx, some (.row e size (List.replicate l.toNat z)))], nx + 1))
  | _, _ => none
 | .slice size x lo hi => fun ev g nx =>
  match lo.map ev, hi.map ev with
  | none, none => (match ev x with
   | .view size' es => if size = size' then some (.view size es, [], nx) else none
   | .own id n => some (.own id n, [], nx)
   | _ => none)
  | some (.int _ l), none => (match ev x with
   | .view size' es => if size = size' then rg (0 ≤ l ∧ l ≤ es.length) (some (.view size (es.drop l.toNat), [], nx)) else none
   | .own id n => rg (0 ≤ l ∧ l < n) (some (.owno id size l.toNat (n - l.toNat), [], nx))
   | _ => none)
  | none, some (.int _ h) => (match ev x with
   | .view size' es => if size = size' then rg (0 ≤ h ∧ h ≤ es.length) (some (.view size (es.take h.toNat), [], nx)) else none
   | .own id n => rg (0 ≤ h ∧ h ≤ n) (some (.own id h.toNat, [], nx))
   | _ => none)
  | some (.int _ l), some (.int _ h) => (match ev x with
   | .view size' es => if size = size' then rg (0 ≤ l ∧ l ≤ h ∧ h ≤ es.length) (some (.view size ((es.take h.toNat).drop l.toNat), [], nx)) else none
   | .own id n => rg (0 ≤ l ∧ l < h ∧ h ≤ n) (some (.owno id size l.toNat (h.toNat - l.toNat), [], nx))
   | _ => none)
  | _, _ => none
 | .slstr x lo hi => fun ev g nx =>
  match ev x with
  | .str s => (match lo.map ev, hi.map ev with
   | some (.int _ l), none => rg (0 ≤ l ∧ l ≤ s.size) (some (.str (s.extract l.toNat s.size), [], nx))
   | none, some (.int _ h) => rg (0 ≤ h ∧ h ≤ s.size) (some (.str (s.extract 0 h.toNat), [], nx))
   | some (.int _ l), some (.int _ h) => rg (0 ≤ l ∧ l ≤ h ∧ h ≤ s.size) (some (.str (s.extract l.toNat h.toNat), [], nx))
   | _, _ => none)
  | _ => none
 | .faddr off x => fun ev g nx => match ev x with
  | .ptr id o => some (.ptr id (o + off), [], nx)
  | .cp cs => some (.cp (cs.drop off), [], nx)
  | .eptr id size i j => some (.eptr id size i (j + off), [], nx)
  | _ => none
 | .iaddr size x i => fun ev g nx => match ev i with
  | .int _ i => match ev x with
   | .view size' es => if size = size' then rg (0 ≤ i ∧ i < es.length) (some (.cp ((es[i.toNat]?).getD []), [], nx)) else none
   | .own id n => rg (0 ≤ i ∧ i < n) (some (.eptr id size i.toNat 0, [], nx))
   | .owno id size' off n => if size = size' then rg (0 ≤ i ∧ i < n) (some (.eptr id size (off + i.toNat) 0, [], nx)) else none
   | _ => none
  | _ => none
 | .iarr n size x i => fun ev g nx => match ev i with
  | .int _ i => match ev x with
   | .ptr id off => rg (0 ≤ i ∧ i < n) (some (.ptr id (off + i.toNat * size), [], nx))
   | .cp cs => rg (0 ≤ i ∧ i < n) (some (.cp (cs.drop (i.toNat * size)), [], nx))
   | .eptr id size' i' j => rg (0 ≤ i ∧ i < n) (some (.eptr id size' i' (j + i.toNat * size), [], nx))
   | _ => none
  | _ => none
 | .field off n x => fun ev g nx => match ev x with
  | .agg cs => match n with
   | none => (cs[off]?).map fun c => (c, [], nx)
   | some n => if off + n ≤ cs.length then some (.agg ((cs.drop off).take n), [], nx) else none
  | _ => none
 | .idx m size n x i => fun ev g nx => match ev i with
  | .int _ i => match ev x with
   | .agg cs => rg (0 ≤ i ∧ i < m) (match n with
    | none => (cs[i.toNat * size]?).map fun c => (c, [], nx)
    | some n => rg (i.toNat * size + n ≤ cs.length) (some (.agg ((cs.drop (i.toNat * size)).take n), [], nx)))
   | _ => none
  | _ => none
 | .idxs x i => fun ev g nx => match ev i with
  | .int _ i => match ev x with
   | .str s => rg (0 ≤ i) (match s[i.toNat]? with
    | some b => some (.int .u8 b.toNat, [], nx)
    | none => none)
   | _ => none
  | _ => none
 | .extr x i => fun ev g nx => match ev x with
  | .tup vs => (vs[i]?).map fun c => (c, [], nx)
  | _ => none
 | .len st x => fun ev g nx => match ev x with
  | .view _ es => if st = false then some (.int .i64 es.length, [], nx) else none
  | .own _ n => if st = false then some (.int .i64 n, [], nx) else none
  | .owno _ _ _ n => if st = false then some (.int .i64 n, [], nx) else none
  | .nilsl => if st = false then some (.int .i64 0, [], nx) else none
  | .str s => if st = true then some (.int .i64 s.size, [], nx) else none
  | _ => none
 | .app e size bytes s x => fun ev g nx => match qae4 size g (ev x) with
  | none => none
  | some ys => match ev s with
   | .nilsl => rg (ys.length ≤ maxLen ∧ ys.length * bytes ≤ 140737488355328) (some (.own nx ys.length, [(nx, some (.row e size ys))], nx + 1))
   | .own id n => match g id with
    | some (.row e' size' es) => if e = e' ∧ size = size' ∧ n = es.length then rg (n + ys.length ≤ maxLen ∧ (n + ys.length) * bytes ≤ 140737488355328) (some (.own nx (n + ys.length), [(id, none), (nx, some (.row e size (es ++ ys)))], nx + 1)) else if e = e' ∧ size = size' ∧ n < es.length then rg (n + ys.length ≤ maxLen ∧ (n + ys.length) * bytes ≤ 140737488355328) (some (.own nx (n + ys.length), [(id, none), (nx, some (.row e size (es.take n ++ ys)))], nx + 1)) else none
    | _ => none
   | _ => none
 | .mm max x y => fun ev g nx => match ev x, ev y with
  | .int k a, .int k' b => if k = k' then some (.int k (if max then (if b > a then b else a) else (if b < a then b else a)), [], nx) else none
  | _, _ => none
 | .mkfn f first cap => fun ev g nx => some (.fn f (first.map ev) (cap.map ev), [], nx)
 | .b2s x => fun ev g nx => match qae4 1 g (ev x) with
  | some ys => (qacx ys).map fun xs => (.str (strOfNums xs), [], nx)
  | none => none
 | .mkifc t x => fun ev g nx => some (.ifc t (ev x), [], nx)
 | .asrt t z x => fun ev g nx => match ev x with
  | .niliface => some (.tup [z, .bool false], [], nx)
  | .ifc t' v => some (if t' = t then .tup [v, .bool true] else .tup [z, .bool false], [], nx)
  | _ => none
theorem runF_eq (op : SOp) (ev : SX → SV) (g : Nat → Option SObj) (nx : Nat) : op.runF ev g nx = op.run ev g nx := by cases op <;> rfl
noncomputable def qah4 (b : SOper × Tch) (l : List (SOper × Tch)) : Nat → Nat → Bool := List.rec (fun _ _ => true) (fun a _ ih n i => Nat.rec true (fun n _ => Bool.rec (Bool.rec (ih n (.succ i)) false (qag1 a b)) (ih n (.succ i)) (Nat.testBit b.1.bef i)) n) l
noncomputable def qagt (all : List (SOper × Tch)) (l : List (SOper × Tch)) : Nat → Bool := List.rec (fun _ => true) (fun b _ ih j => Bool.rec false (ih (.succ j)) (qah4 b all j 0)) l
def eqI (a b : Int) : Bool := match a, b with
 | .ofNat m, .ofNat n => Nat.beq m n
 | .negSucc m, .negSucc n => Nat.beq m n
 | _, _ => false
def eqV : Nat → SV → SV → Bool
 | 0, _, _ => false
 | n + 1, x, y => match x, y with
  | .any, .any => true
  | .bool a, .bool b => a == b
  | .int k a, .int j b => decide (k = j) && eqI a b
  | .nil, .nil => true
  | .nilsl, .nilsl => true
  | .nilfn, .nilfn => true
  | .niliface, .niliface => true
  | .mt, .mt => true
  | .ptr a b, .ptr c d => Nat.beq a c && Nat.beq b d
  | .own a b, .own c d => Nat.beq a c && Nat.beq b d
  | .owno a b c d, .owno a' b' c' d' => Nat.beq a a' && Nat.beq b b' && Nat.beq c c' && Nat.beq d d'
  | .agg xs, .agg ys => eqVs (eqV n) xs ys
  | .cp xs, .cp ys => eqVs (eqV n) xs ys
  | .view z xs, .view w ys => Nat.beq z w && eqVss (eqV n) xs ys
  | _, _ => false
where
 eqVs (f : SV → SV → Bool) : List SV → List SV → Bool
  | [], [] => true
  | x :: xs, y :: ys => f x y && eqVs f xs ys
  | _, _ => false
 eqVss (f : SV → SV → Bool) : List (List SV) → List (List SV) → Bool
  | [], [] => true
  | x :: xs, y :: ys => eqVs f x y && eqVss f xs ys
  | _, _ => false
def eqO : SObj → SObj → Bool
 | .cells t cs, .cells u ds => Nat.beq t u && eqV.eqVs (eqV 9) cs ds
 | .row e z es, .row e' z' fs => Nat.beq e e' && Nat.beq z z' && eqV.eqVss (eqV 9) es fs
 | _, _ => false
noncomputable def qajr (h2 h1 l : Hp) : List Nat := List.rec [] (fun p _ ih => Option.rec ih (fun o => Option.rec ih (fun o' => Bool.rec ih (p.1 :: ih) (eqO o o')) (qacr h2 p.1)) (qacr h1 p.1)) l
noncomputable def same (h2 h1 : Hp) : List Nat := qajr h2 h1 h1
noncomputable def fSp {α : Type} (h : Hp) : (Hp → α) → α := List.rec (fun k => k []) (fun p _ ih k => ih fun h => k (p :: h)) h
noncomputable def fUpd {α : Type} (u : Upd) : Hp → (Hp → α) → α := List.rec (fun h k => k h) (fun p _ ih h k => Prod.rec (fun i o => Option.rec (fSp (delhR h i) fun h => ih h k) (fun o => fNat i fun i => fO o fun o => fSp (puthR h i o) fun h => ih h k) o) p) u
noncomputable def runCl (v : SV) : (Tsk → Option Ans) → List SV → Option Nat → SSt → (SSt → Tch → Option Ans) → Option Ans := match v with
 | .fn (.func g) first cap => fun ih args dst s K => qagz f2 (first ++ args ++ cap) fun as_ => fSp (qaiv s.hp 100000 (as_.flatMap nm2) []) fun h1 =>
   match ih (.call g as_ h1 s.nx) with
   | some (.val r h2 nx) => fSp (qaax s.hp h1 h2) fun hp => K ⟨putd s.sl dst r, hp, nx⟩ ⟨same h2 h1, (idsH h1 ++ idsH h2).filter fun i => !(same h2 h1).contains i⟩
   | _ => none
 | _ => fun _ _ _ _ _ => none
noncomputable def runOp (o : SOper) (s : SSt) (K : SSt → Tch → Option Ans) : Option Ans := match o.op.runF (·.evR s.sl) (qacr s.hp) s.nx with
  | some (v, u, _) => f2 v fun v => fUpd u s.hp fun hp => fNat (.succ s.nx) fun nx => K ⟨putd s.sl o.dst v, hp, nx⟩ ⟨o.op.touch (·.ev s.sl), u.map (·.1)⟩
  | none => none
noncomputable def run1 (ih : Tsk → Option Ans) (o : SOper) (s : SSt) (K : SSt → Tch → Option Ans) : Option Ans := match o.cal with
 | some (f, args) => runCl (f.evR s.sl) ih (args.map (·.evR s.sl)) o.dst s K
 | none => runOp o s K
noncomputable def runG (v : SV) : (Tsk → Option Ans) → Bool → SOper → SSt → (SSt → Tch → Option Ans) → Option Ans := match v with
 | .bool b => fun ih want o s K => match b == want with
       | true => run1 ih o s K
       | false => K (s.skip o) ⟨[], []⟩
 | .tup [] => fun _ _ o s K => K (s.skip o) ⟨[], []⟩
 | _ => fun _ _ _ _ _ => none
noncomputable def runO (ih : Tsk → Option Ans) (o : SOper) (s : SSt) (K : SSt → Tch → Option Ans) : Option Ans := match o.grd with
 | none => run1 ih o s K
 | some (t, want) => runG (getsR s.sl t) ih want o s K
noncomputable def qaiq (ih : Tsk → Option Ans) (l : List SOper) : SSt → List Tch → (SSt → List Tch → Option Ans) → Option Ans :=
 List.rec (fun s tr K => K s tr) (fun o _ rest s tr K => runO ih o s fun s' x => rest s' (x :: tr) K) l
noncomputable def getK {α : Type} (l : Sl) (t : Nat) (k : SV → α) : α := List.rec (k .any) (fun p _ ih => Prod.rec (fun i v => Bool.rec ih (k v) (Nat.beq i t)) p) l
theorem qah8 {α : Type} (t : Nat) (k : SV → α) : ∀ l : Sl, getK l t k = k (gets l t)
 | [] => rfl
 | (i, v) :: l => by
  show Bool.rec (getK l t k) (k v) (Nat.beq i t) = k (if i = t then v else gets l t)
  rw [qah8 t k l]
  cases h : Nat.beq i t with
  | true => rw [if_pos (Nat.eq_of_beq_eq_true h)]
  | false => rw [if_neg (Nat.ne_of_beq_eq_false h)]
noncomputable def fKeep {α : Type} (cr : List Nat) (s : SSt) (k : SSt → α) : α := List.rec (fun k => k []) (fun t _ ih k => getK s.sl t fun v => ih fun sl => k ((t, v) :: sl)) cr fun sl => k ⟨sl, s.hp, s.nx⟩
noncomputable def qagh : SCode → (Tsk → Option Ans) → List Nat → SSt → Option Ans
 | .skip => fun _ _ s => some (.st .normal s)
 | .exit i => fun _ _ s => some (.st (.exit i) s)
 | .ret => fun _ _ s => some (.st .ret s)
 | .reg d ops _ => fun ih cr s => qaiq ih ops s [] fun s' tr => match !d || qagt (ops.zip tr.reverse) (ops.zip tr.reverse) 0 with
   | true => fKeep cr s' fun s' => some (.st .normal s')
   | false => none
 | .seq a b => fun ih cr s => match ih (.code cr a s) with
   | some (.st .normal s') => ih (.code cr b s')
   | r => r
 | .cond x a b => fun ih cr s => match x.evR s.sl with
   | .bool true => ih (.code cr a s)
   | .bool false => ih (.code cr b s)
   | _ => none
 | .block id a => fun ih cr s => match ih (.code cr a s) with
   | some (.st (.exit i) s') => match Nat.beq i id with
    | true => some (.st .normal s')
    | false => some (.st (.exit i) s')
   | r => r
 | .loop a => fun ih cr s => match ih (.code cr a s) with
   | some (.st .normal s') => ih (.code cr (.loop a) s')
   | r => r
noncomputable def leave (P : Program) (res : List ResultVar) (h : Hp) (nx : Nat) (s' : SSt) : Option Ans := match qait P s' res with
 | some r => f2 r fun r => fSp (qaiv s'.hp 100000 (nm2 r ++ idsH h) []) fun h2 => match uniqB h2 && Nat.ble nx s'.nx with
  | true => fNat (.succ s'.nx) fun nx => some (.val r h2 nx)
  | false => none
 | none => none
noncomputable def stepF (P : Program) (ih : Tsk → Option Ans) (g : FuncId) (as_ : List SV) (h : Hp) (nx : Nat) : Option Ans := match fdata P g with
 | some fd => match Nat.ble as_.length fd.N && as_.all (lt2 nx) && ltHp nx h with
  | true => match ih (.code fd.cross fd.c ⟨argS 0 as_, h, nx⟩) with
   | some (.st (.exit _) _) => none
   | some (.st _ s') => leave P fd.res h nx s'
   | _ => none
  | false => none
 | none => none
noncomputable def step (P : Program) (ih : Tsk → Option Ans) : Tsk → Option Ans
 | .code cr c s => qagh c ih cr s
 | .call g as_ h nx => stepF P ih g as_ h nx
noncomputable def run (P : Program) (n : Nat) : Tsk → Option Ans := Nat.rec (fun _ => none) (fun _ ih t => step P ih t) n
end Go.Proofs.YteoijlmgiemffaaGreat
namespace Go.Proofs.YteoijlmgiemffaaGreat
set_option linter.all false
open Go.RowKit
theorem qafr {α : Type} : ∀ (h : Hp) (k : Hp → α), fSp h k = k h
 | [], _ => rfl
 | p :: h, k => by
  show fSp h (fun h => k (p :: h)) = k (p :: h)
  rw [qafr h]
theorem qafq {α : Type} : ∀ (u : Upd) (h : Hp) (k : Hp → α), fUpd u h k = k (upds h u)
 | [], _, _ => rfl
 | (i, some o) :: u, h, k => by
  show fNat i (fun i => fO o fun o => fSp (puthR h i o) fun h => fUpd u h k) = _
  simp only [qabj, fO_eq, qafr, qafq u, qafc]; rfl
 | (i, none) :: u, h, k => by
  show fSp (delhR h i) (fun h => fUpd u h k) = _
  simp only [qafr, qafq u, qafu]; rfl
theorem qaja {α : Type} (cr : List Nat) (s : SSt) (k : SSt → α) : fKeep cr s k = k (s.keep cr) := by
 unfold fKeep
 have : ∀ (cr : List Nat) (k : Sl → α), (List.rec (fun k => k []) (fun t _ ih k => getK s.sl t fun v => ih fun sl => k ((t, v) :: sl)) cr : (Sl → α) → α) k = k (cr.map fun t => (t, gets s.sl t)) := by
  intro cr
  induction cr with
  | nil => intro k; rfl
  | cons t cr ih =>
   intro k
   show getK s.sl t (fun v => (List.rec (fun k => k []) (fun t _ ih k => getK s.sl t fun v => ih fun sl => k ((t, v) :: sl)) cr : (Sl → α) → α) fun sl => k ((t, v) :: sl)) = _
   rw [qah8, ih]
   rfl
 rw [this]
 rfl
theorem qaa7 (hp : Hp) : ∀ (f : Nat) (l : List Nat) (acc : Hp), SubH hp acc → SubH hp (qaiv hp f l acc)
 | 0, l, acc, h => h
 | f + 1, [], acc, h => h
 | f + 1, i :: l, acc, h => by
  show SubH hp (Option.rec (Option.rec (qaiv hp f l acc) (fun o => qaiv hp f (nmO o ++ l) ((i, o) :: acc)) (qacr hp i)) (fun _ => qaiv hp f l acc) (qacr acc i))
  cases qacr acc i with
  | some o => exact qaa7 hp f l acc h
  | none =>
   cases ho : qacr hp i with
   | some o => exact qaa7 hp f _ _ ⟨by rw [← qabe]; exact ho, h⟩
   | none => exact qaa7 hp f l acc h
theorem eqI_ok {a b : Int} (h : eqI a b = true) : a = b := by
 cases a <;> cases b <;> simp_all [eqI]
theorem qacs {f : SV → SV → Bool} (hf : ∀ x y, f x y = true → x = y) : ∀ {l m : List SV}, eqV.eqVs f l m = true → l = m
 | [], [], _ => rfl
 | x :: l, y :: m, h => by
  rw [eqV.eqVs, Bool.and_eq_true] at h
  rw [hf _ _ h.1, qacs hf h.2]
 | [], _ :: _, h => by simp [eqV.eqVs] at h
 | _ :: _, [], h => by simp [eqV.eqVs] at h
theorem qac7 {f : SV → SV → Bool} (hf : ∀ x y, f x y = true → x = y) : ∀ {l m : List (List SV)}, eqV.eqVss f l m = true → l = m
 | [], [], _ => rfl
 | x :: l, y :: m, h => by
  rw [eqV.eqVss, Bool.and_eq_true] at h
  rw [qacs hf h.1, qac7 hf h.2]
 | [], _ :: _, h => by simp [eqV.eqVss] at h
 | _ :: _, [], h => by simp [eqV.eqVss] at h
theorem qajb : ∀ (n : Nat) (x y : SV), eqV n x y = true → x = y
 | 0, x, y, h => by simp [eqV] at h
 | n + 1, x, y, h => by
  have ih := qajb n
  unfold eqV at h
  split at h
  all_goals first | rfl | (cases h; done) | skip
  all_goals try simp only [Bool.and_eq_true, beq_iff_eq, decide_eq_true_eq, Nat.beq_eq] at h
  ·rw [h]
  ·rw [h.1, eqI_ok h.2]
  ·rw [h.1, h.2]
  ·rw [h.1, h.2]
  ·rw [h.1.1.1, h.1.1.2, h.1.2, h.2]
  ·rw [qacs ih h]
  ·rw [qacs ih h]
  ·rw [h.1, qac7 ih h.2]
theorem eqO_ok {x y : SObj} (h : eqO x y = true) : x = y := by
 unfold eqO at h
 split at h
 ·simp only [Bool.and_eq_true, Nat.beq_eq] at h
  rw [h.1, qacs (qajb 9) h.2]
 ·simp only [Bool.and_eq_true, Nat.beq_eq] at h
  rw [h.1.1, h.1.2, qac7 (qajb 9) h.2]
 ·cases h
theorem qae2 {h1 h2 : Hp} : ∀ (l : Hp) (id : Nat), id ∈ qajr h2 h1 l → geth h2 id = geth h1 id
 | [], id, h => by cases h
 | p :: l, id, h => by
  have ih := qae2 (h1 := h1) (h2 := h2) l id
  have h0 : id ∈ (Option.rec (qajr h2 h1 l) (fun o => Option.rec (qajr h2 h1 l) (fun o' => Bool.rec (qajr h2 h1 l) (p.1 :: qajr h2 h1 l) (eqO o o')) (qacr h2 p.1)) (qacr h1 p.1) : List Nat) := h
  cases h3 : qacr h1 p.1 with
  | none => rw [h3] at h0; exact ih h0
  | some o =>
   rw [h3] at h0
   cases h4 : qacr h2 p.1 with
   | none => rw [h4] at h0; exact ih h0
   | some o' =>
    rw [h4] at h0
    cases h5 : eqO o o' with
    | false => simp only [h5] at h0; exact ih h0
    | true =>
     simp only [h5] at h0
     rcases List.mem_cons.1 h0 with rfl | h0
     ·rw [← qabe, ← qabe, h3, h4, eqO_ok h5]
     ·exact ih h0
theorem same_ok {h1 h2 : Hp} : ∀ id ∈ same h2 h1, geth h2 id = geth h1 id := fun id h => qae2 h1 id h
theorem qafl {b : SOper × Tch} : ∀ (l : List (SOper × Tch)) (n k : Nat), qah4 b l n k = true → ∀ (i : Nat) a, i < n → l[i]? = some a → qag1 a b = true → b.1.bef.testBit (k + i) = true
 | [], n, k, _, i, a, _, ha, _ => by simp at ha
 | x :: l, 0, k, _, i, a, hi, _, _ => by omega
 | x :: l, n + 1, k, h, i, a, hi, ha, hc => by
  have h2 : (Bool.rec (Bool.rec (qah4 b l n (k + 1)) false (qag1 x b)) (qah4 b l n (k + 1)) (Nat.testBit b.1.bef k) : Bool) = true := h
  have hrest : qah4 b l n (k + 1) = true := by
   cases ht : Nat.testBit b.1.bef k with
   | true => rw [ht] at h2; exact h2
   | false =>
    rw [ht] at h2
    cases hx : qag1 x b with
    | true => rw [hx] at h2; cases h2
    | false => rw [hx] at h2; exact h2
  cases i with
  | zero =>
   simp only [List.getElem?_cons_zero, Option.some.injEq] at ha
   subst ha
   cases ht : Nat.testBit b.1.bef k with
   | true => simpa using ht
   | false => rw [ht] at h2; rw [hc] at h2; cases h2
  | succ i =>
   have := qafl l n (k + 1) hrest i a (by omega) (by simpa using ha) hc
   rw [show k + (i + 1) = k + 1 + i by omega]; exact this
theorem qads {all : List (SOper × Tch)} : ∀ (l : List (SOper × Tch)) (k : Nat), qagt all l k = true → ∀ (j : Nat) b, l[j]? = some b → qah4 b all (k + j) 0 = true
 | [], k, _, j, b, hb => by simp at hb
 | x :: l, k, h, j, b, hb => by
  have h2 : (Bool.rec false (qagt all l (k + 1)) (qah4 x all k 0) : Bool) = true := h
  cases hx : qah4 x all k 0 with
  | false => rw [hx] at h2; cases h2
  | true =>
   rw [hx] at h2
   cases j with
   | zero =>
    simp only [List.getElem?_cons_zero, Option.some.injEq] at hb
    subst hb; exact hx
   | succ j =>
    have := qads l (k + 1) h2 j b (by simpa using hb)
    rw [show k + (j + 1) = k + 1 + j by omega]; exact this
theorem qagu {l : List (SOper × Tch)} (h : qagt l l 0 = true) : qafm l = true := by
 unfold qafm
 refine List.all_eq_true.2 fun j hj => List.all_eq_true.2 fun i hi => ?_
 rw [List.mem_range] at hj hi
 rw [List.getElem?_eq_getElem hj, List.getElem?_eq_getElem (show i < l.length by omega)]
 simp only
 cases hc : qag1 l[i] l[j] with
 | false => rfl
 | true =>
  have h1 := qads l 0 h j _ (List.getElem?_eq_getElem hj)
  have h2 := qafl l _ 0 h1 i _ (by omega) (List.getElem?_eq_getElem (by omega)) hc
  rw [Nat.zero_add] at h2
  rw [h2]; rfl
theorem ltB_ok {m : Nat} {x : SV} (h : ltB m x = true) : renB (fun i => if i < m then i else m) x = x := by
 cases x <;> simp_all [ltB, renB]
theorem ltA_ok {m : Nat} {x : SV} (h : ltA m x = true) : renA (fun i => if i < m then i else m) x = x := by
 cases x <;> simp_all [ltA, renA, ltB, renB]
 rename_i cs
 exact (List.map_congr_left fun x hx => ltB_ok (h x hx)).trans (List.map_id' _)
theorem lt0_ok {m : Nat} {x : SV} (h : lt0 m x = true) : ren0 (fun i => if i < m then i else m) x = x := by
 cases x
 case ifc t x => simp only [lt0] at h; simp only [ren0, ltA_ok h]
 case fn f a b =>
  cases a
  ·cases b
   ·rfl
   ·simp [lt0, ltB] at h
  ·simp [lt0, ltB] at h
 all_goals simp_all [lt0, ltB, ren0]
theorem qafn {m : Nat} {cs : List SV} (h : cs.all (lt0 m) = true) : cs.map (ren0 (fun i => if i < m then i else m)) = cs := by
 rw [List.map_congr_left fun x hx => lt0_ok (List.all_eq_true.1 h x hx), List.map_id']
theorem lt1_ok {m : Nat} {x : SV} (h : lt1 m x = true) : ren1 (fun i => if i < m then i else m) x = x := by
 cases x
 case agg cs => simp only [lt1] at h; simp only [ren1, qafn h]
 case fn f a b => simp only [lt1, Bool.and_eq_true] at h; simp only [ren1, qafn h.1, qafn h.2]
 all_goals (simp only [lt1] at h; simp only [ren1]; exact lt0_ok h)
theorem qah6 {m : Nat} {cs : List SV} (h : cs.all (lt1 m) = true) : cs.map (ren1 (fun i => if i < m then i else m)) = cs := by
 rw [List.map_congr_left fun x hx => lt1_ok (List.all_eq_true.1 h x hx), List.map_id']
theorem lt2_ok {m : Nat} {x : SV} (h : lt2 m x = true) : ltV m x := by
 unfold ltV
 cases x
 case agg cs => simp only [lt2] at h; simp only [Go.Proofs.YteoijlmgiemffaaGreat.ren, qah6 h]
 case tup cs => simp only [lt2] at h; simp only [Go.Proofs.YteoijlmgiemffaaGreat.ren, qah6 h]
 all_goals (simp only [lt2] at h; simp only [Go.Proofs.YteoijlmgiemffaaGreat.ren]; exact lt1_ok h)
theorem qadv {m : Nat} : ∀ {cs : List SV}, cs.all (lt2 m) = true → LtL m cs
 | [], _ => trivial
 | x :: xs, h => by
  rw [List.all_cons, Bool.and_eq_true] at h
  exact ⟨lt2_ok h.1, qadv h.2⟩
theorem ltO_ok {m : Nat} {o : SObj} (h : ltO m o = true) : LtO m o := by
 cases o with
 | cells t cs => exact (qadv (m := m) h).map
 | row e z es =>
  have : ∀ x ∈ es, x.map (Go.Proofs.YteoijlmgiemffaaGreat.ren (fun i => if i < m then i else m)) = x := fun x hx => (qadv (m := m) (List.all_eq_true.1 h x hx)).map
  show es.map _ = es
  rw [List.map_congr_left this, List.map_id']
 | abs I => trivial
theorem qah5 {m : Nat} : ∀ {h : Hp}, ltHp m h = true → LtH m h
 | [], _ => trivial
 | (i, o) :: r, h => by
  unfold ltHp at h
  rw [List.all_cons, Bool.and_eq_true, Bool.and_eq_true] at h
  exact ⟨by simpa using h.1.1, ltO_ok h.1.2, qah5 h.2⟩
theorem qaer : ∀ {h : Hp}, uniqB h = true → Uniq h
 | [], _ => trivial
 | (i, o) :: r, h => by
  rw [uniqB, Bool.and_eq_true] at h
  refine ⟨?_, qaer h.2⟩
  have h1 := h.1
  split at h1
  ·rename_i h3; rw [← qabe]; exact h3
  ·cases h1
theorem qaaq {P : Program} {N : Nat} : ∀ {b : Code} {c : SCode}, comp P N b = some c → c.erase = c
 | .skip, c, h => by simp only [comp, Option.some.injEq] at h; subst h; rfl
 | .region id ops d, c, h => by obtain ⟨l, rfl, _⟩ := qaak h; rfl
 | .seq a b, c, h => by
  simp only [comp, Option.bind_eq_bind, Option.bind_eq_some_iff, Option.some.injEq] at h
  obtain ⟨x, h1, y, h2, rfl⟩ := h
  rw [SCode.erase, qaaq h1, qaaq h2]
 | .cond o a b, c, h => by
  simp only [comp, Option.bind_eq_bind, Option.bind_eq_some_iff, Option.some.injEq] at h
  obtain ⟨z, h0, x, h1, y, h2, rfl⟩ := h
  rw [SCode.erase, qaaq h1, qaaq h2]
 | .block id a, c, h => by
  simp only [comp, Option.bind_eq_bind, Option.bind_eq_some_iff, Option.some.injEq] at h
  obtain ⟨x, h1, rfl⟩ := h
  rw [SCode.erase, qaaq h1]
 | .loop a, c, h => by
  simp only [comp, Option.bind_eq_bind, Option.bind_eq_some_iff, Option.some.injEq] at h
  obtain ⟨x, h1, rfl⟩ := h
  rw [SCode.erase, qaaq h1]
 | .exit id, c, h => by simp only [comp, Option.some.injEq] at h; subst h; rfl
 | .ret, c, h => by simp only [comp, Option.some.injEq] at h; subst h; rfl
 | .label _, c, h => by simp only [comp, Option.some.injEq] at h; subst h; rfl
 | .rangeFunc .., c, h => by simp [comp] at h
 | .scope _, c, h => by simp [comp] at h
 | .goto _, c, h => by simp [comp] at h
 | .refuse _, c, h => by simp [comp] at h
theorem qade {X : Cx} {Q : SExit → SSt → Prop} {s : SSt} {c c' : SCode} (e : c.erase = c'.erase) (h : SWp X c Q s) : SWp X c' Q s := fun code hc => h code (by rw [hc, e])
def Good (P : Program) : Tsk → Ans → Prop
 | .code _ c s, .st e s' => ∀ (X : Cx) (Q : SExit → SSt → Prop), X.P = P → Q e s' → SWp X c Q s
 | .call g as_ h nx, .val r h2 nx' => nx < nx' ∧ Uniq h2 ∧ SCalls P g as_ h nx r h2 (nx' - nx)
 | _, _ => False
theorem qagx (h : Hp) : qacr h = geth h := funext fun t => qabe t h
theorem qagn {v : SV} {ih : Tsk → Option Ans} {args : List SV} {dst : Option Nat} {s : SSt} {K : SSt → Tch → Option Ans} {a : Ans} (h : runCl v ih args dst s K = some a) : ∃ g first cap, v = .fn (.func g) first cap := by
 cases v
 case fn f first cap =>
  cases f
  case func g => exact ⟨g, first, cap, rfl⟩
  all_goals cases h
 all_goals cases h
theorem qair {v : SV} {ih : Tsk → Option Ans} {want : Bool} {o : SOper} {s : SSt} {K : SSt → Tch → Option Ans} {a : Ans} (h : runG v ih want o s K = some a) : (∃ b, v = .bool b) ∨ v = .tup [] := by
 cases v
 case bool b => exact .inl ⟨b, rfl⟩
 case tup cs =>
  cases cs
  ·exact .inr rfl
  ·cases h
 all_goals cases h
theorem qahw {P : Program} {ih : Tsk → Option Ans} (hih : ∀ t a, ih t = some a → Good P t a) {o : SOper} {s : SSt} {K : SSt → Tch → Option Ans} {a : Ans} (h : run1 ih o s K = some a) : ∃ s' x, K s' x = some a ∧ ∀ K' : SSt → Tch → Prop, K' s' x → SOp1 P o s K' := by
 unfold run1 at h
 split at h
 ·rename_i f args hcal
  simp only [qad9] at h
  ·obtain ⟨g, first, cap, hf⟩ := qagn h
   rw [hf] at h
   simp only [runCl, qaa4 f2_eq, qafr] at h
   split at h
   ·rename_i r h2 nx hr
    obtain ⟨g1, g2, g3⟩ : _ ∧ _ ∧ _ := hih _ _ hr
    refine ⟨_, _, h, fun K' hK => ?_⟩
    unfold SOp1
    rw [hcal]
    simp only [hf]
    refine ⟨_, r, h2, same h2 _, nx - s.nx, g3, qaa7 _ _ _ _ trivial, g2, same_ok, ?_⟩
    rw [show s.nx + (nx - s.nx) = nx by omega]
    exact hK
   ·cases h
 ·rename_i hcal
  unfold runOp at h
  simp only [qad9, runF_eq, qagx] at h
  split at h
  ·rename_i v u nx hr
   rw [f2_eq, qafq, qabj] at h
   refine ⟨_, _, h, fun K' hK => ?_⟩
   unfold SOp1
   rw [hcal]
   simp only [hr]
   exact hK
  ·cases h
theorem runO_ok {P : Program} {ih : Tsk → Option Ans} (hih : ∀ t a, ih t = some a → Good P t a) {o : SOper} {os : List SOper} {s : SSt} {tr : List Tch} {K : SSt → Tch → Option Ans} {a : Ans} (h : runO ih o s K = some a) : ∃ s' x, K s' x = some a ∧ ∀ Q : SSt → List Tch → Prop, SOps P os s' (x :: tr) Q → SOps P (o :: os) s tr Q := by
 unfold runO at h
 split at h
 ·rename_i hg
  obtain ⟨s1, x, h1, h2⟩ := qahw hih h
  refine ⟨s1, x, h1, fun Q hQ => ?_⟩
  rw [SOps, hg]
  exact h2 _ hQ
 ·rename_i t want hg
  rw [qac5] at h
  rcases qair h with ⟨b, hb⟩ | hb
  ·rw [hb] at h
   simp only [runG] at h
   split at h
   ·rename_i hbw
    obtain ⟨s1, x, h1, h2⟩ := qahw hih h
    refine ⟨s1, x, h1, fun Q hQ => ?_⟩
    rw [SOps, hg]
    simp only [hb]
    have e : b = want := by simpa using hbw
    exact ⟨fun _ => h2 _ hQ, fun hne => absurd e hne⟩
   ·rename_i hbw
    refine ⟨_, _, h, fun Q hQ => ?_⟩
    rw [SOps, hg]
    simp only [hb]
    have e : ¬ b = want := by simpa using hbw
    exact ⟨fun he => absurd he e, fun _ => hQ⟩
  ·rw [hb] at h
   refine ⟨_, _, h, fun Q hQ => ?_⟩
   rw [SOps, hg]
   simp only [hb]
   exact hQ
theorem qadj {P : Program} {ih : Tsk → Option Ans} (hih : ∀ t a, ih t = some a → Good P t a) : ∀ {ops : List SOper} {s : SSt} {tr : List Tch} {K : SSt → List Tch → Option Ans} {a : Ans}, qaiq ih ops s tr K = some a → ∃ s' tr', K s' tr' = some a ∧ ∀ Q : SSt → List Tch → Prop, Q s' tr' → SOps P ops s tr Q
 | [], s, tr, K, a, h => ⟨s, tr, h, fun Q hQ => hQ⟩
 | o :: os, s, tr, K, a, h => by
  have h0 : runO ih o s (fun s' x => qaiq ih os s' (x :: tr) K) = some a := h
  obtain ⟨s1, x, h1, h2⟩ := runO_ok (os := os) (tr := tr) hih h0
  obtain ⟨s2, tr2, h3, h4⟩ := qadj hih h1
  exact ⟨s2, tr2, h3, fun Q hQ => h2 Q (h4 Q hQ)⟩
theorem qaa9 {P : Program} {cr : List Nat} {c : SCode} {s : SSt} {a : Ans} (h : Good P (.code cr c s) a) : ∃ e s', a = .st e s' := by
 cases a with
 | st e s' => exact ⟨e, s', rfl⟩
 | val r h2 nx => exact h.elim
theorem qaio {P : Program} {cr : List Nat} {a : SCode} {n : Nat} (ih : ∀ m, m ≤ n → ∀ t r, run P m t = some r → Good P t r) {s s' : SSt} {e : SExit} (h : run P (n + 1) (.code cr (.loop a) s) = some (.st e s')) {X : Cx} {Q : SExit → SSt → Prop} (hP : X.P = P) (hQ : Q e s') : SWp X (.loop a) Q s := by
 refine qaes (fun t k => k ≤ n + 1 ∧ run P k (.code cr (.loop a) t) = some (.st e s')) (n := n + 1) (Wk.refl X s) ⟨Nat.le_refl _, h⟩ ?_
 rintro t k ⟨hk, hr⟩
 cases k with
 | zero => cases hr
 | succ k =>
  have hr2 : step P (run P k) (.code cr (.loop a) t) = some (.st e s') := hr
  simp only [step, qagh] at hr2
  cases hx : run P k (.code cr a t) with
  | none => rw [hx] at hr2; cases hr2
  | some y =>
   have hg := ih k (by omega) _ _ hx
   obtain ⟨e1, s1, rfl⟩ := qaa9 hg
   rw [hx] at hr2
   cases e1 with
   | normal => exact hg X _ hP ⟨s1, k, Wk.refl X s1, ⟨by omega, hr2⟩, by omega⟩
   | exit i => simp only [Option.some.injEq, Ans.st.injEq] at hr2; obtain ⟨rfl, rfl⟩ := hr2; exact hg X _ hP hQ
   | ret => simp only [Option.some.injEq, Ans.st.injEq] at hr2; obtain ⟨rfl, rfl⟩ := hr2; exact hg X _ hP hQ
theorem qai9 {P : Program} {g : FuncId} {fd : FD} (h : fdata P g = some fd) : ∃ fn b, P.funcs[g]? = some fn ∧ fn.body = some b ∧ (fn.name == "runtime.NumGoroutine") = false ∧ fn.ntmps = fd.N ∧ comp P fd.N b = some fd.c ∧ fn.results.toList = fd.res := by
 unfold fdata at h
 split at h
 ·rename_i fn hf
  split at h
  ·rename_i b hb
   split at h
   ·cases h
   ·rename_i hn
    split at h
    ·rename_i c hc
     cases h
     exact ⟨fn, b, hf, hb, hn, rfl, hc, rfl⟩
    ·cases h
  ·cases h
 ·cases h
theorem qagj {P : Program} (hmx : P.follows .mixedOrders = true) {n : Nat} (ih : ∀ m, m ≤ n → ∀ t r, run P m t = some r → Good P t r) {cr : List Nat} {c : SCode} {s : SSt} {r : Ans} (h : run P (n + 1) (.code cr c s) = some r) : Good P (.code cr c s) r := by
 have h2 : step P (run P n) (.code cr c s) = some r := h
 have ih0 := ih n (Nat.le_refl n)
 cases c with
 | skip => simp only [step, qagh, Option.some.injEq] at h2; subst h2; exact fun X Q hP hQ => qaay hQ
 | exit i => simp only [step, qagh, Option.some.injEq] at h2; subst h2; exact fun X Q hP hQ => qabv hQ
 | ret => simp only [step, qagh, Option.some.injEq] at h2; subst h2; exact fun X Q hP hQ => qaag hQ
 | reg d ops live =>
  simp only [step, qagh] at h2
  obtain ⟨s', tr, h3, h4⟩ := qadj ih0 h2
  split at h3
  ·rename_i hd
   rw [qaja] at h3
   cases h3
   intro X Q hP hQ
   subst hP
   cases d with
   | false => exact qade (c := .reg false ops cr) rfl (qaae (h4 _ hQ))
   | true => exact qade (c := .reg true ops cr) rfl (qaig hmx (h4 _ ⟨qagu (by simpa using hd), hQ⟩))
  ·cases h3
 | seq a b =>
  simp only [step, qagh, qad9] at h2
  cases hx : run P n (.code cr a s) with
  | none => rw [hx] at h2; cases h2
  | some y =>
   have hg := ih0 _ _ hx
   obtain ⟨e1, s1, rfl⟩ := qaa9 hg
   rw [hx] at h2
   cases e1 with
   | normal =>
    have hg2 := ih0 _ _ h2
    obtain ⟨e, s', rfl⟩ := qaa9 hg2
    exact fun X Q hP hQ => qadd (hg X _ hP (hg2 X Q hP hQ))
   | exit i => cases h2; exact fun X Q hP hQ => qadd (hg X _ hP hQ)
   | ret => cases h2; exact fun X Q hP hQ => qadd (hg X _ hP hQ)
 | cond x a b =>
  simp only [step, qagh, qad9] at h2
  split at h2
  ·rename_i hb
   have hg := ih0 _ _ h2
   obtain ⟨e, s', rfl⟩ := qaa9 hg
   exact fun X Q hP hQ => qaab hb (fun _ => hg X Q hP hQ) (fun h => by cases h)
  ·rename_i hb
   have hg := ih0 _ _ h2
   obtain ⟨e, s', rfl⟩ := qaa9 hg
   exact fun X Q hP hQ => qaab hb (fun h => by cases h) (fun _ => hg X Q hP hQ)
  ·cases h2
 | block id a =>
  simp only [step, qagh, qad9] at h2
  cases hx : run P n (.code cr a s) with
  | none => rw [hx] at h2; cases h2
  | some y =>
   have hg := ih0 _ _ hx
   obtain ⟨e1, s1, rfl⟩ := qaa9 hg
   rw [hx] at h2
   cases e1 with
   | normal => cases h2; exact fun X Q hP hQ => qaat (hg X _ hP hQ)
   | exit i =>
    simp only at h2
    split at h2
    ·rename_i he
     cases h2
     intro X Q hP hQ
     refine qaat (hg X _ hP ?_)
     show if i = id then Q .normal s1 else Q (.exit i) s1
     rw [if_pos (Nat.eq_of_beq_eq_true he)]; exact hQ
    ·rename_i he
     cases h2
     intro X Q hP hQ
     refine qaat (hg X _ hP ?_)
     show if i = id then Q .normal s1 else Q (.exit i) s1
     rw [if_neg (Nat.ne_of_beq_eq_false he)]; exact hQ
   | ret => cases h2; exact fun X Q hP hQ => qaat (hg X _ hP hQ)
 | loop a =>
  have : ∃ e s', r = .st e s' := by
   simp only [step, qagh, qad9] at h2
   cases hx : run P n (.code cr a s) with
   | none => rw [hx] at h2; cases h2
   | some y =>
    obtain ⟨e1, s1, rfl⟩ := qaa9 (ih0 _ _ hx)
    rw [hx] at h2
    cases e1 with
    | normal => exact qaa9 (ih0 _ _ h2)
    | exit i => cases h2; exact ⟨_, _, rfl⟩
    | ret => cases h2; exact ⟨_, _, rfl⟩
  obtain ⟨e, s', rfl⟩ := this
  exact fun X Q hP hQ => qaio ih h hP hQ
theorem qagk {P : Program} {n : Nat} (ih : ∀ t r, run P n t = some r → Good P t r) {g : FuncId} {as_ : List SV} {hp : Hp} {nx : Nat} {a : Ans} (h : run P (n + 1) (.call g as_ hp nx) = some a) : Good P (.call g as_ hp nx) a := by
 have h2 : step P (run P n) (.call g as_ hp nx) = some a := h
 change stepF P (run P n) g as_ hp nx = some a at h2
 unfold stepF at h2
 split at h2
 ·rename_i fd hfd
  obtain ⟨fn, b, hf, hb, hn, hN, hc, hres⟩ := qai9 hfd
  split at h2
  ·rename_i hchk
   simp only [Bool.and_eq_true, Nat.ble_eq] at hchk
   obtain ⟨⟨hl, hla⟩, hlh⟩ := hchk
   have fin : ∀ e s', run P n (.code fd.cross fd.c ⟨argS 0 as_, hp, nx⟩) = some (.st e s') → (∀ i, e ≠ .exit i) → leave P fd.res hp nx s' = some a → Good P (.call g as_ hp nx) a := by
    intro e s' hx hne h3
    unfold leave at h3
    have hg := ih _ _ hx
    split at h3
    ·rename_i r hr
     rw [f2_eq, qafr] at h3
     split at h3
     ·rename_i hu
      simp only [Bool.and_eq_true, Nat.ble_eq] at hu
      rw [qabj] at h3
      cases h3
      refine ⟨by omega, qaer hu.1, ?_⟩
      refine qacl (s'.nx + 1 - nx) (by omega) hf hb hN hn (c := fd.c) (by rw [qaaq hc]; exact hc) hl (qadv hla) (qah5 hlh) fun X hP hYteoijlmgiemffaaGreat hm => ?_
      refine hg X _ hP ?_
      have q : ∃ s'', Wk X s' s'' ∧ qait X.P s'' fn.results.toList = some r ∧ SubH s''.hp (qaiv s'.hp 100000 (nm2 r ++ idsH hp) []) ∧ s''.nx ≤ nx + (s'.nx + 1 - nx) :=
       ⟨s', Wk.refl X s', by rw [hP, hres]; exact hr, qaa7 _ _ _ _ trivial, by omega⟩
      cases e with
      | normal => exact q
      | exit i => exact absurd rfl (hne i)
      | ret => exact q
     ·cases h3
    ·cases h3
   cases hx : run P n (.code fd.cross fd.c ⟨argS 0 as_, hp, nx⟩) with
   | none => rw [hx] at h2; cases h2
   | some y =>
    obtain ⟨e, s', rfl⟩ := qaa9 (ih _ _ hx)
    rw [hx] at h2
    cases e with
    | exit i => cases h2
    | normal => exact fin _ _ hx (fun i h => by cases h) h2
    | ret => exact fin _ _ hx (fun i h => by cases h) h2
  ·cases h2
 ·cases h2
theorem qaip {P : Program} (hmx : P.follows .mixedOrders = true) (n : Nat) : ∀ t a, run P n t = some a → Good P t a := by
 induction n using Nat.strongRecOn with
 | ind n ih =>
  intro t a h
  cases n with
  | zero => cases h
  | succ n =>
   cases t with
   | code cr c s => exact qagj hmx (fun m hm => ih m (by omega)) h
   | call g as_ hp nx => exact qagk (ih n (by omega)) h
noncomputable def runB (P : Program) (n : Nat) (g : FuncId) : Bool := match run P n (.call g [] [] 0) with
 | some (.val (.bool true) [] _) => true
 | _ => false
theorem qagm {P : Program} (hmx : P.follows .mixedOrders = true) {n : Nat} {g : FuncId} (h : runB P n g = true) (q : Nat) : SCalls P g [] [] q (.bool true) [] := by
 unfold runB at h
 split at h
 ·rename_i nx hr
  obtain ⟨_, _, h3⟩ : _ ∧ _ ∧ _ := qaip hmx n _ _ hr
  refine ⟨h3.1, fun O ρ fp w vs hok hargs hfr => ?_⟩
  obtain rfl := hargs.nil_inv
  have hE : HeapOk O noPl fp [] w := ⟨fun id o ho => by simp [geth] at ho, fun id id' o o' _ ho => by simp [geth] at ho, fun k ⟨id, o, ho, _⟩ => by simp [geth] at ho, hok.O_lt⟩
  refine (h3.2 O noPl fp w [] hE Reps.nil (fun _ _ _ => rfl)).mono ?_
  rintro e w' ⟨v, ρ', fp', rfl, q1, q2, q3, q4, q5, q6⟩
  cases q2
  exact ⟨_, ρ, fp, rfl, ⟨fun id o ho => by simp [geth] at ho, fun id id' o o' _ ho => by simp [geth] at ho, fun k ⟨id, o, ho, _⟩ => by simp [geth] at ho, q1.O_lt⟩, .bool, q3, fun _ _ h => h, fun _ h => .inl h, fun id o ho => by simp [geth] at ho⟩
 ·cases h
end Go.Proofs.YteoijlmgiemffaaGreat
namespace Go.Proofs.YteoijlmgiemffaaGreat
set_option linter.all false
open Go.RowKit
attribute [local simp] qaey qaex qaci qadh qacj qadg qaet qaev qab0 qahx SOp.run SX.ev putd puts argS upds SOp.touch SSt.keep SSt.skip gets geth puth delh idOf SV.cells? setL qaia qaib sbin eq0 eq1 eqL qae4 qseq_n qseq_e qaam qafa qaac qafb qah0 qaaf qabu FrzOk qadq qaco qado qadp qab4 qacn qafg qacp qab6 qadr qab5 frzS frzH frz frz1 frz0 SlotsM ObjsM ObjM rn ren ren1 ren0 qaid co_int co_own qaic qafz co_agg co_tup CoL qad4 qaax dels adds idsH qabx
theorem mixed : Tryz.prog.follows .mixedOrders = true := by kernel_rfl
theorem pbegun (q : Nat) : SCalls Tryz.prog 5 [] [] q (.bool true) [] := qagm mixed (n := 2000) (by kernel_rfl) q
theorem papl_s (op a b : Int) (ha : W64 a) (hb : W64 b) : SCalls Tryz.prog 3 [.int .i64 op, .int .u64 a, .int .u64 b] [] 0 (.bool true) [] := by
 refine qabm (N := 19) Tryz.func3 rfl rfl (by kernel_rfl) qaea (by simp) (by repeat' (first | exact trivial | refine And.intro ?_ ?_ | rfl | decide | exact PureR.ren _)) (by repeat' (first | exact trivial | refine And.intro ?_ ?_ | rfl | decide | exact PureR.ren _)) ?_
 rintro X hP hN hm
 unfold c_papl
 have k1 := fun q => qacz (apply_s op a b ha hb) (fun σ => rfl) (fun σ => rfl) rfl q
 have k2 := fun q => qacz (op2_s op a b ha hb) (fun σ => rfl) (fun σ => rfl) rfl q
 repeat' (first | (with_reducible refine zA ?_) | ((with_reducible refine qaae ?_); (try rw [hP]); simp -implicitDefEqProofs [*]) | ((with_reducible refine qaag ?_); (try simp only [qaam, qaac, qaaf])) | ((first | refine qaf0 (pbegun _) ?_ | refine qaf0 (k1 _) ?_ | refine qaf0 (k2 _) ?_); simp -implicitDefEqProofs [*]) | (with_reducible refine zN hm ?_) | fail)
 all_goals rfl
theorem PipeApplies_law (op a b : Int) (w : World) (_ : (Lit.int .i64 op).wf = true) (ha : (Lit.int .u64 a).wf = true) (hb : (Lit.int .u64 b).wf = true) :
  Calls Tryz.prog 3 #[.int .i64 op, .int .u64 a, .int .u64 b] w fun e w' => e = .returned (.bool true) ∧ Below w.heap.size w w' :=
 law_of (vs := [.int .i64 op, .int .u64 a, .int .u64 b]) (papl_s op a b (Fits.u64 ha) (Fits.u64 hb)) (Reps.cons .int (Reps.cons .int (Reps.cons .int Reps.nil)))
end Go.Proofs.YteoijlmgiemffaaGreat
