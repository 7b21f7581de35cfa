/-
  Texts joined: XIntA XIntB XIntC XStoF XCstl. No condition.
-/
import Derived.WalkSpells
import Derived.RegionTactic
import Derived.BigRegion
import Derived.Deep.RegionLaw
import Derived.Test.YtalejfkholifpaaGreatProg
import Derived.KernelRfl
import Derived.Test.YtalejfkholifpaaGreatStoreSetK19
namespace Go.Proofs.YtalejfkholifpaaGreat
set_option linter.all false
open Go.RowKit
noncomputable def fNat {α : Type} (n : Nat) (k : Nat → α) : α := Nat.rec (k 0) (fun m _ => k (.succ m)) n
theorem qahr {α : Type} (n : Nat) (k : Nat → α) : fNat n k = k n := by cases n <;> rfl
noncomputable def fInt {α : Type} (n : Int) (k : Int → α) : α := Int.rec (fun m => fNat m fun m => k (.ofNat m)) (fun m => fNat m fun m => k (.negSucc m)) n
theorem qarq {α : Type} (n : Int) (k : Int → α) : fInt n k = k n := by cases n <;> simp [fInt, qahr]
noncomputable def qa4s {α β : Type} (f : β → (β → α) → α) (l : List β) : (List β → α) → α := List.rec (fun k => k []) (fun x _ ih k => f x fun x' => ih fun xs' => k (x' :: xs')) l
theorem qafq {α β : Type} {f : β → (β → α) → α} (hf : ∀ x k, f x k = k x) : ∀ (l : List β) (k : List β → α), qa4s f l k = k l
 | [], _ => rfl
 | x :: xs, k => by
  show f x (fun x' => qa4s f xs fun xs' => k (x' :: xs')) = _
  rw [hf, qafq hf xs]
noncomputable def fB {α : Type} (x : SV) : (SV → α) → α := SV.rec (motive_1 := fun _ => (SV → α) → α) (motive_2 := fun _ => PUnit) (motive_3 := fun _ => PUnit)
 (fun k => k (.any))
 (fun b k => Bool.rec (k (.bool false)) (k (.bool true)) b)
 (fun kd n k => fInt n fun n => k (.int kd n))
 (fun s k => k (.str s))
 (fun k => k (.nil))
 (fun k => k (.nilsl))
 (fun k => k (.nilfn))
 (fun k => k (.niliface))
 (fun t x _ k => k (.ifc t x))
 (fun k => k (.mt))
 (fun z es _ k => k (.view z es))
 (fun cs _ k => k (.cp cs))
 (fun i o k => fNat i fun i => fNat o fun o => k (.ptr i o))
 (fun i z a b k => fNat i fun i => fNat a fun a => fNat b fun b => k (.eptr i z a b))
 (fun i n k => fNat i fun i => fNat n fun n => k (.own i n))
 (fun i z o n k => fNat i fun i => fNat o fun o => fNat n fun n => k (.owno i z o n))
 (fun cs _ k => k (.agg cs))
 (fun cs _ k => k (.tup cs))
 (fun f a b _ _ k => k (.fn f a b))
 (fun k => k (.bot))
 ⟨⟩ (fun _ _ _ _ => ⟨⟩) ⟨⟩ (fun _ _ _ _ => ⟨⟩) x
theorem fB_eq {α : Type} (x : SV) (k : SV → α) : fB x k = k x := by
 cases x <;> simp [fB, qarq, qahr]
 rename_i b; cases b <;> rfl
noncomputable def f0 {α : Type} (x : SV) : (SV → α) → α := SV.rec (motive_1 := fun _ => (SV → α) → α) (motive_2 := fun _ => PUnit) (motive_3 := fun _ => PUnit)
 (fun k => k (.any))
 (fun b k => Bool.rec (k (.bool false)) (k (.bool true)) b)
 (fun kd n k => fInt n fun n => k (.int kd n))
 (fun s k => k (.str s))
 (fun k => k (.nil))
 (fun k => k (.nilsl))
 (fun k => k (.nilfn))
 (fun k => k (.niliface))
 (fun t x _ k => fB x fun x => k (.ifc t x))
 (fun k => k (.mt))
 (fun z es _ k => k (.view z es))
 (fun cs _ k => k (.cp cs))
 (fun i o k => fNat i fun i => fNat o fun o => k (.ptr i o))
 (fun i z a b k => fNat i fun i => fNat a fun a => fNat b fun b => k (.eptr i z a b))
 (fun i n k => fNat i fun i => fNat n fun n => k (.own i n))
 (fun i z o n k => fNat i fun i => fNat o fun o => fNat n fun n => k (.owno i z o n))
 (fun cs _ k => k (.agg cs))
 (fun cs _ k => k (.tup cs))
 (fun f a b _ _ k => k (.fn f a b))
 (fun k => k (.bot))
 ⟨⟩ (fun _ _ _ _ => ⟨⟩) ⟨⟩ (fun _ _ _ _ => ⟨⟩) x
theorem f0_eq {α : Type} (x : SV) (k : SV → α) : f0 x k = k x := by
 cases x <;> simp [f0, qarq, qahr, fB_eq]
 rename_i b; cases b <;> rfl
noncomputable def f1 {α : Type} (x : SV) : (SV → α) → α := SV.rec (motive_1 := fun _ => (SV → α) → α) (motive_2 := fun _ => PUnit) (motive_3 := fun _ => PUnit)
 (fun k => k (.any))
 (fun b k => Bool.rec (k (.bool false)) (k (.bool true)) b)
 (fun kd n k => fInt n fun n => k (.int kd n))
 (fun s k => k (.str s))
 (fun k => k (.nil))
 (fun k => k (.nilsl))
 (fun k => k (.nilfn))
 (fun k => k (.niliface))
 (fun t x _ k => fB x fun x => k (.ifc t x))
 (fun k => k (.mt))
 (fun z es _ k => k (.view z es))
 (fun cs _ k => k (.cp cs))
 (fun i o k => fNat i fun i => fNat o fun o => k (.ptr i o))
 (fun i z a b k => fNat i fun i => fNat a fun a => fNat b fun b => k (.eptr i z a b))
 (fun i n k => fNat i fun i => fNat n fun n => k (.own i n))
 (fun i z o n k => fNat i fun i => fNat o fun o => fNat n fun n => k (.owno i z o n))
 (fun cs _ k => qa4s f0 cs fun cs => k (.agg cs))
 (fun cs _ k => k (.tup cs))
 (fun f a b _ _ k => k (.fn f a b))
 (fun k => k (.bot))
 ⟨⟩ (fun _ _ _ _ => ⟨⟩) ⟨⟩ (fun _ _ _ _ => ⟨⟩) x
theorem f1_eq {α : Type} (x : SV) (k : SV → α) : f1 x k = k x := by
 cases x <;> simp [f1, qarq, qahr, fB_eq, qafq f0_eq]
 rename_i b; cases b <;> rfl
noncomputable def f2 {α : Type} (x : SV) : (SV → α) → α := SV.rec (motive_1 := fun _ => (SV → α) → α) (motive_2 := fun _ => PUnit) (motive_3 := fun _ => PUnit)
 (fun k => k (.any))
 (fun b k => Bool.rec (k (.bool false)) (k (.bool true)) b)
 (fun kd n k => fInt n fun n => k (.int kd n))
 (fun s k => k (.str s))
 (fun k => k (.nil))
 (fun k => k (.nilsl))
 (fun k => k (.nilfn))
 (fun k => k (.niliface))
 (fun t x _ k => fB x fun x => k (.ifc t x))
 (fun k => k (.mt))
 (fun z es _ k => k (.view z es))
 (fun cs _ k => k (.cp cs))
 (fun i o k => fNat i fun i => fNat o fun o => k (.ptr i o))
 (fun i z a b k => fNat i fun i => fNat a fun a => fNat b fun b => k (.eptr i z a b))
 (fun i n k => fNat i fun i => fNat n fun n => k (.own i n))
 (fun i z o n k => fNat i fun i => fNat o fun o => fNat n fun n => k (.owno i z o n))
 (fun cs _ k => qa4s f1 cs fun cs => k (.agg cs))
 (fun cs _ k => qa4s f1 cs fun cs => k (.tup cs))
 (fun f a b _ _ k => k (.fn f a b))
 (fun k => k (.bot))
 ⟨⟩ (fun _ _ _ _ => ⟨⟩) ⟨⟩ (fun _ _ _ _ => ⟨⟩) x
theorem f2_eq {α : Type} (x : SV) (k : SV → α) : f2 x k = k x := by
 cases x <;> simp [f2, qarq, qahr, fB_eq, qafq f1_eq]
 rename_i b; cases b <;> rfl
noncomputable def fO {α : Type} (o : SObj) (k : SObj → α) : α := SObj.rec (fun t cs => qa4s f1 cs fun cs => k (.cells t cs)) (fun e z es => qa4s (qa4s f1) es fun es => k (.row e z es)) (fun I => k (.abs I)) o
theorem fO_eq {α : Type} (o : SObj) (k : SObj → α) : fO o k = k o := by cases o <;> simp [fO, qafq f1_eq, qafq (fun x k => qafq f1_eq x k)]
end Go.Proofs.YtalejfkholifpaaGreat
namespace Go.Proofs.YtalejfkholifpaaGreat
set_option linter.all false
open Go.RowKit
noncomputable def getsR (l : Sl) (t : Nat) : SV := List.rec .any (fun p _ ih => Prod.rec (fun i v => Bool.rec ih v (Nat.beq i t)) p) l
theorem qapg (t : Nat) : ∀ l : Sl, getsR l t = gets l t
 | [] => rfl
 | (i, v) :: l => by
  show Bool.rec (getsR l t) v (Nat.beq i t) = if i = t then v else gets l t
  rw [qapg t l]
  cases h : Nat.beq i t with
  | true => rw [if_pos (Nat.eq_of_beq_eq_true h)]
  | false => rw [if_neg (Nat.ne_of_beq_eq_false h)]
noncomputable def qal9 (l : Hp) (t : Nat) : Option SObj := List.rec none (fun p _ ih => Prod.rec (fun i v => Bool.rec ih (some v) (Nat.beq i t)) p) l
theorem qahc (t : Nat) : ∀ l : Hp, qal9 l t = geth l t
 | [] => rfl
 | (i, v) :: l => by
  show Bool.rec (qal9 l t) (some v) (Nat.beq i t) = if i = t then some v else geth l t
  rw [qahc t l]
  cases h : Nat.beq i t with
  | true => rw [if_pos (Nat.eq_of_beq_eq_true h)]
  | false => rw [if_neg (Nat.ne_of_beq_eq_false h)]
noncomputable def puthR (l : Hp) (t : Nat) (x : SObj) : Hp := List.rec [(t, x)] (fun p l ih => Prod.rec (fun i v => Bool.rec ((i, v) :: ih) ((t, x) :: l) (Nat.beq i t)) p) l
theorem qaw2 (t : Nat) (x : SObj) : ∀ l : Hp, puthR l t x = puth l t x
 | [] => rfl
 | (i, v) :: l => by
  show Bool.rec ((i, v) :: puthR l t x) ((t, x) :: l) (Nat.beq i t) = if i = t then (t, x) :: l else (i, v) :: puth l t x
  rw [qaw2 t x l]
  cases h : Nat.beq i t with
  | true => rw [if_pos (Nat.eq_of_beq_eq_true h)]
  | false => rw [if_neg (Nat.ne_of_beq_eq_false h)]
noncomputable def delhR (l : Hp) (t : Nat) : Hp := List.rec [] (fun p _ ih => Prod.rec (fun i v => Bool.rec ((i, v) :: ih) ih (Nat.beq i t)) p) l
theorem qayk (t : Nat) : ∀ l : Hp, delhR l t = delh l t
 | [] => rfl
 | (i, v) :: l => by
  show Bool.rec ((i, v) :: delhR l t) (delhR l t) (Nat.beq i t) = if i = t then delh l t else (i, v) :: delh l t
  rw [qayk t l]
  cases h : Nat.beq i t with
  | true => rw [if_pos (Nat.eq_of_beq_eq_true h)]
  | false => rw [if_neg (Nat.ne_of_beq_eq_false h)]
noncomputable def SX.evR (l : Sl) (x : SX) : SV := SX.rec (fun n => getsR l n) (fun v => v) x
theorem qas6 (l : Sl) (x : SX) : x.evR l = x.ev l := by cases x <;> simp [SX.evR, SX.ev, qapg]
noncomputable def annot {α : Type} (c : SCode) : List (List Nat) → (SCode → List (List Nat) → α) → α := SCode.rec
 (fun h k => k .skip h) (fun d ops l h k => List.rec (k (.reg d ops l) []) (fun x t _ => k (.reg d ops x) t) h)
 (fun _ _ iha ihb h k => iha h fun a h => ihb h fun b h => k (.seq a b) h) (fun x _ _ iha ihb h k => iha h fun a h => ihb h fun b h => k (.cond x a b) h)
 (fun i _ iha h k => iha h fun a h => k (.block i a) h) (fun _ iha h k => iha h fun a h => k (.loop a) h) (fun i h k => k (.exit i) h) (fun h k => k .ret h) c
noncomputable def look (l : List (Nat × List (List Nat))) (g : Nat) : List (List Nat) := List.rec [] (fun p _ ih => Prod.rec (fun i v => Bool.rec ih v (Nat.beq i g)) p) l
structure FD where
 N : Nat
 c : SCode
 res : List ResultVar
noncomputable def fdata (P : Program) (H : List (Nat × List (List Nat))) (g : FuncId) : Option FD := match P.funcs[g]? with
 | some fn => match fn.body with
  | some b => match fn.name == "runtime.NumGoroutine" with
   | true => none
   | false => match comp P fn.ntmps b with
    | some c => annot c (look H g) fun c _ => some ⟨fn.ntmps, c, fn.results.toList⟩
    | none => none
  | none => none
 | none => none
def nmB : SV → List Nat
 | .ptr id _ | .eptr id _ _ _ | .own id _ | .owno id _ _ _ => [id]
 | _ => []
def nmA : SV → List Nat
 | .agg cs => cs.flatMap nmB
 | x => nmB x
def nm0 : SV → List Nat
 | .ifc _ x => nmA x
 | x => nmB x
def nm1 : SV → List Nat
 | .agg cs => cs.flatMap nm0
 | .fn _ a b => a.flatMap nm0 ++ b.flatMap nm0
 | x => nm0 x
def nm2 : SV → List Nat
 | .tup cs => cs.flatMap nm1
 | .agg cs => cs.flatMap nm1
 | x => nm1 x
def nmO : SObj → List Nat
 | .cells _ cs => cs.flatMap nm2
 | .row _ _ es => es.flatMap fun e => e.flatMap nm2
 | .abs _ => []
noncomputable def qbb6 (hp : Hp) (f : Nat) : List Nat → Hp → Hp := Nat.rec (fun _ acc => acc) (fun _ ih l acc => List.rec acc (fun i l _ => Option.rec (Option.rec (ih l acc) (fun o => ih (nmO o ++ l) ((i, o) :: acc)) (qal9 hp i)) (fun _ => ih l acc) (qal9 acc i)) l) f
def ltB (m : Nat) : SV → Bool
 | .ptr id _ | .eptr id _ _ _ | .own id _ | .owno id _ _ _ => Nat.blt id m
 | .agg _ | .tup _ | .fn _ _ _ | .ifc _ _ => false
 | _ => true
def ltA (m : Nat) : SV → Bool
 | .agg cs => cs.all (ltB m)
 | x => ltB m x
def lt0 (m : Nat) : SV → Bool
 | .ifc _ x => ltA m x
 | .fn _ [] [] => true
 | x => ltB m x
def lt1 (m : Nat) : SV → Bool
 | .agg cs => cs.all (lt0 m)
 | .fn _ a b => a.all (lt0 m) && b.all (lt0 m)
 | x => lt0 m x
def lt2 (m : Nat) : SV → Bool
 | .tup cs => cs.all (lt1 m)
 | .agg cs => cs.all (lt1 m)
 | x => lt1 m x
def ltO (m : Nat) : SObj → Bool
 | .cells _ cs => cs.all (lt2 m)
 | .row _ _ es => es.all fun e => e.all (lt2 m)
 | .abs _ => true
def ltHp (m : Nat) (h : Hp) : Bool := h.all fun p => Nat.blt p.1 m && ltO m p.2
noncomputable def uniqB : Hp → Bool
 | [] => true
 | (i, _) :: r => (match qal9 r i with | none => true | some _ => false) && uniqB r
inductive Tsk where
 | code (c : SCode) (s : SSt)
 | call (g : FuncId) (args : List SV) (h : Hp) (nx : Nat)
 | mcall (nm : String) (t : TypeId) (args : List SV) (h : Hp) (nx : Nat)
inductive Ans where
 | st (e : SExit) (s : SSt)
 | val (r : SV) (h : Hp) (nx : Nat)
def SOp.runF : SOp → (SX → SV) → (Nat → Option SObj) → Nat → Option (SV × Upd × Nat)
 | .mv x => fun ev g nx => some (ev x, [], nx)
 | .pick c a b => fun ev g nx => match ev c with
  | .bool c => match ev a, ev b with
   | .bool a, .bool b => some (.bool (bif c then a else b), [], nx)
   | x, y => some (match c with | true => x | false => y, [], nx)
  | _ => none
 | .alloc t z => fun ev g nx => some (.ptr nx 0, [(nx, some (.cells t z))], nx + 1)
 | .box t x => fun ev g nx => match (ev x).cells? with
  | some cs => some (.ptr nx 0, [(nx, some (.cells t cs))], nx + 1)
  | none => none
 | .build z parts => fun ev g nx => match qab7 z (parts.map fun p => (p.1, p.2.1, ev p.2.2)) with
  | some cs => some (.agg cs, [], nx)
  | none => none
 | .mkrow e size n z parts => fun ev g nx => match qab8 size (List.replicate n z) (parts.map fun p => (p.1, ev p.2)) with
  | some es => some (.own nx n, [(nx, some (.row e size es))], nx + 1)
  | none => none
 | .load x => fun ev g nx => match ev x with
  | .cp (c :: _) => some (c, [], nx)
  | .ptr id off => match g id with
   | some (.cells _ cs) => (cs[off]?).map fun c => (c, [], nx)
   | _ => none
  | .eptr id size i j => match g id with
   | some (.row _ size' es) => if size = size' ∧ j < size then ((es[i]?).bind (·[j]?)).map fun c => (c, [], nx) else none
   | _ => none
  | _ => none
 | .loads n x => fun ev g nx => match ev x with
  | .cp cs => if n ≤ cs.length then some (.agg (cs.take n), [], nx) else none
  | .ptr id off => match g id with
   | some (.cells _ cs) => if off + n ≤ cs.length then some (.agg ((cs.drop off).take n), [], nx) else none
   | _ => none
  | .eptr id size i j => match g id with
   | some (.row _ size' es) => if size = size' ∧ j + n ≤ size then (es[i]?).map fun e => (.agg ((e.drop j).take n), [], nx) else none
   | _ => none
  | _ => none
 | .store n x v => fun ev g nx => match (ev v).cells? with
  | none => none
  | some vs => if vs.length = n then (match ev x with
   | .ptr id off => match g id with
    | some (.cells t cs) => rg (off + n ≤ cs.length) (some (.any, [(id, some (.cells t (setL cs off vs)))], nx))
    | _ => none
   | .eptr id size i j => match g id with
    | some (.row e size' es) => if size = size' ∧ j + n ≤ size then (es[i]?).map fun x => (.any, [(id, some (.row e size (es.set i (setL x j vs))))], nx) else none
    | _ => none
   | _ => none) else none
 | .nilc x => fun ev g nx => match ev x with
  | .ptr id off => some (.ptr id off, [], nx)
  | .cp cs => some (.cp cs, [], nx)
  | .eptr id size i j => some (.eptr id size i j, [], nx)
  | .fn (.func f) a b => some (.fn (.func f) a b, [], nx)
  | _ => none
 | .bin op x y => fun ev g nx => match ev x, ev y with
  | .int k a, .int k' b => (sbin op k a k' b).map fun v => (v, [], nx)
  | .str a, .str b => match op with
   | .add => rg (a.size + b.size ≤ maxLen) (some (.str (a ++ b), [], nx))
   | .eql => some (.bool (a.toList == b.toList), [], nx)
   | .neq => some (.bool (!(a.toList == b.toList)), [], nx)
   | _ => none
  | _, _ => none
 | .eq k neg x y => fun ev g nx => (eq0 k (ev x) (ev y)).map fun b => (.bool (neg != b), [], nx)
 | .eqs ks neg x y => fun ev g nx => match ev x, ev y with
  | .agg xs, .agg ys => (eqL ks xs ys).map fun b => (.bool (neg != b), [], nx)
  | _, _ => none
 | .un op x => fun ev g nx => match op, ev x with
  | .neg, .int k n => some (.int k (k.wrap (0 - n)), [], nx)
  | .xor, .int k n => some (.int k (bits .xor k (if k.signed then -1 else k.max) n), [], nx)
  | .not, .bool b => some (.bool (!b), [], nx)
  | _, _ => none
 | .conv k x => fun ev g nx => match ev x with
  | .int _ n => some (.int k (k.wrap n), [], nx)
  | _ => none
 | .mkslice e size bytes z l c => fun ev g nx => match ev l, ev c with
  | .int .i64 l, .int .i64 c => rg (0 ≤ l ∧ l ≤ c ∧ c ≤ maxLen ∧ c * bytes ≤ 140737488355328) (some (.own nx l.toNat, [(nx, some (.row e size (List.replicate l.toNat z)))], nx + 1))
  | _, _ => none
 | .slice size x lo hi => fun ev g nx =>
  match lo.map ev, hi.map ev with
  | none, none => (match ev x with
   | .view size' es => if size = size' then some (.view size es, [], nx) else none
   | .own id n => some (.own id n, [], nx)
   | _ => none)
  | some (.int _ l), none => (match ev x with
   | .view size' es => if size = size' then rg (0 ≤ l ∧ l ≤ es.length) (some (.view size (es.drop l.toNat), [], nx)) else none
   | .own id n => rg (0 ≤ l ∧ l < n) (some (.owno id size l.toNat (n - l.toNat), [], nx))
   | _ => none)
  | none, some (.int _ h) => (match ev x with
   | .view size' es => if size = size' then rg (0 ≤ h ∧ h ≤ es.length) (some (.view size (es.take h.toNat), [], nx)) else none
   | .own id n => rg (0 ≤ h ∧ h ≤ n) (some (.own id h.toNat, [], nx))
   | _ => none)
  | some (.int _ l), some (.int _ h) => (match ev x with
   | .view size' es => if size = size' then rg (0 ≤ l ∧ l ≤ h ∧ h ≤ es.length) (some (.view size ((es.take h.toNat).drop l.toNat), [], nx)) else none
   | .own id n => rg (0 ≤ l ∧ l < h ∧ h ≤ n) (some (.owno id size l.toNat (h.toNat - l.toNat), [], nx))
   | _ => none)
  | _, _ => none
 | .slstr x lo hi => fun ev g nx =>
  match ev x with
  | .str s => (match lo.map ev, hi.map ev with
   | some (.int _ l), none => rg (0 ≤ l ∧ l ≤ s.size) (some (.str (s.extract l.toNat s.size), [], nx))
   | none, some (.int _ h) => rg (0 ≤ h ∧ h ≤ s.size) (some (.str (s.extract 0 h.toNat), [], nx))
   | some (.int _ l), some (.int _ h) => rg (0 ≤ l ∧ l ≤ h ∧ h ≤ s.size) (some (.str (s.extract l.toNat h.toNat), [], nx))
   | _, _ => none)
  | _ => none
 | .faddr off x => fun ev g nx => match ev x with
  | .ptr id o => some (.ptr id (o + off), [], nx)
  | .cp cs => some (.cp (cs.drop off), [], nx)
  | .eptr id size i j => some (.eptr id size i (j + off), [], nx)
  | _ => none
 | .iaddr size x i => fun ev g nx => match ev i with
  | .int _ i => match ev x with
   | .view size' es => if size = size' then rg (0 ≤ i ∧ i < es.length) (some (.cp ((es[i.toNat]?).getD []), [], nx)) else none
   | .own id n => rg (0 ≤ i ∧ i < n) (some (.eptr id size i.toNat 0, [], nx))
   | .owno id size' off n => if size = size' then rg (0 ≤ i ∧ i < n) (some (.eptr id size (off + i.toNat) 0, [], nx)) else none
   | _ => none
  | _ => none
 | .iarr n size x i => fun ev g nx => match ev i with
  | .int _ i => match ev x with
   | .ptr id off => rg (0 ≤ i ∧ i < n) (some (.ptr id (off + i.toNat * size), [], nx))
   | .cp cs => rg (0 ≤ i ∧ i < n) (some (.cp (cs.drop (i.toNat * size)), [], nx))
   | .eptr id size' i' j => rg (0 ≤ i ∧ i < n) (some (.eptr id size' i' (j + i.toNat * size), [], nx))
   | _ => none
  | _ => none
 | .field off n x => fun ev g nx => match ev x with
  | .agg cs => match n with
   | none => (cs[off]?).map fun c => (c, [], nx)
   | some n => if off + n ≤ cs.length then some (.agg ((cs.drop off).take n), [], nx) else none
  | _ => none
 | .idx m size n x i => fun ev g nx => match ev i with
  | .int _ i => match ev x with
   | .agg cs => rg (0 ≤ i ∧ i < m) (match n with
    | none => (cs[i.toNat * size]?).map fun c => (c, [], nx)
    | some n => rg (i.toNat * size + n ≤ cs.length) (some (.agg ((cs.drop (i.toNat * size)).take n), [], nx)))
   | _ => none
  | _ => none
 | .idxs x i => fun ev g nx => match ev i with
  | .int _ i => match ev x with
   | .str s => rg (0 ≤ i) (match s[i.toNat]? with
    | some b => some (.int .u8 b.toNat, [], nx)
    | none => none)
   | _ => none
  | _ => none
 | .extr x i => fun ev g nx => match ev x with
  | .tup vs => (vs[i]?).map fun c => (c, [], nx)
  | _ => none
 | .len st x => fun ev g nx => match ev x with
  | .view _ es => if st = false then some (.int .i64 es.length, [], nx) else none
  | .own _ n => if st = false then some (.int .i64 n, [], nx) else none
  | .owno _ _ _ n => if st = false then some (.int .i64 n, [], nx) else none
  | .nilsl => if st = false then some (.int .i64 0, [], nx) else none
  | .str s => if st = true then some (.int .i64 s.size, [], nx) else none
  | _ => none
 | .app e size bytes s x => fun ev g nx => match qab5 size g (ev x) with
  | none => none
  | some ys => match ev s with
   | .nilsl => rg (ys.length ≤ maxLen ∧ ys.length * bytes ≤ 140737488355328) (some (.own nx ys.length, [(nx, some (.row e size ys))], nx + 1))
   | .own id n => match g id with
    | some (.row e' size' es) => if e = e' ∧ size = size' ∧ n = es.length then rg (n + ys.length ≤ maxLen ∧ (n + ys.length) * bytes ≤ 140737488355328) (some (.own nx (n + ys.length), [(id, none), (nx, some (.row e size (es ++ ys)))], nx + 1)) else if e = e' ∧ size = size' ∧ n < es.length then rg (n + ys.length ≤ maxLen ∧ (n + ys.length) * bytes ≤ 140737488355328) (some (.own nx (n + ys.length), [(id, none), (nx, some (.row e size (es.take n ++ ys)))], nx + 1)) else none
    | _ => none
   | _ => none
 | .mm max x y => fun ev g nx => match ev x, ev y with
  | .int k a, .int k' b => if k = k' then some (.int k (if max then (if b > a then b else a) else (if b < a then b else a)), [], nx) else none
  | _, _ => none
 | .mkfn f first cap => fun ev g nx => some (.fn f (first.map ev) (cap.map ev), [], nx)
 | .b2s x => fun ev g nx => match qab5 1 g (ev x) with
  | some ys => (qan2 ys).map fun xs => (.str (strOfNums xs), [], nx)
  | none => none
 | .b2b x => fun ev g nx => match ev x with
  | .own id n => match g id with
   | some (.row e size es) => if size = 1 ∧ 0 < n then some (.own id n, [(id, some (.row e size es))], nx) else none
   | _ => none
  | _ => none
 | .mkifc t x => fun ev g nx => some (.ifc t (ev x), [], nx)
 | .asrt t z x => fun ev g nx => match ev x with
  | .niliface => some (.tup [z, .bool false], [], nx)
  | .ifc t' v => some (if t' = t then .tup [v, .bool true] else .tup [z, .bool false], [], nx)
  | _ => none
theorem runF_eq (op : SOp) (ev : SX → SV) (g : Nat → Option SObj) (nx : Nat) : op.runF ev g nx = op.run ev g nx := by cases op <;> rfl
noncomputable def qbce {β : Type} (bef : β → Nat) (cl : β → β → Bool) (b : β) (l : List β) : Nat → Nat → Bool := List.rec (fun _ _ => true) (fun a _ ih n i => Nat.rec true (fun n _ => Bool.rec (Bool.rec (ih n (.succ i)) false (cl a b)) (ih n (.succ i)) (Nat.testBit (bef b) i)) n) l
noncomputable def qaxh {β : Type} (bef : β → Nat) (cl : β → β → Bool) (all : List β) (l : List β) : Nat → Bool := List.rec (fun _ => true) (fun b _ ih j => Bool.rec false (ih (.succ j)) (qbce bef cl b all j 0)) l
def qbff (a b : SOper) : Bool := (match a.dst with | some d => b.reads.contains d || b.dst == some d | none => false) || (match b.dst with | some d => a.reads.contains d | none => false)
def qbfg (a b : SOper × Tch) : Bool := a.2.wr.any (fun i => b.2.rd.contains i || b.2.wr.contains i) || b.2.wr.any fun i => a.2.rd.contains i
noncomputable def okS (ops : List SOper) : Bool := qaxh (·.bef) qbff ops ops 0
noncomputable def okD (l : List (SOper × Tch)) : Bool := qaxh (·.1.bef) qbfg l l 0
def eqI (a b : Int) : Bool := match a, b with
 | .ofNat m, .ofNat n => Nat.beq m n
 | .negSucc m, .negSucc n => Nat.beq m n
 | _, _ => false
def eqV : Nat → SV → SV → Bool
 | 0, _, _ => false
 | n + 1, x, y => match x, y with
  | .any, .any => true
  | .bool a, .bool b => a == b
  | .int k a, .int j b => decide (k = j) && eqI a b
  | .nil, .nil => true
  | .nilsl, .nilsl => true
  | .nilfn, .nilfn => true
  | .niliface, .niliface => true
  | .mt, .mt => true
  | .ptr a b, .ptr c d => Nat.beq a c && Nat.beq b d
  | .own a b, .own c d => Nat.beq a c && Nat.beq b d
  | .owno a b c d, .owno a' b' c' d' => Nat.beq a a' && Nat.beq b b' && Nat.beq c c' && Nat.beq d d'
  | .agg xs, .agg ys => eqVs (eqV n) xs ys
  | .cp xs, .cp ys => eqVs (eqV n) xs ys
  | .view z xs, .view w ys => Nat.beq z w && eqVss (eqV n) xs ys
  | _, _ => false
where
 eqVs (f : SV → SV → Bool) : List SV → List SV → Bool
  | [], [] => true
  | x :: xs, y :: ys => f x y && eqVs f xs ys
  | _, _ => false
 eqVss (f : SV → SV → Bool) : List (List SV) → List (List SV) → Bool
  | [], [] => true
  | x :: xs, y :: ys => eqVs f x y && eqVss f xs ys
  | _, _ => false
def eqO : SObj → SObj → Bool
 | .cells t cs, .cells u ds => Nat.beq t u && eqV.eqVs (eqV 9) cs ds
 | .row e z es, .row e' z' fs => Nat.beq e e' && Nat.beq z z' && eqV.eqVss (eqV 9) es fs
 | _, _ => false
noncomputable def qbhi (h2 h1 l : Hp) : List Nat := List.rec [] (fun p _ ih => Option.rec ih (fun o => Option.rec ih (fun o' => Bool.rec ih (p.1 :: ih) (eqO o o')) (qal9 h2 p.1)) (qal9 h1 p.1)) l
noncomputable def same (h2 h1 : Hp) : List Nat := qbhi h2 h1 h1
noncomputable def fSp {α : Type} (h : Hp) : (Hp → α) → α := List.rec (fun k => k []) (fun p _ ih k => ih fun h => k (p :: h)) h
noncomputable def fUpd {α : Type} (u : Upd) : Hp → (Hp → α) → α := List.rec (fun h k => k h) (fun p _ ih h k => Prod.rec (fun i o => Option.rec (fSp (delhR h i) fun h => ih h k) (fun o => fNat i fun i => fO o fun o => fSp (puthR h i o) fun h => ih h k) o) p) u
noncomputable def runCl (v : SV) : (Tsk → Option Ans) → List SV → Option Nat → SSt → (SSt → Tch → Option Ans) → Option Ans := match v with
 | .fn (.func g) first cap => fun ih args dst s K => qa4s f2 (first ++ args ++ cap) fun as_ => fSp (qbb6 s.hp 100000 (as_.flatMap nm2) []) fun h1 =>
   match ih (.call g as_ h1 s.nx) with
   | some (.val r h2 nx) => fSp (qabw s.hp h1 h2) fun hp => K ⟨putd s.sl dst r, hp, nx⟩ ⟨same h2 h1, (idsH h1 ++ idsH h2).filter fun i => !(same h2 h1).contains i⟩
   | _ => none
 | .fn (.method nm) [] [] => fun ih args dst s K => match args with
   | .ifc t x :: az => qa4s f2 (x :: az) fun as_ => fSp (qbb6 s.hp 100000 (as_.flatMap nm2) []) fun h1 =>
    match ih (.mcall nm t as_ h1 s.nx) with
    | some (.val r h2 nx) => fSp (qabw s.hp h1 h2) fun hp => K ⟨putd s.sl dst r, hp, nx⟩ ⟨same h2 h1, (idsH h1 ++ idsH h2).filter fun i => !(same h2 h1).contains i⟩
    | _ => none
   | _ => none
 | _ => fun _ _ _ _ _ => none
noncomputable def runOp (o : SOper) (s : SSt) (K : SSt → Tch → Option Ans) : Option Ans := match o.op.runF (·.evR s.sl) (qal9 s.hp) s.nx with
  | some (v, u, _) => f2 v fun v => fUpd u s.hp fun hp => fNat (.succ s.nx) fun nx => K ⟨putd s.sl o.dst v, hp, nx⟩ ⟨o.op.touch (·.ev s.sl), u.map (·.1)⟩
  | none => none
noncomputable def run1 (ih : Tsk → Option Ans) (o : SOper) (s : SSt) (K : SSt → Tch → Option Ans) : Option Ans := match o.cal with
 | some (f, args) => runCl (f.evR s.sl) ih (args.map (·.evR s.sl)) o.dst s K
 | none => runOp o s K
noncomputable def runG (v : SV) : (Tsk → Option Ans) → Bool → SOper → SSt → (SSt → Tch → Option Ans) → Option Ans := match v with
 | .bool b => fun ih want o s K => match b == want with
       | true => run1 ih o s K
       | false => K (s.skip o) ⟨[], []⟩
 | .tup [] => fun _ _ o s K => K (s.skip o) ⟨[], []⟩
 | _ => fun _ _ _ _ _ => none
noncomputable def runO (ih : Tsk → Option Ans) (o : SOper) (s : SSt) (K : SSt → Tch → Option Ans) : Option Ans := match o.grd with
 | none => run1 ih o s K
 | some (t, want) => runG (getsR s.sl t) ih want o s K
noncomputable def qbdr (ih : Tsk → Option Ans) (l : List SOper) : SSt → List Tch → (SSt → List Tch → Option Ans) → Option Ans :=
 List.rec (fun s tr K => K s tr) (fun o _ rest s tr K => runO ih o s fun s' x => rest s' (x :: tr) K) l
noncomputable def getK {α : Type} (l : Sl) (t : Nat) (k : SV → α) : α := List.rec (k .any) (fun p _ ih => Prod.rec (fun i v => Bool.rec ih (k v) (Nat.beq i t)) p) l
theorem qbcu {α : Type} (t : Nat) (k : SV → α) : ∀ l : Sl, getK l t k = k (gets l t)
 | [] => rfl
 | (i, v) :: l => by
  show Bool.rec (getK l t k) (k v) (Nat.beq i t) = k (if i = t then v else gets l t)
  rw [qbcu t k l]
  cases h : Nat.beq i t with
  | true => rw [if_pos (Nat.eq_of_beq_eq_true h)]
  | false => rw [if_neg (Nat.ne_of_beq_eq_false h)]
noncomputable def fKeep {α : Type} (cr : List Nat) (s : SSt) (k : SSt → α) : α := List.rec (fun k => k []) (fun t _ ih k => getK s.sl t fun v => ih fun sl => k ((t, v) :: sl)) cr fun sl => k ⟨sl, s.hp, s.nx⟩
noncomputable def qa4p : SCode → (Tsk → Option Ans) → SSt → Option Ans
 | .skip => fun _ s => some (.st .normal s)
 | .exit i => fun _ s => some (.st (.exit i) s)
 | .ret => fun _ s => some (.st .ret s)
 | .reg d ops live => fun ih s => qbdr ih ops s [] fun s' tr => match !d || (okS ops && okD (ops.zip tr.reverse)) with
   | true => fKeep live s' fun s' => some (.st .normal s')
   | false => none
 | .seq a b => fun ih s => match ih (.code a s) with
   | some (.st .normal s') => ih (.code b s')
   | r => r
 | .cond x a b => fun ih s => match x.evR s.sl with
   | .bool true => ih (.code a s)
   | .bool false => ih (.code b s)
   | _ => none
 | .block id a => fun ih s => match ih (.code a s) with
   | some (.st (.exit i) s') => match Nat.beq i id with
    | true => some (.st .normal s')
    | false => some (.st (.exit i) s')
   | r => r
 | .loop a => fun ih s => match ih (.code a s) with
   | some (.st .normal s') => ih (.code (.loop a) s')
   | r => r
noncomputable def leave (P : Program) (res : List ResultVar) (h : Hp) (nx : Nat) (s' : SSt) : Option Ans := match qage P s' res with
 | some r => f2 r fun r => fSp (qbb6 s'.hp 100000 (nm2 r ++ idsH h) []) fun h2 => match uniqB h2 && Nat.ble nx s'.nx with
  | true => fNat (.succ s'.nx) fun nx => some (.val r h2 nx)
  | false => none
 | none => none
noncomputable def stepF (P : Program) (H : List (Nat × List (List Nat))) (ih : Tsk → Option Ans) (g : FuncId) (as_ : List SV) (h : Hp) (nx : Nat) : Option Ans := match fdata P H g with
 | some fd => match Nat.ble as_.length fd.N && as_.all (lt2 nx) && ltHp nx h with
  | true => match ih (.code fd.c ⟨argS 0 as_, h, nx⟩) with
   | some (.st (.exit _) _) => none
   | some (.st _ s') => leave P fd.res h nx s'
   | _ => none
  | false => none
 | none => none
noncomputable def step (P : Program) (H : List (Nat × List (List Nat))) (kn : FuncId → List SV → Hp → Nat → Option Ans) (ih : Tsk → Option Ans) : Tsk → Option Ans
 | .code c s => qa4p c ih s
 | .call g as_ h nx => match kn g as_ h nx with
  | some a => some a
  | none => stepF P H ih g as_ h nx
 | .mcall nm t as_ h nx => match as_, qab3 P t nm, qav2 P t with
  | x :: az, some (some (g, true)), some (some _) => ih (.call g (x :: az) h nx)
  | x :: az, some (some (g, false)), some none => ih (.call g (x :: az) h nx)
  | _, _, _ => none
noncomputable def run (P : Program) (H : List (Nat × List (List Nat))) (kn : FuncId → List SV → Hp → Nat → Option Ans) (n : Nat) : Tsk → Option Ans := Nat.rec (fun _ => none) (fun _ ih t => step P H kn ih t) n
end Go.Proofs.YtalejfkholifpaaGreat
namespace Go.Proofs.YtalejfkholifpaaGreat
set_option linter.all false
open Go.RowKit
theorem qas5 {α : Type} : ∀ (h : Hp) (k : Hp → α), fSp h k = k h
 | [], _ => rfl
 | p :: h, k => by
  show fSp h (fun h => k (p :: h)) = k (p :: h)
  rw [qas5 h]
theorem qaya {α : Type} : ∀ (u : Upd) (h : Hp) (k : Hp → α), fUpd u h k = k (upds h u)
 | [], _, _ => rfl
 | (i, some o) :: u, h, k => by
  show fNat i (fun i => fO o fun o => fSp (puthR h i o) fun h => fUpd u h k) = _
  simp only [qahr, fO_eq, qas5, qaya u, qaw2]; rfl
 | (i, none) :: u, h, k => by
  show fSp (delhR h i) (fun h => fUpd u h k) = _
  simp only [qas5, qaya u, qayk]; rfl
theorem qbe7 {α : Type} (cr : List Nat) (s : SSt) (k : SSt → α) : fKeep cr s k = k (s.keep cr) := by
 unfold fKeep
 have : ∀ (cr : List Nat) (k : Sl → α), (List.rec (fun k => k []) (fun t _ ih k => getK s.sl t fun v => ih fun sl => k ((t, v) :: sl)) cr : (Sl → α) → α) k = k (cr.map fun t => (t, gets s.sl t)) := by
  intro cr
  induction cr with
  | nil => intro k; rfl
  | cons t cr ih =>
   intro k
   show getK s.sl t (fun v => (List.rec (fun k => k []) (fun t _ ih k => getK s.sl t fun v => ih fun sl => k ((t, v) :: sl)) cr : (Sl → α) → α) fun sl => k ((t, v) :: sl)) = _
   rw [qbcu, ih]
   rfl
 rw [this]
 rfl
theorem qafw (hp : Hp) : ∀ (f : Nat) (l : List Nat) (acc : Hp), SubH hp acc → SubH hp (qbb6 hp f l acc)
 | 0, l, acc, h => h
 | f + 1, [], acc, h => h
 | f + 1, i :: l, acc, h => by
  show SubH hp (Option.rec (Option.rec (qbb6 hp f l acc) (fun o => qbb6 hp f (nmO o ++ l) ((i, o) :: acc)) (qal9 hp i)) (fun _ => qbb6 hp f l acc) (qal9 acc i))
  cases qal9 acc i with
  | some o => exact qafw hp f l acc h
  | none =>
   cases ho : qal9 hp i with
   | some o => exact qafw hp f _ _ ⟨by rw [← qahc]; exact ho, h⟩
   | none => exact qafw hp f l acc h
theorem eqI_ok {a b : Int} (h : eqI a b = true) : a = b := by
 cases a <;> cases b <;> simp_all [eqI]
theorem qamg {f : SV → SV → Bool} (hf : ∀ x y, f x y = true → x = y) : ∀ {l m : List SV}, eqV.eqVs f l m = true → l = m
 | [], [], _ => rfl
 | x :: l, y :: m, h => by
  rw [eqV.eqVs, Bool.and_eq_true] at h
  rw [hf _ _ h.1, qamg hf h.2]
 | [], _ :: _, h => by simp [eqV.eqVs] at h
 | _ :: _, [], h => by simp [eqV.eqVs] at h
theorem qapk {f : SV → SV → Bool} (hf : ∀ x y, f x y = true → x = y) : ∀ {l m : List (List SV)}, eqV.eqVss f l m = true → l = m
 | [], [], _ => rfl
 | x :: l, y :: m, h => by
  rw [eqV.eqVss, Bool.and_eq_true] at h
  rw [qamg hf h.1, qapk hf h.2]
 | [], _ :: _, h => by simp [eqV.eqVss] at h
 | _ :: _, [], h => by simp [eqV.eqVss] at h
theorem qbe8 : ∀ (n : Nat) (x y : SV), eqV n x y = true → x = y
 | 0, x, y, h => by simp [eqV] at h
 | n + 1, x, y, h => by
  have ih := qbe8 n
  unfold eqV at h
  split at h
  all_goals first | rfl | (cases h; done) | skip
  all_goals try simp only [Bool.and_eq_true, beq_iff_eq, decide_eq_true_eq, Nat.beq_eq] at h
  ·rw [h]
  ·rw [h.1, eqI_ok h.2]
  ·rw [h.1, h.2]
  ·rw [h.1, h.2]
  ·rw [h.1.1.1, h.1.1.2, h.1.2, h.2]
  ·rw [qamg ih h]
  ·rw [qamg ih h]
  ·rw [h.1, qapk ih h.2]
theorem eqO_ok {x y : SObj} (h : eqO x y = true) : x = y := by
 unfold eqO at h
 split at h
 ·simp only [Bool.and_eq_true, Nat.beq_eq] at h
  rw [h.1, qamg (qbe8 9) h.2]
 ·simp only [Bool.and_eq_true, Nat.beq_eq] at h
  rw [h.1.1, h.1.2, qapk (qbe8 9) h.2]
 ·cases h
theorem qawr {h1 h2 : Hp} : ∀ (l : Hp) (id : Nat), id ∈ qbhi h2 h1 l → geth h2 id = geth h1 id
 | [], id, h => by cases h
 | p :: l, id, h => by
  have ih := qawr (h1 := h1) (h2 := h2) l id
  have h0 : id ∈ (Option.rec (qbhi h2 h1 l) (fun o => Option.rec (qbhi h2 h1 l) (fun o' => Bool.rec (qbhi h2 h1 l) (p.1 :: qbhi h2 h1 l) (eqO o o')) (qal9 h2 p.1)) (qal9 h1 p.1) : List Nat) := h
  cases h3 : qal9 h1 p.1 with
  | none => rw [h3] at h0; exact ih h0
  | some o =>
   rw [h3] at h0
   cases h4 : qal9 h2 p.1 with
   | none => rw [h4] at h0; exact ih h0
   | some o' =>
    rw [h4] at h0
    cases h5 : eqO o o' with
    | false => simp only [h5] at h0; exact ih h0
    | true =>
     simp only [h5] at h0
     rcases List.mem_cons.1 h0 with rfl | h0
     ·rw [← qahc, ← qahc, h3, h4, eqO_ok h5]
     ·exact ih h0
theorem qbb0 {h1 h2 : Hp} : ∀ id ∈ same h2 h1, geth h2 id = geth h1 id := fun id h => qawr h1 id h
theorem qaxg {β : Type} {bef : β → Nat} {cl : β → β → Bool} {b : β} : ∀ (l : List β) (n k : Nat), qbce bef cl b l n k = true → ∀ (i : Nat) a, i < n → l[i]? = some a → cl a b = true → (bef b).testBit (k + i) = true
 | [], n, k, _, i, a, _, ha, _ => by simp at ha
 | x :: l, 0, k, _, i, a, hi, _, _ => by omega
 | x :: l, n + 1, k, h, i, a, hi, ha, hc => by
  have h2 : (Bool.rec (Bool.rec (qbce bef cl b l n (k + 1)) false (cl x b)) (qbce bef cl b l n (k + 1)) (Nat.testBit (bef b) k) : Bool) = true := h
  have hrest : qbce bef cl b l n (k + 1) = true := by
   cases ht : Nat.testBit (bef b) k with
   | true => rw [ht] at h2; exact h2
   | false =>
    rw [ht] at h2
    cases hx : cl x b with
    | true => rw [hx] at h2; cases h2
    | false => rw [hx] at h2; exact h2
  cases i with
  | zero =>
   simp only [List.getElem?_cons_zero, Option.some.injEq] at ha
   subst ha
   cases ht : Nat.testBit (bef b) k with
   | true => simpa using ht
   | false => rw [ht] at h2; rw [hc] at h2; cases h2
  | succ i =>
   have := qaxg l n (k + 1) hrest i a (by omega) (by simpa using ha) hc
   rw [show k + (i + 1) = k + 1 + i by omega]; exact this
theorem qaq8 {β : Type} {bef : β → Nat} {cl : β → β → Bool} {all : List β} : ∀ (l : List β) (k : Nat), qaxh bef cl all l k = true → ∀ (j : Nat) b, l[j]? = some b → qbce bef cl b all (k + j) 0 = true
 | [], k, _, j, b, hb => by simp at hb
 | x :: l, k, h, j, b, hb => by
  have h2 : (Bool.rec false (qaxh bef cl all l (k + 1)) (qbce bef cl x all k 0) : Bool) = true := h
  cases hx : qbce bef cl x all k 0 with
  | false => rw [hx] at h2; cases h2
  | true =>
   rw [hx] at h2
   cases j with
   | zero =>
    simp only [List.getElem?_cons_zero, Option.some.injEq] at hb
    subst hb; exact hx
   | succ j =>
    have := qaq8 l (k + 1) h2 j b (by simpa using hb)
    rw [show k + (j + 1) = k + 1 + j by omega]; exact this
theorem qbcc {β : Type} {bef : β → Nat} {cl : β → β → Bool} {l : List β} (h : qaxh bef cl l l 0 = true) {i j : Nat} {a b : β} (hij : i < j) (ha : l[i]? = some a) (hb : l[j]? = some b) (hc : cl a b = true) : (bef b).testBit i = true := by
 have h1 := qaq8 l 0 h j b hb
 have h2 := qaxg l _ 0 h1 i a (by omega) ha hc
 rwa [Nat.zero_add] at h2
theorem qa5m {ops : List SOper} {tr : List Tch} (h1 : okS ops = true) (h2 : okD (ops.zip tr) = true) : qajd (ops.zip tr) = true := by
 unfold qajd
 refine List.all_eq_true.2 fun j hj => List.all_eq_true.2 fun i hi => ?_
 rw [List.mem_range] at hj hi
 have ha := List.getElem?_eq_getElem (l := ops.zip tr) (show i < (ops.zip tr).length by omega)
 have hb := List.getElem?_eq_getElem (l := ops.zip tr) hj
 rw [ha, hb]
 simp only
 generalize (ops.zip tr)[i] = a at ha
 generalize (ops.zip tr)[j] = b at hb
 cases hc : qbfh a b with
 | false => rfl
 | true =>
  have he : qbfh a b = (qbff a.1 b.1 || qbfg a b) := by unfold qbfh qbff qbfg; simp only [Bool.or_assoc] <;> rfl
  rw [he, Bool.or_eq_true] at hc
  have : b.1.bef.testBit i = true := by
   rcases hc with hc | hc
   ·exact qbcc h1 hi (List.getElem?_zip_eq_some.1 ha).1 (List.getElem?_zip_eq_some.1 hb).1 hc
   ·exact qbcc h2 hi ha hb hc
  rw [this]; rfl
theorem ltB_ok {m : Nat} {x : SV} (h : ltB m x = true) : renB (fun i => if i < m then i else m) x = x := by
 cases x <;> simp_all [ltB, renB]
theorem ltA_ok {m : Nat} {x : SV} (h : ltA m x = true) : renA (fun i => if i < m then i else m) x = x := by
 cases x <;> simp_all [ltA, renA, ltB, renB]
 rename_i cs
 exact (List.map_congr_left fun x hx => ltB_ok (h x hx)).trans (List.map_id' _)
theorem lt0_ok {m : Nat} {x : SV} (h : lt0 m x = true) : ren0 (fun i => if i < m then i else m) x = x := by
 cases x
 case ifc t x => simp only [lt0] at h; simp only [ren0, ltA_ok h]
 case fn f a b =>
  cases a
  ·cases b
   ·rfl
   ·simp [lt0, ltB] at h
  ·simp [lt0, ltB] at h
 all_goals simp_all [lt0, ltB, ren0]
theorem qaxn {m : Nat} {cs : List SV} (h : cs.all (lt0 m) = true) : cs.map (ren0 (fun i => if i < m then i else m)) = cs := by
 rw [List.map_congr_left fun x hx => lt0_ok (List.all_eq_true.1 h x hx), List.map_id']
theorem lt1_ok {m : Nat} {x : SV} (h : lt1 m x = true) : ren1 (fun i => if i < m then i else m) x = x := by
 cases x
 case agg cs => simp only [lt1] at h; simp only [ren1, qaxn h]
 case fn f a b => simp only [lt1, Bool.and_eq_true] at h; simp only [ren1, qaxn h.1, qaxn h.2]
 all_goals (simp only [lt1] at h; simp only [ren1]; exact lt0_ok h)
theorem qbcn {m : Nat} {cs : List SV} (h : cs.all (lt1 m) = true) : cs.map (ren1 (fun i => if i < m then i else m)) = cs := by
 rw [List.map_congr_left fun x hx => lt1_ok (List.all_eq_true.1 h x hx), List.map_id']
theorem lt2_ok {m : Nat} {x : SV} (h : lt2 m x = true) : ltV m x := by
 unfold ltV
 cases x
 case agg cs => simp only [lt2] at h; simp only [Go.Proofs.YtalejfkholifpaaGreat.ren, qbcn h]
 case tup cs => simp only [lt2] at h; simp only [Go.Proofs.YtalejfkholifpaaGreat.ren, qbcn h]
 all_goals (simp only [lt2] at h; simp only [Go.Proofs.YtalejfkholifpaaGreat.ren]; exact lt1_ok h)
theorem qarc {m : Nat} : ∀ {cs : List SV}, cs.all (lt2 m) = true → LtL m cs
 | [], _ => trivial
 | x :: xs, h => by
  rw [List.all_cons, Bool.and_eq_true] at h
  exact ⟨lt2_ok h.1, qarc h.2⟩
theorem ltO_ok {m : Nat} {o : SObj} (h : ltO m o = true) : LtO m o := by
 cases o with
 | cells t cs => exact (qarc (m := m) h).map
 | row e z es =>
  have : ∀ x ∈ es, x.map (Go.Proofs.YtalejfkholifpaaGreat.ren (fun i => if i < m then i else m)) = x := fun x hx => (qarc (m := m) (List.all_eq_true.1 h x hx)).map
  show es.map _ = es
  rw [List.map_congr_left this, List.map_id']
 | abs I => trivial
theorem qbcm {m : Nat} : ∀ {h : Hp}, ltHp m h = true → LtH m h
 | [], _ => trivial
 | (i, o) :: r, h => by
  unfold ltHp at h
  rw [List.all_cons, Bool.and_eq_true, Bool.and_eq_true] at h
  exact ⟨by simpa using h.1.1, ltO_ok h.1.2, qbcm h.2⟩
theorem qav5 : ∀ {h : Hp}, uniqB h = true → Uniq h
 | [], _ => trivial
 | (i, o) :: r, h => by
  rw [uniqB, Bool.and_eq_true] at h
  refine ⟨?_, qav5 h.2⟩
  have h1 := h.1
  split at h1
  ·rename_i h3; rw [← qahc]; exact h3
  ·cases h1
theorem qaep {P : Program} {N : Nat} : ∀ {b : Code} {c : SCode}, comp P N b = some c → c.erase = c
 | .skip, c, h => by simp only [comp, Option.some.injEq] at h; subst h; rfl
 | .region id ops d, c, h => by obtain ⟨l, rfl, _⟩ := qac0 h; rfl
 | .seq a b, c, h => by
  simp only [comp, Option.bind_eq_bind, Option.bind_eq_some_iff, Option.some.injEq] at h
  obtain ⟨x, h1, y, h2, rfl⟩ := h
  rw [SCode.erase, qaep h1, qaep h2]
 | .cond o a b, c, h => by
  simp only [comp, Option.bind_eq_bind, Option.bind_eq_some_iff, Option.some.injEq] at h
  obtain ⟨z, h0, x, h1, y, h2, rfl⟩ := h
  rw [SCode.erase, qaep h1, qaep h2]
 | .block id a, c, h => by
  simp only [comp, Option.bind_eq_bind, Option.bind_eq_some_iff, Option.some.injEq] at h
  obtain ⟨x, h1, rfl⟩ := h
  rw [SCode.erase, qaep h1]
 | .loop a, c, h => by
  simp only [comp, Option.bind_eq_bind, Option.bind_eq_some_iff, Option.some.injEq] at h
  obtain ⟨x, h1, rfl⟩ := h
  rw [SCode.erase, qaep h1]
 | .exit id, c, h => by simp only [comp, Option.some.injEq] at h; subst h; rfl
 | .ret, c, h => by simp only [comp, Option.some.injEq] at h; subst h; rfl
 | .label _, c, h => by simp only [comp, Option.some.injEq] at h; subst h; rfl
 | .rangeFunc .., c, h => by simp [comp] at h
 | .scope _, c, h => by simp [comp] at h
 | .goto _, c, h => by simp [comp] at h
 | .refuse _, c, h => by simp [comp] at h
def Good (P : Program) : Tsk → Ans → Prop
 | .code c s, .st e s' => ∀ (X : Cx) (Q : SExit → SSt → Prop), X.P = P → Q e s' → SWp X c Q s
 | .call g as_ h nx, .val r h2 nx' => nx < nx' ∧ Uniq h2 ∧ SCalls P g as_ h nx r h2 (nx' - nx)
 | .mcall nm t as_ h nx, .val r h2 nx' => ∃ g x az, as_ = x :: az ∧ (∀ gg, Meth P gg t x nm g x) ∧ nx < nx' ∧ Uniq h2 ∧ SCalls P g as_ h nx r h2 (nx' - nx)
 | _, _ => False
theorem qa52 (h : Hp) : qal9 h = geth h := funext fun t => qahc t h
theorem qa47 {v : SV} {ih : Tsk → Option Ans} {args : List SV} {dst : Option Nat} {s : SSt} {K : SSt → Tch → Option Ans} {a : Ans} (h : runCl v ih args dst s K = some a) : (∃ g first cap, v = .fn (.func g) first cap) ∨ ∃ nm t x az, v = .fn (.method nm) [] [] ∧ args = .ifc t x :: az := by
 cases v
 case fn f first cap =>
  cases f
  case func g => exact .inl ⟨g, first, cap, rfl⟩
  case method nm =>
   cases first with
   | cons _ _ => cases h
   | nil =>
    cases cap with
    | cons _ _ => cases h
    | nil =>
     cases args with
     | nil => cases h
     | cons y az =>
      cases y
      case ifc t x => exact .inr ⟨nm, t, x, az, rfl, rfl⟩
      all_goals cases h
  all_goals cases h
 all_goals cases h
theorem qbds {v : SV} {ih : Tsk → Option Ans} {want : Bool} {o : SOper} {s : SSt} {K : SSt → Tch → Option Ans} {a : Ans} (h : runG v ih want o s K = some a) : (∃ b, v = .bool b) ∨ v = .tup [] := by
 cases v
 case bool b => exact .inl ⟨b, rfl⟩
 case tup cs =>
  cases cs
  ·exact .inr rfl
  ·cases h
 all_goals cases h
theorem qbb2 {P : Program} {ih : Tsk → Option Ans} (hih : ∀ t a, ih t = some a → Good P t a) {o : SOper} {s : SSt} {K : SSt → Tch → Option Ans} {a : Ans} (h : run1 ih o s K = some a) : ∃ s' x, K s' x = some a ∧ ∀ K' : SSt → Tch → Prop, K' s' x → SOp1 P o s K' := by
 unfold run1 at h
 split at h
 ·rename_i f args hcal
  simp only [qas6] at h
  ·rcases qa47 h with ⟨g, first, cap, hf⟩ | ⟨nm, t, x, az, hf, ha⟩
   rotate_left 1
   ·rw [hf, ha] at h
    simp only [runCl, qafq f2_eq, qas5] at h
    split at h
    ·rename_i r h2 nx hr
     obtain ⟨g, x', az', e, g0, g1, g2, g3⟩ := hih _ _ hr
     injection e with e1 e2
     subst e1 e2
     refine ⟨_, _, h, fun K' hK => ?_⟩
     unfold SOp1
     rw [hcal]
     simp only [hf]
     have ha' : (args.map fun x : SX => x.ev s.sl) = .ifc t x :: az := ha
     rw [ha']
     refine ⟨[], x, g, _, r, h2, same h2 _, nx - s.nx, trivial, g0 _, g3, qafw _ _ _ _ trivial, g2, qbb0, ?_⟩
     rw [show s.nx + (nx - s.nx) = nx by omega]
     exact hK
    ·cases h
   rw [hf] at h
   simp only [runCl, qafq f2_eq, qas5] at h
   split at h
   ·rename_i r h2 nx hr
    obtain ⟨g1, g2, g3⟩ : _ ∧ _ ∧ _ := hih _ _ hr
    refine ⟨_, _, h, fun K' hK => ?_⟩
    unfold SOp1
    rw [hcal]
    simp only [hf]
    refine ⟨_, r, h2, same h2 _, nx - s.nx, g3, qafw _ _ _ _ trivial, g2, qbb0, ?_⟩
    rw [show s.nx + (nx - s.nx) = nx by omega]
    exact hK
   ·cases h
 ·rename_i hcal
  unfold runOp at h
  simp only [qas6, runF_eq, qa52] at h
  split at h
  ·rename_i v u nx hr
   rw [f2_eq, qaya, qahr] at h
   refine ⟨_, _, h, fun K' hK => ?_⟩
   unfold SOp1
   rw [hcal]
   simp only [hr]
   exact hK
  ·cases h
theorem runO_ok {P : Program} {ih : Tsk → Option Ans} (hih : ∀ t a, ih t = some a → Good P t a) {o : SOper} {os : List SOper} {s : SSt} {tr : List Tch} {K : SSt → Tch → Option Ans} {a : Ans} (h : runO ih o s K = some a) : ∃ s' x, K s' x = some a ∧ ∀ Q : SSt → List Tch → Prop, SOps P os s' (x :: tr) Q → SOps P (o :: os) s tr Q := by
 unfold runO at h
 split at h
 ·rename_i hg
  obtain ⟨s1, x, h1, h2⟩ := qbb2 hih h
  refine ⟨s1, x, h1, fun Q hQ => ?_⟩
  rw [SOps, hg]
  exact h2 _ hQ
 ·rename_i t want hg
  rw [qapg] at h
  rcases qbds h with ⟨b, hb⟩ | hb
  ·rw [hb] at h
   simp only [runG] at h
   split at h
   ·rename_i hbw
    obtain ⟨s1, x, h1, h2⟩ := qbb2 hih h
    refine ⟨s1, x, h1, fun Q hQ => ?_⟩
    rw [SOps, hg]
    simp only [hb]
    have e : b = want := by simpa using hbw
    exact ⟨fun _ => h2 _ hQ, fun hne => absurd e hne⟩
   ·rename_i hbw
    refine ⟨_, _, h, fun Q hQ => ?_⟩
    rw [SOps, hg]
    simp only [hb]
    have e : ¬ b = want := by simpa using hbw
    exact ⟨fun he => absurd he e, fun _ => hQ⟩
  ·rw [hb] at h
   refine ⟨_, _, h, fun Q hQ => ?_⟩
   rw [SOps, hg]
   simp only [hb]
   exact hQ
theorem qaqz {P : Program} {ih : Tsk → Option Ans} (hih : ∀ t a, ih t = some a → Good P t a) : ∀ {ops : List SOper} {s : SSt} {tr : List Tch} {K : SSt → List Tch → Option Ans} {a : Ans}, qbdr ih ops s tr K = some a → ∃ s' tr', K s' tr' = some a ∧ ∀ Q : SSt → List Tch → Prop, Q s' tr' → SOps P ops s tr Q
 | [], s, tr, K, a, h => ⟨s, tr, h, fun Q hQ => hQ⟩
 | o :: os, s, tr, K, a, h => by
  have h0 : runO ih o s (fun s' x => qbdr ih os s' (x :: tr) K) = some a := h
  obtain ⟨s1, x, h1, h2⟩ := runO_ok (os := os) (tr := tr) hih h0
  obtain ⟨s2, tr2, h3, h4⟩ := qaqz hih h1
  exact ⟨s2, tr2, h3, fun Q hQ => h2 Q (h4 Q hQ)⟩
theorem qagx {P : Program} {c : SCode} {s : SSt} {a : Ans} (h : Good P (.code c s) a) : ∃ e s', a = .st e s' := by
 cases a with
 | st e s' => exact ⟨e, s', rfl⟩
 | val r h2 nx => exact h.elim
theorem qbev {P : Program} {g : FuncId} {as_ : List SV} {hp : Hp} {nx : Nat} {a : Ans} (h : Good P (.call g as_ hp nx) a) : ∃ r h2 nx', a = .val r h2 nx' := by
 cases a with
 | st e s' => exact h.elim
 | val r h2 nx => exact ⟨r, h2, nx, rfl⟩
theorem qbdp {P : Program} {H : List (Nat × List (List Nat))} {kn : FuncId → List SV → Hp → Nat → Option Ans} {a : SCode} {n : Nat} (ih : ∀ m, m ≤ n → ∀ t r, run P H kn m t = some r → Good P t r) {s s' : SSt} {e : SExit} (h : run P H kn (n + 1) (.code (.loop a) s) = some (.st e s')) {X : Cx} {Q : SExit → SSt → Prop} (hP : X.P = P) (hQ : Q e s') : SWp X (.loop a) Q s := by
 refine qaig (fun t k => k ≤ n + 1 ∧ run P H kn k (.code (.loop a) t) = some (.st e s')) (n := n + 1) (Wk.refl X s) ⟨Nat.le_refl _, h⟩ ?_
 rintro t k ⟨hk, hr⟩
 cases k with
 | zero => cases hr
 | succ k =>
  have hr2 : step P H kn (run P H kn k) (.code (.loop a) t) = some (.st e s') := hr
  simp only [step, qa4p] at hr2
  cases hx : run P H kn k (.code a t) with
  | none => rw [hx] at hr2; cases hr2
  | some y =>
   have hg := ih k (by omega) _ _ hx
   obtain ⟨e1, s1, rfl⟩ := qagx hg
   rw [hx] at hr2
   cases e1 with
   | normal => exact hg X _ hP ⟨s1, k, Wk.refl X s1, ⟨by omega, hr2⟩, by omega⟩
   | exit i => simp only [Option.some.injEq, Ans.st.injEq] at hr2; obtain ⟨rfl, rfl⟩ := hr2; exact hg X _ hP hQ
   | ret => simp only [Option.some.injEq, Ans.st.injEq] at hr2; obtain ⟨rfl, rfl⟩ := hr2; exact hg X _ hP hQ
theorem qagl {α : Type} : ∀ (c : SCode) (h : List (List Nat)) (k : SCode → List (List Nat) → α), ∃ c' h', annot c h k = k c' h' ∧ c'.erase = c.erase
 | .skip, h, k => ⟨_, _, rfl, rfl⟩
 | .exit i, h, k => ⟨_, _, rfl, rfl⟩
 | .ret, h, k => ⟨_, _, rfl, rfl⟩
 | .reg d ops l, [], k => ⟨_, _, rfl, rfl⟩
 | .reg d ops l, x :: t, k => ⟨_, _, rfl, rfl⟩
 | .seq a b, h, k => by
  obtain ⟨a', h1, e1, e2⟩ := qagl a h fun a h => annot b h fun b h => k (.seq a b) h
  obtain ⟨b', h2, e3, e4⟩ := qagl b h1 fun b h => k (.seq a' b) h
  exact ⟨.seq a' b', h2, e1.trans e3, by rw [SCode.erase, SCode.erase, e2, e4]⟩
 | .cond x a b, h, k => by
  obtain ⟨a', h1, e1, e2⟩ := qagl a h fun a h => annot b h fun b h => k (.cond x a b) h
  obtain ⟨b', h2, e3, e4⟩ := qagl b h1 fun b h => k (.cond x a' b) h
  exact ⟨.cond x a' b', h2, e1.trans e3, by rw [SCode.erase, SCode.erase, e2, e4]⟩
 | .block i a, h, k => by
  obtain ⟨a', h1, e1, e2⟩ := qagl a h fun a h => k (.block i a) h
  exact ⟨_, h1, e1, by rw [SCode.erase, SCode.erase, e2]⟩
 | .loop a, h, k => by
  obtain ⟨a', h1, e1, e2⟩ := qagl a h fun a h => k (.loop a) h
  exact ⟨_, h1, e1, by rw [SCode.erase, SCode.erase, e2]⟩
theorem qbe6 {P : Program} {H : List (Nat × List (List Nat))} {g : FuncId} {fd : FD} (h : fdata P H g = some fd) : ∃ fn b, P.funcs[g]? = some fn ∧ fn.body = some b ∧ (fn.name == "runtime.NumGoroutine") = false ∧ fn.ntmps = fd.N ∧ comp P fd.N b = some fd.c.erase ∧ fn.results.toList = fd.res := by
 unfold fdata at h
 split at h
 ·rename_i fn hf
  split at h
  ·rename_i b hb
   split at h
   ·cases h
   ·rename_i hn
    split at h
    ·rename_i c hc
     obtain ⟨c', h', e1, e2⟩ := qagl c (look H g) fun c _ => some (FD.mk fn.ntmps c fn.results.toList)
     rw [e1] at h
     cases h
     exact ⟨fn, b, hf, hb, hn, rfl, by rw [e2, qaep hc]; exact hc, rfl⟩
    ·cases h
  ·cases h
 ·cases h
theorem qa4y {P : Program} {H : List (Nat × List (List Nat))} {kn : FuncId → List SV → Hp → Nat → Option Ans} (hmx : P.follows .mixedOrders = true) {n : Nat} (ih : ∀ m, m ≤ n → ∀ t r, run P H kn m t = some r → Good P t r) {c : SCode} {s : SSt} {r : Ans} (h : run P H kn (n + 1) (.code c s) = some r) : Good P (.code c s) r := by
 have h2 : step P H kn (run P H kn n) (.code c s) = some r := h
 have ih0 := ih n (Nat.le_refl n)
 cases c with
 | skip => simp only [step, qa4p, Option.some.injEq] at h2; subst h2; exact fun X Q hP hQ => qaah hQ
 | exit i => simp only [step, qa4p, Option.some.injEq] at h2; subst h2; exact fun X Q hP hQ => qaaj hQ
 | ret => simp only [step, qa4p, Option.some.injEq] at h2; subst h2; exact fun X Q hP hQ => qabl hQ
 | reg d ops live =>
  simp only [step, qa4p] at h2
  obtain ⟨s', tr, h3, h4⟩ := qaqz ih0 h2
  split at h3
  ·rename_i hd
   rw [qbe7] at h3
   cases h3
   intro X Q hP hQ
   subst hP
   cases d with
   | false => exact qaao (h4 _ hQ)
   | true =>
    simp only [Bool.not_true, Bool.false_or, Bool.and_eq_true] at hd
    exact qaak hmx (h4 _ ⟨qa5m hd.1 hd.2, hQ⟩)
  ·cases h3
 | seq a b =>
  simp only [step, qa4p, qas6] at h2
  cases hx : run P H kn n (.code a s) with
  | none => rw [hx] at h2; cases h2
  | some y =>
   have hg := ih0 _ _ hx
   obtain ⟨e1, s1, rfl⟩ := qagx hg
   rw [hx] at h2
   cases e1 with
   | normal =>
    have hg2 := ih0 _ _ h2
    obtain ⟨e, s', rfl⟩ := qagx hg2
    exact fun X Q hP hQ => qabv (hg X _ hP (hg2 X Q hP hQ))
   | exit i => cases h2; exact fun X Q hP hQ => qabv (hg X _ hP hQ)
   | ret => cases h2; exact fun X Q hP hQ => qabv (hg X _ hP hQ)
 | cond x a b =>
  simp only [step, qa4p, qas6] at h2
  split at h2
  ·rename_i hb
   have hg := ih0 _ _ h2
   obtain ⟨e, s', rfl⟩ := qagx hg
   exact fun X Q hP hQ => qabd hb (fun _ => hg X Q hP hQ) (fun h => by cases h)
  ·rename_i hb
   have hg := ih0 _ _ h2
   obtain ⟨e, s', rfl⟩ := qagx hg
   exact fun X Q hP hQ => qabd hb (fun h => by cases h) (fun _ => hg X Q hP hQ)
  ·cases h2
 | block id a =>
  simp only [step, qa4p, qas6] at h2
  cases hx : run P H kn n (.code a s) with
  | none => rw [hx] at h2; cases h2
  | some y =>
   have hg := ih0 _ _ hx
   obtain ⟨e1, s1, rfl⟩ := qagx hg
   rw [hx] at h2
   cases e1 with
   | normal => cases h2; exact fun X Q hP hQ => qabj (hg X _ hP hQ)
   | exit i =>
    simp only at h2
    split at h2
    ·rename_i he
     cases h2
     intro X Q hP hQ
     refine qabj (hg X _ hP ?_)
     show if i = id then Q .normal s1 else Q (.exit i) s1
     rw [if_pos (Nat.eq_of_beq_eq_true he)]; exact hQ
    ·rename_i he
     cases h2
     intro X Q hP hQ
     refine qabj (hg X _ hP ?_)
     show if i = id then Q .normal s1 else Q (.exit i) s1
     rw [if_neg (Nat.ne_of_beq_eq_false he)]; exact hQ
   | ret => cases h2; exact fun X Q hP hQ => qabj (hg X _ hP hQ)
 | loop a =>
  have : ∃ e s', r = .st e s' := by
   simp only [step, qa4p, qas6] at h2
   cases hx : run P H kn n (.code a s) with
   | none => rw [hx] at h2; cases h2
   | some y =>
    obtain ⟨e1, s1, rfl⟩ := qagx (ih0 _ _ hx)
    rw [hx] at h2
    cases e1 with
    | normal => exact qagx (ih0 _ _ h2)
    | exit i => cases h2; exact ⟨_, _, rfl⟩
    | ret => cases h2; exact ⟨_, _, rfl⟩
  obtain ⟨e, s', rfl⟩ := this
  exact fun X Q hP hQ => qbdp ih h hP hQ
theorem qa4z {P : Program} {H : List (Nat × List (List Nat))} {kn : FuncId → List SV → Hp → Nat → Option Ans} (hkn : ∀ g as_ h nx a, kn g as_ h nx = some a → Good P (.call g as_ h nx) a) {n : Nat} (ih : ∀ t r, run P H kn n t = some r → Good P t r) {g : FuncId} {as_ : List SV} {hp : Hp} {nx : Nat} {a : Ans} (h : run P H kn (n + 1) (.call g as_ hp nx) = some a) : Good P (.call g as_ hp nx) a := by
 have h2 : step P H kn (run P H kn n) (.call g as_ hp nx) = some a := h
 change (match kn g as_ hp nx with | some a => some a | none => stepF P H (run P H kn n) g as_ hp nx) = some a at h2
 split at h2
 ·rename_i a' hk
  cases h2
  exact hkn _ _ _ _ _ hk
 unfold stepF at h2
 split at h2
 ·rename_i fd hfd
  obtain ⟨fn, b, hf, hb, hn, hN, hc, hres⟩ := qbe6 hfd
  split at h2
  ·rename_i hchk
   simp only [Bool.and_eq_true, Nat.ble_eq] at hchk
   obtain ⟨⟨hl, hla⟩, hlh⟩ := hchk
   have fin : ∀ e s', run P H kn n (.code fd.c ⟨argS 0 as_, hp, nx⟩) = some (.st e s') → (∀ i, e ≠ .exit i) → leave P fd.res hp nx s' = some a → Good P (.call g as_ hp nx) a := by
    intro e s' hx hne h3
    unfold leave at h3
    have hg := ih _ _ hx
    split at h3
    ·rename_i r hr
     rw [f2_eq, qas5] at h3
     split at h3
     ·rename_i hu
      simp only [Bool.and_eq_true, Nat.ble_eq] at hu
      rw [qahr] at h3
      cases h3
      refine ⟨by omega, qav5 hu.1, ?_⟩
      refine qalm (s'.nx + 1 - nx) (by omega) hf hb hN hn (c := fd.c) hc hl (qarc hla) (qbcm hlh) fun X hP hYtalejfkholifpaaGreat hm => ?_
      refine hg X _ hP ?_
      have q : ∃ s'', Wk X s' s'' ∧ qage X.P s'' fn.results.toList = some r ∧ SubH s''.hp (qbb6 s'.hp 100000 (nm2 r ++ idsH hp) []) ∧ s''.nx ≤ nx + (s'.nx + 1 - nx) :=
       ⟨s', Wk.refl X s', by rw [hP, hres]; exact hr, qafw _ _ _ _ trivial, by omega⟩
      cases e with
      | normal => exact q
      | exit i => exact absurd rfl (hne i)
      | ret => exact q
     ·cases h3
    ·cases h3
   cases hx : run P H kn n (.code fd.c ⟨argS 0 as_, hp, nx⟩) with
   | none => rw [hx] at h2; cases h2
   | some y =>
    obtain ⟨e, s', rfl⟩ := qagx (ih _ _ hx)
    rw [hx] at h2
    cases e with
    | exit i => cases h2
    | normal => exact fin _ _ hx (fun i h => by cases h) h2
    | ret => exact fin _ _ hx (fun i h => by cases h) h2
  ·cases h2
 ·cases h2
theorem qawe {P : Program} {H : List (Nat × List (List Nat))} {kn : FuncId → List SV → Hp → Nat → Option Ans} {n : Nat} (ih : ∀ t r, run P H kn n t = some r → Good P t r) {nm : String} {t : TypeId} {as_ : List SV} {hp : Hp} {nx : Nat} {a : Ans} (h : run P H kn (n + 1) (.mcall nm t as_ hp nx) = some a) : Good P (.mcall nm t as_ hp nx) a := by
 have e : run P H kn (n + 1) (.mcall nm t as_ hp nx) = step P H kn (run P H kn n) (.mcall nm t as_ hp nx) := rfl
 rw [e] at h
 clear e
 simp only [step] at h
 have key : ∀ g x az, run P H kn n (.call g (x :: az) hp nx) = some a → (∀ gg, Meth P gg t x nm g x) → Good P (.mcall nm t (x :: az) hp nx) a := fun g x az hr hm => by
  have h1 := ih _ _ hr
  obtain ⟨r, h2, nx', rfl⟩ := qbev h1
  exact ⟨g, x, az, rfl, hm, h1⟩
 split at h
 ·rename_i x az g e h1 h2; exact key _ _ _ h fun gg => qag9 h1 h2
 ·rename_i x az g h1 h2; exact key _ _ _ h fun gg => qacw h1 h2
 ·cases h
theorem qbdq {P : Program} {H : List (Nat × List (List Nat))} {kn : FuncId → List SV → Hp → Nat → Option Ans} (hmx : P.follows .mixedOrders = true) (hkn : ∀ g as_ h nx a, kn g as_ h nx = some a → Good P (.call g as_ h nx) a) (n : Nat) : ∀ t a, run P H kn n t = some a → Good P t a := by
 induction n using Nat.strongRecOn with
 | ind n ih =>
  intro t a h
  cases n with
  | zero => cases h
  | succ n =>
   cases t with
   | code c s => exact qa4y hmx (fun m hm => ih m (by omega)) h
   | call g as_ hp nx => exact qa4z hkn (ih n (by omega)) h
   | mcall nm t as_ hp nx => exact qawe (ih n (by omega)) h
noncomputable def runB (P : Program) (H : List (Nat × List (List Nat))) (kn : FuncId → List SV → Hp → Nat → Option Ans) (n : Nat) (g : FuncId) : Bool := match run P H kn n (.call g [] [] 0) with
 | some (.val (.bool true) [] _) => true
 | _ => false
theorem qasi {P : Program} {g : FuncId} {as_ : List SV} {r : SV} {m : Nat} (h3 : SCalls P g as_ [] 0 r [] m) (ha : ∀ σ, as_.map (Go.Proofs.YtalejfkholifpaaGreat.ren σ) = as_) (hr : ∀ σ, Go.Proofs.YtalejfkholifpaaGreat.ren σ r = r) (q : Nat) : SCalls P g as_ [] q r [] := by
 refine ⟨h3.1, fun O ρ fp w vs hok hargs hfr => ?_⟩
 have ha' : Reps w (fun k => O k ∨ Live [] fp k) noPl as_ vs := by
  have h1 : Reps w (fun k => O k ∨ Live [] fp k) ρ (as_.map (Go.Proofs.YtalejfkholifpaaGreat.ren fun _ => q)) vs := by rw [ha]; exact hargs
  have h2 := qad1 h1
  have e : (fun id => ρ ((fun _ => q) id)) = noPl := by funext id; exact hfr q (Nat.le_refl _) (by omega)
  rw [e] at h2; exact h2
 have hE : HeapOk O noPl fp [] w := ⟨fun id o ho => by simp [geth] at ho, fun id id' o o' _ ho => by simp [geth] at ho, fun k ⟨id, o, ho, _⟩ => by simp [geth] at ho, hok.O_lt⟩
 refine (h3.2 O noPl fp w vs hE ha' (fun _ _ _ => rfl)).mono ?_
 rintro e w' ⟨v, ρ', fp', rfl, q1, q2, q3, q4, q5, q6⟩
 have hfr8 : ρ' m = none := by
  cases e : ρ' m with
  | none => rfl
  | some p =>
   rcases q5 m (by rw [e]; simp) with h3 | h3
   ·exact absurd rfl h3
   ·omega
 have hv : RepV w' (fun k => O k ∨ Live [] fp' k) noPl r v := by
  have h1 : RepV w' (fun k => O k ∨ Live [] fp' k) ρ' (Go.Proofs.YtalejfkholifpaaGreat.ren (fun _ => m) r) v := by rw [hr]; exact q2
  have h2 := qaik h1
  have e : (fun id => ρ' ((fun _ => m) id)) = noPl := by funext id; exact hfr8
  rw [e] at h2; exact h2
 refine ⟨v, ρ, fp, rfl, ⟨fun id o ho => by simp [geth] at ho, fun id id' o o' _ ho => by simp [geth] at ho, fun k ⟨id, o, ho, _⟩ => by simp [geth] at ho, q1.O_lt⟩, ?_, q3, fun _ _ h => h, fun _ h => .inl h, fun id o ho => by simp [geth] at ho⟩
 refine hv.lift.weaken fun k hk _ => hk.imp (fun h => h) fun ⟨id, o, ho, _⟩ => by simp [geth] at ho
theorem qa46 {P : Program} {H : List (Nat × List (List Nat))} {kn : FuncId → List SV → Hp → Nat → Option Ans} (hmx : P.follows .mixedOrders = true) (hkn : ∀ g as_ h nx a, kn g as_ h nx = some a → Good P (.call g as_ h nx) a) {n : Nat} {g : FuncId} (h : runB P H kn n g = true) (q : Nat) : SCalls P g [] [] q (.bool true) [] := by
 unfold runB at h
 split at h
 ·rename_i nx hr
  obtain ⟨_, _, h3⟩ : _ ∧ _ ∧ _ := qbdq hmx hkn n _ _ hr
  exact qasi h3 (fun _ => rfl) (fun _ => rfl) q
 ·cases h
def kn0 : FuncId → List SV → Hp → Nat → Option Ans := fun _ _ _ _ => none
theorem kn0_ok {P : Program} : ∀ g as_ h nx a, kn0 g as_ h nx = some a → Good P (.call g as_ h nx) a := fun _ _ _ _ _ h => by cases h
end Go.Proofs.YtalejfkholifpaaGreat
namespace Go.Proofs.YtalejfkholifpaaGreat
set_option linter.all false
open Go.RowKit
def sthints : List (Nat × List (List Nat)) := [(6,[[],[1],[3,2],[23,2],[0],[2,4],[2,4,6,5],[4,6,8,5,7],[0]]),(9,[[2,7,3,1],[8,2,7,3,1],[17,8,2,7,3,1],[6,7],[2,7,9,3,1],[2,7,9,3,1],[2,7,9,3,1],[7,9,3,1,41,43,42],[44,42,41,43,1,3,9,7],[11,43,7,9,3,1,41,42],[43,7,9,3,1,41,42],[7,9,3,1,41,43,42],[62,1,3,9,7],[73,62,1,3,9,7],[9,7],[85,1,3,9,7],[9,7],[9,7],[6,7]]),(22,[[1,3,2],[11,1,3,2],[6],[25,1,3,2],[6],[56,1,3,2],[6],[3,2,65,67,66],[68,66,65,67,2,3],[8,67,3,2,65,66],[76,67,3,2,65,66],[6],[3,2,65,67,66],[2,3,79,81,80],[82,80,79,81,3,2],[10,81,2,3,79,80],[92,81,2,3,79,80],[6],[2,3,79,81,80],[6]]),(37,[[4,1,2,3],[16,1,2,3],[8],[3,9],[26,3,9],[8],[27,9,29,28],[30,28,9,27,29],[11,10,29,27,9,28],[40,29,27,9,28],[8],[27,9,29,28],[8]]),(48,[[0,1],[4]]),(57,[[1,0],[1,0,8,7],[9,7,0,1,8],[5,8,1,0,7],[16,5,8,1,0,7],[4],[1,0,8,7],[4]]),(31,[[0],[4,0],[2],[2]]),(32,[[0],[4,0],[2],[2]]),(34,[[0,1],[4]]),(10,[[0,3],[5,0,3],[11,5,0,3],[4],[6,0,3],[27,6,0,3],[4],[4]]),(36,[[0,3],[0,3,5],[12,0,3,5],[4],[36,0,3,5],[4],[63],[4],[4]]),(38,[[1,0],[7,0,9,8],[10,8,0,7,9],[6,5,9,7,0,8],[23,9,7,0,8],[4],[7,0,9,8],[4]]),(49,[[0],[8,0],[2],[2]]),(116,[[2,3],[4]]),(83,[[1,2],[2]]),(122,[[1,2,7,0],[15,1,2,7,0],[8],[9,1,2,7,0],[27,1,2,7,0],[8],[36,1,2,7,0],[8],[10,7,0],[0],[],[8]]),(127,[[0,2,1],[6]]),(128,[[0,1,3,2],[9,0,1,3,2],[9,0,1,3,10,2],[22,2,3,1,0,10,9],[11,10,0,1,3,2],[39,11,10,0,1,3,2],[11,10,0,1,3,2],[10,9,0,1,3,2],[9,0,1,3,10,2],[8]]),(131,[[1,0,2],[6]]),(14,[[1,0,4],[20,1,0,4],[7,6,0,4],[30,6,0,4],[4,5],[4,5]]),(121,[[2,1,4],[6,8,4],[4,5]]),(126,[[4,0,1],[18,4,0,1],[4,5,6],[4,7,0,1],[4,8,7,0,1],[4,8,7,9,0,1],[4,8,7,9,0,1,10],[25,1,0,10,9,7,8,4],[31,9,10,4,8,7,0,1],[9,10,4,8,7,0,1],[39,9,10,4,8,7,0,1],[10,4,8,7,9,0,1],[4,8,7,9,0,1,10],[50,7,8,4],[4,5,6],[4,5,6]])]
theorem mixedS : Tryz.prog.follows .mixedOrders = true := by kernel_rfl
theorem qaqv (q : Nat) : SCalls Tryz.prog 6 [] [] q (.bool true) [] := qa46 mixedS kn0_ok (H := sthints) (n := 2000) (by kernel_rfl) q
end Go.Proofs.YtalejfkholifpaaGreat
namespace Go.Proofs.YtalejfkholifpaaGreat
set_option linter.all false
open Go.RowKit
abbrev qa8o : List SOper := [Oa 5 (.box 26 (.t 0)), Oa 10 (.mv (.c (.bool false)))]
abbrev qa8n : List SOper := [Oc 24 6 [], Oa 25 (.un .not (.t 24))]
abbrev qa8m : List SOper := [Oa 10 (.mv (.c (.bool false)))]
abbrev qa8l : List SOper := [Sa 26 6 5, Ma 27 1, Ma 28 2, Qc 29 7 [26, 27, 28], Ma 30 29, Oe 31 (Pm 3) 30 false, Qi 32 8 [31] 30 false 0, Ta 33 30 32]
abbrev qa8k : List SOper := [Oa 10 (.mv (.c (.bool true)))]
abbrev qa8j : List SOper := [Sa 35 6 5, Ma 36 1, Ma 37 2, Qc 38 9 [35, 36, 37], Ma 34 38, Oa 39 (.extr (.t 34) 0), Oa 40 (.extr (.t 34) 1), Oa 12 (.alloc 34 [(.int .i64 0), (.int .i64 0)]), Ma 11 39, Va 2 12 40]
abbrev qa8i : List SOper := [Sa 42 6 5, Ma 43 1, Ma 44 2, Qc 45 9 [42, 43, 44], Ma 41 45, Oa 46 (.extr (.t 41) 0), Oa 47 (.extr (.t 41) 1), Oa 14 (.alloc 34 [(.int .i64 0), (.int .i64 0)]), Ma 13 46, Va 2 14 47]
abbrev qa8h : List SOper := [Fa 48 0 12, La 49 48, Ca 50 .neq 49 0, Ma 51 50, Oe 52 (Pf 0 14) 51 false, Oe 53 (Pa 52) 51 false, Oe 54 (Pc .neq 53 0) 51 false, Ta 55 51 54]
abbrev qa8g : List SOper := [Sa 56 2 12, Sa 57 2 14, Oa 58 (.eqs [1, 1] false (.t 56) (.t 57)), Ma 10 58]
abbrev qa1o : List SOper := [Ka 15 0]
abbrev qa1n : List SOper := [Ma 59 15, Ma 60 3, Na 61 60, Ba 62 .lss 59 61]
abbrev qa1m : List SOper := [Ma 65 3, Ma 66 15, Ia 67 7 65 66, Fa 68 0 67, La 69 68]
abbrev qa1l : List SOper := [Ca 71 .eql 69 0, Ma 70 71]
abbrev qa1k : List SOper := [Ma 72 11, Ma 73 3, Ma 74 15, Ia 75 7 73 74, Fa 76 1 75, Sa 77 6 76, Qc 78 10 [72, 77]]
abbrev qa1j : List SOper := [Ca 80 .eql 69 1, Ma 79 80]
abbrev qa1i : List SOper := [Ma 81 11, Ma 82 3, Ma 83 15, Ia 84 7 82 83, Fa 85 1 84, Sa 86 6 85, Qc 87 11 [81, 86]]
abbrev qa1h : List SOper := [Ca 89 .eql 69 2, Ma 88 89]
abbrev qa1g : List SOper := [Ma 90 11, Ma 91 3, Ma 92 15, Ia 93 7 91 92, Fa 94 1 93, Sa 95 6 94, Qc 96 12 [90, 95]]
abbrev qa1f : List SOper := [Ma 63 15, Ca 64 .add 63 1, Ma 15 64]
def qar1 : SCode := (.seq (Sf qa1n [3, 4, 11, 13, 15, 62] (Ce 62 0)) (.seq (.block 1 (Sf qa1m [3, 4, 11, 13, 15, 69] (.block 2 (Sf qa1l [3, 4, 11, 13, 15, 69, 70] (Cn 70 (Rf qa1k [3, 4, 11, 13, 15]) (Sf qa1j [3, 4, 11, 13, 15, 69, 79] (Cn 79 (Rf qa1i [3, 4, 11, 13, 15]) (Sf qa1h [3, 4, 11, 13, 15, 88] (Cn 88 (Rf qa1g [3, 4, 11, 13, 15]) .skip))))))))) (Rf qa1f [3, 4, 11, 13, 15])))
abbrev qa1e : List SOper := [Ma 97 11, Qc 98 13 [97], Ma 16 98]
abbrev qa1d : List SOper := [Ka 17 0]
abbrev qa1c : List SOper := [Ma 99 17, Ma 100 16, Na 101 100, Ba 102 .lss 99 101]
abbrev qa1b : List SOper := [Ma 105 17, Ma 106 4, Oa 107 (.conv .u64 (.t 106)), Ma 108 16, Na 109 108, Oa 110 (.conv .u64 (.t 109)), Ba 111 .rem 107 110, Oa 112 (.conv .i64 (.t 111)), Ba 113 .add 105 112, Ma 114 16, Na 115 114, Ba 116 .rem 113 115, Ma 18 116]
abbrev qa1a : List SOper := [Ma 117 13, Ma 118 16, Ma 119 18, Ia 120 6 118 119, Sa 121 6 120, Qc 122 10 [117, 121], Ca 123 .neq 122 0]
abbrev qa09 : List SOper := [Oa 10 (.mv (.c (.bool false)))]
abbrev qa08 : List SOper := [Ma 103 17, Ca 104 .add 103 1, Ma 17 104]
def qar0 : SCode := (.seq (Sf qa1c [3, 4, 11, 13, 16, 17, 102] (Ce 102 3)) (.seq (.block 4 (Sf qa1b [3, 4, 11, 13, 16, 17, 18] (Sf qa1a [3, 4, 11, 13, 16, 17, 123] (Cn 123 (Sf qa09 [10] .ret) .skip)))) (Rf qa08 [3, 4, 11, 13, 16, 17])))
abbrev qa07 : List SOper := [Ka 19 0]
abbrev qa06 : List SOper := [Ma 124 19, Ma 125 3, Na 126 125, Ba 127 .lss 124 126]
abbrev qa05 : List SOper := [Ma 131 11, Ma 132 3, Ma 133 19, Ia 134 7 132 133, Fa 135 1 134, Fa 136 0 135, La 137 136, Qc 138 14 [131, 137], Ma 130 138, Oa 139 (.extr (.t 130) 0), Oa 140 (.extr (.t 130) 1), Oa 20 (.alloc 46 [(.int .i64 0), .nilsl]), Va 2 20 139, Ma 21 140]
abbrev qa04 : List SOper := [Ma 142 13, Ma 143 3, Ma 144 19, Ia 145 7 143 144, Fa 146 1 145, Fa 147 0 146, La 148 147, Qc 149 14 [142, 148], Ma 141 149, Oa 150 (.extr (.t 141) 0), Oa 151 (.extr (.t 141) 1), Oa 22 (.alloc 46 [(.int .i64 0), .nilsl]), Va 2 22 150, Ma 23 151]
abbrev qa03 : List SOper := [Ma 152 21, Ma 153 23, Oa 154 (.eq 0 true (.t 152) (.t 153)), Ma 155 154, Oe 156 (Ps 2 20) 155 false, Oe 157 (Ps 2 22) 155 false, Qi 158 15 [156, 157] 155 false 0, Oe 159 (.un .not (.t 158)) 155 false, Ta 160 155 159]
abbrev qa02 : List SOper := [Oa 10 (.mv (.c (.bool false)))]
abbrev qa01 : List SOper := [Ma 128 19, Ca 129 .add 128 1, Ma 19 129]
def qarz : SCode := (.seq (Sf qa06 [3, 11, 13, 16, 19, 127] (Ce 127 5)) (.seq (.block 6 (Sf qa05 [3, 11, 13, 16, 19, 20, 21] (Sf qa04 [3, 11, 13, 16, 19, 20, 21, 22, 23] (Sf qa03 [3, 11, 13, 16, 19, 160] (Cn 160 (Sf qa02 [10] .ret) .skip))))) (Rf qa01 [3, 11, 13, 16, 19])))
abbrev qa00 : List SOper := [Ma 161 13, Qc 162 13 [161], Ma 163 16, Qc 164 16 [162, 163], Ma 165 164, Oe 166 (Pm 11) 165 true, Qi 167 17 [166] 165 true 0, Oe 168 (Pm 13) 165 true, Qi 169 17 [168] 165 true 0, Oe 170 (Pb .eql 167 169) 165 true, Ua 171 165 170, Ma 10 171]
def c_sset : SCode := (Sf qa8o [1, 2, 3, 4, 5] (.seq (Sf qa8n [1, 2, 3, 4, 5, 25] (Cn 25 (Sf qa8m [10] .ret) .skip)) (.seq (Sf qa8l [1, 2, 3, 4, 5, 33] (Cn 33 (Sf qa8k [10] .ret) .skip)) (Sf qa8j [1, 2, 3, 4, 5, 11, 12] (Sf qa8i [3, 4, 11, 12, 13, 14] (.seq (Sf qa8h [3, 4, 11, 12, 13, 14, 55] (Cn 55 (Sf qa8g [10] .ret) .skip)) (.seq (Sf qa1o [3, 4, 11, 13, 15] (Bl 0 qar1)) (Sf qa1e [3, 4, 11, 13, 16] (.seq (Sf qa1d [3, 4, 11, 13, 16, 17] (Bl 3 qar0)) (.seq (Sf qa07 [3, 11, 13, 16, 19] (Bl 5 qarz)) (Sf qa00 [10] .ret)))))))))))
theorem qatj : comp Tryz.prog 172 ((Tryz.f3.body).getD .skip) = some c_sset.erase := by kernel_rfl
abbrev qauz : List SOper := [Oa 3 (.box 26 (.t 0)), Oa 6 (.mv (.c (.bool false)))]
abbrev qauy : List SOper := [Fa 8 2 3, La 9 8, Na 10 9, Ca 11 .gtr 10 50, Ma 12 11, Oe 13 (Pf 5 3) 12 false, Oe 14 (Pa 13) 12 false, Oe 15 (Pn 14) 12 false, Oe 16 (Pc .gtr 15 50) 12 false, Ta 17 12 16, Ma 18 17, Oe 19 (Pm 1) 18 false, Oe 20 (Pn 19) 18 false, Oe 21 (Pc .gtr 20 50) 18 false, Ta 22 18 21, Ma 23 22, Oe 24 (Pm 2) 23 false, Oe 25 (Pn 24) 23 false, Oe 26 (Pc .gtr 25 50) 23 false, Ta 27 23 26]
abbrev qaux : List SOper := [Oa 6 (.mv (.c (.bool true)))]
abbrev qauw : List SOper := [Ka 7 0]
abbrev qauv : List SOper := [Ma 28 7, Ma 29 2, Na 30 29, Ba 31 .lss 28 30]
abbrev qauu : List SOper := [Ma 34 2, Ma 35 7, Ia 36 2 34 35, Fa 37 0 36, La 38 37, Na 39 38, Ca 40 .gtr 39 50]
abbrev qaut : List SOper := [Oa 6 (.mv (.c (.bool true)))]
abbrev qaus : List SOper := [Ma 32 7, Ca 33 .add 32 1, Ma 7 33]
def qaj6 : SCode := (.seq (Sf qauv [2, 7, 31] (Ce 31 0)) (.seq (.block 1 (Sf qauu [2, 7, 40] (Cn 40 (Sf qaut [6] .ret) .skip))) (Rf qaus [2, 7])))
abbrev qaur : List SOper := [Oa 6 (.mv (.c (.bool false)))]
def c_tgreat : SCode := (Sf qauz [1, 2, 3] (.seq (Sf qauy [2, 27] (Cn 27 (Sf qaux [6] .ret) .skip)) (.seq (Sf qauw [2, 7] (Bl 0 qaj6)) (Sf qaur [6] .ret))))
theorem qamo : comp Tryz.prog 41 ((Tryz.f7.body).getD .skip) = some c_tgreat.erase := by kernel_rfl
end Go.Proofs.YtalejfkholifpaaGreat
