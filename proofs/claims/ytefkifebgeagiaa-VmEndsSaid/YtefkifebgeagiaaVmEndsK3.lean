/-
  Texts joined: XShQ XShW XShX XShZ XShPK XShPL XFirst XWordP XEnt XTabA XGrdA XShY XGrdC XGrdD XBitsP XWordQ XGrdH XWordW XWordV XWordS XWordT XWordR XWordC XWordH. No condition.
-/
import Derived.IntWalk
import Derived.Lib.Hide
import Derived.Test.YtefkifebgeagiaaProg
import Derived.ProofKit
import Derived.Handy
import Derived.Test.YtefkifebgeagiaaRows
import Derived.Deep.QuietTactic
import Derived.BigQuiet
import Derived.WalkSmall
import Derived.Deep.RegionLaw
import Derived.Deep.Cut
import Derived.Test.YtefkifebgeagiaaVmEndsK2
namespace Go.Proofs.Ytefkifebgeagiaa
set_option linter.all false
open Go.RowKit
variable {X : Cx} {s : SSt} {Q : SExit → SSt → Prop} {y : SCode}
theorem qaef : QSeq X y Q .normal s = SWp X y Q s := rfl
theorem qaeg {i : Nat} : QSeq X y Q (.exit i) s = Q (.exit i) s := rfl
theorem qaaj : QSeq X y Q .ret s = Q .ret s := rfl
theorem qab3 {id : Nat} : qahv id Q .normal s = Q .normal s := rfl
theorem qaaa {id : Nat} : qahv id Q .ret s = Q .ret s := rfl
theorem qab4 {id i : Nat} : qahv id Q (.exit i) s = if i = id then Q .normal s else Q (.exit i) s := rfl
theorem qact {I : SSt → Nat → Prop} {n i : Nat} : QLoop X I n Q (.exit i) s = Q (.exit i) s := rfl
theorem qaae {I : SSt → Nat → Prop} {n : Nat} : QLoop X I n Q .ret s = Q .ret s := rfl
theorem qady {a b : Int} (h1 : -9223372036854775808 ≤ a + b) (h2 : a + b ≤ 9223372036854775807) : IntKind.i64.wrap (a + b) = a + b := IntWalk.i64_in _ ⟨h1, h2⟩
theorem qacw (x : SV) : Co x x ↔ True := ⟨fun _ => trivial, fun _ => Co.refl x⟩
theorem qadi {k : IntKind} {a b : Int} (h : a = b) : Co (.int k a) (.int k b) := by rw [h]; exact Co.refl _
theorem qaep {i n m : Nat} (h : n = m) : Co (.own i n) (.own i m) := by rw [h]; exact Co.refl _
theorem qacv {z : Nat} {xs ys : List (List SV)} (h : xs = ys) : Co (.view z xs) (.view z ys) := by rw [h]; exact Co.refl _
theorem qab6 (z : Nat) : Co .nilsl (.view z []) ↔ True := ⟨fun _ => trivial, fun _ => Co.nilsl z⟩
theorem qadj {xs ys : List SV} (h : CoL xs ys) : Co (.agg xs) (.agg ys) := Co.agg h
theorem qaeo {xs ys : List SV} (h : CoL xs ys) : Co (.tup xs) (.tup ys) := Co.tup h
theorem qabm (xs : List (List SV)) : CoLL xs xs ↔ True := ⟨fun _ => trivial, fun _ => CoLL.refl xs⟩
theorem qafn {n : Int} (h : 0 ≤ n) (h2 : n < 18446744073709551616) : IntKind.u64.wrap n = n := by
 simp [IntKind.wrap, IntKind.bits, IntKind.signed]; omega
theorem qacs {α : Type} {h : Decidable True} (o : Option α) : @rg α True h o = o := rg_pos trivial o
variable {P : Program} {dst : Option Nat} {op : SOp} {b : Nat} {os : List SOper} {tr : List Tch} {R : SSt → List Tch → Prop}
theorem qab2 : SOps P [] s tr R = R s tr := rfl
def SOpsK (P : Program) (r : Option (SV × Upd × Nat)) (dst : Option Nat) (t : List Nat) (os : List SOper) (s : SSt) (tr : List Tch) (R : SSt → List Tch → Prop) : Prop := match r with
 | some (v, u, _) => SOps P os ⟨putd s.sl dst v, upds s.hp u, s.nx + 1⟩ (⟨t, u.map (·.1)⟩ :: tr) R
 | none => False
theorem qab1 : SOps P (⟨dst, op, none, none, b⟩ :: os) s tr R = SOpsK P (op.run (·.ev s.sl) (geth s.hp) s.nx) dst (op.touch (·.ev s.sl)) os s tr R := rfl
theorem qaa2 {v : SV} {u : Upd} {n : Nat} {t : List Nat} : SOpsK P (some (v, u, n)) dst t os s tr R = SOps P os ⟨putd s.sl dst v, upds s.hp u, s.nx + 1⟩ (⟨t, u.map (·.1)⟩ :: tr) R := rfl
def qaqw (P : Program) (f : SV) (args : List SV) (dst : Option Nat) (os : List SOper) (s : SSt) (tr : List Tch) (R : SSt → List Tch → Prop) : Prop := match f with
 | .fn (.func g) first cap => ∃ h1 r h2 rd n, SCalls P g (first ++ args ++ cap) h1 s.nx r h2 n ∧ SubH s.hp h1 ∧ Uniq h2 ∧ (∀ id ∈ rd, geth h2 id = geth h1 id) ∧
   SOps P os ⟨putd s.sl dst r, qabl s.hp h1 h2, s.nx + n⟩ (⟨rd, (idsH h1 ++ idsH h2).filter fun i => !rd.contains i⟩ :: tr) R
 | .fn (.method nm) [] [] => match args with
  | .ifc t x :: az => ∃ hm x' g h1 r h2 rd n, SubH s.hp hm ∧ Meth P (geth hm) t x nm g x' ∧ SCalls P g (x' :: az) h1 s.nx r h2 n ∧ SubH s.hp h1 ∧ Uniq h2 ∧ (∀ id ∈ rd, geth h2 id = geth h1 id) ∧
    SOps P os ⟨putd s.sl dst r, qabl s.hp h1 h2, s.nx + n⟩ (⟨idsH hm ++ rd, (idsH h1 ++ idsH h2).filter fun i => !rd.contains i⟩ :: tr) R
  | _ => False
 | _ => False
theorem qabg {f : SX} {args : List SX} : SOps P (⟨dst, op, some (f, args), none, b⟩ :: os) s tr R = qaqw P (f.ev s.sl) (args.map (·.ev s.sl)) dst os s tr R := by
 simp only [SOps, SOp1, qaqw]
 all_goals generalize f.ev s.sl = v
 all_goals cases v
 all_goals (first | rfl | (rename_i f' _ _; cases f' <;> rfl))
theorem qaph {g : FuncId} {first cap args : List SV} {h1 h2 : Hp} {r : SV} {n : Nat} (h : SCalls P g (first ++ args ++ cap) h1 s.nx r h2 n) (hs : SubH s.hp h1) (hu : Uniq h2) (rd : List Nat) (hr : ∀ id ∈ rd, geth h2 id = geth h1 id)
  (hn : SOps P os ⟨putd s.sl dst r, qabl s.hp h1 h2, s.nx + n⟩ (⟨rd, (idsH h1 ++ idsH h2).filter fun i => !rd.contains i⟩ :: tr) R) : qaqw P (.fn (.func g) first cap) args dst os s tr R := ⟨h1, r, h2, rd, n, h, hs, hu, hr, hn⟩
theorem qabb {g : FuncId} {args : List SV} {r : SV} (h : SCalls P g args [] s.nx r []) (hn : SOps P os ⟨putd s.sl dst r, s.hp, s.nx + 8⟩ (⟨[], []⟩ :: tr) R) : qaqw P (.fn (.func g) [] []) args dst os s tr R :=
 ⟨[], r, [], [], 8, by simpa using h, trivial, trivial, by simp, hn⟩
def qam5 (P : Program) (v : SV) (want : Bool) (o : SOper) (os : List SOper) (s : SSt) (tr : List Tch) (R : SSt → List Tch → Prop) : Prop := match v with
 | .bool b => (b = want → SOps P (⟨o.dst, o.op, o.cal, none, o.bef⟩ :: os) s tr R) ∧ (b ≠ want → SOps P os (s.skip o) (⟨[], []⟩ :: tr) R)
 | .tup [] => SOps P os (s.skip o) (⟨[], []⟩ :: tr) R
 | _ => False
theorem qaa3 {c : Option (SX × List SX)} {t : Nat} {want : Bool} : SOps P (⟨dst, op, c, some (t, want), b⟩ :: os) s tr R = qam5 P (gets s.sl t) want ⟨dst, op, c, some (t, want), b⟩ os s tr R := by
 cases c with
 | none => (simp only [SOps, qam5, SOp1]; all_goals rfl)
 | some fa => (simp only [SOps, qam5, SOp1]; all_goals rfl)
theorem qabf {want : Bool} {c : Option (SX × List SX)} {g : Option (Nat × Bool)} : qam5 P (.bool want) want ⟨dst, op, c, g, b⟩ os s tr R = SOps P (⟨dst, op, c, none, b⟩ :: os) s tr R := by simp [qam5]
theorem qake {want w' : Bool} {o : SOper} (h : (w' == want) = false) : qam5 P (.bool w') want o os s tr R = SOps P os (s.skip o) (⟨[], []⟩ :: tr) R := by
 have : w' ≠ want := by simpa using h
 simp [qam5, this]
theorem qabz {o : SOper} : qam5 P (.bool true) false o os s tr R = SOps P os (s.skip o) (⟨[], []⟩ :: tr) R := qake rfl
theorem qab0 {o : SOper} : qam5 P (.bool false) true o os s tr R = SOps P os (s.skip o) (⟨[], []⟩ :: tr) R := qake rfl
theorem qaav {want : Bool} {o : SOper} : qam5 P (.tup []) want o os s tr R = SOps P os (s.skip o) (⟨[], []⟩ :: tr) R := rfl
def FrzOk (hp : Hp) : List Nat → Prop
 | [] => True
 | i :: D => (match geth hp i with | some o => qapi o | none => True) ∧ FrzOk hp D
theorem FrzOk.get {hp : Hp} : ∀ {D : List Nat}, FrzOk hp D → ∀ id o, D.contains id = true → geth hp id = some o → qapi o
 | [], _, id, o, h, _ => by simp at h
 | i :: D, h, id, o, hc, ho => by
  by_cases e : id = i
  ·subst e; have := h.1; rw [ho] at this; exact this
  ·refine FrzOk.get h.2 id o ?_ ho
   simpa [e] using hc
theorem wk_fz (D : List Nat) (E : List (Nat × Nat)) {s' : SSt} {m : Nat} (hm : X.m = m) (hD : (D.all fun i => decide (m ≤ i)) = true) (hf : FrzOk s.hp D) (hok : qabc m s'.nx E s'.hp = true) (hle : m ≤ s'.nx)
  (hsl : SlotsM (rn E s.nx) (frzS (geth s.hp) D s.sl) s'.sl) (hhp : ObjsM (rn E s.nx) (frzH (geth s.hp) D s.hp) s'.hp) : Wk X s s' :=
 (wk_frz D hf.get).trans (qao0 (s := s.frz D) E hm hok hle hsl hhp)
theorem qabj (k : IntKind) (n : Int) : qaf5 (.int k n) ↔ True := ⟨fun _ => trivial, fun _ => qage k n⟩
theorem qaa5 (b : Bool) : qaf5 (.bool b) ↔ True := ⟨fun _ => trivial, fun _ => qafd b⟩
theorem qabh (b : ByteArray) : qaf5 (.str b) ↔ True := ⟨fun _ => trivial, fun _ => qaks b⟩
theorem qabi : qaf5 .nil ↔ True := ⟨fun _ => trivial, fun _ => qakt⟩
theorem qaax : qaf5 .nilsl ↔ True := ⟨fun _ => trivial, fun _ => qaeh⟩
theorem qaa4 (z : Nat) (es : List (List SV)) : qaf5 (.view z es) ↔ True := ⟨fun _ => trivial, fun _ => qafc z es⟩
theorem qab5 (cs : List SV) : qaf5 (.cp cs) ↔ True := ⟨fun _ => trivial, fun _ => qao8 cs⟩
theorem qaa6 : qaga [] ↔ True := ⟨fun _ => trivial, fun _ => qann⟩
theorem qaaz (x : SV) (xs : List SV) : qaga (x :: xs) ↔ qaf5 x ∧ qaga xs := ⟨fun h => ⟨h x (by simp), fun y hy => h y (by simp [hy])⟩, fun h => qaku h.1 h.2⟩
theorem qabk (e z : Nat) (es : List (List SV)) : qapi (.row e z es) ↔ ∀ x ∈ es, qaga x := Iff.rfl
theorem qaay (t : TypeId) (cs : List SV) : qapi (.cells t cs) ↔ qaga cs := Iff.rfl
theorem qaas {α : Type} (f : α → List SV) (xs : List α) : (xs.map f).take xs.length = xs.map f := List.take_of_length_le (by simp)
end Go.Proofs.Ytefkifebgeagiaa
namespace Go.Proofs.Ytefkifebgeagiaa
set_option linter.all false
open Go.RowKit
variable {P : Program} {s : SSt} {os : List SOper} {o : SOper} {tr : List Tch} {R : SSt → List Tch → Prop}
theorem qadk {dst : Option Nat} {g : FuncId} {args : List SV} {h1 h2 : Hp} {r : SV} (h : SCalls P g args h1 s.nx r h2) (hs : SubH s.hp h1) (hu : Uniq h2)
  (hn : SOps P os ⟨putd s.sl dst r, qabl s.hp h1 h2, s.nx + 8⟩ (⟨[], (idsH h1 ++ idsH h2).filter fun i => ![].contains i⟩ :: tr) R) : qaqw P (.fn (.func g) [] []) args dst os s tr R :=
 qaph (by simpa using h) hs hu [] (by simp) hn
theorem qabs {dst : Option Nat} {g : FuncId} {args : List SV} {h1 : Hp} {r : SV} (h : SCalls P g args h1 s.nx r h1) (hs : SubH s.hp h1) (hu : Uniq h1)
  (hn : SOps P os ⟨putd s.sl dst r, qabl s.hp h1 h1, s.nx + 8⟩ (⟨idsH h1, (idsH h1 ++ idsH h1).filter fun i => !(idsH h1).contains i⟩ :: tr) R) : qaqw P (.fn (.func g) [] []) args dst os s tr R :=
 qaph (by simpa using h) hs hu (idsH h1) (fun _ _ => rfl) hn
theorem qaad {X : Cx} {Q : SExit → SSt → Prop} {id : Nat} {a b : SCode} (h : SWp X (.seq a b) (qahv id Q) s) : SWp X (.block id (.seq a b)) Q s := qab8 h
theorem qaj9 {X : Cx} {Q : SExit → SSt → Prop} {id : Nat} {d : Bool} {l : List SOper} {k : List Nat} (h : SWp X (.reg d l k) (qahv id Q) s) : SWp X (.block id (.reg d l k)) Q s := qab8 h
theorem qagc {c : Prop} {hd : Decidable c} {r : Option (SV × Upd × Nat)} {dst : Option Nat} {t : List Nat} (h : c) (hn : SOpsK P r dst t os s tr R) : SOpsK P (@rg _ c hd r) dst t os s tr R := by
 rw [rg_pos h]; exact hn
end Go.Proofs.Ytefkifebgeagiaa
namespace Go.Proofs.Ytefkifebgeagiaa
set_option linter.all false
open Go.RowKit
variable {X : Cx} {s : SSt}
theorem qam6 {t : TypeId} {cs : List SV} (id j e size : Nat) (h : geth s.hp id = some (.cells t cs)) (hj : cs[j]? = some .nilsl) : Wk X s ⟨s.sl, puth (puth s.hp s.nx (.row e size [])) id (.cells t (cs.set j (.own s.nx 0))), s.nx + 1⟩ := by
 intro ρ fp a w hs
 obtain ⟨ρ', fp', h1, h2, h3, h4⟩ := hs.sim.h.add (w' := w) hs.le (hs.fresh _ (Nat.le_refl _)) (.row e size []) none (fun _ => False) (Below.refl _ _) (fun _ h => h.elim) fun A' ρ' hp' hpl => ⟨.slice none 0 0, [], World.ownsRow_nil _ _ _ _, ⟨Reps.nil, fun v hv => by cases hv⟩, (fun x hx => by cases hx), hpl, fun k => by simp [Value.ownBlock]⟩
 have hne : id ≠ s.nx := fun e => by
  have := (hs.sim.h.objs id _ h).place
  rw [e] at this
  exact this (hs.fresh _ (Nat.le_refl _))
 have hg : geth (puth s.hp s.nx (.row e size [])) id = some (.cells t cs) := by rw [qaa8, if_neg hne]; exact h
 have hlive : ∀ k, Live (puth (puth s.hp s.nx (.row e size [])) id (.cells t (cs.set j (.own s.nx 0)))) fp' k → Live (puth s.hp s.nx (.row e size [])) fp' k := by
  rintro k ⟨i, o, ho, hk⟩
  rw [qaa8] at ho
  split at ho
  ·rename_i e; subst e; exact ⟨i, _, hg, hk⟩
  ·exact ⟨i, o, ho, hk⟩
 have hobj : ∀ i o, geth (puth (puth s.hp s.nx (.row e size [])) id (.cells t (cs.set j (.own s.nx 0)))) i = some o → ∃ o', geth (puth s.hp s.nx (.row e size [])) i = some o' := by
  intro i o ho
  rw [qaa8] at ho
  split at ho
  ·rename_i e; subst e; exact ⟨_, hg⟩
  ·exact ⟨o, ho⟩
 refine ⟨ρ', fp', ⟨⟨fun i o ho => ?_, fun i i' o o' hne' ho ho' => ?_, fun i o ho => ?_, h1.step, h1.keep⟩, hs.sim.tmps, hs.sim.defers, fun u => ?_⟩, fun i hi => ?_, by have := hs.le; simp only; omega⟩
 ·rw [qaa8] at ho
  split at ho
  ·rename_i e; subst e
   cases ho
   obtain ⟨b, c, vs, p1, p2, ⟨p3, p4⟩, p5⟩ := h1.objs i _ hg
   refine ⟨b, c, vs, p1, p2, ⟨⟨by rw [List.length_set]; exact p3.1, fun m x v hx hv => ?_⟩, p4⟩, p5⟩
   rw [List.getElem?_set] at hx
   split at hx
   ·rename_i ejm; subst ejm
    split at hx
    ·cases hx
     have := p3.2 j _ v hj hv
     cases this
     exact .own0 h3
    ·cases hx
   ·exact (p3.2 m x v hx hv).weaken fun k hk _ => hk.imp (fun h => h) (hlive k)
  ·exact (h1.objs i o ho).weaken fun k hk _ => hk.imp (fun h => h) (hlive k)
 ·obtain ⟨x, hx⟩ := hobj i o ho
  obtain ⟨y, hy⟩ := hobj i' o' ho'
  exact h1.disj i i' x y hne' hx hy
 ·obtain ⟨x, hx⟩ := hobj i o ho
  exact h1.turn i x hx
 ·exact (h2.rep (hs.sim.slots u)).weaken fun k hk _ => hk.imp (fun h => h) (hlive k)
 ·cases e : ρ' i with
  | none => rfl
  | some p =>
   simp only at hi
   rcases h4 i (by rw [e]; simp) with h5 | h5
   ·exact absurd (hs.fresh i (by omega)) h5
   ·omega
structure Stop (p : Prop) : Prop where
 out : p
theorem qapr {Q : SExit → SSt → Prop} {c : SCode} (h : Stop (SWp X c Q s)) : SWp X c Q s := h.out
end Go.Proofs.Ytefkifebgeagiaa
namespace Go.Proofs.Ytefkifebgeagiaa
set_option linter.all false
open Go.RowKit
class PureF {α : Type} (f : α → List SV) : Prop where
 ren : ∀ σ x, (f x).map (Go.Proofs.Ytefkifebgeagiaa.ren σ) = f x
 ok : ∀ x, (f x).all ok2 = true
 pure : ∀ x, qaga (f x)
theorem qapz {α : Type} (f : α → List SV) [PureF f] (σ : Nat → Nat) (xs : List α) : (xs.map f).map (·.map (ren σ)) = xs.map f := by
 rw [List.map_map]; exact List.map_congr_left fun x _ => PureF.ren σ x
theorem rowf_ok {α : Type} (f : α → List SV) [PureF f] (xs : List α) : ∀ x ∈ xs.map f, x.all ok2 = true := fun x hx => by obtain ⟨b, _, rfl⟩ := List.mem_map.1 hx; exact PureF.ok b
theorem qang {α : Type} (f : α → List SV) [PureF f] (xs : List α) : ∀ x ∈ xs.map f, qaga x := fun x hx => by obtain ⟨b, _, rfl⟩ := List.mem_map.1 hx; exact PureF.pure b
theorem qacj (cs : List SV) (h : cs.all (fun x => match x with | .int _ _ | .bool _ | .str _ | .nil | .nilsl | .view _ _ | .cp _ => true | _ => false) = true) : qaga cs := fun x hx => by
 have := List.all_eq_true.1 h x hx
 cases x <;> first | exact qage _ _ | exact qafd _ | exact qaks _ | exact qakt | exact qaeh | exact qafc _ _ | exact qao8 _ | simp at this
instance pureF_int (k : IntKind) : PureF (fun n : Int => [SV.int k n]) := ⟨fun _ _ => rfl, fun _ => rfl, fun _ => qacj _ rfl⟩
instance pureF_bool : PureF (fun b : Bool => [SV.bool b]) := ⟨fun _ _ => rfl, fun _ => rfl, fun _ => qacj _ rfl⟩
class PureR (fs : List (List SV)) : Prop where
 ren : ∀ σ, fs.map (·.map (Go.Proofs.Ytefkifebgeagiaa.ren σ)) = fs
 ok : ∀ x ∈ fs, x.all ok2 = true
 pure : ∀ x ∈ fs, qaga x
instance pureR_map {α : Type} (f : α → List SV) [PureF f] (xs : List α) : PureR (xs.map f) := ⟨fun σ => qapz f σ xs, rowf_ok f xs, qang f xs⟩
theorem pureR_O (e z : Nat) (fs : List (List SV)) [PureR fs] : qapi (.row e z fs) ↔ True := ⟨fun _ => trivial, fun _ => PureR.pure⟩
def setS : Sl → Nat → SV → Sl
 | [], t, v => [(t, v)]
 | (u, x) :: l, t, v => if u = t then (t, v) :: l else (u, x) :: setS l t v
def qaqt : Sl → List (Nat × SV) → Sl
 | l, [] => l
 | l, (t, v) :: r => qaqt (setS l t v) r
def qaqu : Hp → List (Nat × SObj) → Hp
 | h, [] => h
 | h, (i, o) :: r => qaqu (puth h i o) r
def SSt.turn (s : SSt) (sl : List (Nat × SV)) (hp : List (Nat × SObj)) : SSt := ⟨qaqt s.sl sl, qaqu s.hp hp, s.nx⟩
variable {X : Cx} {s s' : SSt} {Q : SExit → SSt → Prop} {σ : Nat → Nat} {sl : Sl} {hp : Hp}
theorem qach : SlotsM σ sl [] := trivial
theorem qac0 : ObjsM σ hp [] := trivial
theorem qaip {i : Nat} {t : TypeId} {cs ds : List SV} {r : Hp} (h : geth hp (σ i) = some (.cells t cs)) (h2 : CoL cs (ds.map (ren σ))) (g : ObjsM σ hp r) : ObjsM σ hp ((i, .cells t ds) :: r) := ⟨⟨_, h, rfl, h2⟩, g⟩
theorem qanp {i e z : Nat} {es fs : List (List SV)} {r : Hp} (h : geth hp (σ i) = some (.row e z es)) (h2 : fs.map (·.map (ren σ)) = fs) (h3 : es = fs) (g : ObjsM σ hp r) : ObjsM σ hp ((i, .row e z fs) :: r) := ⟨⟨_, h, rfl, rfl, by rw [h2, h3]; exact CoLL.refl _⟩, g⟩
theorem qak0 {i e z : Nat} {es fs : List (List SV)} [PureR fs] {r : Hp} (h : geth hp (σ i) = some (.row e z es)) (h3 : es = fs) (g : ObjsM σ hp r) : ObjsM σ hp ((i, .row e z fs) :: r) := qanp h (PureR.ren σ) h3 g
def diag (m : Nat) (E : List (Nat × Nat)) (hp : Hp) : List (Nat × Nat) := ((List.range m ++ (idsH hp).filter fun i => decide (m ≤ i)).filter fun i => !(E.any fun p => p.1 == i)).map fun i => (i, i)
theorem qabw (E : List (Nat × Nat)) {m : Nat} (hm : X.m = m) (hsl : SlotsM (rn (E ++ diag m E s'.hp) s.nx) s.sl s'.sl) (hhp : ObjsM (rn (E ++ diag m E s'.hp) s.nx) s.hp s'.hp) (hok : qabc m s'.nx (E ++ diag m E s'.hp) s'.hp = true) (hle : m ≤ s'.nx) : Wk X s s' := qao0 _ hm hok hle hsl hhp
theorem qaew {α : Type} {c : SCode} (F : SSt → α → SSt) (I : α → Prop) (μ : α → Nat) (a : α) (hw : Wk X s (F s a)) (h0 : I a) (h : ∀ J : SSt → Nat → Prop, RowKit.Hid (∀ a, I a → J (F s a) (μ a)) → ∀ a, I a → SWp X c (QLoop X J (μ a) Q) (F s a)) : SWp X (.loop c) Q s :=
 qapt (fun s' n => ∃ a, s' = F s a ∧ I a ∧ n = μ a) hw ⟨a, rfl, h0, rfl⟩ fun s' n ⟨a, e, hi, hn⟩ => by subst e hn; exact h _ (Lib.hid fun a hi => ⟨a, rfl, hi, rfl⟩) a hi
theorem qadm {α : Type} {F : α → SSt} {I : α → Prop} {μ : α → Nat} {n : Nat} {J : SSt → Nat → Prop} (hJ : RowKit.Hid (∀ a, I a → J (F a) (μ a))) (a : α) (hw : Wk X s' (F a)) (h0 : I a) (hn : μ a < n) : QLoop X J n Q .normal s' := ⟨F a, μ a, hw, (by have h : ∀ a, I a → J (F a) (μ a) := hJ; exact h a h0), hn⟩
theorem qapk (D : List Nat) (E : List (Nat × Nat)) {m : Nat} (hm : X.m = m) (hD : (D.all fun i => decide (m ≤ i)) = true) (hf : FrzOk s.hp D)
  (hsl : SlotsM (rn (E ++ diag m E s'.hp) s.nx) (frzS (geth s.hp) D s.sl) s'.sl) (hhp : ObjsM (rn (E ++ diag m E s'.hp) s.nx) (frzH (geth s.hp) D s.hp) s'.hp) (hok : qabc m s'.nx (E ++ diag m E s'.hp) s'.hp = true) (hle : m ≤ s'.nx) : Wk X s s' :=
 wk_fz D _ hm hD hf hok hle hsl hhp
def NoN (x : SV) : Prop := ∀ σ, Go.Proofs.Ytefkifebgeagiaa.ren σ x = x
theorem wk_fin {t m : Nat} {v : SV} {nx : Nat} (hm : X.m = m) (hv : NoN v) (h0 : m = 0) : Wk X ⟨(t, v) :: sl, hp, nx⟩ ⟨[(t, v)], [], 0⟩ := by
 subst h0
 refine qabw [] hm ⟨?_, trivial⟩ trivial rfl (Nat.le_refl _)
 rw [hv]; simp only [gets, if_true]; exact Co.refl _
theorem qapf {t nx : Nat} {v r : SV} (hm : X.m = 0) (h : v = r) (hv : NoN r) : QFun X [.tmp t] 0 r [] .ret ⟨(t, v) :: sl, hp, nx⟩ := by
 subst h
 exact ⟨_, wk_fin hm hv rfl, by simp [qanj, resL, resV, one_, gets], trivial, by simp⟩
theorem qab9 (k : IntKind) (n : Int) : NoN (.int k n) := fun _ => rfl
theorem qaqg (b : Bool) : NoN (.bool b) := fun _ => rfl
theorem zA {a b : SCode} (h : SWp X a (QSeq X b Q) s) : SWp X (.seq a b) Q s := qao2 h
theorem zK {l : List (SOper × Tch)} {p : Prop} (hp : p) (h : qakz l = true := by with_unfolding_all rfl) : qakz l = true ∧ p := ⟨h, hp⟩
theorem zM {t nx : Nat} {k : IntKind} {a b : Int} (hm : X.m = 0) (h : a = b) : QFun X [.tmp t] 0 (.int k b) [] .ret ⟨(t, .int k a) :: sl, hp, nx⟩ := qapf hm (congrArg _ h) (qab9 _ _)
theorem zN {t nx : Nat} {a b : Bool} (hm : X.m = 0) (h : a = b) : QFun X [.tmp t] 0 (.bool b) [] .ret ⟨(t, .bool a) :: sl, hp, nx⟩ := qapf hm (congrArg _ h) (qaqg _)
theorem za {t : Nat} {v : SV} {r : Sl} (h : Co (gets sl t) (ren σ v)) (g : SlotsM σ sl r) : SlotsM σ sl ((t, v) :: r) := ⟨h, g⟩
theorem zb {i : Nat} {t : TypeId} (cs : List SV) {ds : List SV} {r : Hp} (h : geth hp (σ i) = some (.cells t cs)) (h2 : CoL cs (ds.map (ren σ))) (g : ObjsM σ hp r) : ObjsM σ hp ((i, .cells t ds) :: r) := qaip h h2 g
theorem zc {i e z : Nat} (es : List (List SV)) {fs : List (List SV)} [PureR fs] {r : Hp} (h : geth hp (σ i) = some (.row e z es)) (h3 : es = fs) (g : ObjsM σ hp r) : ObjsM σ hp ((i, .row e z fs) :: r) := qak0 h h3 g
theorem zga {h : Hp} {i : Nat} {o : SObj} (e : geth h i = some o) : geth h i = some o := e
theorem zgb {m n : Nat} {l : List (Nat × Nat)} {h : Hp} (e : qabc m n l h = true) : qabc m n l h = true := e
theorem zgc {a b : List (List SV)} (e : a = b) : a = b := e
theorem zgd {a b : Nat} (e : a ≤ b) : a ≤ b := e
theorem zge {a b : Nat} (e : a < b) : a < b := e
theorem zT : (∀ (s : SSt) (l : List (Nat × SV)) (h : List (Nat × SObj)), s.turn l h = ⟨qaqt s.sl l, qaqu s.hp h, s.nx⟩) ∧ (∀ l, qaqt l [] = l) ∧ (∀ l t v r, qaqt l ((t, v) :: r) = qaqt (setS l t v) r) ∧ (∀ t v, setS [] t v = [(t, v)]) ∧ (∀ u x l t v, setS ((u, x) :: l) t v = if u = t then (t, v) :: l else (u, x) :: setS l t v) ∧ (∀ h, qaqu h [] = h) ∧ (∀ h i o r, qaqu h ((i, o) :: r) = qaqu (puth h i o) r) :=
 ⟨fun _ _ _ => rfl, fun l => by cases l <;> rfl, fun l t v r => by cases l <;> rfl, fun _ _ => rfl, fun _ _ _ _ _ => rfl, fun h => by cases h <;> rfl, fun h _ _ _ => by cases h <;> rfl⟩
end Go.Proofs.Ytefkifebgeagiaa
namespace Go.Proofs.Ytefkifebgeagiaa
set_option linter.all false
open Go.RowKit
def RenO (σ : Nat → Nat) : SObj → Prop
 | .cells _ cs => cs.map (Go.Proofs.Ytefkifebgeagiaa.ren σ) = cs
 | .row _ _ es => es.map (·.map (Go.Proofs.Ytefkifebgeagiaa.ren σ)) = es
 | .abs _ => True
theorem RenO.objM {σ : Nat → Nat} {o : SObj} (h : RenO σ o) : ObjM σ o o := by
 cases o with
 | cells t cs => exact ⟨rfl, by rw [show cs.map (Go.Proofs.Ytefkifebgeagiaa.ren σ) = cs from h]; exact .refl _⟩
 | row e z es => exact ⟨rfl, rfl, by rw [show es.map (·.map (Go.Proofs.Ytefkifebgeagiaa.ren σ)) = es from h]; exact .refl _⟩
 | abs I => rfl
def RenH (σ : Nat → Nat) : Hp → Prop
 | [] => True
 | (_, o) :: r => RenO σ o ∧ RenH σ r
theorem RenH.get {σ : Nat → Nat} : ∀ {h : Hp}, RenH σ h → ∀ id o, geth h id = some o → RenO σ o
 | [], _, id, o, h => by cases h
 | (i, x) :: r, h, id, o, hg => by
  simp only [geth] at hg
  split at hg
  ·cases hg; exact h.1
  ·exact RenH.get h.2 id o hg
end Go.Proofs.Ytefkifebgeagiaa
namespace Go.Proofs.Ytefkifebgeagiaa
set_option linter.all false
open Go.RowKit
theorem qakg {X : Cx} {ops : Array Oper} {Q : SSt → List Tch → Prop} {R : Exit → Act → World → Prop} (hQ : ∀ s tr ρ fp a w, Q s tr → SimF X ρ fp s a w → R .normal a w) : ∀ (n : Nat) (l : List Oper) (bs : List Nat) (sos : List SOper), qac9 X.P X.N ops l bs = some sos → ∀ (s : SSt) (tr : List Tch) (ρ : qaau) (fp : Nat → Nat → Prop) (a : Act) (w : World),
  SOps X.P (sos.take n) s tr (fun s1 t1 => ∃ s2, Wk X s1 s2 ∧ SOps X.P (sos.drop n) s2 t1 Q) → SimF X ρ fp s a w → wpList X.P ops R l a w
 | 0, l, bs, sos, hc, s, tr, ρ, fp, a, w, hk, h => by
  obtain ⟨s2, hw, h3⟩ := hk
  obtain ⟨ρ', fp', h'⟩ := hw ρ fp a w h
  exact qao4 hQ l bs sos hc _ _ _ _ _ _ h3 h'
 | n + 1, [], bs, sos, hc, s, tr, ρ, fp, a, w, hk, h => by
  simp only [qac9, Option.some.injEq] at hc
  subst hc
  obtain ⟨s2, hw, h3⟩ := hk
  obtain ⟨ρ', fp', h'⟩ := hw ρ fp a w h
  exact hQ _ _ _ _ _ _ h3 h'
 | n + 1, o :: l, bs, sos, hc, s, tr, ρ, fp, a, w, hk, h => by
  have ih := fun bs sos (hc : qac9 X.P X.N ops l bs = some sos) => qakg hQ n l bs sos hc
  obtain ⟨so, r, rfl, hso, hr⟩ := qac5 hc
  obtain ⟨hdst, hd, hg, _, _⟩ := qacp hso
  obtain ⟨g1, g2⟩ := qagl hg h.sim
  rw [List.take_succ_cons, List.drop_succ_cons] at hk
  refine wpList_step fun K hK => ?_
  have run : (SOp1 X.P so s fun s' x => SOps X.P (r.take n) s' (x :: tr) (fun s1 t1 => ∃ s2, Wk X s1 s2 ∧ SOps X.P (r.drop n) s2 t1 Q)) → o.wp X.P a w K R := fun hk => op1_ok hso hk h fun s' x ρ' fp' a' w' hk' h' => hK _ _ (ih _ _ hr _ _ _ _ _ _ hk' h')
  simp only [SOps] at hk
  cases hgr : so.grd with
  | none =>
   rw [hgr] at hk
   rw [if_pos (g1 hgr)]
   exact run hk
  | some tw =>
   obtain ⟨t, want⟩ := tw
   rw [hgr] at hk
   obtain ⟨g3, g4⟩ := g2 t want hgr
   simp only at hk
   split at hk
   ·rename_i b hb
    rw [g3 b hb]
    by_cases hbw : b = want
    ·rw [if_pos (by simpa using hbw)]
     exact run (hk.1 hbw)
    ·rw [if_neg (by simpa using hbw)]
     exact hK _ _ (ih _ _ hr _ _ _ _ _ _ (hk.2 hbw) (Sim.skip h hdst hd))
   ·rename_i hb
    rw [g4 hb, if_neg (by simp)]
    exact hK _ _ (ih _ _ hr _ _ _ _ _ _ hk (Sim.skip h hdst hd))
   ·cases hk
theorem qaps {X : Cx} {Q : SExit → SSt → Prop} {s : SSt} {ops : List SOper} {live : List Nat} (n : Nat) (h : SOps X.P (ops.take n) s [] fun s1 t1 => ∃ s2, Wk X s1 s2 ∧ SOps X.P (ops.drop n) s2 t1 fun s' _ => Q .normal (s'.keep live)) : SWp X (.reg false ops live) Q s := fun code hc ρ fp a w hs => by
 by_cases hreg : ∃ id o d, code = .region id o d
 ·obtain ⟨id, o, d, rfl⟩ := hreg
  obtain ⟨l, e, h1, _⟩ := qaa1 hc
  simp only [SCode.erase, SCode.reg.injEq, and_true] at e
  obtain ⟨rfl, rfl⟩ := e
  refine wp_region_list ?_
  refine qakg (Q := fun s' _ => Q .normal (s'.keep live)) ?_ n _ _ _ h1 s [] ρ fp a w h hs
  intro s' tr ρ' fp' a' w' hq h'
  obtain ⟨ρ2, fp2, h2⟩ := qaj0 live ρ' fp' a' w' h'
  exact ⟨_, ρ2, fp2, hq, h2⟩
 ·cases code <;> (try simp only [comp, SCode.erase, Option.bind_eq_bind, Option.bind_eq_some_iff, Option.some.injEq, reduceCtorEq, and_false, exists_false, exists_const] at hc)
  case region => exact absurd ⟨_, _, _, rfl⟩ hreg
end Go.Proofs.Ytefkifebgeagiaa
namespace Go.Proofs.Ytefkifebgeagiaa
set_option linter.all false
open Go.RowKit
def qabr (p : Nat → Bool) : Nat → Nat
 | 0 => 0
 | n + 1 => if qabr p n < n then qabr p n else if p n then n else n + 1
theorem qac3 (p : Nat → Bool) (n : Nat) : qabr p n ≤ n := by
 induction n with
 | zero => simp [qabr]
 | succ n ih => simp only [qabr]; repeat' split
                all_goals omega
theorem qabd (p : Nat → Bool) (n i : Nat) (h : i < qabr p n) : p i = false := by
 induction n with
 | zero => simp [qabr] at h
 | succ n ih =>
  have hle := qac3 p n
  simp only [qabr] at h
  split at h
  ·exact ih h
  ·split at h
   ·exact ih (by omega)
   ·rename_i h1 h2
    by_cases hi : i = n
    ·subst hi; simpa using h2
    ·exact ih (by omega)
theorem qac4 (p : Nat → Bool) (n : Nat) (h : qabr p n < n) : p (qabr p n) = true := by
 induction n with
 | zero => simp [qabr] at h
 | succ n ih =>
  simp only [qabr] at h ⊢
  split
  ·rename_i h1; exact ih h1
  ·split
   ·assumption
   ·rename_i h1 h2; rw [if_neg h1, if_neg h2] at h; omega
theorem qaic (p : Nat → Bool) (n i : Nat) (h : ∀ j, j < i → p j = false) (hp : p i = true) (hi : i < n) : qabr p n = i := by
 rcases Nat.lt_trichotomy (qabr p n) i with hlt | he | hgt
 ·have := qac4 p n (by omega)
  rw [h _ hlt] at this; cases this
 ·exact he
 ·have := qabd p n i hgt
  rw [hp] at this; cases this
theorem qad1 (p : Nat → Bool) (n : Nat) (h : ∀ j, j < n → p j = false) : qabr p n = n := by
 have hle := qac3 p n
 by_cases hlt : qabr p n < n
 ·have := qac4 p n hlt
  rw [h _ hlt] at this; cases this
 ·omega
theorem qads (p : Nat → Bool) (n : Nat) (h : qabr p n = n) : ∀ j, j < n → p j = false := fun j hj => qabd p n j (by omega)
end Go.Proofs.Ytefkifebgeagiaa
namespace Go.Proofs.Ytefkifebgeagiaa
set_option linter.all false
open Go.RowKit
def nth {α : Type} [Inhabited α] (xs : List α) (i : Nat) : α := xs.getD i default
theorem qaiq {α : Type} [Inhabited α] (xs : List α) (i : Nat) (h : i < xs.length) : nth xs i = xs[i] := by simp [nth, List.getD, h]
structure Ins where
 op : Int
 r : Int
 s : Int
 k : Int
 to : Int
 n : Int
 deriving Inhabited, DecidableEq
structure Shape where
 keys : Int
 acts : Int
 args : Int
 deriving Inhabited, DecidableEq
def Ins.wf (x : Ins) : Prop := Fits .i64 x.op ∧ Fits .i64 x.r ∧ Fits .i64 x.s ∧ Fits .i64 x.k ∧ Fits .i64 x.to ∧ Fits .u64 x.n
def Shape.wf (x : Shape) : Prop := Fits .i64 x.keys ∧ Fits .i64 x.acts ∧ Fits .i64 x.args
def Ins.cells (x : Ins) : List Value := [.int .i64 x.op, .int .i64 x.r, .int .i64 x.s, .int .i64 x.k, .int .i64 x.to, .int .u64 x.n]
def Shape.cells (x : Shape) : List Value := [.int .i64 x.keys, .int .i64 x.acts, .int .i64 x.args]
def Lay.flat {α : Type} (size : Nat) (enc : α → List Value) (ok : α → Prop) (hl : ∀ a, (enc a).length = size) : Lay α where
 size := size
 rep _ _ x cs := cs = enc x ∧ ok x
 len h := by rw [h.1]; exact hl _
 step h _ := h
 weaken h _ := h
def qadq : Lay Ins := Lay.flat 6 Ins.cells Ins.wf fun _ => rfl
def qaba : Lay Shape := Lay.flat 3 Shape.cells Shape.wf fun _ => rfl
theorem RdL.wf_flat {α : Type} {size : Nat} {enc : α → List Value} {ok : α → Prop} {hl : ∀ a, (enc a).length = size} {A : Nat → Prop} {w : World} {ao : Option Addr} {n cap : Nat} {xs : List α} (h : RdL (Lay.flat size enc ok hl) A w ao n cap xs) : ∀ x ∈ xs, ok x := by
 intro x hx
 obtain ⟨i, hi, rfl⟩ := List.getElem_of_mem hx
 obtain ⟨b, off, cs, e, _, _, hr, _⟩ := h.at_ hi
 exact hr.2
theorem RdL.flat_at {α : Type} [Inhabited α] {size : Nat} {enc : α → List Value} {ok : α → Prop} {hl : ∀ a, (enc a).length = size} {A : Nat → Prop} {w : World} {ao : Option Addr} {n cap : Nat} {xs : List α} (h : RdL (Lay.flat size enc ok hl) A w ao n cap xs) {i : Nat} (hi : i < xs.length) :
  ∃ b off, ao = some ⟨b, off, none⟩ ∧ ¬ A b ∧ b < w.heap.size ∧ ok (nth xs i) ∧ ∀ j, j < size → w.cell? ⟨b, off + i * size + j, none⟩ = (enc (nth xs i))[j]? := by
 obtain ⟨b, off, cs, e, h1, h2, hr, hc⟩ := h.at_ hi
 obtain ⟨rfl, ho⟩ := hr
 rw [qaiq _ _ hi]
 exact ⟨b, off, e, h1, h2, ho, hc⟩
theorem RdL.ins_at {A : Nat → Prop} {w : World} {ao : Option Addr} {n cap : Nat} {xs : List Ins} (h : RdL qadq A w ao n cap xs) {i : Nat} (hi : i < xs.length) :
  ∃ b off, ao = some ⟨b, off, none⟩ ∧ ¬ A b ∧ b < w.heap.size ∧ (nth xs i).wf ∧
   w.cell? ⟨b, off + i * 6, none⟩ = some (.int .i64 (nth xs i).op) ∧ w.cell? ⟨b, off + i * 6 + 1, none⟩ = some (.int .i64 (nth xs i).r) ∧ w.cell? ⟨b, off + i * 6 + 2, none⟩ = some (.int .i64 (nth xs i).s) ∧
   w.cell? ⟨b, off + i * 6 + 3, none⟩ = some (.int .i64 (nth xs i).k) ∧ w.cell? ⟨b, off + i * 6 + 4, none⟩ = some (.int .i64 (nth xs i).to) ∧ w.cell? ⟨b, off + i * 6 + 5, none⟩ = some (.int .u64 (nth xs i).n) := by
 obtain ⟨b, off, e, h1, h2, ho, hc⟩ := RdL.flat_at h hi
 exact ⟨b, off, e, h1, h2, ho, hc 0 (by omega), hc 1 (by omega), hc 2 (by omega), hc 3 (by omega), hc 4 (by omega), hc 5 (by omega)⟩
theorem RdL.shape_at {A : Nat → Prop} {w : World} {ao : Option Addr} {n cap : Nat} {xs : List Shape} (h : RdL qaba A w ao n cap xs) {i : Nat} (hi : i < xs.length) :
  ∃ b off, ao = some ⟨b, off, none⟩ ∧ ¬ A b ∧ b < w.heap.size ∧ (nth xs i).wf ∧
   w.cell? ⟨b, off + i * 3, none⟩ = some (.int .i64 (nth xs i).keys) ∧ w.cell? ⟨b, off + i * 3 + 1, none⟩ = some (.int .i64 (nth xs i).acts) ∧ w.cell? ⟨b, off + i * 3 + 2, none⟩ = some (.int .i64 (nth xs i).args) := by
 obtain ⟨b, off, e, h1, h2, ho, hc⟩ := RdL.flat_at h hi
 exact ⟨b, off, e, h1, h2, ho, hc 0 (by omega), hc 1 (by omega), hc 2 (by omega)⟩
def hasR (op : Int) : Bool := decide (1 ≤ op ∧ op ≤ 18 ∧ op ≠ 12 ∧ op ≠ 17)
def hasS (op : Int) : Bool := decide (op = 2 ∨ op = 3 ∨ op = 5 ∨ op = 6 ∨ op = 10 ∨ op = 11 ∨ op = 13)
def hasK (op : Int) : Bool := decide (op = 3 ∨ op = 6 ∨ op = 13 ∨ op = 14)
def hasT (op : Int) : Bool := decide (9 ≤ op ∧ op ≤ 12)
def hasN (op : Int) : Bool := decide (op = 1 ∨ (6 ≤ op ∧ op ≤ 9) ∨ op = 13)
def isOp (op : Int) : Bool := decide (1 ≤ op ∧ op ≤ 18)
def qada (slots at_ n : Int) : Bool := decide (0 ≤ at_ ∧ at_ ≤ slots - n)
def qaak (slots : Int) (tabs : List Shape) (x : Ins) : Bool :=
 if x.op = 3 then decide (3 ≤ x.k ∧ x.k ≤ 12)
 else if x.op = 6 then decide (1 ≤ x.k ∧ x.k ≤ 8 ∧ x.n ≤ 600)
 else if x.op = 14 then decide (1 ≤ x.k ∧ x.k ≤ 8)
 else if x.op = 7 ∨ x.op = 8 then decide (x.n < slots)
 else if x.op = 9 then decide (x.n ≤ 600)
 else if x.op = 13 then decide (x.n < tabs.length) && qada slots x.s (nth tabs x.n.toNat).keys && qada slots x.k (nth tabs x.n.toNat).args
 else true
def qak4 (x : Ins) : Bool := isOp x.op && (hasR x.op || decide (x.r = 0)) && (hasS x.op || decide (x.s = 0)) && (hasK x.op || decide (x.k = 0)) && (hasT x.op || decide (x.to = 0)) && (hasN x.op || decide (x.n = 0))
def qanm (x : Ins) : Bool := decide (0 ≤ x.r ∧ x.r < 10) && (decide (x.op = 13) || decide (0 ≤ x.s ∧ x.s < 10)) && decide (0 ≤ x.to)
def qacf (slots : Int) (tabs : List Shape) (x : Ins) : Bool := qak4 x && qanm x && qaak slots tabs x
def qabt (t : Shape) : Bool := decide (t.keys < 1 ∨ 3 < t.keys ∨ t.acts < 1 ∨ 8 < t.acts ∨ t.args < 0 ∨ 3 < t.args)
def qad3 (n i : Nat) (x : Ins) : Bool := hasT x.op && decide ((n : Int) - i - 1 ≤ x.to)
def qabn (slots : Int) (tabs : List Shape) (code : List Ins) (i : Nat) : Bool := !qacf slots tabs (nth code i) || qad3 code.length i (nth code i)
def qak2 (op : Int) : Bool := decide (op = 16 ∨ op = 17)
structure Prog where
 slots : Int
 tabs : List Shape
 code : List Ins
 deriving Inhabited, DecidableEq
def qacu (p : Prog) : Int × Int :=
 if p.slots < 0 ∨ 96 < p.slots then (1, -1)
 else if 5 < p.tabs.length ∨ p.code.length = 0 ∨ 60000 < p.code.length then (2, -1)
 else if qabr (fun i => qabt (nth p.tabs i)) p.tabs.length < p.tabs.length then (1, -2 - (qabr (fun i => qabt (nth p.tabs i)) p.tabs.length : Int))
 else if qabr (qabn p.slots p.tabs p.code) p.code.length < p.code.length then
  (if qacf p.slots p.tabs (nth p.code (qabr (qabn p.slots p.tabs p.code) p.code.length)) then 17 else 4, (qabr (qabn p.slots p.tabs p.code) p.code.length : Int))
 else if qak2 (nth p.code (p.code.length - 1)).op then (0, 0) else (18, (p.code.length : Int) - 1)
theorem qacz {p : Prog} (h : p.slots < 0 ∨ 96 < p.slots) : qacu p = (1, -1) := by unfold qacu; rw [if_pos h]
theorem qado {p : Prog} (h : ¬ (p.slots < 0 ∨ 96 < p.slots)) (h2 : 5 < p.tabs.length ∨ p.code.length = 0 ∨ 60000 < p.code.length) : qacu p = (2, -1) := by unfold qacu; rw [if_neg h, if_pos h2]
theorem qah3 {p : Prog} {i : Nat} (h : ¬ (p.slots < 0 ∨ 96 < p.slots)) (h2 : ¬ (5 < p.tabs.length ∨ p.code.length = 0 ∨ 60000 < p.code.length)) (hb : ∀ j, j < i → qabt (nth p.tabs j) = false) (hi : i < p.tabs.length) (hx : qabt (nth p.tabs i) = true) : qacu p = (1, -2 - (i : Int)) := by
 have e := qaic (fun i => qabt (nth p.tabs i)) p.tabs.length i hb hx hi
 unfold qacu; rw [if_neg h, if_neg h2, e, if_pos hi]
theorem qadp {p : Prog} {i : Nat} (h : ¬ (p.slots < 0 ∨ 96 < p.slots)) (h2 : ¬ (5 < p.tabs.length ∨ p.code.length = 0 ∨ 60000 < p.code.length)) (h3 : ∀ j, j < p.tabs.length → qabt (nth p.tabs j) = false)
  (hb : ∀ j, j < i → qabn p.slots p.tabs p.code j = false) (hi : i < p.code.length) (hx : qabn p.slots p.tabs p.code i = true) : qacu p = (if qacf p.slots p.tabs (nth p.code i) then 17 else 4, (i : Int)) := by
 have e := qad1 (fun i => qabt (nth p.tabs i)) p.tabs.length h3
 have e2 := qaic (qabn p.slots p.tabs p.code) p.code.length i hb hx hi
 unfold qacu; rw [if_neg h, if_neg h2, e, if_neg (by omega), e2, if_pos hi]
theorem qah4 {p : Prog} (h : ¬ (p.slots < 0 ∨ 96 < p.slots)) (h2 : ¬ (5 < p.tabs.length ∨ p.code.length = 0 ∨ 60000 < p.code.length)) (h3 : ∀ j, j < p.tabs.length → qabt (nth p.tabs j) = false)
  (hb : ∀ j, j < p.code.length → qabn p.slots p.tabs p.code j = false) : qacu p = if qak2 (nth p.code (p.code.length - 1)).op then (0, 0) else (18, (p.code.length : Int) - 1) := by
 have e := qad1 (fun i => qabt (nth p.tabs i)) p.tabs.length h3
 have e2 := qad1 (qabn p.slots p.tabs p.code) p.code.length hb
 unfold qacu; rw [if_neg h, if_neg h2, e, if_neg (by omega), e2, if_neg (by omega)]
theorem qair {slots : Int} {tabs : List Shape} {code : List Ins} {i : Nat} (h : qacf slots tabs (nth code i) = false) : qabn slots tabs code i = true := by unfold qabn; rw [h]; rfl
theorem qafi {slots : Int} {tabs : List Shape} {code : List Ins} {i : Nat} (h : qacf slots tabs (nth code i) = true) : qabn slots tabs code i = qad3 code.length i (nth code i) := by unfold qabn; rw [h]; rfl
theorem qade {t : Shape} (h : qabt t = false) : 1 ≤ t.keys ∧ t.keys ≤ 3 ∧ 1 ≤ t.acts ∧ t.acts ≤ 8 ∧ 0 ≤ t.args ∧ t.args ≤ 3 := by unfold qabt at h; simp at h; omega
end Go.Proofs.Ytefkifebgeagiaa
namespace Go.Proofs.Ytefkifebgeagiaa
set_option linter.all false
open Go.RowKit
structure Entry where
 keys : List Int
 masks : List Int
 len : Int
 prio : Int
 act : Int
 args : List Int
instance : Inhabited Entry := ⟨⟨[], [], 0, 0, 0, []⟩⟩
end Go.Proofs.Ytefkifebgeagiaa
namespace Go.Proofs.Ytefkifebgeagiaa
set_option linter.all false
open Go.RowKit
def Small (e : Entry) : Prop := e.keys.length ≤ 1000000 ∧ e.masks.length ≤ 1000000 ∧ e.args.length ≤ 1000000
theorem qad7 : Try.prog.follows .mixedOrders = true := by kernel_rfl
end Go.Proofs.Ytefkifebgeagiaa
namespace Go.Proofs.Ytefkifebgeagiaa
set_option linter.all false
open Go.RowKit
structure Kn where
 set : Bool
 just : Bool
 n : Int
 room : Int
instance : Inhabited Kn := ⟨⟨false, false, 0, 0⟩⟩
def kc (k : Kn) : List SV := [.bool k.set, .bool k.just, .int .u64 k.n, .int .i64 k.room]
end Go.Proofs.Ytefkifebgeagiaa
namespace Go.Proofs.Ytefkifebgeagiaa
set_option linter.all false
open Go.RowKit
variable {w : World} {ρ : qaau} {fp : Nat → Nat → Prop} {O : Nat → Prop} {h1 : Hp}
theorem qadg (k : Nat) : ¬ Live [] fp k := fun ⟨_, _, h, _⟩ => by cases h
def Lent (h1 : Hp) (x y : SV) : Prop := ∀ (O : Nat → Prop) (ρ : qaau) (fp : Nat → Nat → Prop) (w : World) (v : Value), HeapOk O ρ fp h1 w → RepV w (fun k => O k ∨ Live h1 fp k) ρ x v → RepV w (fun k => O k ∨ Live [] fp k) ρ y v
def qapj (h1 : Hp) : List SV → List SV → Prop
 | [], [] => True
 | x :: xs, y :: ys => Lent h1 x y ∧ qapj h1 xs ys
 | _, _ => False
theorem qapd {k : Nat} : (O k ∨ Live [] fp k) → O k ∨ Live h1 fp k := fun hk => hk.elim .inl fun h => absurd h (qadg k)
theorem qacm (x : SV) : Lent h1 x x := fun _ _ _ _ _ _ hx => hx.weaken fun _ hk _ => qapd hk
theorem qaek : ∀ {xs ys}, qapj h1 xs ys → xs.length = ys.length
 | [], [], _ => rfl
 | _ :: _, _ :: _, h => by simp [qaek h.2]
 | [], _ :: _, h => h.elim
 | _ :: _, [], h => h.elim
theorem qafg : ∀ {xs ys : List SV} {j : Nat} {y : SV}, qapj h1 xs ys → ys[j]? = some y → ∃ x, xs[j]? = some x ∧ Lent h1 x y
 | x :: xs, y :: ys, 0, _, h, hy => by cases hy; exact ⟨x, rfl, h.1⟩
 | x :: xs, y :: ys, j + 1, _, h, hy => qafg (xs := xs) (ys := ys) (j := j) h.2 (by simpa using hy)
 | [], [], _, _, _, hy => by simp at hy
 | [], _ :: _, _, _, h, _ => h.elim
 | _ :: _, [], _, _, h, _ => h.elim
theorem qaej {id z e : Nat} {es : List (List SV)} (ho : geth h1 id = some (.row e z es)) (hp : ∀ e ∈ es, qaga e) {n : Nat} (hn : n = es.length) : Lent h1 (.own id n) (.view z es) := fun O ρ fp w v hok hx => by
 subst hn
 obtain ⟨v0, us, how, ⟨hrep, huo⟩, hzs, hρ', hfp⟩ := hok.objs id _ ho
 generalize hn : es.length = n at hx
 cases hx with
 | own0 hρ => rw [List.eq_nil_of_length_eq_zero hn]; exact .view0 (by simp [maxLen]) (fun _ => rfl)
 | own hρ hnc hm =>
  rename_i b c
  rw [hρ] at hρ'
  have hp0 : qack v0 = some (b, c) := (Option.some.inj hρ').symm
  obtain ⟨hv0, hcell, hlt, _, _⟩ := qacy how hp0
  have hown : fp id b := (hfp b).2 (by rw [hv0]; rfl)
  have hval : ∀ i e j x, es[i]? = some e → e[j]? = some x → ∃ u, us[i * z + j]? = some u ∧ RepV w (fun k => O k ∨ Live h1 fp k) ρ x u := fun i e j x he hx => hrep.get (qad0 hzs he hx)
  refine .view (fun i j => us.getD (i * z + j) undef) hn hnc hm (fun hO => hO.elim (hok.lt b ⟨id, _, ho, hown⟩).2 (qadg b)) hlt hzs (fun i e j x he hx => ?_) (fun i e j x he hx => ?_) (fun i e j x he hx => ?_)
  ·obtain ⟨u, h1, h2⟩ := hval i e j x he hx
   rw [Nat.zero_add, List.getD_eq_getElem?_getD, h1]
   exact hcell _ _ h1
  ·obtain ⟨u, h1, h2⟩ := hval i e j x he hx
   rw [List.getD_eq_getElem?_getD, h1]
   exact (hp e (List.mem_of_getElem? he) x (List.mem_of_getElem? hx) _ _ _ _ h2).weaken fun k hk _ => qapd hk
  ·obtain ⟨u, h1, h2⟩ := hval i e j x he hx
   rw [List.getD_eq_getElem?_getD, h1]
   exact huo u (List.mem_of_getElem? h1)
theorem qaqh {id off t : Nat} {cs ds : List SV} (ho : geth h1 id = some (.cells t cs)) (hl : qapj h1 (cs.drop off) ds) (hp : qaga ds) : Lent h1 (.ptr id off) (.cp ds) := fun O ρ fp w v hok hx => by
 obtain ⟨b, c, us, hρ', hbl, ⟨hrep, huo⟩, hfp⟩ := hok.objs id _ ho
 cases hx with
 | ptr hρ =>
  rw [hρ] at hρ'; cases hρ'
  have hval : ∀ (j : Nat) y, ds[j]? = some y → ∃ u, us[off + j]? = some u ∧ RepV w (fun k => O k ∨ Live [] fp k) noPl y u := fun j y hy => by
   obtain ⟨x, hx, hxy⟩ := qafg hl hy
   rw [List.getElem?_drop] at hx
   obtain ⟨u, h1, h2⟩ := hrep.get hx
   exact ⟨u, h1, hp y (List.mem_of_getElem? hy) _ _ _ _ (hxy O ρ fp w u hok h2)⟩
  refine .cp (fun j => us.getD (off + j) undef) (fun hO => hO.elim (hok.lt b ⟨id, _, ho, (hfp b).2 rfl⟩).2 (qadg b)) hbl.lt (fun j x hx => ?_) (fun j x hx => ?_) (fun j x hx => ?_)
  ·obtain ⟨u, h1, h2⟩ := hval j x hx
   rw [hbl.cell, List.getD_eq_getElem?_getD, h1]
   simpa using h1
  ·obtain ⟨u, h1, h2⟩ := hval j x hx
   rw [List.getD_eq_getElem?_getD, h1]
   exact h2
  ·obtain ⟨u, h1, h2⟩ := hval j x hx
   rw [List.getD_eq_getElem?_getD, h1]
   exact huo u (List.mem_of_getElem? h1)
def qafm (x : SV) : Prop := ∀ w A A' ρ v, RepV w A ρ x v → RepV w A' ρ x v
theorem qala (b : Bool) : qafm (.bool b) := fun w A A' ρ v h => by cases h; exact .bool
theorem qadt (k : IntKind) (n : Int) : qafm (.int k n) := fun w A A' ρ v h => by cases h; exact .int
theorem qaix : qafm .nilsl := fun w A A' ρ v h => by cases h; exact .nilsl
def qaf6 (cs : List SV) : Prop := ∀ x ∈ cs, qafm x
theorem qaeq : qaf6 [] := fun x hx => by cases hx
theorem qabo {x : SV} {cs : List SV} (h : qafm x) (hs : qaf6 cs) : qaf6 (x :: cs) := fun y hy => by
 rcases List.mem_cons.1 hy with e | e
 ·rw [e]; exact h
 ·exact hs y e
theorem qaf0 {A A' : Nat → Prop} {cs : List SV} {vs : List Value} (hc : qaf6 cs) (h : Reps w A ρ cs vs) : Reps w A' ρ cs vs :=
 ⟨h.1, fun j x v hx hv => hc x (List.mem_of_getElem? hx) _ _ _ _ _ (h.2 j x v hx hv)⟩
theorem qaie {cs : List SV} (hc : qaf6 cs) : qafm (.agg cs) := fun w A A' ρ v h => by
 cases h with
 | agg ho hl hh => exact .agg ho hl fun j x v hx hv => hc x (List.mem_of_getElem? hx) _ _ _ _ _ (hh j x v hx hv)
theorem qan1 {cs : List SV} (hc : qaf6 cs) : qafm (.tup cs) := fun w A A' ρ v h => by
 cases h with
 | tup hl hh => exact .tup hl fun j x v hx hv => hc x (List.mem_of_getElem? hx) _ _ _ _ _ (hh j x v hx hv)
def CleanO : SObj → Prop
 | .cells _ cs => qaf6 cs
 | .row _ _ es => ∀ e ∈ es, qaf6 e
 | .abs _ => False
theorem qan2 {A A' : Nat → Prop} {id : Nat} {F : Nat → Prop} {o : SObj} (hc : CleanO o) (h : ObjRep w A ρ id F o) : ObjRep w A' ρ id F o := by
 cases o with
 | cells t cs =>
  obtain ⟨b, c, vs, q1, q2, ⟨q3, q4⟩, q5⟩ := h
  exact ⟨b, c, vs, q1, q2, ⟨qaf0 hc q3, q4⟩, q5⟩
 | row e z es =>
  obtain ⟨v, vs, q1, ⟨q2, q3⟩, q4, q5, q6⟩ := h
  exact ⟨v, vs, q1, ⟨qaf0 (fun x hx => by obtain ⟨e, he, hx⟩ := List.mem_flatten.1 hx; exact hc e he x hx) q2, q3⟩, q4, q5, q6⟩
 | abs I => exact hc.elim
theorem qait (h1 h2 : Hp) (id : Nat) : geth (h1 ++ h2) id = match geth h1 id with | some o => some o | none => geth h2 id := by
 induction h1 with
 | nil => rfl
 | cons p h1 ih =>
  obtain ⟨i, o⟩ := p
  rw [List.cons_append]
  simp only [geth]
  split
  ·rfl
  ·exact ih
theorem qail {P : Program} {f : FuncId} {args args' : List SV} {h1 h2 : Hp} {q n : Nat} {r : SV} (h : SCalls P f args' [] q r h2 n) (ha : qapj h1 args args') (hr : qafm r) (hc : ∀ id o, geth h2 id = some o → CleanO o)
  (hd : ∀ id, geth h1 id ≠ none → geth h2 id = none) : SCalls P f args h1 q r (h1 ++ h2) n := by
 refine ⟨h.ent, fun O ρ fp w vs hok hargs hfr => ?_⟩
 have hargs' : Reps w (fun k => O k ∨ Live [] fp k) ρ args' vs := by
  refine ⟨by rw [← qaek ha]; exact hargs.1, fun j y v hy hv => ?_⟩
  obtain ⟨x, h1, h2⟩ := qafg ha hy
  exact h2 O ρ fp w v hok (hargs.2 j x v h1 hv)
 refine (h.does O ρ fp w vs ⟨fun id o ho => (by cases ho), fun id id' o o' _ ho => (by cases ho), fun k hk => absurd hk (qadg k), hok.O_lt⟩ hargs' hfr).mono ?_
 rintro e w' ⟨v, ρ', fp', rfl, hk, hv, hst, hρ, hnew, hfp⟩
 have hst' : ∀ S : Nat → Prop, Step S w w' := fun S => hst.mono fun k hk => absurd hk (qadg k)
 have hbig : ∀ id o, geth h2 id = some o → ∀ k, fp' id k → w.heap.size ≤ k := fun id o ho k hk => (hfp id o ho k hk).elim (fun h => absurd h (qadg k)) fun h => h
 have hg : ∀ id o, geth (h1 ++ h2) id = some o → geth h1 id = some o ∧ geth h2 id = none ∨ geth h1 id = none ∧ geth h2 id = some o := fun id o ho => by
  rw [qait] at ho
  cases e : geth h1 id with
  | some o' => rw [e] at ho; cases ho; exact .inl ⟨rfl, hd id (by rw [e]; simp)⟩
  | none => rw [e] at ho; exact .inr ⟨rfl, ho⟩
 let F : Nat → Nat → Prop := fun id k => (geth h2 id ≠ none ∧ fp' id k) ∨ (geth h2 id = none ∧ fp id k)
 have F1 : ∀ id, geth h2 id = none → F id = fp id := fun id hn => by funext k; simp [F, hn]
 have F2 : ∀ id o, geth h2 id = some o → F id = fp' id := fun id o hn => by funext k; simp [F, hn]
 have hav : ∀ k, (O k ∨ Live (h1 ++ h2) F k) → k < w.heap.size → O k ∨ Live h1 fp k := by
  rintro k (hO | ⟨id, o, ho, hk'⟩) hlt
  ·exact .inl hO
  ·rcases hg id o ho with ⟨q1, q2⟩ | ⟨q1, q2⟩
   ·rw [F1 id q2] at hk'; exact .inr ⟨id, o, q1, hk'⟩
   ·rw [F2 id o q2] at hk'; exact absurd (hbig id o q2 k hk') (by omega)
 refine ⟨v, ρ', F, rfl, ⟨fun id o ho => ?_, fun id id' o o' hne ho ho' k hk' hk2 => ?_, ?_, hk.O_lt⟩, hr _ _ _ _ _ hv, hst' _, hρ, hnew, fun id o ho k hk' => ?_⟩
 ·rcases hg id o ho with ⟨q1, q2⟩ | ⟨q1, q2⟩
  ·rw [F1 id q2]
   exact (hok.objs id o q1).mono ⟨hst' _, hav, hρ⟩ fun k hk' => hst.block k (hok.lt k ⟨id, o, q1, hk'⟩).1 (qadg k)
  ·rw [F2 id o q2]
   exact qan2 (hc id o q2) (hk.objs id o q2)
 ·rcases hg id o ho with ⟨q1, q2⟩ | ⟨q1, q2⟩ <;> rcases hg id' o' ho' with ⟨q3, q4⟩ | ⟨q3, q4⟩
  ·rw [F1 id q2] at hk'; rw [F1 id' q4] at hk2; exact hok.disj id id' o o' hne q1 q3 k hk' hk2
  ·rw [F1 id q2] at hk'; rw [F2 id' o' q4] at hk2
   have := (hok.lt k ⟨id, o, q1, hk'⟩).1; have := hbig id' o' q4 k hk2; omega
  ·rw [F2 id o q2] at hk'; rw [F1 id' q4] at hk2
   have := (hok.lt k ⟨id', o', q3, hk2⟩).1; have := hbig id o q2 k hk'; omega
  ·rw [F2 id o q2] at hk'; rw [F2 id' o' q4] at hk2; exact hk.disj id id' o o' hne q2 q4 k hk' hk2
 ·rintro k ⟨id, o, ho, hk'⟩
  rcases hg id o ho with ⟨q1, q2⟩ | ⟨q1, q2⟩
  ·rw [F1 id q2] at hk'
   have := hok.lt k ⟨id, o, q1, hk'⟩
   exact ⟨Nat.lt_of_lt_of_le this.1 hst.size, this.2⟩
  ·rw [F2 id o q2] at hk'
   exact hk.lt k ⟨id, o, q2, hk'⟩
 ·rcases hg id o ho with ⟨q1, q2⟩ | ⟨q1, q2⟩
  ·rw [F1 id q2] at hk'; exact .inl ⟨id, o, q1, hk'⟩
  ·rw [F2 id o q2] at hk'; exact .inr (hbig id o q2 k hk')
theorem qadx {P : Program} {f : FuncId} {args args' : List SV} {h1 : Hp} {q : Nat} {r : SV} (h : SCalls P f args' [] q r []) (ha : qapj h1 args args') (hr : qafm r) : SCalls P f args h1 q r h1 := by
 have := qail h ha hr (fun id o ho => by cases ho) fun _ _ => rfl
 rwa [List.append_nil] at this
end Go.Proofs.Ytefkifebgeagiaa
namespace Go.Proofs.Ytefkifebgeagiaa
set_option linter.all false
open Go.RowKit
attribute [local simp] qab2 qab1 qaa2 qabg qaa3 qabf qabz qab0 qaav qacs SOp.run SX.ev putd puts argS upds SOp.touch SSt.keep SSt.skip gets geth puth delh idOf SV.cells? setL qaf7 qaf8 sbin eq0 eq1 eqL qafp qaef qaeg qaaj qab3 qaaa qab4 qact qaae qaas FrzOk qabj qaa5 qabh qabi qaax qaa4 qab5 qaa6 qaaz qabk qaay frzS frzH frz frz1 frz0 SlotsM ObjsM ObjM rn ren ren1 ren0 qacw qadi qaep qacv qab6 qadj qaeo CoL qabm qabl dels adds idsH qabc
def icv (x : Ins) : List SV := [.int .i64 x.op, .int .i64 x.r, .int .i64 x.s, .int .i64 x.k, .int .i64 x.to, .int .u64 x.n]
end Go.Proofs.Ytefkifebgeagiaa
namespace Go.Proofs.Ytefkifebgeagiaa
set_option linter.all false
open Go.RowKit
attribute [local simp] qab2 qab1 qaa2 qabg qaa3 qabf qabz qab0 qaav qacs SOp.run SX.ev putd puts argS upds SOp.touch SSt.keep SSt.skip gets geth puth delh idOf SV.cells? setL qaf7 qaf8 sbin eq0 eq1 eqL qafp qaef qaeg qaaj qab3 qaaa qab4 qact qaae qaas FrzOk qabj qaa5 qabh qabi qaax qaa4 qab5 qaa6 qaaz qabk qaay frzS frzH frz frz1 frz0 SlotsM ObjsM ObjM rn ren ren1 ren0 qacw qadi qaep qacv qab6 qadj qaeo CoL qabm qabl dels adds idsH qabc
def scv (t : Shape) : List SV := [.int .i64 t.keys, .int .i64 t.acts, .int .i64 t.args]
structure InsP (slots : Int) (tabs : List Shape) (x : Ins) : Prop where
 r : 0 ≤ x.r ∧ x.r < 10
 s : x.op ≠ 13 → 0 ≤ x.s ∧ x.s < 10
 n0 : 0 ≤ x.n
 k6 : x.op = 6 → 1 ≤ x.k ∧ x.k ≤ 8 ∧ x.n ≤ 600
 n7 : x.op = 7 ∨ x.op = 8 → x.n < slots
 n9 : x.op = 9 → x.n ≤ 600
 tn : x.op = 13 → x.n < tabs.length
 t : x.op = 13 → 1 ≤ (nth tabs x.n.toNat).keys ∧ (nth tabs x.n.toNat).keys ≤ 3 ∧ 0 ≤ (nth tabs x.n.toNat).args ∧ (nth tabs x.n.toNat).args ≤ 3
 ts : x.op = 13 → 0 ≤ x.s ∧ x.s ≤ slots - (nth tabs x.n.toNat).keys
 tk : x.op = 13 → 0 ≤ x.k ∧ x.k ≤ slots - (nth tabs x.n.toNat).args
 sl : 0 ≤ slots ∧ slots ≤ 96
end Go.Proofs.Ytefkifebgeagiaa
namespace Go.Proofs.Ytefkifebgeagiaa
set_option linter.all false
open Go.RowKit
def mk (f : Nat → Int) (m : Nat) : List Int := (List.range m).map f
def Bits (f : Nat → Int) : Prop := ∀ k, 0 ≤ f k ∧ f k ≤ 1
def acc (f : Nat → Int) : Nat → Int
 | 0 => 0
 | i + 1 => 2 * acc f i + f i
theorem Bits.drop {xs : List Int} (h : Bits (el xs)) (lo : Nat) : Bits (el (xs.drop lo)) := fun k => by rw [el_drop]; exact h _
theorem Bits.take {xs : List Int} (h : Bits (el xs)) (m : Nat) : Bits (el (xs.take m)) := fun k => by
 rw [el_take]; split
 ·exact h k
 ·omega
theorem Bits.append {xs ys : List Int} (h : Bits (el xs)) (g : Bits (el ys)) : Bits (el (xs ++ ys)) := fun k => by
 rw [qany]; split
 ·exact h k
 ·exact g _
theorem Bits.fit {xs : List Int} (h : Bits (el xs)) : AllFit .u8 xs := by
 intro x hx
 obtain ⟨i, hi, rfl⟩ := List.mem_iff_getElem.1 hx
 have := h i
 rw [qaf9 _ _ hi] at this
 exact Fits.of_u8 (by omega) (by omega)
end Go.Proofs.Ytefkifebgeagiaa
namespace Go.Proofs.Ytefkifebgeagiaa
set_option linter.all false
open Go.RowKit
structure Ins.Small (x : Ins) : Prop where
 op : 0 ≤ x.op ∧ x.op ≤ 255
 r : 0 ≤ x.r ∧ x.r ≤ 255
 s : 0 ≤ x.s ∧ x.s ≤ 255
 k : 0 ≤ x.k ∧ x.k ≤ 255
 to : 0 ≤ x.to ∧ x.to ≤ 65535
theorem Ins.small {slots : Int} {tabs : List Shape} {x : Ins} {n i : Nat} (hs : 0 ≤ slots ∧ slots ≤ 96) (ht : ∀ t ∈ tabs, qabt t = false) (hn : n ≤ 60000) (hx : x.wf) (h : qacf slots tabs x = true) (hj : qad3 n i x = false) : x.Small := by
 unfold qacf qak4 qanm at h
 unfold qad3 at hj
 simp only [Bool.and_eq_true, Bool.or_eq_true, decide_eq_true_eq] at h
 obtain ⟨⟨⟨⟨⟨⟨⟨ho, fr⟩, fs⟩, fk⟩, ft⟩, fn⟩, ⟨⟨hr, hs2⟩, hto⟩⟩, hkk⟩ := h
 have hop : 1 ≤ x.op ∧ x.op ≤ 18 := by unfold isOp at ho; simpa using ho
 have h13 : x.op = 13 → (0 ≤ x.s ∧ x.s ≤ 96) ∧ (0 ≤ x.k ∧ x.k ≤ 96) := by
  intro e
  unfold qaak at hkk
  rw [e] at hkk
  simp at hkk
  obtain ⟨⟨a, b⟩, c⟩ := hkk
  have hn0 := hx.2.2.2.2.2.u64
  have hm := ht (nth tabs x.n.toNat) (by rw [qaiq _ _ (by omega)]; exact List.getElem_mem _)
  have hm := qade hm
  unfold qada at b c
  simp at b c
  omega
 have hK : x.op = 3 → (3 ≤ x.k ∧ x.k ≤ 12) := by intro e; unfold qaak at hkk; rw [e] at hkk; simpa using hkk
 have hK6 : x.op = 6 → (1 ≤ x.k ∧ x.k ≤ 8) := by intro e; unfold qaak at hkk; rw [e] at hkk; simp at hkk; omega
 have hK14 : x.op = 14 → (1 ≤ x.k ∧ x.k ≤ 8) := by intro e; unfold qaak at hkk; rw [e] at hkk; simpa using hkk
 refine ⟨by omega, by omega, ?_, ?_, ?_⟩
 ·rcases hs2 with e | e
  ·have := h13 e; omega
  ·omega
 ·rcases fk with e | e
  ·unfold hasK at e
   simp at e
   rcases e with e | e | e | e
   ·have := hK e; omega
   ·have := hK6 e; omega
   ·have := h13 e; omega
   ·have := hK14 e; omega
  ·omega
 ·rcases ft with e | e
  ·rw [e] at hj
   simp at hj
   omega
  ·omega
structure Valid (p : Prog) : Prop where
 slots : 0 ≤ p.slots ∧ p.slots ≤ 96
 tabs : p.tabs.length ≤ 5
 code : 1 ≤ p.code.length ∧ p.code.length ≤ 60000
 tab : ∀ j, j < p.tabs.length → qabt (nth p.tabs j) = false
 ins : ∀ j, j < p.code.length → (nth p.code j).Small
theorem qaez {p : Prog} (hx : ∀ x ∈ p.code, x.wf) (h : (qacu p).1 = 0) : Valid p ∧ (qacu p).2 = 0 := by
 by_cases h1 : p.slots < 0 ∨ 96 < p.slots
 ·rw [qacz h1] at h; cases h
 by_cases h2 : 5 < p.tabs.length ∨ p.code.length = 0 ∨ 60000 < p.code.length
 ·rw [qado h1 h2] at h; cases h
 by_cases h3 : qabr (fun i => qabt (nth p.tabs i)) p.tabs.length < p.tabs.length
 ·rw [qah3 h1 h2 (qabd _ _) h3 (qac4 _ _ h3)] at h; cases h
 have h3' := qads (fun i => qabt (nth p.tabs i)) p.tabs.length (by have := qac3 (fun i => qabt (nth p.tabs i)) p.tabs.length; omega)
 by_cases h4 : qabr (qabn p.slots p.tabs p.code) p.code.length < p.code.length
 ·rw [qadp h1 h2 h3' (qabd _ _) h4 (qac4 _ _ h4)] at h
  simp only at h
  split at h <;> cases h
 have h4' := qads (qabn p.slots p.tabs p.code) p.code.length (by have := qac3 (qabn p.slots p.tabs p.code) p.code.length; omega)
 have he := qah4 h1 h2 h3' h4'
 have he2 : (qacu p).2 = 0 := by
  rw [he] at h ⊢
  split at h
  ·rename_i e; rw [if_pos e]
  ·cases h
 refine ⟨⟨by omega, by omega, by omega, h3', fun j hj => ?_⟩, he2⟩
 have hb := h4' j hj
 unfold qabn at hb
 simp only [Bool.or_eq_false_iff, Bool.not_eq_false'] at hb
 refine Ins.small (n := p.code.length) (i := j) (by omega) ?_ (by omega) ?_ hb.1 hb.2
 ·intro t ht
  obtain ⟨i, hi, rfl⟩ := List.getElem_of_mem ht
  rw [← qaiq _ _ hi]
  exact h3' i hi
 ·rw [qaiq _ _ hj]
  exact hx _ (List.getElem_mem hj)
end Go.Proofs.Ytefkifebgeagiaa
namespace Go.Proofs.Ytefkifebgeagiaa
set_option linter.all false
open Go.RowKit
theorem insP_of {slots : Int} {tabs : List Shape} {x : Ins} (hs : 0 ≤ slots ∧ slots ≤ 96) (ht : ∀ j, j < tabs.length → qabt (nth tabs j) = false) (hw : x.wf) (h : qacf slots tabs x = true) : InsP slots tabs x ∧ 0 ≤ x.to := by
 have hn0 : 0 ≤ x.n := (Fits.u64 hw.2.2.2.2.2).1
 unfold qacf at h
 simp only [Bool.and_eq_true] at h
 obtain ⟨⟨_, hr⟩, hk⟩ := h
 unfold qanm at hr
 simp only [Bool.and_eq_true, Bool.or_eq_true, decide_eq_true_eq] at hr
 obtain ⟨⟨h1, h2⟩, h3⟩ := hr
 have k13 : x.op = 13 → x.n < tabs.length ∧ qada slots x.s (nth tabs x.n.toNat).keys = true ∧ qada slots x.k (nth tabs x.n.toNat).args = true := fun e => by
  unfold qaak at hk
  simpa [e, and_assoc] using hk
 have kt : x.op = 13 → qabt (nth tabs x.n.toNat) = false := fun e => ht _ (by have := (k13 e).1; omega)
 refine ⟨⟨h1, fun e => h2.resolve_left e, hn0, fun e => ?_, fun e => ?_, fun e => ?_, fun e => (k13 e).1, fun e => ?_, fun e => ?_, fun e => ?_, hs⟩, h3⟩
 ·unfold qaak at hk
  simpa [e] using hk
 ·unfold qaak at hk
  rcases e with e | e <;> simpa [e] using hk
 ·unfold qaak at hk
  simpa [e] using hk
 ·have := qade (kt e); omega
 ·have := (k13 e).2.1; unfold qada at this; simpa using this
 ·have := (k13 e).2.2; unfold qada at this; simpa using this
theorem qaei {p : Prog} (hx : ∀ x ∈ p.code, x.wf) (h : (qacu p).1 = 0) : ∀ i, i < p.code.length → InsP p.slots p.tabs (nth p.code i) ∧ 0 ≤ (nth p.code i).to ∧ (hasT (nth p.code i).op = true → (nth p.code i).to < (p.code.length : Int) - i - 1) := by
 have hv := (qaez hx h).1
 by_cases h1 : p.slots < 0 ∨ 96 < p.slots
 ·rw [qacz h1] at h; cases h
 by_cases h2 : 5 < p.tabs.length ∨ p.code.length = 0 ∨ 60000 < p.code.length
 ·rw [qado h1 h2] at h; cases h
 by_cases h4 : qabr (qabn p.slots p.tabs p.code) p.code.length < p.code.length
 ·rw [qadp h1 h2 hv.tab (qabd _ _) h4 (qac4 _ _ h4)] at h
  simp only at h
  split at h <;> cases h
 have h4' := qads (qabn p.slots p.tabs p.code) p.code.length (by have := qac3 (qabn p.slots p.tabs p.code) p.code.length; omega)
 intro i hi
 have hb := h4' i hi
 unfold qabn at hb
 simp only [Bool.or_eq_false_iff, Bool.not_eq_false'] at hb
 obtain ⟨q1, q2⟩ := insP_of hv.slots hv.tab (by rw [qaiq _ _ hi]; exact hx _ (List.getElem_mem hi)) hb.1
 refine ⟨q1, q2, fun ht => ?_⟩
 have := hb.2
 unfold qad3 at this
 rw [ht] at this
 simpa using this
end Go.Proofs.Ytefkifebgeagiaa
namespace Go.Proofs.Ytefkifebgeagiaa
set_option linter.all false
open Go.RowKit
def qab7 (op : Int) : ByteArray :=
 if op = 1 ∨ op = 7 ∨ op = 8 then ⟨#[114, 110]⟩ else if op = 2 ∨ op = 5 then ⟨#[114, 115]⟩ else if op = 3 then ⟨#[114, 115, 107]⟩ else if op = 4 ∨ op = 15 ∨ op = 16 ∨ op = 18 then ⟨#[114]⟩
 else if op = 6 ∨ op = 13 then ⟨#[114, 115, 107, 110]⟩ else if op = 9 then ⟨#[114, 116, 110]⟩ else if op = 10 ∨ op = 11 then ⟨#[114, 115, 116]⟩ else if op = 12 then ⟨#[116]⟩ else if op = 14 then ⟨#[114, 107]⟩ else if op = 17 then ⟨#[]⟩ else ⟨#[63]⟩
theorem qagi {op : Int} (h : isOp op = true) : op = 1 ∨ op = 2 ∨ op = 3 ∨ op = 4 ∨ op = 5 ∨ op = 6 ∨ op = 7 ∨ op = 8 ∨ op = 9 ∨ op = 10 ∨ op = 11 ∨ op = 12 ∨ op = 13 ∨ op = 14 ∨ op = 15 ∨ op = 16 ∨ op = 17 ∨ op = 18 := by
 unfold isOp at h; simp at h; omega
theorem has_no (op : Int) (w : World) (h : isOp op = false) : Calls Try.prog 62 #[.int .i64 op] w fun e w' => e = .returned (.string ⟨#[63]⟩) ∧ w = w' := by
 unfold isOp at h
 simp only [decide_eq_false_iff_not] at h
 have h : op < 1 ∨ (1 ≤ op ∧ 18 < op) := by omega
 rcases h with h | h
 all_goals
  go_enter Try.func62, Try.ntmps62
  go_wp2
  go_ret
  exact ⟨rfl, rfl⟩
def hasRow : Array Value := #[.string ⟨#[]⟩, .string ⟨#[114, 110]⟩, .string ⟨#[114, 115]⟩, .string ⟨#[114, 115, 107]⟩, .string ⟨#[114]⟩, .string ⟨#[114, 115]⟩, .string ⟨#[114, 115, 107, 110]⟩, .string ⟨#[114, 110]⟩, .string ⟨#[114, 110]⟩, .string ⟨#[114, 116, 110]⟩, .string ⟨#[114, 115, 116]⟩, .string ⟨#[114, 115, 116]⟩, .string ⟨#[116]⟩, .string ⟨#[114, 115, 107, 110]⟩, .string ⟨#[114, 107]⟩, .string ⟨#[114]⟩, .string ⟨#[114]⟩, .string ⟨#[]⟩, .string ⟨#[114]⟩]
theorem qant (op : Int) (h : isOp op = true) (w : World) : (Instr.index 120 (.agg hasRow) (.int .i64 op)).run Try.prog w = .ok (.string (qab7 op)) w := by
 rcases qagi h with rfl | rfl | rfl | rfl | rfl | rfl | rfl | rfl | rfl | rfl | rfl | rfl | rfl | rfl | rfl | rfl | rfl | rfl
 all_goals kernel_rfl
set_option maxRecDepth 100000 in
set_option maxHeartbeats 1000000 in
theorem qabx (op : Int) (w : World) (h : isOp op = true) : Calls Try.prog 62 #[.int .i64 op] w fun e w' => e = .returned (.string (qab7 op)) ∧ w = w' := by
 have hi := qant op h
 unfold hasRow at hi
 have h' := h
 unfold isOp at h'
 simp only [decide_eq_true_eq] at h'
 obtain ⟨h1, h2⟩ := h'
 go_enter Try.func62, Try.ntmps62
 go_wp2
 go_ret
 exact ⟨rfl, rfl⟩
def qajz (s : ByteArray) (c : Int) : Bool := s.data.toList.any fun x => (x.toNat : Int) == c
theorem qaa7 (op : Int) (h : isOp op = true) : qajz (qab7 op) 114 = hasR op ∧ qajz (qab7 op) 115 = hasS op ∧ qajz (qab7 op) 107 = hasK op ∧ qajz (qab7 op) 116 = hasT op ∧ qajz (qab7 op) 110 = hasN op ∧ ((qab7 op).toList == [63]) = false ∧ (qab7 op).size ≤ 4 := by
 rcases qagi h with rfl | rfl | rfl | rfl | rfl | rfl | rfl | rfl | rfl | rfl | rfl | rfl | rfl | rfl | rfl | rfl | rfl | rfl
 all_goals decide +kernel
set_option maxHeartbeats 400000 in
theorem qaa9 (s : ByteArray) (c : Int) (w : World) (hs : s.size ≤ 1000) : Calls Try.prog 61 #[.string s, .int .u8 c] w fun e w' => e = .returned (.bool (qajz s c)) ∧ w = w' := by
 go_enter Try.func61, Try.ntmps61
 go_wp2
 go_loop [8] (fun i => ∃ k : Nat, k ≤ s.size ∧ i = .int .i64 k ∧ ∀ j (h : j < s.size), j < k → (s[j].toNat : Int) ≠ c) (fun i => s.size - (intOf i).toNat)
 case atStart => exact ⟨0, Nat.zero_le _, rfl, fun j _ h => absurd h (Nat.not_lt_zero j)⟩
 case round =>
  obtain ⟨k, hk, rfl, hno⟩ := hrel
  have HN := Lib.hid hno
  clear hno
  by_cases hlt : k < s.size
  ·by_cases hc : (s[k].toNat : Int) = c
   ·have e1 : Hid (qajz s c = true) := by
     show qajz s c = true
     unfold qajz
     rw [List.any_eq_true]
     exact ⟨s[k], by rw [show s[k] = s.data[k] from rfl]; exact Array.mem_toList_iff.2 (Array.getElem_mem _), by rw [beq_iff_eq]; exact hc⟩
    have hq : ((s[k].toNat : Int) == c) = true := by rw [beq_iff_eq]; exact hc
    clear hc
    go_wp2
    go_ret
    exact ⟨by rw [e1.out]; rfl, rfl⟩
   ·have hq : ((s[k].toNat : Int) == c) = false := by rw [beq_eq_false_iff_ne]; exact hc
    have hno2 : Hid (∀ j (h : j < s.size), j < k + 1 → (s[j].toNat : Int) ≠ c) := fun j hj hj2 => by
     by_cases e : j = k
     ·subst e; exact hc
     ·exact HN.out j hj (by omega)
    clear hc
    go_wp2
    go_round
    case rel => exact ⟨k + 1, by omega, by go_num, hno2.out⟩
    case measure => simp [intOf]; omega
  ·have e1 : Hid (qajz s c = false) := by
    show qajz s c = false
    unfold qajz
    rw [List.any_eq_false]
    intro x hx
    rw [Array.mem_toList_iff] at hx
    obtain ⟨i, hi, rfl⟩ := Array.getElem_of_mem hx
    have := HN.out i hi (by have : i < s.size := hi; omega)
    rw [beq_iff_eq]
    exact this
   go_wp2
   go_ret
   exact ⟨by rw [e1.out]; rfl, rfl⟩
theorem qam4 (op : Int) (w : World) : Calls Try.prog 63 #[.int .i64 op] w fun e w' => e = .returned (.bool (qak2 op)) ∧ w = w' := by
 have h : qak2 op = (decide (op = 16) || decide (op = 17)) := by unfold qak2; simp
 rw [h]
 clear h
 by_cases h1 : op = 16
 ·subst h1
  go_enter Try.func63, Try.ntmps63
  go_wp2
  go_ret
  exact ⟨rfl, rfl⟩
 by_cases h2 : op = 17
 ·subst h2
  go_enter Try.func63, Try.ntmps63
  go_wp2
  go_ret
  exact ⟨rfl, rfl⟩
 have q1 : (op == 16) = false := by rw [beq_eq_false_iff_ne]; exact h1
 have q2 : (op == 17) = false := by rw [beq_eq_false_iff_ne]; exact h2
 go_enter Try.func63, Try.ntmps63
 go_wp2
 go_ret
 exact ⟨by simp [h1, h2], rfl⟩
def regB (n : Int) : Bool := decide (0 ≤ n ∧ n < 10)
theorem qaci (n : Int) (w : World) : Calls Try.prog 69 #[.int .i64 n] w fun e w' => e = .returned (.bool (regB n)) ∧ w = w' := by
 go_enter Try.func69, Try.ntmps69
 go_wp2
 all_goals
  go_ret
  exact ⟨by simp [regB]; try omega, rfl⟩
end Go.Proofs.Ytefkifebgeagiaa
namespace Go.Proofs.Ytefkifebgeagiaa
set_option linter.all false
open Go.RowKit
theorem qabv (slots : Int) (tabs : List Shape) (x : Ins) (r s k t n : Bool) (hi : isOp x.op = true) (hr : hasR x.op = r) (hs : hasS x.op = s) (hk : hasK x.op = k) (ht : hasT x.op = t) (hn : hasN x.op = n) :
  qacf slots tabs x = ((r || x.r == 0) && (s || x.s == 0) && (k || x.k == 0) && (t || x.to == 0) && (n || x.n == 0) && regB x.r && (x.op == 13 || regB x.s) && decide (0 ≤ x.to) && qaak slots tabs x) := by
 unfold qacf qak4 qanm regB
 rw [hi, hr, hs, hk, ht, hn]
 simp only [Bool.beq_eq_decide_eq, Bool.true_and, Bool.and_assoc]
end Go.Proofs.Ytefkifebgeagiaa
namespace Go.Proofs.Ytefkifebgeagiaa
set_option linter.all false
open Go.RowKit
theorem qahy (slots at_ n : Int) (to_ co : Option Addr) (tn tc cn cc : Nat) (w : World) (hs : 0 ≤ slots ∧ slots ≤ 96) (hn : 0 ≤ n ∧ n ≤ 3) :
  Calls Try.prog 70 #[.agg #[.int .i64 slots, .slice to_ tn tc, .slice co cn cc], .int .i64 at_, .int .i64 n] w fun e w' => e = .returned (.bool (qada slots at_ n)) ∧ Below w.heap.size w w' := by
 obtain ⟨hs1, hs2⟩ := hs
 obtain ⟨hn1, hn2⟩ := hn
 go_enter Try.func70, Try.ntmps70
 go_wp2
 all_goals
  go_ret
  exact ⟨by simp [qada, go_sem, *]; try omega, by go_grown⟩
set_option maxRecDepth 100000 in
set_option maxHeartbeats 2000000 in
theorem fits_13 (slots : Int) (to_ : Option Addr) (tc : Nat) (tabs : List Shape) (co : Option Addr) (cn cc : Nat) (x : Ins) (A : Nat → Prop) (w : World) (ht : RdL qaba A w to_ tabs.length tc tabs) (hok : ∀ i, i < tabs.length → qabt (nth tabs i) = false) (hx : x.wf) (hs : 0 ≤ slots ∧ slots ≤ 96) (h : x.op = 13) :
  Calls Try.prog 60 #[.agg #[.int .i64 slots, .slice to_ tabs.length tc, .slice co cn cc], .agg #[.int .i64 x.op, .int .i64 x.r, .int .i64 x.s, .int .i64 x.k, .int .i64 x.to, .int .u64 x.n]] w fun e w' => e = .returned (.bool (qacf slots tabs x)) ∧ Below w.heap.size w w' := by
 obtain ⟨op, r, s, k, to, n⟩ := x
 simp only at h
 subst h
 have hn := hx.2.2.2.2.2.u64
 simp only at hn
 obtain ⟨hn1, hn2⟩ := hn
 have b1 : isOp 13 = true := rfl
 have E := qabv slots tabs ⟨13, r, s, k, to, n⟩ true true true false true rfl rfl rfl rfl rfl rfl
 obtain ⟨R, hR⟩ : ∃ R, qacf slots tabs ⟨13, r, s, k, to, n⟩ = R := ⟨_, rfl⟩
 rw [hR]
 rw [hR] at E
 replace E := Lib.hid E
 clear hR hx
 obtain ⟨i1, i2, i3, i4, i5, i6, i7⟩ := qaa7 13 b1
 rw [show hasR 13 = true from rfl] at i1
 rw [show hasS 13 = true from rfl] at i2
 rw [show hasK 13 = true from rfl] at i3
 rw [show hasT 13 = false from rfl] at i4
 rw [show hasN 13 = true from rfl] at i5
 have i8 : (qab7 13).size ≤ 1000 := by omega
 have htl := ht.lt
 clear i7
 by_cases hlt : n < tabs.length
 case neg =>
  have hge : (tabs.length : Int) ≤ n := by omega
  obtain ⟨hs1, hs2⟩ := hs
  clear hlt
  go_enter Try.func60, Try.ntmps60
  go_wp2_with (first
   | (go_at_call 62; refine (qabx _ _ b1).mono ?_; rintro e w' ⟨rfl, rfl⟩)
   | (go_at_call 61; refine (qaa9 _ _ _ i8).mono ?_; rintro e w' ⟨rfl, rfl⟩)
   | (go_at_call 69; refine (qaci _ _).mono ?_; rintro e w' ⟨rfl, rfl⟩))
  all_goals
   go_ret
   exact ⟨by rw [E.out]; have hq : ¬ n < tabs.length := by { omega }; simp [qaak, go_sem, *], by go_grown⟩
 obtain ⟨m, rfl⟩ := Int.eq_ofNat_of_zero_le hn1
 have hm : m < tabs.length := by omega
 obtain ⟨b, off, rfl, _, hb, hwf, hc0, hc1, hc2⟩ := ht.shape_at hm
 have hto := hok m hm
 have ho : (1 ≤ (nth tabs m).keys ∧ (nth tabs m).keys ≤ 3) ∧ (0 ≤ (nth tabs m).args ∧ (nth tabs m).args ≤ 3) := by unfold qabt at hto; simp at hto; omega
 clear hto hok
 go_enter Try.func60, Try.ntmps60
 go_wp2_with (first
   | (go_at_call 62; refine (qabx _ _ b1).mono ?_; rintro e w' ⟨rfl, rfl⟩)
   | (go_at_call 61; refine (qaa9 _ _ _ i8).mono ?_; rintro e w' ⟨rfl, rfl⟩)
   | (go_at_call 69; refine (qaci _ _).mono ?_; rintro e w' ⟨rfl, rfl⟩))
 rotate_left
 all_goals try (go_ret; exact ⟨by rw [E.out]; simp [qaak, go_sem, *], by go_grown⟩)
 refine (qahy _ _ _ _ _ _ _ _ _ _ hs ⟨by omega, ho.1.2⟩).mono ?_
 rintro e w1 ⟨rfl, hb1⟩
 obtain ⟨hB, k0, k1, k2⟩ := blk3 hb1
 have g0 := k0.cell 0
 have g1 := k0.cell 1
 have g2 := k0.cell 2
 have g3 := k1.cell 3
 have g4 := k2.cell 2
 simp at g0 g1 g2 g3 g4
 clear hb1 k0 k1 k2 hc0 hc1 hc2
 by_cases hq : qada slots s (nth tabs m).keys = true
 case neg =>
  simp only [Bool.not_eq_true] at hq
  go_wp2_with fail
  go_ret
  exact ⟨by rw [E.out]; simp [qaak, go_sem, *], by go_grown⟩
 go_wp2_with fail
 refine (qahy _ _ _ _ _ _ _ _ _ _ hs ho.2).mono ?_
 rintro e w2 ⟨rfl, hb2⟩
 have hB2 := ov hB hb2
 go_wp2_with fail
 go_ret
 exact ⟨by rw [E.out]; simp [qaak, go_sem, *], hB2⟩
end Go.Proofs.Ytefkifebgeagiaa
namespace Go.Proofs.Ytefkifebgeagiaa
set_option linter.all false
open Go.RowKit
set_option maxRecDepth 100000 in
set_option maxHeartbeats 2000000 in
theorem fits_1 (slots : Int) (to_ : Option Addr) (tn tc : Nat) (tabs : List Shape) (co : Option Addr) (cn cc : Nat) (x : Ins) (w : World) (hs : 0 ≤ slots ∧ slots ≤ 96) (h : x.op = 1) :
  Calls Try.prog 60 #[.agg #[.int .i64 slots, .slice to_ tn tc, .slice co cn cc], .agg #[.int .i64 x.op, .int .i64 x.r, .int .i64 x.s, .int .i64 x.k, .int .i64 x.to, .int .u64 x.n]] w fun e w' => e = .returned (.bool (qacf slots tabs x)) ∧ Below w.heap.size w w' := by
 obtain ⟨op, r, s, k, to, n⟩ := x
 simp only at h
 subst h
 have b1 : isOp 1 = true := rfl
 have b2 : hasR 1 = true := rfl
 have b3 : hasS 1 = false := rfl
 have b4 : hasK 1 = false := rfl
 have b5 : hasT 1 = false := rfl
 have b6 : hasN 1 = true := rfl
 have E := qabv slots tabs ⟨1, r, s, k, to, n⟩ true false false false true b1 b2 b3 b4 b5 b6
 obtain ⟨R, hR⟩ : ∃ R, qacf slots tabs ⟨1, r, s, k, to, n⟩ = R := ⟨_, rfl⟩
 rw [hR]
 rw [hR] at E
 replace E := Lib.hid E
 clear hR
 obtain ⟨hs1, hs2⟩ := hs
 obtain ⟨i1, i2, i3, i4, i5, i6, i7⟩ := qaa7 1 b1
 rw [b2] at i1
 rw [b3] at i2
 rw [b4] at i3
 rw [b5] at i4
 rw [b6] at i5
 have B1 := Lib.hid b1
 have i8 : (qab7 1).size ≤ 1000 := by omega
 clear b1 b2 b3 b4 b5 b6 i7
 go_enter Try.func60, Try.ntmps60
 go_wp2_with (first
  | (go_at_call 62; refine (qabx _ _ B1.out).mono ?_; rintro e w' ⟨rfl, rfl⟩)
  | (go_at_call 61; refine (qaa9 _ _ _ i8).mono ?_; rintro e w' ⟨rfl, rfl⟩)
  | (go_at_call 69; refine (qaci _ _).mono ?_; rintro e w' ⟨rfl, rfl⟩))
 all_goals
  go_ret
  exact ⟨by rw [E.out]; first | (simp [qaak, go_sem, *]; done) | (simp [qaak, go_sem, *]; omega) | (simp_all [qaak, go_sem]; done) | (simp_all [qaak, go_sem]; omega), by go_grown⟩
set_option maxRecDepth 100000 in
set_option maxHeartbeats 2000000 in
theorem fits_7 (slots : Int) (to_ : Option Addr) (tn tc : Nat) (tabs : List Shape) (co : Option Addr) (cn cc : Nat) (x : Ins) (w : World) (hs : 0 ≤ slots ∧ slots ≤ 96) (h : x.op = 7 ∨ x.op = 8) :
  Calls Try.prog 60 #[.agg #[.int .i64 slots, .slice to_ tn tc, .slice co cn cc], .agg #[.int .i64 x.op, .int .i64 x.r, .int .i64 x.s, .int .i64 x.k, .int .i64 x.to, .int .u64 x.n]] w fun e w' => e = .returned (.bool (qacf slots tabs x)) ∧ Below w.heap.size w w' := by
 obtain ⟨op, r, s, k, to, n⟩ := x
 simp only at h
 have b1 : isOp op = true := by rcases h with rfl | rfl <;> rfl
 have b2 : hasR op = true := by rcases h with rfl | rfl <;> rfl
 have b3 : hasS op = false := by rcases h with rfl | rfl <;> rfl
 have b4 : hasK op = false := by rcases h with rfl | rfl <;> rfl
 have b5 : hasT op = false := by rcases h with rfl | rfl <;> rfl
 have b6 : hasN op = true := by rcases h with rfl | rfl <;> rfl
 have q3 : (op == 3) = false := by rw [beq_eq_false_iff_ne]; omega
 have q6 : (op == 6) = false := by rw [beq_eq_false_iff_ne]; omega
 have q14 : (op == 14) = false := by rw [beq_eq_false_iff_ne]; omega
 have q9 : (op == 9) = false := by rw [beq_eq_false_iff_ne]; omega
 have q13 : (op == 13) = false := by rw [beq_eq_false_iff_ne]; omega
 have qn : (op != 13) = true := by rw [bne_iff_ne]; omega
 have H0 := Lib.hid h
 clear h
 have E := qabv slots tabs ⟨op, r, s, k, to, n⟩ true false false false true b1 b2 b3 b4 b5 b6
 obtain ⟨R, hR⟩ : ∃ R, qacf slots tabs ⟨op, r, s, k, to, n⟩ = R := ⟨_, rfl⟩
 rw [hR]
 rw [hR] at E
 replace E := Lib.hid E
 clear hR
 obtain ⟨hs1, hs2⟩ := hs
 obtain ⟨i1, i2, i3, i4, i5, i6, i7⟩ := qaa7 op b1
 rw [b2] at i1
 rw [b3] at i2
 rw [b4] at i3
 rw [b5] at i4
 rw [b6] at i5
 have B1 := Lib.hid b1
 have i8 : (qab7 op).size ≤ 1000 := by omega
 clear b1 b2 b3 b4 b5 b6 i7
 go_enter Try.func60, Try.ntmps60
 go_wp2_with (first
  | (go_at_call 62; refine (qabx _ _ B1.out).mono ?_; rintro e w' ⟨rfl, rfl⟩)
  | (go_at_call 61; refine (qaa9 _ _ _ i8).mono ?_; rintro e w' ⟨rfl, rfl⟩)
  | (go_at_call 69; refine (qaci _ _).mono ?_; rintro e w' ⟨rfl, rfl⟩))
 all_goals
  go_ret
  exact ⟨by rw [E.out]; have h := H0.out; first | (simp [qaak, go_sem, *]; done) | (simp [qaak, go_sem, *]; omega) | (simp_all [qaak, go_sem]; done) | (simp_all [qaak, go_sem]; omega), by go_grown⟩
set_option maxRecDepth 100000 in
set_option maxHeartbeats 2000000 in
theorem fits_2 (slots : Int) (to_ : Option Addr) (tn tc : Nat) (tabs : List Shape) (co : Option Addr) (cn cc : Nat) (x : Ins) (w : World) (hs : 0 ≤ slots ∧ slots ≤ 96) (h : x.op = 2 ∨ x.op = 5) :
  Calls Try.prog 60 #[.agg #[.int .i64 slots, .slice to_ tn tc, .slice co cn cc], .agg #[.int .i64 x.op, .int .i64 x.r, .int .i64 x.s, .int .i64 x.k, .int .i64 x.to, .int .u64 x.n]] w fun e w' => e = .returned (.bool (qacf slots tabs x)) ∧ Below w.heap.size w w' := by
 obtain ⟨op, r, s, k, to, n⟩ := x
 simp only at h
 have b1 : isOp op = true := by rcases h with rfl | rfl <;> rfl
 have b2 : hasR op = true := by rcases h with rfl | rfl <;> rfl
 have b3 : hasS op = true := by rcases h with rfl | rfl <;> rfl
 have b4 : hasK op = false := by rcases h with rfl | rfl <;> rfl
 have b5 : hasT op = false := by rcases h with rfl | rfl <;> rfl
 have b6 : hasN op = false := by rcases h with rfl | rfl <;> rfl
 have q3 : (op == 3) = false := by rw [beq_eq_false_iff_ne]; omega
 have q6 : (op == 6) = false := by rw [beq_eq_false_iff_ne]; omega
 have q14 : (op == 14) = false := by rw [beq_eq_false_iff_ne]; omega
 have q9 : (op == 9) = false := by rw [beq_eq_false_iff_ne]; omega
 have q7 : (op == 7) = false := by rw [beq_eq_false_iff_ne]; omega
 have q8 : (op == 8) = false := by rw [beq_eq_false_iff_ne]; omega
 have q13 : (op == 13) = false := by rw [beq_eq_false_iff_ne]; omega
 have qn : (op != 13) = true := by rw [bne_iff_ne]; omega
 have H0 := Lib.hid h
 clear h
 have E := qabv slots tabs ⟨op, r, s, k, to, n⟩ true true false false false b1 b2 b3 b4 b5 b6
 obtain ⟨R, hR⟩ : ∃ R, qacf slots tabs ⟨op, r, s, k, to, n⟩ = R := ⟨_, rfl⟩
 rw [hR]
 rw [hR] at E
 replace E := Lib.hid E
 clear hR
 obtain ⟨hs1, hs2⟩ := hs
 obtain ⟨i1, i2, i3, i4, i5, i6, i7⟩ := qaa7 op b1
 rw [b2] at i1
 rw [b3] at i2
 rw [b4] at i3
 rw [b5] at i4
 rw [b6] at i5
 have B1 := Lib.hid b1
 have i8 : (qab7 op).size ≤ 1000 := by omega
 clear b1 b2 b3 b4 b5 b6 i7
 go_enter Try.func60, Try.ntmps60
 go_wp2_with (first
  | (go_at_call 62; refine (qabx _ _ B1.out).mono ?_; rintro e w' ⟨rfl, rfl⟩)
  | (go_at_call 61; refine (qaa9 _ _ _ i8).mono ?_; rintro e w' ⟨rfl, rfl⟩)
  | (go_at_call 69; refine (qaci _ _).mono ?_; rintro e w' ⟨rfl, rfl⟩))
 all_goals
  go_ret
  exact ⟨by rw [E.out]; have h := H0.out; first | (simp [qaak, go_sem, *]; done) | (simp [qaak, go_sem, *]; omega) | (simp_all [qaak, go_sem]; done) | (simp_all [qaak, go_sem]; omega), by go_grown⟩
set_option maxRecDepth 100000 in
set_option maxHeartbeats 2000000 in
theorem fits_3 (slots : Int) (to_ : Option Addr) (tn tc : Nat) (tabs : List Shape) (co : Option Addr) (cn cc : Nat) (x : Ins) (w : World) (hs : 0 ≤ slots ∧ slots ≤ 96) (h : x.op = 3) :
  Calls Try.prog 60 #[.agg #[.int .i64 slots, .slice to_ tn tc, .slice co cn cc], .agg #[.int .i64 x.op, .int .i64 x.r, .int .i64 x.s, .int .i64 x.k, .int .i64 x.to, .int .u64 x.n]] w fun e w' => e = .returned (.bool (qacf slots tabs x)) ∧ Below w.heap.size w w' := by
 obtain ⟨op, r, s, k, to, n⟩ := x
 simp only at h
 subst h
 have b1 : isOp 3 = true := rfl
 have b2 : hasR 3 = true := rfl
 have b3 : hasS 3 = true := rfl
 have b4 : hasK 3 = true := rfl
 have b5 : hasT 3 = false := rfl
 have b6 : hasN 3 = false := rfl
 have E := qabv slots tabs ⟨3, r, s, k, to, n⟩ true true true false false b1 b2 b3 b4 b5 b6
 obtain ⟨R, hR⟩ : ∃ R, qacf slots tabs ⟨3, r, s, k, to, n⟩ = R := ⟨_, rfl⟩
 rw [hR]
 rw [hR] at E
 replace E := Lib.hid E
 clear hR
 obtain ⟨hs1, hs2⟩ := hs
 obtain ⟨i1, i2, i3, i4, i5, i6, i7⟩ := qaa7 3 b1
 rw [b2] at i1
 rw [b3] at i2
 rw [b4] at i3
 rw [b5] at i4
 rw [b6] at i5
 have B1 := Lib.hid b1
 have i8 : (qab7 3).size ≤ 1000 := by omega
 clear b1 b2 b3 b4 b5 b6 i7
 go_enter Try.func60, Try.ntmps60
 go_wp2_with (first
  | (go_at_call 62; refine (qabx _ _ B1.out).mono ?_; rintro e w' ⟨rfl, rfl⟩)
  | (go_at_call 61; refine (qaa9 _ _ _ i8).mono ?_; rintro e w' ⟨rfl, rfl⟩)
  | (go_at_call 69; refine (qaci _ _).mono ?_; rintro e w' ⟨rfl, rfl⟩))
 all_goals
  go_ret
  exact ⟨by rw [E.out]; first | (simp [qaak, go_sem, *]; done) | (simp [qaak, go_sem, *]; omega) | (simp_all [qaak, go_sem]; done) | (simp_all [qaak, go_sem]; omega), by go_grown⟩
set_option maxRecDepth 100000 in
set_option maxHeartbeats 2000000 in
theorem qanw (slots : Int) (to_ : Option Addr) (tn tc : Nat) (tabs : List Shape) (co : Option Addr) (cn cc : Nat) (x : Ins) (w : World) (hs : 0 ≤ slots ∧ slots ≤ 96) (h : x.op = 4 ∨ x.op = 15 ∨ x.op = 16 ∨ x.op = 18) :
  Calls Try.prog 60 #[.agg #[.int .i64 slots, .slice to_ tn tc, .slice co cn cc], .agg #[.int .i64 x.op, .int .i64 x.r, .int .i64 x.s, .int .i64 x.k, .int .i64 x.to, .int .u64 x.n]] w fun e w' => e = .returned (.bool (qacf slots tabs x)) ∧ Below w.heap.size w w' := by
 obtain ⟨op, r, s, k, to, n⟩ := x
 simp only at h
 have b1 : isOp op = true := by rcases h with rfl | rfl | rfl | rfl <;> rfl
 have b2 : hasR op = true := by rcases h with rfl | rfl | rfl | rfl <;> rfl
 have b3 : hasS op = false := by rcases h with rfl | rfl | rfl | rfl <;> rfl
 have b4 : hasK op = false := by rcases h with rfl | rfl | rfl | rfl <;> rfl
 have b5 : hasT op = false := by rcases h with rfl | rfl | rfl | rfl <;> rfl
 have b6 : hasN op = false := by rcases h with rfl | rfl | rfl | rfl <;> rfl
 have q3 : (op == 3) = false := by rw [beq_eq_false_iff_ne]; omega
 have q6 : (op == 6) = false := by rw [beq_eq_false_iff_ne]; omega
 have q14 : (op == 14) = false := by rw [beq_eq_false_iff_ne]; omega
 have q9 : (op == 9) = false := by rw [beq_eq_false_iff_ne]; omega
 have q7 : (op == 7) = false := by rw [beq_eq_false_iff_ne]; omega
 have q8 : (op == 8) = false := by rw [beq_eq_false_iff_ne]; omega
 have q13 : (op == 13) = false := by rw [beq_eq_false_iff_ne]; omega
 have qn : (op != 13) = true := by rw [bne_iff_ne]; omega
 have H0 := Lib.hid h
 clear h
 have E := qabv slots tabs ⟨op, r, s, k, to, n⟩ true false false false false b1 b2 b3 b4 b5 b6
 obtain ⟨R, hR⟩ : ∃ R, qacf slots tabs ⟨op, r, s, k, to, n⟩ = R := ⟨_, rfl⟩
 rw [hR]
 rw [hR] at E
 replace E := Lib.hid E
 clear hR
 obtain ⟨hs1, hs2⟩ := hs
 obtain ⟨i1, i2, i3, i4, i5, i6, i7⟩ := qaa7 op b1
 rw [b2] at i1
 rw [b3] at i2
 rw [b4] at i3
 rw [b5] at i4
 rw [b6] at i5
 have B1 := Lib.hid b1
 have i8 : (qab7 op).size ≤ 1000 := by omega
 clear b1 b2 b3 b4 b5 b6 i7
 go_enter Try.func60, Try.ntmps60
 go_wp2_with (first
  | (go_at_call 62; refine (qabx _ _ B1.out).mono ?_; rintro e w' ⟨rfl, rfl⟩)
  | (go_at_call 61; refine (qaa9 _ _ _ i8).mono ?_; rintro e w' ⟨rfl, rfl⟩)
  | (go_at_call 69; refine (qaci _ _).mono ?_; rintro e w' ⟨rfl, rfl⟩))
 all_goals
  go_ret
  exact ⟨by rw [E.out]; have h := H0.out; first | (simp [qaak, go_sem, *]; done) | (simp [qaak, go_sem, *]; omega) | (simp_all [qaak, go_sem]; done) | (simp_all [qaak, go_sem]; omega), by go_grown⟩
set_option maxRecDepth 100000 in
set_option maxHeartbeats 2000000 in
theorem fits_6 (slots : Int) (to_ : Option Addr) (tn tc : Nat) (tabs : List Shape) (co : Option Addr) (cn cc : Nat) (x : Ins) (w : World) (hs : 0 ≤ slots ∧ slots ≤ 96) (h : x.op = 6) :
  Calls Try.prog 60 #[.agg #[.int .i64 slots, .slice to_ tn tc, .slice co cn cc], .agg #[.int .i64 x.op, .int .i64 x.r, .int .i64 x.s, .int .i64 x.k, .int .i64 x.to, .int .u64 x.n]] w fun e w' => e = .returned (.bool (qacf slots tabs x)) ∧ Below w.heap.size w w' := by
 obtain ⟨op, r, s, k, to, n⟩ := x
 simp only at h
 subst h
 have b1 : isOp 6 = true := rfl
 have b2 : hasR 6 = true := rfl
 have b3 : hasS 6 = true := rfl
 have b4 : hasK 6 = true := rfl
 have b5 : hasT 6 = false := rfl
 have b6 : hasN 6 = true := rfl
 have E := qabv slots tabs ⟨6, r, s, k, to, n⟩ true true true false true b1 b2 b3 b4 b5 b6
 obtain ⟨R, hR⟩ : ∃ R, qacf slots tabs ⟨6, r, s, k, to, n⟩ = R := ⟨_, rfl⟩
 rw [hR]
 rw [hR] at E
 replace E := Lib.hid E
 clear hR
 obtain ⟨hs1, hs2⟩ := hs
 obtain ⟨i1, i2, i3, i4, i5, i6, i7⟩ := qaa7 6 b1
 rw [b2] at i1
 rw [b3] at i2
 rw [b4] at i3
 rw [b5] at i4
 rw [b6] at i5
 have B1 := Lib.hid b1
 have i8 : (qab7 6).size ≤ 1000 := by omega
 clear b1 b2 b3 b4 b5 b6 i7
 go_enter Try.func60, Try.ntmps60
 go_wp2_with (first
  | (go_at_call 62; refine (qabx _ _ B1.out).mono ?_; rintro e w' ⟨rfl, rfl⟩)
  | (go_at_call 61; refine (qaa9 _ _ _ i8).mono ?_; rintro e w' ⟨rfl, rfl⟩)
  | (go_at_call 69; refine (qaci _ _).mono ?_; rintro e w' ⟨rfl, rfl⟩))
 all_goals
  go_ret
  exact ⟨by rw [E.out]; first | (simp [qaak, go_sem, *]; done) | (simp [qaak, go_sem, *]; omega) | (simp_all [qaak, go_sem]; done) | (simp_all [qaak, go_sem]; omega), by go_grown⟩
set_option maxRecDepth 100000 in
set_option maxHeartbeats 2000000 in
theorem fits_9 (slots : Int) (to_ : Option Addr) (tn tc : Nat) (tabs : List Shape) (co : Option Addr) (cn cc : Nat) (x : Ins) (w : World) (hs : 0 ≤ slots ∧ slots ≤ 96) (h : x.op = 9) :
  Calls Try.prog 60 #[.agg #[.int .i64 slots, .slice to_ tn tc, .slice co cn cc], .agg #[.int .i64 x.op, .int .i64 x.r, .int .i64 x.s, .int .i64 x.k, .int .i64 x.to, .int .u64 x.n]] w fun e w' => e = .returned (.bool (qacf slots tabs x)) ∧ Below w.heap.size w w' := by
 obtain ⟨op, r, s, k, to, n⟩ := x
 simp only at h
 subst h
 have b1 : isOp 9 = true := rfl
 have b2 : hasR 9 = true := rfl
 have b3 : hasS 9 = false := rfl
 have b4 : hasK 9 = false := rfl
 have b5 : hasT 9 = true := rfl
 have b6 : hasN 9 = true := rfl
 have E := qabv slots tabs ⟨9, r, s, k, to, n⟩ true false false true true b1 b2 b3 b4 b5 b6
 obtain ⟨R, hR⟩ : ∃ R, qacf slots tabs ⟨9, r, s, k, to, n⟩ = R := ⟨_, rfl⟩
 rw [hR]
 rw [hR] at E
 replace E := Lib.hid E
 clear hR
 obtain ⟨hs1, hs2⟩ := hs
 obtain ⟨i1, i2, i3, i4, i5, i6, i7⟩ := qaa7 9 b1
 rw [b2] at i1
 rw [b3] at i2
 rw [b4] at i3
 rw [b5] at i4
 rw [b6] at i5
 have B1 := Lib.hid b1
 have i8 : (qab7 9).size ≤ 1000 := by omega
 clear b1 b2 b3 b4 b5 b6 i7
 go_enter Try.func60, Try.ntmps60
 go_wp2_with (first
  | (go_at_call 62; refine (qabx _ _ B1.out).mono ?_; rintro e w' ⟨rfl, rfl⟩)
  | (go_at_call 61; refine (qaa9 _ _ _ i8).mono ?_; rintro e w' ⟨rfl, rfl⟩)
  | (go_at_call 69; refine (qaci _ _).mono ?_; rintro e w' ⟨rfl, rfl⟩))
 all_goals
  go_ret
  exact ⟨by rw [E.out]; first | (simp [qaak, go_sem, *]; done) | (simp [qaak, go_sem, *]; omega) | (simp_all [qaak, go_sem]; done) | (simp_all [qaak, go_sem]; omega), by go_grown⟩
set_option maxRecDepth 100000 in
set_option maxHeartbeats 2000000 in
theorem qape (slots : Int) (to_ : Option Addr) (tn tc : Nat) (tabs : List Shape) (co : Option Addr) (cn cc : Nat) (x : Ins) (w : World) (hs : 0 ≤ slots ∧ slots ≤ 96) (h : x.op = 10 ∨ x.op = 11) :
  Calls Try.prog 60 #[.agg #[.int .i64 slots, .slice to_ tn tc, .slice co cn cc], .agg #[.int .i64 x.op, .int .i64 x.r, .int .i64 x.s, .int .i64 x.k, .int .i64 x.to, .int .u64 x.n]] w fun e w' => e = .returned (.bool (qacf slots tabs x)) ∧ Below w.heap.size w w' := by
 obtain ⟨op, r, s, k, to, n⟩ := x
 simp only at h
 have b1 : isOp op = true := by rcases h with rfl | rfl <;> rfl
 have b2 : hasR op = true := by rcases h with rfl | rfl <;> rfl
 have b3 : hasS op = true := by rcases h with rfl | rfl <;> rfl
 have b4 : hasK op = false := by rcases h with rfl | rfl <;> rfl
 have b5 : hasT op = true := by rcases h with rfl | rfl <;> rfl
 have b6 : hasN op = false := by rcases h with rfl | rfl <;> rfl
 have q3 : (op == 3) = false := by rw [beq_eq_false_iff_ne]; omega
 have q6 : (op == 6) = false := by rw [beq_eq_false_iff_ne]; omega
 have q14 : (op == 14) = false := by rw [beq_eq_false_iff_ne]; omega
 have q9 : (op == 9) = false := by rw [beq_eq_false_iff_ne]; omega
 have q7 : (op == 7) = false := by rw [beq_eq_false_iff_ne]; omega
 have q8 : (op == 8) = false := by rw [beq_eq_false_iff_ne]; omega
 have q13 : (op == 13) = false := by rw [beq_eq_false_iff_ne]; omega
 have qn : (op != 13) = true := by rw [bne_iff_ne]; omega
 have H0 := Lib.hid h
 clear h
 have E := qabv slots tabs ⟨op, r, s, k, to, n⟩ true true false true false b1 b2 b3 b4 b5 b6
 obtain ⟨R, hR⟩ : ∃ R, qacf slots tabs ⟨op, r, s, k, to, n⟩ = R := ⟨_, rfl⟩
 rw [hR]
 rw [hR] at E
 replace E := Lib.hid E
 clear hR
 obtain ⟨hs1, hs2⟩ := hs
 obtain ⟨i1, i2, i3, i4, i5, i6, i7⟩ := qaa7 op b1
 rw [b2] at i1
 rw [b3] at i2
 rw [b4] at i3
 rw [b5] at i4
 rw [b6] at i5
 have B1 := Lib.hid b1
 have i8 : (qab7 op).size ≤ 1000 := by omega
 clear b1 b2 b3 b4 b5 b6 i7
 go_enter Try.func60, Try.ntmps60
 go_wp2_with (first
  | (go_at_call 62; refine (qabx _ _ B1.out).mono ?_; rintro e w' ⟨rfl, rfl⟩)
  | (go_at_call 61; refine (qaa9 _ _ _ i8).mono ?_; rintro e w' ⟨rfl, rfl⟩)
  | (go_at_call 69; refine (qaci _ _).mono ?_; rintro e w' ⟨rfl, rfl⟩))
 all_goals
  go_ret
  exact ⟨by rw [E.out]; have h := H0.out; first | (simp [qaak, go_sem, *]; done) | (simp [qaak, go_sem, *]; omega) | (simp_all [qaak, go_sem]; done) | (simp_all [qaak, go_sem]; omega), by go_grown⟩
set_option maxRecDepth 100000 in
set_option maxHeartbeats 2000000 in
theorem fits_12 (slots : Int) (to_ : Option Addr) (tn tc : Nat) (tabs : List Shape) (co : Option Addr) (cn cc : Nat) (x : Ins) (w : World) (hs : 0 ≤ slots ∧ slots ≤ 96) (h : x.op = 12) :
  Calls Try.prog 60 #[.agg #[.int .i64 slots, .slice to_ tn tc, .slice co cn cc], .agg #[.int .i64 x.op, .int .i64 x.r, .int .i64 x.s, .int .i64 x.k, .int .i64 x.to, .int .u64 x.n]] w fun e w' => e = .returned (.bool (qacf slots tabs x)) ∧ Below w.heap.size w w' := by
 obtain ⟨op, r, s, k, to, n⟩ := x
 simp only at h
 subst h
 have b1 : isOp 12 = true := rfl
 have b2 : hasR 12 = false := rfl
 have b3 : hasS 12 = false := rfl
 have b4 : hasK 12 = false := rfl
 have b5 : hasT 12 = true := rfl
 have b6 : hasN 12 = false := rfl
 have E := qabv slots tabs ⟨12, r, s, k, to, n⟩ false false false true false b1 b2 b3 b4 b5 b6
 obtain ⟨R, hR⟩ : ∃ R, qacf slots tabs ⟨12, r, s, k, to, n⟩ = R := ⟨_, rfl⟩
 rw [hR]
 rw [hR] at E
 replace E := Lib.hid E
 clear hR
 obtain ⟨hs1, hs2⟩ := hs
 obtain ⟨i1, i2, i3, i4, i5, i6, i7⟩ := qaa7 12 b1
 rw [b2] at i1
 rw [b3] at i2
 rw [b4] at i3
 rw [b5] at i4
 rw [b6] at i5
 have B1 := Lib.hid b1
 have i8 : (qab7 12).size ≤ 1000 := by omega
 clear b1 b2 b3 b4 b5 b6 i7
 go_enter Try.func60, Try.ntmps60
 go_wp2_with (first
  | (go_at_call 62; refine (qabx _ _ B1.out).mono ?_; rintro e w' ⟨rfl, rfl⟩)
  | (go_at_call 61; refine (qaa9 _ _ _ i8).mono ?_; rintro e w' ⟨rfl, rfl⟩)
  | (go_at_call 69; refine (qaci _ _).mono ?_; rintro e w' ⟨rfl, rfl⟩))
 all_goals
  go_ret
  exact ⟨by rw [E.out]; first | (simp [qaak, go_sem, *]; done) | (simp [qaak, go_sem, *]; omega) | (simp_all [qaak, go_sem]; done) | (simp_all [qaak, go_sem]; omega), by go_grown⟩
set_option maxRecDepth 100000 in
set_option maxHeartbeats 2000000 in
theorem fits_14 (slots : Int) (to_ : Option Addr) (tn tc : Nat) (tabs : List Shape) (co : Option Addr) (cn cc : Nat) (x : Ins) (w : World) (hs : 0 ≤ slots ∧ slots ≤ 96) (h : x.op = 14) :
  Calls Try.prog 60 #[.agg #[.int .i64 slots, .slice to_ tn tc, .slice co cn cc], .agg #[.int .i64 x.op, .int .i64 x.r, .int .i64 x.s, .int .i64 x.k, .int .i64 x.to, .int .u64 x.n]] w fun e w' => e = .returned (.bool (qacf slots tabs x)) ∧ Below w.heap.size w w' := by
 obtain ⟨op, r, s, k, to, n⟩ := x
 simp only at h
 subst h
 have b1 : isOp 14 = true := rfl
 have b2 : hasR 14 = true := rfl
 have b3 : hasS 14 = false := rfl
 have b4 : hasK 14 = true := rfl
 have b5 : hasT 14 = false := rfl
 have b6 : hasN 14 = false := rfl
 have E := qabv slots tabs ⟨14, r, s, k, to, n⟩ true false true false false b1 b2 b3 b4 b5 b6
 obtain ⟨R, hR⟩ : ∃ R, qacf slots tabs ⟨14, r, s, k, to, n⟩ = R := ⟨_, rfl⟩
 rw [hR]
 rw [hR] at E
 replace E := Lib.hid E
 clear hR
 obtain ⟨hs1, hs2⟩ := hs
 obtain ⟨i1, i2, i3, i4, i5, i6, i7⟩ := qaa7 14 b1
 rw [b2] at i1
 rw [b3] at i2
 rw [b4] at i3
 rw [b5] at i4
 rw [b6] at i5
 have B1 := Lib.hid b1
 have i8 : (qab7 14).size ≤ 1000 := by omega
 clear b1 b2 b3 b4 b5 b6 i7
 go_enter Try.func60, Try.ntmps60
 go_wp2_with (first
  | (go_at_call 62; refine (qabx _ _ B1.out).mono ?_; rintro e w' ⟨rfl, rfl⟩)
  | (go_at_call 61; refine (qaa9 _ _ _ i8).mono ?_; rintro e w' ⟨rfl, rfl⟩)
  | (go_at_call 69; refine (qaci _ _).mono ?_; rintro e w' ⟨rfl, rfl⟩))
 all_goals
  go_ret
  exact ⟨by rw [E.out]; first | (simp [qaak, go_sem, *]; done) | (simp [qaak, go_sem, *]; omega) | (simp_all [qaak, go_sem]; done) | (simp_all [qaak, go_sem]; omega), by go_grown⟩
set_option maxRecDepth 100000 in
set_option maxHeartbeats 2000000 in
theorem fits_17 (slots : Int) (to_ : Option Addr) (tn tc : Nat) (tabs : List Shape) (co : Option Addr) (cn cc : Nat) (x : Ins) (w : World) (hs : 0 ≤ slots ∧ slots ≤ 96) (h : x.op = 17) :
  Calls Try.prog 60 #[.agg #[.int .i64 slots, .slice to_ tn tc, .slice co cn cc], .agg #[.int .i64 x.op, .int .i64 x.r, .int .i64 x.s, .int .i64 x.k, .int .i64 x.to, .int .u64 x.n]] w fun e w' => e = .returned (.bool (qacf slots tabs x)) ∧ Below w.heap.size w w' := by
 obtain ⟨op, r, s, k, to, n⟩ := x
 simp only at h
 subst h
 have b1 : isOp 17 = true := rfl
 have b2 : hasR 17 = false := rfl
 have b3 : hasS 17 = false := rfl
 have b4 : hasK 17 = false := rfl
 have b5 : hasT 17 = false := rfl
 have b6 : hasN 17 = false := rfl
 have E := qabv slots tabs ⟨17, r, s, k, to, n⟩ false false false false false b1 b2 b3 b4 b5 b6
 obtain ⟨R, hR⟩ : ∃ R, qacf slots tabs ⟨17, r, s, k, to, n⟩ = R := ⟨_, rfl⟩
 rw [hR]
 rw [hR] at E
 replace E := Lib.hid E
 clear hR
 obtain ⟨hs1, hs2⟩ := hs
 obtain ⟨i1, i2, i3, i4, i5, i6, i7⟩ := qaa7 17 b1
 rw [b2] at i1
 rw [b3] at i2
 rw [b4] at i3
 rw [b5] at i4
 rw [b6] at i5
 have B1 := Lib.hid b1
 have i8 : (qab7 17).size ≤ 1000 := by omega
 clear b1 b2 b3 b4 b5 b6 i7
 go_enter Try.func60, Try.ntmps60
 go_wp2_with (first
  | (go_at_call 62; refine (qabx _ _ B1.out).mono ?_; rintro e w' ⟨rfl, rfl⟩)
  | (go_at_call 61; refine (qaa9 _ _ _ i8).mono ?_; rintro e w' ⟨rfl, rfl⟩)
  | (go_at_call 69; refine (qaci _ _).mono ?_; rintro e w' ⟨rfl, rfl⟩))
 all_goals
  go_ret
  exact ⟨by rw [E.out]; first | (simp [qaak, go_sem, *]; done) | (simp [qaak, go_sem, *]; omega) | (simp_all [qaak, go_sem]; done) | (simp_all [qaak, go_sem]; omega), by go_grown⟩
end Go.Proofs.Ytefkifebgeagiaa
namespace Go.Proofs.Ytefkifebgeagiaa
set_option linter.all false
open Go.RowKit
theorem qaqk {slots : Int} {tabs : List Shape} {x : Ins} (h : isOp x.op = false) : qacf slots tabs x = false := by
 unfold qacf qak4; rw [h]; rfl
set_option maxRecDepth 100000 in
theorem fits_no (slots : Int) (to_ co : Option Addr) (tn tc cn cc : Nat) (x : Ins) (w : World) (h : isOp x.op = false) :
  Calls Try.prog 60 #[.agg #[.int .i64 slots, .slice to_ tn tc, .slice co cn cc], .agg #[.int .i64 x.op, .int .i64 x.r, .int .i64 x.s, .int .i64 x.k, .int .i64 x.to, .int .u64 x.n]] w fun e w' => e = .returned (.bool false) ∧ Below w.heap.size w w' := by
 have H := Lib.hid h
 clear h
 go_enter Try.func60, Try.ntmps60
 go_wp2_with (go_at_call 62; refine (has_no _ _ H.out).mono ?_; rintro e w' ⟨rfl, rfl⟩)
 go_ret
 exact ⟨rfl, by go_grown⟩
theorem qaqm (slots : Int) (to_ : Option Addr) (tc : Nat) (tabs : List Shape) (co : Option Addr) (cn cc : Nat) (x : Ins) (A : Nat → Prop) (w : World) (ht : RdL qaba A w to_ tabs.length tc tabs) (hok : ∀ i, i < tabs.length → qabt (nth tabs i) = false) (hx : x.wf) (hs : 0 ≤ slots ∧ slots ≤ 96) :
  Calls Try.prog 60 #[.agg #[.int .i64 slots, .slice to_ tabs.length tc, .slice co cn cc], .agg #[.int .i64 x.op, .int .i64 x.r, .int .i64 x.s, .int .i64 x.k, .int .i64 x.to, .int .u64 x.n]] w fun e w' => e = .returned (.bool (qacf slots tabs x)) ∧ Below w.heap.size w w' := by
 by_cases h : isOp x.op = true
 case neg => rw [qaqk (by simpa using h)]; exact fits_no _ _ _ _ _ _ _ _ _ (by simpa using h)
 rcases qagi h with h | h | h | h | h | h | h | h | h | h | h | h | h | h | h | h | h | h
 ·exact fits_1 _ _ _ _ _ _ _ _ _ _ hs h
 ·exact fits_2 _ _ _ _ _ _ _ _ _ _ hs (.inl h)
 ·exact fits_3 _ _ _ _ _ _ _ _ _ _ hs h
 ·exact qanw _ _ _ _ _ _ _ _ _ _ hs (.inl h)
 ·exact fits_2 _ _ _ _ _ _ _ _ _ _ hs (.inr h)
 ·exact fits_6 _ _ _ _ _ _ _ _ _ _ hs h
 ·exact fits_7 _ _ _ _ _ _ _ _ _ _ hs (.inl h)
 ·exact fits_7 _ _ _ _ _ _ _ _ _ _ hs (.inr h)
 ·exact fits_9 _ _ _ _ _ _ _ _ _ _ hs h
 ·exact qape _ _ _ _ _ _ _ _ _ _ hs (.inl h)
 ·exact qape _ _ _ _ _ _ _ _ _ _ hs (.inr h)
 ·exact fits_12 _ _ _ _ _ _ _ _ _ _ hs h
 ·exact fits_13 _ _ _ _ _ _ _ _ A _ ht hok hx hs h
 ·exact fits_14 _ _ _ _ _ _ _ _ _ _ hs h
 ·exact qanw _ _ _ _ _ _ _ _ _ _ hs (.inr (.inl h))
 ·exact qanw _ _ _ _ _ _ _ _ _ _ hs (.inr (.inr (.inl h)))
 ·exact fits_17 _ _ _ _ _ _ _ _ _ _ hs h
 ·exact qanw _ _ _ _ _ _ _ _ _ _ hs (.inr (.inr (.inr h)))
end Go.Proofs.Ytefkifebgeagiaa
namespace Go.Proofs.Ytefkifebgeagiaa
set_option linter.all false
open Go.RowKit
set_option maxRecDepth 100000 in
set_option maxHeartbeats 4000000 in
theorem qaoz (slots : Int) (to_ co : Option Addr) (tc cc : Nat) (tabs : List Shape) (code : List Ins) (A : Nat → Prop) (w : World) (ht : RdL qaba A w to_ tabs.length tc tabs) (hc : RdL qadq A w co code.length cc code) :
  Calls Try.prog 47 #[.agg #[.int .i64 slots, .slice to_ tabs.length tc, .slice co code.length cc]] w fun e w' => e = .returned (.agg #[.int .i64 (qacu ⟨slots, tabs, code⟩).1, .int .i64 (qacu ⟨slots, tabs, code⟩).2]) ∧ Below w.heap.size w w' := by
 have htl := ht.lt
 have hcl := hc.lt
 by_cases h1 : slots < 0 ∨ 96 < slots
 ·rw [qacz (p := ⟨slots, tabs, code⟩) h1]
  have h1' : slots < 0 ∨ (0 ≤ slots ∧ 96 < slots) := by omega
  rcases h1' with h | h
  all_goals
   go_enter Try.func47, Try.ntmps47
   go_wp2_with fail
   exact bodyPost_ret (v := .agg #[.int .i64 1, .int .i64 (-1)]) (by simp [results, Try.results47, go_sem]) rfl ⟨rfl, by go_grown⟩
 by_cases h2 : 5 < tabs.length ∨ code.length = 0 ∨ 60000 < code.length
 ·rw [qado (p := ⟨slots, tabs, code⟩) h1 h2]
  have h1' : 0 ≤ slots ∧ slots ≤ 96 := by omega
  obtain ⟨h1a, h1b⟩ := h1'
  have h2' : (5 : Int) < tabs.length ∨ ((tabs.length : Int) ≤ 5 ∧ ((code.length : Int) == 0) = true) ∨ ((tabs.length : Int) ≤ 5 ∧ ((code.length : Int) == 0) = false ∧ (60000 : Int) < code.length) := by
   rw [beq_iff_eq, beq_eq_false_iff_ne]; omega
  clear h1 h2
  rcases h2' with h | ⟨h, h'⟩ | ⟨h, h', h''⟩
  all_goals
   go_enter Try.func47, Try.ntmps47
   go_wp2_with fail
   exact bodyPost_ret (v := .agg #[.int .i64 2, .int .i64 (-1)]) (by simp [results, Try.results47, go_sem]) rfl ⟨rfl, by go_grown⟩
 have h1a : 0 ≤ slots := by omega
 have h1b : slots ≤ 96 := by omega
 have h2a : (tabs.length : Int) ≤ 5 := by omega
 have h2b : ((code.length : Int) == 0) = false := by rw [beq_eq_false_iff_ne]; omega
 have h2c : (code.length : Int) ≤ 60000 := by omega
 have h2d : 0 < code.length := by omega
 have N1 := Lib.hid h1
 have N2 := Lib.hid h2
 clear h1 h2
 have H : Kept (fun w' => (Below w.heap.size w w' ∧ Blk w' w.heap.size 56 #[.int .i64 slots, .slice to_ tabs.length tc, .slice co code.length cc]) ∧ Blk w' (w.heap.size + 1) 62 #[.int .i64 0, .int .i64 0]) ((w.alloc (.cells #[.int .i64 slots, .slice to_ tabs.length tc, .slice co code.length cc] 56)).alloc (.cells #[.int .i64 0, .int .i64 0] 62)) := by
  have := blk2 (rf ((w.alloc (.cells #[.int .i64 slots, .slice to_ tabs.length tc, .slice co code.length cc] 56)).alloc (.cells #[.int .i64 0, .int .i64 0] 62)))
  exact ⟨⟨this.1, this.2.1⟩, this.2.2⟩
 go_enter Try.func47, Try.ntmps47
 go_wp2_with fail
 generalize (w.alloc (.cells #[.int .i64 slots, .slice to_ tabs.length tc, .slice co code.length cc] 56)).alloc (.cells #[.int .i64 0, .int .i64 0] 62) = w1 at *
 go_loopw [37] (fun i wr => ∃ k : Nat, k ≤ tabs.length ∧ (∀ j, j < k → qabt (nth tabs j) = false) ∧ i = .int .i64 k ∧ Below w1.heap.size w1 wr) (fun i _ => tabs.length - (intOf i).toNat)
 case atStart => exact ⟨0, Nat.zero_le _, fun j hj => absurd hj (Nat.not_lt_zero j), rfl, rf _⟩
 case round =>
  obtain ⟨k, hk, hno, rfl, hbr⟩ := hrel
  have HN := Lib.hid hno
  clear hno
  replace H := H.to hbr
  by_cases hlt : k < tabs.length
  ·obtain ⟨b, off, rfl, _, hb, hwf, hc0, hc1, hc2⟩ := (ht.below H.out.1.1).shape_at hlt
   have hz := H.out.2.lt
   have hfr := H.out.2.frozen 0
   have hfr1 := H.out.2.frozen 1
   obtain ⟨hu, hv⟩ := H.out.2.two
   have hBr := H.out.1.1
   clear hwf
   by_cases hbad : qabt (nth tabs k) = true
   ·have HP := Lib.hid (qah3 (p := ⟨slots, tabs, code⟩) N1.out N2.out HN.out hlt hbad)
    have hbad' : (nth tabs k).keys < 1 ∨ (1 ≤ (nth tabs k).keys ∧ 3 < (nth tabs k).keys) ∨ ((1 ≤ (nth tabs k).keys ∧ (nth tabs k).keys ≤ 3) ∧ (nth tabs k).acts < 1) ∨ ((1 ≤ (nth tabs k).keys ∧ (nth tabs k).keys ≤ 3) ∧ 1 ≤ (nth tabs k).acts ∧ 8 < (nth tabs k).acts) ∨ ((1 ≤ (nth tabs k).keys ∧ (nth tabs k).keys ≤ 3) ∧ (1 ≤ (nth tabs k).acts ∧ (nth tabs k).acts ≤ 8) ∧ (nth tabs k).args < 0) ∨ ((1 ≤ (nth tabs k).keys ∧ (nth tabs k).keys ≤ 3) ∧ (1 ≤ (nth tabs k).acts ∧ (nth tabs k).acts ≤ 8) ∧ 0 ≤ (nth tabs k).args ∧ 3 < (nth tabs k).args) := by
     unfold qabt at hbad; simp at hbad; omega
    clear hbad
    rcases hbad' with h | ⟨h, h'⟩ | ⟨⟨h, h'⟩, h''⟩ | ⟨⟨h, h'⟩, h'', h3⟩ | ⟨⟨h, h'⟩, ⟨h'', h3⟩, h4⟩ | ⟨⟨h, h'⟩, ⟨h'', h3⟩, h4, h5⟩
    all_goals
     go_wp2_with fail
     exact bodyPost_ret (v := .agg #[.int .i64 1, .int .i64 (-2 - (k : Int))]) (by simp [results, Try.results47, go_sem, hu, hv, hfr, hfr1, hz]) rfl ⟨by rw [HP.out], by go_grown⟩
   ·have hgood := qade (by simpa using hbad)
    obtain ⟨t1, t2, t3, t4, t5, t6⟩ := hgood
    have HN2 : Hid (∀ j, j < k + 1 → qabt (nth tabs j) = false) := fun j hj => by
     by_cases e : j = k
     ·subst e; simpa using hbad
     ·exact HN.out j (by omega)
    clear hbad
    go_wp2_with fail
    go_roundw
    case rel => exact ⟨k + 1, by omega, HN2.out, by go_num, al hbr _⟩
    case measure => simp [intOf]; omega
  ·obtain rfl : k = tabs.length := by omega
   have hz := H.out.2.lt
   have hz0 := H.out.1.2.lt
   have hd1 := H.out.1.2.cell 1
   have hd2 := H.out.1.2.cell 2
   simp at hd1 hd2
   clear hbr
   go_wp2_with fail
   obtain ⟨w2, hw2⟩ : ∃ w2, w2 = wr := ⟨_, rfl⟩
   rw [← hw2] at H hz hz0 hd1 hd2 ⊢
   clear hw2 hd1 hd2 hz hz0
   go_loopw [77] (fun i wr => ∃ k : Nat, k ≤ code.length ∧ (∀ j, j < k → qabn slots tabs code j = false) ∧ i = .int .i64 k ∧ Below w2.heap.size w2 wr) (fun i _ => code.length - (intOf i).toNat)
   case atStart => exact ⟨0, Nat.zero_le _, fun j hj => absurd hj (Nat.not_lt_zero j), rfl, rf _⟩
   case round =>
    obtain ⟨k, hk, hno2, rfl, hbr⟩ := hrel
    have HM := Lib.hid hno2
    clear hno2
    replace H := H.to hbr
    have hz := H.out.2.lt
    have hz0 := H.out.1.2.lt
    have hd0 := H.out.1.2.cell 0
    have hd1 := H.out.1.2.cell 1
    have hd2 := H.out.1.2.cell 2
    simp at hd0 hd1 hd2
    by_cases hlt : k < code.length
    ·obtain ⟨b, off, rfl, _, hb, hwf, hc0, hc1, hc2, hc3, hc4, hc5⟩ := (hc.below H.out.1.1).ins_at hlt
     go_wp2_with fail
     refine (qaqm _ _ _ _ _ _ _ _ A _ (ht.below (H.al _).out.1.1) HN.out hwf ⟨h1a, h1b⟩).mono ?_
     rintro e w3 ⟨rfl, hb3⟩
     have HB2 := hbr.trans ((al (rf wr) (.cells (nth code k).cells.toArray 83)).mono hbr.size) |>.trans (hb3.mono (by have := hbr.size; simp; omega))
     have H3 := (H.new (nth code k).cells.toArray 83).to hb3
     clear hb3 hz hz0 hd0 hd1 hd2 hc0 hc1 hc2 hc3 hc4 hc5 hb
     have hz := H3.out.1.2.lt
     have hz0 := H3.out.1.1.2.lt
     have hd0 := H3.out.1.1.2.cell 0
     have hd1 := H3.out.1.1.2.cell 1
     have hd2 := H3.out.1.1.2.cell 2
     have hx0 := H3.out.2.cell 0
     have hx4 := H3.out.2.cell 4
     have hfr := H3.out.1.2.frozen 0
     have hfr1 := H3.out.1.2.frozen 1
     obtain ⟨hu, hv⟩ := H3.out.1.2.two
     have hBr := H3.out.1.1.1
     simp [Ins.cells] at hd0 hd1 hd2 hx0 hx4
     by_cases hI : qacf slots tabs (nth code k) = true
     case neg =>
      have hI' : qacf slots tabs (nth code k) = false := by simpa using hI
      have HP := qadp (p := ⟨slots, tabs, code⟩) N1.out N2.out HN.out HM.out hlt (qair hI')
      rw [hI'] at HP
      replace HP := Lib.hid HP
      clear hI
      go_wp2_with fail
      exact bodyPost_ret (v := .agg #[.int .i64 4, .int .i64 (k : Int)]) (by simp [results, Try.results47, go_sem, hu, hv, hfr, hfr1, hz]) rfl ⟨by rw [HP.out]; rfl, by go_grown⟩
     have hop : isOp (nth code k).op = true := by unfold qacf qak4 at hI; simp at hI; exact hI.1.1.1.1.1.1.1
     obtain ⟨_, _, _, i4, _, _, i7⟩ := qaa7 (nth code k).op hop
     have i8 : (qab7 (nth code k).op).size ≤ 1000 := by omega
     have HO := Lib.hid hop
     have hto := hwf.2.2.2.2.1.i64
     clear i7 hop hwf
     by_cases hT : hasT (nth code k).op = true
     case neg =>
      have hT' : hasT (nth code k).op = false := by simpa using hT
      rw [hT'] at i4
      have hnb : Hid (∀ j, j < k + 1 → qabn slots tabs code j = false) := fun j hj => by
       by_cases e : j = k
       ·subst e; rw [qafi hI]; unfold qad3; rw [hT']; rfl
       ·exact HM.out j (by omega)
      clear hT hT'
      go_wp2_with (first
       | (go_at_call 62; refine (qabx _ _ HO.out).mono ?_; rintro e w' ⟨rfl, rfl⟩)
       | (go_at_call 61; refine (qaa9 _ _ _ i8).mono ?_; rintro e w' ⟨rfl, rfl⟩))
      go_roundw
      case rel => exact ⟨k + 1, by omega, hnb.out, by go_num, HB2⟩
      case measure => simp [intOf]; omega
     rw [hT] at i4
     by_cases hJ : (code.length : Int) - k - 1 ≤ (nth code k).to
     ·have HP := qadp (p := ⟨slots, tabs, code⟩) N1.out N2.out HN.out HM.out hlt (by show qabn slots tabs code k = true; rw [qafi hI]; unfold qad3; rw [hT]; simpa using hJ)
      rw [hI] at HP
      replace HP := Lib.hid HP
      clear hT
      go_wp2_with (first
       | (go_at_call 62; refine (qabx _ _ HO.out).mono ?_; rintro e w' ⟨rfl, rfl⟩)
       | (go_at_call 61; refine (qaa9 _ _ _ i8).mono ?_; rintro e w' ⟨rfl, rfl⟩))
      exact bodyPost_ret (v := .agg #[.int .i64 17, .int .i64 (k : Int)]) (by simp [results, Try.results47, go_sem, hu, hv, hfr, hfr1, hz]) rfl ⟨by rw [HP.out]; rfl, by go_grown⟩
     ·have hnb : Hid (∀ j, j < k + 1 → qabn slots tabs code j = false) := fun j hj => by
       by_cases e : j = k
       ·subst e; rw [qafi hI]; unfold qad3; rw [hT]; simpa using hJ
       ·exact HM.out j (by omega)
      have hJ' : (nth code k).to < (code.length : Int) - k - 1 := by omega
      clear hT hJ
      go_wp2_with (first
       | (go_at_call 62; refine (qabx _ _ HO.out).mono ?_; rintro e w' ⟨rfl, rfl⟩)
       | (go_at_call 61; refine (qaa9 _ _ _ i8).mono ?_; rintro e w' ⟨rfl, rfl⟩))
      go_roundw
      case rel => exact ⟨k + 1, by omega, hnb.out, by go_num, HB2⟩
      case measure => simp [intOf]; omega
    ·obtain rfl : k = code.length := by omega
     have hfr := H.out.2.frozen 0
     have hfr1 := H.out.2.frozen 1
     obtain ⟨hu, hv⟩ := H.out.2.two
     have hBr := H.out.1.1
     have hwb := H.out.1.1.size
     obtain ⟨b, off, rfl, _, hb, hwf, hc0, hc1, hc2, hc3, hc4, hc5⟩ := (hc.below H.out.1.1).ins_at (i := code.length - 1) (by omega)
     have HP := Lib.hid (qah4 (p := ⟨slots, tabs, code⟩) N1.out N2.out HN.out HM.out)
     clear hc1 hc2 hc3 hc4 hc5 hwf
     by_cases hE : qak2 (nth code (code.length - 1)).op = true
     ·go_wp2_with (go_at_call 63; refine (qam4 _ _).mono ?_; rintro e w' ⟨rfl, rfl⟩)
      exact bodyPost_ret (v := .agg #[.int .i64 0, .int .i64 0]) (by simp [results, Try.results47, go_sem, hu, hv, hfr, hfr1, hz]) rfl ⟨by rw [HP.out, if_pos hE], by go_grown⟩
     ·have hE' : qak2 (nth code (code.length - 1)).op = false := by simpa using hE
      clear hE
      go_wp2_with (go_at_call 63; refine (qam4 _ _).mono ?_; rintro e w' ⟨rfl, rfl⟩)
      exact bodyPost_ret (v := .agg #[.int .i64 18, .int .i64 ((code.length : Int) - 1)]) (by simp [results, Try.results47, go_sem, hu, hv, hfr, hfr1, hz]) rfl ⟨by rw [HP.out, hE']; rfl, by go_grown⟩
end Go.Proofs.Ytefkifebgeagiaa
namespace Go.Proofs.Ytefkifebgeagiaa
set_option linter.all false
open Go.RowKit
instance : One qadq := ⟨fun h u hu => by
 rw [h.1] at hu
 simp [Ins.cells] at hu
 rcases hu with rfl | rfl | rfl | rfl | rfl | rfl <;> rfl⟩
instance : One qaba := ⟨fun h u hu => by
 rw [h.1] at hu
 simp [Shape.cells] at hu
 rcases hu with rfl | rfl | rfl <;> rfl⟩
instance : Flat qadq := ⟨fun h => h⟩
instance : Flat qaba := ⟨fun h => h⟩
end Go.Proofs.Ytefkifebgeagiaa
