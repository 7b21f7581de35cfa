/-
  Texts joined: XShQ XShW XShX XCtab XWordP XEnt XTabA XOpen XPlnA XBitsP XTabB XTabC XTStep XTabD XShZ XPlnC XPlnY XPlnZ XShY XTerA XTerB XShPK XShMt XTerC XTerD XTerE XTerF XTerG XTerH XTerI XTerJ. No condition.
-/
import Derived.IntWalk
import Derived.Test.YtefkifebgeagiaaProg
import Derived.ProofKit
import Derived.Deep.Slices
import Derived.Handy
import Derived.Test.YtefkifebgeagiaaRows
import Derived.Deep.QuietTactic
import Derived.BigQuiet
import Derived.WalkSmall
import Derived.WalkSpells
import Derived.RegionTactic
import Derived.BigRegion
import Derived.Deep.RegionLaw
import Derived.Lib.Hide
import Derived.Test.YtefkifebgeagiaaTernaryFirstK2
namespace Go.Proofs.Ytefkifebgeagiaa
set_option linter.all false
open Go.RowKit
variable {X : Cx} {s : SSt} {Q : SExit → SSt → Prop} {y : SCode}
theorem qabe : QSeq X y Q .normal s = SWp X y Q s := rfl
theorem qabf {i : Nat} : QSeq X y Q (.exit i) s = Q (.exit i) s := rfl
theorem qaas : QSeq X y Q .ret s = Q .ret s := rfl
theorem qaat {id : Nat} : qahr id Q .normal s = Q .normal s := rfl
theorem qaaa {id : Nat} : qahr id Q .ret s = Q .ret s := rfl
theorem qaau {id i : Nat} : qahr id Q (.exit i) s = if i = id then Q .normal s else Q (.exit i) s := rfl
theorem qaa6 {I : SSt → Nat → Prop} {n i : Nat} : qavv X I n Q (.exit i) s = Q (.exit i) s := rfl
theorem qaae {I : SSt → Nat → Prop} {n : Nat} : qavv X I n Q .ret s = Q .ret s := rfl
theorem qacj {a b : Int} (h1 : -9223372036854775808 ≤ a + b) (h2 : a + b ≤ 9223372036854775807) : IntKind.i64.wrap (a + b) = a + b := IntWalk.i64_in _ ⟨h1, h2⟩
theorem qabl (x : SV) : Co x x ↔ True := ⟨fun _ => trivial, fun _ => Co.refl x⟩
theorem qab0 {k : IntKind} {a b : Int} (h : a = b) : Co (.int k a) (.int k b) := by rw [h]; exact Co.refl _
theorem qab3 {i n m : Nat} (h : n = m) : Co (.own i n) (.own i m) := by rw [h]; exact Co.refl _
theorem qabk {z : Nat} {xs ys : List (List SV)} (h : xs = ys) : Co (.view z xs) (.view z ys) := by rw [h]; exact Co.refl _
theorem qabd (z : Nat) : Co .nilsl (.view z []) ↔ True := ⟨fun _ => trivial, fun _ => Co.nilsl z⟩
theorem qabz {xs ys : List SV} (h : CoL xs ys) : Co (.agg xs) (.agg ys) := Co.agg h
theorem qab2 {xs ys : List SV} (h : CoL xs ys) : Co (.tup xs) (.tup ys) := Co.tup h
theorem qabb (xs : List (List SV)) : CoLL xs xs ↔ True := ⟨fun _ => trivial, fun _ => CoLL.refl xs⟩
theorem u64_in_ {n : Int} (h : 0 ≤ n) (h2 : n < 18446744073709551616) : IntKind.u64.wrap n = n := by
 simp [IntKind.wrap, IntKind.bits, IntKind.signed]; omega
theorem qagf {I : SSt → Nat → Prop} {n m : Nat} {s' : SSt} (hw : Wk X s s') (hi : I s' m) (hn : m < n) : qavv X I n Q .normal s := ⟨s', m, hw, hi, hn⟩
theorem qac6 {rs : List ResultVar} {m : Nat} {r : SV} {h2 : Hp} {s' : SSt} (hw : Wk X s s') (hr : qafw X.P s' rs = some r) (hh : SubH s'.hp h2) (hn : s'.nx ≤ m + 8) : QFun X rs m r h2 .ret s := ⟨s', hw, hr, hh, hn⟩
theorem qaa5 {α : Type} {h : Decidable True} (o : Option α) : @rg α True h o = o := rg_pos trivial o
variable {P : Program} {dst : Option Nat} {op : SOp} {b : Nat} {os : List SOper} {tr : List Tch} {R : SSt → List Tch → Prop}
theorem qaar : SOps P [] s tr R = R s tr := rfl
def SOpsK (P : Program) (r : Option (SV × Upd × Nat)) (dst : Option Nat) (t : List Nat) (os : List SOper) (s : SSt) (tr : List Tch) (R : SSt → List Tch → Prop) : Prop := match r with
 | some (v, u, _) => SOps P os ⟨putd s.sl dst v, upds s.hp u, s.nx + 1⟩ (⟨t, u.map (·.1)⟩ :: tr) R
 | none => False
theorem qaaq : SOps P (⟨dst, op, none, none, b⟩ :: os) s tr R = SOpsK P (op.run (·.ev s.sl) (geth s.hp) s.nx) dst (op.touch (·.ev s.sl)) os s tr R := rfl
theorem qaac {v : SV} {u : Upd} {n : Nat} {t : List Nat} : SOpsK P (some (v, u, n)) dst t os s tr R = SOps P os ⟨putd s.sl dst v, upds s.hp u, s.nx + 1⟩ (⟨t, u.map (·.1)⟩ :: tr) R := rfl
def qavu (P : Program) (f : SV) (args : List SV) (dst : Option Nat) (os : List SOper) (s : SSt) (tr : List Tch) (R : SSt → List Tch → Prop) : Prop := match f with
 | .fn (.func g) first cap => ∃ h1 r h2 rd n, SCalls P g (first ++ args ++ cap) h1 s.nx r h2 n ∧ SubH s.hp h1 ∧ Uniq h2 ∧ (∀ id ∈ rd, geth h2 id = geth h1 id) ∧
   SOps P os ⟨putd s.sl dst r, qabu s.hp h1 h2, s.nx + n⟩ (⟨rd, (idsH h1 ++ idsH h2).filter fun i => !rd.contains i⟩ :: tr) R
 | .fn (.method nm) [] [] => match args with
  | .ifc t x :: az => ∃ hm x' g h1 r h2 rd n, SubH s.hp hm ∧ Meth P (geth hm) t x nm g x' ∧ SCalls P g (x' :: az) h1 s.nx r h2 n ∧ SubH s.hp h1 ∧ Uniq h2 ∧ (∀ id ∈ rd, geth h2 id = geth h1 id) ∧
    SOps P os ⟨putd s.sl dst r, qabu s.hp h1 h2, s.nx + n⟩ (⟨idsH hm ++ rd, (idsH h1 ++ idsH h2).filter fun i => !rd.contains i⟩ :: tr) R
  | _ => False
 | _ => False
theorem qaai {f : SX} {args : List SX} : SOps P (⟨dst, op, some (f, args), none, b⟩ :: os) s tr R = qavu P (f.ev s.sl) (args.map (·.ev s.sl)) dst os s tr R := by
 simp only [SOps, SOp1, qavu]
 all_goals generalize f.ev s.sl = v
 all_goals cases v
 all_goals (first | rfl | (rename_i f' _ _; cases f' <;> rfl))
theorem qaco {t : TypeId} {x x' : SV} {nm : String} {g : FuncId} {az : List SV} {h1 h2 : Hp} {r : SV} {n : Nat} (hm : Hp) (hsm : SubH s.hp hm) (hM : Meth P (geth hm) t x nm g x') (h : SCalls P g (x' :: az) h1 s.nx r h2 n) (hs : SubH s.hp h1) (hu : Uniq h2) (rd : List Nat) (hr : ∀ id ∈ rd, geth h2 id = geth h1 id)
  (hn : SOps P os ⟨putd s.sl dst r, qabu s.hp h1 h2, s.nx + n⟩ (⟨idsH hm ++ rd, (idsH h1 ++ idsH h2).filter fun i => !rd.contains i⟩ :: tr) R) : qavu P (.fn (.method nm) [] []) (.ifc t x :: az) dst os s tr R := ⟨hm, x', g, h1, r, h2, rd, n, hsm, hM, h, hs, hu, hr, hn⟩
theorem qac1 {g : FuncId} {first cap args : List SV} {h1 h2 : Hp} {r : SV} {n : Nat} (h : SCalls P g (first ++ args ++ cap) h1 s.nx r h2 n) (hs : SubH s.hp h1) (hu : Uniq h2) (rd : List Nat) (hr : ∀ id ∈ rd, geth h2 id = geth h1 id)
  (hn : SOps P os ⟨putd s.sl dst r, qabu s.hp h1 h2, s.nx + n⟩ (⟨rd, (idsH h1 ++ idsH h2).filter fun i => !rd.contains i⟩ :: tr) R) : qavu P (.fn (.func g) first cap) args dst os s tr R := ⟨h1, r, h2, rd, n, h, hs, hu, hr, hn⟩
theorem qacc {g : FuncId} {args : List SV} {r : SV} (h : SCalls P g args [] s.nx r []) (hn : SOps P os ⟨putd s.sl dst r, s.hp, s.nx + 8⟩ (⟨[], []⟩ :: tr) R) : qavu P (.fn (.func g) [] []) args dst os s tr R :=
 ⟨[], r, [], [], 8, by simpa using h, trivial, trivial, by simp, hn⟩
def qaln (P : Program) (v : SV) (want : Bool) (o : SOper) (os : List SOper) (s : SSt) (tr : List Tch) (R : SSt → List Tch → Prop) : Prop := match v with
 | .bool b => (b = want → SOps P (⟨o.dst, o.op, o.cal, none, o.bef⟩ :: os) s tr R) ∧ (b ≠ want → SOps P os (s.skip o) (⟨[], []⟩ :: tr) R)
 | .tup [] => SOps P os (s.skip o) (⟨[], []⟩ :: tr) R
 | _ => False
theorem qaad {c : Option (SX × List SX)} {t : Nat} {want : Bool} : SOps P (⟨dst, op, c, some (t, want), b⟩ :: os) s tr R = qaln P (gets s.sl t) want ⟨dst, op, c, some (t, want), b⟩ os s tr R := by
 cases c with
 | none => (simp only [SOps, qaln, SOp1]; all_goals rfl)
 | some fa => (simp only [SOps, qaln, SOp1]; all_goals rfl)
theorem qaah {want : Bool} {c : Option (SX × List SX)} {g : Option (Nat × Bool)} : qaln P (.bool want) want ⟨dst, op, c, g, b⟩ os s tr R = SOps P (⟨dst, op, c, none, b⟩ :: os) s tr R := by simp [qaln]
theorem qaly {want w' : Bool} {o : SOper} (h : (w' == want) = false) : qaln P (.bool w') want o os s tr R = SOps P os (s.skip o) (⟨[], []⟩ :: tr) R := by
 have : w' ≠ want := by simpa using h
 simp [qaln, this]
theorem qaao {o : SOper} : qaln P (.bool true) false o os s tr R = SOps P os (s.skip o) (⟨[], []⟩ :: tr) R := qaly rfl
theorem qaap {o : SOper} : qaln P (.bool false) true o os s tr R = SOps P os (s.skip o) (⟨[], []⟩ :: tr) R := qaly rfl
theorem qaab {want : Bool} {o : SOper} : qaln P (.tup []) want o os s tr R = SOps P os (s.skip o) (⟨[], []⟩ :: tr) R := rfl
def FrzOk (hp : Hp) : List Nat → Prop
 | [] => True
 | i :: D => (match geth hp i with | some o => qavw o | none => True) ∧ FrzOk hp D
theorem FrzOk.get {hp : Hp} : ∀ {D : List Nat}, FrzOk hp D → ∀ id o, D.contains id = true → geth hp id = some o → qavw o
 | [], _, id, o, h, _ => by simp at h
 | i :: D, h, id, o, hc, ho => by
  by_cases e : id = i
  ·subst e; have := h.1; rw [ho] at this; exact this
  ·refine FrzOk.get h.2 id o ?_ ho
   simpa [e] using hc
theorem wk_fz (D : List Nat) (E : List (Nat × Nat)) {s' : SSt} {m : Nat} (hm : X.m = m) (hD : (D.all fun i => decide (m ≤ i)) = true) (hf : FrzOk s.hp D) (hok : qabn m s'.nx E s'.hp = true) (hle : m ≤ s'.nx)
  (hsl : SlotsM (rn E s.nx) (frzS (geth s.hp) D s.sl) s'.sl) (hhp : ObjsM (rn E s.nx) (frzH (geth s.hp) D s.hp) s'.hp) : Wk X s s' :=
 (qaub D hf.get).trans (qacm (s := s.frz D) E hm hok hle hsl hhp)
theorem qaa9 (k : IntKind) (n : Int) : qahs (.int k n) ↔ True := ⟨fun _ => trivial, fun _ => qadx k n⟩
theorem qaa1 (b : Bool) : qahs (.bool b) ↔ True := ⟨fun _ => trivial, fun _ => qajb b⟩
theorem qaa7 (b : ByteArray) : qahs (.str b) ↔ True := ⟨fun _ => trivial, fun _ => qame b⟩
theorem qaa8 : qahs .nil ↔ True := ⟨fun _ => trivial, fun _ => qamf⟩
theorem qaav : qahs .nilsl ↔ True := ⟨fun _ => trivial, fun _ => qagg⟩
theorem qaa0 (z : Nat) (es : List (List SV)) : qahs (.view z es) ↔ True := ⟨fun _ => trivial, fun _ => qaeg z es⟩
theorem qabc (cs : List SV) : qahs (.cp cs) ↔ True := ⟨fun _ => trivial, fun _ => qats cs⟩
theorem qaa2 : qaht [] ↔ True := ⟨fun _ => trivial, fun _ => qaqk⟩
theorem qaax (x : SV) (xs : List SV) : qaht (x :: xs) ↔ qahs x ∧ qaht xs := ⟨fun h => ⟨h x (by simp), fun y hy => h y (by simp [hy])⟩, fun h => qamh h.1 h.2⟩
theorem qaba (e z : Nat) (es : List (List SV)) : qavw (.row e z es) ↔ ∀ x ∈ es, qaht x := Iff.rfl
theorem qaaw (t : TypeId) (cs : List SV) : qavw (.cells t cs) ↔ qaht cs := Iff.rfl
theorem qaal {α : Type} (f : α → List SV) (xs : List α) : (xs.map f).take xs.length = xs.map f := List.take_of_length_le (by simp)
end Go.Proofs.Ytefkifebgeagiaa
namespace Go.Proofs.Ytefkifebgeagiaa
set_option linter.all false
open Go.RowKit
variable {P : Program} {s : SSt} {os : List SOper} {o : SOper} {tr : List Tch} {R : SSt → List Tch → Prop}
theorem qae9 {b want : Bool} (h1 : b = true → qaln P (.bool true) want o os s tr R) (h2 : b = false → qaln P (.bool false) want o os s tr R) : qaln P (.bool b) want o os s tr R := by
 cases b
 ·exact h2 rfl
 ·exact h1 rfl
theorem qakp {dst : Option Nat} {g : FuncId} {args : List SV} {h1 h2 : Hp} {r : SV} (h : SCalls P g args h1 s.nx r h2) (hs : SubH s.hp h1) (hu : Uniq h2)
  (hn : SOps P os ⟨putd s.sl dst r, qabu s.hp h1 h2, s.nx + 8⟩ (⟨[], (idsH h1 ++ idsH h2).filter fun i => ![].contains i⟩ :: tr) R) : qavu P (.fn (.func g) [] []) args dst os s tr R :=
 qac1 (by simpa using h) hs hu [] (by simp) hn
theorem qacg {dst : Option Nat} {g : FuncId} {args : List SV} {h1 : Hp} {r : SV} (h : SCalls P g args h1 s.nx r h1) (hs : SubH s.hp h1) (hu : Uniq h1)
  (hn : SOps P os ⟨putd s.sl dst r, qabu s.hp h1 h1, s.nx + 8⟩ (⟨idsH h1, (idsH h1 ++ idsH h1).filter fun i => !(idsH h1).contains i⟩ :: tr) R) : qavu P (.fn (.func g) [] []) args dst os s tr R :=
 qac1 (by simpa using h) hs hu (idsH h1) (fun _ _ => rfl) hn
theorem qaa4 {X : Cx} {Q : SExit → SSt → Prop} {id : Nat} {a b : SCode} (h : SWp X (.seq a b) (qahr id Q) s) : SWp X (.block id (.seq a b)) Q s := qabm h
theorem swp_frz {X : Cx} {Q : SExit → SSt → Prop} {c : SCode} (D : List Nat) (hf : FrzOk s.hp D) (h : SWp X c Q ⟨frzS (geth s.hp) D s.sl, frzH (geth s.hp) D s.hp, s.nx⟩) : SWp X c Q s := qalx (qaub D hf.get) h
theorem qafv {c : Prop} {hd : Decidable c} {r : Option (SV × Upd × Nat)} {dst : Option Nat} {t : List Nat} (h : c) (hn : SOpsK P r dst t os s tr R) : SOpsK P (@rg _ c hd r) dst t os s tr R := by
 rw [rg_pos h]; exact hn
end Go.Proofs.Ytefkifebgeagiaa
namespace Go.Proofs.Ytefkifebgeagiaa
set_option linter.all false
open Go.RowKit
variable {X : Cx} {s : SSt}
theorem qaqc {t : TypeId} {cs : List SV} (id j e size : Nat) (h : geth s.hp id = some (.cells t cs)) (hj : cs[j]? = some .nilsl) : Wk X s ⟨s.sl, puth (puth s.hp s.nx (.row e size [])) id (.cells t (cs.set j (.own s.nx 0))), s.nx + 1⟩ := by
 intro ρ fp a w hs
 obtain ⟨ρ', fp', h1, h2, h3, h4⟩ := hs.sim.h.add (w' := w) hs.le (hs.fresh _ (Nat.le_refl _)) (.row e size []) none (fun _ => False) (Below.refl _ _) (fun _ h => h.elim) fun A' ρ' hp' hpl => ⟨.slice none 0 0, [], World.ownsRow_nil _ _ _ _, ⟨Reps.nil, fun v hv => by cases hv⟩, (fun x hx => by cases hx), hpl, fun k => by simp [Value.ownBlock]⟩
 have hne : id ≠ s.nx := fun e => by
  have := (hs.sim.h.objs id _ h).place
  rw [e] at this
  exact this (hs.fresh _ (Nat.le_refl _))
 have hg : geth (puth s.hp s.nx (.row e size [])) id = some (.cells t cs) := by rw [qabv, if_neg hne]; exact h
 have hlive : ∀ k, Live (puth (puth s.hp s.nx (.row e size [])) id (.cells t (cs.set j (.own s.nx 0)))) fp' k → Live (puth s.hp s.nx (.row e size [])) fp' k := by
  rintro k ⟨i, o, ho, hk⟩
  rw [qabv] at ho
  split at ho
  ·rename_i e; subst e; exact ⟨i, _, hg, hk⟩
  ·exact ⟨i, o, ho, hk⟩
 have hobj : ∀ i o, geth (puth (puth s.hp s.nx (.row e size [])) id (.cells t (cs.set j (.own s.nx 0)))) i = some o → ∃ o', geth (puth s.hp s.nx (.row e size [])) i = some o' := by
  intro i o ho
  rw [qabv] at ho
  split at ho
  ·rename_i e; subst e; exact ⟨_, hg⟩
  ·exact ⟨o, ho⟩
 refine ⟨ρ', fp', ⟨⟨fun i o ho => ?_, fun i i' o o' hne' ho ho' => ?_, fun i o ho => ?_, h1.step, h1.keep⟩, hs.sim.tmps, hs.sim.defers, fun u => ?_⟩, fun i hi => ?_, by have := hs.le; simp only; omega⟩
 ·rw [qabv] at ho
  split at ho
  ·rename_i e; subst e
   cases ho
   obtain ⟨b, c, vs, p1, p2, ⟨p3, p4⟩, p5⟩ := h1.objs i _ hg
   refine ⟨b, c, vs, p1, p2, ⟨⟨by rw [List.length_set]; exact p3.1, fun m x v hx hv => ?_⟩, p4⟩, p5⟩
   rw [List.getElem?_set] at hx
   split at hx
   ·rename_i ejm; subst ejm
    split at hx
    ·cases hx
     have := p3.2 j _ v hj hv
     cases this
     exact .own0 h3
    ·cases hx
   ·exact (p3.2 m x v hx hv).weaken fun k hk _ => hk.imp (fun h => h) (hlive k)
  ·exact (h1.objs i o ho).weaken fun k hk _ => hk.imp (fun h => h) (hlive k)
 ·obtain ⟨x, hx⟩ := hobj i o ho
  obtain ⟨y, hy⟩ := hobj i' o' ho'
  exact h1.disj i i' x y hne' hx hy
 ·obtain ⟨x, hx⟩ := hobj i o ho
  exact h1.turn i x hx
 ·exact (h2.rep (hs.sim.slots u)).weaken fun k hk _ => hk.imp (fun h => h) (hlive k)
 ·cases e : ρ' i with
  | none => rfl
  | some p =>
   simp only at hi
   rcases h4 i (by rw [e]; simp) with h5 | h5
   ·exact absurd (hs.fresh i (by omega)) h5
   ·omega
structure Stop (p : Prop) : Prop where
 out : p
theorem qafs {Q : SExit → SSt → Prop} {c : SCode} (h : Stop (SWp X c Q s)) : SWp X c Q s := h.out
end Go.Proofs.Ytefkifebgeagiaa
namespace Go.Proofs.Ytefkifebgeagiaa
set_option linter.all false
open Go.RowKit
def qahd : List SOper := [⟨(some 4), .mv (.c (.bool false)), none, none, 0⟩]
def qahc : List SOper := [⟨(some 6), .mv (.t 0), none, none, 0⟩,
 ⟨(some 7), .len false (.t 6), none, none, 0⟩,
 ⟨(some 8), .mv (.t 1), none, none, 0⟩,
 ⟨(some 9), .len false (.t 8), none, none, 0⟩,
 ⟨(some 10), .bin .neq (.t 7) (.t 9), none, none, 0⟩]
def qahb : List SOper := [⟨(some 4), .mv (.c (.bool false)), none, none, 0⟩]
def qaha : List SOper := [⟨(some 5), .mv (.c (.int .i64 0)), none, none, 0⟩]
def qag9 : List SOper := [⟨(some 11), .mv (.t 5), none, none, 0⟩,
 ⟨(some 12), .mv (.t 0), none, none, 0⟩,
 ⟨(some 13), .len false (.t 12), none, none, 0⟩,
 ⟨(some 14), .bin .lss (.t 11) (.t 13), none, none, 0⟩]
def qag8 : List SOper := [⟨(some 17), .mv (.t 0), none, none, 0⟩,
 ⟨(some 18), .mv (.t 5), none, none, 0⟩,
 ⟨(some 19), .iaddr 1 (.t 17) (.t 18), none, none, 3⟩,
 ⟨(some 20), .load (.t 19), none, none, 7⟩,
 ⟨(some 21), .mv (.t 1), none, none, 0⟩,
 ⟨(some 22), .mv (.t 5), none, none, 0⟩,
 ⟨(some 23), .iaddr 1 (.t 21) (.t 22), none, none, 48⟩,
 ⟨(some 24), .load (.t 23), none, none, 112⟩,
 ⟨(some 25), .bin .neq (.t 20) (.t 24), none, none, 255⟩]
def qag7 : List SOper := [⟨(some 4), .mv (.c (.bool false)), none, none, 0⟩]
def qag6 : List SOper := [⟨(some 15), .mv (.t 5), none, none, 0⟩,
 ⟨(some 16), .bin .add (.t 15) (.c (.int .i64 1)), none, none, 0⟩,
 ⟨(some 5), .mv (.t 16), none, none, 0⟩]
def qahe : SCode := (.seq (.seq (.reg false qag9 [0, 1, 5, 14]) (.cond (.t 14) .skip (.exit 0))) (.seq (.block 1 (.seq (.reg true qag8 [0, 1, 5, 25]) (.cond (.t 25) (.seq (.reg false qag7 [4]) .ret) .skip))) (.reg false qag6 [0, 1, 5])))
def qag5 : List SOper := [⟨(some 4), .mv (.c (.bool true)), none, none, 0⟩]
def c_snums : SCode := (.seq (.reg false qahd [0, 1]) (.seq (.seq (.reg false qahc [0, 1, 10]) (.cond (.t 10) (.seq (.reg false qahb [4]) .ret) .skip)) (.seq (.seq (.reg false qaha [0, 1, 5]) (.block 0 (.loop qahe))) (.seq (.reg false qag5 [4]) .ret))))
theorem qait : comp Try.prog 26 ((Try.f39.body).getD .skip) = some c_snums.erase := by kernel_rfl
def qajw : List SOper := [⟨(some 2), .box 36 (.t 0), none, none, 0⟩,
 ⟨(some 3), .box 36 (.t 1), none, none, 0⟩,
 ⟨(some 4), .mv (.c (.bool false)), none, none, 0⟩]
def qaga : List SOper := [⟨(some 5), .faddr 0 (.t 2), none, none, 0⟩,
 ⟨(some 6), .load (.t 5), none, none, 0⟩,
 ⟨(some 7), .faddr 0 (.t 3), none, none, 0⟩,
 ⟨(some 8), .load (.t 7), none, none, 0⟩,
 ⟨(some 9), .bin .eql (.t 6) (.t 8), none, none, 0⟩,
 ⟨(some 10), .mv (.t 9), none, none, 0⟩,
 ⟨(some 11), .faddr 1 (.t 2), none, (some (10, true)), 0⟩,
 ⟨(some 12), .load (.t 11), none, (some (10, true)), 0⟩,
 ⟨(some 13), .faddr 1 (.t 3), none, (some (10, true)), 0⟩,
 ⟨(some 14), .load (.t 13), none, (some (10, true)), 0⟩,
 ⟨(some 15), .mv (.c .any), some ((.c (.fn (.func 39) [] [])), [(.t 12), (.t 14)]), (some (10, true)), 0⟩,
 ⟨(some 16), .pick (.t 10) (.t 15) (.c (.bool false)), none, none, 0⟩,
 ⟨(some 4), .mv (.t 16), none, none, 0⟩]
def c_shit : SCode := (.seq (.reg false qajw [2, 3]) (.seq (.reg false qaga [4]) .ret))
theorem qakh : comp Try.prog 17 ((Try.f13.body).getD .skip) = some c_shit.erase := by kernel_rfl
def qahi : List SOper := [⟨(some 1), .box 29 (.t 0), none, none, 0⟩,
 ⟨(some 2), .alloc 36 [(.int .i64 0), .nilsl], none, none, 0⟩]
def qahh : List SOper := [⟨(some 3), .faddr 4 (.t 1), none, none, 0⟩,
 ⟨(some 4), .load (.t 3), none, none, 0⟩,
 ⟨(some 5), .faddr 5 (.t 1), none, none, 0⟩,
 ⟨(some 6), .load (.t 5), none, none, 0⟩,
 ⟨(some 7), .build [(.int .i64 0), .nilsl] [(0, 1, (.t 4)), (1, 1, (.t 6))], none, none, 0⟩,
 ⟨none, .store 2 (.t 2) (.t 7), none, none, 0⟩]
def c_hitOf : SCode := (.seq (.reg false qahi [1, 2]) (.seq (.reg false qahh [2]) .ret))
theorem qaiy : comp Try.prog 8 ((Try.f14.body).getD .skip) = some c_hitOf.erase := by kernel_rfl
def qaho : List SOper := [⟨(some 2), .mv (.c (.bool false)), none, none, 0⟩]
def qahn : List SOper := [⟨(some 4), .mv (.t 0), none, none, 0⟩,
 ⟨(some 5), .len false (.t 4), none, none, 0⟩,
 ⟨(some 6), .bin .gtr (.t 5) (.c (.int .i64 200)), none, none, 0⟩]
def qahm : List SOper := [⟨(some 2), .mv (.c (.bool true)), none, none, 0⟩]
def qahl : List SOper := [⟨(some 3), .mv (.c (.int .i64 0)), none, none, 0⟩]
def qahk : List SOper := [⟨(some 7), .mv (.t 3), none, none, 0⟩,
 ⟨(some 8), .mv (.t 0), none, none, 0⟩,
 ⟨(some 9), .len false (.t 8), none, none, 0⟩,
 ⟨(some 10), .bin .lss (.t 7) (.t 9), none, none, 0⟩]
def qadu : List SOper := [⟨(some 13), .mv (.t 0), none, none, 0⟩,
 ⟨(some 14), .mv (.t 3), none, none, 0⟩,
 ⟨(some 15), .iaddr 7 (.t 13) (.t 14), none, none, 0⟩,
 ⟨(some 16), .faddr 1 (.t 15), none, none, 0⟩,
 ⟨(some 17), .faddr 0 (.t 16), none, none, 0⟩,
 ⟨(some 18), .load (.t 17), none, none, 0⟩,
 ⟨(some 19), .len false (.t 18), none, none, 0⟩,
 ⟨(some 20), .bin .gtr (.t 19) (.c (.int .i64 20)), none, none, 0⟩,
 ⟨(some 21), .mv (.t 20), none, none, 0⟩,
 ⟨(some 22), .mv (.t 0), none, (some (21, false)), 0⟩,
 ⟨(some 23), .mv (.t 3), none, (some (21, false)), 0⟩,
 ⟨(some 24), .iaddr 7 (.t 22) (.t 23), none, (some (21, false)), 0⟩,
 ⟨(some 25), .faddr 1 (.t 24), none, (some (21, false)), 0⟩,
 ⟨(some 26), .faddr 1 (.t 25), none, (some (21, false)), 0⟩,
 ⟨(some 27), .load (.t 26), none, (some (21, false)), 0⟩,
 ⟨(some 28), .len false (.t 27), none, (some (21, false)), 0⟩,
 ⟨(some 29), .bin .gtr (.t 28) (.c (.int .i64 20)), none, (some (21, false)), 0⟩,
 ⟨(some 30), .pick (.t 21) (.c (.bool true)) (.t 29), none, none, 0⟩,
 ⟨(some 31), .mv (.t 30), none, none, 0⟩,
 ⟨(some 32), .mv (.t 0), none, (some (31, false)), 0⟩,
 ⟨(some 33), .mv (.t 3), none, (some (31, false)), 0⟩,
 ⟨(some 34), .iaddr 7 (.t 32) (.t 33), none, (some (31, false)), 0⟩,
 ⟨(some 35), .faddr 1 (.t 34), none, (some (31, false)), 0⟩,
 ⟨(some 36), .faddr 5 (.t 35), none, (some (31, false)), 0⟩,
 ⟨(some 37), .load (.t 36), none, (some (31, false)), 0⟩,
 ⟨(some 38), .len false (.t 37), none, (some (31, false)), 0⟩,
 ⟨(some 39), .bin .gtr (.t 38) (.c (.int .i64 20)), none, (some (31, false)), 0⟩,
 ⟨(some 40), .pick (.t 31) (.c (.bool true)) (.t 39), none, none, 0⟩]
def qae7 : List SOper := [⟨(some 2), .mv (.c (.bool true)), none, none, 0⟩]
def qae6 : List SOper := [⟨(some 11), .mv (.t 3), none, none, 0⟩,
 ⟨(some 12), .bin .add (.t 11) (.c (.int .i64 1)), none, none, 0⟩,
 ⟨(some 3), .mv (.t 12), none, none, 0⟩]
def qahp : SCode := (.seq (.seq (.reg false qahk [0, 3, 10]) (.cond (.t 10) .skip (.exit 0))) (.seq (.block 1 (.seq (.reg false qadu [0, 3, 40]) (.cond (.t 40) (.seq (.reg false qae7 [2]) .ret) .skip))) (.reg false qae6 [0, 3])))
def qae5 : List SOper := [⟨(some 2), .mv (.c (.bool false)), none, none, 0⟩]
def c_great : SCode := (.seq (.reg false qaho [0]) (.seq (.seq (.reg false qahn [0, 6]) (.cond (.t 6) (.seq (.reg false qahm [2]) .ret) .skip)) (.seq (.seq (.reg false qahl [0, 3]) (.block 0 (.loop qahp))) (.seq (.reg false qae5 [2]) .ret))))
theorem qai0 : comp Try.prog 41 ((Try.f7.body).getD .skip) = some c_great.erase := by kernel_rfl
end Go.Proofs.Ytefkifebgeagiaa
namespace Go.Proofs.Ytefkifebgeagiaa
set_option linter.all false
open Go.RowKit
structure Ins where
 op : Int
 r : Int
 s : Int
 k : Int
 to : Int
 n : Int
 deriving Inhabited, DecidableEq
structure Shape where
 keys : Int
 acts : Int
 args : Int
 deriving Inhabited, DecidableEq
def Ins.wf (x : Ins) : Prop := Fits .i64 x.op ∧ Fits .i64 x.r ∧ Fits .i64 x.s ∧ Fits .i64 x.k ∧ Fits .i64 x.to ∧ Fits .u64 x.n
def Shape.wf (x : Shape) : Prop := Fits .i64 x.keys ∧ Fits .i64 x.acts ∧ Fits .i64 x.args
def Ins.cells (x : Ins) : List Value := [.int .i64 x.op, .int .i64 x.r, .int .i64 x.s, .int .i64 x.k, .int .i64 x.to, .int .u64 x.n]
def Shape.cells (x : Shape) : List Value := [.int .i64 x.keys, .int .i64 x.acts, .int .i64 x.args]
def Lay.flat {α : Type} (size : Nat) (enc : α → List Value) (ok : α → Prop) (hl : ∀ a, (enc a).length = size) : Lay α where
 size := size
 rep _ _ x cs := cs = enc x ∧ ok x
 len h := by rw [h.1]; exact hl _
 step h _ := h
 weaken h _ := h
end Go.Proofs.Ytefkifebgeagiaa
namespace Go.Proofs.Ytefkifebgeagiaa
set_option linter.all false
open Go.RowKit
structure Entry where
 keys : List Int
 masks : List Int
 len : Int
 prio : Int
 act : Int
 args : List Int
instance : Inhabited Entry := ⟨⟨[], [], 0, 0, 0, []⟩⟩
def u64s : Lay (List Int) := Lay.slice (Lay.int .u64)
def qacx : Lay Entry := Lay.map (fun e => (e.keys, e.masks, e.len, e.prio, e.act, e.args)) (Lay.pair u64s (Lay.pair u64s (Lay.pair (Lay.int .i64) (Lay.pair (Lay.int .i64) (Lay.pair (Lay.int .i64) u64s)))))
instance : One qacx := ⟨fun h => One.one (L := Lay.pair (Lay.slice (Lay.int .u64)) (Lay.pair (Lay.slice (Lay.int .u64)) (Lay.pair (Lay.int .i64) (Lay.pair (Lay.int .i64) (Lay.pair (Lay.int .i64) (Lay.slice (Lay.int .u64))))))) h⟩
end Go.Proofs.Ytefkifebgeagiaa
namespace Go.Proofs.Ytefkifebgeagiaa
set_option linter.all false
open Go.RowKit
def qaag (e : Entry) : List SV := [nums .u64 e.keys, nums .u64 e.masks, .int .i64 e.len, .int .i64 e.prio, .int .i64 e.act, nums .u64 e.args]
def qacb (e : Entry) : Prop := e.keys.length ≤ 1000000 ∧ e.masks.length ≤ 1000000 ∧ e.args.length ≤ 1000000
theorem qaf0 : Try.prog.follows .mixedOrders = true := by kernel_rfl
theorem qatg : qae8 Try.prog 29 = some true := by kernel_rfl
theorem qal2 : qabj Try.prog 29 = some 6 := by kernel_rfl
end Go.Proofs.Ytefkifebgeagiaa
namespace Go.Proofs.Ytefkifebgeagiaa
set_option linter.all false
open Go.RowKit Go.ChangeShapes Go.WideShapes Go.Deep
structure Opens (P : Program) (t : TypeId) {α : Type} (L : Lay α) : Prop where
 size : P.cellsOf t = L.size
 pos : 0 < L.size
 opn : ∀ {H : Type} {enc : TypeId × Value → H} {w : World} {fuel : Nat} {cs : List Value} {x : DataW H × List MemPlace}, DataW.trod enc P w 0 (fun _ => true) true fuel t cs = some x → ∃ a, L.rep NoA w a cs
theorem Opens.int {P : Program} {t : TypeId} {k : IntKind} (hu : P.underlying t = some (.int k)) (hc : P.cellsOf t = 1) : Opens P t (Lay.int k) :=
 ⟨hc, Nat.one_pos, fun h => by obtain ⟨n, rfl, _, hw⟩ := DataW.trod_int hu h; exact ⟨n, rfl, hw⟩⟩
theorem Opens.bool {P : Program} {t : TypeId} (hu : P.underlying t = some .bool) (hc : P.cellsOf t = 1) : Opens P t Lay.bool :=
 ⟨hc, Nat.one_pos, fun h => by obtain ⟨n, rfl, _⟩ := DataW.trod_bool hu h; exact ⟨n, rfl⟩⟩
theorem Opens.weak {P : Program} {t : TypeId} {α β : Type} {L : Lay α} {M : Lay β} (h : Opens P t L) (hs : M.size = L.size) (f : ∀ {w a cs}, L.rep NoA w a cs → ∃ b, M.rep NoA w b cs) : Opens P t M :=
 ⟨h.size.trans hs.symm, by rw [hs]; exact h.pos, fun hx => by obtain ⟨a, ha⟩ := h.opn hx; exact f ha⟩
theorem Opens.slice {P : Program} {t e : TypeId} {α : Type} {L : Lay α} (h : Opens P e L) (hu : P.underlying t = some (.slice e)) (hc : P.cellsOf t = 1) : Opens P t (Lay.slice L) := by
 refine ⟨hc, Nat.one_pos, fun {H enc w fuel cs x} hx => ?_⟩
 rcases open_slice hu hx with ⟨rfl, _⟩ | ⟨a, len, cap, m, n, D, Pl, rfl, _, hl, hm, hmm, _, hi⟩
 ·exact ⟨[], none, 0, 0, rfl, RdL.nil_ _ _ _⟩
 ·simp at hmm
  subst hmm
  have hs : a.spot = none ∨ m = 0 := by
   rcases Nat.eq_zero_or_pos m with e | e
   ·exact .inr e
   ·left
    obtain ⟨cs', hc', _⟩ := hi 0 e
    obtain ⟨_, hcl, hat⟩ := World.cells?_some hc'
    have h0 := hat 0 (by rw [h.size]; exact h.pos)
    obtain ⟨b, off, spot⟩ := a
    cases spot with
    | none => rfl
    | some s =>
     rw [List.getElem?_eq_getElem (by rw [hcl, h.size]; exact h.pos)] at h0
     simp [Addr.add, World.cell?] at h0
     split at h0 <;> simp at h0
  rcases hs with hs | rfl
  ·obtain ⟨b, off, spot⟩ := a
   obtain rfl : spot = none := hs
   have hel : ∀ i, i < m → ∃ x, ∃ cs, L.rep NoA w x cs ∧ ∀ j, j < L.size → w.cell? ⟨b, off + i * L.size + j, none⟩ = cs[j]? := by
    intro i him
    obtain ⟨cs', hc', ht⟩ := hi i him
    obtain ⟨x, hr⟩ := h.opn ht
    obtain ⟨_, hcl, hat⟩ := World.cells?_some hc'
    refine ⟨x, cs', hr, fun j hj => ?_⟩
    have := hat j (by rw [h.size]; exact hj)
    rw [h.size, qadf, qadf] at this
    exact this
   have hex : ∀ i : Nat, ∃ x : Option α, i < m → ∃ y, x = some y ∧ ∃ cs, L.rep NoA w y cs ∧ ∀ j, j < L.size → w.cell? ⟨b, off + i * L.size + j, none⟩ = cs[j]? := by
    intro i
    by_cases him : i < m
    ·obtain ⟨x, hx⟩ := hel i him
     exact ⟨some x, fun _ => ⟨x, rfl, hx⟩⟩
    ·exact ⟨none, fun h => absurd h him⟩
   obtain ⟨f, hf⟩ := Classical.axiomOfChoice hex
   have hfs : ∀ i (hh : i < m), (f i).isSome := fun i hh => by obtain ⟨y, hy, _⟩ := hf i hh; rw [hy]; rfl
   let xs : List α := List.ofFn fun i : Fin len => (f i).get (hfs i (by omega))
   have hxl : xs.length = len := by simp [xs]
   refine ⟨xs, some ⟨b, off, none⟩, len, m, rfl, hxl, hl, hm, by simp, fun h0 => ?_⟩
   have hblk : b < w.heap.size := by
    obtain ⟨y, hy, cs, hr, hj⟩ := hf 0 (by omega)
    have h00 := hj 0 h.pos
    rw [List.getElem?_eq_getElem (by rw [L.len hr]; exact h.pos)] at h00
    exact block_lt_of_cell h00
   refine ⟨b, off, rfl, fun h => h, hblk, fun i hi' => ?_⟩
   obtain ⟨y, hy, cs, hr, hj⟩ := hf i (by omega)
   refine ⟨cs, ?_, hj⟩
   have : xs[i] = y := by simp [xs, hy]
   rw [this]; exact hr
  ·obtain rfl : len = 0 := by omega
   refine ⟨[], some a, 0, 0, rfl, rfl, Nat.le_refl _, hm, by simp, fun h => absurd h (by omega)⟩
def OpensF (P : Program) (fs : List Field) (off : Nat) {α : Type} (L : Lay α) : Prop :=
 ∀ {H : Type} {enc : TypeId × Value → H} {w : World} {cs : List Value}, (∀ f ∈ fs, ∃ fuel x, DataW.trod enc P w 0 (fun _ => true) true fuel f.type ((cs.drop f.offset).take (P.cellsOf f.type)) = some x) → cs.length = off + L.size → ∃ a, L.rep NoA w a (cs.drop off)
theorem OpensF.one {P : Program} {f : Field} {off : Nat} {α : Type} {L : Lay α} (h : Opens P f.type L) (ho : f.offset = off) : OpensF P [f] off L := by
 intro H enc w cs hf hl
 obtain ⟨fuel, x, hx⟩ := hf f (by simp)
 rw [ho, h.size, List.take_of_length_le (by simp; omega)] at hx
 exact h.opn hx
theorem OpensF.cons {P : Program} {f : Field} {fs : List Field} {off : Nat} {α β : Type} {L : Lay α} {M : Lay β} (h : Opens P f.type L) (ho : f.offset = off) (g : OpensF P fs (off + L.size) M) : OpensF P (f :: fs) off (Lay.pair L M) := by
 intro H enc w cs hf hl
 obtain ⟨fuel, x, hx⟩ := hf f (by simp)
 rw [ho, h.size] at hx
 obtain ⟨a, ha⟩ := h.opn hx
 obtain ⟨b, hb⟩ := g (cs := cs) (fun f' hf' => hf f' (List.mem_cons_of_mem _ hf')) (by rw [hl]; show _ = _; simp only [Lay.pair]; omega)
 refine ⟨(a, b), _, _, ?_, ha, hb⟩
 rw [← List.drop_drop, List.take_append_drop]
theorem Opens.struct {P : Program} {t : TypeId} {fs : List Field} {α : Type} {L : Lay α} (hu : P.underlying t = some (.struct fs.toArray)) (h : OpensF P fs 0 L) (hc : P.cellsOf t = L.size) (hp : 0 < L.size) : Opens P t L := by
 refine ⟨hc, hp, fun {H enc w fuel cs x} hx => ?_⟩
 obtain ⟨xs, n, _, _, hl, hxl, hf⟩ := DataW.trod_struct hu hx
 have := h (cs := cs) (enc := enc) (w := w) (fun f hf' => ?_) (by rw [hl, hc, Nat.zero_add])
 ·simpa using this
 ·obtain ⟨i, hi, rfl⟩ := List.getElem_of_mem hf'
  refine ⟨n, xs[i]'(by rw [hxl]; simpa using hi), ?_⟩
  rw [hf i _ (by simp [hi])]
  exact List.getElem?_eq_getElem _
theorem Opens.arg {P : Program} {t : TypeId} {fs : Array Field} {α : Type} {L : Lay α} (h : Opens P t L) (hu : P.underlying t = some (.struct fs)) {H : Type} {enc : TypeId × Value → H} {w : World} {r : Reach} {b0 : Nat} {v : Value} {d : DataW H} {p : List MemPlace}
  (hv : Value.okWide P w r b0 t v) (ht : DataW.Trod enc P w 0 (fun _ => true) true t v d p) : ∃ a cs, v = .agg cs ∧ L.rep NoA w a cs.toList := by
 obtain ⟨cs, rfl, _⟩ := okWide_struct hu hv
 obtain ⟨fuel, hf⟩ := ht
 obtain ⟨a, ha⟩ := h.opn hf
 exact ⟨a, cs, rfl, ha⟩
theorem Opens.argSlice {P : Program} {t e : TypeId} {α : Type} {L : Lay α} (h : Opens P e L) (hu : P.underlying t = some (.slice e)) (hc : P.cellsOf t = 1) {H : Type} {enc : TypeId × Value → H} {w : World} {r : Reach} {b0 : Nat} {v : Value} {d : DataW H} {p : List MemPlace}
  (hv : Value.okWide P w r b0 t v) (ht : DataW.Trod enc P w 0 (fun _ => true) true t v d p) : ∃ xs ao n cap, v = .slice ao n cap ∧ RdL L NoA w ao n cap xs := by
 obtain ⟨a, len, cap, rfl⟩ := okWide_slice hu hv
 obtain ⟨fuel, hf⟩ := ht
 obtain ⟨xs, ao, n, cap', e, hr⟩ := (h.slice hu hc).opn hf
 simp [Value.cells] at e
 obtain ⟨rfl, rfl, rfl⟩ := e
 exact ⟨xs, _, _, _, rfl, hr⟩
theorem RdL.old {α : Type} {L : Lay α} {w : World} {ao : Option Addr} {n cap : Nat} {xs : List α} (h : RdL L NoA w ao n cap xs) : RdL L (fun k => w.heap.size ≤ k) w ao n cap xs := h.weaken fun k h1 h2 => absurd h2 (Nat.not_lt_of_le h1)
end Go.Proofs.Ytefkifebgeagiaa
namespace Go.Proofs.Ytefkifebgeagiaa
set_option linter.all false
open Go.RowKit Go.ChangeShapes Go.WideShapes
structure RefD where
 h : Int
 f : Int
structure PushD where
 op : Int
 r : RefD
 n : Int
structure HeadD where
 w : List Int
structure CaseD where
 value : Int
 mask : Int
 to_ : Int
structure StateD where
 head : Int
 on : RefD
 cases_ : List CaseD
 els : Int
structure OpD where
 kind : Int
 r : RefD
 head : Int
 e : List PushD
structure ActD where
 w : List Int
 ops : List OpD
structure TabD where
 kind : Int
 keys : List RefD
 acts : List Int
 cap : Int
 def_ : Int
 args : List Int
structure NodeD where
 kind : Int
 n : Int
 e : List PushD
 yes : Int
 no : Int
structure PlanD where
 heads : List HeadD
 meta_ : List Int
 states : List StateD
 acts : List ActD
 tabs : List TabD
 nodes : List NodeD
 out : List Int
def refc (r : RefD) : List SV := [.int .i64 r.h, .int .i64 r.f]
def pushc (p : PushD) : List SV := [.int .i64 p.op, .int .i64 p.r.h, .int .i64 p.r.f, .int .u64 p.n]
def pushes (l : List PushD) : SV := .view 4 (l.map pushc)
def headc (h : HeadD) : List SV := [nums .i64 h.w]
def casec (c : CaseD) : List SV := [.int .u64 c.value, .int .u64 c.mask, .int .i64 c.to_]
def qaqe (s : StateD) : List SV := [.int .i64 s.head, .int .i64 s.on.h, .int .i64 s.on.f, .view 3 (s.cases_.map casec), .int .i64 s.els]
def opc (o : OpD) : List SV := [.int .i64 o.kind, .int .i64 o.r.h, .int .i64 o.r.f, .int .i64 o.head, pushes o.e]
def actc (a : ActD) : List SV := [nums .i64 a.w, .view 5 (a.ops.map opc)]
def tabc (t : TabD) : List SV := [.int .i64 t.kind, .view 2 (t.keys.map refc), nums .i64 t.acts, .int .i64 t.cap, .int .i64 t.def_, nums .u64 t.args]
def nodec (n : NodeD) : List SV := [.int .i64 n.kind, .int .i64 n.n, pushes n.e, .int .i64 n.yes, .int .i64 n.no]
def planc (p : PlanD) : List SV := [.view 1 (p.heads.map headc), nums .i64 p.meta_, .view 5 (p.states.map qaqe), .view 2 (p.acts.map actc), .view 6 (p.tabs.map tabc), .view 5 (p.nodes.map nodec), nums .i64 p.out]
end Go.Proofs.Ytefkifebgeagiaa
namespace Go.Proofs.Ytefkifebgeagiaa
set_option linter.all false
open Go.RowKit
def mk (f : Nat → Int) (m : Nat) : List Int := (List.range m).map f
def Bits (f : Nat → Int) : Prop := ∀ k, 0 ≤ f k ∧ f k ≤ 1
def acc (f : Nat → Int) : Nat → Int
 | 0 => 0
 | i + 1 => 2 * acc f i + f i
theorem Bits.drop {xs : List Int} (h : Bits (el xs)) (lo : Nat) : Bits (el (xs.drop lo)) := fun k => by rw [el_drop]; exact h _
theorem Bits.take {xs : List Int} (h : Bits (el xs)) (m : Nat) : Bits (el (xs.take m)) := fun k => by
 rw [el_take]; split
 ·exact h k
 ·omega
theorem Bits.append {xs ys : List Int} (h : Bits (el xs)) (g : Bits (el ys)) : Bits (el (xs ++ ys)) := fun k => by
 rw [qaq0]; split
 ·exact h k
 ·exact g _
theorem Bits.fit {xs : List Int} (h : Bits (el xs)) : AllFit .u8 xs := by
 intro x hx
 obtain ⟨i, hi, rfl⟩ := List.mem_iff_getElem.1 hx
 have := h i
 rw [qap9 _ _ hi] at this
 exact Fits.of_u8 (by omega) (by omega)
end Go.Proofs.Ytefkifebgeagiaa
namespace Go.Proofs.Ytefkifebgeagiaa
set_option linter.all false
open Go.RowKit
theorem snums_s (xs ys : List Int) (hx : xs.length ≤ 1000000) : SCalls Try.prog 39 [nums .u64 xs, nums .u64 ys] [] 0 (.bool (decide (xs = ys))) [] := by
 refine qaan (N := 26) Try.func39 rfl rfl (by kernel_rfl) qait (by simp) ⟨rfl, rfl, trivial⟩ trivial ?_
 rintro X hP hN hm
 unfold c_snums nums
 refine qabh (qaaf ?_)
 simp -implicitDefEqProofs [qahd, qaar, qaaq, qaac, qaai, qaad, qaah, qaao, qaap, qaab, qaa5, SOp.run, SX.ev, putd, puts, argS, upds, SOp.touch, SSt.keep, SSt.skip, gets, geth, puth, delh, idOf, SV.cells?, setL, qab5, qab6, sbin, eq0, eq1, eqL, qab4, qabe, qabf, qaas, qaat, qaaa, qaau, qaa6, qaae]
 refine qabh (qabh (qaaf ?_))
 simp -implicitDefEqProofs [qahc, qaar, qaaq, qaac, qaai, qaad, qaah, qaao, qaap, qaab, qaa5, SOp.run, SX.ev, putd, puts, argS, upds, SOp.touch, SSt.keep, SSt.skip, gets, geth, puth, delh, idOf, SV.cells?, setL, qab5, qab6, sbin, eq0, eq1, eqL, qab4, qabe, qabf, qaas, qaat, qaaa, qaau, qaa6, qaae]
 refine qaak rfl (fun h => ?_) (fun h => ?_)
 ·refine qabh (qaaf ?_)
  simp -implicitDefEqProofs [qahb, qaar, qaaq, qaac, qaai, qaad, qaah, qaao, qaap, qaab, qaa5, SOp.run, SX.ev, putd, puts, argS, upds, SOp.touch, SSt.keep, SSt.skip, gets, geth, puth, delh, idOf, SV.cells?, setL, qab5, qab6, sbin, eq0, eq1, eqL, qab4, qabe, qabf, qaas, qaat, qaaa, qaau, qaa6, qaae]
  refine qaay (qac6 (s' := ⟨[(4, .bool (decide (xs = ys)))], [], 0⟩) (qacm [] hm rfl (Nat.le_refl _) ?_ trivial) rfl trivial (by simp))
  have hne : xs ≠ ys := fun e => by subst e; simp at h
  simp -implicitDefEqProofs [qaal, FrzOk, qaa9, qaa1, qaa7, qaa8, qaav, qaa0, qabc, qaa2, qaax, qaba, qaaw, frzS, frzH, frz, frz1, frz0, SlotsM, ObjsM, ObjM, rn, ren, ren1, ren0, gets, geth, qabl, qab0, qab3, qabk, qabd, qabz, qab2, CoL, qabb, hne]
 ·have hl : xs.length = ys.length := by simp at h; omega
  refine qaaz ?_
  simp -implicitDefEqProofs [qaar, qaaq, qaac, qaai, qaad, qaah, qaao, qaap, qaab, qaa5, SOp.run, SX.ev, putd, puts, argS, upds, SOp.touch, SSt.keep, SSt.skip, gets, geth, puth, delh, idOf, SV.cells?, setL, qab5, qab6, sbin, eq0, eq1, eqL, qab4, qabe, qabf, qaas, qaat, qaaa, qaau, qaa6, qaae]
  refine qabh (qabh (qaaf ?_))
  simp -implicitDefEqProofs [qaha, qaar, qaaq, qaac, qaai, qaad, qaah, qaao, qaap, qaab, qaa5, SOp.run, SX.ev, putd, puts, argS, upds, SOp.touch, SSt.keep, SSt.skip, gets, geth, puth, delh, idOf, SV.cells?, setL, qab5, qab6, sbin, eq0, eq1, eqL, qab4, qabe, qabf, qaas, qaat, qaaa, qaau, qaa6, qaae]
  refine qabm (qah1 (fun s n => ∃ i : Nat, s = ⟨[(0, nums .u64 xs), (1, nums .u64 ys), (5, .int .i64 i)], [], 0⟩ ∧ i ≤ xs.length ∧ xs.take i = ys.take i ∧ n = xs.length - i) (qacm [] hm rfl (Nat.le_refl _) (by simp -implicitDefEqProofs [qaal, FrzOk, qaa9, qaa1, qaa7, qaa8, qaav, qaa0, qabc, qaa2, qaax, qaba, qaaw, frzS, frzH, frz, frz1, frz0, SlotsM, ObjsM, ObjM, rn, ren, ren1, ren0, gets, geth, qabl, qab0, qab3, qabk, qabd, qabz, qab2, CoL, qabb, nums]) (by trivial)) ⟨0, rfl, by omega, rfl, rfl⟩ ?_)
  rintro s n ⟨i, rfl, h1, h2, rfl⟩
  unfold qahe
  refine qabh (qabh (qaaf ?_))
  simp -implicitDefEqProofs [qag9, qaar, qaaq, qaac, qaai, qaad, qaah, qaao, qaap, qaab, qaa5, SOp.run, SX.ev, putd, puts, argS, upds, SOp.touch, SSt.keep, SSt.skip, gets, geth, puth, delh, idOf, SV.cells?, setL, qab5, qab6, sbin, eq0, eq1, eqL, qab4, qabe, qabf, qaas, qaat, qaaa, qaau, qaa6, qaae, nums]
  refine qaak rfl (fun h3 => qaaz ?_) (fun h3 => qabt ?_)
  ·have hi : i < xs.length := by simpa using h3
   simp -implicitDefEqProofs [qaar, qaaq, qaac, qaai, qaad, qaah, qaao, qaap, qaab, qaa5, SOp.run, SX.ev, putd, puts, argS, upds, SOp.touch, SSt.keep, SSt.skip, gets, geth, puth, delh, idOf, SV.cells?, setL, qab5, qab6, sbin, eq0, eq1, eqL, qab4, qabe, qabf, qaas, qaat, qaaa, qaau, qaa6, qaae]
   refine qabh (qabm (qabh (qabs (by rw [hP]; exact qaf0) ?_)))
   have hi2 : i < ys.length := by omega
   simp -implicitDefEqProofs [qag8, qaar, qaaq, qaac, qaai, qaad, qaah, qaao, qaap, qaab, qaa5, SOp.run, SX.ev, putd, puts, argS, upds, SOp.touch, SSt.keep, SSt.skip, gets, geth, puth, delh, idOf, SV.cells?, setL, qab5, qab6, sbin, eq0, eq1, eqL, qab4, qabe, qabf, qaas, qaat, qaaa, qaau, qaa6, qaae, hi, hi2]
   refine ⟨rfl, qaak rfl (fun h4 => ?_) (fun h4 => ?_)⟩
   ·refine qabh (qaaf ?_)
    simp -implicitDefEqProofs [qag7, qaar, qaaq, qaac, qaai, qaad, qaah, qaao, qaap, qaab, qaa5, SOp.run, SX.ev, putd, puts, argS, upds, SOp.touch, SSt.keep, SSt.skip, gets, geth, puth, delh, idOf, SV.cells?, setL, qab5, qab6, sbin, eq0, eq1, eqL, qab4, qabe, qabf, qaas, qaat, qaaa, qaau, qaa6, qaae]
    refine qaay ?_
    refine (qac6 (s' := ⟨[(4, .bool (decide (xs = ys)))], [], 0⟩) (qacm [] hm rfl (Nat.le_refl _) ?_ trivial) rfl trivial (by simp))
    have hne : xs ≠ ys := fun e => by subst e; simp at h4
    simp -implicitDefEqProofs [qaal, FrzOk, qaa9, qaa1, qaa7, qaa8, qaav, qaa0, qabc, qaa2, qaax, qaba, qaaw, frzS, frzH, frz, frz1, frz0, SlotsM, ObjsM, ObjM, rn, ren, ren1, ren0, gets, geth, qabl, qab0, qab3, qabk, qabd, qabz, qab2, CoL, qabb, hne]
   ·refine qaaz ?_
    simp -implicitDefEqProofs [qaar, qaaq, qaac, qaai, qaad, qaah, qaao, qaap, qaab, qaa5, SOp.run, SX.ev, putd, puts, argS, upds, SOp.touch, SSt.keep, SSt.skip, gets, geth, puth, delh, idOf, SV.cells?, setL, qab5, qab6, sbin, eq0, eq1, eqL, qab4, qabe, qabf, qaas, qaat, qaaa, qaau, qaa6, qaae]
    refine qaaf ?_
    simp -implicitDefEqProofs [qag6, qaar, qaaq, qaac, qaai, qaad, qaah, qaao, qaap, qaab, qaa5, SOp.run, SX.ev, putd, puts, argS, upds, SOp.touch, SSt.keep, SSt.skip, gets, geth, puth, delh, idOf, SV.cells?, setL, qab5, qab6, sbin, eq0, eq1, eqL, qab4, qabe, qabf, qaas, qaat, qaaa, qaau, qaa6, qaae]
    rw [qacj (by omega) (by omega)]
    have h5 : xs[i] = ys[i] := by simpa using h4
    refine qagf (qacm [] hm rfl (Nat.le_refl _) (by simp -implicitDefEqProofs [qaal, FrzOk, qaa9, qaa1, qaa7, qaa8, qaav, qaa0, qabc, qaa2, qaax, qaba, qaaw, frzS, frzH, frz, frz1, frz0, SlotsM, ObjsM, ObjM, rn, ren, ren1, ren0, gets, geth, qabl, qab0, qab3, qabk, qabd, qabz, qab2, CoL, qabb, nums]) (by trivial)) ⟨i + 1, rfl, by omega, ?_, rfl⟩ (by omega)
    rw [List.take_succ_eq_append_getElem hi, List.take_succ_eq_append_getElem hi2, h2, h5]
  ·have hi : i = xs.length := by have : ¬ i < xs.length := by simpa using h3
                                 omega
   have he : xs = ys := by
    have e1 := h2
    rw [hi, List.take_length, hl, List.take_length] at e1; exact e1
   simp -implicitDefEqProofs [qaar, qaaq, qaac, qaai, qaad, qaah, qaao, qaap, qaab, qaa5, SOp.run, SX.ev, putd, puts, argS, upds, SOp.touch, SSt.keep, SSt.skip, gets, geth, puth, delh, idOf, SV.cells?, setL, qab5, qab6, sbin, eq0, eq1, eqL, qab4, qabe, qabf, qaas, qaat, qaaa, qaau, qaa6, qaae]
   refine qabh (qaaf ?_)
   simp -implicitDefEqProofs [qag5, qaar, qaaq, qaac, qaai, qaad, qaah, qaao, qaap, qaab, qaa5, SOp.run, SX.ev, putd, puts, argS, upds, SOp.touch, SSt.keep, SSt.skip, gets, geth, puth, delh, idOf, SV.cells?, setL, qab5, qab6, sbin, eq0, eq1, eqL, qab4, qabe, qabf, qaas, qaat, qaaa, qaau, qaa6, qaae]
   refine qaay ?_
   refine (qac6 (s' := ⟨[(4, .bool (decide (xs = ys)))], [], 0⟩) (qacm [] hm rfl (Nat.le_refl _) ?_ trivial) rfl trivial (by simp))
   simp -implicitDefEqProofs [qaal, FrzOk, qaa9, qaa1, qaa7, qaa8, qaav, qaa0, qabc, qaa2, qaax, qaba, qaaw, frzS, frzH, frz, frz1, frz0, SlotsM, ObjsM, ObjM, rn, ren, ren1, ren0, gets, geth, qabl, qab0, qab3, qabk, qabd, qabz, qab2, CoL, qabb, he]
end Go.Proofs.Ytefkifebgeagiaa
namespace Go.Proofs.Ytefkifebgeagiaa
set_option linter.all false
open Go.RowKit
theorem qanh (xs ys : List Int) (hx : xs.length ≤ 1000000) (q : Nat) : SCalls Try.prog 39 [.view 1 (xs.map fun x => [.int .u64 x]), .view 1 (ys.map fun x => [.int .u64 x])] [] q (.bool (decide (xs = ys))) [] :=
 qabi (snums_s xs ys hx) (fun σ => rfl) (fun σ => rfl) rfl q
end Go.Proofs.Ytefkifebgeagiaa
namespace Go.Proofs.Ytefkifebgeagiaa
set_option linter.all false
open Go.RowKit Go.ChangeShapes Go.WideShapes
structure TStep where
 d : Int
 e : Entry
instance : Inhabited TStep := ⟨⟨0, default⟩⟩
def qahx : Lay TStep := Lay.map (fun s => (s.d, s.e)) (Lay.pair (Lay.int .i64) qacx)
theorem qaqq : Opens Try.prog 3 (Lay.int .i64) := Opens.int Try.underlying3 (by kernel_rfl)
theorem opensU : Opens Try.prog 39 (Lay.int .u64) := Opens.int Try.underlying39 (by kernel_rfl)
theorem qaum : Opens Try.prog 23 (Lay.slice (Lay.int .u64)) := opensU.slice Try.underlying23 (by kernel_rfl)
theorem qaj6 : Opens Try.prog 29 qacx := by
 have h : Opens Try.prog 29 (Lay.pair (Lay.slice (Lay.int .u64)) (Lay.pair (Lay.slice (Lay.int .u64)) (Lay.pair (Lay.int .i64) (Lay.pair (Lay.int .i64) (Lay.pair (Lay.int .i64) (Lay.slice (Lay.int .u64))))))) :=
  Opens.struct Try.underlying29 (OpensF.cons qaum rfl (OpensF.cons qaum rfl (OpensF.cons qaqq rfl (OpensF.cons qaqq rfl (OpensF.cons qaqq rfl (OpensF.one qaum rfl)))))) (by kernel_rfl) (by decide)
 refine h.weak rfl ?_
 rintro w ⟨a, b, c, d, e, f⟩ cs hr
 exact ⟨⟨a, b, c, d, e, f⟩, hr⟩
theorem opens_tstep : Opens Try.prog 31 qahx := by
 have h : Opens Try.prog 31 (Lay.pair (Lay.int .i64) qacx) :=
  Opens.struct Try.underlying31 (OpensF.cons qaqq rfl (OpensF.one qaj6 rfl)) (by kernel_rfl) (by decide)
 refine h.weak rfl ?_
 rintro w ⟨a, e⟩ cs hr
 exact ⟨⟨a, e⟩, hr⟩
end Go.Proofs.Ytefkifebgeagiaa
namespace Go.Proofs.Ytefkifebgeagiaa
set_option linter.all false
open Go.RowKit
def ents (xs : List Entry) : SV := .view 6 (xs.map qaag)
def qad1 (a : Int) (xs : List Int) : List SV := [.int .i64 a, nums .u64 xs]
theorem shit_s (a b : Int) (xs ys : List Int) (hx : xs.length ≤ 1000000) : SCalls Try.prog 13 [.agg (qad1 a xs), .agg (qad1 b ys)] [] 0 (.bool (a == b && decide (xs = ys))) [] := by
 refine qaan (N := 17) Try.func13 rfl rfl (by kernel_rfl) qakh (by simp) ⟨rfl, rfl, trivial⟩ trivial ?_
 rintro X hP hN hm
 generalize hr : (a == b && decide (xs = ys)) = r
 have fin : ∀ (r' : Bool) hp nx, r' = r → QFun X (Try.f13).results.toList 0 (.bool r) [] .ret ⟨[(4, .bool r')], hp, nx⟩ := fun r' hp nx hr => by
  rw [hr]
  exact (qac6 (s' := ⟨[(4, .bool r)], [], 0⟩) (qacm [] hm rfl (Nat.le_refl _) (by simp -implicitDefEqProofs [qaal, FrzOk, qaa9, qaa1, qaa7, qaa8, qaav, qaa0, qabc, qaa2, qaax, qaba, qaaw, frzS, frzH, frz, frz1, frz0, SlotsM, ObjsM, ObjM, rn, ren, ren1, ren0, gets, geth, qabl, qab0, qab3, qabk, qabd, qabz, qab2, CoL, qabb]) trivial) rfl trivial (by simp))
 unfold c_shit
 refine qabh (qaaf ?_)
 simp -implicitDefEqProofs [qajw, qaar, qaaq, qaac, qaai, qaad, qaah, qaao, qaap, qaab, qaa5, SOp.run, SX.ev, putd, puts, argS, upds, SOp.touch, SSt.keep, SSt.skip, gets, geth, puth, delh, idOf, SV.cells?, setL, qab5, qab6, sbin, eq0, eq1, eqL, qab4, qabe, qabf, qaas, qaat, qaaa, qaau, qaa6, qaae, qad1, nums]
 refine qabh (qaaf ?_)
 rw [hP]
 cases k1 : a == b
 ·simp -implicitDefEqProofs [qaga, qaar, qaaq, qaac, qaai, qaad, qaah, qaao, qaap, qaab, qaa5, SOp.run, SX.ev, putd, puts, argS, upds, SOp.touch, SSt.keep, SSt.skip, gets, geth, puth, delh, idOf, SV.cells?, setL, qab5, qab6, sbin, eq0, eq1, eqL, qab4, qabe, qabf, qaas, qaat, qaaa, qaau, qaa6, qaae, k1]
  exact qaay (fin _ _ _ (by rw [← hr, k1]; rfl))
 ·simp -implicitDefEqProofs [qaga, qaar, qaaq, qaac, qaai, qaad, qaah, qaao, qaap, qaab, qaa5, SOp.run, SX.ev, putd, puts, argS, upds, SOp.touch, SSt.keep, SSt.skip, gets, geth, puth, delh, idOf, SV.cells?, setL, qab5, qab6, sbin, eq0, eq1, eqL, qab4, qabe, qabf, qaas, qaat, qaaa, qaau, qaa6, qaae, k1]
  refine qacc (qanh _ _ hx _) ?_
  simp -implicitDefEqProofs [qaar, qaaq, qaac, qaai, qaad, qaah, qaao, qaap, qaab, qaa5, SOp.run, SX.ev, putd, puts, argS, upds, SOp.touch, SSt.keep, SSt.skip, gets, geth, puth, delh, idOf, SV.cells?, setL, qab5, qab6, sbin, eq0, eq1, eqL, qab4, qabe, qabf, qaas, qaat, qaaa, qaau, qaa6, qaae]
  exact qaay (fin _ _ _ (by rw [← hr, k1, Bool.true_and]))
theorem hitOf_s (e : Entry) : SCalls Try.prog 14 [.agg (qaag e)] [] 0 (.agg (qad1 e.act e.args)) [] := by
 refine qaan (N := 8) Try.func14 rfl rfl (by kernel_rfl) qaiy (by simp) ⟨rfl, trivial⟩ trivial ?_
 rintro X hP hN hm
 unfold c_hitOf
 refine qabh (qaaf ?_)
 simp -implicitDefEqProofs [qahi, qaar, qaaq, qaac, qaai, qaad, qaah, qaao, qaap, qaab, qaa5, SOp.run, SX.ev, putd, puts, argS, upds, SOp.touch, SSt.keep, SSt.skip, gets, geth, puth, delh, idOf, SV.cells?, setL, qab5, qab6, sbin, eq0, eq1, eqL, qab4, qabe, qabf, qaas, qaat, qaaa, qaau, qaa6, qaae, qaag, nums]
 refine qabh (qaaf ?_)
 simp -implicitDefEqProofs [qahh, qaar, qaaq, qaac, qaai, qaad, qaah, qaao, qaap, qaab, qaa5, SOp.run, SX.ev, putd, puts, argS, upds, SOp.touch, SSt.keep, SSt.skip, gets, geth, puth, delh, idOf, SV.cells?, setL, qab5, qab6, sbin, eq0, eq1, eqL, qab4, qabe, qabf, qaas, qaat, qaaa, qaau, qaa6, qaae]
 refine qaay (qac6 (s' := ⟨[(2, .ptr 0 0)], [(0, .cells 36 (qad1 e.act e.args))], 1⟩) (qacm [(0, 1)] hm rfl (Nat.zero_le _) (by simp -implicitDefEqProofs [qaal, FrzOk, qaa9, qaa1, qaa7, qaa8, qaav, qaa0, qabc, qaa2, qaax, qaba, qaaw, frzS, frzH, frz, frz1, frz0, SlotsM, ObjsM, ObjM, rn, ren, ren1, ren0, gets, geth, qabl, qab0, qab3, qabk, qabd, qabz, qab2, CoL, qabb]) (by simp -implicitDefEqProofs [qaal, FrzOk, qaa9, qaa1, qaa7, qaa8, qaav, qaa0, qabc, qaa2, qaax, qaba, qaaw, frzS, frzH, frz, frz1, frz0, SlotsM, ObjsM, ObjM, rn, ren, ren1, ren0, gets, geth, qabl, qab0, qab3, qabk, qabd, qabz, qab2, CoL, qabb, qad1, nums])) ?_ trivial (by simp))
 simp -implicitDefEqProofs [hP, qafw, resL, resV, show qae8 Try.prog 36 = some true from by kernel_rfl, show qabj Try.prog 36 = some 2 from by kernel_rfl, one_, qad1, nums, qaar, qaaq, qaac, qaai, qaad, qaah, qaao, qaap, qaab, qaa5, SOp.run, SX.ev, putd, puts, argS, upds, SOp.touch, SSt.keep, SSt.skip, gets, geth, puth, delh, idOf, SV.cells?, setL, qab5, qab6, sbin, eq0, eq1, eqL, qab4, qabe, qabf, qaas, qaat, qaaa, qaau, qaa6, qaae]
end Go.Proofs.Ytefkifebgeagiaa
namespace Go.Proofs.Ytefkifebgeagiaa
set_option linter.all false
open Go.RowKit
class PureF {α : Type} (f : α → List SV) : Prop where
 ren : ∀ σ x, (f x).map (Go.Proofs.Ytefkifebgeagiaa.ren σ) = f x
 ok : ∀ x, (f x).all ok2 = true
 pure : ∀ x, qaht (f x)
theorem qabp {α : Type} (f : α → List SV) [PureF f] (σ : Nat → Nat) (xs : List α) : (xs.map f).map (·.map (ren σ)) = xs.map f := by
 rw [List.map_map]; exact List.map_congr_left fun x _ => PureF.ren σ x
theorem qaff {α : Type} (f : α → List SV) [PureF f] (xs : List α) : ∀ x ∈ xs.map f, x.all ok2 = true := fun x hx => by obtain ⟨b, _, rfl⟩ := List.mem_map.1 hx; exact PureF.ok b
theorem qaee {α : Type} (f : α → List SV) [PureF f] (xs : List α) : ∀ x ∈ xs.map f, qaht x := fun x hx => by obtain ⟨b, _, rfl⟩ := List.mem_map.1 hx; exact PureF.pure b
theorem qabx (cs : List SV) (h : cs.all (fun x => match x with | .int _ _ | .bool _ | .str _ | .nil | .nilsl | .view _ _ | .cp _ => true | _ => false) = true) : qaht cs := fun x hx => by
 have := List.all_eq_true.1 h x hx
 cases x <;> first | exact qadx _ _ | exact qajb _ | exact qame _ | exact qamf | exact qagg | exact qaeg _ _ | exact qats _ | simp at this
instance pureF_int (k : IntKind) : PureF (fun n : Int => [SV.int k n]) := ⟨fun _ _ => rfl, fun _ => rfl, fun _ => qabx _ rfl⟩
instance pureF_bool : PureF (fun b : Bool => [SV.bool b]) := ⟨fun _ _ => rfl, fun _ => rfl, fun _ => qabx _ rfl⟩
class PureR (fs : List (List SV)) : Prop where
 ren : ∀ σ, fs.map (·.map (Go.Proofs.Ytefkifebgeagiaa.ren σ)) = fs
 ok : ∀ x ∈ fs, x.all ok2 = true
 pure : ∀ x ∈ fs, qaht x
instance pureR_map {α : Type} (f : α → List SV) [PureF f] (xs : List α) : PureR (xs.map f) := ⟨fun σ => qabp f σ xs, qaff f xs, qaee f xs⟩
theorem qatt (e z : Nat) (fs : List (List SV)) [PureR fs] : qavw (.row e z fs) ↔ True := ⟨fun _ => trivial, fun _ => PureR.pure⟩
def setS : Sl → Nat → SV → Sl
 | [], t, v => [(t, v)]
 | (u, x) :: l, t, v => if u = t then (t, v) :: l else (u, x) :: setS l t v
def qav0 : Sl → List (Nat × SV) → Sl
 | l, [] => l
 | l, (t, v) :: r => qav0 (setS l t v) r
def qav1 : Hp → List (Nat × SObj) → Hp
 | h, [] => h
 | h, (i, o) :: r => qav1 (puth h i o) r
def SSt.turn (s : SSt) (sl : List (Nat × SV)) (hp : List (Nat × SObj)) : SSt := ⟨qav0 s.sl sl, qav1 s.hp hp, s.nx⟩
variable {X : Cx} {s s' : SSt} {Q : SExit → SSt → Prop} {σ : Nat → Nat} {sl : Sl} {hp : Hp}
theorem qaaj : SlotsM σ sl [] := trivial
theorem qaam : ObjsM σ hp [] := trivial
theorem qaj8 {i : Nat} {t : TypeId} {cs ds : List SV} {r : Hp} (h : geth hp (σ i) = some (.cells t cs)) (h2 : CoL cs (ds.map (ren σ))) (g : ObjsM σ hp r) : ObjsM σ hp ((i, .cells t ds) :: r) := ⟨⟨_, h, rfl, h2⟩, g⟩
theorem qaqr {i e z : Nat} {es fs : List (List SV)} {r : Hp} (h : geth hp (σ i) = some (.row e z es)) (h2 : fs.map (·.map (ren σ)) = fs) (h3 : es = fs) (g : ObjsM σ hp r) : ObjsM σ hp ((i, .row e z fs) :: r) := ⟨⟨_, h, rfl, rfl, by rw [h2, h3]; exact CoLL.refl _⟩, g⟩
theorem qamp {i e z : Nat} {es fs : List (List SV)} [PureR fs] {r : Hp} (h : geth hp (σ i) = some (.row e z es)) (h3 : es = fs) (g : ObjsM σ hp r) : ObjsM σ hp ((i, .row e z fs) :: r) := qaqr h (PureR.ren σ) h3 g
theorem qajd {i : Nat} {I : AbsI} {r : Hp} (h : geth hp (σ i) = some (.abs I)) (g : ObjsM σ hp r) : ObjsM σ hp ((i, .abs I) :: r) := ⟨⟨_, h, rfl⟩, g⟩
def diag (m : Nat) (E : List (Nat × Nat)) (hp : Hp) : List (Nat × Nat) := ((List.range m ++ (idsH hp).filter fun i => decide (m ≤ i)).filter fun i => !(E.any fun p => p.1 == i)).map fun i => (i, i)
theorem qaa3 (E : List (Nat × Nat)) {m : Nat} (hm : X.m = m) (hsl : SlotsM (rn (E ++ diag m E s'.hp) s.nx) s.sl s'.sl) (hhp : ObjsM (rn (E ++ diag m E s'.hp) s.nx) s.hp s'.hp) (hok : qabn m s'.nx (E ++ diag m E s'.hp) s'.hp = true) (hle : m ≤ s'.nx) : Wk X s s' := qacm _ hm hok hle hsl hhp
theorem qacz {α : Type} {c : SCode} (F : SSt → α → SSt) (I : α → Prop) (μ : α → Nat) (a : α) (hw : Wk X s (F s a)) (h0 : I a) (h : ∀ J : SSt → Nat → Prop, RowKit.Hid (∀ a, I a → J (F s a) (μ a)) → ∀ a, I a → SWp X c (qavv X J (μ a) Q) (F s a)) : SWp X (.loop c) Q s :=
 qah1 (fun s' n => ∃ a, s' = F s a ∧ I a ∧ n = μ a) hw ⟨a, rfl, h0, rfl⟩ fun s' n ⟨a, e, hi, hn⟩ => by subst e hn; exact h _ (Lib.hid fun a hi => ⟨a, rfl, hi, rfl⟩) a hi
theorem qabo {α : Type} {F : α → SSt} {I : α → Prop} {μ : α → Nat} {n : Nat} {J : SSt → Nat → Prop} (hJ : RowKit.Hid (∀ a, I a → J (F a) (μ a))) (a : α) (hw : Wk X s' (F a)) (h0 : I a) (hn : μ a < n) : qavv X J n Q .normal s' := ⟨F a, μ a, hw, (by have h : ∀ a, I a → J (F a) (μ a) := hJ; exact h a h0), hn⟩
theorem qafp (D : List Nat) (E : List (Nat × Nat)) {m : Nat} (hm : X.m = m) (hD : (D.all fun i => decide (m ≤ i)) = true) (hf : FrzOk s.hp D)
  (hsl : SlotsM (rn (E ++ diag m E s'.hp) s.nx) (frzS (geth s.hp) D s.sl) s'.sl) (hhp : ObjsM (rn (E ++ diag m E s'.hp) s.nx) (frzH (geth s.hp) D s.hp) s'.hp) (hok : qabn m s'.nx (E ++ diag m E s'.hp) s'.hp = true) (hle : m ≤ s'.nx) : Wk X s s' :=
 wk_fz D _ hm hD hf hok hle hsl hhp
theorem qah5 {P : Program} {f : FuncId} {z q : Nat} {r : SV} {h2 : Hp} (h : SCalls P f [.nilsl] [] q r h2) (g : SCalls P f [.mt] [] q r h2) : SCalls P f [.view z []] [] q r h2 := by
 refine ⟨h.1, fun O ρ fp w vs hok hargs hfr => ?_⟩
 obtain ⟨v, us, rfl, hv, hu⟩ := Reps.cons_inv hargs
 obtain rfl := hu.nil_inv
 cases hv with
 | view0 hc ha =>
  rename_i a c
  cases a with
  | none => have := ha rfl; subst this; exact h.2 O ρ fp w _ hok (Reps.cons .nilsl Reps.nil) hfr
  | some a => exact g.2 O ρ fp w _ hok (Reps.cons (.mt hc) Reps.nil) hfr
 | view cv hn hc hm hA hb hs h1 h2 ho =>
  cases hn
  exact g.2 O ρ fp w _ hok (Reps.cons (.mt hm) Reps.nil) hfr
def NoN (x : SV) : Prop := ∀ σ, Go.Proofs.Ytefkifebgeagiaa.ren σ x = x
theorem wk_fin {t m : Nat} {v : SV} {nx : Nat} (hm : X.m = m) (hv : NoN v) (h0 : m = 0) : Wk X ⟨(t, v) :: sl, hp, nx⟩ ⟨[(t, v)], [], 0⟩ := by
 subst h0
 refine qaa3 [] hm ⟨?_, trivial⟩ trivial rfl (Nat.le_refl _)
 rw [hv]; simp only [gets, if_true]; exact Co.refl _
theorem qat3 {t nx : Nat} {v r : SV} (hm : X.m = 0) (h : v = r) (hv : NoN r) : QFun X [.tmp t] 0 r [] .ret ⟨(t, v) :: sl, hp, nx⟩ := by
 subst h
 exact ⟨_, wk_fin hm hv rfl, by simp [qafw, resL, resV, one_, gets], trivial, by simp⟩
theorem qau8 {t nx id n : Nat} {ty : TypeId} {cs ds : List SV} {r : SV} (hm : X.m = 0) (h : geth hp id = some (.cells ty cs)) (ha : qae8 X.P ty = some true) (hn : qabj X.P ty = some n) (hl : ds.length = n) (e : CoL cs ds) (hr : r = .agg ds) (hd : ∀ σ, ds.map (Go.Proofs.Ytefkifebgeagiaa.ren σ) = ds) : QFun X [.cell t ty] 0 r [] .ret ⟨(t, .ptr id 0) :: sl, hp, nx⟩ := by
 subst hr hl
 have hw : Wk X ⟨(t, .ptr id 0) :: sl, hp, nx⟩ ⟨[(t, .ptr 0 0)], [(0, .cells ty ds)], 1⟩ := by
  refine qaa3 [(0, id)] hm ⟨?_, trivial⟩ ⟨⟨_, h, rfl, by rw [hd]; exact e⟩, trivial⟩ rfl (by simp)
  simp only [gets, if_true]; exact Co.refl _
 refine ⟨_, hw, ?_, trivial, by simp⟩
 simp [qafw, resL, resV, one_, gets, ha, hn, SOp.run, SX.ev, geth]
theorem noN_int (k : IntKind) (n : Int) : NoN (.int k n) := fun _ => rfl
theorem qafz (b : Bool) : NoN (.bool b) := fun _ => rfl
theorem qaux (z : Nat) (es : List (List SV)) : NoN (.view z es) := fun _ => rfl
theorem wk_gets {sl' : Sl} {nx : Nat} (h : ∀ t, gets sl t = gets sl' t) : Wk X ⟨sl, hp, nx⟩ ⟨sl', hp, nx⟩ := fun ρ fp a w hs => ⟨ρ, fp, ⟨hs.sim.h, hs.sim.tmps, hs.sim.defers, fun t => by have := hs.sim.slots t; rw [show gets sl t = gets sl' t from h t] at this; exact this⟩, hs.fresh, hs.le⟩
theorem qaf3 : ∀ (l : Sl) (t : Nat) (v : SV) (u : Nat), gets (setS l t v) u = if u = t then v else gets l u
 | [], t, v, u => by simp only [setS, gets, eq_comm]
 | (i, x) :: l, t, v, u => by
  simp only [setS]
  by_cases h : i = t
  ·subst h
   rw [if_pos rfl]
   simp only [gets]
   by_cases h2 : i = u
   ·subst h2; simp
   ·rw [if_neg h2, if_neg (fun e => h2 e.symm), if_neg h2]
  ·rw [if_neg h]
   simp only [gets]
   by_cases h2 : i = u
   ·subst h2; rw [if_pos rfl, if_neg h, if_pos rfl]
   ·rw [if_neg h2, if_neg h2]; exact qaf3 l t v u
theorem qai5 (t e size : Nat) (h : gets s.sl t = .nilsl) : Wk X s ⟨setS s.sl t (.own s.nx 0), puth s.hp s.nx (.row e size []), s.nx + 1⟩ :=
 (qauc t e size h).trans (wk_gets fun u => by rw [qaek, qaf3])
theorem zA {a b : SCode} (h : SWp X a (QSeq X b Q) s) : SWp X (.seq a b) Q s := qabh h
theorem zK {l : List (SOper × Tch)} {p : Prop} (hp : p) (h : qamo l = true := by with_unfolding_all rfl) : qamo l = true ∧ p := ⟨h, hp⟩
theorem zM {t nx : Nat} {k : IntKind} {a b : Int} (hm : X.m = 0) (h : a = b) : QFun X [.tmp t] 0 (.int k b) [] .ret ⟨(t, .int k a) :: sl, hp, nx⟩ := qat3 hm (congrArg _ h) (noN_int _ _)
theorem zN {t nx : Nat} {a b : Bool} (hm : X.m = 0) (h : a = b) : QFun X [.tmp t] 0 (.bool b) [] .ret ⟨(t, .bool a) :: sl, hp, nx⟩ := qat3 hm (congrArg _ h) (qafz _)
theorem za {t : Nat} {v : SV} {r : Sl} (h : Co (gets sl t) (ren σ v)) (g : SlotsM σ sl r) : SlotsM σ sl ((t, v) :: r) := ⟨h, g⟩
theorem zb {i : Nat} {t : TypeId} (cs : List SV) {ds : List SV} {r : Hp} (h : geth hp (σ i) = some (.cells t cs)) (h2 : CoL cs (ds.map (ren σ))) (g : ObjsM σ hp r) : ObjsM σ hp ((i, .cells t ds) :: r) := qaj8 h h2 g
theorem zc {i e z : Nat} (es : List (List SV)) {fs : List (List SV)} [PureR fs] {r : Hp} (h : geth hp (σ i) = some (.row e z es)) (h3 : es = fs) (g : ObjsM σ hp r) : ObjsM σ hp ((i, .row e z fs) :: r) := qamp h h3 g
theorem zga {h : Hp} {i : Nat} {o : SObj} (e : geth h i = some o) : geth h i = some o := e
theorem zgb {m n : Nat} {l : List (Nat × Nat)} {h : Hp} (e : qabn m n l h = true) : qabn m n l h = true := e
theorem zgc {a b : List (List SV)} (e : a = b) : a = b := e
theorem zgd {a b : Nat} (e : a ≤ b) : a ≤ b := e
theorem zge {a b : Nat} (e : a < b) : a < b := e
theorem zT : (∀ (s : SSt) (l : List (Nat × SV)) (h : List (Nat × SObj)), s.turn l h = ⟨qav0 s.sl l, qav1 s.hp h, s.nx⟩) ∧ (∀ l, qav0 l [] = l) ∧ (∀ l t v r, qav0 l ((t, v) :: r) = qav0 (setS l t v) r) ∧ (∀ t v, setS [] t v = [(t, v)]) ∧ (∀ u x l t v, setS ((u, x) :: l) t v = if u = t then (t, v) :: l else (u, x) :: setS l t v) ∧ (∀ h, qav1 h [] = h) ∧ (∀ h i o r, qav1 h ((i, o) :: r) = qav1 (puth h i o) r) :=
 ⟨fun _ _ _ => rfl, fun l => by cases l <;> rfl, fun l t v r => by cases l <;> rfl, fun _ _ => rfl, fun _ _ _ _ _ => rfl, fun h => by cases h <;> rfl, fun h _ _ _ => by cases h <;> rfl⟩
end Go.Proofs.Ytefkifebgeagiaa
namespace Go.Proofs.Ytefkifebgeagiaa
set_option linter.all false
open Go.RowKit
attribute [local simp] qaar qaaq qaac qaai qaad qaah qaao qaap qaab qaa5 SOp.run SX.ev putd puts argS upds SOp.touch SSt.keep SSt.skip gets geth puth delh idOf SV.cells? setL qab5 qab6 sbin eq0 eq1 eqL qab4 qabe qabf qaas qaat qaaa qaau qaa6 qaae qaal FrzOk qaa9 qaa1 qaa7 qaa8 qaav qaa0 qabc qaa2 qaax qaba qaaw frzS frzH frz frz1 frz0 SlotsM ObjsM ObjM rn ren ren1 ren0 qabl qab0 qab3 qabk qabd qabz qab2 CoL qabb qabu dels adds idsH qabn
instance : PureF refc := ⟨fun _ _ => rfl, fun _ => rfl, fun _ => qabx _ rfl⟩
instance : PureF pushc := ⟨fun _ _ => rfl, fun _ => rfl, fun _ => qabx _ rfl⟩
instance : PureF headc := ⟨fun _ _ => rfl, fun _ => rfl, fun _ => qabx _ rfl⟩
instance : PureF casec := ⟨fun _ _ => rfl, fun _ => rfl, fun _ => qabx _ rfl⟩
instance : PureF qaqe := ⟨fun _ _ => rfl, fun _ => rfl, fun _ => qabx _ rfl⟩
instance : PureF opc := ⟨fun _ _ => rfl, fun _ => rfl, fun _ => qabx _ rfl⟩
instance : PureF actc := ⟨fun _ _ => rfl, fun _ => rfl, fun _ => qabx _ rfl⟩
instance : PureF tabc := ⟨fun _ _ => rfl, fun _ => rfl, fun _ => qabx _ rfl⟩
instance : PureF nodec := ⟨fun _ _ => rfl, fun _ => rfl, fun _ => qabx _ rfl⟩
attribute [local simp] headc refc pushc casec qaqe opc actc tabc nodec planc nums
def jc (p : PlanD) (a b : Int) : List SV := planc p ++ [.int .i64 a, .int .i64 b]
attribute [local simp] jc
end Go.Proofs.Ytefkifebgeagiaa
namespace Go.Proofs.Ytefkifebgeagiaa
set_option linter.all false
open Go.RowKit
attribute [local simp] qaar qaaq qaac qaai qaad qaah qaao qaap qaab qaa5 SOp.run SX.ev putd puts argS upds SOp.touch SSt.keep SSt.skip gets geth puth delh idOf SV.cells? setL qab5 qab6 sbin eq0 eq1 eqL qab4 qabe qabf qaas qaat qaaa qaau qaa6 qaae qaal FrzOk qaa9 qaa1 qaa7 qaa8 qaav qaa0 qabc qaa2 qaax qaba qaaw frzS frzH frz frz1 frz0 SlotsM ObjsM ObjM rn ren ren1 ren0 qabl qab0 qab3 qabk qabd qabz qab2 CoL qabb qabu dels adds idsH qabn
attribute [local simp] headc refc pushc casec qaqe opc actc tabc nodec planc nums
theorem qat4 {X : Cx} {sl : Sl} {hp : Hp} {t nx id n e z : Nat} {es fs : List (List SV)} [PureR es] (hm : X.m = 0) (hu : gets sl t = .own id n) (h : geth hp id = some (.row e z es)) (hn : n = es.length) (hf : es = fs) : QFun X [.tmp t] 0 (.view z fs) [] .ret ⟨sl, hp, nx⟩ := by
 subst hf hn
 have h1 : Wk X ⟨sl, hp, nx⟩ (SSt.frz ⟨sl, hp, nx⟩ [id]) := qaub [id] fun i o hi ho => by
  have : i = id := by simpa using hi
  subst this
  rw [h] at ho; cases ho
  exact (qatt e z es).2 trivial
 have h2 : gets (frzS (geth hp) [id] sl) t = .view z es := by
  rw [qaii, hu]; simp [frz, frz1, frz0, h]
 refine ⟨⟨[(t, .view z es)], [], 0⟩, h1.trans (qacm [] hm rfl (Nat.zero_le _) ⟨?_, trivial⟩ trivial), by simp [qafw, resL, resV, one_, gets], trivial, by simp⟩
 show Co (gets (frzS (geth hp) [id] sl) t) _
 rw [h2]; exact Co.refl _
instance pureR_take (fs : List (List SV)) [PureR fs] (i : Nat) : PureR (fs.take i) := ⟨fun σ => by rw [List.map_take, PureR.ren], fun x hx => PureR.ok x (List.mem_of_mem_take hx), fun x hx => PureR.pure x (List.mem_of_mem_take hx)⟩
end Go.Proofs.Ytefkifebgeagiaa
namespace Go.Proofs.Ytefkifebgeagiaa
set_option linter.all false
open Go.RowKit
attribute [local simp] qaar qaaq qaac qaai qaad qaah qaao qaap qaab qaa5 SOp.run SX.ev putd puts argS upds SOp.touch SSt.keep SSt.skip gets geth puth delh idOf SV.cells? setL qab5 qab6 sbin eq0 eq1 eqL qab4 qabe qabf qaas qaat qaaa qaau qaa6 qaae qaal FrzOk qaa9 qaa1 qaa7 qaa8 qaav qaa0 qabc qaa2 qaax qaba qaaw frzS frzH frz frz1 frz0 SlotsM ObjsM ObjM rn ren ren1 ren0 qabl qab0 qab3 qabk qabd qabz qab2 CoL qabb qabu dels adds idsH qabn
instance pureR_nil : PureR [] := ⟨fun _ => rfl, fun x hx => (by cases hx), fun x hx => (by cases hx)⟩
theorem fin_co {X : Cx} {sl : Sl} {hp : Hp} {t nx : Nat} {v r : SV} (hm : X.m = 0) (h : gets sl t = v) (hc : Co v r) (hv : NoN r) : QFun X [.tmp t] 0 r [] .ret ⟨sl, hp, nx⟩ := by
 refine ⟨⟨[(t, r)], [], 0⟩, qacm [] hm rfl (Nat.zero_le _) ⟨?_, trivial⟩ trivial, by simp [qafw, resL, resV, one_, gets], trivial, by simp⟩
 show Co (gets sl t) (ren _ r)
 rw [h, hv]; exact hc
end Go.Proofs.Ytefkifebgeagiaa
namespace Go.Proofs.Ytefkifebgeagiaa
set_option linter.all false
open Go.RowKit
variable {w : World} {ρ : qabr} {fp : Nat → Nat → Prop} {O : Nat → Prop} {h1 : Hp}
theorem qadj (k : Nat) : ¬ Live [] fp k := fun ⟨_, _, h, _⟩ => by cases h
def Lent (h1 : Hp) (x y : SV) : Prop := ∀ (O : Nat → Prop) (ρ : qabr) (fp : Nat → Nat → Prop) (w : World) (v : Value), HeapOk O ρ fp h1 w → RepV w (fun k => O k ∨ Live h1 fp k) ρ x v → RepV w (fun k => O k ∨ Live [] fp k) ρ y v
def qaua (h1 : Hp) : List SV → List SV → Prop
 | [], [] => True
 | x :: xs, y :: ys => Lent h1 x y ∧ qaua h1 xs ys
 | _, _ => False
theorem qat0 {k : Nat} : (O k ∨ Live [] fp k) → O k ∨ Live h1 fp k := fun hk => hk.elim .inl fun h => absurd h (qadj k)
theorem qac8 (x : SV) : Lent h1 x x := fun _ _ _ _ _ _ hx => hx.weaken fun _ hk _ => qat0 hk
theorem qaew : ∀ xs, qaua h1 xs xs
 | [] => trivial
 | x :: xs => ⟨qac8 x, qaew xs⟩
theorem qadk : ∀ {xs ys}, qaua h1 xs ys → xs.length = ys.length
 | [], [], _ => rfl
 | _ :: _, _ :: _, h => by simp [qadk h.2]
 | [], _ :: _, h => h.elim
 | _ :: _, [], h => h.elim
theorem qaeh : ∀ {xs ys : List SV} {j : Nat} {y : SV}, qaua h1 xs ys → ys[j]? = some y → ∃ x, xs[j]? = some x ∧ Lent h1 x y
 | x :: xs, y :: ys, 0, _, h, hy => by cases hy; exact ⟨x, rfl, h.1⟩
 | x :: xs, y :: ys, j + 1, _, h, hy => qaeh (xs := xs) (ys := ys) (j := j) h.2 (by simpa using hy)
 | [], [], _, _, _, hy => by simp at hy
 | [], _ :: _, _, _, h, _ => h.elim
 | _ :: _, [], _, _, h, _ => h.elim
theorem qaid {id z e : Nat} {es : List (List SV)} (ho : geth h1 id = some (.row e z es)) (hp : ∀ e ∈ es, qaht e) {n : Nat} (hn : n = es.length) : Lent h1 (.own id n) (.view z es) := fun O ρ fp w v hok hx => by
 subst hn
 obtain ⟨v0, us, how, ⟨hrep, huo⟩, hzs, hρ', hfp⟩ := hok.objs id _ ho
 generalize hn : es.length = n at hx
 cases hx with
 | own0 hρ => rw [List.eq_nil_of_length_eq_zero hn]; exact .view0 (by simp [maxLen]) (fun _ => rfl)
 | own hρ hnc hm =>
  rename_i b c
  rw [hρ] at hρ'
  have hp0 : qacu v0 = some (b, c) := (Option.some.inj hρ').symm
  obtain ⟨hv0, hcell, hlt, _, _⟩ := qac4 how hp0
  have hown : fp id b := (hfp b).2 (by rw [hv0]; rfl)
  have hval : ∀ i e j x, es[i]? = some e → e[j]? = some x → ∃ u, us[i * z + j]? = some u ∧ RepV w (fun k => O k ∨ Live h1 fp k) ρ x u := fun i e j x he hx => hrep.get (qad3 hzs he hx)
  refine .view (fun i j => us.getD (i * z + j) undef) hn hnc hm (fun hO => hO.elim (hok.lt b ⟨id, _, ho, hown⟩).2 (qadj b)) hlt hzs (fun i e j x he hx => ?_) (fun i e j x he hx => ?_) (fun i e j x he hx => ?_)
  ·obtain ⟨u, h1, h2⟩ := hval i e j x he hx
   rw [Nat.zero_add, List.getD_eq_getElem?_getD, h1]
   exact hcell _ _ h1
  ·obtain ⟨u, h1, h2⟩ := hval i e j x he hx
   rw [List.getD_eq_getElem?_getD, h1]
   exact (hp e (List.mem_of_getElem? he) x (List.mem_of_getElem? hx) _ _ _ _ h2).weaken fun k hk _ => qat0 hk
  ·obtain ⟨u, h1, h2⟩ := hval i e j x he hx
   rw [List.getD_eq_getElem?_getD, h1]
   exact huo u (List.mem_of_getElem? h1)
theorem qaie {id off t : Nat} {cs ds : List SV} (ho : geth h1 id = some (.cells t cs)) (hl : qaua h1 (cs.drop off) ds) (hp : qaht ds) : Lent h1 (.ptr id off) (.cp ds) := fun O ρ fp w v hok hx => by
 obtain ⟨b, c, us, hρ', hbl, ⟨hrep, huo⟩, hfp⟩ := hok.objs id _ ho
 cases hx with
 | ptr hρ =>
  rw [hρ] at hρ'; cases hρ'
  have hval : ∀ (j : Nat) y, ds[j]? = some y → ∃ u, us[off + j]? = some u ∧ RepV w (fun k => O k ∨ Live [] fp k) noPl y u := fun j y hy => by
   obtain ⟨x, hx, hxy⟩ := qaeh hl hy
   rw [List.getElem?_drop] at hx
   obtain ⟨u, h1, h2⟩ := hrep.get hx
   exact ⟨u, h1, hp y (List.mem_of_getElem? hy) _ _ _ _ (hxy O ρ fp w u hok h2)⟩
  refine .cp (fun j => us.getD (off + j) undef) (fun hO => hO.elim (hok.lt b ⟨id, _, ho, (hfp b).2 rfl⟩).2 (qadj b)) hbl.lt (fun j x hx => ?_) (fun j x hx => ?_) (fun j x hx => ?_)
  ·obtain ⟨u, h1, h2⟩ := hval j x hx
   rw [hbl.cell, List.getD_eq_getElem?_getD, h1]
   simpa using h1
  ·obtain ⟨u, h1, h2⟩ := hval j x hx
   rw [List.getD_eq_getElem?_getD, h1]
   exact h2
  ·obtain ⟨u, h1, h2⟩ := hval j x hx
   rw [List.getD_eq_getElem?_getD, h1]
   exact huo u (List.mem_of_getElem? h1)
def qap7 (x : SV) : Prop := ∀ w A A' ρ v, RepV w A ρ x v → RepV w A' ρ x v
theorem qag0 (b : Bool) : qap7 (.bool b) := fun w A A' ρ v h => by cases h; exact .bool
theorem qaf8 (k : IntKind) (n : Int) : qap7 (.int k n) := fun w A A' ρ v h => by cases h; exact .int
def qavy (cs : List SV) : Prop := ∀ x ∈ cs, qap7 x
theorem qagz {A A' : Nat → Prop} {cs : List SV} {vs : List Value} (hc : qavy cs) (h : Reps w A ρ cs vs) : Reps w A' ρ cs vs :=
 ⟨h.1, fun j x v hx hv => hc x (List.mem_of_getElem? hx) _ _ _ _ _ (h.2 j x v hx hv)⟩
def CleanO : SObj → Prop
 | .cells _ cs => qavy cs
 | .row _ _ es => ∀ e ∈ es, qavy e
 | .abs _ => False
theorem qaq6 {A A' : Nat → Prop} {id : Nat} {F : Nat → Prop} {o : SObj} (hc : CleanO o) (h : ObjRep w A ρ id F o) : ObjRep w A' ρ id F o := by
 cases o with
 | cells t cs =>
  obtain ⟨b, c, vs, q1, q2, ⟨q3, q4⟩, q5⟩ := h
  exact ⟨b, c, vs, q1, q2, ⟨qagz hc q3, q4⟩, q5⟩
 | row e z es =>
  obtain ⟨v, vs, q1, ⟨q2, q3⟩, q4, q5, q6⟩ := h
  exact ⟨v, vs, q1, ⟨qagz (fun x hx => by obtain ⟨e, he, hx⟩ := List.mem_flatten.1 hx; exact hc e he x hx) q2, q3⟩, q4, q5, q6⟩
 | abs I => exact hc.elim
theorem qaka (h1 h2 : Hp) (id : Nat) : geth (h1 ++ h2) id = match geth h1 id with | some o => some o | none => geth h2 id := by
 induction h1 with
 | nil => rfl
 | cons p h1 ih =>
  obtain ⟨i, o⟩ := p
  rw [List.cons_append]
  simp only [geth]
  split
  ·rfl
  ·exact ih
theorem qaj2 {P : Program} {f : FuncId} {args args' : List SV} {h1 h2 : Hp} {q n : Nat} {r : SV} (h : SCalls P f args' [] q r h2 n) (ha : qaua h1 args args') (hr : qap7 r) (hc : ∀ id o, geth h2 id = some o → CleanO o)
  (hd : ∀ id, geth h1 id ≠ none → geth h2 id = none) : SCalls P f args h1 q r (h1 ++ h2) n := by
 refine ⟨h.ent, fun O ρ fp w vs hok hargs hfr => ?_⟩
 have hargs' : Reps w (fun k => O k ∨ Live [] fp k) ρ args' vs := by
  refine ⟨by rw [← qadk ha]; exact hargs.1, fun j y v hy hv => ?_⟩
  obtain ⟨x, h1, h2⟩ := qaeh ha hy
  exact h2 O ρ fp w v hok (hargs.2 j x v h1 hv)
 refine (h.does O ρ fp w vs ⟨fun id o ho => (by cases ho), fun id id' o o' _ ho => (by cases ho), fun k hk => absurd hk (qadj k), hok.O_lt⟩ hargs' hfr).mono ?_
 rintro e w' ⟨v, ρ', fp', rfl, hk, hv, hst, hρ, hnew, hfp⟩
 have hst' : ∀ S : Nat → Prop, Step S w w' := fun S => hst.mono fun k hk => absurd hk (qadj k)
 have hbig : ∀ id o, geth h2 id = some o → ∀ k, fp' id k → w.heap.size ≤ k := fun id o ho k hk => (hfp id o ho k hk).elim (fun h => absurd h (qadj k)) fun h => h
 have hg : ∀ id o, geth (h1 ++ h2) id = some o → geth h1 id = some o ∧ geth h2 id = none ∨ geth h1 id = none ∧ geth h2 id = some o := fun id o ho => by
  rw [qaka] at ho
  cases e : geth h1 id with
  | some o' => rw [e] at ho; cases ho; exact .inl ⟨rfl, hd id (by rw [e]; simp)⟩
  | none => rw [e] at ho; exact .inr ⟨rfl, ho⟩
 let F : Nat → Nat → Prop := fun id k => (geth h2 id ≠ none ∧ fp' id k) ∨ (geth h2 id = none ∧ fp id k)
 have F1 : ∀ id, geth h2 id = none → F id = fp id := fun id hn => by funext k; simp [F, hn]
 have F2 : ∀ id o, geth h2 id = some o → F id = fp' id := fun id o hn => by funext k; simp [F, hn]
 have hav : ∀ k, (O k ∨ Live (h1 ++ h2) F k) → k < w.heap.size → O k ∨ Live h1 fp k := by
  rintro k (hO | ⟨id, o, ho, hk'⟩) hlt
  ·exact .inl hO
  ·rcases hg id o ho with ⟨q1, q2⟩ | ⟨q1, q2⟩
   ·rw [F1 id q2] at hk'; exact .inr ⟨id, o, q1, hk'⟩
   ·rw [F2 id o q2] at hk'; exact absurd (hbig id o q2 k hk') (by omega)
 refine ⟨v, ρ', F, rfl, ⟨fun id o ho => ?_, fun id id' o o' hne ho ho' k hk' hk2 => ?_, ?_, hk.O_lt⟩, hr _ _ _ _ _ hv, hst' _, hρ, hnew, fun id o ho k hk' => ?_⟩
 ·rcases hg id o ho with ⟨q1, q2⟩ | ⟨q1, q2⟩
  ·rw [F1 id q2]
   exact (hok.objs id o q1).mono ⟨hst' _, hav, hρ⟩ fun k hk' => hst.block k (hok.lt k ⟨id, o, q1, hk'⟩).1 (qadj k)
  ·rw [F2 id o q2]
   exact qaq6 (hc id o q2) (hk.objs id o q2)
 ·rcases hg id o ho with ⟨q1, q2⟩ | ⟨q1, q2⟩ <;> rcases hg id' o' ho' with ⟨q3, q4⟩ | ⟨q3, q4⟩
  ·rw [F1 id q2] at hk'; rw [F1 id' q4] at hk2; exact hok.disj id id' o o' hne q1 q3 k hk' hk2
  ·rw [F1 id q2] at hk'; rw [F2 id' o' q4] at hk2
   have := (hok.lt k ⟨id, o, q1, hk'⟩).1; have := hbig id' o' q4 k hk2; omega
  ·rw [F2 id o q2] at hk'; rw [F1 id' q4] at hk2
   have := (hok.lt k ⟨id', o', q3, hk2⟩).1; have := hbig id o q2 k hk'; omega
  ·rw [F2 id o q2] at hk'; rw [F2 id' o' q4] at hk2; exact hk.disj id id' o o' hne q2 q4 k hk' hk2
 ·rintro k ⟨id, o, ho, hk'⟩
  rcases hg id o ho with ⟨q1, q2⟩ | ⟨q1, q2⟩
  ·rw [F1 id q2] at hk'
   have := hok.lt k ⟨id, o, q1, hk'⟩
   exact ⟨Nat.lt_of_lt_of_le this.1 hst.size, this.2⟩
  ·rw [F2 id o q2] at hk'
   exact hk.lt k ⟨id, o, q2, hk'⟩
 ·rcases hg id o ho with ⟨q1, q2⟩ | ⟨q1, q2⟩
  ·rw [F1 id q2] at hk'; exact .inl ⟨id, o, q1, hk'⟩
  ·rw [F2 id o q2] at hk'; exact .inr (hbig id o q2 k hk')
theorem qacs {P : Program} {f : FuncId} {args args' : List SV} {h1 : Hp} {q : Nat} {r : SV} (h : SCalls P f args' [] q r []) (ha : qaua h1 args args') (hr : qap7 r) : SCalls P f args h1 q r h1 := by
 have := qaj2 h ha hr (fun id o ho => by cases ho) fun _ _ => rfl
 rwa [List.append_nil] at this
end Go.Proofs.Ytefkifebgeagiaa
namespace Go.Proofs.Ytefkifebgeagiaa
set_option linter.all false
open Go.RowKit
attribute [local simp] qaar qaaq qaac qaai qaad qaah qaao qaap qaab qaa5 SOp.run SX.ev putd puts argS upds SOp.touch SSt.keep SSt.skip gets geth puth delh idOf SV.cells? setL qab5 qab6 sbin eq0 eq1 eqL qab4 qabe qabf qaas qaat qaaa qaau qaa6 qaae qaal FrzOk qaa9 qaa1 qaa7 qaa8 qaav qaa0 qabc qaa2 qaax qaba qaaw frzS frzH frz frz1 frz0 SlotsM ObjsM ObjM rn ren ren1 ren0 qabl qab0 qab3 qabk qabd qabz qab2 CoL qabb qabu dels adds idsH qabn
def cmpI (a b : Int) : Int := if a < b then -1 else if b < a then 1 else 0
def cmpL : List Int → List Int → Int
 | [], [] => 0
 | [], _ => -1
 | _, [] => 1
 | a :: xs, b :: ys => if cmpI a b ≠ 0 then cmpI a b else cmpL xs ys
def orL : List Int → Int
 | [] => 0
 | a :: xs => if a ≠ 0 then a else orL xs
def ordE (a b : Entry) : Int := orL [cmpI a.prio b.prio, cmpL a.keys b.keys, cmpL a.masks b.masks]
theorem nani_s (n : Int) (q : Nat) : SCalls Try.prog 82 [.int .i64 n] [] q (.bool false) [] := by
 refine qabi ?_ (fun _ => rfl) (fun _ => rfl) rfl q
 refine qaan (N := 6) Try.func82 rfl rfl (by kernel_rfl) qakj (by simp) (by repeat' (first | exact trivial | refine And.intro ?_ ?_ | rfl | decide | exact PureR.ren _)) (by repeat' (first | exact trivial | refine And.intro ?_ ?_ | rfl | decide | exact PureR.ren _)) ?_
 rintro X hP hN hm
 unfold c_nani
 repeat' (first | (with_reducible refine zA ?_) | ((with_reducible refine qaaf ?_); (try rw [hP]); simp -implicitDefEqProofs [*]) | ((with_reducible refine qaay ?_); (try simp only [qaas, qaaa, qaae])) | (with_reducible refine zN hm ?_) | fail)
 all_goals simp
theorem nanu_s (n : Int) (q : Nat) : SCalls Try.prog 85 [.int .u64 n] [] q (.bool false) [] := by
 refine qabi ?_ (fun _ => rfl) (fun _ => rfl) rfl q
 refine qaan (N := 6) Try.func85 rfl rfl (by kernel_rfl) qaki (by simp) (by repeat' (first | exact trivial | refine And.intro ?_ ?_ | rfl | decide | exact PureR.ren _)) (by repeat' (first | exact trivial | refine And.intro ?_ ?_ | rfl | decide | exact PureR.ren _)) ?_
 rintro X hP hN hm
 unfold c_nanu
 repeat' (first | (with_reducible refine zA ?_) | ((with_reducible refine qaaf ?_); (try rw [hP]); simp -implicitDefEqProofs [*]) | ((with_reducible refine qaay ?_); (try simp only [qaas, qaaa, qaae])) | (with_reducible refine zN hm ?_) | fail)
 all_goals simp
theorem cmpi_s (a b : Int) (q : Nat) : SCalls Try.prog 78 [.int .i64 a, .int .i64 b] [] q (.int .i64 (cmpI a b)) [] := by
 refine qabi ?_ (fun _ => rfl) (fun _ => rfl) rfl q
 refine qaan (N := 20) Try.func78 rfl rfl (by kernel_rfl) qako (by simp) (by repeat' (first | exact trivial | refine And.intro ?_ ?_ | rfl | decide | exact PureR.ren _)) (by repeat' (first | exact trivial | refine And.intro ?_ ?_ | rfl | decide | exact PureR.ren _)) ?_
 rintro X hP hN hm
 obtain ⟨F, hF⟩ : ∃ F, F = cmpI a b := ⟨_, rfl⟩
 rw [← hF]
 replace hF := Lib.hid hF
 unfold c_cmpi
 repeat' (first | (with_reducible refine zA ?_) | ((with_reducible refine qaaf ?_); (try rw [hP]); simp -implicitDefEqProofs [*]) | ((with_reducible refine qaaz ?_); (try simp -implicitDefEqProofs [*])) | ((with_reducible refine qaay ?_); (try simp only [qaas, qaaa, qaae])) | ((with_reducible refine qaak rfl (fun h => ?_) (fun h => ?_)) <;> have h' := h <;> (try simp at h') <;> (try subst h')) | (refine qacc (nani_s _ _) ?_; simp -implicitDefEqProofs [*]) | (with_reducible refine zM hm ?_) | fail)
 all_goals (rw [hF.out]; unfold cmpI; first | (rw [if_pos (by omega)]) | (rw [if_neg (by omega), if_pos (by omega)]) | (rw [if_neg (by omega), if_neg (by omega)]))
theorem cmpu_s (a b : Int) (q : Nat) : SCalls Try.prog 83 [.int .u64 a, .int .u64 b] [] q (.int .i64 (cmpI a b)) [] := by
 refine qabi ?_ (fun _ => rfl) (fun _ => rfl) rfl q
 refine qaan (N := 20) Try.func83 rfl rfl (by kernel_rfl) qakn (by simp) (by repeat' (first | exact trivial | refine And.intro ?_ ?_ | rfl | decide | exact PureR.ren _)) (by repeat' (first | exact trivial | refine And.intro ?_ ?_ | rfl | decide | exact PureR.ren _)) ?_
 rintro X hP hN hm
 obtain ⟨F, hF⟩ : ∃ F, F = cmpI a b := ⟨_, rfl⟩
 rw [← hF]
 replace hF := Lib.hid hF
 unfold c_cmpu
 repeat' (first | (with_reducible refine zA ?_) | ((with_reducible refine qaaf ?_); (try rw [hP]); simp -implicitDefEqProofs [*]) | ((with_reducible refine qaaz ?_); (try simp -implicitDefEqProofs [*])) | ((with_reducible refine qaay ?_); (try simp only [qaas, qaaa, qaae])) | ((with_reducible refine qaak rfl (fun h => ?_) (fun h => ?_)) <;> have h' := h <;> (try simp at h') <;> (try subst h')) | (refine qacc (nanu_s _ _) ?_; simp -implicitDefEqProofs [*]) | (with_reducible refine zM hm ?_) | fail)
 all_goals (rw [hF.out]; unfold cmpI; first | (rw [if_pos (by omega)]) | (rw [if_neg (by omega), if_pos (by omega)]) | (rw [if_neg (by omega), if_neg (by omega)]))
theorem qaq5 (xa xb : List Int) (i : Nat) (h : i < xa.length) (g : i < xb.length) : cmpL (xa.drop i) (xb.drop i) = if cmpI xa[i] xb[i] ≠ 0 then cmpI xa[i] xb[i] else cmpL (xa.drop (i + 1)) (xb.drop (i + 1)) := by
 rw [List.drop_eq_getElem_cons h, List.drop_eq_getElem_cons g]; rfl
theorem qato (xa xb : List Int) (ha : xa.length ≤ 1000000) (hb : xb.length ≤ 1000000) (q : Nat) : SCalls Try.prog 79 [nums .u64 xa, nums .u64 xb] [] q (.int .i64 (cmpL xa xb)) [] := by
 refine qabi ?_ (fun _ => rfl) (fun _ => rfl) rfl q
 refine qaan (N := 36) Try.func79 rfl rfl (by kernel_rfl) qaiu (by simp) (by repeat' (first | exact trivial | refine And.intro ?_ ?_ | rfl | decide | exact PureR.ren _)) (by repeat' (first | exact trivial | refine And.intro ?_ ?_ | rfl | decide | exact PureR.ren _)) ?_
 rintro X hP hN hm
 obtain ⟨F, hF⟩ : ∃ F, F = cmpL xa xb := ⟨_, rfl⟩
 rw [← hF]
 replace hF := Lib.hid hF
 unfold c_slcmp nums
 repeat' (first | (with_reducible refine zA ?_) | ((with_reducible refine qaaf ?_); (try rw [hP]); simp -implicitDefEqProofs [*]) | fail)
 refine qabm (qacz (fun s (i : Nat) => s.turn [(11, .int .i64 i)] []) (fun i => i ≤ xa.length ∧ i ≤ xb.length ∧ F = cmpL (xa.drop i) (xb.drop i)) (fun i => xa.length - i) 0 ?_ ⟨by simp, by simp, hF.out⟩ ?_)
 ·repeat' (first | ((with_reducible refine qaa3 [] hm ?_ ?_ ?_ ?_) <;> (try simp only [zT, puth, Nat.reduceEqDiff, reduceIte, Nat.reduceAdd])) | (with_reducible refine za ?_ ?_) | (with_reducible first | exact qaaj | exact qaam) | ((with_reducible refine zgb ?_); rfl) | ((with_reducible refine zgd ?_); (first | omega | (simp; done))) | (exact Co.refl _) | fail)
 rintro J hJ i ⟨h1, h2, h3⟩
 unfold qahf
 simp only [zT, puth, Nat.reduceEqDiff, reduceIte, Nat.reduceAdd] at h1 h2 h3 ⊢
 replace h3 := Lib.hid h3
 rcases Nat.lt_or_ge i xa.length with hi | hi
 ·rcases Nat.lt_or_ge i xb.length with hj | hj
  ·have h4 := h3.out
   rw [qaq5 xa xb i hi hj] at h4
   generalize hx : cmpI xa[i] xb[i] = x at h4
   have hc : ∀ q, SCalls Try.prog 83 [.int .u64 xa[i], .int .u64 xb[i]] [] q (.int .i64 x) [] := fun q => by rw [← hx]; exact cmpu_s _ _ q
   have wi : IntKind.i64.wrap ((i : Int) + 1) = (i : Int) + 1 := qacj (by omega) (by omega)
   replace h4 := Lib.hid h4
   repeat' (first | (with_reducible first | refine zA ?_ | refine qaa4 ?_) | ((with_reducible refine qaaf ?_); (try rw [hP]); simp -implicitDefEqProofs [wi, List.getElem?_eq_getElem hi, List.getElem?_eq_getElem hj, *]) | ((with_reducible refine qaaz ?_); (try simp -implicitDefEqProofs [wi, List.getElem?_eq_getElem hi, List.getElem?_eq_getElem hj, *])) | ((with_reducible refine qaay ?_); (try simp only [qaas, qaaa, qaae])) | ((with_reducible refine qaak rfl (fun h => ?_) (fun h => ?_)) <;> have h' := h <;> (try simp at h') <;> (try subst h')) | (refine qacc (hc _) ?_; simp -implicitDefEqProofs [wi, List.getElem?_eq_getElem hi, List.getElem?_eq_getElem hj, *]) | (with_reducible refine zM hm ?_) | (with_reducible refine za ?_ ?_) | (with_reducible first | exact qaaj | exact qaam) | ((with_reducible refine zgb ?_); rfl) | ((with_reducible first | refine zgd ?_ | refine zge ?_); (first | omega | (simp; done))) | (exact Co.refl _) | ((refine qabo hJ (i + 1) ?_ ?_ ?_; (with_reducible refine qaa3 [] hm ?_ ?_ ?_ ?_) <;> (try simp only [zT, puth, Nat.reduceEqDiff, reduceIte, Nat.reduceAdd]))) | fail)
   all_goals first | (exfalso; omega) | (rw [h4.out, if_pos ‹_›]; done) | (refine ⟨by omega, by omega, ?_⟩; rw [h4.out, if_neg (by omega)]) | omega | trace_state
  ·repeat' (first | (with_reducible first | refine zA ?_ | refine qaa4 ?_) | ((with_reducible refine qaaf ?_); (try rw [hP]); simp -implicitDefEqProofs [List.getElem?_eq_getElem hi, *]) | ((with_reducible refine qaaz ?_); (try simp -implicitDefEqProofs [List.getElem?_eq_getElem hi, *])) | ((with_reducible refine qaay ?_); (try simp only [qaas, qaaa, qaae])) | ((with_reducible refine qaak rfl (fun h => ?_) (fun h => ?_)) <;> have h' := h <;> (try simp at h') <;> (try subst h')) | (with_reducible refine zM hm ?_) | fail)
   all_goals first | (exfalso; omega) | (rw [h3.out, List.drop_eq_nil_of_le hj, List.drop_eq_getElem_cons hi]; rfl) | trace_state
 ·have hn : ¬ (i < xa.length) := by omega
  repeat' (first | (with_reducible refine zA ?_) | ((with_reducible refine qaaf ?_); (try rw [hP]); simp -implicitDefEqProofs [*]) | ((with_reducible first | refine qaaz ?_ | refine qabt ?_); (try simp -implicitDefEqProofs [*])) | ((with_reducible refine qaay ?_); (try simp only [qaas, qaaa, qaae])) | ((with_reducible refine qaak rfl (fun h => ?_) (fun h => ?_)) <;> have h' := h <;> (try simp at h') <;> (try subst h')) | (with_reducible refine zM hm ?_) | fail)
  all_goals first | (exfalso; omega) | (rw [h3.out, List.drop_eq_nil_of_le hi, List.drop_eq_getElem_cons (by omega)]; rfl) | (rw [h3.out, List.drop_eq_nil_of_le hi, List.drop_eq_nil_of_le (by omega)]; rfl) | trace_state
theorem cmpor_s (xa : List Int) (ha : xa.length ≤ 1000000) (q : Nat) : SCalls Try.prog 77 [nums .i64 xa] [] q (.int .i64 (orL xa)) [] := by
 refine qabi ?_ (fun _ => rfl) (fun _ => rfl) rfl q
 refine qaan (N := 18) Try.func77 rfl rfl (by kernel_rfl) qai1 (by simp) (by repeat' (first | exact trivial | refine And.intro ?_ ?_ | rfl | decide | exact PureR.ren _)) (by repeat' (first | exact trivial | refine And.intro ?_ ?_ | rfl | decide | exact PureR.ren _)) ?_
 rintro X hP hN hm
 obtain ⟨F, hF⟩ : ∃ F, F = orL xa := ⟨_, rfl⟩
 rw [← hF]
 replace hF := Lib.hid hF
 unfold c_cmpor nums
 repeat' (first | (with_reducible refine zA ?_) | ((with_reducible refine qaaf ?_); (try rw [hP]); simp -implicitDefEqProofs [*]) | fail)
 refine qabm (qacz (fun s (i : Nat) => s.turn [(8, .int .i64 i)] []) (fun i => i ≤ xa.length ∧ F = orL (xa.drop i)) (fun i => xa.length - i) 0 ?_ ⟨by simp, hF.out⟩ ?_)
 ·repeat' (first | ((with_reducible refine qaa3 [] hm ?_ ?_ ?_ ?_) <;> (try simp only [zT, puth, Nat.reduceEqDiff, reduceIte, Nat.reduceAdd])) | (with_reducible refine za ?_ ?_) | (with_reducible first | exact qaaj | exact qaam) | ((with_reducible refine zgb ?_); rfl) | ((with_reducible refine zgd ?_); (first | omega | (simp; done))) | (exact Co.refl _) | fail)
 rintro J hJ i ⟨h1, h3⟩
 unfold qahq
 simp only [zT, puth, Nat.reduceEqDiff, reduceIte, Nat.reduceAdd] at h1 h3 ⊢
 replace h3 := Lib.hid h3
 rcases Nat.lt_or_ge i xa.length with hi | hi
 ·have h4 : F = if xa[i] ≠ 0 then xa[i] else orL (xa.drop (i + 1)) := by rw [h3.out, List.drop_eq_getElem_cons hi]; rfl
  have wi : IntKind.i64.wrap ((i : Int) + 1) = (i : Int) + 1 := qacj (by omega) (by omega)
  replace h4 := Lib.hid h4
  repeat' (first | (with_reducible first | refine zA ?_ | refine qaa4 ?_) | ((with_reducible refine qaaf ?_); (try rw [hP]); simp -implicitDefEqProofs [wi, List.getElem?_eq_getElem hi, *]) | ((with_reducible refine qaaz ?_); (try simp -implicitDefEqProofs [wi, List.getElem?_eq_getElem hi, *])) | ((with_reducible refine qaay ?_); (try simp only [qaas, qaaa, qaae])) | ((with_reducible refine qaak rfl (fun h => ?_) (fun h => ?_)) <;> have h' := h <;> (try simp at h') <;> (try subst h')) | (with_reducible refine zM hm ?_) | (with_reducible refine za ?_ ?_) | (with_reducible first | exact qaaj | exact qaam) | ((with_reducible refine zgb ?_); rfl) | ((with_reducible first | refine zgd ?_ | refine zge ?_); (first | omega | (simp; done))) | (exact Co.refl _) | ((refine qabo hJ (i + 1) ?_ ?_ ?_; (with_reducible refine qaa3 [] hm ?_ ?_ ?_ ?_) <;> (try simp only [zT, puth, Nat.reduceEqDiff, reduceIte, Nat.reduceAdd]))) | fail)
  all_goals first | (exfalso; omega) | (rw [h4.out, if_pos ‹_›]; done) | (refine ⟨by omega, ?_⟩; rw [h4.out, if_neg (by omega)]) | omega | trace_state
 ·repeat' (first | (with_reducible first | refine zA ?_ | refine qaa4 ?_) | ((with_reducible refine qaaf ?_); (try rw [hP]); simp -implicitDefEqProofs [*]) | ((with_reducible first | refine qaaz ?_ | refine qabt ?_); (try simp -implicitDefEqProofs [*])) | ((with_reducible refine qaay ?_); (try simp only [qaas, qaaa, qaae])) | ((with_reducible refine qaak rfl (fun h => ?_) (fun h => ?_)) <;> have h' := h <;> (try simp at h') <;> (try subst h')) | (with_reducible refine zM hm ?_) | fail)
  all_goals first | (exfalso; omega) | (rw [h3.out, List.drop_eq_nil_of_le hi]; rfl) | trace_state
theorem qaq3 (a b c : Int) (id q : Nat) : SCalls Try.prog 77 [.own id 3] [(id, .row 3 1 [[.int .i64 a], [.int .i64 b], [.int .i64 c]])] q (.int .i64 (orL [a, b, c])) [(id, .row 3 1 [[.int .i64 a], [.int .i64 b], [.int .i64 c]])] := by
 have hl : Lent [(id, .row 3 1 [[.int .i64 a], [.int .i64 b], [.int .i64 c]])] (.own id 3) (.view 1 [[.int .i64 a], [.int .i64 b], [.int .i64 c]]) :=
  qaid (e := 3) (by simp [geth]) (fun e he x hx => by
   simp only [List.mem_cons, List.not_mem_nil, or_false] at he
   rcases he with rfl | rfl | rfl <;> (simp only [List.mem_cons, List.not_mem_nil, or_false] at hx; subst hx; exact qadx _ _)) rfl
 exact qacs (cmpor_s [a, b, c] (by simp) q) ⟨hl, trivial⟩ (qaf8 _ _)
theorem qatu (a b : Entry) (ha : qacb a) (hb : qacb b) (q : Nat) : SCalls Try.prog 68 [.agg (qaag a), .agg (qaag b)] [] q (.int .i64 (ordE a b)) [] := by
 refine qabi ?_ (fun _ => rfl) (fun _ => rfl) rfl q
 refine qaan (N := 22) Try.func68 rfl rfl (by kernel_rfl) qagu (by simp) (by repeat' (first | exact trivial | refine And.intro ?_ ?_ | rfl | decide | exact PureR.ren _)) (by repeat' (first | exact trivial | refine And.intro ?_ ?_ | rfl | decide | exact PureR.ren _)) ?_
 rintro X hP hN hm
 have k1 := fun q => qato a.keys b.keys ha.1 hb.1 q
 have k2 := fun q => qato a.masks b.masks ha.2.1 hb.2.1 q
 unfold c_torder qaag
 repeat' (first | (with_reducible first | refine zA ?_ | refine zK ?_) | ((with_reducible first | refine qaaf ?_ | refine qabs (by rw [hP]; exact qaf0) ?_); (try rw [hP]); simp -implicitDefEqProofs [*]) | ((with_reducible refine qaay ?_); (try simp only [qaas, qaaa, qaae])) | ((first | refine qacc (cmpi_s _ _ _) ?_ | refine qacc (k1 _) ?_ | refine qacc (k2 _) ?_ | refine qacg (qaq3 _ _ _ _ _) ⟨rfl, trivial⟩ ⟨rfl, trivial⟩ ?_); simp -implicitDefEqProofs [*]) | (with_reducible refine zM hm ?_) | fail)
 all_goals rfl
theorem same_s (a b : Entry) (ha : qacb a) (hb : qacb b) (q : Nat) : SCalls Try.prog 53 [.agg (qaag a), .agg (qaag b)] [] q (.bool (ordE a b == 0)) [] := by
 refine qabi ?_ (fun _ => rfl) (fun _ => rfl) rfl q
 refine qaan (N := 9) Try.func53 rfl rfl (by kernel_rfl) qaip (by simp) (by repeat' (first | exact trivial | refine And.intro ?_ ?_ | rfl | decide | exact PureR.ren _)) (by repeat' (first | exact trivial | refine And.intro ?_ ?_ | rfl | decide | exact PureR.ren _)) ?_
 rintro X hP hN hm
 have k1 := fun q => qatu a b ha hb q
 unfold qaag at k1
 unfold c_tsame qaag
 repeat' (first | (with_reducible refine zA ?_) | ((with_reducible refine qaaf ?_); (try rw [hP]); simp -implicitDefEqProofs [*]) | ((with_reducible refine qaay ?_); (try simp only [qaas, qaaa, qaae])) | (refine qacc (k1 _) ?_; simp -implicitDefEqProofs [*]) | (with_reducible refine zN hm ?_) | fail)
 all_goals rfl
theorem tnums (xs : List Int) (h : xs.length ≤ 1000000) (q : Nat) : SCalls Try.prog 56 [nums .u64 xs] [] q (nums .u64 xs) [] := by
 unfold nums
 rcases xs with _ | ⟨x, xs⟩
 ·refine qah5 (qabi ?_ (fun _ => rfl) (fun _ => rfl) rfl q) (qabi ?_ (fun _ => rfl) (fun _ => rfl) rfl q)
  ·refine qaan (N := 8) Try.func56 rfl rfl (by kernel_rfl) qae2 (by simp) (by repeat' (first | exact trivial | refine And.intro ?_ ?_ | rfl | decide | exact PureR.ren _)) (by repeat' (first | exact trivial | refine And.intro ?_ ?_ | rfl | decide | exact PureR.ren _)) ?_
   rintro X hP hN hm
   unfold c_clu
   repeat' (first | (with_reducible refine zA ?_) | ((with_reducible refine qaaf ?_); (try rw [hP]); simp -implicitDefEqProofs [*]) | ((with_reducible refine qaay ?_); (try simp only [qaas, qaaa, qaae])) | ((with_reducible refine qaak rfl (fun h => ?_) (fun h => ?_)) <;> have h' := h <;> (try simp at h') <;> (try subst h')) | (refine fin_co hm rfl (Co.nilsl _) (qaux _ _)) | fail)
  ·refine qaan (N := 8) Try.func56 rfl rfl (by kernel_rfl) qae2 (by simp) (by repeat' (first | exact trivial | refine And.intro ?_ ?_ | rfl | decide | exact PureR.ren _)) (by repeat' (first | exact trivial | refine And.intro ?_ ?_ | rfl | decide | exact PureR.ren _)) ?_
   rintro X hP hN hm
   unfold c_clu
   repeat' (first | (with_reducible refine zA ?_) | ((with_reducible refine qaaf ?_); (try rw [hP]); simp -implicitDefEqProofs [*]) | ((with_reducible refine qaaz ?_); (try simp -implicitDefEqProofs [*])) | ((with_reducible refine qaay ?_); (try simp only [qaas, qaaa, qaae])) | ((with_reducible refine qaak rfl (fun h => ?_) (fun h => ?_)) <;> have h' := h <;> (try simp at h') <;> (try subst h')) | (refine qat4 (es := []) hm rfl rfl ?_ rfl) | fail)
   all_goals rfl
 ·refine qabi ?_ (fun _ => rfl) (fun _ => rfl) rfl q
  refine qaan (N := 8) Try.func56 rfl rfl (by kernel_rfl) qae2 (by simp) (by repeat' (first | exact trivial | refine And.intro ?_ ?_ | rfl | decide | exact PureR.ren _)) (by repeat' (first | exact trivial | refine And.intro ?_ ?_ | rfl | decide | exact PureR.ren _)) ?_
  rintro X hP hN hm
  have hb : (x :: xs).length ≤ maxLen := by unfold maxLen; omega
  simp only [List.length_cons] at h hb
  unfold c_clu
  repeat' (first | (with_reducible refine zA ?_) | ((with_reducible refine qaaf ?_); (try rw [hP]); simp -implicitDefEqProofs [*]) | ((with_reducible refine qaaz ?_); (try simp -implicitDefEqProofs [*])) | ((with_reducible refine qaay ?_); (try simp only [qaas, qaaa, qaae])) | ((with_reducible refine qaak rfl (fun h => ?_) (fun h => ?_)) <;> have h' := h <;> (try simp at h') <;> (try subst h')) | ((with_reducible refine qafv ?_ ?_); (first | omega | (unfold maxLen; omega)); simp -implicitDefEqProofs [*]) | (refine qat4 (es := (x :: xs).map fun x => [.int .u64 x]) hm rfl rfl ?_ rfl) | fail)
  all_goals simp
def towE (e : Entry) : Entry := { e with len := 0 }
theorem town_s (e : Entry) (h : qacb e) (q : Nat) : SCalls Try.prog 36 [.agg (qaag e)] [] q (.agg (qaag (towE e))) [] := by
 refine qabi ?_ (fun _ => rfl) (fun _ => rfl) rfl q
 refine qaan (N := 17) Try.func36 rfl rfl (by kernel_rfl) qakb (by simp) (by repeat' (first | exact trivial | refine And.intro ?_ ?_ | rfl | decide | exact PureR.ren _)) (by repeat' (first | exact trivial | refine And.intro ?_ ?_ | rfl | decide | exact PureR.ren _)) ?_
 rintro X hP hN hm
 obtain ⟨h1, h2, h3⟩ := h
 have k1 := fun q => tnums e.keys h1 q
 have k2 := fun q => tnums e.masks h2 q
 have k3 := fun q => tnums e.args h3 q
 unfold nums at k1 k2 k3
 unfold c_town qaag nums towE
 repeat' (first | (with_reducible first | refine zA ?_ | refine zK ?_) | ((with_reducible first | refine qaaf ?_ | refine qabs (by rw [hP]; exact qaf0) ?_); (try rw [hP]); simp -implicitDefEqProofs [*]) | ((with_reducible refine qaay ?_); (try simp only [qaas, qaaa, qaae])) | ((first | refine qacc (k1 _) ?_ | refine qacc (k2 _) ?_ | refine qacc (k3 _) ?_); simp -implicitDefEqProofs [*]) | ((refine qau8 hm rfl ?_ ?_ rfl (CoL.refl _) rfl ?_)) | fail)
 all_goals first | (rw [hP]; with_reducible exact qatg) | (rw [hP]; exact qal2) | (intro σ; rfl) | trace_state
def qalo : List Int → List Int → List Int → List Int → Bool
 | a :: xa, b :: xb, m :: xm, n :: xn => if bits .and .u64 (bits .and .u64 (bits .xor .u64 a b) m) n ≠ 0 then false else qalo xa xb xm xn
 | _, _, _, _ => true
def qamt (a b : Entry) : Bool := qalo a.keys b.keys a.masks b.masks
theorem qamr (xa xb xm xn : List Int) (i : Nat) (h : i < xa.length) (g : i < xb.length) (hm : i < xm.length) (hn : i < xn.length) : qalo (xa.drop i) (xb.drop i) (xm.drop i) (xn.drop i) = if bits .and .u64 (bits .and .u64 (bits .xor .u64 xa[i] xb[i]) xm[i]) xn[i] ≠ 0 then false else qalo (xa.drop (i + 1)) (xb.drop (i + 1)) (xm.drop (i + 1)) (xn.drop (i + 1)) := by
 rw [List.drop_eq_getElem_cons h, List.drop_eq_getElem_cons g, List.drop_eq_getElem_cons hm, List.drop_eq_getElem_cons hn, qalo]
theorem meets_s (a b : Entry) (ha : qacb a) (hb : qacb b) (h1 : b.keys.length = a.keys.length) (h2 : a.masks.length = a.keys.length) (h3 : b.masks.length = a.keys.length) (q : Nat) : SCalls Try.prog 34 [.agg (qaag a), .agg (qaag b)] [] q (.bool (qamt a b)) [] := by
 refine qabi ?_ (fun _ => rfl) (fun _ => rfl) rfl q
 refine qaan (N := 37) Try.func34 rfl rfl (by kernel_rfl) qagv (by simp) (by repeat' (first | exact trivial | refine And.intro ?_ ?_ | rfl | decide | exact PureR.ren _)) (by repeat' (first | exact trivial | refine And.intro ?_ ?_ | rfl | decide | exact PureR.ren _)) ?_
 rintro X hP hN hm
 obtain ⟨h4, -, -⟩ := ha
 obtain ⟨ka, ma, la, pa, aa, ra⟩ := a
 obtain ⟨kb, mb, lb, pb, ab, rb⟩ := b
 dsimp only at h1 h2 h3 h4
 obtain ⟨F, hF⟩ : ∃ F, F = qamt ⟨ka, ma, la, pa, aa, ra⟩ ⟨kb, mb, lb, pb, ab, rb⟩ := ⟨_, rfl⟩
 rw [← hF]
 replace hF := Lib.hid hF
 replace h1 := Lib.hid h1
 replace h2 := Lib.hid h2
 replace h3 := Lib.hid h3
 unfold c_tmeets qaag nums
 repeat' (first | (with_reducible refine zA ?_) | ((with_reducible refine qaaf ?_); (try rw [hP]); simp -implicitDefEqProofs [*]) | fail)
 refine qabm (qacz (fun s (i : Nat) => s.turn [(9, .int .i64 i)] []) (fun i => i ≤ ka.length ∧ F = qalo (ka.drop i) (kb.drop i) (ma.drop i) (mb.drop i)) (fun i => ka.length - i) 0 ?_ ⟨by simp, hF.out⟩ ?_)
 ·repeat' (first | ((with_reducible refine qaa3 [] hm ?_ ?_ ?_ ?_) <;> (try simp only [zT, puth, Nat.reduceEqDiff, reduceIte, Nat.reduceAdd])) | (with_reducible first | refine za ?_ ?_ | refine zb ?_ ?_ ?_ ?_) | (with_reducible first | exact qaaj | exact qaam) | ((with_reducible first | refine zga ?_ | refine zgb ?_); rfl) | ((with_reducible refine zgd ?_); (first | omega | (simp; done))) | (exact Co.refl _) | (exact CoL.refl _) | fail)
 rintro J hJ i ⟨h5, h6⟩
 unfold qafn
 simp only [zT, puth, Nat.reduceEqDiff, reduceIte, Nat.reduceAdd] at h5 h6 ⊢
 replace h6 := Lib.hid h6
 rcases Nat.lt_or_ge i ka.length with hi | hi
 ·have i1 : i < kb.length := by rw [h1.out]; exact hi
  have i2 : i < ma.length := by rw [h2.out]; exact hi
  have i3 : i < mb.length := by rw [h3.out]; exact hi
  have h7 := h6.out
  rw [qamr ka kb ma mb i hi i1 i2 i3] at h7
  have wi : IntKind.i64.wrap ((i : Int) + 1) = (i : Int) + 1 := qacj (by omega) (by omega)
  generalize hx : bits .and .u64 (bits .and .u64 (bits .xor .u64 ka[i] kb[i]) ma[i]) mb[i] = x at h7
  replace h7 := Lib.hid h7
  repeat' (first | (with_reducible first | refine zA ?_ | refine qaa4 ?_ | refine zK ?_) | ((with_reducible first | refine qaaf ?_ | refine qabs (by rw [hP]; exact qaf0) ?_); (try rw [hP]); simp -implicitDefEqProofs [wi, List.getElem?_eq_getElem hi, List.getElem?_eq_getElem i1, List.getElem?_eq_getElem i2, List.getElem?_eq_getElem i3, hx, *]) | ((with_reducible refine qaaz ?_); (try simp -implicitDefEqProofs [wi, List.getElem?_eq_getElem hi, List.getElem?_eq_getElem i1, List.getElem?_eq_getElem i2, List.getElem?_eq_getElem i3, hx, *])) | ((with_reducible refine qaay ?_); (try simp only [qaas, qaaa, qaae])) | ((with_reducible refine qaak rfl (fun h => ?_) (fun h => ?_)) <;> have h' := h <;> (try simp at h') <;> (try subst h')) | (with_reducible refine zN hm ?_) | (with_reducible first | refine za ?_ ?_ | refine zb ?_ ?_ ?_ ?_) | (with_reducible first | exact qaaj | exact qaam) | ((with_reducible first | refine zga ?_ | refine zgb ?_); rfl) | ((with_reducible first | refine zgd ?_ | refine zge ?_); (first | omega | (simp; done))) | (exact Co.refl _) | (exact CoL.refl _) | ((refine qabo hJ (i + 1) ?_ ?_ ?_; (with_reducible refine qaa3 [] hm ?_ ?_ ?_ ?_) <;> (try simp only [zT, puth, Nat.reduceEqDiff, reduceIte, Nat.reduceAdd]))) | fail)
  all_goals first | (exfalso; omega) | (rw [h7.out, if_pos ‹_›]; done) | (refine ⟨by omega, ?_⟩; rw [h7.out, if_neg (by omega)]) | omega | trace_state
 ·repeat' (first | (with_reducible first | refine zA ?_ | refine qaa4 ?_) | ((with_reducible first | refine qaaf ?_ | refine qabs (by rw [hP]; exact qaf0) ?_); (try rw [hP]); simp -implicitDefEqProofs [*]) | ((with_reducible first | refine qaaz ?_ | refine qabt ?_); (try simp -implicitDefEqProofs [*])) | ((with_reducible refine qaay ?_); (try simp only [qaas, qaaa, qaae])) | ((with_reducible refine qaak rfl (fun h => ?_) (fun h => ?_)) <;> have h' := h <;> (try simp at h') <;> (try subst h')) | ((with_reducible refine qafv ?_ ?_); (first | omega | (unfold maxLen; omega)); simp -implicitDefEqProofs [*]) | (with_reducible refine zN hm ?_) | fail)
  all_goals first | (exfalso; omega) | (rw [h6.out, List.drop_eq_nil_of_le hi]; rfl) | trace_state
end Go.Proofs.Ytefkifebgeagiaa
namespace Go.Proofs.Ytefkifebgeagiaa
set_option linter.all false
open Go.RowKit
attribute [local simp] qaar qaaq qaac qaai qaad qaah qaao qaap qaab qaa5 SOp.run SX.ev putd puts argS upds SOp.touch SSt.keep SSt.skip gets geth puth delh idOf SV.cells? setL qab5 qab6 sbin eq0 eq1 eqL qab4 qabe qabf qaas qaat qaaa qaau qaa6 qaae qaal FrzOk qaa9 qaa1 qaa7 qaa8 qaav qaa0 qabc qaa2 qaax qaba qaaw frzS frzH frz frz1 frz0 SlotsM ObjsM ObjM rn ren ren1 ren0 qabl qab0 qab3 qabk qabd qabz qab2 CoL qabb qabu dels adds idsH qabn
def qavz (k m : Int) (l : List Entry) : List SV := [.int .i64 k, .int .i64 m, .view 6 (l.map qaag)]
def qatk : List Int → List Int → Bool
 | a :: xa, m :: xm => if bits .andNot .u64 a m ≠ 0 then false else qatk xa xm
 | _, _ => true
def qafq (k : Int) (e : Entry) : Bool := if (e.keys.length : Int) ≠ k ∨ (e.masks.length : Int) ≠ k then false else qatk e.keys e.masks && (decide (0 ≤ e.prio) && decide (e.prio ≤ 1000))
theorem qalt (xa xm : List Int) (i : Nat) (h : i < xa.length) (g : i < xm.length) : qatk (xa.drop i) (xm.drop i) = if bits .andNot .u64 xa[i] xm[i] ≠ 0 then false else qatk (xa.drop (i + 1)) (xm.drop (i + 1)) := by
 rw [List.drop_eq_getElem_cons h, List.drop_eq_getElem_cons g, qatk]
theorem tfits_s (k m : Int) (l : List Entry) (e : Entry) (he : qacb e) (q : Nat) : SCalls Try.prog 29 [.cp (qavz k m l), .agg (qaag e)] [] q (.bool (qafq k e)) [] := by
 refine qabi ?_ (fun _ => rfl) (fun _ => rfl) rfl q
 refine qaan (N := 50) Try.func29 rfl rfl (by kernel_rfl) qaiq (by simp) (by repeat' (first | exact trivial | refine And.intro ?_ ?_ | rfl | decide | exact PureR.ren _)) (by repeat' (first | exact trivial | refine And.intro ?_ ?_ | rfl | decide | exact PureR.ren _)) ?_
 rintro X hP hN hm
 obtain ⟨h4, -, -⟩ := he
 obtain ⟨xa, xm, ln, pr, ac, ar⟩ := e
 dsimp only at h4
 obtain ⟨F, hF⟩ : ∃ F, F = qafq k ⟨xa, xm, ln, pr, ac, ar⟩ := ⟨_, rfl⟩
 rw [← hF]
 unfold qafq at hF
 replace hF := Lib.hid hF
 unfold c_tfits qaag nums qavz
 repeat' (first | (with_reducible first | refine zA ?_ | refine zK ?_) | ((with_reducible first | refine qaaf ?_ | refine qabs (by rw [hP]; exact qaf0) ?_); (try rw [hP]); simp -implicitDefEqProofs [*]) | ((with_reducible refine qaaz ?_); (try simp -implicitDefEqProofs [*])) | ((with_reducible refine qaay ?_); (try simp only [qaas, qaaa, qaae])) | ((with_reducible refine qaak rfl (fun h => ?_) (fun h => ?_)) <;> have h' := h <;> (try simp at h') <;> (try subst h')) | ((with_reducible refine qae9 (fun h => ?_) (fun h => ?_)) <;> have h' := h <;> (try simp at h') <;> (try subst h') <;> simp -implicitDefEqProofs [*]) | (with_reducible refine zN hm ?_) | fail)
 ·dsimp only at hF; rw [hF.out, if_pos (by omega)]
 ·dsimp only at hF; rw [hF.out, if_pos (by omega)]
 have hml : xm.length = xa.length := by omega
 have hF2 : F = (qatk xa xm && (decide (0 ≤ pr) && decide (pr ≤ 1000))) := by have := hF.out; dsimp only at this; rw [if_neg (by omega)] at this; exact this
 clear hF
 replace hml := Lib.hid hml
 refine qabm (qacz (fun s (i : Nat) => s.turn [(28, .int .i64 i)] []) (fun i => i ≤ xa.length ∧ F = (qatk (xa.drop i) (xm.drop i) && (decide (0 ≤ pr) && decide (pr ≤ 1000)))) (fun i => xa.length - i) 0 ?_ ⟨by simp, hF2⟩ ?_)
 ·repeat' (first | ((with_reducible refine qaa3 [] hm ?_ ?_ ?_ ?_) <;> (try simp only [zT, puth, Nat.reduceEqDiff, reduceIte, Nat.reduceAdd])) | (with_reducible first | refine za ?_ ?_ | refine zb ?_ ?_ ?_ ?_) | (with_reducible first | exact qaaj | exact qaam) | ((with_reducible first | refine zga ?_ | refine zgb ?_); rfl) | ((with_reducible refine zgd ?_); (first | omega | (simp; done))) | (exact Co.refl _) | (exact CoL.refl _) | fail)
 rintro J hJ i ⟨h5, h6⟩
 unfold qag1
 simp only [zT, puth, Nat.reduceEqDiff, reduceIte, Nat.reduceAdd] at h5 h6 ⊢
 clear hF2
 replace h6 := Lib.hid h6
 rcases Nat.lt_or_ge i xa.length with hi | hi
 ·have i2 : i < xm.length := by rw [hml.out]; exact hi
  have h7 := h6.out
  rw [qalt xa xm i hi i2] at h7
  have wi : IntKind.i64.wrap ((i : Int) + 1) = (i : Int) + 1 := qacj (by omega) (by omega)
  generalize hx : bits .andNot .u64 xa[i] xm[i] = x at h7
  replace h7 := Lib.hid h7
  repeat' (first | (with_reducible first | refine zA ?_ | refine qaa4 ?_) | ((with_reducible refine qaaf ?_); (try rw [hP]); simp -implicitDefEqProofs [wi, List.getElem?_eq_getElem hi, List.getElem?_eq_getElem i2, hx, *]) | ((with_reducible refine qaaz ?_); (try simp -implicitDefEqProofs [wi, List.getElem?_eq_getElem hi, List.getElem?_eq_getElem i2, hx, *])) | ((with_reducible refine qaay ?_); (try simp only [qaas, qaaa, qaae])) | ((with_reducible refine qaak rfl (fun h => ?_) (fun h => ?_)) <;> have h' := h <;> (try simp at h') <;> (try subst h')) | (with_reducible refine zN hm ?_) | (with_reducible first | refine za ?_ ?_ | refine zb ?_ ?_ ?_ ?_) | (with_reducible first | exact qaaj | exact qaam) | ((with_reducible first | refine zga ?_ | refine zgb ?_); rfl) | ((with_reducible first | refine zgd ?_ | refine zge ?_); (first | omega | (simp; done))) | (exact Co.refl _) | (exact CoL.refl _) | ((refine qabo hJ (i + 1) ?_ ?_ ?_; (with_reducible refine qaa3 [] hm ?_ ?_ ?_ ?_) <;> (try simp only [zT, puth, Nat.reduceEqDiff, reduceIte, Nat.reduceAdd]))) | fail)
  all_goals first | (exfalso; omega) | (rw [h7.out, if_pos ‹_›]; rfl) | (refine ⟨by omega, ?_⟩; rw [h7.out, if_neg (by omega)]) | omega | trace_state
 ·have h7 : F = (decide (0 ≤ pr) && decide (pr ≤ 1000)) := by rw [h6.out, List.drop_eq_nil_of_le hi]; simp [qatk]
  replace h7 := Lib.hid h7
  repeat' (first | (with_reducible refine zA ?_) | ((with_reducible refine qaaf ?_); (try rw [hP]); simp -implicitDefEqProofs [Nat.not_lt.2 hi, *]) | ((with_reducible refine qabt ?_); (try simp -implicitDefEqProofs [Nat.not_lt.2 hi, *])) | ((with_reducible refine qaay ?_); (try simp only [qaas, qaaa, qaae])) | ((with_reducible refine qaak rfl (fun h => ?_) (fun h => ?_)) <;> have h' := h <;> (try simp at h') <;> (try subst h')) | ((with_reducible refine qae9 (fun h => ?_) (fun h => ?_)) <;> have h' := h <;> (try simp at h') <;> (try subst h') <;> simp -implicitDefEqProofs [Nat.not_lt.2 hi, *]) | (with_reducible refine zN hm ?_) | fail)
  all_goals first | (have h0 : 0 ≤ pr := by omega
                     rw [h7.out, decide_eq_true h0]; rfl) | (have h0 : ¬ 0 ≤ pr := by omega
                                                             rw [h7.out, decide_eq_false h0]; rfl)
def AskC (g : FuncId) (b : Entry) (l : List Entry) (p : Entry → Bool) : Prop := ∀ x ∈ l, ∀ q, SCalls Try.prog g [.agg (qaag x), .cp (qaag b)] [] q (.bool (p x)) []
theorem at1_s (a b : Entry) (ha : qacb a) (hb : qacb b) (q : Nat) : SCalls Try.prog 52 [.agg (qaag a), .cp (qaag b)] [] q (.bool (ordE a b == 0)) [] := by
 refine qabi ?_ (fun _ => rfl) (fun _ => rfl) rfl q
 refine qaan (N := 7) Try.func52 rfl rfl (by kernel_rfl) qane (by simp) (by repeat' (first | exact trivial | refine And.intro ?_ ?_ | rfl | decide | exact PureR.ren _)) (by repeat' (first | exact trivial | refine And.intro ?_ ?_ | rfl | decide | exact PureR.ren _)) ?_
 rintro X hP hN hm
 have k1 := fun q => same_s a b ha hb q
 unfold qaag at k1
 unfold c_at1 qaag
 repeat' (first | (with_reducible refine zA ?_) | ((with_reducible refine qaaf ?_); (try rw [hP]); simp -implicitDefEqProofs [*]) | ((with_reducible refine qaay ?_); (try simp only [qaas, qaaa, qaae])) | (refine qacc (k1 _) ?_; simp -implicitDefEqProofs [*]) | (with_reducible refine zN hm ?_) | fail)
 all_goals rfl
theorem ad1_s (a b : Entry) (ha : qacb a) (hb : qacb b) (h1 : b.keys.length = a.keys.length) (h2 : a.masks.length = a.keys.length) (h3 : b.masks.length = a.keys.length) (q : Nat) : SCalls Try.prog 33 [.agg (qaag a), .cp (qaag b)] [] q (.bool (a.prio == b.prio && qamt a b)) [] := by
 refine qabi ?_ (fun _ => rfl) (fun _ => rfl) rfl q
 refine qaan (N := 14) Try.func33 rfl rfl (by kernel_rfl) qanf (by simp) (by repeat' (first | exact trivial | refine And.intro ?_ ?_ | rfl | decide | exact PureR.ren _)) (by repeat' (first | exact trivial | refine And.intro ?_ ?_ | rfl | decide | exact PureR.ren _)) ?_
 rintro X hP hN hm
 have k1 := fun q => meets_s a b ha hb h1 h2 h3 q
 clear h1 h2 h3
 generalize qamt a b = y at k1
 unfold qaag at k1
 unfold c_ad1 qaag
 cases hx : (a.prio == b.prio)
 all_goals
  repeat' (first | (with_reducible refine zA ?_) | ((with_reducible refine qaaf ?_); (try rw [hP]); simp -implicitDefEqProofs [hx, *]) | ((with_reducible refine qaay ?_); (try simp only [qaas, qaaa, qaae])) | (refine qacc (k1 _) ?_; simp -implicitDefEqProofs [hx, *]) | (with_reducible refine zN hm ?_) | fail)
  all_goals rfl
theorem qaec (e : Entry) : (qaag e).length = 6 := rfl
theorem qac0 (e : Entry) : (qaag e).take 6 = qaag e := rfl
theorem idxf_s (g : FuncId) (b : Entry) (l : List Entry) (p : Entry → Bool) (hl : l.length ≤ 1000000) (hg : AskC g b l p) (q : Nat) : SCalls Try.prog 51 [.view 6 (l.map qaag), .fn (.func g) [] [.cp (qaag b)]] [] q (.int .i64 (match l.findIdx? p with | some i => (i : Int) | none => -1)) [] := by
 refine qabi ?_ (fun _ => rfl) (fun _ => rfl) rfl q
 refine qaan (N := 19) Try.func51 rfl rfl (by kernel_rfl) qakk (by simp) (by repeat' (first | exact trivial | refine And.intro ?_ ?_ | rfl | decide | exact PureR.ren _)) (by repeat' (first | exact trivial | refine And.intro ?_ ?_ | rfl | decide | exact PureR.ren _)) ?_
 rintro X hP hN hm
 obtain ⟨F, hF⟩ : ∃ F, F = (match l.findIdx? p with | some i => (i : Int) | none => -1) := ⟨_, rfl⟩
 rw [← hF]
 replace hF := Lib.hid hF
 unfold c_idxf
 repeat' (first | (with_reducible refine zA ?_) | ((with_reducible refine qaaf ?_); (try rw [hP]); simp -implicitDefEqProofs [*]) | fail)
 refine qabm (qacz (fun s (i : Nat) => s.turn [(8, .int .i64 i)] []) (fun i => i ≤ l.length ∧ F = (match (l.drop i).findIdx? p with | some j => (i : Int) + j | none => -1)) (fun i => l.length - i) 0 ?_ ⟨by simp, by rw [hF.out]; simp⟩ ?_)
 ·repeat' (first | ((with_reducible refine qaa3 [] hm ?_ ?_ ?_ ?_) <;> (try simp only [zT, puth, Nat.reduceEqDiff, reduceIte, Nat.reduceAdd])) | (with_reducible refine za ?_ ?_) | (with_reducible first | exact qaaj | exact qaam) | ((with_reducible refine zgb ?_); rfl) | ((with_reducible refine zgd ?_); (first | omega | (simp; done))) | (exact Co.refl _) | fail)
 rintro J hJ i ⟨h5, h6⟩
 unfold qajx
 simp only [zT, puth, Nat.reduceEqDiff, reduceIte, Nat.reduceAdd] at h5 h6 ⊢
 replace h6 := Lib.hid h6
 rcases Nat.lt_or_ge i l.length with hi | hi
 ·have h7 := h6.out
  rw [List.drop_eq_getElem_cons hi, List.findIdx?_cons] at h7
  have hc := hg l[i] (List.getElem_mem hi)
  have wi : IntKind.i64.wrap ((i : Int) + 1) = (i : Int) + 1 := qacj (by omega) (by omega)
  generalize hx : p l[i] = x at h7 hc
  replace h7 := Lib.hid h7
  replace hg := Lib.hid hg
  repeat' (first | (with_reducible first | refine zA ?_ | refine qaa4 ?_) | ((with_reducible refine qaaf ?_); (try rw [hP]); simp -implicitDefEqProofs [wi, List.getElem?_eq_getElem hi, qaec, qac0, *]) | ((with_reducible refine qaaz ?_); (try simp -implicitDefEqProofs [wi, List.getElem?_eq_getElem hi, qaec, qac0, *])) | ((with_reducible refine qaay ?_); (try simp only [qaas, qaaa, qaae])) | ((with_reducible refine qaak rfl (fun h => ?_) (fun h => ?_)) <;> have h' := h <;> (try simp at h') <;> (try subst h')) | (refine qac1 (hc _) trivial trivial [] (by simp) ?_; simp -implicitDefEqProofs [wi, List.getElem?_eq_getElem hi, qaec, qac0, *]) | (with_reducible refine zM hm ?_) | (with_reducible refine za ?_ ?_) | (with_reducible first | exact qaaj | exact qaam) | ((with_reducible refine zgb ?_); rfl) | ((with_reducible first | refine zgd ?_ | refine zge ?_); (first | omega | (simp; done))) | (exact Co.refl _) | ((refine qabo hJ (i + 1) ?_ ?_ ?_; (with_reducible refine qaa3 [] hm ?_ ?_ ?_ ?_) <;> (try simp only [zT, puth, Nat.reduceEqDiff, reduceIte, Nat.reduceAdd]))) | fail)
  ·rw [h7.out, if_pos rfl]; simp
  ·refine ⟨by omega, ?_⟩
   rw [h7.out, if_neg (by decide)]
   cases List.findIdx? p (l.drop (i + 1)) with
   | none => rfl
   | some j =>
    show (i : Int) + ((j + 1 : Nat) : Int) = ((i + 1 : Nat) : Int) + j
    push_cast; omega
 ·repeat' (first | (with_reducible refine zA ?_) | ((with_reducible refine qaaf ?_); (try rw [hP]); simp -implicitDefEqProofs [Nat.not_lt.2 hi, *]) | ((with_reducible refine qabt ?_); (try simp -implicitDefEqProofs [Nat.not_lt.2 hi, *])) | ((with_reducible refine qaay ?_); (try simp only [qaas, qaaa, qaae])) | ((with_reducible refine qaak rfl (fun h => ?_) (fun h => ?_)) <;> have h' := h <;> (try simp at h') <;> (try subst h')) | (with_reducible refine zM hm ?_) | fail)
  all_goals (rw [h6.out, List.drop_eq_nil_of_le hi]; rfl)
theorem qatz {h1 : Hp} {f : Fn} {cs ds : List SV} (h : qaua h1 cs ds) : Lent h1 (.fn f [] cs) (.fn f [] ds) := fun O ρ fp w v hok hx => by
 cases hx with
 | fn a b c d =>
  exact .fn a (by rw [← qadk h]; exact b) (fun j x v hx => by cases hx) fun j y v hy hv => by
   obtain ⟨x, hx, hl⟩ := qaeh h hy
   exact hl O ρ fp w v hok (d j x v hx hv)
theorem qamg (e : Entry) : qaht (qaag e) := by
 intro x hx
 simp only [qaag, List.mem_cons, List.not_mem_nil, or_false] at hx
 rcases hx with rfl | rfl | rfl | rfl | rfl | rfl <;> first | exact qadx _ _ | exact qaeg _ _
def idxV (l : List Entry) (p : Entry → Bool) : Int := match l.findIdx? p with | some i => (i : Int) | none => -1
theorem qau2 (g : FuncId) (b : Entry) (l : List Entry) (p : Entry → Bool) (hl : l.length ≤ 1000000) (hg : AskC g b l p) (id q : Nat) : SCalls Try.prog 51 [.view 6 (l.map qaag), .fn (.func g) [] [.ptr id 0]] [(id, .cells 29 (qaag b))] q (.int .i64 (idxV l p)) [(id, .cells 29 (qaag b))] :=
 qacs (idxf_s g b l p hl hg q) ⟨qac8 _, qatz ⟨qaie (t := 29) (cs := qaag b) (by simp [geth]) (qaew _) (qamg b), trivial⟩, trivial⟩ (qaf8 _ _)
theorem conf_s (g : FuncId) (b : Entry) (l : List Entry) (p : Entry → Bool) (hl : l.length ≤ 1000000) (hg : AskC g b l p) (q : Nat) : SCalls Try.prog 32 [.view 6 (l.map qaag), .fn (.func g) [] [.cp (qaag b)]] [] q (.bool (decide (0 ≤ idxV l p))) [] := by
 refine qabi ?_ (fun _ => rfl) (fun _ => rfl) rfl q
 refine qaan (N := 9) Try.func32 rfl rfl (by kernel_rfl) qakm (by simp) (by repeat' (first | exact trivial | refine And.intro ?_ ?_ | rfl | decide | exact PureR.ren _)) (by repeat' (first | exact trivial | refine And.intro ?_ ?_ | rfl | decide | exact PureR.ren _)) ?_
 rintro X hP hN hm
 have k1 := fun q => idxf_s g b l p hl hg q
 clear hg
 change ∀ q, SCalls Try.prog _ _ [] q (.int .i64 (idxV l p)) [] at k1
 generalize idxV l p = y at k1
 unfold c_conf
 repeat' (first | (with_reducible refine zA ?_) | ((with_reducible refine qaaf ?_); (try rw [hP]); simp -implicitDefEqProofs [*]) | ((with_reducible refine qaay ?_); (try simp only [qaas, qaaa, qaae])) | (refine qacc (k1 _) ?_; simp -implicitDefEqProofs [*]) | (with_reducible refine zN hm ?_) | fail)
 all_goals rfl
def tatV (l : List Entry) (e : Entry) : Int := idxV l fun x => ordE x e == 0
theorem tat_s (k m : Int) (l : List Entry) (e : Entry) (hl : l.length ≤ 1000000) (hs : ∀ x ∈ l, qacb x) (he : qacb e) (q : Nat) : SCalls Try.prog 30 [.cp (qavz k m l), .agg (qaag e)] [] q (.int .i64 (tatV l e)) [] := by
 refine qabi ?_ (fun _ => rfl) (fun _ => rfl) rfl q
 refine qaan (N := 11) Try.func30 rfl rfl (by kernel_rfl) qanc (by simp) (by repeat' (first | exact trivial | refine And.intro ?_ ?_ | rfl | decide | exact PureR.ren _)) (by repeat' (first | exact trivial | refine And.intro ?_ ?_ | rfl | decide | exact PureR.ren _)) ?_
 rintro X hP hN hm
 have k1 := fun id q => qau2 _ e l (fun x => ordE x e == 0) hl (fun x hx q => at1_s x e (hs x hx) he q) id q
 change ∀ id q, SCalls Try.prog _ _ _ q (.int .i64 (tatV l e)) _ at k1
 generalize tatV l e = y at k1
 unfold qaag at k1
 unfold c_tat qaag qavz
 repeat' (first | (with_reducible refine zA ?_) | ((with_reducible refine qaaf ?_); (try rw [hP]); simp -implicitDefEqProofs [*]) | ((with_reducible refine qaay ?_); (try simp only [qaas, qaaa, qaae])) | (refine qacg (k1 _ _) ⟨rfl, trivial⟩ ⟨rfl, trivial⟩ ?_; simp -implicitDefEqProofs [*]) | (with_reducible refine zM hm ?_) | fail)
 all_goals rfl
end Go.Proofs.Ytefkifebgeagiaa
namespace Go.Proofs.Ytefkifebgeagiaa
set_option linter.all false
open Go.RowKit
def PackN (N : Nat) (R : Hp → Prop) (w : World) (A Fp : Nat → Prop) (b : Nat) : Prop :=
 ∃ (h : Hp) (ρ : qabr) (fp : Nat → Nat → Prop) (c : Nat), R h ∧ ρ 0 = some (some (b, c)) ∧ (∀ id, N ≤ id → ρ id = none) ∧ (∀ id o, geth h id = some o → ObjRep w A ρ id (fp id) o) ∧
  (∀ id id' o o', id ≠ id' → geth h id = some o → geth h id' = some o' → ∀ k, fp id k → ¬ fp id' k) ∧ (∀ k, Live h fp k → k < w.heap.size) ∧ ∀ k, Fp k ↔ Live h fp k
def qaqn (N : Nat) (R : Hp → Prop) : AbsI where
 I := PackN N R
 lt := by rintro w A Fp b ⟨h, ρ, fp, c, _, _, _, _, _, h6, h7⟩ k hk; exact h6 k ((h7 k).1 hk)
 keep := by
  rintro w w' A A' Fp b ⟨h, ρ, fp, c, h1, h2, h3, h4, h5, h6, h7⟩ hs hA hb
  exact ⟨h, ρ, fp, c, h1, h2, h3, fun id o ho => (h4 id o ho).mono ⟨hs, hA, fun _ _ h => h⟩ fun k hk => hb k ((h7 k).2 ⟨id, o, ho, hk⟩), h5, fun k hk => Nat.lt_of_lt_of_le (h6 k hk) hs.size, h7⟩
def RenO (σ : Nat → Nat) : SObj → Prop
 | .cells _ cs => cs.map (Go.Proofs.Ytefkifebgeagiaa.ren σ) = cs
 | .row _ _ es => es.map (·.map (Go.Proofs.Ytefkifebgeagiaa.ren σ)) = es
 | .abs _ => True
theorem RenO.objM {σ : Nat → Nat} {o : SObj} (h : RenO σ o) : ObjM σ o o := by
 cases o with
 | cells t cs => exact ⟨rfl, by rw [show cs.map (Go.Proofs.Ytefkifebgeagiaa.ren σ) = cs from h]; exact .refl _⟩
 | row e z es => exact ⟨rfl, rfl, by rw [show es.map (·.map (Go.Proofs.Ytefkifebgeagiaa.ren σ)) = es from h]; exact .refl _⟩
 | abs I => rfl
def RenH (σ : Nat → Nat) : Hp → Prop
 | [] => True
 | (_, o) :: r => RenO σ o ∧ RenH σ r
theorem RenH.get {σ : Nat → Nat} : ∀ {h : Hp}, RenH σ h → ∀ id o, geth h id = some o → RenO σ o
 | [], _, id, o, h => by cases h
 | (i, x) :: r, h, id, o, hg => by
  simp only [geth] at hg
  split at hg
  ·cases hg; exact h.1
  ·exact RenH.get h.2 id o hg
theorem qati {X : Cx} {s : SSt} {N : Nat} {R : Hp → Prop} {hh hp' : Hp} {t : TypeId} {cs : List SV} (hR : R hh) (hN : 0 < N) (hroot : geth hh 0 = some (.cells t cs)) (hren : ∀ σ : Nat → Nat, (∀ i, i < N → σ i = i) → RenH σ hh) (hids : ∀ i ∈ idsH hh, i < N) (hsub : SubH s.hp hh) (h0 : geth hp' 0 = some (.abs (qaqn N R)))
  (hrest : ∀ id o, id ≠ 0 → geth hp' id = some o → geth s.hp id = some o ∧ geth hh id = none) : Wk X s ⟨s.sl, hp', s.nx⟩ := by
 intro ρ fp a w hs
 have hg := hsub.get
 let fp' : Nat → Nat → Prop := fun id k => (id = 0 ∧ Live hh fp k) ∨ (id ≠ 0 ∧ fp id k)
 have f0 : fp' 0 = Live hh fp := by funext k; simp [fp']
 have f1 : ∀ id, id ≠ 0 → fp' id = fp id := fun id h => by funext k; simp [fp', h]
 have hlive : ∀ k, Live hh fp k → Live s.hp fp k := fun k ⟨i, o, h1, h2⟩ => ⟨i, o, hg _ _ h1, h2⟩
 have hav : ∀ k, Av X hp' fp' k → Av X s.hp fp k := by
  rintro k (hO | ⟨id, o, ho, hk⟩)
  ·exact .inl hO
  ·by_cases e : id = 0
   ·subst e; rw [f0] at hk; exact .inr (hlive k hk)
   ·rw [f1 id e] at hk; exact .inr ⟨id, o, (hrest id o e ho).1, hk⟩
 let σ : Nat → Nat := fun i => if i < N then i else s.nx
 have hσ : ∀ {id o}, geth hh id = some o → id < N ∧ σ id = id := fun {id o} ho => by
  have := hids id (qack (by rw [ho]; simp))
  exact ⟨this, if_pos this⟩
 refine ⟨ρ, fp', ⟨⟨fun id o ho => ?_, fun id id' o o' hne ho ho' k hk hk' => ?_, fun id o ho k hk => ?_, hs.sim.h.step, hs.sim.h.keep⟩, hs.sim.tmps, hs.sim.defers, fun u => (hs.sim.slots u).weaken fun k hk _ => hav k hk⟩, hs.fresh, hs.le⟩
 ·by_cases e : id = 0
  ·subst e
   rw [h0] at ho; cases ho
   obtain ⟨b, c, vs, q1, _⟩ := hs.sim.h.objs 0 _ (hg _ _ hroot)
   refine ⟨b, c, q1, hh, fun i => ρ (σ i), fp, c, hR, by show ρ (σ 0) = _; rw [(hσ hroot).2]; exact q1, fun i hi => ?_, fun i o ho => ?_, fun i i' o o' hne ho ho' => hs.sim.h.disj i i' o o' hne (hg _ _ ho) (hg _ _ ho'), fun k ⟨i, o, ho, hk⟩ => (hs.sim.h.turn i o (hg _ _ ho) k hk).2, fun k => by rw [f0]⟩
   ·show ρ (if i < N then i else s.nx) = none
    rw [if_neg (by omega)]; exact hs.fresh _ (Nat.le_refl _)
   ·have h3 := hs.sim.h.objs i o (hg _ _ ho)
    have h6 := ((hren σ fun i hi => if_pos hi).get i o ho).objM
    have h8 : ObjRep w (Av X s.hp fp) ρ (σ i) (fp i) o := by rw [(hσ ho).2]; exact h3
    exact (h6.back h8).weaken fun k hk _ => hav k hk
  ·rw [f1 id e]
   exact (hs.sim.h.objs id o (hrest id o e ho).1).weaken fun k hk _ => hav k hk
 ·by_cases e : id = 0
  ·subst e
   rw [f0] at hk
   obtain ⟨i, oi, hi, hk⟩ := hk
   have e' : id' ≠ 0 := Ne.symm hne
   rw [f1 id' e'] at hk'
   obtain ⟨h1, h2⟩ := hrest id' o' e' ho'
   exact hs.sim.h.disj i id' oi o' (fun q => by rw [q, h2] at hi; cases hi) (hg _ _ hi) h1 k hk hk'
  ·rw [f1 id e] at hk
   obtain ⟨h1, h2⟩ := hrest id o e ho
   by_cases e' : id' = 0
   ·subst e'
    rw [f0] at hk'
    obtain ⟨i, oi, hi, hk'⟩ := hk'
    exact hs.sim.h.disj id i o oi (fun q => by rw [← q, h2] at hi; cases hi) h1 (hg _ _ hi) k hk hk'
   ·rw [f1 id' e'] at hk'
    exact hs.sim.h.disj id id' o o' hne h1 (hrest id' o' e' ho').1 k hk hk'
 ·by_cases e : id = 0
  ·subst e
   rw [f0] at hk
   obtain ⟨i, oi, hi, hk⟩ := hk
   exact hs.sim.h.turn i oi (hg _ _ hi) k hk
  ·rw [f1 id e] at hk
   exact hs.sim.h.turn id o (hrest id o e ho).1 k hk
theorem qadn {X : Cx} {N : Nat} {R : Hp → Prop} {c : SCode} {Q : SExit → SSt → Prop} {sl : Sl} (hm : X.m ≤ 1) (hN : 0 < N) (hroot : ∀ hh, R hh → (∃ t cs, geth hh 0 = some (.cells t cs)) ∧ RenH (fun i => if i = 0 then N else i) hh)
  (k : ∀ hh, R hh → SWp X c Q ⟨sl, hh, N⟩) : SWp X c Q ⟨sl, [(0, .abs (qaqn N R))], 1⟩ := fun code hc ρ fp a w hs => by
 obtain ⟨b, c0, hρ0, hh, ρh, fph, c1, hR, hρh0, hnone, hobj, hdis, hlt, hiff⟩ := hs.sim.h.objs 0 _ (show geth [(0, SObj.abs (qaqn N R))] 0 = some _ from rfl)
 obtain ⟨⟨t, cs, hr0⟩, hren⟩ := hroot hh hR
 let σ : Nat → Nat := fun i => if i = 0 then N else i
 let ρ' : qabr := fun id => if id = 0 then ρ 0 else ρh id
 have hρ' : ∀ id p, ρh (σ id) = some p → ρ' id = some p := fun id p hp => by
  by_cases e : id = 0
  ·have : σ id = N := if_pos e
   rw [this, hnone N (Nat.le_refl _)] at hp; cases hp
  ·have h1 : σ id = id := if_neg e
   rw [h1] at hp
   show (if id = 0 then _ else _) = _
   rw [if_neg e]; exact hp
 have hlv : ∀ k, Live hh fph k ↔ Live [(0, SObj.abs (qaqn N R))] fp k := fun k => by
  rw [← hiff k]
  constructor
  ·intro h; exact ⟨0, _, rfl, h⟩
  ·rintro ⟨id, o, ho, hk⟩
   simp only [geth] at ho
   split at ho
   ·rename_i e; subst e; exact hk
   ·cases ho
 have hav : ∀ k, Av X hh fph k → Av X [(0, SObj.abs (qaqn N R))] fp k := fun k hk => hk.imp (fun h => h) fun h => (hlv k).1 h
 refine k hh hR code hc ρ' fph a w ⟨⟨⟨fun id o ho => ?_, hdis, fun id o ho k hk => ?_, hs.sim.h.step, fun id hid => ?_⟩, hs.sim.tmps, hs.sim.defers, fun u => ?_⟩, fun id hid => ?_, by show X.m ≤ N; omega⟩
 ·have h1 := hobj id o ho
  have h2 := (hren.get id o ho).objM
  by_cases e : id = 0
  ·subst e
   rw [hr0] at ho; cases ho
   obtain ⟨b', c', vs, q1, q2, ⟨q3, q4⟩, q5⟩ := h1
   rw [hρh0] at q1; cases q1
   have q6 : Reps w _ (fun i => ρh (σ i)) cs vs := qac5 (by rw [show cs.map (Go.Proofs.Ytefkifebgeagiaa.ren σ) = cs from hren.get 0 _ hr0]; exact q3)
   refine ⟨b, c0, vs, ?_, q2, ⟨q6.mono (.refl _ _) (fun k hk _ => hav k hk) hρ', q4⟩, q5⟩
   show (if 0 = 0 then _ else _) = _
   rw [if_pos rfl]; exact hρ0
  ·have h8 : ObjRep w (Av X [(0, SObj.abs (qaqn N R))] fp) ρh (σ id) (fph id) o := by rw [show σ id = id from if_neg e]; exact h1
   exact (h2.back h8).mono ⟨.refl _ _, fun k hk _ => hav k hk, hρ'⟩ fun _ _ => rfl
 ·exact hs.sim.h.turn 0 _ rfl k ((hiff k).2 ⟨id, o, ho, hk⟩)
 ·have e : id = 0 := by omega
  subst e
  show (if 0 = 0 then _ else _) = _
  rw [if_pos rfl]; exact hs.sim.h.keep 0 hid
 ·refine (hs.sim.slots u).mono (.refl _ _) (fun k hk _ => hav k hk) fun id p hp => ?_
  by_cases e : id = 0
  ·subst e
   show (if 0 = 0 then _ else _) = _
   rw [if_pos rfl]; exact hp
  ·rw [hs.fresh id (by show 1 ≤ id; omega)] at hp; cases hp
 ·show (if id = 0 then _ else _) = _
  have : N ≤ id := hid
  rw [if_neg (by omega)]; exact hnone id this
end Go.Proofs.Ytefkifebgeagiaa
namespace Go.Proofs.Ytefkifebgeagiaa
set_option linter.all false
open Go.RowKit
def qace (P : Program) (t : TypeId) (nm : String) : Option (Option (FuncId × Bool)) := match P.info? t with
 | some i => match i.methods.find? (·.name == nm) with
  | some m => if m.path.isEmpty then some m.func else none
  | none => none
 | none => none
def isPtr (P : Program) (t : TypeId) : Option (Option TypeId) := match P.underlying t with
 | some (.pointer e) => some (some e)
 | some (.interface _) => none
 | some _ => some none
 | none => none
variable {P : Program} {g : Nat → Option SObj} {t : TypeId} {x : SV} {nm : String} {f : FuncId}
theorem qaje {b : Bool} (h : qace P t nm = some (some (f, b))) : ∃ i m, P.info? t = some i ∧ i.methods.find? (·.name == nm) = some m ∧ m.path = #[] ∧ m.func = some (f, b) := by
 unfold qace at h
 split at h
 ·rename_i i hi
  split at h
  ·rename_i m hm
   split at h
   ·rename_i hp
    exact ⟨i, m, hi, hm, by simpa using hp, by simpa using h⟩
   ·cases h
  ·cases h
 ·cases h
theorem qaev {e : TypeId} (h : qace P t nm = some (some (f, true))) (hp : isPtr P t = some (some e)) : Meth P g t x nm f x := fun w A ρ v hobj hx => by
 obtain ⟨i, m, h1, h2, h3, h4⟩ := qaje h
 refine ⟨v, ?_, hx⟩
 have hu : P.underlying t = some (.pointer e) := by
  unfold isPtr at hp
  split at hp <;> simp_all
 have hn : P.types.size + Made.depth = (P.types.size + 99) + 1 := rfl
 rw [hn]
 unfold method
 simp [typeInfo, h1, h2, h3, h4, follow, receiverAt, run_underlying hu, Place.get]
theorem wrap_ok (ts : Array TypeId) (ty : TypeId) (a : Addr) (s m : ByteArray) : Builtin.ssaWrapNilChk_ ts ty #[.pointer (some a), .string s, .string m] = pure (.pointer (some a)) := rfl
theorem qaqt {e u : TypeId} {id off : Nat} {cs : List SV} {c : SV} (h : qace P t nm = some (some (f, false))) (hp : isPtr P t = some (some e)) (hb : qae8 P e = some false) (hg : g id = some (.cells u cs)) (hc : cs[off]? = some c) : Meth P g t (.ptr id off) nm f c := fun w A ρ v hobj hx => by
 obtain ⟨i, m, h1, h2, h3, h4⟩ := qaje h
 have hu : P.underlying t = some (.pointer e) := by
  unfold isPtr at hp
  split at hp <;> simp_all
 obtain ⟨fp, b, c0, vs, hρ, hbl, ⟨hr, hone⟩, _⟩ := hobj _ _ hg
 cases hx with
 | ptr hρ2 =>
  rw [hρ2] at hρ; cases hρ
  obtain ⟨v', h5, h6⟩ := hr.get hc
  refine ⟨v', ?_, h6⟩
  have hcell : w.cell? ⟨b, off, none⟩ = some v' := by rw [hbl.cell]; simpa using h5
  have hn : P.types.size + Made.depth = (P.types.size + 99) + 1 := rfl
  rw [hn]
  unfold method
  simp [typeInfo, h1, h2, h3, h4, follow, receiverAt, run_underlying hu, Place.get, strVal, wrap_ok, asAddr, loadVar, qade hb w, load, Sem.run, hcell]
end Go.Proofs.Ytefkifebgeagiaa
namespace Go.Proofs.Ytefkifebgeagiaa
set_option linter.all false
open Go.RowKit
attribute [local simp] qaar qaaq qaac qaai qaad qaah qaao qaap qaab qaa5 SOp.run SX.ev putd puts argS upds SOp.touch SSt.keep SSt.skip gets geth puth delh idOf SV.cells? setL qab5 qab6 sbin eq0 eq1 eqL qab4 qabe qabf qaas qaat qaaa qaau qaa6 qaae qaal FrzOk qaa9 qaa1 qaa7 qaa8 qaav qaa0 qabc qaa2 qaax qaba qaaw frzS frzH frz frz1 frz0 SlotsM ObjsM ObjM rn ren ren1 ren0 qabl qab0 qab3 qabk qabd qabz qab2 CoL qabb qabu dels adds idsH qabn
theorem qajm {z : Nat} : ∀ (es : List (List SV)) (k : Nat), (∀ x ∈ es, x.length = z) → (es.take k).flatten = es.flatten.take (k * z)
 | [], k, _ => by simp
 | x :: es, 0, _ => by simp
 | x :: es, k + 1, h => by
  have hx := h x (by simp)
  have e1 : x.take ((k + 1) * z) = x := List.take_of_length_le (by rw [hx, Nat.succ_mul]; omega)
  have e2 : (k + 1) * z - z = k * z := by rw [Nat.succ_mul]; omega
  rw [List.take_succ_cons, List.flatten_cons, List.flatten_cons, qajm es k fun y hy => h y (by simp [hy]), List.take_append, hx, e1, e2]
theorem qaqa {X : Cx} {s : SSt} (id k : Nat) {e z : Nat} {es : List (List SV)} (h : geth s.hp id = some (.row e z es)) (hk : k ≤ es.length) : Wk X s ⟨s.sl, puth s.hp id (.row e z (es.take k)), s.nx⟩ := by
 intro ρ fp a w hs
 have hg : ∀ i o, geth (puth s.hp id (.row e z (es.take k))) i = some o → ∃ o', geth s.hp i = some o' := fun i o ho => by
  rw [qabv] at ho
  split at ho
  ·rename_i e1; subst e1; exact ⟨_, h⟩
  ·exact ⟨_, ho⟩
 have hav : ∀ j, Av X (puth s.hp id (.row e z (es.take k))) fp j → Av X s.hp fp j := fun j hj => hj.imp (fun h => h) fun ⟨i, o, h1, h2⟩ => by
  obtain ⟨o', h3⟩ := hg i o h1
  exact ⟨i, o', h3, h2⟩
 refine ⟨ρ, fp, ⟨⟨fun i o ho => ?_, fun i i' o o' hne ho ho' => ?_, fun i o ho => ?_, hs.sim.h.step, hs.sim.h.keep⟩, hs.sim.tmps, hs.sim.defers, fun u => (hs.sim.slots u).weaken fun j hj _ => hav j hj⟩, hs.fresh, hs.le⟩
 ·rw [qabv] at ho
  split at ho
  ·rename_i e1; subst e1; cases ho
   obtain ⟨v, vs, h1, ⟨h2, h3⟩, h4, h5, h6⟩ := hs.sim.h.objs _ _ h
   have hf := qajm es k h4
   have hr : Reps w (Av X s.hp fp) ρ (es.take k).flatten (vs.take (k * z)) := by
    rw [hf]
    refine ⟨by rw [List.length_take, List.length_take, h2.1], fun j x u hx hu => ?_⟩
    rw [List.getElem?_take] at hx hu
    split at hx
    ·rename_i hj
     rw [if_pos hj] at hu
     exact h2.2 j x u hx hu
    ·cases hx
   have ho : Ones (vs.take (k * z)) := fun u hu => h3 u (List.mem_of_mem_take hu)
   have hl : (es.take k).length = k := by rw [List.length_take]; omega
   obtain ⟨q1, q2⟩ := h1
   have hlv : (vs.take (k * z)).length = k * z := by rw [List.length_take, q1]; exact Nat.min_eq_left (Nat.mul_le_mul_right _ hk)
   rcases q2 with ⟨rfl, hn⟩ | ⟨g, cap, cur, rfl, g1, g2, g3, g4, g5, g6⟩
   ·exact ⟨_, vs.take (k * z), by rw [hl]; exact ⟨hlv, .inl ⟨rfl, by omega⟩⟩, ⟨hr.mono (.refl _ _) (fun j hj _ => hav j hj) fun _ _ h => h, ho⟩, fun x hx => h4 x (List.mem_of_mem_take hx), h5, h6⟩
   ·have hc : cur.toList.take (k * z) = vs.take (k * z) := by rw [← g6, List.take_take, Nat.min_eq_left (Nat.mul_le_mul_right _ hk)]
    have how : w.ownsRow 0 e z (.slice (some ⟨g, 0, none⟩) k cap) (es.take k).length (vs.take (k * z)) := by
     rw [hl]; exact ⟨hlv, .inr ⟨g, cap, cur, rfl, g1, g2, by omega, g4, g5, hc⟩⟩
    exact ⟨_, vs.take (k * z), how, ⟨hr.mono (.refl _ _) (fun j hj _ => hav j hj) fun _ _ h => h, ho⟩, fun x hx => h4 x (List.mem_of_mem_take hx), h5, h6⟩
  ·exact (hs.sim.h.objs i o ho).weaken fun j hj _ => hav j hj
 ·obtain ⟨p, h1⟩ := hg i o ho
  obtain ⟨p', h2⟩ := hg i' o' ho'
  exact hs.sim.h.disj i i' p p' hne h1 h2
 ·obtain ⟨p, h1⟩ := hg i o ho
  exact hs.sim.h.turn i p h1
instance : PureF qaag := ⟨fun _ _ => rfl, fun _ => rfl, qamg⟩
abbrev qacl := Option (Int × Int)
def hcs : qacl → Nat → List SV
 | none, n => [.own 1 n]
 | some (k, m), n => [.int .i64 k, .int .i64 m, .own 1 n]
def hoff : qacl → Nat
 | none => 0
 | some _ => 2
def hty : qacl → TypeId
 | none => 68
 | some _ => 70
def hobj (c : qacl) (l : List Entry) : Hp := [(0, .cells (hty c) (hcs c l.length)), (1, .row 29 6 (l.map qaag))]
theorem qago (c : qacl) (n : Nat) {σ : Nat → Nat} (h : σ 1 = 1) : (hcs c n).map (Go.Proofs.Ytefkifebgeagiaa.ren σ) = hcs c n := by
 rcases c with _ | ⟨k, m⟩ <;> simp [hcs, Go.Proofs.Ytefkifebgeagiaa.ren, ren1, ren0, h]
theorem qacv (c : qacl) (n : Nat) {σ : Nat → Nat} (h : σ 1 = 1) : CoL (hcs c n) ((hcs c n).map (Go.Proofs.Ytefkifebgeagiaa.ren σ)) := by rw [qago c n h]; exact CoL.refl _
theorem hcs_get (c : qacl) (n : Nat) : (hcs c n)[hoff c]? = some (.own 1 n) := by rcases c with _ | ⟨k, m⟩ <;> rfl
theorem hcs_ok (c : qacl) (n : Nat) : (hcs c n).all ok2 = true := by rcases c with _ | ⟨k, m⟩ <;> rfl
theorem qagn (c : qacl) (l : List Entry) : LtH 2 (hobj c l) := ⟨by decide, qago c _ rfl, by decide, qabp _ _ _, trivial⟩
theorem h_up {f : FuncId} {args : List SV} {r : SV} {c : qacl} {l l' : List Entry} (h : SCalls Try.prog f args (hobj c l) 2 r (hobj c l')) (q : Nat) (hq : 2 ≤ q) (ha : args = args.map (Go.Proofs.Ytefkifebgeagiaa.ren (sg [0, 1] q))) (hr : r = Go.Proofs.Ytefkifebgeagiaa.ren (sg [0, 1] q) r) (hk : ok2 r = true) : SCalls Try.prog f args (hobj c l) q r (hobj c l') :=
 qaci [0, 1] h rfl (by decide) (by intro i hi; simp at hi; omega) ha ⟨⟨_, rfl, rfl, qacv c _ rfl⟩, ⟨_, rfl, rfl, rfl, by rw [qabp]; exact CoLL.refl _⟩, trivial⟩ (by simp [idsH, hobj]) hr hk ⟨⟨_, rfl, rfl, hcs_ok c _, (qago c _ rfl).symm⟩, ⟨_, rfl, rfl, rfl, qaff _ _, (qabp _ _ _).symm⟩, trivial⟩ (by simp [idsH, hobj]) (by simp [idsH, hobj]; exact ⟨rfl, rfl⟩)
theorem qau7 {X : Cx} {s : SSt} {c : qacl} {l : List Entry} {t : Nat} {r : SV} (hr : (∃ b, r = .bool b) ∨ (∃ n, r = .int .i64 n) ∨ ∃ e, r = .ifc 29 (.agg (qaag e))) (hw : Wk X s ⟨[(t, r)], hobj c l, 2⟩) : QFun X [.tmp t] 2 r (hobj c l) .ret s :=
 ⟨_, hw, by rcases hr with ⟨b, rfl⟩ | ⟨n, rfl⟩ | ⟨e, rfl⟩ <;> simp [qafw, resL, resV, one_, gets], ⟨rfl, rfl, trivial⟩, by simp⟩
theorem fin_ghv {X : Cx} {s : SSt} {c : qacl} {l : List Entry} {x : SExit} (hx : x = .ret ∨ x = .normal) (hw : Wk X s ⟨[], hobj c l, 2⟩) : QFun X [] 2 (.tup []) (hobj c l) x s := by
 rcases hx with rfl | rfl <;> exact ⟨_, hw, rfl, ⟨rfl, rfl, trivial⟩, by simp⟩
theorem qaio (e : Entry) (x : List SV) (h : x.length = 6) : setL x 0 (qaag e) = qaag e := by
 match x, h with
 | [_, _, _, _, _, _], _ => rfl
theorem ec_len6 {l : List Entry} {i j : Nat} {e : Entry} (h : j < ((l.map qaag).set i (qaag e)).length) : (((l.map qaag).set i (qaag e))[j]).length = 6 := by
 rw [List.getElem_set]
 split
 ·rfl
 ·rw [List.getElem_map]; rfl
end Go.Proofs.Ytefkifebgeagiaa
namespace Go.Proofs.Ytefkifebgeagiaa
set_option linter.all false
open Go.RowKit
attribute [local simp] qaar qaaq qaac qaai qaad qaah qaao qaap qaab qaa5 SOp.run SX.ev putd puts argS upds SOp.touch SSt.keep SSt.skip gets geth puth delh idOf SV.cells? setL qab5 qab6 sbin eq0 eq1 eqL qab4 qabe qabf qaas qaat qaaa qaau qaa6 qaae qaal FrzOk qaa9 qaa1 qaa7 qaa8 qaav qaa0 qabc qaa2 qaax qaba qaaw frzS frzH frz frz1 frz0 SlotsM ObjsM ObjM rn ren ren1 ren0 qabl qab0 qab3 qabk qabd qabz qab2 CoL qabb qabu dels adds idsH qabn
theorem rlen_s (c : qacl) (l : List Entry) (q : Nat) (hq : 2 ≤ q) : SCalls Try.prog 103 [.own 1 l.length] (hobj c l) q (.int .i64 l.length) (hobj c l) := by
 refine h_up ?_ q hq rfl rfl rfl
 refine qaan (N := 5) Try.func103 rfl rfl (by kernel_rfl) qaiw (by simp) (by repeat' (first | exact trivial | refine And.intro ?_ ?_ | rfl | decide | exact PureR.ren _)) (qagn c l) ?_
 rintro X hP hN hm
 unfold c_rwlen hobj
 repeat' (first | (with_reducible refine zA ?_) | ((with_reducible refine qaaf ?_); (try rw [hP]); simp -implicitDefEqProofs [*]) | ((with_reducible refine qaay ?_); (try simp only [qaas, qaaa, qaae])) | ((with_reducible refine qaa3 [] hm ?_ ?_ ?_ ?_) <;> (try simp only [zT, puth, Nat.reduceEqDiff, reduceIte, Nat.reduceAdd])) | (with_reducible first | refine za ?_ ?_ | refine zb ?_ ?_ ?_ ?_ | refine zc ?_ ?_ ?_ ?_) | (with_reducible first | exact qaaj | exact qaam) | ((with_reducible first | refine zga ?_ | refine zgb ?_); rfl) | ((with_reducible refine zgc ?_); (first | (with_reducible rfl) | rfl | (simp; done))) | ((with_reducible refine zgd ?_); (first | omega | (simp; done))) | (exact Co.refl _) | ((refine qau7 (.inr (.inl ⟨_, rfl⟩)) ?_; simp only [hobj])) | (exact qacv _ _ rfl) | fail)
 all_goals trace_state
theorem rless_s (c : qacl) (l : List Entry) (hs : ∀ x ∈ l, qacb x) (i j : Nat) (hi : i < l.length) (hj : j < l.length) (q : Nat) (hq : 2 ≤ q) : SCalls Try.prog 104 [.own 1 l.length, .int .i64 i, .int .i64 j] (hobj c l) q (.bool (decide (ordE l[i] l[j] < 0))) (hobj c l) := by
 refine h_up ?_ q hq rfl rfl rfl
 refine qaan (N := 17) Try.func104 rfl rfl (by kernel_rfl) qagy (by simp) (by repeat' (first | exact trivial | refine And.intro ?_ ?_ | rfl | decide | exact PureR.ren _)) (qagn c l) ?_
 rintro X hP hN hm
 have k1 := fun q => qatu l[i] l[j] (hs _ (List.getElem_mem hi)) (hs _ (List.getElem_mem hj)) q
 replace hs := Lib.hid hs
 unfold c_rwless hobj
 repeat' (first | (with_reducible first | refine zA ?_ | refine zK ?_) | ((with_reducible first | refine qaaf ?_ | refine qabs (by rw [hP]; exact qaf0) ?_); (try rw [hP]); simp -implicitDefEqProofs [List.getElem?_eq_getElem hi, List.getElem?_eq_getElem hj, qaec, qac0, *]) | ((with_reducible refine qaay ?_); (try simp only [qaas, qaaa, qaae])) | (refine qacc (k1 _) ?_; simp -implicitDefEqProofs [List.getElem?_eq_getElem hi, List.getElem?_eq_getElem hj, qaec, qac0, *]) | ((with_reducible refine qaa3 [] hm ?_ ?_ ?_ ?_) <;> (try simp only [zT, puth, Nat.reduceEqDiff, reduceIte, Nat.reduceAdd])) | (with_reducible first | refine za ?_ ?_ | refine zb ?_ ?_ ?_ ?_ | refine zc ?_ ?_ ?_ ?_) | (with_reducible first | exact qaaj | exact qaam) | ((with_reducible first | refine zga ?_ | refine zgb ?_); rfl) | ((with_reducible refine zgc ?_); (first | (with_reducible rfl) | rfl | (simp; done))) | ((with_reducible refine zgd ?_); (first | omega | (simp; done))) | (exact Co.refl _) | ((refine qau7 (.inl ⟨_, rfl⟩) ?_; simp only [hobj])) | (exact qacv _ _ rfl) | fail)
 all_goals trace_state
theorem rswap_s (c : qacl) (l : List Entry) (i j : Nat) (hi : i < l.length) (hj : j < l.length) (q : Nat) (hq : 2 ≤ q) : SCalls Try.prog 105 [.own 1 l.length, .int .i64 i, .int .i64 j] (hobj c l) q (.tup []) (hobj c ((l.set i l[j]).set j l[i])) := by
 refine h_up ?_ q hq rfl rfl rfl
 obtain ⟨R, hR⟩ : ∃ R, R = (l.set i l[j]).set j l[i] := ⟨_, rfl⟩
 rw [← hR]
 have hl : R.length = l.length := by rw [hR]; simp
 have hm2 : R.map qaag = ((l.map qaag).set i (qaag l[j])).set j (qaag l[i]) := by rw [hR]; simp
 replace hl := Lib.hid hl
 replace hm2 := Lib.hid hm2
 replace hR := Lib.hid hR
 refine qaan (N := 20) Try.func105 rfl rfl (by kernel_rfl) qagw (by simp) (by repeat' (first | exact trivial | refine And.intro ?_ ?_ | rfl | decide | exact PureR.ren _)) (qagn c l) ?_
 rintro X hP hN hm
 unfold c_rwswap hobj
 repeat' (first | (with_reducible refine zK ?_) | ((with_reducible refine qabs (by rw [hP]; exact qaf0) ?_); (try rw [hP]); simp -implicitDefEqProofs [List.getElem?_eq_getElem hi, List.getElem?_eq_getElem hj, qaec, qac0, qaio, ec_len6, *]) | ((with_reducible refine qaa3 [] hm ?_ ?_ ?_ ?_) <;> (try simp only [zT, puth, Nat.reduceEqDiff, reduceIte, Nat.reduceAdd])) | (with_reducible first | refine zb ?_ ?_ ?_ ?_ | refine zc ?_ ?_ ?_ ?_) | (with_reducible first | exact qaaj | exact qaam) | ((with_reducible first | refine zga ?_ | refine zgb ?_); rfl) | ((with_reducible refine zgd ?_); (first | omega | (simp; done))) | ((refine fin_ghv (.inr rfl) ?_; simp only [hobj])) | ((rw [hl.out]; exact qacv _ _ rfl)) | fail)
 all_goals exact hm2.out.symm
theorem qamc {X : Cx} {rs : List ResultVar} {m : Nat} {r : SV} {h2 : Hp} {s s1 : SSt} (hw : Wk X s s1) (h : QFun X rs m r h2 .ret s1) : QFun X rs m r h2 .ret s := by
 obtain ⟨s', h1, h2, h3, h4⟩ := h
 exact ⟨s', hw.trans h1, h2, h3, h4⟩
instance pureR_snoc {α : Type} (f : α → List SV) [PureF f] (L : List α) (x : α) : PureR (L.map f ++ [f x]) := by
 have e : L.map f ++ [f x] = (L ++ [x]).map f := by simp
 rw [e]
 exact ⟨fun σ => qabp f σ _, qaff f _, qaee f _⟩
theorem rpop_s (c : qacl) (L : List Entry) (x : Entry) (hl : L.length + 1 ≤ 1000000) (q : Nat) (hq : 2 ≤ q) : SCalls Try.prog 106 [.ptr 0 (hoff c)] (hobj c (L ++ [x])) q (.ifc 29 (.agg (qaag x))) (hobj c L) := by
 refine h_up ?_ q hq rfl rfl rfl
 have hlen : (L ++ [x]).length = L.length + 1 := by simp
 have hrow : (L ++ [x]).map qaag = L.map qaag ++ [qaag x] := by simp
 rw [show hobj c (L ++ [x]) = [(0, .cells (hty c) (hcs c (L.length + 1))), (1, .row 29 6 (L.map qaag ++ [qaag x]))] by unfold hobj; rw [hlen, hrow]]
 have wi : IntKind.i64.wrap (L.length : Int) = L.length := by simp [IntKind.wrap, IntKind.bits, IntKind.signed, Int.bmod]; omega
 have hg : (L.map qaag ++ [qaag x])[L.length]? = some (qaag x) := by rw [List.getElem?_append_right (by simp)]; simp
 have htk : (L.map qaag ++ [qaag x]).take L.length = L.map qaag := by rw [List.take_append_of_le_length (by simp)]; exact List.take_of_length_le (by simp)
 rcases c with _ | ⟨k, m⟩
 all_goals
  refine qaan (N := 25) Try.func106 rfl rfl (by kernel_rfl) qaiv (by simp) (by repeat' (first | exact trivial | refine And.intro ?_ ?_ | rfl | decide | exact PureR.ren _)) (by repeat' (first | exact trivial | refine And.intro ?_ ?_ | rfl | decide | exact PureR.ren _)) ?_
  rintro X hP hN hm
  unfold c_rwpop hcs hty hoff
  repeat' (first | (with_reducible refine zA ?_) | ((with_reducible refine qaaf ?_); (try rw [hP]); simp -implicitDefEqProofs [wi, hg, qaec, qac0, qaio, *]) | ((with_reducible refine qaay ?_); (try simp only [qaas, qaaa, qaae])) | ((with_reducible refine qafv ?_ ?_); (first | omega | (unfold maxLen; omega)); simp -implicitDefEqProofs [wi, hg, qaec, qac0, qaio, *]) | ((with_reducible refine qaa3 [] hm ?_ ?_ ?_ ?_) <;> (try simp only [zT, puth, Nat.reduceEqDiff, reduceIte, Nat.reduceAdd])) | (with_reducible first | refine za ?_ ?_ | refine zb ?_ ?_ ?_ ?_ | refine zc ?_ ?_ ?_ ?_) | (with_reducible first | exact qaaj | exact qaam) | ((with_reducible first | refine zga ?_ | refine zgb ?_); rfl) | ((with_reducible refine zgc ?_); (first | (with_reducible rfl) | rfl | (simp; done))) | ((with_reducible refine zgd ?_); (first | omega | (simp; done))) | (exact Co.refl _) | (exact CoL.refl _) | ((refine qamc (qaqa 1 L.length rfl ?_) ?_; rotate_left; rw [htk]; refine qau7 (.inr (.inr ⟨_, rfl⟩)) ?_; simp only [hobj, hcs, puth])) | fail)
  all_goals trace_state
end Go.Proofs.Ytefkifebgeagiaa
namespace Go.Proofs.Ytefkifebgeagiaa
set_option linter.all false
open Go.RowKit
attribute [local simp] qaar qaaq qaac qaai qaad qaah qaao qaap qaab qaa5 SOp.run SX.ev putd puts argS upds SOp.touch SSt.keep SSt.skip gets geth puth delh idOf SV.cells? setL qab5 qab6 sbin eq0 eq1 eqL qab4 qabe qabf qaas qaat qaaa qaau qaa6 qaae qaal FrzOk qaa9 qaa1 qaa7 qaa8 qaav qaa0 qabc qaa2 qaax qaba qaaw frzS frzH frz frz1 frz0 SlotsM ObjsM ObjM rn ren ren1 ren0 qabl qab0 qab3 qabk qabd qabz qab2 CoL qabb qabu dels adds idsH qabn
def qacq (c : qacl) (l : List Entry) : AbsI := qaqn 2 fun h => h = hobj c l
theorem qadr (c : qacl) (l : List Entry) {σ : Nat → Nat} (h : σ 1 = 1) : RenH σ (hobj c l) := ⟨qago c _ h, qabp _ _ _, trivial⟩
theorem qaej (c : qacl) (l : List Entry) : ∀ hh, hh = hobj c l → (∃ t cs, geth hh 0 = some (.cells t cs)) ∧ RenH (fun i => if i = 0 then 2 else i) hh := fun hh h => by
 subst h
 exact ⟨⟨_, _, rfl⟩, qadr c l rfl⟩
theorem qahv {X : Cx} {s : SSt} {c : qacl} {l : List Entry} (hs : SubH s.hp (hobj c l)) : Wk X s ⟨s.sl, [(0, .abs (qacq c l))], s.nx⟩ :=
 qati (hh := hobj c l) (R := fun h => h = hobj c l) rfl (by decide) rfl (fun σ h => qadr c l (h 1 (by decide))) (by simp [idsH, hobj]) hs rfl (fun id o' h ho => by simp only [geth, if_neg (Ne.symm h)] at ho; cases ho)
theorem qat7 {X : Cx} {s : SSt} {c : qacl} {l : List Entry} {e : SExit} (he : e = .ret ∨ e = .normal) (hm : X.m = 1) (hw : Wk X s ⟨[], hobj c l, 2⟩) : QFun X [] 1 (.tup []) [(0, .abs (qacq c l))] e s := by
 have h1 : Wk X s ⟨[], [(0, .abs (qacq c l))], 2⟩ := hw.trans (qahv ⟨rfl, rfl, trivial⟩)
 have h2 : Wk X ⟨[], [(0, .abs (qacq c l))], 2⟩ ⟨[], [(0, .abs (qacq c l))], 1⟩ := qaa3 [] hm trivial ⟨⟨_, rfl, rfl⟩, trivial⟩ rfl (Nat.le_refl _)
 rcases he with rfl | rfl <;> exact ⟨_, h1.trans h2, rfl, ⟨rfl, trivial⟩, by simp⟩
theorem rpush_s (c : qacl) (l : List Entry) (e : Entry) (hl : l.length < 1000000) : SCalls Try.prog 107 [.ptr 0 (hoff c), .ifc 29 (.agg (qaag e))] [(0, .abs (qacq c l))] 1 (.tup []) [(0, .abs (qacq c (l ++ [e])))] := by
 refine qaan (N := 20) Try.func107 rfl rfl (by kernel_rfl) qagx (by simp) (by repeat' (first | exact trivial | refine And.intro ?_ ?_ | rfl | decide | exact PureR.ren _)) (by repeat' (first | exact trivial | refine And.intro ?_ ?_ | rfl | decide | exact PureR.ren _)) ?_
 rintro X hP hN hm
 refine qadn (by omega) (by decide) (qaej c l) fun hh h => ?_
 subst h
 unfold c_rwpush hobj
 have b1 : l.length + 1 ≤ maxLen := by unfold maxLen; omega
 have b2 : (l.length + 1) * 96 ≤ 140737488355328 := by omega
 rcases c with _ | ⟨k, m⟩
 all_goals
  unfold hcs hty hoff
  repeat' (first | (with_reducible first | refine zA ?_ | refine zK ?_) | ((with_reducible first | refine qaaf ?_ | refine qabs (by rw [hP]; exact qaf0) ?_); (try rw [hP]); simp -implicitDefEqProofs [b1, b2, qaec, qac0, qaio, *]) | ((with_reducible refine qaak rfl (fun h => ?_) (fun h => ?_)) <;> have h' := h <;> (try simp at h') <;> (try subst h')) | (refine qat7 (.inr rfl) hm (qaa3 [(1, 17)] hm trivial ⟨⟨_, rfl, rfl, ?_⟩, ⟨_, rfl, rfl, rfl, ?_⟩, trivial⟩ rfl (by simp))) | fail)
  all_goals first | (rw [List.length_append]; exact CoL.refl _) | (rw [qabp, List.map_append]; exact CoLL.refl _) | trace_state
end Go.Proofs.Ytefkifebgeagiaa
namespace Go.Proofs.Ytefkifebgeagiaa
set_option linter.all false
open Go.RowKit
def qaeb (l : List Entry) (i j : Nat) : Bool := match l[i]?, l[j]? with
 | some a, some b => decide (ordE a b < 0)
 | _, _ => false
def qach (l : List Entry) (i j : Nat) : List Entry := match l[i]?, l[j]? with
 | some a, some b => (l.set i b).set j a
 | _, _ => l
def upL : Nat → List Entry → Nat → List Entry
 | 0, l, _ => l
 | f + 1, l, j => if (j - 1) / 2 = j ∨ qaeb l j ((j - 1) / 2) = false then l else upL f (qach l ((j - 1) / 2) j) ((j - 1) / 2)
def sonL (l : List Entry) (i n : Nat) : Nat := if 2 * i + 1 + 1 < n ∧ qaeb l (2 * i + 1 + 1) (2 * i + 1) = true then 2 * i + 1 + 1 else 2 * i + 1
def qac2 : Nat → List Entry → Nat → Nat → List Entry × Nat
 | 0, l, i, _ => (l, i)
 | f + 1, l, i, n => if n ≤ 2 * i + 1 ∨ qaeb l (sonL l i n) i = false then (l, i) else qac2 f (qach l i (sonL l i n)) (sonL l i n) n
theorem qamw {l : List Entry} {i j : Nat} (hi : i < l.length) (hj : j < l.length) : qaeb l i j = decide (ordE l[i] l[j] < 0) := by
 unfold qaeb; rw [List.getElem?_eq_getElem hi, List.getElem?_eq_getElem hj]
theorem qah2 {l : List Entry} {i j : Nat} (hi : i < l.length) (hj : j < l.length) : qach l i j = (l.set i l[j]).set j l[i] := by
 unfold qach; rw [List.getElem?_eq_getElem hi, List.getElem?_eq_getElem hj]
theorem qacf (l : List Entry) (i j : Nat) : (qach l i j).length = l.length := by
 unfold qach; split <;> simp
theorem qaqm {l : List Entry} {i j : Nat} (hi : i < l.length) (hj : j < l.length) : ((l.set i l[j]).set j l[i]).Perm l := List.set_set_perm hi hj
theorem qab7 (l : List Entry) (i j : Nat) : (qach l i j).Perm l := by
 by_cases hi : i < l.length
 ·by_cases hj : j < l.length
  ·rw [qah2 hi hj]; exact qaqm hi hj
  ·unfold qach; rw [List.getElem?_eq_none (by omega : l.length ≤ j)]; split <;> first | exact .refl _ | simp_all
 ·unfold qach; rw [List.getElem?_eq_none (by omega : l.length ≤ i)]
theorem qaeq : ∀ (f : Nat) (l : List Entry) (j : Nat), (upL f l j).Perm l
 | 0, l, j => .refl _
 | f + 1, l, j => by
  rw [upL]; split
  ·exact .refl _
  ·exact (qaeq f _ _).trans (qab7 _ _ _)
theorem qalr : ∀ (f g : Nat) (l : List Entry) (j : Nat), j < f → j < g → upL f l j = upL g l j
 | f + 1, g + 1, l, j, hf, hg => by
  rw [upL, upL]
  by_cases h : (j - 1) / 2 = j ∨ qaeb l j ((j - 1) / 2) = false
  ·rw [if_pos h, if_pos h]
  ·rw [if_neg h, if_neg h]
   have : (j - 1) / 2 ≠ j := fun e => h (.inl e)
   exact qalr f g _ _ (by omega) (by omega)
theorem qab8 : ∀ (f : Nat) (l : List Entry) (i n : Nat), (qac2 f l i n).1.Perm l
 | 0, l, i, n => .refl _
 | f + 1, l, i, n => by
  rw [qac2]; split
  ·exact .refl _
  ·exact (qab8 f _ _ _).trans (qab7 _ _ _)
theorem qage (l : List Entry) (i n : Nat) (h : 2 * i + 1 < n) : i < sonL l i n ∧ sonL l i n < n := by
 unfold sonL; split <;> omega
theorem qagq : ∀ (f g : Nat) (l : List Entry) (i n : Nat), n - i < f → n - i < g → qac2 f l i n = qac2 g l i n
 | f + 1, g + 1, l, i, n, hf, hg => by
  rw [qac2, qac2]
  by_cases h : n ≤ 2 * i + 1 ∨ qaeb l (sonL l i n) i = false
  ·rw [if_pos h, if_pos h]
  ·rw [if_neg h, if_neg h]
   have h1 : 2 * i + 1 < n := Nat.lt_of_not_le fun e => h (.inl e)
   have h2 := qage l i n h1
   exact qagq f g _ _ _ (by omega) (by omega)
end Go.Proofs.Ytefkifebgeagiaa
namespace Go.Proofs.Ytefkifebgeagiaa
set_option linter.all false
open Go.RowKit
attribute [local simp] qaar qaaq qaac qaai qaad qaah qaao qaap qaab qaa5 SOp.run SX.ev putd puts argS upds SOp.touch SSt.keep SSt.skip gets geth puth delh idOf SV.cells? setL qab5 qab6 sbin eq0 eq1 eqL qab4 qabe qabf qaas qaat qaaa qaau qaa6 qaae qaal FrzOk qaa9 qaa1 qaa7 qaa8 qaav qaa0 qabc qaa2 qaax qaba qaaw frzS frzH frz frz1 frz0 SlotsM ObjsM ObjM rn ren ren1 ren0 qabl qab0 qab3 qabk qabd qabz qab2 CoL qabb qabu dels adds idsH qabn
theorem m_len : qace Try.prog 73 "Len" = some (some (103, false)) := by kernel_rfl
theorem qaj9 : qace Try.prog 73 "Less" = some (some (104, false)) := by kernel_rfl
theorem qamv : qace Try.prog 73 "Swap" = some (some (105, false)) := by kernel_rfl
theorem m_push : qace Try.prog 73 "Push" = some (some (107, true)) := by kernel_rfl
theorem m_pop : qace Try.prog 73 "Pop" = some (some (106, true)) := by kernel_rfl
theorem qav3 : isPtr Try.prog 73 = some (some 68) := by kernel_rfl
theorem a_row : qae8 Try.prog 68 = some false := by kernel_rfl
attribute [local irreducible] qace
abbrev hobn (c : qacl) (n : Nat) (l : List Entry) : Hp := [(0, .cells (hty c) (hcs c n)), (1, .row 29 6 (l.map qaag))]
theorem qaca {c : qacl} {n : Nat} {l : List Entry} (h : l.length = n) : hobj c l = hobn c n l := by subst h; rfl
theorem qafj (c : qacl) (n : Nat) (l : List Entry) : LtH 2 (hobn c n l) := ⟨by decide, qago c _ rfl, by decide, qabp _ _ _, trivial⟩
theorem qal8 (c : qacl) (n : Nat) (l : List Entry) (hl : l.length = n) (hs : ∀ x ∈ l, qacb x) (i j : Nat) (hi : i < n) (hj : j < n) (q : Nat) (hq : 2 ≤ q) : SCalls Try.prog 104 [.own 1 n, .int .i64 i, .int .i64 j] (hobn c n l) q (.bool (qaeb l i j)) (hobn c n l) := by
 subst hl; rw [qamw hi hj]; exact rless_s c l hs i j hi hj q hq
theorem qai9 (c : qacl) (n : Nat) (l : List Entry) (hl : l.length = n) (i j : Nat) (hi : i < n) (hj : j < n) (q : Nat) (hq : 2 ≤ q) : SCalls Try.prog 105 [.own 1 n, .int .i64 i, .int .i64 j] (hobn c n l) q (.tup []) (hobn c n (qach l i j)) := by
 have h := rswap_s c l i j (by omega) (by omega) q hq
 rw [← qah2 (by omega) (by omega), qaca (c := c) (n := n) (l := qach l i j) (by rw [qacf, hl]), qaca hl, hl] at h
 exact h
theorem qacd {c : qacl} {n : Nat} {nm : String} {f : FuncId} (h : qace Try.prog 73 nm = some (some (f, false))) : Meth Try.prog (geth [(0, .cells (hty c) (hcs c n))]) 73 (.ptr 0 (hoff c)) nm f (.own 1 n) := qaqt h qav3 a_row rfl (hcs_get c n)
theorem qat5 {X : Cx} {s : SSt} {c : qacl} {n : Nat} {l : List Entry} {x : SExit} (hx : x = .ret ∨ x = .normal) (hw : Wk X s ⟨[], hobn c n l, 2⟩) : QFun X [] 2 (.tup []) (hobn c n l) x s := by
 rcases hx with rfl | rfl <;> exact ⟨_, hw, rfl, ⟨rfl, rfl, trivial⟩, by simp⟩
theorem par_eq (i : Nat) : ((i : Int) - 1).tdiv 2 = (((i - 1) / 2 : Nat) : Int) := by
 cases i with
 | zero => rfl
 | succ i =>
  have e : ((i + 1 : Nat) : Int) - 1 = (i : Int) := by omega
  rw [e, Nat.add_sub_cancel]; rfl
theorem qadm (x : Int) (h1 : -9223372036854775808 ≤ x) (h2 : x ≤ 9223372036854775807) : IntKind.i64.wrap x = x := IntWalk.i64_in _ ⟨h1, h2⟩
theorem up_s (c : qacl) (l : List Entry) (j : Nat) (hj : j < l.length) (hb : l.length ≤ 1000000) (hs : ∀ x ∈ l, qacb x) (q : Nat) (hq : 2 ≤ q) : SCalls Try.prog 55 [.ifc 73 (.ptr 0 (hoff c)), .int .i64 j] (hobj c l) q (.tup []) (hobj c (upL (j + 1) l j)) := by
 refine h_up ?_ q hq rfl rfl rfl
 obtain ⟨F, hF⟩ : ∃ F, F = upL (j + 1) l j := ⟨_, rfl⟩
 have hFl : F.length = l.length := by rw [hF]; exact (qaeq _ _ _).length_eq
 rw [← hF, qaca hFl, qaca (c := c) (l := l) rfl]
 generalize hn : l.length = n at hj hb hFl
 replace hF := Lib.hid hF
 replace hFl := Lib.hid hFl
 replace hs := Lib.hid hs
 replace hn := Lib.hid hn
 refine qaan (N := 23) Try.func55 rfl rfl (by kernel_rfl) qand (by simp) (by repeat' (first | exact trivial | refine And.intro ?_ ?_ | rfl | decide | exact PureR.ren _)) (qafj c n l) ?_
 rintro X hP hN hm
 unfold c_hup
 show SWp X (.block 0 (.loop qai2)) _ ⟨[(0, .ifc 73 (.ptr 0 (hoff c))), (1, .int .i64 j)], _, _⟩
 refine qabm (qacz (fun s (x : Nat × List Entry) => s.turn [(1, .int .i64 x.1)] [(1, .row 29 6 (x.2.map qaag))]) (fun x => x.1 < n ∧ x.2.length = n ∧ (∀ e ∈ x.2, qacb e) ∧ F = upL (x.1 + 1) x.2 x.1) (fun x => x.1) (j, l) ?_ ⟨hj, hn.out, hs.out, hF.out⟩ ?_)
 ·repeat' (first | ((with_reducible refine qaa3 [] hm ?_ ?_ ?_ ?_) <;> (try simp only [zT, puth, Nat.reduceEqDiff, reduceIte, Nat.reduceAdd])) | (with_reducible first | refine za ?_ ?_ | refine zb ?_ ?_ ?_ ?_ | refine zc ?_ ?_ ?_ ?_) | (with_reducible first | exact qaaj | exact qaam) | ((with_reducible first | refine zga ?_ | refine zgb ?_); rfl) | ((with_reducible refine zgc ?_); (first | (with_reducible rfl) | rfl | (simp; done))) | ((with_reducible refine zgd ?_); (first | omega | (simp; done))) | (exact Co.refl _) | fail)
  all_goals exact qacv _ _ rfl
 rintro J hJ ⟨i, L⟩ ⟨h1, h2, h3, h4⟩
 unfold qai2
 simp only [zT, puth, Nat.reduceEqDiff, reduceIte, Nat.reduceAdd] at h1 h2 h3 h4 ⊢
 rw [upL] at h4
 have e1 : ((i : Int) - 1).tdiv 2 = (((i - 1) / 2 : Nat) : Int) := par_eq i
 have w1 : IntKind.i64.wrap ((i : Int) - 1) = (i : Int) - 1 := qadm _ (by omega) (by omega)
 generalize hp : (i - 1) / 2 = p at h4 e1
 have w2 : IntKind.i64.wrap (p : Int) = (p : Int) := qadm _ (by omega) (by omega)
 have hpi : p ≤ i := by omega
 have hpl : p ≠ i → p < i := by omega
 have k1 := fun q hq => qal8 c n L h2 h3 i p h1 (by omega) q hq
 have k2 := fun q hq => qai9 c n L h2 p i (by omega) h1 q hq
 generalize hx : qaeb L i p = x at h4 k1
 have hsl : (qach L p i).length = n := by rw [qacf, h2]
 have hss : ∀ e ∈ qach L p i, qacb e := fun e he => h3 e ((qab7 L p i).mem_iff.1 he)
 generalize qach L p i = L2 at h4 k2 hsl hss
 replace h2 := Lib.hid h2
 replace h3 := Lib.hid h3
 replace h4 := Lib.hid h4
 replace hsl := Lib.hid hsl
 replace hss := Lib.hid hss
 have w3 : IntKind.i64.wrap (i : Int) = (i : Int) := qadm _ (by omega) (by omega)
 by_cases hip : p = i
 ·have hFL : F = L := by have := h4.out; rw [if_pos (.inl hip)] at this; exact this
  subst hFL
  repeat' (first | (with_reducible first | refine zA ?_ | refine qaa4 ?_) | ((with_reducible refine qaaf ?_); (try rw [hP]); simp -implicitDefEqProofs [w1, w2, w3, e1, hip, *]) | ((with_reducible refine qabt ?_); (try simp -implicitDefEqProofs [w1, w2, w3, e1, hip, *])) | ((with_reducible refine qaak rfl (fun h => ?_) (fun h => ?_)) <;> have h' := h <;> (try simp at h') <;> (try subst h')) | ((with_reducible refine qaa3 [] hm ?_ ?_ ?_ ?_) <;> (try simp only [zT, puth, Nat.reduceEqDiff, reduceIte, Nat.reduceAdd])) | (with_reducible first | refine zb ?_ ?_ ?_ ?_ | refine zc ?_ ?_ ?_ ?_) | (with_reducible first | exact qaaj | exact qaam) | ((with_reducible first | refine zga ?_ | refine zgb ?_); rfl) | ((with_reducible refine zgc ?_); (first | (with_reducible rfl) | rfl | (simp; done))) | ((with_reducible refine zgd ?_); (first | omega | (simp; done))) | ((refine qat5 (.inr rfl) ?_)) | (exact qacv _ _ rfl) | fail)
  all_goals (exfalso; omega)
 ·have hb : ((p : Int) == (i : Int)) = false := by simp; omega
  cases x
  ·have hFL : F = L := by have := h4.out; rw [if_pos (.inr rfl)] at this; exact this
   subst hFL
   repeat' (first | (with_reducible first | refine zA ?_ | refine qaa4 ?_) | ((with_reducible refine qaaf ?_); (try rw [hP]); simp -implicitDefEqProofs [w1, w2, e1, hb, *]) | ((with_reducible refine qabt ?_); (try simp -implicitDefEqProofs [w1, w2, e1, hb, *])) | ((with_reducible refine qaak rfl (fun h => ?_) (fun h => ?_)) <;> have h' := h <;> (try simp at h') <;> (try subst h')) | ((refine qaco [(0, .cells (hty c) (hcs c n))] ⟨rfl, trivial⟩ (qacd qaj9) (k1 _ (by simp)) ⟨rfl, rfl, trivial⟩ ⟨rfl, rfl, trivial⟩ [] (by simp) ?_); simp -implicitDefEqProofs [w1, w2, e1, hb, *]) | ((with_reducible refine qaa3 [] hm ?_ ?_ ?_ ?_) <;> (try simp only [zT, puth, Nat.reduceEqDiff, reduceIte, Nat.reduceAdd])) | (with_reducible first | refine zb ?_ ?_ ?_ ?_ | refine zc ?_ ?_ ?_ ?_) | (with_reducible first | exact qaaj | exact qaam) | ((with_reducible first | refine zga ?_ | refine zgb ?_); rfl) | ((with_reducible refine zgc ?_); (first | (with_reducible rfl) | rfl | (simp; done))) | ((with_reducible refine zgd ?_); (first | omega | (simp; done))) | ((refine qat5 (.inr rfl) ?_)) | (exact qacv _ _ rfl) | fail)
  ·have hFL : F = upL i L2 p := by have := h4.out; rw [if_neg (by simp [hip])] at this; exact this
   replace hFL := Lib.hid hFL
   repeat' (first | (with_reducible first | refine zA ?_ | refine qaa4 ?_) | ((with_reducible refine qaaf ?_); (try rw [hP]); simp -implicitDefEqProofs [w1, w2, e1, hb, *]) | ((with_reducible refine qaaz ?_); (try simp -implicitDefEqProofs [w1, w2, e1, hb, *])) | ((with_reducible refine qaak rfl (fun h => ?_) (fun h => ?_)) <;> have h' := h <;> (try simp at h') <;> (try subst h')) | ((first | refine qaco [(0, .cells (hty c) (hcs c n))] ⟨rfl, trivial⟩ (qacd qaj9) (k1 _ (by simp)) ⟨rfl, rfl, trivial⟩ ⟨rfl, rfl, trivial⟩ [] (by simp) ?_ | refine qaco [(0, .cells (hty c) (hcs c n))] ⟨rfl, trivial⟩ (qacd qamv) (k2 _ (by simp)) ⟨rfl, rfl, trivial⟩ ⟨rfl, rfl, trivial⟩ [] (by simp) ?_); simp -implicitDefEqProofs [w1, w2, e1, hb, *]) | (with_reducible first | refine za ?_ ?_ | refine zb ?_ ?_ ?_ ?_ | refine zc ?_ ?_ ?_ ?_) | (with_reducible first | exact qaaj | exact qaam) | ((with_reducible first | refine zga ?_ | refine zgb ?_); rfl) | ((with_reducible refine zgc ?_); (first | (with_reducible rfl) | rfl | (simp; done))) | ((with_reducible first | refine zgd ?_ | refine zge ?_); (first | omega | (simp; done))) | (exact Co.refl _) | ((refine qabo hJ (p, L2) ?_ ?_ ?_; (with_reducible refine qaa3 [] hm ?_ ?_ ?_ ?_) <;> (try simp only [zT, puth, Nat.reduceEqDiff, reduceIte, Nat.reduceAdd]))) | (exact qacv _ _ rfl) | fail)
   all_goals exact ⟨by omega, hsl.out, hss.out, by rw [hFL.out]; exact qalr _ _ _ _ (hpl hip) (Nat.lt_succ_self _)⟩
end Go.Proofs.Ytefkifebgeagiaa
namespace Go.Proofs.Ytefkifebgeagiaa
set_option linter.all false
open Go.RowKit
attribute [local simp] qaar qaaq qaac qaai qaad qaah qaao qaap qaab qaa5 SOp.run SX.ev putd puts argS upds SOp.touch SSt.keep SSt.skip gets geth puth delh idOf SV.cells? setL qab5 qab6 sbin eq0 eq1 eqL qab4 qabe qabf qaas qaat qaaa qaau qaa6 qaae qaal FrzOk qaa9 qaa1 qaa7 qaa8 qaav qaa0 qabc qaa2 qaax qaba qaaw frzS frzH frz frz1 frz0 SlotsM ObjsM ObjM rn ren ren1 ren0 qabl qab0 qab3 qabk qabd qabz qab2 CoL qabb qabu dels adds idsH qabn
attribute [local irreducible] qace
theorem qat6 {X : Cx} {s : SSt} {c : qacl} {n t : Nat} {l : List Entry} {b : Bool} (hw : Wk X s ⟨[(t, .bool b)], hobn c n l, 2⟩) : QFun X [.tmp t] 2 (.bool b) (hobn c n l) .ret s := ⟨_, hw, by simp [qafw, resL, resV, one_, gets], ⟨rfl, rfl, trivial⟩, by simp⟩
theorem down_s (c : qacl) (l : List Entry) (i0 n : Nat) (hn : n ≤ l.length) (hi0 : i0 ≤ l.length) (hb : l.length ≤ 1000000) (hs : ∀ x ∈ l, qacb x) (q : Nat) (hq : 2 ≤ q) : SCalls Try.prog 54 [.ifc 73 (.ptr 0 (hoff c)), .int .i64 i0, .int .i64 n] (hobj c l) q (.bool (decide (i0 < (qac2 (n - i0 + 1) l i0 n).2))) (hobj c (qac2 (n - i0 + 1) l i0 n).1) := by
 refine h_up ?_ q hq rfl rfl rfl
 obtain ⟨F, hF⟩ : ∃ F, F = qac2 (n - i0 + 1) l i0 n := ⟨_, rfl⟩
 have hFl : F.1.length = l.length := by rw [hF]; exact (qab8 _ _ _ _).length_eq
 rw [← hF, qaca hFl, qaca (c := c) (l := l) rfl]
 generalize hN : l.length = N at hn hb hFl hi0
 replace hF := Lib.hid hF
 replace hFl := Lib.hid hFl
 replace hs := Lib.hid hs
 replace hN := Lib.hid hN
 refine qaan (N := 48) Try.func54 rfl rfl (by kernel_rfl) qaiz (by simp) (by repeat' (first | exact trivial | refine And.intro ?_ ?_ | rfl | decide | exact PureR.ren _)) (qafj c N l) ?_
 rintro X hP hNn hm
 unfold c_hdown
 repeat' (first | (with_reducible refine zA ?_) | ((with_reducible refine qaaf ?_); (try rw [hP]); simp -implicitDefEqProofs [*]) | fail)
 refine qabm (qacz (fun s (x : Nat × List Entry) => s.turn [(7, .int .i64 x.1)] [(1, .row 29 6 (x.2.map qaag))]) (fun x => x.1 ≤ N ∧ x.2.length = N ∧ (∀ e ∈ x.2, qacb e) ∧ F = qac2 (n - x.1 + 1) x.2 x.1 n) (fun x => N - x.1) (i0, l) ?_ ⟨hi0, hN.out, hs.out, hF.out⟩ ?_)
 ·repeat' (first | ((with_reducible refine qaa3 [] hm ?_ ?_ ?_ ?_) <;> (try simp only [zT, puth, Nat.reduceEqDiff, reduceIte, Nat.reduceAdd])) | (with_reducible first | refine za ?_ ?_ | refine zb ?_ ?_ ?_ ?_ | refine zc ?_ ?_ ?_ ?_) | (with_reducible first | exact qaaj | exact qaam) | ((with_reducible first | refine zga ?_ | refine zgb ?_); rfl) | ((with_reducible refine zgc ?_); (first | (with_reducible rfl) | rfl | (simp; done))) | ((with_reducible refine zgd ?_); (first | omega | (simp; done))) | (exact Co.refl _) | fail)
  all_goals exact qacv _ _ rfl
 rintro J hJ ⟨i, L⟩ ⟨h1, h2, h3, h4⟩
 unfold qahj
 simp only [zT, puth, Nat.reduceEqDiff, reduceIte, Nat.reduceAdd] at h1 h2 h3 h4 ⊢
 rw [qac2] at h4
 have w0 : IntKind.i64.wrap (2 * (i : Int)) = 2 * (i : Int) := qadm _ (by omega) (by omega)
 have w1 : IntKind.i64.wrap (2 * (i : Int) + 1) = 2 * (i : Int) + 1 := qadm _ (by omega) (by omega)
 have w2 : IntKind.i64.wrap (2 * (i : Int) + 1 + 1) = 2 * (i : Int) + 1 + 1 := qadm _ (by omega) (by omega)
 have hneg : ¬ (2 * (i : Int) + 1 < 0) := by omega
 rcases Nat.lt_or_ge (2 * i + 1) n with hj | hj
 ·have hng : ¬ ((n : Int) ≤ 2 * (i : Int) + 1) := by omega
  have hsn := qage L i n hj
  have hm1 : ((2 * i + 1 : Nat) : Int) = 2 * (i : Int) + 1 := by omega
  have hm2 : ((2 * i + 1 + 1 : Nat) : Int) = 2 * (i : Int) + 1 + 1 := by omega
  have k0 : 2 * i + 1 + 1 < n → ∀ q, 2 ≤ q → SCalls Try.prog 104 [.own 1 N, .int .i64 (2 * (i : Int) + 1 + 1), .int .i64 (2 * (i : Int) + 1)] (hobn c N L) q (.bool (qaeb L (2 * i + 1 + 1) (2 * i + 1))) (hobn c N L) := fun h q hq => by
   rw [← hm2, ← hm1]
   exact qal8 c N L h2 h3 (2 * i + 1 + 1) (2 * i + 1) (by omega) (by omega) q hq
  have k1 : ∀ q, 2 ≤ q → _ := fun q hq => qal8 c N L h2 h3 (sonL L i n) i (by omega) (by omega) q hq
  have k2 : ∀ q, 2 ≤ q → _ := fun q hq => qai9 c N L h2 i (sonL L i n) (by omega) (by omega) q hq
  have hsl : (qach L i (sonL L i n)).length = N := by rw [qacf, h2]
  have hss : ∀ e ∈ qach L i (sonL L i n), qacb e := fun e he => h3 e ((qab7 _ _ _).mem_iff.1 he)
  generalize qach L i (sonL L i n) = L2 at h4 k2 hsl hss
  have hcase : (2 * i + 1 + 1 < n ∧ qaeb L (2 * i + 1 + 1) (2 * i + 1) = true ∧ sonL L i n = 2 * i + 1 + 1) ∨ (2 * i + 1 + 1 < n ∧ qaeb L (2 * i + 1 + 1) (2 * i + 1) = false ∧ sonL L i n = 2 * i + 1) ∨ (¬ 2 * i + 1 + 1 < n ∧ sonL L i n = 2 * i + 1) := by
   unfold sonL
   by_cases hA : 2 * i + 1 + 1 < n
   ·cases hx : qaeb L (2 * i + 1 + 1) (2 * i + 1)
    ·exact .inr (.inl ⟨hA, rfl, by rw [if_neg (by simp)]⟩)
    ·exact .inl ⟨hA, rfl, by rw [if_pos ⟨hA, rfl⟩]⟩
   ·exact .inr (.inr ⟨hA, by rw [if_neg fun h => hA h.1]⟩)
  have h5 : F = if qaeb L (sonL L i n) i = false then (L, i) else qac2 (n - sonL L i n + 1) L2 (sonL L i n) n := by
   rw [h4]
   by_cases hy : qaeb L (sonL L i n) i = false
   ·rw [if_pos (.inr hy), if_pos hy]
   ·rw [if_neg (fun h => h.elim (by omega) hy), if_neg hy]; exact qagq _ _ _ _ _ (by omega) (by omega)
  generalize hy : qaeb L (sonL L i n) i = y at h5 k1
  replace h2 := Lib.hid h2
  replace h3 := Lib.hid h3
  replace hsl := Lib.hid hsl
  replace hss := Lib.hid hss
  clear h4 hy
  have fin1 : y = false → F = (L, i) := fun e => by rw [h5, if_pos e]
  have fin2 : y = true → F = qac2 (n - sonL L i n + 1) L2 (sonL L i n) n := fun e => by rw [h5, e, if_neg (by decide)]
  clear h5
  rcases hcase with ⟨hA, hx, hs0⟩ | ⟨hA, hx, hs0⟩ | ⟨hA, hs0⟩
  all_goals
   rw [hs0] at k1 k2
   first | (replace k0 := k0 hA; rw [hx] at k0) | clear k0
   first | (have hB : 2 * (i : Int) + 1 + 1 < n := by omega) | (have hB : ¬ (2 * (i : Int) + 1 + 1 < n) := by omega)
   first | rw [hm2] at k1 k2 | rw [hm1] at k1 k2
   cases y
   ·obtain rfl := fin1 rfl
    clear fin2
    repeat' (first | (with_reducible first | refine zA ?_ | refine qaa4 ?_) | ((with_reducible refine qaaf ?_); (try rw [hP]); simp -implicitDefEqProofs [w0, w1, w2, hng, hneg, *]) | ((with_reducible first | refine qaaz ?_ | refine qabt ?_); (try simp -implicitDefEqProofs [w0, w1, w2, hng, hneg, *])) | ((with_reducible refine qaay ?_); (try simp only [qaas, qaaa, qaae])) | ((with_reducible refine qaak rfl (fun h => ?_) (fun h => ?_)) <;> have h' := h <;> (try simp at h') <;> (try subst h')) | ((first | refine qaco [(0, .cells (hty c) (hcs c N))] ⟨rfl, trivial⟩ (qacd qaj9) (k0 _ (by simp)) ⟨rfl, rfl, trivial⟩ ⟨rfl, rfl, trivial⟩ [] (by simp) ?_ | refine qaco [(0, .cells (hty c) (hcs c N))] ⟨rfl, trivial⟩ (qacd qaj9) (k1 _ (by simp)) ⟨rfl, rfl, trivial⟩ ⟨rfl, rfl, trivial⟩ [] (by simp) ?_); simp -implicitDefEqProofs [w0, w1, w2, hng, hneg, *]) | ((with_reducible refine qaa3 [] hm ?_ ?_ ?_ ?_) <;> (try simp only [zT, puth, Nat.reduceEqDiff, reduceIte, Nat.reduceAdd])) | (with_reducible first | refine za ?_ ?_ | refine zb ?_ ?_ ?_ ?_ | refine zc ?_ ?_ ?_ ?_) | (with_reducible first | exact qaaj | exact qaam) | ((with_reducible first | refine zga ?_ | refine zgb ?_); rfl) | ((with_reducible refine zgc ?_); (first | (with_reducible rfl) | rfl | (simp; done))) | ((with_reducible refine zgd ?_); (first | omega | (simp; done))) | (exact Co.refl _) | ((refine qat6 ?_)) | (exact qacv _ _ rfl) | fail)
   ·replace fin2 := Lib.hid (fin2 rfl)
    clear fin1
    repeat' (first | (with_reducible first | refine zA ?_ | refine qaa4 ?_) | ((with_reducible refine qaaf ?_); (try rw [hP]); simp -implicitDefEqProofs [w0, w1, w2, hng, hneg, *]) | ((with_reducible refine qaaz ?_); (try simp -implicitDefEqProofs [w0, w1, w2, hng, hneg, *])) | ((with_reducible refine qaak rfl (fun h => ?_) (fun h => ?_)) <;> have h' := h <;> (try simp at h') <;> (try subst h')) | ((first | refine qaco [(0, .cells (hty c) (hcs c N))] ⟨rfl, trivial⟩ (qacd qaj9) (k0 _ (by simp)) ⟨rfl, rfl, trivial⟩ ⟨rfl, rfl, trivial⟩ [] (by simp) ?_ | refine qaco [(0, .cells (hty c) (hcs c N))] ⟨rfl, trivial⟩ (qacd qaj9) (k1 _ (by simp)) ⟨rfl, rfl, trivial⟩ ⟨rfl, rfl, trivial⟩ [] (by simp) ?_ | refine qaco [(0, .cells (hty c) (hcs c N))] ⟨rfl, trivial⟩ (qacd qamv) (k2 _ (by simp)) ⟨rfl, rfl, trivial⟩ ⟨rfl, rfl, trivial⟩ [] (by simp) ?_); simp -implicitDefEqProofs [w0, w1, w2, hng, hneg, *]) | (with_reducible first | refine za ?_ ?_ | refine zb ?_ ?_ ?_ ?_ | refine zc ?_ ?_ ?_ ?_) | (with_reducible first | exact qaaj | exact qaam) | ((with_reducible first | refine zga ?_ | refine zgb ?_); rfl) | ((with_reducible refine zgc ?_); (first | (with_reducible rfl) | rfl | (simp; done))) | ((with_reducible first | refine zgd ?_ | refine zge ?_); (first | omega | (simp; done))) | (exact Co.refl _) | (refine qab0 ?_; first | omega | (simp_all; done)) | ((refine qabo hJ (sonL L i n, L2) ?_ ?_ ?_; (with_reducible refine qaa3 [] hm ?_ ?_ ?_ ?_) <;> (try simp only [zT, puth, Nat.reduceEqDiff, reduceIte, Nat.reduceAdd]))) | (exact qacv _ _ rfl) | fail)
    all_goals exact ⟨by omega, hsl.out, hss.out, fin2.out⟩
 ·have hge : ((n : Int) ≤ 2 * (i : Int) + 1) := by omega
  obtain rfl : F = (L, i) := by rw [h4, if_pos (.inl hj)]
  clear h4
  repeat' (first | (with_reducible first | refine zA ?_ | refine qaa4 ?_) | ((with_reducible refine qaaf ?_); (try rw [hP]); simp -implicitDefEqProofs [w0, w1, w2, hge, *]) | ((with_reducible refine qabt ?_); (try simp -implicitDefEqProofs [w0, w1, w2, hge, *])) | ((with_reducible refine qaay ?_); (try simp only [qaas, qaaa, qaae])) | ((with_reducible refine qaak rfl (fun h => ?_) (fun h => ?_)) <;> have h' := h <;> (try simp at h') <;> (try subst h')) | ((with_reducible refine qaa3 [] hm ?_ ?_ ?_ ?_) <;> (try simp only [zT, puth, Nat.reduceEqDiff, reduceIte, Nat.reduceAdd])) | (with_reducible first | refine za ?_ ?_ | refine zb ?_ ?_ ?_ ?_ | refine zc ?_ ?_ ?_ ?_) | (with_reducible first | exact qaaj | exact qaam) | ((with_reducible first | refine zga ?_ | refine zgb ?_); rfl) | ((with_reducible refine zgc ?_); (first | (with_reducible rfl) | rfl | (simp; done))) | ((with_reducible refine zgd ?_); (first | omega | (simp; done))) | (exact Co.refl _) | ((refine qat6 ?_)) | (exact qacv _ _ rfl) | fail)
end Go.Proofs.Ytefkifebgeagiaa
namespace Go.Proofs.Ytefkifebgeagiaa
set_option linter.all false
open Go.RowKit
attribute [local simp] qaar qaaq qaac qaai qaad qaah qaao qaap qaab qaa5 SOp.run SX.ev putd puts argS upds SOp.touch SSt.keep SSt.skip gets geth puth delh idOf SV.cells? setL qab5 qab6 sbin eq0 eq1 eqL qab4 qabe qabf qaas qaat qaaa qaau qaa6 qaae qaal FrzOk qaa9 qaa1 qaa7 qaa8 qaav qaa0 qabc qaa2 qaax qaba qaaw frzS frzH frz frz1 frz0 SlotsM ObjsM ObjM rn ren ren1 ren0 qabl qab0 qab3 qabk qabd qabz qab2 CoL qabb qabu dels adds idsH qabn
attribute [local irreducible] qace
def popL (l : List Entry) : List Entry := (qac2 (l.length - 1 - 0 + 1) (qach l 0 (l.length - 1)) 0 (l.length - 1)).1
def remL (l : List Entry) (i : Nat) : List Entry := if l.length - 1 = i then l else
 if i < (qac2 (l.length - 1 - i + 1) (qach l i (l.length - 1)) i (l.length - 1)).2 then (qac2 (l.length - 1 - i + 1) (qach l i (l.length - 1)) i (l.length - 1)).1
 else upL (i + 1) (qac2 (l.length - 1 - i + 1) (qach l i (l.length - 1)) i (l.length - 1)).1 i
theorem qab1 (l : List Entry) : (popL l).Perm l := (qab8 _ _ _ _).trans (qab7 _ _ _)
theorem qado (l : List Entry) (i : Nat) : (remL l i).Perm l := by
 unfold remL
 split
 ·exact .refl _
 ·split
  ·exact (qab8 _ _ _ _).trans (qab7 _ _ _)
  ·exact (qaeq _ _ _).trans ((qab8 _ _ _ _).trans (qab7 _ _ _))
theorem qajn {X : Cx} {s : SSt} {c : qacl} {n t : Nat} {l : List Entry} {e : Entry} (hw : Wk X s ⟨[(t, .ifc 29 (.agg (qaag e)))], hobn c n l, 2⟩) : QFun X [.tmp t] 2 (.ifc 29 (.agg (qaag e))) (hobn c n l) .ret s := ⟨_, hw, by simp [qafw, resL, resV, one_, gets], ⟨rfl, rfl, trivial⟩, by simp⟩
theorem qaui (c : qacl) (n : Nat) (l : List Entry) (hl : l.length = n) (q : Nat) (hq : 2 ≤ q) : SCalls Try.prog 103 [.own 1 n] (hobn c n l) q (.int .i64 n) (hobn c n l) := by subst hl; exact rlen_s c l q hq
theorem rpop_n (c : qacl) (n : Nat) (l L : List Entry) (x : Entry) (h : l = L ++ [x]) (hl : L.length = n) (hb : n + 1 ≤ 1000000) (q : Nat) (hq : 2 ≤ q) : SCalls Try.prog 106 [.ptr 0 (hoff c)] (hobn c (n + 1) l) q (.ifc 29 (.agg (qaag x))) (hobn c n L) := by
 subst h hl
 have := rpop_s c L x hb q hq
 rw [qaca (c := c) (n := L.length + 1) (l := L ++ [x]) (by simp)] at this
 exact this
theorem up_n (c : qacl) (n : Nat) (l : List Entry) (hl : l.length = n) (j : Nat) (hj : j < n) (hb : n ≤ 1000000) (hs : ∀ x ∈ l, qacb x) (q : Nat) (hq : 2 ≤ q) : SCalls Try.prog 55 [.ifc 73 (.ptr 0 (hoff c)), .int .i64 j] (hobn c n l) q (.tup []) (hobn c n (upL (j + 1) l j)) := by
 have := up_s c l j (by omega) (by omega) hs q hq
 rw [qaca hl, qaca (c := c) (n := n) (l := upL (j + 1) l j) (by rw [(qaeq _ _ _).length_eq, hl])] at this
 exact this
theorem down_n (c : qacl) (N : Nat) (l : List Entry) (hl : l.length = N) (i n : Nat) (hn : n ≤ N) (hi : i ≤ N) (hb : N ≤ 1000000) (hs : ∀ x ∈ l, qacb x) (q : Nat) (hq : 2 ≤ q) : SCalls Try.prog 54 [.ifc 73 (.ptr 0 (hoff c)), .int .i64 i, .int .i64 n] (hobn c N l) q (.bool (decide (i < (qac2 (n - i + 1) l i n).2))) (hobn c N (qac2 (n - i + 1) l i n).1) := by
 have := down_s c l i n (by omega) (by omega) (by omega) hs q hq
 rw [qaca hl, qaca (c := c) (n := N) (l := (qac2 (n - i + 1) l i n).1) (by rw [(qab8 _ _ _ _).length_eq, hl])] at this
 exact this
theorem hpop_s (c : qacl) (l L : List Entry) (x : Entry) (h : popL l = L ++ [x]) (hb : l.length ≤ 1000000) (hs : ∀ x ∈ l, qacb x) (q : Nat) (hq : 2 ≤ q) : SCalls Try.prog 38 [.ifc 73 (.ptr 0 (hoff c))] (hobj c l) q (.ifc 29 (.agg (qaag x))) (hobj c L) := by
 refine h_up ?_ q hq rfl rfl rfl
 have hl : l.length = L.length + 1 := by rw [← (qab1 l).length_eq, h]; simp
 unfold popL at h
 generalize hn : L.length = n at hl
 rw [hl, Nat.add_sub_cancel] at h
 rw [qaca hl, qaca hn]
 have k1 := fun q hq => qaui c (n + 1) l hl q hq
 have k2 := fun q hq => qai9 c (n + 1) l hl 0 n (by omega) (by omega) q hq
 have hsl : (qach l 0 n).length = n + 1 := by rw [qacf, hl]
 have hss : ∀ e ∈ qach l 0 n, qacb e := fun e he => hs e ((qab7 _ _ _).mem_iff.1 he)
 have k3 := fun q hq => down_n c (n + 1) (qach l 0 n) hsl 0 n (by omega) (by omega) (by omega) hss q hq
 rw [h] at k3
 have k4 := fun q hq => rpop_n c n (L ++ [x]) L x rfl hn (by omega) q hq
 generalize decide (0 < (qac2 (n - 0 + 1) (qach l 0 n) 0 n).2) = y at k3
 generalize qach l 0 n = l1 at k2 k3
 generalize L ++ [x] = l2 at k3 k4
 have w1 : IntKind.i64.wrap (n : Int) = n := qadm _ (by omega) (by omega)
 clear h hs hss hsl
 replace hl := Lib.hid hl
 replace hn := Lib.hid hn
 refine qaan (N := 15) Try.func38 rfl rfl (by kernel_rfl) qakl (by simp) (by repeat' (first | exact trivial | refine And.intro ?_ ?_ | rfl | decide | exact PureR.ren _)) (qafj c (n + 1) l) ?_
 rintro X hP hN hm
 unfold c_hpop
 repeat' (first | (with_reducible refine zA ?_) | ((with_reducible refine qaaf ?_); (try rw [hP]); simp -implicitDefEqProofs [w1, *]) | ((with_reducible refine qaay ?_); (try simp only [qaas, qaaa, qaae])) | ((first | refine qaco [(0, .cells (hty c) (hcs c (n + 1)))] ⟨rfl, trivial⟩ (qacd m_len) (k1 _ (by simp)) ⟨rfl, rfl, trivial⟩ ⟨rfl, rfl, trivial⟩ [] (by simp) ?_ | refine qaco [(0, .cells (hty c) (hcs c (n + 1)))] ⟨rfl, trivial⟩ (qacd qamv) (k2 _ (by simp)) ⟨rfl, rfl, trivial⟩ ⟨rfl, rfl, trivial⟩ [] (by simp) ?_ | refine qac1 (k3 _ (by simp)) ⟨rfl, rfl, trivial⟩ ⟨rfl, rfl, trivial⟩ [] (by simp) ?_ | refine qaco [] trivial (qaev m_pop qav3) (k4 _ (by simp)) ⟨rfl, rfl, trivial⟩ ⟨rfl, rfl, trivial⟩ [] (by simp) ?_); simp -implicitDefEqProofs [w1, *]) | ((with_reducible refine qaa3 [] hm ?_ ?_ ?_ ?_) <;> (try simp only [zT, puth, Nat.reduceEqDiff, reduceIte, Nat.reduceAdd])) | (with_reducible first | refine za ?_ ?_ | refine zb ?_ ?_ ?_ ?_ | refine zc ?_ ?_ ?_ ?_) | (with_reducible first | exact qaaj | exact qaam) | ((with_reducible first | refine zga ?_ | refine zgb ?_); rfl) | ((with_reducible refine zgc ?_); (first | (with_reducible rfl) | rfl | (simp; done))) | ((with_reducible refine zgd ?_); (first | omega | (simp; done))) | (exact Co.refl _) | ((refine qajn ?_)) | (exact qacv _ _ rfl) | fail)
theorem hrem_s (c : qacl) (l L : List Entry) (i : Nat) (hi : i < l.length) (x : Entry) (h : remL l i = L ++ [x]) (hb : l.length ≤ 1000000) (hs : ∀ x ∈ l, qacb x) (q : Nat) (hq : 2 ≤ q) : SCalls Try.prog 31 [.ifc 73 (.ptr 0 (hoff c)), .int .i64 i] (hobj c l) q (.ifc 29 (.agg (qaag x))) (hobj c L) := by
 refine h_up ?_ q hq rfl rfl rfl
 have hl : l.length = L.length + 1 := by rw [← (qado l i).length_eq, h]; simp
 unfold remL at h
 generalize hn : L.length = n at hl
 rw [hl, Nat.add_sub_cancel] at h
 rw [qaca hl, qaca hn]
 have w1 : IntKind.i64.wrap (n : Int) = n := qadm _ (by omega) (by omega)
 have k1 := fun q hq => qaui c (n + 1) l hl q hq
 have k4 := fun q hq => rpop_n c n (L ++ [x]) L x rfl hn (by omega) q hq
 by_cases hni : n = i
 ·rw [if_pos hni] at h
  subst hni
  rw [← h] at k4
  clear h hs
  replace hl := Lib.hid hl
  replace hn := Lib.hid hn
  refine qaan (N := 26) Try.func31 rfl rfl (by kernel_rfl) qad5 (by simp) (by repeat' (first | exact trivial | refine And.intro ?_ ?_ | rfl | decide | exact PureR.ren _)) (qafj c (n + 1) l) ?_
  rintro X hP hN hm
  unfold c_hrem
  repeat' (first | (with_reducible refine zA ?_) | ((with_reducible refine qaaf ?_); (try rw [hP]); simp -implicitDefEqProofs [w1, *]) | ((with_reducible refine qaaz ?_); (try simp -implicitDefEqProofs [w1, *])) | ((with_reducible refine qaay ?_); (try simp only [qaas, qaaa, qaae])) | ((with_reducible refine qaak rfl (fun h => ?_) (fun h => ?_)) <;> have h' := h <;> (try simp at h') <;> (try subst h')) | ((first | refine qaco [(0, .cells (hty c) (hcs c (n + 1)))] ⟨rfl, trivial⟩ (qacd m_len) (k1 _ (by simp)) ⟨rfl, rfl, trivial⟩ ⟨rfl, rfl, trivial⟩ [] (by simp) ?_ | refine qaco [] trivial (qaev m_pop qav3) (k4 _ (by simp)) ⟨rfl, rfl, trivial⟩ ⟨rfl, rfl, trivial⟩ [] (by simp) ?_); simp -implicitDefEqProofs [w1, *]) | ((with_reducible refine qaa3 [] hm ?_ ?_ ?_ ?_) <;> (try simp only [zT, puth, Nat.reduceEqDiff, reduceIte, Nat.reduceAdd])) | (with_reducible first | refine za ?_ ?_ | refine zb ?_ ?_ ?_ ?_ | refine zc ?_ ?_ ?_ ?_) | (with_reducible first | exact qaaj | exact qaam) | ((with_reducible first | refine zga ?_ | refine zgb ?_); rfl) | ((with_reducible refine zgc ?_); (first | (with_reducible rfl) | rfl | (simp; done))) | ((with_reducible refine zgd ?_); (first | omega | (simp; done))) | (exact Co.refl _) | ((refine qajn ?_)) | (exact qacv _ _ rfl) | fail)
 ·rw [if_neg hni] at h
  have k2 := fun q hq => qai9 c (n + 1) l hl i n (by omega) (by omega) q hq
  have hsl : (qach l i n).length = n + 1 := by rw [qacf, hl]
  have hss : ∀ e ∈ qach l i n, qacb e := fun e he => hs e ((qab7 _ _ _).mem_iff.1 he)
  have k3 := fun q hq => down_n c (n + 1) (qach l i n) hsl i n (by omega) (by omega) (by omega) hss q hq
  have hdl : (qac2 (n - i + 1) (qach l i n) i n).1.length = n + 1 := by rw [(qab8 _ _ _ _).length_eq, hsl]
  have hds : ∀ e ∈ (qac2 (n - i + 1) (qach l i n) i n).1, qacb e := fun e he => hss e ((qab8 _ _ _ _).mem_iff.1 he)
  generalize qach l i n = l1 at k2 k3 h hdl hds
  generalize qac2 (n - i + 1) l1 i n = d at k3 h hdl hds
  have k5 := fun q hq => up_n c (n + 1) d.1 hdl i (by omega) (by omega) hds q hq
  have hb1 : ((n : Int) == (i : Int)) = false := by simp; omega
  generalize d.1 = l2 at k3 k5 h
  clear hs hsl hss hdl hds
  replace hl := Lib.hid hl
  replace hn := Lib.hid hn
  by_cases hy : i < d.2
  ·rw [if_pos hy] at h
   rw [decide_eq_true hy] at k3
   rw [← h] at k4
   clear k5 hy h
   refine qaan (N := 26) Try.func31 rfl rfl (by kernel_rfl) qad5 (by simp) (by repeat' (first | exact trivial | refine And.intro ?_ ?_ | rfl | decide | exact PureR.ren _)) (qafj c (n + 1) l) ?_
   rintro X hP hN hm
   unfold c_hrem
   repeat' (first | (with_reducible refine zA ?_) | ((with_reducible refine qaaf ?_); (try rw [hP]); simp -implicitDefEqProofs [w1, hb1, hni, *]) | ((with_reducible refine qaaz ?_); (try simp -implicitDefEqProofs [w1, hb1, hni, *])) | ((with_reducible refine qaay ?_); (try simp only [qaas, qaaa, qaae])) | ((with_reducible refine qaak rfl (fun h => ?_) (fun h => ?_)) <;> have h' := h <;> (try simp at h') <;> (try subst h')) | ((first | refine qaco [(0, .cells (hty c) (hcs c (n + 1)))] ⟨rfl, trivial⟩ (qacd m_len) (k1 _ (by simp)) ⟨rfl, rfl, trivial⟩ ⟨rfl, rfl, trivial⟩ [] (by simp) ?_ | refine qaco [(0, .cells (hty c) (hcs c (n + 1)))] ⟨rfl, trivial⟩ (qacd qamv) (k2 _ (by simp)) ⟨rfl, rfl, trivial⟩ ⟨rfl, rfl, trivial⟩ [] (by simp) ?_ | refine qac1 (k3 _ (by simp)) ⟨rfl, rfl, trivial⟩ ⟨rfl, rfl, trivial⟩ [] (by simp) ?_ | refine qaco [] trivial (qaev m_pop qav3) (k4 _ (by simp)) ⟨rfl, rfl, trivial⟩ ⟨rfl, rfl, trivial⟩ [] (by simp) ?_); simp -implicitDefEqProofs [w1, hb1, hni, *]) | ((with_reducible refine qaa3 [] hm ?_ ?_ ?_ ?_) <;> (try simp only [zT, puth, Nat.reduceEqDiff, reduceIte, Nat.reduceAdd])) | (with_reducible first | refine za ?_ ?_ | refine zb ?_ ?_ ?_ ?_ | refine zc ?_ ?_ ?_ ?_) | (with_reducible first | exact qaaj | exact qaam) | ((with_reducible first | refine zga ?_ | refine zgb ?_); rfl) | ((with_reducible refine zgc ?_); (first | (with_reducible rfl) | rfl | (simp; done))) | ((with_reducible refine zgd ?_); (first | omega | (simp; done))) | (exact Co.refl _) | ((refine qajn ?_)) | (exact qacv _ _ rfl) | fail)
   all_goals (exfalso; omega)
  ·rw [if_neg hy] at h
   rw [decide_eq_false hy] at k3
   rw [h] at k5
   generalize L ++ [x] = l3 at k4 k5
   clear h hy
   refine qaan (N := 26) Try.func31 rfl rfl (by kernel_rfl) qad5 (by simp) (by repeat' (first | exact trivial | refine And.intro ?_ ?_ | rfl | decide | exact PureR.ren _)) (qafj c (n + 1) l) ?_
   rintro X hP hN hm
   unfold c_hrem
   repeat' (first | (with_reducible refine zA ?_) | ((with_reducible refine qaaf ?_); (try rw [hP]); simp -implicitDefEqProofs [w1, hb1, hni, *]) | ((with_reducible refine qaaz ?_); (try simp -implicitDefEqProofs [w1, hb1, hni, *])) | ((with_reducible refine qaay ?_); (try simp only [qaas, qaaa, qaae])) | ((with_reducible refine qaak rfl (fun h => ?_) (fun h => ?_)) <;> have h' := h <;> (try simp at h') <;> (try subst h')) | ((first | refine qaco [(0, .cells (hty c) (hcs c (n + 1)))] ⟨rfl, trivial⟩ (qacd m_len) (k1 _ (by simp)) ⟨rfl, rfl, trivial⟩ ⟨rfl, rfl, trivial⟩ [] (by simp) ?_ | refine qaco [(0, .cells (hty c) (hcs c (n + 1)))] ⟨rfl, trivial⟩ (qacd qamv) (k2 _ (by simp)) ⟨rfl, rfl, trivial⟩ ⟨rfl, rfl, trivial⟩ [] (by simp) ?_ | refine qac1 (k3 _ (by simp)) ⟨rfl, rfl, trivial⟩ ⟨rfl, rfl, trivial⟩ [] (by simp) ?_ | refine qac1 (k5 _ (by simp)) ⟨rfl, rfl, trivial⟩ ⟨rfl, rfl, trivial⟩ [] (by simp) ?_ | refine qaco [] trivial (qaev m_pop qav3) (k4 _ (by simp)) ⟨rfl, rfl, trivial⟩ ⟨rfl, rfl, trivial⟩ [] (by simp) ?_); simp -implicitDefEqProofs [w1, hb1, hni, *]) | ((with_reducible refine qaa3 [] hm ?_ ?_ ?_ ?_) <;> (try simp only [zT, puth, Nat.reduceEqDiff, reduceIte, Nat.reduceAdd])) | (with_reducible first | refine za ?_ ?_ | refine zb ?_ ?_ ?_ ?_ | refine zc ?_ ?_ ?_ ?_) | (with_reducible first | exact qaaj | exact qaam) | ((with_reducible first | refine zga ?_ | refine zgb ?_); rfl) | ((with_reducible refine zgc ?_); (first | (with_reducible rfl) | rfl | (simp; done))) | ((with_reducible refine zgd ?_); (first | omega | (simp; done))) | (exact Co.refl _) | ((refine qajn ?_)) | (exact qacv _ _ rfl) | fail)
   all_goals (exfalso; omega)
end Go.Proofs.Ytefkifebgeagiaa
namespace Go.Proofs.Ytefkifebgeagiaa
set_option linter.all false
open Go.RowKit
attribute [local simp] qaar qaaq qaac qaai qaad qaah qaao qaap qaab qaa5 SOp.run SX.ev putd puts argS upds SOp.touch SSt.keep SSt.skip gets geth puth delh idOf SV.cells? setL qab5 qab6 sbin eq0 eq1 eqL qab4 qabe qabf qaas qaat qaaa qaau qaa6 qaae qaal FrzOk qaa9 qaa1 qaa7 qaa8 qaav qaa0 qabc qaa2 qaax qaba qaaw frzS frzH frz frz1 frz0 SlotsM ObjsM ObjM rn ren ren1 ren0 qabl qab0 qab3 qabk qabd qabz qab2 CoL qabb qabu dels adds idsH qabn
attribute [local irreducible] qace
def qamd (l : List Entry) (e : Entry) : List Entry := upL (l.length + 1) (l ++ [e]) l.length
theorem qact (l : List Entry) (e : Entry) : (qamd l e).Perm (l ++ [e]) := qaeq _ _ _
theorem qafb {P : Program} {f : FuncId} {args : List SV} {I1 I2 : AbsI} {r : SV} (h : SCalls P f args [(0, .abs I1)] 1 r [(0, .abs I2)]) (ha : ∀ σ : Nat → Nat, σ 0 = 0 → args.map (Go.Proofs.Ytefkifebgeagiaa.ren σ) = args) (hr : ∀ σ : Nat → Nat, σ 0 = 0 → Go.Proofs.Ytefkifebgeagiaa.ren σ r = r) (hk : ok2 r = true) (q : Nat) (hq : 0 < q) : SCalls P f args [(0, .abs I1)] q r [(0, .abs I2)] := by
 have e0 : sg [0] q 0 = 0 := rfl
 exact qaci [0] h rfl (by simp) (by simp; omega) (ha _ e0).symm ⟨⟨.abs I1, by rw [e0]; simp [geth], rfl⟩, trivial⟩ (by simp [idsH]) (hr _ e0).symm hk ⟨⟨.abs I2, by rw [e0]; simp [geth], rfl⟩, trivial⟩ (by simp [idsH]) (by simp [idsH, e0])
theorem hpush_s (c : qacl) (l : List Entry) (e : Entry) (hl : l.length < 1000000) (hs : ∀ x ∈ l, qacb x) (he : qacb e) : SCalls Try.prog 35 [.ifc 73 (.ptr 0 (hoff c)), .ifc 29 (.agg (qaag e))] [(0, .abs (qacq c l))] 1 (.tup []) [(0, .abs (qacq c (qamd l e)))] := by
 have k1 := fun q hq => qafb (rpush_s c l e hl) (fun σ h => by simp [Go.Proofs.Ytefkifebgeagiaa.ren, ren1, ren0, h, renA, renB, qaag, nums]) (fun σ h => rfl) rfl q hq
 have hn : (l ++ [e]).length = l.length + 1 := by simp
 have hss : ∀ x ∈ l ++ [e], qacb x := fun x hx => by
  rcases List.mem_append.1 hx with h | h
  ·exact hs x h
  ·rw [List.mem_singleton.1 h]; exact he
 have k2 := fun q hq => qaui c (l.length + 1) (l ++ [e]) hn q hq
 have k3 := fun q hq => up_n c (l.length + 1) (l ++ [e]) hn l.length (by omega) (by omega) hss q hq
 have w1 : IntKind.i64.wrap (l.length : Int) = l.length := qadm _ (by omega) (by omega)
 have hpl : (qamd l e).length = l.length + 1 := by rw [(qact l e).length_eq, hn]
 rw [show upL (l.length + 1) (l ++ [e]) l.length = qamd l e from rfl] at k3
 generalize qamd l e = L2 at k3 hpl
 generalize l.length = n at k2 k3 w1 hpl hn
 generalize l ++ [e] = L1 at k1 k2 k3 hn
 refine qaan (N := 12) Try.func35 rfl rfl (by kernel_rfl) qaix (by simp) (by repeat' (first | exact trivial | refine And.intro ?_ ?_ | rfl | decide | exact PureR.ren _)) (by repeat' (first | exact trivial | refine And.intro ?_ ?_ | rfl | decide | exact PureR.ren _)) ?_
 rintro X hP hN hm
 unfold c_hpush
 repeat' (first | ((with_reducible refine qafs (c := .reg false qahg []) ?_)) | (with_reducible refine zA ?_) | ((with_reducible refine qaaf ?_); (try rw [hP]); simp -implicitDefEqProofs [*]) | (refine qaco [] trivial (qaev m_push qav3) (k1 _ (by simp)) ⟨rfl, trivial⟩ ⟨rfl, trivial⟩ [] (by simp) ?_; simp -implicitDefEqProofs [*]) | fail)
 constructor
 refine qalx (s' := ⟨[(0, .ifc 73 (.ptr 0 (hoff c)))], [(0, .abs (qacq c L1))], 1⟩) (qaa3 [] hm ⟨Co.refl _, trivial⟩ ⟨⟨_, rfl, rfl⟩, trivial⟩ rfl (Nat.le_refl _)) ?_
 refine qadn (by omega) (by decide) (qaej c L1) fun hh h => ?_
 subst h
 rw [qaca hn]
 replace hn := Lib.hid hn
 replace hpl := Lib.hid hpl
 repeat' (first | ((with_reducible refine qaaf ?_); (try rw [hP]); simp -implicitDefEqProofs [w1, *]) | ((first | refine qaco [(0, .cells (hty c) (hcs c (n + 1)))] ⟨rfl, trivial⟩ (qacd m_len) (k2 _ (by simp)) ⟨rfl, rfl, trivial⟩ ⟨rfl, rfl, trivial⟩ [] (by simp) ?_ | refine qac1 (k3 _ (by simp)) ⟨rfl, rfl, trivial⟩ ⟨rfl, rfl, trivial⟩ [] (by simp) ?_); simp -implicitDefEqProofs [w1, *]) | ((with_reducible refine qaa3 [] hm ?_ ?_ ?_ ?_) <;> (try simp only [zT, puth, Nat.reduceEqDiff, reduceIte, Nat.reduceAdd])) | (with_reducible first | refine zb ?_ ?_ ?_ ?_ | refine zc ?_ ?_ ?_ ?_) | (with_reducible first | exact qaaj | exact qaam) | ((with_reducible first | refine zga ?_ | refine zgb ?_); rfl) | ((with_reducible refine zgc ?_); (first | (with_reducible rfl) | rfl | (simp; done))) | ((with_reducible refine zgd ?_); (first | omega | (simp; done))) | ((refine qat7 (.inr rfl) hm ?_; rw [qaca hpl.out])) | (exact qacv _ _ rfl) | fail)
 all_goals trace_state
end Go.Proofs.Ytefkifebgeagiaa
