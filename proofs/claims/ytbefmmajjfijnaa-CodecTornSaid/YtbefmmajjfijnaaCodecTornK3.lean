/-
  Texts joined: XShJ XShK XShL XShR XShS XShV XShQ XShW XShX XShY XShZ XShNW XShPK XShPL XShLO XTrow XFirst XWordP XTabA XOpen XPlnA XBitsP XBitsU XPackP XTStep XTabD XPlnB XCplt XPlnK XCodA XCodB. No condition.
-/
import Derived.IntWalk
import Derived.Lib.Hide
import Derived.Test.YtbefmmajjfijnaaProg
import Derived.ProofKit
import Derived.Deep.Slices
import Derived.Handy
import Derived.Test.YtbefmmajjfijnaaRows
import Derived.Deep.QuietTactic
import Derived.BigQuiet
import Derived.WalkSmall
import Derived.WalkSpells
import Derived.RegionTactic
import Derived.BigRegion
import Derived.Deep.RegionLaw
import Derived.Test.YtbefmmajjfijnaaCodecTornK2
namespace Go.Proofs.Ytbefmmajjfijnaa
set_option linter.all false
open Go.RowKit
def renB (σ : Nat → Nat) : SV → SV
 | .ptr id o => .ptr (σ id) o
 | .eptr id z i j => .eptr (σ id) z i j
 | .own id n => .own (σ id) n
 | .owno id z i n => .owno (σ id) z i n
 | .agg _ | .tup _ | .fn _ _ _ | .ifc _ _ => .bot
 | x => x
def renA (σ : Nat → Nat) : SV → SV
 | .agg cs => .agg (cs.map (renB σ))
 | x => renB σ x
def ren0 (σ : Nat → Nat) : SV → SV
 | .ifc t x => .ifc t (renA σ x)
 | .ptr id o => .ptr (σ id) o
 | .eptr id z i j => .eptr (σ id) z i j
 | .own id n => .own (σ id) n
 | .owno id z i n => .owno (σ id) z i n
 | .agg _ | .tup _ => .bot
 | .fn f [] [] => .fn f [] []
 | .fn _ _ _ => .bot
 | x => x
def ren1 (σ : Nat → Nat) : SV → SV
 | .agg cs => .agg (cs.map (ren0 σ))
 | .fn f gs bs => .fn f (gs.map (ren0 σ)) (bs.map (ren0 σ))
 | x => ren0 σ x
def ren (σ : Nat → Nat) : SV → SV
 | .tup cs => .tup (cs.map (ren1 σ))
 | .agg cs => .agg (cs.map (ren1 σ))
 | x => ren1 σ x
variable {w : World} {A : Nat → Prop} {ρ : qab1} {σ : Nat → Nat}
theorem RepV.view_any {ρ' : qab1} {size : Nat} {es : List (List SV)} {v : Value} (h : RepV w A ρ (.view size es) v) : RepV w A ρ' (.view size es) v := by
 cases h with
 | view0 hc ha => exact .view0 hc ha
 | view cv hn hc hm hA hb hz h1 h2 ho => exact .view cv hn hc hm hA hb hz h1 h2 ho
theorem RepV.cp_any {ρ' : qab1} {cs : List SV} {v : Value} (h : RepV w A ρ (.cp cs) v) : RepV w A ρ' (.cp cs) v := by
 cases h with
 | cp cv hA hb h1 h2 ho => exact .cp cv hA hb h1 h2 ho
theorem qamw {x : SV} {v : Value} (h : RepV w A ρ (renB σ x) v) : RepV w A (fun id => ρ (σ id)) x v := by
 cases x with
 | any => exact .any
 | bool b => change RepV w A ρ (.bool b) v at h; cases h; exact .bool
 | int k n => change RepV w A ρ (.int k n) v at h; cases h; exact .int
 | str t => change RepV w A ρ (.str t) v at h; cases h; exact .str
 | nil => change RepV w A ρ .nil v at h; cases h; exact .nil
 | nilsl => change RepV w A ρ .nilsl v at h; cases h; exact .nilsl
 | nilfn => change RepV w A ρ .nilfn v at h; cases h; exact .nilfn
 | niliface => change RepV w A ρ .niliface v at h; cases h; exact .niliface
 | mt => change RepV w A ρ .mt v at h; cases h with | mt hc => exact .mt hc
 | view z es => exact RepV.view_any h
 | cp cs => exact RepV.cp_any h
 | ptr id o => change RepV w A ρ (.ptr (σ id) o) v at h; cases h with | ptr h => exact .ptr h
 | eptr id z i j => change RepV w A ρ (.eptr (σ id) z i j) v at h; cases h with | eptr h => exact .eptr h
 | own id n =>
  change RepV w A ρ (.own (σ id) n) v at h
  cases h with
  | own0 h => exact .own0 h
  | own h h2 h3 => exact .own h h2 h3
 | owno id z i n => change RepV w A ρ (.owno (σ id) z i n) v at h; cases h with | owno h h2 h3 => exact .owno h h2 h3
 | agg cs => change RepV w A ρ .bot v at h; cases h
 | tup cs => change RepV w A ρ .bot v at h; cases h
 | bot => change RepV w A ρ .bot v at h; cases h
 | fn f a b => change RepV w A ρ .bot v at h; cases h
 | ifc t x => change RepV w A ρ .bot v at h; cases h
theorem qax3 {x : SV} {v : Value} (h : RepV w A ρ (renA σ x) v) : RepV w A (fun id => ρ (σ id)) x v := by
 cases x with
 | agg cs =>
  change RepV w A ρ (.agg (cs.map (renB σ))) v at h
  cases h with
  | agg ho hl hh =>
   refine .agg ho (by simpa using hl) fun j x v hx hv => qamw (hh j (renB σ x) v ?_ hv)
   rw [List.getElem?_map, hx]; rfl
 | _ => exact qamw h
theorem qafj {x : SV} {v : Value} (h : RepV w A ρ (ren0 σ x) v) : RepV w A (fun id => ρ (σ id)) x v := by
 cases x with
 | any => exact .any
 | bool b => change RepV w A ρ (.bool b) v at h; cases h; exact .bool
 | int k n => change RepV w A ρ (.int k n) v at h; cases h; exact .int
 | str t => change RepV w A ρ (.str t) v at h; cases h; exact .str
 | nil => change RepV w A ρ .nil v at h; cases h; exact .nil
 | nilsl => change RepV w A ρ .nilsl v at h; cases h; exact .nilsl
 | nilfn => change RepV w A ρ .nilfn v at h; cases h; exact .nilfn
 | niliface => change RepV w A ρ .niliface v at h; cases h; exact .niliface
 | ifc t x => change RepV w A ρ (.ifc t (renA σ x)) v at h; cases h with | ifc h => exact .ifc (qax3 h)
 | mt => change RepV w A ρ .mt v at h; cases h with | mt hc => exact .mt hc
 | view z es => exact RepV.view_any h
 | cp cs => exact RepV.cp_any h
 | ptr id o => change RepV w A ρ (.ptr (σ id) o) v at h; cases h with | ptr h => exact .ptr h
 | eptr id z i j => change RepV w A ρ (.eptr (σ id) z i j) v at h; cases h with | eptr h => exact .eptr h
 | own id n =>
  change RepV w A ρ (.own (σ id) n) v at h
  cases h with
  | own0 h => exact .own0 h
  | own h h2 h3 => exact .own h h2 h3
 | owno id z i n => change RepV w A ρ (.owno (σ id) z i n) v at h; cases h with | owno h h2 h3 => exact .owno h h2 h3
 | agg cs => change RepV w A ρ .bot v at h; cases h
 | tup cs => change RepV w A ρ .bot v at h; cases h
 | bot => change RepV w A ρ .bot v at h; cases h
 | fn f a b =>
  cases a with
  | nil =>
   cases b with
   | nil =>
    change RepV w A ρ (.fn f [] []) v at h
    cases h with
    | fn l1 l2 r1 r2 => exact .fn l1 l2 (by simp) (by simp)
   | cons y b => change RepV w A ρ .bot v at h; cases h
  | cons y a => change RepV w A ρ .bot v at h; cases h
theorem qad4 {f : SV → SV} {g : qab1} (hf : ∀ {x v}, RepV w A ρ (f x) v → RepV w A g x v) {cs : List SV} {vs : List Value} (h : ∀ (j : Nat) x v, (cs.map f)[j]? = some x → vs[j]? = some v → RepV w A ρ x v) : ∀ (j : Nat) x v, cs[j]? = some x → vs[j]? = some v → RepV w A g x v := fun j x v hx hv => by
 refine hf (h j (f x) v ?_ hv)
 rw [List.getElem?_map, hx]; rfl
theorem qahh {x : SV} {v : Value} (h : RepV w A ρ (ren1 σ x) v) : RepV w A (fun id => ρ (σ id)) x v := by
 cases x with
 | agg cs =>
  change RepV w A ρ (.agg (cs.map (ren0 σ))) v at h
  cases h with
  | agg ho hl hh => exact .agg ho (by simpa using hl) (qad4 qafj hh)
 | fn f a b =>
  change RepV w A ρ (.fn f (a.map (ren0 σ)) (b.map (ren0 σ))) v at h
  cases h with
  | fn l1 l2 r1 r2 => exact .fn (by simpa using l1) (by simpa using l2) (qad4 qafj r1) (qad4 qafj r2)
 | _ => exact qafj h
theorem qaj6 {x : SV} {v : Value} (h : RepV w A ρ (ren σ x) v) : RepV w A (fun id => ρ (σ id)) x v := by
 cases x with
 | agg cs =>
  change RepV w A ρ (.agg (cs.map (ren1 σ))) v at h
  cases h with
  | agg ho hl hh => exact .agg ho (by simpa using hl) (qad4 qahh hh)
 | tup cs =>
  change RepV w A ρ (.tup (cs.map (ren1 σ))) v at h
  cases h with
  | tup hl hh => exact .tup (by simpa using hl) (qad4 qahh hh)
 | _ => exact qahh h
theorem qac7 {xs : List SV} {vs : List Value} (h : Reps w A ρ (xs.map (ren σ)) vs) : Reps w A (fun id => ρ (σ id)) xs vs := ⟨by simpa using h.1, qad4 qaj6 h.2⟩
def Co (x y : SV) : Prop := ∀ w A ρ v, RepV w A ρ x v → RepV w A ρ y v
theorem Co.refl (x : SV) : Co x x := fun _ _ _ _ h => h
theorem Co.any (x : SV) : Co x .any := fun _ _ _ _ _ => .any
theorem Co.nilsl (z : Nat) : Co .nilsl (.view z []) := fun _ _ _ _ h => by cases h; exact .view0 (by simp [maxLen]) (fun _ => rfl)
def CoL : List SV → List SV → Prop
 | [], [] => True
 | x :: xs, y :: ys => Co x y ∧ CoL xs ys
 | _, _ => False
theorem CoL.refl : ∀ xs, CoL xs xs
 | [] => trivial
 | x :: xs => ⟨.refl x, CoL.refl xs⟩
theorem CoL.length : ∀ {xs ys}, CoL xs ys → xs.length = ys.length
 | [], [], _ => rfl
 | x :: xs, y :: ys, h => by rw [List.length_cons, List.length_cons, CoL.length h.2]
 | [], _ :: _, h => h.elim
 | _ :: _, [], h => h.elim
theorem CoL.reps : ∀ {xs ys : List SV} {vs : List Value}, CoL xs ys → Reps w A ρ xs vs → Reps w A ρ ys vs
 | [], [], _, _, h => h
 | x :: xs, y :: ys, vs, h, hr => by
  obtain ⟨v, us, rfl, h1, h2⟩ := hr.cons_inv
  exact Reps.cons (h.1 _ _ _ _ h1) (CoL.reps h.2 h2)
 | [], _ :: _, _, h, _ => h.elim
 | _ :: _, [], _, h, _ => h.elim
theorem CoL.append : ∀ {xs ys us vs : List SV}, CoL xs ys → CoL us vs → CoL (xs ++ us) (ys ++ vs)
 | [], [], _, _, _, h => h
 | x :: xs, y :: ys, _, _, h, g => ⟨h.1, CoL.append h.2 g⟩
 | [], _ :: _, _, _, h, _ => h.elim
 | _ :: _, [], _, _, h, _ => h.elim
theorem Co.agg {xs ys : List SV} (h : CoL xs ys) : Co (.agg xs) (.agg ys) := fun w A ρ v hv => by
 cases hv with
 | agg ho hl hh => have := h.reps ⟨hl, hh⟩; exact .agg ho this.1 this.2
theorem Co.tup {xs ys : List SV} (h : CoL xs ys) : Co (.tup xs) (.tup ys) := fun w A ρ v hv => by
 cases hv with
 | tup hl hh => have := h.reps ⟨hl, hh⟩; exact .tup this.1 this.2
def CoLL : List (List SV) → List (List SV) → Prop
 | [], [] => True
 | x :: xs, y :: ys => CoL x y ∧ CoLL xs ys
 | _, _ => False
theorem CoLL.refl : ∀ xs, CoLL xs xs
 | [] => trivial
 | x :: xs => ⟨.refl x, CoLL.refl xs⟩
theorem CoLL.append : ∀ {xs ys us vs : List (List SV)}, CoLL xs ys → CoLL us vs → CoLL (xs ++ us) (ys ++ vs)
 | [], [], _, _, _, h => h
 | x :: xs, y :: ys, _, _, h, g => ⟨h.1, CoLL.append h.2 g⟩
 | [], _ :: _, _, _, h, _ => h.elim
 | _ :: _, [], _, _, h, _ => h.elim
theorem CoLL.length : ∀ {xs ys}, CoLL xs ys → xs.length = ys.length
 | [], [], _ => rfl
 | x :: xs, y :: ys, h => by rw [List.length_cons, List.length_cons, CoLL.length h.2]
 | [], _ :: _, h => h.elim
 | _ :: _, [], h => h.elim
theorem CoLL.flat : ∀ {xs ys}, CoLL xs ys → CoL xs.flatten ys.flatten
 | [], [], _ => trivial
 | x :: xs, y :: ys, h => by rw [List.flatten_cons, List.flatten_cons]; exact h.1.append (CoLL.flat h.2)
 | [], _ :: _, h => h.elim
 | _ :: _, [], h => h.elim
theorem CoLL.sizes {z : Nat} : ∀ {xs ys}, CoLL xs ys → (∀ x ∈ xs, x.length = z) → ∀ y ∈ ys, y.length = z
 | [], [], _, _, y, hy => by cases hy
 | x :: xs, y :: ys, h, hz, u, hu => by
  rcases List.mem_cons.1 hu with e | e
  ·rw [e, ← h.1.length]; exact hz x (by simp)
  ·exact CoLL.sizes h.2 (fun x hx => hz x (by simp [hx])) u e
 | [], _ :: _, h, _, _, _ => h.elim
 | _ :: _, [], h, _, _, _ => h.elim
def ObjM (σ : Nat → Nat) : SObj → SObj → Prop
 | .cells t cs, .cells t' ds => t = t' ∧ CoL cs (ds.map (ren σ))
 | .row e z es, .row e' z' fs => e = e' ∧ z = z' ∧ CoLL es (fs.map (·.map (ren σ)))
 | .abs I, .abs I' => I = I'
 | _, _ => False
theorem ObjM.back {o o' : SObj} (h : ObjM σ o o') {id : Nat} {F : Nat → Prop} (hr : ObjRep w A ρ (σ id) F o) : ObjRep w A (fun id => ρ (σ id)) id F o' := by
 cases o with
 | cells t cs =>
  cases o' with
  | cells t' ds =>
   obtain ⟨rfl, hco⟩ := h
   obtain ⟨b, c, vs, h1, h2, ⟨h3, h4⟩, h5⟩ := hr
   exact ⟨b, c, vs, h1, h2, ⟨qac7 (hco.reps h3), h4⟩, h5⟩
  | row => exact h.elim
  | abs => exact h.elim
 | row e z es =>
  cases o' with
  | row e' z' fs =>
   obtain ⟨rfl, rfl, hco⟩ := h
   obtain ⟨v, vs, h1, ⟨h2, h3⟩, h4, h5, h6⟩ := hr
   have hl : es.length = fs.length := by have := hco.length; simpa using this
   refine ⟨v, vs, by rw [← hl]; exact h1, ⟨?_, h3⟩, fun x hx => ?_, h5, h6⟩
   ·have h7 := hco.flat.reps h2
    rw [← List.map_flatten] at h7
    exact qac7 h7
   ·have := hco.sizes h4 (x.map (ren σ)) (List.mem_map.2 ⟨x, hx, rfl⟩)
    simpa using this
  | cells => exact h.elim
  | abs => exact h.elim
 | abs I =>
  cases o' with
  | abs I' => obtain rfl := h; exact hr
  | cells => exact h.elim
  | row => exact h.elim
def SlotsM (σ : Nat → Nat) (sl : Sl) : Sl → Prop
 | [] => True
 | (t, v) :: r => Co (gets sl t) (ren σ v) ∧ SlotsM σ sl r
def ObjsM (σ : Nat → Nat) (hp : Hp) : Hp → Prop
 | [] => True
 | (i, o') :: r => (∃ o, geth hp (σ i) = some o ∧ ObjM σ o o') ∧ ObjsM σ hp r
theorem SlotsM.get {sl : Sl} : ∀ {l : Sl}, SlotsM σ sl l → ∀ t, gets l t = .any ∨ Co (gets sl t) (ren σ (gets l t))
 | [], _, t => .inl rfl
 | (u, v) :: r, h, t => by
  simp only [gets]
  split
  ·rename_i e; subst e; exact .inr h.1
  ·exact SlotsM.get h.2 t
theorem ObjsM.get {hp : Hp} : ∀ {l : Hp}, ObjsM σ hp l → ∀ id o', geth l id = some o' → ∃ o, geth hp (σ id) = some o ∧ ObjM σ o o'
 | [], _, id, o', h => by cases h
 | (i, x) :: r, h, id, o', hg => by
  simp only [geth] at hg
  split at hg
  ·rename_i e; subst e; cases hg; exact h.1
  ·exact ObjsM.get h.2 id o' hg
def rn : List (Nat × Nat) → Nat → Nat → Nat
 | [], U, id => U + id
 | (i, j) :: D, U, id => if i = id then j else rn D U id
variable {X : Cx} {s s' : SSt}
theorem wk_ren (σ : Nat → Nat) (hm : ∀ id, id < X.m → σ id = id) (hsl : SlotsM σ s.sl s'.sl) (hhp : ObjsM σ s.hp s'.hp) (hinj : ∀ id id', geth s'.hp id ≠ none → geth s'.hp id' ≠ none → σ id = σ id' → id = id') (hfr : ∀ id, s'.nx ≤ id → s.nx ≤ σ id) (hle : X.m ≤ s'.nx) : Wk X s s' := by
 intro ρ fp a w h
 have hav : ∀ k, Av X s'.hp (fun id => fp (σ id)) k → Av X s.hp fp k := by
  rintro k (hO | ⟨id, o', ho, hk⟩)
  ·exact .inl hO
  ·obtain ⟨o, h1, _⟩ := hhp.get id o' ho
   exact .inr ⟨σ id, o, h1, hk⟩
 refine ⟨fun id => ρ (σ id), fun id => fp (σ id), ⟨⟨fun id o' ho => ?_, fun id id' o o' hne ho ho' k hk => ?_, fun id o ho k hk => ?_, h.sim.h.step, fun id hid => ?_⟩, h.sim.tmps, h.sim.defers, fun t => ?_⟩, fun id hid => h.fresh _ (hfr id hid), hle⟩
 ·obtain ⟨o, h1, h2⟩ := hhp.get id o' ho
  exact (h2.back (h.sim.h.objs _ _ h1)).weaken fun k hk _ => hav k hk
 ·obtain ⟨x, h1, _⟩ := hhp.get id o ho
  obtain ⟨y, h2, _⟩ := hhp.get id' o' ho'
  exact h.sim.h.disj _ _ x y (fun e => hne (hinj id id' (by rw [ho]; simp) (by rw [ho']; simp) e)) h1 h2 k hk
 ·obtain ⟨x, h1, _⟩ := hhp.get id o ho
  exact h.sim.h.turn _ x h1 k hk
 ·show ρ (σ id) = _
  rw [hm id hid]; exact h.sim.h.keep id hid
 ·rcases hsl.get t with h1 | h1
  ·rw [h1]; exact .any
  ·exact (qaj6 (h1 _ _ _ _ (h.sim.slots t))).weaken fun k hk _ => hav k hk
theorem qasb {U n : Nat} : ∀ (D : List (Nat × Nat)), (D.all fun p => decide (p.1 < n)) = true → ∀ id, n ≤ id → rn D U id = U + id
 | [], _, id, _ => rfl
 | (i, j) :: D, h, id, hid => by
  simp only [List.all_cons, Bool.and_eq_true, decide_eq_true_eq] at h
  rw [rn, if_neg (by omega)]
  exact qasb D h.2 id hid
def qabu (m n : Nat) (D : List (Nat × Nat)) (hp' : Hp) : Bool :=
 (D.all fun p => decide (p.1 < n)) && ((List.range m).all fun i => rn D 0 i == i && D.any fun p => p.1 == i) && ((idsH hp').all fun i => D.any fun p => p.1 == i) && decide (((D.filter fun p => (idsH hp').contains p.1).map (·.2)).Nodup)
end Go.Proofs.Ytbefmmajjfijnaa
namespace Go.Proofs.Ytbefmmajjfijnaa
set_option linter.all false
open Go.RowKit
variable {w : World} {A : Nat → Prop} {ρ : qab1} {σ : Nat → Nat} {X : Cx} {s s' : SSt}
theorem qax1 {U : Nat} : ∀ (D : List (Nat × Nat)) (id : Nat), (D.any fun p => p.1 == id) = true → rn D U id = rn D 0 id ∧ (id, rn D 0 id) ∈ D
 | [], id, h => by simp at h
 | (i, j) :: D, id, h => by
  by_cases e : i = id
  ·subst e; simp [rn]
  ·simp only [List.any_cons, Bool.or_eq_true, beq_iff_eq, e, false_or] at h
   obtain ⟨h1, h2⟩ := qax1 (U := U) D id h
   simp only [rn, if_neg e]
   exact ⟨h1, List.mem_cons_of_mem _ h2⟩
theorem qaya {D : List (Nat × Nat)} (h : (D.map (·.2)).Nodup) {a b c : Nat} (h1 : (a, c) ∈ D) (h2 : (b, c) ∈ D) : a = b := by
 induction D with
 | nil => cases h1
 | cons p D ih =>
  rw [List.map_cons, List.nodup_cons] at h
  rcases List.mem_cons.1 h1 with e1 | e1
  ·rcases List.mem_cons.1 h2 with e2 | e2
   ·exact (Prod.mk.inj (e1.trans e2.symm)).1
   ·exact absurd (List.mem_map.2 ⟨_, e2, by rw [← e1]⟩) h.1
  ·rcases List.mem_cons.1 h2 with e2 | e2
   ·exact absurd (List.mem_map.2 ⟨_, e1, by rw [← e2]⟩) h.1
   ·exact ih h.2 e1 e2
theorem qac9 : ∀ {hp : Hp} {id : Nat}, geth hp id ≠ none → id ∈ idsH hp
 | [], id, h => absurd rfl h
 | (i, o) :: r, id, h => by
  by_cases e : i = id
  ·subst e; simp [idsH]
  ·simp only [geth, if_neg e] at h
   exact List.mem_cons_of_mem _ (qac9 h)
theorem wk_list (D : List (Nat × Nat)) {m : Nat} (hm : X.m = m) (hok : qabu m s'.nx D s'.hp = true) (hle : m ≤ s'.nx) (hsl : SlotsM (rn D s.nx) s.sl s'.sl) (hhp : ObjsM (rn D s.nx) s.hp s'.hp) : Wk X s s' := by
 simp only [qabu, Bool.and_eq_true, decide_eq_true_eq] at hok
 obtain ⟨⟨⟨h1, h2⟩, h3⟩, h4⟩ := hok
 refine wk_ren (rn D s.nx) (fun id hid => ?_) hsl hhp (fun id id' ho ho' e => ?_) (fun id hid => ?_) (by omega)
 ·rw [hm] at hid
  have := List.all_eq_true.1 h2 id (List.mem_range.2 hid)
  simp only [Bool.and_eq_true, beq_iff_eq] at this
  rw [(qax1 D id this.2).1]; exact this.1
 ·have a1 := List.all_eq_true.1 h3 id (qac9 ho)
  have a2 := List.all_eq_true.1 h3 id' (qac9 ho')
  obtain ⟨b1, b2⟩ := qax1 (U := s.nx) D id a1
  obtain ⟨c1, c2⟩ := qax1 (U := s.nx) D id' a2
  rw [b1, c1] at e
  rw [e] at b2
  have m1 : (id, rn D 0 id') ∈ D.filter fun p => (idsH s'.hp).contains p.1 := List.mem_filter.2 ⟨b2, by simpa using qac9 ho⟩
  have m2 : (id', rn D 0 id') ∈ D.filter fun p => (idsH s'.hp).contains p.1 := List.mem_filter.2 ⟨c2, by simpa using qac9 ho'⟩
  exact qaya h4 m1 m2
 ·rw [qasb D h1 id hid]; omega
theorem qa17 (t e size : Nat) (h : gets s.sl t = .nilsl) : Wk X s ⟨puts s.sl t (.own s.nx 0), puth s.hp s.nx (.row e size []), s.nx + 1⟩ := by
 intro ρ fp a w hs
 obtain ⟨ρ', fp', h1, h2, h3, h4⟩ := hs.sim.h.add (w' := w) hs.le (hs.fresh _ (Nat.le_refl _)) (.row e size []) none (fun _ => False) (Below.refl _ _) (fun _ h => h.elim) fun A' ρ' hp' hpl => ⟨.slice none 0 0, [], RowP.nil _ _ _, ⟨Reps.nil, fun v hv => by cases hv⟩, (fun x hx => by cases hx), hpl, fun k => by simp [Value.ownBlock]⟩
 refine ⟨ρ', fp', ⟨h1, hs.sim.tmps, hs.sim.defers, fun u => ?_⟩, fun id hid => ?_, by have := hs.le; simp only; omega⟩
 ·show RepV w _ ρ' (gets (puts s.sl t (.own s.nx 0)) u) _
  rw [qafk]
  have := hs.sim.slots u
  split
  ·rename_i e; subst e
   rw [h] at this
   generalize a.tmps.getD u undef = v at this
   cases this
   exact .own0 h3
  ·exact h2.rep this
 ·cases e : ρ' id with
  | none => rfl
  | some p =>
   simp only at hid
   rcases h4 id (by rw [e]; simp) with h5 | h5
   ·exact absurd (hs.fresh id (by omega)) h5
   ·omega
def qajx (x : SV) : Prop := ∀ w A ρ v, RepV w A ρ x v → RepV w A noPl x v
theorem qasi (k : IntKind) (n : Int) : qajx (.int k n) := fun w A ρ v h => by cases h; exact .int
theorem qamz (b : Bool) : qajx (.bool b) := fun w A ρ v h => by cases h; exact .bool
theorem qasg (t : ByteArray) : qajx (.str t) := fun w A ρ v h => by cases h; exact .str
theorem qash : qajx .nil := fun w A ρ v h => by cases h; exact .nil
theorem qaid : qajx .nilsl := fun w A ρ v h => by cases h; exact .nilsl
theorem qamy (z : Nat) (es : List (List SV)) : qajx (.view z es) := fun w A ρ v h => h.view_any
theorem qa1h (cs : List SV) : qajx (.cp cs) := fun w A ρ v h => h.cp_any
def qaml (cs : List SV) : Prop := ∀ x ∈ cs, qajx x
theorem qax5 : qaml [] := fun x hx => by cases hx
theorem qasj {x : SV} {cs : List SV} (h : qajx x) (hs : qaml cs) : qaml (x :: cs) := fun y hy => by
 rcases List.mem_cons.1 hy with e | e
 ·rw [e]; exact h
 ·exact hs y e
def qa5b : SObj → Prop
 | .cells _ cs => qaml cs
 | .row _ _ es => ∀ e ∈ es, qaml e
 | .abs _ => False
def frz0 (g : Nat → Option SObj) (D : List Nat) : SV → SV
 | .own id n => if D.contains id then (match g id with
  | some (.row _ z es) => if n ≤ es.length then .view z (es.take n) else .own id n
  | _ => .own id n) else .own id n
 | .owno id z i n => if D.contains id then (match g id with
  | some (.row _ z' es) => if z = z' ∧ i + n ≤ es.length then .view z ((es.drop i).take n) else .owno id z i n
  | _ => .owno id z i n) else .owno id z i n
 | .ptr id off => if D.contains id then (match g id with
  | some (.cells _ cs) => .cp (cs.drop off)
  | _ => .ptr id off) else .ptr id off
 | x => x
def frz1 (g : Nat → Option SObj) (D : List Nat) : SV → SV
 | .agg cs => .agg (cs.map (frz0 g D))
 | .tup cs => .tup (cs.map (frz0 g D))
 | x => frz0 g D x
def frz (g : Nat → Option SObj) (D : List Nat) : SV → SV
 | .tup cs => .tup (cs.map (frz1 g D))
 | x => frz1 g D x
def frzH (g : Nat → Option SObj) (D : List Nat) : Hp → Hp
 | [] => []
 | (i, o) :: r => if D.contains i then frzH g D r else (i, match o with
  | .cells t cs => .cells t (cs.map (frz0 g D))
  | .row e z es => .row e z (es.map (·.map (frz0 g D)))
  | .abs I => .abs I) :: frzH g D r
def frzS (g : Nat → Option SObj) (D : List Nat) : Sl → Sl
 | [] => []
 | (t, v) :: r => (t, frz g D v) :: frzS g D r
def SSt.frz (s : SSt) (D : List Nat) : SSt := ⟨frzS (geth s.hp) D s.sl, frzH (geth s.hp) D s.hp, s.nx⟩
theorem qasz (g : Nat → Option SObj) (D : List Nat) : ∀ (l : Sl) (t : Nat), gets (frzS g D l) t = Go.Proofs.Ytbefmmajjfijnaa.frz g D (gets l t)
 | [], t => rfl
 | (u, v) :: r, t => by
  simp only [frzS, gets]
  split
  ·rfl
  ·exact qasz g D r t
theorem qakj (g : Nat → Option SObj) (D : List Nat) : ∀ (h : Hp) (i : Nat), geth (frzH g D h) i = if D.contains i then none else (geth h i).map fun o => match o with
  | .cells t cs => .cells t (cs.map (frz0 g D))
  | .row e z es => .row e z (es.map (·.map (frz0 g D)))
  | .abs I => .abs I
 | [], i => by simp [frzH, geth]
 | (j, o) :: r, i => by
  simp only [frzH]
  split
  ·rename_i hj
   rw [qakj g D r]
   split
   ·rfl
   ·rename_i hi
    have : j ≠ i := fun e => hi (e ▸ hj)
    simp [geth, this]
  ·rename_i hj
   by_cases e : j = i
   ·subst e; simp only [geth, if_pos, hj]; rfl
   ·simp only [geth, if_neg e]; exact qakj g D r i
theorem qaii {ρ' : qab1} {A' : Nat → Prop} {f : SV → SV} (hf : ∀ {x v}, RepV w A ρ x v → RepV w A' ρ' (f x) v) {cs : List SV} {vs : List Value} (h : ∀ (j : Nat) x v, cs[j]? = some x → vs[j]? = some v → RepV w A ρ x v) : ∀ (j : Nat) x v, (cs.map f)[j]? = some x → vs[j]? = some v → RepV w A' ρ' x v := fun j x v hx hv => by
 rw [List.getElem?_map, Option.map_eq_some_iff] at hx
 obtain ⟨y, hy, rfl⟩ := hx
 exact hf (h j y v hy hv)
theorem wk_frz (D : List Nat) (hp : ∀ id o, D.contains id = true → geth s.hp id = some o → qa5b o) : Wk X s (s.frz D) := by
 intro ρ fp a w h
 have hg' : ∀ id o', geth (frzH (geth s.hp) D s.hp) id = some o' → D.contains id = false ∧ ∃ o, geth s.hp id = some o ∧ o' = (match o with
  | .cells t cs => .cells t (cs.map (frz0 (geth s.hp) D))
  | .row e z es => .row e z (es.map (·.map (frz0 (geth s.hp) D)))
  | .abs I => .abs I) := fun id o' ho => by
  rw [qakj] at ho
  split at ho
  ·cases ho
  ·rename_i hc
   rw [Option.map_eq_some_iff] at ho
   obtain ⟨o, h1, h2⟩ := ho
   exact ⟨by simpa using hc, o, h1, h2.symm⟩
 have hav : ∀ k, Av X (frzH (geth s.hp) D s.hp) fp k → Av X s.hp fp k := by
  rintro k (hO | ⟨id, o', ho, hk⟩)
  ·exact .inl hO
  ·obtain ⟨_, o, h1, _⟩ := hg' id o' ho
   exact .inr ⟨id, o, h1, hk⟩
 have hfree : ∀ id o k, D.contains id = true → geth s.hp id = some o → fp id k → ¬ Av X (frzH (geth s.hp) D s.hp) fp k := by
  rintro id o k hc ho hk (hO | ⟨id', o', ho', hk'⟩)
  ·rcases (h.sim.h.turn id o ho k hk).1 with h1 | h1
   ·exact X.O_M k hO h1
   ·exact absurd (X.O_lt k hO) (Nat.not_lt_of_le h1)
  ·obtain ⟨h1, o2, h2, _⟩ := hg' id' o' ho'
   have hne : id ≠ id' := fun e => by rw [e, h1] at hc; cases hc
   exact h.sim.h.disj id id' o o2 hne ho h2 k hk hk'
 have f0 : ∀ {x v}, RepV w (Av X s.hp fp) ρ x v → RepV w (Av X (frzH (geth s.hp) D s.hp) fp) ρ (frz0 (geth s.hp) D x) v := by
  intro x v hx
  have hx' := hx.weaken (A' := Av X (frzH (geth s.hp) D s.hp) fp) fun k hk _ => hav k hk
  unfold frz0
  split
  ·rename_i id n
   split
   ·rename_i hc
    split
    ·rename_i e z es ho
     split
     ·rename_i hn
      obtain ⟨v0, us, how, ⟨hrep, huo⟩, hzs, hρ', hfp⟩ := h.sim.h.objs id _ ho
      cases hx with
      | own0 hρ => rw [List.take_zero]; exact .view0 (by simp [maxLen]) (fun _ => rfl)
      | own hρ hnc hm =>
       rename_i b c
       rw [hρ] at hρ'
       have hp0 : qac5 v0 = some (b, c) := (Option.some.inj hρ').symm
       obtain ⟨hv0, hcell, hlt, _, _⟩ := qadd how hp0
       have hown : fp id b := (hfp b).2 (by rw [hv0]; rfl)
       have hget : ∀ i e j x, (es.take n)[i]? = some e → e[j]? = some x → es.flatten[i * z + j]? = some x := fun i e j x he hx => by
        rw [List.getElem?_take] at he
        split at he
        ·exact qae4 hzs he hx
        ·cases he
       have hval : ∀ i e j x, (es.take n)[i]? = some e → e[j]? = some x → ∃ u, us[i * z + j]? = some u ∧ RepV w (Av X s.hp fp) ρ x u := fun i e j x he hx => hrep.get (hget i e j x he hx)
       refine .view (fun i j => us.getD (i * z + j) undef) (by simp; omega) hnc hm (hfree id _ b hc ho hown) hlt (fun e he => hzs e (List.mem_of_mem_take he)) (fun i e j x he hx => ?_) (fun i e j x he hx => ?_) (fun i e j x he hx => ?_)
       ·obtain ⟨u, h1, h2⟩ := hval i e j x he hx
        rw [Nat.zero_add, List.getD_eq_getElem?_getD, h1]
        exact hcell _ _ h1
       ·obtain ⟨u, h1, h2⟩ := hval i e j x he hx
        rw [List.getD_eq_getElem?_getD, h1]
        have hpe := hp id _ hc ho e (by rw [List.getElem?_take] at he; split at he; exact List.mem_of_getElem? he; cases he) x (List.mem_of_getElem? hx)
        exact (hpe _ _ _ _ h2).weaken fun k hk _ => hav k hk
       ·obtain ⟨u, h1, h2⟩ := hval i e j x he hx
        rw [List.getD_eq_getElem?_getD, h1]
        exact huo u (List.mem_of_getElem? h1)
     ·exact hx'
    ·exact hx'
   ·exact hx'
  ·rename_i id z1 i1 n
   split
   ·rename_i hc
    split
    ·rename_i e z es ho
     split
     ·rename_i hn
      obtain ⟨rfl, hn⟩ := hn
      obtain ⟨v0, us, how, ⟨hrep, huo⟩, hzs, hρ', hfp⟩ := h.sim.h.objs id _ ho
      cases hx with
      | owno hρ hnc hm =>
       rename_i b c
       rw [hρ] at hρ'
       have hp0 : qac5 v0 = some (b, c) := (Option.some.inj hρ').symm
       obtain ⟨hv0, hcell, hlt, _, _⟩ := qadd how hp0
       have hown : fp id b := (hfp b).2 (by rw [hv0]; rfl)
       have hin : ∀ i e, ((es.drop i1).take n)[i]? = some e → es[i1 + i]? = some e := fun i e he => by
        rw [List.getElem?_take] at he
        split at he
        ·rw [List.getElem?_drop] at he; exact he
        ·cases he
       have hval : ∀ i e j x, ((es.drop i1).take n)[i]? = some e → e[j]? = some x → ∃ u, us[(i1 + i) * z1 + j]? = some u ∧ RepV w (Av X s.hp fp) ρ x u := fun i e j x he hx => hrep.get (qae4 hzs (hin i e he) hx)
       refine .view (fun i j => us.getD ((i1 + i) * z1 + j) undef) (by simp; omega) (by omega) (by omega) (hfree id _ b hc ho hown) hlt (fun e he => hzs e (List.mem_of_mem_drop (List.mem_of_mem_take he))) (fun i e j x he hx => ?_) (fun i e j x he hx => ?_) (fun i e j x he hx => ?_)
       ·obtain ⟨u, h1, h2⟩ := hval i e j x he hx
        rw [show i1 * z1 + i * z1 + j = (i1 + i) * z1 + j by rw [Nat.add_mul], List.getD_eq_getElem?_getD, h1]
        exact hcell _ _ h1
       ·obtain ⟨u, h1, h2⟩ := hval i e j x he hx
        rw [List.getD_eq_getElem?_getD, h1]
        exact (hp id _ hc ho e (List.mem_of_getElem? (hin i e he)) x (List.mem_of_getElem? hx) _ _ _ _ h2).weaken fun k hk _ => hav k hk
       ·obtain ⟨u, h1, h2⟩ := hval i e j x he hx
        rw [List.getD_eq_getElem?_getD, h1]
        exact huo u (List.mem_of_getElem? h1)
     ·exact hx'
    ·exact hx'
   ·exact hx'
  ·rename_i id off
   split
   ·rename_i hc
    split
    ·rename_i t cs ho
     obtain ⟨b, c, us, hρ', hbl, ⟨hrep, huo⟩, hfp⟩ := h.sim.h.objs id _ ho
     cases hx with
     | ptr hρ =>
      rw [hρ] at hρ'; cases hρ'
      have hval : ∀ (j : Nat) x, (cs.drop off)[j]? = some x → ∃ u, us[off + j]? = some u ∧ RepV w (Av X s.hp fp) ρ x u := fun j x hx => by
       rw [List.getElem?_drop] at hx
       exact hrep.get hx
      refine .cp (fun j => us.getD (off + j) undef) (hfree id _ b hc ho ((hfp b).2 rfl)) hbl.lt (fun j x hx => ?_) (fun j x hx => ?_) (fun j x hx => ?_)
      ·obtain ⟨u, h1, h2⟩ := hval j x hx
       rw [hbl.cell, List.getD_eq_getElem?_getD, h1]
       simpa using h1
      ·obtain ⟨u, h1, h2⟩ := hval j x hx
       rw [List.getD_eq_getElem?_getD, h1]
       exact (hp id _ hc ho x (List.mem_of_mem_drop (List.mem_of_getElem? hx)) _ _ _ _ h2).weaken fun k hk _ => hav k hk
      ·obtain ⟨u, h1, h2⟩ := hval j x hx
       rw [List.getD_eq_getElem?_getD, h1]
       exact huo u (List.mem_of_getElem? h1)
    ·exact hx'
   ·exact hx'
  ·exact hx'
 have f1 : ∀ {x v}, RepV w (Av X s.hp fp) ρ x v → RepV w (Av X (frzH (geth s.hp) D s.hp) fp) ρ (frz1 (geth s.hp) D x) v := by
  intro x v hx
  unfold frz1
  split
  ·cases hx with
   | agg ho hl hh => exact .agg ho (by simpa using hl) (qaii f0 hh)
  ·cases hx with
   | tup hl hh => exact .tup (by simpa using hl) (qaii f0 hh)
  ·exact f0 hx
 have f2 : ∀ {x v}, RepV w (Av X s.hp fp) ρ x v → RepV w (Av X (frzH (geth s.hp) D s.hp) fp) ρ (Go.Proofs.Ytbefmmajjfijnaa.frz (geth s.hp) D x) v := by
  intro x v hx
  unfold Go.Proofs.Ytbefmmajjfijnaa.frz
  split
  ·cases hx with
   | tup hl hh => exact .tup (by simpa using hl) (qaii f1 hh)
  ·exact f1 hx
 refine ⟨ρ, fp, ⟨⟨fun id o' ho => ?_, fun id id' o o' hne ho ho' => ?_, fun id o ho => ?_, h.sim.h.step, h.sim.h.keep⟩, h.sim.tmps, h.sim.defers, fun t => ?_⟩, h.fresh, h.le⟩
 ·obtain ⟨_, o, h1, rfl⟩ := hg' id o' ho
  have hr := h.sim.h.objs id o h1
  cases o with
  | cells t cs =>
   obtain ⟨b, c, vs, q1, q2, ⟨q3, q4⟩, q5⟩ := hr
   exact ⟨b, c, vs, q1, q2, ⟨⟨by simpa using q3.1, qaii f0 q3.2⟩, q4⟩, q5⟩
  | row e z es =>
   obtain ⟨v, vs, q1, ⟨q2, q3⟩, q4, q5, q6⟩ := hr
   refine ⟨v, vs, by simpa using q1, ⟨⟨?_, ?_⟩, q3⟩, fun x hx => ?_, q5, q6⟩
   ·rw [← List.map_flatten, List.length_map]; exact q2.1
   ·rw [← List.map_flatten]; exact qaii f0 q2.2
   ·obtain ⟨y, hy, rfl⟩ := List.mem_map.1 hx
    simpa using q4 y hy
  | abs I =>
   obtain ⟨b, c, q1, q2⟩ := hr
   exact ⟨b, c, q1, I.keep q2 (.refl _ _) (fun k hk _ => hav k hk) fun _ _ => rfl⟩
 ·obtain ⟨_, x, h1, _⟩ := hg' id o ho
  obtain ⟨_, y, h2, _⟩ := hg' id' o' ho'
  exact h.sim.h.disj id id' x y hne h1 h2
 ·obtain ⟨_, x, h1, _⟩ := hg' id o ho
  exact h.sim.h.turn id x h1
 ·show RepV w _ ρ (gets (frzS (geth s.hp) D s.sl) t) _
  rw [qasz]
  exact f2 (h.sim.slots t)
end Go.Proofs.Ytbefmmajjfijnaa
namespace Go.Proofs.Ytbefmmajjfijnaa
set_option linter.all false
open Go.RowKit
variable {w : World} {A : Nat → Prop} {ρ : qab1} {σ : Nat → Nat} {X : Cx} {s s' : SSt}
def resV (P : Program) (s : SSt) : ResultVar → Option SV
 | .tmp t => some (gets s.sl t)
 | .cell a t => match qahf P t, qabt P t with
  | some false, some _ => ((SOp.load (.t a)).run (·.ev s.sl) (geth s.hp) s.nx).map (·.1)
  | some true, some n => ((SOp.loads n (.t a)).run (·.ev s.sl) (geth s.hp) s.nx).map (·.1)
  | _, _ => none
def resL (P : Program) (s : SSt) : List ResultVar → Option (List SV)
 | [] => some []
 | r :: rs => match resV P s r, resL P s rs with
  | some v, some vs => some (v :: vs)
  | _, _ => none
def one_ : List SV → SV
 | [v] => v
 | vs => .tup vs
def qamv (P : Program) (s : SSt) (rs : List ResultVar) : Option SV := (resL P s rs).map one_
def qax2 (tmps : Array Value) : ResultVar → Sem Value
 | .tmp t => pure (tmps.getD t undef)
 | .cell a t => do loadVar t (← asAddr (tmps.getD a undef))
theorem qa1r {P : Program} {t : TypeId} {x : Operand} {a : Act} {v' : Value} (h : ∀ o : Oper, o.op = .load t x → (execOp a.eval o).run P w = .ok (.value v') w) : (do loadVar t (← asAddr (a.eval x)) : Sem Value).run P w = .ok v' w := by
 have h1 := h ⟨none, .load t x, 0, "", #[], none⟩ rfl
 simp only [execOp, Instr.loadAt, Sem.run_bind] at h1
 generalize a.eval x = y at h1
 cases y with
 | pointer p =>
  cases p with
  | none => simp [Instr.sureAddr, stuck, Sem.run, Result.andThen] at h1
  | some ad =>
   simp only [Instr.sureAddr, Sem.run_pure, Result.andThen_ok] at h1
   simp only [asAddr, Sem.run_bind, Sem.run_pure, Result.andThen_ok]
   generalize (loadVar t ad).run P w = r at h1
   cases r with
   | ok u w' => simp only [Result.andThen_ok, Result.ok.injEq, Next.value.injEq] at h1; rw [h1.1, h1.2]
   | halt u w' => simp [Result.andThen] at h1
 | _ => simp [Instr.sureAddr, stuck, Sem.run, Result.andThen] at h1
theorem resV_ok {ρ : qab1} {fp : Nat → Nat → Prop} {a : Act} {w : World} (h : SimF X ρ fp s a w) {r : ResultVar} {v : SV} (hr : resV X.P s r = some v) : ∃ v', (qax2 a.tmps r).run X.P w = .ok v' w ∧ RepV w (Av X s.hp fp) ρ v v' := by
 have hobj : ∀ id o, geth s.hp id = some o → ∃ fp', ObjRep w (Av X s.hp fp) ρ id fp' o := fun id o ho => ⟨_, h.sim.h.objs id o ho⟩
 cases r with
 | tmp t =>
  simp only [resV, Option.some.injEq] at hr
  subst hr
  exact ⟨_, rfl, h.sim.slots t⟩
 | cell b t =>
  simp only [resV] at hr
  have hx : cx (b + 1) (.tmp b) = some (.t b) := by simp [cx]
  split at hr
  ·rename_i n hb hn
   simp only [Option.map_eq_some_iff] at hr
   obtain ⟨⟨v1, u, nx⟩, h1, rfl⟩ := hr
   obtain ⟨_, v', h2, h3⟩ := qa1n h.sim.slots hobj hx hb h1
   exact ⟨v', qa1r h2, h3⟩
  ·rename_i n hb hn
   simp only [Option.map_eq_some_iff] at hr
   obtain ⟨⟨v1, u, nx⟩, h1, rfl⟩ := hr
   obtain ⟨_, v', h2, h3⟩ := qasn h.sim.slots hobj hx hb hn h1
   exact ⟨v', qa1r h2, h3⟩
  ·cases hr
theorem qa1g {ρ : qab1} {fp : Nat → Nat → Prop} {a : Act} {w : World} (h : SimF X ρ fp s a w) : ∀ {rs : List ResultVar} {vs : List SV}, resL X.P s rs = some vs → ∃ us, (rs.mapM (qax2 a.tmps)).run X.P w = .ok us w ∧ Reps w (Av X s.hp fp) ρ vs us
 | [], vs, hr => by simp only [resL, Option.some.injEq] at hr; subst hr; exact ⟨[], rfl, Reps.nil⟩
 | r :: rs, vs, hr => by
  simp only [resL] at hr
  split at hr
  ·rename_i v vs' h1 h2
   cases hr
   obtain ⟨u, q1, q2⟩ := resV_ok h h1
   obtain ⟨us, q3, q4⟩ := qa1g h h2
   exact ⟨u :: us, by simp [List.mapM_cons, q1, q3], Reps.cons q2 q4⟩
  ·cases hr
theorem qaic {ρ : qab1} {fp : Nat → Nat → Prop} {a : Act} {w : World} (h : SimF X ρ fp s a w) {fn : Func} {r : SV} (hr : qamv X.P s fn.results.toList = some r) : ∃ v, (results fn a.tmps).run X.P w = .ok v w ∧ RepV w (Av X s.hp fp) ρ r v := by
 simp only [qamv, Option.map_eq_some_iff] at hr
 obtain ⟨vs, h1, rfl⟩ := hr
 obtain ⟨us, h2, h3⟩ := qa1g h h1
 have hm : (results fn a.tmps).run X.P w = .ok (if h : us.toArray.size = 1 then us.toArray[0] else .tuple us.toArray) w := by
  have e : (fn.results.mapM (qax2 a.tmps)).run X.P w = .ok us.toArray w := by
   rw [Array.mapM_eq_mapM_toList]; simp [h2]
  have e2 : results fn a.tmps = (fn.results.mapM (qax2 a.tmps) >>= fun vs => pure (if h : vs.size = 1 then vs[0] else .tuple vs)) := by
   unfold results
   congr 1
  rw [e2, Sem.run_bind, e]
  rfl
 refine ⟨_, hm, ?_⟩
 match vs, us, h3 with
 | [], us, h3 => obtain rfl := h3.nil_inv; exact .tup rfl (by simp)
 | [v], us, h3 =>
  obtain ⟨u, us', rfl, h4, h5⟩ := h3.cons_inv
  obtain rfl := h5.nil_inv
  exact h4
 | v :: v2 :: vs, us, h3 =>
  obtain ⟨u, us', rfl, h4, h5⟩ := h3.cons_inv
  obtain ⟨u2, us2, rfl, h6, h7⟩ := h5.cons_inv
  rw [dif_neg (by simp)]
  exact .tup h3.1 h3.2
def ltV (m : Nat) (x : SV) : Prop := ren (fun i => if i < m then i else m) x = x
def LtL (m : Nat) : List SV → Prop
 | [] => True
 | x :: xs => ltV m x ∧ LtL m xs
theorem LtL.map {m : Nat} : ∀ {xs : List SV}, LtL m xs → xs.map (ren (fun i => if i < m then i else m)) = xs
 | [], _ => rfl
 | x :: xs, h => by rw [List.map_cons, h.1, LtL.map h.2]
def LtO (m : Nat) : SObj → Prop
 | .cells _ cs => cs.map (ren (fun i => if i < m then i else m)) = cs
 | .row _ _ es => es.map (·.map (ren (fun i => if i < m then i else m))) = es
 | .abs _ => True
def LtH (m : Nat) : Hp → Prop
 | [] => True
 | (i, o) :: r => i < m ∧ LtO m o ∧ LtH m r
theorem LtH.get {m : Nat} : ∀ {h : Hp}, LtH m h → ∀ id o, geth h id = some o → id < m ∧ LtO m o
 | [], _, id, o, h => by cases h
 | (i, x) :: r, h, id, o, hg => by
  simp only [geth] at hg
  split at hg
  ·rename_i e; subst e; cases hg; exact ⟨h.1, h.2.1⟩
  ·exact LtH.get h.2.2 id o hg
theorem LtO.objM {m : Nat} {o : SObj} (h : LtO m o) : ObjM (fun i => if i < m then i else m) o o := by
 cases o with
 | cells t cs => exact ⟨rfl, by rw [show cs.map (ren _) = cs from h]; exact .refl _⟩
 | row e z es => exact ⟨rfl, rfl, by rw [show es.map (fun x => x.map (ren (fun i => if i < m then i else m))) = es from h]; exact .refl _⟩
 | abs I => rfl
def argS : Nat → List SV → Sl
 | _, [] => []
 | i, x :: xs => (i, x) :: argS (i + 1) xs
theorem qahw : ∀ (xs : List SV) (i t : Nat), gets (argS i xs) t = if t < i then .any else (xs[t - i]?).getD .any
 | [], i, t => by simp [argS, gets]
 | x :: xs, i, t => by
  simp only [argS, gets, qahw xs]
  by_cases e : i = t
  ·subst e; simp
  ·rw [if_neg e]
   by_cases h : t < i
   ·rw [if_pos h, if_pos (by omega)]
   ·rw [if_neg h, if_neg (by omega)]
    obtain ⟨d, hd⟩ : ∃ d, t - i = d + 1 := ⟨t - i - 1, by omega⟩
    rw [hd, show t - (i + 1) = d by omega, List.getElem?_cons_succ]
def QFunN (n : Nat) (X : Cx) (rs : List ResultVar) (m : Nat) (r : SV) (h2 : Hp) : SExit → SSt → Prop
 | .exit _, _ => False
 | _, s => ∃ s', Wk X s s' ∧ qamv X.P s' rs = some r ∧ SubH s'.hp h2 ∧ s'.nx ≤ m + n
abbrev QFun (X : Cx) (rs : List ResultVar) (m : Nat) (r : SV) (h2 : Hp) : SExit → SSt → Prop := QFunN 8 X rs m r h2
theorem qaib (n : Nat) (hn0 : 0 < n) {P : Program} {f : FuncId} {fn : Func} {N m : Nat} {code : Code} {c : SCode} {args : List SV} {h1 h2 : Hp} {r : SV} (hf : P.funcs[f]? = some fn) (hb : fn.body = some code) (hN : fn.ntmps = N) (hname : (fn.name == "runtime.NumGoroutine") = false) (hc : comp P N code = some c.erase) (hal : args.length ≤ N)
  (hla : LtL m args) (hlh : LtH m h1)
  (h : ∀ X : Cx, X.P = P → X.N = N → X.m = m → SWp X c (QFunN n X fn.results.toList m r h2) ⟨argS 0 args, h1, m⟩) : SCalls P f args h1 m r h2 n := by
 refine ⟨.of hf (by rw [hb]; rfl) hname, fun O ρ fp w vs hok hargs hfr => ?_⟩
 let σ : Nat → Nat := fun i => if i < m then i else m
 let ρi : qab1 := fun id => ρ (σ id)
 have hm0 : ρ m = none := hfr m (Nat.le_refl _) (by omega)
 let X : Cx := ⟨P, N, m, ρi, w, Live h1 fp, O, hok.O_lt, fun k hO hl => (hok.lt k hl).2 hO, []⟩
 have hgl : ∀ id o, geth h1 id = some o → id < m ∧ σ id = id := fun id o ho => by
  have := (hlh.get id o ho).1
  exact ⟨this, if_pos this⟩
 have hfp : (fun id => fp id) = fp := rfl
 have hsimh : SimH X ρi fp h1 w := by
  refine ⟨fun id o ho => ?_, hok.disj, fun id o ho k hk => ⟨.inl ⟨id, o, ho, hk⟩, (hok.lt k ⟨id, o, ho, hk⟩).1⟩, .refl _ _, fun _ _ => rfl⟩
  have h3 := hok.objs id o ho
  obtain ⟨h4, h5⟩ := hgl id o ho
  have h6 := (hlh.get id o ho).2.objM
  rw [show id = σ id from h5.symm] at h3
  have := h6.back h3
  rw [h5] at this
  exact this
 have hlen := hargs.1
 have hreps : Reps w (Av X h1 fp) ρi args vs := by
  have h3 : Reps w (fun k => O k ∨ Live h1 fp k) ρ (args.map (ren σ)) vs := by rw [hla.map]; exact hargs
  exact qac7 h3
 let a0 : Act := { tmps := vs.toArray ++ Array.replicate (fn.ntmps - vs.toArray.size) undef, defers := [] }
 have hsz : a0.tmps.size = N := by simp [a0, hN]; omega
 have hsim : SimF X ρi fp ⟨argS 0 args, h1, m⟩ a0 w := by
  refine ⟨⟨hsimh, hsz, rfl, fun t => ?_⟩, fun id hid => ?_, Nat.le_refl _⟩
  ·show RepV w _ ρi (gets (argS 0 args) t) _
   rw [qahw, if_neg (by omega), Nat.sub_zero]
   cases e : args[t]? with
   | none => exact .any
   | some x =>
    obtain ⟨v, h3, h4⟩ := hreps.get e
    have hlt : t < vs.length := (List.getElem?_eq_some_iff.1 h3).1
    have : a0.tmps.getD t undef = v := by
     have h5 : a0.tmps[t]? = some v := by
      simp only [a0]
      rw [Array.getElem?_append_left (by simpa using hlt)]
      simpa using h3
     rw [Array.getD_eq_getD_getElem?, h5]; rfl
    rw [this]; exact h4
  ·show ρ (σ id) = none
   simp only [σ]
   rw [if_neg (by simp only at hid; omega)]; exact hm0
 have hw := h X rfl rfl rfl code hc ρi fp a0 w hsim
 refine calls_of_wp hf hb (wp_mono hw ?_)
 have fin : ∀ s ρ' fp' a w', (∃ s', Wk X s s' ∧ qamv X.P s' fn.results.toList = some r ∧ SubH s'.hp h2 ∧ s'.nx ≤ m + n) → SimF X ρ' fp' s a w' →
   a.defers = [] ∧ ∃ v, (results fn a.tmps).run P w' = .ok v w' ∧ ∃ v2 ρ2 fp2, Ending.returned v = .returned v2 ∧ HeapOk O ρ2 fp2 h2 w' ∧ RepV w' (fun k => O k ∨ Live h2 fp2 k) ρ2 r v2 ∧ Step (Live h1 fp) w w' ∧
    (∀ id p, ρ id = some p → ρ2 id = some p) ∧ (∀ id, ρ2 id ≠ none → ρ id ≠ none ∨ (m ≤ id ∧ id < m + n)) ∧ ∀ id o, geth h2 id = some o → ∀ k, fp2 id k → Live h1 fp k ∨ w.heap.size ≤ k := by
  rintro s ρ' fp' a w' ⟨s', hwk, hres, hsb, hnx⟩ hs
  obtain ⟨ρ3, fp3, hs3⟩ := hwk ρ' fp' a w' hs
  obtain ⟨v, q1, q2⟩ := qaic hs3 hres
  let ρ2 : qab1 := fun id => match ρ id with
   | some p => some p
   | none => ρ3 id
  have hext : ∀ id p, ρ3 id = some p → ρ2 id = some p := fun id p hp => by
   simp only [ρ2]
   cases e : ρ id with
   | none => exact hp
   | some p' =>
    simp only
    by_cases hid : id < m
    ·have h5 : ρ3 id = ρi id := hs3.sim.h.keep id hid
     rw [h5] at hp
     simp only [ρi, σ, if_pos hid, e] at hp
     exact hp
    ·by_cases hid2 : id < m + n
     ·rw [hfr id (by omega) hid2] at e; cases e
     ·rw [hs3.fresh id (by omega)] at hp; cases hp
  have hsg := hsb.get
  have hav : ∀ k, (O k ∨ Live h2 fp3 k) → Av X s'.hp fp3 k := by
   rintro k (hO | ⟨id, o, ho, hk⟩)
   ·exact .inl hO
   ·exact .inr ⟨id, o, hsg id o ho, hk⟩
  refine ⟨hs3.sim.defers, v, q1, v, ρ2, fp3, rfl, ⟨fun id o ho => ?_, fun id id' o o' hne ho ho' => hs3.sim.h.disj id id' o o' hne (hsg _ _ ho) (hsg _ _ ho'), ?_, ?_⟩, q2.mono (.refl _ _) (fun k h _ => hav k h) hext, hs3.sim.h.step, fun id p hp => ?_, fun id hid => ?_, fun id o ho k hk => ?_⟩
  ·exact (hs3.sim.h.objs id o (hsg _ _ ho)).mono ⟨.refl _ _, fun k h _ => hav k h, hext⟩ fun _ _ => rfl
  ·rintro k ⟨id, o, ho, hk⟩
   obtain ⟨h5, h6⟩ := hs3.sim.h.turn id o (hsg _ _ ho) k hk
   refine ⟨h6, fun hO => ?_⟩
   rcases h5 with h5 | h5
   ·exact X.O_M k hO h5
   ·exact absurd (hok.O_lt k hO) (Nat.not_lt_of_le h5)
  ·exact fun k hO => Nat.lt_of_lt_of_le (hok.O_lt k hO) hs3.sim.h.step.size
  ·simp only [ρ2, hp]
  ·cases e : ρ id with
   | some p => exact .inl (by simp)
   | none =>
    simp only [ρ2, e] at hid
    refine .inr ?_
    by_cases hlt : id < m
    ·have h5 : ρ3 id = ρi id := hs3.sim.h.keep id hlt
     rw [h5] at hid
     simp only [ρi, σ, if_pos hlt, e] at hid
     exact absurd rfl hid
    ·refine ⟨by omega, Nat.lt_of_not_le fun hge => hid (hs3.fresh id (by omega))⟩
  ·exact (hs3.sim.h.turn id o (hsg _ _ ho) k hk).1
 intro e a w' ho
 cases e with
 | normal => obtain ⟨s, ρ', fp', h3, h4⟩ := ho; exact fin s ρ' fp' a w' h3 h4
 | ret => obtain ⟨s, ρ', fp', h3, h4⟩ := ho; exact fin s ρ' fp' a w' h3 h4
 | exit id => obtain ⟨s, ρ', fp', h3, h4⟩ := ho; exact h3.elim
 | goto l => exact ho.elim
 | panic c => exact ho.elim
 | outgrown => exact ho.elim
theorem qaau {P : Program} {f : FuncId} {fn : Func} {N m : Nat} {code : Code} {c : SCode} {args : List SV} {h1 h2 : Hp} {r : SV} (hf : P.funcs[f]? = some fn) (hb : fn.body = some code) (hN : fn.ntmps = N) (hname : (fn.name == "runtime.NumGoroutine") = false) (hc : comp P N code = some c.erase) (hal : args.length ≤ N)
  (hla : LtL m args) (hlh : LtH m h1)
  (h : ∀ X : Cx, X.P = P → X.N = N → X.m = m → SWp X c (QFun X fn.results.toList m r h2) ⟨argS 0 args, h1, m⟩) : SCalls P f args h1 m r h2 := qaib 8 (by decide) hf hb hN hname hc hal hla hlh h
end Go.Proofs.Ytbefmmajjfijnaa
namespace Go.Proofs.Ytbefmmajjfijnaa
set_option linter.all false
open Go.RowKit
variable {w : World} {A : Nat → Prop} {ρ ρ2 : qab1} {σ : Nat → Nat}
def okB : SV → Bool
 | .agg _ | .tup _ | .fn _ _ _ | .ifc _ _ => false
 | _ => true
def okA : SV → Bool
 | .agg cs => cs.all okB
 | x => okB x
def ok0 : SV → Bool
 | .ifc _ x => okA x
 | .agg _ | .tup _ => false
 | .fn _ [] [] => true
 | .fn _ _ _ => false
 | _ => true
def ok1 : SV → Bool
 | .agg cs => cs.all ok0
 | .fn _ a b => a.all ok0 && b.all ok0
 | x => ok0 x
def ok2 : SV → Bool
 | .tup cs => cs.all ok1
 | .agg cs => cs.all ok1
 | x => ok1 x
theorem qase (hσ : ∀ c p, ρ c = some p → ρ2 (σ c) = some p) {x : SV} {v : Value} (hx : okB x = true) (h : RepV w A ρ x v) : RepV w A ρ2 (renB σ x) v := by
 cases h with
 | any => exact .any
 | bool => exact .bool
 | int => exact .int
 | str => exact .str
 | nil => exact .nil
 | nilsl => exact .nilsl
 | nilfn => exact .nilfn
 | niliface => exact .niliface
 | ifc h => simp [okB] at hx
 | mt hc => exact .mt hc
 | view0 hc ha => exact .view0 hc ha
 | view cv hn hc hm hA hb hz h1 h2 ho => exact .view cv hn hc hm hA hb hz h1 h2 ho
 | cp cv hA hb h1 h2 ho => exact .cp cv hA hb h1 h2 ho
 | ptr h => exact .ptr (hσ _ _ h)
 | eptr h => exact .eptr (hσ _ _ h)
 | own0 h => exact .own0 (hσ _ _ h)
 | own h hn hm => exact .own (hσ _ _ h) hn hm
 | owno h hn hm => exact .owno (hσ _ _ h) hn hm
 | agg => simp [okB] at hx
 | tup => simp [okB] at hx
 | fn => simp [okB] at hx
theorem qa2r (hσ : ∀ c p, ρ c = some p → ρ2 (σ c) = some p) {x : SV} {v : Value} (hx : okA x = true) (h : RepV w A ρ x v) : RepV w A ρ2 (renA σ x) v := by
 cases x with
 | agg cs =>
  cases h with
  | agg ho hl hh =>
   refine .agg ho (by simpa using hl) fun j x v hx' hv => ?_
   rw [List.getElem?_map, Option.map_eq_some_iff] at hx'
   obtain ⟨y, hy, rfl⟩ := hx'
   exact qase hσ (List.all_eq_true.1 hx y (List.mem_of_getElem? hy)) (hh j y v hy hv)
 | _ => (simp only [okA] at hx; exact qase hσ hx h)
theorem qahi (hσ : ∀ c p, ρ c = some p → ρ2 (σ c) = some p) {x : SV} {v : Value} (hx : ok0 x = true) (h : RepV w A ρ x v) : RepV w A ρ2 (ren0 σ x) v := by
 cases h with
 | any => exact .any
 | bool => exact .bool
 | int => exact .int
 | str => exact .str
 | nil => exact .nil
 | nilsl => exact .nilsl
 | nilfn => exact .nilfn
 | niliface => exact .niliface
 | ifc h => exact .ifc (qa2r hσ hx h)
 | mt hc => exact .mt hc
 | view0 hc ha => exact .view0 hc ha
 | view cv hn hc hm hA hb hz h1 h2 ho => exact .view cv hn hc hm hA hb hz h1 h2 ho
 | cp cv hA hb h1 h2 ho => exact .cp cv hA hb h1 h2 ho
 | ptr h => exact .ptr (hσ _ _ h)
 | eptr h => exact .eptr (hσ _ _ h)
 | own0 h => exact .own0 (hσ _ _ h)
 | own h hn hm => exact .own (hσ _ _ h) hn hm
 | owno h hn hm => exact .owno (hσ _ _ h) hn hm
 | agg => simp [ok0] at hx
 | tup => simp [ok0] at hx
 | fn l1 l2 r1 r2 =>
  rename_i f fs cs vs us
  cases fs with
  | nil =>
   cases cs with
   | nil => exact .fn l1 l2 (by simp) (by simp)
   | cons y b => simp [ok0] at hx
  | cons y a => simp [ok0] at hx
theorem qae3 {f : SV → SV} {ok : SV → Bool} (hf : ∀ {x v}, ok x = true → RepV w A ρ x v → RepV w A ρ2 (f x) v) {cs : List SV} {vs : List Value} (hk : cs.all ok = true) (h : ∀ (j : Nat) x v, cs[j]? = some x → vs[j]? = some v → RepV w A ρ x v) : ∀ (j : Nat) x v, (cs.map f)[j]? = some x → vs[j]? = some v → RepV w A ρ2 x v := fun j x v hx hv => by
 rw [List.getElem?_map, Option.map_eq_some_iff] at hx
 obtain ⟨y, hy, rfl⟩ := hx
 exact hf (List.all_eq_true.1 hk y (List.mem_of_getElem? hy)) (h j y v hy hv)
theorem qaj7 (hσ : ∀ c p, ρ c = some p → ρ2 (σ c) = some p) {x : SV} {v : Value} (hx : ok1 x = true) (h : RepV w A ρ x v) : RepV w A ρ2 (ren1 σ x) v := by
 cases x with
 | agg cs =>
  cases h with
  | agg ho hl hh => exact .agg ho (by simpa using hl) (qae3 (qahi hσ) hx hh)
 | fn f gs bs =>
  simp only [ok1, Bool.and_eq_true] at hx
  cases h with
  | fn l1 l2 r1 r2 => exact .fn (by simpa using l1) (by simpa using l2) (qae3 (qahi hσ) hx.1 r1) (qae3 (qahi hσ) hx.2 r2)
 | _ => (refine qahi hσ ?_ h; exact hx)
theorem qasd (hσ : ∀ c p, ρ c = some p → ρ2 (σ c) = some p) {x : SV} {v : Value} (hx : ok2 x = true) (h : RepV w A ρ x v) : RepV w A ρ2 (ren σ x) v := by
 cases x with
 | agg cs =>
  cases h with
  | agg ho hl hh => exact .agg ho (by simpa using hl) (qae3 (qaj7 hσ) hx hh)
 | tup cs =>
  cases h with
  | tup hl hh => exact .tup (by simpa using hl) (qae3 (qaj7 hσ) hx hh)
 | _ => (refine qaj7 hσ ?_ h; exact hx)
theorem qasc (hσ : ∀ c p, ρ c = some p → ρ2 (σ c) = some p) {xs : List SV} {vs : List Value} (hx : xs.all ok2 = true) (h : Reps w A ρ xs vs) : Reps w A ρ2 (xs.map (ren σ)) vs := ⟨by simpa using h.1, qae3 (qasd hσ) hx h.2⟩
def ObjF (σ : Nat → Nat) : SObj → SObj → Prop
 | .cells t cs, .cells t' ds => t = t' ∧ cs.all ok2 = true ∧ ds = cs.map (ren σ)
 | .row e z es, .row e' z' fs => e = e' ∧ z = z' ∧ (∀ x ∈ es, x.all ok2 = true) ∧ fs = es.map (·.map (ren σ))
 | .abs I, .abs I' => I = I'
 | _, _ => False
theorem ObjF.fwd {o o' : SObj} (h : ObjF σ o o') (hσ : ∀ c p, ρ c = some p → ρ2 (σ c) = some p) {id : Nat} {F : Nat → Prop} (hr : ObjRep w A ρ id F o) : ObjRep w A ρ2 (σ id) F o' := by
 cases o with
 | cells t cs =>
  cases o' with
  | cells t' ds =>
   obtain ⟨rfl, hk, rfl⟩ := h
   obtain ⟨b, c, vs, h1, h2, ⟨h3, h4⟩, h5⟩ := hr
   exact ⟨b, c, vs, hσ _ _ h1, h2, ⟨qasc hσ hk h3, h4⟩, h5⟩
  | row => exact h.elim
  | abs => exact h.elim
 | row e z es =>
  cases o' with
  | row e' z' fs =>
   obtain ⟨rfl, rfl, hk, rfl⟩ := h
   obtain ⟨v, vs, h1, ⟨h2, h3⟩, h4, h5, h6⟩ := hr
   refine ⟨v, vs, by simpa using h1, ⟨?_, h3⟩, fun x hx => ?_, hσ _ _ h5, h6⟩
   ·rw [← List.map_flatten]
    refine qasc hσ (List.all_eq_true.2 fun x hx => ?_) h2
    obtain ⟨l, hl, hx⟩ := List.mem_flatten.1 hx
    exact List.all_eq_true.1 (hk l hl) x hx
   ·obtain ⟨y, hy, rfl⟩ := List.mem_map.1 hx
    simpa using h4 y hy
  | cells => exact h.elim
  | abs => exact h.elim
 | abs I =>
  cases o' with
  | abs I' => obtain rfl := h; obtain ⟨b, c, h1, h2⟩ := hr; exact ⟨b, c, hσ _ _ h1, h2⟩
  | cells => exact h.elim
  | row => exact h.elim
def sg (τ : List Nat) (q c : Nat) : Nat := if c < τ.length then τ.getD c 0 else if c < τ.length + 8 then q + (c - τ.length) else q
def ObjsF (σ : Nat → Nat) (h' : Hp) : Hp → Prop
 | [] => True
 | (i, o) :: r => (∃ o', geth h' (σ i) = some o' ∧ ObjF σ o o') ∧ ObjsF σ h' r
theorem ObjsF.get {h' : Hp} : ∀ {h : Hp}, ObjsF σ h' h → ∀ id o, geth h id = some o → ∃ o', geth h' (σ id) = some o' ∧ ObjF σ o o'
 | [], _, id, o, hg => by cases hg
 | (i, x) :: r, h, id, o, hg => by
  simp only [geth] at hg
  split at hg
  ·rename_i e; subst e; cases hg; exact h.1
  ·exact ObjsF.get h.2 id o hg
theorem sg_inj {τ : List Nat} {q : Nat} (hn : τ.Nodup) (hq : ∀ i ∈ τ, i < q ∨ q + 8 ≤ i) {a b : Nat} (ha : a < τ.length + 8) (hb : b < τ.length + 8) (h : sg τ q a = sg τ q b) : a = b := by
 unfold sg at h
 by_cases h1 : a < τ.length
 ·rw [if_pos h1] at h
  have ma : τ.getD a 0 ∈ τ := by rw [List.getD_eq_getElem?_getD, List.getElem?_eq_getElem h1]; exact List.getElem_mem _
  by_cases h2 : b < τ.length
  ·rw [if_pos h2] at h
   rw [List.getD_eq_getElem?_getD, List.getD_eq_getElem?_getD, List.getElem?_eq_getElem h1, List.getElem?_eq_getElem h2] at h
   exact (List.getElem_inj hn).1 h
  ·rw [if_neg h2, if_pos hb] at h
   have := hq _ ma; omega
 ·rw [if_neg h1, if_pos ha] at h
  by_cases h2 : b < τ.length
  ·rw [if_pos h2] at h
   have mb : τ.getD b 0 ∈ τ := by rw [List.getD_eq_getElem?_getD, List.getElem?_eq_getElem h2]; exact List.getElem_mem _
   have := hq _ mb; omega
  ·rw [if_neg h2, if_pos hb] at h; omega
theorem qafw (τ : List Nat) {P : Program} {f : FuncId} {args args' : List SV} {h1 h1' h2 h2' : Hp} {r r' : SV} {q m : Nat} (h : SCalls P f args h1 m r h2) (hm : m = τ.length) (hn : τ.Nodup) (hq : ∀ i ∈ τ, i < q ∨ q + 8 ≤ i)
  (ha : args' = args.map (ren (sg τ q))) (hh1 : ObjsM (sg τ q) h1' h1) (hlt1 : ∀ i ∈ idsH h1, i < m) (hr : r' = ren (sg τ q) r) (hrk : ok2 r = true) (hh2 : ObjsF (sg τ q) h2' h2) (hlt2 : ∀ i ∈ idsH h2, i < m + 8) (hb2 : idsH h2' = (idsH h2).map (sg τ q)) : SCalls P f args' h1' q r' h2' := by
 subst hm ha hr
 refine ⟨h.1, fun O ρ fp w vs hok hargs hfr => ?_⟩
 have hnone : ∀ c, τ.length ≤ c → ρ (sg τ q c) = none := fun c hc => by
  unfold sg
  rw [if_neg (by omega)]
  split
  ·exact hfr _ (by omega) (by omega)
  ·exact hfr _ (Nat.le_refl _) (by omega)
 have hsub : ∀ k, Live h1 (fun c => fp (sg τ q c)) k → Live h1' fp k := by
  rintro k ⟨c, o, ho, hk⟩
  obtain ⟨o', h3, _⟩ := hh1.get c o ho
  exact ⟨_, o', h3, hk⟩
 have hok1 : HeapOk O (fun c => ρ (sg τ q c)) (fun c => fp (sg τ q c)) h1 w := by
  refine ⟨fun c o ho => ?_, fun c d o o' hne ho ho' => ?_, fun k hk => hok.lt k (hsub k hk), hok.O_lt⟩
  ·obtain ⟨o', h3, h4⟩ := hh1.get c o ho
   exact (h4.back (hok.objs _ _ h3)).weaken fun k hk _ => hk.imp (fun h => h) (hsub k)
  ·obtain ⟨x, h3, _⟩ := hh1.get c o ho
   obtain ⟨y, h4, _⟩ := hh1.get d o' ho'
   refine hok.disj _ _ x y (fun e => hne (sg_inj hn hq ?_ ?_ e)) h3 h4
   ·have := hlt1 c (qac9 (by rw [ho]; simp)); omega
   ·have := hlt1 d (qac9 (by rw [ho']; simp)); omega
 refine (h.2 O (fun c => ρ (sg τ q c)) (fun c => fp (sg τ q c)) w vs hok1 ((qac7 hargs).weaken fun k hk _ => hk.imp (fun h => h) (hsub k)) (fun id h3 _ => hnone id h3)).mono ?_
 rintro e w' ⟨v, ρc, fpc, rfl, q1, q2, q3, q4, q5, q6⟩
 let ρ' : qab1 := fun id => match ρ id with
  | some p => some p
  | none => if q ≤ id ∧ id < q + 8 then ρc (τ.length + (id - q)) else none
 have hσ : ∀ c p, ρc c = some p → ρ' (sg τ q c) = some p := fun c p hp => by
  rcases q5 c (by rw [hp]; simp) with h3 | h3
  ·obtain ⟨p0, h4⟩ := Option.ne_none_iff_exists'.1 h3
   have h5 := q4 c p0 h4
   rw [hp] at h5; cases h5
   simp only [ρ', h4]
  ·have h4 : sg τ q c = q + (c - τ.length) := by unfold sg; rw [if_neg (by omega), if_pos (by omega)]
   have h5 := hnone c h3.1
   simp only [ρ', h5]
   rw [h4, if_pos (by omega), show τ.length + (q + (c - τ.length) - q) = c by omega]; exact hp
 let fp' : Nat → Nat → Prop := fun id k => ∃ c, geth h2 c ≠ none ∧ sg τ q c = id ∧ fpc c k
 have hinv : ∀ id o', geth h2' id = some o' → ∃ c o, geth h2 c = some o ∧ sg τ q c = id ∧ ObjF (sg τ q) o o' := fun id o' ho' => by
  have h3 := qac9 (hp := h2') (id := id) (by rw [ho']; simp)
  rw [hb2] at h3
  obtain ⟨c, hc, rfl⟩ := List.mem_map.1 h3
  have h4 : geth h2 c ≠ none := by
   have gen : ∀ {h : Hp}, c ∈ idsH h → geth h c ≠ none := by
    intro h
    induction h with
    | nil => intro h; cases h
    | cons x h ih =>
     obtain ⟨i, o⟩ := x
     intro hc
     by_cases e : i = c
     ·simp [geth, e]
     ·simp only [geth, if_neg e]
      exact ih ((List.mem_cons.1 hc).resolve_left (Ne.symm e))
   exact gen hc
  obtain ⟨o, h5⟩ := Option.ne_none_iff_exists'.1 h4
  obtain ⟨o2, h6, h7⟩ := hh2.get c o h5
  rw [ho'] at h6; cases h6
  exact ⟨c, o, h5, rfl, h7⟩
 have hfp : ∀ c o, geth h2 c = some o → fp' (sg τ q c) = fpc c := fun c o ho => by
  funext k
  apply propext
  constructor
  ·rintro ⟨d, h3, h4, h5⟩
   have hlt : ∀ {x}, geth h2 x ≠ none → x < τ.length + 8 := fun hx => hlt2 _ (qac9 hx)
   rw [sg_inj hn hq (hlt h3) (hlt (by rw [ho]; simp)) h4] at h5; exact h5
  ·intro hk; exact ⟨c, by rw [ho]; simp, rfl, hk⟩
 have hlive : ∀ k, Live h2' fp' k → Live h2 fpc k := by
  rintro k ⟨id, o', ho', c, h3, h4, h5⟩
  obtain ⟨o, h6⟩ := Option.ne_none_iff_exists'.1 h3
  exact ⟨c, o, h6, h5⟩
 refine ⟨v, ρ', fp', rfl, ⟨fun id o' ho' => ?_, fun id id' o o' hne ho ho' k hk hk' => ?_, fun k hk => q1.lt k (hlive k hk), q1.O_lt⟩, (qasd hσ hrk q2).weaken fun k hk _ => hk.imp (fun h => h) (hlive k), q3.mono hsub, fun id p hp => ?_, fun id hid => ?_, fun id o' ho' k hk => ?_⟩
 ·obtain ⟨c, o, h3, rfl, h4⟩ := hinv id o' ho'
  rw [hfp c o h3]
  exact (h4.fwd hσ (q1.objs c o h3)).weaken fun k hk _ => hk.imp (fun h => h) (hlive k)
 ·obtain ⟨c, oc, h3, rfl, _⟩ := hinv id o ho
  obtain ⟨d, od, h4, rfl, _⟩ := hinv id' o' ho'
  rw [hfp c oc h3] at hk
  rw [hfp d od h4] at hk'
  exact q1.disj c d oc od (fun e => hne (by rw [e])) h3 h4 k hk hk'
 ·simp only [ρ', hp]
 ·cases e : ρ id with
  | some p => exact .inl (by simp)
  | none =>
   simp only [ρ', e] at hid
   split at hid
   ·exact .inr ‹_›
   ·exact absurd rfl hid
 ·obtain ⟨c, o, h3, rfl, _⟩ := hinv id o' ho'
  rw [hfp c o h3] at hk
  exact (q6 c o h3 k hk).imp (hsub k) fun h => h
theorem qacq {P : Program} {f : FuncId} {args : List SV} {r : SV} (h : SCalls P f args [] 0 r []) (ha : ∀ σ, args.map (ren σ) = args) (hr : ∀ σ, ren σ r = r) (hk : ok2 r = true) (q : Nat) : SCalls P f args [] q r [] :=
 qafw [] h rfl (by simp) (by simp) (ha _).symm trivial (by simp [idsH]) (hr _).symm hk trivial (by simp [idsH]) rfl
theorem qamt {P : Program} {f : FuncId} {args args' : List SV} {h1 h2 : Hp} {q : Nat} {r : SV} (h : SCalls P f args' h1 q r h2) (hc : CoL args args') : SCalls P f args h1 q r h2 :=
 ⟨h.1, fun O ρ fp w vs hok hargs hfr => h.2 O ρ fp w vs hok (hc.reps hargs) hfr⟩
end Go.Proofs.Ytbefmmajjfijnaa
namespace Go.Proofs.Ytbefmmajjfijnaa
set_option linter.all false
open Go.RowKit
variable {w : World} {A : Nat → Prop} {ρ : qab1}
def nums (k : IntKind) (xs : List Int) : SV := .view 1 (xs.map fun x => [.int k x])
def LayP {α : Type} (L : Lay α) (f : α → List SV) : Prop := ∀ A w x cs, L.rep A w x cs → Reps w A noPl (f x) cs ∧ Ones cs
theorem qabr (k : IntKind) : LayP (Lay.int k) (fun x => [.int k x]) := fun A w x cs h => by
 rw [h.1]; exact ⟨Reps.cons .int Reps.nil, fun v hv => by simp at hv; rw [hv]; rfl⟩
theorem qaa1 {α β : Type} {L : Lay α} {M : Lay β} {f : α → List SV} {g : β → List SV} (hf : LayP L f) (hg : LayP M g) : LayP (Lay.pair L M) (fun x => f x.1 ++ g x.2) := fun A w x cs h => by
 obtain ⟨c, d, rfl, h1, h2⟩ := h
 obtain ⟨r1, o1⟩ := hf _ _ _ _ h1
 obtain ⟨r2, o2⟩ := hg _ _ _ _ h2
 exact ⟨r1.append r2, fun v hv => (List.mem_append.1 hv).elim (o1 v) (o2 v)⟩
theorem qadf {α β : Type} {L : Lay α} {f : α → List SV} (g : β → α) (hf : LayP L f) : LayP (Lay.map g L) (fun x => f (g x)) := fun A w x cs h => hf _ _ _ _ h
theorem qayf {α : Type} {L : Lay α} {f : α → List SV} (hf : LayP L f) {ao : Option Addr} {n c : Nat} {xs : List α} (h : RdL L A w ao n c xs) : RepV w A ρ (.view L.size (xs.map f)) (.slice ao n c) := by
 by_cases h0 : 0 < n
 ·obtain ⟨b, off, rfl, hA, hb, hh⟩ := h.here h0
  have hl := h.len
  have get : ∀ i e j x, (xs.map f)[i]? = some e → e[j]? = some x → ∃ u, w.cell? ⟨b, off + i * L.size + j, none⟩ = some u ∧ RepV w A noPl x u ∧ u.oneCell' = true := fun i e j x he hx => by
   rw [List.getElem?_map, Option.map_eq_some_iff] at he
   obtain ⟨y, hy, rfl⟩ := he
   obtain ⟨hi, rfl⟩ := List.getElem?_eq_some_iff.1 hy
   obtain ⟨cs, h1, h2⟩ := hh i hi
   obtain ⟨r, o⟩ := hf _ _ _ _ h1
   have hj : j < (f xs[i]).length := (List.getElem?_eq_some_iff.1 hx).1
   have hjs : j < L.size := by rw [← L.len h1, ← r.1]; exact hj
   obtain ⟨u, hu, hr⟩ := r.get hx
   exact ⟨u, by rw [h2 j hjs]; exact hu, hr, o u (List.mem_of_getElem? hu)⟩
  refine .view (fun i j => (w.cell? ⟨b, off + i * L.size + j, none⟩).getD undef) (by simp [hl]) h.le h.max hA hb (fun e he => ?_) (fun i e j x he hx => ?_) (fun i e j x he hx => ?_) (fun i e j x he hx => ?_)
  ·obtain ⟨y, hy, rfl⟩ := List.mem_map.1 he
   obtain ⟨i, hi0⟩ := List.getElem?_of_mem hy
   obtain ⟨hi, rfl⟩ := List.getElem?_eq_some_iff.1 hi0
   obtain ⟨cs, h1, _⟩ := hh i hi
   rw [(hf _ _ _ _ h1).1.1, L.len h1]
  ·obtain ⟨u, h1, _⟩ := get i e j x he hx; rw [h1]; rfl
  ·obtain ⟨u, h1, h2, _⟩ := get i e j x he hx; rw [h1]; exact h2
  ·obtain ⟨u, h1, _, h3⟩ := get i e j x he hx; rw [h1]; exact h3
 ·have hn : n = 0 := by omega
  have : xs = [] := List.eq_nil_of_length_eq_zero (by rw [h.len, hn])
  subst this hn
  exact .view0 h.max h.nil
theorem qabq {α : Type} {L : Lay α} {f : α → List SV} (hf : LayP L f) : LayP (Lay.slice L) (fun xs => [.view L.size (xs.map f)]) := fun A w x cs h => by
 obtain ⟨ao, n, c, rfl, h1⟩ := h
 exact ⟨Reps.cons (qayf hf h1) Reps.nil, fun v hv => by simp at hv; rw [hv]; rfl⟩
theorem law_of {P : Program} {f : FuncId} {args : List SV} {vs : List Value} (h : SCalls P f args [] 0 (.bool true) []) (hr : Reps w (fun _ => False) noPl args vs) : Calls P f vs.toArray w fun e w' => e = .returned (.bool true) ∧ Below w.heap.size w w' := by
 refine (h.2 (fun _ => False) noPl (fun _ _ => False) w vs ⟨fun id o ho => by simp [geth] at ho, fun id id' o o' _ ho => by simp [geth] at ho, fun k ⟨id, o, ho, _⟩ => by simp [geth] at ho, fun k h => h.elim⟩ (hr.weaken fun k hk _ => hk.elim (fun h => h) fun ⟨id, o, ho, _⟩ => by simp [geth] at ho) (fun _ _ _ => rfl)).mono ?_
 rintro e w' ⟨v, ρ', fp', rfl, _, q2, q3, _⟩
 cases q2
 exact ⟨rfl, q3.below (Nat.le_refl _) fun k ⟨id, o, ho, _⟩ => by simp [geth] at ho⟩
theorem qaxw {P : Program} {f : FuncId} {args : List SV} {r : SV} (he : Enters P f)
  (h : ∀ (O : Nat → Prop) (w : World) (vs : List Value), (∀ k, O k → k < w.heap.size) → Reps w O noPl args vs → Calls P f vs.toArray w fun e w' => ∃ v, e = .returned v ∧ Below w.heap.size w w' ∧ RepV w' O noPl r v)
  (ha : ∀ σ, args.map (ren σ) = args) (q : Nat) : SCalls P f args [] q r [] := by
 refine ⟨he, fun O ρ fp w vs hok hargs hfr => ?_⟩
 have hO : (fun k => O k ∨ Live [] fp k) = O := by funext k; simp [Live, geth]
 rw [hO] at hargs
 have ha' : Reps w O noPl args vs := by
  have h1 : Reps w O ρ (args.map (ren fun _ => q)) vs := by rw [ha]; exact hargs
  have h2 := qac7 h1
  have e : (fun id => ρ ((fun _ => q) id)) = noPl := by funext id; exact hfr q (Nat.le_refl _) (by omega)
  rw [e] at h2; exact h2
 refine (h O w vs hok.O_lt ha').mono ?_
 rintro e w' ⟨v, rfl, hb, hr⟩
 refine ⟨v, ρ, fp, rfl, ⟨fun id o ho => by simp [geth] at ho, fun id id' o o' _ ho => by simp [geth] at ho, fun k ⟨id, o, ho, _⟩ => by simp [geth] at ho, fun k hk => Nat.lt_of_lt_of_le (hok.O_lt k hk) hb.size⟩, ?_, .of hb, fun _ _ h => h, fun id h => .inl h, fun id o ho => by simp [geth] at ho⟩
 exact hr.mono (.refl _ _) (fun k hk _ => by have := congrFun hO k; rw [← this]; exact hk) fun _ _ h => by cases h
end Go.Proofs.Ytbefmmajjfijnaa
namespace Go.Proofs.Ytbefmmajjfijnaa
set_option linter.all false
open Go.RowKit
def LayF {α : Type} (L : Lay α) (ok : α → Prop) : Prop := ∀ A w x cs, L.rep A w x cs → ok x
theorem qab3 (k : IntKind) : LayF (Lay.int k) (fun x => Fits k x) := fun A w x cs h => h.2
theorem qaa2 {α β : Type} {L : Lay α} {M : Lay β} {f : α → Prop} {g : β → Prop} (hf : LayF L f) (hg : LayF M g) : LayF (Lay.pair L M) (fun x => f x.1 ∧ g x.2) := fun A w x cs h => by
 obtain ⟨c, d, rfl, h1, h2⟩ := h
 exact ⟨hf _ _ _ _ h1, hg _ _ _ _ h2⟩
theorem qadg {α β : Type} {L : Lay α} {f : α → Prop} (g : β → α) (hf : LayF L f) : LayF (Lay.map g L) (fun x => f (g x)) := fun A w x cs h => hf _ _ _ _ h
theorem qa3h {α : Type} {L : Lay α} {f : α → Prop} (hf : LayF L f) {A : Nat → Prop} {w : World} {ao : Option Addr} {n c : Nat} {xs : List α} (h : RdL L A w ao n c xs) : ∀ x ∈ xs, f x := fun x hx => by
 obtain ⟨i, hi0⟩ := List.getElem?_of_mem hx
 obtain ⟨hi, rfl⟩ := List.getElem?_eq_some_iff.1 hi0
 obtain ⟨b, off, _, _, _, hh⟩ := h.here (by have := h.len; omega)
 obtain ⟨cs, h1, _⟩ := hh i hi
 exact hf _ _ _ _ h1
theorem qacd {α : Type} {L : Lay α} {f : α → Prop} (hf : LayF L f) : LayF (Lay.slice L) (fun xs => ∀ x ∈ xs, f x) := fun A w x cs h => by
 obtain ⟨ao, n, c, rfl, h1⟩ := h
 exact qa3h hf h1
end Go.Proofs.Ytbefmmajjfijnaa
namespace Go.Proofs.Ytbefmmajjfijnaa
set_option linter.all false
open Go.RowKit
variable {X : Cx} {s : SSt} {Q : SExit → SSt → Prop} {y : SCode}
theorem qac0 : QSeq X y Q .normal s = SWp X y Q s := rfl
theorem qac1 {i : Nat} : QSeq X y Q (.exit i) s = Q (.exit i) s := rfl
theorem qaa3 : QSeq X y Q .ret s = Q .ret s := rfl
theorem qabm {id : Nat} : qamk id Q .normal s = Q .normal s := rfl
theorem qaai {id : Nat} : qamk id Q .ret s = Q .ret s := rfl
theorem qabn {id i : Nat} : qamk id Q (.exit i) s = if i = id then Q .normal s else Q (.exit i) s := rfl
theorem qab7 {I : SSt → Nat → Prop} {n i : Nat} : QLoop X I n Q (.exit i) s = Q (.exit i) s := rfl
theorem qaao {I : SSt → Nat → Prop} {n : Nat} : QLoop X I n Q .ret s = Q .ret s := rfl
theorem qaap {a b : Int} (h1 : -9223372036854775808 ≤ a + b) (h2 : a + b ≤ 9223372036854775807) : IntKind.i64.wrap (a + b) = a + b := IntWalk.i64_in _ ⟨h1, h2⟩
theorem qaca (x : SV) : Co x x ↔ True := ⟨fun _ => trivial, fun _ => Co.refl x⟩
theorem qacx {k : IntKind} {a b : Int} (h : a = b) : Co (.int k a) (.int k b) := by rw [h]; exact Co.refl _
theorem qacs {i n m : Nat} (h : n = m) : Co (.own i n) (.own i m) := by rw [h]; exact Co.refl _
theorem qab9 {z : Nat} {xs ys : List (List SV)} (h : xs = ys) : Co (.view z xs) (.view z ys) := by rw [h]; exact Co.refl _
theorem qabp (z : Nat) : Co .nilsl (.view z []) ↔ True := ⟨fun _ => trivial, fun _ => Co.nilsl z⟩
theorem qac3 {xs ys : List SV} (h : CoL xs ys) : Co (.agg xs) (.agg ys) := Co.agg h
theorem qac2 {xs ys : List SV} (h : CoL xs ys) : Co (.tup xs) (.tup ys) := Co.tup h
theorem qabe (xs : List (List SV)) : CoLL xs xs ↔ True := ⟨fun _ => trivial, fun _ => CoLL.refl xs⟩
theorem qa1b {n : Int} (h : 0 ≤ n) (h2 : n < 18446744073709551616) : IntKind.u64.wrap n = n := by
 simp [IntKind.wrap, IntKind.bits, IntKind.signed]; omega
theorem qab6 {α : Type} {h : Decidable True} (o : Option α) : @rg α True h o = o := rg_pos trivial o
variable {P : Program} {dst : Option Nat} {op : SOp} {b : Nat} {os : List SOper} {tr : List Tch} {R : SSt → List Tch → Prop}
theorem qabl : SOps P [] s tr R = R s tr := rfl
def SOpsK (P : Program) (r : Option (SV × Upd × Nat)) (dst : Option Nat) (t : List Nat) (os : List SOper) (s : SSt) (tr : List Tch) (R : SSt → List Tch → Prop) : Prop := match r with
 | some (v, u, _) => SOps P os ⟨putd s.sl dst v, upds s.hp u, s.nx + 1⟩ (⟨t, u.map (·.1)⟩ :: tr) R
 | none => False
theorem qabk : SOps P (⟨dst, op, none, none, b⟩ :: os) s tr R = SOpsK P (op.run (·.ev s.sl) (geth s.hp) s.nx) dst (op.touch (·.ev s.sl)) os s tr R := rfl
theorem qaav {v : SV} {u : Upd} {n : Nat} {t : List Nat} : SOpsK P (some (v, u, n)) dst t os s tr R = SOps P os ⟨putd s.sl dst v, upds s.hp u, s.nx + 1⟩ (⟨t, u.map (·.1)⟩ :: tr) R := rfl
def SOpsC (P : Program) (f : SV) (args : List SV) (dst : Option Nat) (os : List SOper) (s : SSt) (tr : List Tch) (R : SSt → List Tch → Prop) : Prop := match f with
 | .fn (.func g) first cap => ∃ h1 r h2 rd n, SCalls P g (first ++ args ++ cap) h1 s.nx r h2 n ∧ SubH s.hp h1 ∧ Uniq h2 ∧ (∀ id ∈ rd, geth h2 id = geth h1 id) ∧
   SOps P os ⟨putd s.sl dst r, qaby s.hp h1 h2, s.nx + n⟩ (⟨rd, (idsH h1 ++ idsH h2).filter fun i => !rd.contains i⟩ :: tr) R
 | .fn (.method nm) [] [] => match args with
  | .ifc t x :: az => ∃ hm x' g h1 r h2 rd n, SubH s.hp hm ∧ Meth P (geth hm) t x nm g x' ∧ SCalls P g (x' :: az) h1 s.nx r h2 n ∧ SubH s.hp h1 ∧ Uniq h2 ∧ (∀ id ∈ rd, geth h2 id = geth h1 id) ∧
    SOps P os ⟨putd s.sl dst r, qaby s.hp h1 h2, s.nx + n⟩ (⟨idsH hm ++ rd, (idsH h1 ++ idsH h2).filter fun i => !rd.contains i⟩ :: tr) R
  | _ => False
 | _ => False
theorem qaa9 {f : SX} {args : List SX} : SOps P (⟨dst, op, some (f, args), none, b⟩ :: os) s tr R = SOpsC P (f.ev s.sl) (args.map (·.ev s.sl)) dst os s tr R := by
 simp only [SOps, SOp1, SOpsC]
 all_goals generalize f.ev s.sl = v
 all_goals cases v
 all_goals (first | rfl | (rename_i f' _ _; cases f' <;> rfl))
theorem call_do {g : FuncId} {first cap args : List SV} {h1 h2 : Hp} {r : SV} {n : Nat} (h : SCalls P g (first ++ args ++ cap) h1 s.nx r h2 n) (hs : SubH s.hp h1) (hu : Uniq h2) (rd : List Nat) (hr : ∀ id ∈ rd, geth h2 id = geth h1 id)
  (hn : SOps P os ⟨putd s.sl dst r, qaby s.hp h1 h2, s.nx + n⟩ (⟨rd, (idsH h1 ++ idsH h2).filter fun i => !rd.contains i⟩ :: tr) R) : SOpsC P (.fn (.func g) first cap) args dst os s tr R := ⟨h1, r, h2, rd, n, h, hs, hu, hr, hn⟩
theorem qacl {g : FuncId} {args : List SV} {r : SV} (h : SCalls P g args [] s.nx r []) (hn : SOps P os ⟨putd s.sl dst r, s.hp, s.nx + 8⟩ (⟨[], []⟩ :: tr) R) : SOpsC P (.fn (.func g) [] []) args dst os s tr R :=
 ⟨[], r, [], [], 8, by simpa using h, trivial, trivial, by simp, hn⟩
def qarq (P : Program) (v : SV) (want : Bool) (o : SOper) (os : List SOper) (s : SSt) (tr : List Tch) (R : SSt → List Tch → Prop) : Prop := match v with
 | .bool b => (b = want → SOps P (⟨o.dst, o.op, o.cal, none, o.bef⟩ :: os) s tr R) ∧ (b ≠ want → SOps P os (s.skip o) (⟨[], []⟩ :: tr) R)
 | .tup [] => SOps P os (s.skip o) (⟨[], []⟩ :: tr) R
 | _ => False
theorem qaaw {c : Option (SX × List SX)} {t : Nat} {want : Bool} : SOps P (⟨dst, op, c, some (t, want), b⟩ :: os) s tr R = qarq P (gets s.sl t) want ⟨dst, op, c, some (t, want), b⟩ os s tr R := by
 cases c with
 | none => (simp only [SOps, qarq, SOp1]; all_goals rfl)
 | some fa => (simp only [SOps, qarq, SOp1]; all_goals rfl)
theorem qaa8 {want : Bool} {c : Option (SX × List SX)} {g : Option (Nat × Bool)} : qarq P (.bool want) want ⟨dst, op, c, g, b⟩ os s tr R = SOps P (⟨dst, op, c, none, b⟩ :: os) s tr R := by simp [qarq]
theorem qar1 {want w' : Bool} {o : SOper} (h : (w' == want) = false) : qarq P (.bool w') want o os s tr R = SOps P os (s.skip o) (⟨[], []⟩ :: tr) R := by
 have : w' ≠ want := by simpa using h
 simp [qarq, this]
theorem qabi {o : SOper} : qarq P (.bool true) false o os s tr R = SOps P os (s.skip o) (⟨[], []⟩ :: tr) R := qar1 rfl
theorem qabj {o : SOper} : qarq P (.bool false) true o os s tr R = SOps P os (s.skip o) (⟨[], []⟩ :: tr) R := qar1 rfl
theorem qaaq {want : Bool} {o : SOper} : qarq P (.tup []) want o os s tr R = SOps P os (s.skip o) (⟨[], []⟩ :: tr) R := rfl
def FrzOk (hp : Hp) : List Nat → Prop
 | [] => True
 | i :: D => (match geth hp i with | some o => qa5b o | none => True) ∧ FrzOk hp D
theorem FrzOk.get {hp : Hp} : ∀ {D : List Nat}, FrzOk hp D → ∀ id o, D.contains id = true → geth hp id = some o → qa5b o
 | [], _, id, o, h, _ => by simp at h
 | i :: D, h, id, o, hc, ho => by
  by_cases e : id = i
  ·subst e; have := h.1; rw [ho] at this; exact this
  ·refine FrzOk.get h.2 id o ?_ ho
   simpa [e] using hc
theorem qabc (k : IntKind) (n : Int) : qajx (.int k n) ↔ True := ⟨fun _ => trivial, fun _ => qasi k n⟩
theorem qaay (b : Bool) : qajx (.bool b) ↔ True := ⟨fun _ => trivial, fun _ => qamz b⟩
theorem qaba (b : ByteArray) : qajx (.str b) ↔ True := ⟨fun _ => trivial, fun _ => qasg b⟩
theorem qabb : qajx .nil ↔ True := ⟨fun _ => trivial, fun _ => qash⟩
theorem qaar : qajx .nilsl ↔ True := ⟨fun _ => trivial, fun _ => qaid⟩
theorem qaax (z : Nat) (es : List (List SV)) : qajx (.view z es) ↔ True := ⟨fun _ => trivial, fun _ => qamy z es⟩
theorem qabo (cs : List SV) : qajx (.cp cs) ↔ True := ⟨fun _ => trivial, fun _ => qa1h cs⟩
theorem qaaz : qaml [] ↔ True := ⟨fun _ => trivial, fun _ => qax5⟩
theorem qaat (x : SV) (xs : List SV) : qaml (x :: xs) ↔ qajx x ∧ qaml xs := ⟨fun h => ⟨h x (by simp), fun y hy => h y (by simp [hy])⟩, fun h => qasj h.1 h.2⟩
theorem qabd (e z : Nat) (es : List (List SV)) : qa5b (.row e z es) ↔ ∀ x ∈ es, qaml x := Iff.rfl
theorem qaas (t : TypeId) (cs : List SV) : qa5b (.cells t cs) ↔ qaml cs := Iff.rfl
theorem qaan {α : Type} (f : α → List SV) (xs : List α) : (xs.map f).take xs.length = xs.map f := List.take_of_length_le (by simp)
end Go.Proofs.Ytbefmmajjfijnaa
namespace Go.Proofs.Ytbefmmajjfijnaa
set_option linter.all false
open Go.RowKit
variable {P : Program} {s : SSt} {os : List SOper} {o : SOper} {tr : List Tch} {R : SSt → List Tch → Prop}
theorem qaa6 {b want : Bool} (h1 : b = true → qarq P (.bool true) want o os s tr R) (h2 : b = false → qarq P (.bool false) want o os s tr R) : qarq P (.bool b) want o os s tr R := by
 cases b
 ·exact h2 rfl
 ·exact h1 rfl
theorem qaal {dst : Option Nat} {g : FuncId} {args : List SV} {h1 h2 : Hp} {r : SV} (h : SCalls P g args h1 s.nx r h2) (hs : SubH s.hp h1) (hu : Uniq h2)
  (hn : SOps P os ⟨putd s.sl dst r, qaby s.hp h1 h2, s.nx + 8⟩ (⟨[], (idsH h1 ++ idsH h2).filter fun i => ![].contains i⟩ :: tr) R) : SOpsC P (.fn (.func g) [] []) args dst os s tr R :=
 call_do (by simpa using h) hs hu [] (by simp) hn
theorem qaae {X : Cx} {Q : SExit → SSt → Prop} {id : Nat} {a b : SCode} (h : SWp X (.seq a b) (qamk id Q) s) : SWp X (.block id (.seq a b)) Q s := qaaj h
theorem qaft {X : Cx} {Q : SExit → SSt → Prop} {id : Nat} {d : Bool} {l : List SOper} {k : List Nat} (h : SWp X (.reg d l k) (qamk id Q) s) : SWp X (.block id (.reg d l k)) Q s := qaaj h
theorem swp_frz {X : Cx} {Q : SExit → SSt → Prop} {c : SCode} (D : List Nat) (hf : FrzOk s.hp D) (h : SWp X c Q ⟨frzS (geth s.hp) D s.sl, frzH (geth s.hp) D s.hp, s.nx⟩) : SWp X c Q s := qaep (wk_frz D hf.get) h
theorem qaj4 {c : Prop} {hd : Decidable c} {r : Option (SV × Upd × Nat)} {dst : Option Nat} {t : List Nat} (h : c) (hn : SOpsK P r dst t os s tr R) : SOpsK P (@rg _ c hd r) dst t os s tr R := by
 rw [rg_pos h]; exact hn
end Go.Proofs.Ytbefmmajjfijnaa
namespace Go.Proofs.Ytbefmmajjfijnaa
set_option linter.all false
open Go.RowKit
variable {X : Cx} {s : SSt}
structure Stop (p : Prop) : Prop where
 out : p
theorem qafs {Q : SExit → SSt → Prop} {c : SCode} (h : Stop (SWp X c Q s)) : SWp X c Q s := h.out
end Go.Proofs.Ytbefmmajjfijnaa
namespace Go.Proofs.Ytbefmmajjfijnaa
set_option linter.all false
open Go.RowKit
variable {w : World} {ρ : qab1} {fp : Nat → Nat → Prop} {O : Nat → Prop} {h1 : Hp}
theorem qae1 (k : Nat) : ¬ Live [] fp k := fun ⟨_, _, h, _⟩ => by cases h
def Lent (h1 : Hp) (x y : SV) : Prop := ∀ (O : Nat → Prop) (ρ : qab1) (fp : Nat → Nat → Prop) (w : World) (v : Value), HeapOk O ρ fp h1 w → RepV w (fun k => O k ∨ Live h1 fp k) ρ x v → RepV w (fun k => O k ∨ Live [] fp k) ρ y v
def qa5c (h1 : Hp) : List SV → List SV → Prop
 | [], [] => True
 | x :: xs, y :: ys => Lent h1 x y ∧ qa5c h1 xs ys
 | _, _ => False
theorem qa1s {k : Nat} : (O k ∨ Live [] fp k) → O k ∨ Live h1 fp k := fun hk => hk.elim .inl fun h => absurd h (qae1 k)
theorem qayd (x : SV) : Lent h1 x x := fun _ _ _ _ _ _ hx => hx.weaken fun _ hk _ => qa1s hk
theorem qaea : ∀ {xs ys}, qa5c h1 xs ys → xs.length = ys.length
 | [], [], _ => rfl
 | _ :: _, _ :: _, h => by simp [qaea h.2]
 | [], _ :: _, h => h.elim
 | _ :: _, [], h => h.elim
theorem qahm : ∀ {xs ys : List SV} {j : Nat} {y : SV}, qa5c h1 xs ys → ys[j]? = some y → ∃ x, xs[j]? = some x ∧ Lent h1 x y
 | x :: xs, y :: ys, 0, _, h, hy => by cases hy; exact ⟨x, rfl, h.1⟩
 | x :: xs, y :: ys, j + 1, _, h, hy => qahm (xs := xs) (ys := ys) (j := j) h.2 (by simpa using hy)
 | [], [], _, _, _, hy => by simp at hy
 | [], _ :: _, _, _, h, _ => h.elim
 | _ :: _, [], _, _, h, _ => h.elim
theorem qake {id z e : Nat} {es : List (List SV)} (ho : geth h1 id = some (.row e z es)) (hp : ∀ e ∈ es, qaml e) {n : Nat} (hn : n = es.length) : Lent h1 (.own id n) (.view z es) := fun O ρ fp w v hok hx => by
 subst hn
 obtain ⟨v0, us, how, ⟨hrep, huo⟩, hzs, hρ', hfp⟩ := hok.objs id _ ho
 generalize hn : es.length = n at hx
 cases hx with
 | own0 hρ => rw [List.eq_nil_of_length_eq_zero hn]; exact .view0 (by simp [maxLen]) (fun _ => rfl)
 | own hρ hnc hm =>
  rename_i b c
  rw [hρ] at hρ'
  have hp0 : qac5 v0 = some (b, c) := (Option.some.inj hρ').symm
  obtain ⟨hv0, hcell, hlt, _, _⟩ := qadd how hp0
  have hown : fp id b := (hfp b).2 (by rw [hv0]; rfl)
  have hval : ∀ i e j x, es[i]? = some e → e[j]? = some x → ∃ u, us[i * z + j]? = some u ∧ RepV w (fun k => O k ∨ Live h1 fp k) ρ x u := fun i e j x he hx => hrep.get (qae4 hzs he hx)
  refine .view (fun i j => us.getD (i * z + j) undef) hn hnc hm (fun hO => hO.elim (hok.lt b ⟨id, _, ho, hown⟩).2 (qae1 b)) hlt hzs (fun i e j x he hx => ?_) (fun i e j x he hx => ?_) (fun i e j x he hx => ?_)
  ·obtain ⟨u, h1, h2⟩ := hval i e j x he hx
   rw [Nat.zero_add, List.getD_eq_getElem?_getD, h1]
   exact hcell _ _ h1
  ·obtain ⟨u, h1, h2⟩ := hval i e j x he hx
   rw [List.getD_eq_getElem?_getD, h1]
   exact (hp e (List.mem_of_getElem? he) x (List.mem_of_getElem? hx) _ _ _ _ h2).weaken fun k hk _ => qa1s hk
  ·obtain ⟨u, h1, h2⟩ := hval i e j x he hx
   rw [List.getD_eq_getElem?_getD, h1]
   exact huo u (List.mem_of_getElem? h1)
def qage (x : SV) : Prop := ∀ w A A' ρ v, RepV w A ρ x v → RepV w A' ρ x v
theorem qafp (k : IntKind) (n : Int) : qage (.int k n) := fun w A A' ρ v h => by cases h; exact .int
theorem qact : qage .nilsl := fun w A A' ρ v h => by cases h; exact .nilsl
theorem qay0 (id n : Nat) : qage (.own id n) := fun w A A' ρ v h => by
 cases h with
 | own0 h => exact .own0 h
 | own h a b => exact .own h a b
def qajz (cs : List SV) : Prop := ∀ x ∈ cs, qage x
theorem qadk : qajz [] := fun x hx => by cases hx
theorem qabs {x : SV} {cs : List SV} (h : qage x) (hs : qajz cs) : qajz (x :: cs) := fun y hy => by
 rcases List.mem_cons.1 hy with e | e
 ·rw [e]; exact h
 ·exact hs y e
theorem qaiy {A A' : Nat → Prop} {cs : List SV} {vs : List Value} (hc : qajz cs) (h : Reps w A ρ cs vs) : Reps w A' ρ cs vs :=
 ⟨h.1, fun j x v hx hv => hc x (List.mem_of_getElem? hx) _ _ _ _ _ (h.2 j x v hx hv)⟩
theorem qanf {cs : List SV} (hc : qajz cs) : qage (.agg cs) := fun w A A' ρ v h => by
 cases h with
 | agg ho hl hh => exact .agg ho hl fun j x v hx hv => hc x (List.mem_of_getElem? hx) _ _ _ _ _ (hh j x v hx hv)
theorem qane {cs : List SV} (hc : qajz cs) : qage (.tup cs) := fun w A A' ρ v h => by
 cases h with
 | tup hl hh => exact .tup hl fun j x v hx hv => hc x (List.mem_of_getElem? hx) _ _ _ _ _ (hh j x v hx hv)
def qajy : SObj → Prop
 | .cells _ cs => qajz cs
 | .row _ _ es => ∀ e ∈ es, qajz e
 | .abs _ => False
theorem qafo {A A' : Nat → Prop} {id : Nat} {F : Nat → Prop} {o : SObj} (hc : qajy o) (h : ObjRep w A ρ id F o) : ObjRep w A' ρ id F o := by
 cases o with
 | cells t cs =>
  obtain ⟨b, c, vs, q1, q2, ⟨q3, q4⟩, q5⟩ := h
  exact ⟨b, c, vs, q1, q2, ⟨qaiy hc q3, q4⟩, q5⟩
 | row e z es =>
  obtain ⟨v, vs, q1, ⟨q2, q3⟩, q4, q5, q6⟩ := h
  exact ⟨v, vs, q1, ⟨qaiy (fun x hx => by obtain ⟨e, he, hx⟩ := List.mem_flatten.1 hx; exact hc e he x hx) q2, q3⟩, q4, q5, q6⟩
 | abs I => exact hc.elim
theorem qacr (h1 h2 : Hp) (id : Nat) : geth (h1 ++ h2) id = match geth h1 id with | some o => some o | none => geth h2 id := by
 induction h1 with
 | nil => rfl
 | cons p h1 ih =>
  obtain ⟨i, o⟩ := p
  rw [List.cons_append]
  simp only [geth]
  split
  ·rfl
  ·exact ih
theorem qanq {P : Program} {f : FuncId} {args args' : List SV} {h1 h2 : Hp} {q n : Nat} {r : SV} (h : SCalls P f args' [] q r h2 n) (ha : qa5c h1 args args') (hr : qage r) (hc : ∀ id o, geth h2 id = some o → qajy o)
  (hd : ∀ id, geth h1 id ≠ none → geth h2 id = none) : SCalls P f args h1 q r (h1 ++ h2) n := by
 refine ⟨h.ent, fun O ρ fp w vs hok hargs hfr => ?_⟩
 have hargs' : Reps w (fun k => O k ∨ Live [] fp k) ρ args' vs := by
  refine ⟨by rw [← qaea ha]; exact hargs.1, fun j y v hy hv => ?_⟩
  obtain ⟨x, h1, h2⟩ := qahm ha hy
  exact h2 O ρ fp w v hok (hargs.2 j x v h1 hv)
 refine (h.does O ρ fp w vs ⟨fun id o ho => (by cases ho), fun id id' o o' _ ho => (by cases ho), fun k hk => absurd hk (qae1 k), hok.O_lt⟩ hargs' hfr).mono ?_
 rintro e w' ⟨v, ρ', fp', rfl, hk, hv, hst, hρ, hnew, hfp⟩
 have hst' : ∀ S : Nat → Prop, Step S w w' := fun S => hst.mono fun k hk => absurd hk (qae1 k)
 have hbig : ∀ id o, geth h2 id = some o → ∀ k, fp' id k → w.heap.size ≤ k := fun id o ho k hk => (hfp id o ho k hk).elim (fun h => absurd h (qae1 k)) fun h => h
 have hg : ∀ id o, geth (h1 ++ h2) id = some o → geth h1 id = some o ∧ geth h2 id = none ∨ geth h1 id = none ∧ geth h2 id = some o := fun id o ho => by
  rw [qacr] at ho
  cases e : geth h1 id with
  | some o' => rw [e] at ho; cases ho; exact .inl ⟨rfl, hd id (by rw [e]; simp)⟩
  | none => rw [e] at ho; exact .inr ⟨rfl, ho⟩
 let F : Nat → Nat → Prop := fun id k => (geth h2 id ≠ none ∧ fp' id k) ∨ (geth h2 id = none ∧ fp id k)
 have F1 : ∀ id, geth h2 id = none → F id = fp id := fun id hn => by funext k; simp [F, hn]
 have F2 : ∀ id o, geth h2 id = some o → F id = fp' id := fun id o hn => by funext k; simp [F, hn]
 have hav : ∀ k, (O k ∨ Live (h1 ++ h2) F k) → k < w.heap.size → O k ∨ Live h1 fp k := by
  rintro k (hO | ⟨id, o, ho, hk'⟩) hlt
  ·exact .inl hO
  ·rcases hg id o ho with ⟨q1, q2⟩ | ⟨q1, q2⟩
   ·rw [F1 id q2] at hk'; exact .inr ⟨id, o, q1, hk'⟩
   ·rw [F2 id o q2] at hk'; exact absurd (hbig id o q2 k hk') (by omega)
 refine ⟨v, ρ', F, rfl, ⟨fun id o ho => ?_, fun id id' o o' hne ho ho' k hk' hk2 => ?_, ?_, hk.O_lt⟩, hr _ _ _ _ _ hv, hst' _, hρ, hnew, fun id o ho k hk' => ?_⟩
 ·rcases hg id o ho with ⟨q1, q2⟩ | ⟨q1, q2⟩
  ·rw [F1 id q2]
   exact (hok.objs id o q1).mono ⟨hst' _, hav, hρ⟩ fun k hk' => hst.block k (hok.lt k ⟨id, o, q1, hk'⟩).1 (qae1 k)
  ·rw [F2 id o q2]
   exact qafo (hc id o q2) (hk.objs id o q2)
 ·rcases hg id o ho with ⟨q1, q2⟩ | ⟨q1, q2⟩ <;> rcases hg id' o' ho' with ⟨q3, q4⟩ | ⟨q3, q4⟩
  ·rw [F1 id q2] at hk'; rw [F1 id' q4] at hk2; exact hok.disj id id' o o' hne q1 q3 k hk' hk2
  ·rw [F1 id q2] at hk'; rw [F2 id' o' q4] at hk2
   have := (hok.lt k ⟨id, o, q1, hk'⟩).1; have := hbig id' o' q4 k hk2; omega
  ·rw [F2 id o q2] at hk'; rw [F1 id' q4] at hk2
   have := (hok.lt k ⟨id', o', q3, hk2⟩).1; have := hbig id o q2 k hk'; omega
  ·rw [F2 id o q2] at hk'; rw [F2 id' o' q4] at hk2; exact hk.disj id id' o o' hne q2 q4 k hk' hk2
 ·rintro k ⟨id, o, ho, hk'⟩
  rcases hg id o ho with ⟨q1, q2⟩ | ⟨q1, q2⟩
  ·rw [F1 id q2] at hk'
   have := hok.lt k ⟨id, o, q1, hk'⟩
   exact ⟨Nat.lt_of_lt_of_le this.1 hst.size, this.2⟩
  ·rw [F2 id o q2] at hk'
   exact hk.lt k ⟨id, o, q2, hk'⟩
 ·rcases hg id o ho with ⟨q1, q2⟩ | ⟨q1, q2⟩
  ·rw [F1 id q2] at hk'; exact .inl ⟨id, o, q1, hk'⟩
  ·rw [F2 id o q2] at hk'; exact .inr (hbig id o q2 k hk')
theorem qagq {P : Program} {f : FuncId} {args args' : List SV} {h1 : Hp} {q : Nat} {r : SV} (h : SCalls P f args' [] q r []) (ha : qa5c h1 args args') (hr : qage r) : SCalls P f args h1 q r h1 := by
 have := qanq h ha hr (fun id o ho => by cases ho) fun _ _ => rfl
 rwa [List.append_nil] at this
theorem qag2 {i : Nat} {x : SObj} {h : Hp} (hx : qajy x) (hh : ∀ id o, geth h id = some o → qajy o) : ∀ id o, geth ((i, x) :: h) id = some o → qajy o := fun id o ho => by
 simp only [geth] at ho
 split at ho
 ·cases ho; exact hx
 ·exact hh id o ho
theorem qatj : ∀ id o, geth [] id = some o → qajy o := fun id o ho => by cases ho
end Go.Proofs.Ytbefmmajjfijnaa
namespace Go.Proofs.Ytbefmmajjfijnaa
set_option linter.all false
open Go.RowKit
class PureF {α : Type} (f : α → List SV) : Prop where
 ren : ∀ σ x, (f x).map (Go.Proofs.Ytbefmmajjfijnaa.ren σ) = f x
 ok : ∀ x, (f x).all ok2 = true
 pure : ∀ x, qaml (f x)
theorem qa2o {α : Type} (f : α → List SV) [PureF f] (σ : Nat → Nat) (xs : List α) : (xs.map f).map (·.map (ren σ)) = xs.map f := by
 rw [List.map_map]; exact List.map_congr_left fun x _ => PureF.ren σ x
theorem rowf_ok {α : Type} (f : α → List SV) [PureF f] (xs : List α) : ∀ x ∈ xs.map f, x.all ok2 = true := fun x hx => by obtain ⟨b, _, rfl⟩ := List.mem_map.1 hx; exact PureF.ok b
theorem qax0 {α : Type} (f : α → List SV) [PureF f] (xs : List α) : ∀ x ∈ xs.map f, qaml x := fun x hx => by obtain ⟨b, _, rfl⟩ := List.mem_map.1 hx; exact PureF.pure b
theorem qab8 (cs : List SV) (h : cs.all (fun x => match x with | .int _ _ | .bool _ | .str _ | .nil | .nilsl | .view _ _ | .cp _ => true | _ => false) = true) : qaml cs := fun x hx => by
 have := List.all_eq_true.1 h x hx
 cases x <;> first | exact qasi _ _ | exact qamz _ | exact qasg _ | exact qash | exact qaid | exact qamy _ _ | exact qa1h _ | simp at this
instance pureF_int (k : IntKind) : PureF (fun n : Int => [SV.int k n]) := ⟨fun _ _ => rfl, fun _ => rfl, fun _ => qab8 _ rfl⟩
instance pureF_bool : PureF (fun b : Bool => [SV.bool b]) := ⟨fun _ _ => rfl, fun _ => rfl, fun _ => qab8 _ rfl⟩
class PureR (fs : List (List SV)) : Prop where
 ren : ∀ σ, fs.map (·.map (Go.Proofs.Ytbefmmajjfijnaa.ren σ)) = fs
 ok : ∀ x ∈ fs, x.all ok2 = true
 pure : ∀ x ∈ fs, qaml x
instance pureR_map {α : Type} (f : α → List SV) [PureF f] (xs : List α) : PureR (xs.map f) := ⟨fun σ => qa2o f σ xs, rowf_ok f xs, qax0 f xs⟩
theorem pureR_O (e z : Nat) (fs : List (List SV)) [PureR fs] : qa5b (.row e z fs) ↔ True := ⟨fun _ => trivial, fun _ => PureR.pure⟩
def setS : Sl → Nat → SV → Sl
 | [], t, v => [(t, v)]
 | (u, x) :: l, t, v => if u = t then (t, v) :: l else (u, x) :: setS l t v
def qa46 : Sl → List (Nat × SV) → Sl
 | l, [] => l
 | l, (t, v) :: r => qa46 (setS l t v) r
def qa48 : Hp → List (Nat × SObj) → Hp
 | h, [] => h
 | h, (i, o) :: r => qa48 (puth h i o) r
def SSt.turn (s : SSt) (sl : List (Nat × SV)) (hp : List (Nat × SObj)) : SSt := ⟨qa46 s.sl sl, qa48 s.hp hp, s.nx⟩
variable {X : Cx} {s s' : SSt} {Q : SExit → SSt → Prop} {σ : Nat → Nat} {sl : Sl} {hp : Hp}
theorem qaaa : SlotsM σ sl [] := trivial
theorem qaac : ObjsM σ hp [] := trivial
theorem qanw {i : Nat} {t : TypeId} {cs ds : List SV} {r : Hp} (h : geth hp (σ i) = some (.cells t cs)) (h2 : CoL cs (ds.map (ren σ))) (g : ObjsM σ hp r) : ObjsM σ hp ((i, .cells t ds) :: r) := ⟨⟨_, h, rfl, h2⟩, g⟩
theorem qax9 {i e z : Nat} {es fs : List (List SV)} {r : Hp} (h : geth hp (σ i) = some (.row e z es)) (h2 : fs.map (·.map (ren σ)) = fs) (h3 : es = fs) (g : ObjsM σ hp r) : ObjsM σ hp ((i, .row e z fs) :: r) := ⟨⟨_, h, rfl, rfl, by rw [h2, h3]; exact CoLL.refl _⟩, g⟩
theorem qasq {i e z : Nat} {es fs : List (List SV)} [PureR fs] {r : Hp} (h : geth hp (σ i) = some (.row e z es)) (h3 : es = fs) (g : ObjsM σ hp r) : ObjsM σ hp ((i, .row e z fs) :: r) := qax9 h (PureR.ren σ) h3 g
theorem qasr {i e z : Nat} {es fs : List (List SV)} {r : Hp} (h : geth hp (σ i) = some (.row e z es)) (h3 : CoLL es (fs.map (·.map (ren σ)))) (g : ObjsM σ hp r) : ObjsM σ hp ((i, .row e z fs) :: r) := ⟨⟨_, h, rfl, rfl, h3⟩, g⟩
theorem qaa0 {i : Nat} {I : AbsI} {r : Hp} (h : geth hp (σ i) = some (.abs I)) (g : ObjsM σ hp r) : ObjsM σ hp ((i, .abs I) :: r) := ⟨⟨_, h, rfl⟩, g⟩
theorem qati {f : SV → SV} : CoL [] (List.map f []) := trivial
theorem qand {f : SV → SV} {x y : SV} {xs ys : List SV} (h : Co x (f y)) (g : CoL xs (ys.map f)) : CoL (x :: xs) ((y :: ys).map f) := ⟨h, g⟩
def diag (m : Nat) (E : List (Nat × Nat)) (hp : Hp) : List (Nat × Nat) := ((List.range m ++ (idsH hp).filter fun i => decide (m ≤ i)).filter fun i => !(E.any fun p => p.1 == i)).map fun i => (i, i)
theorem qaag (E : List (Nat × Nat)) {m : Nat} (hm : X.m = m) (hsl : SlotsM (rn (E ++ diag m E s'.hp) s.nx) s.sl s'.sl) (hhp : ObjsM (rn (E ++ diag m E s'.hp) s.nx) s.hp s'.hp) (hok : qabu m s'.nx (E ++ diag m E s'.hp) s'.hp = true) (hle : m ≤ s'.nx) : Wk X s s' := wk_list _ hm hok hle hsl hhp
theorem qaa5 {α : Type} {c : SCode} (F : SSt → α → SSt) (I : α → Prop) (μ : α → Nat) (a : α) (hw : Wk X s (F s a)) (h0 : I a) (h : ∀ J : SSt → Nat → Prop, RowKit.Hid (∀ a, I a → J (F s a) (μ a)) → ∀ a, I a → SWp X c (QLoop X J (μ a) Q) (F s a)) : SWp X (.loop c) Q s :=
 qar0 (fun s' n => ∃ a, s' = F s a ∧ I a ∧ n = μ a) hw ⟨a, rfl, h0, rfl⟩ fun s' n ⟨a, e, hi, hn⟩ => by subst e hn; exact h _ (Lib.hid fun a hi => ⟨a, rfl, hi, rfl⟩) a hi
theorem qaah {α : Type} {F : α → SSt} {I : α → Prop} {μ : α → Nat} {n : Nat} {J : SSt → Nat → Prop} (hJ : RowKit.Hid (∀ a, I a → J (F a) (μ a))) (a : α) (hw : Wk X s' (F a)) (h0 : I a) (hn : μ a < n) : QLoop X J n Q .normal s' := ⟨F a, μ a, hw, (by have h : ∀ a, I a → J (F a) (μ a) := hJ; exact h a h0), hn⟩
theorem qacf {P : Program} {f : FuncId} {args : List SV} {t : TypeId} {cs ds : List SV} {r : SV} (h : SCalls P f (.ptr 0 0 :: args) [(0, .cells t cs)] 1 r [(0, .cells t ds)]) (ha : ∀ σ, args.map (Go.Proofs.Ytbefmmajjfijnaa.ren σ) = args)
  (hc : ∀ σ, cs.map (Go.Proofs.Ytbefmmajjfijnaa.ren σ) = cs) (hd : ∀ σ, ds.map (Go.Proofs.Ytbefmmajjfijnaa.ren σ) = ds) (hk : ds.all ok2 = true) (hr : ∀ σ, Go.Proofs.Ytbefmmajjfijnaa.ren σ r = r) (hk2 : ok2 r = true) (id q : Nat) (hq : id < q) : SCalls P f (.ptr id 0 :: args) [(id, .cells t cs)] q r [(id, .cells t ds)] := by
 have e0 : sg [id] q 0 = id := rfl
 refine qafw [id] h rfl (by simp) (by simp; omega) ?_ ?_ (by simp [idsH]) (hr _).symm hk2 ?_ (by simp [idsH]) (by simp [idsH, e0])
 ·rw [List.map_cons, ha]; simp [Go.Proofs.Ytbefmmajjfijnaa.ren, ren1, ren0, e0]
 ·exact ⟨⟨.cells t cs, by rw [e0]; simp [geth], rfl, by rw [hc]; exact CoL.refl _⟩, trivial⟩
 ·exact ⟨⟨.cells t ds, by rw [e0]; simp [geth], rfl, hk, (hd _).symm⟩, trivial⟩
def NoN (x : SV) : Prop := ∀ σ, Go.Proofs.Ytbefmmajjfijnaa.ren σ x = x
theorem wk_fin {t m : Nat} {v : SV} {nx : Nat} (hm : X.m = m) (hv : NoN v) (h0 : m = 0) : Wk X ⟨(t, v) :: sl, hp, nx⟩ ⟨[(t, v)], [], 0⟩ := by
 subst h0
 refine qaag [] hm ⟨?_, trivial⟩ trivial rfl (Nat.le_refl _)
 rw [hv]; simp only [gets, if_true]; exact Co.refl _
theorem qas3 {t nx : Nat} {v r : SV} (hm : X.m = 0) (h : v = r) (hv : NoN r) : QFun X [.tmp t] 0 r [] .ret ⟨(t, v) :: sl, hp, nx⟩ := by
 subst h
 exact ⟨_, wk_fin hm hv rfl, by simp [qamv, resL, resV, one_, gets], trivial, by simp⟩
theorem wk_obj {t nx : Nat} {cs ds : List SV} {sl' : Sl} (hm : X.m = 1) (h : geth hp 0 = some (.cells t cs)) (e : cs = ds) (hd : ∀ σ, ds.map (Go.Proofs.Ytbefmmajjfijnaa.ren σ) = ds) (hs : SlotsM (rn ([] ++ diag 1 [] [(0, .cells t ds)]) nx) sl sl') : Wk X ⟨sl, hp, nx⟩ ⟨sl', [(0, .cells t ds)], 1⟩ := by
 subst e
 refine qaag [] hm hs ⟨⟨_, h, rfl, ?_⟩, trivial⟩ rfl (Nat.le_refl _)
 rw [hd]; exact CoL.refl _
theorem qa3l {t nx : Nat} {cs ds : List SV} (hm : X.m = 1) (h : geth hp 0 = some (.cells t cs)) (e : cs = ds) (hd : ∀ σ, ds.map (Go.Proofs.Ytbefmmajjfijnaa.ren σ) = ds) : QFun X [] 1 (.tup []) [(0, .cells t ds)] .ret ⟨sl, hp, nx⟩ :=
 ⟨_, wk_obj (sl' := []) hm h e hd trivial, rfl, ⟨rfl, trivial⟩, by simp⟩
theorem qab4 {t nx : Nat} {cs ds : List SV} (hm : X.m = 1) (h : geth hp 0 = some (.cells t cs)) (e : cs = ds) (hd : ∀ σ, ds.map (Go.Proofs.Ytbefmmajjfijnaa.ren σ) = ds) : QFun X [] 1 (.tup []) [(0, .cells t ds)] .normal ⟨sl, hp, nx⟩ := qa3l hm h e hd
theorem qaih (k : IntKind) (n : Int) : NoN (.int k n) := fun _ => rfl
theorem qa28 (b : Bool) : NoN (.bool b) := fun _ => rfl
theorem qa27 (z : Nat) (es : List (List SV)) : NoN (.view z es) := fun _ => rfl
theorem wk_gets {sl' : Sl} {nx : Nat} (h : ∀ t, gets sl t = gets sl' t) : Wk X ⟨sl, hp, nx⟩ ⟨sl', hp, nx⟩ := fun ρ fp a w hs => ⟨ρ, fp, ⟨hs.sim.h, hs.sim.tmps, hs.sim.defers, fun t => by have := hs.sim.slots t; rw [show gets sl t = gets sl' t from h t] at this; exact this⟩, hs.fresh, hs.le⟩
theorem qam7 : ∀ (l : Sl) (t : Nat) (v : SV) (u : Nat), gets (setS l t v) u = if u = t then v else gets l u
 | [], t, v, u => by simp only [setS, gets, eq_comm]
 | (i, x) :: l, t, v, u => by
  simp only [setS]
  by_cases h : i = t
  ·subst h
   rw [if_pos rfl]
   simp only [gets]
   by_cases h2 : i = u
   ·subst h2; simp
   ·rw [if_neg h2, if_neg (fun e => h2 e.symm), if_neg h2]
  ·rw [if_neg h]
   simp only [gets]
   by_cases h2 : i = u
   ·subst h2; rw [if_pos rfl, if_neg h, if_pos rfl]
   ·rw [if_neg h2, if_neg h2]; exact qam7 l t v u
theorem qaxm (t e size : Nat) (h : gets s.sl t = .nilsl) : Wk X s ⟨setS s.sl t (.own s.nx 0), puth s.hp s.nx (.row e size []), s.nx + 1⟩ :=
 (qa17 t e size h).trans (wk_gets fun u => by rw [qafk, qam7])
theorem zA {a b : SCode} (h : SWp X a (QSeq X b Q) s) : SWp X (.seq a b) Q s := qamp h
theorem zK {l : List (SOper × Tch)} {p : Prop} (hp : p) (h : qakb l = true := by with_unfolding_all rfl) : qakb l = true ∧ p := ⟨h, hp⟩
theorem zM {t nx : Nat} {k : IntKind} {a b : Int} (hm : X.m = 0) (h : a = b) : QFun X [.tmp t] 0 (.int k b) [] .ret ⟨(t, .int k a) :: sl, hp, nx⟩ := qas3 hm (congrArg _ h) (qaih _ _)
theorem zN {t nx : Nat} {a b : Bool} (hm : X.m = 0) (h : a = b) : QFun X [.tmp t] 0 (.bool b) [] .ret ⟨(t, .bool a) :: sl, hp, nx⟩ := qas3 hm (congrArg _ h) (qa28 _)
theorem za {t : Nat} {v : SV} {r : Sl} (h : Co (gets sl t) (ren σ v)) (g : SlotsM σ sl r) : SlotsM σ sl ((t, v) :: r) := ⟨h, g⟩
theorem zb {i : Nat} {t : TypeId} (cs : List SV) {ds : List SV} {r : Hp} (h : geth hp (σ i) = some (.cells t cs)) (h2 : CoL cs (ds.map (ren σ))) (g : ObjsM σ hp r) : ObjsM σ hp ((i, .cells t ds) :: r) := qanw h h2 g
theorem zc {i e z : Nat} (es : List (List SV)) {fs : List (List SV)} [PureR fs] {r : Hp} (h : geth hp (σ i) = some (.row e z es)) (h3 : es = fs) (g : ObjsM σ hp r) : ObjsM σ hp ((i, .row e z fs) :: r) := qasq h h3 g
theorem zd {i e z : Nat} (es : List (List SV)) {fs : List (List SV)} {r : Hp} (h : geth hp (σ i) = some (.row e z es)) (h3 : CoLL es (fs.map (·.map (ren σ)))) (g : ObjsM σ hp r) : ObjsM σ hp ((i, .row e z fs) :: r) := qasr h h3 g
theorem zga {h : Hp} {i : Nat} {o : SObj} (e : geth h i = some o) : geth h i = some o := e
theorem zgb {m n : Nat} {l : List (Nat × Nat)} {h : Hp} (e : qabu m n l h = true) : qabu m n l h = true := e
theorem zgc {a b : List (List SV)} (e : a = b) : a = b := e
theorem zgd {a b : Nat} (e : a ≤ b) : a ≤ b := e
theorem zge {a b : Nat} (e : a < b) : a < b := e
theorem zT : (∀ (s : SSt) (l : List (Nat × SV)) (h : List (Nat × SObj)), s.turn l h = ⟨qa46 s.sl l, qa48 s.hp h, s.nx⟩) ∧ (∀ l, qa46 l [] = l) ∧ (∀ l t v r, qa46 l ((t, v) :: r) = qa46 (setS l t v) r) ∧ (∀ t v, setS [] t v = [(t, v)]) ∧ (∀ u x l t v, setS ((u, x) :: l) t v = if u = t then (t, v) :: l else (u, x) :: setS l t v) ∧ (∀ h, qa48 h [] = h) ∧ (∀ h i o r, qa48 h ((i, o) :: r) = qa48 (puth h i o) r) :=
 ⟨fun _ _ _ => rfl, fun l => by cases l <;> rfl, fun l t v r => by cases l <;> rfl, fun _ _ => rfl, fun _ _ _ _ _ => rfl, fun h => by cases h <;> rfl, fun h _ _ _ => by cases h <;> rfl⟩
end Go.Proofs.Ytbefmmajjfijnaa
namespace Go.Proofs.Ytbefmmajjfijnaa
set_option linter.all false
open Go.RowKit
theorem qagp {P : Program} {f : FuncId} {args : List SV} {h2 h2' : Hp} {r r' : SV} {n : Nat} (q : Nat) (hn0 : 0 < n) (h : SCalls P f args [] 0 r h2 n) (ha : ∀ σ, args.map (Go.Proofs.Ytbefmmajjfijnaa.ren σ) = args)
  (hr : r' = Go.Proofs.Ytbefmmajjfijnaa.ren (q + ·) r) (hrk : ok2 r = true) (hh2 : ObjsF (q + ·) h2' h2) (hlt2 : ∀ i ∈ idsH h2, i < n) (hb2 : idsH h2' = (idsH h2).map (q + ·)) : SCalls P f args [] q r' h2' n := by
 subst hr
 refine ⟨h.1, fun O ρ fp w vs hok hargs hfr => ?_⟩
 have hargs' : Reps w (fun k => O k ∨ Live [] fp k) (fun c => ρ (q + c)) args vs := qac7 (σ := (q + ·)) (by rw [ha]; exact hargs)
 have hlv : ∀ F : Nat → Nat → Prop, ∀ k, ¬ Live [] F k := fun F k ⟨_, _, h, _⟩ => by cases h
 have hw0 : ∀ F G : Nat → Nat → Prop, ∀ k, (O k ∨ Live [] F k) → O k ∨ Live [] G k := fun F G k hk => hk.imp (fun h => h) fun h => absurd h (hlv F k)
 refine (h.2 O (fun c => ρ (q + c)) (fun c => fp (q + c)) w vs ⟨fun c o ho => (by cases ho), fun c d o o' _ ho => (by cases ho), fun k hk => absurd hk (hlv _ k), hok.O_lt⟩ (hargs'.weaken fun k hk _ => hw0 _ _ k hk) (fun id _ h3 => hfr (q + id) (by omega) (by omega))).mono ?_
 rintro e w' ⟨v, ρc, fpc, rfl, q1, q2, q3, q4, q5, q6⟩
 let ρ' : qab1 := fun id => match ρ id with
  | some p => some p
  | none => if q ≤ id ∧ id < q + n then ρc (id - q) else none
 have hσ : ∀ c p, ρc c = some p → ρ' (q + c) = some p := fun c p hp => by
  cases e : ρ (q + c) with
  | some p0 =>
   have h5 := q4 c p0 e
   rw [hp] at h5; cases h5
   simp only [ρ', e]
  | none =>
   rcases q5 c (by rw [hp]; simp) with h3 | h3
   ·exact absurd e h3
   ·simp only [ρ', e]
    rw [if_pos (by omega), show q + c - q = c by omega]; exact hp
 let fp' : Nat → Nat → Prop := fun id k => ∃ c, geth h2 c ≠ none ∧ q + c = id ∧ fpc c k
 have hinv : ∀ id o', geth h2' id = some o' → ∃ c o, geth h2 c = some o ∧ q + c = id ∧ ObjF (q + ·) o o' := fun id o' ho' => by
  have h3 := qac9 (hp := h2') (id := id) (by rw [ho']; simp)
  rw [hb2] at h3
  obtain ⟨c, hc, rfl⟩ := List.mem_map.1 h3
  have h4 : geth h2 c ≠ none := qahu hc
  obtain ⟨o, h5⟩ := Option.ne_none_iff_exists'.1 h4
  obtain ⟨o2, h6, h7⟩ := hh2.get c o h5
  rw [ho'] at h6; cases h6
  exact ⟨c, o, h5, rfl, h7⟩
 have hfp : ∀ c o, geth h2 c = some o → fp' (q + c) = fpc c := fun c o ho => by
  funext k
  apply propext
  constructor
  ·rintro ⟨d, h3, h4, h5⟩
   rw [show d = c by omega] at h5; exact h5
  ·intro hk; exact ⟨c, by rw [ho]; simp, rfl, hk⟩
 have hlive : ∀ k, Live h2' fp' k → Live h2 fpc k := by
  rintro k ⟨id, o', ho', c, h3, h4, h5⟩
  obtain ⟨o, h6⟩ := Option.ne_none_iff_exists'.1 h3
  exact ⟨c, o, h6, h5⟩
 refine ⟨v, ρ', fp', rfl, ⟨fun id o' ho' => ?_, fun id id' o o' hne ho ho' k hk hk' => ?_, fun k hk => q1.lt k (hlive k hk), q1.O_lt⟩, (qasd hσ hrk q2).weaken fun k hk _ => hk.imp (fun h => h) (hlive k), q3.mono fun k hk => absurd hk (hlv _ k), fun id p hp => ?_, fun id hid => ?_, fun id o' ho' k hk => ?_⟩
 ·obtain ⟨c, o, h3, rfl, h4⟩ := hinv id o' ho'
  rw [hfp c o h3]
  exact (h4.fwd hσ (q1.objs c o h3)).weaken fun k hk _ => hk.imp (fun h => h) (hlive k)
 ·obtain ⟨c, oc, h3, rfl, _⟩ := hinv id o ho
  obtain ⟨d, od, h4, rfl, _⟩ := hinv id' o' ho'
  rw [hfp c oc h3] at hk
  rw [hfp d od h4] at hk'
  exact q1.disj c d oc od (fun e => hne (by rw [e])) h3 h4 k hk hk'
 ·simp only [ρ', hp]
 ·cases e : ρ id with
  | some p => exact .inl (by simp)
  | none =>
   simp only [ρ', e] at hid
   split at hid
   ·exact .inr ‹_›
   ·exact absurd rfl hid
 ·obtain ⟨c, o, h3, rfl, _⟩ := hinv id o' ho'
  rw [hfp c o h3] at hk
  exact (q6 c o h3 k hk).imp (fun h => absurd h (hlv _ k)) fun h => h
end Go.Proofs.Ytbefmmajjfijnaa
namespace Go.Proofs.Ytbefmmajjfijnaa
set_option linter.all false
open Go.RowKit
def PackN (N : Nat) (R : Hp → Prop) (w : World) (A Fp : Nat → Prop) (b : Nat) : Prop :=
 ∃ (h : Hp) (ρ : qab1) (fp : Nat → Nat → Prop) (c : Nat), R h ∧ ρ 0 = some (some (b, c)) ∧ (∀ id, N ≤ id → ρ id = none) ∧ (∀ id o, geth h id = some o → ObjRep w A ρ id (fp id) o) ∧
  (∀ id id' o o', id ≠ id' → geth h id = some o → geth h id' = some o' → ∀ k, fp id k → ¬ fp id' k) ∧ (∀ k, Live h fp k → k < w.heap.size) ∧ ∀ k, Fp k ↔ Live h fp k
def qa1j (N : Nat) (R : Hp → Prop) : AbsI where
 I := PackN N R
 lt := by rintro w A Fp b ⟨h, ρ, fp, c, _, _, _, _, _, h6, h7⟩ k hk; exact h6 k ((h7 k).1 hk)
 keep := by
  rintro w w' A A' Fp b ⟨h, ρ, fp, c, h1, h2, h3, h4, h5, h6, h7⟩ hs hA hb
  exact ⟨h, ρ, fp, c, h1, h2, h3, fun id o ho => (h4 id o ho).mono ⟨hs, hA, fun _ _ h => h⟩ fun k hk => hb k ((h7 k).2 ⟨id, o, ho, hk⟩), h5, fun k hk => Nat.lt_of_lt_of_le (h6 k hk) hs.size, h7⟩
def RenO (σ : Nat → Nat) : SObj → Prop
 | .cells _ cs => cs.map (Go.Proofs.Ytbefmmajjfijnaa.ren σ) = cs
 | .row _ _ es => es.map (·.map (Go.Proofs.Ytbefmmajjfijnaa.ren σ)) = es
 | .abs _ => True
theorem RenO.objM {σ : Nat → Nat} {o : SObj} (h : RenO σ o) : ObjM σ o o := by
 cases o with
 | cells t cs => exact ⟨rfl, by rw [show cs.map (Go.Proofs.Ytbefmmajjfijnaa.ren σ) = cs from h]; exact .refl _⟩
 | row e z es => exact ⟨rfl, rfl, by rw [show es.map (·.map (Go.Proofs.Ytbefmmajjfijnaa.ren σ)) = es from h]; exact .refl _⟩
 | abs I => rfl
def RenH (σ : Nat → Nat) : Hp → Prop
 | [] => True
 | (_, o) :: r => RenO σ o ∧ RenH σ r
theorem RenH.get {σ : Nat → Nat} : ∀ {h : Hp}, RenH σ h → ∀ id o, geth h id = some o → RenO σ o
 | [], _, id, o, h => by cases h
 | (i, x) :: r, h, id, o, hg => by
  simp only [geth] at hg
  split at hg
  ·cases hg; exact h.1
  ·exact RenH.get h.2 id o hg
theorem qa07 {X : Cx} {s : SSt} {N : Nat} {R : Hp → Prop} {hh hp' : Hp} {t : TypeId} {cs : List SV} (hR : R hh) (hN : 0 < N) (hroot : geth hh 0 = some (.cells t cs)) (hren : ∀ σ : Nat → Nat, (∀ i, i < N → σ i = i) → RenH σ hh) (hids : ∀ i ∈ idsH hh, i < N) (hsub : SubH s.hp hh) (h0 : geth hp' 0 = some (.abs (qa1j N R)))
  (hrest : ∀ id o, id ≠ 0 → geth hp' id = some o → geth s.hp id = some o ∧ geth hh id = none) : Wk X s ⟨s.sl, hp', s.nx⟩ := by
 intro ρ fp a w hs
 have hg := hsub.get
 let fp' : Nat → Nat → Prop := fun id k => (id = 0 ∧ Live hh fp k) ∨ (id ≠ 0 ∧ fp id k)
 have f0 : fp' 0 = Live hh fp := by funext k; simp [fp']
 have f1 : ∀ id, id ≠ 0 → fp' id = fp id := fun id h => by funext k; simp [fp', h]
 have hlive : ∀ k, Live hh fp k → Live s.hp fp k := fun k ⟨i, o, h1, h2⟩ => ⟨i, o, hg _ _ h1, h2⟩
 have hav : ∀ k, Av X hp' fp' k → Av X s.hp fp k := by
  rintro k (hO | ⟨id, o, ho, hk⟩)
  ·exact .inl hO
  ·by_cases e : id = 0
   ·subst e; rw [f0] at hk; exact .inr (hlive k hk)
   ·rw [f1 id e] at hk; exact .inr ⟨id, o, (hrest id o e ho).1, hk⟩
 let σ : Nat → Nat := fun i => if i < N then i else s.nx
 have hσ : ∀ {id o}, geth hh id = some o → id < N ∧ σ id = id := fun {id o} ho => by
  have := hids id (qac9 (by rw [ho]; simp))
  exact ⟨this, if_pos this⟩
 refine ⟨ρ, fp', ⟨⟨fun id o ho => ?_, fun id id' o o' hne ho ho' k hk hk' => ?_, fun id o ho k hk => ?_, hs.sim.h.step, hs.sim.h.keep⟩, hs.sim.tmps, hs.sim.defers, fun u => (hs.sim.slots u).weaken fun k hk _ => hav k hk⟩, hs.fresh, hs.le⟩
 ·by_cases e : id = 0
  ·subst e
   rw [h0] at ho; cases ho
   obtain ⟨b, c, vs, q1, _⟩ := hs.sim.h.objs 0 _ (hg _ _ hroot)
   refine ⟨b, c, q1, hh, fun i => ρ (σ i), fp, c, hR, by show ρ (σ 0) = _; rw [(hσ hroot).2]; exact q1, fun i hi => ?_, fun i o ho => ?_, fun i i' o o' hne ho ho' => hs.sim.h.disj i i' o o' hne (hg _ _ ho) (hg _ _ ho'), fun k ⟨i, o, ho, hk⟩ => (hs.sim.h.turn i o (hg _ _ ho) k hk).2, fun k => by rw [f0]⟩
   ·show ρ (if i < N then i else s.nx) = none
    rw [if_neg (by omega)]; exact hs.fresh _ (Nat.le_refl _)
   ·have h3 := hs.sim.h.objs i o (hg _ _ ho)
    have h6 := ((hren σ fun i hi => if_pos hi).get i o ho).objM
    have h8 : ObjRep w (Av X s.hp fp) ρ (σ i) (fp i) o := by rw [(hσ ho).2]; exact h3
    exact (h6.back h8).weaken fun k hk _ => hav k hk
  ·rw [f1 id e]
   exact (hs.sim.h.objs id o (hrest id o e ho).1).weaken fun k hk _ => hav k hk
 ·by_cases e : id = 0
  ·subst e
   rw [f0] at hk
   obtain ⟨i, oi, hi, hk⟩ := hk
   have e' : id' ≠ 0 := Ne.symm hne
   rw [f1 id' e'] at hk'
   obtain ⟨h1, h2⟩ := hrest id' o' e' ho'
   exact hs.sim.h.disj i id' oi o' (fun q => by rw [q, h2] at hi; cases hi) (hg _ _ hi) h1 k hk hk'
  ·rw [f1 id e] at hk
   obtain ⟨h1, h2⟩ := hrest id o e ho
   by_cases e' : id' = 0
   ·subst e'
    rw [f0] at hk'
    obtain ⟨i, oi, hi, hk'⟩ := hk'
    exact hs.sim.h.disj id i o oi (fun q => by rw [← q, h2] at hi; cases hi) h1 (hg _ _ hi) k hk hk'
   ·rw [f1 id' e'] at hk'
    exact hs.sim.h.disj id id' o o' hne h1 (hrest id' o' e' ho').1 k hk hk'
 ·by_cases e : id = 0
  ·subst e
   rw [f0] at hk
   obtain ⟨i, oi, hi, hk⟩ := hk
   exact hs.sim.h.turn i oi (hg _ _ hi) k hk
  ·rw [f1 id e] at hk
   exact hs.sim.h.turn id o (hrest id o e ho).1 k hk
theorem qah8 {X : Cx} {N : Nat} {R : Hp → Prop} {c : SCode} {Q : SExit → SSt → Prop} {sl : Sl} (hm : X.m ≤ 1) (hN : 0 < N) (hroot : ∀ hh, R hh → (∃ t cs, geth hh 0 = some (.cells t cs)) ∧ RenH (fun i => if i = 0 then N else i) hh)
  (k : ∀ hh, R hh → SWp X c Q ⟨sl, hh, N⟩) : SWp X c Q ⟨sl, [(0, .abs (qa1j N R))], 1⟩ := fun code hc ρ fp a w hs => by
 obtain ⟨b, c0, hρ0, hh, ρh, fph, c1, hR, hρh0, hnone, hobj, hdis, hlt, hiff⟩ := hs.sim.h.objs 0 _ (show geth [(0, SObj.abs (qa1j N R))] 0 = some _ from rfl)
 obtain ⟨⟨t, cs, hr0⟩, hren⟩ := hroot hh hR
 let σ : Nat → Nat := fun i => if i = 0 then N else i
 let ρ' : qab1 := fun id => if id = 0 then ρ 0 else ρh id
 have hρ' : ∀ id p, ρh (σ id) = some p → ρ' id = some p := fun id p hp => by
  by_cases e : id = 0
  ·have : σ id = N := if_pos e
   rw [this, hnone N (Nat.le_refl _)] at hp; cases hp
  ·have h1 : σ id = id := if_neg e
   rw [h1] at hp
   show (if id = 0 then _ else _) = _
   rw [if_neg e]; exact hp
 have hlv : ∀ k, Live hh fph k ↔ Live [(0, SObj.abs (qa1j N R))] fp k := fun k => by
  rw [← hiff k]
  constructor
  ·intro h; exact ⟨0, _, rfl, h⟩
  ·rintro ⟨id, o, ho, hk⟩
   simp only [geth] at ho
   split at ho
   ·rename_i e; subst e; exact hk
   ·cases ho
 have hav : ∀ k, Av X hh fph k → Av X [(0, SObj.abs (qa1j N R))] fp k := fun k hk => hk.imp (fun h => h) fun h => (hlv k).1 h
 refine k hh hR code hc ρ' fph a w ⟨⟨⟨fun id o ho => ?_, hdis, fun id o ho k hk => ?_, hs.sim.h.step, fun id hid => ?_⟩, hs.sim.tmps, hs.sim.defers, fun u => ?_⟩, fun id hid => ?_, by show X.m ≤ N; omega⟩
 ·have h1 := hobj id o ho
  have h2 := (hren.get id o ho).objM
  by_cases e : id = 0
  ·subst e
   rw [hr0] at ho; cases ho
   obtain ⟨b', c', vs, q1, q2, ⟨q3, q4⟩, q5⟩ := h1
   rw [hρh0] at q1; cases q1
   have q6 : Reps w _ (fun i => ρh (σ i)) cs vs := qac7 (by rw [show cs.map (Go.Proofs.Ytbefmmajjfijnaa.ren σ) = cs from hren.get 0 _ hr0]; exact q3)
   refine ⟨b, c0, vs, ?_, q2, ⟨q6.mono (.refl _ _) (fun k hk _ => hav k hk) hρ', q4⟩, q5⟩
   show (if 0 = 0 then _ else _) = _
   rw [if_pos rfl]; exact hρ0
  ·have h8 : ObjRep w (Av X [(0, SObj.abs (qa1j N R))] fp) ρh (σ id) (fph id) o := by rw [show σ id = id from if_neg e]; exact h1
   exact (h2.back h8).mono ⟨.refl _ _, fun k hk _ => hav k hk, hρ'⟩ fun _ _ => rfl
 ·exact hs.sim.h.turn 0 _ rfl k ((hiff k).2 ⟨id, o, ho, hk⟩)
 ·have e : id = 0 := by omega
  subst e
  show (if 0 = 0 then _ else _) = _
  rw [if_pos rfl]; exact hs.sim.h.keep 0 hid
 ·refine (hs.sim.slots u).mono (.refl _ _) (fun k hk _ => hav k hk) fun id p hp => ?_
  by_cases e : id = 0
  ·subst e
   show (if 0 = 0 then _ else _) = _
   rw [if_pos rfl]; exact hp
  ·rw [hs.fresh id (by show 1 ≤ id; omega)] at hp; cases hp
 ·show (if id = 0 then _ else _) = _
  have : N ≤ id := hid
  rw [if_neg (by omega)]; exact hnone id this
end Go.Proofs.Ytbefmmajjfijnaa
namespace Go.Proofs.Ytbefmmajjfijnaa
set_option linter.all false
open Go.RowKit
theorem qans {P : Program} {f : FuncId} {args : List SV} {I1 I2 : AbsI} {r : SV} (h : SCalls P f (.ptr 0 0 :: args) [(0, .abs I1)] 1 r [(0, .abs I2)]) (ha : ∀ σ, args.map (Go.Proofs.Ytbefmmajjfijnaa.ren σ) = args) (hr : ∀ σ, Go.Proofs.Ytbefmmajjfijnaa.ren σ r = r) (hk : ok2 r = true) (id q : Nat) (hq : id < q) : SCalls P f (.ptr id 0 :: args) [(id, .abs I1)] q r [(id, .abs I2)] := by
 have e0 : sg [id] q 0 = id := rfl
 refine qafw [id] h rfl (by simp) (by simp; omega) ?_ ?_ (by simp [idsH]) (hr _).symm hk ?_ (by simp [idsH]) (by simp [idsH, e0])
 ·rw [List.map_cons, ha]; simp [Go.Proofs.Ytbefmmajjfijnaa.ren, ren1, ren0, e0]
 ·exact ⟨⟨.abs I1, by rw [e0]; simp [geth], rfl⟩, trivial⟩
 ·exact ⟨⟨.abs I2, by rw [e0]; simp [geth], rfl⟩, trivial⟩
end Go.Proofs.Ytbefmmajjfijnaa
namespace Go.Proofs.Ytbefmmajjfijnaa
set_option linter.all false
open Go.RowKit
def qa06 : SObj → Prop
 | .abs I => ∀ w A A' F b, I.I w A F b → I.I w A' F b
 | o => qajy o
variable {w : World} {ρ : qab1}
theorem qatk {A A' : Nat → Prop} {id : Nat} {F : Nat → Prop} {o : SObj} (hc : qa06 o) (h : ObjRep w A ρ id F o) : ObjRep w A' ρ id F o := by
 cases o with
 | cells t cs => exact qafo hc h
 | row e z es => exact qafo hc h
 | abs I =>
  obtain ⟨b, c, h1, h2⟩ := h
  exact ⟨b, c, h1, hc _ _ _ _ _ h2⟩
theorem qaod {N : Nat} {R : Hp → Prop} (hR : ∀ hh, R hh → ∀ id o, geth hh id = some o → qajy o) : qa06 (.abs (qa1j N R)) := by
 rintro w A A' F b ⟨h, ρ, fp, c, h1, h2, h3, h4, h5⟩
 exact ⟨h, ρ, fp, c, h1, h2, h3, fun id o ho => qafo (hR h h1 id o ho) (h4 id o ho), h5⟩
theorem qa3a {h0 h1 : Hp} {fp : Nat → Nat → Prop} (hd : ∀ id, geth h1 id ≠ none → geth h0 id = none) (k : Nat) : Live (h0 ++ h1) fp k ↔ Live h0 fp k ∨ Live h1 fp k := by
 constructor
 ·rintro ⟨id, o, ho, hk⟩
  rw [qacr] at ho
  cases e : geth h0 id with
  | some o' => exact .inl ⟨id, o', e, hk⟩
  | none => rw [e] at ho; exact .inr ⟨id, o, ho, hk⟩
 ·rintro (⟨id, o, ho, hk⟩ | ⟨id, o, ho, hk⟩)
  ·exact ⟨id, o, by rw [qacr, ho], hk⟩
  ·exact ⟨id, o, by rw [qacr, hd id (by rw [ho]; simp)]; exact ho, hk⟩
theorem qaj5 {P : Program} {f : FuncId} {args args' : List SV} {h0 h1 h2 : Hp} {q n : Nat} {r : SV} (h : SCalls P f args' h0 q r h2 n) (ha : qa5c h1 args args') (hr : qage r) (hc : ∀ id o, geth h2 id = some o → qa06 o)
  (hd : ∀ id, geth h1 id ≠ none → geth h0 id = none ∧ geth h2 id = none) : SCalls P f args (h0 ++ h1) q r (h2 ++ h1) n := by
 refine ⟨h.ent, fun O ρ fp w vs hok hargs hfr => ?_⟩
 have la := qa3a (fp := fp) fun id hid => (hd id hid).1
 have g0 : ∀ {id o}, geth h0 id = some o → geth (h0 ++ h1) id = some o := fun {id o} ho => by rw [qacr, ho]
 have g1 : ∀ {id o}, geth h1 id = some o → geth (h0 ++ h1) id = some o := fun {id o} ho => by rw [qacr, (hd id (by rw [ho]; simp)).1]; exact ho
 have e1 : (fun k => O k ∨ Live (h0 ++ h1) fp k) = fun k => (O k ∨ Live h0 fp k) ∨ Live h1 fp k := by funext k; rw [la]; exact propext or_assoc.symm
 have hx : ∀ k, Live h1 fp k → ¬ Live h0 fp k := by
  rintro k ⟨id, o, ho, hk⟩ ⟨id', o', ho', hk'⟩
  have : id ≠ id' := fun e => by subst e; rw [(hd id (by rw [ho]; simp)).1] at ho'; cases ho'
  exact hok.disj id id' o o' this (g1 ho) (g0 ho') k hk hk'
 have ho1 : HeapOk (fun k => O k ∨ Live h0 fp k) ρ fp h1 w := ⟨fun id o ho => by rw [← e1]; exact hok.objs id o (g1 ho), fun id id' o o' hne ho ho' => hok.disj id id' o o' hne (g1 ho) (g1 ho'), fun k hk => ⟨(hok.lt k ((la k).2 (.inr hk))).1, fun h => h.elim (hok.lt k ((la k).2 (.inr hk))).2 (hx k hk)⟩, fun k hk => hk.elim (hok.O_lt k) fun h => (hok.lt k ((la k).2 (.inl h))).1⟩
 rw [e1] at hargs
 have hargs' : Reps w (fun k => O k ∨ Live h0 fp k) ρ args' vs := by
  refine ⟨by rw [← qaea ha]; exact hargs.1, fun j y v hy hv => ?_⟩
  obtain ⟨x, h3, h4⟩ := qahm ha hy
  exact (h4 _ ρ fp w v ho1 (hargs.2 j x v h3 hv)).weaken fun k hk _ => .inl hk
 have ho0 : HeapOk O ρ fp h0 w := ⟨fun id o ho => (hok.objs id o (g0 ho)).weaken fun k hk _ => hk.imp (fun h => h) fun h => (la k).2 (.inl h), fun id id' o o' hne ho ho' => hok.disj id id' o o' hne (g0 ho) (g0 ho'), fun k hk => hok.lt k ((la k).2 (.inl hk)), hok.O_lt⟩
 refine (h.does O ρ fp w vs ho0 hargs' hfr).mono ?_
 rintro e w' ⟨v, ρ', fp', rfl, hk, hv, hst, hρ, hnew, hfp⟩
 have hg : ∀ id o, geth (h2 ++ h1) id = some o → geth h1 id = some o ∧ geth h2 id = none ∨ geth h1 id = none ∧ geth h2 id = some o := fun id o ho => by
  rw [qacr] at ho
  cases e : geth h2 id with
  | some o' =>
   rw [e] at ho; cases ho
   refine .inr ⟨?_, rfl⟩
   cases e2 : geth h1 id with
   | none => rfl
   | some o2 => rw [(hd id (by rw [e2]; simp)).2] at e; cases e
  | none => rw [e] at ho; exact .inl ⟨ho, rfl⟩
 let F : Nat → Nat → Prop := fun id k => (geth h2 id ≠ none ∧ fp' id k) ∨ (geth h2 id = none ∧ fp id k)
 have F1 : ∀ id, geth h2 id = none → F id = fp id := fun id hn => by funext k; simp [F, hn]
 have F2 : ∀ id o, geth h2 id = some o → F id = fp' id := fun id o hn => by funext k; simp [F, hn]
 have hav : ∀ k, (O k ∨ Live (h2 ++ h1) F k) → k < w.heap.size → O k ∨ Live (h0 ++ h1) fp k := by
  rintro k (hO | ⟨id, o, ho, hk'⟩) hlt
  ·exact .inl hO
  ·rcases hg id o ho with ⟨q1, q2⟩ | ⟨q1, q2⟩
   ·rw [F1 id q2] at hk'; exact .inr ((la k).2 (.inr ⟨id, o, q1, hk'⟩))
   ·rw [F2 id o q2] at hk'
    rcases hfp id o q2 k hk' with h3 | h3
    ·exact .inr ((la k).2 (.inl h3))
    ·omega
 have hst2 : Step (Live (h0 ++ h1) fp) w w' := hst.mono fun k hk => (la k).2 (.inl hk)
 have hst3 : Step (fun k => O k ∨ Live (h0 ++ h1) fp k) w w' := hst2.mono fun k hk => .inr hk
 refine ⟨v, ρ', F, rfl, ⟨fun id o ho => ?_, fun id id' o o' hne ho ho' k hk' hk2 => ?_, ?_, hk.O_lt⟩, hr _ _ _ _ _ hv, hst2, hρ, hnew, fun id o ho k hk' => ?_⟩
 ·rcases hg id o ho with ⟨q1, q2⟩ | ⟨q1, q2⟩
  ·rw [F1 id q2]
   exact (hok.objs id o (g1 q1)).mono ⟨hst3, hav, hρ⟩ fun k hk' => hst.block k (hok.lt k ((la k).2 (.inr ⟨id, o, q1, hk'⟩))).1 (hx k ⟨id, o, q1, hk'⟩)
  ·rw [F2 id o q2]
   exact qatk (hc id o q2) (hk.objs id o q2)
 ·have key : ∀ i j o o', geth h1 i = some o → geth h2 j = some o' → ∀ k, fp i k → fp' j k → False := fun i j o o' hi hj k h3 h4 => by
   rcases hfp j o' hj k h4 with h5 | h5
   ·exact hx k ⟨i, o, hi, h3⟩ h5
   ·have := (hok.lt k ((la k).2 (.inr ⟨i, o, hi, h3⟩))).1; omega
  rcases hg id o ho with ⟨q1, q2⟩ | ⟨q1, q2⟩ <;> rcases hg id' o' ho' with ⟨q3, q4⟩ | ⟨q3, q4⟩
  ·rw [F1 id q2] at hk'; rw [F1 id' q4] at hk2; exact hok.disj id id' o o' hne (g1 q1) (g1 q3) k hk' hk2
  ·rw [F1 id q2] at hk'; rw [F2 id' o' q4] at hk2; exact key _ _ _ _ q1 q4 k hk' hk2
  ·rw [F2 id o q2] at hk'; rw [F1 id' q4] at hk2; exact key _ _ _ _ q3 q2 k hk2 hk'
  ·rw [F2 id o q2] at hk'; rw [F2 id' o' q4] at hk2; exact hk.disj id id' o o' hne q2 q4 k hk' hk2
 ·rintro k ⟨id, o, ho, hk'⟩
  rcases hg id o ho with ⟨q1, q2⟩ | ⟨q1, q2⟩
  ·rw [F1 id q2] at hk'
   have := hok.lt k ((la k).2 (.inr ⟨id, o, q1, hk'⟩))
   exact ⟨Nat.lt_of_lt_of_le this.1 hst.size, this.2⟩
  ·rw [F2 id o q2] at hk'
   exact hk.lt k ⟨id, o, q2, hk'⟩
 ·rcases hg id o ho with ⟨q1, q2⟩ | ⟨q1, q2⟩
  ·rw [F1 id q2] at hk'; exact .inl ((la k).2 (.inr ⟨id, o, q1, hk'⟩))
  ·rw [F2 id o q2] at hk'; exact (hfp id o q2 k hk').imp (fun h => (la k).2 (.inl h)) fun h => h
end Go.Proofs.Ytbefmmajjfijnaa
namespace Go.Proofs.Ytbefmmajjfijnaa
set_option linter.all false
open Go.RowKit
instance : PureR ([] : List (List SV)) := ⟨fun _ => rfl, fun x hx => (by cases hx), fun x hx => (by cases hx)⟩
theorem qa3m {X : Cx} {sl : Sl} {hp : Hp} {t u nx id id' e z nn n : Nat} {es : List (List SV)} [PureR es] {ty : TypeId} {cs ds : List SV} {r : SV} (hm : X.m = 0) (hne : t ≠ u) (hni : id ≠ id') (hv : gets sl t = .own id' nn) (hu : gets sl u = .ptr id 0) (h1 : geth hp id' = some (.row e z es)) (h : geth hp id = some (.cells ty cs)) (ha : qahf X.P ty = some true) (hn : qabt X.P ty = some n) (hl : ds.length = n) (hc : CoL cs ds) (hr : r = .tup [.own 0 nn, .agg ds]) (hd : ∀ σ, ds.map (Go.Proofs.Ytbefmmajjfijnaa.ren σ) = ds) : QFun X [.tmp t, .cell u ty] 0 r [(0, .row e z es)] .ret ⟨sl, hp, nx⟩ := by
 subst hr hl
 have hw : Wk X ⟨sl, hp, nx⟩ ⟨[(t, .own 0 nn), (u, .ptr 1 0)], [(0, .row e z es), (1, .cells ty ds)], 2⟩ := by
  refine qaag [(0, id'), (1, id)] hm ⟨?_, ?_, trivial⟩ ⟨⟨_, h1, rfl, rfl, ?_⟩, ⟨_, h, rfl, by rw [hd]; exact hc⟩, trivial⟩ ?_ (by simp)
  ·rw [hv]; exact Co.refl _
  ·rw [hu]; exact Co.refl _
  ·rw [PureR.ren]; exact CoLL.refl _
  ·simp [qabu, diag, idsH, hni, Ne.symm hni]
 refine ⟨_, hw, ?_, ⟨rfl, trivial⟩, by simp⟩
 simp [qamv, resL, resV, one_, gets, ha, hn, SOp.run, SX.ev, geth, hne]
end Go.Proofs.Ytbefmmajjfijnaa
namespace Go.Proofs.Ytbefmmajjfijnaa
set_option linter.all false
open Go.RowKit
def qadh (p : Nat → Bool) : Nat → Nat
 | 0 => 0
 | n + 1 => if qadh p n < n then qadh p n else if p n then n else n + 1
theorem qahy (p : Nat → Bool) (n : Nat) : qadh p n ≤ n := by
 induction n with
 | zero => simp [qadh]
 | succ n ih => simp only [qadh]; repeat' split
                all_goals omega
theorem qafe (p : Nat → Bool) (n i : Nat) (h : i < qadh p n) : p i = false := by
 induction n with
 | zero => simp [qadh] at h
 | succ n ih =>
  have hle := qahy p n
  simp only [qadh] at h
  split at h
  ·exact ih h
  ·split at h
   ·exact ih (by omega)
   ·rename_i h1 h2
    by_cases hi : i = n
    ·subst hi; simpa using h2
    ·exact ih (by omega)
theorem qana (p : Nat → Bool) (n : Nat) (h : qadh p n < n) : p (qadh p n) = true := by
 induction n with
 | zero => simp [qadh] at h
 | succ n ih =>
  simp only [qadh] at h ⊢
  split
  ·rename_i h1; exact ih h1
  ·split
   ·assumption
   ·rename_i h1 h2; rw [if_neg h1, if_neg h2] at h; omega
theorem qayu (p : Nat → Bool) (n i : Nat) (h : ∀ j, j < i → p j = false) (hp : p i = true) (hi : i < n) : qadh p n = i := by
 rcases Nat.lt_trichotomy (qadh p n) i with hlt | he | hgt
 ·have := qana p n (by omega)
  rw [h _ hlt] at this; cases this
 ·exact he
 ·have := qafe p n i hgt
  rw [hp] at this; cases this
theorem qan0 (p : Nat → Bool) (n : Nat) (h : ∀ j, j < n → p j = false) : qadh p n = n := by
 have hle := qahy p n
 by_cases hlt : qadh p n < n
 ·have := qana p n hlt
  rw [h _ hlt] at this; cases this
 ·omega
theorem qas2 (p : Nat → Bool) (n : Nat) (h : qadh p n = n) : ∀ j, j < n → p j = false := fun j hj => qafe p n j (by omega)
def qadt (l : List Int) : Nat → Int
 | 0 => 0
 | i + 1 => qadt l i + el l i
end Go.Proofs.Ytbefmmajjfijnaa
namespace Go.Proofs.Ytbefmmajjfijnaa
set_option linter.all false
open Go.RowKit
structure Ins where
 op : Int
 r : Int
 s : Int
 k : Int
 to : Int
 n : Int
 deriving Inhabited, DecidableEq
structure Shape where
 keys : Int
 acts : Int
 args : Int
 deriving Inhabited, DecidableEq
def Ins.wf (x : Ins) : Prop := Fits .i64 x.op ∧ Fits .i64 x.r ∧ Fits .i64 x.s ∧ Fits .i64 x.k ∧ Fits .i64 x.to ∧ Fits .u64 x.n
def Shape.wf (x : Shape) : Prop := Fits .i64 x.keys ∧ Fits .i64 x.acts ∧ Fits .i64 x.args
def Ins.cells (x : Ins) : List Value := [.int .i64 x.op, .int .i64 x.r, .int .i64 x.s, .int .i64 x.k, .int .i64 x.to, .int .u64 x.n]
def Shape.cells (x : Shape) : List Value := [.int .i64 x.keys, .int .i64 x.acts, .int .i64 x.args]
def Lay.flat {α : Type} (size : Nat) (enc : α → List Value) (ok : α → Prop) (hl : ∀ a, (enc a).length = size) : Lay α where
 size := size
 rep _ _ x cs := cs = enc x ∧ ok x
 len h := by rw [h.1]; exact hl _
 step h _ := h
 weaken h _ := h
end Go.Proofs.Ytbefmmajjfijnaa
namespace Go.Proofs.Ytbefmmajjfijnaa
set_option linter.all false
open Go.RowKit
theorem qanx : Try.prog.follows .mixedOrders = true := by kernel_rfl
end Go.Proofs.Ytbefmmajjfijnaa
namespace Go.Proofs.Ytbefmmajjfijnaa
set_option linter.all false
open Go.RowKit Go.ChangeShapes Go.WideShapes Go.Deep
structure Opens (P : Program) (t : TypeId) {α : Type} (L : Lay α) : Prop where
 size : P.cellsOf t = L.size
 pos : 0 < L.size
 opn : ∀ {H : Type} {enc : TypeId × Value → H} {w : World} {fuel : Nat} {cs : List Value} {x : DataW H × List MemPlace}, DataW.trod enc P w 0 (fun _ => true) true fuel t cs = some x → ∃ a, L.rep NoA w a cs
theorem Opens.int {P : Program} {t : TypeId} {k : IntKind} (hu : P.underlying t = some (.int k)) (hc : P.cellsOf t = 1) : Opens P t (Lay.int k) :=
 ⟨hc, Nat.one_pos, fun h => by obtain ⟨n, rfl, _, hw⟩ := DataW.trod_int hu h; exact ⟨n, rfl, hw⟩⟩
theorem Opens.bool {P : Program} {t : TypeId} (hu : P.underlying t = some .bool) (hc : P.cellsOf t = 1) : Opens P t Lay.bool :=
 ⟨hc, Nat.one_pos, fun h => by obtain ⟨n, rfl, _⟩ := DataW.trod_bool hu h; exact ⟨n, rfl⟩⟩
theorem Opens.weak {P : Program} {t : TypeId} {α β : Type} {L : Lay α} {M : Lay β} (h : Opens P t L) (hs : M.size = L.size) (f : ∀ {w a cs}, L.rep NoA w a cs → ∃ b, M.rep NoA w b cs) : Opens P t M :=
 ⟨h.size.trans hs.symm, by rw [hs]; exact h.pos, fun hx => by obtain ⟨a, ha⟩ := h.opn hx; exact f ha⟩
theorem Opens.slice {P : Program} {t e : TypeId} {α : Type} {L : Lay α} (h : Opens P e L) (hu : P.underlying t = some (.slice e)) (hc : P.cellsOf t = 1) : Opens P t (Lay.slice L) := by
 refine ⟨hc, Nat.one_pos, fun {H enc w fuel cs x} hx => ?_⟩
 rcases open_slice hu hx with ⟨rfl, _⟩ | ⟨a, len, cap, m, n, D, Pl, rfl, _, hl, hm, hmm, _, hi⟩
 ·exact ⟨[], none, 0, 0, rfl, RdL.nil_ _ _ _⟩
 ·simp at hmm
  subst hmm
  have hs : a.spot = none ∨ m = 0 := by
   rcases Nat.eq_zero_or_pos m with e | e
   ·exact .inr e
   ·left
    obtain ⟨cs', hc', _⟩ := hi 0 e
    obtain ⟨_, hcl, hat⟩ := World.cells?_some hc'
    have h0 := hat 0 (by rw [h.size]; exact h.pos)
    obtain ⟨b, off, spot⟩ := a
    cases spot with
    | none => rfl
    | some s =>
     rw [List.getElem?_eq_getElem (by rw [hcl, h.size]; exact h.pos)] at h0
     simp [Addr.add, World.cell?] at h0
     split at h0 <;> simp at h0
  rcases hs with hs | rfl
  ·obtain ⟨b, off, spot⟩ := a
   obtain rfl : spot = none := hs
   have hel : ∀ i, i < m → ∃ x, ∃ cs, L.rep NoA w x cs ∧ ∀ j, j < L.size → w.cell? ⟨b, off + i * L.size + j, none⟩ = cs[j]? := by
    intro i him
    obtain ⟨cs', hc', ht⟩ := hi i him
    obtain ⟨x, hr⟩ := h.opn ht
    obtain ⟨_, hcl, hat⟩ := World.cells?_some hc'
    refine ⟨x, cs', hr, fun j hj => ?_⟩
    have := hat j (by rw [h.size]; exact hj)
    rw [h.size, qad5, qad5] at this
    exact this
   have hex : ∀ i : Nat, ∃ x : Option α, i < m → ∃ y, x = some y ∧ ∃ cs, L.rep NoA w y cs ∧ ∀ j, j < L.size → w.cell? ⟨b, off + i * L.size + j, none⟩ = cs[j]? := by
    intro i
    by_cases him : i < m
    ·obtain ⟨x, hx⟩ := hel i him
     exact ⟨some x, fun _ => ⟨x, rfl, hx⟩⟩
    ·exact ⟨none, fun h => absurd h him⟩
   obtain ⟨f, hf⟩ := Classical.axiomOfChoice hex
   have hfs : ∀ i (hh : i < m), (f i).isSome := fun i hh => by obtain ⟨y, hy, _⟩ := hf i hh; rw [hy]; rfl
   let xs : List α := List.ofFn fun i : Fin len => (f i).get (hfs i (by omega))
   have hxl : xs.length = len := by simp [xs]
   refine ⟨xs, some ⟨b, off, none⟩, len, m, rfl, hxl, hl, hm, by simp, fun h0 => ?_⟩
   have hblk : b < w.heap.size := by
    obtain ⟨y, hy, cs, hr, hj⟩ := hf 0 (by omega)
    have h00 := hj 0 h.pos
    rw [List.getElem?_eq_getElem (by rw [L.len hr]; exact h.pos)] at h00
    exact block_lt_of_cell h00
   refine ⟨b, off, rfl, fun h => h, hblk, fun i hi' => ?_⟩
   obtain ⟨y, hy, cs, hr, hj⟩ := hf i (by omega)
   refine ⟨cs, ?_, hj⟩
   have : xs[i] = y := by simp [xs, hy]
   rw [this]; exact hr
  ·obtain rfl : len = 0 := by omega
   refine ⟨[], some a, 0, 0, rfl, rfl, Nat.le_refl _, hm, by simp, fun h => absurd h (by omega)⟩
def OpensF (P : Program) (fs : List Field) (off : Nat) {α : Type} (L : Lay α) : Prop :=
 ∀ {H : Type} {enc : TypeId × Value → H} {w : World} {cs : List Value}, (∀ f ∈ fs, ∃ fuel x, DataW.trod enc P w 0 (fun _ => true) true fuel f.type ((cs.drop f.offset).take (P.cellsOf f.type)) = some x) → cs.length = off + L.size → ∃ a, L.rep NoA w a (cs.drop off)
theorem OpensF.one {P : Program} {f : Field} {off : Nat} {α : Type} {L : Lay α} (h : Opens P f.type L) (ho : f.offset = off) : OpensF P [f] off L := by
 intro H enc w cs hf hl
 obtain ⟨fuel, x, hx⟩ := hf f (by simp)
 rw [ho, h.size, List.take_of_length_le (by simp; omega)] at hx
 exact h.opn hx
theorem OpensF.cons {P : Program} {f : Field} {fs : List Field} {off : Nat} {α β : Type} {L : Lay α} {M : Lay β} (h : Opens P f.type L) (ho : f.offset = off) (g : OpensF P fs (off + L.size) M) : OpensF P (f :: fs) off (Lay.pair L M) := by
 intro H enc w cs hf hl
 obtain ⟨fuel, x, hx⟩ := hf f (by simp)
 rw [ho, h.size] at hx
 obtain ⟨a, ha⟩ := h.opn hx
 obtain ⟨b, hb⟩ := g (cs := cs) (fun f' hf' => hf f' (List.mem_cons_of_mem _ hf')) (by rw [hl]; show _ = _; simp only [Lay.pair]; omega)
 refine ⟨(a, b), _, _, ?_, ha, hb⟩
 rw [← List.drop_drop, List.take_append_drop]
theorem Opens.struct {P : Program} {t : TypeId} {fs : List Field} {α : Type} {L : Lay α} (hu : P.underlying t = some (.struct fs.toArray)) (h : OpensF P fs 0 L) (hc : P.cellsOf t = L.size) (hp : 0 < L.size) : Opens P t L := by
 refine ⟨hc, hp, fun {H enc w fuel cs x} hx => ?_⟩
 obtain ⟨xs, n, _, _, hl, hxl, hf⟩ := DataW.trod_struct hu hx
 have := h (cs := cs) (enc := enc) (w := w) (fun f hf' => ?_) (by rw [hl, hc, Nat.zero_add])
 ·simpa using this
 ·obtain ⟨i, hi, rfl⟩ := List.getElem_of_mem hf'
  refine ⟨n, xs[i]'(by rw [hxl]; simpa using hi), ?_⟩
  rw [hf i _ (by simp [hi])]
  exact List.getElem?_eq_getElem _
theorem Opens.arg {P : Program} {t : TypeId} {fs : Array Field} {α : Type} {L : Lay α} (h : Opens P t L) (hu : P.underlying t = some (.struct fs)) {H : Type} {enc : TypeId × Value → H} {w : World} {r : Reach} {b0 : Nat} {v : Value} {d : DataW H} {p : List MemPlace}
  (hv : Value.okWide P w r b0 t v) (ht : DataW.Trod enc P w 0 (fun _ => true) true t v d p) : ∃ a cs, v = .agg cs ∧ L.rep NoA w a cs.toList := by
 obtain ⟨cs, rfl, _⟩ := okWide_struct hu hv
 obtain ⟨fuel, hf⟩ := ht
 obtain ⟨a, ha⟩ := h.opn hf
 exact ⟨a, cs, rfl, ha⟩
theorem Opens.argSlice {P : Program} {t e : TypeId} {α : Type} {L : Lay α} (h : Opens P e L) (hu : P.underlying t = some (.slice e)) (hc : P.cellsOf t = 1) {H : Type} {enc : TypeId × Value → H} {w : World} {r : Reach} {b0 : Nat} {v : Value} {d : DataW H} {p : List MemPlace}
  (hv : Value.okWide P w r b0 t v) (ht : DataW.Trod enc P w 0 (fun _ => true) true t v d p) : ∃ xs ao n cap, v = .slice ao n cap ∧ RdL L NoA w ao n cap xs := by
 obtain ⟨a, len, cap, rfl⟩ := okWide_slice hu hv
 obtain ⟨fuel, hf⟩ := ht
 obtain ⟨xs, ao, n, cap', e, hr⟩ := (h.slice hu hc).opn hf
 simp [Value.cells] at e
 obtain ⟨rfl, rfl, rfl⟩ := e
 exact ⟨xs, _, _, _, rfl, hr⟩
end Go.Proofs.Ytbefmmajjfijnaa
namespace Go.Proofs.Ytbefmmajjfijnaa
set_option linter.all false
open Go.RowKit Go.ChangeShapes Go.WideShapes
structure RefD where
 h : Int
 f : Int
structure PushD where
 op : Int
 r : RefD
 n : Int
structure HeadD where
 w : List Int
structure CaseD where
 value : Int
 mask : Int
 to_ : Int
structure StateD where
 head : Int
 on : RefD
 cases_ : List CaseD
 els : Int
structure OpD where
 kind : Int
 r : RefD
 head : Int
 e : List PushD
structure ActD where
 w : List Int
 ops : List OpD
structure TabD where
 kind : Int
 keys : List RefD
 acts : List Int
 cap : Int
 def_ : Int
 args : List Int
structure NodeD where
 kind : Int
 n : Int
 e : List PushD
 yes : Int
 no : Int
structure PlanD where
 heads : List HeadD
 meta_ : List Int
 states : List StateD
 acts : List ActD
 tabs : List TabD
 nodes : List NodeD
 out : List Int
def refc (r : RefD) : List SV := [.int .i64 r.h, .int .i64 r.f]
def qagg (p : PushD) : List SV := [.int .i64 p.op, .int .i64 p.r.h, .int .i64 p.r.f, .int .u64 p.n]
def qach (l : List PushD) : SV := .view 4 (l.map qagg)
def qaj1 (h : HeadD) : List SV := [nums .i64 h.w]
def qag3 (c : CaseD) : List SV := [.int .u64 c.value, .int .u64 c.mask, .int .i64 c.to_]
def qade (s : StateD) : List SV := [.int .i64 s.head, .int .i64 s.on.h, .int .i64 s.on.f, .view 3 (s.cases_.map qag3), .int .i64 s.els]
def opc (o : OpD) : List SV := [.int .i64 o.kind, .int .i64 o.r.h, .int .i64 o.r.f, .int .i64 o.head, qach o.e]
def actc (a : ActD) : List SV := [nums .i64 a.w, .view 5 (a.ops.map opc)]
def tabc (t : TabD) : List SV := [.int .i64 t.kind, .view 2 (t.keys.map refc), nums .i64 t.acts, .int .i64 t.cap, .int .i64 t.def_, nums .u64 t.args]
def qagu (n : NodeD) : List SV := [.int .i64 n.kind, .int .i64 n.n, qach n.e, .int .i64 n.yes, .int .i64 n.no]
def qadj (p : PlanD) : List SV := [.view 1 (p.heads.map qaj1), nums .i64 p.meta_, .view 5 (p.states.map qade), .view 2 (p.acts.map actc), .view 6 (p.tabs.map tabc), .view 5 (p.nodes.map qagu), nums .i64 p.out]
def i64L : Lay Int := Lay.int .i64
def u64L : Lay Int := Lay.int .u64
def qafx : Lay RefD := Lay.map (fun r => (r.h, r.f)) (Lay.pair i64L i64L)
def qafc : Lay PushD := Lay.map (fun p => (p.op, p.r, p.n)) (Lay.pair i64L (Lay.pair qafx u64L))
def qaik : Lay HeadD := Lay.map (fun h => h.w) (Lay.slice i64L)
def qaiz : Lay CaseD := Lay.map (fun c => (c.value, c.mask, c.to_)) (Lay.pair u64L (Lay.pair u64L i64L))
def qafu : Lay StateD := Lay.map (fun s => (s.head, s.on, s.cases_, s.els)) (Lay.pair i64L (Lay.pair qafx (Lay.pair (Lay.slice qaiz) i64L)))
def opLay : Lay OpD := Lay.map (fun o => (o.kind, o.r, o.head, o.e)) (Lay.pair i64L (Lay.pair qafx (Lay.pair i64L (Lay.slice qafc))))
def qaxf : Lay ActD := Lay.map (fun a => (a.w, a.ops)) (Lay.pair (Lay.slice i64L) (Lay.slice opLay))
def qarz : Lay TabD := Lay.map (fun t => (t.kind, t.keys, t.acts, t.cap, t.def_, t.args)) (Lay.pair i64L (Lay.pair (Lay.slice qafx) (Lay.pair (Lay.slice i64L) (Lay.pair i64L (Lay.pair i64L (Lay.slice u64L))))))
def qaig : Lay NodeD := Lay.map (fun n => (n.kind, n.n, n.e, n.yes, n.no)) (Lay.pair i64L (Lay.pair i64L (Lay.pair (Lay.slice qafc) (Lay.pair i64L i64L))))
def planLay : Lay PlanD := Lay.map (fun p => (p.heads, p.meta_, p.states, p.acts, p.tabs, p.nodes, p.out)) (Lay.pair (Lay.slice qaik) (Lay.pair (Lay.slice i64L) (Lay.pair (Lay.slice qafu) (Lay.pair (Lay.slice qaxf) (Lay.pair (Lay.slice qarz) (Lay.pair (Lay.slice qaig) (Lay.slice i64L)))))))
theorem qahq : LayP qafx refc := qadf (fun r : RefD => (r.h, r.f)) (qaa1 (qabr .i64) (qabr .i64))
theorem qam3 : LayP qafc qagg := qadf (fun p : PushD => (p.op, p.r, p.n)) (qaa1 (qabr .i64) (qaa1 qahq (qabr .u64)))
theorem qayi : LayP qaik qaj1 := qadf (fun h : HeadD => h.w) (qabq (qabr .i64))
theorem qayj : LayP qaiz qag3 := qadf (fun c : CaseD => (c.value, c.mask, c.to_)) (qaa1 (qabr .u64) (qaa1 (qabr .u64) (qabr .i64)))
theorem qasu : LayP qafu qade := qadf (fun s : StateD => (s.head, s.on, s.cases_, s.els)) (qaa1 (qabr .i64) (qaa1 qahq (qaa1 (qabq qayj) (qabr .i64))))
theorem layP_op : LayP opLay opc := qadf (fun o : OpD => (o.kind, o.r, o.head, o.e)) (qaa1 (qabr .i64) (qaa1 qahq (qaa1 (qabr .i64) (qabq qam3))))
theorem qa3f : LayP qaxf actc := qadf (fun a : ActD => (a.w, a.ops)) (qaa1 (qabq (qabr .i64)) (qabq layP_op))
theorem qa3e : LayP qarz tabc := qadf (fun t : TabD => (t.kind, t.keys, t.acts, t.cap, t.def_, t.args)) (qaa1 (qabr .i64) (qaa1 (qabq qahq) (qaa1 (qabq (qabr .i64)) (qaa1 (qabr .i64) (qaa1 (qabr .i64) (qabq (qabr .u64)))))))
theorem qayh : LayP qaig qagu := qadf (fun n : NodeD => (n.kind, n.n, n.e, n.yes, n.no)) (qaa1 (qabr .i64) (qaa1 (qabr .i64) (qaa1 (qabq qam3) (qaa1 (qabr .i64) (qabr .i64)))))
theorem qayg : LayP planLay qadj := qadf (fun p : PlanD => (p.heads, p.meta_, p.states, p.acts, p.tabs, p.nodes, p.out)) (qaa1 (qabq qayi) (qaa1 (qabq (qabr .i64)) (qaa1 (qabq qasu) (qaa1 (qabq qa3f) (qaa1 (qabq qa3e) (qaa1 (qabq qayh) (qabq (qabr .i64))))))))
def qa43 (p : PushD) : Prop := Fits .i64 p.op ∧ (Fits .i64 p.r.h ∧ Fits .i64 p.r.f) ∧ Fits .u64 p.n
def OkRef (r : RefD) : Prop := Fits .i64 r.h ∧ Fits .i64 r.f
def qa44 (c : CaseD) : Prop := Fits .u64 c.value ∧ Fits .u64 c.mask ∧ Fits .i64 c.to_
def qa1x (s : StateD) : Prop := Fits .i64 s.head ∧ OkRef s.on ∧ (∀ c ∈ s.cases_, qa44 c) ∧ Fits .i64 s.els
def OkOp (o : OpD) : Prop := Fits .i64 o.kind ∧ OkRef o.r ∧ Fits .i64 o.head ∧ ∀ x ∈ o.e, qa43 x
def OkAct (a : ActD) : Prop := AllFit .i64 a.w ∧ ∀ o ∈ a.ops, OkOp o
def OkTab (t : TabD) : Prop := Fits .i64 t.kind ∧ (∀ r ∈ t.keys, OkRef r) ∧ AllFit .i64 t.acts ∧ Fits .i64 t.cap ∧ Fits .i64 t.def_ ∧ AllFit .u64 t.args
def OkNode (n : NodeD) : Prop := Fits .i64 n.kind ∧ Fits .i64 n.n ∧ (∀ x ∈ n.e, qa43 x) ∧ Fits .i64 n.yes ∧ Fits .i64 n.no
def qah3 (p : PlanD) : Prop := (∀ h ∈ p.heads, AllFit .i64 h.w) ∧ AllFit .i64 p.meta_ ∧ (∀ s ∈ p.states, qa1x s) ∧ (∀ a ∈ p.acts, OkAct a) ∧ (∀ t ∈ p.tabs, OkTab t) ∧ (∀ n ∈ p.nodes, OkNode n) ∧ AllFit .i64 p.out
theorem qahr : LayF qafx OkRef := qadg (fun r : RefD => (r.h, r.f)) (qaa2 (qab3 .i64) (qab3 .i64))
theorem qam4 : LayF qafc qa43 := qadg (fun p : PushD => (p.op, p.r, p.n)) (qaa2 (qab3 .i64) (qaa2 qahr (qab3 .u64)))
theorem qadz (k : IntKind) : LayF (Lay.slice (Lay.int k)) (AllFit k) := fun A w x cs h => qacd (qab3 k) A w x cs h
theorem qaym : LayF qaik (fun h => AllFit .i64 h.w) := qadg (fun h : HeadD => h.w) (qadz .i64)
theorem qayn : LayF qaiz qa44 := qadg (fun c : CaseD => (c.value, c.mask, c.to_)) (qaa2 (qab3 .u64) (qaa2 (qab3 .u64) (qab3 .i64)))
theorem qasv : LayF qafu qa1x := qadg (fun s : StateD => (s.head, s.on, s.cases_, s.els)) (qaa2 (qab3 .i64) (qaa2 qahr (qaa2 (qacd qayn) (qab3 .i64))))
theorem layF_op : LayF opLay OkOp := qadg (fun o : OpD => (o.kind, o.r, o.head, o.e)) (qaa2 (qab3 .i64) (qaa2 qahr (qaa2 (qab3 .i64) (qacd qam4))))
theorem qa3i : LayF qaxf OkAct := qadg (fun a : ActD => (a.w, a.ops)) (qaa2 (qadz .i64) (qacd layF_op))
theorem qa3g : LayF qarz OkTab := qadg (fun t : TabD => (t.kind, t.keys, t.acts, t.cap, t.def_, t.args)) (qaa2 (qab3 .i64) (qaa2 (qacd qahr) (qaa2 (qadz .i64) (qaa2 (qab3 .i64) (qaa2 (qab3 .i64) (qadz .u64))))))
theorem qayl : LayF qaig OkNode := qadg (fun n : NodeD => (n.kind, n.n, n.e, n.yes, n.no)) (qaa2 (qab3 .i64) (qaa2 (qab3 .i64) (qaa2 (qacd qam4) (qaa2 (qab3 .i64) (qab3 .i64)))))
theorem qayk : LayF planLay qah3 := qadg (fun p : PlanD => (p.heads, p.meta_, p.states, p.acts, p.tabs, p.nodes, p.out)) (qaa2 (qacd qaym) (qaa2 (qadz .i64) (qaa2 (qacd qasv) (qaa2 (qacd qa3i) (qaa2 (qacd qa3g) (qaa2 (qacd qayl) (qadz .i64)))))))
end Go.Proofs.Ytbefmmajjfijnaa
namespace Go.Proofs.Ytbefmmajjfijnaa
set_option linter.all false
open Go.RowKit
def mk (f : Nat → Int) (m : Nat) : List Int := (List.range m).map f
def Bits (f : Nat → Int) : Prop := ∀ k, 0 ≤ f k ∧ f k ≤ 1
def acc (f : Nat → Int) : Nat → Int
 | 0 => 0
 | i + 1 => 2 * acc f i + f i
theorem Bits.drop {xs : List Int} (h : Bits (el xs)) (lo : Nat) : Bits (el (xs.drop lo)) := fun k => by rw [el_drop]; exact h _
theorem Bits.take {xs : List Int} (h : Bits (el xs)) (m : Nat) : Bits (el (xs.take m)) := fun k => by
 rw [el_take]; split
 ·exact h k
 ·omega
theorem Bits.append {xs ys : List Int} (h : Bits (el xs)) (g : Bits (el ys)) : Bits (el (xs ++ ys)) := fun k => by
 rw [qayw]; split
 ·exact h k
 ·exact g _
theorem Bits.fit {xs : List Int} (h : Bits (el xs)) : AllFit .u8 xs := by
 intro x hx
 obtain ⟨i, hi, rfl⟩ := List.mem_iff_getElem.1 hx
 have := h i
 rw [qa5a _ _ hi] at this
 exact Fits.of_u8 (by omega) (by omega)
end Go.Proofs.Ytbefmmajjfijnaa
namespace Go.Proofs.Ytbefmmajjfijnaa
set_option linter.all false
open Go.RowKit
theorem qa2q {k : IntKind} {a b : Int} (h : a = b) : Ending.returned (.int k a) = .returned (.int k b) := by rw [h]
def onesN (k : Nat) : Int := 2 ^ k - 1
def ones (w : Int) : Int := if 1 ≤ w ∧ w ≤ 64 then onesN w.toNat else 0
theorem qax7 : ∀ k : Fin 65, (18446744073709551615 : Int) / 2 ^ (64 - k.val) = onesN k.val := by unfold onesN; decide +kernel
theorem qa45 (w_ : Int) (w : World) (hw : Fits .i64 w_) :
  Calls Try.prog 50 #[.int .i64 w_] w fun e w' => e = .returned (.int .u64 (ones w_)) ∧ w = w' := by
 have h := hw.i64
 unfold ones
 by_cases h1 : w_ < 1
 ·rw [if_neg (by omega)]
  go_enter Try.func50, Try.ntmps50
  go_wp2_with fail
  go_ret
  exact ⟨rfl, rfl⟩
 by_cases h2 : 64 < w_
 ·rw [if_neg (by omega)]
  go_enter Try.func50, Try.ntmps50
  go_wp2_with fail
  go_ret
  exact ⟨rfl, rfl⟩
 ·rw [if_pos (by omega)]
  go_enter Try.func50, Try.ntmps50
  go_wp2_with fail
  go_ret
  refine ⟨qa2q ?_, rfl⟩
  have := qax7 ⟨w_.toNat, by omega⟩
  rw [show (64 - w_).toNat = 64 - w_.toNat from by omega]
  exact this
end Go.Proofs.Ytbefmmajjfijnaa
namespace Go.Proofs.Ytbefmmajjfijnaa
set_option linter.all false
open Go.RowKit
def wBad (ws : List Int) (i : Nat) : Bool := decide (el ws i < 1 ∨ 48 < el ws i)
def qaj0 (ws : List Int) : Int := if ws.length = 0 ∨ 8 < ws.length then 2 else if qadh (wBad ws) ws.length < ws.length then 6 else if qadt ws ws.length % 8 ≠ 0 ∨ 256 < qadt ws ws.length then 6 else 0
def qaxi (ws : List Int) : Int := if ws.length = 0 ∨ 8 < ws.length then -1 else if qadh (wBad ws) ws.length < ws.length then (qadh (wBad ws) ws.length : Int) else if qadt ws ws.length % 8 ≠ 0 ∨ 256 < qadt ws ws.length then -1 else 0
def qar6 (ws : List Int) : Int := if qaj0 ws = 0 then qadt ws ws.length / 8 else 0
theorem wOk {ws : List Int} {i : Nat} (h : wBad ws i = false) : 1 ≤ el ws i ∧ el ws i ≤ 48 := by
 unfold wBad at h; simp at h; omega
theorem wSum {ws : List Int} {k : Nat} (h : ∀ j, j < k → wBad ws j = false) : (k : Int) ≤ qadt ws k ∧ qadt ws k ≤ 48 * k := by
 induction k with
 | zero => simp [qadt]
 | succ k ih =>
  have h1 := ih (fun j hj => h j (by omega))
  have h2 := wOk (h k (by omega))
  show (k + 1 : Nat) ≤ qadt ws k + el ws k ∧ qadt ws k + el ws k ≤ 48 * (k + 1 : Nat)
  omega
theorem qaxu {ws : List Int} (h : qaj0 ws = 0) : 1 ≤ ws.length ∧ ws.length ≤ 8 ∧ (∀ j, j < ws.length → wBad ws j = false) ∧ 8 * qar6 ws = qadt ws ws.length ∧ qadt ws ws.length ≤ 256 ∧ qaxi ws = 0 ∧ 1 ≤ qar6 ws ∧ qar6 ws ≤ 32 := by
 have h0 := h
 unfold qaj0 at h
 by_cases h1 : ws.length = 0 ∨ 8 < ws.length
 ·rw [if_pos h1] at h; omega
 rw [if_neg h1] at h
 by_cases h2 : qadh (wBad ws) ws.length < ws.length
 ·rw [if_pos h2] at h; omega
 rw [if_neg h2] at h
 by_cases h3 : qadt ws ws.length % 8 ≠ 0 ∨ 256 < qadt ws ws.length
 ·rw [if_pos h3] at h; omega
 have hall := qas2 (wBad ws) ws.length (by have := qahy (wBad ws) ws.length; omega)
 have hs := wSum hall
 have hN : qar6 ws = qadt ws ws.length / 8 := by unfold qar6; rw [if_pos h0]
 have hA : qaxi ws = 0 := by unfold qaxi; rw [if_neg h1, if_neg h2, if_neg h3]
 refine ⟨by omega, by omega, hall, by omega, by omega, hA, by omega, by omega⟩
end Go.Proofs.Ytbefmmajjfijnaa
namespace Go.Proofs.Ytbefmmajjfijnaa
set_option linter.all false
open Go.RowKit Go.ChangeShapes Go.WideShapes
theorem opensI : Opens Try.prog 3 (Lay.int .i64) := Opens.int Try.underlying3 (by kernel_rfl)
theorem opensU : Opens Try.prog 107 (Lay.int .u64) := Opens.int Try.underlying107 (by kernel_rfl)
theorem opensN : Opens Try.prog 60 (Lay.slice (Lay.int .u64)) := opensU.slice Try.underlying60 (by kernel_rfl)
end Go.Proofs.Ytbefmmajjfijnaa
namespace Go.Proofs.Ytbefmmajjfijnaa
set_option linter.all false
open Go.RowKit
def qaxo (n k : Int) : Bool := decide (n > if k ≤ 64 then 2 ^ k.toNat - 1 else 0)
end Go.Proofs.Ytbefmmajjfijnaa
namespace Go.Proofs.Ytbefmmajjfijnaa
set_option linter.all false
open Go.RowKit
def headW (p : PlanD) (h : Int) : List Int := ((p.heads[h.toNat]?).map HeadD.w).getD []
def qa2p (p : PlanD) (h : Int) (args : List Int) : List Int := if h = -3 then [16] else if h = -1 then p.meta_ else if h = -2 then args else if 0 ≤ h ∧ h < p.heads.length then headW p h else []
def qa1i (l : List Int) (f : Int) : Int := if f < 0 ∨ l.length ≤ f then 0 else el l f.toNat
def qabv (p : PlanD) (r : RefD) (args : List Int) : Int := qa1i (qa2p p r.h args) r.f
def qaci (op : Int) : Int := if op = 1 ∨ op = 2 then 0 else if 3 ≤ op ∧ op ≤ 12 then 2 else if op = 13 then 1 else -1
def qacc (p : PlanD) (t : TabD) : List Int := t.keys.map fun r => qabv p r []
def qagj (p : PlanD) (args : List Int) : List PushD → Int → Int
 | [], n => if n = 1 then 0 else 13
 | x :: l, n => if qaci x.op < 0 ∨ n < qaci x.op then 13 else if x.op = 2 ∧ qabv p x.r args = 0 then 1 else qagj p args l (n + (1 - qaci x.op))
theorem qan1 (p : PlanD) (args : List Int) (x : PushD) (l : List PushD) (n : Int) : qagj p args (x :: l) n = if qaci x.op < 0 ∨ n < qaci x.op then 13 else if x.op = 2 ∧ qabv p x.r args = 0 then 1 else qagj p args l (n + (1 - qaci x.op)) := rfl
theorem qas8 (p : PlanD) (args : List Int) (n : Int) : qagj p args [] n = if n = 1 then 0 else 13 := rfl
def qahz (p : PlanD) (l : List PushD) (args : List Int) : Int := if 8 < l.length then 2 else qagj p args l 0
def qadu (p : PlanD) (h : Int) : Bool := decide (0 ≤ h) && decide (h < p.heads.length)
def mayBe (p : PlanD) (r : RefD) : Bool := decide (-1 ≤ r.h) && decide (0 < qabv p r [])
def qan3 (p : PlanD) (o : OpD) (args : List Int) : Int :=
 if o.kind = 1 then (if mayBe p o.r then qahz p o.e args else 1)
 else if o.kind = 2 ∨ o.kind = 3 then (if qadu p o.head then 0 else 1)
 else if o.kind = 4 then 0
 else if o.kind = 5 then qahz p o.e args
 else if o.kind = 6 then (if mayBe p o.r && qadu p o.head then 0 else 1)
 else 5
def qakh (p : PlanD) (from_ to_ : Int) : Int := if to_ = 1000 ∨ to_ = 1001 then 0 else if to_ < 0 ∨ p.states.length ≤ to_ then 1 else if to_ ≤ from_ then 11 else 0
def qack {α : Type} (f : α → Int) : List α → Int
 | [] => 0
 | x :: l => if f x = 0 then qack f l else f x
def qagm : List Int → List Int → Bool
 | x :: xs, k :: ks => qaxo x k || qagm xs ks
 | _, _ => false
def actW (acts : List ActD) (k : Int) : List Int := ((acts[k.toNat]?).map ActD.w).getD []
def qarr (tacts : List Int) (acts : List ActD) (act : Int) (args : List Int) : Int :=
 if tacts.contains act then (if args.length ≠ (actW acts act).length then 2 else if qagm args (actW acts act) then 6 else 0) else 5
def wOut (k : Int) : Bool := decide (k < 1) || decide (48 < k)
def aOut (n : Nat) (a : Int) : Bool := decide (a < 0) || decide ((n : Int) ≤ a)
def qaeo (t : TabD) (ws : List Int) (acts : List ActD) : Int :=
 if t.kind < 1 ∨ 3 < t.kind then 5
 else if ws.length < 1 ∨ 3 < ws.length ∨ (t.kind = 2 ∧ 1 < ws.length) ∨ t.acts.length < 1 ∨ 4 < t.acts.length then 2
 else if t.cap < 0 ∨ 16 < t.cap then 1
 else if ws.any wOut then 6
 else if t.acts.any (aOut acts.length) then 1
 else qarr t.acts acts t.def_ t.args
def qatl (p : PlanD) (i w : Int) (c : CaseD) : Int := if qaxo c.mask w || decide (bits .and .u64 c.value c.mask ≠ c.value) then 6 else qakh p i c.to_
def qaia (p : PlanD) (i : Int) (s : StateD) : Int :=
 if s.head < -1 ∨ p.heads.length ≤ s.head then 1
 else if 4 < s.cases_.length then 2
 else if 0 < s.cases_.length ∧ qabv p s.on [] = 0 then 1
 else if qack (qatl p i (qabv p s.on [])) s.cases_ ≠ 0 then qack (qatl p i (qabv p s.on [])) s.cases_
 else qakh p i s.els
def actF (p : PlanD) (a : ActD) : Int :=
 if 3 < a.w.length ∨ 5 < a.ops.length then 2
 else if a.w.any wOut then 6
 else qack (fun o => qan3 p o a.w) a.ops
def tabF (p : PlanD) (t : TabD) : Int :=
 if 3 < t.keys.length then 2
 else if (qacc p t).contains 0 then 1
 else qaeo t (qacc p t) p.acts
def toF (p : PlanD) (i to_ : Int) : Int := if to_ < 0 ∨ p.nodes.length < to_ then 1 else if to_ ≤ i then 11 else 0
def qa26 (p : PlanD) (i : Int) (n : NodeD) : Int :=
 if n.kind = 1 then (if n.n < 0 ∨ p.tabs.length ≤ n.n then 1 else toF p i n.yes)
 else if n.kind = 2 then (if n.n < 0 ∨ p.acts.length ≤ n.n then 1 else if 0 < (actW p.acts n.n).length then 2 else toF p i n.yes)
 else if n.kind = 3 then (if qahz p n.e [] ≠ 0 then qahz p n.e [] else if toF p i n.yes ≠ 0 then toF p i n.yes else toF p i n.no)
 else if n.kind = 4 then (if qadu p n.n then (if toF p i n.yes ≠ 0 then toF p i n.yes else toF p i n.no) else 1)
 else 5
def rowF {α : Type} (f : Nat → α → Int) (base : Int) : Nat → List α → Int × Int
 | _, [] => (0, 0)
 | i, x :: l => if f i x ≠ 0 then (f i x, base + i) else rowF f base (i + 1) l
def orF (f g : Int × Int) : Int × Int := if f.1 ≠ 0 then f else if g.1 ≠ 0 then g else f
def qaxj (b : Bool) (at_ : Int) : Int × Int := if b then (2, at_) else (0, 0)
def outF (p : PlanD) (i : Nat) (o : Int) : Int := if qadu p o then (if (p.out.take i).contains o then 7 else 0) else 1
def qaf0 (p : PlanD) : Int × Int := orF (qaxj (decide (6 < p.heads.length)) (-1)) (rowF (fun _ h => qaj0 h.w) 1000 0 p.heads)
def qa29 (p : PlanD) : Int × Int := orF (qaxj (decide (4 < p.meta_.length)) (-2)) (rowF (fun _ w => if wOut w then 6 else 0) 2000 0 p.meta_)
def qad7 (p : PlanD) : Int × Int := orF (qaxj (decide (p.states.length < 1) || decide (8 < p.states.length)) (-3)) (rowF (fun i s => qaia p i s) 3000 0 p.states)
def qaxe (p : PlanD) : Int × Int := orF (qaxj (decide (8 < p.acts.length)) (-4)) (rowF (fun _ a => actF p a) 4000 0 p.acts)
def qaxg (p : PlanD) : Int × Int := orF (qaxj (decide (5 < p.tabs.length)) (-5)) (rowF (fun _ t => tabF p t) 5000 0 p.tabs)
def qagh (p : PlanD) : Int × Int := orF (qaxj (decide (10 < p.nodes.length)) (-6)) (rowF (fun i n => qa26 p i n) 6000 0 p.nodes)
def outsF (p : PlanD) : Int × Int := orF (qaxj (decide (6 < p.out.length)) (-7)) (rowF (fun i o => outF p i o) 7000 0 p.out)
def qagt (p : PlanD) : Int × Int := orF (qaf0 p) (orF (qa29 p) (orF (qad7 p) (orF (qaxe p) (orF (qaxg p) (orF (qagh p) (outsF p))))))
theorem qafd {f : Int × Int} (h : f.1 ≠ 0) (g : Int × Int) : orF f g = f := if_pos h
theorem qado (f g h : Int × Int) : orF (orF f g) h = orF f (orF g h) := by
 unfold orF
 by_cases h1 : f.1 = 0 <;> by_cases h2 : g.1 = 0 <;> by_cases h3 : h.1 = 0 <;> simp [h1, h2, h3]
theorem qace (f : Int × Int) {g : Int × Int} (h : g.1 = 0) : orF f g = f := by
 unfold orF; simp [h]
theorem qagy {α : Type} (f : α → Int) {l : List α} {i : Nat} (hi : i < l.length) : qack f (l.drop i) = if f l[i] = 0 then qack f (l.drop (i + 1)) else f l[i] := by
 rw [List.drop_eq_getElem_cons hi]; rfl
theorem qadl {α : Type} (f : Nat → α → Int) (b : Int) {l : List α} {i : Nat} (hi : i < l.length) : rowF f b i (l.drop i) = if f i l[i] ≠ 0 then (f i l[i], b + i) else rowF f b (i + 1) (l.drop (i + 1)) := by
 rw [List.drop_eq_getElem_cons hi]; rfl
theorem qadr {α : Type} (f : α → Bool) {l : List α} {i : Nat} (hi : i < l.length) : (l.drop i).any f = (f l[i] || (l.drop (i + 1)).any f) := by
 rw [List.drop_eq_getElem_cons hi]; rfl
end Go.Proofs.Ytbefmmajjfijnaa
namespace Go.Proofs.Ytbefmmajjfijnaa
set_option linter.all false
open Go.RowKit
abbrev qavn : List SOper := [Oa 1 (.box 52 (.t 0)), Oa 2 (.mv (.c (.int .i64 0))), Oa 3 (.alloc 34 [(.int .i64 0), (.int .i64 0)])]
abbrev qavm : List SOper := [Oa 7 (.faddr 0 (.t 1)), Oa 8 (.load (.t 7)), Oa 9 (.len false (.t 8)), Oa 10 (.bin .eql (.t 9) (.c (.int .i64 0))), Oa 11 (.mv (.t 10)), Oe 12 (.faddr 0 (.t 1)) 11 false, Oe 13 (.load (.t 12)) 11 false, Oe 14 (.len false (.t 13)) 11 false, Oe 15 (.bin .gtr (.t 14) (.c (.int .i64 8))) 11 false, Oa 16 (.pick (.t 11) (.c (.bool true)) (.t 15))]
abbrev qavl : List SOper := [Oa 17 (.build [(.int .i64 0), (.int .i64 0)] [(0, 1, (.c (.int .i64 2))), (1, 1, (.c (.int .i64 (-1))))]), Oa 2 (.mv (.c (.int .i64 0))), Ob (.store 2 (.t 3) (.t 17))]
abbrev qavk : List SOper := [Oa 4 (.mv (.c (.int .i64 0)))]
abbrev qavj : List SOper := [Oa 18 (.faddr 0 (.t 1)), Oa 19 (.load (.t 18)), Oa 20 (.len false (.t 19)), Oa 21 (.mv (.c (.int .i64 0)))]
abbrev qavi : List SOper := [Oa 22 (.bin .lss (.t 21) (.t 20))]
abbrev qavh : List SOper := [Oa 23 (.mv (.t 21)), Oa 24 (.iaddr 1 (.t 19) (.t 21)), Oa 25 (.load (.t 24)), Oa 5 (.mv (.t 23)), Oa 6 (.mv (.t 25))]
abbrev qavg : List SOper := [Oa 26 (.mv (.t 6)), Oa 27 (.bin .lss (.t 26) (.c (.int .i64 1))), Oa 28 (.mv (.t 27)), Oe 29 (.mv (.t 6)) 28 false, Oe 30 (.bin .gtr (.t 29) (.c (.int .i64 48))) 28 false, Oa 31 (.pick (.t 28) (.c (.bool true)) (.t 30))]
abbrev qavf : List SOper := [Oa 32 (.mv (.t 5)), Oa 33 (.build [(.int .i64 0), (.int .i64 0)] [(0, 1, (.c (.int .i64 6))), (1, 1, (.t 32))]), Oa 2 (.mv (.c (.int .i64 0))), Ob (.store 2 (.t 3) (.t 33))]
abbrev qap4 : List SOper := [Oa 34 (.mv (.t 4)), Oa 35 (.mv (.t 6)), Oa 36 (.bin .add (.t 34) (.t 35)), Oa 4 (.mv (.t 36))]
abbrev qap3 : List SOper := [Oa 37 (.bin .add (.t 21) (.c (.int .i64 1))), Oa 21 (.mv (.t 37))]
def qai9 : SCode := (.seq (.reg false qavi [3, 4, 19, 20, 21, 22]) (.seq (.cond (.t 22) .skip (.exit 0)) (.seq (.block 1 (.seq (.reg false qavh [3, 4, 5, 6, 19, 20, 21]) (.seq (.seq (.reg false qavg [3, 4, 5, 6, 19, 20, 21, 31]) (.cond (.t 31) (.seq (.reg false qavf [2, 3]) .ret) .skip)) (.reg false qap4 [3, 4, 19, 20, 21])))) (.reg false qap3 [3, 4, 19, 20, 21]))))
abbrev qap2 : List SOper := [Oa 38 (.mv (.t 4)), Oa 39 (.bin .rem (.t 38) (.c (.int .i64 8))), Oa 40 (.bin .neq (.t 39) (.c (.int .i64 0))), Oa 41 (.mv (.t 40)), Oe 42 (.mv (.t 4)) 41 false, Oe 43 (.bin .gtr (.t 42) (.c (.int .i64 256))) 41 false, Oa 44 (.pick (.t 41) (.c (.bool true)) (.t 43))]
abbrev qap1 : List SOper := [Oa 45 (.build [(.int .i64 0), (.int .i64 0)] [(0, 1, (.c (.int .i64 6))), (1, 1, (.c (.int .i64 (-1))))]), Oa 2 (.mv (.c (.int .i64 0))), Ob (.store 2 (.t 3) (.t 45))]
abbrev qap0 : List SOper := [Oa 46 (.mv (.t 4)), Oa 47 (.bin .quo (.t 46) (.c (.int .i64 8))), Oa 48 (.build [(.int .i64 0), (.int .i64 0)] []), Oa 2 (.mv (.t 47)), Ob (.store 2 (.t 3) (.t 48))]
def c_psize : SCode := (.seq (.reg false qavn [1, 3]) (.seq (.seq (.reg false qavm [1, 3, 16]) (.cond (.t 16) (.seq (.reg false qavl [2, 3]) .ret) .skip)) (.seq (.reg false qavk [1, 3, 4]) (.seq (.seq (.reg false qavj [3, 4, 19, 20, 21]) (.block 0 (.loop qai9))) (.seq (.seq (.reg false qap2 [3, 4, 44]) (.cond (.t 44) (.seq (.reg false qap1 [2, 3]) .ret) .skip)) (.seq (.reg false qap0 [2, 3]) .ret))))))
theorem qakw : comp Try.prog 49 ((Try.f22.body).getD .skip) = some c_psize.erase := by kernel_rfl
end Go.Proofs.Ytbefmmajjfijnaa
namespace Go.Proofs.Ytbefmmajjfijnaa
set_option linter.all false
open Go.RowKit
attribute [local simp] qabl qabk qaav qaa9 qaaw qaa8 qabi qabj qaaq qab6 SOp.run SX.ev putd puts argS upds SOp.touch SSt.keep SSt.skip gets geth puth delh idOf SV.cells? setL qaeb qaec sbin eq0 eq1 eqL qadx qac0 qac1 qaa3 qabm qaai qabn qab7 qaao qaan FrzOk qabc qaay qaba qabb qaar qaax qabo qaaz qaat qabd qaas frzS frzH frz frz1 frz0 SlotsM ObjsM ObjM rn ren ren1 ren0 qaca qacx qacs qab9 qabp qac3 qac2 CoL qabe qaby dels adds idsH qabu
attribute [local simp] nums
theorem qac8 : qahf Try.prog 34 = some true := by kernel_rfl
theorem qacn : qabt Try.prog 34 = some 2 := by kernel_rfl
theorem qas4 {X : Cx} {sl : Sl} {hp : Hp} {t u nx id n : Nat} {ty : TypeId} {cs ds : List SV} {v v' r : SV} (hm : X.m = 0) (hne : t ≠ u) (hv : gets sl t = v') (hvv : v' = v) (hN : NoN v) (hu : gets sl u = .ptr id 0) (h : geth hp id = some (.cells ty cs)) (ha : qahf X.P ty = some true) (hn : qabt X.P ty = some n) (hl : ds.length = n) (e : CoL cs ds) (hr : r = .tup [v, .agg ds]) (hd : ∀ σ, ds.map (Go.Proofs.Ytbefmmajjfijnaa.ren σ) = ds) : QFun X [.tmp t, .cell u ty] 0 r [] .ret ⟨sl, hp, nx⟩ := by
 subst hr hl hvv
 have hw : Wk X ⟨sl, hp, nx⟩ ⟨[(t, v'), (u, .ptr 0 0)], [(0, .cells ty ds)], 1⟩ := by
  refine qaag [(0, id)] hm ⟨?_, ?_, trivial⟩ ⟨⟨_, h, rfl, by rw [hd]; exact e⟩, trivial⟩ rfl (by simp)
  ·rw [hv, hN]; exact Co.refl _
  ·rw [hu]; exact Co.refl _
 refine ⟨_, hw, ?_, trivial, by simp⟩
 simp [qamv, resL, resV, one_, gets, ha, hn, SOp.run, SX.ev, geth, hne]
theorem fin_c {X : Cx} {sl : Sl} {hp : Hp} {u nx id n : Nat} {ty : TypeId} {cs ds : List SV} {r : SV} (hm : X.m = 0) (hu : gets sl u = .ptr id 0) (h : geth hp id = some (.cells ty cs)) (ha : qahf X.P ty = some true) (hn : qabt X.P ty = some n) (hl : ds.length = n) (e : CoL cs ds) (hr : r = .agg ds) (hd : ∀ σ, ds.map (Go.Proofs.Ytbefmmajjfijnaa.ren σ) = ds) : QFun X [.cell u ty] 0 r [] .ret ⟨sl, hp, nx⟩ := by
 subst hr hl
 have hw : Wk X ⟨sl, hp, nx⟩ ⟨[(u, .ptr 0 0)], [(0, .cells ty ds)], 1⟩ := by
  refine qaag [(0, id)] hm ⟨?_, trivial⟩ ⟨⟨_, h, rfl, by rw [hd]; exact e⟩, trivial⟩ rfl (by simp)
  rw [hu]; exact Co.refl _
 refine ⟨_, hw, ?_, trivial, by simp⟩
 simp [qamv, resL, resV, one_, gets, ha, hn, SOp.run, SX.ev, geth]
def qar5 (ws : List Int) : SV := .tup [.int .i64 (qar6 ws), .agg [.int .i64 (qaj0 ws), .int .i64 (qaxi ws)]]
theorem qaxv {ws : List Int} (h : ws.length = 0 ∨ 8 < ws.length) : qar5 ws = .tup [.int .i64 0, .agg [.int .i64 2, .int .i64 (-1)]] := by
 have h1 : qaj0 ws = 2 := by unfold qaj0; rw [if_pos h]
 have h2 : qaxi ws = -1 := by unfold qaxi; rw [if_pos h]
 have h3 : qar6 ws = 0 := by unfold qar6; rw [h1]; rfl
 unfold qar5; rw [h1, h2, h3]
theorem qa2h {ws : List Int} (h : ¬ (ws.length = 0 ∨ 8 < ws.length)) {i : Nat} (ha : ∀ j, j < i → wBad ws j = false) (hi : i < ws.length) (hb : wBad ws i = true) : qar5 ws = .tup [.int .i64 0, .agg [.int .i64 6, .int .i64 i]] := by
 have e := qayu (wBad ws) ws.length i ha hb hi
 have h1 : qaj0 ws = 6 := by unfold qaj0; rw [if_neg h, e, if_pos hi]
 have h2 : qaxi ws = i := by unfold qaxi; rw [if_neg h, e, if_pos hi]
 have h3 : qar6 ws = 0 := by unfold qar6; rw [h1]; rfl
 unfold qar5; rw [h1, h2, h3]
theorem qa2g {ws : List Int} (h : ¬ (ws.length = 0 ∨ 8 < ws.length)) (ha : ∀ j, j < ws.length → wBad ws j = false) : qar5 ws = if qadt ws ws.length % 8 ≠ 0 ∨ 256 < qadt ws ws.length then .tup [.int .i64 0, .agg [.int .i64 6, .int .i64 (-1)]] else .tup [.int .i64 (qadt ws ws.length / 8), .agg [.int .i64 0, .int .i64 0]] := by
 have e := qan0 (wBad ws) ws.length ha
 have hc : qaj0 ws = if qadt ws ws.length % 8 ≠ 0 ∨ 256 < qadt ws ws.length then 6 else 0 := by unfold qaj0; rw [if_neg h, e, if_neg (by omega)]
 have hA : qaxi ws = if qadt ws ws.length % 8 ≠ 0 ∨ 256 < qadt ws ws.length then -1 else 0 := by unfold qaxi; rw [if_neg h, e, if_neg (by omega)]
 unfold qar5 qar6
 by_cases h1 : qadt ws ws.length % 8 ≠ 0 ∨ 256 < qadt ws ws.length
 ·rw [if_pos h1] at hc hA ⊢; rw [hc, hA]; rfl
 ·rw [if_neg h1] at hc hA ⊢; rw [hc, hA]; rfl
theorem qamq {ws : List Int} (h : ¬ (ws.length = 0 ∨ 8 < ws.length)) {i : Nat} (ha : ∀ j, j < i → wBad ws j = false) (hi : i ≤ ws.length) : 0 ≤ qadt ws i ∧ qadt ws i ≤ 1000 := by
 have := wSum ha; omega
theorem psize_s (ws : List Int) (q : Nat) : SCalls Try.prog 22 [.agg [nums .i64 ws]] [] q (qar5 ws) [] := by
 refine qacq ?_ (fun _ => rfl) (fun _ => rfl) rfl q
 refine qaau (N := 49) Try.func22 rfl rfl (by kernel_rfl) qakw (by simp) (by repeat' (first | exact trivial | refine And.intro ?_ ?_ | rfl | decide | exact PureR.ren _)) (by repeat' (first | exact trivial | refine And.intro ?_ ?_ | rfl | decide | exact PureR.ren _)) ?_
 rintro X hP hN hm
 unfold c_psize
 by_cases hh : ws.length = 0 ∨ 8 < ws.length
 ·rw [qaxv hh]
  have k0 : ((ws.length : Int) == 0) = decide (ws.length = 0) := by rw [Bool.eq_iff_iff]; simp
  cases k1 : decide (ws.length = 0) <;> rw [k1] at k0
  ·have k2 : decide (8 < (ws.length : Int)) = true := by have := of_decide_eq_false k1; rw [decide_eq_true_eq]; omega
   replace hh := Lib.hid hh
   clear k1
   repeat' (first | (with_reducible refine zA ?_) | ((with_reducible refine qaad ?_); (try rw [hP]); simp -implicitDefEqProofs [*]) | ((with_reducible refine qaa4 ?_); (try simp only [qaa3, qaai, qaao])) | ((with_reducible refine qaab rfl (fun h => ?_) (fun h => ?_)) <;> have h' := h <;> (try simp at h') <;> (try subst h')) | (refine qas4 hm (by decide) rfl rfl (qaih _ _) rfl rfl (by rw [hP]; exact qac8) (by rw [hP]; exact qacn) rfl (CoL.refl _) rfl (fun σ => rfl)) | fail)
  ·replace hh := Lib.hid hh
   clear k1
   repeat' (first | (with_reducible refine zA ?_) | ((with_reducible refine qaad ?_); (try rw [hP]); simp -implicitDefEqProofs [*]) | ((with_reducible refine qaa4 ?_); (try simp only [qaa3, qaai, qaao])) | ((with_reducible refine qaab rfl (fun h => ?_) (fun h => ?_)) <;> have h' := h <;> (try simp at h') <;> (try subst h')) | (refine qas4 hm (by decide) rfl rfl (qaih _ _) rfl rfl (by rw [hP]; exact qac8) (by rw [hP]; exact qacn) rfl (CoL.refl _) rfl (fun σ => rfl)) | fail)
 have k0 : ((ws.length : Int) == 0) = false := by rw [beq_eq_false_iff_ne]; omega
 have k1 : decide (8 < (ws.length : Int)) = false := by rw [decide_eq_false_iff_not]; omega
 have hl : ws.length ≤ 8 := by omega
 replace hh := Lib.hid hh
 generalize hF : qar5 ws = F
 repeat' (first | (with_reducible refine zA ?_) | ((with_reducible refine qaad ?_); (try rw [hP]); simp -implicitDefEqProofs [*]) | ((with_reducible refine qaaf ?_); (try simp -implicitDefEqProofs [*])) | ((with_reducible refine qaab rfl (fun h => ?_) (fun h => ?_)) <;> have h' := h <;> (try simp at h') <;> (try subst h')) | fail)
 refine qaaj (qaa5 (fun s (i : Nat) => s.turn [(4, .int .i64 (qadt ws i)), (21, .int .i64 i)] []) (fun i => i ≤ ws.length ∧ ∀ j, j < i → wBad ws j = false) (fun i => ws.length - i) 0 ?_ ⟨by simp, by simp⟩ ?_)
 ·repeat' (first | ((with_reducible refine qaag [] hm ?_ ?_ ?_ ?_) <;> (try simp only [zT, puth, Nat.reduceEqDiff, reduceIte, Nat.reduceAdd])) | (with_reducible first | refine za ?_ ?_ | refine zb ?_ ?_ ?_ ?_) | (with_reducible first | exact qaaa | exact qaac) | ((with_reducible first | refine zga ?_ | refine zgb ?_); rfl) | ((with_reducible refine zgd ?_); (first | omega | (simp; done))) | (exact Co.refl _) | (exact CoL.refl _) | fail)
 rintro J hJ i ⟨h1, h2⟩
 have hsum := qamq hh.out h2 h1
 unfold qai9
 simp only [zT, puth, Nat.reduceEqDiff, reduceIte, Nat.reduceAdd] at h1 h2 ⊢
 rcases Nat.lt_or_ge i ws.length with hi | hi
 ·have wi : IntKind.i64.wrap ((i : Int) + 1) = (i : Int) + 1 := qaap (by omega) (by omega)
  have hx : el ws i = ws[i] := by unfold el; simp [hi]
  have hb : wBad ws i = (decide (ws[i] < 1) || decide (48 < ws[i])) := by unfold wBad; rw [hx, Bool.eq_iff_iff]; simp
  have hn : qadt ws (i + 1) = qadt ws i + ws[i] := by rw [← hx]; rfl
  generalize hxx : ws[i] = x at hb hn hx
  cases hbb : wBad ws i
  ·rw [hbb] at hb
   have hb' := Bool.or_eq_false_iff.1 hb.symm
   obtain ⟨v1, v2⟩ := hb'
   have hall : ∀ j, j < i + 1 → wBad ws j = false := fun j hj => by
    rcases Nat.lt_or_ge j i with q | q
    ·exact h2 j q
    ·obtain rfl : j = i := by omega
     exact hbb
   have hsx := qamq hh.out hall hi
   rw [hn] at hsx
   have ws1 : IntKind.i64.wrap (qadt ws i + x) = qadt ws (i + 1) := by rw [hn]; exact qaap (by omega) (by omega)
   replace hall := Lib.hid hall
   replace h2 := Lib.hid h2
   clear hb hbb hx hn
   repeat' (first | (with_reducible first | refine zA ?_ | refine qaae ?_) | ((with_reducible refine qaad ?_); (try rw [hP]); simp -implicitDefEqProofs [*]) | ((with_reducible refine qaaf ?_); (try simp -implicitDefEqProofs [*])) | ((with_reducible refine qaab rfl (fun h => ?_) (fun h => ?_)) <;> have h' := h <;> (try simp at h') <;> (try subst h')) | (with_reducible first | refine za ?_ ?_ | refine zb ?_ ?_ ?_ ?_) | (with_reducible first | exact qaaa | exact qaac) | ((with_reducible first | refine zga ?_ | refine zgb ?_); rfl) | ((with_reducible first | refine zgd ?_ | refine zge ?_); (first | omega | (simp; done))) | (exact Co.refl _) | (exact CoL.refl _) | ((refine qaah hJ (i + 1) ?_ ?_ ?_; (with_reducible refine qaag [] hm ?_ ?_ ?_ ?_) <;> (try simp only [zT, puth, Nat.reduceEqDiff, reduceIte, Nat.reduceAdd]))) | fail)
   exact ⟨by omega, hall.out⟩
  ·have hbad := qa2h hh.out h2 hi hbb
   rw [hF] at hbad
   rw [hbb] at hb
   replace hb := Lib.hid hb
   replace h2 := Lib.hid h2
   replace hbad := Lib.hid hbad
   clear hbb hx hn
   repeat' (first | (with_reducible first | refine zA ?_ | refine qaae ?_) | ((with_reducible refine qaad ?_); (try rw [hP]); simp -implicitDefEqProofs [*]) | ((with_reducible refine qaaf ?_); (try simp -implicitDefEqProofs [*])) | ((with_reducible refine qaa4 ?_); (try simp only [qaa3, qaai, qaao])) | ((with_reducible refine qaab rfl (fun h => ?_) (fun h => ?_)) <;> have h' := h <;> (try simp at h') <;> (try subst h')) | ((with_reducible refine qaa6 (fun h => ?_) (fun h => ?_)) <;> have h' := h <;> (try simp at h') <;> (try subst h') <;> simp -implicitDefEqProofs [*]) | (refine qas4 hm (by decide) rfl rfl (qaih _ _) rfl rfl (by rw [hP]; exact qac8) (by rw [hP]; exact qacn) rfl (CoL.refl _) hbad.out (fun σ => rfl)) | fail)
   all_goals (exfalso; have := hb.out; simp_all; omega)
 ·obtain rfl : i = ws.length := by omega
  have hend := qa2g hh.out h2
  rw [hF] at hend
  have t1 : (qadt ws ws.length).tmod 8 = qadt ws ws.length % 8 := Int.tmod_eq_emod_of_nonneg hsum.1
  have t2 : (qadt ws ws.length).tdiv 8 = qadt ws ws.length / 8 := Int.tdiv_eq_ediv_of_nonneg hsum.1
  generalize qadt ws ws.length = S at hend t1 t2 hsum
  have t3 : IntKind.i64.wrap (S % 8) = S % 8 := IntWalk.i64_in _ ⟨by omega, by omega⟩
  have t4 : IntKind.i64.wrap (S / 8) = S / 8 := IntWalk.i64_in _ ⟨by omega, by omega⟩
  replace h2 := Lib.hid h2
  replace hend := Lib.hid hend
  cases k3 : (S % 8 != 0) <;> cases k4 : decide (256 < S)
  all_goals
   repeat' (first | (with_reducible refine zA ?_) | ((with_reducible refine qaad ?_); (try rw [hP]); simp -implicitDefEqProofs [*]) | ((with_reducible first | refine qaaf ?_ | refine qaam ?_); (try simp -implicitDefEqProofs [*])) | ((with_reducible refine qaa4 ?_); (try simp only [qaa3, qaai, qaao])) | ((with_reducible refine qaab rfl (fun h => ?_) (fun h => ?_)) <;> have h' := h <;> (try simp at h') <;> (try subst h')) | (refine qas4 hm (by decide) rfl rfl (qaih _ _) rfl rfl (by rw [hP]; exact qac8) (by rw [hP]; exact qacn) rfl (CoL.refl _) ?_ (fun σ => rfl)) | fail)
   rw [hend.out]
   simp at k3 k4
   simp [*]
   try omega
end Go.Proofs.Ytbefmmajjfijnaa
namespace Go.Proofs.Ytbefmmajjfijnaa
set_option linter.all false
open Go.RowKit
attribute [local simp] qabl qabk qaav qaa9 qaaw qaa8 qabi qabj qaaq qab6 SOp.run SX.ev putd puts argS upds SOp.touch SSt.keep SSt.skip gets geth puth delh idOf SV.cells? setL qaeb qaec sbin eq0 eq1 eqL qadx qac0 qac1 qaa3 qabm qaai qabn qab7 qaao qaan FrzOk qabc qaay qaba qabb qaar qaax qabo qaaz qaat qabd qaas frzS frzH frz frz1 frz0 SlotsM ObjsM ObjM rn ren ren1 ren0 qaca qacx qacs qab9 qabp qac3 qac2 CoL qabe qaby dels adds idsH qabu
attribute [local simp] nums
def wobj (bs : List Int) : Hp := [(0, .cells 88 [.own 1 bs.length]), (1, .row 5 1 (bs.map fun x => [SV.int .u8 x]))]
def wA (bs : List Int) : AbsI := qa1j 2 fun h => h = wobj bs
abbrev wMax : Nat := 140737488355327
theorem qahg (bs : List Int) {σ : Nat → Nat} (h : σ 1 = 1) : RenH σ (wobj bs) := by
 refine ⟨?_, PureR.ren σ, trivial⟩
 show [SV.own 1 bs.length].map (Go.Proofs.Ytbefmmajjfijnaa.ren σ) = _
 simp [Go.Proofs.Ytbefmmajjfijnaa.ren, ren1, ren0, h]
theorem qamm (bs : List Int) : ∀ hh, hh = wobj bs → (∃ t cs, geth hh 0 = some (.cells t cs)) ∧ RenH (fun i => if i = 0 then 2 else i) hh := fun hh h => by
 subst h
 exact ⟨⟨_, _, rfl⟩, qahg bs (if_neg (by decide))⟩
theorem qa09 (bs : List Int) : ∀ i ∈ idsH (wobj bs), i < 2 := by
 intro i hi
 simp [idsH, wobj] at hi; omega
theorem qa16 {X : Cx} {s : SSt} {bs : List Int} (hs : SubH s.hp (wobj bs)) : Wk X s ⟨s.sl, [(0, .abs (wA bs))], s.nx⟩ :=
 qa07 (hh := wobj bs) (R := fun h => h = wobj bs) rfl (by decide) rfl (fun σ h => qahg bs (h 1 (by decide))) (qa09 bs) hs rfl (fun id o' h ho => by simp only [geth, if_neg (Ne.symm h)] at ho; cases ho)
theorem fin_w {X : Cx} {s : SSt} {F : List Int} {sl : Sl} {nx : Nat} {e : SExit} (he : e = .ret ∨ e = .normal) (hm : X.m = 1) (hw : Wk X s ⟨sl, wobj F, nx⟩) : QFun X [] 1 (.tup []) [(0, .abs (wA F))] e s := by
 have h1 := hw.trans (qa16 (bs := F) (s := ⟨sl, wobj F, nx⟩) ⟨rfl, rfl, trivial⟩)
 have h0 : Wk X ⟨sl, [(0, .abs (wA F))], nx⟩ ⟨[], [(0, .abs (wA F))], 1⟩ := qaag [] hm trivial ⟨⟨_, rfl, rfl⟩, trivial⟩ rfl (Nat.le_refl _)
 have h3 : QFun X [] 1 (.tup []) [(0, .abs (wA F))] .ret s := ⟨_, h1.trans h0, rfl, ⟨rfl, trivial⟩, by simp⟩
 rcases he with rfl | rfl <;> exact h3
def varB : Nat → Int → List Int
 | 0, u => [IntKind.u8.wrap u]
 | f + 1, u => if 128 ≤ u then bits .or .u8 (IntKind.u8.wrap u) 128 :: varB f (u / 128) else [IntKind.u8.wrap u]
def qadv (us : List Int) : List Int := us.flatMap (varB 9)
theorem varB_lt {f : Nat} {u : Int} (h : u < 128) : varB f u = [IntKind.u8.wrap u] := by
 cases f with
 | zero => rfl
 | succ f => unfold varB; rw [if_neg (by omega)]
theorem qarw (f : Nat) (u : Int) : 1 ≤ (varB f u).length := by
 cases f with
 | zero => simp [varB]
 | succ f => unfold varB; split <;> simp
theorem qahj : ∀ us : List Int, us.length ≤ (qadv us).length
 | [] => by simp
 | u :: us => by
  have := qahj us
  have := qarw 9 u
  unfold qadv at *
  rw [List.flatMap_cons, List.length_append, List.length_cons]; omega
theorem qaif (u : Int) (us : List Int) : qadv (u :: us) = varB 9 u ++ qadv us := rfl
set_option maxHeartbeats 4000000 in
theorem qa15 (us : List Int) (hu : ∀ u ∈ us, 0 ≤ u ∧ u < 18446744073709551616) (bs F : List Int) (hF : F = bs ++ qadv us) (hl : F.length ≤ wMax) :
  SCalls Try.prog 57 [.ptr 0 0, nums .u64 us] [(0, .abs (wA bs))] 1 (.tup []) [(0, .abs (wA F))] := by
 refine qaau (N := 40) Try.func57 rfl rfl (by kernel_rfl) qan6 (by simp) (by repeat' (first | exact trivial | refine And.intro ?_ ?_ | rfl | decide | exact PureR.ren _)) (by repeat' (first | exact trivial | refine And.intro ?_ ?_ | rfl | decide | exact PureR.ren _)) ?_
 rintro X hP hN hm
 refine qah8 (by omega) (by decide) (qamm bs) fun hh h => ?_
 subst h
 unfold c_wnum wobj
 have hul : us.length ≤ 9223372036854775807 := by
  have h1 := qahj us
  have h2 : F.length = bs.length + (qadv us).length := by rw [hF, List.length_append]
  unfold wMax at hl; omega
 replace hl := Lib.hid hl
 replace hF := Lib.hid hF
 repeat' (first | (with_reducible refine zA ?_) | ((with_reducible refine qaad ?_); (try rw [hP]); simp -implicitDefEqProofs [*]) | fail)
 refine qaaj (qaa5 (fun s (z : Nat × List Int) => s.turn [(8, .int .i64 z.1)] [(0, .cells 88 [.own 1 z.2.length]), (1, .row 5 1 (z.2.map fun x => [SV.int .u8 x]))]) (fun z => z.1 ≤ us.length ∧ F = z.2 ++ qadv (us.drop z.1)) (fun z => us.length - z.1) (0, bs) ?_ ⟨by simp, hF.out⟩ ?_)
 ·repeat' (first | ((with_reducible refine qaag [] hm ?_ ?_ ?_ ?_) <;> (try simp only [zT, puth, Nat.reduceEqDiff, reduceIte, Nat.reduceAdd])) | (with_reducible first | refine za ?_ ?_ | refine zb ?_ ?_ ?_ ?_ | refine zc ?_ ?_ ?_ ?_) | (with_reducible first | exact qaaa | exact qaac) | ((with_reducible first | refine zga ?_ | refine zgb ?_); rfl) | ((with_reducible refine zgc ?_); (first | (with_reducible rfl) | rfl | (simp; done))) | ((with_reducible refine zgd ?_); (first | omega | (simp; done))) | (exact Co.refl _) | (exact CoL.refl _) | fail)
 rintro J hJ ⟨i, cur⟩ ⟨h1, h2⟩
 unfold qanh
 simp only [zT, puth, Nat.reduceEqDiff, reduceIte, Nat.reduceAdd] at h1 h2 ⊢
 clear hF
 rcases Nat.lt_or_ge i us.length with hi | hi
 ·rw [List.drop_eq_getElem_cons hi, qaif] at h2
  have hx := hu _ (List.getElem_mem hi)
  generalize hxx : us[i] = x at h2 hx
  generalize hrest : qadv (us.drop (i + 1)) = rest at h2
  have wi : IntKind.i64.wrap ((i : Int) + 1) = (i : Int) + 1 := qaap (by omega) (by omega)
  have hJo := hJ
  replace hrest := Lib.hid hrest
  repeat' (first | (with_reducible first | refine zA ?_ | refine qaae ?_) | ((with_reducible refine qaad ?_); (try rw [hP]); simp -implicitDefEqProofs [*]) | ((with_reducible refine qaaf ?_); (try simp -implicitDefEqProofs [*])) | ((with_reducible refine qaab rfl (fun h => ?_) (fun h => ?_)) <;> have h' := h <;> (try simp at h') <;> (try subst h')) | fail)
  refine qaaj (qaa5 (fun s (z : Nat × Int × List Int) => s.turn [(5, .int .u64 z.2.1)] [(0, .cells 88 [.own 1 z.2.2.length]), (1, .row 5 1 (z.2.2.map fun x => [SV.int .u8 x]))]) (fun z => F = z.2.2 ++ (varB z.1 z.2.1 ++ rest) ∧ 0 ≤ z.2.1 ∧ z.2.1 < 128 ^ (z.1 + 1)) (fun z => z.1) (9, x, cur) ?_ ⟨h2, hx.1, by have := hx.2; simp only; omega⟩ ?_)
  ·repeat' (first | ((with_reducible refine qaag [] hm ?_ ?_ ?_ ?_) <;> (try simp only [zT, puth, Nat.reduceEqDiff, reduceIte, Nat.reduceAdd])) | (with_reducible first | refine za ?_ ?_ | refine zb ?_ ?_ ?_ ?_ | refine zc ?_ ?_ ?_ ?_) | (with_reducible first | exact qaaa | exact qaac) | ((with_reducible first | refine zga ?_ | refine zgb ?_); rfl) | ((with_reducible refine zgc ?_); (first | (with_reducible rfl) | rfl | (simp; done))) | ((with_reducible refine zgd ?_); (first | omega | (simp; done))) | (exact Co.refl _) | (exact CoL.refl _) | fail)
  rintro J hJ ⟨f, u, c2⟩ ⟨h3, h4, h5⟩
  unfold qani
  simp only [zT, puth, Nat.reduceEqDiff, reduceIte, Nat.reduceAdd] at h3 h4 h5 ⊢
  clear h2 hx
  have hc3 : c2.length ≤ 140737488355327 := by
   have h6 := qarw f u
   have h7 : F.length = c2.length + ((varB f u).length + rest.length) := by rw [h3, List.length_append, List.length_append]
   have h8 := hl.out; unfold wMax at h8; omega
  have hc2 : c2.length + 1 ≤ maxLen := by unfold maxLen; omega
  rcases Int.lt_or_le u 128 with hlt | hge
  ·have kd : decide (u ≥ 128) = false := decide_eq_false (by omega)
   rw [varB_lt hlt] at h3
   simp only [ge_iff_le] at kd
   replace h3 := Lib.hid h3
   repeat' (first | (with_reducible refine zA ?_) | ((with_reducible refine qaad ?_); (try rw [hP]); simp -implicitDefEqProofs [*]) | ((with_reducible refine qaam ?_); (try simp -implicitDefEqProofs [*])) | ((with_reducible refine qaab rfl (fun h => ?_) (fun h => ?_)) <;> have h' := h <;> (try simp at h') <;> (try subst h')) | (with_reducible first | refine za ?_ ?_ | refine zb ?_ ?_ ?_ ?_ | refine zc ?_ ?_ ?_ ?_) | (with_reducible first | exact qaaa | exact qaac | exact qati) | ((with_reducible first | refine zga ?_ | refine zgb ?_); rfl) | ((with_reducible refine zgc ?_); (first | (with_reducible rfl) | rfl | (simp; done))) | ((with_reducible first | refine zgd ?_ | refine zge ?_); (first | omega | (simp; done))) | (exact Co.refl _) | (with_reducible refine qand ?_ ?_) | ((refine qaah hJo (i + 1, c2 ++ .cons (IntKind.u8.wrap u) .nil) ?_ ?_ ?_; (with_reducible refine qaag [(1, 19)] hm ?_ ?_ ?_ ?_) <;> (try simp only [zT, puth, Nat.reduceEqDiff, reduceIte, Nat.reduceAdd]))) | fail)
   ·exact qacs (by simp)
   ·exact ⟨hi, by show F = (c2 ++ [_]) ++ qadv (us.drop (i + 1)); rw [hrest.out, List.append_assoc]; exact h3.out⟩
  ·have kd : decide (u ≥ 128) = true := decide_eq_true hge
   simp only [ge_iff_le] at kd
   obtain ⟨f, rfl⟩ : ∃ g, f = g + 1 := by
    cases f with
    | zero => simp at h5; omega
    | succ f => exact ⟨f, rfl⟩
   have hstep : varB (f + 1) u = bits .or .u8 (IntKind.u8.wrap u) 128 :: varB f (u / 128) := by rw [varB, if_pos hge]
   rw [hstep] at h3
   replace h3 := Lib.hid h3
   replace hstep := Lib.hid hstep
   repeat' (first | (with_reducible first | refine zA ?_ | refine qaft ?_) | ((with_reducible refine qaad ?_); (try rw [hP]); simp -implicitDefEqProofs [*]) | ((with_reducible refine qaaf ?_); (try simp -implicitDefEqProofs [*])) | ((with_reducible refine qaab rfl (fun h => ?_) (fun h => ?_)) <;> have h' := h <;> (try simp at h') <;> (try subst h')) | (with_reducible first | refine za ?_ ?_ | refine zb ?_ ?_ ?_ ?_ | refine zc ?_ ?_ ?_ ?_) | (with_reducible first | exact qaaa | exact qaac | exact qati) | ((with_reducible first | refine zga ?_ | refine zgb ?_); rfl) | ((with_reducible refine zgc ?_); (first | (with_reducible rfl) | rfl | (simp; done))) | ((with_reducible first | refine zgd ?_ | refine zge ?_); (first | omega | (simp; done))) | (exact Co.refl _) | (with_reducible refine qand ?_ ?_) | ((refine qaah hJ (f, u / 128, c2 ++ .cons (bits .or .u8 (IntKind.u8.wrap u) 128) .nil) ?_ ?_ ?_; (with_reducible refine qaag [(1, 20)] hm ?_ ?_ ?_ ?_) <;> (try simp only [zT, puth, Nat.reduceEqDiff, reduceIte, Nat.reduceAdd]))) | fail)
   ·exact qacs (by simp)
   ·exact ⟨by show F = (c2 ++ [_]) ++ (varB f (u / 128) ++ rest); rw [List.append_assoc]; exact h3.out, by show 0 ≤ u / 128; omega, by show u / 128 < 128 ^ (f + 1); rw [Int.pow_succ] at h5; omega⟩
 ·obtain rfl : i = us.length := by omega
  rw [List.drop_length] at h2
  have h3 : F = cur := by rw [h2]; simp [qadv]
  replace h3 := Lib.hid h3
  clear h2
  repeat' (first | (with_reducible refine zA ?_) | ((with_reducible refine qaad ?_); (try rw [hP]); simp -implicitDefEqProofs [*]) | ((with_reducible refine qaam ?_); (try simp -implicitDefEqProofs [*])) | ((with_reducible refine qaab rfl (fun h => ?_) (fun h => ?_)) <;> have h' := h <;> (try simp at h') <;> (try subst h')) | fail)
  refine fin_w (sl := []) (nx := 2) (.inr rfl) hm (qaag [] hm trivial ?_ rfl (by simp))
  rw [h3.out]
  exact ⟨⟨_, rfl, rfl, CoL.refl _⟩, ⟨_, rfl, rfl, rfl, by rw [PureR.ren]; exact CoLL.refl _⟩, trivial⟩
end Go.Proofs.Ytbefmmajjfijnaa
namespace Go.Proofs.Ytbefmmajjfijnaa
set_option linter.all false
open Go.RowKit
attribute [local simp] qabl qabk qaav qaa9 qaaw qaa8 qabi qabj qaaq qab6 SOp.run SX.ev putd puts argS upds SOp.touch SSt.keep SSt.skip gets geth puth delh idOf SV.cells? setL qaeb qaec sbin eq0 eq1 eqL qadx qac0 qac1 qaa3 qabm qaai qabn qab7 qaao qaan FrzOk qabc qaay qaba qabb qaar qaax qabo qaaz qaat qabd qaas frzS frzH frz frz1 frz0 SlotsM ObjsM ObjM rn ren ren1 ren0 qaca qacx qacs qab9 qabp qac3 qac2 CoL qabe qaby dels adds idsH qabu
attribute [local simp] nums refc
theorem qa2a (bs : List Int) : qa06 (.abs (wA bs)) := qaod fun hh h => by
 subst h
 exact qag2 (qabs (qay0 _ _) qadk) (qag2 (fun e he => by
  obtain ⟨x, _, rfl⟩ := List.mem_map.1 he
  exact qabs (qafp _ _) qadk) qatj)
theorem qagi {X : Cx} {nx : Nat} {sl : Sl} {hp : Hp} {I : AbsI} {e : SExit} (he : e = .ret ∨ e = .normal) (hm : X.m = 1) (h : geth hp 0 = some (.abs I)) : QFun X [] 1 (.tup []) [(0, .abs I)] e ⟨sl, hp, nx⟩ := by
 have hw : Wk X ⟨sl, hp, nx⟩ ⟨[], [(0, .abs I)], 1⟩ := qaag [] hm trivial ⟨⟨_, h, rfl⟩, trivial⟩ rfl (Nat.le_refl _)
 rcases he with rfl | rfl <;> exact ⟨_, hw, rfl, ⟨rfl, trivial⟩, by simp⟩
variable {f : FuncId} {bs F : List Int}
theorem w_at {x : SV} (h : SCalls Try.prog f [.ptr 0 0, x] [(0, .abs (wA bs))] 1 (.tup []) [(0, .abs (wA F))]) (hx : ∀ σ, Go.Proofs.Ytbefmmajjfijnaa.ren σ x = x) {id q : Nat} (hq : id < q) :
  SCalls Try.prog f [.ptr id 0, x] [(id, .abs (wA bs))] q (.tup []) [(id, .abs (wA F))] :=
 qans h (fun σ => by rw [List.map_cons, hx]; rfl) (fun _ => rfl) rfl id q hq
theorem qarv {k : IntKind} {e : TypeId} {us : List Int} (h : SCalls Try.prog f [.ptr 0 0, nums k us] [(0, .abs (wA bs))] 1 (.tup []) [(0, .abs (wA F))]) {id j q n : Nat} {es : List (List SV)} (hq : id < q) (hj : id < j) (hn : n = us.length) (he : es = us.map fun x => [SV.int k x]) :
  SCalls Try.prog f [.ptr id 0, .own j n] [(id, .abs (wA bs)), (j, .row e 1 es)] q (.tup []) [(id, .abs (wA F)), (j, .row e 1 es)] := by
 subst he
 have h1 : geth [(j, SObj.row e 1 (us.map fun x => [SV.int k x]))] j = some (.row e 1 (us.map fun x => [SV.int k x])) := by simp only [geth, if_pos]
 refine qaj5 (h0 := [(id, .abs (wA bs))]) (h1 := [(j, .row e 1 (us.map fun x => [SV.int k x]))]) (h2 := [(id, .abs (wA F))]) (w_at h (fun _ => rfl) hq) ⟨qayd _, qake h1 PureR.pure (by rw [hn, List.length_map]), trivial⟩ (qane qadk) (fun i o ho => ?_) fun i hi => ?_
 ·simp only [geth] at ho
  split at ho
  ·cases ho; exact qa2a F
  ·cases ho
 ·simp only [geth] at hi ⊢
  split at hi
  ·rename_i e; subst e; simp [show ¬ id = j by omega]
  ·exact absurd rfl hi
theorem wnum_1 {x : Int} {id j q : Nat} (hx : 0 ≤ x ∧ x < 18446744073709551616) (hl : (bs ++ qadv [x]).length ≤ wMax) (hq : id < q) (hj : id < j) :
  SCalls Try.prog 57 [.ptr id 0, .own j 1] [(id, .abs (wA bs)), (j, .row 107 1 [[.int .u64 x]])] q (.tup []) [(id, .abs (wA (bs ++ qadv [x]))), (j, .row 107 1 [[.int .u64 x]])] :=
 qarv (qa15 [x] (by simpa using hx) bs _ rfl hl) hq hj rfl rfl
theorem qary (n : Int) : 0 ≤ IntKind.u64.wrap n ∧ IntKind.u64.wrap n < 18446744073709551616 := by
 simp [IntKind.wrap, IntKind.bits, IntKind.signed]; omega
def zig (x : Int) : Int := bits .xor .u64 (IntKind.u64.wrap (IntKind.u64.wrap x * 2 ^ min 1 IntKind.u64.bits)) (IntKind.u64.wrap (x / 2 ^ min 63 IntKind.i64.bits))
theorem zig_rng (x : Int) : 0 ≤ zig x ∧ zig x < 18446744073709551616 := by
 show 0 ≤ IntKind.u64.wrap _ ∧ IntKind.u64.wrap _ < _
 exact qary _
def qaa7 (ns : List Int) : List Int := qadv (ns.map zig)
theorem qasx (n : Int) (ns : List Int) : qaa7 (n :: ns) = qadv [zig n] ++ qaa7 ns := by
 show qadv (zig n :: ns.map zig) = _
 rw [qaif]; simp [qadv, qaa7]
theorem qahs (ns : List Int) : ns.length ≤ (qaa7 ns).length := by
 have := qahj (ns.map zig)
 rwa [List.length_map] at this
set_option maxHeartbeats 4000000 in
theorem qaxn (ns : List Int) (bs F : List Int) (hF : F = bs ++ qaa7 ns) (hl : F.length ≤ wMax) :
  SCalls Try.prog 29 [.ptr 0 0, nums .i64 ns] [(0, .abs (wA bs))] 1 (.tup []) [(0, .abs (wA F))] := by
 refine qaau (N := 23) Try.func29 rfl rfl (by kernel_rfl) qan7 (by simp) (by repeat' (first | exact trivial | refine And.intro ?_ ?_ | rfl | decide | exact PureR.ren _)) (by repeat' (first | exact trivial | refine And.intro ?_ ?_ | rfl | decide | exact PureR.ren _)) ?_
 rintro X hP hN hm
 unfold c_wint
 have hul : ns.length ≤ 9223372036854775807 := by
  have h1 := qahs ns
  have h2 : F.length = bs.length + (qaa7 ns).length := by rw [hF, List.length_append]
  unfold wMax at hl; omega
 replace hl := Lib.hid hl
 replace hF := Lib.hid hF
 repeat' (first | (with_reducible refine zA ?_) | ((with_reducible refine qaad ?_); (try rw [hP]); simp -implicitDefEqProofs [*]) | fail)
 refine qaaj (qaa5 (fun s (z : Nat × List Int) => s.turn [(8, .int .i64 z.1)] [(0, .abs (wA z.2))]) (fun z => z.1 ≤ ns.length ∧ F = z.2 ++ qaa7 (ns.drop z.1)) (fun z => ns.length - z.1) (0, bs) ?_ ⟨by simp, hF.out⟩ ?_)
 ·repeat' (first | ((with_reducible refine qaag [] hm ?_ ?_ ?_ ?_) <;> (try simp only [zT, puth, Nat.reduceEqDiff, reduceIte, Nat.reduceAdd])) | (with_reducible first | refine za ?_ ?_ | refine qaa0 ?_ ?_) | (with_reducible first | exact qaaa | exact qaac) | ((with_reducible first | refine zga ?_ | refine zgb ?_); rfl) | ((with_reducible refine zgd ?_); (first | omega | (simp; done))) | (exact Co.refl _) | fail)
 rintro J hJ ⟨i, cur⟩ ⟨h1, h2⟩
 unfold qanj
 simp only [zT, puth, Nat.reduceEqDiff, reduceIte, Nat.reduceAdd] at h1 h2 ⊢
 clear hF
 rcases Nat.lt_or_ge i ns.length with hi | hi
 ·rw [List.drop_eq_getElem_cons hi, qasx] at h2
  generalize hxx : ns[i] = x at h2
  have wi : IntKind.i64.wrap ((i : Int) + 1) = (i : Int) + 1 := qaap (by omega) (by omega)
  have hc : (cur ++ qadv [zig x]).length ≤ wMax := by
   have h3 := hl.out
   rw [h2, List.length_append, List.length_append] at h3
   rw [List.length_append]; omega
  have c1 := fun j q => wnum_1 (id := 0) (j := j) (q := q) (zig_rng x) hc
  unfold zig at c1
  replace h2 := Lib.hid h2
  replace hc := Lib.hid hc
  replace c1 := Lib.hid c1
  repeat' (first | (with_reducible first | refine zA ?_ | refine qaae ?_) | ((with_reducible refine qaad ?_); (try rw [hP]); simp -implicitDefEqProofs [*]) | ((with_reducible refine qaaf ?_); (try simp -implicitDefEqProofs [*])) | ((with_reducible refine qaab rfl (fun h => ?_) (fun h => ?_)) <;> have h' := h <;> (try simp at h') <;> (try subst h')) | (refine qaal (c1.out _ _ (by simp) (by simp)) ⟨rfl, rfl, trivial⟩ ⟨rfl, rfl, trivial⟩ ?_; simp -implicitDefEqProofs [*]) | (with_reducible first | refine za ?_ ?_ | refine qaa0 ?_ ?_) | (with_reducible first | exact qaaa | exact qaac) | ((with_reducible first | refine zga ?_ | refine zgb ?_); rfl) | ((with_reducible first | refine zgd ?_ | refine zge ?_); (first | omega | (simp; done))) | (exact Co.refl _) | ((refine qaah hJ (i + 1, ?_) ?_ ?_ ?_; rotate_left 1; (with_reducible refine qaag [] hm ?_ ?_ ?_ ?_) <;> (try simp only [zT, puth, Nat.reduceEqDiff, reduceIte, Nat.reduceAdd]))) | fail)
  exact ⟨hi, by show F = (cur ++ qadv [zig x]) ++ _; rw [List.append_assoc]; exact h2.out⟩
 ·obtain rfl : i = ns.length := by omega
  rw [List.drop_length] at h2
  have h3 : F = cur := by rw [h2]; simp [qadv, qaa7]
  replace h3 := Lib.hid h3
  clear h2
  repeat' (first | (with_reducible refine zA ?_) | ((with_reducible refine qaad ?_); (try rw [hP]); simp -implicitDefEqProofs [*]) | ((with_reducible refine qaam ?_); (try simp -implicitDefEqProofs [*])) | ((with_reducible refine qaab rfl (fun h => ?_) (fun h => ?_)) <;> have h' := h <;> (try simp at h') <;> (try subst h')) | (exact qagi (.inr rfl) hm (by rw [h3.out]; rfl)) | fail)
theorem wnum_2 {x y : Int} {id j q : Nat} (hx : 0 ≤ x ∧ x < 18446744073709551616) (hy : 0 ≤ y ∧ y < 18446744073709551616) (hl : (bs ++ qadv [x, y]).length ≤ wMax) (hq : id < q) (hj : id < j) :
  SCalls Try.prog 57 [.ptr id 0, .own j 2] [(id, .abs (wA bs)), (j, .row 107 1 [[.int .u64 x], [.int .u64 y]])] q (.tup []) [(id, .abs (wA (bs ++ qadv [x, y]))), (j, .row 107 1 [[.int .u64 x], [.int .u64 y]])] :=
 qarv (qa15 [x, y] (by intro u hu; simp at hu; rcases hu with rfl | rfl <;> assumption) bs _ rfl hl) hq hj rfl rfl
theorem qac6 {x : Int} {id j q : Nat} (hl : (bs ++ qaa7 [x]).length ≤ wMax) (hq : id < q) (hj : id < j) :
  SCalls Try.prog 29 [.ptr id 0, .own j 1] [(id, .abs (wA bs)), (j, .row 3 1 [[.int .i64 x]])] q (.tup []) [(id, .abs (wA (bs ++ qaa7 [x]))), (j, .row 3 1 [[.int .i64 x]])] :=
 qarv (qaxn [x] bs _ rfl hl) hq hj rfl rfl
theorem qah6 {x y : Int} {id j q : Nat} (hl : (bs ++ qaa7 [x, y]).length ≤ wMax) (hq : id < q) (hj : id < j) :
  SCalls Try.prog 29 [.ptr id 0, .own j 2] [(id, .abs (wA bs)), (j, .row 3 1 [[.int .i64 x], [.int .i64 y]])] q (.tup []) [(id, .abs (wA (bs ++ qaa7 [x, y]))), (j, .row 3 1 [[.int .i64 x], [.int .i64 y]])] :=
 qarv (qaxn [x, y] bs _ rfl hl) hq hj rfl rfl
theorem wint_3 {x y z : Int} {id j q : Nat} (hl : (bs ++ qaa7 [x, y, z]).length ≤ wMax) (hq : id < q) (hj : id < j) :
  SCalls Try.prog 29 [.ptr id 0, .own j 3] [(id, .abs (wA bs)), (j, .row 3 1 [[.int .i64 x], [.int .i64 y], [.int .i64 z]])] q (.tup []) [(id, .abs (wA (bs ++ qaa7 [x, y, z]))), (j, .row 3 1 [[.int .i64 x], [.int .i64 y], [.int .i64 z]])] :=
 qarv (qaxn [x, y, z] bs _ rfl hl) hq hj rfl rfl
theorem wint_v {l : List Int} {id q : Nat} (hl : (bs ++ qaa7 l).length ≤ wMax) (hq : id < q) :
  SCalls Try.prog 29 [.ptr id 0, nums .i64 l] [(id, .abs (wA bs))] q (.tup []) [(id, .abs (wA (bs ++ qaa7 l)))] :=
 w_at (qaxn l bs _ rfl hl) (fun _ => rfl) hq
def qaem (l : List Int) : List Int := qaa7 [(l.length : Int)] ++ qaa7 l
theorem wints_s {l : List Int} (hl : (bs ++ qaem l).length ≤ wMax) :
  SCalls Try.prog 30 [.ptr 0 0, nums .i64 l] [(0, .abs (wA bs))] 1 (.tup []) [(0, .abs (wA (bs ++ qaem l)))] := by
 refine qaau (N := 12) Try.func30 rfl rfl (by kernel_rfl) qaks (by simp) (by repeat' (first | exact trivial | refine And.intro ?_ ?_ | rfl | decide | exact PureR.ren _)) (by repeat' (first | exact trivial | refine And.intro ?_ ?_ | rfl | decide | exact PureR.ren _)) ?_
 rintro X hP hN hm
 unfold c_wints
 have e : bs ++ qaem l = (bs ++ qaa7 [(l.length : Int)]) ++ qaa7 l := (List.append_assoc _ _ _).symm
 have c2 := fun q => wint_v (bs := bs ++ qaa7 [(l.length : Int)]) (l := l) (id := 0) (q := q) (by rw [← e]; exact hl)
 have c1 := fun j q => qac6 (bs := bs) (x := (l.length : Int)) (id := 0) (j := j) (q := q) (by rw [e, List.length_append] at hl; omega)
 unfold nums at c2
 replace c1 := Lib.hid c1
 replace c2 := Lib.hid c2
 replace hl := Lib.hid hl
 clear e
 repeat' (first | (with_reducible refine zA ?_) | ((with_reducible refine qaad ?_); (try rw [hP]); simp -implicitDefEqProofs [*]) | ((first | refine qaal (c1.out _ _ (by simp) (by simp)) ⟨rfl, rfl, trivial⟩ ⟨rfl, rfl, trivial⟩ ?_ | refine qaal (c2.out _ (by simp)) ⟨rfl, trivial⟩ ⟨rfl, trivial⟩ ?_); simp -implicitDefEqProofs [*]) | (exact qagi (.inr rfl) hm rfl) | fail)
def refB (r : RefD) : List Int := qaa7 [r.h, r.f]
theorem wref_s {r : RefD} (hl : (bs ++ refB r).length ≤ wMax) :
  SCalls Try.prog 58 [.ptr 0 0, .agg (refc r)] [(0, .abs (wA bs))] 1 (.tup []) [(0, .abs (wA (bs ++ refB r)))] := by
 refine qaau (N := 11) Try.func58 rfl rfl (by kernel_rfl) qan5 (by simp) (by repeat' (first | exact trivial | refine And.intro ?_ ?_ | rfl | decide | exact PureR.ren _)) (by repeat' (first | exact trivial | refine And.intro ?_ ?_ | rfl | decide | exact PureR.ren _)) ?_
 rintro X hP hN hm
 unfold c_wref
 have c1 := fun j q => qah6 (bs := bs) (x := r.h) (y := r.f) (id := 0) (j := j) (q := q) hl
 replace c1 := Lib.hid c1
 replace hl := Lib.hid hl
 repeat' (first | (with_reducible refine zA ?_) | ((with_reducible refine qaad ?_); (try rw [hP]); simp -implicitDefEqProofs [*]) | (refine qaal (c1.out _ _ (by simp) (by simp)) ⟨rfl, rfl, trivial⟩ ⟨rfl, rfl, trivial⟩ ?_; simp -implicitDefEqProofs [*]) | (exact qagi (.inr rfl) hm rfl) | fail)
end Go.Proofs.Ytbefmmajjfijnaa
