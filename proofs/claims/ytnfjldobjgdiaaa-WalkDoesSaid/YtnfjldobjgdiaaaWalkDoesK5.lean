/-
  Texts joined: XWlkA XWlkB XCwlk XCpls XCplu XPlnX. No condition.
-/
import Derived.Test.YtnfjldobjgdiaaaProg
import Derived.ProofKit
import Derived.WalkSpells
import Derived.RegionTactic
import Derived.BigRegion
import Derived.Deep.RegionLaw
import Derived.Test.YtnfjldobjgdiaaaWalkDoesK4
namespace Go.Proofs.Ytnfjldobjgdiaaa
set_option linter.all false
open Go.RowKit
structure SetsD where
 must : BitVec 64
 may : BitVec 64
 least : Int
 most : Int
 there : Bool
def qad3 : SetsD := ⟨0, 0, 0, 0, false⟩
def setc (s : SetsD) : List SV := [.int .u64 s.must.toNat, .int .u64 s.may.toNat, .int .i64 s.least, .int .i64 s.most, .bool s.there]
def lo (a b : Int) : Int := if b < a then b else a
def hi_ (a b : Int) : Int := if b > a then b else a
def qal4 (s t : SetsD) : SetsD := if s.there then ⟨s.must &&& t.must, s.may ||| t.may, lo s.least t.least, hi_ s.most t.most, true⟩ else t
def bitB (h : Int) : BitVec 64 := BitVec.twoPow 64 h.toNat
def qahc (p : PlanD) (h : Int) : Int := qapu (headW p h)
abbrev TB := BitVec 64 × Int
def qbbu (y : TB) : SetsD := ⟨y.1, y.1, y.2, y.2, true⟩
def qbbi (p : PlanD) (h : Int) (x : SetsD) : SetsD := if 0 ≤ h then ⟨x.must ||| bitB h, x.may ||| bitB h, x.least + qahc p h, x.most + qahc p h, true⟩ else x
def qapq (p : PlanD) (h : Int) (y : TB) : TB := if 0 ≤ h then (y.1 ||| bitB h, y.2 + qahc p h) else y
structure Is (S : SetsD) (P : TB → Prop) : Prop where
 there : S.there = true
 must : ∀ j, S.must.getLsbD j = true ↔ (j < 64 ∧ ∀ y, P y → y.1.getLsbD j = true)
 may : ∀ j, S.may.getLsbD j = true ↔ ∃ y, P y ∧ y.1.getLsbD j = true
 least : (∃ y, P y ∧ y.2 = S.least) ∧ ∀ y, P y → S.least ≤ y.2
 most : (∃ y, P y ∧ y.2 = S.most) ∧ ∀ y, P y → y.2 ≤ S.most
theorem Is.uniq {S T : SetsD} {P : TB → Prop} (a : Is S P) (b : Is T P) : S = T := by
 obtain ⟨m1, m2, l1, l2, t1⟩ := S
 obtain ⟨n1, n2, k1, k2, t2⟩ := T
 have e1 : m1 = n1 := BitVec.eq_of_getLsbD_eq fun j hj => by
  have := (a.must j).trans (b.must j).symm
  exact Bool.eq_iff_iff.2 this
 have e2 : m2 = n2 := BitVec.eq_of_getLsbD_eq fun j hj => by
  have := (a.may j).trans (b.may j).symm
  exact Bool.eq_iff_iff.2 this
 obtain ⟨⟨y1, p1, q1⟩, r1⟩ := a.least
 obtain ⟨⟨y2, p2, q2⟩, r2⟩ := b.least
 obtain ⟨⟨y3, p3, q3⟩, r3⟩ := a.most
 obtain ⟨⟨y4, p4, q4⟩, r4⟩ := b.most
 have e3 : l1 = k1 := by have := r1 y2 p2; have := r2 y1 p1; simp only at *; omega
 have e4 : l2 = k2 := by have := r3 y4 p4; have := r4 y3 p3; simp only at *; omega
 have e5 : t1 = t2 := a.there.trans b.there.symm
 rw [e1, e2, e3, e4, e5]
theorem Is.congr {S : SetsD} {P Q : TB → Prop} (a : Is S P) (h : ∀ y, P y ↔ Q y) : Is S Q := by
 have : P = Q := funext fun y => propext (h y)
 rw [← this]; exact a
theorem is_one (y : TB) : Is (qbbu y) (fun z => z = y) :=
 ⟨rfl, fun j => ⟨fun h => ⟨BitVec.lt_of_getLsbD h, fun z hz => by rw [hz]; exact h⟩, fun h => h.2 y rfl⟩, fun j => ⟨fun h => ⟨y, rfl, h⟩, fun ⟨z, hz, h⟩ => by rw [hz] at h; exact h⟩,
  ⟨⟨y, rfl, rfl⟩, fun z hz => by rw [hz]; exact Int.le_refl _⟩, ⟨⟨y, rfl, rfl⟩, fun z hz => by rw [hz]; exact Int.le_refl _⟩⟩
theorem Is.join {S T : SetsD} {P Q : TB → Prop} (a : Is S P) (b : Is T Q) : Is (qal4 S T) (fun y => P y ∨ Q y) := by
 unfold qal4
 rw [if_pos a.there]
 refine ⟨rfl, fun j => ?_, fun j => ?_, ?_, ?_⟩
 ·rw [BitVec.getLsbD_and, Bool.and_eq_true, a.must, b.must]
  constructor
  ·rintro ⟨⟨h, h1⟩, ⟨_, h2⟩⟩; exact ⟨h, fun y hy => hy.elim (h1 y) (h2 y)⟩
  ·rintro ⟨h, h1⟩; exact ⟨⟨h, fun y hy => h1 y (.inl hy)⟩, ⟨h, fun y hy => h1 y (.inr hy)⟩⟩
 ·rw [BitVec.getLsbD_or, Bool.or_eq_true, a.may, b.may]
  constructor
  ·rintro (⟨y, h1, h2⟩ | ⟨y, h1, h2⟩)
   ·exact ⟨y, .inl h1, h2⟩
   ·exact ⟨y, .inr h1, h2⟩
  ·rintro ⟨y, h1 | h1, h2⟩
   ·exact .inl ⟨y, h1, h2⟩
   ·exact .inr ⟨y, h1, h2⟩
 ·obtain ⟨⟨y1, p1, q1⟩, r1⟩ := a.least
  obtain ⟨⟨y2, p2, q2⟩, r2⟩ := b.least
  show (∃ y, (P y ∨ Q y) ∧ y.2 = lo S.least T.least) ∧ _
  unfold lo
  split
  ·exact ⟨⟨y2, .inr p2, q2⟩, fun y hy => hy.elim (fun h => by have := r1 y h; show T.least ≤ y.2; omega) (r2 y)⟩
  ·exact ⟨⟨y1, .inl p1, q1⟩, fun y hy => hy.elim (r1 y) (fun h => by have := r2 y h; show S.least ≤ y.2; omega)⟩
 ·obtain ⟨⟨y1, p1, q1⟩, r1⟩ := a.most
  obtain ⟨⟨y2, p2, q2⟩, r2⟩ := b.most
  show (∃ y, (P y ∨ Q y) ∧ y.2 = hi_ S.most T.most) ∧ _
  unfold hi_
  split
  ·exact ⟨⟨y2, .inr p2, q2⟩, fun y hy => hy.elim (fun h => by have := r1 y h; show y.2 ≤ T.most; omega) (r2 y)⟩
  ·exact ⟨⟨y1, .inl p1, q1⟩, fun y hy => hy.elim (r1 y) (fun h => by have := r2 y h; show y.2 ≤ S.most; omega)⟩
theorem Is.step {S : SetsD} {P : TB → Prop} (a : Is S P) (p : PlanD) (h : Int) : Is (qbbi p h S) (fun z => ∃ y, P y ∧ z = qapq p h y) := by
 unfold qbbi qapq
 by_cases h0 : 0 ≤ h
 ·simp only [if_pos h0]
  obtain ⟨⟨y0, hy0, _⟩, _⟩ := a.least
  refine ⟨rfl, fun j => ?_, fun j => ?_, ?_, ?_⟩
  ·rw [BitVec.getLsbD_or, Bool.or_eq_true, a.must]
   constructor
   ·rintro (⟨h1, h2⟩ | h1)
    ·exact ⟨h1, fun z ⟨y, hy, e⟩ => by rw [e]; simp [h2 y hy]⟩
    ·exact ⟨BitVec.lt_of_getLsbD h1, fun z ⟨y, hy, e⟩ => by rw [e]; simp [h1]⟩
   ·rintro ⟨h1, h2⟩
    by_cases hb : (bitB h).getLsbD j = true
    ·exact .inr hb
    ·refine .inl ⟨h1, fun y hy => ?_⟩
     have := h2 _ ⟨y, hy, rfl⟩
     rw [BitVec.getLsbD_or, Bool.or_eq_true] at this
     exact this.resolve_right hb
  ·rw [BitVec.getLsbD_or, Bool.or_eq_true, a.may]
   constructor
   ·rintro (⟨y, h1, h2⟩ | h1)
    ·exact ⟨_, ⟨y, h1, rfl⟩, by rw [BitVec.getLsbD_or, h2]; rfl⟩
    ·exact ⟨_, ⟨y0, hy0, rfl⟩, by rw [BitVec.getLsbD_or, h1, Bool.or_true]⟩
   ·rintro ⟨z, ⟨y, hy, e⟩, h2⟩
    rw [e, BitVec.getLsbD_or, Bool.or_eq_true] at h2
    exact h2.elim (fun q => .inl ⟨y, hy, q⟩) .inr
  ·obtain ⟨⟨y, h1, h2⟩, h3⟩ := a.least
   exact ⟨⟨_, ⟨y, h1, rfl⟩, by rw [h2]⟩, fun z ⟨y, hy, e⟩ => by rw [e]; have := h3 y hy; show S.least + qahc p h ≤ y.2 + qahc p h; omega⟩
  ·obtain ⟨⟨y, h1, h2⟩, h3⟩ := a.most
   exact ⟨⟨_, ⟨y, h1, rfl⟩, by rw [h2]⟩, fun z ⟨y, hy, e⟩ => by rw [e]; have := h3 y hy; show y.2 + qahc p h ≤ S.most + qahc p h; omega⟩
 ·simp only [if_neg h0]
  exact a.congr fun y => ⟨fun h => ⟨y, h, rfl⟩, fun ⟨z, h, e⟩ => by rw [e]; exact h⟩
def IsO (S : SetsD) (P : TB → Prop) : Prop := (S = qad3 ∧ ∀ y, ¬ P y) ∨ Is S P
theorem IsO.join {S T : SetsD} {P Q : TB → Prop} (a : IsO S P) (b : Is T Q) : IsO (qal4 S T) (fun y => P y ∨ Q y) := by
 rcases a with ⟨h, hn⟩ | a
 ·subst h
  exact .inr (b.congr fun y => ⟨.inr, fun h => h.resolve_left (hn y)⟩)
 ·exact .inr (a.join b)
theorem IsO.congr {S : SetsD} {P Q : TB → Prop} (a : IsO S P) (h : ∀ y, P y ↔ Q y) : IsO S Q := by
 have : P = Q := funext fun y => propext (h y)
 rw [← this]; exact a
theorem IsO.uniq {S T : SetsD} {P : TB → Prop} (a : IsO S P) (b : IsO T P) : S = T := by
 rcases a with ⟨h, hn⟩ | a
 ·rcases b with ⟨h2, _⟩ | b
  ·rw [h, h2]
  ·obtain ⟨⟨y, hy, _⟩, _⟩ := b.least
   exact absurd hy (hn y)
 ·rcases b with ⟨_, hn⟩ | b
  ·obtain ⟨⟨y, hy, _⟩, _⟩ := a.least
   exact absurd hy (hn y)
  ·exact a.uniq b
theorem IsO.is {S : SetsD} {P : TB → Prop} (a : IsO S P) (h : S.there = true) : Is S P := by
 rcases a with ⟨e, _⟩ | a
 ·rw [e] at h; cases h
 ·exact a
def qac2 (s : StateD) : List Int := s.cases_.map CaseD.to_ ++ [s.els]
def tgt (n : Nat) (k : Int) : Int := if k = 1000 then n else k
def Leads (p : PlanD) (s : StateD) (k : Nat) : Prop := k ≤ p.states.length ∧ ∃ t ∈ qac2 s, tgt p.states.length t = k
def toS (n : Nat) (l : List SetsD) (k : Int) (s : SetsD) : List SetsD := if tgt n k ≤ n then l.set (tgt n k).toNat (qal4 (l.getD (tgt n k).toNat qad3) s) else l
def qai3 (p : PlanD) (st : StateD) (i : Nat) (l : List SetsD) : List SetsD := if (l.getD i qad3).there then (qac2 st).foldl (fun m k => toS p.states.length m k (qbbi p st.head (l.getD i qad3))) l else l
theorem qa02 (n : Nat) (l : List SetsD) (k : Int) (s : SetsD) : (toS n l k s).length = l.length := by
 unfold toS; split <;> simp
structure SOk (p : PlanD) (i : Nat) (s : StateD) : Prop where
 head : -1 ≤ s.head ∧ s.head < p.heads.length
 cases_ : s.cases_.length ≤ 4
 to_ : ∀ t ∈ qac2 s, t = 1000 ∨ t = 1001 ∨ ((i : Int) < t ∧ t < p.states.length)
 on : 0 < s.cases_.length → s.on.h < p.heads.length
structure PlOk (p : PlanD) : Prop where
 heads : p.heads.length ≤ 6
 size : ∀ h ∈ p.heads, qahl h.w = 0
 states : 1 ≤ p.states.length ∧ p.states.length ≤ 8
 ok : ∀ (i : Nat) (hi : i < p.states.length), SOk p i p.states[i]
theorem qap2 {b : Bool} {at_ : Int} (h : (qap3 b at_).1 = 0) : b = false := by
 unfold qap3 at h; cases b
 ·rfl
 ·simp at h
theorem qai6 {α : Type} {f : Nat → α → Int} {b : Int} : ∀ {l : List α} {i : Nat}, (rowF f b i l).1 = 0 → ∀ (j : Nat) (hj : j < l.length), f (i + j) l[j] = 0
 | [], _, _, j, hj => by simp at hj
 | y :: l, i, h, j, hj => by
  unfold rowF at h
  by_cases h1 : f i y ≠ 0
  ·rw [if_pos h1] at h; exact absurd h h1
  ·rw [if_neg h1] at h
   cases j with
   | zero => simpa using h1
   | succ j =>
    have := qai6 h j (by simpa using hj)
    rw [show i + (j + 1) = i + 1 + j by omega]; exact this
theorem qahr {α : Type} {f : α → Int} : ∀ {l : List α}, qaco f l = 0 → ∀ x ∈ l, f x = 0
 | [], _, x, hx => by cases hx
 | y :: l, h, x, hx => by
  unfold qaco at h
  by_cases h1 : f y = 0
  ·rw [if_pos h1] at h
   rcases List.mem_cons.1 hx with e | e
   ·rw [e]; exact h1
   ·exact qahr h x e
  ·rw [if_neg h1] at h; exact absurd h h1
theorem qbby {p : PlanD} {i : Nat} {t : Int} (h : qaf9 p i t = 0) : t = 1000 ∨ t = 1001 ∨ ((i : Int) < t ∧ t < p.states.length) := by
 unfold qaf9 at h
 by_cases h1 : t = 1000 ∨ t = 1001
 ·omega
 ·rw [if_neg h1] at h
  by_cases h2 : t < 0 ∨ (p.states.length : Int) ≤ t
  ·rw [if_pos h2] at h; exact absurd h (by decide)
  ·rw [if_neg h2] at h
   by_cases h3 : t ≤ i
   ·rw [if_pos h3] at h; exact absurd h (by decide)
   ·omega
theorem qa0x {p : PlanD} {r : RefD} (h : qaca p r [] ≠ 0) : r.h < p.heads.length := by
 by_cases h0 : r.h < 0
 ·omega
 ·unfold qaca qaq4 at h
  rw [if_neg (by omega), if_neg (by omega), if_neg (by omega)] at h
  by_cases h1 : 0 ≤ r.h ∧ r.h < p.heads.length
  ·exact h1.2
  ·rw [if_neg h1] at h
   exact absurd (by unfold qa1o; split <;> simp [el]) h
theorem pok_of {p : PlanD} (h : (qafr p).1 = 0) : PlOk p := by
 have h1 := qadg h
 have h2 := qadg h1.2
 have h3 := qadg h2.2
 have hh := qadg h1.1
 have hs := qadg h3.1
 have m1 := qap2 hh.1
 have m2 := qap2 hs.1
 rw [Bool.or_eq_false_iff, decide_eq_false_iff_not, decide_eq_false_iff_not] at m2
 rw [decide_eq_false_iff_not] at m1
 refine ⟨by omega, qbb0 h1.1, by omega, fun i hi => ?_⟩
 have hst := qai6 hs.2 i hi
 rw [Nat.zero_add] at hst
 generalize p.states[i] = s at hst
 unfold qae0 at hst
 by_cases c1 : s.head < -1 ∨ (p.heads.length : Int) ≤ s.head
 ·rw [if_pos c1] at hst; exact absurd hst (by decide)
 rw [if_neg c1] at hst
 by_cases c2 : 4 < s.cases_.length
 ·rw [if_pos c2] at hst; exact absurd hst (by decide)
 rw [if_neg c2] at hst
 by_cases c3 : 0 < s.cases_.length ∧ qaca p s.on [] = 0
 ·rw [if_pos c3] at hst; exact absurd hst (by decide)
 rw [if_neg c3] at hst
 by_cases c4 : qaco (qag1 p i (qaca p s.on [])) s.cases_ ≠ 0
 ·rw [if_pos c4] at hst; exact absurd hst c4
 rw [if_neg c4] at hst
 refine ⟨by omega, by omega, fun t ht => ?_, fun hc => qa0x fun e => c3 ⟨hc, e⟩⟩
 unfold qac2 at ht
 rcases List.mem_append.1 ht with ht | ht
 ·obtain ⟨c, hc, rfl⟩ := List.mem_map.1 ht
  have := qahr (Decidable.not_not.1 c4) c hc
  unfold qag1 at this
  split at this
  ·exact absurd this (by decide)
  ·exact qbby this
 ·rw [List.mem_singleton.1 ht]; exact qbby hst
end Go.Proofs.Ytnfjldobjgdiaaa
namespace Go.Proofs.Ytnfjldobjgdiaaa
set_option linter.all false
open Go.RowKit
def RW (p : PlanD) : Nat → Nat → TB → Prop
 | 0, k, y => k = 0 ∧ y = (0, 0)
 | i + 1, k, y => RW p i k y ∨ ∃ h : i < p.states.length, ∃ z, RW p i i z ∧ Leads p p.states[i] k ∧ y = qapq p p.states[i].head z
def qadj (p : PlanD) : Nat → List SetsD
 | 0 => (List.replicate (p.states.length + 1) qad3).set 0 ⟨0, 0, 0, 0, true⟩
 | i + 1 => if h : i < p.states.length then qai3 p p.states[i] i (qadj p i) else qadj p i
theorem qafp (p : PlanD) {i : Nat} (h : i < p.states.length) : qadj p (i + 1) = qai3 p p.states[i] i (qadj p i) := by
 show (if h : i < p.states.length then _ else _) = _
 rw [dif_pos h]
theorem qajf (n : Nat) (s : SetsD) : ∀ (ts : List Int) (l : List SetsD), (ts.foldl (fun l k => toS n l k s) l).length = l.length
 | [], _ => rfl
 | t :: ts, l => by rw [List.foldl_cons, qajf n s ts, qa02]
theorem qa05 (p : PlanD) (st : StateD) (i : Nat) (l : List SetsD) : (qai3 p st i l).length = l.length := by
 unfold qai3; split
 ·exact qajf _ _ _ _
 ·rfl
theorem qadf (p : PlanD) : ∀ i, (qadj p i).length = p.states.length + 1
 | 0 => by simp [qadj]
 | i + 1 => by
  by_cases h : i < p.states.length
  ·rw [qafp p h, qa05, qadf p i]
  ·show (if h : i < p.states.length then _ else _ : List SetsD).length = _
   rw [dif_neg h, qadf p i]
theorem toS_is {n : Nat} {l : List SetsD} {P : Nat → TB → Prop} {Q : TB → Prop} {T : SetsD} (hl : l.length = n + 1) (h : ∀ k, k ≤ n → IsO (l.getD k qad3) (P k)) (hT : Is T Q) (t : Int) (h0 : 0 ≤ tgt n t) :
  ∀ k, k ≤ n → IsO ((toS n l t T).getD k qad3) (fun y => P k y ∨ (tgt n t = k ∧ Q y)) := fun k hk => by
 unfold toS
 by_cases h1 : tgt n t ≤ n
 ·rw [if_pos h1]
  by_cases h2 : tgt n t = k
  ·have e : (tgt n t).toNat = k := by omega
   rw [e, List.getD_eq_getElem?_getD, List.getElem?_set_self (by omega), Option.getD_some]
   exact ((h k hk).join hT).congr fun y => by simp [h2]
  ·have e : (tgt n t).toNat ≠ k := by omega
   rw [List.getD_eq_getElem?_getD, List.getElem?_set_ne e, ← List.getD_eq_getElem?_getD]
   exact (h k hk).congr fun y => by simp [h2]
 ·rw [if_neg h1]
  have h2 : tgt n t ≠ k := by omega
  exact (h k hk).congr fun y => by simp [h2]
theorem qaqf {n : Nat} {Q : TB → Prop} {T : SetsD} (hT : Is T Q) : ∀ (ts : List Int) (l : List SetsD) (P : Nat → TB → Prop), l.length = n + 1 → (∀ k, k ≤ n → IsO (l.getD k qad3) (P k)) → (∀ t ∈ ts, 0 ≤ tgt n t) →
  ∀ k, k ≤ n → IsO ((ts.foldl (fun l k => toS n l k T) l).getD k qad3) (fun y => P k y ∨ ((∃ t ∈ ts, tgt n t = k) ∧ Q y))
 | [], l, P, _, h, _, k, hk => (h k hk).congr fun y => by simp
 | t :: ts, l, P, hl, h, h0, k, hk => by
  rw [List.foldl_cons]
  have := qaqf hT ts (toS n l t T) _ (by rw [qa02, hl]) (toS_is hl h hT t (h0 t (by simp))) (fun t' ht => h0 t' (by simp [ht])) k hk
  refine this.congr fun y => ?_
  constructor
  ·rintro ((h1 | ⟨h1, h2⟩) | ⟨⟨t', h1, h2⟩, h3⟩)
   ·exact .inl h1
   ·exact .inr ⟨⟨t, by simp, h1⟩, h2⟩
   ·exact .inr ⟨⟨t', by simp [h1], h2⟩, h3⟩
  ·rintro (h1 | ⟨⟨t', h1, h2⟩, h3⟩)
   ·exact .inl (.inl h1)
   ·rcases List.mem_cons.1 h1 with e | e
    ·exact .inl (.inr ⟨by rw [← e]; exact h2, h3⟩)
    ·exact .inr ⟨⟨t', e, h2⟩, h3⟩
theorem qa89 {p : PlanD} {i : Nat} {s : StateD} (h : SOk p i s) (hi : i < p.states.length) (hn : p.states.length ≤ 8) {t : Int} (ht : t ∈ qac2 s) : (i : Int) < tgt p.states.length t := by
 unfold tgt
 rcases h.to_ t ht with e | e | ⟨e1, e2⟩
 ·rw [if_pos e]; omega
 ·rw [if_neg (by omega)]; omega
 ·rw [if_neg (by omega)]; omega
theorem qbc3 {p : PlanD} {i : Nat} {s : StateD} (h : SOk p i s) (hi : i < p.states.length) (hn : p.states.length ≤ 8) {k : Nat} (hk : Leads p s k) : i < k := by
 obtain ⟨_, t, ht, e⟩ := hk
 have := qa89 h hi hn ht; omega
theorem qafe {p : PlanD} (hp : PlOk p) : ∀ i, i ≤ p.states.length → ∀ k, k ≤ p.states.length → IsO ((qadj p i).getD k qad3) (RW p i k)
 | 0, _, k, hk => by
  unfold qadj
  by_cases h0 : k = 0
  ·subst h0
   rw [List.getD_eq_getElem?_getD, List.getElem?_set_self (by simp), Option.getD_some]
   exact .inr ((is_one (0, 0)).congr fun y => by simp [RW])
  ·rw [List.getD_eq_getElem?_getD, List.getElem?_set_ne (by omega), List.getElem?_replicate, if_pos (by omega), Option.getD_some]
   exact .inl ⟨rfl, fun y hy => h0 hy.1⟩
 | i + 1, hi, k, hk => by
  have hlt : i < p.states.length := by omega
  have ih := qafe hp i (by omega)
  rw [qafp p hlt]
  have ok := hp.ok i hlt
  unfold qai3
  by_cases ht : ((qadj p i).getD i qad3).there = true
  ·rw [if_pos ht]
   have := qaqf (((ih i (by omega)).is ht).step p p.states[i].head) (qac2 p.states[i]) (qadj p i) (RW p i) (qadf p i) ih (fun t h => by have := qa89 ok hlt hp.states.2 h; omega) k hk
   refine this.congr fun y => ?_
   constructor
   ·rintro (h1 | ⟨h1, z, h2, h3⟩)
    ·exact .inl h1
    ·exact .inr ⟨hlt, z, h2, ⟨hk, h1⟩, h3⟩
   ·rintro (h1 | ⟨_, z, h2, h3, h4⟩)
    ·exact .inl h1
    ·exact .inr ⟨h3.2, z, h2, h4⟩
  ·rw [if_neg ht]
   refine (ih k hk).congr fun y => ⟨.inl, fun h => h.elim id fun ⟨_, z, h2, _⟩ => ?_⟩
   rcases ih i (by omega) with ⟨_, hn⟩ | h
   ·exact absurd h2 (hn z)
   ·exact absurd h.there ht
theorem qa1d {p : PlanD} (hp : PlOk p) {k : Nat} : ∀ j, k ≤ j → j ≤ p.states.length → ∀ y, RW p j k y ↔ RW p k k y
 | 0, h, _, y => by obtain rfl : k = 0 := by omega
                    exact Iff.rfl
 | j + 1, h, hj, y => by
  by_cases e : k = j + 1
  ·rw [e]
  ·rw [← qa1d hp j (by omega) (by omega) y]
   refine ⟨fun h => h.elim id fun ⟨h1, z, h2, h3, h4⟩ => ?_, .inl⟩
   have := qbc3 (hp.ok j h1) h1 hp.states.2 h3; omega
theorem qaq0 {p : PlanD} (hp : PlOk p) {k j : Nat} (h : k ≤ j) (hj : j ≤ p.states.length) : (qadj p j).getD k qad3 = (qadj p k).getD k qad3 :=
 (qafe hp j hj k (by omega)).uniq ((qafe hp k (by omega) k (by omega)).congr fun y => (qa1d hp j h hj y).symm)
def qai5 (p : PlanD) : List SetsD := qadj p p.states.length
def setAt (p : PlanD) (i : Nat) : SetsD := (qai5 p).getD i qad3
def refC (s : StateD) (x : SetsD) : Int :=
 if x.there = false then 0
 else if (decide (0 ≤ s.head) && (x.may &&& bitB s.head != 0)) = true then 7
 else if (decide (0 < s.cases_.length) && (decide (0 ≤ s.on.h) && (s.on.h != s.head && (x.must &&& bitB s.on.h == 0)))) = true then 12
 else 0
def qae5 (p : PlanD) : Int × Int := rowF (fun i s => refC s (setAt p i)) 3000 0 p.states
def qalx (p : PlanD) : Int × Int := if (qafr p).1 ≠ 0 then qafr p else qae5 p
def qapm (p : PlanD) : List SetsD := if (qalx p).1 ≠ 0 then [] else qai5 p
theorem qal6 {p : PlanD} (hp : PlOk p) {h : Int} (h0 : 0 ≤ h) (h1 : h < p.heads.length) : 1 ≤ qahc p h ∧ qahc p h ≤ 32 := by
 unfold qahc headW
 rw [List.getElem?_eq_getElem (by omega : h.toNat < p.heads.length)]
 have := qapr (hp.size _ (List.getElem_mem (by omega : h.toNat < p.heads.length)))
 exact ⟨this.2.2.2.2.2.2.1, this.2.2.2.2.2.2.2⟩
theorem qbcb {p : PlanD} (hp : PlOk p) {h : Int} (h1 : h < p.heads.length) (y : TB) : y.2 ≤ (qapq p h y).2 ∧ (qapq p h y).2 ≤ y.2 + 32 := by
 unfold qapq
 by_cases h0 : 0 ≤ h
 ·rw [if_pos h0]; have := qal6 hp h0 h1; show _ ≤ y.2 + qahc p h ∧ y.2 + qahc p h ≤ _; omega
 ·rw [if_neg h0]; omega
theorem rw_in {p : PlanD} (hp : PlOk p) : ∀ i, ∀ k y, RW p i k y → 0 ≤ y.2 ∧ y.2 ≤ 32 * i
 | 0, k, y, h => by rw [h.2]; simp
 | i + 1, k, y, h => by
  rcases h with h | ⟨hi, z, h1, _, h2⟩
  ·have := rw_in hp i k y h; omega
  ·have a := rw_in hp i i z h1
   have b := qbcb hp (hp.ok i hi).head.2 z
   rw [h2]; omega
theorem qa9b {p : PlanD} (hp : PlOk p) {i k : Nat} (hi : i ≤ p.states.length) (hk : k ≤ p.states.length) : 0 ≤ ((qadj p i).getD k qad3).least ∧ ((qadj p i).getD k qad3).least ≤ 256 ∧ 0 ≤ ((qadj p i).getD k qad3).most ∧ ((qadj p i).getD k qad3).most ≤ 256 := by
 have hn := hp.states.2
 rcases qafe hp i hi k hk with ⟨e, _⟩ | h
 ·rw [e]; simp [qad3]
 ·obtain ⟨⟨y, h1, h2⟩, _⟩ := h.least
  obtain ⟨⟨z, h3, h4⟩, _⟩ := h.most
  have a := rw_in hp i k y h1
  have b := rw_in hp i k z h3
  omega
end Go.Proofs.Ytnfjldobjgdiaaa
namespace Go.Proofs.Ytnfjldobjgdiaaa
set_option linter.all false
open Go.RowKit
abbrev qa2p : List SOper := [Oa 2 (.box 56 (.t 0)), Oa 3 (.box 56 (.t 1)), Oa 4 (.alloc 56 [(.int .u64 0), (.int .u64 0), (.int .i64 0), (.int .i64 0), (.bool false)])]
abbrev qa2o : List SOper := [Oa 5 (.faddr 4 (.t 2)), Oa 6 (.load (.t 5)), Oa 7 (.un .not (.t 6))]
abbrev qa2n : List SOper := [Oa 8 (.loads 5 (.t 3)), Ob (.store 5 (.t 4) (.t 8))]
abbrev qa2m : List SOper := [Oa 9 (.faddr 0 (.t 2)), Oa 10 (.load (.t 9)), Oa 11 (.faddr 0 (.t 3)), Oa 12 (.load (.t 11)), Oa 13 (.bin .and (.t 10) (.t 12)), Oa 14 (.faddr 1 (.t 2)), Oa 15 (.load (.t 14)), Oa 16 (.faddr 1 (.t 3)), Oa 17 (.load (.t 16)), Oa 18 (.bin .or (.t 15) (.t 17)), Oa 19 (.faddr 2 (.t 2)), Oa 20 (.load (.t 19)), Oa 21 (.faddr 2 (.t 3)), Oa 22 (.load (.t 21)), Oa 23 (.mm false (.t 20) (.t 22)), Oa 24 (.faddr 3 (.t 2)), Oa 25 (.load (.t 24)), Oa 26 (.faddr 3 (.t 3)), Oa 27 (.load (.t 26)), Oa 28 (.mm true (.t 25) (.t 27)), Oa 29 (.build [(.int .u64 0), (.int .u64 0), (.int .i64 0), (.int .i64 0), (.bool false)] [(0, 1, (.t 13)), (1, 1, (.t 18)), (2, 1, (.t 23)), (3, 1, (.t 28)), (4, 1, (.c (.bool true)))]), Ob (.store 5 (.t 4) (.t 29))]
def c_wjoin : SCode := (.seq (.reg false qa2p [2, 3, 4]) (.seq (.seq (.reg false qa2o [2, 3, 4, 7]) (.cond (.t 7) (.seq (.reg false qa2n [4]) .ret) .skip)) (.seq (.reg false qa2m [4]) .ret)))
theorem qamb : comp Try.prog 30 ((Try.f90.body).getD .skip) = some c_wjoin.erase := by kernel_rfl
abbrev qa20 : List SOper := [Oa 8 (.mv (.t 1)), Oa 9 (.mv (.t 8)), Oe 10 (.mv (.t 0)) 9 true, Oe 11 (.nilc (.t 10)) 9 true, Oe 12 (.faddr 8 (.t 11)) 9 true, Oe 13 (.faddr 0 (.t 12)) 9 true, Oe 14 (.load (.t 13)) 9 true, Oe 15 (.bin .eql (.t 14) (.c (.int .i64 0))) 9 true, Oa 16 (.pick (.t 9) (.t 15) (.c (.bool false)))]
abbrev qa2z : List SOper := [Oa 17 (.mv (.t 0)), Oa 18 (.mv (.t 2)), Oa 19 (.mv (.t 3)), Oa 20 (.build [(.int .i64 0), (.int .i64 0)] [(0, 1, (.t 18)), (1, 1, (.t 19))]), Oa 21 (.nilc (.t 17)), Oa 22 (.faddr 8 (.t 21)), Ob (.store 2 (.t 22) (.t 20))]
def c_wfail : SCode := (.seq (.reg false qa20 [0, 2, 3, 16]) (.cond (.t 16) (.reg false qa2z []) .skip))
theorem qamd : comp Try.prog 23 ((Try.f75.body).getD .skip) = some c_wfail.erase := by kernel_rfl
abbrev qbdp : List SOper := [Oa 5 (.box 56 (.t 2))]
abbrev qbdo : List SOper := [Oa 6 (.mv (.t 1)), Oa 7 (.bin .eql (.t 6) (.c (.int .i64 1000)))]
abbrev qbdn : List SOper := [Oa 8 (.mv (.t 0)), Oa 9 (.nilc (.t 8)), Oa 10 (.faddr 0 (.t 9)), Oa 11 (.faddr 2 (.t 10)), Oa 12 (.load (.t 11)), Oa 13 (.len false (.t 12)), Oa 1 (.mv (.t 13))]
abbrev qbdm : List SOper := [Oa 14 (.mv (.t 1)), Oa 15 (.mv (.t 0)), Oa 16 (.nilc (.t 15)), Oa 17 (.faddr 0 (.t 16)), Oa 18 (.faddr 2 (.t 17)), Oa 19 (.load (.t 18)), Oa 20 (.len false (.t 19)), Oa 21 (.bin .leq (.t 14) (.t 20))]
abbrev qbdl : List SOper := [Oa 22 (.mv (.t 0)), Od 23 (.nilc (.t 22)) 1, Od 24 (.faddr 7 (.t 23)) 3, Od 25 (.load (.t 24)) 7, Oa 26 (.mv (.t 1)), Oa 27 (.mv (.t 0)), Od 28 (.nilc (.t 27)) 32, Od 29 (.faddr 7 (.t 28)) 96, Od 30 (.load (.t 29)) 224, Oa 31 (.mv (.t 1)), Od 32 (.iaddr 5 (.t 30) (.t 31)) 992, Od 33 (.loads 5 (.t 32)) 2016, Oa 34 (.loads 5 (.t 5)), ⟨(some 35), .mv (.c .any), some ((.c (.fn (.func 90) [] [])), [(.t 33), (.t 34)]), none, 8160⟩, Od 36 (.iaddr 5 (.t 25) (.t 26)) 16383, ⟨none, .store 5 (.t 36) (.t 35), none, none, 32767⟩]
def c_wto : SCode := (.seq (.reg false qbdp [0, 1, 5]) (.seq (.seq (.reg false qbdo [0, 1, 5, 7]) (.cond (.t 7) (.reg false qbdn [0, 1, 5]) .skip)) (.seq (.reg false qbdm [0, 1, 5, 21]) (.cond (.t 21) (.reg true qbdl []) .skip))))
theorem qa2b : comp Try.prog 37 ((Try.f77.body).getD .skip) = some c_wto.erase := by kernel_rfl
abbrev qa99 : List SOper := [Oa 2 (.mv (.c (.int .u64 0)))]
abbrev qa98 : List SOper := [Oa 3 (.mv (.t 0)), Oa 4 (.bin .shl (.c (.int .u64 1)) (.t 3)), Oa 2 (.mv (.t 4))]
def c_wbit : SCode := (.seq (.reg false qa99 [0]) (.seq (.reg false qa98 [2]) .ret))
theorem qare : comp Try.prog 5 ((Try.f76.body).getD .skip) = some c_wbit.erase := by kernel_rfl
abbrev qarx : List SOper := [Oa 10 (.mv (.t 0)), Od 11 (.nilc (.t 10)) 1, Od 12 (.faddr 0 (.t 11)) 3, Od 13 (.faddr 2 (.t 12)) 7, Od 14 (.load (.t 13)) 15, Oa 15 (.mv (.t 1)), Od 16 (.iaddr 5 (.t 14) (.t 15)) 63, Od 17 (.loads 5 (.t 16)) 127, Oa 18 (.mv (.t 0)), Od 19 (.nilc (.t 18)) 256, Od 20 (.faddr 7 (.t 19)) 768, Od 21 (.load (.t 20)) 1792, Oa 22 (.mv (.t 1)), Od 23 (.iaddr 5 (.t 21) (.t 22)) 7936, Od 24 (.loads 5 (.t 23)) 16128, Oa 4 (.alloc 65 [(.int .i64 0), (.int .i64 0), (.int .i64 0), .nilsl, (.int .i64 0)]), Oa 5 (.alloc 56 [(.int .u64 0), (.int .u64 0), (.int .i64 0), (.int .i64 0), (.bool false)]), ⟨none, .store 5 (.t 4) (.t 17), none, none, 98559⟩, ⟨none, .store 5 (.t 5) (.t 24), none, none, 262143⟩]
abbrev qarw : List SOper := [Oa 25 (.faddr 4 (.t 5)), Oa 26 (.load (.t 25)), Oa 27 (.un .not (.t 26))]
abbrev qarv : List SOper := [Oa 28 (.faddr 0 (.t 4)), Oa 29 (.load (.t 28)), Oa 30 (.bin .geq (.t 29) (.c (.int .i64 0)))]
abbrev qaru : List SOper := [Oa 31 (.mv (.t 0)), Oa 32 (.faddr 1 (.t 5)), Od 33 (.load (.t 32)) 2, Oa 34 (.faddr 0 (.t 4)), Od 35 (.load (.t 34)) 8, ⟨(some 36), .mv (.c .any), some ((.c (.fn (.func 76) [] [])), [(.t 35)]), none, 24⟩, Od 37 (.bin .and (.t 33) (.t 36)) 62, Od 38 (.bin .neq (.t 37) (.c (.int .u64 0))) 126, Oa 39 (.mv (.t 1)), Od 40 (.bin .add (.c (.int .i64 3000)) (.t 39)) 256, ⟨(some 41), .mv (.c .any), some ((.c (.fn (.func 75) [] [])), [(.t 31), (.t 38), (.c (.int .i64 7)), (.t 40)]), none, 1023⟩]
abbrev qart : List SOper := [Oa 43 (.mv (.t 0)), Od 44 (.nilc (.t 43)) 1, Od 45 (.faddr 0 (.t 44)) 3, Od 46 (.faddr 0 (.t 45)) 7, Od 47 (.load (.t 46)) 15, Oa 48 (.faddr 0 (.t 4)), Od 49 (.load (.t 48)) 32, Od 50 (.iaddr 1 (.t 47) (.t 49)) 127, Od 51 (.loads 1 (.t 50)) 255, ⟨(some 52), .mv (.c .any), some ((.c (.fn (.func 32) [] [])), [(.t 51)]), none, 511⟩, Od 42 (.mv (.t 52)) 1023, Od 53 (.extr (.t 42) 0) 2047, Od 54 (.extr (.t 42) 1) 2047, Oa 7 (.alloc 45 [(.int .i64 0), (.int .i64 0)]), Od 6 (.mv (.t 53)) 12287, ⟨none, .store 2 (.t 7) (.t 54), none, none, 32767⟩]
abbrev qars : List SOper := [Oa 55 (.faddr 0 (.t 5)), Od 56 (.load (.t 55)) 1, Oa 57 (.faddr 0 (.t 4)), Od 58 (.load (.t 57)) 4, ⟨(some 59), .mv (.c .any), some ((.c (.fn (.func 76) [] [])), [(.t 58)]), none, 12⟩, Od 60 (.bin .or (.t 56) (.t 59)) 31, Oa 61 (.faddr 1 (.t 5)), Od 62 (.load (.t 61)) 64, Oa 63 (.faddr 0 (.t 4)), Od 64 (.load (.t 63)) 256, ⟨(some 65), .mv (.c .any), some ((.c (.fn (.func 76) [] [])), [(.t 64)]), none, 796⟩, Od 66 (.bin .or (.t 62) (.t 65)) 2012, Oa 67 (.faddr 2 (.t 5)), Od 68 (.load (.t 67)) 4096, Oa 69 (.mv (.t 6)), Od 70 (.bin .add (.t 68) (.t 69)) 28672, Oa 71 (.faddr 3 (.t 5)), Od 72 (.load (.t 71)) 65536, Oa 73 (.mv (.t 6)), Od 74 (.bin .add (.t 72) (.t 73)) 458752, Od 75 (.build [(.int .u64 0), (.int .u64 0), (.int .i64 0), (.int .i64 0), (.bool false)] [(0, 1, (.t 60)), (1, 1, (.t 66)), (2, 1, (.t 70)), (3, 1, (.t 74)), (4, 1, (.c (.bool true)))]) 1048575, ⟨none, .store 5 (.t 5) (.t 75), none, none, 2097151⟩]
abbrev qarr : List SOper := [Oa 76 (.faddr 3 (.t 4)), Oa 77 (.load (.t 76)), Oa 78 (.len false (.t 77)), Oa 79 (.bin .gtr (.t 78) (.c (.int .i64 0)))]
abbrev qarq : List SOper := [Oa 80 (.mv (.t 0)), Oa 81 (.faddr 1 (.t 4)), Od 82 (.faddr 0 (.t 81)) 2, Od 83 (.load (.t 82)) 6, Od 84 (.bin .geq (.t 83) (.c (.int .i64 0))) 14, Od 85 (.mv (.t 84)) 30, Of 86 (.faddr 0 (.t 5)) 85 true 62, Of 87 (.load (.t 86)) 85 true 126, Of 88 (.faddr 1 (.t 4)) 85 true 62, Of 89 (.faddr 0 (.t 88)) 85 true 318, Of 90 (.load (.t 89)) 85 true 830, ⟨(some 91), .mv (.c .any), some ((.c (.fn (.func 76) [] [])), [(.t 90)]), (some (85, true)), 1854⟩, Of 92 (.bin .and (.t 87) (.t 91)) 85 true 4094, Of 93 (.bin .eql (.t 92) (.c (.int .u64 0))) 85 true 8190, Od 94 (.pick (.t 85) (.t 93) (.c (.bool false))) 16382, Oa 95 (.mv (.t 1)), Od 96 (.bin .add (.c (.int .i64 3000)) (.t 95)) 32768, ⟨(some 97), .mv (.c .any), some ((.c (.fn (.func 75) [] [])), [(.t 80), (.t 94), (.c (.int .i64 12)), (.t 96)]), none, 131071⟩]
abbrev qarp : List SOper := [Oa 98 (.faddr 3 (.t 4)), Oa 99 (.load (.t 98)), Oa 100 (.len false (.t 99)), Oa 101 (.mv (.c (.int .i64 0)))]
abbrev qanb : List SOper := [Oa 102 (.bin .lss (.t 101) (.t 100))]
abbrev qana : List SOper := [Oa 103 (.iaddr 3 (.t 99) (.t 101)), Oa 104 (.loads 3 (.t 103)), Oa 9 (.alloc 95 [(.int .u64 0), (.int .u64 0), (.int .i64 0)]), Ob (.store 3 (.t 9) (.t 104))]
abbrev qam9 : List SOper := [Oa 105 (.mv (.t 0)), Oa 106 (.faddr 2 (.t 9)), Oa 107 (.load (.t 106)), Oa 108 (.loads 5 (.t 5)), Oc 109 77 [(.t 105), (.t 107), (.t 108)]]
abbrev qam8 : List SOper := [Oa 110 (.bin .add (.t 101) (.c (.int .i64 1))), Oa 101 (.mv (.t 110))]
def c_wstate_l1 : SCode := (.seq (.reg false qanb [0, 4, 5, 99, 100, 101, 102]) (.seq (.cond (.t 102) .skip (.exit 0)) (.seq (.block 1 (.seq (.reg false qana [0, 4, 5, 9, 99, 100, 101]) (.reg false qam9 [0, 4, 5, 99, 100, 101]))) (.reg false qam8 [0, 4, 5, 99, 100, 101]))))
abbrev qag3 : List SOper := [Oa 111 (.mv (.t 0)), Oa 112 (.faddr 4 (.t 4)), Oa 113 (.load (.t 112)), Oa 114 (.loads 5 (.t 5)), Oc 115 77 [(.t 111), (.t 113), (.t 114)]]
def c_wstate : SCode := (.seq (.reg true qarx [0, 1, 4, 5]) (.seq (.seq (.reg false qarw [0, 1, 4, 5, 27]) (.cond (.t 27) .ret .skip)) (.seq (.seq (.reg false qarv [0, 1, 4, 5, 30]) (.cond (.t 30) (.seq (.reg true qaru [0, 1, 4, 5]) (.seq (.reg true qart [0, 1, 4, 5, 6]) (.reg true qars [0, 1, 4, 5]))) .skip)) (.seq (.seq (.reg false qarr [0, 1, 4, 5, 79]) (.cond (.t 79) (.reg true qarq [0, 4, 5]) .skip)) (.seq (.seq (.reg false qarp [0, 4, 5, 99, 100, 101]) (.block 0 (.loop c_wstate_l1))) (.reg false qag3 []))))))
theorem qajo : comp Try.prog 116 ((Try.f57.body).getD .skip) = some c_wstate.erase := by kernel_rfl
abbrev qbai : List SOper := [Oa 1 (.box 29 (.t 0)), Oa 2 (.mv (.c .nilsl)), Oa 3 (.alloc 45 [(.int .i64 0), (.int .i64 0)])]
abbrev qbah : List SOper := [Oa 7 (.loads 7 (.t 1)), Oc 8 17 [(.t 7)], Oa 4 (.alloc 45 [(.int .i64 0), (.int .i64 0)]), Ob (.store 2 (.t 4) (.t 8))]
abbrev qbag : List SOper := [Oa 9 (.faddr 0 (.t 4)), Oa 10 (.load (.t 9)), Oa 11 (.bin .neq (.t 10) (.c (.int .i64 0)))]
abbrev qbaf : List SOper := [Oa 12 (.loads 2 (.t 4)), Oa 2 (.mv (.c .nilsl)), ⟨none, .store 2 (.t 3) (.t 12), none, none, 3⟩]
abbrev qbae : List SOper := [Oa 13 (.loads 7 (.t 1)), Oa 14 (.faddr 2 (.t 1)), Od 15 (.load (.t 14)) 2, Od 16 (.len false (.t 15)) 6, Od 17 (.bin .add (.t 16) (.c (.int .i64 1))) 14, Od 18 (.mkslice 56 5 40 [(.int .u64 0), (.int .u64 0), (.int .i64 0), (.int .i64 0), (.bool false)] (.t 17) (.t 17)) 30, Od 19 (.build [.nilsl, .nilsl, .nilsl, .nilsl, .nilsl, .nilsl, .nilsl, .nilsl, (.int .i64 0), (.int .i64 0)] [(0, 7, (.t 13)), (7, 1, (.t 18))]) 63, Od 20 (.box 103 (.t 19)) 127, Od 5 (.mv (.t 20)) 255]
abbrev qbad : List SOper := [Oa 21 (.mv (.t 5)), Oa 22 (.nilc (.t 21)), Oa 23 (.faddr 7 (.t 22)), Oa 24 (.load (.t 23)), Oa 25 (.iaddr 5 (.t 24) (.c (.int .i64 0))), Oa 26 (.faddr 4 (.t 25)), Ob (.store 1 (.t 26) (.c (.bool true)))]
abbrev qbac : List SOper := [Oa 27 (.faddr 2 (.t 1)), Oa 28 (.load (.t 27)), Oa 29 (.len false (.t 28)), Oa 30 (.mv (.c (.int .i64 0)))]
abbrev qbab : List SOper := [Oa 31 (.bin .lss (.t 30) (.t 29))]
abbrev qbaa : List SOper := [Oa 32 (.mv (.t 30)), Oa 6 (.mv (.t 32))]
abbrev qa3d : List SOper := [Oa 33 (.mv (.t 5)), Oa 34 (.mv (.t 6)), Oc 35 57 [(.t 33), (.t 34)]]
abbrev qa3c : List SOper := [Oa 36 (.bin .add (.t 30) (.c (.int .i64 1))), Oa 30 (.mv (.t 36))]
def qaqn : SCode := (.seq (.reg false qbab [3, 5, 29, 30, 31]) (.seq (.cond (.t 31) .skip (.exit 0)) (.seq (.block 1 (.seq (.reg false qbaa [3, 5, 6, 29, 30]) (.reg false qa3d [3, 5, 29, 30]))) (.reg false qa3c [3, 5, 29, 30]))))
abbrev qa3b : List SOper := [Oa 37 (.mv (.t 5)), Oa 38 (.nilc (.t 37)), Oa 39 (.faddr 8 (.t 38)), Oa 40 (.faddr 0 (.t 39)), Oa 41 (.load (.t 40)), Oa 42 (.bin .neq (.t 41) (.c (.int .i64 0)))]
abbrev qa3a : List SOper := [Oa 43 (.mv (.t 5)), Od 44 (.nilc (.t 43)) 1, Od 45 (.faddr 8 (.t 44)) 3, Od 46 (.loads 2 (.t 45)) 7, Oa 2 (.mv (.c .nilsl)), ⟨none, .store 2 (.t 3) (.t 46), none, none, 31⟩]
abbrev qaj6 : List SOper := [Oa 47 (.mv (.t 5)), Oa 48 (.nilc (.t 47)), Oa 49 (.faddr 7 (.t 48)), Oa 50 (.load (.t 49)), Oa 51 (.build [(.int .i64 0), (.int .i64 0)] []), Oa 2 (.mv (.t 50)), Ob (.store 2 (.t 3) (.t 51))]
def c_walk : SCode := (.seq (.reg false qbai [1, 3]) (.seq (.seq (.reg false qbah [1, 3, 4]) (.seq (.reg false qbag [1, 3, 4, 11]) (.cond (.t 11) (.seq (.reg true qbaf [2, 3]) .ret) .skip))) (.seq (.reg true qbae [1, 3, 5]) (.seq (.reg false qbad [1, 3, 5]) (.seq (.seq (.reg false qbac [3, 5, 29, 30]) (.block 0 (.loop qaqn))) (.seq (.seq (.reg false qa3b [3, 5, 42]) (.cond (.t 42) (.seq (.reg true qa3a [2, 3]) .ret) .skip)) (.seq (.reg false qaj6 [2, 3]) .ret)))))))
theorem qarf : comp Try.prog 52 ((Try.f22.body).getD .skip) = some c_walk.erase := by kernel_rfl
abbrev qbav : List SOper := [Oa 2 (.mv (.c (.int .u64 0)))]
abbrev qbau : List SOper := [Oa 3 (.mv (.t 0)), Oa 4 (.conv .u64 (.t 3)), Oa 5 (.bin .shl (.c (.int .u64 1)) (.t 4)), Oa 2 (.mv (.t 5))]
def c_rbit : SCode := (.seq (.reg false qbav [0]) (.seq (.reg false qbau [2]) .ret))
theorem qari : comp Try.prog 6 ((Try.f59.body).getD .skip) = some c_rbit.erase := by kernel_rfl
abbrev qawi : List SOper := [Oa 2 (.box 29 (.t 0)), Oa 4 (.mv (.c .nilsl))]
abbrev qawh : List SOper := [Oa 5 (.mv (.c .nilsl))]
abbrev qawg : List SOper := [Oa 6 (.mv (.c (.int .i64 0)))]
abbrev qawf : List SOper := [Oa 8 (.mv (.t 6)), Oa 9 (.faddr 2 (.t 2)), Oa 10 (.load (.t 9)), Oa 11 (.mv (.t 1)), Oa 12 (.iaddr 5 (.t 10) (.t 11)), Oa 13 (.faddr 3 (.t 12)), Oa 14 (.load (.t 13)), Oa 15 (.len false (.t 14)), Oa 16 (.bin .leq (.t 8) (.t 15))]
abbrev qawe : List SOper := [Oa 19 (.faddr 2 (.t 2)), Oa 20 (.load (.t 19)), Oa 21 (.mv (.t 1)), Oa 22 (.iaddr 5 (.t 20) (.t 21)), Oa 23 (.faddr 4 (.t 22)), Oa 24 (.load (.t 23)), Oa 7 (.mv (.t 24))]
abbrev qawd : List SOper := [Oa 25 (.mv (.t 6)), Oa 26 (.faddr 2 (.t 2)), Oa 27 (.load (.t 26)), Oa 28 (.mv (.t 1)), Oa 29 (.iaddr 5 (.t 27) (.t 28)), Oa 30 (.faddr 3 (.t 29)), Oa 31 (.load (.t 30)), Oa 32 (.len false (.t 31)), Oa 33 (.bin .lss (.t 25) (.t 32))]
abbrev qawc : List SOper := [Oa 34 (.faddr 2 (.t 2)), Oa 35 (.load (.t 34)), Oa 36 (.mv (.t 1)), Oa 37 (.iaddr 5 (.t 35) (.t 36)), Oa 38 (.faddr 3 (.t 37)), Oa 39 (.load (.t 38)), Oa 40 (.mv (.t 6)), Oa 41 (.iaddr 3 (.t 39) (.t 40)), Oa 42 (.faddr 2 (.t 41)), Oa 43 (.load (.t 42)), Oa 7 (.mv (.t 43))]
abbrev qawb : List SOper := [Oa 44 (.mv (.t 7)), Oa 45 (.bin .eql (.t 44) (.c (.int .i64 1000)))]
abbrev qawa : List SOper := [Oa 46 (.faddr 2 (.t 2)), Oa 47 (.load (.t 46)), Oa 48 (.len false (.t 47)), Oa 7 (.mv (.t 48))]
abbrev qaoj : List SOper := [Oa 49 (.mv (.t 7)), Oa 50 (.faddr 2 (.t 2)), Oa 51 (.load (.t 50)), Oa 52 (.len false (.t 51)), Oa 53 (.bin .leq (.t 49) (.t 52)), Oa 54 (.mv (.t 53)), Oe 55 (.mv (.t 5)) 54 true, Oe 56 (.mv (.t 7)) 54 true, ⟨(some 57), .mv (.c .any), some ((.c (.fn (.func 43) [] [])), [(.t 55), (.t 56)]), (some (54, true)), 0⟩, Oe 58 (.un .not (.t 57)) 54 true, Oa 59 (.pick (.t 54) (.t 58) (.c (.bool false)))]
abbrev qaoi : List SOper := [Oa 60 (.mv (.t 5)), Oa 61 (.mv (.t 7)), Oa 62 (.mkrow 3 1 1 [(.int .i64 0)] [(0, (.t 61))]), Oa 63 (.app 3 1 8 (.t 60) (.t 62)), Oa 5 (.mv (.t 63))]
abbrev qaoh : List SOper := [Oa 17 (.mv (.t 6)), Oa 18 (.bin .add (.t 17) (.c (.int .i64 1))), Oa 6 (.mv (.t 18))]
def qah6 : SCode := (.seq (.seq (.reg false qawf [1, 2, 5, 6, 16]) (.cond (.t 16) .skip (.exit 0))) (.seq (.block 1 (.seq (.reg false qawe [1, 2, 5, 6, 7]) (.seq (.seq (.reg false qawd [1, 2, 5, 6, 7, 33]) (.cond (.t 33) (.reg false qawc [1, 2, 5, 6, 7]) .skip)) (.seq (.seq (.reg false qawb [1, 2, 5, 6, 7, 45]) (.cond (.t 45) (.reg false qawa [1, 2, 5, 6, 7]) .skip)) (.seq (.reg false qaoj [1, 2, 5, 6, 7, 59]) (.cond (.t 59) (.reg false qaoi [1, 2, 5, 6]) .skip)))))) (.reg false qaoh [1, 2, 5, 6])))
abbrev qaog : List SOper := [Oa 64 (.mv (.t 5)), Oa 4 (.mv (.t 64))]
def c_rleads : SCode := (.seq (.reg false qawi [1, 2]) (.seq (.reg false qawh [1, 2, 5]) (.seq (.seq (.reg false qawg [1, 2, 5, 6]) (.block 0 (.loop qah6))) (.seq (.reg false qaog [4]) .ret))))
theorem qajy : comp Try.prog 65 ((Try.f78.body).getD .skip) = some c_rleads.erase := by kernel_rfl
abbrev qa4u : List SOper := [Oa 1 (.box 29 (.t 0)), Oa 2 (.mv (.c .nilsl))]
abbrev qa4t : List SOper := [Oa 11 (.build [(.int .i64 0), (.int .u64 0), (.int .i64 0)] []), Oa 12 (.mkrow 109 3 1 [(.int .i64 0), (.int .u64 0), (.int .i64 0)] [(0, (.t 11))]), Oa 3 (.mv (.t 12))]
abbrev qa4s : List SOper := [Oa 4 (.mv (.c (.int .i64 0)))]
abbrev qa4r : List SOper := [Oa 13 (.mv (.t 4)), Oa 14 (.mv (.t 3)), Oa 15 (.len false (.t 14)), Oa 16 (.bin .lss (.t 13) (.t 15))]
abbrev qa4q : List SOper := [Oa 19 (.mv (.t 3)), Oa 20 (.mv (.t 4)), Oa 21 (.iaddr 3 (.t 19) (.t 20)), Oa 22 (.loads 3 (.t 21)), Oa 5 (.alloc 109 [(.int .i64 0), (.int .u64 0), (.int .i64 0)]), Ob (.store 3 (.t 5) (.t 22))]
abbrev qa4p : List SOper := [Oa 23 (.faddr 0 (.t 5)), Oa 24 (.load (.t 23)), Oa 25 (.faddr 2 (.t 1)), Oa 26 (.load (.t 25)), Oa 27 (.len false (.t 26)), Oa 28 (.bin .eql (.t 24) (.t 27))]
abbrev qa4o : List SOper := [Oa 29 (.faddr 2 (.t 1)), Oa 30 (.load (.t 29)), Oa 31 (.faddr 0 (.t 5)), Oa 32 (.load (.t 31)), Oa 33 (.iaddr 5 (.t 30) (.t 32)), Oa 34 (.loads 5 (.t 33)), Oa 6 (.alloc 65 [(.int .i64 0), (.int .i64 0), (.int .i64 0), .nilsl, (.int .i64 0)]), Ob (.store 5 (.t 6) (.t 34))]
abbrev qa4n : List SOper := [Oa 35 (.faddr 0 (.t 6)), Oa 36 (.load (.t 35)), Oa 37 (.bin .geq (.t 36) (.c (.int .i64 0)))]
abbrev qa4m : List SOper := [Oa 39 (.faddr 0 (.t 1)), Oa 40 (.load (.t 39)), Oa 41 (.faddr 0 (.t 6)), Oa 42 (.load (.t 41)), Oa 43 (.iaddr 1 (.t 40) (.t 42)), Oa 44 (.loads 1 (.t 43)), Oc 45 40 [(.t 44)], Oa 38 (.mv (.t 45)), Oa 46 (.extr (.t 38) 0), Oa 47 (.extr (.t 38) 1), Oa 8 (.alloc 45 [(.int .i64 0), (.int .i64 0)]), Oa 7 (.mv (.t 46)), Ob (.store 2 (.t 8) (.t 47))]
abbrev qaue : List SOper := [Oa 48 (.faddr 1 (.t 5)), Od 49 (.load (.t 48)) 1, Oa 50 (.faddr 0 (.t 6)), Od 51 (.load (.t 50)) 4, ⟨(some 52), .mv (.c .any), some ((.c (.fn (.func 59) [] [])), [(.t 51)]), none, 12⟩, Od 53 (.bin .or (.t 49) (.t 52)) 31, Od 54 (.faddr 1 (.t 5)) 63, ⟨none, .store 1 (.t 54) (.t 53), none, none, 127⟩]
abbrev qaud : List SOper := [Oa 55 (.faddr 2 (.t 5)), Oa 56 (.load (.t 55)), Oa 57 (.mv (.t 7)), Oa 58 (.bin .add (.t 56) (.t 57)), Oa 59 (.faddr 2 (.t 5)), Ob (.store 1 (.t 59) (.t 58))]
abbrev qaev : List SOper := [Oa 60 (.loads 7 (.t 1)), Oa 61 (.faddr 0 (.t 5)), Oa 62 (.load (.t 61)), Oc 63 78 [(.t 60), (.t 62)], Oa 9 (.mv (.t 63))]
abbrev qaeu : List SOper := [Oa 10 (.mv (.c (.int .i64 0)))]
abbrev qauc : List SOper := [Oa 64 (.mv (.t 10)), Oa 65 (.mv (.t 9)), Oa 66 (.len false (.t 65)), Oa 67 (.bin .lss (.t 64) (.t 66))]
abbrev qaub : List SOper := [Oa 70 (.mv (.t 3)), Oa 71 (.mv (.t 9)), Oa 72 (.mv (.t 10)), Od 73 (.iaddr 1 (.t 71) (.t 72)) 6, Od 74 (.load (.t 73)) 14, Oa 75 (.faddr 1 (.t 5)), Od 76 (.load (.t 75)) 32, Oa 77 (.faddr 2 (.t 5)), Od 78 (.load (.t 77)) 128, Od 79 (.build [(.int .i64 0), (.int .u64 0), (.int .i64 0)] [(0, 1, (.t 74)), (1, 1, (.t 76)), (2, 1, (.t 78))]) 510, Od 80 (.mkrow 109 3 1 [(.int .i64 0), (.int .u64 0), (.int .i64 0)] [(0, (.t 79))]) 1022, Od 81 (.app 109 3 24 (.t 70) (.t 80)) 2047, Od 3 (.mv (.t 81)) 4095]
abbrev qaua : List SOper := [Oa 68 (.mv (.t 10)), Oa 69 (.bin .add (.t 68) (.c (.int .i64 1))), Oa 10 (.mv (.t 69))]
def qaej : SCode := (.seq (.seq (.reg false qauc [1, 3, 4, 5, 9, 10, 67]) (.cond (.t 67) .skip (.exit 2))) (.seq (.block 3 (.reg true qaub [1, 3, 4, 5, 9, 10])) (.reg false qaua [1, 3, 4, 5, 9, 10])))
abbrev qah2 : List SOper := [Oa 17 (.mv (.t 4)), Oa 18 (.bin .add (.t 17) (.c (.int .i64 1))), Oa 4 (.mv (.t 18))]
def qakp : SCode := (.seq (.seq (.reg false qa4r [1, 3, 4, 16]) (.cond (.t 16) .skip (.exit 0))) (.seq (.block 1 (.seq (.reg false qa4q [1, 3, 4, 5]) (.seq (.seq (.reg false qa4p [1, 3, 4, 5, 28]) (.cond (.t 28) (.exit 1) .skip)) (.seq (.reg false qa4o [1, 3, 4, 5, 6]) (.seq (.seq (.reg false qa4n [1, 3, 4, 5, 6, 37]) (.cond (.t 37) (.seq (.reg false qa4m [1, 3, 4, 5, 6, 7]) (.seq (.reg true qaue [1, 3, 4, 5, 7]) (.reg false qaud [1, 3, 4, 5]))) .skip)) (.seq (.reg false qaev [1, 3, 4, 5, 9]) (.seq (.reg false qaeu [1, 3, 4, 5, 9, 10]) (.block 2 (.loop qaej))))))))) (.reg false qah2 [1, 3, 4])))
abbrev qah1 : List SOper := [Oa 82 (.mv (.t 3)), Oa 2 (.mv (.t 82))]
def c_rways : SCode := (.seq (.reg false qa4u [1]) (.seq (.reg false qa4t [1, 3]) (.seq (.seq (.reg false qa4s [1, 3, 4]) (.block 0 (.loop qakp))) (.seq (.reg false qah1 [2]) .ret))))
theorem qaml : comp Try.prog 83 ((Try.f58.body).getD .skip) = some c_rways.erase := by kernel_rfl
abbrev qa43 : List SOper := [Oa 1 (.box 29 (.t 0)), Oa 2 (.mv (.c .nilsl)), Oa 3 (.alloc 45 [(.int .i64 0), (.int .i64 0)])]
abbrev qa42 : List SOper := [Oa 11 (.loads 7 (.t 1)), Oc 12 18 [(.t 11)], Oa 4 (.alloc 45 [(.int .i64 0), (.int .i64 0)]), Ob (.store 2 (.t 4) (.t 12))]
abbrev qa41 : List SOper := [Oa 13 (.faddr 0 (.t 4)), Oa 14 (.load (.t 13)), Oa 15 (.bin .neq (.t 14) (.c (.int .i64 0)))]
abbrev qa40 : List SOper := [Oa 16 (.loads 2 (.t 4)), Oa 2 (.mv (.c .nilsl)), ⟨none, .store 2 (.t 3) (.t 16), none, none, 3⟩]
abbrev qa4z : List SOper := [Oa 17 (.loads 7 (.t 1)), Oc 18 58 [(.t 17)], Oa 5 (.mv (.t 18))]
abbrev qa4y : List SOper := [Oa 19 (.faddr 2 (.t 1)), Oa 20 (.load (.t 19)), Oa 21 (.len false (.t 20)), Oa 22 (.bin .add (.t 21) (.c (.int .i64 1))), Oa 23 (.mkslice 57 5 40 [(.int .u64 0), (.int .u64 0), (.int .i64 0), (.int .i64 0), (.bool false)] (.t 22) (.t 22)), Oa 6 (.mv (.t 23))]
abbrev qa4x : List SOper := [Oa 7 (.mv (.c (.int .i64 0)))]
abbrev qa4w : List SOper := [Oa 24 (.mv (.t 7)), Oa 25 (.mv (.t 5)), Oa 26 (.len false (.t 25)), Oa 27 (.bin .lss (.t 24) (.t 26))]
abbrev qa4v : List SOper := [Oa 30 (.mv (.t 6)), Oa 31 (.mv (.t 5)), Oa 32 (.mv (.t 7)), Oa 33 (.iaddr 3 (.t 31) (.t 32)), Oa 34 (.faddr 0 (.t 33)), Oa 35 (.load (.t 34)), Oa 36 (.iaddr 5 (.t 30) (.t 35)), Oa 8 (.mv (.t 36))]
abbrev qauw : List SOper := [Oa 37 (.mv (.t 8)), Oa 38 (.nilc (.t 37)), Oa 39 (.faddr 4 (.t 38)), Oa 40 (.load (.t 39)), Oa 41 (.un .not (.t 40))]
abbrev qauv : List SOper := [Oa 42 (.mv (.t 8)), Oa 43 (.mv (.t 5)), Oa 44 (.mv (.t 7)), Od 45 (.iaddr 3 (.t 43) (.t 44)) 6, Od 46 (.faddr 1 (.t 45)) 14, Od 47 (.load (.t 46)) 30, Oa 48 (.mv (.t 5)), Oa 49 (.mv (.t 7)), Od 50 (.iaddr 3 (.t 48) (.t 49)) 192, Od 51 (.faddr 1 (.t 50)) 448, Od 52 (.load (.t 51)) 960, Oa 53 (.mv (.t 5)), Oa 54 (.mv (.t 7)), Od 55 (.iaddr 3 (.t 53) (.t 54)) 6144, Od 56 (.faddr 2 (.t 55)) 14336, Od 57 (.load (.t 56)) 30720, Oa 58 (.mv (.t 5)), Oa 59 (.mv (.t 7)), Od 60 (.iaddr 3 (.t 58) (.t 59)) 196608, Od 61 (.faddr 2 (.t 60)) 458752, Od 62 (.load (.t 61)) 983040, Od 63 (.build [(.int .u64 0), (.int .u64 0), (.int .i64 0), (.int .i64 0), (.bool false)] [(0, 1, (.t 47)), (1, 1, (.t 52)), (2, 1, (.t 57)), (3, 1, (.t 62)), (4, 1, (.c (.bool true)))]) 2097150, Od 64 (.nilc (.t 42)) 4194303, ⟨none, .store 5 (.t 64) (.t 63), none, none, 8388607⟩]
abbrev qauu : List SOper := [Oa 65 (.mv (.t 8)), Oa 66 (.mv (.t 8)), Od 67 (.nilc (.t 66)) 2, Od 68 (.faddr 0 (.t 67)) 6, Od 69 (.load (.t 68)) 14, Oa 70 (.mv (.t 5)), Oa 71 (.mv (.t 7)), Od 72 (.iaddr 3 (.t 70) (.t 71)) 96, Od 73 (.faddr 1 (.t 72)) 224, Od 74 (.load (.t 73)) 480, Od 75 (.bin .and (.t 69) (.t 74)) 1022, Od 76 (.nilc (.t 65)) 2047, Od 77 (.faddr 0 (.t 76)) 4095, ⟨none, .store 1 (.t 77) (.t 75), none, none, 8191⟩]
abbrev qaut : List SOper := [Oa 78 (.mv (.t 8)), Oa 79 (.mv (.t 8)), Od 80 (.nilc (.t 79)) 2, Od 81 (.faddr 1 (.t 80)) 6, Od 82 (.load (.t 81)) 14, Oa 83 (.mv (.t 5)), Oa 84 (.mv (.t 7)), Od 85 (.iaddr 3 (.t 83) (.t 84)) 96, Od 86 (.faddr 1 (.t 85)) 224, Od 87 (.load (.t 86)) 480, Od 88 (.bin .or (.t 82) (.t 87)) 1022, Od 89 (.nilc (.t 78)) 2047, Od 90 (.faddr 1 (.t 89)) 4095, ⟨none, .store 1 (.t 90) (.t 88), none, none, 8191⟩]
abbrev qaus : List SOper := [Oa 91 (.mv (.t 5)), Oa 92 (.mv (.t 7)), Od 93 (.iaddr 3 (.t 91) (.t 92)) 3, Od 94 (.faddr 2 (.t 93)) 7, Od 95 (.load (.t 94)) 15, Oa 96 (.mv (.t 8)), Od 97 (.nilc (.t 96)) 32, Od 98 (.faddr 2 (.t 97)) 96, Od 99 (.load (.t 98)) 224, Od 100 (.bin .lss (.t 95) (.t 99)) 511]
abbrev qaur : List SOper := [Oa 101 (.mv (.t 8)), Oa 102 (.mv (.t 5)), Oa 103 (.mv (.t 7)), Oa 104 (.iaddr 3 (.t 102) (.t 103)), Oa 105 (.faddr 2 (.t 104)), Oa 106 (.load (.t 105)), Oa 107 (.nilc (.t 101)), Oa 108 (.faddr 2 (.t 107)), Ob (.store 1 (.t 108) (.t 106))]
abbrev qauq : List SOper := [Oa 109 (.mv (.t 5)), Oa 110 (.mv (.t 7)), Od 111 (.iaddr 3 (.t 109) (.t 110)) 3, Od 112 (.faddr 2 (.t 111)) 7, Od 113 (.load (.t 112)) 15, Oa 114 (.mv (.t 8)), Od 115 (.nilc (.t 114)) 32, Od 116 (.faddr 3 (.t 115)) 96, Od 117 (.load (.t 116)) 224, Od 118 (.bin .gtr (.t 113) (.t 117)) 511]
abbrev qaup : List SOper := [Oa 119 (.mv (.t 8)), Oa 120 (.mv (.t 5)), Oa 121 (.mv (.t 7)), Oa 122 (.iaddr 3 (.t 120) (.t 121)), Oa 123 (.faddr 2 (.t 122)), Oa 124 (.load (.t 123)), Oa 125 (.nilc (.t 119)), Oa 126 (.faddr 3 (.t 125)), Ob (.store 1 (.t 126) (.t 124))]
abbrev qauo : List SOper := [Oa 28 (.mv (.t 7)), Oa 29 (.bin .add (.t 28) (.c (.int .i64 1))), Oa 7 (.mv (.t 29))]
def qakr : SCode := (.seq (.seq (.reg false qa4w [1, 3, 5, 6, 7, 27]) (.cond (.t 27) .skip (.exit 0))) (.seq (.block 1 (.seq (.reg false qa4v [1, 3, 5, 6, 7, 8]) (.seq (.seq (.reg false qauw [1, 3, 5, 6, 7, 8, 41]) (.cond (.t 41) (.seq (.reg true qauv [1, 3, 5, 6, 7]) (.exit 1)) .skip)) (.seq (.reg true qauu [1, 3, 5, 6, 7, 8]) (.seq (.reg true qaut [1, 3, 5, 6, 7, 8]) (.seq (.seq (.reg true qaus [1, 3, 5, 6, 7, 8, 100]) (.cond (.t 100) (.reg false qaur [1, 3, 5, 6, 7, 8]) .skip)) (.seq (.reg true qauq [1, 3, 5, 6, 7, 8, 118]) (.cond (.t 118) (.reg false qaup [1, 3, 5, 6, 7]) .skip)))))))) (.reg false qauo [1, 3, 5, 6, 7])))
abbrev qaun : List SOper := [Oa 9 (.mv (.c (.int .i64 0)))]
abbrev qaum : List SOper := [Oa 127 (.mv (.t 9)), Oa 128 (.faddr 2 (.t 1)), Oa 129 (.load (.t 128)), Oa 130 (.len false (.t 129)), Oa 131 (.bin .lss (.t 127) (.t 130))]
abbrev qaul : List SOper := [Oa 134 (.faddr 2 (.t 1)), Oa 135 (.load (.t 134)), Oa 136 (.mv (.t 9)), Oa 137 (.iaddr 5 (.t 135) (.t 136)), Oa 138 (.loads 5 (.t 137)), Oa 10 (.alloc 65 [(.int .i64 0), (.int .i64 0), (.int .i64 0), .nilsl, (.int .i64 0)]), Ob (.store 5 (.t 10) (.t 138))]
abbrev qauk : List SOper := [Oa 139 (.mv (.t 6)), Oa 140 (.mv (.t 9)), Oa 141 (.iaddr 5 (.t 139) (.t 140)), Oa 142 (.faddr 4 (.t 141)), Oa 143 (.load (.t 142)), Oa 144 (.un .not (.t 143))]
abbrev qauj : List SOper := [Oa 145 (.faddr 0 (.t 10)), Od 146 (.load (.t 145)) 1, Od 147 (.bin .geq (.t 146) (.c (.int .i64 0))) 3, Od 148 (.mv (.t 147)) 7, Of 149 (.mv (.t 6)) 148 true 15, Of 150 (.mv (.t 9)) 148 true 15, Of 151 (.iaddr 5 (.t 149) (.t 150)) 148 true 63, Of 152 (.faddr 1 (.t 151)) 148 true 127, Of 153 (.load (.t 152)) 148 true 255, Of 154 (.faddr 0 (.t 10)) 148 true 15, Of 155 (.load (.t 154)) 148 true 527, ⟨(some 156), .mv (.c .any), some ((.c (.fn (.func 59) [] [])), [(.t 155)]), (some (148, true)), 1551⟩, Of 157 (.bin .and (.t 153) (.t 156)) 148 true 4095, Of 158 (.bin .neq (.t 157) (.c (.int .u64 0))) 148 true 8191, Od 159 (.pick (.t 148) (.t 158) (.c (.bool false))) 16383]
abbrev qaui : List SOper := [Oa 160 (.mv (.t 9)), Oa 161 (.bin .add (.c (.int .i64 3000)) (.t 160)), Oc 162 39 [(.c (.int .i64 7)), (.t 161)], Oa 2 (.mv (.c .nilsl)), Ob (.store 2 (.t 3) (.t 162))]
abbrev qauh : List SOper := [Oa 163 (.faddr 3 (.t 10)), Od 164 (.load (.t 163)) 1, Od 165 (.len false (.t 164)) 3, Od 166 (.bin .gtr (.t 165) (.c (.int .i64 0))) 7, Od 167 (.mv (.t 166)) 15, Of 168 (.faddr 1 (.t 10)) 167 true 31, Of 169 (.faddr 0 (.t 168)) 167 true 63, Of 170 (.load (.t 169)) 167 true 127, Of 171 (.bin .geq (.t 170) (.c (.int .i64 0))) 167 true 255, Od 172 (.pick (.t 167) (.t 171) (.c (.bool false))) 511, Od 173 (.mv (.t 172)) 1023, Of 174 (.faddr 1 (.t 10)) 173 true 2047, Of 175 (.faddr 0 (.t 174)) 173 true 4095, Of 176 (.load (.t 175)) 173 true 8191, Of 177 (.faddr 0 (.t 10)) 173 true 2047, Of 178 (.load (.t 177)) 173 true 18431, Of 179 (.bin .neq (.t 176) (.t 178)) 173 true 65535, Od 180 (.pick (.t 173) (.t 179) (.c (.bool false))) 131071, Od 181 (.mv (.t 180)) 262143, Of 182 (.mv (.t 6)) 181 true 524287, Of 183 (.mv (.t 9)) 181 true 524287, Of 184 (.iaddr 5 (.t 182) (.t 183)) 181 true 2097151, Of 185 (.faddr 0 (.t 184)) 181 true 4194303, Of 186 (.load (.t 185)) 181 true 8388607, Of 187 (.faddr 1 (.t 10)) 181 true 524287, Of 188 (.faddr 0 (.t 187)) 181 true 17301503, Of 189 (.load (.t 188)) 181 true 50855935, ⟨(some 190), .mv (.c .any), some ((.c (.fn (.func 59) [] [])), [(.t 189)]), (some (181, true)), 117964799⟩, Of 191 (.bin .and (.t 186) (.t 190)) 181 true 268435455, Of 192 (.bin .eql (.t 191) (.c (.int .u64 0))) 181 true 536870911, Od 193 (.pick (.t 181) (.t 192) (.c (.bool false))) 1073741823]
abbrev qaug : List SOper := [Oa 194 (.mv (.t 9)), Oa 195 (.bin .add (.c (.int .i64 3000)) (.t 194)), Oc 196 39 [(.c (.int .i64 12)), (.t 195)], Oa 2 (.mv (.c .nilsl)), Ob (.store 2 (.t 3) (.t 196))]
abbrev qauf : List SOper := [Oa 132 (.mv (.t 9)), Oa 133 (.bin .add (.t 132) (.c (.int .i64 1))), Oa 9 (.mv (.t 133))]
def qakq : SCode := (.seq (.seq (.reg false qaum [1, 3, 6, 9, 131]) (.cond (.t 131) .skip (.exit 2))) (.seq (.block 3 (.seq (.reg false qaul [1, 3, 6, 9, 10]) (.seq (.seq (.reg false qauk [1, 3, 6, 9, 10, 144]) (.cond (.t 144) (.exit 3) .skip)) (.seq (.seq (.reg true qauj [1, 3, 6, 9, 10, 159]) (.cond (.t 159) (.seq (.reg false qaui [2, 3]) .ret) .skip)) (.seq (.reg true qauh [1, 3, 6, 9, 193]) (.cond (.t 193) (.seq (.reg false qaug [2, 3]) .ret) .skip)))))) (.reg false qauf [1, 3, 6, 9])))
abbrev qah3 : List SOper := [Oa 197 (.mv (.t 6)), Oa 198 (.build [(.int .i64 0), (.int .i64 0)] []), Oa 2 (.mv (.t 197)), Ob (.store 2 (.t 3) (.t 198))]
def c_rwalk : SCode := (.seq (.reg false qa43 [1, 3]) (.seq (.seq (.reg false qa42 [1, 3, 4]) (.seq (.reg false qa41 [1, 3, 4, 15]) (.cond (.t 15) (.seq (.reg true qa40 [2, 3]) .ret) .skip))) (.seq (.reg false qa4z [1, 3, 5]) (.seq (.reg false qa4y [1, 3, 5, 6]) (.seq (.seq (.reg false qa4x [1, 3, 5, 6, 7]) (.block 0 (.loop qakr))) (.seq (.seq (.reg false qaun [1, 3, 6, 9]) (.block 2 (.loop qakq))) (.seq (.reg false qah3 [2, 3]) .ret)))))))
theorem qamm : comp Try.prog 199 ((Try.f23.body).getD .skip) = some c_rwalk.erase := by kernel_rfl
abbrev qbdr : List SOper := [Oa 0 (.alloc 29 [.nilsl, .nilsl, .nilsl, .nilsl, .nilsl, .nilsl, .nilsl])]
abbrev qbdq : List SOper := [Oa 1 (.mkrow 3 1 1 [(.int .i64 0)] [(0, (.c (.int .i64 8)))]), Oa 2 (.build [.nilsl] [(0, 1, (.t 1))]), Oa 3 (.mkrow 3 1 1 [(.int .i64 0)] [(0, (.c (.int .i64 16)))]), Oa 4 (.build [.nilsl] [(0, 1, (.t 3))]), Oa 5 (.mkrow 62 1 2 [.nilsl] [(0, (.t 2)), (1, (.t 4))]), Oa 6 (.build [(.int .i64 0), (.int .i64 0)] []), Oa 7 (.build [(.int .u64 0), (.int .u64 0), (.int .i64 0)] [(0, 1, (.c (.int .u64 1))), (1, 1, (.c (.int .u64 1))), (2, 1, (.c (.int .i64 1)))]), Oa 8 (.mkrow 95 3 1 [(.int .u64 0), (.int .u64 0), (.int .i64 0)] [(0, (.t 7))]), Oa 9 (.build [(.int .i64 0), (.int .i64 0), (.int .i64 0), .nilsl, (.int .i64 0)] [(0, 1, (.c (.int .i64 0))), (1, 2, (.t 6)), (3, 1, (.t 8)), (4, 1, (.c (.int .i64 1000)))]), Oa 10 (.build [(.int .i64 0), (.int .i64 0), (.int .i64 0), .nilsl, (.int .i64 0)] [(0, 1, (.c (.int .i64 1))), (4, 1, (.c (.int .i64 1000)))]), Oa 11 (.mkrow 65 5 2 [(.int .i64 0), (.int .i64 0), (.int .i64 0), .nilsl, (.int .i64 0)] [(0, (.t 9)), (1, (.t 10))]), Oa 12 (.mkrow 3 1 2 [(.int .i64 0)] [(0, (.c (.int .i64 0))), (1, (.c (.int .i64 1)))]), Oa 13 (.build [.nilsl, .nilsl, .nilsl, .nilsl, .nilsl, .nilsl, .nilsl] [(0, 1, (.t 5)), (2, 1, (.t 11)), (6, 1, (.t 12))]), Ob (.store 7 (.t 0) (.t 13))]
def c_two : SCode := (.seq (.reg false qbdr [0]) (.seq (.reg false qbdq [0]) .ret))
theorem qa2c : comp Try.prog 14 ((Try.f56.body).getD .skip) = some c_two.erase := by kernel_rfl
abbrev qasi : List SOper := [Oa 0 (.mv (.c (.bool false)))]
abbrev qash : List SOper := [Oc 4 56 [], Oc 5 22 [(.t 4)], Oa 3 (.mv (.t 5)), Oa 6 (.extr (.t 3) 0), Oa 7 (.extr (.t 3) 1), Oa 2 (.alloc 45 [(.int .i64 0), (.int .i64 0)]), Oa 1 (.mv (.t 6)), Ob (.store 2 (.t 2) (.t 7))]
abbrev qasg : List SOper := [Oa 8 (.faddr 0 (.t 2)), Oa 9 (.load (.t 8)), Oa 10 (.bin .eql (.t 9) (.c (.int .i64 0))), Oa 11 (.mv (.t 10)), Oe 12 (.mv (.t 1)) 11 true, Oe 13 (.len false (.t 12)) 11 true, Oe 14 (.bin .eql (.t 13) (.c (.int .i64 3))) 11 true, Oa 15 (.pick (.t 11) (.t 14) (.c (.bool false))), Oa 16 (.mv (.t 15)), Oe 17 (.mv (.t 1)) 16 true, Oe 18 (.iaddr 5 (.t 17) (.c (.int .i64 2))) 16 true, Oe 19 (.faddr 0 (.t 18)) 16 true, Oe 20 (.load (.t 19)) 16 true, Oe 21 (.bin .eql (.t 20) (.c (.int .u64 1))) 16 true, Oa 22 (.pick (.t 16) (.t 21) (.c (.bool false))), Oa 23 (.mv (.t 22)), Oe 24 (.mv (.t 1)) 23 true, Oe 25 (.iaddr 5 (.t 24) (.c (.int .i64 2))) 23 true, Oe 26 (.faddr 1 (.t 25)) 23 true, Oe 27 (.load (.t 26)) 23 true, Oe 28 (.bin .eql (.t 27) (.c (.int .u64 3))) 23 true, Oa 29 (.pick (.t 23) (.t 28) (.c (.bool false))), Oa 30 (.mv (.t 29)), Oe 31 (.mv (.t 1)) 30 true, Oe 32 (.iaddr 5 (.t 31) (.c (.int .i64 2))) 30 true, Oe 33 (.faddr 2 (.t 32)) 30 true, Oe 34 (.load (.t 33)) 30 true, Oe 35 (.bin .eql (.t 34) (.c (.int .i64 1))) 30 true, Oa 36 (.pick (.t 30) (.t 35) (.c (.bool false))), Oa 37 (.mv (.t 36)), Oe 38 (.mv (.t 1)) 37 true, Oe 39 (.iaddr 5 (.t 38) (.c (.int .i64 2))) 37 true, Oe 40 (.faddr 3 (.t 39)) 37 true, Oe 41 (.load (.t 40)) 37 true, Oe 42 (.bin .eql (.t 41) (.c (.int .i64 3))) 37 true, Oa 43 (.pick (.t 37) (.t 42) (.c (.bool false))), Oa 0 (.mv (.t 43))]
def c_wbegun : SCode := (.seq (.reg false qasi []) (.seq (.reg false qash [1, 2]) (.seq (.reg false qasg [0]) .ret)))
theorem qajq : comp Try.prog 44 ((Try.f21.body).getD .skip) = some c_wbegun.erase := by kernel_rfl
abbrev qa29 : List SOper := [Oa 1 (.box 29 (.t 0)), Oa 2 (.mv (.c (.bool false)))]
abbrev qa28 : List SOper := [Oc 9 21 [], Oa 10 (.un .not (.t 9))]
abbrev qa27 : List SOper := [Oa 2 (.mv (.c (.bool false)))]
abbrev qa26 : List SOper := [Oa 11 (.loads 7 (.t 1)), Oc 12 8 [(.t 11)]]
abbrev qa25 : List SOper := [Oa 2 (.mv (.c (.bool true)))]
abbrev qa24 : List SOper := [Oa 13 (.loads 7 (.t 1)), Oc 14 16 [(.t 13)], Oa 3 (.alloc 29 [.nilsl, .nilsl, .nilsl, .nilsl, .nilsl, .nilsl, .nilsl]), Ob (.store 7 (.t 3) (.t 14))]
abbrev qa23 : List SOper := [Oa 16 (.loads 7 (.t 3)), Oc 17 22 [(.t 16)], Oa 15 (.mv (.t 17)), Oa 18 (.extr (.t 15) 0), Oa 19 (.extr (.t 15) 1), Oa 5 (.alloc 45 [(.int .i64 0), (.int .i64 0)]), Oa 4 (.mv (.t 18)), Ob (.store 2 (.t 5) (.t 19))]
abbrev qa22 : List SOper := [Oa 21 (.loads 7 (.t 1)), Oc 22 23 [(.t 21)], Oa 20 (.mv (.t 22)), Oa 23 (.extr (.t 20) 0), Oa 24 (.extr (.t 20) 1), Oa 7 (.alloc 45 [(.int .i64 0), (.int .i64 0)]), Oa 6 (.mv (.t 23)), Ob (.store 2 (.t 7) (.t 24))]
abbrev qa21 : List SOper := [Oa 25 (.loads 2 (.t 5)), Oa 26 (.loads 2 (.t 7)), Oa 27 (.eqs [1, 1] true (.t 25) (.t 26)), Oa 28 (.mv (.t 27)), Oe 29 (.mv (.t 4)) 28 false, Oe 30 (.len false (.t 29)) 28 false, Oe 31 (.mv (.t 6)) 28 false, Oe 32 (.len false (.t 31)) 28 false, Oe 33 (.bin .neq (.t 30) (.t 32)) 28 false, Oa 34 (.pick (.t 28) (.c (.bool true)) (.t 33)), Oa 35 (.mv (.t 34)), Oe 36 (.loads 7 (.t 3)) 35 false, Oe 37 (.loads 7 (.t 1)) 35 false, ⟨(some 38), .mv (.c .any), some ((.c (.fn (.func 19) [] [])), [(.t 36), (.t 37), (.c (.bool false))]), (some (35, false)), 0⟩, Oe 39 (.un .not (.t 38)) 35 false, Oa 40 (.pick (.t 35) (.c (.bool true)) (.t 39))]
abbrev qasf : List SOper := [Oa 2 (.mv (.c (.bool false)))]
abbrev qase : List SOper := [Oa 8 (.mv (.c (.int .i64 0)))]
abbrev qasd : List SOper := [Oa 41 (.mv (.t 8)), Oa 42 (.mv (.t 4)), Oa 43 (.len false (.t 42)), Oa 44 (.bin .lss (.t 41) (.t 43))]
abbrev qasc : List SOper := [Oa 47 (.mv (.t 4)), Oa 48 (.mv (.t 8)), Od 49 (.iaddr 5 (.t 47) (.t 48)) 3, Od 50 (.faddr 0 (.t 49)) 7, Od 51 (.load (.t 50)) 15, Oa 52 (.mv (.t 6)), Oa 53 (.mv (.t 8)), Od 54 (.iaddr 5 (.t 52) (.t 53)) 96, Od 55 (.faddr 0 (.t 54)) 224, Od 56 (.load (.t 55)) 480, Od 57 (.bin .neq (.t 51) (.t 56)) 1023, Od 58 (.mv (.t 57)) 2047, Of 59 (.mv (.t 4)) 58 false 4095, Of 60 (.mv (.t 8)) 58 false 4095, Of 61 (.iaddr 5 (.t 59) (.t 60)) 58 false 16383, Of 62 (.faddr 1 (.t 61)) 58 false 32767, Of 63 (.load (.t 62)) 58 false 65535, Of 64 (.mv (.t 6)) 58 false 4095, Of 65 (.mv (.t 8)) 58 false 4095, Of 66 (.iaddr 5 (.t 64) (.t 65)) 58 false 397311, Of 67 (.faddr 1 (.t 66)) 58 false 921599, Of 68 (.load (.t 67)) 58 false 1970175, Of 69 (.bin .neq (.t 63) (.t 68)) 58 false 4194303, Od 70 (.pick (.t 58) (.c (.bool true)) (.t 69)) 8388607, Od 71 (.mv (.t 70)) 16777215, Of 72 (.mv (.t 4)) 71 false 33554431, Of 73 (.mv (.t 8)) 71 false 33554431, Of 74 (.iaddr 5 (.t 72) (.t 73)) 71 false 134217727, Of 75 (.faddr 2 (.t 74)) 71 false 268435455, Of 76 (.load (.t 75)) 71 false 536870911, Of 77 (.mv (.t 6)) 71 false 33554431, Of 78 (.mv (.t 8)) 71 false 33554431, Of 79 (.iaddr 5 (.t 77) (.t 78)) 71 false 3254779903, Of 80 (.faddr 2 (.t 79)) 71 false 7549747199, Of 81 (.load (.t 80)) 71 false 16139681791, Of 82 (.bin .neq (.t 76) (.t 81)) 71 false 34359738367, Od 83 (.pick (.t 71) (.c (.bool true)) (.t 82)) 68719476735, Od 84 (.mv (.t 83)) 137438953471, Of 85 (.mv (.t 4)) 84 false 274877906943, Of 86 (.mv (.t 8)) 84 false 274877906943, Of 87 (.iaddr 5 (.t 85) (.t 86)) 84 false 1099511627775, Of 88 (.faddr 3 (.t 87)) 84 false 2199023255551, Of 89 (.load (.t 88)) 84 false 4398046511103, Of 90 (.mv (.t 6)) 84 false 274877906943, Of 91 (.mv (.t 8)) 84 false 274877906943, Of 92 (.iaddr 5 (.t 90) (.t 91)) 84 false 26663156973567, Of 93 (.faddr 3 (.t 92)) 84 false 61847529062399, Of 94 (.load (.t 93)) 84 false 132216273240063, Of 95 (.bin .neq (.t 89) (.t 94)) 84 false 281474976710655, Od 96 (.pick (.t 84) (.c (.bool true)) (.t 95)) 562949953421311, Od 97 (.mv (.t 96)) 1125899906842623, Of 98 (.mv (.t 4)) 97 false 2251799813685247, Of 99 (.mv (.t 8)) 97 false 2251799813685247, Of 100 (.iaddr 5 (.t 98) (.t 99)) 97 false 9007199254740991, Of 101 (.faddr 4 (.t 100)) 97 false 18014398509481983, Of 102 (.load (.t 101)) 97 false 36028797018963967, Of 103 (.mv (.t 6)) 97 false 2251799813685247, Of 104 (.mv (.t 8)) 97 false 2251799813685247, Of 105 (.iaddr 5 (.t 103) (.t 104)) 97 false 218424581927469055, Of 106 (.faddr 4 (.t 105)) 97 false 506654958079180799, Of 107 (.load (.t 106)) 97 false 1083115710382604287, Of 108 (.eq 0 true (.t 102) (.t 107)) 97 false 2305843009213693951, Od 109 (.pick (.t 97) (.c (.bool true)) (.t 108)) 4611686018427387903]
abbrev qasb : List SOper := [Oa 2 (.mv (.c (.bool false)))]
abbrev qasa : List SOper := [Oa 45 (.mv (.t 8)), Oa 46 (.bin .add (.t 45) (.c (.int .i64 1))), Oa 8 (.mv (.t 46))]
def qaj5 : SCode := (.seq (.seq (.reg false qasd [4, 6, 8, 44]) (.cond (.t 44) .skip (.exit 0))) (.seq (.block 1 (.seq (.reg true qasc [4, 6, 8, 109]) (.cond (.t 109) (.seq (.reg false qasb [2]) .ret) .skip))) (.reg false qasa [4, 6, 8])))
abbrev qar9 : List SOper := [Oa 2 (.mv (.c (.bool true)))]
def c_wdoes : SCode := (.seq (.reg false qa29 [1]) (.seq (.seq (.reg false qa28 [1, 10]) (.cond (.t 10) (.seq (.reg false qa27 [2]) .ret) .skip)) (.seq (.seq (.reg false qa26 [1, 12]) (.cond (.t 12) (.seq (.reg false qa25 [2]) .ret) .skip)) (.seq (.reg false qa24 [1, 3]) (.seq (.reg false qa23 [1, 3, 4, 5]) (.seq (.reg false qa22 [1, 3, 4, 5, 6, 7]) (.seq (.seq (.reg false qa21 [4, 6, 40]) (.cond (.t 40) (.seq (.reg false qasf [2]) .ret) .skip)) (.seq (.seq (.reg false qase [4, 6, 8]) (.block 0 (.loop qaj5))) (.seq (.reg false qar9 [2]) .ret)))))))))
theorem qame : comp Try.prog 110 ((Try.f5.body).getD .skip) = some c_wdoes.erase := by kernel_rfl
end Go.Proofs.Ytnfjldobjgdiaaa
namespace Go.Proofs.Ytnfjldobjgdiaaa
set_option linter.all false
open Go.RowKit
abbrev qa3u : List SOper := [Oa 6 (.mv (.c (.bool false)))]
abbrev qa3t : List SOper := [Oa 10 (.mv (.t 0)), Oa 11 (.len false (.t 10)), Oa 12 (.mv (.t 1)), Oa 13 (.len false (.t 12)), Oa 14 (.bin .neq (.t 11) (.t 13))]
abbrev qa3s : List SOper := [Oa 6 (.mv (.c (.bool false)))]
abbrev qa3r : List SOper := [Oa 7 (.mv (.c (.int .i64 0)))]
abbrev qa3q : List SOper := [Oa 15 (.mv (.t 7)), Oa 16 (.mv (.t 0)), Oa 17 (.len false (.t 16)), Oa 18 (.bin .lss (.t 15) (.t 17))]
abbrev qa3p : List SOper := [Oa 21 (.mv (.t 0)), Oa 22 (.mv (.t 7)), Od 23 (.iaddr 4 (.t 21) (.t 22)) 3, Od 24 (.loads 4 (.t 23)) 7, Oa 25 (.mv (.t 1)), Oa 26 (.mv (.t 7)), Od 27 (.iaddr 4 (.t 25) (.t 26)) 48, Od 28 (.loads 4 (.t 27)) 112, Oa 8 (.alloc 97 [(.int .i64 0), (.int .i64 0), (.int .i64 0), (.int .u64 0)]), Oa 9 (.alloc 97 [(.int .i64 0), (.int .i64 0), (.int .i64 0), (.int .u64 0)]), ⟨none, .store 4 (.t 8) (.t 24), none, none, 783⟩, ⟨none, .store 4 (.t 9) (.t 28), none, none, 2047⟩]
abbrev qa3o : List SOper := [Oa 29 (.faddr 0 (.t 8)), Oa 30 (.load (.t 29)), Oa 31 (.faddr 0 (.t 9)), Oa 32 (.load (.t 31)), Oa 33 (.bin .neq (.t 30) (.t 32)), Oa 34 (.mv (.t 33)), Oe 35 (.mv (.t 2)) 34 false, Oe 36 (.un .not (.t 35)) 34 false, Oe 37 (.mv (.t 36)) 34 false, Oe 38 (.faddr 0 (.t 8)) 37 false, Oe 39 (.load (.t 38)) 37 false, Oe 40 (.bin .eql (.t 39) (.c (.int .i64 1))) 37 false, Oe 41 (.pick (.t 37) (.c (.bool true)) (.t 40)) 34 false, Oe 42 (.mv (.t 41)) 34 false, Oe 43 (.faddr 3 (.t 8)) 42 true, Oe 44 (.load (.t 43)) 42 true, Oe 45 (.faddr 3 (.t 9)) 42 true, Oe 46 (.load (.t 45)) 42 true, Oe 47 (.bin .neq (.t 44) (.t 46)) 42 true, Oe 48 (.pick (.t 42) (.t 47) (.c (.bool false))) 34 false, Oa 49 (.pick (.t 34) (.c (.bool true)) (.t 48)), Oa 50 (.mv (.t 49)), Oe 51 (.mv (.t 2)) 50 false, Oe 52 (.un .not (.t 51)) 50 false, Oe 53 (.mv (.t 52)) 50 false, Oe 54 (.faddr 0 (.t 8)) 53 false, Oe 55 (.load (.t 54)) 53 false, Oe 56 (.bin .eql (.t 55) (.c (.int .i64 2))) 53 false, Oe 57 (.pick (.t 53) (.c (.bool true)) (.t 56)) 50 false, Oe 58 (.mv (.t 57)) 50 false, Oe 59 (.faddr 1 (.t 8)) 58 true, Oe 60 (.loads 2 (.t 59)) 58 true, Oe 61 (.faddr 1 (.t 9)) 58 true, Oe 62 (.loads 2 (.t 61)) 58 true, Oe 63 (.eqs [1, 1] true (.t 60) (.t 62)) 58 true, Oe 64 (.pick (.t 58) (.t 63) (.c (.bool false))) 50 false, Oa 65 (.pick (.t 50) (.c (.bool true)) (.t 64))]
abbrev qa3n : List SOper := [Oa 6 (.mv (.c (.bool false)))]
abbrev qa3m : List SOper := [Oa 19 (.mv (.t 7)), Oa 20 (.bin .add (.t 19) (.c (.int .i64 1))), Oa 7 (.mv (.t 20))]
def qaj7 : SCode := (.seq (.seq (.reg false qa3q [0, 1, 2, 7, 18]) (.cond (.t 18) .skip (.exit 0))) (.seq (.block 1 (.seq (.reg true qa3p [0, 1, 2, 7, 8, 9]) (.seq (.reg false qa3o [0, 1, 2, 7, 65]) (.cond (.t 65) (.seq (.reg false qa3n [6]) .ret) .skip)))) (.reg false qa3m [0, 1, 2, 7])))
abbrev qass : List SOper := [Oa 6 (.mv (.c (.bool true)))]
def c_stree : SCode := (.seq (.reg false qa3u [0, 1, 2]) (.seq (.seq (.reg false qa3t [0, 1, 2, 14]) (.cond (.t 14) (.seq (.reg false qa3s [6]) .ret) .skip)) (.seq (.seq (.reg false qa3r [0, 1, 2, 7]) (.block 0 (.loop qaj7))) (.seq (.reg false qass [6]) .ret))))
theorem qamg : comp Try.prog 66 ((Try.f74.body).getD .skip) = some c_stree.erase := by kernel_rfl
abbrev qata : List SOper := [Oa 3 (.box 65 (.t 0)), Oa 4 (.box 65 (.t 1)), Oa 6 (.mv (.c (.bool false)))]
abbrev qas9 : List SOper := [Oa 8 (.faddr 0 (.t 3)), Oa 9 (.load (.t 8)), Oa 10 (.faddr 0 (.t 4)), Oa 11 (.load (.t 10)), Oa 12 (.bin .neq (.t 9) (.t 11)), Oa 13 (.mv (.t 12)), Oe 14 (.faddr 4 (.t 3)) 13 false, Oe 15 (.load (.t 14)) 13 false, Oe 16 (.faddr 4 (.t 4)) 13 false, Oe 17 (.load (.t 16)) 13 false, Oe 18 (.bin .neq (.t 15) (.t 17)) 13 false, Oa 19 (.pick (.t 13) (.c (.bool true)) (.t 18)), Oa 20 (.mv (.t 19)), Oe 21 (.faddr 3 (.t 3)) 20 false, Oe 22 (.load (.t 21)) 20 false, Oe 23 (.len false (.t 22)) 20 false, Oe 24 (.faddr 3 (.t 4)) 20 false, Oe 25 (.load (.t 24)) 20 false, Oe 26 (.len false (.t 25)) 20 false, Oe 27 (.bin .neq (.t 23) (.t 26)) 20 false, Oa 28 (.pick (.t 20) (.c (.bool true)) (.t 27)), Oa 29 (.mv (.t 28)), Oe 30 (.mv (.t 2)) 29 false, Oe 31 (.un .not (.t 30)) 29 false, Oe 32 (.mv (.t 31)) 29 false, Oe 33 (.faddr 3 (.t 3)) 32 false, Oe 34 (.load (.t 33)) 32 false, Oe 35 (.len false (.t 34)) 32 false, Oe 36 (.bin .gtr (.t 35) (.c (.int .i64 0))) 32 false, Oe 37 (.pick (.t 32) (.c (.bool true)) (.t 36)) 29 false, Oe 38 (.mv (.t 37)) 29 false, Oe 39 (.faddr 1 (.t 3)) 38 true, Oe 40 (.loads 2 (.t 39)) 38 true, Oe 41 (.faddr 1 (.t 4)) 38 true, Oe 42 (.loads 2 (.t 41)) 38 true, Oe 43 (.eqs [1, 1] true (.t 40) (.t 42)) 38 true, Oe 44 (.pick (.t 38) (.t 43) (.c (.bool false))) 29 false, Oa 45 (.pick (.t 29) (.c (.bool true)) (.t 44))]
abbrev qas8 : List SOper := [Oa 6 (.mv (.c (.bool false)))]
abbrev qas7 : List SOper := [Oa 7 (.mv (.c (.int .i64 0)))]
abbrev qas6 : List SOper := [Oa 46 (.mv (.t 7)), Oa 47 (.faddr 3 (.t 3)), Oa 48 (.load (.t 47)), Oa 49 (.len false (.t 48)), Oa 50 (.bin .lss (.t 46) (.t 49))]
abbrev qas5 : List SOper := [Oa 53 (.faddr 3 (.t 3)), Od 54 (.load (.t 53)) 1, Oa 55 (.mv (.t 7)), Od 56 (.iaddr 3 (.t 54) (.t 55)) 7, Od 57 (.loads 3 (.t 56)) 15, Oa 58 (.faddr 3 (.t 4)), Od 59 (.load (.t 58)) 32, Oa 60 (.mv (.t 7)), Od 61 (.iaddr 3 (.t 59) (.t 60)) 224, Od 62 (.loads 3 (.t 61)) 480, Od 63 (.eqs [1, 1, 1] true (.t 57) (.t 62)) 1023]
abbrev qas4 : List SOper := [Oa 6 (.mv (.c (.bool false)))]
abbrev qas3 : List SOper := [Oa 51 (.mv (.t 7)), Oa 52 (.bin .add (.t 51) (.c (.int .i64 1))), Oa 7 (.mv (.t 52))]
def qah0 : SCode := (.seq (.seq (.reg false qas6 [3, 4, 7, 50]) (.cond (.t 50) .skip (.exit 0))) (.seq (.block 1 (.seq (.reg true qas5 [3, 4, 7, 63]) (.cond (.t 63) (.seq (.reg false qas4 [6]) .ret) .skip))) (.reg false qas3 [3, 4, 7])))
abbrev qas2 : List SOper := [Oa 6 (.mv (.c (.bool true)))]
def c_sstate : SCode := (.seq (.reg false qata [2, 3, 4]) (.seq (.seq (.reg false qas9 [3, 4, 45]) (.cond (.t 45) (.seq (.reg false qas8 [6]) .ret) .skip)) (.seq (.seq (.reg false qas7 [3, 4, 7]) (.block 0 (.loop qah0))) (.seq (.reg false qas2 [6]) .ret))))
theorem qajt : comp Try.prog 64 ((Try.f47.body).getD .skip) = some c_sstate.erase := by kernel_rfl
abbrev qbdw : List SOper := [Oa 3 (.box 71 (.t 0)), Oa 4 (.box 71 (.t 1)), Oa 6 (.mv (.c (.bool false)))]
abbrev qbdv : List SOper := [Oa 10 (.mv (.t 2)), Oa 11 (.un .not (.t 10)), Oa 12 (.mv (.t 11)), Oe 13 (.faddr 0 (.t 3)) 12 false, Oe 14 (.load (.t 13)) 12 false, Oe 15 (.bin .eql (.t 14) (.c (.int .i64 1))) 12 false, Oa 16 (.pick (.t 12) (.c (.bool true)) (.t 15)), Oa 17 (.mv (.t 16)), Oe 18 (.faddr 0 (.t 3)) 17 false, Oe 19 (.load (.t 18)) 17 false, Oe 20 (.bin .eql (.t 19) (.c (.int .i64 6))) 17 false, Oa 21 (.pick (.t 17) (.c (.bool true)) (.t 20)), Oa 7 (.mv (.t 21))]
abbrev qbdu : List SOper := [Oa 22 (.mv (.t 2)), Oa 23 (.un .not (.t 22)), Oa 24 (.mv (.t 23)), Oe 25 (.faddr 0 (.t 3)) 24 false, Oe 26 (.load (.t 25)) 24 false, Oe 27 (.bin .eql (.t 26) (.c (.int .i64 2))) 24 false, Oa 28 (.pick (.t 24) (.c (.bool true)) (.t 27)), Oa 29 (.mv (.t 28)), Oe 30 (.faddr 0 (.t 3)) 29 false, Oe 31 (.load (.t 30)) 29 false, Oe 32 (.bin .eql (.t 31) (.c (.int .i64 3))) 29 false, Oa 33 (.pick (.t 29) (.c (.bool true)) (.t 32)), Oa 34 (.mv (.t 33)), Oe 35 (.faddr 0 (.t 3)) 34 false, Oe 36 (.load (.t 35)) 34 false, Oe 37 (.bin .eql (.t 36) (.c (.int .i64 6))) 34 false, Oa 38 (.pick (.t 34) (.c (.bool true)) (.t 37)), Oa 8 (.mv (.t 38))]
abbrev qbdt : List SOper := [Oa 39 (.mv (.t 2)), Oa 40 (.un .not (.t 39)), Oa 41 (.mv (.t 40)), Oe 42 (.faddr 0 (.t 3)) 41 false, Oe 43 (.load (.t 42)) 41 false, Oe 44 (.bin .eql (.t 43) (.c (.int .i64 1))) 41 false, Oa 45 (.pick (.t 41) (.c (.bool true)) (.t 44)), Oa 46 (.mv (.t 45)), Oe 47 (.faddr 0 (.t 3)) 46 false, Oe 48 (.load (.t 47)) 46 false, Oe 49 (.bin .eql (.t 48) (.c (.int .i64 5))) 46 false, Oa 50 (.pick (.t 46) (.c (.bool true)) (.t 49)), Oa 9 (.mv (.t 50))]
abbrev qbds : List SOper := [Oa 51 (.faddr 0 (.t 3)), Oa 52 (.load (.t 51)), Oa 53 (.faddr 0 (.t 4)), Oa 54 (.load (.t 53)), Oa 55 (.bin .eql (.t 52) (.t 54)), Oa 56 (.mv (.t 55)), Oe 57 (.mv (.t 7)) 56 true, Oe 58 (.un .not (.t 57)) 56 true, Oe 59 (.mv (.t 58)) 56 true, Oe 60 (.faddr 1 (.t 3)) 59 false, Oe 61 (.loads 2 (.t 60)) 59 false, Oe 62 (.faddr 1 (.t 4)) 59 false, Oe 63 (.loads 2 (.t 62)) 59 false, Oe 64 (.eqs [1, 1] false (.t 61) (.t 63)) 59 false, Oe 65 (.pick (.t 59) (.c (.bool true)) (.t 64)) 56 true, Oa 66 (.pick (.t 56) (.t 65) (.c (.bool false))), Oa 67 (.mv (.t 66)), Oe 68 (.mv (.t 8)) 67 true, Oe 69 (.un .not (.t 68)) 67 true, Oe 70 (.mv (.t 69)) 67 true, Oe 71 (.faddr 3 (.t 3)) 70 false, Oe 72 (.load (.t 71)) 70 false, Oe 73 (.faddr 3 (.t 4)) 70 false, Oe 74 (.load (.t 73)) 70 false, Oe 75 (.bin .eql (.t 72) (.t 74)) 70 false, Oe 76 (.pick (.t 70) (.c (.bool true)) (.t 75)) 67 true, Oa 77 (.pick (.t 67) (.t 76) (.c (.bool false))), Oa 78 (.mv (.t 77)), Oe 79 (.mv (.t 9)) 78 true, Oe 80 (.un .not (.t 79)) 78 true, Oe 81 (.mv (.t 80)) 78 true, Oe 82 (.faddr 4 (.t 3)) 81 false, Oe 83 (.load (.t 82)) 81 false, Oe 84 (.faddr 4 (.t 4)) 81 false, Oe 85 (.load (.t 84)) 81 false, Oe 86 (.mv (.t 2)) 81 false, ⟨(some 87), .mv (.c .any), some ((.c (.fn (.func 74) [] [])), [(.t 83), (.t 85), (.t 86)]), (some (81, false)), 0⟩, Oe 88 (.pick (.t 81) (.c (.bool true)) (.t 87)) 78 true, Oa 89 (.pick (.t 78) (.t 88) (.c (.bool false))), Oa 6 (.mv (.t 89))]
def c_sop : SCode := (.seq (.reg false qbdw [2, 3, 4]) (.seq (.reg false qbdv [2, 3, 4, 7]) (.seq (.reg false qbdu [2, 3, 4, 7, 8]) (.seq (.reg false qbdt [2, 3, 4, 7, 8, 9]) (.seq (.reg false qbds [6]) .ret)))))
theorem qa2d : comp Try.prog 90 ((Try.f48.body).getD .skip) = some c_sop.erase := by kernel_rfl
abbrev qas1 : List SOper := [Oa 2 (.box 35 (.t 0)), Oa 3 (.box 35 (.t 1)), Oa 4 (.mv (.c (.bool false)))]
abbrev qas0 : List SOper := [Oa 6 (.faddr 1 (.t 2)), Oa 7 (.load (.t 6)), Oa 8 (.len false (.t 7)), Oa 9 (.faddr 1 (.t 3)), Oa 10 (.load (.t 9)), Oa 11 (.len false (.t 10)), Oa 12 (.bin .neq (.t 8) (.t 11))]
abbrev qasz : List SOper := [Oa 4 (.mv (.c (.bool false)))]
abbrev qasy : List SOper := [Oa 5 (.mv (.c (.int .i64 0)))]
abbrev qasx : List SOper := [Oa 13 (.mv (.t 5)), Oa 14 (.faddr 1 (.t 2)), Oa 15 (.load (.t 14)), Oa 16 (.len false (.t 15)), Oa 17 (.bin .lss (.t 13) (.t 16))]
abbrev qasw : List SOper := [Oa 20 (.faddr 1 (.t 2)), Od 21 (.load (.t 20)) 1, Oa 22 (.mv (.t 5)), Od 23 (.iaddr 2 (.t 21) (.t 22)) 7, Od 24 (.loads 2 (.t 23)) 15, Oa 25 (.faddr 1 (.t 3)), Od 26 (.load (.t 25)) 32, Oa 27 (.mv (.t 5)), Od 28 (.iaddr 2 (.t 26) (.t 27)) 224, Od 29 (.loads 2 (.t 28)) 480, Od 30 (.eqs [1, 1] true (.t 24) (.t 29)) 1023]
abbrev qasv : List SOper := [Oa 4 (.mv (.c (.bool false)))]
abbrev qasu : List SOper := [Oa 18 (.mv (.t 5)), Oa 19 (.bin .add (.t 18) (.c (.int .i64 1))), Oa 5 (.mv (.t 19))]
def qahz : SCode := (.seq (.seq (.reg false qasx [2, 3, 5, 17]) (.cond (.t 17) .skip (.exit 0))) (.seq (.block 1 (.seq (.reg true qasw [2, 3, 5, 30]) (.cond (.t 30) (.seq (.reg false qasv [4]) .ret) .skip))) (.reg false qasu [2, 3, 5])))
abbrev qast : List SOper := [Oa 31 (.faddr 0 (.t 2)), Oa 32 (.load (.t 31)), Oa 33 (.faddr 0 (.t 3)), Oa 34 (.load (.t 33)), Oa 35 (.bin .eql (.t 32) (.t 34)), Oa 36 (.mv (.t 35)), Oe 37 (.faddr 2 (.t 2)) 36 true, Oe 38 (.load (.t 37)) 36 true, Oe 39 (.faddr 2 (.t 3)) 36 true, Oe 40 (.load (.t 39)) 36 true, ⟨(some 41), .mv (.c .any), some ((.c (.fn (.func 11) [] [])), [(.t 38), (.t 40)]), (some (36, true)), 0⟩, Oa 42 (.pick (.t 36) (.t 41) (.c (.bool false))), Oa 43 (.mv (.t 42)), Oe 44 (.faddr 3 (.t 2)) 43 true, Oe 45 (.load (.t 44)) 43 true, Oe 46 (.faddr 3 (.t 3)) 43 true, Oe 47 (.load (.t 46)) 43 true, Oe 48 (.bin .eql (.t 45) (.t 47)) 43 true, Oa 49 (.pick (.t 43) (.t 48) (.c (.bool false))), Oa 50 (.mv (.t 49)), Oe 51 (.faddr 4 (.t 2)) 50 true, Oe 52 (.load (.t 51)) 50 true, Oe 53 (.faddr 4 (.t 3)) 50 true, Oe 54 (.load (.t 53)) 50 true, Oe 55 (.bin .eql (.t 52) (.t 54)) 50 true, Oa 56 (.pick (.t 50) (.t 55) (.c (.bool false))), Oa 57 (.mv (.t 56)), Oe 58 (.faddr 5 (.t 2)) 57 true, Oe 59 (.load (.t 58)) 57 true, Oe 60 (.faddr 5 (.t 3)) 57 true, Oe 61 (.load (.t 60)) 57 true, ⟨(some 62), .mv (.c .any), some ((.c (.fn (.func 27) [] [])), [(.t 59), (.t 61)]), (some (57, true)), 0⟩, Oa 63 (.pick (.t 57) (.t 62) (.c (.bool false))), Oa 4 (.mv (.t 63))]
def c_stable : SCode := (.seq (.reg false qas1 [2, 3]) (.seq (.seq (.reg false qas0 [2, 3, 12]) (.cond (.t 12) (.seq (.reg false qasz [4]) .ret) .skip)) (.seq (.seq (.reg false qasy [2, 3, 5]) (.block 0 (.loop qahz))) (.seq (.reg false qast [4]) .ret))))
theorem qajs : comp Try.prog 64 ((Try.f49.body).getD .skip) = some c_stable.erase := by kernel_rfl
abbrev qa38 : List SOper := [Oa 3 (.box 73 (.t 0)), Oa 4 (.box 73 (.t 1)), Oa 6 (.mv (.c (.bool false)))]
abbrev qa37 : List SOper := [Oa 10 (.mv (.t 2)), Oa 11 (.un .not (.t 10)), Oa 12 (.mv (.t 11)), Oe 13 (.faddr 0 (.t 3)) 12 false, Oe 14 (.load (.t 13)) 12 false, Oe 15 (.bin .neq (.t 14) (.c (.int .i64 3))) 12 false, Oa 16 (.pick (.t 12) (.c (.bool true)) (.t 15)), Oa 7 (.mv (.t 16))]
abbrev qa36 : List SOper := [Oa 17 (.mv (.t 2)), Oa 18 (.un .not (.t 17)), Oa 19 (.mv (.t 18)), Oe 20 (.faddr 0 (.t 3)) 19 false, Oe 21 (.load (.t 20)) 19 false, Oe 22 (.bin .eql (.t 21) (.c (.int .i64 3))) 19 false, Oa 23 (.pick (.t 19) (.c (.bool true)) (.t 22)), Oa 8 (.mv (.t 23))]
abbrev qa35 : List SOper := [Oa 24 (.mv (.t 2)), Oa 25 (.un .not (.t 24)), Oa 26 (.mv (.t 25)), Oe 27 (.faddr 0 (.t 3)) 26 false, Oe 28 (.load (.t 27)) 26 false, Oe 29 (.bin .eql (.t 28) (.c (.int .i64 3))) 26 false, Oa 30 (.pick (.t 26) (.c (.bool true)) (.t 29)), Oa 31 (.mv (.t 30)), Oe 32 (.faddr 0 (.t 3)) 31 false, Oe 33 (.load (.t 32)) 31 false, Oe 34 (.bin .eql (.t 33) (.c (.int .i64 4))) 31 false, Oa 35 (.pick (.t 31) (.c (.bool true)) (.t 34)), Oa 9 (.mv (.t 35))]
abbrev qa34 : List SOper := [Oa 36 (.faddr 0 (.t 3)), Oa 37 (.load (.t 36)), Oa 38 (.faddr 0 (.t 4)), Oa 39 (.load (.t 38)), Oa 40 (.bin .eql (.t 37) (.t 39)), Oa 41 (.mv (.t 40)), Oe 42 (.faddr 3 (.t 3)) 41 true, Oe 43 (.load (.t 42)) 41 true, Oe 44 (.faddr 3 (.t 4)) 41 true, Oe 45 (.load (.t 44)) 41 true, Oe 46 (.bin .eql (.t 43) (.t 45)) 41 true, Oa 47 (.pick (.t 41) (.t 46) (.c (.bool false))), Oa 48 (.mv (.t 47)), Oe 49 (.mv (.t 7)) 48 true, Oe 50 (.un .not (.t 49)) 48 true, Oe 51 (.mv (.t 50)) 48 true, Oe 52 (.faddr 1 (.t 3)) 51 false, Oe 53 (.load (.t 52)) 51 false, Oe 54 (.faddr 1 (.t 4)) 51 false, Oe 55 (.load (.t 54)) 51 false, Oe 56 (.bin .eql (.t 53) (.t 55)) 51 false, Oe 57 (.pick (.t 51) (.c (.bool true)) (.t 56)) 48 true, Oa 58 (.pick (.t 48) (.t 57) (.c (.bool false))), Oa 59 (.mv (.t 58)), Oe 60 (.mv (.t 8)) 59 true, Oe 61 (.un .not (.t 60)) 59 true, Oe 62 (.mv (.t 61)) 59 true, Oe 63 (.faddr 2 (.t 3)) 62 false, Oe 64 (.load (.t 63)) 62 false, Oe 65 (.faddr 2 (.t 4)) 62 false, Oe 66 (.load (.t 65)) 62 false, Oe 67 (.mv (.t 2)) 62 false, ⟨(some 68), .mv (.c .any), some ((.c (.fn (.func 74) [] [])), [(.t 64), (.t 66), (.t 67)]), (some (62, false)), 0⟩, Oe 69 (.pick (.t 62) (.c (.bool true)) (.t 68)) 59 true, Oa 70 (.pick (.t 59) (.t 69) (.c (.bool false))), Oa 71 (.mv (.t 70)), Oe 72 (.mv (.t 9)) 71 true, Oe 73 (.un .not (.t 72)) 71 true, Oe 74 (.mv (.t 73)) 71 true, Oe 75 (.faddr 4 (.t 3)) 74 false, Oe 76 (.load (.t 75)) 74 false, Oe 77 (.faddr 4 (.t 4)) 74 false, Oe 78 (.load (.t 77)) 74 false, Oe 79 (.bin .eql (.t 76) (.t 78)) 74 false, Oe 80 (.pick (.t 74) (.c (.bool true)) (.t 79)) 71 true, Oa 81 (.pick (.t 71) (.t 80) (.c (.bool false))), Oa 6 (.mv (.t 81))]
def c_snode : SCode := (.seq (.reg false qa38 [2, 3, 4]) (.seq (.reg false qa37 [2, 3, 4, 7]) (.seq (.reg false qa36 [2, 3, 4, 7, 8]) (.seq (.reg false qa35 [2, 3, 4, 7, 8, 9]) (.seq (.reg false qa34 [6]) .ret)))))
theorem qamj : comp Try.prog 82 ((Try.f50.body).getD .skip) = some c_snode.erase := by kernel_rfl
abbrev qa33 : List SOper := [Oa 3 (.box 29 (.t 0)), Oa 4 (.box 29 (.t 1)), Oa 6 (.mv (.c (.bool false)))]
abbrev qa32 : List SOper := [Oa 15 (.faddr 0 (.t 3)), Oa 16 (.load (.t 15)), Oa 17 (.len false (.t 16)), Oa 18 (.faddr 0 (.t 4)), Oa 19 (.load (.t 18)), Oa 20 (.len false (.t 19)), Oa 21 (.bin .neq (.t 17) (.t 20)), Oa 22 (.mv (.t 21)), Oe 23 (.faddr 1 (.t 3)) 22 false, Oe 24 (.load (.t 23)) 22 false, Oe 25 (.faddr 1 (.t 4)) 22 false, Oe 26 (.load (.t 25)) 22 false, ⟨(some 27), .mv (.c .any), some ((.c (.fn (.func 11) [] [])), [(.t 24), (.t 26)]), (some (22, false)), 0⟩, Oe 28 (.un .not (.t 27)) 22 false, Oa 29 (.pick (.t 22) (.c (.bool true)) (.t 28)), Oa 30 (.mv (.t 29)), Oe 31 (.faddr 2 (.t 3)) 30 false, Oe 32 (.load (.t 31)) 30 false, Oe 33 (.len false (.t 32)) 30 false, Oe 34 (.faddr 2 (.t 4)) 30 false, Oe 35 (.load (.t 34)) 30 false, Oe 36 (.len false (.t 35)) 30 false, Oe 37 (.bin .neq (.t 33) (.t 36)) 30 false, Oa 38 (.pick (.t 30) (.c (.bool true)) (.t 37)), Oa 39 (.mv (.t 38)), Oe 40 (.faddr 3 (.t 3)) 39 false, Oe 41 (.load (.t 40)) 39 false, Oe 42 (.len false (.t 41)) 39 false, Oe 43 (.faddr 3 (.t 4)) 39 false, Oe 44 (.load (.t 43)) 39 false, Oe 45 (.len false (.t 44)) 39 false, Oe 46 (.bin .neq (.t 42) (.t 45)) 39 false, Oa 47 (.pick (.t 39) (.c (.bool true)) (.t 46)), Oa 48 (.mv (.t 47)), Oe 49 (.faddr 4 (.t 3)) 48 false, Oe 50 (.load (.t 49)) 48 false, Oe 51 (.len false (.t 50)) 48 false, Oe 52 (.faddr 4 (.t 4)) 48 false, Oe 53 (.load (.t 52)) 48 false, Oe 54 (.len false (.t 53)) 48 false, Oe 55 (.bin .neq (.t 51) (.t 54)) 48 false, Oa 56 (.pick (.t 48) (.c (.bool true)) (.t 55)), Oa 57 (.mv (.t 56)), Oe 58 (.faddr 5 (.t 3)) 57 false, Oe 59 (.load (.t 58)) 57 false, Oe 60 (.len false (.t 59)) 57 false, Oe 61 (.faddr 5 (.t 4)) 57 false, Oe 62 (.load (.t 61)) 57 false, Oe 63 (.len false (.t 62)) 57 false, Oe 64 (.bin .neq (.t 60) (.t 63)) 57 false, Oa 65 (.pick (.t 57) (.c (.bool true)) (.t 64)), Oa 66 (.mv (.t 65)), Oe 67 (.faddr 6 (.t 3)) 66 false, Oe 68 (.load (.t 67)) 66 false, Oe 69 (.faddr 6 (.t 4)) 66 false, Oe 70 (.load (.t 69)) 66 false, ⟨(some 71), .mv (.c .any), some ((.c (.fn (.func 11) [] [])), [(.t 68), (.t 70)]), (some (66, false)), 0⟩, Oe 72 (.un .not (.t 71)) 66 false, Oa 73 (.pick (.t 66) (.c (.bool true)) (.t 72))]
abbrev qa31 : List SOper := [Oa 6 (.mv (.c (.bool false)))]
abbrev qa30 : List SOper := [Oa 7 (.mv (.c (.int .i64 0)))]
abbrev qa3z : List SOper := [Oa 74 (.mv (.t 7)), Oa 75 (.faddr 0 (.t 3)), Oa 76 (.load (.t 75)), Oa 77 (.len false (.t 76)), Oa 78 (.bin .lss (.t 74) (.t 77))]
abbrev qa3y : List SOper := [Oa 81 (.faddr 0 (.t 3)), Od 82 (.load (.t 81)) 1, Oa 83 (.mv (.t 7)), Od 84 (.iaddr 1 (.t 82) (.t 83)) 7, Od 85 (.faddr 0 (.t 84)) 15, Od 86 (.load (.t 85)) 31, Oa 87 (.faddr 0 (.t 4)), Od 88 (.load (.t 87)) 64, Oa 89 (.mv (.t 7)), Od 90 (.iaddr 1 (.t 88) (.t 89)) 448, Od 91 (.faddr 0 (.t 90)) 960, Od 92 (.load (.t 91)) 1984, ⟨(some 93), .mv (.c .any), some ((.c (.fn (.func 11) [] [])), [(.t 86), (.t 92)]), none, 4095⟩, Od 94 (.un .not (.t 93)) 8191]
abbrev qa3x : List SOper := [Oa 6 (.mv (.c (.bool false)))]
abbrev qa3w : List SOper := [Oa 79 (.mv (.t 7)), Oa 80 (.bin .add (.t 79) (.c (.int .i64 1))), Oa 7 (.mv (.t 80))]
def qakd : SCode := (.seq (.seq (.reg false qa3z [2, 3, 4, 7, 78]) (.cond (.t 78) .skip (.exit 0))) (.seq (.block 1 (.seq (.reg true qa3y [2, 3, 4, 7, 94]) (.cond (.t 94) (.seq (.reg false qa3x [6]) .ret) .skip))) (.reg false qa3w [2, 3, 4, 7])))
abbrev qa3v : List SOper := [Oa 8 (.mv (.c (.int .i64 0)))]
abbrev qat0 : List SOper := [Oa 95 (.mv (.t 8)), Oa 96 (.faddr 2 (.t 3)), Oa 97 (.load (.t 96)), Oa 98 (.len false (.t 97)), Oa 99 (.bin .lss (.t 95) (.t 98))]
abbrev qatz : List SOper := [Oa 102 (.faddr 2 (.t 3)), Od 103 (.load (.t 102)) 1, Oa 104 (.mv (.t 8)), Od 105 (.iaddr 5 (.t 103) (.t 104)) 7, Od 106 (.loads 5 (.t 105)) 15, Oa 107 (.faddr 2 (.t 4)), Od 108 (.load (.t 107)) 32, Oa 109 (.mv (.t 8)), Od 110 (.iaddr 5 (.t 108) (.t 109)) 224, Od 111 (.loads 5 (.t 110)) 480, Oa 112 (.mv (.t 2)), ⟨(some 113), .mv (.c .any), some ((.c (.fn (.func 47) [] [])), [(.t 106), (.t 111), (.t 112)]), none, 2047⟩, Od 114 (.un .not (.t 113)) 4095]
abbrev qaty : List SOper := [Oa 6 (.mv (.c (.bool false)))]
abbrev qatx : List SOper := [Oa 100 (.mv (.t 8)), Oa 101 (.bin .add (.t 100) (.c (.int .i64 1))), Oa 8 (.mv (.t 101))]
def qakc : SCode := (.seq (.seq (.reg false qat0 [2, 3, 4, 8, 99]) (.cond (.t 99) .skip (.exit 2))) (.seq (.block 3 (.seq (.reg true qatz [2, 3, 4, 8, 114]) (.cond (.t 114) (.seq (.reg false qaty [6]) .ret) .skip))) (.reg false qatx [2, 3, 4, 8])))
abbrev qatw : List SOper := [Oa 9 (.mv (.c (.int .i64 0)))]
abbrev qatv : List SOper := [Oa 115 (.mv (.t 9)), Oa 116 (.faddr 3 (.t 3)), Oa 117 (.load (.t 116)), Oa 118 (.len false (.t 117)), Oa 119 (.bin .lss (.t 115) (.t 118))]
abbrev qatu : List SOper := [Oa 122 (.faddr 3 (.t 3)), Od 123 (.load (.t 122)) 1, Oa 124 (.mv (.t 9)), Od 125 (.iaddr 2 (.t 123) (.t 124)) 7, Od 126 (.loads 2 (.t 125)) 15, Oa 127 (.faddr 3 (.t 4)), Od 128 (.load (.t 127)) 32, Oa 129 (.mv (.t 9)), Od 130 (.iaddr 2 (.t 128) (.t 129)) 224, Od 131 (.loads 2 (.t 130)) 480, Oa 10 (.alloc 68 [.nilsl, .nilsl]), Oa 11 (.alloc 68 [.nilsl, .nilsl]), ⟨none, .store 2 (.t 10) (.t 126), none, none, 3103⟩, ⟨none, .store 2 (.t 11) (.t 131), none, none, 8191⟩]
abbrev qatt : List SOper := [Oa 132 (.faddr 0 (.t 10)), Oa 133 (.load (.t 132)), Oa 134 (.faddr 0 (.t 11)), Oa 135 (.load (.t 134)), Oc 136 11 [(.t 133), (.t 135)], Oa 137 (.un .not (.t 136)), Oa 138 (.mv (.t 137)), Oe 139 (.faddr 1 (.t 10)) 138 false, Oe 140 (.load (.t 139)) 138 false, Oe 141 (.len false (.t 140)) 138 false, Oe 142 (.faddr 1 (.t 11)) 138 false, Oe 143 (.load (.t 142)) 138 false, Oe 144 (.len false (.t 143)) 138 false, Oe 145 (.bin .neq (.t 141) (.t 144)) 138 false, Oa 146 (.pick (.t 138) (.c (.bool true)) (.t 145))]
abbrev qats : List SOper := [Oa 6 (.mv (.c (.bool false)))]
abbrev qatr : List SOper := [Oa 12 (.mv (.c (.int .i64 0)))]
abbrev qatq : List SOper := [Oa 147 (.mv (.t 12)), Oa 148 (.faddr 1 (.t 10)), Oa 149 (.load (.t 148)), Oa 150 (.len false (.t 149)), Oa 151 (.bin .lss (.t 147) (.t 150))]
abbrev qatp : List SOper := [Oa 154 (.faddr 1 (.t 10)), Od 155 (.load (.t 154)) 1, Oa 156 (.mv (.t 12)), Od 157 (.iaddr 5 (.t 155) (.t 156)) 7, Od 158 (.loads 5 (.t 157)) 15, Oa 159 (.faddr 1 (.t 11)), Od 160 (.load (.t 159)) 32, Oa 161 (.mv (.t 12)), Od 162 (.iaddr 5 (.t 160) (.t 161)) 224, Od 163 (.loads 5 (.t 162)) 480, Oa 164 (.mv (.t 2)), ⟨(some 165), .mv (.c .any), some ((.c (.fn (.func 48) [] [])), [(.t 158), (.t 163), (.t 164)]), none, 2047⟩, Od 166 (.un .not (.t 165)) 4095]
abbrev qato : List SOper := [Oa 6 (.mv (.c (.bool false)))]
abbrev qatn : List SOper := [Oa 152 (.mv (.t 12)), Oa 153 (.bin .add (.t 152) (.c (.int .i64 1))), Oa 12 (.mv (.t 153))]
def qakb : SCode := (.seq (.seq (.reg false qatq [2, 3, 4, 9, 10, 11, 12, 151]) (.cond (.t 151) .skip (.exit 6))) (.seq (.block 7 (.seq (.reg true qatp [2, 3, 4, 9, 10, 11, 12, 166]) (.cond (.t 166) (.seq (.reg false qato [6]) .ret) .skip))) (.reg false qatn [2, 3, 4, 9, 10, 11, 12])))
abbrev qatm : List SOper := [Oa 120 (.mv (.t 9)), Oa 121 (.bin .add (.t 120) (.c (.int .i64 1))), Oa 9 (.mv (.t 121))]
def qaka : SCode := (.seq (.seq (.reg false qatv [2, 3, 4, 9, 119]) (.cond (.t 119) .skip (.exit 4))) (.seq (.block 5 (.seq (.reg true qatu [2, 3, 4, 9, 10, 11]) (.seq (.seq (.reg false qatt [2, 3, 4, 9, 10, 11, 146]) (.cond (.t 146) (.seq (.reg false qats [6]) .ret) .skip)) (.seq (.reg false qatr [2, 3, 4, 9, 10, 11, 12]) (.block 6 (.loop qakb)))))) (.reg false qatm [2, 3, 4, 9])))
abbrev qatl : List SOper := [Oa 13 (.mv (.c (.int .i64 0)))]
abbrev qatk : List SOper := [Oa 167 (.mv (.t 13)), Oa 168 (.faddr 4 (.t 3)), Oa 169 (.load (.t 168)), Oa 170 (.len false (.t 169)), Oa 171 (.bin .lss (.t 167) (.t 170))]
abbrev qatj : List SOper := [Oa 174 (.faddr 4 (.t 3)), Od 175 (.load (.t 174)) 1, Oa 176 (.mv (.t 13)), Od 177 (.iaddr 6 (.t 175) (.t 176)) 7, Od 178 (.loads 6 (.t 177)) 15, Oa 179 (.faddr 4 (.t 4)), Od 180 (.load (.t 179)) 32, Oa 181 (.mv (.t 13)), Od 182 (.iaddr 6 (.t 180) (.t 181)) 224, Od 183 (.loads 6 (.t 182)) 480, ⟨(some 184), .mv (.c .any), some ((.c (.fn (.func 49) [] [])), [(.t 178), (.t 183)]), none, 1023⟩, Od 185 (.un .not (.t 184)) 2047]
abbrev qati : List SOper := [Oa 6 (.mv (.c (.bool false)))]
abbrev qath : List SOper := [Oa 172 (.mv (.t 13)), Oa 173 (.bin .add (.t 172) (.c (.int .i64 1))), Oa 13 (.mv (.t 173))]
def qaj9 : SCode := (.seq (.seq (.reg false qatk [2, 3, 4, 13, 171]) (.cond (.t 171) .skip (.exit 8))) (.seq (.block 9 (.seq (.reg true qatj [2, 3, 4, 13, 185]) (.cond (.t 185) (.seq (.reg false qati [6]) .ret) .skip))) (.reg false qath [2, 3, 4, 13])))
abbrev qatg : List SOper := [Oa 14 (.mv (.c (.int .i64 0)))]
abbrev qatf : List SOper := [Oa 186 (.mv (.t 14)), Oa 187 (.faddr 5 (.t 3)), Oa 188 (.load (.t 187)), Oa 189 (.len false (.t 188)), Oa 190 (.bin .lss (.t 186) (.t 189))]
abbrev qate : List SOper := [Oa 193 (.faddr 5 (.t 3)), Od 194 (.load (.t 193)) 1, Oa 195 (.mv (.t 14)), Od 196 (.iaddr 5 (.t 194) (.t 195)) 7, Od 197 (.loads 5 (.t 196)) 15, Oa 198 (.faddr 5 (.t 4)), Od 199 (.load (.t 198)) 32, Oa 200 (.mv (.t 14)), Od 201 (.iaddr 5 (.t 199) (.t 200)) 224, Od 202 (.loads 5 (.t 201)) 480, Oa 203 (.mv (.t 2)), ⟨(some 204), .mv (.c .any), some ((.c (.fn (.func 50) [] [])), [(.t 197), (.t 202), (.t 203)]), none, 2047⟩, Od 205 (.un .not (.t 204)) 4095]
abbrev qatd : List SOper := [Oa 6 (.mv (.c (.bool false)))]
abbrev qatc : List SOper := [Oa 191 (.mv (.t 14)), Oa 192 (.bin .add (.t 191) (.c (.int .i64 1))), Oa 14 (.mv (.t 192))]
def qaj8 : SCode := (.seq (.seq (.reg false qatf [2, 3, 4, 14, 190]) (.cond (.t 190) .skip (.exit 10))) (.seq (.block 11 (.seq (.reg true qate [2, 3, 4, 14, 205]) (.cond (.t 205) (.seq (.reg false qatd [6]) .ret) .skip))) (.reg false qatc [2, 3, 4, 14])))
abbrev qatb : List SOper := [Oa 6 (.mv (.c (.bool true)))]
def c_splan : SCode := (.seq (.reg false qa33 [2, 3, 4]) (.seq (.seq (.reg false qa32 [2, 3, 4, 73]) (.cond (.t 73) (.seq (.reg false qa31 [6]) .ret) .skip)) (.seq (.seq (.reg false qa30 [2, 3, 4, 7]) (.block 0 (.loop qakd))) (.seq (.seq (.reg false qa3v [2, 3, 4, 8]) (.block 2 (.loop qakc))) (.seq (.seq (.reg false qatw [2, 3, 4, 9]) (.block 4 (.loop qaka))) (.seq (.seq (.reg false qatl [2, 3, 4, 13]) (.block 8 (.loop qaj9))) (.seq (.seq (.reg false qatg [2, 3, 4, 14]) (.block 10 (.loop qaj8))) (.seq (.reg false qatb [6]) .ret))))))))
theorem qamh : comp Try.prog 206 ((Try.f19.body).getD .skip) = some c_splan.erase := by kernel_rfl
abbrev qa7p : List SOper := [Oa 2 (.mv (.c .nilsl))]
abbrev qa7o : List SOper := [Oa 3 (.mv (.c .nilsl))]
abbrev qa7n : List SOper := [Oa 4 (.mv (.t 3)), Oa 5 (.mv (.t 0)), Oa 6 (.app 3 1 8 (.t 4) (.t 5)), Oa 2 (.mv (.t 6))]
def c_oints : SCode := (.seq (.reg false qa7p [0]) (.seq (.reg false qa7o [0, 3]) (.seq (.reg false qa7n [2]) .ret)))
theorem qamy : comp Try.prog 7 ((Try.f29.body).getD .skip) = some c_oints.erase := by kernel_rfl
abbrev qa7e : List SOper := [Oa 2 (.mv (.c .nilsl))]
abbrev qa7d : List SOper := [Oa 3 (.mv (.c .nilsl))]
abbrev qa7c : List SOper := [Oa 4 (.mv (.t 3)), Oa 5 (.mv (.t 0)), Oa 6 (.app 97 4 32 (.t 4) (.t 5)), Oa 2 (.mv (.t 6))]
def c_otree : SCode := (.seq (.reg false qa7e [0]) (.seq (.reg false qa7d [0, 3]) (.seq (.reg false qa7c [2]) .ret)))
theorem qamw : comp Try.prog 7 ((Try.f30.body).getD .skip) = some c_otree.erase := by kernel_rfl
abbrev qa7m : List SOper := [Oa 1 (.box 29 (.t 0)), Oa 2 (.alloc 29 [.nilsl, .nilsl, .nilsl, .nilsl, .nilsl, .nilsl, .nilsl])]
abbrev qa7l : List SOper := [Oa 18 (.faddr 1 (.t 1)), Od 19 (.load (.t 18)) 1, ⟨(some 20), .mv (.c .any), some ((.c (.fn (.func 29) [] [])), [(.t 19)]), none, 3⟩, Oa 21 (.faddr 6 (.t 1)), Od 22 (.load (.t 21)) 8, ⟨(some 23), .mv (.c .any), some ((.c (.fn (.func 29) [] [])), [(.t 22)]), none, 31⟩, Od 24 (.build [.nilsl, .nilsl, .nilsl, .nilsl, .nilsl, .nilsl, .nilsl] [(1, 1, (.t 20)), (6, 1, (.t 23))]) 63, Oa 3 (.alloc 29 [.nilsl, .nilsl, .nilsl, .nilsl, .nilsl, .nilsl, .nilsl]), ⟨none, .store 7 (.t 3) (.t 24), none, none, 255⟩]
abbrev qa7k : List SOper := [Oa 4 (.mv (.c (.int .i64 0)))]
abbrev qa7j : List SOper := [Oa 25 (.mv (.t 4)), Oa 26 (.faddr 0 (.t 1)), Oa 27 (.load (.t 26)), Oa 28 (.len false (.t 27)), Oa 29 (.bin .lss (.t 25) (.t 28))]
abbrev qa7i : List SOper := [Oa 32 (.faddr 0 (.t 3)), Od 33 (.load (.t 32)) 1, Oa 34 (.faddr 0 (.t 1)), Od 35 (.load (.t 34)) 4, Oa 36 (.mv (.t 4)), Od 37 (.iaddr 1 (.t 35) (.t 36)) 28, Od 38 (.faddr 0 (.t 37)) 60, Od 39 (.load (.t 38)) 124, ⟨(some 40), .mv (.c .any), some ((.c (.fn (.func 29) [] [])), [(.t 39)]), none, 252⟩, Od 41 (.build [.nilsl] [(0, 1, (.t 40))]) 508, Od 42 (.mkrow 62 1 1 [.nilsl] [(0, (.t 41))]) 1020, Od 43 (.app 62 1 24 (.t 33) (.t 42)) 2047, Od 44 (.faddr 0 (.t 3)) 4095, ⟨none, .store 1 (.t 44) (.t 43), none, none, 8191⟩]
abbrev qa7h : List SOper := [Oa 30 (.mv (.t 4)), Oa 31 (.bin .add (.t 30) (.c (.int .i64 1))), Oa 4 (.mv (.t 31))]
def qak5 : SCode := (.seq (.seq (.reg false qa7j [1, 2, 3, 4, 29]) (.cond (.t 29) .skip (.exit 0))) (.seq (.block 1 (.reg true qa7i [1, 2, 3, 4])) (.reg false qa7h [1, 2, 3, 4])))
abbrev qak3 : List SOper := [Oa 5 (.mv (.c (.int .i64 0)))]
abbrev qa7g : List SOper := [Oa 45 (.mv (.t 5)), Oa 46 (.faddr 2 (.t 1)), Oa 47 (.load (.t 46)), Oa 48 (.len false (.t 47)), Oa 49 (.bin .lss (.t 45) (.t 48))]
abbrev qa7f : List SOper := [Oa 52 (.faddr 2 (.t 1)), Oa 53 (.load (.t 52)), Oa 54 (.mv (.t 5)), Oa 55 (.iaddr 5 (.t 53) (.t 54)), Oa 56 (.loads 5 (.t 55)), Oa 6 (.alloc 65 [(.int .i64 0), (.int .i64 0), (.int .i64 0), .nilsl, (.int .i64 0)]), Ob (.store 5 (.t 6) (.t 56))]
abbrev qazh : List SOper := [Oa 7 (.mv (.c .nilsl))]
abbrev qazg : List SOper := [Oa 57 (.mv (.t 7)), Oa 58 (.faddr 3 (.t 6)), Oa 59 (.load (.t 58)), Oa 60 (.app 95 3 24 (.t 57) (.t 59)), Oa 61 (.faddr 3 (.t 6)), Ob (.store 1 (.t 61) (.t 60))]
abbrev qaie : List SOper := [Oa 62 (.faddr 2 (.t 3)), Oa 63 (.load (.t 62)), Oa 64 (.loads 5 (.t 6)), Oa 65 (.mkrow 65 5 1 [(.int .i64 0), (.int .i64 0), (.int .i64 0), .nilsl, (.int .i64 0)] [(0, (.t 64))]), Oa 66 (.app 65 5 56 (.t 63) (.t 65)), Oa 67 (.faddr 2 (.t 3)), Ob (.store 1 (.t 67) (.t 66))]
abbrev qazf : List SOper := [Oa 50 (.mv (.t 5)), Oa 51 (.bin .add (.t 50) (.c (.int .i64 1))), Oa 5 (.mv (.t 51))]
def qaha : SCode := (.seq (.seq (.reg false qa7g [1, 2, 3, 5, 49]) (.cond (.t 49) .skip (.exit 2))) (.seq (.block 3 (.seq (.reg false qa7f [1, 2, 3, 5, 6]) (.seq (.reg false qazh [1, 2, 3, 5, 6, 7]) (.seq (.reg false qazg [1, 2, 3, 5, 6]) (.reg false qaie [1, 2, 3, 5]))))) (.reg false qazf [1, 2, 3, 5])))
abbrev qaf3 : List SOper := [Oa 8 (.mv (.c (.int .i64 0)))]
abbrev qaze : List SOper := [Oa 68 (.mv (.t 8)), Oa 69 (.faddr 3 (.t 1)), Oa 70 (.load (.t 69)), Oa 71 (.len false (.t 70)), Oa 72 (.bin .lss (.t 68) (.t 71))]
abbrev qazd : List SOper := [Oa 75 (.faddr 3 (.t 1)), Oa 76 (.load (.t 75)), Oa 77 (.mv (.t 8)), Oa 78 (.iaddr 2 (.t 76) (.t 77)), Oa 79 (.faddr 0 (.t 78)), Oa 80 (.load (.t 79)), Oc 81 29 [(.t 80)], Oa 82 (.build [.nilsl, .nilsl] [(0, 1, (.t 81))]), Oa 9 (.alloc 68 [.nilsl, .nilsl]), Ob (.store 2 (.t 9) (.t 82))]
abbrev qazc : List SOper := [Oa 10 (.mv (.c (.int .i64 0)))]
abbrev qazb : List SOper := [Oa 83 (.mv (.t 10)), Oa 84 (.faddr 3 (.t 1)), Oa 85 (.load (.t 84)), Oa 86 (.mv (.t 8)), Oa 87 (.iaddr 2 (.t 85) (.t 86)), Oa 88 (.faddr 1 (.t 87)), Oa 89 (.load (.t 88)), Oa 90 (.len false (.t 89)), Oa 91 (.bin .lss (.t 83) (.t 90))]
abbrev qaza : List SOper := [Oa 94 (.faddr 3 (.t 1)), Oa 95 (.load (.t 94)), Oa 96 (.mv (.t 8)), Oa 97 (.iaddr 2 (.t 95) (.t 96)), Oa 98 (.faddr 1 (.t 97)), Oa 99 (.load (.t 98)), Oa 100 (.mv (.t 10)), Oa 101 (.iaddr 5 (.t 99) (.t 100)), Oa 102 (.loads 5 (.t 101)), Oa 11 (.alloc 71 [(.int .i64 0), (.int .i64 0), (.int .i64 0), (.int .i64 0), .nilsl]), Ob (.store 5 (.t 11) (.t 102))]
abbrev qay9 : List SOper := [Oa 103 (.faddr 4 (.t 11)), Oa 104 (.load (.t 103)), Oc 105 30 [(.t 104)], Oa 106 (.faddr 4 (.t 11)), Ob (.store 1 (.t 106) (.t 105))]
abbrev qay8 : List SOper := [Oa 107 (.faddr 1 (.t 9)), Oa 108 (.load (.t 107)), Oa 109 (.loads 5 (.t 11)), Oa 110 (.mkrow 71 5 1 [(.int .i64 0), (.int .i64 0), (.int .i64 0), (.int .i64 0), .nilsl] [(0, (.t 109))]), Oa 111 (.app 71 5 56 (.t 108) (.t 110)), Oa 112 (.faddr 1 (.t 9)), Ob (.store 1 (.t 112) (.t 111))]
abbrev qay7 : List SOper := [Oa 92 (.mv (.t 10)), Oa 93 (.bin .add (.t 92) (.c (.int .i64 1))), Oa 10 (.mv (.t 93))]
def qak4 : SCode := (.seq (.seq (.reg false qazb [1, 2, 3, 8, 9, 10, 91]) (.cond (.t 91) .skip (.exit 6))) (.seq (.block 7 (.seq (.reg false qaza [1, 2, 3, 8, 9, 10, 11]) (.seq (.reg false qay9 [1, 2, 3, 8, 9, 10, 11]) (.reg false qay8 [1, 2, 3, 8, 9, 10])))) (.reg false qay7 [1, 2, 3, 8, 9, 10])))
abbrev qaid : List SOper := [Oa 113 (.faddr 3 (.t 3)), Oa 114 (.load (.t 113)), Oa 115 (.loads 2 (.t 9)), Oa 116 (.mkrow 68 2 1 [.nilsl, .nilsl] [(0, (.t 115))]), Oa 117 (.app 68 2 48 (.t 114) (.t 116)), Oa 118 (.faddr 3 (.t 3)), Ob (.store 1 (.t 118) (.t 117))]
abbrev qay6 : List SOper := [Oa 73 (.mv (.t 8)), Oa 74 (.bin .add (.t 73) (.c (.int .i64 1))), Oa 8 (.mv (.t 74))]
def qafm : SCode := (.seq (.seq (.reg false qaze [1, 2, 3, 8, 72]) (.cond (.t 72) .skip (.exit 4))) (.seq (.block 5 (.seq (.reg false qazd [1, 2, 3, 8, 9]) (.seq (.seq (.reg false qazc [1, 2, 3, 8, 9, 10]) (.block 6 (.loop qak4))) (.reg false qaid [1, 2, 3, 8])))) (.reg false qay6 [1, 2, 3, 8])))
abbrev qaex : List SOper := [Oa 12 (.mv (.c (.int .i64 0)))]
abbrev qay5 : List SOper := [Oa 119 (.mv (.t 12)), Oa 120 (.faddr 4 (.t 1)), Oa 121 (.load (.t 120)), Oa 122 (.len false (.t 121)), Oa 123 (.bin .lss (.t 119) (.t 122))]
abbrev qay4 : List SOper := [Oa 126 (.faddr 4 (.t 1)), Oa 127 (.load (.t 126)), Oa 128 (.mv (.t 12)), Oa 129 (.iaddr 6 (.t 127) (.t 128)), Oa 130 (.loads 6 (.t 129)), Oa 13 (.alloc 35 [(.int .i64 0), .nilsl, .nilsl, (.int .i64 0), (.int .i64 0), .nilsl]), Ob (.store 6 (.t 13) (.t 130))]
abbrev qay3 : List SOper := [Oa 14 (.mv (.c .nilsl))]
abbrev qay2 : List SOper := [Oa 15 (.mv (.c .nilsl))]
abbrev qay1 : List SOper := [Oa 131 (.mv (.t 14)), Oa 132 (.faddr 1 (.t 13)), Od 133 (.load (.t 132)) 2, Od 134 (.app 31 2 16 (.t 131) (.t 133)) 7, Oa 135 (.faddr 2 (.t 13)), Od 136 (.load (.t 135)) 16, ⟨(some 137), .mv (.c .any), some ((.c (.fn (.func 29) [] [])), [(.t 136)]), none, 63⟩, Oa 138 (.mv (.t 15)), Oa 139 (.faddr 5 (.t 13)), Od 140 (.load (.t 139)) 256, Od 141 (.app 54 1 8 (.t 138) (.t 140)) 1023, Od 142 (.faddr 1 (.t 13)) 831, ⟨none, .store 1 (.t 142) (.t 134), none, none, 4095⟩, Od 143 (.faddr 2 (.t 13)) 8191, ⟨none, .store 1 (.t 143) (.t 137), none, none, 16383⟩, Od 144 (.faddr 5 (.t 13)) 32767, ⟨none, .store 1 (.t 144) (.t 141), none, none, 65535⟩]
abbrev qaic : List SOper := [Oa 145 (.faddr 4 (.t 3)), Oa 146 (.load (.t 145)), Oa 147 (.loads 6 (.t 13)), Oa 148 (.mkrow 35 6 1 [(.int .i64 0), .nilsl, .nilsl, (.int .i64 0), (.int .i64 0), .nilsl] [(0, (.t 147))]), Oa 149 (.app 35 6 96 (.t 146) (.t 148)), Oa 150 (.faddr 4 (.t 3)), Ob (.store 1 (.t 150) (.t 149))]
abbrev qay0 : List SOper := [Oa 124 (.mv (.t 12)), Oa 125 (.bin .add (.t 124) (.c (.int .i64 1))), Oa 12 (.mv (.t 125))]
def qaek : SCode := (.seq (.seq (.reg false qay5 [1, 2, 3, 12, 123]) (.cond (.t 123) .skip (.exit 8))) (.seq (.block 9 (.seq (.reg false qay4 [1, 2, 3, 12, 13]) (.seq (.reg false qay3 [1, 2, 3, 12, 13, 14]) (.seq (.reg false qay2 [1, 2, 3, 12, 13, 14, 15]) (.seq (.reg true qay1 [1, 2, 3, 12, 13]) (.reg false qaic [1, 2, 3, 12])))))) (.reg false qay0 [1, 2, 3, 12])))
abbrev qad8 : List SOper := [Oa 16 (.mv (.c (.int .i64 0)))]
abbrev qayz : List SOper := [Oa 151 (.mv (.t 16)), Oa 152 (.faddr 5 (.t 1)), Oa 153 (.load (.t 152)), Oa 154 (.len false (.t 153)), Oa 155 (.bin .lss (.t 151) (.t 154))]
abbrev qayy : List SOper := [Oa 158 (.faddr 5 (.t 1)), Oa 159 (.load (.t 158)), Oa 160 (.mv (.t 16)), Oa 161 (.iaddr 5 (.t 159) (.t 160)), Oa 162 (.loads 5 (.t 161)), Oa 17 (.alloc 73 [(.int .i64 0), (.int .i64 0), .nilsl, (.int .i64 0), (.int .i64 0)]), Ob (.store 5 (.t 17) (.t 162))]
abbrev qayx : List SOper := [Oa 163 (.faddr 2 (.t 17)), Oa 164 (.load (.t 163)), Oc 165 30 [(.t 164)], Oa 166 (.faddr 2 (.t 17)), Ob (.store 1 (.t 166) (.t 165))]
abbrev qayw : List SOper := [Oa 167 (.faddr 5 (.t 3)), Oa 168 (.load (.t 167)), Oa 169 (.loads 5 (.t 17)), Oa 170 (.mkrow 73 5 1 [(.int .i64 0), (.int .i64 0), .nilsl, (.int .i64 0), (.int .i64 0)] [(0, (.t 169))]), Oa 171 (.app 73 5 56 (.t 168) (.t 170)), Oa 172 (.faddr 5 (.t 3)), Ob (.store 1 (.t 172) (.t 171))]
abbrev qayv : List SOper := [Oa 156 (.mv (.t 16)), Oa 157 (.bin .add (.t 156) (.c (.int .i64 1))), Oa 16 (.mv (.t 157))]
def qad9 : SCode := (.seq (.seq (.reg false qayz [1, 2, 3, 16, 155]) (.cond (.t 155) .skip (.exit 10))) (.seq (.block 11 (.seq (.reg false qayy [1, 2, 3, 16, 17]) (.seq (.reg false qayx [1, 2, 3, 16, 17]) (.reg false qayw [1, 2, 3, 16])))) (.reg false qayv [1, 2, 3, 16])))
abbrev qads : List SOper := [Oa 173 (.loads 7 (.t 3)), Ob (.store 7 (.t 2) (.t 173))]
def c_oplan : SCode := (.seq (.reg false qa7m [1, 2]) (.seq (.reg true qa7l [1, 2, 3]) (.seq (.seq (.reg false qa7k [1, 2, 3, 4]) (.block 0 (.loop qak5))) (.seq (.seq (.reg false qak3 [1, 2, 3, 5]) (.block 2 (.loop qaha))) (.seq (.seq (.reg false qaf3 [1, 2, 3, 8]) (.block 4 (.loop qafm))) (.seq (.seq (.reg false qaex [1, 2, 3, 12]) (.block 8 (.loop qaek))) (.seq (.seq (.reg false qad8 [1, 2, 3, 16]) (.block 10 (.loop qad9))) (.seq (.reg false qads [2]) .ret))))))))
theorem qamx : comp Try.prog 174 ((Try.f16.body).getD .skip) = some c_oplan.erase := by kernel_rfl
abbrev qa80 : List SOper := [Oa 1 (.box 29 (.t 0)), Oa 2 (.mv (.c (.bool false)))]
abbrev qa8z : List SOper := [Oa 9 (.faddr 0 (.t 1)), Oa 10 (.load (.t 9)), Oa 11 (.len false (.t 10)), Oa 12 (.bin .gtr (.t 11) (.c (.int .i64 50))), Oa 13 (.mv (.t 12)), Oe 14 (.faddr 1 (.t 1)) 13 false, Oe 15 (.load (.t 14)) 13 false, Oe 16 (.len false (.t 15)) 13 false, Oe 17 (.bin .gtr (.t 16) (.c (.int .i64 500))) 13 false, Oa 18 (.pick (.t 13) (.c (.bool true)) (.t 17)), Oa 19 (.mv (.t 18)), Oe 20 (.faddr 2 (.t 1)) 19 false, Oe 21 (.load (.t 20)) 19 false, Oe 22 (.len false (.t 21)) 19 false, Oe 23 (.bin .gtr (.t 22) (.c (.int .i64 50))) 19 false, Oa 24 (.pick (.t 19) (.c (.bool true)) (.t 23)), Oa 25 (.mv (.t 24)), Oe 26 (.faddr 3 (.t 1)) 25 false, Oe 27 (.load (.t 26)) 25 false, Oe 28 (.len false (.t 27)) 25 false, Oe 29 (.bin .gtr (.t 28) (.c (.int .i64 50))) 25 false, Oa 30 (.pick (.t 25) (.c (.bool true)) (.t 29)), Oa 31 (.mv (.t 30)), Oe 32 (.faddr 4 (.t 1)) 31 false, Oe 33 (.load (.t 32)) 31 false, Oe 34 (.len false (.t 33)) 31 false, Oe 35 (.bin .gtr (.t 34) (.c (.int .i64 50))) 31 false, Oa 36 (.pick (.t 31) (.c (.bool true)) (.t 35)), Oa 37 (.mv (.t 36)), Oe 38 (.faddr 5 (.t 1)) 37 false, Oe 39 (.load (.t 38)) 37 false, Oe 40 (.len false (.t 39)) 37 false, Oe 41 (.bin .gtr (.t 40) (.c (.int .i64 50))) 37 false, Oa 42 (.pick (.t 37) (.c (.bool true)) (.t 41)), Oa 43 (.mv (.t 42)), Oe 44 (.faddr 6 (.t 1)) 43 false, Oe 45 (.load (.t 44)) 43 false, Oe 46 (.len false (.t 45)) 43 false, Oe 47 (.bin .gtr (.t 46) (.c (.int .i64 500))) 43 false, Oa 48 (.pick (.t 43) (.c (.bool true)) (.t 47))]
abbrev qa8y : List SOper := [Oa 2 (.mv (.c (.bool true)))]
abbrev qa8x : List SOper := [Oa 3 (.mv (.c (.int .i64 0)))]
abbrev qa8w : List SOper := [Oa 49 (.mv (.t 3)), Oa 50 (.faddr 0 (.t 1)), Oa 51 (.load (.t 50)), Oa 52 (.len false (.t 51)), Oa 53 (.bin .lss (.t 49) (.t 52))]
abbrev qa8v : List SOper := [Oa 56 (.faddr 0 (.t 1)), Oa 57 (.load (.t 56)), Oa 58 (.mv (.t 3)), Oa 59 (.iaddr 1 (.t 57) (.t 58)), Oa 60 (.faddr 0 (.t 59)), Oa 61 (.load (.t 60)), Oa 62 (.len false (.t 61)), Oa 63 (.bin .gtr (.t 62) (.c (.int .i64 500)))]
abbrev qa8u : List SOper := [Oa 2 (.mv (.c (.bool true)))]
abbrev qa8t : List SOper := [Oa 54 (.mv (.t 3)), Oa 55 (.bin .add (.t 54) (.c (.int .i64 1))), Oa 3 (.mv (.t 55))]
def qalp : SCode := (.seq (.seq (.reg false qa8w [1, 3, 53]) (.cond (.t 53) .skip (.exit 0))) (.seq (.block 1 (.seq (.reg false qa8v [1, 3, 63]) (.cond (.t 63) (.seq (.reg false qa8u [2]) .ret) .skip))) (.reg false qa8t [1, 3])))
abbrev qa8s : List SOper := [Oa 4 (.mv (.c (.int .i64 0)))]
abbrev qa0o : List SOper := [Oa 64 (.mv (.t 4)), Oa 65 (.faddr 2 (.t 1)), Oa 66 (.load (.t 65)), Oa 67 (.len false (.t 66)), Oa 68 (.bin .lss (.t 64) (.t 67))]
abbrev qa0n : List SOper := [Oa 71 (.faddr 2 (.t 1)), Oa 72 (.load (.t 71)), Oa 73 (.mv (.t 4)), Oa 74 (.iaddr 5 (.t 72) (.t 73)), Oa 75 (.faddr 3 (.t 74)), Oa 76 (.load (.t 75)), Oa 77 (.len false (.t 76)), Oa 78 (.bin .gtr (.t 77) (.c (.int .i64 500)))]
abbrev qa0m : List SOper := [Oa 2 (.mv (.c (.bool true)))]
abbrev qa0l : List SOper := [Oa 69 (.mv (.t 4)), Oa 70 (.bin .add (.t 69) (.c (.int .i64 1))), Oa 4 (.mv (.t 70))]
def qalo : SCode := (.seq (.seq (.reg false qa0o [1, 4, 68]) (.cond (.t 68) .skip (.exit 2))) (.seq (.block 3 (.seq (.reg false qa0n [1, 4, 78]) (.cond (.t 78) (.seq (.reg false qa0m [2]) .ret) .skip))) (.reg false qa0l [1, 4])))
abbrev qa0k : List SOper := [Oa 5 (.mv (.c (.int .i64 0)))]
abbrev qa0j : List SOper := [Oa 79 (.mv (.t 5)), Oa 80 (.faddr 3 (.t 1)), Oa 81 (.load (.t 80)), Oa 82 (.len false (.t 81)), Oa 83 (.bin .lss (.t 79) (.t 82))]
abbrev qa0i : List SOper := [Oa 86 (.faddr 3 (.t 1)), Oa 87 (.load (.t 86)), Oa 88 (.mv (.t 5)), Oa 89 (.iaddr 2 (.t 87) (.t 88)), Oa 90 (.faddr 0 (.t 89)), Oa 91 (.load (.t 90)), Oa 92 (.len false (.t 91)), Oa 93 (.bin .gtr (.t 92) (.c (.int .i64 500))), Oa 94 (.mv (.t 93)), Oe 95 (.faddr 3 (.t 1)) 94 false, Oe 96 (.load (.t 95)) 94 false, Oe 97 (.mv (.t 5)) 94 false, Oe 98 (.iaddr 2 (.t 96) (.t 97)) 94 false, Oe 99 (.faddr 1 (.t 98)) 94 false, Oe 100 (.load (.t 99)) 94 false, Oe 101 (.len false (.t 100)) 94 false, Oe 102 (.bin .gtr (.t 101) (.c (.int .i64 50))) 94 false, Oa 103 (.pick (.t 94) (.c (.bool true)) (.t 102))]
abbrev qa0h : List SOper := [Oa 2 (.mv (.c (.bool true)))]
abbrev qa0g : List SOper := [Oa 6 (.mv (.c (.int .i64 0)))]
abbrev qa0f : List SOper := [Oa 104 (.mv (.t 6)), Oa 105 (.faddr 3 (.t 1)), Oa 106 (.load (.t 105)), Oa 107 (.mv (.t 5)), Oa 108 (.iaddr 2 (.t 106) (.t 107)), Oa 109 (.faddr 1 (.t 108)), Oa 110 (.load (.t 109)), Oa 111 (.len false (.t 110)), Oa 112 (.bin .lss (.t 104) (.t 111))]
abbrev qa0e : List SOper := [Oa 115 (.faddr 3 (.t 1)), Oa 116 (.load (.t 115)), Oa 117 (.mv (.t 5)), Oa 118 (.iaddr 2 (.t 116) (.t 117)), Oa 119 (.faddr 1 (.t 118)), Oa 120 (.load (.t 119)), Oa 121 (.mv (.t 6)), Oa 122 (.iaddr 5 (.t 120) (.t 121)), Oa 123 (.faddr 4 (.t 122)), Oa 124 (.load (.t 123)), Oa 125 (.len false (.t 124)), Oa 126 (.bin .gtr (.t 125) (.c (.int .i64 500)))]
abbrev qa0d : List SOper := [Oa 2 (.mv (.c (.bool true)))]
abbrev qa0c : List SOper := [Oa 113 (.mv (.t 6)), Oa 114 (.bin .add (.t 113) (.c (.int .i64 1))), Oa 6 (.mv (.t 114))]
def qaln : SCode := (.seq (.seq (.reg false qa0f [1, 5, 6, 112]) (.cond (.t 112) .skip (.exit 6))) (.seq (.block 7 (.seq (.reg false qa0e [1, 5, 6, 126]) (.cond (.t 126) (.seq (.reg false qa0d [2]) .ret) .skip))) (.reg false qa0c [1, 5, 6])))
abbrev qa0b : List SOper := [Oa 84 (.mv (.t 5)), Oa 85 (.bin .add (.t 84) (.c (.int .i64 1))), Oa 5 (.mv (.t 85))]
def qalm : SCode := (.seq (.seq (.reg false qa0j [1, 5, 83]) (.cond (.t 83) .skip (.exit 4))) (.seq (.block 5 (.seq (.seq (.reg false qa0i [1, 5, 103]) (.cond (.t 103) (.seq (.reg false qa0h [2]) .ret) .skip)) (.seq (.reg false qa0g [1, 5, 6]) (.block 6 (.loop qaln))))) (.reg false qa0b [1, 5])))
abbrev qa0a : List SOper := [Oa 7 (.mv (.c (.int .i64 0)))]
abbrev qaz9 : List SOper := [Oa 127 (.mv (.t 7)), Oa 128 (.faddr 4 (.t 1)), Oa 129 (.load (.t 128)), Oa 130 (.len false (.t 129)), Oa 131 (.bin .lss (.t 127) (.t 130))]
abbrev qaz8 : List SOper := [Oa 134 (.faddr 4 (.t 1)), Oa 135 (.load (.t 134)), Oa 136 (.mv (.t 7)), Oa 137 (.iaddr 6 (.t 135) (.t 136)), Oa 138 (.faddr 1 (.t 137)), Oa 139 (.load (.t 138)), Oa 140 (.len false (.t 139)), Oa 141 (.bin .gtr (.t 140) (.c (.int .i64 500))), Oa 142 (.mv (.t 141)), Oe 143 (.faddr 4 (.t 1)) 142 false, Oe 144 (.load (.t 143)) 142 false, Oe 145 (.mv (.t 7)) 142 false, Oe 146 (.iaddr 6 (.t 144) (.t 145)) 142 false, Oe 147 (.faddr 2 (.t 146)) 142 false, Oe 148 (.load (.t 147)) 142 false, Oe 149 (.len false (.t 148)) 142 false, Oe 150 (.bin .gtr (.t 149) (.c (.int .i64 500))) 142 false, Oa 151 (.pick (.t 142) (.c (.bool true)) (.t 150)), Oa 152 (.mv (.t 151)), Oe 153 (.faddr 4 (.t 1)) 152 false, Oe 154 (.load (.t 153)) 152 false, Oe 155 (.mv (.t 7)) 152 false, Oe 156 (.iaddr 6 (.t 154) (.t 155)) 152 false, Oe 157 (.faddr 5 (.t 156)) 152 false, Oe 158 (.load (.t 157)) 152 false, Oe 159 (.len false (.t 158)) 152 false, Oe 160 (.bin .gtr (.t 159) (.c (.int .i64 500))) 152 false, Oa 161 (.pick (.t 152) (.c (.bool true)) (.t 160))]
abbrev qaz7 : List SOper := [Oa 2 (.mv (.c (.bool true)))]
abbrev qaz6 : List SOper := [Oa 132 (.mv (.t 7)), Oa 133 (.bin .add (.t 132) (.c (.int .i64 1))), Oa 7 (.mv (.t 133))]
def qall : SCode := (.seq (.seq (.reg false qaz9 [1, 7, 131]) (.cond (.t 131) .skip (.exit 8))) (.seq (.block 9 (.seq (.reg false qaz8 [1, 7, 161]) (.cond (.t 161) (.seq (.reg false qaz7 [2]) .ret) .skip))) (.reg false qaz6 [1, 7])))
abbrev qaz5 : List SOper := [Oa 8 (.mv (.c (.int .i64 0)))]
abbrev qaz4 : List SOper := [Oa 162 (.mv (.t 8)), Oa 163 (.faddr 5 (.t 1)), Oa 164 (.load (.t 163)), Oa 165 (.len false (.t 164)), Oa 166 (.bin .lss (.t 162) (.t 165))]
abbrev qaz3 : List SOper := [Oa 169 (.faddr 5 (.t 1)), Oa 170 (.load (.t 169)), Oa 171 (.mv (.t 8)), Oa 172 (.iaddr 5 (.t 170) (.t 171)), Oa 173 (.faddr 2 (.t 172)), Oa 174 (.load (.t 173)), Oa 175 (.len false (.t 174)), Oa 176 (.bin .gtr (.t 175) (.c (.int .i64 500)))]
abbrev qaz2 : List SOper := [Oa 2 (.mv (.c (.bool true)))]
abbrev qaz1 : List SOper := [Oa 167 (.mv (.t 8)), Oa 168 (.bin .add (.t 167) (.c (.int .i64 1))), Oa 8 (.mv (.t 168))]
def qalk : SCode := (.seq (.seq (.reg false qaz4 [1, 8, 166]) (.cond (.t 166) .skip (.exit 10))) (.seq (.block 11 (.seq (.reg false qaz3 [1, 8, 176]) (.cond (.t 176) (.seq (.reg false qaz2 [2]) .ret) .skip))) (.reg false qaz1 [1, 8])))
abbrev qaz0 : List SOper := [Oa 2 (.mv (.c (.bool false)))]
def c_gplan : SCode := (.seq (.reg false qa80 [1]) (.seq (.seq (.reg false qa8z [1, 48]) (.cond (.t 48) (.seq (.reg false qa8y [2]) .ret) .skip)) (.seq (.seq (.reg false qa8x [1, 3]) (.block 0 (.loop qalp))) (.seq (.seq (.reg false qa8s [1, 4]) (.block 2 (.loop qalo))) (.seq (.seq (.reg false qa0k [1, 5]) (.block 4 (.loop qalm))) (.seq (.seq (.reg false qa0a [1, 7]) (.block 8 (.loop qall))) (.seq (.seq (.reg false qaz5 [1, 8]) (.block 10 (.loop qalk))) (.seq (.reg false qaz0 [2]) .ret))))))))
theorem qam5 : comp Try.prog 177 ((Try.f8.body).getD .skip) = some c_gplan.erase := by kernel_rfl
end Go.Proofs.Ytnfjldobjgdiaaa
namespace Go.Proofs.Ytnfjldobjgdiaaa
set_option linter.all false
open Go.RowKit
abbrev qa4h : List SOper := [Oa 4 (.mv (.c (.bool false)))]
abbrev qa4g : List SOper := [Oa 6 (.mv (.t 0)), Oa 7 (.len false (.t 6)), Oa 8 (.mv (.t 1)), Oa 9 (.len false (.t 8)), Oa 10 (.bin .neq (.t 7) (.t 9))]
abbrev qa4f : List SOper := [Oa 4 (.mv (.c (.bool false)))]
abbrev qa4e : List SOper := [Oa 5 (.mv (.c (.int .i64 0)))]
abbrev qa4d : List SOper := [Oa 11 (.mv (.t 5)), Oa 12 (.mv (.t 0)), Oa 13 (.len false (.t 12)), Oa 14 (.bin .lss (.t 11) (.t 13))]
abbrev qa4c : List SOper := [Oa 17 (.mv (.t 0)), Oa 18 (.mv (.t 5)), Od 19 (.iaddr 1 (.t 17) (.t 18)) 3, Od 20 (.load (.t 19)) 7, Oa 21 (.mv (.t 1)), Oa 22 (.mv (.t 5)), Od 23 (.iaddr 1 (.t 21) (.t 22)) 48, Od 24 (.load (.t 23)) 112, Od 25 (.bin .neq (.t 20) (.t 24)) 255]
abbrev qa4b : List SOper := [Oa 4 (.mv (.c (.bool false)))]
abbrev qa4a : List SOper := [Oa 15 (.mv (.t 5)), Oa 16 (.bin .add (.t 15) (.c (.int .i64 1))), Oa 5 (.mv (.t 16))]
def qako : SCode := (.seq (.seq (.reg false qa4d [0, 1, 5, 14]) (.cond (.t 14) .skip (.exit 0))) (.seq (.block 1 (.seq (.reg true qa4c [0, 1, 5, 25]) (.cond (.t 25) (.seq (.reg false qa4b [4]) .ret) .skip))) (.reg false qa4a [0, 1, 5])))
abbrev qa39 : List SOper := [Oa 4 (.mv (.c (.bool true)))]
def c_sints : SCode := (.seq (.reg false qa4h [0, 1]) (.seq (.seq (.reg false qa4g [0, 1, 10]) (.cond (.t 10) (.seq (.reg false qa4f [4]) .ret) .skip)) (.seq (.seq (.reg false qa4e [0, 1, 5]) (.block 0 (.loop qako))) (.seq (.reg false qa39 [4]) .ret))))
theorem qamk : comp Try.prog 26 ((Try.f11.body).getD .skip) = some c_sints.erase := by kernel_rfl
end Go.Proofs.Ytnfjldobjgdiaaa
namespace Go.Proofs.Ytnfjldobjgdiaaa
set_option linter.all false
open Go.RowKit
attribute [local simp] qabs qabr qaa5 qabc qaa6 qabb qabp qabq qaa1 qab3 SOp.run SX.ev putd puts argS upds SOp.touch SSt.keep SSt.skip gets geth puth delh idOf SV.cells? setL qadd qade sbin eq0 eq1 eqL qadc qacd qace qaas qabt qaad qabu qab4 qaaj qaa3 FrzOk qabl qabf qabj qabk qaa7 qabe qab0 qabg qaa9 qabm qaa8 frzS frzH frz frz1 frz0 SlotsM ObjsM ObjM rn ren ren1 ren0 qab9 qaay qaaz qab8 qab1 qacq qacp CoL qabn qacs dels adds idsH qacf
attribute [local simp] qad0 refc qafc qae1 qacn opc actc tabc qaeg qac1 nums
theorem qai4 (l : List Int) (hl : l.length ≤ 1000000) (q : Nat) : SCalls Try.prog 11 [nums .i64 l, nums .i64 l] [] q (.bool true) [] := by
 refine qabw ?_ (fun _ => rfl) (fun _ => rfl) rfl q
 refine qaba (N := 26) Try.func11 rfl rfl (by kernel_rfl) qamk (by simp) (by repeat' (first | exact trivial | refine And.intro ?_ ?_ | rfl | decide | exact PureR.ren _)) (by repeat' (first | exact trivial | refine And.intro ?_ ?_ | rfl | decide | exact PureR.ren _)) ?_
 rintro X hP hN hm
 unfold c_sints
 repeat' (first | (with_reducible first | refine zA ?_ | refine qaac ?_ | refine qaab ?_ | refine zK ?_) | ((with_reducible first | refine qaal ?_ | refine qaah (by rw [hP]; exact qaa4) ?_); (try rw [hP]); simp -implicitDefEqProofs [*]) | ((with_reducible first | refine qaaf ?_ | refine qaag ?_); (try simp -implicitDefEqProofs [*])) | ((with_reducible refine qaam ?_); (try simp only [qaas, qaad, qaaj])) | ((with_reducible refine qaae rfl (fun h => ?_) (fun h => ?_)) <;> have h' := h <;> (try simp at h') <;> (try subst h')) | ((with_reducible refine qaaa (fun h => ?_) (fun h => ?_)) <;> have h' := h <;> (try simp at h') <;> (try subst h') <;> simp -implicitDefEqProofs [*]) | ((with_reducible refine qaai ?_ ?_); (first | omega | (unfold maxLen; omega)); simp -implicitDefEqProofs [*]) | (with_reducible first | refine zM hm ?_ | refine zN hm ?_ | refine zO hm ?_ | refine zP hm ?_) | fail)
 refine qaa0 (qabi (fun s (i : Nat) => s.turn [(5, .int .i64 i)] []) (fun i => i ≤ l.length) (fun i => l.length - i) 0 ?_ (by simp) ?_)
 ·repeat' (first | ((with_reducible refine qaar [] hm ?_ ?_ ?_ ?_) <;> (try simp only [zT, puth, Nat.reduceEqDiff, reduceIte, Nat.reduceAdd])) | (with_reducible first | refine za ?_ ?_ | refine zb ?_ ?_ ?_ ?_ | refine zc ?_ ?_ ?_ ?_ | refine zd ?_ ?_ ?_ ?_ | refine qaap ?_ ?_ | refine qaan ?_ ?_) | (with_reducible first | exact qaak | exact qaao | exact qaat | exact qaau | exact Co.refl _ | exact CoL.refl _ | exact CoLL.refl _) | ((with_reducible first | refine zga ?_ | refine zgb ?_); rfl) | ((with_reducible refine zgc ?_); (first | (with_reducible rfl) | rfl | (simp; done))) | ((with_reducible first | refine zgd ?_ | refine zge ?_); (first | omega | (simp; done))) | (refine qaaw ⟨?_, ?_⟩ ?_ <;> omega) | (exact Co.refl _) | (exact CoL.refl _) | (exact CoLL.refl _) | (refine qaaz ?_; omega) | (refine qaay ?_; first | omega | (simp_all; done)) | (with_reducible first | refine qaav ?_ ?_ | refine qaaq ?_ ?_) | fail)
 rintro J hJ i h1
 unfold qako
 simp only [zT, puth, Nat.reduceEqDiff, reduceIte, Nat.reduceAdd] at h1 ⊢
 rcases Nat.lt_or_ge i l.length with hi | hi
 ·have wi : IntKind.i64.wrap ((i : Int) + 1) = (i : Int) + 1 := qaa2 (by omega) (by omega)
  generalize hxx : l[i] = x
  repeat' (first | (with_reducible first | refine zA ?_ | refine qaac ?_ | refine qaab ?_ | refine zK ?_) | ((with_reducible first | refine qaal ?_ | refine qaah (by rw [hP]; exact qaa4) ?_); (try rw [hP]); simp -implicitDefEqProofs [*]) | ((with_reducible first | refine qaaf ?_ | refine qaag ?_); (try simp -implicitDefEqProofs [*])) | ((with_reducible refine qaam ?_); (try simp only [qaas, qaad, qaaj])) | ((with_reducible refine qaae rfl (fun h => ?_) (fun h => ?_)) <;> have h' := h <;> (try simp at h') <;> (try subst h')) | ((with_reducible refine qaaa (fun h => ?_) (fun h => ?_)) <;> have h' := h <;> (try simp at h') <;> (try subst h') <;> simp -implicitDefEqProofs [*]) | ((with_reducible refine qaai ?_ ?_); (first | omega | (unfold maxLen; omega)); simp -implicitDefEqProofs [*]) | (with_reducible first | refine zM hm ?_ | refine zN hm ?_ | refine zO hm ?_ | refine zP hm ?_) | ((with_reducible refine qaar [] hm ?_ ?_ ?_ ?_) <;> (try simp only [zT, puth, Nat.reduceEqDiff, reduceIte, Nat.reduceAdd])) | (with_reducible first | refine za ?_ ?_ | refine zb ?_ ?_ ?_ ?_ | refine zc ?_ ?_ ?_ ?_ | refine zd ?_ ?_ ?_ ?_ | refine qaap ?_ ?_ | refine qaan ?_ ?_) | (with_reducible first | exact qaak | exact qaao | exact qaat | exact qaau | exact Co.refl _ | exact CoL.refl _ | exact CoLL.refl _) | ((with_reducible first | refine zga ?_ | refine zgb ?_); rfl) | ((with_reducible refine zgc ?_); (first | (with_reducible rfl) | rfl | (simp; done))) | ((with_reducible first | refine zgd ?_ | refine zge ?_); (first | omega | (simp; done))) | (refine qaaw ⟨?_, ?_⟩ ?_ <;> omega) | (exact Co.refl _) | (exact CoL.refl _) | (exact CoLL.refl _) | (refine qaaz ?_; omega) | (refine qaay ?_; first | omega | (simp_all; done)) | (with_reducible first | refine qaav ?_ ?_ | refine qaaq ?_ ?_) | ((refine qaax hJ (i + 1) ?_ ?_ ?_; (with_reducible refine qaar [] hm ?_ ?_ ?_ ?_) <;> (try simp only [zT, puth, Nat.reduceEqDiff, reduceIte, Nat.reduceAdd]))) | fail)
  all_goals omega
 ·obtain rfl : i = l.length := by omega
  repeat' (first | (with_reducible first | refine zA ?_ | refine qaac ?_ | refine qaab ?_ | refine zK ?_) | ((with_reducible first | refine qaal ?_ | refine qaah (by rw [hP]; exact qaa4) ?_); (try rw [hP]); simp -implicitDefEqProofs [*]) | ((with_reducible first | refine qaaf ?_ | refine qaag ?_); (try simp -implicitDefEqProofs [*])) | ((with_reducible refine qaam ?_); (try simp only [qaas, qaad, qaaj])) | ((with_reducible refine qaae rfl (fun h => ?_) (fun h => ?_)) <;> have h' := h <;> (try simp at h') <;> (try subst h')) | ((with_reducible refine qaaa (fun h => ?_) (fun h => ?_)) <;> have h' := h <;> (try simp at h') <;> (try subst h') <;> simp -implicitDefEqProofs [*]) | ((with_reducible refine qaai ?_ ?_); (first | omega | (unfold maxLen; omega)); simp -implicitDefEqProofs [*]) | (with_reducible first | refine zM hm ?_ | refine zN hm ?_ | refine zO hm ?_ | refine zP hm ?_) | fail)
  all_goals rfl
theorem qbce (l : List Int) (hl : l.length ≤ 1000000) (q : Nat) : SCalls Try.prog 27 [nums .u64 l, nums .u64 l] [] q (.bool true) [] := by
 have := qabw (snums_s l l hl) (fun _ => rfl) (fun _ => rfl) rfl q
 rwa [decide_eq_true rfl] at this
theorem qbbh (l : List PushD) (hl : l.length ≤ 1000000) (q : Nat) : SCalls Try.prog 74 [qabz l, qabz l, .bool false] [] q (.bool true) [] := by
 refine qabw ?_ (fun _ => rfl) (fun _ => rfl) rfl q
 refine qaba (N := 66) Try.func74 rfl rfl (by kernel_rfl) qamg (by simp) (by repeat' (first | exact trivial | refine And.intro ?_ ?_ | rfl | decide | exact PureR.ren _)) (by repeat' (first | exact trivial | refine And.intro ?_ ?_ | rfl | decide | exact PureR.ren _)) ?_
 rintro X hP hN hm
 unfold c_stree
 repeat' (first | (with_reducible first | refine zA ?_ | refine qaac ?_ | refine qaab ?_ | refine zK ?_) | ((with_reducible first | refine qaal ?_ | refine qaah (by rw [hP]; exact qaa4) ?_); (try rw [hP]); simp -implicitDefEqProofs [qabz, *]) | ((with_reducible first | refine qaaf ?_ | refine qaag ?_); (try simp -implicitDefEqProofs [qabz, *])) | ((with_reducible refine qaam ?_); (try simp only [qaas, qaad, qaaj])) | ((with_reducible refine qaae rfl (fun h => ?_) (fun h => ?_)) <;> have h' := h <;> (try simp at h') <;> (try subst h')) | ((with_reducible refine qaaa (fun h => ?_) (fun h => ?_)) <;> have h' := h <;> (try simp at h') <;> (try subst h') <;> simp -implicitDefEqProofs [qabz, *]) | ((with_reducible refine qaai ?_ ?_); (first | omega | (unfold maxLen; omega)); simp -implicitDefEqProofs [qabz, *]) | (with_reducible first | refine zM hm ?_ | refine zN hm ?_ | refine zO hm ?_ | refine zP hm ?_) | fail)
 refine qaa0 (qabi (fun s (i : Nat) => s.turn [(7, .int .i64 i)] []) (fun i => i ≤ l.length) (fun i => l.length - i) 0 ?_ (by simp) ?_)
 ·repeat' (first | ((with_reducible refine qaar [] hm ?_ ?_ ?_ ?_) <;> (try simp only [zT, puth, Nat.reduceEqDiff, reduceIte, Nat.reduceAdd])) | (with_reducible first | refine za ?_ ?_ | refine zb ?_ ?_ ?_ ?_ | refine zc ?_ ?_ ?_ ?_ | refine zd ?_ ?_ ?_ ?_ | refine qaap ?_ ?_ | refine qaan ?_ ?_) | (with_reducible first | exact qaak | exact qaao | exact qaat | exact qaau | exact Co.refl _ | exact CoL.refl _ | exact CoLL.refl _) | ((with_reducible first | refine zga ?_ | refine zgb ?_); rfl) | ((with_reducible refine zgc ?_); (first | (with_reducible rfl) | rfl | (simp; done))) | ((with_reducible first | refine zgd ?_ | refine zge ?_); (first | omega | (simp; done))) | (refine qaaw ⟨?_, ?_⟩ ?_ <;> omega) | (exact Co.refl _) | (exact CoL.refl _) | (exact CoLL.refl _) | (refine qaaz ?_; omega) | (refine qaay ?_; first | omega | (simp_all; done)) | (with_reducible first | refine qaav ?_ ?_ | refine qaaq ?_ ?_) | fail)
 rintro J hJ i h1
 unfold qaj7
 simp only [zT, puth, Nat.reduceEqDiff, reduceIte, Nat.reduceAdd] at h1 ⊢
 rcases Nat.lt_or_ge i l.length with hi | hi
 ·have wi : IntKind.i64.wrap ((i : Int) + 1) = (i : Int) + 1 := qaa2 (by omega) (by omega)
  generalize hxx : l[i] = x
  repeat' (first | (with_reducible first | refine zA ?_ | refine qaac ?_ | refine qaab ?_ | refine zK ?_) | ((with_reducible first | refine qaal ?_ | refine qaah (by rw [hP]; exact qaa4) ?_); (try rw [hP]); simp -implicitDefEqProofs [*]) | ((with_reducible first | refine qaaf ?_ | refine qaag ?_); (try simp -implicitDefEqProofs [*])) | ((with_reducible refine qaam ?_); (try simp only [qaas, qaad, qaaj])) | ((with_reducible refine qaae rfl (fun h => ?_) (fun h => ?_)) <;> have h' := h <;> (try simp at h') <;> (try subst h')) | ((with_reducible refine qaaa (fun h => ?_) (fun h => ?_)) <;> have h' := h <;> (try simp at h') <;> (try subst h') <;> simp -implicitDefEqProofs [*]) | ((with_reducible refine qaai ?_ ?_); (first | omega | (unfold maxLen; omega)); simp -implicitDefEqProofs [*]) | (with_reducible first | refine zM hm ?_ | refine zN hm ?_ | refine zO hm ?_ | refine zP hm ?_) | ((with_reducible refine qaar [] hm ?_ ?_ ?_ ?_) <;> (try simp only [zT, puth, Nat.reduceEqDiff, reduceIte, Nat.reduceAdd])) | (with_reducible first | refine za ?_ ?_ | refine zb ?_ ?_ ?_ ?_ | refine zc ?_ ?_ ?_ ?_ | refine zd ?_ ?_ ?_ ?_ | refine qaap ?_ ?_ | refine qaan ?_ ?_) | (with_reducible first | exact qaak | exact qaao | exact qaat | exact qaau | exact Co.refl _ | exact CoL.refl _ | exact CoLL.refl _) | ((with_reducible first | refine zga ?_ | refine zgb ?_); rfl) | ((with_reducible refine zgc ?_); (first | (with_reducible rfl) | rfl | (simp; done))) | ((with_reducible first | refine zgd ?_ | refine zge ?_); (first | omega | (simp; done))) | (refine qaaw ⟨?_, ?_⟩ ?_ <;> omega) | (exact Co.refl _) | (exact CoL.refl _) | (exact CoLL.refl _) | (refine qaaz ?_; omega) | (refine qaay ?_; first | omega | (simp_all; done)) | (with_reducible first | refine qaav ?_ ?_ | refine qaaq ?_ ?_) | ((refine qaax hJ (i + 1) ?_ ?_ ?_; (with_reducible refine qaar [] hm ?_ ?_ ?_ ?_) <;> (try simp only [zT, puth, Nat.reduceEqDiff, reduceIte, Nat.reduceAdd]))) | fail)
  all_goals omega
 ·obtain rfl : i = l.length := by omega
  repeat' (first | (with_reducible first | refine zA ?_ | refine qaac ?_ | refine qaab ?_ | refine zK ?_) | ((with_reducible first | refine qaal ?_ | refine qaah (by rw [hP]; exact qaa4) ?_); (try rw [hP]); simp -implicitDefEqProofs [*]) | ((with_reducible first | refine qaaf ?_ | refine qaag ?_); (try simp -implicitDefEqProofs [*])) | ((with_reducible refine qaam ?_); (try simp only [qaas, qaad, qaaj])) | ((with_reducible refine qaae rfl (fun h => ?_) (fun h => ?_)) <;> have h' := h <;> (try simp at h') <;> (try subst h')) | ((with_reducible refine qaaa (fun h => ?_) (fun h => ?_)) <;> have h' := h <;> (try simp at h') <;> (try subst h') <;> simp -implicitDefEqProofs [*]) | ((with_reducible refine qaai ?_ ?_); (first | omega | (unfold maxLen; omega)); simp -implicitDefEqProofs [*]) | (with_reducible first | refine zM hm ?_ | refine zN hm ?_ | refine zO hm ?_ | refine zP hm ?_) | fail)
  all_goals rfl
theorem qbcd (s : StateD) (hl : s.cases_.length ≤ 1000000) (q : Nat) : SCalls Try.prog 47 [.agg (qacn s), .agg (qacn s), .bool false] [] q (.bool true) [] := by
 refine qabw ?_ (fun _ => rfl) (fun _ => rfl) rfl q
 refine qaba (N := 64) Try.func47 rfl rfl (by kernel_rfl) qajt (by simp) (by repeat' (first | exact trivial | refine And.intro ?_ ?_ | rfl | decide | exact PureR.ren _)) (by repeat' (first | exact trivial | refine And.intro ?_ ?_ | rfl | decide | exact PureR.ren _)) ?_
 rintro X hP hN hm
 unfold c_sstate
 repeat' (first | (with_reducible first | refine zA ?_ | refine qaac ?_ | refine qaab ?_ | refine zK ?_) | ((with_reducible first | refine qaal ?_ | refine qaah (by rw [hP]; exact qaa4) ?_); (try rw [hP]); simp -implicitDefEqProofs [*]) | ((with_reducible first | refine qaaf ?_ | refine qaag ?_); (try simp -implicitDefEqProofs [*])) | ((with_reducible refine qaam ?_); (try simp only [qaas, qaad, qaaj])) | ((with_reducible refine qaae rfl (fun h => ?_) (fun h => ?_)) <;> have h' := h <;> (try simp at h') <;> (try subst h')) | ((with_reducible refine qaaa (fun h => ?_) (fun h => ?_)) <;> have h' := h <;> (try simp at h') <;> (try subst h') <;> simp -implicitDefEqProofs [*]) | ((with_reducible refine qaai ?_ ?_); (first | omega | (unfold maxLen; omega)); simp -implicitDefEqProofs [*]) | (with_reducible first | refine zM hm ?_ | refine zN hm ?_ | refine zO hm ?_ | refine zP hm ?_) | fail)
 refine qaa0 (qabi (fun σ (i : Nat) => σ.turn [(7, .int .i64 i)] []) (fun i => i ≤ s.cases_.length) (fun i => s.cases_.length - i) 0 ?_ (by simp) ?_)
 ·repeat' (first | ((with_reducible refine qaar [] hm ?_ ?_ ?_ ?_) <;> (try simp only [zT, puth, Nat.reduceEqDiff, reduceIte, Nat.reduceAdd])) | (with_reducible first | refine za ?_ ?_ | refine zb ?_ ?_ ?_ ?_ | refine zc ?_ ?_ ?_ ?_ | refine zd ?_ ?_ ?_ ?_ | refine qaap ?_ ?_ | refine qaan ?_ ?_) | (with_reducible first | exact qaak | exact qaao | exact qaat | exact qaau | exact Co.refl _ | exact CoL.refl _ | exact CoLL.refl _) | ((with_reducible first | refine zga ?_ | refine zgb ?_); rfl) | ((with_reducible refine zgc ?_); (first | (with_reducible rfl) | rfl | (simp; done))) | ((with_reducible first | refine zgd ?_ | refine zge ?_); (first | omega | (simp; done))) | (refine qaaw ⟨?_, ?_⟩ ?_ <;> omega) | (exact Co.refl _) | (exact CoL.refl _) | (exact CoLL.refl _) | (refine qaaz ?_; omega) | (refine qaay ?_; first | omega | (simp_all; done)) | (with_reducible first | refine qaav ?_ ?_ | refine qaaq ?_ ?_) | fail)
 rintro J hJ i h1
 unfold qah0
 simp only [zT, puth, Nat.reduceEqDiff, reduceIte, Nat.reduceAdd] at h1 ⊢
 rcases Nat.lt_or_ge i s.cases_.length with hi | hi
 ·have wi : IntKind.i64.wrap ((i : Int) + 1) = (i : Int) + 1 := qaa2 (by omega) (by omega)
  generalize hxx : s.cases_[i] = x
  repeat' (first | (with_reducible first | refine zA ?_ | refine qaac ?_ | refine qaab ?_ | refine zK ?_) | ((with_reducible first | refine qaal ?_ | refine qaah (by rw [hP]; exact qaa4) ?_); (try rw [hP]); simp -implicitDefEqProofs [*]) | ((with_reducible first | refine qaaf ?_ | refine qaag ?_); (try simp -implicitDefEqProofs [*])) | ((with_reducible refine qaam ?_); (try simp only [qaas, qaad, qaaj])) | ((with_reducible refine qaae rfl (fun h => ?_) (fun h => ?_)) <;> have h' := h <;> (try simp at h') <;> (try subst h')) | ((with_reducible refine qaaa (fun h => ?_) (fun h => ?_)) <;> have h' := h <;> (try simp at h') <;> (try subst h') <;> simp -implicitDefEqProofs [*]) | ((with_reducible refine qaai ?_ ?_); (first | omega | (unfold maxLen; omega)); simp -implicitDefEqProofs [*]) | (with_reducible first | refine zM hm ?_ | refine zN hm ?_ | refine zO hm ?_ | refine zP hm ?_) | ((with_reducible refine qaar [] hm ?_ ?_ ?_ ?_) <;> (try simp only [zT, puth, Nat.reduceEqDiff, reduceIte, Nat.reduceAdd])) | (with_reducible first | refine za ?_ ?_ | refine zb ?_ ?_ ?_ ?_ | refine zc ?_ ?_ ?_ ?_ | refine zd ?_ ?_ ?_ ?_ | refine qaap ?_ ?_ | refine qaan ?_ ?_) | (with_reducible first | exact qaak | exact qaao | exact qaat | exact qaau | exact Co.refl _ | exact CoL.refl _ | exact CoLL.refl _) | ((with_reducible first | refine zga ?_ | refine zgb ?_); rfl) | ((with_reducible refine zgc ?_); (first | (with_reducible rfl) | rfl | (simp; done))) | ((with_reducible first | refine zgd ?_ | refine zge ?_); (first | omega | (simp; done))) | (refine qaaw ⟨?_, ?_⟩ ?_ <;> omega) | (exact Co.refl _) | (exact CoL.refl _) | (exact CoLL.refl _) | (refine qaaz ?_; omega) | (refine qaay ?_; first | omega | (simp_all; done)) | (with_reducible first | refine qaav ?_ ?_ | refine qaaq ?_ ?_) | ((refine qaax hJ (i + 1) ?_ ?_ ?_; (with_reducible refine qaar [] hm ?_ ?_ ?_ ?_) <;> (try simp only [zT, puth, Nat.reduceEqDiff, reduceIte, Nat.reduceAdd]))) | fail)
  all_goals omega
 ·obtain rfl : i = s.cases_.length := by omega
  repeat' (first | (with_reducible first | refine zA ?_ | refine qaac ?_ | refine qaab ?_ | refine zK ?_) | ((with_reducible first | refine qaal ?_ | refine qaah (by rw [hP]; exact qaa4) ?_); (try rw [hP]); simp -implicitDefEqProofs [*]) | ((with_reducible first | refine qaaf ?_ | refine qaag ?_); (try simp -implicitDefEqProofs [*])) | ((with_reducible refine qaam ?_); (try simp only [qaas, qaad, qaaj])) | ((with_reducible refine qaae rfl (fun h => ?_) (fun h => ?_)) <;> have h' := h <;> (try simp at h') <;> (try subst h')) | ((with_reducible refine qaaa (fun h => ?_) (fun h => ?_)) <;> have h' := h <;> (try simp at h') <;> (try subst h') <;> simp -implicitDefEqProofs [*]) | ((with_reducible refine qaai ?_ ?_); (first | omega | (unfold maxLen; omega)); simp -implicitDefEqProofs [*]) | (with_reducible first | refine zM hm ?_ | refine zN hm ?_ | refine zO hm ?_ | refine zP hm ?_) | fail)
  all_goals rfl
theorem sop_s (o : OpD) (hl : o.e.length ≤ 1000000) (q : Nat) : SCalls Try.prog 48 [.agg (opc o), .agg (opc o), .bool false] [] q (.bool true) [] := by
 refine qabw ?_ (fun _ => rfl) (fun _ => rfl) rfl q
 refine qaba (N := 90) Try.func48 rfl rfl (by kernel_rfl) qa2d (by simp) (by repeat' (first | exact trivial | refine And.intro ?_ ?_ | rfl | decide | exact PureR.ren _)) (by repeat' (first | exact trivial | refine And.intro ?_ ?_ | rfl | decide | exact PureR.ren _)) ?_
 rintro X hP hN hm
 unfold c_sop
 repeat' (first | (with_reducible first | refine zA ?_ | refine qaac ?_ | refine qaab ?_ | refine zK ?_) | ((with_reducible first | refine qaal ?_ | refine qaah (by rw [hP]; exact qaa4) ?_); (try rw [hP]); simp -implicitDefEqProofs [*]) | ((with_reducible first | refine qaaf ?_ | refine qaag ?_); (try simp -implicitDefEqProofs [*])) | ((with_reducible refine qaam ?_); (try simp only [qaas, qaad, qaaj])) | ((with_reducible refine qaae rfl (fun h => ?_) (fun h => ?_)) <;> have h' := h <;> (try simp at h') <;> (try subst h')) | ((with_reducible refine qaaa (fun h => ?_) (fun h => ?_)) <;> have h' := h <;> (try simp at h') <;> (try subst h') <;> simp -implicitDefEqProofs [*]) | ((with_reducible refine qaai ?_ ?_); (first | omega | (unfold maxLen; omega)); simp -implicitDefEqProofs [*]) | (refine qabd (qbbh o.e hl _) ?_; simp -implicitDefEqProofs [*]) | (with_reducible first | refine zM hm ?_ | refine zN hm ?_ | refine zO hm ?_ | refine zP hm ?_) | fail)
 all_goals rfl
theorem snode_s (o : NodeD) (hl : o.e.length ≤ 1000000) (q : Nat) : SCalls Try.prog 50 [.agg (qaeg o), .agg (qaeg o), .bool false] [] q (.bool true) [] := by
 refine qabw ?_ (fun _ => rfl) (fun _ => rfl) rfl q
 refine qaba (N := 82) Try.func50 rfl rfl (by kernel_rfl) qamj (by simp) (by repeat' (first | exact trivial | refine And.intro ?_ ?_ | rfl | decide | exact PureR.ren _)) (by repeat' (first | exact trivial | refine And.intro ?_ ?_ | rfl | decide | exact PureR.ren _)) ?_
 rintro X hP hN hm
 unfold c_snode
 repeat' (first | (with_reducible first | refine zA ?_ | refine qaac ?_ | refine qaab ?_ | refine zK ?_) | ((with_reducible first | refine qaal ?_ | refine qaah (by rw [hP]; exact qaa4) ?_); (try rw [hP]); simp -implicitDefEqProofs [*]) | ((with_reducible first | refine qaaf ?_ | refine qaag ?_); (try simp -implicitDefEqProofs [*])) | ((with_reducible refine qaam ?_); (try simp only [qaas, qaad, qaaj])) | ((with_reducible refine qaae rfl (fun h => ?_) (fun h => ?_)) <;> have h' := h <;> (try simp at h') <;> (try subst h')) | ((with_reducible refine qaaa (fun h => ?_) (fun h => ?_)) <;> have h' := h <;> (try simp at h') <;> (try subst h') <;> simp -implicitDefEqProofs [*]) | ((with_reducible refine qaai ?_ ?_); (first | omega | (unfold maxLen; omega)); simp -implicitDefEqProofs [*]) | (refine qabd (qbbh o.e hl _) ?_; simp -implicitDefEqProofs [*]) | (with_reducible first | refine zM hm ?_ | refine zN hm ?_ | refine zO hm ?_ | refine zP hm ?_) | fail)
 all_goals rfl
theorem qbcc (t : TabD) (h1 : t.keys.length ≤ 1000000) (h2 : t.acts.length ≤ 1000000) (h3 : t.args.length ≤ 1000000) (q : Nat) : SCalls Try.prog 49 [.agg (tabc t), .agg (tabc t)] [] q (.bool true) [] := by
 refine qabw ?_ (fun _ => rfl) (fun _ => rfl) rfl q
 refine qaba (N := 64) Try.func49 rfl rfl (by kernel_rfl) qajs (by simp) (by repeat' (first | exact trivial | refine And.intro ?_ ?_ | rfl | decide | exact PureR.ren _)) (by repeat' (first | exact trivial | refine And.intro ?_ ?_ | rfl | decide | exact PureR.ren _)) ?_
 rintro X hP hN hm
 unfold c_stable
 repeat' (first | (with_reducible first | refine zA ?_ | refine qaac ?_ | refine qaab ?_ | refine zK ?_) | ((with_reducible first | refine qaal ?_ | refine qaah (by rw [hP]; exact qaa4) ?_); (try rw [hP]); simp -implicitDefEqProofs [*]) | ((with_reducible first | refine qaaf ?_ | refine qaag ?_); (try simp -implicitDefEqProofs [*])) | ((with_reducible refine qaam ?_); (try simp only [qaas, qaad, qaaj])) | ((with_reducible refine qaae rfl (fun h => ?_) (fun h => ?_)) <;> have h' := h <;> (try simp at h') <;> (try subst h')) | ((with_reducible refine qaaa (fun h => ?_) (fun h => ?_)) <;> have h' := h <;> (try simp at h') <;> (try subst h') <;> simp -implicitDefEqProofs [*]) | ((with_reducible refine qaai ?_ ?_); (first | omega | (unfold maxLen; omega)); simp -implicitDefEqProofs [*]) | (with_reducible first | refine zM hm ?_ | refine zN hm ?_ | refine zO hm ?_ | refine zP hm ?_) | fail)
 refine qaa0 (qabi (fun s (i : Nat) => s.turn [(5, .int .i64 i)] []) (fun i => i ≤ t.keys.length) (fun i => t.keys.length - i) 0 ?_ (by simp) ?_)
 ·repeat' (first | ((with_reducible refine qaar [] hm ?_ ?_ ?_ ?_) <;> (try simp only [zT, puth, Nat.reduceEqDiff, reduceIte, Nat.reduceAdd])) | (with_reducible first | refine za ?_ ?_ | refine zb ?_ ?_ ?_ ?_ | refine zc ?_ ?_ ?_ ?_ | refine zd ?_ ?_ ?_ ?_ | refine qaap ?_ ?_ | refine qaan ?_ ?_) | (with_reducible first | exact qaak | exact qaao | exact qaat | exact qaau | exact Co.refl _ | exact CoL.refl _ | exact CoLL.refl _) | ((with_reducible first | refine zga ?_ | refine zgb ?_); rfl) | ((with_reducible refine zgc ?_); (first | (with_reducible rfl) | rfl | (simp; done))) | ((with_reducible first | refine zgd ?_ | refine zge ?_); (first | omega | (simp; done))) | (refine qaaw ⟨?_, ?_⟩ ?_ <;> omega) | (exact Co.refl _) | (exact CoL.refl _) | (exact CoLL.refl _) | (refine qaaz ?_; omega) | (refine qaay ?_; first | omega | (simp_all; done)) | (with_reducible first | refine qaav ?_ ?_ | refine qaaq ?_ ?_) | fail)
 rintro J hJ i h1
 unfold qahz
 simp only [zT, puth, Nat.reduceEqDiff, reduceIte, Nat.reduceAdd] at h1 ⊢
 rcases Nat.lt_or_ge i t.keys.length with hi | hi
 ·have wi : IntKind.i64.wrap ((i : Int) + 1) = (i : Int) + 1 := qaa2 (by omega) (by omega)
  generalize hxx : t.keys[i] = x
  repeat' (first | (with_reducible first | refine zA ?_ | refine qaac ?_ | refine qaab ?_ | refine zK ?_) | ((with_reducible first | refine qaal ?_ | refine qaah (by rw [hP]; exact qaa4) ?_); (try rw [hP]); simp -implicitDefEqProofs [*]) | ((with_reducible first | refine qaaf ?_ | refine qaag ?_); (try simp -implicitDefEqProofs [*])) | ((with_reducible refine qaam ?_); (try simp only [qaas, qaad, qaaj])) | ((with_reducible refine qaae rfl (fun h => ?_) (fun h => ?_)) <;> have h' := h <;> (try simp at h') <;> (try subst h')) | ((with_reducible refine qaaa (fun h => ?_) (fun h => ?_)) <;> have h' := h <;> (try simp at h') <;> (try subst h') <;> simp -implicitDefEqProofs [*]) | ((with_reducible refine qaai ?_ ?_); (first | omega | (unfold maxLen; omega)); simp -implicitDefEqProofs [*]) | (with_reducible first | refine zM hm ?_ | refine zN hm ?_ | refine zO hm ?_ | refine zP hm ?_) | ((with_reducible refine qaar [] hm ?_ ?_ ?_ ?_) <;> (try simp only [zT, puth, Nat.reduceEqDiff, reduceIte, Nat.reduceAdd])) | (with_reducible first | refine za ?_ ?_ | refine zb ?_ ?_ ?_ ?_ | refine zc ?_ ?_ ?_ ?_ | refine zd ?_ ?_ ?_ ?_ | refine qaap ?_ ?_ | refine qaan ?_ ?_) | (with_reducible first | exact qaak | exact qaao | exact qaat | exact qaau | exact Co.refl _ | exact CoL.refl _ | exact CoLL.refl _) | ((with_reducible first | refine zga ?_ | refine zgb ?_); rfl) | ((with_reducible refine zgc ?_); (first | (with_reducible rfl) | rfl | (simp; done))) | ((with_reducible first | refine zgd ?_ | refine zge ?_); (first | omega | (simp; done))) | (refine qaaw ⟨?_, ?_⟩ ?_ <;> omega) | (exact Co.refl _) | (exact CoL.refl _) | (exact CoLL.refl _) | (refine qaaz ?_; omega) | (refine qaay ?_; first | omega | (simp_all; done)) | (with_reducible first | refine qaav ?_ ?_ | refine qaaq ?_ ?_) | ((refine qaax hJ (i + 1) ?_ ?_ ?_; (with_reducible refine qaar [] hm ?_ ?_ ?_ ?_) <;> (try simp only [zT, puth, Nat.reduceEqDiff, reduceIte, Nat.reduceAdd]))) | fail)
  all_goals omega
 ·obtain rfl : i = t.keys.length := by omega
  repeat' (first | (with_reducible first | refine zA ?_ | refine qaac ?_ | refine qaab ?_ | refine zK ?_) | ((with_reducible first | refine qaal ?_ | refine qaah (by rw [hP]; exact qaa4) ?_); (try rw [hP]); simp -implicitDefEqProofs [*]) | ((with_reducible first | refine qaaf ?_ | refine qaag ?_); (try simp -implicitDefEqProofs [*])) | ((with_reducible refine qaam ?_); (try simp only [qaas, qaad, qaaj])) | ((with_reducible refine qaae rfl (fun h => ?_) (fun h => ?_)) <;> have h' := h <;> (try simp at h') <;> (try subst h')) | ((with_reducible refine qaaa (fun h => ?_) (fun h => ?_)) <;> have h' := h <;> (try simp at h') <;> (try subst h') <;> simp -implicitDefEqProofs [*]) | ((with_reducible refine qaai ?_ ?_); (first | omega | (unfold maxLen; omega)); simp -implicitDefEqProofs [*]) | ((first | refine qabd (qai4 t.acts h2 _) ?_ | refine qabd (qbce t.args h3 _) ?_); simp -implicitDefEqProofs [*]) | (with_reducible first | refine zM hm ?_ | refine zN hm ?_ | refine zO hm ?_ | refine zP hm ?_) | fail)
  all_goals rfl
set_option maxHeartbeats 4000000 in
theorem splan_s (p : PlanD) (hs : SmallP p) (q : Nat) : SCalls Try.prog 19 [.agg (qac1 p), .agg (qac1 p), .bool false] [] q (.bool true) [] := by
 refine qabw ?_ (fun _ => rfl) (fun _ => rfl) rfl q
 refine qaba (N := 206) Try.func19 rfl rfl (by kernel_rfl) qamh (by simp) (by repeat' (first | exact trivial | refine And.intro ?_ ?_ | rfl | decide | exact PureR.ren _)) (by repeat' (first | exact trivial | refine And.intro ?_ ?_ | rfl | decide | exact PureR.ren _)) ?_
 rintro X hP hN hm
 have hl1 := hs.heads
 have hl2 := hs.metas
 have hl3 := hs.states
 have hl4 := hs.acts
 have hl5 := hs.tabs
 have hl6 := hs.nodes
 have hl7 := hs.outs
 unfold c_splan
 repeat' (first | (with_reducible first | refine zA ?_ | refine qaac ?_ | refine qaab ?_ | refine zK ?_) | ((with_reducible first | refine qaal ?_ | refine qaah (by rw [hP]; exact qaa4) ?_); (try rw [hP]); simp -implicitDefEqProofs [*]) | ((with_reducible first | refine qaaf ?_ | refine qaag ?_); (try simp -implicitDefEqProofs [*])) | ((with_reducible refine qaam ?_); (try simp only [qaas, qaad, qaaj])) | ((with_reducible refine qaae rfl (fun h => ?_) (fun h => ?_)) <;> have h' := h <;> (try simp at h') <;> (try subst h')) | ((with_reducible refine qaaa (fun h => ?_) (fun h => ?_)) <;> have h' := h <;> (try simp at h') <;> (try subst h') <;> simp -implicitDefEqProofs [*]) | ((with_reducible refine qaai ?_ ?_); (first | omega | (unfold maxLen; omega)); simp -implicitDefEqProofs [*]) | ((first | refine qabd (qai4 p.meta_ (by omega) _) ?_ | refine qabd (qai4 p.out (by omega) _) ?_); simp -implicitDefEqProofs [*]) | (with_reducible first | refine zM hm ?_ | refine zN hm ?_ | refine zO hm ?_ | refine zP hm ?_) | fail)
 refine qaa0 (qabi (fun s (i : Nat) => s.turn [(7, .int .i64 i)] []) (fun i => i ≤ p.heads.length) (fun i => p.heads.length - i) 0 ?_ (by simp) ?_)
 ·repeat' (first | ((with_reducible refine qaar [] hm ?_ ?_ ?_ ?_) <;> (try simp only [zT, puth, Nat.reduceEqDiff, reduceIte, Nat.reduceAdd])) | (with_reducible first | refine za ?_ ?_ | refine zb ?_ ?_ ?_ ?_ | refine zc ?_ ?_ ?_ ?_ | refine zd ?_ ?_ ?_ ?_ | refine qaap ?_ ?_ | refine qaan ?_ ?_) | (with_reducible first | exact qaak | exact qaao | exact qaat | exact qaau | exact Co.refl _ | exact CoL.refl _ | exact CoLL.refl _) | ((with_reducible first | refine zga ?_ | refine zgb ?_); rfl) | ((with_reducible refine zgc ?_); (first | (with_reducible rfl) | rfl | (simp; done))) | ((with_reducible first | refine zgd ?_ | refine zge ?_); (first | omega | (simp; done))) | (refine qaaw ⟨?_, ?_⟩ ?_ <;> omega) | (exact Co.refl _) | (exact CoL.refl _) | (exact CoLL.refl _) | (refine qaaz ?_; omega) | (refine qaay ?_; first | omega | (simp_all; done)) | (with_reducible first | refine qaav ?_ ?_ | refine qaaq ?_ ?_) | fail)
 rintro J hJ i h1
 unfold qakd
 simp only [zT, puth, Nat.reduceEqDiff, reduceIte, Nat.reduceAdd] at h1 ⊢
 rcases Nat.lt_or_ge i p.heads.length with hi | hi
 ·have wi : IntKind.i64.wrap ((i : Int) + 1) = (i : Int) + 1 := qaa2 (by omega) (by omega)
  have hc := fun q => qai4 p.heads[i].w (by have := hs.headW _ (List.getElem_mem hi); omega) q
  replace hc := Lib.hid hc
  generalize hxx : p.heads[i] = x at hc
  repeat' (first | (with_reducible first | refine zA ?_ | refine qaac ?_ | refine qaab ?_ | refine zK ?_) | ((with_reducible first | refine qaal ?_ | refine qaah (by rw [hP]; exact qaa4) ?_); (try rw [hP]); simp -implicitDefEqProofs [*]) | ((with_reducible first | refine qaaf ?_ | refine qaag ?_); (try simp -implicitDefEqProofs [*])) | ((with_reducible refine qaam ?_); (try simp only [qaas, qaad, qaaj])) | ((with_reducible refine qaae rfl (fun h => ?_) (fun h => ?_)) <;> have h' := h <;> (try simp at h') <;> (try subst h')) | ((with_reducible refine qaaa (fun h => ?_) (fun h => ?_)) <;> have h' := h <;> (try simp at h') <;> (try subst h') <;> simp -implicitDefEqProofs [*]) | ((with_reducible refine qaai ?_ ?_); (first | omega | (unfold maxLen; omega)); simp -implicitDefEqProofs [*]) | (refine qabd (hc.out _) ?_; simp -implicitDefEqProofs [*]) | (with_reducible first | refine zM hm ?_ | refine zN hm ?_ | refine zO hm ?_ | refine zP hm ?_) | ((with_reducible refine qaar [] hm ?_ ?_ ?_ ?_) <;> (try simp only [zT, puth, Nat.reduceEqDiff, reduceIte, Nat.reduceAdd])) | (with_reducible first | refine za ?_ ?_ | refine zb ?_ ?_ ?_ ?_ | refine zc ?_ ?_ ?_ ?_ | refine zd ?_ ?_ ?_ ?_ | refine qaap ?_ ?_ | refine qaan ?_ ?_) | (with_reducible first | exact qaak | exact qaao | exact qaat | exact qaau | exact Co.refl _ | exact CoL.refl _ | exact CoLL.refl _) | ((with_reducible first | refine zga ?_ | refine zgb ?_); rfl) | ((with_reducible refine zgc ?_); (first | (with_reducible rfl) | rfl | (simp; done))) | ((with_reducible first | refine zgd ?_ | refine zge ?_); (first | omega | (simp; done))) | (refine qaaw ⟨?_, ?_⟩ ?_ <;> omega) | (exact Co.refl _) | (exact CoL.refl _) | (exact CoLL.refl _) | (refine qaaz ?_; omega) | (refine qaay ?_; first | omega | (simp_all; done)) | (with_reducible first | refine qaav ?_ ?_ | refine qaaq ?_ ?_) | ((refine qaax hJ (i + 1) ?_ ?_ ?_; (with_reducible refine qaar [] hm ?_ ?_ ?_ ?_) <;> (try simp only [zT, puth, Nat.reduceEqDiff, reduceIte, Nat.reduceAdd]))) | fail)
  all_goals omega
 ·obtain rfl : i = p.heads.length := by omega
  clear hJ h1 hi
  repeat' (first | (with_reducible first | refine zA ?_ | refine qaac ?_ | refine qaab ?_ | refine zK ?_) | ((with_reducible first | refine qaal ?_ | refine qaah (by rw [hP]; exact qaa4) ?_); (try rw [hP]); simp -implicitDefEqProofs [*]) | ((with_reducible first | refine qaaf ?_ | refine qaag ?_); (try simp -implicitDefEqProofs [*])) | ((with_reducible refine qaam ?_); (try simp only [qaas, qaad, qaaj])) | ((with_reducible refine qaae rfl (fun h => ?_) (fun h => ?_)) <;> have h' := h <;> (try simp at h') <;> (try subst h')) | ((with_reducible refine qaaa (fun h => ?_) (fun h => ?_)) <;> have h' := h <;> (try simp at h') <;> (try subst h') <;> simp -implicitDefEqProofs [*]) | ((with_reducible refine qaai ?_ ?_); (first | omega | (unfold maxLen; omega)); simp -implicitDefEqProofs [*]) | (with_reducible first | refine zM hm ?_ | refine zN hm ?_ | refine zO hm ?_ | refine zP hm ?_) | fail)
  refine qaa0 (qabi (fun s (i : Nat) => s.turn [(8, .int .i64 i)] []) (fun i => i ≤ p.states.length) (fun i => p.states.length - i) 0 ?_ (by simp) ?_)
  ·repeat' (first | ((with_reducible refine qaar [] hm ?_ ?_ ?_ ?_) <;> (try simp only [zT, puth, Nat.reduceEqDiff, reduceIte, Nat.reduceAdd])) | (with_reducible first | refine za ?_ ?_ | refine zb ?_ ?_ ?_ ?_ | refine zc ?_ ?_ ?_ ?_ | refine zd ?_ ?_ ?_ ?_ | refine qaap ?_ ?_ | refine qaan ?_ ?_) | (with_reducible first | exact qaak | exact qaao | exact qaat | exact qaau | exact Co.refl _ | exact CoL.refl _ | exact CoLL.refl _) | ((with_reducible first | refine zga ?_ | refine zgb ?_); rfl) | ((with_reducible refine zgc ?_); (first | (with_reducible rfl) | rfl | (simp; done))) | ((with_reducible first | refine zgd ?_ | refine zge ?_); (first | omega | (simp; done))) | (refine qaaw ⟨?_, ?_⟩ ?_ <;> omega) | (exact Co.refl _) | (exact CoL.refl _) | (exact CoLL.refl _) | (refine qaaz ?_; omega) | (refine qaay ?_; first | omega | (simp_all; done)) | (with_reducible first | refine qaav ?_ ?_ | refine qaaq ?_ ?_) | fail)
  rintro J hJ i h1
  unfold qakc
  simp only [zT, puth, Nat.reduceEqDiff, reduceIte, Nat.reduceAdd] at h1 ⊢
  rcases Nat.lt_or_ge i p.states.length with hi | hi
  ·have wi : IntKind.i64.wrap ((i : Int) + 1) = (i : Int) + 1 := qaa2 (by omega) (by omega)
   have hc := fun q => qbcd p.states[i] (by have := hs.cases_ _ (List.getElem_mem hi); omega) q
   replace hc := Lib.hid hc
   generalize hxx : p.states[i] = x at hc
   repeat' (first | (with_reducible first | refine zA ?_ | refine qaac ?_ | refine qaab ?_ | refine zK ?_) | ((with_reducible first | refine qaal ?_ | refine qaah (by rw [hP]; exact qaa4) ?_); (try rw [hP]); simp -implicitDefEqProofs [*]) | ((with_reducible first | refine qaaf ?_ | refine qaag ?_); (try simp -implicitDefEqProofs [*])) | ((with_reducible refine qaam ?_); (try simp only [qaas, qaad, qaaj])) | ((with_reducible refine qaae rfl (fun h => ?_) (fun h => ?_)) <;> have h' := h <;> (try simp at h') <;> (try subst h')) | ((with_reducible refine qaaa (fun h => ?_) (fun h => ?_)) <;> have h' := h <;> (try simp at h') <;> (try subst h') <;> simp -implicitDefEqProofs [*]) | ((with_reducible refine qaai ?_ ?_); (first | omega | (unfold maxLen; omega)); simp -implicitDefEqProofs [*]) | (refine qabd (hc.out _) ?_; simp -implicitDefEqProofs [*]) | (with_reducible first | refine zM hm ?_ | refine zN hm ?_ | refine zO hm ?_ | refine zP hm ?_) | ((with_reducible refine qaar [] hm ?_ ?_ ?_ ?_) <;> (try simp only [zT, puth, Nat.reduceEqDiff, reduceIte, Nat.reduceAdd])) | (with_reducible first | refine za ?_ ?_ | refine zb ?_ ?_ ?_ ?_ | refine zc ?_ ?_ ?_ ?_ | refine zd ?_ ?_ ?_ ?_ | refine qaap ?_ ?_ | refine qaan ?_ ?_) | (with_reducible first | exact qaak | exact qaao | exact qaat | exact qaau | exact Co.refl _ | exact CoL.refl _ | exact CoLL.refl _) | ((with_reducible first | refine zga ?_ | refine zgb ?_); rfl) | ((with_reducible refine zgc ?_); (first | (with_reducible rfl) | rfl | (simp; done))) | ((with_reducible first | refine zgd ?_ | refine zge ?_); (first | omega | (simp; done))) | (refine qaaw ⟨?_, ?_⟩ ?_ <;> omega) | (exact Co.refl _) | (exact CoL.refl _) | (exact CoLL.refl _) | (refine qaaz ?_; omega) | (refine qaay ?_; first | omega | (simp_all; done)) | (with_reducible first | refine qaav ?_ ?_ | refine qaaq ?_ ?_) | ((refine qaax hJ (i + 1) ?_ ?_ ?_; (with_reducible refine qaar [] hm ?_ ?_ ?_ ?_) <;> (try simp only [zT, puth, Nat.reduceEqDiff, reduceIte, Nat.reduceAdd]))) | fail)
   all_goals omega
  ·obtain rfl : i = p.states.length := by omega
   clear hJ h1 hi
   repeat' (first | (with_reducible first | refine zA ?_ | refine qaac ?_ | refine qaab ?_ | refine zK ?_) | ((with_reducible first | refine qaal ?_ | refine qaah (by rw [hP]; exact qaa4) ?_); (try rw [hP]); simp -implicitDefEqProofs [*]) | ((with_reducible first | refine qaaf ?_ | refine qaag ?_); (try simp -implicitDefEqProofs [*])) | ((with_reducible refine qaam ?_); (try simp only [qaas, qaad, qaaj])) | ((with_reducible refine qaae rfl (fun h => ?_) (fun h => ?_)) <;> have h' := h <;> (try simp at h') <;> (try subst h')) | ((with_reducible refine qaaa (fun h => ?_) (fun h => ?_)) <;> have h' := h <;> (try simp at h') <;> (try subst h') <;> simp -implicitDefEqProofs [*]) | ((with_reducible refine qaai ?_ ?_); (first | omega | (unfold maxLen; omega)); simp -implicitDefEqProofs [*]) | (with_reducible first | refine zM hm ?_ | refine zN hm ?_ | refine zO hm ?_ | refine zP hm ?_) | fail)
   refine qaa0 (qabi (fun s (i : Nat) => s.turn [(9, .int .i64 i)] []) (fun i => i ≤ p.acts.length) (fun i => p.acts.length - i) 0 ?_ (by simp) ?_)
   ·repeat' (first | ((with_reducible refine qaar [] hm ?_ ?_ ?_ ?_) <;> (try simp only [zT, puth, Nat.reduceEqDiff, reduceIte, Nat.reduceAdd])) | (with_reducible first | refine za ?_ ?_ | refine zb ?_ ?_ ?_ ?_ | refine zc ?_ ?_ ?_ ?_ | refine zd ?_ ?_ ?_ ?_ | refine qaap ?_ ?_ | refine qaan ?_ ?_) | (with_reducible first | exact qaak | exact qaao | exact qaat | exact qaau | exact Co.refl _ | exact CoL.refl _ | exact CoLL.refl _) | ((with_reducible first | refine zga ?_ | refine zgb ?_); rfl) | ((with_reducible refine zgc ?_); (first | (with_reducible rfl) | rfl | (simp; done))) | ((with_reducible first | refine zgd ?_ | refine zge ?_); (first | omega | (simp; done))) | (refine qaaw ⟨?_, ?_⟩ ?_ <;> omega) | (exact Co.refl _) | (exact CoL.refl _) | (exact CoLL.refl _) | (refine qaaz ?_; omega) | (refine qaay ?_; first | omega | (simp_all; done)) | (with_reducible first | refine qaav ?_ ?_ | refine qaaq ?_ ?_) | fail)
   rintro J hJ i h1
   have hJo := hJ
   unfold qaka
   simp only [zT, puth, Nat.reduceEqDiff, reduceIte, Nat.reduceAdd] at h1 ⊢
   rcases Nat.lt_or_ge i p.acts.length with hi | hi
   ·have wi : IntKind.i64.wrap ((i : Int) + 1) = (i : Int) + 1 := qaa2 (by omega) (by omega)
    have hc := fun q => qai4 p.acts[i].w (by have := hs.actW _ (List.getElem_mem hi); omega) q
    have hol := hs.ops _ (List.getElem_mem hi)
    have htl := hs.tree _ (List.getElem_mem hi)
    replace hc := Lib.hid hc
    generalize hxx : p.acts[i] = x at hc hol htl
    replace htl := Lib.hid htl
    repeat' (first | (with_reducible first | refine zA ?_ | refine qaac ?_ | refine qaab ?_ | refine zK ?_) | ((with_reducible first | refine qaal ?_ | refine qaah (by rw [hP]; exact qaa4) ?_); (try rw [hP]); simp -implicitDefEqProofs [*]) | ((with_reducible first | refine qaaf ?_ | refine qaag ?_); (try simp -implicitDefEqProofs [*])) | ((with_reducible refine qaam ?_); (try simp only [qaas, qaad, qaaj])) | ((with_reducible refine qaae rfl (fun h => ?_) (fun h => ?_)) <;> have h' := h <;> (try simp at h') <;> (try subst h')) | ((with_reducible refine qaaa (fun h => ?_) (fun h => ?_)) <;> have h' := h <;> (try simp at h') <;> (try subst h') <;> simp -implicitDefEqProofs [*]) | ((with_reducible refine qaai ?_ ?_); (first | omega | (unfold maxLen; omega)); simp -implicitDefEqProofs [*]) | (refine qabd (hc.out _) ?_; simp -implicitDefEqProofs [*]) | (with_reducible first | refine zM hm ?_ | refine zN hm ?_ | refine zO hm ?_ | refine zP hm ?_) | fail)
    refine qaa0 (qabi (fun s (k : Nat) => s.turn [(12, .int .i64 k)] []) (fun k => k ≤ x.ops.length) (fun k => x.ops.length - k) 0 ?_ (by simp) ?_)
    ·repeat' (first | ((with_reducible refine qaar [] hm ?_ ?_ ?_ ?_) <;> (try simp only [zT, puth, Nat.reduceEqDiff, reduceIte, Nat.reduceAdd])) | (with_reducible first | refine za ?_ ?_ | refine zb ?_ ?_ ?_ ?_ | refine zc ?_ ?_ ?_ ?_ | refine zd ?_ ?_ ?_ ?_ | refine qaap ?_ ?_ | refine qaan ?_ ?_) | (with_reducible first | exact qaak | exact qaao | exact qaat | exact qaau | exact Co.refl _ | exact CoL.refl _ | exact CoLL.refl _) | ((with_reducible first | refine zga ?_ | refine zgb ?_); rfl) | ((with_reducible refine zgc ?_); (first | (with_reducible rfl) | rfl | (simp; done))) | ((with_reducible first | refine zgd ?_ | refine zge ?_); (first | omega | (simp; done))) | (refine qaaw ⟨?_, ?_⟩ ?_ <;> omega) | (exact Co.refl _) | (exact CoL.refl _) | (exact CoLL.refl _) | (refine qaaz ?_; omega) | (refine qaay ?_; first | omega | (simp_all; done)) | (with_reducible first | refine qaav ?_ ?_ | refine qaaq ?_ ?_) | fail)
    rintro J hJ k h2
    unfold qakb
    simp only [zT, puth, Nat.reduceEqDiff, reduceIte, Nat.reduceAdd] at h2 ⊢
    rcases Nat.lt_or_ge k x.ops.length with hk | hk
    ·have wj : IntKind.i64.wrap ((k : Int) + 1) = (k : Int) + 1 := qaa2 (by omega) (by omega)
     have hc2 := fun q => sop_s x.ops[k] (by have := htl.out _ (List.getElem_mem hk); omega) q
     replace hc2 := Lib.hid hc2
     generalize hyy : x.ops[k] = y at hc2
     repeat' (first | (with_reducible first | refine zA ?_ | refine qaac ?_ | refine qaab ?_ | refine zK ?_) | ((with_reducible first | refine qaal ?_ | refine qaah (by rw [hP]; exact qaa4) ?_); (try rw [hP]); simp -implicitDefEqProofs [*]) | ((with_reducible first | refine qaaf ?_ | refine qaag ?_); (try simp -implicitDefEqProofs [*])) | ((with_reducible refine qaam ?_); (try simp only [qaas, qaad, qaaj])) | ((with_reducible refine qaae rfl (fun h => ?_) (fun h => ?_)) <;> have h' := h <;> (try simp at h') <;> (try subst h')) | ((with_reducible refine qaaa (fun h => ?_) (fun h => ?_)) <;> have h' := h <;> (try simp at h') <;> (try subst h') <;> simp -implicitDefEqProofs [*]) | ((with_reducible refine qaai ?_ ?_); (first | omega | (unfold maxLen; omega)); simp -implicitDefEqProofs [*]) | (refine qabd (hc2.out _) ?_; simp -implicitDefEqProofs [*]) | (with_reducible first | refine zM hm ?_ | refine zN hm ?_ | refine zO hm ?_ | refine zP hm ?_) | ((with_reducible refine qaar [] hm ?_ ?_ ?_ ?_) <;> (try simp only [zT, puth, Nat.reduceEqDiff, reduceIte, Nat.reduceAdd])) | (with_reducible first | refine za ?_ ?_ | refine zb ?_ ?_ ?_ ?_ | refine zc ?_ ?_ ?_ ?_ | refine zd ?_ ?_ ?_ ?_ | refine qaap ?_ ?_ | refine qaan ?_ ?_) | (with_reducible first | exact qaak | exact qaao | exact qaat | exact qaau | exact Co.refl _ | exact CoL.refl _ | exact CoLL.refl _) | ((with_reducible first | refine zga ?_ | refine zgb ?_); rfl) | ((with_reducible refine zgc ?_); (first | (with_reducible rfl) | rfl | (simp; done))) | ((with_reducible first | refine zgd ?_ | refine zge ?_); (first | omega | (simp; done))) | (refine qaaw ⟨?_, ?_⟩ ?_ <;> omega) | (exact Co.refl _) | (exact CoL.refl _) | (exact CoLL.refl _) | (refine qaaz ?_; omega) | (refine qaay ?_; first | omega | (simp_all; done)) | (with_reducible first | refine qaav ?_ ?_ | refine qaaq ?_ ?_) | ((refine qaax hJ (k + 1) ?_ ?_ ?_; (with_reducible refine qaar [] hm ?_ ?_ ?_ ?_) <;> (try simp only [zT, puth, Nat.reduceEqDiff, reduceIte, Nat.reduceAdd]))) | fail)
     all_goals omega
    ·obtain rfl : k = x.ops.length := by omega
     repeat' (first | (with_reducible first | refine zA ?_ | refine qaac ?_ | refine qaab ?_ | refine zK ?_) | ((with_reducible first | refine qaal ?_ | refine qaah (by rw [hP]; exact qaa4) ?_); (try rw [hP]); simp -implicitDefEqProofs [*]) | ((with_reducible first | refine qaaf ?_ | refine qaag ?_); (try simp -implicitDefEqProofs [*])) | ((with_reducible refine qaam ?_); (try simp only [qaas, qaad, qaaj])) | ((with_reducible refine qaae rfl (fun h => ?_) (fun h => ?_)) <;> have h' := h <;> (try simp at h') <;> (try subst h')) | ((with_reducible refine qaaa (fun h => ?_) (fun h => ?_)) <;> have h' := h <;> (try simp at h') <;> (try subst h') <;> simp -implicitDefEqProofs [*]) | ((with_reducible refine qaai ?_ ?_); (first | omega | (unfold maxLen; omega)); simp -implicitDefEqProofs [*]) | (with_reducible first | refine zM hm ?_ | refine zN hm ?_ | refine zO hm ?_ | refine zP hm ?_) | ((with_reducible refine qaar [] hm ?_ ?_ ?_ ?_) <;> (try simp only [zT, puth, Nat.reduceEqDiff, reduceIte, Nat.reduceAdd])) | (with_reducible first | refine za ?_ ?_ | refine zb ?_ ?_ ?_ ?_ | refine zc ?_ ?_ ?_ ?_ | refine zd ?_ ?_ ?_ ?_ | refine qaap ?_ ?_ | refine qaan ?_ ?_) | (with_reducible first | exact qaak | exact qaao | exact qaat | exact qaau | exact Co.refl _ | exact CoL.refl _ | exact CoLL.refl _) | ((with_reducible first | refine zga ?_ | refine zgb ?_); rfl) | ((with_reducible refine zgc ?_); (first | (with_reducible rfl) | rfl | (simp; done))) | ((with_reducible first | refine zgd ?_ | refine zge ?_); (first | omega | (simp; done))) | (refine qaaw ⟨?_, ?_⟩ ?_ <;> omega) | (exact Co.refl _) | (exact CoL.refl _) | (exact CoLL.refl _) | (refine qaaz ?_; omega) | (refine qaay ?_; first | omega | (simp_all; done)) | (with_reducible first | refine qaav ?_ ?_ | refine qaaq ?_ ?_) | ((refine qaax hJo (i + 1) ?_ ?_ ?_; (with_reducible refine qaar [] hm ?_ ?_ ?_ ?_) <;> (try simp only [zT, puth, Nat.reduceEqDiff, reduceIte, Nat.reduceAdd]))) | fail)
     all_goals omega
   ·obtain rfl : i = p.acts.length := by omega
    clear hJ hJo h1 hi
    repeat' (first | (with_reducible first | refine zA ?_ | refine qaac ?_ | refine qaab ?_ | refine zK ?_) | ((with_reducible first | refine qaal ?_ | refine qaah (by rw [hP]; exact qaa4) ?_); (try rw [hP]); simp -implicitDefEqProofs [*]) | ((with_reducible first | refine qaaf ?_ | refine qaag ?_); (try simp -implicitDefEqProofs [*])) | ((with_reducible refine qaam ?_); (try simp only [qaas, qaad, qaaj])) | ((with_reducible refine qaae rfl (fun h => ?_) (fun h => ?_)) <;> have h' := h <;> (try simp at h') <;> (try subst h')) | ((with_reducible refine qaaa (fun h => ?_) (fun h => ?_)) <;> have h' := h <;> (try simp at h') <;> (try subst h') <;> simp -implicitDefEqProofs [*]) | ((with_reducible refine qaai ?_ ?_); (first | omega | (unfold maxLen; omega)); simp -implicitDefEqProofs [*]) | (with_reducible first | refine zM hm ?_ | refine zN hm ?_ | refine zO hm ?_ | refine zP hm ?_) | fail)
    refine qaa0 (qabi (fun s (i : Nat) => s.turn [(13, .int .i64 i)] []) (fun i => i ≤ p.tabs.length) (fun i => p.tabs.length - i) 0 ?_ (by simp) ?_)
    ·repeat' (first | ((with_reducible refine qaar [] hm ?_ ?_ ?_ ?_) <;> (try simp only [zT, puth, Nat.reduceEqDiff, reduceIte, Nat.reduceAdd])) | (with_reducible first | refine za ?_ ?_ | refine zb ?_ ?_ ?_ ?_ | refine zc ?_ ?_ ?_ ?_ | refine zd ?_ ?_ ?_ ?_ | refine qaap ?_ ?_ | refine qaan ?_ ?_) | (with_reducible first | exact qaak | exact qaao | exact qaat | exact qaau | exact Co.refl _ | exact CoL.refl _ | exact CoLL.refl _) | ((with_reducible first | refine zga ?_ | refine zgb ?_); rfl) | ((with_reducible refine zgc ?_); (first | (with_reducible rfl) | rfl | (simp; done))) | ((with_reducible first | refine zgd ?_ | refine zge ?_); (first | omega | (simp; done))) | (refine qaaw ⟨?_, ?_⟩ ?_ <;> omega) | (exact Co.refl _) | (exact CoL.refl _) | (exact CoLL.refl _) | (refine qaaz ?_; omega) | (refine qaay ?_; first | omega | (simp_all; done)) | (with_reducible first | refine qaav ?_ ?_ | refine qaaq ?_ ?_) | fail)
    rintro J hJ i h1
    unfold qaj9
    simp only [zT, puth, Nat.reduceEqDiff, reduceIte, Nat.reduceAdd] at h1 ⊢
    rcases Nat.lt_or_ge i p.tabs.length with hi | hi
    ·have wi : IntKind.i64.wrap ((i : Int) + 1) = (i : Int) + 1 := qaa2 (by omega) (by omega)
     have hc := fun q => qbcc p.tabs[i] (by have := hs.keys _ (List.getElem_mem hi); omega) (by have := hs.keys _ (List.getElem_mem hi); omega) (by have := hs.keys _ (List.getElem_mem hi); omega) q
     replace hc := Lib.hid hc
     generalize hxx : p.tabs[i] = x at hc
     repeat' (first | (with_reducible first | refine zA ?_ | refine qaac ?_ | refine qaab ?_ | refine zK ?_) | ((with_reducible first | refine qaal ?_ | refine qaah (by rw [hP]; exact qaa4) ?_); (try rw [hP]); simp -implicitDefEqProofs [*]) | ((with_reducible first | refine qaaf ?_ | refine qaag ?_); (try simp -implicitDefEqProofs [*])) | ((with_reducible refine qaam ?_); (try simp only [qaas, qaad, qaaj])) | ((with_reducible refine qaae rfl (fun h => ?_) (fun h => ?_)) <;> have h' := h <;> (try simp at h') <;> (try subst h')) | ((with_reducible refine qaaa (fun h => ?_) (fun h => ?_)) <;> have h' := h <;> (try simp at h') <;> (try subst h') <;> simp -implicitDefEqProofs [*]) | ((with_reducible refine qaai ?_ ?_); (first | omega | (unfold maxLen; omega)); simp -implicitDefEqProofs [*]) | (refine qabd (hc.out _) ?_; simp -implicitDefEqProofs [*]) | (with_reducible first | refine zM hm ?_ | refine zN hm ?_ | refine zO hm ?_ | refine zP hm ?_) | ((with_reducible refine qaar [] hm ?_ ?_ ?_ ?_) <;> (try simp only [zT, puth, Nat.reduceEqDiff, reduceIte, Nat.reduceAdd])) | (with_reducible first | refine za ?_ ?_ | refine zb ?_ ?_ ?_ ?_ | refine zc ?_ ?_ ?_ ?_ | refine zd ?_ ?_ ?_ ?_ | refine qaap ?_ ?_ | refine qaan ?_ ?_) | (with_reducible first | exact qaak | exact qaao | exact qaat | exact qaau | exact Co.refl _ | exact CoL.refl _ | exact CoLL.refl _) | ((with_reducible first | refine zga ?_ | refine zgb ?_); rfl) | ((with_reducible refine zgc ?_); (first | (with_reducible rfl) | rfl | (simp; done))) | ((with_reducible first | refine zgd ?_ | refine zge ?_); (first | omega | (simp; done))) | (refine qaaw ⟨?_, ?_⟩ ?_ <;> omega) | (exact Co.refl _) | (exact CoL.refl _) | (exact CoLL.refl _) | (refine qaaz ?_; omega) | (refine qaay ?_; first | omega | (simp_all; done)) | (with_reducible first | refine qaav ?_ ?_ | refine qaaq ?_ ?_) | ((refine qaax hJ (i + 1) ?_ ?_ ?_; (with_reducible refine qaar [] hm ?_ ?_ ?_ ?_) <;> (try simp only [zT, puth, Nat.reduceEqDiff, reduceIte, Nat.reduceAdd]))) | fail)
     all_goals omega
    ·obtain rfl : i = p.tabs.length := by omega
     clear hJ h1 hi
     repeat' (first | (with_reducible first | refine zA ?_ | refine qaac ?_ | refine qaab ?_ | refine zK ?_) | ((with_reducible first | refine qaal ?_ | refine qaah (by rw [hP]; exact qaa4) ?_); (try rw [hP]); simp -implicitDefEqProofs [*]) | ((with_reducible first | refine qaaf ?_ | refine qaag ?_); (try simp -implicitDefEqProofs [*])) | ((with_reducible refine qaam ?_); (try simp only [qaas, qaad, qaaj])) | ((with_reducible refine qaae rfl (fun h => ?_) (fun h => ?_)) <;> have h' := h <;> (try simp at h') <;> (try subst h')) | ((with_reducible refine qaaa (fun h => ?_) (fun h => ?_)) <;> have h' := h <;> (try simp at h') <;> (try subst h') <;> simp -implicitDefEqProofs [*]) | ((with_reducible refine qaai ?_ ?_); (first | omega | (unfold maxLen; omega)); simp -implicitDefEqProofs [*]) | (with_reducible first | refine zM hm ?_ | refine zN hm ?_ | refine zO hm ?_ | refine zP hm ?_) | fail)
     refine qaa0 (qabi (fun s (i : Nat) => s.turn [(14, .int .i64 i)] []) (fun i => i ≤ p.nodes.length) (fun i => p.nodes.length - i) 0 ?_ (by simp) ?_)
     ·repeat' (first | ((with_reducible refine qaar [] hm ?_ ?_ ?_ ?_) <;> (try simp only [zT, puth, Nat.reduceEqDiff, reduceIte, Nat.reduceAdd])) | (with_reducible first | refine za ?_ ?_ | refine zb ?_ ?_ ?_ ?_ | refine zc ?_ ?_ ?_ ?_ | refine zd ?_ ?_ ?_ ?_ | refine qaap ?_ ?_ | refine qaan ?_ ?_) | (with_reducible first | exact qaak | exact qaao | exact qaat | exact qaau | exact Co.refl _ | exact CoL.refl _ | exact CoLL.refl _) | ((with_reducible first | refine zga ?_ | refine zgb ?_); rfl) | ((with_reducible refine zgc ?_); (first | (with_reducible rfl) | rfl | (simp; done))) | ((with_reducible first | refine zgd ?_ | refine zge ?_); (first | omega | (simp; done))) | (refine qaaw ⟨?_, ?_⟩ ?_ <;> omega) | (exact Co.refl _) | (exact CoL.refl _) | (exact CoLL.refl _) | (refine qaaz ?_; omega) | (refine qaay ?_; first | omega | (simp_all; done)) | (with_reducible first | refine qaav ?_ ?_ | refine qaaq ?_ ?_) | fail)
     rintro J hJ i h1
     unfold qaj8
     simp only [zT, puth, Nat.reduceEqDiff, reduceIte, Nat.reduceAdd] at h1 ⊢
     rcases Nat.lt_or_ge i p.nodes.length with hi | hi
     ·have wi : IntKind.i64.wrap ((i : Int) + 1) = (i : Int) + 1 := qaa2 (by omega) (by omega)
      have hc := fun q => snode_s p.nodes[i] (by have := hs.node _ (List.getElem_mem hi); omega) q
      replace hc := Lib.hid hc
      generalize hxx : p.nodes[i] = x at hc
      repeat' (first | (with_reducible first | refine zA ?_ | refine qaac ?_ | refine qaab ?_ | refine zK ?_) | ((with_reducible first | refine qaal ?_ | refine qaah (by rw [hP]; exact qaa4) ?_); (try rw [hP]); simp -implicitDefEqProofs [*]) | ((with_reducible first | refine qaaf ?_ | refine qaag ?_); (try simp -implicitDefEqProofs [*])) | ((with_reducible refine qaam ?_); (try simp only [qaas, qaad, qaaj])) | ((with_reducible refine qaae rfl (fun h => ?_) (fun h => ?_)) <;> have h' := h <;> (try simp at h') <;> (try subst h')) | ((with_reducible refine qaaa (fun h => ?_) (fun h => ?_)) <;> have h' := h <;> (try simp at h') <;> (try subst h') <;> simp -implicitDefEqProofs [*]) | ((with_reducible refine qaai ?_ ?_); (first | omega | (unfold maxLen; omega)); simp -implicitDefEqProofs [*]) | (refine qabd (hc.out _) ?_; simp -implicitDefEqProofs [*]) | (with_reducible first | refine zM hm ?_ | refine zN hm ?_ | refine zO hm ?_ | refine zP hm ?_) | ((with_reducible refine qaar [] hm ?_ ?_ ?_ ?_) <;> (try simp only [zT, puth, Nat.reduceEqDiff, reduceIte, Nat.reduceAdd])) | (with_reducible first | refine za ?_ ?_ | refine zb ?_ ?_ ?_ ?_ | refine zc ?_ ?_ ?_ ?_ | refine zd ?_ ?_ ?_ ?_ | refine qaap ?_ ?_ | refine qaan ?_ ?_) | (with_reducible first | exact qaak | exact qaao | exact qaat | exact qaau | exact Co.refl _ | exact CoL.refl _ | exact CoLL.refl _) | ((with_reducible first | refine zga ?_ | refine zgb ?_); rfl) | ((with_reducible refine zgc ?_); (first | (with_reducible rfl) | rfl | (simp; done))) | ((with_reducible first | refine zgd ?_ | refine zge ?_); (first | omega | (simp; done))) | (refine qaaw ⟨?_, ?_⟩ ?_ <;> omega) | (exact Co.refl _) | (exact CoL.refl _) | (exact CoLL.refl _) | (refine qaaz ?_; omega) | (refine qaay ?_; first | omega | (simp_all; done)) | (with_reducible first | refine qaav ?_ ?_ | refine qaaq ?_ ?_) | ((refine qaax hJ (i + 1) ?_ ?_ ?_; (with_reducible refine qaar [] hm ?_ ?_ ?_ ?_) <;> (try simp only [zT, puth, Nat.reduceEqDiff, reduceIte, Nat.reduceAdd]))) | fail)
      all_goals omega
     ·obtain rfl : i = p.nodes.length := by omega
      repeat' (first | (with_reducible first | refine zA ?_ | refine qaac ?_ | refine qaab ?_ | refine zK ?_) | ((with_reducible first | refine qaal ?_ | refine qaah (by rw [hP]; exact qaa4) ?_); (try rw [hP]); simp -implicitDefEqProofs [*]) | ((with_reducible first | refine qaaf ?_ | refine qaag ?_); (try simp -implicitDefEqProofs [*])) | ((with_reducible refine qaam ?_); (try simp only [qaas, qaad, qaaj])) | ((with_reducible refine qaae rfl (fun h => ?_) (fun h => ?_)) <;> have h' := h <;> (try simp at h') <;> (try subst h')) | ((with_reducible refine qaaa (fun h => ?_) (fun h => ?_)) <;> have h' := h <;> (try simp at h') <;> (try subst h') <;> simp -implicitDefEqProofs [*]) | ((with_reducible refine qaai ?_ ?_); (first | omega | (unfold maxLen; omega)); simp -implicitDefEqProofs [*]) | (with_reducible first | refine zM hm ?_ | refine zN hm ?_ | refine zO hm ?_ | refine zP hm ?_) | fail)
      all_goals rfl
end Go.Proofs.Ytnfjldobjgdiaaa
