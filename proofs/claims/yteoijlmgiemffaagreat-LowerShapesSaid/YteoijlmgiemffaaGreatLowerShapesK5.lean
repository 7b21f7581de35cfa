/-
  Texts joined: XFlwA XFlwB XCflw XCwlk XCpls XPlnY XWlkC XWlkD XWlkE XFlwC. No condition.
-/
import Derived.Test.YteoijlmgiemffaaGreatProg
import Derived.ProofKit
import Derived.WalkSpells
import Derived.RegionTactic
import Derived.BigRegion
import Derived.Deep.RegionLaw
import Derived.Test.YteoijlmgiemffaaGreatLowerShapesK4
namespace Go.Proofs.YteoijlmgiemffaaGreat
set_option linter.all false
open Go.RowKit
abbrev allB : BitVec 64 := BitVec.allOnes 64
def qaet (r : RefD) (m : BitVec 64) : Bool := decide (0 ≤ r.h) && (m &&& bitB r.h == 0)
def qad7 (l : List PushD) (m : BitVec 64) : Bool := l.any fun x => decide (x.op = 2) && qaet x.r m
def qacq (o : OpD) (m : BitVec 64) : Bool :=
 if o.kind = 1 then qad7 o.e m || qaet o.r m
 else if o.kind = 5 then qad7 o.e m
 else if o.kind = 6 then (m &&& bitB o.head == 0) || qaet o.r m
 else false
def qaf3 (o : OpD) (m : BitVec 64) : BitVec 64 := if o.kind = 2 then m ||| bitB o.head else if o.kind = 3 then m &&& ~~~(bitB o.head) else m
def qac3 : List OpD → BitVec 64 → Bool
 | [], _ => false
 | o :: l, m => qacq o m || qac3 l (qaf3 o m)
def opsM : List OpD → BitVec 64 → BitVec 64
 | [], m => m
 | o :: l, m => opsM l (qaf3 o m)
def qac6 (p : PlanD) (k : Int) : List OpD := ((p.acts[k.toNat]?).map ActD.ops).getD []
def yesT (p : PlanD) (m : BitVec 64) : List Int → BitVec 64 → BitVec 64
 | [], y => y
 | a :: l, y => yesT p m l (y &&& opsM (qac6 p a) m)
def qbij (p : PlanD) (k : Int) : TabD := (p.tabs[k.toNat]?).getD ⟨0, [], [], 0, 0, []⟩
def qacp (p : PlanD) (n : NodeD) (m : BitVec 64) : BitVec 64 :=
 if n.kind = 1 then yesT p m (qbij p n.n).acts allB
 else if n.kind = 2 then opsM (qac6 p n.n) m
 else if n.kind = 3 then m
 else m ||| bitB n.n
def qadr (n : NodeD) (m : BitVec 64) : BitVec 64 := if n.kind = 4 then m &&& ~~~(bitB n.n) else m
def qacx (p : PlanD) (n : NodeD) (m : BitVec 64) : Bool :=
 if n.kind = 1 then (qbij p n.n).keys.any (fun r => qaet r m) || (qbij p n.n).acts.any (fun a => qac3 (qac6 p a) m)
 else if n.kind = 2 then qac3 (qac6 p n.n) m
 else if n.kind = 3 then qad7 n.e m
 else false
def twoB (n : NodeD) : Bool := decide (n.kind = 3) || decide (n.kind = 4)
def qam9 (l : List (BitVec 64)) (k : Int) (v : BitVec 64) : List (BitVec 64) := l.set k.toNat (l.getD k.toNat allB &&& v)
def qa5v (p : PlanD) (n : NodeD) (i : Nat) (l : List (BitVec 64)) : List (BitVec 64) :=
 if l.getD i allB = allB then l
 else if twoB n = true then qam9 (qam9 l n.yes (qacp p n (l.getD i allB))) n.no (qadr n (l.getD i allB))
 else qam9 l n.yes (qacp p n (l.getD i allB))
def atGo (p : PlanD) (s : BitVec 64) : Nat → List (BitVec 64)
 | 0 => (List.replicate (p.nodes.length + 1) allB).set 0 s
 | i + 1 => if h : i < p.nodes.length then qa5v p p.nodes[i] i (atGo p s i) else atGo p s i
theorem qahl (p : PlanD) (s : BitVec 64) {i : Nat} (h : i < p.nodes.length) : atGo p s (i + 1) = qa5v p p.nodes[i] i (atGo p s i) := by
 show (if h : i < p.nodes.length then _ else _) = _
 rw [dif_pos h]
theorem qakc (l : List (BitVec 64)) (k : Int) (v : BitVec 64) : (qam9 l k v).length = l.length := by simp [qam9]
theorem qbez (p : PlanD) (n : NodeD) (i : Nat) (l : List (BitVec 64)) : (qa5v p n i l).length = l.length := by
 unfold qa5v; split
 ·rfl
 split <;> simp [qakc]
theorem qadu (p : PlanD) (s : BitVec 64) : ∀ i, (atGo p s i).length = p.nodes.length + 1
 | 0 => by simp [atGo]
 | i + 1 => by
  by_cases h : i < p.nodes.length
  ·rw [qahl p s h, qbez, qadu p s i]
  ·show (if h : i < p.nodes.length then _ else _ : List (BitVec 64)).length = _
   rw [dif_neg h, qadu p s i]
theorem qakd {l : List (BitVec 64)} {k : Int} {v : BitVec 64} {j : Nat} (hj : j < l.length) (hk : 0 ≤ k) : (qam9 l k v).getD j allB = if k = j then l.getD j allB &&& v else l.getD j allB := by
 unfold qam9
 by_cases e : k = j
 ·have e2 : k.toNat = j := by omega
  rw [if_pos e, e2, List.getD_eq_getElem?_getD, List.getElem?_set_self hj, Option.getD_some]
 ·have e2 : k.toNat ≠ j := by omega
  rw [if_neg e, List.getD_eq_getElem?_getD, List.getElem?_set_ne e2, ← List.getD_eq_getElem?_getD]
def qa5z (p : PlanD) (n : NodeD) (m : BitVec 64) (i : Nat) (out : BitVec 64) : BitVec 64 :=
 if n.yes = i then (if twoB n && decide (n.no = i) then (out &&& qacp p n m) &&& qadr n m else out &&& qacp p n m)
 else if twoB n && decide (n.no = i) then out &&& qadr n m else out
theorem qa5u {p : PlanD} {n : NodeD} {i j : Nat} {l : List (BitVec 64)} (hj : j < l.length) (hy : 0 ≤ n.yes) (hn : twoB n = true → 0 ≤ n.no) (h : l.getD i allB ≠ allB) : (qa5v p n i l).getD j allB = qa5z p n (l.getD i allB) j (l.getD j allB) := by
 unfold qa5v qa5z
 rw [if_neg h]
 cases ht : twoB n
 ·rw [if_neg (by decide), qakd hj hy]
  simp
 ·rw [if_pos rfl, qakd (by rw [qakc]; exact hj) (hn ht), qakd hj hy]
  by_cases e1 : n.yes = j <;> by_cases e2 : n.no = j <;> simp [e1, e2]
end Go.Proofs.YteoijlmgiemffaaGreat
namespace Go.Proofs.YteoijlmgiemffaaGreat
set_option linter.all false
open Go.RowKit
def ExOk (p : PlanD) (l : List PushD) : Prop := ∀ x ∈ l, x.op = 2 → x.r.h < p.heads.length
structure OpOk (p : PlanD) (o : OpD) : Prop where
 kind : 1 ≤ o.kind ∧ o.kind ≤ 6
 ref : o.kind = 1 ∨ o.kind = 6 → o.r.h < p.heads.length
 ex : o.kind = 1 ∨ o.kind = 5 → ExOk p o.e
 head : o.kind = 2 ∨ o.kind = 3 ∨ o.kind = 6 → 0 ≤ o.head ∧ o.head < p.heads.length
structure NOk (p : PlanD) (i : Nat) (n : NodeD) : Prop where
 kind : n.kind = 1 ∨ n.kind = 2 ∨ n.kind = 3 ∨ n.kind = 4
 tab : n.kind = 1 → 0 ≤ n.n ∧ n.n < p.tabs.length
 act : n.kind = 2 → 0 ≤ n.n ∧ n.n < p.acts.length
 ex : n.kind = 3 → ExOk p n.e
 head : n.kind = 4 → 0 ≤ n.n ∧ n.n < p.heads.length
 yes : (i : Int) < n.yes ∧ n.yes ≤ p.nodes.length
 no : twoB n = true → (i : Int) < n.no ∧ n.no ≤ p.nodes.length
structure FOk (p : PlanD) : Prop where
 ops : ∀ a ∈ p.acts, ∀ o ∈ a.ops, OpOk p o
 keys : ∀ t ∈ p.tabs, ∀ r ∈ t.keys, r.h < p.heads.length
 tacts : ∀ t ∈ p.tabs, ∀ a ∈ t.acts, 0 ≤ a ∧ a < p.acts.length
 nodes : ∀ (i : Nat) (hi : i < p.nodes.length), NOk p i p.nodes[i]
 few : p.nodes.length ≤ 10
theorem qajo {p : PlanD} {r : RefD} {args : List Int} (h : qabw p r args ≠ 0) : r.h < p.heads.length := by
 by_cases h0 : r.h < 0
 ·omega
 ·unfold qabw qanm at h
  rw [if_neg (by omega), if_neg (by omega), if_neg (by omega)] at h
  by_cases h1 : 0 ≤ r.h ∧ r.h < p.heads.length
  ·exact h1.2
  ·rw [if_neg h1] at h
   exact absurd (by unfold qa4k; split <;> simp [el]) h
theorem qbh7 {p : PlanD} {args : List Int} : ∀ (l : List PushD) (n : Int), qags p args l n = 0 → ExOk p l
 | [], _, _ => fun x hx => by cases hx
 | y :: l, n, h => by
  rw [qagr] at h
  by_cases h1 : qab5 y.op < 0 ∨ n < qab5 y.op
  ·rw [if_pos h1] at h; exact absurd h (by decide)
  rw [if_neg h1] at h
  by_cases h2 : y.op = 2 ∧ qabw p y.r args = 0
  ·rw [if_pos h2] at h; exact absurd h (by decide)
  rw [if_neg h2] at h
  intro x hx ho
  rcases List.mem_cons.1 hx with e | e
  ·rw [e]; exact qajo (args := args) fun hz => h2 ⟨by rw [← e]; exact ho, hz⟩
  ·exact qbh7 l _ h x e ho
theorem ex_ok {p : PlanD} {args : List Int} {l : List PushD} (h : qafi p l args = 0) : ExOk p l := by
 unfold qafi at h
 by_cases h1 : 8 < l.length
 ·rw [if_pos h1] at h; exact absurd h (by decide)
 ·rw [if_neg h1] at h; exact qbh7 l 0 h
theorem qa55 {p : PlanD} {h : Int} (hh : qac0 p h = true) : 0 ≤ h ∧ h < p.heads.length := by
 unfold qac0 at hh; rw [Bool.and_eq_true, decide_eq_true_eq, decide_eq_true_eq] at hh; exact hh
theorem may_ok {p : PlanD} {r : RefD} (h : qang p r = true) : r.h < p.heads.length := by
 unfold qang at h; rw [Bool.and_eq_true, decide_eq_true_eq, decide_eq_true_eq] at h; exact qajo (args := []) (by omega)
theorem deed_ok {p : PlanD} {o : OpD} {args : List Int} (h : qahj p o args = 0) : OpOk p o := by
 unfold qahj at h
 by_cases k1 : o.kind = 1
 ·rw [if_pos k1] at h
  cases hm : qang p o.r
  ·rw [hm] at h; simp at h
  ·rw [hm] at h
   exact ⟨by omega, fun _ => may_ok hm, fun _ => ex_ok h, fun hk => by omega⟩
 rw [if_neg k1] at h
 by_cases k2 : o.kind = 2 ∨ o.kind = 3
 ·rw [if_pos k2] at h
  cases hm : qac0 p o.head
  ·rw [hm] at h; exact absurd h (by decide)
  ·exact ⟨by omega, fun hk => by omega, fun hk => by omega, fun _ => qa55 hm⟩
 rw [if_neg k2] at h
 by_cases k4 : o.kind = 4
 ·exact ⟨by omega, fun hk => by omega, fun hk => by omega, fun hk => by omega⟩
 rw [if_neg k4] at h
 by_cases k5 : o.kind = 5
 ·rw [if_pos k5] at h
  exact ⟨by omega, fun hk => by omega, fun _ => ex_ok h, fun hk => by omega⟩
 rw [if_neg k5] at h
 by_cases k6 : o.kind = 6
 ·rw [if_pos k6] at h
  cases hm : (qang p o.r && qac0 p o.head)
  ·rw [hm] at h; exact absurd h (by decide)
  ·rw [Bool.and_eq_true] at hm
   exact ⟨by omega, fun _ => may_ok hm.1, fun hk => by omega, fun _ => qa55 hm.2⟩
 rw [if_neg k6] at h; exact absurd h (by decide)
theorem acts_ok {p : PlanD} (h : (qaie p).1 = 0) : ∀ a ∈ p.acts, ∀ o ∈ a.ops, OpOk p o := fun a ha o ho => by
 have := qae2 (qach h).2 a ha
 unfold actF at this
 by_cases h1 : 3 < a.w.length ∨ 5 < a.ops.length
 ·rw [if_pos h1] at this; exact absurd this (by decide)
 rw [if_neg h1] at this
 by_cases h2 : a.w.any wOut = true
 ·rw [if_pos h2] at this; exact absurd this (by decide)
 rw [if_neg h2] at this
 exact deed_ok (args := a.w) (qagq this o ho)
theorem qbhf {p : PlanD} (h : (qag7 p).1 = 0) : ∀ t ∈ p.tabs, (∀ r ∈ t.keys, r.h < p.heads.length) ∧ ∀ a ∈ t.acts, 0 ≤ a ∧ a < p.acts.length := fun t ht => by
 have := qae2 (qach h).2 t ht
 unfold tabF at this
 by_cases h1 : 3 < t.keys.length
 ·rw [if_pos h1] at this; exact absurd this (by decide)
 rw [if_neg h1] at this
 by_cases h2 : (qab1 p t).contains 0 = true
 ·rw [if_pos h2] at this; exact absurd this (by decide)
 rw [if_neg h2] at this
 refine ⟨fun r hr => qajo (args := []) fun hz => h2 ?_, fun a ha => ?_⟩
 ·rw [List.contains_iff_mem]; exact List.mem_map.2 ⟨r, hr, hz⟩
 ·unfold qadk at this
  by_cases g1 : t.kind < 1 ∨ 3 < t.kind
  ·rw [if_pos g1] at this; exact absurd this (by decide)
  rw [if_neg g1] at this
  by_cases g2 : (qab1 p t).length < 1 ∨ 3 < (qab1 p t).length ∨ (t.kind = 2 ∧ 1 < (qab1 p t).length) ∨ t.acts.length < 1 ∨ 4 < t.acts.length
  ·rw [if_pos g2] at this; exact absurd this (by decide)
  rw [if_neg g2] at this
  by_cases g3 : t.cap < 0 ∨ 16 < t.cap
  ·rw [if_pos g3] at this; exact absurd this (by decide)
  rw [if_neg g3] at this
  by_cases g4 : (qab1 p t).any wOut = true
  ·rw [if_pos g4] at this; exact absurd this (by decide)
  rw [if_neg g4] at this
  by_cases g5 : t.acts.any (aOut p.acts.length) = true
  ·rw [if_pos g5] at this; exact absurd this (by decide)
  have q : ¬ aOut p.acts.length a = true := fun e => g5 (List.any_eq_true.2 ⟨a, ha, e⟩)
  unfold aOut at q; rw [Bool.or_eq_true, decide_eq_true_eq, decide_eq_true_eq] at q; omega
theorem qaty {p : PlanD} {i : Nat} {t : Int} (h : toF p i t = 0) : (i : Int) < t ∧ t ≤ p.nodes.length := by
 unfold toF at h
 by_cases h1 : t < 0 ∨ (p.nodes.length : Int) < t
 ·rw [if_pos h1] at h; exact absurd h (by decide)
 rw [if_neg h1] at h
 by_cases h2 : t ≤ i
 ·rw [if_pos h2] at h; exact absurd h (by decide)
 omega
theorem two_ok {p : PlanD} {i : Nat} {a b : Int} (h : (if toF p i a ≠ 0 then toF p i a else toF p i b) = 0) : toF p i a = 0 ∧ toF p i b = 0 := by
 by_cases h1 : toF p i a ≠ 0
 ·rw [if_pos h1] at h; exact absurd h h1
 ·rw [if_neg h1] at h; exact ⟨Decidable.not_not.1 h1, h⟩
theorem node_ok {p : PlanD} {i : Nat} {n : NodeD} (h : qant p i n = 0) : NOk p i n := by
 unfold qant at h
 by_cases k1 : n.kind = 1
 ·rw [if_pos k1] at h
  by_cases h1 : n.n < 0 ∨ (p.tabs.length : Int) ≤ n.n
  ·rw [if_pos h1] at h; exact absurd h (by decide)
  rw [if_neg h1] at h
  exact ⟨.inl k1, fun _ => by omega, fun hk => by omega, fun hk => by omega, fun hk => by omega, qaty h, fun ht => by simp [twoB, k1] at ht⟩
 rw [if_neg k1] at h
 by_cases k2 : n.kind = 2
 ·rw [if_pos k2] at h
  by_cases h1 : n.n < 0 ∨ (p.acts.length : Int) ≤ n.n
  ·rw [if_pos h1] at h; exact absurd h (by decide)
  rw [if_neg h1] at h
  by_cases h2 : 0 < (actW p.acts n.n).length
  ·rw [if_pos h2] at h; exact absurd h (by decide)
  rw [if_neg h2] at h
  exact ⟨.inr (.inl k2), fun hk => by omega, fun _ => by omega, fun hk => by omega, fun hk => by omega, qaty h, fun ht => by simp [twoB, k2] at ht⟩
 rw [if_neg k2] at h
 by_cases k3 : n.kind = 3
 ·rw [if_pos k3] at h
  by_cases h1 : qafi p n.e [] ≠ 0
  ·rw [if_pos h1] at h; exact absurd h h1
  rw [if_neg h1] at h
  obtain ⟨a, b⟩ := two_ok h
  exact ⟨.inr (.inr (.inl k3)), fun hk => by omega, fun hk => by omega, fun _ => ex_ok (args := []) (Decidable.not_not.1 h1), fun hk => by omega, qaty a, fun _ => qaty b⟩
 rw [if_neg k3] at h
 by_cases k4 : n.kind = 4
 ·rw [if_pos k4] at h
  cases hm : qac0 p n.n
  ·rw [hm] at h; simp at h
  ·rw [hm, if_pos rfl] at h
   obtain ⟨a, b⟩ := two_ok h
   exact ⟨.inr (.inr (.inr k4)), fun hk => by omega, fun hk => by omega, fun hk => by omega, fun _ => qa55 hm, qaty a, fun _ => qaty b⟩
 rw [if_neg k4] at h; exact absurd h (by decide)
theorem qbjt {p : PlanD} (h : (qafh p).1 = 0) : FOk p := by
 have h1 := qach h
 have h2 := qach h1.2
 have h3 := qach h2.2
 have h4 := qach h3.2
 have h5 := qach h4.2
 have h6 := qach h5.2
 have hn := qach h6.1
 have m := qajv hn.1
 rw [decide_eq_false_iff_not] at m
 refine ⟨acts_ok h4.1, fun t ht => (qbhf h5.1 t ht).1, fun t ht => (qbhf h5.1 t ht).2, fun i hi => ?_, by omega⟩
 have := qahs hn.2 i hi
 rw [Nat.zero_add] at this
 exact node_ok this
theorem qbia {p : PlanD} (hf : FOk p) (s : BitVec 64) {i : Nat} : ∀ j, i ≤ j → j ≤ p.nodes.length → (atGo p s j).getD i allB = (atGo p s i).getD i allB
 | 0, h, _ => by obtain rfl : i = 0 := by omega
                 rfl
 | j + 1, h, hj => by
  by_cases e : i = j + 1
  ·rw [e]
  ·have hlt : j < p.nodes.length := by omega
   rw [← qbia hf s j (by omega) (by omega), qahl p s hlt]
   have ok := hf.nodes j hlt
   by_cases ha : (atGo p s j).getD j allB = allB
   ·unfold qa5v; rw [if_pos ha]
   ·rw [qa5u (by rw [qadu]; omega) (by have := ok.yes; omega) (fun ht => by have := ok.no ht; omega) ha]
    unfold qa5z
    have e1 : ¬ p.nodes[j].yes = i := by have := ok.yes; omega
    rw [if_neg e1]
    cases ht : twoB p.nodes[j]
    ·rw [Bool.false_and, if_neg (by decide)]
    ·have e2 : ¬ p.nodes[j].no = i := by have := ok.no ht; omega
     rw [Bool.true_and, if_neg (by simpa using e2)]
end Go.Proofs.YteoijlmgiemffaaGreat
namespace Go.Proofs.YteoijlmgiemffaaGreat
set_option linter.all false
open Go.RowKit
abbrev qbgq : List SOper := [Oa 5 (.box 66 (.t 1))]
abbrev qbgp : List SOper := [Oa 8 (.mv (.t 0)), Oa 9 (.faddr 0 (.t 5)), Oa 10 (.load (.t 9)), Oa 11 (.bin .geq (.t 10) (.c (.int .i64 0))), Oa 12 (.mv (.t 11)), Oe 13 (.mv (.t 2)) 12 true, Oe 14 (.faddr 0 (.t 5)) 12 true, Oe 15 (.load (.t 14)) 12 true, ⟨(some 16), .mv (.c .any), some ((.c (.fn (.func 143) [] [])), [(.t 15)]), (some (12, true)), 0⟩, Oe 17 (.bin .and (.t 13) (.t 16)) 12 true, Oe 18 (.bin .eql (.t 17) (.c (.int .u64 0))) 12 true, Oa 19 (.pick (.t 12) (.t 18) (.c (.bool false))), Oa 20 (.mv (.t 3)), Oc 21 164 [(.t 8), (.t 19), (.t 20)]]
def c_fref : SCode := (.seq (.reg false qbgq [0, 2, 3, 5]) (.reg false qbgp []))
theorem qaul : comp Tryz.prog 22 ((Tryz.f140.body).getD .skip) = some c_fref.erase := by kernel_rfl
abbrev qbha : List SOper := [Oa 8 (.mv (.c (.int .u64 0)))]
abbrev qbg9 : List SOper := [Oa 11 (.mv (.t 0)), Oa 12 (.nilc (.t 11)), Oa 13 (.faddr 0 (.t 12)), Oa 14 (.faddr 3 (.t 13)), Oa 15 (.load (.t 14)), Oa 16 (.mv (.t 1)), Oa 17 (.iaddr 2 (.t 15) (.t 16)), Oa 18 (.faddr 1 (.t 17)), Oa 19 (.load (.t 18)), Oa 20 (.len false (.t 19)), Oa 21 (.mv (.c (.int .i64 0)))]
abbrev qbg8 : List SOper := [Oa 22 (.bin .lss (.t 21) (.t 20))]
abbrev qbg7 : List SOper := [Oa 23 (.iaddr 5 (.t 19) (.t 21)), Oa 24 (.loads 5 (.t 23)), Oa 10 (.alloc 75 [(.int .i64 0), (.int .i64 0), (.int .i64 0), (.int .i64 0), .nilsl]), Ob (.store 5 (.t 10) (.t 24))]
abbrev qbg6 : List SOper := [Oa 25 (.faddr 0 (.t 10)), Oa 26 (.load (.t 25))]
abbrev qbg5 : List SOper := [Oa 28 (.bin .eql (.t 26) (.c (.int .i64 1))), Oa 27 (.mv (.t 28))]
abbrev qbg4 : List SOper := [Oa 29 (.mv (.t 0)), Oa 30 (.faddr 4 (.t 10)), Oa 31 (.load (.t 30)), Oa 32 (.mv (.t 2)), Oa 33 (.mv (.t 3)), Oc 34 142 [(.t 29), (.t 31), (.t 32), (.t 33)]]
abbrev qbg3 : List SOper := [Oa 35 (.mv (.t 0)), Oa 36 (.faddr 1 (.t 10)), Oa 37 (.loads 2 (.t 36)), Oa 38 (.mv (.t 2)), Oa 39 (.mv (.t 3)), Oc 40 140 [(.t 35), (.t 37), (.t 38), (.t 39)]]
abbrev qbg2 : List SOper := [Oa 42 (.bin .eql (.t 26) (.c (.int .i64 5))), Oa 41 (.mv (.t 42))]
abbrev qbd4 : List SOper := [Oa 43 (.mv (.t 0)), Oa 44 (.faddr 4 (.t 10)), Oa 45 (.load (.t 44)), Oa 46 (.mv (.t 2)), Oa 47 (.mv (.t 3)), Oc 48 142 [(.t 43), (.t 45), (.t 46), (.t 47)]]
abbrev qbd3 : List SOper := [Oa 50 (.bin .eql (.t 26) (.c (.int .i64 2))), Oa 49 (.mv (.t 50))]
abbrev qbd2 : List SOper := [Oa 51 (.mv (.t 2)), Oa 52 (.faddr 3 (.t 10)), Oa 53 (.load (.t 52)), Oc 54 143 [(.t 53)], Oa 55 (.bin .or (.t 51) (.t 54)), Oa 2 (.mv (.t 55))]
abbrev qbd1 : List SOper := [Oa 57 (.bin .eql (.t 26) (.c (.int .i64 3))), Oa 56 (.mv (.t 57))]
abbrev qbd0 : List SOper := [Oa 58 (.mv (.t 2)), Oa 59 (.faddr 3 (.t 10)), Oa 60 (.load (.t 59)), Oc 61 143 [(.t 60)], Oa 62 (.bin .andNot (.t 58) (.t 61)), Oa 2 (.mv (.t 62))]
abbrev qbdz : List SOper := [Oa 64 (.bin .eql (.t 26) (.c (.int .i64 6))), Oa 63 (.mv (.t 64))]
abbrev qbdy : List SOper := [Oa 65 (.mv (.t 0)), Oa 66 (.mv (.t 2)), Oa 67 (.faddr 3 (.t 10)), Oa 68 (.load (.t 67)), Oc 69 143 [(.t 68)], Oa 70 (.bin .and (.t 66) (.t 69)), Oa 71 (.bin .eql (.t 70) (.c (.int .u64 0))), Oa 72 (.mv (.t 3)), Oc 73 164 [(.t 65), (.t 71), (.t 72)]]
abbrev qbdx : List SOper := [Oa 74 (.mv (.t 0)), Oa 75 (.faddr 1 (.t 10)), Oa 76 (.loads 2 (.t 75)), Oa 77 (.mv (.t 2)), Oa 78 (.mv (.t 3)), Oc 79 140 [(.t 74), (.t 76), (.t 77), (.t 78)]]
abbrev qbdw : List SOper := [Oa 80 (.bin .add (.t 21) (.c (.int .i64 1))), Oa 21 (.mv (.t 80))]
def qatw : SCode := (.seq (.reg false qbg8 [0, 2, 3, 19, 20, 21, 22]) (.seq (.cond (.t 22) .skip (.exit 0)) (.seq (.block 1 (.seq (.reg false qbg7 [0, 2, 3, 10, 19, 20, 21]) (.seq (.reg false qbg6 [0, 2, 3, 10, 19, 20, 21, 26]) (.block 2 (.seq (.reg false qbg5 [0, 2, 3, 10, 19, 20, 21, 26, 27]) (.cond (.t 27) (.seq (.reg false qbg4 [0, 2, 3, 10, 19, 20, 21]) (.reg false qbg3 [0, 2, 3, 19, 20, 21])) (.seq (.reg false qbg2 [0, 2, 3, 10, 19, 20, 21, 26, 41]) (.cond (.t 41) (.reg false qbd4 [0, 2, 3, 19, 20, 21]) (.seq (.reg false qbd3 [0, 2, 3, 10, 19, 20, 21, 26, 49]) (.cond (.t 49) (.reg false qbd2 [0, 2, 3, 19, 20, 21]) (.seq (.reg false qbd1 [0, 2, 3, 10, 19, 20, 21, 26, 56]) (.cond (.t 56) (.reg false qbd0 [0, 2, 3, 19, 20, 21]) (.seq (.reg false qbdz [0, 2, 3, 10, 19, 20, 21, 63]) (.cond (.t 63) (.seq (.reg false qbdy [0, 2, 3, 10, 19, 20, 21]) (.reg false qbdx [0, 2, 3, 19, 20, 21])) .skip)))))))))))))) (.reg false qbdw [0, 2, 3, 19, 20, 21]))))
abbrev qbdv : List SOper := [Oa 81 (.mv (.t 2)), Oa 8 (.mv (.t 81))]
def c_fact : SCode := (.seq (.reg false qbha [0, 1, 2, 3]) (.seq (.seq (.reg false qbg9 [0, 2, 3, 19, 20, 21]) (.block 0 (.loop qatw))) (.seq (.reg false qbdv [8]) .ret)))
theorem qauo : comp Tryz.prog 82 ((Tryz.f141.body).getD .skip) = some c_fact.erase := by kernel_rfl
abbrev qbdb : List SOper := [Oa 10 (.mv (.t 1)), Oa 11 (.len false (.t 10)), Oa 12 (.mv (.c (.int .i64 0)))]
abbrev qbda : List SOper := [Oa 13 (.bin .lss (.t 12) (.t 11))]
abbrev qbc9 : List SOper := [Oa 14 (.iaddr 4 (.t 10) (.t 12)), Oa 15 (.loads 4 (.t 14)), Oa 9 (.alloc 101 [(.int .i64 0), (.int .i64 0), (.int .i64 0), (.int .u64 0)]), Ob (.store 4 (.t 9) (.t 15))]
abbrev qbc8 : List SOper := [Oa 16 (.faddr 0 (.t 9)), Oa 17 (.load (.t 16)), Oa 18 (.bin .eql (.t 17) (.c (.int .i64 2)))]
abbrev qbc7 : List SOper := [Oa 19 (.mv (.t 0)), Oa 20 (.faddr 1 (.t 9)), Oa 21 (.loads 2 (.t 20)), Oa 22 (.mv (.t 2)), Oa 23 (.mv (.t 3)), Oc 24 140 [(.t 19), (.t 21), (.t 22), (.t 23)]]
abbrev qbc6 : List SOper := [Oa 25 (.bin .add (.t 12) (.c (.int .i64 1))), Oa 12 (.mv (.t 25))]
def qam0 : SCode := (.seq (.reg false qbda [0, 2, 3, 10, 11, 12, 13]) (.seq (.cond (.t 13) .skip (.exit 0)) (.seq (.block 1 (.seq (.reg false qbc9 [0, 2, 3, 9, 10, 11, 12]) (.seq (.reg false qbc8 [0, 2, 3, 9, 10, 11, 12, 18]) (.cond (.t 18) (.reg false qbc7 [0, 2, 3, 10, 11, 12]) .skip)))) (.reg false qbc6 [0, 2, 3, 10, 11, 12]))))
def c_ftree : SCode := (.seq (.reg false qbdb [0, 2, 3, 10, 11, 12]) (.block 0 (.loop qam0)))
theorem qao0 : comp Tryz.prog 26 ((Tryz.f142.body).getD .skip) = some c_ftree.erase := by kernel_rfl
abbrev qbg1 : List SOper := [Oa 2 (.mv (.c (.int .u64 0)))]
abbrev qbg0 : List SOper := [Oa 3 (.mv (.t 0)), Oa 4 (.bin .shl (.c (.int .u64 1)) (.t 3)), Oa 2 (.mv (.t 4))]
def c_fbit : SCode := (.seq (.reg false qbg1 [0]) (.seq (.reg false qbg0 [2]) .ret))
theorem qaun : comp Tryz.prog 5 ((Tryz.f143.body).getD .skip) = some c_fbit.erase := by kernel_rfl
abbrev qbdu : List SOper := [Oa 6 (.mv (.t 1)), Oa 7 (.mv (.t 6)), Oe 8 (.mv (.t 0)) 7 true, Oe 9 (.nilc (.t 8)) 7 true, Oe 10 (.faddr 8 (.t 9)) 7 true, Oe 11 (.faddr 0 (.t 10)) 7 true, Oe 12 (.load (.t 11)) 7 true, Oe 13 (.bin .eql (.t 12) (.c (.int .i64 0))) 7 true, Oa 14 (.pick (.t 7) (.t 13) (.c (.bool false)))]
abbrev qbdt : List SOper := [Oa 15 (.mv (.t 0)), Oa 16 (.mv (.t 2)), Oa 17 (.build [(.int .i64 0), (.int .i64 0)] [(0, 1, (.c (.int .i64 12))), (1, 1, (.t 16))]), Oa 18 (.nilc (.t 15)), Oa 19 (.faddr 8 (.t 18)), Ob (.store 2 (.t 19) (.t 17))]
def c_ffail : SCode := (.seq (.reg false qbdu [0, 2, 14]) (.cond (.t 14) (.reg false qbdt []) .skip))
theorem qao2 : comp Tryz.prog 20 ((Tryz.f164.body).getD .skip) = some c_ffail.erase := by kernel_rfl
abbrev qbdk : List SOper := [Oa 14 (.mv (.t 0)), Od 15 (.nilc (.t 14)) 1, Od 16 (.faddr 0 (.t 15)) 3, Od 17 (.faddr 5 (.t 16)) 7, Od 18 (.load (.t 17)) 15, Oa 19 (.mv (.t 1)), Od 20 (.iaddr 5 (.t 18) (.t 19)) 63, Od 21 (.loads 5 (.t 20)) 127, Oa 22 (.mv (.t 0)), Od 23 (.nilc (.t 22)) 256, Od 24 (.faddr 7 (.t 23)) 768, Od 25 (.load (.t 24)) 1792, Oa 26 (.mv (.t 1)), Od 27 (.iaddr 1 (.t 25) (.t 26)) 7936, Od 28 (.load (.t 27)) 16128, Oa 4 (.alloc 80 [(.int .i64 0), (.int .i64 0), .nilsl, (.int .i64 0), (.int .i64 0)]), ⟨none, .store 5 (.t 4) (.t 21), none, none, 33023⟩, Od 5 (.mv (.t 28)) 131071]
abbrev qbdj : List SOper := [Oa 29 (.mv (.t 5)), Oa 30 (.bin .eql (.t 29) (.c (.int .u64 18446744073709551615)))]
abbrev qbdi : List SOper := [Oa 31 (.mv (.t 5)), Oa 32 (.mv (.t 5)), Oa 6 (.mv (.t 31)), Oa 7 (.mv (.t 32))]
abbrev qbdh : List SOper := [Oa 33 (.mv (.t 1)), Oa 34 (.bin .add (.c (.int .i64 6000)) (.t 33)), Oa 8 (.mv (.t 34))]
abbrev qbdg : List SOper := [Oa 35 (.faddr 0 (.t 4)), Oa 36 (.load (.t 35))]
abbrev qbdf : List SOper := [Oa 38 (.bin .eql (.t 36) (.c (.int .i64 1))), Oa 37 (.mv (.t 38))]
abbrev qbde : List SOper := [Oa 39 (.mv (.t 0)), Od 40 (.nilc (.t 39)) 1, Od 41 (.faddr 0 (.t 40)) 3, Od 42 (.faddr 4 (.t 41)) 7, Od 43 (.load (.t 42)) 15, Oa 44 (.faddr 1 (.t 4)), Od 45 (.load (.t 44)) 32, Od 46 (.iaddr 6 (.t 43) (.t 45)) 127, Od 47 (.loads 6 (.t 46)) 255, Oa 9 (.alloc 78 [(.int .i64 0), .nilsl, .nilsl, (.int .i64 0), (.int .i64 0), .nilsl]), ⟨none, .store 6 (.t 9) (.t 47), none, none, 1023⟩]
abbrev qbdd : List SOper := [Oa 48 (.faddr 1 (.t 9)), Oa 49 (.load (.t 48)), Oa 50 (.len false (.t 49)), Oa 51 (.mv (.c (.int .i64 0)))]
abbrev qbdc : List SOper := [Oa 52 (.bin .lss (.t 51) (.t 50))]
abbrev qa4d : List SOper := [Oa 53 (.iaddr 2 (.t 49) (.t 51)), Oa 54 (.loads 2 (.t 53)), Oa 11 (.alloc 66 [(.int .i64 0), (.int .i64 0)]), Ob (.store 2 (.t 11) (.t 54))]
abbrev qa4c : List SOper := [Oa 55 (.mv (.t 0)), Oa 56 (.loads 2 (.t 11)), Oa 57 (.mv (.t 5)), Oa 58 (.mv (.t 8)), Oc 59 140 [(.t 55), (.t 56), (.t 57), (.t 58)]]
abbrev qa4b : List SOper := [Oa 60 (.bin .add (.t 51) (.c (.int .i64 1))), Oa 51 (.mv (.t 60))]
def qam2 : SCode := (.seq (.reg false qbdc [0, 4, 5, 7, 8, 9, 49, 50, 51, 52]) (.seq (.cond (.t 52) .skip (.exit 1)) (.seq (.block 2 (.seq (.reg false qa4d [0, 4, 5, 7, 8, 9, 11, 49, 50, 51]) (.reg false qa4c [0, 4, 5, 7, 8, 9, 49, 50, 51]))) (.reg false qa4b [0, 4, 5, 7, 8, 9, 49, 50, 51]))))
abbrev qa4a : List SOper := [Oa 6 (.mv (.c (.int .u64 18446744073709551615)))]
abbrev qa39 : List SOper := [Oa 61 (.faddr 2 (.t 9)), Oa 62 (.load (.t 61)), Oa 63 (.len false (.t 62)), Oa 64 (.mv (.c (.int .i64 0)))]
abbrev qa38 : List SOper := [Oa 65 (.bin .lss (.t 64) (.t 63))]
abbrev qa37 : List SOper := [Oa 66 (.iaddr 1 (.t 62) (.t 64)), Oa 67 (.load (.t 66)), Oa 13 (.mv (.t 67))]
abbrev qa36 : List SOper := [Oa 68 (.mv (.t 6)), Oa 69 (.mv (.t 0)), Oa 70 (.mv (.t 13)), Oa 71 (.mv (.t 5)), Oa 72 (.mv (.t 8)), Oc 73 141 [(.t 69), (.t 70), (.t 71), (.t 72)], Oa 74 (.bin .and (.t 68) (.t 73)), Oa 6 (.mv (.t 74))]
abbrev qa35 : List SOper := [Oa 75 (.bin .add (.t 64) (.c (.int .i64 1))), Oa 64 (.mv (.t 75))]
def qam1 : SCode := (.seq (.reg false qa38 [0, 4, 5, 6, 7, 8, 62, 63, 64, 65]) (.seq (.cond (.t 65) .skip (.exit 3)) (.seq (.block 4 (.seq (.reg false qa37 [0, 4, 5, 6, 7, 8, 13, 62, 63, 64]) (.reg false qa36 [0, 4, 5, 6, 7, 8, 62, 63, 64]))) (.reg false qa35 [0, 4, 5, 6, 7, 8, 62, 63, 64]))))
abbrev qa34 : List SOper := [Oa 77 (.bin .eql (.t 36) (.c (.int .i64 2))), Oa 76 (.mv (.t 77))]
abbrev qa33 : List SOper := [Oa 78 (.mv (.t 0)), Oa 79 (.faddr 1 (.t 4)), Oa 80 (.load (.t 79)), Oa 81 (.mv (.t 5)), Oa 82 (.mv (.t 8)), Oc 83 141 [(.t 78), (.t 80), (.t 81), (.t 82)], Oa 6 (.mv (.t 83))]
abbrev qa32 : List SOper := [Oa 85 (.bin .eql (.t 36) (.c (.int .i64 3))), Oa 84 (.mv (.t 85))]
abbrev qa31 : List SOper := [Oa 86 (.mv (.t 0)), Oa 87 (.faddr 2 (.t 4)), Oa 88 (.load (.t 87)), Oa 89 (.mv (.t 5)), Oa 90 (.mv (.t 8)), Oc 91 142 [(.t 86), (.t 88), (.t 89), (.t 90)]]
abbrev qa30 : List SOper := [Oa 93 (.bin .eql (.t 36) (.c (.int .i64 4))), Oa 92 (.mv (.t 93))]
abbrev qa3z : List SOper := [Oa 94 (.mv (.t 6)), Oa 95 (.faddr 1 (.t 4)), Oa 96 (.load (.t 95)), Oc 97 143 [(.t 96)], Oa 98 (.bin .or (.t 94) (.t 97)), Oa 6 (.mv (.t 98))]
abbrev qa3y : List SOper := [Oa 99 (.mv (.t 7)), Oa 100 (.faddr 1 (.t 4)), Oa 101 (.load (.t 100)), Oc 102 143 [(.t 101)], Oa 103 (.bin .andNot (.t 99) (.t 102)), Oa 7 (.mv (.t 103))]
abbrev qad0 : List SOper := [Oa 104 (.mv (.t 0)), Od 105 (.nilc (.t 104)) 1, Od 106 (.faddr 7 (.t 105)) 3, Od 107 (.load (.t 106)) 7, Oa 108 (.faddr 3 (.t 4)), Od 109 (.load (.t 108)) 16, Od 110 (.iaddr 1 (.t 107) (.t 109)) 63, Od 111 (.load (.t 110)) 127, Oa 112 (.mv (.t 6)), Od 113 (.bin .and (.t 111) (.t 112)) 511, Od 114 (.iaddr 1 (.t 107) (.t 109)) 1023, ⟨none, .store 1 (.t 114) (.t 113), none, none, 2047⟩]
abbrev qadz : List SOper := [Oa 115 (.faddr 0 (.t 4)), Oa 116 (.load (.t 115)), Oa 117 (.bin .eql (.t 116) (.c (.int .i64 3))), Oa 118 (.mv (.t 117)), Oe 119 (.faddr 0 (.t 4)) 118 false, Oe 120 (.load (.t 119)) 118 false, Oe 121 (.bin .eql (.t 120) (.c (.int .i64 4))) 118 false, Oa 122 (.pick (.t 118) (.c (.bool true)) (.t 121))]
abbrev qady : List SOper := [Oa 123 (.mv (.t 0)), Od 124 (.nilc (.t 123)) 1, Od 125 (.faddr 7 (.t 124)) 3, Od 126 (.load (.t 125)) 7, Oa 127 (.faddr 4 (.t 4)), Od 128 (.load (.t 127)) 16, Od 129 (.iaddr 1 (.t 126) (.t 128)) 63, Od 130 (.load (.t 129)) 127, Oa 131 (.mv (.t 7)), Od 132 (.bin .and (.t 130) (.t 131)) 511, Od 133 (.iaddr 1 (.t 126) (.t 128)) 1023, ⟨none, .store 1 (.t 133) (.t 132), none, none, 2047⟩]
def c_fnode : SCode := (.seq (.reg true qbdk [0, 1, 4, 5]) (.seq (.seq (.reg false qbdj [0, 1, 4, 5, 30]) (.cond (.t 30) .ret .skip)) (.seq (.reg false qbdi [0, 1, 4, 5, 6, 7]) (.seq (.reg false qbdh [0, 4, 5, 6, 7, 8]) (.seq (.seq (.reg false qbdg [0, 4, 5, 6, 7, 8, 36]) (.block 0 (.seq (.reg false qbdf [0, 4, 5, 6, 7, 8, 36, 37]) (.cond (.t 37) (.seq (.reg true qbde [0, 4, 5, 7, 8, 9]) (.seq (.seq (.reg false qbdd [0, 4, 5, 7, 8, 9, 49, 50, 51]) (.block 1 (.loop qam2))) (.seq (.reg false qa4a [0, 4, 5, 6, 7, 8, 9]) (.seq (.reg false qa39 [0, 4, 5, 6, 7, 8, 62, 63, 64]) (.block 3 (.loop qam1)))))) (.seq (.reg false qa34 [0, 4, 5, 6, 7, 8, 36, 76]) (.cond (.t 76) (.reg false qa33 [0, 4, 6, 7]) (.seq (.reg false qa32 [0, 4, 5, 6, 7, 8, 36, 84]) (.cond (.t 84) (.reg false qa31 [0, 4, 6, 7]) (.seq (.reg false qa30 [0, 4, 6, 7, 92]) (.cond (.t 92) (.seq (.reg false qa3z [0, 4, 6, 7]) (.reg false qa3y [0, 4, 6, 7])) .skip)))))))))) (.seq (.reg true qad0 [0, 4, 7]) (.seq (.reg false qadz [0, 4, 7, 122]) (.cond (.t 122) (.reg true qady []) .skip))))))))
theorem qao1 : comp Tryz.prog 134 ((Tryz.f110.body).getD .skip) = some c_fnode.erase := by kernel_rfl
abbrev qbgz : List SOper := [Oa 1 (.box 33 (.t 0)), Oa 2 (.mv (.c .nilsl)), Oa 3 (.alloc 37 [(.int .i64 0), (.int .i64 0)])]
abbrev qbgy : List SOper := [Oa 10 (.loads 7 (.t 1)), Oc 11 109 [(.t 10)], Oa 9 (.mv (.t 11)), Oa 12 (.extr (.t 9) 0), Oa 13 (.extr (.t 9) 1), Oa 5 (.alloc 37 [(.int .i64 0), (.int .i64 0)]), Oa 4 (.mv (.t 12)), Ob (.store 2 (.t 5) (.t 13))]
abbrev qbgx : List SOper := [Oa 14 (.faddr 0 (.t 5)), Oa 15 (.load (.t 14)), Oa 16 (.bin .neq (.t 15) (.c (.int .i64 0)))]
abbrev qbgw : List SOper := [Oa 17 (.loads 2 (.t 5)), Oa 2 (.mv (.c .nilsl)), ⟨none, .store 2 (.t 3) (.t 17), none, none, 3⟩]
abbrev qbgv : List SOper := [Oa 18 (.loads 7 (.t 1)), Oa 19 (.build [.nilsl, .nilsl, .nilsl, .nilsl, .nilsl, .nilsl, .nilsl, .nilsl, (.int .i64 0), (.int .i64 0)] [(0, 7, (.t 18))]), Oa 20 (.box 209 (.t 19)), Oa 6 (.mv (.t 20))]
abbrev qbgu : List SOper := [Oa 21 (.faddr 5 (.t 1)), Oa 22 (.load (.t 21)), Oa 23 (.len false (.t 22)), Oa 24 (.bin .add (.t 23) (.c (.int .i64 1))), Oa 25 (.mv (.c (.int .i64 0)))]
abbrev qbgt : List SOper := [Oa 26 (.bin .lss (.t 25) (.t 24))]
abbrev qbgs : List SOper := [Oa 27 (.mv (.t 6)), Oa 28 (.mv (.t 6)), Oa 29 (.nilc (.t 28)), Oa 30 (.faddr 7 (.t 29)), Oa 31 (.load (.t 30)), Oa 32 (.mkrow 22 1 1 [(.int .u64 0)] [(0, (.c (.int .u64 18446744073709551615)))]), Oa 33 (.app 22 1 8 (.t 31) (.t 32)), Oa 34 (.nilc (.t 27)), Oa 35 (.faddr 7 (.t 34)), Ob (.store 1 (.t 35) (.t 33))]
abbrev qbgr : List SOper := [Oa 36 (.bin .add (.t 25) (.c (.int .i64 1))), Oa 25 (.mv (.t 36))]
def qatv : SCode := (.seq (.reg false qbgt [1, 3, 4, 6, 24, 25, 26]) (.seq (.cond (.t 26) .skip (.exit 0)) (.seq (.block 1 (.reg false qbgs [1, 3, 4, 6, 24, 25])) (.reg false qbgr [1, 3, 4, 6, 24, 25]))))
abbrev qbds : List SOper := [Oa 37 (.mv (.t 4)), Oa 38 (.faddr 2 (.t 1)), Oa 39 (.load (.t 38)), Oa 40 (.len false (.t 39)), Oa 41 (.iaddr 5 (.t 37) (.t 40)), Oa 42 (.loads 5 (.t 41)), Oa 7 (.alloc 210 [(.int .u64 0), (.int .u64 0), (.int .i64 0), (.int .i64 0), (.bool false)]), Ob (.store 5 (.t 7) (.t 42))]
abbrev qbdr : List SOper := [Oa 43 (.faddr 4 (.t 7)), Oa 44 (.load (.t 43))]
abbrev qbdq : List SOper := [Oa 45 (.mv (.t 6)), Od 46 (.nilc (.t 45)) 1, Od 47 (.faddr 7 (.t 46)) 3, Od 48 (.load (.t 47)) 7, Oa 49 (.faddr 0 (.t 7)), Od 50 (.load (.t 49)) 16, Od 51 (.iaddr 1 (.t 48) (.c (.int .i64 0))) 63, ⟨none, .store 1 (.t 51) (.t 50), none, none, 127⟩]
abbrev qbdp : List SOper := [Oa 52 (.faddr 5 (.t 1)), Oa 53 (.load (.t 52)), Oa 54 (.len false (.t 53)), Oa 55 (.mv (.c (.int .i64 0)))]
abbrev qbdo : List SOper := [Oa 56 (.bin .lss (.t 55) (.t 54))]
abbrev qbdn : List SOper := [Oa 57 (.mv (.t 55)), Oa 8 (.mv (.t 57))]
abbrev qbdm : List SOper := [Oa 58 (.mv (.t 6)), Oa 59 (.mv (.t 8)), Oc 60 110 [(.t 58), (.t 59)]]
abbrev qbdl : List SOper := [Oa 61 (.bin .add (.t 55) (.c (.int .i64 1))), Oa 55 (.mv (.t 61))]
def c_flow_l2 : SCode := (.seq (.reg false qbdo [3, 6, 54, 55, 56]) (.seq (.cond (.t 56) .skip (.exit 2)) (.seq (.block 3 (.seq (.reg false qbdn [3, 6, 8, 54, 55]) (.reg false qbdm [3, 6, 54, 55]))) (.reg false qbdl [3, 6, 54, 55]))))
abbrev qam5 : List SOper := [Oa 62 (.mv (.t 6)), Oa 63 (.nilc (.t 62)), Oa 64 (.faddr 8 (.t 63)), Oa 65 (.faddr 0 (.t 64)), Oa 66 (.load (.t 65)), Oa 67 (.bin .neq (.t 66) (.c (.int .i64 0)))]
abbrev qam4 : List SOper := [Oa 68 (.mv (.t 6)), Od 69 (.nilc (.t 68)) 1, Od 70 (.faddr 8 (.t 69)) 3, Od 71 (.loads 2 (.t 70)) 7, Oa 2 (.mv (.c .nilsl)), ⟨none, .store 2 (.t 3) (.t 71), none, none, 31⟩]
abbrev qam3 : List SOper := [Oa 72 (.mv (.t 6)), Oa 73 (.nilc (.t 72)), Oa 74 (.faddr 7 (.t 73)), Oa 75 (.load (.t 74)), Oa 76 (.build [(.int .i64 0), (.int .i64 0)] []), Oa 2 (.mv (.t 75)), Ob (.store 2 (.t 3) (.t 76))]
def c_flow : SCode := (.seq (.reg false qbgz [1, 3]) (.seq (.reg false qbgy [1, 3, 4, 5]) (.seq (.seq (.reg false qbgx [1, 3, 4, 5, 16]) (.cond (.t 16) (.seq (.reg true qbgw [2, 3]) .ret) .skip)) (.seq (.reg false qbgv [1, 3, 4, 6]) (.seq (.seq (.reg false qbgu [1, 3, 4, 6, 24, 25]) (.block 0 (.loop qatv))) (.seq (.seq (.reg false qbds [1, 3, 6, 7]) (.seq (.reg false qbdr [1, 3, 6, 7, 44]) (.cond (.t 44) (.reg true qbdq [1, 3, 6]) .skip))) (.seq (.seq (.reg false qbdp [3, 6, 54, 55]) (.block 2 (.loop c_flow_l2))) (.seq (.seq (.reg false qam5 [3, 6, 67]) (.cond (.t 67) (.seq (.reg true qam4 [2, 3]) .ret) .skip)) (.seq (.reg false qam3 [2, 3]) .ret)))))))))
theorem qaum : comp Tryz.prog 77 ((Tryz.f56.body).getD .skip) = some c_flow.erase := by kernel_rfl
abbrev qa4g : List SOper := [Oa 1 (.box 33 (.t 0)), Oa 2 (.alloc 37 [(.int .i64 0), (.int .i64 0)])]
abbrev qa4f : List SOper := [Oa 6 (.loads 7 (.t 1)), Oc 7 56 [(.t 6)], Oa 5 (.mv (.t 7)), Oa 8 (.extr (.t 5) 0), Oa 9 (.extr (.t 5) 1), Oa 4 (.alloc 37 [(.int .i64 0), (.int .i64 0)]), Oa 3 (.mv (.t 8)), Ob (.store 2 (.t 4) (.t 9))]
abbrev qa4e : List SOper := [Oa 10 (.loads 2 (.t 4)), Ob (.store 2 (.t 2) (.t 10))]
def c_fcheck : SCode := (.seq (.reg false qa4g [1, 2]) (.seq (.reg false qa4f [2, 4]) (.seq (.reg false qa4e [2]) .ret)))
theorem qali : comp Tryz.prog 11 ((Tryz.f25.body).getD .skip) = some c_fcheck.erase := by kernel_rfl
abbrev qa9j : List SOper := [Oa 2 (.box 66 (.t 0)), Oa 4 (.mv (.c (.bool false)))]
abbrev qa9i : List SOper := [Oa 5 (.faddr 0 (.t 2)), Oa 6 (.load (.t 5)), Oa 7 (.bin .geq (.t 6) (.c (.int .i64 0))), Oa 8 (.mv (.t 7)), Oe 9 (.mv (.t 1)) 8 true, Oe 10 (.faddr 0 (.t 2)) 8 true, Oe 11 (.load (.t 10)) 8 true, ⟨(some 12), .mv (.c .any), some ((.c (.fn (.func 52) [] [])), [(.t 11)]), (some (8, true)), 0⟩, Oe 13 (.bin .and (.t 9) (.t 12)) 8 true, Oe 14 (.bin .eql (.t 13) (.c (.int .u64 0))) 8 true, Oa 15 (.pick (.t 8) (.t 14) (.c (.bool false))), Oa 4 (.mv (.t 15))]
def c_rgone : SCode := (.seq (.reg false qa9j [1, 2]) (.seq (.reg false qa9i [4]) .ret))
theorem qaoi : comp Tryz.prog 16 ((Tryz.f53.body).getD .skip) = some c_rgone.erase := by kernel_rfl
abbrev qawx : List SOper := [Oa 4 (.mv (.c (.bool false)))]
abbrev qaww : List SOper := [Oa 5 (.mv (.c (.int .i64 0)))]
abbrev qawv : List SOper := [Oa 6 (.mv (.t 5)), Oa 7 (.mv (.t 0)), Oa 8 (.len false (.t 7)), Oa 9 (.bin .lss (.t 6) (.t 8))]
abbrev qawu : List SOper := [Oa 12 (.mv (.t 0)), Oa 13 (.mv (.t 5)), Oa 14 (.iaddr 4 (.t 12) (.t 13)), Oa 15 (.faddr 0 (.t 14)), Oa 16 (.load (.t 15)), Oa 17 (.bin .eql (.t 16) (.c (.int .i64 2))), Oa 18 (.mv (.t 17)), Oe 19 (.mv (.t 0)) 18 true, Oe 20 (.mv (.t 5)) 18 true, Oe 21 (.iaddr 4 (.t 19) (.t 20)) 18 true, Oe 22 (.faddr 1 (.t 21)) 18 true, Oe 23 (.loads 2 (.t 22)) 18 true, Oe 24 (.mv (.t 1)) 18 true, ⟨(some 25), .mv (.c .any), some ((.c (.fn (.func 53) [] [])), [(.t 23), (.t 24)]), (some (18, true)), 0⟩, Oa 26 (.pick (.t 18) (.t 25) (.c (.bool false)))]
abbrev qawt : List SOper := [Oa 4 (.mv (.c (.bool true)))]
abbrev qaws : List SOper := [Oa 10 (.mv (.t 5)), Oa 11 (.bin .add (.t 10) (.c (.int .i64 1))), Oa 5 (.mv (.t 11))]
def qai8 : SCode := (.seq (.seq (.reg false qawv [0, 1, 5, 9]) (.cond (.t 9) .skip (.exit 0))) (.seq (.block 1 (.seq (.reg false qawu [0, 1, 5, 26]) (.cond (.t 26) (.seq (.reg false qawt [4]) .ret) .skip))) (.reg false qaws [0, 1, 5])))
abbrev qawr : List SOper := [Oa 4 (.mv (.c (.bool false)))]
def c_rtgone : SCode := (.seq (.reg false qawx [0, 1]) (.seq (.seq (.reg false qaww [0, 1, 5]) (.block 0 (.loop qai8))) (.seq (.reg false qawr [4]) .ret)))
theorem qala : comp Tryz.prog 27 ((Tryz.f55.body).getD .skip) = some c_rtgone.erase := by kernel_rfl
abbrev qbas : List SOper := [Oa 3 (.box 33 (.t 0)), Oa 6 (.mv (.c (.int .u64 0))), Oa 7 (.mv (.c (.bool false)))]
abbrev qbar : List SOper := [Oa 8 (.mv (.c (.bool false)))]
abbrev qbaq : List SOper := [Oa 9 (.mv (.c (.int .i64 0)))]
abbrev qbap : List SOper := [Oa 11 (.mv (.t 9)), Oa 12 (.faddr 3 (.t 3)), Oa 13 (.load (.t 12)), Oa 14 (.mv (.t 1)), Oa 15 (.iaddr 2 (.t 13) (.t 14)), Oa 16 (.faddr 1 (.t 15)), Oa 17 (.load (.t 16)), Oa 18 (.len false (.t 17)), Oa 19 (.bin .lss (.t 11) (.t 18))]
abbrev qbao : List SOper := [Oa 22 (.faddr 3 (.t 3)), Oa 23 (.load (.t 22)), Oa 24 (.mv (.t 1)), Oa 25 (.iaddr 2 (.t 23) (.t 24)), Oa 26 (.faddr 1 (.t 25)), Oa 27 (.load (.t 26)), Oa 28 (.mv (.t 9)), Oa 29 (.iaddr 5 (.t 27) (.t 28)), Oa 30 (.loads 5 (.t 29)), Oa 10 (.alloc 75 [(.int .i64 0), (.int .i64 0), (.int .i64 0), (.int .i64 0), .nilsl]), Ob (.store 5 (.t 10) (.t 30))]
abbrev qban : List SOper := [Oa 31 (.faddr 0 (.t 10)), Oa 32 (.load (.t 31))]
abbrev qbam : List SOper := [Oa 34 (.bin .eql (.t 32) (.c (.int .i64 1))), Oa 33 (.mv (.t 34))]
abbrev qbal : List SOper := [Oa 35 (.mv (.t 8)), Oa 36 (.mv (.t 35)), Oe 37 (.faddr 4 (.t 10)) 36 false, Oe 38 (.load (.t 37)) 36 false, Oe 39 (.mv (.t 2)) 36 false, ⟨(some 40), .mv (.c .any), some ((.c (.fn (.func 55) [] [])), [(.t 38), (.t 39)]), (some (36, false)), 0⟩, Oa 41 (.pick (.t 36) (.c (.bool true)) (.t 40)), Oa 42 (.mv (.t 41)), Oe 43 (.faddr 1 (.t 10)) 42 false, Oe 44 (.loads 2 (.t 43)) 42 false, Oe 45 (.mv (.t 2)) 42 false, ⟨(some 46), .mv (.c .any), some ((.c (.fn (.func 53) [] [])), [(.t 44), (.t 45)]), (some (42, false)), 0⟩, Oa 47 (.pick (.t 42) (.c (.bool true)) (.t 46)), Oa 8 (.mv (.t 47))]
abbrev qbak : List SOper := [Oa 49 (.bin .eql (.t 32) (.c (.int .i64 5))), Oa 48 (.mv (.t 49))]
abbrev qa1h : List SOper := [Oa 50 (.mv (.t 8)), Oa 51 (.mv (.t 50)), Oe 52 (.faddr 4 (.t 10)) 51 false, Oe 53 (.load (.t 52)) 51 false, Oe 54 (.mv (.t 2)) 51 false, ⟨(some 55), .mv (.c .any), some ((.c (.fn (.func 55) [] [])), [(.t 53), (.t 54)]), (some (51, false)), 0⟩, Oa 56 (.pick (.t 51) (.c (.bool true)) (.t 55)), Oa 8 (.mv (.t 56))]
abbrev qa1g : List SOper := [Oa 58 (.bin .eql (.t 32) (.c (.int .i64 6))), Oa 57 (.mv (.t 58))]
abbrev qa1f : List SOper := [Oa 59 (.mv (.t 8)), Oa 60 (.mv (.t 59)), Oe 61 (.mv (.t 2)) 60 false, Oe 62 (.faddr 3 (.t 10)) 60 false, Oe 63 (.load (.t 62)) 60 false, ⟨(some 64), .mv (.c .any), some ((.c (.fn (.func 52) [] [])), [(.t 63)]), (some (60, false)), 0⟩, Oe 65 (.bin .and (.t 61) (.t 64)) 60 false, Oe 66 (.bin .eql (.t 65) (.c (.int .u64 0))) 60 false, Oa 67 (.pick (.t 60) (.c (.bool true)) (.t 66)), Oa 68 (.mv (.t 67)), Oe 69 (.faddr 1 (.t 10)) 68 false, Oe 70 (.loads 2 (.t 69)) 68 false, Oe 71 (.mv (.t 2)) 68 false, ⟨(some 72), .mv (.c .any), some ((.c (.fn (.func 53) [] [])), [(.t 70), (.t 71)]), (some (68, false)), 0⟩, Oa 73 (.pick (.t 68) (.c (.bool true)) (.t 72)), Oa 8 (.mv (.t 73))]
abbrev qa1e : List SOper := [Oa 75 (.bin .eql (.t 32) (.c (.int .i64 2))), Oa 74 (.mv (.t 75))]
abbrev qa1d : List SOper := [Oa 76 (.mv (.t 2)), Oa 77 (.faddr 3 (.t 10)), Oa 78 (.load (.t 77)), Oc 79 52 [(.t 78)], Oa 80 (.bin .or (.t 76) (.t 79)), Oa 2 (.mv (.t 80))]
abbrev qa1c : List SOper := [Oa 82 (.bin .eql (.t 32) (.c (.int .i64 3))), Oa 81 (.mv (.t 82))]
abbrev qa1b : List SOper := [Oa 83 (.mv (.t 2)), Oa 84 (.mv (.t 2)), Oa 85 (.faddr 3 (.t 10)), Oa 86 (.load (.t 85)), Oc 87 52 [(.t 86)], Oa 88 (.bin .and (.t 84) (.t 87)), Oa 89 (.bin .sub (.t 83) (.t 88)), Oa 2 (.mv (.t 89))]
abbrev qa1a : List SOper := [Oa 20 (.mv (.t 9)), Oa 21 (.bin .add (.t 20) (.c (.int .i64 1))), Oa 9 (.mv (.t 21))]
def qama : SCode := (.seq (.seq (.reg false qbap [1, 2, 3, 8, 9, 19]) (.cond (.t 19) .skip (.exit 0))) (.seq (.block 1 (.seq (.reg false qbao [1, 2, 3, 8, 9, 10]) (.seq (.reg false qban [1, 2, 3, 8, 9, 10, 32]) (.block 2 (.seq (.reg false qbam [1, 2, 3, 8, 9, 10, 32, 33]) (.cond (.t 33) (.reg false qbal [1, 2, 3, 8, 9]) (.seq (.reg false qbak [1, 2, 3, 8, 9, 10, 32, 48]) (.cond (.t 48) (.reg false qa1h [1, 2, 3, 8, 9]) (.seq (.reg false qa1g [1, 2, 3, 8, 9, 10, 32, 57]) (.cond (.t 57) (.reg false qa1f [1, 2, 3, 8, 9]) (.seq (.reg false qa1e [1, 2, 3, 8, 9, 10, 32, 74]) (.cond (.t 74) (.reg false qa1d [1, 2, 3, 8, 9]) (.seq (.reg false qa1c [1, 2, 3, 8, 9, 10, 81]) (.cond (.t 81) (.reg false qa1b [1, 2, 3, 8, 9]) .skip)))))))))))))) (.reg false qa1a [1, 2, 3, 8, 9])))
abbrev qa09 : List SOper := [Oa 90 (.mv (.t 2)), Oa 91 (.mv (.t 8)), Oa 6 (.mv (.t 90)), Oa 7 (.mv (.t 91))]
def c_rbact : SCode := (.seq (.reg false qbas [1, 2, 3]) (.seq (.reg false qbar [1, 2, 3, 8]) (.seq (.seq (.reg false qbaq [1, 2, 3, 8, 9]) (.block 0 (.loop qama))) (.seq (.reg false qa09 [6, 7]) .ret))))
theorem qaon : comp Tryz.prog 92 ((Tryz.f54.body).getD .skip) = some c_rbact.erase := by kernel_rfl
abbrev qa08 : List SOper := [Oa 3 (.box 33 (.t 0)), Oa 6 (.mv (.c (.int .u64 0))), Oa 7 (.mv (.c (.int .u64 0))), Oa 8 (.mv (.c (.bool false)))]
abbrev qa07 : List SOper := [Oa 19 (.faddr 5 (.t 3)), Oa 20 (.load (.t 19)), Oa 21 (.mv (.t 1)), Oa 22 (.iaddr 5 (.t 20) (.t 21)), Oa 23 (.loads 5 (.t 22)), Oa 9 (.alloc 80 [(.int .i64 0), (.int .i64 0), .nilsl, (.int .i64 0), (.int .i64 0)]), Ob (.store 5 (.t 9) (.t 23))]
abbrev qa06 : List SOper := [Oa 24 (.faddr 0 (.t 9)), Oa 25 (.load (.t 24))]
abbrev qa05 : List SOper := [Oa 27 (.bin .eql (.t 25) (.c (.int .i64 1))), Oa 26 (.mv (.t 27))]
abbrev qa04 : List SOper := [Oa 28 (.faddr 4 (.t 3)), Oa 29 (.load (.t 28)), Oa 30 (.faddr 1 (.t 9)), Oa 31 (.load (.t 30)), Oa 32 (.iaddr 6 (.t 29) (.t 31)), Oa 33 (.loads 6 (.t 32)), Oa 10 (.alloc 78 [(.int .i64 0), .nilsl, .nilsl, (.int .i64 0), (.int .i64 0), .nilsl]), Ob (.store 6 (.t 10) (.t 33))]
abbrev qa03 : List SOper := [Oa 11 (.mv (.c (.bool false)))]
abbrev qa02 : List SOper := [Oa 12 (.mv (.c (.int .i64 0)))]
abbrev qa01 : List SOper := [Oa 34 (.mv (.t 12)), Oa 35 (.faddr 1 (.t 10)), Oa 36 (.load (.t 35)), Oa 37 (.len false (.t 36)), Oa 38 (.bin .lss (.t 34) (.t 37))]
abbrev qa00 : List SOper := [Oa 41 (.mv (.t 11)), Oa 42 (.mv (.t 41)), Oe 43 (.faddr 1 (.t 10)) 42 false, Oe 44 (.load (.t 43)) 42 false, Oe 45 (.mv (.t 12)) 42 false, Oe 46 (.iaddr 2 (.t 44) (.t 45)) 42 false, Oe 47 (.loads 2 (.t 46)) 42 false, Oe 48 (.mv (.t 2)) 42 false, ⟨(some 49), .mv (.c .any), some ((.c (.fn (.func 53) [] [])), [(.t 47), (.t 48)]), (some (42, false)), 0⟩, Oa 50 (.pick (.t 42) (.c (.bool true)) (.t 49)), Oa 11 (.mv (.t 50))]
abbrev qara : List SOper := [Oa 39 (.mv (.t 12)), Oa 40 (.bin .add (.t 39) (.c (.int .i64 1))), Oa 12 (.mv (.t 40))]
def qajd : SCode := (.seq (.seq (.reg false qa01 [2, 3, 10, 11, 12, 38]) (.cond (.t 38) .skip (.exit 1))) (.seq (.block 2 (.reg false qa00 [2, 3, 10, 11, 12])) (.reg false qara [2, 3, 10, 11, 12])))
abbrev qaq9 : List SOper := [Oa 13 (.mv (.c (.int .u64 18446744073709551615)))]
abbrev qaq8 : List SOper := [Oa 14 (.mv (.c (.int .i64 0)))]
abbrev qaq7 : List SOper := [Oa 51 (.mv (.t 14)), Oa 52 (.faddr 2 (.t 10)), Oa 53 (.load (.t 52)), Oa 54 (.len false (.t 53)), Oa 55 (.bin .lss (.t 51) (.t 54))]
abbrev qaq6 : List SOper := [Oa 59 (.loads 7 (.t 3)), Oa 60 (.faddr 2 (.t 10)), Od 61 (.load (.t 60)) 2, Oa 62 (.mv (.t 14)), Od 63 (.iaddr 1 (.t 61) (.t 62)) 14, Od 64 (.load (.t 63)) 30, Oa 65 (.mv (.t 2)), ⟨(some 66), .mv (.c .any), some ((.c (.fn (.func 54) [] [])), [(.t 59), (.t 64), (.t 65)]), none, 127⟩, Od 58 (.mv (.t 66)) 255, Od 67 (.extr (.t 58) 0) 511, Od 68 (.extr (.t 58) 1) 511, Od 15 (.mv (.t 67)) 1023, Od 16 (.mv (.t 68)) 4095]
abbrev qaq5 : List SOper := [Oa 69 (.mv (.t 13)), Oa 70 (.mv (.t 15)), Oa 71 (.bin .and (.t 69) (.t 70)), Oa 13 (.mv (.t 71))]
abbrev qaq4 : List SOper := [Oa 72 (.mv (.t 11)), Oa 73 (.mv (.t 72)), Oe 74 (.mv (.t 16)) 73 false, Oa 75 (.pick (.t 73) (.c (.bool true)) (.t 74)), Oa 11 (.mv (.t 75))]
abbrev qaq3 : List SOper := [Oa 56 (.mv (.t 14)), Oa 57 (.bin .add (.t 56) (.c (.int .i64 1))), Oa 14 (.mv (.t 57))]
def qajc : SCode := (.seq (.seq (.reg false qaq7 [2, 3, 10, 11, 13, 14, 55]) (.cond (.t 55) .skip (.exit 3))) (.seq (.block 4 (.seq (.reg true qaq6 [2, 3, 10, 11, 13, 14, 15, 16]) (.seq (.reg false qaq5 [2, 3, 10, 11, 13, 14, 16]) (.reg false qaq4 [2, 3, 10, 11, 13, 14])))) (.reg false qaq3 [2, 3, 10, 11, 13, 14])))
abbrev qaq2 : List SOper := [Oa 76 (.mv (.t 13)), Oa 77 (.mv (.t 2)), Oa 78 (.mv (.t 11)), Oa 6 (.mv (.t 76)), Oa 7 (.mv (.t 77)), Oa 8 (.mv (.t 78))]
abbrev qaq1 : List SOper := [Oa 80 (.bin .eql (.t 25) (.c (.int .i64 2))), Oa 79 (.mv (.t 80))]
abbrev qaq0 : List SOper := [Oa 82 (.loads 7 (.t 3)), Oa 83 (.faddr 1 (.t 9)), Oa 84 (.load (.t 83)), Oa 85 (.mv (.t 2)), Oc 86 54 [(.t 82), (.t 84), (.t 85)], Oa 81 (.mv (.t 86)), Oa 87 (.extr (.t 81) 0), Oa 88 (.extr (.t 81) 1), Oa 17 (.mv (.t 87)), Oa 18 (.mv (.t 88))]
abbrev qaqz : List SOper := [Oa 89 (.mv (.t 17)), Oa 90 (.mv (.t 2)), Oa 91 (.mv (.t 18)), Oa 6 (.mv (.t 89)), Oa 7 (.mv (.t 90)), Oa 8 (.mv (.t 91))]
abbrev qaqy : List SOper := [Oa 93 (.bin .eql (.t 25) (.c (.int .i64 3))), Oa 92 (.mv (.t 93))]
abbrev qaqx : List SOper := [Oa 94 (.mv (.t 2)), Oa 95 (.mv (.t 2)), Oa 96 (.faddr 2 (.t 9)), Oa 97 (.load (.t 96)), Oa 98 (.mv (.t 2)), Oc 99 55 [(.t 97), (.t 98)], Oa 6 (.mv (.t 94)), Oa 7 (.mv (.t 95)), Oa 8 (.mv (.t 99))]
abbrev qaqw : List SOper := [Oa 100 (.mv (.t 2)), Oa 101 (.faddr 1 (.t 9)), Od 102 (.load (.t 101)) 2, ⟨(some 103), .mv (.c .any), some ((.c (.fn (.func 52) [] [])), [(.t 102)]), none, 6⟩, Od 104 (.bin .or (.t 100) (.t 103)) 15, Oa 105 (.mv (.t 2)), Oa 106 (.mv (.t 2)), Oa 107 (.faddr 1 (.t 9)), Od 108 (.load (.t 107)) 128, ⟨(some 109), .mv (.c .any), some ((.c (.fn (.func 52) [] [])), [(.t 108)]), none, 398⟩, Od 110 (.bin .and (.t 106) (.t 109)) 974, Od 111 (.bin .sub (.t 105) (.t 110)) 2030, Od 6 (.mv (.t 104)) 927, Od 7 (.mv (.t 111)) 8191, Od 8 (.mv (.c (.bool false))) 16383]
def c_rbnode : SCode := (.seq (.reg false qa08 [1, 2, 3]) (.seq (.reg false qa07 [2, 3, 9]) (.seq (.seq (.reg false qa06 [2, 3, 9, 25]) (.block 0 (.seq (.reg false qa05 [2, 3, 9, 25, 26]) (.cond (.t 26) (.seq (.reg false qa04 [2, 3, 10]) (.seq (.reg false qa03 [2, 3, 10, 11]) (.seq (.seq (.reg false qa02 [2, 3, 10, 11, 12]) (.block 1 (.loop qajd))) (.seq (.reg false qaq9 [2, 3, 10, 11, 13]) (.seq (.seq (.reg false qaq8 [2, 3, 10, 11, 13, 14]) (.block 3 (.loop qajc))) (.seq (.reg false qaq2 [6, 7, 8]) .ret)))))) (.seq (.reg false qaq1 [2, 3, 9, 25, 79]) (.cond (.t 79) (.seq (.reg false qaq0 [2, 17, 18]) (.seq (.reg false qaqz [6, 7, 8]) .ret)) (.seq (.reg false qaqy [2, 9, 92]) (.cond (.t 92) (.seq (.reg false qaqx [6, 7, 8]) .ret) .skip)))))))) (.seq (.reg true qaqw [6, 7, 8]) .ret))))
theorem qalf : comp Tryz.prog 112 ((Tryz.f23.body).getD .skip) = some c_rbnode.erase := by kernel_rfl
abbrev qa8f : List SOper := [Oa 3 (.box 33 (.t 0)), Oa 6 (.mv (.c (.int .u64 0)))]
abbrev qa8e : List SOper := [Oa 15 (.mv (.t 2)), Oa 16 (.bin .eql (.t 15) (.c (.int .i64 0)))]
abbrev qa8d : List SOper := [Oa 17 (.mv (.t 1)), Oa 6 (.mv (.t 17))]
abbrev qa8c : List SOper := [Oa 7 (.mv (.c (.int .u64 18446744073709551615)))]
abbrev qa8b : List SOper := [Oa 8 (.mv (.c (.int .i64 0)))]
abbrev qa8a : List SOper := [Oa 18 (.mv (.t 8)), Oa 19 (.mv (.t 2)), Oa 20 (.bin .lss (.t 18) (.t 19))]
abbrev qa79 : List SOper := [Oa 23 (.faddr 5 (.t 3)), Oa 24 (.load (.t 23)), Oa 25 (.mv (.t 8)), Oa 26 (.iaddr 5 (.t 24) (.t 25)), Oa 27 (.loads 5 (.t 26)), Oa 9 (.alloc 80 [(.int .i64 0), (.int .i64 0), .nilsl, (.int .i64 0), (.int .i64 0)]), Ob (.store 5 (.t 9) (.t 27))]
abbrev qa78 : List SOper := [Oa 28 (.faddr 0 (.t 9)), Oa 29 (.load (.t 28)), Oa 30 (.bin .eql (.t 29) (.c (.int .i64 3))), Oa 31 (.mv (.t 30)), Oe 32 (.faddr 0 (.t 9)) 31 false, Oe 33 (.load (.t 32)) 31 false, Oe 34 (.bin .eql (.t 33) (.c (.int .i64 4))) 31 false, Oa 35 (.pick (.t 31) (.c (.bool true)) (.t 34)), Oa 10 (.mv (.t 35))]
abbrev qa77 : List SOper := [Oa 36 (.faddr 3 (.t 9)), Oa 37 (.load (.t 36)), Oa 38 (.mv (.t 2)), Oa 39 (.bin .neq (.t 37) (.t 38)), Oa 40 (.mv (.t 39)), Oe 41 (.mv (.t 10)) 40 true, Oe 42 (.un .not (.t 41)) 40 true, Oe 43 (.mv (.t 42)) 40 true, Oe 44 (.faddr 4 (.t 9)) 43 false, Oe 45 (.load (.t 44)) 43 false, Oe 46 (.mv (.t 2)) 43 false, Oe 47 (.bin .neq (.t 45) (.t 46)) 43 false, Oe 48 (.pick (.t 43) (.c (.bool true)) (.t 47)) 40 true, Oa 49 (.pick (.t 40) (.t 48) (.c (.bool false)))]
abbrev qaxj : List SOper := [Oa 50 (.loads 7 (.t 3)), Oa 51 (.mv (.t 1)), Oa 52 (.mv (.t 8)), Oc 53 22 [(.t 50), (.t 51), (.t 52)], Oa 11 (.mv (.t 53))]
abbrev qaxi : List SOper := [Oa 54 (.mv (.t 11)), Oa 55 (.bin .eql (.t 54) (.c (.int .u64 18446744073709551615)))]
abbrev qaxh : List SOper := [Oa 57 (.loads 7 (.t 3)), Oa 58 (.mv (.t 8)), Oa 59 (.mv (.t 11)), Oc 60 23 [(.t 57), (.t 58), (.t 59)], Oa 56 (.mv (.t 60)), Oa 61 (.extr (.t 56) 0), Oa 62 (.extr (.t 56) 1), Oa 63 (.extr (.t 56) 2), Oa 12 (.mv (.t 61)), Oa 13 (.mv (.t 62)), Oa 14 (.mv (.t 63))]
abbrev qaxg : List SOper := [Oa 64 (.faddr 3 (.t 9)), Oa 65 (.load (.t 64)), Oa 66 (.mv (.t 2)), Oa 67 (.bin .eql (.t 65) (.t 66))]
abbrev qaxf : List SOper := [Oa 68 (.mv (.t 7)), Oa 69 (.mv (.t 12)), Oa 70 (.bin .and (.t 68) (.t 69)), Oa 7 (.mv (.t 70))]
abbrev qaxe : List SOper := [Oa 71 (.mv (.t 10)), Oa 72 (.mv (.t 71)), Oe 73 (.faddr 4 (.t 9)) 72 true, Oe 74 (.load (.t 73)) 72 true, Oe 75 (.mv (.t 2)) 72 true, Oe 76 (.bin .eql (.t 74) (.t 75)) 72 true, Oa 77 (.pick (.t 72) (.t 76) (.c (.bool false)))]
abbrev qaxd : List SOper := [Oa 78 (.mv (.t 7)), Oa 79 (.mv (.t 13)), Oa 80 (.bin .and (.t 78) (.t 79)), Oa 7 (.mv (.t 80))]
abbrev qaxc : List SOper := [Oa 21 (.mv (.t 8)), Oa 22 (.bin .add (.t 21) (.c (.int .i64 1))), Oa 8 (.mv (.t 22))]
def qals : SCode := (.seq (.seq (.reg false qa8a [1, 2, 3, 7, 8, 20]) (.cond (.t 20) .skip (.exit 0))) (.seq (.block 1 (.seq (.reg false qa79 [1, 2, 3, 7, 8, 9]) (.seq (.reg false qa78 [1, 2, 3, 7, 8, 9, 10]) (.seq (.seq (.reg false qa77 [1, 2, 3, 7, 8, 9, 10, 49]) (.cond (.t 49) (.exit 1) .skip)) (.seq (.reg false qaxj [1, 2, 3, 7, 8, 9, 10, 11]) (.seq (.seq (.reg false qaxi [1, 2, 3, 7, 8, 9, 10, 11, 55]) (.cond (.t 55) (.exit 1) .skip)) (.seq (.reg false qaxh [1, 2, 3, 7, 8, 9, 10, 12, 13]) (.seq (.seq (.reg false qaxg [1, 2, 3, 7, 8, 9, 10, 12, 13, 67]) (.cond (.t 67) (.reg false qaxf [1, 2, 3, 7, 8, 9, 10, 13]) .skip)) (.seq (.reg false qaxe [1, 2, 3, 7, 8, 13, 77]) (.cond (.t 77) (.reg false qaxd [1, 2, 3, 7, 8]) .skip)))))))))) (.reg false qaxc [1, 2, 3, 7, 8])))
abbrev qaxb : List SOper := [Oa 81 (.mv (.t 7)), Oa 6 (.mv (.t 81))]
def c_rsure : SCode := (.seq (.reg false qa8f [1, 2, 3]) (.seq (.seq (.reg false qa8e [1, 2, 3, 16]) (.cond (.t 16) (.seq (.reg false qa8d [6]) .ret) .skip)) (.seq (.reg false qa8c [1, 2, 3, 7]) (.seq (.seq (.reg false qa8b [1, 2, 3, 7, 8]) (.block 0 (.loop qals))) (.seq (.reg false qaxb [6]) .ret)))))
theorem qaoc : comp Tryz.prog 82 ((Tryz.f22.body).getD .skip) = some c_rsure.erase := by kernel_rfl
abbrev qa91 : List SOper := [Oa 1 (.box 33 (.t 0)), Oa 2 (.mv (.c .nilsl)), Oa 3 (.alloc 37 [(.int .i64 0), (.int .i64 0)])]
abbrev qa90 : List SOper := [Oa 14 (.loads 7 (.t 1)), Oc 15 21 [(.t 14)], Oa 13 (.mv (.t 15)), Oa 16 (.extr (.t 13) 0), Oa 17 (.extr (.t 13) 1), Oa 5 (.alloc 37 [(.int .i64 0), (.int .i64 0)]), Oa 4 (.mv (.t 16)), Ob (.store 2 (.t 5) (.t 17))]
abbrev qa9z : List SOper := [Oa 18 (.faddr 0 (.t 5)), Oa 19 (.load (.t 18)), Oa 20 (.bin .neq (.t 19) (.c (.int .i64 0)))]
abbrev qa9y : List SOper := [Oa 21 (.loads 2 (.t 5)), Oa 2 (.mv (.c .nilsl)), ⟨none, .store 2 (.t 3) (.t 21), none, none, 3⟩]
abbrev qa9x : List SOper := [Oa 6 (.mv (.c (.int .u64 18446744073709551615)))]
abbrev qa9w : List SOper := [Oa 22 (.mv (.t 4)), Oa 23 (.faddr 2 (.t 1)), Oa 24 (.load (.t 23)), Oa 25 (.len false (.t 24)), Oa 26 (.iaddr 5 (.t 22) (.t 25)), Oa 27 (.faddr 4 (.t 26)), Oa 28 (.load (.t 27))]
abbrev qa9v : List SOper := [Oa 29 (.mv (.t 4)), Oa 30 (.faddr 2 (.t 1)), Oa 31 (.load (.t 30)), Oa 32 (.len false (.t 31)), Oa 33 (.iaddr 5 (.t 29) (.t 32)), Oa 34 (.faddr 0 (.t 33)), Oa 35 (.load (.t 34)), Oa 6 (.mv (.t 35))]
abbrev qa9u : List SOper := [Oa 7 (.mv (.c .nilsl))]
abbrev qa9t : List SOper := [Oa 8 (.mv (.c (.int .i64 0)))]
abbrev qa0j : List SOper := [Oa 36 (.mv (.t 8)), Oa 37 (.faddr 5 (.t 1)), Oa 38 (.load (.t 37)), Oa 39 (.len false (.t 38)), Oa 40 (.bin .leq (.t 36) (.t 39))]
abbrev qa0i : List SOper := [Oa 43 (.loads 7 (.t 1)), Oa 44 (.mv (.t 6)), Oa 45 (.mv (.t 8)), Oc 46 22 [(.t 43), (.t 44), (.t 45)], Oa 9 (.mv (.t 46))]
abbrev qa0h : List SOper := [Oa 47 (.mv (.t 8)), Oa 48 (.faddr 5 (.t 1)), Oa 49 (.load (.t 48)), Oa 50 (.len false (.t 49)), Oa 51 (.bin .lss (.t 47) (.t 50)), Oa 52 (.mv (.t 51)), Oe 53 (.mv (.t 9)) 52 true, Oe 54 (.bin .neq (.t 53) (.c (.int .u64 18446744073709551615))) 52 true, Oa 55 (.pick (.t 52) (.t 54) (.c (.bool false)))]
abbrev qa0g : List SOper := [Oa 57 (.loads 7 (.t 1)), Oa 58 (.mv (.t 8)), Oa 59 (.mv (.t 9)), Oc 60 23 [(.t 57), (.t 58), (.t 59)], Oa 56 (.mv (.t 60)), Oa 61 (.extr (.t 56) 0), Oa 62 (.extr (.t 56) 1), Oa 63 (.extr (.t 56) 2), Oa 10 (.mv (.t 61)), Oa 11 (.mv (.t 62)), Oa 12 (.mv (.t 63))]
abbrev qa0f : List SOper := [Oa 64 (.mv (.t 12))]
abbrev qa0e : List SOper := [Oa 65 (.mv (.t 8)), Oa 66 (.bin .add (.c (.int .i64 6000)) (.t 65)), Oc 67 24 [(.c (.int .i64 12)), (.t 66)], Oa 2 (.mv (.c .nilsl)), Ob (.store 2 (.t 3) (.t 67))]
abbrev qa0d : List SOper := [Oa 68 (.mv (.t 7)), Oa 69 (.mv (.t 9)), Oa 70 (.mkrow 22 1 1 [(.int .u64 0)] [(0, (.t 69))]), Oa 71 (.app 22 1 8 (.t 68) (.t 70)), Oa 7 (.mv (.t 71))]
abbrev qa0c : List SOper := [Oa 41 (.mv (.t 8)), Oa 42 (.bin .add (.t 41) (.c (.int .i64 1))), Oa 8 (.mv (.t 42))]
def c_rflow_l1 : SCode := (.seq (.seq (.reg false qa0j [1, 3, 6, 7, 8, 40]) (.cond (.t 40) .skip (.exit 0))) (.seq (.block 1 (.seq (.reg false qa0i [1, 3, 6, 7, 8, 9]) (.seq (.seq (.reg false qa0h [1, 3, 6, 7, 8, 9, 55]) (.cond (.t 55) (.seq (.reg false qa0g [1, 3, 6, 7, 8, 9, 12]) (.seq (.reg false qa0f [1, 3, 6, 7, 8, 9, 64]) (.cond (.t 64) (.seq (.reg false qa0e [2, 3]) .ret) .skip))) .skip)) (.reg false qa0d [1, 3, 6, 7, 8])))) (.reg false qa0c [1, 3, 6, 7, 8])))
abbrev qagx : List SOper := [Oa 72 (.mv (.t 7)), Oa 73 (.build [(.int .i64 0), (.int .i64 0)] []), Oa 2 (.mv (.t 72)), Ob (.store 2 (.t 3) (.t 73))]
def c_rflow : SCode := (.seq (.reg false qa91 [1, 3]) (.seq (.reg false qa90 [1, 3, 4, 5]) (.seq (.seq (.reg false qa9z [1, 3, 4, 5, 20]) (.cond (.t 20) (.seq (.reg true qa9y [2, 3]) .ret) .skip)) (.seq (.reg false qa9x [1, 3, 4, 6]) (.seq (.seq (.reg false qa9w [1, 3, 4, 6, 28]) (.cond (.t 28) (.reg false qa9v [1, 3, 6]) .skip)) (.seq (.reg false qa9u [1, 3, 6, 7]) (.seq (.seq (.reg false qa9t [1, 3, 6, 7, 8]) (.block 0 (.loop c_rflow_l1))) (.seq (.reg false qagx [2, 3]) .ret))))))))
theorem qaok : comp Tryz.prog 74 ((Tryz.f10.body).getD .skip) = some c_rflow.erase := by kernel_rfl
end Go.Proofs.YteoijlmgiemffaaGreat
namespace Go.Proofs.YteoijlmgiemffaaGreat
set_option linter.all false
open Go.RowKit
abbrev qa6x : List SOper := [Oa 2 (.box 210 (.t 0)), Oa 3 (.box 210 (.t 1)), Oa 4 (.alloc 210 [(.int .u64 0), (.int .u64 0), (.int .i64 0), (.int .i64 0), (.bool false)])]
abbrev qa6w : List SOper := [Oa 5 (.faddr 4 (.t 2)), Oa 6 (.load (.t 5)), Oa 7 (.un .not (.t 6))]
abbrev qa6v : List SOper := [Oa 8 (.loads 5 (.t 3)), Ob (.store 5 (.t 4) (.t 8))]
abbrev qa6u : List SOper := [Oa 9 (.faddr 0 (.t 2)), Oa 10 (.load (.t 9)), Oa 11 (.faddr 0 (.t 3)), Oa 12 (.load (.t 11)), Oa 13 (.bin .and (.t 10) (.t 12)), Oa 14 (.faddr 1 (.t 2)), Oa 15 (.load (.t 14)), Oa 16 (.faddr 1 (.t 3)), Oa 17 (.load (.t 16)), Oa 18 (.bin .or (.t 15) (.t 17)), Oa 19 (.faddr 2 (.t 2)), Oa 20 (.load (.t 19)), Oa 21 (.faddr 2 (.t 3)), Oa 22 (.load (.t 21)), Oa 23 (.mm false (.t 20) (.t 22)), Oa 24 (.faddr 3 (.t 2)), Oa 25 (.load (.t 24)), Oa 26 (.faddr 3 (.t 3)), Oa 27 (.load (.t 26)), Oa 28 (.mm true (.t 25) (.t 27)), Oa 29 (.build [(.int .u64 0), (.int .u64 0), (.int .i64 0), (.int .i64 0), (.bool false)] [(0, 1, (.t 13)), (1, 1, (.t 18)), (2, 1, (.t 23)), (3, 1, (.t 28)), (4, 1, (.c (.bool true)))]), Ob (.store 5 (.t 4) (.t 29))]
def c_wjoin : SCode := (.seq (.reg false qa6x [2, 3, 4]) (.seq (.seq (.reg false qa6w [2, 3, 4, 7]) (.cond (.t 7) (.seq (.reg false qa6v [4]) .ret) .skip)) (.seq (.reg false qa6u [4]) .ret)))
theorem qan6 : comp Tryz.prog 30 ((Tryz.f181.body).getD .skip) = some c_wjoin.erase := by kernel_rfl
abbrev qa68 : List SOper := [Oa 8 (.mv (.t 1)), Oa 9 (.mv (.t 8)), Oe 10 (.mv (.t 0)) 9 true, Oe 11 (.nilc (.t 10)) 9 true, Oe 12 (.faddr 8 (.t 11)) 9 true, Oe 13 (.faddr 0 (.t 12)) 9 true, Oe 14 (.load (.t 13)) 9 true, Oe 15 (.bin .eql (.t 14) (.c (.int .i64 0))) 9 true, Oa 16 (.pick (.t 9) (.t 15) (.c (.bool false)))]
abbrev qa67 : List SOper := [Oa 17 (.mv (.t 0)), Oa 18 (.mv (.t 2)), Oa 19 (.mv (.t 3)), Oa 20 (.build [(.int .i64 0), (.int .i64 0)] [(0, 1, (.t 18)), (1, 1, (.t 19))]), Oa 21 (.nilc (.t 17)), Oa 22 (.faddr 8 (.t 21)), Ob (.store 2 (.t 22) (.t 20))]
def c_wfail : SCode := (.seq (.reg false qa68 [0, 2, 3, 16]) (.cond (.t 16) (.reg false qa67 []) .skip))
theorem qan8 : comp Tryz.prog 23 ((Tryz.f161.body).getD .skip) = some c_wfail.erase := by kernel_rfl
abbrev qbkf : List SOper := [Oa 5 (.box 210 (.t 2))]
abbrev qbke : List SOper := [Oa 6 (.mv (.t 1)), Oa 7 (.bin .eql (.t 6) (.c (.int .i64 1000)))]
abbrev qbkd : List SOper := [Oa 8 (.mv (.t 0)), Oa 9 (.nilc (.t 8)), Oa 10 (.faddr 0 (.t 9)), Oa 11 (.faddr 2 (.t 10)), Oa 12 (.load (.t 11)), Oa 13 (.len false (.t 12)), Oa 1 (.mv (.t 13))]
abbrev qbkc : List SOper := [Oa 14 (.mv (.t 1)), Oa 15 (.mv (.t 0)), Oa 16 (.nilc (.t 15)), Oa 17 (.faddr 0 (.t 16)), Oa 18 (.faddr 2 (.t 17)), Oa 19 (.load (.t 18)), Oa 20 (.len false (.t 19)), Oa 21 (.bin .leq (.t 14) (.t 20))]
abbrev qbkb : List SOper := [Oa 22 (.mv (.t 0)), Od 23 (.nilc (.t 22)) 1, Od 24 (.faddr 7 (.t 23)) 3, Od 25 (.load (.t 24)) 7, Oa 26 (.mv (.t 1)), Oa 27 (.mv (.t 0)), Od 28 (.nilc (.t 27)) 32, Od 29 (.faddr 7 (.t 28)) 96, Od 30 (.load (.t 29)) 224, Oa 31 (.mv (.t 1)), Od 32 (.iaddr 5 (.t 30) (.t 31)) 992, Od 33 (.loads 5 (.t 32)) 2016, Oa 34 (.loads 5 (.t 5)), ⟨(some 35), .mv (.c .any), some ((.c (.fn (.func 181) [] [])), [(.t 33), (.t 34)]), none, 8160⟩, Od 36 (.iaddr 5 (.t 25) (.t 26)) 16383, ⟨none, .store 5 (.t 36) (.t 35), none, none, 32767⟩]
def c_wto : SCode := (.seq (.reg false qbkf [0, 1, 5]) (.seq (.seq (.reg false qbke [0, 1, 5, 7]) (.cond (.t 7) (.reg false qbkd [0, 1, 5]) .skip)) (.seq (.reg false qbkc [0, 1, 5, 21]) (.cond (.t 21) (.reg true qbkb []) .skip))))
theorem qa6k : comp Tryz.prog 37 ((Tryz.f163.body).getD .skip) = some c_wto.erase := by kernel_rfl
abbrev qbfn : List SOper := [Oa 2 (.mv (.c (.int .u64 0)))]
abbrev qbfm : List SOper := [Oa 3 (.mv (.t 0)), Oa 4 (.bin .shl (.c (.int .u64 1)) (.t 3)), Oa 2 (.mv (.t 4))]
def c_wbit : SCode := (.seq (.reg false qbfn [0]) (.seq (.reg false qbfm [2]) .ret))
theorem qaue : comp Tryz.prog 5 ((Tryz.f162.body).getD .skip) = some c_wbit.erase := by kernel_rfl
abbrev qau1 : List SOper := [Oa 10 (.mv (.t 0)), Od 11 (.nilc (.t 10)) 1, Od 12 (.faddr 0 (.t 11)) 3, Od 13 (.faddr 2 (.t 12)) 7, Od 14 (.load (.t 13)) 15, Oa 15 (.mv (.t 1)), Od 16 (.iaddr 5 (.t 14) (.t 15)) 63, Od 17 (.loads 5 (.t 16)) 127, Oa 18 (.mv (.t 0)), Od 19 (.nilc (.t 18)) 256, Od 20 (.faddr 7 (.t 19)) 768, Od 21 (.load (.t 20)) 1792, Oa 22 (.mv (.t 1)), Od 23 (.iaddr 5 (.t 21) (.t 22)) 7936, Od 24 (.loads 5 (.t 23)) 16128, Oa 4 (.alloc 69 [(.int .i64 0), (.int .i64 0), (.int .i64 0), .nilsl, (.int .i64 0)]), Oa 5 (.alloc 210 [(.int .u64 0), (.int .u64 0), (.int .i64 0), (.int .i64 0), (.bool false)]), ⟨none, .store 5 (.t 4) (.t 17), none, none, 98559⟩, ⟨none, .store 5 (.t 5) (.t 24), none, none, 262143⟩]
abbrev qau0 : List SOper := [Oa 25 (.faddr 4 (.t 5)), Oa 26 (.load (.t 25)), Oa 27 (.un .not (.t 26))]
abbrev qauz : List SOper := [Oa 28 (.faddr 0 (.t 4)), Oa 29 (.load (.t 28)), Oa 30 (.bin .geq (.t 29) (.c (.int .i64 0)))]
abbrev qauy : List SOper := [Oa 31 (.mv (.t 0)), Oa 32 (.faddr 1 (.t 5)), Od 33 (.load (.t 32)) 2, Oa 34 (.faddr 0 (.t 4)), Od 35 (.load (.t 34)) 8, ⟨(some 36), .mv (.c .any), some ((.c (.fn (.func 162) [] [])), [(.t 35)]), none, 24⟩, Od 37 (.bin .and (.t 33) (.t 36)) 62, Od 38 (.bin .neq (.t 37) (.c (.int .u64 0))) 126, Oa 39 (.mv (.t 1)), Od 40 (.bin .add (.c (.int .i64 3000)) (.t 39)) 256, ⟨(some 41), .mv (.c .any), some ((.c (.fn (.func 161) [] [])), [(.t 31), (.t 38), (.c (.int .i64 7)), (.t 40)]), none, 1023⟩]
abbrev qaux : List SOper := [Oa 43 (.mv (.t 0)), Od 44 (.nilc (.t 43)) 1, Od 45 (.faddr 0 (.t 44)) 3, Od 46 (.faddr 0 (.t 45)) 7, Od 47 (.load (.t 46)) 15, Oa 48 (.faddr 0 (.t 4)), Od 49 (.load (.t 48)) 32, Od 50 (.iaddr 1 (.t 47) (.t 49)) 127, Od 51 (.loads 1 (.t 50)) 255, ⟨(some 52), .mv (.c .any), some ((.c (.fn (.func 68) [] [])), [(.t 51)]), none, 511⟩, Od 42 (.mv (.t 52)) 1023, Od 53 (.extr (.t 42) 0) 2047, Od 54 (.extr (.t 42) 1) 2047, Oa 7 (.alloc 37 [(.int .i64 0), (.int .i64 0)]), Od 6 (.mv (.t 53)) 12287, ⟨none, .store 2 (.t 7) (.t 54), none, none, 32767⟩]
abbrev qauw : List SOper := [Oa 55 (.faddr 0 (.t 5)), Od 56 (.load (.t 55)) 1, Oa 57 (.faddr 0 (.t 4)), Od 58 (.load (.t 57)) 4, ⟨(some 59), .mv (.c .any), some ((.c (.fn (.func 162) [] [])), [(.t 58)]), none, 12⟩, Od 60 (.bin .or (.t 56) (.t 59)) 31, Oa 61 (.faddr 1 (.t 5)), Od 62 (.load (.t 61)) 64, Oa 63 (.faddr 0 (.t 4)), Od 64 (.load (.t 63)) 256, ⟨(some 65), .mv (.c .any), some ((.c (.fn (.func 162) [] [])), [(.t 64)]), none, 796⟩, Od 66 (.bin .or (.t 62) (.t 65)) 2012, Oa 67 (.faddr 2 (.t 5)), Od 68 (.load (.t 67)) 4096, Oa 69 (.mv (.t 6)), Od 70 (.bin .add (.t 68) (.t 69)) 28672, Oa 71 (.faddr 3 (.t 5)), Od 72 (.load (.t 71)) 65536, Oa 73 (.mv (.t 6)), Od 74 (.bin .add (.t 72) (.t 73)) 458752, Od 75 (.build [(.int .u64 0), (.int .u64 0), (.int .i64 0), (.int .i64 0), (.bool false)] [(0, 1, (.t 60)), (1, 1, (.t 66)), (2, 1, (.t 70)), (3, 1, (.t 74)), (4, 1, (.c (.bool true)))]) 1048575, ⟨none, .store 5 (.t 5) (.t 75), none, none, 2097151⟩]
abbrev qauv : List SOper := [Oa 76 (.faddr 3 (.t 4)), Oa 77 (.load (.t 76)), Oa 78 (.len false (.t 77)), Oa 79 (.bin .gtr (.t 78) (.c (.int .i64 0)))]
abbrev qauu : List SOper := [Oa 80 (.mv (.t 0)), Oa 81 (.faddr 1 (.t 4)), Od 82 (.faddr 0 (.t 81)) 2, Od 83 (.load (.t 82)) 6, Od 84 (.bin .geq (.t 83) (.c (.int .i64 0))) 14, Od 85 (.mv (.t 84)) 30, Of 86 (.faddr 0 (.t 5)) 85 true 62, Of 87 (.load (.t 86)) 85 true 126, Of 88 (.faddr 1 (.t 4)) 85 true 62, Of 89 (.faddr 0 (.t 88)) 85 true 318, Of 90 (.load (.t 89)) 85 true 830, ⟨(some 91), .mv (.c .any), some ((.c (.fn (.func 162) [] [])), [(.t 90)]), (some (85, true)), 1854⟩, Of 92 (.bin .and (.t 87) (.t 91)) 85 true 4094, Of 93 (.bin .eql (.t 92) (.c (.int .u64 0))) 85 true 8190, Od 94 (.pick (.t 85) (.t 93) (.c (.bool false))) 16382, Oa 95 (.mv (.t 1)), Od 96 (.bin .add (.c (.int .i64 3000)) (.t 95)) 32768, ⟨(some 97), .mv (.c .any), some ((.c (.fn (.func 161) [] [])), [(.t 80), (.t 94), (.c (.int .i64 12)), (.t 96)]), none, 131071⟩]
abbrev qaut : List SOper := [Oa 98 (.faddr 3 (.t 4)), Oa 99 (.load (.t 98)), Oa 100 (.len false (.t 99)), Oa 101 (.mv (.c (.int .i64 0)))]
abbrev qao8 : List SOper := [Oa 102 (.bin .lss (.t 101) (.t 100))]
abbrev qao7 : List SOper := [Oa 103 (.iaddr 3 (.t 99) (.t 101)), Oa 104 (.loads 3 (.t 103)), Oa 9 (.alloc 145 [(.int .u64 0), (.int .u64 0), (.int .i64 0)]), Ob (.store 3 (.t 9) (.t 104))]
abbrev qao6 : List SOper := [Oa 105 (.mv (.t 0)), Oa 106 (.faddr 2 (.t 9)), Oa 107 (.load (.t 106)), Oa 108 (.loads 5 (.t 5)), Oc 109 163 [(.t 105), (.t 107), (.t 108)]]
abbrev qao5 : List SOper := [Oa 110 (.bin .add (.t 101) (.c (.int .i64 1))), Oa 101 (.mv (.t 110))]
def c_wstate_l1 : SCode := (.seq (.reg false qao8 [0, 4, 5, 99, 100, 101, 102]) (.seq (.cond (.t 102) .skip (.exit 0)) (.seq (.block 1 (.seq (.reg false qao7 [0, 4, 5, 9, 99, 100, 101]) (.reg false qao6 [0, 4, 5, 99, 100, 101]))) (.reg false qao5 [0, 4, 5, 99, 100, 101]))))
abbrev qah2 : List SOper := [Oa 111 (.mv (.t 0)), Oa 112 (.faddr 4 (.t 4)), Oa 113 (.load (.t 112)), Oa 114 (.loads 5 (.t 5)), Oc 115 163 [(.t 111), (.t 113), (.t 114)]]
def c_wstate : SCode := (.seq (.reg true qau1 [0, 1, 4, 5]) (.seq (.seq (.reg false qau0 [0, 1, 4, 5, 27]) (.cond (.t 27) .ret .skip)) (.seq (.seq (.reg false qauz [0, 1, 4, 5, 30]) (.cond (.t 30) (.seq (.reg true qauy [0, 1, 4, 5]) (.seq (.reg true qaux [0, 1, 4, 5, 6]) (.reg true qauw [0, 1, 4, 5]))) .skip)) (.seq (.seq (.reg false qauv [0, 1, 4, 5, 79]) (.cond (.t 79) (.reg true qauu [0, 4, 5]) .skip)) (.seq (.seq (.reg false qaut [0, 4, 5, 99, 100, 101]) (.block 0 (.loop c_wstate_l1))) (.reg false qah2 []))))))
theorem qak5 : comp Tryz.prog 116 ((Tryz.f139.body).getD .skip) = some c_wstate.erase := by kernel_rfl
abbrev qbfw : List SOper := [Oa 1 (.box 33 (.t 0)), Oa 2 (.mv (.c .nilsl)), Oa 3 (.alloc 37 [(.int .i64 0), (.int .i64 0)])]
abbrev qbfv : List SOper := [Oa 7 (.loads 7 (.t 1)), Oc 8 138 [(.t 7)], Oa 4 (.alloc 37 [(.int .i64 0), (.int .i64 0)]), Ob (.store 2 (.t 4) (.t 8))]
abbrev qbfu : List SOper := [Oa 9 (.faddr 0 (.t 4)), Oa 10 (.load (.t 9)), Oa 11 (.bin .neq (.t 10) (.c (.int .i64 0)))]
abbrev qbft : List SOper := [Oa 12 (.loads 2 (.t 4)), Oa 2 (.mv (.c .nilsl)), ⟨none, .store 2 (.t 3) (.t 12), none, none, 3⟩]
abbrev qbfs : List SOper := [Oa 13 (.loads 7 (.t 1)), Oa 14 (.faddr 2 (.t 1)), Od 15 (.load (.t 14)) 2, Od 16 (.len false (.t 15)) 6, Od 17 (.bin .add (.t 16) (.c (.int .i64 1))) 14, Od 18 (.mkslice 210 5 40 [(.int .u64 0), (.int .u64 0), (.int .i64 0), (.int .i64 0), (.bool false)] (.t 17) (.t 17)) 30, Od 19 (.build [.nilsl, .nilsl, .nilsl, .nilsl, .nilsl, .nilsl, .nilsl, .nilsl, (.int .i64 0), (.int .i64 0)] [(0, 7, (.t 13)), (7, 1, (.t 18))]) 63, Od 20 (.box 247 (.t 19)) 127, Od 5 (.mv (.t 20)) 255]
abbrev qbfr : List SOper := [Oa 21 (.mv (.t 5)), Oa 22 (.nilc (.t 21)), Oa 23 (.faddr 7 (.t 22)), Oa 24 (.load (.t 23)), Oa 25 (.iaddr 5 (.t 24) (.c (.int .i64 0))), Oa 26 (.faddr 4 (.t 25)), Ob (.store 1 (.t 26) (.c (.bool true)))]
abbrev qbfq : List SOper := [Oa 27 (.faddr 2 (.t 1)), Oa 28 (.load (.t 27)), Oa 29 (.len false (.t 28)), Oa 30 (.mv (.c (.int .i64 0)))]
abbrev qbfp : List SOper := [Oa 31 (.bin .lss (.t 30) (.t 29))]
abbrev qbfo : List SOper := [Oa 32 (.mv (.t 30)), Oa 6 (.mv (.t 32))]
abbrev qa7c : List SOper := [Oa 33 (.mv (.t 5)), Oa 34 (.mv (.t 6)), Oc 35 139 [(.t 33), (.t 34)]]
abbrev qa7b : List SOper := [Oa 36 (.bin .add (.t 30) (.c (.int .i64 1))), Oa 30 (.mv (.t 36))]
def qatk : SCode := (.seq (.reg false qbfp [3, 5, 29, 30, 31]) (.seq (.cond (.t 31) .skip (.exit 0)) (.seq (.block 1 (.seq (.reg false qbfo [3, 5, 6, 29, 30]) (.reg false qa7c [3, 5, 29, 30]))) (.reg false qa7b [3, 5, 29, 30]))))
abbrev qa7a : List SOper := [Oa 37 (.mv (.t 5)), Oa 38 (.nilc (.t 37)), Oa 39 (.faddr 8 (.t 38)), Oa 40 (.faddr 0 (.t 39)), Oa 41 (.load (.t 40)), Oa 42 (.bin .neq (.t 41) (.c (.int .i64 0)))]
abbrev qa69 : List SOper := [Oa 43 (.mv (.t 5)), Od 44 (.nilc (.t 43)) 1, Od 45 (.faddr 8 (.t 44)) 3, Od 46 (.loads 2 (.t 45)) 7, Oa 2 (.mv (.c .nilsl)), ⟨none, .store 2 (.t 3) (.t 46), none, none, 31⟩]
abbrev qalo : List SOper := [Oa 47 (.mv (.t 5)), Oa 48 (.nilc (.t 47)), Oa 49 (.faddr 7 (.t 48)), Oa 50 (.load (.t 49)), Oa 51 (.build [(.int .i64 0), (.int .i64 0)] []), Oa 2 (.mv (.t 50)), Ob (.store 2 (.t 3) (.t 51))]
def c_walk : SCode := (.seq (.reg false qbfw [1, 3]) (.seq (.seq (.reg false qbfv [1, 3, 4]) (.seq (.reg false qbfu [1, 3, 4, 11]) (.cond (.t 11) (.seq (.reg true qbft [2, 3]) .ret) .skip))) (.seq (.reg true qbfs [1, 3, 5]) (.seq (.reg false qbfr [1, 3, 5]) (.seq (.seq (.reg false qbfq [3, 5, 29, 30]) (.block 0 (.loop qatk))) (.seq (.seq (.reg false qa7a [3, 5, 42]) (.cond (.t 42) (.seq (.reg true qa69 [2, 3]) .ret) .skip)) (.seq (.reg false qalo [2, 3]) .ret)))))))
theorem qauf : comp Tryz.prog 52 ((Tryz.f109.body).getD .skip) = some c_walk.erase := by kernel_rfl
abbrev qbf9 : List SOper := [Oa 2 (.mv (.c (.int .u64 0)))]
abbrev qbf8 : List SOper := [Oa 3 (.mv (.t 0)), Oa 4 (.conv .u64 (.t 3)), Oa 5 (.bin .shl (.c (.int .u64 1)) (.t 4)), Oa 2 (.mv (.t 5))]
def c_rbit : SCode := (.seq (.reg false qbf9 [0]) (.seq (.reg false qbf8 [2]) .ret))
theorem qaui : comp Tryz.prog 6 ((Tryz.f52.body).getD .skip) = some c_rbit.erase := by kernel_rfl
abbrev qays : List SOper := [Oa 2 (.box 33 (.t 0)), Oa 4 (.mv (.c .nilsl))]
abbrev qayr : List SOper := [Oa 5 (.mv (.c .nilsl))]
abbrev qayq : List SOper := [Oa 6 (.mv (.c (.int .i64 0)))]
abbrev qayp : List SOper := [Oa 8 (.mv (.t 6)), Oa 9 (.faddr 2 (.t 2)), Oa 10 (.load (.t 9)), Oa 11 (.mv (.t 1)), Oa 12 (.iaddr 5 (.t 10) (.t 11)), Oa 13 (.faddr 3 (.t 12)), Oa 14 (.load (.t 13)), Oa 15 (.len false (.t 14)), Oa 16 (.bin .leq (.t 8) (.t 15))]
abbrev qayo : List SOper := [Oa 19 (.faddr 2 (.t 2)), Oa 20 (.load (.t 19)), Oa 21 (.mv (.t 1)), Oa 22 (.iaddr 5 (.t 20) (.t 21)), Oa 23 (.faddr 4 (.t 22)), Oa 24 (.load (.t 23)), Oa 7 (.mv (.t 24))]
abbrev qayn : List SOper := [Oa 25 (.mv (.t 6)), Oa 26 (.faddr 2 (.t 2)), Oa 27 (.load (.t 26)), Oa 28 (.mv (.t 1)), Oa 29 (.iaddr 5 (.t 27) (.t 28)), Oa 30 (.faddr 3 (.t 29)), Oa 31 (.load (.t 30)), Oa 32 (.len false (.t 31)), Oa 33 (.bin .lss (.t 25) (.t 32))]
abbrev qaym : List SOper := [Oa 34 (.faddr 2 (.t 2)), Oa 35 (.load (.t 34)), Oa 36 (.mv (.t 1)), Oa 37 (.iaddr 5 (.t 35) (.t 36)), Oa 38 (.faddr 3 (.t 37)), Oa 39 (.load (.t 38)), Oa 40 (.mv (.t 6)), Oa 41 (.iaddr 3 (.t 39) (.t 40)), Oa 42 (.faddr 2 (.t 41)), Oa 43 (.load (.t 42)), Oa 7 (.mv (.t 43))]
abbrev qayl : List SOper := [Oa 44 (.mv (.t 7)), Oa 45 (.bin .eql (.t 44) (.c (.int .i64 1000)))]
abbrev qayk : List SOper := [Oa 46 (.faddr 2 (.t 2)), Oa 47 (.load (.t 46)), Oa 48 (.len false (.t 47)), Oa 7 (.mv (.t 48))]
abbrev qaqv : List SOper := [Oa 49 (.mv (.t 7)), Oa 50 (.faddr 2 (.t 2)), Oa 51 (.load (.t 50)), Oa 52 (.len false (.t 51)), Oa 53 (.bin .leq (.t 49) (.t 52)), Oa 54 (.mv (.t 53)), Oe 55 (.mv (.t 5)) 54 true, Oe 56 (.mv (.t 7)) 54 true, ⟨(some 57), .mv (.c .any), some ((.c (.fn (.func 104) [] [])), [(.t 55), (.t 56)]), (some (54, true)), 0⟩, Oe 58 (.un .not (.t 57)) 54 true, Oa 59 (.pick (.t 54) (.t 58) (.c (.bool false)))]
abbrev qaqu : List SOper := [Oa 60 (.mv (.t 5)), Oa 61 (.mv (.t 7)), Oa 62 (.mkrow 3 1 1 [(.int .i64 0)] [(0, (.t 61))]), Oa 63 (.app 3 1 8 (.t 60) (.t 62)), Oa 5 (.mv (.t 63))]
abbrev qaqt : List SOper := [Oa 17 (.mv (.t 6)), Oa 18 (.bin .add (.t 17) (.c (.int .i64 1))), Oa 6 (.mv (.t 18))]
def qajb : SCode := (.seq (.seq (.reg false qayp [1, 2, 5, 6, 16]) (.cond (.t 16) .skip (.exit 0))) (.seq (.block 1 (.seq (.reg false qayo [1, 2, 5, 6, 7]) (.seq (.seq (.reg false qayn [1, 2, 5, 6, 7, 33]) (.cond (.t 33) (.reg false qaym [1, 2, 5, 6, 7]) .skip)) (.seq (.seq (.reg false qayl [1, 2, 5, 6, 7, 45]) (.cond (.t 45) (.reg false qayk [1, 2, 5, 6, 7]) .skip)) (.seq (.reg false qaqv [1, 2, 5, 6, 7, 59]) (.cond (.t 59) (.reg false qaqu [1, 2, 5, 6]) .skip)))))) (.reg false qaqt [1, 2, 5, 6])))
abbrev qaqs : List SOper := [Oa 64 (.mv (.t 5)), Oa 4 (.mv (.t 64))]
def c_rleads : SCode := (.seq (.reg false qays [1, 2]) (.seq (.reg false qayr [1, 2, 5]) (.seq (.seq (.reg false qayq [1, 2, 5, 6]) (.block 0 (.loop qajb))) (.seq (.reg false qaqs [4]) .ret))))
theorem qale : comp Tryz.prog 65 ((Tryz.f108.body).getD .skip) = some c_rleads.erase := by kernel_rfl
abbrev qa7x : List SOper := [Oa 1 (.box 33 (.t 0)), Oa 2 (.mv (.c .nilsl))]
abbrev qa7w : List SOper := [Oa 11 (.build [(.int .i64 0), (.int .u64 0), (.int .i64 0)] []), Oa 12 (.mkrow 137 3 1 [(.int .i64 0), (.int .u64 0), (.int .i64 0)] [(0, (.t 11))]), Oa 3 (.mv (.t 12))]
abbrev qa7v : List SOper := [Oa 4 (.mv (.c (.int .i64 0)))]
abbrev qa7u : List SOper := [Oa 13 (.mv (.t 4)), Oa 14 (.mv (.t 3)), Oa 15 (.len false (.t 14)), Oa 16 (.bin .lss (.t 13) (.t 15))]
abbrev qa7t : List SOper := [Oa 19 (.mv (.t 3)), Oa 20 (.mv (.t 4)), Oa 21 (.iaddr 3 (.t 19) (.t 20)), Oa 22 (.loads 3 (.t 21)), Oa 5 (.alloc 137 [(.int .i64 0), (.int .u64 0), (.int .i64 0)]), Ob (.store 3 (.t 5) (.t 22))]
abbrev qa7s : List SOper := [Oa 23 (.faddr 0 (.t 5)), Oa 24 (.load (.t 23)), Oa 25 (.faddr 2 (.t 1)), Oa 26 (.load (.t 25)), Oa 27 (.len false (.t 26)), Oa 28 (.bin .eql (.t 24) (.t 27))]
abbrev qa7r : List SOper := [Oa 29 (.faddr 2 (.t 1)), Oa 30 (.load (.t 29)), Oa 31 (.faddr 0 (.t 5)), Oa 32 (.load (.t 31)), Oa 33 (.iaddr 5 (.t 30) (.t 32)), Oa 34 (.loads 5 (.t 33)), Oa 6 (.alloc 69 [(.int .i64 0), (.int .i64 0), (.int .i64 0), .nilsl, (.int .i64 0)]), Ob (.store 5 (.t 6) (.t 34))]
abbrev qa7q : List SOper := [Oa 35 (.faddr 0 (.t 6)), Oa 36 (.load (.t 35)), Oa 37 (.bin .geq (.t 36) (.c (.int .i64 0)))]
abbrev qa7p : List SOper := [Oa 39 (.faddr 0 (.t 1)), Oa 40 (.load (.t 39)), Oa 41 (.faddr 0 (.t 6)), Oa 42 (.load (.t 41)), Oa 43 (.iaddr 1 (.t 40) (.t 42)), Oa 44 (.loads 1 (.t 43)), Oc 45 100 [(.t 44)], Oa 38 (.mv (.t 45)), Oa 46 (.extr (.t 38) 0), Oa 47 (.extr (.t 38) 1), Oa 8 (.alloc 37 [(.int .i64 0), (.int .i64 0)]), Oa 7 (.mv (.t 46)), Ob (.store 2 (.t 8) (.t 47))]
abbrev qav8 : List SOper := [Oa 48 (.faddr 1 (.t 5)), Od 49 (.load (.t 48)) 1, Oa 50 (.faddr 0 (.t 6)), Od 51 (.load (.t 50)) 4, ⟨(some 52), .mv (.c .any), some ((.c (.fn (.func 52) [] [])), [(.t 51)]), none, 12⟩, Od 53 (.bin .or (.t 49) (.t 52)) 31, Od 54 (.faddr 1 (.t 5)) 63, ⟨none, .store 1 (.t 54) (.t 53), none, none, 127⟩]
abbrev qav7 : List SOper := [Oa 55 (.faddr 2 (.t 5)), Oa 56 (.load (.t 55)), Oa 57 (.mv (.t 7)), Oa 58 (.bin .add (.t 56) (.t 57)), Oa 59 (.faddr 2 (.t 5)), Ob (.store 1 (.t 59) (.t 58))]
abbrev qafb : List SOper := [Oa 60 (.loads 7 (.t 1)), Oa 61 (.faddr 0 (.t 5)), Oa 62 (.load (.t 61)), Oc 63 108 [(.t 60), (.t 62)], Oa 9 (.mv (.t 63))]
abbrev qafa : List SOper := [Oa 10 (.mv (.c (.int .i64 0)))]
abbrev qav6 : List SOper := [Oa 64 (.mv (.t 10)), Oa 65 (.mv (.t 9)), Oa 66 (.len false (.t 65)), Oa 67 (.bin .lss (.t 64) (.t 66))]
abbrev qav5 : List SOper := [Oa 70 (.mv (.t 3)), Oa 71 (.mv (.t 9)), Oa 72 (.mv (.t 10)), Od 73 (.iaddr 1 (.t 71) (.t 72)) 6, Od 74 (.load (.t 73)) 14, Oa 75 (.faddr 1 (.t 5)), Od 76 (.load (.t 75)) 32, Oa 77 (.faddr 2 (.t 5)), Od 78 (.load (.t 77)) 128, Od 79 (.build [(.int .i64 0), (.int .u64 0), (.int .i64 0)] [(0, 1, (.t 74)), (1, 1, (.t 76)), (2, 1, (.t 78))]) 510, Od 80 (.mkrow 137 3 1 [(.int .i64 0), (.int .u64 0), (.int .i64 0)] [(0, (.t 79))]) 1022, Od 81 (.app 137 3 24 (.t 70) (.t 80)) 2047, Od 3 (.mv (.t 81)) 4095]
abbrev qav4 : List SOper := [Oa 68 (.mv (.t 10)), Oa 69 (.bin .add (.t 68) (.c (.int .i64 1))), Oa 10 (.mv (.t 69))]
def qaey : SCode := (.seq (.seq (.reg false qav6 [1, 3, 4, 5, 9, 10, 67]) (.cond (.t 67) .skip (.exit 2))) (.seq (.block 3 (.reg true qav5 [1, 3, 4, 5, 9, 10])) (.reg false qav4 [1, 3, 4, 5, 9, 10])))
abbrev qai6 : List SOper := [Oa 17 (.mv (.t 4)), Oa 18 (.bin .add (.t 17) (.c (.int .i64 1))), Oa 4 (.mv (.t 18))]
def qalp : SCode := (.seq (.seq (.reg false qa7u [1, 3, 4, 16]) (.cond (.t 16) .skip (.exit 0))) (.seq (.block 1 (.seq (.reg false qa7t [1, 3, 4, 5]) (.seq (.seq (.reg false qa7s [1, 3, 4, 5, 28]) (.cond (.t 28) (.exit 1) .skip)) (.seq (.reg false qa7r [1, 3, 4, 5, 6]) (.seq (.seq (.reg false qa7q [1, 3, 4, 5, 6, 37]) (.cond (.t 37) (.seq (.reg false qa7p [1, 3, 4, 5, 6, 7]) (.seq (.reg true qav8 [1, 3, 4, 5, 7]) (.reg false qav7 [1, 3, 4, 5]))) .skip)) (.seq (.reg false qafb [1, 3, 4, 5, 9]) (.seq (.reg false qafa [1, 3, 4, 5, 9, 10]) (.block 2 (.loop qaey))))))))) (.reg false qai6 [1, 3, 4])))
abbrev qai5 : List SOper := [Oa 82 (.mv (.t 3)), Oa 2 (.mv (.t 82))]
def c_rways : SCode := (.seq (.reg false qa7x [1]) (.seq (.reg false qa7w [1, 3]) (.seq (.seq (.reg false qa7v [1, 3, 4]) (.block 0 (.loop qalp))) (.seq (.reg false qai5 [2]) .ret))))
theorem qaoa : comp Tryz.prog 83 ((Tryz.f51.body).getD .skip) = some c_rways.erase := by kernel_rfl
abbrev qa76 : List SOper := [Oa 1 (.box 33 (.t 0)), Oa 2 (.mv (.c .nilsl)), Oa 3 (.alloc 37 [(.int .i64 0), (.int .i64 0)])]
abbrev qa75 : List SOper := [Oa 11 (.loads 7 (.t 1)), Oc 12 50 [(.t 11)], Oa 4 (.alloc 37 [(.int .i64 0), (.int .i64 0)]), Ob (.store 2 (.t 4) (.t 12))]
abbrev qa74 : List SOper := [Oa 13 (.faddr 0 (.t 4)), Oa 14 (.load (.t 13)), Oa 15 (.bin .neq (.t 14) (.c (.int .i64 0)))]
abbrev qa73 : List SOper := [Oa 16 (.loads 2 (.t 4)), Oa 2 (.mv (.c .nilsl)), ⟨none, .store 2 (.t 3) (.t 16), none, none, 3⟩]
abbrev qa72 : List SOper := [Oa 17 (.loads 7 (.t 1)), Oc 18 51 [(.t 17)], Oa 5 (.mv (.t 18))]
abbrev qa71 : List SOper := [Oa 19 (.faddr 2 (.t 1)), Oa 20 (.load (.t 19)), Oa 21 (.len false (.t 20)), Oa 22 (.bin .add (.t 21) (.c (.int .i64 1))), Oa 23 (.mkslice 85 5 40 [(.int .u64 0), (.int .u64 0), (.int .i64 0), (.int .i64 0), (.bool false)] (.t 22) (.t 22)), Oa 6 (.mv (.t 23))]
abbrev qa70 : List SOper := [Oa 7 (.mv (.c (.int .i64 0)))]
abbrev qa7z : List SOper := [Oa 24 (.mv (.t 7)), Oa 25 (.mv (.t 5)), Oa 26 (.len false (.t 25)), Oa 27 (.bin .lss (.t 24) (.t 26))]
abbrev qa7y : List SOper := [Oa 30 (.mv (.t 6)), Oa 31 (.mv (.t 5)), Oa 32 (.mv (.t 7)), Oa 33 (.iaddr 3 (.t 31) (.t 32)), Oa 34 (.faddr 0 (.t 33)), Oa 35 (.load (.t 34)), Oa 36 (.iaddr 5 (.t 30) (.t 35)), Oa 8 (.mv (.t 36))]
abbrev qawq : List SOper := [Oa 37 (.mv (.t 8)), Oa 38 (.nilc (.t 37)), Oa 39 (.faddr 4 (.t 38)), Oa 40 (.load (.t 39)), Oa 41 (.un .not (.t 40))]
abbrev qawp : List SOper := [Oa 42 (.mv (.t 8)), Oa 43 (.mv (.t 5)), Oa 44 (.mv (.t 7)), Od 45 (.iaddr 3 (.t 43) (.t 44)) 6, Od 46 (.faddr 1 (.t 45)) 14, Od 47 (.load (.t 46)) 30, Oa 48 (.mv (.t 5)), Oa 49 (.mv (.t 7)), Od 50 (.iaddr 3 (.t 48) (.t 49)) 192, Od 51 (.faddr 1 (.t 50)) 448, Od 52 (.load (.t 51)) 960, Oa 53 (.mv (.t 5)), Oa 54 (.mv (.t 7)), Od 55 (.iaddr 3 (.t 53) (.t 54)) 6144, Od 56 (.faddr 2 (.t 55)) 14336, Od 57 (.load (.t 56)) 30720, Oa 58 (.mv (.t 5)), Oa 59 (.mv (.t 7)), Od 60 (.iaddr 3 (.t 58) (.t 59)) 196608, Od 61 (.faddr 2 (.t 60)) 458752, Od 62 (.load (.t 61)) 983040, Od 63 (.build [(.int .u64 0), (.int .u64 0), (.int .i64 0), (.int .i64 0), (.bool false)] [(0, 1, (.t 47)), (1, 1, (.t 52)), (2, 1, (.t 57)), (3, 1, (.t 62)), (4, 1, (.c (.bool true)))]) 2097150, Od 64 (.nilc (.t 42)) 4194303, ⟨none, .store 5 (.t 64) (.t 63), none, none, 8388607⟩]
abbrev qawo : List SOper := [Oa 65 (.mv (.t 8)), Oa 66 (.mv (.t 8)), Od 67 (.nilc (.t 66)) 2, Od 68 (.faddr 0 (.t 67)) 6, Od 69 (.load (.t 68)) 14, Oa 70 (.mv (.t 5)), Oa 71 (.mv (.t 7)), Od 72 (.iaddr 3 (.t 70) (.t 71)) 96, Od 73 (.faddr 1 (.t 72)) 224, Od 74 (.load (.t 73)) 480, Od 75 (.bin .and (.t 69) (.t 74)) 1022, Od 76 (.nilc (.t 65)) 2047, Od 77 (.faddr 0 (.t 76)) 4095, ⟨none, .store 1 (.t 77) (.t 75), none, none, 8191⟩]
abbrev qawn : List SOper := [Oa 78 (.mv (.t 8)), Oa 79 (.mv (.t 8)), Od 80 (.nilc (.t 79)) 2, Od 81 (.faddr 1 (.t 80)) 6, Od 82 (.load (.t 81)) 14, Oa 83 (.mv (.t 5)), Oa 84 (.mv (.t 7)), Od 85 (.iaddr 3 (.t 83) (.t 84)) 96, Od 86 (.faddr 1 (.t 85)) 224, Od 87 (.load (.t 86)) 480, Od 88 (.bin .or (.t 82) (.t 87)) 1022, Od 89 (.nilc (.t 78)) 2047, Od 90 (.faddr 1 (.t 89)) 4095, ⟨none, .store 1 (.t 90) (.t 88), none, none, 8191⟩]
abbrev qawm : List SOper := [Oa 91 (.mv (.t 5)), Oa 92 (.mv (.t 7)), Od 93 (.iaddr 3 (.t 91) (.t 92)) 3, Od 94 (.faddr 2 (.t 93)) 7, Od 95 (.load (.t 94)) 15, Oa 96 (.mv (.t 8)), Od 97 (.nilc (.t 96)) 32, Od 98 (.faddr 2 (.t 97)) 96, Od 99 (.load (.t 98)) 224, Od 100 (.bin .lss (.t 95) (.t 99)) 511]
abbrev qawl : List SOper := [Oa 101 (.mv (.t 8)), Oa 102 (.mv (.t 5)), Oa 103 (.mv (.t 7)), Oa 104 (.iaddr 3 (.t 102) (.t 103)), Oa 105 (.faddr 2 (.t 104)), Oa 106 (.load (.t 105)), Oa 107 (.nilc (.t 101)), Oa 108 (.faddr 2 (.t 107)), Ob (.store 1 (.t 108) (.t 106))]
abbrev qawk : List SOper := [Oa 109 (.mv (.t 5)), Oa 110 (.mv (.t 7)), Od 111 (.iaddr 3 (.t 109) (.t 110)) 3, Od 112 (.faddr 2 (.t 111)) 7, Od 113 (.load (.t 112)) 15, Oa 114 (.mv (.t 8)), Od 115 (.nilc (.t 114)) 32, Od 116 (.faddr 3 (.t 115)) 96, Od 117 (.load (.t 116)) 224, Od 118 (.bin .gtr (.t 113) (.t 117)) 511]
abbrev qawj : List SOper := [Oa 119 (.mv (.t 8)), Oa 120 (.mv (.t 5)), Oa 121 (.mv (.t 7)), Oa 122 (.iaddr 3 (.t 120) (.t 121)), Oa 123 (.faddr 2 (.t 122)), Oa 124 (.load (.t 123)), Oa 125 (.nilc (.t 119)), Oa 126 (.faddr 3 (.t 125)), Ob (.store 1 (.t 126) (.t 124))]
abbrev qawi : List SOper := [Oa 28 (.mv (.t 7)), Oa 29 (.bin .add (.t 28) (.c (.int .i64 1))), Oa 7 (.mv (.t 29))]
def qalr : SCode := (.seq (.seq (.reg false qa7z [1, 3, 5, 6, 7, 27]) (.cond (.t 27) .skip (.exit 0))) (.seq (.block 1 (.seq (.reg false qa7y [1, 3, 5, 6, 7, 8]) (.seq (.seq (.reg false qawq [1, 3, 5, 6, 7, 8, 41]) (.cond (.t 41) (.seq (.reg true qawp [1, 3, 5, 6, 7]) (.exit 1)) .skip)) (.seq (.reg true qawo [1, 3, 5, 6, 7, 8]) (.seq (.reg true qawn [1, 3, 5, 6, 7, 8]) (.seq (.seq (.reg true qawm [1, 3, 5, 6, 7, 8, 100]) (.cond (.t 100) (.reg false qawl [1, 3, 5, 6, 7, 8]) .skip)) (.seq (.reg true qawk [1, 3, 5, 6, 7, 8, 118]) (.cond (.t 118) (.reg false qawj [1, 3, 5, 6, 7]) .skip)))))))) (.reg false qawi [1, 3, 5, 6, 7])))
abbrev qawh : List SOper := [Oa 9 (.mv (.c (.int .i64 0)))]
abbrev qawg : List SOper := [Oa 127 (.mv (.t 9)), Oa 128 (.faddr 2 (.t 1)), Oa 129 (.load (.t 128)), Oa 130 (.len false (.t 129)), Oa 131 (.bin .lss (.t 127) (.t 130))]
abbrev qawf : List SOper := [Oa 134 (.faddr 2 (.t 1)), Oa 135 (.load (.t 134)), Oa 136 (.mv (.t 9)), Oa 137 (.iaddr 5 (.t 135) (.t 136)), Oa 138 (.loads 5 (.t 137)), Oa 10 (.alloc 69 [(.int .i64 0), (.int .i64 0), (.int .i64 0), .nilsl, (.int .i64 0)]), Ob (.store 5 (.t 10) (.t 138))]
abbrev qawe : List SOper := [Oa 139 (.mv (.t 6)), Oa 140 (.mv (.t 9)), Oa 141 (.iaddr 5 (.t 139) (.t 140)), Oa 142 (.faddr 4 (.t 141)), Oa 143 (.load (.t 142)), Oa 144 (.un .not (.t 143))]
abbrev qawd : List SOper := [Oa 145 (.faddr 0 (.t 10)), Od 146 (.load (.t 145)) 1, Od 147 (.bin .geq (.t 146) (.c (.int .i64 0))) 3, Od 148 (.mv (.t 147)) 7, Of 149 (.mv (.t 6)) 148 true 15, Of 150 (.mv (.t 9)) 148 true 15, Of 151 (.iaddr 5 (.t 149) (.t 150)) 148 true 63, Of 152 (.faddr 1 (.t 151)) 148 true 127, Of 153 (.load (.t 152)) 148 true 255, Of 154 (.faddr 0 (.t 10)) 148 true 15, Of 155 (.load (.t 154)) 148 true 527, ⟨(some 156), .mv (.c .any), some ((.c (.fn (.func 52) [] [])), [(.t 155)]), (some (148, true)), 1551⟩, Of 157 (.bin .and (.t 153) (.t 156)) 148 true 4095, Of 158 (.bin .neq (.t 157) (.c (.int .u64 0))) 148 true 8191, Od 159 (.pick (.t 148) (.t 158) (.c (.bool false))) 16383]
abbrev qawc : List SOper := [Oa 160 (.mv (.t 9)), Oa 161 (.bin .add (.c (.int .i64 3000)) (.t 160)), Oc 162 24 [(.c (.int .i64 7)), (.t 161)], Oa 2 (.mv (.c .nilsl)), Ob (.store 2 (.t 3) (.t 162))]
abbrev qawb : List SOper := [Oa 163 (.faddr 3 (.t 10)), Od 164 (.load (.t 163)) 1, Od 165 (.len false (.t 164)) 3, Od 166 (.bin .gtr (.t 165) (.c (.int .i64 0))) 7, Od 167 (.mv (.t 166)) 15, Of 168 (.faddr 1 (.t 10)) 167 true 31, Of 169 (.faddr 0 (.t 168)) 167 true 63, Of 170 (.load (.t 169)) 167 true 127, Of 171 (.bin .geq (.t 170) (.c (.int .i64 0))) 167 true 255, Od 172 (.pick (.t 167) (.t 171) (.c (.bool false))) 511, Od 173 (.mv (.t 172)) 1023, Of 174 (.faddr 1 (.t 10)) 173 true 2047, Of 175 (.faddr 0 (.t 174)) 173 true 4095, Of 176 (.load (.t 175)) 173 true 8191, Of 177 (.faddr 0 (.t 10)) 173 true 2047, Of 178 (.load (.t 177)) 173 true 18431, Of 179 (.bin .neq (.t 176) (.t 178)) 173 true 65535, Od 180 (.pick (.t 173) (.t 179) (.c (.bool false))) 131071, Od 181 (.mv (.t 180)) 262143, Of 182 (.mv (.t 6)) 181 true 524287, Of 183 (.mv (.t 9)) 181 true 524287, Of 184 (.iaddr 5 (.t 182) (.t 183)) 181 true 2097151, Of 185 (.faddr 0 (.t 184)) 181 true 4194303, Of 186 (.load (.t 185)) 181 true 8388607, Of 187 (.faddr 1 (.t 10)) 181 true 524287, Of 188 (.faddr 0 (.t 187)) 181 true 17301503, Of 189 (.load (.t 188)) 181 true 50855935, ⟨(some 190), .mv (.c .any), some ((.c (.fn (.func 52) [] [])), [(.t 189)]), (some (181, true)), 117964799⟩, Of 191 (.bin .and (.t 186) (.t 190)) 181 true 268435455, Of 192 (.bin .eql (.t 191) (.c (.int .u64 0))) 181 true 536870911, Od 193 (.pick (.t 181) (.t 192) (.c (.bool false))) 1073741823]
abbrev qawa : List SOper := [Oa 194 (.mv (.t 9)), Oa 195 (.bin .add (.c (.int .i64 3000)) (.t 194)), Oc 196 24 [(.c (.int .i64 12)), (.t 195)], Oa 2 (.mv (.c .nilsl)), Ob (.store 2 (.t 3) (.t 196))]
abbrev qav9 : List SOper := [Oa 132 (.mv (.t 9)), Oa 133 (.bin .add (.t 132) (.c (.int .i64 1))), Oa 9 (.mv (.t 133))]
def qalq : SCode := (.seq (.seq (.reg false qawg [1, 3, 6, 9, 131]) (.cond (.t 131) .skip (.exit 2))) (.seq (.block 3 (.seq (.reg false qawf [1, 3, 6, 9, 10]) (.seq (.seq (.reg false qawe [1, 3, 6, 9, 10, 144]) (.cond (.t 144) (.exit 3) .skip)) (.seq (.seq (.reg true qawd [1, 3, 6, 9, 10, 159]) (.cond (.t 159) (.seq (.reg false qawc [2, 3]) .ret) .skip)) (.seq (.reg true qawb [1, 3, 6, 9, 193]) (.cond (.t 193) (.seq (.reg false qawa [2, 3]) .ret) .skip)))))) (.reg false qav9 [1, 3, 6, 9])))
abbrev qai7 : List SOper := [Oa 197 (.mv (.t 6)), Oa 198 (.build [(.int .i64 0), (.int .i64 0)] []), Oa 2 (.mv (.t 197)), Ob (.store 2 (.t 3) (.t 198))]
def c_rwalk : SCode := (.seq (.reg false qa76 [1, 3]) (.seq (.seq (.reg false qa75 [1, 3, 4]) (.seq (.reg false qa74 [1, 3, 4, 15]) (.cond (.t 15) (.seq (.reg true qa73 [2, 3]) .ret) .skip))) (.seq (.reg false qa72 [1, 3, 5]) (.seq (.reg false qa71 [1, 3, 5, 6]) (.seq (.seq (.reg false qa70 [1, 3, 5, 6, 7]) (.block 0 (.loop qalr))) (.seq (.seq (.reg false qawh [1, 3, 6, 9]) (.block 2 (.loop qalq))) (.seq (.reg false qai7 [2, 3]) .ret)))))))
theorem qaob : comp Tryz.prog 199 ((Tryz.f21.body).getD .skip) = some c_rwalk.erase := by kernel_rfl
end Go.Proofs.YteoijlmgiemffaaGreat
namespace Go.Proofs.YteoijlmgiemffaaGreat
set_option linter.all false
open Go.RowKit
abbrev qbbl : List SOper := [Oa 2 (.mv (.c .nilsl))]
abbrev qbbk : List SOper := [Oa 3 (.mv (.c .nilsl))]
abbrev qbbj : List SOper := [Oa 4 (.mv (.t 3)), Oa 5 (.mv (.t 0)), Oa 6 (.app 3 1 8 (.t 4) (.t 5)), Oa 2 (.mv (.t 6))]
def c_oints : SCode := (.seq (.reg false qbbl [0]) (.seq (.reg false qbbk [0, 3]) (.seq (.reg false qbbj [2]) .ret)))
theorem qaor : comp Tryz.prog 7 ((Tryz.f27.body).getD .skip) = some c_oints.erase := by kernel_rfl
abbrev qbba : List SOper := [Oa 2 (.mv (.c .nilsl))]
abbrev qba9 : List SOper := [Oa 3 (.mv (.c .nilsl))]
abbrev qba8 : List SOper := [Oa 4 (.mv (.t 3)), Oa 5 (.mv (.t 0)), Oa 6 (.app 101 4 32 (.t 4) (.t 5)), Oa 2 (.mv (.t 6))]
def c_otree : SCode := (.seq (.reg false qbba [0]) (.seq (.reg false qba9 [0, 3]) (.seq (.reg false qba8 [2]) .ret)))
theorem qaop : comp Tryz.prog 7 ((Tryz.f28.body).getD .skip) = some c_otree.erase := by kernel_rfl
abbrev qbbi : List SOper := [Oa 1 (.box 33 (.t 0)), Oa 2 (.alloc 33 [.nilsl, .nilsl, .nilsl, .nilsl, .nilsl, .nilsl, .nilsl])]
abbrev qbbh : List SOper := [Oa 18 (.faddr 1 (.t 1)), Od 19 (.load (.t 18)) 1, ⟨(some 20), .mv (.c .any), some ((.c (.fn (.func 27) [] [])), [(.t 19)]), none, 3⟩, Oa 21 (.faddr 6 (.t 1)), Od 22 (.load (.t 21)) 8, ⟨(some 23), .mv (.c .any), some ((.c (.fn (.func 27) [] [])), [(.t 22)]), none, 31⟩, Od 24 (.build [.nilsl, .nilsl, .nilsl, .nilsl, .nilsl, .nilsl, .nilsl] [(1, 1, (.t 20)), (6, 1, (.t 23))]) 63, Oa 3 (.alloc 33 [.nilsl, .nilsl, .nilsl, .nilsl, .nilsl, .nilsl, .nilsl]), ⟨none, .store 7 (.t 3) (.t 24), none, none, 255⟩]
abbrev qbbg : List SOper := [Oa 4 (.mv (.c (.int .i64 0)))]
abbrev qbbf : List SOper := [Oa 25 (.mv (.t 4)), Oa 26 (.faddr 0 (.t 1)), Oa 27 (.load (.t 26)), Oa 28 (.len false (.t 27)), Oa 29 (.bin .lss (.t 25) (.t 28))]
abbrev qbbe : List SOper := [Oa 32 (.faddr 0 (.t 3)), Od 33 (.load (.t 32)) 1, Oa 34 (.faddr 0 (.t 1)), Od 35 (.load (.t 34)) 4, Oa 36 (.mv (.t 4)), Od 37 (.iaddr 1 (.t 35) (.t 36)) 28, Od 38 (.faddr 0 (.t 37)) 60, Od 39 (.load (.t 38)) 124, ⟨(some 40), .mv (.c .any), some ((.c (.fn (.func 27) [] [])), [(.t 39)]), none, 252⟩, Od 41 (.build [.nilsl] [(0, 1, (.t 40))]) 508, Od 42 (.mkrow 64 1 1 [.nilsl] [(0, (.t 41))]) 1020, Od 43 (.app 64 1 24 (.t 33) (.t 42)) 2047, Od 44 (.faddr 0 (.t 3)) 4095, ⟨none, .store 1 (.t 44) (.t 43), none, none, 8191⟩]
abbrev qbbd : List SOper := [Oa 30 (.mv (.t 4)), Oa 31 (.bin .add (.t 30) (.c (.int .i64 1))), Oa 4 (.mv (.t 31))]
def qame : SCode := (.seq (.seq (.reg false qbbf [1, 2, 3, 4, 29]) (.cond (.t 29) .skip (.exit 0))) (.seq (.block 1 (.reg true qbbe [1, 2, 3, 4])) (.reg false qbbd [1, 2, 3, 4])))
abbrev qamc : List SOper := [Oa 5 (.mv (.c (.int .i64 0)))]
abbrev qbbc : List SOper := [Oa 45 (.mv (.t 5)), Oa 46 (.faddr 2 (.t 1)), Oa 47 (.load (.t 46)), Oa 48 (.len false (.t 47)), Oa 49 (.bin .lss (.t 45) (.t 48))]
abbrev qbbb : List SOper := [Oa 52 (.faddr 2 (.t 1)), Oa 53 (.load (.t 52)), Oa 54 (.mv (.t 5)), Oa 55 (.iaddr 5 (.t 53) (.t 54)), Oa 56 (.loads 5 (.t 55)), Oa 6 (.alloc 69 [(.int .i64 0), (.int .i64 0), (.int .i64 0), .nilsl, (.int .i64 0)]), Ob (.store 5 (.t 6) (.t 56))]
abbrev qa2h : List SOper := [Oa 7 (.mv (.c .nilsl))]
abbrev qa2g : List SOper := [Oa 57 (.mv (.t 7)), Oa 58 (.faddr 3 (.t 6)), Oa 59 (.load (.t 58)), Oa 60 (.app 145 3 24 (.t 57) (.t 59)), Oa 61 (.faddr 3 (.t 6)), Ob (.store 1 (.t 61) (.t 60))]
abbrev qajl : List SOper := [Oa 62 (.faddr 2 (.t 3)), Oa 63 (.load (.t 62)), Oa 64 (.loads 5 (.t 6)), Oa 65 (.mkrow 69 5 1 [(.int .i64 0), (.int .i64 0), (.int .i64 0), .nilsl, (.int .i64 0)] [(0, (.t 64))]), Oa 66 (.app 69 5 56 (.t 63) (.t 65)), Oa 67 (.faddr 2 (.t 3)), Ob (.store 1 (.t 67) (.t 66))]
abbrev qa2f : List SOper := [Oa 50 (.mv (.t 5)), Oa 51 (.bin .add (.t 50) (.c (.int .i64 1))), Oa 5 (.mv (.t 51))]
def qaib : SCode := (.seq (.seq (.reg false qbbc [1, 2, 3, 5, 49]) (.cond (.t 49) .skip (.exit 2))) (.seq (.block 3 (.seq (.reg false qbbb [1, 2, 3, 5, 6]) (.seq (.reg false qa2h [1, 2, 3, 5, 6, 7]) (.seq (.reg false qa2g [1, 2, 3, 5, 6]) (.reg false qajl [1, 2, 3, 5]))))) (.reg false qa2f [1, 2, 3, 5])))
abbrev qagz : List SOper := [Oa 8 (.mv (.c (.int .i64 0)))]
abbrev qa2e : List SOper := [Oa 68 (.mv (.t 8)), Oa 69 (.faddr 3 (.t 1)), Oa 70 (.load (.t 69)), Oa 71 (.len false (.t 70)), Oa 72 (.bin .lss (.t 68) (.t 71))]
abbrev qa2d : List SOper := [Oa 75 (.faddr 3 (.t 1)), Oa 76 (.load (.t 75)), Oa 77 (.mv (.t 8)), Oa 78 (.iaddr 2 (.t 76) (.t 77)), Oa 79 (.faddr 0 (.t 78)), Oa 80 (.load (.t 79)), Oc 81 27 [(.t 80)], Oa 82 (.build [.nilsl, .nilsl] [(0, 1, (.t 81))]), Oa 9 (.alloc 72 [.nilsl, .nilsl]), Ob (.store 2 (.t 9) (.t 82))]
abbrev qa2c : List SOper := [Oa 10 (.mv (.c (.int .i64 0)))]
abbrev qa2b : List SOper := [Oa 83 (.mv (.t 10)), Oa 84 (.faddr 3 (.t 1)), Oa 85 (.load (.t 84)), Oa 86 (.mv (.t 8)), Oa 87 (.iaddr 2 (.t 85) (.t 86)), Oa 88 (.faddr 1 (.t 87)), Oa 89 (.load (.t 88)), Oa 90 (.len false (.t 89)), Oa 91 (.bin .lss (.t 83) (.t 90))]
abbrev qa2a : List SOper := [Oa 94 (.faddr 3 (.t 1)), Oa 95 (.load (.t 94)), Oa 96 (.mv (.t 8)), Oa 97 (.iaddr 2 (.t 95) (.t 96)), Oa 98 (.faddr 1 (.t 97)), Oa 99 (.load (.t 98)), Oa 100 (.mv (.t 10)), Oa 101 (.iaddr 5 (.t 99) (.t 100)), Oa 102 (.loads 5 (.t 101)), Oa 11 (.alloc 75 [(.int .i64 0), (.int .i64 0), (.int .i64 0), (.int .i64 0), .nilsl]), Ob (.store 5 (.t 11) (.t 102))]
abbrev qa19 : List SOper := [Oa 103 (.faddr 4 (.t 11)), Oa 104 (.load (.t 103)), Oc 105 28 [(.t 104)], Oa 106 (.faddr 4 (.t 11)), Ob (.store 1 (.t 106) (.t 105))]
abbrev qa18 : List SOper := [Oa 107 (.faddr 1 (.t 9)), Oa 108 (.load (.t 107)), Oa 109 (.loads 5 (.t 11)), Oa 110 (.mkrow 75 5 1 [(.int .i64 0), (.int .i64 0), (.int .i64 0), (.int .i64 0), .nilsl] [(0, (.t 109))]), Oa 111 (.app 75 5 56 (.t 108) (.t 110)), Oa 112 (.faddr 1 (.t 9)), Ob (.store 1 (.t 112) (.t 111))]
abbrev qa17 : List SOper := [Oa 92 (.mv (.t 10)), Oa 93 (.bin .add (.t 92) (.c (.int .i64 1))), Oa 10 (.mv (.t 93))]
def qamd : SCode := (.seq (.seq (.reg false qa2b [1, 2, 3, 8, 9, 10, 91]) (.cond (.t 91) .skip (.exit 6))) (.seq (.block 7 (.seq (.reg false qa2a [1, 2, 3, 8, 9, 10, 11]) (.seq (.reg false qa19 [1, 2, 3, 8, 9, 10, 11]) (.reg false qa18 [1, 2, 3, 8, 9, 10])))) (.reg false qa17 [1, 2, 3, 8, 9, 10])))
abbrev qajk : List SOper := [Oa 113 (.faddr 3 (.t 3)), Oa 114 (.load (.t 113)), Oa 115 (.loads 2 (.t 9)), Oa 116 (.mkrow 72 2 1 [.nilsl, .nilsl] [(0, (.t 115))]), Oa 117 (.app 72 2 48 (.t 114) (.t 116)), Oa 118 (.faddr 3 (.t 3)), Ob (.store 1 (.t 118) (.t 117))]
abbrev qa16 : List SOper := [Oa 73 (.mv (.t 8)), Oa 74 (.bin .add (.t 73) (.c (.int .i64 1))), Oa 8 (.mv (.t 74))]
def qagd : SCode := (.seq (.seq (.reg false qa2e [1, 2, 3, 8, 72]) (.cond (.t 72) .skip (.exit 4))) (.seq (.block 5 (.seq (.reg false qa2d [1, 2, 3, 8, 9]) (.seq (.seq (.reg false qa2c [1, 2, 3, 8, 9, 10]) (.block 6 (.loop qamd))) (.reg false qajk [1, 2, 3, 8])))) (.reg false qa16 [1, 2, 3, 8])))
abbrev qafd : List SOper := [Oa 12 (.mv (.c (.int .i64 0)))]
abbrev qa15 : List SOper := [Oa 119 (.mv (.t 12)), Oa 120 (.faddr 4 (.t 1)), Oa 121 (.load (.t 120)), Oa 122 (.len false (.t 121)), Oa 123 (.bin .lss (.t 119) (.t 122))]
abbrev qa14 : List SOper := [Oa 126 (.faddr 4 (.t 1)), Oa 127 (.load (.t 126)), Oa 128 (.mv (.t 12)), Oa 129 (.iaddr 6 (.t 127) (.t 128)), Oa 130 (.loads 6 (.t 129)), Oa 13 (.alloc 78 [(.int .i64 0), .nilsl, .nilsl, (.int .i64 0), (.int .i64 0), .nilsl]), Ob (.store 6 (.t 13) (.t 130))]
abbrev qa13 : List SOper := [Oa 14 (.mv (.c .nilsl))]
abbrev qa12 : List SOper := [Oa 15 (.mv (.c .nilsl))]
abbrev qa11 : List SOper := [Oa 131 (.mv (.t 14)), Oa 132 (.faddr 1 (.t 13)), Od 133 (.load (.t 132)) 2, Od 134 (.app 66 2 16 (.t 131) (.t 133)) 7, Oa 135 (.faddr 2 (.t 13)), Od 136 (.load (.t 135)) 16, ⟨(some 137), .mv (.c .any), some ((.c (.fn (.func 27) [] [])), [(.t 136)]), none, 63⟩, Oa 138 (.mv (.t 15)), Oa 139 (.faddr 5 (.t 13)), Od 140 (.load (.t 139)) 256, Od 141 (.app 22 1 8 (.t 138) (.t 140)) 1023, Od 142 (.faddr 1 (.t 13)) 831, ⟨none, .store 1 (.t 142) (.t 134), none, none, 4095⟩, Od 143 (.faddr 2 (.t 13)) 8191, ⟨none, .store 1 (.t 143) (.t 137), none, none, 16383⟩, Od 144 (.faddr 5 (.t 13)) 32767, ⟨none, .store 1 (.t 144) (.t 141), none, none, 65535⟩]
abbrev qajj : List SOper := [Oa 145 (.faddr 4 (.t 3)), Oa 146 (.load (.t 145)), Oa 147 (.loads 6 (.t 13)), Oa 148 (.mkrow 78 6 1 [(.int .i64 0), .nilsl, .nilsl, (.int .i64 0), (.int .i64 0), .nilsl] [(0, (.t 147))]), Oa 149 (.app 78 6 96 (.t 146) (.t 148)), Oa 150 (.faddr 4 (.t 3)), Ob (.store 1 (.t 150) (.t 149))]
abbrev qa10 : List SOper := [Oa 124 (.mv (.t 12)), Oa 125 (.bin .add (.t 124) (.c (.int .i64 1))), Oa 12 (.mv (.t 125))]
def qaez : SCode := (.seq (.seq (.reg false qa15 [1, 2, 3, 12, 123]) (.cond (.t 123) .skip (.exit 8))) (.seq (.block 9 (.seq (.reg false qa14 [1, 2, 3, 12, 13]) (.seq (.reg false qa13 [1, 2, 3, 12, 13, 14]) (.seq (.reg false qa12 [1, 2, 3, 12, 13, 14, 15]) (.seq (.reg true qa11 [1, 2, 3, 12, 13]) (.reg false qajj [1, 2, 3, 12])))))) (.reg false qa10 [1, 2, 3, 12])))
abbrev qaej : List SOper := [Oa 16 (.mv (.c (.int .i64 0)))]
abbrev qa1z : List SOper := [Oa 151 (.mv (.t 16)), Oa 152 (.faddr 5 (.t 1)), Oa 153 (.load (.t 152)), Oa 154 (.len false (.t 153)), Oa 155 (.bin .lss (.t 151) (.t 154))]
abbrev qa1y : List SOper := [Oa 158 (.faddr 5 (.t 1)), Oa 159 (.load (.t 158)), Oa 160 (.mv (.t 16)), Oa 161 (.iaddr 5 (.t 159) (.t 160)), Oa 162 (.loads 5 (.t 161)), Oa 17 (.alloc 80 [(.int .i64 0), (.int .i64 0), .nilsl, (.int .i64 0), (.int .i64 0)]), Ob (.store 5 (.t 17) (.t 162))]
abbrev qa1x : List SOper := [Oa 163 (.faddr 2 (.t 17)), Oa 164 (.load (.t 163)), Oc 165 28 [(.t 164)], Oa 166 (.faddr 2 (.t 17)), Ob (.store 1 (.t 166) (.t 165))]
abbrev qa1w : List SOper := [Oa 167 (.faddr 5 (.t 3)), Oa 168 (.load (.t 167)), Oa 169 (.loads 5 (.t 17)), Oa 170 (.mkrow 80 5 1 [(.int .i64 0), (.int .i64 0), .nilsl, (.int .i64 0), (.int .i64 0)] [(0, (.t 169))]), Oa 171 (.app 80 5 56 (.t 168) (.t 170)), Oa 172 (.faddr 5 (.t 3)), Ob (.store 1 (.t 172) (.t 171))]
abbrev qa1v : List SOper := [Oa 156 (.mv (.t 16)), Oa 157 (.bin .add (.t 156) (.c (.int .i64 1))), Oa 16 (.mv (.t 157))]
def qaek : SCode := (.seq (.seq (.reg false qa1z [1, 2, 3, 16, 155]) (.cond (.t 155) .skip (.exit 10))) (.seq (.block 11 (.seq (.reg false qa1y [1, 2, 3, 16, 17]) (.seq (.reg false qa1x [1, 2, 3, 16, 17]) (.reg false qa1w [1, 2, 3, 16])))) (.reg false qa1v [1, 2, 3, 16])))
abbrev qadx : List SOper := [Oa 173 (.loads 7 (.t 3)), Ob (.store 7 (.t 2) (.t 173))]
def c_oplan : SCode := (.seq (.reg false qbbi [1, 2]) (.seq (.reg true qbbh [1, 2, 3]) (.seq (.seq (.reg false qbbg [1, 2, 3, 4]) (.block 0 (.loop qame))) (.seq (.seq (.reg false qamc [1, 2, 3, 5]) (.block 2 (.loop qaib))) (.seq (.seq (.reg false qagz [1, 2, 3, 8]) (.block 4 (.loop qagd))) (.seq (.seq (.reg false qafd [1, 2, 3, 12]) (.block 8 (.loop qaez))) (.seq (.seq (.reg false qaej [1, 2, 3, 16]) (.block 10 (.loop qaek))) (.seq (.reg false qadx [2]) .ret))))))))
theorem qaoq : comp Tryz.prog 174 ((Tryz.f12.body).getD .skip) = some c_oplan.erase := by kernel_rfl
abbrev qbc5 : List SOper := [Oa 1 (.box 33 (.t 0)), Oa 2 (.mv (.c (.bool false)))]
abbrev qbc4 : List SOper := [Oa 9 (.faddr 0 (.t 1)), Oa 10 (.load (.t 9)), Oa 11 (.len false (.t 10)), Oa 12 (.bin .gtr (.t 11) (.c (.int .i64 50))), Oa 13 (.mv (.t 12)), Oe 14 (.faddr 1 (.t 1)) 13 false, Oe 15 (.load (.t 14)) 13 false, Oe 16 (.len false (.t 15)) 13 false, Oe 17 (.bin .gtr (.t 16) (.c (.int .i64 500))) 13 false, Oa 18 (.pick (.t 13) (.c (.bool true)) (.t 17)), Oa 19 (.mv (.t 18)), Oe 20 (.faddr 2 (.t 1)) 19 false, Oe 21 (.load (.t 20)) 19 false, Oe 22 (.len false (.t 21)) 19 false, Oe 23 (.bin .gtr (.t 22) (.c (.int .i64 50))) 19 false, Oa 24 (.pick (.t 19) (.c (.bool true)) (.t 23)), Oa 25 (.mv (.t 24)), Oe 26 (.faddr 3 (.t 1)) 25 false, Oe 27 (.load (.t 26)) 25 false, Oe 28 (.len false (.t 27)) 25 false, Oe 29 (.bin .gtr (.t 28) (.c (.int .i64 50))) 25 false, Oa 30 (.pick (.t 25) (.c (.bool true)) (.t 29)), Oa 31 (.mv (.t 30)), Oe 32 (.faddr 4 (.t 1)) 31 false, Oe 33 (.load (.t 32)) 31 false, Oe 34 (.len false (.t 33)) 31 false, Oe 35 (.bin .gtr (.t 34) (.c (.int .i64 50))) 31 false, Oa 36 (.pick (.t 31) (.c (.bool true)) (.t 35)), Oa 37 (.mv (.t 36)), Oe 38 (.faddr 5 (.t 1)) 37 false, Oe 39 (.load (.t 38)) 37 false, Oe 40 (.len false (.t 39)) 37 false, Oe 41 (.bin .gtr (.t 40) (.c (.int .i64 50))) 37 false, Oa 42 (.pick (.t 37) (.c (.bool true)) (.t 41)), Oa 43 (.mv (.t 42)), Oe 44 (.faddr 6 (.t 1)) 43 false, Oe 45 (.load (.t 44)) 43 false, Oe 46 (.len false (.t 45)) 43 false, Oe 47 (.bin .gtr (.t 46) (.c (.int .i64 500))) 43 false, Oa 48 (.pick (.t 43) (.c (.bool true)) (.t 47))]
abbrev qbc3 : List SOper := [Oa 2 (.mv (.c (.bool true)))]
abbrev qbc2 : List SOper := [Oa 3 (.mv (.c (.int .i64 0)))]
abbrev qbc1 : List SOper := [Oa 49 (.mv (.t 3)), Oa 50 (.faddr 0 (.t 1)), Oa 51 (.load (.t 50)), Oa 52 (.len false (.t 51)), Oa 53 (.bin .lss (.t 49) (.t 52))]
abbrev qbc0 : List SOper := [Oa 56 (.faddr 0 (.t 1)), Oa 57 (.load (.t 56)), Oa 58 (.mv (.t 3)), Oa 59 (.iaddr 1 (.t 57) (.t 58)), Oa 60 (.faddr 0 (.t 59)), Oa 61 (.load (.t 60)), Oa 62 (.len false (.t 61)), Oa 63 (.bin .gtr (.t 62) (.c (.int .i64 500)))]
abbrev qbcz : List SOper := [Oa 2 (.mv (.c (.bool true)))]
abbrev qbcy : List SOper := [Oa 54 (.mv (.t 3)), Oa 55 (.bin .add (.t 54) (.c (.int .i64 1))), Oa 3 (.mv (.t 55))]
def qamz : SCode := (.seq (.seq (.reg false qbc1 [1, 3, 53]) (.cond (.t 53) .skip (.exit 0))) (.seq (.block 1 (.seq (.reg false qbc0 [1, 3, 63]) (.cond (.t 63) (.seq (.reg false qbcz [2]) .ret) .skip))) (.reg false qbcy [1, 3])))
abbrev qbcx : List SOper := [Oa 4 (.mv (.c (.int .i64 0)))]
abbrev qa3x : List SOper := [Oa 64 (.mv (.t 4)), Oa 65 (.faddr 2 (.t 1)), Oa 66 (.load (.t 65)), Oa 67 (.len false (.t 66)), Oa 68 (.bin .lss (.t 64) (.t 67))]
abbrev qa3w : List SOper := [Oa 71 (.faddr 2 (.t 1)), Oa 72 (.load (.t 71)), Oa 73 (.mv (.t 4)), Oa 74 (.iaddr 5 (.t 72) (.t 73)), Oa 75 (.faddr 3 (.t 74)), Oa 76 (.load (.t 75)), Oa 77 (.len false (.t 76)), Oa 78 (.bin .gtr (.t 77) (.c (.int .i64 500)))]
abbrev qa3v : List SOper := [Oa 2 (.mv (.c (.bool true)))]
abbrev qa3u : List SOper := [Oa 69 (.mv (.t 4)), Oa 70 (.bin .add (.t 69) (.c (.int .i64 1))), Oa 4 (.mv (.t 70))]
def qamy : SCode := (.seq (.seq (.reg false qa3x [1, 4, 68]) (.cond (.t 68) .skip (.exit 2))) (.seq (.block 3 (.seq (.reg false qa3w [1, 4, 78]) (.cond (.t 78) (.seq (.reg false qa3v [2]) .ret) .skip))) (.reg false qa3u [1, 4])))
abbrev qa3t : List SOper := [Oa 5 (.mv (.c (.int .i64 0)))]
abbrev qa3s : List SOper := [Oa 79 (.mv (.t 5)), Oa 80 (.faddr 3 (.t 1)), Oa 81 (.load (.t 80)), Oa 82 (.len false (.t 81)), Oa 83 (.bin .lss (.t 79) (.t 82))]
abbrev qa3r : List SOper := [Oa 86 (.faddr 3 (.t 1)), Oa 87 (.load (.t 86)), Oa 88 (.mv (.t 5)), Oa 89 (.iaddr 2 (.t 87) (.t 88)), Oa 90 (.faddr 0 (.t 89)), Oa 91 (.load (.t 90)), Oa 92 (.len false (.t 91)), Oa 93 (.bin .gtr (.t 92) (.c (.int .i64 500))), Oa 94 (.mv (.t 93)), Oe 95 (.faddr 3 (.t 1)) 94 false, Oe 96 (.load (.t 95)) 94 false, Oe 97 (.mv (.t 5)) 94 false, Oe 98 (.iaddr 2 (.t 96) (.t 97)) 94 false, Oe 99 (.faddr 1 (.t 98)) 94 false, Oe 100 (.load (.t 99)) 94 false, Oe 101 (.len false (.t 100)) 94 false, Oe 102 (.bin .gtr (.t 101) (.c (.int .i64 50))) 94 false, Oa 103 (.pick (.t 94) (.c (.bool true)) (.t 102))]
abbrev qa3q : List SOper := [Oa 2 (.mv (.c (.bool true)))]
abbrev qa3p : List SOper := [Oa 6 (.mv (.c (.int .i64 0)))]
abbrev qa3o : List SOper := [Oa 104 (.mv (.t 6)), Oa 105 (.faddr 3 (.t 1)), Oa 106 (.load (.t 105)), Oa 107 (.mv (.t 5)), Oa 108 (.iaddr 2 (.t 106) (.t 107)), Oa 109 (.faddr 1 (.t 108)), Oa 110 (.load (.t 109)), Oa 111 (.len false (.t 110)), Oa 112 (.bin .lss (.t 104) (.t 111))]
abbrev qa3n : List SOper := [Oa 115 (.faddr 3 (.t 1)), Oa 116 (.load (.t 115)), Oa 117 (.mv (.t 5)), Oa 118 (.iaddr 2 (.t 116) (.t 117)), Oa 119 (.faddr 1 (.t 118)), Oa 120 (.load (.t 119)), Oa 121 (.mv (.t 6)), Oa 122 (.iaddr 5 (.t 120) (.t 121)), Oa 123 (.faddr 4 (.t 122)), Oa 124 (.load (.t 123)), Oa 125 (.len false (.t 124)), Oa 126 (.bin .gtr (.t 125) (.c (.int .i64 500)))]
abbrev qa3m : List SOper := [Oa 2 (.mv (.c (.bool true)))]
abbrev qa3l : List SOper := [Oa 113 (.mv (.t 6)), Oa 114 (.bin .add (.t 113) (.c (.int .i64 1))), Oa 6 (.mv (.t 114))]
def qamx : SCode := (.seq (.seq (.reg false qa3o [1, 5, 6, 112]) (.cond (.t 112) .skip (.exit 6))) (.seq (.block 7 (.seq (.reg false qa3n [1, 5, 6, 126]) (.cond (.t 126) (.seq (.reg false qa3m [2]) .ret) .skip))) (.reg false qa3l [1, 5, 6])))
abbrev qa3k : List SOper := [Oa 84 (.mv (.t 5)), Oa 85 (.bin .add (.t 84) (.c (.int .i64 1))), Oa 5 (.mv (.t 85))]
def qamw : SCode := (.seq (.seq (.reg false qa3s [1, 5, 83]) (.cond (.t 83) .skip (.exit 4))) (.seq (.block 5 (.seq (.seq (.reg false qa3r [1, 5, 103]) (.cond (.t 103) (.seq (.reg false qa3q [2]) .ret) .skip)) (.seq (.reg false qa3p [1, 5, 6]) (.block 6 (.loop qamx))))) (.reg false qa3k [1, 5])))
abbrev qa3j : List SOper := [Oa 7 (.mv (.c (.int .i64 0)))]
abbrev qa3i : List SOper := [Oa 127 (.mv (.t 7)), Oa 128 (.faddr 4 (.t 1)), Oa 129 (.load (.t 128)), Oa 130 (.len false (.t 129)), Oa 131 (.bin .lss (.t 127) (.t 130))]
abbrev qa3h : List SOper := [Oa 134 (.faddr 4 (.t 1)), Oa 135 (.load (.t 134)), Oa 136 (.mv (.t 7)), Oa 137 (.iaddr 6 (.t 135) (.t 136)), Oa 138 (.faddr 1 (.t 137)), Oa 139 (.load (.t 138)), Oa 140 (.len false (.t 139)), Oa 141 (.bin .gtr (.t 140) (.c (.int .i64 500))), Oa 142 (.mv (.t 141)), Oe 143 (.faddr 4 (.t 1)) 142 false, Oe 144 (.load (.t 143)) 142 false, Oe 145 (.mv (.t 7)) 142 false, Oe 146 (.iaddr 6 (.t 144) (.t 145)) 142 false, Oe 147 (.faddr 2 (.t 146)) 142 false, Oe 148 (.load (.t 147)) 142 false, Oe 149 (.len false (.t 148)) 142 false, Oe 150 (.bin .gtr (.t 149) (.c (.int .i64 500))) 142 false, Oa 151 (.pick (.t 142) (.c (.bool true)) (.t 150)), Oa 152 (.mv (.t 151)), Oe 153 (.faddr 4 (.t 1)) 152 false, Oe 154 (.load (.t 153)) 152 false, Oe 155 (.mv (.t 7)) 152 false, Oe 156 (.iaddr 6 (.t 154) (.t 155)) 152 false, Oe 157 (.faddr 5 (.t 156)) 152 false, Oe 158 (.load (.t 157)) 152 false, Oe 159 (.len false (.t 158)) 152 false, Oe 160 (.bin .gtr (.t 159) (.c (.int .i64 500))) 152 false, Oa 161 (.pick (.t 152) (.c (.bool true)) (.t 160))]
abbrev qa3g : List SOper := [Oa 2 (.mv (.c (.bool true)))]
abbrev qa3f : List SOper := [Oa 132 (.mv (.t 7)), Oa 133 (.bin .add (.t 132) (.c (.int .i64 1))), Oa 7 (.mv (.t 133))]
def qamv : SCode := (.seq (.seq (.reg false qa3i [1, 7, 131]) (.cond (.t 131) .skip (.exit 8))) (.seq (.block 9 (.seq (.reg false qa3h [1, 7, 161]) (.cond (.t 161) (.seq (.reg false qa3g [2]) .ret) .skip))) (.reg false qa3f [1, 7])))
abbrev qa3e : List SOper := [Oa 8 (.mv (.c (.int .i64 0)))]
abbrev qa3d : List SOper := [Oa 162 (.mv (.t 8)), Oa 163 (.faddr 5 (.t 1)), Oa 164 (.load (.t 163)), Oa 165 (.len false (.t 164)), Oa 166 (.bin .lss (.t 162) (.t 165))]
abbrev qa3c : List SOper := [Oa 169 (.faddr 5 (.t 1)), Oa 170 (.load (.t 169)), Oa 171 (.mv (.t 8)), Oa 172 (.iaddr 5 (.t 170) (.t 171)), Oa 173 (.faddr 2 (.t 172)), Oa 174 (.load (.t 173)), Oa 175 (.len false (.t 174)), Oa 176 (.bin .gtr (.t 175) (.c (.int .i64 500)))]
abbrev qa3b : List SOper := [Oa 2 (.mv (.c (.bool true)))]
abbrev qa3a : List SOper := [Oa 167 (.mv (.t 8)), Oa 168 (.bin .add (.t 167) (.c (.int .i64 1))), Oa 8 (.mv (.t 168))]
def qamu : SCode := (.seq (.seq (.reg false qa3d [1, 8, 166]) (.cond (.t 166) .skip (.exit 10))) (.seq (.block 11 (.seq (.reg false qa3c [1, 8, 176]) (.cond (.t 176) (.seq (.reg false qa3b [2]) .ret) .skip))) (.reg false qa3a [1, 8])))
abbrev qa29 : List SOper := [Oa 2 (.mv (.c (.bool false)))]
def c_gplan : SCode := (.seq (.reg false qbc5 [1]) (.seq (.seq (.reg false qbc4 [1, 48]) (.cond (.t 48) (.seq (.reg false qbc3 [2]) .ret) .skip)) (.seq (.seq (.reg false qbc2 [1, 3]) (.block 0 (.loop qamz))) (.seq (.seq (.reg false qbcx [1, 4]) (.block 2 (.loop qamy))) (.seq (.seq (.reg false qa3t [1, 5]) (.block 4 (.loop qamw))) (.seq (.seq (.reg false qa3j [1, 7]) (.block 8 (.loop qamv))) (.seq (.seq (.reg false qa3e [1, 8]) (.block 10 (.loop qamu))) (.seq (.reg false qa29 [2]) .ret))))))))
theorem qaoz : comp Tryz.prog 177 ((Tryz.f9.body).getD .skip) = some c_gplan.erase := by kernel_rfl
end Go.Proofs.YteoijlmgiemffaaGreat
namespace Go.Proofs.YteoijlmgiemffaaGreat
set_option linter.all false
open Go.RowKit
attribute [local simp] qabi qabh qaax qaa7 qaay qaa6 qabf qabg qaar qabr SOp.run SX.ev putd puts argS upds SOp.touch SSt.keep SSt.skip gets geth puth delh idOf SV.cells? setL qadh qadi sbin eq0 eq1 eqL qadf qab9 qaca qaap qabk qaag qabl qabs qaaj qaaq FrzOk qaba qaa1 qaa8 qaa9 qaat qaa0 qabm qaa2 qaav qabb qaau frzS frzH frz frz1 frz0 SlotsM ObjsM ObjM rn ren ren1 ren0 qabu qab7 qacf qabt qabn qacg qace CoL qabc qab3 dels adds idsH qabz
attribute [local simp] qadt refc qaes qaei qab8 opc actc tabc qaea qacm nums
theorem qaiv {X : Cx} {sl : Sl} {hp : Hp} {t nx id n e z : Nat} {es fs : List (List SV)} [PureR es] (hm : X.m = 0) (hu : gets sl t = .own id n) (h : geth hp id = some (.row e z es)) (hn : n = es.length) (hf : es = fs) : QFun X [.tmp t] 0 (.view z fs) [] .ret ⟨sl, hp, nx⟩ := by
 subst hf hn
 have h1 : Wk X ⟨sl, hp, nx⟩ (SSt.frz ⟨sl, hp, nx⟩ [id]) := wk_frz [id] fun i o hi ho => by
  have : i = id := by simpa using hi
  subst this
  rw [h] at ho; cases ho
  exact (qad9 e z es).2 trivial
 have h2 : gets (frzS (geth hp) [id] sl) t = .view z es := by
  rw [qanz, hu]; simp [frz, frz1, frz0, h]
 refine ⟨⟨[(t, .view z es)], [], 0⟩, h1.trans (qaeu [] hm rfl (Nat.zero_le _) ⟨?_, trivial⟩ trivial), by simp [qakm, resL, resV, one_, gets], trivial, by simp⟩
 show Co (gets (frzS (geth hp) [id] sl) t) _
 rw [h2]; exact Co.refl _
theorem qakp (l : List Int) (hl : l.length ≤ 1000000) (q : Nat) : SCalls Tryz.prog 27 [nums .i64 l] [] q (nums .i64 l) [] := by
 refine qabj ?_ (fun _ => rfl) (fun _ => rfl) rfl q
 refine qaas (N := 7) Tryz.func27 rfl rfl (by kernel_rfl) qaor (by simp) (by repeat' (first | exact trivial | refine And.intro ?_ ?_ | rfl | decide | exact PureR.ren _)) (by repeat' (first | exact trivial | refine And.intro ?_ ?_ | rfl | decide | exact PureR.ren _)) ?_
 rintro X hP hN hm
 have hb : l.length ≤ maxLen := by unfold maxLen; omega
 unfold c_oints
 repeat' (first | (with_reducible refine zA ?_) | ((with_reducible refine qaac ?_); (try rw [hP]); simp -implicitDefEqProofs [*]) | ((with_reducible refine qaam ?_); (try simp only [qaap, qaag, qaaj])) | ((with_reducible refine qabo ?_ ?_); (first | omega | (unfold maxLen; omega)); simp -implicitDefEqProofs [*]) | (refine qaiv hm rfl rfl ?_ rfl) | fail)
 all_goals simp
theorem qbhs (l : List PushD) (hl : l.length ≤ 1000000) (q : Nat) : SCalls Tryz.prog 28 [qab2 l] [] q (qab2 l) [] := by
 refine qabj ?_ (fun _ => rfl) (fun _ => rfl) rfl q
 refine qaas (N := 7) Tryz.func28 rfl rfl (by kernel_rfl) qaop (by simp) (by repeat' (first | exact trivial | refine And.intro ?_ ?_ | rfl | decide | exact PureR.ren _)) (by repeat' (first | exact trivial | refine And.intro ?_ ?_ | rfl | decide | exact PureR.ren _)) ?_
 rintro X hP hN hm
 have hb : l.length ≤ maxLen := by unfold maxLen; omega
 unfold c_otree
 repeat' (first | (with_reducible refine zA ?_) | ((with_reducible refine qaac ?_); (try rw [hP]); simp -implicitDefEqProofs [qab2, *]) | ((with_reducible refine qaam ?_); (try simp only [qaap, qaag, qaaj])) | ((with_reducible refine qabo ?_ ?_); (first | omega | (unfold maxLen; omega)); simp -implicitDefEqProofs [qab2, *]) | (refine qaiv hm rfl rfl ?_ rfl) | fail)
 all_goals simp
instance pureR_take (fs : List (List SV)) [PureR fs] (i : Nat) : PureR (fs.take i) := ⟨fun σ => by rw [List.map_take, PureR.ren], fun x hx => PureR.ok x (List.mem_of_mem_take hx), fun x hx => PureR.pure x (List.mem_of_mem_take hx)⟩
theorem qagf {α : Type} (f : α → List SV) {l : List α} {i : Nat} (hi : i ≤ l.length) : ((l.take i).map f).length = i := by simp; omega
theorem qae0 {α : Type} (f : α → List SV) {l : List α} {i : Nat} (hi : i < l.length) : (l.take i).map f ++ [f l[i]] = (l.take (i + 1)).map f := by
 rw [List.take_succ_eq_append_getElem hi, List.map_append]; rfl
theorem qbk3 : qaig Tryz.prog 33 = some true := by kernel_rfl
theorem qbef : qacb Tryz.prog 33 = some 7 := by kernel_rfl
set_option maxHeartbeats 8000000 in
theorem oplan_s (p : PlanD) (hs : SmallP p) (q : Nat) : SCalls Tryz.prog 12 [.agg (qacm p)] [] q (.agg (qacm p)) [] := by
 refine qabj ?_ (fun _ => rfl) (fun _ => rfl) rfl q
 refine qaas (N := 174) Tryz.func12 rfl rfl (by kernel_rfl) qaoq (by simp) (by repeat' (first | exact trivial | refine And.intro ?_ ?_ | rfl | decide | exact PureR.ren _)) (by repeat' (first | exact trivial | refine And.intro ?_ ?_ | rfl | decide | exact PureR.ren _)) ?_
 rintro X hP hN hm
 have hl1 := hs.heads
 have hl2 := hs.metas
 have hl3 := hs.states
 have hl4 := hs.acts
 have hl5 := hs.tabs
 have hl6 := hs.nodes
 have hl7 := hs.outs
 unfold c_oplan
 repeat' (first | (with_reducible first | refine zA ?_ | refine zK ?_) | ((with_reducible first | refine qaac ?_ | refine qaaz (by rw [hP]; exact qacz) ?_); (try rw [hP]); simp -implicitDefEqProofs [*]) | ((first | refine qaaw (qakp p.meta_ (by omega) _) ?_ | refine qaaw (qakp p.out (by omega) _) ?_); simp -implicitDefEqProofs [*]) | fail)
 refine qaco (qael (t := 33) (cs := [.nilsl, nums .i64 p.meta_, .nilsl, .nilsl, .nilsl, .nilsl, nums .i64 p.out]) 23 0 64 1 rfl rfl) ?_
 simp only [zT, puth, Nat.reduceEqDiff, reduceIte, Nat.reduceAdd, List.set]
 refine qaal (qaa5 (fun s (i : Nat) => s.turn [(4, .int .i64 i)] [(23, .cells 33 [.own 26 i, nums .i64 p.meta_, .nilsl, .nilsl, .nilsl, .nilsl, nums .i64 p.out]), (26, .row 64 1 ((p.heads.take i).map qadt))]) (fun i => i ≤ p.heads.length) (fun i => p.heads.length - i) 0 ?_ (by simp) ?_)
 ·repeat' (first | ((with_reducible refine qaah [] hm ?_ ?_ ?_ ?_) <;> (try simp only [zT, puth, Nat.reduceEqDiff, reduceIte, Nat.reduceAdd])) | (with_reducible first | refine za ?_ ?_ | refine zb ?_ ?_ ?_ ?_ | refine zc ?_ ?_ ?_ ?_) | (with_reducible first | exact qaab | exact qaad) | ((with_reducible first | refine zga ?_ | refine zgb ?_); rfl) | ((with_reducible refine zgc ?_); (first | (with_reducible rfl) | rfl | (simp; done))) | ((with_reducible refine zgd ?_); (first | omega | (simp; done))) | (exact Co.refl _) | (exact CoL.refl _) | fail)
 rintro J hJ i hi
 unfold qame
 simp only [zT, puth, Nat.reduceEqDiff, reduceIte, Nat.reduceAdd]
 have hlen := qagf qadt hi
 have hb1 : i + 1 ≤ maxLen := by unfold maxLen; omega
 rcases Nat.lt_or_ge i p.heads.length with h | h
 ·have wi : IntKind.i64.wrap ((i : Int) + 1) = (i : Int) + 1 := qaao (by omega) (by omega)
  have hrow := qae0 qadt h
  have hc := fun q => qakp p.heads[i].w (by have := hs.headW _ (List.getElem_mem h); omega) q
  generalize hr : p.heads[i] = r at hrow hc
  replace hc := Lib.hid hc
  repeat' (first | (with_reducible first | refine zA ?_ | refine qaeh ?_ | refine zK ?_) | ((with_reducible first | refine qaac ?_ | refine qaaz (by rw [hP]; exact qacz) ?_); (try rw [hP]); simp -implicitDefEqProofs [*]) | ((with_reducible refine qaaf ?_); (try simp -implicitDefEqProofs [*])) | ((with_reducible refine qaaa rfl (fun h => ?_) (fun h => ?_)) <;> have h' := h <;> (try simp at h') <;> (try subst h')) | ((with_reducible refine qabo ?_ ?_); (first | omega | (unfold maxLen; omega)); simp -implicitDefEqProofs [*]) | (refine qaaw (hc.out _) ?_; simp -implicitDefEqProofs [*]) | (with_reducible first | refine za ?_ ?_ | refine zb ?_ ?_ ?_ ?_ | refine zc ?_ ?_ ?_ ?_) | (with_reducible first | exact qaab | exact qaad) | ((with_reducible first | refine zga ?_ | refine zgb ?_); rfl) | ((with_reducible first | refine zgd ?_ | refine zge ?_); (first | omega | (simp; done))) | (exact Co.refl _) | (exact CoL.refl _) | ((refine qaai hJ (i + 1) ?_ ?_ ?_; (with_reducible refine qaah [(23, ?_), (26, ?_)] hm ?_ ?_ ?_ ?_) <;> (try simp only [zT, puth, Nat.reduceEqDiff, reduceIte, Nat.reduceAdd]))) | fail)
  all_goals (first | exact hrow | (rw [← List.map_take]; exact hrow) | omega)
 ·obtain rfl : i = p.heads.length := by omega
  repeat' (first | ((with_reducible refine qacr (c := (.seq (.seq (.reg false qamc [1, 2, 3, 5]) (.block 2 (.loop qaib))) (.seq (.seq (.reg false qagz [1, 2, 3, 8]) (.block 4 (.loop qagd))) (.seq (.seq (.reg false qafd [1, 2, 3, 12]) (.block 8 (.loop qaez))) (.seq (.seq (.reg false qaej [1, 2, 3, 16]) (.block 10 (.loop qaek))) (.seq (.reg false qadx [2]) .ret)))))) ?_)) | (with_reducible refine zA ?_) | ((with_reducible refine qaac ?_); (try rw [hP]); simp -implicitDefEqProofs [*]) | ((with_reducible refine qaak ?_); (try simp -implicitDefEqProofs [*])) | ((with_reducible refine qaaa rfl (fun h => ?_) (fun h => ?_)) <;> have h' := h <;> (try simp at h') <;> (try subst h')) | fail)
  constructor
  clear hJ hi h
  refine qaeg [26] ?_ ?_
  ·simp only [FrzOk, geth, Nat.reduceEqDiff, reduceIte, qad9, and_true]
  have htk : ((p.heads.take p.heads.length).map qadt).take p.heads.length = p.heads.map qadt := by rw [List.take_length]; exact List.take_of_length_le (by simp)
  simp -implicitDefEqProofs [htk, hlen, Nat.le_refl]
  clear hlen htk hb1
  repeat' (first | (with_reducible refine zA ?_) | ((with_reducible refine qaac ?_); (try rw [hP]); simp -implicitDefEqProofs [*]) | fail)
  refine qaco (qael (t := 33) (cs := [.view 1 (p.heads.map qadt), nums .i64 p.meta_, .nilsl, .nilsl, .nilsl, .nilsl, nums .i64 p.out]) 23 2 69 5 rfl rfl) ?_
  simp only [zT, puth, Nat.reduceEqDiff, reduceIte, Nat.reduceAdd, List.set]
  refine qaal (qaa5 (fun s (i : Nat) => s.turn [(5, .int .i64 i)] [(23, .cells 33 [.view 1 (p.heads.map qadt), nums .i64 p.meta_, .own 33 i, .nilsl, .nilsl, .nilsl, nums .i64 p.out]), (33, .row 69 5 ((p.states.take i).map qab8))]) (fun i => i ≤ p.states.length) (fun i => p.states.length - i) 0 ?_ (by simp) ?_)
  ·repeat' (first | ((with_reducible refine qaah [] hm ?_ ?_ ?_ ?_) <;> (try simp only [zT, puth, Nat.reduceEqDiff, reduceIte, Nat.reduceAdd])) | (with_reducible first | refine za ?_ ?_ | refine zb ?_ ?_ ?_ ?_ | refine zc ?_ ?_ ?_ ?_) | (with_reducible first | exact qaab | exact qaad) | ((with_reducible first | refine zga ?_ | refine zgb ?_); rfl) | ((with_reducible refine zgc ?_); (first | (with_reducible rfl) | rfl | (simp; done))) | ((with_reducible refine zgd ?_); (first | omega | (simp; done))) | (exact Co.refl _) | (exact CoL.refl _) | fail)
  rintro J hJ i hi
  unfold qaib
  simp only [zT, puth, Nat.reduceEqDiff, reduceIte, Nat.reduceAdd]
  have hlen := qagf qab8 hi
  have hb1 : i + 1 ≤ maxLen := by unfold maxLen; omega
  rcases Nat.lt_or_ge i p.states.length with h | h
  ·have wi : IntKind.i64.wrap ((i : Int) + 1) = (i : Int) + 1 := qaao (by omega) (by omega)
   have hrow := qae0 qab8 h
   have hcl := hs.cases_ _ (List.getElem_mem h)
   generalize hr : p.states[i] = r at hrow hcl
   have hcb : r.cases_.length ≤ maxLen := by unfold maxLen; omega
   repeat' (first | ((with_reducible refine qacr (c := .reg false qajl [1, 2, 3, 5]) ?_)) | (with_reducible first | refine zA ?_ | refine qaae ?_) | ((with_reducible refine qaac ?_); (try rw [hP]); simp -implicitDefEqProofs [*]) | ((with_reducible refine qaaf ?_); (try simp -implicitDefEqProofs [*])) | ((with_reducible refine qaaa rfl (fun h => ?_) (fun h => ?_)) <;> have h' := h <;> (try simp at h') <;> (try subst h')) | ((with_reducible refine qabo ?_ ?_); (first | omega | (unfold maxLen; omega)); simp -implicitDefEqProofs [*]) | fail)
   constructor
   refine qaeg [50] ?_ ?_
   ·simp only [FrzOk, geth, Nat.reduceEqDiff, reduceIte, qad9, and_true]
   have htk : (r.cases_.map qaei).take r.cases_.length = r.cases_.map qaei := List.take_of_length_le (by simp)
   simp -implicitDefEqProofs [htk, Nat.le_refl]
   repeat' (first | ((with_reducible refine qaac ?_); (try rw [hP]); simp -implicitDefEqProofs [*]) | ((with_reducible refine qabo ?_ ?_); (first | omega | (unfold maxLen; omega)); simp -implicitDefEqProofs [*]) | (with_reducible first | refine za ?_ ?_ | refine zb ?_ ?_ ?_ ?_ | refine zc ?_ ?_ ?_ ?_) | (with_reducible first | exact qaab | exact qaad) | ((with_reducible first | refine zga ?_ | refine zgb ?_); rfl) | ((with_reducible first | refine zgd ?_ | refine zge ?_); (first | omega | (simp; done))) | (exact Co.refl _) | (exact CoL.refl _) | ((refine qaai hJ (i + 1) ?_ ?_ ?_; (with_reducible refine qaah [(23, ?_), (33, ?_)] hm ?_ ?_ ?_ ?_) <;> (try simp only [zT, puth, Nat.reduceEqDiff, reduceIte, Nat.reduceAdd]))) | fail)
   all_goals (first | exact hrow | (rw [← List.map_take]; exact hrow) | omega)
  ·obtain rfl : i = p.states.length := by omega
   repeat' (first | ((with_reducible refine qacr (c := (.seq (.seq (.reg false qagz [1, 2, 3, 8]) (.block 4 (.loop qagd))) (.seq (.seq (.reg false qafd [1, 2, 3, 12]) (.block 8 (.loop qaez))) (.seq (.seq (.reg false qaej [1, 2, 3, 16]) (.block 10 (.loop qaek))) (.seq (.reg false qadx [2]) .ret))))) ?_)) | (with_reducible refine zA ?_) | ((with_reducible refine qaac ?_); (try rw [hP]); simp -implicitDefEqProofs [*]) | ((with_reducible refine qaak ?_); (try simp -implicitDefEqProofs [*])) | ((with_reducible refine qaaa rfl (fun h => ?_) (fun h => ?_)) <;> have h' := h <;> (try simp at h') <;> (try subst h')) | fail)
   constructor
   clear hJ hi h
   refine qaeg [33] ?_ ?_
   ·simp only [FrzOk, geth, Nat.reduceEqDiff, reduceIte, qad9, and_true]
   have htk : ((p.states.take p.states.length).map qab8).take p.states.length = p.states.map qab8 := by rw [List.take_length]; exact List.take_of_length_le (by simp)
   simp -implicitDefEqProofs [htk, hlen, Nat.le_refl]
   clear hlen htk hb1
   repeat' (first | (with_reducible refine zA ?_) | ((with_reducible refine qaac ?_); (try rw [hP]); simp -implicitDefEqProofs [*]) | fail)
   refine qaco (qael (t := 33) (cs := [.view 1 (p.heads.map qadt), nums .i64 p.meta_, .view 5 (p.states.map qab8), .nilsl, .nilsl, .nilsl, nums .i64 p.out]) 23 3 72 2 rfl rfl) ?_
   simp only [zT, puth, Nat.reduceEqDiff, reduceIte, Nat.reduceAdd, List.set]
   refine qaal (qaa5 (fun s (i : Nat) => s.turn [(8, .int .i64 i)] [(23, .cells 33 [.view 1 (p.heads.map qadt), nums .i64 p.meta_, .view 5 (p.states.map qab8), .own 40 i, .nilsl, .nilsl, nums .i64 p.out]), (40, .row 72 2 ((p.acts.take i).map actc))]) (fun i => i ≤ p.acts.length) (fun i => p.acts.length - i) 0 ?_ (by simp) ?_)
   ·repeat' (first | ((with_reducible refine qaah [] hm ?_ ?_ ?_ ?_) <;> (try simp only [zT, puth, Nat.reduceEqDiff, reduceIte, Nat.reduceAdd])) | (with_reducible first | refine za ?_ ?_ | refine zb ?_ ?_ ?_ ?_ | refine zc ?_ ?_ ?_ ?_) | (with_reducible first | exact qaab | exact qaad) | ((with_reducible first | refine zga ?_ | refine zgb ?_); rfl) | ((with_reducible refine zgc ?_); (first | (with_reducible rfl) | rfl | (simp; done))) | ((with_reducible refine zgd ?_); (first | omega | (simp; done))) | (exact Co.refl _) | (exact CoL.refl _) | fail)
   rintro J hJ i hi
   have hJo := hJ
   unfold qagd
   simp only [zT, puth, Nat.reduceEqDiff, reduceIte, Nat.reduceAdd]
   have hlen := qagf actc hi
   have hb1 : i + 1 ≤ maxLen := by unfold maxLen; omega
   rcases Nat.lt_or_ge i p.acts.length with h | h
   ·have wi : IntKind.i64.wrap ((i : Int) + 1) = (i : Int) + 1 := qaao (by omega) (by omega)
    have hrow := qae0 actc h
    have hc := fun q => qakp p.acts[i].w (by have := hs.actW _ (List.getElem_mem h); omega) q
    have hol := hs.ops _ (List.getElem_mem h)
    have htl := hs.tree _ (List.getElem_mem h)
    generalize hr : p.acts[i] = r at hrow hc hol htl
    replace hc := Lib.hid hc
    replace htl := Lib.hid htl
    repeat' (first | (with_reducible first | refine zA ?_ | refine qaae ?_) | ((with_reducible refine qaac ?_); (try rw [hP]); simp -implicitDefEqProofs [*]) | ((with_reducible refine qaaf ?_); (try simp -implicitDefEqProofs [*])) | ((with_reducible refine qaaa rfl (fun h => ?_) (fun h => ?_)) <;> have h' := h <;> (try simp at h') <;> (try subst h')) | (refine qaaw (hc.out _) ?_; simp -implicitDefEqProofs [*]) | fail)
    refine qaco (qael (t := 72) (cs := [nums .i64 r.w, .nilsl]) 61 1 75 5 rfl rfl) ?_
    simp only [zT, puth, Nat.reduceEqDiff, reduceIte, Nat.reduceAdd, List.set]
    refine qaal (qaa5 (fun s (k : Nat) => s.turn [(10, .int .i64 k)] [(61, .cells 72 [nums .i64 r.w, .own 64 k]), (64, .row 75 5 ((r.ops.take k).map opc))]) (fun k => k ≤ r.ops.length) (fun k => r.ops.length - k) 0 ?_ (by simp) ?_)
    ·repeat' (first | ((with_reducible refine qaah [] hm ?_ ?_ ?_ ?_) <;> (try simp only [zT, puth, Nat.reduceEqDiff, reduceIte, Nat.reduceAdd])) | (with_reducible first | refine za ?_ ?_ | refine zb ?_ ?_ ?_ ?_ | refine zc ?_ ?_ ?_ ?_) | (with_reducible first | exact qaab | exact qaad) | ((with_reducible first | refine zga ?_ | refine zgb ?_); rfl) | ((with_reducible refine zgc ?_); (first | (with_reducible rfl) | rfl | (simp; done))) | ((with_reducible refine zgd ?_); (first | omega | (simp; done))) | (exact Co.refl _) | (exact CoL.refl _) | fail)
    rintro J hJ k hk
    unfold qamd
    simp only [zT, puth, Nat.reduceEqDiff, reduceIte, Nat.reduceAdd]
    have hlen2 := qagf opc hk
    have hb2 : k + 1 ≤ maxLen := by unfold maxLen; omega
    rcases Nat.lt_or_ge k r.ops.length with h2 | h2
    ·have wk2 : IntKind.i64.wrap ((k : Int) + 1) = (k : Int) + 1 := qaao (by omega) (by omega)
     have hrow2 := qae0 opc h2
     have hc2 := fun q => qbhs r.ops[k].e (by have := htl.out _ (List.getElem_mem h2); omega) q
     generalize hy : r.ops[k] = y at hrow2 hc2
     replace hc2 := Lib.hid hc2
     repeat' (first | (with_reducible first | refine zA ?_ | refine qaae ?_) | ((with_reducible refine qaac ?_); (try rw [hP]); simp -implicitDefEqProofs [qab2, *]) | ((with_reducible refine qaaf ?_); (try simp -implicitDefEqProofs [qab2, *])) | ((with_reducible refine qaaa rfl (fun h => ?_) (fun h => ?_)) <;> have h' := h <;> (try simp at h') <;> (try subst h')) | ((with_reducible refine qabo ?_ ?_); (first | omega | (unfold maxLen; omega)); simp -implicitDefEqProofs [qab2, *]) | (refine qaaw (hc2.out _) ?_; simp -implicitDefEqProofs [qab2, *]) | (with_reducible first | refine za ?_ ?_ | refine zb ?_ ?_ ?_ ?_ | refine zc ?_ ?_ ?_ ?_) | (with_reducible first | exact qaab | exact qaad) | ((with_reducible first | refine zga ?_ | refine zgb ?_); rfl) | ((with_reducible refine zgc ?_); (first | (with_reducible rfl) | rfl | (simp; done))) | ((with_reducible first | refine zgd ?_ | refine zge ?_); (first | omega | (simp; done))) | (exact Co.refl _) | (exact CoL.refl _) | ((refine qaai hJ (k + 1) ?_ ?_ ?_; (with_reducible refine qaah [(61, ?_), (64, ?_)] hm ?_ ?_ ?_ ?_) <;> (try simp only [zT, puth, Nat.reduceEqDiff, reduceIte, Nat.reduceAdd]))) | fail)
     all_goals (first | exact hrow2 | (rw [← List.map_take]; exact hrow2) | omega)
    ·obtain rfl : k = r.ops.length := by omega
     repeat' (first | ((with_reducible refine qacr (c := .reg false qajk [1, 2, 3, 8]) ?_)) | (with_reducible refine zA ?_) | ((with_reducible refine qaac ?_); (try rw [hP]); simp -implicitDefEqProofs [*]) | ((with_reducible refine qaak ?_); (try simp -implicitDefEqProofs [*])) | ((with_reducible refine qaaa rfl (fun h => ?_) (fun h => ?_)) <;> have h' := h <;> (try simp at h') <;> (try subst h')) | fail)
     constructor
     refine qaeg [64] ?_ ?_
     ·simp only [FrzOk, geth, Nat.reduceEqDiff, reduceIte, qad9, and_true]
     have htk : ((r.ops.take r.ops.length).map opc).take r.ops.length = r.ops.map opc := by rw [List.take_length]; exact List.take_of_length_le (by simp)
     simp -implicitDefEqProofs [htk, hlen2, Nat.le_refl]
     repeat' (first | ((with_reducible refine qaac ?_); (try rw [hP]); simp -implicitDefEqProofs [*]) | ((with_reducible refine qabo ?_ ?_); (first | omega | (unfold maxLen; omega)); simp -implicitDefEqProofs [*]) | (with_reducible first | refine za ?_ ?_ | refine zb ?_ ?_ ?_ ?_ | refine zc ?_ ?_ ?_ ?_) | (with_reducible first | exact qaab | exact qaad) | ((with_reducible first | refine zga ?_ | refine zgb ?_); rfl) | ((with_reducible first | refine zgd ?_ | refine zge ?_); (first | omega | (simp; done))) | (exact Co.refl _) | (exact CoL.refl _) | ((refine qaai hJo (i + 1) ?_ ?_ ?_; (with_reducible refine qaah [(23, ?_), (40, ?_)] hm ?_ ?_ ?_ ?_) <;> (try simp only [zT, puth, Nat.reduceEqDiff, reduceIte, Nat.reduceAdd]))) | fail)
     all_goals (first | exact hrow | (rw [← List.map_take]; exact hrow) | omega)
   ·obtain rfl : i = p.acts.length := by omega
    repeat' (first | ((with_reducible refine qacr (c := (.seq (.seq (.reg false qafd [1, 2, 3, 12]) (.block 8 (.loop qaez))) (.seq (.seq (.reg false qaej [1, 2, 3, 16]) (.block 10 (.loop qaek))) (.seq (.reg false qadx [2]) .ret)))) ?_)) | (with_reducible refine zA ?_) | ((with_reducible refine qaac ?_); (try rw [hP]); simp -implicitDefEqProofs [*]) | ((with_reducible refine qaak ?_); (try simp -implicitDefEqProofs [*])) | ((with_reducible refine qaaa rfl (fun h => ?_) (fun h => ?_)) <;> have h' := h <;> (try simp at h') <;> (try subst h')) | fail)
    constructor
    clear hJ hi h
    refine qaeg [40] ?_ ?_
    ·simp only [FrzOk, geth, Nat.reduceEqDiff, reduceIte, qad9, and_true]
    have htk : ((p.acts.take p.acts.length).map actc).take p.acts.length = p.acts.map actc := by rw [List.take_length]; exact List.take_of_length_le (by simp)
    simp -implicitDefEqProofs [htk, hlen, Nat.le_refl]
    clear hlen htk hb1
    repeat' (first | (with_reducible refine zA ?_) | ((with_reducible refine qaac ?_); (try rw [hP]); simp -implicitDefEqProofs [*]) | fail)
    refine qaco (qael (t := 33) (cs := [.view 1 (p.heads.map qadt), nums .i64 p.meta_, .view 5 (p.states.map qab8), .view 2 (p.acts.map actc), .nilsl, .nilsl, nums .i64 p.out]) 23 4 78 6 rfl rfl) ?_
    simp only [zT, puth, Nat.reduceEqDiff, reduceIte, Nat.reduceAdd, List.set]
    refine qaal (qaa5 (fun s (i : Nat) => s.turn [(12, .int .i64 i)] [(23, .cells 33 [.view 1 (p.heads.map qadt), nums .i64 p.meta_, .view 5 (p.states.map qab8), .view 2 (p.acts.map actc), .own 47 i, .nilsl, nums .i64 p.out]), (47, .row 78 6 ((p.tabs.take i).map tabc))]) (fun i => i ≤ p.tabs.length) (fun i => p.tabs.length - i) 0 ?_ (by simp) ?_)
    ·repeat' (first | ((with_reducible refine qaah [] hm ?_ ?_ ?_ ?_) <;> (try simp only [zT, puth, Nat.reduceEqDiff, reduceIte, Nat.reduceAdd])) | (with_reducible first | refine za ?_ ?_ | refine zb ?_ ?_ ?_ ?_ | refine zc ?_ ?_ ?_ ?_) | (with_reducible first | exact qaab | exact qaad) | ((with_reducible first | refine zga ?_ | refine zgb ?_); rfl) | ((with_reducible refine zgc ?_); (first | (with_reducible rfl) | rfl | (simp; done))) | ((with_reducible refine zgd ?_); (first | omega | (simp; done))) | (exact Co.refl _) | (exact CoL.refl _) | fail)
    rintro J hJ i hi
    unfold qaez
    simp only [zT, puth, Nat.reduceEqDiff, reduceIte, Nat.reduceAdd]
    have hlen := qagf tabc hi
    have hb1 : i + 1 ≤ maxLen := by unfold maxLen; omega
    rcases Nat.lt_or_ge i p.tabs.length with h | h
    ·have wi : IntKind.i64.wrap ((i : Int) + 1) = (i : Int) + 1 := qaao (by omega) (by omega)
     have hrow := qae0 tabc h
     have hkl := hs.keys _ (List.getElem_mem h)
     generalize hr : p.tabs[i] = r at hrow hkl
     have hkb1 : r.keys.length ≤ maxLen := by unfold maxLen; omega
     have hkb2 : r.args.length ≤ maxLen := by unfold maxLen; omega
     have hc := fun q => qakp r.acts (by omega) q
     replace hc := Lib.hid hc
     repeat' (first | ((with_reducible refine qacr (c := .reg false qajj [1, 2, 3, 12]) ?_)) | (with_reducible first | refine zA ?_ | refine qaae ?_ | refine zK ?_) | ((with_reducible first | refine qaac ?_ | refine qaaz (by rw [hP]; exact qacz) ?_); (try rw [hP]); simp -implicitDefEqProofs [*]) | ((with_reducible refine qaaf ?_); (try simp -implicitDefEqProofs [*])) | ((with_reducible refine qaaa rfl (fun h => ?_) (fun h => ?_)) <;> have h' := h <;> (try simp at h') <;> (try subst h')) | ((with_reducible refine qabo ?_ ?_); (first | omega | (unfold maxLen; omega)); simp -implicitDefEqProofs [*]) | (refine qaaw (hc.out _) ?_; simp -implicitDefEqProofs [*]) | fail)
     constructor
     refine qaeg [65, 79] ?_ ?_
     ·simp only [FrzOk, geth, Nat.reduceEqDiff, reduceIte, qad9, and_true]
     have htk1 : (r.keys.map refc).take r.keys.length = r.keys.map refc := List.take_of_length_le (by simp)
     have htk2 : (r.args.map fun x => [SV.int .u64 x]).take r.args.length = r.args.map fun x => [SV.int .u64 x] := List.take_of_length_le (by simp)
     simp -implicitDefEqProofs [htk1, htk2, Nat.le_refl]
     repeat' (first | ((with_reducible refine qaac ?_); (try rw [hP]); simp -implicitDefEqProofs [*]) | ((with_reducible refine qabo ?_ ?_); (first | omega | (unfold maxLen; omega)); simp -implicitDefEqProofs [*]) | (with_reducible first | refine za ?_ ?_ | refine zb ?_ ?_ ?_ ?_ | refine zc ?_ ?_ ?_ ?_) | (with_reducible first | exact qaab | exact qaad) | ((with_reducible first | refine zga ?_ | refine zgb ?_); rfl) | ((with_reducible first | refine zgd ?_ | refine zge ?_); (first | omega | (simp; done))) | (exact Co.refl _) | (exact CoL.refl _) | ((refine qaai hJ (i + 1) ?_ ?_ ?_; (with_reducible refine qaah [(23, ?_), (47, ?_)] hm ?_ ?_ ?_ ?_) <;> (try simp only [zT, puth, Nat.reduceEqDiff, reduceIte, Nat.reduceAdd]))) | fail)
     all_goals (first | exact hrow | (rw [← List.map_take]; exact hrow) | omega)
    ·obtain rfl : i = p.tabs.length := by omega
     repeat' (first | ((with_reducible refine qacr (c := (.seq (.seq (.reg false qaej [1, 2, 3, 16]) (.block 10 (.loop qaek))) (.seq (.reg false qadx [2]) .ret))) ?_)) | (with_reducible refine zA ?_) | ((with_reducible refine qaac ?_); (try rw [hP]); simp -implicitDefEqProofs [*]) | ((with_reducible refine qaak ?_); (try simp -implicitDefEqProofs [*])) | ((with_reducible refine qaaa rfl (fun h => ?_) (fun h => ?_)) <;> have h' := h <;> (try simp at h') <;> (try subst h')) | fail)
     constructor
     clear hJ hi h
     refine qaeg [47] ?_ ?_
     ·simp only [FrzOk, geth, Nat.reduceEqDiff, reduceIte, qad9, and_true]
     have htk : ((p.tabs.take p.tabs.length).map tabc).take p.tabs.length = p.tabs.map tabc := by rw [List.take_length]; exact List.take_of_length_le (by simp)
     simp -implicitDefEqProofs [htk, hlen, Nat.le_refl]
     clear hlen htk hb1
     repeat' (first | (with_reducible refine zA ?_) | ((with_reducible refine qaac ?_); (try rw [hP]); simp -implicitDefEqProofs [*]) | fail)
     refine qaco (qael (t := 33) (cs := [.view 1 (p.heads.map qadt), nums .i64 p.meta_, .view 5 (p.states.map qab8), .view 2 (p.acts.map actc), .view 6 (p.tabs.map tabc), .nilsl, nums .i64 p.out]) 23 5 80 5 rfl rfl) ?_
     simp only [zT, puth, Nat.reduceEqDiff, reduceIte, Nat.reduceAdd, List.set]
     refine qaal (qaa5 (fun s (i : Nat) => s.turn [(16, .int .i64 i)] [(23, .cells 33 [.view 1 (p.heads.map qadt), nums .i64 p.meta_, .view 5 (p.states.map qab8), .view 2 (p.acts.map actc), .view 6 (p.tabs.map tabc), .own 54 i, nums .i64 p.out]), (54, .row 80 5 ((p.nodes.take i).map qaea))]) (fun i => i ≤ p.nodes.length) (fun i => p.nodes.length - i) 0 ?_ (by simp) ?_)
     ·repeat' (first | ((with_reducible refine qaah [] hm ?_ ?_ ?_ ?_) <;> (try simp only [zT, puth, Nat.reduceEqDiff, reduceIte, Nat.reduceAdd])) | (with_reducible first | refine za ?_ ?_ | refine zb ?_ ?_ ?_ ?_ | refine zc ?_ ?_ ?_ ?_) | (with_reducible first | exact qaab | exact qaad) | ((with_reducible first | refine zga ?_ | refine zgb ?_); rfl) | ((with_reducible refine zgc ?_); (first | (with_reducible rfl) | rfl | (simp; done))) | ((with_reducible refine zgd ?_); (first | omega | (simp; done))) | (exact Co.refl _) | (exact CoL.refl _) | fail)
     rintro J hJ i hi
     unfold qaek
     simp only [zT, puth, Nat.reduceEqDiff, reduceIte, Nat.reduceAdd]
     have hlen := qagf qaea hi
     have hb1 : i + 1 ≤ maxLen := by unfold maxLen; omega
     rcases Nat.lt_or_ge i p.nodes.length with h | h
     ·have wi : IntKind.i64.wrap ((i : Int) + 1) = (i : Int) + 1 := qaao (by omega) (by omega)
      have hrow := qae0 qaea h
      have hc := fun q => qbhs p.nodes[i].e (by have := hs.node _ (List.getElem_mem h); omega) q
      generalize hr : p.nodes[i] = r at hrow hc
      replace hc := Lib.hid hc
      repeat' (first | (with_reducible first | refine zA ?_ | refine qaae ?_) | ((with_reducible refine qaac ?_); (try rw [hP]); simp -implicitDefEqProofs [qab2, *]) | ((with_reducible refine qaaf ?_); (try simp -implicitDefEqProofs [qab2, *])) | ((with_reducible refine qaaa rfl (fun h => ?_) (fun h => ?_)) <;> have h' := h <;> (try simp at h') <;> (try subst h')) | ((with_reducible refine qabo ?_ ?_); (first | omega | (unfold maxLen; omega)); simp -implicitDefEqProofs [qab2, *]) | (refine qaaw (hc.out _) ?_; simp -implicitDefEqProofs [qab2, *]) | (with_reducible first | refine za ?_ ?_ | refine zb ?_ ?_ ?_ ?_ | refine zc ?_ ?_ ?_ ?_) | (with_reducible first | exact qaab | exact qaad) | ((with_reducible first | refine zga ?_ | refine zgb ?_); rfl) | ((with_reducible first | refine zgd ?_ | refine zge ?_); (first | omega | (simp; done))) | (exact Co.refl _) | (exact CoL.refl _) | ((refine qaai hJ (i + 1) ?_ ?_ ?_; (with_reducible refine qaah [(23, ?_), (54, ?_)] hm ?_ ?_ ?_ ?_) <;> (try simp only [zT, puth, Nat.reduceEqDiff, reduceIte, Nat.reduceAdd]))) | fail)
      all_goals (first | exact hrow | (rw [← List.map_take]; exact hrow) | omega)
     ·obtain rfl : i = p.nodes.length := by omega
      repeat' (first | ((with_reducible refine qacr (c := (.seq (.reg false qadx [2]) .ret)) ?_)) | (with_reducible refine zA ?_) | ((with_reducible refine qaac ?_); (try rw [hP]); simp -implicitDefEqProofs [*]) | ((with_reducible refine qaak ?_); (try simp -implicitDefEqProofs [*])) | ((with_reducible refine qaaa rfl (fun h => ?_) (fun h => ?_)) <;> have h' := h <;> (try simp at h') <;> (try subst h')) | fail)
      constructor
      clear hJ hi h
      refine qaeg [54] ?_ ?_
      ·simp only [FrzOk, geth, Nat.reduceEqDiff, reduceIte, qad9, and_true]
      have htk : ((p.nodes.take p.nodes.length).map qaea).take p.nodes.length = p.nodes.map qaea := by rw [List.take_length]; exact List.take_of_length_le (by simp)
      simp -implicitDefEqProofs [htk, hlen, Nat.le_refl]
      clear hlen htk hb1
      repeat' (first | (with_reducible refine zA ?_) | ((with_reducible refine qaac ?_); (try rw [hP]); simp -implicitDefEqProofs [*]) | ((with_reducible refine qaam ?_); (try simp only [qaap, qaag, qaaj])) | (refine qag9 hm rfl rfl (by rw [hP]; exact qbk3) (by rw [hP]; exact qbef) rfl (CoL.refl _) rfl (fun σ => rfl)) | fail)
end Go.Proofs.YteoijlmgiemffaaGreat
namespace Go.Proofs.YteoijlmgiemffaaGreat
set_option linter.all false
open Go.RowKit
attribute [local simp] qabi qabh qaax qaa7 qaay qaa6 qabf qabg qaar qabr SOp.run SX.ev putd puts argS upds SOp.touch SSt.keep SSt.skip gets geth puth delh idOf SV.cells? setL qadh qadi sbin eq0 eq1 eqL qadf qab9 qaca qaap qabk qaag qabl qabs qaaj qaaq FrzOk qaba qaa1 qaa8 qaa9 qaat qaa0 qabm qaa2 qaav qabb qaau frzS frzH frz frz1 frz0 SlotsM ObjsM ObjM rn ren ren1 ren0 qabu qab7 qacf qabt qabn qacg qace CoL qabc qab3 dels adds idsH qabz
attribute [local simp] qadt refc qaes qaei qab8 opc actc tabc qaea qacm nums setc
theorem qbk2 : qaig Tryz.prog 210 = some true := by kernel_rfl
theorem qbee : qacb Tryz.prog 210 = some 5 := by kernel_rfl
instance : PureF setc := ⟨fun _ _ => rfl, fun _ => rfl, fun _ => qab4 _ rfl⟩
theorem wjoin_s (s t : SetsD) (q : Nat) : SCalls Tryz.prog 181 [.agg (setc s), .agg (setc t)] [] q (.agg (setc (qanw s t))) [] := by
 refine qabj ?_ (fun _ => rfl) (fun _ => rfl) rfl q
 refine qaas (N := 30) Tryz.func181 rfl rfl (by kernel_rfl) qan6 (by simp) (by repeat' (first | exact trivial | refine And.intro ?_ ?_ | rfl | decide | exact PureR.ren _)) (by repeat' (first | exact trivial | refine And.intro ?_ ?_ | rfl | decide | exact PureR.ren _)) ?_
 rintro X hP hN hm
 unfold c_wjoin qanw
 cases hs : s.there
 all_goals
  repeat' (first | (with_reducible refine zA ?_) | ((with_reducible refine qaac ?_); (try rw [hP]); simp -implicitDefEqProofs [qaa3, qabq, *]) | ((with_reducible refine qaaf ?_); (try simp -implicitDefEqProofs [qaa3, qabq, *])) | ((with_reducible refine qaam ?_); (try simp only [qaap, qaag, qaaj])) | ((with_reducible refine qaaa rfl (fun h => ?_) (fun h => ?_)) <;> have h' := h <;> (try simp at h') <;> (try subst h')) | (refine qag9 hm rfl rfl (by rw [hP]; exact qbk2) (by rw [hP]; exact qbee) rfl (CoL.refl _) ?_ (fun σ => rfl)) | fail)
  all_goals simp [lo, hi_]
theorem qbk0 {h : Int} (h1 : h < 64) : ((bitB h).toNat : Int) = 2 ^ h.toNat := by
 unfold bitB
 have hlt : 2 ^ h.toNat < 2 ^ 64 := Nat.pow_lt_pow_right (by omega) (by omega)
 rw [BitVec.toNat_twoPow, Nat.mod_eq_of_lt hlt]
 push_cast; rfl
theorem qa42 {h : Int} (h0 : 0 ≤ h) (h1 : h < 64) : IntKind.u64.wrap (1 * 2 ^ min h.toNat IntKind.u64.bits) = ((bitB h).toNat : Int) := by
 have e : min h.toNat IntKind.u64.bits = h.toNat := Nat.min_eq_left (by show h.toNat ≤ 64; omega)
 rw [e, Int.one_mul, ← qbk0 h1, qatx]
theorem qbih (h : Int) (h0 : 0 ≤ h) (h1 : h < 64) (q : Nat) : SCalls Tryz.prog 162 [.int .i64 h] [] q (.int .u64 (bitB h).toNat) [] := by
 refine qabj ?_ (fun _ => rfl) (fun _ => rfl) rfl q
 refine qaas (N := 5) Tryz.func162 rfl rfl (by kernel_rfl) qaue (by simp) (by repeat' (first | exact trivial | refine And.intro ?_ ?_ | rfl | decide | exact PureR.ren _)) (by repeat' (first | exact trivial | refine And.intro ?_ ?_ | rfl | decide | exact PureR.ren _)) ?_
 rintro X hP hN hm
 unfold c_wbit
 have e := qa42 h0 h1
 rw [Int.one_mul] at e
 repeat' (first | (with_reducible refine zA ?_) | ((with_reducible refine qaac ?_); (try rw [hP]); simp -implicitDefEqProofs [*]) | ((with_reducible refine qaam ?_); (try simp only [qaap, qaag, qaaj])) | (with_reducible refine zM hm ?_) | fail)
 all_goals rfl
def wc (p : PlanD) (n : Nat) (a b : Int) : List SV := qacm p ++ [.own 1 n, .int .i64 a, .int .i64 b]
attribute [local simp] wc
abbrev qaih (l : List SetsD) : SObj := .row 210 5 (l.map setc)
theorem qbld {X : Cx} {sl : Sl} {hp : Hp} {nx n : Nat} {p : PlanD} {a b : Int} {cs : List SV} {es : List (List SV)} {l : List SetsD} (hm : X.m = 2) (h0 : geth hp 0 = some (.cells 247 cs)) (h1 : geth hp 1 = some (.row 210 5 es)) (e0 : cs = wc p n a b) (e1 : es = l.map setc) : QFun X [] 2 (.tup []) [(0, .cells 247 (wc p n a b)), (1, qaih l)] .normal ⟨sl, hp, nx⟩ := by
 subst e0 e1
 refine ⟨⟨[], [(0, .cells 247 (wc p n a b)), (1, qaih l)], 2⟩, ?_, rfl, ⟨rfl, rfl, trivial⟩, by simp⟩
 exact qaah [] hm trivial ⟨⟨_, h0, rfl, CoL.refl _⟩, ⟨_, h1, rfl, rfl, by rw [qajr]; exact CoLL.refl _⟩, trivial⟩ rfl (Nat.le_refl _)
theorem fin_wr {X : Cx} {sl : Sl} {hp : Hp} {nx n : Nat} {p : PlanD} {a b : Int} {cs : List SV} {es : List (List SV)} {l : List SetsD} (hm : X.m = 2) (h0 : geth hp 0 = some (.cells 247 cs)) (h1 : geth hp 1 = some (.row 210 5 es)) (e0 : cs = wc p n a b) (e1 : es = l.map setc) : QFun X [] 2 (.tup []) [(0, .cells 247 (wc p n a b)), (1, qaih l)] .ret ⟨sl, hp, nx⟩ := qbld hm h0 h1 e0 e1
theorem wfail_s (p : PlanD) (n : Nat) (a b : Int) (l : List SetsD) (is : Bool) (code at_ : Int) : SCalls Tryz.prog 161 [.ptr 0 0, .bool is, .int .i64 code, .int .i64 at_] [(0, .cells 247 (wc p n a b)), (1, qaih l)] 2 (.tup []) [(0, .cells 247 (wc p n (qab0 a b is code at_).1 (qab0 a b is code at_).2)), (1, qaih l)] := by
 refine qaas (N := 23) Tryz.func161 rfl rfl (by kernel_rfl) qan8 (by simp) (by repeat' (first | exact trivial | refine And.intro ?_ ?_ | rfl | decide | exact PureR.ren _)) (by repeat' (first | exact trivial | refine And.intro ?_ ?_ | rfl | decide | exact PureR.ren _)) ?_
 rintro X hP hN hm
 unfold c_wfail
 repeat' (first | (with_reducible refine zA ?_) | ((with_reducible refine qaac ?_); (try rw [hP]); simp -implicitDefEqProofs [*]) | ((with_reducible refine qaaf ?_); (try simp -implicitDefEqProofs [*])) | ((with_reducible refine qaaa rfl (fun h => ?_) (fun h => ?_)) <;> have h' := h <;> (try simp at h') <;> (try subst h')) | ((with_reducible refine qaan (fun h => ?_) (fun h => ?_)) <;> have h' := h <;> (try simp at h') <;> (try subst h') <;> simp -implicitDefEqProofs [*]) | (refine qbld hm rfl rfl ?_ rfl) | fail)
 all_goals (first | (simp [qab0, *]; done) | (simp_all [qab0]; done) | (simp_all [qab0]; omega))
theorem wto_s (p : PlanD) (a b : Int) (l : List SetsD) (k : Int) (s : SetsD) (hn : p.states.length ≤ 1000) (hl : l.length = p.states.length + 1) (hk : 0 ≤ tgt p.states.length k) : SCalls Tryz.prog 163 [.ptr 0 0, .int .i64 k, .agg (setc s)] [(0, .cells 247 (wc p l.length a b)), (1, qaih l)] 2 (.tup []) [(0, .cells 247 (wc p l.length a b)), (1, qaih (toS p.states.length l k s))] := by
 refine qaas (N := 37) Tryz.func163 rfl rfl (by kernel_rfl) qa6k (by simp) (by repeat' (first | exact trivial | refine And.intro ?_ ?_ | rfl | decide | exact PureR.ren _)) (by repeat' (first | exact trivial | refine And.intro ?_ ?_ | rfl | decide | exact PureR.ren _)) ?_
 rintro X hP hN hm
 unfold c_wto
 obtain ⟨K, hK⟩ : ∃ K, tgt p.states.length k = K := ⟨_, rfl⟩
 rw [hK] at hk
 by_cases hle : K ≤ p.states.length
 ·have hlt : K.toNat < l.length := by omega
  have hset : (l.map setc).set K.toNat (setc (qanw l[K.toNat] s)) = (toS p.states.length l k s).map setc := by
   unfold toS
   rw [hK, if_pos hle, List.map_set]
   congr 2
   rw [List.getD_eq_getElem?_getD, List.getElem?_eq_getElem hlt]; rfl
  have k2 : decide (K ≤ (p.states.length : Int)) = true := by simpa using hle
  have hj := fun q => wjoin_s l[K.toNat] s q
  generalize toS p.states.length l k s = L at hset
  have hget : l[K.toNat]? = some l[K.toNat] := List.getElem?_eq_getElem hlt
  generalize l[K.toNat] = x at hset hj hget
  generalize hjj : qanw x s = y at hset hj
  replace hj := Lib.hid hj
  unfold tgt at hK
  cases k1 : (k == 1000)
  ·have e : k = K := by rw [if_neg (by simpa using k1)] at hK; exact hK
   subst e
   repeat' (first | (with_reducible first | refine zA ?_ | refine zK ?_) | ((with_reducible first | refine qaac ?_ | refine qaaz (by rw [hP]; exact qacz) ?_); (try rw [hP]); simp -implicitDefEqProofs [*]) | ((with_reducible refine qaaf ?_); (try simp -implicitDefEqProofs [*])) | ((with_reducible refine qaaa rfl (fun h => ?_) (fun h => ?_)) <;> have h' := h <;> (try simp at h') <;> (try subst h')) | ((with_reducible refine qabo ?_ ?_); (first | omega | (unfold maxLen; omega)); simp -implicitDefEqProofs [*]) | (refine qaaw (hj.out _) ?_; simp -implicitDefEqProofs [*]) | (refine qbld hm rfl rfl ?_ ?_) | fail)
   ·rfl
   ·exact hset
  ·have e : (p.states.length : Int) = K := by rw [if_pos (by simpa using k1)] at hK; exact hK
   subst e
   have hget2 : l[p.states.length]? = some x := by simpa using hget
   have hget3 : l[p.states.length]'(by omega) = x := by rw [List.getElem?_eq_getElem (by omega)] at hget2; exact Option.some.inj hget2
   have hset2 : (l.map setc).set p.states.length (setc y) = L.map setc := by simpa using hset
   replace hset := Lib.hid hset
   repeat' (first | (with_reducible first | refine zA ?_ | refine zK ?_) | ((with_reducible first | refine qaac ?_ | refine qaaz (by rw [hP]; exact qacz) ?_); (try rw [hP]); simp -implicitDefEqProofs [*]) | ((with_reducible refine qaaa rfl (fun h => ?_) (fun h => ?_)) <;> have h' := h <;> (try simp at h') <;> (try subst h')) | ((with_reducible refine qabo ?_ ?_); (first | omega | (unfold maxLen; omega)); simp -implicitDefEqProofs [*]) | (refine qaaw (hj.out _) ?_; simp -implicitDefEqProofs [*]) | (refine qbld hm rfl rfl ?_ ?_) | fail)
   ·rfl
   ·exact hset2
 ·have hL : toS p.states.length l k s = l := by unfold toS; rw [hK, if_neg hle]
  rw [hL]
  have k2 : decide (K ≤ (p.states.length : Int)) = false := by simpa using hle
  unfold tgt at hK
  cases k1 : (k == 1000)
  ·have e : k = K := by rw [if_neg (by simpa using k1)] at hK; exact hK
   subst e
   repeat' (first | (with_reducible refine zA ?_) | ((with_reducible refine qaac ?_); (try rw [hP]); simp -implicitDefEqProofs [*]) | ((with_reducible refine qaaf ?_); (try simp -implicitDefEqProofs [*])) | ((with_reducible refine qaaa rfl (fun h => ?_) (fun h => ?_)) <;> have h' := h <;> (try simp at h') <;> (try subst h')) | (refine qbld hm rfl rfl ?_ rfl) | fail)
   all_goals rfl
  ·have e : (p.states.length : Int) = K := by rw [if_pos (by simpa using k1)] at hK; exact hK
   omega
end Go.Proofs.YteoijlmgiemffaaGreat
namespace Go.Proofs.YteoijlmgiemffaaGreat
set_option linter.all false
open Go.RowKit
attribute [local simp] qabi qabh qaax qaa7 qaay qaa6 qabf qabg qaar qabr SOp.run SX.ev putd puts argS upds SOp.touch SSt.keep SSt.skip gets geth puth delh idOf SV.cells? setL qadh qadi sbin eq0 eq1 eqL qadf qab9 qaca qaap qabk qaag qabl qabs qaaj qaaq FrzOk qaba qaa1 qaa8 qaa9 qaat qaa0 qabm qaa2 qaav qabb qaau frzS frzH frz frz1 frz0 SlotsM ObjsM ObjM rn ren ren1 ren0 qabu qab7 qacf qabt qabn qacg qace CoL qabc qab3 dels adds idsH qabz
attribute [local simp] qadt refc qaes qaei qab8 opc actc tabc qaea qacm nums setc wc
theorem qahq {P : Program} {f : FuncId} {args args' : List SV} {t : TypeId} {cs ds cs' ds' : List SV} {e z : Nat} {es fs : List (List SV)} [PureR es] [PureR fs] (h : SCalls P f args [(0, .cells t cs), (1, .row e z es)] 2 (.tup []) [(0, .cells t ds), (1, .row e z fs)]) (i j q : Nat) (hij : i ≠ j) (hi : i < q) (hj : j < q)
  (ha : args' = args.map (ren (sg [i, j] q))) (hc : cs' = cs.map (ren (sg [i, j] q))) (hd : ds' = ds.map (ren (sg [i, j] q))) (hok : ds.all ok2 = true) : SCalls P f args' [(i, .cells t cs'), (j, .row e z es)] q (.tup []) [(i, .cells t ds'), (j, .row e z fs)] := by
 have e0 : sg [i, j] q 0 = i := rfl
 have e1 : sg [i, j] q 1 = j := rfl
 refine qaev [i, j] h rfl (by simp [hij]) (by simp; omega) ha ?_ (by simp [idsH]) rfl rfl ?_ (by simp [idsH]) (by simp [idsH, e0, e1])
 ·refine ⟨⟨.cells t cs', by rw [e0]; simp [geth], rfl, by rw [hc]; exact CoL.refl _⟩, ⟨.row e z es, by rw [e1]; simp [geth, hij], rfl, rfl, by rw [PureR.ren]; exact CoLL.refl _⟩, trivial⟩
 ·exact ⟨⟨.cells t ds', by rw [e0]; simp [geth], rfl, hok, hd⟩, ⟨.row e z fs, by rw [e1]; simp [geth, hij], rfl, rfl, PureR.ok, (PureR.ren _).symm⟩, trivial⟩
theorem qaex (p : PlanD) (n : Nat) (a b : Int) (l : List SetsD) (is : Bool) (code at_ : Int) (q : Nat) (hq : 2 ≤ q) : SCalls Tryz.prog 161 [.ptr 0 0, .bool is, .int .i64 code, .int .i64 at_] [(0, .cells 247 (wc p n a b)), (1, qaih l)] q (.tup []) [(0, .cells 247 (wc p n (qab0 a b is code at_).1 (qab0 a b is code at_).2)), (1, qaih l)] :=
 qahq (wfail_s p n a b l is code at_) 0 1 q (by decide) (by omega) (by omega) rfl rfl rfl rfl
theorem qbj9 (p : PlanD) (a b : Int) (l : List SetsD) (n : Nat) (hln : l.length = n) (k : Int) (s : SetsD) (hn : p.states.length ≤ 1000) (hl : l.length = p.states.length + 1) (hk : 0 ≤ tgt p.states.length k) (q : Nat) (hq : 2 ≤ q) : SCalls Tryz.prog 163 [.ptr 0 0, .int .i64 k, .agg (setc s)] [(0, .cells 247 (wc p n a b)), (1, qaih l)] q (.tup []) [(0, .cells 247 (wc p n a b)), (1, qaih (toS p.states.length l k s))] := by
 subst hln
 exact qahq (wto_s p a b l k s hn hl hk) 0 1 q (by decide) (by omega) (by omega) rfl rfl rfl rfl
theorem qac5 (v : BitVec 64) : ((v.toNat : Int) != 0) = (v != 0) := by
 have := qbd5 (v := v) (w := 0)
 rw [Bool.eq_iff_iff, bne_iff_ne, bne_iff_ne]
 exact not_congr this
theorem qacn (v : BitVec 64) : ((v.toNat : Int) == 0) = (v == 0) := by
 have := qbd5 (v := v) (w := 0)
 rw [Bool.eq_iff_iff, beq_iff_eq, beq_iff_eq]
 exact this
theorem qbkz {h : Int} (h1 : h < 64) (j : Nat) : (bitB h).getLsbD j = decide (h.toNat = j) := by
 unfold bitB
 rw [BitVec.getLsbD_twoPow]
 by_cases e : h.toNat = j <;> simp [e]
 omega
theorem gone_eq {h o : Int} (h0 : 0 ≤ h ∧ h < 64) (ho : 0 ≤ o ∧ o < 64) (m : BitVec 64) : ((m ||| bitB h) &&& bitB o == 0) = (o != h && (m &&& bitB o == 0)) := by
 by_cases e : o = h
 ·subst e
  have : ¬ ((m ||| bitB o) &&& bitB o = 0) := fun hz => by
   have := congrArg (fun v => v.getLsbD o.toNat) hz
   simp [BitVec.getLsbD_and, BitVec.getLsbD_or, qbkz h0.2] at this
  simpa using this
 ·have e2 : (m ||| bitB h) &&& bitB o = m &&& bitB o := BitVec.eq_of_getLsbD_eq fun j hj => by
   rw [BitVec.getLsbD_and, BitVec.getLsbD_or, BitVec.getLsbD_and, qbkz h0.2, qbkz ho.2]
   by_cases q1 : o.toNat = j
   ·have q2 : ¬ h.toNat = j := by omega
    simp [q1, q2]
   ·simp [q1]
  have e3 : (o != h) = true := by simpa using e
  rw [e2, e3, Bool.true_and]
theorem qber (a b at_ : Int) (s : StateD) (x : SetsD) (hx : x.there = true) (c1 c2 : Bool) (h1 : (decide (0 ≤ s.head) && (x.may &&& bitB s.head != 0)) = c1) (h2 : (decide (0 < s.cases_.length) && (decide (0 ≤ s.on.h) && (s.on.h != s.head && (x.must &&& bitB s.on.h == 0)))) = c2) :
  orF (a, b) (refC s x, at_) = qab0 (qab0 a b c1 7 at_).1 (qab0 a b c1 7 at_).2 c2 12 at_ := by
 unfold refC
 rw [if_neg (by rw [hx]; decide), h1, h2, qac1 _ _ _ _ _ _ (by decide)]
 refine (qac1 _ _ _ _ _ _ (by decide)).trans ?_
 exact qaci _ rfl
set_option maxHeartbeats 4000000 in
theorem qbid (p : PlanD) (hp : PlOk p) (hk : qaha p) (i : Nat) (hi : i < p.states.length) (a b : Int) (l : List SetsD) (hl : l.length = p.states.length + 1) (hb : 0 ≤ (l.getD i qaee).least ∧ (l.getD i qaee).least ≤ 256 ∧ 0 ≤ (l.getD i qaee).most ∧ (l.getD i qaee).most ≤ 256) :
  SCalls Tryz.prog 139 [.ptr 0 0, .int .i64 i] [(0, .cells 247 (wc p (p.states.length + 1) a b)), (1, qaih l)] 2 (.tup []) [(0, .cells 247 (wc p (p.states.length + 1) (orF (a, b) (refC p.states[i] (l.getD i qaee), 3000 + i)).1 (orF (a, b) (refC p.states[i] (l.getD i qaee), 3000 + i)).2)), (1, qaih (qakk p p.states[i] i l))] := by
 refine qaas (N := 116) Tryz.func139 rfl rfl (by kernel_rfl) qak5 (by simp) (by repeat' (first | exact trivial | refine And.intro ?_ ?_ | rfl | decide | exact PureR.ren _)) (by repeat' (first | exact trivial | refine And.intro ?_ ?_ | rfl | decide | exact PureR.ren _)) ?_
 rintro X hP hN hm
 unfold c_wstate
 have hli : i < l.length := by omega
 have hy : l[i]? = some (l.getD i qaee) := by rw [List.getD_eq_getElem?_getD, List.getElem?_eq_getElem hli]; rfl
 have hn := hp.states.2
 have ok := hp.ok i hi
 have hh6 := hp.heads
 have hts : ∀ t ∈ qac2 p.states[i], 0 ≤ tgt p.states.length t := fun t ht => by have := qbeb ok hi hn ht; omega
 have hmem : p.states[i] ∈ p.states := List.getElem_mem hi
 have hS : qakk p p.states[i] i l = if (l.getD i qaee).there then (qac2 p.states[i]).foldl (fun m k => toS p.states.length m k (qbhg p p.states[i].head (l.getD i qaee))) l else l := rfl
 have hok1 := ok.head
 have hok2 := ok.on
 have hok3 := ok.cases_
 have hget3 : l[i]'hli = l.getD i qaee := by rw [List.getD_eq_getElem?_getD, List.getElem?_eq_getElem hli]; rfl
 generalize l.getD i qaee = y at hy hb hS hget3
 generalize hxx : p.states[i] = x at hts hS hok1 hok2 hok3
 clear ok hmem
 have wa : IntKind.i64.wrap (3000 + (i : Int)) = 3000 + (i : Int) := qaao (by omega) (by omega)
 cases hth : y.there
 ·rw [hth, if_neg (by decide)] at hS
  have hR : refC x y = 0 := by unfold refC; rw [if_pos hth]
  rw [hS, hR, show orF (a, b) (0, 3000 + (i : Int)) = (a, b) from qaci _ rfl]
  replace hS := Lib.hid hS
  replace hts := Lib.hid hts
  repeat' (first | (with_reducible first | refine zA ?_ | refine zK ?_) | ((with_reducible first | refine qaac ?_ | refine qaaz (by rw [hP]; exact qacz) ?_); (try rw [hP]); simp -implicitDefEqProofs [*]) | ((with_reducible refine qaam ?_); (try simp only [qaap, qaag, qaaj])) | ((with_reducible refine qaaa rfl (fun h => ?_) (fun h => ?_)) <;> have h' := h <;> (try simp at h') <;> (try subst h')) | ((with_reducible refine qabo ?_ ?_); (first | omega | (unfold maxLen; omega)); simp -implicitDefEqProofs [*]) | (refine fin_wr hm rfl rfl ?_ rfl) | fail)
  all_goals rfl
 ·rw [hth, if_pos rfl] at hS
  have hG := fun c1 c2 h1 h2 => qber a b (3000 + (i : Int)) x y hth c1 c2 h1 h2
  generalize orF (a, b) (refC x y, 3000 + (i : Int)) = G at hG
  obtain ⟨T, hT⟩ : ∃ T, qbhg p x.head y = T := ⟨_, rfl⟩
  rw [hT] at hS
  generalize qakk p x i l = L at hS
  have hTt : T.there = true := by rw [← hT]; unfold qbhg; split <;> first | rfl | exact hth
  have kn : decide (0 < x.cases_.length) = decide (0 < (x.cases_.length : Int)) := decide_eq_decide.2 (by omega)
  replace hS := Lib.hid hS
  replace hts := Lib.hid hts
  replace hG := Lib.hid hG
  have hto : ∀ (m : List SetsD) (hml : m.length = p.states.length + 1) (e g k : Int) (hk : 0 ≤ tgt p.states.length k) (q : Nat) (hq : 2 ≤ q), SCalls Tryz.prog 163 [.ptr 0 0, .int .i64 k, .agg [.int .u64 T.must.toNat, .int .u64 T.may.toNat, .int .i64 T.least, .int .i64 T.most, .bool true]] [(0, .cells 247 (wc p (p.states.length + 1) e g)), (1, qaih m)] q (.tup []) [(0, .cells 247 (wc p (p.states.length + 1) e g)), (1, qaih (toS p.states.length m k T))] := fun m hml e g k hk q hq => by
   have := qbj9 p e g m _ hml k T (by omega) hml hk q hq
   unfold setc at this
   rw [hTt] at this
   exact this
  have loopL : ∀ e g, G = (e, g) → SWp X (SCode.block 0 c_wstate_l1.loop) (QSeq X (SCode.reg false qah2 []) (QFun X [] 2 (.tup []) [(0, .cells 247 (wc p (p.states.length + 1) G.1 G.2)), (1, qaih L)]))
    ⟨[(0, .ptr 0 0), (4, .ptr 17 0), (5, .ptr 18 0), (99, .view 3 (x.cases_.map qaei)), (100, .int .i64 x.cases_.length), (101, .int .i64 0)], [(0, .cells 247 (wc p (p.states.length + 1) e g)), (1, qaih l), (17, .cells 69 (qab8 x)), (18, .cells 210 [.int .u64 T.must.toNat, .int .u64 T.may.toNat, .int .i64 T.least, .int .i64 T.most, .bool true])], 19⟩ := fun e g hge => by
   subst hge
   clear hG hget3 hb hth hTt hT
   replace hto := Lib.hid hto
   have h0 : L = (((x.cases_.drop 0).map CaseD.to_) ++ [x.els]).foldl (fun m k => toS p.states.length m k T) l := hS.out
   replace h0 := Lib.hid h0
   refine qaal (qaa5 (fun s (z : Nat × List SetsD) => s.turn [(101, .int .i64 z.1)] [(1, qaih z.2)]) (fun z => z.1 ≤ x.cases_.length ∧ z.2.length = p.states.length + 1 ∧ L = (((x.cases_.drop z.1).map CaseD.to_) ++ [x.els]).foldl (fun m k => toS p.states.length m k T) z.2) (fun z => x.cases_.length - z.1) (0, l) ?_ ⟨by simp, hl, h0.out⟩ ?_)
   ·repeat' (first | ((with_reducible refine qaah [] hm ?_ ?_ ?_ ?_) <;> (try simp only [zT, puth, Nat.reduceEqDiff, reduceIte, Nat.reduceAdd])) | (with_reducible first | refine za ?_ ?_ | refine zb ?_ ?_ ?_ ?_ | refine zc ?_ ?_ ?_ ?_) | (with_reducible first | exact qaab | exact qaad) | ((with_reducible first | refine zga ?_ | refine zgb ?_); rfl) | ((with_reducible refine zgc ?_); (first | (with_reducible rfl) | rfl | (simp; done))) | ((with_reducible refine zgd ?_); (first | omega | (simp; done))) | (exact Co.refl _) | (exact CoL.refl _) | fail)
   rintro J hJ ⟨j, m⟩ ⟨h1, hml, h2⟩
   unfold c_wstate_l1
   simp only [zT, puth, Nat.reduceEqDiff, reduceIte, Nat.reduceAdd] at h1 hml h2 ⊢
   clear hl hy hli h0
   rcases Nat.lt_or_ge j x.cases_.length with hj | hj
   ·have htm : 0 ≤ tgt p.states.length x.cases_[j].to_ := hts.out _ (List.mem_append_left _ (List.mem_map.2 ⟨_, List.getElem_mem hj, rfl⟩))
    rw [List.drop_eq_getElem_cons hj, List.map_cons, List.cons_append, List.foldl_cons] at h2
    have hsl : (toS p.states.length m x.cases_[j].to_ T).length = p.states.length + 1 := by rw [qa4s, hml]
    generalize hcc : x.cases_[j] = c at h2 htm hsl
    have wj : IntKind.i64.wrap ((j : Int) + 1) = (j : Int) + 1 := qaao (by omega) (by omega)
    replace h2 := Lib.hid h2
    replace hsl := Lib.hid hsl
    replace hml := Lib.hid hml
    replace htm := Lib.hid htm
    repeat' (first | (with_reducible first | refine zA ?_ | refine qaae ?_) | ((with_reducible refine qaac ?_); (try rw [hP]); simp -implicitDefEqProofs [*]) | ((with_reducible refine qaaf ?_); (try simp -implicitDefEqProofs [*])) | ((with_reducible refine qaaa rfl (fun h => ?_) (fun h => ?_)) <;> have h' := h <;> (try simp at h') <;> (try subst h')) | (refine qabv (hto.out m hml.out _ _ c.to_ htm.out _ (by simp)) ⟨rfl, rfl, trivial⟩ ⟨rfl, rfl, trivial⟩ ?_; simp -implicitDefEqProofs [*]) | (with_reducible first | refine za ?_ ?_ | refine zb ?_ ?_ ?_ ?_ | refine zc ?_ ?_ ?_ ?_) | (with_reducible first | exact qaab | exact qaad) | ((with_reducible first | refine zga ?_ | refine zgb ?_); rfl) | ((with_reducible refine zgc ?_); (first | (with_reducible rfl) | rfl | (simp; done))) | ((with_reducible first | refine zgd ?_ | refine zge ?_); (first | omega | (simp; done))) | (exact Co.refl _) | (exact CoL.refl _) | ((refine qaai hJ (j + 1, toS p.states.length m c.to_ T) ?_ ?_ ?_; (with_reducible refine qaah [] hm ?_ ?_ ?_ ?_) <;> (try simp only [zT, puth, Nat.reduceEqDiff, reduceIte, Nat.reduceAdd]))) | fail)
    all_goals (exact ⟨by omega, hsl.out, h2.out⟩)
   ·obtain rfl : j = x.cases_.length := by omega
    rw [List.drop_length] at h2
    have h3 : L = toS p.states.length m x.els T := h2
    have htm : 0 ≤ tgt p.states.length x.els := hts.out _ (List.mem_append_right _ (by simp))
    replace h2 := Lib.hid h2
    replace h3 := Lib.hid h3
    replace hml := Lib.hid hml
    replace htm := Lib.hid htm
    repeat' (first | (with_reducible refine zA ?_) | ((with_reducible refine qaac ?_); (try rw [hP]); simp -implicitDefEqProofs [*]) | ((with_reducible refine qaak ?_); (try simp -implicitDefEqProofs [*])) | ((with_reducible refine qaaa rfl (fun h => ?_) (fun h => ?_)) <;> have h' := h <;> (try simp at h') <;> (try subst h')) | (refine qabv (hto.out m hml.out _ _ x.els htm.out _ (by simp)) ⟨rfl, rfl, trivial⟩ ⟨rfl, rfl, trivial⟩ ?_; simp -implicitDefEqProofs [*]) | (refine qbld hm rfl rfl ?_ ?_) | fail)
    ·rfl
    ·rw [h3.out]
  replace hto := Lib.hid hto
  replace loopL := Lib.hid loopL
  cases kh : decide (0 ≤ x.head)
  ·have hTy : T = y := by rw [← hT]; unfold qbhg; rw [if_neg (of_decide_eq_false kh)]
   subst hTy
   replace hT := Lib.hid hT
   replace hok2 := Lib.hid hok2
   have hd : x.head < 0 := by have := of_decide_eq_false kh; omega
   cases kc : decide (0 < (x.cases_.length : Int)) <;> rw [kc] at kn
   ·have hf := hG.out false false (by rw [kh]; rfl) (by rw [kn]; rfl)
    simp only [qabp] at hf
    replace hf := Lib.hid hf
    repeat' (first | (with_reducible first | refine zA ?_ | refine zK ?_) | ((with_reducible first | refine qaac ?_ | refine qaaz (by rw [hP]; exact qacz) ?_); (try rw [hP]); simp -implicitDefEqProofs [-BitVec.toNat_and, -BitVec.toNat_or, qaa3, qabq, qac5, qacn, *]) | ((with_reducible refine qaaf ?_); (try simp -implicitDefEqProofs [-BitVec.toNat_and, -BitVec.toNat_or, qaa3, qabq, qac5, qacn, *])) | ((with_reducible refine qaaa rfl (fun h => ?_) (fun h => ?_)) <;> have h' := h <;> (try simp at h') <;> (try subst h')) | ((with_reducible refine qabo ?_ ?_); (first | omega | (unfold maxLen; omega)); simp -implicitDefEqProofs [-BitVec.toNat_and, -BitVec.toNat_or, qaa3, qabq, qac5, qacn, *]) | fail)
    refine qaco ?_ (loopL.out _ _ hf.out)
    repeat' (first | ((with_reducible refine qaah [] hm ?_ ?_ ?_ ?_) <;> (try simp only [zT, puth, Nat.reduceEqDiff, reduceIte, Nat.reduceAdd])) | (with_reducible first | refine za ?_ ?_ | refine zb ?_ ?_ ?_ ?_ | refine zc ?_ ?_ ?_ ?_) | (with_reducible first | exact qaab | exact qaad) | ((with_reducible first | refine zga ?_ | refine zgb ?_); rfl) | ((with_reducible refine zgc ?_); (first | (with_reducible rfl) | rfl | (simp; done))) | ((with_reducible refine zgd ?_); (first | omega | (simp; done))) | (exact Co.refl _) | (exact CoL.refl _) | fail)
   ·cases ko : decide (0 ≤ x.on.h)
    ·have hf := hG.out false false (by rw [kh]; rfl) (by rw [kn, ko]; rfl)
     simp only [qabp] at hf
     replace hf := Lib.hid hf
     repeat' (first | (with_reducible first | refine zA ?_ | refine zK ?_) | ((with_reducible first | refine qaac ?_ | refine qaaz (by rw [hP]; exact qacz) ?_); (try rw [hP]); simp -implicitDefEqProofs [-BitVec.toNat_and, -BitVec.toNat_or, qaa3, qabq, qac5, qacn, qabp, *]) | ((with_reducible refine qaaf ?_); (try simp -implicitDefEqProofs [-BitVec.toNat_and, -BitVec.toNat_or, qaa3, qabq, qac5, qacn, qabp, *])) | ((with_reducible refine qaaa rfl (fun h => ?_) (fun h => ?_)) <;> have h' := h <;> (try simp at h') <;> (try subst h')) | ((with_reducible refine qabo ?_ ?_); (first | omega | (unfold maxLen; omega)); simp -implicitDefEqProofs [-BitVec.toNat_and, -BitVec.toNat_or, qaa3, qabq, qac5, qacn, qabp, *]) | (refine qabv (qaex p _ _ _ l _ _ _ _ (by simp)) ⟨rfl, rfl, trivial⟩ ⟨rfl, rfl, trivial⟩ ?_; simp -implicitDefEqProofs [-BitVec.toNat_and, -BitVec.toNat_or, qaa3, qabq, qac5, qacn, qabp, *]) | fail)
     refine qaco ?_ (loopL.out _ _ hf.out)
     repeat' (first | ((with_reducible refine qaah [] hm ?_ ?_ ?_ ?_) <;> (try simp only [zT, puth, Nat.reduceEqDiff, reduceIte, Nat.reduceAdd])) | (with_reducible first | refine za ?_ ?_ | refine zb ?_ ?_ ?_ ?_ | refine zc ?_ ?_ ?_ ?_) | (with_reducible first | exact qaab | exact qaad) | ((with_reducible first | refine zga ?_ | refine zgb ?_); rfl) | ((with_reducible refine zgc ?_); (first | (with_reducible rfl) | rfl | (simp; done))) | ((with_reducible refine zgd ?_); (first | omega | (simp; done))) | (exact Co.refl _) | (exact CoL.refl _) | fail)
    ·have hoh := hok2.out (by have := of_decide_eq_true kc; omega)
     have ho0 := of_decide_eq_true ko
     have hne : (x.on.h != x.head) = true := by rw [bne_iff_ne]; omega
     have hf := hG.out false _ (by rw [kh]; rfl) (by rw [kn, ko, hne, Bool.true_and, Bool.true_and, Bool.true_and])
     simp only [qabp] at hf
     have hbt := fun q => qbih x.on.h ho0 (by omega) q
     replace hf := Lib.hid hf
     replace hbt := Lib.hid hbt
     clear hne
     repeat' (first | (with_reducible first | refine zA ?_ | refine zK ?_) | ((with_reducible first | refine qaac ?_ | refine qaaz (by rw [hP]; exact qacz) ?_); (try rw [hP]); simp -implicitDefEqProofs [-BitVec.toNat_and, -BitVec.toNat_or, qaa3, qabq, qac5, qacn, *]) | ((with_reducible refine qaaf ?_); (try simp -implicitDefEqProofs [-BitVec.toNat_and, -BitVec.toNat_or, qaa3, qabq, qac5, qacn, *])) | ((with_reducible refine qaaa rfl (fun h => ?_) (fun h => ?_)) <;> have h' := h <;> (try simp at h') <;> (try subst h')) | ((with_reducible refine qabo ?_ ?_); (first | omega | (unfold maxLen; omega)); simp -implicitDefEqProofs [-BitVec.toNat_and, -BitVec.toNat_or, qaa3, qabq, qac5, qacn, *]) | ((first | refine qabv (qaex p _ _ _ l _ _ _ _ (by simp)) ⟨rfl, rfl, trivial⟩ ⟨rfl, rfl, trivial⟩ ?_ | refine qaaw (hbt.out _) ?_); simp -implicitDefEqProofs [-BitVec.toNat_and, -BitVec.toNat_or, qaa3, qabq, qac5, qacn, *]) | fail)
     refine qaco ?_ (loopL.out _ _ hf.out)
     repeat' (first | ((with_reducible refine qaah [] hm ?_ ?_ ?_ ?_) <;> (try simp only [zT, puth, Nat.reduceEqDiff, reduceIte, Nat.reduceAdd])) | (with_reducible first | refine za ?_ ?_ | refine zb ?_ ?_ ?_ ?_ | refine zc ?_ ?_ ?_ ?_) | (with_reducible first | exact qaab | exact qaad) | ((with_reducible first | refine zga ?_ | refine zgb ?_); rfl) | ((with_reducible refine zgc ?_); (first | (with_reducible rfl) | rfl | (simp; done))) | ((with_reducible refine zgd ?_); (first | omega | (simp; done))) | (exact Co.refl _) | (exact CoL.refl _) | fail)
  ·have hh0 := of_decide_eq_true kh
   have hS2 := qany hp hh0 hok1.2
   have hE : T = ⟨y.must ||| bitB x.head, y.may ||| bitB x.head, y.least + qaif p x.head, y.most + qaif p x.head, true⟩ := by rw [← hT]; unfold qbhg; rw [if_pos hh0]
   have hM : y.must ||| bitB x.head = T.must := by rw [hE]
   have hY : y.may ||| bitB x.head = T.may := by rw [hE]
   have hgeq : ∀ o, 0 ≤ o → o < 64 → (T.must &&& bitB o == 0) = (o != x.head && (y.must &&& bitB o == 0)) := fun o h0 h1 => by rw [← hM]; exact gone_eq ⟨hh0, by omega⟩ ⟨h0, h1⟩ y.must
   have hLe : IntKind.i64.wrap (y.least + qaif p x.head) = T.least := by rw [hE]; exact qaao (by omega) (by omega)
   have hMo : IntKind.i64.wrap (y.most + qaif p x.head) = T.most := by rw [hE]; exact qaao (by omega) (by omega)
   have hlt : x.head.toNat < p.heads.length := by omega
   have hsz : headW p x.head = p.heads[x.head.toNat].w := by unfold headW; rw [List.getElem?_eq_getElem hlt]; rfl
   have hcs := fun q => qbhr p.heads[x.head.toNat].w q
   rw [← hsz] at hcs
   unfold qanf at hcs
   rw [show qasm (headW p x.head) = qaif p x.head from rfl] at hcs
   generalize qaif p x.head = N at hLe hMo hcs
   have hbh := fun q => qbih x.head hh0 (by omega) q
   generalize hq1 : p.heads[x.head.toNat] = hd at hsz
   have hsz2 : hd.w = headW p x.head := hsz.symm
   generalize headW p x.head = ws at hcs hsz2
   clear hE hT hS2 hsz
   replace hcs := Lib.hid hcs
   replace hbh := Lib.hid hbh
   replace hgeq := Lib.hid hgeq
   replace hok2 := Lib.hid hok2
   cases kc : decide (0 < (x.cases_.length : Int)) <;> rw [kc] at kn
   ·have hf := hG.out _ false (by rw [kh, Bool.true_and]) (by rw [kn]; rfl)
    simp only [qabp] at hf
    replace hf := Lib.hid hf
    repeat' (first | (with_reducible first | refine zA ?_ | refine zK ?_) | ((with_reducible first | refine qaac ?_ | refine qaaz (by rw [hP]; exact qacz) ?_); (try rw [hP]); simp -implicitDefEqProofs [-BitVec.toNat_and, -BitVec.toNat_or, qaa3, qabq, qac5, qacn, *]) | ((with_reducible refine qaaf ?_); (try simp -implicitDefEqProofs [-BitVec.toNat_and, -BitVec.toNat_or, qaa3, qabq, qac5, qacn, *])) | ((with_reducible refine qaaa rfl (fun h => ?_) (fun h => ?_)) <;> have h' := h <;> (try simp at h') <;> (try subst h')) | ((with_reducible refine qabo ?_ ?_); (first | omega | (unfold maxLen; omega)); simp -implicitDefEqProofs [-BitVec.toNat_and, -BitVec.toNat_or, qaa3, qabq, qac5, qacn, *]) | ((first | refine qabv (qaex p _ _ _ l _ _ _ _ (by simp)) ⟨rfl, rfl, trivial⟩ ⟨rfl, rfl, trivial⟩ ?_ | refine qaaw (hcs.out _) ?_ | refine qaaw (hbh.out _) ?_); simp -implicitDefEqProofs [-BitVec.toNat_and, -BitVec.toNat_or, qaa3, qabq, qac5, qacn, *]) | fail)
    refine qaco ?_ (loopL.out _ _ hf.out)
    repeat' (first | ((with_reducible refine qaah [] hm ?_ ?_ ?_ ?_) <;> (try simp only [zT, puth, Nat.reduceEqDiff, reduceIte, Nat.reduceAdd])) | (with_reducible first | refine za ?_ ?_ | refine zb ?_ ?_ ?_ ?_ | refine zc ?_ ?_ ?_ ?_) | (with_reducible first | exact qaab | exact qaad) | ((with_reducible first | refine zga ?_ | refine zgb ?_); rfl) | ((with_reducible refine zgc ?_); (first | (with_reducible rfl) | rfl | (simp; done))) | ((with_reducible refine zgd ?_); (first | omega | (simp; done))) | (exact Co.refl _) | (exact CoL.refl _) | fail)
   ·cases ko : decide (0 ≤ x.on.h)
    ·have hf := hG.out _ false (by rw [kh, Bool.true_and]) (by rw [kn, ko]; rfl)
     simp only [qabp] at hf
     replace hf := Lib.hid hf
     repeat' (first | (with_reducible first | refine zA ?_ | refine zK ?_) | ((with_reducible first | refine qaac ?_ | refine qaaz (by rw [hP]; exact qacz) ?_); (try rw [hP]); simp -implicitDefEqProofs [-BitVec.toNat_and, -BitVec.toNat_or, qaa3, qabq, qac5, qacn, qabp, *]) | ((with_reducible refine qaaf ?_); (try simp -implicitDefEqProofs [-BitVec.toNat_and, -BitVec.toNat_or, qaa3, qabq, qac5, qacn, qabp, *])) | ((with_reducible refine qaaa rfl (fun h => ?_) (fun h => ?_)) <;> have h' := h <;> (try simp at h') <;> (try subst h')) | ((with_reducible refine qabo ?_ ?_); (first | omega | (unfold maxLen; omega)); simp -implicitDefEqProofs [-BitVec.toNat_and, -BitVec.toNat_or, qaa3, qabq, qac5, qacn, qabp, *]) | ((first | refine qabv (qaex p _ _ _ l _ _ _ _ (by simp)) ⟨rfl, rfl, trivial⟩ ⟨rfl, rfl, trivial⟩ ?_ | refine qaaw (hcs.out _) ?_ | refine qaaw (hbh.out _) ?_); simp -implicitDefEqProofs [-BitVec.toNat_and, -BitVec.toNat_or, qaa3, qabq, qac5, qacn, qabp, *]) | fail)
     refine qaco ?_ (loopL.out _ _ hf.out)
     repeat' (first | ((with_reducible refine qaah [] hm ?_ ?_ ?_ ?_) <;> (try simp only [zT, puth, Nat.reduceEqDiff, reduceIte, Nat.reduceAdd])) | (with_reducible first | refine za ?_ ?_ | refine zb ?_ ?_ ?_ ?_ | refine zc ?_ ?_ ?_ ?_) | (with_reducible first | exact qaab | exact qaad) | ((with_reducible first | refine zga ?_ | refine zgb ?_); rfl) | ((with_reducible refine zgc ?_); (first | (with_reducible rfl) | rfl | (simp; done))) | ((with_reducible refine zgd ?_); (first | omega | (simp; done))) | (exact Co.refl _) | (exact CoL.refl _) | fail)
    ·have hoh := hok2.out (by have := of_decide_eq_true kc; omega)
     have ho0 := of_decide_eq_true ko
     have hf := hG.out _ _ (by rw [kh, Bool.true_and]) (by rw [kn, ko, Bool.true_and, Bool.true_and, ← hgeq.out _ ho0 (by omega)])
     have hbt := fun q => qbih x.on.h ho0 (by omega) q
     replace hf := Lib.hid hf
     replace hbt := Lib.hid hbt
     repeat' (first | (with_reducible first | refine zA ?_ | refine zK ?_) | ((with_reducible first | refine qaac ?_ | refine qaaz (by rw [hP]; exact qacz) ?_); (try rw [hP]); simp -implicitDefEqProofs [-BitVec.toNat_and, -BitVec.toNat_or, qaa3, qabq, qac5, qacn, *]) | ((with_reducible refine qaaf ?_); (try simp -implicitDefEqProofs [-BitVec.toNat_and, -BitVec.toNat_or, qaa3, qabq, qac5, qacn, *])) | ((with_reducible refine qaaa rfl (fun h => ?_) (fun h => ?_)) <;> have h' := h <;> (try simp at h') <;> (try subst h')) | ((with_reducible refine qabo ?_ ?_); (first | omega | (unfold maxLen; omega)); simp -implicitDefEqProofs [-BitVec.toNat_and, -BitVec.toNat_or, qaa3, qabq, qac5, qacn, *]) | ((first | refine qabv (qaex p _ _ _ l _ _ _ _ (by simp)) ⟨rfl, rfl, trivial⟩ ⟨rfl, rfl, trivial⟩ ?_ | refine qaaw (hcs.out _) ?_ | refine qaaw (hbh.out _) ?_ | refine qaaw (hbt.out _) ?_); simp -implicitDefEqProofs [-BitVec.toNat_and, -BitVec.toNat_or, qaa3, qabq, qac5, qacn, *]) | fail)
     refine qaco ?_ (loopL.out _ _ hf.out)
     repeat' (first | ((with_reducible refine qaah [] hm ?_ ?_ ?_ ?_) <;> (try simp only [zT, puth, Nat.reduceEqDiff, reduceIte, Nat.reduceAdd])) | (with_reducible first | refine za ?_ ?_ | refine zb ?_ ?_ ?_ ?_ | refine zc ?_ ?_ ?_ ?_) | (with_reducible first | exact qaab | exact qaad) | ((with_reducible first | refine zga ?_ | refine zgb ?_); rfl) | ((with_reducible refine zgc ?_); (first | (with_reducible rfl) | rfl | (simp; done))) | ((with_reducible refine zgd ?_); (first | omega | (simp; done))) | (exact Co.refl _) | (exact CoL.refl _) | fail)
end Go.Proofs.YteoijlmgiemffaaGreat
namespace Go.Proofs.YteoijlmgiemffaaGreat
set_option linter.all false
open Go.RowKit
attribute [local simp] qabi qabh qaax qaa7 qaay qaa6 qabf qabg qaar qabr SOp.run SX.ev putd puts argS upds SOp.touch SSt.keep SSt.skip gets geth puth delh idOf SV.cells? setL qadh qadi sbin eq0 eq1 eqL qadf qab9 qaca qaap qabk qaag qabl qabs qaaj qaaq FrzOk qaba qaa1 qaa8 qaa9 qaat qaa0 qabm qaa2 qaav qabb qaau frzS frzH frz frz1 frz0 SlotsM ObjsM ObjM rn ren ren1 ren0 qabu qab7 qacf qabt qabn qacg qace CoL qabc qab3 dels adds idsH qabz
attribute [local simp] qadt refc qaes qaei qab8 opc actc tabc qaea qacm nums setc
theorem qafl {X : Cx} {sl : Sl} {hp : Hp} {t u nx id n : Nat} {ty : TypeId} {cs ds : List SV} {v v' r : SV} (hm : X.m = 0) (hne : t ≠ u) (hv : gets sl t = v') (hvv : Co v' v) (hN : NoN v) (hu : gets sl u = .ptr id 0) (h : geth hp id = some (.cells ty cs)) (ha : qaig X.P ty = some true) (hn : qacb X.P ty = some n) (hl : ds.length = n) (e : CoL cs ds) (hr : r = .tup [v, .agg ds]) (hd : ∀ σ, ds.map (Go.Proofs.YteoijlmgiemffaaGreat.ren σ) = ds) : QFun X [.tmp t, .cell u ty] 0 r [] .ret ⟨sl, hp, nx⟩ := by
 subst hr hl
 have hw : Wk X ⟨sl, hp, nx⟩ ⟨[(t, v), (u, .ptr 0 0)], [(0, .cells ty ds)], 1⟩ := by
  refine qaah [(0, id)] hm ⟨?_, ?_, trivial⟩ ⟨⟨_, h, rfl, by rw [hd]; exact e⟩, trivial⟩ rfl (by simp)
  ·rw [hv, hN]; exact hvv
  ·rw [hu]; exact Co.refl _
 refine ⟨_, hw, ?_, trivial, by simp⟩
 simp [qakm, resL, resV, one_, gets, ha, hn, SOp.run, SX.ev, geth, hne]
def wcR (p : PlanD) (R n : Nat) (a b : Int) : List SV := qacm p ++ [.own R n, .int .i64 a, .int .i64 b]
attribute [local simp] wcR
theorem qaup (p : PlanD) (hp : PlOk p) (hk : qaha p) (i : Nat) (hi : i < p.states.length) (a b : Int) (W R q : Nat) (hWR : W ≠ R) (hW : W < q) (hR : R < q) :
  SCalls Tryz.prog 139 [.ptr W 0, .int .i64 i] [(W, .cells 247 (wcR p R (p.states.length + 1) a b)), (R, qaih (qadl p i))] q (.tup []) [(W, .cells 247 (wcR p R (p.states.length + 1) (orF (a, b) (refC p.states[i] (setAt p i), 3000 + i)).1 (orF (a, b) (refC p.states[i] (setAt p i), 3000 + i)).2)), (R, qaih (qadl p (i + 1)))] := by
 have e : setAt p i = (qadl p i).getD i qaee := qat0 hp (by omega) (Nat.le_refl _)
 rw [e, qagh p hi]
 exact qahq (qbid p hp hk i hi a b (qadl p i) (qacw p i) (qbeg hp (by omega) (by omega))) W R q hWR hW hR rfl rfl rfl rfl
theorem qan3 (p : PlanD) : orF (0, 0) (qafq p) = qafq p := by
 by_cases h : (qafq p).1 = 0
 ·have : qafq p = (0, 0) := qaf5 h
  rw [this]; rfl
 ·unfold orF; simp [h]
theorem qbio (p : PlanD) : (List.replicate (p.states.length + 1) [SV.int .u64 0, .int .u64 0, .int .i64 0, .int .i64 0, .bool false]).set 0 [SV.int .u64 0, .int .u64 0, .int .i64 0, .int .i64 0, .bool true] = (qadl p 0).map setc := by
 unfold qadl
 rw [List.map_set, List.map_replicate]; rfl
set_option maxHeartbeats 4000000 in
theorem walk_s (p : PlanD) (hs : SmallP p) (hk : qaha p) (q : Nat) : SCalls Tryz.prog 109 [.agg (qacm p)] [] q (.tup [.view 5 ((qane p).map setc), .agg [.int .i64 (qafm p).1, .int .i64 (qafm p).2]]) [] := by
 refine qabj ?_ (fun _ => rfl) (fun _ => rfl) rfl q
 refine qaas (N := 52) Tryz.func109 rfl rfl (by kernel_rfl) qauf (by simp) (by repeat' (first | exact trivial | refine And.intro ?_ ?_ | rfl | decide | exact PureR.ren _)) (by repeat' (first | exact trivial | refine And.intro ?_ ?_ | rfl | decide | exact PureR.ren _)) ?_
 rintro X hP hN hm
 unfold c_walk
 have hc := fun q => qbi4 p hs hk q
 have hns := hs.states
 by_cases h0 : (qafh p).1 = 0
 ·have hp := qbet h0
  have hF : qafm p = qafq p := by unfold qafm; rw [if_neg (by simpa using h0)]
  have hL : qane p = if (qafq p).1 ≠ 0 then [] else qaf1 p := by unfold qane; rw [hF]
  rw [hF, hL]
  have hF0 : qafq p = orF (0, 0) (rowF (fun i s => refC s (setAt p i)) 3000 0 p.states) := (qan3 p).symm
  have hz0 : (qafq p).1 = 0 → qafq p = (0, 0) := fun h => qaf5 h
  generalize qafq p = F at hF0 hz0
  replace hz0 := Lib.hid hz0
  have kc : ((qafh p).1 != 0) = false := by simpa using h0
  generalize qafh p = C at hc kc
  have hn1 : p.states.length ≤ 8 := hp.states.2
  have wn : IntKind.i64.wrap ((p.states.length : Int) + 1) = (p.states.length : Int) + 1 := qaao (by omega) (by omega)
  have hmx : p.states.length + 1 ≤ maxLen := by unfold maxLen; omega
  have hset0 := qbio p
  replace hF0 := Lib.hid hF0
  replace hc := Lib.hid hc
  replace hset0 := Lib.hid hset0
  clear hF hL h0
  repeat' (first | (with_reducible first | refine zA ?_ | refine zK ?_) | ((with_reducible first | refine qaac ?_ | refine qaaz (by rw [hP]; exact qacz) ?_); (try rw [hP]); simp -implicitDefEqProofs [*]) | ((with_reducible refine qaaf ?_); (try simp -implicitDefEqProofs [*])) | ((with_reducible refine qaaa rfl (fun h => ?_) (fun h => ?_)) <;> have h' := h <;> (try simp at h') <;> (try subst h')) | ((with_reducible refine qabo ?_ ?_); (first | omega | (unfold maxLen; omega)); simp -implicitDefEqProofs [*]) | (refine qaaw (hc.out _) ?_; simp -implicitDefEqProofs [*]) | fail)
  refine qaal (qaa5 (fun s (z : Nat × Int × Int) => s.turn [(30, .int .i64 z.1)] [(24, .cells 247 (wcR p 22 (p.states.length + 1) z.2.1 z.2.2)), (22, qaih (qadl p z.1))]) (fun z => z.1 ≤ p.states.length ∧ F = orF (z.2.1, z.2.2) (rowF (fun i s => refC s (setAt p i)) 3000 z.1 (p.states.drop z.1))) (fun z => p.states.length - z.1) (0, 0, 0) ?_ ⟨by simp, hF0.out⟩ ?_)
  ·repeat' (first | ((with_reducible refine qaah [] hm ?_ ?_ ?_ ?_) <;> (try simp only [zT, puth, Nat.reduceEqDiff, reduceIte, Nat.reduceAdd])) | (with_reducible first | refine za ?_ ?_ | refine zb ?_ ?_ ?_ ?_ | refine zc ?_ ?_ ?_ ?_) | (with_reducible first | exact qaab | exact qaad) | ((with_reducible first | refine zga ?_ | refine zgb ?_); rfl) | ((with_reducible refine zgd ?_); (first | omega | (simp; done))) | (exact Co.refl _) | (exact CoL.refl _) | fail)
   all_goals (exact hset0.out)
  rintro J hJ ⟨i, e, g⟩ ⟨h1, h2⟩
  unfold qatk
  simp only [zT, puth, Nat.reduceEqDiff, reduceIte, Nat.reduceAdd] at h1 h2 ⊢
  rcases Nat.lt_or_ge i p.states.length with hi | hi
  ·rw [qadb _ _ hi, qaem] at h2
   have hcs := fun q h1 h2 => qaup p hp hk i hi e g 24 22 q (by decide) h1 h2
   generalize orF (e, g) (refC p.states[i] (setAt p i), 3000 + (i : Int)) = G at h2 hcs
   have wi : IntKind.i64.wrap ((i : Int) + 1) = (i : Int) + 1 := qaao (by omega) (by omega)
   replace h2 := Lib.hid h2
   replace hcs := Lib.hid hcs
   replace hp := Lib.hid hp
   repeat' (first | (with_reducible first | refine zA ?_ | refine qaae ?_) | ((with_reducible refine qaac ?_); (try rw [hP]); simp -implicitDefEqProofs [*]) | ((with_reducible refine qaaf ?_); (try simp -implicitDefEqProofs [*])) | ((with_reducible refine qaaa rfl (fun h => ?_) (fun h => ?_)) <;> have h' := h <;> (try simp at h') <;> (try subst h')) | (refine qabv (hcs.out _ (by simp) (by simp)) ⟨rfl, rfl, trivial⟩ ⟨rfl, rfl, trivial⟩ ?_; simp -implicitDefEqProofs [*]) | (with_reducible first | refine za ?_ ?_ | refine zb ?_ ?_ ?_ ?_ | refine zc ?_ ?_ ?_ ?_) | (with_reducible first | exact qaab | exact qaad) | ((with_reducible first | refine zga ?_ | refine zgb ?_); rfl) | ((with_reducible refine zgc ?_); (first | (with_reducible rfl) | rfl | (simp; done))) | ((with_reducible first | refine zgd ?_ | refine zge ?_); (first | omega | (simp; done))) | (exact Co.refl _) | (exact CoL.refl _) | ((refine qaai hJ (i + 1, ?_, ?_) ?_ ?_ ?_; rotate_left 2; (with_reducible refine qaah [] hm ?_ ?_ ?_ ?_) <;> (try simp only [zT, puth, Nat.reduceEqDiff, reduceIte, Nat.reduceAdd]))) | fail)
   all_goals (try dsimp only)
   all_goals (exact ⟨by omega, h2.out⟩)
  ·obtain rfl : i = p.states.length := by omega
   rw [List.drop_length] at h2
   have h3 : F = (e, g) := by rw [h2]; exact qaci _ rfl
   subst h3
   have hlen : ((qadl p p.states.length).map setc).length = p.states.length + 1 := by rw [List.length_map, qacw]
   clear h2 hF0
   replace hp := Lib.hid hp
   by_cases he : e = 0
   ·subst he
    obtain rfl : g = 0 := (Prod.mk.inj (hz0.out rfl)).2
    repeat' (first | ((with_reducible refine qacr (c := .seq (.reg false qalo [2, 3]) .ret) ?_)) | (with_reducible refine zA ?_) | ((with_reducible refine qaac ?_); (try rw [hP]); simp -implicitDefEqProofs [*]) | ((with_reducible first | refine qaaf ?_ | refine qaak ?_); (try simp -implicitDefEqProofs [*])) | ((with_reducible refine qaaa rfl (fun h => ?_) (fun h => ?_)) <;> have h' := h <;> (try simp at h') <;> (try subst h')) | fail)
    constructor
    refine qaeg [22] ?_ ?_
    ·simp only [FrzOk, geth, Nat.reduceEqDiff, reduceIte, qad9, and_true]
    have htk : ((qadl p p.states.length).map setc).take (p.states.length + 1) = (qadl p p.states.length).map setc := List.take_of_length_le (by rw [hlen]; exact Nat.le_refl _)
    simp -implicitDefEqProofs [htk, hlen, Nat.le_refl]
    repeat' (first | (with_reducible refine zA ?_) | ((with_reducible refine qaac ?_); (try rw [hP]); simp -implicitDefEqProofs [*]) | ((with_reducible refine qaam ?_); (try simp only [qaap, qaag, qaaj])) | (refine qafl hm (by decide) rfl (Co.refl _) (qads _ _) rfl rfl (by rw [hP]; exact qabe) (by rw [hP]; exact qaa4) rfl (CoL.refl _) ?_ (fun σ => rfl)) | fail)
    all_goals rfl
   ·have ke : (e != 0) = true := by simpa using he
    repeat' (first | (with_reducible first | refine zA ?_ | refine zK ?_) | ((with_reducible first | refine qaac ?_ | refine qaaz (by rw [hP]; exact qacz) ?_); (try rw [hP]); simp -implicitDefEqProofs [*]) | ((with_reducible refine qaak ?_); (try simp -implicitDefEqProofs [*])) | ((with_reducible refine qaam ?_); (try simp only [qaap, qaag, qaaj])) | ((with_reducible refine qaaa rfl (fun h => ?_) (fun h => ?_)) <;> have h' := h <;> (try simp at h') <;> (try subst h')) | (refine qafl hm (by decide) rfl (Co.nilsl 5) (qads _ _) rfl rfl (by rw [hP]; exact qabe) (by rw [hP]; exact qaa4) rfl (CoL.refl _) ?_ (fun σ => rfl)) | fail)
    all_goals rfl
 ·have hF : qafm p = qafh p := by unfold qafm; rw [if_pos h0]
  have hL : qane p = [] := by unfold qane; rw [hF, if_pos h0]
  rw [hF, hL]
  have kc : ((qafh p).1 != 0) = true := by simpa using h0
  generalize qafh p = C at hc kc
  replace hc := Lib.hid hc
  clear hF hL h0
  repeat' (first | (with_reducible first | refine zA ?_ | refine zK ?_) | ((with_reducible first | refine qaac ?_ | refine qaaz (by rw [hP]; exact qacz) ?_); (try rw [hP]); simp -implicitDefEqProofs [*]) | ((with_reducible refine qaam ?_); (try simp only [qaap, qaag, qaaj])) | ((with_reducible refine qaaa rfl (fun h => ?_) (fun h => ?_)) <;> have h' := h <;> (try simp at h') <;> (try subst h')) | (refine qaaw (hc.out _) ?_; simp -implicitDefEqProofs [*]) | (refine qafl hm (by decide) rfl (Co.nilsl 5) (qads _ _) rfl rfl (by rw [hP]; exact qabe) (by rw [hP]; exact qaa4) rfl (CoL.refl _) rfl (fun σ => rfl)) | fail)
end Go.Proofs.YteoijlmgiemffaaGreat
namespace Go.Proofs.YteoijlmgiemffaaGreat
set_option linter.all false
open Go.RowKit
attribute [local simp] qabi qabh qaax qaa7 qaay qaa6 qabf qabg qaar qabr SOp.run SX.ev putd puts argS upds SOp.touch SSt.keep SSt.skip gets geth puth delh idOf SV.cells? setL qadh qadi sbin eq0 eq1 eqL qadf qab9 qaca qaap qabk qaag qabl qabs qaaj qaaq FrzOk qaba qaa1 qaa8 qaa9 qaat qaa0 qabm qaa2 qaav qabb qaau frzS frzH frz frz1 frz0 SlotsM ObjsM ObjM rn ren ren1 ren0 qabu qab7 qacf qabt qabn qacg qace CoL qabc qab3 dels adds idsH qabz
attribute [local simp] qadt refc qaes qaei qab8 opc actc tabc qaea qacm nums
theorem qain {P : Program} {f : FuncId} {args args' : List SV} {t : TypeId} {cs ds cs' ds' : List SV} {e z : Nat} {es fs : List (List SV)} {r : SV} [PureR es] [PureR fs] (h : SCalls P f args [(0, .cells t cs), (1, .row e z es)] 2 r [(0, .cells t ds), (1, .row e z fs)]) (i j q : Nat) (hij : i ≠ j) (hi : i < q) (hj : j < q)
  (ha : args' = args.map (ren (sg [i, j] q))) (hc : cs' = cs.map (ren (sg [i, j] q))) (hd : ds' = ds.map (ren (sg [i, j] q))) (hok : ds.all ok2 = true) (hr : ∀ σ, Go.Proofs.YteoijlmgiemffaaGreat.ren σ r = r) (hrk : ok2 r = true) : SCalls P f args' [(i, .cells t cs'), (j, .row e z es)] q r [(i, .cells t ds'), (j, .row e z fs)] := by
 have e0 : sg [i, j] q 0 = i := rfl
 have e1 : sg [i, j] q 1 = j := rfl
 refine qaev [i, j] h rfl (by simp [hij]) (by simp; omega) ha ?_ (by simp [idsH]) (hr _).symm hrk ?_ (by simp [idsH]) (by simp [idsH, e0, e1])
 ·refine ⟨⟨.cells t cs', by rw [e0]; simp [geth], rfl, by rw [hc]; exact CoL.refl _⟩, ⟨.row e z es, by rw [e1]; simp [geth, hij], rfl, rfl, by rw [PureR.ren]; exact CoLL.refl _⟩, trivial⟩
 ·exact ⟨⟨.cells t ds', by rw [e0]; simp [geth], rfl, hok, hd⟩, ⟨.row e z fs, by rw [e1]; simp [geth, hij], rfl, rfl, PureR.ok, (PureR.ren _).symm⟩, trivial⟩
def bvc (v : BitVec 64) : List SV := [.int .u64 v.toNat]
attribute [local simp] bvc
instance : PureF bvc := ⟨fun _ _ => rfl, fun _ => rfl, fun _ => qab4 _ rfl⟩
def fcR (p : PlanD) (R n : Nat) (a b : Int) : List SV := qacm p ++ [.own R n, .int .i64 a, .int .i64 b]
attribute [local simp] fcR
abbrev qaf2 (l : List (BitVec 64)) : SObj := .row 22 1 (l.map bvc)
theorem qa6b {f : FuncId} {args : List SV} {n n' : Nat} {p : PlanD} {a b a' b' : Int} {l l' : List (BitVec 64)} {r : SV} (q : Nat) (hq : 2 ≤ q) (ha : args = args.map (ren (sg [0, 1] q))) (hr : ∀ σ, Go.Proofs.YteoijlmgiemffaaGreat.ren σ r = r) (hrk : ok2 r = true) (h : SCalls Tryz.prog f args [(0, .cells 209 (fcR p 1 n a b)), (1, qaf2 l)] 2 r [(0, .cells 209 (fcR p 1 n' a' b')), (1, qaf2 l')]) :
  SCalls Tryz.prog f args [(0, .cells 209 (fcR p 1 n a b)), (1, qaf2 l)] q r [(0, .cells 209 (fcR p 1 n' a' b')), (1, qaf2 l')] := qain h 0 1 q (by decide) (by omega) (by omega) ha rfl rfl rfl hr hrk
theorem qbjw {X : Cx} {sl : Sl} {hp : Hp} {nx n : Nat} {p : PlanD} {a b : Int} {cs : List SV} {es : List (List SV)} {l : List (BitVec 64)} (hm : X.m = 2) (h0 : geth hp 0 = some (.cells 209 cs)) (h1 : geth hp 1 = some (.row 22 1 es)) (e0 : cs = fcR p 1 n a b) (e1 : es = l.map bvc) : QFun X [] 2 (.tup []) [(0, .cells 209 (fcR p 1 n a b)), (1, qaf2 l)] .normal ⟨sl, hp, nx⟩ := by
 subst e0 e1
 refine ⟨⟨[], [(0, .cells 209 (fcR p 1 n a b)), (1, qaf2 l)], 2⟩, ?_, rfl, ⟨rfl, rfl, trivial⟩, by simp⟩
 exact qaah [] hm trivial ⟨⟨_, h0, rfl, CoL.refl _⟩, ⟨_, h1, rfl, rfl, by rw [qajr]; exact CoLL.refl _⟩, trivial⟩ rfl (Nat.le_refl _)
theorem fin_fr {X : Cx} {sl : Sl} {hp : Hp} {nx n : Nat} {p : PlanD} {a b : Int} {cs : List SV} {es : List (List SV)} {l : List (BitVec 64)} (hm : X.m = 2) (h0 : geth hp 0 = some (.cells 209 cs)) (h1 : geth hp 1 = some (.row 22 1 es)) (e0 : cs = fcR p 1 n a b) (e1 : es = l.map bvc) : QFun X [] 2 (.tup []) [(0, .cells 209 (fcR p 1 n a b)), (1, qaf2 l)] .ret ⟨sl, hp, nx⟩ := qbjw hm h0 h1 e0 e1
theorem fin_fv {X : Cx} {sl : Sl} {hp : Hp} {t nx n : Nat} {p : PlanD} {a b : Int} {v : SV} {cs : List SV} {es : List (List SV)} {l : List (BitVec 64)} (hm : X.m = 2) (hv : gets sl t = v) (hN : NoN v) (h0 : geth hp 0 = some (.cells 209 cs)) (h1 : geth hp 1 = some (.row 22 1 es)) (e0 : cs = fcR p 1 n a b) (e1 : es = l.map bvc) : QFun X [.tmp t] 2 v [(0, .cells 209 (fcR p 1 n a b)), (1, qaf2 l)] .ret ⟨sl, hp, nx⟩ := by
 subst e0 e1
 refine ⟨⟨[(t, v)], [(0, .cells 209 (fcR p 1 n a b)), (1, qaf2 l)], 2⟩, ?_, by simp [qakm, resL, resV, one_, gets], ⟨rfl, rfl, trivial⟩, by simp⟩
 refine qaah [] hm ⟨?_, trivial⟩ ⟨⟨_, h0, rfl, CoL.refl _⟩, ⟨_, h1, rfl, rfl, by rw [qajr]; exact CoLL.refl _⟩, trivial⟩ rfl (Nat.le_refl _)
 rw [hv, hN]; exact Co.refl _
theorem qahx (a b : Int) (x y : Bool) (c at_ : Int) (h : c ≠ 0) : qab0 (qab0 a b x c at_).1 (qab0 a b x c at_).2 y c at_ = qab0 a b (x || y) c at_ := by
 unfold qab0
 cases x <;> cases y <;> by_cases ha : a = 0 <;> simp [ha, h]
theorem qbj0 (h : Int) (h0 : 0 ≤ h) (h1 : h < 64) (q : Nat) : SCalls Tryz.prog 143 [.int .i64 h] [] q (.int .u64 (bitB h).toNat) [] := by
 refine qabj ?_ (fun _ => rfl) (fun _ => rfl) rfl q
 refine qaas (N := 5) Tryz.func143 rfl rfl (by kernel_rfl) qaun (by simp) (by repeat' (first | exact trivial | refine And.intro ?_ ?_ | rfl | decide | exact PureR.ren _)) (by repeat' (first | exact trivial | refine And.intro ?_ ?_ | rfl | decide | exact PureR.ren _)) ?_
 rintro X hP hN hm
 unfold c_fbit
 have e := qa42 h0 h1
 rw [Int.one_mul] at e
 repeat' (first | (with_reducible refine zA ?_) | ((with_reducible refine qaac ?_); (try rw [hP]); simp -implicitDefEqProofs [*]) | ((with_reducible refine qaam ?_); (try simp only [qaap, qaag, qaaj])) | (with_reducible refine zM hm ?_) | fail)
 all_goals rfl
theorem qa6a (p : PlanD) (n : Nat) (a b : Int) (l : List (BitVec 64)) (is : Bool) (at_ : Int) (q : Nat) (hq : 2 ≤ q) : SCalls Tryz.prog 164 [.ptr 0 0, .bool is, .int .i64 at_] [(0, .cells 209 (fcR p 1 n a b)), (1, qaf2 l)] q (.tup []) [(0, .cells 209 (fcR p 1 n (qab0 a b is 12 at_).1 (qab0 a b is 12 at_).2)), (1, qaf2 l)] := by
 refine qa6b q hq rfl (fun _ => rfl) rfl ?_
 refine qaas (N := 20) Tryz.func164 rfl rfl (by kernel_rfl) qao2 (by simp) (by repeat' (first | exact trivial | refine And.intro ?_ ?_ | rfl | decide | exact PureR.ren _)) (by repeat' (first | exact trivial | refine And.intro ?_ ?_ | rfl | decide | exact PureR.ren _)) ?_
 rintro X hP hN hm
 unfold c_ffail
 repeat' (first | (with_reducible refine zA ?_) | ((with_reducible refine qaac ?_); (try rw [hP]); simp -implicitDefEqProofs [*]) | ((with_reducible refine qaaf ?_); (try simp -implicitDefEqProofs [*])) | ((with_reducible refine qaaa rfl (fun h => ?_) (fun h => ?_)) <;> have h' := h <;> (try simp at h') <;> (try subst h')) | ((with_reducible refine qaan (fun h => ?_) (fun h => ?_)) <;> have h' := h <;> (try simp at h') <;> (try subst h') <;> simp -implicitDefEqProofs [*]) | (refine qbjw hm rfl rfl ?_ rfl) | fail)
 all_goals (first | (simp [qab0, *]; done) | (simp_all [qab0]; done) | (simp_all [qab0]; omega))
theorem qbjs (p : PlanD) (n : Nat) (a b : Int) (l : List (BitVec 64)) (r : RefD) (m : BitVec 64) (at_ : Int) (hr : r.h < 64) (q : Nat) (hq : 2 ≤ q) : SCalls Tryz.prog 140 [.ptr 0 0, .agg (refc r), .int .u64 m.toNat, .int .i64 at_] [(0, .cells 209 (fcR p 1 n a b)), (1, qaf2 l)] q (.tup []) [(0, .cells 209 (fcR p 1 n (qab0 a b (qaet r m) 12 at_).1 (qab0 a b (qaet r m) 12 at_).2)), (1, qaf2 l)] := by
 refine qa6b q hq rfl (fun _ => rfl) rfl ?_
 refine qaas (N := 22) Tryz.func140 rfl rfl (by kernel_rfl) qaul (by simp) (by repeat' (first | exact trivial | refine And.intro ?_ ?_ | rfl | decide | exact PureR.ren _)) (by repeat' (first | exact trivial | refine And.intro ?_ ?_ | rfl | decide | exact PureR.ren _)) ?_
 rintro X hP hN hm
 unfold c_fref
 cases kh : decide (0 ≤ r.h)
 ·have hg : qaet r m = false := by unfold qaet; rw [kh]; rfl
  rw [hg]
  repeat' (first | (with_reducible refine zA ?_) | ((with_reducible refine qaac ?_); (try rw [hP]); simp -implicitDefEqProofs [*]) | (refine qabv (qa6a p _ _ _ l _ _ _ (by simp)) ⟨rfl, rfl, trivial⟩ ⟨rfl, rfl, trivial⟩ ?_; simp -implicitDefEqProofs [*]) | (refine qbjw hm rfl rfl ?_ rfl) | fail)
  all_goals rfl
 ·have h0 := of_decide_eq_true kh
  have hg : qaet r m = (m &&& bitB r.h == 0) := by unfold qaet; rw [kh]; rfl
  rw [hg]
  have hb := fun q => qbj0 r.h h0 hr q
  replace hb := Lib.hid hb
  replace h0 := Lib.hid h0
  repeat' (first | (with_reducible refine zA ?_) | ((with_reducible refine qaac ?_); (try rw [hP]); simp -implicitDefEqProofs [-BitVec.toNat_and, qaa3, qacn, *]) | ((first | refine qaaw (hb.out _) ?_ | refine qabv (qa6a p _ _ _ l _ _ _ (by simp)) ⟨rfl, rfl, trivial⟩ ⟨rfl, rfl, trivial⟩ ?_); simp -implicitDefEqProofs [-BitVec.toNat_and, qaa3, qacn, *]) | (refine qbjw hm rfl rfl ?_ rfl) | fail)
  all_goals rfl
theorem qbh6 (p : PlanD) (n : Nat) (a b : Int) (l : List (BitVec 64)) (t : List PushD) (m : BitVec 64) (at_ : Int) (ht : ExOk p t) (h6 : p.heads.length ≤ 6) (hl : t.length ≤ 1000) (q : Nat) (hq : 2 ≤ q) : SCalls Tryz.prog 142 [.ptr 0 0, qab2 t, .int .u64 m.toNat, .int .i64 at_] [(0, .cells 209 (fcR p 1 n a b)), (1, qaf2 l)] q (.tup []) [(0, .cells 209 (fcR p 1 n (qab0 a b (qad7 t m) 12 at_).1 (qab0 a b (qad7 t m) 12 at_).2)), (1, qaf2 l)] := by
 refine qa6b q hq rfl (fun _ => rfl) rfl ?_
 refine qaas (N := 26) Tryz.func142 rfl rfl (by kernel_rfl) qao0 (by simp) (by repeat' (first | exact trivial | refine And.intro ?_ ?_ | rfl | decide | exact PureR.ren _)) (by repeat' (first | exact trivial | refine And.intro ?_ ?_ | rfl | decide | exact PureR.ren _)) ?_
 rintro X hP hN hm
 unfold c_ftree
 have hF : qab0 a b (qad7 t m) 12 at_ = qab0 a b ((t.drop 0).any fun x => decide (x.op = 2) && qaet x.r m) 12 at_ := rfl
 generalize qab0 a b (qad7 t m) 12 at_ = F at hF
 replace hF := Lib.hid hF
 replace ht := Lib.hid ht
 repeat' (first | (with_reducible refine zA ?_) | ((with_reducible refine qaac ?_); (try rw [hP]); simp -implicitDefEqProofs [qab2, *]) | fail)
 refine qaal (qaa5 (fun s (z : Nat × Int × Int) => s.turn [(12, .int .i64 z.1)] [(0, .cells 209 (fcR p 1 n z.2.1 z.2.2))]) (fun z => z.1 ≤ t.length ∧ F = qab0 z.2.1 z.2.2 ((t.drop z.1).any fun x => decide (x.op = 2) && qaet x.r m) 12 at_) (fun z => t.length - z.1) (0, a, b) ?_ ⟨by simp, hF.out⟩ ?_)
 ·repeat' (first | ((with_reducible refine qaah [] hm ?_ ?_ ?_ ?_) <;> (try simp only [zT, puth, Nat.reduceEqDiff, reduceIte, Nat.reduceAdd])) | (with_reducible first | refine za ?_ ?_ | refine zb ?_ ?_ ?_ ?_ | refine zc ?_ ?_ ?_ ?_) | (with_reducible first | exact qaab | exact qaad) | ((with_reducible first | refine zga ?_ | refine zgb ?_); rfl) | ((with_reducible refine zgc ?_); (first | (with_reducible rfl) | rfl | (simp; done))) | ((with_reducible refine zgd ?_); (first | omega | (simp; done))) | (exact Co.refl _) | (exact CoL.refl _) | fail)
 rintro J hJ ⟨i, e, g⟩ ⟨h1, h2⟩
 unfold qam0
 simp only [zT, puth, Nat.reduceEqDiff, reduceIte, Nat.reduceAdd] at h1 h2 ⊢
 clear hF
 rcases Nat.lt_or_ge i t.length with hi | hi
 ·have hx := ht.out t[i] (List.getElem_mem hi)
  rw [qac8 _ hi, ← qahx _ _ _ _ _ _ (by decide)] at h2
  generalize hxx : t[i] = x at hx h2
  have wi : IntKind.i64.wrap ((i : Int) + 1) = (i : Int) + 1 := qaao (by omega) (by omega)
  cases ko : (x.op == 2)
  ·have k2 : decide (x.op = 2) = false := by simpa using ko
   rw [k2, Bool.false_and, qabp] at h2
   replace h2 := Lib.hid h2
   replace hx := Lib.hid hx
   repeat' (first | (with_reducible first | refine zA ?_ | refine qaae ?_) | ((with_reducible refine qaac ?_); (try rw [hP]); simp -implicitDefEqProofs [*]) | ((with_reducible refine qaaf ?_); (try simp -implicitDefEqProofs [*])) | ((with_reducible refine qaaa rfl (fun h => ?_) (fun h => ?_)) <;> have h' := h <;> (try simp at h') <;> (try subst h')) | (with_reducible first | refine za ?_ ?_ | refine zb ?_ ?_ ?_ ?_ | refine zc ?_ ?_ ?_ ?_) | (with_reducible first | exact qaab | exact qaad) | ((with_reducible first | refine zga ?_ | refine zgb ?_); rfl) | ((with_reducible refine zgc ?_); (first | (with_reducible rfl) | rfl | (simp; done))) | ((with_reducible first | refine zgd ?_ | refine zge ?_); (first | omega | (simp; done))) | (exact Co.refl _) | (exact CoL.refl _) | ((refine qaai hJ (i + 1, e, g) ?_ ?_ ?_; (with_reducible refine qaah [] hm ?_ ?_ ?_ ?_) <;> (try simp only [zT, puth, Nat.reduceEqDiff, reduceIte, Nat.reduceAdd]))) | fail)
   all_goals (exact ⟨by dsimp only; omega, h2.out⟩)
  ·have k2 : decide (x.op = 2) = true := by simpa using ko
   rw [k2, Bool.true_and] at h2
   have hxh := hx (of_decide_eq_true k2)
   have hr := fun e g q hq => qbjs p n e g l x.r m at_ (by omega) q hq
   generalize qaet x.r m = G at h2 hr
   replace h2 := Lib.hid h2
   replace hx := Lib.hid hx
   replace hr := Lib.hid hr
   repeat' (first | (with_reducible first | refine zA ?_ | refine qaae ?_) | ((with_reducible refine qaac ?_); (try rw [hP]); simp -implicitDefEqProofs [*]) | ((with_reducible refine qaaf ?_); (try simp -implicitDefEqProofs [*])) | ((with_reducible refine qaaa rfl (fun h => ?_) (fun h => ?_)) <;> have h' := h <;> (try simp at h') <;> (try subst h')) | (refine qabv (hr.out _ _ _ (by simp)) ⟨rfl, rfl, trivial⟩ ⟨rfl, rfl, trivial⟩ ?_; simp -implicitDefEqProofs [*]) | (with_reducible first | refine za ?_ ?_ | refine zb ?_ ?_ ?_ ?_ | refine zc ?_ ?_ ?_ ?_) | (with_reducible first | exact qaab | exact qaad) | ((with_reducible first | refine zga ?_ | refine zgb ?_); rfl) | ((with_reducible refine zgc ?_); (first | (with_reducible rfl) | rfl | (simp; done))) | ((with_reducible first | refine zgd ?_ | refine zge ?_); (first | omega | (simp; done))) | (exact Co.refl _) | (exact CoL.refl _) | ((refine qaai hJ (i + 1, ?_, ?_) ?_ ?_ ?_; rotate_left 2; (with_reducible refine qaah [] hm ?_ ?_ ?_ ?_) <;> (try simp only [zT, puth, Nat.reduceEqDiff, reduceIte, Nat.reduceAdd]))) | fail)
   all_goals (try dsimp only)
   all_goals (exact ⟨by omega, h2.out⟩)
 ·obtain rfl : i = t.length := by omega
  rw [List.drop_length] at h2
  have h3 : F = (e, g) := by rw [h2]; exact qabp e g 12 at_
  subst h3
  clear h2
  repeat' (first | (with_reducible refine zA ?_) | ((with_reducible refine qaac ?_); (try rw [hP]); simp -implicitDefEqProofs [*]) | ((with_reducible refine qaak ?_); (try simp -implicitDefEqProofs [*])) | ((with_reducible refine qaaa rfl (fun h => ?_) (fun h => ?_)) <;> have h' := h <;> (try simp at h') <;> (try subst h')) | (refine qbjw hm rfl rfl ?_ rfl) | fail)
  all_goals rfl
end Go.Proofs.YteoijlmgiemffaaGreat
