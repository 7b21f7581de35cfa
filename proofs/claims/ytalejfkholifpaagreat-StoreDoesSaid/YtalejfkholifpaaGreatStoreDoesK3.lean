/-
  Texts joined: XShO XShP XShQ XShW XShX XShZ XShYF XExaH XCmp XExaI XExaJ XExaK XExaA XExaL XExaM XExaN XShAb XCexa XShPK XShPL XCtab XFirst XWordP XEnt XTabA XOpen XPlnA XBitsP XBitsW XBitsU XTabB XTabC XTabO XTStep. No condition.
-/
import Derived.IntWalk
import Derived.Lib.Hide
import Derived.KernelRfl
import Derived.Test.YtalejfkholifpaaGreatProg
import Derived.Shelf.SlSortCmp.WholeK
import Derived.Lib.Walk
import Derived.WalkSmall
import Derived.Shelf.GgSortFunc.InsertionK
import Derived.Shelf.GgSortFunc.RowK
import Derived.Shelf.SlSortCmp.NoneTotal
import Derived.ProofKit
import Derived.Deep.Slices
import Derived.Handy
import Derived.Test.YtalejfkholifpaaGreatRows
import Derived.Deep.QuietTactic
import Derived.BigQuiet
import Derived.WalkSpells
import Derived.RegionTactic
import Derived.BigRegion
import Derived.Deep.RegionLaw
import Derived.Test.YtalejfkholifpaaGreatStoreDoesK2
set_option linter.all false
namespace Go.Proofs.YtalejfkholifpaaGreat
open Go.RowKit
section
def clash (a b : SOper × Tch) : Bool :=
 (match a.1.dst with | some d => b.1.reads.contains d || b.1.dst == some d | none => false) || (match b.1.dst with | some d => a.1.reads.contains d | none => false) ||
  a.2.wr.any (fun i => b.2.rd.contains i || b.2.wr.contains i) || b.2.wr.any fun i => a.2.rd.contains i
def qakj (l : List (SOper × Tch)) : Bool :=
 (List.range l.length).all fun j => (List.range j).all fun i => match l[i]?, l[j]? with
  | some a, some b => !clash a b || b.1.bef.testBit i
  | _, _ => true
theorem qau4 {l : List (SOper × Tch)} (h : qakj l = true) {i j : Nat} {a b : SOper × Tch} (hij : i < j) (ha : l[i]? = some a) (hb : l[j]? = some b) (hc : clash a b = true) : b.1.bef.testBit i = true := by
 have hj : j < l.length := (List.getElem?_eq_some_iff.1 hb).1;have h1 := List.all_eq_true.1 (List.all_eq_true.1 h j (List.mem_range.2 hj)) i (List.mem_range.2 hij);simpa [ha, hb, hc] using h1
def befG (acc : Array Nat) (o : Oper) : Nat := o.after.foldl (fun s e => if Region.binds .any e then s ||| 2 ^ e.on ||| acc.getD e.on 0 else s) 0
theorem qbin (acc : Array Nat) (o : Oper) (i : Nat) (h : (befG acc o).testBit i = true) : ∃ e ∈ o.after.toList, Region.binds .any e = true ∧ (e.on = i ∨ (acc.getD e.on 0).testBit i = true) := by
 unfold befG at h;rw [← Array.foldl_toList] at h;have gen : ∀ (l : List Edge) (s : Nat), (l.foldl (fun s e => if Region.binds .any e then s ||| 2 ^ e.on ||| acc.getD e.on 0 else s) s).testBit i = true → s.testBit i = true ∨ ∃ e ∈ l, Region.binds .any e = true ∧ (e.on = i ∨ (acc.getD e.on 0).testBit i = true) := by
  intro l;induction l with
  | nil => intro s h; exact .inl h
  | cons e l ih =>
   intro s h;rw [List.foldl_cons] at h;rcases ih _ h with h1 | ⟨e', h1, h2⟩
   ·split at h1
    ·rename_i hb;rw [Nat.testBit_or, Nat.testBit_or, Bool.or_eq_true, Bool.or_eq_true] at h1;rcases h1 with (h1 | h1) | h1
     ·exact .inl h1
     ·rw [Nat.testBit_two_pow] at h1;exact .inr ⟨e, by simp, hb, .inl (by simpa using h1)⟩
     ·exact .inr ⟨e, by simp, hb, .inr h1⟩
    ·exact .inl h1
   ·exact .inr ⟨e', by simp [h1], h2⟩
 rcases gen _ _ h with h1 | h1
 ·simp at h1
 ·exact h1
theorem qayj (ops : Array Oper) : (Region.before ops).size = ops.size ∧ ∀ (j : Nat) o, ops[j]? = some o → ∀ i, ((Region.before ops).getD j 0).testBit i = true → ∃ e ∈ o.after.toList, Region.binds .any e = true ∧ (e.on = i ∨ ((Region.before ops).getD e.on 0).testBit i = true) := by
 unfold Region.before;rw [← Array.foldl_toList]
 have gen : ∀ (l done : List Oper) (acc : Array Nat), acc.size = done.length → (∀ (j : Nat) o, done[j]? = some o → ∀ i, (acc.getD j 0).testBit i = true → ∃ e ∈ o.after.toList, Region.binds .any e = true ∧ (e.on = i ∨ (acc.getD e.on 0).testBit i = true)) →
   (l.foldl (fun acc o => acc.push (befG acc o)) acc).size = (done ++ l).length ∧ ∀ (j : Nat) o, (done ++ l)[j]? = some o → ∀ i, ((l.foldl (fun acc o => acc.push (befG acc o)) acc).getD j 0).testBit i = true → ∃ e ∈ o.after.toList, Region.binds .any e = true ∧ (e.on = i ∨ ((l.foldl (fun acc o => acc.push (befG acc o)) acc).getD e.on 0).testBit i = true) := by
  intro l;induction l with
  | nil => intro done acc h1 h2; rw [List.append_nil]; exact ⟨h1, h2⟩
  | cons o l ih =>
   intro done acc h1 h2;have up : ∀ k i, (acc.getD k 0).testBit i = true → ((acc.push (befG acc o)).getD k 0).testBit i = true := fun k i h => by
    rw [Array.getD_eq_getD_getElem?] at h ⊢;cases e : acc[k]? with
    | none => rw [e] at h; simp at h
    | some x =>
     have hk : k < acc.size := (Array.getElem?_eq_some_iff.1 e).1;rw [Array.getElem?_push, if_neg (by omega), e];rw [e] at h; exact h
   have := ih (done ++ [o]) (acc.push (befG acc o)) (by simp [h1]) (fun j o' hj i hi => by
    by_cases hjd : j < done.length
    ·rw [List.getElem?_append_left hjd] at hj;rw [Array.getD_eq_getD_getElem?, Array.getElem?_push, if_neg (by omega), ← Array.getD_eq_getD_getElem?] at hi;obtain ⟨e, q1, q2, q3⟩ := h2 j o' hj i hi;exact ⟨e, q1, q2, q3.imp (fun h => h) (up _ _)⟩
    ·rw [List.getElem?_append_right (by omega)] at hj;have hj0 : j = done.length := by have := (List.getElem?_eq_some_iff.1 hj).1; simp at this; omega
     subst hj0;simp at hj;subst hj;rw [Array.getD_eq_getD_getElem?, Array.getElem?_push, if_pos h1.symm] at hi;obtain ⟨e, q1, q2, q3⟩ := qbin acc o i hi;exact ⟨e, q1, q2, q3.imp (fun h => h) (up _ _)⟩)
   rw [List.append_assoc] at this;exact this
 have := gen ops.toList [] #[] rfl (fun j o h => by simp at h);refine ⟨by have h := this.1; rw [List.nil_append, Array.length_toList] at h; exact h, fun j o hj => this.2 j o (by simpa using hj)⟩
theorem qak8 : ∀ {l : List Oper} {k : Nat}, qbbk k l = true → ∀ (j : Nat) o, l[j]? = some o → ∀ e ∈ o.after.toList, Region.binds .any e = true → e.on < k + j
 | [], k, _, j, o, ho, _, _, _ => by simp at ho
 | o :: l, k, h, j, o', ho, e, he, hb => by
  simp only [qbbk, Bool.and_eq_true] at h;cases j with
  | zero =>
   simp at ho; subst ho
   have := List.all_eq_true.1 h.1 e he;simpa [hb] using this
  | succ j =>
   have := qak8 h.2 j o' (by simpa using ho) e he hb;omega
structure Ent where
 o : Oper
 so : SOper
 s : SSt
 s' : SSt
 x : Tch
 e : Eff
variable {X : Cx}
def qbqh (X : Cx) (ops : Array Oper) (t : Ent) : Prop := t.s.nx ≤ t.s'.nx ∧ t.e.dst = t.so.dst ∧ t.e.wr = t.x.wr ∧ t.e.at t.s t.s' ∧ Loc X ops t.o t.so.reads t.x.rd t.s.nx t.s'.nx t.s t.e
def Chain (s : SSt) : List Ent → SSt → Prop
 | [], t => s = t
 | e :: es, t => e.s = s ∧ Chain e.s' es t
theorem qay4 {ops : Array Oper} {Q : SSt → List Tch → Prop} : ∀ (l : List Oper) (bs : List Nat) (sos : List SOper), qaif X.P X.N ops l bs = some sos → ∀ (s : SSt) (tr : List Tch), X.m ≤ s.nx → SOps X.P sos s tr Q →
  ∃ es sN, Chain s es sN ∧ (∀ t ∈ es, qbqh X ops t) ∧ es.map (·.o) = l ∧ es.map (·.so) = sos ∧ Q sN ((es.map (·.x)).reverse ++ tr) := by
 intro l;induction l with
 | nil =>
  intro bs sos hc s tr hle hk;simp only [qaif, Option.some.injEq] at hc;subst hc;exact ⟨[], s, rfl, by simp, rfl, rfl, hk⟩
 | cons o l ih =>
  intro bs sos hc s tr hle hk;obtain ⟨so, r, rfl, hso, hr⟩ := qaie hc;obtain ⟨hdst, hd, hg, _, _⟩ := qagq hso;have gd : ∀ (t : SSt) ρ fp a w, Sim X ρ fp t a w → _ := fun t ρ fp a w h => qa07 (s := t) hg h
  have join : ∀ s' x, Stp X ops o so s s' x → SOps X.P r s' (x :: tr) Q → ∃ es sN, Chain s es sN ∧ (∀ t ∈ es, qbqh X ops t) ∧ es.map (·.o) = o :: l ∧ es.map (·.so) = so :: r ∧ Q sN ((es.map (·.x)).reverse ++ tr) := by
   rintro s' x ⟨h1, e, h2, h3, h4, h5⟩ hk';obtain ⟨es, sN, q1, q2, q3, q4, q5⟩ := ih _ _ hr s' (x :: tr) (Nat.le_trans hle h1) hk';refine ⟨⟨o, so, s, s', x, e⟩ :: es, sN, ⟨rfl, q1⟩, fun t ht => ?_, by simp [q3], by simp [q4], by simpa using q5⟩;rcases List.mem_cons.1 ht with ht | ht
   ·subst ht; exact ⟨h1, h2, h3, h4, h5⟩
   ·exact q2 t ht
  simp only [SOps] at hk;cases hgr : so.grd with
  | none =>
   rw [hgr] at hk;obtain ⟨s', x, h1, h2⟩ := qbje hso hle hk fun t ρ fp a w h _ => (gd t ρ fp a w h).1 hgr
   exact join s' x h2 h1
  | some tw =>
   obtain ⟨t0, want⟩ := tw;rw [hgr] at hk;have hin : t0 ∈ so.reads := by simp [SOper.reads, hgr]
   simp only at hk;split at hk
   ·rename_i b hb;by_cases hbw : b = want
    ·obtain ⟨s', x, h1, h2⟩ := qbje hso hle (hk.1 hbw) fun t ρ fp a w h hrd => by
      rw [((gd t ρ fp a w h).2 t0 want hgr).1 b (by rw [hrd t0 hin]; exact hb)]; simpa using hbw
     exact join s' x h2 h1
    ·exact join _ _ (qay5 hso fun t ρ fp a w h hrd => by
      rw [((gd t ρ fp a w h).2 t0 want hgr).1 b (by rw [hrd t0 hin]; exact hb)]; simpa using hbw) (hk.2 hbw)
   ·rename_i hb;exact join _ _ (qay5 hso fun t ρ fp a w h hrd => ((gd t ρ fp a w h).2 t0 want hgr).2 (by rw [hrd t0 hin]; exact hb)) hk
   ·cases hk
inductive Rs where
 | sl (t : Nat)
 | ob (id : Nat)
def Ent.W (t : Ent) : Rs → Prop
 | .sl y => t.e.dst = some y
 | .ob id => id ∈ t.e.wr
def Ent.L (t : Ent) : Rs → Prop
 | .sl y => y ∈ t.so.reads ∨ t.e.dst = some y
 | .ob id => id ∈ t.x.rd ∨ id ∈ t.e.wr
def Lw (es : List Ent) (S : Nat → Prop) (r : Rs) : Option Nat → Prop
 | some k => S k ∧ (∃ t, es[k]? = some t ∧ t.W r) ∧ ∀ k', k < k' → S k' → ∀ t, es[k']? = some t → ¬ t.W r
 | none => ∀ k, S k → ∀ t, es[k]? = some t → ¬ t.W r
def Inv (es : List Ent) (s0 : SSt) (S : Nat → Prop) (t : SSt) : Prop :=
 (∀ y, ∃ o, Lw es S (.sl y) o ∧ gets t.sl y = match o with | some k => ((es[k]?).map (·.e.v)).getD .any | none => gets s0.sl y) ∧
 ∀ id, ∃ o, Lw es S (.ob id) o ∧ geth t.hp id = match o with | some k => ((es[k]?).map (·.e.c id)).getD none | none => geth s0.hp id
theorem Ent.W_L {t : Ent} {r : Rs} (h : t.W r) : t.L r := by cases r <;> exact .inr h
theorem Lw.uniq {es : List Ent} {S : Nat → Prop} {r : Rs} {o o' : Option Nat} (h : Lw es S r o) (h' : Lw es S r o') : o = o' := by
 cases o with
 | none =>
  cases o' with
  | none => rfl
  | some k => obtain ⟨h1, ⟨t, h2, h3⟩, _⟩ := h'; exact absurd h3 (h k h1 t h2)
 | some k =>
  obtain ⟨h1, ⟨t, h2, h3⟩, h4⟩ := h;cases o' with
  | none => exact absurd h3 (h' k h1 t h2)
  | some k' =>
   obtain ⟨g1, ⟨t', g2, g3⟩, g4⟩ := h';rcases Nat.lt_trichotomy k k' with e | e | e
   ·exact absurd g3 (h4 k' e g1 t' g2)
   ·rw [e]
   ·exact absurd h3 (g4 k e h1 t h2)
structure Ord (es : List Ent) (B : Nat → Nat → Prop) : Prop where
 ord : ∀ i j a b r, i < j → es[i]? = some a → es[j]? = some b → (a.W r ∧ b.L r) ∨ (a.L r ∧ b.W r) → B j i
theorem Lw.agree {es : List Ent} {B : Nat → Nat → Prop} (hB : Ord es B) {S : Nat → Prop} (hcl : ∀ j i, S j → B j i → S i) {j : Nat} {t : Ent} (hj : es[j]? = some t) (hnj : ¬ S j) (hdep : ∀ i, B j i → S i) {r : Rs} (hl : t.L r) {o o' : Option Nat} (h : Lw es S r o) (h' : Lw es (· < j) r o') : o = o' := by
 have lt_of : ∀ k u, S k → es[k]? = some u → u.W r → k < j := fun k u hk hu hw => by
  rcases Nat.lt_trichotomy k j with e | e | e
  ·exact e
  ·rw [e] at hk; exact absurd hk hnj
  ·exact absurd (hcl k j hk (hB.ord j k t u r e hj hu (.inr ⟨hl, hw⟩))) hnj
 have in_of : ∀ k u, k < j → es[k]? = some u → u.W r → S k := fun k u hk hu hw => hdep k (hB.ord k j u t r hk hu hj (.inl ⟨hw, hl⟩))
 have h2 : Lw es (· < j) r o := by
  cases o with
  | none => exact fun k hk u hu hw => h k (in_of k u hk hu hw) u hu hw
  | some k =>
   obtain ⟨h1, ⟨u, h2, h3⟩, h4⟩ := h;exact ⟨lt_of k u h1 h2 h3, ⟨u, h2, h3⟩, fun k' hk hk' u' hu' hw => h4 k' hk (in_of k' u' hk' hu' hw) u' hu' hw⟩
 exact h2.uniq h'
theorem Lw.add {es : List Ent} {B : Nat → Nat → Prop} (hB : Ord es B) {S : Nat → Prop} (hcl : ∀ j i, S j → B j i → S i) {j : Nat} {t : Ent} (hj : es[j]? = some t) (hnj : ¬ S j) {r : Rs} {o : Option Nat} (h : Lw es S r o) :
  (t.W r → Lw es (fun k => S k ∨ k = j) r (some j)) ∧ (¬ t.W r → Lw es (fun k => S k ∨ k = j) r o) := by
 refine ⟨fun hw => ⟨.inr rfl, ⟨t, hj, hw⟩, fun k' hk hk' u hu hw' => ?_⟩, fun hw => ?_⟩
 ·rcases hk' with hk' | hk'
  ·exact hnj (hcl k' j hk' (hB.ord j k' t u r hk hj hu (.inl ⟨hw, Ent.W_L hw'⟩)))
  ·omega
 ·cases o with
  | none =>
   intro k hk u hu hw';rcases hk with hk | hk
   ·exact h k hk u hu hw'
   ·subst hk; rw [hj] at hu; cases hu; exact hw hw'
  | some k =>
   obtain ⟨h1, h2, h4⟩ := h;refine ⟨.inl h1, h2, fun k' hk hk' u hu hw' => ?_⟩;rcases hk' with hk' | hk'
   ·exact h4 k' hk hk' u hu hw'
   ·subst hk'; rw [hj] at hu; cases hu; exact hw hw'
theorem Chain.inv {ops : Array Oper} : ∀ {es : List Ent} {s0 sN : SSt}, Chain s0 es sN → (∀ t ∈ es, qbqh X ops t) → ∀ (pre : List Ent) (s00 : SSt), Inv (pre ++ es) s00 (· < pre.length) s0 → (∀ (j : Nat) t, es[j]? = some t → Inv (pre ++ es) s00 (· < pre.length + j) t.s) ∧ Inv (pre ++ es) s00 (· < (pre ++ es).length) sN := by
 intro es;induction es with
 | nil =>
  intro s0 sN hc _ pre s00 h;obtain rfl : s0 = sN := hc;exact ⟨fun j t ht => by simp at ht, by simpa using h⟩
 | cons t es ih =>
  intro s0 sN hc hok pre s00 h;obtain ⟨rfl, hc⟩ := hc;obtain ⟨_, _, _, hat, _⟩ := hok t (by simp);have hget : (pre ++ t :: es)[pre.length]? = some t := by simp
  have hnext : Inv (pre ++ t :: es) s00 (· < pre.length + 1) t.s' := by
   have hstep : ∀ r o, Lw (pre ++ t :: es) (· < pre.length) r o → (t.W r → Lw (pre ++ t :: es) (· < pre.length + 1) r (some pre.length)) ∧ (¬ t.W r → Lw (pre ++ t :: es) (· < pre.length + 1) r o) := fun r o ho => by
    refine ⟨fun hw => ⟨Nat.lt_succ_self _, ⟨t, hget, hw⟩, fun k' h1 h2 => by omega⟩, fun hw => ?_⟩;cases o with
    | none =>
     intro k hk u hu hw';rcases Nat.lt_or_ge k pre.length with e | e
     ·exact ho k e u hu hw'
     ·obtain rfl : k = pre.length := by have hk' : k < pre.length + 1 := hk; omega
      rw [hget] at hu; cases hu; exact hw hw'
    | some k =>
     obtain ⟨h1, h2, h4⟩ := ho;refine ⟨Nat.lt_succ_of_lt h1, h2, fun k' hk hk' u hu hw' => ?_⟩;rcases Nat.lt_or_ge k' pre.length with e | e
     ·exact h4 k' hk e u hu hw'
     ·obtain rfl : k' = pre.length := by have hk2 : k' < pre.length + 1 := hk'; omega
      rw [hget] at hu; cases hu; exact hw hw'
   refine ⟨fun y => ?_, fun id => ?_⟩
   ·obtain ⟨o, ho, hv⟩ := h.1 y;obtain ⟨q1, q2⟩ := hstep (.sl y) o ho;rw [hat.1 y];by_cases hw : t.e.dst = some y
    ·exact ⟨some pre.length, q1 hw, by rw [if_pos hw]; simp only [hget]; rfl⟩
    ·exact ⟨o, q2 hw, by rw [if_neg hw]; exact hv⟩
   ·obtain ⟨o, ho, hv⟩ := h.2 id;obtain ⟨q1, q2⟩ := hstep (.ob id) o ho;rw [hat.2 id];by_cases hw : id ∈ t.e.wr
    ·exact ⟨some pre.length, q1 hw, by rw [if_pos hw]; simp only [hget]; rfl⟩
    ·exact ⟨o, q2 hw, by rw [if_neg hw]; exact hv⟩
  have hre : pre ++ t :: es = (pre ++ [t]) ++ es := by simp
  rw [hre] at hnext h ⊢;obtain ⟨r1, r2⟩ := ih hc (fun u hu => hok u (by simp [hu])) (pre ++ [t]) s00 (by simpa using hnext);refine ⟨fun j u hu => ?_, r2⟩;cases j with
  | zero => simp at hu; subst hu; simpa using h
  | succ j =>
   have := r1 j u (by simpa using hu);rw [List.length_append, List.length_singleton] at this;rw [show pre.length + (j + 1) = pre.length + 1 + j by omega];exact this
end
section
variable {X : Cx}
theorem qak5 {p q : Nat → Bool} : ∀ (l : List Nat) (i : Nat), i ∈ l → p i = true → q i = false → (∀ k, q k = true → p k = true) → (l.filter q).length < (l.filter p).length
 | [], i, h, _, _, _ => by cases h
 | x :: l, i, h, hp, hq, hpq => by
  have mono : ∀ l : List Nat, (l.filter q).length ≤ (l.filter p).length := fun l => by
   induction l with
   | nil => exact Nat.le_refl _
   | cons y l ih =>
    simp only [List.filter_cons];cases hy : q y with
    | true => rw [hpq y hy]; simp; exact ih
    | false => cases hy' : p y <;> simp <;> omega
  simp only [List.filter_cons];by_cases e : x = i
  ·subst e;rw [hp, hq];have := mono l;simp; omega
  ·have := qak5 l i ((List.mem_cons.1 h).resolve_left (Ne.symm e)) hp hq hpq;cases hy : q x with
   | true => rw [hpq x hy]; simp; exact this
   | false => cases hy' : p x <;> simp <;> omega
theorem Sim.congr {ρ : qact} {fp : Nat → Nat → Prop} {s t : SSt} {a : Act} {w : World} (h : Sim X ρ fp s a w) (h1 : ∀ y, gets t.sl y = gets s.sl y) (h2 : ∀ id, geth t.hp id = geth s.hp id) : Sim X ρ fp t a w := by
 have hL : Live t.hp fp = Live s.hp fp := by funext k; unfold Live; simp only [h2]
 have hA : Av X t.hp fp = Av X s.hp fp := by funext k; unfold Av; rw [hL]
 refine ⟨⟨fun id o ho => ?_, fun id id' o o' hne ho ho' => ?_, fun id o ho => ?_, h.h.step, h.h.keep⟩, h.tmps, h.defers, fun y => ?_⟩
 ·rw [hA]; exact h.h.objs id o (by rw [← h2]; exact ho)
 ·exact h.h.disj id id' o o' hne (by rw [← h2]; exact ho) (by rw [← h2]; exact ho')
 ·exact h.h.turn id o (by rw [← h2]; exact ho)
 ·rw [hA, h1]; exact h.slots y
theorem SimH.drew {ρ : qact} {fp : Nat → Nat → Prop} {hp : Hp} {w : World} (h : SimH X ρ fp hp w) : SimH X ρ fp hp { w with drawn := w.drawn + 1 } ∧ Pres w (Av X hp fp) ρ { w with drawn := w.drawn + 1 } (Av X hp fp) ρ := by
 have hst : Step (fun _ => False) w { w with drawn := w.drawn + 1 } := ⟨rfl, rfl, rfl, Nat.le_refl _, fun _ _ _ => rfl⟩
 exact h.change (hp' := hp) (fun _ => False) (fun _ => False) hst (fun _ h => h.elim) (fun id o ho _ => ⟨ho, fun h => h, rfl⟩) (fun _ _ h => h) (fun _ _ => rfl) (fun _ _ h => h.elim) (fun _ _ _ _ h => h.elim) (fun _ _ _ h => h.elim)
theorem qbng {a b : Ent} (ha : a.e.dst = a.so.dst) (ha2 : a.e.wr = a.x.wr) (hb : b.e.dst = b.so.dst) (hb2 : b.e.wr = b.x.wr) {r : Rs} (h : (a.W r ∧ b.L r) ∨ (a.L r ∧ b.W r)) : clash (a.so, a.x) (b.so, b.x) = true := by
 unfold clash;simp only [Bool.or_eq_true];cases r with
 | sl y =>
  simp only [Ent.W, Ent.L] at h;rw [ha, hb] at h;rcases h with ⟨h1, h2 | h2⟩ | ⟨h2 | h2, h1⟩
  ·exact .inl (.inl (.inl (by rw [h1]; simp [h2])))
  ·exact .inl (.inl (.inl (by rw [h1]; simp [h2])))
  ·exact .inl (.inl (.inr (by rw [h1]; simp [h2])))
  ·exact .inl (.inl (.inl (by rw [h2]; simp [h1])))
 | ob id =>
  simp only [Ent.W, Ent.L] at h;rw [ha2, hb2] at h;rcases h with ⟨h1, h2 | h2⟩ | ⟨h2 | h2, h1⟩
  ·exact .inl (.inr (List.any_eq_true.2 ⟨id, h1, by simp [h2]⟩))
  ·exact .inl (.inr (List.any_eq_true.2 ⟨id, h1, by simp [h2]⟩))
  ·exact .inr (List.any_eq_true.2 ⟨id, h1, by simp [h2]⟩)
  ·exact .inl (.inr (List.any_eq_true.2 ⟨id, h2, by simp [h1]⟩))
theorem qasy {α β : Type} {f : α → β} {es : List α} {l : List β} (h : es.map f = l) {j : Nat} {t : α} (ht : es[j]? = some t) : l[j]? = some (f t) := by rw [← h]; simp [ht]
theorem qan8 {P : Program} {N : Nat} {ops : Array Oper} : ∀ (l : List Oper) (bs : List Nat) (sos : List SOper), qaif P N ops l bs = some sos → ∀ (j : Nat) so, sos[j]? = some so → so.bef = (bs.drop j).headD 0
 | [], bs, sos, h, j, so, hj => by simp only [qaif, Option.some.injEq] at h; subst h; simp at hj
 | o :: l, bs, sos, h, j, so, hj => by
  obtain ⟨so0, r, rfl, h1, h2⟩ := qaie h;cases j with
  | zero => simp at hj; subst hj; rw [List.drop_zero]; exact (qagq h1).2.2.2.1
  | succ j =>
   have := qan8 l bs.tail r h2 j so (by simpa using hj);rw [this]; cases bs <;> simp
theorem qblk {ops : Array Oper} (hed : qa1m ops = true) {sos : List SOper} (hc : qaif X.P X.N ops ops.toList (Region.before ops).toList = some sos) {Q : SSt → Prop} {R : Exit → Act → World → Prop} (hQ : ∀ s ρ fp a w, Q s → SimF X ρ fp s a w → R .normal a w)
  {s : SSt} {ρ : qact} {fp : Nat → Nat → Prop} {a : Act} {w : World} (hk : SOps X.P sos s [] fun s' tr => qakj (sos.zip tr.reverse) = true ∧ Q s') (h : SimF X ρ fp s a w) : wpAny X.P .any ops R ops.size (Array.replicate ops.size false) a { w with drawn := w.drawn + 1 } := by
 obtain ⟨es, sN, hch, hok, ho, hso, hok2, hq⟩ := qay4 _ _ _ hc s [] h.le hk;simp only [List.append_nil, List.reverse_reverse] at hok2;have hlen : es.length = ops.size := by have := congrArg List.length ho; simpa using this
 have hzip : sos.zip (es.map (·.x)) = es.map fun t => (t.so, t.x) := by
  rw [← hso];clear hok2 ho hso hch hok hlen hq hc hk;induction es with
  | nil => rfl
  | cons t es ih => simp [ih]
 rw [hzip] at hok2;let B : Nat → Nat → Prop := fun j i => ((Region.before ops).getD j 0).testBit i = true
 have hbef : ∀ (j : Nat) t, es[j]? = some t → t.so.bef = (Region.before ops).getD j 0 := fun j t ht => by
  rw [qan8 _ _ _ hc j t.so (qasy hso ht)];rw [List.headD_eq_head?_getD, List.head?_drop, Array.getD_eq_getD_getElem?]; simp
 have hord : Ord es B := ⟨fun i j x y r hij hx hy hcl => by
  have ox := hok x (List.mem_of_getElem? hx);have oy := hok y (List.mem_of_getElem? hy);have := qau4 hok2 hij (qasy rfl hx) (qasy rfl hy) (qbng ox.2.1 ox.2.2.1 oy.2.1 oy.2.2.1 hcl);show ((Region.before ops).getD j 0).testBit i = true;rw [← hbef j y hy]; exact this⟩
 have hinv0 : Inv es s (fun _ => False) s := ⟨fun y => ⟨none, fun _ h => h.elim, rfl⟩, fun id => ⟨none, fun _ h => h.elim, rfl⟩⟩
 have hinv00 : Inv ([] ++ es) s (· < ([] : List Ent).length) s := by
  have e : (fun k => k < ([] : List Ent).length) = fun _ => False := by funext k; simp
  rw [e]; exact hinv0
 obtain ⟨hst, hfin⟩ := hch.inv hok [] s hinv00;simp only [List.nil_append, List.length_nil, Nat.zero_add] at hst hfin;have hnx : ∀ (j : Nat) t, es[j]? = some t → s.nx ≤ t.s.nx ∧ t.s'.nx ≤ sN.nx := by
  have gen : ∀ (es : List Ent) (s sN : SSt), Chain s es sN → (∀ t ∈ es, qbqh X ops t) → s.nx ≤ sN.nx ∧ ∀ (j : Nat) t, es[j]? = some t → s.nx ≤ t.s.nx ∧ t.s'.nx ≤ sN.nx := by
   intro es;induction es with
   | nil => intro s sN hc _; obtain rfl : s = sN := hc; exact ⟨Nat.le_refl _, fun j t ht => by simp at ht⟩
   | cons u es ih =>
    intro s sN hc ho;obtain ⟨rfl, hc⟩ := hc;have hu := (ho u (by simp)).1;obtain ⟨h1, h2⟩ := ih _ _ hc fun t ht => ho t (by simp [ht])
    refine ⟨by omega, fun j t ht => ?_⟩;cases j with
    | zero => simp at ht; subst ht; exact ⟨Nat.le_refl _, h1⟩
    | succ j => have := h2 j t (by simpa using ht); omega
  exact (gen es s sN hch hok).2
 have hle : s.nx ≤ sN.nx := by
  have gen : ∀ (es : List Ent) (s sN : SSt), Chain s es sN → (∀ t ∈ es, qbqh X ops t) → s.nx ≤ sN.nx := by
   intro es;induction es with
   | nil => intro s sN hc _; obtain rfl : s = sN := hc; exact Nat.le_refl _
   | cons u es ih =>
    intro s sN hc ho;obtain ⟨rfl, hc⟩ := hc;have hu := (ho u (by simp)).1;have := ih _ _ hc fun t ht => ho t (by simp [ht])
    omega
  exact gen es s sN hch hok
 have hapart : ∀ (i j : Nat) t u, es[i]? = some t → es[j]? = some u → i < j → t.s'.nx ≤ u.s.nx := by
  have gen : ∀ (es : List Ent) (s sN : SSt), Chain s es sN → (∀ t ∈ es, qbqh X ops t) → (∀ (j : Nat) u, es[j]? = some u → s.nx ≤ u.s.nx) ∧ ∀ (i j : Nat) t u, es[i]? = some t → es[j]? = some u → i < j → t.s'.nx ≤ u.s.nx := by
   intro es;induction es with
   | nil => intro s sN hc _; exact ⟨fun j t ht => by simp at ht, fun i j t u ht => by simp at ht⟩
   | cons v es ih =>
    intro s sN hc ho;obtain ⟨rfl, hc⟩ := hc;have hv := (ho v (by simp)).1;obtain ⟨h1, h2⟩ := ih _ _ hc fun t ht => ho t (by simp [ht])
    refine ⟨fun j u hu => ?_, fun i j t u ht hu hij => ?_⟩
    ·cases j with
     | zero => simp at hu; subst hu; exact Nat.le_refl _
     | succ j => have := h1 j u (by simpa using hu); omega
    ·cases j with
     | zero => omega
     | succ j =>
      cases i with
      | zero => simp at ht; subst ht; exact h1 j u (by simpa using hu)
      | succ i => exact h2 i j t u (by simpa using ht) (by simpa using hu) (by omega)
  exact (gen es s sN hch hok).2
 have main : ∀ (fuel : Nat) (listed : Array Bool) (t : SSt) (ρ : qact) (fp : Nat → Nat → Prop) (a : Act) (w : World), listed.size = ops.size → ((List.range ops.size).filter fun i => !listed.getD i true).length ≤ fuel →
   (∀ j i, listed.getD j false = true → B j i → listed.getD i false = true) → Inv es s (fun i => listed.getD i false = true) t → Sim X ρ fp t a w → (∀ id, ρ id ≠ none → id < s.nx ∨ ∃ (i : Nat) (u : Ent), listed.getD i false = true ∧ es[i]? = some u ∧ u.s.nx ≤ id ∧ id < u.s'.nx) →
   wpAny X.P .any ops R fuel listed a w := by
  intro fuel;induction fuel with
  | zero =>
   intro listed t ρ fp a w hsz hcnt hcl hinv hsim hρ;have hall : ∀ i, i < ops.size → listed.getD i true = true := fun i hi => by
    cases e : listed.getD i true with
    | true => rfl
    | false =>
     have : i ∈ (List.range ops.size).filter fun i => !listed.getD i true := List.mem_filter.2 ⟨List.mem_range.2 hi, by simp [e]⟩
     have h0 := List.length_pos_of_mem this;omega
   refine ⟨?_, ?_⟩
   ·cases hr : Region.ready .any ops listed with
    | nil => rfl
    | cons i r =>
     have hi : i ∈ Region.ready .any ops listed := by rw [hr]; simp
     obtain ⟨h1, o, h2, _⟩ := mem_ready.1 hi;have := hall i (Array.getElem?_eq_some_iff.1 h2).1;rw [h1] at this; cases this
   ·exact (by
     have hS : (fun i => listed.getD i false = true) = fun i => i < es.length := by
      funext i
      apply propext;constructor
      ·intro hi;rw [hlen, ← hsz];rcases Nat.lt_or_ge i listed.size with h | h
       ·exact h
       ·simp [Array.getElem?_eq_none h] at hi
      ·intro hi;have h1 := hall i (by omega);have h2 : i < listed.size := by omega
       simp [h2] at h1 ⊢; exact h1
     rw [hS] at hinv;have hsimN : Sim X ρ fp sN a w := hsim.congr (fun y => by
      obtain ⟨o, q1, q2⟩ := hinv.1 y;obtain ⟨o', q3, q4⟩ := hfin.1 y;rw [q1.uniq q3] at q2;rw [q2, q4]) (fun id => by
      obtain ⟨o, q1, q2⟩ := hinv.2 id;obtain ⟨o', q3, q4⟩ := hfin.2 id;rw [q1.uniq q3] at q2;rw [q2, q4])
     exact hQ sN ρ fp a w hq ⟨hsimN, fun id hid => by
      cases e : ρ id with
      | none => rfl
      | some p =>
       rcases hρ id (by rw [e]; simp) with h5 | ⟨i, u, _, h6, h7, h8⟩
       ·omega
       ·have := (hnx i u h6).2; omega, Nat.le_trans h.le hle⟩)
  | succ fuel ih =>
   intro listed t ρ fp a w hsz hcnt hcl hinv hsim hρ;refine ⟨fun hr => ?_, fun j hj => ?_⟩
   ·-- nothing is ready: all has been done
    have hall : ∀ i, i < ops.size → listed.getD i true = true := fun i => by
     induction i using Nat.strongRecOn with
     | ind i ihi =>
      intro hi;cases e : listed.getD i true with
      | true => rfl
      | false =>
       have : i ∈ Region.ready .any ops listed := mem_ready.2 ⟨e, ops[i], Array.getElem?_eq_getElem hi, fun ed hed1 hed2 => by
        have hlt := qak8 hed i ops[i] (by simp [hi]) ed (by simpa using hed1) hed2;have h1 := ihi ed.on (by omega) (by omega);have h2 : ed.on < listed.size := by omega
        simp [h2] at h1 ⊢; exact h1⟩
       rw [hr] at this; cases this
    have hz : ((List.range ops.size).filter fun i => !listed.getD i true).length ≤ 0 := by
     rw [List.filter_eq_nil_iff.2 fun i hi => by rw [hall i (List.mem_range.1 hi)]; simp]; simp
    have hS : (fun i => listed.getD i false = true) = fun i => i < es.length := by
     funext i
     apply propext;constructor
     ·intro hi;rw [hlen, ← hsz];rcases Nat.lt_or_ge i listed.size with h | h
      ·exact h
      ·simp [Array.getElem?_eq_none h] at hi
     ·intro hi;have h1 := hall i (by omega);have h2 : i < listed.size := by omega
      simp [h2] at h1 ⊢; exact h1
    rw [hS] at hinv;have hsimN : Sim X ρ fp sN a w := hsim.congr (fun y => by
     obtain ⟨o, q1, q2⟩ := hinv.1 y;obtain ⟨o', q3, q4⟩ := hfin.1 y;rw [q1.uniq q3] at q2;rw [q2, q4]) (fun id => by
     obtain ⟨o, q1, q2⟩ := hinv.2 id;obtain ⟨o', q3, q4⟩ := hfin.2 id;rw [q1.uniq q3] at q2;rw [q2, q4])
    exact hQ sN ρ fp a w hq ⟨hsimN, fun id hid => by
     cases e : ρ id with
     | none => rfl
     | some p =>
      rcases hρ id (by rw [e]; simp) with h5 | ⟨i, u, _, h6, h7, h8⟩
      ·omega
      ·have := (hnx i u h6).2; omega, Nat.le_trans h.le hle⟩
   ·obtain ⟨hun, o, hoj, hdep⟩ := mem_ready.1 hj;have hjlt : j < ops.size := (Array.getElem?_eq_some_iff.1 hoj).1;have hnj : ¬ (listed.getD j false = true) := by
     have h2 : j < listed.size := by omega
     simp [h2] at hun ⊢; rw [hun]
    obtain ⟨u, hu⟩ : ∃ u, es[j]? = some u := ⟨_, List.getElem?_eq_getElem (by omega)⟩
    have huo : u.o = o := by
     have := qasy ho hu;rw [Array.getElem?_toList, hoj] at this;exact (Option.some.inj this).symm
    obtain ⟨hmono, hd, hwr, hat, hloc⟩ := hok u (List.mem_of_getElem? hu);have hdeps : ∀ i, B j i → listed.getD i false = true := fun i hi => by
     obtain ⟨ed, q1, q2, q3⟩ := (qayj ops).2 j o hoj i hi;have h5 := hdep ed (by simpa using q1) q2;rcases q3 with q3 | q3
     ·rw [← q3]; exact h5
     ·exact hcl _ _ h5 q3
    have hcan := hst j u hu;unfold wpOp;rw [hoj];simp only;have hL := hloc t ρ fp a w hsim (fun y hy => by
      obtain ⟨o1, q1, q2⟩ := hinv.1 y;obtain ⟨o2, q3, q4⟩ := hcan.1 y;rw [q1.agree hord (fun j i => hcl j i) hu hnj hdeps (show u.L (.sl y) from Or.inl hy) q3] at q2;rw [q2, q4]) (fun id hid => by
      obtain ⟨o1, q1, q2⟩ := hinv.2 id;obtain ⟨o2, q3, q4⟩ := hcan.2 id;rw [q1.agree hord (fun j i => hcl j i) hu hnj hdeps (show u.L (.ob id) from hid) q3] at q2;rw [q2, q4]) (fun id h5 h6 => by
      cases e : ρ id with
      | none => rfl
      | some p =>
       rcases hρ id (by rw [e]; simp) with h7 | ⟨i, v, h7, h8, h9, h10⟩
       ·have := (hnx j u hu).1; omega
       ·rcases Nat.lt_trichotomy i j with hij | hij | hij
        ·have := hapart i j v u h8 hu hij; omega
        ·subst hij; exact absurd h7 hnj
        ·have := hapart j i u v hu h8 hij; omega) (wpAny X.P .any ops R fuel (listed.setIfInBounds j true)) R (fun t' ρ' fp' a' w' hat' hsim' hρ' => by
      have hS : (fun i => (listed.setIfInBounds j true).getD i false = true) = fun i => listed.getD i false = true ∨ i = j := by
       funext i
       apply propext;by_cases e : i = j
       ·subst e;have h2 : i < listed.size := by omega
        simp [h2]
       ·rw [getD_set_ne false (Ne.symm e)]; simp [e]
      refine ih (listed.setIfInBounds j true) t' ρ' fp' a' w' (by simp [hsz]) ?_ (fun k i hk hki => ?_) ?_ hsim' (fun id hid => ?_)
      ·have := qak5 (p := fun i => !listed.getD i true) (q := fun i => !(listed.setIfInBounds j true).getD i true) (List.range ops.size) j (List.mem_range.2 hjlt) (by simp only [hun]; rfl) (by
        have h2 : j < listed.size := by omega
        simp [h2]) (fun k hk => by
        by_cases e : j = k
        ·subst e;have h2 : j < listed.size := by omega
         simp [h2] at hk
        ·rw [getD_set_ne true e] at hk; exact hk)
       omega
      ·have hk' : listed.getD k false = true ∨ k = j := by have := congrFun hS k; rw [← this]; exact hk
       have hgoal : listed.getD i false = true := by
        rcases hk' with hk' | hk'
        ·exact hcl k i hk' hki
        ·subst hk'; exact hdeps i hki
       have := congrFun hS i;rw [this]; exact .inl hgoal
      ·rw [hS];refine ⟨fun y => ?_, fun id => ?_⟩
       ·obtain ⟨o1, q1, q2⟩ := hinv.1 y;obtain ⟨r1, r2⟩ := q1.add hord (fun j i => hcl j i) hu hnj;rw [hat'.1 y];by_cases hw : u.e.dst = some y
        ·exact ⟨some j, r1 hw, by rw [if_pos hw]; simp only [hu]; rfl⟩
        ·exact ⟨o1, r2 hw, by rw [if_neg hw]; exact q2⟩
       ·obtain ⟨o1, q1, q2⟩ := hinv.2 id;obtain ⟨r1, r2⟩ := q1.add hord (fun j i => hcl j i) hu hnj;rw [hat'.2 id];by_cases hw : id ∈ u.e.wr
        ·exact ⟨some j, r1 hw, by rw [if_pos hw]; simp only [hu]; rfl⟩
        ·exact ⟨o1, r2 hw, by rw [if_neg hw]; exact q2⟩
      ·rcases hρ' id hid with h5 | h5
       ·rcases hρ id h5 with h6 | ⟨i, v, h7, h8, h9, h10⟩
        ·exact .inl h6
        ·exact .inr ⟨i, v, by have := congrFun hS i; rw [this]; exact .inl h7, h8, h9, h10⟩
       ·exact .inr ⟨j, u, by have := congrFun hS j; rw [this]; exact .inr rfl, hu, h5.1, h5.2⟩)
    rw [huo] at hL;split
    ·rename_i hwd;rw [if_pos hwd] at hL;exact .inl hL
    ·rename_i hwd;rw [if_neg hwd] at hL;exact hL
 obtain ⟨hd1, hd2⟩ := h.sim.h.drew;refine main ops.size (Array.replicate ops.size false) s ρ fp a _ (by simp) (by have := List.length_filter_le (fun i => !(Array.replicate ops.size false).getD i true) (List.range ops.size); simpa using this) (fun j i hj => ?_) ?_ ⟨hd1, h.sim.tmps, h.sim.defers, fun t => hd2.rep (h.sim.slots t)⟩ (fun id hid => .inl (Nat.lt_of_not_le fun hge => hid (h.fresh id hge)))
 ·exfalso;by_cases hlt : j < ops.size <;> simp [hlt] at hj
 ·have e : (fun i => (Array.replicate ops.size false).getD i false = true) = fun _ => False := by
   funext i
   by_cases hlt : i < ops.size <;> simp [hlt]
  rw [e]; exact hinv0
theorem qaaz {s : SSt} {Q : SExit → SSt → Prop} {ops : List SOper} {live : List Nat} (hm : X.P.follows .mixedOrders = true) (h : SOps X.P ops s [] fun s' tr => qakj (ops.zip tr.reverse) = true ∧ Q .normal (s'.keep live)) : SWp X (.reg true ops live) Q s := fun code hc ρ fp a w hs => by
 by_cases hreg : ∃ id o d, code = .region id o d
 ·obtain ⟨id, o, d, rfl⟩ := hreg;obtain ⟨l, e, h1, h2⟩ := qadc hc;simp only [SCode.erase, SCode.reg.injEq, and_true] at e;obtain ⟨rfl, rfl⟩ := e;refine wp_region_any hm ?_;refine qblk (h2.resolve_left (by simp)) (by simpa using h1) (Q := fun s' => Q .normal (s'.keep live)) ?_ h hs;intro s' ρ' fp' a' w' hq h';obtain ⟨ρ2, fp2, h2⟩ := qbiz live ρ' fp' a' w' h';exact ⟨_, ρ2, fp2, hq, h2⟩
 ·cases code <;> (try simp only [comp, SCode.erase, Option.bind_eq_bind, Option.bind_eq_some_iff, Option.some.injEq, reduceCtorEq, and_false, exists_false, exists_const] at hc)
  case region => exact absurd ⟨_, _, _, rfl⟩ hreg
end
section
variable {X : Cx} {s : SSt} {Q : SExit → SSt → Prop} {y : SCode}
theorem qaby : QSeq X y Q .normal s = SWp X y Q s := rfl
theorem qab0 {i : Nat} : QSeq X y Q (.exit i) s = Q (.exit i) s := rfl
theorem qaa2 : QSeq X y Q .ret s = Q .ret s := rfl
theorem qaa1 {id : Nat} : qakd id Q .normal s = Q .normal s := rfl
theorem qaac {id : Nat} : qakd id Q .ret s = Q .ret s := rfl
theorem qaa7 {id i : Nat} : qakd id Q (.exit i) s = if i = id then Q .normal s else Q (.exit i) s := rfl
theorem qabi {I : SSt → Nat → Prop} {n i : Nat} : qbk0 X I n Q (.exit i) s = Q (.exit i) s := rfl
theorem qaaj {I : SSt → Nat → Prop} {n : Nat} : qbk0 X I n Q .ret s = Q .ret s := rfl
theorem qabo {a b : Int} (h1 : -9223372036854775808 ≤ a + b) (h2 : a + b ≤ 9223372036854775807) : IntKind.i64.wrap (a + b) = a + b := IntWalk.i64_in _ ⟨h1, h2⟩
theorem qabk (x : SV) : Co x x ↔ True := ⟨fun _ => trivial, fun _ => Co.refl x⟩
theorem qabw {k : IntKind} {a b : Int} (h : a = b) : Co (.int k a) (.int k b) := by rw [h]; exact Co.refl _
theorem qabz {i n m : Nat} (h : n = m) : Co (.own i n) (.own i m) := by rw [h]; exact Co.refl _
theorem qabj {z : Nat} {xs ys : List (List SV)} (h : xs = ys) : Co (.view z xs) (.view z ys) := by rw [h]; exact Co.refl _
theorem qaa9 (z : Nat) : Co .nilsl (.view z []) ↔ True := ⟨fun _ => trivial, fun _ => Co.nilsl z⟩
theorem qabx {xs ys : List SV} (h : CoL xs ys) : Co (.agg xs) (.agg ys) := Co.agg h
theorem qab1 {xs ys : List SV} (h : CoL xs ys) : Co (.tup xs) (.tup ys) := Co.tup h
theorem qaax (xs : List (List SV)) : CoLL xs xs ↔ True := ⟨fun _ => trivial, fun _ => CoLL.refl xs⟩
theorem qasd {n : Int} (h : 0 ≤ n) (h2 : n < 18446744073709551616) : IntKind.u64.wrap n = n := by
 simp [IntKind.wrap, IntKind.bits, IntKind.signed]; omega
theorem qab3 {I : SSt → Nat → Prop} {n m : Nat} {s' : SSt} (hw : Wk X s s') (hi : I s' m) (hn : m < n) : qbk0 X I n Q .normal s := ⟨s', m, hw, hi, hn⟩
theorem qabu {rs : List ResultVar} {m : Nat} {r : SV} {h2 : Hp} {s' : SSt} (hw : Wk X s s') (hr : qafc X.P s' rs = some r) (hh : SubH s'.hp h2) (hn : s'.nx ≤ m + 8) : QFun X rs m r h2 .ret s := ⟨s', hw, hr, hh, hn⟩
theorem qabh {α : Type} {h : Decidable True} (o : Option α) : @rg α True h o = o := rg_pos trivial o
variable {P : Program} {dst : Option Nat} {op : SOp} {b : Nat} {os : List SOper} {tr : List Tch} {R : SSt → List Tch → Prop}
theorem qaa6 : SOps P [] s tr R = R s tr := rfl
def qbir (P : Program) (r : Option (SV × Upd × Nat)) (dst : Option Nat) (t : List Nat) (os : List SOper) (s : SSt) (tr : List Tch) (R : SSt → List Tch → Prop) : Prop := match r with
 | some (v, u, _) => SOps P os ⟨putd s.sl dst v, upds s.hp u, s.nx + 1⟩ (⟨t, u.map (·.1)⟩ :: tr) R
 | none => False
theorem qaa5 : SOps P (⟨dst, op, none, none, b⟩ :: os) s tr R = qbir P (op.run (·.ev s.sl) (geth s.hp) s.nx) dst (op.touch (·.ev s.sl)) os s tr R := rfl
theorem qaak {v : SV} {u : Upd} {n : Nat} {t : List Nat} : qbir P (some (v, u, n)) dst t os s tr R = SOps P os ⟨putd s.sl dst v, upds s.hp u, s.nx + 1⟩ (⟨t, u.map (·.1)⟩ :: tr) R := rfl
def qbis (P : Program) (f : SV) (args : List SV) (dst : Option Nat) (os : List SOper) (s : SSt) (tr : List Tch) (R : SSt → List Tch → Prop) : Prop := match f with
 | .fn (.func g) first cap => ∃ h1 r h2 rd n, SCalls P g (first ++ args ++ cap) h1 s.nx r h2 n ∧ SubH s.hp h1 ∧ Uniq h2 ∧ (∀ id ∈ rd, geth h2 id = geth h1 id) ∧
   SOps P os ⟨putd s.sl dst r, qabr s.hp h1 h2, s.nx + n⟩ (⟨rd, (idsH h1 ++ idsH h2).filter fun i => !rd.contains i⟩ :: tr) R
 | .fn (.method nm) [] [] => match args with
  | .ifc t x :: az => ∃ hm x' g h1 r h2 rd n, SubH s.hp hm ∧ Meth P (geth hm) t x nm g x' ∧ SCalls P g (x' :: az) h1 s.nx r h2 n ∧ SubH s.hp h1 ∧ Uniq h2 ∧ (∀ id ∈ rd, geth h2 id = geth h1 id) ∧
    SOps P os ⟨putd s.sl dst r, qabr s.hp h1 h2, s.nx + n⟩ (⟨idsH hm ++ rd, (idsH h1 ++ idsH h2).filter fun i => !rd.contains i⟩ :: tr) R
  | _ => False
 | _ => False
theorem qaas {f : SX} {args : List SX} : SOps P (⟨dst, op, some (f, args), none, b⟩ :: os) s tr R = qbis P (f.ev s.sl) (args.map (·.ev s.sl)) dst os s tr R := by
 simp only [SOps, SOp1, qbis];all_goals generalize f.ev s.sl = v
 all_goals cases v
 all_goals (first | rfl | (rename_i f' _ _; cases f' <;> rfl))
theorem qadx {t : TypeId} {x x' : SV} {nm : String} {g : FuncId} {az : List SV} {h1 h2 : Hp} {r : SV} {n : Nat} (hm : Hp) (hsm : SubH s.hp hm) (hM : Meth P (geth hm) t x nm g x') (h : SCalls P g (x' :: az) h1 s.nx r h2 n) (hs : SubH s.hp h1) (hu : Uniq h2) (rd : List Nat) (hr : ∀ id ∈ rd, geth h2 id = geth h1 id)
  (hn : SOps P os ⟨putd s.sl dst r, qabr s.hp h1 h2, s.nx + n⟩ (⟨idsH hm ++ rd, (idsH h1 ++ idsH h2).filter fun i => !rd.contains i⟩ :: tr) R) : qbis P (.fn (.method nm) [] []) (.ifc t x :: az) dst os s tr R := ⟨hm, x', g, h1, r, h2, rd, n, hsm, hM, h, hs, hu, hr, hn⟩
theorem qafg {g : FuncId} {first cap args : List SV} {h1 h2 : Hp} {r : SV} {n : Nat} (h : SCalls P g (first ++ args ++ cap) h1 s.nx r h2 n) (hs : SubH s.hp h1) (hu : Uniq h2) (rd : List Nat) (hr : ∀ id ∈ rd, geth h2 id = geth h1 id)
  (hn : SOps P os ⟨putd s.sl dst r, qabr s.hp h1 h2, s.nx + n⟩ (⟨rd, (idsH h1 ++ idsH h2).filter fun i => !rd.contains i⟩ :: tr) R) : qbis P (.fn (.func g) first cap) args dst os s tr R := ⟨h1, r, h2, rd, n, h, hs, hu, hr, hn⟩
theorem qabe {g : FuncId} {args : List SV} {r : SV} (h : SCalls P g args [] s.nx r []) (hn : SOps P os ⟨putd s.sl dst r, s.hp, s.nx + 8⟩ (⟨[], []⟩ :: tr) R) : qbis P (.fn (.func g) [] []) args dst os s tr R :=
 ⟨[], r, [], [], 8, by simpa using h, trivial, trivial, by simp, hn⟩
def qam3 (P : Program) (v : SV) (want : Bool) (o : SOper) (os : List SOper) (s : SSt) (tr : List Tch) (R : SSt → List Tch → Prop) : Prop := match v with
 | .bool b => (b = want → SOps P (⟨o.dst, o.op, o.cal, none, o.bef⟩ :: os) s tr R) ∧ (b ≠ want → SOps P os (s.skip o) (⟨[], []⟩ :: tr) R)
 | .tup [] => SOps P os (s.skip o) (⟨[], []⟩ :: tr) R
 | _ => False
theorem qaal {c : Option (SX × List SX)} {t : Nat} {want : Bool} : SOps P (⟨dst, op, c, some (t, want), b⟩ :: os) s tr R = qam3 P (gets s.sl t) want ⟨dst, op, c, some (t, want), b⟩ os s tr R := by
 cases c with
 | none => (simp only [SOps, qam3, SOp1]; all_goals rfl)
 | some fa => (simp only [SOps, qam3, SOp1]; all_goals rfl)
theorem qaar {want : Bool} {c : Option (SX × List SX)} {g : Option (Nat × Bool)} : qam3 P (.bool want) want ⟨dst, op, c, g, b⟩ os s tr R = SOps P (⟨dst, op, c, none, b⟩ :: os) s tr R := by simp [qam3]
theorem qay3 {want w' : Bool} {o : SOper} (h : (w' == want) = false) : qam3 P (.bool w') want o os s tr R = SOps P os (s.skip o) (⟨[], []⟩ :: tr) R := by
 have : w' ≠ want := by simpa using h
 simp [qam3, this]
theorem qaa3 {o : SOper} : qam3 P (.bool true) false o os s tr R = SOps P os (s.skip o) (⟨[], []⟩ :: tr) R := qay3 rfl
theorem qaa4 {o : SOper} : qam3 P (.bool false) true o os s tr R = SOps P os (s.skip o) (⟨[], []⟩ :: tr) R := qay3 rfl
theorem qaae {want : Bool} {o : SOper} : qam3 P (.tup []) want o os s tr R = SOps P os (s.skip o) (⟨[], []⟩ :: tr) R := rfl
def FrzOk (hp : Hp) : List Nat → Prop
 | [] => True
 | i :: D => (match geth hp i with | some o => qbqg o | none => True) ∧ FrzOk hp D
theorem FrzOk.get {hp : Hp} : ∀ {D : List Nat}, FrzOk hp D → ∀ id o, D.contains id = true → geth hp id = some o → qbqg o
 | [], _, id, o, h, _ => by simp at h
 | i :: D, h, id, o, hc, ho => by
  by_cases e : id = i
  ·subst e; have := h.1; rw [ho] at this; exact this
  ·refine FrzOk.get h.2 id o ?_ ho;simpa [e] using hc
theorem wk_fz (D : List Nat) (E : List (Nat × Nat)) {s' : SSt} {m : Nat} (hm : X.m = m) (hD : (D.all fun i => decide (m ≤ i)) = true) (hf : FrzOk s.hp D) (hok : qabc m s'.nx E s'.hp = true) (hle : m ≤ s'.nx)
  (hsl : SlotsM (rn E s.nx) (frzS (geth s.hp) D s.sl) s'.sl) (hhp : ObjsM (rn E s.nx) (frzH (geth s.hp) D s.hp) s'.hp) : Wk X s s' :=
 (qbk4 D hf.get).trans (qabl (s := s.frz D) E hm hok hle hsl hhp)
theorem qaav (k : IntKind) (n : Int) : qap6 (.int k n) ↔ True := ⟨fun _ => trivial, fun _ => qafp k n⟩
theorem qaan (b : Bool) : qap6 (.bool b) ↔ True := ⟨fun _ => trivial, fun _ => qasq b⟩
theorem qaat (b : ByteArray) : qap6 (.str b) ↔ True := ⟨fun _ => trivial, fun _ => qaz3 b⟩
theorem qaau : qap6 .nil ↔ True := ⟨fun _ => trivial, fun _ => qaz4⟩
theorem qaaf : qap6 .nilsl ↔ True := ⟨fun _ => trivial, fun _ => qanj⟩
theorem qaam (z : Nat) (es : List (List SV)) : qap6 (.view z es) ↔ True := ⟨fun _ => trivial, fun _ => qahg z es⟩
theorem qaa8 (cs : List SV) : qap6 (.cp cs) ↔ True := ⟨fun _ => trivial, fun _ => qbjb cs⟩
theorem qaao : qamy [] ↔ True := ⟨fun _ => trivial, fun _ => qbal⟩
theorem qaah (x : SV) (xs : List SV) : qamy (x :: xs) ↔ qap6 x ∧ qamy xs := ⟨fun h => ⟨h x (by simp), fun y hy => h y (by simp [hy])⟩, fun h => qaz6 h.1 h.2⟩
theorem qaaw (e z : Nat) (es : List (List SV)) : qbqg (.row e z es) ↔ ∀ x ∈ es, qamy x := Iff.rfl
theorem qaag (t : TypeId) (cs : List SV) : qbqg (.cells t cs) ↔ qamy cs := Iff.rfl
theorem qaad {α : Type} (f : α → List SV) (xs : List α) : (xs.map f).take xs.length = xs.map f := List.take_of_length_le (by simp)
end
section
variable {P : Program} {s : SSt} {os : List SOper} {o : SOper} {tr : List Tch} {R : SSt → List Tch → Prop}
theorem qacn {b want : Bool} (h1 : b = true → qam3 P (.bool true) want o os s tr R) (h2 : b = false → qam3 P (.bool false) want o os s tr R) : qam3 P (.bool b) want o os s tr R := by
 cases b
 ·exact h2 rfl
 ·exact h1 rfl
theorem call_h {dst : Option Nat} {g : FuncId} {args : List SV} {h1 h2 : Hp} {r : SV} (h : SCalls P g args h1 s.nx r h2) (hs : SubH s.hp h1) (hu : Uniq h2)
  (hn : SOps P os ⟨putd s.sl dst r, qabr s.hp h1 h2, s.nx + 8⟩ (⟨[], (idsH h1 ++ idsH h2).filter fun i => ![].contains i⟩ :: tr) R) : qbis P (.fn (.func g) [] []) args dst os s tr R :=
 qafg (by simpa using h) hs hu [] (by simp) hn
theorem call_r {dst : Option Nat} {g : FuncId} {args : List SV} {h1 : Hp} {r : SV} (h : SCalls P g args h1 s.nx r h1) (hs : SubH s.hp h1) (hu : Uniq h1)
  (hn : SOps P os ⟨putd s.sl dst r, qabr s.hp h1 h1, s.nx + 8⟩ (⟨idsH h1, (idsH h1 ++ idsH h1).filter fun i => !(idsH h1).contains i⟩ :: tr) R) : qbis P (.fn (.func g) [] []) args dst os s tr R :=
 qafg (by simpa using h) hs hu (idsH h1) (fun _ _ => rfl) hn
theorem qabg {X : Cx} {Q : SExit → SSt → Prop} {id : Nat} {a b : SCode} (h : SWp X (.seq a b) (qakd id Q) s) : SWp X (.block id (.seq a b)) Q s := qabf h
theorem qam5 {X : Cx} {Q : SExit → SSt → Prop} {id : Nat} {d : Bool} {l : List SOper} {k : List Nat} (h : SWp X (.reg d l k) (qakd id Q) s) : SWp X (.block id (.reg d l k)) Q s := qabf h
theorem qakm {X : Cx} {Q : SExit → SSt → Prop} {c : SCode} (D : List Nat) (hf : FrzOk s.hp D) (h : SWp X c Q ⟨frzS (geth s.hp) D s.sl, frzH (geth s.hp) D s.hp, s.nx⟩) : SWp X c Q s := qad8 (qbk4 D hf.get) h
theorem qafm {c : Prop} {hd : Decidable c} {r : Option (SV × Upd × Nat)} {dst : Option Nat} {t : List Nat} (h : c) (hn : qbir P r dst t os s tr R) : qbir P (@rg _ c hd r) dst t os s tr R := by
 rw [rg_pos h]; exact hn
theorem qadv {l : List (SOper × Tch)} {p : Prop} (h : qakj l = true) (hp : p) : qakj l = true ∧ p := ⟨h, hp⟩
end
section
variable {X : Cx} {s : SSt}
theorem qalx {t : TypeId} {cs : List SV} (id j e size : Nat) (h : geth s.hp id = some (.cells t cs)) (hj : cs[j]? = some .nilsl) : Wk X s ⟨s.sl, puth (puth s.hp s.nx (.row e size [])) id (.cells t (cs.set j (.own s.nx 0))), s.nx + 1⟩ := by
 intro ρ fp a w hs;obtain ⟨ρ', fp', h1, h2, h3, h4⟩ := hs.sim.h.add (w' := w) hs.le (hs.fresh _ (Nat.le_refl _)) (.row e size []) none (fun _ => False) (Below.refl _ _) (fun _ h => h.elim) fun A' ρ' hp' hpl => ⟨.slice none 0 0, [], RowP.nil _ _ _, ⟨Reps.nil, fun v hv => by cases hv⟩, (fun x hx => by cases hx), hpl, fun k => by simp [Value.ownBlock]⟩
 have hne : id ≠ s.nx := fun e => by
  have := (hs.sim.h.objs id _ h).place;rw [e] at this;exact this (hs.fresh _ (Nat.le_refl _))
 have hg : geth (puth s.hp s.nx (.row e size [])) id = some (.cells t cs) := by rw [qacx, if_neg hne]; exact h
 have hlive : ∀ k, Live (puth (puth s.hp s.nx (.row e size [])) id (.cells t (cs.set j (.own s.nx 0)))) fp' k → Live (puth s.hp s.nx (.row e size [])) fp' k := by
  rintro k ⟨i, o, ho, hk⟩;rw [qacx] at ho;split at ho
  ·rename_i e; subst e; exact ⟨i, _, hg, hk⟩
  ·exact ⟨i, o, ho, hk⟩
 have hobj : ∀ i o, geth (puth (puth s.hp s.nx (.row e size [])) id (.cells t (cs.set j (.own s.nx 0)))) i = some o → ∃ o', geth (puth s.hp s.nx (.row e size [])) i = some o' := by
  intro i o ho;rw [qacx] at ho;split at ho
  ·rename_i e; subst e; exact ⟨_, hg⟩
  ·exact ⟨o, ho⟩
 refine ⟨ρ', fp', ⟨⟨fun i o ho => ?_, fun i i' o o' hne' ho ho' => ?_, fun i o ho => ?_, h1.step, h1.keep⟩, hs.sim.tmps, hs.sim.defers, fun u => ?_⟩, fun i hi => ?_, by have := hs.le; simp only; omega⟩
 ·rw [qacx] at ho;split at ho
  ·rename_i e; subst e
   cases ho
   obtain ⟨b, c, vs, p1, p2, ⟨p3, p4⟩, p5⟩ := h1.objs i _ hg;refine ⟨b, c, vs, p1, p2, ⟨⟨by rw [List.length_set]; exact p3.1, fun m x v hx hv => ?_⟩, p4⟩, p5⟩;rw [List.getElem?_set] at hx;split at hx
   ·rename_i ejm; subst ejm
    split at hx
    ·cases hx
     have := p3.2 j _ v hj hv;cases this
     exact .own0 h3
    ·cases hx
   ·exact (p3.2 m x v hx hv).weaken fun k hk _ => hk.imp (fun h => h) (hlive k)
  ·exact (h1.objs i o ho).weaken fun k hk _ => hk.imp (fun h => h) (hlive k)
 ·obtain ⟨x, hx⟩ := hobj i o ho;obtain ⟨y, hy⟩ := hobj i' o' ho';exact h1.disj i i' x y hne' hx hy
 ·obtain ⟨x, hx⟩ := hobj i o ho;exact h1.turn i x hx
 ·exact (h2.rep (hs.sim.slots u)).weaken fun k hk _ => hk.imp (fun h => h) (hlive k)
 ·cases e : ρ' i with
  | none => rfl
  | some p =>
   simp only at hi;rcases h4 i (by rw [e]; simp) with h5 | h5
   ·exact absurd (hs.fresh i (by omega)) h5
   ·omega
structure Stop (p : Prop) : Prop where
 out : p
theorem qadg {Q : SExit → SSt → Prop} {c : SCode} (h : Stop (SWp X c Q s)) : SWp X c Q s := h.out
end
section
class PureF {α : Type} (f : α → List SV) : Prop where
 ren : ∀ σ x, (f x).map (Go.Proofs.YtalejfkholifpaaGreat.ren σ) = f x
 ok : ∀ x, (f x).all ok2 = true
 pure : ∀ x, qamy (f x)
theorem qab9 {α : Type} (f : α → List SV) [PureF f] (σ : Nat → Nat) (xs : List α) : (xs.map f).map (·.map (ren σ)) = xs.map f := by
 rw [List.map_map]; exact List.map_congr_left fun x _ => PureF.ren σ x
theorem qaks {α : Type} (f : α → List SV) [PureF f] (xs : List α) : ∀ x ∈ xs.map f, x.all ok2 = true := fun x hx => by obtain ⟨b, _, rfl⟩ := List.mem_map.1 hx; exact PureF.ok b
theorem qahe {α : Type} (f : α → List SV) [PureF f] (xs : List α) : ∀ x ∈ xs.map f, qamy x := fun x hx => by obtain ⟨b, _, rfl⟩ := List.mem_map.1 hx; exact PureF.pure b
theorem qab4 (cs : List SV) (h : cs.all (fun x => match x with | .int _ _ | .bool _ | .str _ | .nil | .nilsl | .view _ _ | .cp _ => true | _ => false) = true) : qamy cs := fun x hx => by
 have := List.all_eq_true.1 h x hx;cases x <;> first | exact qafp _ _ | exact qasq _ | exact qaz3 _ | exact qaz4 | exact qanj | exact qahg _ _ | exact qbjb _ | simp at this
instance pureF_int (k : IntKind) : PureF (fun n : Int => [SV.int k n]) := ⟨fun _ _ => rfl, fun _ => rfl, fun _ => qab4 _ rfl⟩
instance pureF_bool : PureF (fun b : Bool => [SV.bool b]) := ⟨fun _ _ => rfl, fun _ => rfl, fun _ => qab4 _ rfl⟩
class PureR (fs : List (List SV)) : Prop where
 ren : ∀ σ, fs.map (·.map (Go.Proofs.YtalejfkholifpaaGreat.ren σ)) = fs
 ok : ∀ x ∈ fs, x.all ok2 = true
 pure : ∀ x ∈ fs, qamy x
instance pureR_map {α : Type} (f : α → List SV) [PureF f] (xs : List α) : PureR (xs.map f) := ⟨fun σ => qab9 f σ xs, qaks f xs, qahe f xs⟩
theorem qasr (e z : Nat) (fs : List (List SV)) [PureR fs] : qbqg (.row e z fs) ↔ True := ⟨fun _ => trivial, fun _ => PureR.pure⟩
def setS : Sl → Nat → SV → Sl
 | [], t, v => [(t, v)]
 | (u, x) :: l, t, v => if u = t then (t, v) :: l else (u, x) :: setS l t v
def qbqa : Sl → List (Nat × SV) → Sl
 | l, [] => l
 | l, (t, v) :: r => qbqa (setS l t v) r
def qbqb : Hp → List (Nat × SObj) → Hp
 | h, [] => h
 | h, (i, o) :: r => qbqb (puth h i o) r
def SSt.turn (s : SSt) (sl : List (Nat × SV)) (hp : List (Nat × SObj)) : SSt := ⟨qbqa s.sl sl, qbqb s.hp hp, s.nx⟩
variable {X : Cx} {s s' : SSt} {Q : SExit → SSt → Prop} {σ : Nat → Nat} {sl : Sl} {hp : Hp}
theorem qaep : SlotsM σ sl [] := trivial
theorem qafr : ObjsM σ hp [] := trivial
theorem qakw {i : Nat} {t : TypeId} {cs ds : List SV} {r : Hp} (h : geth hp (σ i) = some (.cells t cs)) (h2 : CoL cs (ds.map (ren σ))) (g : ObjsM σ hp r) : ObjsM σ hp ((i, .cells t ds) :: r) := ⟨⟨_, h, rfl, h2⟩, g⟩
theorem qbat {i e z : Nat} {es fs : List (List SV)} {r : Hp} (h : geth hp (σ i) = some (.row e z es)) (h2 : fs.map (·.map (ren σ)) = fs) (h3 : es = fs) (g : ObjsM σ hp r) : ObjsM σ hp ((i, .row e z fs) :: r) := ⟨⟨_, h, rfl, rfl, by rw [h2, h3]; exact CoLL.refl _⟩, g⟩
theorem qajt {i e z : Nat} {es fs : List (List SV)} [PureR fs] {r : Hp} (h : geth hp (σ i) = some (.row e z es)) (h3 : es = fs) (g : ObjsM σ hp r) : ObjsM σ hp ((i, .row e z fs) :: r) := qbat h (PureR.ren σ) h3 g
theorem qa0g {i e z : Nat} {es fs : List (List SV)} {r : Hp} (h : geth hp (σ i) = some (.row e z es)) (h3 : CoLL es (fs.map (·.map (ren σ)))) (g : ObjsM σ hp r) : ObjsM σ hp ((i, .row e z fs) :: r) := ⟨⟨_, h, rfl, rfl, h3⟩, g⟩
theorem qamc {i : Nat} {I : AbsI} {r : Hp} (h : geth hp (σ i) = some (.abs I)) (g : ObjsM σ hp r) : ObjsM σ hp ((i, .abs I) :: r) := ⟨⟨_, h, rfl⟩, g⟩
theorem qblc : SubH hp [] := trivial
theorem qa95 {i : Nat} {o : SObj} {r : Hp} (h : geth hp i = some o) (g : SubH hp r) : SubH hp ((i, o) :: r) := ⟨h, g⟩
theorem qbne {f : SV → SV} : CoL [] (List.map f []) := trivial
theorem co_wrap {a b c : Int} (h1 : -9223372036854775808 ≤ a + b ∧ a + b ≤ 9223372036854775807) (h : a + b = c) : Co (.int .i64 (IntKind.i64.wrap (a + b))) (.int .i64 c) := qabw (by rw [qabo h1.1 h1.2, h])
def diag (m : Nat) (E : List (Nat × Nat)) (hp : Hp) : List (Nat × Nat) := ((List.range m ++ (idsH hp).filter fun i => decide (m ≤ i)).filter fun i => !(E.any fun p => p.1 == i)).map fun i => (i, i)
theorem qabd (E : List (Nat × Nat)) {m : Nat} (hm : X.m = m) (hsl : SlotsM (rn (E ++ diag m E s'.hp) s.nx) s.sl s'.sl) (hhp : ObjsM (rn (E ++ diag m E s'.hp) s.nx) s.hp s'.hp) (hok : qabc m s'.nx (E ++ diag m E s'.hp) s'.hp = true) (hle : m ≤ s'.nx) : Wk X s s' := qabl _ hm hok hle hsl hhp
theorem qaco {α : Type} {c : SCode} (F : SSt → α → SSt) (I : α → Prop) (μ : α → Nat) (a : α) (hw : Wk X s (F s a)) (h0 : I a) (h : ∀ J : SSt → Nat → Prop, RowKit.Hid (∀ a, I a → J (F s a) (μ a)) → ∀ a, I a → SWp X c (qbk0 X J (μ a) Q) (F s a)) : SWp X (.loop c) Q s :=
 qadm (fun s' n => ∃ a, s' = F s a ∧ I a ∧ n = μ a) hw ⟨a, rfl, h0, rfl⟩ fun s' n ⟨a, e, hi, hn⟩ => by subst e hn; exact h _ (Lib.hid fun a hi => ⟨a, rfl, hi, rfl⟩) a hi
theorem qabs {α : Type} {F : α → SSt} {I : α → Prop} {μ : α → Nat} {n : Nat} {J : SSt → Nat → Prop} (hJ : RowKit.Hid (∀ a, I a → J (F a) (μ a))) (a : α) (hw : Wk X s' (F a)) (h0 : I a) (hn : μ a < n) : qbk0 X J n Q .normal s' := ⟨F a, μ a, hw, (by have h : ∀ a, I a → J (F a) (μ a) := hJ; exact h a h0), hn⟩
theorem qag1 {P : Program} {f : FuncId} {z q : Nat} {r : SV} {h2 : Hp} (h : SCalls P f [.nilsl] [] q r h2) (g : SCalls P f [.mt] [] q r h2) : SCalls P f [.view z []] [] q r h2 := by
 refine ⟨h.1, fun O ρ fp w vs hok hargs hfr => ?_⟩;obtain ⟨v, us, rfl, hv, hu⟩ := Reps.cons_inv hargs;obtain rfl := hu.nil_inv;cases hv with
 | view0 hc ha =>
  rename_i a c;cases a with
  | none => have := ha rfl; subst this; exact h.2 O ρ fp w _ hok (Reps.cons .nilsl Reps.nil) hfr
  | some a => exact g.2 O ρ fp w _ hok (Reps.cons (.mt hc) Reps.nil) hfr
 | view cv hn hc hm hA hb hs h1 h2 ho =>
  cases hn
  exact g.2 O ρ fp w _ hok (Reps.cons (.mt hm) Reps.nil) hfr
def NoN (x : SV) : Prop := ∀ σ, Go.Proofs.YtalejfkholifpaaGreat.ren σ x = x
theorem wk_fin {t m : Nat} {v : SV} {nx : Nat} (hm : X.m = m) (hv : NoN v) (h0 : m = 0) : Wk X ⟨(t, v) :: sl, hp, nx⟩ ⟨[(t, v)], [], 0⟩ := by
 subst h0;refine qabd [] hm ⟨?_, trivial⟩ trivial rfl (Nat.le_refl _);rw [hv]; simp only [gets, if_true]; exact Co.refl _
theorem qa1b {t nx : Nat} {v r : SV} (hm : X.m = 0) (h : v = r) (hv : NoN r) : QFun X [.tmp t] 0 r [] .ret ⟨(t, v) :: sl, hp, nx⟩ := by
 subst h;exact ⟨_, wk_fin hm hv rfl, by simp [qafc, resL, resV, one_, gets], trivial, by simp⟩
theorem qa1a {t nx : Nat} {v r : SV} (hm : X.m = 0) (h : v = r) (hv : NoN r) : QFun X [.tmp t] 0 r [] .normal ⟨(t, v) :: sl, hp, nx⟩ := qa1b hm h hv
theorem qare {t nx id n : Nat} {ty : TypeId} {cs ds : List SV} {r : SV} (hm : X.m = 0) (h : geth hp id = some (.cells ty cs)) (ha : qag8 X.P ty = some true) (hn : qab8 X.P ty = some n) (hl : ds.length = n) (e : CoL cs ds) (hr : r = .agg ds) (hd : ∀ σ, ds.map (Go.Proofs.YtalejfkholifpaaGreat.ren σ) = ds) : QFun X [.cell t ty] 0 r [] .ret ⟨(t, .ptr id 0) :: sl, hp, nx⟩ := by
 subst hr hl;have hw : Wk X ⟨(t, .ptr id 0) :: sl, hp, nx⟩ ⟨[(t, .ptr 0 0)], [(0, .cells ty ds)], 1⟩ := by
  refine qabd [(0, id)] hm ⟨?_, trivial⟩ ⟨⟨_, h, rfl, by rw [hd]; exact e⟩, trivial⟩ rfl (by simp);simp only [gets, if_true]; exact Co.refl _
 refine ⟨_, hw, ?_, trivial, by simp⟩;simp [qafc, resL, resV, one_, gets, ha, hn, SOp.run, SX.ev, geth]
theorem qbjg (k : IntKind) (n : Int) : NoN (.int k n) := fun _ => rfl
theorem qaju (b : Bool) : NoN (.bool b) := fun _ => rfl
theorem qaqy (z : Nat) (es : List (List SV)) : NoN (.view z es) := fun _ => rfl
theorem wk_gets {sl' : Sl} {nx : Nat} (h : ∀ t, gets sl t = gets sl' t) : Wk X ⟨sl, hp, nx⟩ ⟨sl', hp, nx⟩ := fun ρ fp a w hs => ⟨ρ, fp, ⟨hs.sim.h, hs.sim.tmps, hs.sim.defers, fun t => by have := hs.sim.slots t; rw [show gets sl t = gets sl' t from h t] at this; exact this⟩, hs.fresh, hs.le⟩
theorem qamk : ∀ (l : Sl) (t : Nat) (v : SV) (u : Nat), gets (setS l t v) u = if u = t then v else gets l u
 | [], t, v, u => by simp only [setS, gets, eq_comm]
 | (i, x) :: l, t, v, u => by
  simp only [setS];by_cases h : i = t
  ·subst h;rw [if_pos rfl];simp only [gets];by_cases h2 : i = u
   ·subst h2; simp
   ·rw [if_neg h2, if_neg (fun e => h2 e.symm), if_neg h2]
  ·rw [if_neg h];simp only [gets];by_cases h2 : i = u
   ·subst h2; rw [if_pos rfl, if_neg h, if_pos rfl]
   ·rw [if_neg h2, if_neg h2]; exact qamk l t v u
theorem qaly (t e size : Nat) (h : gets s.sl t = .nilsl) : Wk X s ⟨setS s.sl t (.own s.nx 0), puth s.hp s.nx (.row e size []), s.nx + 1⟩ :=
 (qayp t e size h).trans (wk_gets fun u => by rw [qai0, qamk])
theorem zA {a b : SCode} (h : SWp X a (QSeq X b Q) s) : SWp X (.seq a b) Q s := qabb h
theorem zK {l : List (SOper × Tch)} {p : Prop} (hp : p) (h : qakj l = true := by with_unfolding_all rfl) : qakj l = true ∧ p := ⟨h, hp⟩
theorem zM {t nx : Nat} {k : IntKind} {a b : Int} (hm : X.m = 0) (h : a = b) : QFun X [.tmp t] 0 (.int k b) [] .ret ⟨(t, .int k a) :: sl, hp, nx⟩ := qa1b hm (congrArg _ h) (qbjg _ _)
theorem zN {t nx : Nat} {a b : Bool} (hm : X.m = 0) (h : a = b) : QFun X [.tmp t] 0 (.bool b) [] .ret ⟨(t, .bool a) :: sl, hp, nx⟩ := qa1b hm (congrArg _ h) (qaju _)
theorem zO {t nx : Nat} {k : IntKind} {a b : Int} (hm : X.m = 0) (h : a = b) : QFun X [.tmp t] 0 (.int k b) [] .normal ⟨(t, .int k a) :: sl, hp, nx⟩ := qa1a hm (congrArg _ h) (qbjg _ _)
theorem zP {t nx : Nat} {a b : Bool} (hm : X.m = 0) (h : a = b) : QFun X [.tmp t] 0 (.bool b) [] .normal ⟨(t, .bool a) :: sl, hp, nx⟩ := qa1a hm (congrArg _ h) (qaju _)
theorem za {t : Nat} {v : SV} {r : Sl} (h : Co (gets sl t) (ren σ v)) (g : SlotsM σ sl r) : SlotsM σ sl ((t, v) :: r) := ⟨h, g⟩
theorem zb {i : Nat} {t : TypeId} (cs : List SV) {ds : List SV} {r : Hp} (h : geth hp (σ i) = some (.cells t cs)) (h2 : CoL cs (ds.map (ren σ))) (g : ObjsM σ hp r) : ObjsM σ hp ((i, .cells t ds) :: r) := qakw h h2 g
theorem zc {i e z : Nat} (es : List (List SV)) {fs : List (List SV)} [PureR fs] {r : Hp} (h : geth hp (σ i) = some (.row e z es)) (h3 : es = fs) (g : ObjsM σ hp r) : ObjsM σ hp ((i, .row e z fs) :: r) := qajt h h3 g
theorem zga {h : Hp} {i : Nat} {o : SObj} (e : geth h i = some o) : geth h i = some o := e
theorem zgb {m n : Nat} {l : List (Nat × Nat)} {h : Hp} (e : qabc m n l h = true) : qabc m n l h = true := e
theorem zgc {a b : List (List SV)} (e : a = b) : a = b := e
theorem zgd {a b : Nat} (e : a ≤ b) : a ≤ b := e
theorem zge {a b : Nat} (e : a < b) : a < b := e
theorem zT : (∀ (s : SSt) (l : List (Nat × SV)) (h : List (Nat × SObj)), s.turn l h = ⟨qbqa s.sl l, qbqb s.hp h, s.nx⟩) ∧ (∀ l, qbqa l [] = l) ∧ (∀ l t v r, qbqa l ((t, v) :: r) = qbqa (setS l t v) r) ∧ (∀ t v, setS [] t v = [(t, v)]) ∧ (∀ u x l t v, setS ((u, x) :: l) t v = if u = t then (t, v) :: l else (u, x) :: setS l t v) ∧ (∀ h, qbqb h [] = h) ∧ (∀ h i o r, qbqb h ((i, o) :: r) = qbqb (puth h i o) r) :=
 ⟨fun _ _ _ => rfl, fun l => by cases l <;> rfl, fun l t v r => by cases l <;> rfl, fun _ _ => rfl, fun _ _ _ _ _ => rfl, fun h => by cases h <;> rfl, fun h _ _ _ => by cases h <;> rfl⟩
end
section
theorem yF {P : Program} {f : FuncId} {fn : Func} {N m : Nat} {args : List SV} {h1 h2 : Hp} {r : SV} (hf : P.funcs[f]? = some fn) (c : SCode)
  (h : ∀ X : Cx, X.P = P → X.N = N → X.m = m → SWp X c (QFun X fn.results.toList m r h2) ⟨argS 0 args, h1, m⟩)
  (hb : fn.body = some (fn.body.getD .skip) := by rfl) (hN : fn.ntmps = N := by rfl) (hname : (fn.name == "runtime.NumGoroutine") = false := by kernel_rfl) (hc : comp P N (fn.body.getD .skip) = some c.erase := by kernel_rfl) (hal : args.length ≤ N := by simp)
  (hla : LtL m args := by repeat' (first | exact trivial | refine And.intro ?_ ?_ | rfl | decide | exact PureR.ren _)) (hlh : LtH m h1 := by repeat' (first | exact trivial | refine And.intro ?_ ?_ | rfl | decide | exact PureR.ren _)) : SCalls P f args h1 m r h2 :=
 qasj hf hb hN hname hc hal hla hlh h
theorem yG {P : Program} {f : FuncId} {fn : Func} {N m : Nat} {args : List SV} {h1 h2 : Hp} {r : SV} (hf : P.funcs[f]? = some fn) (c : SCode) (hla : LtL m args) (hlh : LtH m h1)
  (h : ∀ X : Cx, X.P = P → X.N = N → X.m = m → SWp X c (QFun X fn.results.toList m r h2) ⟨argS 0 args, h1, m⟩)
  (hb : fn.body = some (fn.body.getD .skip) := by rfl) (hN : fn.ntmps = N := by rfl) (hname : (fn.name == "runtime.NumGoroutine") = false := by kernel_rfl) (hc : comp P N (fn.body.getD .skip) = some c.erase := by kernel_rfl) (hal : args.length ≤ N := by simp) : SCalls P f args h1 m r h2 :=
 qasj hf hb hN hname hc hal hla hlh h
theorem yQ {P : Program} {f : FuncId} {args : List SV} {r : SV} (h : SCalls P f args [] 0 r []) (q : Nat) (ha : ∀ σ, args.map (Go.Proofs.YtalejfkholifpaaGreat.ren σ) = args := by exact fun _ => rfl) (hr : ∀ σ, Go.Proofs.YtalejfkholifpaaGreat.ren σ r = r := by exact fun _ => rfl) (hk : ok2 r = true := by rfl) : SCalls P f args [] q r [] := qabt h ha hr hk q
variable {P : Program} {s : SSt} {os : List SOper} {o : SOper} {tr : List Tch} {R : SSt → List Tch → Prop}
theorem yH {dst : Option Nat} {g : FuncId} {args : List SV} {h1 h2 : Hp} {r : SV} (h : SCalls P g args h1 s.nx r h2)
  (hn : SOps P os ⟨putd s.sl dst r, qabr s.hp h1 h2, s.nx + 8⟩ (⟨[], (idsH h1 ++ idsH h2).filter fun i => ![].contains i⟩ :: tr) R) (hs : SubH s.hp h1 := by repeat' (first | exact trivial | refine And.intro ?_ ?_ | rfl)) (hu : Uniq h2 := by repeat' (first | exact trivial | refine And.intro ?_ ?_ | rfl)) : qbis P (.fn (.func g) [] []) args dst os s tr R :=
 call_h h hs hu hn
theorem yR {dst : Option Nat} {g : FuncId} {args : List SV} {h1 : Hp} {r : SV} (h : SCalls P g args h1 s.nx r h1)
  (hn : SOps P os ⟨putd s.sl dst r, qabr s.hp h1 h1, s.nx + 8⟩ (⟨idsH h1, (idsH h1 ++ idsH h1).filter fun i => !(idsH h1).contains i⟩ :: tr) R) (hs : SubH s.hp h1 := by repeat' (first | exact trivial | refine And.intro ?_ ?_ | rfl)) (hu : Uniq h1 := by repeat' (first | exact trivial | refine And.intro ?_ ?_ | rfl)) : qbis P (.fn (.func g) [] []) args dst os s tr R :=
 call_r h hs hu hn
end
def qa97 : Go.Shelf.Ren := ⟨fun | 6 => 90 | 14 => 95 | 15 => 96 | 20 => 98 | 21 => 99 | 22 => 100 | 23 => 101 | 24 => 102 | 25 => 103 | 26 => 104 | 27 => 105 | 28 => 106 | 29 => 107 | 46 => 109 | 47 => 110 | 48 => 111 | 49 => 112 | 50 => 113 | 57 => 114 | n => n, fun | 0 => 0 | 3 => 3 | 4 => 4 | 5 => 5 | 9 => 9 | 22 => 42 | 24 => 38 | 25 => 143 | 39 => 44 | 45 => 148 | 46 => 149 | 50 => 137 | 53 => 121 | 55 => 70 | 66 => 157 | 70 => 161 | 76 => 163 | 77 => 164 | n => n, fun | n => n⟩
theorem sortE : SlLaysF0.n6 Tryz.prog qa97 where
 mixed := by kernel_rfl
 f6 := ⟨"slices.SortFunc[[]shuntyard/api.Entry,shuntyard/api.Entry]", by decide, Tryz.func90.trans (congrArg some (by kernel_rfl))⟩
 f14 := ⟨"slices.pdqsortCmpFunc[shuntyard/api.Entry]", by decide, Tryz.func95.trans (congrArg some (by kernel_rfl))⟩
 f15 := Tryz.func96.trans (congrArg some (by kernel_rfl))
 f20 := ⟨"slices.insertionSortCmpFunc[shuntyard/api.Entry]", by decide, Tryz.func98.trans (congrArg some (by kernel_rfl))⟩
 f21 := ⟨"slices.heapSortCmpFunc[shuntyard/api.Entry]", by decide, Tryz.func99.trans (congrArg some (by kernel_rfl))⟩
 f22 := ⟨"slices.breakPatternsCmpFunc[shuntyard/api.Entry]", by decide, Tryz.func100.trans (congrArg some (by kernel_rfl))⟩
 f23 := ⟨"slices.choosePivotCmpFunc[shuntyard/api.Entry]", by decide, Tryz.func101.trans (congrArg some (by kernel_rfl))⟩
 f24 := ⟨"slices.reverseRangeCmpFunc[shuntyard/api.Entry]", by decide, Tryz.func102.trans (congrArg some (by kernel_rfl))⟩
 f25 := ⟨"slices.partialInsertionSortCmpFunc[shuntyard/api.Entry]", by decide, Tryz.func103.trans (congrArg some (by kernel_rfl))⟩
 f26 := ⟨"slices.partitionEqualCmpFunc[shuntyard/api.Entry]", by decide, Tryz.func104.trans (congrArg some (by kernel_rfl))⟩
 f27 := ⟨"slices.partitionCmpFunc[shuntyard/api.Entry]", by decide, Tryz.func105.trans (congrArg some (by kernel_rfl))⟩
 f28 := Tryz.func106.trans (congrArg some (by kernel_rfl))
 f29 := Tryz.func107.trans (congrArg some (by kernel_rfl))
 f46 := ⟨"slices.siftDownCmpFunc[shuntyard/api.Entry]", by decide, Tryz.func109.trans (congrArg some (by kernel_rfl))⟩
 f47 := Tryz.func110.trans (congrArg some (by kernel_rfl))
 f48 := Tryz.func111.trans (congrArg some (by kernel_rfl))
 f49 := ⟨"slices.medianAdjacentCmpFunc[shuntyard/api.Entry]", by decide, Tryz.func112.trans (congrArg some (by kernel_rfl))⟩
 f50 := ⟨"slices.medianCmpFunc[shuntyard/api.Entry]", by decide, Tryz.func113.trans (congrArg some (by kernel_rfl))⟩
 f57 := ⟨"slices.order2CmpFunc[shuntyard/api.Entry]", by decide, Tryz.func114.trans (congrArg some (by kernel_rfl))⟩
 t0 := Tryz.underlying0
 a0 := Tryz.isAgg0
 z0 := Tryz.sizeOf0
 v0 := Tryz.zeroValue0
 t3 := Tryz.underlying3
 a3 := Tryz.isAgg3
 z3 := Tryz.sizeOf3
 v3 := Tryz.zeroValue3
 t4 := Tryz.underlying4
 a4 := Tryz.isAgg4
 z4 := Tryz.sizeOf4
 v4 := Tryz.zeroValue4
 t5 := Tryz.underlying5
 a5 := Tryz.isAgg5
 z5 := Tryz.sizeOf5
 v5 := Tryz.zeroValue5
 t9 := Tryz.underlying9
 a9 := Tryz.isAgg9
 z9 := Tryz.sizeOf9
 v9 := Tryz.zeroValue9
 t22 := Tryz.underlying42
 a22 := Tryz.isAgg42
 z22 := Tryz.sizeOf42
 v22 := Tryz.zeroValue42
 t25 := Tryz.underlying143
 a25 := Tryz.isAgg143
 z25 := Tryz.sizeOf143
 v25 := Tryz.zeroValue143
 t39 := Tryz.underlying44
 a39 := Tryz.isAgg44
 z39 := Tryz.sizeOf44
 v39 := Tryz.zeroValue44
 t45 := Tryz.underlying148
 a45 := Tryz.isAgg148
 z45 := Tryz.sizeOf148
 v45 := Tryz.zeroValue148
 t46 := Tryz.underlying149
 a46 := Tryz.isAgg149
 z46 := Tryz.sizeOf149
 v46 := Tryz.zeroValue149
 t50 := Tryz.underlying137
 a50 := Tryz.isAgg137
 z50 := Tryz.sizeOf137
 v50 := Tryz.zeroValue137
 t53 := Tryz.underlying121
 a53 := Tryz.isAgg121
 z53 := Tryz.sizeOf121
 v53 := Tryz.zeroValue121
 t55 := Tryz.underlying70
 a55 := Tryz.isAgg70
 z55 := Tryz.sizeOf70
 v55 := Tryz.zeroValue70
 t66 := Tryz.underlying157
 a66 := Tryz.isAgg157
 z66 := Tryz.sizeOf157
 v66 := Tryz.zeroValue157
 t70 := Tryz.underlying161
 a70 := Tryz.isAgg161
 z70 := Tryz.sizeOf161
 v70 := Tryz.zeroValue161
 t76 := Tryz.underlying163
 a76 := Tryz.isAgg163
 z76 := Tryz.sizeOf163
 v76 := Tryz.zeroValue163
 t77 := Tryz.underlying164
 a77 := Tryz.isAgg164
 z77 := Tryz.sizeOf164
 v77 := Tryz.zeroValue164
end Go.Proofs.YtalejfkholifpaaGreat
namespace Go.Proofs.YtalejfkholifpaaGreat
def cmpI (a b : Int) : Int := if a < b then -1 else if b < a then 1 else 0
def cmpL : List Int → List Int → Int
 | [], [] => 0
 | [], _ => -1
 | _, [] => 1
 | a :: xs, b :: ys => if cmpI a b ≠ 0 then cmpI a b else cmpL xs ys
theorem qagr {a b : Int} : cmpI a b = 0 ↔ a = b := by unfold cmpI; split <;> (try split) <;> omega
theorem qamr {a b : Int} : cmpI a b < 0 ↔ a < b := by unfold cmpI; split <;> (try split) <;> omega
theorem qatd (a b : Int) : cmpI b a = - cmpI a b := by unfold cmpI; split <;> (try split) <;> omega
theorem qadd : ∀ a b : List Int, cmpL b a = - cmpL a b
 | [], [] => rfl
 | [], _ :: _ => rfl
 | _ :: _, [] => rfl
 | x :: a, y :: b => by
  have h := qatd x y;have ih := qadd a b;simp only [cmpL];split <;> split <;> omega
theorem qad6 : ∀ a b : List Int, cmpL a b = 0 ↔ a = b
 | [], [] => by simp [cmpL]
 | [], _ :: _ => by simp [cmpL]
 | _ :: _, [] => by simp [cmpL]
 | x :: a, y :: b => by
  have ih := qad6 a b;have h := @qagr x y;simp only [cmpL, List.cons.injEq];split
  ·constructor
   ·intro h0; omega
   ·intro h0; exact absurd (h.2 h0.1) ‹_›
  ·have : x = y := h.1 (by omega);simp [this, ih]
theorem qaga : ∀ a b c : List Int, cmpL a b ≤ 0 → cmpL b c ≤ 0 → cmpL a c ≤ 0
 | [], b, [], _, _ => by simp [cmpL]
 | [], b, _ :: _, _, _ => by simp [cmpL]
 | _ :: _, [], c, h, _ => by simp [cmpL] at h
 | _ :: _, _ :: _, [], _, h => by simp [cmpL] at h
 | x :: a, y :: b, z :: c, h1, h2 => by
  have ih := qaga a b c;have e1 := @qagr x y;have e2 := @qagr y z;have e3 := @qagr x z;have n1 := @qamr x y;have n2 := @qamr y z;have n3 := @qamr x z;simp only [cmpL] at h1 h2 ⊢;split at h1 <;> split at h2 <;> split <;> first | omega | (exact ih h1 h2) | (exfalso; omega)
theorem qatc {a b c : List Int} (h1 : cmpL a b < 0) (h2 : cmpL b c ≤ 0) : cmpL a c < 0 := by
 have h := qaga a b c (by omega) h2;rcases Int.lt_or_eq_of_le h with h3 | h3
 ·exact h3
 ·have h4 := (qad6 a c).1 h3;subst h4;have := qadd a b;omega
section
open Go.RowKit Go.Sort
theorem qbmi (x : Int) (w : World) : Calls Tryz.prog 108 #[.int .u64 x] w fun e w' => e = .returned (.bool false) ∧ w' = w := by
 go_enter Tryz.func108, Tryz.ntmps108
 go_wp2
 go_ret
 exact ⟨by simp, rfl⟩
set_option maxHeartbeats 1000000 in
theorem qa1v (x y : Int) (w : World) : Calls Tryz.prog 97 #[.int .u64 x, .int .u64 y] w fun e w' => e = .returned (.int .i64 (cmpI x y)) ∧ w' = w := by
 go_enter Tryz.func97, Tryz.ntmps97
 go_wp2_with (go_at_call 108; refine (qbmi _ _).mono ?_; rintro e w' ⟨rfl, hw⟩; rw [hw])
 all_goals (go_ret; refine ⟨?_, rfl⟩; unfold cmpI; (repeat' split) <;> first | rfl | (exfalso; omega))
structure RdU (w : World) (a : Option Addr) (n : Nat) (xs : List Int) : Prop where
 len : xs.length = n
 small : n ≤ 9223372036854775807
 at_ : 0 < n → ∃ b off, a = some ⟨b, off, none⟩ ∧ b < w.heap.size ∧ ∀ j, (h : j < xs.length) → w.cell? ⟨b, off + j, none⟩ = some (.int .u64 xs[j])
set_option maxHeartbeats 1000000 in
theorem qa98 (w : World) (a1 a2 : Option Addr) (n m c d : Nat) (xs ys : List Int) (hx : RdU w a1 n xs) (hy : RdU w a2 m ys) : Calls Tryz.prog 92 #[.slice a1 n c, .slice a2 m d] w fun e w' => e = .returned (.int .i64 (cmpL xs ys)) ∧ w' = w := by
 obtain ⟨F, hF⟩ : ∃ F, cmpL xs ys = F := ⟨_, rfl⟩
 rw [hF];have hl1 := hx.len;have hl2 := hy.len;have hs1 := hx.small;have hs2 := hy.small;replace hx := Lib.hid hx;replace hy := Lib.hid hy;go_enter Tryz.func92, Tryz.ntmps92
 go_wp2
 go_loopg [11] n (fun g s11 wr => ∃ k : Nat, k ≤ n ∧ k ≤ m ∧ n - k ≤ g ∧ s11 = .int .i64 k ∧ wr = w ∧ cmpL (xs.drop k) (ys.drop k) = F)
 case atStart => exact ⟨0, Nat.zero_le _, Nat.zero_le _, by omega, rfl, rfl, hF⟩
 case round =>
  obtain ⟨k, h1, h2, hg, rfl, rfl, hc⟩ := hrel;by_cases hk : k < n
  ·by_cases hj : k < m
   ·obtain ⟨b1, o1, rfl, hb1, hc1⟩ := hx.out.at_ (by omega);obtain ⟨b2, o2, rfl, hb2, hc2⟩ := hy.out.at_ (by omega);have g1 := hc1 k (by omega);have g2 := hc2 k (by omega);rw [List.drop_eq_getElem_cons (show k < xs.length by omega), List.drop_eq_getElem_cons (show k < ys.length by omega), cmpL] at hc;clear hc1 hc2;generalize xs[k] = x at g1 hc;generalize ys[k] = y at g2 hc;have A := Lib.hid hc;clear hc;by_cases h0 : cmpI x y = 0
    ·have hq := fun w => qa1v x y w
     rw [h0] at hq;go_wp2_with (go_at_call 97; refine (hq _).mono ?_; rintro e w' ⟨rfl, hw⟩; rw [hw])
     go_roundg (n - (k + 1))
     case measure => omega
     case rel =>
      refine ⟨k + 1, by omega, by omega, by omega, by go_num, rfl, ?_⟩;have := A.out;rw [if_neg (by simp [h0])] at this;exact this
    ·have hq := fun w => qa1v x y w
     generalize hz : cmpI x y = z at hq h0;go_wp2_with (go_at_call 97; refine (hq _).mono ?_; rintro e w' ⟨rfl, hw⟩; rw [hw])
     go_ret
     have := A.out;rw [hz, if_pos h0] at this;rw [this];exact ⟨rfl, rfl⟩
   ·obtain ⟨b1, o1, rfl, hb1, hc1⟩ := hx.out.at_ (by omega);have g1 := hc1 k (by omega);rw [List.drop_eq_getElem_cons (show k < xs.length by omega), List.drop_eq_nil_of_le (show ys.length ≤ k by omega)] at hc;replace hc : (1 : Int) = F := hc;clear hc1;generalize xs[k] = x at g1;subst hc;go_wp2
    go_ret
    exact ⟨rfl, rfl⟩
  ·rw [List.drop_eq_nil_of_le (show xs.length ≤ k by omega)] at hc;by_cases hj : n < m
   ·rw [List.drop_eq_getElem_cons (show k < ys.length by omega)] at hc;replace hc : (-1 : Int) = F := hc;subst hc;go_wp2
    all_goals first | (exfalso; omega) | skip
    go_ret
    exact ⟨rfl, rfl⟩
   ·rw [List.drop_eq_nil_of_le (show ys.length ≤ k by omega)] at hc;replace hc : (0 : Int) = F := hc;subst hc;go_wp2
    all_goals first | (exfalso; omega) | skip
    go_ret
    exact ⟨rfl, rfl⟩
end
section
open Go.RowKit Go.Sort
theorem RdU.grow {w : World} {a : Option Addr} {n : Nat} {xs : List Int} (h : RdU w a n xs) (os : Array Obj) : RdU (Go.Sort.grow w os) a n xs := by
 refine ⟨h.len, h.small, fun h0 => ?_⟩;obtain ⟨b, off, rfl, hb, hc⟩ := h.at_ h0;refine ⟨b, off, rfl, ?_, fun j hj => ?_⟩
 ·show b < (w.heap ++ os).size;rw [Array.size_append]; omega
 ·rw [cell?_grow _ _ _ hb]; exact hc j hj
theorem qbp2 (w : World) (a1 a2 : Option Addr) (n m c d : Nat) (xs ys : List Int) (v1 v2 v3 v4 v5 u1 u2 u3 u4 u5 : Value) (hx : RdU w a1 n xs) (hy : RdU w a2 m ys) : Calls Tryz.prog 91 #[.agg #[.slice a1 n c, v1, v2, v3, v4, v5], .agg #[.slice a2 m d, u1, u2, u3, u4, u5]] w fun e w' => e = .returned (.int .i64 (cmpL xs ys)) ∧ ∃ q os', w' = Go.Sort.grow (w.drewN q) os' := by
 have hq : ∀ os, Calls Tryz.prog 92 #[.slice a1 n c, .slice a2 m d] (Go.Sort.grow w os) fun e w' => e = .returned (.int .i64 (cmpL xs ys)) ∧ w' = Go.Sort.grow w os := fun os => qa98 _ _ _ _ _ _ _ _ _ (hx.grow os) (hy.grow os)
 generalize cmpL xs ys = r at hq ⊢;clear hx hy;go_enter Tryz.func91, Tryz.ntmps91
 go_wp2_with (go_at_call 92; rw [alloc_eq_grow, alloc_eq_grow, grow_grow]; refine (hq _).mono ?_; rintro e w' ⟨rfl, rfl⟩)
 go_ret
 exact ⟨rfl, 0, _, rfl⟩
end
section
open Go.RowKit Go.Sort
theorem qasc {k : Nat} : ∀ (L : List (List Value)), (∀ x ∈ L, x.length = k) → ∀ j, j < L.length * k → L.flatten[j]? = some ((L.getD (j / k) []).getD (j % k) default)
 | [], _, j, hj => by simp at hj
 | x :: L, h, j, hj => by
  have hx : x.length = k := h x (by simp)
  have k0 : 0 < k := by rcases Nat.eq_zero_or_pos k with e | e; · subst e; simp at hj
                        ·exact e
  rw [List.flatten_cons];rcases Nat.lt_or_ge j k with h1 | h1
  ·rw [List.getElem?_append_left (by omega), Nat.div_eq_of_lt h1, Nat.mod_eq_of_lt h1, List.getD_cons_zero, List.getD_eq_getElem?_getD, List.getElem?_eq_getElem (by omega)];rfl
  ·obtain ⟨i, rfl⟩ : ∃ i, j = i + k := ⟨j - k, by omega⟩
   rw [List.getElem?_append_right (by omega), hx, Nat.add_sub_cancel, qasc L (fun y hy => h y (by simp [hy])) i (by rw [List.length_cons, Nat.add_mul] at hj; omega), Nat.add_div_right _ k0, Nat.add_mod_right, List.getD_cons_succ]
theorem qalz {k : Nat} : ∀ (L : List (List Value)), (∀ x ∈ L, x.length = k) → L.flatten.length = L.length * k
 | [], _ => by simp
 | x :: L, h => by rw [List.flatten_cons, List.length_append, h x (by simp), qalz L fun y hy => h y (by simp [hy]), List.length_cons, Nat.add_mul]; omega
section
variable {α : Type} [Inhabited α]
theorem qan1 (enc : α → List Value) (k : Nat) (hk : ∀ x, (enc x).length = k) (l : List α) : flatK enc k l.toArray = (l.map enc).flatten.toArray := by
 have hL : ∀ x ∈ l.map enc, x.length = k := fun x hx => by obtain ⟨y, -, rfl⟩ := List.mem_map.1 hx; exact hk y
 refine ext_get! (by simp [qalz _ hL]) fun t ht => ?_
 have ht' : t < l.length * k := by simpa using ht
 have k0 : 0 < k := by rcases Nat.eq_zero_or_pos k with e | e; · subst e; simp at ht'
                       ·exact e
 have hd : t / k < l.length := Nat.div_lt_of_lt_mul (by rw [Nat.mul_comm]; exact ht');have hm : t % k < k := Nat.mod_lt _ k0;rw [get_flatK enc k l.toArray t (by simpa using ht')];have h1 := qasc (l.map enc) hL t (by simpa using ht');have h2 : ((l.map enc).getD (t / k) []) = enc l[t / k] := by
  rw [List.getD_eq_getElem?_getD, List.getElem?_map, List.getElem?_eq_getElem hd]; rfl
 rw [h2] at h1;have h3 : l.toArray[t / k]! = l[t / k] := by simp [hd]
 rw [h3, show (l.map enc).flatten.toArray[t]! = (l.map enc).flatten[t]?.getD default by simp, h1];simp [List.getD_eq_getElem?_getD]
theorem qara {w : World} {g n : Nat} {os : Array Obj} {cur : Array Value} {e : TypeId} {fr : Nat × Nat} (F : Array Value) (hb : w.heap[g]? = some (.cells cur e fr)) :
  (Go.Sort.grow (putRow id (Go.Sort.ahead w n) g 0 F) os).heap[g]? = some (.cells (putCells id 0 F cur) e fr) := by
 have hg : g < w.heap.size := (Array.getElem?_eq_some_iff.1 hb).1;rw [heap_grow_old _ _ (by simpa using hg)];simp [putRow, mapBlock, Go.Sort.ahead, Array.getElem?_modify, hb, onCells]
theorem qajg {w : World} {g n : Nat} {os : Array Obj} (F : Array Value) {A : Nat → Prop} (hA : A g) : Step A w (Go.Sort.grow (putRow id (Go.Sort.ahead w n) g 0 F) os) := by
 refine ⟨rfl, rfl, rfl, by show w.heap.size ≤ ((putRow id (Go.Sort.ahead w n) g 0 F).heap ++ os).size; simp, fun k hk hne => ?_⟩;rw [heap_grow_old _ _ (by simpa using hk)];have : g ≠ k := fun e => hne (by rw [← e]; exact hA)
 simp [putRow, mapBlock, Go.Sort.ahead, Array.getElem?_modify, this]
theorem qal2 (cur : Array Value) (F : List Value) (h : F.length ≤ cur.size) : (putCells id 0 F.toArray cur).toList.take F.length = F := by
 apply List.ext_getElem?;intro j;by_cases hj : j < F.length
 ·rw [List.getElem?_take_of_lt hj, Array.getElem?_toList];simp [putCells, hj, show j < cur.size by omega]
 ·rw [List.getElem?_take_eq_none (by omega), List.getElem?_eq_none (by omega)]
theorem qaq8 {w : World} {g : Nat} {cur : Array Value} {e : TypeId} {F : List Value} (hb : w.heap[g]? = some (.cells cur e (0, 0))) (ht : cur.toList.take F.length = F) : Holds id w g 0 F.toArray := by
 intro j hj;have hj' : j < F.length := by simpa using hj
 have hc : cur[j]? = some F[j] := by
  have : (cur.toList.take F.length)[j]? = F[j]? := by rw [ht]
  rw [List.getElem?_take_of_lt hj', Array.getElem?_toList, List.getElem?_eq_getElem hj'] at this;exact this
 constructor
 ·simp [World.cell?, hb, hc, hj']
 ·simp [World.frozen?, hb]
end
end
structure XSlot where
 keys : List Int
 act : Int
 args : List Int
abbrev XTab := List (Option XSlot)
def dist (N a b : Nat) : Nat := if a ≤ b then b - a else b + N - a
def addm (N a d : Nat) : Nat := if a + d < N then a + d else a + d - N
theorem qa9m {N a d : Nat} (ha : a < N) (hd : d ≤ N) : (a + d) % N = addm N a d := by
 unfold addm;split
 ·exact Nat.mod_eq_of_lt (by assumption)
 ·rw [Nat.mod_eq_sub_mod (by omega), Nat.mod_eq_of_lt (by omega)]
theorem qagc {N a d : Nat} (ha : a < N) (hd : d ≤ N) : addm N a d < N := by unfold addm; split <;> omega
theorem qamq {N a d : Nat} (ha : a < N) (hd : d < N) : dist N a (addm N a d) = d := by
 unfold dist addm; (repeat' split) <;> omega
theorem qad7 {N a b : Nat} (ha : a < N) (hb : b < N) : addm N a (dist N a b) = b := by
 unfold dist addm; (repeat' split) <;> omega
theorem qahw {N a b : Nat} (ha : a < N) (hb : b < N) : dist N a b < N := by
 unfold dist; split <;> omega
theorem qbp3 {N a d : Nat} (ha : a < N) (hd : d < N) : addm N (addm N a d) 1 = addm N a (d + 1) := by
 unfold addm; (repeat' split) <;> omega
def qadi (S : XTab) (xs : List Int) : Nat → Nat → Nat × Bool
 | 0, i => (i, false)
 | f + 1, i => match S[i]? with
  | some (some s) => if s.keys = xs then (i, true) else qadi S xs f (addm S.length i 1)
  | _ => (i, false)
def OccX (S : XTab) (j : Nat) : Prop := ∃ s, S[j]? = some (some s)
structure HInv (hm : List Int → Nat) (S : XTab) (i : Nat) : Prop where
 lt : ∀ xs, hm xs < S.length
 path : ∀ (j : Nat) (s : XSlot), j ≠ i → S[j]? = some (some s) → ∀ d, d < dist S.length (hm s.keys) j → addm S.length (hm s.keys) d = i ∨ OccX S (addm S.length (hm s.keys) d)
 uniq : ∀ (j k : Nat) (s t : XSlot), j ≠ i → k ≠ i → S[j]? = some (some s) → S[k]? = some (some t) → s.keys = t.keys → j = k
 free : ∃ e : Nat, e ≠ i ∧ S[e]? = some none
def qa9q (hm : List Int → Nat) (S : XTab) : Prop := HInv hm S S.length
theorem qacs {S : XTab} {j : Nat} {x : Option XSlot} (h : S[j]? = some x) : j < S.length := (List.getElem?_eq_some_iff.1 h).1
theorem qauq {hm : List Int → Nat} {S : XTab} (h : qa9q hm S) {j : Nat} {s : XSlot} (hj : S[j]? = some (some s)) : qadi S s.keys S.length (hm s.keys) = (j, true) := by
 have hl := h.lt s.keys;have hjl := qacs hj;have key : ∀ c d, dist S.length (hm s.keys) j = d + c → ∀ f, c < f → qadi S s.keys f (addm S.length (hm s.keys) d) = (j, true) := by
  intro c;induction c with
  | zero =>
   intro d hd f hf;have e : addm S.length (hm s.keys) d = j := by unfold addm; unfold dist at hd; split <;> split at hd <;> omega
   obtain ⟨g, rfl⟩ : ∃ g, f = g + 1 := ⟨f - 1, by omega⟩
   rw [e, qadi, hj]; simp
  | succ c ih =>
   intro d hd f hf;obtain ⟨g, rfl⟩ : ∃ g, f = g + 1 := ⟨f - 1, by omega⟩
   have hdN : d < S.length := by unfold dist at hd; split at hd <;> omega
   obtain ⟨t, ht⟩ : OccX S (addm S.length (hm s.keys) d) := by
    rcases h.path j s (by omega) hj d (by omega) with e | e
    ·have := qagc hl (show d ≤ S.length by omega); omega
    ·exact e
   have hne : t.keys ≠ s.keys := fun e => by
    have := h.uniq _ _ t s (by have := qagc hl (show d ≤ S.length by omega); omega) (by omega) ht hj e;unfold addm at this; unfold dist at hd
    split at this <;> split at hd <;> omega
   rw [qadi, ht];simp only [if_neg hne];have e : addm S.length (addm S.length (hm s.keys) d) 1 = addm S.length (hm s.keys) (d + 1) := by unfold addm; (repeat' split) <;> omega
   rw [e];exact ih (d + 1) (by omega) g (by omega)
 have := key (dist S.length (hm s.keys) j) 0 (by omega) S.length (by unfold dist; split <;> omega);have e : addm S.length (hm s.keys) 0 = hm s.keys := by unfold addm; split <;> omega
 rw [e] at this; exact this
theorem qaz7 {hm : List Int → Nat} {S : XTab} (h : qa9q hm S) {xs : List Int} (hx : ∀ (j : Nat) (s : XSlot), S[j]? = some (some s) → s.keys ≠ xs) : ∃ r, qadi S xs S.length (hm xs) = (r, false) ∧ S[r]? = some none ∧ ∀ d, d < dist S.length (hm xs) r → OccX S (addm S.length (hm xs) d) := by
 obtain ⟨e, -, he⟩ := h.free;have hel := qacs he;have hl := h.lt xs;have key : ∀ f d, d ≤ dist S.length (hm xs) e → dist S.length (hm xs) e - d < f → (∀ d', d' < d → OccX S (addm S.length (hm xs) d')) → ∃ r, qadi S xs f (addm S.length (hm xs) d) = (r, false) ∧ S[r]? = some none ∧ ∀ d, d < dist S.length (hm xs) r → OccX S (addm S.length (hm xs) d) := by
  intro f;induction f with
  | zero => intro d _ h2; omega
  | succ f ih =>
   intro d h1 h2 h3;have hdN : d < S.length := by unfold dist at h1; split at h1 <;> omega
   have hal := qagc hl (show d ≤ S.length by omega);rw [qadi];cases hs : S[addm S.length (hm xs) d]? with
   | none => rw [List.getElem?_eq_getElem hal] at hs; cases hs
   | some o =>
    cases o with
    | none =>
     refine ⟨_, rfl, hs, fun d' hd' => h3 d' ?_⟩;unfold dist addm at hd'
     (repeat' split at hd') <;> omega
    | some t =>
     simp only [if_neg (hx _ _ hs)];have hne : d ≠ dist S.length (hm xs) e := fun ed => by
      have : addm S.length (hm xs) d = e := by unfold addm; unfold dist at ed; split <;> split at ed <;> omega
      rw [this, he] at hs; cases hs
     have ea : addm S.length (addm S.length (hm xs) d) 1 = addm S.length (hm xs) (d + 1) := by unfold addm; (repeat' split) <;> omega
     rw [ea];refine ih (d + 1) (by omega) (by omega) fun d' hd' => ?_
     rcases Nat.lt_or_ge d' d with h4 | h4
     ·exact h3 d' h4
     ·obtain rfl : d' = d := by omega
      exact ⟨t, hs⟩
 have := key S.length 0 (by omega) (by unfold dist; split <;> omega) (fun d' h => by omega);have e0 : addm S.length (hm xs) 0 = hm xs := by unfold addm; split <;> omega
 rw [e0] at this; exact this
theorem qack {S : XTab} {i : Nat} (hi : i < S.length) (x : Option XSlot) (j : Nat) : (S.set i x)[j]? = if j = i then some x else S[j]? := by
 rw [List.getElem?_set];by_cases h : i = j
 ·subst h; rw [if_pos rfl, if_pos hi, if_pos rfl]
 ·rw [if_neg h, if_neg (Ne.symm h)]
theorem add_inv {hm : List Int → Nat} {S : XTab} (h : qa9q hm S) {s : XSlot} (hx : ∀ (j : Nat) (t : XSlot), S[j]? = some (some t) → t.keys ≠ s.keys) {r : Nat} (hr : S[r]? = some none) (hp : ∀ d, d < dist S.length (hm s.keys) r → OccX S (addm S.length (hm s.keys) d)) (hf : ∃ e : Nat, e ≠ r ∧ S[e]? = some none) : qa9q hm (S.set r (some s)) := by
 have hrl := qacs hr;have occ : ∀ j, OccX S j → OccX (S.set r (some s)) j := fun j ⟨t, ht⟩ => by
  unfold OccX;rw [qack hrl];split
  ·exact ⟨s, rfl⟩
  ·exact ⟨t, ht⟩
 refine ⟨by rw [List.length_set]; exact h.lt, fun j t hj ht d hd => ?_, fun j k t u hj hk ht hu he => ?_, ?_⟩
 ·rw [List.length_set] at hd hj ⊢;rw [qack hrl] at ht;right
  split at ht
  ·rename_i e; subst e; cases ht
   exact occ _ (hp d hd)
  ·rcases h.path j t hj ht d hd with e | e
   ·have := qagc (h.lt t.keys) (show d ≤ S.length by have := qacs ht; have := h.lt t.keys; unfold dist at hd; split at hd <;> omega);omega
   ·exact occ _ e
 ·rw [List.length_set] at hj hk;rw [qack hrl] at ht hu;split at ht
  ·cases ht
   split at hu
   ·omega
   ·exact absurd he.symm (hx _ _ hu)
  ·split at hu
   ·cases hu; exact absurd he (hx _ _ ht)
   ·exact h.uniq j k t u hj hk ht hu he
 ·obtain ⟨e, h1, h2⟩ := hf;exact ⟨e, by rw [List.length_set]; have := qacs h2; omega, by rw [qack hrl, if_neg h1]; exact h2⟩
theorem chg_inv {hm : List Int → Nat} {S : XTab} (h : qa9q hm S) {j : Nat} {s s' : XSlot} (hj : S[j]? = some (some s)) (hk : s'.keys = s.keys) : qa9q hm (S.set j (some s')) := by
 have hjl := qacs hj;have old : ∀ (k : Nat) (t : XSlot), (S.set j (some s'))[k]? = some (some t) → ∃ u : XSlot, S[k]? = some (some u) ∧ u.keys = t.keys := fun k t ht => by
  rw [qack hjl] at ht;split at ht
  ·rename_i e; subst e; cases ht; exact ⟨s, hj, hk.symm⟩
  ·exact ⟨t, ht, rfl⟩
 have occ : ∀ k, OccX S k → OccX (S.set j (some s')) k := fun k ⟨t, ht⟩ => by
  unfold OccX;rw [qack hjl];split
  ·exact ⟨s', rfl⟩
  ·exact ⟨t, ht⟩
 refine ⟨by rw [List.length_set]; exact h.lt, fun k t hkl ht d hd => ?_, fun k l t u hkl hll ht hu he => ?_, ?_⟩
 ·rw [List.length_set] at hd hkl ⊢;obtain ⟨v, hv, e⟩ := old k t ht;rw [← e] at hd ⊢;exact (h.path k v hkl hv d hd).imp (fun h => h) (occ _)
 ·rw [List.length_set] at hkl hll;obtain ⟨v, hv, e⟩ := old k t ht;obtain ⟨w, hw, e'⟩ := old l u hu;exact h.uniq k l v w hkl hll hv hw (by rw [e, e', he])
 ·obtain ⟨e, h1, h2⟩ := h.free;refine ⟨e, by rw [List.length_set]; exact h1, ?_⟩;rw [qack hjl, if_neg (fun e1 => by rw [e1, hj] at h2; cases h2)]; exact h2
def qap8 (hm : List Int → Nat) (S : XTab) (i : Nat) : Nat → Nat → Option Nat
 | 0, _ => none
 | f + 1, k => match S[addm S.length k 1]? with
  | some (some s) => if dist S.length i (addm S.length k 1) ≤ dist S.length (hm s.keys) (addm S.length k 1) then some (addm S.length k 1) else qap8 hm S i f (addm S.length k 1)
  | _ => none
theorem qal6 {hm : List Int → Nat} {S : XTab} {i : Nat} (h : HInv hm S i) (hi : i < S.length) {e : Nat} (he : e ≠ i) (h1 : S[e]? = some none) (h4 : ∀ d, 0 < d → d < dist S.length i e → OccX S (addm S.length i d)) : ∀ f k, k < S.length → dist S.length i k < dist S.length i e → dist S.length i e - dist S.length i k ≤ f →
  (∀ d, 0 < d → d ≤ dist S.length i k → ∃ s, S[addm S.length i d]? = some (some s) ∧ dist S.length (hm s.keys) (addm S.length i d) < d) →
  (∃ k' s, qap8 hm S i f k = some k' ∧ k' ≠ i ∧ S[k']? = some (some s) ∧ dist S.length i k' ≤ dist S.length (hm s.keys) k' ∧ dist S.length i k' < dist S.length i e) ∨
  (qap8 hm S i f k = none ∧ ∀ d, 0 < d → d < dist S.length i e → ∃ s, S[addm S.length i d]? = some (some s) ∧ dist S.length (hm s.keys) (addm S.length i d) < d)
 | 0, k, hk, h2, h3, _ => by omega
 | f + 1, k, hk, h2, h3, h5 => by
  have hel := qacs h1;obtain ⟨d, hd⟩ : ∃ d, d = dist S.length i k + 1 := ⟨_, rfl⟩
  have hdN : d < S.length := by have := qahw hi hel; omega
  have ek : addm S.length k 1 = addm S.length i d := by
   have := qbp3 (d := dist S.length i k) hi (by omega);rw [qad7 hi hk] at this;rw [this, hd]
  have hkl := qagc hk (show 1 ≤ S.length by omega);have edk : dist S.length i (addm S.length k 1) = d := by rw [ek]; exact qamq hi hdN
  rw [qap8];by_cases hed : dist S.length i e = d
  ·have hke : addm S.length k 1 = e := by rw [ek, ← hed]; exact qad7 hi hel
   rw [hke, h1];exact .inr ⟨rfl, fun d' h6 h7 => h5 d' h6 (by omega)⟩
  ·obtain ⟨s, hs⟩ := h4 d (by omega) (by omega);rw [ek, hs];simp only;rw [← ek, edk];by_cases hc : d ≤ dist S.length (hm s.keys) (addm S.length k 1)
   ·rw [if_pos hc];refine .inl ⟨_, s, rfl, fun e1 => ?_, by rw [ek]; exact hs, by rw [edk]; exact hc, by rw [edk]; omega⟩;rw [e1] at edk;unfold dist at edk; split at edk <;> omega
   ·rw [if_neg hc];refine qal6 h hi he h1 h4 f (addm S.length k 1) hkl (by omega) (by omega) fun d' h6 h7 => ?_
    rcases Nat.lt_or_ge d' d with h8 | h8
    ·exact h5 d' h6 (by omega)
    ·obtain rfl : d' = d := by omega
     exact ⟨s, hs, by rw [← ek]; omega⟩
theorem qbjj {S : XTab} {i : Nat} (hi : i < S.length) (h : ∃ e : Nat, e ≠ i ∧ S[e]? = some none) : ∃ e : Nat, e ≠ i ∧ S[e]? = some none ∧ ∀ d, 0 < d → d < dist S.length i e → OccX S (addm S.length i d) := by
 obtain ⟨e, he, h1⟩ := h;generalize hn : dist S.length i e = n;induction n using Nat.strongRecOn generalizing e with
 | _ n ih =>
  by_cases hall : ∀ d, 0 < d → d < dist S.length i e → OccX S (addm S.length i d)
  ·exact ⟨e, he, h1, hall⟩
  ·obtain ⟨d, hd⟩ := Classical.not_forall.1 hall;have h2 : 0 < d := Classical.byContradiction fun h => hd fun h' => absurd h' h
   have h3 : d < dist S.length i e := Classical.byContradiction fun h => hd fun _ h' => absurd h' h
   have h4 : ¬ OccX S (addm S.length i d) := fun h => hd fun _ _ => h
   have hdN : d < S.length := by have := qahw hi (qacs h1); omega
   have hl := qagc hi (show d ≤ S.length by omega);have hx : S[addm S.length i d]? = some none := by
    cases hs : S[addm S.length i d]? with
    | none => rw [List.getElem?_eq_getElem hl] at hs; cases hs
    | some o =>
     cases o with
     | none => rfl
     | some t => exact absurd ⟨t, hs⟩ h4
   have hdd := qamq hi hdN;refine ih d (by omega) (addm S.length i d) (fun e1 => ?_) hx hdd;rw [e1] at hdd;unfold dist at hdd; split at hdd <;> omega
theorem qba5 {hm : List Int → Nat} {S : XTab} {i : Nat} (h : HInv hm S i) (hi : i < S.length) {e : Nat} (he : e ≠ i) (h1 : S[e]? = some none) (h2 : ∀ d, 0 < d → d < dist S.length i e → ∃ s, S[addm S.length i d]? = some (some s) ∧ dist S.length (hm s.keys) (addm S.length i d) < d) : qa9q hm (S.set i none) := by
 have hel := qacs h1;have old : ∀ (j : Nat) (s : XSlot), (S.set i none)[j]? = some (some s) → j ≠ i ∧ S[j]? = some (some s) := fun j s hs => by
  rw [qack hi] at hs;split at hs
  ·cases hs
  ·exact ⟨by assumption, hs⟩
 refine ⟨by rw [List.length_set]; exact h.lt, fun j s _ hs d hd => ?_, fun j k s t _ _ hs ht => ?_, ⟨i, by rw [List.length_set]; omega, by rw [qack hi, if_pos rfl]⟩⟩
 ·rw [List.length_set] at hd ⊢;obtain ⟨hj, hs'⟩ := old j s hs;have hjl := qacs hs';have hhl := h.lt s.keys;have hdN : d < S.length := by have := qahw hhl hjl; omega
  right
  have hne : addm S.length (hm s.keys) d ≠ i := fun ed => by
   have h3 : dist S.length (hm s.keys) i = d := by rw [← ed]; exact qamq hhl hdN
   rcases Nat.lt_or_ge (dist S.length i j) (dist S.length i e) with h4 | h4
   ·have h5 : 0 < dist S.length i j := by unfold dist; split <;> omega
    obtain ⟨t, ht, h6⟩ := h2 (dist S.length i j) h5 h4;rw [qad7 hi hjl] at ht h6;rw [hs'] at ht; cases ht
    unfold dist at h6 hd h3; (repeat' split at *) <;> omega
   ·have h5 : dist S.length (hm s.keys) e < dist S.length (hm s.keys) j := by
     have hje : j ≠ e := fun e1 => by rw [e1, h1] at hs'; cases hs'
     unfold dist at *; (repeat' split at *) <;> omega
    have h6 := h.path j s hj hs' _ h5;rw [qad7 hhl hel] at h6;rcases h6 with h7 | ⟨t, h7⟩
    ·exact he h7
    ·rw [h1] at h7; cases h7
  rcases h.path j s hj hs' d hd with h3 | ⟨t, ht⟩
  ·exact absurd h3 hne
  ·exact ⟨t, by rw [qack hi, if_neg hne]; exact ht⟩
 ·obtain ⟨a1, a2⟩ := old j s hs;obtain ⟨b1, b2⟩ := old k t ht;exact h.uniq j k s t a1 b1 a2 b2
theorem qas2 {hm : List Int → Nat} {S : XTab} {i k : Nat} {s : XSlot} (h : HInv hm S i) (hi : i < S.length) (hk : k ≠ i) (hs : S[k]? = some (some s)) (hd : dist S.length i k ≤ dist S.length (hm s.keys) k) : HInv hm (S.set i (some s)) k := by
 have hkl := qacs hs;have occ : ∀ j, (j = i ∨ OccX S j) → OccX (S.set i (some s)) j := fun j hj => by
  unfold OccX;rw [qack hi];split
  ·exact ⟨s, rfl⟩
  ·rcases hj with h1 | h1
   ·exact absurd h1 (by assumption)
   ·exact h1
 refine ⟨by rw [List.length_set]; exact h.lt, fun j t hj ht d hdd => ?_, fun j l t u hj hl ht hu he => ?_, ?_⟩
 ·rw [List.length_set] at hdd ⊢;rw [qack hi] at ht;split at ht
  ·rename_i e; subst e; cases ht
   have : d < dist S.length (hm s.keys) k := by
    have hhl := h.lt s.keys;unfold dist at *; (repeat' split at *) <;> omega
   exact .inr (occ _ (h.path k s hk hs d this))
  ·exact .inr (occ _ (h.path j t (by assumption) ht d hdd))
 ·rw [qack hi] at ht hu;split at ht
  ·cases ht
   split at hu
   ·omega
   ·exact absurd (h.uniq l k u s (by assumption) hk hu hs he.symm) hl
  ·split at hu
   ·cases hu
    exact absurd (h.uniq j k t s (by assumption) hk ht hs he) hj
   ·exact h.uniq j l t u (by assumption) (by assumption) ht hu he
 ·obtain ⟨e, h1, h2⟩ := h.free;refine ⟨e, fun e1 => ?_, by rw [qack hi, if_neg h1]; exact h2⟩;rw [e1, hs] at h2; cases h2
def qak9 (hm : List Int → Nat) : Nat → XTab → Nat → XTab
 | 0, S, i => S.set i none
 | f + 1, S, i => match qap8 hm (S.set i none) i S.length i with
  | none => S.set i none
  | some k => qak9 hm f ((S.set i none).set i (S[k]?.getD none)) k
theorem qa05 {hm : List Int → Nat} {S : XTab} {i : Nat} (h : HInv hm S i) (x : Option XSlot) : HInv hm (S.set i x) i := by
 have e : ∀ j, j ≠ i → (S.set i x)[j]? = S[j]? := fun j hj => by rw [List.getElem?_set, if_neg (Ne.symm hj)]
 refine ⟨by rw [List.length_set]; exact h.lt, fun j s hj hs d hd => ?_, fun j k s t hj hk hs ht => ?_, ?_⟩
 ·rw [List.length_set] at hd ⊢;rw [e j hj] at hs;rcases h.path j s hj hs d hd with h1 | ⟨t, h1⟩
  ·exact .inl h1
  ·by_cases h2 : addm S.length (hm s.keys) d = i
   ·exact .inl h2
   ·exact .inr ⟨t, by rw [e _ h2]; exact h1⟩
 ·rw [e j hj] at hs; rw [e k hk] at ht
  exact h.uniq j k s t hj hk hs ht
 ·obtain ⟨e1, h1, h2⟩ := h.free;exact ⟨e1, h1, by rw [e e1 h1]; exact h2⟩
def cnt (S : XTab) : Nat := S.countP Option.isSome
theorem qahx : ∀ (S : XTab) (i : Nat) (x : Option XSlot), (hi : i < S.length) → cnt (S.set i x) + (if S[i].isSome then 1 else 0) = cnt S + (if x.isSome then 1 else 0)
 | [], i, x, hi => by simp at hi
 | y :: S, 0, x, _ => by
  unfold cnt;simp only [List.set_cons_zero, List.countP_cons, List.getElem_cons_zero];omega
 | y :: S, i + 1, x, hi => by
  have ih := qahx S i x (by simpa using hi);unfold cnt at ih ⊢;simp only [List.set_cons_succ, List.countP_cons, List.getElem_cons_succ];omega
theorem qamp {hm : List Int → Nat} : ∀ (f : Nat) (S : XTab) (i : Nat), HInv hm S i → i < S.length → (∃ e : Nat, e ≠ i ∧ S[e]? = some none ∧ dist S.length i e ≤ f) → qa9q hm (qak9 hm f S i) ∧ (qak9 hm f S i).length = S.length ∧ (∀ s, (∃ j : Nat, (qak9 hm f S i)[j]? = some (some s)) ↔ ∃ j : Nat, j ≠ i ∧ S[j]? = some (some s)) ∧ cnt (qak9 hm f S i) = cnt (S.set i none)
 | 0, S, i, h, hi, ⟨e, he, h1, h2⟩ => by
  exfalso;have := qacs h1;unfold dist at h2; split at h2 <;> omega
 | f + 1, S, i, h, hi, ⟨e0, he0, h10, h20⟩ => by
  have hS := qa05 h none;have hl : (S.set i none).length = S.length := List.length_set ..;have hi' : i < (S.set i none).length := by rw [hl]; exact hi
  obtain ⟨e, he, h1, h4⟩ := qbjj hi' hS.free;have g1 : ∀ j, j ≠ i → (S.set i none)[j]? = S[j]? := fun j hj => by rw [qack hi, if_neg hj]
  have d0 : dist (S.set i none).length i i = 0 := by unfold dist; simp
  have hel := qacs h1;have hpos : 0 < dist (S.set i none).length i e := by unfold dist; split <;> omega
  have hlt := qahw hi' hel;have hse : ∀ s, (∃ j : Nat, (S.set i none)[j]? = some (some s)) ↔ ∃ j : Nat, j ≠ i ∧ S[j]? = some (some s) := fun s => by
   constructor
   ·rintro ⟨j, hj⟩;rw [qack hi] at hj;split at hj
    ·cases hj
    ·exact ⟨j, by assumption, hj⟩
   ·rintro ⟨j, hj, hs⟩;exact ⟨j, by rw [g1 j hj]; exact hs⟩
  rw [qak9];rcases qal6 hS hi' he h1 h4 S.length i hi' (by omega) (by omega) (fun d h5 h6 => by omega) with ⟨k, s, q1, q2, q3, q4, q5⟩ | ⟨q1, q2⟩
  ·rw [q1];simp only;have hks : S[k]? = some (some s) := by rw [← g1 k q2]; exact q3
   rw [hks, Option.getD_some];have hm2 := qas2 hS hi' q2 q3 q4;have hl2 : ((S.set i none).set i (some s)).length = S.length := by simp
   have hkl := qacs hks;have he2 : S[e0]? = some none := h10;have hke0 : dist S.length i k < dist S.length i e0 := by
    rcases Nat.lt_or_ge (dist S.length i k) (dist S.length i e0) with h9 | h9
    ·exact h9
    ·exfalso;rw [hl] at q5;have hp0 : 0 < dist S.length i e0 := by have := qacs h10; unfold dist; split <;> omega
     have hne : dist S.length i e0 ≠ dist S.length i k := fun e1 => by
      have a1 := qad7 hi (qacs h10);have a2 := qad7 hi hkl;rw [e1, a2] at a1;rw [← a1, hks] at h10; cases h10
     obtain ⟨t, ht⟩ := h4 (dist S.length i e0) hp0 (by rw [hl]; omega);rw [hl, qad7 hi (qacs h10), g1 e0 he0, h10] at ht;cases ht
   have hfree : ∃ e : Nat, e ≠ k ∧ ((S.set i none).set i (some s))[e]? = some none ∧ dist ((S.set i none).set i (some s)).length k e ≤ f := by
    refine ⟨e0, (fun e1 => (by rw [e1, hks] at h10; cases h10)), ?_, ?_⟩
    ·rw [List.getElem?_set, if_neg (Ne.symm he0), g1 e0 he0]; exact h10
    ·rw [hl2];have := qacs h10;unfold dist at hke0 h20 ⊢
     (repeat' split at *) <;> (repeat' split) <;> omega
   obtain ⟨r1, r2, r3, r4⟩ := qamp f _ k hm2 (by rw [hl2]; exact hkl) hfree;refine ⟨r1, by rw [r2, hl2], fun t => ?_, ?_⟩
   ·rw [r3 t];constructor
    ·rintro ⟨j, hj, ht⟩;rw [qack hi'] at ht;split at ht
     ·cases ht; exact ⟨k, q2, hks⟩
     ·rename_i hji;rw [g1 j hji] at ht; exact ⟨j, hji, ht⟩
    ·rintro ⟨j, hj, ht⟩;by_cases hjk : j = k
     ·subst hjk;rw [hks] at ht; cases ht
      exact ⟨i, Ne.symm q2, by rw [qack hi', if_pos rfl]⟩
     ·exact ⟨j, hjk, by rw [qack hi', if_neg hj, g1 j hj]; exact ht⟩
   ·rw [r4];have c1 := qahx ((S.set i none).set i (some s)) k none (by rw [hl2]; exact hkl);have c2 := qahx (S.set i none) i (some s) hi';have x1 : ((S.set i none).set i (some s))[k]'(by rw [hl2]; exact hkl) = some s := by
     have : ((S.set i none).set i (some s))[k]? = some (some s) := by rw [qack hi', if_neg q2]; exact q3
     rw [List.getElem?_eq_getElem (by rw [hl2]; exact hkl)] at this;exact Option.some.inj this
    have x2 : (S.set i none)[i]'hi' = none := by simp
    rw [x1] at c1;rw [x2] at c2;simp at c1 c2 ⊢;omega
  ·rw [q1];exact ⟨by have := qba5 hS hi' he h1 q2; rwa [List.set_set] at this, hl, hse, rfl⟩
section
open Go.RowKit Go.Sort
def xec (x : XSlot) : List SV := [nums .u64 x.keys, .nilsl, .int .i64 0, .int .i64 0, .int .i64 x.act, nums .u64 x.args]
structure SEl (w : World) (A : Nat → Prop) (ρ : qact) where
 x : XSlot
 vs : List Value
 reps : Reps w A ρ (xec x) vs
 ones : Ones vs
theorem qanh {w : World} {A : Nat → Prop} {ρ : qact} : ∀ (a b : List SV) (vs : List Value), Reps w A ρ (a ++ b) vs → ∃ us ws, vs = us ++ ws ∧ Reps w A ρ a us ∧ Reps w A ρ b ws
 | [], b, vs, h => ⟨[], vs, rfl, .nil, h⟩
 | x :: a, b, vs, h => by
  obtain ⟨v, vs', rfl, h1, h2⟩ := Reps.cons_inv (show Reps w A ρ (x :: (a ++ b)) vs from h);obtain ⟨us, ws, rfl, h3, h4⟩ := qanh a b vs' h2;exact ⟨v :: us, ws, rfl, .cons h1 h3, h4⟩
theorem qasg {w : World} {A : Nat → Prop} {ρ : qact} : ∀ (l : List XSlot) (vs : List Value), Reps w A ρ (l.map xec).flatten vs → Ones vs → ∃ ds : List (SEl w A ρ), ds.map (·.x) = l ∧ (ds.map (·.vs)).flatten = vs
 | [], vs, h, _ => ⟨[], rfl, by rw [Reps.nil_inv h]; rfl⟩
 | x :: l, vs, h, ho => by
  obtain ⟨us, ws, rfl, h1, h2⟩ := qanh (xec x) (l.map xec).flatten vs h;obtain ⟨ds, h3, h4⟩ := qasg l ws h2 fun v hv => ho v (List.mem_append.2 (.inr hv))
  exact ⟨⟨x, us, h1, fun v hv => ho v (List.mem_append.2 (.inl hv))⟩ :: ds, by simp [h3], by simp [h4]⟩
theorem qasn {w : World} {A : Nat → Prop} {ρ : qact} : ∀ (a b : List SV) (us ws : List Value), Reps w A ρ a us → Reps w A ρ b ws → Reps w A ρ (a ++ b) (us ++ ws)
 | [], b, us, ws, h, g => by rw [Reps.nil_inv h]; exact g
 | x :: a, b, us, ws, h, g => by
  obtain ⟨v, us', rfl, h1, h2⟩ := h.cons_inv;exact .cons h1 (qasn a b us' ws h2 g)
theorem qa02 {w w' : World} {A : Nat → Prop} {ρ : qact} (hs : Step A w w') : ∀ ds : List (SEl w A ρ), Reps w' A ρ ((ds.map (·.x)).map xec).flatten (ds.map (·.vs)).flatten ∧ Ones (ds.map (·.vs)).flatten
 | [] => ⟨.nil, fun v hv => by simp at hv⟩
 | d :: ds => by
  obtain ⟨h1, h2⟩ := qa02 hs ds;refine ⟨qasn _ _ _ _ (d.reps.mono hs (fun _ h _ => h) fun _ _ h => h) h1, fun v hv => ?_⟩;rw [List.map_cons, List.flatten_cons, List.mem_append] at hv;exact hv.elim (d.ones v) (h2 v)
theorem SEl.len {w : World} {A : Nat → Prop} {ρ : qact} (s : SEl w A ρ) : s.vs.length = 6 := s.reps.1.symm
theorem rdu_of {w : World} {A : Nat → Prop} {ρ : qact} {xs : List Int} {v : Value} (h : RepV w A ρ (nums .u64 xs) v) : ∃ a n c, v = .slice a n c ∧ RdU w a n xs := by
 generalize hx : nums .u64 xs = y at h;cases h with
 | view0 hc ha =>
  have : xs = [] := by
   unfold nums at hx;simp at hx;exact hx.2
  subst this;exact ⟨_, _, _, rfl, ⟨rfl, by omega, fun h => absurd h (by omega)⟩⟩
 | view cv hn hc hm hA hb hs h1 h2 ho =>
  unfold nums at hx;injection hx with e1 e2
  subst e1 e2;refine ⟨_, _, _, rfl, ⟨by simpa using hn, by unfold maxLen at hm; omega, fun _ => ⟨_, _, rfl, hb, fun j hj => ?_⟩⟩⟩;have he : (xs.map fun x => [SV.int .u64 x])[j]? = some [.int .u64 xs[j]] := by simp [hj]
  have g1 := h1 j _ 0 _ he rfl;have g2 := h2 j _ 0 _ he rfl;cases hv : cv j 0 <;> rw [hv] at g2 <;> cases g2
  rw [hv] at g1;simpa using g1
 | _ => cases hx
theorem qblb {β : Type} (f : β → List Int) : SWO (ltOf fun x y : β => cmpL (f x) (f y)) where
 irrefl x := by unfold ltOf; simp [(qad6 (f x) (f x)).2 rfl]
 trans x y z h1 h2 := by
  unfold ltOf at *;simp only [decide_eq_true_eq] at *;exact qatc h1 (by omega)
 ntrans x y z h1 h2 := by
  unfold ltOf at *;simp only [decide_eq_false_iff_not] at *;have e1 := qadd (f x) (f y);have e2 := qadd (f y) (f z);have e3 := qadd (f x) (f z);have := qaga (f z) (f y) (f x) (by omega) (by omega);omega
theorem qbnf {w : World} {A : Nat → Prop} {ρ : qact} {g : Nat} (hA : A g) (size : Nat) [Inhabited (SEl w A ρ)] : CmpLays Tryz.prog 91 #[] (fun s : SEl w A ρ => s.vs) 6 (fun x y => cmpL x.x.keys y.x.keys) g 0 size w := by
 intro m os dk _ x y;have hst : Step A w (sortWorldK (fun s : SEl w A ρ => s.vs) 6 w g 0 m dk os) := qajg _ hA;have hx := x.reps.mono hst (fun _ h _ => h) (fun _ _ h => h);have hy := y.reps.mono hst (fun _ h _ => h) (fun _ _ h => h);generalize sortWorldK (fun s : SEl w A ρ => s.vs) 6 w g 0 m dk os = W at hx hy ⊢;obtain ⟨⟨kx, ax, rx⟩, vx, px, qx⟩ := x;obtain ⟨⟨ky, ay, ry⟩, vy, py, qy⟩ := y;dsimp only at hx hy ⊢;unfold xec at hx hy;obtain ⟨v0, _, rfl, hv0, hx⟩ := hx.cons_inv;obtain ⟨v1, _, rfl, -, hx⟩ := hx.cons_inv;obtain ⟨v2, _, rfl, -, hx⟩ := hx.cons_inv;obtain ⟨v3, _, rfl, -, hx⟩ := hx.cons_inv;obtain ⟨v4, _, rfl, -, hx⟩ := hx.cons_inv;obtain ⟨v5, _, rfl, -, hx⟩ := hx.cons_inv;obtain rfl := hx.nil_inv;obtain ⟨u0, _, rfl, hu0, hy⟩ := hy.cons_inv;obtain ⟨u1, _, rfl, -, hy⟩ := hy.cons_inv;obtain ⟨u2, _, rfl, -, hy⟩ := hy.cons_inv;obtain ⟨u3, _, rfl, -, hy⟩ := hy.cons_inv;obtain ⟨u4, _, rfl, -, hy⟩ := hy.cons_inv;obtain ⟨u5, _, rfl, -, hy⟩ := hy.cons_inv;obtain rfl := hy.nil_inv;obtain ⟨a1, n1, c1, rfl, r1⟩ := rdu_of hv0;obtain ⟨a2, n2, c2, rfl, r2⟩ := rdu_of hu0;exact qbp2 W a1 a2 n1 n2 c1 c2 kx ky _ _ _ _ _ _ _ _ _ _ r1 r2
end
section
open Go.RowKit Go.Sort
theorem qako : Enters Tryz.prog 90 := enters_of Tryz.func90 (by kernel_rfl) rfl
theorem qayk : ∀ args w, (callFunc 91 args).run Tryz.prog w = .ok (.enter 91 args) w := enters_of Tryz.func91 (by kernel_rfl) rfl
theorem xec_len (x : XSlot) : (xec x).length = 6 := rfl
set_option maxHeartbeats 1000000 in
theorem qblf (l L : List XSlot) (hne : 0 < l.length) (hl : l.length ≤ 1000000) (hL : ∀ l' : List XSlot, l'.Perm l → l'.Pairwise (fun a b => ¬ cmpL b.keys a.keys < 0) → l' = L) (nm q : Nat) : SCalls Tryz.prog 90 [.own nm l.length, .fn (.func 91) [] []] [(nm, .row 38 6 (l.map xec))] q (.tup []) [(nm, .row 38 6 (L.map xec))] := by
 refine ⟨qako, fun O ρ fp w vs hok hargs hfr => ?_⟩;obtain ⟨v0, us, rfl, h0, hus⟩ := hargs.cons_inv;obtain ⟨v1, us2, rfl, h1, hus⟩ := hus.cons_inv;obtain rfl := hus.nil_inv;have hg0 : geth [(nm, SObj.row 38 6 (l.map xec))] nm = some (.row 38 6 (l.map xec)) := by simp [geth]
 obtain ⟨v, cs, how, ⟨hreps, hones⟩, hsz, hρ, hfp⟩ := hok.objs nm _ hg0;replace how := how.owns (by decide);rw [List.length_map] at how;obtain ⟨hcl, hv⟩ := how;rcases hv with ⟨rfl, h⟩ | ⟨g, cap, cur, rfl, -, hb, hcap, hmax, hcur, htake⟩
 ·omega
 have hfg : ∀ k, fp nm k ↔ k = g := fun k => by rw [hfp k]; simp [Value.ownBlock, eq_comm]
 have hAg : (fun k => O k ∨ Live [(nm, SObj.row 38 6 (l.map xec))] fp k) g := .inr ⟨nm, _, hg0, (hfg g).2 rfl⟩;have hv0 : v0 = .slice (some ⟨g, 0, none⟩) l.length cap := by
  generalize hy : SV.own nm l.length = y at h0;cases h0 with
  | own0 h => injection hy with e1 e2; omega
  | own h hn hm =>
   injection hy with e1 e2
   subst e1 e2;rw [hρ] at h;simp only [qad9, Option.some.injEq, Prod.mk.injEq] at h;obtain ⟨rfl, rfl⟩ := h;rfl
  | _ => cases hy
 subst hv0;have hv1 : v1 = .func (.func 91) #[] #[] := by
  generalize hy : SV.fn (.func 91) [] [] = y at h1;cases h1 with
  | fn e1 e2 e3 e4 =>
   injection hy with i1 i2 i3
   subst i1 i2 i3;rename_i vs' us';cases vs' with
   | nil => cases us' with
    | nil => rfl
    | cons _ _ => simp at e2
   | cons _ _ => simp at e1
  | _ => cases hy
 subst hv1;generalize hAA : (fun k => O k ∨ Live [(nm, SObj.row 38 6 (l.map xec))] fp k) = A at hreps hargs;have hAg : A g := by rw [← hAA]; exact hAg
 obtain ⟨ds, hds1, hds2⟩ := qasg l cs hreps hones;have hdl : ds.length = l.length := by rw [← hds1, List.length_map]
 haveI : Inhabited (SEl w A ρ) := ⟨ds[0]'(by omega)⟩
 have hk : ∀ s : SEl w A ρ, s.vs.length = 6 := fun s => s.len
 have hF := qan1 (fun s : SEl w A ρ => s.vs) 6 hk ds;rw [hds2] at hF;have hH : HoldsK (fun s : SEl w A ρ => s.vs) 6 w g 0 ds.toArray := by
  unfold HoldsK;rw [hF];exact qaq8 hb (by rw [hcl]; exact htake)
 have hcon := AnyQ.slices_SortFunc sortE 6 Tryz.isAgg38 Tryz.sizeOf38 (fun s : SEl w A ρ => s.vs) hk (fun s v hv => s.ones v hv) (fun x y => cmpL x.x.keys y.x.keys) (qblb fun s : SEl w A ρ => s.x.keys) 91 #[] g 0 cap ds.toArray w qayk (qbnf hAg _) hH (Array.getElem?_eq_some_iff.1 hb).1 (by simp; omega);change Calls Tryz.prog 90 _ _ _ at hcon
 rw [show ds.toArray.size = l.length by simp [hdl]] at hcon;refine hcon.mono ?_;rintro e w' ⟨rfl, d', n, os, ⟨hp1, -, hp2⟩, hs, rfl⟩;have hd'l : d'.toList.length = l.length := by simp [hp1, hdl]
 have hperm : d'.toList.Perm ds := by
  have e1 : d'.extract 0 l.length = d' := by rw [Array.extract_eq_self_of_le (by simp at hd'l; omega)]
  have e2 : ds.toArray.extract 0 l.length = ds.toArray := by rw [Array.extract_eq_self_of_le (by simp [hdl])]
  rw [e1, e2] at hp2;exact hp2
 have hL' : d'.toList.map (·.x) = L := by
  refine hL _ (by rw [← hds1]; exact hperm.map _) ?_;rw [List.pairwise_iff_getElem];intro i j hi hj hij;have := hs i j (Nat.zero_le _) hij (by simpa [hd'l] using hj);rw [List.length_map] at hi hj;rw [getElem!_pos d' j (by simpa using hj), getElem!_pos d' i (by simpa using hi)] at this;unfold ltOf at this;simpa using this
 have hLl : L.length = l.length := by rw [← hL', List.length_map, hd'l]
 have hF' := qan1 (fun s : SEl w A ρ => s.vs) 6 hk d'.toList;rw [Array.toArray_toList] at hF';have hlen' : (d'.toList.map fun s : SEl w A ρ => s.vs).flatten.length = l.length * 6 := by
  rw [qalz (k := 6) _ (fun x hx => by obtain ⟨y, -, rfl⟩ := List.mem_map.1 hx; exact hk y), List.length_map, hd'l]
 unfold sortWorldK putRowK;rw [hF'];generalize hV : (d'.toList.map fun s : SEl w A ρ => s.vs).flatten = V at hlen';have hst : ∀ B : Nat → Prop, B g → Step B w (Go.Sort.grow (putRow id (Go.Sort.ahead w n) g 0 V.toArray) os) := fun B hB => qajg _ hB
 have hj := qa02 (hst A hAg) d'.toList;rw [hL', hV] at hj;have hhp := qara (n := n) (os := os) V.toArray hb;have hg1 : geth [(nm, SObj.row 38 6 (L.map xec))] nm = some (.row 38 6 (L.map xec)) := by simp [geth]
 have hlive : ∀ k, Live [(nm, SObj.row 38 6 (L.map xec))] fp k ↔ Live [(nm, SObj.row 38 6 (l.map xec))] fp k := fun k => by
  constructor
  ·rintro ⟨i, o, h, hk⟩;simp only [geth] at h;split at h
   ·rename_i e; subst e; exact ⟨nm, _, hg0, hk⟩
   ·cases h
  ·rintro ⟨i, o, h, hk⟩;simp only [geth] at h;split at h
   ·rename_i e; subst e; exact ⟨_, _, hg1, hk⟩
   ·cases h
 have hA2 : (fun k => O k ∨ Live [(nm, SObj.row 38 6 (L.map xec))] fp k) = A := by
  rw [← hAA]; funext k; rw [hlive k]
 refine ⟨.tuple #[], ρ, fp, rfl, ⟨fun i o ho => ?_, fun i i' o o' hne' h h' => ?_, fun k hk' => ?_, fun k hk' => ?_⟩, .tup rfl (by simp), hst _ ⟨nm, _, hg0, (hfg g).2 rfl⟩, fun _ _ h => h, fun _ h => .inl h, fun i o ho k hk' => .inl ((hlive k).1 ⟨i, o, ho, hk'⟩)⟩
 ·simp only [geth] at ho;split at ho
  ·rename_i e; subst e
   cases ho
   rw [hA2];exact ⟨.slice (some ⟨g, 0, none⟩) l.length cap, V, ⟨by rw [List.length_map, hLl]; exact hlen', .inr ⟨g, cap, _, (0, 0), by rw [List.length_map, hLl], hhp, .inl rfl, by rw [List.length_map, hLl]; exact hcap, hmax, by simp [putCells, hcur], by rw [List.length_map, hLl, ← hlen']; exact qal2 cur V (by rw [hcur, hlen']; omega)⟩⟩, hj, fun x hx => by obtain ⟨y, -, rfl⟩ := List.mem_map.1 hx; exact xec_len y, hρ, hfp⟩
  ·cases ho
 ·simp only [geth] at h h';split at h
  ·split at h'
   ·omega
   ·cases h'
  ·cases h
 ·have := hok.lt k ((hlive k).1 hk');exact ⟨Nat.lt_of_lt_of_le this.1 (hst _ hAg).size, this.2⟩
 ·exact Nat.lt_of_lt_of_le (hok.O_lt k hk') (hst _ hAg).size
end
section
open Go.RowKit Go.Sort
theorem qauk (nm q : Nat) : SCalls Tryz.prog 90 [.own nm 0, .fn (.func 91) [] []] [(nm, .row 38 6 [])] q (.tup []) [(nm, .row 38 6 [])] := by
 refine ⟨qako, fun O ρ fp w vs hok hargs hfr => ?_⟩;obtain ⟨v0, us, rfl, h0, hus⟩ := hargs.cons_inv;obtain ⟨v1, us2, rfl, h1, hus⟩ := hus.cons_inv;obtain rfl := hus.nil_inv;have hv0 : ∃ p cap, v0 = .slice p 0 cap := by
  generalize hy : SV.own nm 0 = y at h0;cases h0 with
  | own0 h => exact ⟨_, _, rfl⟩
  | own h hn hm =>
   injection hy with e1 e2
   subst e1 e2;exact ⟨_, _, rfl⟩
  | _ => cases hy
 obtain ⟨p, cap, rfl⟩ := hv0;have hcon := AnyF.slices_SortFunc_none sortE p cap v1 w;change Calls Tryz.prog 90 _ _ _ at hcon
 refine hcon.mono ?_;rintro e w' ⟨rfl, rfl⟩;exact ⟨.tuple #[], ρ, fp, rfl, hok, .tup rfl (by simp), .refl _ _, fun _ _ h => h, fun _ h => .inl h, fun i o ho k hk => .inl ⟨i, o, ho, hk⟩⟩
theorem qblg (l L : List XSlot) (hl : l.length ≤ 1000000) (hL : ∀ l' : List XSlot, l'.Perm l → l'.Pairwise (fun a b => ¬ cmpL b.keys a.keys < 0) → l' = L) (nm q : Nat) : SCalls Tryz.prog 90 [.own nm l.length, .fn (.func 91) [] []] [(nm, .row 38 6 (l.map xec))] q (.tup []) [(nm, .row 38 6 (L.map xec))] := by
 rcases l with _ | ⟨x, l⟩
 ·have : [] = L := hL [] (.refl _) .nil;subst this;exact qauk nm q
 ·exact qblf _ L (by simp) hl hL nm q
end
abbrev Oa (d : Nat) (op : SOp) : SOper := ⟨some d, op, none, none, 0⟩
abbrev Ob (op : SOp) : SOper := ⟨none, op, none, none, 0⟩
abbrev Oc (d : Nat) (f : FuncId) (args : List SX) : SOper := ⟨some d, .mv (.c .any), some (.c (.fn (.func f) [] []), args), none, 0⟩
abbrev Od (d : Nat) (op : SOp) (b : Nat) : SOper := ⟨some d, op, none, none, b⟩
abbrev Oe (d : Nat) (op : SOp) (t : Nat) (w : Bool) : SOper := ⟨some d, op, none, some (t, w), 0⟩
abbrev Of (d : Nat) (op : SOp) (t : Nat) (w : Bool) (b : Nat) : SOper := ⟨some d, op, none, some (t, w), b⟩
abbrev Og (op : SOp) (b : Nat) : SOper := ⟨none, op, none, none, b⟩
abbrev Oh (d : Nat) (f : FuncId) (args : List SX) (b : Nat) : SOper := ⟨some d, .mv (.c .any), some (.c (.fn (.func f) [] []), args), none, b⟩
abbrev Pm (x : Nat) : SOp := .mv (.t x)
abbrev Pa (x : Nat) : SOp := .load (.t x)
abbrev Pf (o x : Nat) : SOp := .faddr o (.t x)
abbrev Pi (z x i : Nat) : SOp := .iaddr z (.t x) (.t i)
abbrev Pn (x : Nat) : SOp := .len false (.t x)
abbrev Ps (n x : Nat) : SOp := .loads n (.t x)
abbrev Pb (o : BinOp) (x y : Nat) : SOp := .bin o (.t x) (.t y)
abbrev Pc (o : BinOp) (x : Nat) (k : Int) : SOp := .bin o (.t x) (.c (.int .i64 k))
abbrev Pt (c x : Nat) : SOp := .pick (.t c) (.c (.bool true)) (.t x)
abbrev Pu (c x : Nat) : SOp := .pick (.t c) (.t x) (.c (.bool false))
abbrev Ma (d x : Nat) : SOper := ⟨some d, .mv (.t x), none, none, 0⟩
abbrev La (d x : Nat) : SOper := ⟨some d, .load (.t x), none, none, 0⟩
abbrev Fa (d o x : Nat) : SOper := ⟨some d, .faddr o (.t x), none, none, 0⟩
abbrev Ia (d z x i : Nat) : SOper := ⟨some d, .iaddr z (.t x) (.t i), none, none, 0⟩
abbrev Ka (d : Nat) (k : Int) : SOper := ⟨some d, .mv (.c (.int .i64 k)), none, none, 0⟩
abbrev Na (d x : Nat) : SOper := ⟨some d, .len false (.t x), none, none, 0⟩
abbrev Sa (d n x : Nat) : SOper := ⟨some d, .loads n (.t x), none, none, 0⟩
abbrev Ba (d : Nat) (o : BinOp) (x y : Nat) : SOper := ⟨some d, .bin o (.t x) (.t y), none, none, 0⟩
abbrev Ca (d : Nat) (o : BinOp) (x : Nat) (k : Int) : SOper := ⟨some d, .bin o (.t x) (.c (.int .i64 k)), none, none, 0⟩
abbrev Ta (d c x : Nat) : SOper := ⟨some d, .pick (.t c) (.c (.bool true)) (.t x), none, none, 0⟩
abbrev Ua (d c x : Nat) : SOper := ⟨some d, .pick (.t c) (.t x) (.c (.bool false)), none, none, 0⟩
abbrev Va (n x v : Nat) : SOper := ⟨none, .store n (.t x) (.t v), none, none, 0⟩
abbrev Qc (d : Nat) (f : FuncId) (l : List Nat) : SOper := ⟨some d, .mv (.c .any), some (.c (.fn (.func f) [] []), l.map .t), none, 0⟩
abbrev Qh (d : Nat) (f : FuncId) (l : List Nat) (b : Nat) : SOper := ⟨some d, .mv (.c .any), some (.c (.fn (.func f) [] []), l.map .t), none, b⟩
abbrev Qi (d : Nat) (f : FuncId) (l : List Nat) (t : Nat) (w : Bool) (b : Nat) : SOper := ⟨some d, .mv (.c .any), some (.c (.fn (.func f) [] []), l.map .t), some (t, w), b⟩
abbrev Rf (l : List SOper) (v : List Nat) : SCode := .reg false l v
abbrev Rt (l : List SOper) (v : List Nat) : SCode := .reg true l v
abbrev Sf (l : List SOper) (v : List Nat) (c : SCode) : SCode := .seq (.reg false l v) c
abbrev Cn (c : Nat) (a b : SCode) : SCode := .cond (.t c) a b
abbrev Ce (c i : Nat) : SCode := .cond (.t c) .skip (.exit i)
abbrev Bl (i : Nat) (c : SCode) : SCode := .block i (.loop c)
end Go.Proofs.YtalejfkholifpaaGreat
namespace Go.Proofs.YtalejfkholifpaaGreat
open Go.RowKit
abbrev qbb3 : List SOper := [Oa 4 (.mv (.c .nil))]
abbrev qbb2 : List SOper := [Ka 5 4]
abbrev qbb1 : List SOper := [Ma 6 5, Ma 7 1, Oa 8 (.bin .mul (.c (.int .i64 2)) (.t 7)), Ba 9 .lss 6 8, Ma 10 9, Oe 11 (Pm 5) 10 true, Oe 12 (Pc .lss 11 1048576) 10 true, Ua 13 10 12]
abbrev qbb0 : List SOper := [Ma 14 5, Ca 15 .mul 14 2, Ma 5 15]
def qate : SCode := (.seq (Sf qbb1 [0, 1, 5, 13] (Ce 13 0)) (.block 1 (Rf qbb0 [0, 1, 5])))
abbrev qbbz : List SOper := [Ma 16 0, Ma 17 1, Ma 18 5, Oa 19 (.mkslice 141 4 64 [(.bool false), .nilsl, (.int .i64 0), .nilsl] (.t 18) (.t 18)), Oa 20 (.build [(.int .i64 0), (.int .i64 0), (.int .i64 0), .nilsl] [(0, 1, (.t 16)), (1, 1, (.t 17)), (3, 1, (.t 19))]), Oa 21 (.box 99 (.t 20)), Ma 4 21]
def c_xnew : SCode := (Sf qbb3 [0, 1] (Sf qbb2 [0, 1, 5] (.seq (Bl 0 qate) (Sf qbbz [4] .ret))))
abbrev qbby : List SOper := [Oa 1 (.box 46 (.t 0)), Oa 2 (.alloc 46 [(.int .i64 0), .nilsl])]
abbrev qbbx : List SOper := [Fa 3 0 1, Od 4 (Pa 3) 1, Fa 5 1 1, Od 6 (Pa 5) 4, Qh 7 32 [6] 12, Od 8 (.build [(.int .i64 0), .nilsl] [(0, 1, (.t 4)), (1, 1, (.t 7))]) 31, Og (.store 2 (.t 2) (.t 8)) 63]
def c_xown : SCode := (Sf qbby [1, 2] (.seq (Rt qbbx [2]) .ret))
abbrev qa19 : List SOper := [Ka 4 0]
abbrev qa18 : List SOper := [Oa 5 (.mv (.c (.int .u64 14695981039346656037)))]
abbrev qa17 : List SOper := [Ma 8 1, Na 9 8, Ka 10 0]
abbrev qa16 : List SOper := [Ba 11 .lss 10 9]
abbrev qa15 : List SOper := [Ia 12 1 8 10, La 13 12, Ma 7 13]
abbrev qa14 : List SOper := [Ka 14 0]
abbrev qa13 : List SOper := [Ca 15 .lss 14 8]
abbrev qa12 : List SOper := [Ma 16 5, Ma 17 7, Oa 18 (.bin .and (.t 17) (.c (.int .u64 255))), Ba 19 .xor 16 18, Oa 20 (.bin .mul (.t 19) (.c (.int .u64 1099511628211))), Ma 5 20]
abbrev qa11 : List SOper := [Ma 21 7, Oa 22 (.bin .shr (.t 21) (.c (.int .u64 8))), Ma 7 22]
abbrev qavp : List SOper := [Ca 23 .add 14 1, Ma 14 23]
def qaof : SCode := (Sf qa13 [0, 5, 7, 8, 9, 10, 14, 15] (.seq (Ce 15 2) (.seq (.block 3 (Sf qa12 [0, 5, 7, 8, 9, 10, 14] (Rf qa11 [0, 5, 7, 8, 9, 10, 14]))) (Rf qavp [0, 5, 7, 8, 9, 10, 14]))))
abbrev qavo : List SOper := [Ca 24 .add 10 1, Ma 10 24]
def qaoe : SCode := (Sf qa16 [0, 5, 8, 9, 10, 11] (.seq (Ce 11 0) (.seq (.block 1 (Sf qa15 [0, 5, 7, 8, 9, 10] (Sf qa14 [0, 5, 7, 8, 9, 10, 14] (Bl 2 qaof)))) (Rf qavo [0, 5, 8, 9, 10]))))
abbrev qavn : List SOper := [Ma 25 5, Oa 26 (.bin .shr (.t 25) (.c (.int .u64 32))), Ma 27 0, Oa 28 (.nilc (.t 27)), Fa 29 3 28, La 30 29, Na 31 30, Oa 32 (.conv .u64 (.t 31)), Ba 33 .rem 26 32, Oa 34 (.conv .i64 (.t 33)), Ma 4 34]
def qbj0 : SCode := (Sf qa19 [0, 1] (Sf qa18 [0, 1, 5] (.seq (Sf qa17 [0, 5, 8, 9, 10] (Bl 0 qaoe)) (Sf qavn [4] .ret))))
abbrev qavm : List SOper := [Ka 4 0, Oa 5 (.mv (.c (.bool false)))]
abbrev qavl : List SOper := [Ma 7 0, Ma 8 1, Qc 9 93 [7, 8], Ma 6 9]
abbrev qavk : List SOper := [Ma 10 0, Oa 11 (.nilc (.t 10)), Fa 12 3 11, La 13 12, Ma 14 6, Ia 15 4 13 14, Fa 16 0 15, La 17 16]
abbrev qavj : List SOper := [Ma 18 0, Oa 19 (.nilc (.t 18)), Fa 20 3 19, La 21 20, Ma 22 6, Ia 23 4 21 22, Fa 24 1 23, La 25 24, Ma 26 1, Qc 27 94 [25, 26]]
abbrev qavi : List SOper := [Ma 28 6, Ma 4 28, Oa 5 (.mv (.c (.bool true)))]
abbrev qavh : List SOper := [Ma 29 6, Ca 30 .add 29 1, Ma 31 0, Oa 32 (.nilc (.t 31)), Fa 33 3 32, La 34 33, Na 35 34, Ba 36 .rem 30 35, Ma 6 36]
def qala : SCode := (.seq (Sf qavk [0, 1, 6, 17] (Ce 17 0)) (.block 1 (.seq (Sf qavj [0, 1, 6, 27] (Cn 27 (Sf qavi [4, 5] .ret) .skip)) (Rf qavh [0, 1, 6]))))
abbrev qavg : List SOper := [Ma 37 6, Ma 4 37, Oa 5 (.mv (.c (.bool false)))]
def qa10 : SCode := (Sf qavm [0, 1] (Sf qavl [0, 1, 6] (.seq (Bl 0 qala) (Sf qavg [4, 5] .ret))))
abbrev qbcv : List SOper := [Oa 5 (.box 46 (.t 2)), Ka 6 0]
abbrev qbcu : List SOper := [Ma 9 1, Na 10 9, Ma 11 0, Oa 12 (.nilc (.t 11)), Fa 13 0 12, La 14 13, Ba 15 .neq 10 14]
abbrev qbct : List SOper := [Ka 6 2]
abbrev qbcs : List SOper := [Ma 17 0, Ma 18 1, Qc 19 88 [17, 18], Ma 16 19, Oa 20 (.extr (.t 16) 0), Oa 21 (.extr (.t 16) 1), Ma 7 20, Ma 8 21]
abbrev qbcr : List SOper := [Ma 23 8, Ma 22 23]
abbrev qbcq : List SOper := [Ka 6 7]
abbrev qbcp : List SOper := [Ma 25 0, Od 26 (.nilc (.t 25)) 1, Od 27 (Pf 2 26) 3, Od 28 (Pa 27) 7, Ma 29 0, Od 30 (.nilc (.t 29)) 16, Od 31 (Pf 1 30) 48, Od 32 (Pa 31) 112, Od 33 (Pb .geq 28 32) 255, Od 34 (Pm 33) 511, Of 35 (Pm 0) 34 false 1023, Of 36 (.nilc (.t 35)) 34 false 2047, Of 37 (Pf 2 36) 34 false 4095, Of 38 (Pa 37) 34 false 8191, Of 39 (Pm 0) 34 false 1023, Of 40 (.nilc (.t 39)) 34 false 17407, Of 41 (Pf 3 40) 34 false 50175, Of 42 (Pa 41) 34 false 115711, Of 43 (Pn 42) 34 false 246783, Of 44 (Pc .sub 43 1) 34 false 508927, Of 45 (Pb .geq 38 44) 34 false 1048575, Od 46 (Pt 34 45) 2097151, Od 24 (Pm 46) 4194303]
abbrev qbco : List SOper := [Ka 6 10]
abbrev qbcn : List SOper := [Ma 47 0, Od 48 (.nilc (.t 47)) 1, Od 49 (Pf 3 48) 3, Od 50 (Pa 49) 7, Ma 51 7, Ma 52 1, Qh 53 32 [52] 32, Sa 54 2 5, Qh 55 89 [54] 224, Od 56 (.build [(.bool false), .nilsl, (.int .i64 0), .nilsl] [(0, 1, (.c (.bool true))), (1, 1, (.t 53)), (2, 2, (.t 55))]) 480, Od 57 (Pi 4 50 51) 1023, Og (.store 4 (.t 57) (.t 56)) 2047]
abbrev qa2r : List SOper := [Ma 58 0, Oa 59 (.nilc (.t 58)), Fa 60 2 59, La 61 60, Ca 62 .add 61 1, Oa 63 (.nilc (.t 58)), Fa 64 2 63, Va 1 64 62]
abbrev qa2q : List SOper := [Ka 6 0]
def c_xadd : SCode := (Sf qbcv [0, 1, 5] (.seq (Sf qbcu [0, 1, 5, 15] (Cn 15 (Sf qbct [6] .ret) .skip)) (Sf qbcs [0, 1, 5, 7, 8] (.seq (.block 0 (Sf qbcr [0, 1, 5, 7, 22] (Cn 22 (Sf qbcq [6] .ret) (.seq (Rt qbcp [0, 1, 5, 7, 24]) (Cn 24 (Sf qbco [6] .ret) .skip))))) (.seq (Rt qbcn [0]) (Sf qa2r [] (Sf qa2q [6] .ret)))))))
abbrev qbcd : List SOper := [Oa 5 (.box 46 (.t 2)), Ka 6 0]
abbrev qbcc : List SOper := [Ma 9 1, Na 10 9, Ma 11 0, Oa 12 (.nilc (.t 11)), Fa 13 0 12, La 14 13, Ba 15 .neq 10 14]
abbrev qbcb : List SOper := [Ka 6 2]
abbrev qbca : List SOper := [Ma 17 0, Ma 18 1, Qc 19 88 [17, 18], Ma 16 19, Oa 20 (.extr (.t 16) 0), Oa 21 (.extr (.t 16) 1), Ma 7 20, Ma 8 21]
abbrev qbb9 : List SOper := [Ma 22 8, Oa 23 (.un .not (.t 22))]
abbrev qbb8 : List SOper := [Ka 6 9]
abbrev qbb7 : List SOper := [Ma 24 0, Od 25 (.nilc (.t 24)) 1, Od 26 (Pf 3 25) 3, Od 27 (Pa 26) 7, Ma 28 7, Sa 29 2 5, Qh 30 89 [29] 32, Od 31 (Pi 4 27 28) 127, Od 32 (Pf 2 31) 255, Og (.store 2 (.t 32) (.t 30)) 511]
abbrev qbb6 : List SOper := [Ka 6 0]
def c_xchg : SCode := (Sf qbcd [0, 1, 5] (.seq (Sf qbcc [0, 1, 5, 15] (Cn 15 (Sf qbcb [6] .ret) .skip)) (Sf qbca [0, 5, 7, 8] (.seq (Sf qbb9 [0, 5, 7, 23] (Cn 23 (Sf qbb8 [6] .ret) .skip)) (.seq (Rt qbb7 []) (Sf qbb6 [6] .ret))))))
abbrev qa2p : List SOper := [Ka 4 0]
abbrev qa2o : List SOper := [Ma 9 1, Na 10 9, Ma 11 0, Oa 12 (.nilc (.t 11)), Fa 13 0 12, La 14 13, Ba 15 .neq 10 14]
abbrev qa2n : List SOper := [Ka 4 2]
abbrev qa2m : List SOper := [Ma 17 0, Ma 18 1, Qc 19 88 [17, 18], Ma 16 19, Oa 20 (.extr (.t 16) 0), Oa 21 (.extr (.t 16) 1), Ma 5 20, Ma 6 21]
abbrev qa2l : List SOper := [Ma 22 6, Oa 23 (.un .not (.t 22))]
abbrev qa2k : List SOper := [Ka 4 9]
abbrev qa2j : List SOper := [Ma 24 0, Oa 25 (.nilc (.t 24)), Fa 26 2 25, La 27 26, Ca 28 .sub 27 1, Oa 29 (.nilc (.t 24)), Fa 30 2 29, Va 1 30 28]
abbrev qa2i : List SOper := [Ma 31 0, Oa 32 (.nilc (.t 31)), Fa 33 3 32, La 34 33, Ma 35 5, Oa 36 (.build [(.bool false), .nilsl, (.int .i64 0), .nilsl] []), Ia 37 4 34 35, Va 4 37 36]
abbrev qa2h : List SOper := [Ma 38 5, Ma 7 38]
abbrev qavw : List SOper := [Ma 39 7, Ca 40 .add 39 1, Ma 41 0, Oa 42 (.nilc (.t 41)), Fa 43 3 42, La 44 43, Na 45 44, Ba 46 .rem 40 45, Ma 7 46]
abbrev qavv : List SOper := [Ma 47 0, Oa 48 (.nilc (.t 47)), Fa 49 3 48, La 50 49, Ma 51 7, Ia 52 4 50 51, Fa 53 0 52, La 54 53, Oa 55 (.un .not (.t 54))]
abbrev qavu : List SOper := [Ka 4 0]
abbrev qavt : List SOper := [Ma 56 0, Ma 57 0, Oa 58 (.nilc (.t 57)), Fa 59 3 58, La 60 59, Ma 61 7, Ia 62 4 60 61, Fa 63 1 62, La 64 63, Qc 65 93 [56, 64], Ma 8 65]
abbrev qavs : List SOper := [Ma 66 7, Ma 67 8, Od 68 (Pb .sub 66 67) 3, Ma 69 0, Od 70 (.nilc (.t 69)) 8, Od 71 (Pf 3 70) 24, Od 72 (Pa 71) 56, Od 73 (Pn 72) 120, Od 74 (Pb .add 68 73) 255, Ma 75 0, Od 76 (.nilc (.t 75)) 512, Od 77 (Pf 3 76) 1536, Od 78 (Pa 77) 3584, Od 79 (Pn 78) 7680, Od 80 (Pb .rem 74 79) 16383, Ma 81 7, Ma 82 5, Od 83 (Pb .sub 81 82) 98304, Ma 84 0, Od 85 (.nilc (.t 84)) 262144, Od 86 (Pf 3 85) 786432, Od 87 (Pa 86) 1835008, Od 88 (Pn 87) 3932160, Od 89 (Pb .add 83 88) 8355840, Ma 90 0, Od 91 (.nilc (.t 90)) 16777216, Od 92 (Pf 3 91) 50331648, Od 93 (Pa 92) 117440512, Od 94 (Pn 93) 251658240, Od 95 (Pb .rem 89 94) 536838144, Od 96 (Pb .geq 80 95) 1073741823]
def qaoh : SCode := (.block 3 (Sf qavw [0, 5, 7] (.seq (Sf qavv [0, 5, 7, 55] (Cn 55 (Sf qavu [4] .ret) .skip)) (Sf qavt [0, 5, 7, 8] (.seq (Rt qavs [0, 5, 7, 96]) (Cn 96 (.exit 2) .skip))))))
abbrev qavr : List SOper := [Ma 97 0, Od 98 (.nilc (.t 97)) 1, Od 99 (Pf 3 98) 3, Od 100 (Pa 99) 7, Ma 101 5, Ma 102 0, Od 103 (.nilc (.t 102)) 32, Od 104 (Pf 3 103) 96, Od 105 (Pa 104) 224, Ma 106 7, Od 107 (Pi 4 105 106) 992, Od 108 (Ps 4 107) 2016, Od 109 (Pi 4 100 101) 4095, Og (.store 4 (.t 109) (.t 108)) 8191]
abbrev qavq : List SOper := [Ma 110 7, Ma 5 110]
def qaog : SCode := (.block 1 (Sf qa2i [0, 5] (Sf qa2h [0, 5, 7] (.seq (Bl 2 qaoh) (.seq (Rt qavr [0, 7]) (Rf qavq [0, 5]))))))
def qbj2 : SCode := (Sf qa2p [0, 1] (.seq (Sf qa2o [0, 1, 15] (Cn 15 (Sf qa2n [4] .ret) .skip)) (Sf qa2m [0, 5, 6] (.seq (Sf qa2l [0, 5, 23] (Cn 23 (Sf qa2k [4] .ret) .skip)) (Sf qa2j [0, 5] (Bl 0 qaog))))))
abbrev qa2g : List SOper := [Oa 4 (.alloc 46 [(.int .i64 0), .nilsl]), Oa 5 (.mv (.c (.bool false)))]
abbrev qa2f : List SOper := [Ma 8 1, Na 9 8, Ma 10 0, Oa 11 (.nilc (.t 10)), Fa 12 0 11, La 13 12, Ba 14 .neq 9 13]
abbrev qa2e : List SOper := [Oa 15 (.build [(.int .i64 0), .nilsl] []), Va 2 4 15, Oa 5 (.mv (.c (.bool false)))]
abbrev qa2d : List SOper := [Ma 17 0, Ma 18 1, Qc 19 88 [17, 18], Ma 16 19, Oa 20 (.extr (.t 16) 0), Oa 21 (.extr (.t 16) 1), Ma 6 20, Ma 7 21]
abbrev qa2c : List SOper := [Ma 22 7, Oa 23 (.un .not (.t 22))]
abbrev qa2b : List SOper := [Oa 24 (.build [(.int .i64 0), .nilsl] []), Va 2 4 24, Oa 5 (.mv (.c (.bool false)))]
abbrev qa2a : List SOper := [Ma 25 0, Oa 26 (.nilc (.t 25)), Fa 27 3 26, La 28 27, Ma 29 6, Ia 30 4 28 29, Fa 31 2 30, Sa 32 2 31, Qc 33 89 [32], Va 2 4 33, Oa 5 (.mv (.c (.bool true)))]
def qbj1 : SCode := (Sf qa2g [0, 1, 4] (.seq (Sf qa2f [0, 1, 4, 14] (Cn 14 (Sf qa2e [4, 5] .ret) .skip)) (Sf qa2d [0, 4, 6, 7] (.seq (Sf qa2c [0, 4, 6, 23] (Cn 23 (Sf qa2b [4, 5] .ret) .skip)) (Sf qa2a [4, 5] .ret)))))
abbrev qbb5 : List SOper := [Ka 2 0]
abbrev qbb4 : List SOper := [Ma 3 0, Oa 4 (.nilc (.t 3)), Fa 5 2 4, La 6 5, Ma 2 6]
def c_xlen : SCode := (Sf qbb5 [0] (Sf qbb4 [2] .ret))
abbrev qbcm : List SOper := [Oa 2 (.mv (.c .nilsl))]
abbrev qbcl : List SOper := [Oa 3 (.mv (.c .nilsl))]
abbrev qbck : List SOper := [Ma 6 0, Oa 7 (.nilc (.t 6)), Fa 8 3 7, La 9 8, Na 10 9, Ka 11 0]
abbrev qbcj : List SOper := [Ba 12 .lss 11 10]
abbrev qbci : List SOper := [Ia 13 4 9 11, Sa 14 4 13, Oa 5 (.alloc 141 [(.bool false), .nilsl, (.int .i64 0), .nilsl]), Va 4 5 14]
abbrev qbch : List SOper := [Fa 15 0 5, La 16 15]
abbrev qbcg : List SOper := [Ma 17 3, Fa 18 1 5, Od 19 (Pa 18) 2, Qh 20 32 [19] 6, Fa 21 2 5, Od 22 (Pf 0 21) 16, Od 23 (Pa 22) 48, Fa 24 2 5, Od 25 (Pf 1 24) 128, Od 26 (Pa 25) 384, Qh 27 32 [26] 910, Od 28 (.build [.nilsl, .nilsl, (.int .i64 0), (.int .i64 0), (.int .i64 0), .nilsl] [(0, 1, (.t 20)), (4, 1, (.t 23)), (5, 1, (.t 27))]) 2046, Od 29 (.mkrow 38 6 1 [.nilsl, .nilsl, (.int .i64 0), (.int .i64 0), (.int .i64 0), .nilsl] [(0, (.t 28))]) 4094, Od 30 (.app 38 6 96 (.t 17) (.t 29)) 8191, Od 3 (Pm 30) 16383]
abbrev qbcf : List SOper := [Ca 31 .add 11 1, Ma 11 31]
def qatf : SCode := (Sf qbcj [3, 9, 10, 11, 12] (.seq (Ce 12 0) (.seq (.block 1 (Sf qbci [3, 5, 9, 10, 11] (Sf qbch [3, 5, 9, 10, 11, 16] (Cn 16 (Rt qbcg [3, 9, 10, 11]) .skip)))) (Rf qbcf [3, 9, 10, 11]))))
abbrev qbce : List SOper := [Ma 32 3, Oc 33 90 [(.t 32), (.c (.fn (.func 91) [] []))]]
abbrev qaoi : List SOper := [Ma 34 3, Ma 2 34]
def c_xall : SCode := (Sf qbcm [0] (Sf qbcl [0, 3] (.seq (Sf qbck [3, 9, 10, 11] (Bl 0 qatf)) (Sf qbce [3] (Sf qaoi [2] .ret)))))
abbrev qbd8 : List SOper := [Oa 4 (.mv (.c (.bool false)))]
abbrev qbd7 : List SOper := [Ma 6 0, Na 7 6, Ma 8 1, Na 9 8, Ba 10 .neq 7 9]
abbrev qbd6 : List SOper := [Oa 4 (.mv (.c (.bool false)))]
abbrev qbd5 : List SOper := [Ma 11 0, Na 12 11, Ka 13 0]
abbrev qbd4 : List SOper := [Ba 14 .lss 13 12]
abbrev qbd3 : List SOper := [Ma 15 13, Ma 5 15]
abbrev qbd2 : List SOper := [Ma 16 0, Ma 17 5, Od 18 (Pi 1 16 17) 3, Od 19 (Pa 18) 7, Ma 20 1, Ma 21 5, Od 22 (Pi 1 20 21) 48, Od 23 (Pa 22) 112, Od 24 (Pb .neq 19 23) 255]
abbrev qbd1 : List SOper := [Oa 4 (.mv (.c (.bool false)))]
abbrev qbd0 : List SOper := [Ca 25 .add 13 1, Ma 13 25]
def qatl : SCode := (Sf qbd4 [0, 1, 12, 13, 14] (.seq (Ce 14 0) (.seq (.block 1 (Sf qbd3 [0, 1, 5, 12, 13] (.seq (Rt qbd2 [0, 1, 12, 13, 24]) (Cn 24 (Sf qbd1 [4] .ret) .skip)))) (Rf qbd0 [0, 1, 12, 13]))))
abbrev qa32 : List SOper := [Oa 4 (.mv (.c (.bool true)))]
def qbop : SCode := (Sf qbd8 [0, 1] (.seq (Sf qbd7 [0, 1, 10] (Cn 10 (Sf qbd6 [4] .ret) .skip)) (.seq (Sf qbd5 [0, 1, 12, 13] (Bl 0 qatl)) (Sf qa32 [4] .ret))))
def PackN (N : Nat) (R : Hp → Prop) (w : World) (A Fp : Nat → Prop) (b : Nat) : Prop :=
 ∃ (h : Hp) (ρ : qact) (fp : Nat → Nat → Prop) (c : Nat), R h ∧ ρ 0 = some (some (b, c)) ∧ (∀ id, N ≤ id → ρ id = none) ∧ (∀ id o, geth h id = some o → ObjRep w A ρ id (fp id) o) ∧
  (∀ id id' o o', id ≠ id' → geth h id = some o → geth h id' = some o' → ∀ k, fp id k → ¬ fp id' k) ∧ (∀ k, Live h fp k → k < w.heap.size) ∧ ∀ k, Fp k ↔ Live h fp k
def qaqu (N : Nat) (R : Hp → Prop) : AbsI where
 I := PackN N R
 lt := by rintro w A Fp b ⟨h, ρ, fp, c, _, _, _, _, _, h6, h7⟩ k hk; exact h6 k ((h7 k).1 hk)
 keep := by
  rintro w w' A A' Fp b ⟨h, ρ, fp, c, h1, h2, h3, h4, h5, h6, h7⟩ hs hA hb;exact ⟨h, ρ, fp, c, h1, h2, h3, fun id o ho => (h4 id o ho).mono ⟨hs, hA, fun _ _ h => h⟩ fun k hk => hb k ((h7 k).2 ⟨id, o, ho, hk⟩), h5, fun k hk => Nat.lt_of_lt_of_le (h6 k hk) hs.size, h7⟩
def RenO (σ : Nat → Nat) : SObj → Prop
 | .cells _ cs => cs.map (Go.Proofs.YtalejfkholifpaaGreat.ren σ) = cs
 | .row _ _ es => es.map (·.map (Go.Proofs.YtalejfkholifpaaGreat.ren σ)) = es
 | .abs _ => True
theorem RenO.objM {σ : Nat → Nat} {o : SObj} (h : RenO σ o) : ObjM σ o o := by
 cases o with
 | cells t cs => exact ⟨rfl, by rw [show cs.map (Go.Proofs.YtalejfkholifpaaGreat.ren σ) = cs from h]; exact .refl _⟩
 | row e z es => exact ⟨rfl, rfl, by rw [show es.map (·.map (Go.Proofs.YtalejfkholifpaaGreat.ren σ)) = es from h]; exact .refl _⟩
 | abs I => rfl
def RenH (σ : Nat → Nat) : Hp → Prop
 | [] => True
 | (_, o) :: r => RenO σ o ∧ RenH σ r
theorem RenH.get {σ : Nat → Nat} : ∀ {h : Hp}, RenH σ h → ∀ id o, geth h id = some o → RenO σ o
 | [], _, id, o, h => by cases h
 | (i, x) :: r, h, id, o, hg => by
  simp only [geth] at hg;split at hg
  ·cases hg; exact h.1
  ·exact RenH.get h.2 id o hg
theorem qbiy {X : Cx} {s : SSt} {N : Nat} {R : Hp → Prop} {hh hp' : Hp} {t : TypeId} {cs : List SV} (hR : R hh) (hN : 0 < N) (hroot : geth hh 0 = some (.cells t cs)) (hren : ∀ σ : Nat → Nat, (∀ i, i < N → σ i = i) → RenH σ hh) (hids : ∀ i ∈ idsH hh, i < N) (hsub : SubH s.hp hh) (h0 : geth hp' 0 = some (.abs (qaqu N R)))
  (hrest : ∀ id o, id ≠ 0 → geth hp' id = some o → geth s.hp id = some o ∧ geth hh id = none) : Wk X s ⟨s.sl, hp', s.nx⟩ := by
 intro ρ fp a w hs;have hg := hsub.get;let fp' : Nat → Nat → Prop := fun id k => (id = 0 ∧ Live hh fp k) ∨ (id ≠ 0 ∧ fp id k)
 have f0 : fp' 0 = Live hh fp := by funext k; simp [fp']
 have f1 : ∀ id, id ≠ 0 → fp' id = fp id := fun id h => by funext k; simp [fp', h]
 have hlive : ∀ k, Live hh fp k → Live s.hp fp k := fun k ⟨i, o, h1, h2⟩ => ⟨i, o, hg _ _ h1, h2⟩
 have hav : ∀ k, Av X hp' fp' k → Av X s.hp fp k := by
  rintro k (hO | ⟨id, o, ho, hk⟩)
  ·exact .inl hO
  ·by_cases e : id = 0
   ·subst e; rw [f0] at hk; exact .inr (hlive k hk)
   ·rw [f1 id e] at hk; exact .inr ⟨id, o, (hrest id o e ho).1, hk⟩
 let σ : Nat → Nat := fun i => if i < N then i else s.nx
 have hσ : ∀ {id o}, geth hh id = some o → id < N ∧ σ id = id := fun {id o} ho => by
  have := hids id (qad2 (by rw [ho]; simp));exact ⟨this, if_pos this⟩
 refine ⟨ρ, fp', ⟨⟨fun id o ho => ?_, fun id id' o o' hne ho ho' k hk hk' => ?_, fun id o ho k hk => ?_, hs.sim.h.step, hs.sim.h.keep⟩, hs.sim.tmps, hs.sim.defers, fun u => (hs.sim.slots u).weaken fun k hk _ => hav k hk⟩, hs.fresh, hs.le⟩
 ·by_cases e : id = 0
  ·subst e;rw [h0] at ho; cases ho
   obtain ⟨b, c, vs, q1, _⟩ := hs.sim.h.objs 0 _ (hg _ _ hroot);refine ⟨b, c, q1, hh, fun i => ρ (σ i), fp, c, hR, by show ρ (σ 0) = _; rw [(hσ hroot).2]; exact q1, fun i hi => ?_, fun i o ho => ?_, fun i i' o o' hne ho ho' => hs.sim.h.disj i i' o o' hne (hg _ _ ho) (hg _ _ ho'), fun k ⟨i, o, ho, hk⟩ => (hs.sim.h.turn i o (hg _ _ ho) k hk).2, fun k => by rw [f0]⟩
   ·show ρ (if i < N then i else s.nx) = none;rw [if_neg (by omega)]; exact hs.fresh _ (Nat.le_refl _)
   ·have h3 := hs.sim.h.objs i o (hg _ _ ho);have h6 := ((hren σ fun i hi => if_pos hi).get i o ho).objM;have h8 : ObjRep w (Av X s.hp fp) ρ (σ i) (fp i) o := by rw [(hσ ho).2]; exact h3
    exact (h6.back h8).weaken fun k hk _ => hav k hk
  ·rw [f1 id e];exact (hs.sim.h.objs id o (hrest id o e ho).1).weaken fun k hk _ => hav k hk
 ·by_cases e : id = 0
  ·subst e;rw [f0] at hk;obtain ⟨i, oi, hi, hk⟩ := hk;have e' : id' ≠ 0 := Ne.symm hne;rw [f1 id' e'] at hk';obtain ⟨h1, h2⟩ := hrest id' o' e' ho';exact hs.sim.h.disj i id' oi o' (fun q => by rw [q, h2] at hi; cases hi) (hg _ _ hi) h1 k hk hk'
  ·rw [f1 id e] at hk;obtain ⟨h1, h2⟩ := hrest id o e ho;by_cases e' : id' = 0
   ·subst e';rw [f0] at hk';obtain ⟨i, oi, hi, hk'⟩ := hk';exact hs.sim.h.disj id i o oi (fun q => by rw [← q, h2] at hi; cases hi) h1 (hg _ _ hi) k hk hk'
   ·rw [f1 id' e'] at hk';exact hs.sim.h.disj id id' o o' hne h1 (hrest id' o' e' ho').1 k hk hk'
 ·by_cases e : id = 0
  ·subst e;rw [f0] at hk;obtain ⟨i, oi, hi, hk⟩ := hk;exact hs.sim.h.turn i oi (hg _ _ hi) k hk
  ·rw [f1 id e] at hk;exact hs.sim.h.turn id o (hrest id o e ho).1 k hk
theorem qaf1 {X : Cx} {N : Nat} {R : Hp → Prop} {c : SCode} {Q : SExit → SSt → Prop} {sl : Sl} (hm : X.m ≤ 1) (hN : 0 < N) (hroot : ∀ hh, R hh → (∃ t cs, geth hh 0 = some (.cells t cs)) ∧ RenH (fun i => if i = 0 then N else i) hh)
  (k : ∀ hh, R hh → SWp X c Q ⟨sl, hh, N⟩) : SWp X c Q ⟨sl, [(0, .abs (qaqu N R))], 1⟩ := fun code hc ρ fp a w hs => by
 obtain ⟨b, c0, hρ0, hh, ρh, fph, c1, hR, hρh0, hnone, hobj, hdis, hlt, hiff⟩ := hs.sim.h.objs 0 _ (show geth [(0, SObj.abs (qaqu N R))] 0 = some _ from rfl);obtain ⟨⟨t, cs, hr0⟩, hren⟩ := hroot hh hR;let σ : Nat → Nat := fun i => if i = 0 then N else i
 let ρ' : qact := fun id => if id = 0 then ρ 0 else ρh id
 have hρ' : ∀ id p, ρh (σ id) = some p → ρ' id = some p := fun id p hp => by
  by_cases e : id = 0
  ·have : σ id = N := if_pos e;rw [this, hnone N (Nat.le_refl _)] at hp; cases hp
  ·have h1 : σ id = id := if_neg e;rw [h1] at hp;show (if id = 0 then _ else _) = _;rw [if_neg e]; exact hp
 have hlv : ∀ k, Live hh fph k ↔ Live [(0, SObj.abs (qaqu N R))] fp k := fun k => by
  rw [← hiff k];constructor
  ·intro h; exact ⟨0, _, rfl, h⟩
  ·rintro ⟨id, o, ho, hk⟩;simp only [geth] at ho;split at ho
   ·rename_i e; subst e; exact hk
   ·cases ho
 have hav : ∀ k, Av X hh fph k → Av X [(0, SObj.abs (qaqu N R))] fp k := fun k hk => hk.imp (fun h => h) fun h => (hlv k).1 h
 refine k hh hR code hc ρ' fph a w ⟨⟨⟨fun id o ho => ?_, hdis, fun id o ho k hk => ?_, hs.sim.h.step, fun id hid => ?_⟩, hs.sim.tmps, hs.sim.defers, fun u => ?_⟩, fun id hid => ?_, by show X.m ≤ N; omega⟩
 ·have h1 := hobj id o ho;have h2 := (hren.get id o ho).objM;by_cases e : id = 0
  ·subst e;rw [hr0] at ho; cases ho
   obtain ⟨b', c', vs, q1, q2, ⟨q3, q4⟩, q5⟩ := h1;rw [hρh0] at q1; cases q1
   have q6 : Reps w _ (fun i => ρh (σ i)) cs vs := qaek (by rw [show cs.map (Go.Proofs.YtalejfkholifpaaGreat.ren σ) = cs from hren.get 0 _ hr0]; exact q3);refine ⟨b, c0, vs, ?_, q2, ⟨q6.mono (.refl _ _) (fun k hk _ => hav k hk) hρ', q4⟩, q5⟩;show (if 0 = 0 then _ else _) = _;rw [if_pos rfl]; exact hρ0
  ·have h8 : ObjRep w (Av X [(0, SObj.abs (qaqu N R))] fp) ρh (σ id) (fph id) o := by rw [show σ id = id from if_neg e]; exact h1
   exact (h2.back h8).mono ⟨.refl _ _, fun k hk _ => hav k hk, hρ'⟩ fun _ _ => rfl
 ·exact hs.sim.h.turn 0 _ rfl k ((hiff k).2 ⟨id, o, ho, hk⟩)
 ·have e : id = 0 := by omega
  subst e;show (if 0 = 0 then _ else _) = _;rw [if_pos rfl]; exact hs.sim.h.keep 0 hid
 ·refine (hs.sim.slots u).mono (.refl _ _) (fun k hk _ => hav k hk) fun id p hp => ?_
  by_cases e : id = 0
  ·subst e;show (if 0 = 0 then _ else _) = _;rw [if_pos rfl]; exact hp
  ·rw [hs.fresh id (by show 1 ≤ id; omega)] at hp; cases hp
 ·show (if id = 0 then _ else _) = _;have : N ≤ id := hid;rw [if_neg (by omega)]; exact hnone id this
theorem qah3 {P : Program} {f : FuncId} {args : List SV} {N : Nat} {hh : Hp} {r : SV} (he : Enters P f) (hN : 0 < N) (hren : ∀ σ : Nat → Nat, (∀ i, i < N → σ i = i) → RenH σ hh) (hids : ∀ i ∈ idsH hh, i < N)
  (h : SCalls P f (.ptr 0 0 :: args) hh N r hh) (ha : ∀ σ, args.map (Go.Proofs.YtalejfkholifpaaGreat.ren σ) = args) (hr : ∀ σ, Go.Proofs.YtalejfkholifpaaGreat.ren σ r = r) (id q : Nat) : SCalls P f (.ptr id 0 :: args) [(id, .abs (qaqu N fun h => h = hh))] q r [(id, .abs (qaqu N fun h => h = hh))] := by
 refine qado he (fun O Fp w b vs hI hO hd hv => ?_) ha id q;obtain ⟨h1, ρ, fp, c, hR, h0, hn, hobj, hdis, hlt, hF⟩ := hI;have hR' : h1 = hh := hR;subst hR';have hA : (fun k => O k ∨ Fp k) = fun k => O k ∨ Live h1 fp k := by funext k; rw [hF]
 rw [hA] at hobj hv;refine (h.2 O ρ fp w (.pointer (some ⟨b, 0, none⟩) :: vs) ⟨hobj, hdis, fun k hk => ⟨hlt k hk, hd k ((hF k).2 hk)⟩, hO⟩ (Reps.cons (.ptr h0) (hv.mono (.refl _ _) (fun _ h _ => h) fun _ _ h => by cases h)) (fun id h3 _ => hn id h3)).mono ?_;rintro e w' ⟨v, ρ', fp', rfl, q1, q2, q3, q4, q5, q6⟩;have hfr : ρ' (N + 8) = none := by
  cases e : ρ' (N + 8) with
  | none => rfl
  | some p =>
   rcases q5 (N + 8) (by rw [e]; simp) with h3 | h3
   ·exact absurd (hn _ (by omega)) h3
   ·omega
 let σ : Nat → Nat := fun i => if i < N then i else N + 8
 have hσ : ∀ {i o}, geth h1 i = some o → i < N ∧ σ i = i := fun {i o} ho => by
  have := hids i (qad2 (by rw [ho]; simp));exact ⟨this, if_pos this⟩
 refine ⟨v, fun k => Live h1 fp' k, rfl, ⟨h1, fun i => ρ' (σ i), fp', c, rfl, ?_, fun i hi => ?_, fun i o ho => ?_, q1.disj, fun k hk => (q1.lt k hk).1, fun k => Iff.rfl⟩, fun k hk => ?_, q3.mono fun k hk => (hF k).2 hk, ?_⟩
 ·show ρ' (σ 0) = _;rw [show σ 0 = 0 from if_pos hN]; exact q4 _ _ h0
 ·show ρ' (σ i) = none;rw [show σ i = N + 8 from if_neg (by omega)]; exact hfr
 ·have h6 := ((hren σ fun i hi => if_pos hi).get i o ho).objM;have h8 := q1.objs i o ho;have h9 : ObjRep w' (fun k => O k ∨ Live h1 fp' k) ρ' (σ i) (fp' i) o := by rw [(hσ ho).2]; exact h8
  exact h6.back h9
 ·obtain ⟨i, o, ho, hk2⟩ := hk;exact (q6 i o ho k hk2).imp (fun h => (hF k).2 h) fun h => h
 ·have h1 : RepV w' (fun k => O k ∨ Live h1 fp' k) ρ' (Go.Proofs.YtalejfkholifpaaGreat.ren (fun _ => N + 8) r) v := by rw [hr]; exact q2
  have h2 := qal7 h1;have e : (fun id => ρ' ((fun _ => N + 8) id)) = noPl := by funext id; show ρ' (N + 8) = _; rw [hfr]; rfl
  rw [e] at h2; exact h2
theorem qbla {X : Cx} {c : SCode} {Q : SExit → SSt → Prop} {s : SSt} (t id : Nat) (h0 : gets s.sl t = .own id 0) (h1 : SWp X c Q ⟨setS s.sl t .nilsl, s.hp, s.nx⟩) (h2 : SWp X c Q ⟨setS s.sl t .mt, s.hp, s.nx⟩) : SWp X c Q s := fun code hc ρ fp a w hs => by
 have key : ∀ x, RepV w (Av X s.hp fp) ρ x (a.tmps.getD t undef) → SimF X ρ fp ⟨setS s.sl t x, s.hp, s.nx⟩ a w := fun x hx => ⟨⟨hs.sim.h, hs.sim.tmps, hs.sim.defers, fun u => by
  show RepV w _ ρ (gets (setS s.sl t x) u) _;rw [qamk];by_cases e : u = t
  ·subst e; rw [if_pos rfl]; exact hx
  ·rw [if_neg e]; exact hs.sim.slots u⟩, hs.fresh, hs.le⟩
 have h3 := hs.sim.slots t;rw [h0] at h3;generalize a.tmps.getD t undef = v at h3 key;cases h3 with
 | own0 _ => exact h1 code hc ρ fp a w (key _ .nilsl)
 | own _ _ hm => exact h2 code hc ρ fp a w (key _ (.mt hm))
theorem qah4 {P : Program} {f : FuncId} {args : List SV} {I1 I2 : AbsI} {r : SV} (h : SCalls P f (.ptr 0 0 :: args) [(0, .abs I1)] 1 r [(0, .abs I2)]) (ha : ∀ σ, args.map (Go.Proofs.YtalejfkholifpaaGreat.ren σ) = args) (hr : ∀ σ, Go.Proofs.YtalejfkholifpaaGreat.ren σ r = r) (hk : ok2 r = true) (id q : Nat) (hq : id < q) : SCalls P f (.ptr id 0 :: args) [(id, .abs I1)] q r [(id, .abs I2)] := by
 have e0 : sg [id] q 0 = id := rfl;refine qacp [id] h rfl (by simp) (by simp; omega) ?_ ?_ (by simp [idsH]) (hr _).symm hk ?_ (by simp [idsH]) (by simp [idsH, e0])
 ·rw [List.map_cons, ha]; simp [Go.Proofs.YtalejfkholifpaaGreat.ren, ren1, ren0, e0]
 ·exact ⟨⟨.abs I1, by rw [e0]; simp [geth], rfl⟩, trivial⟩
 ·exact ⟨⟨.abs I2, by rw [e0]; simp [geth], rfl⟩, trivial⟩
def qaov : List SOper := [⟨(some 4), .mv (.c (.bool false)), none, none, 0⟩]
def qaou : List SOper := [⟨(some 6), .mv (.t 0), none, none, 0⟩,
 ⟨(some 7), .len false (.t 6), none, none, 0⟩,
 ⟨(some 8), .mv (.t 1), none, none, 0⟩,
 ⟨(some 9), .len false (.t 8), none, none, 0⟩,
 ⟨(some 10), .bin .neq (.t 7) (.t 9), none, none, 0⟩]
def qaot : List SOper := [⟨(some 4), .mv (.c (.bool false)), none, none, 0⟩]
def qaos : List SOper := [⟨(some 5), .mv (.c (.int .i64 0)), none, none, 0⟩]
def qaor : List SOper := [⟨(some 11), .mv (.t 5), none, none, 0⟩,
 ⟨(some 12), .mv (.t 0), none, none, 0⟩,
 ⟨(some 13), .len false (.t 12), none, none, 0⟩,
 ⟨(some 14), .bin .lss (.t 11) (.t 13), none, none, 0⟩]
def qaoq : List SOper := [⟨(some 17), .mv (.t 0), none, none, 0⟩,
 ⟨(some 18), .mv (.t 5), none, none, 0⟩,
 ⟨(some 19), .iaddr 1 (.t 17) (.t 18), none, none, 3⟩,
 ⟨(some 20), .load (.t 19), none, none, 7⟩,
 ⟨(some 21), .mv (.t 1), none, none, 0⟩,
 ⟨(some 22), .mv (.t 5), none, none, 0⟩,
 ⟨(some 23), .iaddr 1 (.t 21) (.t 22), none, none, 48⟩,
 ⟨(some 24), .load (.t 23), none, none, 112⟩,
 ⟨(some 25), .bin .neq (.t 20) (.t 24), none, none, 255⟩]
def qaop : List SOper := [⟨(some 4), .mv (.c (.bool false)), none, none, 0⟩]
def qaoo : List SOper := [⟨(some 15), .mv (.t 5), none, none, 0⟩,
 ⟨(some 16), .bin .add (.t 15) (.c (.int .i64 1)), none, none, 0⟩,
 ⟨(some 5), .mv (.t 16), none, none, 0⟩]
def qaow : SCode := (.seq (Sf qaor [0, 1, 5, 14] (Ce 14 0)) (.seq (.block 1 (.seq (Rt qaoq [0, 1, 5, 25]) (Cn 25 (Sf qaop [4] .ret) .skip))) (Rf qaoo [0, 1, 5])))
def qaon : List SOper := [⟨(some 4), .mv (.c (.bool true)), none, none, 0⟩]
def qbj8 : SCode := (Sf qaov [0, 1] (.seq (Sf qaou [0, 1, 10] (Cn 10 (Sf qaot [4] .ret) .skip)) (.seq (Sf qaos [0, 1, 5] (Bl 0 qaow)) (Sf qaon [4] .ret))))
def qa7t : List SOper := [⟨(some 1), .box 38 (.t 0), none, none, 0⟩,
 ⟨(some 2), .alloc 38 [.nilsl, .nilsl, (.int .i64 0), (.int .i64 0), (.int .i64 0), .nilsl], none, none, 0⟩]
def qa7s : List SOper := [⟨(some 3), .mv (.c .nilsl), none, none, 0⟩,
 ⟨(some 4), .mv (.c .nilsl), none, none, 0⟩,
 ⟨(some 5), .mv (.c .nilsl), none, none, 0⟩]
def qa7r : List SOper := [⟨(some 6), .mv (.t 3), none, none, 0⟩,
 ⟨(some 7), .faddr 0 (.t 1), none, none, 0⟩,
 ⟨(some 8), .load (.t 7), none, none, 2⟩,
 ⟨(some 9), .app 70 1 8 (.t 6) (.t 8), none, none, 7⟩,
 ⟨(some 10), .mv (.t 4), none, none, 0⟩,
 ⟨(some 11), .faddr 1 (.t 1), none, none, 0⟩,
 ⟨(some 12), .load (.t 11), none, none, 32⟩,
 ⟨(some 13), .app 70 1 8 (.t 10) (.t 12), none, none, 127⟩,
 ⟨(some 14), .faddr 2 (.t 1), none, none, 0⟩,
 ⟨(some 15), .load (.t 14), none, none, 256⟩,
 ⟨(some 16), .faddr 3 (.t 1), none, none, 0⟩,
 ⟨(some 17), .load (.t 16), none, none, 1024⟩,
 ⟨(some 18), .faddr 4 (.t 1), none, none, 0⟩,
 ⟨(some 19), .load (.t 18), none, none, 4096⟩,
 ⟨(some 20), .mv (.t 5), none, none, 0⟩,
 ⟨(some 21), .faddr 5 (.t 1), none, none, 0⟩,
 ⟨(some 22), .load (.t 21), none, none, 32768⟩,
 ⟨(some 23), .app 70 1 8 (.t 20) (.t 22), none, none, 114943⟩,
 ⟨(some 24), .build [.nilsl, .nilsl, (.int .i64 0), (.int .i64 0), (.int .i64 0), .nilsl] [(0, 1, (.t 9)), (1, 1, (.t 13)), (2, 1, (.t 15)), (3, 1, (.t 17)), (4, 1, (.t 19)), (5, 1, (.t 23))], none, none, 262143⟩,
 ⟨none, .store 6 (.t 2) (.t 24), none, none, 524287⟩]
def c_own : SCode := (Sf qa7t [1, 2] (Sf qa7s [1, 2, 3, 4, 5] (.seq (Rt qa7r [2]) .ret)))
def qaty : List SOper := [⟨(some 1), .box 38 (.t 0), none, none, 0⟩,
 ⟨(some 2), .alloc 38 [.nilsl, .nilsl, (.int .i64 0), (.int .i64 0), (.int .i64 0), .nilsl], none, none, 0⟩]
def qatx : List SOper := [⟨(some 3), .loads 6 (.t 1), none, none, 0⟩,
 ⟨(some 4), .mv (.c .any), some ((.c (.fn (.func 41) [] [])), [(.t 3)]), none, 0⟩,
 ⟨none, .store 6 (.t 2) (.t 4), none, none, 0⟩]
def c_ownE : SCode := (Sf qaty [1, 2] (Sf qatx [2] .ret))
def qato : List SOper := [⟨(some 2), .box 38 (.t 0), none, none, 0⟩,
 ⟨(some 3), .box 38 (.t 1), none, none, 0⟩,
 ⟨(some 4), .mv (.c (.bool false)), none, none, 0⟩]
def qatn : List SOper := [⟨(some 5), .faddr 0 (.t 2), none, none, 0⟩,
 ⟨(some 6), .load (.t 5), none, none, 0⟩,
 ⟨(some 7), .faddr 0 (.t 3), none, none, 0⟩,
 ⟨(some 8), .load (.t 7), none, none, 0⟩,
 ⟨(some 9), .mv (.c .any), some ((.c (.fn (.func 39) [] [])), [(.t 6), (.t 8)]), none, 0⟩,
 ⟨(some 10), .mv (.t 9), none, none, 0⟩,
 ⟨(some 11), .faddr 1 (.t 2), none, (some (10, true)), 0⟩,
 ⟨(some 12), .load (.t 11), none, (some (10, true)), 0⟩,
 ⟨(some 13), .faddr 1 (.t 3), none, (some (10, true)), 0⟩,
 ⟨(some 14), .load (.t 13), none, (some (10, true)), 0⟩,
 ⟨(some 15), .mv (.c .any), some ((.c (.fn (.func 39) [] [])), [(.t 12), (.t 14)]), (some (10, true)), 0⟩,
 ⟨(some 16), .pick (.t 10) (.t 15) (.c (.bool false)), none, none, 0⟩,
 ⟨(some 17), .mv (.t 16), none, none, 0⟩,
 ⟨(some 18), .faddr 2 (.t 2), none, (some (17, true)), 0⟩,
 ⟨(some 19), .load (.t 18), none, (some (17, true)), 0⟩,
 ⟨(some 20), .faddr 2 (.t 3), none, (some (17, true)), 0⟩,
 ⟨(some 21), .load (.t 20), none, (some (17, true)), 0⟩,
 ⟨(some 22), .bin .eql (.t 19) (.t 21), none, (some (17, true)), 0⟩,
 ⟨(some 23), .pick (.t 17) (.t 22) (.c (.bool false)), none, none, 0⟩,
 ⟨(some 24), .mv (.t 23), none, none, 0⟩,
 ⟨(some 25), .faddr 3 (.t 2), none, (some (24, true)), 0⟩,
 ⟨(some 26), .load (.t 25), none, (some (24, true)), 0⟩,
 ⟨(some 27), .faddr 3 (.t 3), none, (some (24, true)), 0⟩,
 ⟨(some 28), .load (.t 27), none, (some (24, true)), 0⟩,
 ⟨(some 29), .bin .eql (.t 26) (.t 28), none, (some (24, true)), 0⟩,
 ⟨(some 30), .pick (.t 24) (.t 29) (.c (.bool false)), none, none, 0⟩,
 ⟨(some 31), .mv (.t 30), none, none, 0⟩,
 ⟨(some 32), .faddr 4 (.t 2), none, (some (31, true)), 0⟩,
 ⟨(some 33), .load (.t 32), none, (some (31, true)), 0⟩,
 ⟨(some 34), .faddr 4 (.t 3), none, (some (31, true)), 0⟩,
 ⟨(some 35), .load (.t 34), none, (some (31, true)), 0⟩,
 ⟨(some 36), .bin .eql (.t 33) (.t 35), none, (some (31, true)), 0⟩,
 ⟨(some 37), .pick (.t 31) (.t 36) (.c (.bool false)), none, none, 0⟩,
 ⟨(some 38), .mv (.t 37), none, none, 0⟩,
 ⟨(some 39), .faddr 5 (.t 2), none, (some (38, true)), 0⟩,
 ⟨(some 40), .load (.t 39), none, (some (38, true)), 0⟩,
 ⟨(some 41), .faddr 5 (.t 3), none, (some (38, true)), 0⟩,
 ⟨(some 42), .load (.t 41), none, (some (38, true)), 0⟩,
 ⟨(some 43), .mv (.c .any), some ((.c (.fn (.func 39) [] [])), [(.t 40), (.t 42)]), (some (38, true)), 0⟩,
 ⟨(some 44), .pick (.t 38) (.t 43) (.c (.bool false)), none, none, 0⟩,
 ⟨(some 4), .mv (.t 44), none, none, 0⟩]
def c_sent : SCode := (Sf qato [2, 3] (Sf qatn [4] .ret))
def qao8 : List SOper := [⟨(some 4), .mv (.c (.bool false)), none, none, 0⟩]
def qao7 : List SOper := [⟨(some 6), .mv (.t 0), none, none, 0⟩,
 ⟨(some 7), .len false (.t 6), none, none, 0⟩,
 ⟨(some 8), .mv (.t 1), none, none, 0⟩,
 ⟨(some 9), .len false (.t 8), none, none, 0⟩,
 ⟨(some 10), .bin .neq (.t 7) (.t 9), none, none, 0⟩]
def qao6 : List SOper := [⟨(some 4), .mv (.c (.bool false)), none, none, 0⟩]
def qao5 : List SOper := [⟨(some 5), .mv (.c (.int .i64 0)), none, none, 0⟩]
def qao4 : List SOper := [⟨(some 11), .mv (.t 5), none, none, 0⟩,
 ⟨(some 12), .mv (.t 0), none, none, 0⟩,
 ⟨(some 13), .len false (.t 12), none, none, 0⟩,
 ⟨(some 14), .bin .lss (.t 11) (.t 13), none, none, 0⟩]
def qao3 : List SOper := [⟨(some 17), .mv (.t 0), none, none, 0⟩,
 ⟨(some 18), .mv (.t 5), none, none, 0⟩,
 ⟨(some 19), .iaddr 6 (.t 17) (.t 18), none, none, 3⟩,
 ⟨(some 20), .loads 6 (.t 19), none, none, 7⟩,
 ⟨(some 21), .mv (.t 1), none, none, 0⟩,
 ⟨(some 22), .mv (.t 5), none, none, 0⟩,
 ⟨(some 23), .iaddr 6 (.t 21) (.t 22), none, none, 48⟩,
 ⟨(some 24), .loads 6 (.t 23), none, none, 112⟩,
 ⟨(some 25), .mv (.c .any), some ((.c (.fn (.func 29) [] [])), [(.t 20), (.t 24)]), none, 255⟩,
 ⟨(some 26), .un .not (.t 25), none, none, 511⟩]
def qao2 : List SOper := [⟨(some 4), .mv (.c (.bool false)), none, none, 0⟩]
def qao1 : List SOper := [⟨(some 15), .mv (.t 5), none, none, 0⟩,
 ⟨(some 16), .bin .add (.t 15) (.c (.int .i64 1)), none, none, 0⟩,
 ⟨(some 5), .mv (.t 16), none, none, 0⟩]
def qao9 : SCode := (.seq (Sf qao4 [0, 1, 5, 14] (Ce 14 0)) (.seq (.block 1 (.seq (Rt qao3 [0, 1, 5, 26]) (Cn 26 (Sf qao2 [4] .ret) .skip))) (Rf qao1 [0, 1, 5])))
def qao0 : List SOper := [⟨(some 4), .mv (.c (.bool true)), none, none, 0⟩]
def qbkd : SCode := (Sf qao8 [0, 1] (.seq (Sf qao7 [0, 1, 10] (Cn 10 (Sf qao6 [4] .ret) .skip)) (.seq (Sf qao5 [0, 1, 5] (Bl 0 qao9)) (Sf qao0 [4] .ret))))
def qatm : List SOper := [⟨(some 2), .box 46 (.t 0), none, none, 0⟩,
 ⟨(some 3), .box 46 (.t 1), none, none, 0⟩,
 ⟨(some 4), .mv (.c (.bool false)), none, none, 0⟩]
def qamt : List SOper := [⟨(some 5), .faddr 0 (.t 2), none, none, 0⟩,
 ⟨(some 6), .load (.t 5), none, none, 0⟩,
 ⟨(some 7), .faddr 0 (.t 3), none, none, 0⟩,
 ⟨(some 8), .load (.t 7), none, none, 0⟩,
 ⟨(some 9), .bin .eql (.t 6) (.t 8), none, none, 0⟩,
 ⟨(some 10), .mv (.t 9), none, none, 0⟩,
 ⟨(some 11), .faddr 1 (.t 2), none, (some (10, true)), 0⟩,
 ⟨(some 12), .load (.t 11), none, (some (10, true)), 0⟩,
 ⟨(some 13), .faddr 1 (.t 3), none, (some (10, true)), 0⟩,
 ⟨(some 14), .load (.t 13), none, (some (10, true)), 0⟩,
 ⟨(some 15), .mv (.c .any), some ((.c (.fn (.func 39) [] [])), [(.t 12), (.t 14)]), (some (10, true)), 0⟩,
 ⟨(some 16), .pick (.t 10) (.t 15) (.c (.bool false)), none, none, 0⟩,
 ⟨(some 4), .mv (.t 16), none, none, 0⟩]
def c_shit : SCode := (Sf qatm [2, 3] (Sf qamt [4] .ret))
def qath : List SOper := [⟨(some 4), .mv (.c (.bool false)), none, none, 0⟩]
def qatg : List SOper := [⟨(some 5), .mv (.t 0), none, none, 0⟩,
 ⟨(some 6), .mv (.t 1), none, none, 0⟩,
 ⟨(some 7), .mv (.c .any), some ((.c (.fn (.func 58) [] [])), [(.t 6)]), none, 0⟩,
 ⟨(some 8), .bin .gtr (.t 5) (.t 7), none, none, 0⟩,
 ⟨(some 4), .mv (.t 8), none, none, 0⟩]
def c_wide : SCode := (Sf qath [0, 1] (Sf qatg [4] .ret))
def qat4 : List SOper := [⟨(some 2), .mv (.c (.int .u64 0)), none, none, 0⟩]
def qat3 : List SOper := [⟨(some 3), .mv (.c (.int .u64 0)), none, none, 0⟩]
def qat2 : List SOper := [⟨(some 4), .mv (.c (.int .i64 0)), none, none, 0⟩]
def qat1 : List SOper := [⟨(some 5), .mv (.t 4), none, none, 0⟩,
 ⟨(some 6), .mv (.t 0), none, none, 0⟩,
 ⟨(some 7), .bin .lss (.t 5) (.t 6), none, none, 0⟩,
 ⟨(some 8), .mv (.t 7), none, none, 0⟩,
 ⟨(some 9), .mv (.t 0), none, (some (8, true)), 0⟩,
 ⟨(some 10), .bin .leq (.t 9) (.c (.int .i64 64)), none, (some (8, true)), 0⟩,
 ⟨(some 11), .pick (.t 8) (.t 10) (.c (.bool false)), none, none, 0⟩]
def qat0 : List SOper := [⟨(some 14), .mv (.t 3), none, none, 0⟩,
 ⟨(some 15), .bin .mul (.c (.int .u64 2)) (.t 14), none, none, 0⟩,
 ⟨(some 16), .bin .add (.t 15) (.c (.int .u64 1)), none, none, 0⟩,
 ⟨(some 3), .mv (.t 16), none, none, 0⟩]
def qatz : List SOper := [⟨(some 12), .mv (.t 4), none, none, 0⟩,
 ⟨(some 13), .bin .add (.t 12) (.c (.int .i64 1)), none, none, 0⟩,
 ⟨(some 4), .mv (.t 13), none, none, 0⟩]
def qat5 : SCode := (.seq (Sf qat1 [0, 3, 4, 11] (Ce 11 0)) (.seq (.block 1 (Rf qat0 [0, 3, 4])) (Rf qatz [0, 3, 4])))
def qamv : List SOper := [⟨(some 17), .mv (.t 3), none, none, 0⟩,
 ⟨(some 2), .mv (.t 17), none, none, 0⟩]
def c_ones : SCode := (Sf qat4 [0] (Sf qat3 [0, 3] (.seq (Sf qat2 [0, 3, 4] (Bl 0 qat5)) (Sf qamv [2] .ret))))
def qapr : List SOper := [⟨(some 1), .box 38 (.t 0), none, none, 0⟩,
 ⟨(some 2), .alloc 46 [(.int .i64 0), .nilsl], none, none, 0⟩]
def qapq : List SOper := [⟨(some 3), .faddr 4 (.t 1), none, none, 0⟩,
 ⟨(some 4), .load (.t 3), none, none, 0⟩,
 ⟨(some 5), .faddr 5 (.t 1), none, none, 0⟩,
 ⟨(some 6), .load (.t 5), none, none, 0⟩,
 ⟨(some 7), .build [(.int .i64 0), .nilsl] [(0, 1, (.t 4)), (1, 1, (.t 6))], none, none, 0⟩,
 ⟨none, .store 2 (.t 2) (.t 7), none, none, 0⟩]
def qbkp : SCode := (Sf qapr [1, 2] (Sf qapq [2] .ret))
def qapx : List SOper := [⟨(some 2), .mv (.c (.bool false)), none, none, 0⟩]
def qapw : List SOper := [⟨(some 4), .mv (.t 0), none, none, 0⟩,
 ⟨(some 5), .len false (.t 4), none, none, 0⟩,
 ⟨(some 6), .bin .gtr (.t 5) (.c (.int .i64 200)), none, none, 0⟩]
def qapv : List SOper := [⟨(some 2), .mv (.c (.bool true)), none, none, 0⟩]
def qapu : List SOper := [⟨(some 3), .mv (.c (.int .i64 0)), none, none, 0⟩]
def qapt : List SOper := [⟨(some 7), .mv (.t 3), none, none, 0⟩,
 ⟨(some 8), .mv (.t 0), none, none, 0⟩,
 ⟨(some 9), .len false (.t 8), none, none, 0⟩,
 ⟨(some 10), .bin .lss (.t 7) (.t 9), none, none, 0⟩]
def qahz : List SOper := [⟨(some 13), .mv (.t 0), none, none, 0⟩,
 ⟨(some 14), .mv (.t 3), none, none, 0⟩,
 ⟨(some 15), .iaddr 7 (.t 13) (.t 14), none, none, 0⟩,
 ⟨(some 16), .faddr 1 (.t 15), none, none, 0⟩,
 ⟨(some 17), .faddr 0 (.t 16), none, none, 0⟩,
 ⟨(some 18), .load (.t 17), none, none, 0⟩,
 ⟨(some 19), .len false (.t 18), none, none, 0⟩,
 ⟨(some 20), .bin .gtr (.t 19) (.c (.int .i64 20)), none, none, 0⟩,
 ⟨(some 21), .mv (.t 20), none, none, 0⟩,
 ⟨(some 22), .mv (.t 0), none, (some (21, false)), 0⟩,
 ⟨(some 23), .mv (.t 3), none, (some (21, false)), 0⟩,
 ⟨(some 24), .iaddr 7 (.t 22) (.t 23), none, (some (21, false)), 0⟩,
 ⟨(some 25), .faddr 1 (.t 24), none, (some (21, false)), 0⟩,
 ⟨(some 26), .faddr 1 (.t 25), none, (some (21, false)), 0⟩,
 ⟨(some 27), .load (.t 26), none, (some (21, false)), 0⟩,
 ⟨(some 28), .len false (.t 27), none, (some (21, false)), 0⟩,
 ⟨(some 29), .bin .gtr (.t 28) (.c (.int .i64 20)), none, (some (21, false)), 0⟩,
 ⟨(some 30), .pick (.t 21) (.c (.bool true)) (.t 29), none, none, 0⟩,
 ⟨(some 31), .mv (.t 30), none, none, 0⟩,
 ⟨(some 32), .mv (.t 0), none, (some (31, false)), 0⟩,
 ⟨(some 33), .mv (.t 3), none, (some (31, false)), 0⟩,
 ⟨(some 34), .iaddr 7 (.t 32) (.t 33), none, (some (31, false)), 0⟩,
 ⟨(some 35), .faddr 1 (.t 34), none, (some (31, false)), 0⟩,
 ⟨(some 36), .faddr 5 (.t 35), none, (some (31, false)), 0⟩,
 ⟨(some 37), .load (.t 36), none, (some (31, false)), 0⟩,
 ⟨(some 38), .len false (.t 37), none, (some (31, false)), 0⟩,
 ⟨(some 39), .bin .gtr (.t 38) (.c (.int .i64 20)), none, (some (31, false)), 0⟩,
 ⟨(some 40), .pick (.t 31) (.c (.bool true)) (.t 39), none, none, 0⟩]
def qakb : List SOper := [⟨(some 2), .mv (.c (.bool true)), none, none, 0⟩]
def qaka : List SOper := [⟨(some 11), .mv (.t 3), none, none, 0⟩,
 ⟨(some 12), .bin .add (.t 11) (.c (.int .i64 1)), none, none, 0⟩,
 ⟨(some 3), .mv (.t 12), none, none, 0⟩]
def qapy : SCode := (.seq (Sf qapt [0, 3, 10] (Ce 10 0)) (.seq (.block 1 (Sf qahz [0, 3, 40] (Cn 40 (Sf qakb [2] .ret) .skip))) (Rf qaka [0, 3])))
def qaj9 : List SOper := [⟨(some 2), .mv (.c (.bool false)), none, none, 0⟩]
def qbkr : SCode := (Sf qapx [0] (.seq (Sf qapw [0, 6] (Cn 6 (Sf qapv [2] .ret) .skip)) (.seq (Sf qapu [0, 3] (Bl 0 qapy)) (Sf qaj9 [2] .ret))))
def qaey (p : Nat → Bool) : Nat → Nat
 | 0 => 0
 | n + 1 => if qaey p n < n then qaey p n else if p n then n else n + 1
theorem qaht (p : Nat → Bool) (n : Nat) : qaey p n ≤ n := by
 induction n with
 | zero => simp [qaey]
 | succ n ih => simp only [qaey]; repeat' split
                all_goals omega
theorem qaf9 (p : Nat → Bool) (n i : Nat) (h : i < qaey p n) : p i = false := by
 induction n with
 | zero => simp [qaey] at h
 | succ n ih =>
  have hle := qaht p n;simp only [qaey] at h;split at h
  ·exact ih h
  ·split at h
   ·exact ih (by omega)
   ·rename_i h1 h2;by_cases hi : i = n
    ·subst hi; simpa using h2
    ·exact ih (by omega)
theorem qafs (p : Nat → Bool) (n : Nat) (h : qaey p n < n) : p (qaey p n) = true := by
 induction n with
 | zero => simp [qaey] at h
 | succ n ih =>
  simp only [qaey] at h ⊢;split
  ·rename_i h1; exact ih h1
  ·split
   ·assumption
   ·rename_i h1 h2; rw [if_neg h1, if_neg h2] at h; omega
theorem qba9 (p : Nat → Bool) (n i : Nat) (h : ∀ j, j < i → p j = false) (hp : p i = true) (hi : i < n) : qaey p n = i := by
 rcases Nat.lt_trichotomy (qaey p n) i with hlt | he | hgt
 ·have := qafs p n (by omega);rw [h _ hlt] at this; cases this
 ·exact he
 ·have := qaf9 p n i hgt;rw [hp] at this; cases this
theorem qau8 (p : Nat → Bool) (n : Nat) (h : ∀ j, j < n → p j = false) : qaey p n = n := by
 have hle := qaht p n;by_cases hlt : qaey p n < n
 ·have := qafs p n hlt;rw [h _ hlt] at this; cases this
 ·omega
theorem qan2 (p : Nat → Bool) (n : Nat) (h : qaey p n = n) : ∀ j, j < n → p j = false := fun j hj => qaf9 p n j (by omega)
structure Ins where
 op : Int
 r : Int
 s : Int
 k : Int
 to : Int
 n : Int
 deriving Inhabited, DecidableEq
structure Shape where
 keys : Int
 acts : Int
 args : Int
 deriving Inhabited, DecidableEq
def Ins.wf (x : Ins) : Prop := Fits .i64 x.op ∧ Fits .i64 x.r ∧ Fits .i64 x.s ∧ Fits .i64 x.k ∧ Fits .i64 x.to ∧ Fits .u64 x.n
def Shape.wf (x : Shape) : Prop := Fits .i64 x.keys ∧ Fits .i64 x.acts ∧ Fits .i64 x.args
def Ins.cells (x : Ins) : List Value := [.int .i64 x.op, .int .i64 x.r, .int .i64 x.s, .int .i64 x.k, .int .i64 x.to, .int .u64 x.n]
def Shape.cells (x : Shape) : List Value := [.int .i64 x.keys, .int .i64 x.acts, .int .i64 x.args]
def Lay.flat {α : Type} (size : Nat) (enc : α → List Value) (ok : α → Prop) (hl : ∀ a, (enc a).length = size) : Lay α where
 size := size
 rep _ _ x cs := cs = enc x ∧ ok x
 len h := by rw [h.1]; exact hl _
 step h _ := h
 weaken h _ := h
structure Entry where
 keys : List Int
 masks : List Int
 len : Int
 prio : Int
 act : Int
 args : List Int
instance : Inhabited Entry := ⟨⟨[], [], 0, 0, 0, []⟩⟩
def u64s : Lay (List Int) := Lay.slice (Lay.int .u64)
def entryLay : Lay Entry := Lay.map (fun e => (e.keys, e.masks, e.len, e.prio, e.act, e.args)) (Lay.pair u64s (Lay.pair u64s (Lay.pair (Lay.int .i64) (Lay.pair (Lay.int .i64) (Lay.pair (Lay.int .i64) u64s)))))
instance : One entryLay := ⟨fun h => One.one (L := Lay.pair (Lay.slice (Lay.int .u64)) (Lay.pair (Lay.slice (Lay.int .u64)) (Lay.pair (Lay.int .i64) (Lay.pair (Lay.int .i64) (Lay.pair (Lay.int .i64) (Lay.slice (Lay.int .u64))))))) h⟩
theorem qbbg {A : Nat → Prop} {w : World} {e : Entry} {k m g : Option Addr} {k1 k2 m1 m2 g1 g2 : Nat} (hk : RdL (Lay.int .u64) A w k k1 k2 e.keys) (hm : RdL (Lay.int .u64) A w m m1 m2 e.masks) (hg : RdL (Lay.int .u64) A w g g1 g2 e.args) (hl : Fits .i64 e.len) (hp : Fits .i64 e.prio) (ha : Fits .i64 e.act) :
  entryLay.rep A w e [.slice k k1 k2, .slice m m1 m2, .int .i64 e.len, .int .i64 e.prio, .int .i64 e.act, .slice g g1 g2] :=
 ⟨[_], _, rfl, ⟨k, k1, k2, rfl, hk⟩, [_], _, rfl, ⟨m, m1, m2, rfl, hm⟩, [_], _, rfl, ⟨rfl, hl⟩, [_], _, rfl, ⟨rfl, hp⟩, [_], _, rfl, ⟨rfl, ha⟩, ⟨g, g1, g2, rfl, hg⟩⟩
theorem qakn : SliceTy Tryz.prog 42 38 6 96 (.agg #[.slice none 0 0, .slice none 0 0, .int .i64 0, .int .i64 0, .int .i64 0, .slice none 0 0]) := ⟨Tryz.underlying42, by kernel_rfl, rfl, by omega⟩
section
attribute [local simp] qaa6 qaa5 qaak qaas qaal qaar qaa3 qaa4 qaae qabh SOp.run SX.ev putd puts argS upds SOp.touch SSt.keep SSt.skip gets geth puth delh idOf SV.cells? setL qac5 qac6 sbin eq0 eq1 eqL qac2 qaby qab0 qaa2 qaa1 qaac qaa7 qabi qaaj qaad FrzOk qaav qaan qaat qaau qaaf qaam qaa8 qaao qaah qaaw qaag frzS frzH frz frz1 frz0 SlotsM ObjsM ObjM rn ren ren1 ren0 qabk qabw qabz qabj qaa9 qabx qab1 CoL qaax qabr dels adds idsH qabc
def qaaa (e : Entry) : List SV := [nums .u64 e.keys, nums .u64 e.masks, .int .i64 e.len, .int .i64 e.prio, .int .i64 e.act, nums .u64 e.args]
def qacd (e : Entry) : Prop := e.keys.length ≤ 1000000 ∧ e.masks.length ≤ 1000000 ∧ e.args.length ≤ 1000000
theorem mixed : Tryz.prog.follows .mixedOrders = true := by kernel_rfl
theorem qai8 : qag8 Tryz.prog 38 = some true := by kernel_rfl
theorem qahc : qab8 Tryz.prog 38 = some 6 := by kernel_rfl
theorem own_s (e : Entry) (h : qacd e) : SCalls Tryz.prog 41 [.agg (qaaa e)] [] 0 (.agg (qaaa e)) [] := by
 obtain ⟨h1, h2, h3⟩ := h;have b1 : e.keys.length ≤ maxLen := by simp [maxLen]; omega
 have b2 : e.masks.length ≤ maxLen := by simp [maxLen]; omega
 have b3 : e.args.length ≤ maxLen := by simp [maxLen]; omega
 have c1 : e.keys.length * 8 ≤ 140737488355328 := by omega
 have c2 : e.masks.length * 8 ≤ 140737488355328 := by omega
 have c3 : e.args.length * 8 ≤ 140737488355328 := by omega
 refine yG (N := 25) Tryz.func41 c_own ⟨rfl, trivial⟩ trivial ?_;rintro X hP hN hm;unfold c_own qaaa nums;refine qabb (qaab ?_);simp -implicitDefEqProofs [qa7t];refine qabb (qaab ?_);simp -implicitDefEqProofs [qa7s];refine qabb (qaaz (by rw [hP]; exact mixed) ?_);simp -implicitDefEqProofs [qa7r, b1, b2, b3, c1, c2, c3];refine ⟨rfl, qaba (qabu (s' := ⟨[(2, .ptr 0 0)], [(0, .cells 38 (qaaa e))], 1⟩) (wk_fz [8, 12, 22] [(0, 1)] hm rfl (by simp -implicitDefEqProofs []) rfl (Nat.zero_le _) (by simp -implicitDefEqProofs []) (by simp -implicitDefEqProofs [qaaa, nums])) ?_ trivial (by simp))⟩;simp -implicitDefEqProofs [hP, qafc, resL, resV, qai8, qahc, one_, qaaa, nums]
end
end Go.Proofs.YtalejfkholifpaaGreat
namespace Go.Proofs.YtalejfkholifpaaGreat
section
open Go.RowKit Go.ChangeShapes Go.WideShapes Go.Deep
structure Opens (P : Program) (t : TypeId) {α : Type} (L : Lay α) : Prop where
 size : P.cellsOf t = L.size
 pos : 0 < L.size
 opn : ∀ {H : Type} {enc : TypeId × Value → H} {w : World} {fuel : Nat} {cs : List Value} {x : DataW H × List MemPlace}, DataW.trod enc P w 0 (fun _ => true) true fuel t cs = some x → ∃ a, L.rep NoA w a cs
theorem Opens.int {P : Program} {t : TypeId} {k : IntKind} (hu : P.underlying t = some (.int k)) (hc : P.cellsOf t = 1) : Opens P t (Lay.int k) :=
 ⟨hc, Nat.one_pos, fun h => by obtain ⟨n, rfl, _, hw⟩ := DataW.trod_int hu h; exact ⟨n, rfl, hw⟩⟩
theorem Opens.bool {P : Program} {t : TypeId} (hu : P.underlying t = some .bool) (hc : P.cellsOf t = 1) : Opens P t Lay.bool :=
 ⟨hc, Nat.one_pos, fun h => by obtain ⟨n, rfl, _⟩ := DataW.trod_bool hu h; exact ⟨n, rfl⟩⟩
theorem Opens.weak {P : Program} {t : TypeId} {α β : Type} {L : Lay α} {M : Lay β} (h : Opens P t L) (hs : M.size = L.size) (f : ∀ {w a cs}, L.rep NoA w a cs → ∃ b, M.rep NoA w b cs) : Opens P t M :=
 ⟨h.size.trans hs.symm, by rw [hs]; exact h.pos, fun hx => by obtain ⟨a, ha⟩ := h.opn hx; exact f ha⟩
theorem Opens.slice {P : Program} {t e : TypeId} {α : Type} {L : Lay α} (h : Opens P e L) (hu : P.underlying t = some (.slice e)) (hc : P.cellsOf t = 1) : Opens P t (Lay.slice L) := by
 refine ⟨hc, Nat.one_pos, fun {H enc w fuel cs x} hx => ?_⟩;rcases open_slice hu hx with ⟨rfl, _⟩ | ⟨a, len, cap, m, n, D, Pl, rfl, _, hl, hm, hmm, _, hi⟩
 ·exact ⟨[], none, 0, 0, rfl, RdL.nil_ _ _ _⟩
 ·simp at hmm;subst hmm;have hs : a.spot = none ∨ m = 0 := by
   rcases Nat.eq_zero_or_pos m with e | e
   ·exact .inr e
   ·left
    obtain ⟨cs', hc', _⟩ := hi 0 e;obtain ⟨_, hcl, hat⟩ := World.cells?_some hc';have h0 := hat 0 (by rw [h.size]; exact h.pos);obtain ⟨b, off, spot⟩ := a;cases spot with
    | none => rfl
    | some s =>
     rw [List.getElem?_eq_getElem (by rw [hcl, h.size]; exact h.pos)] at h0;simp [Addr.add, World.cell?] at h0;split at h0 <;> simp at h0
  rcases hs with hs | rfl
  ·obtain ⟨b, off, spot⟩ := a;obtain rfl : spot = none := hs;have hel : ∀ i, i < m → ∃ x, ∃ cs, L.rep NoA w x cs ∧ ∀ j, j < L.size → w.cell? ⟨b, off + i * L.size + j, none⟩ = cs[j]? := by
    intro i him;obtain ⟨cs', hc', ht⟩ := hi i him;obtain ⟨x, hr⟩ := h.opn ht;obtain ⟨_, hcl, hat⟩ := World.cells?_some hc';refine ⟨x, cs', hr, fun j hj => ?_⟩;have := hat j (by rw [h.size]; exact hj);rw [h.size, qae2, qae2] at this;exact this
   have hex : ∀ i : Nat, ∃ x : Option α, i < m → ∃ y, x = some y ∧ ∃ cs, L.rep NoA w y cs ∧ ∀ j, j < L.size → w.cell? ⟨b, off + i * L.size + j, none⟩ = cs[j]? := by
    intro i;by_cases him : i < m
    ·obtain ⟨x, hx⟩ := hel i him;exact ⟨some x, fun _ => ⟨x, rfl, hx⟩⟩
    ·exact ⟨none, fun h => absurd h him⟩
   obtain ⟨f, hf⟩ := Classical.axiomOfChoice hex;have hfs : ∀ i (hh : i < m), (f i).isSome := fun i hh => by obtain ⟨y, hy, _⟩ := hf i hh; rw [hy]; rfl
   let xs : List α := List.ofFn fun i : Fin len => (f i).get (hfs i (by omega))
   have hxl : xs.length = len := by simp [xs]
   refine ⟨xs, some ⟨b, off, none⟩, len, m, rfl, hxl, hl, hm, by simp, fun h0 => ?_⟩;have hblk : b < w.heap.size := by
    obtain ⟨y, hy, cs, hr, hj⟩ := hf 0 (by omega);have h00 := hj 0 h.pos;rw [List.getElem?_eq_getElem (by rw [L.len hr]; exact h.pos)] at h00;exact block_lt_of_cell h00
   refine ⟨b, off, rfl, fun h => h, hblk, fun i hi' => ?_⟩;obtain ⟨y, hy, cs, hr, hj⟩ := hf i (by omega);refine ⟨cs, ?_, hj⟩;have : xs[i] = y := by simp [xs, hy]
   rw [this]; exact hr
  ·obtain rfl : len = 0 := by omega
   refine ⟨[], some a, 0, 0, rfl, rfl, Nat.le_refl _, hm, by simp, fun h => absurd h (by omega)⟩
def OpensF (P : Program) (fs : List Field) (off : Nat) {α : Type} (L : Lay α) : Prop :=
 ∀ {H : Type} {enc : TypeId × Value → H} {w : World} {cs : List Value}, (∀ f ∈ fs, ∃ fuel x, DataW.trod enc P w 0 (fun _ => true) true fuel f.type ((cs.drop f.offset).take (P.cellsOf f.type)) = some x) → cs.length = off + L.size → ∃ a, L.rep NoA w a (cs.drop off)
theorem OpensF.one {P : Program} {f : Field} {off : Nat} {α : Type} {L : Lay α} (h : Opens P f.type L) (ho : f.offset = off) : OpensF P [f] off L := by
 intro H enc w cs hf hl;obtain ⟨fuel, x, hx⟩ := hf f (by simp);rw [ho, h.size, List.take_of_length_le (by simp; omega)] at hx;exact h.opn hx
theorem OpensF.cons {P : Program} {f : Field} {fs : List Field} {off : Nat} {α β : Type} {L : Lay α} {M : Lay β} (h : Opens P f.type L) (ho : f.offset = off) (g : OpensF P fs (off + L.size) M) : OpensF P (f :: fs) off (Lay.pair L M) := by
 intro H enc w cs hf hl;obtain ⟨fuel, x, hx⟩ := hf f (by simp);rw [ho, h.size] at hx;obtain ⟨a, ha⟩ := h.opn hx;obtain ⟨b, hb⟩ := g (cs := cs) (fun f' hf' => hf f' (List.mem_cons_of_mem _ hf')) (by rw [hl]; show _ = _; simp only [Lay.pair]; omega);refine ⟨(a, b), _, _, ?_, ha, hb⟩;rw [← List.drop_drop, List.take_append_drop]
theorem Opens.struct {P : Program} {t : TypeId} {fs : List Field} {α : Type} {L : Lay α} (hu : P.underlying t = some (.struct fs.toArray)) (h : OpensF P fs 0 L) (hc : P.cellsOf t = L.size) (hp : 0 < L.size) : Opens P t L := by
 refine ⟨hc, hp, fun {H enc w fuel cs x} hx => ?_⟩;obtain ⟨xs, n, _, _, hl, hxl, hf⟩ := DataW.trod_struct hu hx;have := h (cs := cs) (enc := enc) (w := w) (fun f hf' => ?_) (by rw [hl, hc, Nat.zero_add])
 ·simpa using this
 ·obtain ⟨i, hi, rfl⟩ := List.getElem_of_mem hf';refine ⟨n, xs[i]'(by rw [hxl]; simpa using hi), ?_⟩;rw [hf i _ (by simp [hi])];exact List.getElem?_eq_getElem _
theorem Opens.arg {P : Program} {t : TypeId} {fs : Array Field} {α : Type} {L : Lay α} (h : Opens P t L) (hu : P.underlying t = some (.struct fs)) {H : Type} {enc : TypeId × Value → H} {w : World} {r : Reach} {b0 : Nat} {v : Value} {d : DataW H} {p : List MemPlace}
  (hv : Value.okWide P w r b0 t v) (ht : DataW.Trod enc P w 0 (fun _ => true) true t v d p) : ∃ a cs, v = .agg cs ∧ L.rep NoA w a cs.toList := by
 obtain ⟨cs, rfl, _⟩ := okWide_struct hu hv;obtain ⟨fuel, hf⟩ := ht;obtain ⟨a, ha⟩ := h.opn hf;exact ⟨a, cs, rfl, ha⟩
theorem Opens.argSlice {P : Program} {t e : TypeId} {α : Type} {L : Lay α} (h : Opens P e L) (hu : P.underlying t = some (.slice e)) (hc : P.cellsOf t = 1) {H : Type} {enc : TypeId × Value → H} {w : World} {r : Reach} {b0 : Nat} {v : Value} {d : DataW H} {p : List MemPlace}
  (hv : Value.okWide P w r b0 t v) (ht : DataW.Trod enc P w 0 (fun _ => true) true t v d p) : ∃ xs ao n cap, v = .slice ao n cap ∧ RdL L NoA w ao n cap xs := by
 obtain ⟨a, len, cap, rfl⟩ := okWide_slice hu hv;obtain ⟨fuel, hf⟩ := ht;obtain ⟨xs, ao, n, cap', e, hr⟩ := (h.slice hu hc).opn hf;simp [Value.cells] at e;obtain ⟨rfl, rfl, rfl⟩ := e;exact ⟨xs, _, _, _, rfl, hr⟩
theorem RdL.old {α : Type} {L : Lay α} {w : World} {ao : Option Addr} {n cap : Nat} {xs : List α} (h : RdL L NoA w ao n cap xs) : RdL L (fun k => w.heap.size ≤ k) w ao n cap xs := h.weaken fun k h1 h2 => absurd h2 (Nat.not_lt_of_le h1)
end
section
open Go.RowKit Go.ChangeShapes Go.WideShapes
structure RefD where
 h : Int
 f : Int
structure PushD where
 op : Int
 r : RefD
 n : Int
structure HeadD where
 w : List Int
structure CaseD where
 value : Int
 mask : Int
 to_ : Int
structure StateD where
 head : Int
 on : RefD
 cases_ : List CaseD
 els : Int
structure OpD where
 kind : Int
 r : RefD
 head : Int
 e : List PushD
structure ActD where
 w : List Int
 ops : List OpD
structure TabD where
 kind : Int
 keys : List RefD
 acts : List Int
 cap : Int
 def_ : Int
 args : List Int
structure NodeD where
 kind : Int
 n : Int
 e : List PushD
 yes : Int
 no : Int
structure PlanD where
 heads : List HeadD
 meta_ : List Int
 states : List StateD
 acts : List ActD
 tabs : List TabD
 nodes : List NodeD
 out : List Int
def refc (r : RefD) : List SV := [.int .i64 r.h, .int .i64 r.f]
def qaz1 (p : PushD) : List SV := [.int .i64 p.op, .int .i64 p.r.h, .int .i64 p.r.f, .int .u64 p.n]
def pushes (l : List PushD) : SV := .view 4 (l.map qaz1)
def qa9x (h : HeadD) : List SV := [nums .i64 h.w]
def qa9y (c : CaseD) : List SV := [.int .u64 c.value, .int .u64 c.mask, .int .i64 c.to_]
def qakg (s : StateD) : List SV := [.int .i64 s.head, .int .i64 s.on.h, .int .i64 s.on.f, .view 3 (s.cases_.map qa9y), .int .i64 s.els]
def opc (o : OpD) : List SV := [.int .i64 o.kind, .int .i64 o.r.h, .int .i64 o.r.f, .int .i64 o.head, pushes o.e]
def actc (a : ActD) : List SV := [nums .i64 a.w, .view 5 (a.ops.map opc)]
def tabc (t : TabD) : List SV := [.int .i64 t.kind, .view 2 (t.keys.map refc), nums .i64 t.acts, .int .i64 t.cap, .int .i64 t.def_, nums .u64 t.args]
def qa9v (n : NodeD) : List SV := [.int .i64 n.kind, .int .i64 n.n, pushes n.e, .int .i64 n.yes, .int .i64 n.no]
def qbam (p : PlanD) : List SV := [.view 1 (p.heads.map qa9x), nums .i64 p.meta_, .view 5 (p.states.map qakg), .view 2 (p.acts.map actc), .view 6 (p.tabs.map tabc), .view 5 (p.nodes.map qa9v), nums .i64 p.out]
def i64L : Lay Int := Lay.int .i64
def u64L : Lay Int := Lay.int .u64
def qama : Lay RefD := Lay.map (fun r => (r.h, r.f)) (Lay.pair i64L i64L)
def qaku : Lay PushD := Lay.map (fun p => (p.op, p.r, p.n)) (Lay.pair i64L (Lay.pair qama u64L))
def opLay : Lay OpD := Lay.map (fun o => (o.kind, o.r, o.head, o.e)) (Lay.pair i64L (Lay.pair qama (Lay.pair i64L (Lay.slice qaku))))
def qa9p : Lay ActD := Lay.map (fun a => (a.w, a.ops)) (Lay.pair (Lay.slice i64L) (Lay.slice opLay))
def tabLay : Lay TabD := Lay.map (fun t => (t.kind, t.keys, t.acts, t.cap, t.def_, t.args)) (Lay.pair i64L (Lay.pair (Lay.slice qama) (Lay.pair (Lay.slice i64L) (Lay.pair i64L (Lay.pair i64L (Lay.slice u64L))))))
theorem qaq4 : LayP qama refc := qag6 (fun r : RefD => (r.h, r.f)) (qacr (qacy .i64) (qacy .i64))
theorem qba2 : LayP qaku qaz1 := qag6 (fun p : PushD => (p.op, p.r, p.n)) (qacr (qacy .i64) (qacr qaq4 (qacy .u64)))
theorem layP_op : LayP opLay opc := qag6 (fun o : OpD => (o.kind, o.r, o.head, o.e)) (qacr (qacy .i64) (qacr qaq4 (qacr (qacy .i64) (qadr qba2))))
theorem qbms : LayP qa9p actc := qag6 (fun a : ActD => (a.w, a.ops)) (qacr (qadr (qacy .i64)) (qadr layP_op))
theorem qbmr : LayP tabLay tabc := qag6 (fun t : TabD => (t.kind, t.keys, t.acts, t.cap, t.def_, t.args)) (qacr (qacy .i64) (qacr (qadr qaq4) (qacr (qadr (qacy .i64)) (qacr (qacy .i64) (qacr (qacy .i64) (qadr (qacy .u64)))))))
def OkPush (p : PushD) : Prop := Fits .i64 p.op ∧ (Fits .i64 p.r.h ∧ Fits .i64 p.r.f) ∧ Fits .u64 p.n
def OkRef (r : RefD) : Prop := Fits .i64 r.h ∧ Fits .i64 r.f
def OkOp (o : OpD) : Prop := Fits .i64 o.kind ∧ OkRef o.r ∧ Fits .i64 o.head ∧ ∀ x ∈ o.e, OkPush x
def OkAct (a : ActD) : Prop := AllFit .i64 a.w ∧ ∀ o ∈ a.ops, OkOp o
theorem qa0x : LayF qama OkRef := qah6 (fun r : RefD => (r.h, r.f)) (qadb (qads .i64) (qads .i64))
theorem qba3 : LayF qaku OkPush := qah6 (fun p : PushD => (p.op, p.r, p.n)) (qadb (qads .i64) (qadb qa0x (qads .u64)))
theorem qba4 (k : IntKind) : LayF (Lay.slice (Lay.int k)) (AllFit k) := fun A w x cs h => qafe (qads k) A w x cs h
theorem layF_op : LayF opLay OkOp := qah6 (fun o : OpD => (o.kind, o.r, o.head, o.e)) (qadb (qads .i64) (qadb qa0x (qadb (qads .i64) (qafe qba3))))
theorem qbmt : LayF qa9p OkAct := qah6 (fun a : ActD => (a.w, a.ops)) (qadb (qba4 .i64) (qafe layF_op))
end
end Go.Proofs.YtalejfkholifpaaGreat
namespace Go.Proofs.YtalejfkholifpaaGreat
open Go.RowKit
def mk (f : Nat → Int) (m : Nat) : List Int := (List.range m).map f
def Bits (f : Nat → Int) : Prop := ∀ k, 0 ≤ f k ∧ f k ≤ 1
def acc (f : Nat → Int) : Nat → Int
 | 0 => 0
 | i + 1 => 2 * acc f i + f i
theorem Bits.drop {xs : List Int} (h : Bits (el xs)) (lo : Nat) : Bits (el (xs.drop lo)) := fun k => by rw [el_drop]; exact h _
theorem Bits.take {xs : List Int} (h : Bits (el xs)) (m : Nat) : Bits (el (xs.take m)) := fun k => by
 rw [el_take]; split
 ·exact h k
 ·omega
theorem Bits.append {xs ys : List Int} (h : Bits (el xs)) (g : Bits (el ys)) : Bits (el (xs ++ ys)) := fun k => by
 rw [qbbj]; split
 ·exact h k
 ·exact g _
theorem Bits.fit {xs : List Int} (h : Bits (el xs)) : AllFit .u8 xs := by
 intro x hx;obtain ⟨i, hi, rfl⟩ := List.mem_iff_getElem.1 hx;have := h i;rw [qagx _ _ hi] at this;exact Fits.of_u8 (by omega) (by omega)
theorem qbld : SliceTy Tryz.prog 24 70 1 8 (.int .u64 0) := ⟨Tryz.underlying24, by kernel_rfl, rfl, by omega⟩
theorem two_pow_pos (d : Nat) : (0 : Int) < 2 ^ d := Int.pow_pos (by omega)
theorem qap4 (v : Int) (h0 : 0 ≤ v) (h1 : v ≤ 18446744073709551615) (d : Nat) : bits .and .u64 (v / 2 ^ d) 1 = v / 2 ^ d % 2 := by
 have h2 : 0 ≤ v / 2 ^ d := Int.ediv_nonneg h0 (Int.le_of_lt (two_pow_pos d));have h3 : v / 2 ^ d ≤ v := Int.ediv_le_self _ h0;exact and_one_u64 _ h2 (by omega)
theorem qazq {k : IntKind} {a b : Int} (h : a = b) : Ending.returned (.int k a) = .returned (.int k b) := by rw [h]
theorem qaqe {i j : Nat} (h : i ≤ j) : (2 : Int) ^ i ≤ 2 ^ j := by
 have := Nat.pow_le_pow_right (show 0 < 2 by omega) h;exact_mod_cast this
def qa9u (k : Nat) : Int := 2 ^ k - 1
def ones (w : Int) : Int := if 1 ≤ w ∧ w ≤ 64 then qa9u w.toNat else 0
theorem qbas : ∀ k : Fin 65, (18446744073709551615 : Int) / 2 ^ (64 - k.val) = qa9u k.val := by unfold qa9u; decide +kernel
theorem qau3 (k : Nat) (h : k ≤ 64) : 0 ≤ qa9u k ∧ qa9u k ≤ 18446744073709551615 := by
 unfold qa9u;have h1 : (2 : Int) ^ k ≤ 2 ^ 64 := qaqe h;have h2 : (0 : Int) < 2 ^ k := two_pow_pos _;have h3 : (2 : Int) ^ 64 = 18446744073709551616 := rfl;omega
theorem qa0d (w : Int) : 0 ≤ ones w ∧ ones w ≤ 18446744073709551615 := by
 unfold ones;split
 ·exact qau3 _ (by omega)
 ·omega
theorem qake (w_ : Int) (w : World) (hw : Fits .i64 w_) :
  Calls Tryz.prog 49 #[.int .i64 w_] w fun e w' => e = .returned (.int .u64 (ones w_)) ∧ w = w' := by
 have h := hw.i64;unfold ones;by_cases h1 : w_ < 1
 ·rw [if_neg (by omega)];go_enter Tryz.func49, Tryz.ntmps49
  go_wp2_with fail
  go_ret
  exact ⟨rfl, rfl⟩
 by_cases h2 : 64 < w_
 ·rw [if_neg (by omega)];go_enter Tryz.func49, Tryz.ntmps49
  go_wp2_with fail
  go_ret
  exact ⟨rfl, rfl⟩
 ·rw [if_pos (by omega)];go_enter Tryz.func49, Tryz.ntmps49
  go_wp2_with fail
  go_ret
  refine ⟨qazq ?_, rfl⟩;have := qbas ⟨w_.toNat, by omega⟩;rw [show (64 - w_).toNat = 64 - w_.toNat from by omega];exact this
section
attribute [local simp] qaa6 qaa5 qaak qaas qaal qaar qaa3 qaa4 qaae qabh SOp.run SX.ev putd puts argS upds SOp.touch SSt.keep SSt.skip gets geth puth delh idOf SV.cells? setL qac5 qac6 sbin eq0 eq1 eqL qac2 qaby qab0 qaa2 qaa1 qaac qaa7 qabi qaaj qaad FrzOk qaav qaan qaat qaau qaaf qaam qaa8 qaao qaah qaaw qaag frzS frzH frz frz1 frz0 SlotsM ObjsM ObjM rn ren ren1 ren0 qabk qabw qabz qabj qaa9 qabx qab1 CoL qaax qabr dels adds idsH qabc
theorem ownE_s (e : Entry) (h : qacd e) : SCalls Tryz.prog 24 [.agg (qaaa e)] [] 0 (.agg (qaaa e)) [] := by
 refine yG (N := 5) Tryz.func24 c_ownE ⟨rfl, trivial⟩ trivial ?_;rintro X hP hN hm;unfold c_ownE;refine qabb (qaab ?_);simp -implicitDefEqProofs [qaty];refine qabb (qaab ?_);rw [hP];simp -implicitDefEqProofs [qatx, qaaa, nums];refine qabe (yQ (own_s e h) _) ?_;simp -implicitDefEqProofs [qaaa, nums];refine qaba (qabu (s' := ⟨[(2, .ptr 0 0)], [(0, .cells 38 (qaaa e))], 1⟩) (qabl [(0, 1)] hm rfl (Nat.zero_le _) (by simp -implicitDefEqProofs []) (by simp -implicitDefEqProofs [qaaa, nums])) ?_ trivial (by simp));simp -implicitDefEqProofs [hP, qafc, resL, resV, qai8, qahc, one_, qaaa, nums]
theorem snums_s (xs ys : List Int) (hx : xs.length ≤ 1000000) : SCalls Tryz.prog 39 [nums .u64 xs, nums .u64 ys] [] 0 (.bool (decide (xs = ys))) [] := by
 refine yG (N := 26) Tryz.func39 qbj8 ⟨rfl, rfl, trivial⟩ trivial ?_;rintro X hP hN hm;unfold qbj8 nums;refine qabb (qaab ?_);simp -implicitDefEqProofs [qaov];refine qabb (qabb (qaab ?_));simp -implicitDefEqProofs [qaou];refine qaap rfl (fun h => ?_) (fun h => ?_)
 ·refine qabb (qaab ?_);simp -implicitDefEqProofs [qaot];refine qaba (qabu (s' := ⟨[(4, .bool (decide (xs = ys)))], [], 0⟩) (qabl [] hm rfl (Nat.le_refl _) ?_ trivial) rfl trivial (by simp));have hne : xs ≠ ys := fun e => by subst e; simp at h
  simp -implicitDefEqProofs [hne]
 ·have hl : xs.length = ys.length := by simp at h; omega
  refine qaai ?_;simp -implicitDefEqProofs [];refine qabb (qabb (qaab ?_));simp -implicitDefEqProofs [qaos];refine qabf (qadm (fun s n => ∃ i : Nat, s = ⟨[(0, nums .u64 xs), (1, nums .u64 ys), (5, .int .i64 i)], [], 0⟩ ∧ i ≤ xs.length ∧ xs.take i = ys.take i ∧ n = xs.length - i) (qabl [] hm rfl (Nat.le_refl _) (by simp -implicitDefEqProofs [nums]) (by trivial)) ⟨0, rfl, by omega, rfl, rfl⟩ ?_);rintro s n ⟨i, rfl, h1, h2, rfl⟩;unfold qaow;refine qabb (qabb (qaab ?_));simp -implicitDefEqProofs [qaor, nums];refine qaap rfl (fun h3 => qaai ?_) (fun h3 => qabv ?_)
  ·have hi : i < xs.length := by simpa using h3
   simp -implicitDefEqProofs [];refine qabb (qabf (qabb (qaaz (by rw [hP]; exact mixed) ?_)));have hi2 : i < ys.length := by omega
   simp -implicitDefEqProofs [qaoq, hi, hi2];refine ⟨rfl, qaap rfl (fun h4 => ?_) (fun h4 => ?_)⟩
   ·refine qabb (qaab ?_);simp -implicitDefEqProofs [qaop];refine qaba ?_;refine (qabu (s' := ⟨[(4, .bool (decide (xs = ys)))], [], 0⟩) (qabl [] hm rfl (Nat.le_refl _) ?_ trivial) rfl trivial (by simp));have hne : xs ≠ ys := fun e => by subst e; simp at h4
    simp -implicitDefEqProofs [hne]
   ·refine qaai ?_;simp -implicitDefEqProofs [];refine qaab ?_;simp -implicitDefEqProofs [qaoo];rw [qabo (by omega) (by omega)];have h5 : xs[i] = ys[i] := by simpa using h4
    refine qab3 (qabl [] hm rfl (Nat.le_refl _) (by simp -implicitDefEqProofs [nums]) (by trivial)) ⟨i + 1, rfl, by omega, ?_, rfl⟩ (by omega);rw [List.take_succ_eq_append_getElem hi, List.take_succ_eq_append_getElem hi2, h2, h5]
  ·have hi : i = xs.length := by have : ¬ i < xs.length := by simpa using h3
                                 omega
   have he : xs = ys := by
    have e1 := h2;rw [hi, List.take_length, hl, List.take_length] at e1; exact e1
   simp -implicitDefEqProofs [];refine qabb (qaab ?_);simp -implicitDefEqProofs [qaon];refine qaba ?_;refine (qabu (s' := ⟨[(4, .bool (decide (xs = ys)))], [], 0⟩) (qabl [] hm rfl (Nat.le_refl _) ?_ trivial) rfl trivial (by simp));simp -implicitDefEqProofs [he]
def qand (a b : Entry) : Bool := decide (a.keys = b.keys) && (decide (a.masks = b.masks) && (a.len == b.len && (a.prio == b.prio && (a.act == b.act && decide (a.args = b.args)))))
theorem qaff (xs ys : List Int) (hx : xs.length ≤ 1000000) (q : Nat) : SCalls Tryz.prog 39 [.view 1 (xs.map fun x => [.int .u64 x]), .view 1 (ys.map fun x => [.int .u64 x])] [] q (.bool (decide (xs = ys))) [] :=
 yQ (snums_s xs ys hx) q
theorem sent_s (a b : Entry) (h : qacd a) : SCalls Tryz.prog 29 [.agg (qaaa a), .agg (qaaa b)] [] 0 (.bool (qand a b)) [] := by
 obtain ⟨h1, h2, h3⟩ := h;refine yG (N := 45) Tryz.func29 c_sent ⟨rfl, rfl, trivial⟩ trivial ?_;rintro X hP hN hm;have fin : ∀ (r : Bool) hp nx, qand a b = r → SWp X .ret (QFun X (Tryz.f29).results.toList 0 (.bool (qand a b)) []) ⟨[(4, .bool r)], hp, nx⟩ := fun r hp nx hr => by
  rw [hr];exact qaba (qabu (s' := ⟨[(4, .bool r)], [], 0⟩) (qabl [] hm rfl (Nat.le_refl _) (by simp -implicitDefEqProofs []) trivial) rfl trivial (by simp))
 unfold c_sent;refine qabb (qaab ?_);simp -implicitDefEqProofs [qato, qaaa, nums];refine qabb (qaab ?_);rw [hP];simp -implicitDefEqProofs [qatn];refine qabe (qaff _ _ h1 _) ?_;cases k1 : decide (a.keys = b.keys)
 ·simp -implicitDefEqProofs [k1];exact fin _ _ _ (by simp only [qand, k1, Bool.false_and])
 simp -implicitDefEqProofs [k1];refine qabe (qaff _ _ h2 _) ?_;cases k2 : decide (a.masks = b.masks)
 ·simp -implicitDefEqProofs [k2];exact fin _ _ _ (by simp only [qand, k1, k2, Bool.false_and, Bool.true_and])
 simp -implicitDefEqProofs [k2];cases k3 : a.len == b.len
 ·simp -implicitDefEqProofs [];exact fin _ _ _ (by simp only [qand, k1, k2, k3, Bool.false_and, Bool.true_and])
 simp -implicitDefEqProofs [];cases k4 : a.prio == b.prio
 ·simp -implicitDefEqProofs [];exact fin _ _ _ (by simp only [qand, k1, k2, k3, k4, Bool.false_and, Bool.true_and])
 simp -implicitDefEqProofs [];cases k5 : a.act == b.act
 ·simp -implicitDefEqProofs [];exact fin _ _ _ (by simp only [qand, k1, k2, k3, k4, k5, Bool.false_and, Bool.true_and])
 simp -implicitDefEqProofs [];refine qabe (qaff _ _ h3 _) ?_;simp -implicitDefEqProofs [];exact fin _ _ _ (by simp only [qand, k1, k2, k3, k4, k5, Bool.true_and])
theorem pow_i (i : Nat) (h : i < 64) : (2 : Int) ^ i ≤ 9223372036854775808 ∧ (0 : Int) < 2 ^ i := by
 have h1 : 2 ^ i ≤ 2 ^ 63 := Nat.pow_le_pow_right (by omega) (by omega);have h2 : 0 < 2 ^ i := Nat.two_pow_pos i;have e : ((2 : Int) ^ i) = ((2 ^ i : Nat) : Int) := by simp
 rw [e]; omega
theorem qbl7 (k : Int) : SCalls Tryz.prog 58 [.int .i64 k] [] 0 (.int .u64 (if k ≤ 64 then 2 ^ k.toNat - 1 else 0)) [] := by
 refine yG (N := 18) Tryz.func58 c_ones ⟨rfl, trivial⟩ trivial ?_;rintro X hP hN hm;unfold c_ones;refine qabb (qaab ?_);simp -implicitDefEqProofs [qat4];refine qabb (qaab ?_);simp -implicitDefEqProofs [qat3];refine qabb (qabb (qaab ?_));simp -implicitDefEqProofs [qat2];refine qabf (qadm (fun s n => ∃ i : Nat, s = ⟨[(0, .int .i64 k), (3, .int .u64 (2 ^ i - 1)), (4, .int .i64 i)], [], 0⟩ ∧ (i : Int) ≤ 64 ∧ (0 < i → (i : Int) ≤ k ∧ k ≤ 64) ∧ n = k.toNat - i) (qabl [] hm rfl (Nat.le_refl _) (by simp -implicitDefEqProofs []) (by simp -implicitDefEqProofs [])) ⟨0, rfl, by omega, by omega, rfl⟩ ?_);rintro s n ⟨i, rfl, h1, h2, rfl⟩;have fin : ¬ ((i : Int) < k ∧ k ≤ 64) → SWp X ((SCode.reg false qamv [2]).seq SCode.ret) (QFun X [ResultVar.tmp 2] 0 (SV.int IntKind.u64 (if k ≤ 64 then 2 ^ k.toNat - 1 else 0)) []) ⟨[(0, .int .i64 k), (3, .int .u64 (2 ^ i - 1)), (4, .int .i64 i)], [], 5⟩ := by
  intro hn;refine qabb (qaab ?_);simp -implicitDefEqProofs [qamv];refine qaba ?_;refine qabu (s' := ⟨[(2, .int .u64 (if k ≤ 64 then 2 ^ k.toNat - 1 else 0))], [], 0⟩) (qabl [] hm rfl (Nat.le_refl _) ?_ ?_) rfl trivial (by simp)
  ·simp -implicitDefEqProofs [];refine qabw ?_;split
   ·have : k.toNat = i := by omega
    rw [this]
   ·have : i = 0 := by omega
    subst this; simp
  ·simp -implicitDefEqProofs []
 unfold qat5;refine qabb (qabb (qaab ?_));cases h3 : decide ((i : Int) < k) <;> simp -implicitDefEqProofs [qat1, h3]
 ·simp at h3;refine qaap rfl (by simp) fun _ => qabv ?_
  simp -implicitDefEqProofs [];refine qad8 (qabl (s' := ⟨_, _, 5⟩) [] hm rfl (by simp) ?_ ?_) (fin (by omega))
  ·simp -implicitDefEqProofs []
  ·simp -implicitDefEqProofs []
 ·simp at h3;refine qaap rfl (fun h4 => qaai ?_) fun h4 => qabv ?_
  ·simp at h4;simp -implicitDefEqProofs [];refine qabb (qabf (qaab ?_));simp -implicitDefEqProofs [qat0];refine qaab ?_;simp -implicitDefEqProofs [qatz];have hp := pow_i i (by omega);have e1 : IntKind.u64.wrap (2 * (2 ^ i - 1)) = 2 * (2 ^ i - 1) := qasd (by omega) (by omega);have e2 : IntKind.u64.wrap (2 * (2 ^ i - 1) + 1) = 2 * (2 ^ i - 1) + 1 := qasd (by omega) (by omega);have e3 : IntKind.i64.wrap ((i : Int) + 1) = (i : Int) + 1 := qabo (by omega) (by omega);rw [e1, e2, e3];refine qab3 (qabl [] hm rfl (Nat.le_refl _) ?_ ?_) ⟨i + 1, rfl, by omega, by omega, rfl⟩ (by omega)
   ·simp -implicitDefEqProofs [];exact qabw (by rw [Int.pow_succ]; omega)
   ·simp -implicitDefEqProofs []
  ·simp at h4;simp -implicitDefEqProofs [];refine qad8 (qabl (s' := ⟨_, _, 5⟩) [] hm rfl (by simp) ?_ ?_) (fin (by omega))
   ·simp -implicitDefEqProofs []
   ·simp -implicitDefEqProofs []
end
end Go.Proofs.YtalejfkholifpaaGreat
namespace Go.Proofs.YtalejfkholifpaaGreat
section
open Go.RowKit Go.ChangeShapes Go.WideShapes
structure TStep where
 d : Int
 e : Entry
instance : Inhabited TStep := ⟨⟨0, default⟩⟩
def qal0 : Lay TStep := Lay.map (fun s => (s.d, s.e)) (Lay.pair (Lay.int .i64) entryLay)
theorem opensI : Opens Tryz.prog 3 (Lay.int .i64) := Opens.int Tryz.underlying3 (by kernel_rfl)
theorem opensU : Opens Tryz.prog 70 (Lay.int .u64) := Opens.int Tryz.underlying70 (by kernel_rfl)
theorem qbar : Opens Tryz.prog 24 (Lay.slice (Lay.int .u64)) := opensU.slice Tryz.underlying24 (by kernel_rfl)
theorem qau1 : Opens Tryz.prog 38 entryLay := by
 have h : Opens Tryz.prog 38 (Lay.pair (Lay.slice (Lay.int .u64)) (Lay.pair (Lay.slice (Lay.int .u64)) (Lay.pair (Lay.int .i64) (Lay.pair (Lay.int .i64) (Lay.pair (Lay.int .i64) (Lay.slice (Lay.int .u64))))))) :=
  Opens.struct Tryz.underlying38 (OpensF.cons qbar rfl (OpensF.cons qbar rfl (OpensF.cons opensI rfl (OpensF.cons opensI rfl (OpensF.cons opensI rfl (OpensF.one qbar rfl)))))) (by kernel_rfl) (by decide)
 refine h.weak rfl ?_;rintro w ⟨a, b, c, d, e, f⟩ cs hr;exact ⟨⟨a, b, c, d, e, f⟩, hr⟩
theorem opens_tstep : Opens Tryz.prog 40 qal0 := by
 have h : Opens Tryz.prog 40 (Lay.pair (Lay.int .i64) entryLay) :=
  Opens.struct Tryz.underlying40 (OpensF.cons opensI rfl (OpensF.one qau1 rfl)) (by kernel_rfl) (by decide)
 refine h.weak rfl ?_;rintro w ⟨a, e⟩ cs hr;exact ⟨⟨a, e⟩, hr⟩
end
end Go.Proofs.YtalejfkholifpaaGreat
