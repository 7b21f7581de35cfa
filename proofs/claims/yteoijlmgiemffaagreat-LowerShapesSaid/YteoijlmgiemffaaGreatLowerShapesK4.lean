/-
  Texts joined: XPlnD XPlnE XBv XPlnF XPlnG XPlnH XPlnI XPlnJ XCplt XPlnK XPlnL XWlkA XWlkB. No condition.
-/
import Derived.Test.YteoijlmgiemffaaGreatProg
import Derived.ProofKit
import Derived.WalkSpells
import Derived.RegionTactic
import Derived.BigRegion
import Derived.Deep.RegionLaw
import Derived.Test.YteoijlmgiemffaaGreatLowerShapesK3
namespace Go.Proofs.YteoijlmgiemffaaGreat
set_option linter.all false
open Go.RowKit
attribute [local simp] qabi qabh qaax qaa7 qaay qaa6 qabf qabg qaar qabr SOp.run SX.ev putd puts argS upds SOp.touch SSt.keep SSt.skip gets geth puth delh idOf SV.cells? setL qadh qadi sbin eq0 eq1 eqL qadf qab9 qaca qaap qabk qaag qabl qabs qaaj qaaq FrzOk qaba qaa1 qaa8 qaa9 qaat qaa0 qabm qaa2 qaav qabb qaau frzS frzH frz frz1 frz0 SlotsM ObjsM ObjM rn ren ren1 ren0 qabu qab7 qacf qabt qabn qacg qace CoL qabc qab3 dels adds idsH qabz
attribute [local simp] qadt refc qaes qaei qab8 opc actc tabc qaea qacm nums jc
theorem qaln (p : PlanD) (a b : Int) (l : List PushD) (args : List Int) (at_ : Int) (hl : l.length ≤ 1000000) (id q : Nat) (h : id < q) : SCalls Tryz.prog 180 [.ptr id 0, qab2 l, nums .i64 args, .int .i64 at_] [(id, .cells 261 (jc p a b))] q (.tup []) [(id, .cells 261 (jc p (qad6 a b (qafi p l args) at_).1 (qad6 a b (qafi p l args) at_).2))] :=
 qac9 (jtree_s p a b l args at_ hl) (fun _ => rfl) (fun _ => rfl) (fun _ => rfl) rfl (fun _ => rfl) rfl id q h
theorem qaur (p : PlanD) (a b : Int) (l : List PushD) (at_ : Int) (hl : l.length ≤ 1000000) (id q : Nat) (h : id < q) : SCalls Tryz.prog 180 [.ptr id 0, qab2 l, .nilsl, .int .i64 at_] [(id, .cells 261 (jc p a b))] q (.tup []) [(id, .cells 261 (jc p (qad6 a b (qafi p l []) at_).1 (qad6 a b (qafi p l []) at_).2))] :=
 qahc (qaln p a b l [] at_ hl id q h) ⟨Co.refl _, Co.refl _, Co.nilsl _, Co.refl _, trivial⟩
theorem qahy (a b : Int) (c : Bool) (code at_ : Int) (h : code ≠ 0) : qab0 a b c code at_ = qad6 a b (if c = true then code else 0) at_ := by
 cases c <;> simp [qab0, qad6, h]
theorem qaik (a b c d at_ : Int) : qad6 (qad6 a b c at_).1 (qad6 a b c at_).2 d at_ = qad6 a b (if c = 0 then d else c) at_ := by
 unfold qad6 qab0
 by_cases hc : c = 0
 ·simp [hc]
 ·by_cases ha : a = 0 <;> simp [hc, ha]
def PW (p : PlanD) : Prop := ∀ r, 0 ≤ qabw p r [] ∧ qabw p r [] ≤ 48
theorem may_not (p : PlanD) (hp : PW p) (r : RefD) : (!(decide (-1 ≤ r.h)) || qabw p r [] == 0) = !qang p r := by
 have := hp r
 unfold qang
 rw [Bool.eq_iff_iff]; simp; omega
theorem jl (p : PlanD) {F G : Int × Int} (h : F = G) : jc p F.1 F.2 = jc p G.1 G.2 := by rw [h]
theorem jl2 (p : PlanD) {a b at_ : Int} {G : Int × Int} (h : qad6 a b 0 at_ = G) : jc p a b = jc p G.1 G.2 := by
 rw [← h]; simp [qad6, qab0]
theorem then_c {a b at_ c d : Int} (h : c = d) : qad6 a b c at_ = qad6 a b d at_ := by rw [h]
theorem jop_s (p : PlanD) (hp : PW p) (a b : Int) (o : OpD) (args : List Int) (at_ : Int) (hl : o.e.length ≤ 1000000) : SCalls Tryz.prog 179 [.ptr 0 0, .agg (opc o), nums .i64 args, .int .i64 at_] [(0, .cells 261 (jc p a b))] 1 (.tup []) [(0, .cells 261 (jc p (qad6 a b (qahj p o args) at_).1 (qad6 a b (qahj p o args) at_).2))] := by
 refine qaas (N := 56) Tryz.func179 rfl rfl (by kernel_rfl) qa6n (by simp) (by repeat' (first | exact trivial | refine And.intro ?_ ?_ | rfl | decide | exact PureR.ren _)) (by repeat' (first | exact trivial | refine And.intro ?_ ?_ | rfl | decide | exact PureR.ren _)) ?_
 rintro X hP hN hm
 have c1 := fun a b q h => qao3 p a b o.r at_ 0 q h
 have c2 := fun a b q h => qaln p a b o.e args at_ hl 0 q h
 have c3 := fun a b q h => qah1 p a b o.head at_ 0 q h
 simp only [may_not p hp, qahy _ _ _ 1 _ (by decide : (1 : Int) ≠ 0)] at c1 c3
 replace c1 := Lib.hid c1
 replace c2 := Lib.hid c2
 replace c3 := Lib.hid c3
 unfold c_jop
 repeat' (first | (with_reducible first | refine zA ?_ | refine qaae ?_) | ((with_reducible refine qaac ?_); (try rw [hP]); simp -implicitDefEqProofs [qab2, *]) | ((with_reducible refine qaaf ?_); (try simp -implicitDefEqProofs [qab2, *])) | ((with_reducible refine qaaa rfl (fun h => ?_) (fun h => ?_)) <;> have h' := h <;> (try simp at h') <;> (try subst h')) | ((first | refine qabv (c1.out _ _ _ (by simp)) ⟨rfl, trivial⟩ ⟨rfl, trivial⟩ ?_ | refine qabv (c2.out _ _ _ (by simp)) ⟨rfl, trivial⟩ ⟨rfl, trivial⟩ ?_ | refine qabv (c3.out _ _ _ (by simp)) ⟨rfl, trivial⟩ ⟨rfl, trivial⟩ ?_ | refine qabv (qabd p _ _ _ _ _ _ _ (by simp)) ⟨rfl, trivial⟩ ⟨rfl, trivial⟩ ?_); simp -implicitDefEqProofs [qab2, *]) | (refine qact hm rfl ?_ (fun σ => rfl)) | fail)
 all_goals (first | refine jl p ?_ | refine jl2 p (at_ := at_) ?_)
 all_goals (try simp only [qahy, qaik, ne_eq, Int.reduceEq, not_false_eq_true])
 all_goals (refine then_c ?_)
 all_goals (first | (simp [qahj, *]; done) | (simp_all [qahj]; done) | (simp [qahj, *]; cases qang p o.r <;> cases qac0 p o.head <;> simp))
theorem jto_s (p : PlanD) (a b from_ to_ : Int) (hf : 0 ≤ from_ ∧ from_ ≤ 1000000) : SCalls Tryz.prog 178 [.ptr 0 0, .int .i64 from_, .int .i64 to_] [(0, .cells 261 (jc p a b))] 1 (.tup []) [(0, .cells 261 (jc p (qad6 a b (qag8 p from_ to_) (3000 + from_)).1 (qad6 a b (qag8 p from_ to_) (3000 + from_)).2))] := by
 refine qaas (N := 35) Tryz.func178 rfl rfl (by kernel_rfl) qa6m (by simp) (by repeat' (first | exact trivial | refine And.intro ?_ ?_ | rfl | decide | exact PureR.ren _)) (by repeat' (first | exact trivial | refine And.intro ?_ ?_ | rfl | decide | exact PureR.ren _)) ?_
 rintro X hP hN hm
 have w : IntKind.i64.wrap (3000 + from_) = 3000 + from_ := qaao (by omega) (by omega)
 unfold c_jto
 repeat' (first | (with_reducible refine zA ?_) | ((with_reducible refine qaac ?_); (try rw [hP]); simp -implicitDefEqProofs [*]) | ((with_reducible refine qaaf ?_); (try simp -implicitDefEqProofs [*])) | ((with_reducible refine qaam ?_); (try simp only [qaap, qaag, qaaj])) | ((with_reducible refine qaaa rfl (fun h => ?_) (fun h => ?_)) <;> have h' := h <;> (try simp at h') <;> (try subst h')) | ((with_reducible refine qaan (fun h => ?_) (fun h => ?_)) <;> have h' := h <;> (try simp at h') <;> (try subst h') <;> simp -implicitDefEqProofs [*]) | (refine qabv (qabd p _ _ _ _ _ _ _ (by simp)) ⟨rfl, trivial⟩ ⟨rfl, trivial⟩ ?_; simp -implicitDefEqProofs [*]) | (refine qact hm rfl ?_ (fun σ => rfl)) | fail)
 all_goals (first | refine jl p ?_ | refine jl2 p (at_ := 3000 + from_) ?_)
 all_goals (try simp only [qahy, qaik, ne_eq, Int.reduceEq, not_false_eq_true])
 all_goals (refine then_c ?_)
 all_goals (first | (simp [qag8, *]; done) | (simp_all [qag8]; done) | (simp_all [qag8]; omega))
end Go.Proofs.YteoijlmgiemffaaGreat
namespace Go.Proofs.YteoijlmgiemffaaGreat
set_option linter.all false
open Go.RowKit
attribute [local simp] qabi qabh qaax qaa7 qaay qaa6 qabf qabg qaar qabr SOp.run SX.ev putd puts argS upds SOp.touch SSt.keep SSt.skip gets geth puth delh idOf SV.cells? setL qadh qadi sbin eq0 eq1 eqL qadf qab9 qaca qaap qabk qaag qabl qabs qaaj qaaq FrzOk qaba qaa1 qaa8 qaa9 qaat qaa0 qabm qaa2 qaav qabb qaau frzS frzH frz frz1 frz0 SlotsM ObjsM ObjM rn ren ren1 ren0 qabu qab7 qacf qabt qabn qacg qace CoL qabc qab3 dels adds idsH qabz
attribute [local simp] qadt refc qaes qaei qab8 opc actc tabc qaea qacm nums jc
theorem qakj (a b c at_ : Int) : qad6 a b c at_ = orF (a, b) (c, at_) := by
 unfold qad6 qab0 orF
 by_cases ha : a = 0 <;> by_cases hc : c = 0 <;> simp [ha, hc]
theorem qbka (p : PlanD) (hp : PW p) (a b : Int) (o : OpD) (args : List Int) (at_ : Int) (hl : o.e.length ≤ 1000000) (id q : Nat) (h : id < q) : SCalls Tryz.prog 179 [.ptr id 0, .agg (opc o), nums .i64 args, .int .i64 at_] [(id, .cells 261 (jc p a b))] q (.tup []) [(id, .cells 261 (jc p (qad6 a b (qahj p o args) at_).1 (qad6 a b (qahj p o args) at_).2))] :=
 qac9 (jop_s p hp a b o args at_ hl) (fun _ => rfl) (fun _ => rfl) (fun _ => rfl) rfl (fun _ => rfl) rfl id q h
theorem qa6q (p : PlanD) (a b from_ to_ : Int) (hf : 0 ≤ from_ ∧ from_ ≤ 1000000) (id q : Nat) (h : id < q) : SCalls Tryz.prog 178 [.ptr id 0, .int .i64 from_, .int .i64 to_] [(id, .cells 261 (jc p a b))] q (.tup []) [(id, .cells 261 (jc p (qad6 a b (qag8 p from_ to_) (3000 + from_)).1 (qad6 a b (qag8 p from_ to_) (3000 + from_)).2))] :=
 qac9 (jto_s p a b from_ to_ hf) (fun _ => rfl) (fun _ => rfl) (fun _ => rfl) rfl (fun _ => rfl) rfl id q h
structure SmallP (p : PlanD) : Prop where
 heads : p.heads.length ≤ 1000
 metas : p.meta_.length ≤ 1000
 states : p.states.length ≤ 1000
 acts : p.acts.length ≤ 1000
 tabs : p.tabs.length ≤ 1000
 nodes : p.nodes.length ≤ 1000
 outs : p.out.length ≤ 1000
 headW : ∀ h ∈ p.heads, h.w.length ≤ 1000
 cases_ : ∀ s ∈ p.states, s.cases_.length ≤ 1000
 actW : ∀ a ∈ p.acts, a.w.length ≤ 1000
 ops : ∀ a ∈ p.acts, a.ops.length ≤ 1000
 tree : ∀ a ∈ p.acts, ∀ o ∈ a.ops, o.e.length ≤ 1000
 keys : ∀ t ∈ p.tabs, t.keys.length ≤ 1000 ∧ t.acts.length ≤ 1000 ∧ t.args.length ≤ 1000
 node : ∀ n ∈ p.nodes, n.e.length ≤ 1000
theorem qac1 (a b : Int) (c : Bool) (code r at_ : Int) (h : code ≠ 0) : orF (a, b) (if c = true then code else r, at_) = orF (qab0 a b c code at_) (r, at_) := by
 unfold orF qab0
 cases c <;> by_cases ha : a = 0 <;> by_cases hr : r = 0 <;> simp [ha, hr, h]
theorem qash (a b c r at_ : Int) : orF (a, b) (if c = 0 then r else c, at_) = orF (qad6 a b c at_) (r, at_) := by
 rw [qakj]; unfold orF
 by_cases ha : a = 0 <;> by_cases hr : r = 0 <;> by_cases hc : c = 0 <;> simp [ha, hr, hc]
theorem qaem (f : Int × Int) (c at_ : Int) (R : Int × Int) : orF f (if c ≠ 0 then (c, at_) else R) = orF (orF f (c, at_)) R := by
 unfold orF
 by_cases ha : f.1 = 0 <;> by_cases hr : R.1 = 0 <;> by_cases hc : c = 0 <;> simp [ha, hr, hc]
theorem qaep (a b : Int) (c : Bool) (at_ : Int) (R : Int × Int) : orF (a, b) (orF (qasz c at_) R) = orF (qab0 a b c 2 at_) R := by
 rw [← qado]
 congr 1
 unfold orF qab0 qasz
 cases c <;> by_cases ha : a = 0 <;> simp [ha]
theorem jacts_s (p : PlanD) (hp : PW p) (hs : SmallP p) (a b : Int) : SCalls Tryz.prog 157 [.ptr 0 0] [(0, .cells 261 (jc p a b))] 1 (.tup []) [(0, .cells 261 (jc p (orF (a, b) (qaie p)).1 (orF (a, b) (qaie p)).2))] := by
 refine qaas (N := 100) Tryz.func157 rfl rfl (by kernel_rfl) qaox (by simp) (by repeat' (first | exact trivial | refine And.intro ?_ ?_ | rfl | decide | exact PureR.ren _)) (by repeat' (first | exact trivial | refine And.intro ?_ ?_ | rfl | decide | exact PureR.ren _)) ?_
 rintro X hP hN hm
 have hF : orF (a, b) (qaie p) = orF (qab0 a b (decide (8 < (p.acts.length : Int))) 2 (-4)) (rowF (fun _ a => actF p a) 4000 0 p.acts) := by
  unfold qaie; rw [qaep]; congr 3; exact propext (by omega)
 generalize orF (a, b) (qaie p) = F at hF
 replace hF := Lib.hid hF
 have hla := hs.acts
 unfold c_jacts
 repeat' (first | (with_reducible refine zA ?_) | ((with_reducible refine qaac ?_); (try rw [hP]); simp -implicitDefEqProofs [*]) | (refine qabv (qabd p _ _ _ _ _ _ _ (by simp)) ⟨rfl, trivial⟩ ⟨rfl, trivial⟩ ?_; simp -implicitDefEqProofs [*]) | fail)
 refine qaal (qaa5 (fun s (x : Nat × Int × Int) => s.turn [(2, .int .i64 x.1)] [(0, .cells 261 (jc p x.2.1 x.2.2))]) (fun x => x.1 ≤ p.acts.length ∧ F = orF (x.2.1, x.2.2) (rowF (fun _ a => actF p a) 4000 x.1 (p.acts.drop x.1))) (fun x => p.acts.length - x.1) (0, _, _) ?_ ⟨by simp, hF⟩ ?_)
 ·repeat' (first | ((with_reducible refine qaah [] hm ?_ ?_ ?_ ?_) <;> (try simp only [zT, puth, Nat.reduceEqDiff, reduceIte, Nat.reduceAdd])) | (with_reducible first | refine za ?_ ?_ | refine zb ?_ ?_ ?_ ?_) | (with_reducible first | exact qaab | exact qaad) | ((with_reducible first | refine zga ?_ | refine zgb ?_); rfl) | ((with_reducible refine zgd ?_); (first | omega | (simp; done))) | (exact Co.refl _) | (exact CoL.refl _) | fail)
 rintro J hJ ⟨i, e, g⟩ ⟨h1, h2⟩
 have hJo := hJ
 unfold qamq
 simp only [zT, puth, Nat.reduceEqDiff, reduceIte, Nat.reduceAdd] at h1 h2 ⊢
 rcases Nat.lt_or_ge i p.acts.length with hi | hi
 ·have hxm : p.acts[i] ∈ p.acts := List.getElem_mem hi
  have hw := hs.actW _ hxm
  have ho := hs.ops _ hxm
  have ht := hs.tree _ hxm
  rw [qadb _ _ hi] at h2
  generalize hxx : p.acts[i] = x at h2 hw ho ht
  by_cases he : e = 0
  ·subst he
   rw [qaem] at h2
   have wi : IntKind.i64.wrap ((i : Int) + 1) = (i : Int) + 1 := qaao (by omega) (by omega)
   have wa : IntKind.i64.wrap (4000 + (i : Int)) = 4000 + (i : Int) := qaao (by omega) (by omega)
   have hA : orF (0, g) (actF p x, 4000 + (i : Int)) = orF (qab0 0 g (decide (3 < (x.w.length : Int)) || decide (5 < (x.ops.length : Int))) 2 (4000 + i)) (if x.w.any wOut = true then 6 else qacj (fun o => qahj p o x.w) x.ops, 4000 + (i : Int)) := by
    rw [← qac1 _ _ _ _ _ _ (by decide)]
    have hc : (decide (3 < (x.w.length : Int)) || decide (5 < (x.ops.length : Int))) = true ↔ (3 < x.w.length ∨ 5 < x.ops.length) := by rw [Bool.or_eq_true, decide_eq_true_eq, decide_eq_true_eq]; omega
    have : actF p x = if (decide (3 < (x.w.length : Int)) || decide (5 < (x.ops.length : Int))) = true then 2 else if x.w.any wOut = true then 6 else qacj (fun o => qahj p o x.w) x.ops := by
     unfold actF
     by_cases c1 : 3 < x.w.length ∨ 5 < x.ops.length
     ·rw [if_pos c1, if_pos (hc.2 c1)]
     ·rw [if_neg c1, if_neg (fun h => c1 (hc.1 h))]
    rw [this]
   generalize orF (0, g) (actF p x, 4000 + (i : Int)) = A at hA h2
   replace hA := Lib.hid hA
   replace h2 := Lib.hid h2
   replace ht := Lib.hid ht
   repeat' (first | (with_reducible first | refine zA ?_ | refine qaae ?_) | ((with_reducible refine qaac ?_); (try rw [hP]); simp -implicitDefEqProofs [*]) | ((with_reducible refine qaaf ?_); (try simp -implicitDefEqProofs [*])) | ((with_reducible refine qaaa rfl (fun h => ?_) (fun h => ?_)) <;> have h' := h <;> (try simp at h') <;> (try subst h')) | ((with_reducible refine qaan (fun h => ?_) (fun h => ?_)) <;> have h' := h <;> (try simp at h') <;> (try subst h') <;> simp -implicitDefEqProofs [*]) | (refine qabv (qabd p _ _ _ _ _ _ _ (by simp)) ⟨rfl, trivial⟩ ⟨rfl, trivial⟩ ?_; simp -implicitDefEqProofs [*]) | fail)
   all_goals
    refine qaal (qaa5 (fun s (y : Nat × Int × Int) => s.turn [(61, .int .i64 y.1)] [(0, .cells 261 (jc p y.2.1 y.2.2))]) (fun y => y.1 ≤ x.w.length ∧ A = orF (y.2.1, y.2.2) (if (x.w.drop y.1).any wOut = true then 6 else qacj (fun o => qahj p o x.w) x.ops, 4000 + (i : Int))) (fun y => x.w.length - y.1) (0, _, _) ?_ ⟨by simp, by have q := hA.out; simp only [*, Bool.true_or, Bool.false_or] at q; exact q⟩ ?_)
    ·repeat' (first | ((with_reducible refine qaah [] hm ?_ ?_ ?_ ?_) <;> (try simp only [zT, puth, Nat.reduceEqDiff, reduceIte, Nat.reduceAdd])) | (with_reducible first | refine za ?_ ?_ | refine zb ?_ ?_ ?_ ?_) | (with_reducible first | exact qaab | exact qaad) | ((with_reducible first | refine zga ?_ | refine zgb ?_); rfl) | ((with_reducible refine zgd ?_); (first | omega | (simp; done))) | (exact Co.refl _) | (exact CoL.refl _) | fail)
    rintro J hJ ⟨j, e1, g1⟩ ⟨h3, h4⟩
    unfold qams
    simp only [zT, puth, Nat.reduceEqDiff, reduceIte, Nat.reduceAdd] at h3 h4 ⊢
    replace h4 := Lib.hid h4
    rcases Nat.lt_or_ge j x.w.length with hj | hj
    ·have wj : IntKind.i64.wrap ((j : Int) + 1) = (j : Int) + 1 := qaao (by omega) (by omega)
     repeat' (first | (with_reducible first | refine zA ?_ | refine qaae ?_) | ((with_reducible refine qaac ?_); (try rw [hP]); simp -implicitDefEqProofs [*]) | ((with_reducible refine qaaf ?_); (try simp -implicitDefEqProofs [*])) | ((with_reducible refine qaaa rfl (fun h => ?_) (fun h => ?_)) <;> have h' := h <;> (try simp at h') <;> (try subst h')) | ((with_reducible refine qaan (fun h => ?_) (fun h => ?_)) <;> have h' := h <;> (try simp at h') <;> (try subst h') <;> simp -implicitDefEqProofs [*]) | (refine qabv (qabd p _ _ _ _ _ _ _ (by simp)) ⟨rfl, trivial⟩ ⟨rfl, trivial⟩ ?_; simp -implicitDefEqProofs [*]) | (with_reducible first | refine za ?_ ?_ | refine zb ?_ ?_ ?_ ?_) | (with_reducible first | exact qaab | exact qaad) | ((with_reducible first | refine zga ?_ | refine zgb ?_); rfl) | ((with_reducible first | refine zgd ?_ | refine zge ?_); (first | omega | (simp; done))) | (exact Co.refl _) | (exact CoL.refl _) | ((refine qaai hJ (j + 1, ?_, ?_) ?_ ?_ ?_; rotate_left 2; (with_reducible refine qaah [] hm ?_ ?_ ?_ ?_) <;> (try simp only [zT, puth, Nat.reduceEqDiff, reduceIte, Nat.reduceAdd]))) | fail)
     all_goals (try dsimp only)
     all_goals (refine ⟨by omega, ?_⟩; rw [h4.out, qac8 _ hj]; refine Eq.trans ?_ (qac1 e1 g1 _ 6 _ _ (by decide)); refine congrArg (fun c => orF (e1, g1) (c, 4000 + (i : Int))) ?_; cases (x.w.drop (j + 1)).any wOut <;> simp [wOut, *])
    ·obtain rfl : j = x.w.length := by omega
     have h5 : A = orF (e1, g1) (qacj (fun o => qahj p o x.w) (x.ops.drop 0), 4000 + (i : Int)) := by rw [h4.out, List.drop_length]; rfl
     replace h5 := Lib.hid h5
     repeat' (first | (with_reducible refine zA ?_) | ((with_reducible refine qaac ?_); (try rw [hP]); simp -implicitDefEqProofs [*]) | ((with_reducible refine qaak ?_); (try simp -implicitDefEqProofs [*])) | ((with_reducible refine qaaa rfl (fun h => ?_) (fun h => ?_)) <;> have h' := h <;> (try simp at h') <;> (try subst h')) | fail)
     refine qaal (qaa5 (fun s (y : Nat × Int × Int) => s.turn [(7, .int .i64 y.1)] [(0, .cells 261 (jc p y.2.1 y.2.2))]) (fun y => y.1 ≤ x.ops.length ∧ A = orF (y.2.1, y.2.2) (qacj (fun o => qahj p o x.w) (x.ops.drop y.1), 4000 + (i : Int))) (fun y => x.ops.length - y.1) (0, _, _) ?_ ⟨by simp, h5.out⟩ ?_)
     ·repeat' (first | ((with_reducible refine qaah [] hm ?_ ?_ ?_ ?_) <;> (try simp only [zT, puth, Nat.reduceEqDiff, reduceIte, Nat.reduceAdd])) | (with_reducible first | refine za ?_ ?_ | refine zb ?_ ?_ ?_ ?_) | (with_reducible first | exact qaab | exact qaad) | ((with_reducible first | refine zga ?_ | refine zgb ?_); rfl) | ((with_reducible refine zgd ?_); (first | omega | (simp; done))) | (exact Co.refl _) | (exact CoL.refl _) | fail)
     rintro J hJ ⟨k, e2, g2⟩ ⟨h6, h7⟩
     unfold qamr
     simp only [zT, puth, Nat.reduceEqDiff, reduceIte, Nat.reduceAdd] at h6 h7 ⊢
     rcases Nat.lt_or_ge k x.ops.length with hk | hk
     ·have hom := ht.out x.ops[k] (List.getElem_mem hk)
      rw [qae7 _ hk, qash] at h7
      generalize hoo : x.ops[k] = o at h7 hom
      replace h7 := Lib.hid h7
      have wk1 : IntKind.i64.wrap ((k : Int) + 1) = (k : Int) + 1 := qaao (by omega) (by omega)
      by_cases he2 : e2 = 0
      ·subst he2
       repeat' (first | (with_reducible first | refine zA ?_ | refine qaeh ?_ | refine zK ?_) | ((with_reducible first | refine qaac ?_ | refine qaaz (by rw [hP]; exact qacz) ?_); (try rw [hP]); simp -implicitDefEqProofs [*]) | ((with_reducible refine qaaf ?_); (try simp -implicitDefEqProofs [*])) | ((with_reducible refine qaaa rfl (fun h => ?_) (fun h => ?_)) <;> have h' := h <;> (try simp at h') <;> (try subst h')) | (refine qabv (qbka p hp _ _ o x.w _ (by omega) _ _ (by simp)) ⟨rfl, trivial⟩ ⟨rfl, trivial⟩ ?_; simp -implicitDefEqProofs [*]) | (with_reducible first | refine za ?_ ?_ | refine zb ?_ ?_ ?_ ?_) | (with_reducible first | exact qaab | exact qaad) | ((with_reducible first | refine zga ?_ | refine zgb ?_); rfl) | ((with_reducible first | refine zgd ?_ | refine zge ?_); (first | omega | (simp; done))) | (exact Co.refl _) | (exact CoL.refl _) | ((refine qaai hJ (k + 1, ?_, ?_) ?_ ?_ ?_; rotate_left 2; (with_reducible refine qaah [] hm ?_ ?_ ?_ ?_) <;> (try simp only [zT, puth, Nat.reduceEqDiff, reduceIte, Nat.reduceAdd]))) | fail)
       all_goals (try dsimp only)
       all_goals (refine ⟨by omega, ?_⟩; exact h7.out)
      ·have ke2 : (e2 == 0) = false := by simpa using he2
       repeat' (first | (with_reducible refine zA ?_) | ((with_reducible refine qaac ?_); (try rw [hP]); simp -implicitDefEqProofs [*]) | ((with_reducible refine qaak ?_); (try simp -implicitDefEqProofs [*])) | ((with_reducible refine qaaa rfl (fun h => ?_) (fun h => ?_)) <;> have h' := h <;> (try simp at h') <;> (try subst h')) | (with_reducible first | refine za ?_ ?_ | refine zb ?_ ?_ ?_ ?_) | (with_reducible first | exact qaab | exact qaad) | ((with_reducible first | refine zga ?_ | refine zgb ?_); rfl) | ((with_reducible first | refine zgd ?_ | refine zge ?_); (first | omega | (simp; done))) | (exact Co.refl _) | (exact CoL.refl _) | ((refine qaai hJo (i + 1, ?_, ?_) ?_ ?_ ?_; rotate_left 2; (with_reducible refine qaah [] hm ?_ ?_ ?_ ?_) <;> (try simp only [zT, puth, Nat.reduceEqDiff, reduceIte, Nat.reduceAdd]))) | fail)
       all_goals (try dsimp only)
       all_goals (refine ⟨by omega, ?_⟩; rw [h2.out]; congr 1; rw [h7.out, qakj, qado]; exact qaf8 he2 _)
     ·obtain rfl : k = x.ops.length := by omega
      rw [List.drop_length] at h7
      replace h7 := Lib.hid h7
      repeat' (first | (with_reducible refine zA ?_) | ((with_reducible refine qaac ?_); (try rw [hP]); simp -implicitDefEqProofs [*]) | ((with_reducible refine qaak ?_); (try simp -implicitDefEqProofs [*])) | ((with_reducible refine qaaa rfl (fun h => ?_) (fun h => ?_)) <;> have h' := h <;> (try simp at h') <;> (try subst h')) | (with_reducible first | refine za ?_ ?_ | refine zb ?_ ?_ ?_ ?_) | (with_reducible first | exact qaab | exact qaad) | ((with_reducible first | refine zga ?_ | refine zgb ?_); rfl) | ((with_reducible first | refine zgd ?_ | refine zge ?_); (first | omega | (simp; done))) | (exact Co.refl _) | (exact CoL.refl _) | ((refine qaai hJo (i + 1, ?_, ?_) ?_ ?_ ?_; rotate_left 2; (with_reducible refine qaah [] hm ?_ ?_ ?_ ?_) <;> (try simp only [zT, puth, Nat.reduceEqDiff, reduceIte, Nat.reduceAdd]))) | fail)
      all_goals (try dsimp only)
      all_goals (refine ⟨by omega, ?_⟩; rw [h2.out]; congr 1; rw [h7.out]; exact qaci _ rfl)
  ·have ke : (e == 0) = false := by simpa using he
   replace h2 := Lib.hid h2
   repeat' (first | (with_reducible refine zA ?_) | ((with_reducible refine qaac ?_); (try rw [hP]); simp -implicitDefEqProofs [*]) | ((with_reducible refine qaak ?_); (try simp -implicitDefEqProofs [*])) | ((with_reducible refine qaaa rfl (fun h => ?_) (fun h => ?_)) <;> have h' := h <;> (try simp at h') <;> (try subst h')) | (refine qact hm rfl ?_ (fun σ => rfl)) | fail)
   rw [h2.out, qaf8 he]
 ·obtain rfl : i = p.acts.length := by omega
  rw [List.drop_length] at h2
  replace h2 := Lib.hid h2
  repeat' (first | (with_reducible refine zA ?_) | ((with_reducible refine qaac ?_); (try rw [hP]); simp -implicitDefEqProofs [*]) | ((with_reducible refine qaak ?_); (try simp -implicitDefEqProofs [*])) | ((with_reducible refine qaaa rfl (fun h => ?_) (fun h => ?_)) <;> have h' := h <;> (try simp at h') <;> (try subst h')) | (refine qact hm rfl ?_ (fun σ => rfl)) | fail)
  rw [h2.out, qaci _ rfl]
end Go.Proofs.YteoijlmgiemffaaGreat
namespace Go.Proofs.YteoijlmgiemffaaGreat
set_option linter.all false
open Go.RowKit
theorem u64_bv {x : Int} (h : 0 ≤ x ∧ x ≤ 18446744073709551615) : ∃ v : BitVec 64, x = (v.toNat : Int) := ⟨BitVec.ofNat 64 x.toNat, by rw [BitVec.toNat_ofNat, Nat.mod_eq_of_lt (by omega)]; omega⟩
theorem qajn (v : BitVec 64) : BitVec.ofInt 64 (v.toNat : Int) = v := by
 rw [BitVec.ofInt_natCast]; simp
theorem qatx (v : BitVec 64) : IntKind.u64.wrap (v.toNat : Int) = v.toNat := qaki (by omega) (by have := v.isLt; omega)
theorem qaa3 (v w : BitVec 64) : bits .and .u64 v.toNat w.toNat = ((v &&& w).toNat : Int) := by
 show IntKind.u64.wrap (((BitVec.ofInt 64 (v.toNat : Int)) &&& (BitVec.ofInt 64 (w.toNat : Int))).toNat : Int) = _
 rw [qajn, qajn, qatx]
theorem qabq (v w : BitVec 64) : bits .or .u64 v.toNat w.toNat = ((v ||| w).toNat : Int) := by
 show IntKind.u64.wrap (((BitVec.ofInt 64 (v.toNat : Int)) ||| (BitVec.ofInt 64 (w.toNat : Int))).toNat : Int) = _
 rw [qajn, qajn, qatx]
theorem qadd (v w : BitVec 64) : bits .andNot .u64 v.toNat w.toNat = ((v &&& ~~~w).toNat : Int) := by
 show IntKind.u64.wrap (((BitVec.ofInt 64 (v.toNat : Int)) &&& ~~~(BitVec.ofInt 64 (w.toNat : Int))).toNat : Int) = _
 rw [qajn, qajn, qatx]
theorem qbd5 {v w : BitVec 64} : (v.toNat : Int) = w.toNat ↔ v = w := ⟨fun h => BitVec.eq_of_toNat_eq (by omega), fun h => by rw [h]⟩
theorem qa4i {a b : Int} (ha : 0 ≤ a ∧ a ≤ 18446744073709551615) (hb : 0 ≤ b ∧ b ≤ 18446744073709551615) : bits .andNot .u64 a b = 0 ↔ bits .and .u64 a b = a := by
 obtain ⟨v, rfl⟩ := u64_bv ha
 obtain ⟨w, rfl⟩ := u64_bv hb
 rw [qadd, qaa3, qbd5]
 have e : (((v &&& ~~~w).toNat : Nat) : Int) = 0 ↔ v &&& ~~~w = 0#64 := by
  rw [show (0 : Int) = ((0#64).toNat : Int) by rfl, qbd5]
 rw [e]
 constructor
 ·intro h
  ext i hi
  have := congrArg (fun z => z.getLsbD i) h
  simp [hi] at this ⊢
  exact this
 ·intro h
  ext i hi
  have := congrArg (fun z => z.getLsbD i) h
  simp [hi] at this ⊢
  exact this
end Go.Proofs.YteoijlmgiemffaaGreat
namespace Go.Proofs.YteoijlmgiemffaaGreat
set_option linter.all false
open Go.RowKit
attribute [local simp] qabi qabh qaax qaa7 qaay qaa6 qabf qabg qaar qabr SOp.run SX.ev putd puts argS upds SOp.touch SSt.keep SSt.skip gets geth puth delh idOf SV.cells? setL qadh qadi sbin eq0 eq1 eqL qadf qab9 qaca qaap qabk qaag qabl qabs qaaj qaaq FrzOk qaba qaa1 qaa8 qaa9 qaat qaa0 qabm qaa2 qaav qabb qaau frzS frzH frz frz1 frz0 SlotsM ObjsM ObjM rn ren ren1 ren0 qabu qab7 qacf qabt qabn qacg qace CoL qabc qab3 dels adds idsH qabz
attribute [local simp] qadt refc qaes qaei qab8 opc actc tabc qaea qacm nums jc
theorem qbfl (e g : Int) (B : Bool) (l rest E at_ : Int) : orF (e, g) (if (if (if B = true then 6 else l) = 0 then rest else (if B = true then 6 else l)) = 0 then E else (if (if B = true then 6 else l) = 0 then rest else (if B = true then 6 else l)), at_) = orF (qad6 (qab0 e g B 6 at_).1 (qab0 e g B 6 at_).2 l at_) (if rest = 0 then E else rest, at_) := by
 unfold orF qad6 qab0
 cases B <;> by_cases he : e = 0 <;> by_cases hl : l = 0 <;> by_cases hr : rest = 0 <;> simp [he, hl, hr]
theorem mask_s (w : Int) (hw : 0 ≤ w ∧ w ≤ 48) (q : Nat) : SCalls Tryz.prog 75 [.int .i64 w] [] q (.int .u64 (if w ≤ 64 then 2 ^ w.toNat - 1 else 0)) [] := by
 refine qbei (Enters.of Tryz.func75 rfl rfl) (fun O w1 vs hO h => ?_) (fun σ => rfl) q
 obtain ⟨v, us, rfl, h1, h2⟩ := Reps.cons_inv h
 have := h2.nil_inv; subst this
 cases h1
 refine (qbk7 w w1 (Fits.of_i64 (by omega) (by omega))).mono ?_
 rintro e w' ⟨rfl, rfl⟩
 refine ⟨_, rfl, .refl _ _, ?_⟩
 have : ones w = if w ≤ 64 then 2 ^ w.toNat - 1 else 0 := by
  unfold ones onesN
  by_cases h0 : 1 ≤ w
  ·rw [if_pos ⟨h0, by omega⟩, if_pos (by omega)]
  ·obtain rfl : w = 0 := by omega
   rfl
 rw [this]; exact .int
set_option maxHeartbeats 8000000 in
theorem qbfb (p : PlanD) (hp : PW p) (hs : SmallP p) (hk : qaha p) (a b : Int) : SCalls Tryz.prog 156 [.ptr 0 0] [(0, .cells 261 (jc p a b))] 1 (.tup []) [(0, .cells 261 (jc p (orF (a, b) (qadj p)).1 (orF (a, b) (qadj p)).2))] := by
 refine qaas (N := 130) Tryz.func156 rfl rfl (by kernel_rfl) qaka (by simp) (by repeat' (first | exact trivial | refine And.intro ?_ ?_ | rfl | decide | exact PureR.ren _)) (by repeat' (first | exact trivial | refine And.intro ?_ ?_ | rfl | decide | exact PureR.ren _)) ?_
 rintro X hP hN hm
 have hF : orF (a, b) (qadj p) = orF (qab0 a b (decide ((p.states.length : Int) < 1) || decide (8 < (p.states.length : Int))) 2 (-3)) (rowF (fun i s => qafg p i s) 3000 0 p.states) := by
  unfold qadj; rw [qaep]; congr 4
  ·exact propext (by omega)
  ·exact propext (by omega)
 generalize orF (a, b) (qadj p) = F at hF
 replace hF := Lib.hid hF
 have hla := hs.states
 unfold c_jstates
 have main : ∀ e0 g0, F = orF (e0, g0) (rowF (fun i s => qafg p i s) 3000 0 p.states) → SWp X (SCode.block 0 c_jstates_l2.loop) (QFun X [] 1 (SV.tup []) [(0, .cells 261 (jc p F.1 F.2))]) ⟨[(0, .ptr 0 0), (2, .int .i64 0)], [(0, .cells 261 (jc p e0 g0))], 1⟩ := by
  intro e0 g0 h0
  replace h0 := Lib.hid h0
  refine qaal (qaa5 (fun s (x : Nat × Int × Int) => s.turn [(2, .int .i64 x.1)] [(0, .cells 261 (jc p x.2.1 x.2.2))]) (fun x => x.1 ≤ p.states.length ∧ F = orF (x.2.1, x.2.2) (rowF (fun i s => qafg p i s) 3000 x.1 (p.states.drop x.1))) (fun x => p.states.length - x.1) (0, _, _) ?_ ⟨by simp, h0.out⟩ ?_)
  ·repeat' (first | ((with_reducible refine qaah [] hm ?_ ?_ ?_ ?_) <;> (try simp only [zT, puth, Nat.reduceEqDiff, reduceIte, Nat.reduceAdd])) | (with_reducible first | refine za ?_ ?_ | refine zb ?_ ?_ ?_ ?_) | (with_reducible first | exact qaab | exact qaad) | ((with_reducible first | refine zga ?_ | refine zgb ?_); rfl) | ((with_reducible refine zgd ?_); (first | omega | (simp; done))) | (exact Co.refl _) | (exact CoL.refl _) | fail)
  rintro J hJ ⟨i, e, g⟩ ⟨h1, h2⟩
  have hJo := hJ
  unfold c_jstates_l2
  simp only [zT, puth, Nat.reduceEqDiff, reduceIte, Nat.reduceAdd] at h1 h2 ⊢
  rcases Nat.lt_or_ge i p.states.length with hi | hi
  ·have hxm : p.states[i] ∈ p.states := List.getElem_mem hi
   have hc := hs.cases_ _ hxm
   rw [qadb _ _ hi] at h2
   generalize hxx : p.states[i] = x at h2 hc
   by_cases he : e = 0
   ·subst he
    rw [qaem] at h2
    have wi : IntKind.i64.wrap ((i : Int) + 1) = (i : Int) + 1 := qaao (by omega) (by omega)
    have wa : IntKind.i64.wrap (3000 + (i : Int)) = 3000 + (i : Int) := qaao (by omega) (by omega)
    have hst : qafg p i x = if (decide (x.head < -1) || decide ((p.heads.length : Int) ≤ x.head)) = true then 1 else if decide (4 < (x.cases_.length : Int)) = true then 2 else if (decide (0 < (x.cases_.length : Int)) && (qabw p x.on [] == 0)) = true then 1 else if qacj (qah0 p i (qabw p x.on [])) (x.cases_.drop 0) = 0 then qag8 p i x.els else qacj (qah0 p i (qabw p x.on [])) (x.cases_.drop 0) := by
     unfold qafg
     rw [List.drop_zero]
     simp only [Bool.or_eq_true, Bool.and_eq_true, decide_eq_true_eq, beq_iff_eq, ne_eq, ite_not]
     have e1 : (4 < x.cases_.length) = (4 < (x.cases_.length : Int)) := propext (by omega)
     have e2 : (0 < x.cases_.length) = (0 < (x.cases_.length : Int)) := propext (by omega)
     simp only [e1, e2]
    have hA : orF (0, g) (qafg p i x, 3000 + (i : Int)) = orF (qab0 (qab0 (qab0 0 g (decide (x.head < -1) || decide ((p.heads.length : Int) ≤ x.head)) 1 (3000 + i)).1 (qab0 0 g (decide (x.head < -1) || decide ((p.heads.length : Int) ≤ x.head)) 1 (3000 + i)).2 (decide (4 < (x.cases_.length : Int))) 2 (3000 + i)).1 (qab0 (qab0 0 g (decide (x.head < -1) || decide ((p.heads.length : Int) ≤ x.head)) 1 (3000 + i)).1 (qab0 0 g (decide (x.head < -1) || decide ((p.heads.length : Int) ≤ x.head)) 1 (3000 + i)).2 (decide (4 < (x.cases_.length : Int))) 2 (3000 + i)).2 (decide (0 < (x.cases_.length : Int)) && (qabw p x.on [] == 0)) 1 (3000 + i)) (if qacj (qah0 p i (qabw p x.on [])) (x.cases_.drop 0) = 0 then qag8 p i x.els else qacj (qah0 p i (qabw p x.on [])) (x.cases_.drop 0), 3000 + (i : Int)) := by
     rw [hst, qac1 _ _ _ _ _ _ (by decide)]
     refine (qac1 _ _ _ _ _ _ (by decide)).trans ?_
     exact qac1 _ _ _ _ _ _ (by decide)
    clear hst
    generalize orF (0, g) (qafg p i x, 3000 + (i : Int)) = A at hA h2
    have hW := hp x.on
    have hfit : ∀ c ∈ x.cases_, qbk6 c := by rw [← hxx]; exact (hk.2.2.1 _ hxm).2.2.1
    replace hA := Lib.hid hA
    replace h2 := Lib.hid h2
    replace hfit := Lib.hid hfit
    have hms := mask_s (qabw p x.on []) hW
    generalize hww : qabw p x.on [] = W at hA hms hW
    replace hms := Lib.hid hms
    have kn : decide (0 < x.cases_.length) = decide (0 < (x.cases_.length : Int)) := decide_eq_decide.2 (by omega)
    cases k1 : decide (x.head < -1) <;> cases k3 : decide (0 < (x.cases_.length : Int)) <;> rw [k3] at kn
    all_goals
     repeat' (first | (with_reducible first | refine zA ?_ | refine qaae ?_ | refine zK ?_) | ((with_reducible first | refine qaac ?_ | refine qaaz (by rw [hP]; exact qacz) ?_); (try rw [hP]); simp -implicitDefEqProofs [*]) | ((with_reducible refine qaaf ?_); (try simp -implicitDefEqProofs [*])) | ((with_reducible refine qaaa rfl (fun h => ?_) (fun h => ?_)) <;> have h' := h <;> (try simp at h') <;> (try subst h')) | ((first | refine qabv (qabd p _ _ _ _ _ _ _ (by simp)) ⟨rfl, trivial⟩ ⟨rfl, trivial⟩ ?_ | refine qaaw (qagw p x.on _) ?_); simp -implicitDefEqProofs [*]) | fail)
     refine qaal (qaa5 (fun s (y : Nat × Int × Int) => s.turn [(99, .int .i64 y.1)] [(0, .cells 261 (jc p y.2.1 y.2.2))]) (fun y => y.1 ≤ x.cases_.length ∧ A = orF (y.2.1, y.2.2) (if qacj (qah0 p i W) (x.cases_.drop y.1) = 0 then qag8 p i x.els else qacj (qah0 p i W) (x.cases_.drop y.1), 3000 + (i : Int))) (fun y => x.cases_.length - y.1) (0, _, _) ?_ ⟨by simp, by have q := hA.out; simp only [k1, k3, Bool.true_or, Bool.false_or, Bool.true_and, Bool.false_and] at q; exact q⟩ ?_)
     ·repeat' (first | ((with_reducible refine qaah [] hm ?_ ?_ ?_ ?_) <;> (try simp only [zT, puth, Nat.reduceEqDiff, reduceIte, Nat.reduceAdd])) | (with_reducible first | refine za ?_ ?_ | refine zb ?_ ?_ ?_ ?_) | (with_reducible first | exact qaab | exact qaad) | ((with_reducible first | refine zga ?_ | refine zgb ?_); rfl) | ((with_reducible refine zgd ?_); (first | omega | (simp; done))) | (exact Co.refl _) | (exact CoL.refl _) | fail)
     rintro J hJ ⟨j, e1, g1⟩ ⟨h3, h4⟩
     unfold qaic
     simp only [zT, puth, Nat.reduceEqDiff, reduceIte, Nat.reduceAdd] at h3 h4 ⊢
     rcases Nat.lt_or_ge j x.cases_.length with hj | hj
     ·have hf := hfit.out x.cases_[j] (List.getElem_mem hj)
      rw [qae7 _ hj] at h4
      generalize hcc : x.cases_[j] = c at h4 hf
      obtain ⟨f1, f2, f3⟩ := hf
      have hz := qa4i f1.u64 f2.u64
      replace hz := Lib.hid hz
      replace h4 := Lib.hid h4
      have wj : IntKind.i64.wrap ((j : Int) + 1) = (j : Int) + 1 := qaao (by omega) (by omega)
      repeat' (first | (with_reducible first | refine zA ?_ | refine qaae ?_ | refine zK ?_) | ((with_reducible first | refine qaac ?_ | refine qaaz (by rw [hP]; exact qacz) ?_); (try rw [hP]); simp -implicitDefEqProofs [*]) | ((with_reducible refine qaaf ?_); (try simp -implicitDefEqProofs [*])) | ((with_reducible refine qaaa rfl (fun h => ?_) (fun h => ?_)) <;> have h' := h <;> (try simp at h') <;> (try subst h')) | ((with_reducible refine qaan (fun h => ?_) (fun h => ?_)) <;> have h' := h <;> (try simp at h') <;> (try subst h') <;> simp -implicitDefEqProofs [*]) | ((first | refine qabv (qabd p _ _ _ _ _ _ _ (by simp)) ⟨rfl, trivial⟩ ⟨rfl, trivial⟩ ?_ | refine qaaw (hms.out _) ?_ | refine qabv (qa6q p _ _ _ _ ⟨by omega, by omega⟩ _ _ (by simp)) ⟨rfl, trivial⟩ ⟨rfl, trivial⟩ ?_); simp -implicitDefEqProofs [*]) | (with_reducible first | refine za ?_ ?_ | refine zb ?_ ?_ ?_ ?_) | (with_reducible first | exact qaab | exact qaad) | ((with_reducible first | refine zga ?_ | refine zgb ?_); rfl) | ((with_reducible first | refine zgd ?_ | refine zge ?_); (first | omega | (simp; done))) | (exact Co.refl _) | (exact CoL.refl _) | ((refine qaai hJ (j + 1, ?_, ?_) ?_ ?_ ?_; rotate_left 2; (with_reducible refine qaah [] hm ?_ ?_ ?_ ?_) <;> (try simp only [zT, puth, Nat.reduceEqDiff, reduceIte, Nat.reduceAdd]))) | fail)
      all_goals (try dsimp only)
      all_goals (refine ⟨by omega, ?_⟩; rw [h4.out]; refine Eq.trans ?_ (qbfl e1 g1 _ (qag8 p i c.to_) _ (qag8 p i x.els) (3000 + (i : Int))); refine congrArg (fun z => orF (e1, g1) (if (if z = 0 then qacj (qah0 p i W) (x.cases_.drop (j + 1)) else z) = 0 then qag8 p i x.els else (if z = 0 then qacj (qah0 p i W) (x.cases_.drop (j + 1)) else z), 3000 + (i : Int))) ?_; have z := hz.out; unfold qah0 qand; simp [*])
     ·obtain rfl : j = x.cases_.length := by omega
      rw [List.drop_length] at h4
      replace h4 := Lib.hid h4
      repeat' (first | (with_reducible refine zA ?_) | ((with_reducible refine qaac ?_); (try rw [hP]); simp -implicitDefEqProofs [*]) | ((with_reducible refine qaak ?_); (try simp -implicitDefEqProofs [*])) | ((with_reducible refine qaaa rfl (fun h => ?_) (fun h => ?_)) <;> have h' := h <;> (try simp at h') <;> (try subst h')) | (refine qabv (qa6q p _ _ _ _ ⟨by omega, by omega⟩ _ _ (by simp)) ⟨rfl, trivial⟩ ⟨rfl, trivial⟩ ?_; simp -implicitDefEqProofs [*]) | (with_reducible first | refine za ?_ ?_ | refine zb ?_ ?_ ?_ ?_) | (with_reducible first | exact qaab | exact qaad) | ((with_reducible first | refine zga ?_ | refine zgb ?_); rfl) | ((with_reducible first | refine zgd ?_ | refine zge ?_); (first | omega | (simp; done))) | (exact Co.refl _) | (exact CoL.refl _) | ((refine qaai hJo (i + 1, ?_, ?_) ?_ ?_ ?_; rotate_left 2; (with_reducible refine qaah [] hm ?_ ?_ ?_ ?_) <;> (try simp only [zT, puth, Nat.reduceEqDiff, reduceIte, Nat.reduceAdd]))) | fail)
      all_goals (try dsimp only)
      all_goals (refine ⟨by omega, ?_⟩; rw [h2.out]; congr 1; rw [h4.out]; unfold qacj; rw [if_pos rfl]; exact (qakj _ _ _ _).symm)
   ·have ke : (e == 0) = false := by simpa using he
    replace h2 := Lib.hid h2
    repeat' (first | (with_reducible refine zA ?_) | ((with_reducible refine qaac ?_); (try rw [hP]); simp -implicitDefEqProofs [*]) | ((with_reducible refine qaak ?_); (try simp -implicitDefEqProofs [*])) | ((with_reducible refine qaaa rfl (fun h => ?_) (fun h => ?_)) <;> have h' := h <;> (try simp at h') <;> (try subst h')) | (refine qact hm rfl ?_ (fun σ => rfl)) | fail)
    rw [h2.out, qaf8 he]
  ·obtain rfl : i = p.states.length := by omega
   rw [List.drop_length] at h2
   replace h2 := Lib.hid h2
   repeat' (first | (with_reducible refine zA ?_) | ((with_reducible refine qaac ?_); (try rw [hP]); simp -implicitDefEqProofs [*]) | ((with_reducible refine qaak ?_); (try simp -implicitDefEqProofs [*])) | ((with_reducible refine qaaa rfl (fun h => ?_) (fun h => ?_)) <;> have h' := h <;> (try simp at h') <;> (try subst h')) | (refine qact hm rfl ?_ (fun σ => rfl)) | fail)
   rw [h2.out, qaci _ rfl]
 replace main := Lib.hid main
 by_cases h0 : p.states.length = 0
 ·repeat' (first | (with_reducible refine zA ?_) | ((with_reducible refine qaac ?_); (try rw [hP]); simp -implicitDefEqProofs [*]) | (refine qabv (qabd p _ _ _ _ _ _ _ (by simp)) ⟨rfl, trivial⟩ ⟨rfl, trivial⟩ ?_; simp -implicitDefEqProofs [*]) | fail)
  refine qaco ?_ (main.out (qab0 a b true 2 (-3)).1 (qab0 a b true 2 (-3)).2 ?_)
  ·repeat' (first | ((with_reducible refine qaah [] hm ?_ ?_ ?_ ?_) <;> (try simp only [zT, puth, Nat.reduceEqDiff, reduceIte, Nat.reduceAdd])) | (with_reducible first | refine za ?_ ?_ | refine zb ?_ ?_ ?_ ?_) | (with_reducible first | exact qaab | exact qaad) | ((with_reducible first | refine zga ?_ | refine zgb ?_); rfl) | ((with_reducible refine zgd ?_); (first | omega | (simp; done))) | (exact Co.refl _) | (exact CoL.refl _) | fail)
  ·have q := hF.out
   rw [show decide ((p.states.length : Int) < 1) = true by rw [h0]; rfl, Bool.true_or] at q
   exact q
 ·have k0 : ((p.states.length : Int) == 0) = false := by simpa using h0
  have k1 : decide ((p.states.length : Int) < 1) = false := by simp; omega
  replace h0 := Lib.hid h0
  repeat' (first | (with_reducible refine zA ?_) | ((with_reducible refine qaac ?_); (try rw [hP]); simp -implicitDefEqProofs [*]) | (refine qabv (qabd p _ _ _ _ _ _ _ (by simp)) ⟨rfl, trivial⟩ ⟨rfl, trivial⟩ ?_; simp -implicitDefEqProofs [*]) | fail)
  refine qaco ?_ (main.out (qab0 a b (decide (8 < (p.states.length : Int))) 2 (-3)).1 (qab0 a b (decide (8 < (p.states.length : Int))) 2 (-3)).2 ?_)
  ·repeat' (first | ((with_reducible refine qaah [] hm ?_ ?_ ?_ ?_) <;> (try simp only [zT, puth, Nat.reduceEqDiff, reduceIte, Nat.reduceAdd])) | (with_reducible first | refine za ?_ ?_ | refine zb ?_ ?_ ?_ ?_) | (with_reducible first | exact qaab | exact qaad) | ((with_reducible first | refine zga ?_ | refine zgb ?_); rfl) | ((with_reducible refine zgd ?_); (first | omega | (simp; done))) | (exact Co.refl _) | (exact CoL.refl _) | fail)
  ·have q := hF.out
   rw [k1, Bool.false_or] at q
   exact q
end Go.Proofs.YteoijlmgiemffaaGreat
namespace Go.Proofs.YteoijlmgiemffaaGreat
set_option linter.all false
open Go.RowKit
attribute [local simp] qabi qabh qaax qaa7 qaay qaa6 qabf qabg qaar qabr SOp.run SX.ev putd puts argS upds SOp.touch SSt.keep SSt.skip gets geth puth delh idOf SV.cells? setL qadh qadi sbin eq0 eq1 eqL qadf qab9 qaca qaap qabk qaag qabl qabs qaaj qaaq FrzOk qaba qaa1 qaa8 qaa9 qaat qaa0 qabm qaa2 qaav qabb qaau frzS frzH frz frz1 frz0 SlotsM ObjsM ObjM rn ren ren1 ren0 qabu qab7 qacf qabt qabn qacg qace CoL qabc qab3 dels adds idsH qabz
attribute [local simp] qadt refc qaes qaei qab8 opc actc tabc qaea qacm nums jc
def qad3 (v : Int) : List Int → Nat → Int
 | [], _ => -1
 | x :: l, i => if v = x then (i : Int) else qad3 v l (i + 1)
theorem qakw (v : Int) {l : List Int} {i : Nat} (hi : i < l.length) : qad3 v (l.drop i) i = if v = l[i] then (i : Int) else qad3 v (l.drop (i + 1)) (i + 1) := by
 rw [List.drop_eq_getElem_cons hi]; rfl
theorem qaiu (v : Int) : ∀ (l : List Int) (i : Nat), decide (0 ≤ qad3 v l i) = l.contains v
 | [], i => rfl
 | x :: l, i => by
  unfold qad3
  rw [List.contains_cons]
  by_cases h : v = x
  ·subst h; simp
  ·rw [if_neg h, qaiu v l (i + 1)]; simp [h]
theorem index_s (l : List Int) (v : Int) (hl : l.length ≤ 1000000) : SCalls Tryz.prog 165 [nums .i64 l, .int .i64 v] [] 0 (.int .i64 (qad3 v l 0)) [] := by
 refine qaas (N := 19) Tryz.func165 rfl rfl (by kernel_rfl) qaoy (by simp) (by repeat' (first | exact trivial | refine And.intro ?_ ?_ | rfl | decide | exact PureR.ren _)) (by repeat' (first | exact trivial | refine And.intro ?_ ?_ | rfl | decide | exact PureR.ren _)) ?_
 rintro X hP hN hm
 have hF : qad3 v l 0 = qad3 v (l.drop 0) 0 := rfl
 generalize qad3 v l 0 = F at hF
 replace hF := Lib.hid hF
 unfold c_index
 repeat' (first | (with_reducible refine zA ?_) | ((with_reducible refine qaac ?_); (try rw [hP]); simp -implicitDefEqProofs [*]) | fail)
 refine qaal (qaa5 (fun s (i : Nat) => s.turn [(8, .int .i64 i)] []) (fun i => i ≤ l.length ∧ F = qad3 v (l.drop i) i) (fun i => l.length - i) 0 ?_ ⟨by simp, hF.out⟩ ?_)
 ·repeat' (first | ((with_reducible refine qaah [] hm ?_ ?_ ?_ ?_) <;> (try simp only [zT, puth, Nat.reduceEqDiff, reduceIte, Nat.reduceAdd])) | (with_reducible refine za ?_ ?_) | (with_reducible first | exact qaab | exact qaad) | ((with_reducible refine zgb ?_); rfl) | ((with_reducible refine zgd ?_); (first | omega | (simp; done))) | (exact Co.refl _) | fail)
 rintro J hJ i ⟨h1, h2⟩
 unfold qamt
 simp only [zT, puth, Nat.reduceEqDiff, reduceIte, Nat.reduceAdd] at h1 h2 ⊢
 rcases Nat.lt_or_ge i l.length with hi | hi
 ·rw [qakw v hi] at h2
  generalize hxx : l[i] = x at h2
  have wi : IntKind.i64.wrap ((i : Int) + 1) = (i : Int) + 1 := qaao (by omega) (by omega)
  replace h2 := Lib.hid h2
  cases hv : (v == x)
  ·have hv' : ¬ v = x := by simpa using hv
   repeat' (first | (with_reducible first | refine zA ?_ | refine qaae ?_) | ((with_reducible refine qaac ?_); (try rw [hP]); simp -implicitDefEqProofs [*]) | ((with_reducible refine qaaf ?_); (try simp -implicitDefEqProofs [*])) | ((with_reducible refine qaaa rfl (fun h => ?_) (fun h => ?_)) <;> have h' := h <;> (try simp at h') <;> (try subst h')) | (with_reducible refine za ?_ ?_) | (with_reducible first | exact qaab | exact qaad) | ((with_reducible refine zgb ?_); rfl) | ((with_reducible first | refine zgd ?_ | refine zge ?_); (first | omega | (simp; done))) | (exact Co.refl _) | ((refine qaai hJ (i + 1) ?_ ?_ ?_; (with_reducible refine qaah [] hm ?_ ?_ ?_ ?_) <;> (try simp only [zT, puth, Nat.reduceEqDiff, reduceIte, Nat.reduceAdd]))) | fail)
   exact ⟨by omega, by rw [h2.out, if_neg hv']⟩
  ·have hv' : v = x := by simpa using hv
   replace hv' := Lib.hid hv'
   repeat' (first | (with_reducible first | refine zA ?_ | refine qaae ?_) | ((with_reducible refine qaac ?_); (try rw [hP]); simp -implicitDefEqProofs [*]) | ((with_reducible refine qaaf ?_); (try simp -implicitDefEqProofs [*])) | ((with_reducible refine qaam ?_); (try simp only [qaap, qaag, qaaj])) | ((with_reducible refine qaaa rfl (fun h => ?_) (fun h => ?_)) <;> have h' := h <;> (try simp at h') <;> (try subst h')) | (with_reducible refine zM hm ?_) | fail)
   rw [h2.out, if_pos hv'.out]
 ·obtain rfl : i = l.length := by omega
  rw [List.drop_length] at h2
  replace h2 := Lib.hid h2
  repeat' (first | (with_reducible refine zA ?_) | ((with_reducible refine qaac ?_); (try rw [hP]); simp -implicitDefEqProofs [*]) | ((with_reducible refine qaak ?_); (try simp -implicitDefEqProofs [*])) | ((with_reducible refine qaam ?_); (try simp only [qaap, qaag, qaaj])) | ((with_reducible refine qaaa rfl (fun h => ?_) (fun h => ?_)) <;> have h' := h <;> (try simp at h') <;> (try subst h')) | (with_reducible refine zM hm ?_) | fail)
  rw [h2.out]; rfl
theorem qahz (l : List Int) (v : Int) (hl : l.length ≤ 1000000) (q : Nat) : SCalls Tryz.prog 144 [nums .i64 l, .int .i64 v] [] q (.bool (l.contains v)) [] := by
 refine qabj ?_ (fun _ => rfl) (fun _ => rfl) rfl q
 refine qaas (N := 9) Tryz.func144 rfl rfl (by kernel_rfl) qaij (by simp) (by repeat' (first | exact trivial | refine And.intro ?_ ?_ | rfl | decide | exact PureR.ren _)) (by repeat' (first | exact trivial | refine And.intro ?_ ?_ | rfl | decide | exact PureR.ren _)) ?_
 rintro X hP hN hm
 have hi := qaiu v l 0
 have hc := fun q => qabj (index_s l v hl) (fun _ => rfl) (fun _ => rfl) rfl q
 generalize qad3 v l 0 = I at hi hc
 unfold c_contains
 repeat' (first | (with_reducible refine zA ?_) | ((with_reducible refine qaac ?_); (try rw [hP]); simp -implicitDefEqProofs [*]) | ((with_reducible refine qaam ?_); (try simp only [qaap, qaag, qaaj])) | (refine qaaw (hc _) ?_; simp -implicitDefEqProofs [*]) | (with_reducible refine zN hm ?_) | fail)
 all_goals (exact decide_eq_decide.2 Iff.rfl)
def wrow (p : PlanD) (l : List RefD) (i : Nat) : List (List SV) := (l.take i).map fun r => [.int .i64 (qabw p r [])]
instance (p : PlanD) (l : List RefD) (i : Nat) : PureR (wrow p l i) := ⟨fun σ => by unfold wrow; rw [List.map_map]; rfl, fun x hx => by obtain ⟨b, _, rfl⟩ := List.mem_map.1 hx; rfl, fun x hx => by obtain ⟨b, _, rfl⟩ := List.mem_map.1 hx; exact qab4 _ rfl⟩
theorem qa4m (p : PlanD) {l : List RefD} {i : Nat} (hi : i ≤ l.length) : (wrow p l i).length = i := by unfold wrow; simp; omega
theorem qasg (p : PlanD) {l : List RefD} {i : Nat} (hi : i < l.length) : wrow p l i ++ [[.int .i64 (qabw p l[i] [])]] = wrow p l (i + 1) := by
 unfold wrow; rw [List.take_succ_eq_append_getElem hi, List.map_append]; rfl
theorem qa4n (p : PlanD) (t : TabD) : SV.view 1 (wrow p t.keys t.keys.length) = nums .i64 (qab1 p t) := by
 unfold wrow nums qab1; rw [List.take_length, List.map_map]; rfl
theorem qbif (p : PlanD) (t : TabD) (hl : t.keys.length ≤ 1000000) : SCalls Tryz.prog 31 [.agg (qacm p), .agg (tabc t)] [] 0 (nums .i64 (qab1 p t)) [] := by
 rw [← qa4n]
 refine qaas (N := 23) Tryz.func31 rfl rfl (by kernel_rfl) qak6 (by simp) (by repeat' (first | exact trivial | refine And.intro ?_ ?_ | rfl | decide | exact PureR.ren _)) (by repeat' (first | exact trivial | refine And.intro ?_ ?_ | rfl | decide | exact PureR.ren _)) ?_
 rintro X hP hN hm
 unfold c_widths
 repeat' (first | (with_reducible refine zA ?_) | ((with_reducible refine qaac ?_); (try rw [hP]); simp -implicitDefEqProofs [*]) | fail)
 refine qaco (qadw 5 3 1 rfl) ?_
 simp only [zT, puth, Nat.reduceEqDiff, reduceIte, Nat.reduceAdd]
 refine qaal (qaa5 (fun s (i : Nat) => s.turn [(5, .own 8 i), (11, .int .i64 i)] [(8, .row 3 1 (wrow p t.keys i))]) (fun i => i ≤ t.keys.length) (fun i => t.keys.length - i) 0 ?_ (by simp) ?_)
 ·repeat' (first | ((with_reducible refine qaah [] hm ?_ ?_ ?_ ?_) <;> (try simp only [zT, puth, Nat.reduceEqDiff, reduceIte, Nat.reduceAdd])) | (with_reducible first | refine za ?_ ?_ | refine zb ?_ ?_ ?_ ?_ | refine zc ?_ ?_ ?_ ?_) | (with_reducible first | exact qaab | exact qaad) | ((with_reducible first | refine zga ?_ | refine zgb ?_); rfl) | ((with_reducible refine zgc ?_); (first | (with_reducible rfl) | rfl | (simp; done))) | ((with_reducible refine zgd ?_); (first | omega | (simp; done))) | (exact Co.refl _) | (exact CoL.refl _) | fail)
 rintro J hJ i hi
 unfold qai0
 simp only [zT, puth, Nat.reduceEqDiff, reduceIte, Nat.reduceAdd]
 have hlen := qa4m p hi
 have hb1 : i + 1 ≤ maxLen := by unfold maxLen; omega
 rcases Nat.lt_or_ge i t.keys.length with h | h
 ·have wi : IntKind.i64.wrap ((i : Int) + 1) = (i : Int) + 1 := qaao (by omega) (by omega)
  have hrow := qasg p h
  generalize hr : t.keys[i] = r at hrow
  repeat' (first | (with_reducible first | refine zA ?_ | refine qaae ?_) | ((with_reducible refine qaac ?_); (try rw [hP]); simp -implicitDefEqProofs [*]) | ((with_reducible refine qaaf ?_); (try simp -implicitDefEqProofs [*])) | ((with_reducible refine qaaa rfl (fun h => ?_) (fun h => ?_)) <;> have h' := h <;> (try simp at h') <;> (try subst h')) | ((with_reducible refine qabo ?_ ?_); (first | omega | (unfold maxLen; omega)); simp -implicitDefEqProofs [*]) | (refine qaaw (qagw p r _) ?_; simp -implicitDefEqProofs [*]) | (with_reducible first | refine za ?_ ?_ | refine zb ?_ ?_ ?_ ?_ | refine zc ?_ ?_ ?_ ?_) | (with_reducible first | exact qaab | exact qaad) | ((with_reducible first | refine zga ?_ | refine zgb ?_); rfl) | ((with_reducible refine zgc ?_); (first | (with_reducible rfl) | rfl | (simp; done))) | ((with_reducible first | refine zgd ?_ | refine zge ?_); (first | omega | (simp; done))) | (exact Co.refl _) | (exact CoL.refl _) | ((refine qaai hJ (i + 1) ?_ ?_ ?_; (with_reducible refine qaah [(8, ?_)] hm ?_ ?_ ?_ ?_) <;> (try simp only [zT, puth, Nat.reduceEqDiff, reduceIte, Nat.reduceAdd]))) | fail)
 ·obtain rfl : i = t.keys.length := by omega
  repeat' (first | ((with_reducible refine qacr (c := .seq (.reg false qaiz [4]) .ret) ?_)) | (with_reducible refine zA ?_) | ((with_reducible refine qaac ?_); (try rw [hP]); simp -implicitDefEqProofs [*]) | ((with_reducible refine qaak ?_); (try simp -implicitDefEqProofs [*])) | ((with_reducible refine qaaa rfl (fun h => ?_) (fun h => ?_)) <;> have h' := h <;> (try simp at h') <;> (try subst h')) | fail)
  constructor
  refine qaeg [8] ?_ ?_
  ·simp only [FrzOk, geth, Nat.reduceEqDiff, reduceIte, qad9, and_true]
  have htk : (wrow p t.keys t.keys.length).take t.keys.length = wrow p t.keys t.keys.length := List.take_of_length_le (by omega)
  simp -implicitDefEqProofs [htk, hlen, Nat.le_refl]
  repeat' (first | (with_reducible refine zA ?_) | ((with_reducible refine qaac ?_); (try rw [hP]); simp -implicitDefEqProofs [*]) | ((with_reducible refine qaam ?_); (try simp only [qaap, qaag, qaaj])) | (refine qakx hm ?_ (qads _ _)) | fail)
  rfl
end Go.Proofs.YteoijlmgiemffaaGreat
namespace Go.Proofs.YteoijlmgiemffaaGreat
set_option linter.all false
open Go.RowKit
attribute [local simp] qabi qabh qaax qaa7 qaay qaa6 qabf qabg qaar qabr SOp.run SX.ev putd puts argS upds SOp.touch SSt.keep SSt.skip gets geth puth delh idOf SV.cells? setL qadh qadi sbin eq0 eq1 eqL qadf qab9 qaca qaap qabk qaag qabl qabs qaaj qaaq FrzOk qaba qaa1 qaa8 qaa9 qaat qaa0 qabm qaa2 qaav qabb qaau frzS frzH frz frz1 frz0 SlotsM ObjsM ObjM rn ren ren1 ren0 qabu qab7 qacf qabt qabn qacg qace CoL qabc qab3 dels adds idsH qabz
attribute [local simp] qadt refc qaes qaei qab8 opc actc tabc qaea qacm nums jc
theorem qahm {xs ks : List Int} {i : Nat} (h1 : i < xs.length) (h2 : i < ks.length) : qag1 (xs.drop i) (ks.drop i) = (qand xs[i] ks[i] || qag1 (xs.drop (i + 1)) (ks.drop (i + 1))) := by
 rw [List.drop_eq_getElem_cons h1, List.drop_eq_getElem_cons h2]; rfl
def AW (acts : List ActD) : Prop := ∀ a ∈ acts, ∀ w ∈ a.w, 0 ≤ w ∧ w ≤ 48
theorem says_s (t : TabD) (acts : List ActD) (act : Int) (args : List Int) (ha : AW acts) (hl : t.acts.length ≤ 1000000) (hl2 : args.length ≤ 1000000) (hr : ∀ k ∈ t.acts, 0 ≤ k ∧ k < acts.length) (q : Nat) : SCalls Tryz.prog 111 [.agg (tabc t), .view 2 (acts.map actc), .int .i64 act, nums .u64 args] [] q (.int .i64 (qahr t.acts acts act args)) [] := by
 refine qabj ?_ (fun _ => rfl) (fun _ => rfl) rfl q
 refine qaas (N := 42) Tryz.func111 rfl rfl (by kernel_rfl) qaug (by simp) (by repeat' (first | exact trivial | refine And.intro ?_ ?_ | rfl | decide | exact PureR.ren _)) (by repeat' (first | exact trivial | refine And.intro ?_ ?_ | rfl | decide | exact PureR.ren _)) ?_
 rintro X hP hN hm
 have hc := fun q => qahz t.acts act hl q
 unfold c_says
 cases hin : t.acts.contains act
 ·rw [hin] at hc
  have hz : qahr t.acts acts act args = 5 := by unfold qahr; rw [hin]; rfl
  rw [hz]
  repeat' (first | (with_reducible refine zA ?_) | ((with_reducible refine qaac ?_); (try rw [hP]); simp -implicitDefEqProofs [*]) | ((with_reducible refine qaam ?_); (try simp only [qaap, qaag, qaaj])) | ((with_reducible refine qaaa rfl (fun h => ?_) (fun h => ?_)) <;> have h' := h <;> (try simp at h') <;> (try subst h')) | (refine qaaw (hc _) ?_; simp -implicitDefEqProofs [*]) | (with_reducible refine zM hm ?_) | fail)
  rfl
 ·rw [hin] at hc
  obtain ⟨hr0, hr1⟩ := hr act (by simpa using hin)
  have hlt : act.toNat < acts.length := by omega
  have hAm := ha acts[act.toNat] (List.getElem_mem hlt)
  have hF : qahr t.acts acts act args = if args.length ≠ acts[act.toNat].w.length then 2 else if qag1 args acts[act.toNat].w = true then 6 else 0 := by
   unfold qahr
   have : actW acts act = acts[act.toNat].w := by unfold actW; rw [List.getElem?_eq_getElem hlt]; rfl
   rw [hin, this]; rfl
  generalize qahr t.acts acts act args = F at hF
  generalize hA : acts[act.toNat] = A at hAm hF
  replace hAm := Lib.hid hAm
  by_cases hlen : args.length = A.w.length
  ·rw [if_neg (by simpa using hlen)] at hF
   have kl : ((args.length : Int) != (A.w.length : Int)) = false := by simp [hlen]
   replace hF := Lib.hid hF
   replace hlen := Lib.hid hlen
   repeat' (first | (with_reducible refine zA ?_) | ((with_reducible refine qaac ?_); (try rw [hP]); simp -implicitDefEqProofs [*]) | ((with_reducible refine qaaf ?_); (try simp -implicitDefEqProofs [*])) | ((with_reducible refine qaaa rfl (fun h => ?_) (fun h => ?_)) <;> have h' := h <;> (try simp at h') <;> (try subst h')) | (refine qaaw (hc _) ?_; simp -implicitDefEqProofs [*]) | fail)
   refine qaal (qaa5 (fun s (i : Nat) => s.turn [(29, .int .i64 i)] []) (fun i => i ≤ args.length ∧ F = if qag1 (args.drop i) (A.w.drop i) = true then 6 else 0) (fun i => args.length - i) 0 ?_ ⟨by simp, hF.out⟩ ?_)
   ·repeat' (first | ((with_reducible refine qaah [] hm ?_ ?_ ?_ ?_) <;> (try simp only [zT, puth, Nat.reduceEqDiff, reduceIte, Nat.reduceAdd])) | (with_reducible first | refine za ?_ ?_ | refine zb ?_ ?_ ?_ ?_) | (with_reducible first | exact qaab | exact qaad) | ((with_reducible first | refine zga ?_ | refine zgb ?_); rfl) | ((with_reducible refine zgd ?_); (first | omega | (simp; done))) | (exact Co.refl _) | (exact CoL.refl _) | fail)
   rintro J hJ i ⟨h1, h2⟩
   unfold qatl
   simp only [zT, puth, Nat.reduceEqDiff, reduceIte, Nat.reduceAdd] at h1 h2 ⊢
   rcases Nat.lt_or_ge i args.length with hi | hi
   ·have hi2 : i < A.w.length := by have := hlen.out; omega
    rw [qahm hi hi2] at h2
    have hms := fun q => mask_s A.w[i] (hAm.out _ (List.getElem_mem hi2)) q
    generalize hw : A.w[i] = w at h2 hms
    generalize hx : args[i] = x at h2
    have wi : IntKind.i64.wrap ((i : Int) + 1) = (i : Int) + 1 := qaao (by omega) (by omega)
    replace h2 := Lib.hid h2
    cases hv : qand x w
    ·unfold qand at hv
     repeat' (first | (with_reducible first | refine zA ?_ | refine qaae ?_) | ((with_reducible refine qaac ?_); (try rw [hP]); simp -implicitDefEqProofs [*]) | ((with_reducible refine qaaf ?_); (try simp -implicitDefEqProofs [*])) | ((with_reducible refine qaaa rfl (fun h => ?_) (fun h => ?_)) <;> have h' := h <;> (try simp at h') <;> (try subst h')) | (refine qaaw (hms _) ?_; simp -implicitDefEqProofs [*]) | (with_reducible first | refine za ?_ ?_ | refine zb ?_ ?_ ?_ ?_) | (with_reducible first | exact qaab | exact qaad) | ((with_reducible first | refine zga ?_ | refine zgb ?_); rfl) | ((with_reducible first | refine zgd ?_ | refine zge ?_); (first | omega | (simp; done))) | (exact Co.refl _) | (exact CoL.refl _) | ((refine qaai hJ (i + 1) ?_ ?_ ?_; (with_reducible refine qaah [] hm ?_ ?_ ?_ ?_) <;> (try simp only [zT, puth, Nat.reduceEqDiff, reduceIte, Nat.reduceAdd]))) | fail)
     refine ⟨by omega, ?_⟩
     rw [h2.out, show qand x w = false from hv, Bool.false_or]
    ·unfold qand at hv
     repeat' (first | (with_reducible first | refine zA ?_ | refine qaae ?_) | ((with_reducible refine qaac ?_); (try rw [hP]); simp -implicitDefEqProofs [*]) | ((with_reducible refine qaaf ?_); (try simp -implicitDefEqProofs [*])) | ((with_reducible refine qaam ?_); (try simp only [qaap, qaag, qaaj])) | ((with_reducible refine qaaa rfl (fun h => ?_) (fun h => ?_)) <;> have h' := h <;> (try simp at h') <;> (try subst h')) | (refine qaaw (hms _) ?_; simp -implicitDefEqProofs [*]) | (with_reducible refine zM hm ?_) | fail)
     rw [h2.out, show qand x w = true from hv]; rfl
   ·obtain rfl : i = args.length := by omega
    rw [List.drop_length] at h2
    replace h2 := Lib.hid h2
    repeat' (first | (with_reducible refine zA ?_) | ((with_reducible refine qaac ?_); (try rw [hP]); simp -implicitDefEqProofs [*]) | ((with_reducible refine qaak ?_); (try simp -implicitDefEqProofs [*])) | ((with_reducible refine qaam ?_); (try simp only [qaap, qaag, qaaj])) | ((with_reducible refine qaaa rfl (fun h => ?_) (fun h => ?_)) <;> have h' := h <;> (try simp at h') <;> (try subst h')) | (with_reducible refine zM hm ?_) | fail)
    rw [h2.out]; rfl
  ·rw [if_pos (by simpa using hlen)] at hF
   have kl : ((args.length : Int) != (A.w.length : Int)) = true := by simp; omega
   replace hF := Lib.hid hF
   repeat' (first | (with_reducible refine zA ?_) | ((with_reducible refine qaac ?_); (try rw [hP]); simp -implicitDefEqProofs [*]) | ((with_reducible refine qaaf ?_); (try simp -implicitDefEqProofs [*])) | ((with_reducible refine qaam ?_); (try simp only [qaap, qaag, qaaj])) | ((with_reducible refine qaaa rfl (fun h => ?_) (fun h => ?_)) <;> have h' := h <;> (try simp at h') <;> (try subst h')) | (refine qaaw (hc _) ?_; simp -implicitDefEqProofs [*]) | (with_reducible refine zM hm ?_) | fail)
   rw [hF.out]
set_option maxHeartbeats 4000000 in
theorem qbii (t : TabD) (ws : List Int) (acts : List ActD) (ha : AW acts) (h1 : t.acts.length ≤ 1000000) (h2 : t.args.length ≤ 1000000) (h3 : ws.length ≤ 1000000) (h4 : acts.length ≤ 1000000) (q : Nat) : SCalls Tryz.prog 62 [.agg (tabc t), nums .i64 ws, .view 2 (acts.map actc)] [] q (.int .i64 (qadk t ws acts)) [] := by
 refine qabj ?_ (fun _ => rfl) (fun _ => rfl) rfl q
 refine qaas (N := 101) Tryz.func62 rfl rfl (by kernel_rfl) qak7 (by simp) (by repeat' (first | exact trivial | refine And.intro ?_ ?_ | rfl | decide | exact PureR.ren _)) (by repeat' (first | exact trivial | refine And.intro ?_ ?_ | rfl | decide | exact PureR.ren _)) ?_
 rintro X hP hN hm
 have hsays := fun (hr : ∀ k ∈ t.acts, 0 ≤ k ∧ k < acts.length) q => says_s t acts t.def_ t.args ha h1 h2 hr q
 replace hsays := Lib.hid hsays
 replace ha := Lib.hid ha
 obtain ⟨n, hn⟩ : ∃ n, ws.length = n := ⟨_, rfl⟩
 obtain ⟨m, hma⟩ : ∃ m, t.acts.length = m := ⟨_, rfl⟩
 unfold c_tcheck
 by_cases g1 : t.kind < 1 ∨ 3 < t.kind
 ·have hz : qadk t ws acts = 5 := by unfold qadk; rw [if_pos g1]
  rw [hz]
  have k1 : (t.kind != 1) = true := by simp; omega
  have k2 : (t.kind != 2) = true := by simp; omega
  have k3 : (t.kind != 3) = true := by simp; omega
  replace g1 := Lib.hid g1
  repeat' (first | (with_reducible first | refine zA ?_ | refine qaae ?_) | ((with_reducible refine qaac ?_); (try rw [hP]); simp -implicitDefEqProofs [*]) | ((with_reducible refine qaam ?_); (try simp only [qaap, qaag, qaaj])) | ((with_reducible refine qaaa rfl (fun h => ?_) (fun h => ?_)) <;> have h' := h <;> (try simp at h') <;> (try subst h')) | (with_reducible refine zM hm ?_) | fail)
  rfl
 by_cases g2 : ws.length < 1 ∨ 3 < ws.length ∨ (t.kind = 2 ∧ 1 < ws.length) ∨ t.acts.length < 1 ∨ 4 < t.acts.length
 ·have hz : qadk t ws acts = 2 := by unfold qadk; rw [if_neg g1, if_pos g2]
  rw [hz]
  replace g1 := Lib.hid g1
  replace g2 := Lib.hid g2
  repeat' (first | (with_reducible first | refine zA ?_ | refine qaae ?_) | ((with_reducible refine qaac ?_); (try rw [hP]); simp -implicitDefEqProofs [*]) | ((with_reducible refine qaaf ?_); (try simp -implicitDefEqProofs [*])) | ((with_reducible refine qaam ?_); (try simp only [qaap, qaag, qaaj])) | ((with_reducible refine qaaa rfl (fun h => ?_) (fun h => ?_)) <;> have h' := h <;> (try simp at h') <;> (try subst h')) | ((with_reducible refine qaan (fun h => ?_) (fun h => ?_)) <;> have h' := h <;> (try simp at h') <;> (try subst h') <;> simp -implicitDefEqProofs [*]) | (with_reducible refine zM hm ?_) | fail)
  all_goals (first | rfl | (exfalso; have q := g2.out; have q1 := g1.out; omega))
 by_cases g3 : t.cap < 0 ∨ 16 < t.cap
 ·have hz : qadk t ws acts = 1 := by unfold qadk; rw [if_neg g1, if_neg g2, if_pos g3]
  rw [hz]
  replace g1 := Lib.hid g1
  replace g2 := Lib.hid g2
  replace g3 := Lib.hid g3
  repeat' (first | (with_reducible first | refine zA ?_ | refine qaae ?_) | ((with_reducible refine qaac ?_); (try rw [hP]); simp -implicitDefEqProofs [*]) | ((with_reducible refine qaaf ?_); (try simp -implicitDefEqProofs [*])) | ((with_reducible refine qaam ?_); (try simp only [qaap, qaag, qaaj])) | ((with_reducible refine qaaa rfl (fun h => ?_) (fun h => ?_)) <;> have h' := h <;> (try simp at h') <;> (try subst h')) | ((with_reducible refine qaan (fun h => ?_) (fun h => ?_)) <;> have h' := h <;> (try simp at h') <;> (try subst h') <;> simp -implicitDefEqProofs [*]) | (with_reducible refine zM hm ?_) | fail)
  all_goals (first | rfl | (exfalso; have q := g2.out; have q1 := g1.out; have q3 := g3.out; omega))
 have hF : qadk t ws acts = if (ws.drop 0).any wOut = true then 6 else if (t.acts.drop 0).any (aOut acts.length) = true then 1 else qahr t.acts acts t.def_ t.args := by
  unfold qadk; rw [if_neg g1, if_neg g2, if_neg g3]; rfl
 generalize qadk t ws acts = F at hF
 replace hF := Lib.hid hF
 have l0 : ((ws.length : Int) == 0) = false := by rw [beq_eq_false_iff_ne]; omega
 have l3 : decide (3 < (ws.length : Int)) = false := by rw [decide_eq_false_iff_not]; omega
 have a0 : ((t.acts.length : Int) == 0) = false := by rw [beq_eq_false_iff_ne]; omega
 have a4 : decide (4 < (t.acts.length : Int)) = false := by rw [decide_eq_false_iff_not]; omega
 have q0 : decide (t.cap < 0) = false := by rw [decide_eq_false_iff_not]; omega
 have q16 : decide (16 < t.cap) = false := by rw [decide_eq_false_iff_not]; omega
 have hks : ((t.kind != 1) = false ∧ (t.kind == 2) = false) ∨ ((t.kind != 1) = true ∧ (t.kind != 2) = false ∧ (t.kind == 2) = true ∧ ((ws.length : Int) != 1) = false) ∨ ((t.kind != 1) = true ∧ (t.kind != 2) = true ∧ (t.kind != 3) = false ∧ (t.kind == 2) = false) := by
  by_cases e1 : t.kind = 1
  ·left; rw [e1]; exact ⟨rfl, rfl⟩
  by_cases e2 : t.kind = 2
  ·right; left; refine ⟨by simpa using e1, by simpa using e2, by simpa using e2, ?_⟩
   rw [bne_eq_false_iff_eq]; omega
  ·right; right; refine ⟨by simpa using e1, by simpa using e2, ?_, by simpa using e2⟩
   rw [bne_eq_false_iff_eq]; omega
 clear g1 g2 g3 hn hma n m
 rcases hks with ⟨k1, k2⟩ | ⟨k1, k2, k3, k4⟩ | ⟨k1, k2, k3, k4⟩
 all_goals
  repeat' (first | (with_reducible first | refine zA ?_ | refine qaae ?_) | ((with_reducible refine qaac ?_); (try rw [hP]); simp -implicitDefEqProofs [*]) | ((with_reducible refine qaaf ?_); (try simp -implicitDefEqProofs [*])) | ((with_reducible refine qaaa rfl (fun h => ?_) (fun h => ?_)) <;> have h' := h <;> (try simp at h') <;> (try subst h')) | fail)
  clear k1 k2 a0 a4 q0 q16 l0 l3
  refine qaal (qaa5 (fun s (i : Nat) => s.turn [(67, .int .i64 i)] []) (fun i => i ≤ ws.length ∧ F = if (ws.drop i).any wOut = true then 6 else if (t.acts.drop 0).any (aOut acts.length) = true then 1 else qahr t.acts acts t.def_ t.args) (fun i => ws.length - i) 0 ?_ ⟨by simp, hF.out⟩ ?_)
  ·repeat' (first | ((with_reducible refine qaah [] hm ?_ ?_ ?_ ?_) <;> (try simp only [zT, puth, Nat.reduceEqDiff, reduceIte, Nat.reduceAdd])) | (with_reducible first | refine za ?_ ?_ | refine zb ?_ ?_ ?_ ?_) | (with_reducible first | exact qaab | exact qaad) | ((with_reducible first | refine zga ?_ | refine zgb ?_); rfl) | ((with_reducible refine zgd ?_); (first | omega | (simp; done))) | (exact Co.refl _) | (exact CoL.refl _) | fail)
  rintro J hJ i ⟨h5, h6⟩
  unfold qai2
  simp only [zT, puth, Nat.reduceEqDiff, reduceIte, Nat.reduceAdd] at h5 h6 ⊢
  rcases Nat.lt_or_ge i ws.length with hi | hi
  ·rw [qac8 _ hi] at h6
   generalize hxx : ws[i] = x at h6
   have wi : IntKind.i64.wrap ((i : Int) + 1) = (i : Int) + 1 := qaao (by omega) (by omega)
   replace h6 := Lib.hid h6
   cases hv : wOut x
   ·have hv1 : decide (x < 1) = false ∧ decide (48 < x) = false := by simpa [wOut] using hv
    obtain ⟨v1, v2⟩ := hv1
    repeat' (first | (with_reducible first | refine zA ?_ | refine qaae ?_) | ((with_reducible refine qaac ?_); (try rw [hP]); simp -implicitDefEqProofs [*]) | ((with_reducible refine qaaf ?_); (try simp -implicitDefEqProofs [*])) | ((with_reducible refine qaaa rfl (fun h => ?_) (fun h => ?_)) <;> have h' := h <;> (try simp at h') <;> (try subst h')) | (with_reducible first | refine za ?_ ?_ | refine zb ?_ ?_ ?_ ?_) | (with_reducible first | exact qaab | exact qaad) | ((with_reducible first | refine zga ?_ | refine zgb ?_); rfl) | ((with_reducible first | refine zgd ?_ | refine zge ?_); (first | omega | (simp; done))) | (exact Co.refl _) | (exact CoL.refl _) | ((refine qaai hJ (i + 1) ?_ ?_ ?_; (with_reducible refine qaah [] hm ?_ ?_ ?_ ?_) <;> (try simp only [zT, puth, Nat.reduceEqDiff, reduceIte, Nat.reduceAdd]))) | fail)
    exact ⟨by omega, by rw [h6.out, hv, Bool.false_or]⟩
   ·replace hv := Lib.hid hv
    repeat' (first | (with_reducible first | refine zA ?_ | refine qaae ?_) | ((with_reducible refine qaac ?_); (try rw [hP]); simp -implicitDefEqProofs [*]) | ((with_reducible refine qaaf ?_); (try simp -implicitDefEqProofs [*])) | ((with_reducible refine qaam ?_); (try simp only [qaap, qaag, qaaj])) | ((with_reducible refine qaaa rfl (fun h => ?_) (fun h => ?_)) <;> have h' := h <;> (try simp at h') <;> (try subst h')) | ((with_reducible refine qaan (fun h => ?_) (fun h => ?_)) <;> have h' := h <;> (try simp at h') <;> (try subst h') <;> simp -implicitDefEqProofs [*]) | (with_reducible refine zM hm ?_) | (with_reducible first | refine za ?_ ?_ | refine zb ?_ ?_ ?_ ?_) | (with_reducible first | exact qaab | exact qaad) | ((with_reducible first | refine zga ?_ | refine zgb ?_); rfl) | ((with_reducible first | refine zgd ?_ | refine zge ?_); (first | omega | (simp; done))) | (exact Co.refl _) | (exact CoL.refl _) | ((refine qaai hJ (i + 1) ?_ ?_ ?_; (with_reducible refine qaah [] hm ?_ ?_ ?_ ?_) <;> (try simp only [zT, puth, Nat.reduceEqDiff, reduceIte, Nat.reduceAdd]))) | fail)
    all_goals (first | (exfalso; have q := hv.out; simp only [wOut, Bool.or_eq_true, decide_eq_true_eq] at q; omega) | (rw [h6.out, hv.out]; rfl))
  ·obtain rfl : i = ws.length := by omega
   have h7 : F = if (t.acts.drop 0).any (aOut acts.length) = true then 1 else qahr t.acts acts t.def_ t.args := by rw [h6, List.drop_length]; rfl
   replace h7 := Lib.hid h7
   replace h6 := Lib.hid h6
   repeat' (first | (with_reducible refine zA ?_) | ((with_reducible refine qaac ?_); (try rw [hP]); simp -implicitDefEqProofs [*]) | ((with_reducible refine qaak ?_); (try simp -implicitDefEqProofs [*])) | ((with_reducible refine qaaa rfl (fun h => ?_) (fun h => ?_)) <;> have h' := h <;> (try simp at h') <;> (try subst h')) | fail)
   refine qaal (qaa5 (fun s (i : Nat) => s.turn [(81, .int .i64 i)] []) (fun i => i ≤ t.acts.length ∧ (∀ k ∈ t.acts.take i, aOut acts.length k = false) ∧ F = if (t.acts.drop i).any (aOut acts.length) = true then 1 else qahr t.acts acts t.def_ t.args) (fun i => t.acts.length - i) 0 ?_ ⟨by simp, by simp, h7.out⟩ ?_)
   ·repeat' (first | ((with_reducible refine qaah [] hm ?_ ?_ ?_ ?_) <;> (try simp only [zT, puth, Nat.reduceEqDiff, reduceIte, Nat.reduceAdd])) | (with_reducible first | refine za ?_ ?_ | refine zb ?_ ?_ ?_ ?_) | (with_reducible first | exact qaab | exact qaad) | ((with_reducible first | refine zga ?_ | refine zgb ?_); rfl) | ((with_reducible refine zgd ?_); (first | omega | (simp; done))) | (exact Co.refl _) | (exact CoL.refl _) | fail)
   rintro J hJ i ⟨h8, h9, h10⟩
   unfold qai1
   simp only [zT, puth, Nat.reduceEqDiff, reduceIte, Nat.reduceAdd] at h8 h9 h10 ⊢
   replace h9 := Lib.hid h9
   rcases Nat.lt_or_ge i t.acts.length with hi | hi
   ·rw [qac8 _ hi] at h10
    have htk : t.acts.take (i + 1) = t.acts.take i ++ [t.acts[i]] := List.take_succ_eq_append_getElem hi
    generalize hxx : t.acts[i] = x at h10 htk
    have wi : IntKind.i64.wrap ((i : Int) + 1) = (i : Int) + 1 := qaao (by omega) (by omega)
    replace h10 := Lib.hid h10
    replace htk := Lib.hid htk
    cases hv : aOut acts.length x
    ·have hv1 : decide (x < 0) = false ∧ decide ((acts.length : Int) ≤ x) = false := by simpa [aOut] using hv
     obtain ⟨v1, v2⟩ := hv1
     replace hv := Lib.hid hv
     repeat' (first | (with_reducible first | refine zA ?_ | refine qaae ?_) | ((with_reducible refine qaac ?_); (try rw [hP]); simp -implicitDefEqProofs [*]) | ((with_reducible refine qaaf ?_); (try simp -implicitDefEqProofs [*])) | ((with_reducible refine qaaa rfl (fun h => ?_) (fun h => ?_)) <;> have h' := h <;> (try simp at h') <;> (try subst h')) | (with_reducible first | refine za ?_ ?_ | refine zb ?_ ?_ ?_ ?_) | (with_reducible first | exact qaab | exact qaad) | ((with_reducible first | refine zga ?_ | refine zgb ?_); rfl) | ((with_reducible first | refine zgd ?_ | refine zge ?_); (first | omega | (simp; done))) | (exact Co.refl _) | (exact CoL.refl _) | ((refine qaai hJ (i + 1) ?_ ?_ ?_; (with_reducible refine qaah [] hm ?_ ?_ ?_ ?_) <;> (try simp only [zT, puth, Nat.reduceEqDiff, reduceIte, Nat.reduceAdd]))) | fail)
     refine ⟨by omega, fun k hk => ?_, by rw [h10.out, hv.out, Bool.false_or]⟩
     rw [htk.out, List.mem_append] at hk
     rcases hk with hk | hk
     ·exact h9.out k hk
     ·rw [List.mem_singleton.1 hk]; exact hv.out
    ·replace hv := Lib.hid hv
     repeat' (first | (with_reducible first | refine zA ?_ | refine qaae ?_) | ((with_reducible refine qaac ?_); (try rw [hP]); simp -implicitDefEqProofs [*]) | ((with_reducible refine qaaf ?_); (try simp -implicitDefEqProofs [*])) | ((with_reducible refine qaam ?_); (try simp only [qaap, qaag, qaaj])) | ((with_reducible refine qaaa rfl (fun h => ?_) (fun h => ?_)) <;> have h' := h <;> (try simp at h') <;> (try subst h')) | ((with_reducible refine qaan (fun h => ?_) (fun h => ?_)) <;> have h' := h <;> (try simp at h') <;> (try subst h') <;> simp -implicitDefEqProofs [*]) | (with_reducible refine zM hm ?_) | (with_reducible first | refine za ?_ ?_ | refine zb ?_ ?_ ?_ ?_) | (with_reducible first | exact qaab | exact qaad) | ((with_reducible first | refine zga ?_ | refine zgb ?_); rfl) | ((with_reducible first | refine zgd ?_ | refine zge ?_); (first | omega | (simp; done))) | (exact Co.refl _) | (exact CoL.refl _) | ((refine qaai hJ (i + 1) ?_ ?_ ?_; (with_reducible refine qaah [] hm ?_ ?_ ?_ ?_) <;> (try simp only [zT, puth, Nat.reduceEqDiff, reduceIte, Nat.reduceAdd]))) | fail)
     all_goals (first | (exfalso; have q := hv.out; simp only [aOut, Bool.or_eq_true, decide_eq_true_eq] at q; omega) | (rw [h10.out, hv.out]; rfl))
   ·obtain rfl : i = t.acts.length := by omega
    have h11 : ∀ k ∈ t.acts, 0 ≤ k ∧ k < acts.length := fun k hk => by
     have := h9.out k (by rw [List.take_length]; exact hk)
     unfold aOut at this; rw [Bool.or_eq_false_iff, decide_eq_false_iff_not, decide_eq_false_iff_not] at this; omega
    have h12 : F = qahr t.acts acts t.def_ t.args := by rw [h10, List.drop_length]; rfl
    have hs := hsays.out h11
    replace hs := Lib.hid hs
    replace h11 := Lib.hid h11
    replace h10 := Lib.hid h10
    replace h12 := Lib.hid h12
    repeat' (first | (with_reducible refine zA ?_) | ((with_reducible refine qaac ?_); (try rw [hP]); simp -implicitDefEqProofs [*]) | ((with_reducible refine qaak ?_); (try simp -implicitDefEqProofs [*])) | ((with_reducible refine qaam ?_); (try simp only [qaap, qaag, qaaj])) | ((with_reducible refine qaaa rfl (fun h => ?_) (fun h => ?_)) <;> have h' := h <;> (try simp at h') <;> (try subst h')) | (refine qaaw (hs.out _) ?_; simp -implicitDefEqProofs [*]) | (with_reducible refine zM hm ?_) | fail)
    rw [h12.out]
end Go.Proofs.YteoijlmgiemffaaGreat
namespace Go.Proofs.YteoijlmgiemffaaGreat
set_option linter.all false
open Go.RowKit
attribute [local simp] qabi qabh qaax qaa7 qaay qaa6 qabf qabg qaar qabr SOp.run SX.ev putd puts argS upds SOp.touch SSt.keep SSt.skip gets geth puth delh idOf SV.cells? setL qadh qadi sbin eq0 eq1 eqL qadf qab9 qaca qaap qabk qaag qabl qabs qaaj qaaq FrzOk qaba qaa1 qaa8 qaa9 qaat qaa0 qabm qaa2 qaav qabb qaau frzS frzH frz frz1 frz0 SlotsM ObjsM ObjM rn ren ren1 ren0 qabu qab7 qacf qabt qabn qacg qace CoL qabc qab3 dels adds idsH qabz
attribute [local simp] qadt refc qaes qaei qab8 opc actc tabc qaea qacm nums jc
theorem qauq (p : PlanD) (t : TabD) (hl : t.keys.length ≤ 1000000) (q : Nat) : SCalls Tryz.prog 31 [.agg (qacm p), .agg (tabc t)] [] q (nums .i64 (qab1 p t)) [] := qabj (qbif p t hl) (fun _ => rfl) (fun _ => rfl) rfl q
theorem jtabs_s (p : PlanD) (hs : SmallP p) (a b : Int) (ha : a = 0 → AW p.acts) : SCalls Tryz.prog 158 [.ptr 0 0] [(0, .cells 261 (jc p a b))] 1 (.tup []) [(0, .cells 261 (jc p (orF (a, b) (qag7 p)).1 (orF (a, b) (qag7 p)).2))] := by
 refine qaas (N := 76) Tryz.func158 rfl rfl (by kernel_rfl) qaou (by simp) (by repeat' (first | exact trivial | refine And.intro ?_ ?_ | rfl | decide | exact PureR.ren _)) (by repeat' (first | exact trivial | refine And.intro ?_ ?_ | rfl | decide | exact PureR.ren _)) ?_
 rintro X hP hN hm
 have hF : orF (a, b) (qag7 p) = orF (qab0 a b (decide (5 < (p.tabs.length : Int))) 2 (-5)) (rowF (fun _ t => tabF p t) 5000 0 p.tabs) := by
  unfold qag7; rw [qaep]; congr 3; exact propext (by omega)
 generalize orF (a, b) (qag7 p) = F at hF
 replace hF := Lib.hid hF
 have hla := hs.tabs
 have hE : (qab0 a b (decide (5 < (p.tabs.length : Int))) 2 (-5)).1 = 0 → AW p.acts := fun h => ha (by
  unfold qab0 at h; by_cases h0 : a = 0
  ·exact h0
  ·rw [if_neg (fun hh => h0 hh.2)] at h; exact h)
 replace hE := Lib.hid hE
 replace ha := Lib.hid ha
 unfold c_jtabs
 repeat' (first | (with_reducible refine zA ?_) | ((with_reducible refine qaac ?_); (try rw [hP]); simp -implicitDefEqProofs [*]) | (refine qabv (qabd p _ _ _ _ _ _ _ (by simp)) ⟨rfl, trivial⟩ ⟨rfl, trivial⟩ ?_; simp -implicitDefEqProofs [*]) | fail)
 refine qaal (qaa5 (fun s (x : Nat × Int × Int) => s.turn [(2, .int .i64 x.1)] [(0, .cells 261 (jc p x.2.1 x.2.2))]) (fun x => x.1 ≤ p.tabs.length ∧ (x.2.1 = 0 → AW p.acts) ∧ F = orF (x.2.1, x.2.2) (rowF (fun _ t => tabF p t) 5000 x.1 (p.tabs.drop x.1))) (fun x => p.tabs.length - x.1) (0, _, _) ?_ ⟨by simp, hE.out, hF⟩ ?_)
 ·repeat' (first | ((with_reducible refine qaah [] hm ?_ ?_ ?_ ?_) <;> (try simp only [zT, puth, Nat.reduceEqDiff, reduceIte, Nat.reduceAdd])) | (with_reducible first | refine za ?_ ?_ | refine zb ?_ ?_ ?_ ?_) | (with_reducible first | exact qaab | exact qaad) | ((with_reducible first | refine zga ?_ | refine zgb ?_); rfl) | ((with_reducible refine zgd ?_); (first | omega | (simp; done))) | (exact Co.refl _) | (exact CoL.refl _) | fail)
 rintro J hJ ⟨i, e, g⟩ ⟨h1, h0, h2⟩
 unfold qamh
 simp only [zT, puth, Nat.reduceEqDiff, reduceIte, Nat.reduceAdd] at h1 h0 h2 ⊢
 rcases Nat.lt_or_ge i p.tabs.length with hi | hi
 ·have hxm : p.tabs[i] ∈ p.tabs := List.getElem_mem hi
  have hw := hs.keys _ hxm
  rw [qadb _ _ hi] at h2
  generalize hxx : p.tabs[i] = x at h2 hw
  by_cases he : e = 0
  ·subst he
   rw [qaem] at h2
   have wi : IntKind.i64.wrap ((i : Int) + 1) = (i : Int) + 1 := qaao (by omega) (by omega)
   have wa : IntKind.i64.wrap (5000 + (i : Int)) = 5000 + (i : Int) := qaao (by omega) (by omega)
   have hAW := h0 rfl
   have hlw : (qab1 p x).length ≤ 1000000 := by unfold qab1; rw [List.length_map]; omega
   have hla2 := hs.acts
   have hc1 := fun q => qbii x (qab1 p x) p.acts hAW (by omega) (by omega) hlw (by omega) q
   have hc2 := fun q => qahz (qab1 p x) 0 hlw q
   have hc3 := fun q => qauq p x (by omega) q
   have hA : orF (0, g) (tabF p x, 5000 + (i : Int)) = orF (qab0 (qab0 0 g (decide (3 < (x.keys.length : Int))) 2 (5000 + i)).1 (qab0 0 g (decide (3 < (x.keys.length : Int))) 2 (5000 + i)).2 ((qab1 p x).contains 0) 1 (5000 + i)) (qadk x (qab1 p x) p.acts, 5000 + (i : Int)) := by
    have : tabF p x = if decide (3 < (x.keys.length : Int)) = true then 2 else if (qab1 p x).contains 0 = true then 1 else qadk x (qab1 p x) p.acts := by
     unfold tabF; simp only [decide_eq_true_eq]; congr 1; exact propext (by omega)
    rw [this, qac1 _ _ _ _ _ _ (by decide)]
    exact qac1 _ _ _ _ _ _ (by decide)
   generalize orF (0, g) (tabF p x, 5000 + (i : Int)) = A at hA h2
   generalize qadk x (qab1 p x) p.acts = T at hA hc1
   generalize (qab1 p x).contains 0 = C at hA hc2
   generalize qab1 p x = W at hc1 hc2 hc3
   rw [← qakj] at hA
   have kT : (T != 0) = decide (T ≠ 0) := by rw [Bool.eq_iff_iff]; simp
   unfold qad6 at hA
   rw [← kT] at hA
   replace hAW := Lib.hid hAW
   replace h0 := Lib.hid h0
   replace hA := Lib.hid hA
   replace h2 := Lib.hid h2
   replace hc1 := Lib.hid hc1
   replace hc2 := Lib.hid hc2
   replace hc3 := Lib.hid hc3
   clear kT
   repeat' (first | (with_reducible first | refine zA ?_ | refine qaae ?_ | refine zK ?_) | ((with_reducible first | refine qaac ?_ | refine qaaz (by rw [hP]; exact qacz) ?_); (try rw [hP]); simp -implicitDefEqProofs [*]) | ((with_reducible refine qaaf ?_); (try simp -implicitDefEqProofs [*])) | ((with_reducible refine qaaa rfl (fun h => ?_) (fun h => ?_)) <;> have h' := h <;> (try simp at h') <;> (try subst h')) | ((first | refine qabv (qabd p _ _ _ _ _ _ _ (by simp)) ⟨rfl, trivial⟩ ⟨rfl, trivial⟩ ?_ | refine qaaw (hc1.out _) ?_ | refine qaaw (hc2.out _) ?_ | refine qaaw (hc3.out _) ?_); simp -implicitDefEqProofs [*]) | (with_reducible first | refine za ?_ ?_ | refine zb ?_ ?_ ?_ ?_) | (with_reducible first | exact qaab | exact qaad) | ((with_reducible first | refine zga ?_ | refine zgb ?_); rfl) | ((with_reducible first | refine zgd ?_ | refine zge ?_); (first | omega | (simp; done))) | (exact Co.refl _) | (exact CoL.refl _) | ((refine qaai hJ (i + 1, ?_, ?_) ?_ ?_ ?_; rotate_left 2; (with_reducible refine qaah [] hm ?_ ?_ ?_ ?_) <;> (try simp only [zT, puth, Nat.reduceEqDiff, reduceIte, Nat.reduceAdd]))) | fail)
   all_goals (try dsimp only)
   all_goals (refine ⟨by omega, fun _ => hAW.out, ?_⟩; rw [h2.out]; congr 1; try exact hA.out)
  ·have ke : (e == 0) = false := by simpa using he
   replace h2 := Lib.hid h2
   replace h0 := Lib.hid h0
   repeat' (first | (with_reducible refine zA ?_) | ((with_reducible refine qaac ?_); (try rw [hP]); simp -implicitDefEqProofs [*]) | ((with_reducible refine qaak ?_); (try simp -implicitDefEqProofs [*])) | ((with_reducible refine qaaa rfl (fun h => ?_) (fun h => ?_)) <;> have h' := h <;> (try simp at h') <;> (try subst h')) | (refine qact hm rfl ?_ (fun σ => rfl)) | fail)
   rw [h2.out, qaf8 he]
 ·obtain rfl : i = p.tabs.length := by omega
  rw [List.drop_length] at h2
  replace h2 := Lib.hid h2
  replace h0 := Lib.hid h0
  repeat' (first | (with_reducible refine zA ?_) | ((with_reducible refine qaac ?_); (try rw [hP]); simp -implicitDefEqProofs [*]) | ((with_reducible refine qaak ?_); (try simp -implicitDefEqProofs [*])) | ((with_reducible refine qaaa rfl (fun h => ?_) (fun h => ?_)) <;> have h' := h <;> (try simp at h') <;> (try subst h')) | (refine qact hm rfl ?_ (fun σ => rfl)) | fail)
  rw [h2.out, qaci _ rfl]
end Go.Proofs.YteoijlmgiemffaaGreat
namespace Go.Proofs.YteoijlmgiemffaaGreat
set_option linter.all false
open Go.RowKit
attribute [local simp] qabi qabh qaax qaa7 qaay qaa6 qabf qabg qaar qabr SOp.run SX.ev putd puts argS upds SOp.touch SSt.keep SSt.skip gets geth puth delh idOf SV.cells? setL qadh qadi sbin eq0 eq1 eqL qadf qab9 qaca qaap qabk qaag qabl qabs qaaj qaaq FrzOk qaba qaa1 qaa8 qaa9 qaat qaa0 qabm qaa2 qaav qabb qaau frzS frzH frz frz1 frz0 SlotsM ObjsM ObjM rn ren ren1 ren0 qabu qab7 qacf qabt qabn qacg qace CoL qabc qab3 dels adds idsH qabz
attribute [local simp] qadt refc qaes qaei qab8 opc actc tabc qaea qacm nums jc
theorem qacl (g c at_ : Int) : qab0 0 g true c at_ = (c, at_) := rfl
theorem qabp (a b c at_ : Int) : qab0 a b false c at_ = (a, b) := by simp [qab0]
theorem qafj (p : PlanD) (i to_ e g R at_ : Int) : orF (e, g) (if toF p i to_ = 0 then R else toF p i to_, at_) = orF (qab0 (qab0 e g (decide (to_ < 0) || decide ((p.nodes.length : Int) < to_)) 1 at_).1 (qab0 e g (decide (to_ < 0) || decide ((p.nodes.length : Int) < to_)) 1 at_).2 (decide (to_ ≤ i)) 11 at_) (R, at_) := by
 unfold toF orF qab0
 by_cases h1 : to_ < 0 <;> by_cases h2 : (p.nodes.length : Int) < to_ <;> by_cases h3 : to_ ≤ i <;> by_cases he : e = 0 <;> by_cases hr : R = 0 <;> simp [h1, h2, h3, he, hr]
def qat7 (p : PlanD) (i : Int) (n : NodeD) : Int :=
 if n.kind = 1 then (if (decide (n.n < 0) || decide ((p.tabs.length : Int) ≤ n.n)) = true then 1 else qacj (toF p i) ([n.yes].drop 0))
 else if n.kind = 2 then (if (decide (n.n < 0) || decide ((p.acts.length : Int) ≤ n.n)) = true then 1 else if decide (0 < ((actW p.acts n.n).length : Int)) = true then 2 else qacj (toF p i) ([n.yes].drop 0))
 else if n.kind = 3 then (if qafi p n.e [] = 0 then qacj (toF p i) ([n.yes, n.no].drop 0) else qafi p n.e [])
 else if n.kind = 4 then (if (!qac0 p n.n) = true then 1 else qacj (toF p i) ([n.yes, n.no].drop 0))
 else 5
theorem first1 (f : Int → Int) (x : Int) : qacj f ([x].drop 0) = f x := by
 unfold qacj; simp only [List.drop_zero]; unfold qacj
 by_cases h : f x = 0 <;> simp [h]
theorem first2 (f : Int → Int) (x y : Int) : qacj f ([x, y].drop 0) = if f x ≠ 0 then f x else f y := by
 simp only [List.drop_zero, qacj]
 by_cases h : f x = 0 <;> by_cases h2 : f y = 0 <;> simp [h, h2]
theorem qasx (p : PlanD) (i : Int) (n : NodeD) : qant p i n = qat7 p i n := by
 have e1 : ∀ (b c : Prop) [Decidable b] [Decidable c], ((decide b || decide c) = true) = (b ∨ c) := fun b c _ _ => by simp
 unfold qant qat7
 by_cases k1 : n.kind = 1
 ·rw [if_pos k1, if_pos k1, first1]; simp only [e1]
 rw [if_neg k1, if_neg k1]
 by_cases k2 : n.kind = 2
 ·rw [if_pos k2, if_pos k2, first1]; simp only [e1, decide_eq_true_eq]
  have : (0 < (actW p.acts n.n).length) = (0 < ((actW p.acts n.n).length : Int)) := propext (by omega)
  simp only [this]
 rw [if_neg k2, if_neg k2]
 by_cases k3 : n.kind = 3
 ·rw [if_pos k3, if_pos k3, first2]; simp only [ne_eq, ite_not]
 rw [if_neg k3, if_neg k3]
 by_cases k4 : n.kind = 4
 ·rw [if_pos k4, if_pos k4, first2]
  cases qac0 p n.n <;> rfl
 rw [if_neg k4, if_neg k4]
def qadp (p : PlanD) (i : Int) (l : List Int) : Int := qacj (toF p i) l
set_option maxHeartbeats 8000000 in
theorem qbjr (p : PlanD) (hs : SmallP p) (a b : Int) : SCalls Tryz.prog 159 [.ptr 0 0] [(0, .cells 261 (jc p a b))] 1 (.tup []) [(0, .cells 261 (jc p (orF (a, b) (qadm p)).1 (orF (a, b) (qadm p)).2))] := by
 refine qaas (N := 162) Tryz.func159 rfl rfl (by kernel_rfl) qalh (by simp) (by repeat' (first | exact trivial | refine And.intro ?_ ?_ | rfl | decide | exact PureR.ren _)) (by repeat' (first | exact trivial | refine And.intro ?_ ?_ | rfl | decide | exact PureR.ren _)) ?_
 rintro X hP hN hm
 have hF : orF (a, b) (qadm p) = orF (qab0 a b (decide (10 < (p.nodes.length : Int))) 2 (-6)) (rowF (fun i n => qant p i n) 6000 0 p.nodes) := by
  unfold qadm; rw [qaep]; congr 3; exact propext (by omega)
 generalize orF (a, b) (qadm p) = F at hF
 replace hF := Lib.hid hF
 have hla := hs.nodes
 have hla2 := hs.acts
 unfold c_jnodes
 repeat' (first | (with_reducible refine zA ?_) | ((with_reducible refine qaac ?_); (try rw [hP]); simp -implicitDefEqProofs [*]) | (refine qabv (qabd p _ _ _ _ _ _ _ (by simp)) ⟨rfl, trivial⟩ ⟨rfl, trivial⟩ ?_; simp -implicitDefEqProofs [*]) | fail)
 refine qaal (qaa5 (fun s (x : Nat × Int × Int) => s.turn [(2, .int .i64 x.1)] [(0, .cells 261 (jc p x.2.1 x.2.2))]) (fun x => x.1 ≤ p.nodes.length ∧ F = orF (x.2.1, x.2.2) (rowF (fun i n => qant p i n) 6000 x.1 (p.nodes.drop x.1))) (fun x => p.nodes.length - x.1) (0, _, _) ?_ ⟨by simp, hF⟩ ?_)
 ·repeat' (first | ((with_reducible refine qaah [] hm ?_ ?_ ?_ ?_) <;> (try simp only [zT, puth, Nat.reduceEqDiff, reduceIte, Nat.reduceAdd])) | (with_reducible first | refine za ?_ ?_ | refine zb ?_ ?_ ?_ ?_) | (with_reducible first | exact qaab | exact qaad) | ((with_reducible first | refine zga ?_ | refine zgb ?_); rfl) | ((with_reducible refine zgd ?_); (first | omega | (simp; done))) | (exact Co.refl _) | (exact CoL.refl _) | fail)
 rintro J hJ ⟨i, e, g⟩ ⟨h1, h2⟩
 have hJo := hJ
 unfold qajm
 simp only [zT, puth, Nat.reduceEqDiff, reduceIte, Nat.reduceAdd] at h1 h2 ⊢
 rcases Nat.lt_or_ge i p.nodes.length with hi | hi
 ·have hxm : p.nodes[i] ∈ p.nodes := List.getElem_mem hi
  have hw := hs.node _ hxm
  rw [qadb _ _ hi] at h2
  generalize hxx : p.nodes[i] = x at h2 hw
  by_cases he : e = 0
  ·subst he
   rw [qaem] at h2
   have wi : IntKind.i64.wrap ((i : Int) + 1) = (i : Int) + 1 := qaao (by omega) (by omega)
   have wa : IntKind.i64.wrap (6000 + (i : Int)) = 6000 + (i : Int) := qaao (by omega) (by omega)
   have hA : orF (0, g) (qant p i x, 6000 + (i : Int)) = orF (0, g) (qat7 p i x, 6000 + (i : Int)) := by rw [qasx]
   generalize orF (0, g) (qant p i x, 6000 + (i : Int)) = A at hA h2
   replace h2 := Lib.hid h2
   unfold qat7 at hA
   have kinds : (x.kind = 1 ∨ x.kind = 2) ∨ (¬ x.kind = 1 ∧ ¬ x.kind = 2) := by omega
   rcases kinds with k | ⟨kn1, kn2⟩
   ·have hA2 : (x.kind = 1 ∧ A = orF (qab0 0 g (decide (x.n < 0) || decide ((p.tabs.length : Int) ≤ x.n)) 1 (6000 + i)) (qadp p i ([x.yes].drop 0), 6000 + (i : Int))) ∨ (x.kind = 2 ∧ x.n < 0 ∧ A = (1, 6000 + (i : Int))) ∨ (x.kind = 2 ∧ (p.acts.length : Int) ≤ x.n ∧ 0 ≤ x.n ∧ A = (1, 6000 + (i : Int))) ∨ (x.kind = 2 ∧ 0 ≤ x.n ∧ x.n < p.acts.length ∧ A = orF (qab0 0 g (decide (0 < ((actW p.acts x.n).length : Int))) 2 (6000 + i)) (qadp p i ([x.yes].drop 0), 6000 + (i : Int))) := by
     rcases k with k | k
     ·rw [if_pos k, qac1 _ _ _ _ _ _ (by decide)] at hA
      exact .inl ⟨k, hA⟩
     ·rw [if_neg (by omega), if_pos k] at hA
      by_cases n1 : x.n < 0
      ·refine .inr (.inl ⟨k, n1, ?_⟩)
       rw [hA, if_pos (by simp [n1])]; rfl
      ·by_cases n2 : (p.acts.length : Int) ≤ x.n
       ·refine .inr (.inr (.inl ⟨k, n2, by omega, ?_⟩))
        rw [hA, if_pos (by simp [n2])]; rfl
       ·refine .inr (.inr (.inr ⟨k, by omega, by omega, ?_⟩))
        rw [hA, if_neg (by simp [n1, n2]), qac1 _ _ _ _ _ _ (by decide)]; rfl
    clear hA k
    rcases hA2 with ⟨k, hA⟩ | ⟨k, n1, hA⟩ | ⟨k, n2, n1, hA⟩ | ⟨k, n1, n2, hA⟩
    ·have k1 : (x.kind == 1) = true := by simpa using k
     replace k := Lib.hid k
     cases kn : decide (x.n < 0) <;> simp only [kn, Bool.true_or, Bool.false_or] at hA <;> have hI := hA <;> replace hI := Lib.hid hI <;> clear hA
     all_goals
      repeat' (first | (with_reducible first | refine zA ?_ | refine qaae ?_ | refine zK ?_) | ((with_reducible first | refine qaac ?_ | refine qaaz (by rw [hP]; exact qacz) ?_); (try rw [hP]); simp -implicitDefEqProofs [qacl, qabp, *]) | ((with_reducible refine qaaf ?_); (try simp -implicitDefEqProofs [qacl, qabp, *])) | ((with_reducible refine qaaa rfl (fun h => ?_) (fun h => ?_)) <;> have h' := h <;> (try simp at h') <;> (try subst h')) | (refine qabv (qabd p _ _ _ _ _ _ _ (by simp)) ⟨rfl, trivial⟩ ⟨rfl, trivial⟩ ?_; simp -implicitDefEqProofs [qacl, qabp, *]) | fail)
      refine qaal (qaa5 (fun s (y : Nat × Int × Int) => s.turn [(136, .int .i64 y.1)] [(0, .cells 261 (jc p y.2.1 y.2.2))]) (fun y => y.1 ≤ 1 ∧ A = orF (y.2.1, y.2.2) (qadp p i ([x.yes].drop y.1), 6000 + (i : Int))) (fun y => 1 - y.1) (0, _, _) ?_ ⟨by simp, hI.out⟩ ?_)
      ·repeat' (first | ((with_reducible refine qaah [] hm ?_ ?_ ?_ ?_) <;> (try simp only [zT, puth, Nat.reduceEqDiff, reduceIte, Nat.reduceAdd])) | (with_reducible first | refine za ?_ ?_ | refine zb ?_ ?_ ?_ ?_ | refine zd ?_ ?_ ?_ ?_) | (with_reducible first | exact qaab | exact qaad) | ((with_reducible first | refine zga ?_ | refine zgb ?_); rfl) | ((with_reducible refine zgd ?_); (first | omega | (simp; done))) | (exact Co.refl _) | (exact CoL.refl _) | (exact CoLL.refl _) | fail)
      rintro J hJ ⟨k, e1, g1⟩ ⟨h3, h4⟩
      unfold qadc
      simp only [zT, puth, Nat.reduceEqDiff, reduceIte, Nat.reduceAdd] at h3 h4 ⊢
      have hk : k = 0 ∨ k = 1 := by omega
      rcases hk with rfl | rfl
      ·have h5 := h4.trans (qafj p i x.yes e1 g1 (qadp p i []) (6000 + (i : Int)))
       clear h4
       cases kd : decide (x.yes < 0) <;> simp only [kd, Bool.true_or, Bool.false_or] at h5 <;> replace h5 := Lib.hid h5
       all_goals
        repeat' (first | (with_reducible first | refine zA ?_ | refine qaae ?_) | ((with_reducible refine qaac ?_); (try rw [hP]); simp -implicitDefEqProofs [*]) | ((with_reducible refine qaaf ?_); (try simp -implicitDefEqProofs [*])) | ((with_reducible refine qaaa rfl (fun h => ?_) (fun h => ?_)) <;> have h' := h <;> (try simp at h') <;> (try subst h')) | (refine qabv (qabd p _ _ _ _ _ _ _ (by simp)) ⟨rfl, trivial⟩ ⟨rfl, trivial⟩ ?_; simp -implicitDefEqProofs [*]) | (with_reducible first | refine za ?_ ?_ | refine zb ?_ ?_ ?_ ?_ | refine zd ?_ ?_ ?_ ?_) | (with_reducible first | exact qaab | exact qaad) | ((with_reducible first | refine zga ?_ | refine zgb ?_); rfl) | ((with_reducible first | refine zgd ?_ | refine zge ?_); (first | omega | (simp; done))) | (exact Co.refl _) | (exact CoL.refl _) | (exact CoLL.refl _) | ((refine qaai hJ (1, ?_, ?_) ?_ ?_ ?_; rotate_left 2; (with_reducible refine qaah [] hm ?_ ?_ ?_ ?_) <;> (try simp only [zT, puth, Nat.reduceEqDiff, reduceIte, Nat.reduceAdd]))) | fail)
        all_goals (try dsimp only)
        all_goals (exact ⟨by omega, h5.out⟩)
      ·replace h4 := Lib.hid h4
       repeat' (first | (with_reducible refine zA ?_) | ((with_reducible refine qaac ?_); (try rw [hP]); simp -implicitDefEqProofs [*]) | ((with_reducible refine qaak ?_); (try simp -implicitDefEqProofs [*])) | ((with_reducible refine qaaa rfl (fun h => ?_) (fun h => ?_)) <;> have h' := h <;> (try simp at h') <;> (try subst h')) | (with_reducible first | refine za ?_ ?_ | refine zb ?_ ?_ ?_ ?_) | (with_reducible first | exact qaab | exact qaad) | ((with_reducible first | refine zga ?_ | refine zgb ?_); rfl) | ((with_reducible first | refine zgd ?_ | refine zge ?_); (first | omega | (simp; done))) | (exact Co.refl _) | (exact CoL.refl _) | ((refine qaai hJo (i + 1, ?_, ?_) ?_ ?_ ?_; rotate_left 2; (with_reducible refine qaah [] hm ?_ ?_ ?_ ?_) <;> (try simp only [zT, puth, Nat.reduceEqDiff, reduceIte, Nat.reduceAdd]))) | fail)
       all_goals (try dsimp only)
       all_goals (refine ⟨by omega, ?_⟩; rw [h2.out]; congr 1; rw [h4.out]; exact qaci _ rfl)
    ·have k1 : (x.kind == 1) = false := by rw [k]; rfl
     have k2 : (x.kind == 2) = true := by simpa using k
     have kn : decide (x.n < 0) = true := by simpa using n1
     have hI : A = orF (1, 6000 + (i : Int)) (qadp p i ([x.yes].drop 0), 6000 + (i : Int)) := hA
     clear k n1 hA
     replace hI := Lib.hid hI
     repeat' (first | (with_reducible first | refine zA ?_ | refine qaae ?_ | refine zK ?_) | ((with_reducible first | refine qaac ?_ | refine qaaz (by rw [hP]; exact qacz) ?_); (try rw [hP]); simp -implicitDefEqProofs [qacl, qabp, *]) | ((with_reducible refine qaaf ?_); (try simp -implicitDefEqProofs [qacl, qabp, *])) | ((with_reducible refine qaaa rfl (fun h => ?_) (fun h => ?_)) <;> have h' := h <;> (try simp at h') <;> (try subst h')) | (refine qabv (qabd p _ _ _ _ _ _ _ (by simp)) ⟨rfl, trivial⟩ ⟨rfl, trivial⟩ ?_; simp -implicitDefEqProofs [qacl, qabp, *]) | fail)
     refine qaal (qaa5 (fun s (y : Nat × Int × Int) => s.turn [(136, .int .i64 y.1)] [(0, .cells 261 (jc p y.2.1 y.2.2))]) (fun y => y.1 ≤ 1 ∧ A = orF (y.2.1, y.2.2) (qadp p i ([x.yes].drop y.1), 6000 + (i : Int))) (fun y => 1 - y.1) (0, _, _) ?_ ⟨by simp, hI.out⟩ ?_)
     ·repeat' (first | ((with_reducible refine qaah [] hm ?_ ?_ ?_ ?_) <;> (try simp only [zT, puth, Nat.reduceEqDiff, reduceIte, Nat.reduceAdd])) | (with_reducible first | refine za ?_ ?_ | refine zb ?_ ?_ ?_ ?_ | refine zd ?_ ?_ ?_ ?_) | (with_reducible first | exact qaab | exact qaad) | ((with_reducible first | refine zga ?_ | refine zgb ?_); rfl) | ((with_reducible refine zgd ?_); (first | omega | (simp; done))) | (exact Co.refl _) | (exact CoL.refl _) | (exact CoLL.refl _) | fail)
     rintro J hJ ⟨k, e1, g1⟩ ⟨h3, h4⟩
     unfold qadc
     simp only [zT, puth, Nat.reduceEqDiff, reduceIte, Nat.reduceAdd] at h3 h4 ⊢
     have hk : k = 0 ∨ k = 1 := by omega
     rcases hk with rfl | rfl
     ·have h5 := h4.trans (qafj p i x.yes e1 g1 (qadp p i []) (6000 + (i : Int)))
      clear h4
      cases kd : decide (x.yes < 0) <;> simp only [kd, Bool.true_or, Bool.false_or] at h5 <;> replace h5 := Lib.hid h5
      all_goals
       repeat' (first | (with_reducible first | refine zA ?_ | refine qaae ?_) | ((with_reducible refine qaac ?_); (try rw [hP]); simp -implicitDefEqProofs [*]) | ((with_reducible refine qaaf ?_); (try simp -implicitDefEqProofs [*])) | ((with_reducible refine qaaa rfl (fun h => ?_) (fun h => ?_)) <;> have h' := h <;> (try simp at h') <;> (try subst h')) | (refine qabv (qabd p _ _ _ _ _ _ _ (by simp)) ⟨rfl, trivial⟩ ⟨rfl, trivial⟩ ?_; simp -implicitDefEqProofs [*]) | (with_reducible first | refine za ?_ ?_ | refine zb ?_ ?_ ?_ ?_ | refine zd ?_ ?_ ?_ ?_) | (with_reducible first | exact qaab | exact qaad) | ((with_reducible first | refine zga ?_ | refine zgb ?_); rfl) | ((with_reducible first | refine zgd ?_ | refine zge ?_); (first | omega | (simp; done))) | (exact Co.refl _) | (exact CoL.refl _) | (exact CoLL.refl _) | ((refine qaai hJ (1, ?_, ?_) ?_ ?_ ?_; rotate_left 2; (with_reducible refine qaah [] hm ?_ ?_ ?_ ?_) <;> (try simp only [zT, puth, Nat.reduceEqDiff, reduceIte, Nat.reduceAdd]))) | fail)
       all_goals (try dsimp only)
       all_goals (exact ⟨by omega, h5.out⟩)
     ·replace h4 := Lib.hid h4
      repeat' (first | (with_reducible refine zA ?_) | ((with_reducible refine qaac ?_); (try rw [hP]); simp -implicitDefEqProofs [*]) | ((with_reducible refine qaak ?_); (try simp -implicitDefEqProofs [*])) | ((with_reducible refine qaaa rfl (fun h => ?_) (fun h => ?_)) <;> have h' := h <;> (try simp at h') <;> (try subst h')) | (with_reducible first | refine za ?_ ?_ | refine zb ?_ ?_ ?_ ?_) | (with_reducible first | exact qaab | exact qaad) | ((with_reducible first | refine zga ?_ | refine zgb ?_); rfl) | ((with_reducible first | refine zgd ?_ | refine zge ?_); (first | omega | (simp; done))) | (exact Co.refl _) | (exact CoL.refl _) | ((refine qaai hJo (i + 1, ?_, ?_) ?_ ?_ ?_; rotate_left 2; (with_reducible refine qaah [] hm ?_ ?_ ?_ ?_) <;> (try simp only [zT, puth, Nat.reduceEqDiff, reduceIte, Nat.reduceAdd]))) | fail)
      all_goals (try dsimp only)
      all_goals (refine ⟨by omega, ?_⟩; rw [h2.out]; congr 1; rw [h4.out]; exact qaci _ rfl)
    ·have k1 : (x.kind == 1) = false := by rw [k]; rfl
     have k2 : (x.kind == 2) = true := by simpa using k
     have kn : decide (x.n < 0) = false := by simpa using n1
     have kn2 : decide ((p.acts.length : Int) ≤ x.n) = true := by simpa using n2
     have hI : A = orF (1, 6000 + (i : Int)) (qadp p i ([x.yes].drop 0), 6000 + (i : Int)) := hA
     clear k n1 n2 hA
     replace hI := Lib.hid hI
     repeat' (first | (with_reducible first | refine zA ?_ | refine qaae ?_ | refine zK ?_) | ((with_reducible first | refine qaac ?_ | refine qaaz (by rw [hP]; exact qacz) ?_); (try rw [hP]); simp -implicitDefEqProofs [qacl, qabp, *]) | ((with_reducible refine qaaf ?_); (try simp -implicitDefEqProofs [qacl, qabp, *])) | ((with_reducible refine qaaa rfl (fun h => ?_) (fun h => ?_)) <;> have h' := h <;> (try simp at h') <;> (try subst h')) | (refine qabv (qabd p _ _ _ _ _ _ _ (by simp)) ⟨rfl, trivial⟩ ⟨rfl, trivial⟩ ?_; simp -implicitDefEqProofs [qacl, qabp, *]) | fail)
     refine qaal (qaa5 (fun s (y : Nat × Int × Int) => s.turn [(136, .int .i64 y.1)] [(0, .cells 261 (jc p y.2.1 y.2.2))]) (fun y => y.1 ≤ 1 ∧ A = orF (y.2.1, y.2.2) (qadp p i ([x.yes].drop y.1), 6000 + (i : Int))) (fun y => 1 - y.1) (0, _, _) ?_ ⟨by simp, hI.out⟩ ?_)
     ·repeat' (first | ((with_reducible refine qaah [] hm ?_ ?_ ?_ ?_) <;> (try simp only [zT, puth, Nat.reduceEqDiff, reduceIte, Nat.reduceAdd])) | (with_reducible first | refine za ?_ ?_ | refine zb ?_ ?_ ?_ ?_ | refine zd ?_ ?_ ?_ ?_) | (with_reducible first | exact qaab | exact qaad) | ((with_reducible first | refine zga ?_ | refine zgb ?_); rfl) | ((with_reducible refine zgd ?_); (first | omega | (simp; done))) | (exact Co.refl _) | (exact CoL.refl _) | (exact CoLL.refl _) | fail)
     rintro J hJ ⟨k, e1, g1⟩ ⟨h3, h4⟩
     unfold qadc
     simp only [zT, puth, Nat.reduceEqDiff, reduceIte, Nat.reduceAdd] at h3 h4 ⊢
     have hk : k = 0 ∨ k = 1 := by omega
     rcases hk with rfl | rfl
     ·have h5 := h4.trans (qafj p i x.yes e1 g1 (qadp p i []) (6000 + (i : Int)))
      clear h4
      cases kd : decide (x.yes < 0) <;> simp only [kd, Bool.true_or, Bool.false_or] at h5 <;> replace h5 := Lib.hid h5
      all_goals
       repeat' (first | (with_reducible first | refine zA ?_ | refine qaae ?_) | ((with_reducible refine qaac ?_); (try rw [hP]); simp -implicitDefEqProofs [*]) | ((with_reducible refine qaaf ?_); (try simp -implicitDefEqProofs [*])) | ((with_reducible refine qaaa rfl (fun h => ?_) (fun h => ?_)) <;> have h' := h <;> (try simp at h') <;> (try subst h')) | (refine qabv (qabd p _ _ _ _ _ _ _ (by simp)) ⟨rfl, trivial⟩ ⟨rfl, trivial⟩ ?_; simp -implicitDefEqProofs [*]) | (with_reducible first | refine za ?_ ?_ | refine zb ?_ ?_ ?_ ?_ | refine zd ?_ ?_ ?_ ?_) | (with_reducible first | exact qaab | exact qaad) | ((with_reducible first | refine zga ?_ | refine zgb ?_); rfl) | ((with_reducible first | refine zgd ?_ | refine zge ?_); (first | omega | (simp; done))) | (exact Co.refl _) | (exact CoL.refl _) | (exact CoLL.refl _) | ((refine qaai hJ (1, ?_, ?_) ?_ ?_ ?_; rotate_left 2; (with_reducible refine qaah [] hm ?_ ?_ ?_ ?_) <;> (try simp only [zT, puth, Nat.reduceEqDiff, reduceIte, Nat.reduceAdd]))) | fail)
       all_goals (try dsimp only)
       all_goals (exact ⟨by omega, h5.out⟩)
     ·replace h4 := Lib.hid h4
      repeat' (first | (with_reducible refine zA ?_) | ((with_reducible refine qaac ?_); (try rw [hP]); simp -implicitDefEqProofs [*]) | ((with_reducible refine qaak ?_); (try simp -implicitDefEqProofs [*])) | ((with_reducible refine qaaa rfl (fun h => ?_) (fun h => ?_)) <;> have h' := h <;> (try simp at h') <;> (try subst h')) | (with_reducible first | refine za ?_ ?_ | refine zb ?_ ?_ ?_ ?_) | (with_reducible first | exact qaab | exact qaad) | ((with_reducible first | refine zga ?_ | refine zgb ?_); rfl) | ((with_reducible first | refine zgd ?_ | refine zge ?_); (first | omega | (simp; done))) | (exact Co.refl _) | (exact CoL.refl _) | ((refine qaai hJo (i + 1, ?_, ?_) ?_ ?_ ?_; rotate_left 2; (with_reducible refine qaah [] hm ?_ ?_ ?_ ?_) <;> (try simp only [zT, puth, Nat.reduceEqDiff, reduceIte, Nat.reduceAdd]))) | fail)
      all_goals (try dsimp only)
      all_goals (refine ⟨by omega, ?_⟩; rw [h2.out]; congr 1; rw [h4.out]; exact qaci _ rfl)
    ·have k1 : (x.kind == 1) = false := by rw [k]; rfl
     have k2 : (x.kind == 2) = true := by simpa using k
     have kn : decide (x.n < 0) = false := by simpa using n1
     have kn2 : decide ((p.acts.length : Int) ≤ x.n) = false := by simpa using n2
     have hlt : x.n.toNat < p.acts.length := by omega
     have hI := hA
     have : actW p.acts x.n = p.acts[x.n.toNat].w := by unfold actW; rw [List.getElem?_eq_getElem hlt]; rfl
     rw [this] at hI
     generalize hB : p.acts[x.n.toNat] = B at hI
     rw [show decide (0 < (B.w.length : Int)) = decide (0 < B.w.length) from decide_eq_decide.2 (by omega)] at hI
     clear k this hA
     replace hI := Lib.hid hI
     repeat' (first | (with_reducible first | refine zA ?_ | refine qaae ?_ | refine zK ?_) | ((with_reducible first | refine qaac ?_ | refine qaaz (by rw [hP]; exact qacz) ?_); (try rw [hP]); simp -implicitDefEqProofs [qacl, qabp, *]) | ((with_reducible refine qaaf ?_); (try simp -implicitDefEqProofs [qacl, qabp, *])) | ((with_reducible refine qaaa rfl (fun h => ?_) (fun h => ?_)) <;> have h' := h <;> (try simp at h') <;> (try subst h')) | (refine qabv (qabd p _ _ _ _ _ _ _ (by simp)) ⟨rfl, trivial⟩ ⟨rfl, trivial⟩ ?_; simp -implicitDefEqProofs [qacl, qabp, *]) | fail)
     refine qaal (qaa5 (fun s (y : Nat × Int × Int) => s.turn [(136, .int .i64 y.1)] [(0, .cells 261 (jc p y.2.1 y.2.2))]) (fun y => y.1 ≤ 1 ∧ A = orF (y.2.1, y.2.2) (qadp p i ([x.yes].drop y.1), 6000 + (i : Int))) (fun y => 1 - y.1) (0, _, _) ?_ ⟨by simp, hI.out⟩ ?_)
     ·repeat' (first | ((with_reducible refine qaah [] hm ?_ ?_ ?_ ?_) <;> (try simp only [zT, puth, Nat.reduceEqDiff, reduceIte, Nat.reduceAdd])) | (with_reducible first | refine za ?_ ?_ | refine zb ?_ ?_ ?_ ?_ | refine zd ?_ ?_ ?_ ?_) | (with_reducible first | exact qaab | exact qaad) | ((with_reducible first | refine zga ?_ | refine zgb ?_); rfl) | ((with_reducible refine zgd ?_); (first | omega | (simp; done))) | (exact Co.refl _) | (exact CoL.refl _) | (exact CoLL.refl _) | fail)
     rintro J hJ ⟨k, e1, g1⟩ ⟨h3, h4⟩
     unfold qadc
     simp only [zT, puth, Nat.reduceEqDiff, reduceIte, Nat.reduceAdd] at h3 h4 ⊢
     have hk : k = 0 ∨ k = 1 := by omega
     rcases hk with rfl | rfl
     ·have h5 := h4.trans (qafj p i x.yes e1 g1 (qadp p i []) (6000 + (i : Int)))
      clear h4
      cases kd : decide (x.yes < 0) <;> simp only [kd, Bool.true_or, Bool.false_or] at h5 <;> replace h5 := Lib.hid h5
      all_goals
       repeat' (first | (with_reducible first | refine zA ?_ | refine qaae ?_) | ((with_reducible refine qaac ?_); (try rw [hP]); simp -implicitDefEqProofs [*]) | ((with_reducible refine qaaf ?_); (try simp -implicitDefEqProofs [*])) | ((with_reducible refine qaaa rfl (fun h => ?_) (fun h => ?_)) <;> have h' := h <;> (try simp at h') <;> (try subst h')) | (refine qabv (qabd p _ _ _ _ _ _ _ (by simp)) ⟨rfl, trivial⟩ ⟨rfl, trivial⟩ ?_; simp -implicitDefEqProofs [*]) | (with_reducible first | refine za ?_ ?_ | refine zb ?_ ?_ ?_ ?_ | refine zd ?_ ?_ ?_ ?_) | (with_reducible first | exact qaab | exact qaad) | ((with_reducible first | refine zga ?_ | refine zgb ?_); rfl) | ((with_reducible first | refine zgd ?_ | refine zge ?_); (first | omega | (simp; done))) | (exact Co.refl _) | (exact CoL.refl _) | (exact CoLL.refl _) | ((refine qaai hJ (1, ?_, ?_) ?_ ?_ ?_; rotate_left 2; (with_reducible refine qaah [] hm ?_ ?_ ?_ ?_) <;> (try simp only [zT, puth, Nat.reduceEqDiff, reduceIte, Nat.reduceAdd]))) | fail)
       all_goals (try dsimp only)
       all_goals (exact ⟨by omega, h5.out⟩)
     ·replace h4 := Lib.hid h4
      repeat' (first | (with_reducible refine zA ?_) | ((with_reducible refine qaac ?_); (try rw [hP]); simp -implicitDefEqProofs [*]) | ((with_reducible refine qaak ?_); (try simp -implicitDefEqProofs [*])) | ((with_reducible refine qaaa rfl (fun h => ?_) (fun h => ?_)) <;> have h' := h <;> (try simp at h') <;> (try subst h')) | (with_reducible first | refine za ?_ ?_ | refine zb ?_ ?_ ?_ ?_) | (with_reducible first | exact qaab | exact qaad) | ((with_reducible first | refine zga ?_ | refine zgb ?_); rfl) | ((with_reducible first | refine zgd ?_ | refine zge ?_); (first | omega | (simp; done))) | (exact Co.refl _) | (exact CoL.refl _) | ((refine qaai hJo (i + 1, ?_, ?_) ?_ ?_ ?_; rotate_left 2; (with_reducible refine qaah [] hm ?_ ?_ ?_ ?_) <;> (try simp only [zT, puth, Nat.reduceEqDiff, reduceIte, Nat.reduceAdd]))) | fail)
      all_goals (try dsimp only)
      all_goals (refine ⟨by omega, ?_⟩; rw [h2.out]; congr 1; rw [h4.out]; exact qaci _ rfl)
   ·have k1 : (x.kind == 1) = false := by simpa using kn1
    have k2 : (x.kind == 2) = false := by simpa using kn2
    rw [if_neg kn1, if_neg kn2] at hA
    by_cases kn3 : x.kind = 3
    ·have k3 : (x.kind == 3) = true := by simpa using kn3
     rw [if_pos kn3, qash] at hA
     have hI := hA
     clear kn1 kn2 kn3 hA
     replace hI := Lib.hid hI
     repeat' (first | (with_reducible first | refine zA ?_ | refine qaae ?_) | ((with_reducible refine qaac ?_); (try rw [hP]); simp -implicitDefEqProofs [qacl, qabp, *]) | ((with_reducible refine qaaf ?_); (try simp -implicitDefEqProofs [qacl, qabp, *])) | ((with_reducible refine qaaa rfl (fun h => ?_) (fun h => ?_)) <;> have h' := h <;> (try simp at h') <;> (try subst h')) | ((refine qabv (qaur p _ _ x.e _ (by omega) _ _ (by simp)) ⟨rfl, trivial⟩ ⟨rfl, trivial⟩ ?_); simp -implicitDefEqProofs [qacl, qabp, *]) | fail)
     refine qaal (qaa5 (fun s (y : Nat × Int × Int) => s.turn [(136, .int .i64 y.1)] [(0, .cells 261 (jc p y.2.1 y.2.2))]) (fun y => y.1 ≤ 2 ∧ A = orF (y.2.1, y.2.2) (qadp p i ([x.yes, x.no].drop y.1), 6000 + (i : Int))) (fun y => 2 - y.1) (0, _, _) ?_ ⟨by simp, hI.out⟩ ?_)
     ·repeat' (first | ((with_reducible refine qaah [] hm ?_ ?_ ?_ ?_) <;> (try simp only [zT, puth, Nat.reduceEqDiff, reduceIte, Nat.reduceAdd])) | (with_reducible first | refine za ?_ ?_ | refine zb ?_ ?_ ?_ ?_ | refine zd ?_ ?_ ?_ ?_) | (with_reducible first | exact qaab | exact qaad) | ((with_reducible first | refine zga ?_ | refine zgb ?_); rfl) | ((with_reducible refine zgd ?_); (first | omega | (simp; done))) | (exact Co.refl _) | (exact CoL.refl _) | (exact CoLL.refl _) | fail)
     rintro J hJ ⟨k, e1, g1⟩ ⟨h3, h4⟩
     unfold qadc
     simp only [zT, puth, Nat.reduceEqDiff, reduceIte, Nat.reduceAdd] at h3 h4 ⊢
     have hk : k = 0 ∨ k = 1 ∨ k = 2 := by omega
     rcases hk with rfl | rfl | rfl
     ·have h5 := h4.trans (qafj p i x.yes e1 g1 (qadp p i [x.no]) (6000 + (i : Int)))
      clear h4
      cases kd : decide (x.yes < 0) <;> simp only [kd, Bool.true_or, Bool.false_or] at h5 <;> replace h5 := Lib.hid h5
      all_goals
       repeat' (first | (with_reducible first | refine zA ?_ | refine qaae ?_) | ((with_reducible refine qaac ?_); (try rw [hP]); simp -implicitDefEqProofs [*]) | ((with_reducible refine qaaf ?_); (try simp -implicitDefEqProofs [*])) | ((with_reducible refine qaaa rfl (fun h => ?_) (fun h => ?_)) <;> have h' := h <;> (try simp at h') <;> (try subst h')) | (refine qabv (qabd p _ _ _ _ _ _ _ (by simp)) ⟨rfl, trivial⟩ ⟨rfl, trivial⟩ ?_; simp -implicitDefEqProofs [*]) | (with_reducible first | refine za ?_ ?_ | refine zb ?_ ?_ ?_ ?_ | refine zd ?_ ?_ ?_ ?_) | (with_reducible first | exact qaab | exact qaad) | ((with_reducible first | refine zga ?_ | refine zgb ?_); rfl) | ((with_reducible first | refine zgd ?_ | refine zge ?_); (first | omega | (simp; done))) | (exact Co.refl _) | (exact CoL.refl _) | (exact CoLL.refl _) | ((refine qaai hJ (1, ?_, ?_) ?_ ?_ ?_; rotate_left 2; (with_reducible refine qaah [] hm ?_ ?_ ?_ ?_) <;> (try simp only [zT, puth, Nat.reduceEqDiff, reduceIte, Nat.reduceAdd]))) | fail)
       all_goals (try dsimp only)
       all_goals (exact ⟨by omega, h5.out⟩)
     ·have h5 := h4.trans (qafj p i x.no e1 g1 (qadp p i []) (6000 + (i : Int)))
      clear h4
      cases kd : decide (x.no < 0) <;> simp only [kd, Bool.true_or, Bool.false_or] at h5 <;> replace h5 := Lib.hid h5
      all_goals
       repeat' (first | (with_reducible first | refine zA ?_ | refine qaae ?_) | ((with_reducible refine qaac ?_); (try rw [hP]); simp -implicitDefEqProofs [*]) | ((with_reducible refine qaaf ?_); (try simp -implicitDefEqProofs [*])) | ((with_reducible refine qaaa rfl (fun h => ?_) (fun h => ?_)) <;> have h' := h <;> (try simp at h') <;> (try subst h')) | (refine qabv (qabd p _ _ _ _ _ _ _ (by simp)) ⟨rfl, trivial⟩ ⟨rfl, trivial⟩ ?_; simp -implicitDefEqProofs [*]) | (with_reducible first | refine za ?_ ?_ | refine zb ?_ ?_ ?_ ?_ | refine zd ?_ ?_ ?_ ?_) | (with_reducible first | exact qaab | exact qaad) | ((with_reducible first | refine zga ?_ | refine zgb ?_); rfl) | ((with_reducible first | refine zgd ?_ | refine zge ?_); (first | omega | (simp; done))) | (exact Co.refl _) | (exact CoL.refl _) | (exact CoLL.refl _) | ((refine qaai hJ (2, ?_, ?_) ?_ ?_ ?_; rotate_left 2; (with_reducible refine qaah [] hm ?_ ?_ ?_ ?_) <;> (try simp only [zT, puth, Nat.reduceEqDiff, reduceIte, Nat.reduceAdd]))) | fail)
       all_goals (try dsimp only)
       all_goals (exact ⟨by omega, h5.out⟩)
     ·replace h4 := Lib.hid h4
      repeat' (first | (with_reducible refine zA ?_) | ((with_reducible refine qaac ?_); (try rw [hP]); simp -implicitDefEqProofs [*]) | ((with_reducible refine qaak ?_); (try simp -implicitDefEqProofs [*])) | ((with_reducible refine qaaa rfl (fun h => ?_) (fun h => ?_)) <;> have h' := h <;> (try simp at h') <;> (try subst h')) | (with_reducible first | refine za ?_ ?_ | refine zb ?_ ?_ ?_ ?_) | (with_reducible first | exact qaab | exact qaad) | ((with_reducible first | refine zga ?_ | refine zgb ?_); rfl) | ((with_reducible first | refine zgd ?_ | refine zge ?_); (first | omega | (simp; done))) | (exact Co.refl _) | (exact CoL.refl _) | ((refine qaai hJo (i + 1, ?_, ?_) ?_ ?_ ?_; rotate_left 2; (with_reducible refine qaah [] hm ?_ ?_ ?_ ?_) <;> (try simp only [zT, puth, Nat.reduceEqDiff, reduceIte, Nat.reduceAdd]))) | fail)
      all_goals (try dsimp only)
      all_goals (refine ⟨by omega, ?_⟩; rw [h2.out]; congr 1; rw [h4.out]; exact qaci _ rfl)
    rw [if_neg kn3] at hA
    have k3 : (x.kind == 3) = false := by simpa using kn3
    by_cases kn4 : x.kind = 4
    ·have k4 : (x.kind == 4) = true := by simpa using kn4
     rw [if_pos kn4, qac1 _ _ _ _ _ _ (by decide)] at hA
     have hI := hA
     clear kn1 kn2 kn3 kn4 hA
     replace hI := Lib.hid hI
     repeat' (first | (with_reducible first | refine zA ?_ | refine qaae ?_) | ((with_reducible refine qaac ?_); (try rw [hP]); simp -implicitDefEqProofs [qacl, qabp, *]) | ((with_reducible refine qaaf ?_); (try simp -implicitDefEqProofs [qacl, qabp, *])) | ((with_reducible refine qaaa rfl (fun h => ?_) (fun h => ?_)) <;> have h' := h <;> (try simp at h') <;> (try subst h')) | ((refine qabv (qah1 p _ _ _ _ _ _ (by simp)) ⟨rfl, trivial⟩ ⟨rfl, trivial⟩ ?_); simp -implicitDefEqProofs [qacl, qabp, *]) | fail)
     refine qaal (qaa5 (fun s (y : Nat × Int × Int) => s.turn [(136, .int .i64 y.1)] [(0, .cells 261 (jc p y.2.1 y.2.2))]) (fun y => y.1 ≤ 2 ∧ A = orF (y.2.1, y.2.2) (qadp p i ([x.yes, x.no].drop y.1), 6000 + (i : Int))) (fun y => 2 - y.1) (0, _, _) ?_ ⟨by simp, hI.out⟩ ?_)
     ·repeat' (first | ((with_reducible refine qaah [] hm ?_ ?_ ?_ ?_) <;> (try simp only [zT, puth, Nat.reduceEqDiff, reduceIte, Nat.reduceAdd])) | (with_reducible first | refine za ?_ ?_ | refine zb ?_ ?_ ?_ ?_ | refine zd ?_ ?_ ?_ ?_) | (with_reducible first | exact qaab | exact qaad) | ((with_reducible first | refine zga ?_ | refine zgb ?_); rfl) | ((with_reducible refine zgd ?_); (first | omega | (simp; done))) | (exact Co.refl _) | (exact CoL.refl _) | (exact CoLL.refl _) | fail)
     rintro J hJ ⟨k, e1, g1⟩ ⟨h3, h4⟩
     unfold qadc
     simp only [zT, puth, Nat.reduceEqDiff, reduceIte, Nat.reduceAdd] at h3 h4 ⊢
     have hk : k = 0 ∨ k = 1 ∨ k = 2 := by omega
     rcases hk with rfl | rfl | rfl
     ·have h5 := h4.trans (qafj p i x.yes e1 g1 (qadp p i [x.no]) (6000 + (i : Int)))
      clear h4
      cases kd : decide (x.yes < 0) <;> simp only [kd, Bool.true_or, Bool.false_or] at h5 <;> replace h5 := Lib.hid h5
      all_goals
       repeat' (first | (with_reducible first | refine zA ?_ | refine qaae ?_) | ((with_reducible refine qaac ?_); (try rw [hP]); simp -implicitDefEqProofs [*]) | ((with_reducible refine qaaf ?_); (try simp -implicitDefEqProofs [*])) | ((with_reducible refine qaaa rfl (fun h => ?_) (fun h => ?_)) <;> have h' := h <;> (try simp at h') <;> (try subst h')) | (refine qabv (qabd p _ _ _ _ _ _ _ (by simp)) ⟨rfl, trivial⟩ ⟨rfl, trivial⟩ ?_; simp -implicitDefEqProofs [*]) | (with_reducible first | refine za ?_ ?_ | refine zb ?_ ?_ ?_ ?_ | refine zd ?_ ?_ ?_ ?_) | (with_reducible first | exact qaab | exact qaad) | ((with_reducible first | refine zga ?_ | refine zgb ?_); rfl) | ((with_reducible first | refine zgd ?_ | refine zge ?_); (first | omega | (simp; done))) | (exact Co.refl _) | (exact CoL.refl _) | (exact CoLL.refl _) | ((refine qaai hJ (1, ?_, ?_) ?_ ?_ ?_; rotate_left 2; (with_reducible refine qaah [] hm ?_ ?_ ?_ ?_) <;> (try simp only [zT, puth, Nat.reduceEqDiff, reduceIte, Nat.reduceAdd]))) | fail)
       all_goals (try dsimp only)
       all_goals (exact ⟨by omega, h5.out⟩)
     ·have h5 := h4.trans (qafj p i x.no e1 g1 (qadp p i []) (6000 + (i : Int)))
      clear h4
      cases kd : decide (x.no < 0) <;> simp only [kd, Bool.true_or, Bool.false_or] at h5 <;> replace h5 := Lib.hid h5
      all_goals
       repeat' (first | (with_reducible first | refine zA ?_ | refine qaae ?_) | ((with_reducible refine qaac ?_); (try rw [hP]); simp -implicitDefEqProofs [*]) | ((with_reducible refine qaaf ?_); (try simp -implicitDefEqProofs [*])) | ((with_reducible refine qaaa rfl (fun h => ?_) (fun h => ?_)) <;> have h' := h <;> (try simp at h') <;> (try subst h')) | (refine qabv (qabd p _ _ _ _ _ _ _ (by simp)) ⟨rfl, trivial⟩ ⟨rfl, trivial⟩ ?_; simp -implicitDefEqProofs [*]) | (with_reducible first | refine za ?_ ?_ | refine zb ?_ ?_ ?_ ?_ | refine zd ?_ ?_ ?_ ?_) | (with_reducible first | exact qaab | exact qaad) | ((with_reducible first | refine zga ?_ | refine zgb ?_); rfl) | ((with_reducible first | refine zgd ?_ | refine zge ?_); (first | omega | (simp; done))) | (exact Co.refl _) | (exact CoL.refl _) | (exact CoLL.refl _) | ((refine qaai hJ (2, ?_, ?_) ?_ ?_ ?_; rotate_left 2; (with_reducible refine qaah [] hm ?_ ?_ ?_ ?_) <;> (try simp only [zT, puth, Nat.reduceEqDiff, reduceIte, Nat.reduceAdd]))) | fail)
       all_goals (try dsimp only)
       all_goals (exact ⟨by omega, h5.out⟩)
     ·replace h4 := Lib.hid h4
      repeat' (first | (with_reducible refine zA ?_) | ((with_reducible refine qaac ?_); (try rw [hP]); simp -implicitDefEqProofs [*]) | ((with_reducible refine qaak ?_); (try simp -implicitDefEqProofs [*])) | ((with_reducible refine qaaa rfl (fun h => ?_) (fun h => ?_)) <;> have h' := h <;> (try simp at h') <;> (try subst h')) | (with_reducible first | refine za ?_ ?_ | refine zb ?_ ?_ ?_ ?_) | (with_reducible first | exact qaab | exact qaad) | ((with_reducible first | refine zga ?_ | refine zgb ?_); rfl) | ((with_reducible first | refine zgd ?_ | refine zge ?_); (first | omega | (simp; done))) | (exact Co.refl _) | (exact CoL.refl _) | ((refine qaai hJo (i + 1, ?_, ?_) ?_ ?_ ?_; rotate_left 2; (with_reducible refine qaah [] hm ?_ ?_ ?_ ?_) <;> (try simp only [zT, puth, Nat.reduceEqDiff, reduceIte, Nat.reduceAdd]))) | fail)
      all_goals (try dsimp only)
      all_goals (refine ⟨by omega, ?_⟩; rw [h2.out]; congr 1; rw [h4.out]; exact qaci _ rfl)
    ·have k4 : (x.kind == 4) = false := by simpa using kn4
     rw [if_neg kn4] at hA
     have hI : A = orF (5, 6000 + (i : Int)) (qadp p i ([x.yes, x.no].drop 0), 6000 + (i : Int)) := hA
     clear kn1 kn2 kn3 kn4 hA
     replace hI := Lib.hid hI
     repeat' (first | (with_reducible first | refine zA ?_ | refine qaae ?_) | ((with_reducible refine qaac ?_); (try rw [hP]); simp -implicitDefEqProofs [qacl, qabp, *]) | ((with_reducible refine qaaf ?_); (try simp -implicitDefEqProofs [qacl, qabp, *])) | ((with_reducible refine qaaa rfl (fun h => ?_) (fun h => ?_)) <;> have h' := h <;> (try simp at h') <;> (try subst h')) | (refine qabv (qabd p _ _ _ _ _ _ _ (by simp)) ⟨rfl, trivial⟩ ⟨rfl, trivial⟩ ?_; simp -implicitDefEqProofs [qacl, qabp, *]) | fail)
     refine qaal (qaa5 (fun s (y : Nat × Int × Int) => s.turn [(136, .int .i64 y.1)] [(0, .cells 261 (jc p y.2.1 y.2.2))]) (fun y => y.1 ≤ 2 ∧ A = orF (y.2.1, y.2.2) (qadp p i ([x.yes, x.no].drop y.1), 6000 + (i : Int))) (fun y => 2 - y.1) (0, _, _) ?_ ⟨by simp, hI.out⟩ ?_)
     ·repeat' (first | ((with_reducible refine qaah [] hm ?_ ?_ ?_ ?_) <;> (try simp only [zT, puth, Nat.reduceEqDiff, reduceIte, Nat.reduceAdd])) | (with_reducible first | refine za ?_ ?_ | refine zb ?_ ?_ ?_ ?_ | refine zd ?_ ?_ ?_ ?_) | (with_reducible first | exact qaab | exact qaad) | ((with_reducible first | refine zga ?_ | refine zgb ?_); rfl) | ((with_reducible refine zgd ?_); (first | omega | (simp; done))) | (exact Co.refl _) | (exact CoL.refl _) | (exact CoLL.refl _) | fail)
     rintro J hJ ⟨k, e1, g1⟩ ⟨h3, h4⟩
     unfold qadc
     simp only [zT, puth, Nat.reduceEqDiff, reduceIte, Nat.reduceAdd] at h3 h4 ⊢
     have hk : k = 0 ∨ k = 1 ∨ k = 2 := by omega
     rcases hk with rfl | rfl | rfl
     ·have h5 := h4.trans (qafj p i x.yes e1 g1 (qadp p i [x.no]) (6000 + (i : Int)))
      clear h4
      cases kd : decide (x.yes < 0) <;> simp only [kd, Bool.true_or, Bool.false_or] at h5 <;> replace h5 := Lib.hid h5
      all_goals
       repeat' (first | (with_reducible first | refine zA ?_ | refine qaae ?_) | ((with_reducible refine qaac ?_); (try rw [hP]); simp -implicitDefEqProofs [*]) | ((with_reducible refine qaaf ?_); (try simp -implicitDefEqProofs [*])) | ((with_reducible refine qaaa rfl (fun h => ?_) (fun h => ?_)) <;> have h' := h <;> (try simp at h') <;> (try subst h')) | (refine qabv (qabd p _ _ _ _ _ _ _ (by simp)) ⟨rfl, trivial⟩ ⟨rfl, trivial⟩ ?_; simp -implicitDefEqProofs [*]) | (with_reducible first | refine za ?_ ?_ | refine zb ?_ ?_ ?_ ?_ | refine zd ?_ ?_ ?_ ?_) | (with_reducible first | exact qaab | exact qaad) | ((with_reducible first | refine zga ?_ | refine zgb ?_); rfl) | ((with_reducible first | refine zgd ?_ | refine zge ?_); (first | omega | (simp; done))) | (exact Co.refl _) | (exact CoL.refl _) | (exact CoLL.refl _) | ((refine qaai hJ (1, ?_, ?_) ?_ ?_ ?_; rotate_left 2; (with_reducible refine qaah [] hm ?_ ?_ ?_ ?_) <;> (try simp only [zT, puth, Nat.reduceEqDiff, reduceIte, Nat.reduceAdd]))) | fail)
       all_goals (try dsimp only)
       all_goals (exact ⟨by omega, h5.out⟩)
     ·have h5 := h4.trans (qafj p i x.no e1 g1 (qadp p i []) (6000 + (i : Int)))
      clear h4
      cases kd : decide (x.no < 0) <;> simp only [kd, Bool.true_or, Bool.false_or] at h5 <;> replace h5 := Lib.hid h5
      all_goals
       repeat' (first | (with_reducible first | refine zA ?_ | refine qaae ?_) | ((with_reducible refine qaac ?_); (try rw [hP]); simp -implicitDefEqProofs [*]) | ((with_reducible refine qaaf ?_); (try simp -implicitDefEqProofs [*])) | ((with_reducible refine qaaa rfl (fun h => ?_) (fun h => ?_)) <;> have h' := h <;> (try simp at h') <;> (try subst h')) | (refine qabv (qabd p _ _ _ _ _ _ _ (by simp)) ⟨rfl, trivial⟩ ⟨rfl, trivial⟩ ?_; simp -implicitDefEqProofs [*]) | (with_reducible first | refine za ?_ ?_ | refine zb ?_ ?_ ?_ ?_ | refine zd ?_ ?_ ?_ ?_) | (with_reducible first | exact qaab | exact qaad) | ((with_reducible first | refine zga ?_ | refine zgb ?_); rfl) | ((with_reducible first | refine zgd ?_ | refine zge ?_); (first | omega | (simp; done))) | (exact Co.refl _) | (exact CoL.refl _) | (exact CoLL.refl _) | ((refine qaai hJ (2, ?_, ?_) ?_ ?_ ?_; rotate_left 2; (with_reducible refine qaah [] hm ?_ ?_ ?_ ?_) <;> (try simp only [zT, puth, Nat.reduceEqDiff, reduceIte, Nat.reduceAdd]))) | fail)
       all_goals (try dsimp only)
       all_goals (exact ⟨by omega, h5.out⟩)
     ·replace h4 := Lib.hid h4
      repeat' (first | (with_reducible refine zA ?_) | ((with_reducible refine qaac ?_); (try rw [hP]); simp -implicitDefEqProofs [*]) | ((with_reducible refine qaak ?_); (try simp -implicitDefEqProofs [*])) | ((with_reducible refine qaaa rfl (fun h => ?_) (fun h => ?_)) <;> have h' := h <;> (try simp at h') <;> (try subst h')) | (with_reducible first | refine za ?_ ?_ | refine zb ?_ ?_ ?_ ?_) | (with_reducible first | exact qaab | exact qaad) | ((with_reducible first | refine zga ?_ | refine zgb ?_); rfl) | ((with_reducible first | refine zgd ?_ | refine zge ?_); (first | omega | (simp; done))) | (exact Co.refl _) | (exact CoL.refl _) | ((refine qaai hJo (i + 1, ?_, ?_) ?_ ?_ ?_; rotate_left 2; (with_reducible refine qaah [] hm ?_ ?_ ?_ ?_) <;> (try simp only [zT, puth, Nat.reduceEqDiff, reduceIte, Nat.reduceAdd]))) | fail)
      all_goals (try dsimp only)
      all_goals (refine ⟨by omega, ?_⟩; rw [h2.out]; congr 1; rw [h4.out]; exact qaci _ rfl)
  ·have ke : (e == 0) = false := by simpa using he
   replace h2 := Lib.hid h2
   repeat' (first | (with_reducible refine zA ?_) | ((with_reducible refine qaac ?_); (try rw [hP]); simp -implicitDefEqProofs [*]) | ((with_reducible refine qaak ?_); (try simp -implicitDefEqProofs [*])) | ((with_reducible refine qaaa rfl (fun h => ?_) (fun h => ?_)) <;> have h' := h <;> (try simp at h') <;> (try subst h')) | (refine qact hm rfl ?_ (fun σ => rfl)) | fail)
   rw [h2.out, qaf8 he]
 ·obtain rfl : i = p.nodes.length := by omega
  rw [List.drop_length] at h2
  replace h2 := Lib.hid h2
  repeat' (first | (with_reducible refine zA ?_) | ((with_reducible refine qaac ?_); (try rw [hP]); simp -implicitDefEqProofs [*]) | ((with_reducible refine qaak ?_); (try simp -implicitDefEqProofs [*])) | ((with_reducible refine qaaa rfl (fun h => ?_) (fun h => ?_)) <;> have h' := h <;> (try simp at h') <;> (try subst h')) | (refine qact hm rfl ?_ (fun σ => rfl)) | fail)
  rw [h2.out, qaci _ rfl]
end Go.Proofs.YteoijlmgiemffaaGreat
namespace Go.Proofs.YteoijlmgiemffaaGreat
set_option linter.all false
open Go.RowKit
abbrev qba7 : List SOper := [Oa 1 (.box 64 (.t 0)), Oa 2 (.mv (.c (.int .i64 0))), Oa 3 (.alloc 37 [(.int .i64 0), (.int .i64 0)])]
abbrev qba6 : List SOper := [Oa 7 (.faddr 0 (.t 1)), Oa 8 (.load (.t 7)), Oa 9 (.len false (.t 8)), Oa 10 (.bin .eql (.t 9) (.c (.int .i64 0))), Oa 11 (.mv (.t 10)), Oe 12 (.faddr 0 (.t 1)) 11 false, Oe 13 (.load (.t 12)) 11 false, Oe 14 (.len false (.t 13)) 11 false, Oe 15 (.bin .gtr (.t 14) (.c (.int .i64 8))) 11 false, Oa 16 (.pick (.t 11) (.c (.bool true)) (.t 15))]
abbrev qba5 : List SOper := [Oa 17 (.build [(.int .i64 0), (.int .i64 0)] [(0, 1, (.c (.int .i64 2))), (1, 1, (.c (.int .i64 (-1))))]), Oa 2 (.mv (.c (.int .i64 0))), Ob (.store 2 (.t 3) (.t 17))]
abbrev qba4 : List SOper := [Oa 4 (.mv (.c (.int .i64 0)))]
abbrev qba3 : List SOper := [Oa 18 (.faddr 0 (.t 1)), Oa 19 (.load (.t 18)), Oa 20 (.len false (.t 19)), Oa 21 (.mv (.c (.int .i64 0)))]
abbrev qba2 : List SOper := [Oa 22 (.bin .lss (.t 21) (.t 20))]
abbrev qba1 : List SOper := [Oa 23 (.mv (.t 21)), Oa 24 (.iaddr 1 (.t 19) (.t 21)), Oa 25 (.load (.t 24)), Oa 5 (.mv (.t 23)), Oa 6 (.mv (.t 25))]
abbrev qba0 : List SOper := [Oa 26 (.mv (.t 6)), Oa 27 (.bin .lss (.t 26) (.c (.int .i64 1))), Oa 28 (.mv (.t 27)), Oe 29 (.mv (.t 6)) 28 false, Oe 30 (.bin .gtr (.t 29) (.c (.int .i64 48))) 28 false, Oa 31 (.pick (.t 28) (.c (.bool true)) (.t 30))]
abbrev qbaz : List SOper := [Oa 32 (.mv (.t 5)), Oa 33 (.build [(.int .i64 0), (.int .i64 0)] [(0, 1, (.c (.int .i64 6))), (1, 1, (.t 32))]), Oa 2 (.mv (.c (.int .i64 0))), Ob (.store 2 (.t 3) (.t 33))]
abbrev qa1m : List SOper := [Oa 34 (.mv (.t 4)), Oa 35 (.mv (.t 6)), Oa 36 (.bin .add (.t 34) (.t 35)), Oa 4 (.mv (.t 36))]
abbrev qa1l : List SOper := [Oa 37 (.bin .add (.t 21) (.c (.int .i64 1))), Oa 21 (.mv (.t 37))]
def qamb : SCode := (.seq (.reg false qba2 [3, 4, 19, 20, 21, 22]) (.seq (.cond (.t 22) .skip (.exit 0)) (.seq (.block 1 (.seq (.reg false qba1 [3, 4, 5, 6, 19, 20, 21]) (.seq (.seq (.reg false qba0 [3, 4, 5, 6, 19, 20, 21, 31]) (.cond (.t 31) (.seq (.reg false qbaz [2, 3]) .ret) .skip)) (.reg false qa1m [3, 4, 19, 20, 21])))) (.reg false qa1l [3, 4, 19, 20, 21]))))
abbrev qa1k : List SOper := [Oa 38 (.mv (.t 4)), Oa 39 (.bin .rem (.t 38) (.c (.int .i64 8))), Oa 40 (.bin .neq (.t 39) (.c (.int .i64 0))), Oa 41 (.mv (.t 40)), Oe 42 (.mv (.t 4)) 41 false, Oe 43 (.bin .gtr (.t 42) (.c (.int .i64 256))) 41 false, Oa 44 (.pick (.t 41) (.c (.bool true)) (.t 43))]
abbrev qa1j : List SOper := [Oa 45 (.build [(.int .i64 0), (.int .i64 0)] [(0, 1, (.c (.int .i64 6))), (1, 1, (.c (.int .i64 (-1))))]), Oa 2 (.mv (.c (.int .i64 0))), Ob (.store 2 (.t 3) (.t 45))]
abbrev qa1i : List SOper := [Oa 46 (.mv (.t 4)), Oa 47 (.bin .quo (.t 46) (.c (.int .i64 8))), Oa 48 (.build [(.int .i64 0), (.int .i64 0)] []), Oa 2 (.mv (.t 47)), Ob (.store 2 (.t 3) (.t 48))]
def c_psize : SCode := (.seq (.reg false qba7 [1, 3]) (.seq (.seq (.reg false qba6 [1, 3, 16]) (.cond (.t 16) (.seq (.reg false qba5 [2, 3]) .ret) .skip)) (.seq (.reg false qba4 [1, 3, 4]) (.seq (.seq (.reg false qba3 [3, 4, 19, 20, 21]) (.block 0 (.loop qamb))) (.seq (.seq (.reg false qa1k [3, 4, 44]) (.cond (.t 44) (.seq (.reg false qa1j [2, 3]) .ret) .skip)) (.seq (.reg false qa1i [2, 3]) .ret))))))
theorem qaoo : comp Tryz.prog 49 ((Tryz.f68.body).getD .skip) = some c_psize.erase := by kernel_rfl
abbrev qa8o : List SOper := [Oa 1 (.box 64 (.t 0)), Oa 2 (.mv (.c (.int .i64 0))), Oa 3 (.alloc 37 [(.int .i64 0), (.int .i64 0)])]
abbrev qa8n : List SOper := [Oa 6 (.faddr 0 (.t 1)), Oa 7 (.load (.t 6)), Oa 8 (.len false (.t 7)), Oa 9 (.bin .lss (.t 8) (.c (.int .i64 1))), Oa 10 (.mv (.t 9)), Oe 11 (.faddr 0 (.t 1)) 10 false, Oe 12 (.load (.t 11)) 10 false, Oe 13 (.len false (.t 12)) 10 false, Oe 14 (.bin .gtr (.t 13) (.c (.int .i64 8))) 10 false, Oa 15 (.pick (.t 10) (.c (.bool true)) (.t 14))]
abbrev qa8m : List SOper := [Oc 16 24 [(.c (.int .i64 2)), (.c (.int .i64 (-1)))], Oa 2 (.mv (.c (.int .i64 0))), Ob (.store 2 (.t 3) (.t 16))]
abbrev qa8l : List SOper := [Oa 4 (.mv (.c (.int .i64 0)))]
abbrev qa8k : List SOper := [Oa 5 (.mv (.c (.int .i64 0)))]
abbrev qa8j : List SOper := [Oa 17 (.mv (.t 5)), Oa 18 (.faddr 0 (.t 1)), Oa 19 (.load (.t 18)), Oa 20 (.len false (.t 19)), Oa 21 (.bin .lss (.t 17) (.t 20))]
abbrev qa8i : List SOper := [Oa 24 (.faddr 0 (.t 1)), Oa 25 (.load (.t 24)), Oa 26 (.mv (.t 5)), Oa 27 (.iaddr 1 (.t 25) (.t 26)), Oa 28 (.load (.t 27)), Oa 29 (.bin .lss (.t 28) (.c (.int .i64 1))), Oa 30 (.mv (.t 29)), Oe 31 (.faddr 0 (.t 1)) 30 false, Oe 32 (.load (.t 31)) 30 false, Oe 33 (.mv (.t 5)) 30 false, Oe 34 (.iaddr 1 (.t 32) (.t 33)) 30 false, Oe 35 (.load (.t 34)) 30 false, Oe 36 (.bin .gtr (.t 35) (.c (.int .i64 48))) 30 false, Oa 37 (.pick (.t 30) (.c (.bool true)) (.t 36))]
abbrev qa8h : List SOper := [Oa 38 (.mv (.t 5)), Oc 39 24 [(.c (.int .i64 6)), (.t 38)], Oa 2 (.mv (.c (.int .i64 0))), Ob (.store 2 (.t 3) (.t 39))]
abbrev qa8g : List SOper := [Oa 40 (.mv (.t 4)), Oa 41 (.faddr 0 (.t 1)), Oa 42 (.load (.t 41)), Oa 43 (.mv (.t 5)), Oa 44 (.iaddr 1 (.t 42) (.t 43)), Oa 45 (.load (.t 44)), Oa 46 (.bin .add (.t 40) (.t 45)), Oa 4 (.mv (.t 46))]
abbrev qaxw : List SOper := [Oa 22 (.mv (.t 5)), Oa 23 (.bin .add (.t 22) (.c (.int .i64 1))), Oa 5 (.mv (.t 23))]
def qalt : SCode := (.seq (.seq (.reg false qa8j [1, 3, 4, 5, 21]) (.cond (.t 21) .skip (.exit 0))) (.seq (.block 1 (.seq (.seq (.reg false qa8i [1, 3, 4, 5, 37]) (.cond (.t 37) (.seq (.reg false qa8h [2, 3]) .ret) .skip)) (.reg false qa8g [1, 3, 4, 5]))) (.reg false qaxw [1, 3, 4, 5])))
abbrev qaxv : List SOper := [Oa 47 (.mv (.t 4)), Oa 48 (.bin .rem (.t 47) (.c (.int .i64 8))), Oa 49 (.bin .neq (.t 48) (.c (.int .i64 0))), Oa 50 (.mv (.t 49)), Oe 51 (.mv (.t 4)) 50 false, Oe 52 (.bin .gtr (.t 51) (.c (.int .i64 256))) 50 false, Oa 53 (.pick (.t 50) (.c (.bool true)) (.t 52))]
abbrev qaxu : List SOper := [Oc 54 24 [(.c (.int .i64 6)), (.c (.int .i64 (-1)))], Oa 2 (.mv (.c (.int .i64 0))), Ob (.store 2 (.t 3) (.t 54))]
abbrev qaxt : List SOper := [Oa 55 (.mv (.t 4)), Oa 56 (.bin .quo (.t 55) (.c (.int .i64 8))), Oa 57 (.build [(.int .i64 0), (.int .i64 0)] []), Oa 2 (.mv (.t 56)), Ob (.store 2 (.t 3) (.t 57))]
def c_rsize : SCode := (.seq (.reg false qa8o [1, 3]) (.seq (.seq (.reg false qa8n [1, 3, 15]) (.cond (.t 15) (.seq (.reg false qa8m [2, 3]) .ret) .skip)) (.seq (.reg false qa8l [1, 3, 4]) (.seq (.seq (.reg false qa8k [1, 3, 4, 5]) (.block 0 (.loop qalt))) (.seq (.seq (.reg false qaxv [3, 4, 53]) (.cond (.t 53) (.seq (.reg false qaxu [2, 3]) .ret) .skip)) (.seq (.reg false qaxt [2, 3]) .ret))))))
theorem qaod : comp Tryz.prog 58 ((Tryz.f100.body).getD .skip) = some c_rsize.erase := by kernel_rfl
abbrev c_rF_r1 : List SOper := [Oa 4 (.alloc 37 [(.int .i64 0), (.int .i64 0)])]
abbrev c_rF_r2 : List SOper := [Oa 5 (.mv (.t 0)), Oa 6 (.mv (.t 1)), Oa 7 (.build [(.int .i64 0), (.int .i64 0)] [(0, 1, (.t 5)), (1, 1, (.t 6))]), Ob (.store 2 (.t 4) (.t 7))]
def c_rF : SCode := (.seq (.reg false c_rF_r1 [0, 1, 4]) (.seq (.reg false c_rF_r2 [4]) .ret))
theorem qbfj : comp Tryz.prog 8 ((Tryz.f24.body).getD .skip) = some c_rF.erase := by kernel_rfl
end Go.Proofs.YteoijlmgiemffaaGreat
namespace Go.Proofs.YteoijlmgiemffaaGreat
set_option linter.all false
open Go.RowKit
attribute [local simp] qabi qabh qaax qaa7 qaay qaa6 qabf qabg qaar qabr SOp.run SX.ev putd puts argS upds SOp.touch SSt.keep SSt.skip gets geth puth delh idOf SV.cells? setL qadh qadi sbin eq0 eq1 eqL qadf qab9 qaca qaap qabk qaag qabl qabs qaaj qaaq FrzOk qaba qaa1 qaa8 qaa9 qaat qaa0 qabm qaa2 qaav qabb qaau frzS frzH frz frz1 frz0 SlotsM ObjsM ObjM rn ren ren1 ren0 qabu qab7 qacf qabt qabn qacg qace CoL qabc qab3 dels adds idsH qabz
attribute [local simp] nums
theorem qabe : qaig Tryz.prog 37 = some true := by kernel_rfl
theorem qaa4 : qacb Tryz.prog 37 = some 2 := by kernel_rfl
theorem qaky {X : Cx} {sl : Sl} {hp : Hp} {t u nx id n : Nat} {ty : TypeId} {cs ds : List SV} {v v' r : SV} (hm : X.m = 0) (hne : t ≠ u) (hv : gets sl t = v') (hvv : v' = v) (hN : NoN v) (hu : gets sl u = .ptr id 0) (h : geth hp id = some (.cells ty cs)) (ha : qaig X.P ty = some true) (hn : qacb X.P ty = some n) (hl : ds.length = n) (e : CoL cs ds) (hr : r = .tup [v, .agg ds]) (hd : ∀ σ, ds.map (Go.Proofs.YteoijlmgiemffaaGreat.ren σ) = ds) : QFun X [.tmp t, .cell u ty] 0 r [] .ret ⟨sl, hp, nx⟩ := by
 subst hr hl hvv
 have hw : Wk X ⟨sl, hp, nx⟩ ⟨[(t, v'), (u, .ptr 0 0)], [(0, .cells ty ds)], 1⟩ := by
  refine qaah [(0, id)] hm ⟨?_, ?_, trivial⟩ ⟨⟨_, h, rfl, by rw [hd]; exact e⟩, trivial⟩ rfl (by simp)
  ·rw [hv, hN]; exact Co.refl _
  ·rw [hu]; exact Co.refl _
 refine ⟨_, hw, ?_, trivial, by simp⟩
 simp [qakm, resL, resV, one_, gets, ha, hn, SOp.run, SX.ev, geth, hne]
theorem qag9 {X : Cx} {sl : Sl} {hp : Hp} {u nx id n : Nat} {ty : TypeId} {cs ds : List SV} {r : SV} (hm : X.m = 0) (hu : gets sl u = .ptr id 0) (h : geth hp id = some (.cells ty cs)) (ha : qaig X.P ty = some true) (hn : qacb X.P ty = some n) (hl : ds.length = n) (e : CoL cs ds) (hr : r = .agg ds) (hd : ∀ σ, ds.map (Go.Proofs.YteoijlmgiemffaaGreat.ren σ) = ds) : QFun X [.cell u ty] 0 r [] .ret ⟨sl, hp, nx⟩ := by
 subst hr hl
 have hw : Wk X ⟨sl, hp, nx⟩ ⟨[(u, .ptr 0 0)], [(0, .cells ty ds)], 1⟩ := by
  refine qaah [(0, id)] hm ⟨?_, trivial⟩ ⟨⟨_, h, rfl, by rw [hd]; exact e⟩, trivial⟩ rfl (by simp)
  rw [hu]; exact Co.refl _
 refine ⟨_, hw, ?_, trivial, by simp⟩
 simp [qakm, resL, resV, one_, gets, ha, hn, SOp.run, SX.ev, geth]
theorem rF_s (c a : Int) (q : Nat) : SCalls Tryz.prog 24 [.int .i64 c, .int .i64 a] [] q (.agg [.int .i64 c, .int .i64 a]) [] := by
 refine qabj ?_ (fun _ => rfl) (fun _ => rfl) rfl q
 refine qaas (N := 8) Tryz.func24 rfl rfl (by kernel_rfl) qbfj (by simp) (by repeat' (first | exact trivial | refine And.intro ?_ ?_ | rfl | decide | exact PureR.ren _)) (by repeat' (first | exact trivial | refine And.intro ?_ ?_ | rfl | decide | exact PureR.ren _)) ?_
 rintro X hP hN hm
 unfold c_rF
 repeat' (first | (with_reducible refine zA ?_) | ((with_reducible refine qaac ?_); (try rw [hP]); simp -implicitDefEqProofs [*]) | ((with_reducible refine qaam ?_); (try simp only [qaap, qaag, qaaj])) | (refine qag9 hm rfl rfl (by rw [hP]; exact qabe) (by rw [hP]; exact qaa4) rfl (CoL.refl _) rfl (fun σ => rfl)) | fail)
def qanf (ws : List Int) : SV := .tup [.int .i64 (qasm ws), .agg [.int .i64 (qail ws), .int .i64 (qbd9 ws)]]
theorem qasl {ws : List Int} (h : ws.length = 0 ∨ 8 < ws.length) : qanf ws = .tup [.int .i64 0, .agg [.int .i64 2, .int .i64 (-1)]] := by
 have h1 : qail ws = 2 := by unfold qail; rw [if_pos h]
 have h2 : qbd9 ws = -1 := by unfold qbd9; rw [if_pos h]
 have h3 : qasm ws = 0 := by unfold qasm; rw [h1]; rfl
 unfold qanf; rw [h1, h2, h3]
theorem qa41 {ws : List Int} (h : ¬ (ws.length = 0 ∨ 8 < ws.length)) {i : Nat} (ha : ∀ j, j < i → wBad ws j = false) (hi : i < ws.length) (hb : wBad ws i = true) : qanf ws = .tup [.int .i64 0, .agg [.int .i64 6, .int .i64 i]] := by
 have e := qbff (wBad ws) ws.length i ha hb hi
 have h1 : qail ws = 6 := by unfold qail; rw [if_neg h, e, if_pos hi]
 have h2 : qbd9 ws = i := by unfold qbd9; rw [if_neg h, e, if_pos hi]
 have h3 : qasm ws = 0 := by unfold qasm; rw [h1]; rfl
 unfold qanf; rw [h1, h2, h3]
theorem qa40 {ws : List Int} (h : ¬ (ws.length = 0 ∨ 8 < ws.length)) (ha : ∀ j, j < ws.length → wBad ws j = false) : qanf ws = if qad1 ws ws.length % 8 ≠ 0 ∨ 256 < qad1 ws ws.length then .tup [.int .i64 0, .agg [.int .i64 6, .int .i64 (-1)]] else .tup [.int .i64 (qad1 ws ws.length / 8), .agg [.int .i64 0, .int .i64 0]] := by
 have e := qaub (wBad ws) ws.length ha
 have hc : qail ws = if qad1 ws ws.length % 8 ≠ 0 ∨ 256 < qad1 ws ws.length then 6 else 0 := by unfold qail; rw [if_neg h, e, if_neg (by omega)]
 have hA : qbd9 ws = if qad1 ws ws.length % 8 ≠ 0 ∨ 256 < qad1 ws ws.length then -1 else 0 := by unfold qbd9; rw [if_neg h, e, if_neg (by omega)]
 unfold qanf qasm
 by_cases h1 : qad1 ws ws.length % 8 ≠ 0 ∨ 256 < qad1 ws ws.length
 ·rw [if_pos h1] at hc hA ⊢; rw [hc, hA]; rfl
 ·rw [if_neg h1] at hc hA ⊢; rw [hc, hA]; rfl
theorem qahb {ws : List Int} (h : ¬ (ws.length = 0 ∨ 8 < ws.length)) {i : Nat} (ha : ∀ j, j < i → wBad ws j = false) (hi : i ≤ ws.length) : 0 ≤ qad1 ws i ∧ qad1 ws i ≤ 1000 := by
 have := wSum ha; omega
theorem qbhr (ws : List Int) (q : Nat) : SCalls Tryz.prog 68 [.agg [nums .i64 ws]] [] q (qanf ws) [] := by
 refine qabj ?_ (fun _ => rfl) (fun _ => rfl) rfl q
 refine qaas (N := 49) Tryz.func68 rfl rfl (by kernel_rfl) qaoo (by simp) (by repeat' (first | exact trivial | refine And.intro ?_ ?_ | rfl | decide | exact PureR.ren _)) (by repeat' (first | exact trivial | refine And.intro ?_ ?_ | rfl | decide | exact PureR.ren _)) ?_
 rintro X hP hN hm
 unfold c_psize
 by_cases hh : ws.length = 0 ∨ 8 < ws.length
 ·rw [qasl hh]
  have k0 : ((ws.length : Int) == 0) = decide (ws.length = 0) := by rw [Bool.eq_iff_iff]; simp
  cases k1 : decide (ws.length = 0) <;> rw [k1] at k0
  ·have k2 : decide (8 < (ws.length : Int)) = true := by have := of_decide_eq_false k1; rw [decide_eq_true_eq]; omega
   replace hh := Lib.hid hh
   clear k1
   repeat' (first | (with_reducible refine zA ?_) | ((with_reducible refine qaac ?_); (try rw [hP]); simp -implicitDefEqProofs [*]) | ((with_reducible refine qaam ?_); (try simp only [qaap, qaag, qaaj])) | ((with_reducible refine qaaa rfl (fun h => ?_) (fun h => ?_)) <;> have h' := h <;> (try simp at h') <;> (try subst h')) | (refine qaky hm (by decide) rfl rfl (qafk _ _) rfl rfl (by rw [hP]; exact qabe) (by rw [hP]; exact qaa4) rfl (CoL.refl _) rfl (fun σ => rfl)) | fail)
  ·replace hh := Lib.hid hh
   clear k1
   repeat' (first | (with_reducible refine zA ?_) | ((with_reducible refine qaac ?_); (try rw [hP]); simp -implicitDefEqProofs [*]) | ((with_reducible refine qaam ?_); (try simp only [qaap, qaag, qaaj])) | ((with_reducible refine qaaa rfl (fun h => ?_) (fun h => ?_)) <;> have h' := h <;> (try simp at h') <;> (try subst h')) | (refine qaky hm (by decide) rfl rfl (qafk _ _) rfl rfl (by rw [hP]; exact qabe) (by rw [hP]; exact qaa4) rfl (CoL.refl _) rfl (fun σ => rfl)) | fail)
 have k0 : ((ws.length : Int) == 0) = false := by rw [beq_eq_false_iff_ne]; omega
 have k1 : decide (8 < (ws.length : Int)) = false := by rw [decide_eq_false_iff_not]; omega
 have hl : ws.length ≤ 8 := by omega
 replace hh := Lib.hid hh
 generalize hF : qanf ws = F
 repeat' (first | (with_reducible refine zA ?_) | ((with_reducible refine qaac ?_); (try rw [hP]); simp -implicitDefEqProofs [*]) | ((with_reducible refine qaaf ?_); (try simp -implicitDefEqProofs [*])) | ((with_reducible refine qaaa rfl (fun h => ?_) (fun h => ?_)) <;> have h' := h <;> (try simp at h') <;> (try subst h')) | fail)
 refine qaal (qaa5 (fun s (i : Nat) => s.turn [(4, .int .i64 (qad1 ws i)), (21, .int .i64 i)] []) (fun i => i ≤ ws.length ∧ ∀ j, j < i → wBad ws j = false) (fun i => ws.length - i) 0 ?_ ⟨by simp, by simp⟩ ?_)
 ·repeat' (first | ((with_reducible refine qaah [] hm ?_ ?_ ?_ ?_) <;> (try simp only [zT, puth, Nat.reduceEqDiff, reduceIte, Nat.reduceAdd])) | (with_reducible first | refine za ?_ ?_ | refine zb ?_ ?_ ?_ ?_) | (with_reducible first | exact qaab | exact qaad) | ((with_reducible first | refine zga ?_ | refine zgb ?_); rfl) | ((with_reducible refine zgd ?_); (first | omega | (simp; done))) | (exact Co.refl _) | (exact CoL.refl _) | fail)
 rintro J hJ i ⟨h1, h2⟩
 have hsum := qahb hh.out h2 h1
 unfold qamb
 simp only [zT, puth, Nat.reduceEqDiff, reduceIte, Nat.reduceAdd] at h1 h2 ⊢
 rcases Nat.lt_or_ge i ws.length with hi | hi
 ·have wi : IntKind.i64.wrap ((i : Int) + 1) = (i : Int) + 1 := qaao (by omega) (by omega)
  have hx : el ws i = ws[i] := by unfold el; simp [hi]
  have hb : wBad ws i = (decide (ws[i] < 1) || decide (48 < ws[i])) := by unfold wBad; rw [hx, Bool.eq_iff_iff]; simp
  have hn : qad1 ws (i + 1) = qad1 ws i + ws[i] := by rw [← hx]; rfl
  generalize hxx : ws[i] = x at hb hn hx
  cases hbb : wBad ws i
  ·rw [hbb] at hb
   have hb' := Bool.or_eq_false_iff.1 hb.symm
   obtain ⟨v1, v2⟩ := hb'
   have hall : ∀ j, j < i + 1 → wBad ws j = false := fun j hj => by
    rcases Nat.lt_or_ge j i with q | q
    ·exact h2 j q
    ·obtain rfl : j = i := by omega
     exact hbb
   have hsx := qahb hh.out hall hi
   rw [hn] at hsx
   have ws1 : IntKind.i64.wrap (qad1 ws i + x) = qad1 ws (i + 1) := by rw [hn]; exact qaao (by omega) (by omega)
   replace hall := Lib.hid hall
   replace h2 := Lib.hid h2
   clear hb hbb hx hn
   repeat' (first | (with_reducible first | refine zA ?_ | refine qaae ?_) | ((with_reducible refine qaac ?_); (try rw [hP]); simp -implicitDefEqProofs [*]) | ((with_reducible refine qaaf ?_); (try simp -implicitDefEqProofs [*])) | ((with_reducible refine qaaa rfl (fun h => ?_) (fun h => ?_)) <;> have h' := h <;> (try simp at h') <;> (try subst h')) | (with_reducible first | refine za ?_ ?_ | refine zb ?_ ?_ ?_ ?_) | (with_reducible first | exact qaab | exact qaad) | ((with_reducible first | refine zga ?_ | refine zgb ?_); rfl) | ((with_reducible first | refine zgd ?_ | refine zge ?_); (first | omega | (simp; done))) | (exact Co.refl _) | (exact CoL.refl _) | ((refine qaai hJ (i + 1) ?_ ?_ ?_; (with_reducible refine qaah [] hm ?_ ?_ ?_ ?_) <;> (try simp only [zT, puth, Nat.reduceEqDiff, reduceIte, Nat.reduceAdd]))) | fail)
   exact ⟨by omega, hall.out⟩
  ·have hbad := qa41 hh.out h2 hi hbb
   rw [hF] at hbad
   rw [hbb] at hb
   replace hb := Lib.hid hb
   replace h2 := Lib.hid h2
   replace hbad := Lib.hid hbad
   clear hbb hx hn
   repeat' (first | (with_reducible first | refine zA ?_ | refine qaae ?_) | ((with_reducible refine qaac ?_); (try rw [hP]); simp -implicitDefEqProofs [*]) | ((with_reducible refine qaaf ?_); (try simp -implicitDefEqProofs [*])) | ((with_reducible refine qaam ?_); (try simp only [qaap, qaag, qaaj])) | ((with_reducible refine qaaa rfl (fun h => ?_) (fun h => ?_)) <;> have h' := h <;> (try simp at h') <;> (try subst h')) | ((with_reducible refine qaan (fun h => ?_) (fun h => ?_)) <;> have h' := h <;> (try simp at h') <;> (try subst h') <;> simp -implicitDefEqProofs [*]) | (refine qaky hm (by decide) rfl rfl (qafk _ _) rfl rfl (by rw [hP]; exact qabe) (by rw [hP]; exact qaa4) rfl (CoL.refl _) hbad.out (fun σ => rfl)) | fail)
   all_goals (exfalso; have := hb.out; simp_all; omega)
 ·obtain rfl : i = ws.length := by omega
  have hend := qa40 hh.out h2
  rw [hF] at hend
  have t1 : (qad1 ws ws.length).tmod 8 = qad1 ws ws.length % 8 := Int.tmod_eq_emod_of_nonneg hsum.1
  have t2 : (qad1 ws ws.length).tdiv 8 = qad1 ws ws.length / 8 := Int.tdiv_eq_ediv_of_nonneg hsum.1
  generalize qad1 ws ws.length = S at hend t1 t2 hsum
  have t3 : IntKind.i64.wrap (S % 8) = S % 8 := IntWalk.i64_in _ ⟨by omega, by omega⟩
  have t4 : IntKind.i64.wrap (S / 8) = S / 8 := IntWalk.i64_in _ ⟨by omega, by omega⟩
  replace h2 := Lib.hid h2
  replace hend := Lib.hid hend
  cases k3 : (S % 8 != 0) <;> cases k4 : decide (256 < S)
  all_goals
   repeat' (first | (with_reducible refine zA ?_) | ((with_reducible refine qaac ?_); (try rw [hP]); simp -implicitDefEqProofs [*]) | ((with_reducible first | refine qaaf ?_ | refine qaak ?_); (try simp -implicitDefEqProofs [*])) | ((with_reducible refine qaam ?_); (try simp only [qaap, qaag, qaaj])) | ((with_reducible refine qaaa rfl (fun h => ?_) (fun h => ?_)) <;> have h' := h <;> (try simp at h') <;> (try subst h')) | (refine qaky hm (by decide) rfl rfl (qafk _ _) rfl rfl (by rw [hP]; exact qabe) (by rw [hP]; exact qaa4) rfl (CoL.refl _) ?_ (fun σ => rfl)) | fail)
   rw [hend.out]
   simp at k3 k4
   simp [*]
   try omega
theorem qbhj (ws : List Int) (q : Nat) : SCalls Tryz.prog 100 [.agg [nums .i64 ws]] [] q (qanf ws) [] := by
 refine qabj ?_ (fun _ => rfl) (fun _ => rfl) rfl q
 refine qaas (N := 58) Tryz.func100 rfl rfl (by kernel_rfl) qaod (by simp) (by repeat' (first | exact trivial | refine And.intro ?_ ?_ | rfl | decide | exact PureR.ren _)) (by repeat' (first | exact trivial | refine And.intro ?_ ?_ | rfl | decide | exact PureR.ren _)) ?_
 rintro X hP hN hm
 unfold c_rsize
 by_cases hh : ws.length = 0 ∨ 8 < ws.length
 ·rw [qasl hh]
  have k0 : decide ((ws.length : Int) < 1) = decide (ws.length = 0) := decide_eq_decide.2 (by omega)
  cases k1 : decide (ws.length = 0) <;> rw [k1] at k0
  ·have k2 : decide (8 < (ws.length : Int)) = true := by have := of_decide_eq_false k1; rw [decide_eq_true_eq]; omega
   replace hh := Lib.hid hh
   clear k1
   repeat' (first | (with_reducible refine zA ?_) | ((with_reducible refine qaac ?_); (try rw [hP]); simp -implicitDefEqProofs [*]) | ((with_reducible refine qaam ?_); (try simp only [qaap, qaag, qaaj])) | ((with_reducible refine qaaa rfl (fun h => ?_) (fun h => ?_)) <;> have h' := h <;> (try simp at h') <;> (try subst h')) | (refine qaaw (rF_s _ _ _) ?_; simp -implicitDefEqProofs [*]) | (refine qaky hm (by decide) rfl rfl (qafk _ _) rfl rfl (by rw [hP]; exact qabe) (by rw [hP]; exact qaa4) rfl (CoL.refl _) rfl (fun σ => rfl)) | fail)
  ·replace hh := Lib.hid hh
   clear k1
   repeat' (first | (with_reducible refine zA ?_) | ((with_reducible refine qaac ?_); (try rw [hP]); simp -implicitDefEqProofs [*]) | ((with_reducible refine qaam ?_); (try simp only [qaap, qaag, qaaj])) | ((with_reducible refine qaaa rfl (fun h => ?_) (fun h => ?_)) <;> have h' := h <;> (try simp at h') <;> (try subst h')) | (refine qaaw (rF_s _ _ _) ?_; simp -implicitDefEqProofs [*]) | (refine qaky hm (by decide) rfl rfl (qafk _ _) rfl rfl (by rw [hP]; exact qabe) (by rw [hP]; exact qaa4) rfl (CoL.refl _) rfl (fun σ => rfl)) | fail)
 have k0 : decide ((ws.length : Int) < 1) = false := by rw [decide_eq_false_iff_not]; omega
 have k1 : decide (8 < (ws.length : Int)) = false := by rw [decide_eq_false_iff_not]; omega
 have hl : ws.length ≤ 8 := by omega
 replace hh := Lib.hid hh
 generalize hF : qanf ws = F
 repeat' (first | (with_reducible refine zA ?_) | ((with_reducible refine qaac ?_); (try rw [hP]); simp -implicitDefEqProofs [*]) | ((with_reducible refine qaaf ?_); (try simp -implicitDefEqProofs [*])) | ((with_reducible refine qaaa rfl (fun h => ?_) (fun h => ?_)) <;> have h' := h <;> (try simp at h') <;> (try subst h')) | fail)
 refine qaal (qaa5 (fun s (i : Nat) => s.turn [(4, .int .i64 (qad1 ws i)), (5, .int .i64 i)] []) (fun i => i ≤ ws.length ∧ ∀ j, j < i → wBad ws j = false) (fun i => ws.length - i) 0 ?_ ⟨by simp, by simp⟩ ?_)
 ·repeat' (first | ((with_reducible refine qaah [] hm ?_ ?_ ?_ ?_) <;> (try simp only [zT, puth, Nat.reduceEqDiff, reduceIte, Nat.reduceAdd])) | (with_reducible first | refine za ?_ ?_ | refine zb ?_ ?_ ?_ ?_) | (with_reducible first | exact qaab | exact qaad) | ((with_reducible first | refine zga ?_ | refine zgb ?_); rfl) | ((with_reducible refine zgd ?_); (first | omega | (simp; done))) | (exact Co.refl _) | (exact CoL.refl _) | fail)
 rintro J hJ i ⟨h1, h2⟩
 have hsum := qahb hh.out h2 h1
 unfold qalt
 simp only [zT, puth, Nat.reduceEqDiff, reduceIte, Nat.reduceAdd] at h1 h2 ⊢
 rcases Nat.lt_or_ge i ws.length with hi | hi
 ·have wi : IntKind.i64.wrap ((i : Int) + 1) = (i : Int) + 1 := qaao (by omega) (by omega)
  have hx : el ws i = ws[i] := by unfold el; simp [hi]
  have hb : wBad ws i = (decide (ws[i] < 1) || decide (48 < ws[i])) := by unfold wBad; rw [hx, Bool.eq_iff_iff]; simp
  have hn : qad1 ws (i + 1) = qad1 ws i + ws[i] := by rw [← hx]; rfl
  generalize hxx : ws[i] = x at hb hn hx
  cases hbb : wBad ws i
  ·rw [hbb] at hb
   have hb' := Bool.or_eq_false_iff.1 hb.symm
   obtain ⟨v1, v2⟩ := hb'
   have hall : ∀ j, j < i + 1 → wBad ws j = false := fun j hj => by
    rcases Nat.lt_or_ge j i with q | q
    ·exact h2 j q
    ·obtain rfl : j = i := by omega
     exact hbb
   have hsx := qahb hh.out hall hi
   rw [hn] at hsx
   have ws1 : IntKind.i64.wrap (qad1 ws i + x) = qad1 ws (i + 1) := by rw [hn]; exact qaao (by omega) (by omega)
   replace hall := Lib.hid hall
   replace h2 := Lib.hid h2
   clear hb hbb hx hn
   repeat' (first | (with_reducible first | refine zA ?_ | refine qaae ?_) | ((with_reducible refine qaac ?_); (try rw [hP]); simp -implicitDefEqProofs [*]) | ((with_reducible refine qaaf ?_); (try simp -implicitDefEqProofs [*])) | ((with_reducible refine qaaa rfl (fun h => ?_) (fun h => ?_)) <;> have h' := h <;> (try simp at h') <;> (try subst h')) | (with_reducible first | refine za ?_ ?_ | refine zb ?_ ?_ ?_ ?_) | (with_reducible first | exact qaab | exact qaad) | ((with_reducible first | refine zga ?_ | refine zgb ?_); rfl) | ((with_reducible first | refine zgd ?_ | refine zge ?_); (first | omega | (simp; done))) | (exact Co.refl _) | (exact CoL.refl _) | ((refine qaai hJ (i + 1) ?_ ?_ ?_; (with_reducible refine qaah [] hm ?_ ?_ ?_ ?_) <;> (try simp only [zT, puth, Nat.reduceEqDiff, reduceIte, Nat.reduceAdd]))) | fail)
   exact ⟨by omega, hall.out⟩
  ·have hbad := qa41 hh.out h2 hi hbb
   rw [hF] at hbad
   rw [hbb] at hb
   replace hb := Lib.hid hb
   replace h2 := Lib.hid h2
   replace hbad := Lib.hid hbad
   clear hbb hx hn
   repeat' (first | (with_reducible first | refine zA ?_ | refine qaae ?_) | ((with_reducible refine qaac ?_); (try rw [hP]); simp -implicitDefEqProofs [*]) | ((with_reducible refine qaaf ?_); (try simp -implicitDefEqProofs [*])) | ((with_reducible refine qaam ?_); (try simp only [qaap, qaag, qaaj])) | ((with_reducible refine qaaa rfl (fun h => ?_) (fun h => ?_)) <;> have h' := h <;> (try simp at h') <;> (try subst h')) | ((with_reducible refine qaan (fun h => ?_) (fun h => ?_)) <;> have h' := h <;> (try simp at h') <;> (try subst h') <;> simp -implicitDefEqProofs [*]) | (refine qaaw (rF_s _ _ _) ?_; simp -implicitDefEqProofs [*]) | (refine qaky hm (by decide) rfl rfl (qafk _ _) rfl rfl (by rw [hP]; exact qabe) (by rw [hP]; exact qaa4) rfl (CoL.refl _) hbad.out (fun σ => rfl)) | fail)
   all_goals (exfalso; have := hb.out; simp_all; omega)
 ·obtain rfl : i = ws.length := by omega
  have hend := qa40 hh.out h2
  rw [hF] at hend
  have t1 : (qad1 ws ws.length).tmod 8 = qad1 ws ws.length % 8 := Int.tmod_eq_emod_of_nonneg hsum.1
  have t2 : (qad1 ws ws.length).tdiv 8 = qad1 ws ws.length / 8 := Int.tdiv_eq_ediv_of_nonneg hsum.1
  generalize qad1 ws ws.length = S at hend t1 t2 hsum
  have t3 : IntKind.i64.wrap (S % 8) = S % 8 := IntWalk.i64_in _ ⟨by omega, by omega⟩
  have t4 : IntKind.i64.wrap (S / 8) = S / 8 := IntWalk.i64_in _ ⟨by omega, by omega⟩
  replace h2 := Lib.hid h2
  replace hend := Lib.hid hend
  cases k3 : (S % 8 != 0) <;> cases k4 : decide (256 < S)
  all_goals
   repeat' (first | (with_reducible refine zA ?_) | ((with_reducible refine qaac ?_); (try rw [hP]); simp -implicitDefEqProofs [*]) | ((with_reducible first | refine qaaf ?_ | refine qaak ?_); (try simp -implicitDefEqProofs [*])) | ((with_reducible refine qaam ?_); (try simp only [qaap, qaag, qaaj])) | ((with_reducible refine qaaa rfl (fun h => ?_) (fun h => ?_)) <;> have h' := h <;> (try simp at h') <;> (try subst h')) | (refine qaaw (rF_s _ _ _) ?_; simp -implicitDefEqProofs [*]) | (refine qaky hm (by decide) rfl rfl (qafk _ _) rfl rfl (by rw [hP]; exact qabe) (by rw [hP]; exact qaa4) rfl (CoL.refl _) ?_ (fun σ => rfl)) | fail)
   rw [hend.out]
   simp at k3 k4
   simp [*]
   try omega
end Go.Proofs.YteoijlmgiemffaaGreat
namespace Go.Proofs.YteoijlmgiemffaaGreat
set_option linter.all false
open Go.RowKit
attribute [local simp] qabi qabh qaax qaa7 qaay qaa6 qabf qabg qaar qabr SOp.run SX.ev putd puts argS upds SOp.touch SSt.keep SSt.skip gets geth puth delh idOf SV.cells? setL qadh qadi sbin eq0 eq1 eqL qadf qab9 qaca qaap qabk qaag qabl qabs qaaj qaaq FrzOk qaba qaa1 qaa8 qaa9 qaat qaa0 qabm qaa2 qaav qabb qaau frzS frzH frz frz1 frz0 SlotsM ObjsM ObjM rn ren ren1 ren0 qabu qab7 qacf qabt qabn qacg qace CoL qabc qab3 dels adds idsH qabz
attribute [local simp] qadt refc qaes qaei qab8 opc actc tabc qaea qacm nums jc
theorem qach {f g : Int × Int} (h : (orF f g).1 = 0) : f.1 = 0 ∧ g.1 = 0 := by
 unfold orF at h
 by_cases h1 : f.1 = 0
 ·by_cases h2 : g.1 = 0
  ·exact ⟨h1, h2⟩
  ·simp [h1, h2] at h
 ·simp [h1] at h
theorem qae2 {α : Type} {f : α → Int} {b : Int} : ∀ {l : List α} {i : Nat}, (rowF (fun _ x => f x) b i l).1 = 0 → ∀ x ∈ l, f x = 0
 | [], _, _, x, hx => by cases hx
 | y :: l, i, h, x, hx => by
  unfold rowF at h
  by_cases h1 : f y = 0
  ·rw [if_neg (by simpa using h1)] at h
   rcases List.mem_cons.1 hx with e | e
   ·rw [e]; exact h1
   ·exact qae2 h x e
  ·rw [if_pos h1] at h; exact absurd h h1
theorem qaf5 {α : Type} {f : Nat → α → Int} {b : Int} : ∀ {l : List α} {i : Nat}, (rowF f b i l).1 = 0 → rowF f b i l = (0, 0)
 | [], _, _ => rfl
 | y :: l, i, h => by
  unfold rowF at h ⊢
  by_cases h1 : f i y ≠ 0
  ·rw [if_pos h1] at h; exact absurd h h1
  ·rw [if_neg h1] at h ⊢; exact qaf5 h
theorem qbi6 {f g : Int × Int} (h : (orF f g).1 = 0) : orF f g = f := by
 obtain ⟨h1, h2⟩ := qach h
 unfold orF; simp [h1, h2]
theorem qbeu {f g : Int × Int} (h : f.1 = 0 → f = (0, 0)) : orF (0, 0) (orF f g) = orF f g := by
 unfold orF
 by_cases h1 : f.1 = 0
 ·by_cases h2 : g.1 = 0 <;> simp [h1, h2, h h1]
 ·simp [h1]
theorem qat9 {p : PlanD} (h : (qagm p).1 = 0) : qagm p = (0, 0) := by
 unfold qagm at h ⊢
 rw [qbi6 h]
 have := (qach h).1
 unfold qasz at this ⊢
 by_cases hc : decide (6 < p.heads.length) = true
 ·rw [if_pos hc] at this; exact absurd this (by decide)
 ·rw [if_neg hc]
theorem qais (p : PlanD) : orF (0, 0) (qafh p) = qafh p := by
 unfold qafh; exact qbeu qat9
theorem el_in {l : List Int} {k : Nat} (h : k < l.length) : el l k ∈ l := by
 unfold el; simp [h]
theorem pick_in {l : List Int} {f : Int} (h : qa4k l f ≠ 0) : qa4k l f ∈ l := by
 unfold qa4k at h ⊢
 by_cases h1 : f < 0 ∨ (l.length : Int) ≤ f
 ·rw [if_pos h1] at h; exact absurd rfl h
 ·rw [if_neg h1] at h ⊢; exact el_in (by omega)
theorem qbh4 {p : PlanD} (h : (qagm p).1 = 0) : ∀ x ∈ p.heads, qail x.w = 0 := fun x hx => qae2 (qach h).2 x hx
theorem qbig {l : List Int} (h : ∀ x ∈ l, 1 ≤ x ∧ x ≤ 48) (f : Int) : 0 ≤ qa4k l f ∧ qa4k l f ≤ 48 := by
 by_cases h0 : qa4k l f = 0
 ·omega
 ·have := h _ (pick_in h0); omega
theorem qbim {ws : List Int} (h : qail ws = 0) : ∀ x ∈ ws, 1 ≤ x ∧ x ≤ 48 := fun x hx => by
 obtain ⟨i, hi, rfl⟩ := List.getElem_of_mem hx
 have := wOk ((qask h).2.2.1 i hi)
 have e : el ws i = ws[i] := by unfold el; simp [hi]
 rw [e] at this; exact this
theorem qbhe {l : List Int} (h : ∀ x ∈ l, wOut x = false) : ∀ x ∈ l, 1 ≤ x ∧ x ≤ 48 := fun x hx => by
 have := h x hx
 unfold wOut at this; rw [Bool.or_eq_false_iff, decide_eq_false_iff_not, decide_eq_false_iff_not] at this; omega
theorem pw_of {p : PlanD} (h1 : (qagm p).1 = 0) (h2 : (qa4l p).1 = 0) : PW p := fun r => by
 have hm : ∀ x ∈ p.meta_, 1 ≤ x ∧ x ≤ 48 := qbhe fun x hx => by
  have := qae2 (qach h2).2 x hx
  cases e : wOut x
  ·rfl
  ·rw [e] at this; exact absurd this (by decide)
 unfold qabw
 refine qbig ?_ _
 unfold qanm
 split
 ·simp
 split
 ·exact hm
 split
 ·simp
 split
 ·rename_i hh
  unfold headW
  rw [List.getElem?_eq_getElem (by omega : r.h.toNat < p.heads.length)]
  exact qbim (qbh4 h1 _ (List.getElem_mem _))
 ·simp
theorem aw_of {p : PlanD} (h : (qaie p).1 = 0) : AW p.acts := fun a ha w hw => by
 have := qae2 (qach h).2 a ha
 unfold actF at this
 by_cases h1 : 3 < a.w.length ∨ 5 < a.ops.length
 ·rw [if_pos h1] at this; exact absurd this (by decide)
 ·rw [if_neg h1] at this
  by_cases h2 : a.w.any wOut = true
  ·rw [if_pos h2] at this; exact absurd this (by decide)
  ·have h3 : ∀ x ∈ a.w, wOut x = false := fun x hx => by
    cases e : wOut x
    ·rfl
    ·exact absurd (List.any_eq_true.2 ⟨x, hx, e⟩) h2
   have := qbhe h3 w hw; omega
theorem qa5n (a b c at_ : Int) : orF (a, b) (c, at_) = qab0 a b (c != 0) c at_ := by
 rw [← qakj]; unfold qad6
 congr 1; rw [Bool.eq_iff_iff]; simp
theorem qao4 (p : PlanD) (hp : PW p) (hs : SmallP p) (hk : qaha p) (a b : Int) (id q : Nat) (h : id < q) : SCalls Tryz.prog 156 [.ptr id 0] [(id, .cells 261 (jc p a b))] q (.tup []) [(id, .cells 261 (jc p (orF (a, b) (qadj p)).1 (orF (a, b) (qadj p)).2))] :=
 qac9 (qbfb p hp hs hk a b) (fun _ => rfl) (fun _ => rfl) (fun _ => rfl) rfl (fun _ => rfl) rfl id q h
theorem qa6s (p : PlanD) (hp : PW p) (hs : SmallP p) (a b : Int) (id q : Nat) (h : id < q) : SCalls Tryz.prog 157 [.ptr id 0] [(id, .cells 261 (jc p a b))] q (.tup []) [(id, .cells 261 (jc p (orF (a, b) (qaie p)).1 (orF (a, b) (qaie p)).2))] :=
 qac9 (jacts_s p hp hs a b) (fun _ => rfl) (fun _ => rfl) (fun _ => rfl) rfl (fun _ => rfl) rfl id q h
theorem qa6r (p : PlanD) (hs : SmallP p) (a b : Int) (ha : a = 0 → AW p.acts) (id q : Nat) (h : id < q) : SCalls Tryz.prog 158 [.ptr id 0] [(id, .cells 261 (jc p a b))] q (.tup []) [(id, .cells 261 (jc p (orF (a, b) (qag7 p)).1 (orF (a, b) (qag7 p)).2))] :=
 qac9 (jtabs_s p hs a b ha) (fun _ => rfl) (fun _ => rfl) (fun _ => rfl) rfl (fun _ => rfl) rfl id q h
theorem qaus (p : PlanD) (hs : SmallP p) (a b : Int) (id q : Nat) (h : id < q) : SCalls Tryz.prog 159 [.ptr id 0] [(id, .cells 261 (jc p a b))] q (.tup []) [(id, .cells 261 (jc p (orF (a, b) (qadm p)).1 (orF (a, b) (qadm p)).2))] :=
 qac9 (qbjr p hs a b) (fun _ => rfl) (fun _ => rfl) (fun _ => rfl) rfl (fun _ => rfl) rfl id q h
def qajg : SCode := (.seq (.reg false qajh [1, 2, 3]) (.seq (.seq (.reg false qaia [1, 2, 3, 59, 60, 61]) (.block 2 (.loop qagy))) (.seq (.seq (.reg false qah9 [1, 2, 3, 82]) (.cond (.t 82) (.seq (.reg false qah8 [2]) .ret) .skip)) (.seq (.reg false qafz [1, 2, 3]) (.seq (.reg false qafy [1, 2, 3]) (.seq (.reg false qafx [1, 2, 3]) (.seq (.reg false qafw [1, 2, 3]) (.seq (.reg false qafv [1, 2, 3]) (.seq (.seq (.reg false qafu [1, 2, 3, 9]) (.block 4 (.loop qafc))) (.seq (.reg false qaer [2]) .ret))))))))))
def qajf : SCode := (.seq (.reg false qafz [1, 2, 3]) (.seq (.reg false qafy [1, 2, 3]) (.seq (.reg false qafx [1, 2, 3]) (.seq (.reg false qafw [1, 2, 3]) (.seq (.reg false qafv [1, 2, 3]) (.seq (.seq (.reg false qafu [1, 2, 3, 9]) (.block 4 (.loop qafc))) (.seq (.reg false qaer [2]) .ret)))))))
def qaje : SCode := (.seq (.reg false qaer [2]) .ret)
set_option maxHeartbeats 8000000 in
theorem qbi4 (p : PlanD) (hs : SmallP p) (hk : qaha p) (q : Nat) : SCalls Tryz.prog 138 [.agg (qacm p)] [] q (.agg [.int .i64 (qafh p).1, .int .i64 (qafh p).2]) [] := by
 refine qabj ?_ (fun _ => rfl) (fun _ => rfl) rfl q
 refine qaas (N := 143) Tryz.func138 rfl rfl (by kernel_rfl) qalg (by simp) (by repeat' (first | exact trivial | refine And.intro ?_ ?_ | rfl | decide | exact PureR.ren _)) (by repeat' (first | exact trivial | refine And.intro ?_ ?_ | rfl | decide | exact PureR.ren _)) ?_
 rintro X hP hN hm
 rw [← qais]
 have hF1 : orF (0, 0) (qagm p) = orF (qab0 0 0 (decide (6 < (p.heads.length : Int))) 2 (-1)) (rowF (fun _ h => qail h.w) 1000 0 p.heads) := by
  unfold qagm; rw [qaep]; congr 3; exact propext (by omega)
 have hF0 : orF (0, 0) (qafh p) = orF (orF (orF (0, 0) (qagm p)) (qa4l p)) (orF (qadj p) (orF (qaie p) (orF (qag7 p) (orF (qadm p) (qagj p))))) := by
  unfold qafh; simp only [qado]
 have hPW : (orF (orF (0, 0) (qagm p)) (qa4l p)).1 = 0 → PW p := fun h => pw_of (qach (qach h).1).2 (qach h).2
 generalize orF (0, 0) (qafh p) = F at hF0
 obtain ⟨⟨e1, g1⟩, hE1⟩ : ∃ z, orF (0, 0) (qagm p) = z := ⟨_, rfl⟩
 rw [hE1] at hF0 hPW hF1
 have hF2 : orF (e1, g1) (qa4l p) = orF (qab0 e1 g1 (decide (4 < (p.meta_.length : Int))) 2 (-2)) (rowF (fun _ w => if wOut w then 6 else 0) 2000 0 p.meta_) := by
  unfold qa4l; rw [qaep]; congr 3; exact propext (by omega)
 obtain ⟨⟨e2, g2⟩, hE2⟩ : ∃ z, orF (e1, g1) (qa4l p) = z := ⟨_, rfl⟩
 rw [hE2] at hF0 hPW hF2
 have hl1 := hs.heads
 have hl2 := hs.metas
 have hl3 := hs.outs
 clear hE1 hE2
 replace hF0 := Lib.hid hF0
 replace hPW := Lib.hid hPW
 replace hF1 := Lib.hid hF1
 replace hF2 := Lib.hid hF2
 have rest4 : ∀ e g, (e, g) = F → SWp X qaje (QFun X [ResultVar.cell 2 37] 0 (.agg [.int .i64 F.1, .int .i64 F.2]) []) ⟨[(1, .ptr 0 0), (2, .ptr 1 0), (3, .ptr 4 0)], [(0, .cells 33 (qacm p)), (1, .cells 37 [.int .i64 0, .int .i64 0]), (4, .cells 261 (jc p e g))], 5⟩ := fun e g he => by
  unfold qaje
  repeat' (first | (with_reducible refine zA ?_) | ((with_reducible refine qaac ?_); (try rw [hP]); simp -implicitDefEqProofs [*]) | ((with_reducible refine qaam ?_); (try simp only [qaap, qaag, qaaj])) | (refine qag9 hm rfl rfl (by rw [hP]; exact qabe) (by rw [hP]; exact qaa4) rfl (CoL.refl _) (by rw [← he]) (fun σ => rfl)) | fail)
 have rest3 : e2 = 0 → SWp X qajf (QFun X [ResultVar.cell 2 37] 0 (.agg [.int .i64 F.1, .int .i64 F.2]) []) ⟨[(1, .ptr 0 0), (2, .ptr 1 0), (3, .ptr 4 0)], [(0, .cells 33 (qacm p)), (1, .cells 37 [.int .i64 0, .int .i64 0]), (4, .cells 261 (jc p e2 g2))], 5⟩ := fun he => by
  have hpw := hPW.out he
  subst he
  have hF := hF0.out
  obtain ⟨⟨e3, g3⟩, hE3⟩ : ∃ z, orF (0, g2) (qadj p) = z := ⟨_, rfl⟩
  obtain ⟨⟨e4, g4⟩, hE4⟩ : ∃ z, orF (e3, g3) (qaie p) = z := ⟨_, rfl⟩
  obtain ⟨⟨e5, g5⟩, hE5⟩ : ∃ z, orF (e4, g4) (qag7 p) = z := ⟨_, rfl⟩
  obtain ⟨⟨e6, g6⟩, hE6⟩ : ∃ z, orF (e5, g5) (qadm p) = z := ⟨_, rfl⟩
  have c3 := fun id q h => qao4 p hpw hs hk 0 g2 id q h
  have c4 := fun id q h => qa6s p hpw hs e3 g3 id q h
  have c5 := fun id q h => qa6r p hs e4 g4 (fun hz => aw_of (qach (f := (e3, g3)) (by rw [hE4]; exact hz)).2) id q h
  have c6 := fun id q h => qaus p hs e5 g5 id q h
  rw [hE3] at c3
  rw [hE4] at c4
  rw [hE5] at c5
  rw [hE6] at c6
  rw [← qado, hE3, ← qado, hE4, ← qado, hE5, ← qado, hE6] at hF
  have hF7 : orF (e6, g6) (qagj p) = orF (qab0 e6 g6 (decide (6 < (p.out.length : Int))) 2 (-7)) (rowF (fun i o => outF p i o) 7000 0 p.out) := by
   unfold qagj; rw [qaep]; congr 3; exact propext (by omega)
  rw [hF7] at hF
  clear hE3 hE4 hE5 hE6 hF7
  replace hF := Lib.hid hF
  replace hpw := Lib.hid hpw
  replace rest4 := Lib.hid rest4
  replace c3 := Lib.hid c3
  replace c4 := Lib.hid c4
  replace c5 := Lib.hid c5
  replace c6 := Lib.hid c6
  unfold qajf
  repeat' (first | (with_reducible refine zA ?_) | ((with_reducible refine qaac ?_); (try rw [hP]); simp -implicitDefEqProofs [*]) | ((first | refine qabv (qabd p _ _ _ _ _ _ _ (by simp)) ⟨rfl, trivial⟩ ⟨rfl, trivial⟩ ?_ | refine qabv (c3.out _ _ (by simp)) ⟨rfl, trivial⟩ ⟨rfl, trivial⟩ ?_ | refine qabv (c4.out _ _ (by simp)) ⟨rfl, trivial⟩ ⟨rfl, trivial⟩ ?_ | refine qabv (c5.out _ _ (by simp)) ⟨rfl, trivial⟩ ⟨rfl, trivial⟩ ?_ | refine qabv (c6.out _ _ (by simp)) ⟨rfl, trivial⟩ ⟨rfl, trivial⟩ ?_); simp -implicitDefEqProofs [*]) | fail)
  refine qaal (qaa5 (fun s (x : Nat × Int × Int) => s.turn [(9, .int .i64 x.1)] [(4, .cells 261 (jc p x.2.1 x.2.2))]) (fun x => x.1 ≤ p.out.length ∧ F = orF (x.2.1, x.2.2) (rowF (fun i o => outF p i o) 7000 x.1 (p.out.drop x.1))) (fun x => p.out.length - x.1) (0, _, _) ?_ ⟨by simp, hF.out⟩ ?_)
  ·repeat' (first | ((with_reducible refine qaah [] hm ?_ ?_ ?_ ?_) <;> (try simp only [zT, puth, Nat.reduceEqDiff, reduceIte, Nat.reduceAdd])) | (with_reducible first | refine za ?_ ?_ | refine zb ?_ ?_ ?_ ?_) | (with_reducible first | exact qaab | exact qaad) | ((with_reducible first | refine zga ?_ | refine zgb ?_); rfl) | ((with_reducible refine zgd ?_); (first | omega | (simp; done))) | (exact Co.refl _) | (exact CoL.refl _) | fail)
  rintro J hJ ⟨i, e, g⟩ ⟨h1, h2⟩
  unfold qafc
  simp only [zT, puth, Nat.reduceEqDiff, reduceIte, Nat.reduceAdd] at h1 h2 ⊢
  rcases Nat.lt_or_ge i p.out.length with hi | hi
  ·rw [qadb _ _ hi] at h2
   have hct := fun q => qahz (p.out.take i) p.out[i] (by rw [List.length_take]; omega) q
   simp only [nums, List.map_take] at hct
   generalize hxx : p.out[i] = x at h2 hct
   by_cases he : e = 0
   ·subst he
    have hA : orF (0, g) (outF p i x, 7000 + (i : Int)) = qab0 (qab0 0 g (!qac0 p x) 1 (7000 + (i : Int))).1 (qab0 0 g (!qac0 p x) 1 (7000 + (i : Int))).2 ((p.out.take i).contains x) 7 (7000 + (i : Int)) := by
     have : outF p i x = if (!qac0 p x) = true then 1 else if (p.out.take i).contains x = true then 7 else 0 := by
      unfold outF; cases qac0 p x <;> rfl
     rw [this, qac1 _ _ _ _ _ _ (by decide)]
     refine (qac1 _ _ _ _ _ _ (by decide)).trans ?_
     exact qaci _ rfl
    rw [qaem, hA] at h2
    generalize (p.out.take i).contains x = C at h2 hct
    have wi : IntKind.i64.wrap ((i : Int) + 1) = (i : Int) + 1 := qaao (by omega) (by omega)
    have wa : IntKind.i64.wrap (7000 + (i : Int)) = 7000 + (i : Int) := qaao (by omega) (by omega)
    have hi' := Nat.le_of_lt hi
    clear hA
    replace h2 := Lib.hid h2
    replace hct := Lib.hid hct
    repeat' (first | (with_reducible first | refine zA ?_ | refine qaae ?_ | refine zK ?_) | ((with_reducible first | refine qaac ?_ | refine qaaz (by rw [hP]; exact qacz) ?_); (try rw [hP]); simp -implicitDefEqProofs [*]) | ((with_reducible refine qaaf ?_); (try simp -implicitDefEqProofs [*])) | ((with_reducible refine qaaa rfl (fun h => ?_) (fun h => ?_)) <;> have h' := h <;> (try simp at h') <;> (try subst h')) | ((first | refine qabv (qabd p _ _ _ _ _ _ _ (by simp)) ⟨rfl, trivial⟩ ⟨rfl, trivial⟩ ?_ | refine qabv (qah1 p _ _ _ _ _ _ (by simp)) ⟨rfl, trivial⟩ ⟨rfl, trivial⟩ ?_ | refine qaaw (hct.out _) ?_); simp -implicitDefEqProofs [*]) | (with_reducible first | refine za ?_ ?_ | refine zb ?_ ?_ ?_ ?_) | (with_reducible first | exact qaab | exact qaad) | ((with_reducible first | refine zga ?_ | refine zgb ?_); rfl) | ((with_reducible first | refine zgd ?_ | refine zge ?_); (first | omega | (simp; done))) | (exact Co.refl _) | (exact CoL.refl _) | ((refine qaai hJ (i + 1, ?_, ?_) ?_ ?_ ?_; rotate_left 2; (with_reducible refine qaah [] hm ?_ ?_ ?_ ?_) <;> (try simp only [zT, puth, Nat.reduceEqDiff, reduceIte, Nat.reduceAdd]))) | fail)
    all_goals (try dsimp only)
    all_goals (exact ⟨by omega, h2.out⟩)
   ·rw [qaf8 he] at h2
    have r4 := rest4.out e g h2.symm
    have ke : (e == 0) = false := by simpa using he
    replace r4 := Lib.hid r4
    clear h2
    repeat' (first | ((refine qaco ?_ r4.out)) | (with_reducible refine zA ?_) | ((with_reducible refine qaac ?_); (try rw [hP]); simp -implicitDefEqProofs [*]) | ((with_reducible refine qaak ?_); (try simp -implicitDefEqProofs [*])) | ((with_reducible refine qaaa rfl (fun h => ?_) (fun h => ?_)) <;> have h' := h <;> (try simp at h') <;> (try subst h')) | ((with_reducible refine qaah [] hm ?_ ?_ ?_ ?_) <;> (try simp only [zT, puth, Nat.reduceEqDiff, reduceIte, Nat.reduceAdd])) | (with_reducible first | refine za ?_ ?_ | refine zb ?_ ?_ ?_ ?_) | (with_reducible first | exact qaab | exact qaad) | ((with_reducible first | refine zga ?_ | refine zgb ?_); rfl) | ((with_reducible refine zgd ?_); (first | omega | (simp; done))) | (exact Co.refl _) | (exact CoL.refl _) | fail)
  ·obtain rfl : i = p.out.length := by omega
   rw [List.drop_length, qaci _ rfl] at h2
   have r4 := rest4.out e g h2.symm
   replace r4 := Lib.hid r4
   clear h2
   repeat' (first | ((refine qaco ?_ r4.out)) | (with_reducible refine zA ?_) | ((with_reducible refine qaac ?_); (try rw [hP]); simp -implicitDefEqProofs [*]) | ((with_reducible refine qaak ?_); (try simp -implicitDefEqProofs [*])) | ((with_reducible refine qaaa rfl (fun h => ?_) (fun h => ?_)) <;> have h' := h <;> (try simp at h') <;> (try subst h')) | ((with_reducible refine qaah [] hm ?_ ?_ ?_ ?_) <;> (try simp only [zT, puth, Nat.reduceEqDiff, reduceIte, Nat.reduceAdd])) | (with_reducible first | refine za ?_ ?_ | refine zb ?_ ?_ ?_ ?_) | (with_reducible first | exact qaab | exact qaad) | ((with_reducible first | refine zga ?_ | refine zgb ?_); rfl) | ((with_reducible refine zgd ?_); (first | omega | (simp; done))) | (exact Co.refl _) | (exact CoL.refl _) | fail)
 have rest1 : SWp X qajg (QFun X [ResultVar.cell 2 37] 0 (.agg [.int .i64 F.1, .int .i64 F.2]) []) ⟨[(1, .ptr 0 0), (2, .ptr 1 0), (3, .ptr 4 0)], [(0, .cells 33 (qacm p)), (1, .cells 37 [.int .i64 0, .int .i64 0]), (4, .cells 261 (jc p e1 g1))], 5⟩ := by
  unfold qajg
  replace rest4 := Lib.hid rest4
  replace rest3 := Lib.hid rest3
  repeat' (first | (with_reducible refine zA ?_) | ((with_reducible refine qaac ?_); (try rw [hP]); simp -implicitDefEqProofs [*]) | (refine qabv (qabd p _ _ _ _ _ _ _ (by simp)) ⟨rfl, trivial⟩ ⟨rfl, trivial⟩ ?_; simp -implicitDefEqProofs [*]) | fail)
  refine qaal (qaa5 (fun s (x : Nat × Int × Int) => s.turn [(61, .int .i64 x.1)] [(4, .cells 261 (jc p x.2.1 x.2.2))]) (fun x => x.1 ≤ p.meta_.length ∧ (e2, g2) = orF (x.2.1, x.2.2) (rowF (fun _ w => if wOut w then 6 else 0) 2000 x.1 (p.meta_.drop x.1))) (fun x => p.meta_.length - x.1) (0, _, _) ?_ ⟨by simp, hF2.out⟩ ?_)
  ·repeat' (first | ((with_reducible refine qaah [] hm ?_ ?_ ?_ ?_) <;> (try simp only [zT, puth, Nat.reduceEqDiff, reduceIte, Nat.reduceAdd])) | (with_reducible first | refine za ?_ ?_ | refine zb ?_ ?_ ?_ ?_) | (with_reducible first | exact qaab | exact qaad) | ((with_reducible first | refine zga ?_ | refine zgb ?_); rfl) | ((with_reducible refine zgd ?_); (first | omega | (simp; done))) | (exact Co.refl _) | (exact CoL.refl _) | fail)
  rintro J hJ ⟨i, e, g⟩ ⟨h1, h2⟩
  unfold qagy
  simp only [zT, puth, Nat.reduceEqDiff, reduceIte, Nat.reduceAdd] at h1 h2 ⊢
  rcases Nat.lt_or_ge i p.meta_.length with hi | hi
  ·rw [qadb _ _ hi] at h2
   generalize hxx : p.meta_[i] = x at h2
   rw [qaem, qa5n e g] at h2
   have wi : IntKind.i64.wrap ((i : Int) + 1) = (i : Int) + 1 := qaao (by omega) (by omega)
   have wa : IntKind.i64.wrap (2000 + (i : Int)) = 2000 + (i : Int) := qaao (by omega) (by omega)
   have hfx : ∀ b, wOut x = b → qab0 e g ((if wOut x = true then (6 : Int) else 0) != 0) (if wOut x = true then (6 : Int) else 0) (2000 + (i : Int)) = qab0 e g b 6 (2000 + (i : Int)) := fun b hb => by
    rw [hb]; cases b <;> simp [qab0]
   replace h2 := Lib.hid h2
   replace hfx := Lib.hid hfx
   repeat' (first | (with_reducible first | refine zA ?_ | refine qaae ?_) | ((with_reducible refine qaac ?_); (try rw [hP]); simp -implicitDefEqProofs [*]) | ((with_reducible refine qaaf ?_); (try simp -implicitDefEqProofs [*])) | ((with_reducible refine qaaa rfl (fun h => ?_) (fun h => ?_)) <;> have h' := h <;> (try simp at h') <;> (try subst h')) | ((with_reducible refine qaan (fun h => ?_) (fun h => ?_)) <;> have h' := h <;> (try simp at h') <;> (try subst h') <;> simp -implicitDefEqProofs [*]) | (refine qabv (qabd p _ _ _ _ _ _ _ (by simp)) ⟨rfl, trivial⟩ ⟨rfl, trivial⟩ ?_; simp -implicitDefEqProofs [*]) | (with_reducible first | refine za ?_ ?_ | refine zb ?_ ?_ ?_ ?_) | (with_reducible first | exact qaab | exact qaad) | ((with_reducible first | refine zga ?_ | refine zgb ?_); rfl) | ((with_reducible first | refine zgd ?_ | refine zge ?_); (first | omega | (simp; done))) | (exact Co.refl _) | (exact CoL.refl _) | ((refine qaai hJ (i + 1, ?_, ?_) ?_ ?_ ?_; rotate_left 2; (with_reducible refine qaah [] hm ?_ ?_ ?_ ?_) <;> (try simp only [zT, puth, Nat.reduceEqDiff, reduceIte, Nat.reduceAdd]))) | fail)
   all_goals (try dsimp only)
   all_goals (refine ⟨by omega, ?_⟩; rw [h2.out, hfx.out _ rfl]; congr 2; simp [wOut, *])
  ·obtain rfl : i = p.meta_.length := by omega
   rw [List.drop_length, qaci _ rfl] at h2
   have q1 : e = e2 := (Prod.mk.inj h2).1.symm
   have q2 : g = g2 := (Prod.mk.inj h2).2.symm
   subst q1 q2
   clear h2
   replace hF2 := Lib.hid hF2
   by_cases he : e = 0
   ·have r3 := rest3.out he
    subst he
    replace r3 := Lib.hid r3
    repeat' (first | ((refine qaco ?_ r3.out)) | (with_reducible refine zA ?_) | ((with_reducible refine qaac ?_); (try rw [hP]); simp -implicitDefEqProofs [*]) | ((with_reducible first | refine qaaf ?_ | refine qaak ?_); (try simp -implicitDefEqProofs [*])) | ((with_reducible refine qaaa rfl (fun h => ?_) (fun h => ?_)) <;> have h' := h <;> (try simp at h') <;> (try subst h')) | ((with_reducible refine qaah [] hm ?_ ?_ ?_ ?_) <;> (try simp only [zT, puth, Nat.reduceEqDiff, reduceIte, Nat.reduceAdd])) | (with_reducible first | refine za ?_ ?_ | refine zb ?_ ?_ ?_ ?_) | (with_reducible first | exact qaab | exact qaad) | ((with_reducible first | refine zga ?_ | refine zgb ?_); rfl) | ((with_reducible refine zgd ?_); (first | omega | (simp; done))) | (exact Co.refl _) | (exact CoL.refl _) | fail)
   ·have ke : (e != 0) = true := by simpa using he
    have hfin : F = (e, g) := by rw [hF0.out]; exact qaf8 he _
    replace hfin := Lib.hid hfin
    repeat' (first | (with_reducible refine zA ?_) | ((with_reducible refine qaac ?_); (try rw [hP]); simp -implicitDefEqProofs [*]) | ((with_reducible refine qaak ?_); (try simp -implicitDefEqProofs [*])) | ((with_reducible refine qaam ?_); (try simp only [qaap, qaag, qaaj])) | ((with_reducible refine qaaa rfl (fun h => ?_) (fun h => ?_)) <;> have h' := h <;> (try simp at h') <;> (try subst h')) | (refine qag9 hm rfl rfl (by rw [hP]; exact qabe) (by rw [hP]; exact qaa4) rfl (CoL.refl _) (by rw [hfin.out]) (fun σ => rfl)) | fail)
 unfold c_pcheck
 replace rest1 := Lib.hid rest1
 clear rest3 rest4
 repeat' (first | (with_reducible refine zA ?_) | ((with_reducible refine qaac ?_); (try rw [hP]); simp -implicitDefEqProofs [*]) | (refine qabv (qabd p _ _ _ _ _ _ _ (by simp)) ⟨rfl, trivial⟩ ⟨rfl, trivial⟩ ?_; simp -implicitDefEqProofs [*]) | fail)
 refine qaal (qaa5 (fun s (x : Nat × Int × Int) => s.turn [(4, .int .i64 x.1)] [(4, .cells 261 (jc p x.2.1 x.2.2))]) (fun x => x.1 ≤ p.heads.length ∧ (e1, g1) = orF (x.2.1, x.2.2) (rowF (fun _ h => qail h.w) 1000 x.1 (p.heads.drop x.1))) (fun x => p.heads.length - x.1) (0, _, _) ?_ ⟨by simp, hF1.out⟩ ?_)
 ·repeat' (first | ((with_reducible refine qaah [] hm ?_ ?_ ?_ ?_) <;> (try simp only [zT, puth, Nat.reduceEqDiff, reduceIte, Nat.reduceAdd])) | (with_reducible first | refine za ?_ ?_ | refine zb ?_ ?_ ?_ ?_) | (with_reducible first | exact qaab | exact qaad) | ((with_reducible first | refine zga ?_ | refine zgb ?_); rfl) | ((with_reducible refine zgd ?_); (first | omega | (simp; done))) | (exact Co.refl _) | (exact CoL.refl _) | fail)
 rintro J hJ ⟨i, e, g⟩ ⟨h1, h2⟩
 unfold qaji
 simp only [zT, puth, Nat.reduceEqDiff, reduceIte, Nat.reduceAdd] at h1 h2 ⊢
 have stop : ∀ h : (e1, g1) = (e, g), e = e1 ∧ g = g1 := fun h => ⟨(Prod.mk.inj h).1.symm, (Prod.mk.inj h).2.symm⟩
 rcases Nat.lt_or_ge i p.heads.length with hi | hi
 ·rw [qadb _ _ hi] at h2
  generalize hxx : p.heads[i] = x at h2
  by_cases he : e = 0
  ·subst he
   rw [qaem, qa5n 0 g (qail x.w)] at h2
   have wi : IntKind.i64.wrap ((i : Int) + 1) = (i : Int) + 1 := qaao (by omega) (by omega)
   have wa : IntKind.i64.wrap (1000 + (i : Int)) = 1000 + (i : Int) := qaao (by omega) (by omega)
   replace h2 := Lib.hid h2
   clear stop
   repeat' (first | (with_reducible first | refine zA ?_ | refine qaae ?_) | ((with_reducible refine qaac ?_); (try rw [hP]); simp -implicitDefEqProofs [qanf, *]) | ((with_reducible refine qaaf ?_); (try simp -implicitDefEqProofs [qanf, *])) | ((with_reducible refine qaaa rfl (fun h => ?_) (fun h => ?_)) <;> have h' := h <;> (try simp at h') <;> (try subst h')) | ((first | refine qabv (qabd p _ _ _ _ _ _ _ (by simp)) ⟨rfl, trivial⟩ ⟨rfl, trivial⟩ ?_ | refine qaaw (qbhr x.w _) ?_); simp -implicitDefEqProofs [qanf, *]) | (with_reducible first | refine za ?_ ?_ | refine zb ?_ ?_ ?_ ?_) | (with_reducible first | exact qaab | exact qaad) | ((with_reducible first | refine zga ?_ | refine zgb ?_); rfl) | ((with_reducible first | refine zgd ?_ | refine zge ?_); (first | omega | (simp; done))) | (exact Co.refl _) | (exact CoL.refl _) | ((refine qaai hJ (i + 1, ?_, ?_) ?_ ?_ ?_; rotate_left 2; (with_reducible refine qaah [] hm ?_ ?_ ?_ ?_) <;> (try simp only [zT, puth, Nat.reduceEqDiff, reduceIte, Nat.reduceAdd]))) | fail)
   all_goals (try dsimp only)
   all_goals (exact ⟨by omega, h2.out⟩)
  ·rw [qaf8 he] at h2
   obtain ⟨rfl, rfl⟩ := stop h2
   have ke : (e == 0) = false := by simpa using he
   clear h2 stop
   repeat' (first | ((refine qaco ?_ rest1.out)) | (with_reducible refine zA ?_) | ((with_reducible refine qaac ?_); (try rw [hP]); simp -implicitDefEqProofs [*]) | ((with_reducible refine qaak ?_); (try simp -implicitDefEqProofs [*])) | ((with_reducible refine qaaa rfl (fun h => ?_) (fun h => ?_)) <;> have h' := h <;> (try simp at h') <;> (try subst h')) | ((with_reducible refine qaah [] hm ?_ ?_ ?_ ?_) <;> (try simp only [zT, puth, Nat.reduceEqDiff, reduceIte, Nat.reduceAdd])) | (with_reducible first | refine za ?_ ?_ | refine zb ?_ ?_ ?_ ?_) | (with_reducible first | exact qaab | exact qaad) | ((with_reducible first | refine zga ?_ | refine zgb ?_); rfl) | ((with_reducible refine zgd ?_); (first | omega | (simp; done))) | (exact Co.refl _) | (exact CoL.refl _) | fail)
 ·obtain rfl : i = p.heads.length := by omega
  rw [List.drop_length, qaci _ rfl] at h2
  obtain ⟨rfl, rfl⟩ := stop h2
  clear h2 stop
  repeat' (first | ((refine qaco ?_ rest1.out)) | (with_reducible refine zA ?_) | ((with_reducible refine qaac ?_); (try rw [hP]); simp -implicitDefEqProofs [*]) | ((with_reducible refine qaak ?_); (try simp -implicitDefEqProofs [*])) | ((with_reducible refine qaaa rfl (fun h => ?_) (fun h => ?_)) <;> have h' := h <;> (try simp at h') <;> (try subst h')) | ((with_reducible refine qaah [] hm ?_ ?_ ?_ ?_) <;> (try simp only [zT, puth, Nat.reduceEqDiff, reduceIte, Nat.reduceAdd])) | (with_reducible first | refine za ?_ ?_ | refine zb ?_ ?_ ?_ ?_) | (with_reducible first | exact qaab | exact qaad) | ((with_reducible first | refine zga ?_ | refine zgb ?_); rfl) | ((with_reducible refine zgd ?_); (first | omega | (simp; done))) | (exact Co.refl _) | (exact CoL.refl _) | fail)
end Go.Proofs.YteoijlmgiemffaaGreat
namespace Go.Proofs.YteoijlmgiemffaaGreat
set_option linter.all false
open Go.RowKit
structure SetsD where
 must : BitVec 64
 may : BitVec 64
 least : Int
 most : Int
 there : Bool
def qaee : SetsD := ⟨0, 0, 0, 0, false⟩
def setc (s : SetsD) : List SV := [.int .u64 s.must.toNat, .int .u64 s.may.toNat, .int .i64 s.least, .int .i64 s.most, .bool s.there]
def lo (a b : Int) : Int := if b < a then b else a
def hi_ (a b : Int) : Int := if b > a then b else a
def qanw (s t : SetsD) : SetsD := if s.there then ⟨s.must &&& t.must, s.may ||| t.may, lo s.least t.least, hi_ s.most t.most, true⟩ else t
def bitB (h : Int) : BitVec 64 := BitVec.twoPow 64 h.toNat
def qaif (p : PlanD) (h : Int) : Int := qasm (headW p h)
abbrev TB := BitVec 64 × Int
def qbhu (y : TB) : SetsD := ⟨y.1, y.1, y.2, y.2, true⟩
def qbhg (p : PlanD) (h : Int) (x : SetsD) : SetsD := if 0 ≤ h then ⟨x.must ||| bitB h, x.may ||| bitB h, x.least + qaif p h, x.most + qaif p h, true⟩ else x
def qasj (p : PlanD) (h : Int) (y : TB) : TB := if 0 ≤ h then (y.1 ||| bitB h, y.2 + qaif p h) else y
structure Is (S : SetsD) (P : TB → Prop) : Prop where
 there : S.there = true
 must : ∀ j, S.must.getLsbD j = true ↔ (j < 64 ∧ ∀ y, P y → y.1.getLsbD j = true)
 may : ∀ j, S.may.getLsbD j = true ↔ ∃ y, P y ∧ y.1.getLsbD j = true
 least : (∃ y, P y ∧ y.2 = S.least) ∧ ∀ y, P y → S.least ≤ y.2
 most : (∃ y, P y ∧ y.2 = S.most) ∧ ∀ y, P y → y.2 ≤ S.most
theorem Is.uniq {S T : SetsD} {P : TB → Prop} (a : Is S P) (b : Is T P) : S = T := by
 obtain ⟨m1, m2, l1, l2, t1⟩ := S
 obtain ⟨n1, n2, k1, k2, t2⟩ := T
 have e1 : m1 = n1 := BitVec.eq_of_getLsbD_eq fun j hj => by
  have := (a.must j).trans (b.must j).symm
  exact Bool.eq_iff_iff.2 this
 have e2 : m2 = n2 := BitVec.eq_of_getLsbD_eq fun j hj => by
  have := (a.may j).trans (b.may j).symm
  exact Bool.eq_iff_iff.2 this
 obtain ⟨⟨y1, p1, q1⟩, r1⟩ := a.least
 obtain ⟨⟨y2, p2, q2⟩, r2⟩ := b.least
 obtain ⟨⟨y3, p3, q3⟩, r3⟩ := a.most
 obtain ⟨⟨y4, p4, q4⟩, r4⟩ := b.most
 have e3 : l1 = k1 := by have := r1 y2 p2; have := r2 y1 p1; simp only at *; omega
 have e4 : l2 = k2 := by have := r3 y4 p4; have := r4 y3 p3; simp only at *; omega
 have e5 : t1 = t2 := a.there.trans b.there.symm
 rw [e1, e2, e3, e4, e5]
theorem Is.congr {S : SetsD} {P Q : TB → Prop} (a : Is S P) (h : ∀ y, P y ↔ Q y) : Is S Q := by
 have : P = Q := funext fun y => propext (h y)
 rw [← this]; exact a
theorem is_one (y : TB) : Is (qbhu y) (fun z => z = y) :=
 ⟨rfl, fun j => ⟨fun h => ⟨BitVec.lt_of_getLsbD h, fun z hz => by rw [hz]; exact h⟩, fun h => h.2 y rfl⟩, fun j => ⟨fun h => ⟨y, rfl, h⟩, fun ⟨z, hz, h⟩ => by rw [hz] at h; exact h⟩,
  ⟨⟨y, rfl, rfl⟩, fun z hz => by rw [hz]; exact Int.le_refl _⟩, ⟨⟨y, rfl, rfl⟩, fun z hz => by rw [hz]; exact Int.le_refl _⟩⟩
theorem Is.join {S T : SetsD} {P Q : TB → Prop} (a : Is S P) (b : Is T Q) : Is (qanw S T) (fun y => P y ∨ Q y) := by
 unfold qanw
 rw [if_pos a.there]
 refine ⟨rfl, fun j => ?_, fun j => ?_, ?_, ?_⟩
 ·rw [BitVec.getLsbD_and, Bool.and_eq_true, a.must, b.must]
  constructor
  ·rintro ⟨⟨h, h1⟩, ⟨_, h2⟩⟩; exact ⟨h, fun y hy => hy.elim (h1 y) (h2 y)⟩
  ·rintro ⟨h, h1⟩; exact ⟨⟨h, fun y hy => h1 y (.inl hy)⟩, ⟨h, fun y hy => h1 y (.inr hy)⟩⟩
 ·rw [BitVec.getLsbD_or, Bool.or_eq_true, a.may, b.may]
  constructor
  ·rintro (⟨y, h1, h2⟩ | ⟨y, h1, h2⟩)
   ·exact ⟨y, .inl h1, h2⟩
   ·exact ⟨y, .inr h1, h2⟩
  ·rintro ⟨y, h1 | h1, h2⟩
   ·exact .inl ⟨y, h1, h2⟩
   ·exact .inr ⟨y, h1, h2⟩
 ·obtain ⟨⟨y1, p1, q1⟩, r1⟩ := a.least
  obtain ⟨⟨y2, p2, q2⟩, r2⟩ := b.least
  show (∃ y, (P y ∨ Q y) ∧ y.2 = lo S.least T.least) ∧ _
  unfold lo
  split
  ·exact ⟨⟨y2, .inr p2, q2⟩, fun y hy => hy.elim (fun h => by have := r1 y h; show T.least ≤ y.2; omega) (r2 y)⟩
  ·exact ⟨⟨y1, .inl p1, q1⟩, fun y hy => hy.elim (r1 y) (fun h => by have := r2 y h; show S.least ≤ y.2; omega)⟩
 ·obtain ⟨⟨y1, p1, q1⟩, r1⟩ := a.most
  obtain ⟨⟨y2, p2, q2⟩, r2⟩ := b.most
  show (∃ y, (P y ∨ Q y) ∧ y.2 = hi_ S.most T.most) ∧ _
  unfold hi_
  split
  ·exact ⟨⟨y2, .inr p2, q2⟩, fun y hy => hy.elim (fun h => by have := r1 y h; show y.2 ≤ T.most; omega) (r2 y)⟩
  ·exact ⟨⟨y1, .inl p1, q1⟩, fun y hy => hy.elim (r1 y) (fun h => by have := r2 y h; show y.2 ≤ S.most; omega)⟩
theorem Is.step {S : SetsD} {P : TB → Prop} (a : Is S P) (p : PlanD) (h : Int) : Is (qbhg p h S) (fun z => ∃ y, P y ∧ z = qasj p h y) := by
 unfold qbhg qasj
 by_cases h0 : 0 ≤ h
 ·simp only [if_pos h0]
  obtain ⟨⟨y0, hy0, _⟩, _⟩ := a.least
  refine ⟨rfl, fun j => ?_, fun j => ?_, ?_, ?_⟩
  ·rw [BitVec.getLsbD_or, Bool.or_eq_true, a.must]
   constructor
   ·rintro (⟨h1, h2⟩ | h1)
    ·exact ⟨h1, fun z ⟨y, hy, e⟩ => by rw [e]; simp [h2 y hy]⟩
    ·exact ⟨BitVec.lt_of_getLsbD h1, fun z ⟨y, hy, e⟩ => by rw [e]; simp [h1]⟩
   ·rintro ⟨h1, h2⟩
    by_cases hb : (bitB h).getLsbD j = true
    ·exact .inr hb
    ·refine .inl ⟨h1, fun y hy => ?_⟩
     have := h2 _ ⟨y, hy, rfl⟩
     rw [BitVec.getLsbD_or, Bool.or_eq_true] at this
     exact this.resolve_right hb
  ·rw [BitVec.getLsbD_or, Bool.or_eq_true, a.may]
   constructor
   ·rintro (⟨y, h1, h2⟩ | h1)
    ·exact ⟨_, ⟨y, h1, rfl⟩, by rw [BitVec.getLsbD_or, h2]; rfl⟩
    ·exact ⟨_, ⟨y0, hy0, rfl⟩, by rw [BitVec.getLsbD_or, h1, Bool.or_true]⟩
   ·rintro ⟨z, ⟨y, hy, e⟩, h2⟩
    rw [e, BitVec.getLsbD_or, Bool.or_eq_true] at h2
    exact h2.elim (fun q => .inl ⟨y, hy, q⟩) .inr
  ·obtain ⟨⟨y, h1, h2⟩, h3⟩ := a.least
   exact ⟨⟨_, ⟨y, h1, rfl⟩, by rw [h2]⟩, fun z ⟨y, hy, e⟩ => by rw [e]; have := h3 y hy; show S.least + qaif p h ≤ y.2 + qaif p h; omega⟩
  ·obtain ⟨⟨y, h1, h2⟩, h3⟩ := a.most
   exact ⟨⟨_, ⟨y, h1, rfl⟩, by rw [h2]⟩, fun z ⟨y, hy, e⟩ => by rw [e]; have := h3 y hy; show y.2 + qaif p h ≤ S.most + qaif p h; omega⟩
 ·simp only [if_neg h0]
  exact a.congr fun y => ⟨fun h => ⟨y, h, rfl⟩, fun ⟨z, h, e⟩ => by rw [e]; exact h⟩
def IsO (S : SetsD) (P : TB → Prop) : Prop := (S = qaee ∧ ∀ y, ¬ P y) ∨ Is S P
theorem IsO.join {S T : SetsD} {P Q : TB → Prop} (a : IsO S P) (b : Is T Q) : IsO (qanw S T) (fun y => P y ∨ Q y) := by
 rcases a with ⟨h, hn⟩ | a
 ·subst h
  exact .inr (b.congr fun y => ⟨.inr, fun h => h.resolve_left (hn y)⟩)
 ·exact .inr (a.join b)
theorem IsO.congr {S : SetsD} {P Q : TB → Prop} (a : IsO S P) (h : ∀ y, P y ↔ Q y) : IsO S Q := by
 have : P = Q := funext fun y => propext (h y)
 rw [← this]; exact a
theorem IsO.uniq {S T : SetsD} {P : TB → Prop} (a : IsO S P) (b : IsO T P) : S = T := by
 rcases a with ⟨h, hn⟩ | a
 ·rcases b with ⟨h2, _⟩ | b
  ·rw [h, h2]
  ·obtain ⟨⟨y, hy, _⟩, _⟩ := b.least
   exact absurd hy (hn y)
 ·rcases b with ⟨_, hn⟩ | b
  ·obtain ⟨⟨y, hy, _⟩, _⟩ := a.least
   exact absurd hy (hn y)
  ·exact a.uniq b
theorem IsO.is {S : SetsD} {P : TB → Prop} (a : IsO S P) (h : S.there = true) : Is S P := by
 rcases a with ⟨e, _⟩ | a
 ·rw [e] at h; cases h
 ·exact a
def qac2 (s : StateD) : List Int := s.cases_.map CaseD.to_ ++ [s.els]
def tgt (n : Nat) (k : Int) : Int := if k = 1000 then n else k
def Leads (p : PlanD) (s : StateD) (k : Nat) : Prop := k ≤ p.states.length ∧ ∃ t ∈ qac2 s, tgt p.states.length t = k
def toS (n : Nat) (l : List SetsD) (k : Int) (s : SetsD) : List SetsD := if tgt n k ≤ n then l.set (tgt n k).toNat (qanw (l.getD (tgt n k).toNat qaee) s) else l
def qakk (p : PlanD) (st : StateD) (i : Nat) (l : List SetsD) : List SetsD := if (l.getD i qaee).there then (qac2 st).foldl (fun m k => toS p.states.length m k (qbhg p st.head (l.getD i qaee))) l else l
theorem qa4s (n : Nat) (l : List SetsD) (k : Int) (s : SetsD) : (toS n l k s).length = l.length := by
 unfold toS; split <;> simp
structure SOk (p : PlanD) (i : Nat) (s : StateD) : Prop where
 head : -1 ≤ s.head ∧ s.head < p.heads.length
 cases_ : s.cases_.length ≤ 4
 to_ : ∀ t ∈ qac2 s, t = 1000 ∨ t = 1001 ∨ ((i : Int) < t ∧ t < p.states.length)
 on : 0 < s.cases_.length → s.on.h < p.heads.length
structure PlOk (p : PlanD) : Prop where
 heads : p.heads.length ≤ 6
 size : ∀ h ∈ p.heads, qail h.w = 0
 states : 1 ≤ p.states.length ∧ p.states.length ≤ 8
 ok : ∀ (i : Nat) (hi : i < p.states.length), SOk p i p.states[i]
theorem qajv {b : Bool} {at_ : Int} (h : (qasz b at_).1 = 0) : b = false := by
 unfold qasz at h; cases b
 ·rfl
 ·simp at h
theorem qahs {α : Type} {f : Nat → α → Int} {b : Int} : ∀ {l : List α} {i : Nat}, (rowF f b i l).1 = 0 → ∀ (j : Nat) (hj : j < l.length), f (i + j) l[j] = 0
 | [], _, _, j, hj => by simp at hj
 | y :: l, i, h, j, hj => by
  unfold rowF at h
  by_cases h1 : f i y ≠ 0
  ·rw [if_pos h1] at h; exact absurd h h1
  ·rw [if_neg h1] at h
   cases j with
   | zero => simpa using h1
   | succ j =>
    have := qahs h j (by simpa using hj)
    rw [show i + (j + 1) = i + 1 + j by omega]; exact this
theorem qagq {α : Type} {f : α → Int} : ∀ {l : List α}, qacj f l = 0 → ∀ x ∈ l, f x = 0
 | [], _, x, hx => by cases hx
 | y :: l, h, x, hx => by
  unfold qacj at h
  by_cases h1 : f y = 0
  ·rw [if_pos h1] at h
   rcases List.mem_cons.1 hx with e | e
   ·rw [e]; exact h1
   ·exact qagq h x e
  ·rw [if_neg h1] at h; exact absurd h h1
theorem qbh2 {p : PlanD} {i : Nat} {t : Int} (h : qag8 p i t = 0) : t = 1000 ∨ t = 1001 ∨ ((i : Int) < t ∧ t < p.states.length) := by
 unfold qag8 at h
 by_cases h1 : t = 1000 ∨ t = 1001
 ·omega
 ·rw [if_neg h1] at h
  by_cases h2 : t < 0 ∨ (p.states.length : Int) ≤ t
  ·rw [if_pos h2] at h; exact absurd h (by decide)
  ·rw [if_neg h2] at h
   by_cases h3 : t ≤ i
   ·rw [if_pos h3] at h; exact absurd h (by decide)
   ·omega
theorem qa4o {p : PlanD} {r : RefD} (h : qabw p r [] ≠ 0) : r.h < p.heads.length := by
 by_cases h0 : r.h < 0
 ·omega
 ·unfold qabw qanm at h
  rw [if_neg (by omega), if_neg (by omega), if_neg (by omega)] at h
  by_cases h1 : 0 ≤ r.h ∧ r.h < p.heads.length
  ·exact h1.2
  ·rw [if_neg h1] at h
   exact absurd (by unfold qa4k; split <;> simp [el]) h
theorem qbet {p : PlanD} (h : (qafh p).1 = 0) : PlOk p := by
 have h1 := qach h
 have h2 := qach h1.2
 have h3 := qach h2.2
 have hh := qach h1.1
 have hs := qach h3.1
 have m1 := qajv hh.1
 have m2 := qajv hs.1
 rw [Bool.or_eq_false_iff, decide_eq_false_iff_not, decide_eq_false_iff_not] at m2
 rw [decide_eq_false_iff_not] at m1
 refine ⟨by omega, qbh4 h1.1, by omega, fun i hi => ?_⟩
 have hst := qahs hs.2 i hi
 rw [Nat.zero_add] at hst
 generalize p.states[i] = s at hst
 unfold qafg at hst
 by_cases c1 : s.head < -1 ∨ (p.heads.length : Int) ≤ s.head
 ·rw [if_pos c1] at hst; exact absurd hst (by decide)
 rw [if_neg c1] at hst
 by_cases c2 : 4 < s.cases_.length
 ·rw [if_pos c2] at hst; exact absurd hst (by decide)
 rw [if_neg c2] at hst
 by_cases c3 : 0 < s.cases_.length ∧ qabw p s.on [] = 0
 ·rw [if_pos c3] at hst; exact absurd hst (by decide)
 rw [if_neg c3] at hst
 by_cases c4 : qacj (qah0 p i (qabw p s.on [])) s.cases_ ≠ 0
 ·rw [if_pos c4] at hst; exact absurd hst c4
 rw [if_neg c4] at hst
 refine ⟨by omega, by omega, fun t ht => ?_, fun hc => qa4o fun e => c3 ⟨hc, e⟩⟩
 unfold qac2 at ht
 rcases List.mem_append.1 ht with ht | ht
 ·obtain ⟨c, hc, rfl⟩ := List.mem_map.1 ht
  have := qagq (Decidable.not_not.1 c4) c hc
  unfold qah0 at this
  split at this
  ·exact absurd this (by decide)
  ·exact qbh2 this
 ·rw [List.mem_singleton.1 ht]; exact qbh2 hst
end Go.Proofs.YteoijlmgiemffaaGreat
namespace Go.Proofs.YteoijlmgiemffaaGreat
set_option linter.all false
open Go.RowKit
def RW (p : PlanD) : Nat → Nat → TB → Prop
 | 0, k, y => k = 0 ∧ y = (0, 0)
 | i + 1, k, y => RW p i k y ∨ ∃ h : i < p.states.length, ∃ z, RW p i i z ∧ Leads p p.states[i] k ∧ y = qasj p p.states[i].head z
def qadl (p : PlanD) : Nat → List SetsD
 | 0 => (List.replicate (p.states.length + 1) qaee).set 0 ⟨0, 0, 0, 0, true⟩
 | i + 1 => if h : i < p.states.length then qakk p p.states[i] i (qadl p i) else qadl p i
theorem qagh (p : PlanD) {i : Nat} (h : i < p.states.length) : qadl p (i + 1) = qakk p p.states[i] i (qadl p i) := by
 show (if h : i < p.states.length then _ else _) = _
 rw [dif_pos h]
theorem qakv (n : Nat) (s : SetsD) : ∀ (ts : List Int) (l : List SetsD), (ts.foldl (fun l k => toS n l k s) l).length = l.length
 | [], _ => rfl
 | t :: ts, l => by rw [List.foldl_cons, qakv n s ts, qa4s]
theorem qa4w (p : PlanD) (st : StateD) (i : Nat) (l : List SetsD) : (qakk p st i l).length = l.length := by
 unfold qakk; split
 ·exact qakv _ _ _ _
 ·rfl
theorem qacw (p : PlanD) : ∀ i, (qadl p i).length = p.states.length + 1
 | 0 => by simp [qadl]
 | i + 1 => by
  by_cases h : i < p.states.length
  ·rw [qagh p h, qa4w, qacw p i]
  ·show (if h : i < p.states.length then _ else _ : List SetsD).length = _
   rw [dif_neg h, qacw p i]
theorem toS_is {n : Nat} {l : List SetsD} {P : Nat → TB → Prop} {Q : TB → Prop} {T : SetsD} (hl : l.length = n + 1) (h : ∀ k, k ≤ n → IsO (l.getD k qaee) (P k)) (hT : Is T Q) (t : Int) (h0 : 0 ≤ tgt n t) :
  ∀ k, k ≤ n → IsO ((toS n l t T).getD k qaee) (fun y => P k y ∨ (tgt n t = k ∧ Q y)) := fun k hk => by
 unfold toS
 by_cases h1 : tgt n t ≤ n
 ·rw [if_pos h1]
  by_cases h2 : tgt n t = k
  ·have e : (tgt n t).toNat = k := by omega
   rw [e, List.getD_eq_getElem?_getD, List.getElem?_set_self (by omega), Option.getD_some]
   exact ((h k hk).join hT).congr fun y => by simp [h2]
  ·have e : (tgt n t).toNat ≠ k := by omega
   rw [List.getD_eq_getElem?_getD, List.getElem?_set_ne e, ← List.getD_eq_getElem?_getD]
   exact (h k hk).congr fun y => by simp [h2]
 ·rw [if_neg h1]
  have h2 : tgt n t ≠ k := by omega
  exact (h k hk).congr fun y => by simp [h2]
theorem qata {n : Nat} {Q : TB → Prop} {T : SetsD} (hT : Is T Q) : ∀ (ts : List Int) (l : List SetsD) (P : Nat → TB → Prop), l.length = n + 1 → (∀ k, k ≤ n → IsO (l.getD k qaee) (P k)) → (∀ t ∈ ts, 0 ≤ tgt n t) →
  ∀ k, k ≤ n → IsO ((ts.foldl (fun l k => toS n l k T) l).getD k qaee) (fun y => P k y ∨ ((∃ t ∈ ts, tgt n t = k) ∧ Q y))
 | [], l, P, _, h, _, k, hk => (h k hk).congr fun y => by simp
 | t :: ts, l, P, hl, h, h0, k, hk => by
  rw [List.foldl_cons]
  have := qata hT ts (toS n l t T) _ (by rw [qa4s, hl]) (toS_is hl h hT t (h0 t (by simp))) (fun t' ht => h0 t' (by simp [ht])) k hk
  refine this.congr fun y => ?_
  constructor
  ·rintro ((h1 | ⟨h1, h2⟩) | ⟨⟨t', h1, h2⟩, h3⟩)
   ·exact .inl h1
   ·exact .inr ⟨⟨t, by simp, h1⟩, h2⟩
   ·exact .inr ⟨⟨t', by simp [h1], h2⟩, h3⟩
  ·rintro (h1 | ⟨⟨t', h1, h2⟩, h3⟩)
   ·exact .inl (.inl h1)
   ·rcases List.mem_cons.1 h1 with e | e
    ·exact .inl (.inr ⟨by rw [← e]; exact h2, h3⟩)
    ·exact .inr ⟨⟨t', e, h2⟩, h3⟩
theorem qbeb {p : PlanD} {i : Nat} {s : StateD} (h : SOk p i s) (hi : i < p.states.length) (hn : p.states.length ≤ 8) {t : Int} (ht : t ∈ qac2 s) : (i : Int) < tgt p.states.length t := by
 unfold tgt
 rcases h.to_ t ht with e | e | ⟨e1, e2⟩
 ·rw [if_pos e]; omega
 ·rw [if_neg (by omega)]; omega
 ·rw [if_neg (by omega)]; omega
theorem qbjk {p : PlanD} {i : Nat} {s : StateD} (h : SOk p i s) (hi : i < p.states.length) (hn : p.states.length ≤ 8) {k : Nat} (hk : Leads p s k) : i < k := by
 obtain ⟨_, t, ht, e⟩ := hk
 have := qbeb h hi hn ht; omega
theorem qaf4 {p : PlanD} (hp : PlOk p) : ∀ i, i ≤ p.states.length → ∀ k, k ≤ p.states.length → IsO ((qadl p i).getD k qaee) (RW p i k)
 | 0, _, k, hk => by
  unfold qadl
  by_cases h0 : k = 0
  ·subst h0
   rw [List.getD_eq_getElem?_getD, List.getElem?_set_self (by simp), Option.getD_some]
   exact .inr ((is_one (0, 0)).congr fun y => by simp [RW])
  ·rw [List.getD_eq_getElem?_getD, List.getElem?_set_ne (by omega), List.getElem?_replicate, if_pos (by omega), Option.getD_some]
   exact .inl ⟨rfl, fun y hy => h0 hy.1⟩
 | i + 1, hi, k, hk => by
  have hlt : i < p.states.length := by omega
  have ih := qaf4 hp i (by omega)
  rw [qagh p hlt]
  have ok := hp.ok i hlt
  unfold qakk
  by_cases ht : ((qadl p i).getD i qaee).there = true
  ·rw [if_pos ht]
   have := qata (((ih i (by omega)).is ht).step p p.states[i].head) (qac2 p.states[i]) (qadl p i) (RW p i) (qacw p i) ih (fun t h => by have := qbeb ok hlt hp.states.2 h; omega) k hk
   refine this.congr fun y => ?_
   constructor
   ·rintro (h1 | ⟨h1, z, h2, h3⟩)
    ·exact .inl h1
    ·exact .inr ⟨hlt, z, h2, ⟨hk, h1⟩, h3⟩
   ·rintro (h1 | ⟨_, z, h2, h3, h4⟩)
    ·exact .inl h1
    ·exact .inr ⟨h3.2, z, h2, h4⟩
  ·rw [if_neg ht]
   refine (ih k hk).congr fun y => ⟨.inl, fun h => h.elim id fun ⟨_, z, h2, _⟩ => ?_⟩
   rcases ih i (by omega) with ⟨_, hn⟩ | h
   ·exact absurd h2 (hn z)
   ·exact absurd h.there ht
theorem qa46 {p : PlanD} (hp : PlOk p) {k : Nat} : ∀ j, k ≤ j → j ≤ p.states.length → ∀ y, RW p j k y ↔ RW p k k y
 | 0, h, _, y => by obtain rfl : k = 0 := by omega
                    exact Iff.rfl
 | j + 1, h, hj, y => by
  by_cases e : k = j + 1
  ·rw [e]
  ·rw [← qa46 hp j (by omega) (by omega) y]
   refine ⟨fun h => h.elim id fun ⟨h1, z, h2, h3, h4⟩ => ?_, .inl⟩
   have := qbjk (hp.ok j h1) h1 hp.states.2 h3; omega
theorem qat0 {p : PlanD} (hp : PlOk p) {k j : Nat} (h : k ≤ j) (hj : j ≤ p.states.length) : (qadl p j).getD k qaee = (qadl p k).getD k qaee :=
 (qaf4 hp j hj k (by omega)).uniq ((qaf4 hp k (by omega) k (by omega)).congr fun y => (qa46 hp j h hj y).symm)
def qaf1 (p : PlanD) : List SetsD := qadl p p.states.length
def setAt (p : PlanD) (i : Nat) : SetsD := (qaf1 p).getD i qaee
def refC (s : StateD) (x : SetsD) : Int :=
 if x.there = false then 0
 else if (decide (0 ≤ s.head) && (x.may &&& bitB s.head != 0)) = true then 7
 else if (decide (0 < s.cases_.length) && (decide (0 ≤ s.on.h) && (s.on.h != s.head && (x.must &&& bitB s.on.h == 0)))) = true then 12
 else 0
def qafq (p : PlanD) : Int × Int := rowF (fun i s => refC s (setAt p i)) 3000 0 p.states
def qafm (p : PlanD) : Int × Int := if (qafh p).1 ≠ 0 then qafh p else qafq p
def qane (p : PlanD) : List SetsD := if (qafm p).1 ≠ 0 then [] else qaf1 p
theorem qany {p : PlanD} (hp : PlOk p) {h : Int} (h0 : 0 ≤ h) (h1 : h < p.heads.length) : 1 ≤ qaif p h ∧ qaif p h ≤ 32 := by
 unfold qaif headW
 rw [List.getElem?_eq_getElem (by omega : h.toNat < p.heads.length)]
 have := qask (hp.size _ (List.getElem_mem (by omega : h.toNat < p.heads.length)))
 exact ⟨this.2.2.2.2.2.2.1, this.2.2.2.2.2.2.2⟩
theorem qbik {p : PlanD} (hp : PlOk p) {h : Int} (h1 : h < p.heads.length) (y : TB) : y.2 ≤ (qasj p h y).2 ∧ (qasj p h y).2 ≤ y.2 + 32 := by
 unfold qasj
 by_cases h0 : 0 ≤ h
 ·rw [if_pos h0]; have := qany hp h0 h1; show _ ≤ y.2 + qaif p h ∧ y.2 + qaif p h ≤ _; omega
 ·rw [if_neg h0]; omega
theorem rw_in {p : PlanD} (hp : PlOk p) : ∀ i, ∀ k y, RW p i k y → 0 ≤ y.2 ∧ y.2 ≤ 32 * i
 | 0, k, y, h => by rw [h.2]; simp
 | i + 1, k, y, h => by
  rcases h with h | ⟨hi, z, h1, _, h2⟩
  ·have := rw_in hp i k y h; omega
  ·have a := rw_in hp i i z h1
   have b := qbik hp (hp.ok i hi).head.2 z
   rw [h2]; omega
theorem qbeg {p : PlanD} (hp : PlOk p) {i k : Nat} (hi : i ≤ p.states.length) (hk : k ≤ p.states.length) : 0 ≤ ((qadl p i).getD k qaee).least ∧ ((qadl p i).getD k qaee).least ≤ 256 ∧ 0 ≤ ((qadl p i).getD k qaee).most ∧ ((qadl p i).getD k qaee).most ≤ 256 := by
 have hn := hp.states.2
 rcases qaf4 hp i hi k hk with ⟨e, _⟩ | h
 ·rw [e]; simp [qaee]
 ·obtain ⟨⟨y, h1, h2⟩, _⟩ := h.least
  obtain ⟨⟨z, h3, h4⟩, _⟩ := h.most
  have a := rw_in hp i k y h1
  have b := rw_in hp i k z h3
  omega
end Go.Proofs.YteoijlmgiemffaaGreat
