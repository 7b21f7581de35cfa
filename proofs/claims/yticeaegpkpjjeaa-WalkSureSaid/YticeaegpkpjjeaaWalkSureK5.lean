/-
  Texts joined: XPlnT XWlkF XWlkG XWlkH XPlnZ XPloB XPloC XPloD XWlkJ XYrdA XCyrd XYrdB XYrdC XCyrp XTrow XYrdP XYrdE XShNW XShPK XYrdH XYrdD XYrdF. No condition.
-/
import Derived.Test.YticeaegpkpjjeaaProg
import Derived.ProofKit
import Derived.Test.YticeaegpkpjjeaaRows
import Derived.Deep.QuietTactic
import Derived.BigQuiet
import Derived.WalkSmall
import Derived.Handy
import Derived.WalkSpells
import Derived.RegionTactic
import Derived.BigRegion
import Derived.Deep.RegionLaw
import Derived.Test.YticeaegpkpjjeaaWalkSureK4
namespace Go.Proofs.Yticeaegpkpjjeaa
set_option linter.all false
open Go.RowKit
attribute [local simp] qabj qabi qaaw qaa2 qaax qaa1 qabg qabh qaap qab2 SOp.run SX.ev putd puts argS upds SOp.touch SSt.keep SSt.skip gets geth puth delh idOf SV.cells? setL qadu qadv sbin eq0 eq1 eqL qadr qacr qacs qaau qabk qaaf qabl qab3 qaai qaak FrzOk qaa5 qaaz qaa3 qaa4 qaaq qaay qabm qaa0 qaas qaa6 qaar frzS frzH frz frz1 frz0 SlotsM ObjsM ObjM rn ren ren1 ren0 qab6 qacp qacu qab5 qabn qacv qact CoL qaa7 qab7 dels adds idsH qabt
attribute [local simp] qaeh refc qaee qaea qacl opc actc tabc qaef qacc nums
theorem qay5 (p : PlanD) (t : TabD) (hl : t.keys.length ≤ 1000000) (q : Nat) : SCalls Try.prog 48 [.agg (qacc p), .agg (tabc t)] [] q (nums .i64 (qabu p t)) [] := by
 refine qabs ?_ (fun _ => rfl) (fun _ => rfl) rfl q
 rw [← qaso]
 refine qaal (N := 25) Try.func48 rfl rfl (by kernel_rfl) qah5 (by simp) (by repeat' (first | exact trivial | refine And.intro ?_ ?_ | rfl | decide | exact PureR.ren _)) (by repeat' (first | exact trivial | refine And.intro ?_ ?_ | rfl | decide | exact PureR.ren _)) ?_
 rintro X hP hN hm
 unfold c_rwidths
 repeat' (first | (with_reducible refine zA ?_) | ((with_reducible refine qaad ?_); (try rw [hP]); simp -implicitDefEqProofs [*]) | fail)
 refine qacy (qafo 5 3 1 rfl) ?_
 simp only [zT, puth, Nat.reduceEqDiff, reduceIte, Nat.reduceAdd]
 refine qaat (qabp (fun s (i : Nat) => s.turn [(5, .own 5 i), (6, .int .i64 i)] [(5, .row 3 1 (wrow p t.keys i))]) (fun i => i ≤ t.keys.length) (fun i => t.keys.length - i) 0 ?_ (by simp) ?_)
 ·repeat' (first | ((with_reducible refine qaag [] hm ?_ ?_ ?_ ?_) <;> (try simp only [zT, puth, Nat.reduceEqDiff, reduceIte, Nat.reduceAdd])) | (with_reducible first | refine za ?_ ?_ | refine zb ?_ ?_ ?_ ?_ | refine zc ?_ ?_ ?_ ?_) | (with_reducible first | exact qaaa | exact qaac) | ((with_reducible first | refine zga ?_ | refine zgb ?_); rfl) | ((with_reducible refine zgc ?_); (first | (with_reducible rfl) | rfl | (simp; done))) | ((with_reducible refine zgd ?_); (first | omega | (simp; done))) | (exact Co.refl _) | (exact CoL.refl _) | fail)
 rintro J hJ i hi
 unfold qagh
 simp only [zT, puth, Nat.reduceEqDiff, reduceIte, Nat.reduceAdd]
 have hlen := qasn p hi
 have hb1 : i + 1 ≤ maxLen := by unfold maxLen; omega
 rcases Nat.lt_or_ge i t.keys.length with h | h
 ·have wi : IntKind.i64.wrap ((i : Int) + 1) = (i : Int) + 1 := qaav (by omega) (by omega)
  have hrow := qanb p h
  generalize hr : t.keys[i] = r at hrow
  repeat' (first | (with_reducible first | refine zA ?_ | refine qacj ?_ | refine zK ?_) | ((with_reducible first | refine qaad ?_ | refine qaa8 (by rw [hP]; exact qadn) ?_); (try rw [hP]); simp -implicitDefEqProofs [*]) | ((with_reducible refine qaae ?_); (try simp -implicitDefEqProofs [*])) | ((with_reducible refine qaab rfl (fun h => ?_) (fun h => ?_)) <;> have h' := h <;> (try simp at h') <;> (try subst h')) | ((with_reducible refine qabw ?_ ?_); (first | omega | (unfold maxLen; omega)); simp -implicitDefEqProofs [*]) | (refine qabb (qay6 p r _) ?_; simp -implicitDefEqProofs [*]) | (with_reducible first | refine za ?_ ?_ | refine zb ?_ ?_ ?_ ?_ | refine zc ?_ ?_ ?_ ?_) | (with_reducible first | exact qaaa | exact qaac) | ((with_reducible first | refine zga ?_ | refine zgb ?_); rfl) | ((with_reducible refine zgc ?_); (first | (with_reducible rfl) | rfl | (simp; done))) | ((with_reducible first | refine zgd ?_ | refine zge ?_); (first | omega | (simp; done))) | (exact Co.refl _) | (exact CoL.refl _) | ((refine qaaj hJ (i + 1) ?_ ?_ ?_; (with_reducible refine qaag [(5, ?_)] hm ?_ ?_ ?_ ?_) <;> (try simp only [zT, puth, Nat.reduceEqDiff, reduceIte, Nat.reduceAdd]))) | fail)
 ·obtain rfl : i = t.keys.length := by omega
  repeat' (first | ((with_reducible refine qac1 (c := .seq (.reg false qagg [4]) .ret) ?_)) | (with_reducible refine zA ?_) | ((with_reducible refine qaad ?_); (try rw [hP]); simp -implicitDefEqProofs [*]) | ((with_reducible refine qaao ?_); (try simp -implicitDefEqProofs [*])) | ((with_reducible refine qaab rfl (fun h => ?_) (fun h => ?_)) <;> have h' := h <;> (try simp at h') <;> (try subst h')) | fail)
  constructor
  refine qaec [5] ?_ ?_
  ·simp only [FrzOk, geth, Nat.reduceEqDiff, reduceIte, qail, and_true]
  have htk : (wrow p t.keys t.keys.length).take t.keys.length = wrow p t.keys t.keys.length := List.take_of_length_le (by omega)
  simp -implicitDefEqProofs [htk, hlen, Nat.le_refl]
  repeat' (first | (with_reducible refine zA ?_) | ((with_reducible refine qaad ?_); (try rw [hP]); simp -implicitDefEqProofs [*]) | ((with_reducible refine qaam ?_); (try simp only [qaau, qaaf, qaai])) | (refine qafi hm ?_ (qae6 _ _)) | fail)
  rfl
end Go.Proofs.Yticeaegpkpjjeaa
namespace Go.Proofs.Yticeaegpkpjjeaa
set_option linter.all false
open Go.RowKit
attribute [local simp] qabj qabi qaaw qaa2 qaax qaa1 qabg qabh qaap qab2 SOp.run SX.ev putd puts argS upds SOp.touch SSt.keep SSt.skip gets geth puth delh idOf SV.cells? setL qadu qadv sbin eq0 eq1 eqL qadr qacr qacs qaau qabk qaaf qabl qab3 qaai qaak FrzOk qaa5 qaaz qaa3 qaa4 qaaq qaay qabm qaa0 qaas qaa6 qaar frzS frzH frz frz1 frz0 SlotsM ObjsM ObjM rn ren ren1 ren0 qab6 qacp qacu qab5 qabn qacv qact CoL qaa7 qab7 dels adds idsH qabt
attribute [local simp] qaeh refc qaee qaea qacl opc actc tabc qaef qacc nums
def qag3 (n : Nat) : List Int → List Int → List Int
 | [], acc => acc
 | t :: ts, acc => if (decide (tgt n t ≤ n) && !acc.contains (tgt n t)) = true then qag3 n ts (acc ++ [tgt n t]) else qag3 n ts acc
def qats (p : PlanD) (s : StateD) : List Int := qag3 p.states.length (qac5 s) []
theorem qae7 (n : Nat) (k : Int) : ∀ (ts acc : List Int), k ∈ qag3 n ts acc ↔ k ∈ acc ∨ (k ≤ n ∧ ∃ t ∈ ts, tgt n t = k)
 | [], acc => by simp [qag3]
 | t :: ts, acc => by
  unfold qag3
  by_cases h : (decide (tgt n t ≤ n) && !acc.contains (tgt n t)) = true
  ·rw [if_pos h, qae7 n k ts]
   rw [Bool.and_eq_true, decide_eq_true_eq, Bool.not_eq_true'] at h
   constructor
   ·rintro (h1 | ⟨h1, t', h2, h3⟩)
    ·rcases List.mem_append.1 h1 with h1 | h1
     ·exact .inl h1
     ·rw [List.mem_singleton.1 h1]; exact .inr ⟨h.1, t, by simp, rfl⟩
    ·exact .inr ⟨h1, t', by simp [h2], h3⟩
   ·rintro (h1 | ⟨h1, t', h2, h3⟩)
    ·exact .inl (List.mem_append_left _ h1)
    ·rcases List.mem_cons.1 h2 with e | e
     ·rw [← h3, e]; exact .inl (List.mem_append_right _ (by simp))
     ·exact .inr ⟨h1, t', e, h3⟩
  ·rw [if_neg h, qae7 n k ts]
   rw [Bool.and_eq_true, decide_eq_true_eq, Bool.not_eq_true'] at h
   constructor
   ·rintro (h1 | ⟨h1, t', h2, h3⟩)
    ·exact .inl h1
    ·exact .inr ⟨h1, t', by simp [h2], h3⟩
   ·rintro (h1 | ⟨h1, t', h2, h3⟩)
    ·exact .inl h1
    ·rcases List.mem_cons.1 h2 with e | e
     ·subst e
      have : acc.contains (tgt n t') = true := by
       by_cases hc : acc.contains (tgt n t') = true
       ·exact hc
       ·exact absurd ⟨by omega, by simpa using hc⟩ h
      rw [h3] at this
      exact .inl (by simpa using this)
     ·exact .inr ⟨h1, t', e, h3⟩
end Go.Proofs.Yticeaegpkpjjeaa
namespace Go.Proofs.Yticeaegpkpjjeaa
set_option linter.all false
open Go.RowKit
structure WayD where
 st : Nat
 taken : BitVec 64
 bytes : Int
def wayc (w : WayD) : List SV := [.int .i64 w.st, .int .u64 w.taken.toNat, .int .i64 w.bytes]
def nextW (p : PlanD) (w : WayD) : List WayD := if h : w.st < p.states.length then (qats p p.states[w.st]).map (fun k => ⟨k.toNat, (qan9 p p.states[w.st].head (w.taken, w.bytes)).1, (qan9 p p.states[w.st].head (w.taken, w.bytes)).2⟩) else []
def gs : List Nat → Nat
 | [] => 0
 | x :: l => 2 ^ x + gs l
theorem qatr {p : PlanD} {s : StateD} {k : Int} : k ∈ qats p s ↔ (k ≤ p.states.length ∧ ∃ t ∈ qac5 s, tgt p.states.length t = k) := by
 unfold qats; rw [qae7]; simp
theorem qazo {p : PlanD} (hp : PlOk p) {i : Nat} (hi : i < p.states.length) {k : Int} (hk : k ∈ qats p p.states[i]) : (i : Int) < k ∧ k ≤ p.states.length ∧ Leads p p.states[i] k.toNat := by
 obtain ⟨h1, t, h2, h3⟩ := qatr.1 hk
 have := qayy (hp.ok i hi) hi hp.states.2 h2
 refine ⟨by omega, h1, by omega, t, h2, by omega⟩
theorem qato {p : PlanD} (hp : PlOk p) {w : WayD} (h : RW p w.st w.st (w.taken, w.bytes)) {v : WayD} (hv : v ∈ nextW p w) : v.st ≤ p.states.length ∧ RW p v.st v.st (v.taken, v.bytes) := by
 unfold nextW at hv
 by_cases hs : w.st < p.states.length
 ·rw [dif_pos hs] at hv
  obtain ⟨k, hk, rfl⟩ := List.mem_map.1 hv
  have h1 := qazo hp hs hk
  refine ⟨by show k.toNat ≤ _; omega, ?_⟩
  show RW p k.toNat k.toNat _
  have h2 : RW p (w.st + 1) k.toNat (qan9 p p.states[w.st].head (w.taken, w.bytes)) := .inr ⟨hs, _, h, h1.2.2, rfl⟩
  have stay : ∀ j, w.st + 1 ≤ j → j ≤ p.states.length → ∀ k y, RW p (w.st + 1) k y → RW p j k y := by
   intro j
   induction j with
   | zero => intro h; omega
   | succ j ih =>
    intro h3 h4 k y h5
    by_cases e : w.st + 1 = j + 1
    ·rw [← e]; exact h5
    ·exact .inl (ih (by omega) (by omega) k y h5)
  exact stay k.toNat (by omega) (by omega) _ _ h2
 ·rw [dif_neg hs] at hv; cases hv
end Go.Proofs.Yticeaegpkpjjeaa
namespace Go.Proofs.Yticeaegpkpjjeaa
set_option linter.all false
open Go.RowKit
attribute [local simp] qabj qabi qaaw qaa2 qaax qaa1 qabg qabh qaap qab2 SOp.run SX.ev putd puts argS upds SOp.touch SSt.keep SSt.skip gets geth puth delh idOf SV.cells? setL qadu qadv sbin eq0 eq1 eqL qadr qacr qacs qaau qabk qaaf qabl qab3 qaai qaak FrzOk qaa5 qaaz qaa3 qaa4 qaaq qaay qabm qaa0 qaas qaa6 qaar frzS frzH frz frz1 frz0 SlotsM ObjsM ObjM rn ren ren1 ren0 qab6 qacp qacu qab5 qabn qacv qact CoL qaa7 qab7 dels adds idsH qabt
attribute [local simp] qaeh refc qaee qaea qacl opc actc tabc qaef qacc nums wayc
instance : PureF wayc := ⟨fun _ _ => rfl, fun _ => rfl, fun _ => qaba _ rfl⟩
theorem rbit_s (h : Int) (h0 : 0 ≤ h) (h1 : h < 64) (q : Nat) : SCalls Try.prog 97 [.int .i64 h] [] q (.int .u64 (bitB h).toNat) [] := by
 refine qabs ?_ (fun _ => rfl) (fun _ => rfl) rfl q
 refine qaal (N := 6) Try.func97 rfl rfl (by kernel_rfl) qaou (by simp) (by repeat' (first | exact trivial | refine And.intro ?_ ?_ | rfl | decide | exact PureR.ren _)) (by repeat' (first | exact trivial | refine And.intro ?_ ?_ | rfl | decide | exact PureR.ren _)) ?_
 rintro X hP hN hm
 unfold c_rbit
 have e := qa1x h0 h1
 rw [Int.one_mul] at e
 have e2 : IntKind.u64.wrap h = h := qand (by omega) (by omega)
 repeat' (first | (with_reducible refine zA ?_) | ((with_reducible refine qaad ?_); (try rw [hP]); simp -implicitDefEqProofs [*]) | ((with_reducible refine qaam ?_); (try simp only [qaau, qaaf, qaai])) | (with_reducible refine zM hm ?_) | fail)
 all_goals rfl
end Go.Proofs.Yticeaegpkpjjeaa
namespace Go.Proofs.Yticeaegpkpjjeaa
set_option linter.all false
open Go.RowKit
attribute [local simp] qabj qabi qaaw qaa2 qaax qaa1 qabg qabh qaap qab2 SOp.run SX.ev putd puts argS upds SOp.touch SSt.keep SSt.skip gets geth puth delh idOf SV.cells? setL qadu qadv sbin eq0 eq1 eqL qadr qacr qacs qaau qabk qaaf qabl qab3 qaai qaak FrzOk qaa5 qaaz qaa3 qaa4 qaaq qaay qabm qaa0 qaas qaa6 qaar frzS frzH frz frz1 frz0 SlotsM ObjsM ObjM rn ren ren1 ren0 qab6 qacp qacu qab5 qabn qacv qact CoL qaa7 qab7 dels adds idsH qabt
instance pureR_nil : PureR [] := ⟨fun _ => rfl, fun x hx => (by cases hx), fun x hx => (by cases hx)⟩
end Go.Proofs.Yticeaegpkpjjeaa
namespace Go.Proofs.Yticeaegpkpjjeaa
set_option linter.all false
open Go.RowKit
attribute [local simp] qabj qabi qaaw qaa2 qaax qaa1 qabg qabh qaap qab2 SOp.run SX.ev putd puts argS upds SOp.touch SSt.keep SSt.skip gets geth puth delh idOf SV.cells? setL qadu qadv sbin eq0 eq1 eqL qadr qacr qacs qaau qabk qaaf qabl qab3 qaai qaak FrzOk qaa5 qaaz qaa3 qaa4 qaaq qaay qabm qaa0 qaas qaa6 qaar frzS frzH frz frz1 frz0 SlotsM ObjsM ObjM rn ren ren1 ren0 qab6 qacp qacu qab5 qabn qacv qact CoL qaa7 qab7 dels adds idsH qabt
attribute [local simp] qaeh refc qaee qaea qacl opc actc tabc qaef qacc nums
def qa41 (h : HeadD) : Bool := decide (500 < (h.w.length : Int))
def qair (s : StateD) : Bool := decide (500 < (s.cases_.length : Int))
def gOp (o : OpD) : Bool := decide (500 < (o.e.length : Int))
def gAct (a : ActD) : Bool := decide (500 < (a.w.length : Int)) || decide (50 < (a.ops.length : Int)) || a.ops.any gOp
def gTab (t : TabD) : Bool := decide (500 < (t.keys.length : Int)) || decide (500 < (t.acts.length : Int)) || decide (500 < (t.args.length : Int))
def qakb (n : NodeD) : Bool := decide (500 < (n.e.length : Int))
def gTop (p : PlanD) : Bool := decide (50 < (p.heads.length : Int)) || decide (500 < (p.meta_.length : Int)) || decide (50 < (p.states.length : Int)) || decide (50 < (p.acts.length : Int)) || decide (50 < (p.tabs.length : Int)) || decide (50 < (p.nodes.length : Int)) || decide (500 < (p.out.length : Int))
def qahy (p : PlanD) : Bool := gTop p || (p.heads.any qa41 || (p.states.any qair || (p.acts.any gAct || (p.tabs.any gTab || p.nodes.any qakb))))
theorem qa2u {p : PlanD} (h : qahy p = false) : SmallP p := by
 unfold qahy at h
 simp only [Bool.or_eq_false_iff, List.any_eq_false] at h
 obtain ⟨h0, h1, h2, h3, h4, h5⟩ := h
 unfold gTop at h0
 simp only [Bool.or_eq_false_iff, decide_eq_false_iff_not] at h0
 obtain ⟨⟨⟨⟨⟨⟨a1, a2⟩, a3⟩, a4⟩, a5⟩, a6⟩, a7⟩ := h0
 refine ⟨by omega, by omega, by omega, by omega, by omega, by omega, by omega, fun x hx => ?_, fun x hx => ?_, fun x hx => ?_, fun x hx => ?_, fun x hx o ho => ?_, fun x hx => ?_, fun x hx => ?_⟩
 ·have := h1 x hx; unfold qa41 at this; rw [decide_eq_true_eq] at this; omega
 ·have := h2 x hx; unfold qair at this; rw [decide_eq_true_eq] at this; omega
 ·have := h3 x hx; unfold gAct at this; simp only [Bool.or_eq_true, decide_eq_true_eq] at this; omega
 ·have := h3 x hx; unfold gAct at this; simp only [Bool.or_eq_true, decide_eq_true_eq] at this; omega
 ·have := h3 x hx; unfold gAct at this; simp only [Bool.or_eq_true, decide_eq_true_eq, List.any_eq_true, not_or] at this
  have q : ¬ gOp o = true := fun hg => this.2 ⟨o, ho, hg⟩
  unfold gOp at q; rw [decide_eq_true_eq] at q; omega
 ·have := h4 x hx; unfold gTab at this; simp only [Bool.or_eq_true, decide_eq_true_eq] at this; omega
 ·have := h5 x hx; unfold qakb at this; rw [decide_eq_true_eq] at this; omega
set_option maxHeartbeats 8000000 in
theorem gplan_s (p : PlanD) (q : Nat) : SCalls Try.prog 9 [.agg (qacc p)] [] q (.bool (qahy p)) [] := by
 refine qabs ?_ (fun _ => rfl) (fun _ => rfl) rfl q
 refine qaal (N := 177) Try.func9 rfl rfl (by kernel_rfl) qak1 (by simp) (by repeat' (first | exact trivial | refine And.intro ?_ ?_ | rfl | decide | exact PureR.ren _)) (by repeat' (first | exact trivial | refine And.intro ?_ ?_ | rfl | decide | exact PureR.ren _)) ?_
 rintro X hP hN hm
 unfold c_gplan
 cases hT : gTop p
 ·have hF : qahy p = ((p.heads.drop 0).any qa41 || (p.states.any qair || (p.acts.any gAct || (p.tabs.any gTab || p.nodes.any qakb)))) := by unfold qahy; rw [hT]; rfl
  generalize qahy p = F at hF
  have a := hT
  unfold gTop at a
  simp only [Bool.or_eq_false_iff] at a
  obtain ⟨⟨⟨⟨⟨⟨a1, a2⟩, a3⟩, a4⟩, a5⟩, a6⟩, a7⟩ := a
  have b1 := of_decide_eq_false a1
  have b3 := of_decide_eq_false a3
  have b4 := of_decide_eq_false a4
  have b5 := of_decide_eq_false a5
  have b6 := of_decide_eq_false a6
  clear hT
  replace b1 := Lib.hid b1
  replace b3 := Lib.hid b3
  replace b4 := Lib.hid b4
  replace b5 := Lib.hid b5
  replace b6 := Lib.hid b6
  replace hF := Lib.hid hF
  repeat' (first | (with_reducible refine zA ?_) | ((with_reducible refine qaad ?_); (try rw [hP]); simp -implicitDefEqProofs [*]) | ((with_reducible refine qaae ?_); (try simp -implicitDefEqProofs [*])) | ((with_reducible refine qaab rfl (fun h => ?_) (fun h => ?_)) <;> have h' := h <;> (try simp at h') <;> (try subst h')) | fail)
  clear a1 a2 a3 a4 a5 a6 a7
  refine qaat (qabp (fun s (i : Nat) => s.turn [(3, .int .i64 i)] []) (fun i => i ≤ p.heads.length ∧ F = ((p.heads.drop i).any qa41 || (p.states.any qair || (p.acts.any gAct || (p.tabs.any gTab || p.nodes.any qakb))))) (fun i => p.heads.length - i) 0 ?_ ⟨by simp, hF.out⟩ ?_)
  ·repeat' (first | ((with_reducible refine qaag [] hm ?_ ?_ ?_ ?_) <;> (try simp only [zT, puth, Nat.reduceEqDiff, reduceIte, Nat.reduceAdd])) | (with_reducible first | refine za ?_ ?_ | refine zb ?_ ?_ ?_ ?_) | (with_reducible first | exact qaaa | exact qaac) | ((with_reducible first | refine zga ?_ | refine zgb ?_); rfl) | ((with_reducible refine zgd ?_); (first | omega | (simp; done))) | (exact Co.refl _) | (exact CoL.refl _) | fail)
  rintro J hJ i ⟨h1, h2⟩
  have hbb := b1.out
  clear hF
  unfold qaj4
  simp only [zT, puth, Nat.reduceEqDiff, reduceIte, Nat.reduceAdd] at h1 h2 ⊢
  rcases Nat.lt_or_ge i p.heads.length with hi | hi
  ·rw [qadq _ hi] at h2
   generalize hxx : p.heads[i] = x at h2
   have wi : IntKind.i64.wrap ((i : Int) + 1) = (i : Int) + 1 := qaav (by omega) (by omega)
   cases hv : qa41 x <;> rw [hv] at h2 <;> replace h2 := Lib.hid h2 <;> unfold qa41 at hv
   ·repeat' (first | (with_reducible first | refine zA ?_ | refine qaah ?_) | ((with_reducible refine qaad ?_); (try rw [hP]); simp -implicitDefEqProofs [qac3, *]) | ((with_reducible refine qaae ?_); (try simp -implicitDefEqProofs [qac3, *])) | ((with_reducible refine qaab rfl (fun h => ?_) (fun h => ?_)) <;> have h' := h <;> (try simp at h') <;> (try subst h')) | (with_reducible first | refine za ?_ ?_ | refine zb ?_ ?_ ?_ ?_) | (with_reducible first | exact qaaa | exact qaac) | ((with_reducible first | refine zga ?_ | refine zgb ?_); rfl) | ((with_reducible first | refine zgd ?_ | refine zge ?_); (first | omega | (simp; done))) | (exact Co.refl _) | (exact CoL.refl _) | ((refine qaaj hJ (i + 1) ?_ ?_ ?_; (with_reducible refine qaag [] hm ?_ ?_ ?_ ?_) <;> (try simp only [zT, puth, Nat.reduceEqDiff, reduceIte, Nat.reduceAdd]))) | fail)
    exact ⟨by omega, by rw [h2.out, Bool.false_or]⟩
   ·repeat' (first | (with_reducible first | refine zA ?_ | refine qaah ?_) | ((with_reducible refine qaad ?_); (try rw [hP]); simp -implicitDefEqProofs [qac3, *]) | ((with_reducible refine qaae ?_); (try simp -implicitDefEqProofs [qac3, *])) | ((with_reducible refine qaam ?_); (try simp only [qaau, qaaf, qaai])) | ((with_reducible refine qaab rfl (fun h => ?_) (fun h => ?_)) <;> have h' := h <;> (try simp at h') <;> (try subst h')) | (with_reducible refine zN hm ?_) | fail)
    rw [h2.out]; rfl
  ·obtain rfl : i = p.heads.length := by omega
   have hF : F = ((p.states.drop 0).any qair || (p.acts.any gAct || (p.tabs.any gTab || p.nodes.any qakb))) := by rw [h2, List.drop_length]; rfl
   clear h2 h1 hi hbb hJ
   replace hF := Lib.hid hF
   repeat' (first | (with_reducible refine zA ?_) | ((with_reducible refine qaad ?_); (try rw [hP]); simp -implicitDefEqProofs [*]) | ((with_reducible refine qaao ?_); (try simp -implicitDefEqProofs [*])) | ((with_reducible refine qaab rfl (fun h => ?_) (fun h => ?_)) <;> have h' := h <;> (try simp at h') <;> (try subst h')) | fail)
   refine qaat (qabp (fun s (i : Nat) => s.turn [(4, .int .i64 i)] []) (fun i => i ≤ p.states.length ∧ F = ((p.states.drop i).any qair || (p.acts.any gAct || (p.tabs.any gTab || p.nodes.any qakb)))) (fun i => p.states.length - i) 0 ?_ ⟨by simp, hF.out⟩ ?_)
   ·repeat' (first | ((with_reducible refine qaag [] hm ?_ ?_ ?_ ?_) <;> (try simp only [zT, puth, Nat.reduceEqDiff, reduceIte, Nat.reduceAdd])) | (with_reducible first | refine za ?_ ?_ | refine zb ?_ ?_ ?_ ?_) | (with_reducible first | exact qaaa | exact qaac) | ((with_reducible first | refine zga ?_ | refine zgb ?_); rfl) | ((with_reducible refine zgd ?_); (first | omega | (simp; done))) | (exact Co.refl _) | (exact CoL.refl _) | fail)
   rintro J hJ i ⟨h1, h2⟩
   have hbb := b3.out
   clear hF
   unfold qaj3
   simp only [zT, puth, Nat.reduceEqDiff, reduceIte, Nat.reduceAdd] at h1 h2 ⊢
   rcases Nat.lt_or_ge i p.states.length with hi | hi
   ·rw [qadq _ hi] at h2
    generalize hxx : p.states[i] = x at h2
    have wi : IntKind.i64.wrap ((i : Int) + 1) = (i : Int) + 1 := qaav (by omega) (by omega)
    cases hv : qair x <;> rw [hv] at h2 <;> replace h2 := Lib.hid h2 <;> unfold qair at hv
    ·repeat' (first | (with_reducible first | refine zA ?_ | refine qaah ?_) | ((with_reducible refine qaad ?_); (try rw [hP]); simp -implicitDefEqProofs [qac3, *]) | ((with_reducible refine qaae ?_); (try simp -implicitDefEqProofs [qac3, *])) | ((with_reducible refine qaab rfl (fun h => ?_) (fun h => ?_)) <;> have h' := h <;> (try simp at h') <;> (try subst h')) | (with_reducible first | refine za ?_ ?_ | refine zb ?_ ?_ ?_ ?_) | (with_reducible first | exact qaaa | exact qaac) | ((with_reducible first | refine zga ?_ | refine zgb ?_); rfl) | ((with_reducible first | refine zgd ?_ | refine zge ?_); (first | omega | (simp; done))) | (exact Co.refl _) | (exact CoL.refl _) | ((refine qaaj hJ (i + 1) ?_ ?_ ?_; (with_reducible refine qaag [] hm ?_ ?_ ?_ ?_) <;> (try simp only [zT, puth, Nat.reduceEqDiff, reduceIte, Nat.reduceAdd]))) | fail)
     exact ⟨by omega, by rw [h2.out, Bool.false_or]⟩
    ·repeat' (first | (with_reducible first | refine zA ?_ | refine qaah ?_) | ((with_reducible refine qaad ?_); (try rw [hP]); simp -implicitDefEqProofs [qac3, *]) | ((with_reducible refine qaae ?_); (try simp -implicitDefEqProofs [qac3, *])) | ((with_reducible refine qaam ?_); (try simp only [qaau, qaaf, qaai])) | ((with_reducible refine qaab rfl (fun h => ?_) (fun h => ?_)) <;> have h' := h <;> (try simp at h') <;> (try subst h')) | (with_reducible refine zN hm ?_) | fail)
     rw [h2.out]; rfl
   ·obtain rfl : i = p.states.length := by omega
    have hF : F = ((p.acts.drop 0).any gAct || (p.tabs.any gTab || p.nodes.any qakb)) := by rw [h2, List.drop_length]; rfl
    clear h2 h1 hi hbb hJ
    replace hF := Lib.hid hF
    repeat' (first | (with_reducible refine zA ?_) | ((with_reducible refine qaad ?_); (try rw [hP]); simp -implicitDefEqProofs [*]) | ((with_reducible refine qaao ?_); (try simp -implicitDefEqProofs [*])) | ((with_reducible refine qaab rfl (fun h => ?_) (fun h => ?_)) <;> have h' := h <;> (try simp at h') <;> (try subst h')) | fail)
    refine qaat (qabp (fun s (i : Nat) => s.turn [(5, .int .i64 i)] []) (fun i => i ≤ p.acts.length ∧ F = ((p.acts.drop i).any gAct || (p.tabs.any gTab || p.nodes.any qakb))) (fun i => p.acts.length - i) 0 ?_ ⟨by simp, hF.out⟩ ?_)
    ·repeat' (first | ((with_reducible refine qaag [] hm ?_ ?_ ?_ ?_) <;> (try simp only [zT, puth, Nat.reduceEqDiff, reduceIte, Nat.reduceAdd])) | (with_reducible first | refine za ?_ ?_ | refine zb ?_ ?_ ?_ ?_) | (with_reducible first | exact qaaa | exact qaac) | ((with_reducible first | refine zga ?_ | refine zgb ?_); rfl) | ((with_reducible refine zgd ?_); (first | omega | (simp; done))) | (exact Co.refl _) | (exact CoL.refl _) | fail)
    rintro J hJ i ⟨h1, h2⟩
    have hbb := b4.out
    have hJo := hJ
    clear hF
    unfold qaj1
    simp only [zT, puth, Nat.reduceEqDiff, reduceIte, Nat.reduceAdd] at h1 h2 ⊢
    rcases Nat.lt_or_ge i p.acts.length with hi | hi
    ·rw [qadq _ hi] at h2
     generalize hxx : p.acts[i] = x at h2
     have wi : IntKind.i64.wrap ((i : Int) + 1) = (i : Int) + 1 := qaav (by omega) (by omega)
     unfold gAct at h2
     cases v1 : decide (500 < (x.w.length : Int)) <;> rw [v1] at h2
     rotate_left
     ·rw [Bool.true_or, Bool.true_or, Bool.true_or] at h2
      replace h2 := Lib.hid h2
      repeat' (first | (with_reducible first | refine zA ?_ | refine qaah ?_) | ((with_reducible refine qaad ?_); (try rw [hP]); simp -implicitDefEqProofs [*]) | ((with_reducible refine qaae ?_); (try simp -implicitDefEqProofs [*])) | ((with_reducible refine qaam ?_); (try simp only [qaau, qaaf, qaai])) | ((with_reducible refine qaab rfl (fun h => ?_) (fun h => ?_)) <;> have h' := h <;> (try simp at h') <;> (try subst h')) | (with_reducible refine zN hm ?_) | fail)
      rw [h2.out]; rfl
     cases v2 : decide (50 < (x.ops.length : Int)) <;> rw [v2] at h2
     rotate_left
     ·rw [Bool.or_true, Bool.true_or, Bool.true_or] at h2
      replace h2 := Lib.hid h2
      repeat' (first | (with_reducible first | refine zA ?_ | refine qaah ?_) | ((with_reducible refine qaad ?_); (try rw [hP]); simp -implicitDefEqProofs [*]) | ((with_reducible refine qaae ?_); (try simp -implicitDefEqProofs [*])) | ((with_reducible refine qaam ?_); (try simp only [qaau, qaaf, qaai])) | ((with_reducible refine qaab rfl (fun h => ?_) (fun h => ?_)) <;> have h' := h <;> (try simp at h') <;> (try subst h')) | (with_reducible refine zN hm ?_) | fail)
      rw [h2.out]; rfl
     have h3 : F = ((x.ops.drop 0).any gOp || ((p.acts.drop (i + 1)).any gAct || (p.tabs.any gTab || p.nodes.any qakb))) := by rw [h2, Bool.or_assoc, Bool.or_assoc]; rfl
     have b2 := of_decide_eq_false v2
     replace h2 := Lib.hid h2
     replace h3 := Lib.hid h3
     replace b2 := Lib.hid b2
     repeat' (first | (with_reducible first | refine zA ?_ | refine qaah ?_) | ((with_reducible refine qaad ?_); (try rw [hP]); simp -implicitDefEqProofs [*]) | ((with_reducible refine qaae ?_); (try simp -implicitDefEqProofs [*])) | ((with_reducible refine qaab rfl (fun h => ?_) (fun h => ?_)) <;> have h' := h <;> (try simp at h') <;> (try subst h')) | fail)
     clear v1 v2
     refine qaat (qabp (fun s (k : Nat) => s.turn [(6, .int .i64 k)] []) (fun k => k ≤ x.ops.length ∧ F = ((x.ops.drop k).any gOp || ((p.acts.drop (i + 1)).any gAct || (p.tabs.any gTab || p.nodes.any qakb)))) (fun k => x.ops.length - k) 0 ?_ ⟨by simp, h3.out⟩ ?_)
     ·repeat' (first | ((with_reducible refine qaag [] hm ?_ ?_ ?_ ?_) <;> (try simp only [zT, puth, Nat.reduceEqDiff, reduceIte, Nat.reduceAdd])) | (with_reducible first | refine za ?_ ?_ | refine zb ?_ ?_ ?_ ?_) | (with_reducible first | exact qaaa | exact qaac) | ((with_reducible first | refine zga ?_ | refine zgb ?_); rfl) | ((with_reducible refine zgd ?_); (first | omega | (simp; done))) | (exact Co.refl _) | (exact CoL.refl _) | fail)
     rintro J hJ k ⟨h4, h5⟩
     have hb2 := b2.out
     unfold qaj2
     simp only [zT, puth, Nat.reduceEqDiff, reduceIte, Nat.reduceAdd] at h4 h5 ⊢
     rcases Nat.lt_or_ge k x.ops.length with hk | hk
     ·rw [qadq _ hk] at h5
      generalize hyy : x.ops[k] = y at h5
      have wk1 : IntKind.i64.wrap ((k : Int) + 1) = (k : Int) + 1 := qaav (by omega) (by omega)
      cases hv : gOp y <;> rw [hv] at h5 <;> replace h5 := Lib.hid h5 <;> unfold gOp at hv
      ·repeat' (first | (with_reducible first | refine zA ?_ | refine qaah ?_) | ((with_reducible refine qaad ?_); (try rw [hP]); simp -implicitDefEqProofs [qac3, *]) | ((with_reducible refine qaae ?_); (try simp -implicitDefEqProofs [qac3, *])) | ((with_reducible refine qaab rfl (fun h => ?_) (fun h => ?_)) <;> have h' := h <;> (try simp at h') <;> (try subst h')) | (with_reducible first | refine za ?_ ?_ | refine zb ?_ ?_ ?_ ?_) | (with_reducible first | exact qaaa | exact qaac) | ((with_reducible first | refine zga ?_ | refine zgb ?_); rfl) | ((with_reducible first | refine zgd ?_ | refine zge ?_); (first | omega | (simp; done))) | (exact Co.refl _) | (exact CoL.refl _) | ((refine qaaj hJ (k + 1) ?_ ?_ ?_; (with_reducible refine qaag [] hm ?_ ?_ ?_ ?_) <;> (try simp only [zT, puth, Nat.reduceEqDiff, reduceIte, Nat.reduceAdd]))) | fail)
       exact ⟨by omega, by rw [h5.out, Bool.false_or]⟩
      ·repeat' (first | (with_reducible first | refine zA ?_ | refine qaah ?_) | ((with_reducible refine qaad ?_); (try rw [hP]); simp -implicitDefEqProofs [qac3, *]) | ((with_reducible refine qaae ?_); (try simp -implicitDefEqProofs [qac3, *])) | ((with_reducible refine qaam ?_); (try simp only [qaau, qaaf, qaai])) | ((with_reducible refine qaab rfl (fun h => ?_) (fun h => ?_)) <;> have h' := h <;> (try simp at h') <;> (try subst h')) | (with_reducible refine zN hm ?_) | fail)
       rw [h5.out]; rfl
     ·obtain rfl : k = x.ops.length := by omega
      rw [List.drop_length] at h5
      replace h5 := Lib.hid h5
      repeat' (first | (with_reducible refine zA ?_) | ((with_reducible refine qaad ?_); (try rw [hP]); simp -implicitDefEqProofs [*]) | ((with_reducible refine qaao ?_); (try simp -implicitDefEqProofs [*])) | ((with_reducible refine qaab rfl (fun h => ?_) (fun h => ?_)) <;> have h' := h <;> (try simp at h') <;> (try subst h')) | (with_reducible first | refine za ?_ ?_ | refine zb ?_ ?_ ?_ ?_) | (with_reducible first | exact qaaa | exact qaac) | ((with_reducible first | refine zga ?_ | refine zgb ?_); rfl) | ((with_reducible first | refine zgd ?_ | refine zge ?_); (first | omega | (simp; done))) | (exact Co.refl _) | (exact CoL.refl _) | ((refine qaaj hJo (i + 1) ?_ ?_ ?_; (with_reducible refine qaag [] hm ?_ ?_ ?_ ?_) <;> (try simp only [zT, puth, Nat.reduceEqDiff, reduceIte, Nat.reduceAdd]))) | fail)
      exact ⟨by omega, by rw [h5.out]; rfl⟩
    ·obtain rfl : i = p.acts.length := by omega
     have hF : F = ((p.tabs.drop 0).any gTab || p.nodes.any qakb) := by rw [h2, List.drop_length]; rfl
     clear h2 h1 hi hbb hJ hJo
     replace hF := Lib.hid hF
     repeat' (first | (with_reducible refine zA ?_) | ((with_reducible refine qaad ?_); (try rw [hP]); simp -implicitDefEqProofs [*]) | ((with_reducible refine qaao ?_); (try simp -implicitDefEqProofs [*])) | ((with_reducible refine qaab rfl (fun h => ?_) (fun h => ?_)) <;> have h' := h <;> (try simp at h') <;> (try subst h')) | fail)
     refine qaat (qabp (fun s (i : Nat) => s.turn [(7, .int .i64 i)] []) (fun i => i ≤ p.tabs.length ∧ F = ((p.tabs.drop i).any gTab || p.nodes.any qakb)) (fun i => p.tabs.length - i) 0 ?_ ⟨by simp, hF.out⟩ ?_)
     ·repeat' (first | ((with_reducible refine qaag [] hm ?_ ?_ ?_ ?_) <;> (try simp only [zT, puth, Nat.reduceEqDiff, reduceIte, Nat.reduceAdd])) | (with_reducible first | refine za ?_ ?_ | refine zb ?_ ?_ ?_ ?_) | (with_reducible first | exact qaaa | exact qaac) | ((with_reducible first | refine zga ?_ | refine zgb ?_); rfl) | ((with_reducible refine zgd ?_); (first | omega | (simp; done))) | (exact Co.refl _) | (exact CoL.refl _) | fail)
     rintro J hJ i ⟨h1, h2⟩
     have hbb := b5.out
     clear hF
     unfold qaj0
     simp only [zT, puth, Nat.reduceEqDiff, reduceIte, Nat.reduceAdd] at h1 h2 ⊢
     rcases Nat.lt_or_ge i p.tabs.length with hi | hi
     ·rw [qadq _ hi] at h2
      generalize hxx : p.tabs[i] = x at h2
      have wi : IntKind.i64.wrap ((i : Int) + 1) = (i : Int) + 1 := qaav (by omega) (by omega)
      cases hv : gTab x <;> rw [hv] at h2 <;> replace h2 := Lib.hid h2
      ·unfold gTab at hv
       simp only [Bool.or_eq_false_iff] at hv
       obtain ⟨⟨v1, v2⟩, v3⟩ := hv
       repeat' (first | (with_reducible first | refine zA ?_ | refine qaah ?_) | ((with_reducible refine qaad ?_); (try rw [hP]); simp -implicitDefEqProofs [*]) | ((with_reducible refine qaae ?_); (try simp -implicitDefEqProofs [*])) | ((with_reducible refine qaab rfl (fun h => ?_) (fun h => ?_)) <;> have h' := h <;> (try simp at h') <;> (try subst h')) | (with_reducible first | refine za ?_ ?_ | refine zb ?_ ?_ ?_ ?_) | (with_reducible first | exact qaaa | exact qaac) | ((with_reducible first | refine zga ?_ | refine zgb ?_); rfl) | ((with_reducible first | refine zgd ?_ | refine zge ?_); (first | omega | (simp; done))) | (exact Co.refl _) | (exact CoL.refl _) | ((refine qaaj hJ (i + 1) ?_ ?_ ?_; (with_reducible refine qaag [] hm ?_ ?_ ?_ ?_) <;> (try simp only [zT, puth, Nat.reduceEqDiff, reduceIte, Nat.reduceAdd]))) | fail)
       exact ⟨by omega, by rw [h2.out, Bool.false_or]⟩
      ·replace hv := Lib.hid hv
       repeat' (first | (with_reducible first | refine zA ?_ | refine qaah ?_) | ((with_reducible refine qaad ?_); (try rw [hP]); simp -implicitDefEqProofs [*]) | ((with_reducible refine qaae ?_); (try simp -implicitDefEqProofs [*])) | ((with_reducible refine qaam ?_); (try simp only [qaau, qaaf, qaai])) | ((with_reducible refine qaab rfl (fun h => ?_) (fun h => ?_)) <;> have h' := h <;> (try simp at h') <;> (try subst h')) | ((with_reducible refine qaa9 (fun h => ?_) (fun h => ?_)) <;> have h' := h <;> (try simp at h') <;> (try subst h') <;> simp -implicitDefEqProofs [*]) | (with_reducible refine zN hm ?_) | (with_reducible first | refine za ?_ ?_ | refine zb ?_ ?_ ?_ ?_) | (with_reducible first | exact qaaa | exact qaac) | ((with_reducible first | refine zga ?_ | refine zgb ?_); rfl) | ((with_reducible first | refine zgd ?_ | refine zge ?_); (first | omega | (simp; done))) | (exact Co.refl _) | (exact CoL.refl _) | ((refine qaaj hJ (i + 1) ?_ ?_ ?_; (with_reducible refine qaag [] hm ?_ ?_ ?_ ?_) <;> (try simp only [zT, puth, Nat.reduceEqDiff, reduceIte, Nat.reduceAdd]))) | fail)
       all_goals (first | (rw [h2.out]; rfl) | (exfalso; have q := hv.out; unfold gTab at q; simp only [Bool.or_eq_true, decide_eq_true_eq] at q; omega))
     ·obtain rfl : i = p.tabs.length := by omega
      have hF : F = ((p.nodes.drop 0).any qakb || false) := by rw [h2, List.drop_length]; simp
      clear h2 h1 hi hbb hJ
      replace hF := Lib.hid hF
      repeat' (first | (with_reducible refine zA ?_) | ((with_reducible refine qaad ?_); (try rw [hP]); simp -implicitDefEqProofs [*]) | ((with_reducible refine qaao ?_); (try simp -implicitDefEqProofs [*])) | ((with_reducible refine qaab rfl (fun h => ?_) (fun h => ?_)) <;> have h' := h <;> (try simp at h') <;> (try subst h')) | fail)
      refine qaat (qabp (fun s (i : Nat) => s.turn [(8, .int .i64 i)] []) (fun i => i ≤ p.nodes.length ∧ F = ((p.nodes.drop i).any qakb || false)) (fun i => p.nodes.length - i) 0 ?_ ⟨by simp, hF.out⟩ ?_)
      ·repeat' (first | ((with_reducible refine qaag [] hm ?_ ?_ ?_ ?_) <;> (try simp only [zT, puth, Nat.reduceEqDiff, reduceIte, Nat.reduceAdd])) | (with_reducible first | refine za ?_ ?_ | refine zb ?_ ?_ ?_ ?_) | (with_reducible first | exact qaaa | exact qaac) | ((with_reducible first | refine zga ?_ | refine zgb ?_); rfl) | ((with_reducible refine zgd ?_); (first | omega | (simp; done))) | (exact Co.refl _) | (exact CoL.refl _) | fail)
      rintro J hJ i ⟨h1, h2⟩
      have hbb := b6.out
      clear hF
      unfold qajz
      simp only [zT, puth, Nat.reduceEqDiff, reduceIte, Nat.reduceAdd] at h1 h2 ⊢
      rcases Nat.lt_or_ge i p.nodes.length with hi | hi
      ·rw [qadq _ hi] at h2
       generalize hxx : p.nodes[i] = x at h2
       have wi : IntKind.i64.wrap ((i : Int) + 1) = (i : Int) + 1 := qaav (by omega) (by omega)
       cases hv : qakb x <;> rw [hv] at h2 <;> replace h2 := Lib.hid h2 <;> unfold qakb at hv
       ·repeat' (first | (with_reducible first | refine zA ?_ | refine qaah ?_) | ((with_reducible refine qaad ?_); (try rw [hP]); simp -implicitDefEqProofs [qac3, *]) | ((with_reducible refine qaae ?_); (try simp -implicitDefEqProofs [qac3, *])) | ((with_reducible refine qaab rfl (fun h => ?_) (fun h => ?_)) <;> have h' := h <;> (try simp at h') <;> (try subst h')) | (with_reducible first | refine za ?_ ?_ | refine zb ?_ ?_ ?_ ?_) | (with_reducible first | exact qaaa | exact qaac) | ((with_reducible first | refine zga ?_ | refine zgb ?_); rfl) | ((with_reducible first | refine zgd ?_ | refine zge ?_); (first | omega | (simp; done))) | (exact Co.refl _) | (exact CoL.refl _) | ((refine qaaj hJ (i + 1) ?_ ?_ ?_; (with_reducible refine qaag [] hm ?_ ?_ ?_ ?_) <;> (try simp only [zT, puth, Nat.reduceEqDiff, reduceIte, Nat.reduceAdd]))) | fail)
        exact ⟨by omega, by rw [h2.out, Bool.false_or]⟩
       ·repeat' (first | (with_reducible first | refine zA ?_ | refine qaah ?_) | ((with_reducible refine qaad ?_); (try rw [hP]); simp -implicitDefEqProofs [qac3, *]) | ((with_reducible refine qaae ?_); (try simp -implicitDefEqProofs [qac3, *])) | ((with_reducible refine qaam ?_); (try simp only [qaau, qaaf, qaai])) | ((with_reducible refine qaab rfl (fun h => ?_) (fun h => ?_)) <;> have h' := h <;> (try simp at h') <;> (try subst h')) | (with_reducible refine zN hm ?_) | fail)
        rw [h2.out]; rfl
      ·obtain rfl : i = p.nodes.length := by omega
       rw [List.drop_length] at h2
       replace h2 := Lib.hid h2
       repeat' (first | (with_reducible refine zA ?_) | ((with_reducible refine qaad ?_); (try rw [hP]); simp -implicitDefEqProofs [*]) | ((with_reducible refine qaao ?_); (try simp -implicitDefEqProofs [*])) | ((with_reducible refine qaam ?_); (try simp only [qaau, qaaf, qaai])) | ((with_reducible refine qaab rfl (fun h => ?_) (fun h => ?_)) <;> have h' := h <;> (try simp at h') <;> (try subst h')) | (with_reducible refine zN hm ?_) | fail)
       rw [h2.out]; rfl
 ·have hz : qahy p = true := by unfold qahy; rw [hT]; rfl
  rw [hz]
  replace hT := Lib.hid hT
  repeat' (first | (with_reducible refine zA ?_) | ((with_reducible refine qaad ?_); (try rw [hP]); simp -implicitDefEqProofs [*]) | ((with_reducible refine qaae ?_); (try simp -implicitDefEqProofs [*])) | ((with_reducible refine qaam ?_); (try simp only [qaau, qaaf, qaai])) | ((with_reducible refine qaab rfl (fun h => ?_) (fun h => ?_)) <;> have h' := h <;> (try simp at h') <;> (try subst h')) | ((with_reducible refine qaa9 (fun h => ?_) (fun h => ?_)) <;> have h' := h <;> (try simp at h') <;> (try subst h') <;> simp -implicitDefEqProofs [*]) | (with_reducible refine zN hm ?_) | fail)
  all_goals (first | rfl | (exfalso; have q := hT.out; unfold gTop at q; simp only [Bool.or_eq_true, decide_eq_true_eq] at q; omega))
end Go.Proofs.Yticeaegpkpjjeaa
namespace Go.Proofs.Yticeaegpkpjjeaa
set_option linter.all false
open Go.RowKit
attribute [local simp] qabj qabi qaaw qaa2 qaax qaa1 qabg qabh qaap qab2 SOp.run SX.ev putd puts argS upds SOp.touch SSt.keep SSt.skip gets geth puth delh idOf SV.cells? setL qadu qadv sbin eq0 eq1 eqL qadr qacr qacs qaau qabk qaaf qabl qab3 qaai qaak FrzOk qaa5 qaaz qaa3 qaa4 qaaq qaay qabm qaa0 qaas qaa6 qaar frzS frzH frz frz1 frz0 SlotsM ObjsM ObjM rn ren ren1 ren0 qab6 qacp qacu qab5 qabn qacv qact CoL qaa7 qab7 dels adds idsH qabt
attribute [local simp] qaeh refc qaee qaea qacl opc actc tabc qaef qacc nums
theorem coL_at : ∀ {xs ys : List SV} {j : Nat} {y : SV}, CoL xs ys → ys[j]? = some y → ∃ x, xs[j]? = some x ∧ Co x y
 | x :: xs, y :: ys, 0, _, h, hy => by cases hy; exact ⟨x, rfl, h.1⟩
 | x :: xs, y :: ys, j + 1, _, h, hy => coL_at (xs := xs) (ys := ys) (j := j) h.2 (by simpa using hy)
 | [], [], _, _, _, hy => by simp at hy
 | [], _ :: _, _, _, h, _ => h.elim
 | _ :: _, [], _, _, h, _ => h.elim
theorem qa2h : ∀ {xs ys : List (List SV)} {j : Nat} {y : List SV}, CoLL xs ys → ys[j]? = some y → ∃ x, xs[j]? = some x ∧ CoL x y
 | x :: xs, y :: ys, 0, _, h, hy => by cases hy; exact ⟨x, rfl, h.1⟩
 | x :: xs, y :: ys, j + 1, _, h, hy => qa2h (xs := xs) (ys := ys) (j := j) h.2 (by simpa using hy)
 | [], [], _, _, _, hy => by simp at hy
 | [], _ :: _, _, _, h, _ => h.elim
 | _ :: _, [], _, _, h, _ => h.elim
theorem qa33 {z : Nat} {xs ys : List (List SV)} (h : CoLL xs ys) : Co (.view z xs) (.view z ys) := fun w A ρ v hv => by
 cases hv with
 | view0 hc ha =>
  have : ys = [] := List.eq_nil_of_length_eq_zero (by rw [← h.length]; rfl)
  subst this; exact .view0 hc ha
 | view cv hn hc hm hA hb hs h1 h2 ho =>
  refine .view cv (by rw [← h.length]; exact hn) hc hm hA hb (h.sizes hs) (fun i e j x he hx => ?_) (fun i e j x he hx => ?_) (fun i e j x he hx => ?_)
  all_goals
   obtain ⟨e', he', hl⟩ := qa2h h he
   obtain ⟨x', hx', hc'⟩ := coL_at hl hx
  ·exact h1 i e' j x' he' hx'
  ·exact hc' _ _ _ _ (h2 i e' j x' he' hx')
  ·exact ho i e' j x' he' hx'
end Go.Proofs.Yticeaegpkpjjeaa
namespace Go.Proofs.Yticeaegpkpjjeaa
set_option linter.all false
open Go.RowKit Go.ChangeShapes Go.WideShapes
attribute [local simp] qabj qabi qaaw qaa2 qaax qaa1 qabg qabh qaap qab2 SOp.run SX.ev putd puts argS upds SOp.touch SSt.keep SSt.skip gets geth puth delh idOf SV.cells? setL qadu qadv sbin eq0 eq1 eqL qadr qacr qacs qaau qabk qaaf qabl qab3 qaai qaak FrzOk qaa5 qaaz qaa3 qaa4 qaaq qaay qabm qaa0 qaas qaa6 qaar frzS frzH frz frz1 frz0 SlotsM ObjsM ObjM rn ren ren1 ren0 qab6 qacp qacu qab5 qabn qacv qact CoL qaa7 qab7 dels adds idsH qabt
attribute [local simp] qaeh refc qaee qaea qacl opc actc tabc qaef qacc nums
theorem opens_ref : Opens Try.prog 102 qaf5 := by
 have h : Opens Try.prog 102 (Lay.pair (Lay.int .i64) (Lay.int .i64)) :=
  Opens.struct Try.underlying102 (OpensF.cons opensI rfl (OpensF.one opensI rfl)) (by kernel_rfl) (by decide)
 refine h.weak rfl ?_
 rintro w ⟨a, b⟩ cs hr
 exact ⟨⟨a, b⟩, hr⟩
theorem opens_push : Opens Try.prog 137 qaff := by
 have h : Opens Try.prog 137 (Lay.pair i64L (Lay.pair qaf5 u64L)) :=
  Opens.struct Try.underlying137 (OpensF.cons opensI rfl (OpensF.cons opens_ref rfl (OpensF.one opensU rfl))) (by kernel_rfl) (by decide)
 refine h.weak rfl ?_
 rintro w ⟨a, b, c⟩ cs hr
 exact ⟨⟨a, b, c⟩, hr⟩
theorem qaim : Opens Try.prog 23 (Lay.slice (Lay.int .i64)) := opensI.slice Try.underlying23 (by kernel_rfl)
theorem opens_head : Opens Try.prog 100 qaiq := by
 have h : Opens Try.prog 100 (Lay.slice i64L) :=
  Opens.struct Try.underlying100 (OpensF.one qaim rfl) (by kernel_rfl) (by decide)
 refine h.weak rfl ?_
 rintro w a cs hr
 exact ⟨⟨a⟩, hr⟩
theorem opens_case : Opens Try.prog 176 qai6 := by
 have h : Opens Try.prog 176 (Lay.pair u64L (Lay.pair u64L i64L)) :=
  Opens.struct Try.underlying176 (OpensF.cons opensU rfl (OpensF.cons opensU rfl (OpensF.one opensI rfl))) (by kernel_rfl) (by decide)
 refine h.weak rfl ?_
 rintro w ⟨a, b, c⟩ cs hr
 exact ⟨⟨a, b, c⟩, hr⟩
set_option maxRecDepth 20000 in
theorem opens_state : Opens Try.prog 105 qaf1 := by
 have h : Opens Try.prog 105 (Lay.pair i64L (Lay.pair qaf5 (Lay.pair (Lay.slice qai6) i64L))) :=
  Opens.struct Try.underlying105 (OpensF.cons opensI rfl (OpensF.cons opens_ref rfl (OpensF.cons (opens_case.slice Try.underlying103 (by kernel_rfl)) rfl (OpensF.one opensI rfl)))) (by kernel_rfl) (by decide)
 refine h.weak rfl ?_
 rintro w ⟨a, b, c, d⟩ cs hr
 exact ⟨⟨a, b, c, d⟩, hr⟩
theorem qaf6 : Opens Try.prog 109 (Lay.slice qaff) := opens_push.slice Try.underlying109 (by kernel_rfl)
set_option maxRecDepth 20000 in
theorem opens_op : Opens Try.prog 111 opLay := by
 have h : Opens Try.prog 111 (Lay.pair i64L (Lay.pair qaf5 (Lay.pair i64L (Lay.slice qaff)))) :=
  Opens.struct Try.underlying111 (OpensF.cons opensI rfl (OpensF.cons opens_ref rfl (OpensF.cons opensI rfl (OpensF.one qaf6 rfl)))) (by kernel_rfl) (by decide)
 refine h.weak rfl ?_
 rintro w ⟨a, b, c, d⟩ cs hr
 exact ⟨⟨a, b, c, d⟩, hr⟩
set_option maxRecDepth 20000 in
theorem opens_act : Opens Try.prog 108 qayp := by
 have h : Opens Try.prog 108 (Lay.pair (Lay.slice i64L) (Lay.slice opLay)) :=
  Opens.struct Try.underlying108 (OpensF.cons qaim rfl (OpensF.one (opens_op.slice Try.underlying106 (by kernel_rfl)) rfl)) (by kernel_rfl) (by decide)
 refine h.weak rfl ?_
 rintro w ⟨a, b⟩ cs hr
 exact ⟨⟨a, b⟩, hr⟩
set_option maxRecDepth 20000 in
theorem opens_tab : Opens Try.prog 114 qasv := by
 have h : Opens Try.prog 114 (Lay.pair i64L (Lay.pair (Lay.slice qaf5) (Lay.pair (Lay.slice i64L) (Lay.pair i64L (Lay.pair i64L (Lay.slice u64L)))))) :=
  Opens.struct Try.underlying114 (OpensF.cons opensI rfl (OpensF.cons (opens_ref.slice Try.underlying112 (by kernel_rfl)) rfl (OpensF.cons qaim rfl (OpensF.cons opensI rfl (OpensF.cons opensI rfl (OpensF.one opensN rfl)))))) (by kernel_rfl) (by decide)
 refine h.weak rfl ?_
 rintro w ⟨a, b, c, d, e, f⟩ cs hr
 exact ⟨⟨a, b, c, d, e, f⟩, hr⟩
set_option maxRecDepth 20000 in
theorem opens_node : Opens Try.prog 116 qain := by
 have h : Opens Try.prog 116 (Lay.pair i64L (Lay.pair i64L (Lay.pair (Lay.slice qaff) (Lay.pair i64L i64L)))) :=
  Opens.struct Try.underlying116 (OpensF.cons opensI rfl (OpensF.cons opensI rfl (OpensF.cons qaf6 rfl (OpensF.cons opensI rfl (OpensF.one opensI rfl))))) (by kernel_rfl) (by decide)
 refine h.weak rfl ?_
 rintro w ⟨a, b, c, d, e⟩ cs hr
 exact ⟨⟨a, b, c, d, e⟩, hr⟩
set_option maxRecDepth 20000 in
theorem opens_plan : Opens Try.prog 29 planLay := by
 have h : Opens Try.prog 29 (Lay.pair (Lay.slice qaiq) (Lay.pair (Lay.slice i64L) (Lay.pair (Lay.slice qaf1) (Lay.pair (Lay.slice qayp) (Lay.pair (Lay.slice qasv) (Lay.pair (Lay.slice qain) (Lay.slice i64L))))))) :=
  Opens.struct Try.underlying29 (OpensF.cons (opens_head.slice Try.underlying22 (by kernel_rfl)) rfl (OpensF.cons qaim rfl (OpensF.cons (opens_state.slice Try.underlying24 (by kernel_rfl)) rfl (OpensF.cons (opens_act.slice Try.underlying25 (by kernel_rfl)) rfl (OpensF.cons (opens_tab.slice Try.underlying26 (by kernel_rfl)) rfl (OpensF.cons (opens_node.slice Try.underlying27 (by kernel_rfl)) rfl (OpensF.one qaim rfl))))))) (by kernel_rfl) (by decide)
 refine h.weak rfl ?_
 rintro w ⟨a, b, c, d, e, f, g⟩ cs hr
 exact ⟨⟨a, b, c, d, e, f, g⟩, hr⟩
theorem rep_lay {α : Type} {L : Lay α} {f : α → List SV} (hp : LayP L f) {w : World} {x : α} {cs : Array Value} (h : L.rep NoA w x cs.toList) : RepV w (fun _ => False) noPl (.agg (f x)) (.agg cs) := by
 obtain ⟨h1, h2⟩ := hp NoA w x cs.toList h
 have := RepV.agg (w := w) (A := NoA) (ρ := noPl) (cs := f x) (vs := cs.toList) h2 h1.1 h1.2
 exact this
end Go.Proofs.Yticeaegpkpjjeaa
namespace Go.Proofs.Yticeaegpkpjjeaa
set_option linter.all false
open Go.RowKit
attribute [local simp] qabj qabi qaaw qaa2 qaax qaa1 qabg qabh qaap qab2 SOp.run SX.ev putd puts argS upds SOp.touch SSt.keep SSt.skip gets geth puth delh idOf SV.cells? setL qadu qadv sbin eq0 eq1 eqL qadr qacr qacs qaau qabk qaaf qabl qab3 qaai qaak FrzOk qaa5 qaaz qaa3 qaa4 qaaq qaay qabm qaa0 qaas qaa6 qaar frzS frzH frz frz1 frz0 SlotsM ObjsM ObjM rn ren ren1 ren0 qab6 qacp qacu qab5 qabn qacv qact CoL qaa7 qab7 dels adds idsH qabt
attribute [local simp] qaeh refc qaee qaea qacl opc actc tabc qaef qacc nums
def twoP : PlanD := ⟨[⟨[8]⟩, ⟨[16]⟩], [], [⟨0, ⟨0, 0⟩, [⟨1, 1, 1⟩], 1000⟩, ⟨1, ⟨0, 0⟩, [], 1000⟩], [], [], [], [0, 1]⟩
theorem qasr : SmallP twoP := by constructor <;> simp [twoP]
theorem twoP_ok : qaid twoP := by
 have f : ∀ n : Int, 0 ≤ n ∧ n ≤ 1000 → Fits .i64 n := fun n hn => Fits.of_i64 (by omega) (by omega)
 have g : ∀ n : Int, 0 ≤ n ∧ n ≤ 1000 → Fits .u64 n := fun n hn => Fits.of_u64 (by omega) (by omega)
 refine ⟨?_, ?_, ?_, ?_, ?_, ?_, ?_⟩ <;> simp [twoP, AllFit, qayq, OkRef, qa1q, f, g]
theorem qayw : qan6 twoP = (0, 0) := by kernel_rfl
theorem qayv : (qayu twoP).map setc = [[.int .u64 0, .int .u64 0, .int .i64 0, .int .i64 0, .bool true], [.int .u64 1, .int .u64 1, .int .i64 1, .int .i64 1, .bool true], [.int .u64 1, .int .u64 3, .int .i64 1, .int .i64 3, .bool true]] := by kernel_rfl
theorem two_s (q : Nat) : SCalls Try.prog 43 [] [] q (.agg (qacc twoP)) [] := by
 refine qabs ?_ (fun _ => rfl) (fun _ => rfl) rfl q
 refine qaal (N := 14) Try.func43 rfl rfl (by kernel_rfl) qaud (by simp) (by repeat' (first | exact trivial | refine And.intro ?_ ?_ | rfl | decide | exact PureR.ren _)) (by repeat' (first | exact trivial | refine And.intro ?_ ?_ | rfl | decide | exact PureR.ren _)) ?_
 rintro X hP hN hm
 unfold c_two
 repeat' (first | ((with_reducible refine qac1 (c := .ret) ?_)) | (with_reducible refine zA ?_) | ((with_reducible refine qaad ?_); (try rw [hP]); simp -implicitDefEqProofs [*]) | fail)
 constructor
 refine qaec [1, 3, 8] ?_ ?_
 ·simp only [FrzOk, geth, Nat.reduceEqDiff, reduceIte, and_true]
  refine ⟨?_, ?_, ?_⟩ <;> exact fun x hx => by simp at hx; subst hx; exact qaba _ rfl
 simp -implicitDefEqProofs
 refine qaec [5, 11, 12] ?_ ?_
 ·simp only [FrzOk, geth, Nat.reduceEqDiff, reduceIte, and_true]
  refine ⟨?_, ?_, ?_⟩ <;> exact fun x hx => by simp at hx; rcases hx with rfl | rfl <;> exact qaba _ rfl
 simp -implicitDefEqProofs
 refine qaam ?_
 refine qa2g (ds := qacc twoP) hm rfl rfl (by rw [hP]; exact qa4w) (by rw [hP]; exact qay2) rfl ?_ rfl (fun σ => rfl)
 exact ⟨Co.refl _, Co.nilsl 1, qa33 ⟨CoL.refl _, ⟨Co.refl _, Co.refl _, Co.refl _, Co.nilsl 3, Co.refl _, trivial⟩, trivial⟩, Co.nilsl 2, Co.nilsl 6, Co.nilsl 5, Co.refl _, trivial⟩
theorem qae3 (q : Nat) : SCalls Try.prog 8 [] [] q (.bool true) [] := by
 refine qabs ?_ (fun _ => rfl) (fun _ => rfl) rfl q
 refine qaal (N := 44) Try.func8 rfl rfl (by kernel_rfl) qaiz (by simp) (by repeat' (first | exact trivial | refine And.intro ?_ ?_ | rfl | decide | exact PureR.ren _)) (by repeat' (first | exact trivial | refine And.intro ?_ ?_ | rfl | decide | exact PureR.ren _)) ?_
 rintro X hP hN hm
 have hw := fun q => walk_s twoP qasr twoP_ok q
 rw [qayw, qayv] at hw
 replace hw := Lib.hid hw
 have ht := fun q => two_s q
 replace ht := Lib.hid ht
 unfold c_wbegun
 repeat' (first | (with_reducible refine zA ?_) | ((with_reducible refine qaad ?_); (try rw [hP]); simp -implicitDefEqProofs [-qacc, *]) | ((with_reducible refine qaam ?_); (try simp only [qaau, qaaf, qaai])) | ((first | refine qabb (ht.out _) ?_ | refine qabb (hw.out _) ?_); simp -implicitDefEqProofs [-qacc, *]) | (with_reducible refine zN hm ?_) | fail)
 all_goals rfl
end Go.Proofs.Yticeaegpkpjjeaa
namespace Go.Proofs.Yticeaegpkpjjeaa
set_option linter.all false
open Go.RowKit
structure GoD where
 b : List Int
 port : Int
 there : List Bool
 v : List (List Int)
 meta_ : List Int
 out : Int
 drop : Bool
 gone : Bool
 nodes : List Int
 masks : List (BitVec 64)
def u1 (n : Int) : List SV := [.int .u64 n]
def n1 (n : Int) : List SV := [.int .i64 n]
def b1 (b : Bool) : List SV := [.bool b]
instance : PureF u1 := ⟨fun _ _ => rfl, fun _ => rfl, fun _ => qaba _ rfl⟩
instance : PureF n1 := ⟨fun _ _ => rfl, fun _ => rfl, fun _ => qaba _ rfl⟩
instance : PureF b1 := ⟨fun _ _ => rfl, fun _ => rfl, fun _ => qaba _ rfl⟩
def vk (v : List (List Int)) (k : Nat) : List Int := v.getD k []
def qadl (v : List (List Int)) : List (List SV) := (List.range v.length).map fun k => [.own (4 + k) (vk v k).length]
theorem qac0 (v : List (List Int)) : (qadl v).length = v.length := by simp [qadl]
theorem qaey {v : List (List Int)} {k : Nat} (h : k < v.length) : (qadl v)[k]? = some [.own (4 + k) (vk v k).length] := by
 unfold qadl
 rw [List.getElem?_map, List.getElem?_range h]; rfl
theorem qafu {v : List (List Int)} (hv : v.length ≤ 6) {σ : Nat → Nat} (h : ∀ k, k < 6 → σ (4 + k) = 4 + k) : (qadl v).map (·.map (Go.Proofs.Yticeaegpkpjjeaa.ren σ)) = qadl v := by
 unfold qadl
 rw [List.map_map]
 refine List.map_congr_left fun k hk => ?_
 have := List.mem_range.1 hk
 show [Go.Proofs.Yticeaegpkpjjeaa.ren σ (.own (4 + k) _)] = _
 simp only [Go.Proofs.Yticeaegpkpjjeaa.ren, ren1, ren0, h k (by omega)]
theorem six {P : Nat → Prop} (h0 : P 0) (h1 : P 1) (h2 : P 2) (h3 : P 3) (h4 : P 4) (h5 : P 5) : ∀ k, k < 6 → P k := fun k hk => by
 rcases k with _ | _ | _ | _ | _ | _ | k
 ·exact h0
 ·exact h1
 ·exact h2
 ·exact h3
 ·exact h4
 ·exact h5
 ·omega
theorem qab0 {v : List (List Int)} (hv : v.length ≤ 6) {σ : Nat → Nat} (h : ∀ k, k < 6 → σ (4 + k) = 4 + k) : CoLL (qadl v) ((qadl v).map (·.map (Go.Proofs.Yticeaegpkpjjeaa.ren σ))) := by
 rw [qafu hv h]; exact CoLL.refl _
def goc (Y : List SV) (g : GoD) : List SV := [.cp Y, nums .u8 g.b, .int .u64 g.port, .own 1 g.there.length, .own 2 g.v.length, .own 3 g.meta_.length, .int .u64 g.out, .bool g.drop, .bool g.gone, .own 10 g.nodes.length, .own 11 g.masks.length]
abbrev gobj (Y : List SV) (g : GoD) : Hp := [(0, .cells 135 (goc Y g)), (1, .row 4 1 (g.there.map b1)), (2, .row 48 1 (qadl g.v)), (3, .row 39 1 (g.meta_.map u1)),
 (4, .row 39 1 ((vk g.v 0).map u1)), (5, .row 39 1 ((vk g.v 1).map u1)), (6, .row 39 1 ((vk g.v 2).map u1)), (7, .row 39 1 ((vk g.v 3).map u1)), (8, .row 39 1 ((vk g.v 4).map u1)), (9, .row 39 1 ((vk g.v 5).map u1)),
 (10, .row 3 1 (g.nodes.map n1)), (11, .row 39 1 (g.masks.map bvc))]
abbrev gids : List Nat := [0, 1, 2, 3, 4, 5, 6, 7, 8, 9, 10, 11]
theorem gobj_M (Y : List SV) (g : GoD) (hv : g.v.length ≤ 6) (q : Nat) : ObjsM (sg gids q) (gobj Y g) (gobj Y g) := by
 refine ⟨⟨_, rfl, rfl, ?_⟩, ⟨_, rfl, rfl, rfl, ?_⟩, ⟨_, rfl, rfl, rfl, qab0 hv (six rfl rfl rfl rfl rfl rfl)⟩, ⟨_, rfl, rfl, rfl, ?_⟩, ⟨_, rfl, rfl, rfl, ?_⟩, ⟨_, rfl, rfl, rfl, ?_⟩, ⟨_, rfl, rfl, rfl, ?_⟩, ⟨_, rfl, rfl, rfl, ?_⟩, ⟨_, rfl, rfl, rfl, ?_⟩, ⟨_, rfl, rfl, rfl, ?_⟩, ⟨_, rfl, rfl, rfl, ?_⟩, ⟨_, rfl, rfl, rfl, ?_⟩, trivial⟩
 ·exact CoL.refl _
 all_goals (rw [PureR.ren]; exact CoLL.refl _)
theorem gobj_F (Y : List SV) (g : GoD) (hv : g.v.length ≤ 6) (q : Nat) : ObjsF (sg gids q) (gobj Y g) (gobj Y g) := by
 refine ⟨⟨_, rfl, rfl, rfl, rfl⟩, ⟨_, rfl, rfl, rfl, PureR.ok, (PureR.ren _).symm⟩, ⟨_, rfl, rfl, rfl, ?_, (qafu hv (six rfl rfl rfl rfl rfl rfl)).symm⟩, ⟨_, rfl, rfl, rfl, PureR.ok, (PureR.ren _).symm⟩, ⟨_, rfl, rfl, rfl, PureR.ok, (PureR.ren _).symm⟩, ⟨_, rfl, rfl, rfl, PureR.ok, (PureR.ren _).symm⟩, ⟨_, rfl, rfl, rfl, PureR.ok, (PureR.ren _).symm⟩, ⟨_, rfl, rfl, rfl, PureR.ok, (PureR.ren _).symm⟩, ⟨_, rfl, rfl, rfl, PureR.ok, (PureR.ren _).symm⟩, ⟨_, rfl, rfl, rfl, PureR.ok, (PureR.ren _).symm⟩, ⟨_, rfl, rfl, rfl, PureR.ok, (PureR.ren _).symm⟩, ⟨_, rfl, rfl, rfl, PureR.ok, (PureR.ren _).symm⟩, trivial⟩
 intro x hx
 obtain ⟨k, _, rfl⟩ := List.mem_map.1 hx
 rfl
theorem g_up {f : FuncId} {args : List SV} {r : SV} {Y : List SV} {g g' : GoD} (hv : g.v.length ≤ 6) (hv' : g'.v.length ≤ 6) (h : SCalls Try.prog f args (gobj Y g) 12 r (gobj Y g')) (q : Nat) (hq : 12 ≤ q) (ha : args = args.map (Go.Proofs.Yticeaegpkpjjeaa.ren (sg gids q))) (hr : r = Go.Proofs.Yticeaegpkpjjeaa.ren (sg gids q) r) (hk : ok2 r = true) : SCalls Try.prog f args (gobj Y g) q r (gobj Y g') :=
 qac6 gids h rfl (by decide) (by intro i hi; simp at hi; omega) ha (gobj_M Y g hv q) (by simp [idsH]) hr hk (gobj_F Y g' hv' q) (by simp [idsH]) (by simp [idsH]; exact ⟨rfl, rfl, rfl, rfl, rfl, rfl, rfl, rfl, rfl, rfl, rfl, rfl⟩)
theorem qat1 (Y : List SV) (g : GoD) (hv : g.v.length ≤ 6) : LtH 12 (gobj Y g) := by
 refine ⟨by decide, rfl, by decide, PureR.ren _, by decide, qafu hv (six rfl rfl rfl rfl rfl rfl), by decide, PureR.ren _, by decide, PureR.ren _, by decide, PureR.ren _, by decide, PureR.ren _, by decide, PureR.ren _, by decide, PureR.ren _, by decide, PureR.ren _, by decide, PureR.ren _, by decide, PureR.ren _, trivial⟩
theorem fin_gv {X : Cx} {s : SSt} {Y : List SV} {g : GoD} (hw : Wk X s ⟨[], gobj Y g, 12⟩) : QFun X [] 12 (.tup []) (gobj Y g) .normal s := ⟨_, hw, rfl, ⟨rfl, rfl, rfl, rfl, rfl, rfl, rfl, rfl, rfl, rfl, rfl, rfl, trivial⟩, by simp⟩
theorem qat5 {X : Cx} {s : SSt} {Y : List SV} {g : GoD} {t : Nat} {k : IntKind} {n : Int} (hw : Wk X s ⟨[(t, .int k n)], gobj Y g, 12⟩) : QFun X [.tmp t] 12 (.int k n) (gobj Y g) .ret s := ⟨_, hw, by simp [qaoe, resL, resV, one_, gets], ⟨rfl, rfl, rfl, rfl, rfl, rfl, rfl, rfl, rfl, rfl, rfl, rfl, trivial⟩, by simp⟩
end Go.Proofs.Yticeaegpkpjjeaa
namespace Go.Proofs.Yticeaegpkpjjeaa
set_option linter.all false
open Go.RowKit
abbrev qajk : List SOper := [Oa 3 (.box 114 (.t 0)), Oa 6 (.mv (.c .nil))]
abbrev qajj : List SOper := [Oa 8 (.loads 6 (.t 3)), Oa 9 (.mv (.t 1)), Oa 10 (.mv (.t 2)), Oa 11 (.faddr 0 (.t 3)), Oa 12 (.load (.t 11)), Oa 13 (.mv (.t 1)), Oa 14 (.len false (.t 13)), Oa 15 (.faddr 3 (.t 3)), Oa 16 (.load (.t 15)), Oa 17 (.build [(.int .i64 0), (.int .i64 0), (.int .i64 0), (.int .i64 0), .nilsl] [(0, 1, (.t 12)), (1, 1, (.t 14)), (3, 1, (.t 16))]), Oa 18 (.faddr 4 (.t 3)), Oa 19 (.load (.t 18)), Oa 20 (.faddr 5 (.t 3)), Oa 21 (.load (.t 20)), Oa 22 (.build [(.int .i64 0), .nilsl] [(0, 1, (.t 19)), (1, 1, (.t 21))]), Oa 23 (.build [(.int .i64 0), .nilsl, .nilsl, (.int .i64 0), (.int .i64 0), .nilsl, .nilsl, .nilsl, (.int .i64 0), (.int .i64 0), (.int .i64 0), (.int .i64 0), .nilsl, (.int .i64 0), .nilsl] [(0, 6, (.t 8)), (6, 1, (.t 9)), (7, 1, (.t 10)), (8, 5, (.t 17)), (13, 2, (.t 22))]), Oa 24 (.box 159 (.t 23)), Oa 7 (.mv (.t 24))]
abbrev qaji : List SOper := [Oa 25 (.faddr 0 (.t 3)), Oa 26 (.load (.t 25)), Oa 27 (.bin .eql (.t 26) (.c (.int .i64 2)))]
abbrev qajh : List SOper := [Oa 28 (.mv (.t 7)), Oa 29 (.mv (.t 1)), Oa 30 (.iaddr 1 (.t 29) (.c (.int .i64 0))), Oa 31 (.load (.t 30)), Oa 32 (.nilc (.t 28)), Oa 33 (.faddr 8 (.t 32)), Oa 34 (.faddr 2 (.t 33)), Ob (.store 1 (.t 34) (.t 31))]
abbrev qajg : List SOper := [Oa 35 (.mv (.t 7)), Oa 6 (.mv (.t 35))]
def c_newstore : SCode := (.seq (.reg false qajk [1, 2, 3]) (.seq (.reg false qajj [1, 3, 7]) (.seq (.seq (.reg false qaji [1, 7, 27]) (.cond (.t 27) (.reg false qajh [7]) .skip)) (.seq (.reg false qajg [6]) .ret))))
theorem qagw : comp Try.prog 36 ((Try.f47.body).getD .skip) = some c_newstore.erase := by kernel_rfl
abbrev qama : List SOper := [Oa 1 (.box 29 (.t 0)), Oa 2 (.mv (.c .nil))]
abbrev qal9 : List SOper := [Oa 5 (.loads 7 (.t 1)), Oa 6 (.build [.nilsl, .nilsl, .nilsl, .nilsl, .nilsl, .nilsl, .nilsl, .nilsl] [(0, 7, (.t 5))]), Oa 7 (.box 124 (.t 6)), Oa 3 (.mv (.t 7))]
abbrev qal8 : List SOper := [Oa 4 (.mv (.c (.int .i64 0)))]
abbrev qal7 : List SOper := [Oa 8 (.mv (.t 4)), Oa 9 (.faddr 4 (.t 1)), Oa 10 (.load (.t 9)), Oa 11 (.len false (.t 10)), Oa 12 (.bin .lss (.t 8) (.t 11))]
abbrev qal6 : List SOper := [Oa 15 (.mv (.t 3)), Oa 16 (.mv (.t 3)), Od 17 (.nilc (.t 16)) 2, Od 18 (.faddr 7 (.t 17)) 6, Od 19 (.load (.t 18)) 14, Oa 20 (.faddr 4 (.t 1)), Od 21 (.load (.t 20)) 32, Oa 22 (.mv (.t 4)), Od 23 (.iaddr 6 (.t 21) (.t 22)) 224, Od 24 (.loads 6 (.t 23)) 480, Oa 25 (.loads 7 (.t 1)), Oa 26 (.faddr 4 (.t 1)), Od 27 (.load (.t 26)) 2048, Oa 28 (.mv (.t 4)), Od 29 (.iaddr 6 (.t 27) (.t 28)) 14336, Od 30 (.loads 6 (.t 29)) 30720, ⟨(some 31), .mv (.c .any), some ((.c (.fn (.func 48) [] [])), [(.t 25), (.t 30)]), none, 64512⟩, Oa 32 (.faddr 3 (.t 1)), Od 33 (.load (.t 32)) 131072, ⟨(some 34), .mv (.c .any), some ((.c (.fn (.func 47) [] [])), [(.t 24), (.t 31), (.t 33)]), none, 524256⟩, Od 35 (.mkrow 125 1 1 [.nil] [(0, (.t 34))]) 1048544, Od 36 (.app 125 1 8 (.t 19) (.t 35)) 2097150, Od 37 (.nilc (.t 15)) 4194303, Od 38 (.faddr 7 (.t 37)) 8388607, ⟨none, .store 1 (.t 38) (.t 36), none, none, 16777215⟩]
abbrev qal5 : List SOper := [Oa 13 (.mv (.t 4)), Oa 14 (.bin .add (.t 13) (.c (.int .i64 1))), Oa 4 (.mv (.t 14))]
def qagl : SCode := (.seq (.seq (.reg false qal7 [1, 3, 4, 12]) (.cond (.t 12) .skip (.exit 0))) (.seq (.block 1 (.reg true qal6 [1, 3, 4])) (.reg false qal5 [1, 3, 4])))
abbrev qal4 : List SOper := [Oa 39 (.mv (.t 3)), Oa 2 (.mv (.t 39))]
def c_newyard : SCode := (.seq (.reg false qama [1]) (.seq (.reg false qal9 [1, 3]) (.seq (.seq (.reg false qal8 [1, 3, 4]) (.block 0 (.loop qagl))) (.seq (.reg false qal4 [2]) .ret))))
theorem qah6 : comp Try.prog 40 ((Try.f12.body).getD .skip) = some c_newyard.erase := by kernel_rfl
abbrev qavv : List SOper := [Oa 6 (.mv (.c .nil))]
abbrev qavu : List SOper := [Oa 9 (.mv (.t 0)), Oa 10 (.mv (.t 1)), Oa 11 (.mv (.t 2)), Od 12 (.conv .u64 (.t 11)) 4, Oa 13 (.mv (.t 0)), Od 14 (.nilc (.t 13)) 16, Od 15 (.faddr 0 (.t 14)) 48, Od 16 (.faddr 0 (.t 15)) 112, Od 17 (.load (.t 16)) 240, Od 18 (.len false (.t 17)) 496, Od 19 (.mkslice 4 1 1 [(.bool false)] (.t 18) (.t 18)) 1008, Oa 20 (.mv (.t 0)), Od 21 (.nilc (.t 20)) 2048, Od 22 (.faddr 0 (.t 21)) 6144, Od 23 (.faddr 1 (.t 22)) 14336, Od 24 (.load (.t 23)) 30720, Od 25 (.len false (.t 24)) 63488, Od 26 (.mkslice 39 1 8 [(.int .u64 0)] (.t 25) (.t 25)) 129024, Od 27 (.build [.nil, .nilsl, (.int .u64 0), .nilsl, .nilsl, .nilsl, (.int .u64 0), (.bool false), (.bool false), .nilsl, .nilsl] [(0, 1, (.t 9)), (1, 1, (.t 10)), (2, 1, (.t 12)), (3, 1, (.t 19)), (5, 1, (.t 26))]) 262143, Od 28 (.box 135 (.t 27)) 524287, Od 7 (.mv (.t 28)) 1048575]
abbrev qavt : List SOper := [Oa 8 (.mv (.c (.int .i64 0)))]
abbrev qavs : List SOper := [Oa 29 (.mv (.t 8)), Oa 30 (.mv (.t 0)), Oa 31 (.nilc (.t 30)), Oa 32 (.faddr 0 (.t 31)), Oa 33 (.faddr 0 (.t 32)), Oa 34 (.load (.t 33)), Oa 35 (.len false (.t 34)), Oa 36 (.bin .lss (.t 29) (.t 35))]
abbrev qavr : List SOper := [Oa 39 (.mv (.t 7)), Oa 40 (.mv (.t 7)), Od 41 (.nilc (.t 40)) 2, Od 42 (.faddr 4 (.t 41)) 6, Od 43 (.load (.t 42)) 14, Oa 44 (.mv (.t 0)), Od 45 (.nilc (.t 44)) 32, Od 46 (.faddr 0 (.t 45)) 96, Od 47 (.faddr 0 (.t 46)) 224, Od 48 (.load (.t 47)) 480, Oa 49 (.mv (.t 8)), Od 50 (.iaddr 1 (.t 48) (.t 49)) 2016, Od 51 (.faddr 0 (.t 50)) 4064, Od 52 (.load (.t 51)) 8160, Od 53 (.len false (.t 52)) 16352, Od 54 (.mkslice 39 1 8 [(.int .u64 0)] (.t 53) (.t 53)) 32736, Od 55 (.mkrow 48 1 1 [.nilsl] [(0, (.t 54))]) 65504, Od 56 (.app 48 1 24 (.t 43) (.t 55)) 131070, Od 57 (.nilc (.t 39)) 262143, Od 58 (.faddr 4 (.t 57)) 524287, ⟨none, .store 1 (.t 58) (.t 56), none, none, 1048575⟩]
abbrev qavq : List SOper := [Oa 37 (.mv (.t 8)), Oa 38 (.bin .add (.t 37) (.c (.int .i64 1))), Oa 8 (.mv (.t 38))]
def qajb : SCode := (.seq (.seq (.reg false qavs [0, 7, 8, 36]) (.cond (.t 36) .skip (.exit 0))) (.seq (.block 1 (.reg true qavr [0, 7, 8])) (.reg false qavq [0, 7, 8])))
abbrev qavp : List SOper := [Oa 59 (.mv (.t 7)), Oa 6 (.mv (.t 59))]
def c_start : SCode := (.seq (.reg false qavv [0, 1, 2]) (.seq (.reg true qavu [0, 7]) (.seq (.seq (.reg false qavt [0, 7, 8]) (.block 0 (.loop qajb))) (.seq (.reg false qavp [6]) .ret))))
theorem qakq : comp Try.prog 60 ((Try.f49.body).getD .skip) = some c_start.erase := by kernel_rfl
abbrev qa0t : List SOper := [Oa 4 (.mv (.c (.bool false)))]
abbrev qa0s : List SOper := [Oa 9 (.mv (.t 1)), Oa 10 (.bin .eql (.t 9) (.c (.int .i64 1000))), Oa 11 (.mv (.t 10)), Oe 12 (.mv (.t 1)) 11 false, Oe 13 (.bin .eql (.t 12) (.c (.int .i64 1001))) 11 false, Oa 14 (.pick (.t 11) (.c (.bool true)) (.t 13))]
abbrev qa0r : List SOper := [Oa 15 (.mv (.t 1)), Oa 16 (.bin .eql (.t 15) (.c (.int .i64 1000))), Oa 4 (.mv (.t 16))]
abbrev qa0q : List SOper := [Oa 17 (.mv (.t 0)), Oa 18 (.nilc (.t 17)), Oa 19 (.faddr 0 (.t 18)), Oa 20 (.load (.t 19)), Oa 21 (.nilc (.t 20)), Oa 22 (.faddr 0 (.t 21)), Oa 23 (.faddr 2 (.t 22)), Oa 24 (.load (.t 23)), Oa 25 (.mv (.t 1)), Oa 26 (.iaddr 5 (.t 24) (.t 25)), Oa 27 (.loads 5 (.t 26)), Oa 5 (.alloc 105 [(.int .i64 0), (.int .i64 0), (.int .i64 0), .nilsl, (.int .i64 0)]), Ob (.store 5 (.t 5) (.t 27))]
abbrev qa0p : List SOper := [Oa 28 (.faddr 0 (.t 5)), Oa 29 (.load (.t 28)), Oa 30 (.bin .geq (.t 29) (.c (.int .i64 0)))]
abbrev qa0o : List SOper := [Oa 32 (.mv (.t 0)), Od 33 (.nilc (.t 32)) 1, Od 34 (.faddr 0 (.t 33)) 3, Od 35 (.load (.t 34)) 7, Od 36 (.nilc (.t 35)) 15, Od 37 (.faddr 0 (.t 36)) 31, Od 38 (.faddr 0 (.t 37)) 63, Od 39 (.load (.t 38)) 127, Oa 40 (.faddr 0 (.t 5)), Od 41 (.load (.t 40)) 256, Od 42 (.iaddr 1 (.t 39) (.t 41)) 1023, Od 43 (.loads 1 (.t 42)) 2047, ⟨(some 44), .mv (.c .any), some ((.c (.fn (.func 94) [] [])), [(.t 43)]), none, 4095⟩, Od 31 (.mv (.t 44)) 8191, Od 45 (.extr (.t 31) 0) 16383, Od 46 (.extr (.t 31) 1) 16383, Oa 7 (.alloc 35 [(.int .i64 0), (.int .i64 0)]), Od 6 (.mv (.t 45)) 98303, ⟨none, .store 2 (.t 7) (.t 46), none, none, 262143⟩]
abbrev qa0n : List SOper := [Oa 47 (.mv (.t 6)), Oa 48 (.mv (.t 0)), Oa 49 (.nilc (.t 48)), Oa 50 (.faddr 1 (.t 49)), Oa 51 (.load (.t 50)), Oa 52 (.len false (.t 51)), Oa 53 (.bin .gtr (.t 47) (.t 52))]
abbrev qa0m : List SOper := [Oa 4 (.mv (.c (.bool false)))]
abbrev qa0l : List SOper := [Oa 55 (.mv (.t 0)), Od 56 (.nilc (.t 55)) 1, Od 57 (.faddr 4 (.t 56)) 3, Od 58 (.load (.t 57)) 7, Oa 59 (.faddr 0 (.t 5)), Od 60 (.load (.t 59)) 16, Oa 61 (.mv (.t 0)), Od 62 (.nilc (.t 61)) 64, Od 63 (.faddr 1 (.t 62)) 192, Od 64 (.load (.t 63)) 448, Oa 65 (.mv (.t 6)), Od 66 (.slice 1 (.t 64) none (some (.t 65))) 1984, Oa 67 (.mv (.t 0)), Od 68 (.nilc (.t 67)) 4096, Od 69 (.faddr 0 (.t 68)) 12288, Od 70 (.load (.t 69)) 28672, Od 71 (.nilc (.t 70)) 61440, Od 72 (.faddr 0 (.t 71)) 126976, Od 73 (.faddr 0 (.t 72)) 258048, Od 74 (.load (.t 73)) 520192, Oa 75 (.faddr 0 (.t 5)), Od 76 (.load (.t 75)) 1048576, Od 77 (.iaddr 1 (.t 74) (.t 76)) 4190208, Od 78 (.faddr 0 (.t 77)) 8384512, Od 79 (.load (.t 78)) 16773120, ⟨(some 80), .mv (.c .any), some ((.c (.fn (.func 95) [] [])), [(.t 66), (.c (.int .i64 0)), (.t 79)]), none, 33554368⟩, Od 54 (.mv (.t 80)) 67108800, Od 81 (.extr (.t 54) 0) 134217664, Od 82 (.extr (.t 54) 1) 134217664, Od 83 (.iaddr 1 (.t 58) (.t 60)) 268435455, ⟨none, .store 1 (.t 83) (.t 81), none, none, 805306367⟩]
abbrev qavo : List SOper := [Oa 84 (.mv (.t 0)), Od 85 (.nilc (.t 84)) 1, Od 86 (.faddr 3 (.t 85)) 3, Od 87 (.load (.t 86)) 7, Oa 88 (.faddr 0 (.t 5)), Od 89 (.load (.t 88)) 16, Od 90 (.iaddr 1 (.t 87) (.t 89)) 63, ⟨none, .store 1 (.t 90) (.c (.bool true)), none, none, 127⟩]
abbrev qavn : List SOper := [Oa 91 (.mv (.t 0)), Oa 92 (.mv (.t 0)), Oa 93 (.nilc (.t 92)), Oa 94 (.faddr 1 (.t 93)), Oa 95 (.load (.t 94)), Oa 96 (.mv (.t 6)), Oa 97 (.slice 1 (.t 95) (some (.t 96)) none), Oa 98 (.nilc (.t 91)), Oa 99 (.faddr 1 (.t 98)), Ob (.store 1 (.t 99) (.t 97))]
abbrev qae0 : List SOper := [Oa 8 (.mv (.c (.int .i64 0)))]
abbrev qavm : List SOper := [Oa 100 (.mv (.t 8)), Oa 101 (.faddr 3 (.t 5)), Oa 102 (.load (.t 101)), Oa 103 (.len false (.t 102)), Oa 104 (.bin .lss (.t 100) (.t 103))]
abbrev qavl : List SOper := [Oa 107 (.mv (.t 0)), Oa 108 (.faddr 1 (.t 5)), Od 109 (.loads 2 (.t 108)) 2, ⟨(some 110), .mv (.c .any), some ((.c (.fn (.func 96) [] [])), [(.t 107), (.t 109), (.c .nilsl)]), none, 7⟩, Oa 111 (.faddr 3 (.t 5)), Od 112 (.load (.t 111)) 16, Oa 113 (.mv (.t 8)), Od 114 (.iaddr 3 (.t 112) (.t 113)) 112, Od 115 (.faddr 1 (.t 114)) 240, Od 116 (.load (.t 115)) 496, Od 117 (.bin .and (.t 110) (.t 116)) 1023, Oa 118 (.faddr 3 (.t 5)), Od 119 (.load (.t 118)) 2048, Oa 120 (.mv (.t 8)), Od 121 (.iaddr 3 (.t 119) (.t 120)) 14336, Od 122 (.faddr 0 (.t 121)) 30720, Od 123 (.load (.t 122)) 63488, Od 124 (.bin .eql (.t 117) (.t 123)) 131071]
abbrev qaja : List SOper := [Oa 125 (.mv (.t 0)), Oa 126 (.faddr 3 (.t 5)), Oa 127 (.load (.t 126)), Oa 128 (.mv (.t 8)), Oa 129 (.iaddr 3 (.t 127) (.t 128)), Oa 130 (.faddr 2 (.t 129)), Oa 131 (.load (.t 130)), Oc 132 50 [(.t 125), (.t 131)], Oa 4 (.mv (.t 132))]
abbrev qavk : List SOper := [Oa 105 (.mv (.t 8)), Oa 106 (.bin .add (.t 105) (.c (.int .i64 1))), Oa 8 (.mv (.t 106))]
def qaia : SCode := (.seq (.seq (.reg false qavm [0, 5, 8, 104]) (.cond (.t 104) .skip (.exit 0))) (.seq (.block 1 (.seq (.reg true qavl [0, 5, 8, 124]) (.cond (.t 124) (.seq (.reg false qaja [4]) .ret) .skip))) (.reg false qavk [0, 5, 8])))
abbrev qagf : List SOper := [Oa 133 (.mv (.t 0)), Oa 134 (.faddr 4 (.t 5)), Oa 135 (.load (.t 134)), Oc 136 50 [(.t 133), (.t 135)], Oa 4 (.mv (.t 136))]
def c_take : SCode := (.seq (.reg false qa0t [0, 1]) (.seq (.seq (.reg false qa0s [0, 1, 14]) (.cond (.t 14) (.seq (.reg false qa0r [4]) .ret) .skip)) (.seq (.reg false qa0q [0, 5]) (.seq (.seq (.reg false qa0p [0, 5, 30]) (.cond (.t 30) (.seq (.reg true qa0o [0, 5, 6]) (.seq (.seq (.reg false qa0n [0, 5, 6, 53]) (.cond (.t 53) (.seq (.reg false qa0m [4]) .ret) .skip)) (.seq (.reg true qa0l [0, 5, 6]) (.seq (.reg true qavo [0, 5, 6]) (.reg false qavn [0, 5]))))) .skip)) (.seq (.seq (.reg false qae0 [0, 5, 8]) (.block 0 (.loop qaia))) (.seq (.reg false qagf [4]) .ret))))))
theorem qaha : comp Try.prog 137 ((Try.f50.body).getD .skip) = some c_take.erase := by kernel_rfl
abbrev qayl : List SOper := [Oa 4 (.box 102 (.t 1)), Oa 6 (.mv (.c (.int .u64 0)))]
abbrev qayk : List SOper := [Oa 7 (.mv (.t 0)), Oa 8 (.faddr 0 (.t 4)), Oa 9 (.load (.t 8)), Oc 10 131 [(.t 7), (.t 9)]]
abbrev qayj : List SOper := [Oa 11 (.faddr 0 (.t 4)), Oa 12 (.load (.t 11)), Oa 13 (.bin .eql (.t 12) (.c (.int .i64 (-3))))]
abbrev qayi : List SOper := [Oa 14 (.mv (.t 0)), Oa 15 (.nilc (.t 14)), Oa 16 (.faddr 2 (.t 15)), Oa 17 (.load (.t 16)), Oa 6 (.mv (.t 17))]
abbrev qayh : List SOper := [Oa 18 (.faddr 0 (.t 4)), Oa 19 (.load (.t 18)), Oa 20 (.bin .eql (.t 19) (.c (.int .i64 (-1))))]
abbrev qayg : List SOper := [Oa 21 (.mv (.t 0)), Od 22 (.nilc (.t 21)) 1, Od 23 (.faddr 5 (.t 22)) 3, Od 24 (.load (.t 23)) 7, Oa 25 (.faddr 1 (.t 4)), Od 26 (.load (.t 25)) 16, Od 27 (.iaddr 1 (.t 24) (.t 26)) 63, Od 28 (.load (.t 27)) 127, Od 6 (.mv (.t 28)) 255]
abbrev qayf : List SOper := [Oa 29 (.faddr 0 (.t 4)), Oa 30 (.load (.t 29)), Oa 31 (.bin .eql (.t 30) (.c (.int .i64 (-2))))]
abbrev qaye : List SOper := [Oa 32 (.mv (.t 2)), Oa 33 (.faddr 1 (.t 4)), Oa 34 (.load (.t 33)), Oa 35 (.iaddr 1 (.t 32) (.t 34)), Oa 36 (.load (.t 35)), Oa 6 (.mv (.t 36))]
abbrev qayd : List SOper := [Oa 37 (.mv (.t 0)), Od 38 (.nilc (.t 37)) 1, Od 39 (.faddr 4 (.t 38)) 3, Od 40 (.load (.t 39)) 7, Oa 41 (.faddr 0 (.t 4)), Od 42 (.load (.t 41)) 16, Od 43 (.iaddr 1 (.t 40) (.t 42)) 63, Od 44 (.load (.t 43)) 127, Oa 45 (.faddr 1 (.t 4)), Od 46 (.load (.t 45)) 256, Od 47 (.iaddr 1 (.t 44) (.t 46)) 1023, Od 48 (.load (.t 47)) 2047, Od 6 (.mv (.t 48)) 4095]
def c_field : SCode := (.seq (.reg false qayl [0, 2, 4]) (.seq (.reg false qayk [0, 2, 4]) (.seq (.seq (.reg false qayj [0, 2, 4, 13]) (.cond (.t 13) (.seq (.reg false qayi [6]) .ret) .skip)) (.seq (.seq (.reg false qayh [0, 2, 4, 20]) (.cond (.t 20) (.seq (.reg true qayg [6]) .ret) .skip)) (.seq (.seq (.reg false qayf [0, 2, 4, 31]) (.cond (.t 31) (.seq (.reg false qaye [6]) .ret) .skip)) (.seq (.reg true qayd [6]) .ret))))))
theorem qak3 : comp Try.prog 49 ((Try.f96.body).getD .skip) = some c_field.erase := by kernel_rfl
abbrev qa4c : List SOper := [Oa 4 (.mv (.t 0)), Oa 5 (.mv (.t 0)), Oa 6 (.nilc (.t 5)), Oa 7 (.faddr 8 (.t 6)), Oa 8 (.load (.t 7)), Oa 9 (.mv (.t 8)), Oe 10 (.mv (.t 1)) 9 false, Oe 11 (.bin .geq (.t 10) (.c (.int .i64 0))) 9 false, Oe 12 (.mv (.t 11)) 9 false, Oe 13 (.mv (.t 0)) 12 true, Oe 14 (.nilc (.t 13)) 12 true, Oe 15 (.faddr 3 (.t 14)) 12 true, Oe 16 (.load (.t 15)) 12 true, Oe 17 (.mv (.t 1)) 12 true, Oe 18 (.iaddr 1 (.t 16) (.t 17)) 12 true, Oe 19 (.load (.t 18)) 12 true, Oe 20 (.un .not (.t 19)) 12 true, Oe 21 (.pick (.t 12) (.t 20) (.c (.bool false))) 9 false, Oa 22 (.pick (.t 9) (.c (.bool true)) (.t 21)), Oa 23 (.nilc (.t 4)), Oa 24 (.faddr 8 (.t 23)), Ob (.store 1 (.t 24) (.t 22))]
def c_use : SCode := (.reg false qa4c [])
theorem qauc : comp Try.prog 25 ((Try.f131.body).getD .skip) = some c_use.erase := by kernel_rfl
abbrev qayc : List SOper := [Oa 2 (.mv (.c (.int .u64 0)))]
abbrev qayb : List SOper := [Oa 3 (.mv (.c (.int .u64 0)))]
abbrev qaya : List SOper := [Oa 4 (.mv (.c (.int .i64 0)))]
abbrev qax9 : List SOper := [Oa 5 (.mv (.t 4)), Oa 6 (.mv (.t 0)), Oa 7 (.nilc (.t 6)), Oa 8 (.faddr 3 (.t 7)), Oa 9 (.load (.t 8)), Oa 10 (.len false (.t 9)), Oa 11 (.bin .lss (.t 5) (.t 10))]
abbrev qax8 : List SOper := [Oa 14 (.mv (.t 0)), Oa 15 (.nilc (.t 14)), Oa 16 (.faddr 3 (.t 15)), Oa 17 (.load (.t 16)), Oa 18 (.mv (.t 4)), Oa 19 (.iaddr 1 (.t 17) (.t 18)), Oa 20 (.load (.t 19))]
abbrev qax7 : List SOper := [Oa 21 (.mv (.t 3)), Oa 22 (.mv (.t 4)), Oc 23 97 [(.t 22)], Oa 24 (.bin .or (.t 21) (.t 23)), Oa 3 (.mv (.t 24))]
abbrev qax6 : List SOper := [Oa 12 (.mv (.t 4)), Oa 13 (.bin .add (.t 12) (.c (.int .i64 1))), Oa 4 (.mv (.t 13))]
def qaj5 : SCode := (.seq (.seq (.reg false qax9 [0, 3, 4, 11]) (.cond (.t 11) .skip (.exit 0))) (.seq (.block 1 (.seq (.reg false qax8 [0, 3, 4, 20]) (.cond (.t 20) (.reg false qax7 [0, 3, 4]) .skip))) (.reg false qax6 [0, 3, 4])))
abbrev qax5 : List SOper := [Oa 25 (.mv (.t 3)), Oa 2 (.mv (.t 25))]
def c_gmask : SCode := (.seq (.reg false qayc [0]) (.seq (.reg false qayb [0, 3]) (.seq (.seq (.reg false qaya [0, 3, 4]) (.block 0 (.loop qaj5))) (.seq (.reg false qax5 [2]) .ret))))
theorem qak2 : comp Try.prog 26 ((Try.f51.body).getD .skip) = some c_gmask.erase := by kernel_rfl
abbrev qawt : List SOper := [Oa 6 (.mv (.c (.int .u64 0))), Oa 7 (.mv (.c (.int .i64 0))), Oa 8 (.mv (.c (.bool false)))]
abbrev qaws : List SOper := [Oa 11 (.mv (.t 0)), Oa 12 (.mv (.t 1)), Oa 13 (.mv (.t 2)), Oc 14 49 [(.t 11), (.t 12), (.t 13)], Oa 9 (.mv (.t 14))]
abbrev qawr : List SOper := [Oa 15 (.mv (.t 9)), Oc 16 50 [(.t 15), (.c (.int .i64 0))], Oa 10 (.mv (.t 16))]
abbrev qajf : List SOper := [Oa 17 (.mv (.t 9)), ⟨(some 18), .mv (.c .any), some ((.c (.fn (.func 51) [] [])), [(.t 17)]), none, 1⟩, Oa 19 (.mv (.t 1)), Od 20 (.len false (.t 19)) 4, Oa 21 (.mv (.t 9)), Od 22 (.nilc (.t 21)) 16, Od 23 (.faddr 1 (.t 22)) 48, Od 24 (.load (.t 23)) 112, Od 25 (.len false (.t 24)) 240, Od 26 (.bin .sub (.t 20) (.t 25)) 508, Oa 27 (.mv (.t 10)), Od 6 (.mv (.t 18)) 3, Od 7 (.mv (.t 26)) 3071, Od 8 (.mv (.t 27)) 8191]
def c_parse : SCode := (.seq (.reg false qawt [0, 1, 2]) (.seq (.reg false qaws [1, 9]) (.seq (.reg false qawr [1, 9, 10]) (.seq (.reg true qajf [6, 7, 8]) .ret))))
theorem qaku : comp Try.prog 28 ((Try.f13.body).getD .skip) = some c_parse.erase := by kernel_rfl
abbrev qa1f : List SOper := [Oa 4 (.alloc 35 [(.int .i64 0), (.int .i64 0)])]
abbrev qa1e : List SOper := [Oa 5 (.mv (.t 0)), Oa 6 (.len false (.t 5)), Oa 7 (.bin .gtr (.t 6) (.c (.int .i64 600)))]
abbrev qa1d : List SOper := [Oc 8 46 [(.c (.int .i64 14)), (.c (.int .i64 (-1)))], Ob (.store 2 (.t 4) (.t 8))]
abbrev qa1c : List SOper := [Oa 9 (.mv (.t 1)), Oa 10 (.bin .lss (.t 9) (.c (.int .i64 0))), Oa 11 (.mv (.t 10)), Oe 12 (.mv (.t 1)) 11 false, Oe 13 (.bin .gtr (.t 12) (.c (.int .i64 65535))) 11 false, Oa 14 (.pick (.t 11) (.c (.bool true)) (.t 13))]
abbrev qa1b : List SOper := [Oc 15 46 [(.c (.int .i64 1)), (.c (.int .i64 (-1)))], Ob (.store 2 (.t 4) (.t 15))]
abbrev qa1a : List SOper := [Oa 16 (.build [(.int .i64 0), (.int .i64 0)] []), Ob (.store 2 (.t 4) (.t 16))]
def c_pktf : SCode := (.seq (.reg false qa1f [0, 1, 4]) (.seq (.seq (.reg false qa1e [1, 4, 7]) (.cond (.t 7) (.seq (.reg false qa1d [4]) .ret) .skip)) (.seq (.seq (.reg false qa1c [4, 14]) (.cond (.t 14) (.seq (.reg false qa1b [4]) .ret) .skip)) (.seq (.reg false qa1a [4]) .ret))))
theorem qaov : comp Try.prog 17 ((Try.f11.body).getD .skip) = some c_pktf.erase := by kernel_rfl
abbrev qaus : List SOper := [Oa 3 (.box 29 (.t 0)), Oa 6 (.mv (.c (.bool false)))]
abbrev qaur : List SOper := [Oc 13 8 [], Oa 14 (.un .not (.t 13))]
abbrev qauq : List SOper := [Oa 6 (.mv (.c (.bool false)))]
abbrev qaup : List SOper := [Oa 15 (.loads 7 (.t 3)), Oc 16 9 [(.t 15)], Oa 17 (.mv (.t 16)), Oe 18 (.mv (.t 1)) 17 false, Oe 19 (.len false (.t 18)) 17 false, Oe 20 (.bin .gtr (.t 19) (.c (.int .i64 2000))) 17 false, Oa 21 (.pick (.t 17) (.c (.bool true)) (.t 20))]
abbrev qauo : List SOper := [Oa 6 (.mv (.c (.bool true)))]
abbrev qaun : List SOper := [Oa 23 (.loads 7 (.t 3)), Oc 24 10 [(.t 23)], Oa 22 (.mv (.t 24)), Oa 25 (.extr (.t 22) 0), Oa 26 (.extr (.t 22) 1), Oa 8 (.alloc 35 [(.int .i64 0), (.int .i64 0)]), Oa 7 (.mv (.t 25)), Ob (.store 2 (.t 8) (.t 26))]
abbrev qaum : List SOper := [Oa 27 (.faddr 0 (.t 8)), Oa 28 (.load (.t 27)), Oa 29 (.bin .neq (.t 28) (.c (.int .i64 0))), Oa 30 (.mv (.t 29)), Oe 31 (.mv (.t 1)) 30 false, Oe 32 (.mv (.t 2)) 30 false, ⟨(some 33), .mv (.c .any), some ((.c (.fn (.func 11) [] [])), [(.t 31), (.t 32)]), (some (30, false)), 0⟩, Oe 34 (.field 0 none (.t 33)) 30 false, Oe 35 (.bin .neq (.t 34) (.c (.int .i64 0))) 30 false, Oa 36 (.pick (.t 30) (.c (.bool true)) (.t 35))]
abbrev qaul : List SOper := [Oa 6 (.mv (.c (.bool true)))]
abbrev qauk : List SOper := [Oa 38 (.loads 7 (.t 3)), Oc 39 12 [(.t 38)], Oa 40 (.mv (.t 1)), Oa 41 (.mv (.t 2)), Oc 42 13 [(.t 39), (.t 40), (.t 41)], Oa 37 (.mv (.t 42)), Oa 43 (.extr (.t 37) 0), Oa 44 (.extr (.t 37) 1), Oa 45 (.extr (.t 37) 2), Oa 9 (.mv (.t 43)), Oa 10 (.mv (.t 44)), Oa 11 (.mv (.t 45))]
abbrev qao4 : List SOper := [Oa 46 (.mv (.t 11)), Oa 47 (.un .not (.t 46))]
abbrev qao3 : List SOper := [Oa 6 (.mv (.c (.bool true)))]
abbrev qao2 : List SOper := [Oa 48 (.mv (.t 7)), Oa 49 (.faddr 2 (.t 3)), Oa 50 (.load (.t 49)), Oa 51 (.len false (.t 50)), Oa 52 (.iaddr 5 (.t 48) (.t 51)), Oa 53 (.loads 5 (.t 52)), Oa 12 (.alloc 45 [(.int .u64 0), (.int .u64 0), (.int .i64 0), (.int .i64 0), (.bool false)]), Ob (.store 5 (.t 12) (.t 53))]
abbrev qao1 : List SOper := [Oa 54 (.faddr 4 (.t 12)), Oa 55 (.load (.t 54)), Oa 56 (.mv (.t 55)), Oe 57 (.mv (.t 9)) 56 true, Oe 58 (.faddr 0 (.t 12)) 56 true, Oe 59 (.load (.t 58)) 56 true, Oe 60 (.bin .and (.t 57) (.t 59)) 56 true, Oe 61 (.faddr 0 (.t 12)) 56 true, Oe 62 (.load (.t 61)) 56 true, Oe 63 (.bin .eql (.t 60) (.t 62)) 56 true, Oa 64 (.pick (.t 56) (.t 63) (.c (.bool false))), Oa 65 (.mv (.t 64)), Oe 66 (.mv (.t 9)) 65 true, Oe 67 (.faddr 1 (.t 12)) 65 true, Oe 68 (.load (.t 67)) 65 true, Oe 69 (.bin .and (.t 66) (.t 68)) 65 true, Oe 70 (.mv (.t 9)) 65 true, Oe 71 (.bin .eql (.t 69) (.t 70)) 65 true, Oa 72 (.pick (.t 65) (.t 71) (.c (.bool false))), Oa 73 (.mv (.t 72)), Oe 74 (.mv (.t 10)) 73 true, Oe 75 (.faddr 2 (.t 12)) 73 true, Oe 76 (.load (.t 75)) 73 true, Oe 77 (.bin .geq (.t 74) (.t 76)) 73 true, Oa 78 (.pick (.t 73) (.t 77) (.c (.bool false))), Oa 79 (.mv (.t 78)), Oe 80 (.mv (.t 10)) 79 true, Oe 81 (.faddr 3 (.t 12)) 79 true, Oe 82 (.load (.t 81)) 79 true, Oe 83 (.bin .leq (.t 80) (.t 82)) 79 true, Oa 84 (.pick (.t 79) (.t 83) (.c (.bool false))), Oa 6 (.mv (.t 84))]
def c_wsure : SCode := (.seq (.reg false qaus [1, 2, 3]) (.seq (.seq (.reg false qaur [1, 2, 3, 14]) (.cond (.t 14) (.seq (.reg false qauq [6]) .ret) .skip)) (.seq (.seq (.reg false qaup [1, 2, 3, 21]) (.cond (.t 21) (.seq (.reg false qauo [6]) .ret) .skip)) (.seq (.reg false qaun [1, 2, 3, 7, 8]) (.seq (.seq (.reg false qaum [1, 2, 3, 7, 36]) (.cond (.t 36) (.seq (.reg false qaul [6]) .ret) .skip)) (.seq (.reg false qauk [3, 7, 9, 10, 11]) (.seq (.seq (.reg false qao4 [3, 7, 9, 10, 47]) (.cond (.t 47) (.seq (.reg false qao3 [6]) .ret) .skip)) (.seq (.reg false qao2 [9, 10, 12]) (.seq (.reg false qao1 [6]) .ret)))))))))
theorem qakl : comp Try.prog 85 ((Try.f3.body).getD .skip) = some c_wsure.erase := by kernel_rfl
end Go.Proofs.Yticeaegpkpjjeaa
namespace Go.Proofs.Yticeaegpkpjjeaa
set_option linter.all false
open Go.RowKit
attribute [local simp] qabj qabi qaaw qaa2 qaax qaa1 qabg qabh qaap qab2 SOp.run SX.ev putd puts argS upds SOp.touch SSt.keep SSt.skip gets geth puth delh idOf SV.cells? setL qadu qadv sbin eq0 eq1 eqL qadr qacr qacs qaau qabk qaaf qabl qab3 qaai qaak FrzOk qaa5 qaaz qaa3 qaa4 qaaq qaay qabm qaa0 qaas qaa6 qaar frzS frzH frz frz1 frz0 SlotsM ObjsM ObjM rn ren ren1 ren0 qab6 qacp qacu qab5 qabn qacv qact CoL qaa7 qab7 dels adds idsH qabt
attribute [local simp] qaeh refc qaee qaea qacl opc actc tabc qaef qacc nums goc bvc u1 n1 b1 qac0
def useG (g : GoD) (h : Int) : GoD := { g with gone := g.gone || (decide (0 ≤ h) && !(g.there.getD h.toNat false)) }
set_option maxHeartbeats 4000000 in
theorem use_s (Y : List SV) (g : GoD) (h : Int) (hh : h < g.there.length) (hv : g.v.length ≤ 6) : SCalls Try.prog 131 [.ptr 0 0, .int .i64 h] (gobj Y g) 12 (.tup []) (gobj Y (useG g h)) := by
 refine qaal (N := 25) Try.func131 rfl rfl (by kernel_rfl) qauc (by simp) (by repeat' (first | exact trivial | refine And.intro ?_ ?_ | rfl | decide | exact PureR.ren _)) (qat1 Y g hv) ?_
 rintro X hP hN hm
 unfold c_use
 by_cases h0 : 0 ≤ h
 ·have hlt : h.toNat < g.there.length := by omega
  obtain ⟨tb, htb⟩ : ∃ tb, g.there[h.toNat]'hlt = tb := ⟨_, rfl⟩
  have hd : g.there.getD h.toNat false = tb := by rw [List.getD_eq_getElem?_getD, List.getElem?_eq_getElem hlt, htb]; rfl
  have hg : useG g h = { g with gone := g.gone || !tb } := by unfold useG; rw [hd, decide_eq_true h0]; rfl
  rw [hg]
  have kd : decide (0 ≤ h) = true := decide_eq_true h0
  clear hg hd
  cases hG : g.gone <;> cases tb
  all_goals
   repeat' (first | ((with_reducible refine qaad ?_); (try rw [hP]); simp -implicitDefEqProofs [*]) | ((with_reducible refine qaag [] hm ?_ ?_ ?_ ?_) <;> (try simp only [zT, puth, Nat.reduceEqDiff, reduceIte, Nat.reduceAdd])) | (with_reducible first | refine zb ?_ ?_ ?_ ?_ | refine zc ?_ ?_ ?_ ?_ | refine zd ?_ ?_ ?_ ?_) | (with_reducible first | exact qaaa | exact qaac) | ((with_reducible first | refine zga ?_ | refine zgb ?_); rfl) | ((with_reducible refine zgc ?_); (first | (with_reducible rfl) | rfl | (simp; done))) | ((with_reducible refine zgd ?_); (first | omega | (simp; done))) | (exact CoL.refl _) | ((refine fin_gv ?_; simp only [gobj, goc, hG])) | (exact qab0 hv (six rfl rfl rfl rfl rfl rfl)) | fail)
   all_goals trace_state
 ·have hg : useG g h = g := by unfold useG; rw [decide_eq_false h0, Bool.false_and, Bool.or_false]
  rw [hg]
  have kd : decide (0 ≤ h) = false := decide_eq_false h0
  cases hG : g.gone
  all_goals
   repeat' (first | ((with_reducible refine qaad ?_); (try rw [hP]); simp -implicitDefEqProofs [*]) | ((with_reducible refine qaag [] hm ?_ ?_ ?_ ?_) <;> (try simp only [zT, puth, Nat.reduceEqDiff, reduceIte, Nat.reduceAdd])) | (with_reducible first | refine zb ?_ ?_ ?_ ?_ | refine zc ?_ ?_ ?_ ?_ | refine zd ?_ ?_ ?_ ?_) | (with_reducible first | exact qaaa | exact qaac) | ((with_reducible first | refine zga ?_ | refine zgb ?_); rfl) | ((with_reducible refine zgc ?_); (first | (with_reducible rfl) | rfl | (simp; done))) | ((with_reducible refine zgd ?_); (first | omega | (simp; done))) | (exact CoL.refl _) | ((refine fin_gv ?_; simp only [gobj, goc, hG])) | (exact qab0 hv (six rfl rfl rfl rfl rfl rfl)) | fail)
   all_goals trace_state
def qad9 (l : List Bool) : Nat → BitVec 64
 | 0 => 0
 | i + 1 => if l.getD i false then qad9 l i ||| bitB i else qad9 l i
theorem qaol (l : List Bool) {i : Nat} (h : i < l.length) : qad9 l (i + 1) = if l[i] = true then qad9 l i ||| bitB i else qad9 l i := by
 show (if l.getD i false then _ else _) = _
 rw [List.getD_eq_getElem?_getD, List.getElem?_eq_getElem h]; rfl
set_option maxHeartbeats 4000000 in
theorem gmask_s (Y : List SV) (g : GoD) (ht : g.there.length ≤ 6) (hv : g.v.length ≤ 6) : SCalls Try.prog 51 [.ptr 0 0] (gobj Y g) 12 (.int .u64 (qad9 g.there g.there.length).toNat) (gobj Y g) := by
 refine qaal (N := 26) Try.func51 rfl rfl (by kernel_rfl) qak2 (by simp) (by repeat' (first | exact trivial | refine And.intro ?_ ?_ | rfl | decide | exact PureR.ren _)) (qat1 Y g hv) ?_
 rintro X hP hN hm
 unfold c_gmask
 have hb := fun (i : Nat) (hi : i < 6) q => rbit_s (i : Int) (by omega) (by omega) q
 replace hb := Lib.hid hb
 repeat' (first | (with_reducible refine zA ?_) | ((with_reducible refine qaad ?_); (try rw [hP]); simp -implicitDefEqProofs [*]) | fail)
 refine qaat (qabp (fun s (i : Nat) => s.turn [(3, .int .u64 (qad9 g.there i).toNat), (4, .int .i64 i)] []) (fun i => i ≤ g.there.length) (fun i => g.there.length - i) 0 ?_ (by simp) ?_)
 ·repeat' (first | ((with_reducible refine qaag [] hm ?_ ?_ ?_ ?_) <;> (try simp only [zT, puth, Nat.reduceEqDiff, reduceIte, Nat.reduceAdd])) | (with_reducible first | refine za ?_ ?_ | refine zb ?_ ?_ ?_ ?_ | refine zc ?_ ?_ ?_ ?_ | refine zd ?_ ?_ ?_ ?_) | (with_reducible first | exact qaaa | exact qaac) | ((with_reducible first | refine zga ?_ | refine zgb ?_); rfl) | ((with_reducible refine zgc ?_); (first | (with_reducible rfl) | rfl | (simp; done))) | ((with_reducible refine zgd ?_); (first | omega | (simp; done))) | (exact Co.refl _) | (exact CoL.refl _) | fail)
  all_goals first | exact qab0 hv (six rfl rfl rfl rfl rfl rfl) | trace_state
 rintro J hJ i h1
 unfold qaj5
 simp only [zT, puth, Nat.reduceEqDiff, reduceIte, Nat.reduceAdd] at h1 ⊢
 rcases Nat.lt_or_ge i g.there.length with hi | hi
 ·have wi : IntKind.i64.wrap ((i : Int) + 1) = (i : Int) + 1 := qaav (by omega) (by omega)
  have hms := qaol g.there hi
  generalize hK : qad9 g.there (i + 1) = K at hms
  generalize qad9 g.there i = M at hms
  generalize hxx : g.there[i] = x at hms
  have hb2 := fun q => hb.out i (by omega) q
  replace hb2 := Lib.hid hb2
  cases x
  all_goals
   simp only [Bool.false_eq_true, if_true, if_false] at hms
   replace hms := Lib.hid hms
   replace hK := Lib.hid hK
   repeat' (first | (with_reducible first | refine zA ?_ | refine qaah ?_) | ((with_reducible refine qaad ?_); (try rw [hP]); simp -implicitDefEqProofs [-BitVec.toNat_or, qaca, *]) | ((with_reducible refine qaae ?_); (try simp -implicitDefEqProofs [-BitVec.toNat_or, qaca, *])) | ((with_reducible refine qaab rfl (fun h => ?_) (fun h => ?_)) <;> have h' := h <;> (try simp at h') <;> (try subst h')) | (refine qabb (hb2.out _) ?_; simp -implicitDefEqProofs [-BitVec.toNat_or, qaca, *]) | (with_reducible first | refine za ?_ ?_ | refine zb ?_ ?_ ?_ ?_ | refine zc ?_ ?_ ?_ ?_ | refine zd ?_ ?_ ?_ ?_) | (with_reducible first | exact qaaa | exact qaac) | ((with_reducible first | refine zga ?_ | refine zgb ?_); rfl) | ((with_reducible refine zgc ?_); (first | (with_reducible rfl) | rfl | (simp; done))) | ((with_reducible first | refine zgd ?_ | refine zge ?_); (first | omega | (simp; done))) | (exact Co.refl _) | (exact CoL.refl _) | ((refine qaaj hJ (i + 1) ?_ ?_ ?_; (with_reducible refine qaag [] hm ?_ ?_ ?_ ?_) <;> (try simp only [zT, puth, Nat.reduceEqDiff, reduceIte, Nat.reduceAdd]))) | (exact qab0 hv (six rfl rfl rfl rfl rfl rfl)) | fail)
   all_goals first | omega | (rw [hK.out, hms.out]; done) | (rw [hK.out, hms.out]; exact Co.refl _) | trace_state
 ·obtain rfl : i = g.there.length := by omega
  repeat' (first | (with_reducible refine zA ?_) | ((with_reducible refine qaad ?_); (try rw [hP]); simp -implicitDefEqProofs [*]) | ((with_reducible refine qaao ?_); (try simp -implicitDefEqProofs [*])) | ((with_reducible refine qaam ?_); (try simp only [qaau, qaaf, qaai])) | ((with_reducible refine qaab rfl (fun h => ?_) (fun h => ?_)) <;> have h' := h <;> (try simp at h') <;> (try subst h')) | ((with_reducible refine qaag [] hm ?_ ?_ ?_ ?_) <;> (try simp only [zT, puth, Nat.reduceEqDiff, reduceIte, Nat.reduceAdd])) | (with_reducible first | refine za ?_ ?_ | refine zb ?_ ?_ ?_ ?_ | refine zc ?_ ?_ ?_ ?_ | refine zd ?_ ?_ ?_ ?_) | (with_reducible first | exact qaaa | exact qaac) | ((with_reducible first | refine zga ?_ | refine zgb ?_); rfl) | ((with_reducible refine zgc ?_); (first | (with_reducible rfl) | rfl | (simp; done))) | ((with_reducible refine zgd ?_); (first | omega | (simp; done))) | (exact Co.refl _) | (exact CoL.refl _) | ((refine qat5 ?_; simp only [gobj, goc])) | (exact qab0 hv (six rfl rfl rfl rfl rfl rfl)) | fail)
  all_goals trace_state
end Go.Proofs.Yticeaegpkpjjeaa
namespace Go.Proofs.Yticeaegpkpjjeaa
set_option linter.all false
open Go.RowKit
attribute [local simp] qabj qabi qaaw qaa2 qaax qaa1 qabg qabh qaap qab2 SOp.run SX.ev putd puts argS upds SOp.touch SSt.keep SSt.skip gets geth puth delh idOf SV.cells? setL qadu qadv sbin eq0 eq1 eqL qadr qacr qacs qaau qabk qaaf qabl qab3 qaai qaak FrzOk qaa5 qaaz qaa3 qaa4 qaaq qaay qabm qaa0 qaas qaa6 qaar frzS frzH frz frz1 frz0 SlotsM ObjsM ObjM rn ren ren1 ren0 qab6 qacp qacu qab5 qabn qacv qact CoL qaa7 qab7 dels adds idsH qabt
attribute [local simp] qaeh refc qaee qaea qacl opc actc tabc qaef qacc nums goc bvc u1 n1 b1 qac0 useG
theorem use_up (Y : List SV) (g : GoD) (h : Int) (hh : h < g.there.length) (hv : g.v.length ≤ 6) (q : Nat) (hq : 12 ≤ q) : SCalls Try.prog 131 [.ptr 0 0, .int .i64 h] (gobj Y g) q (.tup []) (gobj Y (useG g h)) :=
 g_up (g' := useG g h) hv hv (use_s Y g h hh hv) q hq rfl rfl rfl
theorem qa3r (Y : List SV) (g : GoD) (ht : g.there.length ≤ 6) (hv : g.v.length ≤ 6) (q : Nat) (hq : 12 ≤ q) : SCalls Try.prog 51 [.ptr 0 0] (gobj Y g) q (.int .u64 (qad9 g.there g.there.length).toNat) (gobj Y g) :=
 g_up hv hv (gmask_s Y g ht hv) q hq rfl rfl rfl
def qadx (g : GoD) (r : RefD) (args : List Int) : Int := if r.h = -3 then g.port else if r.h = -1 then el g.meta_ r.f.toNat else if r.h = -2 then el args r.f.toNat else el (vk g.v r.h.toNat) r.f.toNat
def qa45 (g : GoD) (A : Nat) (r : RefD) : Prop := r.h = -3 ∨ (r.h = -1 ∧ 0 ≤ r.f ∧ r.f < g.meta_.length) ∨ (r.h = -2 ∧ 0 ≤ r.f ∧ r.f < A) ∨ (0 ≤ r.h ∧ r.h < g.v.length ∧ 0 ≤ r.f ∧ r.f < (vk g.v r.h.toNat).length)
set_option maxHeartbeats 8000000 in
theorem field_s (Y : List SV) (g : GoD) (r : RefD) (args : List Int) (hr : qa45 g args.length r) (hv : g.v.length ≤ 6) (ht : g.there.length = g.v.length) :
  SCalls Try.prog 96 [.ptr 0 0, .agg (refc r), nums .u64 args] (gobj Y g) 12 (.int .u64 (qadx g r args)) (gobj Y (useG g r.h)) := by
 refine qaal (N := 49) Try.func96 rfl rfl (by kernel_rfl) qak3 (by simp) (by repeat' (first | exact trivial | refine And.intro ?_ ?_ | rfl | decide | exact PureR.ren _)) (qat1 Y g hv) ?_
 rintro X hP hN hm
 unfold c_field
 obtain ⟨rh, rf⟩ := r
 unfold qa45 at hr
 dsimp only at hr ⊢
 have hu := fun q hq => use_up Y g rh (by rcases hr with h | h | h | h <;> omega) hv q hq
 have hvu : (useG g rh).v.length ≤ 6 := hv
 have hgo : ∃ G, useG g rh = { g with gone := G } := ⟨_, rfl⟩
 obtain ⟨G, hG⟩ := hgo
 rw [hG] at hu ⊢
 replace hu := Lib.hid hu
 replace ht := Lib.hid ht
 clear hG hvu
 rcases hr with rfl | ⟨rfl, h1, h2⟩ | ⟨rfl, h1, h2⟩ | ⟨h1, h2, h3, h4⟩
 ·have hF : qadx g ⟨-3, rf⟩ args = g.port := rfl
  rw [hF]
  repeat' (first | (with_reducible refine zA ?_) | ((with_reducible refine qaad ?_); (try rw [hP]); simp -implicitDefEqProofs [*]) | ((with_reducible refine qaam ?_); (try simp only [qaau, qaaf, qaai])) | ((with_reducible refine qaab rfl (fun h => ?_) (fun h => ?_)) <;> have h' := h <;> (try simp at h') <;> (try subst h')) | (refine qabc (hu.out _ (by simp)) ⟨rfl, rfl, rfl, rfl, rfl, rfl, rfl, rfl, rfl, rfl, rfl, rfl, trivial⟩ ⟨rfl, rfl, rfl, rfl, rfl, rfl, rfl, rfl, rfl, rfl, rfl, rfl, trivial⟩ ?_; simp -implicitDefEqProofs [*]) | ((with_reducible refine qaag [] hm ?_ ?_ ?_ ?_) <;> (try simp only [zT, puth, Nat.reduceEqDiff, reduceIte, Nat.reduceAdd])) | (with_reducible first | refine za ?_ ?_ | refine zb ?_ ?_ ?_ ?_ | refine zc ?_ ?_ ?_ ?_ | refine zd ?_ ?_ ?_ ?_) | (with_reducible first | exact qaaa | exact qaac) | ((with_reducible first | refine zga ?_ | refine zgb ?_); rfl) | ((with_reducible refine zgc ?_); (first | (with_reducible rfl) | rfl | (simp; done))) | ((with_reducible refine zgd ?_); (first | omega | (simp; done))) | (exact Co.refl _) | (exact CoL.refl _) | ((refine qat5 ?_; simp only [gobj, goc])) | (exact qab0 hv (six rfl rfl rfl rfl rfl rfl)) | fail)
  all_goals trace_state
 ·have hlt : rf.toNat < g.meta_.length := by omega
  obtain ⟨x, hx⟩ : ∃ x, g.meta_[rf.toNat]'hlt = x := ⟨_, rfl⟩
  have hF : qadx g ⟨-1, rf⟩ args = x := by
   show el g.meta_ rf.toNat = x
   unfold el
   rw [List.getD_eq_getElem?_getD, List.getElem?_eq_getElem hlt, hx]; rfl
  rw [hF]
  replace hF := Lib.hid hF
  repeat' (first | (with_reducible first | refine zA ?_ | refine zK ?_) | ((with_reducible first | refine qaad ?_ | refine qaa8 (by rw [hP]; exact qadn) ?_); (try rw [hP]); simp -implicitDefEqProofs [*]) | ((with_reducible refine qaae ?_); (try simp -implicitDefEqProofs [*])) | ((with_reducible refine qaam ?_); (try simp only [qaau, qaaf, qaai])) | ((with_reducible refine qaab rfl (fun h => ?_) (fun h => ?_)) <;> have h' := h <;> (try simp at h') <;> (try subst h')) | (refine qabc (hu.out _ (by simp)) ⟨rfl, rfl, rfl, rfl, rfl, rfl, rfl, rfl, rfl, rfl, rfl, rfl, trivial⟩ ⟨rfl, rfl, rfl, rfl, rfl, rfl, rfl, rfl, rfl, rfl, rfl, rfl, trivial⟩ ?_; simp -implicitDefEqProofs [*]) | ((with_reducible refine qaag [] hm ?_ ?_ ?_ ?_) <;> (try simp only [zT, puth, Nat.reduceEqDiff, reduceIte, Nat.reduceAdd])) | (with_reducible first | refine za ?_ ?_ | refine zb ?_ ?_ ?_ ?_ | refine zc ?_ ?_ ?_ ?_ | refine zd ?_ ?_ ?_ ?_) | (with_reducible first | exact qaaa | exact qaac) | ((with_reducible first | refine zga ?_ | refine zgb ?_); rfl) | ((with_reducible refine zgc ?_); (first | (with_reducible rfl) | rfl | (simp; done))) | ((with_reducible refine zgd ?_); (first | omega | (simp; done))) | (exact Co.refl _) | (exact CoL.refl _) | ((refine qat5 ?_; simp only [gobj, goc])) | (exact qab0 hv (six rfl rfl rfl rfl rfl rfl)) | fail)
  all_goals trace_state
 ·have hlt : rf.toNat < args.length := by omega
  obtain ⟨x, hx⟩ : ∃ x, args[rf.toNat]'hlt = x := ⟨_, rfl⟩
  have hF : qadx g ⟨-2, rf⟩ args = x := by
   show el args rf.toNat = x
   unfold el
   rw [List.getD_eq_getElem?_getD, List.getElem?_eq_getElem hlt, hx]; rfl
  rw [hF]
  replace hF := Lib.hid hF
  repeat' (first | (with_reducible refine zA ?_) | ((with_reducible refine qaad ?_); (try rw [hP]); simp -implicitDefEqProofs [*]) | ((with_reducible refine qaae ?_); (try simp -implicitDefEqProofs [*])) | ((with_reducible refine qaam ?_); (try simp only [qaau, qaaf, qaai])) | ((with_reducible refine qaab rfl (fun h => ?_) (fun h => ?_)) <;> have h' := h <;> (try simp at h') <;> (try subst h')) | (refine qabc (hu.out _ (by simp)) ⟨rfl, rfl, rfl, rfl, rfl, rfl, rfl, rfl, rfl, rfl, rfl, rfl, trivial⟩ ⟨rfl, rfl, rfl, rfl, rfl, rfl, rfl, rfl, rfl, rfl, rfl, rfl, trivial⟩ ?_; simp -implicitDefEqProofs [*]) | ((with_reducible refine qaag [] hm ?_ ?_ ?_ ?_) <;> (try simp only [zT, puth, Nat.reduceEqDiff, reduceIte, Nat.reduceAdd])) | (with_reducible first | refine za ?_ ?_ | refine zb ?_ ?_ ?_ ?_ | refine zc ?_ ?_ ?_ ?_ | refine zd ?_ ?_ ?_ ?_) | (with_reducible first | exact qaaa | exact qaac) | ((with_reducible first | refine zga ?_ | refine zgb ?_); rfl) | ((with_reducible refine zgc ?_); (first | (with_reducible rfl) | rfl | (simp; done))) | ((with_reducible refine zgd ?_); (first | omega | (simp; done))) | (exact Co.refl _) | (exact CoL.refl _) | ((refine qat5 ?_; simp only [gobj, goc])) | (exact qab0 hv (six rfl rfl rfl rfl rfl rfl)) | fail)
  all_goals trace_state
 ·have hlt : rf.toNat < (vk g.v rh.toNat).length := by omega
  obtain ⟨x, hx⟩ : ∃ x, (vk g.v rh.toNat)[rf.toNat]'hlt = x := ⟨_, rfl⟩
  have hF : qadx g ⟨rh, rf⟩ args = x := by
   unfold qadx
   rw [if_neg (by dsimp only; omega), if_neg (by dsimp only; omega), if_neg (by dsimp only; omega)]
   unfold el
   rw [List.getD_eq_getElem?_getD, List.getElem?_eq_getElem hlt, hx]; rfl
  rw [hF]
  have ho := qaey (v := g.v) (k := rh.toNat) (by omega)
  have e3 : (rh == -3) = false := by simp; omega
  have e1 : (rh == -1) = false := by simp; omega
  have e2 : (rh == -2) = false := by simp; omega
  clear hF
  obtain rfl | rfl | rfl | rfl | rfl | rfl : rh = 0 ∨ rh = 1 ∨ rh = 2 ∨ rh = 3 ∨ rh = 4 ∨ rh = 5 := by omega
  all_goals
   simp only [Int.toNat_zero, Int.toNat_one, Int.reduceToNat, Nat.reduceAdd] at ho hx h4 hlt
   clear e1 e2 e3
   repeat' (first | (with_reducible first | refine zA ?_ | refine zK ?_) | ((with_reducible first | refine qaad ?_ | refine qaa8 (by rw [hP]; exact qadn) ?_); (try rw [hP]); simp -implicitDefEqProofs [*]) | ((with_reducible refine qaae ?_); (try simp -implicitDefEqProofs [*])) | ((with_reducible refine qaam ?_); (try simp only [qaau, qaaf, qaai])) | ((with_reducible refine qaab rfl (fun h => ?_) (fun h => ?_)) <;> have h' := h <;> (try simp at h') <;> (try subst h')) | ((with_reducible refine qabw ?_ ?_); (first | omega | (unfold maxLen; omega)); simp -implicitDefEqProofs [*]) | (refine qabc (hu.out _ (by simp)) ⟨rfl, rfl, rfl, rfl, rfl, rfl, rfl, rfl, rfl, rfl, rfl, rfl, trivial⟩ ⟨rfl, rfl, rfl, rfl, rfl, rfl, rfl, rfl, rfl, rfl, rfl, rfl, trivial⟩ ?_; simp -implicitDefEqProofs [*]) | ((with_reducible refine qaag [] hm ?_ ?_ ?_ ?_) <;> (try simp only [zT, puth, Nat.reduceEqDiff, reduceIte, Nat.reduceAdd])) | (with_reducible first | refine za ?_ ?_ | refine zb ?_ ?_ ?_ ?_ | refine zc ?_ ?_ ?_ ?_ | refine zd ?_ ?_ ?_ ?_) | (with_reducible first | exact qaaa | exact qaac) | ((with_reducible first | refine zga ?_ | refine zgb ?_); rfl) | ((with_reducible refine zgc ?_); (first | (with_reducible rfl) | rfl | (simp; done))) | ((with_reducible refine zgd ?_); (first | omega | (simp; done))) | (exact Co.refl _) | (exact CoL.refl _) | ((refine qat5 ?_; simp only [gobj, goc])) | (exact qab0 hv (six rfl rfl rfl rfl rfl rfl)) | fail)
   all_goals trace_state
end Go.Proofs.Yticeaegpkpjjeaa
namespace Go.Proofs.Yticeaegpkpjjeaa
set_option linter.all false
open Go.RowKit
abbrev qar8 : List SOper := [Oa 2 (.mv (.c .nilsl))]
abbrev qar7 : List SOper := [Oa 3 (.mv (.c .nilsl))]
abbrev qar6 : List SOper := [Oa 4 (.mv (.c (.int .i64 0)))]
abbrev qar5 : List SOper := [Oa 6 (.mv (.t 4)), Oa 7 (.mv (.t 0)), Oa 8 (.len false (.t 7)), Oa 9 (.bin .lss (.t 6) (.t 8))]
abbrev qar4 : List SOper := [Oa 5 (.mv (.c (.int .i64 7)))]
abbrev qar3 : List SOper := [Oa 12 (.mv (.t 5)), Oa 13 (.bin .geq (.t 12) (.c (.int .i64 0)))]
abbrev qar2 : List SOper := [Oa 16 (.mv (.t 3)), Oa 17 (.mv (.t 0)), Oa 18 (.mv (.t 4)), Oa 19 (.iaddr 1 (.t 17) (.t 18)), Oa 20 (.load (.t 19)), Oa 21 (.mv (.t 5)), Oa 22 (.conv .u64 (.t 21)), Oa 23 (.bin .shr (.t 20) (.t 22)), Oa 24 (.bin .and (.t 23) (.c (.int .u8 1))), Oa 25 (.mkrow 5 1 1 [(.int .u8 0)] [(0, (.t 24))]), Oa 26 (.app 5 1 1 (.t 16) (.t 25)), Oa 3 (.mv (.t 26))]
abbrev qar1 : List SOper := [Oa 14 (.mv (.t 5)), Oa 15 (.bin .sub (.t 14) (.c (.int .i64 1))), Oa 5 (.mv (.t 15))]
def qahm : SCode := (.seq (.seq (.reg false qar3 [0, 3, 4, 5, 13]) (.cond (.t 13) .skip (.exit 2))) (.seq (.block 3 (.reg false qar2 [0, 3, 4, 5])) (.reg false qar1 [0, 3, 4, 5])))
abbrev qar0 : List SOper := [Oa 10 (.mv (.t 4)), Oa 11 (.bin .add (.t 10) (.c (.int .i64 1))), Oa 4 (.mv (.t 11))]
def qahl : SCode := (.seq (.seq (.reg false qar5 [0, 3, 4, 9]) (.cond (.t 9) .skip (.exit 0))) (.seq (.block 1 (.seq (.reg false qar4 [0, 3, 4, 5]) (.block 2 (.loop qahm)))) (.reg false qar0 [0, 3, 4])))
abbrev qagn : List SOper := [Oa 27 (.mv (.t 3)), Oa 2 (.mv (.t 27))]
def c_bitsof : SCode := (.seq (.reg false qar8 [0]) (.seq (.reg false qar7 [0, 3]) (.seq (.seq (.reg false qar6 [0, 3, 4]) (.block 0 (.loop qahl))) (.seq (.reg false qagn [2]) .ret))))
theorem qai4 : comp Try.prog 28 ((Try.f160.body).getD .skip) = some c_bitsof.erase := by kernel_rfl
abbrev qam9 : List SOper := [Oa 2 (.mv (.c (.int .u64 0)))]
abbrev qam8 : List SOper := [Oa 3 (.mv (.c (.int .u64 0)))]
abbrev qam7 : List SOper := [Oa 4 (.mv (.c (.int .i64 0)))]
abbrev qam6 : List SOper := [Oa 5 (.mv (.t 4)), Oa 6 (.mv (.t 0)), Oa 7 (.len false (.t 6)), Oa 8 (.bin .lss (.t 5) (.t 7))]
abbrev qam5 : List SOper := [Oa 11 (.mv (.t 3)), Oa 12 (.bin .mul (.c (.int .u64 2)) (.t 11)), Oa 13 (.mv (.t 0)), Oa 14 (.mv (.t 4)), Oa 15 (.iaddr 1 (.t 13) (.t 14)), Oa 16 (.load (.t 15)), Oa 17 (.conv .u64 (.t 16)), Oa 18 (.bin .add (.t 12) (.t 17)), Oa 3 (.mv (.t 18))]
abbrev qam4 : List SOper := [Oa 9 (.mv (.t 4)), Oa 10 (.bin .add (.t 9) (.c (.int .i64 1))), Oa 4 (.mv (.t 10))]
def qago : SCode := (.seq (.seq (.reg false qam6 [0, 3, 4, 8]) (.cond (.t 8) .skip (.exit 0))) (.seq (.block 1 (.reg false qam5 [0, 3, 4])) (.reg false qam4 [0, 3, 4])))
abbrev qam3 : List SOper := [Oa 19 (.mv (.t 3)), Oa 2 (.mv (.t 19))]
def c_bitsnum : SCode := (.seq (.reg false qam9 [0]) (.seq (.reg false qam8 [0, 3]) (.seq (.seq (.reg false qam7 [0, 3, 4]) (.block 0 (.loop qago))) (.seq (.reg false qam3 [2]) .ret))))
theorem qah9 : comp Try.prog 20 ((Try.f159.body).getD .skip) = some c_bitsnum.erase := by kernel_rfl
abbrev qase : List SOper := [Oa 6 (.alloc 35 [(.int .i64 0), (.int .i64 0)])]
abbrev qasd : List SOper := [Oa 7 (.mv (.t 2)), Oa 8 (.bin .lss (.t 7) (.c (.int .i64 1))), Oa 9 (.mv (.t 8)), Oe 10 (.mv (.t 2)) 9 false, Oe 11 (.bin .gtr (.t 10) (.c (.int .i64 64))) 9 false, Oa 12 (.pick (.t 9) (.c (.bool true)) (.t 11))]
abbrev qasc : List SOper := [Oc 13 46 [(.c (.int .i64 6)), (.c (.int .i64 (-1)))], Ob (.store 2 (.t 6) (.t 13))]
abbrev qasb : List SOper := [Oa 14 (.mv (.t 1)), Oa 15 (.bin .lss (.t 14) (.c (.int .i64 0))), Oa 16 (.mv (.t 15)), Oe 17 (.mv (.t 1)) 16 false, Oe 18 (.mv (.t 0)) 16 false, Oe 19 (.len false (.t 18)) 16 false, Oe 20 (.bin .mul (.t 19) (.c (.int .i64 8))) 16 false, Oe 21 (.bin .gtr (.t 17) (.t 20)) 16 false, Oa 22 (.pick (.t 16) (.c (.bool true)) (.t 21)), Oa 23 (.mv (.t 22)), Oe 24 (.mv (.t 2)) 23 false, Oe 25 (.mv (.t 0)) 23 false, Oe 26 (.len false (.t 25)) 23 false, Oe 27 (.bin .mul (.t 26) (.c (.int .i64 8))) 23 false, Oe 28 (.mv (.t 1)) 23 false, Oe 29 (.bin .sub (.t 27) (.t 28)) 23 false, Oe 30 (.bin .gtr (.t 24) (.t 29)) 23 false, Oa 31 (.pick (.t 23) (.c (.bool true)) (.t 30))]
abbrev qasa : List SOper := [Oc 32 46 [(.c (.int .i64 1)), (.c (.int .i64 (-1)))], Ob (.store 2 (.t 6) (.t 32))]
abbrev qar9 : List SOper := [Oa 33 (.build [(.int .i64 0), (.int .i64 0)] []), Ob (.store 2 (.t 6) (.t 33))]
def c_bfault : SCode := (.seq (.reg false qase [0, 1, 2, 6]) (.seq (.seq (.reg false qasd [0, 1, 2, 6, 12]) (.cond (.t 12) (.seq (.reg false qasc [6]) .ret) .skip)) (.seq (.seq (.reg false qasb [6, 31]) (.cond (.t 31) (.seq (.reg false qasa [6]) .ret) .skip)) (.seq (.reg false qar9 [6]) .ret))))
theorem qai5 : comp Try.prog 34 ((Try.f158.body).getD .skip) = some c_bfault.erase := by kernel_rfl
abbrev qa07 : List SOper := [Oa 6 (.mv (.c (.int .u64 0))), Oa 7 (.alloc 35 [(.int .i64 0), (.int .i64 0)])]
abbrev qa06 : List SOper := [Oa 9 (.mv (.t 0)), Oa 10 (.mv (.t 1)), Oa 11 (.mv (.t 2)), Oc 12 158 [(.t 9), (.t 10), (.t 11)], Oa 8 (.alloc 35 [(.int .i64 0), (.int .i64 0)]), Ob (.store 2 (.t 8) (.t 12))]
abbrev qa05 : List SOper := [Oa 13 (.faddr 0 (.t 8)), Oa 14 (.load (.t 13)), Oa 15 (.bin .neq (.t 14) (.c (.int .i64 0)))]
abbrev qa04 : List SOper := [Oa 16 (.loads 2 (.t 8)), Oa 6 (.mv (.c (.int .u64 0))), ⟨none, .store 2 (.t 7) (.t 16), none, none, 3⟩]
abbrev qa03 : List SOper := [Oa 17 (.mv (.t 0)), Oc 18 160 [(.t 17)], Oa 19 (.mv (.t 1)), Oa 20 (.mv (.t 1)), Oa 21 (.mv (.t 2)), Oa 22 (.bin .add (.t 20) (.t 21)), Oa 23 (.slice 1 (.t 18) (some (.t 19)) (some (.t 22))), Oc 24 159 [(.t 23)], Oa 25 (.build [(.int .i64 0), (.int .i64 0)] []), Oa 6 (.mv (.t 24)), Ob (.store 2 (.t 7) (.t 25))]
def c_rget : SCode := (.seq (.reg false qa07 [0, 1, 2, 7]) (.seq (.seq (.reg false qa06 [0, 1, 2, 7, 8]) (.seq (.reg false qa05 [0, 1, 2, 7, 8, 15]) (.cond (.t 15) (.seq (.reg true qa04 [6, 7]) .ret) .skip))) (.seq (.reg false qa03 [6, 7]) .ret)))
theorem qaot : comp Try.prog 26 ((Try.f130.body).getD .skip) = some c_rget.erase := by kernel_rfl
abbrev qawh : List SOper := [Oa 6 (.mv (.c .nilsl)), Oa 7 (.alloc 35 [(.int .i64 0), (.int .i64 0)])]
abbrev qawg : List SOper := [Oa 8 (.mv (.c .nilsl))]
abbrev qawf : List SOper := [Oa 9 (.mv (.c (.int .i64 0)))]
abbrev qawe : List SOper := [Oa 12 (.mv (.t 9)), Oa 13 (.mv (.t 2)), Oa 14 (.len false (.t 13)), Oa 15 (.bin .lss (.t 12) (.t 14))]
abbrev qawd : List SOper := [Oa 19 (.mv (.t 0)), Oa 20 (.mv (.t 1)), Oa 21 (.mv (.t 2)), Oa 22 (.mv (.t 9)), Oa 23 (.iaddr 1 (.t 21) (.t 22)), Oa 24 (.load (.t 23)), Oc 25 130 [(.t 19), (.t 20), (.t 24)], Oa 18 (.mv (.t 25)), Oa 26 (.extr (.t 18) 0), Oa 27 (.extr (.t 18) 1), Oa 11 (.alloc 35 [(.int .i64 0), (.int .i64 0)]), Oa 10 (.mv (.t 26)), Ob (.store 2 (.t 11) (.t 27))]
abbrev qawc : List SOper := [Oa 28 (.faddr 0 (.t 11)), Oa 29 (.load (.t 28)), Oa 30 (.bin .neq (.t 29) (.c (.int .i64 0)))]
abbrev qawb : List SOper := [Oa 31 (.faddr 0 (.t 11)), Oa 32 (.load (.t 31)), Oa 33 (.mv (.t 9)), Oc 34 46 [(.t 32), (.t 33)], Oa 6 (.mv (.c .nilsl)), Ob (.store 2 (.t 7) (.t 34))]
abbrev qawa : List SOper := [Oa 35 (.mv (.t 8)), Oa 36 (.mv (.t 10)), Oa 37 (.mkrow 39 1 1 [(.int .u64 0)] [(0, (.t 36))]), Oa 38 (.app 39 1 8 (.t 35) (.t 37)), Oa 8 (.mv (.t 38))]
abbrev qav9 : List SOper := [Oa 39 (.mv (.t 1)), Oa 40 (.mv (.t 2)), Oa 41 (.mv (.t 9)), Oa 42 (.iaddr 1 (.t 40) (.t 41)), Oa 43 (.load (.t 42)), Oa 44 (.bin .add (.t 39) (.t 43)), Oa 1 (.mv (.t 44))]
abbrev qaqf : List SOper := [Oa 16 (.mv (.t 9)), Oa 17 (.bin .add (.t 16) (.c (.int .i64 1))), Oa 9 (.mv (.t 17))]
def qajd : SCode := (.seq (.seq (.reg false qawe [0, 1, 2, 7, 8, 9, 15]) (.cond (.t 15) .skip (.exit 0))) (.seq (.block 1 (.seq (.reg false qawd [0, 1, 2, 7, 8, 9, 10, 11]) (.seq (.seq (.reg false qawc [0, 1, 2, 7, 8, 9, 10, 11, 30]) (.cond (.t 30) (.seq (.reg false qawb [6, 7]) .ret) .skip)) (.seq (.reg false qawa [0, 1, 2, 7, 8, 9]) (.reg false qav9 [0, 1, 2, 7, 8, 9]))))) (.reg false qaqf [0, 1, 2, 7, 8, 9])))
abbrev qaqe : List SOper := [Oa 45 (.mv (.t 8)), Oa 46 (.build [(.int .i64 0), (.int .i64 0)] []), Oa 6 (.mv (.t 45)), Ob (.store 2 (.t 7) (.t 46))]
def c_rpart : SCode := (.seq (.reg false qawh [0, 1, 2, 7]) (.seq (.reg false qawg [0, 1, 2, 7, 8]) (.seq (.seq (.reg false qawf [0, 1, 2, 7, 8, 9]) (.block 0 (.loop qajd))) (.seq (.reg false qaqe [6, 7]) .ret))))
theorem qaks : comp Try.prog 47 ((Try.f95.body).getD .skip) = some c_rpart.erase := by kernel_rfl
end Go.Proofs.Yticeaegpkpjjeaa
namespace Go.Proofs.Yticeaegpkpjjeaa
set_option linter.all false
open Go.RowKit
instance : PureR ([] : List (List SV)) := ⟨fun _ => rfl, fun x hx => (by cases hx), fun x hx => (by cases hx)⟩
theorem qa3u {X : Cx} {sl : Sl} {hp : Hp} {t u nx id id' e z nn n : Nat} {es : List (List SV)} [PureR es] {ty : TypeId} {cs ds : List SV} {r : SV} (hm : X.m = 0) (hne : t ≠ u) (hni : id ≠ id') (hv : gets sl t = .own id' nn) (hu : gets sl u = .ptr id 0) (h1 : geth hp id' = some (.row e z es)) (h : geth hp id = some (.cells ty cs)) (ha : qagq X.P ty = some true) (hn : qaby X.P ty = some n) (hl : ds.length = n) (hc : CoL cs ds) (hr : r = .tup [.own 0 nn, .agg ds]) (hd : ∀ σ, ds.map (Go.Proofs.Yticeaegpkpjjeaa.ren σ) = ds) : QFun X [.tmp t, .cell u ty] 0 r [(0, .row e z es)] .ret ⟨sl, hp, nx⟩ := by
 subst hr hl
 have hw : Wk X ⟨sl, hp, nx⟩ ⟨[(t, .own 0 nn), (u, .ptr 1 0)], [(0, .row e z es), (1, .cells ty ds)], 2⟩ := by
  refine qaag [(0, id'), (1, id)] hm ⟨?_, ?_, trivial⟩ ⟨⟨_, h1, rfl, rfl, ?_⟩, ⟨_, h, rfl, by rw [hd]; exact hc⟩, trivial⟩ ?_ (by simp)
  ·rw [hv]; exact Co.refl _
  ·rw [hu]; exact Co.refl _
  ·rw [PureR.ren]; exact CoLL.refl _
  ·simp [qabt, diag, idsH, hni, Ne.symm hni]
 refine ⟨_, hw, ?_, ⟨rfl, trivial⟩, by simp⟩
 simp [qaoe, resL, resV, one_, gets, ha, hn, SOp.run, SX.ev, geth, hne]
theorem fin_ttt {X : Cx} {sl : Sl} {hp : Hp} {t u y nx : Nat} {v w z : SV} (hm : X.m = 0) (h1 : t ≠ u) (h2 : t ≠ y) (h3 : u ≠ y) (hv : gets sl t = v) (hw : gets sl u = w) (hz : gets sl y = z) (hN : NoN v) (hM : NoN w) (hO : NoN z) : QFun X [.tmp t, .tmp u, .tmp y] 0 (.tup [v, w, z]) [] .ret ⟨sl, hp, nx⟩ := by
 refine ⟨⟨[(t, v), (u, w), (y, z)], [], 0⟩, qa1s [] hm rfl (Nat.zero_le _) ⟨?_, ?_, ?_, trivial⟩ trivial, by simp [qaoe, resL, resV, one_, gets, h1, h1.symm, h2, h2.symm, h3, h3.symm], trivial, by simp⟩
 ·show Co (gets sl t) (Go.Proofs.Yticeaegpkpjjeaa.ren _ v)
  rw [hv, hN]; exact Co.refl _
 ·show Co (gets sl u) (Go.Proofs.Yticeaegpkpjjeaa.ren _ w)
  rw [hw, hM]; exact Co.refl _
 ·show Co (gets sl y) (Go.Proofs.Yticeaegpkpjjeaa.ren _ z)
  rw [hz, hO]; exact Co.refl _
end Go.Proofs.Yticeaegpkpjjeaa
namespace Go.Proofs.Yticeaegpkpjjeaa
set_option linter.all false
open Go.RowKit
attribute [local simp] qabj qabi qaaw qaa2 qaax qaa1 qabg qabh qaap qab2 SOp.run SX.ev putd puts argS upds SOp.touch SSt.keep SSt.skip gets geth puth delh idOf SV.cells? setL qadu qadv sbin eq0 eq1 eqL qadr qacr qacs qaau qabk qaaf qabl qab3 qaai qaak FrzOk qaa5 qaaz qaa3 qaa4 qaaq qaay qabm qaa0 qaas qaa6 qaar frzS frzH frz frz1 frz0 SlotsM ObjsM ObjM rn ren ren1 ren0 qab6 qacp qacu qab5 qabn qacv qact CoL qaa7 qab7 dels adds idsH qabt
attribute [local simp] nums
def bitK (x : Int) (k : Nat) : Int := bits .and .u8 (x / 2 ^ min (7 - k) 8) 1
def qasg (x : Int) (j : Nat) : List Int := (List.range j).map (bitK x)
def qaic (b : List Int) : List Int := b.flatMap fun x => qasg x 8
def qa43 (l : List Int) : Int := l.foldl (fun n x => IntKind.u64.wrap (IntKind.u64.wrap (2 * n) + IntKind.u64.wrap x)) 0
def getR (b : List Int) (a w : Nat) : Int := qa43 (((qaic b).drop a).take w)
def qaoh (b : List Int) : Nat → List Int → List Int
 | _, [] => []
 | a, w :: ws => getR b a w.toNat :: qaoh b (a + w.toNat) ws
theorem qaft (b : List Int) : ∀ (ws : List Int) (a : Nat), (qaoh b a ws).length = ws.length
 | [], _ => rfl
 | w :: ws, a => by simp [qaoh, qaft b ws]
theorem qaib : ∀ b : List Int, (qaic b).length = 8 * b.length
 | [] => rfl
 | x :: b => by
  have := qaib b
  unfold qaic at this ⊢
  rw [List.flatMap_cons, List.length_append, this, List.length_cons]
  simp [qasg]; omega
theorem qayn (x : Int) (j : Nat) : qasg x (j + 1) = qasg x j ++ [bitK x j] := by
 unfold qasg; rw [List.range_succ, List.map_append]; rfl
theorem qaym {b : List Int} {i : Nat} (h : i < b.length) : qaic (b.take (i + 1)) = qaic (b.take i) ++ qasg b[i] 8 := by
 rw [← List.take_append_getElem h]
 unfold qaic
 rw [List.flatMap_append]; simp
theorem u1row (l : List Int) (k : IntKind) (x : Int) : (l ++ [x]).map (fun x => [SV.int k x]) = l.map (fun x => [SV.int k x]) ++ [[.int k x]] := by rw [List.map_append]; rfl
set_option maxHeartbeats 4000000 in
theorem qa4r (b : List Int) (hb : b.length ≤ 100000) (q : Nat) : SCalls Try.prog 160 [nums .u8 b] [] q (nums .u8 (qaic b)) [] := by
 refine qabs ?_ (fun _ => rfl) (fun _ => rfl) rfl q
 refine qaal (N := 28) Try.func160 rfl rfl (by kernel_rfl) qai4 (by simp) (by repeat' (first | exact trivial | refine And.intro ?_ ?_ | rfl | decide | exact PureR.ren _)) (by repeat' (first | exact trivial | refine And.intro ?_ ?_ | rfl | decide | exact PureR.ren _)) ?_
 rintro X hP hN hm
 unfold c_bitsof
 repeat' (first | (with_reducible refine zA ?_) | ((with_reducible refine qaad ?_); (try rw [hP]); simp -implicitDefEqProofs [*]) | fail)
 refine qacy (qafo 3 5 1 rfl) ?_
 simp only [zT, puth, Nat.reduceEqDiff, reduceIte, Nat.reduceAdd]
 refine qaat (qabp (fun s (i : Nat) => s.turn [(3, .own 3 (8 * i)), (4, .int .i64 i)] [(3, .row 5 1 ((qaic (b.take i)).map fun x => [.int .u8 x]))]) (fun i => i ≤ b.length) (fun i => b.length - i) 0 ?_ (by simp) ?_)
 ·repeat' (first | ((with_reducible refine qaag [] hm ?_ ?_ ?_ ?_) <;> (try simp only [zT, puth, Nat.reduceEqDiff, reduceIte, Nat.reduceAdd])) | (with_reducible first | refine za ?_ ?_ | refine zc ?_ ?_ ?_ ?_) | (with_reducible first | exact qaaa | exact qaac) | ((with_reducible first | refine zga ?_ | refine zgb ?_); rfl) | ((with_reducible refine zgc ?_); (first | (with_reducible rfl) | rfl | (simp; done))) | ((with_reducible refine zgd ?_); (first | omega | (simp; done))) | (exact Co.refl _) | fail)
  all_goals rfl
 rintro J hJ i h1
 unfold qahl
 simp only [zT, puth, Nat.reduceEqDiff, reduceIte, Nat.reduceAdd] at h1 ⊢
 have hlen : ((qaic (b.take i)).map fun x => [SV.int .u8 x]).length = 8 * i := by rw [List.length_map, qaib, List.length_take]; omega
 rcases Nat.lt_or_ge i b.length with hi | hi
 ·have hall := qaym hi
  rw [List.length_map] at hlen
  generalize hRR : qaic (b.take i) = B at hlen hall ⊢
  generalize hN : qaic (b.take (i + 1)) = N at hall
  generalize hxx : b[i] = x at hall
  have wi : IntKind.i64.wrap ((i : Int) + 1) = (i : Int) + 1 := qaav (by omega) (by omega)
  replace hall := Lib.hid hall
  replace hN := Lib.hid hN
  replace hRR := Lib.hid hRR
  have hJo := hJ
  repeat' (first | (with_reducible first | refine zA ?_ | refine qaah ?_) | ((with_reducible refine qaad ?_); (try rw [hP]); simp -implicitDefEqProofs [*]) | ((with_reducible refine qaae ?_); (try simp -implicitDefEqProofs [*])) | ((with_reducible refine qaab rfl (fun h => ?_) (fun h => ?_)) <;> have h' := h <;> (try simp at h') <;> (try subst h')) | fail)
  refine qaat (qabp (fun s (j : Nat) => s.turn [(3, .own 3 (8 * i + j)), (5, .int .i64 (7 - (j : Int)))] [(3, .row 5 1 ((B ++ qasg x j).map fun x => [.int .u8 x]))]) (fun j => j ≤ 8) (fun j => 8 - j) 0 ?_ (by simp) ?_)
  ·repeat' (first | ((with_reducible refine qaag [] hm ?_ ?_ ?_ ?_) <;> (try simp only [zT, puth, Nat.reduceEqDiff, reduceIte, Nat.reduceAdd])) | (with_reducible first | refine za ?_ ?_ | refine zc ?_ ?_ ?_ ?_) | (with_reducible first | exact qaaa | exact qaac) | ((with_reducible first | refine zga ?_ | refine zgb ?_); rfl) | ((with_reducible refine zgd ?_); (first | omega | (simp; done))) | (exact Co.refl _) | fail)
   rw [show qasg x 0 = [] from rfl, List.append_nil]
  rintro J hJ j h2
  unfold qahm
  simp only [zT, puth, Nat.reduceEqDiff, reduceIte, Nat.reduceAdd] at h2 ⊢
  have hl2 : (B ++ qasg x j).length = 8 * i + j := by rw [List.length_append, hlen, qasg, List.length_map, List.length_range]
  have hb2 : 8 * i + j + 1 ≤ maxLen := by unfold maxLen; omega
  have hsucc : B ++ qasg x (j + 1) = (B ++ qasg x j) ++ [bitK x j] := by rw [qayn, List.append_assoc]
  rcases Nat.lt_or_ge j 8 with hj | hj
  ·generalize hR2 : B ++ qasg x j = R2 at hl2 hsucc ⊢
   have wj : IntKind.i64.wrap (7 - (j : Int) - 1) = 7 - ((j + 1 : Nat) : Int) := by rw [show 7 - (j : Int) - 1 = 7 - ((j + 1 : Nat) : Int) by omega]; exact IntWalk.i64_in _ ⟨by omega, by omega⟩
   have wu : IntKind.u64.wrap (7 - (j : Int)) = 7 - (j : Int) := qand (by omega) (by omega)
   have kt : (7 - (j : Int)).toNat = 7 - j := by omega
   have kg : (0 : Int) ≤ 7 - (j : Int) := by omega
   have kd : decide (7 - (j : Int) ≥ 0) = true := by simp; omega
   have hbk : bitK x j = bits .and .u8 (x / 2 ^ min (7 - j) 8) 1 := rfl
   replace hsucc := Lib.hid hsucc
   replace hbk := Lib.hid hbk
   replace hR2 := Lib.hid hR2
   repeat' (first | (with_reducible first | refine zA ?_ | refine qacj ?_) | ((with_reducible refine qaad ?_); (try rw [hP]); simp -implicitDefEqProofs [*]) | ((with_reducible first | refine qaae ?_ | refine qaao ?_); (try simp -implicitDefEqProofs [*])) | ((with_reducible refine qaab rfl (fun h => ?_) (fun h => ?_)) <;> have h' := h <;> (try simp at h') <;> (try subst h')) | ((with_reducible refine qabw ?_ ?_); (first | omega | (unfold maxLen; omega)); simp -implicitDefEqProofs [*]) | (with_reducible first | refine za ?_ ?_ | refine zc ?_ ?_ ?_ ?_) | (with_reducible first | exact qaaa | exact qaac) | ((with_reducible first | refine zga ?_ | refine zgb ?_); rfl) | ((with_reducible first | refine zgd ?_ | refine zge ?_); (first | omega | (simp; done))) | (exact Co.refl _) | ((refine qaaj hJ (j + 1) ?_ ?_ ?_; (with_reducible refine qaag [(3, ?_)] hm ?_ ?_ ?_ ?_) <;> (try simp only [zT, puth, Nat.reduceEqDiff, reduceIte, Nat.reduceAdd]))) | fail)
   all_goals first | omega | (rw [hsucc.out, u1row, hbk.out]; done) | (rw [hsucc.out, u1row, hbk.out]; rfl) | trace_state
  ·obtain rfl : j = 8 := by omega
   have kd : decide (7 - ((8 : Nat) : Int) ≥ 0) = false := by decide
   have kd2 : decide ((7 : Int) - 8 ≥ 0) = false := by decide
   rw [← hall.out] at hl2 ⊢
   repeat' (first | (with_reducible refine zA ?_) | ((with_reducible refine qaad ?_); (try rw [hP]); simp -implicitDefEqProofs [*]) | ((with_reducible refine qaao ?_); (try simp -implicitDefEqProofs [*])) | ((with_reducible refine qaab rfl (fun h => ?_) (fun h => ?_)) <;> have h' := h <;> (try simp at h') <;> (try subst h')) | (with_reducible first | refine za ?_ ?_ | refine zc ?_ ?_ ?_ ?_) | (with_reducible first | exact qaaa | exact qaac) | ((with_reducible first | refine zga ?_ | refine zgb ?_); rfl) | ((with_reducible first | refine zgd ?_ | refine zge ?_); (first | omega | (simp; done))) | (exact Co.refl _) | ((refine qaaj hJo (i + 1) ?_ ?_ ?_; (with_reducible refine qaag [(3, ?_)] hm ?_ ?_ ?_ ?_) <;> (try simp only [zT, puth, Nat.reduceEqDiff, reduceIte, Nat.reduceAdd]))) | fail)
   all_goals first | omega | (rw [hN.out]; done) | trace_state
 ·obtain rfl : i = b.length := by omega
  rw [List.take_length] at hlen ⊢
  repeat' (first | ((with_reducible refine qac1 (c := .seq (.reg false qagn [2]) .ret) ?_)) | (with_reducible refine zA ?_) | ((with_reducible refine qaad ?_); (try rw [hP]); simp -implicitDefEqProofs [*]) | ((with_reducible refine qaao ?_); (try simp -implicitDefEqProofs [*])) | ((with_reducible refine qaab rfl (fun h => ?_) (fun h => ?_)) <;> have h' := h <;> (try simp at h') <;> (try subst h')) | fail)
  constructor
  refine qaec [3] ?_ ?_
  ·simp only [FrzOk, geth, Nat.reduceEqDiff, reduceIte, qail, and_true]
  have htk : ((qaic b).map fun x => [SV.int .u8 x]).take (8 * b.length) = (qaic b).map fun x => [SV.int .u8 x] := List.take_of_length_le (by omega)
  simp -implicitDefEqProofs [htk, hlen, Nat.le_refl]
  repeat' (first | (with_reducible refine zA ?_) | ((with_reducible refine qaad ?_); (try rw [hP]); simp -implicitDefEqProofs [*]) | ((with_reducible refine qaam ?_); (try simp only [qaau, qaaf, qaai])) | (refine qafi hm ?_ (qae6 _ _)) | fail)
  all_goals rfl
set_option maxHeartbeats 4000000 in
theorem qa1n (l : List Int) (hl : l.length ≤ 1000000) (q : Nat) : SCalls Try.prog 159 [nums .u8 l] [] q (.int .u64 (qa43 l)) [] := by
 refine qabs ?_ (fun _ => rfl) (fun _ => rfl) rfl q
 refine qaal (N := 20) Try.func159 rfl rfl (by kernel_rfl) qah9 (by simp) (by repeat' (first | exact trivial | refine And.intro ?_ ?_ | rfl | decide | exact PureR.ren _)) (by repeat' (first | exact trivial | refine And.intro ?_ ?_ | rfl | decide | exact PureR.ren _)) ?_
 rintro X hP hN hm
 unfold c_bitsnum
 have hF : qa43 l = (l.drop 0).foldl (fun n x => IntKind.u64.wrap (IntKind.u64.wrap (2 * n) + IntKind.u64.wrap x)) 0 := rfl
 generalize qa43 l = F at hF
 replace hF := Lib.hid hF
 repeat' (first | (with_reducible refine zA ?_) | ((with_reducible refine qaad ?_); (try rw [hP]); simp -implicitDefEqProofs [*]) | fail)
 refine qaat (qabp (fun s (z : Nat × Int) => s.turn [(3, .int .u64 z.2), (4, .int .i64 z.1)] []) (fun z => z.1 ≤ l.length ∧ F = (l.drop z.1).foldl (fun n x => IntKind.u64.wrap (IntKind.u64.wrap (2 * n) + IntKind.u64.wrap x)) z.2) (fun z => l.length - z.1) (0, 0) ?_ ⟨by simp, hF.out⟩ ?_)
 ·repeat' (first | ((with_reducible refine qaag [] hm ?_ ?_ ?_ ?_) <;> (try simp only [zT, puth, Nat.reduceEqDiff, reduceIte, Nat.reduceAdd])) | (with_reducible refine za ?_ ?_) | (with_reducible first | exact qaaa | exact qaac) | ((with_reducible refine zgb ?_); rfl) | ((with_reducible refine zgd ?_); (first | omega | (simp; done))) | (exact Co.refl _) | fail)
 rintro J hJ ⟨i, n⟩ ⟨h1, h2⟩
 unfold qago
 simp only [zT, puth, Nat.reduceEqDiff, reduceIte, Nat.reduceAdd] at h1 h2 ⊢
 clear hF
 rcases Nat.lt_or_ge i l.length with hi | hi
 ·rw [List.drop_eq_getElem_cons hi, List.foldl_cons] at h2
  generalize hxx : l[i] = x at h2
  have wi : IntKind.i64.wrap ((i : Int) + 1) = (i : Int) + 1 := qaav (by omega) (by omega)
  replace h2 := Lib.hid h2
  repeat' (first | (with_reducible first | refine zA ?_ | refine qacj ?_) | ((with_reducible refine qaad ?_); (try rw [hP]); simp -implicitDefEqProofs [*]) | ((with_reducible refine qaae ?_); (try simp -implicitDefEqProofs [*])) | ((with_reducible refine qaab rfl (fun h => ?_) (fun h => ?_)) <;> have h' := h <;> (try simp at h') <;> (try subst h')) | (with_reducible refine za ?_ ?_) | (with_reducible first | exact qaaa | exact qaac) | ((with_reducible refine zgb ?_); rfl) | ((with_reducible first | refine zgd ?_ | refine zge ?_); (first | omega | (simp; done))) | (exact Co.refl _) | ((refine qaaj hJ (i + 1, ?_) ?_ ?_ ?_; rotate_left 1; (with_reducible refine qaag [] hm ?_ ?_ ?_ ?_) <;> (try simp only [zT, puth, Nat.reduceEqDiff, reduceIte, Nat.reduceAdd]))) | fail)
  all_goals exact ⟨by omega, h2.out⟩
 ·obtain rfl : i = l.length := by omega
  rw [List.drop_length] at h2
  replace h2 := Lib.hid h2
  repeat' (first | (with_reducible refine zA ?_) | ((with_reducible refine qaad ?_); (try rw [hP]); simp -implicitDefEqProofs [*]) | ((with_reducible refine qaao ?_); (try simp -implicitDefEqProofs [*])) | ((with_reducible refine qaam ?_); (try simp only [qaau, qaaf, qaai])) | ((with_reducible refine qaab rfl (fun h => ?_) (fun h => ?_)) <;> have h' := h <;> (try simp at h') <;> (try subst h')) | (with_reducible refine zM hm ?_) | fail)
  all_goals (rw [h2.out]; rfl)
theorem qa4u (b : List Int) (hb : b.length ≤ 100000) (a w : Nat) (h1 : 1 ≤ w) (h2 : w ≤ 64) (h3 : a + w ≤ 8 * b.length) (q : Nat) : SCalls Try.prog 158 [nums .u8 b, .int .i64 a, .int .i64 w] [] q (.agg [.int .i64 0, .int .i64 0]) [] := by
 refine qabs ?_ (fun _ => rfl) (fun _ => rfl) rfl q
 refine qaal (N := 34) Try.func158 rfl rfl (by kernel_rfl) qai5 (by simp) (by repeat' (first | exact trivial | refine And.intro ?_ ?_ | rfl | decide | exact PureR.ren _)) (by repeat' (first | exact trivial | refine And.intro ?_ ?_ | rfl | decide | exact PureR.ren _)) ?_
 rintro X hP hN hm
 unfold c_bfault
 have k1 : decide ((w : Int) < 1) = false := decide_eq_false (by omega)
 have k2 : decide ((w : Int) > 64) = false := decide_eq_false (by omega)
 have k3 : decide ((a : Int) < 0) = false := decide_eq_false (by omega)
 have e1 : IntKind.i64.wrap ((b.length : Int) * 8) = (b.length : Int) * 8 := IntWalk.i64_in _ ⟨by omega, by omega⟩
 have e2 : IntKind.i64.wrap ((b.length : Int) * 8 - a) = (b.length : Int) * 8 - a := IntWalk.i64_in _ ⟨by omega, by omega⟩
 have k4 : decide ((a : Int) > (b.length : Int) * 8) = false := decide_eq_false (by omega)
 have k5 : decide ((w : Int) > (b.length : Int) * 8 - a) = false := decide_eq_false (by omega)
 simp only [gt_iff_lt] at k2 k4 k5
 have n1 : ¬ w < 1 := by omega
 have n2 : ¬ 64 < w := by omega
 have n4 : ¬ (b.length : Int) * 8 < a := by omega
 have n5 : ¬ (b.length : Int) * 8 - a < w := by omega
 repeat' (first | (with_reducible refine zA ?_) | ((with_reducible refine qaad ?_); (try rw [hP]); simp -implicitDefEqProofs [*]) | ((with_reducible refine qaae ?_); (try simp -implicitDefEqProofs [*])) | ((with_reducible refine qaam ?_); (try simp only [qaau, qaaf, qaai])) | ((with_reducible refine qaab rfl (fun h => ?_) (fun h => ?_)) <;> have h' := h <;> (try simp at h') <;> (try subst h')) | (refine qa2g hm rfl rfl (by rw [hP]; exact qab1) (by rw [hP]; exact qabr) rfl (CoL.refl _) rfl (fun σ => rfl)) | fail)
 all_goals trace_state
theorem rget_s (b : List Int) (hb : b.length ≤ 100000) (a w : Nat) (h1 : 1 ≤ w) (h2 : w ≤ 64) (h3 : a + w ≤ 8 * b.length) (q : Nat) : SCalls Try.prog 130 [nums .u8 b, .int .i64 a, .int .i64 w] [] q (.tup [.int .u64 (getR b a w), .agg [.int .i64 0, .int .i64 0]]) [] := by
 refine qabs ?_ (fun _ => rfl) (fun _ => rfl) rfl q
 refine qaal (N := 26) Try.func130 rfl rfl (by kernel_rfl) qaot (by simp) (by repeat' (first | exact trivial | refine And.intro ?_ ?_ | rfl | decide | exact PureR.ren _)) (by repeat' (first | exact trivial | refine And.intro ?_ ?_ | rfl | decide | exact PureR.ren _)) ?_
 rintro X hP hN hm
 unfold c_rget
 have hl := qaib b
 have e1 : IntKind.i64.wrap ((a : Int) + w) = ((a + w : Nat) : Int) := by rw [qaav (by omega) (by omega)]; omega
 have hd : ((qaic b).take (a + w)).drop a = ((qaic b).drop a).take w := by rw [List.drop_take]; congr 1; omega
 have hn := fun q => qa1n (((qaic b).drop a).take w) (by rw [List.length_take]; omega) q
 have hg : getR b a w = qa43 (((qaic b).drop a).take w) := rfl
 rw [hg]
 rw [← hd] at hn ⊢
 generalize hG : qa43 (((qaic b).take (a + w)).drop a) = G at hn ⊢
 simp only [nums, List.map_drop, List.map_take] at hn
 replace hn := Lib.hid hn
 have hbo := fun q => qa4r b hb q
 generalize qaic b = B at hl hbo hn hd
 replace hbo := Lib.hid hbo
 replace hd := Lib.hid hd
 replace hG := Lib.hid hG
 have k1 : (a : Int) ≤ (a : Int) + w := by omega
 have k2 : a + w ≤ B.length := by omega
 have kt : ((a : Int) + w).toNat = a + w := by omega
 repeat' (first | (with_reducible refine zA ?_) | ((with_reducible refine qaad ?_); (try rw [hP]); simp -implicitDefEqProofs [*]) | ((with_reducible refine qaae ?_); (try simp -implicitDefEqProofs [*])) | ((with_reducible refine qaam ?_); (try simp only [qaau, qaaf, qaai])) | ((with_reducible refine qaab rfl (fun h => ?_) (fun h => ?_)) <;> have h' := h <;> (try simp at h') <;> (try subst h')) | ((with_reducible refine qabw ?_ ?_); (first | omega | (unfold maxLen; omega)); simp -implicitDefEqProofs [*]) | ((first | refine qabb (qa4u b hb a w h1 h2 h3 _) ?_ | refine qabb (hbo.out _) ?_ | refine qabb (hn.out _) ?_); simp -implicitDefEqProofs [*]) | (refine qah2 hm (by decide) rfl rfl (qaeg _ _) rfl rfl (by rw [hP]; exact qab1) (by rw [hP]; exact qabr) rfl (CoL.refl _) rfl (fun σ => rfl)) | fail)
 all_goals trace_state
def qaho (l : List Int) : Nat := (l.map Int.toNat).sum
set_option maxHeartbeats 4000000 in
theorem part_s (b : List Int) (hb : b.length ≤ 100000) (a : Nat) (ws : List Int) (hw : ∀ w ∈ ws, 1 ≤ w ∧ w ≤ 64) (hwl : ws.length ≤ 100) (h3 : a + qaho ws ≤ 8 * b.length) (q : Nat) : SCalls Try.prog 95 [nums .u8 b, .int .i64 a, nums .i64 ws] [] q (.tup [.own q ws.length, .agg [.int .i64 0, .int .i64 0]]) [(q, .row 39 1 ((qaoh b a ws).map fun x => [.int .u64 x]))] := by
 refine qaob [(39, 1, (qaoh b a ws).map fun x => [SV.int .u64 x])] (r := .tup [.own 0 ws.length, .agg [.int .i64 0, .int .i64 0]]) ?_ (fun _ => rfl) (fun x hx => by rw [List.mem_singleton.1 hx]; exact inferInstanceAs (PureR ((qaoh b a ws).map fun x => [SV.int .u64 x]))) (by simp) q (by simp [Go.Proofs.Yticeaegpkpjjeaa.ren, ren1, ren0, sg]) rfl
 show SCalls _ _ _ [] 0 _ [(0, .row 39 1 ((qaoh b a ws).map fun x => [.int .u64 x]))]
 refine qaal (N := 47) Try.func95 rfl rfl (by kernel_rfl) qaks (by simp) (by repeat' (first | exact trivial | refine And.intro ?_ ?_ | rfl | decide | exact PureR.ren _)) (by repeat' (first | exact trivial | refine And.intro ?_ ?_ | rfl | decide | exact PureR.ren _)) ?_
 rintro X hP hN hm
 unfold c_rpart
 obtain ⟨F, hF⟩ : ∃ F, F = qaoh b a ws := ⟨_, rfl⟩
 rw [← hF]
 have hfl : F.length = ws.length := by rw [hF, qaft]
 replace hF := Lib.hid hF
 replace hfl := Lib.hid hfl
 replace hw := Lib.hid hw
 repeat' (first | (with_reducible refine zA ?_) | ((with_reducible refine qaad ?_); (try rw [hP]); simp -implicitDefEqProofs [*]) | fail)
 refine qacy (qafo 8 39 1 rfl) ?_
 simp only [zT, puth, Nat.reduceEqDiff, reduceIte, Nat.reduceAdd]
 refine qaat (qabp (fun s (z : Nat × Nat × List Int) => s.turn [(1, .int .i64 z.2.1), (8, .own 4 z.1), (9, .int .i64 z.1)] [(4, .row 39 1 (z.2.2.map fun x => [.int .u64 x]))]) (fun z => z.1 ≤ ws.length ∧ z.2.2.length = z.1 ∧ F = z.2.2 ++ qaoh b z.2.1 (ws.drop z.1) ∧ z.2.1 + qaho (ws.drop z.1) ≤ 8 * b.length) (fun z => ws.length - z.1) (0, a, []) ?_ ⟨by simp, rfl, hF.out, h3⟩ ?_)
 ·repeat' (first | ((with_reducible refine qaag [] hm ?_ ?_ ?_ ?_) <;> (try simp only [zT, puth, Nat.reduceEqDiff, reduceIte, Nat.reduceAdd])) | (with_reducible first | refine za ?_ ?_ | refine zb ?_ ?_ ?_ ?_ | refine zc ?_ ?_ ?_ ?_) | (with_reducible first | exact qaaa | exact qaac) | ((with_reducible first | refine zga ?_ | refine zgb ?_); rfl) | ((with_reducible refine zgc ?_); (first | (with_reducible rfl) | rfl | (simp; done))) | ((with_reducible refine zgd ?_); (first | omega | (simp; done))) | (exact Co.refl _) | (exact CoL.refl _) | fail)
 rintro J hJ ⟨i, c, R⟩ ⟨h1, h2, h4, h5⟩
 unfold qajd
 simp only [zT, puth, Nat.reduceEqDiff, reduceIte, Nat.reduceAdd] at h1 h2 h4 h5 ⊢
 clear hF h3
 rcases Nat.lt_or_ge i ws.length with hi | hi
 ·have hx := hw.out ws[i] (List.getElem_mem hi)
  rw [List.drop_eq_getElem_cons hi] at h4 h5
  generalize hxx : ws[i] = x at h4 h5 hx
  obtain ⟨x, rfl⟩ := Int.eq_ofNat_of_zero_le (show 0 ≤ x by omega)
  have h6 : F = (R ++ [getR b c x]) ++ qaoh b (c + x) (ws.drop (i + 1)) := by rw [h4, List.append_assoc]; rfl
  have h7 : c + x + qaho (ws.drop (i + 1)) ≤ 8 * b.length := by
   have : qaho ((x : Int) :: ws.drop (i + 1)) = x + qaho (ws.drop (i + 1)) := by simp [qaho]
   omega
  have hg := fun q => rget_s b hb c x (by omega) (by omega) (by omega) q
  generalize getR b c x = G at h6 hg
  obtain ⟨R2, hR2⟩ : ∃ R2, R2 = R ++ [G] := ⟨_, rfl⟩
  rw [← hR2] at h6
  have hl2 : R2.length = i + 1 := by rw [hR2, List.length_append, h2]; rfl
  have wi : IntKind.i64.wrap ((i : Int) + 1) = (i : Int) + 1 := qaav (by omega) (by omega)
  have wc : IntKind.i64.wrap ((c : Int) + x) = ((c + x : Nat) : Int) := by rw [qaav (by omega) (by omega)]; omega
  have hb1 : i + 1 ≤ maxLen := by unfold maxLen; omega
  replace hg := Lib.hid hg
  replace h6 := Lib.hid h6
  replace h7 := Lib.hid h7
  replace hl2 := Lib.hid hl2
  replace hR2 := Lib.hid hR2
  clear h4 h5
  repeat' (first | (with_reducible first | refine zA ?_ | refine qaah ?_) | ((with_reducible refine qaad ?_); (try rw [hP]); simp -implicitDefEqProofs [*]) | ((with_reducible refine qaae ?_); (try simp -implicitDefEqProofs [*])) | ((with_reducible refine qaab rfl (fun h => ?_) (fun h => ?_)) <;> have h' := h <;> (try simp at h') <;> (try subst h')) | ((with_reducible refine qabw ?_ ?_); (first | omega | (unfold maxLen; omega)); simp -implicitDefEqProofs [*]) | (refine qabb (hg.out _) ?_; simp -implicitDefEqProofs [*]) | (with_reducible first | refine za ?_ ?_ | refine zb ?_ ?_ ?_ ?_ | refine zc ?_ ?_ ?_ ?_) | (with_reducible first | exact qaaa | exact qaac) | ((with_reducible first | refine zga ?_ | refine zgb ?_); rfl) | ((with_reducible first | refine zgd ?_ | refine zge ?_); (first | omega | (simp; done))) | (exact Co.refl _) | (exact CoL.refl _) | ((refine qaaj hJ (i + 1, c + x, R2) ?_ ?_ ?_; (with_reducible refine qaag [(4, ?_)] hm ?_ ?_ ?_ ?_) <;> (try simp only [zT, puth, Nat.reduceEqDiff, reduceIte, Nat.reduceAdd]))) | fail)
  all_goals first | (exact ⟨by dsimp only; omega, hl2.out, h6.out, h7.out⟩) | (rw [hR2.out, u1row]; done) | trace_state
 ·obtain rfl : i = ws.length := by omega
  rw [List.drop_length] at h4
  have h8 : F = R := by rw [h4]; exact List.append_nil _
  subst h8
  clear h4 h5
  repeat' (first | (with_reducible refine zA ?_) | ((with_reducible refine qaad ?_); (try rw [hP]); simp -implicitDefEqProofs [*]) | ((with_reducible refine qaao ?_); (try simp -implicitDefEqProofs [*])) | ((with_reducible refine qaam ?_); (try simp only [qaau, qaaf, qaai])) | ((with_reducible refine qaab rfl (fun h => ?_) (fun h => ?_)) <;> have h' := h <;> (try simp at h') <;> (try subst h')) | (refine qa3u hm (by decide) (by decide) rfl rfl rfl rfl (by rw [hP]; exact qab1) (by rw [hP]; exact qabr) rfl (CoL.refl _) ?_ (fun σ => rfl)) | fail)
  all_goals first | rfl | trace_state
end Go.Proofs.Yticeaegpkpjjeaa
namespace Go.Proofs.Yticeaegpkpjjeaa
set_option linter.all false
open Go.RowKit
def stAt (p : PlanD) (k : Int) : StateD := p.states.getD k.toNat ⟨-1, ⟨0, 0⟩, [], 1001⟩
def qa2c (p : PlanD) (h : Int) (g : GoD) : GoD := { g with v := g.v.set h.toNat (qaoh (g.b.take (qael p h).toNat) 0 (qae2 p h)), there := g.there.set h.toNat true, b := g.b.drop (qael p h).toNat }
def qafm (els x : Int) : List CaseD → Int
 | [] => els
 | c :: l => if bits .and .u64 x c.mask == c.value then c.to_ else qafm els x l
def qaie (p : PlanD) (s : StateD) (g : GoD) : GoD := if 0 ≤ s.head then qa2c p s.head g else g
def onG (s : StateD) (g : GoD) : GoD := if s.cases_ = [] then g else useG g s.on.h
def takeG (p : PlanD) : Nat → Int → GoD → Bool × GoD
 | 0, k, g => (k == 1000, g)
 | f + 1, k, g => if k = 1000 ∨ k = 1001 then (k == 1000, g) else
  if 0 ≤ (stAt p k).head ∧ (g.b.length : Int) < qael p (stAt p k).head then (false, g) else
  takeG p f (qafm (stAt p k).els (qadx (qaie p (stAt p k) g) (stAt p k).on []) (stAt p k).cases_) (onG (stAt p k) (qaie p (stAt p k) g))
structure GOk (p : PlanD) (g : GoD) : Prop where
 vl : g.v.length = p.heads.length
 tl : g.there.length = p.heads.length
 row : ∀ k, k < p.heads.length → (vk g.v k).length = (qae2 p k).length
 ml : g.meta_.length = p.meta_.length
theorem qaes (v : List (List Int)) (h : Nat) (x : List Int) (k : Nat) (hh : h < v.length) : vk (v.set h x) k = if k = h then x else vk v k := by
 unfold vk
 rw [List.getD_eq_getElem?_getD, List.getElem?_set, List.getD_eq_getElem?_getD]
 by_cases e : h = k
 ·subst e; simp [hh]
 ·rw [if_neg e, if_neg (Ne.symm e)]
theorem qatx {p : PlanD} {g : GoD} (h : GOk p g) (k : Int) : GOk p (useG g k) := ⟨h.vl, h.tl, h.row, h.ml⟩
theorem qat0 {p : PlanD} {g : GoD} (hg : GOk p g) {h : Int} (h0 : 0 ≤ h) (h1 : h < p.heads.length) : GOk p (qa2c p h g) := by
 refine ⟨by simp [qa2c, hg.vl], by simp [qa2c, hg.tl], fun k hk => ?_, hg.ml⟩
 show (vk (g.v.set h.toNat _) k).length = _
 rw [qaes _ _ _ _ (by rw [hg.vl]; omega)]
 split
 ·rename_i e
  rw [qaft, show h = (k : Int) by omega]
 ·exact hg.row k hk
theorem qatz {p : PlanD} {g : GoD} (hg : GOk p g) {s : StateD} (h1 : s.head < p.heads.length) : GOk p (qaie p s g) := by
 unfold qaie; split
 ·exact qat0 hg ‹_› h1
 ·exact hg
theorem gok_on {p : PlanD} {g : GoD} (hg : GOk p g) (s : StateD) : GOk p (onG s g) := by
 unfold onG; split
 ·exact hg
 ·exact qatx hg _
theorem qasy {p : PlanD} {k : Int} (h0 : 0 ≤ k) (h1 : k < p.states.length) : stAt p k = p.states[k.toNat]'(by omega) := by
 unfold stAt; rw [List.getD_eq_getElem?_getD, List.getElem?_eq_getElem (by omega)]; rfl
theorem qa1w {p : PlanD} (hp : PlOk p) (k : Int) : (stAt p k).head < p.heads.length := by
 unfold stAt
 rw [List.getD_eq_getElem?_getD]
 by_cases h : k.toNat < p.states.length
 ·rw [List.getElem?_eq_getElem h]; exact (hp.ok _ h).head.2
 ·rw [List.getElem?_eq_none (by omega)]
  show (-1 : Int) < _
  omega
theorem qaty {p : PlanD} (hp : PlOk p) : ∀ (f : Nat) (k : Int) (g : GoD), GOk p g → GOk p (takeG p f k g).2
 | 0, _, _, hg => hg
 | f + 1, k, g, hg => by
  unfold takeG
  split
  ·exact hg
  ·split
   ·exact hg
   ·exact qaty hp f _ _ (gok_on (qatz hg (qa1w hp k)) _)
theorem take_b (p : PlanD) : ∀ (f : Nat) (k : Int) (g : GoD), (takeG p f k g).2.b.length ≤ g.b.length
 | 0, _, _ => Nat.le_refl _
 | f + 1, k, g => by
  unfold takeG
  split
  ·exact Nat.le_refl _
  ·split
   ·exact Nat.le_refl _
   ·refine Nat.le_trans (take_b p f _ _) ?_
    have e : ∀ s g, (onG s g).b = g.b := fun s g => by unfold onG; split <;> rfl
    rw [e]
    unfold qaie
    split
    ·show (g.b.drop _).length ≤ _
     rw [List.length_drop]; omega
    ·exact Nat.le_refl _
theorem qa20 {p : PlanD} {g : GoD} {W : List Int} {r : RefD} (hg : GOk p g) (h : qabo p r W ≠ 0) : qa45 g W.length r := by
 have hf : 0 ≤ r.f ∧ r.f < (qahq p r.h W).length := by
  unfold qabo qasl at h
  by_cases e : r.f < 0 ∨ ((qahq p r.h W).length : Int) ≤ r.f
  ·rw [if_pos e] at h; exact absurd rfl h
  ·omega
 unfold qa45
 unfold qahq at hf
 by_cases h3 : r.h = -3
 ·exact .inl h3
 rw [if_neg h3] at hf
 by_cases h1 : r.h = -1
 ·rw [if_pos h1] at hf
  exact .inr (.inl ⟨h1, hf.1, by rw [hg.ml]; exact hf.2⟩)
 rw [if_neg h1] at hf
 by_cases h2 : r.h = -2
 ·rw [if_pos h2] at hf
  exact .inr (.inr (.inl ⟨h2, hf⟩))
 rw [if_neg h2] at hf
 by_cases h0 : 0 ≤ r.h ∧ r.h < p.heads.length
 ·rw [if_pos h0] at hf
  refine .inr (.inr (.inr ⟨h0.1, by rw [hg.vl]; exact h0.2, hf.1, ?_⟩))
  rw [hg.row _ (by omega), show ((r.h.toNat : Nat) : Int) = r.h by omega]; exact hf.2
 ·rw [if_neg h0] at hf; simp at hf; omega
def POn (p : PlanD) : Prop := ∀ (i : Nat) (hi : i < p.states.length), p.states[i].cases_ ≠ [] → qabo p p.states[i].on [] ≠ 0
theorem pon_of {p : PlanD} (h : (qafs p).1 = 0) : POn p := fun i hi hc => by
 have h1 := qabv h
 have h2 := qabv h1.2
 have h3 := qabv h2.2
 have hs := qabv h3.1
 have hst := qaf4 hs.2 i hi
 rw [Nat.zero_add] at hst
 generalize p.states[i] = s at hst hc
 unfold qagt at hst
 by_cases c1 : s.head < -1 ∨ (p.heads.length : Int) ≤ s.head
 ·rw [if_pos c1] at hst; exact absurd hst (by decide)
 rw [if_neg c1] at hst
 by_cases c2 : 4 < s.cases_.length
 ·rw [if_pos c2] at hst; exact absurd hst (by decide)
 rw [if_neg c2] at hst
 by_cases c3 : 0 < s.cases_.length ∧ qabo p s.on [] = 0
 ·rw [if_pos c3] at hst; exact absurd hst (by decide)
 exact fun e => c3 ⟨List.length_pos_iff.2 hc, e⟩
theorem qa3h {p : PlanD} (h : (qafs p).1 = 0) : p.meta_.length ≤ 4 := by
 have h1 := qabv h
 have h2 := qabv h1.2
 have hm := qabv h2.1
 have m := qafv hm.1
 rw [decide_eq_false_iff_not] at m
 omega
theorem use_use (g : GoD) (h : Int) : useG (useG g h) h = useG g h := by
 unfold useG; simp only [Bool.or_assoc, Bool.or_self]
theorem qaih (ws : List Int) : ∀ i, i ≤ ws.length → (∀ w ∈ ws, 0 ≤ w) → qac4 ws i = qaho (ws.take i)
 | 0, _, _ => rfl
 | i + 1, hi, h0 => by
  have ih := qaih ws i (by omega) h0
  have hx : el ws i = ws[i] := qaz4 ws i (by omega)
  have e : qac4 ws (i + 1) = qac4 ws i + el ws i := rfl
  have hn := h0 ws[i] (List.getElem_mem (by omega))
  rw [e, ih, hx, ← List.take_append_getElem (by omega)]
  unfold qaho
  rw [List.map_append, List.sum_append]
  simp; omega
theorem qazz {p : PlanD} (hp : PlOk p) {h : Int} (h0 : 0 ≤ h) (h1 : h < p.heads.length) : qaho (qae2 p h) = 8 * (qael p h).toNat ∧ (∀ w ∈ qae2 p h, 1 ≤ w ∧ w ≤ 64) ∧ (qae2 p h).length ≤ 8 ∧ 1 ≤ qael p h ∧ qael p h ≤ 32 := by
 have hx : qag0 (qae2 p h) = 0 := by
  unfold qae2
  rw [List.getElem?_eq_getElem (by omega : h.toNat < p.heads.length)]
  exact hp.size _ (List.getElem_mem (by omega : h.toNat < p.heads.length))
 have hz := qaet hx
 have ha := qas4 hx
 have hs := qaih (qae2 p h) _ (Nat.le_refl _) fun w hw => by have := ha w hw; omega
 rw [List.take_length] at hs
 refine ⟨?_, fun w hw => by have := ha w hw; omega, hz.2.1, hz.2.2.2.2.2.2.1, hz.2.2.2.2.2.2.2⟩
 have := hz.2.2.2.1
 unfold qael
 omega
end Go.Proofs.Yticeaegpkpjjeaa
namespace Go.Proofs.Yticeaegpkpjjeaa
set_option linter.all false
open Go.RowKit
theorem wk_new {X : Cx} {s : SSt} (e size : Nat) : Wk X s ⟨s.sl, puth s.hp s.nx (.row e size []), s.nx + 1⟩ := by
 intro ρ fp a w hs
 obtain ⟨ρ', fp', h1, h2, h3, h4⟩ := hs.sim.h.add (w' := w) hs.le (hs.fresh _ (Nat.le_refl _)) (.row e size []) none (fun _ => False) (Below.refl _ _) (fun _ h => h.elim) fun A' ρ' hp' hpl => ⟨.slice none 0 0, [], World.ownsRow_nil _ _ _ _, ⟨Reps.nil, fun v hv => by cases hv⟩, (fun x hx => by cases hx), hpl, fun k => by simp [Value.ownBlock]⟩
 refine ⟨ρ', fp', ⟨h1, hs.sim.tmps, hs.sim.defers, fun u => h2.rep (hs.sim.slots u)⟩, fun id hid => ?_, by have := hs.le; simp only; omega⟩
 cases e : ρ' id with
 | none => rfl
 | some p =>
  simp only at hid
  rcases h4 id (by rw [e]; simp) with h5 | h5
  ·exact absurd (hs.fresh id (by omega)) h5
  ·omega
end Go.Proofs.Yticeaegpkpjjeaa
namespace Go.Proofs.Yticeaegpkpjjeaa
set_option linter.all false
open Go.RowKit
def PackN (N : Nat) (R : Hp → Prop) (w : World) (A Fp : Nat → Prop) (b : Nat) : Prop :=
 ∃ (h : Hp) (ρ : qach) (fp : Nat → Nat → Prop) (c : Nat), R h ∧ ρ 0 = some (some (b, c)) ∧ (∀ id, N ≤ id → ρ id = none) ∧ (∀ id o, geth h id = some o → ObjRep w A ρ id (fp id) o) ∧
  (∀ id id' o o', id ≠ id' → geth h id = some o → geth h id' = some o' → ∀ k, fp id k → ¬ fp id' k) ∧ (∀ k, Live h fp k → k < w.heap.size) ∧ ∀ k, Fp k ↔ Live h fp k
def qa23 (N : Nat) (R : Hp → Prop) : AbsI where
 I := PackN N R
 lt := by rintro w A Fp b ⟨h, ρ, fp, c, _, _, _, _, _, h6, h7⟩ k hk; exact h6 k ((h7 k).1 hk)
 keep := by
  rintro w w' A A' Fp b ⟨h, ρ, fp, c, h1, h2, h3, h4, h5, h6, h7⟩ hs hA hb
  exact ⟨h, ρ, fp, c, h1, h2, h3, fun id o ho => (h4 id o ho).mono ⟨hs, hA, fun _ _ h => h⟩ fun k hk => hb k ((h7 k).2 ⟨id, o, ho, hk⟩), h5, fun k hk => Nat.lt_of_lt_of_le (h6 k hk) hs.size, h7⟩
def RenO (σ : Nat → Nat) : SObj → Prop
 | .cells _ cs => cs.map (Go.Proofs.Yticeaegpkpjjeaa.ren σ) = cs
 | .row _ _ es => es.map (·.map (Go.Proofs.Yticeaegpkpjjeaa.ren σ)) = es
 | .abs _ => True
theorem RenO.objM {σ : Nat → Nat} {o : SObj} (h : RenO σ o) : ObjM σ o o := by
 cases o with
 | cells t cs => exact ⟨rfl, by rw [show cs.map (Go.Proofs.Yticeaegpkpjjeaa.ren σ) = cs from h]; exact .refl _⟩
 | row e z es => exact ⟨rfl, rfl, by rw [show es.map (·.map (Go.Proofs.Yticeaegpkpjjeaa.ren σ)) = es from h]; exact .refl _⟩
 | abs I => rfl
def RenH (σ : Nat → Nat) : Hp → Prop
 | [] => True
 | (_, o) :: r => RenO σ o ∧ RenH σ r
theorem RenH.get {σ : Nat → Nat} : ∀ {h : Hp}, RenH σ h → ∀ id o, geth h id = some o → RenO σ o
 | [], _, id, o, h => by cases h
 | (i, x) :: r, h, id, o, hg => by
  simp only [geth] at hg
  split at hg
  ·cases hg; exact h.1
  ·exact RenH.get h.2 id o hg
theorem qa1r {X : Cx} {s : SSt} {N : Nat} {R : Hp → Prop} {hh hp' : Hp} {t : TypeId} {cs : List SV} (hR : R hh) (hN : 0 < N) (hroot : geth hh 0 = some (.cells t cs)) (hren : ∀ σ : Nat → Nat, (∀ i, i < N → σ i = i) → RenH σ hh) (hids : ∀ i ∈ idsH hh, i < N) (hsub : SubH s.hp hh) (h0 : geth hp' 0 = some (.abs (qa23 N R)))
  (hrest : ∀ id o, id ≠ 0 → geth hp' id = some o → geth s.hp id = some o ∧ geth hh id = none) : Wk X s ⟨s.sl, hp', s.nx⟩ := by
 intro ρ fp a w hs
 have hg := hsub.get
 let fp' : Nat → Nat → Prop := fun id k => (id = 0 ∧ Live hh fp k) ∨ (id ≠ 0 ∧ fp id k)
 have f0 : fp' 0 = Live hh fp := by funext k; simp [fp']
 have f1 : ∀ id, id ≠ 0 → fp' id = fp id := fun id h => by funext k; simp [fp', h]
 have hlive : ∀ k, Live hh fp k → Live s.hp fp k := fun k ⟨i, o, h1, h2⟩ => ⟨i, o, hg _ _ h1, h2⟩
 have hav : ∀ k, Av X hp' fp' k → Av X s.hp fp k := by
  rintro k (hO | ⟨id, o, ho, hk⟩)
  ·exact .inl hO
  ·by_cases e : id = 0
   ·subst e; rw [f0] at hk; exact .inr (hlive k hk)
   ·rw [f1 id e] at hk; exact .inr ⟨id, o, (hrest id o e ho).1, hk⟩
 let σ : Nat → Nat := fun i => if i < N then i else s.nx
 have hσ : ∀ {id o}, geth hh id = some o → id < N ∧ σ id = id := fun {id o} ho => by
  have := hids id (qade (by rw [ho]; simp))
  exact ⟨this, if_pos this⟩
 refine ⟨ρ, fp', ⟨⟨fun id o ho => ?_, fun id id' o o' hne ho ho' k hk hk' => ?_, fun id o ho k hk => ?_, hs.sim.h.step, hs.sim.h.keep⟩, hs.sim.tmps, hs.sim.defers, fun u => (hs.sim.slots u).weaken fun k hk _ => hav k hk⟩, hs.fresh, hs.le⟩
 ·by_cases e : id = 0
  ·subst e
   rw [h0] at ho; cases ho
   obtain ⟨b, c, vs, q1, _⟩ := hs.sim.h.objs 0 _ (hg _ _ hroot)
   refine ⟨b, c, q1, hh, fun i => ρ (σ i), fp, c, hR, by show ρ (σ 0) = _; rw [(hσ hroot).2]; exact q1, fun i hi => ?_, fun i o ho => ?_, fun i i' o o' hne ho ho' => hs.sim.h.disj i i' o o' hne (hg _ _ ho) (hg _ _ ho'), fun k ⟨i, o, ho, hk⟩ => (hs.sim.h.turn i o (hg _ _ ho) k hk).2, fun k => by rw [f0]⟩
   ·show ρ (if i < N then i else s.nx) = none
    rw [if_neg (by omega)]; exact hs.fresh _ (Nat.le_refl _)
   ·have h3 := hs.sim.h.objs i o (hg _ _ ho)
    have h6 := ((hren σ fun i hi => if_pos hi).get i o ho).objM
    have h8 : ObjRep w (Av X s.hp fp) ρ (σ i) (fp i) o := by rw [(hσ ho).2]; exact h3
    exact (h6.back h8).weaken fun k hk _ => hav k hk
  ·rw [f1 id e]
   exact (hs.sim.h.objs id o (hrest id o e ho).1).weaken fun k hk _ => hav k hk
 ·by_cases e : id = 0
  ·subst e
   rw [f0] at hk
   obtain ⟨i, oi, hi, hk⟩ := hk
   have e' : id' ≠ 0 := Ne.symm hne
   rw [f1 id' e'] at hk'
   obtain ⟨h1, h2⟩ := hrest id' o' e' ho'
   exact hs.sim.h.disj i id' oi o' (fun q => by rw [q, h2] at hi; cases hi) (hg _ _ hi) h1 k hk hk'
  ·rw [f1 id e] at hk
   obtain ⟨h1, h2⟩ := hrest id o e ho
   by_cases e' : id' = 0
   ·subst e'
    rw [f0] at hk'
    obtain ⟨i, oi, hi, hk'⟩ := hk'
    exact hs.sim.h.disj id i o oi (fun q => by rw [← q, h2] at hi; cases hi) h1 (hg _ _ hi) k hk hk'
   ·rw [f1 id' e'] at hk'
    exact hs.sim.h.disj id id' o o' hne h1 (hrest id' o' e' ho').1 k hk hk'
 ·by_cases e : id = 0
  ·subst e
   rw [f0] at hk
   obtain ⟨i, oi, hi, hk⟩ := hk
   exact hs.sim.h.turn i oi (hg _ _ hi) k hk
  ·rw [f1 id e] at hk
   exact hs.sim.h.turn id o (hrest id o e ho).1 k hk
theorem qaf0 {X : Cx} {N : Nat} {R : Hp → Prop} {c : SCode} {Q : SExit → SSt → Prop} {sl : Sl} (hm : X.m ≤ 1) (hN : 0 < N) (hroot : ∀ hh, R hh → (∃ t cs, geth hh 0 = some (.cells t cs)) ∧ RenH (fun i => if i = 0 then N else i) hh)
  (k : ∀ hh, R hh → SWp X c Q ⟨sl, hh, N⟩) : SWp X c Q ⟨sl, [(0, .abs (qa23 N R))], 1⟩ := fun code hc ρ fp a w hs => by
 obtain ⟨b, c0, hρ0, hh, ρh, fph, c1, hR, hρh0, hnone, hobj, hdis, hlt, hiff⟩ := hs.sim.h.objs 0 _ (show geth [(0, SObj.abs (qa23 N R))] 0 = some _ from rfl)
 obtain ⟨⟨t, cs, hr0⟩, hren⟩ := hroot hh hR
 let σ : Nat → Nat := fun i => if i = 0 then N else i
 let ρ' : qach := fun id => if id = 0 then ρ 0 else ρh id
 have hρ' : ∀ id p, ρh (σ id) = some p → ρ' id = some p := fun id p hp => by
  by_cases e : id = 0
  ·have : σ id = N := if_pos e
   rw [this, hnone N (Nat.le_refl _)] at hp; cases hp
  ·have h1 : σ id = id := if_neg e
   rw [h1] at hp
   show (if id = 0 then _ else _) = _
   rw [if_neg e]; exact hp
 have hlv : ∀ k, Live hh fph k ↔ Live [(0, SObj.abs (qa23 N R))] fp k := fun k => by
  rw [← hiff k]
  constructor
  ·intro h; exact ⟨0, _, rfl, h⟩
  ·rintro ⟨id, o, ho, hk⟩
   simp only [geth] at ho
   split at ho
   ·rename_i e; subst e; exact hk
   ·cases ho
 have hav : ∀ k, Av X hh fph k → Av X [(0, SObj.abs (qa23 N R))] fp k := fun k hk => hk.imp (fun h => h) fun h => (hlv k).1 h
 refine k hh hR code hc ρ' fph a w ⟨⟨⟨fun id o ho => ?_, hdis, fun id o ho k hk => ?_, hs.sim.h.step, fun id hid => ?_⟩, hs.sim.tmps, hs.sim.defers, fun u => ?_⟩, fun id hid => ?_, by show X.m ≤ N; omega⟩
 ·have h1 := hobj id o ho
  have h2 := (hren.get id o ho).objM
  by_cases e : id = 0
  ·subst e
   rw [hr0] at ho; cases ho
   obtain ⟨b', c', vs, q1, q2, ⟨q3, q4⟩, q5⟩ := h1
   rw [hρh0] at q1; cases q1
   have q6 : Reps w _ (fun i => ρh (σ i)) cs vs := qadz (by rw [show cs.map (Go.Proofs.Yticeaegpkpjjeaa.ren σ) = cs from hren.get 0 _ hr0]; exact q3)
   refine ⟨b, c0, vs, ?_, q2, ⟨q6.mono (.refl _ _) (fun k hk _ => hav k hk) hρ', q4⟩, q5⟩
   show (if 0 = 0 then _ else _) = _
   rw [if_pos rfl]; exact hρ0
  ·have h8 : ObjRep w (Av X [(0, SObj.abs (qa23 N R))] fp) ρh (σ id) (fph id) o := by rw [show σ id = id from if_neg e]; exact h1
   exact (h2.back h8).mono ⟨.refl _ _, fun k hk _ => hav k hk, hρ'⟩ fun _ _ => rfl
 ·exact hs.sim.h.turn 0 _ rfl k ((hiff k).2 ⟨id, o, ho, hk⟩)
 ·have e : id = 0 := by omega
  subst e
  show (if 0 = 0 then _ else _) = _
  rw [if_pos rfl]; exact hs.sim.h.keep 0 hid
 ·refine (hs.sim.slots u).mono (.refl _ _) (fun k hk _ => hav k hk) fun id p hp => ?_
  by_cases e : id = 0
  ·subst e
   show (if 0 = 0 then _ else _) = _
   rw [if_pos rfl]; exact hp
  ·rw [hs.fresh id (by show 1 ≤ id; omega)] at hp; cases hp
 ·show (if id = 0 then _ else _) = _
  have : N ≤ id := hid
  rw [if_neg (by omega)]; exact hnone id this
end Go.Proofs.Yticeaegpkpjjeaa
namespace Go.Proofs.Yticeaegpkpjjeaa
set_option linter.all false
open Go.RowKit
def goA (Y : List SV) (g : GoD) : AbsI := qa23 12 fun h => h = gobj Y g
theorem qah0 (Y : List SV) (g : GoD) (hv : g.v.length ≤ 6) {σ : Nat → Nat} (h : ∀ i, 1 ≤ i → i < 12 → σ i = i) : RenH σ (gobj Y g) := by
 refine ⟨?_, PureR.ren σ, qafu hv fun k hk => h (4 + k) (by omega) (by omega), PureR.ren σ, PureR.ren σ, PureR.ren σ, PureR.ren σ, PureR.ren σ, PureR.ren σ, PureR.ren σ, PureR.ren σ, PureR.ren σ, trivial⟩
 show (goc Y g).map (Go.Proofs.Yticeaegpkpjjeaa.ren σ) = goc Y g
 simp [goc, nums, Go.Proofs.Yticeaegpkpjjeaa.ren, ren1, ren0, h 1 (by decide) (by decide), h 2 (by decide) (by decide), h 3 (by decide) (by decide), h 10 (by decide) (by decide), h 11 (by decide) (by decide)]
theorem qahz (Y : List SV) (g : GoD) (hv : g.v.length ≤ 6) : ∀ hh, hh = gobj Y g → (∃ t cs, geth hh 0 = some (.cells t cs)) ∧ RenH (fun i => if i = 0 then 12 else i) hh := fun hh h => by
 subst h
 exact ⟨⟨_, _, rfl⟩, qah0 Y g hv fun i h1 _ => if_neg (by omega)⟩
theorem qa2e (Y : List SV) (g : GoD) : ∀ i ∈ idsH (gobj Y g), i < 12 := by
 intro i hi
 simp [idsH] at hi; omega
theorem qasp {X : Cx} {s : SSt} {Y : List SV} {g : GoD} {o : SObj} (hv : g.v.length ≤ 6) (hs : SubH s.hp (gobj Y g)) (h12 : geth s.hp 12 = some o) : Wk X s ⟨s.sl, [(0, .abs (goA Y g)), (12, o)], s.nx⟩ :=
 qa1r (hh := gobj Y g) (R := fun h => h = gobj Y g) rfl (by decide) rfl (fun σ h => qah0 Y g hv fun i _ hi => h i hi) (qa2e Y g) hs rfl (fun id o' h ho => by
  simp only [geth, if_neg (Ne.symm h)] at ho
  split at ho
  ·rename_i e; subst e; cases ho; exact ⟨h12, rfl⟩
  ·cases ho)
theorem qanc {X : Cx} {s : SSt} {Y : List SV} {g : GoD} (hv : g.v.length ≤ 6) (hs : SubH s.hp (gobj Y g)) : Wk X s ⟨s.sl, [(0, .abs (goA Y g))], s.nx⟩ :=
 qa1r (hh := gobj Y g) (R := fun h => h = gobj Y g) rfl (by decide) rfl (fun σ h => qah0 Y g hv fun i _ hi => h i hi) (qa2e Y g) hs rfl (fun id o' h ho => by simp only [geth, if_neg (Ne.symm h)] at ho; cases ho)
theorem qa3w {X : Cx} {t nx : Nat} {b : Bool} {sl : Sl} {hp : Hp} {I : AbsI} (hm : X.m = 1) (hb : gets sl t = .bool b) (h : geth hp 0 = some (.abs I)) : QFun X [.tmp t] 1 (.bool b) [(0, .abs I)] .ret ⟨sl, hp, nx⟩ :=
 ⟨⟨[(t, .bool b)], [(0, .abs I)], 1⟩, qaag [] hm ⟨by rw [hb]; exact Co.refl _, trivial⟩ ⟨⟨_, h, rfl⟩, trivial⟩ rfl (Nat.le_refl _), by simp [qaoe, resL, resV, one_, gets], ⟨rfl, trivial⟩, by simp⟩
theorem qa21 {X : Cx} {rs : List ResultVar} {m : Nat} {r : SV} {h2 : Hp} {s s1 : SSt} (hw : Wk X s s1) (h : QFun X rs m r h2 .ret s1) : QFun X rs m r h2 .ret s := by
 obtain ⟨s', h1, h2, h3, h4⟩ := h
 exact ⟨s', hw.trans h1, h2, h3, h4⟩
theorem qa2f {X : Cx} {s : SSt} {Y : List SV} {g : GoD} {t : Nat} {b : Bool} (hm : X.m = 1) (hv : g.v.length ≤ 6) (hw : Wk X s ⟨[(t, .bool b)], gobj Y g, 12⟩) : QFun X [.tmp t] 1 (.bool b) [(0, .abs (goA Y g))] .ret s :=
 qa21 (hw.trans (qanc hv ⟨rfl, rfl, rfl, rfl, rfl, rfl, rfl, rfl, rfl, rfl, rfl, rfl, trivial⟩)) (qa3w hm (by simp [gets]) rfl)
theorem qaij {P : Program} {f : FuncId} {args : List SV} {I1 I2 : AbsI} {r : SV} (h : SCalls P f (.ptr 0 0 :: args) [(0, .abs I1)] 1 r [(0, .abs I2)]) (ha : ∀ σ, args.map (Go.Proofs.Yticeaegpkpjjeaa.ren σ) = args) (hr : ∀ σ, Go.Proofs.Yticeaegpkpjjeaa.ren σ r = r) (hk : ok2 r = true) (id q : Nat) (hq : id < q) : SCalls P f (.ptr id 0 :: args) [(id, .abs I1)] q r [(id, .abs I2)] := by
 have e0 : sg [id] q 0 = id := rfl
 refine qac6 [id] h rfl (by simp) (by simp; omega) ?_ ?_ (by simp [idsH]) (hr _).symm hk ?_ (by simp [idsH]) (by simp [idsH, e0])
 ·rw [List.map_cons, ha]; simp [Go.Proofs.Yticeaegpkpjjeaa.ren, ren1, ren0, e0]
 ·exact ⟨⟨.abs I1, by rw [e0]; simp [geth], rfl⟩, trivial⟩
 ·exact ⟨⟨.abs I2, by rw [e0]; simp [geth], rfl⟩, trivial⟩
end Go.Proofs.Yticeaegpkpjjeaa
namespace Go.Proofs.Yticeaegpkpjjeaa
set_option linter.all false
open Go.RowKit
attribute [local simp] qabj qabi qaaw qaa2 qaax qaa1 qabg qabh qaap qab2 SOp.run SX.ev putd puts argS upds SOp.touch SSt.keep SSt.skip gets geth puth delh idOf SV.cells? setL qadu qadv sbin eq0 eq1 eqL qadr qacr qacs qaau qabk qaaf qabl qab3 qaai qaak FrzOk qaa5 qaaz qaa3 qaa4 qaaq qaay qabm qaa0 qaas qaa6 qaar frzS frzH frz frz1 frz0 SlotsM ObjsM ObjM rn ren ren1 ren0 qab6 qacp qacu qab5 qabn qacv qact CoL qaa7 qab7 dels adds idsH qabt
attribute [local simp] qaeh refc qaee qaea qacl opc actc tabc qaef qacc nums bvc u1 n1 b1 qac0
def qafl (p : PlanD) (b : List Int) (port : Int) : GoD := ⟨b, port, List.replicate p.heads.length false, p.heads.map fun h => List.replicate h.w.length 0, List.replicate p.meta_.length 0, 0, false, false, [], []⟩
abbrev zV (p : PlanD) : List (List Int) := p.heads.map fun h => List.replicate h.w.length 0
def qas9 (p : PlanD) (i k : Nat) : List Int := if k < i then vk (zV p) k else []
def qaoi (p : PlanD) (i : Nat) : List (List SV) := (qadl (zV p)).take i
abbrev sobj (p : PlanD) (i k : Nat) : SObj := .row 39 1 ((qas9 p i k).map u1)
theorem qay9 (p : PlanD) (i k : Nat) (h : k ≠ i) : qas9 p (i + 1) k = qas9 p i k := by
 unfold qas9
 by_cases e : k < i
 ·rw [if_pos e, if_pos (by omega)]
 ·rw [if_neg e, if_neg (by omega)]
theorem zV_get {p : PlanD} {i : Nat} (h : i < p.heads.length) : vk (zV p) i = List.replicate p.heads[i].w.length 0 := by
 unfold vk; rw [List.getD_eq_getElem?_getD, List.getElem?_map, List.getElem?_eq_getElem h]; rfl
theorem qaza {p : PlanD} {i : Nat} (h : i < p.heads.length) : List.replicate p.heads[i].w.length [SV.int .u64 0] = (qas9 p (i + 1) i).map u1 := by
 unfold qas9; rw [if_pos (by omega), zV_get h, List.map_replicate]; rfl
theorem qanj (p : PlanD) (k : Nat) : qas9 p p.heads.length k = vk (zV p) k := by
 unfold qas9
 by_cases h : k < p.heads.length
 ·rw [if_pos h]
 ·rw [if_neg h]
  unfold vk; rw [List.getD_eq_getElem?_getD, List.getElem?_eq_none (by simp; omega)]; rfl
theorem qazf {p : PlanD} {i : Nat} (h : i ≤ p.heads.length) : (qaoi p i).length = i := by unfold qaoi; rw [List.length_take, qac0, List.length_map]; omega
theorem qaz8 {p : PlanD} {i N : Nat} (h : i < p.heads.length) {σ : Nat → Nat} (h1 : ∀ k, k < i → σ (4 + k) = 4 + k) (h2 : σ (4 + i) = N) : CoLL (qaoi p i ++ [[.own N p.heads[i].w.length]]) ((qaoi p (i + 1)).map (·.map (Go.Proofs.Yticeaegpkpjjeaa.ren σ))) := by
 have e : (qaoi p (i + 1)).map (·.map (Go.Proofs.Yticeaegpkpjjeaa.ren σ)) = qaoi p i ++ [[.own N p.heads[i].w.length]] := by
  have hs : qaoi p (i + 1) = qaoi p i ++ [[.own (4 + i) p.heads[i].w.length]] := by
   unfold qaoi
   rw [List.take_add_one, qaey (by simpa using h), zV_get h, List.length_replicate]; rfl
  rw [hs, List.map_append]
  congr 1
  ·unfold qaoi qadl
   rw [← List.map_take, List.map_map]
   refine List.map_congr_left fun k hk => ?_
   have hk1 : k < i := by
    rw [List.take_range] at hk
    have := List.mem_range.1 hk; omega
   show [Go.Proofs.Yticeaegpkpjjeaa.ren σ (.own (4 + k) _)] = _
   simp only [Go.Proofs.Yticeaegpkpjjeaa.ren, ren1, ren0, h1 k hk1]
  ·simp [Go.Proofs.Yticeaegpkpjjeaa.ren, ren1, ren0, h2]
 rw [e]; exact CoLL.refl _
def goI (Y : List SV) (b : List Int) (port : Int) (H M i : Nat) : List SV := [.cp Y, nums .u8 b, .int .u64 port, .own 1 H, .own 2 i, .own 3 M, .int .u64 0, .bool false, .bool false, .own 10 0, .own 11 0]
theorem qa3v {X : Cx} {s : SSt} {Y : List SV} {g : GoD} {t : Nat} (hm : X.m = 0) (hv : g.v.length ≤ 6) (hw : Wk X s ⟨[(t, .ptr 0 0)], gobj Y g, 12⟩) : QFun X [.tmp t] 0 (.ptr 0 0) [(0, .abs (goA Y g))] .ret s := by
 have h1 : Wk X s ⟨[(t, .ptr 0 0)], [(0, .abs (goA Y g))], 12⟩ := hw.trans (qanc hv ⟨rfl, rfl, rfl, rfl, rfl, rfl, rfl, rfl, rfl, rfl, rfl, rfl, trivial⟩)
 have h2 : Wk X ⟨[(t, .ptr 0 0)], [(0, .abs (goA Y g))], 12⟩ ⟨[(t, .ptr 0 0)], [(0, .abs (goA Y g))], 1⟩ := qaag [] hm ⟨by simp only [gets, if_true]; exact Co.refl _, trivial⟩ ⟨⟨_, rfl, rfl⟩, trivial⟩ rfl (Nat.zero_le _)
 exact ⟨_, h1.trans h2, by simp [qaoe, resL, resV, one_, gets], ⟨rfl, trivial⟩, by simp⟩
theorem qaoc {P : Program} {f : FuncId} {args : List SV} {I : AbsI} (h : SCalls P f args [] 0 (.ptr 0 0) [(0, .abs I)]) (ha : ∀ σ, args.map (Go.Proofs.Yticeaegpkpjjeaa.ren σ) = args) (q : Nat) : SCalls P f args [] q (.ptr q 0) [(q, .abs I)] := by
 have e0 : sg [] q 0 = q := rfl
 exact qac6 [] h rfl (by simp) (by simp) (ha _).symm trivial (by simp [idsH]) (by simp [Go.Proofs.Yticeaegpkpjjeaa.ren, ren1, ren0, e0]) rfl ⟨⟨.abs I, by rw [e0]; simp [geth], rfl⟩, trivial⟩ (by simp [idsH]) (by simp [idsH, e0])
set_option maxHeartbeats 4000000 in
theorem start_s (p : PlanD) (T : SV) (b : List Int) (port : Int) (hp0 : 0 ≤ port) (hp1 : port ≤ 65535) (hh : p.heads.length ≤ 6) (hw : ∀ h ∈ p.heads, h.w.length ≤ 8) (hml : p.meta_.length ≤ 1000) (hbl : b.length ≤ 100000) :
  SCalls Try.prog 49 [.cp (qacc p ++ [T]), nums .u8 b, .int .i64 port] [] 0 (.ptr 0 0) [(0, .abs (goA (qacc p ++ [T]) (qafl p b port)))] := by
 refine qaal (N := 60) Try.func49 rfl rfl (by kernel_rfl) qakq (by simp) ⟨rfl, rfl, rfl, trivial⟩ trivial ?_
 rintro X hP hN hm
 unfold c_start
 have wp : IntKind.u64.wrap port = port := qand hp0 (by omega)
 have hb1 : p.heads.length ≤ maxLen := by unfold maxLen; omega
 have hb2 : p.meta_.length ≤ maxLen := by unfold maxLen; omega
 repeat' (first | (with_reducible first | refine zA ?_ | refine zK ?_) | ((with_reducible first | refine qaad ?_ | refine qaa8 (by rw [hP]; exact qadn) ?_); (try rw [hP]); simp -implicitDefEqProofs [*]) | ((with_reducible refine qabw ?_ ?_); (first | omega | (unfold maxLen; omega)); simp -implicitDefEqProofs [*]) | fail)
 refine qacy (qafn 20 4 48 1 rfl rfl) ?_
 simp only [zT, puth, Nat.reduceEqDiff, reduceIte, Nat.reduceAdd]
 refine qacy (qafn 20 9 3 1 rfl rfl) ?_
 simp only [zT, puth, Nat.reduceEqDiff, reduceIte, Nat.reduceAdd]
 refine qacy (qafn 20 10 39 1 rfl rfl) ?_
 simp only [zT, puth, Nat.reduceEqDiff, reduceIte, Nat.reduceAdd]
 iterate 6
  refine qacy (wk_new 39 1) ?_
  simp only [zT, puth, Nat.reduceEqDiff, reduceIte, Nat.reduceAdd]
 refine qacy (s' := ⟨[(0, .cp (qacc p ++ [T])), (7, .ptr 0 0), (8, .int .i64 0)], [(0, .cells 135 (goI (qacc p ++ [T]) b port p.heads.length p.meta_.length 0)), (1, .row 4 1 ((qafl p b port).there.map b1)), (2, .row 48 1 []), (3, .row 39 1 ((qafl p b port).meta_.map u1)), (4, .row 39 1 []), (5, .row 39 1 []), (6, .row 39 1 []), (7, .row 39 1 []), (8, .row 39 1 []), (9, .row 39 1 []), (10, .row 3 1 []), (11, .row 39 1 [])], 12⟩) (qaag [(0, 20), (1, 11), (2, 23), (3, 18), (4, 26), (5, 27), (6, 28), (7, 29), (8, 30), (9, 31), (10, 24), (11, 25)] hm ?_ ?_ rfl (by simp)) ?_
 ·repeat' (first | (with_reducible refine za ?_ ?_) | (with_reducible exact qaaa) | (exact Co.refl _) | fail)
 ·repeat' (first | (with_reducible first | refine zb ?_ ?_ ?_ ?_ | refine zc ?_ ?_ ?_ ?_) | (with_reducible exact qaac) | ((with_reducible refine zga ?_); rfl) | ((with_reducible refine zgc ?_); (first | (with_reducible rfl) | rfl | (simp; done))) | (exact CoL.refl _) | fail)
  all_goals (simp [qafl]; done)
 have hrow : ∀ (i : Nat) (hi : i < p.heads.length), List.replicate p.heads[i].w.length [SV.int .u64 0] = (qas9 p (i + 1) i).map u1 := fun i hi => qaza hi
 have hold : ∀ i k, k ≠ i → (qas9 p i k).map u1 = (qas9 p (i + 1) k).map u1 := fun i k h => by rw [qay9 p i k h]
 have hcl := fun (i N : Nat) (h : i < p.heads.length) (σ : Nat → Nat) => @qaz8 p i N h σ
 replace hrow := Lib.hid hrow
 replace hold := Lib.hid hold
 replace hcl := Lib.hid hcl
 refine qaat (qabp (fun s (i : Nat) => s.turn [(8, .int .i64 i)] [(0, .cells 135 (goI (qacc p ++ [T]) b port p.heads.length p.meta_.length i)), (2, .row 48 1 (qaoi p i)), (4, sobj p i 0), (5, sobj p i 1), (6, sobj p i 2), (7, sobj p i 3), (8, sobj p i 4), (9, sobj p i 5)]) (fun i => i ≤ p.heads.length) (fun i => p.heads.length - i) 0 ?_ (by simp) ?_)
 ·repeat' (first | ((with_reducible refine qaag [] hm ?_ ?_ ?_ ?_) <;> (try simp only [zT, puth, Nat.reduceEqDiff, reduceIte, Nat.reduceAdd])) | (with_reducible first | refine za ?_ ?_ | refine zb ?_ ?_ ?_ ?_ | refine zc ?_ ?_ ?_ ?_ | refine zd ?_ ?_ ?_ ?_) | (with_reducible first | exact qaaa | exact qaac) | ((with_reducible first | refine zga ?_ | refine zgb ?_); rfl) | ((with_reducible refine zgc ?_); (first | (with_reducible rfl) | rfl | (simp; done))) | ((with_reducible refine zgd ?_); (first | omega | (simp; done))) | (exact Co.refl _) | (exact CoL.refl _) | (exact CoLL.refl _) | fail)
  all_goals trace_state
 rintro J hJ i h1
 unfold qajb
 simp only [zT, puth, Nat.reduceEqDiff, reduceIte, Nat.reduceAdd] at h1 ⊢
 have hol := qazf h1
 rcases Nat.lt_or_ge i p.heads.length with hi | hi
 ·have wi : IntKind.i64.wrap ((i : Int) + 1) = (i : Int) + 1 := qaav (by omega) (by omega)
  have hwi := hw p.heads[i] (List.getElem_mem hi)
  have hb3 : p.heads[i].w.length ≤ maxLen := by unfold maxLen; omega
  have hb4 : i + 1 ≤ maxLen := by unfold maxLen; omega
  have hri := hrow.out i hi
  have hci := fun N σ => hcl.out i N hi σ
  generalize hxx : p.heads[i].w = xw at hwi hb3 hri hci
  have hxx2 : p.heads[i] = ⟨xw⟩ := by rw [← hxx]
  clear hxx
  generalize hOO : qaoi p i = OO at hol hci ⊢
  replace hOO := Lib.hid hOO
  replace hri := Lib.hid hri
  replace hci := Lib.hid hci
  obtain rfl | rfl | rfl | rfl | rfl | rfl : i = 0 ∨ i = 1 ∨ i = 2 ∨ i = 3 ∨ i = 4 ∨ i = 5 := by omega
  ·repeat' (first | (with_reducible first | refine zA ?_ | refine qacj ?_ | refine zK ?_) | ((with_reducible first | refine qaad ?_ | refine qaa8 (by rw [hP]; exact qadn) ?_); (try rw [hP]); simp -implicitDefEqProofs [goI, *]) | ((with_reducible refine qaae ?_); (try simp -implicitDefEqProofs [goI, *])) | ((with_reducible refine qaab rfl (fun h => ?_) (fun h => ?_)) <;> have h' := h <;> (try simp at h') <;> (try subst h')) | ((with_reducible refine qabw ?_ ?_); (first | omega | (unfold maxLen; omega)); simp -implicitDefEqProofs [goI, *]) | (with_reducible first | refine za ?_ ?_ | refine zb ?_ ?_ ?_ ?_ | refine zc ?_ ?_ ?_ ?_ | refine zd ?_ ?_ ?_ ?_) | (with_reducible first | exact qaaa | exact qaac) | ((with_reducible first | refine zga ?_ | refine zgb ?_); rfl) | ((with_reducible refine zgc ?_); (first | (with_reducible rfl) | rfl | (simp; done))) | ((with_reducible first | refine zgd ?_ | refine zge ?_); (first | omega | (simp; done))) | (exact Co.refl _) | (exact CoL.refl _) | ((refine qaaj hJ (1) ?_ ?_ ?_; (with_reducible refine qaag [(2, ?_), (4, 35)] hm ?_ ?_ ?_ ?_) <;> (try simp only [zT, puth, Nat.reduceEqDiff, reduceIte, Nat.reduceAdd]))) | fail)
   all_goals first | omega | (rw [hOO.out]; done) | (exact hci.out 35 _ (fun k hk => absurd hk (Nat.not_lt_zero k)) rfl) | (exact hri.out) | (exact hold.out 0 _ (by decide)) | trace_state
  ·repeat' (first | (with_reducible first | refine zA ?_ | refine qacj ?_ | refine zK ?_) | ((with_reducible first | refine qaad ?_ | refine qaa8 (by rw [hP]; exact qadn) ?_); (try rw [hP]); simp -implicitDefEqProofs [goI, *]) | ((with_reducible first | refine qaae ?_ | refine qaao ?_); (try simp -implicitDefEqProofs [goI, *])) | ((with_reducible refine qaam ?_); (try simp only [qaau, qaaf, qaai])) | ((with_reducible refine qaab rfl (fun h => ?_) (fun h => ?_)) <;> have h' := h <;> (try simp at h') <;> (try subst h')) | ((with_reducible refine qabw ?_ ?_); (first | omega | (unfold maxLen; omega)); simp -implicitDefEqProofs [goI, *]) | (with_reducible first | refine za ?_ ?_ | refine zb ?_ ?_ ?_ ?_ | refine zc ?_ ?_ ?_ ?_ | refine zd ?_ ?_ ?_ ?_) | (with_reducible first | exact qaaa | exact qaac) | ((with_reducible first | refine zga ?_ | refine zgb ?_); rfl) | ((with_reducible refine zgc ?_); (first | (with_reducible rfl) | rfl | (simp; done))) | ((with_reducible first | refine zgd ?_ | refine zge ?_); (first | omega | (simp; done))) | (exact Co.refl _) | (exact CoL.refl _) | ((refine qaaj hJ (2) ?_ ?_ ?_; (with_reducible refine qaag [(2, ?_), (5, 35)] hm ?_ ?_ ?_ ?_) <;> (try simp only [zT, puth, Nat.reduceEqDiff, reduceIte, Nat.reduceAdd]))) | fail)
   all_goals first | omega | (rw [hOO.out]; done) | (exact hci.out 35 _ (fun k hk => by obtain rfl : k = 0 := (by omega); rfl) rfl) | (exact hri.out) | (exact hold.out 1 _ (by decide)) | trace_state
  ·repeat' (first | (with_reducible first | refine zA ?_ | refine qacj ?_ | refine zK ?_) | ((with_reducible first | refine qaad ?_ | refine qaa8 (by rw [hP]; exact qadn) ?_); (try rw [hP]); simp -implicitDefEqProofs [goI, *]) | ((with_reducible first | refine qaae ?_ | refine qaao ?_); (try simp -implicitDefEqProofs [goI, *])) | ((with_reducible refine qaam ?_); (try simp only [qaau, qaaf, qaai])) | ((with_reducible refine qaab rfl (fun h => ?_) (fun h => ?_)) <;> have h' := h <;> (try simp at h') <;> (try subst h')) | ((with_reducible refine qabw ?_ ?_); (first | omega | (unfold maxLen; omega)); simp -implicitDefEqProofs [goI, *]) | (with_reducible first | refine za ?_ ?_ | refine zb ?_ ?_ ?_ ?_ | refine zc ?_ ?_ ?_ ?_ | refine zd ?_ ?_ ?_ ?_) | (with_reducible first | exact qaaa | exact qaac) | ((with_reducible first | refine zga ?_ | refine zgb ?_); rfl) | ((with_reducible refine zgc ?_); (first | (with_reducible rfl) | rfl | (simp; done))) | ((with_reducible first | refine zgd ?_ | refine zge ?_); (first | omega | (simp; done))) | (exact Co.refl _) | (exact CoL.refl _) | ((refine qaaj hJ (3) ?_ ?_ ?_; (with_reducible refine qaag [(2, ?_), (6, 35)] hm ?_ ?_ ?_ ?_) <;> (try simp only [zT, puth, Nat.reduceEqDiff, reduceIte, Nat.reduceAdd]))) | fail)
   all_goals first | omega | (rw [hOO.out]; done) | (exact hci.out 35 _ (fun k hk => by obtain rfl | rfl := (by omega : k = 0 ∨ k = 1) <;> rfl) rfl) | (exact hri.out) | (exact hold.out 2 _ (by decide)) | trace_state
  ·repeat' (first | (with_reducible first | refine zA ?_ | refine qacj ?_ | refine zK ?_) | ((with_reducible first | refine qaad ?_ | refine qaa8 (by rw [hP]; exact qadn) ?_); (try rw [hP]); simp -implicitDefEqProofs [goI, *]) | ((with_reducible first | refine qaae ?_ | refine qaao ?_); (try simp -implicitDefEqProofs [goI, *])) | ((with_reducible refine qaam ?_); (try simp only [qaau, qaaf, qaai])) | ((with_reducible refine qaab rfl (fun h => ?_) (fun h => ?_)) <;> have h' := h <;> (try simp at h') <;> (try subst h')) | ((with_reducible refine qabw ?_ ?_); (first | omega | (unfold maxLen; omega)); simp -implicitDefEqProofs [goI, *]) | (with_reducible first | refine za ?_ ?_ | refine zb ?_ ?_ ?_ ?_ | refine zc ?_ ?_ ?_ ?_ | refine zd ?_ ?_ ?_ ?_) | (with_reducible first | exact qaaa | exact qaac) | ((with_reducible first | refine zga ?_ | refine zgb ?_); rfl) | ((with_reducible refine zgc ?_); (first | (with_reducible rfl) | rfl | (simp; done))) | ((with_reducible first | refine zgd ?_ | refine zge ?_); (first | omega | (simp; done))) | (exact Co.refl _) | (exact CoL.refl _) | ((refine qaaj hJ (4) ?_ ?_ ?_; (with_reducible refine qaag [(2, ?_), (7, 35)] hm ?_ ?_ ?_ ?_) <;> (try simp only [zT, puth, Nat.reduceEqDiff, reduceIte, Nat.reduceAdd]))) | fail)
   all_goals first | omega | (rw [hOO.out]; done) | (exact hci.out 35 _ (fun k hk => by obtain rfl | rfl | rfl := (by omega : k = 0 ∨ k = 1 ∨ k = 2) <;> rfl) rfl) | (exact hri.out) | (exact hold.out 3 _ (by decide)) | trace_state
  ·repeat' (first | (with_reducible first | refine zA ?_ | refine qacj ?_ | refine zK ?_) | ((with_reducible first | refine qaad ?_ | refine qaa8 (by rw [hP]; exact qadn) ?_); (try rw [hP]); simp -implicitDefEqProofs [goI, *]) | ((with_reducible first | refine qaae ?_ | refine qaao ?_); (try simp -implicitDefEqProofs [goI, *])) | ((with_reducible refine qaam ?_); (try simp only [qaau, qaaf, qaai])) | ((with_reducible refine qaab rfl (fun h => ?_) (fun h => ?_)) <;> have h' := h <;> (try simp at h') <;> (try subst h')) | ((with_reducible refine qabw ?_ ?_); (first | omega | (unfold maxLen; omega)); simp -implicitDefEqProofs [goI, *]) | (with_reducible first | refine za ?_ ?_ | refine zb ?_ ?_ ?_ ?_ | refine zc ?_ ?_ ?_ ?_ | refine zd ?_ ?_ ?_ ?_) | (with_reducible first | exact qaaa | exact qaac) | ((with_reducible first | refine zga ?_ | refine zgb ?_); rfl) | ((with_reducible refine zgc ?_); (first | (with_reducible rfl) | rfl | (simp; done))) | ((with_reducible first | refine zgd ?_ | refine zge ?_); (first | omega | (simp; done))) | (exact Co.refl _) | (exact CoL.refl _) | ((refine qaaj hJ (5) ?_ ?_ ?_; (with_reducible refine qaag [(2, ?_), (8, 35)] hm ?_ ?_ ?_ ?_) <;> (try simp only [zT, puth, Nat.reduceEqDiff, reduceIte, Nat.reduceAdd]))) | fail)
   all_goals first | omega | (rw [hOO.out]; done) | (exact hci.out 35 _ (fun k hk => by obtain rfl | rfl | rfl | rfl := (by omega : k = 0 ∨ k = 1 ∨ k = 2 ∨ k = 3) <;> rfl) rfl) | (exact hri.out) | (exact hold.out 4 _ (by decide)) | trace_state
  ·repeat' (first | (with_reducible first | refine zA ?_ | refine qacj ?_ | refine zK ?_) | ((with_reducible first | refine qaad ?_ | refine qaa8 (by rw [hP]; exact qadn) ?_); (try rw [hP]); simp -implicitDefEqProofs [goI, *]) | ((with_reducible first | refine qaae ?_ | refine qaao ?_); (try simp -implicitDefEqProofs [goI, *])) | ((with_reducible refine qaam ?_); (try simp only [qaau, qaaf, qaai])) | ((with_reducible refine qaab rfl (fun h => ?_) (fun h => ?_)) <;> have h' := h <;> (try simp at h') <;> (try subst h')) | ((with_reducible refine qabw ?_ ?_); (first | omega | (unfold maxLen; omega)); simp -implicitDefEqProofs [goI, *]) | (with_reducible first | refine za ?_ ?_ | refine zb ?_ ?_ ?_ ?_ | refine zc ?_ ?_ ?_ ?_ | refine zd ?_ ?_ ?_ ?_) | (with_reducible first | exact qaaa | exact qaac) | ((with_reducible first | refine zga ?_ | refine zgb ?_); rfl) | ((with_reducible refine zgc ?_); (first | (with_reducible rfl) | rfl | (simp; done))) | ((with_reducible first | refine zgd ?_ | refine zge ?_); (first | omega | (simp; done))) | (exact Co.refl _) | (exact CoL.refl _) | ((refine qaaj hJ (6) ?_ ?_ ?_; (with_reducible refine qaag [(2, ?_), (9, 35)] hm ?_ ?_ ?_ ?_) <;> (try simp only [zT, puth, Nat.reduceEqDiff, reduceIte, Nat.reduceAdd]))) | fail)
   all_goals first | omega | (rw [hOO.out]; done) | (exact hci.out 35 _ (fun k hk => by obtain rfl | rfl | rfl | rfl | rfl := (by omega : k = 0 ∨ k = 1 ∨ k = 2 ∨ k = 3 ∨ k = 4) <;> rfl) rfl) | (exact hri.out) | (exact hold.out 5 _ (by decide)) | trace_state
 ·obtain rfl : i = p.heads.length := by omega
  repeat' (first | (with_reducible refine zA ?_) | ((with_reducible refine qaad ?_); (try rw [hP]); simp -implicitDefEqProofs [goI, *]) | ((with_reducible refine qaao ?_); (try simp -implicitDefEqProofs [goI, *])) | ((with_reducible refine qaam ?_); (try simp only [qaau, qaaf, qaai])) | ((with_reducible refine qaab rfl (fun h => ?_) (fun h => ?_)) <;> have h' := h <;> (try simp at h') <;> (try subst h')) | fail)
  refine qa3v hm (by simpa [qafl] using hh) ?_
  simp only [gobj, goc, qafl, qanj, List.length_replicate, List.length_map, List.length_nil]
  repeat' (first | ((with_reducible refine qaag [] hm ?_ ?_ ?_ ?_) <;> (try simp only [zT, puth, Nat.reduceEqDiff, reduceIte, Nat.reduceAdd])) | (with_reducible first | refine za ?_ ?_ | refine zb ?_ ?_ ?_ ?_ | refine zc ?_ ?_ ?_ ?_ | refine zd ?_ ?_ ?_ ?_) | (with_reducible first | exact qaaa | exact qaac) | ((with_reducible first | refine zga ?_ | refine zgb ?_); rfl) | ((with_reducible refine zgc ?_); (first | (with_reducible rfl) | rfl | (simp; done))) | ((with_reducible refine zgd ?_); (first | omega | (simp; done))) | (exact Co.refl _) | (exact CoL.refl _) | fail)
  all_goals first | (rw [qanj]; done) | (rw [show qaoi p p.heads.length = qadl (zV p) from List.take_of_length_le (by rw [qac0, List.length_map]; exact Nat.le_refl _)]; exact qab0 (by simpa using hh) (six rfl rfl rfl rfl rfl rfl))
end Go.Proofs.Yticeaegpkpjjeaa
namespace Go.Proofs.Yticeaegpkpjjeaa
set_option linter.all false
open Go.RowKit
theorem qahu (l : List Bool) : ∀ i, i ≤ 64 → ∀ j, (qad9 l i).getLsbD j = (decide (j < i) && l.getD j false)
 | 0, _, j => by simp [qad9]
 | i + 1, hi, j => by
  have ih := qahu l i (by omega) j
  unfold qad9
  by_cases e : j = i
  ·subst e
   cases hx : l.getD j false
   ·rw [if_neg (by decide), ih, hx]; simp
   ·rw [if_pos rfl, BitVec.getLsbD_or, ih]
    simp [bitB, BitVec.getLsbD_twoPow]; omega
  ·have hd : decide (j < i + 1) = decide (j < i) := decide_eq_decide.2 (by omega)
   rw [hd, ← ih]
   split
   ·rw [BitVec.getLsbD_or]
    have : (bitB (i : Int)).getLsbD j = false := by simp [bitB, BitVec.getLsbD_twoPow]; omega
    rw [this, Bool.or_false]
   ·rfl
def qaif (g : GoD) : BitVec 64 := qad9 g.there g.there.length
theorem qa3j (l : List Bool) (hl : l.length ≤ 6) (h : Nat) (hh : h < l.length) : qad9 (l.set h true) (l.set h true).length = qad9 l l.length ||| bitB h := by
 apply BitVec.eq_of_getLsbD_eq
 intro j hj
 rw [qahu _ _ (by simp; omega), BitVec.getLsbD_or, qahu _ _ (by omega), List.length_set, List.getD_eq_getElem?_getD, List.getElem?_set, List.getD_eq_getElem?_getD]
 by_cases e : h = j
 ·subst e; simp [hh, bitB, BitVec.getLsbD_twoPow]; omega
 ·rw [if_neg e]
  have : (bitB (h : Int)).getLsbD j = false := by simp [bitB, BitVec.getLsbD_twoPow]; omega
  rw [this, Bool.or_false]
def wayG (n : Nat) (g : GoD) : TB := (qaif g, (n : Int) - g.b.length)
theorem qa2d (els x : Int) : ∀ l : List CaseD, qafm els x l ∈ l.map CaseD.to_ ++ [els]
 | [] => by simp [qafm]
 | c :: l => by
  unfold qafm
  split
  ·simp
  ·have := qa2d els x l
   rw [List.map_cons, List.cons_append]; exact List.mem_cons_of_mem _ this
theorem qa2p {p : PlanD} (hp : PlOk p) {n : Nat} {g : GoD} (hg : GOk p g) {s : StateD} (h1 : s.head < p.heads.length) (hb : ¬ (0 ≤ s.head ∧ (g.b.length : Int) < qael p s.head)) : wayG n (onG s (qaie p s g)) = qan9 p s.head (wayG n g) := by
 have e : wayG n (onG s (qaie p s g)) = wayG n (qaie p s g) := by unfold onG; split <;> rfl
 rw [e]
 unfold qaie qan9
 split
 ·rename_i h0
  have hs := qaki hp h0 h1
  have h6 := hp.heads
  have tl := hg.tl
  unfold wayG qaif
  simp only [qa2c]
  rw [qa3j g.there (by omega) _ (by omega), show ((s.head.toNat : Nat) : Int) = s.head by omega, List.length_drop]
  congr 1
  omega
 ·rfl
theorem qast {p : PlanD} (hp : PlOk p) {n : Nat} : ∀ (f : Nat) (k : Int) (g : GoD), GOk p g → (k = 1000 → RW p p.states.length p.states.length (wayG n g)) → (k ≠ 1000 → k ≠ 1001 → 0 ≤ k ∧ k < p.states.length ∧ RW p k.toNat k.toNat (wayG n g)) →
  (takeG p f k g).1 = true → RW p p.states.length p.states.length (wayG n (takeG p f k g).2)
 | 0, k, g, _, h1, _, ht => h1 (by simpa [takeG] using ht)
 | f + 1, k, g, hg, h1, h2, ht => by
  unfold takeG at ht ⊢
  by_cases hk : k = 1000 ∨ k = 1001
  ·rw [if_pos hk] at ht ⊢
   exact h1 (by simpa using ht)
  rw [if_neg hk] at ht ⊢
  obtain ⟨k0, k1, hw⟩ := h2 (by omega) (by omega)
  by_cases hb : 0 ≤ (stAt p k).head ∧ (g.b.length : Int) < qael p (stAt p k).head
  ·rw [if_pos hb] at ht; cases ht
  rw [if_neg hb] at ht ⊢
  have hlt : k.toNat < p.states.length := by omega
  have ok := hp.ok k.toNat hlt
  have est := qasy k0 k1
  have hh := qa1w hp k
  have hn := qa2p hp (n := n) hg hh hb
  have hg2 := gok_on (qatz hg hh) (stAt p k)
  have hin := qa2d (stAt p k).els (qadx (qaie p (stAt p k) g) (stAt p k).on []) (stAt p k).cases_
  generalize qafm (stAt p k).els (qadx (qaie p (stAt p k) g) (stAt p k).on []) (stAt p k).cases_ = t at hin ht ⊢
  generalize onG (stAt p k) (qaie p (stAt p k) g) = g2 at hn hg2 ht ⊢
  rw [est] at hin hn
  have hto := ok.to_ t hin
  have key : ∀ m : Nat, m ≤ p.states.length → tgt p.states.length t = m → RW p m m (wayG n g2) := fun m hm e => by
   have hlead : (m : Int) ∈ qats p p.states[k.toNat] := qatr.2 ⟨by omega, t, hin, e⟩
   have := qato hp (w := ⟨k.toNat, (wayG n g).1, (wayG n g).2⟩) hw (v := ⟨m, (qan9 p p.states[k.toNat].head (wayG n g)).1, (qan9 p p.states[k.toNat].head (wayG n g)).2⟩) (by
    unfold nextW
    rw [dif_pos hlt]
    exact List.mem_map.2 ⟨(m : Int), hlead, rfl⟩)
   rw [hn]; exact this.2
  refine qast hp f t g2 hg2 (fun e => key _ (Nat.le_refl _) (by unfold tgt; rw [if_pos e])) (fun e1 e2 => ?_) ht
  have ht2 : (k.toNat : Int) < t ∧ t < p.states.length := by omega
  refine ⟨by omega, ht2.2, key t.toNat (by omega) ?_⟩
  unfold tgt; rw [if_neg e1]; omega
theorem qa2s {p : PlanD} (hp : PlOk p) {y : TB} (h : RW p p.states.length p.states.length y) : (setAt p p.states.length).there = true ∧ y.1 &&& (setAt p p.states.length).must = (setAt p p.states.length).must ∧ y.1 &&& (setAt p p.states.length).may = y.1 ∧ (setAt p p.states.length).least ≤ y.2 ∧ y.2 ≤ (setAt p p.states.length).most := by
 have hi := qaeu hp p.states.length (Nat.le_refl _) p.states.length (Nat.le_refl _)
 have e : setAt p p.states.length = (qacz p p.states.length).getD p.states.length qad8 := rfl
 rw [e]
 rcases hi with ⟨_, hn⟩ | hi
 ·exact absurd h (hn y)
 generalize (qacz p p.states.length).getD p.states.length qad8 = S at hi
 refine ⟨hi.there, BitVec.eq_of_getLsbD_eq fun j hj => ?_, BitVec.eq_of_getLsbD_eq fun j hj => ?_, hi.least.2 y h, hi.most.2 y h⟩
 ·rw [BitVec.getLsbD_and]
  cases hm : S.must.getLsbD j
  ·simp
  ·rw [((hi.must j).1 hm).2 y h]; rfl
 ·rw [BitVec.getLsbD_and]
  cases hm : y.1.getLsbD j
  ·rfl
  ·rw [(hi.may j).2 ⟨y, h, hm⟩]; rfl
theorem qasx (p : PlanD) (b : List Int) (port : Int) : GOk p ⟨b, port, List.replicate p.heads.length false, p.heads.map fun h => List.replicate h.w.length 0, List.replicate p.meta_.length 0, 0, false, false, [], []⟩ := by
 refine ⟨by simp, by simp, fun k hk => ?_, by simp⟩
 unfold vk qae2
 rw [List.getD_eq_getElem?_getD, List.getElem?_map, List.getElem?_eq_getElem hk, show ((k : Int)).toNat = k by omega, List.getElem?_eq_getElem hk]
 simp
theorem qay0 (p : PlanD) (hp : PlOk p) (b : List Int) (port : Int) (v : List (List Int)) (m : List Int) : wayG b.length ⟨b, port, List.replicate p.heads.length false, v, m, 0, false, false, [], []⟩ = (0, 0) := by
 unfold wayG qaif
 have h6 := hp.heads
 congr 1
 ·apply BitVec.eq_of_getLsbD_eq
  intro j hj
  rw [qahu _ _ (by simp; omega), List.getD_eq_getElem?_getD, List.getElem?_replicate]
  simp
  intro _
  split <;> rfl
 ·simp
end Go.Proofs.Yticeaegpkpjjeaa
