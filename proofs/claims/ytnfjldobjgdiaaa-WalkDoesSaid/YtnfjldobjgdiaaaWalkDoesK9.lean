/-
  Texts joined: XPloB XPloC XPloD XWlkJ. No condition.
-/
import Derived.Test.YtnfjldobjgdiaaaProg
import Derived.ProofKit
import Derived.WalkSpells
import Derived.RegionTactic
import Derived.BigRegion
import Derived.Deep.RegionLaw
import Derived.Test.YtnfjldobjgdiaaaWalkDoesK8
namespace Go.Proofs.Ytnfjldobjgdiaaa
set_option linter.all false
open Go.RowKit
attribute [local simp] qabs qabr qaa5 qabc qaa6 qabb qabp qabq qaa1 qab3 SOp.run SX.ev putd puts argS upds SOp.touch SSt.keep SSt.skip gets geth puth delh idOf SV.cells? setL qadd qade sbin eq0 eq1 eqL qadc qacd qace qaas qabt qaad qabu qab4 qaaj qaa3 FrzOk qabl qabf qabj qabk qaa7 qabe qab0 qabg qaa9 qabm qaa8 frzS frzH frz frz1 frz0 SlotsM ObjsM ObjM rn ren ren1 ren0 qab9 qaay qaaz qab8 qab1 qacq qacp CoL qabn qacs dels adds idsH qacf
attribute [local simp] qad0 refc qafc qae1 qacn opc actc tabc qaeg qac1 nums
def qbeq (h : HeadD) : Bool := decide (500 < (h.w.length : Int))
def qaje (s : StateD) : Bool := decide (500 < (s.cases_.length : Int))
def gOp (o : OpD) : Bool := decide (500 < (o.e.length : Int))
def gAct (a : ActD) : Bool := decide (500 < (a.w.length : Int)) || decide (50 < (a.ops.length : Int)) || a.ops.any gOp
def gTab (t : TabD) : Bool := decide (500 < (t.keys.length : Int)) || decide (500 < (t.acts.length : Int)) || decide (500 < (t.args.length : Int))
def qalu (n : NodeD) : Bool := decide (500 < (n.e.length : Int))
def gTop (p : PlanD) : Bool := decide (50 < (p.heads.length : Int)) || decide (500 < (p.meta_.length : Int)) || decide (50 < (p.states.length : Int)) || decide (50 < (p.acts.length : Int)) || decide (50 < (p.tabs.length : Int)) || decide (50 < (p.nodes.length : Int)) || decide (500 < (p.out.length : Int))
def qaiq (p : PlanD) : Bool := gTop p || (p.heads.any qbeq || (p.states.any qaje || (p.acts.any gAct || (p.tabs.any gTab || p.nodes.any qalu))))
theorem qbcf {p : PlanD} (h : qaiq p = false) : SmallP p := by
 unfold qaiq at h
 simp only [Bool.or_eq_false_iff, List.any_eq_false] at h
 obtain ⟨h0, h1, h2, h3, h4, h5⟩ := h
 unfold gTop at h0
 simp only [Bool.or_eq_false_iff, decide_eq_false_iff_not] at h0
 obtain ⟨⟨⟨⟨⟨⟨a1, a2⟩, a3⟩, a4⟩, a5⟩, a6⟩, a7⟩ := h0
 refine ⟨by omega, by omega, by omega, by omega, by omega, by omega, by omega, fun x hx => ?_, fun x hx => ?_, fun x hx => ?_, fun x hx => ?_, fun x hx o ho => ?_, fun x hx => ?_, fun x hx => ?_⟩
 ·have := h1 x hx; unfold qbeq at this; rw [decide_eq_true_eq] at this; omega
 ·have := h2 x hx; unfold qaje at this; rw [decide_eq_true_eq] at this; omega
 ·have := h3 x hx; unfold gAct at this; simp only [Bool.or_eq_true, decide_eq_true_eq] at this; omega
 ·have := h3 x hx; unfold gAct at this; simp only [Bool.or_eq_true, decide_eq_true_eq] at this; omega
 ·have := h3 x hx; unfold gAct at this; simp only [Bool.or_eq_true, decide_eq_true_eq, List.any_eq_true, not_or] at this
  have q : ¬ gOp o = true := fun hg => this.2 ⟨o, ho, hg⟩
  unfold gOp at q; rw [decide_eq_true_eq] at q; omega
 ·have := h4 x hx; unfold gTab at this; simp only [Bool.or_eq_true, decide_eq_true_eq] at this; omega
 ·have := h5 x hx; unfold qalu at this; rw [decide_eq_true_eq] at this; omega
set_option maxHeartbeats 8000000 in
theorem gplan_s (p : PlanD) (q : Nat) : SCalls Try.prog 8 [.agg (qac1 p)] [] q (.bool (qaiq p)) [] := by
 refine qabw ?_ (fun _ => rfl) (fun _ => rfl) rfl q
 refine qaba (N := 177) Try.func8 rfl rfl (by kernel_rfl) qam5 (by simp) (by repeat' (first | exact trivial | refine And.intro ?_ ?_ | rfl | decide | exact PureR.ren _)) (by repeat' (first | exact trivial | refine And.intro ?_ ?_ | rfl | decide | exact PureR.ren _)) ?_
 rintro X hP hN hm
 unfold c_gplan
 cases hT : gTop p
 ·have hF : qaiq p = ((p.heads.drop 0).any qbeq || (p.states.any qaje || (p.acts.any gAct || (p.tabs.any gTab || p.nodes.any qalu)))) := by unfold qaiq; rw [hT]; rfl
  generalize qaiq p = F at hF
  have a := hT
  unfold gTop at a
  simp only [Bool.or_eq_false_iff] at a
  obtain ⟨⟨⟨⟨⟨⟨a1, a2⟩, a3⟩, a4⟩, a5⟩, a6⟩, a7⟩ := a
  have b1 := of_decide_eq_false a1
  have b3 := of_decide_eq_false a3
  have b4 := of_decide_eq_false a4
  have b5 := of_decide_eq_false a5
  have b6 := of_decide_eq_false a6
  clear hT
  replace b1 := Lib.hid b1
  replace b3 := Lib.hid b3
  replace b4 := Lib.hid b4
  replace b5 := Lib.hid b5
  replace b6 := Lib.hid b6
  replace hF := Lib.hid hF
  repeat' (first | (with_reducible first | refine zA ?_ | refine qaac ?_ | refine qaab ?_ | refine zK ?_) | ((with_reducible first | refine qaal ?_ | refine qaah (by rw [hP]; exact qaa4) ?_); (try rw [hP]); simp -implicitDefEqProofs [*]) | ((with_reducible first | refine qaaf ?_ | refine qaag ?_); (try simp -implicitDefEqProofs [*])) | ((with_reducible refine qaam ?_); (try simp only [qaas, qaad, qaaj])) | ((with_reducible refine qaae rfl (fun h => ?_) (fun h => ?_)) <;> have h' := h <;> (try simp at h') <;> (try subst h')) | ((with_reducible refine qaaa (fun h => ?_) (fun h => ?_)) <;> have h' := h <;> (try simp at h') <;> (try subst h') <;> simp -implicitDefEqProofs [*]) | ((with_reducible refine qaai ?_ ?_); (first | omega | (unfold maxLen; omega)); simp -implicitDefEqProofs [*]) | (with_reducible first | refine zM hm ?_ | refine zN hm ?_ | refine zO hm ?_ | refine zP hm ?_) | fail)
  clear a1 a2 a3 a4 a5 a6 a7
  refine qaa0 (qabi (fun s (i : Nat) => s.turn [(3, .int .i64 i)] []) (fun i => i ≤ p.heads.length ∧ F = ((p.heads.drop i).any qbeq || (p.states.any qaje || (p.acts.any gAct || (p.tabs.any gTab || p.nodes.any qalu))))) (fun i => p.heads.length - i) 0 ?_ ⟨by simp, hF.out⟩ ?_)
  ·repeat' (first | ((with_reducible refine qaar [] hm ?_ ?_ ?_ ?_) <;> (try simp only [zT, puth, Nat.reduceEqDiff, reduceIte, Nat.reduceAdd])) | (with_reducible first | refine za ?_ ?_ | refine zb ?_ ?_ ?_ ?_ | refine zc ?_ ?_ ?_ ?_ | refine zd ?_ ?_ ?_ ?_ | refine qaap ?_ ?_ | refine qaan ?_ ?_) | (with_reducible first | exact qaak | exact qaao | exact qaat | exact qaau | exact Co.refl _ | exact CoL.refl _ | exact CoLL.refl _) | ((with_reducible first | refine zga ?_ | refine zgb ?_); rfl) | ((with_reducible refine zgc ?_); (first | (with_reducible rfl) | rfl | (simp; done))) | ((with_reducible first | refine zgd ?_ | refine zge ?_); (first | omega | (simp; done))) | (refine qaaw ⟨?_, ?_⟩ ?_ <;> omega) | (exact Co.refl _) | (exact CoL.refl _) | (exact CoLL.refl _) | (refine qaaz ?_; omega) | (refine qaay ?_; first | omega | (simp_all; done)) | (with_reducible first | refine qaav ?_ ?_ | refine qaaq ?_ ?_) | fail)
  rintro J hJ i ⟨h1, h2⟩
  have hbb := b1.out
  clear hF
  unfold qalp
  simp only [zT, puth, Nat.reduceEqDiff, reduceIte, Nat.reduceAdd] at h1 h2 ⊢
  rcases Nat.lt_or_ge i p.heads.length with hi | hi
  ·rw [qadq _ hi] at h2
   generalize hxx : p.heads[i] = x at h2
   have wi : IntKind.i64.wrap ((i : Int) + 1) = (i : Int) + 1 := qaa2 (by omega) (by omega)
   cases hv : qbeq x <;> rw [hv] at h2 <;> replace h2 := Lib.hid h2 <;> unfold qbeq at hv
   ·repeat' (first | (with_reducible first | refine zA ?_ | refine qaac ?_ | refine qaab ?_ | refine zK ?_) | ((with_reducible first | refine qaal ?_ | refine qaah (by rw [hP]; exact qaa4) ?_); (try rw [hP]); simp -implicitDefEqProofs [qabz, *]) | ((with_reducible first | refine qaaf ?_ | refine qaag ?_); (try simp -implicitDefEqProofs [qabz, *])) | ((with_reducible refine qaam ?_); (try simp only [qaas, qaad, qaaj])) | ((with_reducible refine qaae rfl (fun h => ?_) (fun h => ?_)) <;> have h' := h <;> (try simp at h') <;> (try subst h')) | ((with_reducible refine qaaa (fun h => ?_) (fun h => ?_)) <;> have h' := h <;> (try simp at h') <;> (try subst h') <;> simp -implicitDefEqProofs [qabz, *]) | ((with_reducible refine qaai ?_ ?_); (first | omega | (unfold maxLen; omega)); simp -implicitDefEqProofs [qabz, *]) | (with_reducible first | refine zM hm ?_ | refine zN hm ?_ | refine zO hm ?_ | refine zP hm ?_) | ((with_reducible refine qaar [] hm ?_ ?_ ?_ ?_) <;> (try simp only [zT, puth, Nat.reduceEqDiff, reduceIte, Nat.reduceAdd])) | (with_reducible first | refine za ?_ ?_ | refine zb ?_ ?_ ?_ ?_ | refine zc ?_ ?_ ?_ ?_ | refine zd ?_ ?_ ?_ ?_ | refine qaap ?_ ?_ | refine qaan ?_ ?_) | (with_reducible first | exact qaak | exact qaao | exact qaat | exact qaau | exact Co.refl _ | exact CoL.refl _ | exact CoLL.refl _) | ((with_reducible first | refine zga ?_ | refine zgb ?_); rfl) | ((with_reducible refine zgc ?_); (first | (with_reducible rfl) | rfl | (simp; done))) | ((with_reducible first | refine zgd ?_ | refine zge ?_); (first | omega | (simp; done))) | (refine qaaw ⟨?_, ?_⟩ ?_ <;> omega) | (exact Co.refl _) | (exact CoL.refl _) | (exact CoLL.refl _) | (refine qaaz ?_; omega) | (refine qaay ?_; first | omega | (simp_all; done)) | (with_reducible first | refine qaav ?_ ?_ | refine qaaq ?_ ?_) | ((refine qaax hJ (i + 1) ?_ ?_ ?_; (with_reducible refine qaar [] hm ?_ ?_ ?_ ?_) <;> (try simp only [zT, puth, Nat.reduceEqDiff, reduceIte, Nat.reduceAdd]))) | fail)
    exact ⟨by omega, by rw [h2.out, Bool.false_or]⟩
   ·repeat' (first | (with_reducible first | refine zA ?_ | refine qaac ?_ | refine qaab ?_ | refine zK ?_) | ((with_reducible first | refine qaal ?_ | refine qaah (by rw [hP]; exact qaa4) ?_); (try rw [hP]); simp -implicitDefEqProofs [qabz, *]) | ((with_reducible first | refine qaaf ?_ | refine qaag ?_); (try simp -implicitDefEqProofs [qabz, *])) | ((with_reducible refine qaam ?_); (try simp only [qaas, qaad, qaaj])) | ((with_reducible refine qaae rfl (fun h => ?_) (fun h => ?_)) <;> have h' := h <;> (try simp at h') <;> (try subst h')) | ((with_reducible refine qaaa (fun h => ?_) (fun h => ?_)) <;> have h' := h <;> (try simp at h') <;> (try subst h') <;> simp -implicitDefEqProofs [qabz, *]) | ((with_reducible refine qaai ?_ ?_); (first | omega | (unfold maxLen; omega)); simp -implicitDefEqProofs [qabz, *]) | (with_reducible first | refine zM hm ?_ | refine zN hm ?_ | refine zO hm ?_ | refine zP hm ?_) | fail)
    rw [h2.out]; rfl
  ·obtain rfl : i = p.heads.length := by omega
   have hF : F = ((p.states.drop 0).any qaje || (p.acts.any gAct || (p.tabs.any gTab || p.nodes.any qalu))) := by rw [h2, List.drop_length]; rfl
   clear h2 h1 hi hbb hJ
   replace hF := Lib.hid hF
   repeat' (first | (with_reducible first | refine zA ?_ | refine qaac ?_ | refine qaab ?_ | refine zK ?_) | ((with_reducible first | refine qaal ?_ | refine qaah (by rw [hP]; exact qaa4) ?_); (try rw [hP]); simp -implicitDefEqProofs [*]) | ((with_reducible first | refine qaaf ?_ | refine qaag ?_); (try simp -implicitDefEqProofs [*])) | ((with_reducible refine qaam ?_); (try simp only [qaas, qaad, qaaj])) | ((with_reducible refine qaae rfl (fun h => ?_) (fun h => ?_)) <;> have h' := h <;> (try simp at h') <;> (try subst h')) | ((with_reducible refine qaaa (fun h => ?_) (fun h => ?_)) <;> have h' := h <;> (try simp at h') <;> (try subst h') <;> simp -implicitDefEqProofs [*]) | ((with_reducible refine qaai ?_ ?_); (first | omega | (unfold maxLen; omega)); simp -implicitDefEqProofs [*]) | (with_reducible first | refine zM hm ?_ | refine zN hm ?_ | refine zO hm ?_ | refine zP hm ?_) | fail)
   refine qaa0 (qabi (fun s (i : Nat) => s.turn [(4, .int .i64 i)] []) (fun i => i ≤ p.states.length ∧ F = ((p.states.drop i).any qaje || (p.acts.any gAct || (p.tabs.any gTab || p.nodes.any qalu)))) (fun i => p.states.length - i) 0 ?_ ⟨by simp, hF.out⟩ ?_)
   ·repeat' (first | ((with_reducible refine qaar [] hm ?_ ?_ ?_ ?_) <;> (try simp only [zT, puth, Nat.reduceEqDiff, reduceIte, Nat.reduceAdd])) | (with_reducible first | refine za ?_ ?_ | refine zb ?_ ?_ ?_ ?_ | refine zc ?_ ?_ ?_ ?_ | refine zd ?_ ?_ ?_ ?_ | refine qaap ?_ ?_ | refine qaan ?_ ?_) | (with_reducible first | exact qaak | exact qaao | exact qaat | exact qaau | exact Co.refl _ | exact CoL.refl _ | exact CoLL.refl _) | ((with_reducible first | refine zga ?_ | refine zgb ?_); rfl) | ((with_reducible refine zgc ?_); (first | (with_reducible rfl) | rfl | (simp; done))) | ((with_reducible first | refine zgd ?_ | refine zge ?_); (first | omega | (simp; done))) | (refine qaaw ⟨?_, ?_⟩ ?_ <;> omega) | (exact Co.refl _) | (exact CoL.refl _) | (exact CoLL.refl _) | (refine qaaz ?_; omega) | (refine qaay ?_; first | omega | (simp_all; done)) | (with_reducible first | refine qaav ?_ ?_ | refine qaaq ?_ ?_) | fail)
   rintro J hJ i ⟨h1, h2⟩
   have hbb := b3.out
   clear hF
   unfold qalo
   simp only [zT, puth, Nat.reduceEqDiff, reduceIte, Nat.reduceAdd] at h1 h2 ⊢
   rcases Nat.lt_or_ge i p.states.length with hi | hi
   ·rw [qadq _ hi] at h2
    generalize hxx : p.states[i] = x at h2
    have wi : IntKind.i64.wrap ((i : Int) + 1) = (i : Int) + 1 := qaa2 (by omega) (by omega)
    cases hv : qaje x <;> rw [hv] at h2 <;> replace h2 := Lib.hid h2 <;> unfold qaje at hv
    ·repeat' (first | (with_reducible first | refine zA ?_ | refine qaac ?_ | refine qaab ?_ | refine zK ?_) | ((with_reducible first | refine qaal ?_ | refine qaah (by rw [hP]; exact qaa4) ?_); (try rw [hP]); simp -implicitDefEqProofs [qabz, *]) | ((with_reducible first | refine qaaf ?_ | refine qaag ?_); (try simp -implicitDefEqProofs [qabz, *])) | ((with_reducible refine qaam ?_); (try simp only [qaas, qaad, qaaj])) | ((with_reducible refine qaae rfl (fun h => ?_) (fun h => ?_)) <;> have h' := h <;> (try simp at h') <;> (try subst h')) | ((with_reducible refine qaaa (fun h => ?_) (fun h => ?_)) <;> have h' := h <;> (try simp at h') <;> (try subst h') <;> simp -implicitDefEqProofs [qabz, *]) | ((with_reducible refine qaai ?_ ?_); (first | omega | (unfold maxLen; omega)); simp -implicitDefEqProofs [qabz, *]) | (with_reducible first | refine zM hm ?_ | refine zN hm ?_ | refine zO hm ?_ | refine zP hm ?_) | ((with_reducible refine qaar [] hm ?_ ?_ ?_ ?_) <;> (try simp only [zT, puth, Nat.reduceEqDiff, reduceIte, Nat.reduceAdd])) | (with_reducible first | refine za ?_ ?_ | refine zb ?_ ?_ ?_ ?_ | refine zc ?_ ?_ ?_ ?_ | refine zd ?_ ?_ ?_ ?_ | refine qaap ?_ ?_ | refine qaan ?_ ?_) | (with_reducible first | exact qaak | exact qaao | exact qaat | exact qaau | exact Co.refl _ | exact CoL.refl _ | exact CoLL.refl _) | ((with_reducible first | refine zga ?_ | refine zgb ?_); rfl) | ((with_reducible refine zgc ?_); (first | (with_reducible rfl) | rfl | (simp; done))) | ((with_reducible first | refine zgd ?_ | refine zge ?_); (first | omega | (simp; done))) | (refine qaaw ⟨?_, ?_⟩ ?_ <;> omega) | (exact Co.refl _) | (exact CoL.refl _) | (exact CoLL.refl _) | (refine qaaz ?_; omega) | (refine qaay ?_; first | omega | (simp_all; done)) | (with_reducible first | refine qaav ?_ ?_ | refine qaaq ?_ ?_) | ((refine qaax hJ (i + 1) ?_ ?_ ?_; (with_reducible refine qaar [] hm ?_ ?_ ?_ ?_) <;> (try simp only [zT, puth, Nat.reduceEqDiff, reduceIte, Nat.reduceAdd]))) | fail)
     exact ⟨by omega, by rw [h2.out, Bool.false_or]⟩
    ·repeat' (first | (with_reducible first | refine zA ?_ | refine qaac ?_ | refine qaab ?_ | refine zK ?_) | ((with_reducible first | refine qaal ?_ | refine qaah (by rw [hP]; exact qaa4) ?_); (try rw [hP]); simp -implicitDefEqProofs [qabz, *]) | ((with_reducible first | refine qaaf ?_ | refine qaag ?_); (try simp -implicitDefEqProofs [qabz, *])) | ((with_reducible refine qaam ?_); (try simp only [qaas, qaad, qaaj])) | ((with_reducible refine qaae rfl (fun h => ?_) (fun h => ?_)) <;> have h' := h <;> (try simp at h') <;> (try subst h')) | ((with_reducible refine qaaa (fun h => ?_) (fun h => ?_)) <;> have h' := h <;> (try simp at h') <;> (try subst h') <;> simp -implicitDefEqProofs [qabz, *]) | ((with_reducible refine qaai ?_ ?_); (first | omega | (unfold maxLen; omega)); simp -implicitDefEqProofs [qabz, *]) | (with_reducible first | refine zM hm ?_ | refine zN hm ?_ | refine zO hm ?_ | refine zP hm ?_) | fail)
     rw [h2.out]; rfl
   ·obtain rfl : i = p.states.length := by omega
    have hF : F = ((p.acts.drop 0).any gAct || (p.tabs.any gTab || p.nodes.any qalu)) := by rw [h2, List.drop_length]; rfl
    clear h2 h1 hi hbb hJ
    replace hF := Lib.hid hF
    repeat' (first | (with_reducible first | refine zA ?_ | refine qaac ?_ | refine qaab ?_ | refine zK ?_) | ((with_reducible first | refine qaal ?_ | refine qaah (by rw [hP]; exact qaa4) ?_); (try rw [hP]); simp -implicitDefEqProofs [*]) | ((with_reducible first | refine qaaf ?_ | refine qaag ?_); (try simp -implicitDefEqProofs [*])) | ((with_reducible refine qaam ?_); (try simp only [qaas, qaad, qaaj])) | ((with_reducible refine qaae rfl (fun h => ?_) (fun h => ?_)) <;> have h' := h <;> (try simp at h') <;> (try subst h')) | ((with_reducible refine qaaa (fun h => ?_) (fun h => ?_)) <;> have h' := h <;> (try simp at h') <;> (try subst h') <;> simp -implicitDefEqProofs [*]) | ((with_reducible refine qaai ?_ ?_); (first | omega | (unfold maxLen; omega)); simp -implicitDefEqProofs [*]) | (with_reducible first | refine zM hm ?_ | refine zN hm ?_ | refine zO hm ?_ | refine zP hm ?_) | fail)
    refine qaa0 (qabi (fun s (i : Nat) => s.turn [(5, .int .i64 i)] []) (fun i => i ≤ p.acts.length ∧ F = ((p.acts.drop i).any gAct || (p.tabs.any gTab || p.nodes.any qalu))) (fun i => p.acts.length - i) 0 ?_ ⟨by simp, hF.out⟩ ?_)
    ·repeat' (first | ((with_reducible refine qaar [] hm ?_ ?_ ?_ ?_) <;> (try simp only [zT, puth, Nat.reduceEqDiff, reduceIte, Nat.reduceAdd])) | (with_reducible first | refine za ?_ ?_ | refine zb ?_ ?_ ?_ ?_ | refine zc ?_ ?_ ?_ ?_ | refine zd ?_ ?_ ?_ ?_ | refine qaap ?_ ?_ | refine qaan ?_ ?_) | (with_reducible first | exact qaak | exact qaao | exact qaat | exact qaau | exact Co.refl _ | exact CoL.refl _ | exact CoLL.refl _) | ((with_reducible first | refine zga ?_ | refine zgb ?_); rfl) | ((with_reducible refine zgc ?_); (first | (with_reducible rfl) | rfl | (simp; done))) | ((with_reducible first | refine zgd ?_ | refine zge ?_); (first | omega | (simp; done))) | (refine qaaw ⟨?_, ?_⟩ ?_ <;> omega) | (exact Co.refl _) | (exact CoL.refl _) | (exact CoLL.refl _) | (refine qaaz ?_; omega) | (refine qaay ?_; first | omega | (simp_all; done)) | (with_reducible first | refine qaav ?_ ?_ | refine qaaq ?_ ?_) | fail)
    rintro J hJ i ⟨h1, h2⟩
    have hbb := b4.out
    have hJo := hJ
    clear hF
    unfold qalm
    simp only [zT, puth, Nat.reduceEqDiff, reduceIte, Nat.reduceAdd] at h1 h2 ⊢
    rcases Nat.lt_or_ge i p.acts.length with hi | hi
    ·rw [qadq _ hi] at h2
     generalize hxx : p.acts[i] = x at h2
     have wi : IntKind.i64.wrap ((i : Int) + 1) = (i : Int) + 1 := qaa2 (by omega) (by omega)
     unfold gAct at h2
     cases v1 : decide (500 < (x.w.length : Int)) <;> rw [v1] at h2
     rotate_left
     ·rw [Bool.true_or, Bool.true_or, Bool.true_or] at h2
      replace h2 := Lib.hid h2
      repeat' (first | (with_reducible first | refine zA ?_ | refine qaac ?_ | refine qaab ?_ | refine zK ?_) | ((with_reducible first | refine qaal ?_ | refine qaah (by rw [hP]; exact qaa4) ?_); (try rw [hP]); simp -implicitDefEqProofs [*]) | ((with_reducible first | refine qaaf ?_ | refine qaag ?_); (try simp -implicitDefEqProofs [*])) | ((with_reducible refine qaam ?_); (try simp only [qaas, qaad, qaaj])) | ((with_reducible refine qaae rfl (fun h => ?_) (fun h => ?_)) <;> have h' := h <;> (try simp at h') <;> (try subst h')) | ((with_reducible refine qaaa (fun h => ?_) (fun h => ?_)) <;> have h' := h <;> (try simp at h') <;> (try subst h') <;> simp -implicitDefEqProofs [*]) | ((with_reducible refine qaai ?_ ?_); (first | omega | (unfold maxLen; omega)); simp -implicitDefEqProofs [*]) | (with_reducible first | refine zM hm ?_ | refine zN hm ?_ | refine zO hm ?_ | refine zP hm ?_) | fail)
      rw [h2.out]; rfl
     cases v2 : decide (50 < (x.ops.length : Int)) <;> rw [v2] at h2
     rotate_left
     ·rw [Bool.or_true, Bool.true_or, Bool.true_or] at h2
      replace h2 := Lib.hid h2
      repeat' (first | (with_reducible first | refine zA ?_ | refine qaac ?_ | refine qaab ?_ | refine zK ?_) | ((with_reducible first | refine qaal ?_ | refine qaah (by rw [hP]; exact qaa4) ?_); (try rw [hP]); simp -implicitDefEqProofs [*]) | ((with_reducible first | refine qaaf ?_ | refine qaag ?_); (try simp -implicitDefEqProofs [*])) | ((with_reducible refine qaam ?_); (try simp only [qaas, qaad, qaaj])) | ((with_reducible refine qaae rfl (fun h => ?_) (fun h => ?_)) <;> have h' := h <;> (try simp at h') <;> (try subst h')) | ((with_reducible refine qaaa (fun h => ?_) (fun h => ?_)) <;> have h' := h <;> (try simp at h') <;> (try subst h') <;> simp -implicitDefEqProofs [*]) | ((with_reducible refine qaai ?_ ?_); (first | omega | (unfold maxLen; omega)); simp -implicitDefEqProofs [*]) | (with_reducible first | refine zM hm ?_ | refine zN hm ?_ | refine zO hm ?_ | refine zP hm ?_) | fail)
      rw [h2.out]; rfl
     have h3 : F = ((x.ops.drop 0).any gOp || ((p.acts.drop (i + 1)).any gAct || (p.tabs.any gTab || p.nodes.any qalu))) := by rw [h2, Bool.or_assoc, Bool.or_assoc]; rfl
     have b2 := of_decide_eq_false v2
     replace h2 := Lib.hid h2
     replace h3 := Lib.hid h3
     replace b2 := Lib.hid b2
     repeat' (first | (with_reducible first | refine zA ?_ | refine qaac ?_ | refine qaab ?_ | refine zK ?_) | ((with_reducible first | refine qaal ?_ | refine qaah (by rw [hP]; exact qaa4) ?_); (try rw [hP]); simp -implicitDefEqProofs [*]) | ((with_reducible first | refine qaaf ?_ | refine qaag ?_); (try simp -implicitDefEqProofs [*])) | ((with_reducible refine qaam ?_); (try simp only [qaas, qaad, qaaj])) | ((with_reducible refine qaae rfl (fun h => ?_) (fun h => ?_)) <;> have h' := h <;> (try simp at h') <;> (try subst h')) | ((with_reducible refine qaaa (fun h => ?_) (fun h => ?_)) <;> have h' := h <;> (try simp at h') <;> (try subst h') <;> simp -implicitDefEqProofs [*]) | ((with_reducible refine qaai ?_ ?_); (first | omega | (unfold maxLen; omega)); simp -implicitDefEqProofs [*]) | (with_reducible first | refine zM hm ?_ | refine zN hm ?_ | refine zO hm ?_ | refine zP hm ?_) | fail)
     clear v1 v2
     refine qaa0 (qabi (fun s (k : Nat) => s.turn [(6, .int .i64 k)] []) (fun k => k ≤ x.ops.length ∧ F = ((x.ops.drop k).any gOp || ((p.acts.drop (i + 1)).any gAct || (p.tabs.any gTab || p.nodes.any qalu)))) (fun k => x.ops.length - k) 0 ?_ ⟨by simp, h3.out⟩ ?_)
     ·repeat' (first | ((with_reducible refine qaar [] hm ?_ ?_ ?_ ?_) <;> (try simp only [zT, puth, Nat.reduceEqDiff, reduceIte, Nat.reduceAdd])) | (with_reducible first | refine za ?_ ?_ | refine zb ?_ ?_ ?_ ?_ | refine zc ?_ ?_ ?_ ?_ | refine zd ?_ ?_ ?_ ?_ | refine qaap ?_ ?_ | refine qaan ?_ ?_) | (with_reducible first | exact qaak | exact qaao | exact qaat | exact qaau | exact Co.refl _ | exact CoL.refl _ | exact CoLL.refl _) | ((with_reducible first | refine zga ?_ | refine zgb ?_); rfl) | ((with_reducible refine zgc ?_); (first | (with_reducible rfl) | rfl | (simp; done))) | ((with_reducible first | refine zgd ?_ | refine zge ?_); (first | omega | (simp; done))) | (refine qaaw ⟨?_, ?_⟩ ?_ <;> omega) | (exact Co.refl _) | (exact CoL.refl _) | (exact CoLL.refl _) | (refine qaaz ?_; omega) | (refine qaay ?_; first | omega | (simp_all; done)) | (with_reducible first | refine qaav ?_ ?_ | refine qaaq ?_ ?_) | fail)
     rintro J hJ k ⟨h4, h5⟩
     have hb2 := b2.out
     unfold qaln
     simp only [zT, puth, Nat.reduceEqDiff, reduceIte, Nat.reduceAdd] at h4 h5 ⊢
     rcases Nat.lt_or_ge k x.ops.length with hk | hk
     ·rw [qadq _ hk] at h5
      generalize hyy : x.ops[k] = y at h5
      have wk1 : IntKind.i64.wrap ((k : Int) + 1) = (k : Int) + 1 := qaa2 (by omega) (by omega)
      cases hv : gOp y <;> rw [hv] at h5 <;> replace h5 := Lib.hid h5 <;> unfold gOp at hv
      ·repeat' (first | (with_reducible first | refine zA ?_ | refine qaac ?_ | refine qaab ?_ | refine zK ?_) | ((with_reducible first | refine qaal ?_ | refine qaah (by rw [hP]; exact qaa4) ?_); (try rw [hP]); simp -implicitDefEqProofs [qabz, *]) | ((with_reducible first | refine qaaf ?_ | refine qaag ?_); (try simp -implicitDefEqProofs [qabz, *])) | ((with_reducible refine qaam ?_); (try simp only [qaas, qaad, qaaj])) | ((with_reducible refine qaae rfl (fun h => ?_) (fun h => ?_)) <;> have h' := h <;> (try simp at h') <;> (try subst h')) | ((with_reducible refine qaaa (fun h => ?_) (fun h => ?_)) <;> have h' := h <;> (try simp at h') <;> (try subst h') <;> simp -implicitDefEqProofs [qabz, *]) | ((with_reducible refine qaai ?_ ?_); (first | omega | (unfold maxLen; omega)); simp -implicitDefEqProofs [qabz, *]) | (with_reducible first | refine zM hm ?_ | refine zN hm ?_ | refine zO hm ?_ | refine zP hm ?_) | ((with_reducible refine qaar [] hm ?_ ?_ ?_ ?_) <;> (try simp only [zT, puth, Nat.reduceEqDiff, reduceIte, Nat.reduceAdd])) | (with_reducible first | refine za ?_ ?_ | refine zb ?_ ?_ ?_ ?_ | refine zc ?_ ?_ ?_ ?_ | refine zd ?_ ?_ ?_ ?_ | refine qaap ?_ ?_ | refine qaan ?_ ?_) | (with_reducible first | exact qaak | exact qaao | exact qaat | exact qaau | exact Co.refl _ | exact CoL.refl _ | exact CoLL.refl _) | ((with_reducible first | refine zga ?_ | refine zgb ?_); rfl) | ((with_reducible refine zgc ?_); (first | (with_reducible rfl) | rfl | (simp; done))) | ((with_reducible first | refine zgd ?_ | refine zge ?_); (first | omega | (simp; done))) | (refine qaaw ⟨?_, ?_⟩ ?_ <;> omega) | (exact Co.refl _) | (exact CoL.refl _) | (exact CoLL.refl _) | (refine qaaz ?_; omega) | (refine qaay ?_; first | omega | (simp_all; done)) | (with_reducible first | refine qaav ?_ ?_ | refine qaaq ?_ ?_) | ((refine qaax hJ (k + 1) ?_ ?_ ?_; (with_reducible refine qaar [] hm ?_ ?_ ?_ ?_) <;> (try simp only [zT, puth, Nat.reduceEqDiff, reduceIte, Nat.reduceAdd]))) | fail)
       exact ⟨by omega, by rw [h5.out, Bool.false_or]⟩
      ·repeat' (first | (with_reducible first | refine zA ?_ | refine qaac ?_ | refine qaab ?_ | refine zK ?_) | ((with_reducible first | refine qaal ?_ | refine qaah (by rw [hP]; exact qaa4) ?_); (try rw [hP]); simp -implicitDefEqProofs [qabz, *]) | ((with_reducible first | refine qaaf ?_ | refine qaag ?_); (try simp -implicitDefEqProofs [qabz, *])) | ((with_reducible refine qaam ?_); (try simp only [qaas, qaad, qaaj])) | ((with_reducible refine qaae rfl (fun h => ?_) (fun h => ?_)) <;> have h' := h <;> (try simp at h') <;> (try subst h')) | ((with_reducible refine qaaa (fun h => ?_) (fun h => ?_)) <;> have h' := h <;> (try simp at h') <;> (try subst h') <;> simp -implicitDefEqProofs [qabz, *]) | ((with_reducible refine qaai ?_ ?_); (first | omega | (unfold maxLen; omega)); simp -implicitDefEqProofs [qabz, *]) | (with_reducible first | refine zM hm ?_ | refine zN hm ?_ | refine zO hm ?_ | refine zP hm ?_) | fail)
       rw [h5.out]; rfl
     ·obtain rfl : k = x.ops.length := by omega
      rw [List.drop_length] at h5
      replace h5 := Lib.hid h5
      repeat' (first | (with_reducible first | refine zA ?_ | refine qaac ?_ | refine qaab ?_ | refine zK ?_) | ((with_reducible first | refine qaal ?_ | refine qaah (by rw [hP]; exact qaa4) ?_); (try rw [hP]); simp -implicitDefEqProofs [*]) | ((with_reducible first | refine qaaf ?_ | refine qaag ?_); (try simp -implicitDefEqProofs [*])) | ((with_reducible refine qaam ?_); (try simp only [qaas, qaad, qaaj])) | ((with_reducible refine qaae rfl (fun h => ?_) (fun h => ?_)) <;> have h' := h <;> (try simp at h') <;> (try subst h')) | ((with_reducible refine qaaa (fun h => ?_) (fun h => ?_)) <;> have h' := h <;> (try simp at h') <;> (try subst h') <;> simp -implicitDefEqProofs [*]) | ((with_reducible refine qaai ?_ ?_); (first | omega | (unfold maxLen; omega)); simp -implicitDefEqProofs [*]) | (with_reducible first | refine zM hm ?_ | refine zN hm ?_ | refine zO hm ?_ | refine zP hm ?_) | ((with_reducible refine qaar [] hm ?_ ?_ ?_ ?_) <;> (try simp only [zT, puth, Nat.reduceEqDiff, reduceIte, Nat.reduceAdd])) | (with_reducible first | refine za ?_ ?_ | refine zb ?_ ?_ ?_ ?_ | refine zc ?_ ?_ ?_ ?_ | refine zd ?_ ?_ ?_ ?_ | refine qaap ?_ ?_ | refine qaan ?_ ?_) | (with_reducible first | exact qaak | exact qaao | exact qaat | exact qaau | exact Co.refl _ | exact CoL.refl _ | exact CoLL.refl _) | ((with_reducible first | refine zga ?_ | refine zgb ?_); rfl) | ((with_reducible refine zgc ?_); (first | (with_reducible rfl) | rfl | (simp; done))) | ((with_reducible first | refine zgd ?_ | refine zge ?_); (first | omega | (simp; done))) | (refine qaaw ⟨?_, ?_⟩ ?_ <;> omega) | (exact Co.refl _) | (exact CoL.refl _) | (exact CoLL.refl _) | (refine qaaz ?_; omega) | (refine qaay ?_; first | omega | (simp_all; done)) | (with_reducible first | refine qaav ?_ ?_ | refine qaaq ?_ ?_) | ((refine qaax hJo (i + 1) ?_ ?_ ?_; (with_reducible refine qaar [] hm ?_ ?_ ?_ ?_) <;> (try simp only [zT, puth, Nat.reduceEqDiff, reduceIte, Nat.reduceAdd]))) | fail)
      exact ⟨by omega, by rw [h5.out]; rfl⟩
    ·obtain rfl : i = p.acts.length := by omega
     have hF : F = ((p.tabs.drop 0).any gTab || p.nodes.any qalu) := by rw [h2, List.drop_length]; rfl
     clear h2 h1 hi hbb hJ hJo
     replace hF := Lib.hid hF
     repeat' (first | (with_reducible first | refine zA ?_ | refine qaac ?_ | refine qaab ?_ | refine zK ?_) | ((with_reducible first | refine qaal ?_ | refine qaah (by rw [hP]; exact qaa4) ?_); (try rw [hP]); simp -implicitDefEqProofs [*]) | ((with_reducible first | refine qaaf ?_ | refine qaag ?_); (try simp -implicitDefEqProofs [*])) | ((with_reducible refine qaam ?_); (try simp only [qaas, qaad, qaaj])) | ((with_reducible refine qaae rfl (fun h => ?_) (fun h => ?_)) <;> have h' := h <;> (try simp at h') <;> (try subst h')) | ((with_reducible refine qaaa (fun h => ?_) (fun h => ?_)) <;> have h' := h <;> (try simp at h') <;> (try subst h') <;> simp -implicitDefEqProofs [*]) | ((with_reducible refine qaai ?_ ?_); (first | omega | (unfold maxLen; omega)); simp -implicitDefEqProofs [*]) | (with_reducible first | refine zM hm ?_ | refine zN hm ?_ | refine zO hm ?_ | refine zP hm ?_) | fail)
     refine qaa0 (qabi (fun s (i : Nat) => s.turn [(7, .int .i64 i)] []) (fun i => i ≤ p.tabs.length ∧ F = ((p.tabs.drop i).any gTab || p.nodes.any qalu)) (fun i => p.tabs.length - i) 0 ?_ ⟨by simp, hF.out⟩ ?_)
     ·repeat' (first | ((with_reducible refine qaar [] hm ?_ ?_ ?_ ?_) <;> (try simp only [zT, puth, Nat.reduceEqDiff, reduceIte, Nat.reduceAdd])) | (with_reducible first | refine za ?_ ?_ | refine zb ?_ ?_ ?_ ?_ | refine zc ?_ ?_ ?_ ?_ | refine zd ?_ ?_ ?_ ?_ | refine qaap ?_ ?_ | refine qaan ?_ ?_) | (with_reducible first | exact qaak | exact qaao | exact qaat | exact qaau | exact Co.refl _ | exact CoL.refl _ | exact CoLL.refl _) | ((with_reducible first | refine zga ?_ | refine zgb ?_); rfl) | ((with_reducible refine zgc ?_); (first | (with_reducible rfl) | rfl | (simp; done))) | ((with_reducible first | refine zgd ?_ | refine zge ?_); (first | omega | (simp; done))) | (refine qaaw ⟨?_, ?_⟩ ?_ <;> omega) | (exact Co.refl _) | (exact CoL.refl _) | (exact CoLL.refl _) | (refine qaaz ?_; omega) | (refine qaay ?_; first | omega | (simp_all; done)) | (with_reducible first | refine qaav ?_ ?_ | refine qaaq ?_ ?_) | fail)
     rintro J hJ i ⟨h1, h2⟩
     have hbb := b5.out
     clear hF
     unfold qall
     simp only [zT, puth, Nat.reduceEqDiff, reduceIte, Nat.reduceAdd] at h1 h2 ⊢
     rcases Nat.lt_or_ge i p.tabs.length with hi | hi
     ·rw [qadq _ hi] at h2
      generalize hxx : p.tabs[i] = x at h2
      have wi : IntKind.i64.wrap ((i : Int) + 1) = (i : Int) + 1 := qaa2 (by omega) (by omega)
      cases hv : gTab x <;> rw [hv] at h2 <;> replace h2 := Lib.hid h2
      ·unfold gTab at hv
       simp only [Bool.or_eq_false_iff] at hv
       obtain ⟨⟨v1, v2⟩, v3⟩ := hv
       repeat' (first | (with_reducible first | refine zA ?_ | refine qaac ?_ | refine qaab ?_ | refine zK ?_) | ((with_reducible first | refine qaal ?_ | refine qaah (by rw [hP]; exact qaa4) ?_); (try rw [hP]); simp -implicitDefEqProofs [*]) | ((with_reducible first | refine qaaf ?_ | refine qaag ?_); (try simp -implicitDefEqProofs [*])) | ((with_reducible refine qaam ?_); (try simp only [qaas, qaad, qaaj])) | ((with_reducible refine qaae rfl (fun h => ?_) (fun h => ?_)) <;> have h' := h <;> (try simp at h') <;> (try subst h')) | ((with_reducible refine qaaa (fun h => ?_) (fun h => ?_)) <;> have h' := h <;> (try simp at h') <;> (try subst h') <;> simp -implicitDefEqProofs [*]) | ((with_reducible refine qaai ?_ ?_); (first | omega | (unfold maxLen; omega)); simp -implicitDefEqProofs [*]) | (with_reducible first | refine zM hm ?_ | refine zN hm ?_ | refine zO hm ?_ | refine zP hm ?_) | ((with_reducible refine qaar [] hm ?_ ?_ ?_ ?_) <;> (try simp only [zT, puth, Nat.reduceEqDiff, reduceIte, Nat.reduceAdd])) | (with_reducible first | refine za ?_ ?_ | refine zb ?_ ?_ ?_ ?_ | refine zc ?_ ?_ ?_ ?_ | refine zd ?_ ?_ ?_ ?_ | refine qaap ?_ ?_ | refine qaan ?_ ?_) | (with_reducible first | exact qaak | exact qaao | exact qaat | exact qaau | exact Co.refl _ | exact CoL.refl _ | exact CoLL.refl _) | ((with_reducible first | refine zga ?_ | refine zgb ?_); rfl) | ((with_reducible refine zgc ?_); (first | (with_reducible rfl) | rfl | (simp; done))) | ((with_reducible first | refine zgd ?_ | refine zge ?_); (first | omega | (simp; done))) | (refine qaaw ⟨?_, ?_⟩ ?_ <;> omega) | (exact Co.refl _) | (exact CoL.refl _) | (exact CoLL.refl _) | (refine qaaz ?_; omega) | (refine qaay ?_; first | omega | (simp_all; done)) | (with_reducible first | refine qaav ?_ ?_ | refine qaaq ?_ ?_) | ((refine qaax hJ (i + 1) ?_ ?_ ?_; (with_reducible refine qaar [] hm ?_ ?_ ?_ ?_) <;> (try simp only [zT, puth, Nat.reduceEqDiff, reduceIte, Nat.reduceAdd]))) | fail)
       exact ⟨by omega, by rw [h2.out, Bool.false_or]⟩
      ·replace hv := Lib.hid hv
       repeat' (first | (with_reducible first | refine zA ?_ | refine qaac ?_ | refine qaab ?_ | refine zK ?_) | ((with_reducible first | refine qaal ?_ | refine qaah (by rw [hP]; exact qaa4) ?_); (try rw [hP]); simp -implicitDefEqProofs [*]) | ((with_reducible first | refine qaaf ?_ | refine qaag ?_); (try simp -implicitDefEqProofs [*])) | ((with_reducible refine qaam ?_); (try simp only [qaas, qaad, qaaj])) | ((with_reducible refine qaae rfl (fun h => ?_) (fun h => ?_)) <;> have h' := h <;> (try simp at h') <;> (try subst h')) | ((with_reducible refine qaaa (fun h => ?_) (fun h => ?_)) <;> have h' := h <;> (try simp at h') <;> (try subst h') <;> simp -implicitDefEqProofs [*]) | ((with_reducible refine qaai ?_ ?_); (first | omega | (unfold maxLen; omega)); simp -implicitDefEqProofs [*]) | (with_reducible first | refine zM hm ?_ | refine zN hm ?_ | refine zO hm ?_ | refine zP hm ?_) | ((with_reducible refine qaar [] hm ?_ ?_ ?_ ?_) <;> (try simp only [zT, puth, Nat.reduceEqDiff, reduceIte, Nat.reduceAdd])) | (with_reducible first | refine za ?_ ?_ | refine zb ?_ ?_ ?_ ?_ | refine zc ?_ ?_ ?_ ?_ | refine zd ?_ ?_ ?_ ?_ | refine qaap ?_ ?_ | refine qaan ?_ ?_) | (with_reducible first | exact qaak | exact qaao | exact qaat | exact qaau | exact Co.refl _ | exact CoL.refl _ | exact CoLL.refl _) | ((with_reducible first | refine zga ?_ | refine zgb ?_); rfl) | ((with_reducible refine zgc ?_); (first | (with_reducible rfl) | rfl | (simp; done))) | ((with_reducible first | refine zgd ?_ | refine zge ?_); (first | omega | (simp; done))) | (refine qaaw ⟨?_, ?_⟩ ?_ <;> omega) | (exact Co.refl _) | (exact CoL.refl _) | (exact CoLL.refl _) | (refine qaaz ?_; omega) | (refine qaay ?_; first | omega | (simp_all; done)) | (with_reducible first | refine qaav ?_ ?_ | refine qaaq ?_ ?_) | ((refine qaax hJ (i + 1) ?_ ?_ ?_; (with_reducible refine qaar [] hm ?_ ?_ ?_ ?_) <;> (try simp only [zT, puth, Nat.reduceEqDiff, reduceIte, Nat.reduceAdd]))) | fail)
       all_goals (first | (rw [h2.out]; rfl) | (exfalso; have q := hv.out; unfold gTab at q; simp only [Bool.or_eq_true, decide_eq_true_eq] at q; omega))
     ·obtain rfl : i = p.tabs.length := by omega
      have hF : F = ((p.nodes.drop 0).any qalu || false) := by rw [h2, List.drop_length]; simp
      clear h2 h1 hi hbb hJ
      replace hF := Lib.hid hF
      repeat' (first | (with_reducible first | refine zA ?_ | refine qaac ?_ | refine qaab ?_ | refine zK ?_) | ((with_reducible first | refine qaal ?_ | refine qaah (by rw [hP]; exact qaa4) ?_); (try rw [hP]); simp -implicitDefEqProofs [*]) | ((with_reducible first | refine qaaf ?_ | refine qaag ?_); (try simp -implicitDefEqProofs [*])) | ((with_reducible refine qaam ?_); (try simp only [qaas, qaad, qaaj])) | ((with_reducible refine qaae rfl (fun h => ?_) (fun h => ?_)) <;> have h' := h <;> (try simp at h') <;> (try subst h')) | ((with_reducible refine qaaa (fun h => ?_) (fun h => ?_)) <;> have h' := h <;> (try simp at h') <;> (try subst h') <;> simp -implicitDefEqProofs [*]) | ((with_reducible refine qaai ?_ ?_); (first | omega | (unfold maxLen; omega)); simp -implicitDefEqProofs [*]) | (with_reducible first | refine zM hm ?_ | refine zN hm ?_ | refine zO hm ?_ | refine zP hm ?_) | fail)
      refine qaa0 (qabi (fun s (i : Nat) => s.turn [(8, .int .i64 i)] []) (fun i => i ≤ p.nodes.length ∧ F = ((p.nodes.drop i).any qalu || false)) (fun i => p.nodes.length - i) 0 ?_ ⟨by simp, hF.out⟩ ?_)
      ·repeat' (first | ((with_reducible refine qaar [] hm ?_ ?_ ?_ ?_) <;> (try simp only [zT, puth, Nat.reduceEqDiff, reduceIte, Nat.reduceAdd])) | (with_reducible first | refine za ?_ ?_ | refine zb ?_ ?_ ?_ ?_ | refine zc ?_ ?_ ?_ ?_ | refine zd ?_ ?_ ?_ ?_ | refine qaap ?_ ?_ | refine qaan ?_ ?_) | (with_reducible first | exact qaak | exact qaao | exact qaat | exact qaau | exact Co.refl _ | exact CoL.refl _ | exact CoLL.refl _) | ((with_reducible first | refine zga ?_ | refine zgb ?_); rfl) | ((with_reducible refine zgc ?_); (first | (with_reducible rfl) | rfl | (simp; done))) | ((with_reducible first | refine zgd ?_ | refine zge ?_); (first | omega | (simp; done))) | (refine qaaw ⟨?_, ?_⟩ ?_ <;> omega) | (exact Co.refl _) | (exact CoL.refl _) | (exact CoLL.refl _) | (refine qaaz ?_; omega) | (refine qaay ?_; first | omega | (simp_all; done)) | (with_reducible first | refine qaav ?_ ?_ | refine qaaq ?_ ?_) | fail)
      rintro J hJ i ⟨h1, h2⟩
      have hbb := b6.out
      clear hF
      unfold qalk
      simp only [zT, puth, Nat.reduceEqDiff, reduceIte, Nat.reduceAdd] at h1 h2 ⊢
      rcases Nat.lt_or_ge i p.nodes.length with hi | hi
      ·rw [qadq _ hi] at h2
       generalize hxx : p.nodes[i] = x at h2
       have wi : IntKind.i64.wrap ((i : Int) + 1) = (i : Int) + 1 := qaa2 (by omega) (by omega)
       cases hv : qalu x <;> rw [hv] at h2 <;> replace h2 := Lib.hid h2 <;> unfold qalu at hv
       ·repeat' (first | (with_reducible first | refine zA ?_ | refine qaac ?_ | refine qaab ?_ | refine zK ?_) | ((with_reducible first | refine qaal ?_ | refine qaah (by rw [hP]; exact qaa4) ?_); (try rw [hP]); simp -implicitDefEqProofs [qabz, *]) | ((with_reducible first | refine qaaf ?_ | refine qaag ?_); (try simp -implicitDefEqProofs [qabz, *])) | ((with_reducible refine qaam ?_); (try simp only [qaas, qaad, qaaj])) | ((with_reducible refine qaae rfl (fun h => ?_) (fun h => ?_)) <;> have h' := h <;> (try simp at h') <;> (try subst h')) | ((with_reducible refine qaaa (fun h => ?_) (fun h => ?_)) <;> have h' := h <;> (try simp at h') <;> (try subst h') <;> simp -implicitDefEqProofs [qabz, *]) | ((with_reducible refine qaai ?_ ?_); (first | omega | (unfold maxLen; omega)); simp -implicitDefEqProofs [qabz, *]) | (with_reducible first | refine zM hm ?_ | refine zN hm ?_ | refine zO hm ?_ | refine zP hm ?_) | ((with_reducible refine qaar [] hm ?_ ?_ ?_ ?_) <;> (try simp only [zT, puth, Nat.reduceEqDiff, reduceIte, Nat.reduceAdd])) | (with_reducible first | refine za ?_ ?_ | refine zb ?_ ?_ ?_ ?_ | refine zc ?_ ?_ ?_ ?_ | refine zd ?_ ?_ ?_ ?_ | refine qaap ?_ ?_ | refine qaan ?_ ?_) | (with_reducible first | exact qaak | exact qaao | exact qaat | exact qaau | exact Co.refl _ | exact CoL.refl _ | exact CoLL.refl _) | ((with_reducible first | refine zga ?_ | refine zgb ?_); rfl) | ((with_reducible refine zgc ?_); (first | (with_reducible rfl) | rfl | (simp; done))) | ((with_reducible first | refine zgd ?_ | refine zge ?_); (first | omega | (simp; done))) | (refine qaaw ⟨?_, ?_⟩ ?_ <;> omega) | (exact Co.refl _) | (exact CoL.refl _) | (exact CoLL.refl _) | (refine qaaz ?_; omega) | (refine qaay ?_; first | omega | (simp_all; done)) | (with_reducible first | refine qaav ?_ ?_ | refine qaaq ?_ ?_) | ((refine qaax hJ (i + 1) ?_ ?_ ?_; (with_reducible refine qaar [] hm ?_ ?_ ?_ ?_) <;> (try simp only [zT, puth, Nat.reduceEqDiff, reduceIte, Nat.reduceAdd]))) | fail)
        exact ⟨by omega, by rw [h2.out, Bool.false_or]⟩
       ·repeat' (first | (with_reducible first | refine zA ?_ | refine qaac ?_ | refine qaab ?_ | refine zK ?_) | ((with_reducible first | refine qaal ?_ | refine qaah (by rw [hP]; exact qaa4) ?_); (try rw [hP]); simp -implicitDefEqProofs [qabz, *]) | ((with_reducible first | refine qaaf ?_ | refine qaag ?_); (try simp -implicitDefEqProofs [qabz, *])) | ((with_reducible refine qaam ?_); (try simp only [qaas, qaad, qaaj])) | ((with_reducible refine qaae rfl (fun h => ?_) (fun h => ?_)) <;> have h' := h <;> (try simp at h') <;> (try subst h')) | ((with_reducible refine qaaa (fun h => ?_) (fun h => ?_)) <;> have h' := h <;> (try simp at h') <;> (try subst h') <;> simp -implicitDefEqProofs [qabz, *]) | ((with_reducible refine qaai ?_ ?_); (first | omega | (unfold maxLen; omega)); simp -implicitDefEqProofs [qabz, *]) | (with_reducible first | refine zM hm ?_ | refine zN hm ?_ | refine zO hm ?_ | refine zP hm ?_) | fail)
        rw [h2.out]; rfl
      ·obtain rfl : i = p.nodes.length := by omega
       rw [List.drop_length] at h2
       replace h2 := Lib.hid h2
       repeat' (first | (with_reducible first | refine zA ?_ | refine qaac ?_ | refine qaab ?_ | refine zK ?_) | ((with_reducible first | refine qaal ?_ | refine qaah (by rw [hP]; exact qaa4) ?_); (try rw [hP]); simp -implicitDefEqProofs [*]) | ((with_reducible first | refine qaaf ?_ | refine qaag ?_); (try simp -implicitDefEqProofs [*])) | ((with_reducible refine qaam ?_); (try simp only [qaas, qaad, qaaj])) | ((with_reducible refine qaae rfl (fun h => ?_) (fun h => ?_)) <;> have h' := h <;> (try simp at h') <;> (try subst h')) | ((with_reducible refine qaaa (fun h => ?_) (fun h => ?_)) <;> have h' := h <;> (try simp at h') <;> (try subst h') <;> simp -implicitDefEqProofs [*]) | ((with_reducible refine qaai ?_ ?_); (first | omega | (unfold maxLen; omega)); simp -implicitDefEqProofs [*]) | (with_reducible first | refine zM hm ?_ | refine zN hm ?_ | refine zO hm ?_ | refine zP hm ?_) | fail)
       rw [h2.out]; rfl
 ·have hz : qaiq p = true := by unfold qaiq; rw [hT]; rfl
  rw [hz]
  replace hT := Lib.hid hT
  repeat' (first | (with_reducible first | refine zA ?_ | refine qaac ?_ | refine qaab ?_ | refine zK ?_) | ((with_reducible first | refine qaal ?_ | refine qaah (by rw [hP]; exact qaa4) ?_); (try rw [hP]); simp -implicitDefEqProofs [*]) | ((with_reducible first | refine qaaf ?_ | refine qaag ?_); (try simp -implicitDefEqProofs [*])) | ((with_reducible refine qaam ?_); (try simp only [qaas, qaad, qaaj])) | ((with_reducible refine qaae rfl (fun h => ?_) (fun h => ?_)) <;> have h' := h <;> (try simp at h') <;> (try subst h')) | ((with_reducible refine qaaa (fun h => ?_) (fun h => ?_)) <;> have h' := h <;> (try simp at h') <;> (try subst h') <;> simp -implicitDefEqProofs [*]) | ((with_reducible refine qaai ?_ ?_); (first | omega | (unfold maxLen; omega)); simp -implicitDefEqProofs [*]) | (with_reducible first | refine zM hm ?_ | refine zN hm ?_ | refine zO hm ?_ | refine zP hm ?_) | fail)
  all_goals (first | rfl | (exfalso; have q := hT.out; unfold gTop at q; simp only [Bool.or_eq_true, decide_eq_true_eq] at q; omega))
end Go.Proofs.Ytnfjldobjgdiaaa
namespace Go.Proofs.Ytnfjldobjgdiaaa
set_option linter.all false
open Go.RowKit
attribute [local simp] qabs qabr qaa5 qabc qaa6 qabb qabp qabq qaa1 qab3 SOp.run SX.ev putd puts argS upds SOp.touch SSt.keep SSt.skip gets geth puth delh idOf SV.cells? setL qadd qade sbin eq0 eq1 eqL qadc qacd qace qaas qabt qaad qabu qab4 qaaj qaa3 FrzOk qabl qabf qabj qabk qaa7 qabe qab0 qabg qaa9 qabm qaa8 frzS frzH frz frz1 frz0 SlotsM ObjsM ObjM rn ren ren1 ren0 qab9 qaay qaaz qab8 qab1 qacq qacp CoL qabn qacs dels adds idsH qacf
attribute [local simp] qad0 refc qafc qae1 qacn opc actc tabc qaeg qac1 nums
theorem coL_at : ∀ {xs ys : List SV} {j : Nat} {y : SV}, CoL xs ys → ys[j]? = some y → ∃ x, xs[j]? = some x ∧ Co x y
 | x :: xs, y :: ys, 0, _, h, hy => by cases hy; exact ⟨x, rfl, h.1⟩
 | x :: xs, y :: ys, j + 1, _, h, hy => coL_at (xs := xs) (ys := ys) (j := j) h.2 (by simpa using hy)
 | [], [], _, _, _, hy => by simp at hy
 | [], _ :: _, _, _, h, _ => h.elim
 | _ :: _, [], _, _, h, _ => h.elim
theorem qbb1 : ∀ {xs ys : List (List SV)} {j : Nat} {y : List SV}, CoLL xs ys → ys[j]? = some y → ∃ x, xs[j]? = some x ∧ CoL x y
 | x :: xs, y :: ys, 0, _, h, hy => by cases hy; exact ⟨x, rfl, h.1⟩
 | x :: xs, y :: ys, j + 1, _, h, hy => qbb1 (xs := xs) (ys := ys) (j := j) h.2 (by simpa using hy)
 | [], [], _, _, _, hy => by simp at hy
 | [], _ :: _, _, _, h, _ => h.elim
 | _ :: _, [], _, _, h, _ => h.elim
theorem qbdh {z : Nat} {xs ys : List (List SV)} (h : CoLL xs ys) : Co (.view z xs) (.view z ys) := fun w A ρ v hv => by
 cases hv with
 | view0 hc ha =>
  have : ys = [] := List.eq_nil_of_length_eq_zero (by rw [← h.length]; rfl)
  subst this; exact .view0 hc ha
 | view cv hn hc hm hA hb hs h1 h2 ho =>
  refine .view cv (by rw [← h.length]; exact hn) hc hm hA hb (h.sizes hs) (fun i e j x he hx => ?_) (fun i e j x he hx => ?_) (fun i e j x he hx => ?_)
  all_goals
   obtain ⟨e', he', hl⟩ := qbb1 h he
   obtain ⟨x', hx', hc'⟩ := coL_at hl hx
  ·exact h1 i e' j x' he' hx'
  ·exact hc' _ _ _ _ (h2 i e' j x' he' hx')
  ·exact ho i e' j x' he' hx'
end Go.Proofs.Ytnfjldobjgdiaaa
namespace Go.Proofs.Ytnfjldobjgdiaaa
set_option linter.all false
open Go.RowKit Go.ChangeShapes Go.WideShapes
attribute [local simp] qabs qabr qaa5 qabc qaa6 qabb qabp qabq qaa1 qab3 SOp.run SX.ev putd puts argS upds SOp.touch SSt.keep SSt.skip gets geth puth delh idOf SV.cells? setL qadd qade sbin eq0 eq1 eqL qadc qacd qace qaas qabt qaad qabu qab4 qaaj qaa3 FrzOk qabl qabf qabj qabk qaa7 qabe qab0 qabg qaa9 qabm qaa8 frzS frzH frz frz1 frz0 SlotsM ObjsM ObjM rn ren ren1 ren0 qab9 qaay qaaz qab8 qab1 qacq qacp CoL qabn qacs dels adds idsH qacf
attribute [local simp] qad0 refc qafc qae1 qacn opc actc tabc qaeg qac1 nums
theorem opens_ref : Opens Try.prog 31 qags := by
 have h : Opens Try.prog 31 (Lay.pair (Lay.int .i64) (Lay.int .i64)) :=
  Opens.struct Try.underlying31 (OpensF.cons opensI rfl (OpensF.one opensI rfl)) (by kernel_rfl) (by decide)
 refine h.weak rfl ?_
 rintro w ⟨a, b⟩ cs hr
 exact ⟨⟨a, b⟩, hr⟩
theorem opens_push : Opens Try.prog 97 qaf5 := by
 have h : Opens Try.prog 97 (Lay.pair i64L (Lay.pair qags u64L)) :=
  Opens.struct Try.underlying97 (OpensF.cons opensI rfl (OpensF.cons opens_ref rfl (OpensF.one opensU rfl))) (by kernel_rfl) (by decide)
 refine h.weak rfl ?_
 rintro w ⟨a, b, c⟩ cs hr
 exact ⟨⟨a, b, c⟩, hr⟩
theorem qai9 : Opens Try.prog 23 (Lay.slice (Lay.int .i64)) := opensI.slice Try.underlying23 (by kernel_rfl)
theorem opens_head : Opens Try.prog 62 qajd := by
 have h : Opens Try.prog 62 (Lay.slice i64L) :=
  Opens.struct Try.underlying62 (OpensF.one qai9 rfl) (by kernel_rfl) (by decide)
 refine h.weak rfl ?_
 rintro w a cs hr
 exact ⟨⟨a⟩, hr⟩
theorem opens_case : Opens Try.prog 95 qaj2 := by
 have h : Opens Try.prog 95 (Lay.pair u64L (Lay.pair u64L i64L)) :=
  Opens.struct Try.underlying95 (OpensF.cons opensU rfl (OpensF.cons opensU rfl (OpensF.one opensI rfl))) (by kernel_rfl) (by decide)
 refine h.weak rfl ?_
 rintro w ⟨a, b, c⟩ cs hr
 exact ⟨⟨a, b, c⟩, hr⟩
set_option maxRecDepth 20000 in
theorem opens_state : Opens Try.prog 65 qagn := by
 have h : Opens Try.prog 65 (Lay.pair i64L (Lay.pair qags (Lay.pair (Lay.slice qaj2) i64L))) :=
  Opens.struct Try.underlying65 (OpensF.cons opensI rfl (OpensF.cons opens_ref rfl (OpensF.cons (opens_case.slice Try.underlying63 (by kernel_rfl)) rfl (OpensF.one opensI rfl)))) (by kernel_rfl) (by decide)
 refine h.weak rfl ?_
 rintro w ⟨a, b, c, d⟩ cs hr
 exact ⟨⟨a, b, c, d⟩, hr⟩
theorem qagt : Opens Try.prog 69 (Lay.slice qaf5) := opens_push.slice Try.underlying69 (by kernel_rfl)
set_option maxRecDepth 20000 in
theorem opens_op : Opens Try.prog 71 opLay := by
 have h : Opens Try.prog 71 (Lay.pair i64L (Lay.pair qags (Lay.pair i64L (Lay.slice qaf5)))) :=
  Opens.struct Try.underlying71 (OpensF.cons opensI rfl (OpensF.cons opens_ref rfl (OpensF.cons opensI rfl (OpensF.one qagt rfl)))) (by kernel_rfl) (by decide)
 refine h.weak rfl ?_
 rintro w ⟨a, b, c, d⟩ cs hr
 exact ⟨⟨a, b, c, d⟩, hr⟩
set_option maxRecDepth 20000 in
theorem opens_act : Opens Try.prog 68 qa82 := by
 have h : Opens Try.prog 68 (Lay.pair (Lay.slice i64L) (Lay.slice opLay)) :=
  Opens.struct Try.underlying68 (OpensF.cons qai9 rfl (OpensF.one (opens_op.slice Try.underlying66 (by kernel_rfl)) rfl)) (by kernel_rfl) (by decide)
 refine h.weak rfl ?_
 rintro w ⟨a, b⟩ cs hr
 exact ⟨⟨a, b⟩, hr⟩
set_option maxRecDepth 20000 in
theorem opens_tab : Opens Try.prog 35 qa04 := by
 have h : Opens Try.prog 35 (Lay.pair i64L (Lay.pair (Lay.slice qags) (Lay.pair (Lay.slice i64L) (Lay.pair i64L (Lay.pair i64L (Lay.slice u64L)))))) :=
  Opens.struct Try.underlying35 (OpensF.cons opensI rfl (OpensF.cons (opens_ref.slice Try.underlying32 (by kernel_rfl)) rfl (OpensF.cons qai9 rfl (OpensF.cons opensI rfl (OpensF.cons opensI rfl (OpensF.one opensN rfl)))))) (by kernel_rfl) (by decide)
 refine h.weak rfl ?_
 rintro w ⟨a, b, c, d, e, f⟩ cs hr
 exact ⟨⟨a, b, c, d, e, f⟩, hr⟩
set_option maxRecDepth 20000 in
theorem opens_node : Opens Try.prog 73 qajb := by
 have h : Opens Try.prog 73 (Lay.pair i64L (Lay.pair i64L (Lay.pair (Lay.slice qaf5) (Lay.pair i64L i64L)))) :=
  Opens.struct Try.underlying73 (OpensF.cons opensI rfl (OpensF.cons opensI rfl (OpensF.cons qagt rfl (OpensF.cons opensI rfl (OpensF.one opensI rfl))))) (by kernel_rfl) (by decide)
 refine h.weak rfl ?_
 rintro w ⟨a, b, c, d, e⟩ cs hr
 exact ⟨⟨a, b, c, d, e⟩, hr⟩
set_option maxRecDepth 20000 in
theorem opens_plan : Opens Try.prog 29 planLay := by
 have h : Opens Try.prog 29 (Lay.pair (Lay.slice qajd) (Lay.pair (Lay.slice i64L) (Lay.pair (Lay.slice qagn) (Lay.pair (Lay.slice qa82) (Lay.pair (Lay.slice qa04) (Lay.pair (Lay.slice qajb) (Lay.slice i64L))))))) :=
  Opens.struct Try.underlying29 (OpensF.cons (opens_head.slice Try.underlying22 (by kernel_rfl)) rfl (OpensF.cons qai9 rfl (OpensF.cons (opens_state.slice Try.underlying24 (by kernel_rfl)) rfl (OpensF.cons (opens_act.slice Try.underlying25 (by kernel_rfl)) rfl (OpensF.cons (opens_tab.slice Try.underlying26 (by kernel_rfl)) rfl (OpensF.cons (opens_node.slice Try.underlying27 (by kernel_rfl)) rfl (OpensF.one qai9 rfl))))))) (by kernel_rfl) (by decide)
 refine h.weak rfl ?_
 rintro w ⟨a, b, c, d, e, f, g⟩ cs hr
 exact ⟨⟨a, b, c, d, e, f, g⟩, hr⟩
theorem rep_lay {α : Type} {L : Lay α} {f : α → List SV} (hp : LayP L f) {w : World} {x : α} {cs : Array Value} (h : L.rep NoA w x cs.toList) : RepV w (fun _ => False) noPl (.agg (f x)) (.agg cs) := by
 obtain ⟨h1, h2⟩ := hp NoA w x cs.toList h
 have := RepV.agg (w := w) (A := NoA) (ρ := noPl) (cs := f x) (vs := cs.toList) h2 h1.1 h1.2
 exact this
end Go.Proofs.Ytnfjldobjgdiaaa
namespace Go.Proofs.Ytnfjldobjgdiaaa
set_option linter.all false
open Go.RowKit
attribute [local simp] qabs qabr qaa5 qabc qaa6 qabb qabp qabq qaa1 qab3 SOp.run SX.ev putd puts argS upds SOp.touch SSt.keep SSt.skip gets geth puth delh idOf SV.cells? setL qadd qade sbin eq0 eq1 eqL qadc qacd qace qaas qabt qaad qabu qab4 qaaj qaa3 FrzOk qabl qabf qabj qabk qaa7 qabe qab0 qabg qaa9 qabm qaa8 frzS frzH frz frz1 frz0 SlotsM ObjsM ObjM rn ren ren1 ren0 qab9 qaay qaaz qab8 qab1 qacq qacp CoL qabn qacs dels adds idsH qacf
attribute [local simp] qad0 refc qafc qae1 qacn opc actc tabc qaeg qac1 nums
def twoP : PlanD := ⟨[⟨[8]⟩, ⟨[16]⟩], [], [⟨0, ⟨0, 0⟩, [⟨1, 1, 1⟩], 1000⟩, ⟨1, ⟨0, 0⟩, [], 1000⟩], [], [], [], [0, 1]⟩
theorem qa01 : SmallP twoP := by constructor <;> simp [twoP]
theorem twoP_ok : qaiy twoP := by
 have f : ∀ n : Int, 0 ≤ n ∧ n ≤ 1000 → Fits .i64 n := fun n hn => Fits.of_i64 (by omega) (by omega)
 have g : ∀ n : Int, 0 ≤ n ∧ n ≤ 1000 → Fits .u64 n := fun n hn => Fits.of_u64 (by omega) (by omega)
 refine ⟨?_, ?_, ?_, ?_, ?_, ?_, ?_⟩ <;> simp [twoP, AllFit, qa83, OkRef, qbbd, f, g]
theorem qa87 : qalx twoP = (0, 0) := by kernel_rfl
theorem qa86 : (qapm twoP).map setc = [[.int .u64 0, .int .u64 0, .int .i64 0, .int .i64 0, .bool true], [.int .u64 1, .int .u64 1, .int .i64 1, .int .i64 1, .bool true], [.int .u64 1, .int .u64 3, .int .i64 1, .int .i64 3, .bool true]] := by kernel_rfl
theorem two_s (q : Nat) : SCalls Try.prog 56 [] [] q (.agg (qac1 twoP)) [] := by
 refine qabw ?_ (fun _ => rfl) (fun _ => rfl) rfl q
 refine qaba (N := 14) Try.func56 rfl rfl (by kernel_rfl) qa2c (by simp) (by repeat' (first | exact trivial | refine And.intro ?_ ?_ | rfl | decide | exact PureR.ren _)) (by repeat' (first | exact trivial | refine And.intro ?_ ?_ | rfl | decide | exact PureR.ren _)) ?_
 rintro X hP hN hm
 unfold c_two
 repeat' (first | ((with_reducible refine qada (c := .ret) ?_)) | (with_reducible first | refine zA ?_ | refine qaac ?_ | refine qaab ?_ | refine zK ?_) | ((with_reducible first | refine qaal ?_ | refine qaah (by rw [hP]; exact qaa4) ?_); (try rw [hP]); simp -implicitDefEqProofs [*]) | ((with_reducible first | refine qaaf ?_ | refine qaag ?_); (try simp -implicitDefEqProofs [*])) | ((with_reducible refine qaam ?_); (try simp only [qaas, qaad, qaaj])) | ((with_reducible refine qaae rfl (fun h => ?_) (fun h => ?_)) <;> have h' := h <;> (try simp at h') <;> (try subst h')) | ((with_reducible refine qaaa (fun h => ?_) (fun h => ?_)) <;> have h' := h <;> (try simp at h') <;> (try subst h') <;> simp -implicitDefEqProofs [*]) | ((with_reducible refine qaai ?_ ?_); (first | omega | (unfold maxLen; omega)); simp -implicitDefEqProofs [*]) | (with_reducible first | refine zM hm ?_ | refine zN hm ?_ | refine zO hm ?_ | refine zP hm ?_) | fail)
 constructor
 refine qadw [1, 3, 8] ?_ ?_
 ·simp only [FrzOk, geth, Nat.reduceEqDiff, reduceIte, and_true]
  refine ⟨?_, ?_, ?_⟩ <;> exact fun x hx => by simp at hx; subst hx; exact qach _ rfl
 simp -implicitDefEqProofs
 refine qadw [5, 11, 12] ?_ ?_
 ·simp only [FrzOk, geth, Nat.reduceEqDiff, reduceIte, and_true]
  refine ⟨?_, ?_, ?_⟩ <;> exact fun x hx => by simp at hx; rcases hx with rfl | rfl <;> exact qach _ rfl
 simp -implicitDefEqProofs
 refine qaam ?_
 refine qaga (ds := qac1 twoP) hm rfl rfl (by rw [hP]; exact qa81) (by rw [hP]; exact qaps) rfl ?_ rfl (fun σ => rfl)
 exact ⟨Co.refl _, Co.nilsl 1, qbdh ⟨CoL.refl _, ⟨Co.refl _, Co.refl _, Co.refl _, Co.nilsl 3, Co.refl _, trivial⟩, trivial⟩, Co.nilsl 2, Co.nilsl 6, Co.nilsl 5, Co.refl _, trivial⟩
theorem qa0y (q : Nat) : SCalls Try.prog 21 [] [] q (.bool true) [] := by
 refine qabw ?_ (fun _ => rfl) (fun _ => rfl) rfl q
 refine qaba (N := 44) Try.func21 rfl rfl (by kernel_rfl) qajq (by simp) (by repeat' (first | exact trivial | refine And.intro ?_ ?_ | rfl | decide | exact PureR.ren _)) (by repeat' (first | exact trivial | refine And.intro ?_ ?_ | rfl | decide | exact PureR.ren _)) ?_
 rintro X hP hN hm
 have hw := fun q => walk_s twoP qa01 twoP_ok q
 rw [qa87, qa86] at hw
 replace hw := Lib.hid hw
 have ht := fun q => two_s q
 replace ht := Lib.hid ht
 unfold c_wbegun
 repeat' (first | (with_reducible first | refine zA ?_ | refine qaac ?_ | refine qaab ?_ | refine zK ?_) | ((with_reducible first | refine qaal ?_ | refine qaah (by rw [hP]; exact qaa4) ?_); (try rw [hP]); simp -implicitDefEqProofs [-qac1, *]) | ((with_reducible first | refine qaaf ?_ | refine qaag ?_); (try simp -implicitDefEqProofs [-qac1, *])) | ((with_reducible refine qaam ?_); (try simp only [qaas, qaad, qaaj])) | ((with_reducible refine qaae rfl (fun h => ?_) (fun h => ?_)) <;> have h' := h <;> (try simp at h') <;> (try subst h')) | ((with_reducible refine qaaa (fun h => ?_) (fun h => ?_)) <;> have h' := h <;> (try simp at h') <;> (try subst h') <;> simp -implicitDefEqProofs [-qac1, *]) | ((with_reducible refine qaai ?_ ?_); (first | omega | (unfold maxLen; omega)); simp -implicitDefEqProofs [-qac1, *]) | ((first | refine qabd (ht.out _) ?_ | refine qabd (hw.out _) ?_); simp -implicitDefEqProofs [-qac1, *]) | (with_reducible first | refine zM hm ?_ | refine zN hm ?_ | refine zO hm ?_ | refine zP hm ?_) | fail)
 all_goals rfl
set_option maxHeartbeats 4000000 in
theorem wdoes_s (p : PlanD) (hk : qaiy p) (q : Nat) : SCalls Try.prog 5 [.agg (qac1 p)] [] q (.bool true) [] := by
 refine qabw ?_ (fun _ => rfl) (fun _ => rfl) rfl q
 refine qaba (N := 110) Try.func5 rfl rfl (by kernel_rfl) qame (by simp) (by repeat' (first | exact trivial | refine And.intro ?_ ?_ | rfl | decide | exact PureR.ren _)) (by repeat' (first | exact trivial | refine And.intro ?_ ?_ | rfl | decide | exact PureR.ren _)) ?_
 rintro X hP hN hm
 have hg := fun q => gplan_s p q
 unfold c_wdoes
 cases hG : qaiq p <;> rw [hG] at hg
 ·have hs := qbcf hG
  have c1 := fun q => walk_s p hs hk q
  have c2 := fun q => rwalk_s p hs q
  have hll : (qapm p).length ≤ 1001 := by
   have := hs.states
   unfold qapm
   split
   ·simp
   ·unfold qai5; rw [qadf]; omega
  generalize qalx p = F at c1 c2
  generalize qapm p = L at c1 c2 hll
  replace c1 := Lib.hid c1
  replace c2 := Lib.hid c2
  replace hs := Lib.hid hs
  replace hk := Lib.hid hk
  repeat' (first | (with_reducible first | refine zA ?_ | refine qaac ?_ | refine qaab ?_ | refine zK ?_) | ((with_reducible first | refine qaal ?_ | refine qaah (by rw [hP]; exact qaa4) ?_); (try rw [hP]); simp -implicitDefEqProofs [*]) | ((with_reducible first | refine qaaf ?_ | refine qaag ?_); (try simp -implicitDefEqProofs [*])) | ((with_reducible refine qaam ?_); (try simp only [qaas, qaad, qaaj])) | ((with_reducible refine qaae rfl (fun h => ?_) (fun h => ?_)) <;> have h' := h <;> (try simp at h') <;> (try subst h')) | ((with_reducible refine qaaa (fun h => ?_) (fun h => ?_)) <;> have h' := h <;> (try simp at h') <;> (try subst h') <;> simp -implicitDefEqProofs [*]) | ((with_reducible refine qaai ?_ ?_); (first | omega | (unfold maxLen; omega)); simp -implicitDefEqProofs [*]) | ((first | refine qabd (qa0y _) ?_ | refine qabd (hg _) ?_ | refine qabd (oplan_s p hs.out _) ?_ | refine qabd (c1.out _) ?_ | refine qabd (c2.out _) ?_ | refine qabd (splan_s p hs.out _) ?_); simp -implicitDefEqProofs [*]) | (with_reducible first | refine zM hm ?_ | refine zN hm ?_ | refine zO hm ?_ | refine zP hm ?_) | fail)
  refine qaa0 (qabi (fun s (i : Nat) => s.turn [(8, .int .i64 i)] []) (fun i => i ≤ L.length) (fun i => L.length - i) 0 ?_ (by simp) ?_)
  ·repeat' (first | ((with_reducible refine qaar [] hm ?_ ?_ ?_ ?_) <;> (try simp only [zT, puth, Nat.reduceEqDiff, reduceIte, Nat.reduceAdd])) | (with_reducible first | refine za ?_ ?_ | refine zb ?_ ?_ ?_ ?_ | refine zc ?_ ?_ ?_ ?_ | refine zd ?_ ?_ ?_ ?_ | refine qaap ?_ ?_ | refine qaan ?_ ?_) | (with_reducible first | exact qaak | exact qaao | exact qaat | exact qaau | exact Co.refl _ | exact CoL.refl _ | exact CoLL.refl _) | ((with_reducible first | refine zga ?_ | refine zgb ?_); rfl) | ((with_reducible refine zgc ?_); (first | (with_reducible rfl) | rfl | (simp; done))) | ((with_reducible first | refine zgd ?_ | refine zge ?_); (first | omega | (simp; done))) | (refine qaaw ⟨?_, ?_⟩ ?_ <;> omega) | (exact Co.refl _) | (exact CoL.refl _) | (exact CoLL.refl _) | (refine qaaz ?_; omega) | (refine qaay ?_; first | omega | (simp_all; done)) | (with_reducible first | refine qaav ?_ ?_ | refine qaaq ?_ ?_) | fail)
  rintro J hJ i h1
  unfold qaj5
  simp only [zT, puth, Nat.reduceEqDiff, reduceIte, Nat.reduceAdd] at h1 ⊢
  rcases Nat.lt_or_ge i L.length with hi | hi
  ·have wi : IntKind.i64.wrap ((i : Int) + 1) = (i : Int) + 1 := qaa2 (by omega) (by omega)
   generalize hxx : L[i] = x
   repeat' (first | (with_reducible first | refine zA ?_ | refine qaac ?_ | refine qaab ?_ | refine zK ?_) | ((with_reducible first | refine qaal ?_ | refine qaah (by rw [hP]; exact qaa4) ?_); (try rw [hP]); simp -implicitDefEqProofs [setc, *]) | ((with_reducible first | refine qaaf ?_ | refine qaag ?_); (try simp -implicitDefEqProofs [setc, *])) | ((with_reducible refine qaam ?_); (try simp only [qaas, qaad, qaaj])) | ((with_reducible refine qaae rfl (fun h => ?_) (fun h => ?_)) <;> have h' := h <;> (try simp at h') <;> (try subst h')) | ((with_reducible refine qaaa (fun h => ?_) (fun h => ?_)) <;> have h' := h <;> (try simp at h') <;> (try subst h') <;> simp -implicitDefEqProofs [setc, *]) | ((with_reducible refine qaai ?_ ?_); (first | omega | (unfold maxLen; omega)); simp -implicitDefEqProofs [setc, *]) | (with_reducible first | refine zM hm ?_ | refine zN hm ?_ | refine zO hm ?_ | refine zP hm ?_) | ((with_reducible refine qaar [] hm ?_ ?_ ?_ ?_) <;> (try simp only [zT, puth, Nat.reduceEqDiff, reduceIte, Nat.reduceAdd])) | (with_reducible first | refine za ?_ ?_ | refine zb ?_ ?_ ?_ ?_ | refine zc ?_ ?_ ?_ ?_ | refine zd ?_ ?_ ?_ ?_ | refine qaap ?_ ?_ | refine qaan ?_ ?_) | (with_reducible first | exact qaak | exact qaao | exact qaat | exact qaau | exact Co.refl _ | exact CoL.refl _ | exact CoLL.refl _) | ((with_reducible first | refine zga ?_ | refine zgb ?_); rfl) | ((with_reducible refine zgc ?_); (first | (with_reducible rfl) | rfl | (simp; done))) | ((with_reducible first | refine zgd ?_ | refine zge ?_); (first | omega | (simp; done))) | (refine qaaw ⟨?_, ?_⟩ ?_ <;> omega) | (exact Co.refl _) | (exact CoL.refl _) | (exact CoLL.refl _) | (refine qaaz ?_; omega) | (refine qaay ?_; first | omega | (simp_all; done)) | (with_reducible first | refine qaav ?_ ?_ | refine qaaq ?_ ?_) | ((refine qaax hJ (i + 1) ?_ ?_ ?_; (with_reducible refine qaar [] hm ?_ ?_ ?_ ?_) <;> (try simp only [zT, puth, Nat.reduceEqDiff, reduceIte, Nat.reduceAdd]))) | fail)
   all_goals omega
  ·obtain rfl : i = L.length := by omega
   repeat' (first | (with_reducible first | refine zA ?_ | refine qaac ?_ | refine qaab ?_ | refine zK ?_) | ((with_reducible first | refine qaal ?_ | refine qaah (by rw [hP]; exact qaa4) ?_); (try rw [hP]); simp -implicitDefEqProofs [*]) | ((with_reducible first | refine qaaf ?_ | refine qaag ?_); (try simp -implicitDefEqProofs [*])) | ((with_reducible refine qaam ?_); (try simp only [qaas, qaad, qaaj])) | ((with_reducible refine qaae rfl (fun h => ?_) (fun h => ?_)) <;> have h' := h <;> (try simp at h') <;> (try subst h')) | ((with_reducible refine qaaa (fun h => ?_) (fun h => ?_)) <;> have h' := h <;> (try simp at h') <;> (try subst h') <;> simp -implicitDefEqProofs [*]) | ((with_reducible refine qaai ?_ ?_); (first | omega | (unfold maxLen; omega)); simp -implicitDefEqProofs [*]) | (with_reducible first | refine zM hm ?_ | refine zN hm ?_ | refine zO hm ?_ | refine zP hm ?_) | fail)
   all_goals rfl
 ·repeat' (first | (with_reducible first | refine zA ?_ | refine qaac ?_ | refine qaab ?_ | refine zK ?_) | ((with_reducible first | refine qaal ?_ | refine qaah (by rw [hP]; exact qaa4) ?_); (try rw [hP]); simp -implicitDefEqProofs [*]) | ((with_reducible first | refine qaaf ?_ | refine qaag ?_); (try simp -implicitDefEqProofs [*])) | ((with_reducible refine qaam ?_); (try simp only [qaas, qaad, qaaj])) | ((with_reducible refine qaae rfl (fun h => ?_) (fun h => ?_)) <;> have h' := h <;> (try simp at h') <;> (try subst h')) | ((with_reducible refine qaaa (fun h => ?_) (fun h => ?_)) <;> have h' := h <;> (try simp at h') <;> (try subst h') <;> simp -implicitDefEqProofs [*]) | ((with_reducible refine qaai ?_ ?_); (first | omega | (unfold maxLen; omega)); simp -implicitDefEqProofs [*]) | ((first | refine qabd (qa0y _) ?_ | refine qabd (hg _) ?_); simp -implicitDefEqProofs [*]) | (with_reducible first | refine zM hm ?_ | refine zN hm ?_ | refine zO hm ?_ | refine zP hm ?_) | fail)
  all_goals rfl
theorem WalkDoes_law (p : PlanD) (cs : Array Value) (w : World) (h : planLay.rep NoA w p cs.toList) :
  Calls Try.prog 5 #[.agg cs] w fun e w' => e = .returned (.bool true) ∧ Below w.heap.size w w' :=
 law_of (vs := [.agg cs]) (wdoes_s p (qa9u NoA w p cs.toList h) 0) (Reps.cons (rep_lay qa9q h) Reps.nil)
end Go.Proofs.Ytnfjldobjgdiaaa
