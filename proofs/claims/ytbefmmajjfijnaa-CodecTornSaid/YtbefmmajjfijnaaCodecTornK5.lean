/-
  Texts joined: XPlnG XPlnH XPlnI XPlnJ XPlnL XCodH XShDF XCodI XCdec XCodJ XCodL XCodM XIntA XIntB. No condition.
-/
import Derived.Test.YtbefmmajjfijnaaProg
import Derived.ProofKit
import Derived.Test.YtbefmmajjfijnaaRows
import Derived.Deep.QuietTactic
import Derived.BigQuiet
import Derived.WalkSmall
import Derived.Handy
import Derived.WalkSpells
import Derived.RegionTactic
import Derived.BigRegion
import Derived.Deep.RegionLaw
import Derived.Recover
import Derived.Tactics
import Derived.Tactics2
import Derived.Defers
import Derived.Test.YtbefmmajjfijnaaCodecTornK4
namespace Go.Proofs.Ytbefmmajjfijnaa
set_option linter.all false
open Go.RowKit
attribute [local simp] qabl qabk qaav qaa9 qaaw qaa8 qabi qabj qaaq qab6 SOp.run SX.ev putd puts argS upds SOp.touch SSt.keep SSt.skip gets geth puth delh idOf SV.cells? setL qaeb qaec sbin eq0 eq1 eqL qadx qac0 qac1 qaa3 qabm qaai qabn qab7 qaao qaan FrzOk qabc qaay qaba qabb qaar qaax qabo qaaz qaat qabd qaas frzS frzH frz frz1 frz0 SlotsM ObjsM ObjM rn ren ren1 ren0 qaca qacx qacs qab9 qabp qac3 qac2 CoL qabe qaby dels adds idsH qabu
attribute [local simp] qaj1 refc qagg qag3 qade opc actc tabc qagu qadj nums jc
def qada (v : Int) : List Int → Nat → Int
 | [], _ => -1
 | x :: l, i => if v = x then (i : Int) else qada v l (i + 1)
theorem qain (v : Int) {l : List Int} {i : Nat} (hi : i < l.length) : qada v (l.drop i) i = if v = l[i] then (i : Int) else qada v (l.drop (i + 1)) (i + 1) := by
 rw [List.drop_eq_getElem_cons hi]; rfl
theorem qagx (v : Int) : ∀ (l : List Int) (i : Nat), decide (0 ≤ qada v l i) = l.contains v
 | [], i => rfl
 | x :: l, i => by
  unfold qada
  rw [List.contains_cons]
  by_cases h : v = x
  ·subst h; simp
  ·rw [if_neg h, qagx v l (i + 1)]; simp [h]
theorem index_s (l : List Int) (v : Int) (hl : l.length ≤ 1000000) : SCalls Try.prog 56 [nums .i64 l, .int .i64 v] [] 0 (.int .i64 (qada v l 0)) [] := by
 refine qaau (N := 19) Try.func56 rfl rfl (by kernel_rfl) qak2 (by simp) (by repeat' (first | exact trivial | refine And.intro ?_ ?_ | rfl | decide | exact PureR.ren _)) (by repeat' (first | exact trivial | refine And.intro ?_ ?_ | rfl | decide | exact PureR.ren _)) ?_
 rintro X hP hN hm
 have hF : qada v l 0 = qada v (l.drop 0) 0 := rfl
 generalize qada v l 0 = F at hF
 replace hF := Lib.hid hF
 unfold c_index
 repeat' (first | (with_reducible refine zA ?_) | ((with_reducible refine qaad ?_); (try rw [hP]); simp -implicitDefEqProofs [*]) | fail)
 refine qaaj (qaa5 (fun s (i : Nat) => s.turn [(8, .int .i64 i)] []) (fun i => i ≤ l.length ∧ F = qada v (l.drop i) i) (fun i => l.length - i) 0 ?_ ⟨by simp, hF.out⟩ ?_)
 ·repeat' (first | ((with_reducible refine qaag [] hm ?_ ?_ ?_ ?_) <;> (try simp only [zT, puth, Nat.reduceEqDiff, reduceIte, Nat.reduceAdd])) | (with_reducible refine za ?_ ?_) | (with_reducible first | exact qaaa | exact qaac) | ((with_reducible refine zgb ?_); rfl) | ((with_reducible refine zgd ?_); (first | omega | (simp; done))) | (exact Co.refl _) | fail)
 rintro J hJ i ⟨h1, h2⟩
 unfold qajn
 simp only [zT, puth, Nat.reduceEqDiff, reduceIte, Nat.reduceAdd] at h1 h2 ⊢
 rcases Nat.lt_or_ge i l.length with hi | hi
 ·rw [qain v hi] at h2
  generalize hxx : l[i] = x at h2
  have wi : IntKind.i64.wrap ((i : Int) + 1) = (i : Int) + 1 := qaap (by omega) (by omega)
  replace h2 := Lib.hid h2
  cases hv : (v == x)
  ·have hv' : ¬ v = x := by simpa using hv
   repeat' (first | (with_reducible first | refine zA ?_ | refine qaae ?_) | ((with_reducible refine qaad ?_); (try rw [hP]); simp -implicitDefEqProofs [*]) | ((with_reducible refine qaaf ?_); (try simp -implicitDefEqProofs [*])) | ((with_reducible refine qaab rfl (fun h => ?_) (fun h => ?_)) <;> have h' := h <;> (try simp at h') <;> (try subst h')) | (with_reducible refine za ?_ ?_) | (with_reducible first | exact qaaa | exact qaac) | ((with_reducible refine zgb ?_); rfl) | ((with_reducible first | refine zgd ?_ | refine zge ?_); (first | omega | (simp; done))) | (exact Co.refl _) | ((refine qaah hJ (i + 1) ?_ ?_ ?_; (with_reducible refine qaag [] hm ?_ ?_ ?_ ?_) <;> (try simp only [zT, puth, Nat.reduceEqDiff, reduceIte, Nat.reduceAdd]))) | fail)
   exact ⟨by omega, by rw [h2.out, if_neg hv']⟩
  ·have hv' : v = x := by simpa using hv
   replace hv' := Lib.hid hv'
   repeat' (first | (with_reducible first | refine zA ?_ | refine qaae ?_) | ((with_reducible refine qaad ?_); (try rw [hP]); simp -implicitDefEqProofs [*]) | ((with_reducible refine qaaf ?_); (try simp -implicitDefEqProofs [*])) | ((with_reducible refine qaa4 ?_); (try simp only [qaa3, qaai, qaao])) | ((with_reducible refine qaab rfl (fun h => ?_) (fun h => ?_)) <;> have h' := h <;> (try simp at h') <;> (try subst h')) | (with_reducible refine zM hm ?_) | fail)
   rw [h2.out, if_pos hv'.out]
 ·obtain rfl : i = l.length := by omega
  rw [List.drop_length] at h2
  replace h2 := Lib.hid h2
  repeat' (first | (with_reducible refine zA ?_) | ((with_reducible refine qaad ?_); (try rw [hP]); simp -implicitDefEqProofs [*]) | ((with_reducible refine qaam ?_); (try simp -implicitDefEqProofs [*])) | ((with_reducible refine qaa4 ?_); (try simp only [qaa3, qaai, qaao])) | ((with_reducible refine qaab rfl (fun h => ?_) (fun h => ?_)) <;> have h' := h <;> (try simp at h') <;> (try subst h')) | (with_reducible refine zM hm ?_) | fail)
  rw [h2.out]; rfl
theorem qaf5 (l : List Int) (v : Int) (hl : l.length ≤ 1000000) (q : Nat) : SCalls Try.prog 28 [nums .i64 l, .int .i64 v] [] q (.bool (l.contains v)) [] := by
 refine qacq ?_ (fun _ => rfl) (fun _ => rfl) rfl q
 refine qaau (N := 9) Try.func28 rfl rfl (by kernel_rfl) qagk (by simp) (by repeat' (first | exact trivial | refine And.intro ?_ ?_ | rfl | decide | exact PureR.ren _)) (by repeat' (first | exact trivial | refine And.intro ?_ ?_ | rfl | decide | exact PureR.ren _)) ?_
 rintro X hP hN hm
 have hi := qagx v l 0
 have hc := fun q => qacq (index_s l v hl) (fun _ => rfl) (fun _ => rfl) rfl q
 generalize qada v l 0 = I at hi hc
 unfold c_contains
 repeat' (first | (with_reducible refine zA ?_) | ((with_reducible refine qaad ?_); (try rw [hP]); simp -implicitDefEqProofs [*]) | ((with_reducible refine qaa4 ?_); (try simp only [qaa3, qaai, qaao])) | (refine qacl (hc _) ?_; simp -implicitDefEqProofs [*]) | (with_reducible refine zN hm ?_) | fail)
 all_goals (exact decide_eq_decide.2 Iff.rfl)
def wrow (p : PlanD) (l : List RefD) (i : Nat) : List (List SV) := (l.take i).map fun r => [.int .i64 (qabv p r [])]
instance (p : PlanD) (l : List RefD) (i : Nat) : PureR (wrow p l i) := ⟨fun σ => by unfold wrow; rw [List.map_map]; rfl, fun x hx => by obtain ⟨b, _, rfl⟩ := List.mem_map.1 hx; rfl, fun x hx => by obtain ⟨b, _, rfl⟩ := List.mem_map.1 hx; exact qab8 _ rfl⟩
theorem qa13 (p : PlanD) {l : List RefD} {i : Nat} (hi : i ≤ l.length) : (wrow p l i).length = i := by unfold wrow; simp; omega
theorem qaxl (p : PlanD) {l : List RefD} {i : Nat} (hi : i < l.length) : wrow p l i ++ [[.int .i64 (qabv p l[i] [])]] = wrow p l (i + 1) := by
 unfold wrow; rw [List.take_succ_eq_append_getElem hi, List.map_append]; rfl
theorem qa14 (p : PlanD) (t : TabD) : SV.view 1 (wrow p t.keys t.keys.length) = nums .i64 (qacc p t) := by
 unfold wrow nums qacc; rw [List.take_length, List.map_map]; rfl
theorem qa18 (p : PlanD) (t : TabD) (hl : t.keys.length ≤ 1000000) : SCalls Try.prog 53 [.agg (qadj p), .agg (tabc t)] [] 0 (nums .i64 (qacc p t)) [] := by
 rw [← qa14]
 refine qaau (N := 23) Try.func53 rfl rfl (by kernel_rfl) qait (by simp) (by repeat' (first | exact trivial | refine And.intro ?_ ?_ | rfl | decide | exact PureR.ren _)) (by repeat' (first | exact trivial | refine And.intro ?_ ?_ | rfl | decide | exact PureR.ren _)) ?_
 rintro X hP hN hm
 unfold c_widths
 repeat' (first | (with_reducible refine zA ?_) | ((with_reducible refine qaad ?_); (try rw [hP]); simp -implicitDefEqProofs [*]) | fail)
 refine qaep (qaxm 5 3 1 rfl) ?_
 simp only [zT, puth, Nat.reduceEqDiff, reduceIte, Nat.reduceAdd]
 refine qaaj (qaa5 (fun s (i : Nat) => s.turn [(5, .own 8 i), (11, .int .i64 i)] [(8, .row 3 1 (wrow p t.keys i))]) (fun i => i ≤ t.keys.length) (fun i => t.keys.length - i) 0 ?_ (by simp) ?_)
 ·repeat' (first | ((with_reducible refine qaag [] hm ?_ ?_ ?_ ?_) <;> (try simp only [zT, puth, Nat.reduceEqDiff, reduceIte, Nat.reduceAdd])) | (with_reducible first | refine za ?_ ?_ | refine zb ?_ ?_ ?_ ?_ | refine zc ?_ ?_ ?_ ?_) | (with_reducible first | exact qaaa | exact qaac) | ((with_reducible first | refine zga ?_ | refine zgb ?_); rfl) | ((with_reducible refine zgc ?_); (first | (with_reducible rfl) | rfl | (simp; done))) | ((with_reducible refine zgd ?_); (first | omega | (simp; done))) | (exact Co.refl _) | (exact CoL.refl _) | fail)
 rintro J hJ i hi
 unfold qag5
 simp only [zT, puth, Nat.reduceEqDiff, reduceIte, Nat.reduceAdd]
 have hlen := qa13 p hi
 have hb1 : i + 1 ≤ maxLen := by unfold maxLen; omega
 rcases Nat.lt_or_ge i t.keys.length with h | h
 ·have wi : IntKind.i64.wrap ((i : Int) + 1) = (i : Int) + 1 := qaap (by omega) (by omega)
  have hrow := qaxl p h
  generalize hr : t.keys[i] = r at hrow
  repeat' (first | (with_reducible first | refine zA ?_ | refine qaae ?_) | ((with_reducible refine qaad ?_); (try rw [hP]); simp -implicitDefEqProofs [*]) | ((with_reducible refine qaaf ?_); (try simp -implicitDefEqProofs [*])) | ((with_reducible refine qaab rfl (fun h => ?_) (fun h => ?_)) <;> have h' := h <;> (try simp at h') <;> (try subst h')) | ((with_reducible refine qaj4 ?_ ?_); (first | omega | (unfold maxLen; omega)); simp -implicitDefEqProofs [*]) | (refine qacl (qae8 p r _) ?_; simp -implicitDefEqProofs [*]) | (with_reducible first | refine za ?_ ?_ | refine zb ?_ ?_ ?_ ?_ | refine zc ?_ ?_ ?_ ?_) | (with_reducible first | exact qaaa | exact qaac) | ((with_reducible first | refine zga ?_ | refine zgb ?_); rfl) | ((with_reducible refine zgc ?_); (first | (with_reducible rfl) | rfl | (simp; done))) | ((with_reducible first | refine zgd ?_ | refine zge ?_); (first | omega | (simp; done))) | (exact Co.refl _) | (exact CoL.refl _) | ((refine qaah hJ (i + 1) ?_ ?_ ?_; (with_reducible refine qaag [(8, ?_)] hm ?_ ?_ ?_ ?_) <;> (try simp only [zT, puth, Nat.reduceEqDiff, reduceIte, Nat.reduceAdd]))) | fail)
 ·obtain rfl : i = t.keys.length := by omega
  repeat' (first | ((with_reducible refine qafs (c := .seq (.reg false qag4 [4]) .ret) ?_)) | (with_reducible refine zA ?_) | ((with_reducible refine qaad ?_); (try rw [hP]); simp -implicitDefEqProofs [*]) | ((with_reducible refine qaam ?_); (try simp -implicitDefEqProofs [*])) | ((with_reducible refine qaab rfl (fun h => ?_) (fun h => ?_)) <;> have h' := h <;> (try simp at h') <;> (try subst h')) | fail)
  constructor
  refine swp_frz [8] ?_ ?_
  ·simp only [FrzOk, geth, Nat.reduceEqDiff, reduceIte, pureR_O, and_true]
  have htk : (wrow p t.keys t.keys.length).take t.keys.length = wrow p t.keys t.keys.length := List.take_of_length_le (by omega)
  simp -implicitDefEqProofs [htk, hlen, Nat.le_refl]
  repeat' (first | (with_reducible refine zA ?_) | ((with_reducible refine qaad ?_); (try rw [hP]); simp -implicitDefEqProofs [*]) | ((with_reducible refine qaa4 ?_); (try simp only [qaa3, qaai, qaao])) | (refine qas3 hm ?_ (qa27 _ _)) | fail)
  rfl
end Go.Proofs.Ytbefmmajjfijnaa
namespace Go.Proofs.Ytbefmmajjfijnaa
set_option linter.all false
open Go.RowKit
attribute [local simp] qabl qabk qaav qaa9 qaaw qaa8 qabi qabj qaaq qab6 SOp.run SX.ev putd puts argS upds SOp.touch SSt.keep SSt.skip gets geth puth delh idOf SV.cells? setL qaeb qaec sbin eq0 eq1 eqL qadx qac0 qac1 qaa3 qabm qaai qabn qab7 qaao qaan FrzOk qabc qaay qaba qabb qaar qaax qabo qaaz qaat qabd qaas frzS frzH frz frz1 frz0 SlotsM ObjsM ObjM rn ren ren1 ren0 qaca qacx qacs qab9 qabp qac3 qac2 CoL qabe qaby dels adds idsH qabu
attribute [local simp] qaj1 refc qagg qag3 qade opc actc tabc qagu qadj nums jc
theorem qaj3 {xs ks : List Int} {i : Nat} (h1 : i < xs.length) (h2 : i < ks.length) : qagm (xs.drop i) (ks.drop i) = (qaxo xs[i] ks[i] || qagm (xs.drop (i + 1)) (ks.drop (i + 1))) := by
 rw [List.drop_eq_getElem_cons h1, List.drop_eq_getElem_cons h2]; rfl
def AW (acts : List ActD) : Prop := ∀ a ∈ acts, ∀ w ∈ a.w, 0 ≤ w ∧ w ≤ 48
theorem says_s (t : TabD) (acts : List ActD) (act : Int) (args : List Int) (ha : AW acts) (hl : t.acts.length ≤ 1000000) (hl2 : args.length ≤ 1000000) (hr : ∀ k ∈ t.acts, 0 ≤ k ∧ k < acts.length) (q : Nat) : SCalls Try.prog 70 [.agg (tabc t), .view 2 (acts.map actc), .int .i64 act, nums .u64 args] [] q (.int .i64 (qarr t.acts acts act args)) [] := by
 refine qacq ?_ (fun _ => rfl) (fun _ => rfl) rfl q
 refine qaau (N := 42) Try.func70 rfl rfl (by kernel_rfl) qan9 (by simp) (by repeat' (first | exact trivial | refine And.intro ?_ ?_ | rfl | decide | exact PureR.ren _)) (by repeat' (first | exact trivial | refine And.intro ?_ ?_ | rfl | decide | exact PureR.ren _)) ?_
 rintro X hP hN hm
 have hc := fun q => qaf5 t.acts act hl q
 unfold c_says
 cases hin : t.acts.contains act
 ·rw [hin] at hc
  have hz : qarr t.acts acts act args = 5 := by unfold qarr; rw [hin]; rfl
  rw [hz]
  repeat' (first | (with_reducible refine zA ?_) | ((with_reducible refine qaad ?_); (try rw [hP]); simp -implicitDefEqProofs [*]) | ((with_reducible refine qaa4 ?_); (try simp only [qaa3, qaai, qaao])) | ((with_reducible refine qaab rfl (fun h => ?_) (fun h => ?_)) <;> have h' := h <;> (try simp at h') <;> (try subst h')) | (refine qacl (hc _) ?_; simp -implicitDefEqProofs [*]) | (with_reducible refine zM hm ?_) | fail)
  rfl
 ·rw [hin] at hc
  obtain ⟨hr0, hr1⟩ := hr act (by simpa using hin)
  have hlt : act.toNat < acts.length := by omega
  have hAm := ha acts[act.toNat] (List.getElem_mem hlt)
  have hF : qarr t.acts acts act args = if args.length ≠ acts[act.toNat].w.length then 2 else if qagm args acts[act.toNat].w = true then 6 else 0 := by
   unfold qarr
   have : actW acts act = acts[act.toNat].w := by unfold actW; rw [List.getElem?_eq_getElem hlt]; rfl
   rw [hin, this]; rfl
  generalize qarr t.acts acts act args = F at hF
  generalize hA : acts[act.toNat] = A at hAm hF
  replace hAm := Lib.hid hAm
  by_cases hlen : args.length = A.w.length
  ·rw [if_neg (by simpa using hlen)] at hF
   have kl : ((args.length : Int) != (A.w.length : Int)) = false := by simp [hlen]
   replace hF := Lib.hid hF
   replace hlen := Lib.hid hlen
   repeat' (first | (with_reducible refine zA ?_) | ((with_reducible refine qaad ?_); (try rw [hP]); simp -implicitDefEqProofs [*]) | ((with_reducible refine qaaf ?_); (try simp -implicitDefEqProofs [*])) | ((with_reducible refine qaab rfl (fun h => ?_) (fun h => ?_)) <;> have h' := h <;> (try simp at h') <;> (try subst h')) | (refine qacl (hc _) ?_; simp -implicitDefEqProofs [*]) | fail)
   refine qaaj (qaa5 (fun s (i : Nat) => s.turn [(29, .int .i64 i)] []) (fun i => i ≤ args.length ∧ F = if qagm (args.drop i) (A.w.drop i) = true then 6 else 0) (fun i => args.length - i) 0 ?_ ⟨by simp, hF.out⟩ ?_)
   ·repeat' (first | ((with_reducible refine qaag [] hm ?_ ?_ ?_ ?_) <;> (try simp only [zT, puth, Nat.reduceEqDiff, reduceIte, Nat.reduceAdd])) | (with_reducible first | refine za ?_ ?_ | refine zb ?_ ?_ ?_ ?_) | (with_reducible first | exact qaaa | exact qaac) | ((with_reducible first | refine zga ?_ | refine zgb ?_); rfl) | ((with_reducible refine zgd ?_); (first | omega | (simp; done))) | (exact Co.refl _) | (exact CoL.refl _) | fail)
   rintro J hJ i ⟨h1, h2⟩
   unfold qanl
   simp only [zT, puth, Nat.reduceEqDiff, reduceIte, Nat.reduceAdd] at h1 h2 ⊢
   rcases Nat.lt_or_ge i args.length with hi | hi
   ·have hi2 : i < A.w.length := by have := hlen.out; omega
    rw [qaj3 hi hi2] at h2
    have hms := fun q => mask_s A.w[i] (hAm.out _ (List.getElem_mem hi2)) q
    generalize hw : A.w[i] = w at h2 hms
    generalize hx : args[i] = x at h2
    have wi : IntKind.i64.wrap ((i : Int) + 1) = (i : Int) + 1 := qaap (by omega) (by omega)
    replace h2 := Lib.hid h2
    cases hv : qaxo x w
    ·unfold qaxo at hv
     repeat' (first | (with_reducible first | refine zA ?_ | refine qaae ?_) | ((with_reducible refine qaad ?_); (try rw [hP]); simp -implicitDefEqProofs [*]) | ((with_reducible refine qaaf ?_); (try simp -implicitDefEqProofs [*])) | ((with_reducible refine qaab rfl (fun h => ?_) (fun h => ?_)) <;> have h' := h <;> (try simp at h') <;> (try subst h')) | (refine qacl (hms _) ?_; simp -implicitDefEqProofs [*]) | (with_reducible first | refine za ?_ ?_ | refine zb ?_ ?_ ?_ ?_) | (with_reducible first | exact qaaa | exact qaac) | ((with_reducible first | refine zga ?_ | refine zgb ?_); rfl) | ((with_reducible first | refine zgd ?_ | refine zge ?_); (first | omega | (simp; done))) | (exact Co.refl _) | (exact CoL.refl _) | ((refine qaah hJ (i + 1) ?_ ?_ ?_; (with_reducible refine qaag [] hm ?_ ?_ ?_ ?_) <;> (try simp only [zT, puth, Nat.reduceEqDiff, reduceIte, Nat.reduceAdd]))) | fail)
     refine ⟨by omega, ?_⟩
     rw [h2.out, show qaxo x w = false from hv, Bool.false_or]
    ·unfold qaxo at hv
     repeat' (first | (with_reducible first | refine zA ?_ | refine qaae ?_) | ((with_reducible refine qaad ?_); (try rw [hP]); simp -implicitDefEqProofs [*]) | ((with_reducible refine qaaf ?_); (try simp -implicitDefEqProofs [*])) | ((with_reducible refine qaa4 ?_); (try simp only [qaa3, qaai, qaao])) | ((with_reducible refine qaab rfl (fun h => ?_) (fun h => ?_)) <;> have h' := h <;> (try simp at h') <;> (try subst h')) | (refine qacl (hms _) ?_; simp -implicitDefEqProofs [*]) | (with_reducible refine zM hm ?_) | fail)
     rw [h2.out, show qaxo x w = true from hv]; rfl
   ·obtain rfl : i = args.length := by omega
    rw [List.drop_length] at h2
    replace h2 := Lib.hid h2
    repeat' (first | (with_reducible refine zA ?_) | ((with_reducible refine qaad ?_); (try rw [hP]); simp -implicitDefEqProofs [*]) | ((with_reducible refine qaam ?_); (try simp -implicitDefEqProofs [*])) | ((with_reducible refine qaa4 ?_); (try simp only [qaa3, qaai, qaao])) | ((with_reducible refine qaab rfl (fun h => ?_) (fun h => ?_)) <;> have h' := h <;> (try simp at h') <;> (try subst h')) | (with_reducible refine zM hm ?_) | fail)
    rw [h2.out]; rfl
  ·rw [if_pos (by simpa using hlen)] at hF
   have kl : ((args.length : Int) != (A.w.length : Int)) = true := by simp; omega
   replace hF := Lib.hid hF
   repeat' (first | (with_reducible refine zA ?_) | ((with_reducible refine qaad ?_); (try rw [hP]); simp -implicitDefEqProofs [*]) | ((with_reducible refine qaaf ?_); (try simp -implicitDefEqProofs [*])) | ((with_reducible refine qaa4 ?_); (try simp only [qaa3, qaai, qaao])) | ((with_reducible refine qaab rfl (fun h => ?_) (fun h => ?_)) <;> have h' := h <;> (try simp at h') <;> (try subst h')) | (refine qacl (hc _) ?_; simp -implicitDefEqProofs [*]) | (with_reducible refine zM hm ?_) | fail)
   rw [hF.out]
set_option maxHeartbeats 4000000 in
theorem qa2c (t : TabD) (ws : List Int) (acts : List ActD) (ha : AW acts) (h1 : t.acts.length ≤ 1000000) (h2 : t.args.length ≤ 1000000) (h3 : ws.length ≤ 1000000) (h4 : acts.length ≤ 1000000) (q : Nat) : SCalls Try.prog 54 [.agg (tabc t), nums .i64 ws, .view 2 (acts.map actc)] [] q (.int .i64 (qaeo t ws acts)) [] := by
 refine qacq ?_ (fun _ => rfl) (fun _ => rfl) rfl q
 refine qaau (N := 101) Try.func54 rfl rfl (by kernel_rfl) qaiu (by simp) (by repeat' (first | exact trivial | refine And.intro ?_ ?_ | rfl | decide | exact PureR.ren _)) (by repeat' (first | exact trivial | refine And.intro ?_ ?_ | rfl | decide | exact PureR.ren _)) ?_
 rintro X hP hN hm
 have hsays := fun (hr : ∀ k ∈ t.acts, 0 ≤ k ∧ k < acts.length) q => says_s t acts t.def_ t.args ha h1 h2 hr q
 replace hsays := Lib.hid hsays
 replace ha := Lib.hid ha
 obtain ⟨n, hn⟩ : ∃ n, ws.length = n := ⟨_, rfl⟩
 obtain ⟨m, hma⟩ : ∃ m, t.acts.length = m := ⟨_, rfl⟩
 unfold c_tcheck
 by_cases g1 : t.kind < 1 ∨ 3 < t.kind
 ·have hz : qaeo t ws acts = 5 := by unfold qaeo; rw [if_pos g1]
  rw [hz]
  have k1 : (t.kind != 1) = true := by simp; omega
  have k2 : (t.kind != 2) = true := by simp; omega
  have k3 : (t.kind != 3) = true := by simp; omega
  replace g1 := Lib.hid g1
  repeat' (first | (with_reducible first | refine zA ?_ | refine qaae ?_) | ((with_reducible refine qaad ?_); (try rw [hP]); simp -implicitDefEqProofs [*]) | ((with_reducible refine qaa4 ?_); (try simp only [qaa3, qaai, qaao])) | ((with_reducible refine qaab rfl (fun h => ?_) (fun h => ?_)) <;> have h' := h <;> (try simp at h') <;> (try subst h')) | (with_reducible refine zM hm ?_) | fail)
  rfl
 by_cases g2 : ws.length < 1 ∨ 3 < ws.length ∨ (t.kind = 2 ∧ 1 < ws.length) ∨ t.acts.length < 1 ∨ 4 < t.acts.length
 ·have hz : qaeo t ws acts = 2 := by unfold qaeo; rw [if_neg g1, if_pos g2]
  rw [hz]
  replace g1 := Lib.hid g1
  replace g2 := Lib.hid g2
  repeat' (first | (with_reducible first | refine zA ?_ | refine qaae ?_) | ((with_reducible refine qaad ?_); (try rw [hP]); simp -implicitDefEqProofs [*]) | ((with_reducible refine qaaf ?_); (try simp -implicitDefEqProofs [*])) | ((with_reducible refine qaa4 ?_); (try simp only [qaa3, qaai, qaao])) | ((with_reducible refine qaab rfl (fun h => ?_) (fun h => ?_)) <;> have h' := h <;> (try simp at h') <;> (try subst h')) | ((with_reducible refine qaa6 (fun h => ?_) (fun h => ?_)) <;> have h' := h <;> (try simp at h') <;> (try subst h') <;> simp -implicitDefEqProofs [*]) | (with_reducible refine zM hm ?_) | fail)
  all_goals (first | rfl | (exfalso; have q := g2.out; have q1 := g1.out; omega))
 by_cases g3 : t.cap < 0 ∨ 16 < t.cap
 ·have hz : qaeo t ws acts = 1 := by unfold qaeo; rw [if_neg g1, if_neg g2, if_pos g3]
  rw [hz]
  replace g1 := Lib.hid g1
  replace g2 := Lib.hid g2
  replace g3 := Lib.hid g3
  repeat' (first | (with_reducible first | refine zA ?_ | refine qaae ?_) | ((with_reducible refine qaad ?_); (try rw [hP]); simp -implicitDefEqProofs [*]) | ((with_reducible refine qaaf ?_); (try simp -implicitDefEqProofs [*])) | ((with_reducible refine qaa4 ?_); (try simp only [qaa3, qaai, qaao])) | ((with_reducible refine qaab rfl (fun h => ?_) (fun h => ?_)) <;> have h' := h <;> (try simp at h') <;> (try subst h')) | ((with_reducible refine qaa6 (fun h => ?_) (fun h => ?_)) <;> have h' := h <;> (try simp at h') <;> (try subst h') <;> simp -implicitDefEqProofs [*]) | (with_reducible refine zM hm ?_) | fail)
  all_goals (first | rfl | (exfalso; have q := g2.out; have q1 := g1.out; have q3 := g3.out; omega))
 have hF : qaeo t ws acts = if (ws.drop 0).any wOut = true then 6 else if (t.acts.drop 0).any (aOut acts.length) = true then 1 else qarr t.acts acts t.def_ t.args := by
  unfold qaeo; rw [if_neg g1, if_neg g2, if_neg g3]; rfl
 generalize qaeo t ws acts = F at hF
 replace hF := Lib.hid hF
 have l0 : ((ws.length : Int) == 0) = false := by rw [beq_eq_false_iff_ne]; omega
 have l3 : decide (3 < (ws.length : Int)) = false := by rw [decide_eq_false_iff_not]; omega
 have a0 : ((t.acts.length : Int) == 0) = false := by rw [beq_eq_false_iff_ne]; omega
 have a4 : decide (4 < (t.acts.length : Int)) = false := by rw [decide_eq_false_iff_not]; omega
 have q0 : decide (t.cap < 0) = false := by rw [decide_eq_false_iff_not]; omega
 have q16 : decide (16 < t.cap) = false := by rw [decide_eq_false_iff_not]; omega
 have hks : ((t.kind != 1) = false ∧ (t.kind == 2) = false) ∨ ((t.kind != 1) = true ∧ (t.kind != 2) = false ∧ (t.kind == 2) = true ∧ ((ws.length : Int) != 1) = false) ∨ ((t.kind != 1) = true ∧ (t.kind != 2) = true ∧ (t.kind != 3) = false ∧ (t.kind == 2) = false) := by
  by_cases e1 : t.kind = 1
  ·left; rw [e1]; exact ⟨rfl, rfl⟩
  by_cases e2 : t.kind = 2
  ·right; left; refine ⟨by simpa using e1, by simpa using e2, by simpa using e2, ?_⟩
   rw [bne_eq_false_iff_eq]; omega
  ·right; right; refine ⟨by simpa using e1, by simpa using e2, ?_, by simpa using e2⟩
   rw [bne_eq_false_iff_eq]; omega
 clear g1 g2 g3 hn hma n m
 rcases hks with ⟨k1, k2⟩ | ⟨k1, k2, k3, k4⟩ | ⟨k1, k2, k3, k4⟩
 all_goals
  repeat' (first | (with_reducible first | refine zA ?_ | refine qaae ?_) | ((with_reducible refine qaad ?_); (try rw [hP]); simp -implicitDefEqProofs [*]) | ((with_reducible refine qaaf ?_); (try simp -implicitDefEqProofs [*])) | ((with_reducible refine qaab rfl (fun h => ?_) (fun h => ?_)) <;> have h' := h <;> (try simp at h') <;> (try subst h')) | fail)
  clear k1 k2 a0 a4 q0 q16 l0 l3
  refine qaaj (qaa5 (fun s (i : Nat) => s.turn [(67, .int .i64 i)] []) (fun i => i ≤ ws.length ∧ F = if (ws.drop i).any wOut = true then 6 else if (t.acts.drop 0).any (aOut acts.length) = true then 1 else qarr t.acts acts t.def_ t.args) (fun i => ws.length - i) 0 ?_ ⟨by simp, hF.out⟩ ?_)
  ·repeat' (first | ((with_reducible refine qaag [] hm ?_ ?_ ?_ ?_) <;> (try simp only [zT, puth, Nat.reduceEqDiff, reduceIte, Nat.reduceAdd])) | (with_reducible first | refine za ?_ ?_ | refine zb ?_ ?_ ?_ ?_) | (with_reducible first | exact qaaa | exact qaac) | ((with_reducible first | refine zga ?_ | refine zgb ?_); rfl) | ((with_reducible refine zgd ?_); (first | omega | (simp; done))) | (exact Co.refl _) | (exact CoL.refl _) | fail)
  rintro J hJ i ⟨h5, h6⟩
  unfold qag8
  simp only [zT, puth, Nat.reduceEqDiff, reduceIte, Nat.reduceAdd] at h5 h6 ⊢
  rcases Nat.lt_or_ge i ws.length with hi | hi
  ·rw [qadr _ hi] at h6
   generalize hxx : ws[i] = x at h6
   have wi : IntKind.i64.wrap ((i : Int) + 1) = (i : Int) + 1 := qaap (by omega) (by omega)
   replace h6 := Lib.hid h6
   cases hv : wOut x
   ·have hv1 : decide (x < 1) = false ∧ decide (48 < x) = false := by simpa [wOut] using hv
    obtain ⟨v1, v2⟩ := hv1
    repeat' (first | (with_reducible first | refine zA ?_ | refine qaae ?_) | ((with_reducible refine qaad ?_); (try rw [hP]); simp -implicitDefEqProofs [*]) | ((with_reducible refine qaaf ?_); (try simp -implicitDefEqProofs [*])) | ((with_reducible refine qaab rfl (fun h => ?_) (fun h => ?_)) <;> have h' := h <;> (try simp at h') <;> (try subst h')) | (with_reducible first | refine za ?_ ?_ | refine zb ?_ ?_ ?_ ?_) | (with_reducible first | exact qaaa | exact qaac) | ((with_reducible first | refine zga ?_ | refine zgb ?_); rfl) | ((with_reducible first | refine zgd ?_ | refine zge ?_); (first | omega | (simp; done))) | (exact Co.refl _) | (exact CoL.refl _) | ((refine qaah hJ (i + 1) ?_ ?_ ?_; (with_reducible refine qaag [] hm ?_ ?_ ?_ ?_) <;> (try simp only [zT, puth, Nat.reduceEqDiff, reduceIte, Nat.reduceAdd]))) | fail)
    exact ⟨by omega, by rw [h6.out, hv, Bool.false_or]⟩
   ·replace hv := Lib.hid hv
    repeat' (first | (with_reducible first | refine zA ?_ | refine qaae ?_) | ((with_reducible refine qaad ?_); (try rw [hP]); simp -implicitDefEqProofs [*]) | ((with_reducible refine qaaf ?_); (try simp -implicitDefEqProofs [*])) | ((with_reducible refine qaa4 ?_); (try simp only [qaa3, qaai, qaao])) | ((with_reducible refine qaab rfl (fun h => ?_) (fun h => ?_)) <;> have h' := h <;> (try simp at h') <;> (try subst h')) | ((with_reducible refine qaa6 (fun h => ?_) (fun h => ?_)) <;> have h' := h <;> (try simp at h') <;> (try subst h') <;> simp -implicitDefEqProofs [*]) | (with_reducible refine zM hm ?_) | (with_reducible first | refine za ?_ ?_ | refine zb ?_ ?_ ?_ ?_) | (with_reducible first | exact qaaa | exact qaac) | ((with_reducible first | refine zga ?_ | refine zgb ?_); rfl) | ((with_reducible first | refine zgd ?_ | refine zge ?_); (first | omega | (simp; done))) | (exact Co.refl _) | (exact CoL.refl _) | ((refine qaah hJ (i + 1) ?_ ?_ ?_; (with_reducible refine qaag [] hm ?_ ?_ ?_ ?_) <;> (try simp only [zT, puth, Nat.reduceEqDiff, reduceIte, Nat.reduceAdd]))) | fail)
    all_goals (first | (exfalso; have q := hv.out; simp only [wOut, Bool.or_eq_true, decide_eq_true_eq] at q; omega) | (rw [h6.out, hv.out]; rfl))
  ·obtain rfl : i = ws.length := by omega
   have h7 : F = if (t.acts.drop 0).any (aOut acts.length) = true then 1 else qarr t.acts acts t.def_ t.args := by rw [h6, List.drop_length]; rfl
   replace h7 := Lib.hid h7
   replace h6 := Lib.hid h6
   repeat' (first | (with_reducible refine zA ?_) | ((with_reducible refine qaad ?_); (try rw [hP]); simp -implicitDefEqProofs [*]) | ((with_reducible refine qaam ?_); (try simp -implicitDefEqProofs [*])) | ((with_reducible refine qaab rfl (fun h => ?_) (fun h => ?_)) <;> have h' := h <;> (try simp at h') <;> (try subst h')) | fail)
   refine qaaj (qaa5 (fun s (i : Nat) => s.turn [(81, .int .i64 i)] []) (fun i => i ≤ t.acts.length ∧ (∀ k ∈ t.acts.take i, aOut acts.length k = false) ∧ F = if (t.acts.drop i).any (aOut acts.length) = true then 1 else qarr t.acts acts t.def_ t.args) (fun i => t.acts.length - i) 0 ?_ ⟨by simp, by simp, h7.out⟩ ?_)
   ·repeat' (first | ((with_reducible refine qaag [] hm ?_ ?_ ?_ ?_) <;> (try simp only [zT, puth, Nat.reduceEqDiff, reduceIte, Nat.reduceAdd])) | (with_reducible first | refine za ?_ ?_ | refine zb ?_ ?_ ?_ ?_) | (with_reducible first | exact qaaa | exact qaac) | ((with_reducible first | refine zga ?_ | refine zgb ?_); rfl) | ((with_reducible refine zgd ?_); (first | omega | (simp; done))) | (exact Co.refl _) | (exact CoL.refl _) | fail)
   rintro J hJ i ⟨h8, h9, h10⟩
   unfold qag7
   simp only [zT, puth, Nat.reduceEqDiff, reduceIte, Nat.reduceAdd] at h8 h9 h10 ⊢
   replace h9 := Lib.hid h9
   rcases Nat.lt_or_ge i t.acts.length with hi | hi
   ·rw [qadr _ hi] at h10
    have htk : t.acts.take (i + 1) = t.acts.take i ++ [t.acts[i]] := List.take_succ_eq_append_getElem hi
    generalize hxx : t.acts[i] = x at h10 htk
    have wi : IntKind.i64.wrap ((i : Int) + 1) = (i : Int) + 1 := qaap (by omega) (by omega)
    replace h10 := Lib.hid h10
    replace htk := Lib.hid htk
    cases hv : aOut acts.length x
    ·have hv1 : decide (x < 0) = false ∧ decide ((acts.length : Int) ≤ x) = false := by simpa [aOut] using hv
     obtain ⟨v1, v2⟩ := hv1
     replace hv := Lib.hid hv
     repeat' (first | (with_reducible first | refine zA ?_ | refine qaae ?_) | ((with_reducible refine qaad ?_); (try rw [hP]); simp -implicitDefEqProofs [*]) | ((with_reducible refine qaaf ?_); (try simp -implicitDefEqProofs [*])) | ((with_reducible refine qaab rfl (fun h => ?_) (fun h => ?_)) <;> have h' := h <;> (try simp at h') <;> (try subst h')) | (with_reducible first | refine za ?_ ?_ | refine zb ?_ ?_ ?_ ?_) | (with_reducible first | exact qaaa | exact qaac) | ((with_reducible first | refine zga ?_ | refine zgb ?_); rfl) | ((with_reducible first | refine zgd ?_ | refine zge ?_); (first | omega | (simp; done))) | (exact Co.refl _) | (exact CoL.refl _) | ((refine qaah hJ (i + 1) ?_ ?_ ?_; (with_reducible refine qaag [] hm ?_ ?_ ?_ ?_) <;> (try simp only [zT, puth, Nat.reduceEqDiff, reduceIte, Nat.reduceAdd]))) | fail)
     refine ⟨by omega, fun k hk => ?_, by rw [h10.out, hv.out, Bool.false_or]⟩
     rw [htk.out, List.mem_append] at hk
     rcases hk with hk | hk
     ·exact h9.out k hk
     ·rw [List.mem_singleton.1 hk]; exact hv.out
    ·replace hv := Lib.hid hv
     repeat' (first | (with_reducible first | refine zA ?_ | refine qaae ?_) | ((with_reducible refine qaad ?_); (try rw [hP]); simp -implicitDefEqProofs [*]) | ((with_reducible refine qaaf ?_); (try simp -implicitDefEqProofs [*])) | ((with_reducible refine qaa4 ?_); (try simp only [qaa3, qaai, qaao])) | ((with_reducible refine qaab rfl (fun h => ?_) (fun h => ?_)) <;> have h' := h <;> (try simp at h') <;> (try subst h')) | ((with_reducible refine qaa6 (fun h => ?_) (fun h => ?_)) <;> have h' := h <;> (try simp at h') <;> (try subst h') <;> simp -implicitDefEqProofs [*]) | (with_reducible refine zM hm ?_) | (with_reducible first | refine za ?_ ?_ | refine zb ?_ ?_ ?_ ?_) | (with_reducible first | exact qaaa | exact qaac) | ((with_reducible first | refine zga ?_ | refine zgb ?_); rfl) | ((with_reducible first | refine zgd ?_ | refine zge ?_); (first | omega | (simp; done))) | (exact Co.refl _) | (exact CoL.refl _) | ((refine qaah hJ (i + 1) ?_ ?_ ?_; (with_reducible refine qaag [] hm ?_ ?_ ?_ ?_) <;> (try simp only [zT, puth, Nat.reduceEqDiff, reduceIte, Nat.reduceAdd]))) | fail)
     all_goals (first | (exfalso; have q := hv.out; simp only [aOut, Bool.or_eq_true, decide_eq_true_eq] at q; omega) | (rw [h10.out, hv.out]; rfl))
   ·obtain rfl : i = t.acts.length := by omega
    have h11 : ∀ k ∈ t.acts, 0 ≤ k ∧ k < acts.length := fun k hk => by
     have := h9.out k (by rw [List.take_length]; exact hk)
     unfold aOut at this; rw [Bool.or_eq_false_iff, decide_eq_false_iff_not, decide_eq_false_iff_not] at this; omega
    have h12 : F = qarr t.acts acts t.def_ t.args := by rw [h10, List.drop_length]; rfl
    have hs := hsays.out h11
    replace hs := Lib.hid hs
    replace h11 := Lib.hid h11
    replace h10 := Lib.hid h10
    replace h12 := Lib.hid h12
    repeat' (first | (with_reducible refine zA ?_) | ((with_reducible refine qaad ?_); (try rw [hP]); simp -implicitDefEqProofs [*]) | ((with_reducible refine qaam ?_); (try simp -implicitDefEqProofs [*])) | ((with_reducible refine qaa4 ?_); (try simp only [qaa3, qaai, qaao])) | ((with_reducible refine qaab rfl (fun h => ?_) (fun h => ?_)) <;> have h' := h <;> (try simp at h') <;> (try subst h')) | (refine qacl (hs.out _) ?_; simp -implicitDefEqProofs [*]) | (with_reducible refine zM hm ?_) | fail)
    rw [h12.out]
end Go.Proofs.Ytbefmmajjfijnaa
namespace Go.Proofs.Ytbefmmajjfijnaa
set_option linter.all false
open Go.RowKit
attribute [local simp] qabl qabk qaav qaa9 qaaw qaa8 qabi qabj qaaq qab6 SOp.run SX.ev putd puts argS upds SOp.touch SSt.keep SSt.skip gets geth puth delh idOf SV.cells? setL qaeb qaec sbin eq0 eq1 eqL qadx qac0 qac1 qaa3 qabm qaai qabn qab7 qaao qaan FrzOk qabc qaay qaba qabb qaar qaax qabo qaaz qaat qabd qaas frzS frzH frz frz1 frz0 SlotsM ObjsM ObjM rn ren ren1 ren0 qaca qacx qacs qab9 qabp qac3 qac2 CoL qabe qaby dels adds idsH qabu
attribute [local simp] qaj1 refc qagg qag3 qade opc actc tabc qagu qadj nums jc
theorem qaoe (p : PlanD) (t : TabD) (hl : t.keys.length ≤ 1000000) (q : Nat) : SCalls Try.prog 53 [.agg (qadj p), .agg (tabc t)] [] q (nums .i64 (qacc p t)) [] := qacq (qa18 p t hl) (fun _ => rfl) (fun _ => rfl) rfl q
theorem jtabs_s (p : PlanD) (hs : SmallP p) (a b : Int) (ha : a = 0 → AW p.acts) : SCalls Try.prog 25 [.ptr 0 0] [(0, .cells 80 (jc p a b))] 1 (.tup []) [(0, .cells 80 (jc p (orF (a, b) (qaxg p)).1 (orF (a, b) (qaxg p)).2))] := by
 refine qaau (N := 76) Try.func25 rfl rfl (by kernel_rfl) qaky (by simp) (by repeat' (first | exact trivial | refine And.intro ?_ ?_ | rfl | decide | exact PureR.ren _)) (by repeat' (first | exact trivial | refine And.intro ?_ ?_ | rfl | decide | exact PureR.ren _)) ?_
 rintro X hP hN hm
 have hF : orF (a, b) (qaxg p) = orF (qabx a b (decide (5 < (p.tabs.length : Int))) 2 (-5)) (rowF (fun _ t => tabF p t) 5000 0 p.tabs) := by
  unfold qaxg; rw [qadp]; congr 3; exact propext (by omega)
 generalize orF (a, b) (qaxg p) = F at hF
 replace hF := Lib.hid hF
 have hla := hs.tabs
 have hE : (qabx a b (decide (5 < (p.tabs.length : Int))) 2 (-5)).1 = 0 → AW p.acts := fun h => ha (by
  unfold qabx at h; by_cases h0 : a = 0
  ·exact h0
  ·rw [if_neg (fun hh => h0 hh.2)] at h; exact h)
 replace hE := Lib.hid hE
 replace ha := Lib.hid ha
 unfold c_jtabs
 repeat' (first | (with_reducible refine zA ?_) | ((with_reducible refine qaad ?_); (try rw [hP]); simp -implicitDefEqProofs [*]) | (refine qaal (qaak p _ _ _ _ _ _ _ (by simp)) ⟨rfl, trivial⟩ ⟨rfl, trivial⟩ ?_; simp -implicitDefEqProofs [*]) | fail)
 refine qaaj (qaa5 (fun s (x : Nat × Int × Int) => s.turn [(2, .int .i64 x.1)] [(0, .cells 80 (jc p x.2.1 x.2.2))]) (fun x => x.1 ≤ p.tabs.length ∧ (x.2.1 = 0 → AW p.acts) ∧ F = orF (x.2.1, x.2.2) (rowF (fun _ t => tabF p t) 5000 x.1 (p.tabs.drop x.1))) (fun x => p.tabs.length - x.1) (0, _, _) ?_ ⟨by simp, hE.out, hF⟩ ?_)
 ·repeat' (first | ((with_reducible refine qaag [] hm ?_ ?_ ?_ ?_) <;> (try simp only [zT, puth, Nat.reduceEqDiff, reduceIte, Nat.reduceAdd])) | (with_reducible first | refine za ?_ ?_ | refine zb ?_ ?_ ?_ ?_) | (with_reducible first | exact qaaa | exact qaac) | ((with_reducible first | refine zga ?_ | refine zgb ?_); rfl) | ((with_reducible refine zgd ?_); (first | omega | (simp; done))) | (exact Co.refl _) | (exact CoL.refl _) | fail)
 rintro J hJ ⟨i, e, g⟩ ⟨h1, h0, h2⟩
 unfold qajb
 simp only [zT, puth, Nat.reduceEqDiff, reduceIte, Nat.reduceAdd] at h1 h0 h2 ⊢
 rcases Nat.lt_or_ge i p.tabs.length with hi | hi
 ·have hxm : p.tabs[i] ∈ p.tabs := List.getElem_mem hi
  have hw := hs.keys _ hxm
  rw [qadl _ _ hi] at h2
  generalize hxx : p.tabs[i] = x at h2 hw
  by_cases he : e = 0
  ·subst he
   rw [qad9] at h2
   have wi : IntKind.i64.wrap ((i : Int) + 1) = (i : Int) + 1 := qaap (by omega) (by omega)
   have wa : IntKind.i64.wrap (5000 + (i : Int)) = 5000 + (i : Int) := qaap (by omega) (by omega)
   have hAW := h0 rfl
   have hlw : (qacc p x).length ≤ 1000000 := by unfold qacc; rw [List.length_map]; omega
   have hla2 := hs.acts
   have hc1 := fun q => qa2c x (qacc p x) p.acts hAW (by omega) (by omega) hlw (by omega) q
   have hc2 := fun q => qaf5 (qacc p x) 0 hlw q
   have hc3 := fun q => qaoe p x (by omega) q
   have hA : orF (0, g) (tabF p x, 5000 + (i : Int)) = orF (qabx (qabx 0 g (decide (3 < (x.keys.length : Int))) 2 (5000 + i)).1 (qabx 0 g (decide (3 < (x.keys.length : Int))) 2 (5000 + i)).2 ((qacc p x).contains 0) 1 (5000 + i)) (qaeo x (qacc p x) p.acts, 5000 + (i : Int)) := by
    have : tabF p x = if decide (3 < (x.keys.length : Int)) = true then 2 else if (qacc p x).contains 0 = true then 1 else qaeo x (qacc p x) p.acts := by
     unfold tabF; simp only [decide_eq_true_eq]; congr 1; exact propext (by omega)
    rw [this, qacg _ _ _ _ _ _ (by decide)]
    exact qacg _ _ _ _ _ _ (by decide)
   generalize orF (0, g) (tabF p x, 5000 + (i : Int)) = A at hA h2
   generalize qaeo x (qacc p x) p.acts = T at hA hc1
   generalize (qacc p x).contains 0 = C at hA hc2
   generalize qacc p x = W at hc1 hc2 hc3
   rw [← qah7] at hA
   have kT : (T != 0) = decide (T ≠ 0) := by rw [Bool.eq_iff_iff]; simp
   unfold qadc at hA
   rw [← kT] at hA
   replace hAW := Lib.hid hAW
   replace h0 := Lib.hid h0
   replace hA := Lib.hid hA
   replace h2 := Lib.hid h2
   replace hc1 := Lib.hid hc1
   replace hc2 := Lib.hid hc2
   replace hc3 := Lib.hid hc3
   clear kT
   repeat' (first | (with_reducible first | refine zA ?_ | refine qaae ?_ | refine zK ?_) | ((with_reducible first | refine qaad ?_ | refine qacm (by rw [hP]; exact qanx) ?_); (try rw [hP]); simp -implicitDefEqProofs [*]) | ((with_reducible refine qaaf ?_); (try simp -implicitDefEqProofs [*])) | ((with_reducible refine qaab rfl (fun h => ?_) (fun h => ?_)) <;> have h' := h <;> (try simp at h') <;> (try subst h')) | ((first | refine qaal (qaak p _ _ _ _ _ _ _ (by simp)) ⟨rfl, trivial⟩ ⟨rfl, trivial⟩ ?_ | refine qacl (hc1.out _) ?_ | refine qacl (hc2.out _) ?_ | refine qacl (hc3.out _) ?_); simp -implicitDefEqProofs [*]) | (with_reducible first | refine za ?_ ?_ | refine zb ?_ ?_ ?_ ?_) | (with_reducible first | exact qaaa | exact qaac) | ((with_reducible first | refine zga ?_ | refine zgb ?_); rfl) | ((with_reducible first | refine zgd ?_ | refine zge ?_); (first | omega | (simp; done))) | (exact Co.refl _) | (exact CoL.refl _) | ((refine qaah hJ (i + 1, ?_, ?_) ?_ ?_ ?_; rotate_left 2; (with_reducible refine qaag [] hm ?_ ?_ ?_ ?_) <;> (try simp only [zT, puth, Nat.reduceEqDiff, reduceIte, Nat.reduceAdd]))) | fail)
   all_goals (try dsimp only)
   all_goals (refine ⟨by omega, fun _ => hAW.out, ?_⟩; rw [h2.out]; congr 1; try exact hA.out)
  ·have ke : (e == 0) = false := by simpa using he
   replace h2 := Lib.hid h2
   replace h0 := Lib.hid h0
   repeat' (first | (with_reducible refine zA ?_) | ((with_reducible refine qaad ?_); (try rw [hP]); simp -implicitDefEqProofs [*]) | ((with_reducible refine qaam ?_); (try simp -implicitDefEqProofs [*])) | ((with_reducible refine qaab rfl (fun h => ?_) (fun h => ?_)) <;> have h' := h <;> (try simp at h') <;> (try subst h')) | (refine qab4 hm rfl ?_ (fun σ => rfl)) | fail)
   rw [h2.out, qafd he]
 ·obtain rfl : i = p.tabs.length := by omega
  rw [List.drop_length] at h2
  replace h2 := Lib.hid h2
  replace h0 := Lib.hid h0
  repeat' (first | (with_reducible refine zA ?_) | ((with_reducible refine qaad ?_); (try rw [hP]); simp -implicitDefEqProofs [*]) | ((with_reducible refine qaam ?_); (try simp -implicitDefEqProofs [*])) | ((with_reducible refine qaab rfl (fun h => ?_) (fun h => ?_)) <;> have h' := h <;> (try simp at h') <;> (try subst h')) | (refine qab4 hm rfl ?_ (fun σ => rfl)) | fail)
  rw [h2.out, qace _ rfl]
end Go.Proofs.Ytbefmmajjfijnaa
namespace Go.Proofs.Ytbefmmajjfijnaa
set_option linter.all false
open Go.RowKit
attribute [local simp] qabl qabk qaav qaa9 qaaw qaa8 qabi qabj qaaq qab6 SOp.run SX.ev putd puts argS upds SOp.touch SSt.keep SSt.skip gets geth puth delh idOf SV.cells? setL qaeb qaec sbin eq0 eq1 eqL qadx qac0 qac1 qaa3 qabm qaai qabn qab7 qaao qaan FrzOk qabc qaay qaba qabb qaar qaax qabo qaaz qaat qabd qaas frzS frzH frz frz1 frz0 SlotsM ObjsM ObjM rn ren ren1 ren0 qaca qacx qacs qab9 qabp qac3 qac2 CoL qabe qaby dels adds idsH qabu
attribute [local simp] qaj1 refc qagg qag3 qade opc actc tabc qagu qadj nums jc
theorem qabz (g c at_ : Int) : qabx 0 g true c at_ = (c, at_) := rfl
theorem qab0 (a b c at_ : Int) : qabx a b false c at_ = (a, b) := by simp [qabx]
theorem qad6 (p : PlanD) (i to_ e g R at_ : Int) : orF (e, g) (if toF p i to_ = 0 then R else toF p i to_, at_) = orF (qabx (qabx e g (decide (to_ < 0) || decide ((p.nodes.length : Int) < to_)) 1 at_).1 (qabx e g (decide (to_ < 0) || decide ((p.nodes.length : Int) < to_)) 1 at_).2 (decide (to_ ≤ i)) 11 at_) (R, at_) := by
 unfold toF orF qabx
 by_cases h1 : to_ < 0 <;> by_cases h2 : (p.nodes.length : Int) < to_ <;> by_cases h3 : to_ ≤ i <;> by_cases he : e = 0 <;> by_cases hr : R = 0 <;> simp [h1, h2, h3, he, hr]
def qayc (p : PlanD) (i : Int) (n : NodeD) : Int :=
 if n.kind = 1 then (if (decide (n.n < 0) || decide ((p.tabs.length : Int) ≤ n.n)) = true then 1 else qack (toF p i) ([n.yes].drop 0))
 else if n.kind = 2 then (if (decide (n.n < 0) || decide ((p.acts.length : Int) ≤ n.n)) = true then 1 else if decide (0 < ((actW p.acts n.n).length : Int)) = true then 2 else qack (toF p i) ([n.yes].drop 0))
 else if n.kind = 3 then (if qahz p n.e [] = 0 then qack (toF p i) ([n.yes, n.no].drop 0) else qahz p n.e [])
 else if n.kind = 4 then (if (!qadu p n.n) = true then 1 else qack (toF p i) ([n.yes, n.no].drop 0))
 else 5
theorem first1 (f : Int → Int) (x : Int) : qack f ([x].drop 0) = f x := by
 unfold qack; simp only [List.drop_zero]; unfold qack
 by_cases h : f x = 0 <;> simp [h]
theorem first2 (f : Int → Int) (x y : Int) : qack f ([x, y].drop 0) = if f x ≠ 0 then f x else f y := by
 simp only [List.drop_zero, qack]
 by_cases h : f x = 0 <;> by_cases h2 : f y = 0 <;> simp [h, h2]
theorem qayb (p : PlanD) (i : Int) (n : NodeD) : qa26 p i n = qayc p i n := by
 have e1 : ∀ (b c : Prop) [Decidable b] [Decidable c], ((decide b || decide c) = true) = (b ∨ c) := fun b c _ _ => by simp
 unfold qa26 qayc
 by_cases k1 : n.kind = 1
 ·rw [if_pos k1, if_pos k1, first1]; simp only [e1]
 rw [if_neg k1, if_neg k1]
 by_cases k2 : n.kind = 2
 ·rw [if_pos k2, if_pos k2, first1]; simp only [e1, decide_eq_true_eq]
  have : (0 < (actW p.acts n.n).length) = (0 < ((actW p.acts n.n).length : Int)) := propext (by omega)
  simp only [this]
 rw [if_neg k2, if_neg k2]
 by_cases k3 : n.kind = 3
 ·rw [if_pos k3, if_pos k3, first2]; simp only [ne_eq, ite_not]
 rw [if_neg k3, if_neg k3]
 by_cases k4 : n.kind = 4
 ·rw [if_pos k4, if_pos k4, first2]
  cases qadu p n.n <;> rfl
 rw [if_neg k4, if_neg k4]
def qagf (p : PlanD) (i : Int) (l : List Int) : Int := qack (toF p i) l
set_option maxHeartbeats 8000000 in
theorem qa3j (p : PlanD) (hs : SmallP p) (a b : Int) : SCalls Try.prog 26 [.ptr 0 0] [(0, .cells 80 (jc p a b))] 1 (.tup []) [(0, .cells 80 (jc p (orF (a, b) (qagh p)).1 (orF (a, b) (qagh p)).2))] := by
 refine qaau (N := 162) Try.func26 rfl rfl (by kernel_rfl) qaiw (by simp) (by repeat' (first | exact trivial | refine And.intro ?_ ?_ | rfl | decide | exact PureR.ren _)) (by repeat' (first | exact trivial | refine And.intro ?_ ?_ | rfl | decide | exact PureR.ren _)) ?_
 rintro X hP hN hm
 have hF : orF (a, b) (qagh p) = orF (qabx a b (decide (10 < (p.nodes.length : Int))) 2 (-6)) (rowF (fun i n => qa26 p i n) 6000 0 p.nodes) := by
  unfold qagh; rw [qadp]; congr 3; exact propext (by omega)
 generalize orF (a, b) (qagh p) = F at hF
 replace hF := Lib.hid hF
 have hla := hs.nodes
 have hla2 := hs.acts
 unfold c_jnodes
 repeat' (first | (with_reducible refine zA ?_) | ((with_reducible refine qaad ?_); (try rw [hP]); simp -implicitDefEqProofs [*]) | (refine qaal (qaak p _ _ _ _ _ _ _ (by simp)) ⟨rfl, trivial⟩ ⟨rfl, trivial⟩ ?_; simp -implicitDefEqProofs [*]) | fail)
 refine qaaj (qaa5 (fun s (x : Nat × Int × Int) => s.turn [(2, .int .i64 x.1)] [(0, .cells 80 (jc p x.2.1 x.2.2))]) (fun x => x.1 ≤ p.nodes.length ∧ F = orF (x.2.1, x.2.2) (rowF (fun i n => qa26 p i n) 6000 x.1 (p.nodes.drop x.1))) (fun x => p.nodes.length - x.1) (0, _, _) ?_ ⟨by simp, hF⟩ ?_)
 ·repeat' (first | ((with_reducible refine qaag [] hm ?_ ?_ ?_ ?_) <;> (try simp only [zT, puth, Nat.reduceEqDiff, reduceIte, Nat.reduceAdd])) | (with_reducible first | refine za ?_ ?_ | refine zb ?_ ?_ ?_ ?_) | (with_reducible first | exact qaaa | exact qaac) | ((with_reducible first | refine zga ?_ | refine zgb ?_); rfl) | ((with_reducible refine zgd ?_); (first | omega | (simp; done))) | (exact Co.refl _) | (exact CoL.refl _) | fail)
 rintro J hJ ⟨i, e, g⟩ ⟨h1, h2⟩
 have hJo := hJ
 unfold qahe
 simp only [zT, puth, Nat.reduceEqDiff, reduceIte, Nat.reduceAdd] at h1 h2 ⊢
 rcases Nat.lt_or_ge i p.nodes.length with hi | hi
 ·have hxm : p.nodes[i] ∈ p.nodes := List.getElem_mem hi
  have hw := hs.node _ hxm
  rw [qadl _ _ hi] at h2
  generalize hxx : p.nodes[i] = x at h2 hw
  by_cases he : e = 0
  ·subst he
   rw [qad9] at h2
   have wi : IntKind.i64.wrap ((i : Int) + 1) = (i : Int) + 1 := qaap (by omega) (by omega)
   have wa : IntKind.i64.wrap (6000 + (i : Int)) = 6000 + (i : Int) := qaap (by omega) (by omega)
   have hA : orF (0, g) (qa26 p i x, 6000 + (i : Int)) = orF (0, g) (qayc p i x, 6000 + (i : Int)) := by rw [qayb]
   generalize orF (0, g) (qa26 p i x, 6000 + (i : Int)) = A at hA h2
   replace h2 := Lib.hid h2
   unfold qayc at hA
   have kinds : (x.kind = 1 ∨ x.kind = 2) ∨ (¬ x.kind = 1 ∧ ¬ x.kind = 2) := by omega
   rcases kinds with k | ⟨kn1, kn2⟩
   ·have hA2 : (x.kind = 1 ∧ A = orF (qabx 0 g (decide (x.n < 0) || decide ((p.tabs.length : Int) ≤ x.n)) 1 (6000 + i)) (qagf p i ([x.yes].drop 0), 6000 + (i : Int))) ∨ (x.kind = 2 ∧ x.n < 0 ∧ A = (1, 6000 + (i : Int))) ∨ (x.kind = 2 ∧ (p.acts.length : Int) ≤ x.n ∧ 0 ≤ x.n ∧ A = (1, 6000 + (i : Int))) ∨ (x.kind = 2 ∧ 0 ≤ x.n ∧ x.n < p.acts.length ∧ A = orF (qabx 0 g (decide (0 < ((actW p.acts x.n).length : Int))) 2 (6000 + i)) (qagf p i ([x.yes].drop 0), 6000 + (i : Int))) := by
     rcases k with k | k
     ·rw [if_pos k, qacg _ _ _ _ _ _ (by decide)] at hA
      exact .inl ⟨k, hA⟩
     ·rw [if_neg (by omega), if_pos k] at hA
      by_cases n1 : x.n < 0
      ·refine .inr (.inl ⟨k, n1, ?_⟩)
       rw [hA, if_pos (by simp [n1])]; rfl
      ·by_cases n2 : (p.acts.length : Int) ≤ x.n
       ·refine .inr (.inr (.inl ⟨k, n2, by omega, ?_⟩))
        rw [hA, if_pos (by simp [n2])]; rfl
       ·refine .inr (.inr (.inr ⟨k, by omega, by omega, ?_⟩))
        rw [hA, if_neg (by simp [n1, n2]), qacg _ _ _ _ _ _ (by decide)]; rfl
    clear hA k
    rcases hA2 with ⟨k, hA⟩ | ⟨k, n1, hA⟩ | ⟨k, n2, n1, hA⟩ | ⟨k, n1, n2, hA⟩
    ·have k1 : (x.kind == 1) = true := by simpa using k
     replace k := Lib.hid k
     cases kn : decide (x.n < 0) <;> simp only [kn, Bool.true_or, Bool.false_or] at hA <;> have hI := hA <;> replace hI := Lib.hid hI <;> clear hA
     all_goals
      repeat' (first | (with_reducible first | refine zA ?_ | refine qaae ?_ | refine zK ?_) | ((with_reducible first | refine qaad ?_ | refine qacm (by rw [hP]; exact qanx) ?_); (try rw [hP]); simp -implicitDefEqProofs [qabz, qab0, *]) | ((with_reducible refine qaaf ?_); (try simp -implicitDefEqProofs [qabz, qab0, *])) | ((with_reducible refine qaab rfl (fun h => ?_) (fun h => ?_)) <;> have h' := h <;> (try simp at h') <;> (try subst h')) | (refine qaal (qaak p _ _ _ _ _ _ _ (by simp)) ⟨rfl, trivial⟩ ⟨rfl, trivial⟩ ?_; simp -implicitDefEqProofs [qabz, qab0, *]) | fail)
      refine qaaj (qaa5 (fun s (y : Nat × Int × Int) => s.turn [(136, .int .i64 y.1)] [(0, .cells 80 (jc p y.2.1 y.2.2))]) (fun y => y.1 ≤ 1 ∧ A = orF (y.2.1, y.2.2) (qagf p i ([x.yes].drop y.1), 6000 + (i : Int))) (fun y => 1 - y.1) (0, _, _) ?_ ⟨by simp, hI.out⟩ ?_)
      ·repeat' (first | ((with_reducible refine qaag [] hm ?_ ?_ ?_ ?_) <;> (try simp only [zT, puth, Nat.reduceEqDiff, reduceIte, Nat.reduceAdd])) | (with_reducible first | refine za ?_ ?_ | refine zb ?_ ?_ ?_ ?_ | refine zd ?_ ?_ ?_ ?_) | (with_reducible first | exact qaaa | exact qaac) | ((with_reducible first | refine zga ?_ | refine zgb ?_); rfl) | ((with_reducible refine zgd ?_); (first | omega | (simp; done))) | (exact Co.refl _) | (exact CoL.refl _) | (exact CoLL.refl _) | fail)
      rintro J hJ ⟨k, e1, g1⟩ ⟨h3, h4⟩
      unfold qacj
      simp only [zT, puth, Nat.reduceEqDiff, reduceIte, Nat.reduceAdd] at h3 h4 ⊢
      have hk : k = 0 ∨ k = 1 := by omega
      rcases hk with rfl | rfl
      ·have h5 := h4.trans (qad6 p i x.yes e1 g1 (qagf p i []) (6000 + (i : Int)))
       clear h4
       cases kd : decide (x.yes < 0) <;> simp only [kd, Bool.true_or, Bool.false_or] at h5 <;> replace h5 := Lib.hid h5
       all_goals
        repeat' (first | (with_reducible first | refine zA ?_ | refine qaae ?_) | ((with_reducible refine qaad ?_); (try rw [hP]); simp -implicitDefEqProofs [*]) | ((with_reducible refine qaaf ?_); (try simp -implicitDefEqProofs [*])) | ((with_reducible refine qaab rfl (fun h => ?_) (fun h => ?_)) <;> have h' := h <;> (try simp at h') <;> (try subst h')) | (refine qaal (qaak p _ _ _ _ _ _ _ (by simp)) ⟨rfl, trivial⟩ ⟨rfl, trivial⟩ ?_; simp -implicitDefEqProofs [*]) | (with_reducible first | refine za ?_ ?_ | refine zb ?_ ?_ ?_ ?_ | refine zd ?_ ?_ ?_ ?_) | (with_reducible first | exact qaaa | exact qaac) | ((with_reducible first | refine zga ?_ | refine zgb ?_); rfl) | ((with_reducible first | refine zgd ?_ | refine zge ?_); (first | omega | (simp; done))) | (exact Co.refl _) | (exact CoL.refl _) | (exact CoLL.refl _) | ((refine qaah hJ (1, ?_, ?_) ?_ ?_ ?_; rotate_left 2; (with_reducible refine qaag [] hm ?_ ?_ ?_ ?_) <;> (try simp only [zT, puth, Nat.reduceEqDiff, reduceIte, Nat.reduceAdd]))) | fail)
        all_goals (try dsimp only)
        all_goals (exact ⟨by omega, h5.out⟩)
      ·replace h4 := Lib.hid h4
       repeat' (first | (with_reducible refine zA ?_) | ((with_reducible refine qaad ?_); (try rw [hP]); simp -implicitDefEqProofs [*]) | ((with_reducible refine qaam ?_); (try simp -implicitDefEqProofs [*])) | ((with_reducible refine qaab rfl (fun h => ?_) (fun h => ?_)) <;> have h' := h <;> (try simp at h') <;> (try subst h')) | (with_reducible first | refine za ?_ ?_ | refine zb ?_ ?_ ?_ ?_) | (with_reducible first | exact qaaa | exact qaac) | ((with_reducible first | refine zga ?_ | refine zgb ?_); rfl) | ((with_reducible first | refine zgd ?_ | refine zge ?_); (first | omega | (simp; done))) | (exact Co.refl _) | (exact CoL.refl _) | ((refine qaah hJo (i + 1, ?_, ?_) ?_ ?_ ?_; rotate_left 2; (with_reducible refine qaag [] hm ?_ ?_ ?_ ?_) <;> (try simp only [zT, puth, Nat.reduceEqDiff, reduceIte, Nat.reduceAdd]))) | fail)
       all_goals (try dsimp only)
       all_goals (refine ⟨by omega, ?_⟩; rw [h2.out]; congr 1; rw [h4.out]; exact qace _ rfl)
    ·have k1 : (x.kind == 1) = false := by rw [k]; rfl
     have k2 : (x.kind == 2) = true := by simpa using k
     have kn : decide (x.n < 0) = true := by simpa using n1
     have hI : A = orF (1, 6000 + (i : Int)) (qagf p i ([x.yes].drop 0), 6000 + (i : Int)) := hA
     clear k n1 hA
     replace hI := Lib.hid hI
     repeat' (first | (with_reducible first | refine zA ?_ | refine qaae ?_ | refine zK ?_) | ((with_reducible first | refine qaad ?_ | refine qacm (by rw [hP]; exact qanx) ?_); (try rw [hP]); simp -implicitDefEqProofs [qabz, qab0, *]) | ((with_reducible refine qaaf ?_); (try simp -implicitDefEqProofs [qabz, qab0, *])) | ((with_reducible refine qaab rfl (fun h => ?_) (fun h => ?_)) <;> have h' := h <;> (try simp at h') <;> (try subst h')) | (refine qaal (qaak p _ _ _ _ _ _ _ (by simp)) ⟨rfl, trivial⟩ ⟨rfl, trivial⟩ ?_; simp -implicitDefEqProofs [qabz, qab0, *]) | fail)
     refine qaaj (qaa5 (fun s (y : Nat × Int × Int) => s.turn [(136, .int .i64 y.1)] [(0, .cells 80 (jc p y.2.1 y.2.2))]) (fun y => y.1 ≤ 1 ∧ A = orF (y.2.1, y.2.2) (qagf p i ([x.yes].drop y.1), 6000 + (i : Int))) (fun y => 1 - y.1) (0, _, _) ?_ ⟨by simp, hI.out⟩ ?_)
     ·repeat' (first | ((with_reducible refine qaag [] hm ?_ ?_ ?_ ?_) <;> (try simp only [zT, puth, Nat.reduceEqDiff, reduceIte, Nat.reduceAdd])) | (with_reducible first | refine za ?_ ?_ | refine zb ?_ ?_ ?_ ?_ | refine zd ?_ ?_ ?_ ?_) | (with_reducible first | exact qaaa | exact qaac) | ((with_reducible first | refine zga ?_ | refine zgb ?_); rfl) | ((with_reducible refine zgd ?_); (first | omega | (simp; done))) | (exact Co.refl _) | (exact CoL.refl _) | (exact CoLL.refl _) | fail)
     rintro J hJ ⟨k, e1, g1⟩ ⟨h3, h4⟩
     unfold qacj
     simp only [zT, puth, Nat.reduceEqDiff, reduceIte, Nat.reduceAdd] at h3 h4 ⊢
     have hk : k = 0 ∨ k = 1 := by omega
     rcases hk with rfl | rfl
     ·have h5 := h4.trans (qad6 p i x.yes e1 g1 (qagf p i []) (6000 + (i : Int)))
      clear h4
      cases kd : decide (x.yes < 0) <;> simp only [kd, Bool.true_or, Bool.false_or] at h5 <;> replace h5 := Lib.hid h5
      all_goals
       repeat' (first | (with_reducible first | refine zA ?_ | refine qaae ?_) | ((with_reducible refine qaad ?_); (try rw [hP]); simp -implicitDefEqProofs [*]) | ((with_reducible refine qaaf ?_); (try simp -implicitDefEqProofs [*])) | ((with_reducible refine qaab rfl (fun h => ?_) (fun h => ?_)) <;> have h' := h <;> (try simp at h') <;> (try subst h')) | (refine qaal (qaak p _ _ _ _ _ _ _ (by simp)) ⟨rfl, trivial⟩ ⟨rfl, trivial⟩ ?_; simp -implicitDefEqProofs [*]) | (with_reducible first | refine za ?_ ?_ | refine zb ?_ ?_ ?_ ?_ | refine zd ?_ ?_ ?_ ?_) | (with_reducible first | exact qaaa | exact qaac) | ((with_reducible first | refine zga ?_ | refine zgb ?_); rfl) | ((with_reducible first | refine zgd ?_ | refine zge ?_); (first | omega | (simp; done))) | (exact Co.refl _) | (exact CoL.refl _) | (exact CoLL.refl _) | ((refine qaah hJ (1, ?_, ?_) ?_ ?_ ?_; rotate_left 2; (with_reducible refine qaag [] hm ?_ ?_ ?_ ?_) <;> (try simp only [zT, puth, Nat.reduceEqDiff, reduceIte, Nat.reduceAdd]))) | fail)
       all_goals (try dsimp only)
       all_goals (exact ⟨by omega, h5.out⟩)
     ·replace h4 := Lib.hid h4
      repeat' (first | (with_reducible refine zA ?_) | ((with_reducible refine qaad ?_); (try rw [hP]); simp -implicitDefEqProofs [*]) | ((with_reducible refine qaam ?_); (try simp -implicitDefEqProofs [*])) | ((with_reducible refine qaab rfl (fun h => ?_) (fun h => ?_)) <;> have h' := h <;> (try simp at h') <;> (try subst h')) | (with_reducible first | refine za ?_ ?_ | refine zb ?_ ?_ ?_ ?_) | (with_reducible first | exact qaaa | exact qaac) | ((with_reducible first | refine zga ?_ | refine zgb ?_); rfl) | ((with_reducible first | refine zgd ?_ | refine zge ?_); (first | omega | (simp; done))) | (exact Co.refl _) | (exact CoL.refl _) | ((refine qaah hJo (i + 1, ?_, ?_) ?_ ?_ ?_; rotate_left 2; (with_reducible refine qaag [] hm ?_ ?_ ?_ ?_) <;> (try simp only [zT, puth, Nat.reduceEqDiff, reduceIte, Nat.reduceAdd]))) | fail)
      all_goals (try dsimp only)
      all_goals (refine ⟨by omega, ?_⟩; rw [h2.out]; congr 1; rw [h4.out]; exact qace _ rfl)
    ·have k1 : (x.kind == 1) = false := by rw [k]; rfl
     have k2 : (x.kind == 2) = true := by simpa using k
     have kn : decide (x.n < 0) = false := by simpa using n1
     have kn2 : decide ((p.acts.length : Int) ≤ x.n) = true := by simpa using n2
     have hI : A = orF (1, 6000 + (i : Int)) (qagf p i ([x.yes].drop 0), 6000 + (i : Int)) := hA
     clear k n1 n2 hA
     replace hI := Lib.hid hI
     repeat' (first | (with_reducible first | refine zA ?_ | refine qaae ?_ | refine zK ?_) | ((with_reducible first | refine qaad ?_ | refine qacm (by rw [hP]; exact qanx) ?_); (try rw [hP]); simp -implicitDefEqProofs [qabz, qab0, *]) | ((with_reducible refine qaaf ?_); (try simp -implicitDefEqProofs [qabz, qab0, *])) | ((with_reducible refine qaab rfl (fun h => ?_) (fun h => ?_)) <;> have h' := h <;> (try simp at h') <;> (try subst h')) | (refine qaal (qaak p _ _ _ _ _ _ _ (by simp)) ⟨rfl, trivial⟩ ⟨rfl, trivial⟩ ?_; simp -implicitDefEqProofs [qabz, qab0, *]) | fail)
     refine qaaj (qaa5 (fun s (y : Nat × Int × Int) => s.turn [(136, .int .i64 y.1)] [(0, .cells 80 (jc p y.2.1 y.2.2))]) (fun y => y.1 ≤ 1 ∧ A = orF (y.2.1, y.2.2) (qagf p i ([x.yes].drop y.1), 6000 + (i : Int))) (fun y => 1 - y.1) (0, _, _) ?_ ⟨by simp, hI.out⟩ ?_)
     ·repeat' (first | ((with_reducible refine qaag [] hm ?_ ?_ ?_ ?_) <;> (try simp only [zT, puth, Nat.reduceEqDiff, reduceIte, Nat.reduceAdd])) | (with_reducible first | refine za ?_ ?_ | refine zb ?_ ?_ ?_ ?_ | refine zd ?_ ?_ ?_ ?_) | (with_reducible first | exact qaaa | exact qaac) | ((with_reducible first | refine zga ?_ | refine zgb ?_); rfl) | ((with_reducible refine zgd ?_); (first | omega | (simp; done))) | (exact Co.refl _) | (exact CoL.refl _) | (exact CoLL.refl _) | fail)
     rintro J hJ ⟨k, e1, g1⟩ ⟨h3, h4⟩
     unfold qacj
     simp only [zT, puth, Nat.reduceEqDiff, reduceIte, Nat.reduceAdd] at h3 h4 ⊢
     have hk : k = 0 ∨ k = 1 := by omega
     rcases hk with rfl | rfl
     ·have h5 := h4.trans (qad6 p i x.yes e1 g1 (qagf p i []) (6000 + (i : Int)))
      clear h4
      cases kd : decide (x.yes < 0) <;> simp only [kd, Bool.true_or, Bool.false_or] at h5 <;> replace h5 := Lib.hid h5
      all_goals
       repeat' (first | (with_reducible first | refine zA ?_ | refine qaae ?_) | ((with_reducible refine qaad ?_); (try rw [hP]); simp -implicitDefEqProofs [*]) | ((with_reducible refine qaaf ?_); (try simp -implicitDefEqProofs [*])) | ((with_reducible refine qaab rfl (fun h => ?_) (fun h => ?_)) <;> have h' := h <;> (try simp at h') <;> (try subst h')) | (refine qaal (qaak p _ _ _ _ _ _ _ (by simp)) ⟨rfl, trivial⟩ ⟨rfl, trivial⟩ ?_; simp -implicitDefEqProofs [*]) | (with_reducible first | refine za ?_ ?_ | refine zb ?_ ?_ ?_ ?_ | refine zd ?_ ?_ ?_ ?_) | (with_reducible first | exact qaaa | exact qaac) | ((with_reducible first | refine zga ?_ | refine zgb ?_); rfl) | ((with_reducible first | refine zgd ?_ | refine zge ?_); (first | omega | (simp; done))) | (exact Co.refl _) | (exact CoL.refl _) | (exact CoLL.refl _) | ((refine qaah hJ (1, ?_, ?_) ?_ ?_ ?_; rotate_left 2; (with_reducible refine qaag [] hm ?_ ?_ ?_ ?_) <;> (try simp only [zT, puth, Nat.reduceEqDiff, reduceIte, Nat.reduceAdd]))) | fail)
       all_goals (try dsimp only)
       all_goals (exact ⟨by omega, h5.out⟩)
     ·replace h4 := Lib.hid h4
      repeat' (first | (with_reducible refine zA ?_) | ((with_reducible refine qaad ?_); (try rw [hP]); simp -implicitDefEqProofs [*]) | ((with_reducible refine qaam ?_); (try simp -implicitDefEqProofs [*])) | ((with_reducible refine qaab rfl (fun h => ?_) (fun h => ?_)) <;> have h' := h <;> (try simp at h') <;> (try subst h')) | (with_reducible first | refine za ?_ ?_ | refine zb ?_ ?_ ?_ ?_) | (with_reducible first | exact qaaa | exact qaac) | ((with_reducible first | refine zga ?_ | refine zgb ?_); rfl) | ((with_reducible first | refine zgd ?_ | refine zge ?_); (first | omega | (simp; done))) | (exact Co.refl _) | (exact CoL.refl _) | ((refine qaah hJo (i + 1, ?_, ?_) ?_ ?_ ?_; rotate_left 2; (with_reducible refine qaag [] hm ?_ ?_ ?_ ?_) <;> (try simp only [zT, puth, Nat.reduceEqDiff, reduceIte, Nat.reduceAdd]))) | fail)
      all_goals (try dsimp only)
      all_goals (refine ⟨by omega, ?_⟩; rw [h2.out]; congr 1; rw [h4.out]; exact qace _ rfl)
    ·have k1 : (x.kind == 1) = false := by rw [k]; rfl
     have k2 : (x.kind == 2) = true := by simpa using k
     have kn : decide (x.n < 0) = false := by simpa using n1
     have kn2 : decide ((p.acts.length : Int) ≤ x.n) = false := by simpa using n2
     have hlt : x.n.toNat < p.acts.length := by omega
     have hI := hA
     have : actW p.acts x.n = p.acts[x.n.toNat].w := by unfold actW; rw [List.getElem?_eq_getElem hlt]; rfl
     rw [this] at hI
     generalize hB : p.acts[x.n.toNat] = B at hI
     rw [show decide (0 < (B.w.length : Int)) = decide (0 < B.w.length) from decide_eq_decide.2 (by omega)] at hI
     clear k this hA
     replace hI := Lib.hid hI
     repeat' (first | (with_reducible first | refine zA ?_ | refine qaae ?_ | refine zK ?_) | ((with_reducible first | refine qaad ?_ | refine qacm (by rw [hP]; exact qanx) ?_); (try rw [hP]); simp -implicitDefEqProofs [qabz, qab0, *]) | ((with_reducible refine qaaf ?_); (try simp -implicitDefEqProofs [qabz, qab0, *])) | ((with_reducible refine qaab rfl (fun h => ?_) (fun h => ?_)) <;> have h' := h <;> (try simp at h') <;> (try subst h')) | (refine qaal (qaak p _ _ _ _ _ _ _ (by simp)) ⟨rfl, trivial⟩ ⟨rfl, trivial⟩ ?_; simp -implicitDefEqProofs [qabz, qab0, *]) | fail)
     refine qaaj (qaa5 (fun s (y : Nat × Int × Int) => s.turn [(136, .int .i64 y.1)] [(0, .cells 80 (jc p y.2.1 y.2.2))]) (fun y => y.1 ≤ 1 ∧ A = orF (y.2.1, y.2.2) (qagf p i ([x.yes].drop y.1), 6000 + (i : Int))) (fun y => 1 - y.1) (0, _, _) ?_ ⟨by simp, hI.out⟩ ?_)
     ·repeat' (first | ((with_reducible refine qaag [] hm ?_ ?_ ?_ ?_) <;> (try simp only [zT, puth, Nat.reduceEqDiff, reduceIte, Nat.reduceAdd])) | (with_reducible first | refine za ?_ ?_ | refine zb ?_ ?_ ?_ ?_ | refine zd ?_ ?_ ?_ ?_) | (with_reducible first | exact qaaa | exact qaac) | ((with_reducible first | refine zga ?_ | refine zgb ?_); rfl) | ((with_reducible refine zgd ?_); (first | omega | (simp; done))) | (exact Co.refl _) | (exact CoL.refl _) | (exact CoLL.refl _) | fail)
     rintro J hJ ⟨k, e1, g1⟩ ⟨h3, h4⟩
     unfold qacj
     simp only [zT, puth, Nat.reduceEqDiff, reduceIte, Nat.reduceAdd] at h3 h4 ⊢
     have hk : k = 0 ∨ k = 1 := by omega
     rcases hk with rfl | rfl
     ·have h5 := h4.trans (qad6 p i x.yes e1 g1 (qagf p i []) (6000 + (i : Int)))
      clear h4
      cases kd : decide (x.yes < 0) <;> simp only [kd, Bool.true_or, Bool.false_or] at h5 <;> replace h5 := Lib.hid h5
      all_goals
       repeat' (first | (with_reducible first | refine zA ?_ | refine qaae ?_) | ((with_reducible refine qaad ?_); (try rw [hP]); simp -implicitDefEqProofs [*]) | ((with_reducible refine qaaf ?_); (try simp -implicitDefEqProofs [*])) | ((with_reducible refine qaab rfl (fun h => ?_) (fun h => ?_)) <;> have h' := h <;> (try simp at h') <;> (try subst h')) | (refine qaal (qaak p _ _ _ _ _ _ _ (by simp)) ⟨rfl, trivial⟩ ⟨rfl, trivial⟩ ?_; simp -implicitDefEqProofs [*]) | (with_reducible first | refine za ?_ ?_ | refine zb ?_ ?_ ?_ ?_ | refine zd ?_ ?_ ?_ ?_) | (with_reducible first | exact qaaa | exact qaac) | ((with_reducible first | refine zga ?_ | refine zgb ?_); rfl) | ((with_reducible first | refine zgd ?_ | refine zge ?_); (first | omega | (simp; done))) | (exact Co.refl _) | (exact CoL.refl _) | (exact CoLL.refl _) | ((refine qaah hJ (1, ?_, ?_) ?_ ?_ ?_; rotate_left 2; (with_reducible refine qaag [] hm ?_ ?_ ?_ ?_) <;> (try simp only [zT, puth, Nat.reduceEqDiff, reduceIte, Nat.reduceAdd]))) | fail)
       all_goals (try dsimp only)
       all_goals (exact ⟨by omega, h5.out⟩)
     ·replace h4 := Lib.hid h4
      repeat' (first | (with_reducible refine zA ?_) | ((with_reducible refine qaad ?_); (try rw [hP]); simp -implicitDefEqProofs [*]) | ((with_reducible refine qaam ?_); (try simp -implicitDefEqProofs [*])) | ((with_reducible refine qaab rfl (fun h => ?_) (fun h => ?_)) <;> have h' := h <;> (try simp at h') <;> (try subst h')) | (with_reducible first | refine za ?_ ?_ | refine zb ?_ ?_ ?_ ?_) | (with_reducible first | exact qaaa | exact qaac) | ((with_reducible first | refine zga ?_ | refine zgb ?_); rfl) | ((with_reducible first | refine zgd ?_ | refine zge ?_); (first | omega | (simp; done))) | (exact Co.refl _) | (exact CoL.refl _) | ((refine qaah hJo (i + 1, ?_, ?_) ?_ ?_ ?_; rotate_left 2; (with_reducible refine qaag [] hm ?_ ?_ ?_ ?_) <;> (try simp only [zT, puth, Nat.reduceEqDiff, reduceIte, Nat.reduceAdd]))) | fail)
      all_goals (try dsimp only)
      all_goals (refine ⟨by omega, ?_⟩; rw [h2.out]; congr 1; rw [h4.out]; exact qace _ rfl)
   ·have k1 : (x.kind == 1) = false := by simpa using kn1
    have k2 : (x.kind == 2) = false := by simpa using kn2
    rw [if_neg kn1, if_neg kn2] at hA
    by_cases kn3 : x.kind = 3
    ·have k3 : (x.kind == 3) = true := by simpa using kn3
     rw [if_pos kn3, qamo] at hA
     have hI := hA
     clear kn1 kn2 kn3 hA
     replace hI := Lib.hid hI
     repeat' (first | (with_reducible first | refine zA ?_ | refine qaae ?_) | ((with_reducible refine qaad ?_); (try rw [hP]); simp -implicitDefEqProofs [qabz, qab0, *]) | ((with_reducible refine qaaf ?_); (try simp -implicitDefEqProofs [qabz, qab0, *])) | ((with_reducible refine qaab rfl (fun h => ?_) (fun h => ?_)) <;> have h' := h <;> (try simp at h') <;> (try subst h')) | ((refine qaal (qaof p _ _ x.e _ (by omega) _ _ (by simp)) ⟨rfl, trivial⟩ ⟨rfl, trivial⟩ ?_); simp -implicitDefEqProofs [qabz, qab0, *]) | fail)
     refine qaaj (qaa5 (fun s (y : Nat × Int × Int) => s.turn [(136, .int .i64 y.1)] [(0, .cells 80 (jc p y.2.1 y.2.2))]) (fun y => y.1 ≤ 2 ∧ A = orF (y.2.1, y.2.2) (qagf p i ([x.yes, x.no].drop y.1), 6000 + (i : Int))) (fun y => 2 - y.1) (0, _, _) ?_ ⟨by simp, hI.out⟩ ?_)
     ·repeat' (first | ((with_reducible refine qaag [] hm ?_ ?_ ?_ ?_) <;> (try simp only [zT, puth, Nat.reduceEqDiff, reduceIte, Nat.reduceAdd])) | (with_reducible first | refine za ?_ ?_ | refine zb ?_ ?_ ?_ ?_ | refine zd ?_ ?_ ?_ ?_) | (with_reducible first | exact qaaa | exact qaac) | ((with_reducible first | refine zga ?_ | refine zgb ?_); rfl) | ((with_reducible refine zgd ?_); (first | omega | (simp; done))) | (exact Co.refl _) | (exact CoL.refl _) | (exact CoLL.refl _) | fail)
     rintro J hJ ⟨k, e1, g1⟩ ⟨h3, h4⟩
     unfold qacj
     simp only [zT, puth, Nat.reduceEqDiff, reduceIte, Nat.reduceAdd] at h3 h4 ⊢
     have hk : k = 0 ∨ k = 1 ∨ k = 2 := by omega
     rcases hk with rfl | rfl | rfl
     ·have h5 := h4.trans (qad6 p i x.yes e1 g1 (qagf p i [x.no]) (6000 + (i : Int)))
      clear h4
      cases kd : decide (x.yes < 0) <;> simp only [kd, Bool.true_or, Bool.false_or] at h5 <;> replace h5 := Lib.hid h5
      all_goals
       repeat' (first | (with_reducible first | refine zA ?_ | refine qaae ?_) | ((with_reducible refine qaad ?_); (try rw [hP]); simp -implicitDefEqProofs [*]) | ((with_reducible refine qaaf ?_); (try simp -implicitDefEqProofs [*])) | ((with_reducible refine qaab rfl (fun h => ?_) (fun h => ?_)) <;> have h' := h <;> (try simp at h') <;> (try subst h')) | (refine qaal (qaak p _ _ _ _ _ _ _ (by simp)) ⟨rfl, trivial⟩ ⟨rfl, trivial⟩ ?_; simp -implicitDefEqProofs [*]) | (with_reducible first | refine za ?_ ?_ | refine zb ?_ ?_ ?_ ?_ | refine zd ?_ ?_ ?_ ?_) | (with_reducible first | exact qaaa | exact qaac) | ((with_reducible first | refine zga ?_ | refine zgb ?_); rfl) | ((with_reducible first | refine zgd ?_ | refine zge ?_); (first | omega | (simp; done))) | (exact Co.refl _) | (exact CoL.refl _) | (exact CoLL.refl _) | ((refine qaah hJ (1, ?_, ?_) ?_ ?_ ?_; rotate_left 2; (with_reducible refine qaag [] hm ?_ ?_ ?_ ?_) <;> (try simp only [zT, puth, Nat.reduceEqDiff, reduceIte, Nat.reduceAdd]))) | fail)
       all_goals (try dsimp only)
       all_goals (exact ⟨by omega, h5.out⟩)
     ·have h5 := h4.trans (qad6 p i x.no e1 g1 (qagf p i []) (6000 + (i : Int)))
      clear h4
      cases kd : decide (x.no < 0) <;> simp only [kd, Bool.true_or, Bool.false_or] at h5 <;> replace h5 := Lib.hid h5
      all_goals
       repeat' (first | (with_reducible first | refine zA ?_ | refine qaae ?_) | ((with_reducible refine qaad ?_); (try rw [hP]); simp -implicitDefEqProofs [*]) | ((with_reducible refine qaaf ?_); (try simp -implicitDefEqProofs [*])) | ((with_reducible refine qaab rfl (fun h => ?_) (fun h => ?_)) <;> have h' := h <;> (try simp at h') <;> (try subst h')) | (refine qaal (qaak p _ _ _ _ _ _ _ (by simp)) ⟨rfl, trivial⟩ ⟨rfl, trivial⟩ ?_; simp -implicitDefEqProofs [*]) | (with_reducible first | refine za ?_ ?_ | refine zb ?_ ?_ ?_ ?_ | refine zd ?_ ?_ ?_ ?_) | (with_reducible first | exact qaaa | exact qaac) | ((with_reducible first | refine zga ?_ | refine zgb ?_); rfl) | ((with_reducible first | refine zgd ?_ | refine zge ?_); (first | omega | (simp; done))) | (exact Co.refl _) | (exact CoL.refl _) | (exact CoLL.refl _) | ((refine qaah hJ (2, ?_, ?_) ?_ ?_ ?_; rotate_left 2; (with_reducible refine qaag [] hm ?_ ?_ ?_ ?_) <;> (try simp only [zT, puth, Nat.reduceEqDiff, reduceIte, Nat.reduceAdd]))) | fail)
       all_goals (try dsimp only)
       all_goals (exact ⟨by omega, h5.out⟩)
     ·replace h4 := Lib.hid h4
      repeat' (first | (with_reducible refine zA ?_) | ((with_reducible refine qaad ?_); (try rw [hP]); simp -implicitDefEqProofs [*]) | ((with_reducible refine qaam ?_); (try simp -implicitDefEqProofs [*])) | ((with_reducible refine qaab rfl (fun h => ?_) (fun h => ?_)) <;> have h' := h <;> (try simp at h') <;> (try subst h')) | (with_reducible first | refine za ?_ ?_ | refine zb ?_ ?_ ?_ ?_) | (with_reducible first | exact qaaa | exact qaac) | ((with_reducible first | refine zga ?_ | refine zgb ?_); rfl) | ((with_reducible first | refine zgd ?_ | refine zge ?_); (first | omega | (simp; done))) | (exact Co.refl _) | (exact CoL.refl _) | ((refine qaah hJo (i + 1, ?_, ?_) ?_ ?_ ?_; rotate_left 2; (with_reducible refine qaag [] hm ?_ ?_ ?_ ?_) <;> (try simp only [zT, puth, Nat.reduceEqDiff, reduceIte, Nat.reduceAdd]))) | fail)
      all_goals (try dsimp only)
      all_goals (refine ⟨by omega, ?_⟩; rw [h2.out]; congr 1; rw [h4.out]; exact qace _ rfl)
    rw [if_neg kn3] at hA
    have k3 : (x.kind == 3) = false := by simpa using kn3
    by_cases kn4 : x.kind = 4
    ·have k4 : (x.kind == 4) = true := by simpa using kn4
     rw [if_pos kn4, qacg _ _ _ _ _ _ (by decide)] at hA
     have hI := hA
     clear kn1 kn2 kn3 kn4 hA
     replace hI := Lib.hid hI
     repeat' (first | (with_reducible first | refine zA ?_ | refine qaae ?_) | ((with_reducible refine qaad ?_); (try rw [hP]); simp -implicitDefEqProofs [qabz, qab0, *]) | ((with_reducible refine qaaf ?_); (try simp -implicitDefEqProofs [qabz, qab0, *])) | ((with_reducible refine qaab rfl (fun h => ?_) (fun h => ?_)) <;> have h' := h <;> (try simp at h') <;> (try subst h')) | ((refine qaal (qaf6 p _ _ _ _ _ _ (by simp)) ⟨rfl, trivial⟩ ⟨rfl, trivial⟩ ?_); simp -implicitDefEqProofs [qabz, qab0, *]) | fail)
     refine qaaj (qaa5 (fun s (y : Nat × Int × Int) => s.turn [(136, .int .i64 y.1)] [(0, .cells 80 (jc p y.2.1 y.2.2))]) (fun y => y.1 ≤ 2 ∧ A = orF (y.2.1, y.2.2) (qagf p i ([x.yes, x.no].drop y.1), 6000 + (i : Int))) (fun y => 2 - y.1) (0, _, _) ?_ ⟨by simp, hI.out⟩ ?_)
     ·repeat' (first | ((with_reducible refine qaag [] hm ?_ ?_ ?_ ?_) <;> (try simp only [zT, puth, Nat.reduceEqDiff, reduceIte, Nat.reduceAdd])) | (with_reducible first | refine za ?_ ?_ | refine zb ?_ ?_ ?_ ?_ | refine zd ?_ ?_ ?_ ?_) | (with_reducible first | exact qaaa | exact qaac) | ((with_reducible first | refine zga ?_ | refine zgb ?_); rfl) | ((with_reducible refine zgd ?_); (first | omega | (simp; done))) | (exact Co.refl _) | (exact CoL.refl _) | (exact CoLL.refl _) | fail)
     rintro J hJ ⟨k, e1, g1⟩ ⟨h3, h4⟩
     unfold qacj
     simp only [zT, puth, Nat.reduceEqDiff, reduceIte, Nat.reduceAdd] at h3 h4 ⊢
     have hk : k = 0 ∨ k = 1 ∨ k = 2 := by omega
     rcases hk with rfl | rfl | rfl
     ·have h5 := h4.trans (qad6 p i x.yes e1 g1 (qagf p i [x.no]) (6000 + (i : Int)))
      clear h4
      cases kd : decide (x.yes < 0) <;> simp only [kd, Bool.true_or, Bool.false_or] at h5 <;> replace h5 := Lib.hid h5
      all_goals
       repeat' (first | (with_reducible first | refine zA ?_ | refine qaae ?_) | ((with_reducible refine qaad ?_); (try rw [hP]); simp -implicitDefEqProofs [*]) | ((with_reducible refine qaaf ?_); (try simp -implicitDefEqProofs [*])) | ((with_reducible refine qaab rfl (fun h => ?_) (fun h => ?_)) <;> have h' := h <;> (try simp at h') <;> (try subst h')) | (refine qaal (qaak p _ _ _ _ _ _ _ (by simp)) ⟨rfl, trivial⟩ ⟨rfl, trivial⟩ ?_; simp -implicitDefEqProofs [*]) | (with_reducible first | refine za ?_ ?_ | refine zb ?_ ?_ ?_ ?_ | refine zd ?_ ?_ ?_ ?_) | (with_reducible first | exact qaaa | exact qaac) | ((with_reducible first | refine zga ?_ | refine zgb ?_); rfl) | ((with_reducible first | refine zgd ?_ | refine zge ?_); (first | omega | (simp; done))) | (exact Co.refl _) | (exact CoL.refl _) | (exact CoLL.refl _) | ((refine qaah hJ (1, ?_, ?_) ?_ ?_ ?_; rotate_left 2; (with_reducible refine qaag [] hm ?_ ?_ ?_ ?_) <;> (try simp only [zT, puth, Nat.reduceEqDiff, reduceIte, Nat.reduceAdd]))) | fail)
       all_goals (try dsimp only)
       all_goals (exact ⟨by omega, h5.out⟩)
     ·have h5 := h4.trans (qad6 p i x.no e1 g1 (qagf p i []) (6000 + (i : Int)))
      clear h4
      cases kd : decide (x.no < 0) <;> simp only [kd, Bool.true_or, Bool.false_or] at h5 <;> replace h5 := Lib.hid h5
      all_goals
       repeat' (first | (with_reducible first | refine zA ?_ | refine qaae ?_) | ((with_reducible refine qaad ?_); (try rw [hP]); simp -implicitDefEqProofs [*]) | ((with_reducible refine qaaf ?_); (try simp -implicitDefEqProofs [*])) | ((with_reducible refine qaab rfl (fun h => ?_) (fun h => ?_)) <;> have h' := h <;> (try simp at h') <;> (try subst h')) | (refine qaal (qaak p _ _ _ _ _ _ _ (by simp)) ⟨rfl, trivial⟩ ⟨rfl, trivial⟩ ?_; simp -implicitDefEqProofs [*]) | (with_reducible first | refine za ?_ ?_ | refine zb ?_ ?_ ?_ ?_ | refine zd ?_ ?_ ?_ ?_) | (with_reducible first | exact qaaa | exact qaac) | ((with_reducible first | refine zga ?_ | refine zgb ?_); rfl) | ((with_reducible first | refine zgd ?_ | refine zge ?_); (first | omega | (simp; done))) | (exact Co.refl _) | (exact CoL.refl _) | (exact CoLL.refl _) | ((refine qaah hJ (2, ?_, ?_) ?_ ?_ ?_; rotate_left 2; (with_reducible refine qaag [] hm ?_ ?_ ?_ ?_) <;> (try simp only [zT, puth, Nat.reduceEqDiff, reduceIte, Nat.reduceAdd]))) | fail)
       all_goals (try dsimp only)
       all_goals (exact ⟨by omega, h5.out⟩)
     ·replace h4 := Lib.hid h4
      repeat' (first | (with_reducible refine zA ?_) | ((with_reducible refine qaad ?_); (try rw [hP]); simp -implicitDefEqProofs [*]) | ((with_reducible refine qaam ?_); (try simp -implicitDefEqProofs [*])) | ((with_reducible refine qaab rfl (fun h => ?_) (fun h => ?_)) <;> have h' := h <;> (try simp at h') <;> (try subst h')) | (with_reducible first | refine za ?_ ?_ | refine zb ?_ ?_ ?_ ?_) | (with_reducible first | exact qaaa | exact qaac) | ((with_reducible first | refine zga ?_ | refine zgb ?_); rfl) | ((with_reducible first | refine zgd ?_ | refine zge ?_); (first | omega | (simp; done))) | (exact Co.refl _) | (exact CoL.refl _) | ((refine qaah hJo (i + 1, ?_, ?_) ?_ ?_ ?_; rotate_left 2; (with_reducible refine qaag [] hm ?_ ?_ ?_ ?_) <;> (try simp only [zT, puth, Nat.reduceEqDiff, reduceIte, Nat.reduceAdd]))) | fail)
      all_goals (try dsimp only)
      all_goals (refine ⟨by omega, ?_⟩; rw [h2.out]; congr 1; rw [h4.out]; exact qace _ rfl)
    ·have k4 : (x.kind == 4) = false := by simpa using kn4
     rw [if_neg kn4] at hA
     have hI : A = orF (5, 6000 + (i : Int)) (qagf p i ([x.yes, x.no].drop 0), 6000 + (i : Int)) := hA
     clear kn1 kn2 kn3 kn4 hA
     replace hI := Lib.hid hI
     repeat' (first | (with_reducible first | refine zA ?_ | refine qaae ?_) | ((with_reducible refine qaad ?_); (try rw [hP]); simp -implicitDefEqProofs [qabz, qab0, *]) | ((with_reducible refine qaaf ?_); (try simp -implicitDefEqProofs [qabz, qab0, *])) | ((with_reducible refine qaab rfl (fun h => ?_) (fun h => ?_)) <;> have h' := h <;> (try simp at h') <;> (try subst h')) | (refine qaal (qaak p _ _ _ _ _ _ _ (by simp)) ⟨rfl, trivial⟩ ⟨rfl, trivial⟩ ?_; simp -implicitDefEqProofs [qabz, qab0, *]) | fail)
     refine qaaj (qaa5 (fun s (y : Nat × Int × Int) => s.turn [(136, .int .i64 y.1)] [(0, .cells 80 (jc p y.2.1 y.2.2))]) (fun y => y.1 ≤ 2 ∧ A = orF (y.2.1, y.2.2) (qagf p i ([x.yes, x.no].drop y.1), 6000 + (i : Int))) (fun y => 2 - y.1) (0, _, _) ?_ ⟨by simp, hI.out⟩ ?_)
     ·repeat' (first | ((with_reducible refine qaag [] hm ?_ ?_ ?_ ?_) <;> (try simp only [zT, puth, Nat.reduceEqDiff, reduceIte, Nat.reduceAdd])) | (with_reducible first | refine za ?_ ?_ | refine zb ?_ ?_ ?_ ?_ | refine zd ?_ ?_ ?_ ?_) | (with_reducible first | exact qaaa | exact qaac) | ((with_reducible first | refine zga ?_ | refine zgb ?_); rfl) | ((with_reducible refine zgd ?_); (first | omega | (simp; done))) | (exact Co.refl _) | (exact CoL.refl _) | (exact CoLL.refl _) | fail)
     rintro J hJ ⟨k, e1, g1⟩ ⟨h3, h4⟩
     unfold qacj
     simp only [zT, puth, Nat.reduceEqDiff, reduceIte, Nat.reduceAdd] at h3 h4 ⊢
     have hk : k = 0 ∨ k = 1 ∨ k = 2 := by omega
     rcases hk with rfl | rfl | rfl
     ·have h5 := h4.trans (qad6 p i x.yes e1 g1 (qagf p i [x.no]) (6000 + (i : Int)))
      clear h4
      cases kd : decide (x.yes < 0) <;> simp only [kd, Bool.true_or, Bool.false_or] at h5 <;> replace h5 := Lib.hid h5
      all_goals
       repeat' (first | (with_reducible first | refine zA ?_ | refine qaae ?_) | ((with_reducible refine qaad ?_); (try rw [hP]); simp -implicitDefEqProofs [*]) | ((with_reducible refine qaaf ?_); (try simp -implicitDefEqProofs [*])) | ((with_reducible refine qaab rfl (fun h => ?_) (fun h => ?_)) <;> have h' := h <;> (try simp at h') <;> (try subst h')) | (refine qaal (qaak p _ _ _ _ _ _ _ (by simp)) ⟨rfl, trivial⟩ ⟨rfl, trivial⟩ ?_; simp -implicitDefEqProofs [*]) | (with_reducible first | refine za ?_ ?_ | refine zb ?_ ?_ ?_ ?_ | refine zd ?_ ?_ ?_ ?_) | (with_reducible first | exact qaaa | exact qaac) | ((with_reducible first | refine zga ?_ | refine zgb ?_); rfl) | ((with_reducible first | refine zgd ?_ | refine zge ?_); (first | omega | (simp; done))) | (exact Co.refl _) | (exact CoL.refl _) | (exact CoLL.refl _) | ((refine qaah hJ (1, ?_, ?_) ?_ ?_ ?_; rotate_left 2; (with_reducible refine qaag [] hm ?_ ?_ ?_ ?_) <;> (try simp only [zT, puth, Nat.reduceEqDiff, reduceIte, Nat.reduceAdd]))) | fail)
       all_goals (try dsimp only)
       all_goals (exact ⟨by omega, h5.out⟩)
     ·have h5 := h4.trans (qad6 p i x.no e1 g1 (qagf p i []) (6000 + (i : Int)))
      clear h4
      cases kd : decide (x.no < 0) <;> simp only [kd, Bool.true_or, Bool.false_or] at h5 <;> replace h5 := Lib.hid h5
      all_goals
       repeat' (first | (with_reducible first | refine zA ?_ | refine qaae ?_) | ((with_reducible refine qaad ?_); (try rw [hP]); simp -implicitDefEqProofs [*]) | ((with_reducible refine qaaf ?_); (try simp -implicitDefEqProofs [*])) | ((with_reducible refine qaab rfl (fun h => ?_) (fun h => ?_)) <;> have h' := h <;> (try simp at h') <;> (try subst h')) | (refine qaal (qaak p _ _ _ _ _ _ _ (by simp)) ⟨rfl, trivial⟩ ⟨rfl, trivial⟩ ?_; simp -implicitDefEqProofs [*]) | (with_reducible first | refine za ?_ ?_ | refine zb ?_ ?_ ?_ ?_ | refine zd ?_ ?_ ?_ ?_) | (with_reducible first | exact qaaa | exact qaac) | ((with_reducible first | refine zga ?_ | refine zgb ?_); rfl) | ((with_reducible first | refine zgd ?_ | refine zge ?_); (first | omega | (simp; done))) | (exact Co.refl _) | (exact CoL.refl _) | (exact CoLL.refl _) | ((refine qaah hJ (2, ?_, ?_) ?_ ?_ ?_; rotate_left 2; (with_reducible refine qaag [] hm ?_ ?_ ?_ ?_) <;> (try simp only [zT, puth, Nat.reduceEqDiff, reduceIte, Nat.reduceAdd]))) | fail)
       all_goals (try dsimp only)
       all_goals (exact ⟨by omega, h5.out⟩)
     ·replace h4 := Lib.hid h4
      repeat' (first | (with_reducible refine zA ?_) | ((with_reducible refine qaad ?_); (try rw [hP]); simp -implicitDefEqProofs [*]) | ((with_reducible refine qaam ?_); (try simp -implicitDefEqProofs [*])) | ((with_reducible refine qaab rfl (fun h => ?_) (fun h => ?_)) <;> have h' := h <;> (try simp at h') <;> (try subst h')) | (with_reducible first | refine za ?_ ?_ | refine zb ?_ ?_ ?_ ?_) | (with_reducible first | exact qaaa | exact qaac) | ((with_reducible first | refine zga ?_ | refine zgb ?_); rfl) | ((with_reducible first | refine zgd ?_ | refine zge ?_); (first | omega | (simp; done))) | (exact Co.refl _) | (exact CoL.refl _) | ((refine qaah hJo (i + 1, ?_, ?_) ?_ ?_ ?_; rotate_left 2; (with_reducible refine qaag [] hm ?_ ?_ ?_ ?_) <;> (try simp only [zT, puth, Nat.reduceEqDiff, reduceIte, Nat.reduceAdd]))) | fail)
      all_goals (try dsimp only)
      all_goals (refine ⟨by omega, ?_⟩; rw [h2.out]; congr 1; rw [h4.out]; exact qace _ rfl)
  ·have ke : (e == 0) = false := by simpa using he
   replace h2 := Lib.hid h2
   repeat' (first | (with_reducible refine zA ?_) | ((with_reducible refine qaad ?_); (try rw [hP]); simp -implicitDefEqProofs [*]) | ((with_reducible refine qaam ?_); (try simp -implicitDefEqProofs [*])) | ((with_reducible refine qaab rfl (fun h => ?_) (fun h => ?_)) <;> have h' := h <;> (try simp at h') <;> (try subst h')) | (refine qab4 hm rfl ?_ (fun σ => rfl)) | fail)
   rw [h2.out, qafd he]
 ·obtain rfl : i = p.nodes.length := by omega
  rw [List.drop_length] at h2
  replace h2 := Lib.hid h2
  repeat' (first | (with_reducible refine zA ?_) | ((with_reducible refine qaad ?_); (try rw [hP]); simp -implicitDefEqProofs [*]) | ((with_reducible refine qaam ?_); (try simp -implicitDefEqProofs [*])) | ((with_reducible refine qaab rfl (fun h => ?_) (fun h => ?_)) <;> have h' := h <;> (try simp at h') <;> (try subst h')) | (refine qab4 hm rfl ?_ (fun σ => rfl)) | fail)
  rw [h2.out, qace _ rfl]
end Go.Proofs.Ytbefmmajjfijnaa
namespace Go.Proofs.Ytbefmmajjfijnaa
set_option linter.all false
open Go.RowKit
attribute [local simp] qabl qabk qaav qaa9 qaaw qaa8 qabi qabj qaaq qab6 SOp.run SX.ev putd puts argS upds SOp.touch SSt.keep SSt.skip gets geth puth delh idOf SV.cells? setL qaeb qaec sbin eq0 eq1 eqL qadx qac0 qac1 qaa3 qabm qaai qabn qab7 qaao qaan FrzOk qabc qaay qaba qabb qaar qaax qabo qaaz qaat qabd qaas frzS frzH frz frz1 frz0 SlotsM ObjsM ObjM rn ren ren1 ren0 qaca qacx qacs qab9 qabp qac3 qac2 CoL qabe qaby dels adds idsH qabu
attribute [local simp] qaj1 refc qagg qag3 qade opc actc tabc qagu qadj nums jc
theorem qadn {f g : Int × Int} (h : (orF f g).1 = 0) : f.1 = 0 ∧ g.1 = 0 := by
 unfold orF at h
 by_cases h1 : f.1 = 0
 ·by_cases h2 : g.1 = 0
  ·exact ⟨h1, h2⟩
  ·simp [h1, h2] at h
 ·simp [h1] at h
theorem qafi {α : Type} {f : α → Int} {b : Int} : ∀ {l : List α} {i : Nat}, (rowF (fun _ x => f x) b i l).1 = 0 → ∀ x ∈ l, f x = 0
 | [], _, _, x, hx => by cases hx
 | y :: l, i, h, x, hx => by
  unfold rowF at h
  by_cases h1 : f y = 0
  ·rw [if_neg (by simpa using h1)] at h
   rcases List.mem_cons.1 hx with e | e
   ·rw [e]; exact h1
   ·exact qafi h x e
  ·rw [if_pos h1] at h; exact absurd h h1
theorem qa2v {f g : Int × Int} (h : (orF f g).1 = 0) : orF f g = f := by
 obtain ⟨h1, h2⟩ := qadn h
 unfold orF; simp [h1, h2]
theorem qax6 {f g : Int × Int} (h : f.1 = 0 → f = (0, 0)) : orF (0, 0) (orF f g) = orF f g := by
 unfold orF
 by_cases h1 : f.1 = 0
 ·by_cases h2 : g.1 = 0 <;> simp [h1, h2, h h1]
 ·simp [h1]
theorem qany {p : PlanD} (h : (qaf0 p).1 = 0) : qaf0 p = (0, 0) := by
 unfold qaf0 at h ⊢
 rw [qa2v h]
 have := (qadn h).1
 unfold qaxj at this ⊢
 by_cases hc : decide (6 < p.heads.length) = true
 ·rw [if_pos hc] at this; exact absurd this (by decide)
 ·rw [if_neg hc]
theorem qanu (p : PlanD) : orF (0, 0) (qagt p) = qagt p := by
 unfold qagt; exact qax6 qany
theorem el_in {l : List Int} {k : Nat} (h : k < l.length) : el l k ∈ l := by
 unfold el; simp [h]
theorem pick_in {l : List Int} {f : Int} (h : qa1i l f ≠ 0) : qa1i l f ∈ l := by
 unfold qa1i at h ⊢
 by_cases h1 : f < 0 ∨ (l.length : Int) ≤ f
 ·rw [if_pos h1] at h; exact absurd rfl h
 ·rw [if_neg h1] at h ⊢; exact el_in (by omega)
theorem heads_w {p : PlanD} (h : (qaf0 p).1 = 0) : ∀ x ∈ p.heads, qaj0 x.w = 0 := fun x hx => qafi (qadn h).2 x hx
theorem qa19 {l : List Int} (h : ∀ x ∈ l, 1 ≤ x ∧ x ≤ 48) (f : Int) : 0 ≤ qa1i l f ∧ qa1i l f ≤ 48 := by
 by_cases h0 : qa1i l f = 0
 ·omega
 ·have := h _ (pick_in h0); omega
theorem qa2i {ws : List Int} (h : qaj0 ws = 0) : ∀ x ∈ ws, 1 ≤ x ∧ x ≤ 48 := fun x hx => by
 obtain ⟨i, hi, rfl⟩ := List.getElem_of_mem hx
 have := wOk ((qaxu h).2.2.1 i hi)
 have e : el ws i = ws[i] := by unfold el; simp [hi]
 rw [e] at this; exact this
theorem qa1a {l : List Int} (h : ∀ x ∈ l, wOut x = false) : ∀ x ∈ l, 1 ≤ x ∧ x ≤ 48 := fun x hx => by
 have := h x hx
 unfold wOut at this; rw [Bool.or_eq_false_iff, decide_eq_false_iff_not, decide_eq_false_iff_not] at this; omega
theorem pw_of {p : PlanD} (h1 : (qaf0 p).1 = 0) (h2 : (qa29 p).1 = 0) : PW p := fun r => by
 have hm : ∀ x ∈ p.meta_, 1 ≤ x ∧ x ≤ 48 := qa1a fun x hx => by
  have := qafi (qadn h2).2 x hx
  cases e : wOut x
  ·rfl
  ·rw [e] at this; exact absurd this (by decide)
 unfold qabv
 refine qa19 ?_ _
 unfold qa2p
 split
 ·simp
 split
 ·exact hm
 split
 ·simp
 split
 ·rename_i hh
  unfold headW
  rw [List.getElem?_eq_getElem (by omega : r.h.toNat < p.heads.length)]
  exact qa2i (heads_w h1 _ (List.getElem_mem _))
 ·simp
theorem aw_of {p : PlanD} (h : (qaxe p).1 = 0) : AW p.acts := fun a ha w hw => by
 have := qafi (qadn h).2 a ha
 unfold actF at this
 by_cases h1 : 3 < a.w.length ∨ 5 < a.ops.length
 ·rw [if_pos h1] at this; exact absurd this (by decide)
 ·rw [if_neg h1] at this
  by_cases h2 : a.w.any wOut = true
  ·rw [if_pos h2] at this; exact absurd this (by decide)
  ·have h3 : ∀ x ∈ a.w, wOut x = false := fun x hx => by
    cases e : wOut x
    ·rfl
    ·exact absurd (List.any_eq_true.2 ⟨x, hx, e⟩) h2
   have := qa1a h3 w hw; omega
theorem qa1k (a b c at_ : Int) : orF (a, b) (c, at_) = qabx a b (c != 0) c at_ := by
 rw [← qah7]; unfold qadc
 congr 1; rw [Bool.eq_iff_iff]; simp
theorem qak6 (p : PlanD) (hp : PW p) (hs : SmallP p) (hk : qah3 p) (a b : Int) (id q : Nat) (h : id < q) : SCalls Try.prog 23 [.ptr id 0] [(id, .cells 80 (jc p a b))] q (.tup []) [(id, .cells 80 (jc p (orF (a, b) (qad7 p)).1 (orF (a, b) (qad7 p)).2))] :=
 qacf (qayp p hp hs hk a b) (fun _ => rfl) (fun _ => rfl) (fun _ => rfl) rfl (fun _ => rfl) rfl id q h
theorem qatp (p : PlanD) (hp : PW p) (hs : SmallP p) (a b : Int) (id q : Nat) (h : id < q) : SCalls Try.prog 24 [.ptr id 0] [(id, .cells 80 (jc p a b))] q (.tup []) [(id, .cells 80 (jc p (orF (a, b) (qaxe p)).1 (orF (a, b) (qaxe p)).2))] :=
 qacf (jacts_s p hp hs a b) (fun _ => rfl) (fun _ => rfl) (fun _ => rfl) rfl (fun _ => rfl) rfl id q h
theorem qato (p : PlanD) (hs : SmallP p) (a b : Int) (ha : a = 0 → AW p.acts) (id q : Nat) (h : id < q) : SCalls Try.prog 25 [.ptr id 0] [(id, .cells 80 (jc p a b))] q (.tup []) [(id, .cells 80 (jc p (orF (a, b) (qaxg p)).1 (orF (a, b) (qaxg p)).2))] :=
 qacf (jtabs_s p hs a b ha) (fun _ => rfl) (fun _ => rfl) (fun _ => rfl) rfl (fun _ => rfl) rfl id q h
theorem qaog (p : PlanD) (hs : SmallP p) (a b : Int) (id q : Nat) (h : id < q) : SCalls Try.prog 26 [.ptr id 0] [(id, .cells 80 (jc p a b))] q (.tup []) [(id, .cells 80 (jc p (orF (a, b) (qagh p)).1 (orF (a, b) (qagh p)).2))] :=
 qacf (qa3j p hs a b) (fun _ => rfl) (fun _ => rfl) (fun _ => rfl) rfl (fun _ => rfl) rfl id q h
def qahb : SCode := (.seq (.reg false qahc [1, 2, 3]) (.seq (.seq (.reg false qaga [1, 2, 3, 59, 60, 61]) (.block 2 (.loop qafa))) (.seq (.seq (.reg false qaf9 [1, 2, 3, 82]) (.cond (.t 82) (.seq (.reg false qaf8 [2]) .ret) .skip)) (.seq (.reg false qaek [1, 2, 3]) (.seq (.reg false qaej [1, 2, 3]) (.seq (.reg false qaei [1, 2, 3]) (.seq (.reg false qaeh [1, 2, 3]) (.seq (.reg false qaeg [1, 2, 3]) (.seq (.seq (.reg false qaef [1, 2, 3, 9]) (.block 4 (.loop qad3))) (.seq (.reg false qadq [2]) .ret))))))))))
def qaha : SCode := (.seq (.reg false qaek [1, 2, 3]) (.seq (.reg false qaej [1, 2, 3]) (.seq (.reg false qaei [1, 2, 3]) (.seq (.reg false qaeh [1, 2, 3]) (.seq (.reg false qaeg [1, 2, 3]) (.seq (.seq (.reg false qaef [1, 2, 3, 9]) (.block 4 (.loop qad3))) (.seq (.reg false qadq [2]) .ret)))))))
def qag9 : SCode := (.seq (.reg false qadq [2]) .ret)
set_option maxHeartbeats 8000000 in
theorem qask (p : PlanD) (hs : SmallP p) (hk : qah3 p) (q : Nat) : SCalls Try.prog 12 [.agg (qadj p)] [] q (.agg [.int .i64 (qagt p).1, .int .i64 (qagt p).2]) [] := by
 refine qacq ?_ (fun _ => rfl) (fun _ => rfl) rfl q
 refine qaau (N := 143) Try.func12 rfl rfl (by kernel_rfl) qaiv (by simp) (by repeat' (first | exact trivial | refine And.intro ?_ ?_ | rfl | decide | exact PureR.ren _)) (by repeat' (first | exact trivial | refine And.intro ?_ ?_ | rfl | decide | exact PureR.ren _)) ?_
 rintro X hP hN hm
 rw [← qanu]
 have hF1 : orF (0, 0) (qaf0 p) = orF (qabx 0 0 (decide (6 < (p.heads.length : Int))) 2 (-1)) (rowF (fun _ h => qaj0 h.w) 1000 0 p.heads) := by
  unfold qaf0; rw [qadp]; congr 3; exact propext (by omega)
 have hF0 : orF (0, 0) (qagt p) = orF (orF (orF (0, 0) (qaf0 p)) (qa29 p)) (orF (qad7 p) (orF (qaxe p) (orF (qaxg p) (orF (qagh p) (outsF p))))) := by
  unfold qagt; simp only [qado]
 have hPW : (orF (orF (0, 0) (qaf0 p)) (qa29 p)).1 = 0 → PW p := fun h => pw_of (qadn (qadn h).1).2 (qadn h).2
 generalize orF (0, 0) (qagt p) = F at hF0
 obtain ⟨⟨e1, g1⟩, hE1⟩ : ∃ z, orF (0, 0) (qaf0 p) = z := ⟨_, rfl⟩
 rw [hE1] at hF0 hPW hF1
 have hF2 : orF (e1, g1) (qa29 p) = orF (qabx e1 g1 (decide (4 < (p.meta_.length : Int))) 2 (-2)) (rowF (fun _ w => if wOut w then 6 else 0) 2000 0 p.meta_) := by
  unfold qa29; rw [qadp]; congr 3; exact propext (by omega)
 obtain ⟨⟨e2, g2⟩, hE2⟩ : ∃ z, orF (e1, g1) (qa29 p) = z := ⟨_, rfl⟩
 rw [hE2] at hF0 hPW hF2
 have hl1 := hs.heads
 have hl2 := hs.metas
 have hl3 := hs.outs
 clear hE1 hE2
 replace hF0 := Lib.hid hF0
 replace hPW := Lib.hid hPW
 replace hF1 := Lib.hid hF1
 replace hF2 := Lib.hid hF2
 have rest4 : ∀ e g, (e, g) = F → SWp X qag9 (QFun X [ResultVar.cell 2 34] 0 (.agg [.int .i64 F.1, .int .i64 F.2]) []) ⟨[(1, .ptr 0 0), (2, .ptr 1 0), (3, .ptr 4 0)], [(0, .cells 29 (qadj p)), (1, .cells 34 [.int .i64 0, .int .i64 0]), (4, .cells 80 (jc p e g))], 5⟩ := fun e g he => by
  unfold qag9
  repeat' (first | (with_reducible refine zA ?_) | ((with_reducible refine qaad ?_); (try rw [hP]); simp -implicitDefEqProofs [*]) | ((with_reducible refine qaa4 ?_); (try simp only [qaa3, qaai, qaao])) | (refine fin_c hm rfl rfl (by rw [hP]; exact qac8) (by rw [hP]; exact qacn) rfl (CoL.refl _) (by rw [← he]) (fun σ => rfl)) | fail)
 have rest3 : e2 = 0 → SWp X qaha (QFun X [ResultVar.cell 2 34] 0 (.agg [.int .i64 F.1, .int .i64 F.2]) []) ⟨[(1, .ptr 0 0), (2, .ptr 1 0), (3, .ptr 4 0)], [(0, .cells 29 (qadj p)), (1, .cells 34 [.int .i64 0, .int .i64 0]), (4, .cells 80 (jc p e2 g2))], 5⟩ := fun he => by
  have hpw := hPW.out he
  subst he
  have hF := hF0.out
  obtain ⟨⟨e3, g3⟩, hE3⟩ : ∃ z, orF (0, g2) (qad7 p) = z := ⟨_, rfl⟩
  obtain ⟨⟨e4, g4⟩, hE4⟩ : ∃ z, orF (e3, g3) (qaxe p) = z := ⟨_, rfl⟩
  obtain ⟨⟨e5, g5⟩, hE5⟩ : ∃ z, orF (e4, g4) (qaxg p) = z := ⟨_, rfl⟩
  obtain ⟨⟨e6, g6⟩, hE6⟩ : ∃ z, orF (e5, g5) (qagh p) = z := ⟨_, rfl⟩
  have c3 := fun id q h => qak6 p hpw hs hk 0 g2 id q h
  have c4 := fun id q h => qatp p hpw hs e3 g3 id q h
  have c5 := fun id q h => qato p hs e4 g4 (fun hz => aw_of (qadn (f := (e3, g3)) (by rw [hE4]; exact hz)).2) id q h
  have c6 := fun id q h => qaog p hs e5 g5 id q h
  rw [hE3] at c3
  rw [hE4] at c4
  rw [hE5] at c5
  rw [hE6] at c6
  rw [← qado, hE3, ← qado, hE4, ← qado, hE5, ← qado, hE6] at hF
  have hF7 : orF (e6, g6) (outsF p) = orF (qabx e6 g6 (decide (6 < (p.out.length : Int))) 2 (-7)) (rowF (fun i o => outF p i o) 7000 0 p.out) := by
   unfold outsF; rw [qadp]; congr 3; exact propext (by omega)
  rw [hF7] at hF
  clear hE3 hE4 hE5 hE6 hF7
  replace hF := Lib.hid hF
  replace hpw := Lib.hid hpw
  replace rest4 := Lib.hid rest4
  replace c3 := Lib.hid c3
  replace c4 := Lib.hid c4
  replace c5 := Lib.hid c5
  replace c6 := Lib.hid c6
  unfold qaha
  repeat' (first | (with_reducible refine zA ?_) | ((with_reducible refine qaad ?_); (try rw [hP]); simp -implicitDefEqProofs [*]) | ((first | refine qaal (qaak p _ _ _ _ _ _ _ (by simp)) ⟨rfl, trivial⟩ ⟨rfl, trivial⟩ ?_ | refine qaal (c3.out _ _ (by simp)) ⟨rfl, trivial⟩ ⟨rfl, trivial⟩ ?_ | refine qaal (c4.out _ _ (by simp)) ⟨rfl, trivial⟩ ⟨rfl, trivial⟩ ?_ | refine qaal (c5.out _ _ (by simp)) ⟨rfl, trivial⟩ ⟨rfl, trivial⟩ ?_ | refine qaal (c6.out _ _ (by simp)) ⟨rfl, trivial⟩ ⟨rfl, trivial⟩ ?_); simp -implicitDefEqProofs [*]) | fail)
  refine qaaj (qaa5 (fun s (x : Nat × Int × Int) => s.turn [(9, .int .i64 x.1)] [(4, .cells 80 (jc p x.2.1 x.2.2))]) (fun x => x.1 ≤ p.out.length ∧ F = orF (x.2.1, x.2.2) (rowF (fun i o => outF p i o) 7000 x.1 (p.out.drop x.1))) (fun x => p.out.length - x.1) (0, _, _) ?_ ⟨by simp, hF.out⟩ ?_)
  ·repeat' (first | ((with_reducible refine qaag [] hm ?_ ?_ ?_ ?_) <;> (try simp only [zT, puth, Nat.reduceEqDiff, reduceIte, Nat.reduceAdd])) | (with_reducible first | refine za ?_ ?_ | refine zb ?_ ?_ ?_ ?_) | (with_reducible first | exact qaaa | exact qaac) | ((with_reducible first | refine zga ?_ | refine zgb ?_); rfl) | ((with_reducible refine zgd ?_); (first | omega | (simp; done))) | (exact Co.refl _) | (exact CoL.refl _) | fail)
  rintro J hJ ⟨i, e, g⟩ ⟨h1, h2⟩
  unfold qad3
  simp only [zT, puth, Nat.reduceEqDiff, reduceIte, Nat.reduceAdd] at h1 h2 ⊢
  rcases Nat.lt_or_ge i p.out.length with hi | hi
  ·rw [qadl _ _ hi] at h2
   have hct := fun q => qaf5 (p.out.take i) p.out[i] (by rw [List.length_take]; omega) q
   simp only [nums, List.map_take] at hct
   generalize hxx : p.out[i] = x at h2 hct
   by_cases he : e = 0
   ·subst he
    have hA : orF (0, g) (outF p i x, 7000 + (i : Int)) = qabx (qabx 0 g (!qadu p x) 1 (7000 + (i : Int))).1 (qabx 0 g (!qadu p x) 1 (7000 + (i : Int))).2 ((p.out.take i).contains x) 7 (7000 + (i : Int)) := by
     have : outF p i x = if (!qadu p x) = true then 1 else if (p.out.take i).contains x = true then 7 else 0 := by
      unfold outF; cases qadu p x <;> rfl
     rw [this, qacg _ _ _ _ _ _ (by decide)]
     refine (qacg _ _ _ _ _ _ (by decide)).trans ?_
     exact qace _ rfl
    rw [qad9, hA] at h2
    generalize (p.out.take i).contains x = C at h2 hct
    have wi : IntKind.i64.wrap ((i : Int) + 1) = (i : Int) + 1 := qaap (by omega) (by omega)
    have wa : IntKind.i64.wrap (7000 + (i : Int)) = 7000 + (i : Int) := qaap (by omega) (by omega)
    have hi' := Nat.le_of_lt hi
    clear hA
    replace h2 := Lib.hid h2
    replace hct := Lib.hid hct
    repeat' (first | (with_reducible first | refine zA ?_ | refine qaae ?_ | refine zK ?_) | ((with_reducible first | refine qaad ?_ | refine qacm (by rw [hP]; exact qanx) ?_); (try rw [hP]); simp -implicitDefEqProofs [*]) | ((with_reducible refine qaaf ?_); (try simp -implicitDefEqProofs [*])) | ((with_reducible refine qaab rfl (fun h => ?_) (fun h => ?_)) <;> have h' := h <;> (try simp at h') <;> (try subst h')) | ((first | refine qaal (qaak p _ _ _ _ _ _ _ (by simp)) ⟨rfl, trivial⟩ ⟨rfl, trivial⟩ ?_ | refine qaal (qaf6 p _ _ _ _ _ _ (by simp)) ⟨rfl, trivial⟩ ⟨rfl, trivial⟩ ?_ | refine qacl (hct.out _) ?_); simp -implicitDefEqProofs [*]) | (with_reducible first | refine za ?_ ?_ | refine zb ?_ ?_ ?_ ?_) | (with_reducible first | exact qaaa | exact qaac) | ((with_reducible first | refine zga ?_ | refine zgb ?_); rfl) | ((with_reducible first | refine zgd ?_ | refine zge ?_); (first | omega | (simp; done))) | (exact Co.refl _) | (exact CoL.refl _) | ((refine qaah hJ (i + 1, ?_, ?_) ?_ ?_ ?_; rotate_left 2; (with_reducible refine qaag [] hm ?_ ?_ ?_ ?_) <;> (try simp only [zT, puth, Nat.reduceEqDiff, reduceIte, Nat.reduceAdd]))) | fail)
    all_goals (try dsimp only)
    all_goals (exact ⟨by omega, h2.out⟩)
   ·rw [qafd he] at h2
    have r4 := rest4.out e g h2.symm
    have ke : (e == 0) = false := by simpa using he
    replace r4 := Lib.hid r4
    clear h2
    repeat' (first | ((refine qaep ?_ r4.out)) | (with_reducible refine zA ?_) | ((with_reducible refine qaad ?_); (try rw [hP]); simp -implicitDefEqProofs [*]) | ((with_reducible refine qaam ?_); (try simp -implicitDefEqProofs [*])) | ((with_reducible refine qaab rfl (fun h => ?_) (fun h => ?_)) <;> have h' := h <;> (try simp at h') <;> (try subst h')) | ((with_reducible refine qaag [] hm ?_ ?_ ?_ ?_) <;> (try simp only [zT, puth, Nat.reduceEqDiff, reduceIte, Nat.reduceAdd])) | (with_reducible first | refine za ?_ ?_ | refine zb ?_ ?_ ?_ ?_) | (with_reducible first | exact qaaa | exact qaac) | ((with_reducible first | refine zga ?_ | refine zgb ?_); rfl) | ((with_reducible refine zgd ?_); (first | omega | (simp; done))) | (exact Co.refl _) | (exact CoL.refl _) | fail)
  ·obtain rfl : i = p.out.length := by omega
   rw [List.drop_length, qace _ rfl] at h2
   have r4 := rest4.out e g h2.symm
   replace r4 := Lib.hid r4
   clear h2
   repeat' (first | ((refine qaep ?_ r4.out)) | (with_reducible refine zA ?_) | ((with_reducible refine qaad ?_); (try rw [hP]); simp -implicitDefEqProofs [*]) | ((with_reducible refine qaam ?_); (try simp -implicitDefEqProofs [*])) | ((with_reducible refine qaab rfl (fun h => ?_) (fun h => ?_)) <;> have h' := h <;> (try simp at h') <;> (try subst h')) | ((with_reducible refine qaag [] hm ?_ ?_ ?_ ?_) <;> (try simp only [zT, puth, Nat.reduceEqDiff, reduceIte, Nat.reduceAdd])) | (with_reducible first | refine za ?_ ?_ | refine zb ?_ ?_ ?_ ?_) | (with_reducible first | exact qaaa | exact qaac) | ((with_reducible first | refine zga ?_ | refine zgb ?_); rfl) | ((with_reducible refine zgd ?_); (first | omega | (simp; done))) | (exact Co.refl _) | (exact CoL.refl _) | fail)
 have rest1 : SWp X qahb (QFun X [ResultVar.cell 2 34] 0 (.agg [.int .i64 F.1, .int .i64 F.2]) []) ⟨[(1, .ptr 0 0), (2, .ptr 1 0), (3, .ptr 4 0)], [(0, .cells 29 (qadj p)), (1, .cells 34 [.int .i64 0, .int .i64 0]), (4, .cells 80 (jc p e1 g1))], 5⟩ := by
  unfold qahb
  replace rest4 := Lib.hid rest4
  replace rest3 := Lib.hid rest3
  repeat' (first | (with_reducible refine zA ?_) | ((with_reducible refine qaad ?_); (try rw [hP]); simp -implicitDefEqProofs [*]) | (refine qaal (qaak p _ _ _ _ _ _ _ (by simp)) ⟨rfl, trivial⟩ ⟨rfl, trivial⟩ ?_; simp -implicitDefEqProofs [*]) | fail)
  refine qaaj (qaa5 (fun s (x : Nat × Int × Int) => s.turn [(61, .int .i64 x.1)] [(4, .cells 80 (jc p x.2.1 x.2.2))]) (fun x => x.1 ≤ p.meta_.length ∧ (e2, g2) = orF (x.2.1, x.2.2) (rowF (fun _ w => if wOut w then 6 else 0) 2000 x.1 (p.meta_.drop x.1))) (fun x => p.meta_.length - x.1) (0, _, _) ?_ ⟨by simp, hF2.out⟩ ?_)
  ·repeat' (first | ((with_reducible refine qaag [] hm ?_ ?_ ?_ ?_) <;> (try simp only [zT, puth, Nat.reduceEqDiff, reduceIte, Nat.reduceAdd])) | (with_reducible first | refine za ?_ ?_ | refine zb ?_ ?_ ?_ ?_) | (with_reducible first | exact qaaa | exact qaac) | ((with_reducible first | refine zga ?_ | refine zgb ?_); rfl) | ((with_reducible refine zgd ?_); (first | omega | (simp; done))) | (exact Co.refl _) | (exact CoL.refl _) | fail)
  rintro J hJ ⟨i, e, g⟩ ⟨h1, h2⟩
  unfold qafa
  simp only [zT, puth, Nat.reduceEqDiff, reduceIte, Nat.reduceAdd] at h1 h2 ⊢
  rcases Nat.lt_or_ge i p.meta_.length with hi | hi
  ·rw [qadl _ _ hi] at h2
   generalize hxx : p.meta_[i] = x at h2
   rw [qad9, qa1k e g] at h2
   have wi : IntKind.i64.wrap ((i : Int) + 1) = (i : Int) + 1 := qaap (by omega) (by omega)
   have wa : IntKind.i64.wrap (2000 + (i : Int)) = 2000 + (i : Int) := qaap (by omega) (by omega)
   have hfx : ∀ b, wOut x = b → qabx e g ((if wOut x = true then (6 : Int) else 0) != 0) (if wOut x = true then (6 : Int) else 0) (2000 + (i : Int)) = qabx e g b 6 (2000 + (i : Int)) := fun b hb => by
    rw [hb]; cases b <;> simp [qabx]
   replace h2 := Lib.hid h2
   replace hfx := Lib.hid hfx
   repeat' (first | (with_reducible first | refine zA ?_ | refine qaae ?_) | ((with_reducible refine qaad ?_); (try rw [hP]); simp -implicitDefEqProofs [*]) | ((with_reducible refine qaaf ?_); (try simp -implicitDefEqProofs [*])) | ((with_reducible refine qaab rfl (fun h => ?_) (fun h => ?_)) <;> have h' := h <;> (try simp at h') <;> (try subst h')) | ((with_reducible refine qaa6 (fun h => ?_) (fun h => ?_)) <;> have h' := h <;> (try simp at h') <;> (try subst h') <;> simp -implicitDefEqProofs [*]) | (refine qaal (qaak p _ _ _ _ _ _ _ (by simp)) ⟨rfl, trivial⟩ ⟨rfl, trivial⟩ ?_; simp -implicitDefEqProofs [*]) | (with_reducible first | refine za ?_ ?_ | refine zb ?_ ?_ ?_ ?_) | (with_reducible first | exact qaaa | exact qaac) | ((with_reducible first | refine zga ?_ | refine zgb ?_); rfl) | ((with_reducible first | refine zgd ?_ | refine zge ?_); (first | omega | (simp; done))) | (exact Co.refl _) | (exact CoL.refl _) | ((refine qaah hJ (i + 1, ?_, ?_) ?_ ?_ ?_; rotate_left 2; (with_reducible refine qaag [] hm ?_ ?_ ?_ ?_) <;> (try simp only [zT, puth, Nat.reduceEqDiff, reduceIte, Nat.reduceAdd]))) | fail)
   all_goals (try dsimp only)
   all_goals (refine ⟨by omega, ?_⟩; rw [h2.out, hfx.out _ rfl]; congr 2; simp [wOut, *])
  ·obtain rfl : i = p.meta_.length := by omega
   rw [List.drop_length, qace _ rfl] at h2
   have q1 : e = e2 := (Prod.mk.inj h2).1.symm
   have q2 : g = g2 := (Prod.mk.inj h2).2.symm
   subst q1 q2
   clear h2
   replace hF2 := Lib.hid hF2
   by_cases he : e = 0
   ·have r3 := rest3.out he
    subst he
    replace r3 := Lib.hid r3
    repeat' (first | ((refine qaep ?_ r3.out)) | (with_reducible refine zA ?_) | ((with_reducible refine qaad ?_); (try rw [hP]); simp -implicitDefEqProofs [*]) | ((with_reducible first | refine qaaf ?_ | refine qaam ?_); (try simp -implicitDefEqProofs [*])) | ((with_reducible refine qaab rfl (fun h => ?_) (fun h => ?_)) <;> have h' := h <;> (try simp at h') <;> (try subst h')) | ((with_reducible refine qaag [] hm ?_ ?_ ?_ ?_) <;> (try simp only [zT, puth, Nat.reduceEqDiff, reduceIte, Nat.reduceAdd])) | (with_reducible first | refine za ?_ ?_ | refine zb ?_ ?_ ?_ ?_) | (with_reducible first | exact qaaa | exact qaac) | ((with_reducible first | refine zga ?_ | refine zgb ?_); rfl) | ((with_reducible refine zgd ?_); (first | omega | (simp; done))) | (exact Co.refl _) | (exact CoL.refl _) | fail)
   ·have ke : (e != 0) = true := by simpa using he
    have hfin : F = (e, g) := by rw [hF0.out]; exact qafd he _
    replace hfin := Lib.hid hfin
    repeat' (first | (with_reducible refine zA ?_) | ((with_reducible refine qaad ?_); (try rw [hP]); simp -implicitDefEqProofs [*]) | ((with_reducible refine qaam ?_); (try simp -implicitDefEqProofs [*])) | ((with_reducible refine qaa4 ?_); (try simp only [qaa3, qaai, qaao])) | ((with_reducible refine qaab rfl (fun h => ?_) (fun h => ?_)) <;> have h' := h <;> (try simp at h') <;> (try subst h')) | (refine fin_c hm rfl rfl (by rw [hP]; exact qac8) (by rw [hP]; exact qacn) rfl (CoL.refl _) (by rw [hfin.out]) (fun σ => rfl)) | fail)
 unfold c_pcheck
 replace rest1 := Lib.hid rest1
 clear rest3 rest4
 repeat' (first | (with_reducible refine zA ?_) | ((with_reducible refine qaad ?_); (try rw [hP]); simp -implicitDefEqProofs [*]) | (refine qaal (qaak p _ _ _ _ _ _ _ (by simp)) ⟨rfl, trivial⟩ ⟨rfl, trivial⟩ ?_; simp -implicitDefEqProofs [*]) | fail)
 refine qaaj (qaa5 (fun s (x : Nat × Int × Int) => s.turn [(4, .int .i64 x.1)] [(4, .cells 80 (jc p x.2.1 x.2.2))]) (fun x => x.1 ≤ p.heads.length ∧ (e1, g1) = orF (x.2.1, x.2.2) (rowF (fun _ h => qaj0 h.w) 1000 x.1 (p.heads.drop x.1))) (fun x => p.heads.length - x.1) (0, _, _) ?_ ⟨by simp, hF1.out⟩ ?_)
 ·repeat' (first | ((with_reducible refine qaag [] hm ?_ ?_ ?_ ?_) <;> (try simp only [zT, puth, Nat.reduceEqDiff, reduceIte, Nat.reduceAdd])) | (with_reducible first | refine za ?_ ?_ | refine zb ?_ ?_ ?_ ?_) | (with_reducible first | exact qaaa | exact qaac) | ((with_reducible first | refine zga ?_ | refine zgb ?_); rfl) | ((with_reducible refine zgd ?_); (first | omega | (simp; done))) | (exact Co.refl _) | (exact CoL.refl _) | fail)
 rintro J hJ ⟨i, e, g⟩ ⟨h1, h2⟩
 unfold qahd
 simp only [zT, puth, Nat.reduceEqDiff, reduceIte, Nat.reduceAdd] at h1 h2 ⊢
 have stop : ∀ h : (e1, g1) = (e, g), e = e1 ∧ g = g1 := fun h => ⟨(Prod.mk.inj h).1.symm, (Prod.mk.inj h).2.symm⟩
 rcases Nat.lt_or_ge i p.heads.length with hi | hi
 ·rw [qadl _ _ hi] at h2
  generalize hxx : p.heads[i] = x at h2
  by_cases he : e = 0
  ·subst he
   rw [qad9, qa1k 0 g (qaj0 x.w)] at h2
   have wi : IntKind.i64.wrap ((i : Int) + 1) = (i : Int) + 1 := qaap (by omega) (by omega)
   have wa : IntKind.i64.wrap (1000 + (i : Int)) = 1000 + (i : Int) := qaap (by omega) (by omega)
   replace h2 := Lib.hid h2
   clear stop
   repeat' (first | (with_reducible first | refine zA ?_ | refine qaae ?_) | ((with_reducible refine qaad ?_); (try rw [hP]); simp -implicitDefEqProofs [qar5, *]) | ((with_reducible refine qaaf ?_); (try simp -implicitDefEqProofs [qar5, *])) | ((with_reducible refine qaab rfl (fun h => ?_) (fun h => ?_)) <;> have h' := h <;> (try simp at h') <;> (try subst h')) | ((first | refine qaal (qaak p _ _ _ _ _ _ _ (by simp)) ⟨rfl, trivial⟩ ⟨rfl, trivial⟩ ?_ | refine qacl (psize_s x.w _) ?_); simp -implicitDefEqProofs [qar5, *]) | (with_reducible first | refine za ?_ ?_ | refine zb ?_ ?_ ?_ ?_) | (with_reducible first | exact qaaa | exact qaac) | ((with_reducible first | refine zga ?_ | refine zgb ?_); rfl) | ((with_reducible first | refine zgd ?_ | refine zge ?_); (first | omega | (simp; done))) | (exact Co.refl _) | (exact CoL.refl _) | ((refine qaah hJ (i + 1, ?_, ?_) ?_ ?_ ?_; rotate_left 2; (with_reducible refine qaag [] hm ?_ ?_ ?_ ?_) <;> (try simp only [zT, puth, Nat.reduceEqDiff, reduceIte, Nat.reduceAdd]))) | fail)
   all_goals (try dsimp only)
   all_goals (exact ⟨by omega, h2.out⟩)
  ·rw [qafd he] at h2
   obtain ⟨rfl, rfl⟩ := stop h2
   have ke : (e == 0) = false := by simpa using he
   clear h2 stop
   repeat' (first | ((refine qaep ?_ rest1.out)) | (with_reducible refine zA ?_) | ((with_reducible refine qaad ?_); (try rw [hP]); simp -implicitDefEqProofs [*]) | ((with_reducible refine qaam ?_); (try simp -implicitDefEqProofs [*])) | ((with_reducible refine qaab rfl (fun h => ?_) (fun h => ?_)) <;> have h' := h <;> (try simp at h') <;> (try subst h')) | ((with_reducible refine qaag [] hm ?_ ?_ ?_ ?_) <;> (try simp only [zT, puth, Nat.reduceEqDiff, reduceIte, Nat.reduceAdd])) | (with_reducible first | refine za ?_ ?_ | refine zb ?_ ?_ ?_ ?_) | (with_reducible first | exact qaaa | exact qaac) | ((with_reducible first | refine zga ?_ | refine zgb ?_); rfl) | ((with_reducible refine zgd ?_); (first | omega | (simp; done))) | (exact Co.refl _) | (exact CoL.refl _) | fail)
 ·obtain rfl : i = p.heads.length := by omega
  rw [List.drop_length, qace _ rfl] at h2
  obtain ⟨rfl, rfl⟩ := stop h2
  clear h2 stop
  repeat' (first | ((refine qaep ?_ rest1.out)) | (with_reducible refine zA ?_) | ((with_reducible refine qaad ?_); (try rw [hP]); simp -implicitDefEqProofs [*]) | ((with_reducible refine qaam ?_); (try simp -implicitDefEqProofs [*])) | ((with_reducible refine qaab rfl (fun h => ?_) (fun h => ?_)) <;> have h' := h <;> (try simp at h') <;> (try subst h')) | ((with_reducible refine qaag [] hm ?_ ?_ ?_ ?_) <;> (try simp only [zT, puth, Nat.reduceEqDiff, reduceIte, Nat.reduceAdd])) | (with_reducible first | refine za ?_ ?_ | refine zb ?_ ?_ ?_ ?_) | (with_reducible first | exact qaaa | exact qaac) | ((with_reducible first | refine zga ?_ | refine zgb ?_); rfl) | ((with_reducible refine zgd ?_); (first | omega | (simp; done))) | (exact Co.refl _) | (exact CoL.refl _) | fail)
end Go.Proofs.Ytbefmmajjfijnaa
namespace Go.Proofs.Ytbefmmajjfijnaa
set_option linter.all false
open Go.RowKit
attribute [local simp] qabl qabk qaav qaa9 qaaw qaa8 qabi qabj qaaq qab6 SOp.run SX.ev putd puts argS upds SOp.touch SSt.keep SSt.skip gets geth puth delh idOf SV.cells? setL qaeb qaec sbin eq0 eq1 eqL qadx qac0 qac1 qaa3 qabm qaai qabn qab7 qaao qaan FrzOk qabc qaay qaba qabb qaar qaax qabo qaaz qaat qabd qaas frzS frzH frz frz1 frz0 SlotsM ObjsM ObjM rn ren ren1 ren0 qaca qacx qacs qab9 qabp qac3 qac2 CoL qabe qaby dels adds idsH qabu
attribute [local simp] nums qadj
theorem whole_q (p : PlanD) (hk : WOk p) (hs : SmallP p) (hl : (qacy p).length ≤ wMax) (q : Nat) : SCalls Try.prog 13 [.agg (qadj p)] [] q (.own q (qacy p).length) [(q, .row 5 1 ((qacy p).map fun x => [.int .u8 x]))] := by
 refine qagp q (by decide) (whole_s p hk hs hl) (fun _ => rfl) rfl rfl ⟨⟨.row 5 1 ((qacy p).map fun x => [.int .u8 x]), ?_, rfl, rfl, PureR.ok, (PureR.ren _).symm⟩, trivial⟩ ?_ (by simp [idsH])
 ·simp [geth]
 ·intro i hi; simp [idsH] at hi; omega
theorem crc_own (b : List Int) (hb : b.length ≤ 140737488355328) (id q : Nat) : SCalls Try.prog 11 [.own id b.length] [(id, .row 5 1 (b.map fun x => [.int .u8 x]))] q (.int .u32 (crcF b)) [(id, .row 5 1 (b.map fun x => [.int .u8 x]))] :=
 qagq (ccrc_s b hb q) ⟨qake (e := 5) (by simp [geth]) PureR.pure (by simp), trivial⟩ (qafp _ _)
def sumB (s : Int) : List Int := [IntKind.u8.wrap s, IntKind.u8.wrap (s / 2 ^ min 8 IntKind.u32.bits), IntKind.u8.wrap (s / 2 ^ min 16 IntKind.u32.bits), IntKind.u8.wrap (s / 2 ^ min 24 IntKind.u32.bits)]
def encB (p : PlanD) : List Int := qacy p ++ sumB (crcF (qacy p))
set_option maxHeartbeats 4000000 in
theorem enc_bad (p : PlanD) (hk : qah3 p) (hs : SmallP p) (hf : (qagt p).1 ≠ 0) (q : Nat) : SCalls Try.prog 7 [.agg (qadj p)] [] q (.tup [.nilsl, .agg [.int .i64 (qagt p).1, .int .i64 (qagt p).2]]) [] := by
 refine qacq ?_ (fun _ => rfl) (fun _ => rfl) rfl q
 refine qaau (N := 32) Try.func7 rfl rfl (by kernel_rfl) qaix (by simp) (by repeat' (first | exact trivial | refine And.intro ?_ ?_ | rfl | decide | exact PureR.ren _)) (by repeat' (first | exact trivial | refine And.intro ?_ ?_ | rfl | decide | exact PureR.ren _)) ?_
 rintro X hP hN hm
 unfold c_enc
 have c1 := fun q => qask p hs hk q
 have k1 : ((qagt p).1 == 0) = false := by simpa using hf
 have k2 : ((qagt p).1 != 0) = true := by simp [bne, k1]
 generalize qagt p = f at c1 k1 k2 ⊢
 obtain ⟨a, b⟩ := f
 simp only [qadj] at c1 k1 k2 ⊢
 replace c1 := Lib.hid c1
 clear hf
 repeat' (first | (with_reducible first | refine zA ?_ | refine zK ?_) | ((with_reducible first | refine qaad ?_ | refine qacm (by rw [hP]; exact qanx) ?_); (try rw [hP]); simp -implicitDefEqProofs [*]) | ((with_reducible refine qaa4 ?_); (try simp only [qaa3, qaai, qaao])) | ((with_reducible refine qaab rfl (fun h => ?_) (fun h => ?_)) <;> have h' := h <;> (try simp at h') <;> (try subst h')) | (refine qacl (c1.out _) ?_; simp -implicitDefEqProofs [*]) | (refine qas4 hm (by decide) rfl rfl (fun _ => rfl) rfl rfl (by rw [hP]; exact qac8) (by rw [hP]; exact qacn) rfl (CoL.refl _) rfl (fun _ => rfl)) | fail)
theorem enc_ok (p : PlanD) (hk : qah3 p) (hs : SmallP p) (hw : WOk p) (hf : (qagt p).1 = 0) (hl : (qacy p).length ≤ 100000000000) : SCalls Try.prog 7 [.agg (qadj p)] [] 0 (.tup [.own 0 (encB p).length, .agg [.int .i64 0, .int .i64 0]]) [(0, .row 5 1 ((encB p).map fun x => [.int .u8 x]))] := by
 refine qaau (N := 32) Try.func7 rfl rfl (by kernel_rfl) qaix (by simp) (by repeat' (first | exact trivial | refine And.intro ?_ ?_ | rfl | decide | exact PureR.ren _)) (by repeat' (first | exact trivial | refine And.intro ?_ ?_ | rfl | decide | exact PureR.ren _)) ?_
 rintro X hP hN hm
 unfold c_enc
 have c1 := fun q => qask p hs hk q
 have c2 := fun q => whole_q p hw hs (by unfold wMax; omega) q
 have c3 := fun id q => crc_own (qacy p) (by omega) id q
 unfold encB
 generalize crcF (qacy p) = S at c3 ⊢
 generalize qacy p = W at c2 c3 hl ⊢
 generalize qagt p = f at c1 hf ⊢
 obtain ⟨a, b⟩ := f
 have ha : a = 0 := hf
 subst ha
 have hc2 : W.length + 4 ≤ maxLen := by unfold maxLen; omega
 have hc3 : W.length ≤ 140737488355324 := by omega
 obtain ⟨E, hE⟩ : ∃ E, E = W ++ sumB S := ⟨_, rfl⟩
 rw [← hE]
 replace hE := Lib.hid hE
 simp only [qadj] at c1 c2 ⊢
 replace c1 := Lib.hid c1
 replace c2 := Lib.hid c2
 replace c3 := Lib.hid c3
 clear hf hl
 repeat' (first | (with_reducible refine zA ?_) | ((with_reducible refine qaad ?_); (try rw [hP]); simp -implicitDefEqProofs [*]) | ((with_reducible refine qaaf ?_); (try simp -implicitDefEqProofs [*])) | ((with_reducible refine qaa4 ?_); (try simp only [qaa3, qaai, qaao])) | ((with_reducible refine qaab rfl (fun h => ?_) (fun h => ?_)) <;> have h' := h <;> (try simp at h') <;> (try subst h')) | ((first | refine qacl (c1.out _) ?_ | refine qaal (c2.out _) trivial ⟨rfl, trivial⟩ ?_ | refine qaal (c3.out _ _) ⟨rfl, trivial⟩ ⟨rfl, trivial⟩ ?_); simp -implicitDefEqProofs [*]) | fail)
 exact qa3m (id := 2) (id' := 50) (es := E.map fun x => [SV.int .u8 x]) hm (by decide) (by decide) (by rw [hE.out, List.length_append]; rfl) rfl (by rw [hE.out, List.map_append]; rfl) rfl (by rw [hP]; exact qac8) (by rw [hP]; exact qacn) rfl (CoL.refl _) rfl (fun _ => rfl)
end Go.Proofs.Ytbefmmajjfijnaa
namespace Go.Proofs.Ytbefmmajjfijnaa
set_option linter.all false
open Go.RowKit
def seqL : Code → Code
 | .seq a _ => a
 | c => c
def seqR : Code → Code
 | .seq _ b => b
 | c => c
theorem SimF.defer {X Y : Cx} {ρ : qab1} {fp : Nat → Nat → Prop} {s : SSt} {a a' : Act} {w : World} (h : SimF X ρ fp s a w) (hm : Y.m = X.m) (h0 : Y.ρ0 = X.ρ0) (hW : Y.W = X.W) (hM : Y.M = X.M) (hO : Y.O = X.O) (hN : a'.tmps.size = Y.N) (hd : a'.defers = Y.D) (t0 : Nat) (ht : gets s.sl t0 = .any) (hs : ∀ t, t ≠ t0 → a'.tmps.getD t undef = a.tmps.getD t undef) : SimF Y ρ fp s a' w := by
 have hA : Av Y s.hp fp = Av X s.hp fp := by unfold Av; rw [hO]
 refine ⟨⟨⟨fun id o ho => by rw [hA]; exact h.sim.h.objs id o ho, h.sim.h.disj, fun id o ho k hk => by rw [hM, hW]; exact h.sim.h.turn id o ho k hk, by rw [hM, hW]; exact h.sim.h.step, fun id hid => by rw [h0]; exact h.sim.h.keep id (by rw [← hm]; exact hid)⟩, hN, hd, fun t => ?_⟩, h.fresh, by rw [hm]; exact h.le⟩
 rw [hA]
 by_cases e : t = t0
 ·subst e; rw [ht]; exact .any
 ·rw [hs t e]; exact h.sim.slots t
theorem qar8 {P : Program} {f g : FuncId} {fn : Func} {N m : Nat} {code B C : Code} {A : Code} {cA cC : SCode} {args : List SV} {h1 h2 : Hp} {r : SV} {s1 : SSt} {t0 : Nat} (G : Array Value → Prop) (hf : P.funcs[f]? = some fn) (hb : fn.body = some code) (hN : fn.ntmps = N) (hname : (fn.name == "runtime.NumGoroutine") = false) (hcode : code = .seq A (.seq B C)) (hA : comp P N A = some cA.erase) (hC : comp P N C = some cC.erase) (hal : args.length ≤ N)
  (hla : LtL m args) (hlh : LtH m h1)
  (hB : ∀ (Q : Exit → Act → World → Prop) (a : Act) (w : World), a.tmps.size = N → a.defers = [] → (∀ a' fv cap, a'.tmps.size = N → a'.defers = [⟨.fn fv cap, #[]⟩] → (∀ w, ∃ ar, G ar ∧ (invoke (.fn fv cap) #[]).run P w = .ok (.enter g ar) w) → (∀ t, t ≠ t0 → a'.tmps.getD t undef = a.tmps.getD t undef) → Q .normal a' w) → B.wp P Q a w)
  (hg : ∀ ar w, G ar → CallsD P g ar .returning w fun e u w' => e = .returned (.tuple #[]) ∧ u = .returning ∧ w' = w)
  (ht0 : gets s1.sl t0 = .any)
  (h : ∀ X : Cx, X.P = P → X.N = N → X.m = m → SWp X cA (fun e s => e = .normal ∧ Wk X s s1) ⟨argS 0 args, h1, m⟩)
  (k : ∀ X : Cx, X.P = P → X.N = N → X.m = m → SWp X cC (QFunN 8 X fn.results.toList m r h2) s1) : SCalls P f args h1 m r h2 := by
 refine ⟨.of hf (by rw [hb]; rfl) hname, fun O ρ fp w vs hok hargs hfr => ?_⟩
 let σ : Nat → Nat := fun i => if i < m then i else m
 let ρi : qab1 := fun id => ρ (σ id)
 have hm0 : ρ m = none := hfr m (Nat.le_refl _) (by omega)
 let X : List Deferred → Cx := fun D => ⟨P, N, m, ρi, w, Live h1 fp, O, hok.O_lt, fun k hO hl => (hok.lt k hl).2 hO, D⟩
 have hgl : ∀ id o, geth h1 id = some o → id < m ∧ σ id = id := fun id o ho => by
  have := (hlh.get id o ho).1
  exact ⟨this, if_pos this⟩
 have hfp : (fun id => fp id) = fp := rfl
 have hsimh : SimH (X []) ρi fp h1 w := by
  refine ⟨fun id o ho => ?_, hok.disj, fun id o ho k hk => ⟨.inl ⟨id, o, ho, hk⟩, (hok.lt k ⟨id, o, ho, hk⟩).1⟩, .refl _ _, fun _ _ => rfl⟩
  have h3 := hok.objs id o ho
  obtain ⟨h4, h5⟩ := hgl id o ho
  have h6 := (hlh.get id o ho).2.objM
  rw [show id = σ id from h5.symm] at h3
  have := h6.back h3
  rw [h5] at this
  exact this
 have hlen := hargs.1
 have hreps : Reps w (Av (X []) h1 fp) ρi args vs := by
  have h3 : Reps w (fun k => O k ∨ Live h1 fp k) ρ (args.map (ren σ)) vs := by rw [hla.map]; exact hargs
  exact qac7 h3
 let a0 : Act := { tmps := vs.toArray ++ Array.replicate (fn.ntmps - vs.toArray.size) undef, defers := [] }
 have hsz : a0.tmps.size = N := by simp [a0, hN]; omega
 have hsim : SimF (X []) ρi fp ⟨argS 0 args, h1, m⟩ a0 w := by
  refine ⟨⟨hsimh, hsz, rfl, fun t => ?_⟩, fun id hid => ?_, Nat.le_refl _⟩
  ·show RepV w _ ρi (gets (argS 0 args) t) _
   rw [qahw, if_neg (by omega), Nat.sub_zero]
   cases e : args[t]? with
   | none => exact .any
   | some x =>
    obtain ⟨v, h3, h4⟩ := hreps.get e
    have hlt : t < vs.length := (List.getElem?_eq_some_iff.1 h3).1
    have : a0.tmps.getD t undef = v := by
     have h5 : a0.tmps[t]? = some v := by
      simp only [a0]
      rw [Array.getElem?_append_left (by simpa using hlt)]
      simpa using h3
     rw [Array.getD_eq_getD_getElem?, h5]; rfl
    rw [this]; exact h4
  ·show ρ (σ id) = none
   simp only [σ]
   rw [if_neg (by simp only at hid; omega)]; exact hm0
 have fin : ∀ D s ρ' fp' a w', (∃ s', Wk (X D) s s' ∧ qamv P s' fn.results.toList = some r ∧ SubH s'.hp h2 ∧ s'.nx ≤ m + 8) → SimF (X D) ρ' fp' s a w' →
   a.defers = D ∧ ∃ v, (results fn a.tmps).run P w' = .ok v w' ∧ ∃ v2 ρ2 fp2, Ending.returned v = .returned v2 ∧ HeapOk O ρ2 fp2 h2 w' ∧ RepV w' (fun k => O k ∨ Live h2 fp2 k) ρ2 r v2 ∧ Step (Live h1 fp) w w' ∧
    (∀ id p, ρ id = some p → ρ2 id = some p) ∧ (∀ id, ρ2 id ≠ none → ρ id ≠ none ∨ (m ≤ id ∧ id < m + 8)) ∧ ∀ id o, geth h2 id = some o → ∀ k, fp2 id k → Live h1 fp k ∨ w.heap.size ≤ k := by
  rintro D s ρ' fp' a w' ⟨s', hwk, hres, hsb, hnx⟩ hs
  obtain ⟨ρ3, fp3, hs3⟩ := hwk ρ' fp' a w' hs
  obtain ⟨v, q1, q2⟩ := qaic hs3 hres
  let ρ2 : qab1 := fun id => match ρ id with
   | some p => some p
   | none => ρ3 id
  have hext : ∀ id p, ρ3 id = some p → ρ2 id = some p := fun id p hp => by
   simp only [ρ2]
   cases e : ρ id with
   | none => exact hp
   | some p' =>
    simp only
    by_cases hid : id < m
    ·have h5 : ρ3 id = ρi id := hs3.sim.h.keep id hid
     rw [h5] at hp
     simp only [ρi, σ, if_pos hid, e] at hp
     exact hp
    ·by_cases hid2 : id < m + 8
     ·rw [hfr id (by omega) hid2] at e; cases e
     ·rw [hs3.fresh id (by omega)] at hp; cases hp
  have hsg := hsb.get
  have hav : ∀ k, (O k ∨ Live h2 fp3 k) → Av (X D) s'.hp fp3 k := by
   rintro k (hO | ⟨id, o, ho, hk⟩)
   ·exact .inl hO
   ·exact .inr ⟨id, o, hsg id o ho, hk⟩
  refine ⟨hs3.sim.defers, v, q1, v, ρ2, fp3, rfl, ⟨fun id o ho => ?_, fun id id' o o' hne ho ho' => hs3.sim.h.disj id id' o o' hne (hsg _ _ ho) (hsg _ _ ho'), ?_, ?_⟩, q2.mono (.refl _ _) (fun k h _ => hav k h) hext, hs3.sim.h.step, fun id p hp => ?_, fun id hid => ?_, fun id o ho k hk => ?_⟩
  ·exact (hs3.sim.h.objs id o (hsg _ _ ho)).mono ⟨.refl _ _, fun k h _ => hav k h, hext⟩ fun _ _ => rfl
  ·rintro k ⟨id, o, ho, hk⟩
   obtain ⟨h5, h6⟩ := hs3.sim.h.turn id o (hsg _ _ ho) k hk
   refine ⟨h6, fun hO => ?_⟩
   rcases h5 with h5 | h5
   ·exact (X D).O_M k hO h5
   ·exact absurd (hok.O_lt k hO) (Nat.not_lt_of_le h5)
  ·exact fun k hO => Nat.lt_of_lt_of_le (hok.O_lt k hO) hs3.sim.h.step.size
  ·simp only [ρ2, hp]
  ·cases e : ρ id with
   | some p => exact .inl (by simp)
   | none =>
    simp only [ρ2, e] at hid
    refine .inr ?_
    by_cases hlt : id < m
    ·have h5 : ρ3 id = ρi id := hs3.sim.h.keep id hlt
     rw [h5] at hid
     simp only [ρi, σ, if_pos hlt, e] at hid
     exact absurd rfl hid
    ·refine ⟨by omega, Nat.lt_of_not_le fun hge => hid (hs3.fresh id (by omega))⟩
  ·exact (hs3.sim.h.turn id o (hsg _ _ ho) k hk).1
 have hw := h (X []) rfl rfl rfl A hA ρi fp a0 w hsim
 refine calls_of_wp_defers hf hb ?_
 rw [hcode]
 refine wp_seq (wp_mono hw ?_)
 intro e a w1 ho
 cases e with
 | exit id => obtain ⟨s, ρ', fp', ⟨h3, _⟩, _⟩ := ho; cases h3
 | ret => obtain ⟨s, ρ', fp', ⟨h3, _⟩, _⟩ := ho; cases h3
 | goto l => exact ho.elim
 | panic c => exact ho.elim
 | outgrown => exact ho.elim
 | normal =>
  obtain ⟨s, ρ1, fp1, ⟨_, hwk⟩, hs⟩ := ho
  obtain ⟨ρ2, fp2, hs2⟩ := hwk ρ1 fp1 a w1 hs
  refine wp_seq (hB _ a w1 hs2.sim.tmps hs2.sim.defers fun a' fv cap q1 q2 q3 q4 => ?_)
  have hs3 : SimF (X [⟨.fn fv cap, #[]⟩]) ρ2 fp2 s1 a' w1 := hs2.defer rfl rfl rfl rfl rfl q1 q2 t0 ht0 q4
  refine wp_mono (k (X _) rfl rfl rfl C hC ρ2 fp2 a' w1 hs3) ?_
  have done : ∀ s ρ' fp' a w', (∃ s', Wk (X [⟨.fn fv cap, #[]⟩]) s s' ∧ qamv P s' fn.results.toList = some r ∧ SubH s'.hp h2 ∧ s'.nx ≤ m + 8) → SimF (X [⟨.fn fv cap, #[]⟩]) ρ' fp' s a w' → Leaves P fn a.tmps (fun e w' => ∃ v ρ' fp', e = .returned v ∧ HeapOk O ρ' fp' h2 w' ∧ RepV w' (fun k => O k ∨ Live h2 fp' k) ρ' r v ∧ Step (Live h1 fp) w w' ∧
   (∀ id p, ρ id = some p → ρ' id = some p) ∧ (∀ id, ρ' id ≠ none → ρ id ≠ none ∨ (m ≤ id ∧ id < m + 8)) ∧ ∀ id o, geth h2 id = some o → ∀ k, fp' id k → Live h1 fp k ∨ w.heap.size ≤ k) a.defers .returning w' := fun s ρ' fp' a w' hq hs => by
   obtain ⟨z1, v, z2, z3⟩ := fin _ s ρ' fp' a w' hq hs
   rw [z1]
   obtain ⟨ar, z5, z4⟩ := q3 w'
   refine leaves_cons (by simp) z4 ((hg ar w' z5).mono ?_)
   rintro e u w2 ⟨rfl, rfl, rfl⟩
   exact ⟨v, z2, z3⟩
  intro e a w' ho
  cases e with
  | normal => obtain ⟨s, ρ', fp', h3, h4⟩ := ho; exact done s ρ' fp' a w' h3 h4
  | ret => obtain ⟨s, ρ', fp', h3, h4⟩ := ho; exact done s ρ' fp' a w' h3 h4
  | exit id => obtain ⟨s, ρ', fp', h3, h4⟩ := ho; exact h3.elim
  | goto l => exact ho.elim
  | panic c => exact ho.elim
  | outgrown => exact ho.elim
end Go.Proofs.Ytbefmmajjfijnaa
namespace Go.Proofs.Ytbefmmajjfijnaa
set_option linter.all false
open Go.RowKit
attribute [local simp] qabl qabk qaav qaa9 qaaw qaa8 qabi qabj qaaq qab6 SOp.run SX.ev putd puts argS upds SOp.touch SSt.keep SSt.skip gets geth puth delh idOf SV.cells? setL qaeb qaec sbin eq0 eq1 eqL qadx qac0 qac1 qaa3 qabm qaai qabn qab7 qaao qaan FrzOk qabc qaay qaba qabb qaar qaax qabo qaaz qaat qabd qaas frzS frzH frz frz1 frz0 SlotsM ObjsM ObjM rn ren ren1 ren0 qaca qacx qacs qab9 qabp qac3 qac2 CoL qabe qaby dels adds idsH qabu
attribute [local simp] nums
theorem qa3u (x y : Value) (w : World) : CallsD Try.prog 14 #[x, y] .returning w fun e u w' => e = .returned (.tuple #[]) ∧ u = .returning ∧ w' = w := by
 refine callsD_of_wpS Try.func14 rfl fun c₀ cs hu => ?_
 apply wpS_seq
 apply wpS_region
 simp [wpOpsS, go_sem, recoverD, hu, Try.ntmps14, Exit.thenS]
 apply wpS_seq
 apply wpS_region
 simp [wpOpsS, go_sem, Exit.thenS]
 refine wpS_cond (t := false) (by simp [Act.eval, Array.replicate]) ?_
 simp only [Bool.false_eq_true, if_false]
 refine wpS_of_wp (wp_skip ?_)
 cases c₀
 simp_all [bodyPostS, results, Try.results14]
noncomputable abbrev decC : Code := (Try.f8.body).getD .skip
theorem qa3w : decC = .seq (seqL decC) (.seq (seqL (seqR decC)) (seqR (seqR decC))) := by kernel_rfl
theorem dec_B (Q : Exit → Act → World → Prop) (a : Act) (w : World) (h1 : a.tmps.size = 96) (h2 : a.defers = [])
  (h : ∀ a' fv cap, a'.tmps.size = 96 → a'.defers = [⟨.fn fv cap, #[]⟩] → (∀ w, ∃ ar, (∃ x y, ar = #[x, y]) ∧ (invoke (.fn fv cap) #[]).run Try.prog w = .ok (.enter 14 ar) w) → (∀ t, t ≠ 8 → a'.tmps.getD t undef = a.tmps.getD t undef) → Q .normal a' w) : (seqL (seqR decC)).wp Try.prog Q a w := by
 have hmf : ∀ (fn : Fn) (first cap : Array Value) (w : World), (Instr.makeFunc fn first cap).run Try.prog w = .ok (.func fn first cap) w := fun _ _ _ _ => rfl
 obtain ⟨ts, ds⟩ := a
 simp only at h1 h2
 subst h2
 unfold decC
 simp only [Try.f8, Option.getD, seqL, seqR]
 go_wp2
 have g2 : 2 < ts.size := by omega
 have g3 : 3 < ts.size := by omega
 refine h _ _ _ (by simp [h1]) rfl (fun w => ⟨#[ts[2], ts[3]], ⟨_, _, rfl⟩, by simp [go_sem]⟩) fun t ht => ?_
 rw [Array.getD_eq_getD_getElem?, Array.getElem?_setIfInBounds, if_neg (Ne.symm ht), ← Array.getD_eq_getD_getElem?]
end Go.Proofs.Ytbefmmajjfijnaa
namespace Go.Proofs.Ytbefmmajjfijnaa
set_option linter.all false
open Go.RowKit
abbrev qa4z : List SOper := [Oa 2 (.alloc 29 [.nilsl, .nilsl, .nilsl, .nilsl, .nilsl, .nilsl, .nilsl]), Oa 3 (.alloc 34 [(.int .i64 0), (.int .i64 0)])]
abbrev qa4y : List SOper := [Oa 9 (.mv (.t 0)), Oa 10 (.len false (.t 9)), Oa 11 (.bin .sub (.t 10) (.c (.int .i64 4))), Oa 4 (.mv (.t 11))]
abbrev qa4x : List SOper := [Oa 12 (.mv (.t 4)), Oa 13 (.bin .lss (.t 12) (.c (.int .i64 3)))]
abbrev qa4w : List SOper := [Oa 14 (.loads 7 (.t 2)), Oa 15 (.mv (.t 0)), Oa 16 (.len false (.t 15)), Oa 17 (.build [(.int .i64 0), (.int .i64 0)] [(0, 1, (.c (.int .i64 3))), (1, 1, (.t 16))]), Ob (.store 7 (.t 2) (.t 14)), Ob (.store 2 (.t 3) (.t 17))]
abbrev qa4v : List SOper := [Oa 18 (.mv (.t 0)), Oa 19 (.len false (.t 18)), Oa 20 (.bin .gtr (.t 19) (.c (.int .i64 8000)))]
abbrev qa4u : List SOper := [Oa 21 (.loads 7 (.t 2)), Oa 22 (.build [(.int .i64 0), (.int .i64 0)] [(0, 1, (.c (.int .i64 14))), (1, 1, (.c (.int .i64 8000)))]), Ob (.store 7 (.t 2) (.t 21)), Ob (.store 2 (.t 3) (.t 22))]
abbrev qa4t : List SOper := [Oa 23 (.mv (.t 0)), Oa 24 (.slice 1 (.t 23) none (some (.c (.int .i64 3)))), Oa 25 (.b2s (.t 24)), Oa 26 (.bin .neq (.t 25) (.c (.str ⟨#[83, 89, 1]⟩)))]
abbrev qa4s : List SOper := [Oa 27 (.loads 7 (.t 2)), Oa 28 (.build [(.int .i64 0), (.int .i64 0)] [(0, 1, (.c (.int .i64 4))), (1, 1, (.c (.int .i64 0)))]), Ob (.store 7 (.t 2) (.t 27)), Ob (.store 2 (.t 3) (.t 28))]
abbrev qa0q : List SOper := [Oa 29 (.mv (.t 0)), Oa 30 (.mv (.t 4)), Od 31 (.iaddr 1 (.t 29) (.t 30)) 3, Od 32 (.load (.t 31)) 7, Od 33 (.conv .u32 (.t 32)) 15, Oa 34 (.mv (.t 0)), Oa 35 (.mv (.t 4)), Od 36 (.bin .add (.t 35) (.c (.int .i64 1))) 64, Od 37 (.iaddr 1 (.t 34) (.t 36)) 224, Od 38 (.load (.t 37)) 480, Od 39 (.conv .u32 (.t 38)) 992, Od 40 (.bin .shl (.t 39) (.c (.int .u64 8))) 2016, Od 41 (.bin .or (.t 33) (.t 40)) 4095, Oa 42 (.mv (.t 0)), Oa 43 (.mv (.t 4)), Od 44 (.bin .add (.t 43) (.c (.int .i64 2))) 16384, Od 45 (.iaddr 1 (.t 42) (.t 44)) 57344, Od 46 (.load (.t 45)) 122880, Od 47 (.conv .u32 (.t 46)) 253952, Od 48 (.bin .shl (.t 47) (.c (.int .u64 16))) 516096, Od 49 (.bin .or (.t 41) (.t 48)) 1048575, Oa 50 (.mv (.t 0)), Oa 51 (.mv (.t 4)), Od 52 (.bin .add (.t 51) (.c (.int .i64 3))) 4194304, Od 53 (.iaddr 1 (.t 50) (.t 52)) 14680064, Od 54 (.load (.t 53)) 31457280, Od 55 (.conv .u32 (.t 54)) 65011712, Od 56 (.bin .shl (.t 55) (.c (.int .u64 24))) 132120576, Od 57 (.bin .or (.t 49) (.t 56)) 268435455, Od 5 (.mv (.t 57)) 536870911]
abbrev qa0p : List SOper := [Oa 58 (.mv (.t 0)), Oa 59 (.mv (.t 4)), Oa 60 (.slice 1 (.t 58) none (some (.t 59))), Oc 61 11 [(.t 60)], Oa 62 (.mv (.t 5)), Oa 63 (.bin .neq (.t 61) (.t 62))]
abbrev qa0o : List SOper := [Oa 64 (.loads 7 (.t 2)), Oa 65 (.mv (.t 4)), Oa 66 (.build [(.int .i64 0), (.int .i64 0)] [(0, 1, (.c (.int .i64 19))), (1, 1, (.t 65))]), Ob (.store 7 (.t 2) (.t 64)), Ob (.store 2 (.t 3) (.t 66))]
abbrev qa0n : List SOper := [Oa 67 (.mv (.t 0)), Oa 68 (.mv (.t 4)), Oa 69 (.slice 1 (.t 67) none (some (.t 68))), Oa 70 (.build [.nilsl, (.int .i64 0)] [(0, 1, (.t 69)), (1, 1, (.c (.int .i64 3)))]), Oa 71 (.box 71 (.t 70)), Oa 6 (.mv (.t 71))]
abbrev qa0m : List SOper := [Oa 72 (.mv (.t 6)), Oc 73 15 [(.t 72)], Ob (.store 7 (.t 2) (.t 73))]
abbrev qa0l : List SOper := [Oa 74 (.mv (.t 6)), Oa 75 (.nilc (.t 74)), Oa 76 (.faddr 1 (.t 75)), Oa 77 (.load (.t 76)), Oa 78 (.mv (.t 4)), Oa 79 (.bin .lss (.t 77) (.t 78))]
abbrev qa0k : List SOper := [Oa 80 (.build [.nilsl, .nilsl, .nilsl, .nilsl, .nilsl, .nilsl, .nilsl] []), Oa 81 (.mv (.t 6)), Od 82 (.nilc (.t 81)) 2, Od 83 (.faddr 1 (.t 82)) 6, Od 84 (.load (.t 83)) 14, Od 85 (.build [(.int .i64 0), (.int .i64 0)] [(0, 1, (.c (.int .i64 4))), (1, 1, (.t 84))]) 30, ⟨none, .store 7 (.t 2) (.t 80), none, none, 1⟩, ⟨none, .store 2 (.t 3) (.t 85), none, none, 127⟩]
abbrev qa0j : List SOper := [Oa 86 (.loads 7 (.t 2)), Oc 87 12 [(.t 86)], Oa 7 (.alloc 34 [(.int .i64 0), (.int .i64 0)]), Ob (.store 2 (.t 7) (.t 87))]
abbrev qa0i : List SOper := [Oa 88 (.faddr 0 (.t 7)), Oa 89 (.load (.t 88)), Oa 90 (.bin .neq (.t 89) (.c (.int .i64 0)))]
abbrev qa0h : List SOper := [Oa 91 (.build [.nilsl, .nilsl, .nilsl, .nilsl, .nilsl, .nilsl, .nilsl] []), Oa 92 (.mv (.t 4)), Oa 93 (.build [(.int .i64 0), (.int .i64 0)] [(0, 1, (.c (.int .i64 5))), (1, 1, (.t 92))]), Ob (.store 7 (.t 2) (.t 91)), Ob (.store 2 (.t 3) (.t 93))]
abbrev qa0g : List SOper := [Oa 94 (.loads 7 (.t 2)), Oa 95 (.build [(.int .i64 0), (.int .i64 0)] []), Ob (.store 7 (.t 2) (.t 94)), Ob (.store 2 (.t 3) (.t 95))]
def c_decA : SCode := .reg false qa4z [0, 2, 3]
def c_decC : SCode := (.seq (.reg false qa4y [0, 2, 3, 4]) (.seq (.seq (.reg false qa4x [0, 2, 3, 4, 13]) (.cond (.t 13) (.seq (.reg false qa4w [2, 3]) .ret) .skip)) (.seq (.seq (.reg false qa4v [0, 2, 3, 4, 20]) (.cond (.t 20) (.seq (.reg false qa4u [2, 3]) .ret) .skip)) (.seq (.seq (.reg false qa4t [0, 2, 3, 4, 26]) (.cond (.t 26) (.seq (.reg false qa4s [2, 3]) .ret) .skip)) (.seq (.reg true qa0q [0, 2, 3, 4, 5]) (.seq (.seq (.reg false qa0p [0, 2, 3, 4, 63]) (.cond (.t 63) (.seq (.reg false qa0o [2, 3]) .ret) .skip)) (.seq (.reg false qa0n [2, 3, 4, 6]) (.seq (.reg false qa0m [2, 3, 4, 6]) (.seq (.seq (.reg false qa0l [2, 3, 4, 6, 79]) (.cond (.t 79) (.seq (.reg true qa0k [2, 3]) .ret) .skip)) (.seq (.seq (.reg false qa0j [2, 3, 4, 7]) (.seq (.reg false qa0i [2, 3, 4, 90]) (.cond (.t 90) (.seq (.reg false qa0h [2, 3]) .ret) .skip))) (.seq (.reg false qa0g [2, 3]) .ret)))))))))))
theorem qaob : comp Try.prog 96 (seqL decC) = some c_decA.erase := by kernel_rfl
theorem qaoa : comp Try.prog 96 (seqR (seqR decC)) = some c_decC.erase := by kernel_rfl
end Go.Proofs.Ytbefmmajjfijnaa
namespace Go.Proofs.Ytbefmmajjfijnaa
set_option linter.all false
open Go.RowKit
attribute [local simp] qabl qabk qaav qaa9 qaaw qaa8 qabi qabj qaaq qab6 SOp.run SX.ev putd puts argS upds SOp.touch SSt.keep SSt.skip gets geth puth delh idOf SV.cells? setL qaeb qaec sbin eq0 eq1 eqL qadx qac0 qac1 qaa3 qabm qaai qabn qab7 qaao qaan FrzOk qabc qaay qaba qabb qaar qaax qabo qaaz qaat qabd qaas frzS frzH frz frz1 frz0 SlotsM ObjsM ObjM rn ren ren1 ren0 qaca qacx qacs qab9 qabp qac3 qac2 CoL qabe qaby dels adds idsH qabu
attribute [local simp] nums
abbrev nopl : List SV := [.nilsl, .nilsl, .nilsl, .nilsl, .nilsl, .nilsl, .nilsl]
def decS (b : List Int) : SSt := ⟨[(0, nums .u8 b), (2, .ptr 0 0), (3, .ptr 1 0)], [(0, .cells 29 nopl), (1, .cells 34 [.int .i64 0, .int .i64 0])], 2⟩
theorem qa3s {b : List Int} {r : SV} (k : ∀ X : Cx, X.P = Try.prog → X.N = 96 → X.m = 0 → SWp X c_decC (QFun X Try.f8.results.toList 0 r []) (decS b)) : SCalls Try.prog 8 [nums .u8 b] [] 0 r [] := by
 refine qar8 (fun ar => ∃ x y, ar = #[x, y]) Try.func8 (code := decC) (cA := c_decA) (cC := c_decC) (s1 := decS b) (t0 := 8) rfl Try.ntmps8 (by kernel_rfl) qa3w qaob qaoa (by simp) ⟨rfl, trivial⟩ trivial dec_B ?_ rfl ?_ k
 ·rintro ar w ⟨x, y, rfl⟩
  exact qa3u x y w
 ·rintro X hP hN hm
  unfold c_decA
  repeat' (first | ((with_reducible refine qaad ?_); (try rw [hP]); simp -implicitDefEqProofs [*]) | fail)
  exact Wk.refl _ _
theorem qafb : ∀ l : List Int, qaew (l.map fun x => [SV.int .u8 x]) = some l
 | [] => rfl
 | x :: l => by simp [qaew, qafb l]
def le32 (x0 x1 x2 x3 : Int) : Int := bits .or .u32 (bits .or .u32 (bits .or .u32 (IntKind.u32.wrap x0) (IntKind.u32.wrap (IntKind.u32.wrap x1 * 2 ^ min 8 IntKind.u32.bits))) (IntKind.u32.wrap (IntKind.u32.wrap x2 * 2 ^ min 16 IntKind.u32.bits))) (IntKind.u32.wrap (IntKind.u32.wrap x3 * 2 ^ min 24 IntKind.u32.bits))
def fltS (c at_ : Int) : SV := .tup [.agg nopl, .agg [.int .i64 c, .int .i64 at_]]
theorem qa05 : qahf Try.prog 29 = some true := by kernel_rfl
theorem qar4 : qabt Try.prog 29 = some 7 := by kernel_rfl
theorem qas5 {X : Cx} {nx : Nat} {c at_ : Int} {cs : List SV} (hP : X.P = Try.prog) (hm : X.m = 0) (hc : cs = nopl) : QFun X [.cell 2 29, .cell 3 34] 0 (fltS c at_) [] .ret ⟨[(2, .ptr 0 0), (3, .ptr 1 0)], [(0, .cells 29 cs), (1, .cells 34 [.int .i64 c, .int .i64 at_])], nx⟩ := by
 subst hc
 have hw : Wk X ⟨[(2, .ptr 0 0), (3, .ptr 1 0)], [(0, .cells 29 nopl), (1, .cells 34 [.int .i64 c, .int .i64 at_])], nx⟩ ⟨[(2, .ptr 0 0), (3, .ptr 1 0)], [(0, .cells 29 nopl), (1, .cells 34 [.int .i64 c, .int .i64 at_])], 2⟩ :=
  qaag [] hm ⟨Co.refl _, Co.refl _, trivial⟩ ⟨⟨_, rfl, rfl, CoL.refl _⟩, ⟨_, rfl, rfl, CoL.refl _⟩, trivial⟩ rfl (by simp)
 refine ⟨_, hw, ?_, trivial, by simp⟩
 have h1 := qa05
 have h2 := qar4
 have h3 := qac8
 have h4 := qacn
 rw [← hP] at h1 h2 h3 h4
 simp [qamv, resL, resV, one_, gets, h1, h2, h3, h4, SOp.run, SX.ev, geth, fltS]
set_option maxHeartbeats 4000000 in
theorem qa3t (b : List Int) (hl : b.length ≤ 140737488355000) (h : 8000 < b.length) : SCalls Try.prog 8 [nums .u8 b] [] 0 (fltS 14 8000) [] := by
 refine qa3s fun X hP hN hm => ?_
 unfold c_decC decS nopl
 obtain ⟨n, hn⟩ : ∃ n, b.length = n + 4 := ⟨b.length - 4, by omega⟩
 have e1 : IntKind.i64.wrap (n : Int) = n := IntWalk.i64_in _ ⟨by omega, by omega⟩
 have k1 : decide ((n : Int) < 3) = false := decide_eq_false (by omega)
 have k2 : decide (8000 < (n : Int) + 4) = true := decide_eq_true (by omega)
 clear h hl
 repeat' (first | (with_reducible refine zA ?_) | ((with_reducible refine qaad ?_); (try rw [hP]); simp -implicitDefEqProofs [*]) | ((with_reducible refine qaaf ?_); (try simp -implicitDefEqProofs [*])) | ((with_reducible refine qaa4 ?_); (try simp only [qaa3, qaai, qaao])) | ((with_reducible refine qaab rfl (fun h => ?_) (fun h => ?_)) <;> have h' := h <;> (try simp at h') <;> (try subst h')) | (exact qas5 hP hm rfl) | fail)
theorem qa1d : (⟨#[83, 89, 1]⟩ : ByteArray).toList = [83, 89, 1] := by rw [ByteArray.toList_eq]
theorem str_fit : AllFit .u8 [83, 89, 1] := by intro y hy; simp at hy; rcases hy with rfl | rfl | rfl <;> rfl
theorem qa2e {xs : List Int} (hx : AllFit .u8 xs) (h : xs ≠ [83, 89, 1]) : (!((strOfNums xs).toList == [83, 89, 1])) = true := by
 have h1 := qah9 hx str_fit
 rw [decide_eq_false h, show strOfNums [83, 89, 1] = (⟨#[83, 89, 1]⟩ : ByteArray) from rfl, qa1d] at h1
 rw [h1]; rfl
theorem qaxr {xs : List Int} (h : xs = [83, 89, 1]) : (!((strOfNums xs).toList == [83, 89, 1])) = false := by
 rw [h, show strOfNums [83, 89, 1] = (⟨#[83, 89, 1]⟩ : ByteArray) from rfl, qa1d]; simp
set_option maxHeartbeats 4000000 in
theorem qa3v (b : List Int) (hb : AllFit .u8 b) (h7 : 7 ≤ b.length) (h8 : b.length ≤ 8000) (h : b.take 3 ≠ [83, 89, 1]) : SCalls Try.prog 8 [nums .u8 b] [] 0 (fltS 4 0) [] := by
 refine qa3s fun X hP hN hm => ?_
 unfold c_decC decS nopl
 obtain ⟨n, hn⟩ : ∃ n, b.length = n + 4 := ⟨b.length - 4, by omega⟩
 have e1 : IntKind.i64.wrap (n : Int) = n := IntWalk.i64_in _ ⟨by omega, by omega⟩
 have k1 : decide ((n : Int) < 3) = false := decide_eq_false (by omega)
 have k2 : decide (8000 < (n : Int) + 4) = false := decide_eq_false (by omega)
 have k3 : qaew (List.take 3 (List.map (fun x => [SV.int .u8 x]) b)) = some (b.take 3) := by rw [← List.map_take]; exact qafb _
 have k4 := qa2e (fun x hx => hb x (List.mem_of_mem_take hx)) h
 replace h := Lib.hid h
 replace hb := Lib.hid hb
 clear h7 h8
 repeat' (first | (with_reducible refine zA ?_) | ((with_reducible refine qaad ?_); (try rw [hP]); simp -implicitDefEqProofs [*]) | ((with_reducible refine qaaf ?_); (try simp -implicitDefEqProofs [*])) | ((with_reducible refine qaa4 ?_); (try simp only [qaa3, qaai, qaao])) | ((with_reducible refine qaab rfl (fun h => ?_) (fun h => ?_)) <;> have h' := h <;> (try simp at h') <;> (try subst h')) | ((with_reducible refine qaj4 ?_ ?_); (first | omega | (unfold maxLen; omega)); simp -implicitDefEqProofs [*]) | (exact qas5 hP hm rfl) | fail)
set_option maxHeartbeats 4000000 in
theorem dec_sum (b : List Int) (n : Nat) (hn : b.length = n + 4) (h3 : 3 ≤ n) (h8 : n + 4 ≤ 8000) (x0 x1 x2 x3 : Int) (g0 : b[n]? = some x0) (g1 : b[n + 1]? = some x1) (g2 : b[n + 2]? = some x2) (g3 : b[n + 3]? = some x3)
  (hh : b.take 3 = [83, 89, 1]) (h : crcF (b.take n) ≠ le32 x0 x1 x2 x3) : SCalls Try.prog 8 [nums .u8 b] [] 0 (fltS 19 n) [] := by
 refine qa3s fun X hP hN hm => ?_
 unfold c_decC decS nopl
 have y0 : b[n]'(by omega) = x0 := (List.getElem?_eq_some_iff.1 g0).2
 have y1 : b[n + 1]'(by omega) = x1 := (List.getElem?_eq_some_iff.1 g1).2
 have y2 : b[n + 2]'(by omega) = x2 := (List.getElem?_eq_some_iff.1 g2).2
 have y3 : b[n + 3]'(by omega) = x3 := (List.getElem?_eq_some_iff.1 g3).2
 have e1 : IntKind.i64.wrap (n : Int) = n := IntWalk.i64_in _ ⟨by omega, by omega⟩
 have e2 : IntKind.i64.wrap ((n : Int) + 1) = (n : Int) + 1 := IntWalk.i64_in _ ⟨by omega, by omega⟩
 have e3 : IntKind.i64.wrap ((n : Int) + 2) = (n : Int) + 2 := IntWalk.i64_in _ ⟨by omega, by omega⟩
 have e4 : IntKind.i64.wrap ((n : Int) + 3) = (n : Int) + 3 := IntWalk.i64_in _ ⟨by omega, by omega⟩
 have t1 : ((n : Int) + 1).toNat = n + 1 := by omega
 have t2 : ((n : Int) + 2).toNat = n + 2 := by omega
 have t3 : ((n : Int) + 3).toNat = n + 3 := by omega
 have k1 : decide ((n : Int) < 3) = false := decide_eq_false (by omega)
 have k2 : decide (8000 < (n : Int) + 4) = false := decide_eq_false (by omega)
 have k3 : qaew (List.take 3 (List.map (fun x => [SV.int .u8 x]) b)) = some (b.take 3) := by rw [← List.map_take]; exact qafb _
 have k4 := qaxr hh
 have r0 : (0 : Int) ≤ n ∧ (n : Int) < (n : Int) + 4 := ⟨by omega, by omega⟩
 have r1 : (0 : Int) ≤ (n : Int) + 1 ∧ (n : Int) + 1 < (n : Int) + 4 := ⟨by omega, by omega⟩
 have r2 : (0 : Int) ≤ (n : Int) + 2 ∧ (n : Int) + 2 < (n : Int) + 4 := ⟨by omega, by omega⟩
 have r3 : (0 : Int) ≤ (n : Int) + 3 ∧ (n : Int) + 3 < (n : Int) + 4 := ⟨by omega, by omega⟩
 have c1 := fun q => ccrc_s (b.take n) (by rw [List.length_take]; omega) q
 unfold nums at c1
 rw [List.map_take] at c1
 have k5 : (crcF (b.take n) != le32 x0 x1 x2 x3) = true := by simpa [bne] using h
 unfold le32 at k5
 generalize crcF (b.take n) = S at c1 k5
 replace c1 := Lib.hid c1
 clear h hh h3 h8
 repeat' (first | (with_reducible first | refine zA ?_ | refine zK ?_) | ((with_reducible first | refine qaad ?_ | refine qacm (by rw [hP]; exact qanx) ?_); (try rw [hP]); simp -implicitDefEqProofs [*]) | ((with_reducible refine qaaf ?_); (try simp -implicitDefEqProofs [*])) | ((with_reducible refine qaa4 ?_); (try simp only [qaa3, qaai, qaao])) | ((with_reducible refine qaab rfl (fun h => ?_) (fun h => ?_)) <;> have h' := h <;> (try simp at h') <;> (try subst h')) | ((with_reducible refine qaj4 ?_ ?_); (first | omega | (unfold maxLen; omega)); simp -implicitDefEqProofs [*]) | (refine qacl (c1.out _) ?_; simp -implicitDefEqProofs [*]) | (exact qas5 hP hm rfl) | fail)
end Go.Proofs.Ytbefmmajjfijnaa
namespace Go.Proofs.Ytbefmmajjfijnaa
set_option linter.all false
open Go.RowKit
theorem R8.nat {x : Int} (h : R8 x) : ∃ n : Nat, n < 2 ^ 8 ∧ x = n := ⟨x.toNat, by have := h.1; have := h.2; omega, by have := h.1; omega⟩
theorem qa2u {a b i : Nat} (h : b < 2 ^ i) : b ||| (a * 2 ^ i) = b + a * 2 ^ i := by
 rw [Nat.or_comm, Nat.mul_comm a, ← Nat.two_pow_add_eq_or_of_lt h, Nat.add_comm]
theorem qast {x0 x1 x2 x3 : Int} (h0 : R8 x0) (h1 : R8 x1) (h2 : R8 x2) (h3 : R8 x3) : le32 x0 x1 x2 x3 = x0 + x1 * 256 + x2 * 65536 + x3 * 16777216 := by
 unfold le32
 rw [h0.wrap, h1.wrap, h2.wrap, h3.wrap]
 obtain ⟨a, ha, rfl⟩ := h0.nat
 obtain ⟨b, hb, rfl⟩ := h1.nat
 obtain ⟨c, hc, rfl⟩ := h2.nat
 obtain ⟨d, hd, rfl⟩ := h3.nat
 have e1 : IntKind.u32.wrap ((b : Int) * 2 ^ min 8 IntKind.u32.bits) = ((b * 2 ^ 8 : Nat) : Int) := by
  rw [show (b : Int) * 2 ^ min 8 IntKind.u32.bits = ((b * 2 ^ 8 : Nat) : Int) by rw [show (2 : Int) ^ min 8 IntKind.u32.bits = 256 by decide]; omega]
  exact qafr (by omega)
 have e2 : IntKind.u32.wrap ((c : Int) * 2 ^ min 16 IntKind.u32.bits) = ((c * 2 ^ 16 : Nat) : Int) := by
  rw [show (c : Int) * 2 ^ min 16 IntKind.u32.bits = ((c * 2 ^ 16 : Nat) : Int) by rw [show (2 : Int) ^ min 16 IntKind.u32.bits = 65536 by decide]; omega]
  exact qafr (by omega)
 have e3 : IntKind.u32.wrap ((d : Int) * 2 ^ min 24 IntKind.u32.bits) = ((d * 2 ^ 24 : Nat) : Int) := by
  rw [show (d : Int) * 2 ^ min 24 IntKind.u32.bits = ((d * 2 ^ 24 : Nat) : Int) by rw [show (2 : Int) ^ min 24 IntKind.u32.bits = 16777216 by decide]; omega]
  exact qafr (by omega)
 rw [e1, e2, e3, or32 (by omega) (by omega), qa2u (by omega), or32 (by omega) (by omega), qa2u (by omega), or32 (by omega) (by omega), qa2u (by omega)]
 omega
theorem qaxp (n : Int) : R8 (IntKind.u8.wrap n) := by
 unfold R8; simp [IntKind.wrap, IntKind.bits, IntKind.signed]; omega
theorem qa2d (S : Int) : ∀ x ∈ sumB S, R8 x := by
 intro x hx
 simp only [sumB, List.mem_cons, List.not_mem_nil, or_false] at hx
 rcases hx with rfl | rfl | rfl | rfl <;> exact qaxp _
theorem qa1c {S : Int} (h : R32 S) : sumB S = [S % 256, S / 256 % 256, S / 65536 % 256, S / 16777216 % 256] := by
 have e : ∀ x : Int, IntKind.u8.wrap x = x % 256 := fun x => by simp [IntKind.wrap, IntKind.bits, IntKind.signed]
 unfold sumB
 rw [e, e, e, e]; rfl
theorem qa1z {a b : Int} (ha : R8 a) (hb : R8 b) (h0 : b ≠ 0) : R8 (bits .xor .u8 a b) ∧ bits .xor .u8 a b ≠ a := by
 obtain ⟨n, hn, rfl⟩ := ha.nat
 obtain ⟨m, hm, rfl⟩ := hb.nat
 rw [xor8 hn hm]
 have h1 := Nat.xor_lt_two_pow hn hm
 refine ⟨⟨by omega, by omega⟩, fun h => h0 ?_⟩
 have h2 : n ^^^ m = n := by omega
 have h3 : m = 0 := by
  have h4 := congrArg (n ^^^ ·) h2
  simp only [← Nat.xor_assoc, Nat.xor_self, Nat.zero_xor] at h4
  exact h4
 omega
theorem qa2b {W : List Int} (hW : ∀ x ∈ W, R8 x) {i : Nat} (hi : i < (W ++ sumB (crcF W)).length) {y : Int} (hy : R8 y) (hne : y ≠ (W ++ sumB (crcF W))[i]) :
  ∃ x0 x1 x2 x3, ((W ++ sumB (crcF W)).set i y)[W.length]? = some x0 ∧ ((W ++ sumB (crcF W)).set i y)[W.length + 1]? = some x1 ∧ ((W ++ sumB (crcF W)).set i y)[W.length + 2]? = some x2 ∧ ((W ++ sumB (crcF W)).set i y)[W.length + 3]? = some x3 ∧
   crcF (((W ++ sumB (crcF W)).set i y).take W.length) ≠ le32 x0 x1 x2 x3 := by
 have hS := qa3z hW
 have hsl : (sumB (crcF W)).length = 4 := rfl
 have r : ∀ n : Int, R8 (n % 256) := fun n => ⟨by omega, by omega⟩
 have hle : ∀ S, R32 S → le32 (S % 256) (S / 256 % 256) (S / 65536 % 256) (S / 16777216 % 256) = S := fun S h => by
  rw [qast (r _) (r _) (r _) (r _)]
  have := h.1; have := h.2; omega
 rcases Nat.lt_or_ge i W.length with h | h
 ·rw [List.getElem_append_left h] at hne
  rw [List.set_append_left _ _ h]
  have hl : (W.set i y).length = W.length := List.length_set
  have ap : ∀ j, ((W.set i y) ++ sumB (crcF W))[W.length + j]? = (sumB (crcF W))[j]? := fun j => by
   rw [List.getElem?_append_right (by omega), hl, Nat.add_sub_cancel_left]
  rw [qa1c hS] at ap ⊢
  refine ⟨_, _, _, _, ap 0, ap 1, ap 2, ap 3, ?_⟩
  rw [List.take_left' hl, hle _ hS]
  exact qa3y hW h hy hne
 ·rw [List.getElem_append_right h] at hne
  rw [List.set_append_right _ _ h]
  have ap : ∀ j, (W ++ (sumB (crcF W)).set (i - W.length) y)[W.length + j]? = ((sumB (crcF W)).set (i - W.length) y)[j]? := fun j => by
   rw [List.getElem?_append_right (by omega), Nat.add_sub_cancel_left]
  rw [List.take_left' rfl]
  have hi4 : i - W.length < 4 := by rw [List.length_append, hsl] at hi; omega
  replace hne : ∀ h', y ≠ (sumB (crcF W))[i - W.length]'h' := fun _ => hne
  generalize i - W.length = k at hne ap hi4 ⊢
  have hSE := qa1c hS
  generalize crcF W = S at hS hSE hne ap
  simp only [hSE] at hne ap
  have hd : ∀ x0 x1 x2 x3, R8 x0 → R8 x1 → R8 x2 → R8 x3 → (x0 ≠ S % 256 ∨ x1 ≠ S / 256 % 256 ∨ x2 ≠ S / 65536 % 256 ∨ x3 ≠ S / 16777216 % 256) → S ≠ le32 x0 x1 x2 x3 := fun x0 x1 x2 x3 h0 h1 h2 h3 hh => by
   rw [qast h0 h1 h2 h3]
   have := h0.1; have := h0.2; have := h1.1; have := h1.2; have := h2.1; have := h2.2; have := h3.1; have := h3.2
   have := hS.1; have := hS.2
   omega
  obtain rfl | rfl | rfl | rfl : k = 0 ∨ k = 1 ∨ k = 2 ∨ k = 3 := by omega
  ·exact ⟨y, S / 256 % 256, S / 65536 % 256, S / 16777216 % 256, by simpa [hSE] using ap 0, by simpa [hSE] using ap 1, by simpa [hSE] using ap 2, by simpa [hSE] using ap 3, hd _ _ _ _ hy (r _) (r _) (r _) (.inl (hne (by simp)))⟩
  ·exact ⟨S % 256, y, S / 65536 % 256, S / 16777216 % 256, by simpa [hSE] using ap 0, by simpa [hSE] using ap 1, by simpa [hSE] using ap 2, by simpa [hSE] using ap 3, hd _ _ _ _ (r _) hy (r _) (r _) (.inr (.inl (hne (by simp))))⟩
  ·exact ⟨S % 256, S / 256 % 256, y, S / 16777216 % 256, by simpa [hSE] using ap 0, by simpa [hSE] using ap 1, by simpa [hSE] using ap 2, by simpa [hSE] using ap 3, hd _ _ _ _ (r _) (r _) hy (r _) (.inr (.inr (.inl (hne (by simp)))))⟩
  ·exact ⟨S % 256, S / 256 % 256, S / 65536 % 256, y, by simpa [hSE] using ap 0, by simpa [hSE] using ap 1, by simpa [hSE] using ap 2, by simpa [hSE] using ap 3, hd _ _ _ _ (r _) (r _) (r _) hy (.inr (.inr (.inr (hne (by simp)))))⟩
end Go.Proofs.Ytbefmmajjfijnaa
namespace Go.Proofs.Ytbefmmajjfijnaa
set_option linter.all false
open Go.RowKit
def All8 (l : List Int) : Prop := ∀ x ∈ l, R8 x
theorem qabf {l m : List Int} (h : All8 l) (k : All8 m) : All8 (l ++ m) := fun x hx => (List.mem_append.1 hx).elim (h x) (k x)
theorem qacv {α : Type} {f : α → List Int} (h : ∀ a, All8 (f a)) (l : List α) : All8 (l.flatMap f) := fun x hx => by
 obtain ⟨a, _, ha⟩ := List.mem_flatMap.1 hx
 exact h a x ha
theorem qaxb : ∀ (f : Nat) (u : Int), All8 (varB f u)
 | 0, u => by
  intro x hx
  rw [varB, List.mem_singleton] at hx
  rw [hx]; exact qaxp _
 | f + 1, u => by
  unfold varB
  split
  ·intro x hx
   rcases List.mem_cons.1 hx with rfl | hx
   ·exact qaxp _
   ·exact qaxb f _ x hx
  ·intro x hx
   rw [List.mem_singleton.1 hx]; exact qaxp _
theorem qafq (l : List Int) : All8 (qadv l) := qacv (qaxb 9) l
theorem qabg (l : List Int) : All8 (qaa7 l) := qafq _
theorem qaex (l : List Int) : All8 (qaem l) := qabf (qabg _) (qabg _)
theorem qagd (r : RefD) : All8 (refB r) := qabg _
theorem qamj : All8 [] := fun x hx => by cases hx
theorem qads {c : Prop} [Decidable c] {a b : List Int} (ha : All8 a) (hb : All8 b) : All8 (if c then a else b) := by split <;> assumption
theorem qa01 (p : PushD) : All8 (qaj8 p) := qabf (qabg _) (qads (qafq _) (qads (qagd _) qamj))
theorem qah2 (l : List PushD) : All8 (qah4 l) := qabf (qabg _) (qacv qa01 l)
theorem qa04 (c : CaseD) : All8 (qaxk c) := qabf (qafq _) (qabg _)
theorem qaxc (s : StateD) : All8 (qae0 s) := qabf (qabg _) (qabf (qads (qagd _) qamj) (qabf (qacv qa04 _) (qabg _)))
theorem all8_op (o : OpD) : All8 (opB o) := qabf (qabg _) (qads (qabf (qagd _) (qah2 _)) (qads (qabg _) (qads (qah2 _) (qads (qabf (qagd _) (qabg _)) qamj))))
theorem qa42 (a : ActD) : All8 (actB a) := qabf (qaex _) (qabf (qabg _) (qacv all8_op _))
theorem qa41 (t : TabD) : All8 (tabB t) := qabf (qabg _) (qabf (qacv qagd _) (qabf (qaex _) (qabf (qabg _) (qafq _))))
theorem qa02 (n : NodeD) : All8 (qakc n) := qabf (qabg _) (qads (qabf (qah2 _) (qabg _)) (qads (qabg _) (qabg _)))
theorem qa03 : All8 [83, 89, 1] := by
 intro x hx
 simp only [List.mem_cons, List.not_mem_nil, or_false] at hx
 rcases hx with rfl | rfl | rfl <;> exact ⟨by decide, by decide⟩
theorem qajw (p : PlanD) : All8 (qacy p) := by
 unfold qacy sec2 sec3 sec4 sec5 sec6
 refine qabf qa03 (qabf (qabg _) (qabf (qacv (f := headB) (fun h => qaex h.w) _) (qabf (qaex _) (qabf (qabg _) ?_))))
 refine qabf (qacv qaxc _) (qabf (qabg _) (qabf (qacv qa42 _) (qabf (qabg _) ?_)))
 exact qabf (qacv qa41 _) (qabf (qabg _) (qabf (qacv qa02 _) (qaex _)))
theorem qakg {α : Type} {f : α → List Int} {c : Nat} : ∀ {l : List α}, (∀ a ∈ l, (f a).length ≤ c) → (l.flatMap f).length ≤ l.length * c
 | [], _ => by simp
 | a :: l, h => by
  have h1 := qakg (f := f) (l := l) fun b hb => h b (by simp [hb])
  have h2 := h a (by simp)
  rw [List.flatMap_cons, List.length_append, List.length_cons, Nat.succ_mul]; omega
theorem qahp {α : Type} {f : α → List Int} {l : List α} (c : Nat) (hl : l.length ≤ 1000) (h : ∀ a ∈ l, (f a).length ≤ c) : (l.flatMap f).length ≤ 1000 * c :=
 Nat.le_trans (qakg h) (Nat.mul_le_mul_right c hl)
theorem qa1t : ∀ (f : Nat) (u : Int), (varB f u).length ≤ f + 1
 | 0, u => by simp [varB]
 | f + 1, u => by
  unfold varB
  split
  ·have := qa1t f (u / 128); rw [List.length_cons]; omega
  ·simp
theorem qaho (l : List Int) : (qadv l).length ≤ l.length * 10 := qakg fun a _ => qa1t 9 a
theorem qab2 (l : List Int) : (qaa7 l).length ≤ l.length * 10 := by
 have := qaho (l.map zig)
 rwa [List.length_map] at this
theorem qafz {l : List Int} (h : l.length ≤ 1000) : (qaem l).length ≤ 20000 := by
 have h1 := qab2 l
 have h2 := qab2 [(l.length : Int)]
 unfold qaem; simp only [List.length_append, List.length_cons, List.length_nil] at *; omega
theorem qaij (r : RefD) : (refB r).length ≤ 20 := qab2 _
theorem qaes {c : Prop} [Decidable c] {a b : List Int} {n : Nat} (ha : a.length ≤ n) (hb : b.length ≤ n) : (if c then a else b).length ≤ n := by split <;> assumption
theorem qacw {a b : List Int} {n m k : Nat} (ha : a.length ≤ n) (hb : b.length ≤ m) (h : n + m ≤ k) : (a ++ b).length ≤ k := by rw [List.length_append]; omega
theorem qa3b (p : PushD) : (qaj8 p).length ≤ 30 := qacw (m := 20) (qab2 _) (qaes (Nat.le_trans (qaho _) (by simp)) (qaes (qaij _) (by simp))) (by simp)
theorem qakf {l : List PushD} (h : l.length ≤ 1000) : (qah4 l).length ≤ 40000 := qacw (qab2 _) (qahp 30 h fun p _ => qa3b p) (by simp)
theorem qa3d (c : CaseD) : (qaxk c).length ≤ 30 := qacw (qaho _) (qab2 _) (by simp)
theorem qaye {s : StateD} (h : s.cases_.length ≤ 1000) : (qae0 s).length ≤ 40000 := qacw (qab2 _) (qacw (k := 39000) (qaes (n := 20) (qaij _) (by simp)) (qacw (k := 38000) (qahp 30 h fun c _ => qa3d c) (qab2 _) (by simp)) (by omega)) (by simp)
theorem len_op {o : OpD} (h : o.e.length ≤ 1000) : (opB o).length ≤ 50000 :=
 qacw (m := 41000) (qab2 _) (qaes (qacw (qaij _) (qakf h) (by omega)) (qaes (Nat.le_trans (qab2 _) (by simp)) (qaes (Nat.le_trans (qakf h) (by omega)) (qaes (qacw (qaij _) (qab2 _) (by simp)) (by simp))))) (by simp)
theorem len_act {a : ActD} (hw : a.w.length ≤ 1000) (ho : a.ops.length ≤ 1000) (h : ∀ o ∈ a.ops, o.e.length ≤ 1000) : (actB a).length ≤ 60000000 :=
 qacw (qafz hw) (qacw (k := 51000000) (qab2 _) (qahp 50000 ho fun o hm => len_op (h o hm)) (by simp)) (by simp)
theorem len_tab {t : TabD} (h : t.keys.length ≤ 1000 ∧ t.acts.length ≤ 1000 ∧ t.args.length ≤ 1000) : (tabB t).length ≤ 100000 :=
 qacw (qab2 _) (qacw (k := 90000) (qahp 20 h.1 fun r _ => qaij r) (qacw (k := 60000) (qafz h.2.1) (qacw (k := 30000) (qab2 _) (Nat.le_trans (qaho _) (by have := h.2.2; omega : _ ≤ 10000)) (by simp)) (by simp)) (by simp)) (by simp)
theorem qa3c {n : NodeD} (h : n.e.length ≤ 1000) : (qakc n).length ≤ 50000 :=
 qacw (m := 41000) (qab2 _) (qaes (qacw (qakf h) (qab2 _) (by simp)) (qaes (Nat.le_trans (qab2 _) (by simp)) (Nat.le_trans (qab2 _) (by simp)))) (by simp)
theorem qahn {p : PlanD} (hs : SmallP p) : (qacy p).length ≤ 100000000000 := by
 have h1 := qahp (f := headB) 20000 hs.heads fun h hm => qafz (hs.headW h hm)
 have h2 := qafz hs.metas
 have h3 := qahp (f := qae0) 40000 hs.states fun s hm => qaye (hs.cases_ s hm)
 have h4 := qahp (f := actB) 60000000 hs.acts fun a hm => len_act (hs.actW a hm) (hs.ops a hm) (hs.tree a hm)
 have h5 := qahp (f := tabB) 100000 hs.tabs fun t hm => len_tab (hs.keys t hm)
 have h6 := qahp (f := qakc) 50000 hs.nodes fun n hm => qa3c (hs.node n hm)
 have h7 := qafz hs.outs
 have k := fun x : Int => qab2 [x]
 have k1 := k p.heads.length
 have k2 := k p.states.length
 have k3 := k p.acts.length
 have k4 := k p.tabs.length
 have k5 := k p.nodes.length
 simp only [List.length_cons, List.length_nil] at k1 k2 k3 k4 k5
 unfold qacy sec2 sec3 sec4 sec5 sec6
 simp only [List.length_append, List.length_cons, List.length_nil]
 omega
theorem qas1 {x : Int} (h : Fits .u64 x) : 0 ≤ x ∧ x < 18446744073709551616 := by
 simp [Fits, Lit.wf, IntKind.min, IntKind.max, IntKind.signed, IntKind.bits] at h; omega
theorem wok_of {p : PlanD} (h : qah3 p) : WOk p := by
 obtain ⟨_, _, h3, h4, h5, h6, _⟩ := h
 exact ⟨fun s hs c hc => ⟨qas1 ((h3 s hs).2.2.1 c hc).1, qas1 ((h3 s hs).2.2.1 c hc).2.1⟩, fun a ha o ho x hx => qas1 (((h4 a ha).2 o ho).2.2.2 x hx).2.2, fun t ht u hu => qas1 ((h5 t ht).2.2.2.2.2 u hu), fun n hn x hx => qas1 ((h6 n hn).2.2.1 x hx).2.2⟩
theorem qamn (p : PlanD) : 3 ≤ (qacy p).length := by
 unfold qacy; rw [List.length_append]; simp
end Go.Proofs.Ytbefmmajjfijnaa
namespace Go.Proofs.Ytbefmmajjfijnaa
set_option linter.all false
open Go.RowKit
noncomputable def fNat {α : Type} (n : Nat) (k : Nat → α) : α := Nat.rec (k 0) (fun m _ => k (.succ m)) n
theorem qaff {α : Type} (n : Nat) (k : Nat → α) : fNat n k = k n := by cases n <;> rfl
noncomputable def fInt {α : Type} (n : Int) (k : Int → α) : α := Int.rec (fun m => fNat m fun m => k (.ofNat m)) (fun m => fNat m fun m => k (.negSucc m)) n
theorem qanc {α : Type} (n : Int) (k : Int → α) : fInt n k = k n := by cases n <;> simp [fInt, qaff]
noncomputable def qayv {α β : Type} (f : β → (β → α) → α) (l : List β) : (List β → α) → α := List.rec (fun k => k []) (fun x _ ih k => f x fun x' => ih fun xs' => k (x' :: xs')) l
theorem qaed {α β : Type} {f : β → (β → α) → α} (hf : ∀ x k, f x k = k x) : ∀ (l : List β) (k : List β → α), qayv f l k = k l
 | [], _ => rfl
 | x :: xs, k => by
  show f x (fun x' => qayv f xs fun xs' => k (x' :: xs')) = _
  rw [hf, qaed hf xs]
noncomputable def fB {α : Type} (x : SV) : (SV → α) → α := SV.rec (motive_1 := fun _ => (SV → α) → α) (motive_2 := fun _ => PUnit) (motive_3 := fun _ => PUnit)
 (fun k => k (.any))
 (fun b k => Bool.rec (k (.bool false)) (k (.bool true)) b)
 (fun kd n k => fInt n fun n => k (.int kd n))
 (fun s k => k (.str s))
 (fun k => k (.nil))
 (fun k => k (.nilsl))
 (fun k => k (.nilfn))
 (fun k => k (.niliface))
 (fun t x _ k => k (.ifc t x))
 (fun k => k (.mt))
 (fun z es _ k => k (.view z es))
 (fun cs _ k => k (.cp cs))
 (fun i o k => fNat i fun i => fNat o fun o => k (.ptr i o))
 (fun i z a b k => fNat i fun i => fNat a fun a => fNat b fun b => k (.eptr i z a b))
 (fun i n k => fNat i fun i => fNat n fun n => k (.own i n))
 (fun i z o n k => fNat i fun i => fNat o fun o => fNat n fun n => k (.owno i z o n))
 (fun cs _ k => k (.agg cs))
 (fun cs _ k => k (.tup cs))
 (fun f a b _ _ k => k (.fn f a b))
 (fun k => k (.bot))
 ⟨⟩ (fun _ _ _ _ => ⟨⟩) ⟨⟩ (fun _ _ _ _ => ⟨⟩) x
theorem fB_eq {α : Type} (x : SV) (k : SV → α) : fB x k = k x := by
 cases x <;> simp [fB, qanc, qaff]
 rename_i b; cases b <;> rfl
noncomputable def f0 {α : Type} (x : SV) : (SV → α) → α := SV.rec (motive_1 := fun _ => (SV → α) → α) (motive_2 := fun _ => PUnit) (motive_3 := fun _ => PUnit)
 (fun k => k (.any))
 (fun b k => Bool.rec (k (.bool false)) (k (.bool true)) b)
 (fun kd n k => fInt n fun n => k (.int kd n))
 (fun s k => k (.str s))
 (fun k => k (.nil))
 (fun k => k (.nilsl))
 (fun k => k (.nilfn))
 (fun k => k (.niliface))
 (fun t x _ k => fB x fun x => k (.ifc t x))
 (fun k => k (.mt))
 (fun z es _ k => k (.view z es))
 (fun cs _ k => k (.cp cs))
 (fun i o k => fNat i fun i => fNat o fun o => k (.ptr i o))
 (fun i z a b k => fNat i fun i => fNat a fun a => fNat b fun b => k (.eptr i z a b))
 (fun i n k => fNat i fun i => fNat n fun n => k (.own i n))
 (fun i z o n k => fNat i fun i => fNat o fun o => fNat n fun n => k (.owno i z o n))
 (fun cs _ k => k (.agg cs))
 (fun cs _ k => k (.tup cs))
 (fun f a b _ _ k => k (.fn f a b))
 (fun k => k (.bot))
 ⟨⟩ (fun _ _ _ _ => ⟨⟩) ⟨⟩ (fun _ _ _ _ => ⟨⟩) x
theorem f0_eq {α : Type} (x : SV) (k : SV → α) : f0 x k = k x := by
 cases x <;> simp [f0, qanc, qaff, fB_eq]
 rename_i b; cases b <;> rfl
noncomputable def f1 {α : Type} (x : SV) : (SV → α) → α := SV.rec (motive_1 := fun _ => (SV → α) → α) (motive_2 := fun _ => PUnit) (motive_3 := fun _ => PUnit)
 (fun k => k (.any))
 (fun b k => Bool.rec (k (.bool false)) (k (.bool true)) b)
 (fun kd n k => fInt n fun n => k (.int kd n))
 (fun s k => k (.str s))
 (fun k => k (.nil))
 (fun k => k (.nilsl))
 (fun k => k (.nilfn))
 (fun k => k (.niliface))
 (fun t x _ k => fB x fun x => k (.ifc t x))
 (fun k => k (.mt))
 (fun z es _ k => k (.view z es))
 (fun cs _ k => k (.cp cs))
 (fun i o k => fNat i fun i => fNat o fun o => k (.ptr i o))
 (fun i z a b k => fNat i fun i => fNat a fun a => fNat b fun b => k (.eptr i z a b))
 (fun i n k => fNat i fun i => fNat n fun n => k (.own i n))
 (fun i z o n k => fNat i fun i => fNat o fun o => fNat n fun n => k (.owno i z o n))
 (fun cs _ k => qayv f0 cs fun cs => k (.agg cs))
 (fun cs _ k => k (.tup cs))
 (fun f a b _ _ k => k (.fn f a b))
 (fun k => k (.bot))
 ⟨⟩ (fun _ _ _ _ => ⟨⟩) ⟨⟩ (fun _ _ _ _ => ⟨⟩) x
theorem f1_eq {α : Type} (x : SV) (k : SV → α) : f1 x k = k x := by
 cases x <;> simp [f1, qanc, qaff, fB_eq, qaed f0_eq]
 rename_i b; cases b <;> rfl
noncomputable def f2 {α : Type} (x : SV) : (SV → α) → α := SV.rec (motive_1 := fun _ => (SV → α) → α) (motive_2 := fun _ => PUnit) (motive_3 := fun _ => PUnit)
 (fun k => k (.any))
 (fun b k => Bool.rec (k (.bool false)) (k (.bool true)) b)
 (fun kd n k => fInt n fun n => k (.int kd n))
 (fun s k => k (.str s))
 (fun k => k (.nil))
 (fun k => k (.nilsl))
 (fun k => k (.nilfn))
 (fun k => k (.niliface))
 (fun t x _ k => fB x fun x => k (.ifc t x))
 (fun k => k (.mt))
 (fun z es _ k => k (.view z es))
 (fun cs _ k => k (.cp cs))
 (fun i o k => fNat i fun i => fNat o fun o => k (.ptr i o))
 (fun i z a b k => fNat i fun i => fNat a fun a => fNat b fun b => k (.eptr i z a b))
 (fun i n k => fNat i fun i => fNat n fun n => k (.own i n))
 (fun i z o n k => fNat i fun i => fNat o fun o => fNat n fun n => k (.owno i z o n))
 (fun cs _ k => qayv f1 cs fun cs => k (.agg cs))
 (fun cs _ k => qayv f1 cs fun cs => k (.tup cs))
 (fun f a b _ _ k => k (.fn f a b))
 (fun k => k (.bot))
 ⟨⟩ (fun _ _ _ _ => ⟨⟩) ⟨⟩ (fun _ _ _ _ => ⟨⟩) x
theorem f2_eq {α : Type} (x : SV) (k : SV → α) : f2 x k = k x := by
 cases x <;> simp [f2, qanc, qaff, fB_eq, qaed f1_eq]
 rename_i b; cases b <;> rfl
noncomputable def fO {α : Type} (o : SObj) (k : SObj → α) : α := SObj.rec (fun t cs => qayv f1 cs fun cs => k (.cells t cs)) (fun e z es => qayv (qayv f1) es fun es => k (.row e z es)) (fun I => k (.abs I)) o
theorem fO_eq {α : Type} (o : SObj) (k : SObj → α) : fO o k = k o := by cases o <;> simp [fO, qaed f1_eq, qaed (fun x k => qaed f1_eq x k)]
end Go.Proofs.Ytbefmmajjfijnaa
namespace Go.Proofs.Ytbefmmajjfijnaa
set_option linter.all false
open Go.RowKit
noncomputable def getsR (l : Sl) (t : Nat) : SV := List.rec .any (fun p _ ih => Prod.rec (fun i v => Bool.rec ih v (Nat.beq i t)) p) l
theorem qaki (t : Nat) : ∀ l : Sl, getsR l t = gets l t
 | [] => rfl
 | (i, v) :: l => by
  show Bool.rec (getsR l t) v (Nat.beq i t) = if i = t then v else gets l t
  rw [qaki t l]
  cases h : Nat.beq i t with
  | true => rw [if_pos (Nat.eq_of_beq_eq_true h)]
  | false => rw [if_neg (Nat.ne_of_beq_eq_false h)]
noncomputable def qail (l : Hp) (t : Nat) : Option SObj := List.rec none (fun p _ ih => Prod.rec (fun i v => Bool.rec ih (some v) (Nat.beq i t)) p) l
theorem qae2 (t : Nat) : ∀ l : Hp, qail l t = geth l t
 | [] => rfl
 | (i, v) :: l => by
  show Bool.rec (qail l t) (some v) (Nat.beq i t) = if i = t then some v else geth l t
  rw [qae2 t l]
  cases h : Nat.beq i t with
  | true => rw [if_pos (Nat.eq_of_beq_eq_true h)]
  | false => rw [if_neg (Nat.ne_of_beq_eq_false h)]
noncomputable def puthR (l : Hp) (t : Nat) (x : SObj) : Hp := List.rec [(t, x)] (fun p l ih => Prod.rec (fun i v => Bool.rec ((i, v) :: ih) ((t, x) :: l) (Nat.beq i t)) p) l
theorem qasf (t : Nat) (x : SObj) : ∀ l : Hp, puthR l t x = puth l t x
 | [] => rfl
 | (i, v) :: l => by
  show Bool.rec ((i, v) :: puthR l t x) ((t, x) :: l) (Nat.beq i t) = if i = t then (t, x) :: l else (i, v) :: puth l t x
  rw [qasf t x l]
  cases h : Nat.beq i t with
  | true => rw [if_pos (Nat.eq_of_beq_eq_true h)]
  | false => rw [if_neg (Nat.ne_of_beq_eq_false h)]
noncomputable def delhR (l : Hp) (t : Nat) : Hp := List.rec [] (fun p _ ih => Prod.rec (fun i v => Bool.rec ((i, v) :: ih) ih (Nat.beq i t)) p) l
theorem qatb (t : Nat) : ∀ l : Hp, delhR l t = delh l t
 | [] => rfl
 | (i, v) :: l => by
  show Bool.rec ((i, v) :: delhR l t) (delhR l t) (Nat.beq i t) = if i = t then delh l t else (i, v) :: delh l t
  rw [qatb t l]
  cases h : Nat.beq i t with
  | true => rw [if_pos (Nat.eq_of_beq_eq_true h)]
  | false => rw [if_neg (Nat.ne_of_beq_eq_false h)]
noncomputable def SX.evR (l : Sl) (x : SX) : SV := SX.rec (fun n => getsR l n) (fun v => v) x
theorem qan2 (l : Sl) (x : SX) : x.evR l = x.ev l := by cases x <;> simp [SX.evR, SX.ev, qaki]
noncomputable def annot {α : Type} (c : SCode) : List (List Nat) → (SCode → List (List Nat) → α) → α := SCode.rec
 (fun h k => k .skip h) (fun d ops l h k => List.rec (k (.reg d ops l) []) (fun x t _ => k (.reg d ops x) t) h)
 (fun _ _ iha ihb h k => iha h fun a h => ihb h fun b h => k (.seq a b) h) (fun x _ _ iha ihb h k => iha h fun a h => ihb h fun b h => k (.cond x a b) h)
 (fun i _ iha h k => iha h fun a h => k (.block i a) h) (fun _ iha h k => iha h fun a h => k (.loop a) h) (fun i h k => k (.exit i) h) (fun h k => k .ret h) c
noncomputable def look (l : List (Nat × List (List Nat))) (g : Nat) : List (List Nat) := List.rec [] (fun p _ ih => Prod.rec (fun i v => Bool.rec ih v (Nat.beq i g)) p) l
structure FD where
 N : Nat
 c : SCode
 res : List ResultVar
noncomputable def fdata (P : Program) (H : List (Nat × List (List Nat))) (g : FuncId) : Option FD := match P.funcs[g]? with
 | some fn => match fn.body with
  | some b => match fn.name == "runtime.NumGoroutine" with
   | true => none
   | false => match comp P fn.ntmps b with
    | some c => annot c (look H g) fun c _ => some ⟨fn.ntmps, c, fn.results.toList⟩
    | none => none
  | none => none
 | none => none
def nmB : SV → List Nat
 | .ptr id _ | .eptr id _ _ _ | .own id _ | .owno id _ _ _ => [id]
 | _ => []
def nmA : SV → List Nat
 | .agg cs => cs.flatMap nmB
 | x => nmB x
def nm0 : SV → List Nat
 | .ifc _ x => nmA x
 | x => nmB x
def nm1 : SV → List Nat
 | .agg cs => cs.flatMap nm0
 | .fn _ a b => a.flatMap nm0 ++ b.flatMap nm0
 | x => nm0 x
def nm2 : SV → List Nat
 | .tup cs => cs.flatMap nm1
 | .agg cs => cs.flatMap nm1
 | x => nm1 x
def nmO : SObj → List Nat
 | .cells _ cs => cs.flatMap nm2
 | .row _ _ es => es.flatMap fun e => e.flatMap nm2
 | .abs _ => []
noncomputable def qa2t (hp : Hp) (f : Nat) : List Nat → Hp → Hp := Nat.rec (fun _ acc => acc) (fun _ ih l acc => List.rec acc (fun i l _ => Option.rec (Option.rec (ih l acc) (fun o => ih (nmO o ++ l) ((i, o) :: acc)) (qail hp i)) (fun _ => ih l acc) (qail acc i)) l) f
def ltB (m : Nat) : SV → Bool
 | .ptr id _ | .eptr id _ _ _ | .own id _ | .owno id _ _ _ => Nat.blt id m
 | .agg _ | .tup _ | .fn _ _ _ | .ifc _ _ => false
 | _ => true
def ltA (m : Nat) : SV → Bool
 | .agg cs => cs.all (ltB m)
 | x => ltB m x
def lt0 (m : Nat) : SV → Bool
 | .ifc _ x => ltA m x
 | .fn _ [] [] => true
 | x => ltB m x
def lt1 (m : Nat) : SV → Bool
 | .agg cs => cs.all (lt0 m)
 | .fn _ a b => a.all (lt0 m) && b.all (lt0 m)
 | x => lt0 m x
def lt2 (m : Nat) : SV → Bool
 | .tup cs => cs.all (lt1 m)
 | .agg cs => cs.all (lt1 m)
 | x => lt1 m x
def ltO (m : Nat) : SObj → Bool
 | .cells _ cs => cs.all (lt2 m)
 | .row _ _ es => es.all fun e => e.all (lt2 m)
 | .abs _ => true
def ltHp (m : Nat) (h : Hp) : Bool := h.all fun p => Nat.blt p.1 m && ltO m p.2
noncomputable def uniqB : Hp → Bool
 | [] => true
 | (i, _) :: r => (match qail r i with | none => true | some _ => false) && uniqB r
inductive Tsk where
 | code (c : SCode) (s : SSt)
 | call (g : FuncId) (args : List SV) (h : Hp) (nx : Nat)
inductive Ans where
 | st (e : SExit) (s : SSt)
 | val (r : SV) (h : Hp) (nx : Nat)
def SOp.runF : SOp → (SX → SV) → (Nat → Option SObj) → Nat → Option (SV × Upd × Nat)
 | .mv x => fun ev g nx => some (ev x, [], nx)
 | .pick c a b => fun ev g nx => match ev c with
  | .bool c => match ev a, ev b with
   | .bool a, .bool b => some (.bool (bif c then a else b), [], nx)
   | x, y => some (match c with | true => x | false => y, [], nx)
  | _ => none
 | .alloc t z => fun ev g nx => some (.ptr nx 0, [(nx, some (.cells t z))], nx + 1)
 | .box t x => fun ev g nx => match (ev x).cells? with
  | some cs => some (.ptr nx 0, [(nx, some (.cells t cs))], nx + 1)
  | none => none
 | .build z parts => fun ev g nx => match qaeb z (parts.map fun p => (p.1, p.2.1, ev p.2.2)) with
  | some cs => some (.agg cs, [], nx)
  | none => none
 | .mkrow e size n z parts => fun ev g nx => match qaec size (List.replicate n z) (parts.map fun p => (p.1, ev p.2)) with
  | some es => some (.own nx n, [(nx, some (.row e size es))], nx + 1)
  | none => none
 | .load x => fun ev g nx => match ev x with
  | .cp (c :: _) => some (c, [], nx)
  | .ptr id off => match g id with
   | some (.cells _ cs) => (cs[off]?).map fun c => (c, [], nx)
   | _ => none
  | .eptr id size i j => match g id with
   | some (.row _ size' es) => if size = size' ∧ j < size then ((es[i]?).bind (·[j]?)).map fun c => (c, [], nx) else none
   | _ => none
  | _ => none
 | .loads n x => fun ev g nx => match ev x with
  | .cp cs => if n ≤ cs.length then some (.agg (cs.take n), [], nx) else none
  | .ptr id off => match g id with
   | some (.cells _ cs) => if off + n ≤ cs.length then some (.agg ((cs.drop off).take n), [], nx) else none
   | _ => none
  | .eptr id size i j => match g id with
   | some (.row _ size' es) => if size = size' ∧ j + n ≤ size then (es[i]?).map fun e => (.agg ((e.drop j).take n), [], nx) else none
   | _ => none
  | _ => none
 | .store n x v => fun ev g nx => match (ev v).cells? with
  | none => none
  | some vs => if vs.length = n then (match ev x with
   | .ptr id off => match g id with
    | some (.cells t cs) => rg (off + n ≤ cs.length) (some (.any, [(id, some (.cells t (setL cs off vs)))], nx))
    | _ => none
   | .eptr id size i j => match g id with
    | some (.row e size' es) => if size = size' ∧ j + n ≤ size then (es[i]?).map fun x => (.any, [(id, some (.row e size (es.set i (setL x j vs))))], nx) else none
    | _ => none
   | _ => none) else none
 | .nilc x => fun ev g nx => match ev x with
  | .ptr id off => some (.ptr id off, [], nx)
  | .cp cs => some (.cp cs, [], nx)
  | .eptr id size i j => some (.eptr id size i j, [], nx)
  | .fn (.func f) a b => some (.fn (.func f) a b, [], nx)
  | _ => none
 | .bin op x y => fun ev g nx => match ev x, ev y with
  | .int k a, .int k' b => (sbin op k a k' b).map fun v => (v, [], nx)
  | .str a, .str b => match op with
   | .add => rg (a.size + b.size ≤ maxLen) (some (.str (a ++ b), [], nx))
   | .eql => some (.bool (a.toList == b.toList), [], nx)
   | .neq => some (.bool (!(a.toList == b.toList)), [], nx)
   | _ => none
  | _, _ => none
 | .eq k neg x y => fun ev g nx => (eq0 k (ev x) (ev y)).map fun b => (.bool (neg != b), [], nx)
 | .eqs ks neg x y => fun ev g nx => match ev x, ev y with
  | .agg xs, .agg ys => (eqL ks xs ys).map fun b => (.bool (neg != b), [], nx)
  | _, _ => none
 | .un op x => fun ev g nx => match op, ev x with
  | .neg, .int k n => some (.int k (k.wrap (0 - n)), [], nx)
  | .xor, .int k n => some (.int k (bits .xor k (if k.signed then -1 else k.max) n), [], nx)
  | .not, .bool b => some (.bool (!b), [], nx)
  | _, _ => none
 | .conv k x => fun ev g nx => match ev x with
  | .int _ n => some (.int k (k.wrap n), [], nx)
  | _ => none
 | .mkslice e size bytes z l c => fun ev g nx => match ev l, ev c with
  | .int .i64 l, .int .i64 c => rg (0 ≤ l ∧ l ≤ c ∧ c ≤ maxLen ∧ c * bytes ≤ 140737488355328) (some (.own nx l.toNat, [(nx, some (.row e size (List.replicate l.toNat z)))], nx + 1))
  | _, _ => none
 | .slice size x lo hi => fun ev g nx =>
  match lo.map ev, hi.map ev with
  | none, none => (match ev x with
   | .view size' es => if size = size' then some (.view size es, [], nx) else none
   | .own id n => some (.own id n, [], nx)
   | _ => none)
  | some (.int _ l), none => (match ev x with
   | .view size' es => if size = size' then rg (0 ≤ l ∧ l ≤ es.length) (some (.view size (es.drop l.toNat), [], nx)) else none
   | .own id n => rg (0 ≤ l ∧ l < n) (some (.owno id size l.toNat (n - l.toNat), [], nx))
   | _ => none)
  | none, some (.int _ h) => (match ev x with
   | .view size' es => if size = size' then rg (0 ≤ h ∧ h ≤ es.length) (some (.view size (es.take h.toNat), [], nx)) else none
   | .own id n => rg (0 ≤ h ∧ h ≤ n) (some (.own id h.toNat, [], nx))
   | _ => none)
  | some (.int _ l), some (.int _ h) => (match ev x with
   | .view size' es => if size = size' then rg (0 ≤ l ∧ l ≤ h ∧ h ≤ es.length) (some (.view size ((es.take h.toNat).drop l.toNat), [], nx)) else none
   | .own id n => rg (0 ≤ l ∧ l < h ∧ h ≤ n) (some (.owno id size l.toNat (h.toNat - l.toNat), [], nx))
   | _ => none)
  | _, _ => none
 | .slstr x lo hi => fun ev g nx =>
  match ev x with
  | .str s => (match lo.map ev, hi.map ev with
   | some (.int _ l), none => rg (0 ≤ l ∧ l ≤ s.size) (some (.str (s.extract l.toNat s.size), [], nx))
   | none, some (.int _ h) => rg (0 ≤ h ∧ h ≤ s.size) (some (.str (s.extract 0 h.toNat), [], nx))
   | some (.int _ l), some (.int _ h) => rg (0 ≤ l ∧ l ≤ h ∧ h ≤ s.size) (some (.str (s.extract l.toNat h.toNat), [], nx))
   | _, _ => none)
  | _ => none
 | .faddr off x => fun ev g nx => match ev x with
  | .ptr id o => some (.ptr id (o + off), [], nx)
  | .cp cs => some (.cp (cs.drop off), [], nx)
  | .eptr id size i j => some (.eptr id size i (j + off), [], nx)
  | _ => none
 | .iaddr size x i => fun ev g nx => match ev i with
  | .int _ i => match ev x with
   | .view size' es => if size = size' then rg (0 ≤ i ∧ i < es.length) (some (.cp ((es[i.toNat]?).getD []), [], nx)) else none
   | .own id n => rg (0 ≤ i ∧ i < n) (some (.eptr id size i.toNat 0, [], nx))
   | .owno id size' off n => if size = size' then rg (0 ≤ i ∧ i < n) (some (.eptr id size (off + i.toNat) 0, [], nx)) else none
   | _ => none
  | _ => none
 | .iarr n size x i => fun ev g nx => match ev i with
  | .int _ i => match ev x with
   | .ptr id off => rg (0 ≤ i ∧ i < n) (some (.ptr id (off + i.toNat * size), [], nx))
   | .cp cs => rg (0 ≤ i ∧ i < n) (some (.cp (cs.drop (i.toNat * size)), [], nx))
   | .eptr id size' i' j => rg (0 ≤ i ∧ i < n) (some (.eptr id size' i' (j + i.toNat * size), [], nx))
   | _ => none
  | _ => none
 | .field off n x => fun ev g nx => match ev x with
  | .agg cs => match n with
   | none => (cs[off]?).map fun c => (c, [], nx)
   | some n => if off + n ≤ cs.length then some (.agg ((cs.drop off).take n), [], nx) else none
  | _ => none
 | .idx m size n x i => fun ev g nx => match ev i with
  | .int _ i => match ev x with
   | .agg cs => rg (0 ≤ i ∧ i < m) (match n with
    | none => (cs[i.toNat * size]?).map fun c => (c, [], nx)
    | some n => rg (i.toNat * size + n ≤ cs.length) (some (.agg ((cs.drop (i.toNat * size)).take n), [], nx)))
   | _ => none
  | _ => none
 | .idxs x i => fun ev g nx => match ev i with
  | .int _ i => match ev x with
   | .str s => rg (0 ≤ i) (match s[i.toNat]? with
    | some b => some (.int .u8 b.toNat, [], nx)
    | none => none)
   | _ => none
  | _ => none
 | .extr x i => fun ev g nx => match ev x with
  | .tup vs => (vs[i]?).map fun c => (c, [], nx)
  | _ => none
 | .len st x => fun ev g nx => match ev x with
  | .view _ es => if st = false then some (.int .i64 es.length, [], nx) else none
  | .own _ n => if st = false then some (.int .i64 n, [], nx) else none
  | .owno _ _ _ n => if st = false then some (.int .i64 n, [], nx) else none
  | .nilsl => if st = false then some (.int .i64 0, [], nx) else none
  | .str s => if st = true then some (.int .i64 s.size, [], nx) else none
  | _ => none
 | .app e size bytes s x => fun ev g nx => match qadx size g (ev x) with
  | none => none
  | some ys => match ev s with
   | .nilsl => rg (ys.length ≤ maxLen ∧ ys.length * bytes ≤ 140737488355328) (some (.own nx ys.length, [(nx, some (.row e size ys))], nx + 1))
   | .own id n => match g id with
    | some (.row e' size' es) => if e = e' ∧ size = size' ∧ n = es.length then rg (n + ys.length ≤ maxLen ∧ (n + ys.length) * bytes ≤ 140737488355328) (some (.own nx (n + ys.length), [(id, none), (nx, some (.row e size (es ++ ys)))], nx + 1)) else if e = e' ∧ size = size' ∧ n < es.length then rg (n + ys.length ≤ maxLen ∧ (n + ys.length) * bytes ≤ 140737488355328) (some (.own nx (n + ys.length), [(id, none), (nx, some (.row e size (es.take n ++ ys)))], nx + 1)) else none
    | _ => none
   | _ => none
 | .mm max x y => fun ev g nx => match ev x, ev y with
  | .int k a, .int k' b => if k = k' then some (.int k (if max then (if b > a then b else a) else (if b < a then b else a)), [], nx) else none
  | _, _ => none
 | .mkfn f first cap => fun ev g nx => some (.fn f (first.map ev) (cap.map ev), [], nx)
 | .b2s x => fun ev g nx => match qadx 1 g (ev x) with
  | some ys => (qaew ys).map fun xs => (.str (strOfNums xs), [], nx)
  | none => none
 | .b2b x => fun ev g nx => match ev x with
  | .own id n => match g id with
   | some (.row e size es) => if size = 1 ∧ 0 < n then some (.own id n, [(id, some (.row e size es))], nx) else none
   | _ => none
  | _ => none
 | .mkifc t x => fun ev g nx => some (.ifc t (ev x), [], nx)
 | .asrt t z x => fun ev g nx => match ev x with
  | .niliface => some (.tup [z, .bool false], [], nx)
  | .ifc t' v => some (if t' = t then .tup [v, .bool true] else .tup [z, .bool false], [], nx)
  | _ => none
theorem runF_eq (op : SOp) (ev : SX → SV) (g : Nat → Option SObj) (nx : Nat) : op.runF ev g nx = op.run ev g nx := by cases op <;> rfl
noncomputable def qa1o {β : Type} (bef : β → Nat) (cl : β → β → Bool) (b : β) (l : List β) : Nat → Nat → Bool := List.rec (fun _ _ => true) (fun a _ ih n i => Nat.rec true (fun n _ => Bool.rec (Bool.rec (ih n (.succ i)) false (cl a b)) (ih n (.succ i)) (Nat.testBit (bef b) i)) n) l
noncomputable def qasp {β : Type} (bef : β → Nat) (cl : β → β → Bool) (all : List β) (l : List β) : Nat → Bool := List.rec (fun _ => true) (fun b _ ih j => Bool.rec false (ih (.succ j)) (qa1o bef cl b all j 0)) l
def qa35 (a b : SOper) : Bool := (match a.dst with | some d => b.reads.contains d || b.dst == some d | none => false) || (match b.dst with | some d => a.reads.contains d | none => false)
def qa36 (a b : SOper × Tch) : Bool := a.2.wr.any (fun i => b.2.rd.contains i || b.2.wr.contains i) || b.2.wr.any fun i => a.2.rd.contains i
noncomputable def okS (ops : List SOper) : Bool := qasp (·.bef) qa35 ops ops 0
noncomputable def okD (l : List (SOper × Tch)) : Bool := qasp (·.1.bef) qa36 l l 0
def eqI (a b : Int) : Bool := match a, b with
 | .ofNat m, .ofNat n => Nat.beq m n
 | .negSucc m, .negSucc n => Nat.beq m n
 | _, _ => false
def eqV : Nat → SV → SV → Bool
 | 0, _, _ => false
 | n + 1, x, y => match x, y with
  | .any, .any => true
  | .bool a, .bool b => a == b
  | .int k a, .int j b => decide (k = j) && eqI a b
  | .nil, .nil => true
  | .nilsl, .nilsl => true
  | .nilfn, .nilfn => true
  | .niliface, .niliface => true
  | .mt, .mt => true
  | .ptr a b, .ptr c d => Nat.beq a c && Nat.beq b d
  | .own a b, .own c d => Nat.beq a c && Nat.beq b d
  | .owno a b c d, .owno a' b' c' d' => Nat.beq a a' && Nat.beq b b' && Nat.beq c c' && Nat.beq d d'
  | .agg xs, .agg ys => eqVs (eqV n) xs ys
  | .cp xs, .cp ys => eqVs (eqV n) xs ys
  | .view z xs, .view w ys => Nat.beq z w && eqVss (eqV n) xs ys
  | _, _ => false
where
 eqVs (f : SV → SV → Bool) : List SV → List SV → Bool
  | [], [] => true
  | x :: xs, y :: ys => f x y && eqVs f xs ys
  | _, _ => false
 eqVss (f : SV → SV → Bool) : List (List SV) → List (List SV) → Bool
  | [], [] => true
  | x :: xs, y :: ys => eqVs f x y && eqVss f xs ys
  | _, _ => false
def eqO : SObj → SObj → Bool
 | .cells t cs, .cells u ds => Nat.beq t u && eqV.eqVs (eqV 9) cs ds
 | .row e z es, .row e' z' fs => Nat.beq e e' && Nat.beq z z' && eqV.eqVss (eqV 9) es fs
 | _, _ => false
noncomputable def qa47 (h2 h1 l : Hp) : List Nat := List.rec [] (fun p _ ih => Option.rec ih (fun o => Option.rec ih (fun o' => Bool.rec ih (p.1 :: ih) (eqO o o')) (qail h2 p.1)) (qail h1 p.1)) l
noncomputable def same (h2 h1 : Hp) : List Nat := qa47 h2 h1 h1
noncomputable def fSp {α : Type} (h : Hp) : (Hp → α) → α := List.rec (fun k => k []) (fun p _ ih k => ih fun h => k (p :: h)) h
noncomputable def fUpd {α : Type} (u : Upd) : Hp → (Hp → α) → α := List.rec (fun h k => k h) (fun p _ ih h k => Prod.rec (fun i o => Option.rec (fSp (delhR h i) fun h => ih h k) (fun o => fNat i fun i => fO o fun o => fSp (puthR h i o) fun h => ih h k) o) p) u
noncomputable def runCl (v : SV) : (Tsk → Option Ans) → List SV → Option Nat → SSt → (SSt → Tch → Option Ans) → Option Ans := match v with
 | .fn (.func g) first cap => fun ih args dst s K => qayv f2 (first ++ args ++ cap) fun as_ => fSp (qa2t s.hp 100000 (as_.flatMap nm2) []) fun h1 =>
   match ih (.call g as_ h1 s.nx) with
   | some (.val r h2 nx) => fSp (qaby s.hp h1 h2) fun hp => K ⟨putd s.sl dst r, hp, nx⟩ ⟨same h2 h1, (idsH h1 ++ idsH h2).filter fun i => !(same h2 h1).contains i⟩
   | _ => none
 | _ => fun _ _ _ _ _ => none
noncomputable def runOp (o : SOper) (s : SSt) (K : SSt → Tch → Option Ans) : Option Ans := match o.op.runF (·.evR s.sl) (qail s.hp) s.nx with
  | some (v, u, _) => f2 v fun v => fUpd u s.hp fun hp => fNat (.succ s.nx) fun nx => K ⟨putd s.sl o.dst v, hp, nx⟩ ⟨o.op.touch (·.ev s.sl), u.map (·.1)⟩
  | none => none
noncomputable def run1 (ih : Tsk → Option Ans) (o : SOper) (s : SSt) (K : SSt → Tch → Option Ans) : Option Ans := match o.cal with
 | some (f, args) => runCl (f.evR s.sl) ih (args.map (·.evR s.sl)) o.dst s K
 | none => runOp o s K
noncomputable def runG (v : SV) : (Tsk → Option Ans) → Bool → SOper → SSt → (SSt → Tch → Option Ans) → Option Ans := match v with
 | .bool b => fun ih want o s K => match b == want with
       | true => run1 ih o s K
       | false => K (s.skip o) ⟨[], []⟩
 | .tup [] => fun _ _ o s K => K (s.skip o) ⟨[], []⟩
 | _ => fun _ _ _ _ _ => none
noncomputable def runO (ih : Tsk → Option Ans) (o : SOper) (s : SSt) (K : SSt → Tch → Option Ans) : Option Ans := match o.grd with
 | none => run1 ih o s K
 | some (t, want) => runG (getsR s.sl t) ih want o s K
noncomputable def qa2m (ih : Tsk → Option Ans) (l : List SOper) : SSt → List Tch → (SSt → List Tch → Option Ans) → Option Ans :=
 List.rec (fun s tr K => K s tr) (fun o _ rest s tr K => runO ih o s fun s' x => rest s' (x :: tr) K) l
noncomputable def getK {α : Type} (l : Sl) (t : Nat) (k : SV → α) : α := List.rec (k .any) (fun p _ ih => Prod.rec (fun i v => Bool.rec ih (k v) (Nat.beq i t)) p) l
theorem qa1u {α : Type} (t : Nat) (k : SV → α) : ∀ l : Sl, getK l t k = k (gets l t)
 | [] => rfl
 | (i, v) :: l => by
  show Bool.rec (getK l t k) (k v) (Nat.beq i t) = k (if i = t then v else gets l t)
  rw [qa1u t k l]
  cases h : Nat.beq i t with
  | true => rw [if_pos (Nat.eq_of_beq_eq_true h)]
  | false => rw [if_neg (Nat.ne_of_beq_eq_false h)]
noncomputable def fKeep {α : Type} (cr : List Nat) (s : SSt) (k : SSt → α) : α := List.rec (fun k => k []) (fun t _ ih k => getK s.sl t fun v => ih fun sl => k ((t, v) :: sl)) cr fun sl => k ⟨sl, s.hp, s.nx⟩
noncomputable def qaxh : SCode → (Tsk → Option Ans) → SSt → Option Ans
 | .skip => fun _ s => some (.st .normal s)
 | .exit i => fun _ s => some (.st (.exit i) s)
 | .ret => fun _ s => some (.st .ret s)
 | .reg d ops live => fun ih s => qa2m ih ops s [] fun s' tr => match !d || (okS ops && okD (ops.zip tr.reverse)) with
   | true => fKeep live s' fun s' => some (.st .normal s')
   | false => none
 | .seq a b => fun ih s => match ih (.code a s) with
   | some (.st .normal s') => ih (.code b s')
   | r => r
 | .cond x a b => fun ih s => match x.evR s.sl with
   | .bool true => ih (.code a s)
   | .bool false => ih (.code b s)
   | _ => none
 | .block id a => fun ih s => match ih (.code a s) with
   | some (.st (.exit i) s') => match Nat.beq i id with
    | true => some (.st .normal s')
    | false => some (.st (.exit i) s')
   | r => r
 | .loop a => fun ih s => match ih (.code a s) with
   | some (.st .normal s') => ih (.code (.loop a) s')
   | r => r
noncomputable def leave (P : Program) (res : List ResultVar) (h : Hp) (nx : Nat) (s' : SSt) : Option Ans := match qamv P s' res with
 | some r => f2 r fun r => fSp (qa2t s'.hp 100000 (nm2 r ++ idsH h) []) fun h2 => match uniqB h2 && Nat.ble nx s'.nx with
  | true => fNat (.succ s'.nx) fun nx => some (.val r h2 nx)
  | false => none
 | none => none
noncomputable def stepF (P : Program) (H : List (Nat × List (List Nat))) (ih : Tsk → Option Ans) (g : FuncId) (as_ : List SV) (h : Hp) (nx : Nat) : Option Ans := match fdata P H g with
 | some fd => match Nat.ble as_.length fd.N && as_.all (lt2 nx) && ltHp nx h with
  | true => match ih (.code fd.c ⟨argS 0 as_, h, nx⟩) with
   | some (.st (.exit _) _) => none
   | some (.st _ s') => leave P fd.res h nx s'
   | _ => none
  | false => none
 | none => none
noncomputable def step (P : Program) (H : List (Nat × List (List Nat))) (kn : FuncId → List SV → Hp → Nat → Option Ans) (ih : Tsk → Option Ans) : Tsk → Option Ans
 | .code c s => qaxh c ih s
 | .call g as_ h nx => match kn g as_ h nx with
  | some a => some a
  | none => stepF P H ih g as_ h nx
noncomputable def run (P : Program) (H : List (Nat × List (List Nat))) (kn : FuncId → List SV → Hp → Nat → Option Ans) (n : Nat) : Tsk → Option Ans := Nat.rec (fun _ => none) (fun _ ih t => step P H kn ih t) n
end Go.Proofs.Ytbefmmajjfijnaa
