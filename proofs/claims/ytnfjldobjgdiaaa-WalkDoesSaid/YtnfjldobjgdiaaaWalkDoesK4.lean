/-
  Texts joined: XPlnH XPlnI XPlnJ XCplt XPlnK XPlnL. No condition.
-/
import Derived.Test.YtnfjldobjgdiaaaProg
import Derived.ProofKit
import Derived.WalkSpells
import Derived.RegionTactic
import Derived.BigRegion
import Derived.Deep.RegionLaw
import Derived.Test.YtnfjldobjgdiaaaWalkDoesK3
namespace Go.Proofs.Ytnfjldobjgdiaaa
set_option linter.all false
open Go.RowKit
attribute [local simp] qabs qabr qaa5 qabc qaa6 qabb qabp qabq qaa1 qab3 SOp.run SX.ev putd puts argS upds SOp.touch SSt.keep SSt.skip gets geth puth delh idOf SV.cells? setL qadd qade sbin eq0 eq1 eqL qadc qacd qace qaas qabt qaad qabu qab4 qaaj qaa3 FrzOk qabl qabf qabj qabk qaa7 qabe qab0 qabg qaa9 qabm qaa8 frzS frzH frz frz1 frz0 SlotsM ObjsM ObjM rn ren ren1 ren0 qab9 qaay qaaz qab8 qab1 qacq qacp CoL qabn qacs dels adds idsH qacf
attribute [local simp] qad0 refc qafc qae1 qacn opc actc tabc qaeg qac1 nums jc
theorem qagm {xs ks : List Int} {i : Nat} (h1 : i < xs.length) (h2 : i < ks.length) : qaf4 (xs.drop i) (ks.drop i) = (qalt xs[i] ks[i] || qaf4 (xs.drop (i + 1)) (ks.drop (i + 1))) := by
 rw [List.drop_eq_getElem_cons h1, List.drop_eq_getElem_cons h2]; rfl
def AW (acts : List ActD) : Prop := ∀ a ∈ acts, ∀ w ∈ a.w, 0 ≤ w ∧ w ≤ 48
theorem says_s (t : TabD) (acts : List ActD) (act : Int) (args : List Int) (ha : AW acts) (hl : t.acts.length ≤ 1000000) (hl2 : args.length ≤ 1000000) (hr : ∀ k ∈ t.acts, 0 ≤ k ∧ k < acts.length) (q : Nat) : SCalls Try.prog 87 [.agg (tabc t), .view 2 (acts.map actc), .int .i64 act, nums .u64 args] [] q (.int .i64 (qagr t.acts acts act args)) [] := by
 refine qabw ?_ (fun _ => rfl) (fun _ => rfl) rfl q
 refine qaba (N := 42) Try.func87 rfl rfl (by kernel_rfl) qarg (by simp) (by repeat' (first | exact trivial | refine And.intro ?_ ?_ | rfl | decide | exact PureR.ren _)) (by repeat' (first | exact trivial | refine And.intro ?_ ?_ | rfl | decide | exact PureR.ren _)) ?_
 rintro X hP hN hm
 have hc := fun q => qag0 t.acts act hl q
 unfold c_says
 cases hin : t.acts.contains act
 ·rw [hin] at hc
  have hz : qagr t.acts acts act args = 5 := by unfold qagr; rw [hin]; rfl
  rw [hz]
  repeat' (first | (with_reducible first | refine zA ?_ | refine qaac ?_ | refine qaab ?_ | refine zK ?_) | ((with_reducible first | refine qaal ?_ | refine qaah (by rw [hP]; exact qaa4) ?_); (try rw [hP]); simp -implicitDefEqProofs [*]) | ((with_reducible first | refine qaaf ?_ | refine qaag ?_); (try simp -implicitDefEqProofs [*])) | ((with_reducible refine qaam ?_); (try simp only [qaas, qaad, qaaj])) | ((with_reducible refine qaae rfl (fun h => ?_) (fun h => ?_)) <;> have h' := h <;> (try simp at h') <;> (try subst h')) | ((with_reducible refine qaaa (fun h => ?_) (fun h => ?_)) <;> have h' := h <;> (try simp at h') <;> (try subst h') <;> simp -implicitDefEqProofs [*]) | ((with_reducible refine qaai ?_ ?_); (first | omega | (unfold maxLen; omega)); simp -implicitDefEqProofs [*]) | (refine qabd (hc _) ?_; simp -implicitDefEqProofs [*]) | (with_reducible first | refine zM hm ?_ | refine zN hm ?_ | refine zO hm ?_ | refine zP hm ?_) | fail)
  rfl
 ·rw [hin] at hc
  obtain ⟨hr0, hr1⟩ := hr act (by simpa using hin)
  have hlt : act.toNat < acts.length := by omega
  have hAm := ha acts[act.toNat] (List.getElem_mem hlt)
  have hF : qagr t.acts acts act args = if args.length ≠ acts[act.toNat].w.length then 2 else if qaf4 args acts[act.toNat].w = true then 6 else 0 := by
   unfold qagr
   have : actW acts act = acts[act.toNat].w := by unfold actW; rw [List.getElem?_eq_getElem hlt]; rfl
   rw [hin, this]; rfl
  generalize qagr t.acts acts act args = F at hF
  generalize hA : acts[act.toNat] = A at hAm hF
  replace hAm := Lib.hid hAm
  by_cases hlen : args.length = A.w.length
  ·rw [if_neg (by simpa using hlen)] at hF
   have kl : ((args.length : Int) != (A.w.length : Int)) = false := by simp [hlen]
   replace hF := Lib.hid hF
   replace hlen := Lib.hid hlen
   repeat' (first | (with_reducible first | refine zA ?_ | refine qaac ?_ | refine qaab ?_ | refine zK ?_) | ((with_reducible first | refine qaal ?_ | refine qaah (by rw [hP]; exact qaa4) ?_); (try rw [hP]); simp -implicitDefEqProofs [*]) | ((with_reducible first | refine qaaf ?_ | refine qaag ?_); (try simp -implicitDefEqProofs [*])) | ((with_reducible refine qaam ?_); (try simp only [qaas, qaad, qaaj])) | ((with_reducible refine qaae rfl (fun h => ?_) (fun h => ?_)) <;> have h' := h <;> (try simp at h') <;> (try subst h')) | ((with_reducible refine qaaa (fun h => ?_) (fun h => ?_)) <;> have h' := h <;> (try simp at h') <;> (try subst h') <;> simp -implicitDefEqProofs [*]) | ((with_reducible refine qaai ?_ ?_); (first | omega | (unfold maxLen; omega)); simp -implicitDefEqProofs [*]) | (refine qabd (hc _) ?_; simp -implicitDefEqProofs [*]) | (with_reducible first | refine zM hm ?_ | refine zN hm ?_ | refine zO hm ?_ | refine zP hm ?_) | fail)
   refine qaa0 (qabi (fun s (i : Nat) => s.turn [(29, .int .i64 i)] []) (fun i => i ≤ args.length ∧ F = if qaf4 (args.drop i) (A.w.drop i) = true then 6 else 0) (fun i => args.length - i) 0 ?_ ⟨by simp, hF.out⟩ ?_)
   ·repeat' (first | ((with_reducible refine qaar [] hm ?_ ?_ ?_ ?_) <;> (try simp only [zT, puth, Nat.reduceEqDiff, reduceIte, Nat.reduceAdd])) | (with_reducible first | refine za ?_ ?_ | refine zb ?_ ?_ ?_ ?_ | refine zc ?_ ?_ ?_ ?_ | refine zd ?_ ?_ ?_ ?_ | refine qaap ?_ ?_ | refine qaan ?_ ?_) | (with_reducible first | exact qaak | exact qaao | exact qaat | exact qaau | exact Co.refl _ | exact CoL.refl _ | exact CoLL.refl _) | ((with_reducible first | refine zga ?_ | refine zgb ?_); rfl) | ((with_reducible refine zgc ?_); (first | (with_reducible rfl) | rfl | (simp; done))) | ((with_reducible first | refine zgd ?_ | refine zge ?_); (first | omega | (simp; done))) | (refine qaaw ⟨?_, ?_⟩ ?_ <;> omega) | (exact Co.refl _) | (exact CoL.refl _) | (exact CoLL.refl _) | (refine qaaz ?_; omega) | (refine qaay ?_; first | omega | (simp_all; done)) | (with_reducible first | refine qaav ?_ ?_ | refine qaaq ?_ ?_) | fail)
   rintro J hJ i ⟨h1, h2⟩
   unfold qaqo
   simp only [zT, puth, Nat.reduceEqDiff, reduceIte, Nat.reduceAdd] at h1 h2 ⊢
   rcases Nat.lt_or_ge i args.length with hi | hi
   ·have hi2 : i < A.w.length := by have := hlen.out; omega
    rw [qagm hi hi2] at h2
    have hms := fun q => mask_s A.w[i] (hAm.out _ (List.getElem_mem hi2)) q
    generalize hw : A.w[i] = w at h2 hms
    generalize hx : args[i] = x at h2
    have wi : IntKind.i64.wrap ((i : Int) + 1) = (i : Int) + 1 := qaa2 (by omega) (by omega)
    replace h2 := Lib.hid h2
    cases hv : qalt x w
    ·unfold qalt at hv
     repeat' (first | (with_reducible first | refine zA ?_ | refine qaac ?_ | refine qaab ?_ | refine zK ?_) | ((with_reducible first | refine qaal ?_ | refine qaah (by rw [hP]; exact qaa4) ?_); (try rw [hP]); simp -implicitDefEqProofs [*]) | ((with_reducible first | refine qaaf ?_ | refine qaag ?_); (try simp -implicitDefEqProofs [*])) | ((with_reducible refine qaam ?_); (try simp only [qaas, qaad, qaaj])) | ((with_reducible refine qaae rfl (fun h => ?_) (fun h => ?_)) <;> have h' := h <;> (try simp at h') <;> (try subst h')) | ((with_reducible refine qaaa (fun h => ?_) (fun h => ?_)) <;> have h' := h <;> (try simp at h') <;> (try subst h') <;> simp -implicitDefEqProofs [*]) | ((with_reducible refine qaai ?_ ?_); (first | omega | (unfold maxLen; omega)); simp -implicitDefEqProofs [*]) | (refine qabd (hms _) ?_; simp -implicitDefEqProofs [*]) | (with_reducible first | refine zM hm ?_ | refine zN hm ?_ | refine zO hm ?_ | refine zP hm ?_) | ((with_reducible refine qaar [] hm ?_ ?_ ?_ ?_) <;> (try simp only [zT, puth, Nat.reduceEqDiff, reduceIte, Nat.reduceAdd])) | (with_reducible first | refine za ?_ ?_ | refine zb ?_ ?_ ?_ ?_ | refine zc ?_ ?_ ?_ ?_ | refine zd ?_ ?_ ?_ ?_ | refine qaap ?_ ?_ | refine qaan ?_ ?_) | (with_reducible first | exact qaak | exact qaao | exact qaat | exact qaau | exact Co.refl _ | exact CoL.refl _ | exact CoLL.refl _) | ((with_reducible first | refine zga ?_ | refine zgb ?_); rfl) | ((with_reducible refine zgc ?_); (first | (with_reducible rfl) | rfl | (simp; done))) | ((with_reducible first | refine zgd ?_ | refine zge ?_); (first | omega | (simp; done))) | (refine qaaw ⟨?_, ?_⟩ ?_ <;> omega) | (exact Co.refl _) | (exact CoL.refl _) | (exact CoLL.refl _) | (refine qaaz ?_; omega) | (refine qaay ?_; first | omega | (simp_all; done)) | (with_reducible first | refine qaav ?_ ?_ | refine qaaq ?_ ?_) | ((refine qaax hJ (i + 1) ?_ ?_ ?_; (with_reducible refine qaar [] hm ?_ ?_ ?_ ?_) <;> (try simp only [zT, puth, Nat.reduceEqDiff, reduceIte, Nat.reduceAdd]))) | fail)
     refine ⟨by omega, ?_⟩
     rw [h2.out, show qalt x w = false from hv, Bool.false_or]
    ·unfold qalt at hv
     repeat' (first | (with_reducible first | refine zA ?_ | refine qaac ?_ | refine qaab ?_ | refine zK ?_) | ((with_reducible first | refine qaal ?_ | refine qaah (by rw [hP]; exact qaa4) ?_); (try rw [hP]); simp -implicitDefEqProofs [*]) | ((with_reducible first | refine qaaf ?_ | refine qaag ?_); (try simp -implicitDefEqProofs [*])) | ((with_reducible refine qaam ?_); (try simp only [qaas, qaad, qaaj])) | ((with_reducible refine qaae rfl (fun h => ?_) (fun h => ?_)) <;> have h' := h <;> (try simp at h') <;> (try subst h')) | ((with_reducible refine qaaa (fun h => ?_) (fun h => ?_)) <;> have h' := h <;> (try simp at h') <;> (try subst h') <;> simp -implicitDefEqProofs [*]) | ((with_reducible refine qaai ?_ ?_); (first | omega | (unfold maxLen; omega)); simp -implicitDefEqProofs [*]) | (refine qabd (hms _) ?_; simp -implicitDefEqProofs [*]) | (with_reducible first | refine zM hm ?_ | refine zN hm ?_ | refine zO hm ?_ | refine zP hm ?_) | fail)
     rw [h2.out, show qalt x w = true from hv]; rfl
   ·obtain rfl : i = args.length := by omega
    rw [List.drop_length] at h2
    replace h2 := Lib.hid h2
    repeat' (first | (with_reducible first | refine zA ?_ | refine qaac ?_ | refine qaab ?_ | refine zK ?_) | ((with_reducible first | refine qaal ?_ | refine qaah (by rw [hP]; exact qaa4) ?_); (try rw [hP]); simp -implicitDefEqProofs [*]) | ((with_reducible first | refine qaaf ?_ | refine qaag ?_); (try simp -implicitDefEqProofs [*])) | ((with_reducible refine qaam ?_); (try simp only [qaas, qaad, qaaj])) | ((with_reducible refine qaae rfl (fun h => ?_) (fun h => ?_)) <;> have h' := h <;> (try simp at h') <;> (try subst h')) | ((with_reducible refine qaaa (fun h => ?_) (fun h => ?_)) <;> have h' := h <;> (try simp at h') <;> (try subst h') <;> simp -implicitDefEqProofs [*]) | ((with_reducible refine qaai ?_ ?_); (first | omega | (unfold maxLen; omega)); simp -implicitDefEqProofs [*]) | (with_reducible first | refine zM hm ?_ | refine zN hm ?_ | refine zO hm ?_ | refine zP hm ?_) | fail)
    rw [h2.out]; rfl
  ·rw [if_pos (by simpa using hlen)] at hF
   have kl : ((args.length : Int) != (A.w.length : Int)) = true := by simp; omega
   replace hF := Lib.hid hF
   repeat' (first | (with_reducible first | refine zA ?_ | refine qaac ?_ | refine qaab ?_ | refine zK ?_) | ((with_reducible first | refine qaal ?_ | refine qaah (by rw [hP]; exact qaa4) ?_); (try rw [hP]); simp -implicitDefEqProofs [*]) | ((with_reducible first | refine qaaf ?_ | refine qaag ?_); (try simp -implicitDefEqProofs [*])) | ((with_reducible refine qaam ?_); (try simp only [qaas, qaad, qaaj])) | ((with_reducible refine qaae rfl (fun h => ?_) (fun h => ?_)) <;> have h' := h <;> (try simp at h') <;> (try subst h')) | ((with_reducible refine qaaa (fun h => ?_) (fun h => ?_)) <;> have h' := h <;> (try simp at h') <;> (try subst h') <;> simp -implicitDefEqProofs [*]) | ((with_reducible refine qaai ?_ ?_); (first | omega | (unfold maxLen; omega)); simp -implicitDefEqProofs [*]) | (refine qabd (hc _) ?_; simp -implicitDefEqProofs [*]) | (with_reducible first | refine zM hm ?_ | refine zN hm ?_ | refine zO hm ?_ | refine zP hm ?_) | fail)
   rw [hF.out]
set_option maxHeartbeats 4000000 in
theorem qbca (t : TabD) (ws : List Int) (acts : List ActD) (ha : AW acts) (h1 : t.acts.length ≤ 1000000) (h2 : t.args.length ≤ 1000000) (h3 : ws.length ≤ 1000000) (h4 : acts.length ≤ 1000000) (q : Nat) : SCalls Try.prog 66 [.agg (tabc t), nums .i64 ws, .view 2 (acts.map actc)] [] q (.int .i64 (qadn t ws acts)) [] := by
 refine qabw ?_ (fun _ => rfl) (fun _ => rfl) rfl q
 refine qaba (N := 101) Try.func66 rfl rfl (by kernel_rfl) qajr (by simp) (by repeat' (first | exact trivial | refine And.intro ?_ ?_ | rfl | decide | exact PureR.ren _)) (by repeat' (first | exact trivial | refine And.intro ?_ ?_ | rfl | decide | exact PureR.ren _)) ?_
 rintro X hP hN hm
 have hsays := fun (hr : ∀ k ∈ t.acts, 0 ≤ k ∧ k < acts.length) q => says_s t acts t.def_ t.args ha h1 h2 hr q
 replace hsays := Lib.hid hsays
 replace ha := Lib.hid ha
 obtain ⟨n, hn⟩ : ∃ n, ws.length = n := ⟨_, rfl⟩
 obtain ⟨m, hma⟩ : ∃ m, t.acts.length = m := ⟨_, rfl⟩
 unfold c_tcheck
 by_cases g1 : t.kind < 1 ∨ 3 < t.kind
 ·have hz : qadn t ws acts = 5 := by unfold qadn; rw [if_pos g1]
  rw [hz]
  have k1 : (t.kind != 1) = true := by simp; omega
  have k2 : (t.kind != 2) = true := by simp; omega
  have k3 : (t.kind != 3) = true := by simp; omega
  replace g1 := Lib.hid g1
  repeat' (first | (with_reducible first | refine zA ?_ | refine qaac ?_ | refine qaab ?_ | refine zK ?_) | ((with_reducible first | refine qaal ?_ | refine qaah (by rw [hP]; exact qaa4) ?_); (try rw [hP]); simp -implicitDefEqProofs [*]) | ((with_reducible first | refine qaaf ?_ | refine qaag ?_); (try simp -implicitDefEqProofs [*])) | ((with_reducible refine qaam ?_); (try simp only [qaas, qaad, qaaj])) | ((with_reducible refine qaae rfl (fun h => ?_) (fun h => ?_)) <;> have h' := h <;> (try simp at h') <;> (try subst h')) | ((with_reducible refine qaaa (fun h => ?_) (fun h => ?_)) <;> have h' := h <;> (try simp at h') <;> (try subst h') <;> simp -implicitDefEqProofs [*]) | ((with_reducible refine qaai ?_ ?_); (first | omega | (unfold maxLen; omega)); simp -implicitDefEqProofs [*]) | (with_reducible first | refine zM hm ?_ | refine zN hm ?_ | refine zO hm ?_ | refine zP hm ?_) | fail)
  rfl
 by_cases g2 : ws.length < 1 ∨ 3 < ws.length ∨ (t.kind = 2 ∧ 1 < ws.length) ∨ t.acts.length < 1 ∨ 4 < t.acts.length
 ·have hz : qadn t ws acts = 2 := by unfold qadn; rw [if_neg g1, if_pos g2]
  rw [hz]
  replace g1 := Lib.hid g1
  replace g2 := Lib.hid g2
  repeat' (first | (with_reducible first | refine zA ?_ | refine qaac ?_ | refine qaab ?_ | refine zK ?_) | ((with_reducible first | refine qaal ?_ | refine qaah (by rw [hP]; exact qaa4) ?_); (try rw [hP]); simp -implicitDefEqProofs [*]) | ((with_reducible first | refine qaaf ?_ | refine qaag ?_); (try simp -implicitDefEqProofs [*])) | ((with_reducible refine qaam ?_); (try simp only [qaas, qaad, qaaj])) | ((with_reducible refine qaae rfl (fun h => ?_) (fun h => ?_)) <;> have h' := h <;> (try simp at h') <;> (try subst h')) | ((with_reducible refine qaaa (fun h => ?_) (fun h => ?_)) <;> have h' := h <;> (try simp at h') <;> (try subst h') <;> simp -implicitDefEqProofs [*]) | ((with_reducible refine qaai ?_ ?_); (first | omega | (unfold maxLen; omega)); simp -implicitDefEqProofs [*]) | (with_reducible first | refine zM hm ?_ | refine zN hm ?_ | refine zO hm ?_ | refine zP hm ?_) | fail)
  all_goals (first | rfl | (exfalso; have q := g2.out; have q1 := g1.out; omega))
 by_cases g3 : t.cap < 0 ∨ 16 < t.cap
 ·have hz : qadn t ws acts = 1 := by unfold qadn; rw [if_neg g1, if_neg g2, if_pos g3]
  rw [hz]
  replace g1 := Lib.hid g1
  replace g2 := Lib.hid g2
  replace g3 := Lib.hid g3
  repeat' (first | (with_reducible first | refine zA ?_ | refine qaac ?_ | refine qaab ?_ | refine zK ?_) | ((with_reducible first | refine qaal ?_ | refine qaah (by rw [hP]; exact qaa4) ?_); (try rw [hP]); simp -implicitDefEqProofs [*]) | ((with_reducible first | refine qaaf ?_ | refine qaag ?_); (try simp -implicitDefEqProofs [*])) | ((with_reducible refine qaam ?_); (try simp only [qaas, qaad, qaaj])) | ((with_reducible refine qaae rfl (fun h => ?_) (fun h => ?_)) <;> have h' := h <;> (try simp at h') <;> (try subst h')) | ((with_reducible refine qaaa (fun h => ?_) (fun h => ?_)) <;> have h' := h <;> (try simp at h') <;> (try subst h') <;> simp -implicitDefEqProofs [*]) | ((with_reducible refine qaai ?_ ?_); (first | omega | (unfold maxLen; omega)); simp -implicitDefEqProofs [*]) | (with_reducible first | refine zM hm ?_ | refine zN hm ?_ | refine zO hm ?_ | refine zP hm ?_) | fail)
  all_goals (first | rfl | (exfalso; have q := g2.out; have q1 := g1.out; have q3 := g3.out; omega))
 have hF : qadn t ws acts = if (ws.drop 0).any wOut = true then 6 else if (t.acts.drop 0).any (aOut acts.length) = true then 1 else qagr t.acts acts t.def_ t.args := by
  unfold qadn; rw [if_neg g1, if_neg g2, if_neg g3]; rfl
 generalize qadn t ws acts = F at hF
 replace hF := Lib.hid hF
 have l0 : ((ws.length : Int) == 0) = false := by rw [beq_eq_false_iff_ne]; omega
 have l3 : decide (3 < (ws.length : Int)) = false := by rw [decide_eq_false_iff_not]; omega
 have a0 : ((t.acts.length : Int) == 0) = false := by rw [beq_eq_false_iff_ne]; omega
 have a4 : decide (4 < (t.acts.length : Int)) = false := by rw [decide_eq_false_iff_not]; omega
 have q0 : decide (t.cap < 0) = false := by rw [decide_eq_false_iff_not]; omega
 have q16 : decide (16 < t.cap) = false := by rw [decide_eq_false_iff_not]; omega
 have hks : ((t.kind != 1) = false ∧ (t.kind == 2) = false) ∨ ((t.kind != 1) = true ∧ (t.kind != 2) = false ∧ (t.kind == 2) = true ∧ ((ws.length : Int) != 1) = false) ∨ ((t.kind != 1) = true ∧ (t.kind != 2) = true ∧ (t.kind != 3) = false ∧ (t.kind == 2) = false) := by
  by_cases e1 : t.kind = 1
  ·left; rw [e1]; exact ⟨rfl, rfl⟩
  by_cases e2 : t.kind = 2
  ·right; left; refine ⟨by simpa using e1, by simpa using e2, by simpa using e2, ?_⟩
   rw [bne_eq_false_iff_eq]; omega
  ·right; right; refine ⟨by simpa using e1, by simpa using e2, ?_, by simpa using e2⟩
   rw [bne_eq_false_iff_eq]; omega
 clear g1 g2 g3 hn hma n m
 rcases hks with ⟨k1, k2⟩ | ⟨k1, k2, k3, k4⟩ | ⟨k1, k2, k3, k4⟩
 all_goals
  repeat' (first | (with_reducible first | refine zA ?_ | refine qaac ?_ | refine qaab ?_ | refine zK ?_) | ((with_reducible first | refine qaal ?_ | refine qaah (by rw [hP]; exact qaa4) ?_); (try rw [hP]); simp -implicitDefEqProofs [*]) | ((with_reducible first | refine qaaf ?_ | refine qaag ?_); (try simp -implicitDefEqProofs [*])) | ((with_reducible refine qaam ?_); (try simp only [qaas, qaad, qaaj])) | ((with_reducible refine qaae rfl (fun h => ?_) (fun h => ?_)) <;> have h' := h <;> (try simp at h') <;> (try subst h')) | ((with_reducible refine qaaa (fun h => ?_) (fun h => ?_)) <;> have h' := h <;> (try simp at h') <;> (try subst h') <;> simp -implicitDefEqProofs [*]) | ((with_reducible refine qaai ?_ ?_); (first | omega | (unfold maxLen; omega)); simp -implicitDefEqProofs [*]) | (with_reducible first | refine zM hm ?_ | refine zN hm ?_ | refine zO hm ?_ | refine zP hm ?_) | fail)
  clear k1 k2 a0 a4 q0 q16 l0 l3
  refine qaa0 (qabi (fun s (i : Nat) => s.turn [(67, .int .i64 i)] []) (fun i => i ≤ ws.length ∧ F = if (ws.drop i).any wOut = true then 6 else if (t.acts.drop 0).any (aOut acts.length) = true then 1 else qagr t.acts acts t.def_ t.args) (fun i => ws.length - i) 0 ?_ ⟨by simp, hF.out⟩ ?_)
  ·repeat' (first | ((with_reducible refine qaar [] hm ?_ ?_ ?_ ?_) <;> (try simp only [zT, puth, Nat.reduceEqDiff, reduceIte, Nat.reduceAdd])) | (with_reducible first | refine za ?_ ?_ | refine zb ?_ ?_ ?_ ?_ | refine zc ?_ ?_ ?_ ?_ | refine zd ?_ ?_ ?_ ?_ | refine qaap ?_ ?_ | refine qaan ?_ ?_) | (with_reducible first | exact qaak | exact qaao | exact qaat | exact qaau | exact Co.refl _ | exact CoL.refl _ | exact CoLL.refl _) | ((with_reducible first | refine zga ?_ | refine zgb ?_); rfl) | ((with_reducible refine zgc ?_); (first | (with_reducible rfl) | rfl | (simp; done))) | ((with_reducible first | refine zgd ?_ | refine zge ?_); (first | omega | (simp; done))) | (refine qaaw ⟨?_, ?_⟩ ?_ <;> omega) | (exact Co.refl _) | (exact CoL.refl _) | (exact CoLL.refl _) | (refine qaaz ?_; omega) | (refine qaay ?_; first | omega | (simp_all; done)) | (with_reducible first | refine qaav ?_ ?_ | refine qaaq ?_ ?_) | fail)
  rintro J hJ i ⟨h5, h6⟩
  unfold qahy
  simp only [zT, puth, Nat.reduceEqDiff, reduceIte, Nat.reduceAdd] at h5 h6 ⊢
  rcases Nat.lt_or_ge i ws.length with hi | hi
  ·rw [qadq _ hi] at h6
   generalize hxx : ws[i] = x at h6
   have wi : IntKind.i64.wrap ((i : Int) + 1) = (i : Int) + 1 := qaa2 (by omega) (by omega)
   replace h6 := Lib.hid h6
   cases hv : wOut x
   ·have hv1 : decide (x < 1) = false ∧ decide (48 < x) = false := by simpa [wOut] using hv
    obtain ⟨v1, v2⟩ := hv1
    repeat' (first | (with_reducible first | refine zA ?_ | refine qaac ?_ | refine qaab ?_ | refine zK ?_) | ((with_reducible first | refine qaal ?_ | refine qaah (by rw [hP]; exact qaa4) ?_); (try rw [hP]); simp -implicitDefEqProofs [*]) | ((with_reducible first | refine qaaf ?_ | refine qaag ?_); (try simp -implicitDefEqProofs [*])) | ((with_reducible refine qaam ?_); (try simp only [qaas, qaad, qaaj])) | ((with_reducible refine qaae rfl (fun h => ?_) (fun h => ?_)) <;> have h' := h <;> (try simp at h') <;> (try subst h')) | ((with_reducible refine qaaa (fun h => ?_) (fun h => ?_)) <;> have h' := h <;> (try simp at h') <;> (try subst h') <;> simp -implicitDefEqProofs [*]) | ((with_reducible refine qaai ?_ ?_); (first | omega | (unfold maxLen; omega)); simp -implicitDefEqProofs [*]) | (with_reducible first | refine zM hm ?_ | refine zN hm ?_ | refine zO hm ?_ | refine zP hm ?_) | ((with_reducible refine qaar [] hm ?_ ?_ ?_ ?_) <;> (try simp only [zT, puth, Nat.reduceEqDiff, reduceIte, Nat.reduceAdd])) | (with_reducible first | refine za ?_ ?_ | refine zb ?_ ?_ ?_ ?_ | refine zc ?_ ?_ ?_ ?_ | refine zd ?_ ?_ ?_ ?_ | refine qaap ?_ ?_ | refine qaan ?_ ?_) | (with_reducible first | exact qaak | exact qaao | exact qaat | exact qaau | exact Co.refl _ | exact CoL.refl _ | exact CoLL.refl _) | ((with_reducible first | refine zga ?_ | refine zgb ?_); rfl) | ((with_reducible refine zgc ?_); (first | (with_reducible rfl) | rfl | (simp; done))) | ((with_reducible first | refine zgd ?_ | refine zge ?_); (first | omega | (simp; done))) | (refine qaaw ⟨?_, ?_⟩ ?_ <;> omega) | (exact Co.refl _) | (exact CoL.refl _) | (exact CoLL.refl _) | (refine qaaz ?_; omega) | (refine qaay ?_; first | omega | (simp_all; done)) | (with_reducible first | refine qaav ?_ ?_ | refine qaaq ?_ ?_) | ((refine qaax hJ (i + 1) ?_ ?_ ?_; (with_reducible refine qaar [] hm ?_ ?_ ?_ ?_) <;> (try simp only [zT, puth, Nat.reduceEqDiff, reduceIte, Nat.reduceAdd]))) | fail)
    exact ⟨by omega, by rw [h6.out, hv, Bool.false_or]⟩
   ·replace hv := Lib.hid hv
    repeat' (first | (with_reducible first | refine zA ?_ | refine qaac ?_ | refine qaab ?_ | refine zK ?_) | ((with_reducible first | refine qaal ?_ | refine qaah (by rw [hP]; exact qaa4) ?_); (try rw [hP]); simp -implicitDefEqProofs [*]) | ((with_reducible first | refine qaaf ?_ | refine qaag ?_); (try simp -implicitDefEqProofs [*])) | ((with_reducible refine qaam ?_); (try simp only [qaas, qaad, qaaj])) | ((with_reducible refine qaae rfl (fun h => ?_) (fun h => ?_)) <;> have h' := h <;> (try simp at h') <;> (try subst h')) | ((with_reducible refine qaaa (fun h => ?_) (fun h => ?_)) <;> have h' := h <;> (try simp at h') <;> (try subst h') <;> simp -implicitDefEqProofs [*]) | ((with_reducible refine qaai ?_ ?_); (first | omega | (unfold maxLen; omega)); simp -implicitDefEqProofs [*]) | (with_reducible first | refine zM hm ?_ | refine zN hm ?_ | refine zO hm ?_ | refine zP hm ?_) | ((with_reducible refine qaar [] hm ?_ ?_ ?_ ?_) <;> (try simp only [zT, puth, Nat.reduceEqDiff, reduceIte, Nat.reduceAdd])) | (with_reducible first | refine za ?_ ?_ | refine zb ?_ ?_ ?_ ?_ | refine zc ?_ ?_ ?_ ?_ | refine zd ?_ ?_ ?_ ?_ | refine qaap ?_ ?_ | refine qaan ?_ ?_) | (with_reducible first | exact qaak | exact qaao | exact qaat | exact qaau | exact Co.refl _ | exact CoL.refl _ | exact CoLL.refl _) | ((with_reducible first | refine zga ?_ | refine zgb ?_); rfl) | ((with_reducible refine zgc ?_); (first | (with_reducible rfl) | rfl | (simp; done))) | ((with_reducible first | refine zgd ?_ | refine zge ?_); (first | omega | (simp; done))) | (refine qaaw ⟨?_, ?_⟩ ?_ <;> omega) | (exact Co.refl _) | (exact CoL.refl _) | (exact CoLL.refl _) | (refine qaaz ?_; omega) | (refine qaay ?_; first | omega | (simp_all; done)) | (with_reducible first | refine qaav ?_ ?_ | refine qaaq ?_ ?_) | ((refine qaax hJ (i + 1) ?_ ?_ ?_; (with_reducible refine qaar [] hm ?_ ?_ ?_ ?_) <;> (try simp only [zT, puth, Nat.reduceEqDiff, reduceIte, Nat.reduceAdd]))) | fail)
    all_goals (first | (exfalso; have q := hv.out; simp only [wOut, Bool.or_eq_true, decide_eq_true_eq] at q; omega) | (rw [h6.out, hv.out]; rfl))
  ·obtain rfl : i = ws.length := by omega
   have h7 : F = if (t.acts.drop 0).any (aOut acts.length) = true then 1 else qagr t.acts acts t.def_ t.args := by rw [h6, List.drop_length]; rfl
   replace h7 := Lib.hid h7
   replace h6 := Lib.hid h6
   repeat' (first | (with_reducible first | refine zA ?_ | refine qaac ?_ | refine qaab ?_ | refine zK ?_) | ((with_reducible first | refine qaal ?_ | refine qaah (by rw [hP]; exact qaa4) ?_); (try rw [hP]); simp -implicitDefEqProofs [*]) | ((with_reducible first | refine qaaf ?_ | refine qaag ?_); (try simp -implicitDefEqProofs [*])) | ((with_reducible refine qaam ?_); (try simp only [qaas, qaad, qaaj])) | ((with_reducible refine qaae rfl (fun h => ?_) (fun h => ?_)) <;> have h' := h <;> (try simp at h') <;> (try subst h')) | ((with_reducible refine qaaa (fun h => ?_) (fun h => ?_)) <;> have h' := h <;> (try simp at h') <;> (try subst h') <;> simp -implicitDefEqProofs [*]) | ((with_reducible refine qaai ?_ ?_); (first | omega | (unfold maxLen; omega)); simp -implicitDefEqProofs [*]) | (with_reducible first | refine zM hm ?_ | refine zN hm ?_ | refine zO hm ?_ | refine zP hm ?_) | fail)
   refine qaa0 (qabi (fun s (i : Nat) => s.turn [(81, .int .i64 i)] []) (fun i => i ≤ t.acts.length ∧ (∀ k ∈ t.acts.take i, aOut acts.length k = false) ∧ F = if (t.acts.drop i).any (aOut acts.length) = true then 1 else qagr t.acts acts t.def_ t.args) (fun i => t.acts.length - i) 0 ?_ ⟨by simp, by simp, h7.out⟩ ?_)
   ·repeat' (first | ((with_reducible refine qaar [] hm ?_ ?_ ?_ ?_) <;> (try simp only [zT, puth, Nat.reduceEqDiff, reduceIte, Nat.reduceAdd])) | (with_reducible first | refine za ?_ ?_ | refine zb ?_ ?_ ?_ ?_ | refine zc ?_ ?_ ?_ ?_ | refine zd ?_ ?_ ?_ ?_ | refine qaap ?_ ?_ | refine qaan ?_ ?_) | (with_reducible first | exact qaak | exact qaao | exact qaat | exact qaau | exact Co.refl _ | exact CoL.refl _ | exact CoLL.refl _) | ((with_reducible first | refine zga ?_ | refine zgb ?_); rfl) | ((with_reducible refine zgc ?_); (first | (with_reducible rfl) | rfl | (simp; done))) | ((with_reducible first | refine zgd ?_ | refine zge ?_); (first | omega | (simp; done))) | (refine qaaw ⟨?_, ?_⟩ ?_ <;> omega) | (exact Co.refl _) | (exact CoL.refl _) | (exact CoLL.refl _) | (refine qaaz ?_; omega) | (refine qaay ?_; first | omega | (simp_all; done)) | (with_reducible first | refine qaav ?_ ?_ | refine qaaq ?_ ?_) | fail)
   rintro J hJ i ⟨h8, h9, h10⟩
   unfold qahx
   simp only [zT, puth, Nat.reduceEqDiff, reduceIte, Nat.reduceAdd] at h8 h9 h10 ⊢
   replace h9 := Lib.hid h9
   rcases Nat.lt_or_ge i t.acts.length with hi | hi
   ·rw [qadq _ hi] at h10
    have htk : t.acts.take (i + 1) = t.acts.take i ++ [t.acts[i]] := List.take_succ_eq_append_getElem hi
    generalize hxx : t.acts[i] = x at h10 htk
    have wi : IntKind.i64.wrap ((i : Int) + 1) = (i : Int) + 1 := qaa2 (by omega) (by omega)
    replace h10 := Lib.hid h10
    replace htk := Lib.hid htk
    cases hv : aOut acts.length x
    ·have hv1 : decide (x < 0) = false ∧ decide ((acts.length : Int) ≤ x) = false := by simpa [aOut] using hv
     obtain ⟨v1, v2⟩ := hv1
     replace hv := Lib.hid hv
     repeat' (first | (with_reducible first | refine zA ?_ | refine qaac ?_ | refine qaab ?_ | refine zK ?_) | ((with_reducible first | refine qaal ?_ | refine qaah (by rw [hP]; exact qaa4) ?_); (try rw [hP]); simp -implicitDefEqProofs [*]) | ((with_reducible first | refine qaaf ?_ | refine qaag ?_); (try simp -implicitDefEqProofs [*])) | ((with_reducible refine qaam ?_); (try simp only [qaas, qaad, qaaj])) | ((with_reducible refine qaae rfl (fun h => ?_) (fun h => ?_)) <;> have h' := h <;> (try simp at h') <;> (try subst h')) | ((with_reducible refine qaaa (fun h => ?_) (fun h => ?_)) <;> have h' := h <;> (try simp at h') <;> (try subst h') <;> simp -implicitDefEqProofs [*]) | ((with_reducible refine qaai ?_ ?_); (first | omega | (unfold maxLen; omega)); simp -implicitDefEqProofs [*]) | (with_reducible first | refine zM hm ?_ | refine zN hm ?_ | refine zO hm ?_ | refine zP hm ?_) | ((with_reducible refine qaar [] hm ?_ ?_ ?_ ?_) <;> (try simp only [zT, puth, Nat.reduceEqDiff, reduceIte, Nat.reduceAdd])) | (with_reducible first | refine za ?_ ?_ | refine zb ?_ ?_ ?_ ?_ | refine zc ?_ ?_ ?_ ?_ | refine zd ?_ ?_ ?_ ?_ | refine qaap ?_ ?_ | refine qaan ?_ ?_) | (with_reducible first | exact qaak | exact qaao | exact qaat | exact qaau | exact Co.refl _ | exact CoL.refl _ | exact CoLL.refl _) | ((with_reducible first | refine zga ?_ | refine zgb ?_); rfl) | ((with_reducible refine zgc ?_); (first | (with_reducible rfl) | rfl | (simp; done))) | ((with_reducible first | refine zgd ?_ | refine zge ?_); (first | omega | (simp; done))) | (refine qaaw ⟨?_, ?_⟩ ?_ <;> omega) | (exact Co.refl _) | (exact CoL.refl _) | (exact CoLL.refl _) | (refine qaaz ?_; omega) | (refine qaay ?_; first | omega | (simp_all; done)) | (with_reducible first | refine qaav ?_ ?_ | refine qaaq ?_ ?_) | ((refine qaax hJ (i + 1) ?_ ?_ ?_; (with_reducible refine qaar [] hm ?_ ?_ ?_ ?_) <;> (try simp only [zT, puth, Nat.reduceEqDiff, reduceIte, Nat.reduceAdd]))) | fail)
     refine ⟨by omega, fun k hk => ?_, by rw [h10.out, hv.out, Bool.false_or]⟩
     rw [htk.out, List.mem_append] at hk
     rcases hk with hk | hk
     ·exact h9.out k hk
     ·rw [List.mem_singleton.1 hk]; exact hv.out
    ·replace hv := Lib.hid hv
     repeat' (first | (with_reducible first | refine zA ?_ | refine qaac ?_ | refine qaab ?_ | refine zK ?_) | ((with_reducible first | refine qaal ?_ | refine qaah (by rw [hP]; exact qaa4) ?_); (try rw [hP]); simp -implicitDefEqProofs [*]) | ((with_reducible first | refine qaaf ?_ | refine qaag ?_); (try simp -implicitDefEqProofs [*])) | ((with_reducible refine qaam ?_); (try simp only [qaas, qaad, qaaj])) | ((with_reducible refine qaae rfl (fun h => ?_) (fun h => ?_)) <;> have h' := h <;> (try simp at h') <;> (try subst h')) | ((with_reducible refine qaaa (fun h => ?_) (fun h => ?_)) <;> have h' := h <;> (try simp at h') <;> (try subst h') <;> simp -implicitDefEqProofs [*]) | ((with_reducible refine qaai ?_ ?_); (first | omega | (unfold maxLen; omega)); simp -implicitDefEqProofs [*]) | (with_reducible first | refine zM hm ?_ | refine zN hm ?_ | refine zO hm ?_ | refine zP hm ?_) | ((with_reducible refine qaar [] hm ?_ ?_ ?_ ?_) <;> (try simp only [zT, puth, Nat.reduceEqDiff, reduceIte, Nat.reduceAdd])) | (with_reducible first | refine za ?_ ?_ | refine zb ?_ ?_ ?_ ?_ | refine zc ?_ ?_ ?_ ?_ | refine zd ?_ ?_ ?_ ?_ | refine qaap ?_ ?_ | refine qaan ?_ ?_) | (with_reducible first | exact qaak | exact qaao | exact qaat | exact qaau | exact Co.refl _ | exact CoL.refl _ | exact CoLL.refl _) | ((with_reducible first | refine zga ?_ | refine zgb ?_); rfl) | ((with_reducible refine zgc ?_); (first | (with_reducible rfl) | rfl | (simp; done))) | ((with_reducible first | refine zgd ?_ | refine zge ?_); (first | omega | (simp; done))) | (refine qaaw ⟨?_, ?_⟩ ?_ <;> omega) | (exact Co.refl _) | (exact CoL.refl _) | (exact CoLL.refl _) | (refine qaaz ?_; omega) | (refine qaay ?_; first | omega | (simp_all; done)) | (with_reducible first | refine qaav ?_ ?_ | refine qaaq ?_ ?_) | ((refine qaax hJ (i + 1) ?_ ?_ ?_; (with_reducible refine qaar [] hm ?_ ?_ ?_ ?_) <;> (try simp only [zT, puth, Nat.reduceEqDiff, reduceIte, Nat.reduceAdd]))) | fail)
     all_goals (first | (exfalso; have q := hv.out; simp only [aOut, Bool.or_eq_true, decide_eq_true_eq] at q; omega) | (rw [h10.out, hv.out]; rfl))
   ·obtain rfl : i = t.acts.length := by omega
    have h11 : ∀ k ∈ t.acts, 0 ≤ k ∧ k < acts.length := fun k hk => by
     have := h9.out k (by rw [List.take_length]; exact hk)
     unfold aOut at this; rw [Bool.or_eq_false_iff, decide_eq_false_iff_not, decide_eq_false_iff_not] at this; omega
    have h12 : F = qagr t.acts acts t.def_ t.args := by rw [h10, List.drop_length]; rfl
    have hs := hsays.out h11
    replace hs := Lib.hid hs
    replace h11 := Lib.hid h11
    replace h10 := Lib.hid h10
    replace h12 := Lib.hid h12
    repeat' (first | (with_reducible first | refine zA ?_ | refine qaac ?_ | refine qaab ?_ | refine zK ?_) | ((with_reducible first | refine qaal ?_ | refine qaah (by rw [hP]; exact qaa4) ?_); (try rw [hP]); simp -implicitDefEqProofs [*]) | ((with_reducible first | refine qaaf ?_ | refine qaag ?_); (try simp -implicitDefEqProofs [*])) | ((with_reducible refine qaam ?_); (try simp only [qaas, qaad, qaaj])) | ((with_reducible refine qaae rfl (fun h => ?_) (fun h => ?_)) <;> have h' := h <;> (try simp at h') <;> (try subst h')) | ((with_reducible refine qaaa (fun h => ?_) (fun h => ?_)) <;> have h' := h <;> (try simp at h') <;> (try subst h') <;> simp -implicitDefEqProofs [*]) | ((with_reducible refine qaai ?_ ?_); (first | omega | (unfold maxLen; omega)); simp -implicitDefEqProofs [*]) | (refine qabd (hs.out _) ?_; simp -implicitDefEqProofs [*]) | (with_reducible first | refine zM hm ?_ | refine zN hm ?_ | refine zO hm ?_ | refine zP hm ?_) | fail)
    rw [h12.out]
end Go.Proofs.Ytnfjldobjgdiaaa
namespace Go.Proofs.Ytnfjldobjgdiaaa
set_option linter.all false
open Go.RowKit
attribute [local simp] qabs qabr qaa5 qabc qaa6 qabb qabp qabq qaa1 qab3 SOp.run SX.ev putd puts argS upds SOp.touch SSt.keep SSt.skip gets geth puth delh idOf SV.cells? setL qadd qade sbin eq0 eq1 eqL qadc qacd qace qaas qabt qaad qabu qab4 qaaj qaa3 FrzOk qabl qabf qabj qabk qaa7 qabe qab0 qabg qaa9 qabm qaa8 frzS frzH frz frz1 frz0 SlotsM ObjsM ObjM rn ren ren1 ren0 qab9 qaay qaaz qab8 qab1 qacq qacp CoL qabn qacs dels adds idsH qacf
attribute [local simp] qad0 refc qafc qae1 qacn opc actc tabc qaeg qac1 nums jc
theorem qarm (p : PlanD) (t : TabD) (hl : t.keys.length ≤ 1000000) (q : Nat) : SCalls Try.prog 12 [.agg (qac1 p), .agg (tabc t)] [] q (nums .i64 (qacc p t)) [] := qabw (qbb7 p t hl) (fun _ => rfl) (fun _ => rfl) rfl q
theorem jtabs_s (p : PlanD) (hs : SmallP p) (a b : Int) (ha : a = 0 → AW p.acts) : SCalls Try.prog 35 [.ptr 0 0] [(0, .cells 78 (jc p a b))] 1 (.tup []) [(0, .cells 78 (jc p (orF (a, b) (qagc p)).1 (orF (a, b) (qagc p)).2))] := by
 refine qaba (N := 76) Try.func35 rfl rfl (by kernel_rfl) qam0 (by simp) (by repeat' (first | exact trivial | refine And.intro ?_ ?_ | rfl | decide | exact PureR.ren _)) (by repeat' (first | exact trivial | refine And.intro ?_ ?_ | rfl | decide | exact PureR.ren _)) ?_
 rintro X hP hN hm
 have hF : orF (a, b) (qagc p) = orF (qacl a b (decide (5 < (p.tabs.length : Int))) 2 (-5)) (rowF (fun _ t => tabF p t) 5000 0 p.tabs) := by
  unfold qagc; rw [qaec]; congr 3; exact propext (by omega)
 generalize orF (a, b) (qagc p) = F at hF
 replace hF := Lib.hid hF
 have hla := hs.tabs
 have hE : (qacl a b (decide (5 < (p.tabs.length : Int))) 2 (-5)).1 = 0 → AW p.acts := fun h => ha (by
  unfold qacl at h; by_cases h0 : a = 0
  ·exact h0
  ·rw [if_neg (fun hh => h0 hh.2)] at h; exact h)
 replace hE := Lib.hid hE
 replace ha := Lib.hid ha
 unfold c_jtabs
 repeat' (first | (with_reducible first | refine zA ?_ | refine qaac ?_ | refine qaab ?_ | refine zK ?_) | ((with_reducible first | refine qaal ?_ | refine qaah (by rw [hP]; exact qaa4) ?_); (try rw [hP]); simp -implicitDefEqProofs [*]) | ((with_reducible first | refine qaaf ?_ | refine qaag ?_); (try simp -implicitDefEqProofs [*])) | ((with_reducible refine qaam ?_); (try simp only [qaas, qaad, qaaj])) | ((with_reducible refine qaae rfl (fun h => ?_) (fun h => ?_)) <;> have h' := h <;> (try simp at h') <;> (try subst h')) | ((with_reducible refine qaaa (fun h => ?_) (fun h => ?_)) <;> have h' := h <;> (try simp at h') <;> (try subst h') <;> simp -implicitDefEqProofs [*]) | ((with_reducible refine qaai ?_ ?_); (first | omega | (unfold maxLen; omega)); simp -implicitDefEqProofs [*]) | (refine qacb (qabh p _ _ _ _ _ _ _ (by simp)) ⟨rfl, trivial⟩ ⟨rfl, trivial⟩ ?_; simp -implicitDefEqProofs [*]) | (with_reducible first | refine zM hm ?_ | refine zN hm ?_ | refine zO hm ?_ | refine zP hm ?_) | fail)
 refine qaa0 (qabi (fun s (x : Nat × Int × Int) => s.turn [(2, .int .i64 x.1)] [(0, .cells 78 (jc p x.2.1 x.2.2))]) (fun x => x.1 ≤ p.tabs.length ∧ (x.2.1 = 0 → AW p.acts) ∧ F = orF (x.2.1, x.2.2) (rowF (fun _ t => tabF p t) 5000 x.1 (p.tabs.drop x.1))) (fun x => p.tabs.length - x.1) (0, _, _) ?_ ⟨by simp, hE.out, hF⟩ ?_)
 ·repeat' (first | ((with_reducible refine qaar [] hm ?_ ?_ ?_ ?_) <;> (try simp only [zT, puth, Nat.reduceEqDiff, reduceIte, Nat.reduceAdd])) | (with_reducible first | refine za ?_ ?_ | refine zb ?_ ?_ ?_ ?_ | refine zc ?_ ?_ ?_ ?_ | refine zd ?_ ?_ ?_ ?_ | refine qaap ?_ ?_ | refine qaan ?_ ?_) | (with_reducible first | exact qaak | exact qaao | exact qaat | exact qaau | exact Co.refl _ | exact CoL.refl _ | exact CoLL.refl _) | ((with_reducible first | refine zga ?_ | refine zgb ?_); rfl) | ((with_reducible refine zgc ?_); (first | (with_reducible rfl) | rfl | (simp; done))) | ((with_reducible first | refine zgd ?_ | refine zge ?_); (first | omega | (simp; done))) | (refine qaaw ⟨?_, ?_⟩ ?_ <;> omega) | (exact Co.refl _) | (exact CoL.refl _) | (exact CoLL.refl _) | (refine qaaz ?_; omega) | (refine qaay ?_; first | omega | (simp_all; done)) | (with_reducible first | refine qaav ?_ ?_ | refine qaaq ?_ ?_) | fail)
 rintro J hJ ⟨i, e, g⟩ ⟨h1, h0, h2⟩
 unfold qak7
 simp only [zT, puth, Nat.reduceEqDiff, reduceIte, Nat.reduceAdd] at h1 h0 h2 ⊢
 rcases Nat.lt_or_ge i p.tabs.length with hi | hi
 ·have hxm : p.tabs[i] ∈ p.tabs := List.getElem_mem hi
  have hw := hs.keys _ hxm
  rw [qadl _ _ hi] at h2
  generalize hxx : p.tabs[i] = x at h2 hw
  by_cases he : e = 0
  ·subst he
   rw [qaeh] at h2
   have wi : IntKind.i64.wrap ((i : Int) + 1) = (i : Int) + 1 := qaa2 (by omega) (by omega)
   have wa : IntKind.i64.wrap (5000 + (i : Int)) = 5000 + (i : Int) := qaa2 (by omega) (by omega)
   have hAW := h0 rfl
   have hlw : (qacc p x).length ≤ 1000000 := by unfold qacc; rw [List.length_map]; omega
   have hla2 := hs.acts
   have hc1 := fun q => qbca x (qacc p x) p.acts hAW (by omega) (by omega) hlw (by omega) q
   have hc2 := fun q => qag0 (qacc p x) 0 hlw q
   have hc3 := fun q => qarm p x (by omega) q
   have hA : orF (0, g) (tabF p x, 5000 + (i : Int)) = orF (qacl (qacl 0 g (decide (3 < (x.keys.length : Int))) 2 (5000 + i)).1 (qacl 0 g (decide (3 < (x.keys.length : Int))) 2 (5000 + i)).2 ((qacc p x).contains 0) 1 (5000 + i)) (qadn x (qacc p x) p.acts, 5000 + (i : Int)) := by
    have : tabF p x = if decide (3 < (x.keys.length : Int)) = true then 2 else if (qacc p x).contains 0 = true then 1 else qadn x (qacc p x) p.acts := by
     unfold tabF; simp only [decide_eq_true_eq]; congr 1; exact propext (by omega)
    rw [this, qac0 _ _ _ _ _ _ (by decide)]
    exact qac0 _ _ _ _ _ _ (by decide)
   generalize orF (0, g) (tabF p x, 5000 + (i : Int)) = A at hA h2
   generalize qadn x (qacc p x) p.acts = T at hA hc1
   generalize (qacc p x).contains 0 = C at hA hc2
   generalize qacc p x = W at hc1 hc2 hc3
   rw [← qai2] at hA
   have kT : (T != 0) = decide (T ≠ 0) := by rw [Bool.eq_iff_iff]; simp
   unfold qadv at hA
   rw [← kT] at hA
   replace hAW := Lib.hid hAW
   replace h0 := Lib.hid h0
   replace hA := Lib.hid hA
   replace h2 := Lib.hid h2
   replace hc1 := Lib.hid hc1
   replace hc2 := Lib.hid hc2
   replace hc3 := Lib.hid hc3
   clear kT
   repeat' (first | (with_reducible first | refine zA ?_ | refine qaac ?_ | refine qaab ?_ | refine zK ?_) | ((with_reducible first | refine qaal ?_ | refine qaah (by rw [hP]; exact qaa4) ?_); (try rw [hP]); simp -implicitDefEqProofs [*]) | ((with_reducible first | refine qaaf ?_ | refine qaag ?_); (try simp -implicitDefEqProofs [*])) | ((with_reducible refine qaam ?_); (try simp only [qaas, qaad, qaaj])) | ((with_reducible refine qaae rfl (fun h => ?_) (fun h => ?_)) <;> have h' := h <;> (try simp at h') <;> (try subst h')) | ((with_reducible refine qaaa (fun h => ?_) (fun h => ?_)) <;> have h' := h <;> (try simp at h') <;> (try subst h') <;> simp -implicitDefEqProofs [*]) | ((with_reducible refine qaai ?_ ?_); (first | omega | (unfold maxLen; omega)); simp -implicitDefEqProofs [*]) | ((first | refine qacb (qabh p _ _ _ _ _ _ _ (by simp)) ⟨rfl, trivial⟩ ⟨rfl, trivial⟩ ?_ | refine qabd (hc1.out _) ?_ | refine qabd (hc2.out _) ?_ | refine qabd (hc3.out _) ?_); simp -implicitDefEqProofs [*]) | (with_reducible first | refine zM hm ?_ | refine zN hm ?_ | refine zO hm ?_ | refine zP hm ?_) | ((with_reducible refine qaar [] hm ?_ ?_ ?_ ?_) <;> (try simp only [zT, puth, Nat.reduceEqDiff, reduceIte, Nat.reduceAdd])) | (with_reducible first | refine za ?_ ?_ | refine zb ?_ ?_ ?_ ?_ | refine zc ?_ ?_ ?_ ?_ | refine zd ?_ ?_ ?_ ?_ | refine qaap ?_ ?_ | refine qaan ?_ ?_) | (with_reducible first | exact qaak | exact qaao | exact qaat | exact qaau | exact Co.refl _ | exact CoL.refl _ | exact CoLL.refl _) | ((with_reducible first | refine zga ?_ | refine zgb ?_); rfl) | ((with_reducible refine zgc ?_); (first | (with_reducible rfl) | rfl | (simp; done))) | ((with_reducible first | refine zgd ?_ | refine zge ?_); (first | omega | (simp; done))) | (refine qaaw ⟨?_, ?_⟩ ?_ <;> omega) | (exact Co.refl _) | (exact CoL.refl _) | (exact CoLL.refl _) | (refine qaaz ?_; omega) | (refine qaay ?_; first | omega | (simp_all; done)) | (with_reducible first | refine qaav ?_ ?_ | refine qaaq ?_ ?_) | ((refine qaax hJ (i + 1, ?_, ?_) ?_ ?_ ?_; rotate_left 2; (with_reducible refine qaar [] hm ?_ ?_ ?_ ?_) <;> (try simp only [zT, puth, Nat.reduceEqDiff, reduceIte, Nat.reduceAdd]))) | fail)
   all_goals (try dsimp only)
   all_goals (refine ⟨by omega, fun _ => hAW.out, ?_⟩; rw [h2.out]; congr 1; try exact hA.out)
  ·have ke : (e == 0) = false := by simpa using he
   replace h2 := Lib.hid h2
   replace h0 := Lib.hid h0
   repeat' (first | (with_reducible first | refine zA ?_ | refine qaac ?_ | refine qaab ?_ | refine zK ?_) | ((with_reducible first | refine qaal ?_ | refine qaah (by rw [hP]; exact qaa4) ?_); (try rw [hP]); simp -implicitDefEqProofs [*]) | ((with_reducible first | refine qaaf ?_ | refine qaag ?_); (try simp -implicitDefEqProofs [*])) | ((with_reducible refine qaam ?_); (try simp only [qaas, qaad, qaaj])) | ((with_reducible refine qaae rfl (fun h => ?_) (fun h => ?_)) <;> have h' := h <;> (try simp at h') <;> (try subst h')) | ((with_reducible refine qaaa (fun h => ?_) (fun h => ?_)) <;> have h' := h <;> (try simp at h') <;> (try subst h') <;> simp -implicitDefEqProofs [*]) | ((with_reducible refine qaai ?_ ?_); (first | omega | (unfold maxLen; omega)); simp -implicitDefEqProofs [*]) | (with_reducible first | refine zM hm ?_ | refine zN hm ?_ | refine zO hm ?_ | refine zP hm ?_) | (refine qacw hm rfl ?_ (fun σ => rfl)) | fail)
   rw [h2.out, qafj he]
 ·obtain rfl : i = p.tabs.length := by omega
  rw [List.drop_length] at h2
  replace h2 := Lib.hid h2
  replace h0 := Lib.hid h0
  repeat' (first | (with_reducible first | refine zA ?_ | refine qaac ?_ | refine qaab ?_ | refine zK ?_) | ((with_reducible first | refine qaal ?_ | refine qaah (by rw [hP]; exact qaa4) ?_); (try rw [hP]); simp -implicitDefEqProofs [*]) | ((with_reducible first | refine qaaf ?_ | refine qaag ?_); (try simp -implicitDefEqProofs [*])) | ((with_reducible refine qaam ?_); (try simp only [qaas, qaad, qaaj])) | ((with_reducible refine qaae rfl (fun h => ?_) (fun h => ?_)) <;> have h' := h <;> (try simp at h') <;> (try subst h')) | ((with_reducible refine qaaa (fun h => ?_) (fun h => ?_)) <;> have h' := h <;> (try simp at h') <;> (try subst h') <;> simp -implicitDefEqProofs [*]) | ((with_reducible refine qaai ?_ ?_); (first | omega | (unfold maxLen; omega)); simp -implicitDefEqProofs [*]) | (with_reducible first | refine zM hm ?_ | refine zN hm ?_ | refine zO hm ?_ | refine zP hm ?_) | (refine qacw hm rfl ?_ (fun σ => rfl)) | fail)
  rw [h2.out, qact _ rfl]
end Go.Proofs.Ytnfjldobjgdiaaa
namespace Go.Proofs.Ytnfjldobjgdiaaa
set_option linter.all false
open Go.RowKit
attribute [local simp] qabs qabr qaa5 qabc qaa6 qabb qabp qabq qaa1 qab3 SOp.run SX.ev putd puts argS upds SOp.touch SSt.keep SSt.skip gets geth puth delh idOf SV.cells? setL qadd qade sbin eq0 eq1 eqL qadc qacd qace qaas qabt qaad qabu qab4 qaaj qaa3 FrzOk qabl qabf qabj qabk qaa7 qabe qab0 qabg qaa9 qabm qaa8 frzS frzH frz frz1 frz0 SlotsM ObjsM ObjM rn ren ren1 ren0 qab9 qaay qaaz qab8 qab1 qacq qacp CoL qabn qacs dels adds idsH qacf
attribute [local simp] qad0 refc qafc qae1 qacn opc actc tabc qaeg qac1 nums jc
theorem qab5 (g c at_ : Int) : qacl 0 g true c at_ = (c, at_) := rfl
theorem qabx (a b c at_ : Int) : qacl a b false c at_ = (a, b) := by simp [qacl]
theorem qae2 (p : PlanD) (i to_ e g R at_ : Int) : orF (e, g) (if toF p i to_ = 0 then R else toF p i to_, at_) = orF (qacl (qacl e g (decide (to_ < 0) || decide ((p.nodes.length : Int) < to_)) 1 at_).1 (qacl e g (decide (to_ < 0) || decide ((p.nodes.length : Int) < to_)) 1 at_).2 (decide (to_ ≤ i)) 11 at_) (R, at_) := by
 unfold toF orF qacl
 by_cases h1 : to_ < 0 <;> by_cases h2 : (p.nodes.length : Int) < to_ <;> by_cases h3 : to_ ≤ i <;> by_cases he : e = 0 <;> by_cases hr : R = 0 <;> simp [h1, h2, h3, he, hr]
def qaq8 (p : PlanD) (i : Int) (n : NodeD) : Int :=
 if n.kind = 1 then (if (decide (n.n < 0) || decide ((p.tabs.length : Int) ≤ n.n)) = true then 1 else qaco (toF p i) ([n.yes].drop 0))
 else if n.kind = 2 then (if (decide (n.n < 0) || decide ((p.acts.length : Int) ≤ n.n)) = true then 1 else if decide (0 < ((actW p.acts n.n).length : Int)) = true then 2 else qaco (toF p i) ([n.yes].drop 0))
 else if n.kind = 3 then (if qafd p n.e [] = 0 then qaco (toF p i) ([n.yes, n.no].drop 0) else qafd p n.e [])
 else if n.kind = 4 then (if (!qac8 p n.n) = true then 1 else qaco (toF p i) ([n.yes, n.no].drop 0))
 else 5
theorem first1 (f : Int → Int) (x : Int) : qaco f ([x].drop 0) = f x := by
 unfold qaco; simp only [List.drop_zero]; unfold qaco
 by_cases h : f x = 0 <;> simp [h]
theorem first2 (f : Int → Int) (x y : Int) : qaco f ([x, y].drop 0) = if f x ≠ 0 then f x else f y := by
 simp only [List.drop_zero, qaco]
 by_cases h : f x = 0 <;> by_cases h2 : f y = 0 <;> simp [h, h2]
theorem qap0 (p : PlanD) (i : Int) (n : NodeD) : qaq9 p i n = qaq8 p i n := by
 have e1 : ∀ (b c : Prop) [Decidable b] [Decidable c], ((decide b || decide c) = true) = (b ∨ c) := fun b c _ _ => by simp
 unfold qaq9 qaq8
 by_cases k1 : n.kind = 1
 ·rw [if_pos k1, if_pos k1, first1]; simp only [e1]
 rw [if_neg k1, if_neg k1]
 by_cases k2 : n.kind = 2
 ·rw [if_pos k2, if_pos k2, first1]; simp only [e1, decide_eq_true_eq]
  have : (0 < (actW p.acts n.n).length) = (0 < ((actW p.acts n.n).length : Int)) := propext (by omega)
  simp only [this]
 rw [if_neg k2, if_neg k2]
 by_cases k3 : n.kind = 3
 ·rw [if_pos k3, if_pos k3, first2]; simp only [ne_eq, ite_not]
 rw [if_neg k3, if_neg k3]
 by_cases k4 : n.kind = 4
 ·rw [if_pos k4, if_pos k4, first2]
  cases qac8 p n.n <;> rfl
 rw [if_neg k4, if_neg k4]
def qado (p : PlanD) (i : Int) (l : List Int) : Int := qaco (toF p i) l
set_option maxHeartbeats 8000000 in
theorem qbc9 (p : PlanD) (hs : SmallP p) (a b : Int) : SCalls Try.prog 36 [.ptr 0 0] [(0, .cells 78 (jc p a b))] 1 (.tup []) [(0, .cells 78 (jc p (orF (a, b) (qadk p)).1 (orF (a, b) (qadk p)).2))] := by
 refine qaba (N := 162) Try.func36 rfl rfl (by kernel_rfl) qaj0 (by simp) (by repeat' (first | exact trivial | refine And.intro ?_ ?_ | rfl | decide | exact PureR.ren _)) (by repeat' (first | exact trivial | refine And.intro ?_ ?_ | rfl | decide | exact PureR.ren _)) ?_
 rintro X hP hN hm
 have hF : orF (a, b) (qadk p) = orF (qacl a b (decide (10 < (p.nodes.length : Int))) 2 (-6)) (rowF (fun i n => qaq9 p i n) 6000 0 p.nodes) := by
  unfold qadk; rw [qaec]; congr 3; exact propext (by omega)
 generalize orF (a, b) (qadk p) = F at hF
 replace hF := Lib.hid hF
 have hla := hs.nodes
 have hla2 := hs.acts
 unfold c_jnodes
 repeat' (first | (with_reducible first | refine zA ?_ | refine qaac ?_ | refine qaab ?_ | refine zK ?_) | ((with_reducible first | refine qaal ?_ | refine qaah (by rw [hP]; exact qaa4) ?_); (try rw [hP]); simp -implicitDefEqProofs [*]) | ((with_reducible first | refine qaaf ?_ | refine qaag ?_); (try simp -implicitDefEqProofs [*])) | ((with_reducible refine qaam ?_); (try simp only [qaas, qaad, qaaj])) | ((with_reducible refine qaae rfl (fun h => ?_) (fun h => ?_)) <;> have h' := h <;> (try simp at h') <;> (try subst h')) | ((with_reducible refine qaaa (fun h => ?_) (fun h => ?_)) <;> have h' := h <;> (try simp at h') <;> (try subst h') <;> simp -implicitDefEqProofs [*]) | ((with_reducible refine qaai ?_ ?_); (first | omega | (unfold maxLen; omega)); simp -implicitDefEqProofs [*]) | (refine qacb (qabh p _ _ _ _ _ _ _ (by simp)) ⟨rfl, trivial⟩ ⟨rfl, trivial⟩ ?_; simp -implicitDefEqProofs [*]) | (with_reducible first | refine zM hm ?_ | refine zN hm ?_ | refine zO hm ?_ | refine zP hm ?_) | fail)
 refine qaa0 (qabi (fun s (x : Nat × Int × Int) => s.turn [(2, .int .i64 x.1)] [(0, .cells 78 (jc p x.2.1 x.2.2))]) (fun x => x.1 ≤ p.nodes.length ∧ F = orF (x.2.1, x.2.2) (rowF (fun i n => qaq9 p i n) 6000 x.1 (p.nodes.drop x.1))) (fun x => p.nodes.length - x.1) (0, _, _) ?_ ⟨by simp, hF⟩ ?_)
 ·repeat' (first | ((with_reducible refine qaar [] hm ?_ ?_ ?_ ?_) <;> (try simp only [zT, puth, Nat.reduceEqDiff, reduceIte, Nat.reduceAdd])) | (with_reducible first | refine za ?_ ?_ | refine zb ?_ ?_ ?_ ?_ | refine zc ?_ ?_ ?_ ?_ | refine zd ?_ ?_ ?_ ?_ | refine qaap ?_ ?_ | refine qaan ?_ ?_) | (with_reducible first | exact qaak | exact qaao | exact qaat | exact qaau | exact Co.refl _ | exact CoL.refl _ | exact CoLL.refl _) | ((with_reducible first | refine zga ?_ | refine zgb ?_); rfl) | ((with_reducible refine zgc ?_); (first | (with_reducible rfl) | rfl | (simp; done))) | ((with_reducible first | refine zgd ?_ | refine zge ?_); (first | omega | (simp; done))) | (refine qaaw ⟨?_, ?_⟩ ?_ <;> omega) | (exact Co.refl _) | (exact CoL.refl _) | (exact CoLL.refl _) | (refine qaaz ?_; omega) | (refine qaay ?_; first | omega | (simp_all; done)) | (with_reducible first | refine qaav ?_ ?_ | refine qaaq ?_ ?_) | fail)
 rintro J hJ ⟨i, e, g⟩ ⟨h1, h2⟩
 have hJo := hJ
 unfold qaif
 simp only [zT, puth, Nat.reduceEqDiff, reduceIte, Nat.reduceAdd] at h1 h2 ⊢
 rcases Nat.lt_or_ge i p.nodes.length with hi | hi
 ·have hxm : p.nodes[i] ∈ p.nodes := List.getElem_mem hi
  have hw := hs.node _ hxm
  rw [qadl _ _ hi] at h2
  generalize hxx : p.nodes[i] = x at h2 hw
  by_cases he : e = 0
  ·subst he
   rw [qaeh] at h2
   have wi : IntKind.i64.wrap ((i : Int) + 1) = (i : Int) + 1 := qaa2 (by omega) (by omega)
   have wa : IntKind.i64.wrap (6000 + (i : Int)) = 6000 + (i : Int) := qaa2 (by omega) (by omega)
   have hA : orF (0, g) (qaq9 p i x, 6000 + (i : Int)) = orF (0, g) (qaq8 p i x, 6000 + (i : Int)) := by rw [qap0]
   generalize orF (0, g) (qaq9 p i x, 6000 + (i : Int)) = A at hA h2
   replace h2 := Lib.hid h2
   unfold qaq8 at hA
   have kinds : (x.kind = 1 ∨ x.kind = 2) ∨ (¬ x.kind = 1 ∧ ¬ x.kind = 2) := by omega
   rcases kinds with k | ⟨kn1, kn2⟩
   ·have hA2 : (x.kind = 1 ∧ A = orF (qacl 0 g (decide (x.n < 0) || decide ((p.tabs.length : Int) ≤ x.n)) 1 (6000 + i)) (qado p i ([x.yes].drop 0), 6000 + (i : Int))) ∨ (x.kind = 2 ∧ x.n < 0 ∧ A = (1, 6000 + (i : Int))) ∨ (x.kind = 2 ∧ (p.acts.length : Int) ≤ x.n ∧ 0 ≤ x.n ∧ A = (1, 6000 + (i : Int))) ∨ (x.kind = 2 ∧ 0 ≤ x.n ∧ x.n < p.acts.length ∧ A = orF (qacl 0 g (decide (0 < ((actW p.acts x.n).length : Int))) 2 (6000 + i)) (qado p i ([x.yes].drop 0), 6000 + (i : Int))) := by
     rcases k with k | k
     ·rw [if_pos k, qac0 _ _ _ _ _ _ (by decide)] at hA
      exact .inl ⟨k, hA⟩
     ·rw [if_neg (by omega), if_pos k] at hA
      by_cases n1 : x.n < 0
      ·refine .inr (.inl ⟨k, n1, ?_⟩)
       rw [hA, if_pos (by simp [n1])]; rfl
      ·by_cases n2 : (p.acts.length : Int) ≤ x.n
       ·refine .inr (.inr (.inl ⟨k, n2, by omega, ?_⟩))
        rw [hA, if_pos (by simp [n2])]; rfl
       ·refine .inr (.inr (.inr ⟨k, by omega, by omega, ?_⟩))
        rw [hA, if_neg (by simp [n1, n2]), qac0 _ _ _ _ _ _ (by decide)]; rfl
    clear hA k
    rcases hA2 with ⟨k, hA⟩ | ⟨k, n1, hA⟩ | ⟨k, n2, n1, hA⟩ | ⟨k, n1, n2, hA⟩
    ·have k1 : (x.kind == 1) = true := by simpa using k
     replace k := Lib.hid k
     cases kn : decide (x.n < 0) <;> simp only [kn, Bool.true_or, Bool.false_or] at hA <;> have hI := hA <;> replace hI := Lib.hid hI <;> clear hA
     all_goals
      repeat' (first | (with_reducible first | refine zA ?_ | refine qaac ?_ | refine qaab ?_ | refine zK ?_) | ((with_reducible first | refine qaal ?_ | refine qaah (by rw [hP]; exact qaa4) ?_); (try rw [hP]); simp -implicitDefEqProofs [qab5, qabx, *]) | ((with_reducible first | refine qaaf ?_ | refine qaag ?_); (try simp -implicitDefEqProofs [qab5, qabx, *])) | ((with_reducible refine qaam ?_); (try simp only [qaas, qaad, qaaj])) | ((with_reducible refine qaae rfl (fun h => ?_) (fun h => ?_)) <;> have h' := h <;> (try simp at h') <;> (try subst h')) | ((with_reducible refine qaaa (fun h => ?_) (fun h => ?_)) <;> have h' := h <;> (try simp at h') <;> (try subst h') <;> simp -implicitDefEqProofs [qab5, qabx, *]) | ((with_reducible refine qaai ?_ ?_); (first | omega | (unfold maxLen; omega)); simp -implicitDefEqProofs [qab5, qabx, *]) | (refine qacb (qabh p _ _ _ _ _ _ _ (by simp)) ⟨rfl, trivial⟩ ⟨rfl, trivial⟩ ?_; simp -implicitDefEqProofs [qab5, qabx, *]) | (with_reducible first | refine zM hm ?_ | refine zN hm ?_ | refine zO hm ?_ | refine zP hm ?_) | fail)
      refine qaa0 (qabi (fun s (y : Nat × Int × Int) => s.turn [(136, .int .i64 y.1)] [(0, .cells 78 (jc p y.2.1 y.2.2))]) (fun y => y.1 ≤ 1 ∧ A = orF (y.2.1, y.2.2) (qado p i ([x.yes].drop y.1), 6000 + (i : Int))) (fun y => 1 - y.1) (0, _, _) ?_ ⟨by simp, hI.out⟩ ?_)
      ·repeat' (first | ((with_reducible refine qaar [] hm ?_ ?_ ?_ ?_) <;> (try simp only [zT, puth, Nat.reduceEqDiff, reduceIte, Nat.reduceAdd])) | (with_reducible first | refine za ?_ ?_ | refine zb ?_ ?_ ?_ ?_ | refine zc ?_ ?_ ?_ ?_ | refine zd ?_ ?_ ?_ ?_ | refine qaap ?_ ?_ | refine qaan ?_ ?_) | (with_reducible first | exact qaak | exact qaao | exact qaat | exact qaau | exact Co.refl _ | exact CoL.refl _ | exact CoLL.refl _) | ((with_reducible first | refine zga ?_ | refine zgb ?_); rfl) | ((with_reducible refine zgc ?_); (first | (with_reducible rfl) | rfl | (simp; done))) | ((with_reducible first | refine zgd ?_ | refine zge ?_); (first | omega | (simp; done))) | (refine qaaw ⟨?_, ?_⟩ ?_ <;> omega) | (exact Co.refl _) | (exact CoL.refl _) | (exact CoLL.refl _) | (refine qaaz ?_; omega) | (refine qaay ?_; first | omega | (simp_all; done)) | (with_reducible first | refine qaav ?_ ?_ | refine qaaq ?_ ?_) | fail)
      rintro J hJ ⟨k, e1, g1⟩ ⟨h3, h4⟩
      unfold qadb
      simp only [zT, puth, Nat.reduceEqDiff, reduceIte, Nat.reduceAdd] at h3 h4 ⊢
      have hk : k = 0 ∨ k = 1 := by omega
      rcases hk with rfl | rfl
      ·have h5 := h4.trans (qae2 p i x.yes e1 g1 (qado p i []) (6000 + (i : Int)))
       clear h4
       cases kd : decide (x.yes < 0) <;> simp only [kd, Bool.true_or, Bool.false_or] at h5 <;> replace h5 := Lib.hid h5
       all_goals
        repeat' (first | (with_reducible first | refine zA ?_ | refine qaac ?_ | refine qaab ?_ | refine zK ?_) | ((with_reducible first | refine qaal ?_ | refine qaah (by rw [hP]; exact qaa4) ?_); (try rw [hP]); simp -implicitDefEqProofs [*]) | ((with_reducible first | refine qaaf ?_ | refine qaag ?_); (try simp -implicitDefEqProofs [*])) | ((with_reducible refine qaam ?_); (try simp only [qaas, qaad, qaaj])) | ((with_reducible refine qaae rfl (fun h => ?_) (fun h => ?_)) <;> have h' := h <;> (try simp at h') <;> (try subst h')) | ((with_reducible refine qaaa (fun h => ?_) (fun h => ?_)) <;> have h' := h <;> (try simp at h') <;> (try subst h') <;> simp -implicitDefEqProofs [*]) | ((with_reducible refine qaai ?_ ?_); (first | omega | (unfold maxLen; omega)); simp -implicitDefEqProofs [*]) | (refine qacb (qabh p _ _ _ _ _ _ _ (by simp)) ⟨rfl, trivial⟩ ⟨rfl, trivial⟩ ?_; simp -implicitDefEqProofs [*]) | (with_reducible first | refine zM hm ?_ | refine zN hm ?_ | refine zO hm ?_ | refine zP hm ?_) | ((with_reducible refine qaar [] hm ?_ ?_ ?_ ?_) <;> (try simp only [zT, puth, Nat.reduceEqDiff, reduceIte, Nat.reduceAdd])) | (with_reducible first | refine za ?_ ?_ | refine zb ?_ ?_ ?_ ?_ | refine zc ?_ ?_ ?_ ?_ | refine zd ?_ ?_ ?_ ?_ | refine qaap ?_ ?_ | refine qaan ?_ ?_) | (with_reducible first | exact qaak | exact qaao | exact qaat | exact qaau | exact Co.refl _ | exact CoL.refl _ | exact CoLL.refl _) | ((with_reducible first | refine zga ?_ | refine zgb ?_); rfl) | ((with_reducible refine zgc ?_); (first | (with_reducible rfl) | rfl | (simp; done))) | ((with_reducible first | refine zgd ?_ | refine zge ?_); (first | omega | (simp; done))) | (refine qaaw ⟨?_, ?_⟩ ?_ <;> omega) | (exact Co.refl _) | (exact CoL.refl _) | (exact CoLL.refl _) | (refine qaaz ?_; omega) | (refine qaay ?_; first | omega | (simp_all; done)) | (with_reducible first | refine qaav ?_ ?_ | refine qaaq ?_ ?_) | ((refine qaax hJ (1, ?_, ?_) ?_ ?_ ?_; rotate_left 2; (with_reducible refine qaar [] hm ?_ ?_ ?_ ?_) <;> (try simp only [zT, puth, Nat.reduceEqDiff, reduceIte, Nat.reduceAdd]))) | fail)
        all_goals (try dsimp only)
        all_goals (exact ⟨by omega, h5.out⟩)
      ·replace h4 := Lib.hid h4
       repeat' (first | (with_reducible first | refine zA ?_ | refine qaac ?_ | refine qaab ?_ | refine zK ?_) | ((with_reducible first | refine qaal ?_ | refine qaah (by rw [hP]; exact qaa4) ?_); (try rw [hP]); simp -implicitDefEqProofs [*]) | ((with_reducible first | refine qaaf ?_ | refine qaag ?_); (try simp -implicitDefEqProofs [*])) | ((with_reducible refine qaam ?_); (try simp only [qaas, qaad, qaaj])) | ((with_reducible refine qaae rfl (fun h => ?_) (fun h => ?_)) <;> have h' := h <;> (try simp at h') <;> (try subst h')) | ((with_reducible refine qaaa (fun h => ?_) (fun h => ?_)) <;> have h' := h <;> (try simp at h') <;> (try subst h') <;> simp -implicitDefEqProofs [*]) | ((with_reducible refine qaai ?_ ?_); (first | omega | (unfold maxLen; omega)); simp -implicitDefEqProofs [*]) | (with_reducible first | refine zM hm ?_ | refine zN hm ?_ | refine zO hm ?_ | refine zP hm ?_) | ((with_reducible refine qaar [] hm ?_ ?_ ?_ ?_) <;> (try simp only [zT, puth, Nat.reduceEqDiff, reduceIte, Nat.reduceAdd])) | (with_reducible first | refine za ?_ ?_ | refine zb ?_ ?_ ?_ ?_ | refine zc ?_ ?_ ?_ ?_ | refine zd ?_ ?_ ?_ ?_ | refine qaap ?_ ?_ | refine qaan ?_ ?_) | (with_reducible first | exact qaak | exact qaao | exact qaat | exact qaau | exact Co.refl _ | exact CoL.refl _ | exact CoLL.refl _) | ((with_reducible first | refine zga ?_ | refine zgb ?_); rfl) | ((with_reducible refine zgc ?_); (first | (with_reducible rfl) | rfl | (simp; done))) | ((with_reducible first | refine zgd ?_ | refine zge ?_); (first | omega | (simp; done))) | (refine qaaw ⟨?_, ?_⟩ ?_ <;> omega) | (exact Co.refl _) | (exact CoL.refl _) | (exact CoLL.refl _) | (refine qaaz ?_; omega) | (refine qaay ?_; first | omega | (simp_all; done)) | (with_reducible first | refine qaav ?_ ?_ | refine qaaq ?_ ?_) | ((refine qaax hJo (i + 1, ?_, ?_) ?_ ?_ ?_; rotate_left 2; (with_reducible refine qaar [] hm ?_ ?_ ?_ ?_) <;> (try simp only [zT, puth, Nat.reduceEqDiff, reduceIte, Nat.reduceAdd]))) | fail)
       all_goals (try dsimp only)
       all_goals (refine ⟨by omega, ?_⟩; rw [h2.out]; congr 1; rw [h4.out]; exact qact _ rfl)
    ·have k1 : (x.kind == 1) = false := by rw [k]; rfl
     have k2 : (x.kind == 2) = true := by simpa using k
     have kn : decide (x.n < 0) = true := by simpa using n1
     have hI : A = orF (1, 6000 + (i : Int)) (qado p i ([x.yes].drop 0), 6000 + (i : Int)) := hA
     clear k n1 hA
     replace hI := Lib.hid hI
     repeat' (first | (with_reducible first | refine zA ?_ | refine qaac ?_ | refine qaab ?_ | refine zK ?_) | ((with_reducible first | refine qaal ?_ | refine qaah (by rw [hP]; exact qaa4) ?_); (try rw [hP]); simp -implicitDefEqProofs [qab5, qabx, *]) | ((with_reducible first | refine qaaf ?_ | refine qaag ?_); (try simp -implicitDefEqProofs [qab5, qabx, *])) | ((with_reducible refine qaam ?_); (try simp only [qaas, qaad, qaaj])) | ((with_reducible refine qaae rfl (fun h => ?_) (fun h => ?_)) <;> have h' := h <;> (try simp at h') <;> (try subst h')) | ((with_reducible refine qaaa (fun h => ?_) (fun h => ?_)) <;> have h' := h <;> (try simp at h') <;> (try subst h') <;> simp -implicitDefEqProofs [qab5, qabx, *]) | ((with_reducible refine qaai ?_ ?_); (first | omega | (unfold maxLen; omega)); simp -implicitDefEqProofs [qab5, qabx, *]) | (refine qacb (qabh p _ _ _ _ _ _ _ (by simp)) ⟨rfl, trivial⟩ ⟨rfl, trivial⟩ ?_; simp -implicitDefEqProofs [qab5, qabx, *]) | (with_reducible first | refine zM hm ?_ | refine zN hm ?_ | refine zO hm ?_ | refine zP hm ?_) | fail)
     refine qaa0 (qabi (fun s (y : Nat × Int × Int) => s.turn [(136, .int .i64 y.1)] [(0, .cells 78 (jc p y.2.1 y.2.2))]) (fun y => y.1 ≤ 1 ∧ A = orF (y.2.1, y.2.2) (qado p i ([x.yes].drop y.1), 6000 + (i : Int))) (fun y => 1 - y.1) (0, _, _) ?_ ⟨by simp, hI.out⟩ ?_)
     ·repeat' (first | ((with_reducible refine qaar [] hm ?_ ?_ ?_ ?_) <;> (try simp only [zT, puth, Nat.reduceEqDiff, reduceIte, Nat.reduceAdd])) | (with_reducible first | refine za ?_ ?_ | refine zb ?_ ?_ ?_ ?_ | refine zc ?_ ?_ ?_ ?_ | refine zd ?_ ?_ ?_ ?_ | refine qaap ?_ ?_ | refine qaan ?_ ?_) | (with_reducible first | exact qaak | exact qaao | exact qaat | exact qaau | exact Co.refl _ | exact CoL.refl _ | exact CoLL.refl _) | ((with_reducible first | refine zga ?_ | refine zgb ?_); rfl) | ((with_reducible refine zgc ?_); (first | (with_reducible rfl) | rfl | (simp; done))) | ((with_reducible first | refine zgd ?_ | refine zge ?_); (first | omega | (simp; done))) | (refine qaaw ⟨?_, ?_⟩ ?_ <;> omega) | (exact Co.refl _) | (exact CoL.refl _) | (exact CoLL.refl _) | (refine qaaz ?_; omega) | (refine qaay ?_; first | omega | (simp_all; done)) | (with_reducible first | refine qaav ?_ ?_ | refine qaaq ?_ ?_) | fail)
     rintro J hJ ⟨k, e1, g1⟩ ⟨h3, h4⟩
     unfold qadb
     simp only [zT, puth, Nat.reduceEqDiff, reduceIte, Nat.reduceAdd] at h3 h4 ⊢
     have hk : k = 0 ∨ k = 1 := by omega
     rcases hk with rfl | rfl
     ·have h5 := h4.trans (qae2 p i x.yes e1 g1 (qado p i []) (6000 + (i : Int)))
      clear h4
      cases kd : decide (x.yes < 0) <;> simp only [kd, Bool.true_or, Bool.false_or] at h5 <;> replace h5 := Lib.hid h5
      all_goals
       repeat' (first | (with_reducible first | refine zA ?_ | refine qaac ?_ | refine qaab ?_ | refine zK ?_) | ((with_reducible first | refine qaal ?_ | refine qaah (by rw [hP]; exact qaa4) ?_); (try rw [hP]); simp -implicitDefEqProofs [*]) | ((with_reducible first | refine qaaf ?_ | refine qaag ?_); (try simp -implicitDefEqProofs [*])) | ((with_reducible refine qaam ?_); (try simp only [qaas, qaad, qaaj])) | ((with_reducible refine qaae rfl (fun h => ?_) (fun h => ?_)) <;> have h' := h <;> (try simp at h') <;> (try subst h')) | ((with_reducible refine qaaa (fun h => ?_) (fun h => ?_)) <;> have h' := h <;> (try simp at h') <;> (try subst h') <;> simp -implicitDefEqProofs [*]) | ((with_reducible refine qaai ?_ ?_); (first | omega | (unfold maxLen; omega)); simp -implicitDefEqProofs [*]) | (refine qacb (qabh p _ _ _ _ _ _ _ (by simp)) ⟨rfl, trivial⟩ ⟨rfl, trivial⟩ ?_; simp -implicitDefEqProofs [*]) | (with_reducible first | refine zM hm ?_ | refine zN hm ?_ | refine zO hm ?_ | refine zP hm ?_) | ((with_reducible refine qaar [] hm ?_ ?_ ?_ ?_) <;> (try simp only [zT, puth, Nat.reduceEqDiff, reduceIte, Nat.reduceAdd])) | (with_reducible first | refine za ?_ ?_ | refine zb ?_ ?_ ?_ ?_ | refine zc ?_ ?_ ?_ ?_ | refine zd ?_ ?_ ?_ ?_ | refine qaap ?_ ?_ | refine qaan ?_ ?_) | (with_reducible first | exact qaak | exact qaao | exact qaat | exact qaau | exact Co.refl _ | exact CoL.refl _ | exact CoLL.refl _) | ((with_reducible first | refine zga ?_ | refine zgb ?_); rfl) | ((with_reducible refine zgc ?_); (first | (with_reducible rfl) | rfl | (simp; done))) | ((with_reducible first | refine zgd ?_ | refine zge ?_); (first | omega | (simp; done))) | (refine qaaw ⟨?_, ?_⟩ ?_ <;> omega) | (exact Co.refl _) | (exact CoL.refl _) | (exact CoLL.refl _) | (refine qaaz ?_; omega) | (refine qaay ?_; first | omega | (simp_all; done)) | (with_reducible first | refine qaav ?_ ?_ | refine qaaq ?_ ?_) | ((refine qaax hJ (1, ?_, ?_) ?_ ?_ ?_; rotate_left 2; (with_reducible refine qaar [] hm ?_ ?_ ?_ ?_) <;> (try simp only [zT, puth, Nat.reduceEqDiff, reduceIte, Nat.reduceAdd]))) | fail)
       all_goals (try dsimp only)
       all_goals (exact ⟨by omega, h5.out⟩)
     ·replace h4 := Lib.hid h4
      repeat' (first | (with_reducible first | refine zA ?_ | refine qaac ?_ | refine qaab ?_ | refine zK ?_) | ((with_reducible first | refine qaal ?_ | refine qaah (by rw [hP]; exact qaa4) ?_); (try rw [hP]); simp -implicitDefEqProofs [*]) | ((with_reducible first | refine qaaf ?_ | refine qaag ?_); (try simp -implicitDefEqProofs [*])) | ((with_reducible refine qaam ?_); (try simp only [qaas, qaad, qaaj])) | ((with_reducible refine qaae rfl (fun h => ?_) (fun h => ?_)) <;> have h' := h <;> (try simp at h') <;> (try subst h')) | ((with_reducible refine qaaa (fun h => ?_) (fun h => ?_)) <;> have h' := h <;> (try simp at h') <;> (try subst h') <;> simp -implicitDefEqProofs [*]) | ((with_reducible refine qaai ?_ ?_); (first | omega | (unfold maxLen; omega)); simp -implicitDefEqProofs [*]) | (with_reducible first | refine zM hm ?_ | refine zN hm ?_ | refine zO hm ?_ | refine zP hm ?_) | ((with_reducible refine qaar [] hm ?_ ?_ ?_ ?_) <;> (try simp only [zT, puth, Nat.reduceEqDiff, reduceIte, Nat.reduceAdd])) | (with_reducible first | refine za ?_ ?_ | refine zb ?_ ?_ ?_ ?_ | refine zc ?_ ?_ ?_ ?_ | refine zd ?_ ?_ ?_ ?_ | refine qaap ?_ ?_ | refine qaan ?_ ?_) | (with_reducible first | exact qaak | exact qaao | exact qaat | exact qaau | exact Co.refl _ | exact CoL.refl _ | exact CoLL.refl _) | ((with_reducible first | refine zga ?_ | refine zgb ?_); rfl) | ((with_reducible refine zgc ?_); (first | (with_reducible rfl) | rfl | (simp; done))) | ((with_reducible first | refine zgd ?_ | refine zge ?_); (first | omega | (simp; done))) | (refine qaaw ⟨?_, ?_⟩ ?_ <;> omega) | (exact Co.refl _) | (exact CoL.refl _) | (exact CoLL.refl _) | (refine qaaz ?_; omega) | (refine qaay ?_; first | omega | (simp_all; done)) | (with_reducible first | refine qaav ?_ ?_ | refine qaaq ?_ ?_) | ((refine qaax hJo (i + 1, ?_, ?_) ?_ ?_ ?_; rotate_left 2; (with_reducible refine qaar [] hm ?_ ?_ ?_ ?_) <;> (try simp only [zT, puth, Nat.reduceEqDiff, reduceIte, Nat.reduceAdd]))) | fail)
      all_goals (try dsimp only)
      all_goals (refine ⟨by omega, ?_⟩; rw [h2.out]; congr 1; rw [h4.out]; exact qact _ rfl)
    ·have k1 : (x.kind == 1) = false := by rw [k]; rfl
     have k2 : (x.kind == 2) = true := by simpa using k
     have kn : decide (x.n < 0) = false := by simpa using n1
     have kn2 : decide ((p.acts.length : Int) ≤ x.n) = true := by simpa using n2
     have hI : A = orF (1, 6000 + (i : Int)) (qado p i ([x.yes].drop 0), 6000 + (i : Int)) := hA
     clear k n1 n2 hA
     replace hI := Lib.hid hI
     repeat' (first | (with_reducible first | refine zA ?_ | refine qaac ?_ | refine qaab ?_ | refine zK ?_) | ((with_reducible first | refine qaal ?_ | refine qaah (by rw [hP]; exact qaa4) ?_); (try rw [hP]); simp -implicitDefEqProofs [qab5, qabx, *]) | ((with_reducible first | refine qaaf ?_ | refine qaag ?_); (try simp -implicitDefEqProofs [qab5, qabx, *])) | ((with_reducible refine qaam ?_); (try simp only [qaas, qaad, qaaj])) | ((with_reducible refine qaae rfl (fun h => ?_) (fun h => ?_)) <;> have h' := h <;> (try simp at h') <;> (try subst h')) | ((with_reducible refine qaaa (fun h => ?_) (fun h => ?_)) <;> have h' := h <;> (try simp at h') <;> (try subst h') <;> simp -implicitDefEqProofs [qab5, qabx, *]) | ((with_reducible refine qaai ?_ ?_); (first | omega | (unfold maxLen; omega)); simp -implicitDefEqProofs [qab5, qabx, *]) | (refine qacb (qabh p _ _ _ _ _ _ _ (by simp)) ⟨rfl, trivial⟩ ⟨rfl, trivial⟩ ?_; simp -implicitDefEqProofs [qab5, qabx, *]) | (with_reducible first | refine zM hm ?_ | refine zN hm ?_ | refine zO hm ?_ | refine zP hm ?_) | fail)
     refine qaa0 (qabi (fun s (y : Nat × Int × Int) => s.turn [(136, .int .i64 y.1)] [(0, .cells 78 (jc p y.2.1 y.2.2))]) (fun y => y.1 ≤ 1 ∧ A = orF (y.2.1, y.2.2) (qado p i ([x.yes].drop y.1), 6000 + (i : Int))) (fun y => 1 - y.1) (0, _, _) ?_ ⟨by simp, hI.out⟩ ?_)
     ·repeat' (first | ((with_reducible refine qaar [] hm ?_ ?_ ?_ ?_) <;> (try simp only [zT, puth, Nat.reduceEqDiff, reduceIte, Nat.reduceAdd])) | (with_reducible first | refine za ?_ ?_ | refine zb ?_ ?_ ?_ ?_ | refine zc ?_ ?_ ?_ ?_ | refine zd ?_ ?_ ?_ ?_ | refine qaap ?_ ?_ | refine qaan ?_ ?_) | (with_reducible first | exact qaak | exact qaao | exact qaat | exact qaau | exact Co.refl _ | exact CoL.refl _ | exact CoLL.refl _) | ((with_reducible first | refine zga ?_ | refine zgb ?_); rfl) | ((with_reducible refine zgc ?_); (first | (with_reducible rfl) | rfl | (simp; done))) | ((with_reducible first | refine zgd ?_ | refine zge ?_); (first | omega | (simp; done))) | (refine qaaw ⟨?_, ?_⟩ ?_ <;> omega) | (exact Co.refl _) | (exact CoL.refl _) | (exact CoLL.refl _) | (refine qaaz ?_; omega) | (refine qaay ?_; first | omega | (simp_all; done)) | (with_reducible first | refine qaav ?_ ?_ | refine qaaq ?_ ?_) | fail)
     rintro J hJ ⟨k, e1, g1⟩ ⟨h3, h4⟩
     unfold qadb
     simp only [zT, puth, Nat.reduceEqDiff, reduceIte, Nat.reduceAdd] at h3 h4 ⊢
     have hk : k = 0 ∨ k = 1 := by omega
     rcases hk with rfl | rfl
     ·have h5 := h4.trans (qae2 p i x.yes e1 g1 (qado p i []) (6000 + (i : Int)))
      clear h4
      cases kd : decide (x.yes < 0) <;> simp only [kd, Bool.true_or, Bool.false_or] at h5 <;> replace h5 := Lib.hid h5
      all_goals
       repeat' (first | (with_reducible first | refine zA ?_ | refine qaac ?_ | refine qaab ?_ | refine zK ?_) | ((with_reducible first | refine qaal ?_ | refine qaah (by rw [hP]; exact qaa4) ?_); (try rw [hP]); simp -implicitDefEqProofs [*]) | ((with_reducible first | refine qaaf ?_ | refine qaag ?_); (try simp -implicitDefEqProofs [*])) | ((with_reducible refine qaam ?_); (try simp only [qaas, qaad, qaaj])) | ((with_reducible refine qaae rfl (fun h => ?_) (fun h => ?_)) <;> have h' := h <;> (try simp at h') <;> (try subst h')) | ((with_reducible refine qaaa (fun h => ?_) (fun h => ?_)) <;> have h' := h <;> (try simp at h') <;> (try subst h') <;> simp -implicitDefEqProofs [*]) | ((with_reducible refine qaai ?_ ?_); (first | omega | (unfold maxLen; omega)); simp -implicitDefEqProofs [*]) | (refine qacb (qabh p _ _ _ _ _ _ _ (by simp)) ⟨rfl, trivial⟩ ⟨rfl, trivial⟩ ?_; simp -implicitDefEqProofs [*]) | (with_reducible first | refine zM hm ?_ | refine zN hm ?_ | refine zO hm ?_ | refine zP hm ?_) | ((with_reducible refine qaar [] hm ?_ ?_ ?_ ?_) <;> (try simp only [zT, puth, Nat.reduceEqDiff, reduceIte, Nat.reduceAdd])) | (with_reducible first | refine za ?_ ?_ | refine zb ?_ ?_ ?_ ?_ | refine zc ?_ ?_ ?_ ?_ | refine zd ?_ ?_ ?_ ?_ | refine qaap ?_ ?_ | refine qaan ?_ ?_) | (with_reducible first | exact qaak | exact qaao | exact qaat | exact qaau | exact Co.refl _ | exact CoL.refl _ | exact CoLL.refl _) | ((with_reducible first | refine zga ?_ | refine zgb ?_); rfl) | ((with_reducible refine zgc ?_); (first | (with_reducible rfl) | rfl | (simp; done))) | ((with_reducible first | refine zgd ?_ | refine zge ?_); (first | omega | (simp; done))) | (refine qaaw ⟨?_, ?_⟩ ?_ <;> omega) | (exact Co.refl _) | (exact CoL.refl _) | (exact CoLL.refl _) | (refine qaaz ?_; omega) | (refine qaay ?_; first | omega | (simp_all; done)) | (with_reducible first | refine qaav ?_ ?_ | refine qaaq ?_ ?_) | ((refine qaax hJ (1, ?_, ?_) ?_ ?_ ?_; rotate_left 2; (with_reducible refine qaar [] hm ?_ ?_ ?_ ?_) <;> (try simp only [zT, puth, Nat.reduceEqDiff, reduceIte, Nat.reduceAdd]))) | fail)
       all_goals (try dsimp only)
       all_goals (exact ⟨by omega, h5.out⟩)
     ·replace h4 := Lib.hid h4
      repeat' (first | (with_reducible first | refine zA ?_ | refine qaac ?_ | refine qaab ?_ | refine zK ?_) | ((with_reducible first | refine qaal ?_ | refine qaah (by rw [hP]; exact qaa4) ?_); (try rw [hP]); simp -implicitDefEqProofs [*]) | ((with_reducible first | refine qaaf ?_ | refine qaag ?_); (try simp -implicitDefEqProofs [*])) | ((with_reducible refine qaam ?_); (try simp only [qaas, qaad, qaaj])) | ((with_reducible refine qaae rfl (fun h => ?_) (fun h => ?_)) <;> have h' := h <;> (try simp at h') <;> (try subst h')) | ((with_reducible refine qaaa (fun h => ?_) (fun h => ?_)) <;> have h' := h <;> (try simp at h') <;> (try subst h') <;> simp -implicitDefEqProofs [*]) | ((with_reducible refine qaai ?_ ?_); (first | omega | (unfold maxLen; omega)); simp -implicitDefEqProofs [*]) | (with_reducible first | refine zM hm ?_ | refine zN hm ?_ | refine zO hm ?_ | refine zP hm ?_) | ((with_reducible refine qaar [] hm ?_ ?_ ?_ ?_) <;> (try simp only [zT, puth, Nat.reduceEqDiff, reduceIte, Nat.reduceAdd])) | (with_reducible first | refine za ?_ ?_ | refine zb ?_ ?_ ?_ ?_ | refine zc ?_ ?_ ?_ ?_ | refine zd ?_ ?_ ?_ ?_ | refine qaap ?_ ?_ | refine qaan ?_ ?_) | (with_reducible first | exact qaak | exact qaao | exact qaat | exact qaau | exact Co.refl _ | exact CoL.refl _ | exact CoLL.refl _) | ((with_reducible first | refine zga ?_ | refine zgb ?_); rfl) | ((with_reducible refine zgc ?_); (first | (with_reducible rfl) | rfl | (simp; done))) | ((with_reducible first | refine zgd ?_ | refine zge ?_); (first | omega | (simp; done))) | (refine qaaw ⟨?_, ?_⟩ ?_ <;> omega) | (exact Co.refl _) | (exact CoL.refl _) | (exact CoLL.refl _) | (refine qaaz ?_; omega) | (refine qaay ?_; first | omega | (simp_all; done)) | (with_reducible first | refine qaav ?_ ?_ | refine qaaq ?_ ?_) | ((refine qaax hJo (i + 1, ?_, ?_) ?_ ?_ ?_; rotate_left 2; (with_reducible refine qaar [] hm ?_ ?_ ?_ ?_) <;> (try simp only [zT, puth, Nat.reduceEqDiff, reduceIte, Nat.reduceAdd]))) | fail)
      all_goals (try dsimp only)
      all_goals (refine ⟨by omega, ?_⟩; rw [h2.out]; congr 1; rw [h4.out]; exact qact _ rfl)
    ·have k1 : (x.kind == 1) = false := by rw [k]; rfl
     have k2 : (x.kind == 2) = true := by simpa using k
     have kn : decide (x.n < 0) = false := by simpa using n1
     have kn2 : decide ((p.acts.length : Int) ≤ x.n) = false := by simpa using n2
     have hlt : x.n.toNat < p.acts.length := by omega
     have hI := hA
     have : actW p.acts x.n = p.acts[x.n.toNat].w := by unfold actW; rw [List.getElem?_eq_getElem hlt]; rfl
     rw [this] at hI
     generalize hB : p.acts[x.n.toNat] = B at hI
     rw [show decide (0 < (B.w.length : Int)) = decide (0 < B.w.length) from decide_eq_decide.2 (by omega)] at hI
     clear k this hA
     replace hI := Lib.hid hI
     repeat' (first | (with_reducible first | refine zA ?_ | refine qaac ?_ | refine qaab ?_ | refine zK ?_) | ((with_reducible first | refine qaal ?_ | refine qaah (by rw [hP]; exact qaa4) ?_); (try rw [hP]); simp -implicitDefEqProofs [qab5, qabx, *]) | ((with_reducible first | refine qaaf ?_ | refine qaag ?_); (try simp -implicitDefEqProofs [qab5, qabx, *])) | ((with_reducible refine qaam ?_); (try simp only [qaas, qaad, qaaj])) | ((with_reducible refine qaae rfl (fun h => ?_) (fun h => ?_)) <;> have h' := h <;> (try simp at h') <;> (try subst h')) | ((with_reducible refine qaaa (fun h => ?_) (fun h => ?_)) <;> have h' := h <;> (try simp at h') <;> (try subst h') <;> simp -implicitDefEqProofs [qab5, qabx, *]) | ((with_reducible refine qaai ?_ ?_); (first | omega | (unfold maxLen; omega)); simp -implicitDefEqProofs [qab5, qabx, *]) | (refine qacb (qabh p _ _ _ _ _ _ _ (by simp)) ⟨rfl, trivial⟩ ⟨rfl, trivial⟩ ?_; simp -implicitDefEqProofs [qab5, qabx, *]) | (with_reducible first | refine zM hm ?_ | refine zN hm ?_ | refine zO hm ?_ | refine zP hm ?_) | fail)
     refine qaa0 (qabi (fun s (y : Nat × Int × Int) => s.turn [(136, .int .i64 y.1)] [(0, .cells 78 (jc p y.2.1 y.2.2))]) (fun y => y.1 ≤ 1 ∧ A = orF (y.2.1, y.2.2) (qado p i ([x.yes].drop y.1), 6000 + (i : Int))) (fun y => 1 - y.1) (0, _, _) ?_ ⟨by simp, hI.out⟩ ?_)
     ·repeat' (first | ((with_reducible refine qaar [] hm ?_ ?_ ?_ ?_) <;> (try simp only [zT, puth, Nat.reduceEqDiff, reduceIte, Nat.reduceAdd])) | (with_reducible first | refine za ?_ ?_ | refine zb ?_ ?_ ?_ ?_ | refine zc ?_ ?_ ?_ ?_ | refine zd ?_ ?_ ?_ ?_ | refine qaap ?_ ?_ | refine qaan ?_ ?_) | (with_reducible first | exact qaak | exact qaao | exact qaat | exact qaau | exact Co.refl _ | exact CoL.refl _ | exact CoLL.refl _) | ((with_reducible first | refine zga ?_ | refine zgb ?_); rfl) | ((with_reducible refine zgc ?_); (first | (with_reducible rfl) | rfl | (simp; done))) | ((with_reducible first | refine zgd ?_ | refine zge ?_); (first | omega | (simp; done))) | (refine qaaw ⟨?_, ?_⟩ ?_ <;> omega) | (exact Co.refl _) | (exact CoL.refl _) | (exact CoLL.refl _) | (refine qaaz ?_; omega) | (refine qaay ?_; first | omega | (simp_all; done)) | (with_reducible first | refine qaav ?_ ?_ | refine qaaq ?_ ?_) | fail)
     rintro J hJ ⟨k, e1, g1⟩ ⟨h3, h4⟩
     unfold qadb
     simp only [zT, puth, Nat.reduceEqDiff, reduceIte, Nat.reduceAdd] at h3 h4 ⊢
     have hk : k = 0 ∨ k = 1 := by omega
     rcases hk with rfl | rfl
     ·have h5 := h4.trans (qae2 p i x.yes e1 g1 (qado p i []) (6000 + (i : Int)))
      clear h4
      cases kd : decide (x.yes < 0) <;> simp only [kd, Bool.true_or, Bool.false_or] at h5 <;> replace h5 := Lib.hid h5
      all_goals
       repeat' (first | (with_reducible first | refine zA ?_ | refine qaac ?_ | refine qaab ?_ | refine zK ?_) | ((with_reducible first | refine qaal ?_ | refine qaah (by rw [hP]; exact qaa4) ?_); (try rw [hP]); simp -implicitDefEqProofs [*]) | ((with_reducible first | refine qaaf ?_ | refine qaag ?_); (try simp -implicitDefEqProofs [*])) | ((with_reducible refine qaam ?_); (try simp only [qaas, qaad, qaaj])) | ((with_reducible refine qaae rfl (fun h => ?_) (fun h => ?_)) <;> have h' := h <;> (try simp at h') <;> (try subst h')) | ((with_reducible refine qaaa (fun h => ?_) (fun h => ?_)) <;> have h' := h <;> (try simp at h') <;> (try subst h') <;> simp -implicitDefEqProofs [*]) | ((with_reducible refine qaai ?_ ?_); (first | omega | (unfold maxLen; omega)); simp -implicitDefEqProofs [*]) | (refine qacb (qabh p _ _ _ _ _ _ _ (by simp)) ⟨rfl, trivial⟩ ⟨rfl, trivial⟩ ?_; simp -implicitDefEqProofs [*]) | (with_reducible first | refine zM hm ?_ | refine zN hm ?_ | refine zO hm ?_ | refine zP hm ?_) | ((with_reducible refine qaar [] hm ?_ ?_ ?_ ?_) <;> (try simp only [zT, puth, Nat.reduceEqDiff, reduceIte, Nat.reduceAdd])) | (with_reducible first | refine za ?_ ?_ | refine zb ?_ ?_ ?_ ?_ | refine zc ?_ ?_ ?_ ?_ | refine zd ?_ ?_ ?_ ?_ | refine qaap ?_ ?_ | refine qaan ?_ ?_) | (with_reducible first | exact qaak | exact qaao | exact qaat | exact qaau | exact Co.refl _ | exact CoL.refl _ | exact CoLL.refl _) | ((with_reducible first | refine zga ?_ | refine zgb ?_); rfl) | ((with_reducible refine zgc ?_); (first | (with_reducible rfl) | rfl | (simp; done))) | ((with_reducible first | refine zgd ?_ | refine zge ?_); (first | omega | (simp; done))) | (refine qaaw ⟨?_, ?_⟩ ?_ <;> omega) | (exact Co.refl _) | (exact CoL.refl _) | (exact CoLL.refl _) | (refine qaaz ?_; omega) | (refine qaay ?_; first | omega | (simp_all; done)) | (with_reducible first | refine qaav ?_ ?_ | refine qaaq ?_ ?_) | ((refine qaax hJ (1, ?_, ?_) ?_ ?_ ?_; rotate_left 2; (with_reducible refine qaar [] hm ?_ ?_ ?_ ?_) <;> (try simp only [zT, puth, Nat.reduceEqDiff, reduceIte, Nat.reduceAdd]))) | fail)
       all_goals (try dsimp only)
       all_goals (exact ⟨by omega, h5.out⟩)
     ·replace h4 := Lib.hid h4
      repeat' (first | (with_reducible first | refine zA ?_ | refine qaac ?_ | refine qaab ?_ | refine zK ?_) | ((with_reducible first | refine qaal ?_ | refine qaah (by rw [hP]; exact qaa4) ?_); (try rw [hP]); simp -implicitDefEqProofs [*]) | ((with_reducible first | refine qaaf ?_ | refine qaag ?_); (try simp -implicitDefEqProofs [*])) | ((with_reducible refine qaam ?_); (try simp only [qaas, qaad, qaaj])) | ((with_reducible refine qaae rfl (fun h => ?_) (fun h => ?_)) <;> have h' := h <;> (try simp at h') <;> (try subst h')) | ((with_reducible refine qaaa (fun h => ?_) (fun h => ?_)) <;> have h' := h <;> (try simp at h') <;> (try subst h') <;> simp -implicitDefEqProofs [*]) | ((with_reducible refine qaai ?_ ?_); (first | omega | (unfold maxLen; omega)); simp -implicitDefEqProofs [*]) | (with_reducible first | refine zM hm ?_ | refine zN hm ?_ | refine zO hm ?_ | refine zP hm ?_) | ((with_reducible refine qaar [] hm ?_ ?_ ?_ ?_) <;> (try simp only [zT, puth, Nat.reduceEqDiff, reduceIte, Nat.reduceAdd])) | (with_reducible first | refine za ?_ ?_ | refine zb ?_ ?_ ?_ ?_ | refine zc ?_ ?_ ?_ ?_ | refine zd ?_ ?_ ?_ ?_ | refine qaap ?_ ?_ | refine qaan ?_ ?_) | (with_reducible first | exact qaak | exact qaao | exact qaat | exact qaau | exact Co.refl _ | exact CoL.refl _ | exact CoLL.refl _) | ((with_reducible first | refine zga ?_ | refine zgb ?_); rfl) | ((with_reducible refine zgc ?_); (first | (with_reducible rfl) | rfl | (simp; done))) | ((with_reducible first | refine zgd ?_ | refine zge ?_); (first | omega | (simp; done))) | (refine qaaw ⟨?_, ?_⟩ ?_ <;> omega) | (exact Co.refl _) | (exact CoL.refl _) | (exact CoLL.refl _) | (refine qaaz ?_; omega) | (refine qaay ?_; first | omega | (simp_all; done)) | (with_reducible first | refine qaav ?_ ?_ | refine qaaq ?_ ?_) | ((refine qaax hJo (i + 1, ?_, ?_) ?_ ?_ ?_; rotate_left 2; (with_reducible refine qaar [] hm ?_ ?_ ?_ ?_) <;> (try simp only [zT, puth, Nat.reduceEqDiff, reduceIte, Nat.reduceAdd]))) | fail)
      all_goals (try dsimp only)
      all_goals (refine ⟨by omega, ?_⟩; rw [h2.out]; congr 1; rw [h4.out]; exact qact _ rfl)
   ·have k1 : (x.kind == 1) = false := by simpa using kn1
    have k2 : (x.kind == 2) = false := by simpa using kn2
    rw [if_neg kn1, if_neg kn2] at hA
    by_cases kn3 : x.kind = 3
    ·have k3 : (x.kind == 3) = true := by simpa using kn3
     rw [if_pos kn3, qapo] at hA
     have hI := hA
     clear kn1 kn2 kn3 hA
     replace hI := Lib.hid hI
     repeat' (first | (with_reducible first | refine zA ?_ | refine qaac ?_ | refine qaab ?_ | refine zK ?_) | ((with_reducible first | refine qaal ?_ | refine qaah (by rw [hP]; exact qaa4) ?_); (try rw [hP]); simp -implicitDefEqProofs [qab5, qabx, *]) | ((with_reducible first | refine qaaf ?_ | refine qaag ?_); (try simp -implicitDefEqProofs [qab5, qabx, *])) | ((with_reducible refine qaam ?_); (try simp only [qaas, qaad, qaaj])) | ((with_reducible refine qaae rfl (fun h => ?_) (fun h => ?_)) <;> have h' := h <;> (try simp at h') <;> (try subst h')) | ((with_reducible refine qaaa (fun h => ?_) (fun h => ?_)) <;> have h' := h <;> (try simp at h') <;> (try subst h') <;> simp -implicitDefEqProofs [qab5, qabx, *]) | ((with_reducible refine qaai ?_ ?_); (first | omega | (unfold maxLen; omega)); simp -implicitDefEqProofs [qab5, qabx, *]) | ((first | refine qacb (qabh p _ _ _ _ _ _ _ (by simp)) ⟨rfl, trivial⟩ ⟨rfl, trivial⟩ ?_ | refine qacb (qarn p _ _ x.e _ (by omega) _ _ (by simp)) ⟨rfl, trivial⟩ ⟨rfl, trivial⟩ ?_); simp -implicitDefEqProofs [qab5, qabx, *]) | (with_reducible first | refine zM hm ?_ | refine zN hm ?_ | refine zO hm ?_ | refine zP hm ?_) | fail)
     refine qaa0 (qabi (fun s (y : Nat × Int × Int) => s.turn [(136, .int .i64 y.1)] [(0, .cells 78 (jc p y.2.1 y.2.2))]) (fun y => y.1 ≤ 2 ∧ A = orF (y.2.1, y.2.2) (qado p i ([x.yes, x.no].drop y.1), 6000 + (i : Int))) (fun y => 2 - y.1) (0, _, _) ?_ ⟨by simp, hI.out⟩ ?_)
     ·repeat' (first | ((with_reducible refine qaar [] hm ?_ ?_ ?_ ?_) <;> (try simp only [zT, puth, Nat.reduceEqDiff, reduceIte, Nat.reduceAdd])) | (with_reducible first | refine za ?_ ?_ | refine zb ?_ ?_ ?_ ?_ | refine zc ?_ ?_ ?_ ?_ | refine zd ?_ ?_ ?_ ?_ | refine qaap ?_ ?_ | refine qaan ?_ ?_) | (with_reducible first | exact qaak | exact qaao | exact qaat | exact qaau | exact Co.refl _ | exact CoL.refl _ | exact CoLL.refl _) | ((with_reducible first | refine zga ?_ | refine zgb ?_); rfl) | ((with_reducible refine zgc ?_); (first | (with_reducible rfl) | rfl | (simp; done))) | ((with_reducible first | refine zgd ?_ | refine zge ?_); (first | omega | (simp; done))) | (refine qaaw ⟨?_, ?_⟩ ?_ <;> omega) | (exact Co.refl _) | (exact CoL.refl _) | (exact CoLL.refl _) | (refine qaaz ?_; omega) | (refine qaay ?_; first | omega | (simp_all; done)) | (with_reducible first | refine qaav ?_ ?_ | refine qaaq ?_ ?_) | fail)
     rintro J hJ ⟨k, e1, g1⟩ ⟨h3, h4⟩
     unfold qadb
     simp only [zT, puth, Nat.reduceEqDiff, reduceIte, Nat.reduceAdd] at h3 h4 ⊢
     have hk : k = 0 ∨ k = 1 ∨ k = 2 := by omega
     rcases hk with rfl | rfl | rfl
     ·have h5 := h4.trans (qae2 p i x.yes e1 g1 (qado p i [x.no]) (6000 + (i : Int)))
      clear h4
      cases kd : decide (x.yes < 0) <;> simp only [kd, Bool.true_or, Bool.false_or] at h5 <;> replace h5 := Lib.hid h5
      all_goals
       repeat' (first | (with_reducible first | refine zA ?_ | refine qaac ?_ | refine qaab ?_ | refine zK ?_) | ((with_reducible first | refine qaal ?_ | refine qaah (by rw [hP]; exact qaa4) ?_); (try rw [hP]); simp -implicitDefEqProofs [*]) | ((with_reducible first | refine qaaf ?_ | refine qaag ?_); (try simp -implicitDefEqProofs [*])) | ((with_reducible refine qaam ?_); (try simp only [qaas, qaad, qaaj])) | ((with_reducible refine qaae rfl (fun h => ?_) (fun h => ?_)) <;> have h' := h <;> (try simp at h') <;> (try subst h')) | ((with_reducible refine qaaa (fun h => ?_) (fun h => ?_)) <;> have h' := h <;> (try simp at h') <;> (try subst h') <;> simp -implicitDefEqProofs [*]) | ((with_reducible refine qaai ?_ ?_); (first | omega | (unfold maxLen; omega)); simp -implicitDefEqProofs [*]) | (refine qacb (qabh p _ _ _ _ _ _ _ (by simp)) ⟨rfl, trivial⟩ ⟨rfl, trivial⟩ ?_; simp -implicitDefEqProofs [*]) | (with_reducible first | refine zM hm ?_ | refine zN hm ?_ | refine zO hm ?_ | refine zP hm ?_) | ((with_reducible refine qaar [] hm ?_ ?_ ?_ ?_) <;> (try simp only [zT, puth, Nat.reduceEqDiff, reduceIte, Nat.reduceAdd])) | (with_reducible first | refine za ?_ ?_ | refine zb ?_ ?_ ?_ ?_ | refine zc ?_ ?_ ?_ ?_ | refine zd ?_ ?_ ?_ ?_ | refine qaap ?_ ?_ | refine qaan ?_ ?_) | (with_reducible first | exact qaak | exact qaao | exact qaat | exact qaau | exact Co.refl _ | exact CoL.refl _ | exact CoLL.refl _) | ((with_reducible first | refine zga ?_ | refine zgb ?_); rfl) | ((with_reducible refine zgc ?_); (first | (with_reducible rfl) | rfl | (simp; done))) | ((with_reducible first | refine zgd ?_ | refine zge ?_); (first | omega | (simp; done))) | (refine qaaw ⟨?_, ?_⟩ ?_ <;> omega) | (exact Co.refl _) | (exact CoL.refl _) | (exact CoLL.refl _) | (refine qaaz ?_; omega) | (refine qaay ?_; first | omega | (simp_all; done)) | (with_reducible first | refine qaav ?_ ?_ | refine qaaq ?_ ?_) | ((refine qaax hJ (1, ?_, ?_) ?_ ?_ ?_; rotate_left 2; (with_reducible refine qaar [] hm ?_ ?_ ?_ ?_) <;> (try simp only [zT, puth, Nat.reduceEqDiff, reduceIte, Nat.reduceAdd]))) | fail)
       all_goals (try dsimp only)
       all_goals (exact ⟨by omega, h5.out⟩)
     ·have h5 := h4.trans (qae2 p i x.no e1 g1 (qado p i []) (6000 + (i : Int)))
      clear h4
      cases kd : decide (x.no < 0) <;> simp only [kd, Bool.true_or, Bool.false_or] at h5 <;> replace h5 := Lib.hid h5
      all_goals
       repeat' (first | (with_reducible first | refine zA ?_ | refine qaac ?_ | refine qaab ?_ | refine zK ?_) | ((with_reducible first | refine qaal ?_ | refine qaah (by rw [hP]; exact qaa4) ?_); (try rw [hP]); simp -implicitDefEqProofs [*]) | ((with_reducible first | refine qaaf ?_ | refine qaag ?_); (try simp -implicitDefEqProofs [*])) | ((with_reducible refine qaam ?_); (try simp only [qaas, qaad, qaaj])) | ((with_reducible refine qaae rfl (fun h => ?_) (fun h => ?_)) <;> have h' := h <;> (try simp at h') <;> (try subst h')) | ((with_reducible refine qaaa (fun h => ?_) (fun h => ?_)) <;> have h' := h <;> (try simp at h') <;> (try subst h') <;> simp -implicitDefEqProofs [*]) | ((with_reducible refine qaai ?_ ?_); (first | omega | (unfold maxLen; omega)); simp -implicitDefEqProofs [*]) | (refine qacb (qabh p _ _ _ _ _ _ _ (by simp)) ⟨rfl, trivial⟩ ⟨rfl, trivial⟩ ?_; simp -implicitDefEqProofs [*]) | (with_reducible first | refine zM hm ?_ | refine zN hm ?_ | refine zO hm ?_ | refine zP hm ?_) | ((with_reducible refine qaar [] hm ?_ ?_ ?_ ?_) <;> (try simp only [zT, puth, Nat.reduceEqDiff, reduceIte, Nat.reduceAdd])) | (with_reducible first | refine za ?_ ?_ | refine zb ?_ ?_ ?_ ?_ | refine zc ?_ ?_ ?_ ?_ | refine zd ?_ ?_ ?_ ?_ | refine qaap ?_ ?_ | refine qaan ?_ ?_) | (with_reducible first | exact qaak | exact qaao | exact qaat | exact qaau | exact Co.refl _ | exact CoL.refl _ | exact CoLL.refl _) | ((with_reducible first | refine zga ?_ | refine zgb ?_); rfl) | ((with_reducible refine zgc ?_); (first | (with_reducible rfl) | rfl | (simp; done))) | ((with_reducible first | refine zgd ?_ | refine zge ?_); (first | omega | (simp; done))) | (refine qaaw ⟨?_, ?_⟩ ?_ <;> omega) | (exact Co.refl _) | (exact CoL.refl _) | (exact CoLL.refl _) | (refine qaaz ?_; omega) | (refine qaay ?_; first | omega | (simp_all; done)) | (with_reducible first | refine qaav ?_ ?_ | refine qaaq ?_ ?_) | ((refine qaax hJ (2, ?_, ?_) ?_ ?_ ?_; rotate_left 2; (with_reducible refine qaar [] hm ?_ ?_ ?_ ?_) <;> (try simp only [zT, puth, Nat.reduceEqDiff, reduceIte, Nat.reduceAdd]))) | fail)
       all_goals (try dsimp only)
       all_goals (exact ⟨by omega, h5.out⟩)
     ·replace h4 := Lib.hid h4
      repeat' (first | (with_reducible first | refine zA ?_ | refine qaac ?_ | refine qaab ?_ | refine zK ?_) | ((with_reducible first | refine qaal ?_ | refine qaah (by rw [hP]; exact qaa4) ?_); (try rw [hP]); simp -implicitDefEqProofs [*]) | ((with_reducible first | refine qaaf ?_ | refine qaag ?_); (try simp -implicitDefEqProofs [*])) | ((with_reducible refine qaam ?_); (try simp only [qaas, qaad, qaaj])) | ((with_reducible refine qaae rfl (fun h => ?_) (fun h => ?_)) <;> have h' := h <;> (try simp at h') <;> (try subst h')) | ((with_reducible refine qaaa (fun h => ?_) (fun h => ?_)) <;> have h' := h <;> (try simp at h') <;> (try subst h') <;> simp -implicitDefEqProofs [*]) | ((with_reducible refine qaai ?_ ?_); (first | omega | (unfold maxLen; omega)); simp -implicitDefEqProofs [*]) | (with_reducible first | refine zM hm ?_ | refine zN hm ?_ | refine zO hm ?_ | refine zP hm ?_) | ((with_reducible refine qaar [] hm ?_ ?_ ?_ ?_) <;> (try simp only [zT, puth, Nat.reduceEqDiff, reduceIte, Nat.reduceAdd])) | (with_reducible first | refine za ?_ ?_ | refine zb ?_ ?_ ?_ ?_ | refine zc ?_ ?_ ?_ ?_ | refine zd ?_ ?_ ?_ ?_ | refine qaap ?_ ?_ | refine qaan ?_ ?_) | (with_reducible first | exact qaak | exact qaao | exact qaat | exact qaau | exact Co.refl _ | exact CoL.refl _ | exact CoLL.refl _) | ((with_reducible first | refine zga ?_ | refine zgb ?_); rfl) | ((with_reducible refine zgc ?_); (first | (with_reducible rfl) | rfl | (simp; done))) | ((with_reducible first | refine zgd ?_ | refine zge ?_); (first | omega | (simp; done))) | (refine qaaw ⟨?_, ?_⟩ ?_ <;> omega) | (exact Co.refl _) | (exact CoL.refl _) | (exact CoLL.refl _) | (refine qaaz ?_; omega) | (refine qaay ?_; first | omega | (simp_all; done)) | (with_reducible first | refine qaav ?_ ?_ | refine qaaq ?_ ?_) | ((refine qaax hJo (i + 1, ?_, ?_) ?_ ?_ ?_; rotate_left 2; (with_reducible refine qaar [] hm ?_ ?_ ?_ ?_) <;> (try simp only [zT, puth, Nat.reduceEqDiff, reduceIte, Nat.reduceAdd]))) | fail)
      all_goals (try dsimp only)
      all_goals (refine ⟨by omega, ?_⟩; rw [h2.out]; congr 1; rw [h4.out]; exact qact _ rfl)
    rw [if_neg kn3] at hA
    have k3 : (x.kind == 3) = false := by simpa using kn3
    by_cases kn4 : x.kind = 4
    ·have k4 : (x.kind == 4) = true := by simpa using kn4
     rw [if_pos kn4, qac0 _ _ _ _ _ _ (by decide)] at hA
     have hI := hA
     clear kn1 kn2 kn3 kn4 hA
     replace hI := Lib.hid hI
     repeat' (first | (with_reducible first | refine zA ?_ | refine qaac ?_ | refine qaab ?_ | refine zK ?_) | ((with_reducible first | refine qaal ?_ | refine qaah (by rw [hP]; exact qaa4) ?_); (try rw [hP]); simp -implicitDefEqProofs [qab5, qabx, *]) | ((with_reducible first | refine qaaf ?_ | refine qaag ?_); (try simp -implicitDefEqProofs [qab5, qabx, *])) | ((with_reducible refine qaam ?_); (try simp only [qaas, qaad, qaaj])) | ((with_reducible refine qaae rfl (fun h => ?_) (fun h => ?_)) <;> have h' := h <;> (try simp at h') <;> (try subst h')) | ((with_reducible refine qaaa (fun h => ?_) (fun h => ?_)) <;> have h' := h <;> (try simp at h') <;> (try subst h') <;> simp -implicitDefEqProofs [qab5, qabx, *]) | ((with_reducible refine qaai ?_ ?_); (first | omega | (unfold maxLen; omega)); simp -implicitDefEqProofs [qab5, qabx, *]) | ((first | refine qacb (qabh p _ _ _ _ _ _ _ (by simp)) ⟨rfl, trivial⟩ ⟨rfl, trivial⟩ ?_ | refine qacb (qag2 p _ _ _ _ _ _ (by simp)) ⟨rfl, trivial⟩ ⟨rfl, trivial⟩ ?_); simp -implicitDefEqProofs [qab5, qabx, *]) | (with_reducible first | refine zM hm ?_ | refine zN hm ?_ | refine zO hm ?_ | refine zP hm ?_) | fail)
     refine qaa0 (qabi (fun s (y : Nat × Int × Int) => s.turn [(136, .int .i64 y.1)] [(0, .cells 78 (jc p y.2.1 y.2.2))]) (fun y => y.1 ≤ 2 ∧ A = orF (y.2.1, y.2.2) (qado p i ([x.yes, x.no].drop y.1), 6000 + (i : Int))) (fun y => 2 - y.1) (0, _, _) ?_ ⟨by simp, hI.out⟩ ?_)
     ·repeat' (first | ((with_reducible refine qaar [] hm ?_ ?_ ?_ ?_) <;> (try simp only [zT, puth, Nat.reduceEqDiff, reduceIte, Nat.reduceAdd])) | (with_reducible first | refine za ?_ ?_ | refine zb ?_ ?_ ?_ ?_ | refine zc ?_ ?_ ?_ ?_ | refine zd ?_ ?_ ?_ ?_ | refine qaap ?_ ?_ | refine qaan ?_ ?_) | (with_reducible first | exact qaak | exact qaao | exact qaat | exact qaau | exact Co.refl _ | exact CoL.refl _ | exact CoLL.refl _) | ((with_reducible first | refine zga ?_ | refine zgb ?_); rfl) | ((with_reducible refine zgc ?_); (first | (with_reducible rfl) | rfl | (simp; done))) | ((with_reducible first | refine zgd ?_ | refine zge ?_); (first | omega | (simp; done))) | (refine qaaw ⟨?_, ?_⟩ ?_ <;> omega) | (exact Co.refl _) | (exact CoL.refl _) | (exact CoLL.refl _) | (refine qaaz ?_; omega) | (refine qaay ?_; first | omega | (simp_all; done)) | (with_reducible first | refine qaav ?_ ?_ | refine qaaq ?_ ?_) | fail)
     rintro J hJ ⟨k, e1, g1⟩ ⟨h3, h4⟩
     unfold qadb
     simp only [zT, puth, Nat.reduceEqDiff, reduceIte, Nat.reduceAdd] at h3 h4 ⊢
     have hk : k = 0 ∨ k = 1 ∨ k = 2 := by omega
     rcases hk with rfl | rfl | rfl
     ·have h5 := h4.trans (qae2 p i x.yes e1 g1 (qado p i [x.no]) (6000 + (i : Int)))
      clear h4
      cases kd : decide (x.yes < 0) <;> simp only [kd, Bool.true_or, Bool.false_or] at h5 <;> replace h5 := Lib.hid h5
      all_goals
       repeat' (first | (with_reducible first | refine zA ?_ | refine qaac ?_ | refine qaab ?_ | refine zK ?_) | ((with_reducible first | refine qaal ?_ | refine qaah (by rw [hP]; exact qaa4) ?_); (try rw [hP]); simp -implicitDefEqProofs [*]) | ((with_reducible first | refine qaaf ?_ | refine qaag ?_); (try simp -implicitDefEqProofs [*])) | ((with_reducible refine qaam ?_); (try simp only [qaas, qaad, qaaj])) | ((with_reducible refine qaae rfl (fun h => ?_) (fun h => ?_)) <;> have h' := h <;> (try simp at h') <;> (try subst h')) | ((with_reducible refine qaaa (fun h => ?_) (fun h => ?_)) <;> have h' := h <;> (try simp at h') <;> (try subst h') <;> simp -implicitDefEqProofs [*]) | ((with_reducible refine qaai ?_ ?_); (first | omega | (unfold maxLen; omega)); simp -implicitDefEqProofs [*]) | (refine qacb (qabh p _ _ _ _ _ _ _ (by simp)) ⟨rfl, trivial⟩ ⟨rfl, trivial⟩ ?_; simp -implicitDefEqProofs [*]) | (with_reducible first | refine zM hm ?_ | refine zN hm ?_ | refine zO hm ?_ | refine zP hm ?_) | ((with_reducible refine qaar [] hm ?_ ?_ ?_ ?_) <;> (try simp only [zT, puth, Nat.reduceEqDiff, reduceIte, Nat.reduceAdd])) | (with_reducible first | refine za ?_ ?_ | refine zb ?_ ?_ ?_ ?_ | refine zc ?_ ?_ ?_ ?_ | refine zd ?_ ?_ ?_ ?_ | refine qaap ?_ ?_ | refine qaan ?_ ?_) | (with_reducible first | exact qaak | exact qaao | exact qaat | exact qaau | exact Co.refl _ | exact CoL.refl _ | exact CoLL.refl _) | ((with_reducible first | refine zga ?_ | refine zgb ?_); rfl) | ((with_reducible refine zgc ?_); (first | (with_reducible rfl) | rfl | (simp; done))) | ((with_reducible first | refine zgd ?_ | refine zge ?_); (first | omega | (simp; done))) | (refine qaaw ⟨?_, ?_⟩ ?_ <;> omega) | (exact Co.refl _) | (exact CoL.refl _) | (exact CoLL.refl _) | (refine qaaz ?_; omega) | (refine qaay ?_; first | omega | (simp_all; done)) | (with_reducible first | refine qaav ?_ ?_ | refine qaaq ?_ ?_) | ((refine qaax hJ (1, ?_, ?_) ?_ ?_ ?_; rotate_left 2; (with_reducible refine qaar [] hm ?_ ?_ ?_ ?_) <;> (try simp only [zT, puth, Nat.reduceEqDiff, reduceIte, Nat.reduceAdd]))) | fail)
       all_goals (try dsimp only)
       all_goals (exact ⟨by omega, h5.out⟩)
     ·have h5 := h4.trans (qae2 p i x.no e1 g1 (qado p i []) (6000 + (i : Int)))
      clear h4
      cases kd : decide (x.no < 0) <;> simp only [kd, Bool.true_or, Bool.false_or] at h5 <;> replace h5 := Lib.hid h5
      all_goals
       repeat' (first | (with_reducible first | refine zA ?_ | refine qaac ?_ | refine qaab ?_ | refine zK ?_) | ((with_reducible first | refine qaal ?_ | refine qaah (by rw [hP]; exact qaa4) ?_); (try rw [hP]); simp -implicitDefEqProofs [*]) | ((with_reducible first | refine qaaf ?_ | refine qaag ?_); (try simp -implicitDefEqProofs [*])) | ((with_reducible refine qaam ?_); (try simp only [qaas, qaad, qaaj])) | ((with_reducible refine qaae rfl (fun h => ?_) (fun h => ?_)) <;> have h' := h <;> (try simp at h') <;> (try subst h')) | ((with_reducible refine qaaa (fun h => ?_) (fun h => ?_)) <;> have h' := h <;> (try simp at h') <;> (try subst h') <;> simp -implicitDefEqProofs [*]) | ((with_reducible refine qaai ?_ ?_); (first | omega | (unfold maxLen; omega)); simp -implicitDefEqProofs [*]) | (refine qacb (qabh p _ _ _ _ _ _ _ (by simp)) ⟨rfl, trivial⟩ ⟨rfl, trivial⟩ ?_; simp -implicitDefEqProofs [*]) | (with_reducible first | refine zM hm ?_ | refine zN hm ?_ | refine zO hm ?_ | refine zP hm ?_) | ((with_reducible refine qaar [] hm ?_ ?_ ?_ ?_) <;> (try simp only [zT, puth, Nat.reduceEqDiff, reduceIte, Nat.reduceAdd])) | (with_reducible first | refine za ?_ ?_ | refine zb ?_ ?_ ?_ ?_ | refine zc ?_ ?_ ?_ ?_ | refine zd ?_ ?_ ?_ ?_ | refine qaap ?_ ?_ | refine qaan ?_ ?_) | (with_reducible first | exact qaak | exact qaao | exact qaat | exact qaau | exact Co.refl _ | exact CoL.refl _ | exact CoLL.refl _) | ((with_reducible first | refine zga ?_ | refine zgb ?_); rfl) | ((with_reducible refine zgc ?_); (first | (with_reducible rfl) | rfl | (simp; done))) | ((with_reducible first | refine zgd ?_ | refine zge ?_); (first | omega | (simp; done))) | (refine qaaw ⟨?_, ?_⟩ ?_ <;> omega) | (exact Co.refl _) | (exact CoL.refl _) | (exact CoLL.refl _) | (refine qaaz ?_; omega) | (refine qaay ?_; first | omega | (simp_all; done)) | (with_reducible first | refine qaav ?_ ?_ | refine qaaq ?_ ?_) | ((refine qaax hJ (2, ?_, ?_) ?_ ?_ ?_; rotate_left 2; (with_reducible refine qaar [] hm ?_ ?_ ?_ ?_) <;> (try simp only [zT, puth, Nat.reduceEqDiff, reduceIte, Nat.reduceAdd]))) | fail)
       all_goals (try dsimp only)
       all_goals (exact ⟨by omega, h5.out⟩)
     ·replace h4 := Lib.hid h4
      repeat' (first | (with_reducible first | refine zA ?_ | refine qaac ?_ | refine qaab ?_ | refine zK ?_) | ((with_reducible first | refine qaal ?_ | refine qaah (by rw [hP]; exact qaa4) ?_); (try rw [hP]); simp -implicitDefEqProofs [*]) | ((with_reducible first | refine qaaf ?_ | refine qaag ?_); (try simp -implicitDefEqProofs [*])) | ((with_reducible refine qaam ?_); (try simp only [qaas, qaad, qaaj])) | ((with_reducible refine qaae rfl (fun h => ?_) (fun h => ?_)) <;> have h' := h <;> (try simp at h') <;> (try subst h')) | ((with_reducible refine qaaa (fun h => ?_) (fun h => ?_)) <;> have h' := h <;> (try simp at h') <;> (try subst h') <;> simp -implicitDefEqProofs [*]) | ((with_reducible refine qaai ?_ ?_); (first | omega | (unfold maxLen; omega)); simp -implicitDefEqProofs [*]) | (with_reducible first | refine zM hm ?_ | refine zN hm ?_ | refine zO hm ?_ | refine zP hm ?_) | ((with_reducible refine qaar [] hm ?_ ?_ ?_ ?_) <;> (try simp only [zT, puth, Nat.reduceEqDiff, reduceIte, Nat.reduceAdd])) | (with_reducible first | refine za ?_ ?_ | refine zb ?_ ?_ ?_ ?_ | refine zc ?_ ?_ ?_ ?_ | refine zd ?_ ?_ ?_ ?_ | refine qaap ?_ ?_ | refine qaan ?_ ?_) | (with_reducible first | exact qaak | exact qaao | exact qaat | exact qaau | exact Co.refl _ | exact CoL.refl _ | exact CoLL.refl _) | ((with_reducible first | refine zga ?_ | refine zgb ?_); rfl) | ((with_reducible refine zgc ?_); (first | (with_reducible rfl) | rfl | (simp; done))) | ((with_reducible first | refine zgd ?_ | refine zge ?_); (first | omega | (simp; done))) | (refine qaaw ⟨?_, ?_⟩ ?_ <;> omega) | (exact Co.refl _) | (exact CoL.refl _) | (exact CoLL.refl _) | (refine qaaz ?_; omega) | (refine qaay ?_; first | omega | (simp_all; done)) | (with_reducible first | refine qaav ?_ ?_ | refine qaaq ?_ ?_) | ((refine qaax hJo (i + 1, ?_, ?_) ?_ ?_ ?_; rotate_left 2; (with_reducible refine qaar [] hm ?_ ?_ ?_ ?_) <;> (try simp only [zT, puth, Nat.reduceEqDiff, reduceIte, Nat.reduceAdd]))) | fail)
      all_goals (try dsimp only)
      all_goals (refine ⟨by omega, ?_⟩; rw [h2.out]; congr 1; rw [h4.out]; exact qact _ rfl)
    ·have k4 : (x.kind == 4) = false := by simpa using kn4
     rw [if_neg kn4] at hA
     have hI : A = orF (5, 6000 + (i : Int)) (qado p i ([x.yes, x.no].drop 0), 6000 + (i : Int)) := hA
     clear kn1 kn2 kn3 kn4 hA
     replace hI := Lib.hid hI
     repeat' (first | (with_reducible first | refine zA ?_ | refine qaac ?_ | refine qaab ?_ | refine zK ?_) | ((with_reducible first | refine qaal ?_ | refine qaah (by rw [hP]; exact qaa4) ?_); (try rw [hP]); simp -implicitDefEqProofs [qab5, qabx, *]) | ((with_reducible first | refine qaaf ?_ | refine qaag ?_); (try simp -implicitDefEqProofs [qab5, qabx, *])) | ((with_reducible refine qaam ?_); (try simp only [qaas, qaad, qaaj])) | ((with_reducible refine qaae rfl (fun h => ?_) (fun h => ?_)) <;> have h' := h <;> (try simp at h') <;> (try subst h')) | ((with_reducible refine qaaa (fun h => ?_) (fun h => ?_)) <;> have h' := h <;> (try simp at h') <;> (try subst h') <;> simp -implicitDefEqProofs [qab5, qabx, *]) | ((with_reducible refine qaai ?_ ?_); (first | omega | (unfold maxLen; omega)); simp -implicitDefEqProofs [qab5, qabx, *]) | (refine qacb (qabh p _ _ _ _ _ _ _ (by simp)) ⟨rfl, trivial⟩ ⟨rfl, trivial⟩ ?_; simp -implicitDefEqProofs [qab5, qabx, *]) | (with_reducible first | refine zM hm ?_ | refine zN hm ?_ | refine zO hm ?_ | refine zP hm ?_) | fail)
     refine qaa0 (qabi (fun s (y : Nat × Int × Int) => s.turn [(136, .int .i64 y.1)] [(0, .cells 78 (jc p y.2.1 y.2.2))]) (fun y => y.1 ≤ 2 ∧ A = orF (y.2.1, y.2.2) (qado p i ([x.yes, x.no].drop y.1), 6000 + (i : Int))) (fun y => 2 - y.1) (0, _, _) ?_ ⟨by simp, hI.out⟩ ?_)
     ·repeat' (first | ((with_reducible refine qaar [] hm ?_ ?_ ?_ ?_) <;> (try simp only [zT, puth, Nat.reduceEqDiff, reduceIte, Nat.reduceAdd])) | (with_reducible first | refine za ?_ ?_ | refine zb ?_ ?_ ?_ ?_ | refine zc ?_ ?_ ?_ ?_ | refine zd ?_ ?_ ?_ ?_ | refine qaap ?_ ?_ | refine qaan ?_ ?_) | (with_reducible first | exact qaak | exact qaao | exact qaat | exact qaau | exact Co.refl _ | exact CoL.refl _ | exact CoLL.refl _) | ((with_reducible first | refine zga ?_ | refine zgb ?_); rfl) | ((with_reducible refine zgc ?_); (first | (with_reducible rfl) | rfl | (simp; done))) | ((with_reducible first | refine zgd ?_ | refine zge ?_); (first | omega | (simp; done))) | (refine qaaw ⟨?_, ?_⟩ ?_ <;> omega) | (exact Co.refl _) | (exact CoL.refl _) | (exact CoLL.refl _) | (refine qaaz ?_; omega) | (refine qaay ?_; first | omega | (simp_all; done)) | (with_reducible first | refine qaav ?_ ?_ | refine qaaq ?_ ?_) | fail)
     rintro J hJ ⟨k, e1, g1⟩ ⟨h3, h4⟩
     unfold qadb
     simp only [zT, puth, Nat.reduceEqDiff, reduceIte, Nat.reduceAdd] at h3 h4 ⊢
     have hk : k = 0 ∨ k = 1 ∨ k = 2 := by omega
     rcases hk with rfl | rfl | rfl
     ·have h5 := h4.trans (qae2 p i x.yes e1 g1 (qado p i [x.no]) (6000 + (i : Int)))
      clear h4
      cases kd : decide (x.yes < 0) <;> simp only [kd, Bool.true_or, Bool.false_or] at h5 <;> replace h5 := Lib.hid h5
      all_goals
       repeat' (first | (with_reducible first | refine zA ?_ | refine qaac ?_ | refine qaab ?_ | refine zK ?_) | ((with_reducible first | refine qaal ?_ | refine qaah (by rw [hP]; exact qaa4) ?_); (try rw [hP]); simp -implicitDefEqProofs [*]) | ((with_reducible first | refine qaaf ?_ | refine qaag ?_); (try simp -implicitDefEqProofs [*])) | ((with_reducible refine qaam ?_); (try simp only [qaas, qaad, qaaj])) | ((with_reducible refine qaae rfl (fun h => ?_) (fun h => ?_)) <;> have h' := h <;> (try simp at h') <;> (try subst h')) | ((with_reducible refine qaaa (fun h => ?_) (fun h => ?_)) <;> have h' := h <;> (try simp at h') <;> (try subst h') <;> simp -implicitDefEqProofs [*]) | ((with_reducible refine qaai ?_ ?_); (first | omega | (unfold maxLen; omega)); simp -implicitDefEqProofs [*]) | (refine qacb (qabh p _ _ _ _ _ _ _ (by simp)) ⟨rfl, trivial⟩ ⟨rfl, trivial⟩ ?_; simp -implicitDefEqProofs [*]) | (with_reducible first | refine zM hm ?_ | refine zN hm ?_ | refine zO hm ?_ | refine zP hm ?_) | ((with_reducible refine qaar [] hm ?_ ?_ ?_ ?_) <;> (try simp only [zT, puth, Nat.reduceEqDiff, reduceIte, Nat.reduceAdd])) | (with_reducible first | refine za ?_ ?_ | refine zb ?_ ?_ ?_ ?_ | refine zc ?_ ?_ ?_ ?_ | refine zd ?_ ?_ ?_ ?_ | refine qaap ?_ ?_ | refine qaan ?_ ?_) | (with_reducible first | exact qaak | exact qaao | exact qaat | exact qaau | exact Co.refl _ | exact CoL.refl _ | exact CoLL.refl _) | ((with_reducible first | refine zga ?_ | refine zgb ?_); rfl) | ((with_reducible refine zgc ?_); (first | (with_reducible rfl) | rfl | (simp; done))) | ((with_reducible first | refine zgd ?_ | refine zge ?_); (first | omega | (simp; done))) | (refine qaaw ⟨?_, ?_⟩ ?_ <;> omega) | (exact Co.refl _) | (exact CoL.refl _) | (exact CoLL.refl _) | (refine qaaz ?_; omega) | (refine qaay ?_; first | omega | (simp_all; done)) | (with_reducible first | refine qaav ?_ ?_ | refine qaaq ?_ ?_) | ((refine qaax hJ (1, ?_, ?_) ?_ ?_ ?_; rotate_left 2; (with_reducible refine qaar [] hm ?_ ?_ ?_ ?_) <;> (try simp only [zT, puth, Nat.reduceEqDiff, reduceIte, Nat.reduceAdd]))) | fail)
       all_goals (try dsimp only)
       all_goals (exact ⟨by omega, h5.out⟩)
     ·have h5 := h4.trans (qae2 p i x.no e1 g1 (qado p i []) (6000 + (i : Int)))
      clear h4
      cases kd : decide (x.no < 0) <;> simp only [kd, Bool.true_or, Bool.false_or] at h5 <;> replace h5 := Lib.hid h5
      all_goals
       repeat' (first | (with_reducible first | refine zA ?_ | refine qaac ?_ | refine qaab ?_ | refine zK ?_) | ((with_reducible first | refine qaal ?_ | refine qaah (by rw [hP]; exact qaa4) ?_); (try rw [hP]); simp -implicitDefEqProofs [*]) | ((with_reducible first | refine qaaf ?_ | refine qaag ?_); (try simp -implicitDefEqProofs [*])) | ((with_reducible refine qaam ?_); (try simp only [qaas, qaad, qaaj])) | ((with_reducible refine qaae rfl (fun h => ?_) (fun h => ?_)) <;> have h' := h <;> (try simp at h') <;> (try subst h')) | ((with_reducible refine qaaa (fun h => ?_) (fun h => ?_)) <;> have h' := h <;> (try simp at h') <;> (try subst h') <;> simp -implicitDefEqProofs [*]) | ((with_reducible refine qaai ?_ ?_); (first | omega | (unfold maxLen; omega)); simp -implicitDefEqProofs [*]) | (refine qacb (qabh p _ _ _ _ _ _ _ (by simp)) ⟨rfl, trivial⟩ ⟨rfl, trivial⟩ ?_; simp -implicitDefEqProofs [*]) | (with_reducible first | refine zM hm ?_ | refine zN hm ?_ | refine zO hm ?_ | refine zP hm ?_) | ((with_reducible refine qaar [] hm ?_ ?_ ?_ ?_) <;> (try simp only [zT, puth, Nat.reduceEqDiff, reduceIte, Nat.reduceAdd])) | (with_reducible first | refine za ?_ ?_ | refine zb ?_ ?_ ?_ ?_ | refine zc ?_ ?_ ?_ ?_ | refine zd ?_ ?_ ?_ ?_ | refine qaap ?_ ?_ | refine qaan ?_ ?_) | (with_reducible first | exact qaak | exact qaao | exact qaat | exact qaau | exact Co.refl _ | exact CoL.refl _ | exact CoLL.refl _) | ((with_reducible first | refine zga ?_ | refine zgb ?_); rfl) | ((with_reducible refine zgc ?_); (first | (with_reducible rfl) | rfl | (simp; done))) | ((with_reducible first | refine zgd ?_ | refine zge ?_); (first | omega | (simp; done))) | (refine qaaw ⟨?_, ?_⟩ ?_ <;> omega) | (exact Co.refl _) | (exact CoL.refl _) | (exact CoLL.refl _) | (refine qaaz ?_; omega) | (refine qaay ?_; first | omega | (simp_all; done)) | (with_reducible first | refine qaav ?_ ?_ | refine qaaq ?_ ?_) | ((refine qaax hJ (2, ?_, ?_) ?_ ?_ ?_; rotate_left 2; (with_reducible refine qaar [] hm ?_ ?_ ?_ ?_) <;> (try simp only [zT, puth, Nat.reduceEqDiff, reduceIte, Nat.reduceAdd]))) | fail)
       all_goals (try dsimp only)
       all_goals (exact ⟨by omega, h5.out⟩)
     ·replace h4 := Lib.hid h4
      repeat' (first | (with_reducible first | refine zA ?_ | refine qaac ?_ | refine qaab ?_ | refine zK ?_) | ((with_reducible first | refine qaal ?_ | refine qaah (by rw [hP]; exact qaa4) ?_); (try rw [hP]); simp -implicitDefEqProofs [*]) | ((with_reducible first | refine qaaf ?_ | refine qaag ?_); (try simp -implicitDefEqProofs [*])) | ((with_reducible refine qaam ?_); (try simp only [qaas, qaad, qaaj])) | ((with_reducible refine qaae rfl (fun h => ?_) (fun h => ?_)) <;> have h' := h <;> (try simp at h') <;> (try subst h')) | ((with_reducible refine qaaa (fun h => ?_) (fun h => ?_)) <;> have h' := h <;> (try simp at h') <;> (try subst h') <;> simp -implicitDefEqProofs [*]) | ((with_reducible refine qaai ?_ ?_); (first | omega | (unfold maxLen; omega)); simp -implicitDefEqProofs [*]) | (with_reducible first | refine zM hm ?_ | refine zN hm ?_ | refine zO hm ?_ | refine zP hm ?_) | ((with_reducible refine qaar [] hm ?_ ?_ ?_ ?_) <;> (try simp only [zT, puth, Nat.reduceEqDiff, reduceIte, Nat.reduceAdd])) | (with_reducible first | refine za ?_ ?_ | refine zb ?_ ?_ ?_ ?_ | refine zc ?_ ?_ ?_ ?_ | refine zd ?_ ?_ ?_ ?_ | refine qaap ?_ ?_ | refine qaan ?_ ?_) | (with_reducible first | exact qaak | exact qaao | exact qaat | exact qaau | exact Co.refl _ | exact CoL.refl _ | exact CoLL.refl _) | ((with_reducible first | refine zga ?_ | refine zgb ?_); rfl) | ((with_reducible refine zgc ?_); (first | (with_reducible rfl) | rfl | (simp; done))) | ((with_reducible first | refine zgd ?_ | refine zge ?_); (first | omega | (simp; done))) | (refine qaaw ⟨?_, ?_⟩ ?_ <;> omega) | (exact Co.refl _) | (exact CoL.refl _) | (exact CoLL.refl _) | (refine qaaz ?_; omega) | (refine qaay ?_; first | omega | (simp_all; done)) | (with_reducible first | refine qaav ?_ ?_ | refine qaaq ?_ ?_) | ((refine qaax hJo (i + 1, ?_, ?_) ?_ ?_ ?_; rotate_left 2; (with_reducible refine qaar [] hm ?_ ?_ ?_ ?_) <;> (try simp only [zT, puth, Nat.reduceEqDiff, reduceIte, Nat.reduceAdd]))) | fail)
      all_goals (try dsimp only)
      all_goals (refine ⟨by omega, ?_⟩; rw [h2.out]; congr 1; rw [h4.out]; exact qact _ rfl)
  ·have ke : (e == 0) = false := by simpa using he
   replace h2 := Lib.hid h2
   repeat' (first | (with_reducible first | refine zA ?_ | refine qaac ?_ | refine qaab ?_ | refine zK ?_) | ((with_reducible first | refine qaal ?_ | refine qaah (by rw [hP]; exact qaa4) ?_); (try rw [hP]); simp -implicitDefEqProofs [*]) | ((with_reducible first | refine qaaf ?_ | refine qaag ?_); (try simp -implicitDefEqProofs [*])) | ((with_reducible refine qaam ?_); (try simp only [qaas, qaad, qaaj])) | ((with_reducible refine qaae rfl (fun h => ?_) (fun h => ?_)) <;> have h' := h <;> (try simp at h') <;> (try subst h')) | ((with_reducible refine qaaa (fun h => ?_) (fun h => ?_)) <;> have h' := h <;> (try simp at h') <;> (try subst h') <;> simp -implicitDefEqProofs [*]) | ((with_reducible refine qaai ?_ ?_); (first | omega | (unfold maxLen; omega)); simp -implicitDefEqProofs [*]) | (with_reducible first | refine zM hm ?_ | refine zN hm ?_ | refine zO hm ?_ | refine zP hm ?_) | (refine qacw hm rfl ?_ (fun σ => rfl)) | fail)
   rw [h2.out, qafj he]
 ·obtain rfl : i = p.nodes.length := by omega
  rw [List.drop_length] at h2
  replace h2 := Lib.hid h2
  repeat' (first | (with_reducible first | refine zA ?_ | refine qaac ?_ | refine qaab ?_ | refine zK ?_) | ((with_reducible first | refine qaal ?_ | refine qaah (by rw [hP]; exact qaa4) ?_); (try rw [hP]); simp -implicitDefEqProofs [*]) | ((with_reducible first | refine qaaf ?_ | refine qaag ?_); (try simp -implicitDefEqProofs [*])) | ((with_reducible refine qaam ?_); (try simp only [qaas, qaad, qaaj])) | ((with_reducible refine qaae rfl (fun h => ?_) (fun h => ?_)) <;> have h' := h <;> (try simp at h') <;> (try subst h')) | ((with_reducible refine qaaa (fun h => ?_) (fun h => ?_)) <;> have h' := h <;> (try simp at h') <;> (try subst h') <;> simp -implicitDefEqProofs [*]) | ((with_reducible refine qaai ?_ ?_); (first | omega | (unfold maxLen; omega)); simp -implicitDefEqProofs [*]) | (with_reducible first | refine zM hm ?_ | refine zN hm ?_ | refine zO hm ?_ | refine zP hm ?_) | (refine qacw hm rfl ?_ (fun σ => rfl)) | fail)
  rw [h2.out, qact _ rfl]
end Go.Proofs.Ytnfjldobjgdiaaa
namespace Go.Proofs.Ytnfjldobjgdiaaa
set_option linter.all false
open Go.RowKit
abbrev qa7b : List SOper := [Oa 1 (.box 62 (.t 0)), Oa 2 (.mv (.c (.int .i64 0))), Oa 3 (.alloc 45 [(.int .i64 0), (.int .i64 0)])]
abbrev qa7a : List SOper := [Oa 7 (.faddr 0 (.t 1)), Oa 8 (.load (.t 7)), Oa 9 (.len false (.t 8)), Oa 10 (.bin .eql (.t 9) (.c (.int .i64 0))), Oa 11 (.mv (.t 10)), Oe 12 (.faddr 0 (.t 1)) 11 false, Oe 13 (.load (.t 12)) 11 false, Oe 14 (.len false (.t 13)) 11 false, Oe 15 (.bin .gtr (.t 14) (.c (.int .i64 8))) 11 false, Oa 16 (.pick (.t 11) (.c (.bool true)) (.t 15))]
abbrev qa69 : List SOper := [Oa 17 (.build [(.int .i64 0), (.int .i64 0)] [(0, 1, (.c (.int .i64 2))), (1, 1, (.c (.int .i64 (-1))))]), Oa 2 (.mv (.c (.int .i64 0))), Ob (.store 2 (.t 3) (.t 17))]
abbrev qa68 : List SOper := [Oa 4 (.mv (.c (.int .i64 0)))]
abbrev qa67 : List SOper := [Oa 18 (.faddr 0 (.t 1)), Oa 19 (.load (.t 18)), Oa 20 (.len false (.t 19)), Oa 21 (.mv (.c (.int .i64 0)))]
abbrev qa66 : List SOper := [Oa 22 (.bin .lss (.t 21) (.t 20))]
abbrev qa65 : List SOper := [Oa 23 (.mv (.t 21)), Oa 24 (.iaddr 1 (.t 19) (.t 21)), Oa 25 (.load (.t 24)), Oa 5 (.mv (.t 23)), Oa 6 (.mv (.t 25))]
abbrev qa64 : List SOper := [Oa 26 (.mv (.t 6)), Oa 27 (.bin .lss (.t 26) (.c (.int .i64 1))), Oa 28 (.mv (.t 27)), Oe 29 (.mv (.t 6)) 28 false, Oe 30 (.bin .gtr (.t 29) (.c (.int .i64 48))) 28 false, Oa 31 (.pick (.t 28) (.c (.bool true)) (.t 30))]
abbrev qa63 : List SOper := [Oa 32 (.mv (.t 5)), Oa 33 (.build [(.int .i64 0), (.int .i64 0)] [(0, 1, (.c (.int .i64 6))), (1, 1, (.t 32))]), Oa 2 (.mv (.c (.int .i64 0))), Ob (.store 2 (.t 3) (.t 33))]
abbrev qaym : List SOper := [Oa 34 (.mv (.t 4)), Oa 35 (.mv (.t 6)), Oa 36 (.bin .add (.t 34) (.t 35)), Oa 4 (.mv (.t 36))]
abbrev qayl : List SOper := [Oa 37 (.bin .add (.t 21) (.c (.int .i64 1))), Oa 21 (.mv (.t 37))]
def qak2 : SCode := (.seq (.reg false qa66 [3, 4, 19, 20, 21, 22]) (.seq (.cond (.t 22) .skip (.exit 0)) (.seq (.block 1 (.seq (.reg false qa65 [3, 4, 5, 6, 19, 20, 21]) (.seq (.seq (.reg false qa64 [3, 4, 5, 6, 19, 20, 21, 31]) (.cond (.t 31) (.seq (.reg false qa63 [2, 3]) .ret) .skip)) (.reg false qaym [3, 4, 19, 20, 21])))) (.reg false qayl [3, 4, 19, 20, 21]))))
abbrev qayk : List SOper := [Oa 38 (.mv (.t 4)), Oa 39 (.bin .rem (.t 38) (.c (.int .i64 8))), Oa 40 (.bin .neq (.t 39) (.c (.int .i64 0))), Oa 41 (.mv (.t 40)), Oe 42 (.mv (.t 4)) 41 false, Oe 43 (.bin .gtr (.t 42) (.c (.int .i64 256))) 41 false, Oa 44 (.pick (.t 41) (.c (.bool true)) (.t 43))]
abbrev qayj : List SOper := [Oa 45 (.build [(.int .i64 0), (.int .i64 0)] [(0, 1, (.c (.int .i64 6))), (1, 1, (.c (.int .i64 (-1))))]), Oa 2 (.mv (.c (.int .i64 0))), Ob (.store 2 (.t 3) (.t 45))]
abbrev qayi : List SOper := [Oa 46 (.mv (.t 4)), Oa 47 (.bin .quo (.t 46) (.c (.int .i64 8))), Oa 48 (.build [(.int .i64 0), (.int .i64 0)] []), Oa 2 (.mv (.t 47)), Ob (.store 2 (.t 3) (.t 48))]
def c_psize : SCode := (.seq (.reg false qa7b [1, 3]) (.seq (.seq (.reg false qa7a [1, 3, 16]) (.cond (.t 16) (.seq (.reg false qa69 [2, 3]) .ret) .skip)) (.seq (.reg false qa68 [1, 3, 4]) (.seq (.seq (.reg false qa67 [3, 4, 19, 20, 21]) (.block 0 (.loop qak2))) (.seq (.seq (.reg false qayk [3, 4, 44]) (.cond (.t 44) (.seq (.reg false qayj [2, 3]) .ret) .skip)) (.seq (.reg false qayi [2, 3]) .ret))))))
theorem qamv : comp Try.prog 49 ((Try.f32.body).getD .skip) = some c_psize.erase := by kernel_rfl
abbrev qa5c : List SOper := [Oa 1 (.box 62 (.t 0)), Oa 2 (.mv (.c (.int .i64 0))), Oa 3 (.alloc 45 [(.int .i64 0), (.int .i64 0)])]
abbrev qa5b : List SOper := [Oa 6 (.faddr 0 (.t 1)), Oa 7 (.load (.t 6)), Oa 8 (.len false (.t 7)), Oa 9 (.bin .lss (.t 8) (.c (.int .i64 1))), Oa 10 (.mv (.t 9)), Oe 11 (.faddr 0 (.t 1)) 10 false, Oe 12 (.load (.t 11)) 10 false, Oe 13 (.len false (.t 12)) 10 false, Oe 14 (.bin .gtr (.t 13) (.c (.int .i64 8))) 10 false, Oa 15 (.pick (.t 10) (.c (.bool true)) (.t 14))]
abbrev qa5a : List SOper := [Oc 16 39 [(.c (.int .i64 2)), (.c (.int .i64 (-1)))], Oa 2 (.mv (.c (.int .i64 0))), Ob (.store 2 (.t 3) (.t 16))]
abbrev qa49 : List SOper := [Oa 4 (.mv (.c (.int .i64 0)))]
abbrev qa48 : List SOper := [Oa 5 (.mv (.c (.int .i64 0)))]
abbrev qa47 : List SOper := [Oa 17 (.mv (.t 5)), Oa 18 (.faddr 0 (.t 1)), Oa 19 (.load (.t 18)), Oa 20 (.len false (.t 19)), Oa 21 (.bin .lss (.t 17) (.t 20))]
abbrev qa46 : List SOper := [Oa 24 (.faddr 0 (.t 1)), Oa 25 (.load (.t 24)), Oa 26 (.mv (.t 5)), Oa 27 (.iaddr 1 (.t 25) (.t 26)), Oa 28 (.load (.t 27)), Oa 29 (.bin .lss (.t 28) (.c (.int .i64 1))), Oa 30 (.mv (.t 29)), Oe 31 (.faddr 0 (.t 1)) 30 false, Oe 32 (.load (.t 31)) 30 false, Oe 33 (.mv (.t 5)) 30 false, Oe 34 (.iaddr 1 (.t 32) (.t 33)) 30 false, Oe 35 (.load (.t 34)) 30 false, Oe 36 (.bin .gtr (.t 35) (.c (.int .i64 48))) 30 false, Oa 37 (.pick (.t 30) (.c (.bool true)) (.t 36))]
abbrev qa45 : List SOper := [Oa 38 (.mv (.t 5)), Oc 39 39 [(.c (.int .i64 6)), (.t 38)], Oa 2 (.mv (.c (.int .i64 0))), Ob (.store 2 (.t 3) (.t 39))]
abbrev qa44 : List SOper := [Oa 40 (.mv (.t 4)), Oa 41 (.faddr 0 (.t 1)), Oa 42 (.load (.t 41)), Oa 43 (.mv (.t 5)), Oa 44 (.iaddr 1 (.t 42) (.t 43)), Oa 45 (.load (.t 44)), Oa 46 (.bin .add (.t 40) (.t 45)), Oa 4 (.mv (.t 46))]
abbrev qavm : List SOper := [Oa 22 (.mv (.t 5)), Oa 23 (.bin .add (.t 22) (.c (.int .i64 1))), Oa 5 (.mv (.t 23))]
def qaks : SCode := (.seq (.seq (.reg false qa47 [1, 3, 4, 5, 21]) (.cond (.t 21) .skip (.exit 0))) (.seq (.block 1 (.seq (.seq (.reg false qa46 [1, 3, 4, 5, 37]) (.cond (.t 37) (.seq (.reg false qa45 [2, 3]) .ret) .skip)) (.reg false qa44 [1, 3, 4, 5]))) (.reg false qavm [1, 3, 4, 5])))
abbrev qavl : List SOper := [Oa 47 (.mv (.t 4)), Oa 48 (.bin .rem (.t 47) (.c (.int .i64 8))), Oa 49 (.bin .neq (.t 48) (.c (.int .i64 0))), Oa 50 (.mv (.t 49)), Oe 51 (.mv (.t 4)) 50 false, Oe 52 (.bin .gtr (.t 51) (.c (.int .i64 256))) 50 false, Oa 53 (.pick (.t 50) (.c (.bool true)) (.t 52))]
abbrev qavk : List SOper := [Oc 54 39 [(.c (.int .i64 6)), (.c (.int .i64 (-1)))], Oa 2 (.mv (.c (.int .i64 0))), Ob (.store 2 (.t 3) (.t 54))]
abbrev qavj : List SOper := [Oa 55 (.mv (.t 4)), Oa 56 (.bin .quo (.t 55) (.c (.int .i64 8))), Oa 57 (.build [(.int .i64 0), (.int .i64 0)] []), Oa 2 (.mv (.t 56)), Ob (.store 2 (.t 3) (.t 57))]
def c_rsize : SCode := (.seq (.reg false qa5c [1, 3]) (.seq (.seq (.reg false qa5b [1, 3, 15]) (.cond (.t 15) (.seq (.reg false qa5a [2, 3]) .ret) .skip)) (.seq (.reg false qa49 [1, 3, 4]) (.seq (.seq (.reg false qa48 [1, 3, 4, 5]) (.block 0 (.loop qaks))) (.seq (.seq (.reg false qavl [3, 4, 53]) (.cond (.t 53) (.seq (.reg false qavk [2, 3]) .ret) .skip)) (.seq (.reg false qavj [2, 3]) .ret))))))
theorem qamn : comp Try.prog 58 ((Try.f40.body).getD .skip) = some c_rsize.erase := by kernel_rfl
abbrev c_rF_r1 : List SOper := [Oa 4 (.alloc 45 [(.int .i64 0), (.int .i64 0)])]
abbrev c_rF_r2 : List SOper := [Oa 5 (.mv (.t 0)), Oa 6 (.mv (.t 1)), Oa 7 (.build [(.int .i64 0), (.int .i64 0)] [(0, 1, (.t 5)), (1, 1, (.t 6))]), Ob (.store 2 (.t 4) (.t 7))]
def c_rF : SCode := (.seq (.reg false c_rF_r1 [0, 1, 4]) (.seq (.reg false c_rF_r2 [4]) .ret))
theorem qa95 : comp Try.prog 8 ((Try.f39.body).getD .skip) = some c_rF.erase := by kernel_rfl
end Go.Proofs.Ytnfjldobjgdiaaa
namespace Go.Proofs.Ytnfjldobjgdiaaa
set_option linter.all false
open Go.RowKit
attribute [local simp] qabs qabr qaa5 qabc qaa6 qabb qabp qabq qaa1 qab3 SOp.run SX.ev putd puts argS upds SOp.touch SSt.keep SSt.skip gets geth puth delh idOf SV.cells? setL qadd qade sbin eq0 eq1 eqL qadc qacd qace qaas qabt qaad qabu qab4 qaaj qaa3 FrzOk qabl qabf qabj qabk qaa7 qabe qab0 qabg qaa9 qabm qaa8 frzS frzH frz frz1 frz0 SlotsM ObjsM ObjM rn ren ren1 ren0 qab9 qaay qaaz qab8 qab1 qacq qacp CoL qabn qacs dels adds idsH qacf
attribute [local simp] nums
theorem qaby : qahj Try.prog 45 = some true := by kernel_rfl
theorem qabo : qack Try.prog 45 = some 2 := by kernel_rfl
theorem qaji {X : Cx} {sl : Sl} {hp : Hp} {t u nx id n : Nat} {ty : TypeId} {cs ds : List SV} {v v' r : SV} (hm : X.m = 0) (hne : t ≠ u) (hv : gets sl t = v') (hvv : v' = v) (hN : NoN v) (hu : gets sl u = .ptr id 0) (h : geth hp id = some (.cells ty cs)) (ha : qahj X.P ty = some true) (hn : qack X.P ty = some n) (hl : ds.length = n) (e : CoL cs ds) (hr : r = .tup [v, .agg ds]) (hd : ∀ σ, ds.map (Go.Proofs.Ytnfjldobjgdiaaa.ren σ) = ds) : QFun X [.tmp t, .cell u ty] 0 r [] .ret ⟨sl, hp, nx⟩ := by
 subst hr hl hvv
 have hw : Wk X ⟨sl, hp, nx⟩ ⟨[(t, v'), (u, .ptr 0 0)], [(0, .cells ty ds)], 1⟩ := by
  refine qaar [(0, id)] hm ⟨?_, ?_, trivial⟩ ⟨⟨_, h, rfl, by rw [hd]; exact e⟩, trivial⟩ rfl (by simp)
  ·rw [hv, hN]; exact Co.refl _
  ·rw [hu]; exact Co.refl _
 refine ⟨_, hw, ?_, trivial, by simp⟩
 simp [qa85, resL, resV, one_, gets, ha, hn, SOp.run, SX.ev, geth, hne]
theorem qaga {X : Cx} {sl : Sl} {hp : Hp} {u nx id n : Nat} {ty : TypeId} {cs ds : List SV} {r : SV} (hm : X.m = 0) (hu : gets sl u = .ptr id 0) (h : geth hp id = some (.cells ty cs)) (ha : qahj X.P ty = some true) (hn : qack X.P ty = some n) (hl : ds.length = n) (e : CoL cs ds) (hr : r = .agg ds) (hd : ∀ σ, ds.map (Go.Proofs.Ytnfjldobjgdiaaa.ren σ) = ds) : QFun X [.cell u ty] 0 r [] .ret ⟨sl, hp, nx⟩ := by
 subst hr hl
 have hw : Wk X ⟨sl, hp, nx⟩ ⟨[(u, .ptr 0 0)], [(0, .cells ty ds)], 1⟩ := by
  refine qaar [(0, id)] hm ⟨?_, trivial⟩ ⟨⟨_, h, rfl, by rw [hd]; exact e⟩, trivial⟩ rfl (by simp)
  rw [hu]; exact Co.refl _
 refine ⟨_, hw, ?_, trivial, by simp⟩
 simp [qa85, resL, resV, one_, gets, ha, hn, SOp.run, SX.ev, geth]
theorem rF_s (c a : Int) (q : Nat) : SCalls Try.prog 39 [.int .i64 c, .int .i64 a] [] q (.agg [.int .i64 c, .int .i64 a]) [] := by
 refine qabw ?_ (fun _ => rfl) (fun _ => rfl) rfl q
 refine qaba (N := 8) Try.func39 rfl rfl (by kernel_rfl) qa95 (by simp) (by repeat' (first | exact trivial | refine And.intro ?_ ?_ | rfl | decide | exact PureR.ren _)) (by repeat' (first | exact trivial | refine And.intro ?_ ?_ | rfl | decide | exact PureR.ren _)) ?_
 rintro X hP hN hm
 unfold c_rF
 repeat' (first | (with_reducible first | refine zA ?_ | refine qaac ?_ | refine qaab ?_ | refine zK ?_) | ((with_reducible first | refine qaal ?_ | refine qaah (by rw [hP]; exact qaa4) ?_); (try rw [hP]); simp -implicitDefEqProofs [*]) | ((with_reducible first | refine qaaf ?_ | refine qaag ?_); (try simp -implicitDefEqProofs [*])) | ((with_reducible refine qaam ?_); (try simp only [qaas, qaad, qaaj])) | ((with_reducible refine qaae rfl (fun h => ?_) (fun h => ?_)) <;> have h' := h <;> (try simp at h') <;> (try subst h')) | ((with_reducible refine qaaa (fun h => ?_) (fun h => ?_)) <;> have h' := h <;> (try simp at h') <;> (try subst h') <;> simp -implicitDefEqProofs [*]) | ((with_reducible refine qaai ?_ ?_); (first | omega | (unfold maxLen; omega)); simp -implicitDefEqProofs [*]) | (with_reducible first | refine zM hm ?_ | refine zN hm ?_ | refine zO hm ?_ | refine zP hm ?_) | (refine qaga hm rfl rfl (by rw [hP]; exact qaby) (by rw [hP]; exact qabo) rfl (CoL.refl _) rfl (fun σ => rfl)) | fail)
def qaiz (ws : List Int) : SV := .tup [.int .i64 (qapu ws), .agg [.int .i64 (qahl ws), .int .i64 (qa84 ws)]]
theorem qapt {ws : List Int} (h : ws.length = 0 ∨ 8 < ws.length) : qaiz ws = .tup [.int .i64 0, .agg [.int .i64 2, .int .i64 (-1)]] := by
 have h1 : qahl ws = 2 := by unfold qahl; rw [if_pos h]
 have h2 : qa84 ws = -1 := by unfold qa84; rw [if_pos h]
 have h3 : qapu ws = 0 := by unfold qapu; rw [h1]; rfl
 unfold qaiz; rw [h1, h2, h3]
theorem qa1a {ws : List Int} (h : ¬ (ws.length = 0 ∨ 8 < ws.length)) {i : Nat} (ha : ∀ j, j < i → wBad ws j = false) (hi : i < ws.length) (hb : wBad ws i = true) : qaiz ws = .tup [.int .i64 0, .agg [.int .i64 6, .int .i64 i]] := by
 have e := qa92 (wBad ws) ws.length i ha hb hi
 have h1 : qahl ws = 6 := by unfold qahl; rw [if_neg h, e, if_pos hi]
 have h2 : qa84 ws = i := by unfold qa84; rw [if_neg h, e, if_pos hi]
 have h3 : qapu ws = 0 := by unfold qapu; rw [h1]; rfl
 unfold qaiz; rw [h1, h2, h3]
theorem qa09 {ws : List Int} (h : ¬ (ws.length = 0 ∨ 8 < ws.length)) (ha : ∀ j, j < ws.length → wBad ws j = false) : qaiz ws = if qadt ws ws.length % 8 ≠ 0 ∨ 256 < qadt ws ws.length then .tup [.int .i64 0, .agg [.int .i64 6, .int .i64 (-1)]] else .tup [.int .i64 (qadt ws ws.length / 8), .agg [.int .i64 0, .int .i64 0]] := by
 have e := qarc (wBad ws) ws.length ha
 have hc : qahl ws = if qadt ws ws.length % 8 ≠ 0 ∨ 256 < qadt ws ws.length then 6 else 0 := by unfold qahl; rw [if_neg h, e, if_neg (by omega)]
 have hA : qa84 ws = if qadt ws ws.length % 8 ≠ 0 ∨ 256 < qadt ws ws.length then -1 else 0 := by unfold qa84; rw [if_neg h, e, if_neg (by omega)]
 unfold qaiz qapu
 by_cases h1 : qadt ws ws.length % 8 ≠ 0 ∨ 256 < qadt ws ws.length
 ·rw [if_pos h1] at hc hA ⊢; rw [hc, hA]; rfl
 ·rw [if_neg h1] at hc hA ⊢; rw [hc, hA]; rfl
theorem qagd {ws : List Int} (h : ¬ (ws.length = 0 ∨ 8 < ws.length)) {i : Nat} (ha : ∀ j, j < i → wBad ws j = false) (hi : i ≤ ws.length) : 0 ≤ qadt ws i ∧ qadt ws i ≤ 1000 := by
 have := wSum ha; omega
theorem qbbq (ws : List Int) (q : Nat) : SCalls Try.prog 32 [.agg [nums .i64 ws]] [] q (qaiz ws) [] := by
 refine qabw ?_ (fun _ => rfl) (fun _ => rfl) rfl q
 refine qaba (N := 49) Try.func32 rfl rfl (by kernel_rfl) qamv (by simp) (by repeat' (first | exact trivial | refine And.intro ?_ ?_ | rfl | decide | exact PureR.ren _)) (by repeat' (first | exact trivial | refine And.intro ?_ ?_ | rfl | decide | exact PureR.ren _)) ?_
 rintro X hP hN hm
 unfold c_psize
 by_cases hh : ws.length = 0 ∨ 8 < ws.length
 ·rw [qapt hh]
  have k0 : ((ws.length : Int) == 0) = decide (ws.length = 0) := by rw [Bool.eq_iff_iff]; simp
  cases k1 : decide (ws.length = 0) <;> rw [k1] at k0
  ·have k2 : decide (8 < (ws.length : Int)) = true := by have := of_decide_eq_false k1; rw [decide_eq_true_eq]; omega
   replace hh := Lib.hid hh
   clear k1
   repeat' (first | (with_reducible first | refine zA ?_ | refine qaac ?_ | refine qaab ?_ | refine zK ?_) | ((with_reducible first | refine qaal ?_ | refine qaah (by rw [hP]; exact qaa4) ?_); (try rw [hP]); simp -implicitDefEqProofs [*]) | ((with_reducible first | refine qaaf ?_ | refine qaag ?_); (try simp -implicitDefEqProofs [*])) | ((with_reducible refine qaam ?_); (try simp only [qaas, qaad, qaaj])) | ((with_reducible refine qaae rfl (fun h => ?_) (fun h => ?_)) <;> have h' := h <;> (try simp at h') <;> (try subst h')) | ((with_reducible refine qaaa (fun h => ?_) (fun h => ?_)) <;> have h' := h <;> (try simp at h') <;> (try subst h') <;> simp -implicitDefEqProofs [*]) | ((with_reducible refine qaai ?_ ?_); (first | omega | (unfold maxLen; omega)); simp -implicitDefEqProofs [*]) | (with_reducible first | refine zM hm ?_ | refine zN hm ?_ | refine zO hm ?_ | refine zP hm ?_) | (refine qaji hm (by decide) rfl rfl (qae3 _ _) rfl rfl (by rw [hP]; exact qaby) (by rw [hP]; exact qabo) rfl (CoL.refl _) rfl (fun σ => rfl)) | fail)
  ·replace hh := Lib.hid hh
   clear k1
   repeat' (first | (with_reducible first | refine zA ?_ | refine qaac ?_ | refine qaab ?_ | refine zK ?_) | ((with_reducible first | refine qaal ?_ | refine qaah (by rw [hP]; exact qaa4) ?_); (try rw [hP]); simp -implicitDefEqProofs [*]) | ((with_reducible first | refine qaaf ?_ | refine qaag ?_); (try simp -implicitDefEqProofs [*])) | ((with_reducible refine qaam ?_); (try simp only [qaas, qaad, qaaj])) | ((with_reducible refine qaae rfl (fun h => ?_) (fun h => ?_)) <;> have h' := h <;> (try simp at h') <;> (try subst h')) | ((with_reducible refine qaaa (fun h => ?_) (fun h => ?_)) <;> have h' := h <;> (try simp at h') <;> (try subst h') <;> simp -implicitDefEqProofs [*]) | ((with_reducible refine qaai ?_ ?_); (first | omega | (unfold maxLen; omega)); simp -implicitDefEqProofs [*]) | (with_reducible first | refine zM hm ?_ | refine zN hm ?_ | refine zO hm ?_ | refine zP hm ?_) | (refine qaji hm (by decide) rfl rfl (qae3 _ _) rfl rfl (by rw [hP]; exact qaby) (by rw [hP]; exact qabo) rfl (CoL.refl _) rfl (fun σ => rfl)) | fail)
 have k0 : ((ws.length : Int) == 0) = false := by rw [beq_eq_false_iff_ne]; omega
 have k1 : decide (8 < (ws.length : Int)) = false := by rw [decide_eq_false_iff_not]; omega
 have hl : ws.length ≤ 8 := by omega
 replace hh := Lib.hid hh
 generalize hF : qaiz ws = F
 repeat' (first | (with_reducible first | refine zA ?_ | refine qaac ?_ | refine qaab ?_ | refine zK ?_) | ((with_reducible first | refine qaal ?_ | refine qaah (by rw [hP]; exact qaa4) ?_); (try rw [hP]); simp -implicitDefEqProofs [*]) | ((with_reducible first | refine qaaf ?_ | refine qaag ?_); (try simp -implicitDefEqProofs [*])) | ((with_reducible refine qaam ?_); (try simp only [qaas, qaad, qaaj])) | ((with_reducible refine qaae rfl (fun h => ?_) (fun h => ?_)) <;> have h' := h <;> (try simp at h') <;> (try subst h')) | ((with_reducible refine qaaa (fun h => ?_) (fun h => ?_)) <;> have h' := h <;> (try simp at h') <;> (try subst h') <;> simp -implicitDefEqProofs [*]) | ((with_reducible refine qaai ?_ ?_); (first | omega | (unfold maxLen; omega)); simp -implicitDefEqProofs [*]) | (with_reducible first | refine zM hm ?_ | refine zN hm ?_ | refine zO hm ?_ | refine zP hm ?_) | fail)
 refine qaa0 (qabi (fun s (i : Nat) => s.turn [(4, .int .i64 (qadt ws i)), (21, .int .i64 i)] []) (fun i => i ≤ ws.length ∧ ∀ j, j < i → wBad ws j = false) (fun i => ws.length - i) 0 ?_ ⟨by simp, by simp⟩ ?_)
 ·repeat' (first | ((with_reducible refine qaar [] hm ?_ ?_ ?_ ?_) <;> (try simp only [zT, puth, Nat.reduceEqDiff, reduceIte, Nat.reduceAdd])) | (with_reducible first | refine za ?_ ?_ | refine zb ?_ ?_ ?_ ?_ | refine zc ?_ ?_ ?_ ?_ | refine zd ?_ ?_ ?_ ?_ | refine qaap ?_ ?_ | refine qaan ?_ ?_) | (with_reducible first | exact qaak | exact qaao | exact qaat | exact qaau | exact Co.refl _ | exact CoL.refl _ | exact CoLL.refl _) | ((with_reducible first | refine zga ?_ | refine zgb ?_); rfl) | ((with_reducible refine zgc ?_); (first | (with_reducible rfl) | rfl | (simp; done))) | ((with_reducible first | refine zgd ?_ | refine zge ?_); (first | omega | (simp; done))) | (refine qaaw ⟨?_, ?_⟩ ?_ <;> omega) | (exact Co.refl _) | (exact CoL.refl _) | (exact CoLL.refl _) | (refine qaaz ?_; omega) | (refine qaay ?_; first | omega | (simp_all; done)) | (with_reducible first | refine qaav ?_ ?_ | refine qaaq ?_ ?_) | fail)
 rintro J hJ i ⟨h1, h2⟩
 have hsum := qagd hh.out h2 h1
 unfold qak2
 simp only [zT, puth, Nat.reduceEqDiff, reduceIte, Nat.reduceAdd] at h1 h2 ⊢
 rcases Nat.lt_or_ge i ws.length with hi | hi
 ·have wi : IntKind.i64.wrap ((i : Int) + 1) = (i : Int) + 1 := qaa2 (by omega) (by omega)
  have hx : el ws i = ws[i] := by unfold el; simp [hi]
  have hb : wBad ws i = (decide (ws[i] < 1) || decide (48 < ws[i])) := by unfold wBad; rw [hx, Bool.eq_iff_iff]; simp
  have hn : qadt ws (i + 1) = qadt ws i + ws[i] := by rw [← hx]; rfl
  generalize hxx : ws[i] = x at hb hn hx
  cases hbb : wBad ws i
  ·rw [hbb] at hb
   have hb' := Bool.or_eq_false_iff.1 hb.symm
   obtain ⟨v1, v2⟩ := hb'
   have hall : ∀ j, j < i + 1 → wBad ws j = false := fun j hj => by
    rcases Nat.lt_or_ge j i with q | q
    ·exact h2 j q
    ·obtain rfl : j = i := by omega
     exact hbb
   have hsx := qagd hh.out hall hi
   rw [hn] at hsx
   have ws1 : IntKind.i64.wrap (qadt ws i + x) = qadt ws (i + 1) := by rw [hn]; exact qaa2 (by omega) (by omega)
   replace hall := Lib.hid hall
   replace h2 := Lib.hid h2
   clear hb hbb hx hn
   repeat' (first | (with_reducible first | refine zA ?_ | refine qaac ?_ | refine qaab ?_ | refine zK ?_) | ((with_reducible first | refine qaal ?_ | refine qaah (by rw [hP]; exact qaa4) ?_); (try rw [hP]); simp -implicitDefEqProofs [*]) | ((with_reducible first | refine qaaf ?_ | refine qaag ?_); (try simp -implicitDefEqProofs [*])) | ((with_reducible refine qaam ?_); (try simp only [qaas, qaad, qaaj])) | ((with_reducible refine qaae rfl (fun h => ?_) (fun h => ?_)) <;> have h' := h <;> (try simp at h') <;> (try subst h')) | ((with_reducible refine qaaa (fun h => ?_) (fun h => ?_)) <;> have h' := h <;> (try simp at h') <;> (try subst h') <;> simp -implicitDefEqProofs [*]) | ((with_reducible refine qaai ?_ ?_); (first | omega | (unfold maxLen; omega)); simp -implicitDefEqProofs [*]) | (with_reducible first | refine zM hm ?_ | refine zN hm ?_ | refine zO hm ?_ | refine zP hm ?_) | ((with_reducible refine qaar [] hm ?_ ?_ ?_ ?_) <;> (try simp only [zT, puth, Nat.reduceEqDiff, reduceIte, Nat.reduceAdd])) | (with_reducible first | refine za ?_ ?_ | refine zb ?_ ?_ ?_ ?_ | refine zc ?_ ?_ ?_ ?_ | refine zd ?_ ?_ ?_ ?_ | refine qaap ?_ ?_ | refine qaan ?_ ?_) | (with_reducible first | exact qaak | exact qaao | exact qaat | exact qaau | exact Co.refl _ | exact CoL.refl _ | exact CoLL.refl _) | ((with_reducible first | refine zga ?_ | refine zgb ?_); rfl) | ((with_reducible refine zgc ?_); (first | (with_reducible rfl) | rfl | (simp; done))) | ((with_reducible first | refine zgd ?_ | refine zge ?_); (first | omega | (simp; done))) | (refine qaaw ⟨?_, ?_⟩ ?_ <;> omega) | (exact Co.refl _) | (exact CoL.refl _) | (exact CoLL.refl _) | (refine qaaz ?_; omega) | (refine qaay ?_; first | omega | (simp_all; done)) | (with_reducible first | refine qaav ?_ ?_ | refine qaaq ?_ ?_) | ((refine qaax hJ (i + 1) ?_ ?_ ?_; (with_reducible refine qaar [] hm ?_ ?_ ?_ ?_) <;> (try simp only [zT, puth, Nat.reduceEqDiff, reduceIte, Nat.reduceAdd]))) | fail)
   exact ⟨by omega, hall.out⟩
  ·have hbad := qa1a hh.out h2 hi hbb
   rw [hF] at hbad
   rw [hbb] at hb
   replace hb := Lib.hid hb
   replace h2 := Lib.hid h2
   replace hbad := Lib.hid hbad
   clear hbb hx hn
   repeat' (first | (with_reducible first | refine zA ?_ | refine qaac ?_ | refine qaab ?_ | refine zK ?_) | ((with_reducible first | refine qaal ?_ | refine qaah (by rw [hP]; exact qaa4) ?_); (try rw [hP]); simp -implicitDefEqProofs [*]) | ((with_reducible first | refine qaaf ?_ | refine qaag ?_); (try simp -implicitDefEqProofs [*])) | ((with_reducible refine qaam ?_); (try simp only [qaas, qaad, qaaj])) | ((with_reducible refine qaae rfl (fun h => ?_) (fun h => ?_)) <;> have h' := h <;> (try simp at h') <;> (try subst h')) | ((with_reducible refine qaaa (fun h => ?_) (fun h => ?_)) <;> have h' := h <;> (try simp at h') <;> (try subst h') <;> simp -implicitDefEqProofs [*]) | ((with_reducible refine qaai ?_ ?_); (first | omega | (unfold maxLen; omega)); simp -implicitDefEqProofs [*]) | (with_reducible first | refine zM hm ?_ | refine zN hm ?_ | refine zO hm ?_ | refine zP hm ?_) | (refine qaji hm (by decide) rfl rfl (qae3 _ _) rfl rfl (by rw [hP]; exact qaby) (by rw [hP]; exact qabo) rfl (CoL.refl _) hbad.out (fun σ => rfl)) | fail)
   all_goals (exfalso; have := hb.out; simp_all; omega)
 ·obtain rfl : i = ws.length := by omega
  have hend := qa09 hh.out h2
  rw [hF] at hend
  have t1 : (qadt ws ws.length).tmod 8 = qadt ws ws.length % 8 := Int.tmod_eq_emod_of_nonneg hsum.1
  have t2 : (qadt ws ws.length).tdiv 8 = qadt ws ws.length / 8 := Int.tdiv_eq_ediv_of_nonneg hsum.1
  generalize qadt ws ws.length = S at hend t1 t2 hsum
  have t3 : IntKind.i64.wrap (S % 8) = S % 8 := IntWalk.i64_in _ ⟨by omega, by omega⟩
  have t4 : IntKind.i64.wrap (S / 8) = S / 8 := IntWalk.i64_in _ ⟨by omega, by omega⟩
  replace h2 := Lib.hid h2
  replace hend := Lib.hid hend
  cases k3 : (S % 8 != 0) <;> cases k4 : decide (256 < S)
  all_goals
   repeat' (first | (with_reducible first | refine zA ?_ | refine qaac ?_ | refine qaab ?_ | refine zK ?_) | ((with_reducible first | refine qaal ?_ | refine qaah (by rw [hP]; exact qaa4) ?_); (try rw [hP]); simp -implicitDefEqProofs [*]) | ((with_reducible first | refine qaaf ?_ | refine qaag ?_); (try simp -implicitDefEqProofs [*])) | ((with_reducible refine qaam ?_); (try simp only [qaas, qaad, qaaj])) | ((with_reducible refine qaae rfl (fun h => ?_) (fun h => ?_)) <;> have h' := h <;> (try simp at h') <;> (try subst h')) | ((with_reducible refine qaaa (fun h => ?_) (fun h => ?_)) <;> have h' := h <;> (try simp at h') <;> (try subst h') <;> simp -implicitDefEqProofs [*]) | ((with_reducible refine qaai ?_ ?_); (first | omega | (unfold maxLen; omega)); simp -implicitDefEqProofs [*]) | (with_reducible first | refine zM hm ?_ | refine zN hm ?_ | refine zO hm ?_ | refine zP hm ?_) | (refine qaji hm (by decide) rfl rfl (qae3 _ _) rfl rfl (by rw [hP]; exact qaby) (by rw [hP]; exact qabo) rfl (CoL.refl _) ?_ (fun σ => rfl)) | fail)
   rw [hend.out]
   simp at k3 k4
   simp [*]
   try omega
theorem qbbl (ws : List Int) (q : Nat) : SCalls Try.prog 40 [.agg [nums .i64 ws]] [] q (qaiz ws) [] := by
 refine qabw ?_ (fun _ => rfl) (fun _ => rfl) rfl q
 refine qaba (N := 58) Try.func40 rfl rfl (by kernel_rfl) qamn (by simp) (by repeat' (first | exact trivial | refine And.intro ?_ ?_ | rfl | decide | exact PureR.ren _)) (by repeat' (first | exact trivial | refine And.intro ?_ ?_ | rfl | decide | exact PureR.ren _)) ?_
 rintro X hP hN hm
 unfold c_rsize
 by_cases hh : ws.length = 0 ∨ 8 < ws.length
 ·rw [qapt hh]
  have k0 : decide ((ws.length : Int) < 1) = decide (ws.length = 0) := decide_eq_decide.2 (by omega)
  cases k1 : decide (ws.length = 0) <;> rw [k1] at k0
  ·have k2 : decide (8 < (ws.length : Int)) = true := by have := of_decide_eq_false k1; rw [decide_eq_true_eq]; omega
   replace hh := Lib.hid hh
   clear k1
   repeat' (first | (with_reducible first | refine zA ?_ | refine qaac ?_ | refine qaab ?_ | refine zK ?_) | ((with_reducible first | refine qaal ?_ | refine qaah (by rw [hP]; exact qaa4) ?_); (try rw [hP]); simp -implicitDefEqProofs [*]) | ((with_reducible first | refine qaaf ?_ | refine qaag ?_); (try simp -implicitDefEqProofs [*])) | ((with_reducible refine qaam ?_); (try simp only [qaas, qaad, qaaj])) | ((with_reducible refine qaae rfl (fun h => ?_) (fun h => ?_)) <;> have h' := h <;> (try simp at h') <;> (try subst h')) | ((with_reducible refine qaaa (fun h => ?_) (fun h => ?_)) <;> have h' := h <;> (try simp at h') <;> (try subst h') <;> simp -implicitDefEqProofs [*]) | ((with_reducible refine qaai ?_ ?_); (first | omega | (unfold maxLen; omega)); simp -implicitDefEqProofs [*]) | (refine qabd (rF_s _ _ _) ?_; simp -implicitDefEqProofs [*]) | (with_reducible first | refine zM hm ?_ | refine zN hm ?_ | refine zO hm ?_ | refine zP hm ?_) | (refine qaji hm (by decide) rfl rfl (qae3 _ _) rfl rfl (by rw [hP]; exact qaby) (by rw [hP]; exact qabo) rfl (CoL.refl _) rfl (fun σ => rfl)) | fail)
  ·replace hh := Lib.hid hh
   clear k1
   repeat' (first | (with_reducible first | refine zA ?_ | refine qaac ?_ | refine qaab ?_ | refine zK ?_) | ((with_reducible first | refine qaal ?_ | refine qaah (by rw [hP]; exact qaa4) ?_); (try rw [hP]); simp -implicitDefEqProofs [*]) | ((with_reducible first | refine qaaf ?_ | refine qaag ?_); (try simp -implicitDefEqProofs [*])) | ((with_reducible refine qaam ?_); (try simp only [qaas, qaad, qaaj])) | ((with_reducible refine qaae rfl (fun h => ?_) (fun h => ?_)) <;> have h' := h <;> (try simp at h') <;> (try subst h')) | ((with_reducible refine qaaa (fun h => ?_) (fun h => ?_)) <;> have h' := h <;> (try simp at h') <;> (try subst h') <;> simp -implicitDefEqProofs [*]) | ((with_reducible refine qaai ?_ ?_); (first | omega | (unfold maxLen; omega)); simp -implicitDefEqProofs [*]) | (refine qabd (rF_s _ _ _) ?_; simp -implicitDefEqProofs [*]) | (with_reducible first | refine zM hm ?_ | refine zN hm ?_ | refine zO hm ?_ | refine zP hm ?_) | (refine qaji hm (by decide) rfl rfl (qae3 _ _) rfl rfl (by rw [hP]; exact qaby) (by rw [hP]; exact qabo) rfl (CoL.refl _) rfl (fun σ => rfl)) | fail)
 have k0 : decide ((ws.length : Int) < 1) = false := by rw [decide_eq_false_iff_not]; omega
 have k1 : decide (8 < (ws.length : Int)) = false := by rw [decide_eq_false_iff_not]; omega
 have hl : ws.length ≤ 8 := by omega
 replace hh := Lib.hid hh
 generalize hF : qaiz ws = F
 repeat' (first | (with_reducible first | refine zA ?_ | refine qaac ?_ | refine qaab ?_ | refine zK ?_) | ((with_reducible first | refine qaal ?_ | refine qaah (by rw [hP]; exact qaa4) ?_); (try rw [hP]); simp -implicitDefEqProofs [*]) | ((with_reducible first | refine qaaf ?_ | refine qaag ?_); (try simp -implicitDefEqProofs [*])) | ((with_reducible refine qaam ?_); (try simp only [qaas, qaad, qaaj])) | ((with_reducible refine qaae rfl (fun h => ?_) (fun h => ?_)) <;> have h' := h <;> (try simp at h') <;> (try subst h')) | ((with_reducible refine qaaa (fun h => ?_) (fun h => ?_)) <;> have h' := h <;> (try simp at h') <;> (try subst h') <;> simp -implicitDefEqProofs [*]) | ((with_reducible refine qaai ?_ ?_); (first | omega | (unfold maxLen; omega)); simp -implicitDefEqProofs [*]) | (with_reducible first | refine zM hm ?_ | refine zN hm ?_ | refine zO hm ?_ | refine zP hm ?_) | fail)
 refine qaa0 (qabi (fun s (i : Nat) => s.turn [(4, .int .i64 (qadt ws i)), (5, .int .i64 i)] []) (fun i => i ≤ ws.length ∧ ∀ j, j < i → wBad ws j = false) (fun i => ws.length - i) 0 ?_ ⟨by simp, by simp⟩ ?_)
 ·repeat' (first | ((with_reducible refine qaar [] hm ?_ ?_ ?_ ?_) <;> (try simp only [zT, puth, Nat.reduceEqDiff, reduceIte, Nat.reduceAdd])) | (with_reducible first | refine za ?_ ?_ | refine zb ?_ ?_ ?_ ?_ | refine zc ?_ ?_ ?_ ?_ | refine zd ?_ ?_ ?_ ?_ | refine qaap ?_ ?_ | refine qaan ?_ ?_) | (with_reducible first | exact qaak | exact qaao | exact qaat | exact qaau | exact Co.refl _ | exact CoL.refl _ | exact CoLL.refl _) | ((with_reducible first | refine zga ?_ | refine zgb ?_); rfl) | ((with_reducible refine zgc ?_); (first | (with_reducible rfl) | rfl | (simp; done))) | ((with_reducible first | refine zgd ?_ | refine zge ?_); (first | omega | (simp; done))) | (refine qaaw ⟨?_, ?_⟩ ?_ <;> omega) | (exact Co.refl _) | (exact CoL.refl _) | (exact CoLL.refl _) | (refine qaaz ?_; omega) | (refine qaay ?_; first | omega | (simp_all; done)) | (with_reducible first | refine qaav ?_ ?_ | refine qaaq ?_ ?_) | fail)
 rintro J hJ i ⟨h1, h2⟩
 have hsum := qagd hh.out h2 h1
 unfold qaks
 simp only [zT, puth, Nat.reduceEqDiff, reduceIte, Nat.reduceAdd] at h1 h2 ⊢
 rcases Nat.lt_or_ge i ws.length with hi | hi
 ·have wi : IntKind.i64.wrap ((i : Int) + 1) = (i : Int) + 1 := qaa2 (by omega) (by omega)
  have hx : el ws i = ws[i] := by unfold el; simp [hi]
  have hb : wBad ws i = (decide (ws[i] < 1) || decide (48 < ws[i])) := by unfold wBad; rw [hx, Bool.eq_iff_iff]; simp
  have hn : qadt ws (i + 1) = qadt ws i + ws[i] := by rw [← hx]; rfl
  generalize hxx : ws[i] = x at hb hn hx
  cases hbb : wBad ws i
  ·rw [hbb] at hb
   have hb' := Bool.or_eq_false_iff.1 hb.symm
   obtain ⟨v1, v2⟩ := hb'
   have hall : ∀ j, j < i + 1 → wBad ws j = false := fun j hj => by
    rcases Nat.lt_or_ge j i with q | q
    ·exact h2 j q
    ·obtain rfl : j = i := by omega
     exact hbb
   have hsx := qagd hh.out hall hi
   rw [hn] at hsx
   have ws1 : IntKind.i64.wrap (qadt ws i + x) = qadt ws (i + 1) := by rw [hn]; exact qaa2 (by omega) (by omega)
   replace hall := Lib.hid hall
   replace h2 := Lib.hid h2
   clear hb hbb hx hn
   repeat' (first | (with_reducible first | refine zA ?_ | refine qaac ?_ | refine qaab ?_ | refine zK ?_) | ((with_reducible first | refine qaal ?_ | refine qaah (by rw [hP]; exact qaa4) ?_); (try rw [hP]); simp -implicitDefEqProofs [*]) | ((with_reducible first | refine qaaf ?_ | refine qaag ?_); (try simp -implicitDefEqProofs [*])) | ((with_reducible refine qaam ?_); (try simp only [qaas, qaad, qaaj])) | ((with_reducible refine qaae rfl (fun h => ?_) (fun h => ?_)) <;> have h' := h <;> (try simp at h') <;> (try subst h')) | ((with_reducible refine qaaa (fun h => ?_) (fun h => ?_)) <;> have h' := h <;> (try simp at h') <;> (try subst h') <;> simp -implicitDefEqProofs [*]) | ((with_reducible refine qaai ?_ ?_); (first | omega | (unfold maxLen; omega)); simp -implicitDefEqProofs [*]) | (with_reducible first | refine zM hm ?_ | refine zN hm ?_ | refine zO hm ?_ | refine zP hm ?_) | ((with_reducible refine qaar [] hm ?_ ?_ ?_ ?_) <;> (try simp only [zT, puth, Nat.reduceEqDiff, reduceIte, Nat.reduceAdd])) | (with_reducible first | refine za ?_ ?_ | refine zb ?_ ?_ ?_ ?_ | refine zc ?_ ?_ ?_ ?_ | refine zd ?_ ?_ ?_ ?_ | refine qaap ?_ ?_ | refine qaan ?_ ?_) | (with_reducible first | exact qaak | exact qaao | exact qaat | exact qaau | exact Co.refl _ | exact CoL.refl _ | exact CoLL.refl _) | ((with_reducible first | refine zga ?_ | refine zgb ?_); rfl) | ((with_reducible refine zgc ?_); (first | (with_reducible rfl) | rfl | (simp; done))) | ((with_reducible first | refine zgd ?_ | refine zge ?_); (first | omega | (simp; done))) | (refine qaaw ⟨?_, ?_⟩ ?_ <;> omega) | (exact Co.refl _) | (exact CoL.refl _) | (exact CoLL.refl _) | (refine qaaz ?_; omega) | (refine qaay ?_; first | omega | (simp_all; done)) | (with_reducible first | refine qaav ?_ ?_ | refine qaaq ?_ ?_) | ((refine qaax hJ (i + 1) ?_ ?_ ?_; (with_reducible refine qaar [] hm ?_ ?_ ?_ ?_) <;> (try simp only [zT, puth, Nat.reduceEqDiff, reduceIte, Nat.reduceAdd]))) | fail)
   exact ⟨by omega, hall.out⟩
  ·have hbad := qa1a hh.out h2 hi hbb
   rw [hF] at hbad
   rw [hbb] at hb
   replace hb := Lib.hid hb
   replace h2 := Lib.hid h2
   replace hbad := Lib.hid hbad
   clear hbb hx hn
   repeat' (first | (with_reducible first | refine zA ?_ | refine qaac ?_ | refine qaab ?_ | refine zK ?_) | ((with_reducible first | refine qaal ?_ | refine qaah (by rw [hP]; exact qaa4) ?_); (try rw [hP]); simp -implicitDefEqProofs [*]) | ((with_reducible first | refine qaaf ?_ | refine qaag ?_); (try simp -implicitDefEqProofs [*])) | ((with_reducible refine qaam ?_); (try simp only [qaas, qaad, qaaj])) | ((with_reducible refine qaae rfl (fun h => ?_) (fun h => ?_)) <;> have h' := h <;> (try simp at h') <;> (try subst h')) | ((with_reducible refine qaaa (fun h => ?_) (fun h => ?_)) <;> have h' := h <;> (try simp at h') <;> (try subst h') <;> simp -implicitDefEqProofs [*]) | ((with_reducible refine qaai ?_ ?_); (first | omega | (unfold maxLen; omega)); simp -implicitDefEqProofs [*]) | (refine qabd (rF_s _ _ _) ?_; simp -implicitDefEqProofs [*]) | (with_reducible first | refine zM hm ?_ | refine zN hm ?_ | refine zO hm ?_ | refine zP hm ?_) | (refine qaji hm (by decide) rfl rfl (qae3 _ _) rfl rfl (by rw [hP]; exact qaby) (by rw [hP]; exact qabo) rfl (CoL.refl _) hbad.out (fun σ => rfl)) | fail)
   all_goals (exfalso; have := hb.out; simp_all; omega)
 ·obtain rfl : i = ws.length := by omega
  have hend := qa09 hh.out h2
  rw [hF] at hend
  have t1 : (qadt ws ws.length).tmod 8 = qadt ws ws.length % 8 := Int.tmod_eq_emod_of_nonneg hsum.1
  have t2 : (qadt ws ws.length).tdiv 8 = qadt ws ws.length / 8 := Int.tdiv_eq_ediv_of_nonneg hsum.1
  generalize qadt ws ws.length = S at hend t1 t2 hsum
  have t3 : IntKind.i64.wrap (S % 8) = S % 8 := IntWalk.i64_in _ ⟨by omega, by omega⟩
  have t4 : IntKind.i64.wrap (S / 8) = S / 8 := IntWalk.i64_in _ ⟨by omega, by omega⟩
  replace h2 := Lib.hid h2
  replace hend := Lib.hid hend
  cases k3 : (S % 8 != 0) <;> cases k4 : decide (256 < S)
  all_goals
   repeat' (first | (with_reducible first | refine zA ?_ | refine qaac ?_ | refine qaab ?_ | refine zK ?_) | ((with_reducible first | refine qaal ?_ | refine qaah (by rw [hP]; exact qaa4) ?_); (try rw [hP]); simp -implicitDefEqProofs [*]) | ((with_reducible first | refine qaaf ?_ | refine qaag ?_); (try simp -implicitDefEqProofs [*])) | ((with_reducible refine qaam ?_); (try simp only [qaas, qaad, qaaj])) | ((with_reducible refine qaae rfl (fun h => ?_) (fun h => ?_)) <;> have h' := h <;> (try simp at h') <;> (try subst h')) | ((with_reducible refine qaaa (fun h => ?_) (fun h => ?_)) <;> have h' := h <;> (try simp at h') <;> (try subst h') <;> simp -implicitDefEqProofs [*]) | ((with_reducible refine qaai ?_ ?_); (first | omega | (unfold maxLen; omega)); simp -implicitDefEqProofs [*]) | (refine qabd (rF_s _ _ _) ?_; simp -implicitDefEqProofs [*]) | (with_reducible first | refine zM hm ?_ | refine zN hm ?_ | refine zO hm ?_ | refine zP hm ?_) | (refine qaji hm (by decide) rfl rfl (qae3 _ _) rfl rfl (by rw [hP]; exact qaby) (by rw [hP]; exact qabo) rfl (CoL.refl _) ?_ (fun σ => rfl)) | fail)
   rw [hend.out]
   simp at k3 k4
   simp [*]
   try omega
end Go.Proofs.Ytnfjldobjgdiaaa
namespace Go.Proofs.Ytnfjldobjgdiaaa
set_option linter.all false
open Go.RowKit
attribute [local simp] qabs qabr qaa5 qabc qaa6 qabb qabp qabq qaa1 qab3 SOp.run SX.ev putd puts argS upds SOp.touch SSt.keep SSt.skip gets geth puth delh idOf SV.cells? setL qadd qade sbin eq0 eq1 eqL qadc qacd qace qaas qabt qaad qabu qab4 qaaj qaa3 FrzOk qabl qabf qabj qabk qaa7 qabe qab0 qabg qaa9 qabm qaa8 frzS frzH frz frz1 frz0 SlotsM ObjsM ObjM rn ren ren1 ren0 qab9 qaay qaaz qab8 qab1 qacq qacp CoL qabn qacs dels adds idsH qacf
attribute [local simp] qad0 refc qafc qae1 qacn opc actc tabc qaeg qac1 nums jc
theorem qadg {f g : Int × Int} (h : (orF f g).1 = 0) : f.1 = 0 ∧ g.1 = 0 := by
 unfold orF at h
 by_cases h1 : f.1 = 0
 ·by_cases h2 : g.1 = 0
  ·exact ⟨h1, h2⟩
  ·simp [h1, h2] at h
 ·simp [h1] at h
theorem qagf {α : Type} {f : α → Int} {b : Int} : ∀ {l : List α} {i : Nat}, (rowF (fun _ x => f x) b i l).1 = 0 → ∀ x ∈ l, f x = 0
 | [], _, _, x, hx => by cases hx
 | y :: l, i, h, x, hx => by
  unfold rowF at h
  by_cases h1 : f y = 0
  ·rw [if_neg (by simpa using h1)] at h
   rcases List.mem_cons.1 hx with e | e
   ·rw [e]; exact h1
   ·exact qagf h x e
  ·rw [if_pos h1] at h; exact absurd h h1
theorem qaij {α : Type} {f : Nat → α → Int} {b : Int} : ∀ {l : List α} {i : Nat}, (rowF f b i l).1 = 0 → rowF f b i l = (0, 0)
 | [], _, _ => rfl
 | y :: l, i, h => by
  unfold rowF at h ⊢
  by_cases h1 : f i y ≠ 0
  ·rw [if_pos h1] at h; exact absurd h h1
  ·rw [if_neg h1] at h ⊢; exact qaij h
theorem qbcs {f g : Int × Int} (h : (orF f g).1 = 0) : orF f g = f := by
 obtain ⟨h1, h2⟩ := qadg h
 unfold orF; simp [h1, h2]
theorem qa9k {f g : Int × Int} (h : f.1 = 0 → f = (0, 0)) : orF (0, 0) (orF f g) = orF f g := by
 unfold orF
 by_cases h1 : f.1 = 0
 ·by_cases h2 : g.1 = 0 <;> simp [h1, h2, h h1]
 ·simp [h1]
theorem qara {p : PlanD} (h : (qafw p).1 = 0) : qafw p = (0, 0) := by
 unfold qafw at h ⊢
 rw [qbcs h]
 have := (qadg h).1
 unfold qap3 at this ⊢
 by_cases hc : decide (6 < p.heads.length) = true
 ·rw [if_pos hc] at this; exact absurd this (by decide)
 ·rw [if_neg hc]
theorem qaho (p : PlanD) : orF (0, 0) (qafr p) = qafr p := by
 unfold qafr; exact qa9k qara
theorem el_in {l : List Int} {k : Nat} (h : k < l.length) : el l k ∈ l := by
 unfold el; simp [h]
theorem pick_in {l : List Int} {f : Int} (h : qa1o l f ≠ 0) : qa1o l f ∈ l := by
 unfold qa1o at h ⊢
 by_cases h1 : f < 0 ∨ (l.length : Int) ≤ f
 ·rw [if_pos h1] at h; exact absurd rfl h
 ·rw [if_neg h1] at h ⊢; exact el_in (by omega)
theorem qbb0 {p : PlanD} (h : (qafw p).1 = 0) : ∀ x ∈ p.heads, qahl x.w = 0 := fun x hx => qagf (qadg h).2 x hx
theorem qbb8 {l : List Int} (h : ∀ x ∈ l, 1 ≤ x ∧ x ≤ 48) (f : Int) : 0 ≤ qa1o l f ∧ qa1o l f ≤ 48 := by
 by_cases h0 : qa1o l f = 0
 ·omega
 ·have := h _ (pick_in h0); omega
theorem qbcg {ws : List Int} (h : qahl ws = 0) : ∀ x ∈ ws, 1 ≤ x ∧ x ≤ 48 := fun x hx => by
 obtain ⟨i, hi, rfl⟩ := List.getElem_of_mem hx
 have := wOk ((qapr h).2.2.1 i hi)
 have e : el ws i = ws[i] := by unfold el; simp [hi]
 rw [e] at this; exact this
theorem qbbg {l : List Int} (h : ∀ x ∈ l, wOut x = false) : ∀ x ∈ l, 1 ≤ x ∧ x ≤ 48 := fun x hx => by
 have := h x hx
 unfold wOut at this; rw [Bool.or_eq_false_iff, decide_eq_false_iff_not, decide_eq_false_iff_not] at this; omega
theorem pw_of {p : PlanD} (h1 : (qafw p).1 = 0) (h2 : (qa0t p).1 = 0) : PW p := fun r => by
 have hm : ∀ x ∈ p.meta_, 1 ≤ x ∧ x ≤ 48 := qbbg fun x hx => by
  have := qagf (qadg h2).2 x hx
  cases e : wOut x
  ·rfl
  ·rw [e] at this; exact absurd this (by decide)
 unfold qaca
 refine qbb8 ?_ _
 unfold qaq4
 split
 ·simp
 split
 ·exact hm
 split
 ·simp
 split
 ·rename_i hh
  unfold headW
  rw [List.getElem?_eq_getElem (by omega : r.h.toNat < p.heads.length)]
  exact qbcg (qbb0 h1 _ (List.getElem_mem _))
 ·simp
theorem aw_of {p : PlanD} (h : (qahe p).1 = 0) : AW p.acts := fun a ha w hw => by
 have := qagf (qadg h).2 a ha
 unfold actF at this
 by_cases h1 : 3 < a.w.length ∨ 5 < a.ops.length
 ·rw [if_pos h1] at this; exact absurd this (by decide)
 ·rw [if_neg h1] at this
  by_cases h2 : a.w.any wOut = true
  ·rw [if_pos h2] at this; exact absurd this (by decide)
  ·have h3 : ∀ x ∈ a.w, wOut x = false := fun x hx => by
    cases e : wOut x
    ·rfl
    ·exact absurd (List.any_eq_true.2 ⟨x, hx, e⟩) h2
   have := qbbg h3 w hw; omega
theorem qbbs (a b c at_ : Int) : orF (a, b) (c, at_) = qacl a b (c != 0) c at_ := by
 rw [← qai2]; unfold qadv
 congr 1; rw [Bool.eq_iff_iff]; simp
theorem qam7 (p : PlanD) (hp : PW p) (hs : SmallP p) (hk : qaiy p) (a b : Int) (id q : Nat) (h : id < q) : SCalls Try.prog 33 [.ptr id 0] [(id, .cells 78 (jc p a b))] q (.tup []) [(id, .cells 78 (jc p (orF (a, b) (qadi p)).1 (orF (a, b) (qadi p)).2))] :=
 qac7 (qa9z p hp hs hk a b) (fun _ => rfl) (fun _ => rfl) (fun _ => rfl) rfl (fun _ => rfl) rfl id q h
theorem qa2l (p : PlanD) (hp : PW p) (hs : SmallP p) (a b : Int) (id q : Nat) (h : id < q) : SCalls Try.prog 34 [.ptr id 0] [(id, .cells 78 (jc p a b))] q (.tup []) [(id, .cells 78 (jc p (orF (a, b) (qahe p)).1 (orF (a, b) (qahe p)).2))] :=
 qac7 (jacts_s p hp hs a b) (fun _ => rfl) (fun _ => rfl) (fun _ => rfl) rfl (fun _ => rfl) rfl id q h
theorem qa2k (p : PlanD) (hs : SmallP p) (a b : Int) (ha : a = 0 → AW p.acts) (id q : Nat) (h : id < q) : SCalls Try.prog 35 [.ptr id 0] [(id, .cells 78 (jc p a b))] q (.tup []) [(id, .cells 78 (jc p (orF (a, b) (qagc p)).1 (orF (a, b) (qagc p)).2))] :=
 qac7 (jtabs_s p hs a b ha) (fun _ => rfl) (fun _ => rfl) (fun _ => rfl) rfl (fun _ => rfl) rfl id q h
theorem qaro (p : PlanD) (hs : SmallP p) (a b : Int) (id q : Nat) (h : id < q) : SCalls Try.prog 36 [.ptr id 0] [(id, .cells 78 (jc p a b))] q (.tup []) [(id, .cells 78 (jc p (orF (a, b) (qadk p)).1 (orF (a, b) (qadk p)).2))] :=
 qac7 (qbc9 p hs a b) (fun _ => rfl) (fun _ => rfl) (fun _ => rfl) rfl (fun _ => rfl) rfl id q h
def qah9 : SCode := (.seq (.reg false qaia [1, 2, 3]) (.seq (.seq (.reg false qag9 [1, 2, 3, 59, 60, 61]) (.block 2 (.loop qaf2))) (.seq (.seq (.reg false qag8 [1, 2, 3, 82]) (.cond (.t 82) (.seq (.reg false qag7 [2]) .ret) .skip)) (.seq (.reg false qafb [1, 2, 3]) (.seq (.reg false qafa [1, 2, 3]) (.seq (.reg false qae9 [1, 2, 3]) (.seq (.reg false qae8 [1, 2, 3]) (.seq (.reg false qae7 [1, 2, 3]) (.seq (.seq (.reg false qae6 [1, 2, 3, 9]) (.block 4 (.loop qaew))) (.seq (.reg false qaee [2]) .ret))))))))))
def qah8 : SCode := (.seq (.reg false qafb [1, 2, 3]) (.seq (.reg false qafa [1, 2, 3]) (.seq (.reg false qae9 [1, 2, 3]) (.seq (.reg false qae8 [1, 2, 3]) (.seq (.reg false qae7 [1, 2, 3]) (.seq (.seq (.reg false qae6 [1, 2, 3, 9]) (.block 4 (.loop qaew))) (.seq (.reg false qaee [2]) .ret)))))))
def qah7 : SCode := (.seq (.reg false qaee [2]) .ret)
set_option maxHeartbeats 8000000 in
theorem qbcq (p : PlanD) (hs : SmallP p) (hk : qaiy p) (q : Nat) : SCalls Try.prog 17 [.agg (qac1 p)] [] q (.agg [.int .i64 (qafr p).1, .int .i64 (qafr p).2]) [] := by
 refine qabw ?_ (fun _ => rfl) (fun _ => rfl) rfl q
 refine qaba (N := 143) Try.func17 rfl rfl (by kernel_rfl) qajz (by simp) (by repeat' (first | exact trivial | refine And.intro ?_ ?_ | rfl | decide | exact PureR.ren _)) (by repeat' (first | exact trivial | refine And.intro ?_ ?_ | rfl | decide | exact PureR.ren _)) ?_
 rintro X hP hN hm
 rw [← qaho]
 have hF1 : orF (0, 0) (qafw p) = orF (qacl 0 0 (decide (6 < (p.heads.length : Int))) 2 (-1)) (rowF (fun _ h => qahl h.w) 1000 0 p.heads) := by
  unfold qafw; rw [qaec]; congr 3; exact propext (by omega)
 have hF0 : orF (0, 0) (qafr p) = orF (orF (orF (0, 0) (qafw p)) (qa0t p)) (orF (qadi p) (orF (qahe p) (orF (qagc p) (orF (qadk p) (qafs p))))) := by
  unfold qafr; simp only [qadm]
 have hPW : (orF (orF (0, 0) (qafw p)) (qa0t p)).1 = 0 → PW p := fun h => pw_of (qadg (qadg h).1).2 (qadg h).2
 generalize orF (0, 0) (qafr p) = F at hF0
 obtain ⟨⟨e1, g1⟩, hE1⟩ : ∃ z, orF (0, 0) (qafw p) = z := ⟨_, rfl⟩
 rw [hE1] at hF0 hPW hF1
 have hF2 : orF (e1, g1) (qa0t p) = orF (qacl e1 g1 (decide (4 < (p.meta_.length : Int))) 2 (-2)) (rowF (fun _ w => if wOut w then 6 else 0) 2000 0 p.meta_) := by
  unfold qa0t; rw [qaec]; congr 3; exact propext (by omega)
 obtain ⟨⟨e2, g2⟩, hE2⟩ : ∃ z, orF (e1, g1) (qa0t p) = z := ⟨_, rfl⟩
 rw [hE2] at hF0 hPW hF2
 have hl1 := hs.heads
 have hl2 := hs.metas
 have hl3 := hs.outs
 clear hE1 hE2
 replace hF0 := Lib.hid hF0
 replace hPW := Lib.hid hPW
 replace hF1 := Lib.hid hF1
 replace hF2 := Lib.hid hF2
 have rest4 : ∀ e g, (e, g) = F → SWp X qah7 (QFun X [ResultVar.cell 2 45] 0 (.agg [.int .i64 F.1, .int .i64 F.2]) []) ⟨[(1, .ptr 0 0), (2, .ptr 1 0), (3, .ptr 4 0)], [(0, .cells 29 (qac1 p)), (1, .cells 45 [.int .i64 0, .int .i64 0]), (4, .cells 78 (jc p e g))], 5⟩ := fun e g he => by
  unfold qah7
  repeat' (first | (with_reducible first | refine zA ?_ | refine qaac ?_ | refine qaab ?_ | refine zK ?_) | ((with_reducible first | refine qaal ?_ | refine qaah (by rw [hP]; exact qaa4) ?_); (try rw [hP]); simp -implicitDefEqProofs [*]) | ((with_reducible first | refine qaaf ?_ | refine qaag ?_); (try simp -implicitDefEqProofs [*])) | ((with_reducible refine qaam ?_); (try simp only [qaas, qaad, qaaj])) | ((with_reducible refine qaae rfl (fun h => ?_) (fun h => ?_)) <;> have h' := h <;> (try simp at h') <;> (try subst h')) | ((with_reducible refine qaaa (fun h => ?_) (fun h => ?_)) <;> have h' := h <;> (try simp at h') <;> (try subst h') <;> simp -implicitDefEqProofs [*]) | ((with_reducible refine qaai ?_ ?_); (first | omega | (unfold maxLen; omega)); simp -implicitDefEqProofs [*]) | (with_reducible first | refine zM hm ?_ | refine zN hm ?_ | refine zO hm ?_ | refine zP hm ?_) | (refine qaga hm rfl rfl (by rw [hP]; exact qaby) (by rw [hP]; exact qabo) rfl (CoL.refl _) (by rw [← he]) (fun σ => rfl)) | fail)
 have rest3 : e2 = 0 → SWp X qah8 (QFun X [ResultVar.cell 2 45] 0 (.agg [.int .i64 F.1, .int .i64 F.2]) []) ⟨[(1, .ptr 0 0), (2, .ptr 1 0), (3, .ptr 4 0)], [(0, .cells 29 (qac1 p)), (1, .cells 45 [.int .i64 0, .int .i64 0]), (4, .cells 78 (jc p e2 g2))], 5⟩ := fun he => by
  have hpw := hPW.out he
  subst he
  have hF := hF0.out
  obtain ⟨⟨e3, g3⟩, hE3⟩ : ∃ z, orF (0, g2) (qadi p) = z := ⟨_, rfl⟩
  obtain ⟨⟨e4, g4⟩, hE4⟩ : ∃ z, orF (e3, g3) (qahe p) = z := ⟨_, rfl⟩
  obtain ⟨⟨e5, g5⟩, hE5⟩ : ∃ z, orF (e4, g4) (qagc p) = z := ⟨_, rfl⟩
  obtain ⟨⟨e6, g6⟩, hE6⟩ : ∃ z, orF (e5, g5) (qadk p) = z := ⟨_, rfl⟩
  have c3 := fun id q h => qam7 p hpw hs hk 0 g2 id q h
  have c4 := fun id q h => qa2l p hpw hs e3 g3 id q h
  have c5 := fun id q h => qa2k p hs e4 g4 (fun hz => aw_of (qadg (f := (e3, g3)) (by rw [hE4]; exact hz)).2) id q h
  have c6 := fun id q h => qaro p hs e5 g5 id q h
  rw [hE3] at c3
  rw [hE4] at c4
  rw [hE5] at c5
  rw [hE6] at c6
  rw [← qadm, hE3, ← qadm, hE4, ← qadm, hE5, ← qadm, hE6] at hF
  have hF7 : orF (e6, g6) (qafs p) = orF (qacl e6 g6 (decide (6 < (p.out.length : Int))) 2 (-7)) (rowF (fun i o => outF p i o) 7000 0 p.out) := by
   unfold qafs; rw [qaec]; congr 3; exact propext (by omega)
  rw [hF7] at hF
  clear hE3 hE4 hE5 hE6 hF7
  replace hF := Lib.hid hF
  replace hpw := Lib.hid hpw
  replace rest4 := Lib.hid rest4
  replace c3 := Lib.hid c3
  replace c4 := Lib.hid c4
  replace c5 := Lib.hid c5
  replace c6 := Lib.hid c6
  unfold qah8
  repeat' (first | (with_reducible first | refine zA ?_ | refine qaac ?_ | refine qaab ?_ | refine zK ?_) | ((with_reducible first | refine qaal ?_ | refine qaah (by rw [hP]; exact qaa4) ?_); (try rw [hP]); simp -implicitDefEqProofs [*]) | ((with_reducible first | refine qaaf ?_ | refine qaag ?_); (try simp -implicitDefEqProofs [*])) | ((with_reducible refine qaam ?_); (try simp only [qaas, qaad, qaaj])) | ((with_reducible refine qaae rfl (fun h => ?_) (fun h => ?_)) <;> have h' := h <;> (try simp at h') <;> (try subst h')) | ((with_reducible refine qaaa (fun h => ?_) (fun h => ?_)) <;> have h' := h <;> (try simp at h') <;> (try subst h') <;> simp -implicitDefEqProofs [*]) | ((with_reducible refine qaai ?_ ?_); (first | omega | (unfold maxLen; omega)); simp -implicitDefEqProofs [*]) | ((first | refine qacb (qabh p _ _ _ _ _ _ _ (by simp)) ⟨rfl, trivial⟩ ⟨rfl, trivial⟩ ?_ | refine qacb (c3.out _ _ (by simp)) ⟨rfl, trivial⟩ ⟨rfl, trivial⟩ ?_ | refine qacb (c4.out _ _ (by simp)) ⟨rfl, trivial⟩ ⟨rfl, trivial⟩ ?_ | refine qacb (c5.out _ _ (by simp)) ⟨rfl, trivial⟩ ⟨rfl, trivial⟩ ?_ | refine qacb (c6.out _ _ (by simp)) ⟨rfl, trivial⟩ ⟨rfl, trivial⟩ ?_); simp -implicitDefEqProofs [*]) | (with_reducible first | refine zM hm ?_ | refine zN hm ?_ | refine zO hm ?_ | refine zP hm ?_) | fail)
  refine qaa0 (qabi (fun s (x : Nat × Int × Int) => s.turn [(9, .int .i64 x.1)] [(4, .cells 78 (jc p x.2.1 x.2.2))]) (fun x => x.1 ≤ p.out.length ∧ F = orF (x.2.1, x.2.2) (rowF (fun i o => outF p i o) 7000 x.1 (p.out.drop x.1))) (fun x => p.out.length - x.1) (0, _, _) ?_ ⟨by simp, hF.out⟩ ?_)
  ·repeat' (first | ((with_reducible refine qaar [] hm ?_ ?_ ?_ ?_) <;> (try simp only [zT, puth, Nat.reduceEqDiff, reduceIte, Nat.reduceAdd])) | (with_reducible first | refine za ?_ ?_ | refine zb ?_ ?_ ?_ ?_ | refine zc ?_ ?_ ?_ ?_ | refine zd ?_ ?_ ?_ ?_ | refine qaap ?_ ?_ | refine qaan ?_ ?_) | (with_reducible first | exact qaak | exact qaao | exact qaat | exact qaau | exact Co.refl _ | exact CoL.refl _ | exact CoLL.refl _) | ((with_reducible first | refine zga ?_ | refine zgb ?_); rfl) | ((with_reducible refine zgc ?_); (first | (with_reducible rfl) | rfl | (simp; done))) | ((with_reducible first | refine zgd ?_ | refine zge ?_); (first | omega | (simp; done))) | (refine qaaw ⟨?_, ?_⟩ ?_ <;> omega) | (exact Co.refl _) | (exact CoL.refl _) | (exact CoLL.refl _) | (refine qaaz ?_; omega) | (refine qaay ?_; first | omega | (simp_all; done)) | (with_reducible first | refine qaav ?_ ?_ | refine qaaq ?_ ?_) | fail)
  rintro J hJ ⟨i, e, g⟩ ⟨h1, h2⟩
  unfold qaew
  simp only [zT, puth, Nat.reduceEqDiff, reduceIte, Nat.reduceAdd] at h1 h2 ⊢
  rcases Nat.lt_or_ge i p.out.length with hi | hi
  ·rw [qadl _ _ hi] at h2
   have hct := fun q => qag0 (p.out.take i) p.out[i] (by rw [List.length_take]; omega) q
   simp only [nums, List.map_take] at hct
   generalize hxx : p.out[i] = x at h2 hct
   by_cases he : e = 0
   ·subst he
    have hA : orF (0, g) (outF p i x, 7000 + (i : Int)) = qacl (qacl 0 g (!qac8 p x) 1 (7000 + (i : Int))).1 (qacl 0 g (!qac8 p x) 1 (7000 + (i : Int))).2 ((p.out.take i).contains x) 7 (7000 + (i : Int)) := by
     have : outF p i x = if (!qac8 p x) = true then 1 else if (p.out.take i).contains x = true then 7 else 0 := by
      unfold outF; cases qac8 p x <;> rfl
     rw [this, qac0 _ _ _ _ _ _ (by decide)]
     refine (qac0 _ _ _ _ _ _ (by decide)).trans ?_
     exact qact _ rfl
    rw [qaeh, hA] at h2
    generalize (p.out.take i).contains x = C at h2 hct
    have wi : IntKind.i64.wrap ((i : Int) + 1) = (i : Int) + 1 := qaa2 (by omega) (by omega)
    have wa : IntKind.i64.wrap (7000 + (i : Int)) = 7000 + (i : Int) := qaa2 (by omega) (by omega)
    have hi' := Nat.le_of_lt hi
    clear hA
    replace h2 := Lib.hid h2
    replace hct := Lib.hid hct
    repeat' (first | (with_reducible first | refine zA ?_ | refine qaac ?_ | refine qaab ?_ | refine zK ?_) | ((with_reducible first | refine qaal ?_ | refine qaah (by rw [hP]; exact qaa4) ?_); (try rw [hP]); simp -implicitDefEqProofs [*]) | ((with_reducible first | refine qaaf ?_ | refine qaag ?_); (try simp -implicitDefEqProofs [*])) | ((with_reducible refine qaam ?_); (try simp only [qaas, qaad, qaaj])) | ((with_reducible refine qaae rfl (fun h => ?_) (fun h => ?_)) <;> have h' := h <;> (try simp at h') <;> (try subst h')) | ((with_reducible refine qaaa (fun h => ?_) (fun h => ?_)) <;> have h' := h <;> (try simp at h') <;> (try subst h') <;> simp -implicitDefEqProofs [*]) | ((with_reducible refine qaai ?_ ?_); (first | omega | (unfold maxLen; omega)); simp -implicitDefEqProofs [*]) | ((first | refine qacb (qabh p _ _ _ _ _ _ _ (by simp)) ⟨rfl, trivial⟩ ⟨rfl, trivial⟩ ?_ | refine qacb (qag2 p _ _ _ _ _ _ (by simp)) ⟨rfl, trivial⟩ ⟨rfl, trivial⟩ ?_ | refine qabd (hct.out _) ?_); simp -implicitDefEqProofs [*]) | (with_reducible first | refine zM hm ?_ | refine zN hm ?_ | refine zO hm ?_ | refine zP hm ?_) | ((with_reducible refine qaar [] hm ?_ ?_ ?_ ?_) <;> (try simp only [zT, puth, Nat.reduceEqDiff, reduceIte, Nat.reduceAdd])) | (with_reducible first | refine za ?_ ?_ | refine zb ?_ ?_ ?_ ?_ | refine zc ?_ ?_ ?_ ?_ | refine zd ?_ ?_ ?_ ?_ | refine qaap ?_ ?_ | refine qaan ?_ ?_) | (with_reducible first | exact qaak | exact qaao | exact qaat | exact qaau | exact Co.refl _ | exact CoL.refl _ | exact CoLL.refl _) | ((with_reducible first | refine zga ?_ | refine zgb ?_); rfl) | ((with_reducible refine zgc ?_); (first | (with_reducible rfl) | rfl | (simp; done))) | ((with_reducible first | refine zgd ?_ | refine zge ?_); (first | omega | (simp; done))) | (refine qaaw ⟨?_, ?_⟩ ?_ <;> omega) | (exact Co.refl _) | (exact CoL.refl _) | (exact CoLL.refl _) | (refine qaaz ?_; omega) | (refine qaay ?_; first | omega | (simp_all; done)) | (with_reducible first | refine qaav ?_ ?_ | refine qaaq ?_ ?_) | ((refine qaax hJ (i + 1, ?_, ?_) ?_ ?_ ?_; rotate_left 2; (with_reducible refine qaar [] hm ?_ ?_ ?_ ?_) <;> (try simp only [zT, puth, Nat.reduceEqDiff, reduceIte, Nat.reduceAdd]))) | fail)
    all_goals (try dsimp only)
    all_goals (exact ⟨by omega, h2.out⟩)
   ·rw [qafj he] at h2
    have r4 := rest4.out e g h2.symm
    have ke : (e == 0) = false := by simpa using he
    replace r4 := Lib.hid r4
    clear h2
    repeat' (first | ((refine qadh ?_ r4.out)) | (with_reducible first | refine zA ?_ | refine qaac ?_ | refine qaab ?_ | refine zK ?_) | ((with_reducible first | refine qaal ?_ | refine qaah (by rw [hP]; exact qaa4) ?_); (try rw [hP]); simp -implicitDefEqProofs [*]) | ((with_reducible first | refine qaaf ?_ | refine qaag ?_); (try simp -implicitDefEqProofs [*])) | ((with_reducible refine qaam ?_); (try simp only [qaas, qaad, qaaj])) | ((with_reducible refine qaae rfl (fun h => ?_) (fun h => ?_)) <;> have h' := h <;> (try simp at h') <;> (try subst h')) | ((with_reducible refine qaaa (fun h => ?_) (fun h => ?_)) <;> have h' := h <;> (try simp at h') <;> (try subst h') <;> simp -implicitDefEqProofs [*]) | ((with_reducible refine qaai ?_ ?_); (first | omega | (unfold maxLen; omega)); simp -implicitDefEqProofs [*]) | (with_reducible first | refine zM hm ?_ | refine zN hm ?_ | refine zO hm ?_ | refine zP hm ?_) | ((with_reducible refine qaar [] hm ?_ ?_ ?_ ?_) <;> (try simp only [zT, puth, Nat.reduceEqDiff, reduceIte, Nat.reduceAdd])) | (with_reducible first | refine za ?_ ?_ | refine zb ?_ ?_ ?_ ?_ | refine zc ?_ ?_ ?_ ?_ | refine zd ?_ ?_ ?_ ?_ | refine qaap ?_ ?_ | refine qaan ?_ ?_) | (with_reducible first | exact qaak | exact qaao | exact qaat | exact qaau | exact Co.refl _ | exact CoL.refl _ | exact CoLL.refl _) | ((with_reducible first | refine zga ?_ | refine zgb ?_); rfl) | ((with_reducible refine zgc ?_); (first | (with_reducible rfl) | rfl | (simp; done))) | ((with_reducible first | refine zgd ?_ | refine zge ?_); (first | omega | (simp; done))) | (refine qaaw ⟨?_, ?_⟩ ?_ <;> omega) | (exact Co.refl _) | (exact CoL.refl _) | (exact CoLL.refl _) | (refine qaaz ?_; omega) | (refine qaay ?_; first | omega | (simp_all; done)) | (with_reducible first | refine qaav ?_ ?_ | refine qaaq ?_ ?_) | fail)
  ·obtain rfl : i = p.out.length := by omega
   rw [List.drop_length, qact _ rfl] at h2
   have r4 := rest4.out e g h2.symm
   replace r4 := Lib.hid r4
   clear h2
   repeat' (first | ((refine qadh ?_ r4.out)) | (with_reducible first | refine zA ?_ | refine qaac ?_ | refine qaab ?_ | refine zK ?_) | ((with_reducible first | refine qaal ?_ | refine qaah (by rw [hP]; exact qaa4) ?_); (try rw [hP]); simp -implicitDefEqProofs [*]) | ((with_reducible first | refine qaaf ?_ | refine qaag ?_); (try simp -implicitDefEqProofs [*])) | ((with_reducible refine qaam ?_); (try simp only [qaas, qaad, qaaj])) | ((with_reducible refine qaae rfl (fun h => ?_) (fun h => ?_)) <;> have h' := h <;> (try simp at h') <;> (try subst h')) | ((with_reducible refine qaaa (fun h => ?_) (fun h => ?_)) <;> have h' := h <;> (try simp at h') <;> (try subst h') <;> simp -implicitDefEqProofs [*]) | ((with_reducible refine qaai ?_ ?_); (first | omega | (unfold maxLen; omega)); simp -implicitDefEqProofs [*]) | (with_reducible first | refine zM hm ?_ | refine zN hm ?_ | refine zO hm ?_ | refine zP hm ?_) | ((with_reducible refine qaar [] hm ?_ ?_ ?_ ?_) <;> (try simp only [zT, puth, Nat.reduceEqDiff, reduceIte, Nat.reduceAdd])) | (with_reducible first | refine za ?_ ?_ | refine zb ?_ ?_ ?_ ?_ | refine zc ?_ ?_ ?_ ?_ | refine zd ?_ ?_ ?_ ?_ | refine qaap ?_ ?_ | refine qaan ?_ ?_) | (with_reducible first | exact qaak | exact qaao | exact qaat | exact qaau | exact Co.refl _ | exact CoL.refl _ | exact CoLL.refl _) | ((with_reducible first | refine zga ?_ | refine zgb ?_); rfl) | ((with_reducible refine zgc ?_); (first | (with_reducible rfl) | rfl | (simp; done))) | ((with_reducible first | refine zgd ?_ | refine zge ?_); (first | omega | (simp; done))) | (refine qaaw ⟨?_, ?_⟩ ?_ <;> omega) | (exact Co.refl _) | (exact CoL.refl _) | (exact CoLL.refl _) | (refine qaaz ?_; omega) | (refine qaay ?_; first | omega | (simp_all; done)) | (with_reducible first | refine qaav ?_ ?_ | refine qaaq ?_ ?_) | fail)
 have rest1 : SWp X qah9 (QFun X [ResultVar.cell 2 45] 0 (.agg [.int .i64 F.1, .int .i64 F.2]) []) ⟨[(1, .ptr 0 0), (2, .ptr 1 0), (3, .ptr 4 0)], [(0, .cells 29 (qac1 p)), (1, .cells 45 [.int .i64 0, .int .i64 0]), (4, .cells 78 (jc p e1 g1))], 5⟩ := by
  unfold qah9
  replace rest4 := Lib.hid rest4
  replace rest3 := Lib.hid rest3
  repeat' (first | (with_reducible first | refine zA ?_ | refine qaac ?_ | refine qaab ?_ | refine zK ?_) | ((with_reducible first | refine qaal ?_ | refine qaah (by rw [hP]; exact qaa4) ?_); (try rw [hP]); simp -implicitDefEqProofs [*]) | ((with_reducible first | refine qaaf ?_ | refine qaag ?_); (try simp -implicitDefEqProofs [*])) | ((with_reducible refine qaam ?_); (try simp only [qaas, qaad, qaaj])) | ((with_reducible refine qaae rfl (fun h => ?_) (fun h => ?_)) <;> have h' := h <;> (try simp at h') <;> (try subst h')) | ((with_reducible refine qaaa (fun h => ?_) (fun h => ?_)) <;> have h' := h <;> (try simp at h') <;> (try subst h') <;> simp -implicitDefEqProofs [*]) | ((with_reducible refine qaai ?_ ?_); (first | omega | (unfold maxLen; omega)); simp -implicitDefEqProofs [*]) | (refine qacb (qabh p _ _ _ _ _ _ _ (by simp)) ⟨rfl, trivial⟩ ⟨rfl, trivial⟩ ?_; simp -implicitDefEqProofs [*]) | (with_reducible first | refine zM hm ?_ | refine zN hm ?_ | refine zO hm ?_ | refine zP hm ?_) | fail)
  refine qaa0 (qabi (fun s (x : Nat × Int × Int) => s.turn [(61, .int .i64 x.1)] [(4, .cells 78 (jc p x.2.1 x.2.2))]) (fun x => x.1 ≤ p.meta_.length ∧ (e2, g2) = orF (x.2.1, x.2.2) (rowF (fun _ w => if wOut w then 6 else 0) 2000 x.1 (p.meta_.drop x.1))) (fun x => p.meta_.length - x.1) (0, _, _) ?_ ⟨by simp, hF2.out⟩ ?_)
  ·repeat' (first | ((with_reducible refine qaar [] hm ?_ ?_ ?_ ?_) <;> (try simp only [zT, puth, Nat.reduceEqDiff, reduceIte, Nat.reduceAdd])) | (with_reducible first | refine za ?_ ?_ | refine zb ?_ ?_ ?_ ?_ | refine zc ?_ ?_ ?_ ?_ | refine zd ?_ ?_ ?_ ?_ | refine qaap ?_ ?_ | refine qaan ?_ ?_) | (with_reducible first | exact qaak | exact qaao | exact qaat | exact qaau | exact Co.refl _ | exact CoL.refl _ | exact CoLL.refl _) | ((with_reducible first | refine zga ?_ | refine zgb ?_); rfl) | ((with_reducible refine zgc ?_); (first | (with_reducible rfl) | rfl | (simp; done))) | ((with_reducible first | refine zgd ?_ | refine zge ?_); (first | omega | (simp; done))) | (refine qaaw ⟨?_, ?_⟩ ?_ <;> omega) | (exact Co.refl _) | (exact CoL.refl _) | (exact CoLL.refl _) | (refine qaaz ?_; omega) | (refine qaay ?_; first | omega | (simp_all; done)) | (with_reducible first | refine qaav ?_ ?_ | refine qaaq ?_ ?_) | fail)
  rintro J hJ ⟨i, e, g⟩ ⟨h1, h2⟩
  unfold qaf2
  simp only [zT, puth, Nat.reduceEqDiff, reduceIte, Nat.reduceAdd] at h1 h2 ⊢
  rcases Nat.lt_or_ge i p.meta_.length with hi | hi
  ·rw [qadl _ _ hi] at h2
   generalize hxx : p.meta_[i] = x at h2
   rw [qaeh, qbbs e g] at h2
   have wi : IntKind.i64.wrap ((i : Int) + 1) = (i : Int) + 1 := qaa2 (by omega) (by omega)
   have wa : IntKind.i64.wrap (2000 + (i : Int)) = 2000 + (i : Int) := qaa2 (by omega) (by omega)
   have hfx : ∀ b, wOut x = b → qacl e g ((if wOut x = true then (6 : Int) else 0) != 0) (if wOut x = true then (6 : Int) else 0) (2000 + (i : Int)) = qacl e g b 6 (2000 + (i : Int)) := fun b hb => by
    rw [hb]; cases b <;> simp [qacl]
   replace h2 := Lib.hid h2
   replace hfx := Lib.hid hfx
   repeat' (first | (with_reducible first | refine zA ?_ | refine qaac ?_ | refine qaab ?_ | refine zK ?_) | ((with_reducible first | refine qaal ?_ | refine qaah (by rw [hP]; exact qaa4) ?_); (try rw [hP]); simp -implicitDefEqProofs [*]) | ((with_reducible first | refine qaaf ?_ | refine qaag ?_); (try simp -implicitDefEqProofs [*])) | ((with_reducible refine qaam ?_); (try simp only [qaas, qaad, qaaj])) | ((with_reducible refine qaae rfl (fun h => ?_) (fun h => ?_)) <;> have h' := h <;> (try simp at h') <;> (try subst h')) | ((with_reducible refine qaaa (fun h => ?_) (fun h => ?_)) <;> have h' := h <;> (try simp at h') <;> (try subst h') <;> simp -implicitDefEqProofs [*]) | ((with_reducible refine qaai ?_ ?_); (first | omega | (unfold maxLen; omega)); simp -implicitDefEqProofs [*]) | (refine qacb (qabh p _ _ _ _ _ _ _ (by simp)) ⟨rfl, trivial⟩ ⟨rfl, trivial⟩ ?_; simp -implicitDefEqProofs [*]) | (with_reducible first | refine zM hm ?_ | refine zN hm ?_ | refine zO hm ?_ | refine zP hm ?_) | ((with_reducible refine qaar [] hm ?_ ?_ ?_ ?_) <;> (try simp only [zT, puth, Nat.reduceEqDiff, reduceIte, Nat.reduceAdd])) | (with_reducible first | refine za ?_ ?_ | refine zb ?_ ?_ ?_ ?_ | refine zc ?_ ?_ ?_ ?_ | refine zd ?_ ?_ ?_ ?_ | refine qaap ?_ ?_ | refine qaan ?_ ?_) | (with_reducible first | exact qaak | exact qaao | exact qaat | exact qaau | exact Co.refl _ | exact CoL.refl _ | exact CoLL.refl _) | ((with_reducible first | refine zga ?_ | refine zgb ?_); rfl) | ((with_reducible refine zgc ?_); (first | (with_reducible rfl) | rfl | (simp; done))) | ((with_reducible first | refine zgd ?_ | refine zge ?_); (first | omega | (simp; done))) | (refine qaaw ⟨?_, ?_⟩ ?_ <;> omega) | (exact Co.refl _) | (exact CoL.refl _) | (exact CoLL.refl _) | (refine qaaz ?_; omega) | (refine qaay ?_; first | omega | (simp_all; done)) | (with_reducible first | refine qaav ?_ ?_ | refine qaaq ?_ ?_) | ((refine qaax hJ (i + 1, ?_, ?_) ?_ ?_ ?_; rotate_left 2; (with_reducible refine qaar [] hm ?_ ?_ ?_ ?_) <;> (try simp only [zT, puth, Nat.reduceEqDiff, reduceIte, Nat.reduceAdd]))) | fail)
   all_goals (try dsimp only)
   all_goals (refine ⟨by omega, ?_⟩; rw [h2.out, hfx.out _ rfl]; congr 2; simp [wOut, *])
  ·obtain rfl : i = p.meta_.length := by omega
   rw [List.drop_length, qact _ rfl] at h2
   have q1 : e = e2 := (Prod.mk.inj h2).1.symm
   have q2 : g = g2 := (Prod.mk.inj h2).2.symm
   subst q1 q2
   clear h2
   replace hF2 := Lib.hid hF2
   by_cases he : e = 0
   ·have r3 := rest3.out he
    subst he
    replace r3 := Lib.hid r3
    repeat' (first | ((refine qadh ?_ r3.out)) | (with_reducible first | refine zA ?_ | refine qaac ?_ | refine qaab ?_ | refine zK ?_) | ((with_reducible first | refine qaal ?_ | refine qaah (by rw [hP]; exact qaa4) ?_); (try rw [hP]); simp -implicitDefEqProofs [*]) | ((with_reducible first | refine qaaf ?_ | refine qaag ?_); (try simp -implicitDefEqProofs [*])) | ((with_reducible refine qaam ?_); (try simp only [qaas, qaad, qaaj])) | ((with_reducible refine qaae rfl (fun h => ?_) (fun h => ?_)) <;> have h' := h <;> (try simp at h') <;> (try subst h')) | ((with_reducible refine qaaa (fun h => ?_) (fun h => ?_)) <;> have h' := h <;> (try simp at h') <;> (try subst h') <;> simp -implicitDefEqProofs [*]) | ((with_reducible refine qaai ?_ ?_); (first | omega | (unfold maxLen; omega)); simp -implicitDefEqProofs [*]) | (with_reducible first | refine zM hm ?_ | refine zN hm ?_ | refine zO hm ?_ | refine zP hm ?_) | ((with_reducible refine qaar [] hm ?_ ?_ ?_ ?_) <;> (try simp only [zT, puth, Nat.reduceEqDiff, reduceIte, Nat.reduceAdd])) | (with_reducible first | refine za ?_ ?_ | refine zb ?_ ?_ ?_ ?_ | refine zc ?_ ?_ ?_ ?_ | refine zd ?_ ?_ ?_ ?_ | refine qaap ?_ ?_ | refine qaan ?_ ?_) | (with_reducible first | exact qaak | exact qaao | exact qaat | exact qaau | exact Co.refl _ | exact CoL.refl _ | exact CoLL.refl _) | ((with_reducible first | refine zga ?_ | refine zgb ?_); rfl) | ((with_reducible refine zgc ?_); (first | (with_reducible rfl) | rfl | (simp; done))) | ((with_reducible first | refine zgd ?_ | refine zge ?_); (first | omega | (simp; done))) | (refine qaaw ⟨?_, ?_⟩ ?_ <;> omega) | (exact Co.refl _) | (exact CoL.refl _) | (exact CoLL.refl _) | (refine qaaz ?_; omega) | (refine qaay ?_; first | omega | (simp_all; done)) | (with_reducible first | refine qaav ?_ ?_ | refine qaaq ?_ ?_) | fail)
   ·have ke : (e != 0) = true := by simpa using he
    have hfin : F = (e, g) := by rw [hF0.out]; exact qafj he _
    replace hfin := Lib.hid hfin
    repeat' (first | (with_reducible first | refine zA ?_ | refine qaac ?_ | refine qaab ?_ | refine zK ?_) | ((with_reducible first | refine qaal ?_ | refine qaah (by rw [hP]; exact qaa4) ?_); (try rw [hP]); simp -implicitDefEqProofs [*]) | ((with_reducible first | refine qaaf ?_ | refine qaag ?_); (try simp -implicitDefEqProofs [*])) | ((with_reducible refine qaam ?_); (try simp only [qaas, qaad, qaaj])) | ((with_reducible refine qaae rfl (fun h => ?_) (fun h => ?_)) <;> have h' := h <;> (try simp at h') <;> (try subst h')) | ((with_reducible refine qaaa (fun h => ?_) (fun h => ?_)) <;> have h' := h <;> (try simp at h') <;> (try subst h') <;> simp -implicitDefEqProofs [*]) | ((with_reducible refine qaai ?_ ?_); (first | omega | (unfold maxLen; omega)); simp -implicitDefEqProofs [*]) | (with_reducible first | refine zM hm ?_ | refine zN hm ?_ | refine zO hm ?_ | refine zP hm ?_) | (refine qaga hm rfl rfl (by rw [hP]; exact qaby) (by rw [hP]; exact qabo) rfl (CoL.refl _) (by rw [hfin.out]) (fun σ => rfl)) | fail)
 unfold c_pcheck
 replace rest1 := Lib.hid rest1
 clear rest3 rest4
 repeat' (first | (with_reducible first | refine zA ?_ | refine qaac ?_ | refine qaab ?_ | refine zK ?_) | ((with_reducible first | refine qaal ?_ | refine qaah (by rw [hP]; exact qaa4) ?_); (try rw [hP]); simp -implicitDefEqProofs [*]) | ((with_reducible first | refine qaaf ?_ | refine qaag ?_); (try simp -implicitDefEqProofs [*])) | ((with_reducible refine qaam ?_); (try simp only [qaas, qaad, qaaj])) | ((with_reducible refine qaae rfl (fun h => ?_) (fun h => ?_)) <;> have h' := h <;> (try simp at h') <;> (try subst h')) | ((with_reducible refine qaaa (fun h => ?_) (fun h => ?_)) <;> have h' := h <;> (try simp at h') <;> (try subst h') <;> simp -implicitDefEqProofs [*]) | ((with_reducible refine qaai ?_ ?_); (first | omega | (unfold maxLen; omega)); simp -implicitDefEqProofs [*]) | (refine qacb (qabh p _ _ _ _ _ _ _ (by simp)) ⟨rfl, trivial⟩ ⟨rfl, trivial⟩ ?_; simp -implicitDefEqProofs [*]) | (with_reducible first | refine zM hm ?_ | refine zN hm ?_ | refine zO hm ?_ | refine zP hm ?_) | fail)
 refine qaa0 (qabi (fun s (x : Nat × Int × Int) => s.turn [(4, .int .i64 x.1)] [(4, .cells 78 (jc p x.2.1 x.2.2))]) (fun x => x.1 ≤ p.heads.length ∧ (e1, g1) = orF (x.2.1, x.2.2) (rowF (fun _ h => qahl h.w) 1000 x.1 (p.heads.drop x.1))) (fun x => p.heads.length - x.1) (0, _, _) ?_ ⟨by simp, hF1.out⟩ ?_)
 ·repeat' (first | ((with_reducible refine qaar [] hm ?_ ?_ ?_ ?_) <;> (try simp only [zT, puth, Nat.reduceEqDiff, reduceIte, Nat.reduceAdd])) | (with_reducible first | refine za ?_ ?_ | refine zb ?_ ?_ ?_ ?_ | refine zc ?_ ?_ ?_ ?_ | refine zd ?_ ?_ ?_ ?_ | refine qaap ?_ ?_ | refine qaan ?_ ?_) | (with_reducible first | exact qaak | exact qaao | exact qaat | exact qaau | exact Co.refl _ | exact CoL.refl _ | exact CoLL.refl _) | ((with_reducible first | refine zga ?_ | refine zgb ?_); rfl) | ((with_reducible refine zgc ?_); (first | (with_reducible rfl) | rfl | (simp; done))) | ((with_reducible first | refine zgd ?_ | refine zge ?_); (first | omega | (simp; done))) | (refine qaaw ⟨?_, ?_⟩ ?_ <;> omega) | (exact Co.refl _) | (exact CoL.refl _) | (exact CoLL.refl _) | (refine qaaz ?_; omega) | (refine qaay ?_; first | omega | (simp_all; done)) | (with_reducible first | refine qaav ?_ ?_ | refine qaaq ?_ ?_) | fail)
 rintro J hJ ⟨i, e, g⟩ ⟨h1, h2⟩
 unfold qaib
 simp only [zT, puth, Nat.reduceEqDiff, reduceIte, Nat.reduceAdd] at h1 h2 ⊢
 have stop : ∀ h : (e1, g1) = (e, g), e = e1 ∧ g = g1 := fun h => ⟨(Prod.mk.inj h).1.symm, (Prod.mk.inj h).2.symm⟩
 rcases Nat.lt_or_ge i p.heads.length with hi | hi
 ·rw [qadl _ _ hi] at h2
  generalize hxx : p.heads[i] = x at h2
  by_cases he : e = 0
  ·subst he
   rw [qaeh, qbbs 0 g (qahl x.w)] at h2
   have wi : IntKind.i64.wrap ((i : Int) + 1) = (i : Int) + 1 := qaa2 (by omega) (by omega)
   have wa : IntKind.i64.wrap (1000 + (i : Int)) = 1000 + (i : Int) := qaa2 (by omega) (by omega)
   replace h2 := Lib.hid h2
   clear stop
   repeat' (first | (with_reducible first | refine zA ?_ | refine qaac ?_ | refine qaab ?_ | refine zK ?_) | ((with_reducible first | refine qaal ?_ | refine qaah (by rw [hP]; exact qaa4) ?_); (try rw [hP]); simp -implicitDefEqProofs [qaiz, *]) | ((with_reducible first | refine qaaf ?_ | refine qaag ?_); (try simp -implicitDefEqProofs [qaiz, *])) | ((with_reducible refine qaam ?_); (try simp only [qaas, qaad, qaaj])) | ((with_reducible refine qaae rfl (fun h => ?_) (fun h => ?_)) <;> have h' := h <;> (try simp at h') <;> (try subst h')) | ((with_reducible refine qaaa (fun h => ?_) (fun h => ?_)) <;> have h' := h <;> (try simp at h') <;> (try subst h') <;> simp -implicitDefEqProofs [qaiz, *]) | ((with_reducible refine qaai ?_ ?_); (first | omega | (unfold maxLen; omega)); simp -implicitDefEqProofs [qaiz, *]) | ((first | refine qacb (qabh p _ _ _ _ _ _ _ (by simp)) ⟨rfl, trivial⟩ ⟨rfl, trivial⟩ ?_ | refine qabd (qbbq x.w _) ?_); simp -implicitDefEqProofs [qaiz, *]) | (with_reducible first | refine zM hm ?_ | refine zN hm ?_ | refine zO hm ?_ | refine zP hm ?_) | ((with_reducible refine qaar [] hm ?_ ?_ ?_ ?_) <;> (try simp only [zT, puth, Nat.reduceEqDiff, reduceIte, Nat.reduceAdd])) | (with_reducible first | refine za ?_ ?_ | refine zb ?_ ?_ ?_ ?_ | refine zc ?_ ?_ ?_ ?_ | refine zd ?_ ?_ ?_ ?_ | refine qaap ?_ ?_ | refine qaan ?_ ?_) | (with_reducible first | exact qaak | exact qaao | exact qaat | exact qaau | exact Co.refl _ | exact CoL.refl _ | exact CoLL.refl _) | ((with_reducible first | refine zga ?_ | refine zgb ?_); rfl) | ((with_reducible refine zgc ?_); (first | (with_reducible rfl) | rfl | (simp; done))) | ((with_reducible first | refine zgd ?_ | refine zge ?_); (first | omega | (simp; done))) | (refine qaaw ⟨?_, ?_⟩ ?_ <;> omega) | (exact Co.refl _) | (exact CoL.refl _) | (exact CoLL.refl _) | (refine qaaz ?_; omega) | (refine qaay ?_; first | omega | (simp_all; done)) | (with_reducible first | refine qaav ?_ ?_ | refine qaaq ?_ ?_) | ((refine qaax hJ (i + 1, ?_, ?_) ?_ ?_ ?_; rotate_left 2; (with_reducible refine qaar [] hm ?_ ?_ ?_ ?_) <;> (try simp only [zT, puth, Nat.reduceEqDiff, reduceIte, Nat.reduceAdd]))) | fail)
   all_goals (try dsimp only)
   all_goals (exact ⟨by omega, h2.out⟩)
  ·rw [qafj he] at h2
   obtain ⟨rfl, rfl⟩ := stop h2
   have ke : (e == 0) = false := by simpa using he
   clear h2 stop
   repeat' (first | ((refine qadh ?_ rest1.out)) | (with_reducible first | refine zA ?_ | refine qaac ?_ | refine qaab ?_ | refine zK ?_) | ((with_reducible first | refine qaal ?_ | refine qaah (by rw [hP]; exact qaa4) ?_); (try rw [hP]); simp -implicitDefEqProofs [*]) | ((with_reducible first | refine qaaf ?_ | refine qaag ?_); (try simp -implicitDefEqProofs [*])) | ((with_reducible refine qaam ?_); (try simp only [qaas, qaad, qaaj])) | ((with_reducible refine qaae rfl (fun h => ?_) (fun h => ?_)) <;> have h' := h <;> (try simp at h') <;> (try subst h')) | ((with_reducible refine qaaa (fun h => ?_) (fun h => ?_)) <;> have h' := h <;> (try simp at h') <;> (try subst h') <;> simp -implicitDefEqProofs [*]) | ((with_reducible refine qaai ?_ ?_); (first | omega | (unfold maxLen; omega)); simp -implicitDefEqProofs [*]) | (with_reducible first | refine zM hm ?_ | refine zN hm ?_ | refine zO hm ?_ | refine zP hm ?_) | ((with_reducible refine qaar [] hm ?_ ?_ ?_ ?_) <;> (try simp only [zT, puth, Nat.reduceEqDiff, reduceIte, Nat.reduceAdd])) | (with_reducible first | refine za ?_ ?_ | refine zb ?_ ?_ ?_ ?_ | refine zc ?_ ?_ ?_ ?_ | refine zd ?_ ?_ ?_ ?_ | refine qaap ?_ ?_ | refine qaan ?_ ?_) | (with_reducible first | exact qaak | exact qaao | exact qaat | exact qaau | exact Co.refl _ | exact CoL.refl _ | exact CoLL.refl _) | ((with_reducible first | refine zga ?_ | refine zgb ?_); rfl) | ((with_reducible refine zgc ?_); (first | (with_reducible rfl) | rfl | (simp; done))) | ((with_reducible first | refine zgd ?_ | refine zge ?_); (first | omega | (simp; done))) | (refine qaaw ⟨?_, ?_⟩ ?_ <;> omega) | (exact Co.refl _) | (exact CoL.refl _) | (exact CoLL.refl _) | (refine qaaz ?_; omega) | (refine qaay ?_; first | omega | (simp_all; done)) | (with_reducible first | refine qaav ?_ ?_ | refine qaaq ?_ ?_) | fail)
 ·obtain rfl : i = p.heads.length := by omega
  rw [List.drop_length, qact _ rfl] at h2
  obtain ⟨rfl, rfl⟩ := stop h2
  clear h2 stop
  repeat' (first | ((refine qadh ?_ rest1.out)) | (with_reducible first | refine zA ?_ | refine qaac ?_ | refine qaab ?_ | refine zK ?_) | ((with_reducible first | refine qaal ?_ | refine qaah (by rw [hP]; exact qaa4) ?_); (try rw [hP]); simp -implicitDefEqProofs [*]) | ((with_reducible first | refine qaaf ?_ | refine qaag ?_); (try simp -implicitDefEqProofs [*])) | ((with_reducible refine qaam ?_); (try simp only [qaas, qaad, qaaj])) | ((with_reducible refine qaae rfl (fun h => ?_) (fun h => ?_)) <;> have h' := h <;> (try simp at h') <;> (try subst h')) | ((with_reducible refine qaaa (fun h => ?_) (fun h => ?_)) <;> have h' := h <;> (try simp at h') <;> (try subst h') <;> simp -implicitDefEqProofs [*]) | ((with_reducible refine qaai ?_ ?_); (first | omega | (unfold maxLen; omega)); simp -implicitDefEqProofs [*]) | (with_reducible first | refine zM hm ?_ | refine zN hm ?_ | refine zO hm ?_ | refine zP hm ?_) | ((with_reducible refine qaar [] hm ?_ ?_ ?_ ?_) <;> (try simp only [zT, puth, Nat.reduceEqDiff, reduceIte, Nat.reduceAdd])) | (with_reducible first | refine za ?_ ?_ | refine zb ?_ ?_ ?_ ?_ | refine zc ?_ ?_ ?_ ?_ | refine zd ?_ ?_ ?_ ?_ | refine qaap ?_ ?_ | refine qaan ?_ ?_) | (with_reducible first | exact qaak | exact qaao | exact qaat | exact qaau | exact Co.refl _ | exact CoL.refl _ | exact CoLL.refl _) | ((with_reducible first | refine zga ?_ | refine zgb ?_); rfl) | ((with_reducible refine zgc ?_); (first | (with_reducible rfl) | rfl | (simp; done))) | ((with_reducible first | refine zgd ?_ | refine zge ?_); (first | omega | (simp; done))) | (refine qaaw ⟨?_, ?_⟩ ?_ <;> omega) | (exact Co.refl _) | (exact CoL.refl _) | (exact CoLL.refl _) | (refine qaaz ?_; omega) | (refine qaay ?_; first | omega | (simp_all; done)) | (with_reducible first | refine qaav ?_ ?_ | refine qaaq ?_ ?_) | fail)
end Go.Proofs.Ytnfjldobjgdiaaa
