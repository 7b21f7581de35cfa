/-
  Texts joined: XPlnT XShY XWlkF XWlkG XWlkH XPlnU. No condition.
-/
import Derived.Test.YtnfjldobjgdiaaaProg
import Derived.ProofKit
import Derived.WalkSpells
import Derived.RegionTactic
import Derived.BigRegion
import Derived.Deep.RegionLaw
import Derived.Test.YtnfjldobjgdiaaaWalkDoesK6
namespace Go.Proofs.Ytnfjldobjgdiaaa
set_option linter.all false
open Go.RowKit
attribute [local simp] qabs qabr qaa5 qabc qaa6 qabb qabp qabq qaa1 qab3 SOp.run SX.ev putd puts argS upds SOp.touch SSt.keep SSt.skip gets geth puth delh idOf SV.cells? setL qadd qade sbin eq0 eq1 eqL qadc qacd qace qaas qabt qaad qabu qab4 qaaj qaa3 FrzOk qabl qabf qabj qabk qaa7 qabe qab0 qabg qaa9 qabm qaa8 frzS frzH frz frz1 frz0 SlotsM ObjsM ObjM rn ren ren1 ren0 qab9 qaay qaaz qab8 qab1 qacq qacp CoL qabn qacs dels adds idsH qacf
attribute [local simp] qad0 refc qafc qae1 qacn opc actc tabc qaeg qac1 nums
theorem rdeed_s (p : PlanD) (o : OpD) (args : List Int) (hl : o.e.length ≤ 1000000) (q : Nat) : SCalls Try.prog 71 [.agg (qac1 p), .agg (opc o), nums .i64 args] [] q (.int .i64 (qahd p o args)) [] := by
 refine qabw ?_ (fun _ => rfl) (fun _ => rfl) rfl q
 refine qaba (N := 52) Try.func71 rfl rfl (by kernel_rfl) qamu (by simp) (by repeat' (first | exact trivial | refine And.intro ?_ ?_ | rfl | decide | exact PureR.ren _)) (by repeat' (first | exact trivial | refine And.intro ?_ ?_ | rfl | decide | exact PureR.ren _)) ?_
 rintro X hP hN hm
 unfold c_rdeed
 have c1 := fun q => rmay_s p o.r q
 have c2 := fun q => qbbm p o.e args hl q
 have c3 := fun q => qapx p o.head q
 have hD : qahd p o args = if o.kind = 1 then (if qa0u p o.r then qafd p o.e args else 1) else if o.kind = 2 then (if qac8 p o.head then 0 else 1) else if o.kind = 3 then (if qac8 p o.head then 0 else 1)
  else if o.kind = 4 then 0 else if o.kind = 5 then qafd p o.e args else if o.kind = 6 then (if qa0u p o.r && qac8 p o.head then 0 else 1) else 5 := by
  unfold qahd
  by_cases k2 : o.kind = 2
  ·simp [k2]
  by_cases k3 : o.kind = 3
  ·simp [k3]
  simp [k2, k3]
 generalize qahd p o args = F at hD
 generalize qafd p o.e args = E at hD c2
 generalize qa0u p o.r = M at hD c1
 generalize qac8 p o.head = H at hD c3
 replace hD := Lib.hid hD
 replace c1 := Lib.hid c1
 replace c2 := Lib.hid c2
 replace c3 := Lib.hid c3
 repeat' (first | (with_reducible first | refine zA ?_ | refine qaac ?_ | refine qaab ?_ | refine zK ?_) | ((with_reducible first | refine qaal ?_ | refine qaah (by rw [hP]; exact qaa4) ?_); (try rw [hP]); simp -implicitDefEqProofs [qabz, *]) | ((with_reducible first | refine qaaf ?_ | refine qaag ?_); (try simp -implicitDefEqProofs [qabz, *])) | ((with_reducible refine qaam ?_); (try simp only [qaas, qaad, qaaj])) | ((with_reducible refine qaae rfl (fun h => ?_) (fun h => ?_)) <;> have h' := h <;> (try simp at h') <;> (try subst h')) | ((with_reducible refine qaaa (fun h => ?_) (fun h => ?_)) <;> have h' := h <;> (try simp at h') <;> (try subst h') <;> simp -implicitDefEqProofs [qabz, *]) | ((with_reducible refine qaai ?_ ?_); (first | omega | (unfold maxLen; omega)); simp -implicitDefEqProofs [qabz, *]) | ((first | refine qabd (c1.out _) ?_ | refine qabd (c2.out _) ?_ | refine qabd (c3.out _) ?_); simp -implicitDefEqProofs [qabz, *]) | (with_reducible first | refine zM hm ?_ | refine zN hm ?_ | refine zO hm ?_ | refine zP hm ?_) | fail)
 all_goals (rw [hD.out]; first | (simp [*]; done) | (simp_all; done))
theorem qajl (v : Int) {l : List Int} {i : Nat} (hi : i < l.length) : (l.drop i).contains v = (l[i] == v || (l.drop (i + 1)).contains v) := by
 rw [List.drop_eq_getElem_cons hi, List.contains_cons, Bool.beq_comm]
theorem rin_s (l : List Int) (v : Int) (hl : l.length ≤ 1000000) (q : Nat) : SCalls Try.prog 43 [nums .i64 l, .int .i64 v] [] q (.bool (l.contains v)) [] := by
 refine qabw ?_ (fun _ => rfl) (fun _ => rfl) rfl q
 refine qaba (N := 18) Try.func43 rfl rfl (by kernel_rfl) qa2e (by simp) (by repeat' (first | exact trivial | refine And.intro ?_ ?_ | rfl | decide | exact PureR.ren _)) (by repeat' (first | exact trivial | refine And.intro ?_ ?_ | rfl | decide | exact PureR.ren _)) ?_
 rintro X hP hN hm
 have hF : l.contains v = (l.drop 0).contains v := rfl
 generalize l.contains v = F at hF
 replace hF := Lib.hid hF
 unfold c_rin
 repeat' (first | (with_reducible first | refine zA ?_ | refine qaac ?_ | refine qaab ?_ | refine zK ?_) | ((with_reducible first | refine qaal ?_ | refine qaah (by rw [hP]; exact qaa4) ?_); (try rw [hP]); simp -implicitDefEqProofs [*]) | ((with_reducible first | refine qaaf ?_ | refine qaag ?_); (try simp -implicitDefEqProofs [*])) | ((with_reducible refine qaam ?_); (try simp only [qaas, qaad, qaaj])) | ((with_reducible refine qaae rfl (fun h => ?_) (fun h => ?_)) <;> have h' := h <;> (try simp at h') <;> (try subst h')) | ((with_reducible refine qaaa (fun h => ?_) (fun h => ?_)) <;> have h' := h <;> (try simp at h') <;> (try subst h') <;> simp -implicitDefEqProofs [*]) | ((with_reducible refine qaai ?_ ?_); (first | omega | (unfold maxLen; omega)); simp -implicitDefEqProofs [*]) | (with_reducible first | refine zM hm ?_ | refine zN hm ?_ | refine zO hm ?_ | refine zP hm ?_) | fail)
 refine qaa0 (qabi (fun s (i : Nat) => s.turn [(5, .int .i64 i)] []) (fun i => i ≤ l.length ∧ F = (l.drop i).contains v) (fun i => l.length - i) 0 ?_ ⟨by simp, hF.out⟩ ?_)
 ·repeat' (first | ((with_reducible refine qaar [] hm ?_ ?_ ?_ ?_) <;> (try simp only [zT, puth, Nat.reduceEqDiff, reduceIte, Nat.reduceAdd])) | (with_reducible first | refine za ?_ ?_ | refine zb ?_ ?_ ?_ ?_ | refine zc ?_ ?_ ?_ ?_ | refine zd ?_ ?_ ?_ ?_ | refine qaap ?_ ?_ | refine qaan ?_ ?_) | (with_reducible first | exact qaak | exact qaao | exact qaat | exact qaau | exact Co.refl _ | exact CoL.refl _ | exact CoLL.refl _) | ((with_reducible first | refine zga ?_ | refine zgb ?_); rfl) | ((with_reducible refine zgc ?_); (first | (with_reducible rfl) | rfl | (simp; done))) | ((with_reducible first | refine zgd ?_ | refine zge ?_); (first | omega | (simp; done))) | (refine qaaw ⟨?_, ?_⟩ ?_ <;> omega) | (exact Co.refl _) | (exact CoL.refl _) | (exact CoLL.refl _) | (refine qaaz ?_; omega) | (refine qaay ?_; first | omega | (simp_all; done)) | (with_reducible first | refine qaav ?_ ?_ | refine qaaq ?_ ?_) | fail)
 rintro J hJ i ⟨h1, h2⟩
 unfold qa53
 simp only [zT, puth, Nat.reduceEqDiff, reduceIte, Nat.reduceAdd] at h1 h2 ⊢
 rcases Nat.lt_or_ge i l.length with hi | hi
 ·rw [qajl v hi] at h2
  generalize hxx : l[i] = x at h2
  have wi : IntKind.i64.wrap ((i : Int) + 1) = (i : Int) + 1 := qaa2 (by omega) (by omega)
  cases hv : (x == v) <;> rw [hv] at h2 <;> replace h2 := Lib.hid h2
  ·repeat' (first | (with_reducible first | refine zA ?_ | refine qaac ?_ | refine qaab ?_ | refine zK ?_) | ((with_reducible first | refine qaal ?_ | refine qaah (by rw [hP]; exact qaa4) ?_); (try rw [hP]); simp -implicitDefEqProofs [*]) | ((with_reducible first | refine qaaf ?_ | refine qaag ?_); (try simp -implicitDefEqProofs [*])) | ((with_reducible refine qaam ?_); (try simp only [qaas, qaad, qaaj])) | ((with_reducible refine qaae rfl (fun h => ?_) (fun h => ?_)) <;> have h' := h <;> (try simp at h') <;> (try subst h')) | ((with_reducible refine qaaa (fun h => ?_) (fun h => ?_)) <;> have h' := h <;> (try simp at h') <;> (try subst h') <;> simp -implicitDefEqProofs [*]) | ((with_reducible refine qaai ?_ ?_); (first | omega | (unfold maxLen; omega)); simp -implicitDefEqProofs [*]) | (with_reducible first | refine zM hm ?_ | refine zN hm ?_ | refine zO hm ?_ | refine zP hm ?_) | ((with_reducible refine qaar [] hm ?_ ?_ ?_ ?_) <;> (try simp only [zT, puth, Nat.reduceEqDiff, reduceIte, Nat.reduceAdd])) | (with_reducible first | refine za ?_ ?_ | refine zb ?_ ?_ ?_ ?_ | refine zc ?_ ?_ ?_ ?_ | refine zd ?_ ?_ ?_ ?_ | refine qaap ?_ ?_ | refine qaan ?_ ?_) | (with_reducible first | exact qaak | exact qaao | exact qaat | exact qaau | exact Co.refl _ | exact CoL.refl _ | exact CoLL.refl _) | ((with_reducible first | refine zga ?_ | refine zgb ?_); rfl) | ((with_reducible refine zgc ?_); (first | (with_reducible rfl) | rfl | (simp; done))) | ((with_reducible first | refine zgd ?_ | refine zge ?_); (first | omega | (simp; done))) | (refine qaaw ⟨?_, ?_⟩ ?_ <;> omega) | (exact Co.refl _) | (exact CoL.refl _) | (exact CoLL.refl _) | (refine qaaz ?_; omega) | (refine qaay ?_; first | omega | (simp_all; done)) | (with_reducible first | refine qaav ?_ ?_ | refine qaaq ?_ ?_) | ((refine qaax hJ (i + 1) ?_ ?_ ?_; (with_reducible refine qaar [] hm ?_ ?_ ?_ ?_) <;> (try simp only [zT, puth, Nat.reduceEqDiff, reduceIte, Nat.reduceAdd]))) | fail)
   exact ⟨by omega, by rw [h2.out, Bool.false_or]⟩
  ·repeat' (first | (with_reducible first | refine zA ?_ | refine qaac ?_ | refine qaab ?_ | refine zK ?_) | ((with_reducible first | refine qaal ?_ | refine qaah (by rw [hP]; exact qaa4) ?_); (try rw [hP]); simp -implicitDefEqProofs [*]) | ((with_reducible first | refine qaaf ?_ | refine qaag ?_); (try simp -implicitDefEqProofs [*])) | ((with_reducible refine qaam ?_); (try simp only [qaas, qaad, qaaj])) | ((with_reducible refine qaae rfl (fun h => ?_) (fun h => ?_)) <;> have h' := h <;> (try simp at h') <;> (try subst h')) | ((with_reducible refine qaaa (fun h => ?_) (fun h => ?_)) <;> have h' := h <;> (try simp at h') <;> (try subst h') <;> simp -implicitDefEqProofs [*]) | ((with_reducible refine qaai ?_ ?_); (first | omega | (unfold maxLen; omega)); simp -implicitDefEqProofs [*]) | (with_reducible first | refine zM hm ?_ | refine zN hm ?_ | refine zO hm ?_ | refine zP hm ?_) | fail)
   rw [h2.out]; rfl
 ·obtain rfl : i = l.length := by omega
  rw [List.drop_length] at h2
  replace h2 := Lib.hid h2
  repeat' (first | (with_reducible first | refine zA ?_ | refine qaac ?_ | refine qaab ?_ | refine zK ?_) | ((with_reducible first | refine qaal ?_ | refine qaah (by rw [hP]; exact qaa4) ?_); (try rw [hP]); simp -implicitDefEqProofs [*]) | ((with_reducible first | refine qaaf ?_ | refine qaag ?_); (try simp -implicitDefEqProofs [*])) | ((with_reducible refine qaam ?_); (try simp only [qaas, qaad, qaaj])) | ((with_reducible refine qaae rfl (fun h => ?_) (fun h => ?_)) <;> have h' := h <;> (try simp at h') <;> (try subst h')) | ((with_reducible refine qaaa (fun h => ?_) (fun h => ?_)) <;> have h' := h <;> (try simp at h') <;> (try subst h') <;> simp -implicitDefEqProofs [*]) | ((with_reducible refine qaai ?_ ?_); (first | omega | (unfold maxLen; omega)); simp -implicitDefEqProofs [*]) | (with_reducible first | refine zM hm ?_ | refine zN hm ?_ | refine zO hm ?_ | refine zP hm ?_) | fail)
  rw [h2.out]; rfl
theorem qa9e (p : PlanD) (t : TabD) (hl : t.keys.length ≤ 1000000) (q : Nat) : SCalls Try.prog 13 [.agg (qac1 p), .agg (tabc t)] [] q (nums .i64 (qacc p t)) [] := by
 refine qabw ?_ (fun _ => rfl) (fun _ => rfl) rfl q
 rw [← qa0w]
 refine qaba (N := 25) Try.func13 rfl rfl (by kernel_rfl) qait (by simp) (by repeat' (first | exact trivial | refine And.intro ?_ ?_ | rfl | decide | exact PureR.ren _)) (by repeat' (first | exact trivial | refine And.intro ?_ ?_ | rfl | decide | exact PureR.ren _)) ?_
 rintro X hP hN hm
 unfold c_rwidths
 repeat' (first | (with_reducible first | refine zA ?_ | refine qaac ?_ | refine qaab ?_ | refine zK ?_) | ((with_reducible first | refine qaal ?_ | refine qaah (by rw [hP]; exact qaa4) ?_); (try rw [hP]); simp -implicitDefEqProofs [*]) | ((with_reducible first | refine qaaf ?_ | refine qaag ?_); (try simp -implicitDefEqProofs [*])) | ((with_reducible refine qaam ?_); (try simp only [qaas, qaad, qaaj])) | ((with_reducible refine qaae rfl (fun h => ?_) (fun h => ?_)) <;> have h' := h <;> (try simp at h') <;> (try subst h')) | ((with_reducible refine qaaa (fun h => ?_) (fun h => ?_)) <;> have h' := h <;> (try simp at h') <;> (try subst h') <;> simp -implicitDefEqProofs [*]) | ((with_reducible refine qaai ?_ ?_); (first | omega | (unfold maxLen; omega)); simp -implicitDefEqProofs [*]) | (with_reducible first | refine zM hm ?_ | refine zN hm ?_ | refine zO hm ?_ | refine zP hm ?_) | fail)
 refine qadh (qaih 5 3 1 rfl) ?_
 simp only [zT, puth, Nat.reduceEqDiff, reduceIte, Nat.reduceAdd]
 refine qaa0 (qabi (fun s (i : Nat) => s.turn [(5, .own 5 i), (6, .int .i64 i)] [(5, .row 3 1 (wrow p t.keys i))]) (fun i => i ≤ t.keys.length) (fun i => t.keys.length - i) 0 ?_ (by simp) ?_)
 ·repeat' (first | ((with_reducible refine qaar [] hm ?_ ?_ ?_ ?_) <;> (try simp only [zT, puth, Nat.reduceEqDiff, reduceIte, Nat.reduceAdd])) | (with_reducible first | refine za ?_ ?_ | refine zb ?_ ?_ ?_ ?_ | refine zc ?_ ?_ ?_ ?_ | refine zd ?_ ?_ ?_ ?_ | refine qaap ?_ ?_ | refine qaan ?_ ?_) | (with_reducible first | exact qaak | exact qaao | exact qaat | exact qaau | exact Co.refl _ | exact CoL.refl _ | exact CoLL.refl _) | ((with_reducible first | refine zga ?_ | refine zgb ?_); rfl) | ((with_reducible refine zgc ?_); (first | (with_reducible rfl) | rfl | (simp; done))) | ((with_reducible first | refine zgd ?_ | refine zge ?_); (first | omega | (simp; done))) | (refine qaaw ⟨?_, ?_⟩ ?_ <;> omega) | (exact Co.refl _) | (exact CoL.refl _) | (exact CoLL.refl _) | (refine qaaz ?_; omega) | (refine qaay ?_; first | omega | (simp_all; done)) | (with_reducible first | refine qaav ?_ ?_ | refine qaaq ?_ ?_) | fail)
 rintro J hJ i hi
 unfold qag5
 simp only [zT, puth, Nat.reduceEqDiff, reduceIte, Nat.reduceAdd]
 have hlen := qa0v p hi
 have hb1 : i + 1 ≤ maxLen := by unfold maxLen; omega
 rcases Nat.lt_or_ge i t.keys.length with h | h
 ·have wi : IntKind.i64.wrap ((i : Int) + 1) = (i : Int) + 1 := qaa2 (by omega) (by omega)
  have hrow := qapl p h
  generalize hr : t.keys[i] = r at hrow
  repeat' (first | (with_reducible first | refine zA ?_ | refine qaac ?_ | refine qaab ?_ | refine zK ?_) | ((with_reducible first | refine qaal ?_ | refine qaah (by rw [hP]; exact qaa4) ?_); (try rw [hP]); simp -implicitDefEqProofs [*]) | ((with_reducible first | refine qaaf ?_ | refine qaag ?_); (try simp -implicitDefEqProofs [*])) | ((with_reducible refine qaam ?_); (try simp only [qaas, qaad, qaaj])) | ((with_reducible refine qaae rfl (fun h => ?_) (fun h => ?_)) <;> have h' := h <;> (try simp at h') <;> (try subst h')) | ((with_reducible refine qaaa (fun h => ?_) (fun h => ?_)) <;> have h' := h <;> (try simp at h') <;> (try subst h') <;> simp -implicitDefEqProofs [*]) | ((with_reducible refine qaai ?_ ?_); (first | omega | (unfold maxLen; omega)); simp -implicitDefEqProofs [*]) | (refine qabd (qaii p r _) ?_; simp -implicitDefEqProofs [*]) | (with_reducible first | refine zM hm ?_ | refine zN hm ?_ | refine zO hm ?_ | refine zP hm ?_) | ((with_reducible refine qaar [] hm ?_ ?_ ?_ ?_) <;> (try simp only [zT, puth, Nat.reduceEqDiff, reduceIte, Nat.reduceAdd])) | (with_reducible first | refine za ?_ ?_ | refine zb ?_ ?_ ?_ ?_ | refine zc ?_ ?_ ?_ ?_ | refine zd ?_ ?_ ?_ ?_ | refine qaap ?_ ?_ | refine qaan ?_ ?_) | (with_reducible first | exact qaak | exact qaao | exact qaat | exact qaau | exact Co.refl _ | exact CoL.refl _ | exact CoLL.refl _) | ((with_reducible first | refine zga ?_ | refine zgb ?_); rfl) | ((with_reducible refine zgc ?_); (first | (with_reducible rfl) | rfl | (simp; done))) | ((with_reducible first | refine zgd ?_ | refine zge ?_); (first | omega | (simp; done))) | (refine qaaw ⟨?_, ?_⟩ ?_ <;> omega) | (exact Co.refl _) | (exact CoL.refl _) | (exact CoLL.refl _) | (refine qaaz ?_; omega) | (refine qaay ?_; first | omega | (simp_all; done)) | (with_reducible first | refine qaav ?_ ?_ | refine qaaq ?_ ?_) | ((refine qaax hJ (i + 1) ?_ ?_ ?_; (with_reducible refine qaar [(5, ?_)] hm ?_ ?_ ?_ ?_) <;> (try simp only [zT, puth, Nat.reduceEqDiff, reduceIte, Nat.reduceAdd]))) | fail)
 ·obtain rfl : i = t.keys.length := by omega
  repeat' (first | ((with_reducible refine qada (c := .seq (.reg false qag4 [4]) .ret) ?_)) | (with_reducible first | refine zA ?_ | refine qaac ?_ | refine qaab ?_ | refine zK ?_) | ((with_reducible first | refine qaal ?_ | refine qaah (by rw [hP]; exact qaa4) ?_); (try rw [hP]); simp -implicitDefEqProofs [*]) | ((with_reducible first | refine qaaf ?_ | refine qaag ?_); (try simp -implicitDefEqProofs [*])) | ((with_reducible refine qaam ?_); (try simp only [qaas, qaad, qaaj])) | ((with_reducible refine qaae rfl (fun h => ?_) (fun h => ?_)) <;> have h' := h <;> (try simp at h') <;> (try subst h')) | ((with_reducible refine qaaa (fun h => ?_) (fun h => ?_)) <;> have h' := h <;> (try simp at h') <;> (try subst h') <;> simp -implicitDefEqProofs [*]) | ((with_reducible refine qaai ?_ ?_); (first | omega | (unfold maxLen; omega)); simp -implicitDefEqProofs [*]) | (with_reducible first | refine zM hm ?_ | refine zN hm ?_ | refine zO hm ?_ | refine zP hm ?_) | fail)
  constructor
  refine qadw [5] ?_ ?_
  ·simp only [FrzOk, geth, Nat.reduceEqDiff, reduceIte, qad6, and_true]
  have htk : (wrow p t.keys t.keys.length).take t.keys.length = wrow p t.keys t.keys.length := List.take_of_length_le (by omega)
  simp -implicitDefEqProofs [htk, hlen, Nat.le_refl]
  repeat' (first | (with_reducible first | refine zA ?_ | refine qaac ?_ | refine qaab ?_ | refine zK ?_) | ((with_reducible first | refine qaal ?_ | refine qaah (by rw [hP]; exact qaa4) ?_); (try rw [hP]); simp -implicitDefEqProofs [*]) | ((with_reducible first | refine qaaf ?_ | refine qaag ?_); (try simp -implicitDefEqProofs [*])) | ((with_reducible refine qaam ?_); (try simp only [qaas, qaad, qaaj])) | ((with_reducible refine qaae rfl (fun h => ?_) (fun h => ?_)) <;> have h' := h <;> (try simp at h') <;> (try subst h')) | ((with_reducible refine qaaa (fun h => ?_) (fun h => ?_)) <;> have h' := h <;> (try simp at h') <;> (try subst h') <;> simp -implicitDefEqProofs [*]) | ((with_reducible refine qaai ?_ ?_); (first | omega | (unfold maxLen; omega)); simp -implicitDefEqProofs [*]) | (with_reducible first | refine zM hm ?_ | refine zN hm ?_ | refine zO hm ?_ | refine zP hm ?_) | (refine qajh hm ?_ (qaeb _ _)) | fail)
  rfl
theorem qaqk (n k : Int) (q : Nat) : SCalls Try.prog 69 [.int .u64 n, .int .i64 k] [] q (.bool (qalt n k)) [] := qabw (wide_s n k) (fun _ => rfl) (fun _ => rfl) rfl q
set_option maxHeartbeats 4000000 in
theorem qbcl (p : PlanD) (i : Nat) (hi : i < p.states.length) (hsl : p.states.length ≤ 1000000) (hcl : p.states[i].cases_.length ≤ 1000000) (q : Nat) : SCalls Try.prog 41 [.agg (qac1 p), .int .i64 i] [] q (.int .i64 (qae0 p i p.states[i])) [] := by
 refine qabw ?_ (fun _ => rfl) (fun _ => rfl) rfl q
 refine qaba (N := 80) Try.func41 rfl rfl (by kernel_rfl) qajx (by simp) (by repeat' (first | exact trivial | refine And.intro ?_ ?_ | rfl | decide | exact PureR.ren _)) (by repeat' (first | exact trivial | refine And.intro ?_ ?_ | rfl | decide | exact PureR.ren _)) ?_
 rintro X hP hN hm
 unfold c_rstate
 generalize hxx : p.states[i] = x at hcl
 have hlead := fun to_ q => rlead_s p i to_ q
 have hwid := fun q => qaii p x.on q
 have hhead := fun q => qapx p x.head q
 have hst : qae0 p i x = if (x.head != -1 && !qac8 p x.head) = true then 1 else if decide (4 < (x.cases_.length : Int)) = true then 2 else if (decide (0 < (x.cases_.length : Int)) && (qaca p x.on [] == 0)) = true then 1 else if qaco (qag1 p i (qaca p x.on [])) (x.cases_.drop 0) = 0 then qaf9 p i x.els else qaco (qag1 p i (qaca p x.on [])) (x.cases_.drop 0) := by
  unfold qae0
  have c1 : (x.head < -1 ∨ (p.heads.length : Int) ≤ x.head) ↔ (x.head != -1 && !qac8 p x.head) = true := by
   unfold qac8; rw [Bool.and_eq_true, Bool.not_eq_true', Bool.and_eq_false_iff, decide_eq_false_iff_not, decide_eq_false_iff_not, bne_iff_ne]; omega
  have c2 : (4 < x.cases_.length) ↔ decide (4 < (x.cases_.length : Int)) = true := by rw [decide_eq_true_eq]; omega
  have c3 : (0 < x.cases_.length ∧ qaca p x.on [] = 0) ↔ (decide (0 < (x.cases_.length : Int)) && (qaca p x.on [] == 0)) = true := by rw [Bool.and_eq_true, decide_eq_true_eq, beq_iff_eq]; omega
  simp only [propext c1, propext c2, propext c3, List.drop_zero, ne_eq, ite_not]
 generalize qae0 p i x = F at hst
 generalize qaca p x.on [] = W at hst hwid
 generalize qac8 p x.head = H at hst hhead
 replace hlead := Lib.hid hlead
 replace hwid := Lib.hid hwid
 replace hhead := Lib.hid hhead
 replace hst := Lib.hid hst
 have main : (x.head != -1 && !H) = false → decide (4 < (x.cases_.length : Int)) = false → (decide (0 < (x.cases_.length : Int)) && (W == 0)) = false → F = if qaco (qag1 p i W) (x.cases_.drop 0) = 0 then qaf9 p i x.els else qaco (qag1 p i W) (x.cases_.drop 0) := fun b1 b2 b3 => by
  have := hst.out; rw [b1, b2, b3] at this; exact this
 have hcs : ∀ c, qag1 p i W c = if (qalt c.mask W || (bits .and .u64 c.value c.mask != c.value)) = true then 6 else qaf9 p i c.to_ := fun c => by
  unfold qag1; congr 1
  rw [show decide (bits .and .u64 c.value c.mask ≠ c.value) = (bits .and .u64 c.value c.mask != c.value) by rw [Bool.eq_iff_iff]; simp]
 have loop : F = (if qaco (qag1 p i W) (x.cases_.drop 0) = 0 then qaf9 p i x.els else qaco (qag1 p i W) (x.cases_.drop 0)) → SWp X (SCode.block 0 c_rstate_l1.loop) (QSeq X ((SCode.reg false qag6 [4]).seq SCode.ret) (QFun X [ResultVar.tmp 4] 0 (SV.int IntKind.i64 F) []))
   ⟨[(1, .int .i64 i), (2, .ptr 0 0), (5, .ptr 7 0), (6, .int .i64 W), (7, .int .i64 0)], [(0, .cells 29 (qac1 p)), (7, .cells 65 (qacn x))], 8⟩ := fun h0 => by
  clear main hst
  refine qaa0 (qabi (fun s (j : Nat) => s.turn [(7, .int .i64 j)] []) (fun j => j ≤ x.cases_.length ∧ F = if qaco (qag1 p i W) (x.cases_.drop j) = 0 then qaf9 p i x.els else qaco (qag1 p i W) (x.cases_.drop j)) (fun j => x.cases_.length - j) 0 ?_ ⟨by simp, h0⟩ ?_)
  ·repeat' (first | ((with_reducible refine qaar [] hm ?_ ?_ ?_ ?_) <;> (try simp only [zT, puth, Nat.reduceEqDiff, reduceIte, Nat.reduceAdd])) | (with_reducible first | refine za ?_ ?_ | refine zb ?_ ?_ ?_ ?_ | refine zc ?_ ?_ ?_ ?_ | refine zd ?_ ?_ ?_ ?_ | refine qaap ?_ ?_ | refine qaan ?_ ?_) | (with_reducible first | exact qaak | exact qaao | exact qaat | exact qaau | exact Co.refl _ | exact CoL.refl _ | exact CoLL.refl _) | ((with_reducible first | refine zga ?_ | refine zgb ?_); rfl) | ((with_reducible refine zgc ?_); (first | (with_reducible rfl) | rfl | (simp; done))) | ((with_reducible first | refine zgd ?_ | refine zge ?_); (first | omega | (simp; done))) | (refine qaaw ⟨?_, ?_⟩ ?_ <;> omega) | (exact Co.refl _) | (exact CoL.refl _) | (exact CoLL.refl _) | (refine qaaz ?_; omega) | (refine qaay ?_; first | omega | (simp_all; done)) | (with_reducible first | refine qaav ?_ ?_ | refine qaaq ?_ ?_) | fail)
  rintro J hJ j ⟨h1, h2⟩
  unfold c_rstate_l1
  simp only [zT, puth, Nat.reduceEqDiff, reduceIte, Nat.reduceAdd] at h1 h2 ⊢
  rcases Nat.lt_or_ge j x.cases_.length with hj | hj
  ·rw [qaes _ hj] at h2
   generalize hcc : x.cases_[j] = c at h2
   rw [hcs c] at h2
   have hwd := fun q => qaqk c.mask W q
   have hld := fun q => hlead.out c.to_ q
   generalize qaf9 p i c.to_ = L at h2 hld
   generalize hwv : qalt c.mask W = V at h2 hwd
   generalize hbv : (bits .and .u64 c.value c.mask != c.value) = B at h2
   have wj : IntKind.i64.wrap ((j : Int) + 1) = (j : Int) + 1 := qaa2 (by omega) (by omega)
   replace h2 := Lib.hid h2
   replace hcs := Lib.hid hcs
   replace hld := Lib.hid hld
   replace hwv := Lib.hid hwv
   replace h0 := Lib.hid h0
   cases kV : V <;> cases kB : B <;> cases kL : (L != 0)
   all_goals
    rw [kV] at hwd
    rw [kB] at hbv
    repeat' (first | (with_reducible first | refine zA ?_ | refine qaac ?_ | refine qaab ?_ | refine zK ?_) | ((with_reducible first | refine qaal ?_ | refine qaah (by rw [hP]; exact qaa4) ?_); (try rw [hP]); simp -implicitDefEqProofs [*]) | ((with_reducible first | refine qaaf ?_ | refine qaag ?_); (try simp -implicitDefEqProofs [*])) | ((with_reducible refine qaam ?_); (try simp only [qaas, qaad, qaaj])) | ((with_reducible refine qaae rfl (fun h => ?_) (fun h => ?_)) <;> have h' := h <;> (try simp at h') <;> (try subst h')) | ((with_reducible refine qaaa (fun h => ?_) (fun h => ?_)) <;> have h' := h <;> (try simp at h') <;> (try subst h') <;> simp -implicitDefEqProofs [*]) | ((with_reducible refine qaai ?_ ?_); (first | omega | (unfold maxLen; omega)); simp -implicitDefEqProofs [*]) | ((first | refine qabd (hwd _) ?_ | refine qabd (hld.out _) ?_); simp -implicitDefEqProofs [*]) | (with_reducible first | refine zM hm ?_ | refine zN hm ?_ | refine zO hm ?_ | refine zP hm ?_) | ((with_reducible refine qaar [] hm ?_ ?_ ?_ ?_) <;> (try simp only [zT, puth, Nat.reduceEqDiff, reduceIte, Nat.reduceAdd])) | (with_reducible first | refine za ?_ ?_ | refine zb ?_ ?_ ?_ ?_ | refine zc ?_ ?_ ?_ ?_ | refine zd ?_ ?_ ?_ ?_ | refine qaap ?_ ?_ | refine qaan ?_ ?_) | (with_reducible first | exact qaak | exact qaao | exact qaat | exact qaau | exact Co.refl _ | exact CoL.refl _ | exact CoLL.refl _) | ((with_reducible first | refine zga ?_ | refine zgb ?_); rfl) | ((with_reducible refine zgc ?_); (first | (with_reducible rfl) | rfl | (simp; done))) | ((with_reducible first | refine zgd ?_ | refine zge ?_); (first | omega | (simp; done))) | (refine qaaw ⟨?_, ?_⟩ ?_ <;> omega) | (exact Co.refl _) | (exact CoL.refl _) | (exact CoLL.refl _) | (refine qaaz ?_; omega) | (refine qaay ?_; first | omega | (simp_all; done)) | (with_reducible first | refine qaav ?_ ?_ | refine qaaq ?_ ?_) | ((refine qaax hJ (j + 1) ?_ ?_ ?_; (with_reducible refine qaar [] hm ?_ ?_ ?_ ?_) <;> (try simp only [zT, puth, Nat.reduceEqDiff, reduceIte, Nat.reduceAdd]))) | fail)
    have kL' := kL
    simp at kL'
    first | (refine ⟨by omega, ?_⟩; rw [h2.out]; simp [kV, kB, kL']; done) | (rw [h2.out]; simp [kV, kB, kL']; done) | skip
  ·obtain rfl : j = x.cases_.length := by omega
   rw [List.drop_length] at h2
   replace h2 := Lib.hid h2
   replace h0 := Lib.hid h0
   replace hcs := Lib.hid hcs
   repeat' (first | (with_reducible first | refine zA ?_ | refine qaac ?_ | refine qaab ?_ | refine zK ?_) | ((with_reducible first | refine qaal ?_ | refine qaah (by rw [hP]; exact qaa4) ?_); (try rw [hP]); simp -implicitDefEqProofs [*]) | ((with_reducible first | refine qaaf ?_ | refine qaag ?_); (try simp -implicitDefEqProofs [*])) | ((with_reducible refine qaam ?_); (try simp only [qaas, qaad, qaaj])) | ((with_reducible refine qaae rfl (fun h => ?_) (fun h => ?_)) <;> have h' := h <;> (try simp at h') <;> (try subst h')) | ((with_reducible refine qaaa (fun h => ?_) (fun h => ?_)) <;> have h' := h <;> (try simp at h') <;> (try subst h') <;> simp -implicitDefEqProofs [*]) | ((with_reducible refine qaai ?_ ?_); (first | omega | (unfold maxLen; omega)); simp -implicitDefEqProofs [*]) | (refine qabd (hlead.out _ _) ?_; simp -implicitDefEqProofs [*]) | (with_reducible first | refine zM hm ?_ | refine zN hm ?_ | refine zO hm ?_ | refine zP hm ?_) | fail)
   rw [h2.out]; rfl
 replace hcs := Lib.hid hcs
 replace loop := Lib.hid loop
 replace main := Lib.hid main
 cases k1 : (x.head != -1)
 all_goals cases k2 : H
 all_goals rw [k2] at hhead
 all_goals cases k3 : decide (4 < (x.cases_.length : Int))
 all_goals have kn : decide (0 < x.cases_.length) = decide (0 < (x.cases_.length : Int)) := decide_eq_decide.2 (by omega)
 all_goals cases k4 : decide (0 < (x.cases_.length : Int)) <;> rw [k4] at kn
 all_goals cases k5 : (W == 0)
 all_goals
  repeat' (first | (with_reducible first | refine zA ?_ | refine qaac ?_ | refine qaab ?_ | refine zK ?_) | ((with_reducible first | refine qaal ?_ | refine qaah (by rw [hP]; exact qaa4) ?_); (try rw [hP]); simp -implicitDefEqProofs [*]) | ((with_reducible first | refine qaaf ?_ | refine qaag ?_); (try simp -implicitDefEqProofs [*])) | ((with_reducible refine qaam ?_); (try simp only [qaas, qaad, qaaj])) | ((with_reducible refine qaae rfl (fun h => ?_) (fun h => ?_)) <;> have h' := h <;> (try simp at h') <;> (try subst h')) | ((with_reducible refine qaaa (fun h => ?_) (fun h => ?_)) <;> have h' := h <;> (try simp at h') <;> (try subst h') <;> simp -implicitDefEqProofs [*]) | ((with_reducible refine qaai ?_ ?_); (first | omega | (unfold maxLen; omega)); simp -implicitDefEqProofs [*]) | ((first | refine qabd (hhead.out _) ?_ | refine qabd (hwid.out _) ?_); simp -implicitDefEqProofs [*]) | (with_reducible first | refine zM hm ?_ | refine zN hm ?_ | refine zO hm ?_ | refine zP hm ?_) | fail)
 all_goals (first | (have q := hst.out; simp only [k1, k2, k3, k4, k5, Bool.false_and, Bool.true_and, Bool.not_true, Bool.not_false, reduceIte, Bool.false_eq_true] at q; exact q.symm) | (have q := hst.out; simp [k1, k2, k3, k4, k5] at q; exact q.symm) | (have q := hst.out; simp [k1, k2, k3, k4] at q; exact q.symm) | skip)
 all_goals
  refine qadh ?_ (loop.out (main.out (by simp only [k1, k2]; rfl) k3 (by simp only [k4, k5]; rfl)))
  repeat' (first | ((with_reducible refine qaar [] hm ?_ ?_ ?_ ?_) <;> (try simp only [zT, puth, Nat.reduceEqDiff, reduceIte, Nat.reduceAdd])) | (with_reducible first | refine za ?_ ?_ | refine zb ?_ ?_ ?_ ?_ | refine zc ?_ ?_ ?_ ?_ | refine zd ?_ ?_ ?_ ?_ | refine qaap ?_ ?_ | refine qaan ?_ ?_) | (with_reducible first | exact qaak | exact qaao | exact qaat | exact qaau | exact Co.refl _ | exact CoL.refl _ | exact CoLL.refl _) | ((with_reducible first | refine zga ?_ | refine zgb ?_); rfl) | ((with_reducible refine zgc ?_); (first | (with_reducible rfl) | rfl | (simp; done))) | ((with_reducible first | refine zgd ?_ | refine zge ?_); (first | omega | (simp; done))) | (refine qaaw ⟨?_, ?_⟩ ?_ <;> omega) | (exact Co.refl _) | (exact CoL.refl _) | (exact CoLL.refl _) | (refine qaaz ?_; omega) | (refine qaay ?_; first | omega | (simp_all; done)) | (with_reducible first | refine qaav ?_ ?_ | refine qaaq ?_ ?_) | fail)
end Go.Proofs.Ytnfjldobjgdiaaa
namespace Go.Proofs.Ytnfjldobjgdiaaa
set_option linter.all false
open Go.RowKit
variable {w : World} {ρ : qacy} {fp : Nat → Nat → Prop} {O : Nat → Prop} {h1 : Hp}
theorem qaft (k : Nat) : ¬ Live [] fp k := fun ⟨_, _, h, _⟩ => by cases h
def Lent (h1 : Hp) (x y : SV) : Prop := ∀ (O : Nat → Prop) (ρ : qacy) (fp : Nat → Nat → Prop) (w : World) (v : Value), HeapOk O ρ fp h1 w → RepV w (fun k => O k ∨ Live h1 fp k) ρ x v → RepV w (fun k => O k ∨ Live [] fp k) ρ y v
def LentL (h1 : Hp) : List SV → List SV → Prop
 | [], [] => True
 | x :: xs, y :: ys => Lent h1 x y ∧ LentL h1 xs ys
 | _, _ => False
theorem qbbx {k : Nat} : (O k ∨ Live [] fp k) → O k ∨ Live h1 fp k := fun hk => hk.elim .inl fun h => absurd h (qaft k)
theorem qa9o (x : SV) : Lent h1 x x := fun _ _ _ _ _ _ hx => hx.weaken fun _ hk _ => qbbx hk
theorem qagv : ∀ {xs ys}, LentL h1 xs ys → xs.length = ys.length
 | [], [], _ => rfl
 | _ :: _, _ :: _, h => by simp [qagv h.2]
 | [], _ :: _, h => h.elim
 | _ :: _, [], h => h.elim
theorem qap4 : ∀ {xs ys : List SV} {j : Nat} {y : SV}, LentL h1 xs ys → ys[j]? = some y → ∃ x, xs[j]? = some x ∧ Lent h1 x y
 | x :: xs, y :: ys, 0, _, h, hy => by cases hy; exact ⟨x, rfl, h.1⟩
 | x :: xs, y :: ys, j + 1, _, h, hy => qap4 (xs := xs) (ys := ys) (j := j) h.2 (by simpa using hy)
 | [], [], _, _, _, hy => by simp at hy
 | [], _ :: _, _, _, h, _ => h.elim
 | _ :: _, [], _, _, h, _ => h.elim
theorem qbc2 {id z e : Nat} {es : List (List SV)} (ho : geth h1 id = some (.row e z es)) (hp : ∀ e ∈ es, qapk e) {n : Nat} (hn : n = es.length) : Lent h1 (.own id n) (.view z es) := fun O ρ fp w v hok hx => by
 subst hn
 obtain ⟨v0, us, how, ⟨hrep, huo⟩, hzs, hρ', hfp⟩ := hok.objs id _ ho
 generalize hn : es.length = n at hx
 cases hx with
 | own0 hρ => rw [List.eq_nil_of_length_eq_zero hn]; exact .view0 (by simp [maxLen]) (fun _ => rfl)
 | own hρ hnc hm =>
  rename_i b c
  rw [hρ] at hρ'
  have hp0 : qaef v0 = some (b, c) := (Option.some.inj hρ').symm
  obtain ⟨hv0, hcell, hlt, _, _⟩ := qaff how hp0
  have hown : fp id b := (hfp b).2 (by rw [hv0]; rfl)
  have hval : ∀ i e j x, es[i]? = some e → e[j]? = some x → ∃ u, us[i * z + j]? = some u ∧ RepV w (fun k => O k ∨ Live h1 fp k) ρ x u := fun i e j x he hx => hrep.get (qagx hzs he hx)
  refine .view (fun i j => us.getD (i * z + j) undef) hn hnc hm (fun hO => hO.elim (hok.lt b ⟨id, _, ho, hown⟩).2 (qaft b)) hlt hzs (fun i e j x he hx => ?_) (fun i e j x he hx => ?_) (fun i e j x he hx => ?_)
  ·obtain ⟨u, h1, h2⟩ := hval i e j x he hx
   rw [Nat.zero_add, List.getD_eq_getElem?_getD, h1]
   exact hcell _ _ h1
  ·obtain ⟨u, h1, h2⟩ := hval i e j x he hx
   rw [List.getD_eq_getElem?_getD, h1]
   exact (hp e (List.mem_of_getElem? he) x (List.mem_of_getElem? hx) _ _ _ _ h2).weaken fun k hk _ => qbbx hk
  ·obtain ⟨u, h1, h2⟩ := hval i e j x he hx
   rw [List.getD_eq_getElem?_getD, h1]
   exact huo u (List.mem_of_getElem? h1)
def qbbe (x : SV) : Prop := ∀ w A A' ρ v, RepV w A ρ x v → RepV w A' ρ x v
theorem qa2h (b : Bool) : qbbe (.bool b) := fun w A A' ρ v h => by cases h; exact .bool
def qbem (cs : List SV) : Prop := ∀ x ∈ cs, qbbe x
theorem qaj1 {A A' : Nat → Prop} {cs : List SV} {vs : List Value} (hc : qbem cs) (h : Reps w A ρ cs vs) : Reps w A' ρ cs vs :=
 ⟨h.1, fun j x v hx hv => hc x (List.mem_of_getElem? hx) _ _ _ _ _ (h.2 j x v hx hv)⟩
def CleanO : SObj → Prop
 | .cells _ cs => qbem cs
 | .row _ _ es => ∀ e ∈ es, qbem e
 | .abs _ => False
theorem qa96 {A A' : Nat → Prop} {id : Nat} {F : Nat → Prop} {o : SObj} (hc : CleanO o) (h : ObjRep w A ρ id F o) : ObjRep w A' ρ id F o := by
 cases o with
 | cells t cs =>
  obtain ⟨b, c, vs, q1, q2, ⟨q3, q4⟩, q5⟩ := h
  exact ⟨b, c, vs, q1, q2, ⟨qaj1 hc q3, q4⟩, q5⟩
 | row e z es =>
  obtain ⟨v, vs, q1, ⟨q2, q3⟩, q4, q5, q6⟩ := h
  exact ⟨v, vs, q1, ⟨qaj1 (fun x hx => by obtain ⟨e, he, hx⟩ := List.mem_flatten.1 hx; exact hc e he x hx) q2, q3⟩, q4, q5, q6⟩
 | abs I => exact hc.elim
theorem qarb (h1 h2 : Hp) (id : Nat) : geth (h1 ++ h2) id = match geth h1 id with | some o => some o | none => geth h2 id := by
 induction h1 with
 | nil => rfl
 | cons p h1 ih =>
  obtain ⟨i, o⟩ := p
  rw [List.cons_append]
  simp only [geth]
  split
  ·rfl
  ·exact ih
theorem qaq2 {P : Program} {f : FuncId} {args args' : List SV} {h1 h2 : Hp} {q : Nat} {r : SV} (h : SCalls P f args' [] q r h2) (ha : LentL h1 args args') (hr : qbbe r) (hc : ∀ id o, geth h2 id = some o → CleanO o)
  (hd : ∀ id, geth h1 id ≠ none → geth h2 id = none) : SCalls P f args h1 q r (h1 ++ h2) := by
 refine ⟨h.ent, fun O ρ fp w vs hok hargs hfr => ?_⟩
 have hargs' : Reps w (fun k => O k ∨ Live [] fp k) ρ args' vs := by
  refine ⟨by rw [← qagv ha]; exact hargs.1, fun j y v hy hv => ?_⟩
  obtain ⟨x, h1, h2⟩ := qap4 ha hy
  exact h2 O ρ fp w v hok (hargs.2 j x v h1 hv)
 refine (h.does O ρ fp w vs ⟨fun id o ho => (by cases ho), fun id id' o o' _ ho => (by cases ho), fun k hk => absurd hk (qaft k), hok.O_lt⟩ hargs' hfr).mono ?_
 rintro e w' ⟨v, ρ', fp', rfl, hk, hv, hst, hρ, hnew, hfp⟩
 have hst' : ∀ S : Nat → Prop, Step S w w' := fun S => hst.mono fun k hk => absurd hk (qaft k)
 have hbig : ∀ id o, geth h2 id = some o → ∀ k, fp' id k → w.heap.size ≤ k := fun id o ho k hk => (hfp id o ho k hk).elim (fun h => absurd h (qaft k)) fun h => h
 have hg : ∀ id o, geth (h1 ++ h2) id = some o → geth h1 id = some o ∧ geth h2 id = none ∨ geth h1 id = none ∧ geth h2 id = some o := fun id o ho => by
  rw [qarb] at ho
  cases e : geth h1 id with
  | some o' => rw [e] at ho; cases ho; exact .inl ⟨rfl, hd id (by rw [e]; simp)⟩
  | none => rw [e] at ho; exact .inr ⟨rfl, ho⟩
 let F : Nat → Nat → Prop := fun id k => (geth h2 id ≠ none ∧ fp' id k) ∨ (geth h2 id = none ∧ fp id k)
 have F1 : ∀ id, geth h2 id = none → F id = fp id := fun id hn => by funext k; simp [F, hn]
 have F2 : ∀ id o, geth h2 id = some o → F id = fp' id := fun id o hn => by funext k; simp [F, hn]
 have hav : ∀ k, (O k ∨ Live (h1 ++ h2) F k) → k < w.heap.size → O k ∨ Live h1 fp k := by
  rintro k (hO | ⟨id, o, ho, hk'⟩) hlt
  ·exact .inl hO
  ·rcases hg id o ho with ⟨q1, q2⟩ | ⟨q1, q2⟩
   ·rw [F1 id q2] at hk'; exact .inr ⟨id, o, q1, hk'⟩
   ·rw [F2 id o q2] at hk'; exact absurd (hbig id o q2 k hk') (by omega)
 refine ⟨v, ρ', F, rfl, ⟨fun id o ho => ?_, fun id id' o o' hne ho ho' k hk' hk2 => ?_, ?_, hk.O_lt⟩, hr _ _ _ _ _ hv, hst' _, hρ, hnew, fun id o ho k hk' => ?_⟩
 ·rcases hg id o ho with ⟨q1, q2⟩ | ⟨q1, q2⟩
  ·rw [F1 id q2]
   exact (hok.objs id o q1).mono ⟨hst' _, hav, hρ⟩ fun k hk' => hst.block k (hok.lt k ⟨id, o, q1, hk'⟩).1 (qaft k)
  ·rw [F2 id o q2]
   exact qa96 (hc id o q2) (hk.objs id o q2)
 ·rcases hg id o ho with ⟨q1, q2⟩ | ⟨q1, q2⟩ <;> rcases hg id' o' ho' with ⟨q3, q4⟩ | ⟨q3, q4⟩
  ·rw [F1 id q2] at hk'; rw [F1 id' q4] at hk2; exact hok.disj id id' o o' hne q1 q3 k hk' hk2
  ·rw [F1 id q2] at hk'; rw [F2 id' o' q4] at hk2
   have := (hok.lt k ⟨id, o, q1, hk'⟩).1; have := hbig id' o' q4 k hk2; omega
  ·rw [F2 id o q2] at hk'; rw [F1 id' q4] at hk2
   have := (hok.lt k ⟨id', o', q3, hk2⟩).1; have := hbig id o q2 k hk'; omega
  ·rw [F2 id o q2] at hk'; rw [F2 id' o' q4] at hk2; exact hk.disj id id' o o' hne q2 q4 k hk' hk2
 ·rintro k ⟨id, o, ho, hk'⟩
  rcases hg id o ho with ⟨q1, q2⟩ | ⟨q1, q2⟩
  ·rw [F1 id q2] at hk'
   have := hok.lt k ⟨id, o, q1, hk'⟩
   exact ⟨Nat.lt_of_lt_of_le this.1 hst.size, this.2⟩
  ·rw [F2 id o q2] at hk'
   exact hk.lt k ⟨id, o, q2, hk'⟩
 ·rcases hg id o ho with ⟨q1, q2⟩ | ⟨q1, q2⟩
  ·rw [F1 id q2] at hk'; exact .inl ⟨id, o, q1, hk'⟩
  ·rw [F2 id o q2] at hk'; exact .inr (hbig id o q2 k hk')
theorem qaq1 {P : Program} {f : FuncId} {args args' : List SV} {h1 : Hp} {q : Nat} {r : SV} (h : SCalls P f args' [] q r []) (ha : LentL h1 args args') (hr : qbbe r) : SCalls P f args h1 q r h1 := by
 have := qaq2 h ha hr (fun id o ho => by cases ho) fun _ _ => rfl
 rwa [List.append_nil] at this
end Go.Proofs.Ytnfjldobjgdiaaa
namespace Go.Proofs.Ytnfjldobjgdiaaa
set_option linter.all false
open Go.RowKit
attribute [local simp] qabs qabr qaa5 qabc qaa6 qabb qabp qabq qaa1 qab3 SOp.run SX.ev putd puts argS upds SOp.touch SSt.keep SSt.skip gets geth puth delh idOf SV.cells? setL qadd qade sbin eq0 eq1 eqL qadc qacd qace qaas qabt qaad qabu qab4 qaaj qaa3 FrzOk qabl qabf qabj qabk qaa7 qabe qab0 qabg qaa9 qabm qaa8 frzS frzH frz frz1 frz0 SlotsM ObjsM ObjM rn ren ren1 ren0 qab9 qaay qaaz qab8 qab1 qacq qacp CoL qabn qacs dels adds idsH qacf
attribute [local simp] qad0 refc qafc qae1 qacn opc actc tabc qaeg qac1 nums
def qadr (n : Nat) : List Int → List Int → List Int
 | [], acc => acc
 | t :: ts, acc => if (decide (tgt n t ≤ n) && !acc.contains (tgt n t)) = true then qadr n ts (acc ++ [tgt n t]) else qadr n ts acc
def qahh (p : PlanD) (s : StateD) : List Int := qadr p.states.length (qac2 s) []
theorem qafu (n : Nat) (k : Int) : ∀ (ts acc : List Int), k ∈ qadr n ts acc ↔ k ∈ acc ∨ (k ≤ n ∧ ∃ t ∈ ts, tgt n t = k)
 | [], acc => by simp [qadr]
 | t :: ts, acc => by
  unfold qadr
  by_cases h : (decide (tgt n t ≤ n) && !acc.contains (tgt n t)) = true
  ·rw [if_pos h, qafu n k ts]
   rw [Bool.and_eq_true, decide_eq_true_eq, Bool.not_eq_true'] at h
   constructor
   ·rintro (h1 | ⟨h1, t', h2, h3⟩)
    ·rcases List.mem_append.1 h1 with h1 | h1
     ·exact .inl h1
     ·rw [List.mem_singleton.1 h1]; exact .inr ⟨h.1, t, by simp, rfl⟩
    ·exact .inr ⟨h1, t', by simp [h2], h3⟩
   ·rintro (h1 | ⟨h1, t', h2, h3⟩)
    ·exact .inl (List.mem_append_left _ h1)
    ·rcases List.mem_cons.1 h2 with e | e
     ·rw [← h3, e]; exact .inl (List.mem_append_right _ (by simp))
     ·exact .inr ⟨h1, t', e, h3⟩
  ·rw [if_neg h, qafu n k ts]
   rw [Bool.and_eq_true, decide_eq_true_eq, Bool.not_eq_true'] at h
   constructor
   ·rintro (h1 | ⟨h1, t', h2, h3⟩)
    ·exact .inl h1
    ·exact .inr ⟨h1, t', by simp [h2], h3⟩
   ·rintro (h1 | ⟨h1, t', h2, h3⟩)
    ·exact .inl h1
    ·rcases List.mem_cons.1 h2 with e | e
     ·subst e
      have : acc.contains (tgt n t') = true := by
       by_cases hc : acc.contains (tgt n t') = true
       ·exact hc
       ·exact absurd ⟨by omega, by simpa using hc⟩ h
      rw [h3] at this
      exact .inl (by simpa using this)
     ·exact .inr ⟨h1, t', e, h3⟩
theorem qaei (n : Nat) : ∀ (ts acc : List Int), acc.Nodup → (qadr n ts acc).Nodup
 | [], acc, h => h
 | t :: ts, acc, h => by
  unfold qadr
  by_cases hc : (decide (tgt n t ≤ n) && !acc.contains (tgt n t)) = true
  ·rw [if_pos hc]
   refine qaei n ts _ ?_
   rw [Bool.and_eq_true, Bool.not_eq_true'] at hc
   rw [List.nodup_append]
   refine ⟨h, by simp, fun a ha b hb => ?_⟩
   rw [List.mem_singleton.1 hb]
   intro e
   rw [e] at ha
   have : acc.contains (tgt n t) = true := by simpa using ha
   rw [this] at hc; exact absurd hc.2 (by decide)
  ·rw [if_neg hc]; exact qaei n ts acc h
theorem qafv (n : Nat) : ∀ (ts acc : List Int), (qadr n ts acc).length ≤ acc.length + ts.length
 | [], acc => by simp [qadr]
 | t :: ts, acc => by
  unfold qadr
  split
  ·have := qafv n ts (acc ++ [tgt n t]); simp at this; simp; omega
  ·have := qafv n ts acc; simp; omega
theorem in_look (acc : List Int) (v : Int) (hl : acc.length ≤ 1000000) (R q : Nat) : SCalls Try.prog 43 [.own R acc.length, .int .i64 v] [(R, .row 3 1 (acc.map fun x => [SV.int .i64 x]))] q (.bool (acc.contains v)) [(R, .row 3 1 (acc.map fun x => [SV.int .i64 x]))] := by
 have hr : Lent [(R, .row 3 1 (acc.map fun x => [SV.int .i64 x]))] (.own R acc.length) (nums .i64 acc) := qbc2 (e := 3) (by simp [geth]) (qapw _ _) (by simp)
 exact qaq1 (rin_s acc v hl q) ⟨hr, qa9o _, trivial⟩ (qa2h _)
theorem qaeo (s : StateD) : (qac2 s).length = s.cases_.length + 1 := by simp [qac2]
theorem qa03 (s : StateD) {k : Nat} (hk : k ≤ s.cases_.length) : (qac2 s)[k]'(by rw [qaeo]; omega) = if h : k < s.cases_.length then s.cases_[k].to_ else s.els := by
 unfold qac2
 by_cases h : k < s.cases_.length
 ·rw [dif_pos h, List.getElem_append_left (by simpa using h), List.getElem_map]
 ·rw [dif_neg h, List.getElem_append_right (by simp; omega)]
  simp
set_option maxHeartbeats 4000000 in
theorem qbcm (p : PlanD) (hp : PlOk p) (i : Nat) (hi : i < p.states.length) (q : Nat) : SCalls Try.prog 78 [.agg (qac1 p), .int .i64 i] [] q (nums .i64 (qahh p p.states[i])) [] := by
 refine qabw ?_ (fun _ => rfl) (fun _ => rfl) rfl q
 refine qaba (N := 65) Try.func78 rfl rfl (by kernel_rfl) qajy (by simp) (by repeat' (first | exact trivial | refine And.intro ?_ ?_ | rfl | decide | exact PureR.ren _)) (by repeat' (first | exact trivial | refine And.intro ?_ ?_ | rfl | decide | exact PureR.ren _)) ?_
 rintro X hP hN hm
 have hcl := (hp.ok i hi).cases_
 have hn := hp.states.2
 clear hp
 generalize hxx : p.states[i] = x at hcl
 have hF : qahh p x = qadr p.states.length ((qac2 x).drop 0) [] := rfl
 generalize qahh p x = F at hF
 replace hF := Lib.hid hF
 unfold c_rleads
 repeat' (first | (with_reducible first | refine zA ?_ | refine qaac ?_ | refine qaab ?_ | refine zK ?_) | ((with_reducible first | refine qaal ?_ | refine qaah (by rw [hP]; exact qaa4) ?_); (try rw [hP]); simp -implicitDefEqProofs [*]) | ((with_reducible first | refine qaaf ?_ | refine qaag ?_); (try simp -implicitDefEqProofs [*])) | ((with_reducible refine qaam ?_); (try simp only [qaas, qaad, qaaj])) | ((with_reducible refine qaae rfl (fun h => ?_) (fun h => ?_)) <;> have h' := h <;> (try simp at h') <;> (try subst h')) | ((with_reducible refine qaaa (fun h => ?_) (fun h => ?_)) <;> have h' := h <;> (try simp at h') <;> (try subst h') <;> simp -implicitDefEqProofs [*]) | ((with_reducible refine qaai ?_ ?_); (first | omega | (unfold maxLen; omega)); simp -implicitDefEqProofs [*]) | (with_reducible first | refine zM hm ?_ | refine zN hm ?_ | refine zO hm ?_ | refine zP hm ?_) | fail)
 refine qadh (qaih 5 3 1 rfl) ?_
 simp only [zT, puth, Nat.reduceEqDiff, reduceIte, Nat.reduceAdd]
 refine qaa0 (qabi (fun s (z : Nat × List Int) => s.turn [(5, .own 4 z.2.length), (6, .int .i64 z.1)] [(4, .row 3 1 (z.2.map fun x => [SV.int .i64 x]))]) (fun z => z.1 ≤ x.cases_.length + 1 ∧ z.2.length ≤ z.1 ∧ F = qadr p.states.length ((qac2 x).drop z.1) z.2) (fun z => x.cases_.length + 1 - z.1) (0, []) ?_ ⟨by simp, by simp, hF.out⟩ ?_)
 ·repeat' (first | ((with_reducible refine qaar [] hm ?_ ?_ ?_ ?_) <;> (try simp only [zT, puth, Nat.reduceEqDiff, reduceIte, Nat.reduceAdd])) | (with_reducible first | refine za ?_ ?_ | refine zb ?_ ?_ ?_ ?_ | refine zc ?_ ?_ ?_ ?_ | refine zd ?_ ?_ ?_ ?_ | refine qaap ?_ ?_ | refine qaan ?_ ?_) | (with_reducible first | exact qaak | exact qaao | exact qaat | exact qaau | exact Co.refl _ | exact CoL.refl _ | exact CoLL.refl _) | ((with_reducible first | refine zga ?_ | refine zgb ?_); rfl) | ((with_reducible refine zgc ?_); (first | (with_reducible rfl) | rfl | (simp; done))) | ((with_reducible first | refine zgd ?_ | refine zge ?_); (first | omega | (simp; done))) | (refine qaaw ⟨?_, ?_⟩ ?_ <;> omega) | (exact Co.refl _) | (exact CoL.refl _) | (exact CoLL.refl _) | (refine qaaz ?_; omega) | (refine qaay ?_; first | omega | (simp_all; done)) | (with_reducible first | refine qaav ?_ ?_ | refine qaaq ?_ ?_) | fail)
 rintro J hJ ⟨k, acc⟩ ⟨h1, h2, h3⟩
 unfold qah6
 simp only [zT, puth, Nat.reduceEqDiff, reduceIte, Nat.reduceAdd] at h1 h2 h3 ⊢
 rcases Nat.lt_or_ge x.cases_.length k with hk | hk
 ·obtain rfl : k = x.cases_.length + 1 := by omega
  rw [List.drop_of_length_le (by rw [qaeo]; exact Nat.le_refl _)] at h3
  have h4 : F = acc := h3
  subst h4
  clear h3
  replace hF := Lib.hid hF
  have kx : decide ((x.cases_.length : Int) + 1 ≤ x.cases_.length) = false := by rw [decide_eq_false_iff_not]; omega
  repeat' (first | (with_reducible first | refine zA ?_ | refine qaac ?_ | refine qaab ?_ | refine zK ?_) | ((with_reducible first | refine qaal ?_ | refine qaah (by rw [hP]; exact qaa4) ?_); (try rw [hP]); simp -implicitDefEqProofs [*]) | ((with_reducible first | refine qaaf ?_ | refine qaag ?_); (try simp -implicitDefEqProofs [*])) | ((with_reducible refine qaam ?_); (try simp only [qaas, qaad, qaaj])) | ((with_reducible refine qaae rfl (fun h => ?_) (fun h => ?_)) <;> have h' := h <;> (try simp at h') <;> (try subst h')) | ((with_reducible refine qaaa (fun h => ?_) (fun h => ?_)) <;> have h' := h <;> (try simp at h') <;> (try subst h') <;> simp -implicitDefEqProofs [*]) | ((with_reducible refine qaai ?_ ?_); (first | omega | (unfold maxLen; omega)); simp -implicitDefEqProofs [*]) | (with_reducible first | refine zM hm ?_ | refine zN hm ?_ | refine zO hm ?_ | refine zP hm ?_) | (refine qaqh hm rfl rfl ?_ rfl) | fail)
  all_goals simp
 ·have hbm : acc.length + 1 ≤ maxLen := by unfold maxLen; omega
  have wk1 : IntKind.i64.wrap ((k : Int) + 1) = (k : Int) + 1 := qaa2 (by omega) (by omega)
  have hkl : k < (qac2 x).length := by rw [qaeo]; omega
  rw [List.drop_eq_getElem_cons hkl] at h3
  have hta := qa03 x hk
  have hlen' : ((acc.map fun x => [SV.int .i64 x])).length = acc.length := by simp
  have hgo : ∀ (t : Int) (C : Bool) (K : Int), acc.contains K = C → K = tgt p.states.length t → (qac2 x)[k] = t → F = if (decide (K ≤ p.states.length) && !C) = true then qadr p.states.length ((qac2 x).drop (k + 1)) (acc ++ [K]) else qadr p.states.length ((qac2 x).drop (k + 1)) acc := fun t C K hC hK ht => by
   rw [h3, ht, ← hC, hK]; rfl
  have hin := fun K q => in_look acc K (by omega) 4 q
  have hrow : ∀ K, (acc.map fun x => [SV.int .i64 x]) ++ [[SV.int .i64 K]] = (acc ++ [K]).map fun x => [SV.int .i64 x] := fun K => by rw [List.map_append]; rfl
  have hal : ∀ K, (acc ++ [K]).length = acc.length + 1 := fun K => by simp
  clear h3
  replace hF := Lib.hid hF
  replace hgo := Lib.hid hgo
  replace hin := Lib.hid hin
  replace hrow := Lib.hid hrow
  have hcase : (∃ (h : k < x.cases_.length) (t : Int), x.cases_[k].to_ = t ∧ (qac2 x)[k] = t) ∨ (x.cases_.length = k ∧ ∃ t, x.els = t ∧ (qac2 x)[k] = t) := by
   by_cases hlt : k < x.cases_.length
   ·rw [dif_pos hlt] at hta; exact .inl ⟨hlt, _, rfl, hta⟩
   ·rw [dif_neg hlt] at hta; exact .inr ⟨by omega, _, rfl, hta⟩
  clear hta
  rcases hcase with ⟨hlt, t, ht, hta⟩ | ⟨hlt, t, ht, hta⟩
  all_goals
   have hK : tgt p.states.length t = if t = 1000 then (p.states.length : Int) else t := rfl
   have hE := fun C h => hgo.out t C (tgt p.states.length t) h rfl hta
   have hi4 := fun q => hin.out (tgt p.states.length t) q
   have hr4 := hrow.out (tgt p.states.length t)
   have ha4 := hal (tgt p.states.length t)
   clear hta hgo hin hrow hal
   generalize tgt p.states.length t = K at hK hE hi4 hr4 ha4
   cases hC : acc.contains K
   all_goals
    rw [hC] at hi4
    have hE2 := hE _ hC
    clear hE
    replace hC := Lib.hid hC
    replace hi4 := Lib.hid hi4
    replace hr4 := Lib.hid hr4
    cases kb : decide (K ≤ (p.states.length : Int))
    all_goals
     rw [kb] at hE2
     replace hE2 := Lib.hid hE2
     cases kt : (t == 1000)
     all_goals
      first
      | (have e : K = t := by rw [hK, if_neg (by simpa using kt)]
       subst e)
      | (have e : K = (p.states.length : Int) := by rw [hK, if_pos (by simpa using kt)]
       subst e)
      replace hK := Lib.hid hK
      try (exfalso; simp at kb; done)
     all_goals
      repeat' (first | (with_reducible first | refine zA ?_ | refine qaac ?_ | refine qaab ?_ | refine zK ?_) | ((with_reducible first | refine qaal ?_ | refine qaah (by rw [hP]; exact qaa4) ?_); (try rw [hP]); simp -implicitDefEqProofs [*]) | ((with_reducible first | refine qaaf ?_ | refine qaag ?_); (try simp -implicitDefEqProofs [*])) | ((with_reducible refine qaam ?_); (try simp only [qaas, qaad, qaaj])) | ((with_reducible refine qaae rfl (fun h => ?_) (fun h => ?_)) <;> have h' := h <;> (try simp at h') <;> (try subst h')) | ((with_reducible refine qaaa (fun h => ?_) (fun h => ?_)) <;> have h' := h <;> (try simp at h') <;> (try subst h') <;> simp -implicitDefEqProofs [*]) | ((with_reducible refine qaai ?_ ?_); (first | omega | (unfold maxLen; omega)); simp -implicitDefEqProofs [*]) | (refine call_r (hi4.out _) ⟨rfl, trivial⟩ ⟨rfl, trivial⟩ ?_; simp -implicitDefEqProofs [*]) | (with_reducible first | refine zM hm ?_ | refine zN hm ?_ | refine zO hm ?_ | refine zP hm ?_) | fail)
      first
      | (refine qaax hJ (k + 1, acc) ?_ (And.intro ?_ (And.intro ?_ hE2.out)) ?_
       rotate_left
       (focus (dsimp only; omega))
       (focus (dsimp only; omega))
       (focus (dsimp only; omega))
       (with_reducible refine qaar [] hm ?_ ?_ ?_ ?_) <;> (try simp only [zT, puth, Nat.reduceEqDiff, reduceIte, Nat.reduceAdd]))
      | (refine qaax hJ (k + 1, acc ++ [_]) ?_ (And.intro ?_ (And.intro ?_ hE2.out)) ?_
       rotate_left
       (focus (dsimp only; omega))
       (focus (dsimp only; omega))
       (focus (dsimp only; omega))
       (with_reducible refine qaar [(4, ?_)] hm ?_ ?_ ?_ ?_) <;> (try simp only [zT, puth, Nat.reduceEqDiff, reduceIte, Nat.reduceAdd]))
      all_goals (try simp only [List.length_append, List.length_cons, List.length_nil, Nat.zero_add])
      repeat' (first | ((with_reducible refine qaar [] hm ?_ ?_ ?_ ?_) <;> (try simp only [zT, puth, Nat.reduceEqDiff, reduceIte, Nat.reduceAdd])) | (with_reducible first | refine za ?_ ?_ | refine zb ?_ ?_ ?_ ?_ | refine zc ?_ ?_ ?_ ?_ | refine zd ?_ ?_ ?_ ?_ | refine qaap ?_ ?_ | refine qaan ?_ ?_) | (with_reducible first | exact qaak | exact qaao | exact qaat | exact qaau | exact Co.refl _ | exact CoL.refl _ | exact CoLL.refl _) | ((with_reducible first | refine zga ?_ | refine zgb ?_); rfl) | ((with_reducible refine zgc ?_); (first | (with_reducible rfl) | rfl | (simp; done))) | ((with_reducible first | refine zgd ?_ | refine zge ?_); (first | omega | (simp; done))) | (refine qaaw ⟨?_, ?_⟩ ?_ <;> omega) | (exact Co.refl _) | (exact CoL.refl _) | (exact CoLL.refl _) | (refine qaaz ?_; omega) | (refine qaay ?_; first | omega | (simp_all; done)) | (with_reducible first | refine qaav ?_ ?_ | refine qaaq ?_ ?_) | fail)
      all_goals (exact hr4.out)
end Go.Proofs.Ytnfjldobjgdiaaa
namespace Go.Proofs.Ytnfjldobjgdiaaa
set_option linter.all false
open Go.RowKit
structure WayD where
 st : Nat
 taken : BitVec 64
 bytes : Int
def wayc (w : WayD) : List SV := [.int .i64 w.st, .int .u64 w.taken.toNat, .int .i64 w.bytes]
def qai0 (p : PlanD) (w : WayD) : List WayD := if h : w.st < p.states.length then (qahh p p.states[w.st]).map (fun k => ⟨k.toNat, (qapq p p.states[w.st].head (w.taken, w.bytes)).1, (qapq p p.states[w.st].head (w.taken, w.bytes)).2⟩) else []
def qai1 (p : PlanD) : Nat → List WayD → Nat → List WayD
 | 0, out, _ => out
 | f + 1, out, i => if h : i < out.length then qai1 p f (out ++ qai0 p out[i]) (i + 1) else out
def gs : List Nat → Nat
 | [] => 0
 | x :: l => 2 ^ x + gs l
theorem qap9 : ∀ a b, gs (a ++ b) = gs a + gs b
 | [], b => by simp [gs]
 | x :: a, b => by simp only [List.cons_append, gs, qap9 a b]; omega
theorem gs_len : ∀ l, l.length ≤ gs l
 | [] => Nat.le_refl _
 | x :: l => by have := gs_len l; have := Nat.one_le_two_pow (n := x); simp only [List.length_cons, gs]; omega
theorem qa13 (m : Nat) : ∀ l, m ∈ l → gs l = 2 ^ m + gs (l.erase m)
 | [], h => by cases h
 | x :: l, h => by
  by_cases e : x = m
  ·subst e; simp [gs]
  ·have h2 : m ∈ l := by rcases List.mem_cons.1 h with q | q; exact absurd q.symm e; exact q
   rw [List.erase_cons_tail (by simpa using e)]
   simp only [gs]
   rw [qa13 m l h2]; omega
theorem gs_lt : ∀ (m : Nat) (l : List Nat), l.Nodup → (∀ x ∈ l, x < m) → gs l < 2 ^ m
 | 0, l, _, h => by
  have : l = [] := by
   cases l with
   | nil => rfl
   | cons x l => exact absurd (h x (by simp)) (by omega)
  subst this; simp [gs]
 | m + 1, l, hn, h => by
  rw [Nat.pow_succ]
  by_cases hm : m ∈ l
  ·rw [qa13 m l hm]
   have := gs_lt m (l.erase m) (hn.erase m) (fun x hx => by
    have h1 := h x (List.mem_of_mem_erase hx)
    have h2 : x ≠ m := fun e => by subst e; exact (List.Nodup.not_mem_erase hn) hx
    omega)
   omega
  ·have := gs_lt m l hn (fun x hx => by
    have h1 := h x hx
    have h2 : x ≠ m := fun e => by subst e; exact hm hx
    omega)
   omega
def phi (p : PlanD) (l : List WayD) : Nat := gs (l.map fun w => p.states.length - w.st)
theorem qa1x {p : PlanD} {s : StateD} {k : Int} : k ∈ qahh p s ↔ (k ≤ p.states.length ∧ ∃ t ∈ qac2 s, tgt p.states.length t = k) := by
 unfold qahh; rw [qafu]; simp
theorem qafk {p : PlanD} (hp : PlOk p) {i : Nat} (hi : i < p.states.length) {k : Int} (hk : k ∈ qahh p p.states[i]) : (i : Int) < k ∧ k ≤ p.states.length ∧ Leads p p.states[i] k.toNat := by
 obtain ⟨h1, t, h2, h3⟩ := qa1x.1 hk
 have := qa89 (hp.ok i hi) hi hp.states.2 h2
 refine ⟨by omega, h1, by omega, t, h2, by omega⟩
theorem qagu {α β : Type} {f : α → β} : ∀ {l : List α}, (∀ a ∈ l, ∀ b ∈ l, f a = f b → a = b) → l.Nodup → (l.map f).Nodup
 | [], _, _ => by simp
 | x :: l, h, hn => by
  rw [List.nodup_cons] at hn
  rw [List.map_cons, List.nodup_cons]
  refine ⟨fun hm => ?_, qagu (fun a ha b hb e => h a (by simp [ha]) b (by simp [hb]) e) hn.2⟩
  obtain ⟨y, hy, e⟩ := List.mem_map.1 hm
  have := h x (by simp) y (by simp [hy]) e.symm
  exact hn.1 (by rw [this]; exact hy)
theorem qbcp {p : PlanD} (hp : PlOk p) (w : WayD) : phi p (qai0 p w) < 2 ^ (p.states.length - w.st) := by
 unfold phi qai0
 by_cases h : w.st < p.states.length
 ·rw [dif_pos h, List.map_map]
  refine gs_lt _ _ ?_ ?_
  ·refine qagu (fun a ha b hb e => ?_) (qaei _ _ _ (by simp))
   have h1 := qafk hp h ha
   have h2 := qafk hp h hb
   simp only [Function.comp] at e
   omega
  ·intro x hx
   obtain ⟨k, hk, rfl⟩ := List.mem_map.1 hx
   have h1 := qafk hp h hk
   simp only [Function.comp]; omega
 ·rw [dif_neg h]; simp [gs]; exact Nat.two_pow_pos _
structure InvW (p : PlanD) (out : List WayD) (i : Nat) : Prop where
 sound : ∀ w ∈ out, w.st ≤ p.states.length ∧ RW p w.st w.st (w.taken, w.bytes)
 le : i ≤ out.length
 fin : i + phi p (out.drop i) ≤ 256
 start : (⟨0, 0, 0⟩ : WayD) ∈ out
 closed : ∀ (j : Nat) (hj : j < out.length), j < i → ∀ v ∈ qai0 p out[j], v ∈ out
theorem qa1w {p : PlanD} (hp : PlOk p) {w : WayD} (h : RW p w.st w.st (w.taken, w.bytes)) {v : WayD} (hv : v ∈ qai0 p w) : v.st ≤ p.states.length ∧ RW p v.st v.st (v.taken, v.bytes) := by
 unfold qai0 at hv
 by_cases hs : w.st < p.states.length
 ·rw [dif_pos hs] at hv
  obtain ⟨k, hk, rfl⟩ := List.mem_map.1 hv
  have h1 := qafk hp hs hk
  refine ⟨by show k.toNat ≤ _; omega, ?_⟩
  show RW p k.toNat k.toNat _
  have h2 : RW p (w.st + 1) k.toNat (qapq p p.states[w.st].head (w.taken, w.bytes)) := .inr ⟨hs, _, h, h1.2.2, rfl⟩
  have stay : ∀ j, w.st + 1 ≤ j → j ≤ p.states.length → ∀ k y, RW p (w.st + 1) k y → RW p j k y := by
   intro j
   induction j with
   | zero => intro h; omega
   | succ j ih =>
    intro h3 h4 k y h5
    by_cases e : w.st + 1 = j + 1
    ·rw [← e]; exact h5
    ·exact .inl (ih (by omega) (by omega) k y h5)
  exact stay k.toNat (by omega) (by omega) _ _ h2
 ·rw [dif_neg hs] at hv; cases hv
theorem qaip {p : PlanD} (hp : PlOk p) : InvW p [⟨0, 0, 0⟩] 0 := by
 refine ⟨fun w hw => ?_, by simp, ?_, by simp, fun j _ hj => by omega⟩
 ·rw [List.mem_singleton.1 hw]; exact ⟨by simp, rfl, rfl⟩
 ·have := hp.states.2
  have h2 : 2 ^ p.states.length ≤ 2 ^ 8 := Nat.pow_le_pow_right (by omega) this
  simp [phi, gs]; omega
theorem qa11 {p : PlanD} (hp : PlOk p) {out : List WayD} {i : Nat} (h : InvW p out i) (hi : i < out.length) : InvW p (out ++ qai0 p out[i]) (i + 1) ∧ phi p ((out ++ qai0 p out[i]).drop (i + 1)) < phi p (out.drop i) := by
 have hw := h.sound out[i] (List.getElem_mem hi)
 have hd : (out ++ qai0 p out[i]).drop (i + 1) = out.drop (i + 1) ++ qai0 p out[i] := by rw [List.drop_append_of_le_length (by omega)]
 have hph : phi p (out.drop i) = 2 ^ (p.states.length - out[i].st) + phi p (out.drop (i + 1)) := by
  unfold phi; rw [List.drop_eq_getElem_cons hi]; rfl
 have hph2 : phi p ((out ++ qai0 p out[i]).drop (i + 1)) = phi p (out.drop (i + 1)) + phi p (qai0 p out[i]) := by
  rw [hd]; unfold phi; rw [List.map_append, qap9]
 have hlt := qbcp hp out[i]
 refine ⟨⟨fun w hw' => ?_, by simp; omega, by have := h.fin; omega, List.mem_append_left _ h.start, fun j hj hj2 v hv => ?_⟩, by omega⟩
 ·rcases List.mem_append.1 hw' with q | q
  ·exact h.sound w q
  ·exact qa1w hp hw.2 q
 ·have hjl : j < out.length := by omega
  rw [List.getElem_append_left hjl] at hv
  by_cases e : j = i
  ·subst e; exact List.mem_append_right _ hv
  ·exact List.mem_append_left _ (h.closed j hjl (by omega) v hv)
theorem qbbz {p : PlanD} {out : List WayD} {i : Nat} (h : InvW p out i) : out.length ≤ 256 := by
 have h1 := h.fin
 have h2 := gs_len ((out.drop i).map fun w => p.states.length - w.st)
 rw [List.length_map, List.length_drop] at h2
 unfold phi at h1; have := h.le; omega
def qa00 (p : PlanD) : List WayD := qai1 p 257 [⟨0, 0, 0⟩] 0
theorem qa0z {p : PlanD} (hp : PlOk p) : ∀ f out i, InvW p out i → phi p (out.drop i) < f → ∃ j, InvW p (qai1 p f out i) j ∧ (qai1 p f out i).length ≤ j
 | 0, out, i, _, h => by omega
 | f + 1, out, i, h, hf => by
  unfold qai1
  by_cases hi : i < out.length
  ·rw [dif_pos hi]
   obtain ⟨h1, h2⟩ := qa11 hp h hi
   exact qa0z hp f _ _ h1 (by omega)
  ·rw [dif_neg hi]; exact ⟨i, h, by omega⟩
theorem qalw {p : PlanD} (hp : PlOk p) : ∃ j, InvW p (qa00 p) j ∧ (qa00 p).length ≤ j := qa0z hp 257 _ 0 (qaip hp) (by have := (qaip hp).fin; omega)
theorem ways_rw {p : PlanD} (hp : PlOk p) {k : Nat} (hk : k ≤ p.states.length) (y : TB) : (∃ w ∈ qa00 p, w.st = k ∧ y = (w.taken, w.bytes)) ↔ RW p p.states.length k y := by
 obtain ⟨j, h, hj⟩ := qalw hp
 have stay := qa1d hp (k := k) p.states.length hk (Nat.le_refl _) y
 constructor
 ·rintro ⟨w, hw, e1, e2⟩
  have := (h.sound w hw).2
  rw [stay, ← e1, e2]; exact this
 ·have main : ∀ i k y, i ≤ p.states.length → k ≤ p.states.length → RW p i k y → ∃ w ∈ qa00 p, w.st = k ∧ y = (w.taken, w.bytes) := by
   intro i
   induction i with
   | zero => intro k y _ _ hr; exact ⟨_, h.start, hr.1.symm, hr.2⟩
   | succ i ih =>
    intro k y hi hk hr
    rcases hr with hr | ⟨hlt, z, h1, h2, h3⟩
    ·exact ih k y (by omega) hk hr
    ·obtain ⟨w, hw, e1, e2⟩ := ih i z (by omega) (by omega) h1
     obtain ⟨m, hm, e3⟩ := List.getElem_of_mem hw
     refine ⟨⟨k, y.1, y.2⟩, h.closed m hm (by omega) _ ?_, rfl, rfl⟩
     rw [e3]
     unfold qai0
     rw [dif_pos (by omega)]
     subst e1
     refine List.mem_map.2 ⟨(k : Int), qa1x.2 ⟨by have := h2.1; omega, h2.2⟩, ?_⟩
     rw [h3, e2]; rfl
  exact main _ _ _ (Nat.le_refl _) hk
end Go.Proofs.Ytnfjldobjgdiaaa
namespace Go.Proofs.Ytnfjldobjgdiaaa
set_option linter.all false
open Go.RowKit
attribute [local simp] qabs qabr qaa5 qabc qaa6 qabb qabp qabq qaa1 qab3 SOp.run SX.ev putd puts argS upds SOp.touch SSt.keep SSt.skip gets geth puth delh idOf SV.cells? setL qadd qade sbin eq0 eq1 eqL qadc qacd qace qaas qabt qaad qabu qab4 qaaj qaa3 FrzOk qabl qabf qabj qabk qaa7 qabe qab0 qabg qaa9 qabm qaa8 frzS frzH frz frz1 frz0 SlotsM ObjsM ObjM rn ren ren1 ren0 qab9 qaay qaaz qab8 qab1 qacq qacp CoL qabn qacs dels adds idsH qacf
attribute [local simp] qad0 refc qafc qae1 qacn opc actc tabc qaeg qac1 nums wayc
instance : PureF wayc := ⟨fun _ _ => rfl, fun _ => rfl, fun _ => qach _ rfl⟩
theorem qbco (h : Int) (h0 : 0 ≤ h) (h1 : h < 64) (q : Nat) : SCalls Try.prog 59 [.int .i64 h] [] q (.int .u64 (bitB h).toNat) [] := by
 refine qabw ?_ (fun _ => rfl) (fun _ => rfl) rfl q
 refine qaba (N := 6) Try.func59 rfl rfl (by kernel_rfl) qari (by simp) (by repeat' (first | exact trivial | refine And.intro ?_ ?_ | rfl | decide | exact PureR.ren _)) (by repeat' (first | exact trivial | refine And.intro ?_ ?_ | rfl | decide | exact PureR.ren _)) ?_
 rintro X hP hN hm
 unfold c_rbit
 have e := qbbj h0 h1
 rw [Int.one_mul] at e
 have e2 : IntKind.u64.wrap h = h := qapn (by omega) (by omega)
 repeat' (first | (with_reducible first | refine zA ?_ | refine qaac ?_ | refine qaab ?_ | refine zK ?_) | ((with_reducible first | refine qaal ?_ | refine qaah (by rw [hP]; exact qaa4) ?_); (try rw [hP]); simp -implicitDefEqProofs [*]) | ((with_reducible first | refine qaaf ?_ | refine qaag ?_); (try simp -implicitDefEqProofs [*])) | ((with_reducible refine qaam ?_); (try simp only [qaas, qaad, qaaj])) | ((with_reducible refine qaae rfl (fun h => ?_) (fun h => ?_)) <;> have h' := h <;> (try simp at h') <;> (try subst h')) | ((with_reducible refine qaaa (fun h => ?_) (fun h => ?_)) <;> have h' := h <;> (try simp at h') <;> (try subst h') <;> simp -implicitDefEqProofs [*]) | ((with_reducible refine qaai ?_ ?_); (first | omega | (unfold maxLen; omega)); simp -implicitDefEqProofs [*]) | (with_reducible first | refine zM hm ?_ | refine zN hm ?_ | refine zO hm ?_ | refine zP hm ?_) | fail)
 all_goals rfl
set_option maxHeartbeats 4000000 in
theorem rways_s (p : PlanD) (hp : PlOk p) (q : Nat) : SCalls Try.prog 58 [.agg (qac1 p)] [] q (.view 3 ((qa00 p).map wayc)) [] := by
 refine qabw ?_ (fun _ => rfl) (fun _ => rfl) rfl q
 refine qaba (N := 83) Try.func58 rfl rfl (by kernel_rfl) qaml (by simp) (by repeat' (first | exact trivial | refine And.intro ?_ ?_ | rfl | decide | exact PureR.ren _)) (by repeat' (first | exact trivial | refine And.intro ?_ ?_ | rfl | decide | exact PureR.ren _)) ?_
 rintro X hP hN hm
 have hn := hp.states.2
 have hF : qa00 p = qai1 p 257 [⟨0, 0, 0⟩] 0 := rfl
 generalize qa00 p = F at hF
 have hi0 := qaip hp
 have hph0 : phi p ([⟨0, 0, 0⟩].drop 0) < 257 := by have := hi0.fin; omega
 replace hF := Lib.hid hF
 replace hi0 := Lib.hid hi0
 replace hph0 := Lib.hid hph0
 unfold c_rways
 repeat' (first | (with_reducible first | refine zA ?_ | refine qaac ?_ | refine qaab ?_ | refine zK ?_) | ((with_reducible first | refine qaal ?_ | refine qaah (by rw [hP]; exact qaa4) ?_); (try rw [hP]); simp -implicitDefEqProofs [*]) | ((with_reducible first | refine qaaf ?_ | refine qaag ?_); (try simp -implicitDefEqProofs [*])) | ((with_reducible refine qaam ?_); (try simp only [qaas, qaad, qaaj])) | ((with_reducible refine qaae rfl (fun h => ?_) (fun h => ?_)) <;> have h' := h <;> (try simp at h') <;> (try subst h')) | ((with_reducible refine qaaa (fun h => ?_) (fun h => ?_)) <;> have h' := h <;> (try simp at h') <;> (try subst h') <;> simp -implicitDefEqProofs [*]) | ((with_reducible refine qaai ?_ ?_); (first | omega | (unfold maxLen; omega)); simp -implicitDefEqProofs [*]) | (with_reducible first | refine zM hm ?_ | refine zN hm ?_ | refine zO hm ?_ | refine zP hm ?_) | fail)
 refine qaa0 (qabi (fun s (z : Nat × List WayD × Nat) => s.turn [(3, .own 3 z.2.1.length), (4, .int .i64 z.2.2)] [(3, .row 109 3 (z.2.1.map wayc))]) (fun z => InvW p z.2.1 z.2.2 ∧ phi p (z.2.1.drop z.2.2) < z.1 ∧ F = qai1 p z.1 z.2.1 z.2.2) (fun z => z.1) (257, [⟨0, 0, 0⟩], 0) ?_ ⟨hi0.out, hph0.out, hF.out⟩ ?_)
 ·repeat' (first | ((with_reducible refine qaar [] hm ?_ ?_ ?_ ?_) <;> (try simp only [zT, puth, Nat.reduceEqDiff, reduceIte, Nat.reduceAdd])) | (with_reducible first | refine za ?_ ?_ | refine zb ?_ ?_ ?_ ?_ | refine zc ?_ ?_ ?_ ?_ | refine zd ?_ ?_ ?_ ?_ | refine qaap ?_ ?_ | refine qaan ?_ ?_) | (with_reducible first | exact qaak | exact qaao | exact qaat | exact qaau | exact Co.refl _ | exact CoL.refl _ | exact CoLL.refl _) | ((with_reducible first | refine zga ?_ | refine zgb ?_); rfl) | ((with_reducible refine zgc ?_); (first | (with_reducible rfl) | rfl | (simp; done))) | ((with_reducible first | refine zgd ?_ | refine zge ?_); (first | omega | (simp; done))) | (refine qaaw ⟨?_, ?_⟩ ?_ <;> omega) | (exact Co.refl _) | (exact CoL.refl _) | (exact CoLL.refl _) | (refine qaaz ?_; omega) | (refine qaay ?_; first | omega | (simp_all; done)) | (with_reducible first | refine qaav ?_ ?_ | refine qaaq ?_ ?_) | fail)
 rintro J hJ ⟨f, out, i⟩ ⟨hI, hf, hFz⟩
 have hJo := hJ
 unfold qakp
 simp only [zT, puth, Nat.reduceEqDiff, reduceIte, Nat.reduceAdd] at hI hf hFz ⊢
 clear hF hi0 hph0
 have hol := qbbz hI
 have hil := hI.le
 obtain ⟨f, rfl⟩ : ∃ f', f = f' + 1 := ⟨f - 1, by omega⟩
 have hmapl : (out.map wayc).length = out.length := by simp
 have wi : IntKind.i64.wrap ((i : Int) + 1) = (i : Int) + 1 := qaa2 (by omega) (by omega)
 rcases Nat.lt_or_ge i out.length with hi | hi
 ·have hst := qa11 hp hI hi
  have hFs : F = qai1 p f (out ++ qai0 p out[i]) (i + 1) := by
   rw [hFz]; show (if h : i < out.length then _ else _) = _; rw [dif_pos hi]
  have hsw := hI.sound out[i] (List.getElem_mem hi)
  have hrin := rw_in hp _ _ _ hsw.2
  have hget : out[i]? = some out[i] := List.getElem?_eq_getElem hi
  clear hFz hI
  generalize hww : out[i] = w at hst hFs hsw hrin hget
  simp only at hrin
  by_cases hs : w.st = p.states.length
  ·have hnx : qai0 p w = [] := by unfold qai0; rw [dif_neg (by omega)]
   rw [hnx, List.append_nil] at hst hFs
   have ks : ((w.st : Int) == (p.states.length : Int)) = true := by rw [beq_iff_eq]; omega
   replace hs := Lib.hid hs
   replace hst := Lib.hid hst
   replace hFs := Lib.hid hFs
   replace hsw := Lib.hid hsw
   replace hp := Lib.hid hp
   repeat' (first | (with_reducible first | refine zA ?_ | refine qaac ?_ | refine qaab ?_ | refine zK ?_) | ((with_reducible first | refine qaal ?_ | refine qaah (by rw [hP]; exact qaa4) ?_); (try rw [hP]); simp -implicitDefEqProofs [*]) | ((with_reducible first | refine qaaf ?_ | refine qaag ?_); (try simp -implicitDefEqProofs [*])) | ((with_reducible refine qaam ?_); (try simp only [qaas, qaad, qaaj])) | ((with_reducible refine qaae rfl (fun h => ?_) (fun h => ?_)) <;> have h' := h <;> (try simp at h') <;> (try subst h')) | ((with_reducible refine qaaa (fun h => ?_) (fun h => ?_)) <;> have h' := h <;> (try simp at h') <;> (try subst h') <;> simp -implicitDefEqProofs [*]) | ((with_reducible refine qaai ?_ ?_); (first | omega | (unfold maxLen; omega)); simp -implicitDefEqProofs [*]) | (with_reducible first | refine zM hm ?_ | refine zN hm ?_ | refine zO hm ?_ | refine zP hm ?_) | ((with_reducible refine qaar [] hm ?_ ?_ ?_ ?_) <;> (try simp only [zT, puth, Nat.reduceEqDiff, reduceIte, Nat.reduceAdd])) | (with_reducible first | refine za ?_ ?_ | refine zb ?_ ?_ ?_ ?_ | refine zc ?_ ?_ ?_ ?_ | refine zd ?_ ?_ ?_ ?_ | refine qaap ?_ ?_ | refine qaan ?_ ?_) | (with_reducible first | exact qaak | exact qaao | exact qaat | exact qaau | exact Co.refl _ | exact CoL.refl _ | exact CoLL.refl _) | ((with_reducible first | refine zga ?_ | refine zgb ?_); rfl) | ((with_reducible refine zgc ?_); (first | (with_reducible rfl) | rfl | (simp; done))) | ((with_reducible first | refine zgd ?_ | refine zge ?_); (first | omega | (simp; done))) | (refine qaaw ⟨?_, ?_⟩ ?_ <;> omega) | (exact Co.refl _) | (exact CoL.refl _) | (exact CoLL.refl _) | (refine qaaz ?_; omega) | (refine qaay ?_; first | omega | (simp_all; done)) | (with_reducible first | refine qaav ?_ ?_ | refine qaaq ?_ ?_) | ((refine qaax hJ (f, out, i + 1) ?_ ?_ ?_; (with_reducible refine qaar [] hm ?_ ?_ ?_ ?_) <;> (try simp only [zT, puth, Nat.reduceEqDiff, reduceIte, Nat.reduceAdd]))) | fail)
   all_goals (exact ⟨hst.out.1, by have := hst.out.2; dsimp only; omega, hFs.out⟩)
  ·have hsl : w.st < p.states.length := by have := hsw.1; omega
   have ks : ((w.st : Int) == (p.states.length : Int)) = false := by rw [beq_eq_false_iff_ne]; omega
   have ok := hp.ok w.st hsl
   have hh := ok.head
   have hh6 := hp.heads
   have hleads := fun q => qbcm p hp w.st hsl q
   have hpos := fun k hk => qafk hp hsl (k := k) hk
   have hnx : qai0 p w = (qahh p p.states[w.st]).map (fun k => ⟨k.toNat, (qapq p p.states[w.st].head (w.taken, w.bytes)).1, (qapq p p.states[w.st].head (w.taken, w.bytes)).2⟩) := by unfold qai0; rw [dif_pos hsl]
   have hll : (qahh p p.states[w.st]).length ≤ 5 := by
    have := qafv p.states.length (qac2 p.states[w.st]) []
    rw [qaeo] at this
    have h4 := ok.cases_
    show (qadr _ _ _).length ≤ 5
    simp at this; omega
   clear ok
   generalize hxx : p.states[w.st] = x at hh hleads hpos hnx hll
   generalize qahh p x = l at hleads hpos hnx hll
   obtain ⟨⟨TK, BY⟩, hT⟩ : ∃ z, qapq p x.head (w.taken, w.bytes) = z := ⟨_, rfl⟩
   rw [hT] at hnx
   simp only at hnx
   rw [hnx] at hst hFs
   have tail : SWp X (SCode.seq (SCode.reg false qaev [1, 3, 4, 5, 9]) (SCode.seq (SCode.reg false qaeu [1, 3, 4, 5, 9, 10]) (SCode.block 2 (SCode.loop qaej)))) (qaix 1 (QSeq X (SCode.reg false qah2 [1, 3, 4]) (qbej X J (f + 1) (qaix 0 (QSeq X ((SCode.reg false qah1 [2]).seq SCode.ret) (QFun X [ResultVar.tmp 2] 0 (SV.view 3 (List.map wayc F)) []))))))
     ⟨[(1, .ptr 0 0), (3, .own 3 out.length), (4, .int .i64 i), (5, .ptr 14 0)], [(0, .cells 29 (qac1 p)), (3, .row 109 3 (out.map wayc)), (14, .cells 109 [.int .i64 w.st, .int .u64 TK.toNat, .int .i64 BY])], 15⟩ := by
    replace hst := Lib.hid hst
    replace hFs := Lib.hid hFs
    replace hleads := Lib.hid hleads
    replace hpos := Lib.hid hpos
    replace hp := Lib.hid hp
    clear hnx hs hT hsw hww hget ks
    repeat' (first | (with_reducible first | refine zA ?_ | refine qaac ?_ | refine qaab ?_ | refine zK ?_) | ((with_reducible first | refine qaal ?_ | refine qaah (by rw [hP]; exact qaa4) ?_); (try rw [hP]); simp -implicitDefEqProofs [*]) | ((with_reducible first | refine qaaf ?_ | refine qaag ?_); (try simp -implicitDefEqProofs [*])) | ((with_reducible refine qaam ?_); (try simp only [qaas, qaad, qaaj])) | ((with_reducible refine qaae rfl (fun h => ?_) (fun h => ?_)) <;> have h' := h <;> (try simp at h') <;> (try subst h')) | ((with_reducible refine qaaa (fun h => ?_) (fun h => ?_)) <;> have h' := h <;> (try simp at h') <;> (try subst h') <;> simp -implicitDefEqProofs [*]) | ((with_reducible refine qaai ?_ ?_); (first | omega | (unfold maxLen; omega)); simp -implicitDefEqProofs [*]) | (refine qabd (hleads.out _) ?_; simp -implicitDefEqProofs [*]) | (with_reducible first | refine zM hm ?_ | refine zN hm ?_ | refine zO hm ?_ | refine zP hm ?_) | fail)
    refine qaa0 (qabi (fun s (k : Nat) => s.turn [(3, .own 3 (out.length + k)), (10, .int .i64 k)] [(3, .row 109 3 ((out ++ (l.take k).map (fun k => (⟨k.toNat, TK, BY⟩ : WayD))).map wayc))]) (fun k => k ≤ l.length) (fun k => l.length - k) 0 ?_ (by simp) ?_)
    ·repeat' (first | ((with_reducible refine qaar [] hm ?_ ?_ ?_ ?_) <;> (try simp only [zT, puth, Nat.reduceEqDiff, reduceIte, Nat.reduceAdd])) | (with_reducible first | refine za ?_ ?_ | refine zb ?_ ?_ ?_ ?_ | refine zc ?_ ?_ ?_ ?_ | refine zd ?_ ?_ ?_ ?_ | refine qaap ?_ ?_ | refine qaan ?_ ?_) | (with_reducible first | exact qaak | exact qaao | exact qaat | exact qaau | exact Co.refl _ | exact CoL.refl _ | exact CoLL.refl _) | ((with_reducible first | refine zga ?_ | refine zgb ?_); rfl) | ((with_reducible refine zgc ?_); (first | (with_reducible rfl) | rfl | (simp; done))) | ((with_reducible first | refine zgd ?_ | refine zge ?_); (first | omega | (simp; done))) | (refine qaaw ⟨?_, ?_⟩ ?_ <;> omega) | (exact Co.refl _) | (exact CoL.refl _) | (exact CoLL.refl _) | (refine qaaz ?_; omega) | (refine qaay ?_; first | omega | (simp_all; done)) | (with_reducible first | refine qaav ?_ ?_ | refine qaaq ?_ ?_) | fail)
     all_goals simp
    rintro J hJ k hk
    unfold qaej
    simp only [zT, puth, Nat.reduceEqDiff, reduceIte, Nat.reduceAdd]
    have hlen2 : ((out ++ (l.take k).map (fun k => (⟨k.toNat, TK, BY⟩ : WayD))).map wayc).length = out.length + k := by simp; omega
    have hb2 : out.length + k + 1 ≤ maxLen := by unfold maxLen; omega
    rcases Nat.lt_or_ge k l.length with h2 | h2
    ·have wk2 : IntKind.i64.wrap ((k : Int) + 1) = (k : Int) + 1 := qaa2 (by omega) (by omega)
     have hrow2 : (out ++ (l.take k).map (fun k => (⟨k.toNat, TK, BY⟩ : WayD))).map wayc ++ [[.int .i64 l[k], .int .u64 TK.toNat, .int .i64 BY]] = (out ++ (l.take (k + 1)).map (fun k => (⟨k.toNat, TK, BY⟩ : WayD))).map wayc := by
      have := hpos.out l[k] (List.getElem_mem h2)
      rw [List.take_succ_eq_append_getElem h2]
      simp only [List.map_append, List.append_assoc]
      congr 2
      show _ = [[SV.int .i64 ((l[k].toNat : Nat) : Int), _, _]]
      rw [show ((l[k].toNat : Nat) : Int) = l[k] by omega]
     generalize hy : l[k] = y at hrow2
     replace hrow2 := Lib.hid hrow2
     generalize hRR : (out ++ (l.take k).map (fun k => (⟨k.toNat, TK, BY⟩ : WayD))).map wayc = RR at hlen2 hrow2
     repeat' (first | (with_reducible first | refine zA ?_ | refine qaac ?_ | refine qaab ?_ | refine zK ?_) | ((with_reducible first | refine qaal ?_ | refine qaah (by rw [hP]; exact qaa4) ?_); (try rw [hP]); simp -implicitDefEqProofs [*]) | ((with_reducible first | refine qaaf ?_ | refine qaag ?_); (try simp -implicitDefEqProofs [*])) | ((with_reducible refine qaam ?_); (try simp only [qaas, qaad, qaaj])) | ((with_reducible refine qaae rfl (fun h => ?_) (fun h => ?_)) <;> have h' := h <;> (try simp at h') <;> (try subst h')) | ((with_reducible refine qaaa (fun h => ?_) (fun h => ?_)) <;> have h' := h <;> (try simp at h') <;> (try subst h') <;> simp -implicitDefEqProofs [*]) | ((with_reducible refine qaai ?_ ?_); (first | omega | (unfold maxLen; omega)); simp -implicitDefEqProofs [*]) | (with_reducible first | refine zM hm ?_ | refine zN hm ?_ | refine zO hm ?_ | refine zP hm ?_) | ((with_reducible refine qaar [] hm ?_ ?_ ?_ ?_) <;> (try simp only [zT, puth, Nat.reduceEqDiff, reduceIte, Nat.reduceAdd])) | (with_reducible first | refine za ?_ ?_ | refine zb ?_ ?_ ?_ ?_ | refine zc ?_ ?_ ?_ ?_ | refine zd ?_ ?_ ?_ ?_ | refine qaap ?_ ?_ | refine qaan ?_ ?_) | (with_reducible first | exact qaak | exact qaao | exact qaat | exact qaau | exact Co.refl _ | exact CoL.refl _ | exact CoLL.refl _) | ((with_reducible first | refine zga ?_ | refine zgb ?_); rfl) | ((with_reducible refine zgc ?_); (first | (with_reducible rfl) | rfl | (simp; done))) | ((with_reducible first | refine zgd ?_ | refine zge ?_); (first | omega | (simp; done))) | (refine qaaw ⟨?_, ?_⟩ ?_ <;> omega) | (exact Co.refl _) | (exact CoL.refl _) | (exact CoLL.refl _) | (refine qaaz ?_; omega) | (refine qaay ?_; first | omega | (simp_all; done)) | (with_reducible first | refine qaav ?_ ?_ | refine qaaq ?_ ?_) | ((refine qaax hJ (k + 1) ?_ ?_ ?_; (with_reducible refine qaar [(3, ?_)] hm ?_ ?_ ?_ ?_) <;> (try simp only [zT, puth, Nat.reduceEqDiff, reduceIte, Nat.reduceAdd]))) | fail)
     all_goals (exact hrow2.out)
    ·obtain rfl : k = l.length := by omega
     rw [List.take_length]
     repeat' (first | (with_reducible first | refine zA ?_ | refine qaac ?_ | refine qaab ?_ | refine zK ?_) | ((with_reducible first | refine qaal ?_ | refine qaah (by rw [hP]; exact qaa4) ?_); (try rw [hP]); simp -implicitDefEqProofs [*]) | ((with_reducible first | refine qaaf ?_ | refine qaag ?_); (try simp -implicitDefEqProofs [*])) | ((with_reducible refine qaam ?_); (try simp only [qaas, qaad, qaaj])) | ((with_reducible refine qaae rfl (fun h => ?_) (fun h => ?_)) <;> have h' := h <;> (try simp at h') <;> (try subst h')) | ((with_reducible refine qaaa (fun h => ?_) (fun h => ?_)) <;> have h' := h <;> (try simp at h') <;> (try subst h') <;> simp -implicitDefEqProofs [*]) | ((with_reducible refine qaai ?_ ?_); (first | omega | (unfold maxLen; omega)); simp -implicitDefEqProofs [*]) | (with_reducible first | refine zM hm ?_ | refine zN hm ?_ | refine zO hm ?_ | refine zP hm ?_) | ((with_reducible refine qaar [] hm ?_ ?_ ?_ ?_) <;> (try simp only [zT, puth, Nat.reduceEqDiff, reduceIte, Nat.reduceAdd])) | (with_reducible first | refine za ?_ ?_ | refine zb ?_ ?_ ?_ ?_ | refine zc ?_ ?_ ?_ ?_ | refine zd ?_ ?_ ?_ ?_ | refine qaap ?_ ?_ | refine qaan ?_ ?_) | (with_reducible first | exact qaak | exact qaao | exact qaat | exact qaau | exact Co.refl _ | exact CoL.refl _ | exact CoLL.refl _) | ((with_reducible first | refine zga ?_ | refine zgb ?_); rfl) | ((with_reducible refine zgc ?_); (first | (with_reducible rfl) | rfl | (simp; done))) | ((with_reducible first | refine zgd ?_ | refine zge ?_); (first | omega | (simp; done))) | (refine qaaw ⟨?_, ?_⟩ ?_ <;> omega) | (exact Co.refl _) | (exact CoL.refl _) | (exact CoLL.refl _) | (refine qaaz ?_; omega) | (refine qaay ?_; first | omega | (simp_all; done)) | (with_reducible first | refine qaav ?_ ?_ | refine qaaq ?_ ?_) | ((refine qaax hJo (f, out ++ l.map (fun k => (⟨k.toNat, TK, BY⟩ : WayD)), i + 1) ?_ ?_ ?_; (with_reducible refine qaar [] hm ?_ ?_ ?_ ?_) <;> (try simp only [zT, puth, Nat.reduceEqDiff, reduceIte, Nat.reduceAdd]))) | fail)
     all_goals first | (rw [show (out ++ l.map (fun k => (⟨k.toNat, TK, BY⟩ : WayD))).length = out.length + l.length by simp]; exact Co.refl _) | (exact ⟨hst.out.1, by have := hst.out.2; dsimp only; omega, hFs.out⟩)
   replace tail := Lib.hid tail
   replace hst := Lib.hid hst
   replace hFs := Lib.hid hFs
   replace hsw := Lib.hid hsw
   replace hleads := Lib.hid hleads
   replace hpos := Lib.hid hpos
   clear hnx hs
   cases kh : decide (0 ≤ x.head)
   ·have hT2 : (w.taken, w.bytes) = (TK, BY) := by rw [← hT]; unfold qapq; rw [if_neg (of_decide_eq_false kh)]
    have hTK : w.taken = TK := (Prod.mk.inj hT2).1
    have hBY : w.bytes = BY := (Prod.mk.inj hT2).2
    replace hp := Lib.hid hp
    replace hT := Lib.hid hT
    clear hT2
    repeat' (first | ((with_reducible refine qada (c := .seq (.reg false qaev [1, 3, 4, 5, 9]) (.seq (.reg false qaeu [1, 3, 4, 5, 9, 10]) (.block 2 (.loop qaej)))) ?_)) | (with_reducible first | refine zA ?_ | refine qaac ?_ | refine qaab ?_ | refine zK ?_) | ((with_reducible first | refine qaal ?_ | refine qaah (by rw [hP]; exact qaa4) ?_); (try rw [hP]); simp -implicitDefEqProofs [*]) | ((with_reducible first | refine qaaf ?_ | refine qaag ?_); (try simp -implicitDefEqProofs [*])) | ((with_reducible refine qaam ?_); (try simp only [qaas, qaad, qaaj])) | ((with_reducible refine qaae rfl (fun h => ?_) (fun h => ?_)) <;> have h' := h <;> (try simp at h') <;> (try subst h')) | ((with_reducible refine qaaa (fun h => ?_) (fun h => ?_)) <;> have h' := h <;> (try simp at h') <;> (try subst h') <;> simp -implicitDefEqProofs [*]) | ((with_reducible refine qaai ?_ ?_); (first | omega | (unfold maxLen; omega)); simp -implicitDefEqProofs [*]) | (with_reducible first | refine zM hm ?_ | refine zN hm ?_ | refine zO hm ?_ | refine zP hm ?_) | fail)
    constructor
    refine qadh ?_ tail.out
    repeat' (first | ((with_reducible refine qaar [] hm ?_ ?_ ?_ ?_) <;> (try simp only [zT, puth, Nat.reduceEqDiff, reduceIte, Nat.reduceAdd])) | (with_reducible first | refine za ?_ ?_ | refine zb ?_ ?_ ?_ ?_ | refine zc ?_ ?_ ?_ ?_ | refine zd ?_ ?_ ?_ ?_ | refine qaap ?_ ?_ | refine qaan ?_ ?_) | (with_reducible first | exact qaak | exact qaao | exact qaat | exact qaau | exact Co.refl _ | exact CoL.refl _ | exact CoLL.refl _) | ((with_reducible first | refine zga ?_ | refine zgb ?_); rfl) | ((with_reducible refine zgc ?_); (first | (with_reducible rfl) | rfl | (simp; done))) | ((with_reducible first | refine zgd ?_ | refine zge ?_); (first | omega | (simp; done))) | (refine qaaw ⟨?_, ?_⟩ ?_ <;> omega) | (exact Co.refl _) | (exact CoL.refl _) | (exact CoLL.refl _) | (refine qaaz ?_; omega) | (refine qaay ?_; first | omega | (simp_all; done)) | (with_reducible first | refine qaav ?_ ?_ | refine qaaq ?_ ?_) | fail)
   ·have hh0 := of_decide_eq_true kh
    have hS2 := qal6 hp hh0 hh.2
    have hT2 : (w.taken ||| bitB x.head, w.bytes + qahc p x.head) = (TK, BY) := by rw [← hT]; unfold qapq; rw [if_pos hh0]
    have hTK : w.taken ||| bitB x.head = TK := (Prod.mk.inj hT2).1
    have hBY : IntKind.i64.wrap (w.bytes + qahc p x.head) = BY := by rw [← (Prod.mk.inj hT2).2]; exact qaa2 (by omega) (by omega)
    have hlt : x.head.toNat < p.heads.length := by omega
    have hsz : headW p x.head = p.heads[x.head.toNat].w := by unfold headW; rw [List.getElem?_eq_getElem hlt]; rfl
    have hcs := fun q => qbbl p.heads[x.head.toNat].w q
    rw [← hsz] at hcs
    unfold qaiz at hcs
    rw [show qapu (headW p x.head) = qahc p x.head from rfl] at hcs
    generalize qahc p x.head = N at hBY hcs hT2
    have hbh := fun q => qbco x.head hh0 (by omega) q
    generalize hq1 : p.heads[x.head.toNat] = hd at hsz
    have hsz2 : hd.w = headW p x.head := hsz.symm
    generalize headW p x.head = ws at hcs hsz2
    clear hT2 hS2 hsz
    replace hT := Lib.hid hT
    replace hp := Lib.hid hp
    replace hcs := Lib.hid hcs
    replace hbh := Lib.hid hbh
    repeat' (first | ((with_reducible refine qada (c := .seq (.reg false qaev [1, 3, 4, 5, 9]) (.seq (.reg false qaeu [1, 3, 4, 5, 9, 10]) (.block 2 (.loop qaej)))) ?_)) | (with_reducible first | refine zA ?_ | refine qaac ?_ | refine qaab ?_ | refine zK ?_) | ((with_reducible first | refine qaal ?_ | refine qaah (by rw [hP]; exact qaa4) ?_); (try rw [hP]); simp -implicitDefEqProofs [-BitVec.toNat_and, -BitVec.toNat_or, qab2, *]) | ((with_reducible first | refine qaaf ?_ | refine qaag ?_); (try simp -implicitDefEqProofs [-BitVec.toNat_and, -BitVec.toNat_or, qab2, *])) | ((with_reducible refine qaam ?_); (try simp only [qaas, qaad, qaaj])) | ((with_reducible refine qaae rfl (fun h => ?_) (fun h => ?_)) <;> have h' := h <;> (try simp at h') <;> (try subst h')) | ((with_reducible refine qaaa (fun h => ?_) (fun h => ?_)) <;> have h' := h <;> (try simp at h') <;> (try subst h') <;> simp -implicitDefEqProofs [-BitVec.toNat_and, -BitVec.toNat_or, qab2, *]) | ((with_reducible refine qaai ?_ ?_); (first | omega | (unfold maxLen; omega)); simp -implicitDefEqProofs [-BitVec.toNat_and, -BitVec.toNat_or, qab2, *]) | ((first | refine qabd (hcs.out _) ?_ | refine qabd (hbh.out _) ?_); simp -implicitDefEqProofs [-BitVec.toNat_and, -BitVec.toNat_or, qab2, *]) | (with_reducible first | refine zM hm ?_ | refine zN hm ?_ | refine zO hm ?_ | refine zP hm ?_) | fail)
    constructor
    refine qadh ?_ tail.out
    repeat' (first | ((with_reducible refine qaar [] hm ?_ ?_ ?_ ?_) <;> (try simp only [zT, puth, Nat.reduceEqDiff, reduceIte, Nat.reduceAdd])) | (with_reducible first | refine za ?_ ?_ | refine zb ?_ ?_ ?_ ?_ | refine zc ?_ ?_ ?_ ?_ | refine zd ?_ ?_ ?_ ?_ | refine qaap ?_ ?_ | refine qaan ?_ ?_) | (with_reducible first | exact qaak | exact qaao | exact qaat | exact qaau | exact Co.refl _ | exact CoL.refl _ | exact CoLL.refl _) | ((with_reducible first | refine zga ?_ | refine zgb ?_); rfl) | ((with_reducible refine zgc ?_); (first | (with_reducible rfl) | rfl | (simp; done))) | ((with_reducible first | refine zgd ?_ | refine zge ?_); (first | omega | (simp; done))) | (refine qaaw ⟨?_, ?_⟩ ?_ <;> omega) | (exact Co.refl _) | (exact CoL.refl _) | (exact CoLL.refl _) | (refine qaaz ?_; omega) | (refine qaay ?_; first | omega | (simp_all; done)) | (with_reducible first | refine qaav ?_ ?_ | refine qaaq ?_ ?_) | fail)
 ·have hie : i = out.length := by omega
  have hFe : F = out := by
   rw [hFz]; show (if h : i < out.length then _ else _) = _; rw [dif_neg (by omega)]
  subst hFe hie
  clear hFz
  replace hI := Lib.hid hI
  replace hp := Lib.hid hp
  repeat' (first | (with_reducible first | refine zA ?_ | refine qaac ?_ | refine qaab ?_ | refine zK ?_) | ((with_reducible first | refine qaal ?_ | refine qaah (by rw [hP]; exact qaa4) ?_); (try rw [hP]); simp -implicitDefEqProofs [*]) | ((with_reducible first | refine qaaf ?_ | refine qaag ?_); (try simp -implicitDefEqProofs [*])) | ((with_reducible refine qaam ?_); (try simp only [qaas, qaad, qaaj])) | ((with_reducible refine qaae rfl (fun h => ?_) (fun h => ?_)) <;> have h' := h <;> (try simp at h') <;> (try subst h')) | ((with_reducible refine qaaa (fun h => ?_) (fun h => ?_)) <;> have h' := h <;> (try simp at h') <;> (try subst h') <;> simp -implicitDefEqProofs [*]) | ((with_reducible refine qaai ?_ ?_); (first | omega | (unfold maxLen; omega)); simp -implicitDefEqProofs [*]) | (with_reducible first | refine zM hm ?_ | refine zN hm ?_ | refine zO hm ?_ | refine zP hm ?_) | (refine qaqh hm rfl rfl ?_ rfl) | fail)
  all_goals simp
end Go.Proofs.Ytnfjldobjgdiaaa
namespace Go.Proofs.Ytnfjldobjgdiaaa
set_option linter.all false
open Go.RowKit
attribute [local simp] qabs qabr qaa5 qabc qaa6 qabb qabp qabq qaa1 qab3 SOp.run SX.ev putd puts argS upds SOp.touch SSt.keep SSt.skip gets geth puth delh idOf SV.cells? setL qadd qade sbin eq0 eq1 eqL qadc qacd qace qaas qabt qaad qabu qab4 qaaj qaa3 FrzOk qabl qabf qabj qabk qaa7 qabe qab0 qabg qaa9 qabm qaa8 frzS frzH frz frz1 frz0 SlotsM ObjsM ObjM rn ren ren1 ren0 qab9 qaay qaaz qab8 qab1 qacq qacp CoL qabn qacs dels adds idsH qacf
attribute [local simp] qad0 refc qafc qae1 qacn opc actc tabc qaeg qac1 nums
set_option maxHeartbeats 4000000 in
theorem ract_s (p : PlanD) (a : ActD) (h1 : a.w.length ≤ 1000000) (h2 : a.ops.length ≤ 1000000) (h3 : ∀ o ∈ a.ops, o.e.length ≤ 1000000) (q : Nat) : SCalls Try.prog 42 [.agg (qac1 p), .agg (actc a)] [] q (.int .i64 (actF p a)) [] := by
 refine qabw ?_ (fun _ => rfl) (fun _ => rfl) rfl q
 refine qaba (N := 58) Try.func42 rfl rfl (by kernel_rfl) qarj (by simp) (by repeat' (first | exact trivial | refine And.intro ?_ ?_ | rfl | decide | exact PureR.ren _)) (by repeat' (first | exact trivial | refine And.intro ?_ ?_ | rfl | decide | exact PureR.ren _)) ?_
 rintro X hP hN hm
 unfold c_ract
 by_cases g1 : 3 < a.w.length ∨ 5 < a.ops.length
 ·have hz : actF p a = 2 := by unfold actF; rw [if_pos g1]
  rw [hz]
  replace g1 := Lib.hid g1
  repeat' (first | (with_reducible first | refine zA ?_ | refine qaac ?_ | refine qaab ?_ | refine zK ?_) | ((with_reducible first | refine qaal ?_ | refine qaah (by rw [hP]; exact qaa4) ?_); (try rw [hP]); simp -implicitDefEqProofs [*]) | ((with_reducible first | refine qaaf ?_ | refine qaag ?_); (try simp -implicitDefEqProofs [*])) | ((with_reducible refine qaam ?_); (try simp only [qaas, qaad, qaaj])) | ((with_reducible refine qaae rfl (fun h => ?_) (fun h => ?_)) <;> have h' := h <;> (try simp at h') <;> (try subst h')) | ((with_reducible refine qaaa (fun h => ?_) (fun h => ?_)) <;> have h' := h <;> (try simp at h') <;> (try subst h') <;> simp -implicitDefEqProofs [*]) | ((with_reducible refine qaai ?_ ?_); (first | omega | (unfold maxLen; omega)); simp -implicitDefEqProofs [*]) | (with_reducible first | refine zM hm ?_ | refine zN hm ?_ | refine zO hm ?_ | refine zP hm ?_) | fail)
  all_goals (first | rfl | (exfalso; have q := g1.out; omega))
 have hF : actF p a = if (a.w.drop 0).any wOut = true then 6 else qaco (fun o => qahd p o a.w) (a.ops.drop 0) := by unfold actF; rw [if_neg g1]; rfl
 generalize actF p a = F at hF
 have l3 : decide (3 < (a.w.length : Int)) = false := by rw [decide_eq_false_iff_not]; omega
 have l5 : decide (5 < (a.ops.length : Int)) = false := by rw [decide_eq_false_iff_not]; omega
 clear g1
 replace hF := Lib.hid hF
 replace h3 := Lib.hid h3
 repeat' (first | (with_reducible first | refine zA ?_ | refine qaac ?_ | refine qaab ?_ | refine zK ?_) | ((with_reducible first | refine qaal ?_ | refine qaah (by rw [hP]; exact qaa4) ?_); (try rw [hP]); simp -implicitDefEqProofs [*]) | ((with_reducible first | refine qaaf ?_ | refine qaag ?_); (try simp -implicitDefEqProofs [*])) | ((with_reducible refine qaam ?_); (try simp only [qaas, qaad, qaaj])) | ((with_reducible refine qaae rfl (fun h => ?_) (fun h => ?_)) <;> have h' := h <;> (try simp at h') <;> (try subst h')) | ((with_reducible refine qaaa (fun h => ?_) (fun h => ?_)) <;> have h' := h <;> (try simp at h') <;> (try subst h') <;> simp -implicitDefEqProofs [*]) | ((with_reducible refine qaai ?_ ?_); (first | omega | (unfold maxLen; omega)); simp -implicitDefEqProofs [*]) | (with_reducible first | refine zM hm ?_ | refine zN hm ?_ | refine zO hm ?_ | refine zP hm ?_) | fail)
 refine qaa0 (qabi (fun s (i : Nat) => s.turn [(5, .int .i64 i)] []) (fun i => i ≤ a.w.length ∧ F = if (a.w.drop i).any wOut = true then 6 else qaco (fun o => qahd p o a.w) (a.ops.drop 0)) (fun i => a.w.length - i) 0 ?_ ⟨by simp, hF.out⟩ ?_)
 ·repeat' (first | ((with_reducible refine qaar [] hm ?_ ?_ ?_ ?_) <;> (try simp only [zT, puth, Nat.reduceEqDiff, reduceIte, Nat.reduceAdd])) | (with_reducible first | refine za ?_ ?_ | refine zb ?_ ?_ ?_ ?_ | refine zc ?_ ?_ ?_ ?_ | refine zd ?_ ?_ ?_ ?_ | refine qaap ?_ ?_ | refine qaan ?_ ?_) | (with_reducible first | exact qaak | exact qaao | exact qaat | exact qaau | exact Co.refl _ | exact CoL.refl _ | exact CoLL.refl _) | ((with_reducible first | refine zga ?_ | refine zgb ?_); rfl) | ((with_reducible refine zgc ?_); (first | (with_reducible rfl) | rfl | (simp; done))) | ((with_reducible first | refine zgd ?_ | refine zge ?_); (first | omega | (simp; done))) | (refine qaaw ⟨?_, ?_⟩ ?_ <;> omega) | (exact Co.refl _) | (exact CoL.refl _) | (exact CoLL.refl _) | (refine qaaz ?_; omega) | (refine qaay ?_; first | omega | (simp_all; done)) | (with_reducible first | refine qaav ?_ ?_ | refine qaaq ?_ ?_) | fail)
 rintro J hJ i ⟨h5, h6⟩
 unfold qaqq
 simp only [zT, puth, Nat.reduceEqDiff, reduceIte, Nat.reduceAdd] at h5 h6 ⊢
 rcases Nat.lt_or_ge i a.w.length with hi | hi
 ·rw [qadq _ hi] at h6
  generalize hxx : a.w[i] = x at h6
  have wi : IntKind.i64.wrap ((i : Int) + 1) = (i : Int) + 1 := qaa2 (by omega) (by omega)
  replace h6 := Lib.hid h6
  cases hv : wOut x
  ·have hv1 : decide (x < 1) = false ∧ decide (48 < x) = false := by simpa [wOut] using hv
   obtain ⟨v1, v2⟩ := hv1
   repeat' (first | (with_reducible first | refine zA ?_ | refine qaac ?_ | refine qaab ?_ | refine zK ?_) | ((with_reducible first | refine qaal ?_ | refine qaah (by rw [hP]; exact qaa4) ?_); (try rw [hP]); simp -implicitDefEqProofs [*]) | ((with_reducible first | refine qaaf ?_ | refine qaag ?_); (try simp -implicitDefEqProofs [*])) | ((with_reducible refine qaam ?_); (try simp only [qaas, qaad, qaaj])) | ((with_reducible refine qaae rfl (fun h => ?_) (fun h => ?_)) <;> have h' := h <;> (try simp at h') <;> (try subst h')) | ((with_reducible refine qaaa (fun h => ?_) (fun h => ?_)) <;> have h' := h <;> (try simp at h') <;> (try subst h') <;> simp -implicitDefEqProofs [*]) | ((with_reducible refine qaai ?_ ?_); (first | omega | (unfold maxLen; omega)); simp -implicitDefEqProofs [*]) | (with_reducible first | refine zM hm ?_ | refine zN hm ?_ | refine zO hm ?_ | refine zP hm ?_) | ((with_reducible refine qaar [] hm ?_ ?_ ?_ ?_) <;> (try simp only [zT, puth, Nat.reduceEqDiff, reduceIte, Nat.reduceAdd])) | (with_reducible first | refine za ?_ ?_ | refine zb ?_ ?_ ?_ ?_ | refine zc ?_ ?_ ?_ ?_ | refine zd ?_ ?_ ?_ ?_ | refine qaap ?_ ?_ | refine qaan ?_ ?_) | (with_reducible first | exact qaak | exact qaao | exact qaat | exact qaau | exact Co.refl _ | exact CoL.refl _ | exact CoLL.refl _) | ((with_reducible first | refine zga ?_ | refine zgb ?_); rfl) | ((with_reducible refine zgc ?_); (first | (with_reducible rfl) | rfl | (simp; done))) | ((with_reducible first | refine zgd ?_ | refine zge ?_); (first | omega | (simp; done))) | (refine qaaw ⟨?_, ?_⟩ ?_ <;> omega) | (exact Co.refl _) | (exact CoL.refl _) | (exact CoLL.refl _) | (refine qaaz ?_; omega) | (refine qaay ?_; first | omega | (simp_all; done)) | (with_reducible first | refine qaav ?_ ?_ | refine qaaq ?_ ?_) | ((refine qaax hJ (i + 1) ?_ ?_ ?_; (with_reducible refine qaar [] hm ?_ ?_ ?_ ?_) <;> (try simp only [zT, puth, Nat.reduceEqDiff, reduceIte, Nat.reduceAdd]))) | fail)
   exact ⟨by omega, by rw [h6.out, hv, Bool.false_or]⟩
  ·replace hv := Lib.hid hv
   repeat' (first | (with_reducible first | refine zA ?_ | refine qaac ?_ | refine qaab ?_ | refine zK ?_) | ((with_reducible first | refine qaal ?_ | refine qaah (by rw [hP]; exact qaa4) ?_); (try rw [hP]); simp -implicitDefEqProofs [*]) | ((with_reducible first | refine qaaf ?_ | refine qaag ?_); (try simp -implicitDefEqProofs [*])) | ((with_reducible refine qaam ?_); (try simp only [qaas, qaad, qaaj])) | ((with_reducible refine qaae rfl (fun h => ?_) (fun h => ?_)) <;> have h' := h <;> (try simp at h') <;> (try subst h')) | ((with_reducible refine qaaa (fun h => ?_) (fun h => ?_)) <;> have h' := h <;> (try simp at h') <;> (try subst h') <;> simp -implicitDefEqProofs [*]) | ((with_reducible refine qaai ?_ ?_); (first | omega | (unfold maxLen; omega)); simp -implicitDefEqProofs [*]) | (with_reducible first | refine zM hm ?_ | refine zN hm ?_ | refine zO hm ?_ | refine zP hm ?_) | ((with_reducible refine qaar [] hm ?_ ?_ ?_ ?_) <;> (try simp only [zT, puth, Nat.reduceEqDiff, reduceIte, Nat.reduceAdd])) | (with_reducible first | refine za ?_ ?_ | refine zb ?_ ?_ ?_ ?_ | refine zc ?_ ?_ ?_ ?_ | refine zd ?_ ?_ ?_ ?_ | refine qaap ?_ ?_ | refine qaan ?_ ?_) | (with_reducible first | exact qaak | exact qaao | exact qaat | exact qaau | exact Co.refl _ | exact CoL.refl _ | exact CoLL.refl _) | ((with_reducible first | refine zga ?_ | refine zgb ?_); rfl) | ((with_reducible refine zgc ?_); (first | (with_reducible rfl) | rfl | (simp; done))) | ((with_reducible first | refine zgd ?_ | refine zge ?_); (first | omega | (simp; done))) | (refine qaaw ⟨?_, ?_⟩ ?_ <;> omega) | (exact Co.refl _) | (exact CoL.refl _) | (exact CoLL.refl _) | (refine qaaz ?_; omega) | (refine qaay ?_; first | omega | (simp_all; done)) | (with_reducible first | refine qaav ?_ ?_ | refine qaaq ?_ ?_) | ((refine qaax hJ (i + 1) ?_ ?_ ?_; (with_reducible refine qaar [] hm ?_ ?_ ?_ ?_) <;> (try simp only [zT, puth, Nat.reduceEqDiff, reduceIte, Nat.reduceAdd]))) | fail)
   all_goals (first | (exfalso; have q := hv.out; simp only [wOut, Bool.or_eq_true, decide_eq_true_eq] at q; omega) | (rw [h6.out, hv.out]; rfl))
 ·obtain rfl : i = a.w.length := by omega
  have h7 : F = qaco (fun o => qahd p o a.w) (a.ops.drop 0) := by rw [h6, List.drop_length]; rfl
  replace h7 := Lib.hid h7
  replace h6 := Lib.hid h6
  repeat' (first | (with_reducible first | refine zA ?_ | refine qaac ?_ | refine qaab ?_ | refine zK ?_) | ((with_reducible first | refine qaal ?_ | refine qaah (by rw [hP]; exact qaa4) ?_); (try rw [hP]); simp -implicitDefEqProofs [*]) | ((with_reducible first | refine qaaf ?_ | refine qaag ?_); (try simp -implicitDefEqProofs [*])) | ((with_reducible refine qaam ?_); (try simp only [qaas, qaad, qaaj])) | ((with_reducible refine qaae rfl (fun h => ?_) (fun h => ?_)) <;> have h' := h <;> (try simp at h') <;> (try subst h')) | ((with_reducible refine qaaa (fun h => ?_) (fun h => ?_)) <;> have h' := h <;> (try simp at h') <;> (try subst h') <;> simp -implicitDefEqProofs [*]) | ((with_reducible refine qaai ?_ ?_); (first | omega | (unfold maxLen; omega)); simp -implicitDefEqProofs [*]) | (with_reducible first | refine zM hm ?_ | refine zN hm ?_ | refine zO hm ?_ | refine zP hm ?_) | fail)
  refine qaa0 (qabi (fun s (i : Nat) => s.turn [(6, .int .i64 i)] []) (fun i => i ≤ a.ops.length ∧ F = qaco (fun o => qahd p o a.w) (a.ops.drop i)) (fun i => a.ops.length - i) 0 ?_ ⟨by simp, h7.out⟩ ?_)
  ·repeat' (first | ((with_reducible refine qaar [] hm ?_ ?_ ?_ ?_) <;> (try simp only [zT, puth, Nat.reduceEqDiff, reduceIte, Nat.reduceAdd])) | (with_reducible first | refine za ?_ ?_ | refine zb ?_ ?_ ?_ ?_ | refine zc ?_ ?_ ?_ ?_ | refine zd ?_ ?_ ?_ ?_ | refine qaap ?_ ?_ | refine qaan ?_ ?_) | (with_reducible first | exact qaak | exact qaao | exact qaat | exact qaau | exact Co.refl _ | exact CoL.refl _ | exact CoLL.refl _) | ((with_reducible first | refine zga ?_ | refine zgb ?_); rfl) | ((with_reducible refine zgc ?_); (first | (with_reducible rfl) | rfl | (simp; done))) | ((with_reducible first | refine zgd ?_ | refine zge ?_); (first | omega | (simp; done))) | (refine qaaw ⟨?_, ?_⟩ ?_ <;> omega) | (exact Co.refl _) | (exact CoL.refl _) | (exact CoLL.refl _) | (refine qaaz ?_; omega) | (refine qaay ?_; first | omega | (simp_all; done)) | (with_reducible first | refine qaav ?_ ?_ | refine qaaq ?_ ?_) | fail)
  rintro J hJ i ⟨h8, h10⟩
  unfold qaqp
  simp only [zT, puth, Nat.reduceEqDiff, reduceIte, Nat.reduceAdd] at h8 h10 ⊢
  rcases Nat.lt_or_ge i a.ops.length with hi | hi
  ·rw [qaes _ hi] at h10
   have hdl := fun q => rdeed_s p a.ops[i] a.w (h3.out _ (List.getElem_mem hi)) q
   generalize hxx : a.ops[i] = x at h10 hdl
   generalize qahd p x a.w = D at h10 hdl
   have wi : IntKind.i64.wrap ((i : Int) + 1) = (i : Int) + 1 := qaa2 (by omega) (by omega)
   replace h10 := Lib.hid h10
   replace hdl := Lib.hid hdl
   cases kD : (D != 0)
   all_goals
    have kD' := kD
    simp at kD'
    replace kD' := Lib.hid kD'
    repeat' (first | (with_reducible first | refine zA ?_ | refine qaac ?_ | refine qaab ?_ | refine zK ?_) | ((with_reducible first | refine qaal ?_ | refine qaah (by rw [hP]; exact qaa4) ?_); (try rw [hP]); simp -implicitDefEqProofs [*]) | ((with_reducible first | refine qaaf ?_ | refine qaag ?_); (try simp -implicitDefEqProofs [*])) | ((with_reducible refine qaam ?_); (try simp only [qaas, qaad, qaaj])) | ((with_reducible refine qaae rfl (fun h => ?_) (fun h => ?_)) <;> have h' := h <;> (try simp at h') <;> (try subst h')) | ((with_reducible refine qaaa (fun h => ?_) (fun h => ?_)) <;> have h' := h <;> (try simp at h') <;> (try subst h') <;> simp -implicitDefEqProofs [*]) | ((with_reducible refine qaai ?_ ?_); (first | omega | (unfold maxLen; omega)); simp -implicitDefEqProofs [*]) | (refine qabd (hdl.out _) ?_; simp -implicitDefEqProofs [*]) | (with_reducible first | refine zM hm ?_ | refine zN hm ?_ | refine zO hm ?_ | refine zP hm ?_) | ((with_reducible refine qaar [] hm ?_ ?_ ?_ ?_) <;> (try simp only [zT, puth, Nat.reduceEqDiff, reduceIte, Nat.reduceAdd])) | (with_reducible first | refine za ?_ ?_ | refine zb ?_ ?_ ?_ ?_ | refine zc ?_ ?_ ?_ ?_ | refine zd ?_ ?_ ?_ ?_ | refine qaap ?_ ?_ | refine qaan ?_ ?_) | (with_reducible first | exact qaak | exact qaao | exact qaat | exact qaau | exact Co.refl _ | exact CoL.refl _ | exact CoLL.refl _) | ((with_reducible first | refine zga ?_ | refine zgb ?_); rfl) | ((with_reducible refine zgc ?_); (first | (with_reducible rfl) | rfl | (simp; done))) | ((with_reducible first | refine zgd ?_ | refine zge ?_); (first | omega | (simp; done))) | (refine qaaw ⟨?_, ?_⟩ ?_ <;> omega) | (exact Co.refl _) | (exact CoL.refl _) | (exact CoLL.refl _) | (refine qaaz ?_; omega) | (refine qaay ?_; first | omega | (simp_all; done)) | (with_reducible first | refine qaav ?_ ?_ | refine qaaq ?_ ?_) | ((refine qaax hJ (i + 1) ?_ ?_ ?_; (with_reducible refine qaar [] hm ?_ ?_ ?_ ?_) <;> (try simp only [zT, puth, Nat.reduceEqDiff, reduceIte, Nat.reduceAdd]))) | fail)
    first | (refine ⟨by omega, ?_⟩; rw [h10.out, if_pos kD'.out]) | (rw [h10.out, if_neg kD'.out]) | skip
  ·obtain rfl : i = a.ops.length := by omega
   rw [List.drop_length] at h10
   replace h10 := Lib.hid h10
   repeat' (first | (with_reducible first | refine zA ?_ | refine qaac ?_ | refine qaab ?_ | refine zK ?_) | ((with_reducible first | refine qaal ?_ | refine qaah (by rw [hP]; exact qaa4) ?_); (try rw [hP]); simp -implicitDefEqProofs [*]) | ((with_reducible first | refine qaaf ?_ | refine qaag ?_); (try simp -implicitDefEqProofs [*])) | ((with_reducible refine qaam ?_); (try simp only [qaas, qaad, qaaj])) | ((with_reducible refine qaae rfl (fun h => ?_) (fun h => ?_)) <;> have h' := h <;> (try simp at h') <;> (try subst h')) | ((with_reducible refine qaaa (fun h => ?_) (fun h => ?_)) <;> have h' := h <;> (try simp at h') <;> (try subst h') <;> simp -implicitDefEqProofs [*]) | ((with_reducible refine qaai ?_ ?_); (first | omega | (unfold maxLen; omega)); simp -implicitDefEqProofs [*]) | (with_reducible first | refine zM hm ?_ | refine zN hm ?_ | refine zO hm ?_ | refine zP hm ?_) | fail)
   rw [h10.out]; rfl
theorem rsays_s (t : TabD) (acts : List ActD) (act : Int) (args : List Int) (hl : t.acts.length ≤ 1000000) (hl2 : args.length ≤ 1000000) (hr : ∀ k ∈ t.acts, 0 ≤ k ∧ k < acts.length) (q : Nat) : SCalls Try.prog 72 [.agg (tabc t), .view 2 (acts.map actc), .agg [.int .i64 act, nums .u64 args]] [] q (.int .i64 (qagr t.acts acts act args)) [] := by
 refine qabw ?_ (fun _ => rfl) (fun _ => rfl) rfl q
 refine qaba (N := 43) Try.func72 rfl rfl (by kernel_rfl) qamo (by simp) (by repeat' (first | exact trivial | refine And.intro ?_ ?_ | rfl | decide | exact PureR.ren _)) (by repeat' (first | exact trivial | refine And.intro ?_ ?_ | rfl | decide | exact PureR.ren _)) ?_
 rintro X hP hN hm
 have hc := fun q => rin_s t.acts act hl q
 unfold c_rsays
 cases hin : t.acts.contains act
 ·rw [hin] at hc
  have hz : qagr t.acts acts act args = 5 := by unfold qagr; rw [hin]; rfl
  rw [hz]
  repeat' (first | (with_reducible first | refine zA ?_ | refine qaac ?_ | refine qaab ?_ | refine zK ?_) | ((with_reducible first | refine qaal ?_ | refine qaah (by rw [hP]; exact qaa4) ?_); (try rw [hP]); simp -implicitDefEqProofs [*]) | ((with_reducible first | refine qaaf ?_ | refine qaag ?_); (try simp -implicitDefEqProofs [*])) | ((with_reducible refine qaam ?_); (try simp only [qaas, qaad, qaaj])) | ((with_reducible refine qaae rfl (fun h => ?_) (fun h => ?_)) <;> have h' := h <;> (try simp at h') <;> (try subst h')) | ((with_reducible refine qaaa (fun h => ?_) (fun h => ?_)) <;> have h' := h <;> (try simp at h') <;> (try subst h') <;> simp -implicitDefEqProofs [*]) | ((with_reducible refine qaai ?_ ?_); (first | omega | (unfold maxLen; omega)); simp -implicitDefEqProofs [*]) | (refine qabd (hc _) ?_; simp -implicitDefEqProofs [*]) | (with_reducible first | refine zM hm ?_ | refine zN hm ?_ | refine zO hm ?_ | refine zP hm ?_) | fail)
  rfl
 ·rw [hin] at hc
  obtain ⟨hr0, hr1⟩ := hr act (by simpa using hin)
  have hlt : act.toNat < acts.length := by omega
  have hF : qagr t.acts acts act args = if args.length ≠ acts[act.toNat].w.length then 2 else if qaf4 args acts[act.toNat].w = true then 6 else 0 := by
   unfold qagr
   have : actW acts act = acts[act.toNat].w := by unfold actW; rw [List.getElem?_eq_getElem hlt]; rfl
   rw [hin, this]; rfl
  generalize qagr t.acts acts act args = F at hF
  generalize hA : acts[act.toNat] = A at hF
  by_cases hlen : args.length = A.w.length
  ·rw [if_neg (by simpa using hlen)] at hF
   have kl : ((A.w.length : Int) != (args.length : Int)) = false := by simp [hlen]
   replace hF := Lib.hid hF
   replace hlen := Lib.hid hlen
   repeat' (first | (with_reducible first | refine zA ?_ | refine qaac ?_ | refine qaab ?_ | refine zK ?_) | ((with_reducible first | refine qaal ?_ | refine qaah (by rw [hP]; exact qaa4) ?_); (try rw [hP]); simp -implicitDefEqProofs [*]) | ((with_reducible first | refine qaaf ?_ | refine qaag ?_); (try simp -implicitDefEqProofs [*])) | ((with_reducible refine qaam ?_); (try simp only [qaas, qaad, qaaj])) | ((with_reducible refine qaae rfl (fun h => ?_) (fun h => ?_)) <;> have h' := h <;> (try simp at h') <;> (try subst h')) | ((with_reducible refine qaaa (fun h => ?_) (fun h => ?_)) <;> have h' := h <;> (try simp at h') <;> (try subst h') <;> simp -implicitDefEqProofs [*]) | ((with_reducible refine qaai ?_ ?_); (first | omega | (unfold maxLen; omega)); simp -implicitDefEqProofs [*]) | (refine qabd (hc _) ?_; simp -implicitDefEqProofs [*]) | (with_reducible first | refine zM hm ?_ | refine zN hm ?_ | refine zO hm ?_ | refine zP hm ?_) | fail)
   refine qaa0 (qabi (fun s (i : Nat) => s.turn [(8, .int .i64 i)] []) (fun i => i ≤ A.w.length ∧ F = if qaf4 (args.drop i) (A.w.drop i) = true then 6 else 0) (fun i => A.w.length - i) 0 ?_ ⟨by simp, hF.out⟩ ?_)
   ·repeat' (first | ((with_reducible refine qaar [] hm ?_ ?_ ?_ ?_) <;> (try simp only [zT, puth, Nat.reduceEqDiff, reduceIte, Nat.reduceAdd])) | (with_reducible first | refine za ?_ ?_ | refine zb ?_ ?_ ?_ ?_ | refine zc ?_ ?_ ?_ ?_ | refine zd ?_ ?_ ?_ ?_ | refine qaap ?_ ?_ | refine qaan ?_ ?_) | (with_reducible first | exact qaak | exact qaao | exact qaat | exact qaau | exact Co.refl _ | exact CoL.refl _ | exact CoLL.refl _) | ((with_reducible first | refine zga ?_ | refine zgb ?_); rfl) | ((with_reducible refine zgc ?_); (first | (with_reducible rfl) | rfl | (simp; done))) | ((with_reducible first | refine zgd ?_ | refine zge ?_); (first | omega | (simp; done))) | (refine qaaw ⟨?_, ?_⟩ ?_ <;> omega) | (exact Co.refl _) | (exact CoL.refl _) | (exact CoLL.refl _) | (refine qaaz ?_; omega) | (refine qaay ?_; first | omega | (simp_all; done)) | (with_reducible first | refine qaav ?_ ?_ | refine qaaq ?_ ?_) | fail)
   rintro J hJ i ⟨h1, h2⟩
   unfold qakt
   simp only [zT, puth, Nat.reduceEqDiff, reduceIte, Nat.reduceAdd] at h1 h2 ⊢
   rcases Nat.lt_or_ge i A.w.length with hi2 | hi
   ·have hi : i < args.length := by have := hlen.out; omega
    rw [qagm hi hi2] at h2
    have hms := fun q => qaqk args[i] A.w[i] q
    generalize hw : A.w[i] = w at h2 hms
    generalize hx : args[i] = x at h2 hms
    have wi : IntKind.i64.wrap ((i : Int) + 1) = (i : Int) + 1 := qaa2 (by have := hlen.out; omega) (by have := hlen.out; omega)
    cases hv : qalt x w <;> rw [hv] at h2 hms <;> replace h2 := Lib.hid h2
    ·repeat' (first | (with_reducible first | refine zA ?_ | refine qaac ?_ | refine qaab ?_ | refine zK ?_) | ((with_reducible first | refine qaal ?_ | refine qaah (by rw [hP]; exact qaa4) ?_); (try rw [hP]); simp -implicitDefEqProofs [*]) | ((with_reducible first | refine qaaf ?_ | refine qaag ?_); (try simp -implicitDefEqProofs [*])) | ((with_reducible refine qaam ?_); (try simp only [qaas, qaad, qaaj])) | ((with_reducible refine qaae rfl (fun h => ?_) (fun h => ?_)) <;> have h' := h <;> (try simp at h') <;> (try subst h')) | ((with_reducible refine qaaa (fun h => ?_) (fun h => ?_)) <;> have h' := h <;> (try simp at h') <;> (try subst h') <;> simp -implicitDefEqProofs [*]) | ((with_reducible refine qaai ?_ ?_); (first | omega | (unfold maxLen; omega)); simp -implicitDefEqProofs [*]) | (refine qabd (hms _) ?_; simp -implicitDefEqProofs [*]) | (with_reducible first | refine zM hm ?_ | refine zN hm ?_ | refine zO hm ?_ | refine zP hm ?_) | ((with_reducible refine qaar [] hm ?_ ?_ ?_ ?_) <;> (try simp only [zT, puth, Nat.reduceEqDiff, reduceIte, Nat.reduceAdd])) | (with_reducible first | refine za ?_ ?_ | refine zb ?_ ?_ ?_ ?_ | refine zc ?_ ?_ ?_ ?_ | refine zd ?_ ?_ ?_ ?_ | refine qaap ?_ ?_ | refine qaan ?_ ?_) | (with_reducible first | exact qaak | exact qaao | exact qaat | exact qaau | exact Co.refl _ | exact CoL.refl _ | exact CoLL.refl _) | ((with_reducible first | refine zga ?_ | refine zgb ?_); rfl) | ((with_reducible refine zgc ?_); (first | (with_reducible rfl) | rfl | (simp; done))) | ((with_reducible first | refine zgd ?_ | refine zge ?_); (first | omega | (simp; done))) | (refine qaaw ⟨?_, ?_⟩ ?_ <;> omega) | (exact Co.refl _) | (exact CoL.refl _) | (exact CoLL.refl _) | (refine qaaz ?_; omega) | (refine qaay ?_; first | omega | (simp_all; done)) | (with_reducible first | refine qaav ?_ ?_ | refine qaaq ?_ ?_) | ((refine qaax hJ (i + 1) ?_ ?_ ?_; (with_reducible refine qaar [] hm ?_ ?_ ?_ ?_) <;> (try simp only [zT, puth, Nat.reduceEqDiff, reduceIte, Nat.reduceAdd]))) | fail)
     exact ⟨by omega, by rw [h2.out, Bool.false_or]⟩
    ·repeat' (first | (with_reducible first | refine zA ?_ | refine qaac ?_ | refine qaab ?_ | refine zK ?_) | ((with_reducible first | refine qaal ?_ | refine qaah (by rw [hP]; exact qaa4) ?_); (try rw [hP]); simp -implicitDefEqProofs [*]) | ((with_reducible first | refine qaaf ?_ | refine qaag ?_); (try simp -implicitDefEqProofs [*])) | ((with_reducible refine qaam ?_); (try simp only [qaas, qaad, qaaj])) | ((with_reducible refine qaae rfl (fun h => ?_) (fun h => ?_)) <;> have h' := h <;> (try simp at h') <;> (try subst h')) | ((with_reducible refine qaaa (fun h => ?_) (fun h => ?_)) <;> have h' := h <;> (try simp at h') <;> (try subst h') <;> simp -implicitDefEqProofs [*]) | ((with_reducible refine qaai ?_ ?_); (first | omega | (unfold maxLen; omega)); simp -implicitDefEqProofs [*]) | (refine qabd (hms _) ?_; simp -implicitDefEqProofs [*]) | (with_reducible first | refine zM hm ?_ | refine zN hm ?_ | refine zO hm ?_ | refine zP hm ?_) | fail)
     rw [h2.out]; rfl
   ·obtain rfl : i = A.w.length := by omega
    rw [← hlen.out, List.drop_length] at h2
    replace h2 := Lib.hid h2
    repeat' (first | (with_reducible first | refine zA ?_ | refine qaac ?_ | refine qaab ?_ | refine zK ?_) | ((with_reducible first | refine qaal ?_ | refine qaah (by rw [hP]; exact qaa4) ?_); (try rw [hP]); simp -implicitDefEqProofs [*]) | ((with_reducible first | refine qaaf ?_ | refine qaag ?_); (try simp -implicitDefEqProofs [*])) | ((with_reducible refine qaam ?_); (try simp only [qaas, qaad, qaaj])) | ((with_reducible refine qaae rfl (fun h => ?_) (fun h => ?_)) <;> have h' := h <;> (try simp at h') <;> (try subst h')) | ((with_reducible refine qaaa (fun h => ?_) (fun h => ?_)) <;> have h' := h <;> (try simp at h') <;> (try subst h') <;> simp -implicitDefEqProofs [*]) | ((with_reducible refine qaai ?_ ?_); (first | omega | (unfold maxLen; omega)); simp -implicitDefEqProofs [*]) | (with_reducible first | refine zM hm ?_ | refine zN hm ?_ | refine zO hm ?_ | refine zP hm ?_) | fail)
    rw [h2.out]; rfl
  ·rw [if_pos (by simpa using hlen)] at hF
   have kl : ((A.w.length : Int) != (args.length : Int)) = true := by simp; omega
   replace hF := Lib.hid hF
   repeat' (first | (with_reducible first | refine zA ?_ | refine qaac ?_ | refine qaab ?_ | refine zK ?_) | ((with_reducible first | refine qaal ?_ | refine qaah (by rw [hP]; exact qaa4) ?_); (try rw [hP]); simp -implicitDefEqProofs [*]) | ((with_reducible first | refine qaaf ?_ | refine qaag ?_); (try simp -implicitDefEqProofs [*])) | ((with_reducible refine qaam ?_); (try simp only [qaas, qaad, qaaj])) | ((with_reducible refine qaae rfl (fun h => ?_) (fun h => ?_)) <;> have h' := h <;> (try simp at h') <;> (try subst h')) | ((with_reducible refine qaaa (fun h => ?_) (fun h => ?_)) <;> have h' := h <;> (try simp at h') <;> (try subst h') <;> simp -implicitDefEqProofs [*]) | ((with_reducible refine qaai ?_ ?_); (first | omega | (unfold maxLen; omega)); simp -implicitDefEqProofs [*]) | (refine qabd (hc _) ?_; simp -implicitDefEqProofs [*]) | (with_reducible first | refine zM hm ?_ | refine zN hm ?_ | refine zO hm ?_ | refine zP hm ?_) | fail)
   rw [hF.out]
set_option maxHeartbeats 4000000 in
theorem qbck (t : TabD) (ws : List Int) (acts : List ActD) (h1 : t.acts.length ≤ 1000000) (h2 : t.args.length ≤ 1000000) (h3 : ws.length ≤ 1000000) (h4 : acts.length ≤ 1000000) (q : Nat) : SCalls Try.prog 44 [.agg (tabc t), nums .i64 ws, .view 2 (acts.map actc)] [] q (.int .i64 (qadn t ws acts)) [] := by
 refine qabw ?_ (fun _ => rfl) (fun _ => rfl) rfl q
 refine qaba (N := 104) Try.func44 rfl rfl (by kernel_rfl) qajw (by simp) (by repeat' (first | exact trivial | refine And.intro ?_ ?_ | rfl | decide | exact PureR.ren _)) (by repeat' (first | exact trivial | refine And.intro ?_ ?_ | rfl | decide | exact PureR.ren _)) ?_
 rintro X hP hN hm
 have hsays := fun (hr : ∀ k ∈ t.acts, 0 ≤ k ∧ k < acts.length) q => rsays_s t acts t.def_ t.args h1 h2 hr q
 replace hsays := Lib.hid hsays
 obtain ⟨n, hn⟩ : ∃ n, ws.length = n := ⟨_, rfl⟩
 obtain ⟨m, hma⟩ : ∃ m, t.acts.length = m := ⟨_, rfl⟩
 unfold c_rtable
 by_cases g1 : t.kind < 1 ∨ 3 < t.kind
 ·have hz : qadn t ws acts = 5 := by unfold qadn; rw [if_pos g1]
  rw [hz]
  replace g1 := Lib.hid g1
  repeat' (first | (with_reducible first | refine zA ?_ | refine qaac ?_ | refine qaab ?_ | refine zK ?_) | ((with_reducible first | refine qaal ?_ | refine qaah (by rw [hP]; exact qaa4) ?_); (try rw [hP]); simp -implicitDefEqProofs [*]) | ((with_reducible first | refine qaaf ?_ | refine qaag ?_); (try simp -implicitDefEqProofs [*])) | ((with_reducible refine qaam ?_); (try simp only [qaas, qaad, qaaj])) | ((with_reducible refine qaae rfl (fun h => ?_) (fun h => ?_)) <;> have h' := h <;> (try simp at h') <;> (try subst h')) | ((with_reducible refine qaaa (fun h => ?_) (fun h => ?_)) <;> have h' := h <;> (try simp at h') <;> (try subst h') <;> simp -implicitDefEqProofs [*]) | ((with_reducible refine qaai ?_ ?_); (first | omega | (unfold maxLen; omega)); simp -implicitDefEqProofs [*]) | (with_reducible first | refine zM hm ?_ | refine zN hm ?_ | refine zO hm ?_ | refine zP hm ?_) | fail)
  all_goals (first | rfl | (exfalso; have q1 := g1.out; omega))
 have g11 : decide (t.kind < 1) = false := by rw [decide_eq_false_iff_not]; omega
 have g12 : decide (3 < t.kind) = false := by rw [decide_eq_false_iff_not]; omega
 by_cases g2 : ws.length < 1 ∨ 3 < ws.length ∨ (t.kind = 2 ∧ 1 < ws.length) ∨ t.acts.length < 1 ∨ 4 < t.acts.length
 ·have hz : qadn t ws acts = 2 := by unfold qadn; rw [if_neg g1, if_pos g2]
  rw [hz]
  replace g1 := Lib.hid g1
  replace g2 := Lib.hid g2
  repeat' (first | (with_reducible first | refine zA ?_ | refine qaac ?_ | refine qaab ?_ | refine zK ?_) | ((with_reducible first | refine qaal ?_ | refine qaah (by rw [hP]; exact qaa4) ?_); (try rw [hP]); simp -implicitDefEqProofs [*]) | ((with_reducible first | refine qaaf ?_ | refine qaag ?_); (try simp -implicitDefEqProofs [*])) | ((with_reducible refine qaam ?_); (try simp only [qaas, qaad, qaaj])) | ((with_reducible refine qaae rfl (fun h => ?_) (fun h => ?_)) <;> have h' := h <;> (try simp at h') <;> (try subst h')) | ((with_reducible refine qaaa (fun h => ?_) (fun h => ?_)) <;> have h' := h <;> (try simp at h') <;> (try subst h') <;> simp -implicitDefEqProofs [*]) | ((with_reducible refine qaai ?_ ?_); (first | omega | (unfold maxLen; omega)); simp -implicitDefEqProofs [*]) | (with_reducible first | refine zM hm ?_ | refine zN hm ?_ | refine zO hm ?_ | refine zP hm ?_) | fail)
  all_goals (first | rfl | (exfalso; have q := g2.out; have q1 := g1.out; omega))
 by_cases g3 : t.cap < 0 ∨ 16 < t.cap
 ·have hz : qadn t ws acts = 1 := by unfold qadn; rw [if_neg g1, if_neg g2, if_pos g3]
  rw [hz]
  replace g1 := Lib.hid g1
  replace g2 := Lib.hid g2
  replace g3 := Lib.hid g3
  repeat' (first | (with_reducible first | refine zA ?_ | refine qaac ?_ | refine qaab ?_ | refine zK ?_) | ((with_reducible first | refine qaal ?_ | refine qaah (by rw [hP]; exact qaa4) ?_); (try rw [hP]); simp -implicitDefEqProofs [*]) | ((with_reducible first | refine qaaf ?_ | refine qaag ?_); (try simp -implicitDefEqProofs [*])) | ((with_reducible refine qaam ?_); (try simp only [qaas, qaad, qaaj])) | ((with_reducible refine qaae rfl (fun h => ?_) (fun h => ?_)) <;> have h' := h <;> (try simp at h') <;> (try subst h')) | ((with_reducible refine qaaa (fun h => ?_) (fun h => ?_)) <;> have h' := h <;> (try simp at h') <;> (try subst h') <;> simp -implicitDefEqProofs [*]) | ((with_reducible refine qaai ?_ ?_); (first | omega | (unfold maxLen; omega)); simp -implicitDefEqProofs [*]) | (with_reducible first | refine zM hm ?_ | refine zN hm ?_ | refine zO hm ?_ | refine zP hm ?_) | fail)
  all_goals (first | rfl | (exfalso; have q := g2.out; have q1 := g1.out; have q3 := g3.out; omega))
 have hF : qadn t ws acts = if (ws.drop 0).any wOut = true then 6 else if (t.acts.drop 0).any (aOut acts.length) = true then 1 else qagr t.acts acts t.def_ t.args := by
  unfold qadn; rw [if_neg g1, if_neg g2, if_neg g3]; rfl
 generalize qadn t ws acts = F at hF
 replace hF := Lib.hid hF
 have l0 : decide ((ws.length : Int) < 1) = false := by rw [decide_eq_false_iff_not]; omega
 have l3 : decide (3 < (ws.length : Int)) = false := by rw [decide_eq_false_iff_not]; omega
 have a0 : decide ((t.acts.length : Int) < 1) = false := by rw [decide_eq_false_iff_not]; omega
 have a4 : decide (4 < (t.acts.length : Int)) = false := by rw [decide_eq_false_iff_not]; omega
 have q0 : decide (t.cap < 0) = false := by rw [decide_eq_false_iff_not]; omega
 have q16 : decide (16 < t.cap) = false := by rw [decide_eq_false_iff_not]; omega
 have hks : (t.kind == 2) = false ∨ ((t.kind == 2) = true ∧ decide (1 < (ws.length : Int)) = false) := by
  by_cases e2 : t.kind = 2
  ·right; refine ⟨by simpa using e2, ?_⟩
   rw [decide_eq_false_iff_not]; omega
  ·left; simpa using e2
 clear g1 g2 g3 hn hma n m
 rcases hks with k1 | ⟨k1, k2⟩
 all_goals
  repeat' (first | (with_reducible first | refine zA ?_ | refine qaac ?_ | refine qaab ?_ | refine zK ?_) | ((with_reducible first | refine qaal ?_ | refine qaah (by rw [hP]; exact qaa4) ?_); (try rw [hP]); simp -implicitDefEqProofs [*]) | ((with_reducible first | refine qaaf ?_ | refine qaag ?_); (try simp -implicitDefEqProofs [*])) | ((with_reducible refine qaam ?_); (try simp only [qaas, qaad, qaaj])) | ((with_reducible refine qaae rfl (fun h => ?_) (fun h => ?_)) <;> have h' := h <;> (try simp at h') <;> (try subst h')) | ((with_reducible refine qaaa (fun h => ?_) (fun h => ?_)) <;> have h' := h <;> (try simp at h') <;> (try subst h') <;> simp -implicitDefEqProofs [*]) | ((with_reducible refine qaai ?_ ?_); (first | omega | (unfold maxLen; omega)); simp -implicitDefEqProofs [*]) | (with_reducible first | refine zM hm ?_ | refine zN hm ?_ | refine zO hm ?_ | refine zP hm ?_) | fail)
  clear k1 a0 a4 q0 q16 l0 l3
  refine qaa0 (qabi (fun s (i : Nat) => s.turn [(7, .int .i64 i)] []) (fun i => i ≤ ws.length ∧ F = if (ws.drop i).any wOut = true then 6 else if (t.acts.drop 0).any (aOut acts.length) = true then 1 else qagr t.acts acts t.def_ t.args) (fun i => ws.length - i) 0 ?_ ⟨by simp, hF.out⟩ ?_)
  ·repeat' (first | ((with_reducible refine qaar [] hm ?_ ?_ ?_ ?_) <;> (try simp only [zT, puth, Nat.reduceEqDiff, reduceIte, Nat.reduceAdd])) | (with_reducible first | refine za ?_ ?_ | refine zb ?_ ?_ ?_ ?_ | refine zc ?_ ?_ ?_ ?_ | refine zd ?_ ?_ ?_ ?_ | refine qaap ?_ ?_ | refine qaan ?_ ?_) | (with_reducible first | exact qaak | exact qaao | exact qaat | exact qaau | exact Co.refl _ | exact CoL.refl _ | exact CoLL.refl _) | ((with_reducible first | refine zga ?_ | refine zgb ?_); rfl) | ((with_reducible refine zgc ?_); (first | (with_reducible rfl) | rfl | (simp; done))) | ((with_reducible first | refine zgd ?_ | refine zge ?_); (first | omega | (simp; done))) | (refine qaaw ⟨?_, ?_⟩ ?_ <;> omega) | (exact Co.refl _) | (exact CoL.refl _) | (exact CoLL.refl _) | (refine qaaz ?_; omega) | (refine qaay ?_; first | omega | (simp_all; done)) | (with_reducible first | refine qaav ?_ ?_ | refine qaaq ?_ ?_) | fail)
  rintro J hJ i ⟨h5, h6⟩
  unfold qah5
  simp only [zT, puth, Nat.reduceEqDiff, reduceIte, Nat.reduceAdd] at h5 h6 ⊢
  rcases Nat.lt_or_ge i ws.length with hi | hi
  ·rw [qadq _ hi] at h6
   generalize hxx : ws[i] = x at h6
   have wi : IntKind.i64.wrap ((i : Int) + 1) = (i : Int) + 1 := qaa2 (by omega) (by omega)
   replace h6 := Lib.hid h6
   cases hv : wOut x
   ·have hv1 : decide (x < 1) = false ∧ decide (48 < x) = false := by simpa [wOut] using hv
    obtain ⟨v1, v2⟩ := hv1
    repeat' (first | (with_reducible first | refine zA ?_ | refine qaac ?_ | refine qaab ?_ | refine zK ?_) | ((with_reducible first | refine qaal ?_ | refine qaah (by rw [hP]; exact qaa4) ?_); (try rw [hP]); simp -implicitDefEqProofs [*]) | ((with_reducible first | refine qaaf ?_ | refine qaag ?_); (try simp -implicitDefEqProofs [*])) | ((with_reducible refine qaam ?_); (try simp only [qaas, qaad, qaaj])) | ((with_reducible refine qaae rfl (fun h => ?_) (fun h => ?_)) <;> have h' := h <;> (try simp at h') <;> (try subst h')) | ((with_reducible refine qaaa (fun h => ?_) (fun h => ?_)) <;> have h' := h <;> (try simp at h') <;> (try subst h') <;> simp -implicitDefEqProofs [*]) | ((with_reducible refine qaai ?_ ?_); (first | omega | (unfold maxLen; omega)); simp -implicitDefEqProofs [*]) | (with_reducible first | refine zM hm ?_ | refine zN hm ?_ | refine zO hm ?_ | refine zP hm ?_) | ((with_reducible refine qaar [] hm ?_ ?_ ?_ ?_) <;> (try simp only [zT, puth, Nat.reduceEqDiff, reduceIte, Nat.reduceAdd])) | (with_reducible first | refine za ?_ ?_ | refine zb ?_ ?_ ?_ ?_ | refine zc ?_ ?_ ?_ ?_ | refine zd ?_ ?_ ?_ ?_ | refine qaap ?_ ?_ | refine qaan ?_ ?_) | (with_reducible first | exact qaak | exact qaao | exact qaat | exact qaau | exact Co.refl _ | exact CoL.refl _ | exact CoLL.refl _) | ((with_reducible first | refine zga ?_ | refine zgb ?_); rfl) | ((with_reducible refine zgc ?_); (first | (with_reducible rfl) | rfl | (simp; done))) | ((with_reducible first | refine zgd ?_ | refine zge ?_); (first | omega | (simp; done))) | (refine qaaw ⟨?_, ?_⟩ ?_ <;> omega) | (exact Co.refl _) | (exact CoL.refl _) | (exact CoLL.refl _) | (refine qaaz ?_; omega) | (refine qaay ?_; first | omega | (simp_all; done)) | (with_reducible first | refine qaav ?_ ?_ | refine qaaq ?_ ?_) | ((refine qaax hJ (i + 1) ?_ ?_ ?_; (with_reducible refine qaar [] hm ?_ ?_ ?_ ?_) <;> (try simp only [zT, puth, Nat.reduceEqDiff, reduceIte, Nat.reduceAdd]))) | fail)
    exact ⟨by omega, by rw [h6.out, hv, Bool.false_or]⟩
   ·replace hv := Lib.hid hv
    repeat' (first | (with_reducible first | refine zA ?_ | refine qaac ?_ | refine qaab ?_ | refine zK ?_) | ((with_reducible first | refine qaal ?_ | refine qaah (by rw [hP]; exact qaa4) ?_); (try rw [hP]); simp -implicitDefEqProofs [*]) | ((with_reducible first | refine qaaf ?_ | refine qaag ?_); (try simp -implicitDefEqProofs [*])) | ((with_reducible refine qaam ?_); (try simp only [qaas, qaad, qaaj])) | ((with_reducible refine qaae rfl (fun h => ?_) (fun h => ?_)) <;> have h' := h <;> (try simp at h') <;> (try subst h')) | ((with_reducible refine qaaa (fun h => ?_) (fun h => ?_)) <;> have h' := h <;> (try simp at h') <;> (try subst h') <;> simp -implicitDefEqProofs [*]) | ((with_reducible refine qaai ?_ ?_); (first | omega | (unfold maxLen; omega)); simp -implicitDefEqProofs [*]) | (with_reducible first | refine zM hm ?_ | refine zN hm ?_ | refine zO hm ?_ | refine zP hm ?_) | ((with_reducible refine qaar [] hm ?_ ?_ ?_ ?_) <;> (try simp only [zT, puth, Nat.reduceEqDiff, reduceIte, Nat.reduceAdd])) | (with_reducible first | refine za ?_ ?_ | refine zb ?_ ?_ ?_ ?_ | refine zc ?_ ?_ ?_ ?_ | refine zd ?_ ?_ ?_ ?_ | refine qaap ?_ ?_ | refine qaan ?_ ?_) | (with_reducible first | exact qaak | exact qaao | exact qaat | exact qaau | exact Co.refl _ | exact CoL.refl _ | exact CoLL.refl _) | ((with_reducible first | refine zga ?_ | refine zgb ?_); rfl) | ((with_reducible refine zgc ?_); (first | (with_reducible rfl) | rfl | (simp; done))) | ((with_reducible first | refine zgd ?_ | refine zge ?_); (first | omega | (simp; done))) | (refine qaaw ⟨?_, ?_⟩ ?_ <;> omega) | (exact Co.refl _) | (exact CoL.refl _) | (exact CoLL.refl _) | (refine qaaz ?_; omega) | (refine qaay ?_; first | omega | (simp_all; done)) | (with_reducible first | refine qaav ?_ ?_ | refine qaaq ?_ ?_) | ((refine qaax hJ (i + 1) ?_ ?_ ?_; (with_reducible refine qaar [] hm ?_ ?_ ?_ ?_) <;> (try simp only [zT, puth, Nat.reduceEqDiff, reduceIte, Nat.reduceAdd]))) | fail)
    all_goals (first | (exfalso; have q := hv.out; simp only [wOut, Bool.or_eq_true, decide_eq_true_eq] at q; omega) | (rw [h6.out, hv.out]; rfl))
  ·obtain rfl : i = ws.length := by omega
   have h7 : F = if (t.acts.drop 0).any (aOut acts.length) = true then 1 else qagr t.acts acts t.def_ t.args := by rw [h6, List.drop_length]; rfl
   replace h7 := Lib.hid h7
   replace h6 := Lib.hid h6
   repeat' (first | (with_reducible first | refine zA ?_ | refine qaac ?_ | refine qaab ?_ | refine zK ?_) | ((with_reducible first | refine qaal ?_ | refine qaah (by rw [hP]; exact qaa4) ?_); (try rw [hP]); simp -implicitDefEqProofs [*]) | ((with_reducible first | refine qaaf ?_ | refine qaag ?_); (try simp -implicitDefEqProofs [*])) | ((with_reducible refine qaam ?_); (try simp only [qaas, qaad, qaaj])) | ((with_reducible refine qaae rfl (fun h => ?_) (fun h => ?_)) <;> have h' := h <;> (try simp at h') <;> (try subst h')) | ((with_reducible refine qaaa (fun h => ?_) (fun h => ?_)) <;> have h' := h <;> (try simp at h') <;> (try subst h') <;> simp -implicitDefEqProofs [*]) | ((with_reducible refine qaai ?_ ?_); (first | omega | (unfold maxLen; omega)); simp -implicitDefEqProofs [*]) | (with_reducible first | refine zM hm ?_ | refine zN hm ?_ | refine zO hm ?_ | refine zP hm ?_) | fail)
   refine qaa0 (qabi (fun s (i : Nat) => s.turn [(8, .int .i64 i)] []) (fun i => i ≤ t.acts.length ∧ (∀ k ∈ t.acts.take i, aOut acts.length k = false) ∧ F = if (t.acts.drop i).any (aOut acts.length) = true then 1 else qagr t.acts acts t.def_ t.args) (fun i => t.acts.length - i) 0 ?_ ⟨by simp, by simp, h7.out⟩ ?_)
   ·repeat' (first | ((with_reducible refine qaar [] hm ?_ ?_ ?_ ?_) <;> (try simp only [zT, puth, Nat.reduceEqDiff, reduceIte, Nat.reduceAdd])) | (with_reducible first | refine za ?_ ?_ | refine zb ?_ ?_ ?_ ?_ | refine zc ?_ ?_ ?_ ?_ | refine zd ?_ ?_ ?_ ?_ | refine qaap ?_ ?_ | refine qaan ?_ ?_) | (with_reducible first | exact qaak | exact qaao | exact qaat | exact qaau | exact Co.refl _ | exact CoL.refl _ | exact CoLL.refl _) | ((with_reducible first | refine zga ?_ | refine zgb ?_); rfl) | ((with_reducible refine zgc ?_); (first | (with_reducible rfl) | rfl | (simp; done))) | ((with_reducible first | refine zgd ?_ | refine zge ?_); (first | omega | (simp; done))) | (refine qaaw ⟨?_, ?_⟩ ?_ <;> omega) | (exact Co.refl _) | (exact CoL.refl _) | (exact CoLL.refl _) | (refine qaaz ?_; omega) | (refine qaay ?_; first | omega | (simp_all; done)) | (with_reducible first | refine qaav ?_ ?_ | refine qaaq ?_ ?_) | fail)
   rintro J hJ i ⟨h8, h9, h10⟩
   unfold qah4
   simp only [zT, puth, Nat.reduceEqDiff, reduceIte, Nat.reduceAdd] at h8 h9 h10 ⊢
   replace h9 := Lib.hid h9
   rcases Nat.lt_or_ge i t.acts.length with hi | hi
   ·rw [qadq _ hi] at h10
    have htk : t.acts.take (i + 1) = t.acts.take i ++ [t.acts[i]] := List.take_succ_eq_append_getElem hi
    generalize hxx : t.acts[i] = x at h10 htk
    have wi : IntKind.i64.wrap ((i : Int) + 1) = (i : Int) + 1 := qaa2 (by omega) (by omega)
    replace h10 := Lib.hid h10
    replace htk := Lib.hid htk
    cases hv : aOut acts.length x
    ·have hv1 : decide (x < 0) = false ∧ decide ((acts.length : Int) ≤ x) = false := by simpa [aOut] using hv
     obtain ⟨v1, v2⟩ := hv1
     replace hv := Lib.hid hv
     repeat' (first | (with_reducible first | refine zA ?_ | refine qaac ?_ | refine qaab ?_ | refine zK ?_) | ((with_reducible first | refine qaal ?_ | refine qaah (by rw [hP]; exact qaa4) ?_); (try rw [hP]); simp -implicitDefEqProofs [*]) | ((with_reducible first | refine qaaf ?_ | refine qaag ?_); (try simp -implicitDefEqProofs [*])) | ((with_reducible refine qaam ?_); (try simp only [qaas, qaad, qaaj])) | ((with_reducible refine qaae rfl (fun h => ?_) (fun h => ?_)) <;> have h' := h <;> (try simp at h') <;> (try subst h')) | ((with_reducible refine qaaa (fun h => ?_) (fun h => ?_)) <;> have h' := h <;> (try simp at h') <;> (try subst h') <;> simp -implicitDefEqProofs [*]) | ((with_reducible refine qaai ?_ ?_); (first | omega | (unfold maxLen; omega)); simp -implicitDefEqProofs [*]) | (with_reducible first | refine zM hm ?_ | refine zN hm ?_ | refine zO hm ?_ | refine zP hm ?_) | ((with_reducible refine qaar [] hm ?_ ?_ ?_ ?_) <;> (try simp only [zT, puth, Nat.reduceEqDiff, reduceIte, Nat.reduceAdd])) | (with_reducible first | refine za ?_ ?_ | refine zb ?_ ?_ ?_ ?_ | refine zc ?_ ?_ ?_ ?_ | refine zd ?_ ?_ ?_ ?_ | refine qaap ?_ ?_ | refine qaan ?_ ?_) | (with_reducible first | exact qaak | exact qaao | exact qaat | exact qaau | exact Co.refl _ | exact CoL.refl _ | exact CoLL.refl _) | ((with_reducible first | refine zga ?_ | refine zgb ?_); rfl) | ((with_reducible refine zgc ?_); (first | (with_reducible rfl) | rfl | (simp; done))) | ((with_reducible first | refine zgd ?_ | refine zge ?_); (first | omega | (simp; done))) | (refine qaaw ⟨?_, ?_⟩ ?_ <;> omega) | (exact Co.refl _) | (exact CoL.refl _) | (exact CoLL.refl _) | (refine qaaz ?_; omega) | (refine qaay ?_; first | omega | (simp_all; done)) | (with_reducible first | refine qaav ?_ ?_ | refine qaaq ?_ ?_) | ((refine qaax hJ (i + 1) ?_ ?_ ?_; (with_reducible refine qaar [] hm ?_ ?_ ?_ ?_) <;> (try simp only [zT, puth, Nat.reduceEqDiff, reduceIte, Nat.reduceAdd]))) | fail)
     refine ⟨by omega, fun k hk => ?_, by rw [h10.out, hv.out, Bool.false_or]⟩
     rw [htk.out, List.mem_append] at hk
     rcases hk with hk | hk
     ·exact h9.out k hk
     ·rw [List.mem_singleton.1 hk]; exact hv.out
    ·replace hv := Lib.hid hv
     repeat' (first | (with_reducible first | refine zA ?_ | refine qaac ?_ | refine qaab ?_ | refine zK ?_) | ((with_reducible first | refine qaal ?_ | refine qaah (by rw [hP]; exact qaa4) ?_); (try rw [hP]); simp -implicitDefEqProofs [*]) | ((with_reducible first | refine qaaf ?_ | refine qaag ?_); (try simp -implicitDefEqProofs [*])) | ((with_reducible refine qaam ?_); (try simp only [qaas, qaad, qaaj])) | ((with_reducible refine qaae rfl (fun h => ?_) (fun h => ?_)) <;> have h' := h <;> (try simp at h') <;> (try subst h')) | ((with_reducible refine qaaa (fun h => ?_) (fun h => ?_)) <;> have h' := h <;> (try simp at h') <;> (try subst h') <;> simp -implicitDefEqProofs [*]) | ((with_reducible refine qaai ?_ ?_); (first | omega | (unfold maxLen; omega)); simp -implicitDefEqProofs [*]) | (with_reducible first | refine zM hm ?_ | refine zN hm ?_ | refine zO hm ?_ | refine zP hm ?_) | ((with_reducible refine qaar [] hm ?_ ?_ ?_ ?_) <;> (try simp only [zT, puth, Nat.reduceEqDiff, reduceIte, Nat.reduceAdd])) | (with_reducible first | refine za ?_ ?_ | refine zb ?_ ?_ ?_ ?_ | refine zc ?_ ?_ ?_ ?_ | refine zd ?_ ?_ ?_ ?_ | refine qaap ?_ ?_ | refine qaan ?_ ?_) | (with_reducible first | exact qaak | exact qaao | exact qaat | exact qaau | exact Co.refl _ | exact CoL.refl _ | exact CoLL.refl _) | ((with_reducible first | refine zga ?_ | refine zgb ?_); rfl) | ((with_reducible refine zgc ?_); (first | (with_reducible rfl) | rfl | (simp; done))) | ((with_reducible first | refine zgd ?_ | refine zge ?_); (first | omega | (simp; done))) | (refine qaaw ⟨?_, ?_⟩ ?_ <;> omega) | (exact Co.refl _) | (exact CoL.refl _) | (exact CoLL.refl _) | (refine qaaz ?_; omega) | (refine qaay ?_; first | omega | (simp_all; done)) | (with_reducible first | refine qaav ?_ ?_ | refine qaaq ?_ ?_) | ((refine qaax hJ (i + 1) ?_ ?_ ?_; (with_reducible refine qaar [] hm ?_ ?_ ?_ ?_) <;> (try simp only [zT, puth, Nat.reduceEqDiff, reduceIte, Nat.reduceAdd]))) | fail)
     all_goals (first | (exfalso; have q := hv.out; simp only [aOut, Bool.or_eq_true, decide_eq_true_eq] at q; omega) | (rw [h10.out, hv.out]; rfl))
   ·obtain rfl : i = t.acts.length := by omega
    have h11 : ∀ k ∈ t.acts, 0 ≤ k ∧ k < acts.length := fun k hk => by
     have := h9.out k (by rw [List.take_length]; exact hk)
     unfold aOut at this; rw [Bool.or_eq_false_iff, decide_eq_false_iff_not, decide_eq_false_iff_not] at this; omega
    have h12 : F = qagr t.acts acts t.def_ t.args := by rw [h10, List.drop_length]; rfl
    have hs := hsays.out h11
    replace hs := Lib.hid hs
    replace h11 := Lib.hid h11
    replace h10 := Lib.hid h10
    replace h12 := Lib.hid h12
    repeat' (first | (with_reducible first | refine zA ?_ | refine qaac ?_ | refine qaab ?_ | refine zK ?_) | ((with_reducible first | refine qaal ?_ | refine qaah (by rw [hP]; exact qaa4) ?_); (try rw [hP]); simp -implicitDefEqProofs [*]) | ((with_reducible first | refine qaaf ?_ | refine qaag ?_); (try simp -implicitDefEqProofs [*])) | ((with_reducible refine qaam ?_); (try simp only [qaas, qaad, qaaj])) | ((with_reducible refine qaae rfl (fun h => ?_) (fun h => ?_)) <;> have h' := h <;> (try simp at h') <;> (try subst h')) | ((with_reducible refine qaaa (fun h => ?_) (fun h => ?_)) <;> have h' := h <;> (try simp at h') <;> (try subst h') <;> simp -implicitDefEqProofs [*]) | ((with_reducible refine qaai ?_ ?_); (first | omega | (unfold maxLen; omega)); simp -implicitDefEqProofs [*]) | (refine qabd (hs.out _) ?_; simp -implicitDefEqProofs [*]) | (with_reducible first | refine zM hm ?_ | refine zN hm ?_ | refine zO hm ?_ | refine zP hm ?_) | fail)
    rw [h12.out]
end Go.Proofs.Ytnfjldobjgdiaaa
