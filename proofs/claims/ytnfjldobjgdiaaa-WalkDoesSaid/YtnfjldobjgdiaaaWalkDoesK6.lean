/-
  Texts joined: XPlnY XWlkC XWlkD XWlkE XCplr XPlnR XPlnS. No condition.
-/
import Derived.Test.YtnfjldobjgdiaaaProg
import Derived.ProofKit
import Derived.WalkSpells
import Derived.RegionTactic
import Derived.BigRegion
import Derived.Deep.RegionLaw
import Derived.Test.YtnfjldobjgdiaaaWalkDoesK5
namespace Go.Proofs.Ytnfjldobjgdiaaa
set_option linter.all false
open Go.RowKit
attribute [local simp] qabs qabr qaa5 qabc qaa6 qabb qabp qabq qaa1 qab3 SOp.run SX.ev putd puts argS upds SOp.touch SSt.keep SSt.skip gets geth puth delh idOf SV.cells? setL qadd qade sbin eq0 eq1 eqL qadc qacd qace qaas qabt qaad qabu qab4 qaaj qaa3 FrzOk qabl qabf qabj qabk qaa7 qabe qab0 qabg qaa9 qabm qaa8 frzS frzH frz frz1 frz0 SlotsM ObjsM ObjM rn ren ren1 ren0 qab9 qaay qaaz qab8 qab1 qacq qacp CoL qabn qacs dels adds idsH qacf
attribute [local simp] qad0 refc qafc qae1 qacn opc actc tabc qaeg qac1 nums
theorem qaqh {X : Cx} {sl : Sl} {hp : Hp} {t nx id n e z : Nat} {es fs : List (List SV)} [PureR es] (hm : X.m = 0) (hu : gets sl t = .own id n) (h : geth hp id = some (.row e z es)) (hn : n = es.length) (hf : es = fs) : QFun X [.tmp t] 0 (.view z fs) [] .ret ⟨sl, hp, nx⟩ := by
 subst hf hn
 have h1 : Wk X ⟨sl, hp, nx⟩ (SSt.frz ⟨sl, hp, nx⟩ [id]) := wk_frz [id] fun i o hi ho => by
  have : i = id := by simpa using hi
  subst this
  rw [h] at ho; cases ho
  exact (qad6 e z es).2 trivial
 have h2 : gets (frzS (geth hp) [id] sl) t = .view z es := by
  rw [qal7, hu]; simp [frz, frz1, frz0, h]
 refine ⟨⟨[(t, .view z es)], [], 0⟩, h1.trans (qad5 [] hm rfl (Nat.zero_le _) ⟨?_, trivial⟩ trivial), by simp [qa85, resL, resV, one_, gets], trivial, by simp⟩
 show Co (gets (frzS (geth hp) [id] sl) t) _
 rw [h2]; exact Co.refl _
theorem qaja (l : List Int) (hl : l.length ≤ 1000000) (q : Nat) : SCalls Try.prog 29 [nums .i64 l] [] q (nums .i64 l) [] := by
 refine qabw ?_ (fun _ => rfl) (fun _ => rfl) rfl q
 refine qaba (N := 7) Try.func29 rfl rfl (by kernel_rfl) qamy (by simp) (by repeat' (first | exact trivial | refine And.intro ?_ ?_ | rfl | decide | exact PureR.ren _)) (by repeat' (first | exact trivial | refine And.intro ?_ ?_ | rfl | decide | exact PureR.ren _)) ?_
 rintro X hP hN hm
 have hb : l.length ≤ maxLen := by unfold maxLen; omega
 unfold c_oints
 repeat' (first | (with_reducible first | refine zA ?_ | refine qaac ?_ | refine qaab ?_ | refine zK ?_) | ((with_reducible first | refine qaal ?_ | refine qaah (by rw [hP]; exact qaa4) ?_); (try rw [hP]); simp -implicitDefEqProofs [*]) | ((with_reducible first | refine qaaf ?_ | refine qaag ?_); (try simp -implicitDefEqProofs [*])) | ((with_reducible refine qaam ?_); (try simp only [qaas, qaad, qaaj])) | ((with_reducible refine qaae rfl (fun h => ?_) (fun h => ?_)) <;> have h' := h <;> (try simp at h') <;> (try subst h')) | ((with_reducible refine qaaa (fun h => ?_) (fun h => ?_)) <;> have h' := h <;> (try simp at h') <;> (try subst h') <;> simp -implicitDefEqProofs [*]) | ((with_reducible refine qaai ?_ ?_); (first | omega | (unfold maxLen; omega)); simp -implicitDefEqProofs [*]) | (with_reducible first | refine zM hm ?_ | refine zN hm ?_ | refine zO hm ?_ | refine zP hm ?_) | (refine qaqh hm rfl rfl ?_ rfl) | fail)
 all_goals simp
theorem qbbr (l : List PushD) (hl : l.length ≤ 1000000) (q : Nat) : SCalls Try.prog 30 [qabz l] [] q (qabz l) [] := by
 refine qabw ?_ (fun _ => rfl) (fun _ => rfl) rfl q
 refine qaba (N := 7) Try.func30 rfl rfl (by kernel_rfl) qamw (by simp) (by repeat' (first | exact trivial | refine And.intro ?_ ?_ | rfl | decide | exact PureR.ren _)) (by repeat' (first | exact trivial | refine And.intro ?_ ?_ | rfl | decide | exact PureR.ren _)) ?_
 rintro X hP hN hm
 have hb : l.length ≤ maxLen := by unfold maxLen; omega
 unfold c_otree
 repeat' (first | (with_reducible first | refine zA ?_ | refine qaac ?_ | refine qaab ?_ | refine zK ?_) | ((with_reducible first | refine qaal ?_ | refine qaah (by rw [hP]; exact qaa4) ?_); (try rw [hP]); simp -implicitDefEqProofs [qabz, *]) | ((with_reducible first | refine qaaf ?_ | refine qaag ?_); (try simp -implicitDefEqProofs [qabz, *])) | ((with_reducible refine qaam ?_); (try simp only [qaas, qaad, qaaj])) | ((with_reducible refine qaae rfl (fun h => ?_) (fun h => ?_)) <;> have h' := h <;> (try simp at h') <;> (try subst h')) | ((with_reducible refine qaaa (fun h => ?_) (fun h => ?_)) <;> have h' := h <;> (try simp at h') <;> (try subst h') <;> simp -implicitDefEqProofs [qabz, *]) | ((with_reducible refine qaai ?_ ?_); (first | omega | (unfold maxLen; omega)); simp -implicitDefEqProofs [qabz, *]) | (with_reducible first | refine zM hm ?_ | refine zN hm ?_ | refine zO hm ?_ | refine zP hm ?_) | (refine qaqh hm rfl rfl ?_ rfl) | fail)
 all_goals simp
instance pureR_take (fs : List (List SV)) [PureR fs] (i : Nat) : PureR (fs.take i) := ⟨fun σ => by rw [List.map_take, PureR.ren], fun x hx => PureR.ok x (List.mem_of_mem_take hx), fun x hx => PureR.pure x (List.mem_of_mem_take hx)⟩
theorem qafo {α : Type} (f : α → List SV) {l : List α} {i : Nat} (hi : i ≤ l.length) : ((l.take i).map f).length = i := by simp; omega
theorem qaen {α : Type} (f : α → List SV) {l : List α} {i : Nat} (hi : i < l.length) : (l.take i).map f ++ [f l[i]] = (l.take (i + 1)).map f := by
 rw [List.take_succ_eq_append_getElem hi, List.map_append]; rfl
theorem qa81 : qahj Try.prog 29 = some true := by kernel_rfl
theorem qaps : qack Try.prog 29 = some 7 := by kernel_rfl
set_option maxHeartbeats 8000000 in
theorem oplan_s (p : PlanD) (hs : SmallP p) (q : Nat) : SCalls Try.prog 16 [.agg (qac1 p)] [] q (.agg (qac1 p)) [] := by
 refine qabw ?_ (fun _ => rfl) (fun _ => rfl) rfl q
 refine qaba (N := 174) Try.func16 rfl rfl (by kernel_rfl) qamx (by simp) (by repeat' (first | exact trivial | refine And.intro ?_ ?_ | rfl | decide | exact PureR.ren _)) (by repeat' (first | exact trivial | refine And.intro ?_ ?_ | rfl | decide | exact PureR.ren _)) ?_
 rintro X hP hN hm
 have hl1 := hs.heads
 have hl2 := hs.metas
 have hl3 := hs.states
 have hl4 := hs.acts
 have hl5 := hs.tabs
 have hl6 := hs.nodes
 have hl7 := hs.outs
 unfold c_oplan
 repeat' (first | (with_reducible first | refine zA ?_ | refine qaac ?_ | refine qaab ?_ | refine zK ?_) | ((with_reducible first | refine qaal ?_ | refine qaah (by rw [hP]; exact qaa4) ?_); (try rw [hP]); simp -implicitDefEqProofs [*]) | ((with_reducible first | refine qaaf ?_ | refine qaag ?_); (try simp -implicitDefEqProofs [*])) | ((with_reducible refine qaam ?_); (try simp only [qaas, qaad, qaaj])) | ((with_reducible refine qaae rfl (fun h => ?_) (fun h => ?_)) <;> have h' := h <;> (try simp at h') <;> (try subst h')) | ((with_reducible refine qaaa (fun h => ?_) (fun h => ?_)) <;> have h' := h <;> (try simp at h') <;> (try subst h') <;> simp -implicitDefEqProofs [*]) | ((with_reducible refine qaai ?_ ?_); (first | omega | (unfold maxLen; omega)); simp -implicitDefEqProofs [*]) | ((first | refine qabd (qaja p.meta_ (by omega) _) ?_ | refine qabd (qaja p.out (by omega) _) ?_); simp -implicitDefEqProofs [*]) | (with_reducible first | refine zM hm ?_ | refine zN hm ?_ | refine zO hm ?_ | refine zP hm ?_) | fail)
 refine qadh (qaem (t := 29) (cs := [.nilsl, nums .i64 p.meta_, .nilsl, .nilsl, .nilsl, .nilsl, nums .i64 p.out]) 23 0 62 1 rfl rfl) ?_
 simp only [zT, puth, Nat.reduceEqDiff, reduceIte, Nat.reduceAdd, List.set]
 refine qaa0 (qabi (fun s (i : Nat) => s.turn [(4, .int .i64 i)] [(23, .cells 29 [.own 26 i, nums .i64 p.meta_, .nilsl, .nilsl, .nilsl, .nilsl, nums .i64 p.out]), (26, .row 62 1 ((p.heads.take i).map qad0))]) (fun i => i ≤ p.heads.length) (fun i => p.heads.length - i) 0 ?_ (by simp) ?_)
 ·repeat' (first | ((with_reducible refine qaar [] hm ?_ ?_ ?_ ?_) <;> (try simp only [zT, puth, Nat.reduceEqDiff, reduceIte, Nat.reduceAdd])) | (with_reducible first | refine za ?_ ?_ | refine zb ?_ ?_ ?_ ?_ | refine zc ?_ ?_ ?_ ?_ | refine zd ?_ ?_ ?_ ?_ | refine qaap ?_ ?_ | refine qaan ?_ ?_) | (with_reducible first | exact qaak | exact qaao | exact qaat | exact qaau | exact Co.refl _ | exact CoL.refl _ | exact CoLL.refl _) | ((with_reducible first | refine zga ?_ | refine zgb ?_); rfl) | ((with_reducible refine zgc ?_); (first | (with_reducible rfl) | rfl | (simp; done))) | ((with_reducible first | refine zgd ?_ | refine zge ?_); (first | omega | (simp; done))) | (refine qaaw ⟨?_, ?_⟩ ?_ <;> omega) | (exact Co.refl _) | (exact CoL.refl _) | (exact CoLL.refl _) | (refine qaaz ?_; omega) | (refine qaay ?_; first | omega | (simp_all; done)) | (with_reducible first | refine qaav ?_ ?_ | refine qaaq ?_ ?_) | fail)
 rintro J hJ i hi
 unfold qak5
 simp only [zT, puth, Nat.reduceEqDiff, reduceIte, Nat.reduceAdd]
 have hlen := qafo qad0 hi
 have hb1 : i + 1 ≤ maxLen := by unfold maxLen; omega
 rcases Nat.lt_or_ge i p.heads.length with h | h
 ·have wi : IntKind.i64.wrap ((i : Int) + 1) = (i : Int) + 1 := qaa2 (by omega) (by omega)
  have hrow := qaen qad0 h
  have hc := fun q => qaja p.heads[i].w (by have := hs.headW _ (List.getElem_mem h); omega) q
  generalize hr : p.heads[i] = r at hrow hc
  replace hc := Lib.hid hc
  repeat' (first | (with_reducible first | refine zA ?_ | refine qaac ?_ | refine qaab ?_ | refine zK ?_) | ((with_reducible first | refine qaal ?_ | refine qaah (by rw [hP]; exact qaa4) ?_); (try rw [hP]); simp -implicitDefEqProofs [*]) | ((with_reducible first | refine qaaf ?_ | refine qaag ?_); (try simp -implicitDefEqProofs [*])) | ((with_reducible refine qaam ?_); (try simp only [qaas, qaad, qaaj])) | ((with_reducible refine qaae rfl (fun h => ?_) (fun h => ?_)) <;> have h' := h <;> (try simp at h') <;> (try subst h')) | ((with_reducible refine qaaa (fun h => ?_) (fun h => ?_)) <;> have h' := h <;> (try simp at h') <;> (try subst h') <;> simp -implicitDefEqProofs [*]) | ((with_reducible refine qaai ?_ ?_); (first | omega | (unfold maxLen; omega)); simp -implicitDefEqProofs [*]) | (refine qabd (hc.out _) ?_; simp -implicitDefEqProofs [*]) | (with_reducible first | refine zM hm ?_ | refine zN hm ?_ | refine zO hm ?_ | refine zP hm ?_) | ((with_reducible refine qaar [] hm ?_ ?_ ?_ ?_) <;> (try simp only [zT, puth, Nat.reduceEqDiff, reduceIte, Nat.reduceAdd])) | (with_reducible first | refine za ?_ ?_ | refine zb ?_ ?_ ?_ ?_ | refine zc ?_ ?_ ?_ ?_ | refine zd ?_ ?_ ?_ ?_ | refine qaap ?_ ?_ | refine qaan ?_ ?_) | (with_reducible first | exact qaak | exact qaao | exact qaat | exact qaau | exact Co.refl _ | exact CoL.refl _ | exact CoLL.refl _) | ((with_reducible first | refine zga ?_ | refine zgb ?_); rfl) | ((with_reducible refine zgc ?_); (first | (with_reducible rfl) | rfl | (simp; done))) | ((with_reducible first | refine zgd ?_ | refine zge ?_); (first | omega | (simp; done))) | (refine qaaw ⟨?_, ?_⟩ ?_ <;> omega) | (exact Co.refl _) | (exact CoL.refl _) | (exact CoLL.refl _) | (refine qaaz ?_; omega) | (refine qaay ?_; first | omega | (simp_all; done)) | (with_reducible first | refine qaav ?_ ?_ | refine qaaq ?_ ?_) | ((refine qaax hJ (i + 1) ?_ ?_ ?_; (with_reducible refine qaar [(23, ?_), (26, ?_)] hm ?_ ?_ ?_ ?_) <;> (try simp only [zT, puth, Nat.reduceEqDiff, reduceIte, Nat.reduceAdd]))) | fail)
  all_goals (first | exact hrow | (rw [← List.map_take]; exact hrow) | omega)
 ·obtain rfl : i = p.heads.length := by omega
  repeat' (first | ((with_reducible refine qada (c := (.seq (.seq (.reg false qak3 [1, 2, 3, 5]) (.block 2 (.loop qaha))) (.seq (.seq (.reg false qaf3 [1, 2, 3, 8]) (.block 4 (.loop qafm))) (.seq (.seq (.reg false qaex [1, 2, 3, 12]) (.block 8 (.loop qaek))) (.seq (.seq (.reg false qad8 [1, 2, 3, 16]) (.block 10 (.loop qad9))) (.seq (.reg false qads [2]) .ret)))))) ?_)) | (with_reducible first | refine zA ?_ | refine qaac ?_ | refine qaab ?_ | refine zK ?_) | ((with_reducible first | refine qaal ?_ | refine qaah (by rw [hP]; exact qaa4) ?_); (try rw [hP]); simp -implicitDefEqProofs [*]) | ((with_reducible first | refine qaaf ?_ | refine qaag ?_); (try simp -implicitDefEqProofs [*])) | ((with_reducible refine qaam ?_); (try simp only [qaas, qaad, qaaj])) | ((with_reducible refine qaae rfl (fun h => ?_) (fun h => ?_)) <;> have h' := h <;> (try simp at h') <;> (try subst h')) | ((with_reducible refine qaaa (fun h => ?_) (fun h => ?_)) <;> have h' := h <;> (try simp at h') <;> (try subst h') <;> simp -implicitDefEqProofs [*]) | ((with_reducible refine qaai ?_ ?_); (first | omega | (unfold maxLen; omega)); simp -implicitDefEqProofs [*]) | (with_reducible first | refine zM hm ?_ | refine zN hm ?_ | refine zO hm ?_ | refine zP hm ?_) | fail)
  constructor
  clear hJ hi h
  refine qadw [26] ?_ ?_
  ·simp only [FrzOk, geth, Nat.reduceEqDiff, reduceIte, qad6, and_true]
  have htk : ((p.heads.take p.heads.length).map qad0).take p.heads.length = p.heads.map qad0 := by rw [List.take_length]; exact List.take_of_length_le (by simp)
  simp -implicitDefEqProofs [htk, hlen, Nat.le_refl]
  clear hlen htk hb1
  repeat' (first | (with_reducible first | refine zA ?_ | refine qaac ?_ | refine qaab ?_ | refine zK ?_) | ((with_reducible first | refine qaal ?_ | refine qaah (by rw [hP]; exact qaa4) ?_); (try rw [hP]); simp -implicitDefEqProofs [*]) | ((with_reducible first | refine qaaf ?_ | refine qaag ?_); (try simp -implicitDefEqProofs [*])) | ((with_reducible refine qaam ?_); (try simp only [qaas, qaad, qaaj])) | ((with_reducible refine qaae rfl (fun h => ?_) (fun h => ?_)) <;> have h' := h <;> (try simp at h') <;> (try subst h')) | ((with_reducible refine qaaa (fun h => ?_) (fun h => ?_)) <;> have h' := h <;> (try simp at h') <;> (try subst h') <;> simp -implicitDefEqProofs [*]) | ((with_reducible refine qaai ?_ ?_); (first | omega | (unfold maxLen; omega)); simp -implicitDefEqProofs [*]) | (with_reducible first | refine zM hm ?_ | refine zN hm ?_ | refine zO hm ?_ | refine zP hm ?_) | fail)
  refine qadh (qaem (t := 29) (cs := [.view 1 (p.heads.map qad0), nums .i64 p.meta_, .nilsl, .nilsl, .nilsl, .nilsl, nums .i64 p.out]) 23 2 65 5 rfl rfl) ?_
  simp only [zT, puth, Nat.reduceEqDiff, reduceIte, Nat.reduceAdd, List.set]
  refine qaa0 (qabi (fun s (i : Nat) => s.turn [(5, .int .i64 i)] [(23, .cells 29 [.view 1 (p.heads.map qad0), nums .i64 p.meta_, .own 33 i, .nilsl, .nilsl, .nilsl, nums .i64 p.out]), (33, .row 65 5 ((p.states.take i).map qacn))]) (fun i => i ≤ p.states.length) (fun i => p.states.length - i) 0 ?_ (by simp) ?_)
  ·repeat' (first | ((with_reducible refine qaar [] hm ?_ ?_ ?_ ?_) <;> (try simp only [zT, puth, Nat.reduceEqDiff, reduceIte, Nat.reduceAdd])) | (with_reducible first | refine za ?_ ?_ | refine zb ?_ ?_ ?_ ?_ | refine zc ?_ ?_ ?_ ?_ | refine zd ?_ ?_ ?_ ?_ | refine qaap ?_ ?_ | refine qaan ?_ ?_) | (with_reducible first | exact qaak | exact qaao | exact qaat | exact qaau | exact Co.refl _ | exact CoL.refl _ | exact CoLL.refl _) | ((with_reducible first | refine zga ?_ | refine zgb ?_); rfl) | ((with_reducible refine zgc ?_); (first | (with_reducible rfl) | rfl | (simp; done))) | ((with_reducible first | refine zgd ?_ | refine zge ?_); (first | omega | (simp; done))) | (refine qaaw ⟨?_, ?_⟩ ?_ <;> omega) | (exact Co.refl _) | (exact CoL.refl _) | (exact CoLL.refl _) | (refine qaaz ?_; omega) | (refine qaay ?_; first | omega | (simp_all; done)) | (with_reducible first | refine qaav ?_ ?_ | refine qaaq ?_ ?_) | fail)
  rintro J hJ i hi
  unfold qaha
  simp only [zT, puth, Nat.reduceEqDiff, reduceIte, Nat.reduceAdd]
  have hlen := qafo qacn hi
  have hb1 : i + 1 ≤ maxLen := by unfold maxLen; omega
  rcases Nat.lt_or_ge i p.states.length with h | h
  ·have wi : IntKind.i64.wrap ((i : Int) + 1) = (i : Int) + 1 := qaa2 (by omega) (by omega)
   have hrow := qaen qacn h
   have hcl := hs.cases_ _ (List.getElem_mem h)
   generalize hr : p.states[i] = r at hrow hcl
   have hcb : r.cases_.length ≤ maxLen := by unfold maxLen; omega
   repeat' (first | ((with_reducible refine qada (c := .reg false qaie [1, 2, 3, 5]) ?_)) | (with_reducible first | refine zA ?_ | refine qaac ?_ | refine qaab ?_ | refine zK ?_) | ((with_reducible first | refine qaal ?_ | refine qaah (by rw [hP]; exact qaa4) ?_); (try rw [hP]); simp -implicitDefEqProofs [*]) | ((with_reducible first | refine qaaf ?_ | refine qaag ?_); (try simp -implicitDefEqProofs [*])) | ((with_reducible refine qaam ?_); (try simp only [qaas, qaad, qaaj])) | ((with_reducible refine qaae rfl (fun h => ?_) (fun h => ?_)) <;> have h' := h <;> (try simp at h') <;> (try subst h')) | ((with_reducible refine qaaa (fun h => ?_) (fun h => ?_)) <;> have h' := h <;> (try simp at h') <;> (try subst h') <;> simp -implicitDefEqProofs [*]) | ((with_reducible refine qaai ?_ ?_); (first | omega | (unfold maxLen; omega)); simp -implicitDefEqProofs [*]) | (with_reducible first | refine zM hm ?_ | refine zN hm ?_ | refine zO hm ?_ | refine zP hm ?_) | fail)
   constructor
   refine qadw [50] ?_ ?_
   ·simp only [FrzOk, geth, Nat.reduceEqDiff, reduceIte, qad6, and_true]
   have htk : (r.cases_.map qae1).take r.cases_.length = r.cases_.map qae1 := List.take_of_length_le (by simp)
   simp -implicitDefEqProofs [htk, Nat.le_refl]
   repeat' (first | (with_reducible first | refine zA ?_ | refine qaac ?_ | refine qaab ?_ | refine zK ?_) | ((with_reducible first | refine qaal ?_ | refine qaah (by rw [hP]; exact qaa4) ?_); (try rw [hP]); simp -implicitDefEqProofs [*]) | ((with_reducible first | refine qaaf ?_ | refine qaag ?_); (try simp -implicitDefEqProofs [*])) | ((with_reducible refine qaam ?_); (try simp only [qaas, qaad, qaaj])) | ((with_reducible refine qaae rfl (fun h => ?_) (fun h => ?_)) <;> have h' := h <;> (try simp at h') <;> (try subst h')) | ((with_reducible refine qaaa (fun h => ?_) (fun h => ?_)) <;> have h' := h <;> (try simp at h') <;> (try subst h') <;> simp -implicitDefEqProofs [*]) | ((with_reducible refine qaai ?_ ?_); (first | omega | (unfold maxLen; omega)); simp -implicitDefEqProofs [*]) | (with_reducible first | refine zM hm ?_ | refine zN hm ?_ | refine zO hm ?_ | refine zP hm ?_) | ((with_reducible refine qaar [] hm ?_ ?_ ?_ ?_) <;> (try simp only [zT, puth, Nat.reduceEqDiff, reduceIte, Nat.reduceAdd])) | (with_reducible first | refine za ?_ ?_ | refine zb ?_ ?_ ?_ ?_ | refine zc ?_ ?_ ?_ ?_ | refine zd ?_ ?_ ?_ ?_ | refine qaap ?_ ?_ | refine qaan ?_ ?_) | (with_reducible first | exact qaak | exact qaao | exact qaat | exact qaau | exact Co.refl _ | exact CoL.refl _ | exact CoLL.refl _) | ((with_reducible first | refine zga ?_ | refine zgb ?_); rfl) | ((with_reducible refine zgc ?_); (first | (with_reducible rfl) | rfl | (simp; done))) | ((with_reducible first | refine zgd ?_ | refine zge ?_); (first | omega | (simp; done))) | (refine qaaw ⟨?_, ?_⟩ ?_ <;> omega) | (exact Co.refl _) | (exact CoL.refl _) | (exact CoLL.refl _) | (refine qaaz ?_; omega) | (refine qaay ?_; first | omega | (simp_all; done)) | (with_reducible first | refine qaav ?_ ?_ | refine qaaq ?_ ?_) | ((refine qaax hJ (i + 1) ?_ ?_ ?_; (with_reducible refine qaar [(23, ?_), (33, ?_)] hm ?_ ?_ ?_ ?_) <;> (try simp only [zT, puth, Nat.reduceEqDiff, reduceIte, Nat.reduceAdd]))) | fail)
   all_goals (first | exact hrow | (rw [← List.map_take]; exact hrow) | omega)
  ·obtain rfl : i = p.states.length := by omega
   repeat' (first | ((with_reducible refine qada (c := (.seq (.seq (.reg false qaf3 [1, 2, 3, 8]) (.block 4 (.loop qafm))) (.seq (.seq (.reg false qaex [1, 2, 3, 12]) (.block 8 (.loop qaek))) (.seq (.seq (.reg false qad8 [1, 2, 3, 16]) (.block 10 (.loop qad9))) (.seq (.reg false qads [2]) .ret))))) ?_)) | (with_reducible first | refine zA ?_ | refine qaac ?_ | refine qaab ?_ | refine zK ?_) | ((with_reducible first | refine qaal ?_ | refine qaah (by rw [hP]; exact qaa4) ?_); (try rw [hP]); simp -implicitDefEqProofs [*]) | ((with_reducible first | refine qaaf ?_ | refine qaag ?_); (try simp -implicitDefEqProofs [*])) | ((with_reducible refine qaam ?_); (try simp only [qaas, qaad, qaaj])) | ((with_reducible refine qaae rfl (fun h => ?_) (fun h => ?_)) <;> have h' := h <;> (try simp at h') <;> (try subst h')) | ((with_reducible refine qaaa (fun h => ?_) (fun h => ?_)) <;> have h' := h <;> (try simp at h') <;> (try subst h') <;> simp -implicitDefEqProofs [*]) | ((with_reducible refine qaai ?_ ?_); (first | omega | (unfold maxLen; omega)); simp -implicitDefEqProofs [*]) | (with_reducible first | refine zM hm ?_ | refine zN hm ?_ | refine zO hm ?_ | refine zP hm ?_) | fail)
   constructor
   clear hJ hi h
   refine qadw [33] ?_ ?_
   ·simp only [FrzOk, geth, Nat.reduceEqDiff, reduceIte, qad6, and_true]
   have htk : ((p.states.take p.states.length).map qacn).take p.states.length = p.states.map qacn := by rw [List.take_length]; exact List.take_of_length_le (by simp)
   simp -implicitDefEqProofs [htk, hlen, Nat.le_refl]
   clear hlen htk hb1
   repeat' (first | (with_reducible first | refine zA ?_ | refine qaac ?_ | refine qaab ?_ | refine zK ?_) | ((with_reducible first | refine qaal ?_ | refine qaah (by rw [hP]; exact qaa4) ?_); (try rw [hP]); simp -implicitDefEqProofs [*]) | ((with_reducible first | refine qaaf ?_ | refine qaag ?_); (try simp -implicitDefEqProofs [*])) | ((with_reducible refine qaam ?_); (try simp only [qaas, qaad, qaaj])) | ((with_reducible refine qaae rfl (fun h => ?_) (fun h => ?_)) <;> have h' := h <;> (try simp at h') <;> (try subst h')) | ((with_reducible refine qaaa (fun h => ?_) (fun h => ?_)) <;> have h' := h <;> (try simp at h') <;> (try subst h') <;> simp -implicitDefEqProofs [*]) | ((with_reducible refine qaai ?_ ?_); (first | omega | (unfold maxLen; omega)); simp -implicitDefEqProofs [*]) | (with_reducible first | refine zM hm ?_ | refine zN hm ?_ | refine zO hm ?_ | refine zP hm ?_) | fail)
   refine qadh (qaem (t := 29) (cs := [.view 1 (p.heads.map qad0), nums .i64 p.meta_, .view 5 (p.states.map qacn), .nilsl, .nilsl, .nilsl, nums .i64 p.out]) 23 3 68 2 rfl rfl) ?_
   simp only [zT, puth, Nat.reduceEqDiff, reduceIte, Nat.reduceAdd, List.set]
   refine qaa0 (qabi (fun s (i : Nat) => s.turn [(8, .int .i64 i)] [(23, .cells 29 [.view 1 (p.heads.map qad0), nums .i64 p.meta_, .view 5 (p.states.map qacn), .own 40 i, .nilsl, .nilsl, nums .i64 p.out]), (40, .row 68 2 ((p.acts.take i).map actc))]) (fun i => i ≤ p.acts.length) (fun i => p.acts.length - i) 0 ?_ (by simp) ?_)
   ·repeat' (first | ((with_reducible refine qaar [] hm ?_ ?_ ?_ ?_) <;> (try simp only [zT, puth, Nat.reduceEqDiff, reduceIte, Nat.reduceAdd])) | (with_reducible first | refine za ?_ ?_ | refine zb ?_ ?_ ?_ ?_ | refine zc ?_ ?_ ?_ ?_ | refine zd ?_ ?_ ?_ ?_ | refine qaap ?_ ?_ | refine qaan ?_ ?_) | (with_reducible first | exact qaak | exact qaao | exact qaat | exact qaau | exact Co.refl _ | exact CoL.refl _ | exact CoLL.refl _) | ((with_reducible first | refine zga ?_ | refine zgb ?_); rfl) | ((with_reducible refine zgc ?_); (first | (with_reducible rfl) | rfl | (simp; done))) | ((with_reducible first | refine zgd ?_ | refine zge ?_); (first | omega | (simp; done))) | (refine qaaw ⟨?_, ?_⟩ ?_ <;> omega) | (exact Co.refl _) | (exact CoL.refl _) | (exact CoLL.refl _) | (refine qaaz ?_; omega) | (refine qaay ?_; first | omega | (simp_all; done)) | (with_reducible first | refine qaav ?_ ?_ | refine qaaq ?_ ?_) | fail)
   rintro J hJ i hi
   have hJo := hJ
   unfold qafm
   simp only [zT, puth, Nat.reduceEqDiff, reduceIte, Nat.reduceAdd]
   have hlen := qafo actc hi
   have hb1 : i + 1 ≤ maxLen := by unfold maxLen; omega
   rcases Nat.lt_or_ge i p.acts.length with h | h
   ·have wi : IntKind.i64.wrap ((i : Int) + 1) = (i : Int) + 1 := qaa2 (by omega) (by omega)
    have hrow := qaen actc h
    have hc := fun q => qaja p.acts[i].w (by have := hs.actW _ (List.getElem_mem h); omega) q
    have hol := hs.ops _ (List.getElem_mem h)
    have htl := hs.tree _ (List.getElem_mem h)
    generalize hr : p.acts[i] = r at hrow hc hol htl
    replace hc := Lib.hid hc
    replace htl := Lib.hid htl
    repeat' (first | (with_reducible first | refine zA ?_ | refine qaac ?_ | refine qaab ?_ | refine zK ?_) | ((with_reducible first | refine qaal ?_ | refine qaah (by rw [hP]; exact qaa4) ?_); (try rw [hP]); simp -implicitDefEqProofs [*]) | ((with_reducible first | refine qaaf ?_ | refine qaag ?_); (try simp -implicitDefEqProofs [*])) | ((with_reducible refine qaam ?_); (try simp only [qaas, qaad, qaaj])) | ((with_reducible refine qaae rfl (fun h => ?_) (fun h => ?_)) <;> have h' := h <;> (try simp at h') <;> (try subst h')) | ((with_reducible refine qaaa (fun h => ?_) (fun h => ?_)) <;> have h' := h <;> (try simp at h') <;> (try subst h') <;> simp -implicitDefEqProofs [*]) | ((with_reducible refine qaai ?_ ?_); (first | omega | (unfold maxLen; omega)); simp -implicitDefEqProofs [*]) | (refine qabd (hc.out _) ?_; simp -implicitDefEqProofs [*]) | (with_reducible first | refine zM hm ?_ | refine zN hm ?_ | refine zO hm ?_ | refine zP hm ?_) | fail)
    refine qadh (qaem (t := 68) (cs := [nums .i64 r.w, .nilsl]) 61 1 71 5 rfl rfl) ?_
    simp only [zT, puth, Nat.reduceEqDiff, reduceIte, Nat.reduceAdd, List.set]
    refine qaa0 (qabi (fun s (k : Nat) => s.turn [(10, .int .i64 k)] [(61, .cells 68 [nums .i64 r.w, .own 64 k]), (64, .row 71 5 ((r.ops.take k).map opc))]) (fun k => k ≤ r.ops.length) (fun k => r.ops.length - k) 0 ?_ (by simp) ?_)
    ·repeat' (first | ((with_reducible refine qaar [] hm ?_ ?_ ?_ ?_) <;> (try simp only [zT, puth, Nat.reduceEqDiff, reduceIte, Nat.reduceAdd])) | (with_reducible first | refine za ?_ ?_ | refine zb ?_ ?_ ?_ ?_ | refine zc ?_ ?_ ?_ ?_ | refine zd ?_ ?_ ?_ ?_ | refine qaap ?_ ?_ | refine qaan ?_ ?_) | (with_reducible first | exact qaak | exact qaao | exact qaat | exact qaau | exact Co.refl _ | exact CoL.refl _ | exact CoLL.refl _) | ((with_reducible first | refine zga ?_ | refine zgb ?_); rfl) | ((with_reducible refine zgc ?_); (first | (with_reducible rfl) | rfl | (simp; done))) | ((with_reducible first | refine zgd ?_ | refine zge ?_); (first | omega | (simp; done))) | (refine qaaw ⟨?_, ?_⟩ ?_ <;> omega) | (exact Co.refl _) | (exact CoL.refl _) | (exact CoLL.refl _) | (refine qaaz ?_; omega) | (refine qaay ?_; first | omega | (simp_all; done)) | (with_reducible first | refine qaav ?_ ?_ | refine qaaq ?_ ?_) | fail)
    rintro J hJ k hk
    unfold qak4
    simp only [zT, puth, Nat.reduceEqDiff, reduceIte, Nat.reduceAdd]
    have hlen2 := qafo opc hk
    have hb2 : k + 1 ≤ maxLen := by unfold maxLen; omega
    rcases Nat.lt_or_ge k r.ops.length with h2 | h2
    ·have wk2 : IntKind.i64.wrap ((k : Int) + 1) = (k : Int) + 1 := qaa2 (by omega) (by omega)
     have hrow2 := qaen opc h2
     have hc2 := fun q => qbbr r.ops[k].e (by have := htl.out _ (List.getElem_mem h2); omega) q
     generalize hy : r.ops[k] = y at hrow2 hc2
     replace hc2 := Lib.hid hc2
     repeat' (first | (with_reducible first | refine zA ?_ | refine qaac ?_ | refine qaab ?_ | refine zK ?_) | ((with_reducible first | refine qaal ?_ | refine qaah (by rw [hP]; exact qaa4) ?_); (try rw [hP]); simp -implicitDefEqProofs [qabz, *]) | ((with_reducible first | refine qaaf ?_ | refine qaag ?_); (try simp -implicitDefEqProofs [qabz, *])) | ((with_reducible refine qaam ?_); (try simp only [qaas, qaad, qaaj])) | ((with_reducible refine qaae rfl (fun h => ?_) (fun h => ?_)) <;> have h' := h <;> (try simp at h') <;> (try subst h')) | ((with_reducible refine qaaa (fun h => ?_) (fun h => ?_)) <;> have h' := h <;> (try simp at h') <;> (try subst h') <;> simp -implicitDefEqProofs [qabz, *]) | ((with_reducible refine qaai ?_ ?_); (first | omega | (unfold maxLen; omega)); simp -implicitDefEqProofs [qabz, *]) | (refine qabd (hc2.out _) ?_; simp -implicitDefEqProofs [qabz, *]) | (with_reducible first | refine zM hm ?_ | refine zN hm ?_ | refine zO hm ?_ | refine zP hm ?_) | ((with_reducible refine qaar [] hm ?_ ?_ ?_ ?_) <;> (try simp only [zT, puth, Nat.reduceEqDiff, reduceIte, Nat.reduceAdd])) | (with_reducible first | refine za ?_ ?_ | refine zb ?_ ?_ ?_ ?_ | refine zc ?_ ?_ ?_ ?_ | refine zd ?_ ?_ ?_ ?_ | refine qaap ?_ ?_ | refine qaan ?_ ?_) | (with_reducible first | exact qaak | exact qaao | exact qaat | exact qaau | exact Co.refl _ | exact CoL.refl _ | exact CoLL.refl _) | ((with_reducible first | refine zga ?_ | refine zgb ?_); rfl) | ((with_reducible refine zgc ?_); (first | (with_reducible rfl) | rfl | (simp; done))) | ((with_reducible first | refine zgd ?_ | refine zge ?_); (first | omega | (simp; done))) | (refine qaaw ⟨?_, ?_⟩ ?_ <;> omega) | (exact Co.refl _) | (exact CoL.refl _) | (exact CoLL.refl _) | (refine qaaz ?_; omega) | (refine qaay ?_; first | omega | (simp_all; done)) | (with_reducible first | refine qaav ?_ ?_ | refine qaaq ?_ ?_) | ((refine qaax hJ (k + 1) ?_ ?_ ?_; (with_reducible refine qaar [(61, ?_), (64, ?_)] hm ?_ ?_ ?_ ?_) <;> (try simp only [zT, puth, Nat.reduceEqDiff, reduceIte, Nat.reduceAdd]))) | fail)
     all_goals (first | exact hrow2 | (rw [← List.map_take]; exact hrow2) | omega)
    ·obtain rfl : k = r.ops.length := by omega
     repeat' (first | ((with_reducible refine qada (c := .reg false qaid [1, 2, 3, 8]) ?_)) | (with_reducible first | refine zA ?_ | refine qaac ?_ | refine qaab ?_ | refine zK ?_) | ((with_reducible first | refine qaal ?_ | refine qaah (by rw [hP]; exact qaa4) ?_); (try rw [hP]); simp -implicitDefEqProofs [*]) | ((with_reducible first | refine qaaf ?_ | refine qaag ?_); (try simp -implicitDefEqProofs [*])) | ((with_reducible refine qaam ?_); (try simp only [qaas, qaad, qaaj])) | ((with_reducible refine qaae rfl (fun h => ?_) (fun h => ?_)) <;> have h' := h <;> (try simp at h') <;> (try subst h')) | ((with_reducible refine qaaa (fun h => ?_) (fun h => ?_)) <;> have h' := h <;> (try simp at h') <;> (try subst h') <;> simp -implicitDefEqProofs [*]) | ((with_reducible refine qaai ?_ ?_); (first | omega | (unfold maxLen; omega)); simp -implicitDefEqProofs [*]) | (with_reducible first | refine zM hm ?_ | refine zN hm ?_ | refine zO hm ?_ | refine zP hm ?_) | fail)
     constructor
     refine qadw [64] ?_ ?_
     ·simp only [FrzOk, geth, Nat.reduceEqDiff, reduceIte, qad6, and_true]
     have htk : ((r.ops.take r.ops.length).map opc).take r.ops.length = r.ops.map opc := by rw [List.take_length]; exact List.take_of_length_le (by simp)
     simp -implicitDefEqProofs [htk, hlen2, Nat.le_refl]
     repeat' (first | (with_reducible first | refine zA ?_ | refine qaac ?_ | refine qaab ?_ | refine zK ?_) | ((with_reducible first | refine qaal ?_ | refine qaah (by rw [hP]; exact qaa4) ?_); (try rw [hP]); simp -implicitDefEqProofs [*]) | ((with_reducible first | refine qaaf ?_ | refine qaag ?_); (try simp -implicitDefEqProofs [*])) | ((with_reducible refine qaam ?_); (try simp only [qaas, qaad, qaaj])) | ((with_reducible refine qaae rfl (fun h => ?_) (fun h => ?_)) <;> have h' := h <;> (try simp at h') <;> (try subst h')) | ((with_reducible refine qaaa (fun h => ?_) (fun h => ?_)) <;> have h' := h <;> (try simp at h') <;> (try subst h') <;> simp -implicitDefEqProofs [*]) | ((with_reducible refine qaai ?_ ?_); (first | omega | (unfold maxLen; omega)); simp -implicitDefEqProofs [*]) | (with_reducible first | refine zM hm ?_ | refine zN hm ?_ | refine zO hm ?_ | refine zP hm ?_) | ((with_reducible refine qaar [] hm ?_ ?_ ?_ ?_) <;> (try simp only [zT, puth, Nat.reduceEqDiff, reduceIte, Nat.reduceAdd])) | (with_reducible first | refine za ?_ ?_ | refine zb ?_ ?_ ?_ ?_ | refine zc ?_ ?_ ?_ ?_ | refine zd ?_ ?_ ?_ ?_ | refine qaap ?_ ?_ | refine qaan ?_ ?_) | (with_reducible first | exact qaak | exact qaao | exact qaat | exact qaau | exact Co.refl _ | exact CoL.refl _ | exact CoLL.refl _) | ((with_reducible first | refine zga ?_ | refine zgb ?_); rfl) | ((with_reducible refine zgc ?_); (first | (with_reducible rfl) | rfl | (simp; done))) | ((with_reducible first | refine zgd ?_ | refine zge ?_); (first | omega | (simp; done))) | (refine qaaw ⟨?_, ?_⟩ ?_ <;> omega) | (exact Co.refl _) | (exact CoL.refl _) | (exact CoLL.refl _) | (refine qaaz ?_; omega) | (refine qaay ?_; first | omega | (simp_all; done)) | (with_reducible first | refine qaav ?_ ?_ | refine qaaq ?_ ?_) | ((refine qaax hJo (i + 1) ?_ ?_ ?_; (with_reducible refine qaar [(23, ?_), (40, ?_)] hm ?_ ?_ ?_ ?_) <;> (try simp only [zT, puth, Nat.reduceEqDiff, reduceIte, Nat.reduceAdd]))) | fail)
     all_goals (first | exact hrow | (rw [← List.map_take]; exact hrow) | omega)
   ·obtain rfl : i = p.acts.length := by omega
    repeat' (first | ((with_reducible refine qada (c := (.seq (.seq (.reg false qaex [1, 2, 3, 12]) (.block 8 (.loop qaek))) (.seq (.seq (.reg false qad8 [1, 2, 3, 16]) (.block 10 (.loop qad9))) (.seq (.reg false qads [2]) .ret)))) ?_)) | (with_reducible first | refine zA ?_ | refine qaac ?_ | refine qaab ?_ | refine zK ?_) | ((with_reducible first | refine qaal ?_ | refine qaah (by rw [hP]; exact qaa4) ?_); (try rw [hP]); simp -implicitDefEqProofs [*]) | ((with_reducible first | refine qaaf ?_ | refine qaag ?_); (try simp -implicitDefEqProofs [*])) | ((with_reducible refine qaam ?_); (try simp only [qaas, qaad, qaaj])) | ((with_reducible refine qaae rfl (fun h => ?_) (fun h => ?_)) <;> have h' := h <;> (try simp at h') <;> (try subst h')) | ((with_reducible refine qaaa (fun h => ?_) (fun h => ?_)) <;> have h' := h <;> (try simp at h') <;> (try subst h') <;> simp -implicitDefEqProofs [*]) | ((with_reducible refine qaai ?_ ?_); (first | omega | (unfold maxLen; omega)); simp -implicitDefEqProofs [*]) | (with_reducible first | refine zM hm ?_ | refine zN hm ?_ | refine zO hm ?_ | refine zP hm ?_) | fail)
    constructor
    clear hJ hi h
    refine qadw [40] ?_ ?_
    ·simp only [FrzOk, geth, Nat.reduceEqDiff, reduceIte, qad6, and_true]
    have htk : ((p.acts.take p.acts.length).map actc).take p.acts.length = p.acts.map actc := by rw [List.take_length]; exact List.take_of_length_le (by simp)
    simp -implicitDefEqProofs [htk, hlen, Nat.le_refl]
    clear hlen htk hb1
    repeat' (first | (with_reducible first | refine zA ?_ | refine qaac ?_ | refine qaab ?_ | refine zK ?_) | ((with_reducible first | refine qaal ?_ | refine qaah (by rw [hP]; exact qaa4) ?_); (try rw [hP]); simp -implicitDefEqProofs [*]) | ((with_reducible first | refine qaaf ?_ | refine qaag ?_); (try simp -implicitDefEqProofs [*])) | ((with_reducible refine qaam ?_); (try simp only [qaas, qaad, qaaj])) | ((with_reducible refine qaae rfl (fun h => ?_) (fun h => ?_)) <;> have h' := h <;> (try simp at h') <;> (try subst h')) | ((with_reducible refine qaaa (fun h => ?_) (fun h => ?_)) <;> have h' := h <;> (try simp at h') <;> (try subst h') <;> simp -implicitDefEqProofs [*]) | ((with_reducible refine qaai ?_ ?_); (first | omega | (unfold maxLen; omega)); simp -implicitDefEqProofs [*]) | (with_reducible first | refine zM hm ?_ | refine zN hm ?_ | refine zO hm ?_ | refine zP hm ?_) | fail)
    refine qadh (qaem (t := 29) (cs := [.view 1 (p.heads.map qad0), nums .i64 p.meta_, .view 5 (p.states.map qacn), .view 2 (p.acts.map actc), .nilsl, .nilsl, nums .i64 p.out]) 23 4 35 6 rfl rfl) ?_
    simp only [zT, puth, Nat.reduceEqDiff, reduceIte, Nat.reduceAdd, List.set]
    refine qaa0 (qabi (fun s (i : Nat) => s.turn [(12, .int .i64 i)] [(23, .cells 29 [.view 1 (p.heads.map qad0), nums .i64 p.meta_, .view 5 (p.states.map qacn), .view 2 (p.acts.map actc), .own 47 i, .nilsl, nums .i64 p.out]), (47, .row 35 6 ((p.tabs.take i).map tabc))]) (fun i => i ≤ p.tabs.length) (fun i => p.tabs.length - i) 0 ?_ (by simp) ?_)
    ·repeat' (first | ((with_reducible refine qaar [] hm ?_ ?_ ?_ ?_) <;> (try simp only [zT, puth, Nat.reduceEqDiff, reduceIte, Nat.reduceAdd])) | (with_reducible first | refine za ?_ ?_ | refine zb ?_ ?_ ?_ ?_ | refine zc ?_ ?_ ?_ ?_ | refine zd ?_ ?_ ?_ ?_ | refine qaap ?_ ?_ | refine qaan ?_ ?_) | (with_reducible first | exact qaak | exact qaao | exact qaat | exact qaau | exact Co.refl _ | exact CoL.refl _ | exact CoLL.refl _) | ((with_reducible first | refine zga ?_ | refine zgb ?_); rfl) | ((with_reducible refine zgc ?_); (first | (with_reducible rfl) | rfl | (simp; done))) | ((with_reducible first | refine zgd ?_ | refine zge ?_); (first | omega | (simp; done))) | (refine qaaw ⟨?_, ?_⟩ ?_ <;> omega) | (exact Co.refl _) | (exact CoL.refl _) | (exact CoLL.refl _) | (refine qaaz ?_; omega) | (refine qaay ?_; first | omega | (simp_all; done)) | (with_reducible first | refine qaav ?_ ?_ | refine qaaq ?_ ?_) | fail)
    rintro J hJ i hi
    unfold qaek
    simp only [zT, puth, Nat.reduceEqDiff, reduceIte, Nat.reduceAdd]
    have hlen := qafo tabc hi
    have hb1 : i + 1 ≤ maxLen := by unfold maxLen; omega
    rcases Nat.lt_or_ge i p.tabs.length with h | h
    ·have wi : IntKind.i64.wrap ((i : Int) + 1) = (i : Int) + 1 := qaa2 (by omega) (by omega)
     have hrow := qaen tabc h
     have hkl := hs.keys _ (List.getElem_mem h)
     generalize hr : p.tabs[i] = r at hrow hkl
     have hkb1 : r.keys.length ≤ maxLen := by unfold maxLen; omega
     have hkb2 : r.args.length ≤ maxLen := by unfold maxLen; omega
     have hc := fun q => qaja r.acts (by omega) q
     replace hc := Lib.hid hc
     repeat' (first | ((with_reducible refine qada (c := .reg false qaic [1, 2, 3, 12]) ?_)) | (with_reducible first | refine zA ?_ | refine qaac ?_ | refine qaab ?_ | refine zK ?_) | ((with_reducible first | refine qaal ?_ | refine qaah (by rw [hP]; exact qaa4) ?_); (try rw [hP]); simp -implicitDefEqProofs [*]) | ((with_reducible first | refine qaaf ?_ | refine qaag ?_); (try simp -implicitDefEqProofs [*])) | ((with_reducible refine qaam ?_); (try simp only [qaas, qaad, qaaj])) | ((with_reducible refine qaae rfl (fun h => ?_) (fun h => ?_)) <;> have h' := h <;> (try simp at h') <;> (try subst h')) | ((with_reducible refine qaaa (fun h => ?_) (fun h => ?_)) <;> have h' := h <;> (try simp at h') <;> (try subst h') <;> simp -implicitDefEqProofs [*]) | ((with_reducible refine qaai ?_ ?_); (first | omega | (unfold maxLen; omega)); simp -implicitDefEqProofs [*]) | (refine qabd (hc.out _) ?_; simp -implicitDefEqProofs [*]) | (with_reducible first | refine zM hm ?_ | refine zN hm ?_ | refine zO hm ?_ | refine zP hm ?_) | fail)
     constructor
     refine qadw [65, 79] ?_ ?_
     ·simp only [FrzOk, geth, Nat.reduceEqDiff, reduceIte, qad6, and_true]
     have htk1 : (r.keys.map refc).take r.keys.length = r.keys.map refc := List.take_of_length_le (by simp)
     have htk2 : (r.args.map fun x => [SV.int .u64 x]).take r.args.length = r.args.map fun x => [SV.int .u64 x] := List.take_of_length_le (by simp)
     simp -implicitDefEqProofs [htk1, htk2, Nat.le_refl]
     repeat' (first | (with_reducible first | refine zA ?_ | refine qaac ?_ | refine qaab ?_ | refine zK ?_) | ((with_reducible first | refine qaal ?_ | refine qaah (by rw [hP]; exact qaa4) ?_); (try rw [hP]); simp -implicitDefEqProofs [*]) | ((with_reducible first | refine qaaf ?_ | refine qaag ?_); (try simp -implicitDefEqProofs [*])) | ((with_reducible refine qaam ?_); (try simp only [qaas, qaad, qaaj])) | ((with_reducible refine qaae rfl (fun h => ?_) (fun h => ?_)) <;> have h' := h <;> (try simp at h') <;> (try subst h')) | ((with_reducible refine qaaa (fun h => ?_) (fun h => ?_)) <;> have h' := h <;> (try simp at h') <;> (try subst h') <;> simp -implicitDefEqProofs [*]) | ((with_reducible refine qaai ?_ ?_); (first | omega | (unfold maxLen; omega)); simp -implicitDefEqProofs [*]) | (with_reducible first | refine zM hm ?_ | refine zN hm ?_ | refine zO hm ?_ | refine zP hm ?_) | ((with_reducible refine qaar [] hm ?_ ?_ ?_ ?_) <;> (try simp only [zT, puth, Nat.reduceEqDiff, reduceIte, Nat.reduceAdd])) | (with_reducible first | refine za ?_ ?_ | refine zb ?_ ?_ ?_ ?_ | refine zc ?_ ?_ ?_ ?_ | refine zd ?_ ?_ ?_ ?_ | refine qaap ?_ ?_ | refine qaan ?_ ?_) | (with_reducible first | exact qaak | exact qaao | exact qaat | exact qaau | exact Co.refl _ | exact CoL.refl _ | exact CoLL.refl _) | ((with_reducible first | refine zga ?_ | refine zgb ?_); rfl) | ((with_reducible refine zgc ?_); (first | (with_reducible rfl) | rfl | (simp; done))) | ((with_reducible first | refine zgd ?_ | refine zge ?_); (first | omega | (simp; done))) | (refine qaaw ⟨?_, ?_⟩ ?_ <;> omega) | (exact Co.refl _) | (exact CoL.refl _) | (exact CoLL.refl _) | (refine qaaz ?_; omega) | (refine qaay ?_; first | omega | (simp_all; done)) | (with_reducible first | refine qaav ?_ ?_ | refine qaaq ?_ ?_) | ((refine qaax hJ (i + 1) ?_ ?_ ?_; (with_reducible refine qaar [(23, ?_), (47, ?_)] hm ?_ ?_ ?_ ?_) <;> (try simp only [zT, puth, Nat.reduceEqDiff, reduceIte, Nat.reduceAdd]))) | fail)
     all_goals (first | exact hrow | (rw [← List.map_take]; exact hrow) | omega)
    ·obtain rfl : i = p.tabs.length := by omega
     repeat' (first | ((with_reducible refine qada (c := (.seq (.seq (.reg false qad8 [1, 2, 3, 16]) (.block 10 (.loop qad9))) (.seq (.reg false qads [2]) .ret))) ?_)) | (with_reducible first | refine zA ?_ | refine qaac ?_ | refine qaab ?_ | refine zK ?_) | ((with_reducible first | refine qaal ?_ | refine qaah (by rw [hP]; exact qaa4) ?_); (try rw [hP]); simp -implicitDefEqProofs [*]) | ((with_reducible first | refine qaaf ?_ | refine qaag ?_); (try simp -implicitDefEqProofs [*])) | ((with_reducible refine qaam ?_); (try simp only [qaas, qaad, qaaj])) | ((with_reducible refine qaae rfl (fun h => ?_) (fun h => ?_)) <;> have h' := h <;> (try simp at h') <;> (try subst h')) | ((with_reducible refine qaaa (fun h => ?_) (fun h => ?_)) <;> have h' := h <;> (try simp at h') <;> (try subst h') <;> simp -implicitDefEqProofs [*]) | ((with_reducible refine qaai ?_ ?_); (first | omega | (unfold maxLen; omega)); simp -implicitDefEqProofs [*]) | (with_reducible first | refine zM hm ?_ | refine zN hm ?_ | refine zO hm ?_ | refine zP hm ?_) | fail)
     constructor
     clear hJ hi h
     refine qadw [47] ?_ ?_
     ·simp only [FrzOk, geth, Nat.reduceEqDiff, reduceIte, qad6, and_true]
     have htk : ((p.tabs.take p.tabs.length).map tabc).take p.tabs.length = p.tabs.map tabc := by rw [List.take_length]; exact List.take_of_length_le (by simp)
     simp -implicitDefEqProofs [htk, hlen, Nat.le_refl]
     clear hlen htk hb1
     repeat' (first | (with_reducible first | refine zA ?_ | refine qaac ?_ | refine qaab ?_ | refine zK ?_) | ((with_reducible first | refine qaal ?_ | refine qaah (by rw [hP]; exact qaa4) ?_); (try rw [hP]); simp -implicitDefEqProofs [*]) | ((with_reducible first | refine qaaf ?_ | refine qaag ?_); (try simp -implicitDefEqProofs [*])) | ((with_reducible refine qaam ?_); (try simp only [qaas, qaad, qaaj])) | ((with_reducible refine qaae rfl (fun h => ?_) (fun h => ?_)) <;> have h' := h <;> (try simp at h') <;> (try subst h')) | ((with_reducible refine qaaa (fun h => ?_) (fun h => ?_)) <;> have h' := h <;> (try simp at h') <;> (try subst h') <;> simp -implicitDefEqProofs [*]) | ((with_reducible refine qaai ?_ ?_); (first | omega | (unfold maxLen; omega)); simp -implicitDefEqProofs [*]) | (with_reducible first | refine zM hm ?_ | refine zN hm ?_ | refine zO hm ?_ | refine zP hm ?_) | fail)
     refine qadh (qaem (t := 29) (cs := [.view 1 (p.heads.map qad0), nums .i64 p.meta_, .view 5 (p.states.map qacn), .view 2 (p.acts.map actc), .view 6 (p.tabs.map tabc), .nilsl, nums .i64 p.out]) 23 5 73 5 rfl rfl) ?_
     simp only [zT, puth, Nat.reduceEqDiff, reduceIte, Nat.reduceAdd, List.set]
     refine qaa0 (qabi (fun s (i : Nat) => s.turn [(16, .int .i64 i)] [(23, .cells 29 [.view 1 (p.heads.map qad0), nums .i64 p.meta_, .view 5 (p.states.map qacn), .view 2 (p.acts.map actc), .view 6 (p.tabs.map tabc), .own 54 i, nums .i64 p.out]), (54, .row 73 5 ((p.nodes.take i).map qaeg))]) (fun i => i ≤ p.nodes.length) (fun i => p.nodes.length - i) 0 ?_ (by simp) ?_)
     ·repeat' (first | ((with_reducible refine qaar [] hm ?_ ?_ ?_ ?_) <;> (try simp only [zT, puth, Nat.reduceEqDiff, reduceIte, Nat.reduceAdd])) | (with_reducible first | refine za ?_ ?_ | refine zb ?_ ?_ ?_ ?_ | refine zc ?_ ?_ ?_ ?_ | refine zd ?_ ?_ ?_ ?_ | refine qaap ?_ ?_ | refine qaan ?_ ?_) | (with_reducible first | exact qaak | exact qaao | exact qaat | exact qaau | exact Co.refl _ | exact CoL.refl _ | exact CoLL.refl _) | ((with_reducible first | refine zga ?_ | refine zgb ?_); rfl) | ((with_reducible refine zgc ?_); (first | (with_reducible rfl) | rfl | (simp; done))) | ((with_reducible first | refine zgd ?_ | refine zge ?_); (first | omega | (simp; done))) | (refine qaaw ⟨?_, ?_⟩ ?_ <;> omega) | (exact Co.refl _) | (exact CoL.refl _) | (exact CoLL.refl _) | (refine qaaz ?_; omega) | (refine qaay ?_; first | omega | (simp_all; done)) | (with_reducible first | refine qaav ?_ ?_ | refine qaaq ?_ ?_) | fail)
     rintro J hJ i hi
     unfold qad9
     simp only [zT, puth, Nat.reduceEqDiff, reduceIte, Nat.reduceAdd]
     have hlen := qafo qaeg hi
     have hb1 : i + 1 ≤ maxLen := by unfold maxLen; omega
     rcases Nat.lt_or_ge i p.nodes.length with h | h
     ·have wi : IntKind.i64.wrap ((i : Int) + 1) = (i : Int) + 1 := qaa2 (by omega) (by omega)
      have hrow := qaen qaeg h
      have hc := fun q => qbbr p.nodes[i].e (by have := hs.node _ (List.getElem_mem h); omega) q
      generalize hr : p.nodes[i] = r at hrow hc
      replace hc := Lib.hid hc
      repeat' (first | (with_reducible first | refine zA ?_ | refine qaac ?_ | refine qaab ?_ | refine zK ?_) | ((with_reducible first | refine qaal ?_ | refine qaah (by rw [hP]; exact qaa4) ?_); (try rw [hP]); simp -implicitDefEqProofs [qabz, *]) | ((with_reducible first | refine qaaf ?_ | refine qaag ?_); (try simp -implicitDefEqProofs [qabz, *])) | ((with_reducible refine qaam ?_); (try simp only [qaas, qaad, qaaj])) | ((with_reducible refine qaae rfl (fun h => ?_) (fun h => ?_)) <;> have h' := h <;> (try simp at h') <;> (try subst h')) | ((with_reducible refine qaaa (fun h => ?_) (fun h => ?_)) <;> have h' := h <;> (try simp at h') <;> (try subst h') <;> simp -implicitDefEqProofs [qabz, *]) | ((with_reducible refine qaai ?_ ?_); (first | omega | (unfold maxLen; omega)); simp -implicitDefEqProofs [qabz, *]) | (refine qabd (hc.out _) ?_; simp -implicitDefEqProofs [qabz, *]) | (with_reducible first | refine zM hm ?_ | refine zN hm ?_ | refine zO hm ?_ | refine zP hm ?_) | ((with_reducible refine qaar [] hm ?_ ?_ ?_ ?_) <;> (try simp only [zT, puth, Nat.reduceEqDiff, reduceIte, Nat.reduceAdd])) | (with_reducible first | refine za ?_ ?_ | refine zb ?_ ?_ ?_ ?_ | refine zc ?_ ?_ ?_ ?_ | refine zd ?_ ?_ ?_ ?_ | refine qaap ?_ ?_ | refine qaan ?_ ?_) | (with_reducible first | exact qaak | exact qaao | exact qaat | exact qaau | exact Co.refl _ | exact CoL.refl _ | exact CoLL.refl _) | ((with_reducible first | refine zga ?_ | refine zgb ?_); rfl) | ((with_reducible refine zgc ?_); (first | (with_reducible rfl) | rfl | (simp; done))) | ((with_reducible first | refine zgd ?_ | refine zge ?_); (first | omega | (simp; done))) | (refine qaaw ⟨?_, ?_⟩ ?_ <;> omega) | (exact Co.refl _) | (exact CoL.refl _) | (exact CoLL.refl _) | (refine qaaz ?_; omega) | (refine qaay ?_; first | omega | (simp_all; done)) | (with_reducible first | refine qaav ?_ ?_ | refine qaaq ?_ ?_) | ((refine qaax hJ (i + 1) ?_ ?_ ?_; (with_reducible refine qaar [(23, ?_), (54, ?_)] hm ?_ ?_ ?_ ?_) <;> (try simp only [zT, puth, Nat.reduceEqDiff, reduceIte, Nat.reduceAdd]))) | fail)
      all_goals (first | exact hrow | (rw [← List.map_take]; exact hrow) | omega)
     ·obtain rfl : i = p.nodes.length := by omega
      repeat' (first | ((with_reducible refine qada (c := (.seq (.reg false qads [2]) .ret)) ?_)) | (with_reducible first | refine zA ?_ | refine qaac ?_ | refine qaab ?_ | refine zK ?_) | ((with_reducible first | refine qaal ?_ | refine qaah (by rw [hP]; exact qaa4) ?_); (try rw [hP]); simp -implicitDefEqProofs [*]) | ((with_reducible first | refine qaaf ?_ | refine qaag ?_); (try simp -implicitDefEqProofs [*])) | ((with_reducible refine qaam ?_); (try simp only [qaas, qaad, qaaj])) | ((with_reducible refine qaae rfl (fun h => ?_) (fun h => ?_)) <;> have h' := h <;> (try simp at h') <;> (try subst h')) | ((with_reducible refine qaaa (fun h => ?_) (fun h => ?_)) <;> have h' := h <;> (try simp at h') <;> (try subst h') <;> simp -implicitDefEqProofs [*]) | ((with_reducible refine qaai ?_ ?_); (first | omega | (unfold maxLen; omega)); simp -implicitDefEqProofs [*]) | (with_reducible first | refine zM hm ?_ | refine zN hm ?_ | refine zO hm ?_ | refine zP hm ?_) | fail)
      constructor
      clear hJ hi h
      refine qadw [54] ?_ ?_
      ·simp only [FrzOk, geth, Nat.reduceEqDiff, reduceIte, qad6, and_true]
      have htk : ((p.nodes.take p.nodes.length).map qaeg).take p.nodes.length = p.nodes.map qaeg := by rw [List.take_length]; exact List.take_of_length_le (by simp)
      simp -implicitDefEqProofs [htk, hlen, Nat.le_refl]
      clear hlen htk hb1
      repeat' (first | (with_reducible first | refine zA ?_ | refine qaac ?_ | refine qaab ?_ | refine zK ?_) | ((with_reducible first | refine qaal ?_ | refine qaah (by rw [hP]; exact qaa4) ?_); (try rw [hP]); simp -implicitDefEqProofs [*]) | ((with_reducible first | refine qaaf ?_ | refine qaag ?_); (try simp -implicitDefEqProofs [*])) | ((with_reducible refine qaam ?_); (try simp only [qaas, qaad, qaaj])) | ((with_reducible refine qaae rfl (fun h => ?_) (fun h => ?_)) <;> have h' := h <;> (try simp at h') <;> (try subst h')) | ((with_reducible refine qaaa (fun h => ?_) (fun h => ?_)) <;> have h' := h <;> (try simp at h') <;> (try subst h') <;> simp -implicitDefEqProofs [*]) | ((with_reducible refine qaai ?_ ?_); (first | omega | (unfold maxLen; omega)); simp -implicitDefEqProofs [*]) | (with_reducible first | refine zM hm ?_ | refine zN hm ?_ | refine zO hm ?_ | refine zP hm ?_) | (refine qaga hm rfl rfl (by rw [hP]; exact qa81) (by rw [hP]; exact qaps) rfl (CoL.refl _) rfl (fun σ => rfl)) | fail)
end Go.Proofs.Ytnfjldobjgdiaaa
namespace Go.Proofs.Ytnfjldobjgdiaaa
set_option linter.all false
open Go.RowKit
attribute [local simp] qabs qabr qaa5 qabc qaa6 qabb qabp qabq qaa1 qab3 SOp.run SX.ev putd puts argS upds SOp.touch SSt.keep SSt.skip gets geth puth delh idOf SV.cells? setL qadd qade sbin eq0 eq1 eqL qadc qacd qace qaas qabt qaad qabu qab4 qaaj qaa3 FrzOk qabl qabf qabj qabk qaa7 qabe qab0 qabg qaa9 qabm qaa8 frzS frzH frz frz1 frz0 SlotsM ObjsM ObjM rn ren ren1 ren0 qab9 qaay qaaz qab8 qab1 qacq qacp CoL qabn qacs dels adds idsH qacf
attribute [local simp] qad0 refc qafc qae1 qacn opc actc tabc qaeg qac1 nums setc
theorem qbei : qahj Try.prog 56 = some true := by kernel_rfl
theorem qa9a : qack Try.prog 56 = some 5 := by kernel_rfl
instance : PureF setc := ⟨fun _ _ => rfl, fun _ => rfl, fun _ => qach _ rfl⟩
theorem wjoin_s (s t : SetsD) (q : Nat) : SCalls Try.prog 90 [.agg (setc s), .agg (setc t)] [] q (.agg (setc (qal4 s t))) [] := by
 refine qabw ?_ (fun _ => rfl) (fun _ => rfl) rfl q
 refine qaba (N := 30) Try.func90 rfl rfl (by kernel_rfl) qamb (by simp) (by repeat' (first | exact trivial | refine And.intro ?_ ?_ | rfl | decide | exact PureR.ren _)) (by repeat' (first | exact trivial | refine And.intro ?_ ?_ | rfl | decide | exact PureR.ren _)) ?_
 rintro X hP hN hm
 unfold c_wjoin qal4
 cases hs : s.there
 all_goals
  repeat' (first | (with_reducible first | refine zA ?_ | refine qaac ?_ | refine qaab ?_ | refine zK ?_) | ((with_reducible first | refine qaal ?_ | refine qaah (by rw [hP]; exact qaa4) ?_); (try rw [hP]); simp -implicitDefEqProofs [qabv, qab2, *]) | ((with_reducible first | refine qaaf ?_ | refine qaag ?_); (try simp -implicitDefEqProofs [qabv, qab2, *])) | ((with_reducible refine qaam ?_); (try simp only [qaas, qaad, qaaj])) | ((with_reducible refine qaae rfl (fun h => ?_) (fun h => ?_)) <;> have h' := h <;> (try simp at h') <;> (try subst h')) | ((with_reducible refine qaaa (fun h => ?_) (fun h => ?_)) <;> have h' := h <;> (try simp at h') <;> (try subst h') <;> simp -implicitDefEqProofs [qabv, qab2, *]) | ((with_reducible refine qaai ?_ ?_); (first | omega | (unfold maxLen; omega)); simp -implicitDefEqProofs [qabv, qab2, *]) | (with_reducible first | refine zM hm ?_ | refine zN hm ?_ | refine zO hm ?_ | refine zP hm ?_) | (refine qaga hm rfl rfl (by rw [hP]; exact qbei) (by rw [hP]; exact qa9a) rfl (CoL.refl _) ?_ (fun σ => rfl)) | fail)
  all_goals simp [lo, hi_]
theorem qbeh {h : Int} (h1 : h < 64) : ((bitB h).toNat : Int) = 2 ^ h.toNat := by
 unfold bitB
 have hlt : 2 ^ h.toNat < 2 ^ 64 := Nat.pow_lt_pow_right (by omega) (by omega)
 rw [BitVec.toNat_twoPow, Nat.mod_eq_of_lt hlt]
 push_cast; rfl
theorem qbbj {h : Int} (h0 : 0 ≤ h) (h1 : h < 64) : IntKind.u64.wrap (1 * 2 ^ min h.toNat IntKind.u64.bits) = ((bitB h).toNat : Int) := by
 have e : min h.toNat IntKind.u64.bits = h.toNat := Nat.min_eq_left (by show h.toNat ≤ 64; omega)
 rw [e, Int.one_mul, ← qbeh h1, qaqy]
theorem qbb9 (h : Int) (h0 : 0 ≤ h) (h1 : h < 64) (q : Nat) : SCalls Try.prog 76 [.int .i64 h] [] q (.int .u64 (bitB h).toNat) [] := by
 refine qabw ?_ (fun _ => rfl) (fun _ => rfl) rfl q
 refine qaba (N := 5) Try.func76 rfl rfl (by kernel_rfl) qare (by simp) (by repeat' (first | exact trivial | refine And.intro ?_ ?_ | rfl | decide | exact PureR.ren _)) (by repeat' (first | exact trivial | refine And.intro ?_ ?_ | rfl | decide | exact PureR.ren _)) ?_
 rintro X hP hN hm
 unfold c_wbit
 have e := qbbj h0 h1
 rw [Int.one_mul] at e
 repeat' (first | (with_reducible first | refine zA ?_ | refine qaac ?_ | refine qaab ?_ | refine zK ?_) | ((with_reducible first | refine qaal ?_ | refine qaah (by rw [hP]; exact qaa4) ?_); (try rw [hP]); simp -implicitDefEqProofs [*]) | ((with_reducible first | refine qaaf ?_ | refine qaag ?_); (try simp -implicitDefEqProofs [*])) | ((with_reducible refine qaam ?_); (try simp only [qaas, qaad, qaaj])) | ((with_reducible refine qaae rfl (fun h => ?_) (fun h => ?_)) <;> have h' := h <;> (try simp at h') <;> (try subst h')) | ((with_reducible refine qaaa (fun h => ?_) (fun h => ?_)) <;> have h' := h <;> (try simp at h') <;> (try subst h') <;> simp -implicitDefEqProofs [*]) | ((with_reducible refine qaai ?_ ?_); (first | omega | (unfold maxLen; omega)); simp -implicitDefEqProofs [*]) | (with_reducible first | refine zM hm ?_ | refine zN hm ?_ | refine zO hm ?_ | refine zP hm ?_) | fail)
 all_goals rfl
def wc (p : PlanD) (n : Nat) (a b : Int) : List SV := qac1 p ++ [.own 1 n, .int .i64 a, .int .i64 b]
attribute [local simp] wc
abbrev qahf (l : List SetsD) : SObj := .row 56 5 (l.map setc)
theorem qber {X : Cx} {sl : Sl} {hp : Hp} {nx n : Nat} {p : PlanD} {a b : Int} {cs : List SV} {es : List (List SV)} {l : List SetsD} (hm : X.m = 2) (h0 : geth hp 0 = some (.cells 103 cs)) (h1 : geth hp 1 = some (.row 56 5 es)) (e0 : cs = wc p n a b) (e1 : es = l.map setc) : QFun X [] 2 (.tup []) [(0, .cells 103 (wc p n a b)), (1, qahf l)] .normal ⟨sl, hp, nx⟩ := by
 subst e0 e1
 refine ⟨⟨[], [(0, .cells 103 (wc p n a b)), (1, qahf l)], 2⟩, ?_, rfl, ⟨rfl, rfl, trivial⟩, by simp⟩
 exact qaar [] hm trivial ⟨⟨_, h0, rfl, CoL.refl _⟩, ⟨_, h1, rfl, rfl, by rw [qa1f]; exact CoLL.refl _⟩, trivial⟩ rfl (Nat.le_refl _)
theorem qbdb {X : Cx} {sl : Sl} {hp : Hp} {nx n : Nat} {p : PlanD} {a b : Int} {cs : List SV} {es : List (List SV)} {l : List SetsD} (hm : X.m = 2) (h0 : geth hp 0 = some (.cells 103 cs)) (h1 : geth hp 1 = some (.row 56 5 es)) (e0 : cs = wc p n a b) (e1 : es = l.map setc) : QFun X [] 2 (.tup []) [(0, .cells 103 (wc p n a b)), (1, qahf l)] .ret ⟨sl, hp, nx⟩ := qber hm h0 h1 e0 e1
theorem wfail_s (p : PlanD) (n : Nat) (a b : Int) (l : List SetsD) (is : Bool) (code at_ : Int) : SCalls Try.prog 75 [.ptr 0 0, .bool is, .int .i64 code, .int .i64 at_] [(0, .cells 103 (wc p n a b)), (1, qahf l)] 2 (.tup []) [(0, .cells 103 (wc p n (qacl a b is code at_).1 (qacl a b is code at_).2)), (1, qahf l)] := by
 refine qaba (N := 23) Try.func75 rfl rfl (by kernel_rfl) qamd (by simp) (by repeat' (first | exact trivial | refine And.intro ?_ ?_ | rfl | decide | exact PureR.ren _)) (by repeat' (first | exact trivial | refine And.intro ?_ ?_ | rfl | decide | exact PureR.ren _)) ?_
 rintro X hP hN hm
 unfold c_wfail
 repeat' (first | (with_reducible first | refine zA ?_ | refine qaac ?_ | refine qaab ?_ | refine zK ?_) | ((with_reducible first | refine qaal ?_ | refine qaah (by rw [hP]; exact qaa4) ?_); (try rw [hP]); simp -implicitDefEqProofs [*]) | ((with_reducible first | refine qaaf ?_ | refine qaag ?_); (try simp -implicitDefEqProofs [*])) | ((with_reducible refine qaam ?_); (try simp only [qaas, qaad, qaaj])) | ((with_reducible refine qaae rfl (fun h => ?_) (fun h => ?_)) <;> have h' := h <;> (try simp at h') <;> (try subst h')) | ((with_reducible refine qaaa (fun h => ?_) (fun h => ?_)) <;> have h' := h <;> (try simp at h') <;> (try subst h') <;> simp -implicitDefEqProofs [*]) | ((with_reducible refine qaai ?_ ?_); (first | omega | (unfold maxLen; omega)); simp -implicitDefEqProofs [*]) | (with_reducible first | refine zM hm ?_ | refine zN hm ?_ | refine zO hm ?_ | refine zP hm ?_) | (refine qber hm rfl rfl ?_ rfl) | (refine qbdb hm rfl rfl ?_ rfl) | fail)
 all_goals (first | (simp [qacl, *]; done) | (simp_all [qacl]; done) | (simp_all [qacl]; omega))
theorem wto_s (p : PlanD) (a b : Int) (l : List SetsD) (k : Int) (s : SetsD) (hn : p.states.length ≤ 1000) (hl : l.length = p.states.length + 1) (hk : 0 ≤ tgt p.states.length k) : SCalls Try.prog 77 [.ptr 0 0, .int .i64 k, .agg (setc s)] [(0, .cells 103 (wc p l.length a b)), (1, qahf l)] 2 (.tup []) [(0, .cells 103 (wc p l.length a b)), (1, qahf (toS p.states.length l k s))] := by
 refine qaba (N := 37) Try.func77 rfl rfl (by kernel_rfl) qa2b (by simp) (by repeat' (first | exact trivial | refine And.intro ?_ ?_ | rfl | decide | exact PureR.ren _)) (by repeat' (first | exact trivial | refine And.intro ?_ ?_ | rfl | decide | exact PureR.ren _)) ?_
 rintro X hP hN hm
 unfold c_wto
 obtain ⟨K, hK⟩ : ∃ K, tgt p.states.length k = K := ⟨_, rfl⟩
 rw [hK] at hk
 by_cases hle : K ≤ p.states.length
 ·have hlt : K.toNat < l.length := by omega
  have hset : (l.map setc).set K.toNat (setc (qal4 l[K.toNat] s)) = (toS p.states.length l k s).map setc := by
   unfold toS
   rw [hK, if_pos hle, List.map_set]
   congr 2
   rw [List.getD_eq_getElem?_getD, List.getElem?_eq_getElem hlt]; rfl
  have k2 : decide (K ≤ (p.states.length : Int)) = true := by simpa using hle
  have hj := fun q => wjoin_s l[K.toNat] s q
  generalize toS p.states.length l k s = L at hset
  have hget : l[K.toNat]? = some l[K.toNat] := List.getElem?_eq_getElem hlt
  generalize l[K.toNat] = x at hset hj hget
  generalize hjj : qal4 x s = y at hset hj
  replace hj := Lib.hid hj
  unfold tgt at hK
  cases k1 : (k == 1000)
  ·have e : k = K := by rw [if_neg (by simpa using k1)] at hK; exact hK
   subst e
   repeat' (first | (with_reducible first | refine zA ?_ | refine qaac ?_ | refine qaab ?_ | refine zK ?_) | ((with_reducible first | refine qaal ?_ | refine qaah (by rw [hP]; exact qaa4) ?_); (try rw [hP]); simp -implicitDefEqProofs [*]) | ((with_reducible first | refine qaaf ?_ | refine qaag ?_); (try simp -implicitDefEqProofs [*])) | ((with_reducible refine qaam ?_); (try simp only [qaas, qaad, qaaj])) | ((with_reducible refine qaae rfl (fun h => ?_) (fun h => ?_)) <;> have h' := h <;> (try simp at h') <;> (try subst h')) | ((with_reducible refine qaaa (fun h => ?_) (fun h => ?_)) <;> have h' := h <;> (try simp at h') <;> (try subst h') <;> simp -implicitDefEqProofs [*]) | ((with_reducible refine qaai ?_ ?_); (first | omega | (unfold maxLen; omega)); simp -implicitDefEqProofs [*]) | (refine qabd (hj.out _) ?_; simp -implicitDefEqProofs [*]) | (with_reducible first | refine zM hm ?_ | refine zN hm ?_ | refine zO hm ?_ | refine zP hm ?_) | (refine qber hm rfl rfl ?_ ?_) | fail)
   ·rfl
   ·exact hset
  ·have e : (p.states.length : Int) = K := by rw [if_pos (by simpa using k1)] at hK; exact hK
   subst e
   have hget2 : l[p.states.length]? = some x := by simpa using hget
   have hget3 : l[p.states.length]'(by omega) = x := by rw [List.getElem?_eq_getElem (by omega)] at hget2; exact Option.some.inj hget2
   have hset2 : (l.map setc).set p.states.length (setc y) = L.map setc := by simpa using hset
   replace hset := Lib.hid hset
   repeat' (first | (with_reducible first | refine zA ?_ | refine qaac ?_ | refine qaab ?_ | refine zK ?_) | ((with_reducible first | refine qaal ?_ | refine qaah (by rw [hP]; exact qaa4) ?_); (try rw [hP]); simp -implicitDefEqProofs [*]) | ((with_reducible first | refine qaaf ?_ | refine qaag ?_); (try simp -implicitDefEqProofs [*])) | ((with_reducible refine qaam ?_); (try simp only [qaas, qaad, qaaj])) | ((with_reducible refine qaae rfl (fun h => ?_) (fun h => ?_)) <;> have h' := h <;> (try simp at h') <;> (try subst h')) | ((with_reducible refine qaaa (fun h => ?_) (fun h => ?_)) <;> have h' := h <;> (try simp at h') <;> (try subst h') <;> simp -implicitDefEqProofs [*]) | ((with_reducible refine qaai ?_ ?_); (first | omega | (unfold maxLen; omega)); simp -implicitDefEqProofs [*]) | (refine qabd (hj.out _) ?_; simp -implicitDefEqProofs [*]) | (with_reducible first | refine zM hm ?_ | refine zN hm ?_ | refine zO hm ?_ | refine zP hm ?_) | (refine qber hm rfl rfl ?_ ?_) | fail)
   ·rfl
   ·exact hset2
 ·have hL : toS p.states.length l k s = l := by unfold toS; rw [hK, if_neg hle]
  rw [hL]
  have k2 : decide (K ≤ (p.states.length : Int)) = false := by simpa using hle
  unfold tgt at hK
  cases k1 : (k == 1000)
  ·have e : k = K := by rw [if_neg (by simpa using k1)] at hK; exact hK
   subst e
   repeat' (first | (with_reducible first | refine zA ?_ | refine qaac ?_ | refine qaab ?_ | refine zK ?_) | ((with_reducible first | refine qaal ?_ | refine qaah (by rw [hP]; exact qaa4) ?_); (try rw [hP]); simp -implicitDefEqProofs [*]) | ((with_reducible first | refine qaaf ?_ | refine qaag ?_); (try simp -implicitDefEqProofs [*])) | ((with_reducible refine qaam ?_); (try simp only [qaas, qaad, qaaj])) | ((with_reducible refine qaae rfl (fun h => ?_) (fun h => ?_)) <;> have h' := h <;> (try simp at h') <;> (try subst h')) | ((with_reducible refine qaaa (fun h => ?_) (fun h => ?_)) <;> have h' := h <;> (try simp at h') <;> (try subst h') <;> simp -implicitDefEqProofs [*]) | ((with_reducible refine qaai ?_ ?_); (first | omega | (unfold maxLen; omega)); simp -implicitDefEqProofs [*]) | (with_reducible first | refine zM hm ?_ | refine zN hm ?_ | refine zO hm ?_ | refine zP hm ?_) | (refine qber hm rfl rfl ?_ rfl) | (refine qbdb hm rfl rfl ?_ rfl) | fail)
   all_goals rfl
  ·have e : (p.states.length : Int) = K := by rw [if_pos (by simpa using k1)] at hK; exact hK
   omega
end Go.Proofs.Ytnfjldobjgdiaaa
namespace Go.Proofs.Ytnfjldobjgdiaaa
set_option linter.all false
open Go.RowKit
attribute [local simp] qabs qabr qaa5 qabc qaa6 qabb qabp qabq qaa1 qab3 SOp.run SX.ev putd puts argS upds SOp.touch SSt.keep SSt.skip gets geth puth delh idOf SV.cells? setL qadd qade sbin eq0 eq1 eqL qadc qacd qace qaas qabt qaad qabu qab4 qaaj qaa3 FrzOk qabl qabf qabj qabk qaa7 qabe qab0 qabg qaa9 qabm qaa8 frzS frzH frz frz1 frz0 SlotsM ObjsM ObjM rn ren ren1 ren0 qab9 qaay qaaz qab8 qab1 qacq qacp CoL qabn qacs dels adds idsH qacf
attribute [local simp] qad0 refc qafc qae1 qacn opc actc tabc qaeg qac1 nums setc wc
theorem qagp {P : Program} {f : FuncId} {args args' : List SV} {t : TypeId} {cs ds cs' ds' : List SV} {e z : Nat} {es fs : List (List SV)} [PureR es] [PureR fs] (h : SCalls P f args [(0, .cells t cs), (1, .row e z es)] 2 (.tup []) [(0, .cells t ds), (1, .row e z fs)]) (i j q : Nat) (hij : i ≠ j) (hi : i < q) (hj : j < q)
  (ha : args' = args.map (ren (sg [i, j] q))) (hc : cs' = cs.map (ren (sg [i, j] q))) (hd : ds' = ds.map (ren (sg [i, j] q))) (hok : ds.all ok2 = true) : SCalls P f args' [(i, .cells t cs'), (j, .row e z es)] q (.tup []) [(i, .cells t ds'), (j, .row e z fs)] := by
 have e0 : sg [i, j] q 0 = i := rfl
 have e1 : sg [i, j] q 1 = j := rfl
 refine qagq [i, j] h rfl (by simp [hij]) (by simp; omega) ha ?_ (by simp [idsH]) rfl rfl ?_ (by simp [idsH]) (by simp [idsH, e0, e1])
 ·refine ⟨⟨.cells t cs', by rw [e0]; simp [geth], rfl, by rw [hc]; exact CoL.refl _⟩, ⟨.row e z es, by rw [e1]; simp [geth, hij], rfl, rfl, by rw [PureR.ren]; exact CoLL.refl _⟩, trivial⟩
 ·exact ⟨⟨.cells t ds', by rw [e0]; simp [geth], rfl, hok, hd⟩, ⟨.row e z fs, by rw [e1]; simp [geth, hij], rfl, rfl, PureR.ok, (PureR.ren _).symm⟩, trivial⟩
theorem qad7 (p : PlanD) (n : Nat) (a b : Int) (l : List SetsD) (is : Bool) (code at_ : Int) (q : Nat) (hq : 2 ≤ q) : SCalls Try.prog 75 [.ptr 0 0, .bool is, .int .i64 code, .int .i64 at_] [(0, .cells 103 (wc p n a b)), (1, qahf l)] q (.tup []) [(0, .cells 103 (wc p n (qacl a b is code at_).1 (qacl a b is code at_).2)), (1, qahf l)] :=
 qagp (wfail_s p n a b l is code at_) 0 1 q (by decide) (by omega) (by omega) rfl rfl rfl rfl
theorem qbdj (p : PlanD) (a b : Int) (l : List SetsD) (n : Nat) (hln : l.length = n) (k : Int) (s : SetsD) (hn : p.states.length ≤ 1000) (hl : l.length = p.states.length + 1) (hk : 0 ≤ tgt p.states.length k) (q : Nat) (hq : 2 ≤ q) : SCalls Try.prog 77 [.ptr 0 0, .int .i64 k, .agg (setc s)] [(0, .cells 103 (wc p n a b)), (1, qahf l)] q (.tup []) [(0, .cells 103 (wc p n a b)), (1, qahf (toS p.states.length l k s))] := by
 subst hln
 exact qagp (wto_s p a b l k s hn hl hk) 0 1 q (by decide) (by omega) (by omega) rfl rfl rfl rfl
theorem qacr (v : BitVec 64) : ((v.toNat : Int) != 0) = (v != 0) := by
 have := qbbb (v := v) (w := 0)
 rw [Bool.eq_iff_iff, bne_iff_ne, bne_iff_ne]
 exact not_congr this
theorem qacu (v : BitVec 64) : ((v.toNat : Int) == 0) = (v == 0) := by
 have := qbbb (v := v) (w := 0)
 rw [Bool.eq_iff_iff, beq_iff_eq, beq_iff_eq]
 exact this
theorem qbeg {h : Int} (h1 : h < 64) (j : Nat) : (bitB h).getLsbD j = decide (h.toNat = j) := by
 unfold bitB
 rw [BitVec.getLsbD_twoPow]
 by_cases e : h.toNat = j <;> simp [e]
 omega
theorem gone_eq {h o : Int} (h0 : 0 ≤ h ∧ h < 64) (ho : 0 ≤ o ∧ o < 64) (m : BitVec 64) : ((m ||| bitB h) &&& bitB o == 0) = (o != h && (m &&& bitB o == 0)) := by
 by_cases e : o = h
 ·subst e
  have : ¬ ((m ||| bitB o) &&& bitB o = 0) := fun hz => by
   have := congrArg (fun v => v.getLsbD o.toNat) hz
   simp [BitVec.getLsbD_and, BitVec.getLsbD_or, qbeg h0.2] at this
  simpa using this
 ·have e2 : (m ||| bitB h) &&& bitB o = m &&& bitB o := BitVec.eq_of_getLsbD_eq fun j hj => by
   rw [BitVec.getLsbD_and, BitVec.getLsbD_or, BitVec.getLsbD_and, qbeg h0.2, qbeg ho.2]
   by_cases q1 : o.toNat = j
   ·have q2 : ¬ h.toNat = j := by omega
    simp [q1, q2]
   ·simp [q1]
  have e3 : (o != h) = true := by simpa using e
  rw [e2, e3, Bool.true_and]
theorem qa9i (a b at_ : Int) (s : StateD) (x : SetsD) (hx : x.there = true) (c1 c2 : Bool) (h1 : (decide (0 ≤ s.head) && (x.may &&& bitB s.head != 0)) = c1) (h2 : (decide (0 < s.cases_.length) && (decide (0 ≤ s.on.h) && (s.on.h != s.head && (x.must &&& bitB s.on.h == 0)))) = c2) :
  orF (a, b) (refC s x, at_) = qacl (qacl a b c1 7 at_).1 (qacl a b c1 7 at_).2 c2 12 at_ := by
 unfold refC
 rw [if_neg (by rw [hx]; decide), h1, h2, qac0 _ _ _ _ _ _ (by decide)]
 refine (qac0 _ _ _ _ _ _ (by decide)).trans ?_
 exact qact _ rfl
set_option maxHeartbeats 4000000 in
theorem qbb5 (p : PlanD) (hp : PlOk p) (hk : qaiy p) (i : Nat) (hi : i < p.states.length) (a b : Int) (l : List SetsD) (hl : l.length = p.states.length + 1) (hb : 0 ≤ (l.getD i qad3).least ∧ (l.getD i qad3).least ≤ 256 ∧ 0 ≤ (l.getD i qad3).most ∧ (l.getD i qad3).most ≤ 256) :
  SCalls Try.prog 57 [.ptr 0 0, .int .i64 i] [(0, .cells 103 (wc p (p.states.length + 1) a b)), (1, qahf l)] 2 (.tup []) [(0, .cells 103 (wc p (p.states.length + 1) (orF (a, b) (refC p.states[i] (l.getD i qad3), 3000 + i)).1 (orF (a, b) (refC p.states[i] (l.getD i qad3), 3000 + i)).2)), (1, qahf (qai3 p p.states[i] i l))] := by
 refine qaba (N := 116) Try.func57 rfl rfl (by kernel_rfl) qajo (by simp) (by repeat' (first | exact trivial | refine And.intro ?_ ?_ | rfl | decide | exact PureR.ren _)) (by repeat' (first | exact trivial | refine And.intro ?_ ?_ | rfl | decide | exact PureR.ren _)) ?_
 rintro X hP hN hm
 unfold c_wstate
 have hli : i < l.length := by omega
 have hy : l[i]? = some (l.getD i qad3) := by rw [List.getD_eq_getElem?_getD, List.getElem?_eq_getElem hli]; rfl
 have hn := hp.states.2
 have ok := hp.ok i hi
 have hh6 := hp.heads
 have hts : ∀ t ∈ qac2 p.states[i], 0 ≤ tgt p.states.length t := fun t ht => by have := qa89 ok hi hn ht; omega
 have hmem : p.states[i] ∈ p.states := List.getElem_mem hi
 have hS : qai3 p p.states[i] i l = if (l.getD i qad3).there then (qac2 p.states[i]).foldl (fun m k => toS p.states.length m k (qbbi p p.states[i].head (l.getD i qad3))) l else l := rfl
 have hok1 := ok.head
 have hok2 := ok.on
 have hok3 := ok.cases_
 have hget3 : l[i]'hli = l.getD i qad3 := by rw [List.getD_eq_getElem?_getD, List.getElem?_eq_getElem hli]; rfl
 generalize l.getD i qad3 = y at hy hb hS hget3
 generalize hxx : p.states[i] = x at hts hS hok1 hok2 hok3
 clear ok hmem
 have wa : IntKind.i64.wrap (3000 + (i : Int)) = 3000 + (i : Int) := qaa2 (by omega) (by omega)
 cases hth : y.there
 ·rw [hth, if_neg (by decide)] at hS
  have hR : refC x y = 0 := by unfold refC; rw [if_pos hth]
  rw [hS, hR, show orF (a, b) (0, 3000 + (i : Int)) = (a, b) from qact _ rfl]
  replace hS := Lib.hid hS
  replace hts := Lib.hid hts
  repeat' (first | (with_reducible first | refine zA ?_ | refine qaac ?_ | refine qaab ?_ | refine zK ?_) | ((with_reducible first | refine qaal ?_ | refine qaah (by rw [hP]; exact qaa4) ?_); (try rw [hP]); simp -implicitDefEqProofs [*]) | ((with_reducible first | refine qaaf ?_ | refine qaag ?_); (try simp -implicitDefEqProofs [*])) | ((with_reducible refine qaam ?_); (try simp only [qaas, qaad, qaaj])) | ((with_reducible refine qaae rfl (fun h => ?_) (fun h => ?_)) <;> have h' := h <;> (try simp at h') <;> (try subst h')) | ((with_reducible refine qaaa (fun h => ?_) (fun h => ?_)) <;> have h' := h <;> (try simp at h') <;> (try subst h') <;> simp -implicitDefEqProofs [*]) | ((with_reducible refine qaai ?_ ?_); (first | omega | (unfold maxLen; omega)); simp -implicitDefEqProofs [*]) | (with_reducible first | refine zM hm ?_ | refine zN hm ?_ | refine zO hm ?_ | refine zP hm ?_) | (refine qbdb hm rfl rfl ?_ rfl) | fail)
  all_goals rfl
 ·rw [hth, if_pos rfl] at hS
  have hG := fun c1 c2 h1 h2 => qa9i a b (3000 + (i : Int)) x y hth c1 c2 h1 h2
  generalize orF (a, b) (refC x y, 3000 + (i : Int)) = G at hG
  obtain ⟨T, hT⟩ : ∃ T, qbbi p x.head y = T := ⟨_, rfl⟩
  rw [hT] at hS
  generalize qai3 p x i l = L at hS
  have hTt : T.there = true := by rw [← hT]; unfold qbbi; split <;> first | rfl | exact hth
  have kn : decide (0 < x.cases_.length) = decide (0 < (x.cases_.length : Int)) := decide_eq_decide.2 (by omega)
  replace hS := Lib.hid hS
  replace hts := Lib.hid hts
  replace hG := Lib.hid hG
  have hto : ∀ (m : List SetsD) (hml : m.length = p.states.length + 1) (e g k : Int) (hk : 0 ≤ tgt p.states.length k) (q : Nat) (hq : 2 ≤ q), SCalls Try.prog 77 [.ptr 0 0, .int .i64 k, .agg [.int .u64 T.must.toNat, .int .u64 T.may.toNat, .int .i64 T.least, .int .i64 T.most, .bool true]] [(0, .cells 103 (wc p (p.states.length + 1) e g)), (1, qahf m)] q (.tup []) [(0, .cells 103 (wc p (p.states.length + 1) e g)), (1, qahf (toS p.states.length m k T))] := fun m hml e g k hk q hq => by
   have := qbdj p e g m _ hml k T (by omega) hml hk q hq
   unfold setc at this
   rw [hTt] at this
   exact this
  have loopL : ∀ e g, G = (e, g) → SWp X (SCode.block 0 c_wstate_l1.loop) (QSeq X (SCode.reg false qag3 []) (QFun X [] 2 (.tup []) [(0, .cells 103 (wc p (p.states.length + 1) G.1 G.2)), (1, qahf L)]))
    ⟨[(0, .ptr 0 0), (4, .ptr 17 0), (5, .ptr 18 0), (99, .view 3 (x.cases_.map qae1)), (100, .int .i64 x.cases_.length), (101, .int .i64 0)], [(0, .cells 103 (wc p (p.states.length + 1) e g)), (1, qahf l), (17, .cells 65 (qacn x)), (18, .cells 56 [.int .u64 T.must.toNat, .int .u64 T.may.toNat, .int .i64 T.least, .int .i64 T.most, .bool true])], 19⟩ := fun e g hge => by
   subst hge
   clear hG hget3 hb hth hTt hT
   replace hto := Lib.hid hto
   have h0 : L = (((x.cases_.drop 0).map CaseD.to_) ++ [x.els]).foldl (fun m k => toS p.states.length m k T) l := hS.out
   replace h0 := Lib.hid h0
   refine qaa0 (qabi (fun s (z : Nat × List SetsD) => s.turn [(101, .int .i64 z.1)] [(1, qahf z.2)]) (fun z => z.1 ≤ x.cases_.length ∧ z.2.length = p.states.length + 1 ∧ L = (((x.cases_.drop z.1).map CaseD.to_) ++ [x.els]).foldl (fun m k => toS p.states.length m k T) z.2) (fun z => x.cases_.length - z.1) (0, l) ?_ ⟨by simp, hl, h0.out⟩ ?_)
   ·repeat' (first | ((with_reducible refine qaar [] hm ?_ ?_ ?_ ?_) <;> (try simp only [zT, puth, Nat.reduceEqDiff, reduceIte, Nat.reduceAdd])) | (with_reducible first | refine za ?_ ?_ | refine zb ?_ ?_ ?_ ?_ | refine zc ?_ ?_ ?_ ?_ | refine zd ?_ ?_ ?_ ?_ | refine qaap ?_ ?_ | refine qaan ?_ ?_) | (with_reducible first | exact qaak | exact qaao | exact qaat | exact qaau | exact Co.refl _ | exact CoL.refl _ | exact CoLL.refl _) | ((with_reducible first | refine zga ?_ | refine zgb ?_); rfl) | ((with_reducible refine zgc ?_); (first | (with_reducible rfl) | rfl | (simp; done))) | ((with_reducible first | refine zgd ?_ | refine zge ?_); (first | omega | (simp; done))) | (refine qaaw ⟨?_, ?_⟩ ?_ <;> omega) | (exact Co.refl _) | (exact CoL.refl _) | (exact CoLL.refl _) | (refine qaaz ?_; omega) | (refine qaay ?_; first | omega | (simp_all; done)) | (with_reducible first | refine qaav ?_ ?_ | refine qaaq ?_ ?_) | fail)
   rintro J hJ ⟨j, m⟩ ⟨h1, hml, h2⟩
   unfold c_wstate_l1
   simp only [zT, puth, Nat.reduceEqDiff, reduceIte, Nat.reduceAdd] at h1 hml h2 ⊢
   clear hl hy hli h0
   rcases Nat.lt_or_ge j x.cases_.length with hj | hj
   ·have htm : 0 ≤ tgt p.states.length x.cases_[j].to_ := hts.out _ (List.mem_append_left _ (List.mem_map.2 ⟨_, List.getElem_mem hj, rfl⟩))
    rw [List.drop_eq_getElem_cons hj, List.map_cons, List.cons_append, List.foldl_cons] at h2
    have hsl : (toS p.states.length m x.cases_[j].to_ T).length = p.states.length + 1 := by rw [qa02, hml]
    generalize hcc : x.cases_[j] = c at h2 htm hsl
    have wj : IntKind.i64.wrap ((j : Int) + 1) = (j : Int) + 1 := qaa2 (by omega) (by omega)
    replace h2 := Lib.hid h2
    replace hsl := Lib.hid hsl
    replace hml := Lib.hid hml
    replace htm := Lib.hid htm
    repeat' (first | (with_reducible first | refine zA ?_ | refine qaac ?_ | refine qaab ?_ | refine zK ?_) | ((with_reducible first | refine qaal ?_ | refine qaah (by rw [hP]; exact qaa4) ?_); (try rw [hP]); simp -implicitDefEqProofs [*]) | ((with_reducible first | refine qaaf ?_ | refine qaag ?_); (try simp -implicitDefEqProofs [*])) | ((with_reducible refine qaam ?_); (try simp only [qaas, qaad, qaaj])) | ((with_reducible refine qaae rfl (fun h => ?_) (fun h => ?_)) <;> have h' := h <;> (try simp at h') <;> (try subst h')) | ((with_reducible refine qaaa (fun h => ?_) (fun h => ?_)) <;> have h' := h <;> (try simp at h') <;> (try subst h') <;> simp -implicitDefEqProofs [*]) | ((with_reducible refine qaai ?_ ?_); (first | omega | (unfold maxLen; omega)); simp -implicitDefEqProofs [*]) | (refine qacb (hto.out m hml.out _ _ c.to_ htm.out _ (by simp)) ⟨rfl, rfl, trivial⟩ ⟨rfl, rfl, trivial⟩ ?_; simp -implicitDefEqProofs [*]) | (with_reducible first | refine zM hm ?_ | refine zN hm ?_ | refine zO hm ?_ | refine zP hm ?_) | ((with_reducible refine qaar [] hm ?_ ?_ ?_ ?_) <;> (try simp only [zT, puth, Nat.reduceEqDiff, reduceIte, Nat.reduceAdd])) | (with_reducible first | refine za ?_ ?_ | refine zb ?_ ?_ ?_ ?_ | refine zc ?_ ?_ ?_ ?_ | refine zd ?_ ?_ ?_ ?_ | refine qaap ?_ ?_ | refine qaan ?_ ?_) | (with_reducible first | exact qaak | exact qaao | exact qaat | exact qaau | exact Co.refl _ | exact CoL.refl _ | exact CoLL.refl _) | ((with_reducible first | refine zga ?_ | refine zgb ?_); rfl) | ((with_reducible refine zgc ?_); (first | (with_reducible rfl) | rfl | (simp; done))) | ((with_reducible first | refine zgd ?_ | refine zge ?_); (first | omega | (simp; done))) | (refine qaaw ⟨?_, ?_⟩ ?_ <;> omega) | (exact Co.refl _) | (exact CoL.refl _) | (exact CoLL.refl _) | (refine qaaz ?_; omega) | (refine qaay ?_; first | omega | (simp_all; done)) | (with_reducible first | refine qaav ?_ ?_ | refine qaaq ?_ ?_) | ((refine qaax hJ (j + 1, toS p.states.length m c.to_ T) ?_ ?_ ?_; (with_reducible refine qaar [] hm ?_ ?_ ?_ ?_) <;> (try simp only [zT, puth, Nat.reduceEqDiff, reduceIte, Nat.reduceAdd]))) | fail)
    all_goals (exact ⟨by omega, hsl.out, h2.out⟩)
   ·obtain rfl : j = x.cases_.length := by omega
    rw [List.drop_length] at h2
    have h3 : L = toS p.states.length m x.els T := h2
    have htm : 0 ≤ tgt p.states.length x.els := hts.out _ (List.mem_append_right _ (by simp))
    replace h2 := Lib.hid h2
    replace h3 := Lib.hid h3
    replace hml := Lib.hid hml
    replace htm := Lib.hid htm
    repeat' (first | (with_reducible first | refine zA ?_ | refine qaac ?_ | refine qaab ?_ | refine zK ?_) | ((with_reducible first | refine qaal ?_ | refine qaah (by rw [hP]; exact qaa4) ?_); (try rw [hP]); simp -implicitDefEqProofs [*]) | ((with_reducible first | refine qaaf ?_ | refine qaag ?_); (try simp -implicitDefEqProofs [*])) | ((with_reducible refine qaam ?_); (try simp only [qaas, qaad, qaaj])) | ((with_reducible refine qaae rfl (fun h => ?_) (fun h => ?_)) <;> have h' := h <;> (try simp at h') <;> (try subst h')) | ((with_reducible refine qaaa (fun h => ?_) (fun h => ?_)) <;> have h' := h <;> (try simp at h') <;> (try subst h') <;> simp -implicitDefEqProofs [*]) | ((with_reducible refine qaai ?_ ?_); (first | omega | (unfold maxLen; omega)); simp -implicitDefEqProofs [*]) | (refine qacb (hto.out m hml.out _ _ x.els htm.out _ (by simp)) ⟨rfl, rfl, trivial⟩ ⟨rfl, rfl, trivial⟩ ?_; simp -implicitDefEqProofs [*]) | (with_reducible first | refine zM hm ?_ | refine zN hm ?_ | refine zO hm ?_ | refine zP hm ?_) | (refine qber hm rfl rfl ?_ ?_) | fail)
    ·rfl
    ·rw [h3.out]
  replace hto := Lib.hid hto
  replace loopL := Lib.hid loopL
  cases kh : decide (0 ≤ x.head)
  ·have hTy : T = y := by rw [← hT]; unfold qbbi; rw [if_neg (of_decide_eq_false kh)]
   subst hTy
   replace hT := Lib.hid hT
   replace hok2 := Lib.hid hok2
   have hd : x.head < 0 := by have := of_decide_eq_false kh; omega
   cases kc : decide (0 < (x.cases_.length : Int)) <;> rw [kc] at kn
   ·have hf := hG.out false false (by rw [kh]; rfl) (by rw [kn]; rfl)
    simp only [qabx] at hf
    replace hf := Lib.hid hf
    repeat' (first | (with_reducible first | refine zA ?_ | refine qaac ?_ | refine qaab ?_ | refine zK ?_) | ((with_reducible first | refine qaal ?_ | refine qaah (by rw [hP]; exact qaa4) ?_); (try rw [hP]); simp -implicitDefEqProofs [-BitVec.toNat_and, -BitVec.toNat_or, qabv, qab2, qacr, qacu, *]) | ((with_reducible first | refine qaaf ?_ | refine qaag ?_); (try simp -implicitDefEqProofs [-BitVec.toNat_and, -BitVec.toNat_or, qabv, qab2, qacr, qacu, *])) | ((with_reducible refine qaam ?_); (try simp only [qaas, qaad, qaaj])) | ((with_reducible refine qaae rfl (fun h => ?_) (fun h => ?_)) <;> have h' := h <;> (try simp at h') <;> (try subst h')) | ((with_reducible refine qaaa (fun h => ?_) (fun h => ?_)) <;> have h' := h <;> (try simp at h') <;> (try subst h') <;> simp -implicitDefEqProofs [-BitVec.toNat_and, -BitVec.toNat_or, qabv, qab2, qacr, qacu, *]) | ((with_reducible refine qaai ?_ ?_); (first | omega | (unfold maxLen; omega)); simp -implicitDefEqProofs [-BitVec.toNat_and, -BitVec.toNat_or, qabv, qab2, qacr, qacu, *]) | (refine qacb (qad7 p _ _ _ l _ _ _ _ (by simp)) ⟨rfl, rfl, trivial⟩ ⟨rfl, rfl, trivial⟩ ?_; simp -implicitDefEqProofs [-BitVec.toNat_and, -BitVec.toNat_or, qabv, qab2, qacr, qacu, *]) | (with_reducible first | refine zM hm ?_ | refine zN hm ?_ | refine zO hm ?_ | refine zP hm ?_) | fail)
    refine qadh ?_ (loopL.out _ _ hf.out)
    repeat' (first | ((with_reducible refine qaar [] hm ?_ ?_ ?_ ?_) <;> (try simp only [zT, puth, Nat.reduceEqDiff, reduceIte, Nat.reduceAdd])) | (with_reducible first | refine za ?_ ?_ | refine zb ?_ ?_ ?_ ?_ | refine zc ?_ ?_ ?_ ?_ | refine zd ?_ ?_ ?_ ?_ | refine qaap ?_ ?_ | refine qaan ?_ ?_) | (with_reducible first | exact qaak | exact qaao | exact qaat | exact qaau | exact Co.refl _ | exact CoL.refl _ | exact CoLL.refl _) | ((with_reducible first | refine zga ?_ | refine zgb ?_); rfl) | ((with_reducible refine zgc ?_); (first | (with_reducible rfl) | rfl | (simp; done))) | ((with_reducible first | refine zgd ?_ | refine zge ?_); (first | omega | (simp; done))) | (refine qaaw ⟨?_, ?_⟩ ?_ <;> omega) | (exact Co.refl _) | (exact CoL.refl _) | (exact CoLL.refl _) | (refine qaaz ?_; omega) | (refine qaay ?_; first | omega | (simp_all; done)) | (with_reducible first | refine qaav ?_ ?_ | refine qaaq ?_ ?_) | fail)
   ·cases ko : decide (0 ≤ x.on.h)
    ·have hf := hG.out false false (by rw [kh]; rfl) (by rw [kn, ko]; rfl)
     simp only [qabx] at hf
     replace hf := Lib.hid hf
     repeat' (first | (with_reducible first | refine zA ?_ | refine qaac ?_ | refine qaab ?_ | refine zK ?_) | ((with_reducible first | refine qaal ?_ | refine qaah (by rw [hP]; exact qaa4) ?_); (try rw [hP]); simp -implicitDefEqProofs [-BitVec.toNat_and, -BitVec.toNat_or, qabv, qab2, qacr, qacu, qabx, *]) | ((with_reducible first | refine qaaf ?_ | refine qaag ?_); (try simp -implicitDefEqProofs [-BitVec.toNat_and, -BitVec.toNat_or, qabv, qab2, qacr, qacu, qabx, *])) | ((with_reducible refine qaam ?_); (try simp only [qaas, qaad, qaaj])) | ((with_reducible refine qaae rfl (fun h => ?_) (fun h => ?_)) <;> have h' := h <;> (try simp at h') <;> (try subst h')) | ((with_reducible refine qaaa (fun h => ?_) (fun h => ?_)) <;> have h' := h <;> (try simp at h') <;> (try subst h') <;> simp -implicitDefEqProofs [-BitVec.toNat_and, -BitVec.toNat_or, qabv, qab2, qacr, qacu, qabx, *]) | ((with_reducible refine qaai ?_ ?_); (first | omega | (unfold maxLen; omega)); simp -implicitDefEqProofs [-BitVec.toNat_and, -BitVec.toNat_or, qabv, qab2, qacr, qacu, qabx, *]) | (refine qacb (qad7 p _ _ _ l _ _ _ _ (by simp)) ⟨rfl, rfl, trivial⟩ ⟨rfl, rfl, trivial⟩ ?_; simp -implicitDefEqProofs [-BitVec.toNat_and, -BitVec.toNat_or, qabv, qab2, qacr, qacu, qabx, *]) | (with_reducible first | refine zM hm ?_ | refine zN hm ?_ | refine zO hm ?_ | refine zP hm ?_) | fail)
     refine qadh ?_ (loopL.out _ _ hf.out)
     repeat' (first | ((with_reducible refine qaar [] hm ?_ ?_ ?_ ?_) <;> (try simp only [zT, puth, Nat.reduceEqDiff, reduceIte, Nat.reduceAdd])) | (with_reducible first | refine za ?_ ?_ | refine zb ?_ ?_ ?_ ?_ | refine zc ?_ ?_ ?_ ?_ | refine zd ?_ ?_ ?_ ?_ | refine qaap ?_ ?_ | refine qaan ?_ ?_) | (with_reducible first | exact qaak | exact qaao | exact qaat | exact qaau | exact Co.refl _ | exact CoL.refl _ | exact CoLL.refl _) | ((with_reducible first | refine zga ?_ | refine zgb ?_); rfl) | ((with_reducible refine zgc ?_); (first | (with_reducible rfl) | rfl | (simp; done))) | ((with_reducible first | refine zgd ?_ | refine zge ?_); (first | omega | (simp; done))) | (refine qaaw ⟨?_, ?_⟩ ?_ <;> omega) | (exact Co.refl _) | (exact CoL.refl _) | (exact CoLL.refl _) | (refine qaaz ?_; omega) | (refine qaay ?_; first | omega | (simp_all; done)) | (with_reducible first | refine qaav ?_ ?_ | refine qaaq ?_ ?_) | fail)
    ·have hoh := hok2.out (by have := of_decide_eq_true kc; omega)
     have ho0 := of_decide_eq_true ko
     have hne : (x.on.h != x.head) = true := by rw [bne_iff_ne]; omega
     have hf := hG.out false _ (by rw [kh]; rfl) (by rw [kn, ko, hne, Bool.true_and, Bool.true_and, Bool.true_and])
     simp only [qabx] at hf
     have hbt := fun q => qbb9 x.on.h ho0 (by omega) q
     replace hf := Lib.hid hf
     replace hbt := Lib.hid hbt
     clear hne
     repeat' (first | (with_reducible first | refine zA ?_ | refine qaac ?_ | refine qaab ?_ | refine zK ?_) | ((with_reducible first | refine qaal ?_ | refine qaah (by rw [hP]; exact qaa4) ?_); (try rw [hP]); simp -implicitDefEqProofs [-BitVec.toNat_and, -BitVec.toNat_or, qabv, qab2, qacr, qacu, *]) | ((with_reducible first | refine qaaf ?_ | refine qaag ?_); (try simp -implicitDefEqProofs [-BitVec.toNat_and, -BitVec.toNat_or, qabv, qab2, qacr, qacu, *])) | ((with_reducible refine qaam ?_); (try simp only [qaas, qaad, qaaj])) | ((with_reducible refine qaae rfl (fun h => ?_) (fun h => ?_)) <;> have h' := h <;> (try simp at h') <;> (try subst h')) | ((with_reducible refine qaaa (fun h => ?_) (fun h => ?_)) <;> have h' := h <;> (try simp at h') <;> (try subst h') <;> simp -implicitDefEqProofs [-BitVec.toNat_and, -BitVec.toNat_or, qabv, qab2, qacr, qacu, *]) | ((with_reducible refine qaai ?_ ?_); (first | omega | (unfold maxLen; omega)); simp -implicitDefEqProofs [-BitVec.toNat_and, -BitVec.toNat_or, qabv, qab2, qacr, qacu, *]) | ((first | refine qacb (qad7 p _ _ _ l _ _ _ _ (by simp)) ⟨rfl, rfl, trivial⟩ ⟨rfl, rfl, trivial⟩ ?_ | refine qabd (hbt.out _) ?_); simp -implicitDefEqProofs [-BitVec.toNat_and, -BitVec.toNat_or, qabv, qab2, qacr, qacu, *]) | (with_reducible first | refine zM hm ?_ | refine zN hm ?_ | refine zO hm ?_ | refine zP hm ?_) | fail)
     refine qadh ?_ (loopL.out _ _ hf.out)
     repeat' (first | ((with_reducible refine qaar [] hm ?_ ?_ ?_ ?_) <;> (try simp only [zT, puth, Nat.reduceEqDiff, reduceIte, Nat.reduceAdd])) | (with_reducible first | refine za ?_ ?_ | refine zb ?_ ?_ ?_ ?_ | refine zc ?_ ?_ ?_ ?_ | refine zd ?_ ?_ ?_ ?_ | refine qaap ?_ ?_ | refine qaan ?_ ?_) | (with_reducible first | exact qaak | exact qaao | exact qaat | exact qaau | exact Co.refl _ | exact CoL.refl _ | exact CoLL.refl _) | ((with_reducible first | refine zga ?_ | refine zgb ?_); rfl) | ((with_reducible refine zgc ?_); (first | (with_reducible rfl) | rfl | (simp; done))) | ((with_reducible first | refine zgd ?_ | refine zge ?_); (first | omega | (simp; done))) | (refine qaaw ⟨?_, ?_⟩ ?_ <;> omega) | (exact Co.refl _) | (exact CoL.refl _) | (exact CoLL.refl _) | (refine qaaz ?_; omega) | (refine qaay ?_; first | omega | (simp_all; done)) | (with_reducible first | refine qaav ?_ ?_ | refine qaaq ?_ ?_) | fail)
  ·have hh0 := of_decide_eq_true kh
   have hS2 := qal6 hp hh0 hok1.2
   have hE : T = ⟨y.must ||| bitB x.head, y.may ||| bitB x.head, y.least + qahc p x.head, y.most + qahc p x.head, true⟩ := by rw [← hT]; unfold qbbi; rw [if_pos hh0]
   have hM : y.must ||| bitB x.head = T.must := by rw [hE]
   have hY : y.may ||| bitB x.head = T.may := by rw [hE]
   have hgeq : ∀ o, 0 ≤ o → o < 64 → (T.must &&& bitB o == 0) = (o != x.head && (y.must &&& bitB o == 0)) := fun o h0 h1 => by rw [← hM]; exact gone_eq ⟨hh0, by omega⟩ ⟨h0, h1⟩ y.must
   have hLe : IntKind.i64.wrap (y.least + qahc p x.head) = T.least := by rw [hE]; exact qaa2 (by omega) (by omega)
   have hMo : IntKind.i64.wrap (y.most + qahc p x.head) = T.most := by rw [hE]; exact qaa2 (by omega) (by omega)
   have hlt : x.head.toNat < p.heads.length := by omega
   have hsz : headW p x.head = p.heads[x.head.toNat].w := by unfold headW; rw [List.getElem?_eq_getElem hlt]; rfl
   have hcs := fun q => qbbq p.heads[x.head.toNat].w q
   rw [← hsz] at hcs
   unfold qaiz at hcs
   rw [show qapu (headW p x.head) = qahc p x.head from rfl] at hcs
   generalize qahc p x.head = N at hLe hMo hcs
   have hbh := fun q => qbb9 x.head hh0 (by omega) q
   generalize hq1 : p.heads[x.head.toNat] = hd at hsz
   have hsz2 : hd.w = headW p x.head := hsz.symm
   generalize headW p x.head = ws at hcs hsz2
   clear hE hT hS2 hsz
   replace hcs := Lib.hid hcs
   replace hbh := Lib.hid hbh
   replace hgeq := Lib.hid hgeq
   replace hok2 := Lib.hid hok2
   cases kc : decide (0 < (x.cases_.length : Int)) <;> rw [kc] at kn
   ·have hf := hG.out _ false (by rw [kh, Bool.true_and]) (by rw [kn]; rfl)
    simp only [qabx] at hf
    replace hf := Lib.hid hf
    repeat' (first | (with_reducible first | refine zA ?_ | refine qaac ?_ | refine qaab ?_ | refine zK ?_) | ((with_reducible first | refine qaal ?_ | refine qaah (by rw [hP]; exact qaa4) ?_); (try rw [hP]); simp -implicitDefEqProofs [-BitVec.toNat_and, -BitVec.toNat_or, qabv, qab2, qacr, qacu, *]) | ((with_reducible first | refine qaaf ?_ | refine qaag ?_); (try simp -implicitDefEqProofs [-BitVec.toNat_and, -BitVec.toNat_or, qabv, qab2, qacr, qacu, *])) | ((with_reducible refine qaam ?_); (try simp only [qaas, qaad, qaaj])) | ((with_reducible refine qaae rfl (fun h => ?_) (fun h => ?_)) <;> have h' := h <;> (try simp at h') <;> (try subst h')) | ((with_reducible refine qaaa (fun h => ?_) (fun h => ?_)) <;> have h' := h <;> (try simp at h') <;> (try subst h') <;> simp -implicitDefEqProofs [-BitVec.toNat_and, -BitVec.toNat_or, qabv, qab2, qacr, qacu, *]) | ((with_reducible refine qaai ?_ ?_); (first | omega | (unfold maxLen; omega)); simp -implicitDefEqProofs [-BitVec.toNat_and, -BitVec.toNat_or, qabv, qab2, qacr, qacu, *]) | ((first | refine qacb (qad7 p _ _ _ l _ _ _ _ (by simp)) ⟨rfl, rfl, trivial⟩ ⟨rfl, rfl, trivial⟩ ?_ | refine qabd (hcs.out _) ?_ | refine qabd (hbh.out _) ?_); simp -implicitDefEqProofs [-BitVec.toNat_and, -BitVec.toNat_or, qabv, qab2, qacr, qacu, *]) | (with_reducible first | refine zM hm ?_ | refine zN hm ?_ | refine zO hm ?_ | refine zP hm ?_) | fail)
    refine qadh ?_ (loopL.out _ _ hf.out)
    repeat' (first | ((with_reducible refine qaar [] hm ?_ ?_ ?_ ?_) <;> (try simp only [zT, puth, Nat.reduceEqDiff, reduceIte, Nat.reduceAdd])) | (with_reducible first | refine za ?_ ?_ | refine zb ?_ ?_ ?_ ?_ | refine zc ?_ ?_ ?_ ?_ | refine zd ?_ ?_ ?_ ?_ | refine qaap ?_ ?_ | refine qaan ?_ ?_) | (with_reducible first | exact qaak | exact qaao | exact qaat | exact qaau | exact Co.refl _ | exact CoL.refl _ | exact CoLL.refl _) | ((with_reducible first | refine zga ?_ | refine zgb ?_); rfl) | ((with_reducible refine zgc ?_); (first | (with_reducible rfl) | rfl | (simp; done))) | ((with_reducible first | refine zgd ?_ | refine zge ?_); (first | omega | (simp; done))) | (refine qaaw ⟨?_, ?_⟩ ?_ <;> omega) | (exact Co.refl _) | (exact CoL.refl _) | (exact CoLL.refl _) | (refine qaaz ?_; omega) | (refine qaay ?_; first | omega | (simp_all; done)) | (with_reducible first | refine qaav ?_ ?_ | refine qaaq ?_ ?_) | fail)
   ·cases ko : decide (0 ≤ x.on.h)
    ·have hf := hG.out _ false (by rw [kh, Bool.true_and]) (by rw [kn, ko]; rfl)
     simp only [qabx] at hf
     replace hf := Lib.hid hf
     repeat' (first | (with_reducible first | refine zA ?_ | refine qaac ?_ | refine qaab ?_ | refine zK ?_) | ((with_reducible first | refine qaal ?_ | refine qaah (by rw [hP]; exact qaa4) ?_); (try rw [hP]); simp -implicitDefEqProofs [-BitVec.toNat_and, -BitVec.toNat_or, qabv, qab2, qacr, qacu, qabx, *]) | ((with_reducible first | refine qaaf ?_ | refine qaag ?_); (try simp -implicitDefEqProofs [-BitVec.toNat_and, -BitVec.toNat_or, qabv, qab2, qacr, qacu, qabx, *])) | ((with_reducible refine qaam ?_); (try simp only [qaas, qaad, qaaj])) | ((with_reducible refine qaae rfl (fun h => ?_) (fun h => ?_)) <;> have h' := h <;> (try simp at h') <;> (try subst h')) | ((with_reducible refine qaaa (fun h => ?_) (fun h => ?_)) <;> have h' := h <;> (try simp at h') <;> (try subst h') <;> simp -implicitDefEqProofs [-BitVec.toNat_and, -BitVec.toNat_or, qabv, qab2, qacr, qacu, qabx, *]) | ((with_reducible refine qaai ?_ ?_); (first | omega | (unfold maxLen; omega)); simp -implicitDefEqProofs [-BitVec.toNat_and, -BitVec.toNat_or, qabv, qab2, qacr, qacu, qabx, *]) | ((first | refine qacb (qad7 p _ _ _ l _ _ _ _ (by simp)) ⟨rfl, rfl, trivial⟩ ⟨rfl, rfl, trivial⟩ ?_ | refine qabd (hcs.out _) ?_ | refine qabd (hbh.out _) ?_); simp -implicitDefEqProofs [-BitVec.toNat_and, -BitVec.toNat_or, qabv, qab2, qacr, qacu, qabx, *]) | (with_reducible first | refine zM hm ?_ | refine zN hm ?_ | refine zO hm ?_ | refine zP hm ?_) | fail)
     refine qadh ?_ (loopL.out _ _ hf.out)
     repeat' (first | ((with_reducible refine qaar [] hm ?_ ?_ ?_ ?_) <;> (try simp only [zT, puth, Nat.reduceEqDiff, reduceIte, Nat.reduceAdd])) | (with_reducible first | refine za ?_ ?_ | refine zb ?_ ?_ ?_ ?_ | refine zc ?_ ?_ ?_ ?_ | refine zd ?_ ?_ ?_ ?_ | refine qaap ?_ ?_ | refine qaan ?_ ?_) | (with_reducible first | exact qaak | exact qaao | exact qaat | exact qaau | exact Co.refl _ | exact CoL.refl _ | exact CoLL.refl _) | ((with_reducible first | refine zga ?_ | refine zgb ?_); rfl) | ((with_reducible refine zgc ?_); (first | (with_reducible rfl) | rfl | (simp; done))) | ((with_reducible first | refine zgd ?_ | refine zge ?_); (first | omega | (simp; done))) | (refine qaaw ⟨?_, ?_⟩ ?_ <;> omega) | (exact Co.refl _) | (exact CoL.refl _) | (exact CoLL.refl _) | (refine qaaz ?_; omega) | (refine qaay ?_; first | omega | (simp_all; done)) | (with_reducible first | refine qaav ?_ ?_ | refine qaaq ?_ ?_) | fail)
    ·have hoh := hok2.out (by have := of_decide_eq_true kc; omega)
     have ho0 := of_decide_eq_true ko
     have hf := hG.out _ _ (by rw [kh, Bool.true_and]) (by rw [kn, ko, Bool.true_and, Bool.true_and, ← hgeq.out _ ho0 (by omega)])
     have hbt := fun q => qbb9 x.on.h ho0 (by omega) q
     replace hf := Lib.hid hf
     replace hbt := Lib.hid hbt
     repeat' (first | (with_reducible first | refine zA ?_ | refine qaac ?_ | refine qaab ?_ | refine zK ?_) | ((with_reducible first | refine qaal ?_ | refine qaah (by rw [hP]; exact qaa4) ?_); (try rw [hP]); simp -implicitDefEqProofs [-BitVec.toNat_and, -BitVec.toNat_or, qabv, qab2, qacr, qacu, *]) | ((with_reducible first | refine qaaf ?_ | refine qaag ?_); (try simp -implicitDefEqProofs [-BitVec.toNat_and, -BitVec.toNat_or, qabv, qab2, qacr, qacu, *])) | ((with_reducible refine qaam ?_); (try simp only [qaas, qaad, qaaj])) | ((with_reducible refine qaae rfl (fun h => ?_) (fun h => ?_)) <;> have h' := h <;> (try simp at h') <;> (try subst h')) | ((with_reducible refine qaaa (fun h => ?_) (fun h => ?_)) <;> have h' := h <;> (try simp at h') <;> (try subst h') <;> simp -implicitDefEqProofs [-BitVec.toNat_and, -BitVec.toNat_or, qabv, qab2, qacr, qacu, *]) | ((with_reducible refine qaai ?_ ?_); (first | omega | (unfold maxLen; omega)); simp -implicitDefEqProofs [-BitVec.toNat_and, -BitVec.toNat_or, qabv, qab2, qacr, qacu, *]) | ((first | refine qacb (qad7 p _ _ _ l _ _ _ _ (by simp)) ⟨rfl, rfl, trivial⟩ ⟨rfl, rfl, trivial⟩ ?_ | refine qabd (hcs.out _) ?_ | refine qabd (hbh.out _) ?_ | refine qabd (hbt.out _) ?_); simp -implicitDefEqProofs [-BitVec.toNat_and, -BitVec.toNat_or, qabv, qab2, qacr, qacu, *]) | (with_reducible first | refine zM hm ?_ | refine zN hm ?_ | refine zO hm ?_ | refine zP hm ?_) | fail)
     refine qadh ?_ (loopL.out _ _ hf.out)
     repeat' (first | ((with_reducible refine qaar [] hm ?_ ?_ ?_ ?_) <;> (try simp only [zT, puth, Nat.reduceEqDiff, reduceIte, Nat.reduceAdd])) | (with_reducible first | refine za ?_ ?_ | refine zb ?_ ?_ ?_ ?_ | refine zc ?_ ?_ ?_ ?_ | refine zd ?_ ?_ ?_ ?_ | refine qaap ?_ ?_ | refine qaan ?_ ?_) | (with_reducible first | exact qaak | exact qaao | exact qaat | exact qaau | exact Co.refl _ | exact CoL.refl _ | exact CoLL.refl _) | ((with_reducible first | refine zga ?_ | refine zgb ?_); rfl) | ((with_reducible refine zgc ?_); (first | (with_reducible rfl) | rfl | (simp; done))) | ((with_reducible first | refine zgd ?_ | refine zge ?_); (first | omega | (simp; done))) | (refine qaaw ⟨?_, ?_⟩ ?_ <;> omega) | (exact Co.refl _) | (exact CoL.refl _) | (exact CoLL.refl _) | (refine qaaz ?_; omega) | (refine qaay ?_; first | omega | (simp_all; done)) | (with_reducible first | refine qaav ?_ ?_ | refine qaaq ?_ ?_) | fail)
end Go.Proofs.Ytnfjldobjgdiaaa
namespace Go.Proofs.Ytnfjldobjgdiaaa
set_option linter.all false
open Go.RowKit
attribute [local simp] qabs qabr qaa5 qabc qaa6 qabb qabp qabq qaa1 qab3 SOp.run SX.ev putd puts argS upds SOp.touch SSt.keep SSt.skip gets geth puth delh idOf SV.cells? setL qadd qade sbin eq0 eq1 eqL qadc qacd qace qaas qabt qaad qabu qab4 qaaj qaa3 FrzOk qabl qabf qabj qabk qaa7 qabe qab0 qabg qaa9 qabm qaa8 frzS frzH frz frz1 frz0 SlotsM ObjsM ObjM rn ren ren1 ren0 qab9 qaay qaaz qab8 qab1 qacq qacp CoL qabn qacs dels adds idsH qacf
attribute [local simp] qad0 refc qafc qae1 qacn opc actc tabc qaeg qac1 nums setc
theorem qagy {X : Cx} {sl : Sl} {hp : Hp} {t u nx id n : Nat} {ty : TypeId} {cs ds : List SV} {v v' r : SV} (hm : X.m = 0) (hne : t ≠ u) (hv : gets sl t = v') (hvv : Co v' v) (hN : NoN v) (hu : gets sl u = .ptr id 0) (h : geth hp id = some (.cells ty cs)) (ha : qahj X.P ty = some true) (hn : qack X.P ty = some n) (hl : ds.length = n) (e : CoL cs ds) (hr : r = .tup [v, .agg ds]) (hd : ∀ σ, ds.map (Go.Proofs.Ytnfjldobjgdiaaa.ren σ) = ds) : QFun X [.tmp t, .cell u ty] 0 r [] .ret ⟨sl, hp, nx⟩ := by
 subst hr hl
 have hw : Wk X ⟨sl, hp, nx⟩ ⟨[(t, v), (u, .ptr 0 0)], [(0, .cells ty ds)], 1⟩ := by
  refine qaar [(0, id)] hm ⟨?_, ?_, trivial⟩ ⟨⟨_, h, rfl, by rw [hd]; exact e⟩, trivial⟩ rfl (by simp)
  ·rw [hv, hN]; exact hvv
  ·rw [hu]; exact Co.refl _
 refine ⟨_, hw, ?_, trivial, by simp⟩
 simp [qa85, resL, resV, one_, gets, ha, hn, SOp.run, SX.ev, geth, hne]
def wcR (p : PlanD) (R n : Nat) (a b : Int) : List SV := qac1 p ++ [.own R n, .int .i64 a, .int .i64 b]
attribute [local simp] wcR
theorem qarl (p : PlanD) (hp : PlOk p) (hk : qaiy p) (i : Nat) (hi : i < p.states.length) (a b : Int) (W R q : Nat) (hWR : W ≠ R) (hW : W < q) (hR : R < q) :
  SCalls Try.prog 57 [.ptr W 0, .int .i64 i] [(W, .cells 103 (wcR p R (p.states.length + 1) a b)), (R, qahf (qadj p i))] q (.tup []) [(W, .cells 103 (wcR p R (p.states.length + 1) (orF (a, b) (refC p.states[i] (setAt p i), 3000 + i)).1 (orF (a, b) (refC p.states[i] (setAt p i), 3000 + i)).2)), (R, qahf (qadj p (i + 1)))] := by
 have e : setAt p i = (qadj p i).getD i qad3 := qaq0 hp (by omega) (Nat.le_refl _)
 rw [e, qafp p hi]
 exact qagp (qbb5 p hp hk i hi a b (qadj p i) (qadf p i) (qa9b hp (by omega) (by omega))) W R q hWR hW hR rfl rfl rfl rfl
theorem qama (p : PlanD) : orF (0, 0) (qae5 p) = qae5 p := by
 by_cases h : (qae5 p).1 = 0
 ·have : qae5 p = (0, 0) := qaij h
  rw [this]; rfl
 ·unfold orF; simp [h]
theorem qbch (p : PlanD) : (List.replicate (p.states.length + 1) [SV.int .u64 0, .int .u64 0, .int .i64 0, .int .i64 0, .bool false]).set 0 [SV.int .u64 0, .int .u64 0, .int .i64 0, .int .i64 0, .bool true] = (qadj p 0).map setc := by
 unfold qadj
 rw [List.map_set, List.map_replicate]; rfl
set_option maxHeartbeats 4000000 in
theorem walk_s (p : PlanD) (hs : SmallP p) (hk : qaiy p) (q : Nat) : SCalls Try.prog 22 [.agg (qac1 p)] [] q (.tup [.view 5 ((qapm p).map setc), .agg [.int .i64 (qalx p).1, .int .i64 (qalx p).2]]) [] := by
 refine qabw ?_ (fun _ => rfl) (fun _ => rfl) rfl q
 refine qaba (N := 52) Try.func22 rfl rfl (by kernel_rfl) qarf (by simp) (by repeat' (first | exact trivial | refine And.intro ?_ ?_ | rfl | decide | exact PureR.ren _)) (by repeat' (first | exact trivial | refine And.intro ?_ ?_ | rfl | decide | exact PureR.ren _)) ?_
 rintro X hP hN hm
 unfold c_walk
 have hc := fun q => qbcq p hs hk q
 have hns := hs.states
 by_cases h0 : (qafr p).1 = 0
 ·have hp := pok_of h0
  have hF : qalx p = qae5 p := by unfold qalx; rw [if_neg (by simpa using h0)]
  have hL : qapm p = if (qae5 p).1 ≠ 0 then [] else qai5 p := by unfold qapm; rw [hF]
  rw [hF, hL]
  have hF0 : qae5 p = orF (0, 0) (rowF (fun i s => refC s (setAt p i)) 3000 0 p.states) := (qama p).symm
  have hz0 : (qae5 p).1 = 0 → qae5 p = (0, 0) := fun h => qaij h
  generalize qae5 p = F at hF0 hz0
  replace hz0 := Lib.hid hz0
  have kc : ((qafr p).1 != 0) = false := by simpa using h0
  generalize qafr p = C at hc kc
  have hn1 : p.states.length ≤ 8 := hp.states.2
  have wn : IntKind.i64.wrap ((p.states.length : Int) + 1) = (p.states.length : Int) + 1 := qaa2 (by omega) (by omega)
  have hmx : p.states.length + 1 ≤ maxLen := by unfold maxLen; omega
  have hset0 := qbch p
  replace hF0 := Lib.hid hF0
  replace hc := Lib.hid hc
  replace hset0 := Lib.hid hset0
  clear hF hL h0
  repeat' (first | (with_reducible first | refine zA ?_ | refine qaac ?_ | refine qaab ?_ | refine zK ?_) | ((with_reducible first | refine qaal ?_ | refine qaah (by rw [hP]; exact qaa4) ?_); (try rw [hP]); simp -implicitDefEqProofs [*]) | ((with_reducible first | refine qaaf ?_ | refine qaag ?_); (try simp -implicitDefEqProofs [*])) | ((with_reducible refine qaam ?_); (try simp only [qaas, qaad, qaaj])) | ((with_reducible refine qaae rfl (fun h => ?_) (fun h => ?_)) <;> have h' := h <;> (try simp at h') <;> (try subst h')) | ((with_reducible refine qaaa (fun h => ?_) (fun h => ?_)) <;> have h' := h <;> (try simp at h') <;> (try subst h') <;> simp -implicitDefEqProofs [*]) | ((with_reducible refine qaai ?_ ?_); (first | omega | (unfold maxLen; omega)); simp -implicitDefEqProofs [*]) | (refine qabd (hc.out _) ?_; simp -implicitDefEqProofs [*]) | (with_reducible first | refine zM hm ?_ | refine zN hm ?_ | refine zO hm ?_ | refine zP hm ?_) | fail)
  refine qaa0 (qabi (fun s (z : Nat × Int × Int) => s.turn [(30, .int .i64 z.1)] [(24, .cells 103 (wcR p 22 (p.states.length + 1) z.2.1 z.2.2)), (22, qahf (qadj p z.1))]) (fun z => z.1 ≤ p.states.length ∧ F = orF (z.2.1, z.2.2) (rowF (fun i s => refC s (setAt p i)) 3000 z.1 (p.states.drop z.1))) (fun z => p.states.length - z.1) (0, 0, 0) ?_ ⟨by simp, hF0.out⟩ ?_)
  ·repeat' (first | ((with_reducible refine qaar [] hm ?_ ?_ ?_ ?_) <;> (try simp only [zT, puth, Nat.reduceEqDiff, reduceIte, Nat.reduceAdd])) | (with_reducible first | refine za ?_ ?_ | refine zb ?_ ?_ ?_ ?_ | refine zc ?_ ?_ ?_ ?_ | refine zd ?_ ?_ ?_ ?_ | refine qaap ?_ ?_ | refine qaan ?_ ?_) | (with_reducible first | exact qaak | exact qaao | exact qaat | exact qaau | exact Co.refl _ | exact CoL.refl _ | exact CoLL.refl _) | ((with_reducible first | refine zga ?_ | refine zgb ?_); rfl) | ((with_reducible refine zgc ?_); (first | (with_reducible rfl) | rfl | (simp; done))) | ((with_reducible first | refine zgd ?_ | refine zge ?_); (first | omega | (simp; done))) | (refine qaaw ⟨?_, ?_⟩ ?_ <;> omega) | (exact Co.refl _) | (exact CoL.refl _) | (exact CoLL.refl _) | (refine qaaz ?_; omega) | (refine qaay ?_; first | omega | (simp_all; done)) | (with_reducible first | refine qaav ?_ ?_ | refine qaaq ?_ ?_) | fail)
   all_goals (exact hset0.out)
  rintro J hJ ⟨i, e, g⟩ ⟨h1, h2⟩
  unfold qaqn
  simp only [zT, puth, Nat.reduceEqDiff, reduceIte, Nat.reduceAdd] at h1 h2 ⊢
  rcases Nat.lt_or_ge i p.states.length with hi | hi
  ·rw [qadl _ _ hi, qaeh] at h2
   have hcs := fun q h1 h2 => qarl p hp hk i hi e g 24 22 q (by decide) h1 h2
   generalize orF (e, g) (refC p.states[i] (setAt p i), 3000 + (i : Int)) = G at h2 hcs
   have wi : IntKind.i64.wrap ((i : Int) + 1) = (i : Int) + 1 := qaa2 (by omega) (by omega)
   replace h2 := Lib.hid h2
   replace hcs := Lib.hid hcs
   replace hp := Lib.hid hp
   repeat' (first | (with_reducible first | refine zA ?_ | refine qaac ?_ | refine qaab ?_ | refine zK ?_) | ((with_reducible first | refine qaal ?_ | refine qaah (by rw [hP]; exact qaa4) ?_); (try rw [hP]); simp -implicitDefEqProofs [*]) | ((with_reducible first | refine qaaf ?_ | refine qaag ?_); (try simp -implicitDefEqProofs [*])) | ((with_reducible refine qaam ?_); (try simp only [qaas, qaad, qaaj])) | ((with_reducible refine qaae rfl (fun h => ?_) (fun h => ?_)) <;> have h' := h <;> (try simp at h') <;> (try subst h')) | ((with_reducible refine qaaa (fun h => ?_) (fun h => ?_)) <;> have h' := h <;> (try simp at h') <;> (try subst h') <;> simp -implicitDefEqProofs [*]) | ((with_reducible refine qaai ?_ ?_); (first | omega | (unfold maxLen; omega)); simp -implicitDefEqProofs [*]) | (refine qacb (hcs.out _ (by simp) (by simp)) ⟨rfl, rfl, trivial⟩ ⟨rfl, rfl, trivial⟩ ?_; simp -implicitDefEqProofs [*]) | (with_reducible first | refine zM hm ?_ | refine zN hm ?_ | refine zO hm ?_ | refine zP hm ?_) | ((with_reducible refine qaar [] hm ?_ ?_ ?_ ?_) <;> (try simp only [zT, puth, Nat.reduceEqDiff, reduceIte, Nat.reduceAdd])) | (with_reducible first | refine za ?_ ?_ | refine zb ?_ ?_ ?_ ?_ | refine zc ?_ ?_ ?_ ?_ | refine zd ?_ ?_ ?_ ?_ | refine qaap ?_ ?_ | refine qaan ?_ ?_) | (with_reducible first | exact qaak | exact qaao | exact qaat | exact qaau | exact Co.refl _ | exact CoL.refl _ | exact CoLL.refl _) | ((with_reducible first | refine zga ?_ | refine zgb ?_); rfl) | ((with_reducible refine zgc ?_); (first | (with_reducible rfl) | rfl | (simp; done))) | ((with_reducible first | refine zgd ?_ | refine zge ?_); (first | omega | (simp; done))) | (refine qaaw ⟨?_, ?_⟩ ?_ <;> omega) | (exact Co.refl _) | (exact CoL.refl _) | (exact CoLL.refl _) | (refine qaaz ?_; omega) | (refine qaay ?_; first | omega | (simp_all; done)) | (with_reducible first | refine qaav ?_ ?_ | refine qaaq ?_ ?_) | ((refine qaax hJ (i + 1, ?_, ?_) ?_ ?_ ?_; rotate_left 2; (with_reducible refine qaar [] hm ?_ ?_ ?_ ?_) <;> (try simp only [zT, puth, Nat.reduceEqDiff, reduceIte, Nat.reduceAdd]))) | fail)
   all_goals (try dsimp only)
   all_goals (exact ⟨by omega, h2.out⟩)
  ·obtain rfl : i = p.states.length := by omega
   rw [List.drop_length] at h2
   have h3 : F = (e, g) := by rw [h2]; exact qact _ rfl
   subst h3
   have hlen : ((qadj p p.states.length).map setc).length = p.states.length + 1 := by rw [List.length_map, qadf]
   clear h2 hF0
   replace hp := Lib.hid hp
   by_cases he : e = 0
   ·subst he
    obtain rfl : g = 0 := (Prod.mk.inj (hz0.out rfl)).2
    repeat' (first | ((with_reducible refine qada (c := .seq (.reg false qaj6 [2, 3]) .ret) ?_)) | (with_reducible first | refine zA ?_ | refine qaac ?_ | refine qaab ?_ | refine zK ?_) | ((with_reducible first | refine qaal ?_ | refine qaah (by rw [hP]; exact qaa4) ?_); (try rw [hP]); simp -implicitDefEqProofs [*]) | ((with_reducible first | refine qaaf ?_ | refine qaag ?_); (try simp -implicitDefEqProofs [*])) | ((with_reducible refine qaam ?_); (try simp only [qaas, qaad, qaaj])) | ((with_reducible refine qaae rfl (fun h => ?_) (fun h => ?_)) <;> have h' := h <;> (try simp at h') <;> (try subst h')) | ((with_reducible refine qaaa (fun h => ?_) (fun h => ?_)) <;> have h' := h <;> (try simp at h') <;> (try subst h') <;> simp -implicitDefEqProofs [*]) | ((with_reducible refine qaai ?_ ?_); (first | omega | (unfold maxLen; omega)); simp -implicitDefEqProofs [*]) | (with_reducible first | refine zM hm ?_ | refine zN hm ?_ | refine zO hm ?_ | refine zP hm ?_) | fail)
    constructor
    refine qadw [22] ?_ ?_
    ·simp only [FrzOk, geth, Nat.reduceEqDiff, reduceIte, qad6, and_true]
    have htk : ((qadj p p.states.length).map setc).take (p.states.length + 1) = (qadj p p.states.length).map setc := List.take_of_length_le (by rw [hlen]; exact Nat.le_refl _)
    simp -implicitDefEqProofs [htk, hlen, Nat.le_refl]
    repeat' (first | (with_reducible first | refine zA ?_ | refine qaac ?_ | refine qaab ?_ | refine zK ?_) | ((with_reducible first | refine qaal ?_ | refine qaah (by rw [hP]; exact qaa4) ?_); (try rw [hP]); simp -implicitDefEqProofs [*]) | ((with_reducible first | refine qaaf ?_ | refine qaag ?_); (try simp -implicitDefEqProofs [*])) | ((with_reducible refine qaam ?_); (try simp only [qaas, qaad, qaaj])) | ((with_reducible refine qaae rfl (fun h => ?_) (fun h => ?_)) <;> have h' := h <;> (try simp at h') <;> (try subst h')) | ((with_reducible refine qaaa (fun h => ?_) (fun h => ?_)) <;> have h' := h <;> (try simp at h') <;> (try subst h') <;> simp -implicitDefEqProofs [*]) | ((with_reducible refine qaai ?_ ?_); (first | omega | (unfold maxLen; omega)); simp -implicitDefEqProofs [*]) | (with_reducible first | refine zM hm ?_ | refine zN hm ?_ | refine zO hm ?_ | refine zP hm ?_) | (refine qagy hm (by decide) rfl (Co.refl _) (qaeb _ _) rfl rfl (by rw [hP]; exact qaby) (by rw [hP]; exact qabo) rfl (CoL.refl _) ?_ (fun σ => rfl)) | fail)
    all_goals rfl
   ·have ke : (e != 0) = true := by simpa using he
    repeat' (first | (with_reducible first | refine zA ?_ | refine qaac ?_ | refine qaab ?_ | refine zK ?_) | ((with_reducible first | refine qaal ?_ | refine qaah (by rw [hP]; exact qaa4) ?_); (try rw [hP]); simp -implicitDefEqProofs [*]) | ((with_reducible first | refine qaaf ?_ | refine qaag ?_); (try simp -implicitDefEqProofs [*])) | ((with_reducible refine qaam ?_); (try simp only [qaas, qaad, qaaj])) | ((with_reducible refine qaae rfl (fun h => ?_) (fun h => ?_)) <;> have h' := h <;> (try simp at h') <;> (try subst h')) | ((with_reducible refine qaaa (fun h => ?_) (fun h => ?_)) <;> have h' := h <;> (try simp at h') <;> (try subst h') <;> simp -implicitDefEqProofs [*]) | ((with_reducible refine qaai ?_ ?_); (first | omega | (unfold maxLen; omega)); simp -implicitDefEqProofs [*]) | (with_reducible first | refine zM hm ?_ | refine zN hm ?_ | refine zO hm ?_ | refine zP hm ?_) | (refine qagy hm (by decide) rfl (Co.nilsl 5) (qaeb _ _) rfl rfl (by rw [hP]; exact qaby) (by rw [hP]; exact qabo) rfl (CoL.refl _) ?_ (fun σ => rfl)) | fail)
    all_goals rfl
 ·have hF : qalx p = qafr p := by unfold qalx; rw [if_pos h0]
  have hL : qapm p = [] := by unfold qapm; rw [hF, if_pos h0]
  rw [hF, hL]
  have kc : ((qafr p).1 != 0) = true := by simpa using h0
  generalize qafr p = C at hc kc
  replace hc := Lib.hid hc
  clear hF hL h0
  repeat' (first | (with_reducible first | refine zA ?_ | refine qaac ?_ | refine qaab ?_ | refine zK ?_) | ((with_reducible first | refine qaal ?_ | refine qaah (by rw [hP]; exact qaa4) ?_); (try rw [hP]); simp -implicitDefEqProofs [*]) | ((with_reducible first | refine qaaf ?_ | refine qaag ?_); (try simp -implicitDefEqProofs [*])) | ((with_reducible refine qaam ?_); (try simp only [qaas, qaad, qaaj])) | ((with_reducible refine qaae rfl (fun h => ?_) (fun h => ?_)) <;> have h' := h <;> (try simp at h') <;> (try subst h')) | ((with_reducible refine qaaa (fun h => ?_) (fun h => ?_)) <;> have h' := h <;> (try simp at h') <;> (try subst h') <;> simp -implicitDefEqProofs [*]) | ((with_reducible refine qaai ?_ ?_); (first | omega | (unfold maxLen; omega)); simp -implicitDefEqProofs [*]) | (refine qabd (hc.out _) ?_; simp -implicitDefEqProofs [*]) | (with_reducible first | refine zM hm ?_ | refine zN hm ?_ | refine zO hm ?_ | refine zP hm ?_) | (refine qagy hm (by decide) rfl (Co.nilsl 5) (qaeb _ _) rfl rfl (by rw [hP]; exact qaby) (by rw [hP]; exact qabo) rfl (CoL.refl _) rfl (fun σ => rfl)) | fail)
end Go.Proofs.Ytnfjldobjgdiaaa
namespace Go.Proofs.Ytnfjldobjgdiaaa
set_option linter.all false
open Go.RowKit
abbrev qat9 : List SOper := [Oa 3 (.box 29 (.t 0)), Oa 4 (.box 31 (.t 1)), Oa 6 (.mv (.c (.int .i64 0)))]
abbrev qat8 : List SOper := [Oa 7 (.mv (.c .nilsl))]
abbrev qat7 : List SOper := [Oa 8 (.faddr 0 (.t 4)), Oa 9 (.load (.t 8))]
abbrev qat6 : List SOper := [Oa 29 (.bin .eql (.t 9) (.c (.int .i64 (-3)))), Oa 28 (.mv (.t 29))]
abbrev qat5 : List SOper := [Oa 30 (.mkrow 3 1 1 [(.int .i64 0)] [(0, (.c (.int .i64 16)))]), Oa 7 (.mv (.t 30))]
abbrev qat4 : List SOper := [Oa 32 (.bin .eql (.t 9) (.c (.int .i64 (-1)))), Oa 31 (.mv (.t 32))]
abbrev qat3 : List SOper := [Oa 33 (.faddr 1 (.t 3)), Oa 34 (.load (.t 33)), Oa 7 (.mv (.t 34))]
abbrev qat2 : List SOper := [Oa 36 (.bin .eql (.t 9) (.c (.int .i64 (-2)))), Oa 35 (.mv (.t 36))]
abbrev qat1 : List SOper := [Oa 37 (.mv (.t 2)), Oa 7 (.mv (.t 37))]
abbrev qanx : List SOper := [Oa 10 (.faddr 0 (.t 4)), Oa 11 (.load (.t 10)), Oa 12 (.bin .geq (.t 11) (.c (.int .i64 0))), Oa 13 (.mv (.t 12)), Oe 14 (.faddr 0 (.t 4)) 13 true, Oe 15 (.load (.t 14)) 13 true, Oe 16 (.faddr 0 (.t 3)) 13 true, Oe 17 (.load (.t 16)) 13 true, Oe 18 (.len false (.t 17)) 13 true, Oe 19 (.bin .lss (.t 15) (.t 18)) 13 true, Oa 20 (.pick (.t 13) (.t 19) (.c (.bool false)))]
abbrev qanw : List SOper := [Oa 21 (.faddr 0 (.t 3)), Oa 22 (.load (.t 21)), Oa 23 (.faddr 0 (.t 4)), Oa 24 (.load (.t 23)), Oa 25 (.iaddr 1 (.t 22) (.t 24)), Oa 26 (.faddr 0 (.t 25)), Oa 27 (.load (.t 26)), Oa 7 (.mv (.t 27))]
abbrev qanv : List SOper := [Oa 38 (.faddr 1 (.t 4)), Oa 39 (.load (.t 38)), Oa 40 (.bin .lss (.t 39) (.c (.int .i64 0))), Oa 41 (.mv (.t 40)), Oe 42 (.faddr 1 (.t 4)) 41 false, Oe 43 (.load (.t 42)) 41 false, Oe 44 (.mv (.t 7)) 41 false, Oe 45 (.len false (.t 44)) 41 false, Oe 46 (.bin .geq (.t 43) (.t 45)) 41 false, Oa 47 (.pick (.t 41) (.c (.bool true)) (.t 46))]
abbrev qanu : List SOper := [Oa 6 (.mv (.c (.int .i64 0)))]
abbrev qant : List SOper := [Oa 48 (.mv (.t 7)), Oa 49 (.faddr 1 (.t 4)), Oa 50 (.load (.t 49)), Oa 51 (.iaddr 1 (.t 48) (.t 50)), Oa 52 (.load (.t 51)), Oa 6 (.mv (.t 52))]
def c_rwidth : SCode := (.seq (.reg false qat9 [2, 3, 4]) (.seq (.reg false qat8 [2, 3, 4, 7]) (.seq (.seq (.reg false qat7 [2, 3, 4, 7, 9]) (.block 0 (.seq (.reg false qat6 [2, 3, 4, 7, 9, 28]) (.cond (.t 28) (.reg false qat5 [4, 7]) (.seq (.reg false qat4 [2, 3, 4, 7, 9, 31]) (.cond (.t 31) (.reg false qat3 [4, 7]) (.seq (.reg false qat2 [2, 3, 4, 7, 35]) (.cond (.t 35) (.reg false qat1 [4, 7]) (.seq (.reg false qanx [3, 4, 7, 20]) (.cond (.t 20) (.reg false qanw [4, 7]) .skip)))))))))) (.seq (.seq (.reg false qanv [4, 7, 47]) (.cond (.t 47) (.seq (.reg false qanu [6]) .ret) .skip)) (.seq (.reg false qant [6]) .ret)))))
theorem qaju : comp Try.prog 53 ((Try.f10.body).getD .skip) = some c_rwidth.erase := by kernel_rfl
abbrev qau0 : List SOper := [Oa 2 (.mv (.c (.int .i64 0)))]
abbrev qauz : List SOper := [Oa 3 (.mv (.t 0)), Oa 4 (.bin .lss (.t 3) (.c (.int .i64 1))), Oa 5 (.mv (.t 4)), Oe 6 (.mv (.t 0)) 5 false, Oe 7 (.bin .gtr (.t 6) (.c (.int .i64 13))) 5 false, Oa 8 (.pick (.t 5) (.c (.bool true)) (.t 7))]
abbrev qauy : List SOper := [Oa 2 (.mv (.c (.int .i64 (-1))))]
abbrev qaux : List SOper := [Oa 9 (.mkrow 3 1 14 [(.int .i64 0)] [(0, (.c (.int .i64 0))), (1, (.c (.int .i64 0))), (2, (.c (.int .i64 0))), (3, (.c (.int .i64 2))), (4, (.c (.int .i64 2))), (5, (.c (.int .i64 2))), (6, (.c (.int .i64 2))), (7, (.c (.int .i64 2))), (8, (.c (.int .i64 2))), (9, (.c (.int .i64 2))), (10, (.c (.int .i64 2))), (11, (.c (.int .i64 2))), (12, (.c (.int .i64 2))), (13, (.c (.int .i64 1)))]), Oa 10 (.mv (.t 0)), Oa 11 (.iaddr 1 (.t 9) (.t 10)), Oa 12 (.load (.t 11)), Oa 2 (.mv (.t 12))]
def c_rtakes : SCode := (.seq (.reg false qau0 [0]) (.seq (.seq (.reg false qauz [0, 8]) (.cond (.t 8) (.seq (.reg false qauy [2]) .ret) .skip)) (.seq (.reg false qaux [2]) .ret)))
theorem qajv : comp Try.prog 13 ((Try.f15.body).getD .skip) = some c_rtakes.erase := by kernel_rfl
abbrev qa6n : List SOper := [Oa 3 (.box 29 (.t 0)), Oa 6 (.mv (.c (.int .i64 0)))]
abbrev qa6m : List SOper := [Oa 10 (.mv (.t 1)), Oa 11 (.len false (.t 10)), Oa 12 (.bin .gtr (.t 11) (.c (.int .i64 8)))]
abbrev qa6l : List SOper := [Oa 6 (.mv (.c (.int .i64 2)))]
abbrev qa6k : List SOper := [Oa 7 (.mv (.c (.int .i64 0)))]
abbrev qa6j : List SOper := [Oa 8 (.mv (.c (.int .i64 0)))]
abbrev qa6i : List SOper := [Oa 13 (.mv (.t 8)), Oa 14 (.mv (.t 1)), Oa 15 (.len false (.t 14)), Oa 16 (.bin .lss (.t 13) (.t 15))]
abbrev qa6h : List SOper := [Oa 19 (.mv (.t 1)), Oa 20 (.mv (.t 8)), Oa 21 (.iaddr 4 (.t 19) (.t 20)), Oa 22 (.faddr 0 (.t 21)), Oa 23 (.load (.t 22)), Oc 24 15 [(.t 23)], Oa 9 (.mv (.t 24))]
abbrev qa6g : List SOper := [Oa 25 (.mv (.t 9)), Oa 26 (.bin .lss (.t 25) (.c (.int .i64 0))), Oa 27 (.mv (.t 26)), Oe 28 (.mv (.t 9)) 27 false, Oe 29 (.mv (.t 7)) 27 false, Oe 30 (.bin .gtr (.t 28) (.t 29)) 27 false, Oa 31 (.pick (.t 27) (.c (.bool true)) (.t 30))]
abbrev qa6f : List SOper := [Oa 6 (.mv (.c (.int .i64 13)))]
abbrev qax8 : List SOper := [Oa 32 (.mv (.t 1)), Oa 33 (.mv (.t 8)), Od 34 (.iaddr 4 (.t 32) (.t 33)) 3, Od 35 (.faddr 0 (.t 34)) 7, Od 36 (.load (.t 35)) 15, Od 37 (.bin .eql (.t 36) (.c (.int .i64 2))) 31, Od 38 (.mv (.t 37)) 63, Of 39 (.loads 7 (.t 3)) 38 true 127, Of 40 (.mv (.t 1)) 38 true 127, Of 41 (.mv (.t 8)) 38 true 127, Of 42 (.iaddr 4 (.t 40) (.t 41)) 38 true 895, Of 43 (.faddr 1 (.t 42)) 38 true 1919, Of 44 (.loads 2 (.t 43)) 38 true 3967, Of 45 (.mv (.t 2)) 38 true 127, ⟨(some 46), .mv (.c .any), some ((.c (.fn (.func 10) [] [])), [(.t 39), (.t 44), (.t 45)]), (some (38, true)), 16383⟩, Of 47 (.bin .eql (.t 46) (.c (.int .i64 0))) 38 true 32767, Od 48 (.pick (.t 38) (.t 47) (.c (.bool false))) 65535]
abbrev qax7 : List SOper := [Oa 6 (.mv (.c (.int .i64 1)))]
abbrev qax6 : List SOper := [Oa 49 (.mv (.t 7)), Oa 50 (.mv (.t 9)), Oa 51 (.bin .sub (.t 49) (.t 50)), Oa 52 (.bin .add (.t 51) (.c (.int .i64 1))), Oa 7 (.mv (.t 52))]
abbrev qax5 : List SOper := [Oa 17 (.mv (.t 8)), Oa 18 (.bin .add (.t 17) (.c (.int .i64 1))), Oa 8 (.mv (.t 18))]
def qak1 : SCode := (.seq (.seq (.reg false qa6i [1, 2, 3, 7, 8, 16]) (.cond (.t 16) .skip (.exit 0))) (.seq (.block 1 (.seq (.reg false qa6h [1, 2, 3, 7, 8, 9]) (.seq (.seq (.reg false qa6g [1, 2, 3, 7, 8, 9, 31]) (.cond (.t 31) (.seq (.reg false qa6f [6]) .ret) .skip)) (.seq (.seq (.reg true qax8 [1, 2, 3, 7, 8, 9, 48]) (.cond (.t 48) (.seq (.reg false qax7 [6]) .ret) .skip)) (.reg false qax6 [1, 2, 3, 7, 8]))))) (.reg false qax5 [1, 2, 3, 7, 8])))
abbrev qax4 : List SOper := [Oa 53 (.mv (.t 7)), Oa 54 (.bin .neq (.t 53) (.c (.int .i64 1)))]
abbrev qax3 : List SOper := [Oa 6 (.mv (.c (.int .i64 13)))]
abbrev qax2 : List SOper := [Oa 6 (.mv (.c (.int .i64 0)))]
def c_rexpr : SCode := (.seq (.reg false qa6n [1, 2, 3]) (.seq (.seq (.reg false qa6m [1, 2, 3, 12]) (.cond (.t 12) (.seq (.reg false qa6l [6]) .ret) .skip)) (.seq (.reg false qa6k [1, 2, 3, 7]) (.seq (.seq (.reg false qa6j [1, 2, 3, 7, 8]) (.block 0 (.loop qak1))) (.seq (.seq (.reg false qax4 [54]) (.cond (.t 54) (.seq (.reg false qax3 [6]) .ret) .skip)) (.seq (.reg false qax2 [6]) .ret))))))
theorem qamt : comp Try.prog 55 ((Try.f73.body).getD .skip) = some c_rexpr.erase := by kernel_rfl
abbrev qa55 : List SOper := [Oa 2 (.box 29 (.t 0)), Oa 4 (.mv (.c (.bool false)))]
abbrev qa54 : List SOper := [Oa 5 (.mv (.t 1)), Oa 6 (.bin .geq (.t 5) (.c (.int .i64 0))), Oa 7 (.mv (.t 6)), Oe 8 (.mv (.t 1)) 7 true, Oe 9 (.faddr 0 (.t 2)) 7 true, Oe 10 (.load (.t 9)) 7 true, Oe 11 (.len false (.t 10)) 7 true, Oe 12 (.bin .lss (.t 8) (.t 11)) 7 true, Oa 13 (.pick (.t 7) (.t 12) (.c (.bool false))), Oa 4 (.mv (.t 13))]
def c_rhead : SCode := (.seq (.reg false qa55 [1, 2]) (.seq (.reg false qa54 [4]) .ret))
theorem qamr : comp Try.prog 14 ((Try.f46.body).getD .skip) = some c_rhead.erase := by kernel_rfl
abbrev qbat : List SOper := [Oa 2 (.box 29 (.t 0)), Oa 3 (.box 31 (.t 1)), Oa 4 (.mv (.c (.bool false)))]
abbrev qbas : List SOper := [Oa 5 (.faddr 0 (.t 3)), Oa 6 (.load (.t 5)), Oa 7 (.bin .geq (.t 6) (.c (.int .i64 (-1)))), Oa 8 (.mv (.t 7)), Oe 9 (.loads 7 (.t 2)) 8 true, Oe 10 (.loads 2 (.t 3)) 8 true, ⟨(some 11), .mv (.c .any), some ((.c (.fn (.func 10) [] [])), [(.t 9), (.t 10), (.c .nilsl)]), (some (8, true)), 0⟩, Oe 12 (.bin .gtr (.t 11) (.c (.int .i64 0))) 8 true, Oa 13 (.pick (.t 8) (.t 12) (.c (.bool false))), Oa 4 (.mv (.t 13))]
def c_rmay : SCode := (.seq (.reg false qbat [2, 3]) (.seq (.reg false qbas [4]) .ret))
theorem qarh : comp Try.prog 14 ((Try.f89.body).getD .skip) = some c_rmay.erase := by kernel_rfl
abbrev qa6w : List SOper := [Oa 3 (.box 29 (.t 0)), Oa 4 (.box 71 (.t 1)), Oa 6 (.mv (.c (.int .i64 0)))]
abbrev qa6v : List SOper := [Oa 7 (.faddr 0 (.t 4)), Oa 8 (.load (.t 7))]
abbrev qa6u : List SOper := [Oa 10 (.bin .eql (.t 8) (.c (.int .i64 1))), Oa 9 (.mv (.t 10))]
abbrev qa6t : List SOper := [Oa 11 (.loads 7 (.t 3)), Oa 12 (.faddr 1 (.t 4)), Oa 13 (.loads 2 (.t 12)), Oc 14 89 [(.t 11), (.t 13)], Oa 15 (.un .not (.t 14))]
abbrev qa6s : List SOper := [Oa 6 (.mv (.c (.int .i64 1)))]
abbrev qa6r : List SOper := [Oa 16 (.loads 7 (.t 3)), Oa 17 (.faddr 4 (.t 4)), Oa 18 (.load (.t 17)), Oa 19 (.mv (.t 2)), Oc 20 73 [(.t 16), (.t 18), (.t 19)], Oa 6 (.mv (.t 20))]
abbrev qa6q : List SOper := [Oa 22 (.bin .eql (.t 8) (.c (.int .i64 2))), Oa 21 (.mv (.t 22))]
abbrev qa6p : List SOper := [Oa 23 (.bin .eql (.t 8) (.c (.int .i64 3))), Oa 21 (.mv (.t 23))]
abbrev qa6o : List SOper := [Oa 24 (.loads 7 (.t 3)), Oa 25 (.faddr 3 (.t 4)), Oa 26 (.load (.t 25)), Oc 27 46 [(.t 24), (.t 26)], Oa 28 (.un .not (.t 27))]
abbrev qayh : List SOper := [Oa 6 (.mv (.c (.int .i64 1)))]
abbrev qayg : List SOper := [Oa 30 (.bin .eql (.t 8) (.c (.int .i64 4))), Oa 29 (.mv (.t 30))]
abbrev qayf : List SOper := [Oa 32 (.bin .eql (.t 8) (.c (.int .i64 5))), Oa 31 (.mv (.t 32))]
abbrev qaye : List SOper := [Oa 33 (.loads 7 (.t 3)), Oa 34 (.faddr 4 (.t 4)), Oa 35 (.load (.t 34)), Oa 36 (.mv (.t 2)), Oc 37 73 [(.t 33), (.t 35), (.t 36)], Oa 6 (.mv (.t 37))]
abbrev qayd : List SOper := [Oa 39 (.bin .eql (.t 8) (.c (.int .i64 6))), Oa 38 (.mv (.t 39))]
abbrev qayc : List SOper := [Oa 40 (.loads 7 (.t 3)), Oa 41 (.faddr 1 (.t 4)), Oa 42 (.loads 2 (.t 41)), Oc 43 89 [(.t 40), (.t 42)], Oa 44 (.un .not (.t 43)), Oa 45 (.mv (.t 44)), Oe 46 (.loads 7 (.t 3)) 45 false, Oe 47 (.faddr 3 (.t 4)) 45 false, Oe 48 (.load (.t 47)) 45 false, ⟨(some 49), .mv (.c .any), some ((.c (.fn (.func 46) [] [])), [(.t 46), (.t 48)]), (some (45, false)), 0⟩, Oe 50 (.un .not (.t 49)) 45 false, Oa 51 (.pick (.t 45) (.c (.bool true)) (.t 50))]
abbrev qayb : List SOper := [Oa 6 (.mv (.c (.int .i64 1)))]
abbrev qaya : List SOper := [Oa 6 (.mv (.c (.int .i64 5)))]
abbrev qax9 : List SOper := [Oa 6 (.mv (.c (.int .i64 0)))]
def c_rdeed : SCode := (.seq (.reg false qa6w [2, 3, 4]) (.seq (.seq (.reg false qa6v [2, 3, 4, 8]) (.block 0 (.seq (.reg false qa6u [2, 3, 4, 8, 9]) (.cond (.t 9) (.seq (.seq (.reg false qa6t [2, 3, 4, 15]) (.cond (.t 15) (.seq (.reg false qa6s [6]) .ret) .skip)) (.seq (.reg false qa6r [6]) .ret)) (.seq (.seq (.reg false qa6q [2, 3, 4, 8, 21]) (.cond (.t 21) .skip (.reg false qa6p [2, 3, 4, 8, 21]))) (.cond (.t 21) (.seq (.reg false qa6o [28]) (.cond (.t 28) (.seq (.reg false qayh [6]) .ret) .skip)) (.seq (.reg false qayg [2, 3, 4, 8, 29]) (.cond (.t 29) .skip (.seq (.reg false qayf [2, 3, 4, 8, 31]) (.cond (.t 31) (.seq (.reg false qaye [6]) .ret) (.seq (.reg false qayd [3, 4, 38]) (.cond (.t 38) (.seq (.reg false qayc [51]) (.cond (.t 51) (.seq (.reg false qayb [6]) .ret) .skip)) (.seq (.reg false qaya [6]) .ret))))))))))))) (.seq (.reg false qax9 [6]) .ret)))
theorem qamu : comp Try.prog 52 ((Try.f71.body).getD .skip) = some c_rdeed.erase := by kernel_rfl
abbrev qa52 : List SOper := [Oa 3 (.box 29 (.t 0)), Oa 6 (.mv (.c (.int .i64 0)))]
abbrev qa51 : List SOper := [Oa 7 (.mv (.t 2)), Oa 8 (.bin .eql (.t 7) (.c (.int .i64 1000))), Oa 9 (.mv (.t 8)), Oe 10 (.mv (.t 2)) 9 false, Oe 11 (.bin .eql (.t 10) (.c (.int .i64 1001))) 9 false, Oa 12 (.pick (.t 9) (.c (.bool true)) (.t 11))]
abbrev qa50 : List SOper := [Oa 6 (.mv (.c (.int .i64 0)))]
abbrev qa5z : List SOper := [Oa 13 (.mv (.t 2)), Oa 14 (.bin .lss (.t 13) (.c (.int .i64 0))), Oa 15 (.mv (.t 14)), Oe 16 (.mv (.t 2)) 15 false, Oe 17 (.faddr 2 (.t 3)) 15 false, Oe 18 (.load (.t 17)) 15 false, Oe 19 (.len false (.t 18)) 15 false, Oe 20 (.bin .geq (.t 16) (.t 19)) 15 false, Oa 21 (.pick (.t 15) (.c (.bool true)) (.t 20))]
abbrev qa5y : List SOper := [Oa 6 (.mv (.c (.int .i64 1)))]
abbrev qa5x : List SOper := [Oa 22 (.mv (.t 2)), Oa 23 (.mv (.t 1)), Oa 24 (.bin .leq (.t 22) (.t 23))]
abbrev qa5w : List SOper := [Oa 6 (.mv (.c (.int .i64 11)))]
abbrev qa5v : List SOper := [Oa 6 (.mv (.c (.int .i64 0)))]
def c_rlead : SCode := (.seq (.reg false qa52 [1, 2, 3]) (.seq (.seq (.reg false qa51 [1, 2, 3, 12]) (.cond (.t 12) (.seq (.reg false qa50 [6]) .ret) .skip)) (.seq (.seq (.reg false qa5z [1, 2, 21]) (.cond (.t 21) (.seq (.reg false qa5y [6]) .ret) .skip)) (.seq (.seq (.reg false qa5x [24]) (.cond (.t 24) (.seq (.reg false qa5w [6]) .ret) .skip)) (.seq (.reg false qa5v [6]) .ret)))))
theorem qamq : comp Try.prog 25 ((Try.f70.body).getD .skip) = some c_rlead.erase := by kernel_rfl
abbrev qavi : List SOper := [Oa 2 (.box 29 (.t 0)), Oa 4 (.mv (.c (.int .i64 0)))]
abbrev qavh : List SOper := [Oa 10 (.faddr 2 (.t 2)), Oa 11 (.load (.t 10)), Oa 12 (.mv (.t 1)), Oa 13 (.iaddr 5 (.t 11) (.t 12)), Oa 14 (.loads 5 (.t 13)), Oa 5 (.alloc 65 [(.int .i64 0), (.int .i64 0), (.int .i64 0), .nilsl, (.int .i64 0)]), Ob (.store 5 (.t 5) (.t 14))]
abbrev qavg : List SOper := [Oa 15 (.faddr 0 (.t 5)), Oa 16 (.load (.t 15)), Oa 17 (.bin .neq (.t 16) (.c (.int .i64 (-1)))), Oa 18 (.mv (.t 17)), Oe 19 (.loads 7 (.t 2)) 18 true, Oe 20 (.faddr 0 (.t 5)) 18 true, Oe 21 (.load (.t 20)) 18 true, ⟨(some 22), .mv (.c .any), some ((.c (.fn (.func 46) [] [])), [(.t 19), (.t 21)]), (some (18, true)), 0⟩, Oe 23 (.un .not (.t 22)) 18 true, Oa 24 (.pick (.t 18) (.t 23) (.c (.bool false)))]
abbrev qavf : List SOper := [Oa 4 (.mv (.c (.int .i64 1)))]
abbrev qave : List SOper := [Oa 25 (.faddr 3 (.t 5)), Oa 26 (.load (.t 25)), Oa 27 (.len false (.t 26)), Oa 28 (.bin .gtr (.t 27) (.c (.int .i64 4)))]
abbrev qavd : List SOper := [Oa 4 (.mv (.c (.int .i64 2)))]
abbrev qavc : List SOper := [Oa 29 (.loads 7 (.t 2)), Oa 30 (.faddr 1 (.t 5)), Oa 31 (.loads 2 (.t 30)), Oc 32 10 [(.t 29), (.t 31), (.c .nilsl)], Oa 6 (.mv (.t 32))]
abbrev qavb : List SOper := [Oa 33 (.faddr 3 (.t 5)), Oa 34 (.load (.t 33)), Oa 35 (.len false (.t 34)), Oa 36 (.bin .gtr (.t 35) (.c (.int .i64 0))), Oa 37 (.mv (.t 36)), Oe 38 (.mv (.t 6)) 37 true, Oe 39 (.bin .eql (.t 38) (.c (.int .i64 0))) 37 true, Oa 40 (.pick (.t 37) (.t 39) (.c (.bool false)))]
abbrev qava : List SOper := [Oa 4 (.mv (.c (.int .i64 1)))]
abbrev qaof : List SOper := [Oa 7 (.mv (.c (.int .i64 0)))]
abbrev qaoe : List SOper := [Oa 41 (.mv (.t 7)), Oa 42 (.faddr 3 (.t 5)), Oa 43 (.load (.t 42)), Oa 44 (.len false (.t 43)), Oa 45 (.bin .lss (.t 41) (.t 44))]
abbrev qaod : List SOper := [Oa 48 (.faddr 3 (.t 5)), Oa 49 (.load (.t 48)), Oa 50 (.mv (.t 7)), Oa 51 (.iaddr 3 (.t 49) (.t 50)), Oa 52 (.loads 3 (.t 51)), Oa 8 (.alloc 95 [(.int .u64 0), (.int .u64 0), (.int .i64 0)]), Ob (.store 3 (.t 8) (.t 52))]
abbrev qaoc : List SOper := [Oa 53 (.faddr 1 (.t 8)), Oa 54 (.load (.t 53)), Oa 55 (.mv (.t 6)), Oc 56 69 [(.t 54), (.t 55)], Oa 57 (.mv (.t 56)), Oe 58 (.faddr 0 (.t 8)) 57 false, Oe 59 (.load (.t 58)) 57 false, Oe 60 (.faddr 1 (.t 8)) 57 false, Oe 61 (.load (.t 60)) 57 false, Oe 62 (.bin .and (.t 59) (.t 61)) 57 false, Oe 63 (.faddr 0 (.t 8)) 57 false, Oe 64 (.load (.t 63)) 57 false, Oe 65 (.bin .neq (.t 62) (.t 64)) 57 false, Oa 66 (.pick (.t 57) (.c (.bool true)) (.t 65))]
abbrev qaob : List SOper := [Oa 4 (.mv (.c (.int .i64 6)))]
abbrev qaoa : List SOper := [Oa 67 (.loads 7 (.t 2)), Oa 68 (.mv (.t 1)), Oa 69 (.faddr 2 (.t 8)), Oa 70 (.load (.t 69)), Oc 71 70 [(.t 67), (.t 68), (.t 70)], Oa 9 (.mv (.t 71))]
abbrev qan9 : List SOper := [Oa 72 (.mv (.t 9)), Oa 73 (.bin .neq (.t 72) (.c (.int .i64 0)))]
abbrev qan8 : List SOper := [Oa 74 (.mv (.t 9)), Oa 4 (.mv (.t 74))]
abbrev qan7 : List SOper := [Oa 46 (.mv (.t 7)), Oa 47 (.bin .add (.t 46) (.c (.int .i64 1))), Oa 7 (.mv (.t 47))]
def c_rstate_l1 : SCode := (.seq (.seq (.reg false qaoe [1, 2, 5, 6, 7, 45]) (.cond (.t 45) .skip (.exit 0))) (.seq (.block 1 (.seq (.reg false qaod [1, 2, 5, 6, 7, 8]) (.seq (.seq (.reg false qaoc [1, 2, 5, 6, 7, 8, 66]) (.cond (.t 66) (.seq (.reg false qaob [4]) .ret) .skip)) (.seq (.reg false qaoa [1, 2, 5, 6, 7, 9]) (.seq (.reg false qan9 [1, 2, 5, 6, 7, 9, 73]) (.cond (.t 73) (.seq (.reg false qan8 [4]) .ret) .skip)))))) (.reg false qan7 [1, 2, 5, 6, 7])))
abbrev qag6 : List SOper := [Oa 75 (.loads 7 (.t 2)), Oa 76 (.mv (.t 1)), Oa 77 (.faddr 4 (.t 5)), Oa 78 (.load (.t 77)), Oc 79 70 [(.t 75), (.t 76), (.t 78)], Oa 4 (.mv (.t 79))]
def c_rstate : SCode := (.seq (.reg false qavi [1, 2]) (.seq (.reg false qavh [1, 2, 5]) (.seq (.seq (.reg false qavg [1, 2, 5, 24]) (.cond (.t 24) (.seq (.reg false qavf [4]) .ret) .skip)) (.seq (.seq (.reg false qave [1, 2, 5, 28]) (.cond (.t 28) (.seq (.reg false qavd [4]) .ret) .skip)) (.seq (.reg false qavc [1, 2, 5, 6]) (.seq (.seq (.reg false qavb [1, 2, 5, 6, 40]) (.cond (.t 40) (.seq (.reg false qava [4]) .ret) .skip)) (.seq (.seq (.reg false qaof [1, 2, 5, 6, 7]) (.block 0 (.loop c_rstate_l1))) (.seq (.reg false qag6 [4]) .ret))))))))
theorem qajx : comp Try.prog 80 ((Try.f41.body).getD .skip) = some c_rstate.erase := by kernel_rfl
abbrev qba4 : List SOper := [Oa 2 (.box 29 (.t 0)), Oa 3 (.box 68 (.t 1)), Oa 4 (.mv (.c (.int .i64 0)))]
abbrev qba3 : List SOper := [Oa 8 (.faddr 0 (.t 3)), Oa 9 (.load (.t 8)), Oa 10 (.len false (.t 9)), Oa 11 (.bin .gtr (.t 10) (.c (.int .i64 3))), Oa 12 (.mv (.t 11)), Oe 13 (.faddr 1 (.t 3)) 12 false, Oe 14 (.load (.t 13)) 12 false, Oe 15 (.len false (.t 14)) 12 false, Oe 16 (.bin .gtr (.t 15) (.c (.int .i64 5))) 12 false, Oa 17 (.pick (.t 12) (.c (.bool true)) (.t 16))]
abbrev qba2 : List SOper := [Oa 4 (.mv (.c (.int .i64 2)))]
abbrev qba1 : List SOper := [Oa 5 (.mv (.c (.int .i64 0)))]
abbrev qba0 : List SOper := [Oa 18 (.mv (.t 5)), Oa 19 (.faddr 0 (.t 3)), Oa 20 (.load (.t 19)), Oa 21 (.len false (.t 20)), Oa 22 (.bin .lss (.t 18) (.t 21))]
abbrev qbaz : List SOper := [Oa 25 (.faddr 0 (.t 3)), Oa 26 (.load (.t 25)), Oa 27 (.mv (.t 5)), Oa 28 (.iaddr 1 (.t 26) (.t 27)), Oa 29 (.load (.t 28)), Oa 30 (.bin .lss (.t 29) (.c (.int .i64 1))), Oa 31 (.mv (.t 30)), Oe 32 (.faddr 0 (.t 3)) 31 false, Oe 33 (.load (.t 32)) 31 false, Oe 34 (.mv (.t 5)) 31 false, Oe 35 (.iaddr 1 (.t 33) (.t 34)) 31 false, Oe 36 (.load (.t 35)) 31 false, Oe 37 (.bin .gtr (.t 36) (.c (.int .i64 48))) 31 false, Oa 38 (.pick (.t 31) (.c (.bool true)) (.t 37))]
abbrev qbay : List SOper := [Oa 4 (.mv (.c (.int .i64 6)))]
abbrev qbax : List SOper := [Oa 23 (.mv (.t 5)), Oa 24 (.bin .add (.t 23) (.c (.int .i64 1))), Oa 5 (.mv (.t 24))]
def qaqq : SCode := (.seq (.seq (.reg false qba0 [2, 3, 5, 22]) (.cond (.t 22) .skip (.exit 0))) (.seq (.block 1 (.seq (.reg false qbaz [2, 3, 5, 38]) (.cond (.t 38) (.seq (.reg false qbay [4]) .ret) .skip))) (.reg false qbax [2, 3, 5])))
abbrev qbaw : List SOper := [Oa 6 (.mv (.c (.int .i64 0)))]
abbrev qa62 : List SOper := [Oa 39 (.mv (.t 6)), Oa 40 (.faddr 1 (.t 3)), Oa 41 (.load (.t 40)), Oa 42 (.len false (.t 41)), Oa 43 (.bin .lss (.t 39) (.t 42))]
abbrev qa61 : List SOper := [Oa 46 (.loads 7 (.t 2)), Oa 47 (.faddr 1 (.t 3)), Od 48 (.load (.t 47)) 2, Oa 49 (.mv (.t 6)), Od 50 (.iaddr 5 (.t 48) (.t 49)) 14, Od 51 (.loads 5 (.t 50)) 30, Oa 52 (.faddr 0 (.t 3)), Od 53 (.load (.t 52)) 64, ⟨(some 54), .mv (.c .any), some ((.c (.fn (.func 71) [] [])), [(.t 46), (.t 51), (.t 53)]), none, 255⟩, Od 7 (.mv (.t 54)) 511]
abbrev qa60 : List SOper := [Oa 55 (.mv (.t 7)), Oa 56 (.bin .neq (.t 55) (.c (.int .i64 0)))]
abbrev qa6z : List SOper := [Oa 57 (.mv (.t 7)), Oa 4 (.mv (.t 57))]
abbrev qa6y : List SOper := [Oa 44 (.mv (.t 6)), Oa 45 (.bin .add (.t 44) (.c (.int .i64 1))), Oa 6 (.mv (.t 45))]
def qaqp : SCode := (.seq (.seq (.reg false qa62 [2, 3, 6, 43]) (.cond (.t 43) .skip (.exit 2))) (.seq (.block 3 (.seq (.reg true qa61 [2, 3, 6, 7]) (.seq (.reg false qa60 [2, 3, 6, 7, 56]) (.cond (.t 56) (.seq (.reg false qa6z [4]) .ret) .skip)))) (.reg false qa6y [2, 3, 6])))
abbrev qa6x : List SOper := [Oa 4 (.mv (.c (.int .i64 0)))]
def c_ract : SCode := (.seq (.reg false qba4 [2, 3]) (.seq (.seq (.reg false qba3 [2, 3, 17]) (.cond (.t 17) (.seq (.reg false qba2 [4]) .ret) .skip)) (.seq (.seq (.reg false qba1 [2, 3, 5]) (.block 0 (.loop qaqq))) (.seq (.seq (.reg false qbaw [2, 3, 6]) (.block 2 (.loop qaqp))) (.seq (.reg false qa6x [4]) .ret)))))
theorem qarj : comp Try.prog 58 ((Try.f42.body).getD .skip) = some c_ract.erase := by kernel_rfl
abbrev qans : List SOper := [Oa 2 (.box 29 (.t 0)), Oa 3 (.box 35 (.t 1)), Oa 4 (.mv (.c .nilsl))]
abbrev qanr : List SOper := [Oa 5 (.mv (.c .nilsl))]
abbrev qanq : List SOper := [Oa 6 (.mv (.c (.int .i64 0)))]
abbrev qanp : List SOper := [Oa 7 (.mv (.t 6)), Oa 8 (.faddr 1 (.t 3)), Oa 9 (.load (.t 8)), Oa 10 (.len false (.t 9)), Oa 11 (.bin .lss (.t 7) (.t 10))]
abbrev qano : List SOper := [Oa 14 (.mv (.t 5)), Oa 15 (.loads 7 (.t 2)), Oa 16 (.faddr 1 (.t 3)), Od 17 (.load (.t 16)) 4, Oa 18 (.mv (.t 6)), Od 19 (.iaddr 2 (.t 17) (.t 18)) 28, Od 20 (.loads 2 (.t 19)) 60, ⟨(some 21), .mv (.c .any), some ((.c (.fn (.func 10) [] [])), [(.t 15), (.t 20), (.c .nilsl)]), none, 126⟩, Od 22 (.mkrow 3 1 1 [(.int .i64 0)] [(0, (.t 21))]) 254, Od 23 (.app 3 1 8 (.t 14) (.t 22)) 511, Od 5 (.mv (.t 23)) 1023]
abbrev qann : List SOper := [Oa 12 (.mv (.t 6)), Oa 13 (.bin .add (.t 12) (.c (.int .i64 1))), Oa 6 (.mv (.t 13))]
def qag5 : SCode := (.seq (.seq (.reg false qanp [2, 3, 5, 6, 11]) (.cond (.t 11) .skip (.exit 0))) (.seq (.block 1 (.reg true qano [2, 3, 5, 6])) (.reg false qann [2, 3, 5, 6])))
abbrev qag4 : List SOper := [Oa 24 (.mv (.t 5)), Oa 4 (.mv (.t 24))]
def c_rwidths : SCode := (.seq (.reg false qans [2, 3]) (.seq (.reg false qanr [2, 3, 5]) (.seq (.seq (.reg false qanq [2, 3, 5, 6]) (.block 0 (.loop qag5))) (.seq (.reg false qag4 [4]) .ret))))
theorem qait : comp Try.prog 25 ((Try.f13.body).getD .skip) = some c_rwidths.erase := by kernel_rfl
abbrev qa5u : List SOper := [Oa 2 (.box 29 (.t 0)), Oa 4 (.mv (.c (.int .i64 0)))]
abbrev qa5t : List SOper := [Oa 9 (.faddr 5 (.t 2)), Oa 10 (.load (.t 9)), Oa 11 (.mv (.t 1)), Oa 12 (.iaddr 5 (.t 10) (.t 11)), Oa 13 (.loads 5 (.t 12)), Oa 5 (.alloc 73 [(.int .i64 0), (.int .i64 0), .nilsl, (.int .i64 0), (.int .i64 0)]), Ob (.store 5 (.t 5) (.t 13))]
abbrev qa5s : List SOper := [Oa 6 (.mv (.c (.int .i64 0)))]
abbrev qa5r : List SOper := [Oa 14 (.faddr 3 (.t 5)), Oa 15 (.load (.t 14)), Oa 16 (.mkrow 3 1 1 [(.int .i64 0)] [(0, (.t 15))]), Oa 7 (.mv (.t 16))]
abbrev qa5q : List SOper := [Oa 17 (.faddr 0 (.t 5)), Oa 18 (.load (.t 17))]
abbrev qa5p : List SOper := [Oa 20 (.bin .eql (.t 18) (.c (.int .i64 1))), Oa 19 (.mv (.t 20))]
abbrev qa5o : List SOper := [Oa 21 (.faddr 1 (.t 5)), Oa 22 (.load (.t 21)), Oa 23 (.bin .lss (.t 22) (.c (.int .i64 0))), Oa 24 (.mv (.t 23)), Oe 25 (.faddr 1 (.t 5)) 24 false, Oe 26 (.load (.t 25)) 24 false, Oe 27 (.faddr 4 (.t 2)) 24 false, Oe 28 (.load (.t 27)) 24 false, Oe 29 (.len false (.t 28)) 24 false, Oe 30 (.bin .geq (.t 26) (.t 29)) 24 false, Oa 31 (.pick (.t 24) (.c (.bool true)) (.t 30))]
abbrev qa5n : List SOper := [Oa 6 (.mv (.c (.int .i64 1)))]
abbrev qa5m : List SOper := [Oa 33 (.bin .eql (.t 18) (.c (.int .i64 2))), Oa 32 (.mv (.t 33))]
abbrev qav9 : List SOper := [Oa 34 (.faddr 1 (.t 5)), Oa 35 (.load (.t 34)), Oa 36 (.bin .lss (.t 35) (.c (.int .i64 0))), Oa 37 (.mv (.t 36)), Oe 38 (.faddr 1 (.t 5)) 37 false, Oe 39 (.load (.t 38)) 37 false, Oe 40 (.faddr 3 (.t 2)) 37 false, Oe 41 (.load (.t 40)) 37 false, Oe 42 (.len false (.t 41)) 37 false, Oe 43 (.bin .geq (.t 39) (.t 42)) 37 false, Oa 44 (.pick (.t 37) (.c (.bool true)) (.t 43))]
abbrev qav8 : List SOper := [Oa 6 (.mv (.c (.int .i64 1)))]
abbrev qav7 : List SOper := [Oa 45 (.faddr 3 (.t 2)), Oa 46 (.load (.t 45)), Oa 47 (.faddr 1 (.t 5)), Oa 48 (.load (.t 47)), Oa 49 (.iaddr 2 (.t 46) (.t 48)), Oa 50 (.faddr 0 (.t 49)), Oa 51 (.load (.t 50)), Oa 52 (.len false (.t 51)), Oa 53 (.bin .gtr (.t 52) (.c (.int .i64 0)))]
abbrev qav6 : List SOper := [Oa 6 (.mv (.c (.int .i64 2)))]
abbrev qav5 : List SOper := [Oa 55 (.bin .eql (.t 18) (.c (.int .i64 3))), Oa 54 (.mv (.t 55))]
abbrev qav4 : List SOper := [Oa 56 (.loads 7 (.t 2)), Oa 57 (.faddr 2 (.t 5)), Oa 58 (.load (.t 57)), Oc 59 73 [(.t 56), (.t 58), (.c .nilsl)], Oa 6 (.mv (.t 59))]
abbrev qav3 : List SOper := [Oa 60 (.faddr 3 (.t 5)), Oa 61 (.load (.t 60)), Oa 62 (.faddr 4 (.t 5)), Oa 63 (.load (.t 62)), Oa 64 (.mkrow 3 1 2 [(.int .i64 0)] [(0, (.t 61)), (1, (.t 63))]), Oa 7 (.mv (.t 64))]
abbrev qav2 : List SOper := [Oa 66 (.bin .eql (.t 18) (.c (.int .i64 4))), Oa 65 (.mv (.t 66))]
abbrev qav1 : List SOper := [Oa 67 (.loads 7 (.t 2)), Oa 68 (.faddr 1 (.t 5)), Oa 69 (.load (.t 68)), Oc 70 46 [(.t 67), (.t 69)], Oa 71 (.un .not (.t 70))]
abbrev qav0 : List SOper := [Oa 6 (.mv (.c (.int .i64 1)))]
abbrev qavz : List SOper := [Oa 72 (.faddr 3 (.t 5)), Oa 73 (.load (.t 72)), Oa 74 (.faddr 4 (.t 5)), Oa 75 (.load (.t 74)), Oa 76 (.mkrow 3 1 2 [(.int .i64 0)] [(0, (.t 73)), (1, (.t 75))]), Oa 7 (.mv (.t 76))]
abbrev qavy : List SOper := [Oa 6 (.mv (.c (.int .i64 5)))]
abbrev qavx : List SOper := [Oa 8 (.mv (.c (.int .i64 0)))]
abbrev qavw : List SOper := [Oa 77 (.mv (.t 8)), Oa 78 (.mv (.t 7)), Oa 79 (.len false (.t 78)), Oa 80 (.bin .lss (.t 77) (.t 79)), Oa 81 (.mv (.t 80)), Oe 82 (.mv (.t 6)) 81 true, Oe 83 (.bin .eql (.t 82) (.c (.int .i64 0))) 81 true, Oa 84 (.pick (.t 81) (.t 83) (.c (.bool false)))]
abbrev qavv : List SOper := [Oa 87 (.mv (.t 7)), Oa 88 (.mv (.t 8)), Od 89 (.iaddr 1 (.t 87) (.t 88)) 3, Od 90 (.load (.t 89)) 7, Od 91 (.bin .lss (.t 90) (.c (.int .i64 0))) 15, Od 92 (.mv (.t 91)) 31, Of 93 (.mv (.t 7)) 92 false 63, Of 94 (.mv (.t 8)) 92 false 63, Of 95 (.iaddr 1 (.t 93) (.t 94)) 92 false 255, Of 96 (.load (.t 95)) 92 false 511, Of 97 (.faddr 5 (.t 2)) 92 false 63, Of 98 (.load (.t 97)) 92 false 1087, Of 99 (.len false (.t 98)) 92 false 3135, Of 100 (.bin .gtr (.t 96) (.t 99)) 92 false 8191, Od 101 (.pick (.t 92) (.c (.bool true)) (.t 100)) 16383]
abbrev qavu : List SOper := [Oa 6 (.mv (.c (.int .i64 1)))]
abbrev qavt : List SOper := [Oa 102 (.mv (.t 7)), Oa 103 (.mv (.t 8)), Oa 104 (.iaddr 1 (.t 102) (.t 103)), Oa 105 (.load (.t 104)), Oa 106 (.mv (.t 1)), Oa 107 (.bin .leq (.t 105) (.t 106))]
abbrev qavs : List SOper := [Oa 6 (.mv (.c (.int .i64 11)))]
abbrev qavr : List SOper := [Oa 85 (.mv (.t 8)), Oa 86 (.bin .add (.t 85) (.c (.int .i64 1))), Oa 8 (.mv (.t 86))]
def qac9 : SCode := (.seq (.seq (.reg false qavw [1, 2, 6, 7, 8, 84]) (.cond (.t 84) .skip (.exit 1))) (.seq (.block 2 (.seq (.reg true qavv [1, 2, 6, 7, 8, 101]) (.cond (.t 101) (.reg false qavu [1, 2, 6, 7, 8]) (.seq (.reg false qavt [1, 2, 6, 7, 8, 107]) (.cond (.t 107) (.reg false qavs [1, 2, 6, 7, 8]) .skip))))) (.reg false qavr [1, 2, 6, 7, 8])))
abbrev qavq : List SOper := [Oa 108 (.mv (.t 6)), Oa 4 (.mv (.t 108))]
def c_rnode : SCode := (.seq (.reg false qa5u [1, 2]) (.seq (.reg false qa5t [1, 2, 5]) (.seq (.reg false qa5s [1, 2, 5, 6]) (.seq (.reg false qa5r [1, 2, 5, 6, 7]) (.seq (.seq (.reg false qa5q [1, 2, 5, 6, 7, 18]) (.block 0 (.seq (.reg false qa5p [1, 2, 5, 6, 7, 18, 19]) (.cond (.t 19) (.seq (.reg false qa5o [1, 2, 6, 7, 31]) (.cond (.t 31) (.reg false qa5n [1, 2, 6, 7]) .skip)) (.seq (.reg false qa5m [1, 2, 5, 6, 7, 18, 32]) (.cond (.t 32) (.seq (.reg false qav9 [1, 2, 5, 6, 7, 44]) (.cond (.t 44) (.reg false qav8 [1, 2, 6, 7]) (.seq (.reg false qav7 [1, 2, 6, 7, 53]) (.cond (.t 53) (.reg false qav6 [1, 2, 6, 7]) .skip)))) (.seq (.reg false qav5 [1, 2, 5, 6, 7, 18, 54]) (.cond (.t 54) (.seq (.reg false qav4 [1, 2, 5, 6]) (.reg false qav3 [1, 2, 6, 7])) (.seq (.reg false qav2 [1, 2, 5, 6, 7, 65]) (.cond (.t 65) (.seq (.seq (.reg false qav1 [1, 2, 5, 6, 71]) (.cond (.t 71) (.reg false qav0 [1, 2, 5, 6]) .skip)) (.reg false qavz [1, 2, 6, 7])) (.reg false qavy [1, 2, 6, 7]))))))))))) (.seq (.seq (.reg false qavx [1, 2, 6, 7, 8]) (.block 1 (.loop qac9))) (.seq (.reg false qavq [4]) .ret)))))))
theorem qamp : comp Try.prog 109 ((Try.f45.body).getD .skip) = some c_rnode.erase := by kernel_rfl
abbrev qa6e : List SOper := [Oa 1 (.box 29 (.t 0)), Oa 2 (.alloc 45 [(.int .i64 0), (.int .i64 0)])]
abbrev qa6d : List SOper := [Oa 18 (.faddr 0 (.t 1)), Oa 19 (.load (.t 18)), Oa 20 (.len false (.t 19)), Oa 21 (.bin .gtr (.t 20) (.c (.int .i64 6)))]
abbrev qa6c : List SOper := [Oc 22 39 [(.c (.int .i64 2)), (.c (.int .i64 (-1)))], Ob (.store 2 (.t 2) (.t 22))]
abbrev qa6b : List SOper := [Oa 3 (.mv (.c (.int .i64 0)))]
abbrev qa6a : List SOper := [Oa 23 (.mv (.t 3)), Oa 24 (.faddr 0 (.t 1)), Oa 25 (.load (.t 24)), Oa 26 (.len false (.t 25)), Oa 27 (.bin .lss (.t 23) (.t 26))]
abbrev qa59 : List SOper := [Oa 31 (.faddr 0 (.t 1)), Oa 32 (.load (.t 31)), Oa 33 (.mv (.t 3)), Oa 34 (.iaddr 1 (.t 32) (.t 33)), Oa 35 (.loads 1 (.t 34)), Oc 36 40 [(.t 35)], Oa 30 (.mv (.t 36)), Oa 37 (.extr (.t 30) 0), Oa 38 (.extr (.t 30) 1), Oa 5 (.alloc 45 [(.int .i64 0), (.int .i64 0)]), Oa 4 (.mv (.t 37)), Ob (.store 2 (.t 5) (.t 38))]
abbrev qa58 : List SOper := [Oa 39 (.faddr 0 (.t 5)), Oa 40 (.load (.t 39)), Oa 41 (.bin .neq (.t 40) (.c (.int .i64 0)))]
abbrev qa57 : List SOper := [Oa 42 (.faddr 0 (.t 5)), Oa 43 (.load (.t 42)), Oa 44 (.mv (.t 3)), Oa 45 (.bin .add (.c (.int .i64 1000)) (.t 44)), Oc 46 39 [(.t 43), (.t 45)], Ob (.store 2 (.t 2) (.t 46))]
abbrev qa56 : List SOper := [Oa 28 (.mv (.t 3)), Oa 29 (.bin .add (.t 28) (.c (.int .i64 1))), Oa 3 (.mv (.t 29))]
def qak0 : SCode := (.seq (.seq (.reg false qa6a [1, 2, 3, 27]) (.cond (.t 27) .skip (.exit 0))) (.seq (.block 1 (.seq (.reg false qa59 [1, 2, 3, 5]) (.seq (.reg false qa58 [1, 2, 3, 5, 41]) (.cond (.t 41) (.seq (.reg false qa57 [2]) .ret) .skip)))) (.reg false qa56 [1, 2, 3])))
abbrev qax1 : List SOper := [Oa 47 (.faddr 1 (.t 1)), Oa 48 (.load (.t 47)), Oa 49 (.len false (.t 48)), Oa 50 (.bin .gtr (.t 49) (.c (.int .i64 4)))]
abbrev qax0 : List SOper := [Oc 51 39 [(.c (.int .i64 2)), (.c (.int .i64 (-2)))], Ob (.store 2 (.t 2) (.t 51))]
abbrev qaxz : List SOper := [Oa 6 (.mv (.c (.int .i64 0)))]
abbrev qaxy : List SOper := [Oa 52 (.mv (.t 6)), Oa 53 (.faddr 1 (.t 1)), Oa 54 (.load (.t 53)), Oa 55 (.len false (.t 54)), Oa 56 (.bin .lss (.t 52) (.t 55))]
abbrev qaxx : List SOper := [Oa 59 (.faddr 1 (.t 1)), Oa 60 (.load (.t 59)), Oa 61 (.mv (.t 6)), Oa 62 (.iaddr 1 (.t 60) (.t 61)), Oa 63 (.load (.t 62)), Oa 64 (.bin .lss (.t 63) (.c (.int .i64 1))), Oa 65 (.mv (.t 64)), Oe 66 (.faddr 1 (.t 1)) 65 false, Oe 67 (.load (.t 66)) 65 false, Oe 68 (.mv (.t 6)) 65 false, Oe 69 (.iaddr 1 (.t 67) (.t 68)) 65 false, Oe 70 (.load (.t 69)) 65 false, Oe 71 (.bin .gtr (.t 70) (.c (.int .i64 48))) 65 false, Oa 72 (.pick (.t 65) (.c (.bool true)) (.t 71))]
abbrev qaxw : List SOper := [Oa 73 (.mv (.t 6)), Oa 74 (.bin .add (.c (.int .i64 2000)) (.t 73)), Oc 75 39 [(.c (.int .i64 6)), (.t 74)], Ob (.store 2 (.t 2) (.t 75))]
abbrev qaxv : List SOper := [Oa 57 (.mv (.t 6)), Oa 58 (.bin .add (.t 57) (.c (.int .i64 1))), Oa 6 (.mv (.t 58))]
def qakz : SCode := (.seq (.seq (.reg false qaxy [1, 2, 6, 56]) (.cond (.t 56) .skip (.exit 2))) (.seq (.block 3 (.seq (.reg false qaxx [1, 2, 6, 72]) (.cond (.t 72) (.seq (.reg false qaxw [2]) .ret) .skip))) (.reg false qaxv [1, 2, 6])))
abbrev qaxu : List SOper := [Oa 76 (.faddr 2 (.t 1)), Oa 77 (.load (.t 76)), Oa 78 (.len false (.t 77)), Oa 79 (.bin .lss (.t 78) (.c (.int .i64 1))), Oa 80 (.mv (.t 79)), Oe 81 (.faddr 2 (.t 1)) 80 false, Oe 82 (.load (.t 81)) 80 false, Oe 83 (.len false (.t 82)) 80 false, Oe 84 (.bin .gtr (.t 83) (.c (.int .i64 8))) 80 false, Oa 85 (.pick (.t 80) (.c (.bool true)) (.t 84))]
abbrev qaxt : List SOper := [Oc 86 39 [(.c (.int .i64 2)), (.c (.int .i64 (-3)))], Ob (.store 2 (.t 2) (.t 86))]
abbrev qaxs : List SOper := [Oa 7 (.mv (.c (.int .i64 0)))]
abbrev qaxr : List SOper := [Oa 87 (.mv (.t 7)), Oa 88 (.faddr 2 (.t 1)), Oa 89 (.load (.t 88)), Oa 90 (.len false (.t 89)), Oa 91 (.bin .lss (.t 87) (.t 90))]
abbrev qaxq : List SOper := [Oa 94 (.loads 7 (.t 1)), Oa 95 (.mv (.t 7)), Oc 96 41 [(.t 94), (.t 95)], Oa 8 (.mv (.t 96))]
abbrev qaxp : List SOper := [Oa 97 (.mv (.t 8)), Oa 98 (.bin .neq (.t 97) (.c (.int .i64 0)))]
abbrev qaxo : List SOper := [Oa 99 (.mv (.t 8)), Oa 100 (.mv (.t 7)), Oa 101 (.bin .add (.c (.int .i64 3000)) (.t 100)), Oc 102 39 [(.t 99), (.t 101)], Ob (.store 2 (.t 2) (.t 102))]
abbrev qaxn : List SOper := [Oa 92 (.mv (.t 7)), Oa 93 (.bin .add (.t 92) (.c (.int .i64 1))), Oa 7 (.mv (.t 93))]
def qaky : SCode := (.seq (.seq (.reg false qaxr [1, 2, 7, 91]) (.cond (.t 91) .skip (.exit 4))) (.seq (.block 5 (.seq (.reg false qaxq [1, 2, 7, 8]) (.seq (.reg false qaxp [1, 2, 7, 8, 98]) (.cond (.t 98) (.seq (.reg false qaxo [2]) .ret) .skip)))) (.reg false qaxn [1, 2, 7])))
abbrev qaxm : List SOper := [Oa 103 (.faddr 3 (.t 1)), Oa 104 (.load (.t 103)), Oa 105 (.len false (.t 104)), Oa 106 (.bin .gtr (.t 105) (.c (.int .i64 8)))]
abbrev qaxl : List SOper := [Oc 107 39 [(.c (.int .i64 2)), (.c (.int .i64 (-4)))], Ob (.store 2 (.t 2) (.t 107))]
abbrev qaxk : List SOper := [Oa 9 (.mv (.c (.int .i64 0)))]
abbrev qaxj : List SOper := [Oa 108 (.mv (.t 9)), Oa 109 (.faddr 3 (.t 1)), Oa 110 (.load (.t 109)), Oa 111 (.len false (.t 110)), Oa 112 (.bin .lss (.t 108) (.t 111))]
abbrev qaxi : List SOper := [Oa 115 (.loads 7 (.t 1)), Oa 116 (.faddr 3 (.t 1)), Od 117 (.load (.t 116)) 2, Oa 118 (.mv (.t 9)), Od 119 (.iaddr 2 (.t 117) (.t 118)) 14, Od 120 (.loads 2 (.t 119)) 30, ⟨(some 121), .mv (.c .any), some ((.c (.fn (.func 42) [] [])), [(.t 115), (.t 120)]), none, 63⟩, Od 10 (.mv (.t 121)) 127]
abbrev qaxh : List SOper := [Oa 122 (.mv (.t 10)), Oa 123 (.bin .neq (.t 122) (.c (.int .i64 0)))]
abbrev qaxg : List SOper := [Oa 124 (.mv (.t 10)), Oa 125 (.mv (.t 9)), Oa 126 (.bin .add (.c (.int .i64 4000)) (.t 125)), Oc 127 39 [(.t 124), (.t 126)], Ob (.store 2 (.t 2) (.t 127))]
abbrev qaxf : List SOper := [Oa 113 (.mv (.t 9)), Oa 114 (.bin .add (.t 113) (.c (.int .i64 1))), Oa 9 (.mv (.t 114))]
def qakx : SCode := (.seq (.seq (.reg false qaxj [1, 2, 9, 112]) (.cond (.t 112) .skip (.exit 6))) (.seq (.block 7 (.seq (.reg true qaxi [1, 2, 9, 10]) (.seq (.reg false qaxh [1, 2, 9, 10, 123]) (.cond (.t 123) (.seq (.reg false qaxg [2]) .ret) .skip)))) (.reg false qaxf [1, 2, 9])))
abbrev qaxe : List SOper := [Oa 128 (.faddr 4 (.t 1)), Oa 129 (.load (.t 128)), Oa 130 (.len false (.t 129)), Oa 131 (.bin .gtr (.t 130) (.c (.int .i64 5)))]
abbrev qaxd : List SOper := [Oc 132 39 [(.c (.int .i64 2)), (.c (.int .i64 (-5)))], Ob (.store 2 (.t 2) (.t 132))]
abbrev qaxc : List SOper := [Oa 11 (.mv (.c (.int .i64 0)))]
abbrev qaxb : List SOper := [Oa 133 (.mv (.t 11)), Oa 134 (.faddr 4 (.t 1)), Oa 135 (.load (.t 134)), Oa 136 (.len false (.t 135)), Oa 137 (.bin .lss (.t 133) (.t 136))]
abbrev qaxa : List SOper := [Oa 140 (.faddr 4 (.t 1)), Oa 141 (.load (.t 140)), Oa 142 (.mv (.t 11)), Oa 143 (.iaddr 6 (.t 141) (.t 142)), Oa 144 (.loads 6 (.t 143)), Oa 12 (.alloc 35 [(.int .i64 0), .nilsl, .nilsl, (.int .i64 0), (.int .i64 0), .nilsl]), Ob (.store 6 (.t 12) (.t 144))]
abbrev qaw9 : List SOper := [Oa 145 (.faddr 1 (.t 12)), Oa 146 (.load (.t 145)), Oa 147 (.len false (.t 146)), Oa 148 (.bin .gtr (.t 147) (.c (.int .i64 3)))]
abbrev qaw8 : List SOper := [Oa 149 (.mv (.t 11)), Oa 150 (.bin .add (.c (.int .i64 5000)) (.t 149)), Oc 151 39 [(.c (.int .i64 2)), (.t 150)], Ob (.store 2 (.t 2) (.t 151))]
abbrev qaw7 : List SOper := [Oa 152 (.loads 7 (.t 1)), Oa 153 (.loads 6 (.t 12)), Oc 154 13 [(.t 152), (.t 153)], Oa 13 (.mv (.t 154))]
abbrev qaw6 : List SOper := [Oa 155 (.mv (.t 13)), Oc 156 43 [(.t 155), (.c (.int .i64 0))]]
abbrev qaw5 : List SOper := [Oa 157 (.mv (.t 11)), Oa 158 (.bin .add (.c (.int .i64 5000)) (.t 157)), Oc 159 39 [(.c (.int .i64 1)), (.t 158)], Ob (.store 2 (.t 2) (.t 159))]
abbrev qaw4 : List SOper := [Oa 160 (.loads 6 (.t 12)), Oa 161 (.mv (.t 13)), Oa 162 (.faddr 3 (.t 1)), Oa 163 (.load (.t 162)), Oc 164 44 [(.t 160), (.t 161), (.t 163)], Oa 14 (.mv (.t 164))]
abbrev qaw3 : List SOper := [Oa 165 (.mv (.t 14)), Oa 166 (.bin .neq (.t 165) (.c (.int .i64 0)))]
abbrev qaw2 : List SOper := [Oa 167 (.mv (.t 14)), Oa 168 (.mv (.t 11)), Oa 169 (.bin .add (.c (.int .i64 5000)) (.t 168)), Oc 170 39 [(.t 167), (.t 169)], Ob (.store 2 (.t 2) (.t 170))]
abbrev qaw1 : List SOper := [Oa 138 (.mv (.t 11)), Oa 139 (.bin .add (.t 138) (.c (.int .i64 1))), Oa 11 (.mv (.t 139))]
def qakw : SCode := (.seq (.seq (.reg false qaxb [1, 2, 11, 137]) (.cond (.t 137) .skip (.exit 8))) (.seq (.block 9 (.seq (.reg false qaxa [1, 2, 11, 12]) (.seq (.seq (.reg false qaw9 [1, 2, 11, 12, 148]) (.cond (.t 148) (.seq (.reg false qaw8 [2]) .ret) .skip)) (.seq (.reg false qaw7 [1, 2, 11, 12, 13]) (.seq (.seq (.reg false qaw6 [1, 2, 11, 12, 13, 156]) (.cond (.t 156) (.seq (.reg false qaw5 [2]) .ret) .skip)) (.seq (.reg false qaw4 [1, 2, 11, 14]) (.seq (.reg false qaw3 [1, 2, 11, 14, 166]) (.cond (.t 166) (.seq (.reg false qaw2 [2]) .ret) .skip)))))))) (.reg false qaw1 [1, 2, 11])))
abbrev qaw0 : List SOper := [Oa 171 (.faddr 5 (.t 1)), Oa 172 (.load (.t 171)), Oa 173 (.len false (.t 172)), Oa 174 (.bin .gtr (.t 173) (.c (.int .i64 10)))]
abbrev qawz : List SOper := [Oc 175 39 [(.c (.int .i64 2)), (.c (.int .i64 (-6)))], Ob (.store 2 (.t 2) (.t 175))]
abbrev qawy : List SOper := [Oa 15 (.mv (.c (.int .i64 0)))]
abbrev qawx : List SOper := [Oa 176 (.mv (.t 15)), Oa 177 (.faddr 5 (.t 1)), Oa 178 (.load (.t 177)), Oa 179 (.len false (.t 178)), Oa 180 (.bin .lss (.t 176) (.t 179))]
abbrev qaww : List SOper := [Oa 183 (.loads 7 (.t 1)), Oa 184 (.mv (.t 15)), Oc 185 45 [(.t 183), (.t 184)], Oa 16 (.mv (.t 185))]
abbrev qawv : List SOper := [Oa 186 (.mv (.t 16)), Oa 187 (.bin .neq (.t 186) (.c (.int .i64 0)))]
abbrev qawu : List SOper := [Oa 188 (.mv (.t 16)), Oa 189 (.mv (.t 15)), Oa 190 (.bin .add (.c (.int .i64 6000)) (.t 189)), Oc 191 39 [(.t 188), (.t 190)], Ob (.store 2 (.t 2) (.t 191))]
abbrev qawt : List SOper := [Oa 181 (.mv (.t 15)), Oa 182 (.bin .add (.t 181) (.c (.int .i64 1))), Oa 15 (.mv (.t 182))]
def qakv : SCode := (.seq (.seq (.reg false qawx [1, 2, 15, 180]) (.cond (.t 180) .skip (.exit 10))) (.seq (.block 11 (.seq (.reg false qaww [1, 2, 15, 16]) (.seq (.reg false qawv [1, 2, 15, 16, 187]) (.cond (.t 187) (.seq (.reg false qawu [2]) .ret) .skip)))) (.reg false qawt [1, 2, 15])))
abbrev qaws : List SOper := [Oa 192 (.faddr 6 (.t 1)), Oa 193 (.load (.t 192)), Oa 194 (.len false (.t 193)), Oa 195 (.bin .gtr (.t 194) (.c (.int .i64 6)))]
abbrev qawr : List SOper := [Oc 196 39 [(.c (.int .i64 2)), (.c (.int .i64 (-7)))], Ob (.store 2 (.t 2) (.t 196))]
abbrev qawq : List SOper := [Oa 17 (.mv (.c (.int .i64 0)))]
abbrev qawp : List SOper := [Oa 197 (.mv (.t 17)), Oa 198 (.faddr 6 (.t 1)), Oa 199 (.load (.t 198)), Oa 200 (.len false (.t 199)), Oa 201 (.bin .lss (.t 197) (.t 200))]
abbrev qawo : List SOper := [Oa 204 (.loads 7 (.t 1)), Oa 205 (.faddr 6 (.t 1)), Od 206 (.load (.t 205)) 2, Oa 207 (.mv (.t 17)), Od 208 (.iaddr 1 (.t 206) (.t 207)) 14, Od 209 (.load (.t 208)) 30, ⟨(some 210), .mv (.c .any), some ((.c (.fn (.func 46) [] [])), [(.t 204), (.t 209)]), none, 63⟩, Od 211 (.un .not (.t 210)) 127]
abbrev qawn : List SOper := [Oa 212 (.mv (.t 17)), Oa 213 (.bin .add (.c (.int .i64 7000)) (.t 212)), Oc 214 39 [(.c (.int .i64 1)), (.t 213)], Ob (.store 2 (.t 2) (.t 214))]
abbrev qawm : List SOper := [Oa 215 (.faddr 6 (.t 1)), Od 216 (.load (.t 215)) 1, Oa 217 (.mv (.t 17)), Od 218 (.slice 1 (.t 216) none (some (.t 217))) 7, Oa 219 (.faddr 6 (.t 1)), Od 220 (.load (.t 219)) 16, Oa 221 (.mv (.t 17)), Od 222 (.iaddr 1 (.t 220) (.t 221)) 112, Od 223 (.load (.t 222)) 240, ⟨(some 224), .mv (.c .any), some ((.c (.fn (.func 43) [] [])), [(.t 218), (.t 223)]), none, 511⟩]
abbrev qawl : List SOper := [Oa 225 (.mv (.t 17)), Oa 226 (.bin .add (.c (.int .i64 7000)) (.t 225)), Oc 227 39 [(.c (.int .i64 7)), (.t 226)], Ob (.store 2 (.t 2) (.t 227))]
abbrev qawk : List SOper := [Oa 202 (.mv (.t 17)), Oa 203 (.bin .add (.t 202) (.c (.int .i64 1))), Oa 17 (.mv (.t 203))]
def qaku : SCode := (.seq (.seq (.reg false qawp [1, 2, 17, 201]) (.cond (.t 201) .skip (.exit 12))) (.seq (.block 13 (.seq (.seq (.reg true qawo [1, 2, 17, 211]) (.cond (.t 211) (.seq (.reg false qawn [2]) .ret) .skip)) (.seq (.reg true qawm [1, 2, 17, 224]) (.cond (.t 224) (.seq (.reg false qawl [2]) .ret) .skip)))) (.reg false qawk [1, 2, 17])))
abbrev qawj : List SOper := [Oa 228 (.build [(.int .i64 0), (.int .i64 0)] []), Ob (.store 2 (.t 2) (.t 228))]
def c_rform : SCode := (.seq (.reg false qa6e [1, 2]) (.seq (.seq (.reg false qa6d [1, 2, 21]) (.cond (.t 21) (.seq (.reg false qa6c [2]) .ret) .skip)) (.seq (.seq (.reg false qa6b [1, 2, 3]) (.block 0 (.loop qak0))) (.seq (.seq (.reg false qax1 [1, 2, 50]) (.cond (.t 50) (.seq (.reg false qax0 [2]) .ret) .skip)) (.seq (.seq (.reg false qaxz [1, 2, 6]) (.block 2 (.loop qakz))) (.seq (.seq (.reg false qaxu [1, 2, 85]) (.cond (.t 85) (.seq (.reg false qaxt [2]) .ret) .skip)) (.seq (.seq (.reg false qaxs [1, 2, 7]) (.block 4 (.loop qaky))) (.seq (.seq (.reg false qaxm [1, 2, 106]) (.cond (.t 106) (.seq (.reg false qaxl [2]) .ret) .skip)) (.seq (.seq (.reg false qaxk [1, 2, 9]) (.block 6 (.loop qakx))) (.seq (.seq (.reg false qaxe [1, 2, 131]) (.cond (.t 131) (.seq (.reg false qaxd [2]) .ret) .skip)) (.seq (.seq (.reg false qaxc [1, 2, 11]) (.block 8 (.loop qakw))) (.seq (.seq (.reg false qaw0 [1, 2, 174]) (.cond (.t 174) (.seq (.reg false qawz [2]) .ret) .skip)) (.seq (.seq (.reg false qawy [1, 2, 15]) (.block 10 (.loop qakv))) (.seq (.seq (.reg false qaws [1, 2, 195]) (.cond (.t 195) (.seq (.reg false qawr [2]) .ret) .skip)) (.seq (.seq (.reg false qawq [1, 2, 17]) (.block 12 (.loop qaku))) (.seq (.reg false qawj [2]) .ret))))))))))))))))
theorem qams : comp Try.prog 229 ((Try.f18.body).getD .skip) = some c_rform.erase := by kernel_rfl
abbrev qbd3 : List SOper := [Oa 4 (.mv (.c (.bool false)))]
abbrev qbd2 : List SOper := [Oa 5 (.mv (.c (.int .i64 0)))]
abbrev qbd1 : List SOper := [Oa 6 (.mv (.t 5)), Oa 7 (.mv (.t 0)), Oa 8 (.len false (.t 7)), Oa 9 (.bin .lss (.t 6) (.t 8))]
abbrev qbd0 : List SOper := [Oa 12 (.mv (.t 0)), Oa 13 (.mv (.t 5)), Oa 14 (.iaddr 1 (.t 12) (.t 13)), Oa 15 (.load (.t 14)), Oa 16 (.mv (.t 1)), Oa 17 (.bin .eql (.t 15) (.t 16))]
abbrev qbdz : List SOper := [Oa 4 (.mv (.c (.bool true)))]
abbrev qbdy : List SOper := [Oa 10 (.mv (.t 5)), Oa 11 (.bin .add (.t 10) (.c (.int .i64 1))), Oa 5 (.mv (.t 11))]
def qa53 : SCode := (.seq (.seq (.reg false qbd1 [0, 1, 5, 9]) (.cond (.t 9) .skip (.exit 0))) (.seq (.block 1 (.seq (.reg false qbd0 [0, 1, 5, 17]) (.cond (.t 17) (.seq (.reg false qbdz [4]) .ret) .skip))) (.reg false qbdy [0, 1, 5])))
abbrev qbdx : List SOper := [Oa 4 (.mv (.c (.bool false)))]
def c_rin : SCode := (.seq (.reg false qbd3 [0, 1]) (.seq (.seq (.reg false qbd2 [0, 1, 5]) (.block 0 (.loop qa53))) (.seq (.reg false qbdx [4]) .ret)))
theorem qa2e : comp Try.prog 18 ((Try.f43.body).getD .skip) = some c_rin.erase := by kernel_rfl
abbrev qa5l : List SOper := [Oa 3 (.box 35 (.t 0)), Oa 5 (.box 125 (.t 2)), Oa 6 (.mv (.c (.int .i64 0)))]
abbrev qa5k : List SOper := [Oa 9 (.faddr 2 (.t 3)), Oa 10 (.load (.t 9)), Oa 11 (.faddr 0 (.t 5)), Oa 12 (.load (.t 11)), Oc 13 43 [(.t 10), (.t 12)], Oa 14 (.un .not (.t 13))]
abbrev qa5j : List SOper := [Oa 6 (.mv (.c (.int .i64 5)))]
abbrev qa5i : List SOper := [Oa 15 (.mv (.t 1)), Oa 16 (.faddr 0 (.t 5)), Oa 17 (.load (.t 16)), Oa 18 (.iaddr 2 (.t 15) (.t 17)), Oa 19 (.faddr 0 (.t 18)), Oa 20 (.load (.t 19)), Oa 7 (.mv (.t 20))]
abbrev qa5h : List SOper := [Oa 21 (.mv (.t 7)), Oa 22 (.len false (.t 21)), Oa 23 (.faddr 1 (.t 5)), Oa 24 (.load (.t 23)), Oa 25 (.len false (.t 24)), Oa 26 (.bin .neq (.t 22) (.t 25))]
abbrev qa5g : List SOper := [Oa 6 (.mv (.c (.int .i64 2)))]
abbrev qa5f : List SOper := [Oa 8 (.mv (.c (.int .i64 0)))]
abbrev qa5e : List SOper := [Oa 27 (.mv (.t 8)), Oa 28 (.mv (.t 7)), Oa 29 (.len false (.t 28)), Oa 30 (.bin .lss (.t 27) (.t 29))]
abbrev qa5d : List SOper := [Oa 33 (.faddr 1 (.t 5)), Od 34 (.load (.t 33)) 1, Oa 35 (.mv (.t 8)), Od 36 (.iaddr 1 (.t 34) (.t 35)) 7, Od 37 (.load (.t 36)) 15, Oa 38 (.mv (.t 7)), Oa 39 (.mv (.t 8)), Od 40 (.iaddr 1 (.t 38) (.t 39)) 96, Od 41 (.load (.t 40)) 224, ⟨(some 42), .mv (.c .any), some ((.c (.fn (.func 69) [] [])), [(.t 37), (.t 41)]), none, 511⟩]
abbrev qavp : List SOper := [Oa 6 (.mv (.c (.int .i64 6)))]
abbrev qavo : List SOper := [Oa 31 (.mv (.t 8)), Oa 32 (.bin .add (.t 31) (.c (.int .i64 1))), Oa 8 (.mv (.t 32))]
def qakt : SCode := (.seq (.seq (.reg false qa5e [5, 7, 8, 30]) (.cond (.t 30) .skip (.exit 0))) (.seq (.block 1 (.seq (.reg true qa5d [5, 7, 8, 42]) (.cond (.t 42) (.seq (.reg false qavp [6]) .ret) .skip))) (.reg false qavo [5, 7, 8])))
abbrev qavn : List SOper := [Oa 6 (.mv (.c (.int .i64 0)))]
def c_rsays : SCode := (.seq (.reg false qa5l [1, 3, 5]) (.seq (.seq (.reg false qa5k [1, 5, 14]) (.cond (.t 14) (.seq (.reg false qa5j [6]) .ret) .skip)) (.seq (.reg false qa5i [5, 7]) (.seq (.seq (.reg false qa5h [5, 7, 26]) (.cond (.t 26) (.seq (.reg false qa5g [6]) .ret) .skip)) (.seq (.seq (.reg false qa5f [5, 7, 8]) (.block 0 (.loop qakt))) (.seq (.reg false qavn [6]) .ret))))))
theorem qamo : comp Try.prog 43 ((Try.f72.body).getD .skip) = some c_rsays.erase := by kernel_rfl
abbrev qau9 : List SOper := [Oa 3 (.box 35 (.t 0)), Oa 6 (.mv (.c (.int .i64 0)))]
abbrev qau8 : List SOper := [Oa 9 (.faddr 0 (.t 3)), Oa 10 (.load (.t 9)), Oa 11 (.bin .lss (.t 10) (.c (.int .i64 1))), Oa 12 (.mv (.t 11)), Oe 13 (.faddr 0 (.t 3)) 12 false, Oe 14 (.load (.t 13)) 12 false, Oe 15 (.bin .gtr (.t 14) (.c (.int .i64 3))) 12 false, Oa 16 (.pick (.t 12) (.c (.bool true)) (.t 15))]
abbrev qau7 : List SOper := [Oa 6 (.mv (.c (.int .i64 5)))]
abbrev qau6 : List SOper := [Oa 17 (.mv (.t 1)), Oa 18 (.len false (.t 17)), Oa 19 (.bin .lss (.t 18) (.c (.int .i64 1))), Oa 20 (.mv (.t 19)), Oe 21 (.mv (.t 1)) 20 false, Oe 22 (.len false (.t 21)) 20 false, Oe 23 (.bin .gtr (.t 22) (.c (.int .i64 3))) 20 false, Oa 24 (.pick (.t 20) (.c (.bool true)) (.t 23)), Oa 25 (.mv (.t 24)), Oe 26 (.faddr 0 (.t 3)) 25 false, Oe 27 (.load (.t 26)) 25 false, Oe 28 (.bin .eql (.t 27) (.c (.int .i64 2))) 25 false, Oe 29 (.mv (.t 28)) 25 false, Oe 30 (.mv (.t 1)) 29 true, Oe 31 (.len false (.t 30)) 29 true, Oe 32 (.bin .gtr (.t 31) (.c (.int .i64 1))) 29 true, Oe 33 (.pick (.t 29) (.t 32) (.c (.bool false))) 25 false, Oa 34 (.pick (.t 25) (.c (.bool true)) (.t 33)), Oa 35 (.mv (.t 34)), Oe 36 (.faddr 2 (.t 3)) 35 false, Oe 37 (.load (.t 36)) 35 false, Oe 38 (.len false (.t 37)) 35 false, Oe 39 (.bin .lss (.t 38) (.c (.int .i64 1))) 35 false, Oa 40 (.pick (.t 35) (.c (.bool true)) (.t 39)), Oa 41 (.mv (.t 40)), Oe 42 (.faddr 2 (.t 3)) 41 false, Oe 43 (.load (.t 42)) 41 false, Oe 44 (.len false (.t 43)) 41 false, Oe 45 (.bin .gtr (.t 44) (.c (.int .i64 4))) 41 false, Oa 46 (.pick (.t 41) (.c (.bool true)) (.t 45))]
abbrev qau5 : List SOper := [Oa 6 (.mv (.c (.int .i64 2)))]
abbrev qau4 : List SOper := [Oa 47 (.faddr 3 (.t 3)), Oa 48 (.load (.t 47)), Oa 49 (.bin .lss (.t 48) (.c (.int .i64 0))), Oa 50 (.mv (.t 49)), Oe 51 (.faddr 3 (.t 3)) 50 false, Oe 52 (.load (.t 51)) 50 false, Oe 53 (.bin .gtr (.t 52) (.c (.int .i64 16))) 50 false, Oa 54 (.pick (.t 50) (.c (.bool true)) (.t 53))]
abbrev qau3 : List SOper := [Oa 6 (.mv (.c (.int .i64 1)))]
abbrev qau2 : List SOper := [Oa 7 (.mv (.c (.int .i64 0)))]
abbrev qau1 : List SOper := [Oa 55 (.mv (.t 7)), Oa 56 (.mv (.t 1)), Oa 57 (.len false (.t 56)), Oa 58 (.bin .lss (.t 55) (.t 57))]
abbrev qan6 : List SOper := [Oa 61 (.mv (.t 1)), Oa 62 (.mv (.t 7)), Oa 63 (.iaddr 1 (.t 61) (.t 62)), Oa 64 (.load (.t 63)), Oa 65 (.bin .lss (.t 64) (.c (.int .i64 1))), Oa 66 (.mv (.t 65)), Oe 67 (.mv (.t 1)) 66 false, Oe 68 (.mv (.t 7)) 66 false, Oe 69 (.iaddr 1 (.t 67) (.t 68)) 66 false, Oe 70 (.load (.t 69)) 66 false, Oe 71 (.bin .gtr (.t 70) (.c (.int .i64 48))) 66 false, Oa 72 (.pick (.t 66) (.c (.bool true)) (.t 71))]
abbrev qan5 : List SOper := [Oa 6 (.mv (.c (.int .i64 6)))]
abbrev qan4 : List SOper := [Oa 59 (.mv (.t 7)), Oa 60 (.bin .add (.t 59) (.c (.int .i64 1))), Oa 7 (.mv (.t 60))]
def qah5 : SCode := (.seq (.seq (.reg false qau1 [1, 2, 3, 7, 58]) (.cond (.t 58) .skip (.exit 0))) (.seq (.block 1 (.seq (.reg false qan6 [1, 2, 3, 7, 72]) (.cond (.t 72) (.seq (.reg false qan5 [6]) .ret) .skip))) (.reg false qan4 [1, 2, 3, 7])))
abbrev qan3 : List SOper := [Oa 8 (.mv (.c (.int .i64 0)))]
abbrev qan2 : List SOper := [Oa 73 (.mv (.t 8)), Oa 74 (.faddr 2 (.t 3)), Oa 75 (.load (.t 74)), Oa 76 (.len false (.t 75)), Oa 77 (.bin .lss (.t 73) (.t 76))]
abbrev qan1 : List SOper := [Oa 80 (.faddr 2 (.t 3)), Oa 81 (.load (.t 80)), Oa 82 (.mv (.t 8)), Oa 83 (.iaddr 1 (.t 81) (.t 82)), Oa 84 (.load (.t 83)), Oa 85 (.bin .lss (.t 84) (.c (.int .i64 0))), Oa 86 (.mv (.t 85)), Oe 87 (.faddr 2 (.t 3)) 86 false, Oe 88 (.load (.t 87)) 86 false, Oe 89 (.mv (.t 8)) 86 false, Oe 90 (.iaddr 1 (.t 88) (.t 89)) 86 false, Oe 91 (.load (.t 90)) 86 false, Oe 92 (.mv (.t 2)) 86 false, Oe 93 (.len false (.t 92)) 86 false, Oe 94 (.bin .geq (.t 91) (.t 93)) 86 false, Oa 95 (.pick (.t 86) (.c (.bool true)) (.t 94))]
abbrev qan0 : List SOper := [Oa 6 (.mv (.c (.int .i64 1)))]
abbrev qanz : List SOper := [Oa 78 (.mv (.t 8)), Oa 79 (.bin .add (.t 78) (.c (.int .i64 1))), Oa 8 (.mv (.t 79))]
def qah4 : SCode := (.seq (.seq (.reg false qan2 [2, 3, 8, 77]) (.cond (.t 77) .skip (.exit 2))) (.seq (.block 3 (.seq (.reg false qan1 [2, 3, 8, 95]) (.cond (.t 95) (.seq (.reg false qan0 [6]) .ret) .skip))) (.reg false qanz [2, 3, 8])))
abbrev qany : List SOper := [Oa 96 (.loads 6 (.t 3)), Oa 97 (.mv (.t 2)), Oa 98 (.faddr 4 (.t 3)), Oa 99 (.load (.t 98)), Oa 100 (.faddr 5 (.t 3)), Oa 101 (.load (.t 100)), Oa 102 (.build [(.int .i64 0), .nilsl] [(0, 1, (.t 99)), (1, 1, (.t 101))]), Oc 103 72 [(.t 96), (.t 97), (.t 102)], Oa 6 (.mv (.t 103))]
def c_rtable : SCode := (.seq (.reg false qau9 [1, 2, 3]) (.seq (.seq (.reg false qau8 [1, 2, 3, 16]) (.cond (.t 16) (.seq (.reg false qau7 [6]) .ret) .skip)) (.seq (.seq (.reg false qau6 [1, 2, 3, 46]) (.cond (.t 46) (.seq (.reg false qau5 [6]) .ret) .skip)) (.seq (.seq (.reg false qau4 [1, 2, 3, 54]) (.cond (.t 54) (.seq (.reg false qau3 [6]) .ret) .skip)) (.seq (.seq (.reg false qau2 [1, 2, 3, 7]) (.block 0 (.loop qah5))) (.seq (.seq (.reg false qan3 [2, 3, 8]) (.block 2 (.loop qah4))) (.seq (.reg false qany [6]) .ret)))))))
theorem qajw : comp Try.prog 104 ((Try.f44.body).getD .skip) = some c_rtable.erase := by kernel_rfl
end Go.Proofs.Ytnfjldobjgdiaaa
namespace Go.Proofs.Ytnfjldobjgdiaaa
set_option linter.all false
open Go.RowKit
attribute [local simp] qabs qabr qaa5 qabc qaa6 qabb qabp qabq qaa1 qab3 SOp.run SX.ev putd puts argS upds SOp.touch SSt.keep SSt.skip gets geth puth delh idOf SV.cells? setL qadd qade sbin eq0 eq1 eqL qadc qacd qace qaas qabt qaad qabu qab4 qaaj qaa3 FrzOk qabl qabf qabj qabk qaa7 qabe qab0 qabg qaa9 qabm qaa8 frzS frzH frz frz1 frz0 SlotsM ObjsM ObjM rn ren ren1 ren0 qab9 qaay qaaz qab8 qab1 qacq qacp CoL qabn qacs dels adds idsH qacf
attribute [local simp] qad0 refc qafc qae1 qacn opc actc tabc qaeg qac1 nums
theorem qapx (p : PlanD) (hh : Int) (q : Nat) : SCalls Try.prog 46 [.agg (qac1 p), .int .i64 hh] [] q (.bool (qac8 p hh)) [] := by
 refine qabw ?_ (fun _ => rfl) (fun _ => rfl) rfl q
 refine qaba (N := 14) Try.func46 rfl rfl (by kernel_rfl) qamr (by simp) (by repeat' (first | exact trivial | refine And.intro ?_ ?_ | rfl | decide | exact PureR.ren _)) (by repeat' (first | exact trivial | refine And.intro ?_ ?_ | rfl | decide | exact PureR.ren _)) ?_
 rintro X hP hN hm
 unfold c_rhead
 repeat' (first | (with_reducible first | refine zA ?_ | refine qaac ?_ | refine qaab ?_ | refine zK ?_) | ((with_reducible first | refine qaal ?_ | refine qaah (by rw [hP]; exact qaa4) ?_); (try rw [hP]); simp -implicitDefEqProofs [*]) | ((with_reducible first | refine qaaf ?_ | refine qaag ?_); (try simp -implicitDefEqProofs [*])) | ((with_reducible refine qaam ?_); (try simp only [qaas, qaad, qaaj])) | ((with_reducible refine qaae rfl (fun h => ?_) (fun h => ?_)) <;> have h' := h <;> (try simp at h') <;> (try subst h')) | ((with_reducible refine qaaa (fun h => ?_) (fun h => ?_)) <;> have h' := h <;> (try simp at h') <;> (try subst h') <;> simp -implicitDefEqProofs [*]) | ((with_reducible refine qaai ?_ ?_); (first | omega | (unfold maxLen; omega)); simp -implicitDefEqProofs [*]) | (with_reducible first | refine zM hm ?_ | refine zN hm ?_ | refine zO hm ?_ | refine zP hm ?_) | fail)
 all_goals (first | (simp [qac8, *]; done) | (simp_all [qac8]; done) | (simp_all [qac8]; omega))
theorem rlead_s (p : PlanD) (from_ to_ : Int) (q : Nat) : SCalls Try.prog 70 [.agg (qac1 p), .int .i64 from_, .int .i64 to_] [] q (.int .i64 (qaf9 p from_ to_)) [] := by
 refine qabw ?_ (fun _ => rfl) (fun _ => rfl) rfl q
 refine qaba (N := 25) Try.func70 rfl rfl (by kernel_rfl) qamq (by simp) (by repeat' (first | exact trivial | refine And.intro ?_ ?_ | rfl | decide | exact PureR.ren _)) (by repeat' (first | exact trivial | refine And.intro ?_ ?_ | rfl | decide | exact PureR.ren _)) ?_
 rintro X hP hN hm
 unfold c_rlead
 repeat' (first | (with_reducible first | refine zA ?_ | refine qaac ?_ | refine qaab ?_ | refine zK ?_) | ((with_reducible first | refine qaal ?_ | refine qaah (by rw [hP]; exact qaa4) ?_); (try rw [hP]); simp -implicitDefEqProofs [*]) | ((with_reducible first | refine qaaf ?_ | refine qaag ?_); (try simp -implicitDefEqProofs [*])) | ((with_reducible refine qaam ?_); (try simp only [qaas, qaad, qaaj])) | ((with_reducible refine qaae rfl (fun h => ?_) (fun h => ?_)) <;> have h' := h <;> (try simp at h') <;> (try subst h')) | ((with_reducible refine qaaa (fun h => ?_) (fun h => ?_)) <;> have h' := h <;> (try simp at h') <;> (try subst h') <;> simp -implicitDefEqProofs [*]) | ((with_reducible refine qaai ?_ ?_); (first | omega | (unfold maxLen; omega)); simp -implicitDefEqProofs [*]) | (with_reducible first | refine zM hm ?_ | refine zN hm ?_ | refine zO hm ?_ | refine zP hm ?_) | fail)
 all_goals ((try simp only [qaf9]); (repeat' split) <;> (first | omega | (simp_all; done) | (simp_all; omega)))
theorem qa1c (p : PlanD) (r : RefD) (args : List Int) (q : Nat) : SCalls Try.prog 10 [.agg (qac1 p), .agg (refc r), nums .i64 args] [] q (.int .i64 (qaca p r args)) [] := by
 refine qabw ?_ (fun _ => rfl) (fun _ => rfl) rfl q
 refine qaba (N := 53) Try.func10 rfl rfl (by kernel_rfl) qaju (by simp) (by repeat' (first | exact trivial | refine And.intro ?_ ?_ | rfl | decide | exact PureR.ren _)) (by repeat' (first | exact trivial | refine And.intro ?_ ?_ | rfl | decide | exact PureR.ren _)) ?_
 rintro X hP hN hm
 unfold c_rwidth
 by_cases hc : r.h = -3 ∧ r.f = 0
 ·obtain ⟨e1, e2⟩ := hc
  have hz : qaca p r args = 16 := by unfold qaca qaq4 qa1o; rw [e1, e2]; rfl
  rw [hz]
  repeat' (first | (with_reducible first | refine zA ?_ | refine qaac ?_ | refine qaab ?_ | refine zK ?_) | ((with_reducible first | refine qaal ?_ | refine qaah (by rw [hP]; exact qaa4) ?_); (try rw [hP]); simp -implicitDefEqProofs [*]) | ((with_reducible first | refine qaaf ?_ | refine qaag ?_); (try simp -implicitDefEqProofs [*])) | ((with_reducible refine qaam ?_); (try simp only [qaas, qaad, qaaj])) | ((with_reducible refine qaae rfl (fun h => ?_) (fun h => ?_)) <;> have h' := h <;> (try simp at h') <;> (try subst h')) | ((with_reducible refine qaaa (fun h => ?_) (fun h => ?_)) <;> have h' := h <;> (try simp at h') <;> (try subst h') <;> simp -implicitDefEqProofs [*]) | ((with_reducible refine qaai ?_ ?_); (first | omega | (unfold maxLen; omega)); simp -implicitDefEqProofs [*]) | (with_reducible first | refine zM hm ?_ | refine zN hm ?_ | refine zO hm ?_ | refine zP hm ?_) | fail)
  rfl
 ·replace hc := Lib.hid hc
  repeat' (first | (with_reducible first | refine zA ?_ | refine qaac ?_ | refine qaab ?_ | refine zK ?_) | ((with_reducible first | refine qaal ?_ | refine qaah (by rw [hP]; exact qaa4) ?_); (try rw [hP]); simp -implicitDefEqProofs [*]) | ((with_reducible first | refine qaaf ?_ | refine qaag ?_); (try simp -implicitDefEqProofs [*])) | ((with_reducible refine qaam ?_); (try simp only [qaas, qaad, qaaj])) | ((with_reducible refine qaae rfl (fun h => ?_) (fun h => ?_)) <;> have h' := h <;> (try simp at h') <;> (try subst h')) | ((with_reducible refine qaaa (fun h => ?_) (fun h => ?_)) <;> have h' := h <;> (try simp at h') <;> (try subst h') <;> simp -implicitDefEqProofs [*]) | ((with_reducible refine qaai ?_ ?_); (first | omega | (unfold maxLen; omega)); simp -implicitDefEqProofs [*]) | (with_reducible first | refine zM hm ?_ | refine zN hm ?_ | refine zO hm ?_ | refine zP hm ?_) | ((exfalso; have := hc.out; omega)) | fail)
  all_goals ((try simp only [qaca, qaq4, qa1o, headW, el]); (repeat' split) <;> (try first | omega | (simp_all; done) | (simp_all; omega)))
theorem qbcj (op : Int) (q : Nat) : SCalls Try.prog 15 [.int .i64 op] [] q (.int .i64 (qacg op)) [] := by
 refine qabw ?_ (fun _ => rfl) (fun _ => rfl) rfl q
 refine qaba (N := 13) Try.func15 rfl rfl (by kernel_rfl) qajv (by simp) (by repeat' (first | exact trivial | refine And.intro ?_ ?_ | rfl | decide | exact PureR.ren _)) (by repeat' (first | exact trivial | refine And.intro ?_ ?_ | rfl | decide | exact PureR.ren _)) ?_
 rintro X hP hN hm
 unfold c_rtakes
 by_cases h0 : op < 1
 ·have hz : qacg op = -1 := by unfold qacg; rw [if_neg (by omega), if_neg (by omega), if_neg (by omega)]
  rw [hz]
  repeat' (first | (with_reducible first | refine zA ?_ | refine qaac ?_ | refine qaab ?_ | refine zK ?_) | ((with_reducible first | refine qaal ?_ | refine qaah (by rw [hP]; exact qaa4) ?_); (try rw [hP]); simp -implicitDefEqProofs [*]) | ((with_reducible first | refine qaaf ?_ | refine qaag ?_); (try simp -implicitDefEqProofs [*])) | ((with_reducible refine qaam ?_); (try simp only [qaas, qaad, qaaj])) | ((with_reducible refine qaae rfl (fun h => ?_) (fun h => ?_)) <;> have h' := h <;> (try simp at h') <;> (try subst h')) | ((with_reducible refine qaaa (fun h => ?_) (fun h => ?_)) <;> have h' := h <;> (try simp at h') <;> (try subst h') <;> simp -implicitDefEqProofs [*]) | ((with_reducible refine qaai ?_ ?_); (first | omega | (unfold maxLen; omega)); simp -implicitDefEqProofs [*]) | (with_reducible first | refine zM hm ?_ | refine zN hm ?_ | refine zO hm ?_ | refine zP hm ?_) | fail)
  all_goals first | rfl | omega
 by_cases h9 : 13 < op
 ·have hz : qacg op = -1 := by unfold qacg; rw [if_neg (by omega), if_neg (by omega), if_neg (by omega)]
  rw [hz]
  repeat' (first | (with_reducible first | refine zA ?_ | refine qaac ?_ | refine qaab ?_ | refine zK ?_) | ((with_reducible first | refine qaal ?_ | refine qaah (by rw [hP]; exact qaa4) ?_); (try rw [hP]); simp -implicitDefEqProofs [*]) | ((with_reducible first | refine qaaf ?_ | refine qaag ?_); (try simp -implicitDefEqProofs [*])) | ((with_reducible refine qaam ?_); (try simp only [qaas, qaad, qaaj])) | ((with_reducible refine qaae rfl (fun h => ?_) (fun h => ?_)) <;> have h' := h <;> (try simp at h') <;> (try subst h')) | ((with_reducible refine qaaa (fun h => ?_) (fun h => ?_)) <;> have h' := h <;> (try simp at h') <;> (try subst h') <;> simp -implicitDefEqProofs [*]) | ((with_reducible refine qaai ?_ ?_); (first | omega | (unfold maxLen; omega)); simp -implicitDefEqProofs [*]) | (with_reducible first | refine zM hm ?_ | refine zN hm ?_ | refine zO hm ?_ | refine zP hm ?_) | fail)
  all_goals first | rfl | omega
 have : op = 1 ∨ op = 2 ∨ op = 3 ∨ op = 4 ∨ op = 5 ∨ op = 6 ∨ op = 7 ∨ op = 8 ∨ op = 9 ∨ op = 10 ∨ op = 11 ∨ op = 12 ∨ op = 13 := by omega
 clear h0 h9
 rcases this with rfl | rfl | rfl | rfl | rfl | rfl | rfl | rfl | rfl | rfl | rfl | rfl | rfl
 all_goals
  repeat' (first | (with_reducible first | refine zA ?_ | refine qaac ?_ | refine qaab ?_ | refine zK ?_) | ((with_reducible first | refine qaal ?_ | refine qaah (by rw [hP]; exact qaa4) ?_); (try rw [hP]); simp -implicitDefEqProofs [*]) | ((with_reducible first | refine qaaf ?_ | refine qaag ?_); (try simp -implicitDefEqProofs [*])) | ((with_reducible refine qaam ?_); (try simp only [qaas, qaad, qaaj])) | ((with_reducible refine qaae rfl (fun h => ?_) (fun h => ?_)) <;> have h' := h <;> (try simp at h') <;> (try subst h')) | ((with_reducible refine qaaa (fun h => ?_) (fun h => ?_)) <;> have h' := h <;> (try simp at h') <;> (try subst h') <;> simp -implicitDefEqProofs [*]) | ((with_reducible refine qaai ?_ ?_); (first | omega | (unfold maxLen; omega)); simp -implicitDefEqProofs [*]) | (with_reducible first | refine zM hm ?_ | refine zN hm ?_ | refine zO hm ?_ | refine zP hm ?_) | fail)
  rfl
end Go.Proofs.Ytnfjldobjgdiaaa
namespace Go.Proofs.Ytnfjldobjgdiaaa
set_option linter.all false
open Go.RowKit
attribute [local simp] qabs qabr qaa5 qabc qaa6 qabb qabp qabq qaa1 qab3 SOp.run SX.ev putd puts argS upds SOp.touch SSt.keep SSt.skip gets geth puth delh idOf SV.cells? setL qadd qade sbin eq0 eq1 eqL qadc qacd qace qaas qabt qaad qabu qab4 qaaj qaa3 FrzOk qabl qabf qabj qabk qaa7 qabe qab0 qabg qaa9 qabm qaa8 frzS frzH frz frz1 frz0 SlotsM ObjsM ObjM rn ren ren1 ren0 qab9 qaay qaaz qab8 qab1 qacq qacp CoL qabn qacs dels adds idsH qacf
attribute [local simp] qad0 refc qafc qae1 qacn opc actc tabc qaeg qac1 nums
theorem qaii (p : PlanD) (r : RefD) (q : Nat) : SCalls Try.prog 10 [.agg (qac1 p), .agg (refc r), .nilsl] [] q (.int .i64 (qaca p r [])) [] := qage (qa1c p r [] q) ⟨Co.refl _, Co.refl _, Co.nilsl _, trivial⟩
theorem rmay_s (p : PlanD) (r : RefD) (q : Nat) : SCalls Try.prog 89 [.agg (qac1 p), .agg (refc r)] [] q (.bool (qa0u p r)) [] := by
 refine qabw ?_ (fun _ => rfl) (fun _ => rfl) rfl q
 refine qaba (N := 14) Try.func89 rfl rfl (by kernel_rfl) qarh (by simp) (by repeat' (first | exact trivial | refine And.intro ?_ ?_ | rfl | decide | exact PureR.ren _)) (by repeat' (first | exact trivial | refine And.intro ?_ ?_ | rfl | decide | exact PureR.ren _)) ?_
 rintro X hP hN hm
 unfold c_rmay
 repeat' (first | (with_reducible first | refine zA ?_ | refine qaac ?_ | refine qaab ?_ | refine zK ?_) | ((with_reducible first | refine qaal ?_ | refine qaah (by rw [hP]; exact qaa4) ?_); (try rw [hP]); simp -implicitDefEqProofs [*]) | ((with_reducible first | refine qaaf ?_ | refine qaag ?_); (try simp -implicitDefEqProofs [*])) | ((with_reducible refine qaam ?_); (try simp only [qaas, qaad, qaaj])) | ((with_reducible refine qaae rfl (fun h => ?_) (fun h => ?_)) <;> have h' := h <;> (try simp at h') <;> (try subst h')) | ((with_reducible refine qaaa (fun h => ?_) (fun h => ?_)) <;> have h' := h <;> (try simp at h') <;> (try subst h') <;> simp -implicitDefEqProofs [*]) | ((with_reducible refine qaai ?_ ?_); (first | omega | (unfold maxLen; omega)); simp -implicitDefEqProofs [*]) | (refine qabd (qaii p r _) ?_; simp -implicitDefEqProofs [*]) | (with_reducible first | refine zM hm ?_ | refine zN hm ?_ | refine zO hm ?_ | refine zP hm ?_) | fail)
 all_goals (first | (simp [qa0u, *]; done) | (simp_all [qa0u]; done) | (simp_all [qa0u]; omega))
theorem qbbm (p : PlanD) (l : List PushD) (args : List Int) (hl : l.length ≤ 1000000) (q : Nat) : SCalls Try.prog 73 [.agg (qac1 p), qabz l, nums .i64 args] [] q (.int .i64 (qafd p l args)) [] := by
 refine qabw ?_ (fun _ => rfl) (fun _ => rfl) rfl q
 refine qaba (N := 55) Try.func73 rfl rfl (by kernel_rfl) qamt (by simp) (by repeat' (first | exact trivial | refine And.intro ?_ ?_ | rfl | decide | exact PureR.ren _)) (by repeat' (first | exact trivial | refine And.intro ?_ ?_ | rfl | decide | exact PureR.ren _)) ?_
 rintro X hP hN hm
 unfold c_rexpr
 by_cases h8 : 8 < l.length
 ·have hz : qafd p l args = 2 := by unfold qafd; rw [if_pos h8]
  rw [hz]
  have k8 : (8 : Int) < l.length := by omega
  repeat' (first | (with_reducible first | refine zA ?_ | refine qaac ?_ | refine qaab ?_ | refine zK ?_) | ((with_reducible first | refine qaal ?_ | refine qaah (by rw [hP]; exact qaa4) ?_); (try rw [hP]); simp -implicitDefEqProofs [qabz, *]) | ((with_reducible first | refine qaaf ?_ | refine qaag ?_); (try simp -implicitDefEqProofs [qabz, *])) | ((with_reducible refine qaam ?_); (try simp only [qaas, qaad, qaaj])) | ((with_reducible refine qaae rfl (fun h => ?_) (fun h => ?_)) <;> have h' := h <;> (try simp at h') <;> (try subst h')) | ((with_reducible refine qaaa (fun h => ?_) (fun h => ?_)) <;> have h' := h <;> (try simp at h') <;> (try subst h') <;> simp -implicitDefEqProofs [qabz, *]) | ((with_reducible refine qaai ?_ ?_); (first | omega | (unfold maxLen; omega)); simp -implicitDefEqProofs [qabz, *]) | (with_reducible first | refine zM hm ?_ | refine zN hm ?_ | refine zO hm ?_ | refine zP hm ?_) | ((exfalso; omega)) | fail)
  rfl
 have hF : qafd p l args = qagb p args (l.drop 0) 0 := by unfold qafd; rw [if_neg h8]; rfl
 have k8 : ¬ (8 : Int) < l.length := by omega
 generalize qafd p l args = F at hF
 replace hF := Lib.hid hF
 repeat' (first | (with_reducible first | refine zA ?_ | refine qaac ?_ | refine qaab ?_ | refine zK ?_) | ((with_reducible first | refine qaal ?_ | refine qaah (by rw [hP]; exact qaa4) ?_); (try rw [hP]); simp -implicitDefEqProofs [qabz, *]) | ((with_reducible first | refine qaaf ?_ | refine qaag ?_); (try simp -implicitDefEqProofs [qabz, *])) | ((with_reducible refine qaam ?_); (try simp only [qaas, qaad, qaaj])) | ((with_reducible refine qaae rfl (fun h => ?_) (fun h => ?_)) <;> have h' := h <;> (try simp at h') <;> (try subst h')) | ((with_reducible refine qaaa (fun h => ?_) (fun h => ?_)) <;> have h' := h <;> (try simp at h') <;> (try subst h') <;> simp -implicitDefEqProofs [qabz, *]) | ((with_reducible refine qaai ?_ ?_); (first | omega | (unfold maxLen; omega)); simp -implicitDefEqProofs [qabz, *]) | (with_reducible first | refine zM hm ?_ | refine zN hm ?_ | refine zO hm ?_ | refine zP hm ?_) | fail)
 refine qaa0 (qabi (fun s (x : Nat × Int) => s.turn [(7, .int .i64 x.2), (8, .int .i64 x.1)] []) (fun x => x.1 ≤ l.length ∧ (0 ≤ x.2 ∧ x.2 ≤ 2 * x.1) ∧ F = qagb p args (l.drop x.1) x.2) (fun x => l.length - x.1) (0, 0) ?_ ⟨by simp, by simp, hF.out⟩ ?_)
 ·repeat' (first | ((with_reducible refine qaar [] hm ?_ ?_ ?_ ?_) <;> (try simp only [zT, puth, Nat.reduceEqDiff, reduceIte, Nat.reduceAdd])) | (with_reducible first | refine za ?_ ?_ | refine zb ?_ ?_ ?_ ?_ | refine zc ?_ ?_ ?_ ?_ | refine zd ?_ ?_ ?_ ?_ | refine qaap ?_ ?_ | refine qaan ?_ ?_) | (with_reducible first | exact qaak | exact qaao | exact qaat | exact qaau | exact Co.refl _ | exact CoL.refl _ | exact CoLL.refl _) | ((with_reducible first | refine zga ?_ | refine zgb ?_); rfl) | ((with_reducible refine zgc ?_); (first | (with_reducible rfl) | rfl | (simp; done))) | ((with_reducible first | refine zgd ?_ | refine zge ?_); (first | omega | (simp; done))) | (refine qaaw ⟨?_, ?_⟩ ?_ <;> omega) | (exact Co.refl _) | (exact CoL.refl _) | (exact CoLL.refl _) | (refine qaaz ?_; omega) | (refine qaay ?_; first | omega | (simp_all; done)) | (with_reducible first | refine qaav ?_ ?_ | refine qaaq ?_ ?_) | fail)
 rintro J hJ ⟨i, n⟩ ⟨h1, h2, h3⟩
 unfold qak1
 simp only [zT, puth, Nat.reduceEqDiff, reduceIte, Nat.reduceAdd] at h1 h2 h3 ⊢
 rcases Nat.lt_or_ge i l.length with hi | hi
 ·rw [List.drop_eq_getElem_cons hi, qaht] at h3
  generalize hxx : l[i] = x at h3
  have wi : IntKind.i64.wrap ((i : Int) + 1) = (i : Int) + 1 := qaa2 (by omega) (by omega)
  have ht : -1 ≤ qacg x.op ∧ qacg x.op ≤ 2 := by unfold qacg; repeat' split <;> omega
  have hc := fun q => qbcj x.op q
  have w1 : IntKind.i64.wrap (n - qacg x.op) = n - qacg x.op := IntWalk.i64_in _ ⟨by omega, by omega⟩
  have w2 : IntKind.i64.wrap (n - qacg x.op + 1) = n - qacg x.op + 1 := IntWalk.i64_in _ ⟨by omega, by omega⟩
  generalize qacg x.op = T at h3 ht hc w1 w2
  replace h3 := Lib.hid h3
  repeat' (first | (with_reducible first | refine zA ?_ | refine qaac ?_ | refine qaab ?_ | refine zK ?_) | ((with_reducible first | refine qaal ?_ | refine qaah (by rw [hP]; exact qaa4) ?_); (try rw [hP]); simp -implicitDefEqProofs [qabz, *]) | ((with_reducible first | refine qaaf ?_ | refine qaag ?_); (try simp -implicitDefEqProofs [qabz, *])) | ((with_reducible refine qaam ?_); (try simp only [qaas, qaad, qaaj])) | ((with_reducible refine qaae rfl (fun h => ?_) (fun h => ?_)) <;> have h' := h <;> (try simp at h') <;> (try subst h')) | ((with_reducible refine qaaa (fun h => ?_) (fun h => ?_)) <;> have h' := h <;> (try simp at h') <;> (try subst h') <;> simp -implicitDefEqProofs [qabz, *]) | ((with_reducible refine qaai ?_ ?_); (first | omega | (unfold maxLen; omega)); simp -implicitDefEqProofs [qabz, *]) | ((first | refine qabd (hc _) ?_ | refine qabd (qa1c p x.r args _) ?_); simp -implicitDefEqProofs [qabz, *]) | (with_reducible first | refine zM hm ?_ | refine zN hm ?_ | refine zO hm ?_ | refine zP hm ?_) | ((with_reducible refine qaar [] hm ?_ ?_ ?_ ?_) <;> (try simp only [zT, puth, Nat.reduceEqDiff, reduceIte, Nat.reduceAdd])) | (with_reducible first | refine za ?_ ?_ | refine zb ?_ ?_ ?_ ?_ | refine zc ?_ ?_ ?_ ?_ | refine zd ?_ ?_ ?_ ?_ | refine qaap ?_ ?_ | refine qaan ?_ ?_) | (with_reducible first | exact qaak | exact qaao | exact qaat | exact qaau | exact Co.refl _ | exact CoL.refl _ | exact CoLL.refl _) | ((with_reducible first | refine zga ?_ | refine zgb ?_); rfl) | ((with_reducible refine zgc ?_); (first | (with_reducible rfl) | rfl | (simp; done))) | ((with_reducible first | refine zgd ?_ | refine zge ?_); (first | omega | (simp; done))) | (refine qaaw ⟨?_, ?_⟩ ?_ <;> omega) | (exact Co.refl _) | (exact CoL.refl _) | (exact CoLL.refl _) | (refine qaaz ?_; omega) | (refine qaay ?_; first | omega | (simp_all; done)) | (with_reducible first | refine qaav ?_ ?_ | refine qaaq ?_ ?_) | ((refine qaax hJ (i + 1, n - T + 1) ?_ ?_ ?_; (with_reducible refine qaar [] hm ?_ ?_ ?_ ?_) <;> (try simp only [zT, puth, Nat.reduceEqDiff, reduceIte, Nat.reduceAdd]))) | fail)
  all_goals (try dsimp only)
  all_goals (first | (rw [h3.out]; simp_all; done) | (refine ⟨by omega, ⟨by omega, by omega⟩, ?_⟩; rw [h3.out, if_neg (by omega), if_neg (by simp_all), show n - T + 1 = n + (1 - T) by omega]) | skip)
 ·obtain rfl : i = l.length := by omega
  rw [List.drop_length, qajj] at h3
  replace h3 := Lib.hid h3
  repeat' (first | (with_reducible first | refine zA ?_ | refine qaac ?_ | refine qaab ?_ | refine zK ?_) | ((with_reducible first | refine qaal ?_ | refine qaah (by rw [hP]; exact qaa4) ?_); (try rw [hP]); simp -implicitDefEqProofs [qabz, *]) | ((with_reducible first | refine qaaf ?_ | refine qaag ?_); (try simp -implicitDefEqProofs [qabz, *])) | ((with_reducible refine qaam ?_); (try simp only [qaas, qaad, qaaj])) | ((with_reducible refine qaae rfl (fun h => ?_) (fun h => ?_)) <;> have h' := h <;> (try simp at h') <;> (try subst h')) | ((with_reducible refine qaaa (fun h => ?_) (fun h => ?_)) <;> have h' := h <;> (try simp at h') <;> (try subst h') <;> simp -implicitDefEqProofs [qabz, *]) | ((with_reducible refine qaai ?_ ?_); (first | omega | (unfold maxLen; omega)); simp -implicitDefEqProofs [qabz, *]) | (with_reducible first | refine zM hm ?_ | refine zN hm ?_ | refine zO hm ?_ | refine zP hm ?_) | fail)
  all_goals (rw [h3.out]; simp_all; done)
end Go.Proofs.Ytnfjldobjgdiaaa
