/-
  Texts joined: XFlwD XFlwE XTrow XFlwF XCplr XPlnR XPlnS XPlnT XWlkF XWlkG XWlkH XFlwG. No condition.
-/
import Derived.Test.YteoijlmgiemffaaGreatProg
import Derived.ProofKit
import Derived.WalkSpells
import Derived.RegionTactic
import Derived.BigRegion
import Derived.Deep.RegionLaw
import Derived.Test.YteoijlmgiemffaaGreatLowerShapesK5
namespace Go.Proofs.YteoijlmgiemffaaGreat
set_option linter.all false
open Go.RowKit
attribute [local simp] qabi qabh qaax qaa7 qaay qaa6 qabf qabg qaar qabr SOp.run SX.ev putd puts argS upds SOp.touch SSt.keep SSt.skip gets geth puth delh idOf SV.cells? setL qadh qadi sbin eq0 eq1 eqL qadf qab9 qaca qaap qabk qaag qabl qabs qaaj qaaq FrzOk qaba qaa1 qaa8 qaa9 qaat qaa0 qabm qaa2 qaav qabb qaau frzS frzH frz frz1 frz0 SlotsM ObjsM ObjM rn ren ren1 ren0 qabu qab7 qacf qabt qabn qacg qace CoL qabc qab3 dels adds idsH qabz
attribute [local simp] qadt refc qaes qaei qab8 opc actc tabc qaea qacm nums bvc fcR
set_option maxHeartbeats 4000000 in
theorem fact_s (p : PlanD) (n : Nat) (a b : Int) (l : List (BitVec 64)) (k : Nat) (hk : k < p.acts.length) (hops : ∀ o ∈ p.acts[k].ops, OpOk p o) (h6 : p.heads.length ≤ 6) (hol : p.acts[k].ops.length ≤ 1000) (htl : ∀ o ∈ p.acts[k].ops, o.e.length ≤ 1000) (m : BitVec 64) (at_ : Int) (q : Nat) (hq : 2 ≤ q) :
  SCalls Tryz.prog 141 [.ptr 0 0, .int .i64 k, .int .u64 m.toNat, .int .i64 at_] [(0, .cells 209 (fcR p 1 n a b)), (1, qaf2 l)] q (.int .u64 (opsM p.acts[k].ops m).toNat) [(0, .cells 209 (fcR p 1 n (qab0 a b (qac3 p.acts[k].ops m) 12 at_).1 (qab0 a b (qac3 p.acts[k].ops m) 12 at_).2)), (1, qaf2 l)] := by
 refine qa6b q hq rfl (fun _ => rfl) rfl ?_
 refine qaas (N := 82) Tryz.func141 rfl rfl (by kernel_rfl) qauo (by simp) (by repeat' (first | exact trivial | refine And.intro ?_ ?_ | rfl | decide | exact PureR.ren _)) (by repeat' (first | exact trivial | refine And.intro ?_ ?_ | rfl | decide | exact PureR.ren _)) ?_
 rintro X hP hN hm
 unfold c_fact
 have hF : qab0 a b (qac3 p.acts[k].ops m) 12 at_ = qab0 a b (qac3 (p.acts[k].ops.drop 0) m) 12 at_ := rfl
 have hM : opsM p.acts[k].ops m = opsM (p.acts[k].ops.drop 0) m := rfl
 generalize qab0 a b (qac3 p.acts[k].ops m) 12 at_ = F at hF
 generalize opsM p.acts[k].ops m = M at hM
 generalize hxx : p.acts[k] = x at hF hM hops hol htl
 generalize hyy : x.ops = ops at hF hM hops hol htl
 replace hF := Lib.hid hF
 replace hM := Lib.hid hM
 replace hops := Lib.hid hops
 replace htl := Lib.hid htl
 repeat' (first | (with_reducible refine zA ?_) | ((with_reducible refine qaac ?_); (try rw [hP]); simp -implicitDefEqProofs [*]) | fail)
 refine qaal (qaa5 (fun s (z : Nat × Int × Int × BitVec 64) => s.turn [(2, .int .u64 z.2.2.2.toNat), (21, .int .i64 z.1)] [(0, .cells 209 (fcR p 1 n z.2.1 z.2.2.1))]) (fun z => z.1 ≤ ops.length ∧ F = qab0 z.2.1 z.2.2.1 (qac3 (ops.drop z.1) z.2.2.2) 12 at_ ∧ M = opsM (ops.drop z.1) z.2.2.2) (fun z => ops.length - z.1) (0, a, b, m) ?_ ⟨by simp, hF.out, hM.out⟩ ?_)
 ·repeat' (first | ((with_reducible refine qaah [] hm ?_ ?_ ?_ ?_) <;> (try simp only [zT, puth, Nat.reduceEqDiff, reduceIte, Nat.reduceAdd])) | (with_reducible first | refine za ?_ ?_ | refine zb ?_ ?_ ?_ ?_ | refine zc ?_ ?_ ?_ ?_) | (with_reducible first | exact qaab | exact qaad) | ((with_reducible first | refine zga ?_ | refine zgb ?_); rfl) | ((with_reducible refine zgc ?_); (first | (with_reducible rfl) | rfl | (simp; done))) | ((with_reducible refine zgd ?_); (first | omega | (simp; done))) | (exact Co.refl _) | (exact CoL.refl _) | fail)
 rintro J hJ ⟨i, e, g, mm⟩ ⟨h1, h2, h3⟩
 unfold qatw
 simp only [zT, puth, Nat.reduceEqDiff, reduceIte, Nat.reduceAdd] at h1 h2 h3 ⊢
 clear hF hM
 rcases Nat.lt_or_ge i ops.length with hi | hi
 ·have ok := hops.out ops[i] (List.getElem_mem hi)
  have hel := htl.out ops[i] (List.getElem_mem hi)
  rw [List.drop_eq_getElem_cons hi] at h2 h3
  generalize hoo : ops[i] = o at ok hel h2 h3
  have h2' : F = qab0 e g (qacq o mm || qac3 (ops.drop (i + 1)) (qaf3 o mm)) 12 at_ := h2
  rw [← qahx _ _ _ _ _ _ (by decide)] at h2'
  have h3' : M = opsM (ops.drop (i + 1)) (qaf3 o mm) := h3
  clear h2 h3
  have wi : IntKind.i64.wrap ((i : Int) + 1) = (i : Int) + 1 := qaao (by omega) (by omega)
  have kinds : o.kind = 1 ∨ o.kind = 2 ∨ o.kind = 3 ∨ o.kind = 4 ∨ o.kind = 5 ∨ o.kind = 6 := by have := ok.kind; omega
  have htree := fun hx e g q hq => qbh6 p n e g l o.e mm at_ hx h6 hel q hq
  have href := fun hx e g q hq => qbjs p n e g l o.r mm at_ hx q hq
  have hbit := fun h0 h1 q => qbj0 o.head h0 h1 q
  have hfail := fun e g is q hq => qa6a p n e g l is at_ q hq
  have okr := ok.ref
  have oke := ok.ex
  have okh := ok.head
  clear ok
  replace htree := Lib.hid htree
  replace href := Lib.hid href
  replace hbit := Lib.hid hbit
  replace hfail := Lib.hid hfail
  rcases kinds with kk | kk | kk | kk | kk | kk
  ·have hb : qacq o mm = (qad7 o.e mm || qaet o.r mm) := by unfold qacq; rw [if_pos kk]
   have hd : qaf3 o mm = mm := by unfold qaf3; rw [if_neg (by omega), if_neg (by omega)]
   have k1 : (o.kind == 1) = true := by simpa using kk
   rw [hd, hb, ← qahx _ _ _ _ _ _ (by decide)] at h2'
   rw [hd] at h3'
   have hte := fun e g q hq => htree.out (oke (.inl kk)) e g q hq
   have hre := fun e g q hq => href.out (by have := okr (.inl kk); omega) e g q hq
   generalize qad7 o.e mm = G1 at h2' hte
   generalize qaet o.r mm = G2 at h2' hre
   clear kk okr oke okh hb hd
   replace h2' := Lib.hid h2'
   replace h3' := Lib.hid h3'
   replace hte := Lib.hid hte
   replace hre := Lib.hid hre
   repeat' (first | (with_reducible first | refine zA ?_ | refine qaae ?_) | ((with_reducible refine qaac ?_); (try rw [hP]); simp -implicitDefEqProofs [*]) | ((with_reducible refine qaaf ?_); (try simp -implicitDefEqProofs [*])) | ((with_reducible refine qaaa rfl (fun h => ?_) (fun h => ?_)) <;> have h' := h <;> (try simp at h') <;> (try subst h')) | ((first | refine qabv (hte.out _ _ _ (by simp)) ⟨rfl, rfl, trivial⟩ ⟨rfl, rfl, trivial⟩ ?_ | refine qabv (hre.out _ _ _ (by simp)) ⟨rfl, rfl, trivial⟩ ⟨rfl, rfl, trivial⟩ ?_); simp -implicitDefEqProofs [*]) | (with_reducible first | refine za ?_ ?_ | refine zb ?_ ?_ ?_ ?_ | refine zc ?_ ?_ ?_ ?_) | (with_reducible first | exact qaab | exact qaad) | ((with_reducible first | refine zga ?_ | refine zgb ?_); rfl) | ((with_reducible refine zgc ?_); (first | (with_reducible rfl) | rfl | (simp; done))) | ((with_reducible first | refine zgd ?_ | refine zge ?_); (first | omega | (simp; done))) | (exact Co.refl _) | (exact CoL.refl _) | ((refine qaai hJ (i + 1, ?_, ?_, mm) ?_ ?_ ?_; rotate_left 2; (with_reducible refine qaah [] hm ?_ ?_ ?_ ?_) <;> (try simp only [zT, puth, Nat.reduceEqDiff, reduceIte, Nat.reduceAdd]))) | fail)
   all_goals (try dsimp only)
   all_goals (exact ⟨by omega, h2'.out, h3'.out⟩)
  ·have hb : qacq o mm = false := by unfold qacq; rw [if_neg (by omega), if_neg (by omega), if_neg (by omega)]
   have hd : qaf3 o mm = mm ||| bitB o.head := by unfold qaf3; rw [if_pos kk]
   have k1 : (o.kind == 1) = false := by rw [kk]; rfl
   have k5 : (o.kind == 5) = false := by rw [kk]; rfl
   have k2 : (o.kind == 2) = true := by simpa using kk
   have hh := okh (.inl kk)
   rw [hd, hb, qabp] at h2'
   rw [hd] at h3'
   have hbi := fun q => hbit.out hh.1 (by omega) q
   obtain ⟨MM, hMM⟩ : ∃ MM, mm ||| bitB o.head = MM := ⟨_, rfl⟩
   rw [hMM] at h2' h3'
   clear kk okr oke okh hb hd
   replace h2' := Lib.hid h2'
   replace h3' := Lib.hid h3'
   replace hbi := Lib.hid hbi
   repeat' (first | (with_reducible first | refine zA ?_ | refine qaae ?_) | ((with_reducible refine qaac ?_); (try rw [hP]); simp -implicitDefEqProofs [-BitVec.toNat_or, qabq, *]) | ((with_reducible refine qaaf ?_); (try simp -implicitDefEqProofs [-BitVec.toNat_or, qabq, *])) | ((with_reducible refine qaaa rfl (fun h => ?_) (fun h => ?_)) <;> have h' := h <;> (try simp at h') <;> (try subst h')) | (refine qaaw (hbi.out _) ?_; simp -implicitDefEqProofs [-BitVec.toNat_or, qabq, *]) | (with_reducible first | refine za ?_ ?_ | refine zb ?_ ?_ ?_ ?_ | refine zc ?_ ?_ ?_ ?_) | (with_reducible first | exact qaab | exact qaad) | ((with_reducible first | refine zga ?_ | refine zgb ?_); rfl) | ((with_reducible refine zgc ?_); (first | (with_reducible rfl) | rfl | (simp; done))) | ((with_reducible first | refine zgd ?_ | refine zge ?_); (first | omega | (simp; done))) | (exact Co.refl _) | (exact CoL.refl _) | ((refine qaai hJ (i + 1, e, g, MM) ?_ ?_ ?_; (with_reducible refine qaah [] hm ?_ ?_ ?_ ?_) <;> (try simp only [zT, puth, Nat.reduceEqDiff, reduceIte, Nat.reduceAdd]))) | fail)
   all_goals (exact ⟨by dsimp only; omega, h2'.out, h3'.out⟩)
  ·have hb : qacq o mm = false := by unfold qacq; rw [if_neg (by omega), if_neg (by omega), if_neg (by omega)]
   have hd : qaf3 o mm = mm &&& ~~~(bitB o.head) := by unfold qaf3; rw [if_neg (by omega), if_pos kk]
   have k1 : (o.kind == 1) = false := by rw [kk]; rfl
   have k5 : (o.kind == 5) = false := by rw [kk]; rfl
   have k2 : (o.kind == 2) = false := by rw [kk]; rfl
   have k3 : (o.kind == 3) = true := by simpa using kk
   have hh := okh (.inr (.inl kk))
   rw [hd, hb, qabp] at h2'
   rw [hd] at h3'
   have hbi := fun q => hbit.out hh.1 (by omega) q
   clear kk okr oke okh hb hd
   replace h2' := Lib.hid h2'
   replace h3' := Lib.hid h3'
   replace hbi := Lib.hid hbi
   repeat' (first | (with_reducible first | refine zA ?_ | refine qaae ?_) | ((with_reducible refine qaac ?_); (try rw [hP]); simp -implicitDefEqProofs [-BitVec.toNat_and, -BitVec.toNat_not, qadd, *]) | ((with_reducible refine qaaf ?_); (try simp -implicitDefEqProofs [-BitVec.toNat_and, -BitVec.toNat_not, qadd, *])) | ((with_reducible refine qaaa rfl (fun h => ?_) (fun h => ?_)) <;> have h' := h <;> (try simp at h') <;> (try subst h')) | (refine qaaw (hbi.out _) ?_; simp -implicitDefEqProofs [-BitVec.toNat_and, -BitVec.toNat_not, qadd, *]) | (with_reducible first | refine za ?_ ?_ | refine zb ?_ ?_ ?_ ?_ | refine zc ?_ ?_ ?_ ?_) | (with_reducible first | exact qaab | exact qaad) | ((with_reducible first | refine zga ?_ | refine zgb ?_); rfl) | ((with_reducible refine zgc ?_); (first | (with_reducible rfl) | rfl | (simp; done))) | ((with_reducible first | refine zgd ?_ | refine zge ?_); (first | omega | (simp; done))) | (exact Co.refl _) | (exact CoL.refl _) | ((refine qaai hJ (i + 1, e, g, mm &&& ~~~(bitB o.head)) ?_ ?_ ?_; (with_reducible refine qaah [] hm ?_ ?_ ?_ ?_) <;> (try simp only [zT, puth, Nat.reduceEqDiff, reduceIte, Nat.reduceAdd]))) | fail)
   all_goals (exact ⟨by dsimp only; omega, h2'.out, h3'.out⟩)
  ·have hb : qacq o mm = false := by unfold qacq; rw [if_neg (by omega), if_neg (by omega), if_neg (by omega)]
   have hd : qaf3 o mm = mm := by unfold qaf3; rw [if_neg (by omega), if_neg (by omega)]
   have k1 : (o.kind == 1) = false := by rw [kk]; rfl
   have k2 : (o.kind == 2) = false := by rw [kk]; rfl
   have k3 : (o.kind == 3) = false := by rw [kk]; rfl
   have k5 : (o.kind == 5) = false := by rw [kk]; rfl
   have k6 : (o.kind == 6) = false := by rw [kk]; rfl
   rw [hd, hb, qabp] at h2'
   rw [hd] at h3'
   clear kk okr oke okh hb hd
   replace h2' := Lib.hid h2'
   replace h3' := Lib.hid h3'
   repeat' (first | (with_reducible first | refine zA ?_ | refine qaae ?_) | ((with_reducible refine qaac ?_); (try rw [hP]); simp -implicitDefEqProofs [*]) | ((with_reducible refine qaaf ?_); (try simp -implicitDefEqProofs [*])) | ((with_reducible refine qaaa rfl (fun h => ?_) (fun h => ?_)) <;> have h' := h <;> (try simp at h') <;> (try subst h')) | (with_reducible first | refine za ?_ ?_ | refine zb ?_ ?_ ?_ ?_ | refine zc ?_ ?_ ?_ ?_) | (with_reducible first | exact qaab | exact qaad) | ((with_reducible first | refine zga ?_ | refine zgb ?_); rfl) | ((with_reducible refine zgc ?_); (first | (with_reducible rfl) | rfl | (simp; done))) | ((with_reducible first | refine zgd ?_ | refine zge ?_); (first | omega | (simp; done))) | (exact Co.refl _) | (exact CoL.refl _) | ((refine qaai hJ (i + 1, e, g, mm) ?_ ?_ ?_; (with_reducible refine qaah [] hm ?_ ?_ ?_ ?_) <;> (try simp only [zT, puth, Nat.reduceEqDiff, reduceIte, Nat.reduceAdd]))) | fail)
   all_goals (exact ⟨by dsimp only; omega, h2'.out, h3'.out⟩)
  ·have hb : qacq o mm = qad7 o.e mm := by unfold qacq; rw [if_neg (by omega), if_pos kk]
   have hd : qaf3 o mm = mm := by unfold qaf3; rw [if_neg (by omega), if_neg (by omega)]
   have k1 : (o.kind == 1) = false := by rw [kk]; rfl
   have k5 : (o.kind == 5) = true := by simpa using kk
   rw [hd, hb] at h2'
   rw [hd] at h3'
   have hte := fun e g q hq => htree.out (oke (.inr kk)) e g q hq
   generalize qad7 o.e mm = G1 at h2' hte
   clear kk okr oke okh hb hd
   replace h2' := Lib.hid h2'
   replace h3' := Lib.hid h3'
   replace hte := Lib.hid hte
   repeat' (first | (with_reducible first | refine zA ?_ | refine qaae ?_) | ((with_reducible refine qaac ?_); (try rw [hP]); simp -implicitDefEqProofs [*]) | ((with_reducible refine qaaf ?_); (try simp -implicitDefEqProofs [*])) | ((with_reducible refine qaaa rfl (fun h => ?_) (fun h => ?_)) <;> have h' := h <;> (try simp at h') <;> (try subst h')) | (refine qabv (hte.out _ _ _ (by simp)) ⟨rfl, rfl, trivial⟩ ⟨rfl, rfl, trivial⟩ ?_; simp -implicitDefEqProofs [*]) | (with_reducible first | refine za ?_ ?_ | refine zb ?_ ?_ ?_ ?_ | refine zc ?_ ?_ ?_ ?_) | (with_reducible first | exact qaab | exact qaad) | ((with_reducible first | refine zga ?_ | refine zgb ?_); rfl) | ((with_reducible refine zgc ?_); (first | (with_reducible rfl) | rfl | (simp; done))) | ((with_reducible first | refine zgd ?_ | refine zge ?_); (first | omega | (simp; done))) | (exact Co.refl _) | (exact CoL.refl _) | ((refine qaai hJ (i + 1, ?_, ?_, mm) ?_ ?_ ?_; rotate_left 2; (with_reducible refine qaah [] hm ?_ ?_ ?_ ?_) <;> (try simp only [zT, puth, Nat.reduceEqDiff, reduceIte, Nat.reduceAdd]))) | fail)
   all_goals (try dsimp only)
   all_goals (exact ⟨by omega, h2'.out, h3'.out⟩)
  ·have hb : qacq o mm = ((mm &&& bitB o.head == 0) || qaet o.r mm) := by unfold qacq; rw [if_neg (by omega), if_neg (by omega), if_pos kk]
   have hd : qaf3 o mm = mm := by unfold qaf3; rw [if_neg (by omega), if_neg (by omega)]
   have k1 : (o.kind == 1) = false := by rw [kk]; rfl
   have k2 : (o.kind == 2) = false := by rw [kk]; rfl
   have k3 : (o.kind == 3) = false := by rw [kk]; rfl
   have k5 : (o.kind == 5) = false := by rw [kk]; rfl
   have k6 : (o.kind == 6) = true := by simpa using kk
   have hh := okh (.inr (.inr kk))
   rw [hd, hb, ← qahx _ _ _ _ _ _ (by decide)] at h2'
   rw [hd] at h3'
   have hre := fun e g q hq => href.out (by have := okr (.inr kk); omega) e g q hq
   have hbi := fun q => hbit.out hh.1 (by omega) q
   generalize qaet o.r mm = G2 at h2' hre
   clear kk okr oke okh hb hd
   replace h2' := Lib.hid h2'
   replace h3' := Lib.hid h3'
   replace hre := Lib.hid hre
   replace hbi := Lib.hid hbi
   repeat' (first | (with_reducible first | refine zA ?_ | refine qaae ?_) | ((with_reducible refine qaac ?_); (try rw [hP]); simp -implicitDefEqProofs [-BitVec.toNat_and, qaa3, qacn, *]) | ((with_reducible refine qaaf ?_); (try simp -implicitDefEqProofs [-BitVec.toNat_and, qaa3, qacn, *])) | ((with_reducible refine qaaa rfl (fun h => ?_) (fun h => ?_)) <;> have h' := h <;> (try simp at h') <;> (try subst h')) | ((first | refine qaaw (hbi.out _) ?_ | refine qabv (hfail.out _ _ _ _ (by simp)) ⟨rfl, rfl, trivial⟩ ⟨rfl, rfl, trivial⟩ ?_ | refine qabv (hre.out _ _ _ (by simp)) ⟨rfl, rfl, trivial⟩ ⟨rfl, rfl, trivial⟩ ?_); simp -implicitDefEqProofs [-BitVec.toNat_and, qaa3, qacn, *]) | (with_reducible first | refine za ?_ ?_ | refine zb ?_ ?_ ?_ ?_ | refine zc ?_ ?_ ?_ ?_) | (with_reducible first | exact qaab | exact qaad) | ((with_reducible first | refine zga ?_ | refine zgb ?_); rfl) | ((with_reducible refine zgc ?_); (first | (with_reducible rfl) | rfl | (simp; done))) | ((with_reducible first | refine zgd ?_ | refine zge ?_); (first | omega | (simp; done))) | (exact Co.refl _) | (exact CoL.refl _) | ((refine qaai hJ (i + 1, ?_, ?_, mm) ?_ ?_ ?_; rotate_left 2; (with_reducible refine qaah [] hm ?_ ?_ ?_ ?_) <;> (try simp only [zT, puth, Nat.reduceEqDiff, reduceIte, Nat.reduceAdd]))) | fail)
   all_goals (try dsimp only)
   all_goals (exact ⟨by omega, h2'.out, h3'.out⟩)
 ·obtain rfl : i = ops.length := by omega
  rw [List.drop_length] at h2 h3
  have h4 : F = (e, g) := by rw [h2]; exact qabp e g 12 at_
  have h5 : M = mm := h3
  subst h4 h5
  clear h2 h3
  repeat' (first | (with_reducible refine zA ?_) | ((with_reducible refine qaac ?_); (try rw [hP]); simp -implicitDefEqProofs [*]) | ((with_reducible refine qaak ?_); (try simp -implicitDefEqProofs [*])) | ((with_reducible refine qaam ?_); (try simp only [qaap, qaag, qaaj])) | ((with_reducible refine qaaa rfl (fun h => ?_) (fun h => ?_)) <;> have h' := h <;> (try simp at h') <;> (try subst h')) | (refine fin_fv hm rfl (qafk _ _) rfl rfl ?_ rfl) | fail)
  all_goals rfl
end Go.Proofs.YteoijlmgiemffaaGreat
namespace Go.Proofs.YteoijlmgiemffaaGreat
set_option linter.all false
open Go.RowKit
attribute [local simp] qabi qabh qaax qaa7 qaay qaa6 qabf qabg qaar qabr SOp.run SX.ev putd puts argS upds SOp.touch SSt.keep SSt.skip gets geth puth delh idOf SV.cells? setL qadh qadi sbin eq0 eq1 eqL qadf qab9 qaca qaap qabk qaag qabl qabs qaaj qaaq FrzOk qaba qaa1 qaa8 qaa9 qaat qaa0 qabm qaa2 qaav qabb qaau frzS frzH frz frz1 frz0 SlotsM ObjsM ObjM rn ren ren1 ren0 qabu qab7 qacf qabt qabn qacg qace CoL qabc qab3 dels adds idsH qabz
attribute [local simp] qadt refc qaes qaei qab8 opc actc tabc qaea qacm nums bvc fcR
theorem all_eq (m : BitVec 64) : ((m.toNat : Int) == 18446744073709551615) = decide (m = allB) := by
 have e : ((allB.toNat : Nat) : Int) = 18446744073709551615 := rfl
 rw [← e, Bool.eq_iff_iff, beq_iff_eq, decide_eq_true_eq]
 exact qbd5
set_option maxHeartbeats 4000000 in
theorem fnode_s (p : PlanD) (hf : FOk p) (hp : PlOk p) (hs : SmallP p) (i : Nat) (hi : i < p.nodes.length) (a b : Int) (l : List (BitVec 64)) (hl : l.length = p.nodes.length + 1) (q : Nat) (hq : 2 ≤ q) :
  SCalls Tryz.prog 110 [.ptr 0 0, .int .i64 i] [(0, .cells 209 (fcR p 1 (p.nodes.length + 1) a b)), (1, qaf2 l)] q (.tup []) [(0, .cells 209 (fcR p 1 (p.nodes.length + 1) (qab0 a b (!decide (l.getD i allB = allB) && qacx p p.nodes[i] (l.getD i allB)) 12 (6000 + i)).1 (qab0 a b (!decide (l.getD i allB = allB) && qacx p p.nodes[i] (l.getD i allB)) 12 (6000 + i)).2)), (1, qaf2 (qa5v p p.nodes[i] i l))] := by
 refine qa6b q hq rfl (fun _ => rfl) rfl ?_
 refine qaas (N := 134) Tryz.func110 rfl rfl (by kernel_rfl) qao1 (by simp) (by repeat' (first | exact trivial | refine And.intro ?_ ?_ | rfl | decide | exact PureR.ren _)) (by repeat' (first | exact trivial | refine And.intro ?_ ?_ | rfl | decide | exact PureR.ren _)) ?_
 rintro X hP hN hm
 unfold c_fnode
 have hn := hf.few
 have hli : i < l.length := by omega
 have hget3 : l[i]'hli = l.getD i allB := by rw [List.getD_eq_getElem?_getD, List.getElem?_eq_getElem hli]; rfl
 have hget : l[i]? = some (l.getD i allB) := by rw [← hget3]; exact List.getElem?_eq_getElem hli
 have ok := hf.nodes i hi
 have hS : qa5v p p.nodes[i] i l = if l.getD i allB = allB then l else if twoB p.nodes[i] = true then qam9 (qam9 l p.nodes[i].yes (qacp p p.nodes[i] (l.getD i allB))) p.nodes[i].no (qadr p.nodes[i] (l.getD i allB)) else qam9 l p.nodes[i].yes (qacp p p.nodes[i] (l.getD i allB)) := rfl
 have hel := hs.node _ (List.getElem_mem hi)
 generalize l.getD i allB = m at hget3 hget hS
 generalize hxx : p.nodes[i] = x at ok hS hel
 generalize qa5v p x i l = L at hS
 have wa : IntKind.i64.wrap (6000 + (i : Int)) = 6000 + (i : Int) := qaao (by omega) (by omega)
 have hall := all_eq m
 cases kA : decide (m = allB)
 ·rw [kA] at hall
  have kA' := of_decide_eq_false kA
  rw [if_neg kA'] at hS
  rw [Bool.not_false, Bool.true_and]
  have hyes := ok.yes
  have hno := ok.no
  have tail : ∀ (Y N : BitVec 64) (e g : Int), qacp p x m = Y → qadr x m = N → SWp X (SCode.seq (SCode.reg true qad0 [0, 4, 7]) (SCode.seq (SCode.reg false qadz [0, 4, 7, 122]) (SCode.cond (SX.t 122) (SCode.reg true qady []) SCode.skip))) (QFun X [] 2 (.tup []) [(0, .cells 209 (fcR p 1 (p.nodes.length + 1) e g)), (1, qaf2 L)])
    ⟨[(0, .ptr 0 0), (4, .ptr 17 0), (6, .int .u64 Y.toNat), (7, .int .u64 N.toNat)], [(0, .cells 209 (fcR p 1 (p.nodes.length + 1) e g)), (1, qaf2 l), (17, .cells 80 (qaea x))], 18⟩ := fun Y N e g hY hN2 => by
   have hyl : x.yes.toNat < l.length := by omega
   have hgy : l[x.yes.toNat]? = some l[x.yes.toNat] := List.getElem?_eq_getElem hyl
   have hA1 : qam9 l x.yes Y = l.set x.yes.toNat (l[x.yes.toNat] &&& Y) := by unfold qam9; rw [List.getD_eq_getElem?_getD, hgy]; rfl
   have hr1 : (l.map bvc).set x.yes.toNat [.int .u64 (l[x.yes.toNat] &&& Y).toNat] = (qam9 l x.yes Y).map bvc := by rw [hA1, List.map_set]; rfl
   have hlen1 : (qam9 l x.yes Y).length = p.nodes.length + 1 := by rw [qakc, hl]
   have hml : (l.map bvc).length = p.nodes.length + 1 := by rw [List.length_map, hl]
   rw [hY, hN2] at hS
   generalize qam9 l x.yes Y = l1 at hS hr1 hlen1
   generalize hv1 : l[x.yes.toNat] = v1 at hgy hr1
   have y0 : 0 ≤ x.yes := by omega
   have y1 : x.yes < (p.nodes.length : Int) + 1 := by omega
   clear hA1 hget hget3 hY hN2 hall
   replace ok := Lib.hid ok
   replace hf := Lib.hid hf
   replace hp := Lib.hid hp
   replace hs := Lib.hid hs
   replace kA := Lib.hid kA
   replace hr1 := Lib.hid hr1
   cases ht : twoB x
   ·rw [ht, if_neg (by decide)] at hS
    subst hS
    have k3 : (x.kind == 3) = false := by unfold twoB at ht; rw [Bool.or_eq_false_iff] at ht; simpa using ht.1
    have k4 : (x.kind == 4) = false := by unfold twoB at ht; rw [Bool.or_eq_false_iff] at ht; simpa using ht.2
    replace hno := Lib.hid hno
    repeat' (first | (with_reducible first | refine zA ?_ | refine zK ?_) | ((with_reducible first | refine qaac ?_ | refine qaaz (by rw [hP]; exact qacz) ?_); (try rw [hP]); simp -implicitDefEqProofs [-BitVec.toNat_and, qaa3, *]) | ((with_reducible refine qaaf ?_); (try simp -implicitDefEqProofs [-BitVec.toNat_and, qaa3, *])) | ((with_reducible refine qaaa rfl (fun h => ?_) (fun h => ?_)) <;> have h' := h <;> (try simp at h') <;> (try subst h')) | (refine qbjw hm rfl rfl ?_ ?_) | fail)
    ·rfl
    ·exact hr1.out
   ·rw [ht, if_pos rfl] at hS
    have hn2 := hno ht
    have hnl : x.no.toNat < l1.length := by omega
    have hgn : l1[x.no.toNat]? = some l1[x.no.toNat] := List.getElem?_eq_getElem hnl
    have hA2 : qam9 l1 x.no N = l1.set x.no.toNat (l1[x.no.toNat] &&& N) := by unfold qam9; rw [List.getD_eq_getElem?_getD, hgn]; rfl
    have hr2 : (l1.map bvc).set x.no.toNat [.int .u64 (l1[x.no.toNat] &&& N).toNat] = L.map bvc := by rw [hS, hA2, List.map_set]; rfl
    generalize hv2 : l1[x.no.toNat] = v2 at hgn hr2
    have n0 : 0 ≤ x.no := by omega
    have n1 : x.no < (p.nodes.length : Int) + 1 := by omega
    have hml1 : (l1.map bvc).length = p.nodes.length + 1 := by rw [List.length_map, hlen1]
    have hk : (x.kind == 3) = true ∨ ((x.kind == 3) = false ∧ (x.kind == 4) = true) := by
     unfold twoB at ht; rw [Bool.or_eq_true, decide_eq_true_eq, decide_eq_true_eq] at ht
     by_cases e3 : x.kind = 3
     ·left; simpa using e3
     ·right; exact ⟨by simpa using e3, by simpa using ht.resolve_left e3⟩
    have hr1' := hr1.out
    clear hA2 hS hn2
    replace hno := Lib.hid hno
    replace hr2 := Lib.hid hr2
    rcases hk with k3 | ⟨k3, k4⟩
    all_goals
     repeat' (first | (with_reducible first | refine zA ?_ | refine zK ?_) | ((with_reducible first | refine qaac ?_ | refine qaaz (by rw [hP]; exact qacz) ?_); (try rw [hP]); simp -implicitDefEqProofs [-BitVec.toNat_and, qaa3, *]) | ((with_reducible refine qaaa rfl (fun h => ?_) (fun h => ?_)) <;> have h' := h <;> (try simp at h') <;> (try subst h')) | (refine qbjw hm rfl rfl ?_ ?_) | fail)
     all_goals first | rfl | exact hr2.out | trace_state
  have hkind := ok.kind
  have h6 := hp.heads
  replace tail := Lib.hid tail
  replace hS := Lib.hid hS
  replace hno := Lib.hid hno
  rcases hkind with kk | kk | kk | kk
  ·have hnn := ok.tab kk
   have hlt : x.n.toNat < p.tabs.length := by omega
   have hto : qbij p x.n = p.tabs[x.n.toNat] := by unfold qbij; rw [List.getElem?_eq_getElem hlt]; rfl
   have hB : qacx p x m = ((p.tabs[x.n.toNat].keys.drop 0).any (fun r => qaet r m) || (p.tabs[x.n.toNat].acts.drop 0).any (fun a => qac3 (qac6 p a) m)) := by unfold qacx; rw [if_pos kk, hto]; rfl
   have hY : qacp p x m = yesT p m (p.tabs[x.n.toNat].acts.drop 0) allB := by unfold qacp; rw [if_pos kk, hto]; rfl
   have hN2 : qadr x m = m := by unfold qadr; rw [if_neg (by omega)]
   have hkeys := hf.keys _ (List.getElem_mem hlt)
   have htac := hf.tacts _ (List.getElem_mem hlt)
   have hkl := hs.keys _ (List.getElem_mem hlt)
   rw [hB, ← qahx _ _ _ _ _ _ (by decide)]
   obtain ⟨⟨e1, g1⟩, hE1⟩ : ∃ z, qab0 a b ((p.tabs[x.n.toNat].keys.drop 0).any (fun r => qaet r m)) 12 (6000 + (i : Int)) = z := ⟨_, rfl⟩
   rw [hE1]
   simp only
   obtain ⟨F, hF⟩ : ∃ F, F = qab0 e1 g1 ((p.tabs[x.n.toNat].acts.drop 0).any (fun a => qac3 (qac6 p a) m)) 12 (6000 + (i : Int)) := ⟨_, rfl⟩
   rw [← hF]
   obtain ⟨YY, hYY⟩ : ∃ YY, YY = yesT p m (p.tabs[x.n.toNat].acts.drop 0) allB := ⟨_, rfl⟩
   rw [← hYY] at hY
   have k1 : (x.kind == 1) = true := by simpa using kk
   have k3 : (x.kind == 3) = false := by rw [kk]; rfl
   have k4 : (x.kind == 4) = false := by rw [kk]; rfl
   have hre := fun r hr e g q hq => qbjs p (p.nodes.length + 1) e g l r m (6000 + (i : Int)) hr q hq
   have hao : ∀ k : Int, ∀ h0 : 0 ≤ k ∧ k < p.acts.length, qac6 p k = (p.acts[k.toNat]'(by omega)).ops := fun k h0 => by unfold qac6; rw [List.getElem?_eq_getElem (by omega)]; rfl
   have hac : ∀ (k : Int) (h0 : 0 ≤ k ∧ k < p.acts.length) (e g : Int) (q : Nat) (hq : 2 ≤ q), SCalls Tryz.prog 141 [.ptr 0 0, .int .i64 k, .int .u64 m.toNat, .int .i64 (6000 + (i : Int))] [(0, .cells 209 (fcR p 1 (p.nodes.length + 1) e g)), (1, qaf2 l)] q (.int .u64 (opsM (qac6 p k) m).toNat) [(0, .cells 209 (fcR p 1 (p.nodes.length + 1) (qab0 e g (qac3 (qac6 p k) m) 12 (6000 + (i : Int))).1 (qab0 e g (qac3 (qac6 p k) m) 12 (6000 + (i : Int))).2)), (1, qaf2 l)] := fun k h0 e g q hq => by
    have := fact_s p (p.nodes.length + 1) e g l k.toNat (by omega) (hf.ops _ (List.getElem_mem (by omega))) h6 (hs.ops _ (List.getElem_mem (by omega))) (hs.tree _ (List.getElem_mem (by omega))) m (6000 + (i : Int)) q hq
    rw [show ((k.toNat : Nat) : Int) = k by omega] at this
    rw [hao k h0]; exact this
   generalize htt : p.tabs[x.n.toNat] = t at hE1 hF hYY hkeys htac hkl
   have n0 := hnn.1
   have n1 := hnn.2
   clear hB kk hnn hto
   replace ok := Lib.hid ok
   replace hf := Lib.hid hf
   replace hp := Lib.hid hp
   replace hs := Lib.hid hs
   replace kA := Lib.hid kA
   replace hre := Lib.hid hre
   replace hac := Lib.hid hac
   replace hao := Lib.hid hao
   replace hkeys := Lib.hid hkeys
   replace htac := Lib.hid htac
   replace hE1 := Lib.hid hE1
   replace hF := Lib.hid hF
   replace hYY := Lib.hid hYY
   replace hY := Lib.hid hY
   replace hN2 := Lib.hid hN2
   repeat' (first | (with_reducible first | refine zA ?_ | refine qaae ?_ | refine zK ?_) | ((with_reducible first | refine qaac ?_ | refine qaaz (by rw [hP]; exact qacz) ?_); (try rw [hP]); simp -implicitDefEqProofs [*]) | ((with_reducible refine qaaf ?_); (try simp -implicitDefEqProofs [*])) | ((with_reducible refine qaaa rfl (fun h => ?_) (fun h => ?_)) <;> have h' := h <;> (try simp at h') <;> (try subst h')) | ((with_reducible refine qabo ?_ ?_); (first | omega | (unfold maxLen; omega)); simp -implicitDefEqProofs [*]) | fail)
   refine qaal (qaa5 (fun s (z : Nat × Int × Int) => s.turn [(51, .int .i64 z.1)] [(0, .cells 209 (fcR p 1 (p.nodes.length + 1) z.2.1 z.2.2))]) (fun z => z.1 ≤ t.keys.length ∧ qab0 z.2.1 z.2.2 ((t.keys.drop z.1).any (fun r => qaet r m)) 12 (6000 + (i : Int)) = (e1, g1)) (fun z => t.keys.length - z.1) (0, a, b) ?_ ⟨by simp, hE1.out⟩ ?_)
   ·repeat' (first | ((with_reducible refine qaah [] hm ?_ ?_ ?_ ?_) <;> (try simp only [zT, puth, Nat.reduceEqDiff, reduceIte, Nat.reduceAdd])) | (with_reducible first | refine za ?_ ?_ | refine zb ?_ ?_ ?_ ?_ | refine zc ?_ ?_ ?_ ?_) | (with_reducible first | exact qaab | exact qaad) | ((with_reducible first | refine zga ?_ | refine zgb ?_); rfl) | ((with_reducible refine zgc ?_); (first | (with_reducible rfl) | rfl | (simp; done))) | ((with_reducible refine zgd ?_); (first | omega | (simp; done))) | (exact Co.refl _) | (exact CoL.refl _) | fail)
   rintro J hJ ⟨j, e, g⟩ ⟨h1, h2⟩
   unfold qam2
   simp only [zT, puth, Nat.reduceEqDiff, reduceIte, Nat.reduceAdd] at h1 h2 ⊢
   clear hE1
   rcases Nat.lt_or_ge j t.keys.length with hj | hj
   ·have hx := hkeys.out t.keys[j] (List.getElem_mem hj)
    rw [qac8 _ hj, ← qahx _ _ _ _ _ _ (by decide)] at h2
    generalize hrr : t.keys[j] = r at hx h2
    have wj : IntKind.i64.wrap ((j : Int) + 1) = (j : Int) + 1 := qaao (by omega) (by omega)
    have hr2 := fun e g q hq => hre.out r (by omega) e g q hq
    generalize qaet r m = G at h2 hr2
    replace h2 := Lib.hid h2
    replace hr2 := Lib.hid hr2
    repeat' (first | (with_reducible first | refine zA ?_ | refine qaae ?_) | ((with_reducible refine qaac ?_); (try rw [hP]); simp -implicitDefEqProofs [*]) | ((with_reducible refine qaaf ?_); (try simp -implicitDefEqProofs [*])) | ((with_reducible refine qaaa rfl (fun h => ?_) (fun h => ?_)) <;> have h' := h <;> (try simp at h') <;> (try subst h')) | (refine qabv (hr2.out _ _ _ (by simp)) ⟨rfl, rfl, trivial⟩ ⟨rfl, rfl, trivial⟩ ?_; simp -implicitDefEqProofs [*]) | (with_reducible first | refine za ?_ ?_ | refine zb ?_ ?_ ?_ ?_ | refine zc ?_ ?_ ?_ ?_) | (with_reducible first | exact qaab | exact qaad) | ((with_reducible first | refine zga ?_ | refine zgb ?_); rfl) | ((with_reducible refine zgc ?_); (first | (with_reducible rfl) | rfl | (simp; done))) | ((with_reducible first | refine zgd ?_ | refine zge ?_); (first | omega | (simp; done))) | (exact Co.refl _) | (exact CoL.refl _) | ((refine qaai hJ (j + 1, ?_, ?_) ?_ ?_ ?_; rotate_left 2; (with_reducible refine qaah [] hm ?_ ?_ ?_ ?_) <;> (try simp only [zT, puth, Nat.reduceEqDiff, reduceIte, Nat.reduceAdd]))) | fail)
    all_goals (try dsimp only)
    all_goals (exact ⟨by omega, h2.out⟩)
   ·obtain rfl : j = t.keys.length := by omega
    rw [List.drop_length] at h2
    have h3 : (e, g) = (e1, g1) := by rw [← h2]; exact (qabp e g 12 _).symm
    obtain ⟨rfl, rfl⟩ := Prod.mk.inj h3
    clear h2 h3 hJ
    repeat' (first | (with_reducible refine zA ?_) | ((with_reducible refine qaac ?_); (try rw [hP]); simp -implicitDefEqProofs [*]) | ((with_reducible refine qaak ?_); (try simp -implicitDefEqProofs [*])) | ((with_reducible refine qaaa rfl (fun h => ?_) (fun h => ?_)) <;> have h' := h <;> (try simp at h') <;> (try subst h')) | fail)
    refine qaal (qaa5 (fun s (z : Nat × Int × Int × BitVec 64) => s.turn [(6, .int .u64 z.2.2.2.toNat), (64, .int .i64 z.1)] [(0, .cells 209 (fcR p 1 (p.nodes.length + 1) z.2.1 z.2.2.1))]) (fun z => z.1 ≤ t.acts.length ∧ F = qab0 z.2.1 z.2.2.1 ((t.acts.drop z.1).any (fun a => qac3 (qac6 p a) m)) 12 (6000 + (i : Int)) ∧ YY = yesT p m (t.acts.drop z.1) z.2.2.2) (fun z => t.acts.length - z.1) (0, e, g, allB) ?_ ⟨by simp, hF.out, hYY.out⟩ ?_)
    ·repeat' (first | ((with_reducible refine qaah [] hm ?_ ?_ ?_ ?_) <;> (try simp only [zT, puth, Nat.reduceEqDiff, reduceIte, Nat.reduceAdd])) | (with_reducible first | refine za ?_ ?_ | refine zb ?_ ?_ ?_ ?_ | refine zc ?_ ?_ ?_ ?_) | (with_reducible first | exact qaab | exact qaad) | ((with_reducible first | refine zga ?_ | refine zgb ?_); rfl) | ((with_reducible refine zgc ?_); (first | (with_reducible rfl) | rfl | (simp; done))) | ((with_reducible refine zgd ?_); (first | omega | (simp; done))) | (exact Co.refl _) | (exact CoL.refl _) | fail)
     all_goals trace_state
    rintro J hJ ⟨j, e, g, y⟩ ⟨h1, h2, h4⟩
    unfold qam1
    simp only [zT, puth, Nat.reduceEqDiff, reduceIte, Nat.reduceAdd] at h1 h2 h4 ⊢
    clear hF hYY
    rcases Nat.lt_or_ge j t.acts.length with hj | hj
    ·have hx := htac.out t.acts[j] (List.getElem_mem hj)
     rw [List.drop_eq_getElem_cons hj] at h2 h4
     generalize hrr : t.acts[j] = k at hx h2 h4
     have h2' : F = qab0 e g (qac3 (qac6 p k) m || (t.acts.drop (j + 1)).any (fun a => qac3 (qac6 p a) m)) 12 (6000 + (i : Int)) := h2
     rw [← qahx _ _ _ _ _ _ (by decide)] at h2'
     have h4' : YY = yesT p m (t.acts.drop (j + 1)) (y &&& opsM (qac6 p k) m) := h4
     have wj : IntKind.i64.wrap ((j : Int) + 1) = (j : Int) + 1 := qaao (by omega) (by omega)
     have hr2 := fun e g q hq => hac.out k hx e g q hq
     obtain ⟨YN, hYN⟩ : ∃ YN, y &&& opsM (qac6 p k) m = YN := ⟨_, rfl⟩
     rw [hYN] at h4'
     generalize qac3 (qac6 p k) m = G at h2' hr2
     generalize opsM (qac6 p k) m = O at hYN hr2
     clear h2 h4
     replace h2' := Lib.hid h2'
     replace h4' := Lib.hid h4'
     replace hr2 := Lib.hid hr2
     repeat' (first | (with_reducible first | refine zA ?_ | refine qaae ?_) | ((with_reducible refine qaac ?_); (try rw [hP]); simp -implicitDefEqProofs [-BitVec.toNat_and, qaa3, *]) | ((with_reducible refine qaaf ?_); (try simp -implicitDefEqProofs [-BitVec.toNat_and, qaa3, *])) | ((with_reducible refine qaaa rfl (fun h => ?_) (fun h => ?_)) <;> have h' := h <;> (try simp at h') <;> (try subst h')) | (refine qabv (hr2.out _ _ _ (by simp)) ⟨rfl, rfl, trivial⟩ ⟨rfl, rfl, trivial⟩ ?_; simp -implicitDefEqProofs [-BitVec.toNat_and, qaa3, *]) | (with_reducible first | refine za ?_ ?_ | refine zb ?_ ?_ ?_ ?_ | refine zc ?_ ?_ ?_ ?_) | (with_reducible first | exact qaab | exact qaad) | ((with_reducible first | refine zga ?_ | refine zgb ?_); rfl) | ((with_reducible refine zgc ?_); (first | (with_reducible rfl) | rfl | (simp; done))) | ((with_reducible first | refine zgd ?_ | refine zge ?_); (first | omega | (simp; done))) | (exact Co.refl _) | (exact CoL.refl _) | ((refine qaai hJ (j + 1, ?_, ?_, YN) ?_ ?_ ?_; rotate_left 2; (with_reducible refine qaah [] hm ?_ ?_ ?_ ?_) <;> (try simp only [zT, puth, Nat.reduceEqDiff, reduceIte, Nat.reduceAdd]))) | fail)
     all_goals (try dsimp only)
     all_goals (exact ⟨by omega, h2'.out, h4'.out⟩)
    ·obtain rfl : j = t.acts.length := by omega
     rw [List.drop_length] at h2 h4
     have h3 : F = (e, g) := by rw [h2]; exact qabp e g 12 _
     have h5 : YY = y := h4
     subst h3 h5
     clear h2 h4
     repeat' (first | ((with_reducible refine qacr (c := .seq (.reg true qad0 [0, 4, 7]) (.seq (.reg false qadz [0, 4, 7, 122]) (.cond (.t 122) (.reg true qady []) .skip))) ?_)) | (with_reducible refine zA ?_) | ((with_reducible refine qaac ?_); (try rw [hP]); simp -implicitDefEqProofs [*]) | ((with_reducible refine qaak ?_); (try simp -implicitDefEqProofs [*])) | ((with_reducible refine qaaa rfl (fun h => ?_) (fun h => ?_)) <;> have h' := h <;> (try simp at h') <;> (try subst h')) | fail)
     constructor
     refine qaco ?_ (tail.out _ _ _ _ hY.out hN2.out)
     repeat' (first | ((with_reducible refine qaah [] hm ?_ ?_ ?_ ?_) <;> (try simp only [zT, puth, Nat.reduceEqDiff, reduceIte, Nat.reduceAdd])) | (with_reducible first | refine za ?_ ?_ | refine zb ?_ ?_ ?_ ?_ | refine zc ?_ ?_ ?_ ?_) | (with_reducible first | exact qaab | exact qaad) | ((with_reducible first | refine zga ?_ | refine zgb ?_); rfl) | ((with_reducible refine zgc ?_); (first | (with_reducible rfl) | rfl | (simp; done))) | ((with_reducible refine zgd ?_); (first | omega | (simp; done))) | (exact Co.refl _) | (exact CoL.refl _) | fail)
  ·have hnn := ok.act kk
   have hlt : x.n.toNat < p.acts.length := by omega
   have hao : qac6 p x.n = p.acts[x.n.toNat].ops := by unfold qac6; rw [List.getElem?_eq_getElem hlt]; rfl
   have hB : qacx p x m = qac3 p.acts[x.n.toNat].ops m := by unfold qacx; rw [if_neg (by omega), if_pos kk, hao]
   have hY : qacp p x m = opsM p.acts[x.n.toNat].ops m := by unfold qacp; rw [if_neg (by omega), if_pos kk, hao]
   have hN2 : qadr x m = m := by unfold qadr; rw [if_neg (by omega)]
   have hact := fun e g q hq => fact_s p (p.nodes.length + 1) e g l x.n.toNat hlt (hf.ops _ (List.getElem_mem hlt)) h6 (hs.ops _ (List.getElem_mem hlt)) (hs.tree _ (List.getElem_mem hlt)) m (6000 + (i : Int)) q hq
   rw [show ((x.n.toNat : Nat) : Int) = x.n by omega] at hact
   rw [hB]
   have k1 : (x.kind == 1) = false := by rw [kk]; rfl
   have k2 : (x.kind == 2) = true := by simpa using kk
   have k3 : (x.kind == 3) = false := by rw [kk]; rfl
   have k4 : (x.kind == 4) = false := by rw [kk]; rfl
   generalize qac3 p.acts[x.n.toNat].ops m = B at hact
   generalize opsM p.acts[x.n.toNat].ops m = YY at hact hY
   clear hB hao kk hnn
   replace ok := Lib.hid ok
   replace hf := Lib.hid hf
   replace hp := Lib.hid hp
   replace hs := Lib.hid hs
   replace kA := Lib.hid kA
   replace hact := Lib.hid hact
   replace hY := Lib.hid hY
   replace hN2 := Lib.hid hN2
   repeat' (first | ((with_reducible refine qacr (c := .seq (.reg true qad0 [0, 4, 7]) (.seq (.reg false qadz [0, 4, 7, 122]) (.cond (.t 122) (.reg true qady []) .skip))) ?_)) | (with_reducible first | refine zA ?_ | refine qaae ?_ | refine zK ?_) | ((with_reducible first | refine qaac ?_ | refine qaaz (by rw [hP]; exact qacz) ?_); (try rw [hP]); simp -implicitDefEqProofs [*]) | ((with_reducible refine qaaf ?_); (try simp -implicitDefEqProofs [*])) | ((with_reducible refine qaaa rfl (fun h => ?_) (fun h => ?_)) <;> have h' := h <;> (try simp at h') <;> (try subst h')) | ((with_reducible refine qabo ?_ ?_); (first | omega | (unfold maxLen; omega)); simp -implicitDefEqProofs [*]) | (refine qabv (hact.out _ _ _ (by simp)) ⟨rfl, rfl, trivial⟩ ⟨rfl, rfl, trivial⟩ ?_; simp -implicitDefEqProofs [*]) | fail)
   constructor
   refine qaco ?_ (tail.out _ _ _ _ hY.out hN2.out)
   repeat' (first | ((with_reducible refine qaah [] hm ?_ ?_ ?_ ?_) <;> (try simp only [zT, puth, Nat.reduceEqDiff, reduceIte, Nat.reduceAdd])) | (with_reducible first | refine za ?_ ?_ | refine zb ?_ ?_ ?_ ?_ | refine zc ?_ ?_ ?_ ?_) | (with_reducible first | exact qaab | exact qaad) | ((with_reducible first | refine zga ?_ | refine zgb ?_); rfl) | ((with_reducible refine zgc ?_); (first | (with_reducible rfl) | rfl | (simp; done))) | ((with_reducible refine zgd ?_); (first | omega | (simp; done))) | (exact Co.refl _) | (exact CoL.refl _) | fail)
  ·have hB : qacx p x m = qad7 x.e m := by unfold qacx; rw [if_neg (by omega), if_neg (by omega), if_pos kk]
   have hY : qacp p x m = m := by unfold qacp; rw [if_neg (by omega), if_neg (by omega), if_pos kk]
   have hN2 : qadr x m = m := by unfold qadr; rw [if_neg (by omega)]
   have htr := fun e g q hq => qbh6 p (p.nodes.length + 1) e g l x.e m (6000 + (i : Int)) (ok.ex kk) h6 hel q hq
   rw [hB]
   have k1 : (x.kind == 1) = false := by rw [kk]; rfl
   have k2 : (x.kind == 2) = false := by rw [kk]; rfl
   have k3 : (x.kind == 3) = true := by simpa using kk
   generalize qad7 x.e m = B at htr
   clear hB kk
   replace ok := Lib.hid ok
   replace hf := Lib.hid hf
   replace hp := Lib.hid hp
   replace hs := Lib.hid hs
   replace kA := Lib.hid kA
   replace htr := Lib.hid htr
   replace hY := Lib.hid hY
   replace hN2 := Lib.hid hN2
   repeat' (first | ((with_reducible refine qacr (c := .seq (.reg true qad0 [0, 4, 7]) (.seq (.reg false qadz [0, 4, 7, 122]) (.cond (.t 122) (.reg true qady []) .skip))) ?_)) | (with_reducible first | refine zA ?_ | refine qaae ?_ | refine zK ?_) | ((with_reducible first | refine qaac ?_ | refine qaaz (by rw [hP]; exact qacz) ?_); (try rw [hP]); simp -implicitDefEqProofs [*]) | ((with_reducible refine qaaf ?_); (try simp -implicitDefEqProofs [*])) | ((with_reducible refine qaaa rfl (fun h => ?_) (fun h => ?_)) <;> have h' := h <;> (try simp at h') <;> (try subst h')) | ((with_reducible refine qabo ?_ ?_); (first | omega | (unfold maxLen; omega)); simp -implicitDefEqProofs [*]) | (refine qabv (htr.out _ _ _ (by simp)) ⟨rfl, rfl, trivial⟩ ⟨rfl, rfl, trivial⟩ ?_; simp -implicitDefEqProofs [*]) | fail)
   constructor
   refine qaco ?_ (tail.out _ _ _ _ hY.out hN2.out)
   repeat' (first | ((with_reducible refine qaah [] hm ?_ ?_ ?_ ?_) <;> (try simp only [zT, puth, Nat.reduceEqDiff, reduceIte, Nat.reduceAdd])) | (with_reducible first | refine za ?_ ?_ | refine zb ?_ ?_ ?_ ?_ | refine zc ?_ ?_ ?_ ?_) | (with_reducible first | exact qaab | exact qaad) | ((with_reducible first | refine zga ?_ | refine zgb ?_); rfl) | ((with_reducible refine zgc ?_); (first | (with_reducible rfl) | rfl | (simp; done))) | ((with_reducible refine zgd ?_); (first | omega | (simp; done))) | (exact Co.refl _) | (exact CoL.refl _) | fail)
  ·have hB : qacx p x m = false := by unfold qacx; rw [if_neg (by omega), if_neg (by omega), if_neg (by omega)]
   have hY : qacp p x m = m ||| bitB x.n := by unfold qacp; rw [if_neg (by omega), if_neg (by omega), if_neg (by omega)]
   have hN2 : qadr x m = m &&& ~~~(bitB x.n) := by unfold qadr; rw [if_pos kk]
   have hh := ok.head kk
   have hbi := fun q => qbj0 x.n hh.1 (by omega) q
   rw [hB, qabp]
   have k1 : (x.kind == 1) = false := by rw [kk]; rfl
   have k2 : (x.kind == 2) = false := by rw [kk]; rfl
   have k3 : (x.kind == 3) = false := by rw [kk]; rfl
   have k4 : (x.kind == 4) = true := by simpa using kk
   clear hB kk
   replace ok := Lib.hid ok
   replace hf := Lib.hid hf
   replace hp := Lib.hid hp
   replace hs := Lib.hid hs
   replace kA := Lib.hid kA
   replace hbi := Lib.hid hbi
   replace hY := Lib.hid hY
   replace hN2 := Lib.hid hN2
   repeat' (first | ((with_reducible refine qacr (c := .seq (.reg true qad0 [0, 4, 7]) (.seq (.reg false qadz [0, 4, 7, 122]) (.cond (.t 122) (.reg true qady []) .skip))) ?_)) | (with_reducible first | refine zA ?_ | refine qaae ?_ | refine zK ?_) | ((with_reducible first | refine qaac ?_ | refine qaaz (by rw [hP]; exact qacz) ?_); (try rw [hP]); simp -implicitDefEqProofs [-BitVec.toNat_and, -BitVec.toNat_or, -BitVec.toNat_not, qabq, qadd, *]) | ((with_reducible refine qaaf ?_); (try simp -implicitDefEqProofs [-BitVec.toNat_and, -BitVec.toNat_or, -BitVec.toNat_not, qabq, qadd, *])) | ((with_reducible refine qaaa rfl (fun h => ?_) (fun h => ?_)) <;> have h' := h <;> (try simp at h') <;> (try subst h')) | ((with_reducible refine qabo ?_ ?_); (first | omega | (unfold maxLen; omega)); simp -implicitDefEqProofs [-BitVec.toNat_and, -BitVec.toNat_or, -BitVec.toNat_not, qabq, qadd, *]) | (refine qaaw (hbi.out _) ?_; simp -implicitDefEqProofs [-BitVec.toNat_and, -BitVec.toNat_or, -BitVec.toNat_not, qabq, qadd, *]) | fail)
   constructor
   refine qaco ?_ (tail.out _ _ _ _ hY.out hN2.out)
   repeat' (first | ((with_reducible refine qaah [] hm ?_ ?_ ?_ ?_) <;> (try simp only [zT, puth, Nat.reduceEqDiff, reduceIte, Nat.reduceAdd])) | (with_reducible first | refine za ?_ ?_ | refine zb ?_ ?_ ?_ ?_ | refine zc ?_ ?_ ?_ ?_) | (with_reducible first | exact qaab | exact qaad) | ((with_reducible first | refine zga ?_ | refine zgb ?_); rfl) | ((with_reducible refine zgc ?_); (first | (with_reducible rfl) | rfl | (simp; done))) | ((with_reducible refine zgd ?_); (first | omega | (simp; done))) | (exact Co.refl _) | (exact CoL.refl _) | fail)
 ·rw [kA] at hall
  rw [if_pos (of_decide_eq_true kA)] at hS
  subst hS
  rw [Bool.not_true, Bool.false_and, qabp]
  replace ok := Lib.hid ok
  replace hf := Lib.hid hf
  replace hp := Lib.hid hp
  replace hs := Lib.hid hs
  replace kA := Lib.hid kA
  repeat' (first | (with_reducible first | refine zA ?_ | refine zK ?_) | ((with_reducible first | refine qaac ?_ | refine qaaz (by rw [hP]; exact qacz) ?_); (try rw [hP]); simp -implicitDefEqProofs [*]) | ((with_reducible refine qaam ?_); (try simp only [qaap, qaag, qaaj])) | ((with_reducible refine qaaa rfl (fun h => ?_) (fun h => ?_)) <;> have h' := h <;> (try simp at h') <;> (try subst h')) | ((with_reducible refine qabo ?_ ?_); (first | omega | (unfold maxLen; omega)); simp -implicitDefEqProofs [*]) | (refine fin_fr hm rfl rfl ?_ rfl) | fail)
  all_goals rfl
end Go.Proofs.YteoijlmgiemffaaGreat
namespace Go.Proofs.YteoijlmgiemffaaGreat
set_option linter.all false
open Go.RowKit
instance : PureR ([] : List (List SV)) := ⟨fun _ => rfl, fun x hx => (by cases hx), fun x hx => (by cases hx)⟩
theorem qbhp {X : Cx} {rs : List ResultVar} {m : Nat} {r : SV} {h2 : Hp} {s s1 : SSt} (hw : Wk X s s1) (h : QFun X rs m r h2 .ret s1) : QFun X rs m r h2 .ret s := by
 obtain ⟨s', h1, h2, h3, h4⟩ := h
 exact ⟨s', hw.trans h1, h2, h3, h4⟩
theorem qan2 {X : Cx} {sl : Sl} {hp : Hp} {t u nx id id' e z nn n : Nat} {es : List (List SV)} [PureR es] {ty : TypeId} {cs ds : List SV} {r : SV} (hm : X.m = 0) (hne : t ≠ u) (hni : id ≠ id') (hv : gets sl t = .own id' nn) (hu : gets sl u = .ptr id 0) (h1 : geth hp id' = some (.row e z es)) (h : geth hp id = some (.cells ty cs)) (ha : qaig X.P ty = some true) (hn : qacb X.P ty = some n) (hl : ds.length = n) (hc : CoL cs ds) (hr : r = .tup [.own 0 nn, .agg ds]) (hd : ∀ σ, ds.map (Go.Proofs.YteoijlmgiemffaaGreat.ren σ) = ds) : QFun X [.tmp t, .cell u ty] 0 r [(0, .row e z es)] .ret ⟨sl, hp, nx⟩ := by
 subst hr hl
 have hw : Wk X ⟨sl, hp, nx⟩ ⟨[(t, .own 0 nn), (u, .ptr 1 0)], [(0, .row e z es), (1, .cells ty ds)], 2⟩ := by
  refine qaah [(0, id'), (1, id)] hm ⟨?_, ?_, trivial⟩ ⟨⟨_, h1, rfl, rfl, ?_⟩, ⟨_, h, rfl, by rw [hd]; exact hc⟩, trivial⟩ ?_ (by simp)
  ·rw [hv]; exact Co.refl _
  ·rw [hu]; exact Co.refl _
  ·rw [PureR.ren]; exact CoLL.refl _
  ·simp [qabz, diag, idsH, hni, Ne.symm hni]
 refine ⟨_, hw, ?_, ⟨rfl, trivial⟩, by simp⟩
 simp [qakm, resL, resV, one_, gets, ha, hn, SOp.run, SX.ev, geth, hne]
theorem fin_tt {X : Cx} {sl : Sl} {hp : Hp} {t u nx : Nat} {v w : SV} (hm : X.m = 0) (hne : t ≠ u) (hv : gets sl t = v) (hw : gets sl u = w) (hN : NoN v) (hM : NoN w) : QFun X [.tmp t, .tmp u] 0 (.tup [v, w]) [] .ret ⟨sl, hp, nx⟩ := by
 refine ⟨⟨[(t, v), (u, w)], [], 0⟩, qaeu [] hm rfl (Nat.zero_le _) ⟨?_, ?_, trivial⟩ trivial, by simp [qakm, resL, resV, one_, gets, hne, hne.symm], trivial, by simp⟩
 ·show Co (gets sl t) (Go.Proofs.YteoijlmgiemffaaGreat.ren _ v)
  rw [hv, hN]; exact Co.refl _
 ·show Co (gets sl u) (Go.Proofs.YteoijlmgiemffaaGreat.ren _ w)
  rw [hw, hM]; exact Co.refl _
theorem qatd {X : Cx} {sl : Sl} {hp : Hp} {t u y nx : Nat} {v w z : SV} (hm : X.m = 0) (h1 : t ≠ u) (h2 : t ≠ y) (h3 : u ≠ y) (hv : gets sl t = v) (hw : gets sl u = w) (hz : gets sl y = z) (hN : NoN v) (hM : NoN w) (hO : NoN z) : QFun X [.tmp t, .tmp u, .tmp y] 0 (.tup [v, w, z]) [] .ret ⟨sl, hp, nx⟩ := by
 refine ⟨⟨[(t, v), (u, w), (y, z)], [], 0⟩, qaeu [] hm rfl (Nat.zero_le _) ⟨?_, ?_, ?_, trivial⟩ trivial, by simp [qakm, resL, resV, one_, gets, h1, h1.symm, h2, h2.symm, h3, h3.symm], trivial, by simp⟩
 ·show Co (gets sl t) (Go.Proofs.YteoijlmgiemffaaGreat.ren _ v)
  rw [hv, hN]; exact Co.refl _
 ·show Co (gets sl u) (Go.Proofs.YteoijlmgiemffaaGreat.ren _ w)
  rw [hw, hM]; exact Co.refl _
 ·show Co (gets sl y) (Go.Proofs.YteoijlmgiemffaaGreat.ren _ z)
  rw [hz, hO]; exact Co.refl _
theorem qanl {P : Program} {f : FuncId} {args : List SV} {q e z n : Nat} {es : List (List SV)} {ds : List SV} [PureR es] (h : SCalls P f args [] q (.tup [.own q n, .agg ds]) [(q, .row e z es)]) (hn : n = es.length) (hd : qanc ds) (hp : qanb ds) : SCalls P f args [] q (.tup [.view z es, .agg ds]) [] := by
 refine ⟨h.ent, fun O ρ fp w vs hok hargs hfr => (h.does O ρ fp w vs hok hargs hfr).mono ?_⟩
 rintro E w' ⟨v, ρ', fp', rfl, hk, hv, hst, hρ, hnew, hfp⟩
 refine ⟨v, ρ', fp', rfl, ⟨fun id o ho => (by cases ho), fun id id' o o' _ ho => (by cases ho), fun k hk => absurd hk (qafo k), hk.O_lt⟩, ?_, hst, hρ, hnew, fun id o ho => (by cases ho)⟩
 cases hv with
 | tup hl hh =>
  refine .tup (by simpa using hl) fun j x v hx hv => ?_
  rcases j with _ | _ | j
  ·cases hx
   exact qanv (e := e) (h1 := [(q, .row e z es)]) (by simp [geth]) (fun e he => PureR.pure e he) hn O ρ' fp' w' v hk (hh 0 _ v rfl hv)
  ·cases hx
   have := hh 1 _ v rfl hv
   exact qatg hd _ _ _ _ _ this
  ·cases hx
end Go.Proofs.YteoijlmgiemffaaGreat
namespace Go.Proofs.YteoijlmgiemffaaGreat
set_option linter.all false
open Go.RowKit
attribute [local simp] qabi qabh qaax qaa7 qaay qaa6 qabf qabg qaar qabr SOp.run SX.ev putd puts argS upds SOp.touch SSt.keep SSt.skip gets geth puth delh idOf SV.cells? setL qadh qadi sbin eq0 eq1 eqL qadf qab9 qaca qaap qabk qaag qabl qabs qaaj qaaq FrzOk qaba qaa1 qaa8 qaa9 qaat qaa0 qabm qaa2 qaav qabb qaau frzS frzH frz frz1 frz0 SlotsM ObjsM ObjM rn ren ren1 ren0 qabu qab7 qacf qabt qabn qacg qace CoL qabc qab3 dels adds idsH qabz
attribute [local simp] qadt refc qaes qaei qab8 opc actc tabc qaea qacm nums fcR
def qade (p : PlanD) : BitVec 64 := if (setAt p p.states.length).there then (setAt p p.states.length).must else allB
def sAt (p : PlanD) (i : Nat) : BitVec 64 := (atGo p (qade p) i).getD i allB
def qat8 (p : PlanD) (i : Nat) (n : NodeD) : Int := if sAt p i = allB then 0 else if qacx p n (sAt p i) = true then 12 else 0
def qafr (p : PlanD) : Int × Int := rowF (fun i n => qat8 p i n) 6000 0 p.nodes
def qagc (p : PlanD) : Int × Int := if (qafm p).1 ≠ 0 then qafm p else qafr p
def qakg (p : PlanD) : List (BitVec 64) := if (qagc p).1 ≠ 0 then [] else atGo p (qade p) p.nodes.length
theorem qbjh (p : PlanD) (i : Nat) (n : NodeD) (a b at_ : Int) : qab0 a b (!decide (sAt p i = allB) && qacx p n (sAt p i)) 12 at_ = orF (a, b) (qat8 p i n, at_) := by
 unfold qat8
 by_cases h1 : sAt p i = allB
 ·rw [decide_eq_true h1, if_pos h1, Bool.not_true, Bool.false_and, qabp]; exact (qaci _ rfl).symm
 ·rw [decide_eq_false h1, if_neg h1, Bool.not_false, Bool.true_and]
  cases qacx p n (sAt p i)
  ·rw [qabp, if_neg (by decide)]; exact (qaci _ rfl).symm
  ·rw [if_pos rfl, qa5n]; rfl
theorem qa6t (p : PlanD) (hf : FOk p) (hp : PlOk p) (hs : SmallP p) (i : Nat) (hi : i < p.nodes.length) (a b : Int) (W R q : Nat) (hWR : W ≠ R) (hW : W < q) (hR : R < q) :
  SCalls Tryz.prog 110 [.ptr W 0, .int .i64 i] [(W, .cells 209 (fcR p R (p.nodes.length + 1) a b)), (R, qaf2 (atGo p (qade p) i))] q (.tup []) [(W, .cells 209 (fcR p R (p.nodes.length + 1) (orF (a, b) (qat8 p i p.nodes[i], 6000 + i)).1 (orF (a, b) (qat8 p i p.nodes[i], 6000 + i)).2)), (R, qaf2 (atGo p (qade p) (i + 1)))] := by
 rw [← qbjh, qahl p (qade p) hi]
 exact qain (fnode_s p hf hp hs i hi a b (atGo p (qade p) i) (qadu p (qade p) i) 2 (Nat.le_refl _)) W R q hWR hW hR rfl rfl rfl rfl (fun _ => rfl) rfl
theorem qan4 (p : PlanD) : orF (0, 0) (qafr p) = qafr p := by
 by_cases h : (qafr p).1 = 0
 ·have : qafr p = (0, 0) := qaf5 h
  rw [this]; rfl
 ·unfold orF; simp [h]
theorem qbi0 (k : Nat) : (List.replicate k allB).map bvc ++ [[SV.int .u64 18446744073709551615]] = (List.replicate (k + 1) allB).map bvc := by
 rw [List.replicate_succ', List.map_append]; rfl
theorem qbip (n : Nat) : (List.replicate (n + 1) allB).set 0 allB = List.replicate (n + 1) allB := by
 rw [List.replicate_succ]; rfl
set_option maxHeartbeats 4000000 in
theorem flow_o (p : PlanD) (hs : SmallP p) (hk : qaha p) (q : Nat) : SCalls Tryz.prog 56 [.agg (qacm p)] [] q (.tup [.own q (qakg p).length, .agg [.int .i64 (qagc p).1, .int .i64 (qagc p).2]]) [(q, .row 22 1 ((qakg p).map bvc))] := by
 refine qat1 [(22, 1, (qakg p).map bvc)] (r := .tup [.own 0 (qakg p).length, .agg [.int .i64 (qagc p).1, .int .i64 (qagc p).2]]) ?_ (fun _ => rfl) (fun x hx => by rw [List.mem_singleton.1 hx]; exact inferInstanceAs (PureR ((qakg p).map bvc))) (by simp) q (by simp [Go.Proofs.YteoijlmgiemffaaGreat.ren, ren1, ren0, sg]) rfl
 show SCalls _ _ _ [] 0 _ [(0, .row 22 1 ((qakg p).map bvc))]
 refine qaas (N := 77) Tryz.func56 rfl rfl (by kernel_rfl) qaum (by simp) (by repeat' (first | exact trivial | refine And.intro ?_ ?_ | rfl | decide | exact PureR.ren _)) (by repeat' (first | exact trivial | refine And.intro ?_ ?_ | rfl | decide | exact PureR.ren _)) ?_
 rintro X hP hN hm
 unfold c_flow
 have hc := fun q => walk_s p hs hk q
 have hns := hs.nodes
 by_cases h0 : (qafm p).1 = 0
 ·have hpz : (qafh p).1 = 0 := by
   by_cases hz : (qafh p).1 = 0
   ·exact hz
   ·unfold qafm at h0; rw [if_pos hz] at h0; exact absurd h0 hz
  have hp := qbet hpz
  have hf := qbjt hpz
  have hwl : qane p = qaf1 p := by unfold qane; rw [if_neg (by simpa using h0)]
  have hF : qagc p = qafr p := by unfold qagc; rw [if_neg (by simpa using h0)]
  have hL : qakg p = if (qafr p).1 ≠ 0 then [] else atGo p (qade p) p.nodes.length := by unfold qakg; rw [hF]
  rw [hF, hL]
  rw [hwl] at hc
  have hz0 : (qafr p).1 = 0 → qafr p = (0, 0) := fun h => qaf5 h
  have hF0 : qafr p = orF (0, 0) (rowF (fun i n => qat8 p i n) 6000 0 p.nodes) := (qan4 p).symm
  generalize qafr p = F at hF0 hz0
  have kc : ((qafm p).1 != 0) = false := by simpa using h0
  generalize qafm p = C at hc kc
  have wn : IntKind.i64.wrap ((p.nodes.length : Int) + 1) = (p.nodes.length : Int) + 1 := qaao (by omega) (by omega)
  have hgs : (qaf1 p)[p.states.length]? = some (setAt p p.states.length) := by
   have : p.states.length < (qaf1 p).length := by unfold qaf1; rw [qacw]; omega
   unfold setAt; rw [List.getD_eq_getElem?_getD, List.getElem?_eq_getElem this]; rfl
  have hsl : (qaf1 p).length = p.states.length + 1 := by unfold qaf1; rw [qacw]
  have hst : qade p = if (setAt p p.states.length).there then (setAt p p.states.length).must else allB := rfl
  generalize setAt p p.states.length = y at hgs hst
  replace hF0 := Lib.hid hF0
  replace hz0 := Lib.hid hz0
  replace hc := Lib.hid hc
  replace hp := Lib.hid hp
  replace hf := Lib.hid hf
  replace hst := Lib.hid hst
  clear hF hL h0 hwl hpz
  repeat' (first | (with_reducible refine zA ?_) | ((with_reducible refine qaac ?_); (try rw [hP]); simp -implicitDefEqProofs [*]) | ((with_reducible refine qaaf ?_); (try simp -implicitDefEqProofs [*])) | ((with_reducible refine qaaa rfl (fun h => ?_) (fun h => ?_)) <;> have h' := h <;> (try simp at h') <;> (try subst h')) | (refine qaaw (hc.out _) ?_; simp -implicitDefEqProofs [*]) | fail)
  refine qaco (qael (t := 209) (cs := qacm p ++ [.nilsl, .int .i64 0, .int .i64 0]) 23 7 22 1 rfl rfl) ?_
  simp only [zT, puth, Nat.reduceEqDiff, reduceIte, Nat.reduceAdd]
  refine qaal (qaa5 (fun s (k : Nat) => s.turn [(25, .int .i64 k)] [(23, .cells 209 (fcR p 30 k 0 0)), (30, qaf2 (List.replicate k allB))]) (fun k => k ≤ p.nodes.length + 1) (fun k => p.nodes.length + 1 - k) 0 ?_ (by simp) ?_)
  ·repeat' (first | ((with_reducible refine qaah [] hm ?_ ?_ ?_ ?_) <;> (try simp only [zT, puth, Nat.reduceEqDiff, reduceIte, Nat.reduceAdd])) | (with_reducible first | refine za ?_ ?_ | refine zb ?_ ?_ ?_ ?_ | refine zc ?_ ?_ ?_ ?_) | (with_reducible first | exact qaab | exact qaad) | ((with_reducible first | refine zga ?_ | refine zgb ?_); rfl) | ((with_reducible refine zgc ?_); (first | (with_reducible rfl) | rfl | (simp; done))) | ((with_reducible refine zgd ?_); (first | omega | (simp; done))) | (exact Co.refl _) | (exact CoL.refl _) | fail)
   all_goals trace_state
  rintro J hJ k hk
  unfold qatv
  simp only [zT, puth, Nat.reduceEqDiff, reduceIte, Nat.reduceAdd]
  have hlen2 : ((List.replicate k allB).map bvc).length = k := by simp
  have hb2 : k + 1 ≤ maxLen := by unfold maxLen; omega
  have hrs := qbi0 k
  generalize hRR : (List.replicate k allB).map bvc = RR at hlen2 hrs
  rcases Nat.lt_or_ge k (p.nodes.length + 1) with h2 | h2
  ·have wk2 : IntKind.i64.wrap ((k : Int) + 1) = (k : Int) + 1 := qaao (by omega) (by omega)
   have kx : decide ((k : Int) < (p.nodes.length : Int) + 1) = true := by simp; omega
   replace hrs := Lib.hid hrs
   repeat' (first | (with_reducible first | refine zA ?_ | refine qaeh ?_) | ((with_reducible refine qaac ?_); (try rw [hP]); simp -implicitDefEqProofs [*]) | ((with_reducible refine qaaf ?_); (try simp -implicitDefEqProofs [*])) | ((with_reducible refine qaaa rfl (fun h => ?_) (fun h => ?_)) <;> have h' := h <;> (try simp at h') <;> (try subst h')) | ((with_reducible refine qabo ?_ ?_); (first | omega | (unfold maxLen; omega)); simp -implicitDefEqProofs [*]) | (with_reducible first | refine za ?_ ?_ | refine zb ?_ ?_ ?_ ?_ | refine zc ?_ ?_ ?_ ?_) | (with_reducible first | exact qaab | exact qaad) | ((with_reducible first | refine zga ?_ | refine zgb ?_); rfl) | ((with_reducible first | refine zgd ?_ | refine zge ?_); (first | omega | (simp; done))) | (exact Co.refl _) | (exact CoL.refl _) | ((refine qaai hJ (k + 1) ?_ ?_ ?_; (with_reducible refine qaah [(30, ?_)] hm ?_ ?_ ?_ ?_) <;> (try simp only [zT, puth, Nat.reduceEqDiff, reduceIte, Nat.reduceAdd]))) | fail)
   all_goals first | (exact hrs.out) | trace_state
  ·obtain rfl : k = p.nodes.length + 1 := by omega
   clear hrs hJ
   have hgs2 : (qaf1 p)[p.states.length]'(by omega) = y := by rw [List.getElem?_eq_getElem (by omega)] at hgs; exact Option.some.inj hgs
   have main : ∀ s, qade p = s → (List.replicate (p.nodes.length + 1) allB).set 0 s = atGo p (qade p) 0 := fun s hs => by rw [hs]; rfl
   have row1 : y.there = true → RR.set 0 [.int .u64 y.must.toNat] = (atGo p (qade p) 0).map bvc := fun h => by
    rw [← main y.must (by rw [hst.out, if_pos h]), List.map_set, hRR]; rfl
   have row0 : y.there = false → RR = (atGo p (qade p) 0).map bvc := fun h => by
    rw [← main allB (by rw [hst.out, h]; rfl), qbip, hRR]
   clear main
   replace hRR := Lib.hid hRR
   replace row1 := Lib.hid row1
   replace row0 := Lib.hid row0
   have loopL : SWp X (SCode.block 2 c_flow_l2.loop) (QSeq X (SCode.seq (SCode.seq (SCode.reg false qam5 [3, 6, 67]) (SCode.cond (SX.t 67) (SCode.seq (SCode.reg true qam4 [2, 3]) SCode.ret) SCode.skip)) (SCode.seq (SCode.reg false qam3 [2, 3]) SCode.ret)) (QFun X [ResultVar.tmp 2, ResultVar.cell 3 37] 0 (SV.tup [SV.own 0 (if F.1 ≠ 0 then [] else atGo p (qade p) p.nodes.length).length, SV.agg [.int .i64 F.1, .int .i64 F.2]]) [(0, .row 22 1 ((if F.1 ≠ 0 then [] else atGo p (qade p) p.nodes.length).map bvc))]))
     ⟨[(3, .ptr 2 0), (6, .ptr 23 0), (54, .int .i64 p.nodes.length), (55, .int .i64 0)], [(2, .cells 37 [.int .i64 0, .int .i64 0]), (23, .cells 209 (fcR p 30 (p.nodes.length + 1) 0 0)), (30, qaf2 (atGo p (qade p) 0))], 31⟩ := by
    clear hRR row1 row0 hgs hgs2 hst hlen2 hc hsl
    refine qaal (qaa5 (fun s (z : Nat × Int × Int) => s.turn [(55, .int .i64 z.1)] [(23, .cells 209 (fcR p 30 (p.nodes.length + 1) z.2.1 z.2.2)), (30, qaf2 (atGo p (qade p) z.1))]) (fun z => z.1 ≤ p.nodes.length ∧ F = orF (z.2.1, z.2.2) (rowF (fun i n => qat8 p i n) 6000 z.1 (p.nodes.drop z.1))) (fun z => p.nodes.length - z.1) (0, 0, 0) ?_ ⟨by simp, hF0.out⟩ ?_)
    ·repeat' (first | ((with_reducible refine qaah [] hm ?_ ?_ ?_ ?_) <;> (try simp only [zT, puth, Nat.reduceEqDiff, reduceIte, Nat.reduceAdd])) | (with_reducible first | refine za ?_ ?_ | refine zb ?_ ?_ ?_ ?_ | refine zc ?_ ?_ ?_ ?_) | (with_reducible first | exact qaab | exact qaad) | ((with_reducible first | refine zga ?_ | refine zgb ?_); rfl) | ((with_reducible refine zgc ?_); (first | (with_reducible rfl) | rfl | (simp; done))) | ((with_reducible refine zgd ?_); (first | omega | (simp; done))) | (exact Co.refl _) | (exact CoL.refl _) | fail)
    rintro J hJ ⟨i, e, g⟩ ⟨h1, h2⟩
    unfold c_flow_l2
    simp only [zT, puth, Nat.reduceEqDiff, reduceIte, Nat.reduceAdd] at h1 h2 ⊢
    rcases Nat.lt_or_ge i p.nodes.length with hi | hi
    ·rw [qadb _ _ hi, qaem] at h2
     have hcs := fun q h1 h2 => qa6t p hf.out hp.out hs i hi e g 23 30 q (by decide) h1 h2
     generalize orF (e, g) (qat8 p i p.nodes[i], 6000 + (i : Int)) = G at h2 hcs
     have wi : IntKind.i64.wrap ((i : Int) + 1) = (i : Int) + 1 := qaao (by omega) (by omega)
     replace h2 := Lib.hid h2
     replace hcs := Lib.hid hcs
     repeat' (first | (with_reducible first | refine zA ?_ | refine qaae ?_) | ((with_reducible refine qaac ?_); (try rw [hP]); simp -implicitDefEqProofs [*]) | ((with_reducible refine qaaf ?_); (try simp -implicitDefEqProofs [*])) | ((with_reducible refine qaaa rfl (fun h => ?_) (fun h => ?_)) <;> have h' := h <;> (try simp at h') <;> (try subst h')) | (refine qabv (hcs.out _ (by simp) (by simp)) ⟨rfl, rfl, trivial⟩ ⟨rfl, rfl, trivial⟩ ?_; simp -implicitDefEqProofs [*]) | (with_reducible first | refine za ?_ ?_ | refine zb ?_ ?_ ?_ ?_ | refine zc ?_ ?_ ?_ ?_) | (with_reducible first | exact qaab | exact qaad) | ((with_reducible first | refine zga ?_ | refine zgb ?_); rfl) | ((with_reducible refine zgc ?_); (first | (with_reducible rfl) | rfl | (simp; done))) | ((with_reducible first | refine zgd ?_ | refine zge ?_); (first | omega | (simp; done))) | (exact Co.refl _) | (exact CoL.refl _) | ((refine qaai hJ (i + 1, ?_, ?_) ?_ ?_ ?_; rotate_left 2; (with_reducible refine qaah [] hm ?_ ?_ ?_ ?_) <;> (try simp only [zT, puth, Nat.reduceEqDiff, reduceIte, Nat.reduceAdd]))) | fail)
     all_goals (try dsimp only)
     all_goals (exact ⟨by omega, h2.out⟩)
    ·obtain rfl : i = p.nodes.length := by omega
     rw [List.drop_length] at h2
     have h3 : F = (e, g) := by rw [h2]; exact qaci _ rfl
     subst h3
     have hlen : ((atGo p (qade p) p.nodes.length).map bvc).length = p.nodes.length + 1 := by rw [List.length_map, qadu]
     clear h2 hF0
     by_cases he : e = 0
     ·subst he
      obtain rfl : g = 0 := (Prod.mk.inj (hz0.out rfl)).2
      repeat' (first | (with_reducible refine zA ?_) | ((with_reducible refine qaac ?_); (try rw [hP]); simp -implicitDefEqProofs [*]) | ((with_reducible first | refine qaaf ?_ | refine qaak ?_); (try simp -implicitDefEqProofs [*])) | ((with_reducible refine qaam ?_); (try simp only [qaap, qaag, qaaj])) | ((with_reducible refine qaaa rfl (fun h => ?_) (fun h => ?_)) <;> have h' := h <;> (try simp at h') <;> (try subst h')) | (refine qan2 hm (by decide) (by decide) rfl rfl rfl rfl (by rw [hP]; exact qabe) (by rw [hP]; exact qaa4) rfl (CoL.refl _) ?_ (fun σ => rfl)) | fail)
      all_goals first | rfl | (simp [qadu]; done) | trace_state
     ·have ke : (e != 0) = true := by simpa using he
      repeat' (first | (with_reducible first | refine zA ?_ | refine zK ?_) | ((with_reducible first | refine qaac ?_ | refine qaaz (by rw [hP]; exact qacz) ?_); (try rw [hP]); simp -implicitDefEqProofs [*]) | ((with_reducible refine qaak ?_); (try simp -implicitDefEqProofs [*])) | ((with_reducible refine qaam ?_); (try simp only [qaap, qaag, qaaj])) | ((with_reducible refine qaaa rfl (fun h => ?_) (fun h => ?_)) <;> have h' := h <;> (try simp at h') <;> (try subst h')) | ((refine qbhp (qadw 2 22 1 rfl) ?_; simp only [zT, puth, Nat.reduceEqDiff, reduceIte, Nat.reduceAdd]; refine qan2 hm (by decide) (by decide) rfl rfl rfl rfl (by rw [hP]; exact qabe) (by rw [hP]; exact qaa4) rfl (CoL.refl _) ?_ (fun σ => rfl))) | fail)
      all_goals rfl
   simp only [ne_eq, ite_not] at loopL
   replace loopL := Lib.hid loopL
   cases hth : y.there
   ·repeat' (first | (with_reducible refine zA ?_) | ((with_reducible refine qaac ?_); (try rw [hP]); simp -implicitDefEqProofs [setc, *]) | ((with_reducible first | refine qaaf ?_ | refine qaak ?_); (try simp -implicitDefEqProofs [setc, *])) | ((with_reducible refine qaaa rfl (fun h => ?_) (fun h => ?_)) <;> have h' := h <;> (try simp at h') <;> (try subst h')) | ((with_reducible refine qabo ?_ ?_); (first | omega | (unfold maxLen; omega)); simp -implicitDefEqProofs [setc, *]) | fail)
    refine qaco ?_ loopL.out
    repeat' (first | ((with_reducible refine qaah [] hm ?_ ?_ ?_ ?_) <;> (try simp only [zT, puth, Nat.reduceEqDiff, reduceIte, Nat.reduceAdd])) | (with_reducible first | refine za ?_ ?_ | refine zb ?_ ?_ ?_ ?_ | refine zc ?_ ?_ ?_ ?_) | (with_reducible first | exact qaab | exact qaad) | ((with_reducible first | refine zga ?_ | refine zgb ?_); rfl) | ((with_reducible refine zgd ?_); (first | omega | (simp; done))) | (exact Co.refl _) | (exact CoL.refl _) | fail)
    all_goals (try simp only [qaf2, hRR.out])
    all_goals first | (exact row0.out hth) | (rw [← List.map_replicate, hRR.out]; exact row0.out hth) | trace_state
   ·repeat' (first | (with_reducible first | refine zA ?_ | refine zK ?_) | ((with_reducible first | refine qaac ?_ | refine qaaz (by rw [hP]; exact qacz) ?_); (try rw [hP]); simp -implicitDefEqProofs [setc, *]) | ((with_reducible refine qaak ?_); (try simp -implicitDefEqProofs [setc, *])) | ((with_reducible refine qaaa rfl (fun h => ?_) (fun h => ?_)) <;> have h' := h <;> (try simp at h') <;> (try subst h')) | ((with_reducible refine qabo ?_ ?_); (first | omega | (unfold maxLen; omega)); simp -implicitDefEqProofs [setc, *]) | fail)
    refine qaco ?_ loopL.out
    repeat' (first | ((with_reducible refine qaah [] hm ?_ ?_ ?_ ?_) <;> (try simp only [zT, puth, Nat.reduceEqDiff, reduceIte, Nat.reduceAdd])) | (with_reducible first | refine za ?_ ?_ | refine zb ?_ ?_ ?_ ?_ | refine zc ?_ ?_ ?_ ?_) | (with_reducible first | exact qaab | exact qaad) | ((with_reducible first | refine zga ?_ | refine zgb ?_); rfl) | ((with_reducible refine zgd ?_); (first | omega | (simp; done))) | (exact Co.refl _) | (exact CoL.refl _) | fail)
    all_goals (try simp only [qaf2, hRR.out])
    all_goals first | (exact row1.out hth) | (rw [← List.map_replicate, hRR.out]; exact row1.out hth) | trace_state
 ·have hF : qagc p = qafm p := by unfold qagc; rw [if_pos h0]
  have hL : qakg p = [] := by unfold qakg; rw [hF, if_pos h0]
  rw [hF, hL]
  have kc : ((qafm p).1 != 0) = true := by simpa using h0
  generalize qafm p = C at hc kc
  generalize qane p = WL at hc
  replace hc := Lib.hid hc
  clear hF hL h0
  repeat' (first | (with_reducible first | refine zA ?_ | refine zK ?_) | ((with_reducible first | refine qaac ?_ | refine qaaz (by rw [hP]; exact qacz) ?_); (try rw [hP]); simp -implicitDefEqProofs [*]) | ((with_reducible refine qaam ?_); (try simp only [qaap, qaag, qaaj])) | ((with_reducible refine qaaa rfl (fun h => ?_) (fun h => ?_)) <;> have h' := h <;> (try simp at h') <;> (try subst h')) | (refine qaaw (hc.out _) ?_; simp -implicitDefEqProofs [*]) | ((refine qbhp (qadw 2 22 1 rfl) ?_; simp only [zT, puth, Nat.reduceEqDiff, reduceIte, Nat.reduceAdd]; refine qan2 hm (by decide) (by decide) rfl rfl rfl rfl (by rw [hP]; exact qabe) (by rw [hP]; exact qaa4) rfl (CoL.refl _) ?_ (fun σ => rfl))) | fail)
  all_goals rfl
theorem flow_s (p : PlanD) (hs : SmallP p) (hk : qaha p) (q : Nat) : SCalls Tryz.prog 56 [.agg (qacm p)] [] q (.tup [.view 1 ((qakg p).map bvc), .agg [.int .i64 (qagc p).1, .int .i64 (qagc p).2]]) [] :=
 qanl (flow_o p hs hk q) (by simp) (qae9 (qahk _ _) (qae9 (qahk _ _) qalk)) (qab4 _ rfl)
end Go.Proofs.YteoijlmgiemffaaGreat
namespace Go.Proofs.YteoijlmgiemffaaGreat
set_option linter.all false
open Go.RowKit
abbrev qav3 : List SOper := [Oa 3 (.box 33 (.t 0)), Oa 4 (.box 66 (.t 1)), Oa 6 (.mv (.c (.int .i64 0)))]
abbrev qav2 : List SOper := [Oa 7 (.mv (.c .nilsl))]
abbrev qav1 : List SOper := [Oa 8 (.faddr 0 (.t 4)), Oa 9 (.load (.t 8))]
abbrev qav0 : List SOper := [Oa 29 (.bin .eql (.t 9) (.c (.int .i64 (-3)))), Oa 28 (.mv (.t 29))]
abbrev qavz : List SOper := [Oa 30 (.mkrow 3 1 1 [(.int .i64 0)] [(0, (.c (.int .i64 16)))]), Oa 7 (.mv (.t 30))]
abbrev qavy : List SOper := [Oa 32 (.bin .eql (.t 9) (.c (.int .i64 (-1)))), Oa 31 (.mv (.t 32))]
abbrev qavx : List SOper := [Oa 33 (.faddr 1 (.t 3)), Oa 34 (.load (.t 33)), Oa 7 (.mv (.t 34))]
abbrev qavw : List SOper := [Oa 36 (.bin .eql (.t 9) (.c (.int .i64 (-2)))), Oa 35 (.mv (.t 36))]
abbrev qavv : List SOper := [Oa 37 (.mv (.t 2)), Oa 7 (.mv (.t 37))]
abbrev qap0 : List SOper := [Oa 10 (.faddr 0 (.t 4)), Oa 11 (.load (.t 10)), Oa 12 (.bin .geq (.t 11) (.c (.int .i64 0))), Oa 13 (.mv (.t 12)), Oe 14 (.faddr 0 (.t 4)) 13 true, Oe 15 (.load (.t 14)) 13 true, Oe 16 (.faddr 0 (.t 3)) 13 true, Oe 17 (.load (.t 16)) 13 true, Oe 18 (.len false (.t 17)) 13 true, Oe 19 (.bin .lss (.t 15) (.t 18)) 13 true, Oa 20 (.pick (.t 13) (.t 19) (.c (.bool false)))]
abbrev qapz : List SOper := [Oa 21 (.faddr 0 (.t 3)), Oa 22 (.load (.t 21)), Oa 23 (.faddr 0 (.t 4)), Oa 24 (.load (.t 23)), Oa 25 (.iaddr 1 (.t 22) (.t 24)), Oa 26 (.faddr 0 (.t 25)), Oa 27 (.load (.t 26)), Oa 7 (.mv (.t 27))]
abbrev qapy : List SOper := [Oa 38 (.faddr 1 (.t 4)), Oa 39 (.load (.t 38)), Oa 40 (.bin .lss (.t 39) (.c (.int .i64 0))), Oa 41 (.mv (.t 40)), Oe 42 (.faddr 1 (.t 4)) 41 false, Oe 43 (.load (.t 42)) 41 false, Oe 44 (.mv (.t 7)) 41 false, Oe 45 (.len false (.t 44)) 41 false, Oe 46 (.bin .geq (.t 43) (.t 45)) 41 false, Oa 47 (.pick (.t 41) (.c (.bool true)) (.t 46))]
abbrev qapx : List SOper := [Oa 6 (.mv (.c (.int .i64 0)))]
abbrev qapw : List SOper := [Oa 48 (.mv (.t 7)), Oa 49 (.faddr 1 (.t 4)), Oa 50 (.load (.t 49)), Oa 51 (.iaddr 1 (.t 48) (.t 50)), Oa 52 (.load (.t 51)), Oa 6 (.mv (.t 52))]
def c_rwidth : SCode := (.seq (.reg false qav3 [2, 3, 4]) (.seq (.reg false qav2 [2, 3, 4, 7]) (.seq (.seq (.reg false qav1 [2, 3, 4, 7, 9]) (.block 0 (.seq (.reg false qav0 [2, 3, 4, 7, 9, 28]) (.cond (.t 28) (.reg false qavz [4, 7]) (.seq (.reg false qavy [2, 3, 4, 7, 9, 31]) (.cond (.t 31) (.reg false qavx [4, 7]) (.seq (.reg false qavw [2, 3, 4, 7, 35]) (.cond (.t 35) (.reg false qavv [4, 7]) (.seq (.reg false qap0 [3, 4, 7, 20]) (.cond (.t 20) (.reg false qapz [4, 7]) .skip)))))))))) (.seq (.seq (.reg false qapy [4, 7, 47]) (.cond (.t 47) (.seq (.reg false qapx [6]) .ret) .skip)) (.seq (.reg false qapw [6]) .ret)))))
theorem qak9 : comp Tryz.prog 53 ((Tryz.f132.body).getD .skip) = some c_rwidth.erase := by kernel_rfl
abbrev qaw1 : List SOper := [Oa 2 (.mv (.c (.int .i64 0)))]
abbrev qaw0 : List SOper := [Oa 3 (.mv (.t 0)), Oa 4 (.bin .lss (.t 3) (.c (.int .i64 1))), Oa 5 (.mv (.t 4)), Oe 6 (.mv (.t 0)) 5 false, Oe 7 (.bin .gtr (.t 6) (.c (.int .i64 13))) 5 false, Oa 8 (.pick (.t 5) (.c (.bool true)) (.t 7))]
abbrev qawz : List SOper := [Oa 2 (.mv (.c (.int .i64 (-1))))]
abbrev qawy : List SOper := [Oa 9 (.mkrow 3 1 14 [(.int .i64 0)] [(0, (.c (.int .i64 0))), (1, (.c (.int .i64 0))), (2, (.c (.int .i64 0))), (3, (.c (.int .i64 2))), (4, (.c (.int .i64 2))), (5, (.c (.int .i64 2))), (6, (.c (.int .i64 2))), (7, (.c (.int .i64 2))), (8, (.c (.int .i64 2))), (9, (.c (.int .i64 2))), (10, (.c (.int .i64 2))), (11, (.c (.int .i64 2))), (12, (.c (.int .i64 2))), (13, (.c (.int .i64 1)))]), Oa 10 (.mv (.t 0)), Oa 11 (.iaddr 1 (.t 9) (.t 10)), Oa 12 (.load (.t 11)), Oa 2 (.mv (.t 12))]
def c_rtakes : SCode := (.seq (.reg false qaw1 [0]) (.seq (.seq (.reg false qaw0 [0, 8]) (.cond (.t 8) (.seq (.reg false qawz [2]) .ret) .skip)) (.seq (.reg false qawy [2]) .ret)))
theorem qalb : comp Tryz.prog 13 ((Tryz.f154.body).getD .skip) = some c_rtakes.erase := by kernel_rfl
abbrev qbaa : List SOper := [Oa 3 (.box 33 (.t 0)), Oa 6 (.mv (.c (.int .i64 0)))]
abbrev qa99 : List SOper := [Oa 10 (.mv (.t 1)), Oa 11 (.len false (.t 10)), Oa 12 (.bin .gtr (.t 11) (.c (.int .i64 8)))]
abbrev qa98 : List SOper := [Oa 6 (.mv (.c (.int .i64 2)))]
abbrev qa97 : List SOper := [Oa 7 (.mv (.c (.int .i64 0)))]
abbrev qa96 : List SOper := [Oa 8 (.mv (.c (.int .i64 0)))]
abbrev qa95 : List SOper := [Oa 13 (.mv (.t 8)), Oa 14 (.mv (.t 1)), Oa 15 (.len false (.t 14)), Oa 16 (.bin .lss (.t 13) (.t 15))]
abbrev qa94 : List SOper := [Oa 19 (.mv (.t 1)), Oa 20 (.mv (.t 8)), Oa 21 (.iaddr 4 (.t 19) (.t 20)), Oa 22 (.faddr 0 (.t 21)), Oa 23 (.load (.t 22)), Oc 24 154 [(.t 23)], Oa 9 (.mv (.t 24))]
abbrev qa93 : List SOper := [Oa 25 (.mv (.t 9)), Oa 26 (.bin .lss (.t 25) (.c (.int .i64 0))), Oa 27 (.mv (.t 26)), Oe 28 (.mv (.t 9)) 27 false, Oe 29 (.mv (.t 7)) 27 false, Oe 30 (.bin .gtr (.t 28) (.t 29)) 27 false, Oa 31 (.pick (.t 27) (.c (.bool true)) (.t 30))]
abbrev qa92 : List SOper := [Oa 6 (.mv (.c (.int .i64 13)))]
abbrev qa0q : List SOper := [Oa 32 (.mv (.t 1)), Oa 33 (.mv (.t 8)), Od 34 (.iaddr 4 (.t 32) (.t 33)) 3, Od 35 (.faddr 0 (.t 34)) 7, Od 36 (.load (.t 35)) 15, Od 37 (.bin .eql (.t 36) (.c (.int .i64 2))) 31, Od 38 (.mv (.t 37)) 63, Of 39 (.loads 7 (.t 3)) 38 true 127, Of 40 (.mv (.t 1)) 38 true 127, Of 41 (.mv (.t 8)) 38 true 127, Of 42 (.iaddr 4 (.t 40) (.t 41)) 38 true 895, Of 43 (.faddr 1 (.t 42)) 38 true 1919, Of 44 (.loads 2 (.t 43)) 38 true 3967, Of 45 (.mv (.t 2)) 38 true 127, ⟨(some 46), .mv (.c .any), some ((.c (.fn (.func 132) [] [])), [(.t 39), (.t 44), (.t 45)]), (some (38, true)), 16383⟩, Of 47 (.bin .eql (.t 46) (.c (.int .i64 0))) 38 true 32767, Od 48 (.pick (.t 38) (.t 47) (.c (.bool false))) 65535]
abbrev qa0p : List SOper := [Oa 6 (.mv (.c (.int .i64 1)))]
abbrev qa0o : List SOper := [Oa 49 (.mv (.t 7)), Oa 50 (.mv (.t 9)), Oa 51 (.bin .sub (.t 49) (.t 50)), Oa 52 (.bin .add (.t 51) (.c (.int .i64 1))), Oa 7 (.mv (.t 52))]
abbrev qa0n : List SOper := [Oa 17 (.mv (.t 8)), Oa 18 (.bin .add (.t 17) (.c (.int .i64 1))), Oa 8 (.mv (.t 18))]
def qal9 : SCode := (.seq (.seq (.reg false qa95 [1, 2, 3, 7, 8, 16]) (.cond (.t 16) .skip (.exit 0))) (.seq (.block 1 (.seq (.reg false qa94 [1, 2, 3, 7, 8, 9]) (.seq (.seq (.reg false qa93 [1, 2, 3, 7, 8, 9, 31]) (.cond (.t 31) (.seq (.reg false qa92 [6]) .ret) .skip)) (.seq (.seq (.reg true qa0q [1, 2, 3, 7, 8, 9, 48]) (.cond (.t 48) (.seq (.reg false qa0p [6]) .ret) .skip)) (.reg false qa0o [1, 2, 3, 7, 8]))))) (.reg false qa0n [1, 2, 3, 7, 8])))
abbrev qa0m : List SOper := [Oa 53 (.mv (.t 7)), Oa 54 (.bin .neq (.t 53) (.c (.int .i64 1)))]
abbrev qa0l : List SOper := [Oa 6 (.mv (.c (.int .i64 13)))]
abbrev qa0k : List SOper := [Oa 6 (.mv (.c (.int .i64 0)))]
def c_rexpr : SCode := (.seq (.reg false qbaa [1, 2, 3]) (.seq (.seq (.reg false qa99 [1, 2, 3, 12]) (.cond (.t 12) (.seq (.reg false qa98 [6]) .ret) .skip)) (.seq (.reg false qa97 [1, 2, 3, 7]) (.seq (.seq (.reg false qa96 [1, 2, 3, 7, 8]) (.block 0 (.loop qal9))) (.seq (.seq (.reg false qa0m [54]) (.cond (.t 54) (.seq (.reg false qa0l [6]) .ret) .skip)) (.seq (.reg false qa0k [6]) .ret))))))
theorem qaol : comp Tryz.prog 55 ((Tryz.f137.body).getD .skip) = some c_rexpr.erase := by kernel_rfl
abbrev qa9h : List SOper := [Oa 2 (.box 33 (.t 0)), Oa 4 (.mv (.c (.bool false)))]
abbrev qa9g : List SOper := [Oa 5 (.mv (.t 1)), Oa 6 (.bin .geq (.t 5) (.c (.int .i64 0))), Oa 7 (.mv (.t 6)), Oe 8 (.mv (.t 1)) 7 true, Oe 9 (.faddr 0 (.t 2)) 7 true, Oe 10 (.load (.t 9)) 7 true, Oe 11 (.len false (.t 10)) 7 true, Oe 12 (.bin .lss (.t 8) (.t 11)) 7 true, Oa 13 (.pick (.t 7) (.t 12) (.c (.bool false))), Oa 4 (.mv (.t 13))]
def c_rhead : SCode := (.seq (.reg false qa9h [1, 2]) (.seq (.reg false qa9g [4]) .ret))
theorem qaoh : comp Tryz.prog 14 ((Tryz.f107.body).getD .skip) = some c_rhead.erase := by kernel_rfl
abbrev qbf7 : List SOper := [Oa 2 (.box 33 (.t 0)), Oa 3 (.box 66 (.t 1)), Oa 4 (.mv (.c (.bool false)))]
abbrev qbf6 : List SOper := [Oa 5 (.faddr 0 (.t 3)), Oa 6 (.load (.t 5)), Oa 7 (.bin .geq (.t 6) (.c (.int .i64 (-1)))), Oa 8 (.mv (.t 7)), Oe 9 (.loads 7 (.t 2)) 8 true, Oe 10 (.loads 2 (.t 3)) 8 true, ⟨(some 11), .mv (.c .any), some ((.c (.fn (.func 132) [] [])), [(.t 9), (.t 10), (.c .nilsl)]), (some (8, true)), 0⟩, Oe 12 (.bin .gtr (.t 11) (.c (.int .i64 0))) 8 true, Oa 13 (.pick (.t 8) (.t 12) (.c (.bool false))), Oa 4 (.mv (.t 13))]
def c_rmay : SCode := (.seq (.reg false qbf7 [2, 3]) (.seq (.reg false qbf6 [4]) .ret))
theorem qauh : comp Tryz.prog 14 ((Tryz.f153.body).getD .skip) = some c_rmay.erase := by kernel_rfl
abbrev qbaj : List SOper := [Oa 3 (.box 33 (.t 0)), Oa 4 (.box 75 (.t 1)), Oa 6 (.mv (.c (.int .i64 0)))]
abbrev qbai : List SOper := [Oa 7 (.faddr 0 (.t 4)), Oa 8 (.load (.t 7))]
abbrev qbah : List SOper := [Oa 10 (.bin .eql (.t 8) (.c (.int .i64 1))), Oa 9 (.mv (.t 10))]
abbrev qbag : List SOper := [Oa 11 (.loads 7 (.t 3)), Oa 12 (.faddr 1 (.t 4)), Oa 13 (.loads 2 (.t 12)), Oc 14 153 [(.t 11), (.t 13)], Oa 15 (.un .not (.t 14))]
abbrev qbaf : List SOper := [Oa 6 (.mv (.c (.int .i64 1)))]
abbrev qbae : List SOper := [Oa 16 (.loads 7 (.t 3)), Oa 17 (.faddr 4 (.t 4)), Oa 18 (.load (.t 17)), Oa 19 (.mv (.t 2)), Oc 20 137 [(.t 16), (.t 18), (.t 19)], Oa 6 (.mv (.t 20))]
abbrev qbad : List SOper := [Oa 22 (.bin .eql (.t 8) (.c (.int .i64 2))), Oa 21 (.mv (.t 22))]
abbrev qbac : List SOper := [Oa 23 (.bin .eql (.t 8) (.c (.int .i64 3))), Oa 21 (.mv (.t 23))]
abbrev qbab : List SOper := [Oa 24 (.loads 7 (.t 3)), Oa 25 (.faddr 3 (.t 4)), Oa 26 (.load (.t 25)), Oc 27 107 [(.t 24), (.t 26)], Oa 28 (.un .not (.t 27))]
abbrev qa0z : List SOper := [Oa 6 (.mv (.c (.int .i64 1)))]
abbrev qa0y : List SOper := [Oa 30 (.bin .eql (.t 8) (.c (.int .i64 4))), Oa 29 (.mv (.t 30))]
abbrev qa0x : List SOper := [Oa 32 (.bin .eql (.t 8) (.c (.int .i64 5))), Oa 31 (.mv (.t 32))]
abbrev qa0w : List SOper := [Oa 33 (.loads 7 (.t 3)), Oa 34 (.faddr 4 (.t 4)), Oa 35 (.load (.t 34)), Oa 36 (.mv (.t 2)), Oc 37 137 [(.t 33), (.t 35), (.t 36)], Oa 6 (.mv (.t 37))]
abbrev qa0v : List SOper := [Oa 39 (.bin .eql (.t 8) (.c (.int .i64 6))), Oa 38 (.mv (.t 39))]
abbrev qa0u : List SOper := [Oa 40 (.loads 7 (.t 3)), Oa 41 (.faddr 1 (.t 4)), Oa 42 (.loads 2 (.t 41)), Oc 43 153 [(.t 40), (.t 42)], Oa 44 (.un .not (.t 43)), Oa 45 (.mv (.t 44)), Oe 46 (.loads 7 (.t 3)) 45 false, Oe 47 (.faddr 3 (.t 4)) 45 false, Oe 48 (.load (.t 47)) 45 false, ⟨(some 49), .mv (.c .any), some ((.c (.fn (.func 107) [] [])), [(.t 46), (.t 48)]), (some (45, false)), 0⟩, Oe 50 (.un .not (.t 49)) 45 false, Oa 51 (.pick (.t 45) (.c (.bool true)) (.t 50))]
abbrev qa0t : List SOper := [Oa 6 (.mv (.c (.int .i64 1)))]
abbrev qa0s : List SOper := [Oa 6 (.mv (.c (.int .i64 5)))]
abbrev qa0r : List SOper := [Oa 6 (.mv (.c (.int .i64 0)))]
def c_rdeed : SCode := (.seq (.reg false qbaj [2, 3, 4]) (.seq (.seq (.reg false qbai [2, 3, 4, 8]) (.block 0 (.seq (.reg false qbah [2, 3, 4, 8, 9]) (.cond (.t 9) (.seq (.seq (.reg false qbag [2, 3, 4, 15]) (.cond (.t 15) (.seq (.reg false qbaf [6]) .ret) .skip)) (.seq (.reg false qbae [6]) .ret)) (.seq (.seq (.reg false qbad [2, 3, 4, 8, 21]) (.cond (.t 21) .skip (.reg false qbac [2, 3, 4, 8, 21]))) (.cond (.t 21) (.seq (.reg false qbab [28]) (.cond (.t 28) (.seq (.reg false qa0z [6]) .ret) .skip)) (.seq (.reg false qa0y [2, 3, 4, 8, 29]) (.cond (.t 29) .skip (.seq (.reg false qa0x [2, 3, 4, 8, 31]) (.cond (.t 31) (.seq (.reg false qa0w [6]) .ret) (.seq (.reg false qa0v [3, 4, 38]) (.cond (.t 38) (.seq (.reg false qa0u [51]) (.cond (.t 51) (.seq (.reg false qa0t [6]) .ret) .skip)) (.seq (.reg false qa0s [6]) .ret))))))))))))) (.seq (.reg false qa0r [6]) .ret)))
theorem qaom : comp Tryz.prog 52 ((Tryz.f135.body).getD .skip) = some c_rdeed.erase := by kernel_rfl
abbrev qa9e : List SOper := [Oa 3 (.box 33 (.t 0)), Oa 6 (.mv (.c (.int .i64 0)))]
abbrev qa9d : List SOper := [Oa 7 (.mv (.t 2)), Oa 8 (.bin .eql (.t 7) (.c (.int .i64 1000))), Oa 9 (.mv (.t 8)), Oe 10 (.mv (.t 2)) 9 false, Oe 11 (.bin .eql (.t 10) (.c (.int .i64 1001))) 9 false, Oa 12 (.pick (.t 9) (.c (.bool true)) (.t 11))]
abbrev qa9c : List SOper := [Oa 6 (.mv (.c (.int .i64 0)))]
abbrev qa9b : List SOper := [Oa 13 (.mv (.t 2)), Oa 14 (.bin .lss (.t 13) (.c (.int .i64 0))), Oa 15 (.mv (.t 14)), Oe 16 (.mv (.t 2)) 15 false, Oe 17 (.faddr 2 (.t 3)) 15 false, Oe 18 (.load (.t 17)) 15 false, Oe 19 (.len false (.t 18)) 15 false, Oe 20 (.bin .geq (.t 16) (.t 19)) 15 false, Oa 21 (.pick (.t 15) (.c (.bool true)) (.t 20))]
abbrev qa9a : List SOper := [Oa 6 (.mv (.c (.int .i64 1)))]
abbrev qa89 : List SOper := [Oa 22 (.mv (.t 2)), Oa 23 (.mv (.t 1)), Oa 24 (.bin .leq (.t 22) (.t 23))]
abbrev qa88 : List SOper := [Oa 6 (.mv (.c (.int .i64 11)))]
abbrev qa87 : List SOper := [Oa 6 (.mv (.c (.int .i64 0)))]
def c_rlead : SCode := (.seq (.reg false qa9e [1, 2, 3]) (.seq (.seq (.reg false qa9d [1, 2, 3, 12]) (.cond (.t 12) (.seq (.reg false qa9c [6]) .ret) .skip)) (.seq (.seq (.reg false qa9b [1, 2, 21]) (.cond (.t 21) (.seq (.reg false qa9a [6]) .ret) .skip)) (.seq (.seq (.reg false qa89 [24]) (.cond (.t 24) (.seq (.reg false qa88 [6]) .ret) .skip)) (.seq (.reg false qa87 [6]) .ret)))))
theorem qaog : comp Tryz.prog 25 ((Tryz.f134.body).getD .skip) = some c_rlead.erase := by kernel_rfl
abbrev qaxs : List SOper := [Oa 2 (.box 33 (.t 0)), Oa 4 (.mv (.c (.int .i64 0)))]
abbrev qaxr : List SOper := [Oa 10 (.faddr 2 (.t 2)), Oa 11 (.load (.t 10)), Oa 12 (.mv (.t 1)), Oa 13 (.iaddr 5 (.t 11) (.t 12)), Oa 14 (.loads 5 (.t 13)), Oa 5 (.alloc 69 [(.int .i64 0), (.int .i64 0), (.int .i64 0), .nilsl, (.int .i64 0)]), Ob (.store 5 (.t 5) (.t 14))]
abbrev qaxq : List SOper := [Oa 15 (.faddr 0 (.t 5)), Oa 16 (.load (.t 15)), Oa 17 (.bin .neq (.t 16) (.c (.int .i64 (-1)))), Oa 18 (.mv (.t 17)), Oe 19 (.loads 7 (.t 2)) 18 true, Oe 20 (.faddr 0 (.t 5)) 18 true, Oe 21 (.load (.t 20)) 18 true, ⟨(some 22), .mv (.c .any), some ((.c (.fn (.func 107) [] [])), [(.t 19), (.t 21)]), (some (18, true)), 0⟩, Oe 23 (.un .not (.t 22)) 18 true, Oa 24 (.pick (.t 18) (.t 23) (.c (.bool false)))]
abbrev qaxp : List SOper := [Oa 4 (.mv (.c (.int .i64 1)))]
abbrev qaxo : List SOper := [Oa 25 (.faddr 3 (.t 5)), Oa 26 (.load (.t 25)), Oa 27 (.len false (.t 26)), Oa 28 (.bin .gtr (.t 27) (.c (.int .i64 4)))]
abbrev qaxn : List SOper := [Oa 4 (.mv (.c (.int .i64 2)))]
abbrev qaxm : List SOper := [Oa 29 (.loads 7 (.t 2)), Oa 30 (.faddr 1 (.t 5)), Oa 31 (.loads 2 (.t 30)), Oc 32 132 [(.t 29), (.t 31), (.c .nilsl)], Oa 6 (.mv (.t 32))]
abbrev qaxl : List SOper := [Oa 33 (.faddr 3 (.t 5)), Oa 34 (.load (.t 33)), Oa 35 (.len false (.t 34)), Oa 36 (.bin .gtr (.t 35) (.c (.int .i64 0))), Oa 37 (.mv (.t 36)), Oe 38 (.mv (.t 6)) 37 true, Oe 39 (.bin .eql (.t 38) (.c (.int .i64 0))) 37 true, Oa 40 (.pick (.t 37) (.t 39) (.c (.bool false)))]
abbrev qaxk : List SOper := [Oa 4 (.mv (.c (.int .i64 1)))]
abbrev qaqi : List SOper := [Oa 7 (.mv (.c (.int .i64 0)))]
abbrev qaqh : List SOper := [Oa 41 (.mv (.t 7)), Oa 42 (.faddr 3 (.t 5)), Oa 43 (.load (.t 42)), Oa 44 (.len false (.t 43)), Oa 45 (.bin .lss (.t 41) (.t 44))]
abbrev qaqg : List SOper := [Oa 48 (.faddr 3 (.t 5)), Oa 49 (.load (.t 48)), Oa 50 (.mv (.t 7)), Oa 51 (.iaddr 3 (.t 49) (.t 50)), Oa 52 (.loads 3 (.t 51)), Oa 8 (.alloc 145 [(.int .u64 0), (.int .u64 0), (.int .i64 0)]), Ob (.store 3 (.t 8) (.t 52))]
abbrev qaqf : List SOper := [Oa 53 (.faddr 1 (.t 8)), Oa 54 (.load (.t 53)), Oa 55 (.mv (.t 6)), Oc 56 133 [(.t 54), (.t 55)], Oa 57 (.mv (.t 56)), Oe 58 (.faddr 0 (.t 8)) 57 false, Oe 59 (.load (.t 58)) 57 false, Oe 60 (.faddr 1 (.t 8)) 57 false, Oe 61 (.load (.t 60)) 57 false, Oe 62 (.bin .and (.t 59) (.t 61)) 57 false, Oe 63 (.faddr 0 (.t 8)) 57 false, Oe 64 (.load (.t 63)) 57 false, Oe 65 (.bin .neq (.t 62) (.t 64)) 57 false, Oa 66 (.pick (.t 57) (.c (.bool true)) (.t 65))]
abbrev qaqe : List SOper := [Oa 4 (.mv (.c (.int .i64 6)))]
abbrev qaqd : List SOper := [Oa 67 (.loads 7 (.t 2)), Oa 68 (.mv (.t 1)), Oa 69 (.faddr 2 (.t 8)), Oa 70 (.load (.t 69)), Oc 71 134 [(.t 67), (.t 68), (.t 70)], Oa 9 (.mv (.t 71))]
abbrev qaqc : List SOper := [Oa 72 (.mv (.t 9)), Oa 73 (.bin .neq (.t 72) (.c (.int .i64 0)))]
abbrev qaqb : List SOper := [Oa 74 (.mv (.t 9)), Oa 4 (.mv (.t 74))]
abbrev qaqa : List SOper := [Oa 46 (.mv (.t 7)), Oa 47 (.bin .add (.t 46) (.c (.int .i64 1))), Oa 7 (.mv (.t 47))]
def c_rstate_l1 : SCode := (.seq (.seq (.reg false qaqh [1, 2, 5, 6, 7, 45]) (.cond (.t 45) .skip (.exit 0))) (.seq (.block 1 (.seq (.reg false qaqg [1, 2, 5, 6, 7, 8]) (.seq (.seq (.reg false qaqf [1, 2, 5, 6, 7, 8, 66]) (.cond (.t 66) (.seq (.reg false qaqe [4]) .ret) .skip)) (.seq (.reg false qaqd [1, 2, 5, 6, 7, 9]) (.seq (.reg false qaqc [1, 2, 5, 6, 7, 9, 73]) (.cond (.t 73) (.seq (.reg false qaqb [4]) .ret) .skip)))))) (.reg false qaqa [1, 2, 5, 6, 7])))
abbrev qah5 : List SOper := [Oa 75 (.loads 7 (.t 2)), Oa 76 (.mv (.t 1)), Oa 77 (.faddr 4 (.t 5)), Oa 78 (.load (.t 77)), Oc 79 134 [(.t 75), (.t 76), (.t 78)], Oa 4 (.mv (.t 79))]
def c_rstate : SCode := (.seq (.reg false qaxs [1, 2]) (.seq (.reg false qaxr [1, 2, 5]) (.seq (.seq (.reg false qaxq [1, 2, 5, 24]) (.cond (.t 24) (.seq (.reg false qaxp [4]) .ret) .skip)) (.seq (.seq (.reg false qaxo [1, 2, 5, 28]) (.cond (.t 28) (.seq (.reg false qaxn [4]) .ret) .skip)) (.seq (.reg false qaxm [1, 2, 5, 6]) (.seq (.seq (.reg false qaxl [1, 2, 5, 6, 40]) (.cond (.t 40) (.seq (.reg false qaxk [4]) .ret) .skip)) (.seq (.seq (.reg false qaqi [1, 2, 5, 6, 7]) (.block 0 (.loop c_rstate_l1))) (.seq (.reg false qah5 [4]) .ret))))))))
theorem qald : comp Tryz.prog 80 ((Tryz.f101.body).getD .skip) = some c_rstate.erase := by kernel_rfl
abbrev qbgi : List SOper := [Oa 2 (.box 33 (.t 0)), Oa 3 (.box 72 (.t 1)), Oa 4 (.mv (.c (.int .i64 0)))]
abbrev qbgh : List SOper := [Oa 8 (.faddr 0 (.t 3)), Oa 9 (.load (.t 8)), Oa 10 (.len false (.t 9)), Oa 11 (.bin .gtr (.t 10) (.c (.int .i64 3))), Oa 12 (.mv (.t 11)), Oe 13 (.faddr 1 (.t 3)) 12 false, Oe 14 (.load (.t 13)) 12 false, Oe 15 (.len false (.t 14)) 12 false, Oe 16 (.bin .gtr (.t 15) (.c (.int .i64 5))) 12 false, Oa 17 (.pick (.t 12) (.c (.bool true)) (.t 16))]
abbrev qbgg : List SOper := [Oa 4 (.mv (.c (.int .i64 2)))]
abbrev qbgf : List SOper := [Oa 5 (.mv (.c (.int .i64 0)))]
abbrev qbge : List SOper := [Oa 18 (.mv (.t 5)), Oa 19 (.faddr 0 (.t 3)), Oa 20 (.load (.t 19)), Oa 21 (.len false (.t 20)), Oa 22 (.bin .lss (.t 18) (.t 21))]
abbrev qbgd : List SOper := [Oa 25 (.faddr 0 (.t 3)), Oa 26 (.load (.t 25)), Oa 27 (.mv (.t 5)), Oa 28 (.iaddr 1 (.t 26) (.t 27)), Oa 29 (.load (.t 28)), Oa 30 (.bin .lss (.t 29) (.c (.int .i64 1))), Oa 31 (.mv (.t 30)), Oe 32 (.faddr 0 (.t 3)) 31 false, Oe 33 (.load (.t 32)) 31 false, Oe 34 (.mv (.t 5)) 31 false, Oe 35 (.iaddr 1 (.t 33) (.t 34)) 31 false, Oe 36 (.load (.t 35)) 31 false, Oe 37 (.bin .gtr (.t 36) (.c (.int .i64 48))) 31 false, Oa 38 (.pick (.t 31) (.c (.bool true)) (.t 37))]
abbrev qbgc : List SOper := [Oa 4 (.mv (.c (.int .i64 6)))]
abbrev qbgb : List SOper := [Oa 23 (.mv (.t 5)), Oa 24 (.bin .add (.t 23) (.c (.int .i64 1))), Oa 5 (.mv (.t 24))]
def qatn : SCode := (.seq (.seq (.reg false qbge [2, 3, 5, 22]) (.cond (.t 22) .skip (.exit 0))) (.seq (.block 1 (.seq (.reg false qbgd [2, 3, 5, 38]) (.cond (.t 38) (.seq (.reg false qbgc [4]) .ret) .skip))) (.reg false qbgb [2, 3, 5])))
abbrev qbga : List SOper := [Oa 6 (.mv (.c (.int .i64 0)))]
abbrev qbay : List SOper := [Oa 39 (.mv (.t 6)), Oa 40 (.faddr 1 (.t 3)), Oa 41 (.load (.t 40)), Oa 42 (.len false (.t 41)), Oa 43 (.bin .lss (.t 39) (.t 42))]
abbrev qbax : List SOper := [Oa 46 (.loads 7 (.t 2)), Oa 47 (.faddr 1 (.t 3)), Od 48 (.load (.t 47)) 2, Oa 49 (.mv (.t 6)), Od 50 (.iaddr 5 (.t 48) (.t 49)) 14, Od 51 (.loads 5 (.t 50)) 30, Oa 52 (.faddr 0 (.t 3)), Od 53 (.load (.t 52)) 64, ⟨(some 54), .mv (.c .any), some ((.c (.fn (.func 135) [] [])), [(.t 46), (.t 51), (.t 53)]), none, 255⟩, Od 7 (.mv (.t 54)) 511]
abbrev qbaw : List SOper := [Oa 55 (.mv (.t 7)), Oa 56 (.bin .neq (.t 55) (.c (.int .i64 0)))]
abbrev qbav : List SOper := [Oa 57 (.mv (.t 7)), Oa 4 (.mv (.t 57))]
abbrev qbau : List SOper := [Oa 44 (.mv (.t 6)), Oa 45 (.bin .add (.t 44) (.c (.int .i64 1))), Oa 6 (.mv (.t 45))]
def qatm : SCode := (.seq (.seq (.reg false qbay [2, 3, 6, 43]) (.cond (.t 43) .skip (.exit 2))) (.seq (.block 3 (.seq (.reg true qbax [2, 3, 6, 7]) (.seq (.reg false qbaw [2, 3, 6, 7, 56]) (.cond (.t 56) (.seq (.reg false qbav [4]) .ret) .skip)))) (.reg false qbau [2, 3, 6])))
abbrev qbat : List SOper := [Oa 4 (.mv (.c (.int .i64 0)))]
def c_ract : SCode := (.seq (.reg false qbgi [2, 3]) (.seq (.seq (.reg false qbgh [2, 3, 17]) (.cond (.t 17) (.seq (.reg false qbgg [4]) .ret) .skip)) (.seq (.seq (.reg false qbgf [2, 3, 5]) (.block 0 (.loop qatn))) (.seq (.seq (.reg false qbga [2, 3, 6]) (.block 2 (.loop qatm))) (.seq (.reg false qbat [4]) .ret)))))
theorem qauj : comp Tryz.prog 58 ((Tryz.f102.body).getD .skip) = some c_ract.erase := by kernel_rfl
abbrev qapv : List SOper := [Oa 2 (.box 33 (.t 0)), Oa 3 (.box 78 (.t 1)), Oa 4 (.mv (.c .nilsl))]
abbrev qapu : List SOper := [Oa 5 (.mv (.c .nilsl))]
abbrev qapt : List SOper := [Oa 6 (.mv (.c (.int .i64 0)))]
abbrev qaps : List SOper := [Oa 7 (.mv (.t 6)), Oa 8 (.faddr 1 (.t 3)), Oa 9 (.load (.t 8)), Oa 10 (.len false (.t 9)), Oa 11 (.bin .lss (.t 7) (.t 10))]
abbrev qapr : List SOper := [Oa 14 (.mv (.t 5)), Oa 15 (.loads 7 (.t 2)), Oa 16 (.faddr 1 (.t 3)), Od 17 (.load (.t 16)) 4, Oa 18 (.mv (.t 6)), Od 19 (.iaddr 2 (.t 17) (.t 18)) 28, Od 20 (.loads 2 (.t 19)) 60, ⟨(some 21), .mv (.c .any), some ((.c (.fn (.func 132) [] [])), [(.t 15), (.t 20), (.c .nilsl)]), none, 126⟩, Od 22 (.mkrow 3 1 1 [(.int .i64 0)] [(0, (.t 21))]) 254, Od 23 (.app 3 1 8 (.t 14) (.t 22)) 511, Od 5 (.mv (.t 23)) 1023]
abbrev qapq : List SOper := [Oa 12 (.mv (.t 6)), Oa 13 (.bin .add (.t 12) (.c (.int .i64 1))), Oa 6 (.mv (.t 13))]
def qah4 : SCode := (.seq (.seq (.reg false qaps [2, 3, 5, 6, 11]) (.cond (.t 11) .skip (.exit 0))) (.seq (.block 1 (.reg true qapr [2, 3, 5, 6])) (.reg false qapq [2, 3, 5, 6])))
abbrev qah3 : List SOper := [Oa 24 (.mv (.t 5)), Oa 4 (.mv (.t 24))]
def c_rwidths : SCode := (.seq (.reg false qapv [2, 3]) (.seq (.reg false qapu [2, 3, 5]) (.seq (.seq (.reg false qapt [2, 3, 5, 6]) (.block 0 (.loop qah4))) (.seq (.reg false qah3 [4]) .ret))))
theorem qaj6 : comp Tryz.prog 25 ((Tryz.f103.body).getD .skip) = some c_rwidths.erase := by kernel_rfl
abbrev qa86 : List SOper := [Oa 2 (.box 33 (.t 0)), Oa 4 (.mv (.c (.int .i64 0)))]
abbrev qa85 : List SOper := [Oa 9 (.faddr 5 (.t 2)), Oa 10 (.load (.t 9)), Oa 11 (.mv (.t 1)), Oa 12 (.iaddr 5 (.t 10) (.t 11)), Oa 13 (.loads 5 (.t 12)), Oa 5 (.alloc 80 [(.int .i64 0), (.int .i64 0), .nilsl, (.int .i64 0), (.int .i64 0)]), Ob (.store 5 (.t 5) (.t 13))]
abbrev qa84 : List SOper := [Oa 6 (.mv (.c (.int .i64 0)))]
abbrev qa83 : List SOper := [Oa 14 (.faddr 3 (.t 5)), Oa 15 (.load (.t 14)), Oa 16 (.mkrow 3 1 1 [(.int .i64 0)] [(0, (.t 15))]), Oa 7 (.mv (.t 16))]
abbrev qa82 : List SOper := [Oa 17 (.faddr 0 (.t 5)), Oa 18 (.load (.t 17))]
abbrev qa81 : List SOper := [Oa 20 (.bin .eql (.t 18) (.c (.int .i64 1))), Oa 19 (.mv (.t 20))]
abbrev qa80 : List SOper := [Oa 21 (.faddr 1 (.t 5)), Oa 22 (.load (.t 21)), Oa 23 (.bin .lss (.t 22) (.c (.int .i64 0))), Oa 24 (.mv (.t 23)), Oe 25 (.faddr 1 (.t 5)) 24 false, Oe 26 (.load (.t 25)) 24 false, Oe 27 (.faddr 4 (.t 2)) 24 false, Oe 28 (.load (.t 27)) 24 false, Oe 29 (.len false (.t 28)) 24 false, Oe 30 (.bin .geq (.t 26) (.t 29)) 24 false, Oa 31 (.pick (.t 24) (.c (.bool true)) (.t 30))]
abbrev qa8z : List SOper := [Oa 6 (.mv (.c (.int .i64 1)))]
abbrev qa8y : List SOper := [Oa 33 (.bin .eql (.t 18) (.c (.int .i64 2))), Oa 32 (.mv (.t 33))]
abbrev qayj : List SOper := [Oa 34 (.faddr 1 (.t 5)), Oa 35 (.load (.t 34)), Oa 36 (.bin .lss (.t 35) (.c (.int .i64 0))), Oa 37 (.mv (.t 36)), Oe 38 (.faddr 1 (.t 5)) 37 false, Oe 39 (.load (.t 38)) 37 false, Oe 40 (.faddr 3 (.t 2)) 37 false, Oe 41 (.load (.t 40)) 37 false, Oe 42 (.len false (.t 41)) 37 false, Oe 43 (.bin .geq (.t 39) (.t 42)) 37 false, Oa 44 (.pick (.t 37) (.c (.bool true)) (.t 43))]
abbrev qayi : List SOper := [Oa 6 (.mv (.c (.int .i64 1)))]
abbrev qayh : List SOper := [Oa 45 (.faddr 3 (.t 2)), Oa 46 (.load (.t 45)), Oa 47 (.faddr 1 (.t 5)), Oa 48 (.load (.t 47)), Oa 49 (.iaddr 2 (.t 46) (.t 48)), Oa 50 (.faddr 0 (.t 49)), Oa 51 (.load (.t 50)), Oa 52 (.len false (.t 51)), Oa 53 (.bin .gtr (.t 52) (.c (.int .i64 0)))]
abbrev qayg : List SOper := [Oa 6 (.mv (.c (.int .i64 2)))]
abbrev qayf : List SOper := [Oa 55 (.bin .eql (.t 18) (.c (.int .i64 3))), Oa 54 (.mv (.t 55))]
abbrev qaye : List SOper := [Oa 56 (.loads 7 (.t 2)), Oa 57 (.faddr 2 (.t 5)), Oa 58 (.load (.t 57)), Oc 59 137 [(.t 56), (.t 58), (.c .nilsl)], Oa 6 (.mv (.t 59))]
abbrev qayd : List SOper := [Oa 60 (.faddr 3 (.t 5)), Oa 61 (.load (.t 60)), Oa 62 (.faddr 4 (.t 5)), Oa 63 (.load (.t 62)), Oa 64 (.mkrow 3 1 2 [(.int .i64 0)] [(0, (.t 61)), (1, (.t 63))]), Oa 7 (.mv (.t 64))]
abbrev qayc : List SOper := [Oa 66 (.bin .eql (.t 18) (.c (.int .i64 4))), Oa 65 (.mv (.t 66))]
abbrev qayb : List SOper := [Oa 67 (.loads 7 (.t 2)), Oa 68 (.faddr 1 (.t 5)), Oa 69 (.load (.t 68)), Oc 70 107 [(.t 67), (.t 69)], Oa 71 (.un .not (.t 70))]
abbrev qaya : List SOper := [Oa 6 (.mv (.c (.int .i64 1)))]
abbrev qax9 : List SOper := [Oa 72 (.faddr 3 (.t 5)), Oa 73 (.load (.t 72)), Oa 74 (.faddr 4 (.t 5)), Oa 75 (.load (.t 74)), Oa 76 (.mkrow 3 1 2 [(.int .i64 0)] [(0, (.t 73)), (1, (.t 75))]), Oa 7 (.mv (.t 76))]
abbrev qax8 : List SOper := [Oa 6 (.mv (.c (.int .i64 5)))]
abbrev qax7 : List SOper := [Oa 8 (.mv (.c (.int .i64 0)))]
abbrev qax6 : List SOper := [Oa 77 (.mv (.t 8)), Oa 78 (.mv (.t 7)), Oa 79 (.len false (.t 78)), Oa 80 (.bin .lss (.t 77) (.t 79)), Oa 81 (.mv (.t 80)), Oe 82 (.mv (.t 6)) 81 true, Oe 83 (.bin .eql (.t 82) (.c (.int .i64 0))) 81 true, Oa 84 (.pick (.t 81) (.t 83) (.c (.bool false)))]
abbrev qax5 : List SOper := [Oa 87 (.mv (.t 7)), Oa 88 (.mv (.t 8)), Od 89 (.iaddr 1 (.t 87) (.t 88)) 3, Od 90 (.load (.t 89)) 7, Od 91 (.bin .lss (.t 90) (.c (.int .i64 0))) 15, Od 92 (.mv (.t 91)) 31, Of 93 (.mv (.t 7)) 92 false 63, Of 94 (.mv (.t 8)) 92 false 63, Of 95 (.iaddr 1 (.t 93) (.t 94)) 92 false 255, Of 96 (.load (.t 95)) 92 false 511, Of 97 (.faddr 5 (.t 2)) 92 false 63, Of 98 (.load (.t 97)) 92 false 1087, Of 99 (.len false (.t 98)) 92 false 3135, Of 100 (.bin .gtr (.t 96) (.t 99)) 92 false 8191, Od 101 (.pick (.t 92) (.c (.bool true)) (.t 100)) 16383]
abbrev qax4 : List SOper := [Oa 6 (.mv (.c (.int .i64 1)))]
abbrev qax3 : List SOper := [Oa 102 (.mv (.t 7)), Oa 103 (.mv (.t 8)), Oa 104 (.iaddr 1 (.t 102) (.t 103)), Oa 105 (.load (.t 104)), Oa 106 (.mv (.t 1)), Oa 107 (.bin .leq (.t 105) (.t 106))]
abbrev qax2 : List SOper := [Oa 6 (.mv (.c (.int .i64 11)))]
abbrev qax1 : List SOper := [Oa 85 (.mv (.t 8)), Oa 86 (.bin .add (.t 85) (.c (.int .i64 1))), Oa 8 (.mv (.t 86))]
def qada : SCode := (.seq (.seq (.reg false qax6 [1, 2, 6, 7, 8, 84]) (.cond (.t 84) .skip (.exit 1))) (.seq (.block 2 (.seq (.reg true qax5 [1, 2, 6, 7, 8, 101]) (.cond (.t 101) (.reg false qax4 [1, 2, 6, 7, 8]) (.seq (.reg false qax3 [1, 2, 6, 7, 8, 107]) (.cond (.t 107) (.reg false qax2 [1, 2, 6, 7, 8]) .skip))))) (.reg false qax1 [1, 2, 6, 7, 8])))
abbrev qax0 : List SOper := [Oa 108 (.mv (.t 6)), Oa 4 (.mv (.t 108))]
def c_rnode : SCode := (.seq (.reg false qa86 [1, 2]) (.seq (.reg false qa85 [1, 2, 5]) (.seq (.reg false qa84 [1, 2, 5, 6]) (.seq (.reg false qa83 [1, 2, 5, 6, 7]) (.seq (.seq (.reg false qa82 [1, 2, 5, 6, 7, 18]) (.block 0 (.seq (.reg false qa81 [1, 2, 5, 6, 7, 18, 19]) (.cond (.t 19) (.seq (.reg false qa80 [1, 2, 6, 7, 31]) (.cond (.t 31) (.reg false qa8z [1, 2, 6, 7]) .skip)) (.seq (.reg false qa8y [1, 2, 5, 6, 7, 18, 32]) (.cond (.t 32) (.seq (.reg false qayj [1, 2, 5, 6, 7, 44]) (.cond (.t 44) (.reg false qayi [1, 2, 6, 7]) (.seq (.reg false qayh [1, 2, 6, 7, 53]) (.cond (.t 53) (.reg false qayg [1, 2, 6, 7]) .skip)))) (.seq (.reg false qayf [1, 2, 5, 6, 7, 18, 54]) (.cond (.t 54) (.seq (.reg false qaye [1, 2, 5, 6]) (.reg false qayd [1, 2, 6, 7])) (.seq (.reg false qayc [1, 2, 5, 6, 7, 65]) (.cond (.t 65) (.seq (.seq (.reg false qayb [1, 2, 5, 6, 71]) (.cond (.t 71) (.reg false qaya [1, 2, 5, 6]) .skip)) (.reg false qax9 [1, 2, 6, 7])) (.reg false qax8 [1, 2, 6, 7]))))))))))) (.seq (.seq (.reg false qax7 [1, 2, 6, 7, 8]) (.block 1 (.loop qada))) (.seq (.reg false qax0 [4]) .ret)))))))
theorem qaof : comp Tryz.prog 109 ((Tryz.f106.body).getD .skip) = some c_rnode.erase := by kernel_rfl
abbrev qa9s : List SOper := [Oa 1 (.box 33 (.t 0)), Oa 2 (.alloc 37 [(.int .i64 0), (.int .i64 0)])]
abbrev qa9r : List SOper := [Oa 18 (.faddr 0 (.t 1)), Oa 19 (.load (.t 18)), Oa 20 (.len false (.t 19)), Oa 21 (.bin .gtr (.t 20) (.c (.int .i64 6)))]
abbrev qa9q : List SOper := [Oc 22 24 [(.c (.int .i64 2)), (.c (.int .i64 (-1)))], Ob (.store 2 (.t 2) (.t 22))]
abbrev qa9p : List SOper := [Oa 3 (.mv (.c (.int .i64 0)))]
abbrev qa9o : List SOper := [Oa 23 (.mv (.t 3)), Oa 24 (.faddr 0 (.t 1)), Oa 25 (.load (.t 24)), Oa 26 (.len false (.t 25)), Oa 27 (.bin .lss (.t 23) (.t 26))]
abbrev qa9n : List SOper := [Oa 31 (.faddr 0 (.t 1)), Oa 32 (.load (.t 31)), Oa 33 (.mv (.t 3)), Oa 34 (.iaddr 1 (.t 32) (.t 33)), Oa 35 (.loads 1 (.t 34)), Oc 36 100 [(.t 35)], Oa 30 (.mv (.t 36)), Oa 37 (.extr (.t 30) 0), Oa 38 (.extr (.t 30) 1), Oa 5 (.alloc 37 [(.int .i64 0), (.int .i64 0)]), Oa 4 (.mv (.t 37)), Ob (.store 2 (.t 5) (.t 38))]
abbrev qa9m : List SOper := [Oa 39 (.faddr 0 (.t 5)), Oa 40 (.load (.t 39)), Oa 41 (.bin .neq (.t 40) (.c (.int .i64 0)))]
abbrev qa9l : List SOper := [Oa 42 (.faddr 0 (.t 5)), Oa 43 (.load (.t 42)), Oa 44 (.mv (.t 3)), Oa 45 (.bin .add (.c (.int .i64 1000)) (.t 44)), Oc 46 24 [(.t 43), (.t 45)], Ob (.store 2 (.t 2) (.t 46))]
abbrev qa9k : List SOper := [Oa 28 (.mv (.t 3)), Oa 29 (.bin .add (.t 28) (.c (.int .i64 1))), Oa 3 (.mv (.t 29))]
def qal8 : SCode := (.seq (.seq (.reg false qa9o [1, 2, 3, 27]) (.cond (.t 27) .skip (.exit 0))) (.seq (.block 1 (.seq (.reg false qa9n [1, 2, 3, 5]) (.seq (.reg false qa9m [1, 2, 3, 5, 41]) (.cond (.t 41) (.seq (.reg false qa9l [2]) .ret) .skip)))) (.reg false qa9k [1, 2, 3])))
abbrev qa0b : List SOper := [Oa 47 (.faddr 1 (.t 1)), Oa 48 (.load (.t 47)), Oa 49 (.len false (.t 48)), Oa 50 (.bin .gtr (.t 49) (.c (.int .i64 4)))]
abbrev qa0a : List SOper := [Oc 51 24 [(.c (.int .i64 2)), (.c (.int .i64 (-2)))], Ob (.store 2 (.t 2) (.t 51))]
abbrev qaz9 : List SOper := [Oa 6 (.mv (.c (.int .i64 0)))]
abbrev qaz8 : List SOper := [Oa 52 (.mv (.t 6)), Oa 53 (.faddr 1 (.t 1)), Oa 54 (.load (.t 53)), Oa 55 (.len false (.t 54)), Oa 56 (.bin .lss (.t 52) (.t 55))]
abbrev qaz7 : List SOper := [Oa 59 (.faddr 1 (.t 1)), Oa 60 (.load (.t 59)), Oa 61 (.mv (.t 6)), Oa 62 (.iaddr 1 (.t 60) (.t 61)), Oa 63 (.load (.t 62)), Oa 64 (.bin .lss (.t 63) (.c (.int .i64 1))), Oa 65 (.mv (.t 64)), Oe 66 (.faddr 1 (.t 1)) 65 false, Oe 67 (.load (.t 66)) 65 false, Oe 68 (.mv (.t 6)) 65 false, Oe 69 (.iaddr 1 (.t 67) (.t 68)) 65 false, Oe 70 (.load (.t 69)) 65 false, Oe 71 (.bin .gtr (.t 70) (.c (.int .i64 48))) 65 false, Oa 72 (.pick (.t 65) (.c (.bool true)) (.t 71))]
abbrev qaz6 : List SOper := [Oa 73 (.mv (.t 6)), Oa 74 (.bin .add (.c (.int .i64 2000)) (.t 73)), Oc 75 24 [(.c (.int .i64 6)), (.t 74)], Ob (.store 2 (.t 2) (.t 75))]
abbrev qaz5 : List SOper := [Oa 57 (.mv (.t 6)), Oa 58 (.bin .add (.t 57) (.c (.int .i64 1))), Oa 6 (.mv (.t 58))]
def qal7 : SCode := (.seq (.seq (.reg false qaz8 [1, 2, 6, 56]) (.cond (.t 56) .skip (.exit 2))) (.seq (.block 3 (.seq (.reg false qaz7 [1, 2, 6, 72]) (.cond (.t 72) (.seq (.reg false qaz6 [2]) .ret) .skip))) (.reg false qaz5 [1, 2, 6])))
abbrev qaz4 : List SOper := [Oa 76 (.faddr 2 (.t 1)), Oa 77 (.load (.t 76)), Oa 78 (.len false (.t 77)), Oa 79 (.bin .lss (.t 78) (.c (.int .i64 1))), Oa 80 (.mv (.t 79)), Oe 81 (.faddr 2 (.t 1)) 80 false, Oe 82 (.load (.t 81)) 80 false, Oe 83 (.len false (.t 82)) 80 false, Oe 84 (.bin .gtr (.t 83) (.c (.int .i64 8))) 80 false, Oa 85 (.pick (.t 80) (.c (.bool true)) (.t 84))]
abbrev qaz3 : List SOper := [Oc 86 24 [(.c (.int .i64 2)), (.c (.int .i64 (-3)))], Ob (.store 2 (.t 2) (.t 86))]
abbrev qaz2 : List SOper := [Oa 7 (.mv (.c (.int .i64 0)))]
abbrev qaz1 : List SOper := [Oa 87 (.mv (.t 7)), Oa 88 (.faddr 2 (.t 1)), Oa 89 (.load (.t 88)), Oa 90 (.len false (.t 89)), Oa 91 (.bin .lss (.t 87) (.t 90))]
abbrev qaz0 : List SOper := [Oa 94 (.loads 7 (.t 1)), Oa 95 (.mv (.t 7)), Oc 96 101 [(.t 94), (.t 95)], Oa 8 (.mv (.t 96))]
abbrev qazz : List SOper := [Oa 97 (.mv (.t 8)), Oa 98 (.bin .neq (.t 97) (.c (.int .i64 0)))]
abbrev qazy : List SOper := [Oa 99 (.mv (.t 8)), Oa 100 (.mv (.t 7)), Oa 101 (.bin .add (.c (.int .i64 3000)) (.t 100)), Oc 102 24 [(.t 99), (.t 101)], Ob (.store 2 (.t 2) (.t 102))]
abbrev qazx : List SOper := [Oa 92 (.mv (.t 7)), Oa 93 (.bin .add (.t 92) (.c (.int .i64 1))), Oa 7 (.mv (.t 93))]
def qal6 : SCode := (.seq (.seq (.reg false qaz1 [1, 2, 7, 91]) (.cond (.t 91) .skip (.exit 4))) (.seq (.block 5 (.seq (.reg false qaz0 [1, 2, 7, 8]) (.seq (.reg false qazz [1, 2, 7, 8, 98]) (.cond (.t 98) (.seq (.reg false qazy [2]) .ret) .skip)))) (.reg false qazx [1, 2, 7])))
abbrev qazw : List SOper := [Oa 103 (.faddr 3 (.t 1)), Oa 104 (.load (.t 103)), Oa 105 (.len false (.t 104)), Oa 106 (.bin .gtr (.t 105) (.c (.int .i64 8)))]
abbrev qazv : List SOper := [Oc 107 24 [(.c (.int .i64 2)), (.c (.int .i64 (-4)))], Ob (.store 2 (.t 2) (.t 107))]
abbrev qazu : List SOper := [Oa 9 (.mv (.c (.int .i64 0)))]
abbrev qazt : List SOper := [Oa 108 (.mv (.t 9)), Oa 109 (.faddr 3 (.t 1)), Oa 110 (.load (.t 109)), Oa 111 (.len false (.t 110)), Oa 112 (.bin .lss (.t 108) (.t 111))]
abbrev qazs : List SOper := [Oa 115 (.loads 7 (.t 1)), Oa 116 (.faddr 3 (.t 1)), Od 117 (.load (.t 116)) 2, Oa 118 (.mv (.t 9)), Od 119 (.iaddr 2 (.t 117) (.t 118)) 14, Od 120 (.loads 2 (.t 119)) 30, ⟨(some 121), .mv (.c .any), some ((.c (.fn (.func 102) [] [])), [(.t 115), (.t 120)]), none, 63⟩, Od 10 (.mv (.t 121)) 127]
abbrev qazr : List SOper := [Oa 122 (.mv (.t 10)), Oa 123 (.bin .neq (.t 122) (.c (.int .i64 0)))]
abbrev qazq : List SOper := [Oa 124 (.mv (.t 10)), Oa 125 (.mv (.t 9)), Oa 126 (.bin .add (.c (.int .i64 4000)) (.t 125)), Oc 127 24 [(.t 124), (.t 126)], Ob (.store 2 (.t 2) (.t 127))]
abbrev qazp : List SOper := [Oa 113 (.mv (.t 9)), Oa 114 (.bin .add (.t 113) (.c (.int .i64 1))), Oa 9 (.mv (.t 114))]
def qal5 : SCode := (.seq (.seq (.reg false qazt [1, 2, 9, 112]) (.cond (.t 112) .skip (.exit 6))) (.seq (.block 7 (.seq (.reg true qazs [1, 2, 9, 10]) (.seq (.reg false qazr [1, 2, 9, 10, 123]) (.cond (.t 123) (.seq (.reg false qazq [2]) .ret) .skip)))) (.reg false qazp [1, 2, 9])))
abbrev qazo : List SOper := [Oa 128 (.faddr 4 (.t 1)), Oa 129 (.load (.t 128)), Oa 130 (.len false (.t 129)), Oa 131 (.bin .gtr (.t 130) (.c (.int .i64 5)))]
abbrev qazn : List SOper := [Oc 132 24 [(.c (.int .i64 2)), (.c (.int .i64 (-5)))], Ob (.store 2 (.t 2) (.t 132))]
abbrev qazm : List SOper := [Oa 11 (.mv (.c (.int .i64 0)))]
abbrev qazl : List SOper := [Oa 133 (.mv (.t 11)), Oa 134 (.faddr 4 (.t 1)), Oa 135 (.load (.t 134)), Oa 136 (.len false (.t 135)), Oa 137 (.bin .lss (.t 133) (.t 136))]
abbrev qazk : List SOper := [Oa 140 (.faddr 4 (.t 1)), Oa 141 (.load (.t 140)), Oa 142 (.mv (.t 11)), Oa 143 (.iaddr 6 (.t 141) (.t 142)), Oa 144 (.loads 6 (.t 143)), Oa 12 (.alloc 78 [(.int .i64 0), .nilsl, .nilsl, (.int .i64 0), (.int .i64 0), .nilsl]), Ob (.store 6 (.t 12) (.t 144))]
abbrev qazj : List SOper := [Oa 145 (.faddr 1 (.t 12)), Oa 146 (.load (.t 145)), Oa 147 (.len false (.t 146)), Oa 148 (.bin .gtr (.t 147) (.c (.int .i64 3)))]
abbrev qazi : List SOper := [Oa 149 (.mv (.t 11)), Oa 150 (.bin .add (.c (.int .i64 5000)) (.t 149)), Oc 151 24 [(.c (.int .i64 2)), (.t 150)], Ob (.store 2 (.t 2) (.t 151))]
abbrev qazh : List SOper := [Oa 152 (.loads 7 (.t 1)), Oa 153 (.loads 6 (.t 12)), Oc 154 103 [(.t 152), (.t 153)], Oa 13 (.mv (.t 154))]
abbrev qazg : List SOper := [Oa 155 (.mv (.t 13)), Oc 156 104 [(.t 155), (.c (.int .i64 0))]]
abbrev qazf : List SOper := [Oa 157 (.mv (.t 11)), Oa 158 (.bin .add (.c (.int .i64 5000)) (.t 157)), Oc 159 24 [(.c (.int .i64 1)), (.t 158)], Ob (.store 2 (.t 2) (.t 159))]
abbrev qaze : List SOper := [Oa 160 (.loads 6 (.t 12)), Oa 161 (.mv (.t 13)), Oa 162 (.faddr 3 (.t 1)), Oa 163 (.load (.t 162)), Oc 164 105 [(.t 160), (.t 161), (.t 163)], Oa 14 (.mv (.t 164))]
abbrev qazd : List SOper := [Oa 165 (.mv (.t 14)), Oa 166 (.bin .neq (.t 165) (.c (.int .i64 0)))]
abbrev qazc : List SOper := [Oa 167 (.mv (.t 14)), Oa 168 (.mv (.t 11)), Oa 169 (.bin .add (.c (.int .i64 5000)) (.t 168)), Oc 170 24 [(.t 167), (.t 169)], Ob (.store 2 (.t 2) (.t 170))]
abbrev qazb : List SOper := [Oa 138 (.mv (.t 11)), Oa 139 (.bin .add (.t 138) (.c (.int .i64 1))), Oa 11 (.mv (.t 139))]
def qal4 : SCode := (.seq (.seq (.reg false qazl [1, 2, 11, 137]) (.cond (.t 137) .skip (.exit 8))) (.seq (.block 9 (.seq (.reg false qazk [1, 2, 11, 12]) (.seq (.seq (.reg false qazj [1, 2, 11, 12, 148]) (.cond (.t 148) (.seq (.reg false qazi [2]) .ret) .skip)) (.seq (.reg false qazh [1, 2, 11, 12, 13]) (.seq (.seq (.reg false qazg [1, 2, 11, 12, 13, 156]) (.cond (.t 156) (.seq (.reg false qazf [2]) .ret) .skip)) (.seq (.reg false qaze [1, 2, 11, 14]) (.seq (.reg false qazd [1, 2, 11, 14, 166]) (.cond (.t 166) (.seq (.reg false qazc [2]) .ret) .skip)))))))) (.reg false qazb [1, 2, 11])))
abbrev qaza : List SOper := [Oa 171 (.faddr 5 (.t 1)), Oa 172 (.load (.t 171)), Oa 173 (.len false (.t 172)), Oa 174 (.bin .gtr (.t 173) (.c (.int .i64 10)))]
abbrev qay9 : List SOper := [Oc 175 24 [(.c (.int .i64 2)), (.c (.int .i64 (-6)))], Ob (.store 2 (.t 2) (.t 175))]
abbrev qay8 : List SOper := [Oa 15 (.mv (.c (.int .i64 0)))]
abbrev qay7 : List SOper := [Oa 176 (.mv (.t 15)), Oa 177 (.faddr 5 (.t 1)), Oa 178 (.load (.t 177)), Oa 179 (.len false (.t 178)), Oa 180 (.bin .lss (.t 176) (.t 179))]
abbrev qay6 : List SOper := [Oa 183 (.loads 7 (.t 1)), Oa 184 (.mv (.t 15)), Oc 185 106 [(.t 183), (.t 184)], Oa 16 (.mv (.t 185))]
abbrev qay5 : List SOper := [Oa 186 (.mv (.t 16)), Oa 187 (.bin .neq (.t 186) (.c (.int .i64 0)))]
abbrev qay4 : List SOper := [Oa 188 (.mv (.t 16)), Oa 189 (.mv (.t 15)), Oa 190 (.bin .add (.c (.int .i64 6000)) (.t 189)), Oc 191 24 [(.t 188), (.t 190)], Ob (.store 2 (.t 2) (.t 191))]
abbrev qay3 : List SOper := [Oa 181 (.mv (.t 15)), Oa 182 (.bin .add (.t 181) (.c (.int .i64 1))), Oa 15 (.mv (.t 182))]
def qal3 : SCode := (.seq (.seq (.reg false qay7 [1, 2, 15, 180]) (.cond (.t 180) .skip (.exit 10))) (.seq (.block 11 (.seq (.reg false qay6 [1, 2, 15, 16]) (.seq (.reg false qay5 [1, 2, 15, 16, 187]) (.cond (.t 187) (.seq (.reg false qay4 [2]) .ret) .skip)))) (.reg false qay3 [1, 2, 15])))
abbrev qay2 : List SOper := [Oa 192 (.faddr 6 (.t 1)), Oa 193 (.load (.t 192)), Oa 194 (.len false (.t 193)), Oa 195 (.bin .gtr (.t 194) (.c (.int .i64 6)))]
abbrev qay1 : List SOper := [Oc 196 24 [(.c (.int .i64 2)), (.c (.int .i64 (-7)))], Ob (.store 2 (.t 2) (.t 196))]
abbrev qay0 : List SOper := [Oa 17 (.mv (.c (.int .i64 0)))]
abbrev qayz : List SOper := [Oa 197 (.mv (.t 17)), Oa 198 (.faddr 6 (.t 1)), Oa 199 (.load (.t 198)), Oa 200 (.len false (.t 199)), Oa 201 (.bin .lss (.t 197) (.t 200))]
abbrev qayy : List SOper := [Oa 204 (.loads 7 (.t 1)), Oa 205 (.faddr 6 (.t 1)), Od 206 (.load (.t 205)) 2, Oa 207 (.mv (.t 17)), Od 208 (.iaddr 1 (.t 206) (.t 207)) 14, Od 209 (.load (.t 208)) 30, ⟨(some 210), .mv (.c .any), some ((.c (.fn (.func 107) [] [])), [(.t 204), (.t 209)]), none, 63⟩, Od 211 (.un .not (.t 210)) 127]
abbrev qayx : List SOper := [Oa 212 (.mv (.t 17)), Oa 213 (.bin .add (.c (.int .i64 7000)) (.t 212)), Oc 214 24 [(.c (.int .i64 1)), (.t 213)], Ob (.store 2 (.t 2) (.t 214))]
abbrev qayw : List SOper := [Oa 215 (.faddr 6 (.t 1)), Od 216 (.load (.t 215)) 1, Oa 217 (.mv (.t 17)), Od 218 (.slice 1 (.t 216) none (some (.t 217))) 7, Oa 219 (.faddr 6 (.t 1)), Od 220 (.load (.t 219)) 16, Oa 221 (.mv (.t 17)), Od 222 (.iaddr 1 (.t 220) (.t 221)) 112, Od 223 (.load (.t 222)) 240, ⟨(some 224), .mv (.c .any), some ((.c (.fn (.func 104) [] [])), [(.t 218), (.t 223)]), none, 511⟩]
abbrev qayv : List SOper := [Oa 225 (.mv (.t 17)), Oa 226 (.bin .add (.c (.int .i64 7000)) (.t 225)), Oc 227 24 [(.c (.int .i64 7)), (.t 226)], Ob (.store 2 (.t 2) (.t 227))]
abbrev qayu : List SOper := [Oa 202 (.mv (.t 17)), Oa 203 (.bin .add (.t 202) (.c (.int .i64 1))), Oa 17 (.mv (.t 203))]
def qal2 : SCode := (.seq (.seq (.reg false qayz [1, 2, 17, 201]) (.cond (.t 201) .skip (.exit 12))) (.seq (.block 13 (.seq (.seq (.reg true qayy [1, 2, 17, 211]) (.cond (.t 211) (.seq (.reg false qayx [2]) .ret) .skip)) (.seq (.reg true qayw [1, 2, 17, 224]) (.cond (.t 224) (.seq (.reg false qayv [2]) .ret) .skip)))) (.reg false qayu [1, 2, 17])))
abbrev qayt : List SOper := [Oa 228 (.build [(.int .i64 0), (.int .i64 0)] []), Ob (.store 2 (.t 2) (.t 228))]
def c_rform : SCode := (.seq (.reg false qa9s [1, 2]) (.seq (.seq (.reg false qa9r [1, 2, 21]) (.cond (.t 21) (.seq (.reg false qa9q [2]) .ret) .skip)) (.seq (.seq (.reg false qa9p [1, 2, 3]) (.block 0 (.loop qal8))) (.seq (.seq (.reg false qa0b [1, 2, 50]) (.cond (.t 50) (.seq (.reg false qa0a [2]) .ret) .skip)) (.seq (.seq (.reg false qaz9 [1, 2, 6]) (.block 2 (.loop qal7))) (.seq (.seq (.reg false qaz4 [1, 2, 85]) (.cond (.t 85) (.seq (.reg false qaz3 [2]) .ret) .skip)) (.seq (.seq (.reg false qaz2 [1, 2, 7]) (.block 4 (.loop qal6))) (.seq (.seq (.reg false qazw [1, 2, 106]) (.cond (.t 106) (.seq (.reg false qazv [2]) .ret) .skip)) (.seq (.seq (.reg false qazu [1, 2, 9]) (.block 6 (.loop qal5))) (.seq (.seq (.reg false qazo [1, 2, 131]) (.cond (.t 131) (.seq (.reg false qazn [2]) .ret) .skip)) (.seq (.seq (.reg false qazm [1, 2, 11]) (.block 8 (.loop qal4))) (.seq (.seq (.reg false qaza [1, 2, 174]) (.cond (.t 174) (.seq (.reg false qay9 [2]) .ret) .skip)) (.seq (.seq (.reg false qay8 [1, 2, 15]) (.block 10 (.loop qal3))) (.seq (.seq (.reg false qay2 [1, 2, 195]) (.cond (.t 195) (.seq (.reg false qay1 [2]) .ret) .skip)) (.seq (.seq (.reg false qay0 [1, 2, 17]) (.block 12 (.loop qal2))) (.seq (.reg false qayt [2]) .ret))))))))))))))))
theorem qaoj : comp Tryz.prog 229 ((Tryz.f50.body).getD .skip) = some c_rform.erase := by kernel_rfl
abbrev qbkm : List SOper := [Oa 4 (.mv (.c (.bool false)))]
abbrev qbkl : List SOper := [Oa 5 (.mv (.c (.int .i64 0)))]
abbrev qbkk : List SOper := [Oa 6 (.mv (.t 5)), Oa 7 (.mv (.t 0)), Oa 8 (.len false (.t 7)), Oa 9 (.bin .lss (.t 6) (.t 8))]
abbrev qbkj : List SOper := [Oa 12 (.mv (.t 0)), Oa 13 (.mv (.t 5)), Oa 14 (.iaddr 1 (.t 12) (.t 13)), Oa 15 (.load (.t 14)), Oa 16 (.mv (.t 1)), Oa 17 (.bin .eql (.t 15) (.t 16))]
abbrev qbki : List SOper := [Oa 4 (.mv (.c (.bool true)))]
abbrev qbkh : List SOper := [Oa 10 (.mv (.t 5)), Oa 11 (.bin .add (.t 10) (.c (.int .i64 1))), Oa 5 (.mv (.t 11))]
def qa9f : SCode := (.seq (.seq (.reg false qbkk [0, 1, 5, 9]) (.cond (.t 9) .skip (.exit 0))) (.seq (.block 1 (.seq (.reg false qbkj [0, 1, 5, 17]) (.cond (.t 17) (.seq (.reg false qbki [4]) .ret) .skip))) (.reg false qbkh [0, 1, 5])))
abbrev qbkg : List SOper := [Oa 4 (.mv (.c (.bool false)))]
def c_rin : SCode := (.seq (.reg false qbkm [0, 1]) (.seq (.seq (.reg false qbkl [0, 1, 5]) (.block 0 (.loop qa9f))) (.seq (.reg false qbkg [4]) .ret)))
theorem qa6l : comp Tryz.prog 18 ((Tryz.f104.body).getD .skip) = some c_rin.erase := by kernel_rfl
abbrev qa8x : List SOper := [Oa 3 (.box 78 (.t 0)), Oa 5 (.box 150 (.t 2)), Oa 6 (.mv (.c (.int .i64 0)))]
abbrev qa8w : List SOper := [Oa 9 (.faddr 2 (.t 3)), Oa 10 (.load (.t 9)), Oa 11 (.faddr 0 (.t 5)), Oa 12 (.load (.t 11)), Oc 13 104 [(.t 10), (.t 12)], Oa 14 (.un .not (.t 13))]
abbrev qa8v : List SOper := [Oa 6 (.mv (.c (.int .i64 5)))]
abbrev qa8u : List SOper := [Oa 15 (.mv (.t 1)), Oa 16 (.faddr 0 (.t 5)), Oa 17 (.load (.t 16)), Oa 18 (.iaddr 2 (.t 15) (.t 17)), Oa 19 (.faddr 0 (.t 18)), Oa 20 (.load (.t 19)), Oa 7 (.mv (.t 20))]
abbrev qa8t : List SOper := [Oa 21 (.mv (.t 7)), Oa 22 (.len false (.t 21)), Oa 23 (.faddr 1 (.t 5)), Oa 24 (.load (.t 23)), Oa 25 (.len false (.t 24)), Oa 26 (.bin .neq (.t 22) (.t 25))]
abbrev qa8s : List SOper := [Oa 6 (.mv (.c (.int .i64 2)))]
abbrev qa8r : List SOper := [Oa 8 (.mv (.c (.int .i64 0)))]
abbrev qa8q : List SOper := [Oa 27 (.mv (.t 8)), Oa 28 (.mv (.t 7)), Oa 29 (.len false (.t 28)), Oa 30 (.bin .lss (.t 27) (.t 29))]
abbrev qa8p : List SOper := [Oa 33 (.faddr 1 (.t 5)), Od 34 (.load (.t 33)) 1, Oa 35 (.mv (.t 8)), Od 36 (.iaddr 1 (.t 34) (.t 35)) 7, Od 37 (.load (.t 36)) 15, Oa 38 (.mv (.t 7)), Oa 39 (.mv (.t 8)), Od 40 (.iaddr 1 (.t 38) (.t 39)) 96, Od 41 (.load (.t 40)) 224, ⟨(some 42), .mv (.c .any), some ((.c (.fn (.func 133) [] [])), [(.t 37), (.t 41)]), none, 511⟩]
abbrev qaxz : List SOper := [Oa 6 (.mv (.c (.int .i64 6)))]
abbrev qaxy : List SOper := [Oa 31 (.mv (.t 8)), Oa 32 (.bin .add (.t 31) (.c (.int .i64 1))), Oa 8 (.mv (.t 32))]
def qal1 : SCode := (.seq (.seq (.reg false qa8q [5, 7, 8, 30]) (.cond (.t 30) .skip (.exit 0))) (.seq (.block 1 (.seq (.reg true qa8p [5, 7, 8, 42]) (.cond (.t 42) (.seq (.reg false qaxz [6]) .ret) .skip))) (.reg false qaxy [5, 7, 8])))
abbrev qaxx : List SOper := [Oa 6 (.mv (.c (.int .i64 0)))]
def c_rsays : SCode := (.seq (.reg false qa8x [1, 3, 5]) (.seq (.seq (.reg false qa8w [1, 5, 14]) (.cond (.t 14) (.seq (.reg false qa8v [6]) .ret) .skip)) (.seq (.reg false qa8u [5, 7]) (.seq (.seq (.reg false qa8t [5, 7, 26]) (.cond (.t 26) (.seq (.reg false qa8s [6]) .ret) .skip)) (.seq (.seq (.reg false qa8r [5, 7, 8]) (.block 0 (.loop qal1))) (.seq (.reg false qaxx [6]) .ret))))))
theorem qaoe : comp Tryz.prog 43 ((Tryz.f136.body).getD .skip) = some c_rsays.erase := by kernel_rfl
abbrev qaxa : List SOper := [Oa 3 (.box 78 (.t 0)), Oa 6 (.mv (.c (.int .i64 0)))]
abbrev qaw9 : List SOper := [Oa 9 (.faddr 0 (.t 3)), Oa 10 (.load (.t 9)), Oa 11 (.bin .lss (.t 10) (.c (.int .i64 1))), Oa 12 (.mv (.t 11)), Oe 13 (.faddr 0 (.t 3)) 12 false, Oe 14 (.load (.t 13)) 12 false, Oe 15 (.bin .gtr (.t 14) (.c (.int .i64 3))) 12 false, Oa 16 (.pick (.t 12) (.c (.bool true)) (.t 15))]
abbrev qaw8 : List SOper := [Oa 6 (.mv (.c (.int .i64 5)))]
abbrev qaw7 : List SOper := [Oa 17 (.mv (.t 1)), Oa 18 (.len false (.t 17)), Oa 19 (.bin .lss (.t 18) (.c (.int .i64 1))), Oa 20 (.mv (.t 19)), Oe 21 (.mv (.t 1)) 20 false, Oe 22 (.len false (.t 21)) 20 false, Oe 23 (.bin .gtr (.t 22) (.c (.int .i64 3))) 20 false, Oa 24 (.pick (.t 20) (.c (.bool true)) (.t 23)), Oa 25 (.mv (.t 24)), Oe 26 (.faddr 0 (.t 3)) 25 false, Oe 27 (.load (.t 26)) 25 false, Oe 28 (.bin .eql (.t 27) (.c (.int .i64 2))) 25 false, Oe 29 (.mv (.t 28)) 25 false, Oe 30 (.mv (.t 1)) 29 true, Oe 31 (.len false (.t 30)) 29 true, Oe 32 (.bin .gtr (.t 31) (.c (.int .i64 1))) 29 true, Oe 33 (.pick (.t 29) (.t 32) (.c (.bool false))) 25 false, Oa 34 (.pick (.t 25) (.c (.bool true)) (.t 33)), Oa 35 (.mv (.t 34)), Oe 36 (.faddr 2 (.t 3)) 35 false, Oe 37 (.load (.t 36)) 35 false, Oe 38 (.len false (.t 37)) 35 false, Oe 39 (.bin .lss (.t 38) (.c (.int .i64 1))) 35 false, Oa 40 (.pick (.t 35) (.c (.bool true)) (.t 39)), Oa 41 (.mv (.t 40)), Oe 42 (.faddr 2 (.t 3)) 41 false, Oe 43 (.load (.t 42)) 41 false, Oe 44 (.len false (.t 43)) 41 false, Oe 45 (.bin .gtr (.t 44) (.c (.int .i64 4))) 41 false, Oa 46 (.pick (.t 41) (.c (.bool true)) (.t 45))]
abbrev qaw6 : List SOper := [Oa 6 (.mv (.c (.int .i64 2)))]
abbrev qaw5 : List SOper := [Oa 47 (.faddr 3 (.t 3)), Oa 48 (.load (.t 47)), Oa 49 (.bin .lss (.t 48) (.c (.int .i64 0))), Oa 50 (.mv (.t 49)), Oe 51 (.faddr 3 (.t 3)) 50 false, Oe 52 (.load (.t 51)) 50 false, Oe 53 (.bin .gtr (.t 52) (.c (.int .i64 16))) 50 false, Oa 54 (.pick (.t 50) (.c (.bool true)) (.t 53))]
abbrev qaw4 : List SOper := [Oa 6 (.mv (.c (.int .i64 1)))]
abbrev qaw3 : List SOper := [Oa 7 (.mv (.c (.int .i64 0)))]
abbrev qaw2 : List SOper := [Oa 55 (.mv (.t 7)), Oa 56 (.mv (.t 1)), Oa 57 (.len false (.t 56)), Oa 58 (.bin .lss (.t 55) (.t 57))]
abbrev qap9 : List SOper := [Oa 61 (.mv (.t 1)), Oa 62 (.mv (.t 7)), Oa 63 (.iaddr 1 (.t 61) (.t 62)), Oa 64 (.load (.t 63)), Oa 65 (.bin .lss (.t 64) (.c (.int .i64 1))), Oa 66 (.mv (.t 65)), Oe 67 (.mv (.t 1)) 66 false, Oe 68 (.mv (.t 7)) 66 false, Oe 69 (.iaddr 1 (.t 67) (.t 68)) 66 false, Oe 70 (.load (.t 69)) 66 false, Oe 71 (.bin .gtr (.t 70) (.c (.int .i64 48))) 66 false, Oa 72 (.pick (.t 66) (.c (.bool true)) (.t 71))]
abbrev qap8 : List SOper := [Oa 6 (.mv (.c (.int .i64 6)))]
abbrev qap7 : List SOper := [Oa 59 (.mv (.t 7)), Oa 60 (.bin .add (.t 59) (.c (.int .i64 1))), Oa 7 (.mv (.t 60))]
def qaja : SCode := (.seq (.seq (.reg false qaw2 [1, 2, 3, 7, 58]) (.cond (.t 58) .skip (.exit 0))) (.seq (.block 1 (.seq (.reg false qap9 [1, 2, 3, 7, 72]) (.cond (.t 72) (.seq (.reg false qap8 [6]) .ret) .skip))) (.reg false qap7 [1, 2, 3, 7])))
abbrev qap6 : List SOper := [Oa 8 (.mv (.c (.int .i64 0)))]
abbrev qap5 : List SOper := [Oa 73 (.mv (.t 8)), Oa 74 (.faddr 2 (.t 3)), Oa 75 (.load (.t 74)), Oa 76 (.len false (.t 75)), Oa 77 (.bin .lss (.t 73) (.t 76))]
abbrev qap4 : List SOper := [Oa 80 (.faddr 2 (.t 3)), Oa 81 (.load (.t 80)), Oa 82 (.mv (.t 8)), Oa 83 (.iaddr 1 (.t 81) (.t 82)), Oa 84 (.load (.t 83)), Oa 85 (.bin .lss (.t 84) (.c (.int .i64 0))), Oa 86 (.mv (.t 85)), Oe 87 (.faddr 2 (.t 3)) 86 false, Oe 88 (.load (.t 87)) 86 false, Oe 89 (.mv (.t 8)) 86 false, Oe 90 (.iaddr 1 (.t 88) (.t 89)) 86 false, Oe 91 (.load (.t 90)) 86 false, Oe 92 (.mv (.t 2)) 86 false, Oe 93 (.len false (.t 92)) 86 false, Oe 94 (.bin .geq (.t 91) (.t 93)) 86 false, Oa 95 (.pick (.t 86) (.c (.bool true)) (.t 94))]
abbrev qap3 : List SOper := [Oa 6 (.mv (.c (.int .i64 1)))]
abbrev qap2 : List SOper := [Oa 78 (.mv (.t 8)), Oa 79 (.bin .add (.t 78) (.c (.int .i64 1))), Oa 8 (.mv (.t 79))]
def qai9 : SCode := (.seq (.seq (.reg false qap5 [2, 3, 8, 77]) (.cond (.t 77) .skip (.exit 2))) (.seq (.block 3 (.seq (.reg false qap4 [2, 3, 8, 95]) (.cond (.t 95) (.seq (.reg false qap3 [6]) .ret) .skip))) (.reg false qap2 [2, 3, 8])))
abbrev qap1 : List SOper := [Oa 96 (.loads 6 (.t 3)), Oa 97 (.mv (.t 2)), Oa 98 (.faddr 4 (.t 3)), Oa 99 (.load (.t 98)), Oa 100 (.faddr 5 (.t 3)), Oa 101 (.load (.t 100)), Oa 102 (.build [(.int .i64 0), .nilsl] [(0, 1, (.t 99)), (1, 1, (.t 101))]), Oc 103 136 [(.t 96), (.t 97), (.t 102)], Oa 6 (.mv (.t 103))]
def c_rtable : SCode := (.seq (.reg false qaxa [1, 2, 3]) (.seq (.seq (.reg false qaw9 [1, 2, 3, 16]) (.cond (.t 16) (.seq (.reg false qaw8 [6]) .ret) .skip)) (.seq (.seq (.reg false qaw7 [1, 2, 3, 46]) (.cond (.t 46) (.seq (.reg false qaw6 [6]) .ret) .skip)) (.seq (.seq (.reg false qaw5 [1, 2, 3, 54]) (.cond (.t 54) (.seq (.reg false qaw4 [6]) .ret) .skip)) (.seq (.seq (.reg false qaw3 [1, 2, 3, 7]) (.block 0 (.loop qaja))) (.seq (.seq (.reg false qap6 [2, 3, 8]) (.block 2 (.loop qai9))) (.seq (.reg false qap1 [6]) .ret)))))))
theorem qalc : comp Tryz.prog 104 ((Tryz.f105.body).getD .skip) = some c_rtable.erase := by kernel_rfl
end Go.Proofs.YteoijlmgiemffaaGreat
namespace Go.Proofs.YteoijlmgiemffaaGreat
set_option linter.all false
open Go.RowKit
attribute [local simp] qabi qabh qaax qaa7 qaay qaa6 qabf qabg qaar qabr SOp.run SX.ev putd puts argS upds SOp.touch SSt.keep SSt.skip gets geth puth delh idOf SV.cells? setL qadh qadi sbin eq0 eq1 eqL qadf qab9 qaca qaap qabk qaag qabl qabs qaaj qaaq FrzOk qaba qaa1 qaa8 qaa9 qaat qaa0 qabm qaa2 qaav qabb qaau frzS frzH frz frz1 frz0 SlotsM ObjsM ObjM rn ren ren1 ren0 qabu qab7 qacf qabt qabn qacg qace CoL qabc qab3 dels adds idsH qabz
attribute [local simp] qadt refc qaes qaei qab8 opc actc tabc qaea qacm nums
theorem qasr (p : PlanD) (hh : Int) (q : Nat) : SCalls Tryz.prog 107 [.agg (qacm p), .int .i64 hh] [] q (.bool (qac0 p hh)) [] := by
 refine qabj ?_ (fun _ => rfl) (fun _ => rfl) rfl q
 refine qaas (N := 14) Tryz.func107 rfl rfl (by kernel_rfl) qaoh (by simp) (by repeat' (first | exact trivial | refine And.intro ?_ ?_ | rfl | decide | exact PureR.ren _)) (by repeat' (first | exact trivial | refine And.intro ?_ ?_ | rfl | decide | exact PureR.ren _)) ?_
 rintro X hP hN hm
 unfold c_rhead
 repeat' (first | (with_reducible refine zA ?_) | ((with_reducible refine qaac ?_); (try rw [hP]); simp -implicitDefEqProofs [*]) | ((with_reducible refine qaam ?_); (try simp only [qaap, qaag, qaaj])) | ((with_reducible refine qaan (fun h => ?_) (fun h => ?_)) <;> have h' := h <;> (try simp at h') <;> (try subst h') <;> simp -implicitDefEqProofs [*]) | (with_reducible refine zN hm ?_) | fail)
 all_goals (first | (simp [qac0, *]; done) | (simp_all [qac0]; done) | (simp_all [qac0]; omega))
theorem rlead_s (p : PlanD) (from_ to_ : Int) (q : Nat) : SCalls Tryz.prog 134 [.agg (qacm p), .int .i64 from_, .int .i64 to_] [] q (.int .i64 (qag8 p from_ to_)) [] := by
 refine qabj ?_ (fun _ => rfl) (fun _ => rfl) rfl q
 refine qaas (N := 25) Tryz.func134 rfl rfl (by kernel_rfl) qaog (by simp) (by repeat' (first | exact trivial | refine And.intro ?_ ?_ | rfl | decide | exact PureR.ren _)) (by repeat' (first | exact trivial | refine And.intro ?_ ?_ | rfl | decide | exact PureR.ren _)) ?_
 rintro X hP hN hm
 unfold c_rlead
 repeat' (first | (with_reducible refine zA ?_) | ((with_reducible refine qaac ?_); (try rw [hP]); simp -implicitDefEqProofs [*]) | ((with_reducible refine qaaf ?_); (try simp -implicitDefEqProofs [*])) | ((with_reducible refine qaam ?_); (try simp only [qaap, qaag, qaaj])) | ((with_reducible refine qaaa rfl (fun h => ?_) (fun h => ?_)) <;> have h' := h <;> (try simp at h') <;> (try subst h')) | ((with_reducible refine qaan (fun h => ?_) (fun h => ?_)) <;> have h' := h <;> (try simp at h') <;> (try subst h') <;> simp -implicitDefEqProofs [*]) | (with_reducible refine zM hm ?_) | fail)
 all_goals ((try simp only [qag8]); (repeat' split) <;> (first | omega | (simp_all; done) | (simp_all; omega)))
theorem qa45 (p : PlanD) (r : RefD) (args : List Int) (q : Nat) : SCalls Tryz.prog 132 [.agg (qacm p), .agg (refc r), nums .i64 args] [] q (.int .i64 (qabw p r args)) [] := by
 refine qabj ?_ (fun _ => rfl) (fun _ => rfl) rfl q
 refine qaas (N := 53) Tryz.func132 rfl rfl (by kernel_rfl) qak9 (by simp) (by repeat' (first | exact trivial | refine And.intro ?_ ?_ | rfl | decide | exact PureR.ren _)) (by repeat' (first | exact trivial | refine And.intro ?_ ?_ | rfl | decide | exact PureR.ren _)) ?_
 rintro X hP hN hm
 unfold c_rwidth
 by_cases hc : r.h = -3 ∧ r.f = 0
 ·obtain ⟨e1, e2⟩ := hc
  have hz : qabw p r args = 16 := by unfold qabw qanm qa4k; rw [e1, e2]; rfl
  rw [hz]
  repeat' (first | (with_reducible first | refine zA ?_ | refine qaae ?_) | ((with_reducible refine qaac ?_); (try rw [hP]); simp -implicitDefEqProofs [*]) | ((with_reducible refine qaaf ?_); (try simp -implicitDefEqProofs [*])) | ((with_reducible refine qaam ?_); (try simp only [qaap, qaag, qaaj])) | ((with_reducible refine qaaa rfl (fun h => ?_) (fun h => ?_)) <;> have h' := h <;> (try simp at h') <;> (try subst h')) | (with_reducible refine zM hm ?_) | fail)
  rfl
 ·replace hc := Lib.hid hc
  repeat' (first | (with_reducible first | refine zA ?_ | refine qaae ?_) | ((with_reducible refine qaac ?_); (try rw [hP]); simp -implicitDefEqProofs [*]) | ((with_reducible refine qaaf ?_); (try simp -implicitDefEqProofs [*])) | ((with_reducible refine qaam ?_); (try simp only [qaap, qaag, qaaj])) | ((with_reducible refine qaaa rfl (fun h => ?_) (fun h => ?_)) <;> have h' := h <;> (try simp at h') <;> (try subst h')) | ((with_reducible refine qaan (fun h => ?_) (fun h => ?_)) <;> have h' := h <;> (try simp at h') <;> (try subst h') <;> simp -implicitDefEqProofs [*]) | (with_reducible refine zM hm ?_) | ((exfalso; have := hc.out; omega)) | fail)
  all_goals ((try simp only [qabw, qanm, qa4k, headW, el]); (repeat' split) <;> (try first | omega | (simp_all; done) | (simp_all; omega)))
theorem qbiu (op : Int) (q : Nat) : SCalls Tryz.prog 154 [.int .i64 op] [] q (.int .i64 (qab5 op)) [] := by
 refine qabj ?_ (fun _ => rfl) (fun _ => rfl) rfl q
 refine qaas (N := 13) Tryz.func154 rfl rfl (by kernel_rfl) qalb (by simp) (by repeat' (first | exact trivial | refine And.intro ?_ ?_ | rfl | decide | exact PureR.ren _)) (by repeat' (first | exact trivial | refine And.intro ?_ ?_ | rfl | decide | exact PureR.ren _)) ?_
 rintro X hP hN hm
 unfold c_rtakes
 by_cases h0 : op < 1
 ·have hz : qab5 op = -1 := by unfold qab5; rw [if_neg (by omega), if_neg (by omega), if_neg (by omega)]
  rw [hz]
  repeat' (first | (with_reducible refine zA ?_) | ((with_reducible refine qaac ?_); (try rw [hP]); simp -implicitDefEqProofs [*]) | ((with_reducible refine qaam ?_); (try simp only [qaap, qaag, qaaj])) | ((with_reducible refine qaaa rfl (fun h => ?_) (fun h => ?_)) <;> have h' := h <;> (try simp at h') <;> (try subst h')) | (with_reducible refine zM hm ?_) | fail)
  all_goals first | rfl | omega
 by_cases h9 : 13 < op
 ·have hz : qab5 op = -1 := by unfold qab5; rw [if_neg (by omega), if_neg (by omega), if_neg (by omega)]
  rw [hz]
  repeat' (first | (with_reducible refine zA ?_) | ((with_reducible refine qaac ?_); (try rw [hP]); simp -implicitDefEqProofs [*]) | ((with_reducible refine qaam ?_); (try simp only [qaap, qaag, qaaj])) | ((with_reducible refine qaaa rfl (fun h => ?_) (fun h => ?_)) <;> have h' := h <;> (try simp at h') <;> (try subst h')) | (with_reducible refine zM hm ?_) | fail)
  all_goals first | rfl | omega
 have : op = 1 ∨ op = 2 ∨ op = 3 ∨ op = 4 ∨ op = 5 ∨ op = 6 ∨ op = 7 ∨ op = 8 ∨ op = 9 ∨ op = 10 ∨ op = 11 ∨ op = 12 ∨ op = 13 := by omega
 clear h0 h9
 rcases this with rfl | rfl | rfl | rfl | rfl | rfl | rfl | rfl | rfl | rfl | rfl | rfl | rfl
 all_goals
  repeat' (first | (with_reducible refine zA ?_) | ((with_reducible refine qaac ?_); (try rw [hP]); simp -implicitDefEqProofs [*]) | ((with_reducible refine qaaf ?_); (try simp -implicitDefEqProofs [*])) | ((with_reducible refine qaam ?_); (try simp only [qaap, qaag, qaaj])) | ((with_reducible refine qaaa rfl (fun h => ?_) (fun h => ?_)) <;> have h' := h <;> (try simp at h') <;> (try subst h')) | (with_reducible refine zM hm ?_) | fail)
  rfl
end Go.Proofs.YteoijlmgiemffaaGreat
namespace Go.Proofs.YteoijlmgiemffaaGreat
set_option linter.all false
open Go.RowKit
attribute [local simp] qabi qabh qaax qaa7 qaay qaa6 qabf qabg qaar qabr SOp.run SX.ev putd puts argS upds SOp.touch SSt.keep SSt.skip gets geth puth delh idOf SV.cells? setL qadh qadi sbin eq0 eq1 eqL qadf qab9 qaca qaap qabk qaag qabl qabs qaaj qaaq FrzOk qaba qaa1 qaa8 qaa9 qaat qaa0 qabm qaa2 qaav qabb qaau frzS frzH frz frz1 frz0 SlotsM ObjsM ObjM rn ren ren1 ren0 qabu qab7 qacf qabt qabn qacg qace CoL qabc qab3 dels adds idsH qabz
attribute [local simp] qadt refc qaes qaei qab8 opc actc tabc qaea qacm nums
theorem qajp (p : PlanD) (r : RefD) (q : Nat) : SCalls Tryz.prog 132 [.agg (qacm p), .agg (refc r), .nilsl] [] q (.int .i64 (qabw p r [])) [] := qahc (qa45 p r [] q) ⟨Co.refl _, Co.refl _, Co.nilsl _, trivial⟩
theorem rmay_s (p : PlanD) (r : RefD) (q : Nat) : SCalls Tryz.prog 153 [.agg (qacm p), .agg (refc r)] [] q (.bool (qang p r)) [] := by
 refine qabj ?_ (fun _ => rfl) (fun _ => rfl) rfl q
 refine qaas (N := 14) Tryz.func153 rfl rfl (by kernel_rfl) qauh (by simp) (by repeat' (first | exact trivial | refine And.intro ?_ ?_ | rfl | decide | exact PureR.ren _)) (by repeat' (first | exact trivial | refine And.intro ?_ ?_ | rfl | decide | exact PureR.ren _)) ?_
 rintro X hP hN hm
 unfold c_rmay
 repeat' (first | (with_reducible refine zA ?_) | ((with_reducible refine qaac ?_); (try rw [hP]); simp -implicitDefEqProofs [*]) | ((with_reducible refine qaam ?_); (try simp only [qaap, qaag, qaaj])) | ((with_reducible refine qaan (fun h => ?_) (fun h => ?_)) <;> have h' := h <;> (try simp at h') <;> (try subst h') <;> simp -implicitDefEqProofs [*]) | (refine qaaw (qajp p r _) ?_; simp -implicitDefEqProofs [*]) | (with_reducible refine zN hm ?_) | fail)
 all_goals (first | (simp [qang, *]; done) | (simp_all [qang]; done) | (simp_all [qang]; omega))
theorem qbhl (p : PlanD) (l : List PushD) (args : List Int) (hl : l.length ≤ 1000000) (q : Nat) : SCalls Tryz.prog 137 [.agg (qacm p), qab2 l, nums .i64 args] [] q (.int .i64 (qafi p l args)) [] := by
 refine qabj ?_ (fun _ => rfl) (fun _ => rfl) rfl q
 refine qaas (N := 55) Tryz.func137 rfl rfl (by kernel_rfl) qaol (by simp) (by repeat' (first | exact trivial | refine And.intro ?_ ?_ | rfl | decide | exact PureR.ren _)) (by repeat' (first | exact trivial | refine And.intro ?_ ?_ | rfl | decide | exact PureR.ren _)) ?_
 rintro X hP hN hm
 unfold c_rexpr
 by_cases h8 : 8 < l.length
 ·have hz : qafi p l args = 2 := by unfold qafi; rw [if_pos h8]
  rw [hz]
  have k8 : (8 : Int) < l.length := by omega
  repeat' (first | (with_reducible refine zA ?_) | ((with_reducible refine qaac ?_); (try rw [hP]); simp -implicitDefEqProofs [qab2, *]) | ((with_reducible refine qaam ?_); (try simp only [qaap, qaag, qaaj])) | ((with_reducible refine qaaa rfl (fun h => ?_) (fun h => ?_)) <;> have h' := h <;> (try simp at h') <;> (try subst h')) | (with_reducible refine zM hm ?_) | fail)
  rfl
 have hF : qafi p l args = qags p args (l.drop 0) 0 := by unfold qafi; rw [if_neg h8]; rfl
 have k8 : ¬ (8 : Int) < l.length := by omega
 generalize qafi p l args = F at hF
 replace hF := Lib.hid hF
 repeat' (first | (with_reducible refine zA ?_) | ((with_reducible refine qaac ?_); (try rw [hP]); simp -implicitDefEqProofs [qab2, *]) | ((with_reducible refine qaaf ?_); (try simp -implicitDefEqProofs [qab2, *])) | ((with_reducible refine qaaa rfl (fun h => ?_) (fun h => ?_)) <;> have h' := h <;> (try simp at h') <;> (try subst h')) | fail)
 refine qaal (qaa5 (fun s (x : Nat × Int) => s.turn [(7, .int .i64 x.2), (8, .int .i64 x.1)] []) (fun x => x.1 ≤ l.length ∧ (0 ≤ x.2 ∧ x.2 ≤ 2 * x.1) ∧ F = qags p args (l.drop x.1) x.2) (fun x => l.length - x.1) (0, 0) ?_ ⟨by simp, by simp, hF.out⟩ ?_)
 ·repeat' (first | ((with_reducible refine qaah [] hm ?_ ?_ ?_ ?_) <;> (try simp only [zT, puth, Nat.reduceEqDiff, reduceIte, Nat.reduceAdd])) | (with_reducible first | refine za ?_ ?_ | refine zb ?_ ?_ ?_ ?_) | (with_reducible first | exact qaab | exact qaad) | ((with_reducible first | refine zga ?_ | refine zgb ?_); rfl) | ((with_reducible refine zgd ?_); (first | omega | (simp; done))) | (exact Co.refl _) | (exact CoL.refl _) | fail)
 rintro J hJ ⟨i, n⟩ ⟨h1, h2, h3⟩
 unfold qal9
 simp only [zT, puth, Nat.reduceEqDiff, reduceIte, Nat.reduceAdd] at h1 h2 h3 ⊢
 rcases Nat.lt_or_ge i l.length with hi | hi
 ·rw [List.drop_eq_getElem_cons hi, qagr] at h3
  generalize hxx : l[i] = x at h3
  have wi : IntKind.i64.wrap ((i : Int) + 1) = (i : Int) + 1 := qaao (by omega) (by omega)
  have ht : -1 ≤ qab5 x.op ∧ qab5 x.op ≤ 2 := by unfold qab5; repeat' split <;> omega
  have hc := fun q => qbiu x.op q
  have w1 : IntKind.i64.wrap (n - qab5 x.op) = n - qab5 x.op := IntWalk.i64_in _ ⟨by omega, by omega⟩
  have w2 : IntKind.i64.wrap (n - qab5 x.op + 1) = n - qab5 x.op + 1 := IntWalk.i64_in _ ⟨by omega, by omega⟩
  generalize qab5 x.op = T at h3 ht hc w1 w2
  replace h3 := Lib.hid h3
  repeat' (first | (with_reducible first | refine zA ?_ | refine qaae ?_ | refine zK ?_) | ((with_reducible first | refine qaac ?_ | refine qaaz (by rw [hP]; exact qacz) ?_); (try rw [hP]); simp -implicitDefEqProofs [qab2, *]) | ((with_reducible refine qaaf ?_); (try simp -implicitDefEqProofs [qab2, *])) | ((with_reducible refine qaam ?_); (try simp only [qaap, qaag, qaaj])) | ((with_reducible refine qaaa rfl (fun h => ?_) (fun h => ?_)) <;> have h' := h <;> (try simp at h') <;> (try subst h')) | ((with_reducible refine qaan (fun h => ?_) (fun h => ?_)) <;> have h' := h <;> (try simp at h') <;> (try subst h') <;> simp -implicitDefEqProofs [qab2, *]) | ((first | refine qaaw (hc _) ?_ | refine qaaw (qa45 p x.r args _) ?_); simp -implicitDefEqProofs [qab2, *]) | (with_reducible refine zM hm ?_) | (with_reducible first | refine za ?_ ?_ | refine zb ?_ ?_ ?_ ?_) | (with_reducible first | exact qaab | exact qaad) | ((with_reducible first | refine zga ?_ | refine zgb ?_); rfl) | ((with_reducible first | refine zgd ?_ | refine zge ?_); (first | omega | (simp; done))) | (exact Co.refl _) | (exact CoL.refl _) | ((refine qaai hJ (i + 1, n - T + 1) ?_ ?_ ?_; (with_reducible refine qaah [] hm ?_ ?_ ?_ ?_) <;> (try simp only [zT, puth, Nat.reduceEqDiff, reduceIte, Nat.reduceAdd]))) | fail)
  all_goals (try dsimp only)
  all_goals (first | (rw [h3.out]; simp_all; done) | (refine ⟨by omega, ⟨by omega, by omega⟩, ?_⟩; rw [h3.out, if_neg (by omega), if_neg (by simp_all), show n - T + 1 = n + (1 - T) by omega]) | skip)
 ·obtain rfl : i = l.length := by omega
  rw [List.drop_length, qakz] at h3
  replace h3 := Lib.hid h3
  repeat' (first | (with_reducible refine zA ?_) | ((with_reducible refine qaac ?_); (try rw [hP]); simp -implicitDefEqProofs [qab2, *]) | ((with_reducible first | refine qaaf ?_ | refine qaak ?_); (try simp -implicitDefEqProofs [qab2, *])) | ((with_reducible refine qaam ?_); (try simp only [qaap, qaag, qaaj])) | ((with_reducible refine qaaa rfl (fun h => ?_) (fun h => ?_)) <;> have h' := h <;> (try simp at h') <;> (try subst h')) | (with_reducible refine zM hm ?_) | fail)
  all_goals (rw [h3.out]; simp_all; done)
end Go.Proofs.YteoijlmgiemffaaGreat
namespace Go.Proofs.YteoijlmgiemffaaGreat
set_option linter.all false
open Go.RowKit
attribute [local simp] qabi qabh qaax qaa7 qaay qaa6 qabf qabg qaar qabr SOp.run SX.ev putd puts argS upds SOp.touch SSt.keep SSt.skip gets geth puth delh idOf SV.cells? setL qadh qadi sbin eq0 eq1 eqL qadf qab9 qaca qaap qabk qaag qabl qabs qaaj qaaq FrzOk qaba qaa1 qaa8 qaa9 qaat qaa0 qabm qaa2 qaav qabb qaau frzS frzH frz frz1 frz0 SlotsM ObjsM ObjM rn ren ren1 ren0 qabu qab7 qacf qabt qabn qacg qace CoL qabc qab3 dels adds idsH qabz
attribute [local simp] qadt refc qaes qaei qab8 opc actc tabc qaea qacm nums
theorem rdeed_s (p : PlanD) (o : OpD) (args : List Int) (hl : o.e.length ≤ 1000000) (q : Nat) : SCalls Tryz.prog 135 [.agg (qacm p), .agg (opc o), nums .i64 args] [] q (.int .i64 (qahj p o args)) [] := by
 refine qabj ?_ (fun _ => rfl) (fun _ => rfl) rfl q
 refine qaas (N := 52) Tryz.func135 rfl rfl (by kernel_rfl) qaom (by simp) (by repeat' (first | exact trivial | refine And.intro ?_ ?_ | rfl | decide | exact PureR.ren _)) (by repeat' (first | exact trivial | refine And.intro ?_ ?_ | rfl | decide | exact PureR.ren _)) ?_
 rintro X hP hN hm
 unfold c_rdeed
 have c1 := fun q => rmay_s p o.r q
 have c2 := fun q => qbhl p o.e args hl q
 have c3 := fun q => qasr p o.head q
 have hD : qahj p o args = if o.kind = 1 then (if qang p o.r then qafi p o.e args else 1) else if o.kind = 2 then (if qac0 p o.head then 0 else 1) else if o.kind = 3 then (if qac0 p o.head then 0 else 1)
  else if o.kind = 4 then 0 else if o.kind = 5 then qafi p o.e args else if o.kind = 6 then (if qang p o.r && qac0 p o.head then 0 else 1) else 5 := by
  unfold qahj
  by_cases k2 : o.kind = 2
  ·simp [k2]
  by_cases k3 : o.kind = 3
  ·simp [k3]
  simp [k2, k3]
 generalize qahj p o args = F at hD
 generalize qafi p o.e args = E at hD c2
 generalize qang p o.r = M at hD c1
 generalize qac0 p o.head = H at hD c3
 replace hD := Lib.hid hD
 replace c1 := Lib.hid c1
 replace c2 := Lib.hid c2
 replace c3 := Lib.hid c3
 repeat' (first | (with_reducible first | refine zA ?_ | refine qaae ?_) | ((with_reducible refine qaac ?_); (try rw [hP]); simp -implicitDefEqProofs [qab2, *]) | ((with_reducible refine qaaf ?_); (try simp -implicitDefEqProofs [qab2, *])) | ((with_reducible refine qaam ?_); (try simp only [qaap, qaag, qaaj])) | ((with_reducible refine qaaa rfl (fun h => ?_) (fun h => ?_)) <;> have h' := h <;> (try simp at h') <;> (try subst h')) | ((with_reducible refine qaan (fun h => ?_) (fun h => ?_)) <;> have h' := h <;> (try simp at h') <;> (try subst h') <;> simp -implicitDefEqProofs [qab2, *]) | ((first | refine qaaw (c1.out _) ?_ | refine qaaw (c2.out _) ?_ | refine qaaw (c3.out _) ?_); simp -implicitDefEqProofs [qab2, *]) | (with_reducible refine zM hm ?_) | fail)
 all_goals (rw [hD.out]; first | (simp [*]; done) | (simp_all; done))
theorem qak2 (v : Int) {l : List Int} {i : Nat} (hi : i < l.length) : (l.drop i).contains v = (l[i] == v || (l.drop (i + 1)).contains v) := by
 rw [List.drop_eq_getElem_cons hi, List.contains_cons, Bool.beq_comm]
theorem rin_s (l : List Int) (v : Int) (hl : l.length ≤ 1000000) (q : Nat) : SCalls Tryz.prog 104 [nums .i64 l, .int .i64 v] [] q (.bool (l.contains v)) [] := by
 refine qabj ?_ (fun _ => rfl) (fun _ => rfl) rfl q
 refine qaas (N := 18) Tryz.func104 rfl rfl (by kernel_rfl) qa6l (by simp) (by repeat' (first | exact trivial | refine And.intro ?_ ?_ | rfl | decide | exact PureR.ren _)) (by repeat' (first | exact trivial | refine And.intro ?_ ?_ | rfl | decide | exact PureR.ren _)) ?_
 rintro X hP hN hm
 have hF : l.contains v = (l.drop 0).contains v := rfl
 generalize l.contains v = F at hF
 replace hF := Lib.hid hF
 unfold c_rin
 repeat' (first | (with_reducible refine zA ?_) | ((with_reducible refine qaac ?_); (try rw [hP]); simp -implicitDefEqProofs [*]) | fail)
 refine qaal (qaa5 (fun s (i : Nat) => s.turn [(5, .int .i64 i)] []) (fun i => i ≤ l.length ∧ F = (l.drop i).contains v) (fun i => l.length - i) 0 ?_ ⟨by simp, hF.out⟩ ?_)
 ·repeat' (first | ((with_reducible refine qaah [] hm ?_ ?_ ?_ ?_) <;> (try simp only [zT, puth, Nat.reduceEqDiff, reduceIte, Nat.reduceAdd])) | (with_reducible refine za ?_ ?_) | (with_reducible first | exact qaab | exact qaad) | ((with_reducible refine zgb ?_); rfl) | ((with_reducible refine zgd ?_); (first | omega | (simp; done))) | (exact Co.refl _) | fail)
 rintro J hJ i ⟨h1, h2⟩
 unfold qa9f
 simp only [zT, puth, Nat.reduceEqDiff, reduceIte, Nat.reduceAdd] at h1 h2 ⊢
 rcases Nat.lt_or_ge i l.length with hi | hi
 ·rw [qak2 v hi] at h2
  generalize hxx : l[i] = x at h2
  have wi : IntKind.i64.wrap ((i : Int) + 1) = (i : Int) + 1 := qaao (by omega) (by omega)
  cases hv : (x == v) <;> rw [hv] at h2 <;> replace h2 := Lib.hid h2
  ·repeat' (first | (with_reducible first | refine zA ?_ | refine qaae ?_) | ((with_reducible refine qaac ?_); (try rw [hP]); simp -implicitDefEqProofs [*]) | ((with_reducible refine qaaf ?_); (try simp -implicitDefEqProofs [*])) | ((with_reducible refine qaaa rfl (fun h => ?_) (fun h => ?_)) <;> have h' := h <;> (try simp at h') <;> (try subst h')) | (with_reducible refine za ?_ ?_) | (with_reducible first | exact qaab | exact qaad) | ((with_reducible refine zgb ?_); rfl) | ((with_reducible first | refine zgd ?_ | refine zge ?_); (first | omega | (simp; done))) | (exact Co.refl _) | ((refine qaai hJ (i + 1) ?_ ?_ ?_; (with_reducible refine qaah [] hm ?_ ?_ ?_ ?_) <;> (try simp only [zT, puth, Nat.reduceEqDiff, reduceIte, Nat.reduceAdd]))) | fail)
   exact ⟨by omega, by rw [h2.out, Bool.false_or]⟩
  ·repeat' (first | (with_reducible first | refine zA ?_ | refine qaae ?_) | ((with_reducible refine qaac ?_); (try rw [hP]); simp -implicitDefEqProofs [*]) | ((with_reducible refine qaaf ?_); (try simp -implicitDefEqProofs [*])) | ((with_reducible refine qaam ?_); (try simp only [qaap, qaag, qaaj])) | ((with_reducible refine qaaa rfl (fun h => ?_) (fun h => ?_)) <;> have h' := h <;> (try simp at h') <;> (try subst h')) | (with_reducible refine zN hm ?_) | fail)
   rw [h2.out]; rfl
 ·obtain rfl : i = l.length := by omega
  rw [List.drop_length] at h2
  replace h2 := Lib.hid h2
  repeat' (first | (with_reducible refine zA ?_) | ((with_reducible refine qaac ?_); (try rw [hP]); simp -implicitDefEqProofs [*]) | ((with_reducible refine qaak ?_); (try simp -implicitDefEqProofs [*])) | ((with_reducible refine qaam ?_); (try simp only [qaap, qaag, qaaj])) | ((with_reducible refine qaaa rfl (fun h => ?_) (fun h => ?_)) <;> have h' := h <;> (try simp at h') <;> (try subst h')) | (with_reducible refine zN hm ?_) | fail)
  rw [h2.out]; rfl
theorem qbej (p : PlanD) (t : TabD) (hl : t.keys.length ≤ 1000000) (q : Nat) : SCalls Tryz.prog 103 [.agg (qacm p), .agg (tabc t)] [] q (nums .i64 (qab1 p t)) [] := by
 refine qabj ?_ (fun _ => rfl) (fun _ => rfl) rfl q
 rw [← qa4n]
 refine qaas (N := 25) Tryz.func103 rfl rfl (by kernel_rfl) qaj6 (by simp) (by repeat' (first | exact trivial | refine And.intro ?_ ?_ | rfl | decide | exact PureR.ren _)) (by repeat' (first | exact trivial | refine And.intro ?_ ?_ | rfl | decide | exact PureR.ren _)) ?_
 rintro X hP hN hm
 unfold c_rwidths
 repeat' (first | (with_reducible refine zA ?_) | ((with_reducible refine qaac ?_); (try rw [hP]); simp -implicitDefEqProofs [*]) | fail)
 refine qaco (qadw 5 3 1 rfl) ?_
 simp only [zT, puth, Nat.reduceEqDiff, reduceIte, Nat.reduceAdd]
 refine qaal (qaa5 (fun s (i : Nat) => s.turn [(5, .own 5 i), (6, .int .i64 i)] [(5, .row 3 1 (wrow p t.keys i))]) (fun i => i ≤ t.keys.length) (fun i => t.keys.length - i) 0 ?_ (by simp) ?_)
 ·repeat' (first | ((with_reducible refine qaah [] hm ?_ ?_ ?_ ?_) <;> (try simp only [zT, puth, Nat.reduceEqDiff, reduceIte, Nat.reduceAdd])) | (with_reducible first | refine za ?_ ?_ | refine zb ?_ ?_ ?_ ?_ | refine zc ?_ ?_ ?_ ?_) | (with_reducible first | exact qaab | exact qaad) | ((with_reducible first | refine zga ?_ | refine zgb ?_); rfl) | ((with_reducible refine zgc ?_); (first | (with_reducible rfl) | rfl | (simp; done))) | ((with_reducible refine zgd ?_); (first | omega | (simp; done))) | (exact Co.refl _) | (exact CoL.refl _) | fail)
 rintro J hJ i hi
 unfold qah4
 simp only [zT, puth, Nat.reduceEqDiff, reduceIte, Nat.reduceAdd]
 have hlen := qa4m p hi
 have hb1 : i + 1 ≤ maxLen := by unfold maxLen; omega
 rcases Nat.lt_or_ge i t.keys.length with h | h
 ·have wi : IntKind.i64.wrap ((i : Int) + 1) = (i : Int) + 1 := qaao (by omega) (by omega)
  have hrow := qasg p h
  generalize hr : t.keys[i] = r at hrow
  repeat' (first | (with_reducible first | refine zA ?_ | refine qaeh ?_ | refine zK ?_) | ((with_reducible first | refine qaac ?_ | refine qaaz (by rw [hP]; exact qacz) ?_); (try rw [hP]); simp -implicitDefEqProofs [*]) | ((with_reducible refine qaaf ?_); (try simp -implicitDefEqProofs [*])) | ((with_reducible refine qaaa rfl (fun h => ?_) (fun h => ?_)) <;> have h' := h <;> (try simp at h') <;> (try subst h')) | ((with_reducible refine qabo ?_ ?_); (first | omega | (unfold maxLen; omega)); simp -implicitDefEqProofs [*]) | (refine qaaw (qajp p r _) ?_; simp -implicitDefEqProofs [*]) | (with_reducible first | refine za ?_ ?_ | refine zb ?_ ?_ ?_ ?_ | refine zc ?_ ?_ ?_ ?_) | (with_reducible first | exact qaab | exact qaad) | ((with_reducible first | refine zga ?_ | refine zgb ?_); rfl) | ((with_reducible refine zgc ?_); (first | (with_reducible rfl) | rfl | (simp; done))) | ((with_reducible first | refine zgd ?_ | refine zge ?_); (first | omega | (simp; done))) | (exact Co.refl _) | (exact CoL.refl _) | ((refine qaai hJ (i + 1) ?_ ?_ ?_; (with_reducible refine qaah [(5, ?_)] hm ?_ ?_ ?_ ?_) <;> (try simp only [zT, puth, Nat.reduceEqDiff, reduceIte, Nat.reduceAdd]))) | fail)
 ·obtain rfl : i = t.keys.length := by omega
  repeat' (first | ((with_reducible refine qacr (c := .seq (.reg false qah3 [4]) .ret) ?_)) | (with_reducible refine zA ?_) | ((with_reducible refine qaac ?_); (try rw [hP]); simp -implicitDefEqProofs [*]) | ((with_reducible refine qaak ?_); (try simp -implicitDefEqProofs [*])) | ((with_reducible refine qaaa rfl (fun h => ?_) (fun h => ?_)) <;> have h' := h <;> (try simp at h') <;> (try subst h')) | fail)
  constructor
  refine qaeg [5] ?_ ?_
  ·simp only [FrzOk, geth, Nat.reduceEqDiff, reduceIte, qad9, and_true]
  have htk : (wrow p t.keys t.keys.length).take t.keys.length = wrow p t.keys t.keys.length := List.take_of_length_le (by omega)
  simp -implicitDefEqProofs [htk, hlen, Nat.le_refl]
  repeat' (first | (with_reducible refine zA ?_) | ((with_reducible refine qaac ?_); (try rw [hP]); simp -implicitDefEqProofs [*]) | ((with_reducible refine qaam ?_); (try simp only [qaap, qaag, qaaj])) | (refine qakx hm ?_ (qads _ _)) | fail)
  rfl
theorem qath (n k : Int) (q : Nat) : SCalls Tryz.prog 133 [.int .u64 n, .int .i64 k] [] q (.bool (qand n k)) [] := qabj (wide_s n k) (fun _ => rfl) (fun _ => rfl) rfl q
set_option maxHeartbeats 4000000 in
theorem qbiw (p : PlanD) (i : Nat) (hi : i < p.states.length) (hsl : p.states.length ≤ 1000000) (hcl : p.states[i].cases_.length ≤ 1000000) (q : Nat) : SCalls Tryz.prog 101 [.agg (qacm p), .int .i64 i] [] q (.int .i64 (qafg p i p.states[i])) [] := by
 refine qabj ?_ (fun _ => rfl) (fun _ => rfl) rfl q
 refine qaas (N := 80) Tryz.func101 rfl rfl (by kernel_rfl) qald (by simp) (by repeat' (first | exact trivial | refine And.intro ?_ ?_ | rfl | decide | exact PureR.ren _)) (by repeat' (first | exact trivial | refine And.intro ?_ ?_ | rfl | decide | exact PureR.ren _)) ?_
 rintro X hP hN hm
 unfold c_rstate
 generalize hxx : p.states[i] = x at hcl
 have hlead := fun to_ q => rlead_s p i to_ q
 have hwid := fun q => qajp p x.on q
 have hhead := fun q => qasr p x.head q
 have hst : qafg p i x = if (x.head != -1 && !qac0 p x.head) = true then 1 else if decide (4 < (x.cases_.length : Int)) = true then 2 else if (decide (0 < (x.cases_.length : Int)) && (qabw p x.on [] == 0)) = true then 1 else if qacj (qah0 p i (qabw p x.on [])) (x.cases_.drop 0) = 0 then qag8 p i x.els else qacj (qah0 p i (qabw p x.on [])) (x.cases_.drop 0) := by
  unfold qafg
  have c1 : (x.head < -1 ∨ (p.heads.length : Int) ≤ x.head) ↔ (x.head != -1 && !qac0 p x.head) = true := by
   unfold qac0; rw [Bool.and_eq_true, Bool.not_eq_true', Bool.and_eq_false_iff, decide_eq_false_iff_not, decide_eq_false_iff_not, bne_iff_ne]; omega
  have c2 : (4 < x.cases_.length) ↔ decide (4 < (x.cases_.length : Int)) = true := by rw [decide_eq_true_eq]; omega
  have c3 : (0 < x.cases_.length ∧ qabw p x.on [] = 0) ↔ (decide (0 < (x.cases_.length : Int)) && (qabw p x.on [] == 0)) = true := by rw [Bool.and_eq_true, decide_eq_true_eq, beq_iff_eq]; omega
  simp only [propext c1, propext c2, propext c3, List.drop_zero, ne_eq, ite_not]
 generalize qafg p i x = F at hst
 generalize qabw p x.on [] = W at hst hwid
 generalize qac0 p x.head = H at hst hhead
 replace hlead := Lib.hid hlead
 replace hwid := Lib.hid hwid
 replace hhead := Lib.hid hhead
 replace hst := Lib.hid hst
 have main : (x.head != -1 && !H) = false → decide (4 < (x.cases_.length : Int)) = false → (decide (0 < (x.cases_.length : Int)) && (W == 0)) = false → F = if qacj (qah0 p i W) (x.cases_.drop 0) = 0 then qag8 p i x.els else qacj (qah0 p i W) (x.cases_.drop 0) := fun b1 b2 b3 => by
  have := hst.out; rw [b1, b2, b3] at this; exact this
 have hcs : ∀ c, qah0 p i W c = if (qand c.mask W || (bits .and .u64 c.value c.mask != c.value)) = true then 6 else qag8 p i c.to_ := fun c => by
  unfold qah0; congr 1
  rw [show decide (bits .and .u64 c.value c.mask ≠ c.value) = (bits .and .u64 c.value c.mask != c.value) by rw [Bool.eq_iff_iff]; simp]
 have loop : F = (if qacj (qah0 p i W) (x.cases_.drop 0) = 0 then qag8 p i x.els else qacj (qah0 p i W) (x.cases_.drop 0)) → SWp X (SCode.block 0 c_rstate_l1.loop) (QSeq X ((SCode.reg false qah5 [4]).seq SCode.ret) (QFun X [ResultVar.tmp 4] 0 (SV.int IntKind.i64 F) []))
   ⟨[(1, .int .i64 i), (2, .ptr 0 0), (5, .ptr 7 0), (6, .int .i64 W), (7, .int .i64 0)], [(0, .cells 33 (qacm p)), (7, .cells 69 (qab8 x))], 8⟩ := fun h0 => by
  clear main hst
  refine qaal (qaa5 (fun s (j : Nat) => s.turn [(7, .int .i64 j)] []) (fun j => j ≤ x.cases_.length ∧ F = if qacj (qah0 p i W) (x.cases_.drop j) = 0 then qag8 p i x.els else qacj (qah0 p i W) (x.cases_.drop j)) (fun j => x.cases_.length - j) 0 ?_ ⟨by simp, h0⟩ ?_)
  ·repeat' (first | ((with_reducible refine qaah [] hm ?_ ?_ ?_ ?_) <;> (try simp only [zT, puth, Nat.reduceEqDiff, reduceIte, Nat.reduceAdd])) | (with_reducible first | refine za ?_ ?_ | refine zb ?_ ?_ ?_ ?_) | (with_reducible first | exact qaab | exact qaad) | ((with_reducible first | refine zga ?_ | refine zgb ?_); rfl) | ((with_reducible refine zgd ?_); (first | omega | (simp; done))) | (exact Co.refl _) | (exact CoL.refl _) | fail)
  rintro J hJ j ⟨h1, h2⟩
  unfold c_rstate_l1
  simp only [zT, puth, Nat.reduceEqDiff, reduceIte, Nat.reduceAdd] at h1 h2 ⊢
  rcases Nat.lt_or_ge j x.cases_.length with hj | hj
  ·rw [qae7 _ hj] at h2
   generalize hcc : x.cases_[j] = c at h2
   rw [hcs c] at h2
   have hwd := fun q => qath c.mask W q
   have hld := fun q => hlead.out c.to_ q
   generalize qag8 p i c.to_ = L at h2 hld
   generalize hwv : qand c.mask W = V at h2 hwd
   generalize hbv : (bits .and .u64 c.value c.mask != c.value) = B at h2
   have wj : IntKind.i64.wrap ((j : Int) + 1) = (j : Int) + 1 := qaao (by omega) (by omega)
   replace h2 := Lib.hid h2
   replace hcs := Lib.hid hcs
   replace hld := Lib.hid hld
   replace hwv := Lib.hid hwv
   replace h0 := Lib.hid h0
   cases kV : V <;> cases kB : B <;> cases kL : (L != 0)
   all_goals
    rw [kV] at hwd
    rw [kB] at hbv
    repeat' (first | (with_reducible first | refine zA ?_ | refine qaae ?_) | ((with_reducible refine qaac ?_); (try rw [hP]); simp -implicitDefEqProofs [*]) | ((with_reducible refine qaaf ?_); (try simp -implicitDefEqProofs [*])) | ((with_reducible refine qaam ?_); (try simp only [qaap, qaag, qaaj])) | ((with_reducible refine qaaa rfl (fun h => ?_) (fun h => ?_)) <;> have h' := h <;> (try simp at h') <;> (try subst h')) | ((first | refine qaaw (hwd _) ?_ | refine qaaw (hld.out _) ?_); simp -implicitDefEqProofs [*]) | (with_reducible refine zM hm ?_) | (with_reducible first | refine za ?_ ?_ | refine zb ?_ ?_ ?_ ?_) | (with_reducible first | exact qaab | exact qaad) | ((with_reducible first | refine zga ?_ | refine zgb ?_); rfl) | ((with_reducible first | refine zgd ?_ | refine zge ?_); (first | omega | (simp; done))) | (exact Co.refl _) | (exact CoL.refl _) | ((refine qaai hJ (j + 1) ?_ ?_ ?_; (with_reducible refine qaah [] hm ?_ ?_ ?_ ?_) <;> (try simp only [zT, puth, Nat.reduceEqDiff, reduceIte, Nat.reduceAdd]))) | fail)
    have kL' := kL
    simp at kL'
    first | (refine ⟨by omega, ?_⟩; rw [h2.out]; simp [kV, kB, kL']; done) | (rw [h2.out]; simp [kV, kB, kL']; done) | skip
  ·obtain rfl : j = x.cases_.length := by omega
   rw [List.drop_length] at h2
   replace h2 := Lib.hid h2
   replace h0 := Lib.hid h0
   replace hcs := Lib.hid hcs
   repeat' (first | (with_reducible refine zA ?_) | ((with_reducible refine qaac ?_); (try rw [hP]); simp -implicitDefEqProofs [*]) | ((with_reducible refine qaak ?_); (try simp -implicitDefEqProofs [*])) | ((with_reducible refine qaam ?_); (try simp only [qaap, qaag, qaaj])) | ((with_reducible refine qaaa rfl (fun h => ?_) (fun h => ?_)) <;> have h' := h <;> (try simp at h') <;> (try subst h')) | (refine qaaw (hlead.out _ _) ?_; simp -implicitDefEqProofs [*]) | (with_reducible refine zM hm ?_) | fail)
   rw [h2.out]; rfl
 replace hcs := Lib.hid hcs
 replace loop := Lib.hid loop
 replace main := Lib.hid main
 cases k1 : (x.head != -1)
 all_goals cases k2 : H
 all_goals rw [k2] at hhead
 all_goals cases k3 : decide (4 < (x.cases_.length : Int))
 all_goals have kn : decide (0 < x.cases_.length) = decide (0 < (x.cases_.length : Int)) := decide_eq_decide.2 (by omega)
 all_goals cases k4 : decide (0 < (x.cases_.length : Int)) <;> rw [k4] at kn
 all_goals cases k5 : (W == 0)
 all_goals
  repeat' (first | (with_reducible refine zA ?_) | ((with_reducible refine qaac ?_); (try rw [hP]); simp -implicitDefEqProofs [*]) | ((with_reducible refine qaaf ?_); (try simp -implicitDefEqProofs [*])) | ((with_reducible refine qaam ?_); (try simp only [qaap, qaag, qaaj])) | ((with_reducible refine qaaa rfl (fun h => ?_) (fun h => ?_)) <;> have h' := h <;> (try simp at h') <;> (try subst h')) | ((first | refine qaaw (hhead.out _) ?_ | refine qaaw (hwid.out _) ?_); simp -implicitDefEqProofs [*]) | (with_reducible refine zM hm ?_) | fail)
 all_goals (first | (have q := hst.out; simp only [k1, k2, k3, k4, k5, Bool.false_and, Bool.true_and, Bool.not_true, Bool.not_false, reduceIte, Bool.false_eq_true] at q; exact q.symm) | (have q := hst.out; simp [k1, k2, k3, k4, k5] at q; exact q.symm) | (have q := hst.out; simp [k1, k2, k3, k4] at q; exact q.symm) | skip)
 all_goals
  refine qaco ?_ (loop.out (main.out (by simp only [k1, k2]; rfl) k3 (by simp only [k4, k5]; rfl)))
  repeat' (first | ((with_reducible refine qaah [] hm ?_ ?_ ?_ ?_) <;> (try simp only [zT, puth, Nat.reduceEqDiff, reduceIte, Nat.reduceAdd])) | (with_reducible first | refine za ?_ ?_ | refine zb ?_ ?_ ?_ ?_) | (with_reducible first | exact qaab | exact qaad) | ((with_reducible first | refine zga ?_ | refine zgb ?_); rfl) | ((with_reducible refine zgd ?_); (first | omega | (simp; done))) | (exact Co.refl _) | (exact CoL.refl _) | fail)
end Go.Proofs.YteoijlmgiemffaaGreat
namespace Go.Proofs.YteoijlmgiemffaaGreat
set_option linter.all false
open Go.RowKit
attribute [local simp] qabi qabh qaax qaa7 qaay qaa6 qabf qabg qaar qabr SOp.run SX.ev putd puts argS upds SOp.touch SSt.keep SSt.skip gets geth puth delh idOf SV.cells? setL qadh qadi sbin eq0 eq1 eqL qadf qab9 qaca qaap qabk qaag qabl qabs qaaj qaaq FrzOk qaba qaa1 qaa8 qaa9 qaat qaa0 qabm qaa2 qaav qabb qaau frzS frzH frz frz1 frz0 SlotsM ObjsM ObjM rn ren ren1 ren0 qabu qab7 qacf qabt qabn qacg qace CoL qabc qab3 dels adds idsH qabz
attribute [local simp] qadt refc qaes qaei qab8 opc actc tabc qaea qacm nums
def qadv (n : Nat) : List Int → List Int → List Int
 | [], acc => acc
 | t :: ts, acc => if (decide (tgt n t ≤ n) && !acc.contains (tgt n t)) = true then qadv n ts (acc ++ [tgt n t]) else qadv n ts acc
def qaii (p : PlanD) (s : StateD) : List Int := qadv p.states.length (qac2 s) []
theorem qagk (n : Nat) (k : Int) : ∀ (ts acc : List Int), k ∈ qadv n ts acc ↔ k ∈ acc ∨ (k ≤ n ∧ ∃ t ∈ ts, tgt n t = k)
 | [], acc => by simp [qadv]
 | t :: ts, acc => by
  unfold qadv
  by_cases h : (decide (tgt n t ≤ n) && !acc.contains (tgt n t)) = true
  ·rw [if_pos h, qagk n k ts]
   rw [Bool.and_eq_true, decide_eq_true_eq, Bool.not_eq_true'] at h
   constructor
   ·rintro (h1 | ⟨h1, t', h2, h3⟩)
    ·rcases List.mem_append.1 h1 with h1 | h1
     ·exact .inl h1
     ·rw [List.mem_singleton.1 h1]; exact .inr ⟨h.1, t, by simp, rfl⟩
    ·exact .inr ⟨h1, t', by simp [h2], h3⟩
   ·rintro (h1 | ⟨h1, t', h2, h3⟩)
    ·exact .inl (List.mem_append_left _ h1)
    ·rcases List.mem_cons.1 h2 with e | e
     ·rw [← h3, e]; exact .inl (List.mem_append_right _ (by simp))
     ·exact .inr ⟨h1, t', e, h3⟩
  ·rw [if_neg h, qagk n k ts]
   rw [Bool.and_eq_true, decide_eq_true_eq, Bool.not_eq_true'] at h
   constructor
   ·rintro (h1 | ⟨h1, t', h2, h3⟩)
    ·exact .inl h1
    ·exact .inr ⟨h1, t', by simp [h2], h3⟩
   ·rintro (h1 | ⟨h1, t', h2, h3⟩)
    ·exact .inl h1
    ·rcases List.mem_cons.1 h2 with e | e
     ·subst e
      have : acc.contains (tgt n t') = true := by
       by_cases hc : acc.contains (tgt n t') = true
       ·exact hc
       ·exact absurd ⟨by omega, by simpa using hc⟩ h
      rw [h3] at this
      exact .inl (by simpa using this)
     ·exact .inr ⟨h1, t', e, h3⟩
theorem qaew (n : Nat) : ∀ (ts acc : List Int), acc.Nodup → (qadv n ts acc).Nodup
 | [], acc, h => h
 | t :: ts, acc, h => by
  unfold qadv
  by_cases hc : (decide (tgt n t ≤ n) && !acc.contains (tgt n t)) = true
  ·rw [if_pos hc]
   refine qaew n ts _ ?_
   rw [Bool.and_eq_true, Bool.not_eq_true'] at hc
   rw [List.nodup_append]
   refine ⟨h, by simp, fun a ha b hb => ?_⟩
   rw [List.mem_singleton.1 hb]
   intro e
   rw [e] at ha
   have : acc.contains (tgt n t) = true := by simpa using ha
   rw [this] at hc; exact absurd hc.2 (by decide)
  ·rw [if_neg hc]; exact qaew n ts acc h
theorem qagl (n : Nat) : ∀ (ts acc : List Int), (qadv n ts acc).length ≤ acc.length + ts.length
 | [], acc => by simp [qadv]
 | t :: ts, acc => by
  unfold qadv
  split
  ·have := qagl n ts (acc ++ [tgt n t]); simp at this; simp; omega
  ·have := qagl n ts acc; simp; omega
theorem in_look (acc : List Int) (v : Int) (hl : acc.length ≤ 1000000) (R q : Nat) : SCalls Tryz.prog 104 [.own R acc.length, .int .i64 v] [(R, .row 3 1 (acc.map fun x => [SV.int .i64 x]))] q (.bool (acc.contains v)) [(R, .row 3 1 (acc.map fun x => [SV.int .i64 x]))] := by
 have hr : Lent [(R, .row 3 1 (acc.map fun x => [SV.int .i64 x]))] (.own R acc.length) (nums .i64 acc) := qanv (e := 3) (by simp [geth]) (qasq _ _) (by simp)
 exact qaio (rin_s acc v hl q) ⟨hr, qajx _, trivial⟩ (qa6o _)
theorem qae1 (s : StateD) : (qac2 s).length = s.cases_.length + 1 := by simp [qac2]
theorem qa4t (s : StateD) {k : Nat} (hk : k ≤ s.cases_.length) : (qac2 s)[k]'(by rw [qae1]; omega) = if h : k < s.cases_.length then s.cases_[k].to_ else s.els := by
 unfold qac2
 by_cases h : k < s.cases_.length
 ·rw [dif_pos h, List.getElem_append_left (by simpa using h), List.getElem_map]
 ·rw [dif_neg h, List.getElem_append_right (by simp; omega)]
  simp
set_option maxHeartbeats 4000000 in
theorem qbiy (p : PlanD) (hp : PlOk p) (i : Nat) (hi : i < p.states.length) (q : Nat) : SCalls Tryz.prog 108 [.agg (qacm p), .int .i64 i] [] q (nums .i64 (qaii p p.states[i])) [] := by
 refine qabj ?_ (fun _ => rfl) (fun _ => rfl) rfl q
 refine qaas (N := 65) Tryz.func108 rfl rfl (by kernel_rfl) qale (by simp) (by repeat' (first | exact trivial | refine And.intro ?_ ?_ | rfl | decide | exact PureR.ren _)) (by repeat' (first | exact trivial | refine And.intro ?_ ?_ | rfl | decide | exact PureR.ren _)) ?_
 rintro X hP hN hm
 have hcl := (hp.ok i hi).cases_
 have hn := hp.states.2
 clear hp
 generalize hxx : p.states[i] = x at hcl
 have hF : qaii p x = qadv p.states.length ((qac2 x).drop 0) [] := rfl
 generalize qaii p x = F at hF
 replace hF := Lib.hid hF
 unfold c_rleads
 repeat' (first | (with_reducible refine zA ?_) | ((with_reducible refine qaac ?_); (try rw [hP]); simp -implicitDefEqProofs [*]) | fail)
 refine qaco (qadw 5 3 1 rfl) ?_
 simp only [zT, puth, Nat.reduceEqDiff, reduceIte, Nat.reduceAdd]
 refine qaal (qaa5 (fun s (z : Nat × List Int) => s.turn [(5, .own 4 z.2.length), (6, .int .i64 z.1)] [(4, .row 3 1 (z.2.map fun x => [SV.int .i64 x]))]) (fun z => z.1 ≤ x.cases_.length + 1 ∧ z.2.length ≤ z.1 ∧ F = qadv p.states.length ((qac2 x).drop z.1) z.2) (fun z => x.cases_.length + 1 - z.1) (0, []) ?_ ⟨by simp, by simp, hF.out⟩ ?_)
 ·repeat' (first | ((with_reducible refine qaah [] hm ?_ ?_ ?_ ?_) <;> (try simp only [zT, puth, Nat.reduceEqDiff, reduceIte, Nat.reduceAdd])) | (with_reducible first | refine za ?_ ?_ | refine zb ?_ ?_ ?_ ?_ | refine zc ?_ ?_ ?_ ?_) | (with_reducible first | exact qaab | exact qaad) | ((with_reducible first | refine zga ?_ | refine zgb ?_); rfl) | ((with_reducible refine zgc ?_); (first | (with_reducible rfl) | rfl | (simp; done))) | ((with_reducible refine zgd ?_); (first | omega | (simp; done))) | (exact Co.refl _) | (exact CoL.refl _) | fail)
 rintro J hJ ⟨k, acc⟩ ⟨h1, h2, h3⟩
 unfold qajb
 simp only [zT, puth, Nat.reduceEqDiff, reduceIte, Nat.reduceAdd] at h1 h2 h3 ⊢
 rcases Nat.lt_or_ge x.cases_.length k with hk | hk
 ·obtain rfl : k = x.cases_.length + 1 := by omega
  rw [List.drop_of_length_le (by rw [qae1]; exact Nat.le_refl _)] at h3
  have h4 : F = acc := h3
  subst h4
  clear h3
  replace hF := Lib.hid hF
  have kx : decide ((x.cases_.length : Int) + 1 ≤ x.cases_.length) = false := by rw [decide_eq_false_iff_not]; omega
  repeat' (first | (with_reducible refine zA ?_) | ((with_reducible refine qaac ?_); (try rw [hP]); simp -implicitDefEqProofs [*]) | ((with_reducible refine qaak ?_); (try simp -implicitDefEqProofs [*])) | ((with_reducible refine qaam ?_); (try simp only [qaap, qaag, qaaj])) | ((with_reducible refine qaaa rfl (fun h => ?_) (fun h => ?_)) <;> have h' := h <;> (try simp at h') <;> (try subst h')) | (refine qaiv hm rfl rfl ?_ rfl) | fail)
  all_goals simp
 ·have hbm : acc.length + 1 ≤ maxLen := by unfold maxLen; omega
  have wk1 : IntKind.i64.wrap ((k : Int) + 1) = (k : Int) + 1 := qaao (by omega) (by omega)
  have hkl : k < (qac2 x).length := by rw [qae1]; omega
  rw [List.drop_eq_getElem_cons hkl] at h3
  have hta := qa4t x hk
  have hlen' : ((acc.map fun x => [SV.int .i64 x])).length = acc.length := by simp
  have hgo : ∀ (t : Int) (C : Bool) (K : Int), acc.contains K = C → K = tgt p.states.length t → (qac2 x)[k] = t → F = if (decide (K ≤ p.states.length) && !C) = true then qadv p.states.length ((qac2 x).drop (k + 1)) (acc ++ [K]) else qadv p.states.length ((qac2 x).drop (k + 1)) acc := fun t C K hC hK ht => by
   rw [h3, ht, ← hC, hK]; rfl
  have hin := fun K q => in_look acc K (by omega) 4 q
  have hrow : ∀ K, (acc.map fun x => [SV.int .i64 x]) ++ [[SV.int .i64 K]] = (acc ++ [K]).map fun x => [SV.int .i64 x] := fun K => by rw [List.map_append]; rfl
  have hal : ∀ K, (acc ++ [K]).length = acc.length + 1 := fun K => by simp
  clear h3
  replace hF := Lib.hid hF
  replace hgo := Lib.hid hgo
  replace hin := Lib.hid hin
  replace hrow := Lib.hid hrow
  have hcase : (∃ (h : k < x.cases_.length) (t : Int), x.cases_[k].to_ = t ∧ (qac2 x)[k] = t) ∨ (x.cases_.length = k ∧ ∃ t, x.els = t ∧ (qac2 x)[k] = t) := by
   by_cases hlt : k < x.cases_.length
   ·rw [dif_pos hlt] at hta; exact .inl ⟨hlt, _, rfl, hta⟩
   ·rw [dif_neg hlt] at hta; exact .inr ⟨by omega, _, rfl, hta⟩
  clear hta
  rcases hcase with ⟨hlt, t, ht, hta⟩ | ⟨hlt, t, ht, hta⟩
  all_goals
   have hK : tgt p.states.length t = if t = 1000 then (p.states.length : Int) else t := rfl
   have hE := fun C h => hgo.out t C (tgt p.states.length t) h rfl hta
   have hi4 := fun q => hin.out (tgt p.states.length t) q
   have hr4 := hrow.out (tgt p.states.length t)
   have ha4 := hal (tgt p.states.length t)
   clear hta hgo hin hrow hal
   generalize tgt p.states.length t = K at hK hE hi4 hr4 ha4
   cases hC : acc.contains K
   all_goals
    rw [hC] at hi4
    have hE2 := hE _ hC
    clear hE
    replace hC := Lib.hid hC
    replace hi4 := Lib.hid hi4
    replace hr4 := Lib.hid hr4
    cases kb : decide (K ≤ (p.states.length : Int))
    all_goals
     rw [kb] at hE2
     replace hE2 := Lib.hid hE2
     cases kt : (t == 1000)
     all_goals
      first
      | (have e : K = t := by rw [hK, if_neg (by simpa using kt)]
         subst e)
      | (have e : K = (p.states.length : Int) := by rw [hK, if_pos (by simpa using kt)]
         subst e)
      replace hK := Lib.hid hK
      try (exfalso; simp at kb; done)
     all_goals
      repeat' (first | (with_reducible first | refine zA ?_ | refine qaae ?_) | ((with_reducible refine qaac ?_); (try rw [hP]); simp -implicitDefEqProofs [*]) | ((with_reducible refine qaaf ?_); (try simp -implicitDefEqProofs [*])) | ((with_reducible refine qaaa rfl (fun h => ?_) (fun h => ?_)) <;> have h' := h <;> (try simp at h') <;> (try subst h')) | ((with_reducible refine qabo ?_ ?_); (first | omega | (unfold maxLen; omega)); simp -implicitDefEqProofs [*]) | (refine call_r (hi4.out _) ⟨rfl, trivial⟩ ⟨rfl, trivial⟩ ?_; simp -implicitDefEqProofs [*]) | fail)
      first
      | (refine qaai hJ (k + 1, acc) ?_ (And.intro ?_ (And.intro ?_ hE2.out)) ?_
         rotate_left
         (focus (dsimp only; omega))
         (focus (dsimp only; omega))
         (focus (dsimp only; omega))
         (with_reducible refine qaah [] hm ?_ ?_ ?_ ?_) <;> (try simp only [zT, puth, Nat.reduceEqDiff, reduceIte, Nat.reduceAdd]))
      | (refine qaai hJ (k + 1, acc ++ [_]) ?_ (And.intro ?_ (And.intro ?_ hE2.out)) ?_
         rotate_left
         (focus (dsimp only; omega))
         (focus (dsimp only; omega))
         (focus (dsimp only; omega))
         (with_reducible refine qaah [(4, ?_)] hm ?_ ?_ ?_ ?_) <;> (try simp only [zT, puth, Nat.reduceEqDiff, reduceIte, Nat.reduceAdd]))
      all_goals (try simp only [List.length_append, List.length_cons, List.length_nil, Nat.zero_add])
      repeat' (first | (with_reducible first | refine za ?_ ?_ | refine zb ?_ ?_ ?_ ?_ | refine zc ?_ ?_ ?_ ?_) | (with_reducible first | exact qaab | exact qaad) | ((with_reducible first | refine zga ?_ | refine zgb ?_); rfl) | ((with_reducible refine zgc ?_); (first | (with_reducible rfl) | rfl | (simp; done))) | ((with_reducible refine zgd ?_); (first | omega | (simp; done))) | (exact Co.refl _) | (exact CoL.refl _) | fail)
      all_goals (exact hr4.out)
end Go.Proofs.YteoijlmgiemffaaGreat
namespace Go.Proofs.YteoijlmgiemffaaGreat
set_option linter.all false
open Go.RowKit
structure WayD where
 st : Nat
 taken : BitVec 64
 bytes : Int
def wayc (w : WayD) : List SV := [.int .i64 w.st, .int .u64 w.taken.toNat, .int .i64 w.bytes]
def qakf (p : PlanD) (w : WayD) : List WayD := if h : w.st < p.states.length then (qaii p p.states[w.st]).map (fun k => ⟨k.toNat, (qasj p p.states[w.st].head (w.taken, w.bytes)).1, (qasj p p.states[w.st].head (w.taken, w.bytes)).2⟩) else []
def qakh (p : PlanD) : Nat → List WayD → Nat → List WayD
 | 0, out, _ => out
 | f + 1, out, i => if h : i < out.length then qakh p f (out ++ qakf p out[i]) (i + 1) else out
def gs : List Nat → Nat
 | [] => 0
 | x :: l => 2 ^ x + gs l
theorem qas5 : ∀ a b, gs (a ++ b) = gs a + gs b
 | [], b => by simp [gs]
 | x :: a, b => by simp only [List.cons_append, gs, qas5 a b]; omega
theorem gs_len : ∀ l, l.length ≤ gs l
 | [] => Nat.le_refl _
 | x :: l => by have := gs_len l; have := Nat.one_le_two_pow (n := x); simp only [List.length_cons, gs]; omega
theorem qa57 (m : Nat) : ∀ l, m ∈ l → gs l = 2 ^ m + gs (l.erase m)
 | [], h => by cases h
 | x :: l, h => by
  by_cases e : x = m
  ·subst e; simp [gs]
  ·have h2 : m ∈ l := by rcases List.mem_cons.1 h with q | q; exact absurd q.symm e; exact q
   rw [List.erase_cons_tail (by simpa using e)]
   simp only [gs]
   rw [qa57 m l h2]; omega
theorem gs_lt : ∀ (m : Nat) (l : List Nat), l.Nodup → (∀ x ∈ l, x < m) → gs l < 2 ^ m
 | 0, l, _, h => by
  have : l = [] := by
   cases l with
   | nil => rfl
   | cons x l => exact absurd (h x (by simp)) (by omega)
  subst this; simp [gs]
 | m + 1, l, hn, h => by
  rw [Nat.pow_succ]
  by_cases hm : m ∈ l
  ·rw [qa57 m l hm]
   have := gs_lt m (l.erase m) (hn.erase m) (fun x hx => by
    have h1 := h x (List.mem_of_mem_erase hx)
    have h2 : x ≠ m := fun e => by subst e; exact (List.Nodup.not_mem_erase hn) hx
    omega)
   omega
  ·have := gs_lt m l hn (fun x hx => by
    have h1 := h x hx
    have h2 : x ≠ m := fun e => by subst e; exact hm hx
    omega)
   omega
def phi (p : PlanD) (l : List WayD) : Nat := gs (l.map fun w => p.states.length - w.st)
theorem qa5y {p : PlanD} {s : StateD} {k : Int} : k ∈ qaii p s ↔ (k ≤ p.states.length ∧ ∃ t ∈ qac2 s, tgt p.states.length t = k) := by
 unfold qaii; rw [qagk]; simp
theorem qaf9 {p : PlanD} (hp : PlOk p) {i : Nat} (hi : i < p.states.length) {k : Int} (hk : k ∈ qaii p p.states[i]) : (i : Int) < k ∧ k ≤ p.states.length ∧ Leads p p.states[i] k.toNat := by
 obtain ⟨h1, t, h2, h3⟩ := qa5y.1 hk
 have := qbeb (hp.ok i hi) hi hp.states.2 h2
 refine ⟨by omega, h1, by omega, t, h2, by omega⟩
theorem qahv {α β : Type} {f : α → β} : ∀ {l : List α}, (∀ a ∈ l, ∀ b ∈ l, f a = f b → a = b) → l.Nodup → (l.map f).Nodup
 | [], _, _ => by simp
 | x :: l, h, hn => by
  rw [List.nodup_cons] at hn
  rw [List.map_cons, List.nodup_cons]
  refine ⟨fun hm => ?_, qahv (fun a ha b hb e => h a (by simp [ha]) b (by simp [hb]) e) hn.2⟩
  obtain ⟨y, hy, e⟩ := List.mem_map.1 hm
  have := h x (by simp) y (by simp [hy]) e.symm
  exact hn.1 (by rw [this]; exact hy)
theorem qbi3 {p : PlanD} (hp : PlOk p) (w : WayD) : phi p (qakf p w) < 2 ^ (p.states.length - w.st) := by
 unfold phi qakf
 by_cases h : w.st < p.states.length
 ·rw [dif_pos h, List.map_map]
  refine gs_lt _ _ ?_ ?_
  ·refine qahv (fun a ha b hb e => ?_) (qaew _ _ _ (by simp))
   have h1 := qaf9 hp h ha
   have h2 := qaf9 hp h hb
   simp only [Function.comp] at e
   omega
  ·intro x hx
   obtain ⟨k, hk, rfl⟩ := List.mem_map.1 hx
   have h1 := qaf9 hp h hk
   simp only [Function.comp]; omega
 ·rw [dif_neg h]; simp [gs]; exact Nat.two_pow_pos _
structure InvW (p : PlanD) (out : List WayD) (i : Nat) : Prop where
 sound : ∀ w ∈ out, w.st ≤ p.states.length ∧ RW p w.st w.st (w.taken, w.bytes)
 le : i ≤ out.length
 fin : i + phi p (out.drop i) ≤ 256
 start : (⟨0, 0, 0⟩ : WayD) ∈ out
 closed : ∀ (j : Nat) (hj : j < out.length), j < i → ∀ v ∈ qakf p out[j], v ∈ out
theorem qa5w {p : PlanD} (hp : PlOk p) {w : WayD} (h : RW p w.st w.st (w.taken, w.bytes)) {v : WayD} (hv : v ∈ qakf p w) : v.st ≤ p.states.length ∧ RW p v.st v.st (v.taken, v.bytes) := by
 unfold qakf at hv
 by_cases hs : w.st < p.states.length
 ·rw [dif_pos hs] at hv
  obtain ⟨k, hk, rfl⟩ := List.mem_map.1 hv
  have h1 := qaf9 hp hs hk
  refine ⟨by show k.toNat ≤ _; omega, ?_⟩
  show RW p k.toNat k.toNat _
  have h2 : RW p (w.st + 1) k.toNat (qasj p p.states[w.st].head (w.taken, w.bytes)) := .inr ⟨hs, _, h, h1.2.2, rfl⟩
  have stay : ∀ j, w.st + 1 ≤ j → j ≤ p.states.length → ∀ k y, RW p (w.st + 1) k y → RW p j k y := by
   intro j
   induction j with
   | zero => intro h; omega
   | succ j ih =>
    intro h3 h4 k y h5
    by_cases e : w.st + 1 = j + 1
    ·rw [← e]; exact h5
    ·exact .inl (ih (by omega) (by omega) k y h5)
  exact stay k.toNat (by omega) (by omega) _ _ h2
 ·rw [dif_neg hs] at hv; cases hv
theorem qaj1 {p : PlanD} (hp : PlOk p) : InvW p [⟨0, 0, 0⟩] 0 := by
 refine ⟨fun w hw => ?_, by simp, ?_, by simp, fun j _ hj => by omega⟩
 ·rw [List.mem_singleton.1 hw]; exact ⟨by simp, rfl, rfl⟩
 ·have := hp.states.2
  have h2 : 2 ^ p.states.length ≤ 2 ^ 8 := Nat.pow_le_pow_right (by omega) this
  simp [phi, gs]; omega
theorem qa54 {p : PlanD} (hp : PlOk p) {out : List WayD} {i : Nat} (h : InvW p out i) (hi : i < out.length) : InvW p (out ++ qakf p out[i]) (i + 1) ∧ phi p ((out ++ qakf p out[i]).drop (i + 1)) < phi p (out.drop i) := by
 have hw := h.sound out[i] (List.getElem_mem hi)
 have hd : (out ++ qakf p out[i]).drop (i + 1) = out.drop (i + 1) ++ qakf p out[i] := by rw [List.drop_append_of_le_length (by omega)]
 have hph : phi p (out.drop i) = 2 ^ (p.states.length - out[i].st) + phi p (out.drop (i + 1)) := by
  unfold phi; rw [List.drop_eq_getElem_cons hi]; rfl
 have hph2 : phi p ((out ++ qakf p out[i]).drop (i + 1)) = phi p (out.drop (i + 1)) + phi p (qakf p out[i]) := by
  rw [hd]; unfold phi; rw [List.map_append, qas5]
 have hlt := qbi3 hp out[i]
 refine ⟨⟨fun w hw' => ?_, by simp; omega, by have := h.fin; omega, List.mem_append_left _ h.start, fun j hj hj2 v hv => ?_⟩, by omega⟩
 ·rcases List.mem_append.1 hw' with q | q
  ·exact h.sound w q
  ·exact qa5w hp hw.2 q
 ·have hjl : j < out.length := by omega
  rw [List.getElem_append_left hjl] at hv
  by_cases e : j = i
  ·subst e; exact List.mem_append_right _ hv
  ·exact List.mem_append_left _ (h.closed j hjl (by omega) v hv)
theorem qbh3 {p : PlanD} {out : List WayD} {i : Nat} (h : InvW p out i) : out.length ≤ 256 := by
 have h1 := h.fin
 have h2 := gs_len ((out.drop i).map fun w => p.states.length - w.st)
 rw [List.length_map, List.length_drop] at h2
 unfold phi at h1; have := h.le; omega
def qa4q (p : PlanD) : List WayD := qakh p 257 [⟨0, 0, 0⟩] 0
theorem qa4p {p : PlanD} (hp : PlOk p) : ∀ f out i, InvW p out i → phi p (out.drop i) < f → ∃ j, InvW p (qakh p f out i) j ∧ (qakh p f out i).length ≤ j
 | 0, out, i, _, h => by omega
 | f + 1, out, i, h, hf => by
  unfold qakh
  by_cases hi : i < out.length
  ·rw [dif_pos hi]
   obtain ⟨h1, h2⟩ := qa54 hp h hi
   exact qa4p hp f _ _ h1 (by omega)
  ·rw [dif_neg hi]; exact ⟨i, h, by omega⟩
theorem qanj {p : PlanD} (hp : PlOk p) : ∃ j, InvW p (qa4q p) j ∧ (qa4q p).length ≤ j := qa4p hp 257 _ 0 (qaj1 hp) (by have := (qaj1 hp).fin; omega)
theorem ways_rw {p : PlanD} (hp : PlOk p) {k : Nat} (hk : k ≤ p.states.length) (y : TB) : (∃ w ∈ qa4q p, w.st = k ∧ y = (w.taken, w.bytes)) ↔ RW p p.states.length k y := by
 obtain ⟨j, h, hj⟩ := qanj hp
 have stay := qa46 hp (k := k) p.states.length hk (Nat.le_refl _) y
 constructor
 ·rintro ⟨w, hw, e1, e2⟩
  have := (h.sound w hw).2
  rw [stay, ← e1, e2]; exact this
 ·have main : ∀ i k y, i ≤ p.states.length → k ≤ p.states.length → RW p i k y → ∃ w ∈ qa4q p, w.st = k ∧ y = (w.taken, w.bytes) := by
   intro i
   induction i with
   | zero => intro k y _ _ hr; exact ⟨_, h.start, hr.1.symm, hr.2⟩
   | succ i ih =>
    intro k y hi hk hr
    rcases hr with hr | ⟨hlt, z, h1, h2, h3⟩
    ·exact ih k y (by omega) hk hr
    ·obtain ⟨w, hw, e1, e2⟩ := ih i z (by omega) (by omega) h1
     obtain ⟨m, hm, e3⟩ := List.getElem_of_mem hw
     refine ⟨⟨k, y.1, y.2⟩, h.closed m hm (by omega) _ ?_, rfl, rfl⟩
     rw [e3]
     unfold qakf
     rw [dif_pos (by omega)]
     subst e1
     refine List.mem_map.2 ⟨(k : Int), qa5y.2 ⟨by have := h2.1; omega, h2.2⟩, ?_⟩
     rw [h3, e2]; rfl
  exact main _ _ _ (Nat.le_refl _) hk
end Go.Proofs.YteoijlmgiemffaaGreat
namespace Go.Proofs.YteoijlmgiemffaaGreat
set_option linter.all false
open Go.RowKit
attribute [local simp] qabi qabh qaax qaa7 qaay qaa6 qabf qabg qaar qabr SOp.run SX.ev putd puts argS upds SOp.touch SSt.keep SSt.skip gets geth puth delh idOf SV.cells? setL qadh qadi sbin eq0 eq1 eqL qadf qab9 qaca qaap qabk qaag qabl qabs qaaj qaaq FrzOk qaba qaa1 qaa8 qaa9 qaat qaa0 qabm qaa2 qaav qabb qaau frzS frzH frz frz1 frz0 SlotsM ObjsM ObjM rn ren ren1 ren0 qabu qab7 qacf qabt qabn qacg qace CoL qabc qab3 dels adds idsH qabz
attribute [local simp] qadt refc qaes qaei qab8 opc actc tabc qaea qacm nums wayc
instance : PureF wayc := ⟨fun _ _ => rfl, fun _ => rfl, fun _ => qab4 _ rfl⟩
theorem qat4 (h : Int) (h0 : 0 ≤ h) (h1 : h < 64) (q : Nat) : SCalls Tryz.prog 52 [.int .i64 h] [] q (.int .u64 (bitB h).toNat) [] := by
 refine qabj ?_ (fun _ => rfl) (fun _ => rfl) rfl q
 refine qaas (N := 6) Tryz.func52 rfl rfl (by kernel_rfl) qaui (by simp) (by repeat' (first | exact trivial | refine And.intro ?_ ?_ | rfl | decide | exact PureR.ren _)) (by repeat' (first | exact trivial | refine And.intro ?_ ?_ | rfl | decide | exact PureR.ren _)) ?_
 rintro X hP hN hm
 unfold c_rbit
 have e := qa42 h0 h1
 rw [Int.one_mul] at e
 have e2 : IntKind.u64.wrap h = h := qaki (by omega) (by omega)
 repeat' (first | (with_reducible refine zA ?_) | ((with_reducible refine qaac ?_); (try rw [hP]); simp -implicitDefEqProofs [*]) | ((with_reducible refine qaam ?_); (try simp only [qaap, qaag, qaaj])) | (with_reducible refine zM hm ?_) | fail)
 all_goals rfl
set_option maxHeartbeats 4000000 in
theorem rways_s (p : PlanD) (hp : PlOk p) (q : Nat) : SCalls Tryz.prog 51 [.agg (qacm p)] [] q (.view 3 ((qa4q p).map wayc)) [] := by
 refine qabj ?_ (fun _ => rfl) (fun _ => rfl) rfl q
 refine qaas (N := 83) Tryz.func51 rfl rfl (by kernel_rfl) qaoa (by simp) (by repeat' (first | exact trivial | refine And.intro ?_ ?_ | rfl | decide | exact PureR.ren _)) (by repeat' (first | exact trivial | refine And.intro ?_ ?_ | rfl | decide | exact PureR.ren _)) ?_
 rintro X hP hN hm
 have hn := hp.states.2
 have hF : qa4q p = qakh p 257 [⟨0, 0, 0⟩] 0 := rfl
 generalize qa4q p = F at hF
 have hi0 := qaj1 hp
 have hph0 : phi p ([⟨0, 0, 0⟩].drop 0) < 257 := by have := hi0.fin; omega
 replace hF := Lib.hid hF
 replace hi0 := Lib.hid hi0
 replace hph0 := Lib.hid hph0
 unfold c_rways
 repeat' (first | (with_reducible refine zA ?_) | ((with_reducible refine qaac ?_); (try rw [hP]); simp -implicitDefEqProofs [*]) | fail)
 refine qaal (qaa5 (fun s (z : Nat × List WayD × Nat) => s.turn [(3, .own 3 z.2.1.length), (4, .int .i64 z.2.2)] [(3, .row 137 3 (z.2.1.map wayc))]) (fun z => InvW p z.2.1 z.2.2 ∧ phi p (z.2.1.drop z.2.2) < z.1 ∧ F = qakh p z.1 z.2.1 z.2.2) (fun z => z.1) (257, [⟨0, 0, 0⟩], 0) ?_ ⟨hi0.out, hph0.out, hF.out⟩ ?_)
 ·repeat' (first | ((with_reducible refine qaah [] hm ?_ ?_ ?_ ?_) <;> (try simp only [zT, puth, Nat.reduceEqDiff, reduceIte, Nat.reduceAdd])) | (with_reducible first | refine za ?_ ?_ | refine zb ?_ ?_ ?_ ?_ | refine zc ?_ ?_ ?_ ?_) | (with_reducible first | exact qaab | exact qaad) | ((with_reducible first | refine zga ?_ | refine zgb ?_); rfl) | ((with_reducible refine zgc ?_); (first | (with_reducible rfl) | rfl | (simp; done))) | ((with_reducible refine zgd ?_); (first | omega | (simp; done))) | (exact Co.refl _) | (exact CoL.refl _) | fail)
 rintro J hJ ⟨f, out, i⟩ ⟨hI, hf, hFz⟩
 have hJo := hJ
 unfold qalp
 simp only [zT, puth, Nat.reduceEqDiff, reduceIte, Nat.reduceAdd] at hI hf hFz ⊢
 clear hF hi0 hph0
 have hol := qbh3 hI
 have hil := hI.le
 obtain ⟨f, rfl⟩ : ∃ f', f = f' + 1 := ⟨f - 1, by omega⟩
 have hmapl : (out.map wayc).length = out.length := by simp
 have wi : IntKind.i64.wrap ((i : Int) + 1) = (i : Int) + 1 := qaao (by omega) (by omega)
 rcases Nat.lt_or_ge i out.length with hi | hi
 ·have hst := qa54 hp hI hi
  have hFs : F = qakh p f (out ++ qakf p out[i]) (i + 1) := by
   rw [hFz]; show (if h : i < out.length then _ else _) = _; rw [dif_pos hi]
  have hsw := hI.sound out[i] (List.getElem_mem hi)
  have hrin := rw_in hp _ _ _ hsw.2
  have hget : out[i]? = some out[i] := List.getElem?_eq_getElem hi
  clear hFz hI
  generalize hww : out[i] = w at hst hFs hsw hrin hget
  simp only at hrin
  by_cases hs : w.st = p.states.length
  ·have hnx : qakf p w = [] := by unfold qakf; rw [dif_neg (by omega)]
   rw [hnx, List.append_nil] at hst hFs
   have ks : ((w.st : Int) == (p.states.length : Int)) = true := by rw [beq_iff_eq]; omega
   replace hs := Lib.hid hs
   replace hst := Lib.hid hst
   replace hFs := Lib.hid hFs
   replace hsw := Lib.hid hsw
   replace hp := Lib.hid hp
   repeat' (first | (with_reducible first | refine zA ?_ | refine qaae ?_) | ((with_reducible refine qaac ?_); (try rw [hP]); simp -implicitDefEqProofs [*]) | ((with_reducible first | refine qaaf ?_ | refine qaak ?_); (try simp -implicitDefEqProofs [*])) | ((with_reducible refine qaaa rfl (fun h => ?_) (fun h => ?_)) <;> have h' := h <;> (try simp at h') <;> (try subst h')) | (with_reducible first | refine za ?_ ?_ | refine zb ?_ ?_ ?_ ?_ | refine zc ?_ ?_ ?_ ?_) | (with_reducible first | exact qaab | exact qaad) | ((with_reducible first | refine zga ?_ | refine zgb ?_); rfl) | ((with_reducible refine zgc ?_); (first | (with_reducible rfl) | rfl | (simp; done))) | ((with_reducible first | refine zgd ?_ | refine zge ?_); (first | omega | (simp; done))) | (exact Co.refl _) | (exact CoL.refl _) | ((refine qaai hJ (f, out, i + 1) ?_ ?_ ?_; (with_reducible refine qaah [] hm ?_ ?_ ?_ ?_) <;> (try simp only [zT, puth, Nat.reduceEqDiff, reduceIte, Nat.reduceAdd]))) | fail)
   all_goals (exact ⟨hst.out.1, by have := hst.out.2; dsimp only; omega, hFs.out⟩)
  ·have hsl : w.st < p.states.length := by have := hsw.1; omega
   have ks : ((w.st : Int) == (p.states.length : Int)) = false := by rw [beq_eq_false_iff_ne]; omega
   have ok := hp.ok w.st hsl
   have hh := ok.head
   have hh6 := hp.heads
   have hleads := fun q => qbiy p hp w.st hsl q
   have hpos := fun k hk => qaf9 hp hsl (k := k) hk
   have hnx : qakf p w = (qaii p p.states[w.st]).map (fun k => ⟨k.toNat, (qasj p p.states[w.st].head (w.taken, w.bytes)).1, (qasj p p.states[w.st].head (w.taken, w.bytes)).2⟩) := by unfold qakf; rw [dif_pos hsl]
   have hll : (qaii p p.states[w.st]).length ≤ 5 := by
    have := qagl p.states.length (qac2 p.states[w.st]) []
    rw [qae1] at this
    have h4 := ok.cases_
    show (qadv _ _ _).length ≤ 5
    simp at this; omega
   clear ok
   generalize hxx : p.states[w.st] = x at hh hleads hpos hnx hll
   generalize qaii p x = l at hleads hpos hnx hll
   obtain ⟨⟨TK, BY⟩, hT⟩ : ∃ z, qasj p x.head (w.taken, w.bytes) = z := ⟨_, rfl⟩
   rw [hT] at hnx
   simp only at hnx
   rw [hnx] at hst hFs
   have tail : SWp X (SCode.seq (SCode.reg false qafb [1, 3, 4, 5, 9]) (SCode.seq (SCode.reg false qafa [1, 3, 4, 5, 9, 10]) (SCode.block 2 (SCode.loop qaey)))) (qake 1 (QSeq X (SCode.reg false qai6 [1, 3, 4]) (qbk4 X J (f + 1) (qake 0 (QSeq X ((SCode.reg false qai5 [2]).seq SCode.ret) (QFun X [ResultVar.tmp 2] 0 (SV.view 3 (List.map wayc F)) []))))))
     ⟨[(1, .ptr 0 0), (3, .own 3 out.length), (4, .int .i64 i), (5, .ptr 14 0)], [(0, .cells 33 (qacm p)), (3, .row 137 3 (out.map wayc)), (14, .cells 137 [.int .i64 w.st, .int .u64 TK.toNat, .int .i64 BY])], 15⟩ := by
    replace hst := Lib.hid hst
    replace hFs := Lib.hid hFs
    replace hleads := Lib.hid hleads
    replace hpos := Lib.hid hpos
    replace hp := Lib.hid hp
    clear hnx hs hT hsw hww hget ks
    repeat' (first | (with_reducible refine zA ?_) | ((with_reducible refine qaac ?_); (try rw [hP]); simp -implicitDefEqProofs [*]) | (refine qaaw (hleads.out _) ?_; simp -implicitDefEqProofs [*]) | fail)
    refine qaal (qaa5 (fun s (k : Nat) => s.turn [(3, .own 3 (out.length + k)), (10, .int .i64 k)] [(3, .row 137 3 ((out ++ (l.take k).map (fun k => (⟨k.toNat, TK, BY⟩ : WayD))).map wayc))]) (fun k => k ≤ l.length) (fun k => l.length - k) 0 ?_ (by simp) ?_)
    ·repeat' (first | ((with_reducible refine qaah [] hm ?_ ?_ ?_ ?_) <;> (try simp only [zT, puth, Nat.reduceEqDiff, reduceIte, Nat.reduceAdd])) | (with_reducible first | refine za ?_ ?_ | refine zb ?_ ?_ ?_ ?_ | refine zc ?_ ?_ ?_ ?_) | (with_reducible first | exact qaab | exact qaad) | ((with_reducible first | refine zga ?_ | refine zgb ?_); rfl) | ((with_reducible refine zgc ?_); (first | (with_reducible rfl) | rfl | (simp; done))) | ((with_reducible refine zgd ?_); (first | omega | (simp; done))) | (exact Co.refl _) | (exact CoL.refl _) | fail)
     all_goals simp
    rintro J hJ k hk
    unfold qaey
    simp only [zT, puth, Nat.reduceEqDiff, reduceIte, Nat.reduceAdd]
    have hlen2 : ((out ++ (l.take k).map (fun k => (⟨k.toNat, TK, BY⟩ : WayD))).map wayc).length = out.length + k := by simp; omega
    have hb2 : out.length + k + 1 ≤ maxLen := by unfold maxLen; omega
    rcases Nat.lt_or_ge k l.length with h2 | h2
    ·have wk2 : IntKind.i64.wrap ((k : Int) + 1) = (k : Int) + 1 := qaao (by omega) (by omega)
     have hrow2 : (out ++ (l.take k).map (fun k => (⟨k.toNat, TK, BY⟩ : WayD))).map wayc ++ [[.int .i64 l[k], .int .u64 TK.toNat, .int .i64 BY]] = (out ++ (l.take (k + 1)).map (fun k => (⟨k.toNat, TK, BY⟩ : WayD))).map wayc := by
      have := hpos.out l[k] (List.getElem_mem h2)
      rw [List.take_succ_eq_append_getElem h2]
      simp only [List.map_append, List.append_assoc]
      congr 2
      show _ = [[SV.int .i64 ((l[k].toNat : Nat) : Int), _, _]]
      rw [show ((l[k].toNat : Nat) : Int) = l[k] by omega]
     generalize hy : l[k] = y at hrow2
     replace hrow2 := Lib.hid hrow2
     generalize hRR : (out ++ (l.take k).map (fun k => (⟨k.toNat, TK, BY⟩ : WayD))).map wayc = RR at hlen2 hrow2
     repeat' (first | (with_reducible first | refine zA ?_ | refine qaeh ?_ | refine zK ?_) | ((with_reducible first | refine qaac ?_ | refine qaaz (by rw [hP]; exact qacz) ?_); (try rw [hP]); simp -implicitDefEqProofs [*]) | ((with_reducible refine qaaf ?_); (try simp -implicitDefEqProofs [*])) | ((with_reducible refine qaaa rfl (fun h => ?_) (fun h => ?_)) <;> have h' := h <;> (try simp at h') <;> (try subst h')) | ((with_reducible refine qabo ?_ ?_); (first | omega | (unfold maxLen; omega)); simp -implicitDefEqProofs [*]) | (with_reducible first | refine za ?_ ?_ | refine zb ?_ ?_ ?_ ?_ | refine zc ?_ ?_ ?_ ?_) | (with_reducible first | exact qaab | exact qaad) | ((with_reducible first | refine zga ?_ | refine zgb ?_); rfl) | ((with_reducible first | refine zgd ?_ | refine zge ?_); (first | omega | (simp; done))) | (exact Co.refl _) | (exact CoL.refl _) | ((refine qaai hJ (k + 1) ?_ ?_ ?_; (with_reducible refine qaah [(3, ?_)] hm ?_ ?_ ?_ ?_) <;> (try simp only [zT, puth, Nat.reduceEqDiff, reduceIte, Nat.reduceAdd]))) | fail)
     all_goals (exact hrow2.out)
    ·obtain rfl : k = l.length := by omega
     rw [List.take_length]
     repeat' (first | (with_reducible refine zA ?_) | ((with_reducible refine qaac ?_); (try rw [hP]); simp -implicitDefEqProofs [*]) | ((with_reducible refine qaak ?_); (try simp -implicitDefEqProofs [*])) | ((with_reducible refine qaaa rfl (fun h => ?_) (fun h => ?_)) <;> have h' := h <;> (try simp at h') <;> (try subst h')) | (with_reducible first | refine za ?_ ?_ | refine zb ?_ ?_ ?_ ?_ | refine zc ?_ ?_ ?_ ?_) | (with_reducible first | exact qaab | exact qaad) | ((with_reducible first | refine zga ?_ | refine zgb ?_); rfl) | ((with_reducible refine zgc ?_); (first | (with_reducible rfl) | rfl | (simp; done))) | ((with_reducible first | refine zgd ?_ | refine zge ?_); (first | omega | (simp; done))) | (exact Co.refl _) | (exact CoL.refl _) | ((refine qaai hJo (f, out ++ l.map (fun k => (⟨k.toNat, TK, BY⟩ : WayD)), i + 1) ?_ ?_ ?_; (with_reducible refine qaah [] hm ?_ ?_ ?_ ?_) <;> (try simp only [zT, puth, Nat.reduceEqDiff, reduceIte, Nat.reduceAdd]))) | fail)
     all_goals first | (rw [show (out ++ l.map (fun k => (⟨k.toNat, TK, BY⟩ : WayD))).length = out.length + l.length by simp]; exact Co.refl _) | (exact ⟨hst.out.1, by have := hst.out.2; dsimp only; omega, hFs.out⟩)
   replace tail := Lib.hid tail
   replace hst := Lib.hid hst
   replace hFs := Lib.hid hFs
   replace hsw := Lib.hid hsw
   replace hleads := Lib.hid hleads
   replace hpos := Lib.hid hpos
   clear hnx hs
   cases kh : decide (0 ≤ x.head)
   ·have hT2 : (w.taken, w.bytes) = (TK, BY) := by rw [← hT]; unfold qasj; rw [if_neg (of_decide_eq_false kh)]
    have hTK : w.taken = TK := (Prod.mk.inj hT2).1
    have hBY : w.bytes = BY := (Prod.mk.inj hT2).2
    replace hp := Lib.hid hp
    replace hT := Lib.hid hT
    clear hT2
    repeat' (first | ((with_reducible refine qacr (c := .seq (.reg false qafb [1, 3, 4, 5, 9]) (.seq (.reg false qafa [1, 3, 4, 5, 9, 10]) (.block 2 (.loop qaey)))) ?_)) | (with_reducible first | refine zA ?_ | refine qaae ?_) | ((with_reducible refine qaac ?_); (try rw [hP]); simp -implicitDefEqProofs [*]) | ((with_reducible refine qaaf ?_); (try simp -implicitDefEqProofs [*])) | ((with_reducible refine qaaa rfl (fun h => ?_) (fun h => ?_)) <;> have h' := h <;> (try simp at h') <;> (try subst h')) | fail)
    constructor
    refine qaco ?_ tail.out
    repeat' (first | ((with_reducible refine qaah [] hm ?_ ?_ ?_ ?_) <;> (try simp only [zT, puth, Nat.reduceEqDiff, reduceIte, Nat.reduceAdd])) | (with_reducible first | refine za ?_ ?_ | refine zb ?_ ?_ ?_ ?_ | refine zc ?_ ?_ ?_ ?_) | (with_reducible first | exact qaab | exact qaad) | ((with_reducible first | refine zga ?_ | refine zgb ?_); rfl) | ((with_reducible refine zgc ?_); (first | (with_reducible rfl) | rfl | (simp; done))) | ((with_reducible refine zgd ?_); (first | omega | (simp; done))) | (exact Co.refl _) | (exact CoL.refl _) | fail)
   ·have hh0 := of_decide_eq_true kh
    have hS2 := qany hp hh0 hh.2
    have hT2 : (w.taken ||| bitB x.head, w.bytes + qaif p x.head) = (TK, BY) := by rw [← hT]; unfold qasj; rw [if_pos hh0]
    have hTK : w.taken ||| bitB x.head = TK := (Prod.mk.inj hT2).1
    have hBY : IntKind.i64.wrap (w.bytes + qaif p x.head) = BY := by rw [← (Prod.mk.inj hT2).2]; exact qaao (by omega) (by omega)
    have hlt : x.head.toNat < p.heads.length := by omega
    have hsz : headW p x.head = p.heads[x.head.toNat].w := by unfold headW; rw [List.getElem?_eq_getElem hlt]; rfl
    have hcs := fun q => qbhj p.heads[x.head.toNat].w q
    rw [← hsz] at hcs
    unfold qanf at hcs
    rw [show qasm (headW p x.head) = qaif p x.head from rfl] at hcs
    generalize qaif p x.head = N at hBY hcs hT2
    have hbh := fun q => qat4 x.head hh0 (by omega) q
    generalize hq1 : p.heads[x.head.toNat] = hd at hsz
    have hsz2 : hd.w = headW p x.head := hsz.symm
    generalize headW p x.head = ws at hcs hsz2
    clear hT2 hS2 hsz
    replace hT := Lib.hid hT
    replace hp := Lib.hid hp
    replace hcs := Lib.hid hcs
    replace hbh := Lib.hid hbh
    repeat' (first | ((with_reducible refine qacr (c := .seq (.reg false qafb [1, 3, 4, 5, 9]) (.seq (.reg false qafa [1, 3, 4, 5, 9, 10]) (.block 2 (.loop qaey)))) ?_)) | (with_reducible first | refine zA ?_ | refine qaae ?_ | refine zK ?_) | ((with_reducible first | refine qaac ?_ | refine qaaz (by rw [hP]; exact qacz) ?_); (try rw [hP]); simp -implicitDefEqProofs [-BitVec.toNat_and, -BitVec.toNat_or, qabq, *]) | ((with_reducible refine qaaf ?_); (try simp -implicitDefEqProofs [-BitVec.toNat_and, -BitVec.toNat_or, qabq, *])) | ((with_reducible refine qaaa rfl (fun h => ?_) (fun h => ?_)) <;> have h' := h <;> (try simp at h') <;> (try subst h')) | ((first | refine qaaw (hcs.out _) ?_ | refine qaaw (hbh.out _) ?_); simp -implicitDefEqProofs [-BitVec.toNat_and, -BitVec.toNat_or, qabq, *]) | fail)
    constructor
    refine qaco ?_ tail.out
    repeat' (first | ((with_reducible refine qaah [] hm ?_ ?_ ?_ ?_) <;> (try simp only [zT, puth, Nat.reduceEqDiff, reduceIte, Nat.reduceAdd])) | (with_reducible first | refine za ?_ ?_ | refine zb ?_ ?_ ?_ ?_ | refine zc ?_ ?_ ?_ ?_) | (with_reducible first | exact qaab | exact qaad) | ((with_reducible first | refine zga ?_ | refine zgb ?_); rfl) | ((with_reducible refine zgc ?_); (first | (with_reducible rfl) | rfl | (simp; done))) | ((with_reducible refine zgd ?_); (first | omega | (simp; done))) | (exact Co.refl _) | (exact CoL.refl _) | fail)
 ·have hie : i = out.length := by omega
  have hFe : F = out := by
   rw [hFz]; show (if h : i < out.length then _ else _) = _; rw [dif_neg (by omega)]
  subst hFe hie
  clear hFz
  replace hI := Lib.hid hI
  replace hp := Lib.hid hp
  repeat' (first | (with_reducible refine zA ?_) | ((with_reducible refine qaac ?_); (try rw [hP]); simp -implicitDefEqProofs [*]) | ((with_reducible refine qaak ?_); (try simp -implicitDefEqProofs [*])) | ((with_reducible refine qaam ?_); (try simp only [qaap, qaag, qaaj])) | ((with_reducible refine qaaa rfl (fun h => ?_) (fun h => ?_)) <;> have h' := h <;> (try simp at h') <;> (try subst h')) | (refine qaiv hm rfl rfl ?_ rfl) | fail)
  all_goals simp
end Go.Proofs.YteoijlmgiemffaaGreat
namespace Go.Proofs.YteoijlmgiemffaaGreat
set_option linter.all false
open Go.RowKit
attribute [local simp] qabi qabh qaax qaa7 qaay qaa6 qabf qabg qaar qabr SOp.run SX.ev putd puts argS upds SOp.touch SSt.keep SSt.skip gets geth puth delh idOf SV.cells? setL qadh qadi sbin eq0 eq1 eqL qadf qab9 qaca qaap qabk qaag qabl qabs qaaj qaaq FrzOk qaba qaa1 qaa8 qaa9 qaat qaa0 qabm qaa2 qaav qabb qaau frzS frzH frz frz1 frz0 SlotsM ObjsM ObjM rn ren ren1 ren0 qabu qab7 qacf qabt qabn qacg qace CoL qabc qab3 dels adds idsH qabz
attribute [local simp] qadt refc qaes qaei qab8 opc actc tabc qaea qacm nums
theorem qbjz (p : PlanD) (hs : SmallP p) (hk : qaha p) (q : Nat) : SCalls Tryz.prog 25 [.agg (qacm p)] [] q (.agg [.int .i64 (qagc p).1, .int .i64 (qagc p).2]) [] := by
 refine qabj ?_ (fun _ => rfl) (fun _ => rfl) rfl q
 refine qaas (N := 11) Tryz.func25 rfl rfl (by kernel_rfl) qali (by simp) (by repeat' (first | exact trivial | refine And.intro ?_ ?_ | rfl | decide | exact PureR.ren _)) (by repeat' (first | exact trivial | refine And.intro ?_ ?_ | rfl | decide | exact PureR.ren _)) ?_
 rintro X hP hN hm
 unfold c_fcheck
 have hc := fun q => flow_s p hs hk q
 generalize qagc p = F at hc
 generalize qakg p = L at hc
 replace hc := Lib.hid hc
 repeat' (first | (with_reducible refine zA ?_) | ((with_reducible refine qaac ?_); (try rw [hP]); simp -implicitDefEqProofs [*]) | ((with_reducible refine qaam ?_); (try simp only [qaap, qaag, qaaj])) | (refine qaaw (hc.out _) ?_; simp -implicitDefEqProofs [*]) | (refine qag9 hm rfl rfl (by rw [hP]; exact qabe) (by rw [hP]; exact qaa4) rfl (CoL.refl _) rfl (fun σ => rfl)) | fail)
theorem qa5b (r : RefD) (m : BitVec 64) (hr : r.h < 64) (q : Nat) : SCalls Tryz.prog 53 [.agg (refc r), .int .u64 m.toNat] [] q (.bool (qaet r m)) [] := by
 refine qabj ?_ (fun _ => rfl) (fun _ => rfl) rfl q
 refine qaas (N := 16) Tryz.func53 rfl rfl (by kernel_rfl) qaoi (by simp) (by repeat' (first | exact trivial | refine And.intro ?_ ?_ | rfl | decide | exact PureR.ren _)) (by repeat' (first | exact trivial | refine And.intro ?_ ?_ | rfl | decide | exact PureR.ren _)) ?_
 rintro X hP hN hm
 unfold c_rgone
 cases kh : decide (0 ≤ r.h)
 ·have hg : qaet r m = false := by unfold qaet; rw [kh]; rfl
  rw [hg]
  repeat' (first | (with_reducible refine zA ?_) | ((with_reducible refine qaac ?_); (try rw [hP]); simp -implicitDefEqProofs [*]) | ((with_reducible refine qaam ?_); (try simp only [qaap, qaag, qaaj])) | (with_reducible refine zN hm ?_) | fail)
  all_goals rfl
 ·have h0 := of_decide_eq_true kh
  have hg : qaet r m = (m &&& bitB r.h == 0) := by unfold qaet; rw [kh]; rfl
  rw [hg]
  have hb := fun q => qat4 r.h h0 hr q
  replace hb := Lib.hid hb
  replace h0 := Lib.hid h0
  repeat' (first | (with_reducible refine zA ?_) | ((with_reducible refine qaac ?_); (try rw [hP]); simp -implicitDefEqProofs [-BitVec.toNat_and, qaa3, qacn, *]) | ((with_reducible refine qaam ?_); (try simp only [qaap, qaag, qaaj])) | (refine qaaw (hb.out _) ?_; simp -implicitDefEqProofs [-BitVec.toNat_and, qaa3, qacn, *]) | (with_reducible refine zN hm ?_) | fail)
  all_goals rfl
theorem qa49 (p : PlanD) (t : List PushD) (m : BitVec 64) (ht : ExOk p t) (h6 : p.heads.length ≤ 6) (hl : t.length ≤ 1000) (q : Nat) : SCalls Tryz.prog 55 [qab2 t, .int .u64 m.toNat] [] q (.bool (qad7 t m)) [] := by
 refine qabj ?_ (fun _ => rfl) (fun _ => rfl) rfl q
 refine qaas (N := 27) Tryz.func55 rfl rfl (by kernel_rfl) qala (by simp) (by repeat' (first | exact trivial | refine And.intro ?_ ?_ | rfl | decide | exact PureR.ren _)) (by repeat' (first | exact trivial | refine And.intro ?_ ?_ | rfl | decide | exact PureR.ren _)) ?_
 rintro X hP hN hm
 unfold c_rtgone
 have hF : qad7 t m = ((t.drop 0).any fun x => decide (x.op = 2) && qaet x.r m) := rfl
 generalize qad7 t m = F at hF
 replace hF := Lib.hid hF
 replace ht := Lib.hid ht
 repeat' (first | (with_reducible refine zA ?_) | ((with_reducible refine qaac ?_); (try rw [hP]); simp -implicitDefEqProofs [qab2, *]) | fail)
 refine qaal (qaa5 (fun s (i : Nat) => s.turn [(5, .int .i64 i)] []) (fun i => i ≤ t.length ∧ F = ((t.drop i).any fun x => decide (x.op = 2) && qaet x.r m)) (fun i => t.length - i) 0 ?_ ⟨by simp, hF.out⟩ ?_)
 ·repeat' (first | ((with_reducible refine qaah [] hm ?_ ?_ ?_ ?_) <;> (try simp only [zT, puth, Nat.reduceEqDiff, reduceIte, Nat.reduceAdd])) | (with_reducible refine za ?_ ?_) | (with_reducible first | exact qaab | exact qaad) | ((with_reducible refine zgb ?_); rfl) | ((with_reducible refine zgd ?_); (first | omega | (simp; done))) | (exact Co.refl _) | fail)
 rintro J hJ i ⟨h1, h2⟩
 unfold qai8
 simp only [zT, puth, Nat.reduceEqDiff, reduceIte, Nat.reduceAdd]
 clear hF
 rcases Nat.lt_or_ge i t.length with hi | hi
 ·have hx := ht.out t[i] (List.getElem_mem hi)
  rw [qac8 _ hi] at h2
  generalize hxx : t[i] = x at hx h2
  have wi : IntKind.i64.wrap ((i : Int) + 1) = (i : Int) + 1 := qaao (by omega) (by omega)
  cases ko : (x.op == 2)
  ·have k2 : decide (x.op = 2) = false := by simpa using ko
   rw [k2, Bool.false_and, Bool.false_or] at h2
   replace h2 := Lib.hid h2
   replace hx := Lib.hid hx
   repeat' (first | (with_reducible first | refine zA ?_ | refine qaae ?_) | ((with_reducible refine qaac ?_); (try rw [hP]); simp -implicitDefEqProofs [*]) | ((with_reducible refine qaaf ?_); (try simp -implicitDefEqProofs [*])) | ((with_reducible refine qaaa rfl (fun h => ?_) (fun h => ?_)) <;> have h' := h <;> (try simp at h') <;> (try subst h')) | (with_reducible refine za ?_ ?_) | (with_reducible first | exact qaab | exact qaad) | ((with_reducible refine zgb ?_); rfl) | ((with_reducible first | refine zgd ?_ | refine zge ?_); (first | omega | (simp; done))) | (exact Co.refl _) | ((refine qaai hJ (i + 1) ?_ ?_ ?_; (with_reducible refine qaah [] hm ?_ ?_ ?_ ?_) <;> (try simp only [zT, puth, Nat.reduceEqDiff, reduceIte, Nat.reduceAdd]))) | fail)
   all_goals (exact ⟨by omega, h2.out⟩)
  ·have k2 : decide (x.op = 2) = true := by simpa using ko
   rw [k2, Bool.true_and] at h2
   have hxh := hx (of_decide_eq_true k2)
   have hr := fun q => qa5b x.r m (by omega) q
   cases kg : qaet x.r m
   all_goals
    rw [kg] at h2 hr
    try rw [Bool.false_or] at h2
    replace h2 := Lib.hid h2
    replace hx := Lib.hid hx
    replace hr := Lib.hid hr
    repeat' (first | (with_reducible first | refine zA ?_ | refine qaae ?_) | ((with_reducible refine qaac ?_); (try rw [hP]); simp -implicitDefEqProofs [*]) | ((with_reducible refine qaaf ?_); (try simp -implicitDefEqProofs [*])) | ((with_reducible refine qaam ?_); (try simp only [qaap, qaag, qaaj])) | ((with_reducible refine qaaa rfl (fun h => ?_) (fun h => ?_)) <;> have h' := h <;> (try simp at h') <;> (try subst h')) | (refine qaaw (hr.out _) ?_; simp -implicitDefEqProofs [*]) | (with_reducible refine zN hm ?_) | (with_reducible refine za ?_ ?_) | (with_reducible first | exact qaab | exact qaad) | ((with_reducible refine zgb ?_); rfl) | ((with_reducible first | refine zgd ?_ | refine zge ?_); (first | omega | (simp; done))) | (exact Co.refl _) | ((refine qaai hJ (i + 1) ?_ ?_ ?_; (with_reducible refine qaah [] hm ?_ ?_ ?_ ?_) <;> (try simp only [zT, puth, Nat.reduceEqDiff, reduceIte, Nat.reduceAdd]))) | fail)
   all_goals first | (exact ⟨by omega, h2.out⟩) | (have h3 := h2.out; rw [Bool.true_or] at h3; rw [h3]; done) | trace_state
 ·obtain rfl : i = t.length := by omega
  rw [List.drop_length] at h2
  have h3 : F = false := h2
  subst h3
  clear h2
  repeat' (first | (with_reducible refine zA ?_) | ((with_reducible refine qaac ?_); (try rw [hP]); simp -implicitDefEqProofs [*]) | ((with_reducible refine qaak ?_); (try simp -implicitDefEqProofs [*])) | ((with_reducible refine qaam ?_); (try simp only [qaap, qaag, qaaj])) | ((with_reducible refine qaaa rfl (fun h => ?_) (fun h => ?_)) <;> have h' := h <;> (try simp at h') <;> (try subst h')) | (with_reducible refine zN hm ?_) | fail)
  all_goals rfl
end Go.Proofs.YteoijlmgiemffaaGreat
