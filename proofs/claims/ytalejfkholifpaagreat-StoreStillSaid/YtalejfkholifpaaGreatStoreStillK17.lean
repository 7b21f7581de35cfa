/-
  Texts joined: XStoH XStoI. No condition.
-/
import Derived.WalkSpells
import Derived.RegionTactic
import Derived.BigRegion
import Derived.Deep.RegionLaw
import Derived.Test.YtalejfkholifpaaGreatProg
import Derived.Deep.CutRange
import Derived.Deep.CutBlock
import Derived.Test.YtalejfkholifpaaGreatStoreStillK16
namespace Go.Proofs.YtalejfkholifpaaGreat
set_option linter.all false
open Go.RowKit
attribute [local simp] qaas qaar qaad qaag qaae qaaf qaap qaaq qaab qaa5 SOp.run SX.ev putd puts argS upds SOp.touch SSt.keep SSt.skip gets geth puth delh idOf SV.cells? setL qab4 qab5 sbin eq0 eq1 eqL qab0 qabj qabk qaa4 qaat qaac qaau qaa6 qaaj qaam FrzOk qaa9 qaa0 qaa7 qaa8 qaav qaaz qabf qaa1 qaax qaba qaaw frzS frzH frz frz1 frz0 SlotsM ObjsM ObjM rn ren ren1 ren0 qabq qabs qabt qabp qabg qab2 qab1 CoL qabb qabx dels adds idsH qabr
attribute [local simp] qaay nums actc
def qaue (t : TabD) (ws : List Int) (acts : List ActD) : Bool := decide (50 < t.acts.length) || (decide (50 < t.args.length) || (decide (50 < ws.length) || (decide (50 < acts.length) || acts.any fun a => decide (50 < a.w.length))))
theorem qa98 (t : TabD) (ws : List Int) (acts : List ActD) (q : Nat) : SCalls Tryz.prog 7 [.agg (tabc t), nums .i64 ws, .view 2 (acts.map actc)] [] q (.bool (qaue t ws acts)) [] := by
 refine qabm ?_ (fun _ => rfl) (fun _ => rfl) rfl q
 refine qaai (N := 41) Tryz.func7 rfl rfl (by kernel_rfl) qalc (by simp) (by repeat' (first | exact trivial | refine And.intro ?_ ?_ | rfl | decide | exact PureR.ren _)) (by repeat' (first | exact trivial | refine And.intro ?_ ?_ | rfl | decide | exact PureR.ren _)) ?_
 rintro X hP hN hm
 obtain ⟨F, hF⟩ : ∃ F, F = qaue t ws acts := ⟨_, rfl⟩
 rw [← hF]
 unfold qaue at hF
 unfold c_tgreat tabc
 replace hF := Lib.hid hF
 repeat' (first | (with_reducible first | refine zA ?_ | refine qaa3 ?_ | refine qaa2 ?_ | refine zK ?_) | ((with_reducible first | refine qaao ?_ | refine qaal (by rw [hP]; exact mixed) ?_); (try rw [hP]); simp -implicitDefEqProofs [*]) | ((with_reducible first | refine qaah ?_ | refine qaak ?_); (try simp -implicitDefEqProofs [*])) | ((with_reducible refine qabi ?_); (try simp only [qaa4, qaac, qaaj])) | ((with_reducible refine qabc rfl (fun h => ?_) (fun h => ?_)) <;> have h' := h <;> (try simp at h') <;> (try subst h')) | ((with_reducible refine qaaa (fun h => ?_) (fun h => ?_)) <;> have h' := h <;> (try simp at h') <;> (try subst h') <;> simp -implicitDefEqProofs [*]) | ((with_reducible refine qaan ?_ ?_); (first | omega | (unfold maxLen; omega)); simp -implicitDefEqProofs [*]) | (with_reducible first | refine zM hm ?_ | refine zN hm ?_ | refine zO hm ?_ | refine zP hm ?_) | fail)
 ·rw [hF.out, decide_eq_true (show 50 < t.acts.length by omega)]; rfl
 ·rw [hF.out, decide_eq_true (show 50 < t.args.length by omega)]; simp
 ·rw [hF.out, decide_eq_true (show 50 < ws.length by omega)]; simp
 ·rw [hF.out, decide_eq_true (show 50 < acts.length by omega)]; simp
 have hG : F = acts.any fun a => decide (50 < a.w.length) := by
  rw [hF.out, decide_eq_false (show ¬ 50 < t.acts.length by omega), decide_eq_false (show ¬ 50 < t.args.length by omega), decide_eq_false (show ¬ 50 < ws.length by omega), decide_eq_false (show ¬ 50 < acts.length by omega)]
  rfl
 replace hF := Lib.hid hG
 clear hG
 refine qabl (qacv (fun s (i : Nat) => s.turn [(7, .int .i64 i)] []) (fun i => i ≤ acts.length ∧ F = (acts.drop i).any fun a => decide (50 < a.w.length)) (fun i => acts.length - i) 0 ?_ ⟨by simp, hF.out⟩ ?_)
 ·repeat' (first | ((with_reducible refine qabe [] hm ?_ ?_ ?_ ?_) <;> (try simp only [zT, puth, Nat.reduceEqDiff, reduceIte, Nat.reduceAdd])) | (with_reducible first | refine za ?_ ?_ | refine zb ?_ ?_ ?_ ?_ | refine zc ?_ ?_ ?_ ?_ | refine zd ?_ ?_ ?_ ?_ | refine qack ?_ ?_ | refine qacg ?_ ?_) | (with_reducible first | exact qab3 | exact qacj | exact qacx | exact qac1 | exact Co.refl _ | exact CoL.refl _ | exact CoLL.refl _) | ((with_reducible first | refine zga ?_ | refine zgb ?_); rfl) | ((with_reducible refine zgc ?_); (first | (with_reducible rfl) | rfl | (simp; done))) | ((with_reducible first | refine zgd ?_ | refine zge ?_); (first | omega | (simp; done))) | (refine qad1 ⟨?_, ?_⟩ ?_ <;> omega) | (exact Co.refl _) | (exact CoL.refl _) | (exact CoLL.refl _) | (refine qabt ?_; omega) | (refine qabs ?_; first | omega | (simp_all; done)) | (with_reducible first | refine qac8 ?_ ?_ | refine qacm ?_ ?_) | fail)
 rintro J hJ i ⟨h1, h2⟩
 unfold qai6
 simp only [zT, puth, Nat.reduceEqDiff, reduceIte, Nat.reduceAdd] at h1 h2 ⊢
 rcases Nat.lt_or_ge i acts.length with hi | hi
 ·rw [List.drop_eq_getElem_cons hi, List.any_cons] at h2
  have wi : IntKind.i64.wrap ((i : Int) + 1) = (i : Int) + 1 := qacb (by omega) (by omega)
  generalize hx : acts[i] = x at h2
  rw [show decide (50 < x.w.length) = decide ((50 : Int) < (x.w.length : Int)) by congr 1; exact propext (by omega)] at h2
  replace h2 := Lib.hid h2
  cases hv : decide ((50 : Int) < (x.w.length : Int))
  ·repeat' (first | (with_reducible first | refine zA ?_ | refine qaa3 ?_ | refine qaa2 ?_ | refine zK ?_) | ((with_reducible first | refine qaao ?_ | refine qaal (by rw [hP]; exact mixed) ?_); (try rw [hP]); simp -implicitDefEqProofs [*]) | ((with_reducible first | refine qaah ?_ | refine qaak ?_); (try simp -implicitDefEqProofs [*])) | ((with_reducible refine qabi ?_); (try simp only [qaa4, qaac, qaaj])) | ((with_reducible refine qabc rfl (fun h => ?_) (fun h => ?_)) <;> have h' := h <;> (try simp at h') <;> (try subst h')) | ((with_reducible refine qaaa (fun h => ?_) (fun h => ?_)) <;> have h' := h <;> (try simp at h') <;> (try subst h') <;> simp -implicitDefEqProofs [*]) | ((with_reducible refine qaan ?_ ?_); (first | omega | (unfold maxLen; omega)); simp -implicitDefEqProofs [*]) | (with_reducible first | refine zM hm ?_ | refine zN hm ?_ | refine zO hm ?_ | refine zP hm ?_) | ((with_reducible refine qabe [] hm ?_ ?_ ?_ ?_) <;> (try simp only [zT, puth, Nat.reduceEqDiff, reduceIte, Nat.reduceAdd])) | (with_reducible first | refine za ?_ ?_ | refine zb ?_ ?_ ?_ ?_ | refine zc ?_ ?_ ?_ ?_ | refine zd ?_ ?_ ?_ ?_ | refine qack ?_ ?_ | refine qacg ?_ ?_) | (with_reducible first | exact qab3 | exact qacj | exact qacx | exact qac1 | exact Co.refl _ | exact CoL.refl _ | exact CoLL.refl _) | ((with_reducible first | refine zga ?_ | refine zgb ?_); rfl) | ((with_reducible refine zgc ?_); (first | (with_reducible rfl) | rfl | (simp; done))) | ((with_reducible first | refine zgd ?_ | refine zge ?_); (first | omega | (simp; done))) | (refine qad1 ⟨?_, ?_⟩ ?_ <;> omega) | (exact Co.refl _) | (exact CoL.refl _) | (exact CoLL.refl _) | (refine qabt ?_; omega) | (refine qabs ?_; first | omega | (simp_all; done)) | (with_reducible first | refine qac8 ?_ ?_ | refine qacm ?_ ?_) | ((refine qabn hJ (i + 1) ?_ ?_ ?_; (with_reducible refine qabe [] hm ?_ ?_ ?_ ?_) <;> (try simp only [zT, puth, Nat.reduceEqDiff, reduceIte, Nat.reduceAdd]))) | fail)
   refine ⟨by omega, ?_⟩
   rw [h2.out, hv, Bool.false_or]
  ·repeat' (first | (with_reducible first | refine zA ?_ | refine qaa3 ?_ | refine qaa2 ?_ | refine zK ?_) | ((with_reducible first | refine qaao ?_ | refine qaal (by rw [hP]; exact mixed) ?_); (try rw [hP]); simp -implicitDefEqProofs [*]) | ((with_reducible first | refine qaah ?_ | refine qaak ?_); (try simp -implicitDefEqProofs [*])) | ((with_reducible refine qabi ?_); (try simp only [qaa4, qaac, qaaj])) | ((with_reducible refine qabc rfl (fun h => ?_) (fun h => ?_)) <;> have h' := h <;> (try simp at h') <;> (try subst h')) | ((with_reducible refine qaaa (fun h => ?_) (fun h => ?_)) <;> have h' := h <;> (try simp at h') <;> (try subst h') <;> simp -implicitDefEqProofs [*]) | ((with_reducible refine qaan ?_ ?_); (first | omega | (unfold maxLen; omega)); simp -implicitDefEqProofs [*]) | (with_reducible first | refine zM hm ?_ | refine zN hm ?_ | refine zO hm ?_ | refine zP hm ?_) | fail)
   rw [h2.out, hv]; rfl
 ·obtain rfl : i = acts.length := by omega
  rw [List.drop_length] at h2
  replace h2 := Lib.hid h2
  repeat' (first | (with_reducible first | refine zA ?_ | refine qaa3 ?_ | refine qaa2 ?_ | refine zK ?_) | ((with_reducible first | refine qaao ?_ | refine qaal (by rw [hP]; exact mixed) ?_); (try rw [hP]); simp -implicitDefEqProofs [*]) | ((with_reducible first | refine qaah ?_ | refine qaak ?_); (try simp -implicitDefEqProofs [*])) | ((with_reducible refine qabi ?_); (try simp only [qaa4, qaac, qaaj])) | ((with_reducible refine qabc rfl (fun h => ?_) (fun h => ?_)) <;> have h' := h <;> (try simp at h') <;> (try subst h')) | ((with_reducible refine qaaa (fun h => ?_) (fun h => ?_)) <;> have h' := h <;> (try simp at h') <;> (try subst h') <;> simp -implicitDefEqProofs [*]) | ((with_reducible refine qaan ?_ ?_); (first | omega | (unfold maxLen; omega)); simp -implicitDefEqProofs [*]) | (with_reducible first | refine zM hm ?_ | refine zN hm ?_ | refine zO hm ?_ | refine zP hm ?_) | fail)
  rw [h2.out]; rfl
end Go.Proofs.YtalejfkholifpaaGreat
namespace Go.Proofs.YtalejfkholifpaaGreat
set_option linter.all false
open Go.RowKit
attribute [local simp] qaas qaar qaad qaag qaae qaaf qaap qaaq qaab qaa5 SOp.run SX.ev putd puts argS upds SOp.touch SSt.keep SSt.skip gets geth puth delh idOf SV.cells? setL qab4 qab5 sbin eq0 eq1 eqL qab0 qabj qabk qaa4 qaat qaac qaau qaa6 qaaj qaam FrzOk qaa9 qaa0 qaa7 qaa8 qaav qaaz qabf qaa1 qaax qaba qaaw frzS frzH frz frz1 frz0 SlotsM ObjsM ObjM rn ren ren1 ren0 qabq qabs qabt qabp qabg qab2 qab1 CoL qabb qabx dels adds idsH qabr
attribute [local simp] qaay nums actc hitc qagr qam4
theorem snew_q (t : TabD) (ws : List Int) (acts : List ActD) (ha : AW acts) (h1 : t.acts.length ≤ 1000000) (h2 : t.args.length ≤ 1000000) (h3 : ws.length ≤ 1000000) (h4 : acts.length ≤ 1000000) (h5 : ∀ a ∈ acts, a.w.length ≤ 1000000) (he : qaek t ws acts = 0) (q : Nat) : SCalls Tryz.prog 9 [.agg (tabc t), nums .i64 ws, .view 2 (acts.map actc)] [] q (.tup [.ptr q 0, .agg [.int .i64 0, .int .i64 0]]) (qac2 (qajm t ws acts) q (q + 1)) := by
 have e0 : sg [] q 0 = q := rfl
 have e1 : sg [] q 1 = q + 1 := rfl
 have e : ∀ s : StoD, (scs s 1).map (Go.Proofs.YtalejfkholifpaaGreat.ren (sg [] q)) = scs s (q + 1) := fun s => qauv s e1
 refine qac9 [] (snew_s t ws acts ha h1 h2 h3 h4 h5 he) rfl (by simp) (by simp) rfl trivial (by simp [idsH]) (by simp [Go.Proofs.YtalejfkholifpaaGreat.ren, ren1, ren0, e0]) rfl ?_ (by simp [idsH, qac2]) (by simp [idsH, qac2, e0, e1])
 exact ⟨⟨.cells _ (scs (qajm t ws acts) (q + 1)), by rw [e0]; simp [geth, qac2], rfl, rfl, (e _).symm⟩, ⟨.abs (qajm t ws acts).F.I, by rw [e1]; simp [geth, qac2], rfl⟩, trivial⟩
theorem qa8d {l : List TStep} (h : bigS l = false) : l.length ≤ 200 ∧ ∀ s ∈ l, s.e.keys.length ≤ 20 ∧ s.e.masks.length ≤ 20 ∧ s.e.args.length ≤ 20 := by
 unfold bigS at h
 simp only [Bool.or_eq_false_iff, decide_eq_false_iff_not, List.any_eq_false] at h
 refine ⟨by omega, fun s hs => ?_⟩
 have := h.2 s hs
 unfold bigE at this
 simp at this
 omega
set_option maxHeartbeats 4000000 in
theorem still_s (t : TabD) (ws : List Int) (acts : List ActD) (l : List TStep) (ha : AW acts) (hfit : ∀ s ∈ l, FitE s.e) : SCalls Tryz.prog 4 [.agg (tabc t), nums .i64 ws, .view 2 (acts.map actc), qa2b l] [] 0 (.bool true) [] := by
 refine qaai (N := 113) Tryz.func4 rfl rfl (by kernel_rfl) qan5 (by simp) (by repeat' (first | exact trivial | refine And.intro ?_ ?_ | rfl | decide | exact PureR.ren _)) (by repeat' (first | exact trivial | refine And.intro ?_ ?_ | rfl | decide | exact PureR.ren _)) ?_
 rintro X hP hN hm
 unfold c_still tabc
 have kg := fun q => qa98 t ws acts q
 have kb := fun q => qabm (great_s l) (fun _ => rfl) (fun _ => rfl) rfl q
 unfold qa2b at kb ⊢
 cases g1 : qaue t ws acts <;> rw [g1] at kg
 rotate_left 1
 ·repeat' (first | (with_reducible first | refine zA ?_ | refine qaa3 ?_ | refine qaa2 ?_ | refine zK ?_) | ((with_reducible first | refine qaao ?_ | refine qaal (by rw [hP]; exact mixed) ?_); (try rw [hP]); simp -implicitDefEqProofs [*]) | ((with_reducible first | refine qaah ?_ | refine qaak ?_); (try simp -implicitDefEqProofs [*])) | ((with_reducible refine qabi ?_); (try simp only [qaa4, qaac, qaaj])) | ((with_reducible refine qabc rfl (fun h => ?_) (fun h => ?_)) <;> have h' := h <;> (try simp at h') <;> (try subst h')) | ((with_reducible refine qaaa (fun h => ?_) (fun h => ?_)) <;> have h' := h <;> (try simp at h') <;> (try subst h') <;> simp -implicitDefEqProofs [*]) | ((with_reducible refine qaan ?_ ?_); (first | omega | (unfold maxLen; omega)); simp -implicitDefEqProofs [*]) | ((first | refine qabo (qaj7 _) ?_ | refine qabo (kg _) ?_); simp -implicitDefEqProofs [*]) | (with_reducible first | refine zM hm ?_ | refine zN hm ?_ | refine zO hm ?_ | refine zP hm ?_) | fail)
  all_goals rfl
 cases g2 : bigS l <;> rw [g2] at kb
 rotate_left 1
 ·repeat' (first | (with_reducible first | refine zA ?_ | refine qaa3 ?_ | refine qaa2 ?_ | refine zK ?_) | ((with_reducible first | refine qaao ?_ | refine qaal (by rw [hP]; exact mixed) ?_); (try rw [hP]); simp -implicitDefEqProofs [*]) | ((with_reducible first | refine qaah ?_ | refine qaak ?_); (try simp -implicitDefEqProofs [*])) | ((with_reducible refine qabi ?_); (try simp only [qaa4, qaac, qaaj])) | ((with_reducible refine qabc rfl (fun h => ?_) (fun h => ?_)) <;> have h' := h <;> (try simp at h') <;> (try subst h')) | ((with_reducible refine qaaa (fun h => ?_) (fun h => ?_)) <;> have h' := h <;> (try simp at h') <;> (try subst h') <;> simp -implicitDefEqProofs [*]) | ((with_reducible refine qaan ?_ ?_); (first | omega | (unfold maxLen; omega)); simp -implicitDefEqProofs [*]) | ((first | refine qabo (qaj7 _) ?_ | refine qabo (kg _) ?_ | refine qabo (kb _) ?_); simp -implicitDefEqProofs [*]) | (with_reducible first | refine zM hm ?_ | refine zN hm ?_ | refine zO hm ?_ | refine zP hm ?_) | fail)
  all_goals rfl
 obtain ⟨hl, hsm⟩ := qa8d g2
 by_cases g3 : 60 < l.length
 ·repeat' (first | (with_reducible first | refine zA ?_ | refine qaa3 ?_ | refine qaa2 ?_ | refine zK ?_) | ((with_reducible first | refine qaao ?_ | refine qaal (by rw [hP]; exact mixed) ?_); (try rw [hP]); simp -implicitDefEqProofs [*]) | ((with_reducible first | refine qaah ?_ | refine qaak ?_); (try simp -implicitDefEqProofs [*])) | ((with_reducible refine qabi ?_); (try simp only [qaa4, qaac, qaaj])) | ((with_reducible refine qabc rfl (fun h => ?_) (fun h => ?_)) <;> have h' := h <;> (try simp at h') <;> (try subst h')) | ((with_reducible refine qaaa (fun h => ?_) (fun h => ?_)) <;> have h' := h <;> (try simp at h') <;> (try subst h') <;> simp -implicitDefEqProofs [*]) | ((with_reducible refine qaan ?_ ?_); (first | omega | (unfold maxLen; omega)); simp -implicitDefEqProofs [*]) | ((first | refine qabo (qaj7 _) ?_ | refine qabo (kg _) ?_ | refine qabo (kb _) ?_); simp -implicitDefEqProofs [*]) | (with_reducible first | refine zM hm ?_ | refine zN hm ?_ | refine zO hm ?_ | refine zP hm ?_) | fail)
  all_goals first | rfl | (exfalso; omega) | trace_state
 unfold qaue at g1
 simp only [Bool.or_eq_false_iff, decide_eq_false_iff_not, List.any_eq_false, decide_eq_true_eq] at g1
 obtain ⟨t1, t2, t3, t4, t5⟩ := g1
 have t6 : ∀ a ∈ acts, a.w.length ≤ 1000000 := fun a ham => by have := t5 a ham; omega
 by_cases he : qaek t ws acts = 0
 rotate_left 1
 ·have kn := fun q => snew_no t ws acts ha (by omega) (by omega) (by omega) (by omega) he q
  generalize qaek t ws acts = K at he kn
  have b1 : (K != 0) = true := by simp [he]
  replace he := Lib.hid he
  clear t5 t6
  unfold tabc nums at kn
  repeat' (first | (with_reducible first | refine zA ?_ | refine qaa3 ?_ | refine qaa2 ?_ | refine zK ?_) | ((with_reducible first | refine qaao ?_ | refine qaal (by rw [hP]; exact mixed) ?_); (try rw [hP]); simp -implicitDefEqProofs [*]) | ((with_reducible first | refine qaah ?_ | refine qaak ?_); (try simp -implicitDefEqProofs [*])) | ((with_reducible refine qabi ?_); (try simp only [qaa4, qaac, qaaj])) | ((with_reducible refine qabc rfl (fun h => ?_) (fun h => ?_)) <;> have h' := h <;> (try simp at h') <;> (try subst h')) | ((with_reducible refine qaaa (fun h => ?_) (fun h => ?_)) <;> have h' := h <;> (try simp at h') <;> (try subst h') <;> simp -implicitDefEqProofs [*]) | ((with_reducible refine qaan ?_ ?_); (first | omega | (unfold maxLen; omega)); simp -implicitDefEqProofs [*]) | ((first | refine qabo (qaj7 _) ?_ | refine qabo (kg _) ?_ | refine qabo (kb _) ?_ | refine qabo (kn _) ?_); simp -implicitDefEqProofs [*]) | (with_reducible first | refine zM hm ?_ | refine zN hm ?_ | refine zO hm ?_ | refine zP hm ?_) | fail)
  all_goals first | rfl | (exfalso; omega) | trace_state
 have kn := fun q => snew_q t ws acts ha (by omega) (by omega) (by omega) (by omega) t6 he q
 unfold tabc nums qac2 at kn
 have hok := qa22 ha (by omega) he
 have htc : (qajm t ws acts).t.cap = t.cap := rfl
 generalize qajm t ws acts = s0 at kn hok htc
 clear t5 t6
 replace he := Lib.hid he
 repeat' (first | (with_reducible first | refine zA ?_ | refine qaa3 ?_ | refine qaa2 ?_ | refine zK ?_) | ((with_reducible first | refine qaao ?_ | refine qaal (by rw [hP]; exact mixed) ?_); (try rw [hP]); simp -implicitDefEqProofs [*]) | ((with_reducible first | refine qaah ?_ | refine qaak ?_); (try simp -implicitDefEqProofs [*])) | ((with_reducible refine qabi ?_); (try simp only [qaa4, qaac, qaaj])) | ((with_reducible refine qabc rfl (fun h => ?_) (fun h => ?_)) <;> have h' := h <;> (try simp at h') <;> (try subst h')) | ((with_reducible refine qaaa (fun h => ?_) (fun h => ?_)) <;> have h' := h <;> (try simp at h') <;> (try subst h') <;> simp -implicitDefEqProofs [*]) | ((with_reducible refine qaan ?_ ?_); (first | omega | (unfold maxLen; omega)); simp -implicitDefEqProofs [*]) | ((first | refine qabo (qaj7 _) ?_ | refine qabo (kg _) ?_ | refine qabo (kb _) ?_ | refine qacu (kn _) trivial ⟨rfl, rfl, trivial⟩ ?_); simp -implicitDefEqProofs [*]) | (with_reducible first | refine zM hm ?_ | refine zN hm ?_ | refine zO hm ?_ | refine zP hm ?_) | fail)
 all_goals (try (with_reducible rfl))
 refine qabl (qacv (fun s (z : Nat × StoD) => s.turn [(11, .int .i64 z.1)] [(41, .cells 76 (scs z.2 42)), (42, .abs z.2.F.I)]) (fun z => z.1 ≤ l.length ∧ StOk z.2 ∧ z.2.t.cap = t.cap) (fun z => l.length - z.1) (0, s0) ?_ ⟨by simp, hok, htc⟩ ?_)
 ·repeat' (first | ((with_reducible refine qabe [] hm ?_ ?_ ?_ ?_) <;> (try simp only [zT, puth, Nat.reduceEqDiff, reduceIte, Nat.reduceAdd])) | (with_reducible first | refine za ?_ ?_ | refine zb ?_ ?_ ?_ ?_ | refine zc ?_ ?_ ?_ ?_ | refine zd ?_ ?_ ?_ ?_ | refine qack ?_ ?_ | refine qacg ?_ ?_) | (with_reducible first | exact qab3 | exact qacj | exact qacx | exact qac1 | exact Co.refl _ | exact CoL.refl _ | exact CoLL.refl _) | ((with_reducible first | refine zga ?_ | refine zgb ?_); rfl) | ((with_reducible refine zgc ?_); (first | (with_reducible rfl) | rfl | (simp; done))) | ((with_reducible first | refine zgd ?_ | refine zge ?_); (first | omega | (simp; done))) | (refine qad1 ⟨?_, ?_⟩ ?_ <;> omega) | (exact Co.refl _) | (exact CoL.refl _) | (exact CoLL.refl _) | (refine qabt ?_; omega) | (refine qabs ?_; first | omega | (simp_all; done)) | (with_reducible first | refine qac8 ?_ ?_ | refine qacm ?_ ?_) | fail)
 clear hok htc kn
 rintro J hJ ⟨i, st⟩ ⟨h1, hst, hcap⟩
 unfold qalq
 simp only [zT, puth, Nat.reduceEqDiff, reduceIte, Nat.reduceAdd] at h1 hst hcap ⊢
 rcases Nat.lt_or_ge i l.length with hi | hi
 rotate_left 1
 ·obtain rfl : i = l.length := by omega
  clear hst hcap
  repeat' (first | (with_reducible first | refine zA ?_ | refine qaa3 ?_ | refine qaa2 ?_ | refine zK ?_) | ((with_reducible first | refine qaao ?_ | refine qaal (by rw [hP]; exact mixed) ?_); (try rw [hP]); simp -implicitDefEqProofs [*]) | ((with_reducible first | refine qaah ?_ | refine qaak ?_); (try simp -implicitDefEqProofs [*])) | ((with_reducible refine qabi ?_); (try simp only [qaa4, qaac, qaaj])) | ((with_reducible refine qabc rfl (fun h => ?_) (fun h => ?_)) <;> have h' := h <;> (try simp at h') <;> (try subst h')) | ((with_reducible refine qaaa (fun h => ?_) (fun h => ?_)) <;> have h' := h <;> (try simp at h') <;> (try subst h') <;> simp -implicitDefEqProofs [*]) | ((with_reducible refine qaan ?_ ?_); (first | omega | (unfold maxLen; omega)); simp -implicitDefEqProofs [*]) | (with_reducible first | refine zM hm ?_ | refine zN hm ?_ | refine zO hm ?_ | refine zP hm ?_) | fail)
  all_goals rfl
 have wi : IntKind.i64.wrap ((i : Int) + 1) = (i : Int) + 1 := qacb (by omega) (by omega)
 have hx1 := hsm l[i] (List.getElem_mem hi)
 have hx2 := hfit l[i] (List.getElem_mem hi)
 obtain ⟨x, hx⟩ : ∃ x, x = l[i] := ⟨_, rfl⟩
 rw [← hx] at hx1 hx2
 have hg : l[i] = x := hx.symm
 obtain ⟨d, e⟩ := x
 have he2 : EOk e := ⟨⟨by simp only at hx1; omega, by simp only at hx1; omega, by simp only at hx1; omega⟩, hx2, by simp only at hx1; omega⟩
 have hsm2 : e.args.length ≤ 1000000 := he2.small.2.2
 clear hx hx1 hx2
 have ka := fun q (hq : 43 ≤ q) => qahp (sall_s st hst) (fun _ => rfl) (fun _ => rfl) rfl 41 42 q (by decide) (by omega) (by omega)
 have ky := fun q (hq : 43 ≤ q) => qahp (ssays_o st hst) (fun _ => rfl) (fun _ => rfl) rfl 41 42 q (by decide) (by omega) (by omega)
 have kse := fun q => qabm (sents_s st.F.all st.F.all (by have := fin_len hst.inv; have := qak2 hst.inv; omega) (qa3e hst.inv)) (fun _ => rfl) (fun _ => rfl) rfl q
 have ksh := fun q => qabm (shit_s st.da st.da st.dl st.dl hst.dl) (fun _ => rfl) (fun _ => rfl) rfl q
 rw [qaqj] at kse
 rw [show (st.da == st.da && decide (st.dl = st.dl)) = true by simp] at ksh
 unfold ents at ka kse
 unfold qac2 at ka ky
 have len_ : ∀ s' : StoD, StOk s' → s'.t.cap = t.cap → (∀ q, 43 ≤ q → SCalls Tryz.prog 17 [.ptr 41 0] [(41, .cells 76 (scs s' 42)), (42, .abs s'.F.I)] q (.int .i64 s'.F.cnt) [(41, .cells 76 (scs s' 42)), (42, .abs s'.F.I)]) ∧ decide (t.cap < s'.F.cnt) = false := fun s' h1 h2 => by
  refine ⟨fun q hq => qahp (slen_s s' h1) (fun _ => rfl) (fun _ => rfl) rfl 41 42 q (by decide) (by omega) (by omega), ?_⟩
  have := (qak2 h1.inv).1
  rw [← h1.m, h2] at this
  rw [decide_eq_false_iff_not]; omega
 have hS0 := len_ st hst hcap
 by_cases d0 : d = 0
 ·have e0 : (d == 0) = true := by simp [d0]
  clear d0
  have kc := fun q (hq : 43 ≤ q) => qahp (sadd_s st hst e he2) (fun _ => rfl) (fun _ => rfl) rfl 41 42 q (by decide) (by omega) (by omega)
  have hS := qa2a st e
  have hk' : StOk (qa10 st e) := sadd_ok hst he2
  have hc' : (qa10 st e).t.cap = t.cap := by rw [← hcap]; unfold qa10; split; (· rfl); split <;> rfl
  unfold qac2 at kc
  generalize saddC st e = C at kc hS
  generalize qa10 st e = st' at kc hS hk' hc'
  obtain ⟨kl, bl⟩ := len_ st' hk' hc'
  by_cases c0 : C = 0
  ·subst c0
   clear hS0 kse ksh hS
   replace hk' := Lib.hid hk'
   replace hst := Lib.hid hst
   repeat' (first | (with_reducible first | refine zA ?_ | refine qaa3 ?_ | refine qaa2 ?_ | refine zK ?_) | ((with_reducible first | refine qaao ?_ | refine qaal (by rw [hP]; exact mixed) ?_); (try rw [hP]); simp -implicitDefEqProofs [*]) | ((with_reducible first | refine qaah ?_ | refine qaak ?_); (try simp -implicitDefEqProofs [*])) | ((with_reducible refine qabi ?_); (try simp only [qaa4, qaac, qaaj])) | ((with_reducible refine qabc rfl (fun h => ?_) (fun h => ?_)) <;> have h' := h <;> (try simp at h') <;> (try subst h')) | ((with_reducible refine qaaa (fun h => ?_) (fun h => ?_)) <;> have h' := h <;> (try simp at h') <;> (try subst h') <;> simp -implicitDefEqProofs [*]) | ((with_reducible refine qaan ?_ ?_); (first | omega | (unfold maxLen; omega)); simp -implicitDefEqProofs [*]) | ((first | refine qacu (ka _ (by simp)) ⟨rfl, rfl, trivial⟩ ⟨rfl, rfl, trivial⟩ ?_ | refine qacu (ky _ (by simp)) ⟨rfl, rfl, trivial⟩ ⟨rfl, rfl, trivial⟩ ?_ | refine qacu (kc _ (by simp)) ⟨rfl, rfl, trivial⟩ ⟨rfl, rfl, trivial⟩ ?_ | refine qabv (kl _ (by simp)) ⟨rfl, rfl, trivial⟩ ⟨rfl, rfl, trivial⟩ ?_); simp -implicitDefEqProofs [*]) | (with_reducible first | refine zM hm ?_ | refine zN hm ?_ | refine zO hm ?_ | refine zP hm ?_) | ((with_reducible refine qabe [] hm ?_ ?_ ?_ ?_) <;> (try simp only [zT, puth, Nat.reduceEqDiff, reduceIte, Nat.reduceAdd])) | (with_reducible first | refine za ?_ ?_ | refine zb ?_ ?_ ?_ ?_ | refine zc ?_ ?_ ?_ ?_ | refine zd ?_ ?_ ?_ ?_ | refine qack ?_ ?_ | refine qacg ?_ ?_) | (with_reducible first | exact qab3 | exact qacj | exact qacx | exact qac1 | exact Co.refl _ | exact CoL.refl _ | exact CoLL.refl _) | ((with_reducible first | refine zga ?_ | refine zgb ?_); rfl) | ((with_reducible refine zgc ?_); (first | (with_reducible rfl) | rfl | (simp; done))) | ((with_reducible first | refine zgd ?_ | refine zge ?_); (first | omega | (simp; done))) | (refine qad1 ⟨?_, ?_⟩ ?_ <;> omega) | (exact Co.refl _) | (exact CoL.refl _) | (exact CoLL.refl _) | (refine qabt ?_; omega) | (refine qabs ?_; first | omega | (simp_all; done)) | (with_reducible first | refine qac8 ?_ ?_ | refine qacm ?_ ?_) | ((refine qabn hJ ((i + 1, st')) ?_ ?_ ?_; (with_reducible refine qabe [] hm ?_ ?_ ?_ ?_) <;> (try simp only [zT, puth, Nat.reduceEqDiff, reduceIte, Nat.reduceAdd]))) | fail)
   all_goals first | (exact ⟨by omega, hk'.out, hc'⟩) | (exfalso; omega) | trace_state
  ·have c1 : (C != 0) = true := by simp [c0]
   obtain rfl := hS c0
   replace c0 := Lib.hid c0
   replace hk' := Lib.hid hk'
   replace hst := Lib.hid hst
   clear hS0 hS
   repeat' (first | (with_reducible first | refine zA ?_ | refine qaa3 ?_ | refine qaa2 ?_ | refine zK ?_) | ((with_reducible first | refine qaao ?_ | refine qaal (by rw [hP]; exact mixed) ?_); (try rw [hP]); simp -implicitDefEqProofs [*]) | ((with_reducible first | refine qaah ?_ | refine qaak ?_); (try simp -implicitDefEqProofs [*])) | ((with_reducible refine qabi ?_); (try simp only [qaa4, qaac, qaaj])) | ((with_reducible refine qabc rfl (fun h => ?_) (fun h => ?_)) <;> have h' := h <;> (try simp at h') <;> (try subst h')) | ((with_reducible refine qaaa (fun h => ?_) (fun h => ?_)) <;> have h' := h <;> (try simp at h') <;> (try subst h') <;> simp -implicitDefEqProofs [*]) | ((with_reducible refine qaan ?_ ?_); (first | omega | (unfold maxLen; omega)); simp -implicitDefEqProofs [*]) | ((first | refine qabv (kse _) trivial trivial ?_ | refine qabo (kse _) ?_ | refine qabo (ksh _) ?_ | refine qabv (ka _ (by simp)) ⟨rfl, rfl, trivial⟩ ⟨rfl, rfl, trivial⟩ ?_ | refine qabv (ky _ (by simp)) ⟨rfl, rfl, trivial⟩ ⟨rfl, rfl, trivial⟩ ?_ | refine qacu (kc _ (by simp)) ⟨rfl, rfl, trivial⟩ ⟨rfl, rfl, trivial⟩ ?_ | refine qabv (kl _ (by simp)) ⟨rfl, rfl, trivial⟩ ⟨rfl, rfl, trivial⟩ ?_); simp -implicitDefEqProofs [*]) | (with_reducible first | refine zM hm ?_ | refine zN hm ?_ | refine zO hm ?_ | refine zP hm ?_) | ((with_reducible refine qabe [] hm ?_ ?_ ?_ ?_) <;> (try simp only [zT, puth, Nat.reduceEqDiff, reduceIte, Nat.reduceAdd])) | (with_reducible first | refine za ?_ ?_ | refine zb ?_ ?_ ?_ ?_ | refine zc ?_ ?_ ?_ ?_ | refine zd ?_ ?_ ?_ ?_ | refine qack ?_ ?_ | refine qacg ?_ ?_) | (with_reducible first | exact qab3 | exact qacj | exact qacx | exact qac1 | exact Co.refl _ | exact CoL.refl _ | exact CoLL.refl _) | ((with_reducible first | refine zga ?_ | refine zgb ?_); rfl) | ((with_reducible refine zgc ?_); (first | (with_reducible rfl) | rfl | (simp; done))) | ((with_reducible first | refine zgd ?_ | refine zge ?_); (first | omega | (simp; done))) | (refine qad1 ⟨?_, ?_⟩ ?_ <;> omega) | (exact Co.refl _) | (exact CoL.refl _) | (exact CoLL.refl _) | (refine qabt ?_; omega) | (refine qabs ?_; first | omega | (simp_all; done)) | (with_reducible first | refine qac8 ?_ ?_ | refine qacm ?_ ?_) | ((refine qabn hJ ((i + 1, st')) ?_ ?_ ?_; (with_reducible refine qabe [] hm ?_ ?_ ?_ ?_) <;> (try simp only [zT, puth, Nat.reduceEqDiff, reduceIte, Nat.reduceAdd]))) | fail)
   all_goals first | (exact ⟨by omega, hk'.out, hc'⟩) | (exfalso; omega) | trace_state
 have e0 : (d == 0) = false := by simp [d0]
 by_cases d1 : d = 1
 ·have e1 : (d == 1) = true := by simp [d1]
  clear d1 d0
  have kc := fun q (hq : 43 ≤ q) => qahp (schg_s st hst e he2) (fun _ => rfl) (fun _ => rfl) rfl 41 42 q (by decide) (by omega) (by omega)
  have hS := qa19 st e
  have hk' : StOk (qa1z st e) := schg_ok hst he2
  have hc' : (qa1z st e).t.cap = t.cap := by rw [← hcap]; unfold qa1z; split; (· rfl); split <;> rfl
  unfold qac2 at kc
  generalize schgC st e = C at kc hS
  generalize qa1z st e = st' at kc hS hk' hc'
  obtain ⟨kl, bl⟩ := len_ st' hk' hc'
  by_cases c0 : C = 0
  ·subst c0
   clear hS0 kse ksh hS
   replace hk' := Lib.hid hk'
   replace hst := Lib.hid hst
   repeat' (first | (with_reducible first | refine zA ?_ | refine qaa3 ?_ | refine qaa2 ?_ | refine zK ?_) | ((with_reducible first | refine qaao ?_ | refine qaal (by rw [hP]; exact mixed) ?_); (try rw [hP]); simp -implicitDefEqProofs [*]) | ((with_reducible first | refine qaah ?_ | refine qaak ?_); (try simp -implicitDefEqProofs [*])) | ((with_reducible refine qabi ?_); (try simp only [qaa4, qaac, qaaj])) | ((with_reducible refine qabc rfl (fun h => ?_) (fun h => ?_)) <;> have h' := h <;> (try simp at h') <;> (try subst h')) | ((with_reducible refine qaaa (fun h => ?_) (fun h => ?_)) <;> have h' := h <;> (try simp at h') <;> (try subst h') <;> simp -implicitDefEqProofs [*]) | ((with_reducible refine qaan ?_ ?_); (first | omega | (unfold maxLen; omega)); simp -implicitDefEqProofs [*]) | ((first | refine qacu (ka _ (by simp)) ⟨rfl, rfl, trivial⟩ ⟨rfl, rfl, trivial⟩ ?_ | refine qacu (ky _ (by simp)) ⟨rfl, rfl, trivial⟩ ⟨rfl, rfl, trivial⟩ ?_ | refine qacu (kc _ (by simp)) ⟨rfl, rfl, trivial⟩ ⟨rfl, rfl, trivial⟩ ?_ | refine qabv (kl _ (by simp)) ⟨rfl, rfl, trivial⟩ ⟨rfl, rfl, trivial⟩ ?_); simp -implicitDefEqProofs [*]) | (with_reducible first | refine zM hm ?_ | refine zN hm ?_ | refine zO hm ?_ | refine zP hm ?_) | ((with_reducible refine qabe [] hm ?_ ?_ ?_ ?_) <;> (try simp only [zT, puth, Nat.reduceEqDiff, reduceIte, Nat.reduceAdd])) | (with_reducible first | refine za ?_ ?_ | refine zb ?_ ?_ ?_ ?_ | refine zc ?_ ?_ ?_ ?_ | refine zd ?_ ?_ ?_ ?_ | refine qack ?_ ?_ | refine qacg ?_ ?_) | (with_reducible first | exact qab3 | exact qacj | exact qacx | exact qac1 | exact Co.refl _ | exact CoL.refl _ | exact CoLL.refl _) | ((with_reducible first | refine zga ?_ | refine zgb ?_); rfl) | ((with_reducible refine zgc ?_); (first | (with_reducible rfl) | rfl | (simp; done))) | ((with_reducible first | refine zgd ?_ | refine zge ?_); (first | omega | (simp; done))) | (refine qad1 ⟨?_, ?_⟩ ?_ <;> omega) | (exact Co.refl _) | (exact CoL.refl _) | (exact CoLL.refl _) | (refine qabt ?_; omega) | (refine qabs ?_; first | omega | (simp_all; done)) | (with_reducible first | refine qac8 ?_ ?_ | refine qacm ?_ ?_) | ((refine qabn hJ ((i + 1, st')) ?_ ?_ ?_; (with_reducible refine qabe [] hm ?_ ?_ ?_ ?_) <;> (try simp only [zT, puth, Nat.reduceEqDiff, reduceIte, Nat.reduceAdd]))) | fail)
   all_goals first | (exact ⟨by omega, hk'.out, hc'⟩) | (exfalso; omega) | trace_state
  ·have c1 : (C != 0) = true := by simp [c0]
   obtain rfl := hS c0
   replace c0 := Lib.hid c0
   replace hk' := Lib.hid hk'
   replace hst := Lib.hid hst
   clear hS0 hS
   repeat' (first | (with_reducible first | refine zA ?_ | refine qaa3 ?_ | refine qaa2 ?_ | refine zK ?_) | ((with_reducible first | refine qaao ?_ | refine qaal (by rw [hP]; exact mixed) ?_); (try rw [hP]); simp -implicitDefEqProofs [*]) | ((with_reducible first | refine qaah ?_ | refine qaak ?_); (try simp -implicitDefEqProofs [*])) | ((with_reducible refine qabi ?_); (try simp only [qaa4, qaac, qaaj])) | ((with_reducible refine qabc rfl (fun h => ?_) (fun h => ?_)) <;> have h' := h <;> (try simp at h') <;> (try subst h')) | ((with_reducible refine qaaa (fun h => ?_) (fun h => ?_)) <;> have h' := h <;> (try simp at h') <;> (try subst h') <;> simp -implicitDefEqProofs [*]) | ((with_reducible refine qaan ?_ ?_); (first | omega | (unfold maxLen; omega)); simp -implicitDefEqProofs [*]) | ((first | refine qabv (kse _) trivial trivial ?_ | refine qabo (kse _) ?_ | refine qabo (ksh _) ?_ | refine qabv (ka _ (by simp)) ⟨rfl, rfl, trivial⟩ ⟨rfl, rfl, trivial⟩ ?_ | refine qabv (ky _ (by simp)) ⟨rfl, rfl, trivial⟩ ⟨rfl, rfl, trivial⟩ ?_ | refine qacu (kc _ (by simp)) ⟨rfl, rfl, trivial⟩ ⟨rfl, rfl, trivial⟩ ?_ | refine qabv (kl _ (by simp)) ⟨rfl, rfl, trivial⟩ ⟨rfl, rfl, trivial⟩ ?_); simp -implicitDefEqProofs [*]) | (with_reducible first | refine zM hm ?_ | refine zN hm ?_ | refine zO hm ?_ | refine zP hm ?_) | ((with_reducible refine qabe [] hm ?_ ?_ ?_ ?_) <;> (try simp only [zT, puth, Nat.reduceEqDiff, reduceIte, Nat.reduceAdd])) | (with_reducible first | refine za ?_ ?_ | refine zb ?_ ?_ ?_ ?_ | refine zc ?_ ?_ ?_ ?_ | refine zd ?_ ?_ ?_ ?_ | refine qack ?_ ?_ | refine qacg ?_ ?_) | (with_reducible first | exact qab3 | exact qacj | exact qacx | exact qac1 | exact Co.refl _ | exact CoL.refl _ | exact CoLL.refl _) | ((with_reducible first | refine zga ?_ | refine zgb ?_); rfl) | ((with_reducible refine zgc ?_); (first | (with_reducible rfl) | rfl | (simp; done))) | ((with_reducible first | refine zgd ?_ | refine zge ?_); (first | omega | (simp; done))) | (refine qad1 ⟨?_, ?_⟩ ?_ <;> omega) | (exact Co.refl _) | (exact CoL.refl _) | (exact CoLL.refl _) | (refine qabt ?_; omega) | (refine qabs ?_; first | omega | (simp_all; done)) | (with_reducible first | refine qac8 ?_ ?_ | refine qacm ?_ ?_) | ((refine qabn hJ ((i + 1, st')) ?_ ?_ ?_; (with_reducible refine qabe [] hm ?_ ?_ ?_ ?_) <;> (try simp only [zT, puth, Nat.reduceEqDiff, reduceIte, Nat.reduceAdd]))) | fail)
   all_goals first | (exact ⟨by omega, hk'.out, hc'⟩) | (exfalso; omega) | trace_state
 have e1 : (d == 1) = false := by simp [d1]
 by_cases d2 : d = 2
 ·have e2 : (d == 2) = true := by simp [d2]
  clear d2 d1 d0
  have kc := fun q (hq : 43 ≤ q) => qahp (sdrop_s st hst e he2) (fun _ => rfl) (fun _ => rfl) rfl 41 42 q (by decide) (by omega) (by omega)
  have hS := qauk st e
  have hk' : StOk (qaie st e) := qbaf hst he2
  have hc' : (qaie st e).t.cap = t.cap := by rw [← hcap]; unfold qaie; split <;> rfl
  unfold qac2 at kc
  generalize qauu st e = C at kc hS
  generalize qaie st e = st' at kc hS hk' hc'
  obtain ⟨kl, bl⟩ := len_ st' hk' hc'
  by_cases c0 : C = 0
  ·subst c0
   clear hS0 kse ksh hS
   replace hk' := Lib.hid hk'
   replace hst := Lib.hid hst
   repeat' (first | (with_reducible first | refine zA ?_ | refine qaa3 ?_ | refine qaa2 ?_ | refine zK ?_) | ((with_reducible first | refine qaao ?_ | refine qaal (by rw [hP]; exact mixed) ?_); (try rw [hP]); simp -implicitDefEqProofs [*]) | ((with_reducible first | refine qaah ?_ | refine qaak ?_); (try simp -implicitDefEqProofs [*])) | ((with_reducible refine qabi ?_); (try simp only [qaa4, qaac, qaaj])) | ((with_reducible refine qabc rfl (fun h => ?_) (fun h => ?_)) <;> have h' := h <;> (try simp at h') <;> (try subst h')) | ((with_reducible refine qaaa (fun h => ?_) (fun h => ?_)) <;> have h' := h <;> (try simp at h') <;> (try subst h') <;> simp -implicitDefEqProofs [*]) | ((with_reducible refine qaan ?_ ?_); (first | omega | (unfold maxLen; omega)); simp -implicitDefEqProofs [*]) | ((first | refine qacu (ka _ (by simp)) ⟨rfl, rfl, trivial⟩ ⟨rfl, rfl, trivial⟩ ?_ | refine qacu (ky _ (by simp)) ⟨rfl, rfl, trivial⟩ ⟨rfl, rfl, trivial⟩ ?_ | refine qacu (kc _ (by simp)) ⟨rfl, rfl, trivial⟩ ⟨rfl, rfl, trivial⟩ ?_ | refine qabv (kl _ (by simp)) ⟨rfl, rfl, trivial⟩ ⟨rfl, rfl, trivial⟩ ?_); simp -implicitDefEqProofs [*]) | (with_reducible first | refine zM hm ?_ | refine zN hm ?_ | refine zO hm ?_ | refine zP hm ?_) | ((with_reducible refine qabe [] hm ?_ ?_ ?_ ?_) <;> (try simp only [zT, puth, Nat.reduceEqDiff, reduceIte, Nat.reduceAdd])) | (with_reducible first | refine za ?_ ?_ | refine zb ?_ ?_ ?_ ?_ | refine zc ?_ ?_ ?_ ?_ | refine zd ?_ ?_ ?_ ?_ | refine qack ?_ ?_ | refine qacg ?_ ?_) | (with_reducible first | exact qab3 | exact qacj | exact qacx | exact qac1 | exact Co.refl _ | exact CoL.refl _ | exact CoLL.refl _) | ((with_reducible first | refine zga ?_ | refine zgb ?_); rfl) | ((with_reducible refine zgc ?_); (first | (with_reducible rfl) | rfl | (simp; done))) | ((with_reducible first | refine zgd ?_ | refine zge ?_); (first | omega | (simp; done))) | (refine qad1 ⟨?_, ?_⟩ ?_ <;> omega) | (exact Co.refl _) | (exact CoL.refl _) | (exact CoLL.refl _) | (refine qabt ?_; omega) | (refine qabs ?_; first | omega | (simp_all; done)) | (with_reducible first | refine qac8 ?_ ?_ | refine qacm ?_ ?_) | ((refine qabn hJ ((i + 1, st')) ?_ ?_ ?_; (with_reducible refine qabe [] hm ?_ ?_ ?_ ?_) <;> (try simp only [zT, puth, Nat.reduceEqDiff, reduceIte, Nat.reduceAdd]))) | fail)
   all_goals first | (exact ⟨by omega, hk'.out, hc'⟩) | (exfalso; omega) | trace_state
  ·have c1 : (C != 0) = true := by simp [c0]
   obtain rfl := hS c0
   replace c0 := Lib.hid c0
   replace hk' := Lib.hid hk'
   replace hst := Lib.hid hst
   clear hS0 hS
   repeat' (first | (with_reducible first | refine zA ?_ | refine qaa3 ?_ | refine qaa2 ?_ | refine zK ?_) | ((with_reducible first | refine qaao ?_ | refine qaal (by rw [hP]; exact mixed) ?_); (try rw [hP]); simp -implicitDefEqProofs [*]) | ((with_reducible first | refine qaah ?_ | refine qaak ?_); (try simp -implicitDefEqProofs [*])) | ((with_reducible refine qabi ?_); (try simp only [qaa4, qaac, qaaj])) | ((with_reducible refine qabc rfl (fun h => ?_) (fun h => ?_)) <;> have h' := h <;> (try simp at h') <;> (try subst h')) | ((with_reducible refine qaaa (fun h => ?_) (fun h => ?_)) <;> have h' := h <;> (try simp at h') <;> (try subst h') <;> simp -implicitDefEqProofs [*]) | ((with_reducible refine qaan ?_ ?_); (first | omega | (unfold maxLen; omega)); simp -implicitDefEqProofs [*]) | ((first | refine qabv (kse _) trivial trivial ?_ | refine qabo (kse _) ?_ | refine qabo (ksh _) ?_ | refine qabv (ka _ (by simp)) ⟨rfl, rfl, trivial⟩ ⟨rfl, rfl, trivial⟩ ?_ | refine qabv (ky _ (by simp)) ⟨rfl, rfl, trivial⟩ ⟨rfl, rfl, trivial⟩ ?_ | refine qacu (kc _ (by simp)) ⟨rfl, rfl, trivial⟩ ⟨rfl, rfl, trivial⟩ ?_ | refine qabv (kl _ (by simp)) ⟨rfl, rfl, trivial⟩ ⟨rfl, rfl, trivial⟩ ?_); simp -implicitDefEqProofs [*]) | (with_reducible first | refine zM hm ?_ | refine zN hm ?_ | refine zO hm ?_ | refine zP hm ?_) | ((with_reducible refine qabe [] hm ?_ ?_ ?_ ?_) <;> (try simp only [zT, puth, Nat.reduceEqDiff, reduceIte, Nat.reduceAdd])) | (with_reducible first | refine za ?_ ?_ | refine zb ?_ ?_ ?_ ?_ | refine zc ?_ ?_ ?_ ?_ | refine zd ?_ ?_ ?_ ?_ | refine qack ?_ ?_ | refine qacg ?_ ?_) | (with_reducible first | exact qab3 | exact qacj | exact qacx | exact qac1 | exact Co.refl _ | exact CoL.refl _ | exact CoLL.refl _) | ((with_reducible first | refine zga ?_ | refine zgb ?_); rfl) | ((with_reducible refine zgc ?_); (first | (with_reducible rfl) | rfl | (simp; done))) | ((with_reducible first | refine zgd ?_ | refine zge ?_); (first | omega | (simp; done))) | (refine qad1 ⟨?_, ?_⟩ ?_ <;> omega) | (exact Co.refl _) | (exact CoL.refl _) | (exact CoLL.refl _) | (refine qabt ?_; omega) | (refine qabs ?_; first | omega | (simp_all; done)) | (with_reducible first | refine qac8 ?_ ?_ | refine qacm ?_ ?_) | ((refine qabn hJ ((i + 1, st')) ?_ ?_ ?_; (with_reducible refine qabe [] hm ?_ ?_ ?_ ?_) <;> (try simp only [zT, puth, Nat.reduceEqDiff, reduceIte, Nat.reduceAdd]))) | fail)
   all_goals first | (exact ⟨by omega, hk'.out, hc'⟩) | (exfalso; omega) | trace_state
 have e2 : (d == 2) = false := by simp [d2]
 by_cases d3 : d = 3
 ·have e3 : (d == 3) = true := by simp [d3]
  clear d3 d2 d1 d0
  have kh := fun q => qabm (hitOf_s e) (fun _ => rfl) (fun _ => rfl) rfl q
  have kc := fun q (hq : 43 ≤ q) => qahp (sdef_s st hst e.act e.args hsm2) (fun _ => rfl) (fun _ => rfl) rfl 41 42 q (by decide) (by omega) (by omega)
  have hS := qa18 st e.act e.args
  have hk' : StOk (qa1y st e.act e.args) := sdef_ok hst hsm2
  have hc' : (qa1y st e.act e.args).t.cap = t.cap := by rw [← hcap]; unfold qa1y; split <;> rfl
  unfold qac2 at kc
  generalize sdefC st e.act e.args = C at kc hS
  generalize qa1y st e.act e.args = st' at kc hS hk' hc'
  obtain ⟨kl, bl⟩ := len_ st' hk' hc'
  by_cases c0 : C = 0
  ·subst c0
   clear hS0 kse ksh hS
   replace hk' := Lib.hid hk'
   replace hst := Lib.hid hst
   repeat' (first | (with_reducible first | refine zA ?_ | refine qaa3 ?_ | refine qaa2 ?_ | refine zK ?_) | ((with_reducible first | refine qaao ?_ | refine qaal (by rw [hP]; exact mixed) ?_); (try rw [hP]); simp -implicitDefEqProofs [*]) | ((with_reducible first | refine qaah ?_ | refine qaak ?_); (try simp -implicitDefEqProofs [*])) | ((with_reducible refine qabi ?_); (try simp only [qaa4, qaac, qaaj])) | ((with_reducible refine qabc rfl (fun h => ?_) (fun h => ?_)) <;> have h' := h <;> (try simp at h') <;> (try subst h')) | ((with_reducible refine qaaa (fun h => ?_) (fun h => ?_)) <;> have h' := h <;> (try simp at h') <;> (try subst h') <;> simp -implicitDefEqProofs [*]) | ((with_reducible refine qaan ?_ ?_); (first | omega | (unfold maxLen; omega)); simp -implicitDefEqProofs [*]) | ((first | refine qacu (ka _ (by simp)) ⟨rfl, rfl, trivial⟩ ⟨rfl, rfl, trivial⟩ ?_ | refine qacu (ky _ (by simp)) ⟨rfl, rfl, trivial⟩ ⟨rfl, rfl, trivial⟩ ?_ | refine qacu (kc _ (by simp)) ⟨rfl, rfl, trivial⟩ ⟨rfl, rfl, trivial⟩ ?_ | refine qabv (kl _ (by simp)) ⟨rfl, rfl, trivial⟩ ⟨rfl, rfl, trivial⟩ ?_ | refine qabo (kh _) ?_); simp -implicitDefEqProofs [*]) | (with_reducible first | refine zM hm ?_ | refine zN hm ?_ | refine zO hm ?_ | refine zP hm ?_) | ((with_reducible refine qabe [] hm ?_ ?_ ?_ ?_) <;> (try simp only [zT, puth, Nat.reduceEqDiff, reduceIte, Nat.reduceAdd])) | (with_reducible first | refine za ?_ ?_ | refine zb ?_ ?_ ?_ ?_ | refine zc ?_ ?_ ?_ ?_ | refine zd ?_ ?_ ?_ ?_ | refine qack ?_ ?_ | refine qacg ?_ ?_) | (with_reducible first | exact qab3 | exact qacj | exact qacx | exact qac1 | exact Co.refl _ | exact CoL.refl _ | exact CoLL.refl _) | ((with_reducible first | refine zga ?_ | refine zgb ?_); rfl) | ((with_reducible refine zgc ?_); (first | (with_reducible rfl) | rfl | (simp; done))) | ((with_reducible first | refine zgd ?_ | refine zge ?_); (first | omega | (simp; done))) | (refine qad1 ⟨?_, ?_⟩ ?_ <;> omega) | (exact Co.refl _) | (exact CoL.refl _) | (exact CoLL.refl _) | (refine qabt ?_; omega) | (refine qabs ?_; first | omega | (simp_all; done)) | (with_reducible first | refine qac8 ?_ ?_ | refine qacm ?_ ?_) | ((refine qabn hJ ((i + 1, st')) ?_ ?_ ?_; (with_reducible refine qabe [] hm ?_ ?_ ?_ ?_) <;> (try simp only [zT, puth, Nat.reduceEqDiff, reduceIte, Nat.reduceAdd]))) | fail)
   all_goals first | (exact ⟨by omega, hk'.out, hc'⟩) | (exfalso; omega) | trace_state
  ·have c1 : (C != 0) = true := by simp [c0]
   obtain rfl := hS c0
   replace c0 := Lib.hid c0
   replace hk' := Lib.hid hk'
   replace hst := Lib.hid hst
   clear hS0 hS
   repeat' (first | (with_reducible first | refine zA ?_ | refine qaa3 ?_ | refine qaa2 ?_ | refine zK ?_) | ((with_reducible first | refine qaao ?_ | refine qaal (by rw [hP]; exact mixed) ?_); (try rw [hP]); simp -implicitDefEqProofs [*]) | ((with_reducible first | refine qaah ?_ | refine qaak ?_); (try simp -implicitDefEqProofs [*])) | ((with_reducible refine qabi ?_); (try simp only [qaa4, qaac, qaaj])) | ((with_reducible refine qabc rfl (fun h => ?_) (fun h => ?_)) <;> have h' := h <;> (try simp at h') <;> (try subst h')) | ((with_reducible refine qaaa (fun h => ?_) (fun h => ?_)) <;> have h' := h <;> (try simp at h') <;> (try subst h') <;> simp -implicitDefEqProofs [*]) | ((with_reducible refine qaan ?_ ?_); (first | omega | (unfold maxLen; omega)); simp -implicitDefEqProofs [*]) | ((first | refine qabv (kse _) trivial trivial ?_ | refine qabo (kse _) ?_ | refine qabo (ksh _) ?_ | refine qabv (ka _ (by simp)) ⟨rfl, rfl, trivial⟩ ⟨rfl, rfl, trivial⟩ ?_ | refine qabv (ky _ (by simp)) ⟨rfl, rfl, trivial⟩ ⟨rfl, rfl, trivial⟩ ?_ | refine qacu (kc _ (by simp)) ⟨rfl, rfl, trivial⟩ ⟨rfl, rfl, trivial⟩ ?_ | refine qabv (kl _ (by simp)) ⟨rfl, rfl, trivial⟩ ⟨rfl, rfl, trivial⟩ ?_ | refine qabo (kh _) ?_); simp -implicitDefEqProofs [*]) | (with_reducible first | refine zM hm ?_ | refine zN hm ?_ | refine zO hm ?_ | refine zP hm ?_) | ((with_reducible refine qabe [] hm ?_ ?_ ?_ ?_) <;> (try simp only [zT, puth, Nat.reduceEqDiff, reduceIte, Nat.reduceAdd])) | (with_reducible first | refine za ?_ ?_ | refine zb ?_ ?_ ?_ ?_ | refine zc ?_ ?_ ?_ ?_ | refine zd ?_ ?_ ?_ ?_ | refine qack ?_ ?_ | refine qacg ?_ ?_) | (with_reducible first | exact qab3 | exact qacj | exact qacx | exact qac1 | exact Co.refl _ | exact CoL.refl _ | exact CoLL.refl _) | ((with_reducible first | refine zga ?_ | refine zgb ?_); rfl) | ((with_reducible refine zgc ?_); (first | (with_reducible rfl) | rfl | (simp; done))) | ((with_reducible first | refine zgd ?_ | refine zge ?_); (first | omega | (simp; done))) | (refine qad1 ⟨?_, ?_⟩ ?_ <;> omega) | (exact Co.refl _) | (exact CoL.refl _) | (exact CoLL.refl _) | (refine qabt ?_; omega) | (refine qabs ?_; first | omega | (simp_all; done)) | (with_reducible first | refine qac8 ?_ ?_ | refine qacm ?_ ?_) | ((refine qabn hJ ((i + 1, st')) ?_ ?_ ?_; (with_reducible refine qabe [] hm ?_ ?_ ?_ ?_) <;> (try simp only [zT, puth, Nat.reduceEqDiff, reduceIte, Nat.reduceAdd]))) | fail)
   all_goals first | (exact ⟨by omega, hk'.out, hc'⟩) | (exfalso; omega) | trace_state
 have e3 : (d == 3) = false := by simp [d3]
 clear d3 d2 d1 d0
 obtain ⟨kl, bl⟩ := hS0
 replace hst := Lib.hid hst
 repeat' (first | (with_reducible first | refine zA ?_ | refine qaa3 ?_ | refine qaa2 ?_ | refine zK ?_) | ((with_reducible first | refine qaao ?_ | refine qaal (by rw [hP]; exact mixed) ?_); (try rw [hP]); simp -implicitDefEqProofs [*]) | ((with_reducible first | refine qaah ?_ | refine qaak ?_); (try simp -implicitDefEqProofs [*])) | ((with_reducible refine qabi ?_); (try simp only [qaa4, qaac, qaaj])) | ((with_reducible refine qabc rfl (fun h => ?_) (fun h => ?_)) <;> have h' := h <;> (try simp at h') <;> (try subst h')) | ((with_reducible refine qaaa (fun h => ?_) (fun h => ?_)) <;> have h' := h <;> (try simp at h') <;> (try subst h') <;> simp -implicitDefEqProofs [*]) | ((with_reducible refine qaan ?_ ?_); (first | omega | (unfold maxLen; omega)); simp -implicitDefEqProofs [*]) | ((first | refine qacu (ka _ (by simp)) ⟨rfl, rfl, trivial⟩ ⟨rfl, rfl, trivial⟩ ?_ | refine qacu (ky _ (by simp)) ⟨rfl, rfl, trivial⟩ ⟨rfl, rfl, trivial⟩ ?_ | refine qabv (kl _ (by simp)) ⟨rfl, rfl, trivial⟩ ⟨rfl, rfl, trivial⟩ ?_); simp -implicitDefEqProofs [*]) | (with_reducible first | refine zM hm ?_ | refine zN hm ?_ | refine zO hm ?_ | refine zP hm ?_) | ((with_reducible refine qabe [] hm ?_ ?_ ?_ ?_) <;> (try simp only [zT, puth, Nat.reduceEqDiff, reduceIte, Nat.reduceAdd])) | (with_reducible first | refine za ?_ ?_ | refine zb ?_ ?_ ?_ ?_ | refine zc ?_ ?_ ?_ ?_ | refine zd ?_ ?_ ?_ ?_ | refine qack ?_ ?_ | refine qacg ?_ ?_) | (with_reducible first | exact qab3 | exact qacj | exact qacx | exact qac1 | exact Co.refl _ | exact CoL.refl _ | exact CoLL.refl _) | ((with_reducible first | refine zga ?_ | refine zgb ?_); rfl) | ((with_reducible refine zgc ?_); (first | (with_reducible rfl) | rfl | (simp; done))) | ((with_reducible first | refine zgd ?_ | refine zge ?_); (first | omega | (simp; done))) | (refine qad1 ⟨?_, ?_⟩ ?_ <;> omega) | (exact Co.refl _) | (exact CoL.refl _) | (exact CoLL.refl _) | (refine qabt ?_; omega) | (refine qabs ?_; first | omega | (simp_all; done)) | (with_reducible first | refine qac8 ?_ ?_ | refine qacm ?_ ?_) | ((refine qabn hJ ((i + 1, st)) ?_ ?_ ?_; (with_reducible refine qabe [] hm ?_ ?_ ?_ ?_) <;> (try simp only [zT, puth, Nat.reduceEqDiff, reduceIte, Nat.reduceAdd]))) | fail)
 all_goals first | (exact ⟨by omega, hst.out, hcap⟩) | (exfalso; omega) | trace_state
end Go.Proofs.YtalejfkholifpaaGreat
