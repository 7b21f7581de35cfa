/-
  Texts joined: XStoH XStoI XStoM. No condition.
-/
import Derived.WalkSpells
import Derived.RegionTactic
import Derived.BigRegion
import Derived.Deep.RegionLaw
import Derived.Test.YtalejfkholifpaaGreatProg
import Derived.Test.YtalejfkholifpaaGreatStoreSetK20
namespace Go.Proofs.YtalejfkholifpaaGreat
set_option linter.all false
open Go.RowKit
attribute [local simp] qaas qaar qaac qaag qaad qaaf qaap qaaq qaab qaa4 SOp.run SX.ev putd puts argS upds SOp.touch SSt.keep SSt.skip gets geth puth delh idOf SV.cells? setL qab7 qab8 sbin eq0 eq1 eqL qab5 qabh qabi qaa5 qaat qaae qaau qaa6 qaam qaan FrzOk qaba qaa0 qaa8 qaa9 qaav qaaz qabe qaa1 qaax qabb qaaw frzS frzH frz frz1 frz0 SlotsM ObjsM ObjM rn ren ren1 ren0 qabp qabs qabt qabo qabf qab1 qab0 CoL qabc qabw dels adds idsH qabq
attribute [local simp] qaay nums actc
def qav6 (t : TabD) (ws : List Int) (acts : List ActD) : Bool := decide (50 < t.acts.length) || (decide (50 < t.args.length) || (decide (50 < ws.length) || (decide (50 < acts.length) || acts.any fun a => decide (50 < a.w.length))))
theorem qbdd (t : TabD) (ws : List Int) (acts : List ActD) (q : Nat) : SCalls Tryz.prog 7 [.agg (tabc t), nums .i64 ws, .view 2 (acts.map actc)] [] q (.bool (qav6 t ws acts)) [] := by
 refine qabm ?_ (fun _ => rfl) (fun _ => rfl) rfl q
 refine qaai (N := 41) Tryz.func7 rfl rfl (by kernel_rfl) qamo (by simp) (by repeat' (first | exact trivial | refine And.intro ?_ ?_ | rfl | decide | exact PureR.ren _)) (by repeat' (first | exact trivial | refine And.intro ?_ ?_ | rfl | decide | exact PureR.ren _)) ?_
 rintro X hP hN hm
 obtain ⟨F, hF⟩ : ∃ F, F = qav6 t ws acts := ⟨_, rfl⟩
 rw [← hF]
 unfold qav6 at hF
 unfold c_tgreat tabc
 replace hF := Lib.hid hF
 repeat' (first | (with_reducible first | refine zA ?_ | refine qaa3 ?_ | refine qaa2 ?_ | refine zK ?_) | ((with_reducible first | refine qaao ?_ | refine qaak (by rw [hP]; exact mixed) ?_); (try rw [hP]); simp -implicitDefEqProofs [*]) | ((with_reducible first | refine qaah ?_ | refine qaaj ?_); (try simp -implicitDefEqProofs [*])) | ((with_reducible refine qabl ?_); (try simp only [qaa5, qaae, qaam])) | ((with_reducible refine qabd rfl (fun h => ?_) (fun h => ?_)) <;> have h' := h <;> (try simp at h') <;> (try subst h')) | ((with_reducible refine qaaa (fun h => ?_) (fun h => ?_)) <;> have h' := h <;> (try simp at h') <;> (try subst h') <;> simp -implicitDefEqProofs [*]) | ((with_reducible refine qaal ?_ ?_); (first | omega | (unfold maxLen; omega)); simp -implicitDefEqProofs [*]) | (with_reducible first | refine zM hm ?_ | refine zN hm ?_ | refine zO hm ?_ | refine zP hm ?_) | fail)
 ·rw [hF.out, decide_eq_true (show 50 < t.acts.length by omega)]; rfl
 ·rw [hF.out, decide_eq_true (show 50 < t.args.length by omega)]; simp
 ·rw [hF.out, decide_eq_true (show 50 < ws.length by omega)]; simp
 ·rw [hF.out, decide_eq_true (show 50 < acts.length by omega)]; simp
 have hG : F = acts.any fun a => decide (50 < a.w.length) := by
  rw [hF.out, decide_eq_false (show ¬ 50 < t.acts.length by omega), decide_eq_false (show ¬ 50 < t.args.length by omega), decide_eq_false (show ¬ 50 < ws.length by omega), decide_eq_false (show ¬ 50 < acts.length by omega)]
  rfl
 replace hF := Lib.hid hG
 clear hG
 refine qabj (qacp (fun s (i : Nat) => s.turn [(7, .int .i64 i)] []) (fun i => i ≤ acts.length ∧ F = (acts.drop i).any fun a => decide (50 < a.w.length)) (fun i => acts.length - i) 0 ?_ ⟨by simp, hF.out⟩ ?_)
 ·repeat' (first | ((with_reducible refine qabg [] hm ?_ ?_ ?_ ?_) <;> (try simp only [zT, puth, Nat.reduceEqDiff, reduceIte, Nat.reduceAdd])) | (with_reducible first | refine za ?_ ?_ | refine zb ?_ ?_ ?_ ?_ | refine zc ?_ ?_ ?_ ?_ | refine zd ?_ ?_ ?_ ?_ | refine qacs ?_ ?_ | refine qacq ?_ ?_) | (with_reducible first | exact qacc | exact qacr | exact qada | exact qadc | exact Co.refl _ | exact CoL.refl _ | exact CoLL.refl _) | ((with_reducible first | refine zga ?_ | refine zgb ?_); rfl) | ((with_reducible refine zgc ?_); (first | (with_reducible rfl) | rfl | (simp; done))) | ((with_reducible first | refine zgd ?_ | refine zge ?_); (first | omega | (simp; done))) | (refine qaee ⟨?_, ?_⟩ ?_ <;> omega) | (exact Co.refl _) | (exact CoL.refl _) | (exact CoLL.refl _) | (refine qabt ?_; omega) | (refine qabs ?_; first | omega | (simp_all; done)) | (with_reducible first | refine qadi ?_ ?_ | refine qacy ?_ ?_) | fail)
 rintro J hJ i ⟨h1, h2⟩
 unfold qaj6
 simp only [zT, puth, Nat.reduceEqDiff, reduceIte, Nat.reduceAdd] at h1 h2 ⊢
 rcases Nat.lt_or_ge i acts.length with hi | hi
 ·rw [List.drop_eq_getElem_cons hi, List.any_cons] at h2
  have wi : IntKind.i64.wrap ((i : Int) + 1) = (i : Int) + 1 := qabz (by omega) (by omega)
  generalize hx : acts[i] = x at h2
  rw [show decide (50 < x.w.length) = decide ((50 : Int) < (x.w.length : Int)) by congr 1; exact propext (by omega)] at h2
  replace h2 := Lib.hid h2
  cases hv : decide ((50 : Int) < (x.w.length : Int))
  ·repeat' (first | (with_reducible first | refine zA ?_ | refine qaa3 ?_ | refine qaa2 ?_ | refine zK ?_) | ((with_reducible first | refine qaao ?_ | refine qaak (by rw [hP]; exact mixed) ?_); (try rw [hP]); simp -implicitDefEqProofs [*]) | ((with_reducible first | refine qaah ?_ | refine qaaj ?_); (try simp -implicitDefEqProofs [*])) | ((with_reducible refine qabl ?_); (try simp only [qaa5, qaae, qaam])) | ((with_reducible refine qabd rfl (fun h => ?_) (fun h => ?_)) <;> have h' := h <;> (try simp at h') <;> (try subst h')) | ((with_reducible refine qaaa (fun h => ?_) (fun h => ?_)) <;> have h' := h <;> (try simp at h') <;> (try subst h') <;> simp -implicitDefEqProofs [*]) | ((with_reducible refine qaal ?_ ?_); (first | omega | (unfold maxLen; omega)); simp -implicitDefEqProofs [*]) | (with_reducible first | refine zM hm ?_ | refine zN hm ?_ | refine zO hm ?_ | refine zP hm ?_) | ((with_reducible refine qabg [] hm ?_ ?_ ?_ ?_) <;> (try simp only [zT, puth, Nat.reduceEqDiff, reduceIte, Nat.reduceAdd])) | (with_reducible first | refine za ?_ ?_ | refine zb ?_ ?_ ?_ ?_ | refine zc ?_ ?_ ?_ ?_ | refine zd ?_ ?_ ?_ ?_ | refine qacs ?_ ?_ | refine qacq ?_ ?_) | (with_reducible first | exact qacc | exact qacr | exact qada | exact qadc | exact Co.refl _ | exact CoL.refl _ | exact CoLL.refl _) | ((with_reducible first | refine zga ?_ | refine zgb ?_); rfl) | ((with_reducible refine zgc ?_); (first | (with_reducible rfl) | rfl | (simp; done))) | ((with_reducible first | refine zgd ?_ | refine zge ?_); (first | omega | (simp; done))) | (refine qaee ⟨?_, ?_⟩ ?_ <;> omega) | (exact Co.refl _) | (exact CoL.refl _) | (exact CoLL.refl _) | (refine qabt ?_; omega) | (refine qabs ?_; first | omega | (simp_all; done)) | (with_reducible first | refine qadi ?_ ?_ | refine qacy ?_ ?_) | ((refine qabn hJ (i + 1) ?_ ?_ ?_; (with_reducible refine qabg [] hm ?_ ?_ ?_ ?_) <;> (try simp only [zT, puth, Nat.reduceEqDiff, reduceIte, Nat.reduceAdd]))) | fail)
   refine ⟨by omega, ?_⟩
   rw [h2.out, hv, Bool.false_or]
  ·repeat' (first | (with_reducible first | refine zA ?_ | refine qaa3 ?_ | refine qaa2 ?_ | refine zK ?_) | ((with_reducible first | refine qaao ?_ | refine qaak (by rw [hP]; exact mixed) ?_); (try rw [hP]); simp -implicitDefEqProofs [*]) | ((with_reducible first | refine qaah ?_ | refine qaaj ?_); (try simp -implicitDefEqProofs [*])) | ((with_reducible refine qabl ?_); (try simp only [qaa5, qaae, qaam])) | ((with_reducible refine qabd rfl (fun h => ?_) (fun h => ?_)) <;> have h' := h <;> (try simp at h') <;> (try subst h')) | ((with_reducible refine qaaa (fun h => ?_) (fun h => ?_)) <;> have h' := h <;> (try simp at h') <;> (try subst h') <;> simp -implicitDefEqProofs [*]) | ((with_reducible refine qaal ?_ ?_); (first | omega | (unfold maxLen; omega)); simp -implicitDefEqProofs [*]) | (with_reducible first | refine zM hm ?_ | refine zN hm ?_ | refine zO hm ?_ | refine zP hm ?_) | fail)
   rw [h2.out, hv]; rfl
 ·obtain rfl : i = acts.length := by omega
  rw [List.drop_length] at h2
  replace h2 := Lib.hid h2
  repeat' (first | (with_reducible first | refine zA ?_ | refine qaa3 ?_ | refine qaa2 ?_ | refine zK ?_) | ((with_reducible first | refine qaao ?_ | refine qaak (by rw [hP]; exact mixed) ?_); (try rw [hP]); simp -implicitDefEqProofs [*]) | ((with_reducible first | refine qaah ?_ | refine qaaj ?_); (try simp -implicitDefEqProofs [*])) | ((with_reducible refine qabl ?_); (try simp only [qaa5, qaae, qaam])) | ((with_reducible refine qabd rfl (fun h => ?_) (fun h => ?_)) <;> have h' := h <;> (try simp at h') <;> (try subst h')) | ((with_reducible refine qaaa (fun h => ?_) (fun h => ?_)) <;> have h' := h <;> (try simp at h') <;> (try subst h') <;> simp -implicitDefEqProofs [*]) | ((with_reducible refine qaal ?_ ?_); (first | omega | (unfold maxLen; omega)); simp -implicitDefEqProofs [*]) | (with_reducible first | refine zM hm ?_ | refine zN hm ?_ | refine zO hm ?_ | refine zP hm ?_) | fail)
  rw [h2.out]; rfl
end Go.Proofs.YtalejfkholifpaaGreat
namespace Go.Proofs.YtalejfkholifpaaGreat
set_option linter.all false
open Go.RowKit
attribute [local simp] qaas qaar qaac qaag qaad qaaf qaap qaaq qaab qaa4 SOp.run SX.ev putd puts argS upds SOp.touch SSt.keep SSt.skip gets geth puth delh idOf SV.cells? setL qab7 qab8 sbin eq0 eq1 eqL qab5 qabh qabi qaa5 qaat qaae qaau qaa6 qaam qaan FrzOk qaba qaa0 qaa8 qaa9 qaav qaaz qabe qaa1 qaax qabb qaaw frzS frzH frz frz1 frz0 SlotsM ObjsM ObjM rn ren ren1 ren0 qabp qabs qabt qabo qabf qab1 qab0 CoL qabc qabw dels adds idsH qabq
attribute [local simp] qaay nums actc hitc qaem qalg
theorem snew_q (t : TabD) (ws : List Int) (acts : List ActD) (ha : AW acts) (h1 : t.acts.length ≤ 1000000) (h2 : t.args.length ≤ 1000000) (h3 : ws.length ≤ 1000000) (h4 : acts.length ≤ 1000000) (h5 : ∀ a ∈ acts, a.w.length ≤ 1000000) (he : qaei t ws acts = 0) (q : Nat) : SCalls Tryz.prog 9 [.agg (tabc t), nums .i64 ws, .view 2 (acts.map actc)] [] q (.tup [.ptr q 0, .agg [.int .i64 0, .int .i64 0]]) (qac2 (qahw t ws acts) q (q + 1)) := by
 have e0 : sg [] q 0 = q := rfl
 have e1 : sg [] q 1 = q + 1 := rfl
 have e : ∀ s : StoD, (scs s 1).map (Go.Proofs.YtalejfkholifpaaGreat.ren (sg [] q)) = scs s (q + 1) := fun s => qawn s e1
 refine qadd [] (snew_s t ws acts ha h1 h2 h3 h4 h5 he) rfl (by simp) (by simp) rfl trivial (by simp [idsH]) (by simp [Go.Proofs.YtalejfkholifpaaGreat.ren, ren1, ren0, e0]) rfl ?_ (by simp [idsH, qac2]) (by simp [idsH, qac2, e0, e1])
 exact ⟨⟨.cells _ (scs (qahw t ws acts) (q + 1)), by rw [e0]; simp [geth, qac2], rfl, rfl, (e _).symm⟩, ⟨.abs (qahw t ws acts).F.I, by rw [e1]; simp [geth, qac2], rfl⟩, trivial⟩
theorem qba9 {l : List TStep} (h : bigS l = false) : l.length ≤ 200 ∧ ∀ s ∈ l, s.e.keys.length ≤ 20 ∧ s.e.masks.length ≤ 20 ∧ s.e.args.length ≤ 20 := by
 unfold bigS at h
 simp only [Bool.or_eq_false_iff, decide_eq_false_iff_not, List.any_eq_false] at h
 refine ⟨by omega, fun s hs => ?_⟩
 have := h.2 s hs
 unfold bigE at this
 simp at this
 omega
end Go.Proofs.YtalejfkholifpaaGreat
namespace Go.Proofs.YtalejfkholifpaaGreat
set_option linter.all false
open Go.RowKit
attribute [local simp] qaas qaar qaac qaag qaad qaaf qaap qaaq qaab qaa4 SOp.run SX.ev putd puts argS upds SOp.touch SSt.keep SSt.skip gets geth puth delh idOf SV.cells? setL qab7 qab8 sbin eq0 eq1 eqL qab5 qabh qabi qaa5 qaat qaae qaau qaa6 qaam qaan FrzOk qaba qaa0 qaa8 qaa9 qaav qaaz qabe qaa1 qaax qabb qaaw frzS frzH frz frz1 frz0 SlotsM ObjsM ObjM rn ren ren1 ren0 qabp qabs qabt qabo qabf qab1 qab0 CoL qabc qabw dels adds idsH qabq
attribute [local simp] qaay nums actc hitc qaem qalg
def cutE (cut : Int) (n : Nat) : Nat := (IntKind.u64.wrap cut % (n : Int)).toNat
theorem cutE_lt {cut : Int} {n : Nat} (h : 0 < n) : cutE cut n < n := by
 unfold cutE
 have := Int.emod_lt_of_pos (IntKind.u64.wrap cut) (show (0 : Int) < n by omega)
 have := Int.emod_nonneg (IntKind.u64.wrap cut) (show (n : Int) ≠ 0 by omega)
 omega
set_option maxHeartbeats 4000000 in
set_option maxRecDepth 4000 in
theorem sset_s (t : TabD) (ws : List Int) (acts : List ActD) (l : List TStep) (cut : Int) (ha : AW acts) (hfit : ∀ s ∈ l, FitE s.e) : SCalls Tryz.prog 3 [.agg (tabc t), nums .i64 ws, .view 2 (acts.map actc), qa4x l, .int .i64 cut] [] 0 (.bool true) [] := by
 refine qaai (N := 172) Tryz.func3 rfl rfl (by kernel_rfl) qatj (by simp) (by repeat' (first | exact trivial | refine And.intro ?_ ?_ | rfl | decide | exact PureR.ren _)) (by repeat' (first | exact trivial | refine And.intro ?_ ?_ | rfl | decide | exact PureR.ren _)) ?_
 rintro X hP hN hm
 unfold c_sset tabc
 have kg := fun q => qbdd t ws acts q
 have kb := fun q => qabm (great_s l) (fun _ => rfl) (fun _ => rfl) rfl q
 unfold qa4x at kb ⊢
 cases g1 : qav6 t ws acts <;> rw [g1] at kg
 rotate_left 1
 ·repeat' (first | (with_reducible first | refine zA ?_ | refine qaa3 ?_ | refine qaa2 ?_ | refine zK ?_) | ((with_reducible first | refine qaao ?_ | refine qaak (by rw [hP]; exact mixed) ?_); (try rw [hP]); simp -implicitDefEqProofs [*]) | ((with_reducible first | refine qaah ?_ | refine qaaj ?_); (try simp -implicitDefEqProofs [*])) | ((with_reducible refine qabl ?_); (try simp only [qaa5, qaae, qaam])) | ((with_reducible refine qabd rfl (fun h => ?_) (fun h => ?_)) <;> have h' := h <;> (try simp at h') <;> (try subst h')) | ((with_reducible refine qaaa (fun h => ?_) (fun h => ?_)) <;> have h' := h <;> (try simp at h') <;> (try subst h') <;> simp -implicitDefEqProofs [*]) | ((with_reducible refine qaal ?_ ?_); (first | omega | (unfold maxLen; omega)); simp -implicitDefEqProofs [*]) | ((first | refine qabr (qaqv _) ?_ | refine qabr (kg _) ?_); simp -implicitDefEqProofs [*]) | (with_reducible first | refine zM hm ?_ | refine zN hm ?_ | refine zO hm ?_ | refine zP hm ?_) | fail)
  all_goals rfl
 cases g2 : bigS l <;> rw [g2] at kb
 rotate_left 1
 ·repeat' (first | (with_reducible first | refine zA ?_ | refine qaa3 ?_ | refine qaa2 ?_ | refine zK ?_) | ((with_reducible first | refine qaao ?_ | refine qaak (by rw [hP]; exact mixed) ?_); (try rw [hP]); simp -implicitDefEqProofs [*]) | ((with_reducible first | refine qaah ?_ | refine qaaj ?_); (try simp -implicitDefEqProofs [*])) | ((with_reducible refine qabl ?_); (try simp only [qaa5, qaae, qaam])) | ((with_reducible refine qabd rfl (fun h => ?_) (fun h => ?_)) <;> have h' := h <;> (try simp at h') <;> (try subst h')) | ((with_reducible refine qaaa (fun h => ?_) (fun h => ?_)) <;> have h' := h <;> (try simp at h') <;> (try subst h') <;> simp -implicitDefEqProofs [*]) | ((with_reducible refine qaal ?_ ?_); (first | omega | (unfold maxLen; omega)); simp -implicitDefEqProofs [*]) | ((first | refine qabr (qaqv _) ?_ | refine qabr (kg _) ?_ | refine qabr (kb _) ?_); simp -implicitDefEqProofs [*]) | (with_reducible first | refine zM hm ?_ | refine zN hm ?_ | refine zO hm ?_ | refine zP hm ?_) | fail)
  all_goals rfl
 obtain ⟨hl, hsm⟩ := qba9 g2
 unfold qav6 at g1
 simp only [Bool.or_eq_false_iff, decide_eq_false_iff_not, List.any_eq_false, decide_eq_true_eq] at g1
 obtain ⟨t1, t2, t3, t4, t5⟩ := g1
 have t6 : ∀ a ∈ acts, a.w.length ≤ 1000000 := fun a ham => by have := t5 a ham; omega
 by_cases he : qaei t ws acts = 0
 rotate_left 1
 ·have kn := fun q => snew_no t ws acts ha (by omega) (by omega) (by omega) (by omega) he q
  generalize qaei t ws acts = K at he kn
  have b1 : (K != 0) = true := by simp [he]
  replace he := Lib.hid he
  clear t5 t6
  unfold tabc nums at kn
  repeat' (first | (with_reducible first | refine zA ?_ | refine qaa3 ?_ | refine qaa2 ?_ | refine zK ?_) | ((with_reducible first | refine qaao ?_ | refine qaak (by rw [hP]; exact mixed) ?_); (try rw [hP]); simp -implicitDefEqProofs [*]) | ((with_reducible first | refine qaah ?_ | refine qaaj ?_); (try simp -implicitDefEqProofs [*])) | ((with_reducible refine qabl ?_); (try simp only [qaa5, qaae, qaam])) | ((with_reducible refine qabd rfl (fun h => ?_) (fun h => ?_)) <;> have h' := h <;> (try simp at h') <;> (try subst h')) | ((with_reducible refine qaaa (fun h => ?_) (fun h => ?_)) <;> have h' := h <;> (try simp at h') <;> (try subst h') <;> simp -implicitDefEqProofs [*]) | ((with_reducible refine qaal ?_ ?_); (first | omega | (unfold maxLen; omega)); simp -implicitDefEqProofs [*]) | ((first | refine qabr (qaqv _) ?_ | refine qabr (kg _) ?_ | refine qabr (kb _) ?_ | refine qabr (kn _) ?_); simp -implicitDefEqProofs [*]) | (with_reducible first | refine zM hm ?_ | refine zN hm ?_ | refine zO hm ?_ | refine zP hm ?_) | fail)
  all_goals first | rfl | (simp; done) | (exfalso; omega) | trace_state
 have kn := fun q => snew_q t ws acts ha (by omega) (by omega) (by omega) (by omega) t6 he q
 unfold tabc nums qac2 at kn
 have hfl := qbe2 ha (by omega) he
 have hne := qaxi he
 have nf : (qahw t ws acts).F = qael t ws := rfl
 rw [nf] at kn
 generalize qael t ws = F0 at kn hfl hne nf
 have hs0 : ∀ j, scs (qahw t ws acts) j = scs (stF (qahw t ws acts) F0) j := fun j => by rw [← nf]; rfl
 simp only [hs0] at kn
 clear hs0
 generalize qahw t ws acts = s0 at kn hfl nf
 clear t5 t6
 replace he := Lib.hid he
 repeat' (first | (with_reducible first | refine zA ?_ | refine qaa3 ?_ | refine qaa2 ?_ | refine zK ?_) | ((with_reducible first | refine qaao ?_ | refine qaak (by rw [hP]; exact mixed) ?_); (try rw [hP]); simp -implicitDefEqProofs [*]) | ((with_reducible first | refine qaah ?_ | refine qaaj ?_); (try simp -implicitDefEqProofs [*])) | ((with_reducible refine qabl ?_); (try simp only [qaa5, qaae, qaam])) | ((with_reducible refine qabd rfl (fun h => ?_) (fun h => ?_)) <;> have h' := h <;> (try simp at h') <;> (try subst h')) | ((with_reducible refine qaaa (fun h => ?_) (fun h => ?_)) <;> have h' := h <;> (try simp at h') <;> (try subst h') <;> simp -implicitDefEqProofs [*]) | ((with_reducible refine qaal ?_ ?_); (first | omega | (unfold maxLen; omega)); simp -implicitDefEqProofs [*]) | ((first | refine qabr (qaqv _) ?_ | refine qabr (kg _) ?_ | refine qabr (kb _) ?_ | refine qad9 (kn _) trivial ⟨rfl, rfl, trivial⟩ ?_); simp -implicitDefEqProofs [*]) | (with_reducible first | refine zM hm ?_ | refine zN hm ?_ | refine zO hm ?_ | refine zP hm ?_) | fail)
 all_goals (try (with_reducible rfl))
 refine qabj (qacp (fun s (z : Nat × Fin_) => s.turn [(15, .int .i64 z.1)] [(36, .cells 76 (scs (stF s0 z.2) 37)), (37, .abs z.2.I)]) (fun z => z.1 ≤ l.length ∧ Filled s0 z.2) (fun z => l.length - z.1) (0, F0) ?_ ⟨by simp, hfl⟩ ?_)
 ·repeat' (first | ((with_reducible refine qabg [] hm ?_ ?_ ?_ ?_) <;> (try simp only [zT, puth, Nat.reduceEqDiff, reduceIte, Nat.reduceAdd])) | (with_reducible first | refine za ?_ ?_ | refine zb ?_ ?_ ?_ ?_ | refine zc ?_ ?_ ?_ ?_ | refine zd ?_ ?_ ?_ ?_ | refine qacs ?_ ?_ | refine qacq ?_ ?_) | (with_reducible first | exact qacc | exact qacr | exact qada | exact qadc | exact Co.refl _ | exact CoL.refl _ | exact CoLL.refl _) | ((with_reducible first | refine zga ?_ | refine zgb ?_); rfl) | ((with_reducible refine zgc ?_); (first | (with_reducible rfl) | rfl | (simp; done))) | ((with_reducible first | refine zgd ?_ | refine zge ?_); (first | omega | (simp; done))) | (refine qaee ⟨?_, ?_⟩ ?_ <;> omega) | (exact Co.refl _) | (exact CoL.refl _) | (exact CoLL.refl _) | (refine qabt ?_; omega) | (refine qabs ?_; first | omega | (simp_all; done)) | (with_reducible first | refine qadi ?_ ?_ | refine qacy ?_ ?_) | fail)
 have hF0 : Half s0 [] 0 F0 := ⟨hfl.ok, hfl.like, by rw [hne]; exact List.Perm.nil⟩
 clear hfl kn
 rintro J hJ ⟨i, F⟩ ⟨h1, hF⟩
 unfold qar1
 simp only [zT, puth, Nat.reduceEqDiff, reduceIte, Nat.reduceAdd] at h1 hF ⊢
 rcases Nat.lt_or_ge i l.length with hi | hi
 ·have wi : IntKind.i64.wrap ((i : Int) + 1) = (i : Int) + 1 := qabz (by omega) (by omega)
  have hx1 := hsm l[i] (List.getElem_mem hi)
  have hx2 := hfit l[i] (List.getElem_mem hi)
  obtain ⟨x, hx⟩ : ∃ x, x = l[i] := ⟨_, rfl⟩
  rw [← hx] at hx1 hx2
  have hg : l[i] = x := hx.symm
  obtain ⟨d, e⟩ := x
  have he2 : EOk e := ⟨⟨by simp only at hx1; omega, by simp only at hx1; omega, by simp only at hx1; omega⟩, hx2, by simp only at hx1; omega⟩
  clear hx hx1 hx2
  by_cases d0 : d = 0
  ·have e0 : (d == 0) = true := by simp [d0]
   clear d0
   obtain ⟨e1, n1⟩ := qbe4 hF he2
   have kc := fun q (hq : 55 ≤ q) => qagb (sadd_s (stF s0 F) hF.ok e he2) (fun _ => rfl) (fun _ => rfl) rfl 36 37 q (by decide) (by omega) (by omega)
   rw [e1] at kc
   generalize (qaws (stF s0 F) e).F = F' at kc n1
   unfold qac2 at kc
   generalize saddC (stF s0 F) e = C at kc
   replace n1 := Lib.hid n1
   clear e1 hF
   repeat' (first | (with_reducible first | refine zA ?_ | refine qaa3 ?_ | refine qaa2 ?_ | refine zK ?_) | ((with_reducible first | refine qaao ?_ | refine qaak (by rw [hP]; exact mixed) ?_); (try rw [hP]); simp -implicitDefEqProofs [*]) | ((with_reducible first | refine qaah ?_ | refine qaaj ?_); (try simp -implicitDefEqProofs [*])) | ((with_reducible refine qabl ?_); (try simp only [qaa5, qaae, qaam])) | ((with_reducible refine qabd rfl (fun h => ?_) (fun h => ?_)) <;> have h' := h <;> (try simp at h') <;> (try subst h')) | ((with_reducible refine qaaa (fun h => ?_) (fun h => ?_)) <;> have h' := h <;> (try simp at h') <;> (try subst h') <;> simp -implicitDefEqProofs [*]) | ((with_reducible refine qaal ?_ ?_); (first | omega | (unfold maxLen; omega)); simp -implicitDefEqProofs [*]) | (refine qad9 (kc _ (by simp)) ⟨rfl, rfl, trivial⟩ ⟨rfl, rfl, trivial⟩ ?_; simp -implicitDefEqProofs [*]) | (with_reducible first | refine zM hm ?_ | refine zN hm ?_ | refine zO hm ?_ | refine zP hm ?_) | ((with_reducible refine qabg [] hm ?_ ?_ ?_ ?_) <;> (try simp only [zT, puth, Nat.reduceEqDiff, reduceIte, Nat.reduceAdd])) | (with_reducible first | refine za ?_ ?_ | refine zb ?_ ?_ ?_ ?_ | refine zc ?_ ?_ ?_ ?_ | refine zd ?_ ?_ ?_ ?_ | refine qacs ?_ ?_ | refine qacq ?_ ?_) | (with_reducible first | exact qacc | exact qacr | exact qada | exact qadc | exact Co.refl _ | exact CoL.refl _ | exact CoLL.refl _) | ((with_reducible first | refine zga ?_ | refine zgb ?_); rfl) | ((with_reducible refine zgc ?_); (first | (with_reducible rfl) | rfl | (simp; done))) | ((with_reducible first | refine zgd ?_ | refine zge ?_); (first | omega | (simp; done))) | (refine qaee ⟨?_, ?_⟩ ?_ <;> omega) | (exact Co.refl _) | (exact CoL.refl _) | (exact CoLL.refl _) | (refine qabt ?_; omega) | (refine qabs ?_; first | omega | (simp_all; done)) | (with_reducible first | refine qadi ?_ ?_ | refine qacy ?_ ?_) | ((refine qabn hJ ((i + 1, F')) ?_ ?_ ?_; (with_reducible refine qabg [] hm ?_ ?_ ?_ ?_) <;> (try simp only [zT, puth, Nat.reduceEqDiff, reduceIte, Nat.reduceAdd]))) | fail)
   all_goals first | (exact ⟨by omega, n1.out⟩) | trace_state
  have e0 : (d == 0) = false := by simp [d0]
  by_cases d1 : d = 1
  ·have e1 : (d == 1) = true := by simp [d1]
   clear d1 d0
   obtain ⟨e9, n1⟩ := qbe3 hF he2
   have kc := fun q (hq : 55 ≤ q) => qagb (schg_s (stF s0 F) hF.ok e he2) (fun _ => rfl) (fun _ => rfl) rfl 36 37 q (by decide) (by omega) (by omega)
   rw [e9] at kc
   generalize (qa43 (stF s0 F) e).F = F' at kc n1
   unfold qac2 at kc
   generalize schgC (stF s0 F) e = C at kc
   replace n1 := Lib.hid n1
   clear e9 hF
   repeat' (first | (with_reducible first | refine zA ?_ | refine qaa3 ?_ | refine qaa2 ?_ | refine zK ?_) | ((with_reducible first | refine qaao ?_ | refine qaak (by rw [hP]; exact mixed) ?_); (try rw [hP]); simp -implicitDefEqProofs [*]) | ((with_reducible first | refine qaah ?_ | refine qaaj ?_); (try simp -implicitDefEqProofs [*])) | ((with_reducible refine qabl ?_); (try simp only [qaa5, qaae, qaam])) | ((with_reducible refine qabd rfl (fun h => ?_) (fun h => ?_)) <;> have h' := h <;> (try simp at h') <;> (try subst h')) | ((with_reducible refine qaaa (fun h => ?_) (fun h => ?_)) <;> have h' := h <;> (try simp at h') <;> (try subst h') <;> simp -implicitDefEqProofs [*]) | ((with_reducible refine qaal ?_ ?_); (first | omega | (unfold maxLen; omega)); simp -implicitDefEqProofs [*]) | (refine qad9 (kc _ (by simp)) ⟨rfl, rfl, trivial⟩ ⟨rfl, rfl, trivial⟩ ?_; simp -implicitDefEqProofs [*]) | (with_reducible first | refine zM hm ?_ | refine zN hm ?_ | refine zO hm ?_ | refine zP hm ?_) | ((with_reducible refine qabg [] hm ?_ ?_ ?_ ?_) <;> (try simp only [zT, puth, Nat.reduceEqDiff, reduceIte, Nat.reduceAdd])) | (with_reducible first | refine za ?_ ?_ | refine zb ?_ ?_ ?_ ?_ | refine zc ?_ ?_ ?_ ?_ | refine zd ?_ ?_ ?_ ?_ | refine qacs ?_ ?_ | refine qacq ?_ ?_) | (with_reducible first | exact qacc | exact qacr | exact qada | exact qadc | exact Co.refl _ | exact CoL.refl _ | exact CoLL.refl _) | ((with_reducible first | refine zga ?_ | refine zgb ?_); rfl) | ((with_reducible refine zgc ?_); (first | (with_reducible rfl) | rfl | (simp; done))) | ((with_reducible first | refine zgd ?_ | refine zge ?_); (first | omega | (simp; done))) | (refine qaee ⟨?_, ?_⟩ ?_ <;> omega) | (exact Co.refl _) | (exact CoL.refl _) | (exact CoLL.refl _) | (refine qabt ?_; omega) | (refine qabs ?_; first | omega | (simp_all; done)) | (with_reducible first | refine qadi ?_ ?_ | refine qacy ?_ ?_) | ((refine qabn hJ ((i + 1, F')) ?_ ?_ ?_; (with_reducible refine qabg [] hm ?_ ?_ ?_ ?_) <;> (try simp only [zT, puth, Nat.reduceEqDiff, reduceIte, Nat.reduceAdd]))) | fail)
   all_goals first | (exact ⟨by omega, n1.out⟩) | trace_state
  have e1 : (d == 1) = false := by simp [d1]
  by_cases d2 : d = 2
  ·have e2 : (d == 2) = true := by simp [d2]
   clear d2 d1 d0
   obtain ⟨e9, n1⟩ := qa57 hF he2
   have kc := fun q (hq : 55 ≤ q) => qagb (sdrop_s (stF s0 F) hF.ok e he2) (fun _ => rfl) (fun _ => rfl) rfl 36 37 q (by decide) (by omega) (by omega)
   rw [e9] at kc
   generalize (qakg (stF s0 F) e).F = F' at kc n1
   unfold qac2 at kc
   generalize qbdm (stF s0 F) e = C at kc
   replace n1 := Lib.hid n1
   clear e9 hF
   repeat' (first | (with_reducible first | refine zA ?_ | refine qaa3 ?_ | refine qaa2 ?_ | refine zK ?_) | ((with_reducible first | refine qaao ?_ | refine qaak (by rw [hP]; exact mixed) ?_); (try rw [hP]); simp -implicitDefEqProofs [*]) | ((with_reducible first | refine qaah ?_ | refine qaaj ?_); (try simp -implicitDefEqProofs [*])) | ((with_reducible refine qabl ?_); (try simp only [qaa5, qaae, qaam])) | ((with_reducible refine qabd rfl (fun h => ?_) (fun h => ?_)) <;> have h' := h <;> (try simp at h') <;> (try subst h')) | ((with_reducible refine qaaa (fun h => ?_) (fun h => ?_)) <;> have h' := h <;> (try simp at h') <;> (try subst h') <;> simp -implicitDefEqProofs [*]) | ((with_reducible refine qaal ?_ ?_); (first | omega | (unfold maxLen; omega)); simp -implicitDefEqProofs [*]) | (refine qad9 (kc _ (by simp)) ⟨rfl, rfl, trivial⟩ ⟨rfl, rfl, trivial⟩ ?_; simp -implicitDefEqProofs [*]) | (with_reducible first | refine zM hm ?_ | refine zN hm ?_ | refine zO hm ?_ | refine zP hm ?_) | ((with_reducible refine qabg [] hm ?_ ?_ ?_ ?_) <;> (try simp only [zT, puth, Nat.reduceEqDiff, reduceIte, Nat.reduceAdd])) | (with_reducible first | refine za ?_ ?_ | refine zb ?_ ?_ ?_ ?_ | refine zc ?_ ?_ ?_ ?_ | refine zd ?_ ?_ ?_ ?_ | refine qacs ?_ ?_ | refine qacq ?_ ?_) | (with_reducible first | exact qacc | exact qacr | exact qada | exact qadc | exact Co.refl _ | exact CoL.refl _ | exact CoLL.refl _) | ((with_reducible first | refine zga ?_ | refine zgb ?_); rfl) | ((with_reducible refine zgc ?_); (first | (with_reducible rfl) | rfl | (simp; done))) | ((with_reducible first | refine zgd ?_ | refine zge ?_); (first | omega | (simp; done))) | (refine qaee ⟨?_, ?_⟩ ?_ <;> omega) | (exact Co.refl _) | (exact CoL.refl _) | (exact CoLL.refl _) | (refine qabt ?_; omega) | (refine qabs ?_; first | omega | (simp_all; done)) | (with_reducible first | refine qadi ?_ ?_ | refine qacy ?_ ?_) | ((refine qabn hJ ((i + 1, F')) ?_ ?_ ?_; (with_reducible refine qabg [] hm ?_ ?_ ?_ ?_) <;> (try simp only [zT, puth, Nat.reduceEqDiff, reduceIte, Nat.reduceAdd]))) | fail)
   all_goals first | (exact ⟨by omega, n1.out⟩) | trace_state
  have e2 : (d == 2) = false := by simp [d2]
  clear d2 d1 d0
  replace hF := Lib.hid hF
  repeat' (first | (with_reducible first | refine zA ?_ | refine qaa3 ?_ | refine qaa2 ?_ | refine zK ?_) | ((with_reducible first | refine qaao ?_ | refine qaak (by rw [hP]; exact mixed) ?_); (try rw [hP]); simp -implicitDefEqProofs [*]) | ((with_reducible first | refine qaah ?_ | refine qaaj ?_); (try simp -implicitDefEqProofs [*])) | ((with_reducible refine qabl ?_); (try simp only [qaa5, qaae, qaam])) | ((with_reducible refine qabd rfl (fun h => ?_) (fun h => ?_)) <;> have h' := h <;> (try simp at h') <;> (try subst h')) | ((with_reducible refine qaaa (fun h => ?_) (fun h => ?_)) <;> have h' := h <;> (try simp at h') <;> (try subst h') <;> simp -implicitDefEqProofs [*]) | ((with_reducible refine qaal ?_ ?_); (first | omega | (unfold maxLen; omega)); simp -implicitDefEqProofs [*]) | (with_reducible first | refine zM hm ?_ | refine zN hm ?_ | refine zO hm ?_ | refine zP hm ?_) | ((with_reducible refine qabg [] hm ?_ ?_ ?_ ?_) <;> (try simp only [zT, puth, Nat.reduceEqDiff, reduceIte, Nat.reduceAdd])) | (with_reducible first | refine za ?_ ?_ | refine zb ?_ ?_ ?_ ?_ | refine zc ?_ ?_ ?_ ?_ | refine zd ?_ ?_ ?_ ?_ | refine qacs ?_ ?_ | refine qacq ?_ ?_) | (with_reducible first | exact qacc | exact qacr | exact qada | exact qadc | exact Co.refl _ | exact CoL.refl _ | exact CoLL.refl _) | ((with_reducible first | refine zga ?_ | refine zgb ?_); rfl) | ((with_reducible refine zgc ?_); (first | (with_reducible rfl) | rfl | (simp; done))) | ((with_reducible first | refine zgd ?_ | refine zge ?_); (first | omega | (simp; done))) | (refine qaee ⟨?_, ?_⟩ ?_ <;> omega) | (exact Co.refl _) | (exact CoL.refl _) | (exact CoLL.refl _) | (refine qabt ?_; omega) | (refine qabs ?_; first | omega | (simp_all; done)) | (with_reducible first | refine qadi ?_ ?_ | refine qacy ?_ ?_) | ((refine qabn hJ ((i + 1, F)) ?_ ?_ ?_; (with_reducible refine qabg [] hm ?_ ?_ ?_ ?_) <;> (try simp only [zT, puth, Nat.reduceEqDiff, reduceIte, Nat.reduceAdd]))) | fail)
  all_goals first | (exact ⟨by omega, hF.out⟩) | trace_state
 obtain rfl : i = l.length := by omega
 clear hJ h1 hi
 obtain ⟨A, hA⟩ : ∃ A, A = F.all := ⟨_, rfl⟩
 have ka := fun q (hq : 55 ≤ q) => qagb (sall_s (stF s0 F) hF.ok) (fun _ => rfl) (fun _ => rfl) rfl 36 37 q (by decide) (by omega) (by omega)
 rw [show (stF s0 F).F.all = A from hA.symm] at ka
 unfold qac2 ents at ka
 have hAl : A.length ≤ 16 := by have h4 := qajx hF.ok.inv; have := qamd hF.ok.inv; rw [show (stF s0 F).F.all = A from hA.symm] at h4; omega
 obtain ⟨R, hR⟩ : ∃ R, R = rotX A (cutE cut A.length) := ⟨_, rfl⟩
 have hRl : R.length = A.length := by rw [hR, qbb3]
 have hRp : R.Perm F.all := by rw [hR, ← hA]; exact qawu _ _
 have hH0 : Half s0 R 0 F0 := ⟨hF0.ok, hF0.like, by have := hF0.all; simpa using this⟩
 clear hF0 hne
 replace hF := Lib.hid hF
 replace hA := Lib.hid hA
 replace hR := Lib.hid hR
 replace hRl := Lib.hid hRl
 replace hAl := Lib.hid hAl
 replace hH0 := Lib.hid hH0
 repeat' (first | (with_reducible first | refine zA ?_ | refine qaa3 ?_ | refine qaa2 ?_ | refine zK ?_) | ((with_reducible first | refine qaao ?_ | refine qaak (by rw [hP]; exact mixed) ?_); (try rw [hP]); simp -implicitDefEqProofs [*]) | ((with_reducible first | refine qaah ?_ | refine qaaj ?_); (try simp -implicitDefEqProofs [*])) | ((with_reducible refine qabl ?_); (try simp only [qaa5, qaae, qaam])) | ((with_reducible refine qabd rfl (fun h => ?_) (fun h => ?_)) <;> have h' := h <;> (try simp at h') <;> (try subst h')) | ((with_reducible refine qaaa (fun h => ?_) (fun h => ?_)) <;> have h' := h <;> (try simp at h') <;> (try subst h') <;> simp -implicitDefEqProofs [*]) | ((with_reducible refine qaal ?_ ?_); (first | omega | (unfold maxLen; omega)); simp -implicitDefEqProofs [*]) | (refine qab4 (ka _ (by simp)) ⟨rfl, rfl, trivial⟩ ⟨rfl, rfl, trivial⟩ ?_; simp -implicitDefEqProofs [*]) | (with_reducible first | refine zM hm ?_ | refine zN hm ?_ | refine zO hm ?_ | refine zP hm ?_) | fail)
 refine qabj (qacp (fun s (z : Nat × Fin_) => s.turn [(17, .int .i64 z.1)] [(53, .cells 76 (scs (stF s0 z.2) 54)), (54, .abs z.2.I)]) (fun z => z.1 ≤ A.length ∧ Half s0 R z.1 z.2) (fun z => A.length - z.1) (0, F0) ?_ ⟨by simp, hH0.out⟩ ?_)
 ·repeat' (first | ((with_reducible refine qabg [] hm ?_ ?_ ?_ ?_) <;> (try simp only [zT, puth, Nat.reduceEqDiff, reduceIte, Nat.reduceAdd])) | (with_reducible first | refine za ?_ ?_ | refine zb ?_ ?_ ?_ ?_ | refine zc ?_ ?_ ?_ ?_ | refine zd ?_ ?_ ?_ ?_ | refine qacs ?_ ?_ | refine qacq ?_ ?_) | (with_reducible first | exact qacc | exact qacr | exact qada | exact qadc | exact Co.refl _ | exact CoL.refl _ | exact CoLL.refl _) | ((with_reducible first | refine zga ?_ | refine zgb ?_); rfl) | ((with_reducible refine zgc ?_); (first | (with_reducible rfl) | rfl | (simp; done))) | ((with_reducible first | refine zgd ?_ | refine zge ?_); (first | omega | (simp; done))) | (refine qaee ⟨?_, ?_⟩ ?_ <;> omega) | (exact Co.refl _) | (exact CoL.refl _) | (exact CoLL.refl _) | (refine qabt ?_; omega) | (refine qabs ?_; first | omega | (simp_all; done)) | (with_reducible first | refine qadi ?_ ?_ | refine qacy ?_ ?_) | fail)
 clear hH0
 rintro J hJ ⟨i, G⟩ ⟨h1, hG⟩
 unfold qar0
 simp only [zT, puth, Nat.reduceEqDiff, reduceIte, Nat.reduceAdd] at h1 hG ⊢
 have hAl2 := hAl.out
 rcases Nat.lt_or_ge i A.length with hi | hi
 ·have hiR : i < R.length := by rw [hRl.out]; exact hi
  have hcl : cutE cut A.length < A.length := cutE_lt (by omega)
  obtain ⟨_, hj, hg⟩ := rot_get hcl hi
  have hgR : R[i] = A[(i + cutE cut A.length) % A.length] := by rw [← hg]; congr 1
  have hst := qa50 hF.out hRp hiR hG
  have hek : EOk R[i] := (hF.out.all _ (hRp.mem_iff.1 (List.getElem_mem hiR))).2.2
  rw [hgR] at hst hek
  have wi : IntKind.i64.wrap ((i : Int) + 1) = (i : Int) + 1 := qabz (by omega) (by omega)
  generalize hx : A[(i + cutE cut A.length) % A.length] = x at hst hek
  have hget : A[(i + cutE cut A.length) % A.length]? = some x := by rw [List.getElem?_eq_getElem hj, hx]
  have kc := fun q (hq : 55 ≤ q) => qagb (sadd_s (stF s0 G) hG.ok x hek) (fun _ => rfl) (fun _ => rfl) rfl 53 54 q (by decide) (by omega) (by omega)
  rw [hst.1, hst.2.1] at kc
  unfold qac2 at kc
  have n1 : i + 1 ≤ A.length ∧ Half s0 R (i + 1) (G.add x) := ⟨by omega, hst.2.2⟩
  have hFI : (stF s0 (G.add x)).F = G.add x := rfl
  rw [hFI] at kc
  generalize G.add x = G' at kc n1
  have hci : (IntKind.u64.wrap cut).tmod (A.length : Int) = ((cutE cut A.length : Nat) : Int) := by
   unfold cutE
   rw [Int.toNat_of_nonneg (Int.emod_nonneg _ (by omega)), Int.tmod_eq_emod_of_nonneg (qbbq _)]
  clear hst hek hgR hR hg hFI
  generalize cutE cut A.length = c at hci hcl hget hj hx
  have w0 : ((A.length : Int) == 0) = false := beq_eq_false_iff_ne.2 (by omega)
  have w1 : IntKind.u64.wrap (A.length : Int) = A.length := qbbr (by omega) (by omega)
  have w3 : IntKind.i64.wrap (c : Int) = c := IntWalk.i64_in _ (by omega)
  have w4 : IntKind.i64.wrap ((i : Int) + c) = (i : Int) + c := qabz (by omega) (by omega)
  have w5 : Int.tmod ((i : Int) + c) (A.length : Int) = (((i + c) % A.length : Nat) : Int) := by
   rw [Int.tmod_eq_emod_of_nonneg (by omega)]; rfl
  have w6 : A ≠ [] := fun h => by rw [h] at hi; simp at hi
  generalize hjj : (i + c) % A.length = j at hj hget w5 hx
  replace n1 := Lib.hid n1
  clear hget hA h1 hG hiR hjj hRp hRl hF
  repeat' (first | (with_reducible first | refine zA ?_ | refine qaa3 ?_ | refine qaa2 ?_ | refine zK ?_) | ((with_reducible first | refine qaao ?_ | refine qaak (by rw [hP]; exact mixed) ?_); (try rw [hP]); simp -implicitDefEqProofs [*]) | ((with_reducible first | refine qaah ?_ | refine qaaj ?_); (try simp -implicitDefEqProofs [*])) | ((with_reducible refine qabl ?_); (try simp only [qaa5, qaae, qaam])) | ((with_reducible refine qabd rfl (fun h => ?_) (fun h => ?_)) <;> have h' := h <;> (try simp at h') <;> (try subst h')) | ((with_reducible refine qaaa (fun h => ?_) (fun h => ?_)) <;> have h' := h <;> (try simp at h') <;> (try subst h') <;> simp -implicitDefEqProofs [*]) | ((with_reducible refine qaal ?_ ?_); (first | omega | (unfold maxLen; omega)); simp -implicitDefEqProofs [*]) | (refine qad9 (kc _ (by simp)) ⟨rfl, rfl, trivial⟩ ⟨rfl, rfl, trivial⟩ ?_; simp -implicitDefEqProofs [*]) | (with_reducible first | refine zM hm ?_ | refine zN hm ?_ | refine zO hm ?_ | refine zP hm ?_) | ((with_reducible refine qabg [] hm ?_ ?_ ?_ ?_) <;> (try simp only [zT, puth, Nat.reduceEqDiff, reduceIte, Nat.reduceAdd])) | (with_reducible first | refine za ?_ ?_ | refine zb ?_ ?_ ?_ ?_ | refine zc ?_ ?_ ?_ ?_ | refine zd ?_ ?_ ?_ ?_ | refine qacs ?_ ?_ | refine qacq ?_ ?_) | (with_reducible first | exact qacc | exact qacr | exact qada | exact qadc | exact Co.refl _ | exact CoL.refl _ | exact CoLL.refl _) | ((with_reducible first | refine zga ?_ | refine zgb ?_); rfl) | ((with_reducible refine zgc ?_); (first | (with_reducible rfl) | rfl | (simp; done))) | ((with_reducible first | refine zgd ?_ | refine zge ?_); (first | omega | (simp; done))) | (refine qaee ⟨?_, ?_⟩ ?_ <;> omega) | (exact Co.refl _) | (exact CoL.refl _) | (exact CoLL.refl _) | (refine qabt ?_; omega) | (refine qabs ?_; first | omega | (simp_all; done)) | (with_reducible first | refine qadi ?_ ?_ | refine qacy ?_ ?_) | ((refine qabn hJ ((i + 1, G')) ?_ ?_ ?_; (with_reducible refine qabg [] hm ?_ ?_ ?_ ?_) <;> (try simp only [zT, puth, Nat.reduceEqDiff, reduceIte, Nat.reduceAdd]))) | fail)
  all_goals first | (exact n1.out) | trace_state
 obtain rfl : i = A.length := by omega
 clear hJ h1 hi
 rw [← hRl.out] at hG
 have hGok := hG.ok
 have hFok := hF.out.ok
 obtain ⟨q1, q2, q3⟩ := qbeu hF.out hRp hG
 have ku := fun q (hq : 55 ≤ q) => qagb (sall_s (stF s0 G) hGok) (fun _ => rfl) (fun _ => rfl) rfl 53 54 q (by decide) (by omega) (by omega)
 rw [show (stF s0 G).F.all = A from q1.trans hA.out.symm] at ku
 unfold qac2 ents at ku
 have kl1 := fun q (hq : 55 ≤ q) => qagb (slen_s (stF s0 F) hFok) (fun _ => rfl) (fun _ => rfl) rfl 36 37 q (by decide) (by omega) (by omega)
 have kl2 := fun q (hq : 55 ≤ q) => qagb (slen_s (stF s0 G) hGok) (fun _ => rfl) (fun _ => rfl) rfl 53 54 q (by decide) (by omega) (by omega)
 rw [show (stF s0 G).F.cnt = (stF s0 F).F.cnt from q2] at kl2
 generalize (stF s0 F).F.cnt = n at kl1 kl2
 unfold qac2 at kl1 kl2
 have kse := fun q => qabm (sents_s A A (by omega) (by rw [hA.out]; exact qa56 hFok.inv)) (fun _ => rfl) (fun _ => rfl) rfl q
 rw [qasj] at kse
 unfold ents at kse
 have kf1 := fun xs hx hf q (hq : 55 ≤ q) => qagb (qbbx (stF s0 F) hFok xs hx hf) (fun _ => rfl) (fun _ => rfl) rfl 36 37 q (by decide) (by omega) (by omega)
 have kf2 := fun xs hx hf q (hq : 55 ≤ q) => qagb (qbbx (stF s0 G) hGok xs hx hf) (fun _ => rfl) (fun _ => rfl) rfl 53 54 q (by decide) (by omega) (by omega)
 simp only [q3] at kf2
 have hform := fun xs => qawk hFok xs
 unfold qac2 at kf1 kf2
 clear hG hF hA hR hRl hRp hGok hFok q1 q2 q3 hAl nf ka
 repeat' (first | (with_reducible first | refine zA ?_ | refine qaa3 ?_ | refine qaa2 ?_ | refine zK ?_) | ((with_reducible first | refine qaao ?_ | refine qaak (by rw [hP]; exact mixed) ?_); (try rw [hP]); simp -implicitDefEqProofs [*]) | ((with_reducible first | refine qaah ?_ | refine qaaj ?_); (try simp -implicitDefEqProofs [*])) | ((with_reducible refine qabl ?_); (try simp only [qaa5, qaae, qaam])) | ((with_reducible refine qabd rfl (fun h => ?_) (fun h => ?_)) <;> have h' := h <;> (try simp at h') <;> (try subst h')) | ((with_reducible refine qaaa (fun h => ?_) (fun h => ?_)) <;> have h' := h <;> (try simp at h') <;> (try subst h') <;> simp -implicitDefEqProofs [*]) | ((with_reducible refine qaal ?_ ?_); (first | omega | (unfold maxLen; omega)); simp -implicitDefEqProofs [*]) | (with_reducible first | refine zM hm ?_ | refine zN hm ?_ | refine zO hm ?_ | refine zP hm ?_) | fail)
 refine qabj (qacp (fun s (z : Nat) => s.turn [(19, .int .i64 z)] []) (fun z => z ≤ l.length) (fun z => l.length - z) 0 ?_ (by simp) ?_)
 ·repeat' (first | ((with_reducible refine qabg [] hm ?_ ?_ ?_ ?_) <;> (try simp only [zT, puth, Nat.reduceEqDiff, reduceIte, Nat.reduceAdd])) | (with_reducible first | refine za ?_ ?_ | refine zb ?_ ?_ ?_ ?_ | refine zc ?_ ?_ ?_ ?_ | refine zd ?_ ?_ ?_ ?_ | refine qacs ?_ ?_ | refine qacq ?_ ?_) | (with_reducible first | exact qacc | exact qacr | exact qada | exact qadc | exact Co.refl _ | exact CoL.refl _ | exact CoLL.refl _) | ((with_reducible first | refine zga ?_ | refine zgb ?_); rfl) | ((with_reducible refine zgc ?_); (first | (with_reducible rfl) | rfl | (simp; done))) | ((with_reducible first | refine zgd ?_ | refine zge ?_); (first | omega | (simp; done))) | (refine qaee ⟨?_, ?_⟩ ?_ <;> omega) | (exact Co.refl _) | (exact CoL.refl _) | (exact CoLL.refl _) | (refine qabt ?_; omega) | (refine qabs ?_; first | omega | (simp_all; done)) | (with_reducible first | refine qadi ?_ ?_ | refine qacy ?_ ?_) | fail)
 rintro J hJ i h1
 unfold qarz
 simp only [zT, puth, Nat.reduceEqDiff, reduceIte, Nat.reduceAdd]
 rcases Nat.lt_or_ge i l.length with hi | hi
 ·have wi : IntKind.i64.wrap ((i : Int) + 1) = (i : Int) + 1 := qabz (by omega) (by omega)
  have hx1 := hsm l[i] (List.getElem_mem hi)
  have hx2 := hfit l[i] (List.getElem_mem hi)
  obtain ⟨x, hx⟩ : ∃ x, x = l[i] := ⟨_, rfl⟩
  rw [← hx] at hx1 hx2
  have hg : l[i] = x := hx.symm
  obtain ⟨d, e⟩ := x
  have c1 := kf1 e.keys (by simp only at hx1; omega) hx2.keys
  have c2 := kf2 e.keys (by simp only at hx1; omega) hx2.keys
  obtain ⟨a, r, b, hr, hv⟩ := hform e.keys
  rw [hv] at c1 c2
  have c3 := fun q => qabm (shit_s a a r r hr) (fun _ => rfl) (fun _ => rfl) rfl q
  rw [show (a == a && decide (r = r)) = true by simp] at c3
  clear hx hx1 hx2 hv hr hform kf1 kf2 ku kl1 kl2 kse
  repeat' (first | (with_reducible first | refine zA ?_ | refine qaa3 ?_ | refine qaa2 ?_ | refine zK ?_) | ((with_reducible first | refine qaao ?_ | refine qaak (by rw [hP]; exact mixed) ?_); (try rw [hP]); simp -implicitDefEqProofs [*]) | ((with_reducible first | refine qaah ?_ | refine qaaj ?_); (try simp -implicitDefEqProofs [*])) | ((with_reducible refine qabl ?_); (try simp only [qaa5, qaae, qaam])) | ((with_reducible refine qabd rfl (fun h => ?_) (fun h => ?_)) <;> have h' := h <;> (try simp at h') <;> (try subst h')) | ((with_reducible refine qaaa (fun h => ?_) (fun h => ?_)) <;> have h' := h <;> (try simp at h') <;> (try subst h') <;> simp -implicitDefEqProofs [*]) | ((with_reducible refine qaal ?_ ?_); (first | omega | (unfold maxLen; omega)); simp -implicitDefEqProofs [*]) | ((first | refine qab4 (c1 _ (by simp)) ⟨rfl, rfl, trivial⟩ ⟨rfl, rfl, trivial⟩ ?_ | refine qab4 (c2 _ (by simp)) ⟨rfl, rfl, trivial⟩ ⟨rfl, rfl, trivial⟩ ?_ | refine qabr (c3 _) ?_); simp -implicitDefEqProofs [*]) | (with_reducible first | refine zM hm ?_ | refine zN hm ?_ | refine zO hm ?_ | refine zP hm ?_) | ((with_reducible refine qabg [] hm ?_ ?_ ?_ ?_) <;> (try simp only [zT, puth, Nat.reduceEqDiff, reduceIte, Nat.reduceAdd])) | (with_reducible first | refine za ?_ ?_ | refine zb ?_ ?_ ?_ ?_ | refine zc ?_ ?_ ?_ ?_ | refine zd ?_ ?_ ?_ ?_ | refine qacs ?_ ?_ | refine qacq ?_ ?_) | (with_reducible first | exact qacc | exact qacr | exact qada | exact qadc | exact Co.refl _ | exact CoL.refl _ | exact CoLL.refl _) | ((with_reducible first | refine zga ?_ | refine zgb ?_); rfl) | ((with_reducible refine zgc ?_); (first | (with_reducible rfl) | rfl | (simp; done))) | ((with_reducible first | refine zgd ?_ | refine zge ?_); (first | omega | (simp; done))) | (refine qaee ⟨?_, ?_⟩ ?_ <;> omega) | (exact Co.refl _) | (exact CoL.refl _) | (exact CoLL.refl _) | (refine qabt ?_; omega) | (refine qabs ?_; first | omega | (simp_all; done)) | (with_reducible first | refine qadi ?_ ?_ | refine qacy ?_ ?_) | ((refine qabn hJ (i + 1) ?_ ?_ ?_; (with_reducible refine qabg [] hm ?_ ?_ ?_ ?_) <;> (try simp only [zT, puth, Nat.reduceEqDiff, reduceIte, Nat.reduceAdd]))) | fail)
  all_goals first | omega | trace_state
 ·obtain rfl : i = l.length := by omega
  clear hJ kf1 kf2 hform
  repeat' (first | (with_reducible first | refine zA ?_ | refine qaa3 ?_ | refine qaa2 ?_ | refine zK ?_) | ((with_reducible first | refine qaao ?_ | refine qaak (by rw [hP]; exact mixed) ?_); (try rw [hP]); simp -implicitDefEqProofs [*]) | ((with_reducible first | refine qaah ?_ | refine qaaj ?_); (try simp -implicitDefEqProofs [*])) | ((with_reducible refine qabl ?_); (try simp only [qaa5, qaae, qaam])) | ((with_reducible refine qabd rfl (fun h => ?_) (fun h => ?_)) <;> have h' := h <;> (try simp at h') <;> (try subst h')) | ((with_reducible refine qaaa (fun h => ?_) (fun h => ?_)) <;> have h' := h <;> (try simp at h') <;> (try subst h') <;> simp -implicitDefEqProofs [*]) | ((with_reducible refine qaal ?_ ?_); (first | omega | (unfold maxLen; omega)); simp -implicitDefEqProofs [*]) | ((first | refine qab4 (ku _ (by simp)) ⟨rfl, rfl, trivial⟩ ⟨rfl, rfl, trivial⟩ ?_ | refine qabr (kse _) ?_ | refine qab4 (kl1 _ (by simp)) ⟨rfl, rfl, trivial⟩ ⟨rfl, rfl, trivial⟩ ?_ | refine qab4 (kl2 _ (by simp)) ⟨rfl, rfl, trivial⟩ ⟨rfl, rfl, trivial⟩ ?_); simp -implicitDefEqProofs [*]) | (with_reducible first | refine zM hm ?_ | refine zN hm ?_ | refine zO hm ?_ | refine zP hm ?_) | fail)
  all_goals first | rfl | (simp; done) | trace_state
end Go.Proofs.YtalejfkholifpaaGreat
