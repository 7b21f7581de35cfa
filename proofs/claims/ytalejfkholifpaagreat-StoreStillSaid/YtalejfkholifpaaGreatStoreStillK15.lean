/-
  Texts joined: XStoC XStoD XStoE XPfxN XDoesA XDoesB XDoesC XStoG. No condition.
-/
import Derived.WalkSpells
import Derived.RegionTactic
import Derived.BigRegion
import Derived.Deep.RegionLaw
import Derived.Test.YtalejfkholifpaaGreatProg
import Derived.Deep.CutRange
import Derived.Deep.CutBlock
import Derived.Test.YtalejfkholifpaaGreatStoreStillK14
namespace Go.Proofs.YtalejfkholifpaaGreat
set_option linter.all false
open Go.RowKit
attribute [local simp] qaas qaar qaad qaag qaae qaaf qaap qaaq qaab qaa5 SOp.run SX.ev putd puts argS upds SOp.touch SSt.keep SSt.skip gets geth puth delh idOf SV.cells? setL qab4 qab5 sbin eq0 eq1 eqL qab0 qabj qabk qaa4 qaat qaac qaau qaa6 qaaj qaam FrzOk qaa9 qaa0 qaa7 qaa8 qaav qaaz qabf qaa1 qaax qaba qaaw frzS frzH frz frz1 frz0 SlotsM ObjsM ObjM rn ren ren1 ren0 qabq qabs qabt qabp qabg qab2 qab1 CoL qabb qabx dels adds idsH qabr
attribute [local simp] qaay nums
structure StOk (s : StoD) : Prop where
 inv : s.F.Inv
 kind : s.t.kind = s.F.kind
 k : (s.w.length : Int) = s.F.k
 m : s.t.cap = s.F.m
 wd : ∀ x ∈ s.w, 1 ≤ x ∧ x ≤ 48
 wl : s.w.length ≤ 3
 aw : AW s.acts
 ta : ∀ k ∈ s.t.acts, 0 ≤ k ∧ k < s.acts.length
 tl : s.t.acts.length ≤ 1000000
 dl : s.dl.length ≤ 1000000
def qaga (s : StoD) (e : Entry) : Int :=
 if e.keys.length ≠ s.w.length ∨ (s.t.kind = 3 ∧ e.masks.length ≠ s.w.length) then 2
 else if (s.t.kind ≠ 3 ∧ (0 < e.masks.length ∨ e.prio ≠ 0)) ∨ (s.t.kind ≠ 2 ∧ e.len ≠ 0) then 4
 else if qadf e.keys s.w = true ∨ (s.t.kind = 3 ∧ qadf e.masks s.w = true) then 6 else 0
theorem qa8w (s : StoD) {σ : Nat → Nat} (h : σ 1 = 1) : (scs s 1).map (Go.Proofs.YtalejfkholifpaaGreat.ren σ) = scs s 1 := by simp [scs, tabc, Go.Proofs.YtalejfkholifpaaGreat.ren, ren1, ren0, renA, renB, h]
theorem qad8 {X : Cx} {sl : Sl} {hp : Hp} {t nx : Nat} {v r : SV} {cs : List SV} {s : StoD} (hm : X.m = 2) (hv : v = r) (hN : NoN r) (h0 : geth hp 0 = some (.cells 76 cs)) (hcs : CoL cs (scs s 1)) (h1 : geth hp 1 = some (.abs s.F.I)) : QFun X [.tmp t] 2 r (qac2 s 0 1) .ret ⟨(t, v) :: sl, hp, nx⟩ := by
 subst hv
 have hw : Wk X ⟨(t, v) :: sl, hp, nx⟩ ⟨[(t, v)], qac2 s 0 1, 2⟩ := by
  refine qabe [] hm ⟨?_, trivial⟩ ⟨⟨_, h0, rfl, ?_⟩, ⟨_, h1, rfl⟩, trivial⟩ rfl (by simp)
  ·rw [hN]; simp only [gets, if_true]; exact Co.refl _
  ·rw [qa8w s (by rfl)]; exact hcs
 exact ⟨_, hw, by simp [qaf2, resL, resV, one_, gets], ⟨rfl, rfl, trivial⟩, by simp⟩
theorem sfits_s (s : StoD) (hs : StOk s) (xs : List Int) (hx : xs.length = s.w.length) : SCalls Tryz.prog 38 [.ptr 0 0, nums .u64 xs] (qac2 s 0 1) 2 (.bool (!qadf xs s.w)) (qac2 s 0 1) := by
 have hwl := hs.wl
 refine qaai (N := 25) Tryz.func38 rfl rfl (by kernel_rfl) qaoa (by simp) (by repeat' (first | exact trivial | refine And.intro ?_ ?_ | rfl | decide | exact PureR.ren _)) (by repeat' (first | exact trivial | refine And.intro ?_ ?_ | rfl | decide | exact PureR.ren _)) ?_
 rintro X hP hN hm
 obtain ⟨F, hF⟩ : ∃ F, F = !qadf xs s.w := ⟨_, rfl⟩
 rw [← hF]
 have hwd := Lib.hid hs.wd
 replace hF := Lib.hid hF
 replace hx := Lib.hid hx
 unfold c_sfits qac2 scs tabc
 repeat' (first | (with_reducible first | refine zA ?_ | refine qaa3 ?_ | refine qaa2 ?_ | refine zK ?_) | ((with_reducible first | refine qaao ?_ | refine qaal (by rw [hP]; exact mixed) ?_); (try rw [hP]); simp -implicitDefEqProofs [*]) | ((with_reducible first | refine qaah ?_ | refine qaak ?_); (try simp -implicitDefEqProofs [*])) | ((with_reducible refine qabi ?_); (try simp only [qaa4, qaac, qaaj])) | ((with_reducible refine qabc rfl (fun h => ?_) (fun h => ?_)) <;> have h' := h <;> (try simp at h') <;> (try subst h')) | ((with_reducible refine qaaa (fun h => ?_) (fun h => ?_)) <;> have h' := h <;> (try simp at h') <;> (try subst h') <;> simp -implicitDefEqProofs [*]) | ((with_reducible refine qaan ?_ ?_); (first | omega | (unfold maxLen; omega)); simp -implicitDefEqProofs [*]) | (with_reducible first | refine zM hm ?_ | refine zN hm ?_ | refine zO hm ?_ | refine zP hm ?_) | fail)
 refine qabl (qacv (fun st (i : Nat) => st.turn [(9, .int .i64 i)] []) (fun i => i ≤ xs.length ∧ F = !qadf (xs.drop i) (s.w.drop i)) (fun i => xs.length - i) 0 ?_ ⟨by simp, hF.out⟩ ?_)
 ·repeat' (first | ((with_reducible refine qabe [] hm ?_ ?_ ?_ ?_) <;> (try simp only [zT, puth, Nat.reduceEqDiff, reduceIte, Nat.reduceAdd])) | (with_reducible first | refine za ?_ ?_ | refine zb ?_ ?_ ?_ ?_ | refine zc ?_ ?_ ?_ ?_ | refine zd ?_ ?_ ?_ ?_ | refine qack ?_ ?_ | refine qacg ?_ ?_) | (with_reducible first | exact qab3 | exact qacj | exact qacx | exact qac1 | exact Co.refl _ | exact CoL.refl _ | exact CoLL.refl _) | ((with_reducible first | refine zga ?_ | refine zgb ?_); rfl) | ((with_reducible refine zgc ?_); (first | (with_reducible rfl) | rfl | (simp; done))) | ((with_reducible first | refine zgd ?_ | refine zge ?_); (first | omega | (simp; done))) | (refine qad1 ⟨?_, ?_⟩ ?_ <;> omega) | (exact Co.refl _) | (exact CoL.refl _) | (exact CoLL.refl _) | (refine qabt ?_; omega) | (refine qabs ?_; first | omega | (simp_all; done)) | (with_reducible first | refine qac8 ?_ ?_ | refine qacm ?_ ?_) | fail)
 rintro J hJ i ⟨h1, h2⟩
 unfold qal3
 simp only [zT, puth, Nat.reduceEqDiff, reduceIte, Nat.reduceAdd] at h1 h2 ⊢
 have hxl := hx.out
 rcases Nat.lt_or_ge i xs.length with hi | hi
 ·have hi2 : i < s.w.length := by omega
  rw [qahl hi hi2] at h2
  have hww := hwd.out _ (List.getElem_mem hi2)
  have hms := fun q => mask_w s.w[i] (Fits.of_i64 (by omega) (by omega)) q
  generalize hw : s.w[i] = w at h2 hms hww
  generalize hxi : xs[i] = x at h2
  have wi : IntKind.i64.wrap ((i : Int) + 1) = (i : Int) + 1 := qacb (by omega) (by omega)
  replace h2 := Lib.hid h2
  clear hwd
  cases hv : qat9 x w
  ·unfold qat9 at hv
   repeat' (first | (with_reducible first | refine zA ?_ | refine qaa3 ?_ | refine qaa2 ?_ | refine zK ?_) | ((with_reducible first | refine qaao ?_ | refine qaal (by rw [hP]; exact mixed) ?_); (try rw [hP]); simp -implicitDefEqProofs [*]) | ((with_reducible first | refine qaah ?_ | refine qaak ?_); (try simp -implicitDefEqProofs [*])) | ((with_reducible refine qabi ?_); (try simp only [qaa4, qaac, qaaj])) | ((with_reducible refine qabc rfl (fun h => ?_) (fun h => ?_)) <;> have h' := h <;> (try simp at h') <;> (try subst h')) | ((with_reducible refine qaaa (fun h => ?_) (fun h => ?_)) <;> have h' := h <;> (try simp at h') <;> (try subst h') <;> simp -implicitDefEqProofs [*]) | ((with_reducible refine qaan ?_ ?_); (first | omega | (unfold maxLen; omega)); simp -implicitDefEqProofs [*]) | (refine qabo (hms _) ?_; simp -implicitDefEqProofs [*]) | (with_reducible first | refine zM hm ?_ | refine zN hm ?_ | refine zO hm ?_ | refine zP hm ?_) | ((with_reducible refine qabe [] hm ?_ ?_ ?_ ?_) <;> (try simp only [zT, puth, Nat.reduceEqDiff, reduceIte, Nat.reduceAdd])) | (with_reducible first | refine za ?_ ?_ | refine zb ?_ ?_ ?_ ?_ | refine zc ?_ ?_ ?_ ?_ | refine zd ?_ ?_ ?_ ?_ | refine qack ?_ ?_ | refine qacg ?_ ?_) | (with_reducible first | exact qab3 | exact qacj | exact qacx | exact qac1 | exact Co.refl _ | exact CoL.refl _ | exact CoLL.refl _) | ((with_reducible first | refine zga ?_ | refine zgb ?_); rfl) | ((with_reducible refine zgc ?_); (first | (with_reducible rfl) | rfl | (simp; done))) | ((with_reducible first | refine zgd ?_ | refine zge ?_); (first | omega | (simp; done))) | (refine qad1 ⟨?_, ?_⟩ ?_ <;> omega) | (exact Co.refl _) | (exact CoL.refl _) | (exact CoLL.refl _) | (refine qabt ?_; omega) | (refine qabs ?_; first | omega | (simp_all; done)) | (with_reducible first | refine qac8 ?_ ?_ | refine qacm ?_ ?_) | ((refine qabn hJ (i + 1) ?_ ?_ ?_; (with_reducible refine qabe [] hm ?_ ?_ ?_ ?_) <;> (try simp only [zT, puth, Nat.reduceEqDiff, reduceIte, Nat.reduceAdd]))) | fail)
   refine ⟨by omega, ?_⟩
   rw [h2.out, show qat9 x w = false from hv, Bool.false_or]
  ·unfold qat9 at hv
   repeat' (first | (with_reducible first | refine zA ?_ | refine qaa3 ?_ | refine qaa2 ?_ | refine zK ?_) | ((with_reducible first | refine qaao ?_ | refine qaal (by rw [hP]; exact mixed) ?_); (try rw [hP]); simp -implicitDefEqProofs [*]) | ((with_reducible first | refine qaah ?_ | refine qaak ?_); (try simp -implicitDefEqProofs [*])) | ((with_reducible refine qabi ?_); (try simp only [qaa4, qaac, qaaj])) | ((with_reducible refine qabc rfl (fun h => ?_) (fun h => ?_)) <;> have h' := h <;> (try simp at h') <;> (try subst h')) | ((with_reducible refine qaaa (fun h => ?_) (fun h => ?_)) <;> have h' := h <;> (try simp at h') <;> (try subst h') <;> simp -implicitDefEqProofs [*]) | ((with_reducible refine qaan ?_ ?_); (first | omega | (unfold maxLen; omega)); simp -implicitDefEqProofs [*]) | (refine qabo (hms _) ?_; simp -implicitDefEqProofs [*]) | (with_reducible first | refine zM hm ?_ | refine zN hm ?_ | refine zO hm ?_ | refine zP hm ?_) | ((refine qad8 hm ?_ (fun _ => rfl) rfl (CoL.refl _) rfl)) | fail)
   rw [h2.out, show qat9 x w = true from hv]; rfl
 ·obtain rfl : i = xs.length := by omega
  rw [List.drop_length] at h2
  replace h2 := Lib.hid h2
  repeat' (first | (with_reducible first | refine zA ?_ | refine qaa3 ?_ | refine qaa2 ?_ | refine zK ?_) | ((with_reducible first | refine qaao ?_ | refine qaal (by rw [hP]; exact mixed) ?_); (try rw [hP]); simp -implicitDefEqProofs [*]) | ((with_reducible first | refine qaah ?_ | refine qaak ?_); (try simp -implicitDefEqProofs [*])) | ((with_reducible refine qabi ?_); (try simp only [qaa4, qaac, qaaj])) | ((with_reducible refine qabc rfl (fun h => ?_) (fun h => ?_)) <;> have h' := h <;> (try simp at h') <;> (try subst h')) | ((with_reducible refine qaaa (fun h => ?_) (fun h => ?_)) <;> have h' := h <;> (try simp at h') <;> (try subst h') <;> simp -implicitDefEqProofs [*]) | ((with_reducible refine qaan ?_ ?_); (first | omega | (unfold maxLen; omega)); simp -implicitDefEqProofs [*]) | (with_reducible first | refine zM hm ?_ | refine zN hm ?_ | refine zO hm ?_ | refine zP hm ?_) | ((refine qad8 hm ?_ (fun _ => rfl) rfl (CoL.refl _) rfl)) | fail)
  rw [h2.out]; rfl
theorem qauq (s : StoD) (hs : StOk s) (e : Entry) : SCalls Tryz.prog 36 [.ptr 0 0, .agg (qaay e)] (qac2 s 0 1) 2 (.int .i64 (qaga s e)) (qac2 s 0 1) := by
 have hwl := hs.wl
 refine qaai (N := 79) Tryz.func36 rfl rfl (by kernel_rfl) qan9 (by simp) (by repeat' (first | exact trivial | refine And.intro ?_ ?_ | rfl | decide | exact PureR.ren _)) (by repeat' (first | exact trivial | refine And.intro ?_ ?_ | rfl | decide | exact PureR.ren _)) ?_
 rintro X hP hN hm
 obtain ⟨F, hF⟩ : ∃ F, F = qaga s e := ⟨_, rfl⟩
 rw [← hF]
 unfold qaga at hF
 have k1 := fun (xs : List Int) (h : xs.length = s.w.length) q hq => qahp (sfits_s s hs xs h) (fun _ => rfl) (fun _ => rfl) rfl 0 1 q (by decide) (by omega) hq
 unfold qac2 scs tabc nums at k1
 replace k1 := Lib.hid k1
 replace hF := Lib.hid hF
 unfold c_skeys qac2 scs tabc
 by_cases g1 : e.keys.length = s.w.length
 ·have b1 : ((e.keys.length : Int) != s.w.length) = false := by simp [g1]
  by_cases g3 : s.t.kind = 3
  ·have b3 : (s.t.kind == 3) = true := by simp [g3]
   have b2 : (s.t.kind != 2) = true := by simp [g3]
   by_cases g2 : e.masks.length = s.w.length
   ·have b4 : ((e.masks.length : Int) != s.w.length) = false := by simp [g2]
    have c1 := fun q hq => k1.out e.keys g1 q hq
    have c2 := fun q hq => k1.out e.masks g2 q hq
    replace g1 := Lib.hid g1
    replace g2 := Lib.hid g2
    replace g3 := Lib.hid g3
    by_cases g5 : e.len = 0
    ·have b5 : (e.len != 0) = false := by simp [g5]
     replace g5 := Lib.hid g5
     cases w1 : qadf e.keys s.w <;> cases w2 : qadf e.masks s.w <;> rw [w1] at c1 <;> rw [w2] at c2
     all_goals
      repeat' (first | (with_reducible first | refine zA ?_ | refine qaa3 ?_ | refine qaa2 ?_ | refine zK ?_) | ((with_reducible first | refine qaao ?_ | refine qaal (by rw [hP]; exact mixed) ?_); (try rw [hP]); simp -implicitDefEqProofs [*]) | ((with_reducible first | refine qaah ?_ | refine qaak ?_); (try simp -implicitDefEqProofs [*])) | ((with_reducible refine qabi ?_); (try simp only [qaa4, qaac, qaaj])) | ((with_reducible refine qabc rfl (fun h => ?_) (fun h => ?_)) <;> have h' := h <;> (try simp at h') <;> (try subst h')) | ((with_reducible refine qaaa (fun h => ?_) (fun h => ?_)) <;> have h' := h <;> (try simp at h') <;> (try subst h') <;> simp -implicitDefEqProofs [*]) | ((with_reducible refine qaan ?_ ?_); (first | omega | (unfold maxLen; omega)); simp -implicitDefEqProofs [*]) | ((first | refine qabv (c1 _ (by simp)) ⟨rfl, rfl, trivial⟩ ⟨rfl, rfl, trivial⟩ ?_ | refine qabv (c2 _ (by simp)) ⟨rfl, rfl, trivial⟩ ⟨rfl, rfl, trivial⟩ ?_); simp -implicitDefEqProofs [*]) | (with_reducible first | refine zM hm ?_ | refine zN hm ?_ | refine zO hm ?_ | refine zP hm ?_) | ((refine qad8 hm ?_ (fun _ => rfl) rfl (CoL.refl _) rfl)) | fail)
      rw [hF.out]; simp [g1.out, g2.out, g3.out, g5.out, w1, w2]
    ·have b5 : (e.len != 0) = true := by simp [g5]
     replace g5 := Lib.hid g5
     repeat' (first | (with_reducible first | refine zA ?_ | refine qaa3 ?_ | refine qaa2 ?_ | refine zK ?_) | ((with_reducible first | refine qaao ?_ | refine qaal (by rw [hP]; exact mixed) ?_); (try rw [hP]); simp -implicitDefEqProofs [*]) | ((with_reducible first | refine qaah ?_ | refine qaak ?_); (try simp -implicitDefEqProofs [*])) | ((with_reducible refine qabi ?_); (try simp only [qaa4, qaac, qaaj])) | ((with_reducible refine qabc rfl (fun h => ?_) (fun h => ?_)) <;> have h' := h <;> (try simp at h') <;> (try subst h')) | ((with_reducible refine qaaa (fun h => ?_) (fun h => ?_)) <;> have h' := h <;> (try simp at h') <;> (try subst h') <;> simp -implicitDefEqProofs [*]) | ((with_reducible refine qaan ?_ ?_); (first | omega | (unfold maxLen; omega)); simp -implicitDefEqProofs [*]) | (with_reducible first | refine zM hm ?_ | refine zN hm ?_ | refine zO hm ?_ | refine zP hm ?_) | ((refine qad8 hm ?_ (fun _ => rfl) rfl (CoL.refl _) rfl)) | fail)
     rw [hF.out]; simp [g1.out, g2.out, g3.out, g5.out]
   ·have b4 : ((e.masks.length : Int) != s.w.length) = true := by simp; omega
    replace g1 := Lib.hid g1
    replace g2 := Lib.hid g2
    replace g3 := Lib.hid g3
    repeat' (first | (with_reducible first | refine zA ?_ | refine qaa3 ?_ | refine qaa2 ?_ | refine zK ?_) | ((with_reducible first | refine qaao ?_ | refine qaal (by rw [hP]; exact mixed) ?_); (try rw [hP]); simp -implicitDefEqProofs [*]) | ((with_reducible first | refine qaah ?_ | refine qaak ?_); (try simp -implicitDefEqProofs [*])) | ((with_reducible refine qabi ?_); (try simp only [qaa4, qaac, qaaj])) | ((with_reducible refine qabc rfl (fun h => ?_) (fun h => ?_)) <;> have h' := h <;> (try simp at h') <;> (try subst h')) | ((with_reducible refine qaaa (fun h => ?_) (fun h => ?_)) <;> have h' := h <;> (try simp at h') <;> (try subst h') <;> simp -implicitDefEqProofs [*]) | ((with_reducible refine qaan ?_ ?_); (first | omega | (unfold maxLen; omega)); simp -implicitDefEqProofs [*]) | (with_reducible first | refine zM hm ?_ | refine zN hm ?_ | refine zO hm ?_ | refine zP hm ?_) | ((refine qad8 hm ?_ (fun _ => rfl) rfl (CoL.refl _) rfl)) | fail)
    rw [hF.out]; simp [g1.out, g2.out, g3.out]
  ·have b3 : (s.t.kind == 3) = false := by simp [g3]
   have c1 := fun q hq => k1.out e.keys g1 q hq
   replace g1 := Lib.hid g1
   replace g3 := Lib.hid g3
   by_cases g4 : e.masks = []
   rotate_left 1
   ·have g5 : 0 < e.masks.length := List.length_pos_iff.2 g4
    have b4 : decide (0 < e.masks.length) = true := decide_eq_true g5
    replace g5 := Lib.hid g5
    repeat' (first | (with_reducible first | refine zA ?_ | refine qaa3 ?_ | refine qaa2 ?_ | refine zK ?_) | ((with_reducible first | refine qaao ?_ | refine qaal (by rw [hP]; exact mixed) ?_); (try rw [hP]); simp -implicitDefEqProofs [*]) | ((with_reducible first | refine qaah ?_ | refine qaak ?_); (try simp -implicitDefEqProofs [*])) | ((with_reducible refine qabi ?_); (try simp only [qaa4, qaac, qaaj])) | ((with_reducible refine qabc rfl (fun h => ?_) (fun h => ?_)) <;> have h' := h <;> (try simp at h') <;> (try subst h')) | ((with_reducible refine qaaa (fun h => ?_) (fun h => ?_)) <;> have h' := h <;> (try simp at h') <;> (try subst h') <;> simp -implicitDefEqProofs [*]) | ((with_reducible refine qaan ?_ ?_); (first | omega | (unfold maxLen; omega)); simp -implicitDefEqProofs [*]) | (with_reducible first | refine zM hm ?_ | refine zN hm ?_ | refine zO hm ?_ | refine zP hm ?_) | ((refine qad8 hm ?_ (fun _ => rfl) rfl (CoL.refl _) rfl)) | fail)
    rw [hF.out]; simp [g1.out, g3.out, g5.out]
   ·by_cases g6 : e.prio = 0
    ·have b6 : (e.prio != 0) = false := by simp [g6]
     replace g6 := Lib.hid g6
     by_cases g2 : s.t.kind = 2
     ·have b2 : (s.t.kind != 2) = false := by simp [g2]
      replace g2 := Lib.hid g2
      cases w1 : qadf e.keys s.w <;> rw [w1] at c1
      all_goals
       repeat' (first | (with_reducible first | refine zA ?_ | refine qaa3 ?_ | refine qaa2 ?_ | refine zK ?_) | ((with_reducible first | refine qaao ?_ | refine qaal (by rw [hP]; exact mixed) ?_); (try rw [hP]); simp -implicitDefEqProofs [*]) | ((with_reducible first | refine qaah ?_ | refine qaak ?_); (try simp -implicitDefEqProofs [*])) | ((with_reducible refine qabi ?_); (try simp only [qaa4, qaac, qaaj])) | ((with_reducible refine qabc rfl (fun h => ?_) (fun h => ?_)) <;> have h' := h <;> (try simp at h') <;> (try subst h')) | ((with_reducible refine qaaa (fun h => ?_) (fun h => ?_)) <;> have h' := h <;> (try simp at h') <;> (try subst h') <;> simp -implicitDefEqProofs [*]) | ((with_reducible refine qaan ?_ ?_); (first | omega | (unfold maxLen; omega)); simp -implicitDefEqProofs [*]) | (refine qabv (c1 _ (by simp)) ⟨rfl, rfl, trivial⟩ ⟨rfl, rfl, trivial⟩ ?_; simp -implicitDefEqProofs [*]) | (with_reducible first | refine zM hm ?_ | refine zN hm ?_ | refine zO hm ?_ | refine zP hm ?_) | ((refine qad8 hm ?_ (fun _ => rfl) rfl (CoL.refl _) rfl)) | fail)
       rw [hF.out]; simp [g1.out, g2.out, g3.out, g4, g6.out, w1]
     ·have b2 : (s.t.kind != 2) = true := by simp [g2]
      replace g2 := Lib.hid g2
      by_cases g5 : e.len = 0
      ·have b5 : (e.len != 0) = false := by simp [g5]
       replace g5 := Lib.hid g5
       cases w1 : qadf e.keys s.w <;> rw [w1] at c1
       all_goals
        repeat' (first | (with_reducible first | refine zA ?_ | refine qaa3 ?_ | refine qaa2 ?_ | refine zK ?_) | ((with_reducible first | refine qaao ?_ | refine qaal (by rw [hP]; exact mixed) ?_); (try rw [hP]); simp -implicitDefEqProofs [*]) | ((with_reducible first | refine qaah ?_ | refine qaak ?_); (try simp -implicitDefEqProofs [*])) | ((with_reducible refine qabi ?_); (try simp only [qaa4, qaac, qaaj])) | ((with_reducible refine qabc rfl (fun h => ?_) (fun h => ?_)) <;> have h' := h <;> (try simp at h') <;> (try subst h')) | ((with_reducible refine qaaa (fun h => ?_) (fun h => ?_)) <;> have h' := h <;> (try simp at h') <;> (try subst h') <;> simp -implicitDefEqProofs [*]) | ((with_reducible refine qaan ?_ ?_); (first | omega | (unfold maxLen; omega)); simp -implicitDefEqProofs [*]) | (refine qabv (c1 _ (by simp)) ⟨rfl, rfl, trivial⟩ ⟨rfl, rfl, trivial⟩ ?_; simp -implicitDefEqProofs [*]) | (with_reducible first | refine zM hm ?_ | refine zN hm ?_ | refine zO hm ?_ | refine zP hm ?_) | ((refine qad8 hm ?_ (fun _ => rfl) rfl (CoL.refl _) rfl)) | fail)
        rw [hF.out]; simp [g1.out, g2.out, g3.out, g4, g5.out, g6.out, w1]
      ·have b5 : (e.len != 0) = true := by simp [g5]
       replace g5 := Lib.hid g5
       repeat' (first | (with_reducible first | refine zA ?_ | refine qaa3 ?_ | refine qaa2 ?_ | refine zK ?_) | ((with_reducible first | refine qaao ?_ | refine qaal (by rw [hP]; exact mixed) ?_); (try rw [hP]); simp -implicitDefEqProofs [*]) | ((with_reducible first | refine qaah ?_ | refine qaak ?_); (try simp -implicitDefEqProofs [*])) | ((with_reducible refine qabi ?_); (try simp only [qaa4, qaac, qaaj])) | ((with_reducible refine qabc rfl (fun h => ?_) (fun h => ?_)) <;> have h' := h <;> (try simp at h') <;> (try subst h')) | ((with_reducible refine qaaa (fun h => ?_) (fun h => ?_)) <;> have h' := h <;> (try simp at h') <;> (try subst h') <;> simp -implicitDefEqProofs [*]) | ((with_reducible refine qaan ?_ ?_); (first | omega | (unfold maxLen; omega)); simp -implicitDefEqProofs [*]) | (with_reducible first | refine zM hm ?_ | refine zN hm ?_ | refine zO hm ?_ | refine zP hm ?_) | ((refine qad8 hm ?_ (fun _ => rfl) rfl (CoL.refl _) rfl)) | fail)
       rw [hF.out]; simp [g1.out, g2.out, g3.out, g4, g5.out, g6.out]
    ·have b6 : (e.prio != 0) = true := by simp [g6]
     replace g6 := Lib.hid g6
     repeat' (first | (with_reducible first | refine zA ?_ | refine qaa3 ?_ | refine qaa2 ?_ | refine zK ?_) | ((with_reducible first | refine qaao ?_ | refine qaal (by rw [hP]; exact mixed) ?_); (try rw [hP]); simp -implicitDefEqProofs [*]) | ((with_reducible first | refine qaah ?_ | refine qaak ?_); (try simp -implicitDefEqProofs [*])) | ((with_reducible refine qabi ?_); (try simp only [qaa4, qaac, qaaj])) | ((with_reducible refine qabc rfl (fun h => ?_) (fun h => ?_)) <;> have h' := h <;> (try simp at h') <;> (try subst h')) | ((with_reducible refine qaaa (fun h => ?_) (fun h => ?_)) <;> have h' := h <;> (try simp at h') <;> (try subst h') <;> simp -implicitDefEqProofs [*]) | ((with_reducible refine qaan ?_ ?_); (first | omega | (unfold maxLen; omega)); simp -implicitDefEqProofs [*]) | (with_reducible first | refine zM hm ?_ | refine zN hm ?_ | refine zO hm ?_ | refine zP hm ?_) | ((refine qad8 hm ?_ (fun _ => rfl) rfl (CoL.refl _) rfl)) | fail)
     rw [hF.out]; simp [g1.out, g3.out, g4, g6.out]
 ·have b1 : ((e.keys.length : Int) != s.w.length) = true := by simp; omega
  replace g1 := Lib.hid g1
  repeat' (first | (with_reducible first | refine zA ?_ | refine qaa3 ?_ | refine qaa2 ?_ | refine zK ?_) | ((with_reducible first | refine qaao ?_ | refine qaal (by rw [hP]; exact mixed) ?_); (try rw [hP]); simp -implicitDefEqProofs [*]) | ((with_reducible first | refine qaah ?_ | refine qaak ?_); (try simp -implicitDefEqProofs [*])) | ((with_reducible refine qabi ?_); (try simp only [qaa4, qaac, qaaj])) | ((with_reducible refine qabc rfl (fun h => ?_) (fun h => ?_)) <;> have h' := h <;> (try simp at h') <;> (try subst h')) | ((with_reducible refine qaaa (fun h => ?_) (fun h => ?_)) <;> have h' := h <;> (try simp at h') <;> (try subst h') <;> simp -implicitDefEqProofs [*]) | ((with_reducible refine qaan ?_ ?_); (first | omega | (unfold maxLen; omega)); simp -implicitDefEqProofs [*]) | (with_reducible first | refine zM hm ?_ | refine zN hm ?_ | refine zO hm ?_ | refine zP hm ?_) | ((refine qad8 hm ?_ (fun _ => rfl) rfl (CoL.refl _) rfl)) | fail)
  rw [hF.out]; simp [g1.out]
end Go.Proofs.YtalejfkholifpaaGreat
namespace Go.Proofs.YtalejfkholifpaaGreat
set_option linter.all false
open Go.RowKit
attribute [local simp] qaas qaar qaad qaag qaae qaaf qaap qaaq qaab qaa5 SOp.run SX.ev putd puts argS upds SOp.touch SSt.keep SSt.skip gets geth puth delh idOf SV.cells? setL qab4 qab5 sbin eq0 eq1 eqL qab0 qabj qabk qaa4 qaat qaac qaau qaa6 qaaj qaam FrzOk qaa9 qaa0 qaa7 qaa8 qaav qaaz qabf qaa1 qaax qaba qaaw frzS frzH frz frz1 frz0 SlotsM ObjsM ObjM rn ren ren1 ren0 qabq qabs qabt qabp qabg qab2 qab1 CoL qabb qabx dels adds idsH qabr
attribute [local simp] qaay nums
theorem qahz {s : StoD} {e : Entry} (h : qaga s e = 0) : e.keys.length = s.w.length ∧ (s.t.kind = 3 → e.masks.length = s.w.length) ∧ (s.t.kind ≠ 3 → e.masks.length = 0 ∧ e.prio = 0) ∧ (s.t.kind ≠ 2 → e.len = 0) ∧ qadf e.keys s.w = false := by
 unfold qaga at h
 by_cases g1 : e.keys.length ≠ s.w.length ∨ (s.t.kind = 3 ∧ e.masks.length ≠ s.w.length)
 ·rw [if_pos g1] at h; exact absurd h (by decide)
 rw [if_neg g1] at h
 by_cases g2 : (s.t.kind ≠ 3 ∧ (0 < e.masks.length ∨ e.prio ≠ 0)) ∨ (s.t.kind ≠ 2 ∧ e.len ≠ 0)
 ·rw [if_pos g2] at h; exact absurd h (by decide)
 rw [if_neg g2] at h
 by_cases g3 : qadf e.keys s.w = true ∨ (s.t.kind = 3 ∧ qadf e.masks s.w = true)
 ·rw [if_pos g3] at h; exact absurd h (by decide)
 refine ⟨by omega, by omega, by omega, by omega, ?_⟩
 cases hw : qadf e.keys s.w
 ·rfl
 ·exact absurd (.inl hw) g3
def qaid (s : StoD) (act : Int) (args : List Int) : Int := qakg s.t.acts s.acts act args
theorem ty_add (F : Fin_) (e : Entry) : (F.add e).ty = F.ty := by cases F <;> rfl
theorem ty_chg (F : Fin_) (e : Entry) : (F.chg e).ty = F.ty := by cases F <;> rfl
theorem ty_drop (F : Fin_) (e : Entry) : (F.drop e).ty = F.ty := by cases F <;> rfl
def saddC (s : StoD) (e : Entry) : Int := if qaga s e ≠ 0 then qaga s e else if qaid s e.act e.args ≠ 0 then qaid s e.act e.args else s.F.addV e
def qa10 (s : StoD) (e : Entry) : StoD := if qaga s e ≠ 0 then s else if qaid s e.act e.args ≠ 0 then s else { s with F := s.F.add e }
def schgC (s : StoD) (e : Entry) : Int := if qaga s e ≠ 0 then qaga s e else if qaid s e.act e.args ≠ 0 then qaid s e.act e.args else s.F.chgV e
def qa1z (s : StoD) (e : Entry) : StoD := if qaga s e ≠ 0 then s else if qaid s e.act e.args ≠ 0 then s else { s with F := s.F.chg e }
def qauu (s : StoD) (e : Entry) : Int := if qaga s e ≠ 0 then qaga s e else s.F.dropV e
def qaie (s : StoD) (e : Entry) : StoD := if qaga s e ≠ 0 then s else { s with F := s.F.drop e }
def sdefC (s : StoD) (a : Int) (l : List Int) : Int := qaid s a l
def qa1y (s : StoD) (a : Int) (l : List Int) : StoD := if qaid s a l ≠ 0 then s else { s with da := a, dl := l }
theorem sadd_s (s : StoD) (hs : StOk s) (e : Entry) (he : EOk e) : SCalls Tryz.prog 10 [.ptr 0 0, .agg (qaay e)] (qac2 s 0 1) 2 (.int .i64 (saddC s e)) (qac2 (qa10 s e) 0 1) := by
 have ks := fun q hq => qahp (qauq s hs e) (fun _ => rfl) (fun _ => rfl) rfl 0 1 q (by decide) (by omega) hq
 have sy := fun q => qa2i s.t s.acts e.act e.args hs.aw hs.tl he.small.2.2 hs.ta q
 have hk : qaga s e = 0 → (e.keys.length : Int) = s.F.k := fun h => by rw [(qahz h).1]; exact hs.k
 have fa := fun h q hq => fin_add s.F hs.inv e he (hk h) 1 q hq
 rw [show qakg s.t.acts s.acts e.act e.args = qaid s e.act e.args from rfl] at sy
 have hC : saddC s e = if qaga s e ≠ 0 then qaga s e else if qaid s e.act e.args ≠ 0 then qaid s e.act e.args else s.F.addV e := rfl
 have hS : qa10 s e = if qaga s e ≠ 0 then s else if qaid s e.act e.args ≠ 0 then s else { s with F := s.F.add e } := rfl
 generalize qaga s e = K at ks fa hC hS
 generalize qaid s e.act e.args = Y at sy hC hS
 rw [hC, hS]
 clear hC hS hk
 unfold qac2 scs tabc nums at ks
 unfold tabc nums at sy
 refine qaai (N := 35) Tryz.func10 rfl rfl (by kernel_rfl) qarp (by simp) (by repeat' (first | exact trivial | refine And.intro ?_ ?_ | rfl | decide | exact PureR.ren _)) (by repeat' (first | exact trivial | refine And.intro ?_ ?_ | rfl | decide | exact PureR.ren _)) ?_
 rintro X hP hN hm
 unfold c_sadd
 by_cases g1 : K = 0
 ·subst g1
  have fa1 := fa rfl
  by_cases g2 : Y = 0
  ·subst g2
   unfold qac2 scs tabc
   repeat' (first | (with_reducible first | refine zA ?_ | refine qaa3 ?_ | refine qaa2 ?_ | refine zK ?_) | ((with_reducible first | refine qaao ?_ | refine qaal (by rw [hP]; exact mixed) ?_); (try rw [hP]); simp -implicitDefEqProofs [*]) | ((with_reducible first | refine qaah ?_ | refine qaak ?_); (try simp -implicitDefEqProofs [*])) | ((with_reducible refine qabi ?_); (try simp only [qaa4, qaac, qaaj])) | ((with_reducible refine qabc rfl (fun h => ?_) (fun h => ?_)) <;> have h' := h <;> (try simp at h') <;> (try subst h')) | ((with_reducible refine qaaa (fun h => ?_) (fun h => ?_)) <;> have h' := h <;> (try simp at h') <;> (try subst h') <;> simp -implicitDefEqProofs [*]) | ((with_reducible refine qaan ?_ ?_); (first | omega | (unfold maxLen; omega)); simp -implicitDefEqProofs [*]) | ((first | refine qabv (ks _ (by simp)) ⟨rfl, rfl, trivial⟩ ⟨rfl, rfl, trivial⟩ ?_ | refine qabo (sy _) ?_ | refine qadn [] trivial (qba7 s.F) (fa1 _ (by simp)) ⟨rfl, trivial⟩ ⟨rfl, trivial⟩ [] (by simp) ?_); simp -implicitDefEqProofs [*]) | (with_reducible first | refine zM hm ?_ | refine zN hm ?_ | refine zO hm ?_ | refine zP hm ?_) | ((refine qad8 (s := { s with F := s.F.add e }) hm rfl (fun _ => rfl) rfl ?_ rfl)) | fail)
   show CoL _ (.ifc (s.F.add e).ty _ :: _)
   rw [ty_add]; exact CoL.refl _
  ·have b2 : (Y != 0) = true := by simp [g2]
   rw [if_neg (by simp), if_pos g2, if_neg (by simp), if_pos g2]
   replace g2 := Lib.hid g2
   unfold qac2 scs tabc
   repeat' (first | (with_reducible first | refine zA ?_ | refine qaa3 ?_ | refine qaa2 ?_ | refine zK ?_) | ((with_reducible first | refine qaao ?_ | refine qaal (by rw [hP]; exact mixed) ?_); (try rw [hP]); simp -implicitDefEqProofs [*]) | ((with_reducible first | refine qaah ?_ | refine qaak ?_); (try simp -implicitDefEqProofs [*])) | ((with_reducible refine qabi ?_); (try simp only [qaa4, qaac, qaaj])) | ((with_reducible refine qabc rfl (fun h => ?_) (fun h => ?_)) <;> have h' := h <;> (try simp at h') <;> (try subst h')) | ((with_reducible refine qaaa (fun h => ?_) (fun h => ?_)) <;> have h' := h <;> (try simp at h') <;> (try subst h') <;> simp -implicitDefEqProofs [*]) | ((with_reducible refine qaan ?_ ?_); (first | omega | (unfold maxLen; omega)); simp -implicitDefEqProofs [*]) | ((first | refine qabv (ks _ (by simp)) ⟨rfl, rfl, trivial⟩ ⟨rfl, rfl, trivial⟩ ?_ | refine qabo (sy _) ?_); simp -implicitDefEqProofs [*]) | (with_reducible first | refine zM hm ?_ | refine zN hm ?_ | refine zO hm ?_ | refine zP hm ?_) | ((refine qad8 hm ?_ (fun _ => rfl) rfl (CoL.refl _) rfl)) | fail)
   rfl
 ·have b1 : (K != 0) = true := by simp [g1]
  rw [if_pos g1, if_pos g1]
  replace g1 := Lib.hid g1
  unfold qac2 scs tabc
  repeat' (first | (with_reducible first | refine zA ?_ | refine qaa3 ?_ | refine qaa2 ?_ | refine zK ?_) | ((with_reducible first | refine qaao ?_ | refine qaal (by rw [hP]; exact mixed) ?_); (try rw [hP]); simp -implicitDefEqProofs [*]) | ((with_reducible first | refine qaah ?_ | refine qaak ?_); (try simp -implicitDefEqProofs [*])) | ((with_reducible refine qabi ?_); (try simp only [qaa4, qaac, qaaj])) | ((with_reducible refine qabc rfl (fun h => ?_) (fun h => ?_)) <;> have h' := h <;> (try simp at h') <;> (try subst h')) | ((with_reducible refine qaaa (fun h => ?_) (fun h => ?_)) <;> have h' := h <;> (try simp at h') <;> (try subst h') <;> simp -implicitDefEqProofs [*]) | ((with_reducible refine qaan ?_ ?_); (first | omega | (unfold maxLen; omega)); simp -implicitDefEqProofs [*]) | (refine qabv (ks _ (by simp)) ⟨rfl, rfl, trivial⟩ ⟨rfl, rfl, trivial⟩ ?_; simp -implicitDefEqProofs [*]) | (with_reducible first | refine zM hm ?_ | refine zN hm ?_ | refine zO hm ?_ | refine zP hm ?_) | ((refine qad8 hm ?_ (fun _ => rfl) rfl (CoL.refl _) rfl)) | fail)
  rfl
theorem schg_s (s : StoD) (hs : StOk s) (e : Entry) (he : EOk e) : SCalls Tryz.prog 11 [.ptr 0 0, .agg (qaay e)] (qac2 s 0 1) 2 (.int .i64 (schgC s e)) (qac2 (qa1z s e) 0 1) := by
 have ks := fun q hq => qahp (qauq s hs e) (fun _ => rfl) (fun _ => rfl) rfl 0 1 q (by decide) (by omega) hq
 have sy := fun q => qa2i s.t s.acts e.act e.args hs.aw hs.tl he.small.2.2 hs.ta q
 have hk : qaga s e = 0 → (e.keys.length : Int) = s.F.k := fun h => by rw [(qahz h).1]; exact hs.k
 have fa := fun h q hq => fin_chg s.F hs.inv e he (hk h) 1 q hq
 rw [show qakg s.t.acts s.acts e.act e.args = qaid s e.act e.args from rfl] at sy
 have hC : schgC s e = if qaga s e ≠ 0 then qaga s e else if qaid s e.act e.args ≠ 0 then qaid s e.act e.args else s.F.chgV e := rfl
 have hS : qa1z s e = if qaga s e ≠ 0 then s else if qaid s e.act e.args ≠ 0 then s else { s with F := s.F.chg e } := rfl
 generalize qaga s e = K at ks fa hC hS
 generalize qaid s e.act e.args = Y at sy hC hS
 rw [hC, hS]
 clear hC hS hk
 unfold qac2 scs tabc nums at ks
 unfold tabc nums at sy
 refine qaai (N := 35) Tryz.func11 rfl rfl (by kernel_rfl) qarm (by simp) (by repeat' (first | exact trivial | refine And.intro ?_ ?_ | rfl | decide | exact PureR.ren _)) (by repeat' (first | exact trivial | refine And.intro ?_ ?_ | rfl | decide | exact PureR.ren _)) ?_
 rintro X hP hN hm
 unfold c_schg
 by_cases g1 : K = 0
 ·subst g1
  have fa1 := fa rfl
  by_cases g2 : Y = 0
  ·subst g2
   unfold qac2 scs tabc
   repeat' (first | (with_reducible first | refine zA ?_ | refine qaa3 ?_ | refine qaa2 ?_ | refine zK ?_) | ((with_reducible first | refine qaao ?_ | refine qaal (by rw [hP]; exact mixed) ?_); (try rw [hP]); simp -implicitDefEqProofs [*]) | ((with_reducible first | refine qaah ?_ | refine qaak ?_); (try simp -implicitDefEqProofs [*])) | ((with_reducible refine qabi ?_); (try simp only [qaa4, qaac, qaaj])) | ((with_reducible refine qabc rfl (fun h => ?_) (fun h => ?_)) <;> have h' := h <;> (try simp at h') <;> (try subst h')) | ((with_reducible refine qaaa (fun h => ?_) (fun h => ?_)) <;> have h' := h <;> (try simp at h') <;> (try subst h') <;> simp -implicitDefEqProofs [*]) | ((with_reducible refine qaan ?_ ?_); (first | omega | (unfold maxLen; omega)); simp -implicitDefEqProofs [*]) | ((first | refine qabv (ks _ (by simp)) ⟨rfl, rfl, trivial⟩ ⟨rfl, rfl, trivial⟩ ?_ | refine qabo (sy _) ?_ | refine qadn [] trivial (qba5 s.F) (fa1 _ (by simp)) ⟨rfl, trivial⟩ ⟨rfl, trivial⟩ [] (by simp) ?_); simp -implicitDefEqProofs [*]) | (with_reducible first | refine zM hm ?_ | refine zN hm ?_ | refine zO hm ?_ | refine zP hm ?_) | ((refine qad8 (s := { s with F := s.F.chg e }) hm rfl (fun _ => rfl) rfl ?_ rfl)) | fail)
   show CoL _ (.ifc (s.F.chg e).ty _ :: _)
   rw [ty_chg]; exact CoL.refl _
  ·have b2 : (Y != 0) = true := by simp [g2]
   rw [if_neg (by simp), if_pos g2, if_neg (by simp), if_pos g2]
   replace g2 := Lib.hid g2
   unfold qac2 scs tabc
   repeat' (first | (with_reducible first | refine zA ?_ | refine qaa3 ?_ | refine qaa2 ?_ | refine zK ?_) | ((with_reducible first | refine qaao ?_ | refine qaal (by rw [hP]; exact mixed) ?_); (try rw [hP]); simp -implicitDefEqProofs [*]) | ((with_reducible first | refine qaah ?_ | refine qaak ?_); (try simp -implicitDefEqProofs [*])) | ((with_reducible refine qabi ?_); (try simp only [qaa4, qaac, qaaj])) | ((with_reducible refine qabc rfl (fun h => ?_) (fun h => ?_)) <;> have h' := h <;> (try simp at h') <;> (try subst h')) | ((with_reducible refine qaaa (fun h => ?_) (fun h => ?_)) <;> have h' := h <;> (try simp at h') <;> (try subst h') <;> simp -implicitDefEqProofs [*]) | ((with_reducible refine qaan ?_ ?_); (first | omega | (unfold maxLen; omega)); simp -implicitDefEqProofs [*]) | ((first | refine qabv (ks _ (by simp)) ⟨rfl, rfl, trivial⟩ ⟨rfl, rfl, trivial⟩ ?_ | refine qabo (sy _) ?_); simp -implicitDefEqProofs [*]) | (with_reducible first | refine zM hm ?_ | refine zN hm ?_ | refine zO hm ?_ | refine zP hm ?_) | ((refine qad8 hm ?_ (fun _ => rfl) rfl (CoL.refl _) rfl)) | fail)
   rfl
 ·have b1 : (K != 0) = true := by simp [g1]
  rw [if_pos g1, if_pos g1]
  replace g1 := Lib.hid g1
  unfold qac2 scs tabc
  repeat' (first | (with_reducible first | refine zA ?_ | refine qaa3 ?_ | refine qaa2 ?_ | refine zK ?_) | ((with_reducible first | refine qaao ?_ | refine qaal (by rw [hP]; exact mixed) ?_); (try rw [hP]); simp -implicitDefEqProofs [*]) | ((with_reducible first | refine qaah ?_ | refine qaak ?_); (try simp -implicitDefEqProofs [*])) | ((with_reducible refine qabi ?_); (try simp only [qaa4, qaac, qaaj])) | ((with_reducible refine qabc rfl (fun h => ?_) (fun h => ?_)) <;> have h' := h <;> (try simp at h') <;> (try subst h')) | ((with_reducible refine qaaa (fun h => ?_) (fun h => ?_)) <;> have h' := h <;> (try simp at h') <;> (try subst h') <;> simp -implicitDefEqProofs [*]) | ((with_reducible refine qaan ?_ ?_); (first | omega | (unfold maxLen; omega)); simp -implicitDefEqProofs [*]) | (refine qabv (ks _ (by simp)) ⟨rfl, rfl, trivial⟩ ⟨rfl, rfl, trivial⟩ ?_; simp -implicitDefEqProofs [*]) | (with_reducible first | refine zM hm ?_ | refine zN hm ?_ | refine zO hm ?_ | refine zP hm ?_) | ((refine qad8 hm ?_ (fun _ => rfl) rfl (CoL.refl _) rfl)) | fail)
  rfl
theorem sdrop_s (s : StoD) (hs : StOk s) (e : Entry) (he : EOk e) : SCalls Tryz.prog 12 [.ptr 0 0, .agg (qaay e)] (qac2 s 0 1) 2 (.int .i64 (qauu s e)) (qac2 (qaie s e) 0 1) := by
 have ks := fun q hq => qahp (qauq s hs e) (fun _ => rfl) (fun _ => rfl) rfl 0 1 q (by decide) (by omega) hq
 have hk : qaga s e = 0 → (e.keys.length : Int) = s.F.k := fun h => by rw [(qahz h).1]; exact hs.k
 have fa := fun h q hq => qbbm s.F hs.inv e he (hk h) 1 q hq
 have hC : qauu s e = if qaga s e ≠ 0 then qaga s e else s.F.dropV e := rfl
 have hS : qaie s e = if qaga s e ≠ 0 then s else { s with F := s.F.drop e } := rfl
 generalize qaga s e = K at ks fa hC hS
 rw [hC, hS]
 clear hC hS hk
 unfold qac2 scs tabc nums at ks
 refine qaai (N := 18) Tryz.func12 rfl rfl (by kernel_rfl) qaoc (by simp) (by repeat' (first | exact trivial | refine And.intro ?_ ?_ | rfl | decide | exact PureR.ren _)) (by repeat' (first | exact trivial | refine And.intro ?_ ?_ | rfl | decide | exact PureR.ren _)) ?_
 rintro X hP hN hm
 unfold c_sdrop
 by_cases g1 : K = 0
 ·subst g1
  have fa1 := fa rfl
  unfold qac2 scs tabc
  repeat' (first | (with_reducible first | refine zA ?_ | refine qaa3 ?_ | refine qaa2 ?_ | refine zK ?_) | ((with_reducible first | refine qaao ?_ | refine qaal (by rw [hP]; exact mixed) ?_); (try rw [hP]); simp -implicitDefEqProofs [*]) | ((with_reducible first | refine qaah ?_ | refine qaak ?_); (try simp -implicitDefEqProofs [*])) | ((with_reducible refine qabi ?_); (try simp only [qaa4, qaac, qaaj])) | ((with_reducible refine qabc rfl (fun h => ?_) (fun h => ?_)) <;> have h' := h <;> (try simp at h') <;> (try subst h')) | ((with_reducible refine qaaa (fun h => ?_) (fun h => ?_)) <;> have h' := h <;> (try simp at h') <;> (try subst h') <;> simp -implicitDefEqProofs [*]) | ((with_reducible refine qaan ?_ ?_); (first | omega | (unfold maxLen; omega)); simp -implicitDefEqProofs [*]) | ((first | refine qabv (ks _ (by simp)) ⟨rfl, rfl, trivial⟩ ⟨rfl, rfl, trivial⟩ ?_ | refine qadn [] trivial (qa24 s.F) (fa1 _ (by simp)) ⟨rfl, trivial⟩ ⟨rfl, trivial⟩ [] (by simp) ?_); simp -implicitDefEqProofs [*]) | (with_reducible first | refine zM hm ?_ | refine zN hm ?_ | refine zO hm ?_ | refine zP hm ?_) | ((refine qad8 (s := { s with F := s.F.drop e }) hm rfl (fun _ => rfl) rfl ?_ rfl)) | fail)
  show CoL _ (.ifc (s.F.drop e).ty _ :: _)
  rw [ty_drop]; exact CoL.refl _
 ·have b1 : (K != 0) = true := by simp [g1]
  rw [if_pos g1, if_pos g1]
  replace g1 := Lib.hid g1
  unfold qac2 scs tabc
  repeat' (first | (with_reducible first | refine zA ?_ | refine qaa3 ?_ | refine qaa2 ?_ | refine zK ?_) | ((with_reducible first | refine qaao ?_ | refine qaal (by rw [hP]; exact mixed) ?_); (try rw [hP]); simp -implicitDefEqProofs [*]) | ((with_reducible first | refine qaah ?_ | refine qaak ?_); (try simp -implicitDefEqProofs [*])) | ((with_reducible refine qabi ?_); (try simp only [qaa4, qaac, qaaj])) | ((with_reducible refine qabc rfl (fun h => ?_) (fun h => ?_)) <;> have h' := h <;> (try simp at h') <;> (try subst h')) | ((with_reducible refine qaaa (fun h => ?_) (fun h => ?_)) <;> have h' := h <;> (try simp at h') <;> (try subst h') <;> simp -implicitDefEqProofs [*]) | ((with_reducible refine qaan ?_ ?_); (first | omega | (unfold maxLen; omega)); simp -implicitDefEqProofs [*]) | (refine qabv (ks _ (by simp)) ⟨rfl, rfl, trivial⟩ ⟨rfl, rfl, trivial⟩ ?_; simp -implicitDefEqProofs [*]) | (with_reducible first | refine zM hm ?_ | refine zN hm ?_ | refine zO hm ?_ | refine zP hm ?_) | ((refine qad8 hm ?_ (fun _ => rfl) rfl (CoL.refl _) rfl)) | fail)
  rfl
theorem sdef_s (s : StoD) (hs : StOk s) (a : Int) (l : List Int) (hl : l.length ≤ 1000000) : SCalls Tryz.prog 19 [.ptr 0 0, .agg (hitc a l)] (qac2 s 0 1) 2 (.int .i64 (sdefC s a l)) (qac2 (qa1y s a l) 0 1) := by
 have sy := fun q => qa2i s.t s.acts a l hs.aw hs.tl hl hs.ta q
 have kc := fun q => qa91 l hl q
 rw [show qakg s.t.acts s.acts a l = qaid s a l from rfl] at sy
 have hC : sdefC s a l = qaid s a l := rfl
 have hS : qa1y s a l = if qaid s a l ≠ 0 then s else { s with da := a, dl := l } := rfl
 generalize qaid s a l = Y at sy hC hS
 rw [hC, hS]
 clear hC hS
 unfold tabc nums at sy
 unfold nums at kc
 refine qaai (N := 31) Tryz.func19 rfl rfl (by kernel_rfl) qarl (by simp) (by repeat' (first | exact trivial | refine And.intro ?_ ?_ | rfl | decide | exact PureR.ren _)) (by repeat' (first | exact trivial | refine And.intro ?_ ?_ | rfl | decide | exact PureR.ren _)) ?_
 rintro X hP hN hm
 unfold c_sdef hitc
 by_cases g1 : Y = 0
 ·subst g1
  unfold qac2 scs tabc
  repeat' (first | (with_reducible first | refine zA ?_ | refine qaa3 ?_ | refine qaa2 ?_ | refine zK ?_) | ((with_reducible first | refine qaao ?_ | refine qaal (by rw [hP]; exact mixed) ?_); (try rw [hP]); simp -implicitDefEqProofs [*]) | ((with_reducible first | refine qaah ?_ | refine qaak ?_); (try simp -implicitDefEqProofs [*])) | ((with_reducible refine qabi ?_); (try simp only [qaa4, qaac, qaaj])) | ((with_reducible refine qabc rfl (fun h => ?_) (fun h => ?_)) <;> have h' := h <;> (try simp at h') <;> (try subst h')) | ((with_reducible refine qaaa (fun h => ?_) (fun h => ?_)) <;> have h' := h <;> (try simp at h') <;> (try subst h') <;> simp -implicitDefEqProofs [*]) | ((with_reducible refine qaan ?_ ?_); (first | omega | (unfold maxLen; omega)); simp -implicitDefEqProofs [*]) | ((first | refine qabo (sy _) ?_ | refine qabo (kc _) ?_); simp -implicitDefEqProofs [*]) | (with_reducible first | refine zM hm ?_ | refine zN hm ?_ | refine zO hm ?_ | refine zP hm ?_) | ((refine qad8 (s := { s with da := a, dl := l }) hm rfl (fun _ => rfl) rfl (CoL.refl _) rfl)) | fail)
 ·have b1 : (Y != 0) = true := by simp [g1]
  rw [if_pos g1]
  replace g1 := Lib.hid g1
  unfold qac2 scs tabc
  repeat' (first | (with_reducible first | refine zA ?_ | refine qaa3 ?_ | refine qaa2 ?_ | refine zK ?_) | ((with_reducible first | refine qaao ?_ | refine qaal (by rw [hP]; exact mixed) ?_); (try rw [hP]); simp -implicitDefEqProofs [*]) | ((with_reducible first | refine qaah ?_ | refine qaak ?_); (try simp -implicitDefEqProofs [*])) | ((with_reducible refine qabi ?_); (try simp only [qaa4, qaac, qaaj])) | ((with_reducible refine qabc rfl (fun h => ?_) (fun h => ?_)) <;> have h' := h <;> (try simp at h') <;> (try subst h')) | ((with_reducible refine qaaa (fun h => ?_) (fun h => ?_)) <;> have h' := h <;> (try simp at h') <;> (try subst h') <;> simp -implicitDefEqProofs [*]) | ((with_reducible refine qaan ?_ ?_); (first | omega | (unfold maxLen; omega)); simp -implicitDefEqProofs [*]) | (refine qabo (sy _) ?_; simp -implicitDefEqProofs [*]) | (with_reducible first | refine zM hm ?_ | refine zN hm ?_ | refine zO hm ?_ | refine zP hm ?_) | ((refine qad8 hm ?_ (fun _ => rfl) rfl (CoL.refl _) rfl)) | fail)
  rfl
theorem sall_s (s : StoD) (hs : StOk s) : SCalls Tryz.prog 13 [.ptr 0 0] (qac2 s 0 1) 2 (ents s.F.all) (qac2 s 0 1) := by
 have fa := fun q hq => fin_all s.F hs.inv 1 q hq
 unfold ents at fa ⊢
 refine qaai (N := 8) Tryz.func13 rfl rfl (by kernel_rfl) qaro (by simp) (by repeat' (first | exact trivial | refine And.intro ?_ ?_ | rfl | decide | exact PureR.ren _)) (by repeat' (first | exact trivial | refine And.intro ?_ ?_ | rfl | decide | exact PureR.ren _)) ?_
 rintro X hP hN hm
 unfold c_sall qac2 scs tabc
 repeat' (first | (with_reducible first | refine zA ?_ | refine qaa3 ?_ | refine qaa2 ?_ | refine zK ?_) | ((with_reducible first | refine qaao ?_ | refine qaal (by rw [hP]; exact mixed) ?_); (try rw [hP]); simp -implicitDefEqProofs [*]) | ((with_reducible first | refine qaah ?_ | refine qaak ?_); (try simp -implicitDefEqProofs [*])) | ((with_reducible refine qabi ?_); (try simp only [qaa4, qaac, qaaj])) | ((with_reducible refine qabc rfl (fun h => ?_) (fun h => ?_)) <;> have h' := h <;> (try simp at h') <;> (try subst h')) | ((with_reducible refine qaaa (fun h => ?_) (fun h => ?_)) <;> have h' := h <;> (try simp at h') <;> (try subst h') <;> simp -implicitDefEqProofs [*]) | ((with_reducible refine qaan ?_ ?_); (first | omega | (unfold maxLen; omega)); simp -implicitDefEqProofs [*]) | (refine qadn [] trivial (qba6 s.F) (fa _ (by simp)) ⟨rfl, trivial⟩ ⟨rfl, trivial⟩ [] (by simp) ?_; simp -implicitDefEqProofs [*]) | (with_reducible first | refine zM hm ?_ | refine zN hm ?_ | refine zO hm ?_ | refine zP hm ?_) | ((refine qad8 hm rfl (fun _ => rfl) rfl (CoL.refl _) rfl)) | fail)
theorem slen_s (s : StoD) (hs : StOk s) : SCalls Tryz.prog 17 [.ptr 0 0] (qac2 s 0 1) 2 (.int .i64 s.F.cnt) (qac2 s 0 1) := by
 have fa := fun q hq => fin_cnt s.F hs.inv 1 q hq
 refine qaai (N := 8) Tryz.func17 rfl rfl (by kernel_rfl) qari (by simp) (by repeat' (first | exact trivial | refine And.intro ?_ ?_ | rfl | decide | exact PureR.ren _)) (by repeat' (first | exact trivial | refine And.intro ?_ ?_ | rfl | decide | exact PureR.ren _)) ?_
 rintro X hP hN hm
 unfold c_slen qac2 scs tabc
 repeat' (first | (with_reducible first | refine zA ?_ | refine qaa3 ?_ | refine qaa2 ?_ | refine zK ?_) | ((with_reducible first | refine qaao ?_ | refine qaal (by rw [hP]; exact mixed) ?_); (try rw [hP]); simp -implicitDefEqProofs [*]) | ((with_reducible first | refine qaah ?_ | refine qaak ?_); (try simp -implicitDefEqProofs [*])) | ((with_reducible refine qabi ?_); (try simp only [qaa4, qaac, qaaj])) | ((with_reducible refine qabc rfl (fun h => ?_) (fun h => ?_)) <;> have h' := h <;> (try simp at h') <;> (try subst h')) | ((with_reducible refine qaaa (fun h => ?_) (fun h => ?_)) <;> have h' := h <;> (try simp at h') <;> (try subst h') <;> simp -implicitDefEqProofs [*]) | ((with_reducible refine qaan ?_ ?_); (first | omega | (unfold maxLen; omega)); simp -implicitDefEqProofs [*]) | (refine qadn [] trivial (qba4 s.F) (fa _ (by simp)) ⟨rfl, trivial⟩ ⟨rfl, trivial⟩ [] (by simp) ?_; simp -implicitDefEqProofs [*]) | (with_reducible first | refine zM hm ?_ | refine zN hm ?_ | refine zO hm ?_ | refine zP hm ?_) | ((refine qad8 hm rfl (fun _ => rfl) rfl (CoL.refl _) rfl)) | fail)
theorem fin_sth {X : Cx} {sl : Sl} {hp : Hp} {u nx id n : Nat} {ty : TypeId} {cs ds c0 : List SV} {r : SV} {s : StoD} (hm : X.m = 2) (hid : 2 ≤ id) (hu : gets sl u = .ptr id 0) (h : geth hp id = some (.cells ty cs)) (h0 : geth hp 0 = some (.cells 76 c0)) (hcs : CoL c0 (scs s 1)) (h1 : geth hp 1 = some (.abs s.F.I)) (ha : qahj X.P ty = some true) (hn : qab9 X.P ty = some n) (hl : ds.length = n) (e : CoL cs ds) (hr : r = .agg ds) (hd : ∀ σ, ds.map (Go.Proofs.YtalejfkholifpaaGreat.ren σ) = ds) : QFun X [.cell u ty] 2 r (qac2 s 0 1) .ret ⟨sl, hp, nx⟩ := by
 subst hr hl
 have hw : Wk X ⟨sl, hp, nx⟩ ⟨[(u, .ptr 2 0)], qac2 s 0 1 ++ [(2, .cells ty ds)], 3⟩ := by
  refine qabe [(2, id)] hm ⟨?_, trivial⟩ ⟨⟨_, h0, rfl, ?_⟩, ⟨_, h1, rfl⟩, ⟨_, h, rfl, by rw [hd]; exact e⟩, trivial⟩ ?_ (by simp)
  ·rw [hu]; exact Co.refl _
  ·rw [qa8w s (by rfl)]; exact hcs
  ·have a1 : ¬ (0 = id) := by omega
   have a2 : ¬ (1 = id) := by omega
   have a3 : ¬ (id = 0) := by omega
   have a4 : ¬ (id = 1) := by omega
   simp [qabr, diag, idsH, qac2, List.range_succ, a1, a2, a3, a4]
 refine ⟨_, hw, ?_, ⟨rfl, rfl, trivial⟩, by simp⟩
 simp [qaf2, resL, resV, one_, gets, ha, SOp.run, SX.ev, geth, hn, qac2]
theorem ssays_o (s : StoD) (hs : StOk s) : SCalls Tryz.prog 18 [.ptr 0 0] (qac2 s 0 1) 2 (.agg (hitc s.da s.dl)) (qac2 s 0 1) := by
 have kc := fun q => qa91 s.dl hs.dl q
 unfold nums at kc
 refine qaai (N := 15) Tryz.func18 rfl rfl (by kernel_rfl) qale (by simp) (by repeat' (first | exact trivial | refine And.intro ?_ ?_ | rfl | decide | exact PureR.ren _)) (by repeat' (first | exact trivial | refine And.intro ?_ ?_ | rfl | decide | exact PureR.ren _)) ?_
 rintro X hP hN hm
 unfold c_ssays2 qac2 scs tabc hitc
 repeat' (first | (with_reducible first | refine zA ?_ | refine qaa3 ?_ | refine qaa2 ?_ | refine zK ?_) | ((with_reducible first | refine qaao ?_ | refine qaal (by rw [hP]; exact mixed) ?_); (try rw [hP]); simp -implicitDefEqProofs [*]) | ((with_reducible first | refine qaah ?_ | refine qaak ?_); (try simp -implicitDefEqProofs [*])) | ((with_reducible refine qabi ?_); (try simp only [qaa4, qaac, qaaj])) | ((with_reducible refine qabc rfl (fun h => ?_) (fun h => ?_)) <;> have h' := h <;> (try simp at h') <;> (try subst h')) | ((with_reducible refine qaaa (fun h => ?_) (fun h => ?_)) <;> have h' := h <;> (try simp at h') <;> (try subst h') <;> simp -implicitDefEqProofs [*]) | ((with_reducible refine qaan ?_ ?_); (first | omega | (unfold maxLen; omega)); simp -implicitDefEqProofs [*]) | (refine qabo (kc _) ?_; simp -implicitDefEqProofs [*]) | (with_reducible first | refine zM hm ?_ | refine zN hm ?_ | refine zO hm ?_ | refine zP hm ?_) | ((refine fin_sth hm (by decide) rfl rfl rfl (CoL.refl _) rfl (by rw [hP]; exact qamx) (by rw [hP]; exact qaja) rfl (CoL.refl _) rfl (fun _ => rfl))) | fail)
end Go.Proofs.YtalejfkholifpaaGreat
namespace Go.Proofs.YtalejfkholifpaaGreat
set_option linter.all false
open Go.RowKit
attribute [local simp] qaas qaar qaad qaag qaae qaaf qaap qaaq qaab qaa5 SOp.run SX.ev putd puts argS upds SOp.touch SSt.keep SSt.skip gets geth puth delh idOf SV.cells? setL qab4 qab5 sbin eq0 eq1 eqL qab0 qabj qabk qaa4 qaat qaac qaau qaa6 qaaj qaam FrzOk qaa9 qaa0 qaa7 qaa8 qaav qaaz qabf qaa1 qaax qaba qaaw frzS frzH frz frz1 frz0 SlotsM ObjsM ObjM rn ren ren1 ren0 qabq qabs qabt qabp qabg qab2 qab1 CoL qabb qabx dels adds idsH qabr
def actn (a : ActD) : List SV := [nums .i64 a.w, .nilsl]
instance : PureF actn := ⟨fun _ _ => rfl, fun _ => rfl, fun _ => qaci _ rfl⟩
attribute [local simp] qaay nums actc actn
def bare (a : ActD) : ActD := ⟨a.w, []⟩
def qae6 (t : TabD) (ws : List Int) : Fin_ := if t.kind = 1 then .ex ws.length t.cap (List.replicate (newN t.cap) none) else if t.kind = 2 then .px (el ws 0) t.cap 0 noE else .te ws.length t.cap []
def qajm (t : TabD) (ws : List Int) (acts : List ActD) : StoD := ⟨qae6 t ws, t, ws, acts.map bare, t.def_, t.args⟩
theorem tabF0 {t : TabD} {ws : List Int} {acts : List ActD} (h : qaek t ws acts = 0) : (t.kind = 1 ∨ t.kind = 2 ∨ t.kind = 3) ∧ 1 ≤ ws.length ∧ ws.length ≤ 3 ∧ (t.kind = 2 → ws.length = 1) ∧ 0 ≤ t.cap ∧ t.cap ≤ 16 ∧ (∀ k ∈ ws, 1 ≤ k ∧ k ≤ 48) ∧ (∀ a ∈ t.acts, 0 ≤ a ∧ a < acts.length) ∧ qakg t.acts acts t.def_ t.args = 0 ∧ t.acts.length ≤ 4 := by
 unfold qaek at h
 by_cases g1 : t.kind < 1 ∨ 3 < t.kind
 ·rw [if_pos g1] at h; exact absurd h (by decide)
 rw [if_neg g1] at h
 by_cases g2 : ws.length < 1 ∨ 3 < ws.length ∨ (t.kind = 2 ∧ 1 < ws.length) ∨ t.acts.length < 1 ∨ 4 < t.acts.length
 ·rw [if_pos g2] at h; exact absurd h (by decide)
 rw [if_neg g2] at h
 by_cases g3 : t.cap < 0 ∨ 16 < t.cap
 ·rw [if_pos g3] at h; exact absurd h (by decide)
 rw [if_neg g3] at h
 cases g4 : ws.any wOut
 ·rw [g4, if_neg (by simp)] at h
  cases g5 : t.acts.any (aOut acts.length)
  ·rw [g5, if_neg (by simp)] at h
   refine ⟨by omega, by omega, by omega, by omega, by omega, by omega, fun k hk => ?_, fun a ha => ?_, h, by omega⟩
   ·have := List.any_eq_false.1 g4 k hk; simp [wOut] at this; omega
   ·have := List.any_eq_false.1 g5 a ha; simp [aOut] at this; omega
  ·rw [g5, if_pos rfl] at h; exact absurd h (by decide)
 ·rw [g4, if_pos rfl] at h; exact absurd h (by decide)
theorem inums (xs : List Int) (h : xs.length ≤ 1000000) (q : Nat) : SCalls Tryz.prog 31 [nums .i64 xs] [] q (nums .i64 xs) [] := by
 unfold nums
 exact cl1_s (xs.map fun x => [.int .i64 x]) (by simpa using h) (by intro e he; obtain ⟨x, -, rfl⟩ := List.mem_map.1 he; rfl) q
theorem snew_no (t : TabD) (ws : List Int) (acts : List ActD) (ha : AW acts) (h1 : t.acts.length ≤ 1000000) (h2 : t.args.length ≤ 1000000) (h3 : ws.length ≤ 1000000) (h4 : acts.length ≤ 1000000) (he : qaek t ws acts ≠ 0) (q : Nat) : SCalls Tryz.prog 9 [.agg (tabc t), nums .i64 ws, .view 2 (acts.map actc)] [] q (.tup [.nil, .agg [.int .i64 (qaek t ws acts), .int .i64 (-1)]]) [] := by
 refine qabm ?_ (fun _ => rfl) (fun _ => rfl) rfl q
 have kc := fun q => qauh t ws acts ha h1 h2 h3 h4 q
 generalize qaek t ws acts = K at kc he
 have b1 : (K != 0) = true := by simp [he]
 replace he := Lib.hid he
 unfold tabc nums at kc
 refine qaai (N := 100) Tryz.func9 rfl rfl (by kernel_rfl) qai2 (by simp) (by repeat' (first | exact trivial | refine And.intro ?_ ?_ | rfl | decide | exact PureR.ren _)) (by repeat' (first | exact trivial | refine And.intro ?_ ?_ | rfl | decide | exact PureR.ren _)) ?_
 rintro X hP hN hm
 unfold c_snew tabc
 repeat' (first | (with_reducible first | refine zA ?_ | refine qaa3 ?_ | refine qaa2 ?_ | refine zK ?_) | ((with_reducible first | refine qaao ?_ | refine qaal (by rw [hP]; exact mixed) ?_); (try rw [hP]); simp -implicitDefEqProofs [*]) | ((with_reducible first | refine qaah ?_ | refine qaak ?_); (try simp -implicitDefEqProofs [*])) | ((with_reducible refine qabi ?_); (try simp only [qaa4, qaac, qaaj])) | ((with_reducible refine qabc rfl (fun h => ?_) (fun h => ?_)) <;> have h' := h <;> (try simp at h') <;> (try subst h')) | ((with_reducible refine qaaa (fun h => ?_) (fun h => ?_)) <;> have h' := h <;> (try simp at h') <;> (try subst h') <;> simp -implicitDefEqProofs [*]) | ((with_reducible refine qaan ?_ ?_); (first | omega | (unfold maxLen; omega)); simp -implicitDefEqProofs [*]) | (refine qabo (kc _) ?_; simp -implicitDefEqProofs [*]) | (with_reducible first | refine zM hm ?_ | refine zN hm ?_ | refine zO hm ?_ | refine zP hm ?_) | ((refine fin_tc hm (by decide) rfl rfl (fun _ => rfl) rfl rfl (by rw [hP]; exact qaqc) (by rw [hP]; exact qakb) rfl (CoL.refl _) rfl (fun _ => rfl))) | fail)
theorem qa9t : ∀ l : List ActD, CoLL (l.map actn) ((l.map bare).map actc)
 | [] => trivial
 | a :: l => ⟨⟨Co.refl _, Co.nilsl 5, trivial⟩, qa9t l⟩
theorem qauv (s : StoD) {σ : Nat → Nat} {j : Nat} (h : σ 1 = j) : (scs s 1).map (Go.Proofs.YtalejfkholifpaaGreat.ren σ) = scs s j := by simp [scs, tabc, Go.Proofs.YtalejfkholifpaaGreat.ren, ren1, ren0, renA, renB, h]
theorem qawm {X : Cx} {sl : Sl} {hp : Hp} {nx i j k : Nat} {cs : List SV} {s : StoD} (hP : X.P = Tryz.prog) (hm : X.m = 0) (h6 : gets sl 6 = .ptr i 0) (h7 : gets sl 7 = .ptr k 0) (hi : geth hp i = some (.cells 76 cs)) (hcs : CoL cs (scs s j)) (hj : geth hp j = some (.abs s.F.I)) (hk : geth hp k = some (.cells 34 [.int .i64 0, .int .i64 0]))
  (hok : qabr 0 3 ([(0, i), (1, j), (2, k)] ++ diag 0 [(0, i), (1, j), (2, k)] [(0, .cells 0 []), (1, .cells 0 []), (2, .cells 0 [])]) [(0, .cells 0 []), (1, .cells 0 []), (2, .cells 0 [])] = true) : QFun X [.tmp 6, .cell 7 34] 0 (.tup [.ptr 0 0, .agg [.int .i64 0, .int .i64 0]]) (qac2 s 0 1) .ret ⟨sl, hp, nx⟩ := by
 have hw : Wk X ⟨sl, hp, nx⟩ ⟨[(6, .ptr 0 0), (7, .ptr 2 0)], qac2 s 0 1 ++ [(2, .cells 34 [.int .i64 0, .int .i64 0])], 3⟩ := by
  refine qabe [(0, i), (1, j), (2, k)] hm ⟨?_, ?_, trivial⟩ ⟨⟨_, hi, rfl, ?_⟩, ⟨_, hj, rfl⟩, ⟨_, hk, rfl, CoL.refl _⟩, trivial⟩ hok (by simp)
  ·rw [h6]; exact Co.refl _
  ·rw [h7]; exact Co.refl _
  ·rw [qauv s (j := j) rfl]; exact hcs
 refine ⟨_, hw, ?_, ⟨rfl, rfl, trivial⟩, by simp⟩
 have e1 := qaqc
 have e2 := qakb
 rw [← hP] at e1 e2
 simp [qaf2, resL, resV, one_, gets, e1, e2, SOp.run, SX.ev, geth, qac2]
theorem snew_s (t : TabD) (ws : List Int) (acts : List ActD) (ha : AW acts) (h1 : t.acts.length ≤ 1000000) (h2 : t.args.length ≤ 1000000) (h3 : ws.length ≤ 1000000) (h4 : acts.length ≤ 1000000) (h5 : ∀ a ∈ acts, a.w.length ≤ 1000000) (he : qaek t ws acts = 0) : SCalls Tryz.prog 9 [.agg (tabc t), nums .i64 ws, .view 2 (acts.map actc)] [] 0 (.tup [.ptr 0 0, .agg [.int .i64 0, .int .i64 0]]) (qac2 (qajm t ws acts) 0 1) := by
 have kc := fun q => qauh t ws acts ha h1 h2 h3 h4 q
 rw [he] at kc
 have k1 := fun q => inums ws h3 q
 have k2 := fun q => qa91 t.args h2 q
 have k3 := fun q => inums t.acts h1 q
 unfold tabc nums at kc
 unfold nums at k1 k2 k3
 refine qaai (N := 100) Tryz.func9 rfl rfl (by kernel_rfl) qai2 (by simp) (by repeat' (first | exact trivial | refine And.intro ?_ ?_ | rfl | decide | exact PureR.ren _)) (by repeat' (first | exact trivial | refine And.intro ?_ ?_ | rfl | decide | exact PureR.ren _)) ?_
 rintro X hP hN hm
 unfold c_snew tabc
 repeat' (first | (with_reducible first | refine zA ?_ | refine qaa3 ?_ | refine qaa2 ?_ | refine zK ?_) | ((with_reducible first | refine qaao ?_ | refine qaal (by rw [hP]; exact mixed) ?_); (try rw [hP]); simp -implicitDefEqProofs [*]) | ((with_reducible first | refine qaah ?_ | refine qaak ?_); (try simp -implicitDefEqProofs [*])) | ((with_reducible refine qabi ?_); (try simp only [qaa4, qaac, qaaj])) | ((with_reducible refine qabc rfl (fun h => ?_) (fun h => ?_)) <;> have h' := h <;> (try simp at h') <;> (try subst h')) | ((with_reducible refine qaaa (fun h => ?_) (fun h => ?_)) <;> have h' := h <;> (try simp at h') <;> (try subst h') <;> simp -implicitDefEqProofs [*]) | ((with_reducible refine qaan ?_ ?_); (first | omega | (unfold maxLen; omega)); simp -implicitDefEqProofs [*]) | ((first | refine qabo (kc _) ?_ | refine qabo (k1 _) ?_ | refine qabo (k2 _) ?_ | refine qabo (k3 _) ?_); simp -implicitDefEqProofs [*]) | (with_reducible first | refine zM hm ?_ | refine zN hm ?_ | refine zO hm ?_ | refine zP hm ?_) | fail)
 refine qaqe (qaoy (t := 76) (cs := [.niliface, .int .i64 t.kind, .view 2 (t.keys.map refc), nums .i64 t.acts, .int .i64 t.cap, .int .i64 t.def_, nums .u64 t.args, nums .i64 ws, .nilsl, .int .i64 t.def_, nums .u64 t.args]) 40 8 69 2 rfl rfl) ?_
 simp only [zT, puth, Nat.reduceEqDiff, reduceIte, Nat.reduceAdd, List.set]
 refine qabl (qacv (fun s (i : Nat) => s.turn [(43, .int .i64 i)] [(40, .cells 76 [.niliface, .int .i64 t.kind, .view 2 (t.keys.map refc), nums .i64 t.acts, .int .i64 t.cap, .int .i64 t.def_, nums .u64 t.args, nums .i64 ws, .own 65 i, .int .i64 t.def_, nums .u64 t.args]), (65, .row 69 2 ((acts.take i).map actn))]) (fun i => i ≤ acts.length) (fun i => acts.length - i) 0 ?_ (by simp) ?_)
 ·repeat' (first | ((with_reducible refine qabe [] hm ?_ ?_ ?_ ?_) <;> (try simp only [zT, puth, Nat.reduceEqDiff, reduceIte, Nat.reduceAdd])) | (with_reducible first | refine za ?_ ?_ | refine zb ?_ ?_ ?_ ?_ | refine zc ?_ ?_ ?_ ?_ | refine zd ?_ ?_ ?_ ?_ | refine qack ?_ ?_ | refine qacg ?_ ?_) | (with_reducible first | exact qab3 | exact qacj | exact qacx | exact qac1 | exact Co.refl _ | exact CoL.refl _ | exact CoLL.refl _) | ((with_reducible first | refine zga ?_ | refine zgb ?_); rfl) | ((with_reducible refine zgc ?_); (first | (with_reducible rfl) | rfl | (simp; done))) | ((with_reducible first | refine zgd ?_ | refine zge ?_); (first | omega | (simp; done))) | (refine qad1 ⟨?_, ?_⟩ ?_ <;> omega) | (exact Co.refl _) | (exact CoL.refl _) | (exact CoLL.refl _) | (refine qabt ?_; omega) | (refine qabs ?_; first | omega | (simp_all; done)) | (with_reducible first | refine qac8 ?_ ?_ | refine qacm ?_ ?_) | fail)
 rintro J hJ i hi
 unfold qap4
 simp only [zT, puth, Nat.reduceEqDiff, reduceIte, Nat.reduceAdd]
 have hlen := qa94 actn hi
 have hb1 : i + 1 ≤ maxLen := by unfold maxLen; omega
 rcases Nat.lt_or_ge i acts.length with h | h
 ·have wi : IntKind.i64.wrap ((i : Int) + 1) = (i : Int) + 1 := qacb (by omega) (by omega)
  have hrow := qa16 actn h
  have hc := fun q => inums acts[i].w (h5 _ (List.getElem_mem h)) q
  generalize hr : acts[i] = r at hrow hc
  unfold nums at hc
  replace hc := Lib.hid hc
  repeat' (first | (with_reducible first | refine zA ?_ | refine qaa3 ?_ | refine qaa2 ?_ | refine zK ?_) | ((with_reducible first | refine qaao ?_ | refine qaal (by rw [hP]; exact mixed) ?_); (try rw [hP]); simp -implicitDefEqProofs [*]) | ((with_reducible first | refine qaah ?_ | refine qaak ?_); (try simp -implicitDefEqProofs [*])) | ((with_reducible refine qabi ?_); (try simp only [qaa4, qaac, qaaj])) | ((with_reducible refine qabc rfl (fun h => ?_) (fun h => ?_)) <;> have h' := h <;> (try simp at h') <;> (try subst h')) | ((with_reducible refine qaaa (fun h => ?_) (fun h => ?_)) <;> have h' := h <;> (try simp at h') <;> (try subst h') <;> simp -implicitDefEqProofs [*]) | ((with_reducible refine qaan ?_ ?_); (first | omega | (unfold maxLen; omega)); simp -implicitDefEqProofs [*]) | (refine qabo (hc.out _) ?_; simp -implicitDefEqProofs [*]) | (with_reducible first | refine zM hm ?_ | refine zN hm ?_ | refine zO hm ?_ | refine zP hm ?_) | ((with_reducible refine qabe [] hm ?_ ?_ ?_ ?_) <;> (try simp only [zT, puth, Nat.reduceEqDiff, reduceIte, Nat.reduceAdd])) | (with_reducible first | refine za ?_ ?_ | refine zb ?_ ?_ ?_ ?_ | refine zc ?_ ?_ ?_ ?_ | refine zd ?_ ?_ ?_ ?_ | refine qack ?_ ?_ | refine qacg ?_ ?_) | (with_reducible first | exact qab3 | exact qacj | exact qacx | exact qac1 | exact Co.refl _ | exact CoL.refl _ | exact CoLL.refl _) | ((with_reducible first | refine zga ?_ | refine zgb ?_); rfl) | ((with_reducible refine zgc ?_); (first | (with_reducible rfl) | rfl | (simp; done))) | ((with_reducible first | refine zgd ?_ | refine zge ?_); (first | omega | (simp; done))) | (refine qad1 ⟨?_, ?_⟩ ?_ <;> omega) | (exact Co.refl _) | (exact CoL.refl _) | (exact CoLL.refl _) | (refine qabt ?_; omega) | (refine qabs ?_; first | omega | (simp_all; done)) | (with_reducible first | refine qac8 ?_ ?_ | refine qacm ?_ ?_) | ((refine qabn hJ (i + 1) ?_ ?_ ?_; (with_reducible refine qabe [(40, ?_), (65, ?_)] hm ?_ ?_ ?_ ?_) <;> (try simp only [zT, puth, Nat.reduceEqDiff, reduceIte, Nat.reduceAdd]))) | fail)
  all_goals (first | exact hrow | (rw [← List.map_take]; exact hrow) | omega | trace_state)
 ·obtain rfl : i = acts.length := by omega
  repeat' (first | ((with_reducible refine qahn (c := (.seq (.seq (.reg false qal1 [1, 3, 7, 9, 62]) _) _)) ?_)) | (with_reducible first | refine zA ?_ | refine qaa3 ?_ | refine qaa2 ?_ | refine zK ?_) | ((with_reducible first | refine qaao ?_ | refine qaal (by rw [hP]; exact mixed) ?_); (try rw [hP]); simp -implicitDefEqProofs [*]) | ((with_reducible first | refine qaah ?_ | refine qaak ?_); (try simp -implicitDefEqProofs [*])) | ((with_reducible refine qabi ?_); (try simp only [qaa4, qaac, qaaj])) | ((with_reducible refine qabc rfl (fun h => ?_) (fun h => ?_)) <;> have h' := h <;> (try simp at h') <;> (try subst h')) | ((with_reducible refine qaaa (fun h => ?_) (fun h => ?_)) <;> have h' := h <;> (try simp at h') <;> (try subst h') <;> simp -implicitDefEqProofs [*]) | ((with_reducible refine qaan ?_ ?_); (first | omega | (unfold maxLen; omega)); simp -implicitDefEqProofs [*]) | (with_reducible first | refine zM hm ?_ | refine zN hm ?_ | refine zO hm ?_ | refine zP hm ?_) | fail)
  constructor
  clear hJ hi h
  refine qauj [65] ?_ ?_
  ·simp only [FrzOk, geth, Nat.reduceEqDiff, reduceIte, qapd, and_true]
  have htk : ((acts.take acts.length).map actn).take acts.length = acts.map actn := by rw [List.take_length]; exact List.take_of_length_le (by simp)
  simp -implicitDefEqProofs [htk, hlen, Nat.le_refl]
  clear hlen htk hb1
  obtain ⟨hkd, hw1, hw3, hw2, -⟩ := tabF0 he
  have nil_co : ∀ j, CoL [.ifc (qae6 t ws).ty (.agg [.ptr j 0]), .int .i64 t.kind, .view 2 (t.keys.map refc), nums .i64 t.acts, .int .i64 t.cap, .int .i64 t.def_, nums .u64 t.args, nums .i64 ws, .view 2 (acts.map actn), .int .i64 t.def_, nums .u64 t.args] (scs (qajm t ws acts) j) := fun j => by
   refine ⟨Co.refl _, Co.refl _, Co.refl _, Co.refl _, Co.refl _, Co.refl _, Co.refl _, Co.refl _, ?_, Co.refl _, Co.refl _, trivial⟩
   exact qaxk (qa9t acts)
  have nf : (qajm t ws acts).F = qae6 t ws := rfl
  clear kc k1 k2 k3
  rcases hkd with hk | hk | hk
  ·have b1 : (t.kind == 1) = true := by simp [hk]
   have hF : qae6 t ws = .ex ws.length t.cap (List.replicate (newN t.cap) none) := by unfold qae6; rw [if_pos hk]
   rw [hF] at nil_co nf
   replace nil_co := Lib.hid nil_co
   replace hk := Lib.hid hk
   repeat' (first | (with_reducible first | refine zA ?_ | refine qaa3 ?_ | refine qaa2 ?_ | refine zK ?_) | ((with_reducible first | refine qaao ?_ | refine qaal (by rw [hP]; exact mixed) ?_); (try rw [hP]); simp -implicitDefEqProofs [*]) | ((with_reducible first | refine qaah ?_ | refine qaak ?_); (try simp -implicitDefEqProofs [*])) | ((with_reducible refine qabi ?_); (try simp only [qaa4, qaac, qaaj])) | ((with_reducible refine qabc rfl (fun h => ?_) (fun h => ?_)) <;> have h' := h <;> (try simp at h') <;> (try subst h')) | ((with_reducible refine qaaa (fun h => ?_) (fun h => ?_)) <;> have h' := h <;> (try simp at h') <;> (try subst h') <;> simp -implicitDefEqProofs [*]) | ((with_reducible refine qaan ?_ ?_); (first | omega | (unfold maxLen; omega)); simp -implicitDefEqProofs [*]) | (refine qacu (xnew_a ws.length t.cap _) trivial ⟨rfl, trivial⟩ ?_; simp -implicitDefEqProofs [*]) | (with_reducible first | refine zM hm ?_ | refine zN hm ?_ | refine zO hm ?_ | refine zP hm ?_) | ((refine qawm hP hm rfl rfl rfl (nil_co.out _) (by rw [nf]; rfl) rfl rfl)) | fail)
  ·have b1 : (t.kind == 1) = false := by simp [hk]
   have b2 : (t.kind == 2) = true := by simp [hk]
   have hF : qae6 t ws = .px (el ws 0) t.cap 0 noE := by unfold qae6; rw [if_neg (by omega), if_pos hk]
   rw [hF] at nil_co nf
   have hx0 : ws[0]? = some (el ws 0) := by cases ws with | nil => simp at hw1 | cons x l => rfl
   obtain ⟨hx2, hx1⟩ := List.getElem?_eq_some_iff.1 hx0
   clear hx0
   replace nil_co := Lib.hid nil_co
   replace hk := Lib.hid hk
   repeat' (first | (with_reducible first | refine zA ?_ | refine qaa3 ?_ | refine qaa2 ?_ | refine zK ?_) | ((with_reducible first | refine qaao ?_ | refine qaal (by rw [hP]; exact mixed) ?_); (try rw [hP]); simp -implicitDefEqProofs [*]) | ((with_reducible first | refine qaah ?_ | refine qaak ?_); (try simp -implicitDefEqProofs [*])) | ((with_reducible refine qabi ?_); (try simp only [qaa4, qaac, qaaj])) | ((with_reducible refine qabc rfl (fun h => ?_) (fun h => ?_)) <;> have h' := h <;> (try simp at h') <;> (try subst h')) | ((with_reducible refine qaaa (fun h => ?_) (fun h => ?_)) <;> have h' := h <;> (try simp at h') <;> (try subst h') <;> simp -implicitDefEqProofs [*]) | ((with_reducible refine qaan ?_ ?_); (first | omega | (unfold maxLen; omega)); simp -implicitDefEqProofs [*]) | (refine qacu (newT_s (el ws 0) t.cap _) trivial ⟨rfl, trivial⟩ ?_; simp -implicitDefEqProofs [*]) | (with_reducible first | refine zM hm ?_ | refine zN hm ?_ | refine zO hm ?_ | refine zP hm ?_) | ((refine qawm hP hm rfl rfl rfl (nil_co.out _) (by rw [nf]; rfl) rfl rfl)) | fail)
  ·have b1 : (t.kind == 1) = false := by simp [hk]
   have b2 : (t.kind == 2) = false := by simp [hk]
   have hF : qae6 t ws = .te ws.length t.cap [] := by unfold qae6; rw [if_neg (by omega), if_neg (by omega)]
   rw [hF] at nil_co nf
   replace nil_co := Lib.hid nil_co
   replace hk := Lib.hid hk
   repeat' (first | (with_reducible first | refine zA ?_ | refine qaa3 ?_ | refine qaa2 ?_ | refine zK ?_) | ((with_reducible first | refine qaao ?_ | refine qaal (by rw [hP]; exact mixed) ?_); (try rw [hP]); simp -implicitDefEqProofs [*]) | ((with_reducible first | refine qaah ?_ | refine qaak ?_); (try simp -implicitDefEqProofs [*])) | ((with_reducible refine qabi ?_); (try simp only [qaa4, qaac, qaaj])) | ((with_reducible refine qabc rfl (fun h => ?_) (fun h => ?_)) <;> have h' := h <;> (try simp at h') <;> (try subst h')) | ((with_reducible refine qaaa (fun h => ?_) (fun h => ?_)) <;> have h' := h <;> (try simp at h') <;> (try subst h') <;> simp -implicitDefEqProofs [*]) | ((with_reducible refine qaan ?_ ?_); (first | omega | (unfold maxLen; omega)); simp -implicitDefEqProofs [*]) | (refine qacu (tnew_a ws.length t.cap _) trivial ⟨rfl, trivial⟩ ?_; simp -implicitDefEqProofs [*]) | (with_reducible first | refine zM hm ?_ | refine zN hm ?_ | refine zO hm ?_ | refine zP hm ?_) | ((refine qawm hP hm rfl rfl rfl (nil_co.out _) (by rw [nf]; rfl) rfl rfl)) | fail)
end Go.Proofs.YtalejfkholifpaaGreat
namespace Go.Proofs.YtalejfkholifpaaGreat
set_option linter.all false
open Go.RowKit
theorem qba8 {W : Nat} {E : PE} {n : Int} (h : PInv W n E) {e : Entry} : e ∈ allF E W W 0 0 ↔ ∃ (j : Nat) (u : Int) (x : Int × List Int), j ≤ W ∧ E j u = some x ∧ e = ce W j u x := by
 rw [qavz]
 constructor
 ·rintro ⟨j, u, x, h1, h2, h3, h4, h5⟩
  exact ⟨j, u, x, by omega, h4, h5⟩
 ·rintro ⟨j, u, x, h1, h2, h3⟩
  obtain ⟨k1, k2, k3, _⟩ := h.ok j u x h2
  exact ⟨j, u, x, by omega, by omega, Int.ediv_eq_zero_of_lt k2 (by simpa using k3), h2, h3⟩
end Go.Proofs.YtalejfkholifpaaGreat
namespace Go.Proofs.YtalejfkholifpaaGreat
set_option linter.all false
open Go.RowKit
theorem qa3s {W i j : Nat} {v u : Int} {x y : Int × List Int} (h : ce W i v x = ce W j u y) : i = j ∧ v = u ∧ x = y := by
 unfold ce at h
 injection h with h1 h2 h3 h4 h5 h6
 obtain rfl : i = j := by omega
 injection h1 with h1
 have := Int.eq_of_mul_eq_mul_right (Int.ne_of_gt (qahv (W - i))) h1
 exact ⟨rfl, this, Prod.ext h5 h6⟩
structure RelM (W : Nat) (E : PE) (L : List Entry) : Prop where
 mem : ∀ e, e ∈ L ↔ ∃ (i : Nat) (v : Int) (x : Int × List Int), E i v = some x ∧ e = ce W i v x
 nd : L.Nodup
theorem RelM.at_ {W K : Nat} {E : PE} {L : List Entry} (h : RelM W E L) {key : Int} {e : Entry} (hk : e.keys = [key]) (hl : e.len = K) (hz : key % 2 ^ (W - K) = 0) :
  (E K (pre W key K) = none ∧ atI 2 L e = -1) ∨ ∃ x, E K (pre W key K) = some x ∧ atI 2 L e = atN 2 L e ∧ ∃ hi : atN 2 L e < L.length, L[atN 2 L e] = ce W K (pre W key K) x := by
 have hkey := qawf hz
 have hone : ∀ i v x, oneB 2 (ce W i v x) e = true ↔ i = K ∧ v = pre W key K := by
  intro i v x
  unfold oneB ce
  rw [hk, hl]
  simp
  constructor
  ·rintro ⟨h1, h2⟩
   obtain rfl : i = K := by omega
   refine ⟨rfl, ?_⟩
   rw [hkey] at h2
   exact Int.eq_of_mul_eq_mul_right (Int.ne_of_gt (qahv (W - i))) h2
  ·rintro ⟨rfl, rfl⟩
   exact ⟨rfl, hkey.symm⟩
 rcases qa8f 2 L e with ⟨h1, h2⟩ | h1
 ·right
  have hb := qa3d (fun i => match L[i]? with | some a => oneB 2 a e | none => false) L.length h2
  change (match L[atN 2 L e]? with | some a => oneB 2 a e | none => false) = true at hb
  rw [List.getElem?_eq_getElem h2] at hb
  obtain ⟨i, v, x, hE, hce⟩ := (h.mem _).1 (List.getElem_mem h2)
  simp only [hce] at hb
  obtain ⟨rfl, rfl⟩ := (hone i v x).1 hb
  exact ⟨x, hE, h1, h2, hce⟩
 ·left
  refine ⟨?_, h1⟩
  cases hE : E K (pre W key K) with
  | none => rfl
  | some x =>
   obtain ⟨j, hj⟩ := List.getElem?_of_mem ((h.mem (ce W K (pre W key K) x)).2 ⟨K, _, x, hE, rfl⟩)
   obtain ⟨hjL, hje⟩ := List.getElem?_eq_some_iff.1 hj
   have hlt : atN 2 L e < L.length := by
    refine Nat.lt_of_le_of_ne (qapr _ _) fun heq => ?_
    have := qak0 (fun i => match L[i]? with | some a => oneB 2 a e | none => false) L.length j (by show j < atN 2 L e; rw [heq]; exact hjL)
    simp only [hj] at this
    rw [(hone _ _ _).2 ⟨rfl, rfl⟩] at this
    cases this
   unfold atI at h1
   rw [if_pos hlt] at h1
   omega
end Go.Proofs.YtalejfkholifpaaGreat
namespace Go.Proofs.YtalejfkholifpaaGreat
set_option linter.all false
open Go.RowKit
theorem qagf (E : PE) (K : Nat) (P : Int) (y : Option (Int × List Int)) : qad4 E K P y K P = y := if_pos ⟨rfl, rfl⟩
theorem qafk (E : PE) {K i : Nat} {P v : Int} (y : Option (Int × List Int)) (h : ¬ (i = K ∧ v = P)) : qad4 E K P y i v = E i v := if_neg h
theorem RelM.add {W K : Nat} {E : PE} {L : List Entry} (h : RelM W E L) {P : Int} {x : Int × List Int} (hn : E K P = none) : RelM W (qad4 E K P (some x)) (L ++ [ce W K P x]) := by
 constructor
 ·intro e
  rw [List.mem_append, h.mem, List.mem_singleton]
  constructor
  ·rintro (⟨i, v, y, h1, h2⟩ | rfl)
   ·refine ⟨i, v, y, ?_, h2⟩
    rw [qafk _ _ fun hh => by rw [hh.1, hh.2, hn] at h1; cases h1]; exact h1
   ·exact ⟨K, P, x, qagf _ _ _ _, rfl⟩
  ·rintro ⟨i, v, y, h1, h2⟩
   by_cases hh : i = K ∧ v = P
   ·obtain ⟨rfl, rfl⟩ := hh
    rw [qagf] at h1; cases h1
    exact .inr h2
   ·rw [qafk _ _ hh] at h1
    exact .inl ⟨i, v, y, h1, h2⟩
 ·rw [List.nodup_append]
  refine ⟨h.nd, by simp, ?_⟩
  intro a ha b hb hab
  rw [List.mem_singleton] at hb
  subst hb hab
  obtain ⟨i, v, y, h1, h2⟩ := (h.mem _).1 ha
  obtain ⟨rfl, rfl, rfl⟩ := qa3s h2
  rw [hn] at h1; cases h1
theorem RelM.parts {W K : Nat} {E : PE} {A B : List Entry} {P : Int} {x : Int × List Int} (h : RelM W E (A ++ ce W K P x :: B)) : (∀ e, e ∈ A ++ B ↔ ∃ (i : Nat) (v : Int) (y : Int × List Int), E i v = some y ∧ e = ce W i v y ∧ ¬ (i = K ∧ v = P)) ∧ (A ++ B).Nodup ∧ ∀ y, ce W K P y ∉ A ++ B := by
 have hE : E K P = some x := by
  obtain ⟨i, v, y, h1, h2⟩ := (h.mem (ce W K P x)).1 (by simp)
  obtain ⟨rfl, rfl, rfl⟩ := qa3s h2
  exact h1
 have hnd := h.nd
 rw [List.nodup_append] at hnd
 obtain ⟨n1, n2, n3⟩ := hnd
 rw [List.nodup_cons] at n2
 have hno : ∀ y, ce W K P y ∉ A ++ B := by
  intro y hy
  have : ce W K P y ∈ A ++ ce W K P x :: B := by
   rcases List.mem_append.1 hy with h1 | h1
   ·exact List.mem_append_left _ h1
   ·exact List.mem_append_right _ (List.mem_cons_of_mem _ h1)
  obtain ⟨i, v, z, h1, h2⟩ := (h.mem _).1 this
  obtain ⟨rfl, rfl, rfl⟩ := qa3s h2
  rw [hE] at h1; cases h1
  rcases List.mem_append.1 hy with h1 | h1
  ·exact n3 _ h1 _ (by simp) rfl
  ·exact n2.1 h1
 refine ⟨fun e => ?_, ?_, hno⟩
 ·constructor
  ·intro he
   have : e ∈ A ++ ce W K P x :: B := by
    rcases List.mem_append.1 he with h1 | h1
    ·exact List.mem_append_left _ h1
    ·exact List.mem_append_right _ (List.mem_cons_of_mem _ h1)
   obtain ⟨i, v, z, h1, h2⟩ := (h.mem _).1 this
   refine ⟨i, v, z, h1, h2, ?_⟩
   rintro ⟨rfl, rfl⟩
   exact hno z (h2 ▸ he)
  ·rintro ⟨i, v, y, h1, h2, h3⟩
   have := (h.mem e).2 ⟨i, v, y, h1, h2⟩
   rcases List.mem_append.1 this with h4 | h4
   ·exact List.mem_append_left _ h4
   ·rcases List.mem_cons.1 h4 with h5 | h5
    ·rw [h5] at h2
     obtain ⟨q1, q2, _⟩ := qa3s h2
     exact absurd ⟨q1.symm, q2.symm⟩ h3
    ·exact List.mem_append_right _ h5
 ·rw [List.nodup_append]
  exact ⟨n1, n2.2, fun a ha b hb => n3 a ha b (List.mem_cons_of_mem _ hb)⟩
theorem RelM.set {W K : Nat} {E : PE} {A B : List Entry} {P : Int} {x y : Int × List Int} (h : RelM W E (A ++ ce W K P x :: B)) : RelM W (qad4 E K P (some y)) (A ++ ce W K P y :: B) := by
 obtain ⟨h1, h2, h3⟩ := h.parts
 have hmem : ∀ e, e ∈ A ++ ce W K P y :: B ↔ e ∈ A ++ B ∨ e = ce W K P y := fun e => by
  simp only [List.mem_append, List.mem_cons]
  constructor
  ·rintro (h | h | h)
   ·exact .inl (.inl h)
   ·exact .inr h
   ·exact .inl (.inr h)
  ·rintro ((h | h) | h)
   ·exact .inl h
   ·exact .inr (.inr h)
   ·exact .inr (.inl h)
 constructor
 ·intro e
  rw [hmem, h1]
  constructor
  ·rintro (⟨i, v, z, q1, q2, q3⟩ | rfl)
   ·exact ⟨i, v, z, by rw [qafk _ _ q3]; exact q1, q2⟩
   ·exact ⟨K, P, y, qagf _ _ _ _, rfl⟩
  ·rintro ⟨i, v, z, q1, q2⟩
   by_cases hh : i = K ∧ v = P
   ·obtain ⟨rfl, rfl⟩ := hh
    rw [qagf] at q1; cases q1
    exact .inr q2
   ·rw [qafk _ _ hh] at q1
    exact .inl ⟨i, v, z, q1, q2, hh⟩
 ·have h4 := h3 y
  rw [List.nodup_append] at h2 ⊢
  obtain ⟨n1, n2, n3⟩ := h2
  refine ⟨n1, List.nodup_cons.2 ⟨fun hb => h4 (List.mem_append_right _ hb), n2⟩, fun a ha b hb hab => ?_⟩
  rcases List.mem_cons.1 hb with hb | hb
  ·subst hab hb; exact h4 (List.mem_append_left _ ha)
  ·exact n3 a ha b hb hab
theorem RelM.drop {W K : Nat} {E : PE} {A B : List Entry} {P : Int} {x : Int × List Int} (h : RelM W E (A ++ ce W K P x :: B)) : RelM W (qad4 E K P none) (A ++ B) := by
 obtain ⟨h1, h2, h3⟩ := h.parts
 refine ⟨fun e => ?_, h2⟩
 rw [h1]
 constructor
 ·rintro ⟨i, v, z, q1, q2, q3⟩
  exact ⟨i, v, z, by rw [qafk _ _ q3]; exact q1, q2⟩
 ·rintro ⟨i, v, z, q1, q2⟩
  by_cases hh : i = K ∧ v = P
  ·obtain ⟨rfl, rfl⟩ := hh
   rw [qagf] at q1; cases q1
  ·rw [qafk _ _ hh] at q1
   exact ⟨i, v, z, q1, q2, hh⟩
end Go.Proofs.YtalejfkholifpaaGreat
namespace Go.Proofs.YtalejfkholifpaaGreat
set_option linter.all false
open Go.RowKit
variable {width n : Int} {E : PE} {L : List Entry} {e : Entry} {key : Int}
theorem qav7 {W K : Nat} {P : Int} {E : PE} {y : Option (Int × List Int)} (hK : K ≤ W) (p0 : 0 ≤ P) (p1 : P < 2 ^ K) : (allF (qad4 E K P y) W W 0 0).length + (E K P).toList.length = (allF E W W 0 0).length + y.toList.length := by
 have := qann E W K P y W 0 0
 rwa [if_pos (qafd hK p0 p1), if_pos (qafd hK p0 p1)] at this
theorem PInv.set {W K : Nat} {n : Int} {P : Int} {x y : Int × List Int} (h : PInv W n E) (hE : E K P = some x) (ha : y.2.length ≤ 1000) (hf : AllFit .u64 y.2) (hact : Fits .i64 y.1) : PInv W n (qad4 E K P (some y)) := by
 obtain ⟨i1, i2, i3, _⟩ := h.ok K P x hE
 refine ⟨?_, fun i v z hz => ?_⟩
 ·have := qav7 (y := some y) (E := E) i1 i2 i3
  rw [hE] at this
  simp at this
  rw [h.cnt]; omega
 ·unfold qad4 at hz
  split at hz
  ·rename_i e
   obtain ⟨rfl, rfl⟩ := e
   cases hz
   exact ⟨i1, i2, i3, ha, hf, hact⟩
  ·exact h.ok i v z hz
end Go.Proofs.YtalejfkholifpaaGreat
namespace Go.Proofs.YtalejfkholifpaaGreat
set_option linter.all false
open Go.RowKit
theorem qaqj (S : List Entry) : qakh S S = true := by
 unfold qakh
 rw [decide_eq_true rfl, Bool.true_and]
 refine List.all_eq_true.2 fun i hi => ?_
 rw [List.getElem?_eq_getElem (List.mem_range.1 hi)]
 simp [qam8]
theorem qbb3 {S : XTab} {j : Nat} {s t : XSlot} (hj : S[j]? = some (some t)) : cnt (S.set j (some s)) = cnt S := by
 have hl := qacp hj
 have := qagh S j (some s) hl
 rw [List.getElem?_eq_getElem hl] at hj
 rw [Option.some.inj hj] at this
 simpa using this
theorem qaxo {k m : Int} {S : XTab} (h : XInv k m S) {xs : List Int} (hV : qai3 k S xs = 0) : ∃ (j : Nat) (t : XSlot), S[j]? = some (some t) ∧ t.keys = xs ∧ qacz S xs = (j, true) := by
 have hp : (qacz S xs).2 = true := by
  unfold qai3 at hV
  split at hV
  ·cases hV
  ·split at hV
   ·assumption
   ·cases hV
 obtain ⟨t, ht, hk⟩ := (qavk h).1 hp
 obtain ⟨j, hj⟩ := qafh.1 ht
 exact ⟨j, t, hj, hk, by rw [← hk]; exact qagn h hj⟩
theorem qawo {F : Fin_} (h : F.Inv) {e : Entry} (he : EOk e) : (F.add e).Inv := by
 cases F with
 | ex k m S =>
  obtain ⟨h1, h2, h3, h4⟩ := h
  show XInv k m (addX k m S ⟨e.keys, e.act, e.args⟩) ∧ 0 ≤ m ∧ m ≤ 16 ∧ (cnt (addX k m S ⟨e.keys, e.act, e.args⟩) : Int) ≤ m
  unfold addX
  by_cases hV : qat7 k m S e.keys = 0
  ·rw [if_pos hV]
   obtain ⟨p1, p2⟩ := qa1u h1 (s := ⟨e.keys, e.act, e.args⟩) ⟨he.small.1, he.small.2.2⟩ hV
   refine ⟨p1, h2, h3, ?_⟩
   rw [qapx p2]
   unfold qat7 at hV
   split at hV
   ·cases hV
   ·split at hV
    ·cases hV
    ·split at hV
     ·cases hV
     ·omega
  ·rw [if_neg hV]; exact ⟨h1, h2, h3, h4⟩
 | px w m n E =>
  obtain ⟨h1, h2, h3, h4, h5⟩ := h
  have h0 : 0 ≤ kof e := (he.fit.kof).u64.1
  have hw : ((w.toNat : Nat) : Int) = w := by have := h1.1; omega
  have := h2.add (most := m) (key := kof e) (k := e.len) h0 he.few he.fit.args he.fit.act
  rw [hw] at this
  exact ⟨h1, this.1, h3, h4, this.2 h5⟩
 | te k m l =>
  obtain ⟨h1, h2, h3, h4⟩ := h
  have := qa8h (k := k) (m := m) (l := l) (e := e) (by omega)
  exact ⟨qbdq h1 he.small, h2, h3, by show ((addR k m l e).length : Int) ≤ m; omega⟩
theorem qawn {F : Fin_} (h : F.Inv) {e : Entry} (he : EOk e) : (F.chg e).Inv := by
 cases F with
 | ex k m S =>
  obtain ⟨h1, h2, h3, h4⟩ := h
  show XInv k m (chgX k S ⟨e.keys, e.act, e.args⟩) ∧ 0 ≤ m ∧ m ≤ 16 ∧ (cnt (chgX k S ⟨e.keys, e.act, e.args⟩) : Int) ≤ m
  unfold chgX
  by_cases hV : qai3 k S e.keys = 0
  ·rw [if_pos hV]
   obtain ⟨j, t, hj, hk, hp⟩ := qaxo h1 hV
   rw [hp]
   exact ⟨qbb2 h1 ⟨he.small.1, he.small.2.2⟩ hj hk.symm, h2, h3, by rw [qbb3 hj]; exact h4⟩
  ·rw [if_neg hV]; exact ⟨h1, h2, h3, h4⟩
 | px w m n E =>
  obtain ⟨h1, h2, h3, h4, h5⟩ := h
  refine ⟨h1, ?_, h3, h4, h5⟩
  by_cases hV : qada w E (kof e) e.len = 0
  ·rw [qakn hV]
   unfold qada at hV
   split at hV
   ·cases hV
   ·split at hV
    ·rename_i hs
     obtain ⟨x, hx⟩ := Option.isSome_iff_exists.1 hs
     exact h2.set (y := (e.act, e.args)) hx he.few he.fit.args he.fit.act
    ·cases hV
  ·rw [qahb hV]; exact h2
 | te k m l =>
  obtain ⟨h1, h2, h3, h4⟩ := h
  exact ⟨qbb5 h1 he.small, h2, h3, by show ((chgR k l e).length : Int) ≤ m; rw [qbb4]; exact h4⟩
theorem qaq2 {F : Fin_} (h : F.Inv) {e : Entry} (he : EOk e) : (F.drop e).Inv := by
 cases F with
 | ex k m S =>
  obtain ⟨h1, h2, h3, h4⟩ := h
  show XInv k m (drpX k S e.keys) ∧ 0 ≤ m ∧ m ≤ 16 ∧ (cnt (drpX k S e.keys) : Int) ≤ m
  unfold drpX
  by_cases hV : qai3 k S e.keys = 0
  ·rw [if_pos hV]
   obtain ⟨j, t, hj, hk, hp⟩ := qaxo h1 hV
   rw [hp]
   obtain ⟨p1, _, p3⟩ := qbbt h1 hj
   exact ⟨p1, h2, h3, by show (cnt (qai1 _ _ S j) : Int) ≤ m; omega⟩
  ·rw [if_neg hV]; exact ⟨h1, h2, h3, h4⟩
 | px w m n E =>
  obtain ⟨h1, h2, h3, h4, h5⟩ := h
  have h0 : 0 ≤ kof e := (he.fit.kof).u64.1
  have hw : ((w.toNat : Nat) : Int) = w := by have := h1.1; omega
  have := h2.drop (key := kof e) (k := e.len) h0
  rw [hw] at this
  exact ⟨h1, this.1, h3, h4, by show qadr w n E (kof e) e.len ≤ m; omega⟩
 | te k m l =>
  obtain ⟨h1, h2, h3, h4⟩ := h
  have := qa3l (k := k) (l := l) (e := e)
  exact ⟨qa3m h1, h2, h3, by show ((qapw k l e).length : Int) ≤ m; omega⟩
theorem qaju {F : Fin_} (e : Entry) : (F.addV e ≠ 0 → F.add e = F) ∧ (F.chgV e ≠ 0 → F.chg e = F) ∧ (F.dropV e ≠ 0 → F.drop e = F) := by
 cases F with
 | ex k m S =>
  refine ⟨fun h => ?_, fun h => ?_, fun h => ?_⟩
  ·exact congrArg (Fin_.ex k m) (if_neg h)
  ·exact congrArg (Fin_.ex k m) (if_neg h)
  ·exact congrArg (Fin_.ex k m) (if_neg h)
 | px w m n E =>
  refine ⟨fun h => ?_, fun h => ?_, fun h => ?_⟩
  ·show Fin_.px w m (qaex w m n E (kof e) e.len) (qae4 w m n E (kof e) e.len e.act e.args) = _
   have h1 := qaf8 (show qacq w m n E (kof e) e.len ≠ 0 from h) e.act e.args
   rw [h1.1, h1.2]
  ·exact congrArg (Fin_.px w m n) (qahb (show qada w E (kof e) e.len ≠ 0 from h) _ _)
  ·show Fin_.px w m (qadr w n E (kof e) e.len) (qad6 w E (kof e) e.len) = _
   have h1 := qaf7 (n := n) (show qaca w E (kof e) e.len ≠ 0 from h)
   rw [h1.1, h1.2]
 | te k m l =>
  have hd : dropV k l e ≠ 0 → qapw k l e = l ∧ chgR k l e = l := fun h => by
   unfold dropV at h
   unfold qapw chgR
   split at h
   ·rename_i h1; rw [if_pos h1, if_pos h1]; exact ⟨rfl, rfl⟩
   ·rename_i h1
    split at h
    ·rename_i h2; rw [if_neg h1, if_pos h2, if_neg h1, if_pos h2]; exact ⟨rfl, rfl⟩
    ·exact absurd rfl h
  refine ⟨fun h => ?_, fun h => ?_, fun h => ?_⟩
  ·exact congrArg (Fin_.te k m) (if_neg h)
  ·show Fin_.te k m (chgR k l e) = _; rw [(hd h).2]
  ·show Fin_.te k m (qapw k l e) = _; rw [(hd h).1]
theorem fin_len {F : Fin_} (h : F.Inv) : (F.all.length : Int) = F.cnt := by
 cases F with
 | ex k m S => show (((qa8t S).map entE).length : Int) = (cnt S : Int); rw [List.length_map, (qaf0 S).length_eq, qah1]
 | px w m n E => exact (qa1s h.1 h.2.1).symm
 | te k m l => show ((qa8r l).length : Int) = l.length; rw [(qa1r h.1).length_eq]
theorem qak2 {F : Fin_} (h : F.Inv) : F.cnt ≤ F.m ∧ F.m ≤ 16 := by
 cases F with
 | ex k m S => exact ⟨h.2.2.2, h.2.2.1⟩
 | px w m n E => exact ⟨h.2.2.2.2, h.2.2.2.1⟩
 | te k m l => exact ⟨h.2.2.2, h.2.2.1⟩
theorem qa3e {F : Fin_} (h : F.Inv) : ∀ e ∈ F.all, qade e := by
 intro e he
 cases F with
 | ex k m S =>
  obtain ⟨s, hs, rfl⟩ := List.mem_map.1 he
  obtain ⟨j, hj⟩ := qafh.1 ((qaf0 S).mem_iff.1 hs)
  have := h.1.small j s hj
  exact ⟨this.1, Nat.zero_le _, this.2⟩
 | px w m n E =>
  have he : e ∈ allT w E := he
  unfold allT at he
  rw [if_pos h.1] at he
  obtain ⟨j, u, x, _, hx, rfl⟩ := (qba8 h.2.1).1 he
  have := (h.2.1.ok j u x hx).2.2.2.1
  exact ⟨by simp [ce], by simp [ce], by simp [ce]; omega⟩
 | te k m l => exact h.1.small e ((qa1r h.1).mem_iff.1 he)
theorem km_add (F : Fin_) (e : Entry) : (F.add e).k = F.k ∧ (F.add e).m = F.m ∧ (F.add e).kind = F.kind := by cases F <;> exact ⟨rfl, rfl, rfl⟩
theorem km_chg (F : Fin_) (e : Entry) : (F.chg e).k = F.k ∧ (F.chg e).m = F.m ∧ (F.chg e).kind = F.kind := by cases F <;> exact ⟨rfl, rfl, rfl⟩
theorem km_drop (F : Fin_) (e : Entry) : (F.drop e).k = F.k ∧ (F.drop e).m = F.m ∧ (F.drop e).kind = F.kind := by cases F <;> exact ⟨rfl, rfl, rfl⟩
theorem StOk.turn {s : StoD} (h : StOk s) {F : Fin_} (hF : F.Inv) (hk : F.k = s.F.k ∧ F.m = s.F.m ∧ F.kind = s.F.kind) : StOk { s with F := F } :=
 ⟨hF, by show s.t.kind = F.kind; rw [hk.2.2]; exact h.kind, by show (s.w.length : Int) = F.k; rw [hk.1]; exact h.k, by show s.t.cap = F.m; rw [hk.2.1]; exact h.m, h.wd, h.wl, h.aw, h.ta, h.tl, h.dl⟩
theorem sadd_ok {s : StoD} (h : StOk s) {e : Entry} (he : EOk e) : StOk (qa10 s e) := by
 unfold qa10; split
 ·exact h
 ·split
  ·exact h
  ·exact h.turn (qawo h.inv he) (km_add _ _)
theorem schg_ok {s : StoD} (h : StOk s) {e : Entry} (he : EOk e) : StOk (qa1z s e) := by
 unfold qa1z; split
 ·exact h
 ·split
  ·exact h
  ·exact h.turn (qawn h.inv he) (km_chg _ _)
theorem qbaf {s : StoD} (h : StOk s) {e : Entry} (he : EOk e) : StOk (qaie s e) := by
 unfold qaie; split
 ·exact h
 ·exact h.turn (qaq2 h.inv he) (km_drop _ _)
theorem sdef_ok {s : StoD} (h : StOk s) {a : Int} {l : List Int} (hl : l.length ≤ 1000000) : StOk (qa1y s a l) := by
 unfold qa1y; split
 ·exact h
 ·exact ⟨h.inv, h.kind, h.k, h.m, h.wd, h.wl, h.aw, h.ta, h.tl, hl⟩
theorem qa2a (s : StoD) (e : Entry) : saddC s e ≠ 0 → qa10 s e = s := by
 unfold saddC qa10
 intro h
 split at h
 ·rename_i h1; rw [if_pos h1]
 ·rename_i h1
  rw [if_neg h1]
  split at h
  ·rename_i h2; rw [if_pos h2]
  ·rename_i h2; rw [if_neg h2, (qaju e).1 h]
theorem qa19 (s : StoD) (e : Entry) : schgC s e ≠ 0 → qa1z s e = s := by
 unfold schgC qa1z
 intro h
 split at h
 ·rename_i h1; rw [if_pos h1]
 ·rename_i h1
  rw [if_neg h1]
  split at h
  ·rename_i h2; rw [if_pos h2]
  ·rename_i h2; rw [if_neg h2, (qaju e).2.1 h]
theorem qauk (s : StoD) (e : Entry) : qauu s e ≠ 0 → qaie s e = s := by
 unfold qauu qaie
 intro h
 split at h
 ·rename_i h1; rw [if_pos h1]
 ·rename_i h1
  rw [if_neg h1, (qaju e).2.2 h]
theorem qa18 (s : StoD) (a : Int) (l : List Int) : sdefC s a l ≠ 0 → qa1y s a l = s := by
 unfold sdefC qa1y
 intro h
 rw [if_pos h]
theorem qavx {t : TabD} {ws : List Int} {acts : List ActD} (h : qaek t ws acts = 0) : (qae6 t ws).Inv := by
 obtain ⟨hk, h1, h2, h3, h4, h5, h6, h7, h8, h9⟩ := tabF0 h
 have hc : cnt (List.replicate (newN t.cap) (none : Option XSlot)) = 0 := by unfold cnt; rw [List.countP_replicate]; simp
 unfold qae6
 split
 ·exact ⟨qa92 _ _, h4, h5, by rw [hc]; omega⟩
 ·split
  ·rename_i h10
   have hl := h3 h10
   have hw : okWd (el ws 0) := by
    cases ws with
    | nil => simp at hl
    | cons x l => have := h6 x (by simp); show 1 ≤ x ∧ x ≤ 64; omega
   exact ⟨hw, PInv.none _, h4, h5, h4⟩
  ·exact ⟨qa97 _, h4, h5, by simpa using h4⟩
theorem qa22 {t : TabD} {ws : List Int} {acts : List ActD} (ha : AW acts) (ht : t.args.length ≤ 1000000) (h : qaek t ws acts = 0) : StOk (qajm t ws acts) := by
 obtain ⟨hk, h1, h2, h3, h4, h5, h6, h7, h8, h9⟩ := tabF0 h
 refine ⟨qavx h, ?_, ?_, ?_, h6, h2, ?_, ?_, by show t.acts.length ≤ 1000000; omega, ht⟩
 ·show t.kind = (qae6 t ws).kind
  unfold qae6
  rcases hk with h | h | h
  ·rw [if_pos h]; exact h
  ·rw [if_neg (by omega), if_pos h]; exact h
  ·rw [if_neg (by omega), if_neg (by omega)]; exact h
 ·show (ws.length : Int) = (qae6 t ws).k
  unfold qae6
  rcases hk with h | h | h
  ·rw [if_pos h]; rfl
  ·rw [if_neg (by omega), if_pos h]; show (ws.length : Int) = 1; rw [h3 h]; rfl
  ·rw [if_neg (by omega), if_neg (by omega)]; rfl
 ·show t.cap = (qae6 t ws).m
  unfold qae6
  split
  ·rfl
  ·split <;> rfl
 ·intro a hm x hx
  obtain ⟨b, hb, rfl⟩ := List.mem_map.1 hm
  exact ha b hb x hx
 ·intro k hkm
  have := h7 k hkm
  show 0 ≤ k ∧ k < ((acts.map bare).length : Int)
  rw [List.length_map]; exact this
end Go.Proofs.YtalejfkholifpaaGreat
