/-
  Texts joined: XStoC XStoD XStoE XPfxN XDoesA XDoesB XDoesC XStoG XDoesE. No condition.
-/
import Derived.WalkSpells
import Derived.RegionTactic
import Derived.BigRegion
import Derived.Deep.RegionLaw
import Derived.Test.YtalejfkholifpaaGreatProg
import Derived.Test.YtalejfkholifpaaGreatStoreSetK16
namespace Go.Proofs.YtalejfkholifpaaGreat
set_option linter.all false
open Go.RowKit
attribute [local simp] qaas qaar qaac qaag qaad qaaf qaap qaaq qaab qaa4 SOp.run SX.ev putd puts argS upds SOp.touch SSt.keep SSt.skip gets geth puth delh idOf SV.cells? setL qab7 qab8 sbin eq0 eq1 eqL qab5 qabh qabi qaa5 qaat qaae qaau qaa6 qaam qaan FrzOk qaba qaa0 qaa8 qaa9 qaav qaaz qabe qaa1 qaax qabb qaaw frzS frzH frz frz1 frz0 SlotsM ObjsM ObjM rn ren ren1 ren0 qabp qabs qabt qabo qabf qab1 qab0 CoL qabc qabw dels adds idsH qabq
attribute [local simp] qaay nums
structure StOk (s : StoD) : Prop where
 inv : s.F.Inv
 kind : s.t.kind = s.F.kind
 k : (s.w.length : Int) = s.F.k
 m : s.t.cap = s.F.m
 wd : ∀ x ∈ s.w, 1 ≤ x ∧ x ≤ 48
 wl : s.w.length ≤ 3
 aw : AW s.acts
 ta : ∀ k ∈ s.t.acts, 0 ≤ k ∧ k < s.acts.length
 tl : s.t.acts.length ≤ 1000000
 dl : s.dl.length ≤ 1000000
def qafg (s : StoD) (e : Entry) : Int :=
 if e.keys.length ≠ s.w.length ∨ (s.t.kind = 3 ∧ e.masks.length ≠ s.w.length) then 2
 else if (s.t.kind ≠ 3 ∧ (0 < e.masks.length ∨ e.prio ≠ 0)) ∨ (s.t.kind ≠ 2 ∧ e.len ≠ 0) then 4
 else if qac1 e.keys s.w = true ∨ (s.t.kind = 3 ∧ qac1 e.masks s.w = true) then 6 else 0
theorem qbbz (s : StoD) {σ : Nat → Nat} (h : σ 1 = 1) : (scs s 1).map (Go.Proofs.YtalejfkholifpaaGreat.ren σ) = scs s 1 := by simp [scs, tabc, Go.Proofs.YtalejfkholifpaaGreat.ren, ren1, ren0, renA, renB, h]
theorem qaex {X : Cx} {sl : Sl} {hp : Hp} {t nx : Nat} {v r : SV} {cs : List SV} {s : StoD} (hm : X.m = 2) (hv : v = r) (hN : NoN r) (h0 : geth hp 0 = some (.cells 76 cs)) (hcs : CoL cs (scs s 1)) (h1 : geth hp 1 = some (.abs s.F.I)) : QFun X [.tmp t] 2 r (qac2 s 0 1) .ret ⟨(t, v) :: sl, hp, nx⟩ := by
 subst hv
 have hw : Wk X ⟨(t, v) :: sl, hp, nx⟩ ⟨[(t, v)], qac2 s 0 1, 2⟩ := by
  refine qabg [] hm ⟨?_, trivial⟩ ⟨⟨_, h0, rfl, ?_⟩, ⟨_, h1, rfl⟩, trivial⟩ rfl (by simp)
  ·rw [hN]; simp only [gets, if_true]; exact Co.refl _
  ·rw [qbbz s (by rfl)]; exact hcs
 exact ⟨_, hw, by simp [qage, resL, resV, one_, gets], ⟨rfl, rfl, trivial⟩, by simp⟩
theorem qbbw (s : StoD) (hs : StOk s) (xs : List Int) (hx : xs.length = s.w.length) : SCalls Tryz.prog 38 [.ptr 0 0, nums .u64 xs] (qac2 s 0 1) 2 (.bool (!qac1 xs s.w)) (qac2 s 0 1) := by
 have hwl := hs.wl
 refine qaai (N := 25) Tryz.func38 rfl rfl (by kernel_rfl) qap0 (by simp) (by repeat' (first | exact trivial | refine And.intro ?_ ?_ | rfl | decide | exact PureR.ren _)) (by repeat' (first | exact trivial | refine And.intro ?_ ?_ | rfl | decide | exact PureR.ren _)) ?_
 rintro X hP hN hm
 obtain ⟨F, hF⟩ : ∃ F, F = !qac1 xs s.w := ⟨_, rfl⟩
 rw [← hF]
 have hwd := Lib.hid hs.wd
 replace hF := Lib.hid hF
 replace hx := Lib.hid hx
 unfold c_sfits qac2 scs tabc
 repeat' (first | (with_reducible first | refine zA ?_ | refine qaa3 ?_ | refine qaa2 ?_ | refine zK ?_) | ((with_reducible first | refine qaao ?_ | refine qaak (by rw [hP]; exact mixed) ?_); (try rw [hP]); simp -implicitDefEqProofs [*]) | ((with_reducible first | refine qaah ?_ | refine qaaj ?_); (try simp -implicitDefEqProofs [*])) | ((with_reducible refine qabl ?_); (try simp only [qaa5, qaae, qaam])) | ((with_reducible refine qabd rfl (fun h => ?_) (fun h => ?_)) <;> have h' := h <;> (try simp at h') <;> (try subst h')) | ((with_reducible refine qaaa (fun h => ?_) (fun h => ?_)) <;> have h' := h <;> (try simp at h') <;> (try subst h') <;> simp -implicitDefEqProofs [*]) | ((with_reducible refine qaal ?_ ?_); (first | omega | (unfold maxLen; omega)); simp -implicitDefEqProofs [*]) | (with_reducible first | refine zM hm ?_ | refine zN hm ?_ | refine zO hm ?_ | refine zP hm ?_) | fail)
 refine qabj (qacp (fun st (i : Nat) => st.turn [(9, .int .i64 i)] []) (fun i => i ≤ xs.length ∧ F = !qac1 (xs.drop i) (s.w.drop i)) (fun i => xs.length - i) 0 ?_ ⟨by simp, hF.out⟩ ?_)
 ·repeat' (first | ((with_reducible refine qabg [] hm ?_ ?_ ?_ ?_) <;> (try simp only [zT, puth, Nat.reduceEqDiff, reduceIte, Nat.reduceAdd])) | (with_reducible first | refine za ?_ ?_ | refine zb ?_ ?_ ?_ ?_ | refine zc ?_ ?_ ?_ ?_ | refine zd ?_ ?_ ?_ ?_ | refine qacs ?_ ?_ | refine qacq ?_ ?_) | (with_reducible first | exact qacc | exact qacr | exact qada | exact qadc | exact Co.refl _ | exact CoL.refl _ | exact CoLL.refl _) | ((with_reducible first | refine zga ?_ | refine zgb ?_); rfl) | ((with_reducible refine zgc ?_); (first | (with_reducible rfl) | rfl | (simp; done))) | ((with_reducible first | refine zgd ?_ | refine zge ?_); (first | omega | (simp; done))) | (refine qaee ⟨?_, ?_⟩ ?_ <;> omega) | (exact Co.refl _) | (exact CoL.refl _) | (exact CoLL.refl _) | (refine qabt ?_; omega) | (refine qabs ?_; first | omega | (simp_all; done)) | (with_reducible first | refine qadi ?_ ?_ | refine qacy ?_ ?_) | fail)
 rintro J hJ i ⟨h1, h2⟩
 unfold qanf
 simp only [zT, puth, Nat.reduceEqDiff, reduceIte, Nat.reduceAdd] at h1 h2 ⊢
 have hxl := hx.out
 rcases Nat.lt_or_ge i xs.length with hi | hi
 ·have hi2 : i < s.w.length := by omega
  rw [qaib hi hi2] at h2
  have hww := hwd.out _ (List.getElem_mem hi2)
  have hms := fun q => mask_w s.w[i] (Fits.of_i64 (by omega) (by omega)) q
  generalize hw : s.w[i] = w at h2 hms hww
  generalize hxi : xs[i] = x at h2
  have wi : IntKind.i64.wrap ((i : Int) + 1) = (i : Int) + 1 := qabz (by omega) (by omega)
  replace h2 := Lib.hid h2
  clear hwd
  cases hv : qav0 x w
  ·unfold qav0 at hv
   repeat' (first | (with_reducible first | refine zA ?_ | refine qaa3 ?_ | refine qaa2 ?_ | refine zK ?_) | ((with_reducible first | refine qaao ?_ | refine qaak (by rw [hP]; exact mixed) ?_); (try rw [hP]); simp -implicitDefEqProofs [*]) | ((with_reducible first | refine qaah ?_ | refine qaaj ?_); (try simp -implicitDefEqProofs [*])) | ((with_reducible refine qabl ?_); (try simp only [qaa5, qaae, qaam])) | ((with_reducible refine qabd rfl (fun h => ?_) (fun h => ?_)) <;> have h' := h <;> (try simp at h') <;> (try subst h')) | ((with_reducible refine qaaa (fun h => ?_) (fun h => ?_)) <;> have h' := h <;> (try simp at h') <;> (try subst h') <;> simp -implicitDefEqProofs [*]) | ((with_reducible refine qaal ?_ ?_); (first | omega | (unfold maxLen; omega)); simp -implicitDefEqProofs [*]) | (refine qabr (hms _) ?_; simp -implicitDefEqProofs [*]) | (with_reducible first | refine zM hm ?_ | refine zN hm ?_ | refine zO hm ?_ | refine zP hm ?_) | ((with_reducible refine qabg [] hm ?_ ?_ ?_ ?_) <;> (try simp only [zT, puth, Nat.reduceEqDiff, reduceIte, Nat.reduceAdd])) | (with_reducible first | refine za ?_ ?_ | refine zb ?_ ?_ ?_ ?_ | refine zc ?_ ?_ ?_ ?_ | refine zd ?_ ?_ ?_ ?_ | refine qacs ?_ ?_ | refine qacq ?_ ?_) | (with_reducible first | exact qacc | exact qacr | exact qada | exact qadc | exact Co.refl _ | exact CoL.refl _ | exact CoLL.refl _) | ((with_reducible first | refine zga ?_ | refine zgb ?_); rfl) | ((with_reducible refine zgc ?_); (first | (with_reducible rfl) | rfl | (simp; done))) | ((with_reducible first | refine zgd ?_ | refine zge ?_); (first | omega | (simp; done))) | (refine qaee ⟨?_, ?_⟩ ?_ <;> omega) | (exact Co.refl _) | (exact CoL.refl _) | (exact CoLL.refl _) | (refine qabt ?_; omega) | (refine qabs ?_; first | omega | (simp_all; done)) | (with_reducible first | refine qadi ?_ ?_ | refine qacy ?_ ?_) | ((refine qabn hJ (i + 1) ?_ ?_ ?_; (with_reducible refine qabg [] hm ?_ ?_ ?_ ?_) <;> (try simp only [zT, puth, Nat.reduceEqDiff, reduceIte, Nat.reduceAdd]))) | fail)
   refine ⟨by omega, ?_⟩
   rw [h2.out, show qav0 x w = false from hv, Bool.false_or]
  ·unfold qav0 at hv
   repeat' (first | (with_reducible first | refine zA ?_ | refine qaa3 ?_ | refine qaa2 ?_ | refine zK ?_) | ((with_reducible first | refine qaao ?_ | refine qaak (by rw [hP]; exact mixed) ?_); (try rw [hP]); simp -implicitDefEqProofs [*]) | ((with_reducible first | refine qaah ?_ | refine qaaj ?_); (try simp -implicitDefEqProofs [*])) | ((with_reducible refine qabl ?_); (try simp only [qaa5, qaae, qaam])) | ((with_reducible refine qabd rfl (fun h => ?_) (fun h => ?_)) <;> have h' := h <;> (try simp at h') <;> (try subst h')) | ((with_reducible refine qaaa (fun h => ?_) (fun h => ?_)) <;> have h' := h <;> (try simp at h') <;> (try subst h') <;> simp -implicitDefEqProofs [*]) | ((with_reducible refine qaal ?_ ?_); (first | omega | (unfold maxLen; omega)); simp -implicitDefEqProofs [*]) | (refine qabr (hms _) ?_; simp -implicitDefEqProofs [*]) | (with_reducible first | refine zM hm ?_ | refine zN hm ?_ | refine zO hm ?_ | refine zP hm ?_) | ((refine qaex hm ?_ (fun _ => rfl) rfl (CoL.refl _) rfl)) | fail)
   rw [h2.out, show qav0 x w = true from hv]; rfl
 ·obtain rfl : i = xs.length := by omega
  rw [List.drop_length] at h2
  replace h2 := Lib.hid h2
  repeat' (first | (with_reducible first | refine zA ?_ | refine qaa3 ?_ | refine qaa2 ?_ | refine zK ?_) | ((with_reducible first | refine qaao ?_ | refine qaak (by rw [hP]; exact mixed) ?_); (try rw [hP]); simp -implicitDefEqProofs [*]) | ((with_reducible first | refine qaah ?_ | refine qaaj ?_); (try simp -implicitDefEqProofs [*])) | ((with_reducible refine qabl ?_); (try simp only [qaa5, qaae, qaam])) | ((with_reducible refine qabd rfl (fun h => ?_) (fun h => ?_)) <;> have h' := h <;> (try simp at h') <;> (try subst h')) | ((with_reducible refine qaaa (fun h => ?_) (fun h => ?_)) <;> have h' := h <;> (try simp at h') <;> (try subst h') <;> simp -implicitDefEqProofs [*]) | ((with_reducible refine qaal ?_ ?_); (first | omega | (unfold maxLen; omega)); simp -implicitDefEqProofs [*]) | (with_reducible first | refine zM hm ?_ | refine zN hm ?_ | refine zO hm ?_ | refine zP hm ?_) | ((refine qaex hm ?_ (fun _ => rfl) rfl (CoL.refl _) rfl)) | fail)
  rw [h2.out]; rfl
theorem qawi (s : StoD) (hs : StOk s) (e : Entry) : SCalls Tryz.prog 36 [.ptr 0 0, .agg (qaay e)] (qac2 s 0 1) 2 (.int .i64 (qafg s e)) (qac2 s 0 1) := by
 have hwl := hs.wl
 refine qaai (N := 79) Tryz.func36 rfl rfl (by kernel_rfl) qapz (by simp) (by repeat' (first | exact trivial | refine And.intro ?_ ?_ | rfl | decide | exact PureR.ren _)) (by repeat' (first | exact trivial | refine And.intro ?_ ?_ | rfl | decide | exact PureR.ren _)) ?_
 rintro X hP hN hm
 obtain ⟨F, hF⟩ : ∃ F, F = qafg s e := ⟨_, rfl⟩
 rw [← hF]
 unfold qafg at hF
 have k1 := fun (xs : List Int) (h : xs.length = s.w.length) q hq => qagb (qbbw s hs xs h) (fun _ => rfl) (fun _ => rfl) rfl 0 1 q (by decide) (by omega) hq
 unfold qac2 scs tabc nums at k1
 replace k1 := Lib.hid k1
 replace hF := Lib.hid hF
 unfold c_skeys qac2 scs tabc
 by_cases g1 : e.keys.length = s.w.length
 ·have b1 : ((e.keys.length : Int) != s.w.length) = false := by simp [g1]
  by_cases g3 : s.t.kind = 3
  ·have b3 : (s.t.kind == 3) = true := by simp [g3]
   have b2 : (s.t.kind != 2) = true := by simp [g3]
   by_cases g2 : e.masks.length = s.w.length
   ·have b4 : ((e.masks.length : Int) != s.w.length) = false := by simp [g2]
    have c1 := fun q hq => k1.out e.keys g1 q hq
    have c2 := fun q hq => k1.out e.masks g2 q hq
    replace g1 := Lib.hid g1
    replace g2 := Lib.hid g2
    replace g3 := Lib.hid g3
    by_cases g5 : e.len = 0
    ·have b5 : (e.len != 0) = false := by simp [g5]
     replace g5 := Lib.hid g5
     cases w1 : qac1 e.keys s.w <;> cases w2 : qac1 e.masks s.w <;> rw [w1] at c1 <;> rw [w2] at c2
     all_goals
      repeat' (first | (with_reducible first | refine zA ?_ | refine qaa3 ?_ | refine qaa2 ?_ | refine zK ?_) | ((with_reducible first | refine qaao ?_ | refine qaak (by rw [hP]; exact mixed) ?_); (try rw [hP]); simp -implicitDefEqProofs [*]) | ((with_reducible first | refine qaah ?_ | refine qaaj ?_); (try simp -implicitDefEqProofs [*])) | ((with_reducible refine qabl ?_); (try simp only [qaa5, qaae, qaam])) | ((with_reducible refine qabd rfl (fun h => ?_) (fun h => ?_)) <;> have h' := h <;> (try simp at h') <;> (try subst h')) | ((with_reducible refine qaaa (fun h => ?_) (fun h => ?_)) <;> have h' := h <;> (try simp at h') <;> (try subst h') <;> simp -implicitDefEqProofs [*]) | ((with_reducible refine qaal ?_ ?_); (first | omega | (unfold maxLen; omega)); simp -implicitDefEqProofs [*]) | ((first | refine qab4 (c1 _ (by simp)) ⟨rfl, rfl, trivial⟩ ⟨rfl, rfl, trivial⟩ ?_ | refine qab4 (c2 _ (by simp)) ⟨rfl, rfl, trivial⟩ ⟨rfl, rfl, trivial⟩ ?_); simp -implicitDefEqProofs [*]) | (with_reducible first | refine zM hm ?_ | refine zN hm ?_ | refine zO hm ?_ | refine zP hm ?_) | ((refine qaex hm ?_ (fun _ => rfl) rfl (CoL.refl _) rfl)) | fail)
      rw [hF.out]; simp [g1.out, g2.out, g3.out, g5.out, w1, w2]
    ·have b5 : (e.len != 0) = true := by simp [g5]
     replace g5 := Lib.hid g5
     repeat' (first | (with_reducible first | refine zA ?_ | refine qaa3 ?_ | refine qaa2 ?_ | refine zK ?_) | ((with_reducible first | refine qaao ?_ | refine qaak (by rw [hP]; exact mixed) ?_); (try rw [hP]); simp -implicitDefEqProofs [*]) | ((with_reducible first | refine qaah ?_ | refine qaaj ?_); (try simp -implicitDefEqProofs [*])) | ((with_reducible refine qabl ?_); (try simp only [qaa5, qaae, qaam])) | ((with_reducible refine qabd rfl (fun h => ?_) (fun h => ?_)) <;> have h' := h <;> (try simp at h') <;> (try subst h')) | ((with_reducible refine qaaa (fun h => ?_) (fun h => ?_)) <;> have h' := h <;> (try simp at h') <;> (try subst h') <;> simp -implicitDefEqProofs [*]) | ((with_reducible refine qaal ?_ ?_); (first | omega | (unfold maxLen; omega)); simp -implicitDefEqProofs [*]) | (with_reducible first | refine zM hm ?_ | refine zN hm ?_ | refine zO hm ?_ | refine zP hm ?_) | ((refine qaex hm ?_ (fun _ => rfl) rfl (CoL.refl _) rfl)) | fail)
     rw [hF.out]; simp [g1.out, g2.out, g3.out, g5.out]
   ·have b4 : ((e.masks.length : Int) != s.w.length) = true := by simp; omega
    replace g1 := Lib.hid g1
    replace g2 := Lib.hid g2
    replace g3 := Lib.hid g3
    repeat' (first | (with_reducible first | refine zA ?_ | refine qaa3 ?_ | refine qaa2 ?_ | refine zK ?_) | ((with_reducible first | refine qaao ?_ | refine qaak (by rw [hP]; exact mixed) ?_); (try rw [hP]); simp -implicitDefEqProofs [*]) | ((with_reducible first | refine qaah ?_ | refine qaaj ?_); (try simp -implicitDefEqProofs [*])) | ((with_reducible refine qabl ?_); (try simp only [qaa5, qaae, qaam])) | ((with_reducible refine qabd rfl (fun h => ?_) (fun h => ?_)) <;> have h' := h <;> (try simp at h') <;> (try subst h')) | ((with_reducible refine qaaa (fun h => ?_) (fun h => ?_)) <;> have h' := h <;> (try simp at h') <;> (try subst h') <;> simp -implicitDefEqProofs [*]) | ((with_reducible refine qaal ?_ ?_); (first | omega | (unfold maxLen; omega)); simp -implicitDefEqProofs [*]) | (with_reducible first | refine zM hm ?_ | refine zN hm ?_ | refine zO hm ?_ | refine zP hm ?_) | ((refine qaex hm ?_ (fun _ => rfl) rfl (CoL.refl _) rfl)) | fail)
    rw [hF.out]; simp [g1.out, g2.out, g3.out]
  ·have b3 : (s.t.kind == 3) = false := by simp [g3]
   have c1 := fun q hq => k1.out e.keys g1 q hq
   replace g1 := Lib.hid g1
   replace g3 := Lib.hid g3
   by_cases g4 : e.masks = []
   rotate_left 1
   ·have g5 : 0 < e.masks.length := List.length_pos_iff.2 g4
    have b4 : decide (0 < e.masks.length) = true := decide_eq_true g5
    replace g5 := Lib.hid g5
    repeat' (first | (with_reducible first | refine zA ?_ | refine qaa3 ?_ | refine qaa2 ?_ | refine zK ?_) | ((with_reducible first | refine qaao ?_ | refine qaak (by rw [hP]; exact mixed) ?_); (try rw [hP]); simp -implicitDefEqProofs [*]) | ((with_reducible first | refine qaah ?_ | refine qaaj ?_); (try simp -implicitDefEqProofs [*])) | ((with_reducible refine qabl ?_); (try simp only [qaa5, qaae, qaam])) | ((with_reducible refine qabd rfl (fun h => ?_) (fun h => ?_)) <;> have h' := h <;> (try simp at h') <;> (try subst h')) | ((with_reducible refine qaaa (fun h => ?_) (fun h => ?_)) <;> have h' := h <;> (try simp at h') <;> (try subst h') <;> simp -implicitDefEqProofs [*]) | ((with_reducible refine qaal ?_ ?_); (first | omega | (unfold maxLen; omega)); simp -implicitDefEqProofs [*]) | (with_reducible first | refine zM hm ?_ | refine zN hm ?_ | refine zO hm ?_ | refine zP hm ?_) | ((refine qaex hm ?_ (fun _ => rfl) rfl (CoL.refl _) rfl)) | fail)
    rw [hF.out]; simp [g1.out, g3.out, g5.out]
   ·by_cases g6 : e.prio = 0
    ·have b6 : (e.prio != 0) = false := by simp [g6]
     replace g6 := Lib.hid g6
     by_cases g2 : s.t.kind = 2
     ·have b2 : (s.t.kind != 2) = false := by simp [g2]
      replace g2 := Lib.hid g2
      cases w1 : qac1 e.keys s.w <;> rw [w1] at c1
      all_goals
       repeat' (first | (with_reducible first | refine zA ?_ | refine qaa3 ?_ | refine qaa2 ?_ | refine zK ?_) | ((with_reducible first | refine qaao ?_ | refine qaak (by rw [hP]; exact mixed) ?_); (try rw [hP]); simp -implicitDefEqProofs [*]) | ((with_reducible first | refine qaah ?_ | refine qaaj ?_); (try simp -implicitDefEqProofs [*])) | ((with_reducible refine qabl ?_); (try simp only [qaa5, qaae, qaam])) | ((with_reducible refine qabd rfl (fun h => ?_) (fun h => ?_)) <;> have h' := h <;> (try simp at h') <;> (try subst h')) | ((with_reducible refine qaaa (fun h => ?_) (fun h => ?_)) <;> have h' := h <;> (try simp at h') <;> (try subst h') <;> simp -implicitDefEqProofs [*]) | ((with_reducible refine qaal ?_ ?_); (first | omega | (unfold maxLen; omega)); simp -implicitDefEqProofs [*]) | (refine qab4 (c1 _ (by simp)) ⟨rfl, rfl, trivial⟩ ⟨rfl, rfl, trivial⟩ ?_; simp -implicitDefEqProofs [*]) | (with_reducible first | refine zM hm ?_ | refine zN hm ?_ | refine zO hm ?_ | refine zP hm ?_) | ((refine qaex hm ?_ (fun _ => rfl) rfl (CoL.refl _) rfl)) | fail)
       rw [hF.out]; simp [g1.out, g2.out, g3.out, g4, g6.out, w1]
     ·have b2 : (s.t.kind != 2) = true := by simp [g2]
      replace g2 := Lib.hid g2
      by_cases g5 : e.len = 0
      ·have b5 : (e.len != 0) = false := by simp [g5]
       replace g5 := Lib.hid g5
       cases w1 : qac1 e.keys s.w <;> rw [w1] at c1
       all_goals
        repeat' (first | (with_reducible first | refine zA ?_ | refine qaa3 ?_ | refine qaa2 ?_ | refine zK ?_) | ((with_reducible first | refine qaao ?_ | refine qaak (by rw [hP]; exact mixed) ?_); (try rw [hP]); simp -implicitDefEqProofs [*]) | ((with_reducible first | refine qaah ?_ | refine qaaj ?_); (try simp -implicitDefEqProofs [*])) | ((with_reducible refine qabl ?_); (try simp only [qaa5, qaae, qaam])) | ((with_reducible refine qabd rfl (fun h => ?_) (fun h => ?_)) <;> have h' := h <;> (try simp at h') <;> (try subst h')) | ((with_reducible refine qaaa (fun h => ?_) (fun h => ?_)) <;> have h' := h <;> (try simp at h') <;> (try subst h') <;> simp -implicitDefEqProofs [*]) | ((with_reducible refine qaal ?_ ?_); (first | omega | (unfold maxLen; omega)); simp -implicitDefEqProofs [*]) | (refine qab4 (c1 _ (by simp)) ⟨rfl, rfl, trivial⟩ ⟨rfl, rfl, trivial⟩ ?_; simp -implicitDefEqProofs [*]) | (with_reducible first | refine zM hm ?_ | refine zN hm ?_ | refine zO hm ?_ | refine zP hm ?_) | ((refine qaex hm ?_ (fun _ => rfl) rfl (CoL.refl _) rfl)) | fail)
        rw [hF.out]; simp [g1.out, g2.out, g3.out, g4, g5.out, g6.out, w1]
      ·have b5 : (e.len != 0) = true := by simp [g5]
       replace g5 := Lib.hid g5
       repeat' (first | (with_reducible first | refine zA ?_ | refine qaa3 ?_ | refine qaa2 ?_ | refine zK ?_) | ((with_reducible first | refine qaao ?_ | refine qaak (by rw [hP]; exact mixed) ?_); (try rw [hP]); simp -implicitDefEqProofs [*]) | ((with_reducible first | refine qaah ?_ | refine qaaj ?_); (try simp -implicitDefEqProofs [*])) | ((with_reducible refine qabl ?_); (try simp only [qaa5, qaae, qaam])) | ((with_reducible refine qabd rfl (fun h => ?_) (fun h => ?_)) <;> have h' := h <;> (try simp at h') <;> (try subst h')) | ((with_reducible refine qaaa (fun h => ?_) (fun h => ?_)) <;> have h' := h <;> (try simp at h') <;> (try subst h') <;> simp -implicitDefEqProofs [*]) | ((with_reducible refine qaal ?_ ?_); (first | omega | (unfold maxLen; omega)); simp -implicitDefEqProofs [*]) | (with_reducible first | refine zM hm ?_ | refine zN hm ?_ | refine zO hm ?_ | refine zP hm ?_) | ((refine qaex hm ?_ (fun _ => rfl) rfl (CoL.refl _) rfl)) | fail)
       rw [hF.out]; simp [g1.out, g2.out, g3.out, g4, g5.out, g6.out]
    ·have b6 : (e.prio != 0) = true := by simp [g6]
     replace g6 := Lib.hid g6
     repeat' (first | (with_reducible first | refine zA ?_ | refine qaa3 ?_ | refine qaa2 ?_ | refine zK ?_) | ((with_reducible first | refine qaao ?_ | refine qaak (by rw [hP]; exact mixed) ?_); (try rw [hP]); simp -implicitDefEqProofs [*]) | ((with_reducible first | refine qaah ?_ | refine qaaj ?_); (try simp -implicitDefEqProofs [*])) | ((with_reducible refine qabl ?_); (try simp only [qaa5, qaae, qaam])) | ((with_reducible refine qabd rfl (fun h => ?_) (fun h => ?_)) <;> have h' := h <;> (try simp at h') <;> (try subst h')) | ((with_reducible refine qaaa (fun h => ?_) (fun h => ?_)) <;> have h' := h <;> (try simp at h') <;> (try subst h') <;> simp -implicitDefEqProofs [*]) | ((with_reducible refine qaal ?_ ?_); (first | omega | (unfold maxLen; omega)); simp -implicitDefEqProofs [*]) | (with_reducible first | refine zM hm ?_ | refine zN hm ?_ | refine zO hm ?_ | refine zP hm ?_) | ((refine qaex hm ?_ (fun _ => rfl) rfl (CoL.refl _) rfl)) | fail)
     rw [hF.out]; simp [g1.out, g3.out, g4, g6.out]
 ·have b1 : ((e.keys.length : Int) != s.w.length) = true := by simp; omega
  replace g1 := Lib.hid g1
  repeat' (first | (with_reducible first | refine zA ?_ | refine qaa3 ?_ | refine qaa2 ?_ | refine zK ?_) | ((with_reducible first | refine qaao ?_ | refine qaak (by rw [hP]; exact mixed) ?_); (try rw [hP]); simp -implicitDefEqProofs [*]) | ((with_reducible first | refine qaah ?_ | refine qaaj ?_); (try simp -implicitDefEqProofs [*])) | ((with_reducible refine qabl ?_); (try simp only [qaa5, qaae, qaam])) | ((with_reducible refine qabd rfl (fun h => ?_) (fun h => ?_)) <;> have h' := h <;> (try simp at h') <;> (try subst h')) | ((with_reducible refine qaaa (fun h => ?_) (fun h => ?_)) <;> have h' := h <;> (try simp at h') <;> (try subst h') <;> simp -implicitDefEqProofs [*]) | ((with_reducible refine qaal ?_ ?_); (first | omega | (unfold maxLen; omega)); simp -implicitDefEqProofs [*]) | (with_reducible first | refine zM hm ?_ | refine zN hm ?_ | refine zO hm ?_ | refine zP hm ?_) | ((refine qaex hm ?_ (fun _ => rfl) rfl (CoL.refl _) rfl)) | fail)
  rw [hF.out]; simp [g1.out]
end Go.Proofs.YtalejfkholifpaaGreat
namespace Go.Proofs.YtalejfkholifpaaGreat
set_option linter.all false
open Go.RowKit
attribute [local simp] qaas qaar qaac qaag qaad qaaf qaap qaaq qaab qaa4 SOp.run SX.ev putd puts argS upds SOp.touch SSt.keep SSt.skip gets geth puth delh idOf SV.cells? setL qab7 qab8 sbin eq0 eq1 eqL qab5 qabh qabi qaa5 qaat qaae qaau qaa6 qaam qaan FrzOk qaba qaa0 qaa8 qaa9 qaav qaaz qabe qaa1 qaax qabb qaaw frzS frzH frz frz1 frz0 SlotsM ObjsM ObjM rn ren ren1 ren0 qabp qabs qabt qabo qabf qab1 qab0 CoL qabc qabw dels adds idsH qabq
attribute [local simp] qaay nums
theorem qagv {s : StoD} {e : Entry} (h : qafg s e = 0) : e.keys.length = s.w.length ∧ (s.t.kind = 3 → e.masks.length = s.w.length) ∧ (s.t.kind ≠ 3 → e.masks.length = 0 ∧ e.prio = 0) ∧ (s.t.kind ≠ 2 → e.len = 0) ∧ qac1 e.keys s.w = false := by
 unfold qafg at h
 by_cases g1 : e.keys.length ≠ s.w.length ∨ (s.t.kind = 3 ∧ e.masks.length ≠ s.w.length)
 ·rw [if_pos g1] at h; exact absurd h (by decide)
 rw [if_neg g1] at h
 by_cases g2 : (s.t.kind ≠ 3 ∧ (0 < e.masks.length ∨ e.prio ≠ 0)) ∨ (s.t.kind ≠ 2 ∧ e.len ≠ 0)
 ·rw [if_pos g2] at h; exact absurd h (by decide)
 rw [if_neg g2] at h
 by_cases g3 : qac1 e.keys s.w = true ∨ (s.t.kind = 3 ∧ qac1 e.masks s.w = true)
 ·rw [if_pos g3] at h; exact absurd h (by decide)
 refine ⟨by omega, by omega, by omega, by omega, ?_⟩
 cases hw : qac1 e.keys s.w
 ·rfl
 ·exact absurd (.inl hw) g3
def qaja (s : StoD) (act : Int) (args : List Int) : Int := qan7 s.t.acts s.acts act args
theorem ty_add (F : Fin_) (e : Entry) : (F.add e).ty = F.ty := by cases F <;> rfl
theorem ty_chg (F : Fin_) (e : Entry) : (F.chg e).ty = F.ty := by cases F <;> rfl
theorem ty_drop (F : Fin_) (e : Entry) : (F.drop e).ty = F.ty := by cases F <;> rfl
def saddC (s : StoD) (e : Entry) : Int := if qafg s e ≠ 0 then qafg s e else if qaja s e.act e.args ≠ 0 then qaja s e.act e.args else s.F.addV e
def qaws (s : StoD) (e : Entry) : StoD := if qafg s e ≠ 0 then s else if qaja s e.act e.args ≠ 0 then s else { s with F := s.F.add e }
def schgC (s : StoD) (e : Entry) : Int := if qafg s e ≠ 0 then qafg s e else if qaja s e.act e.args ≠ 0 then qaja s e.act e.args else s.F.chgV e
def qa43 (s : StoD) (e : Entry) : StoD := if qafg s e ≠ 0 then s else if qaja s e.act e.args ≠ 0 then s else { s with F := s.F.chg e }
def qbdm (s : StoD) (e : Entry) : Int := if qafg s e ≠ 0 then qafg s e else s.F.dropV e
def qakg (s : StoD) (e : Entry) : StoD := if qafg s e ≠ 0 then s else { s with F := s.F.drop e }
def qahu (s : StoD) (xs : List Int) : Option (Int × List Int) := if xs.length = s.w.length ∧ qac1 xs s.w = false then s.F.find xs else none
def qaon (s : StoD) (xs : List Int) : SV := .tup [.agg (hitc ((qahu s xs).map (·.1) |>.getD s.da) ((qahu s xs).map (·.2) |>.getD s.dl)), .bool (qahu s xs).isSome]
theorem sadd_s (s : StoD) (hs : StOk s) (e : Entry) (he : EOk e) : SCalls Tryz.prog 10 [.ptr 0 0, .agg (qaay e)] (qac2 s 0 1) 2 (.int .i64 (saddC s e)) (qac2 (qaws s e) 0 1) := by
 have ks := fun q hq => qagb (qawi s hs e) (fun _ => rfl) (fun _ => rfl) rfl 0 1 q (by decide) (by omega) hq
 have sy := fun q => qbdo s.t s.acts e.act e.args hs.aw hs.tl he.small.2.2 hs.ta q
 have hk : qafg s e = 0 → (e.keys.length : Int) = s.F.k := fun h => by rw [(qagv h).1]; exact hs.k
 have fa := fun h q hq => fin_add s.F hs.inv e he (hk h) 1 q hq
 rw [show qan7 s.t.acts s.acts e.act e.args = qaja s e.act e.args from rfl] at sy
 have hC : saddC s e = if qafg s e ≠ 0 then qafg s e else if qaja s e.act e.args ≠ 0 then qaja s e.act e.args else s.F.addV e := rfl
 have hS : qaws s e = if qafg s e ≠ 0 then s else if qaja s e.act e.args ≠ 0 then s else { s with F := s.F.add e } := rfl
 generalize qafg s e = K at ks fa hC hS
 generalize qaja s e.act e.args = Y at sy hC hS
 rw [hC, hS]
 clear hC hS hk
 unfold qac2 scs tabc nums at ks
 unfold tabc nums at sy
 refine qaai (N := 35) Tryz.func10 rfl rfl (by kernel_rfl) qatr (by simp) (by repeat' (first | exact trivial | refine And.intro ?_ ?_ | rfl | decide | exact PureR.ren _)) (by repeat' (first | exact trivial | refine And.intro ?_ ?_ | rfl | decide | exact PureR.ren _)) ?_
 rintro X hP hN hm
 unfold c_sadd
 by_cases g1 : K = 0
 ·subst g1
  have fa1 := fa rfl
  by_cases g2 : Y = 0
  ·subst g2
   unfold qac2 scs tabc
   repeat' (first | (with_reducible first | refine zA ?_ | refine qaa3 ?_ | refine qaa2 ?_ | refine zK ?_) | ((with_reducible first | refine qaao ?_ | refine qaak (by rw [hP]; exact mixed) ?_); (try rw [hP]); simp -implicitDefEqProofs [*]) | ((with_reducible first | refine qaah ?_ | refine qaaj ?_); (try simp -implicitDefEqProofs [*])) | ((with_reducible refine qabl ?_); (try simp only [qaa5, qaae, qaam])) | ((with_reducible refine qabd rfl (fun h => ?_) (fun h => ?_)) <;> have h' := h <;> (try simp at h') <;> (try subst h')) | ((with_reducible refine qaaa (fun h => ?_) (fun h => ?_)) <;> have h' := h <;> (try simp at h') <;> (try subst h') <;> simp -implicitDefEqProofs [*]) | ((with_reducible refine qaal ?_ ?_); (first | omega | (unfold maxLen; omega)); simp -implicitDefEqProofs [*]) | ((first | refine qab4 (ks _ (by simp)) ⟨rfl, rfl, trivial⟩ ⟨rfl, rfl, trivial⟩ ?_ | refine qabr (sy _) ?_ | refine qadl [] trivial (qbeg s.F) (fa1 _ (by simp)) ⟨rfl, trivial⟩ ⟨rfl, trivial⟩ [] (by simp) ?_); simp -implicitDefEqProofs [*]) | (with_reducible first | refine zM hm ?_ | refine zN hm ?_ | refine zO hm ?_ | refine zP hm ?_) | ((refine qaex (s := { s with F := s.F.add e }) hm rfl (fun _ => rfl) rfl ?_ rfl)) | fail)
   show CoL _ (.ifc (s.F.add e).ty _ :: _)
   rw [ty_add]; exact CoL.refl _
  ·have b2 : (Y != 0) = true := by simp [g2]
   rw [if_neg (by simp), if_pos g2, if_neg (by simp), if_pos g2]
   replace g2 := Lib.hid g2
   unfold qac2 scs tabc
   repeat' (first | (with_reducible first | refine zA ?_ | refine qaa3 ?_ | refine qaa2 ?_ | refine zK ?_) | ((with_reducible first | refine qaao ?_ | refine qaak (by rw [hP]; exact mixed) ?_); (try rw [hP]); simp -implicitDefEqProofs [*]) | ((with_reducible first | refine qaah ?_ | refine qaaj ?_); (try simp -implicitDefEqProofs [*])) | ((with_reducible refine qabl ?_); (try simp only [qaa5, qaae, qaam])) | ((with_reducible refine qabd rfl (fun h => ?_) (fun h => ?_)) <;> have h' := h <;> (try simp at h') <;> (try subst h')) | ((with_reducible refine qaaa (fun h => ?_) (fun h => ?_)) <;> have h' := h <;> (try simp at h') <;> (try subst h') <;> simp -implicitDefEqProofs [*]) | ((with_reducible refine qaal ?_ ?_); (first | omega | (unfold maxLen; omega)); simp -implicitDefEqProofs [*]) | ((first | refine qab4 (ks _ (by simp)) ⟨rfl, rfl, trivial⟩ ⟨rfl, rfl, trivial⟩ ?_ | refine qabr (sy _) ?_); simp -implicitDefEqProofs [*]) | (with_reducible first | refine zM hm ?_ | refine zN hm ?_ | refine zO hm ?_ | refine zP hm ?_) | ((refine qaex hm ?_ (fun _ => rfl) rfl (CoL.refl _) rfl)) | fail)
   rfl
 ·have b1 : (K != 0) = true := by simp [g1]
  rw [if_pos g1, if_pos g1]
  replace g1 := Lib.hid g1
  unfold qac2 scs tabc
  repeat' (first | (with_reducible first | refine zA ?_ | refine qaa3 ?_ | refine qaa2 ?_ | refine zK ?_) | ((with_reducible first | refine qaao ?_ | refine qaak (by rw [hP]; exact mixed) ?_); (try rw [hP]); simp -implicitDefEqProofs [*]) | ((with_reducible first | refine qaah ?_ | refine qaaj ?_); (try simp -implicitDefEqProofs [*])) | ((with_reducible refine qabl ?_); (try simp only [qaa5, qaae, qaam])) | ((with_reducible refine qabd rfl (fun h => ?_) (fun h => ?_)) <;> have h' := h <;> (try simp at h') <;> (try subst h')) | ((with_reducible refine qaaa (fun h => ?_) (fun h => ?_)) <;> have h' := h <;> (try simp at h') <;> (try subst h') <;> simp -implicitDefEqProofs [*]) | ((with_reducible refine qaal ?_ ?_); (first | omega | (unfold maxLen; omega)); simp -implicitDefEqProofs [*]) | (refine qab4 (ks _ (by simp)) ⟨rfl, rfl, trivial⟩ ⟨rfl, rfl, trivial⟩ ?_; simp -implicitDefEqProofs [*]) | (with_reducible first | refine zM hm ?_ | refine zN hm ?_ | refine zO hm ?_ | refine zP hm ?_) | ((refine qaex hm ?_ (fun _ => rfl) rfl (CoL.refl _) rfl)) | fail)
  rfl
theorem schg_s (s : StoD) (hs : StOk s) (e : Entry) (he : EOk e) : SCalls Tryz.prog 11 [.ptr 0 0, .agg (qaay e)] (qac2 s 0 1) 2 (.int .i64 (schgC s e)) (qac2 (qa43 s e) 0 1) := by
 have ks := fun q hq => qagb (qawi s hs e) (fun _ => rfl) (fun _ => rfl) rfl 0 1 q (by decide) (by omega) hq
 have sy := fun q => qbdo s.t s.acts e.act e.args hs.aw hs.tl he.small.2.2 hs.ta q
 have hk : qafg s e = 0 → (e.keys.length : Int) = s.F.k := fun h => by rw [(qagv h).1]; exact hs.k
 have fa := fun h q hq => fin_chg s.F hs.inv e he (hk h) 1 q hq
 rw [show qan7 s.t.acts s.acts e.act e.args = qaja s e.act e.args from rfl] at sy
 have hC : schgC s e = if qafg s e ≠ 0 then qafg s e else if qaja s e.act e.args ≠ 0 then qaja s e.act e.args else s.F.chgV e := rfl
 have hS : qa43 s e = if qafg s e ≠ 0 then s else if qaja s e.act e.args ≠ 0 then s else { s with F := s.F.chg e } := rfl
 generalize qafg s e = K at ks fa hC hS
 generalize qaja s e.act e.args = Y at sy hC hS
 rw [hC, hS]
 clear hC hS hk
 unfold qac2 scs tabc nums at ks
 unfold tabc nums at sy
 refine qaai (N := 35) Tryz.func11 rfl rfl (by kernel_rfl) qato (by simp) (by repeat' (first | exact trivial | refine And.intro ?_ ?_ | rfl | decide | exact PureR.ren _)) (by repeat' (first | exact trivial | refine And.intro ?_ ?_ | rfl | decide | exact PureR.ren _)) ?_
 rintro X hP hN hm
 unfold c_schg
 by_cases g1 : K = 0
 ·subst g1
  have fa1 := fa rfl
  by_cases g2 : Y = 0
  ·subst g2
   unfold qac2 scs tabc
   repeat' (first | (with_reducible first | refine zA ?_ | refine qaa3 ?_ | refine qaa2 ?_ | refine zK ?_) | ((with_reducible first | refine qaao ?_ | refine qaak (by rw [hP]; exact mixed) ?_); (try rw [hP]); simp -implicitDefEqProofs [*]) | ((with_reducible first | refine qaah ?_ | refine qaaj ?_); (try simp -implicitDefEqProofs [*])) | ((with_reducible refine qabl ?_); (try simp only [qaa5, qaae, qaam])) | ((with_reducible refine qabd rfl (fun h => ?_) (fun h => ?_)) <;> have h' := h <;> (try simp at h') <;> (try subst h')) | ((with_reducible refine qaaa (fun h => ?_) (fun h => ?_)) <;> have h' := h <;> (try simp at h') <;> (try subst h') <;> simp -implicitDefEqProofs [*]) | ((with_reducible refine qaal ?_ ?_); (first | omega | (unfold maxLen; omega)); simp -implicitDefEqProofs [*]) | ((first | refine qab4 (ks _ (by simp)) ⟨rfl, rfl, trivial⟩ ⟨rfl, rfl, trivial⟩ ?_ | refine qabr (sy _) ?_ | refine qadl [] trivial (qbee s.F) (fa1 _ (by simp)) ⟨rfl, trivial⟩ ⟨rfl, trivial⟩ [] (by simp) ?_); simp -implicitDefEqProofs [*]) | (with_reducible first | refine zM hm ?_ | refine zN hm ?_ | refine zO hm ?_ | refine zP hm ?_) | ((refine qaex (s := { s with F := s.F.chg e }) hm rfl (fun _ => rfl) rfl ?_ rfl)) | fail)
   show CoL _ (.ifc (s.F.chg e).ty _ :: _)
   rw [ty_chg]; exact CoL.refl _
  ·have b2 : (Y != 0) = true := by simp [g2]
   rw [if_neg (by simp), if_pos g2, if_neg (by simp), if_pos g2]
   replace g2 := Lib.hid g2
   unfold qac2 scs tabc
   repeat' (first | (with_reducible first | refine zA ?_ | refine qaa3 ?_ | refine qaa2 ?_ | refine zK ?_) | ((with_reducible first | refine qaao ?_ | refine qaak (by rw [hP]; exact mixed) ?_); (try rw [hP]); simp -implicitDefEqProofs [*]) | ((with_reducible first | refine qaah ?_ | refine qaaj ?_); (try simp -implicitDefEqProofs [*])) | ((with_reducible refine qabl ?_); (try simp only [qaa5, qaae, qaam])) | ((with_reducible refine qabd rfl (fun h => ?_) (fun h => ?_)) <;> have h' := h <;> (try simp at h') <;> (try subst h')) | ((with_reducible refine qaaa (fun h => ?_) (fun h => ?_)) <;> have h' := h <;> (try simp at h') <;> (try subst h') <;> simp -implicitDefEqProofs [*]) | ((with_reducible refine qaal ?_ ?_); (first | omega | (unfold maxLen; omega)); simp -implicitDefEqProofs [*]) | ((first | refine qab4 (ks _ (by simp)) ⟨rfl, rfl, trivial⟩ ⟨rfl, rfl, trivial⟩ ?_ | refine qabr (sy _) ?_); simp -implicitDefEqProofs [*]) | (with_reducible first | refine zM hm ?_ | refine zN hm ?_ | refine zO hm ?_ | refine zP hm ?_) | ((refine qaex hm ?_ (fun _ => rfl) rfl (CoL.refl _) rfl)) | fail)
   rfl
 ·have b1 : (K != 0) = true := by simp [g1]
  rw [if_pos g1, if_pos g1]
  replace g1 := Lib.hid g1
  unfold qac2 scs tabc
  repeat' (first | (with_reducible first | refine zA ?_ | refine qaa3 ?_ | refine qaa2 ?_ | refine zK ?_) | ((with_reducible first | refine qaao ?_ | refine qaak (by rw [hP]; exact mixed) ?_); (try rw [hP]); simp -implicitDefEqProofs [*]) | ((with_reducible first | refine qaah ?_ | refine qaaj ?_); (try simp -implicitDefEqProofs [*])) | ((with_reducible refine qabl ?_); (try simp only [qaa5, qaae, qaam])) | ((with_reducible refine qabd rfl (fun h => ?_) (fun h => ?_)) <;> have h' := h <;> (try simp at h') <;> (try subst h')) | ((with_reducible refine qaaa (fun h => ?_) (fun h => ?_)) <;> have h' := h <;> (try simp at h') <;> (try subst h') <;> simp -implicitDefEqProofs [*]) | ((with_reducible refine qaal ?_ ?_); (first | omega | (unfold maxLen; omega)); simp -implicitDefEqProofs [*]) | (refine qab4 (ks _ (by simp)) ⟨rfl, rfl, trivial⟩ ⟨rfl, rfl, trivial⟩ ?_; simp -implicitDefEqProofs [*]) | (with_reducible first | refine zM hm ?_ | refine zN hm ?_ | refine zO hm ?_ | refine zP hm ?_) | ((refine qaex hm ?_ (fun _ => rfl) rfl (CoL.refl _) rfl)) | fail)
  rfl
theorem sdrop_s (s : StoD) (hs : StOk s) (e : Entry) (he : EOk e) : SCalls Tryz.prog 12 [.ptr 0 0, .agg (qaay e)] (qac2 s 0 1) 2 (.int .i64 (qbdm s e)) (qac2 (qakg s e) 0 1) := by
 have ks := fun q hq => qagb (qawi s hs e) (fun _ => rfl) (fun _ => rfl) rfl 0 1 q (by decide) (by omega) hq
 have hk : qafg s e = 0 → (e.keys.length : Int) = s.F.k := fun h => by rw [(qagv h).1]; exact hs.k
 have fa := fun h q hq => qbe0 s.F hs.inv e he (hk h) 1 q hq
 have hC : qbdm s e = if qafg s e ≠ 0 then qafg s e else s.F.dropV e := rfl
 have hS : qakg s e = if qafg s e ≠ 0 then s else { s with F := s.F.drop e } := rfl
 generalize qafg s e = K at ks fa hC hS
 rw [hC, hS]
 clear hC hS hk
 unfold qac2 scs tabc nums at ks
 refine qaai (N := 18) Tryz.func12 rfl rfl (by kernel_rfl) qap3 (by simp) (by repeat' (first | exact trivial | refine And.intro ?_ ?_ | rfl | decide | exact PureR.ren _)) (by repeat' (first | exact trivial | refine And.intro ?_ ?_ | rfl | decide | exact PureR.ren _)) ?_
 rintro X hP hN hm
 unfold c_sdrop
 by_cases g1 : K = 0
 ·subst g1
  have fa1 := fa rfl
  unfold qac2 scs tabc
  repeat' (first | (with_reducible first | refine zA ?_ | refine qaa3 ?_ | refine qaa2 ?_ | refine zK ?_) | ((with_reducible first | refine qaao ?_ | refine qaak (by rw [hP]; exact mixed) ?_); (try rw [hP]); simp -implicitDefEqProofs [*]) | ((with_reducible first | refine qaah ?_ | refine qaaj ?_); (try simp -implicitDefEqProofs [*])) | ((with_reducible refine qabl ?_); (try simp only [qaa5, qaae, qaam])) | ((with_reducible refine qabd rfl (fun h => ?_) (fun h => ?_)) <;> have h' := h <;> (try simp at h') <;> (try subst h')) | ((with_reducible refine qaaa (fun h => ?_) (fun h => ?_)) <;> have h' := h <;> (try simp at h') <;> (try subst h') <;> simp -implicitDefEqProofs [*]) | ((with_reducible refine qaal ?_ ?_); (first | omega | (unfold maxLen; omega)); simp -implicitDefEqProofs [*]) | ((first | refine qab4 (ks _ (by simp)) ⟨rfl, rfl, trivial⟩ ⟨rfl, rfl, trivial⟩ ?_ | refine qadl [] trivial (qa5s s.F) (fa1 _ (by simp)) ⟨rfl, trivial⟩ ⟨rfl, trivial⟩ [] (by simp) ?_); simp -implicitDefEqProofs [*]) | (with_reducible first | refine zM hm ?_ | refine zN hm ?_ | refine zO hm ?_ | refine zP hm ?_) | ((refine qaex (s := { s with F := s.F.drop e }) hm rfl (fun _ => rfl) rfl ?_ rfl)) | fail)
  show CoL _ (.ifc (s.F.drop e).ty _ :: _)
  rw [ty_drop]; exact CoL.refl _
 ·have b1 : (K != 0) = true := by simp [g1]
  rw [if_pos g1, if_pos g1]
  replace g1 := Lib.hid g1
  unfold qac2 scs tabc
  repeat' (first | (with_reducible first | refine zA ?_ | refine qaa3 ?_ | refine qaa2 ?_ | refine zK ?_) | ((with_reducible first | refine qaao ?_ | refine qaak (by rw [hP]; exact mixed) ?_); (try rw [hP]); simp -implicitDefEqProofs [*]) | ((with_reducible first | refine qaah ?_ | refine qaaj ?_); (try simp -implicitDefEqProofs [*])) | ((with_reducible refine qabl ?_); (try simp only [qaa5, qaae, qaam])) | ((with_reducible refine qabd rfl (fun h => ?_) (fun h => ?_)) <;> have h' := h <;> (try simp at h') <;> (try subst h')) | ((with_reducible refine qaaa (fun h => ?_) (fun h => ?_)) <;> have h' := h <;> (try simp at h') <;> (try subst h') <;> simp -implicitDefEqProofs [*]) | ((with_reducible refine qaal ?_ ?_); (first | omega | (unfold maxLen; omega)); simp -implicitDefEqProofs [*]) | (refine qab4 (ks _ (by simp)) ⟨rfl, rfl, trivial⟩ ⟨rfl, rfl, trivial⟩ ?_; simp -implicitDefEqProofs [*]) | (with_reducible first | refine zM hm ?_ | refine zN hm ?_ | refine zO hm ?_ | refine zP hm ?_) | ((refine qaex hm ?_ (fun _ => rfl) rfl (CoL.refl _) rfl)) | fail)
  rfl
theorem sall_s (s : StoD) (hs : StOk s) : SCalls Tryz.prog 13 [.ptr 0 0] (qac2 s 0 1) 2 (ents s.F.all) (qac2 s 0 1) := by
 have fa := fun q hq => fin_all s.F hs.inv 1 q hq
 unfold ents at fa ⊢
 refine qaai (N := 8) Tryz.func13 rfl rfl (by kernel_rfl) qatq (by simp) (by repeat' (first | exact trivial | refine And.intro ?_ ?_ | rfl | decide | exact PureR.ren _)) (by repeat' (first | exact trivial | refine And.intro ?_ ?_ | rfl | decide | exact PureR.ren _)) ?_
 rintro X hP hN hm
 unfold c_sall qac2 scs tabc
 repeat' (first | (with_reducible first | refine zA ?_ | refine qaa3 ?_ | refine qaa2 ?_ | refine zK ?_) | ((with_reducible first | refine qaao ?_ | refine qaak (by rw [hP]; exact mixed) ?_); (try rw [hP]); simp -implicitDefEqProofs [*]) | ((with_reducible first | refine qaah ?_ | refine qaaj ?_); (try simp -implicitDefEqProofs [*])) | ((with_reducible refine qabl ?_); (try simp only [qaa5, qaae, qaam])) | ((with_reducible refine qabd rfl (fun h => ?_) (fun h => ?_)) <;> have h' := h <;> (try simp at h') <;> (try subst h')) | ((with_reducible refine qaaa (fun h => ?_) (fun h => ?_)) <;> have h' := h <;> (try simp at h') <;> (try subst h') <;> simp -implicitDefEqProofs [*]) | ((with_reducible refine qaal ?_ ?_); (first | omega | (unfold maxLen; omega)); simp -implicitDefEqProofs [*]) | (refine qadl [] trivial (qbef s.F) (fa _ (by simp)) ⟨rfl, trivial⟩ ⟨rfl, trivial⟩ [] (by simp) ?_; simp -implicitDefEqProofs [*]) | (with_reducible first | refine zM hm ?_ | refine zN hm ?_ | refine zO hm ?_ | refine zP hm ?_) | ((refine qaex hm rfl (fun _ => rfl) rfl (CoL.refl _) rfl)) | fail)
theorem slen_s (s : StoD) (hs : StOk s) : SCalls Tryz.prog 17 [.ptr 0 0] (qac2 s 0 1) 2 (.int .i64 s.F.cnt) (qac2 s 0 1) := by
 have fa := fun q hq => fin_cnt s.F hs.inv 1 q hq
 refine qaai (N := 8) Tryz.func17 rfl rfl (by kernel_rfl) qatl (by simp) (by repeat' (first | exact trivial | refine And.intro ?_ ?_ | rfl | decide | exact PureR.ren _)) (by repeat' (first | exact trivial | refine And.intro ?_ ?_ | rfl | decide | exact PureR.ren _)) ?_
 rintro X hP hN hm
 unfold c_slen qac2 scs tabc
 repeat' (first | (with_reducible first | refine zA ?_ | refine qaa3 ?_ | refine qaa2 ?_ | refine zK ?_) | ((with_reducible first | refine qaao ?_ | refine qaak (by rw [hP]; exact mixed) ?_); (try rw [hP]); simp -implicitDefEqProofs [*]) | ((with_reducible first | refine qaah ?_ | refine qaaj ?_); (try simp -implicitDefEqProofs [*])) | ((with_reducible refine qabl ?_); (try simp only [qaa5, qaae, qaam])) | ((with_reducible refine qabd rfl (fun h => ?_) (fun h => ?_)) <;> have h' := h <;> (try simp at h') <;> (try subst h')) | ((with_reducible refine qaaa (fun h => ?_) (fun h => ?_)) <;> have h' := h <;> (try simp at h') <;> (try subst h') <;> simp -implicitDefEqProofs [*]) | ((with_reducible refine qaal ?_ ?_); (first | omega | (unfold maxLen; omega)); simp -implicitDefEqProofs [*]) | (refine qadl [] trivial (qbed s.F) (fa _ (by simp)) ⟨rfl, trivial⟩ ⟨rfl, trivial⟩ [] (by simp) ?_; simp -implicitDefEqProofs [*]) | (with_reducible first | refine zM hm ?_ | refine zN hm ?_ | refine zO hm ?_ | refine zP hm ?_) | ((refine qaex hm rfl (fun _ => rfl) rfl (CoL.refl _) rfl)) | fail)
theorem fin_stc {X : Cx} {sl : Sl} {hp : Hp} {t u nx id n : Nat} {ty : TypeId} {cs ds c0 : List SV} {v r : SV} {s : StoD} (hm : X.m = 2) (hid : 2 ≤ id) (hne : t ≠ u) (hv : gets sl t = v) (hN : NoN v) (hu : gets sl u = .ptr id 0) (h : geth hp id = some (.cells ty cs)) (h0 : geth hp 0 = some (.cells 76 c0)) (hcs : CoL c0 (scs s 1)) (h1 : geth hp 1 = some (.abs s.F.I)) (ha : qahn X.P ty = some true) (hn : qab6 X.P ty = some n) (hl : ds.length = n) (e : CoL cs ds) (hr : r = .tup [.agg ds, v]) (hd : ∀ σ, ds.map (Go.Proofs.YtalejfkholifpaaGreat.ren σ) = ds) : QFun X [.cell u ty, .tmp t] 2 r (qac2 s 0 1) .ret ⟨sl, hp, nx⟩ := by
 subst hr hl
 have hw : Wk X ⟨sl, hp, nx⟩ ⟨[(u, .ptr 2 0), (t, v)], qac2 s 0 1 ++ [(2, .cells ty ds)], 3⟩ := by
  refine qabg [(2, id)] hm ⟨?_, ?_, trivial⟩ ⟨⟨_, h0, rfl, ?_⟩, ⟨_, h1, rfl⟩, ⟨_, h, rfl, by rw [hd]; exact e⟩, trivial⟩ ?_ (by simp)
  ·rw [hu]; exact Co.refl _
  ·rw [hv, hN]; exact Co.refl _
  ·rw [qbbz s (by rfl)]; exact hcs
  ·have a1 : ¬ (0 = id) := by omega
   have a2 : ¬ (1 = id) := by omega
   have a3 : ¬ (id = 0) := by omega
   have a4 : ¬ (id = 1) := by omega
   simp [qabq, diag, idsH, qac2, List.range_succ, a1, a2, a3, a4]
 refine ⟨_, hw, ?_, ⟨rfl, rfl, trivial⟩, by simp⟩
 simp [qage, resL, resV, one_, gets, ha, SOp.run, SX.ev, geth, hne, hne.symm, hn, qac2]
theorem qbbx (s : StoD) (hs : StOk s) (xs : List Int) (hx : xs.length ≤ 1000000) (hf : AllFit .u64 xs) : SCalls Tryz.prog 14 [.ptr 0 0, nums .u64 xs] (qac2 s 0 1) 2 (qaon s xs) (qac2 s 0 1) := by
 have kc := fun q => qbhg s.dl hs.dl q
 have ks := fun h q hq => qagb (qbbw s hs xs h) (fun _ => rfl) (fun _ => rfl) rfl 0 1 q (by decide) (by omega) hq
 have fa := fun h q hq => qbez s.F hs.inv xs hx hf h 1 q hq
 have hV : qaon s xs = .tup [.agg (hitc ((qahu s xs).map (·.1) |>.getD s.da) ((qahu s xs).map (·.2) |>.getD s.dl)), .bool (qahu s xs).isSome] := rfl
 have hC : qahu s xs = if xs.length = s.w.length ∧ qac1 xs s.w = false then s.F.find xs else none := rfl
 rw [hV]
 clear hV
 generalize qahu s xs = C at hC
 generalize s.F.find xs = Z at fa hC
 unfold qac2 scs tabc nums at ks
 unfold nums at kc
 unfold nums qaje hitc at fa
 have fin1 : ∀ (X : Cx) (sl : Sl) (hp : Hp) (nx : Nat) (a : Int) (l : List Int) (b : Bool), X.P = Tryz.prog → X.m = 2 → (∃ id, 2 ≤ id ∧ gets sl 4 = .ptr id 0 ∧ geth hp id = some (.cells 46 (hitc a l))) → gets sl 5 = .bool b → geth hp 0 = some (.cells 76 (scs s 1)) → geth hp 1 = some (.abs s.F.I) → QFun X [.cell 4 46, .tmp 5] 2 (.tup [.agg (hitc a l), .bool b]) (qac2 s 0 1) .ret ⟨sl, hp, nx⟩ := by
  rintro X sl hp nx a l b hP hm ⟨id, hid, h1, h2⟩ h3 h4 h5
  exact fin_stc hm hid (by decide) h3 (fun _ => rfl) h1 h2 h4 (CoL.refl _) h5 (by rw [hP]; exact qae7) (by rw [hP]; exact qaef) rfl (CoL.refl _) rfl (fun _ => rfl)
 replace fin1 := Lib.hid fin1
 refine qaai (N := 44) Tryz.func14 rfl rfl (by kernel_rfl) qap1 (by simp) (by repeat' (first | exact trivial | refine And.intro ?_ ?_ | rfl | decide | exact PureR.ren _)) (by repeat' (first | exact trivial | refine And.intro ?_ ?_ | rfl | decide | exact PureR.ren _)) ?_
 rintro X hP hN hm
 unfold c_sfind
 by_cases g1 : xs.length = s.w.length
 ·have b1 : ((xs.length : Int) == s.w.length) = true := by simp [g1]
  have ks1 := ks g1
  have fa1 := fa (by rw [g1]; exact hs.k)
  cases w1 : qac1 xs s.w
  ·rw [if_pos ⟨g1, w1⟩] at hC
   subst hC
   rw [w1] at ks1
   clear ks fa
   replace g1 := Lib.hid g1
   cases C with
   | none =>
    unfold qac2 scs tabc
    repeat' (first | (with_reducible first | refine zA ?_ | refine qaa3 ?_ | refine qaa2 ?_ | refine zK ?_) | ((with_reducible first | refine qaao ?_ | refine qaak (by rw [hP]; exact mixed) ?_); (try rw [hP]); simp -implicitDefEqProofs [*]) | ((with_reducible first | refine qaah ?_ | refine qaaj ?_); (try simp -implicitDefEqProofs [*])) | ((with_reducible refine qabl ?_); (try simp only [qaa5, qaae, qaam])) | ((with_reducible refine qabd rfl (fun h => ?_) (fun h => ?_)) <;> have h' := h <;> (try simp at h') <;> (try subst h')) | ((with_reducible refine qaaa (fun h => ?_) (fun h => ?_)) <;> have h' := h <;> (try simp at h') <;> (try subst h') <;> simp -implicitDefEqProofs [*]) | ((with_reducible refine qaal ?_ ?_); (first | omega | (unfold maxLen; omega)); simp -implicitDefEqProofs [*]) | ((first | refine qab4 (ks1 _ (by simp)) ⟨rfl, rfl, trivial⟩ ⟨rfl, rfl, trivial⟩ ?_ | refine qadl [] trivial (qara s.F) (fa1 _ (by simp)) ⟨rfl, trivial⟩ ⟨rfl, trivial⟩ [] (by simp) ?_ | refine qabr (kc _) ?_); simp -implicitDefEqProofs [*]) | (with_reducible first | refine zM hm ?_ | refine zN hm ?_ | refine zO hm ?_ | refine zP hm ?_) | ((refine fin1.out _ _ _ _ _ _ _ hP hm ⟨_, ?_, rfl, rfl⟩ rfl rfl rfl)) | fail)
    all_goals decide
   | some z =>
    unfold qac2 scs tabc
    repeat' (first | (with_reducible first | refine zA ?_ | refine qaa3 ?_ | refine qaa2 ?_ | refine zK ?_) | ((with_reducible first | refine qaao ?_ | refine qaak (by rw [hP]; exact mixed) ?_); (try rw [hP]); simp -implicitDefEqProofs [*]) | ((with_reducible first | refine qaah ?_ | refine qaaj ?_); (try simp -implicitDefEqProofs [*])) | ((with_reducible refine qabl ?_); (try simp only [qaa5, qaae, qaam])) | ((with_reducible refine qabd rfl (fun h => ?_) (fun h => ?_)) <;> have h' := h <;> (try simp at h') <;> (try subst h')) | ((with_reducible refine qaaa (fun h => ?_) (fun h => ?_)) <;> have h' := h <;> (try simp at h') <;> (try subst h') <;> simp -implicitDefEqProofs [*]) | ((with_reducible refine qaal ?_ ?_); (first | omega | (unfold maxLen; omega)); simp -implicitDefEqProofs [*]) | ((first | refine qab4 (ks1 _ (by simp)) ⟨rfl, rfl, trivial⟩ ⟨rfl, rfl, trivial⟩ ?_ | refine qadl [] trivial (qara s.F) (fa1 _ (by simp)) ⟨rfl, trivial⟩ ⟨rfl, trivial⟩ [] (by simp) ?_); simp -implicitDefEqProofs [*]) | (with_reducible first | refine zM hm ?_ | refine zN hm ?_ | refine zO hm ?_ | refine zP hm ?_) | ((refine fin1.out _ _ _ _ _ _ _ hP hm ⟨_, ?_, rfl, rfl⟩ rfl rfl rfl)) | fail)
    all_goals decide
  ·rw [if_neg (by rw [w1]; simp)] at hC
   subst hC
   rw [w1] at ks1
   clear ks fa fa1
   replace g1 := Lib.hid g1
   unfold qac2 scs tabc
   repeat' (first | (with_reducible first | refine zA ?_ | refine qaa3 ?_ | refine qaa2 ?_ | refine zK ?_) | ((with_reducible first | refine qaao ?_ | refine qaak (by rw [hP]; exact mixed) ?_); (try rw [hP]); simp -implicitDefEqProofs [*]) | ((with_reducible first | refine qaah ?_ | refine qaaj ?_); (try simp -implicitDefEqProofs [*])) | ((with_reducible refine qabl ?_); (try simp only [qaa5, qaae, qaam])) | ((with_reducible refine qabd rfl (fun h => ?_) (fun h => ?_)) <;> have h' := h <;> (try simp at h') <;> (try subst h')) | ((with_reducible refine qaaa (fun h => ?_) (fun h => ?_)) <;> have h' := h <;> (try simp at h') <;> (try subst h') <;> simp -implicitDefEqProofs [*]) | ((with_reducible refine qaal ?_ ?_); (first | omega | (unfold maxLen; omega)); simp -implicitDefEqProofs [*]) | ((first | refine qab4 (ks1 _ (by simp)) ⟨rfl, rfl, trivial⟩ ⟨rfl, rfl, trivial⟩ ?_ | refine qabr (kc _) ?_); simp -implicitDefEqProofs [*]) | (with_reducible first | refine zM hm ?_ | refine zN hm ?_ | refine zO hm ?_ | refine zP hm ?_) | ((refine fin1.out _ _ _ _ _ _ _ hP hm ⟨_, ?_, rfl, rfl⟩ rfl rfl rfl)) | fail)
   all_goals decide
 ·have b1 : ((xs.length : Int) == s.w.length) = false := by simp; omega
  rw [if_neg (by simp [g1])] at hC
  subst hC
  clear ks fa
  replace g1 := Lib.hid g1
  unfold qac2 scs tabc
  repeat' (first | (with_reducible first | refine zA ?_ | refine qaa3 ?_ | refine qaa2 ?_ | refine zK ?_) | ((with_reducible first | refine qaao ?_ | refine qaak (by rw [hP]; exact mixed) ?_); (try rw [hP]); simp -implicitDefEqProofs [*]) | ((with_reducible first | refine qaah ?_ | refine qaaj ?_); (try simp -implicitDefEqProofs [*])) | ((with_reducible refine qabl ?_); (try simp only [qaa5, qaae, qaam])) | ((with_reducible refine qabd rfl (fun h => ?_) (fun h => ?_)) <;> have h' := h <;> (try simp at h') <;> (try subst h')) | ((with_reducible refine qaaa (fun h => ?_) (fun h => ?_)) <;> have h' := h <;> (try simp at h') <;> (try subst h') <;> simp -implicitDefEqProofs [*]) | ((with_reducible refine qaal ?_ ?_); (first | omega | (unfold maxLen; omega)); simp -implicitDefEqProofs [*]) | (refine qabr (kc _) ?_; simp -implicitDefEqProofs [*]) | (with_reducible first | refine zM hm ?_ | refine zN hm ?_ | refine zO hm ?_ | refine zP hm ?_) | ((refine fin1.out _ _ _ _ _ _ _ hP hm ⟨_, ?_, rfl, rfl⟩ rfl rfl rfl)) | fail)
  all_goals decide
end Go.Proofs.YtalejfkholifpaaGreat
namespace Go.Proofs.YtalejfkholifpaaGreat
set_option linter.all false
open Go.RowKit
attribute [local simp] qaas qaar qaac qaag qaad qaaf qaap qaaq qaab qaa4 SOp.run SX.ev putd puts argS upds SOp.touch SSt.keep SSt.skip gets geth puth delh idOf SV.cells? setL qab7 qab8 sbin eq0 eq1 eqL qab5 qabh qabi qaa5 qaat qaae qaau qaa6 qaam qaan FrzOk qaba qaa0 qaa8 qaa9 qaav qaaz qabe qaa1 qaax qabb qaaw frzS frzH frz frz1 frz0 SlotsM ObjsM ObjM rn ren ren1 ren0 qabp qabs qabt qabo qabf qab1 qab0 CoL qabc qabw dels adds idsH qabq
def actn (a : ActD) : List SV := [nums .i64 a.w, .nilsl]
instance : PureF actn := ⟨fun _ _ => rfl, fun _ => rfl, fun _ => qacl _ rfl⟩
attribute [local simp] qaay nums actc actn
def bare (a : ActD) : ActD := ⟨a.w, []⟩
def qael (t : TabD) (ws : List Int) : Fin_ := if t.kind = 1 then .ex ws.length t.cap (List.replicate (newN t.cap) none) else if t.kind = 2 then .px (el ws 0) t.cap 0 noE else .te ws.length t.cap []
def qahw (t : TabD) (ws : List Int) (acts : List ActD) : StoD := ⟨qael t ws, t, ws, acts.map bare, t.def_, t.args⟩
theorem tabF0 {t : TabD} {ws : List Int} {acts : List ActD} (h : qaei t ws acts = 0) : (t.kind = 1 ∨ t.kind = 2 ∨ t.kind = 3) ∧ 1 ≤ ws.length ∧ ws.length ≤ 3 ∧ (t.kind = 2 → ws.length = 1) ∧ 0 ≤ t.cap ∧ t.cap ≤ 16 ∧ (∀ k ∈ ws, 1 ≤ k ∧ k ≤ 48) ∧ (∀ a ∈ t.acts, 0 ≤ a ∧ a < acts.length) ∧ qan7 t.acts acts t.def_ t.args = 0 ∧ t.acts.length ≤ 4 := by
 unfold qaei at h
 by_cases g1 : t.kind < 1 ∨ 3 < t.kind
 ·rw [if_pos g1] at h; exact absurd h (by decide)
 rw [if_neg g1] at h
 by_cases g2 : ws.length < 1 ∨ 3 < ws.length ∨ (t.kind = 2 ∧ 1 < ws.length) ∨ t.acts.length < 1 ∨ 4 < t.acts.length
 ·rw [if_pos g2] at h; exact absurd h (by decide)
 rw [if_neg g2] at h
 by_cases g3 : t.cap < 0 ∨ 16 < t.cap
 ·rw [if_pos g3] at h; exact absurd h (by decide)
 rw [if_neg g3] at h
 cases g4 : ws.any wOut
 ·rw [g4, if_neg (by simp)] at h
  cases g5 : t.acts.any (aOut acts.length)
  ·rw [g5, if_neg (by simp)] at h
   refine ⟨by omega, by omega, by omega, by omega, by omega, by omega, fun k hk => ?_, fun a ha => ?_, h, by omega⟩
   ·have := List.any_eq_false.1 g4 k hk; simp [wOut] at this; omega
   ·have := List.any_eq_false.1 g5 a ha; simp [aOut] at this; omega
  ·rw [g5, if_pos rfl] at h; exact absurd h (by decide)
 ·rw [g4, if_pos rfl] at h; exact absurd h (by decide)
theorem inums (xs : List Int) (h : xs.length ≤ 1000000) (q : Nat) : SCalls Tryz.prog 31 [nums .i64 xs] [] q (nums .i64 xs) [] := by
 unfold nums
 exact cl1_s (xs.map fun x => [.int .i64 x]) (by simpa using h) (by intro e he; obtain ⟨x, -, rfl⟩ := List.mem_map.1 he; rfl) q
theorem snew_no (t : TabD) (ws : List Int) (acts : List ActD) (ha : AW acts) (h1 : t.acts.length ≤ 1000000) (h2 : t.args.length ≤ 1000000) (h3 : ws.length ≤ 1000000) (h4 : acts.length ≤ 1000000) (he : qaei t ws acts ≠ 0) (q : Nat) : SCalls Tryz.prog 9 [.agg (tabc t), nums .i64 ws, .view 2 (acts.map actc)] [] q (.tup [.nil, .agg [.int .i64 (qaei t ws acts), .int .i64 (-1)]]) [] := by
 refine qabm ?_ (fun _ => rfl) (fun _ => rfl) rfl q
 have kc := fun q => qawb t ws acts ha h1 h2 h3 h4 q
 generalize qaei t ws acts = K at kc he
 have b1 : (K != 0) = true := by simp [he]
 replace he := Lib.hid he
 unfold tabc nums at kc
 refine qaai (N := 100) Tryz.func9 rfl rfl (by kernel_rfl) qaj3 (by simp) (by repeat' (first | exact trivial | refine And.intro ?_ ?_ | rfl | decide | exact PureR.ren _)) (by repeat' (first | exact trivial | refine And.intro ?_ ?_ | rfl | decide | exact PureR.ren _)) ?_
 rintro X hP hN hm
 unfold c_snew tabc
 repeat' (first | (with_reducible first | refine zA ?_ | refine qaa3 ?_ | refine qaa2 ?_ | refine zK ?_) | ((with_reducible first | refine qaao ?_ | refine qaak (by rw [hP]; exact mixed) ?_); (try rw [hP]); simp -implicitDefEqProofs [*]) | ((with_reducible first | refine qaah ?_ | refine qaaj ?_); (try simp -implicitDefEqProofs [*])) | ((with_reducible refine qabl ?_); (try simp only [qaa5, qaae, qaam])) | ((with_reducible refine qabd rfl (fun h => ?_) (fun h => ?_)) <;> have h' := h <;> (try simp at h') <;> (try subst h')) | ((with_reducible refine qaaa (fun h => ?_) (fun h => ?_)) <;> have h' := h <;> (try simp at h') <;> (try subst h') <;> simp -implicitDefEqProofs [*]) | ((with_reducible refine qaal ?_ ?_); (first | omega | (unfold maxLen; omega)); simp -implicitDefEqProofs [*]) | (refine qabr (kc _) ?_; simp -implicitDefEqProofs [*]) | (with_reducible first | refine zM hm ?_ | refine zN hm ?_ | refine zO hm ?_ | refine zP hm ?_) | ((refine fin_tc hm (by decide) rfl rfl (fun _ => rfl) rfl rfl (by rw [hP]; exact qasb) (by rw [hP]; exact qalk) rfl (CoL.refl _) rfl (fun _ => rfl))) | fail)
theorem qbcz : ∀ l : List ActD, CoLL (l.map actn) ((l.map bare).map actc)
 | [] => trivial
 | a :: l => ⟨⟨Co.refl _, Co.nilsl 5, trivial⟩, qbcz l⟩
theorem qawn (s : StoD) {σ : Nat → Nat} {j : Nat} (h : σ 1 = j) : (scs s 1).map (Go.Proofs.YtalejfkholifpaaGreat.ren σ) = scs s j := by simp [scs, tabc, Go.Proofs.YtalejfkholifpaaGreat.ren, ren1, ren0, renA, renB, h]
theorem qax7 {X : Cx} {sl : Sl} {hp : Hp} {nx i j k : Nat} {cs : List SV} {s : StoD} (hP : X.P = Tryz.prog) (hm : X.m = 0) (h6 : gets sl 6 = .ptr i 0) (h7 : gets sl 7 = .ptr k 0) (hi : geth hp i = some (.cells 76 cs)) (hcs : CoL cs (scs s j)) (hj : geth hp j = some (.abs s.F.I)) (hk : geth hp k = some (.cells 34 [.int .i64 0, .int .i64 0]))
  (hok : qabq 0 3 ([(0, i), (1, j), (2, k)] ++ diag 0 [(0, i), (1, j), (2, k)] [(0, .cells 0 []), (1, .cells 0 []), (2, .cells 0 [])]) [(0, .cells 0 []), (1, .cells 0 []), (2, .cells 0 [])] = true) : QFun X [.tmp 6, .cell 7 34] 0 (.tup [.ptr 0 0, .agg [.int .i64 0, .int .i64 0]]) (qac2 s 0 1) .ret ⟨sl, hp, nx⟩ := by
 have hw : Wk X ⟨sl, hp, nx⟩ ⟨[(6, .ptr 0 0), (7, .ptr 2 0)], qac2 s 0 1 ++ [(2, .cells 34 [.int .i64 0, .int .i64 0])], 3⟩ := by
  refine qabg [(0, i), (1, j), (2, k)] hm ⟨?_, ?_, trivial⟩ ⟨⟨_, hi, rfl, ?_⟩, ⟨_, hj, rfl⟩, ⟨_, hk, rfl, CoL.refl _⟩, trivial⟩ hok (by simp)
  ·rw [h6]; exact Co.refl _
  ·rw [h7]; exact Co.refl _
  ·rw [qawn s (j := j) rfl]; exact hcs
 refine ⟨_, hw, ?_, ⟨rfl, rfl, trivial⟩, by simp⟩
 have e1 := qasb
 have e2 := qalk
 rw [← hP] at e1 e2
 simp [qage, resL, resV, one_, gets, e1, e2, SOp.run, SX.ev, geth, qac2]
theorem snew_s (t : TabD) (ws : List Int) (acts : List ActD) (ha : AW acts) (h1 : t.acts.length ≤ 1000000) (h2 : t.args.length ≤ 1000000) (h3 : ws.length ≤ 1000000) (h4 : acts.length ≤ 1000000) (h5 : ∀ a ∈ acts, a.w.length ≤ 1000000) (he : qaei t ws acts = 0) : SCalls Tryz.prog 9 [.agg (tabc t), nums .i64 ws, .view 2 (acts.map actc)] [] 0 (.tup [.ptr 0 0, .agg [.int .i64 0, .int .i64 0]]) (qac2 (qahw t ws acts) 0 1) := by
 have kc := fun q => qawb t ws acts ha h1 h2 h3 h4 q
 rw [he] at kc
 have k1 := fun q => inums ws h3 q
 have k2 := fun q => qbhg t.args h2 q
 have k3 := fun q => inums t.acts h1 q
 unfold tabc nums at kc
 unfold nums at k1 k2 k3
 refine qaai (N := 100) Tryz.func9 rfl rfl (by kernel_rfl) qaj3 (by simp) (by repeat' (first | exact trivial | refine And.intro ?_ ?_ | rfl | decide | exact PureR.ren _)) (by repeat' (first | exact trivial | refine And.intro ?_ ?_ | rfl | decide | exact PureR.ren _)) ?_
 rintro X hP hN hm
 unfold c_snew tabc
 repeat' (first | (with_reducible first | refine zA ?_ | refine qaa3 ?_ | refine qaa2 ?_ | refine zK ?_) | ((with_reducible first | refine qaao ?_ | refine qaak (by rw [hP]; exact mixed) ?_); (try rw [hP]); simp -implicitDefEqProofs [*]) | ((with_reducible first | refine qaah ?_ | refine qaaj ?_); (try simp -implicitDefEqProofs [*])) | ((with_reducible refine qabl ?_); (try simp only [qaa5, qaae, qaam])) | ((with_reducible refine qabd rfl (fun h => ?_) (fun h => ?_)) <;> have h' := h <;> (try simp at h') <;> (try subst h')) | ((with_reducible refine qaaa (fun h => ?_) (fun h => ?_)) <;> have h' := h <;> (try simp at h') <;> (try subst h') <;> simp -implicitDefEqProofs [*]) | ((with_reducible refine qaal ?_ ?_); (first | omega | (unfold maxLen; omega)); simp -implicitDefEqProofs [*]) | ((first | refine qabr (kc _) ?_ | refine qabr (k1 _) ?_ | refine qabr (k2 _) ?_ | refine qabr (k3 _) ?_); simp -implicitDefEqProofs [*]) | (with_reducible first | refine zM hm ?_ | refine zN hm ?_ | refine zO hm ?_ | refine zP hm ?_) | fail)
 refine qasd (qaqq (t := 76) (cs := [.niliface, .int .i64 t.kind, .view 2 (t.keys.map refc), nums .i64 t.acts, .int .i64 t.cap, .int .i64 t.def_, nums .u64 t.args, nums .i64 ws, .nilsl, .int .i64 t.def_, nums .u64 t.args]) 40 8 69 2 rfl rfl) ?_
 simp only [zT, puth, Nat.reduceEqDiff, reduceIte, Nat.reduceAdd, List.set]
 refine qabj (qacp (fun s (i : Nat) => s.turn [(43, .int .i64 i)] [(40, .cells 76 [.niliface, .int .i64 t.kind, .view 2 (t.keys.map refc), nums .i64 t.acts, .int .i64 t.cap, .int .i64 t.def_, nums .u64 t.args, nums .i64 ws, .own 65 i, .int .i64 t.def_, nums .u64 t.args]), (65, .row 69 2 ((acts.take i).map actn))]) (fun i => i ≤ acts.length) (fun i => acts.length - i) 0 ?_ (by simp) ?_)
 ·repeat' (first | ((with_reducible refine qabg [] hm ?_ ?_ ?_ ?_) <;> (try simp only [zT, puth, Nat.reduceEqDiff, reduceIte, Nat.reduceAdd])) | (with_reducible first | refine za ?_ ?_ | refine zb ?_ ?_ ?_ ?_ | refine zc ?_ ?_ ?_ ?_ | refine zd ?_ ?_ ?_ ?_ | refine qacs ?_ ?_ | refine qacq ?_ ?_) | (with_reducible first | exact qacc | exact qacr | exact qada | exact qadc | exact Co.refl _ | exact CoL.refl _ | exact CoLL.refl _) | ((with_reducible first | refine zga ?_ | refine zgb ?_); rfl) | ((with_reducible refine zgc ?_); (first | (with_reducible rfl) | rfl | (simp; done))) | ((with_reducible first | refine zgd ?_ | refine zge ?_); (first | omega | (simp; done))) | (refine qaee ⟨?_, ?_⟩ ?_ <;> omega) | (exact Co.refl _) | (exact CoL.refl _) | (exact CoLL.refl _) | (refine qabt ?_; omega) | (refine qabs ?_; first | omega | (simp_all; done)) | (with_reducible first | refine qadi ?_ ?_ | refine qacy ?_ ?_) | fail)
 rintro J hJ i hi
 unfold qar2
 simp only [zT, puth, Nat.reduceEqDiff, reduceIte, Nat.reduceAdd]
 have hlen := qbda actn hi
 have hb1 : i + 1 ≤ maxLen := by unfold maxLen; omega
 rcases Nat.lt_or_ge i acts.length with h | h
 ·have wi : IntKind.i64.wrap ((i : Int) + 1) = (i : Int) + 1 := qabz (by omega) (by omega)
  have hrow := qa4v actn h
  have hc := fun q => inums acts[i].w (h5 _ (List.getElem_mem h)) q
  generalize hr : acts[i] = r at hrow hc
  unfold nums at hc
  replace hc := Lib.hid hc
  repeat' (first | (with_reducible first | refine zA ?_ | refine qaa3 ?_ | refine qaa2 ?_ | refine zK ?_) | ((with_reducible first | refine qaao ?_ | refine qaak (by rw [hP]; exact mixed) ?_); (try rw [hP]); simp -implicitDefEqProofs [*]) | ((with_reducible first | refine qaah ?_ | refine qaaj ?_); (try simp -implicitDefEqProofs [*])) | ((with_reducible refine qabl ?_); (try simp only [qaa5, qaae, qaam])) | ((with_reducible refine qabd rfl (fun h => ?_) (fun h => ?_)) <;> have h' := h <;> (try simp at h') <;> (try subst h')) | ((with_reducible refine qaaa (fun h => ?_) (fun h => ?_)) <;> have h' := h <;> (try simp at h') <;> (try subst h') <;> simp -implicitDefEqProofs [*]) | ((with_reducible refine qaal ?_ ?_); (first | omega | (unfold maxLen; omega)); simp -implicitDefEqProofs [*]) | (refine qabr (hc.out _) ?_; simp -implicitDefEqProofs [*]) | (with_reducible first | refine zM hm ?_ | refine zN hm ?_ | refine zO hm ?_ | refine zP hm ?_) | ((with_reducible refine qabg [] hm ?_ ?_ ?_ ?_) <;> (try simp only [zT, puth, Nat.reduceEqDiff, reduceIte, Nat.reduceAdd])) | (with_reducible first | refine za ?_ ?_ | refine zb ?_ ?_ ?_ ?_ | refine zc ?_ ?_ ?_ ?_ | refine zd ?_ ?_ ?_ ?_ | refine qacs ?_ ?_ | refine qacq ?_ ?_) | (with_reducible first | exact qacc | exact qacr | exact qada | exact qadc | exact Co.refl _ | exact CoL.refl _ | exact CoLL.refl _) | ((with_reducible first | refine zga ?_ | refine zgb ?_); rfl) | ((with_reducible refine zgc ?_); (first | (with_reducible rfl) | rfl | (simp; done))) | ((with_reducible first | refine zgd ?_ | refine zge ?_); (first | omega | (simp; done))) | (refine qaee ⟨?_, ?_⟩ ?_ <;> omega) | (exact Co.refl _) | (exact CoL.refl _) | (exact CoLL.refl _) | (refine qabt ?_; omega) | (refine qabs ?_; first | omega | (simp_all; done)) | (with_reducible first | refine qadi ?_ ?_ | refine qacy ?_ ?_) | ((refine qabn hJ (i + 1) ?_ ?_ ?_; (with_reducible refine qabg [(40, ?_), (65, ?_)] hm ?_ ?_ ?_ ?_) <;> (try simp only [zT, puth, Nat.reduceEqDiff, reduceIte, Nat.reduceAdd]))) | fail)
  all_goals (first | exact hrow | (rw [← List.map_take]; exact hrow) | omega | trace_state)
 ·obtain rfl : i = acts.length := by omega
  repeat' (first | ((with_reducible refine qaif (c := (.seq (.seq (.reg false qand [1, 3, 7, 9, 62]) _) _)) ?_)) | (with_reducible first | refine zA ?_ | refine qaa3 ?_ | refine qaa2 ?_ | refine zK ?_) | ((with_reducible first | refine qaao ?_ | refine qaak (by rw [hP]; exact mixed) ?_); (try rw [hP]); simp -implicitDefEqProofs [*]) | ((with_reducible first | refine qaah ?_ | refine qaaj ?_); (try simp -implicitDefEqProofs [*])) | ((with_reducible refine qabl ?_); (try simp only [qaa5, qaae, qaam])) | ((with_reducible refine qabd rfl (fun h => ?_) (fun h => ?_)) <;> have h' := h <;> (try simp at h') <;> (try subst h')) | ((with_reducible refine qaaa (fun h => ?_) (fun h => ?_)) <;> have h' := h <;> (try simp at h') <;> (try subst h') <;> simp -implicitDefEqProofs [*]) | ((with_reducible refine qaal ?_ ?_); (first | omega | (unfold maxLen; omega)); simp -implicitDefEqProofs [*]) | (with_reducible first | refine zM hm ?_ | refine zN hm ?_ | refine zO hm ?_ | refine zP hm ?_) | fail)
  constructor
  clear hJ hi h
  refine qawd [65] ?_ ?_
  ·simp only [FrzOk, geth, Nat.reduceEqDiff, reduceIte, qaq5, and_true]
  have htk : ((acts.take acts.length).map actn).take acts.length = acts.map actn := by rw [List.take_length]; exact List.take_of_length_le (by simp)
  simp -implicitDefEqProofs [htk, hlen, Nat.le_refl]
  clear hlen htk hb1
  obtain ⟨hkd, hw1, hw3, hw2, -⟩ := tabF0 he
  have nil_co : ∀ j, CoL [.ifc (qael t ws).ty (.agg [.ptr j 0]), .int .i64 t.kind, .view 2 (t.keys.map refc), nums .i64 t.acts, .int .i64 t.cap, .int .i64 t.def_, nums .u64 t.args, nums .i64 ws, .view 2 (acts.map actn), .int .i64 t.def_, nums .u64 t.args] (scs (qahw t ws acts) j) := fun j => by
   refine ⟨Co.refl _, Co.refl _, Co.refl _, Co.refl _, Co.refl _, Co.refl _, Co.refl _, Co.refl _, ?_, Co.refl _, Co.refl _, trivial⟩
   exact qazb (qbcz acts)
  have nf : (qahw t ws acts).F = qael t ws := rfl
  clear kc k1 k2 k3
  rcases hkd with hk | hk | hk
  ·have b1 : (t.kind == 1) = true := by simp [hk]
   have hF : qael t ws = .ex ws.length t.cap (List.replicate (newN t.cap) none) := by unfold qael; rw [if_pos hk]
   rw [hF] at nil_co nf
   replace nil_co := Lib.hid nil_co
   replace hk := Lib.hid hk
   repeat' (first | (with_reducible first | refine zA ?_ | refine qaa3 ?_ | refine qaa2 ?_ | refine zK ?_) | ((with_reducible first | refine qaao ?_ | refine qaak (by rw [hP]; exact mixed) ?_); (try rw [hP]); simp -implicitDefEqProofs [*]) | ((with_reducible first | refine qaah ?_ | refine qaaj ?_); (try simp -implicitDefEqProofs [*])) | ((with_reducible refine qabl ?_); (try simp only [qaa5, qaae, qaam])) | ((with_reducible refine qabd rfl (fun h => ?_) (fun h => ?_)) <;> have h' := h <;> (try simp at h') <;> (try subst h')) | ((with_reducible refine qaaa (fun h => ?_) (fun h => ?_)) <;> have h' := h <;> (try simp at h') <;> (try subst h') <;> simp -implicitDefEqProofs [*]) | ((with_reducible refine qaal ?_ ?_); (first | omega | (unfold maxLen; omega)); simp -implicitDefEqProofs [*]) | (refine qad9 (xnew_a ws.length t.cap _) trivial ⟨rfl, trivial⟩ ?_; simp -implicitDefEqProofs [*]) | (with_reducible first | refine zM hm ?_ | refine zN hm ?_ | refine zO hm ?_ | refine zP hm ?_) | ((refine qax7 hP hm rfl rfl rfl (nil_co.out _) (by rw [nf]; rfl) rfl rfl)) | fail)
  ·have b1 : (t.kind == 1) = false := by simp [hk]
   have b2 : (t.kind == 2) = true := by simp [hk]
   have hF : qael t ws = .px (el ws 0) t.cap 0 noE := by unfold qael; rw [if_neg (by omega), if_pos hk]
   rw [hF] at nil_co nf
   have hx0 : ws[0]? = some (el ws 0) := by cases ws with | nil => simp at hw1 | cons x l => rfl
   obtain ⟨hx2, hx1⟩ := List.getElem?_eq_some_iff.1 hx0
   clear hx0
   replace nil_co := Lib.hid nil_co
   replace hk := Lib.hid hk
   repeat' (first | (with_reducible first | refine zA ?_ | refine qaa3 ?_ | refine qaa2 ?_ | refine zK ?_) | ((with_reducible first | refine qaao ?_ | refine qaak (by rw [hP]; exact mixed) ?_); (try rw [hP]); simp -implicitDefEqProofs [*]) | ((with_reducible first | refine qaah ?_ | refine qaaj ?_); (try simp -implicitDefEqProofs [*])) | ((with_reducible refine qabl ?_); (try simp only [qaa5, qaae, qaam])) | ((with_reducible refine qabd rfl (fun h => ?_) (fun h => ?_)) <;> have h' := h <;> (try simp at h') <;> (try subst h')) | ((with_reducible refine qaaa (fun h => ?_) (fun h => ?_)) <;> have h' := h <;> (try simp at h') <;> (try subst h') <;> simp -implicitDefEqProofs [*]) | ((with_reducible refine qaal ?_ ?_); (first | omega | (unfold maxLen; omega)); simp -implicitDefEqProofs [*]) | (refine qad9 (newT_s (el ws 0) t.cap _) trivial ⟨rfl, trivial⟩ ?_; simp -implicitDefEqProofs [*]) | (with_reducible first | refine zM hm ?_ | refine zN hm ?_ | refine zO hm ?_ | refine zP hm ?_) | ((refine qax7 hP hm rfl rfl rfl (nil_co.out _) (by rw [nf]; rfl) rfl rfl)) | fail)
  ·have b1 : (t.kind == 1) = false := by simp [hk]
   have b2 : (t.kind == 2) = false := by simp [hk]
   have hF : qael t ws = .te ws.length t.cap [] := by unfold qael; rw [if_neg (by omega), if_neg (by omega)]
   rw [hF] at nil_co nf
   replace nil_co := Lib.hid nil_co
   replace hk := Lib.hid hk
   repeat' (first | (with_reducible first | refine zA ?_ | refine qaa3 ?_ | refine qaa2 ?_ | refine zK ?_) | ((with_reducible first | refine qaao ?_ | refine qaak (by rw [hP]; exact mixed) ?_); (try rw [hP]); simp -implicitDefEqProofs [*]) | ((with_reducible first | refine qaah ?_ | refine qaaj ?_); (try simp -implicitDefEqProofs [*])) | ((with_reducible refine qabl ?_); (try simp only [qaa5, qaae, qaam])) | ((with_reducible refine qabd rfl (fun h => ?_) (fun h => ?_)) <;> have h' := h <;> (try simp at h') <;> (try subst h')) | ((with_reducible refine qaaa (fun h => ?_) (fun h => ?_)) <;> have h' := h <;> (try simp at h') <;> (try subst h') <;> simp -implicitDefEqProofs [*]) | ((with_reducible refine qaal ?_ ?_); (first | omega | (unfold maxLen; omega)); simp -implicitDefEqProofs [*]) | (refine qad9 (tnew_a ws.length t.cap _) trivial ⟨rfl, trivial⟩ ?_; simp -implicitDefEqProofs [*]) | (with_reducible first | refine zM hm ?_ | refine zN hm ?_ | refine zO hm ?_ | refine zP hm ?_) | ((refine qax7 hP hm rfl rfl rfl (nil_co.out _) (by rw [nf]; rfl) rfl rfl)) | fail)
end Go.Proofs.YtalejfkholifpaaGreat
namespace Go.Proofs.YtalejfkholifpaaGreat
set_option linter.all false
open Go.RowKit
theorem qaxk {W : Nat} {E : PE} {n : Int} (h : PInv W n E) {e : Entry} : e ∈ allF E W W 0 0 ↔ ∃ (j : Nat) (u : Int) (x : Int × List Int), j ≤ W ∧ E j u = some x ∧ e = ce W j u x := by
 rw [qaha]
 constructor
 ·rintro ⟨j, u, x, h1, h2, h3, h4, h5⟩
  exact ⟨j, u, x, by omega, h4, h5⟩
 ·rintro ⟨j, u, x, h1, h2, h3⟩
  obtain ⟨k1, k2, k3, _⟩ := h.ok j u x h2
  exact ⟨j, u, x, by omega, by omega, Int.ediv_eq_zero_of_lt k2 (by simpa using k3), h2, h3⟩
end Go.Proofs.YtalejfkholifpaaGreat
namespace Go.Proofs.YtalejfkholifpaaGreat
set_option linter.all false
open Go.RowKit
theorem qa6l {W i j : Nat} {v u : Int} {x y : Int × List Int} (h : ce W i v x = ce W j u y) : i = j ∧ v = u ∧ x = y := by
 unfold ce at h
 injection h with h1 h2 h3 h4 h5 h6
 obtain rfl : i = j := by omega
 injection h1 with h1
 have := Int.eq_of_mul_eq_mul_right (Int.ne_of_gt (qafm (W - i))) h1
 exact ⟨rfl, this, Prod.ext h5 h6⟩
structure RelM (W : Nat) (E : PE) (L : List Entry) : Prop where
 mem : ∀ e, e ∈ L ↔ ∃ (i : Nat) (v : Int) (x : Int × List Int), E i v = some x ∧ e = ce W i v x
 nd : L.Nodup
theorem RelM.at_ {W K : Nat} {E : PE} {L : List Entry} (h : RelM W E L) {key : Int} {e : Entry} (hk : e.keys = [key]) (hl : e.len = K) (hz : key % 2 ^ (W - K) = 0) :
  (E K (pre W key K) = none ∧ atI 2 L e = -1) ∨ ∃ x, E K (pre W key K) = some x ∧ atI 2 L e = atN 2 L e ∧ ∃ hi : atN 2 L e < L.length, L[atN 2 L e] = ce W K (pre W key K) x := by
 have hkey := qaxz hz
 have hone : ∀ i v x, oneB 2 (ce W i v x) e = true ↔ i = K ∧ v = pre W key K := by
  intro i v x
  unfold oneB ce
  rw [hk, hl]
  simp
  constructor
  ·rintro ⟨h1, h2⟩
   obtain rfl : i = K := by omega
   refine ⟨rfl, ?_⟩
   rw [hkey] at h2
   exact Int.eq_of_mul_eq_mul_right (Int.ne_of_gt (qafm (W - i))) h2
  ·rintro ⟨rfl, rfl⟩
   exact ⟨rfl, hkey.symm⟩
 rcases qbbb 2 L e with ⟨h1, h2⟩ | h1
 ·right
  have hb := qa54 (fun i => match L[i]? with | some a => oneB 2 a e | none => false) L.length h2
  change (match L[atN 2 L e]? with | some a => oneB 2 a e | none => false) = true at hb
  rw [List.getElem?_eq_getElem h2] at hb
  obtain ⟨i, v, x, hE, hce⟩ := (h.mem _).1 (List.getElem_mem h2)
  simp only [hce] at hb
  obtain ⟨rfl, rfl⟩ := (hone i v x).1 hb
  exact ⟨x, hE, h1, h2, hce⟩
 ·left
  refine ⟨?_, h1⟩
  cases hE : E K (pre W key K) with
  | none => rfl
  | some x =>
   obtain ⟨j, hj⟩ := List.getElem?_of_mem ((h.mem (ce W K (pre W key K) x)).2 ⟨K, _, x, hE, rfl⟩)
   obtain ⟨hjL, hje⟩ := List.getElem?_eq_some_iff.1 hj
   have hlt : atN 2 L e < L.length := by
    refine Nat.lt_of_le_of_ne (qarn _ _) fun heq => ?_
    have := qamb (fun i => match L[i]? with | some a => oneB 2 a e | none => false) L.length j (by show j < atN 2 L e; rw [heq]; exact hjL)
    simp only [hj] at this
    rw [(hone _ _ _).2 ⟨rfl, rfl⟩] at this
    cases this
   unfold atI at h1
   rw [if_pos hlt] at h1
   omega
end Go.Proofs.YtalejfkholifpaaGreat
namespace Go.Proofs.YtalejfkholifpaaGreat
set_option linter.all false
open Go.RowKit
theorem qagz (E : PE) (K : Nat) (P : Int) (y : Option (Int × List Int)) : qadb E K P y K P = y := if_pos ⟨rfl, rfl⟩
theorem qaf4 (E : PE) {K i : Nat} {P v : Int} (y : Option (Int × List Int)) (h : ¬ (i = K ∧ v = P)) : qadb E K P y i v = E i v := if_neg h
theorem RelM.add {W K : Nat} {E : PE} {L : List Entry} (h : RelM W E L) {P : Int} {x : Int × List Int} (hn : E K P = none) : RelM W (qadb E K P (some x)) (L ++ [ce W K P x]) := by
 constructor
 ·intro e
  rw [List.mem_append, h.mem, List.mem_singleton]
  constructor
  ·rintro (⟨i, v, y, h1, h2⟩ | rfl)
   ·refine ⟨i, v, y, ?_, h2⟩
    rw [qaf4 _ _ fun hh => by rw [hh.1, hh.2, hn] at h1; cases h1]; exact h1
   ·exact ⟨K, P, x, qagz _ _ _ _, rfl⟩
  ·rintro ⟨i, v, y, h1, h2⟩
   by_cases hh : i = K ∧ v = P
   ·obtain ⟨rfl, rfl⟩ := hh
    rw [qagz] at h1; cases h1
    exact .inr h2
   ·rw [qaf4 _ _ hh] at h1
    exact .inl ⟨i, v, y, h1, h2⟩
 ·rw [List.nodup_append]
  refine ⟨h.nd, by simp, ?_⟩
  intro a ha b hb hab
  rw [List.mem_singleton] at hb
  subst hb hab
  obtain ⟨i, v, y, h1, h2⟩ := (h.mem _).1 ha
  obtain ⟨rfl, rfl, rfl⟩ := qa6l h2
  rw [hn] at h1; cases h1
theorem RelM.parts {W K : Nat} {E : PE} {A B : List Entry} {P : Int} {x : Int × List Int} (h : RelM W E (A ++ ce W K P x :: B)) : (∀ e, e ∈ A ++ B ↔ ∃ (i : Nat) (v : Int) (y : Int × List Int), E i v = some y ∧ e = ce W i v y ∧ ¬ (i = K ∧ v = P)) ∧ (A ++ B).Nodup ∧ ∀ y, ce W K P y ∉ A ++ B := by
 have hE : E K P = some x := by
  obtain ⟨i, v, y, h1, h2⟩ := (h.mem (ce W K P x)).1 (by simp)
  obtain ⟨rfl, rfl, rfl⟩ := qa6l h2
  exact h1
 have hnd := h.nd
 rw [List.nodup_append] at hnd
 obtain ⟨n1, n2, n3⟩ := hnd
 rw [List.nodup_cons] at n2
 have hno : ∀ y, ce W K P y ∉ A ++ B := by
  intro y hy
  have : ce W K P y ∈ A ++ ce W K P x :: B := by
   rcases List.mem_append.1 hy with h1 | h1
   ·exact List.mem_append_left _ h1
   ·exact List.mem_append_right _ (List.mem_cons_of_mem _ h1)
  obtain ⟨i, v, z, h1, h2⟩ := (h.mem _).1 this
  obtain ⟨rfl, rfl, rfl⟩ := qa6l h2
  rw [hE] at h1; cases h1
  rcases List.mem_append.1 hy with h1 | h1
  ·exact n3 _ h1 _ (by simp) rfl
  ·exact n2.1 h1
 refine ⟨fun e => ?_, ?_, hno⟩
 ·constructor
  ·intro he
   have : e ∈ A ++ ce W K P x :: B := by
    rcases List.mem_append.1 he with h1 | h1
    ·exact List.mem_append_left _ h1
    ·exact List.mem_append_right _ (List.mem_cons_of_mem _ h1)
   obtain ⟨i, v, z, h1, h2⟩ := (h.mem _).1 this
   refine ⟨i, v, z, h1, h2, ?_⟩
   rintro ⟨rfl, rfl⟩
   exact hno z (h2 ▸ he)
  ·rintro ⟨i, v, y, h1, h2, h3⟩
   have := (h.mem e).2 ⟨i, v, y, h1, h2⟩
   rcases List.mem_append.1 this with h4 | h4
   ·exact List.mem_append_left _ h4
   ·rcases List.mem_cons.1 h4 with h5 | h5
    ·rw [h5] at h2
     obtain ⟨q1, q2, _⟩ := qa6l h2
     exact absurd ⟨q1.symm, q2.symm⟩ h3
    ·exact List.mem_append_right _ h5
 ·rw [List.nodup_append]
  exact ⟨n1, n2.2, fun a ha b hb => n3 a ha b (List.mem_cons_of_mem _ hb)⟩
theorem RelM.set {W K : Nat} {E : PE} {A B : List Entry} {P : Int} {x y : Int × List Int} (h : RelM W E (A ++ ce W K P x :: B)) : RelM W (qadb E K P (some y)) (A ++ ce W K P y :: B) := by
 obtain ⟨h1, h2, h3⟩ := h.parts
 have hmem : ∀ e, e ∈ A ++ ce W K P y :: B ↔ e ∈ A ++ B ∨ e = ce W K P y := fun e => by
  simp only [List.mem_append, List.mem_cons]
  constructor
  ·rintro (h | h | h)
   ·exact .inl (.inl h)
   ·exact .inr h
   ·exact .inl (.inr h)
  ·rintro ((h | h) | h)
   ·exact .inl h
   ·exact .inr (.inr h)
   ·exact .inr (.inl h)
 constructor
 ·intro e
  rw [hmem, h1]
  constructor
  ·rintro (⟨i, v, z, q1, q2, q3⟩ | rfl)
   ·exact ⟨i, v, z, by rw [qaf4 _ _ q3]; exact q1, q2⟩
   ·exact ⟨K, P, y, qagz _ _ _ _, rfl⟩
  ·rintro ⟨i, v, z, q1, q2⟩
   by_cases hh : i = K ∧ v = P
   ·obtain ⟨rfl, rfl⟩ := hh
    rw [qagz] at q1; cases q1
    exact .inr q2
   ·rw [qaf4 _ _ hh] at q1
    exact .inl ⟨i, v, z, q1, q2, hh⟩
 ·have h4 := h3 y
  rw [List.nodup_append] at h2 ⊢
  obtain ⟨n1, n2, n3⟩ := h2
  refine ⟨n1, List.nodup_cons.2 ⟨fun hb => h4 (List.mem_append_right _ hb), n2⟩, fun a ha b hb hab => ?_⟩
  rcases List.mem_cons.1 hb with hb | hb
  ·subst hab hb; exact h4 (List.mem_append_left _ ha)
  ·exact n3 a ha b hb hab
theorem RelM.drop {W K : Nat} {E : PE} {A B : List Entry} {P : Int} {x : Int × List Int} (h : RelM W E (A ++ ce W K P x :: B)) : RelM W (qadb E K P none) (A ++ B) := by
 obtain ⟨h1, h2, h3⟩ := h.parts
 refine ⟨fun e => ?_, h2⟩
 rw [h1]
 constructor
 ·rintro ⟨i, v, z, q1, q2, q3⟩
  exact ⟨i, v, z, by rw [qaf4 _ _ q3]; exact q1, q2⟩
 ·rintro ⟨i, v, z, q1, q2⟩
  by_cases hh : i = K ∧ v = P
  ·obtain ⟨rfl, rfl⟩ := hh
   rw [qagz] at q1; cases q1
  ·rw [qaf4 _ _ hh] at q1
   exact ⟨i, v, z, q1, q2, hh⟩
end Go.Proofs.YtalejfkholifpaaGreat
namespace Go.Proofs.YtalejfkholifpaaGreat
set_option linter.all false
open Go.RowKit
variable {width n : Int} {E : PE} {L : List Entry} {e : Entry} {key : Int}
theorem qaxq {W K : Nat} {P : Int} {E : PE} {y : Option (Int × List Int)} (hK : K ≤ W) (p0 : 0 ≤ P) (p1 : P < 2 ^ K) : (allF (qadb E K P y) W W 0 0).length + (E K P).toList.length = (allF E W W 0 0).length + y.toList.length := by
 have := qao7 E W K P y W 0 0
 rwa [if_pos (qaft hK p0 p1), if_pos (qaft hK p0 p1)] at this
theorem PInv.set {W K : Nat} {n : Int} {P : Int} {x y : Int × List Int} (h : PInv W n E) (hE : E K P = some x) (ha : y.2.length ≤ 1000) (hf : AllFit .u64 y.2) (hact : Fits .i64 y.1) : PInv W n (qadb E K P (some y)) := by
 obtain ⟨i1, i2, i3, _⟩ := h.ok K P x hE
 refine ⟨?_, fun i v z hz => ?_⟩
 ·have := qaxq (y := some y) (E := E) i1 i2 i3
  rw [hE] at this
  simp at this
  rw [h.cnt]; omega
 ·unfold qadb at hz
  split at hz
  ·rename_i e
   obtain ⟨rfl, rfl⟩ := e
   cases hz
   exact ⟨i1, i2, i3, ha, hf, hact⟩
  ·exact h.ok i v z hz
end Go.Proofs.YtalejfkholifpaaGreat
namespace Go.Proofs.YtalejfkholifpaaGreat
set_option linter.all false
open Go.RowKit
theorem qasj (S : List Entry) : qalp S S = true := by
 unfold qalp
 rw [decide_eq_true rfl, Bool.true_and]
 refine List.all_eq_true.2 fun i hi => ?_
 rw [List.getElem?_eq_getElem (List.mem_range.1 hi)]
 simp [qaoo]
theorem qbfj {S : XTab} {j : Nat} {s t : XSlot} (hj : S[j]? = some (some t)) : cnt (S.set j (some s)) = cnt S := by
 have hl := qaco hj
 have := qag1 S j (some s) hl
 rw [List.getElem?_eq_getElem hl] at hj
 rw [Option.some.inj hj] at this
 simpa using this
theorem qak8 {k m : Int} {S : XTab} (h : XInv k m S) {xs : List Int} (hV : qajb k S xs = 0) : ∃ (j : Nat) (t : XSlot), S[j]? = some (some t) ∧ t.keys = xs ∧ qacf S xs = (j, true) := by
 have hp : (qacf S xs).2 = true := by
  unfold qajb at hV
  split at hV
  ·cases hV
  ·split at hV
   ·assumption
   ·cases hV
 obtain ⟨t, ht, hk⟩ := (qaim h).1 hp
 obtain ⟨j, hj⟩ := qacx.1 ht
 exact ⟨j, t, hj, hk, by rw [← hk]; exact qafx h hj⟩
theorem qamf {F : Fin_} (h : F.Inv) {e : Entry} (he : EOk e) : (F.add e).Inv := by
 cases F with
 | ex k m S =>
  obtain ⟨h1, h2, h3, h4⟩ := h
  show XInv k m (addX k m S ⟨e.keys, e.act, e.args⟩) ∧ 0 ≤ m ∧ m ≤ 16 ∧ (cnt (addX k m S ⟨e.keys, e.act, e.args⟩) : Int) ≤ m
  unfold addX
  by_cases hV : qaoa k m S e.keys = 0
  ·rw [if_pos hV]
   obtain ⟨p1, p2⟩ := qaqo h1 (s := ⟨e.keys, e.act, e.args⟩) ⟨he.small.1, he.small.2.2⟩ hV
   refine ⟨p1, h2, h3, ?_⟩
   rw [qars p2]
   unfold qaoa at hV
   split at hV
   ·cases hV
   ·split at hV
    ·cases hV
    ·split at hV
     ·cases hV
     ·omega
  ·rw [if_neg hV]; exact ⟨h1, h2, h3, h4⟩
 | px w m n E =>
  obtain ⟨h1, h2, h3, h4, h5⟩ := h
  have h0 : 0 ≤ kof e := (he.fit.kof).u64.1
  have hw : ((w.toNat : Nat) : Int) = w := by have := h1.1; omega
  have := h2.add (most := m) (key := kof e) (k := e.len) h0 he.few he.fit.args he.fit.act
  rw [hw] at this
  exact ⟨h1, this.1, h3, h4, this.2 h5⟩
 | te k m l =>
  obtain ⟨h1, h2, h3, h4⟩ := h
  have := qbbh (k := k) (m := m) (l := l) (e := e) (by omega)
  exact ⟨qbhc h1 he.small, h2, h3, by show ((addR k m l e).length : Int) ≤ m; omega⟩
theorem qame {F : Fin_} (h : F.Inv) {e : Entry} (he : EOk e) : (F.chg e).Inv := by
 cases F with
 | ex k m S =>
  obtain ⟨h1, h2, h3, h4⟩ := h
  show XInv k m (chgX k S ⟨e.keys, e.act, e.args⟩) ∧ 0 ≤ m ∧ m ≤ 16 ∧ (cnt (chgX k S ⟨e.keys, e.act, e.args⟩) : Int) ≤ m
  unfold chgX
  by_cases hV : qajb k S e.keys = 0
  ·rw [if_pos hV]
   obtain ⟨j, t, hj, hk, hp⟩ := qak8 h1 hV
   rw [hp]
   exact ⟨qbfi h1 ⟨he.small.1, he.small.2.2⟩ hj hk.symm, h2, h3, by rw [qbfj hj]; exact h4⟩
  ·rw [if_neg hV]; exact ⟨h1, h2, h3, h4⟩
 | px w m n E =>
  obtain ⟨h1, h2, h3, h4, h5⟩ := h
  refine ⟨h1, ?_, h3, h4, h5⟩
  by_cases hV : qac5 w E (kof e) e.len = 0
  ·rw [qain hV]
   unfold qac5 at hV
   split at hV
   ·cases hV
   ·split at hV
    ·rename_i hs
     obtain ⟨x, hx⟩ := Option.isSome_iff_exists.1 hs
     exact h2.set (y := (e.act, e.args)) hx he.few he.fit.args he.fit.act
    ·cases hV
  ·rw [qah2 hV]; exact h2
 | te k m l =>
  obtain ⟨h1, h2, h3, h4⟩ := h
  exact ⟨qbfl h1 he.small, h2, h3, by show ((chgR k l e).length : Int) ≤ m; rw [qbfk]; exact h4⟩
theorem qajy {F : Fin_} (h : F.Inv) {e : Entry} (he : EOk e) : (F.drop e).Inv := by
 cases F with
 | ex k m S =>
  obtain ⟨h1, h2, h3, h4⟩ := h
  show XInv k m (drpX k S e.keys) ∧ 0 ≤ m ∧ m ≤ 16 ∧ (cnt (drpX k S e.keys) : Int) ≤ m
  unfold drpX
  by_cases hV : qajb k S e.keys = 0
  ·rw [if_pos hV]
   obtain ⟨j, t, hj, hk, hp⟩ := qak8 h1 hV
   rw [hp]
   obtain ⟨p1, _, p3⟩ := qayh h1 hj
   exact ⟨p1, h2, h3, by show (cnt (qajg _ _ S j) : Int) ≤ m; omega⟩
  ·rw [if_neg hV]; exact ⟨h1, h2, h3, h4⟩
 | px w m n E =>
  obtain ⟨h1, h2, h3, h4, h5⟩ := h
  have h0 : 0 ≤ kof e := (he.fit.kof).u64.1
  have hw : ((w.toNat : Nat) : Int) = w := by have := h1.1; omega
  have := h2.drop (key := kof e) (k := e.len) h0
  rw [hw] at this
  exact ⟨h1, this.1, h3, h4, by show qadq w n E (kof e) e.len ≤ m; omega⟩
 | te k m l =>
  obtain ⟨h1, h2, h3, h4⟩ := h
  have := qa6e (k := k) (l := l) (e := e)
  exact ⟨qa6f h1, h2, h3, by show ((qan9 k l e).length : Int) ≤ m; omega⟩
theorem qaky {F : Fin_} (e : Entry) : (F.addV e ≠ 0 → F.add e = F) ∧ (F.chgV e ≠ 0 → F.chg e = F) ∧ (F.dropV e ≠ 0 → F.drop e = F) := by
 cases F with
 | ex k m S =>
  refine ⟨fun h => ?_, fun h => ?_, fun h => ?_⟩
  ·exact congrArg (Fin_.ex k m) (if_neg h)
  ·exact congrArg (Fin_.ex k m) (if_neg h)
  ·exact congrArg (Fin_.ex k m) (if_neg h)
 | px w m n E =>
  refine ⟨fun h => ?_, fun h => ?_, fun h => ?_⟩
  ·show Fin_.px w m (qae1 w m n E (kof e) e.len) (qaff w m n E (kof e) e.len e.act e.args) = _
   have h1 := qagt (show qacg w m n E (kof e) e.len ≠ 0 from h) e.act e.args
   rw [h1.1, h1.2]
  ·exact congrArg (Fin_.px w m n) (qah2 (show qac5 w E (kof e) e.len ≠ 0 from h) _ _)
  ·show Fin_.px w m (qadq w n E (kof e) e.len) (qaec w E (kof e) e.len) = _
   have h1 := qags (n := n) (show qacb w E (kof e) e.len ≠ 0 from h)
   rw [h1.1, h1.2]
 | te k m l =>
  have hd : dropV k l e ≠ 0 → qan9 k l e = l ∧ chgR k l e = l := fun h => by
   unfold dropV at h
   unfold qan9 chgR
   split at h
   ·rename_i h1; rw [if_pos h1, if_pos h1]; exact ⟨rfl, rfl⟩
   ·rename_i h1
    split at h
    ·rename_i h2; rw [if_neg h1, if_pos h2, if_neg h1, if_pos h2]; exact ⟨rfl, rfl⟩
    ·exact absurd rfl h
  refine ⟨fun h => ?_, fun h => ?_, fun h => ?_⟩
  ·exact congrArg (Fin_.te k m) (if_neg h)
  ·show Fin_.te k m (chgR k l e) = _; rw [(hd h).2]
  ·show Fin_.te k m (qan9 k l e) = _; rw [(hd h).1]
theorem qajx {F : Fin_} (h : F.Inv) : (F.all.length : Int) = F.cnt := by
 cases F with
 | ex k m S => show (((qajk S).map entE).length : Int) = (cnt S : Int); rw [List.length_map, (qac4 S).length_eq, qaix]
 | px w m n E => exact (qa4h h.1 h.2.1).symm
 | te k m l => show ((qai9 l).length : Int) = l.length; rw [(qadj h.1).length_eq]
theorem qamd {F : Fin_} (h : F.Inv) : F.cnt ≤ F.m ∧ F.m ≤ 16 := by
 cases F with
 | ex k m S => exact ⟨h.2.2.2, h.2.2.1⟩
 | px w m n E => exact ⟨h.2.2.2.2, h.2.2.2.1⟩
 | te k m l => exact ⟨h.2.2.2, h.2.2.1⟩
theorem qa56 {F : Fin_} (h : F.Inv) : ∀ e ∈ F.all, qadk e := by
 intro e he
 cases F with
 | ex k m S =>
  obtain ⟨s, hs, rfl⟩ := List.mem_map.1 he
  obtain ⟨j, hj⟩ := qacx.1 ((qac4 S).mem_iff.1 hs)
  have := h.1.small j s hj
  exact ⟨this.1, Nat.zero_le _, this.2⟩
 | px w m n E =>
  have he : e ∈ allT w E := he
  unfold allT at he
  rw [if_pos h.1] at he
  obtain ⟨j, u, x, _, hx, rfl⟩ := (qaxk h.2.1).1 he
  have := (h.2.1.ok j u x hx).2.2.2.1
  exact ⟨by simp [ce], by simp [ce], by simp [ce]; omega⟩
 | te k m l => exact h.1.small e ((qadj h.1).mem_iff.1 he)
theorem km_add (F : Fin_) (e : Entry) : (F.add e).k = F.k ∧ (F.add e).m = F.m ∧ (F.add e).kind = F.kind := by cases F <;> exact ⟨rfl, rfl, rfl⟩
theorem km_chg (F : Fin_) (e : Entry) : (F.chg e).k = F.k ∧ (F.chg e).m = F.m ∧ (F.chg e).kind = F.kind := by cases F <;> exact ⟨rfl, rfl, rfl⟩
theorem km_drop (F : Fin_) (e : Entry) : (F.drop e).k = F.k ∧ (F.drop e).m = F.m ∧ (F.drop e).kind = F.kind := by cases F <;> exact ⟨rfl, rfl, rfl⟩
theorem StOk.turn {s : StoD} (h : StOk s) {F : Fin_} (hF : F.Inv) (hk : F.k = s.F.k ∧ F.m = s.F.m ∧ F.kind = s.F.kind) : StOk { s with F := F } :=
 ⟨hF, by show s.t.kind = F.kind; rw [hk.2.2]; exact h.kind, by show (s.w.length : Int) = F.k; rw [hk.1]; exact h.k, by show s.t.cap = F.m; rw [hk.2.1]; exact h.m, h.wd, h.wl, h.aw, h.ta, h.tl, h.dl⟩
theorem qbb1 {s : StoD} (h : StOk s) {e : Entry} (he : EOk e) : StOk (qaws s e) := by
 unfold qaws; split
 ·exact h
 ·split
  ·exact h
  ·exact h.turn (qamf h.inv he) (km_add _ _)
theorem schg_ok {s : StoD} (h : StOk s) {e : Entry} (he : EOk e) : StOk (qa43 s e) := by
 unfold qa43; split
 ·exact h
 ·split
  ·exact h
  ·exact h.turn (qame h.inv he) (km_chg _ _)
theorem qbdl {s : StoD} (h : StOk s) {e : Entry} (he : EOk e) : StOk (qakg s e) := by
 unfold qakg; split
 ·exact h
 ·exact h.turn (qajy h.inv he) (km_drop _ _)
theorem qalz {t : TabD} {ws : List Int} {acts : List ActD} (h : qaei t ws acts = 0) : (qael t ws).Inv := by
 obtain ⟨hk, h1, h2, h3, h4, h5, h6, h7, h8, h9⟩ := tabF0 h
 have hc : cnt (List.replicate (newN t.cap) (none : Option XSlot)) = 0 := by unfold cnt; rw [List.countP_replicate]; simp
 unfold qael
 split
 ·exact ⟨qbc8 _ _, h4, h5, by rw [hc]; omega⟩
 ·split
  ·rename_i h10
   have hl := h3 h10
   have hw : okWd (el ws 0) := by
    cases ws with
    | nil => simp at hl
    | cons x l => have := h6 x (by simp); show 1 ≤ x ∧ x ≤ 64; omega
   exact ⟨hw, PInv.none _, h4, h5, h4⟩
  ·exact ⟨qbdc _, h4, h5, by simpa using h4⟩
theorem qa5p {t : TabD} {ws : List Int} {acts : List ActD} (ha : AW acts) (ht : t.args.length ≤ 1000000) (h : qaei t ws acts = 0) : StOk (qahw t ws acts) := by
 obtain ⟨hk, h1, h2, h3, h4, h5, h6, h7, h8, h9⟩ := tabF0 h
 refine ⟨qalz h, ?_, ?_, ?_, h6, h2, ?_, ?_, by show t.acts.length ≤ 1000000; omega, ht⟩
 ·show t.kind = (qael t ws).kind
  unfold qael
  rcases hk with h | h | h
  ·rw [if_pos h]; exact h
  ·rw [if_neg (by omega), if_pos h]; exact h
  ·rw [if_neg (by omega), if_neg (by omega)]; exact h
 ·show (ws.length : Int) = (qael t ws).k
  unfold qael
  rcases hk with h | h | h
  ·rw [if_pos h]; rfl
  ·rw [if_neg (by omega), if_pos h]; show (ws.length : Int) = 1; rw [h3 h]; rfl
  ·rw [if_neg (by omega), if_neg (by omega)]; rfl
 ·show t.cap = (qael t ws).m
  unfold qael
  split
  ·rfl
  ·split <;> rfl
 ·intro a hm x hx
  obtain ⟨b, hb, rfl⟩ := List.mem_map.1 hm
  exact ha b hb x hx
 ·intro k hkm
  have := h7 k hkm
  show 0 ≤ k ∧ k < ((acts.map bare).length : Int)
  rw [List.length_map]; exact this
end Go.Proofs.YtalejfkholifpaaGreat
namespace Go.Proofs.YtalejfkholifpaaGreat
set_option linter.all false
open Go.RowKit
theorem qaqn {W i j : Nat} {v u : Int} {x y : Int × List Int} (h : v * 2 ^ (W - i) < u * 2 ^ (W - j) ∨ (v * 2 ^ (W - i) = u * 2 ^ (W - j) ∧ i < j)) : qahm (ce W i v x) (ce W j u y) = true := by
 have e : qan8 [v * 2 ^ (W - i)] [u * 2 ^ (W - j)] = if v * 2 ^ (W - i) < u * 2 ^ (W - j) then -1 else if v * 2 ^ (W - i) > u * 2 ^ (W - j) then 1 else 0 := rfl
 show (if (0 : Int) = 0 then (if qan8 [v * 2 ^ (W - i)] [u * 2 ^ (W - j)] = 0 then (if (i : Int) = (j : Int) then decide (qan8 [] [] < 0) else decide ((i : Int) < (j : Int))) else decide (qan8 [v * 2 ^ (W - i)] [u * 2 ^ (W - j)] < 0)) else decide ((0 : Int) < 0)) = true
 rw [if_pos rfl]
 rcases h with h | ⟨h, hij⟩
 ·rw [if_pos h] at e
  rw [if_neg (by rw [e]; decide), e]; rfl
 ·rw [if_neg (by omega), if_neg (by omega)] at e
  rw [if_pos e, if_neg (by omega)]
  exact decide_eq_true (by omega)
theorem qaku {W i j : Nat} {u v : Int} (hij : i ≤ j) (hj : j ≤ W) (h : u / 2 ^ (j - i) = v) : v * 2 ^ (W - i) ≤ u * 2 ^ (W - j) ∧ u * 2 ^ (W - j) < (v + 1) * 2 ^ (W - i) := by
 have e : (2 : Int) ^ (W - i) = 2 ^ (j - i) * 2 ^ (W - j) := by rw [← Int.pow_add, show j - i + (W - j) = W - i by omega]
 have p1 := qafm (j - i)
 have p2 := qafm (W - j)
 subst h
 rw [e, ← Int.mul_assoc, ← Int.mul_assoc]
 exact ⟨Int.mul_le_mul_of_nonneg_right (Int.ediv_mul_le u (Int.ne_of_gt p1)) (Int.le_of_lt p2), Int.mul_lt_mul_of_pos_right (Int.lt_ediv_add_one_mul_self u p1) p2⟩
theorem qavw {E : PE} {W : Nat} : ∀ (d i : Nat) (v : Int), i + d = W → (allF E W d i v).Pairwise fun a b => qahm a b = true := by
 intro d
 induction d with
 | zero =>
  intro i v h
  rw [show allF E W 0 i v = entL E W i v from rfl]
  unfold entL
  cases E i v <;> simp
 | succ d ih =>
  intro i v h
  rw [show allF E W (d + 1) i v = entL E W i v ++ (allF E W d (i + 1) (2 * v) ++ allF E W d (i + 1) (2 * v + 1)) from rfl, List.pairwise_append, List.pairwise_append]
  have e : (2 : Int) ^ (W - i) = 2 * 2 ^ (W - (i + 1)) := by rw [show W - i = W - (i + 1) + 1 by omega, Int.pow_succ, Int.mul_comm]
  have p := qafm (W - (i + 1))
  refine ⟨?_, ⟨ih _ _ (by omega), ih _ _ (by omega), ?_⟩, ?_⟩
  ·unfold entL
   cases E i v <;> simp
  ·intro a ha b hb
   obtain ⟨j, u, x, h1, h2, h3, _, rfl⟩ := (qaha d (i + 1) _ a).1 ha
   obtain ⟨k, t, y, g1, g2, g3, _, rfl⟩ := (qaha d (i + 1) _ b).1 hb
   have r1 := (qaku (W := W) h1 (by omega) h3).2
   have r2 := (qaku (W := W) g1 (by omega) g3).1
   exact qaqn (.inl (Int.lt_of_lt_of_le r1 r2))
  ·intro a ha b hb
   obtain ⟨x, h1, rfl⟩ := qao1.1 ha
   rw [List.mem_append] at hb
   have hb2 : ∃ (k : Nat) (t : Int) (y : Int × List Int) (c : Int), (c = 2 * v ∨ c = 2 * v + 1) ∧ i + 1 ≤ k ∧ k ≤ i + 1 + d ∧ t / 2 ^ (k - (i + 1)) = c ∧ b = ce W k t y := by
    rcases hb with hb | hb
    ·obtain ⟨k, t, y, g1, g2, g3, _, rfl⟩ := (qaha d (i + 1) _ b).1 hb
     exact ⟨k, t, y, _, .inl rfl, g1, g2, g3, rfl⟩
    ·obtain ⟨k, t, y, g1, g2, g3, _, rfl⟩ := (qaha d (i + 1) _ b).1 hb
     exact ⟨k, t, y, _, .inr rfl, g1, g2, g3, rfl⟩
   obtain ⟨k, t, y, c, hc, g1, g2, g3, rfl⟩ := hb2
   have r2 := (qaku (W := W) g1 (by omega) g3).1
   have hv : v * 2 ^ (W - i) ≤ t * 2 ^ (W - k) := by
    refine Int.le_trans ?_ r2
    rw [e, ← Int.mul_assoc]
    exact Int.mul_le_mul_of_nonneg_right (by omega) (Int.le_of_lt p)
   rcases Int.lt_or_eq_of_le hv with h5 | h5
   ·exact qaqn (.inl h5)
   ·exact qaqn (.inr ⟨h5, by omega⟩)
theorem qa4i (a : Entry) : qahm a a = false := by unfold qahm; rw [if_pos rfl, if_pos (qais _), if_pos rfl, qais]; rfl
theorem qaok {S : List Entry} (h : S.Pairwise fun a b => qahm a b = true) : S.Nodup :=
 h.imp fun {a b} hab heq => by rw [heq, qa4i] at hab; cases hab
variable {width n : Int} {E : PE} {L : List Entry}
end Go.Proofs.YtalejfkholifpaaGreat
