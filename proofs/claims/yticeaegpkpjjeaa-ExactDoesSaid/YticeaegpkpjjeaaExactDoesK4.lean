/-
  Texts joined: XExaD XExaE XExaF XExaG XExaO XExaP XExaQ XExaR XExaS XExaT XExaU XCrow XRowA XRowB XRowC XRowD XRowE XRowF XRowG XRowH. No condition.
-/
import Derived.WalkSpells
import Derived.RegionTactic
import Derived.BigRegion
import Derived.Deep.RegionLaw
import Derived.Test.YticeaegpkpjjeaaProg
import Derived.Test.YticeaegpkpjjeaaExactDoesK3
namespace Go.Proofs.Yticeaegpkpjjeaa
set_option linter.all false
open Go.RowKit
attribute [local simp] qaam qaal qaab qaaf qaac qaae qaaj qaak qaaa qaax SOp.run SX.ev putd puts argS upds SOp.touch SSt.keep SSt.skip gets geth puth delh idOf SV.cells? setL qabu qabv sbin eq0 eq1 eqL qabs qaa9 qaba qaaz qaai qaad qaan qaay qaag qaah FrzOk qaa4 qaav qaa2 qaa3 qaaq qaau qaa7 qaaw qaas qaa5 qaar frzS frzH frz frz1 frz0 SlotsM ObjsM ObjM rn ren ren1 ren0 qabj qabq qabx qabi qaa8 qabr qabw CoL qaa6 qace dels adds idsH qab7
def xobj (k m : Int) (c : Nat) (S : XTab) : Hp := [(0, .cells 163 [.int .i64 k, .int .i64 m, .int .i64 c, .own 1 S.length]), (1, .row 167 4 (S.map xsc))]
theorem qaho {k m : Int} {n : Nat} {S : XTab} : Lent (xobj k m n S) (.ptr 0 0) (.cp [.int .i64 k, .int .i64 m, .int .i64 n, .view 4 (S.map xsc)]) := by
 refine qax1 (t := 163) (cs := [.int .i64 k, .int .i64 m, .int .i64 n, .own 1 S.length]) rfl ⟨qad9 _, qad9 _, qad9 _, qax0 (e := 167) rfl (qakg _ _) (by simp), trivial⟩ ?_
 intro x hx
 simp only [List.mem_cons, List.not_mem_nil, or_false] at hx
 rcases hx with rfl | rfl | rfl | rfl
 ·exact qafe _ _
 ·exact qafe _ _
 ·exact qafe _ _
 ·exact qags _ _
theorem qakm {k m : Int} {S : XTab} : Lent (xobj k m (cnt S) S) (.ptr 0 0) (.cp (qaw8 k m S)) := qaho
def newF : Nat → Nat → Int → Nat
 | 0, n, _ => n
 | f + 1, n, M => if (n : Int) < M ∧ n < 1048576 then newF f (n * 2) M else n
def newN (m : Int) : Nat := newF 18 4 (IntKind.i64.wrap (2 * m))
theorem qawv : ∀ f n M, n ≤ newF f n M
 | 0, n, M => Nat.le_refl _
 | f + 1, n, M => by
  rw [newF]; split
  ·exact Nat.le_trans (by omega) (qawv f (n * 2) M)
  ·exact Nat.le_refl _
theorem qawu : ∀ f n M, newF f n M ≤ n * 2 ^ f
 | 0, n, M => by simp [newF]
 | f + 1, n, M => by
  rw [newF]; split
  ·have := qawu f (n * 2) M
   rw [Nat.pow_succ, Nat.mul_comm (2 ^ f) 2, ← Nat.mul_assoc]; exact this
  ·exact Nat.le_mul_of_pos_right _ (Nat.pow_pos (by omega))
theorem qaoq : ∀ f n M, n * 2 ^ f = 1048576 → M ≤ newF f n M ∨ newF f n M = 1048576
 | 0, n, M, h => .inr (by simpa [newF] using h)
 | f + 1, n, M, h => by
  rw [newF]; split
  ·exact qaoq f (n * 2) M (by rw [← h, Nat.pow_succ, Nat.mul_comm (2 ^ f) 2, ← Nat.mul_assoc])
  ·rename_i hc
   have : n ≤ n * 2 ^ (f + 1) := Nat.le_mul_of_pos_right _ (Nat.pow_pos (by omega))
   by_cases h1 : (n : Int) < M
   ·exact .inr (by have : ¬ n < 1048576 := fun h2 => hc ⟨h1, h2⟩; omega)
   ·exact .inl (by omega)
theorem qahj (m : Int) : 4 ≤ newN m ∧ newN m ≤ 1048576 := ⟨qawv _ _ _, qawu 18 4 _⟩
theorem qasq {m : Int} (h : m ≤ 1000) : m < newN m := by
 have h1 := qahj m
 by_cases h0 : m ≤ 0
 ·omega
 ·have hw : IntKind.i64.wrap (2 * m) = 2 * m := IntWalk.i64_in _ ⟨by omega, by omega⟩
  have := qaoq 18 4 (IntKind.i64.wrap (2 * m)) rfl
  unfold newN at *
  rw [hw] at *
  omega
theorem xlen_s (k m : Int) (S : XTab) (q : Nat) : SCalls Try.prog 34 [.cp (qaw8 k m S)] [] q (.int .i64 (cnt S)) [] := by
 refine qabt ?_ (fun _ => rfl) (fun _ => rfl) rfl q
 refine qabe (N := 7) Try.func34 rfl rfl (by kernel_rfl) qal5 (by simp) (by repeat' (first | exact trivial | refine And.intro ?_ ?_ | rfl | decide | exact PureR.ren _)) (by repeat' (first | exact trivial | refine And.intro ?_ ?_ | rfl | decide | exact PureR.ren _)) ?_
 rintro X hP hN hm
 unfold c_xlen qaw8
 repeat' (first | (with_reducible refine zA ?_) | ((with_reducible refine qaap ?_); (try rw [hP]); simp -implicitDefEqProofs [*]) | ((with_reducible refine qabd ?_); (try simp only [qaaz, qaad, qaag])) | (with_reducible refine zM hm ?_) | fail)
 all_goals rfl
theorem xlen_o (k m : Int) (S : XTab) (q : Nat) : SCalls Try.prog 34 [.ptr 0 0] (xobj k m (cnt S) S) q (.int .i64 (cnt S)) (xobj k m (cnt S) S) :=
 qaek (xlen_s k m S q) ⟨qakm, trivial⟩ (qag4 _ _)
theorem qakk (k m : Int) (S : XTab) (hS : 0 < S.length ∧ S.length ≤ 1048576) (hsm : qaer S) (xs : List Int) (hx : xs.length ≤ 1000000) (hf : ∃ e : Nat, S[e]? = some none) (q : Nat) : SCalls Try.prog 68 [.ptr 0 0, nums .u64 xs] (xobj k m (cnt S) S) q (.tup [.int .i64 (qacl S xs S.length (qadu S.length xs)).1, .bool (qacl S xs S.length (qadu S.length xs)).2]) (xobj k m (cnt S) S) :=
 qaek (place_s k m S hS hsm xs hx hf q) ⟨qakm, qad9 _, trivial⟩ (qas5 (by
  intro x hx
  simp only [List.mem_cons, List.not_mem_nil, or_false] at hx
  rcases hx with rfl | rfl
  ·exact qag4 _ _
  ·exact qape _))
theorem home_o (k m : Int) (n : Nat) (S : XTab) (hS : 0 < S.length ∧ S.length ≤ 1048576) (xs : List Int) (hx : xs.length ≤ 1000000) (q : Nat) : SCalls Try.prog 69 [.ptr 0 0, nums .u64 xs] (xobj k m n S) q (.int .i64 (qadu S.length xs)) (xobj k m n S) :=
 qaek (qawf k m n S hS xs hx q) ⟨qaho, qad9 _, trivial⟩ (qag4 _ _)
theorem qann (k m : Int) (N : Nat) : xobj k m 0 (List.replicate N none) = [(0, .cells 163 [.int .i64 k, .int .i64 m, .int .i64 (0 : Nat), .own 1 N]), (1, .row 167 4 ((List.replicate N none).map xsc))] := by
 unfold xobj
 rw [List.length_replicate]
theorem fin_xn {X : Cx} {s : SSt} {t : Nat} {h : Hp} {a b : SObj} (e : h = [(0, a), (1, b)]) (hw : Wk X s ⟨[(t, .ptr 0 0)], [(0, a), (1, b)], 2⟩) : QFun X [.tmp t] 0 (.ptr 0 0) h .ret s := by
 subst e
 exact ⟨_, hw, by simp [qagp, resL, resV, one_, gets], ⟨rfl, rfl, trivial⟩, by simp⟩
theorem xnew_s (k m : Int) : SCalls Try.prog 26 [.int .i64 k, .int .i64 m] [] 0 (.ptr 0 0) (xobj k m 0 (List.replicate (newN m) none)) := by
 obtain ⟨N, hN'⟩ : ∃ N, N = newN m := ⟨_, rfl⟩
 have hb := qahj m
 rw [← hN'] at hb ⊢
 unfold newN at hN'
 obtain ⟨M, hM⟩ : ∃ M, IntKind.i64.wrap (2 * m) = M := ⟨_, rfl⟩
 rw [hM] at hN'
 replace hN' := Lib.hid hN'
 replace hb := Lib.hid hb
 refine qabe (N := 22) Try.func26 rfl rfl (by kernel_rfl) qal4 (by simp) (by repeat' (first | exact trivial | refine And.intro ?_ ?_ | rfl | decide | exact PureR.ren _)) (by repeat' (first | exact trivial | refine And.intro ?_ ?_ | rfl | decide | exact PureR.ren _)) ?_
 rintro X hP hN hm
 unfold c_xnew
 repeat' (first | (with_reducible refine zA ?_) | ((with_reducible refine qaap ?_); (try rw [hP]); simp -implicitDefEqProofs [*]) | fail)
 refine qabk (qad4 (fun s (z : Nat × Nat) => s.turn [(5, .int .i64 z.1)] []) (fun z => z.1 * 2 ^ z.2 = 1048576 ∧ N = newF z.2 z.1 M) (fun z => z.2) (4, 18) ?_ ⟨rfl, hN'.out⟩ ?_)
 ·repeat' (first | ((with_reducible refine qab1 [] hm ?_ ?_ ?_ ?_) <;> (try simp only [zT, puth, Nat.reduceEqDiff, reduceIte, Nat.reduceAdd])) | (with_reducible refine za ?_ ?_) | (with_reducible first | exact qab6 | exact qacf) | ((with_reducible refine zgb ?_); rfl) | ((with_reducible refine zgd ?_); (first | omega | (simp; done))) | (exact Co.refl _) | fail)
 rintro J hJ ⟨n, f⟩ ⟨h1, h2⟩
 unfold qakw
 simp only [zT, puth, Nat.reduceEqDiff, reduceIte, Nat.reduceAdd] at h1 h2 ⊢
 have hn : n ≤ 1048576 := by
  have : n ≤ n * 2 ^ f := Nat.le_mul_of_pos_right _ (Nat.pow_pos (by omega))
  omega
 by_cases hc : (n : Int) < M ∧ n < 1048576
 ·obtain ⟨g, rfl⟩ : ∃ g, f = g + 1 := ⟨f - 1, by
   rcases f with _ | f
   ·simp at h1; omega
   ·rfl⟩
  rw [newF, if_pos hc] at h2
  have h3 : (n * 2) * 2 ^ g = 1048576 := by rw [← h1, Nat.pow_succ, Nat.mul_comm (2 ^ g) 2, ← Nat.mul_assoc]
  replace h1 := Lib.hid h1
  replace h2 := Lib.hid h2
  replace h3 := Lib.hid h3
  have wn : IntKind.i64.wrap ((n : Int) * 2) = (n : Int) * 2 := IntWalk.i64_in _ ⟨by omega, by omega⟩
  obtain ⟨c1, c2⟩ := hc
  have c3 : ((n : Int) < 1048576) = True := eq_true (by omega)
  clear c2
  replace hn := Lib.hid hn
  repeat' (first | (with_reducible first | refine zA ?_ | refine qant ?_) | ((with_reducible refine qaap ?_); (try rw [hP]); simp -implicitDefEqProofs [hM, wn, c1, c3, *]) | ((with_reducible refine qaa0 ?_); (try simp -implicitDefEqProofs [hM, wn, c1, c3, *])) | ((with_reducible refine qaat rfl (fun h => ?_) (fun h => ?_)) <;> have h' := h <;> (try simp at h') <;> (try subst h')) | (with_reducible refine za ?_ ?_) | (with_reducible first | exact qab6 | exact qacf) | ((with_reducible refine zgb ?_); rfl) | ((with_reducible first | refine zgd ?_ | refine zge ?_); (first | omega | (simp; done))) | (exact Co.refl _) | ((refine qacu hJ ((n * 2, g)) ?_ ?_ ?_; (with_reducible refine qab1 [] hm ?_ ?_ ?_ ?_) <;> (try simp only [zT, puth, Nat.reduceEqDiff, reduceIte, Nat.reduceAdd]))) | fail)
  exact ⟨h3.out, h2.out⟩
 ·have h3 : N = n := by
   rcases f with _ | f
   ·exact h2
   ·rw [newF, if_neg hc] at h2; exact h2
  clear h2
  subst h3
  replace h1 := Lib.hid h1
  by_cases c1 : (N : Int) < M
  ·have c3 : ((N : Int) < 1048576) = False := eq_false (by intro h; exact hc ⟨c1, by omega⟩)
   clear hc
   repeat' (first | (with_reducible refine zA ?_) | ((with_reducible refine qaap ?_); (try rw [hP]); simp -implicitDefEqProofs [hM, c1, c3, *]) | ((with_reducible refine qaby ?_); (try simp -implicitDefEqProofs [hM, c1, c3, *])) | ((with_reducible refine qabd ?_); (try simp only [qaaz, qaad, qaag])) | ((with_reducible refine qaat rfl (fun h => ?_) (fun h => ?_)) <;> have h' := h <;> (try simp at h') <;> (try subst h')) | ((with_reducible refine qaei ?_ ?_); (first | omega | (unfold maxLen; omega)); simp -implicitDefEqProofs [hM, c1, c3, *]) | fail)
   exact fin_xn (qann k m N) (qab1 [(0, 15), (1, 13)] hm ⟨Co.refl _, trivial⟩ ⟨⟨_, rfl, rfl, CoL.refl _⟩, ⟨_, rfl, rfl, rfl, by rw [qac4, List.map_replicate]; exact CoLL.refl _⟩, trivial⟩ rfl (Nat.zero_le _))
  ·clear hc
   have c3 : ((N : Int) < M) = False := eq_false c1
   clear c1
   repeat' (first | (with_reducible refine zA ?_) | ((with_reducible refine qaap ?_); (try rw [hP]); simp -implicitDefEqProofs [hM, c3, *]) | ((with_reducible refine qaby ?_); (try simp -implicitDefEqProofs [hM, c3, *])) | ((with_reducible refine qabd ?_); (try simp only [qaaz, qaad, qaag])) | ((with_reducible refine qaat rfl (fun h => ?_) (fun h => ?_)) <;> have h' := h <;> (try simp at h') <;> (try subst h')) | ((with_reducible refine qaei ?_ ?_); (first | omega | (unfold maxLen; omega)); simp -implicitDefEqProofs [hM, c3, *]) | fail)
   exact fin_xn (qann k m N) (qab1 [(0, 13), (1, 11)] hm ⟨Co.refl _, trivial⟩ ⟨⟨_, rfl, rfl, CoL.refl _⟩, ⟨_, rfl, rfl, rfl, by rw [qac4, List.map_replicate]; exact CoLL.refl _⟩, trivial⟩ rfl (Nat.zero_le _))
end Go.Proofs.Yticeaegpkpjjeaa
namespace Go.Proofs.Yticeaegpkpjjeaa
set_option linter.all false
open Go.RowKit
attribute [local simp] qaam qaal qaab qaaf qaac qaae qaaj qaak qaaa qaax SOp.run SX.ev putd puts argS upds SOp.touch SSt.keep SSt.skip gets geth puth delh idOf SV.cells? setL qabu qabv sbin eq0 eq1 eqL qabs qaa9 qaba qaaz qaai qaad qaan qaay qaag qaah FrzOk qaa4 qaav qaa2 qaa3 qaaq qaau qaa7 qaaw qaas qaa5 qaar frzS frzH frz frz1 frz0 SlotsM ObjsM ObjM rn ren ren1 ren0 qabj qabq qabx qabi qaa8 qabr qabw CoL qaa6 qace dels adds idsH qab7
theorem qad8 {S : XTab} {xs : List Int} : ∀ (f i : Nat), i < S.length → (qacl S xs f i).1 < S.length
 | 0, i, h => h
 | f + 1, i, h => by
  rw [qacl]
  split
  ·split
   ·exact h
   ·exact qad8 f _ (qadk h (by omega))
  ·exact h
theorem qawe (o : Option XSlot) : (xsc o).length = 4 := by cases o <;> rfl
theorem qanz {l : List SV} (h : l.length = 4) (a b c d : SV) : (((l.set 0 a).set 1 b).set 2 c).set 3 d = [a, b, c, d] := by
 match l, h with
 | [_, _, _, _], _ => rfl
theorem fin_xi {X : Cx} {s : SSt} {t : Nat} {n : Int} {h : Hp} {a b : SObj} (e : h = [(0, a), (1, b)]) (hw : Wk X s ⟨[(t, .int .i64 n)], [(0, a), (1, b)], 2⟩) : QFun X [.tmp t] 2 (.int .i64 n) h .ret s := by
 subst e
 exact ⟨_, hw, by simp [qagp, resL, resV, one_, gets], ⟨rfl, rfl, trivial⟩, by simp⟩
theorem qac2 {X : Cx} {sl : Sl} {hp : Hp} {nx t : Nat} {V W : Int} {h : Hp} {k m : Int} {c N : Nat} {S : XTab} {cs : List SV} {es : List (List SV)} (hm : X.m = 2) (hV : V = W) (hh : h = xobj k m c S) (ht : gets sl t = .int .i64 W) (h0 : geth hp 0 = some (.cells 163 cs)) (hcs : cs = [.int .i64 k, .int .i64 m, .int .i64 c, .own 1 N]) (hN : N = S.length) (h1 : geth hp 1 = some (.row 167 4 es)) (he : es = S.map xsc) : QFun X [.tmp t] 2 (.int .i64 V) h .ret ⟨sl, hp, nx⟩ := by
 subst hV hcs he
 subst hN
 exact fin_xi hh (qab1 [] hm ⟨by show Co (gets sl t) _; rw [ht]; exact Co.refl _, trivial⟩ ⟨⟨_, h0, rfl, CoL.refl _⟩, ⟨_, h1, rfl, rfl, by rw [qac4]; exact CoLL.refl _⟩, trivial⟩ rfl (Nat.le_refl 2))
def qab4 (S : XTab) (xs : List Int) : Nat × Bool := qacl S xs S.length (qadu S.length xs)
def qaj9 (k m : Int) (S : XTab) (xs : List Int) : Int := if (xs.length : Int) ≠ k then 2 else if (qab4 S xs).2 = true then 7 else if m ≤ cnt S ∨ (S.length : Int) - 1 ≤ cnt S then 10 else 0
def addX (k m : Int) (S : XTab) (s : XSlot) : XTab := if qaj9 k m S s.keys = 0 then S.set (qab4 S s.keys).1 (some s) else S
theorem xadd_s (k m : Int) (S : XTab) (hS : 0 < S.length ∧ S.length ≤ 1048576) (hsm : qaer S) (a : Int) (xs ys : List Int) (hx : xs.length ≤ 1000000) (hy : ys.length ≤ 1000000) (hf : ∃ e : Nat, S[e]? = some none) (hc : qaj9 k m S xs = 0 → cnt (S.set (qab4 S xs).1 (some ⟨xs, a, ys⟩)) = cnt S + 1) : SCalls Try.prog 28 [.ptr 0 0, nums .u64 xs, .agg (hitc a ys)] (xobj k m (cnt S) S) 2 (.int .i64 (qaj9 k m S xs)) (xobj k m (cnt (addX k m S ⟨xs, a, ys⟩)) (addX k m S ⟨xs, a, ys⟩)) := by
 have k1 := fun q => qakk k m S hS hsm xs hx hf q
 have k2 := fun q => xnums xs hx q
 have k3 := fun q => qaw9 a ys hy q
 have hcl : cnt S ≤ S.length := List.countP_le_length
 have hv : qaj9 k m S xs = if (xs.length : Int) ≠ k then 2 else if (qab4 S xs).2 = true then 7 else if m ≤ cnt S ∨ (S.length : Int) - 1 ≤ cnt S then 10 else 0 := rfl
 have hr : addX k m S ⟨xs, a, ys⟩ = if qaj9 k m S xs = 0 then S.set (qab4 S xs).1 (some ⟨xs, a, ys⟩) else S := rfl
 have hR : (qab4 S xs).1 < S.length := qad8 _ _ (Nat.mod_lt _ hS.1)
 rw [show qacl S xs S.length (qadu S.length xs) = qab4 S xs from rfl] at k1
 generalize qaj9 k m S xs = V at hv hr hc ⊢
 generalize addX k m S ⟨xs, a, ys⟩ = S' at hr ⊢
 obtain ⟨R, b, hp⟩ : ∃ R b, qab4 S xs = (R, b) := ⟨_, _, rfl⟩
 rw [hp] at k1 hv hr hR hc
 simp only at k1 hv hr hR hc
 generalize hn : cnt S = n at *
 replace hv := Lib.hid hv
 replace hr := Lib.hid hr
 replace hc := Lib.hid hc
 replace hp := Lib.hid hp
 replace hn := Lib.hid hn
 replace hf := Lib.hid hf
 replace hsm := Lib.hid hsm
 unfold nums at k1 k2
 unfold hitc nums at k3
 obtain ⟨H2, hH2⟩ : ∃ H, H = xobj k m (cnt S') S' := ⟨_, rfl⟩
 rw [← hH2]
 replace hH2 := Lib.hid hH2
 unfold xobj at k1 ⊢
 refine qabe (N := 65) Try.func28 rfl rfl (by kernel_rfl) qal9 (by simp) (by repeat' (first | exact trivial | refine And.intro ?_ ?_ | rfl | decide | exact PureR.ren _)) (by repeat' (first | exact trivial | refine And.intro ?_ ?_ | rfl | decide | exact PureR.ren _)) ?_
 rintro X hP hN hm
 unfold c_xadd hitc nums
 by_cases h1 : (xs.length : Int) = k
 ·subst h1
  have w1 : IntKind.i64.wrap ((S.length : Int) - 1) = (S.length : Int) - 1 := IntWalk.i64_in _ ⟨by omega, by omega⟩
  have w2 : IntKind.i64.wrap ((n : Int) + 1) = (n : Int) + 1 := qabo (by omega) (by omega)
  cases b with
  | true =>
   repeat' (first | (with_reducible first | refine zA ?_ | refine qabb ?_) | ((with_reducible refine qaap ?_); (try rw [hP]); simp -implicitDefEqProofs [w1, w2, *]) | ((with_reducible refine qaa0 ?_); (try simp -implicitDefEqProofs [w1, w2, *])) | ((with_reducible refine qabd ?_); (try simp only [qaaz, qaad, qaag])) | ((with_reducible refine qaat rfl (fun h => ?_) (fun h => ?_)) <;> have h' := h <;> (try simp at h') <;> (try subst h')) | ((refine qacx (k1 _) ⟨rfl, rfl, trivial⟩ ⟨rfl, rfl, trivial⟩ ?_); simp -implicitDefEqProofs [w1, w2, *]) | fail)
   have hV : V = 7 := by rw [hv.out, if_neg (by simp), if_pos rfl]
   have hS' : S' = S := by rw [hr.out, if_neg (by rw [hV]; decide)]
   subst hS'
   exact qac2 hm hV hH2.out rfl rfl (by rw [hn.out]) rfl rfl rfl
  | false =>
   repeat' (first | (with_reducible first | refine zA ?_ | refine qabb ?_ | refine zK ?_) | ((with_reducible first | refine qaap ?_ | refine qabl (by rw [hP]; exact mixed) ?_); (try rw [hP]); simp -implicitDefEqProofs [w1, w2, *]) | ((with_reducible refine qaa0 ?_); (try simp -implicitDefEqProofs [w1, w2, *])) | ((with_reducible refine qabd ?_); (try simp only [qaaz, qaad, qaag])) | ((with_reducible refine qaat rfl (fun h => ?_) (fun h => ?_)) <;> have h' := h <;> (try simp at h') <;> (try subst h')) | ((with_reducible refine qaci (fun h => ?_) (fun h => ?_)) <;> have h' := h <;> (try simp at h') <;> (try subst h') <;> simp -implicitDefEqProofs [w1, w2, *]) | ((first | refine qacx (k1 _) ⟨rfl, rfl, trivial⟩ ⟨rfl, rfl, trivial⟩ ?_ | refine qab5 (k2 _) ?_ | refine qab5 (k3 _) ?_); simp -implicitDefEqProofs [w1, w2, *]) | fail)
   iterate 2
    ·have hV : V = 10 := by rw [hv.out, if_neg (by simp), if_neg (by simp), if_pos (by omega)]
     have hS' : S' = S := by rw [hr.out, if_neg (by rw [hV]; decide)]
     subst hS'
     exact qac2 hm hV hH2.out rfl rfl (by rw [hn.out]) rfl rfl rfl
   ·have hV : V = 0 := by rw [hv.out, if_neg (by simp), if_neg (by simp), if_neg (by omega)]
    have hS' : S' = S.set R (some ⟨xs, a, ys⟩) := by rw [hr.out, if_pos hV]
    have hc' := hc.out hV
    rw [← hS'] at hc'
    refine qac2 hm hV hH2.out rfl rfl (by rw [hc']; rfl) (by rw [hS', List.length_set]) rfl (by rw [hS', List.map_set, qanz (qawe _)]; rfl)
 ·repeat' (first | (with_reducible refine zA ?_) | ((with_reducible refine qaap ?_); (try rw [hP]); simp -implicitDefEqProofs [h1, *]) | ((with_reducible refine qaa0 ?_); (try simp -implicitDefEqProofs [h1, *])) | ((with_reducible refine qabd ?_); (try simp only [qaaz, qaad, qaag])) | ((with_reducible refine qaat rfl (fun h => ?_) (fun h => ?_)) <;> have h' := h <;> (try simp at h') <;> (try subst h')) | fail)
  ·have hV : V = 2 := by rw [hv.out, if_pos h1]
   have hS' : S' = S := by rw [hr.out, if_neg (by rw [hV]; decide)]
   subst hS'
   exact qac2 hm hV hH2.out rfl rfl (by rw [hn.out]) rfl rfl rfl
  ·exact absurd rfl h1
end Go.Proofs.Yticeaegpkpjjeaa
namespace Go.Proofs.Yticeaegpkpjjeaa
set_option linter.all false
open Go.RowKit
attribute [local simp] qaam qaal qaab qaaf qaac qaae qaaj qaak qaaa qaax SOp.run SX.ev putd puts argS upds SOp.touch SSt.keep SSt.skip gets geth puth delh idOf SV.cells? setL qabu qabv sbin eq0 eq1 eqL qabs qaa9 qaba qaaz qaai qaad qaan qaay qaag qaah FrzOk qaa4 qaav qaa2 qaa3 qaaq qaau qaa7 qaaw qaas qaa5 qaar frzS frzH frz frz1 frz0 SlotsM ObjsM ObjM rn ren ren1 ren0 qabj qabq qabx qabi qaa8 qabr qabw CoL qaa6 qace dels adds idsH qab7
theorem qacs {S : XTab} {xs : List Int} : ∀ (f i : Nat), (qacl S xs f i).2 = true → ∃ s : XSlot, S[(qacl S xs f i).1]? = some (some s) ∧ s.keys = xs
 | 0, i, h => by cases h
 | f + 1, i, h => by
  cases hs : S[i]? with
  | none => rw [qacl, hs] at h; cases h
  | some o =>
   cases o with
   | none => rw [qacl, hs] at h; cases h
   | some s =>
    by_cases e : s.keys = xs
    ·rw [qacl, hs]; simp only [if_pos e]; exact ⟨s, hs, e⟩
    ·rw [qacl, hs] at h ⊢
     simp only [if_neg e] at h ⊢
     exact qacs f _ h
def qaf4 (k : Int) (S : XTab) (xs : List Int) : Int := if (xs.length : Int) ≠ k then 2 else if (qab4 S xs).2 = true then 0 else 9
def chgX (k : Int) (S : XTab) (s : XSlot) : XTab := if qaf4 k S s.keys = 0 then S.set (qab4 S s.keys).1 (some s) else S
theorem xchg_s (k m : Int) (S : XTab) (hS : 0 < S.length ∧ S.length ≤ 1048576) (hsm : qaer S) (a : Int) (xs ys : List Int) (hx : xs.length ≤ 1000000) (hy : ys.length ≤ 1000000) (hf : ∃ e : Nat, S[e]? = some none) : SCalls Try.prog 37 [.ptr 0 0, nums .u64 xs, .agg (hitc a ys)] (xobj k m (cnt S) S) 2 (.int .i64 (qaf4 k S xs)) (xobj k m (cnt (chgX k S ⟨xs, a, ys⟩)) (chgX k S ⟨xs, a, ys⟩)) := by
 have k1 := fun q => qakk k m S hS hsm xs hx hf q
 have k3 := fun q => qaw9 a ys hy q
 have hv : qaf4 k S xs = if (xs.length : Int) ≠ k then 2 else if (qab4 S xs).2 = true then 0 else 9 := rfl
 have hr : chgX k S ⟨xs, a, ys⟩ = if qaf4 k S xs = 0 then S.set (qab4 S xs).1 (some ⟨xs, a, ys⟩) else S := rfl
 have hR : (qab4 S xs).1 < S.length := qad8 _ _ (Nat.mod_lt _ hS.1)
 have hT : (qab4 S xs).2 = true → ∃ s : XSlot, S[(qab4 S xs).1]? = some (some s) ∧ s.keys = xs := qacs _ _
 rw [show qacl S xs S.length (qadu S.length xs) = qab4 S xs from rfl] at k1
 generalize qaf4 k S xs = V at hv hr ⊢
 generalize chgX k S ⟨xs, a, ys⟩ = S' at hr ⊢
 obtain ⟨R, b, hp⟩ : ∃ R b, qab4 S xs = (R, b) := ⟨_, _, rfl⟩
 rw [hp] at k1 hv hr hR hT
 simp only at k1 hv hr hR hT
 obtain ⟨n, hn⟩ : ∃ n, n = cnt S := ⟨_, rfl⟩
 rw [← hn] at k1 ⊢
 replace hv := Lib.hid hv
 replace hr := Lib.hid hr
 replace hp := Lib.hid hp
 replace hn := Lib.hid hn
 replace hf := Lib.hid hf
 replace hsm := Lib.hid hsm
 unfold nums at k1
 unfold hitc nums at k3
 obtain ⟨H2, hH2⟩ : ∃ H, H = xobj k m (cnt S') S' := ⟨_, rfl⟩
 rw [← hH2]
 replace hH2 := Lib.hid hH2
 unfold xobj at k1 ⊢
 refine qabe (N := 33) Try.func37 rfl rfl (by kernel_rfl) qal6 (by simp) (by repeat' (first | exact trivial | refine And.intro ?_ ?_ | rfl | decide | exact PureR.ren _)) (by repeat' (first | exact trivial | refine And.intro ?_ ?_ | rfl | decide | exact PureR.ren _)) ?_
 rintro X hP hN hm
 unfold c_xchg hitc nums
 by_cases h1 : (xs.length : Int) = k
 ·subst h1
  cases b with
  | true =>
   obtain ⟨s, hs, hk⟩ := hT rfl
   clear hT
   replace hs := Lib.hid hs
   replace hk := Lib.hid hk
   repeat' (first | (with_reducible first | refine zA ?_ | refine zK ?_) | ((with_reducible first | refine qaap ?_ | refine qabl (by rw [hP]; exact mixed) ?_); (try rw [hP]); simp -implicitDefEqProofs [*]) | ((with_reducible refine qaa0 ?_); (try simp -implicitDefEqProofs [*])) | ((with_reducible refine qabd ?_); (try simp only [qaaz, qaad, qaag])) | ((with_reducible refine qaat rfl (fun h => ?_) (fun h => ?_)) <;> have h' := h <;> (try simp at h') <;> (try subst h')) | ((first | refine qacx (k1 _) ⟨rfl, rfl, trivial⟩ ⟨rfl, rfl, trivial⟩ ?_ | refine qab5 (k3 _) ?_); simp -implicitDefEqProofs [*]) | fail)
   have hV : V = 0 := by rw [hv.out, if_neg (by simp), if_pos rfl]
   have hS' : S' = S.set R (some ⟨xs, a, ys⟩) := by rw [hr.out, if_pos hV]
   have hs2 : S[R] = some s := by
    have := hs.out
    rw [List.getElem?_eq_getElem hR] at this; exact Option.some.inj this
   have hc : cnt S' = n := by
    have := qaeu S R (some ⟨xs, a, ys⟩) hR
    rw [hs2] at this
    rw [hS', hn.out]
    simpa using this
   refine qac2 hm hV hH2.out rfl rfl (by rw [hc]) (by rw [hS', List.length_set]) rfl (by rw [hS', List.map_set, hs2, qacc, qacc]; show _ = (S.map xsc).set R [_, nums .u64 xs, _, _]; rw [← hk.out]; rfl)
  | false =>
   clear hT
   repeat' (first | (with_reducible refine zA ?_) | ((with_reducible refine qaap ?_); (try rw [hP]); simp -implicitDefEqProofs [*]) | ((with_reducible refine qaa0 ?_); (try simp -implicitDefEqProofs [*])) | ((with_reducible refine qabd ?_); (try simp only [qaaz, qaad, qaag])) | ((with_reducible refine qaat rfl (fun h => ?_) (fun h => ?_)) <;> have h' := h <;> (try simp at h') <;> (try subst h')) | ((refine qacx (k1 _) ⟨rfl, rfl, trivial⟩ ⟨rfl, rfl, trivial⟩ ?_); simp -implicitDefEqProofs [*]) | fail)
   have hV : V = 9 := by rw [hv.out, if_neg (by simp), if_neg (by simp)]
   have hS' : S' = S := by rw [hr.out, if_neg (by rw [hV]; decide)]
   subst hS'
   exact qac2 hm hV hH2.out rfl rfl (by rw [hn.out]) rfl rfl rfl
 ·clear hT
  repeat' (first | (with_reducible refine zA ?_) | ((with_reducible refine qaap ?_); (try rw [hP]); simp -implicitDefEqProofs [h1, *]) | ((with_reducible refine qaa0 ?_); (try simp -implicitDefEqProofs [h1, *])) | ((with_reducible refine qabd ?_); (try simp only [qaaz, qaad, qaag])) | ((with_reducible refine qaat rfl (fun h => ?_) (fun h => ?_)) <;> have h' := h <;> (try simp at h') <;> (try subst h')) | fail)
  ·have hV : V = 2 := by rw [hv.out, if_pos h1]
   have hS' : S' = S := by rw [hr.out, if_neg (by rw [hV]; decide)]
   subst hS'
   exact qac2 hm hV hH2.out rfl rfl (by rw [hn.out]) rfl rfl rfl
  ·exact absurd rfl h1
def qadv (k : Int) (S : XTab) (xs : List Int) : Option XSlot := if (xs.length : Int) ≠ k then none else if (qab4 S xs).2 = true then S[(qab4 S xs).1]?.getD none else none
def qajp (o : Option XSlot) : SV := match o with
 | some s => .tup [.agg (hitc s.act s.args), .bool true]
 | none => .tup [.agg (hitc 0 []), .bool false]
theorem qagh {X : Cx} {sl : Sl} {hp : Hp} {t u nx id n : Nat} {h : Hp} {k m : Int} {c : Nat} {S : XTab} {ty : TypeId} {cs ds : List SV} {v r : SV} (hm : X.m = 2) (hid : 2 ≤ id) (hne : t ≠ u) (hv : gets sl t = v) (hN : NoN v) (hu : gets sl u = .ptr id 0) (hc : geth hp id = some (.cells ty cs)) (hh : h = xobj k m c S) (h0 : geth hp 0 = some (.cells 163 [.int .i64 k, .int .i64 m, .int .i64 c, .own 1 S.length])) (h1 : geth hp 1 = some (.row 167 4 (S.map xsc))) (ha : qafs X.P ty = some true) (hn : qab3 X.P ty = some n) (hl : ds.length = n) (e : CoL cs ds) (hr : r = .tup [.agg ds, v]) (hd : ∀ σ, ds.map (Go.Proofs.Yticeaegpkpjjeaa.ren σ) = ds) : QFun X [.cell u ty, .tmp t] 2 r h .ret ⟨sl, hp, nx⟩ := by
 subst hr hl hh
 have hw : Wk X ⟨sl, hp, nx⟩ ⟨[(u, .ptr 2 0), (t, v)], [(0, .cells 163 [.int .i64 k, .int .i64 m, .int .i64 c, .own 1 S.length]), (1, .row 167 4 (S.map xsc)), (2, .cells ty ds)], 3⟩ := by
  refine qab1 [(2, id)] hm ⟨?_, ?_, trivial⟩ ⟨⟨_, h0, rfl, CoL.refl _⟩, ⟨_, h1, rfl, rfl, by rw [qac4]; exact CoLL.refl _⟩, ⟨_, hc, rfl, by rw [hd]; exact e⟩, trivial⟩ ?_ (by simp)
  ·rw [hu]; exact Co.refl _
  ·rw [hv, hN]; exact Co.refl _
  ·have a1 : ¬ (0 = id) := by omega
   have a2 : ¬ (1 = id) := by omega
   have a3 : ¬ (id = 0) := by omega
   have a4 : ¬ (id = 1) := by omega
   simp [qab7, diag, idsH, List.range_succ, a1, a2, a3, a4]
 refine ⟨_, hw, ?_, ⟨rfl, rfl, trivial⟩, by simp⟩
 simp [qagp, resL, resV, one_, gets, ha, SOp.run, SX.ev, geth, hne, hne.symm, hn]
theorem xfind_s (k m : Int) (S : XTab) (hS : 0 < S.length ∧ S.length ≤ 1048576) (hsm : qaer S) (xs : List Int) (hx : xs.length ≤ 1000000) (hf : ∃ e : Nat, S[e]? = some none) : SCalls Try.prog 31 [.ptr 0 0, nums .u64 xs] (xobj k m (cnt S) S) 2 (qajp (qadv k S xs)) (xobj k m (cnt S) S) := by
 have k1 := fun q => qakk k m S hS hsm xs hx hf q
 have hv : qadv k S xs = if (xs.length : Int) ≠ k then none else if (qab4 S xs).2 = true then S[(qab4 S xs).1]?.getD none else none := rfl
 have hR : (qab4 S xs).1 < S.length := qad8 _ _ (Nat.mod_lt _ hS.1)
 have hT : (qab4 S xs).2 = true → ∃ s : XSlot, S[(qab4 S xs).1]? = some (some s) ∧ s.keys = xs := qacs _ _
 rw [show qacl S xs S.length (qadu S.length xs) = qab4 S xs from rfl] at k1
 generalize qadv k S xs = V at hv ⊢
 obtain ⟨R, b, hp⟩ : ∃ R b, qab4 S xs = (R, b) := ⟨_, _, rfl⟩
 rw [hp] at k1 hv hR hT
 simp only at k1 hv hR hT
 obtain ⟨n, hn⟩ : ∃ n, n = cnt S := ⟨_, rfl⟩
 rw [← hn] at k1 ⊢
 obtain ⟨H2, hH2⟩ : ∃ H, H = xobj k m n S := ⟨_, rfl⟩
 obtain ⟨W, hW⟩ : ∃ W, W = qajp V := ⟨_, rfl⟩
 rw [← hW]
 suffices h : SCalls Try.prog 31 [.ptr 0 0, nums .u64 xs] (xobj k m n S) 2 W H2 by rw [← hH2]; rw [← hH2] at h; exact h
 replace hW := Lib.hid hW
 replace hH2 := Lib.hid hH2
 replace hv := Lib.hid hv
 replace hp := Lib.hid hp
 replace hn := Lib.hid hn
 replace hf := Lib.hid hf
 have hsm' := hsm
 replace hsm := Lib.hid hsm
 unfold nums at k1
 unfold xobj at k1 ⊢
 refine qabe (N := 34) Try.func31 rfl rfl (by kernel_rfl) qajt (by simp) (by repeat' (first | exact trivial | refine And.intro ?_ ?_ | rfl | decide | exact PureR.ren _)) (by repeat' (first | exact trivial | refine And.intro ?_ ?_ | rfl | decide | exact PureR.ren _)) ?_
 rintro X hP hN hm
 unfold c_xfind nums
 by_cases h1 : (xs.length : Int) = k
 ·subst h1
  cases b with
  | true =>
   obtain ⟨s, hs, hk⟩ := hT rfl
   have k3 := fun q => qaw9 s.act s.args (hsm' R s hs).2 q
   unfold hitc nums at k3
   clear hT hsm'
   have hs2 : S[R] = some s := by
    rw [List.getElem?_eq_getElem hR] at hs; exact Option.some.inj hs
   replace hs := Lib.hid hs
   replace hk := Lib.hid hk
   repeat' (first | (with_reducible refine zA ?_) | ((with_reducible refine qaap ?_); (try rw [hP]); simp -implicitDefEqProofs [hs2, qacc, nums, *]) | ((with_reducible refine qaa0 ?_); (try simp -implicitDefEqProofs [hs2, qacc, nums, *])) | ((with_reducible refine qabd ?_); (try simp only [qaaz, qaad, qaag])) | ((with_reducible refine qaat rfl (fun h => ?_) (fun h => ?_)) <;> have h' := h <;> (try simp at h') <;> (try subst h')) | ((first | refine qacx (k1 _) ⟨rfl, rfl, trivial⟩ ⟨rfl, rfl, trivial⟩ ?_ | refine qab5 (k3 _) ?_); simp -implicitDefEqProofs [hs2, qacc, nums, *]) | fail)
   have hV : V = some s := by rw [hv.out, if_neg (by simp), if_pos rfl, hs.out]; rfl
   exact qagh (ds := hitc s.act s.args) hm (Nat.le_refl 2) (by decide) rfl (fun σ => rfl) rfl rfl hH2.out rfl rfl (by rw [hP]; with_reducible exact qagi) (by rw [hP]; exact qaew) rfl (CoL.refl _) (by rw [hW.out, hV]; rfl) (fun σ => rfl)
  | false =>
   clear hT hsm'
   repeat' (first | (with_reducible refine zA ?_) | ((with_reducible refine qaap ?_); (try rw [hP]); simp -implicitDefEqProofs [*]) | ((with_reducible refine qaa0 ?_); (try simp -implicitDefEqProofs [*])) | ((with_reducible refine qabd ?_); (try simp only [qaaz, qaad, qaag])) | ((with_reducible refine qaat rfl (fun h => ?_) (fun h => ?_)) <;> have h' := h <;> (try simp at h') <;> (try subst h')) | (refine qacx (k1 _) ⟨rfl, rfl, trivial⟩ ⟨rfl, rfl, trivial⟩ ?_; simp -implicitDefEqProofs [*]) | fail)
   have hV : V = none := by rw [hv.out, if_neg (by simp), if_neg (by simp)]
   exact qagh (ds := hitc 0 []) hm (Nat.le_refl 2) (by decide) rfl (fun σ => rfl) rfl rfl hH2.out rfl rfl (by rw [hP]; with_reducible exact qagi) (by rw [hP]; exact qaew) rfl ⟨Co.refl _, Co.nilsl _, trivial⟩ (by rw [hW.out, hV]; rfl) (fun σ => rfl)
 ·clear hT hsm'
  repeat' (first | (with_reducible refine zA ?_) | ((with_reducible refine qaap ?_); (try rw [hP]); simp -implicitDefEqProofs [h1, *]) | ((with_reducible refine qaa0 ?_); (try simp -implicitDefEqProofs [h1, *])) | ((with_reducible refine qabd ?_); (try simp only [qaaz, qaad, qaag])) | ((with_reducible refine qaat rfl (fun h => ?_) (fun h => ?_)) <;> have h' := h <;> (try simp at h') <;> (try subst h')) | fail)
  ·have hV : V = none := by rw [hv.out, if_pos h1]
   exact qagh (ds := hitc 0 []) hm (Nat.le_refl 2) (by decide) rfl (fun σ => rfl) rfl rfl hH2.out rfl rfl (by rw [hP]; with_reducible exact qagi) (by rw [hP]; exact qaew) rfl ⟨Co.refl _, Co.nilsl _, trivial⟩ (by rw [hW.out, hV]; rfl) (fun σ => rfl)
  ·exact absurd rfl h1
end Go.Proofs.Yticeaegpkpjjeaa
namespace Go.Proofs.Yticeaegpkpjjeaa
set_option linter.all false
open Go.RowKit
attribute [local simp] qaam qaal qaab qaaf qaac qaae qaaj qaak qaaa qaax SOp.run SX.ev putd puts argS upds SOp.touch SSt.keep SSt.skip gets geth puth delh idOf SV.cells? setL qabu qabv sbin eq0 eq1 eqL qabs qaa9 qaba qaaz qaai qaad qaan qaay qaag qaah FrzOk qaa4 qaav qaa2 qaa3 qaaq qaau qaa7 qaaw qaas qaa5 qaar frzS frzH frz frz1 frz0 SlotsM ObjsM ObjM rn ren ren1 ren0 qabj qabq qabx qabi qaa8 qabr qabw CoL qaa6 qace dels adds idsH qab7
theorem qakc {N a b : Nat} (ha : a < N) (hb : b < N) : Int.tmod ((b : Int) - a + N) N = (dist N a b : Nat) := by
 rw [Int.tmod_eq_emod_of_nonneg (by omega)]
 unfold dist
 split
 ·rw [show (b : Int) - a + N = ((b - a : Nat) : Int) + N * 1 by omega, Int.add_mul_emod_self_left, Int.emod_eq_of_lt (by omega) (by omega)]
 ·rw [Int.emod_eq_of_lt (by omega) (by omega)]; omega
theorem qasc {N a : Nat} (ha : a < N) : Int.tmod ((a : Int) + 1) N = (addm N a 1 : Nat) := by
 rw [Int.tmod_eq_emod_of_nonneg (by omega), ← qar7 ha (by omega)]; rfl
theorem qas2 {N a i g : Nat} (ha : a < N) (hi : i < N) (hne : a ≠ i) (h : dist N a i < g + 1) : dist N (addm N a 1) i < g := by
 unfold dist addm at *
 (repeat' split at h) <;> (repeat' split) <;> omega
theorem qaw0 {hm : List Int → Nat} {S : XTab} (h : qar9 hm S) {R : Nat} {s : XSlot} (hR : S[R]? = some (some s)) : HInv hm S R := by
 have hl := qab8 hR
 refine ⟨h.lt, fun j t _ ht d hd => ?_, fun j k t u _ _ ht hu he => h.uniq j k t u (by have := qab8 ht; omega) (by have := qab8 hu; omega) ht hu he, ?_⟩
 ·rcases h.path j t (by have := qab8 ht; omega) ht d hd with e | e
  ·have := qadk (h.lt t.keys) (show d ≤ S.length by have := qab8 ht; have := h.lt t.keys; unfold dist at hd; split at hd <;> omega)
   omega
  ·exact .inr e
 ·obtain ⟨e, -, he⟩ := h.free
  exact ⟨e, fun e1 => (by rw [e1, hR] at he; cases he), he⟩
theorem qan2 {hm : List Int → Nat} {S : XTab} {i f k : Nat} (h : S[addm S.length k 1]? = some none) : qai2 hm S i (f + 1) k = none := by rw [qai2, h]
theorem qan1 {hm : List Int → Nat} {S : XTab} {i f k : Nat} {s : XSlot} (h : S[addm S.length k 1]? = some (some s)) : qai2 hm S i (f + 1) k = if dist S.length i (addm S.length k 1) ≤ dist S.length (hm s.keys) (addm S.length k 1) then some (addm S.length k 1) else qai2 hm S i f (addm S.length k 1) := by rw [qai2, h]
theorem qas0 {hm : List Int → Nat} {f : Nat} {S : XTab} {i : Nat} (h : HInv hm S i) (hi : i < S.length) (hfr : ∃ e : Nat, e ≠ i ∧ S[e]? = some none ∧ dist S.length i e ≤ f + 1) {k : Nat} (hk : qai2 hm (S.set i none) i S.length i = some k) : ∃ s, S[k]? = some (some s) ∧ k ≠ i ∧ HInv hm ((S.set i none).set i (some s)) k ∧ ∃ e : Nat, e ≠ k ∧ ((S.set i none).set i (some s))[e]? = some none ∧ dist S.length k e ≤ f := by
 obtain ⟨e0, he0, h10, h20⟩ := hfr
 have hS := qaox h none
 have hl : (S.set i none).length = S.length := List.length_set ..
 have hi' : i < (S.set i none).length := by rw [hl]; exact hi
 obtain ⟨e, he, h1, h4⟩ := qaww hi' hS.free
 have g1 : ∀ j, j ≠ i → (S.set i none)[j]? = S[j]? := fun j hj => by rw [qab2 hi, if_neg hj]
 have d0 : dist (S.set i none).length i i = 0 := by unfold dist; simp
 have hel := qab8 h1
 have hpos : 0 < dist (S.set i none).length i e := by unfold dist; split <;> omega
 have hlt := qaeb hi' hel
 rcases qagm hS hi' he h1 h4 S.length i hi' (by omega) (by omega) (fun d h5 h6 => by omega) with ⟨k2, s, q1, q2, q3, q4, q5⟩ | ⟨q1, q2⟩
 ·rw [hk] at q1
  obtain rfl := Option.some.inj q1
  have hks : S[k]? = some (some s) := by rw [← g1 k q2]; exact q3
  have hm2 := qakq hS hi' q2 q3 q4
  have hkl := qab8 hks
  have hke0 : dist S.length i k < dist S.length i e0 := by
   rcases Nat.lt_or_ge (dist S.length i k) (dist S.length i e0) with h9 | h9
   ·exact h9
   ·exfalso
    rw [hl] at q5
    have hp0 : 0 < dist S.length i e0 := by have := qab8 h10; unfold dist; split <;> omega
    have hne : dist S.length i e0 ≠ dist S.length i k := fun e1 => by
     have a1 := qacv hi (qab8 h10)
     have a2 := qacv hi hkl
     rw [e1, a2] at a1
     rw [← a1, hks] at h10; cases h10
    obtain ⟨t, ht⟩ := h4 (dist S.length i e0) hp0 (by rw [hl]; omega)
    rw [hl, qacv hi (qab8 h10), g1 e0 he0, h10] at ht
    cases ht
  refine ⟨s, hks, q2, hm2, e0, (fun e1 => (by rw [e1, hks] at h10; cases h10)), ?_, ?_⟩
  ·rw [List.getElem?_set, if_neg (Ne.symm he0), g1 e0 he0]; exact h10
  ·have := qab8 h10
   unfold dist at hke0 h20 ⊢
   (repeat' split at *) <;> (repeat' split) <;> omega
 ·rw [hk] at q1; cases q1
theorem qao4 {hm : List Int → Nat} {f : Nat} {S : XTab} {i : Nat} (h : qai2 hm (S.set i none) i S.length i = none) : qag2 hm (f + 1) S i = S.set i none := by rw [qag2, h]
theorem qao3 {hm : List Int → Nat} {f : Nat} {S : XTab} {i k : Nat} {s : XSlot} (h : qai2 hm (S.set i none) i S.length i = some k) (hk : S[k]? = some (some s)) : qag2 hm (f + 1) S i = qag2 hm f ((S.set i none).set i (some s)) k := by rw [qag2, h]; simp only [hk, Option.getD_some]
def drpX (k : Int) (S : XTab) (xs : List Int) : XTab := if qaf4 k S xs = 0 then qag2 (qadu S.length) S.length S (qab4 S xs).1 else S
theorem qaex {S : XTab} (h : qaer S) {i : Nat} (hi : i < S.length) (o : Option XSlot) (ho : ∀ s, o = some s → s.keys.length ≤ 1000000 ∧ s.args.length ≤ 1000000) : qaer (S.set i o) := fun j s hs => by
 rw [qab2 hi] at hs
 split at hs
 ·exact ho s (Option.some.inj hs)
 ·exact h j s hs
set_option maxHeartbeats 1000000 in
theorem xdrop_s (k m : Int) (S : XTab) (hS : 0 < S.length ∧ S.length ≤ 1048576) (hsm : qaer S) (xs : List Int) (hx : xs.length ≤ 1000000) (hI : qar9 (qadu S.length) S) : SCalls Try.prog 27 [.ptr 0 0, nums .u64 xs] (xobj k m (cnt S) S) 2 (.int .i64 (qaf4 k S xs)) (xobj k m (cnt (drpX k S xs)) (drpX k S xs)) := by
 have hf : ∃ e : Nat, S[e]? = some none := let ⟨e, _, h⟩ := hI.free; ⟨e, h⟩
 have k1 := fun q => qakk k m S hS hsm xs hx hf q
 have hv : qaf4 k S xs = if (xs.length : Int) ≠ k then 2 else if (qab4 S xs).2 = true then 0 else 9 := rfl
 have hr : drpX k S xs = if qaf4 k S xs = 0 then qag2 (qadu S.length) S.length S (qab4 S xs).1 else S := rfl
 have hR : (qab4 S xs).1 < S.length := qad8 _ _ (Nat.mod_lt _ hS.1)
 have hT : (qab4 S xs).2 = true → ∃ s : XSlot, S[(qab4 S xs).1]? = some (some s) ∧ s.keys = xs := qacs _ _
 rw [show qacl S xs S.length (qadu S.length xs) = qab4 S xs from rfl] at k1
 generalize qaf4 k S xs = V at hv hr ⊢
 generalize drpX k S xs = S' at hr ⊢
 obtain ⟨R, b, hp⟩ : ∃ R b, qab4 S xs = (R, b) := ⟨_, _, rfl⟩
 rw [hp] at k1 hv hr hR hT
 simp only at k1 hv hr hR hT
 obtain ⟨n, hn⟩ : ∃ n, n = cnt S := ⟨_, rfl⟩
 rw [← hn] at k1 ⊢
 have hnl : n ≤ S.length := by rw [hn]; exact List.countP_le_length
 replace hv := Lib.hid hv
 replace hr := Lib.hid hr
 replace hp := Lib.hid hp
 replace hn := Lib.hid hn
 replace hf := Lib.hid hf
 replace hI := Lib.hid hI
 replace hsm := Lib.hid hsm
 unfold nums at k1
 obtain ⟨H2, hH2⟩ : ∃ H, H = xobj k m (cnt S') S' := ⟨_, rfl⟩
 rw [← hH2]
 replace hH2 := Lib.hid hH2
 unfold xobj at k1 ⊢
 refine qabe (N := 111) Try.func27 rfl rfl (by kernel_rfl) qaju (by simp) (by repeat' (first | exact trivial | refine And.intro ?_ ?_ | rfl | decide | exact PureR.ren _)) (by repeat' (first | exact trivial | refine And.intro ?_ ?_ | rfl | decide | exact PureR.ren _)) ?_
 rintro X hP hN hm
 unfold c_xdrop nums
 by_cases h1 : (xs.length : Int) = k
 ·subst h1
  cases b with
  | true =>
   obtain ⟨s, hs, hk⟩ := hT rfl
   clear hT
   have hV : V = 0 := by rw [hv.out, if_neg (by simp), if_pos rfl]
   have hS' : S' = qag2 (qadu S.length) S.length S R := by rw [hr.out, if_pos hV]
   subst hV
   have hi0 := qaw0 hI.out hs
   have hfr : ∃ e : Nat, e ≠ R ∧ S[e]? = some none ∧ dist S.length R e ≤ S.length := by
    obtain ⟨e, h1, h2⟩ := hi0.free
    exact ⟨e, h1, h2, Nat.le_of_lt (qaeb hR (qab8 h2))⟩
   have hds := qag1 S.length S R hi0 hR hfr
   rw [← hS'] at hds
   have hcn : cnt S' + 1 = n := by
    have := qaeu S R none hR
    rw [hds.2.2.2, hn.out]
    have hs2 : S[R] = some s := by rw [List.getElem?_eq_getElem hR] at hs; exact Option.some.inj hs
    rw [hs2] at this
    simpa using this
   have hlS' : S'.length = S.length := hds.2.1
   clear hds
   obtain ⟨c, hc⟩ : ∃ c, cnt S' = c := ⟨_, rfl⟩
   rw [hc] at hcn
   subst hcn
   have w1 : IntKind.i64.wrap (c : Int) = (c : Int) := IntWalk.i64_in _ ⟨by omega, by omega⟩
   replace hs := Lib.hid hs
   replace hk := Lib.hid hk
   replace hc := Lib.hid hc
   replace hlS' := Lib.hid hlS'
   replace hS' := Lib.hid hS'
   replace hfr := Lib.hid hfr
   replace hi0 := Lib.hid hi0
   repeat' (first | (with_reducible refine zA ?_) | ((with_reducible refine qaap ?_); (try rw [hP]); simp -implicitDefEqProofs [w1, *]) | ((with_reducible refine qaa0 ?_); (try simp -implicitDefEqProofs [w1, *])) | ((with_reducible refine qaat rfl (fun h => ?_) (fun h => ?_)) <;> have h' := h <;> (try simp at h') <;> (try subst h')) | (refine qacx (k1 _) ⟨rfl, rfl, trivial⟩ ⟨rfl, rfl, trivial⟩ ?_; simp -implicitDefEqProofs [w1, *]) | fail)
   replace hS' := hS'.out
   replace hfr := hfr.out
   replace hi0 := hi0.out
   replace hsm := hsm.out
   clear hI hf hs hk hn hv hr hp k1 hlS'
   obtain ⟨N, hNl⟩ : ∃ N, N = S.length := ⟨_, rfl⟩
   rw [← hNl] at hS' hi0 hR hS hfr ⊢
   have hSl : S.length = N := hNl.symm
   clear hNl hnl
   refine qabk (qad4 (fun s (z : XTab × Nat × Nat) => s.turn [(5, .int .i64 z.2.1)] [(1, .row 167 4 (z.1.map xsc))]) (fun z => z.1.length = N ∧ z.2.1 < N ∧ qaer z.1 ∧ HInv (qadu N) z.1 z.2.1 ∧ S' = qag2 (qadu N) z.2.2 z.1 z.2.1 ∧ ∃ e : Nat, e ≠ z.2.1 ∧ z.1[e]? = some none ∧ dist N z.2.1 e ≤ z.2.2) (fun z => z.2.2) (S, R, N) ?_ ⟨hSl, hR, hsm, hi0, hS', hfr⟩ ?_)
   ·repeat' (first | ((with_reducible refine qab1 [] hm ?_ ?_ ?_ ?_) <;> (try simp only [zT, puth, Nat.reduceEqDiff, reduceIte, Nat.reduceAdd])) | (with_reducible first | refine za ?_ ?_ | refine zb ?_ ?_ ?_ ?_ | refine zc ?_ ?_ ?_ ?_) | (with_reducible first | exact qab6 | exact qacf) | ((with_reducible first | refine zga ?_ | refine zgb ?_); rfl) | ((with_reducible refine zgc ?_); (first | (with_reducible rfl) | rfl | (simp; done))) | ((with_reducible refine zgd ?_); (first | omega | (simp; done))) | (exact Co.refl _) | (exact CoL.refl _) | fail)
   rintro J hJ ⟨T, i, f⟩ ⟨g1, g2, g3, g4, g5, g6⟩
   unfold qahz
   simp only [zT, puth, Nat.reduceEqDiff, reduceIte, Nat.reduceAdd] at g1 g2 g3 g4 g5 g6 ⊢
   clear hS' hi0 hsm hfr hSl hR
   obtain ⟨f, rfl⟩ : ∃ g, f = g + 1 := ⟨f - 1, by
    obtain ⟨e, e1, e2, e3⟩ := g6
    have := qab8 e2
    unfold dist at e3
    split at e3 <;> omega⟩
   have hTi : T[i]? = some T[i] := List.getElem?_eq_getElem (by omega)
   obtain ⟨T1, hT1⟩ : ∃ T1, T1 = T.set i none := ⟨_, rfl⟩
   have hset : (T.map xsc).set i (((((xsc T[i]).set 0 (.bool false)).set 1 .nilsl).set 2 (.int .i64 0)).set 3 .nilsl) = T1.map xsc := by rw [qanz (qawe _), hT1, List.map_set]; rfl
   have hl1 : T1.length = N := by rw [hT1, List.length_set, g1]
   have h1i : T1[i]? = some none := by rw [hT1, qab2 (by omega), if_pos rfl]
   have hsm1 : qaer T1 := by rw [hT1]; exact qaex g3 (by omega) none (fun s h => by cases h)
   obtain ⟨G, hG⟩ : ∃ G, G = qai2 (qadu N) T1 i N i := ⟨_, rfl⟩
   have hsc : qai2 (qadu N) (T.set i none) i T.length i = G := by rw [hG, hT1, g1]
   have hstep := fun p (e : G = some p) => qas0 g4 (by omega) (by rw [g1]; exact g6) (k := p) (by rw [hsc]; exact e)
   have hend : G = none → S' = T1 := fun e => by rw [g5, qao4 (by rw [hsc]; exact e), hT1]
   have hgo : ∀ p s, G = some p → T[p]? = some (some s) → S' = qag2 (qadu N) f (T1.set i (some s)) p := fun p s e h => by rw [g5, qao3 (by rw [hsc]; exact e) h, hT1]
   rw [← hT1] at hstep
   replace g3 := Lib.hid g3
   replace g4 := Lib.hid g4
   replace g5 := Lib.hid g5
   replace g6 := Lib.hid g6
   replace hG := Lib.hid hG
   replace hsc := Lib.hid hsc
   replace hT1 := Lib.hid hT1
   replace hstep := Lib.hid hstep
   replace hend := Lib.hid hend
   replace hgo := Lib.hid hgo
   replace hsm1 := Lib.hid hsm1
   replace h1i := Lib.hid h1i
   repeat' (first | (with_reducible first | refine zA ?_ | refine qabb ?_) | ((with_reducible refine qaap ?_); (try rw [hP]); simp -implicitDefEqProofs [g1, hset, hTi, *]) | fail)
   have hJo := hJ
   have hb0 : dist N (addm N i 1) i < N := qaeb (qadk g2 (by omega)) g2
   replace hb0 := Lib.hid hb0
   refine qabk (qad4 (fun s (z : Nat × Nat) => s.turn [(7, .int .i64 z.1)] []) (fun z => z.1 < N ∧ G = qai2 (qadu N) T1 i z.2 z.1 ∧ dist N (addm N z.1 1) i < z.2) (fun z => z.2) (i, N) ?_ ⟨g2, hG.out, hb0.out⟩ ?_)
   ·repeat' (first | ((with_reducible refine qab1 [] hm ?_ ?_ ?_ ?_) <;> (try simp only [zT, puth, Nat.reduceEqDiff, reduceIte, Nat.reduceAdd])) | (with_reducible first | refine za ?_ ?_ | refine zb ?_ ?_ ?_ ?_ | refine zc ?_ ?_ ?_ ?_) | (with_reducible first | exact qab6 | exact qacf) | ((with_reducible first | refine zga ?_ | refine zgb ?_); rfl) | ((with_reducible refine zgc ?_); (first | (with_reducible rfl) | rfl | (simp; done))) | ((with_reducible refine zgd ?_); (first | omega | (simp; done))) | (exact Co.refl _) | (exact CoL.refl _) | fail)
   rintro J hJ ⟨j, g⟩ ⟨a1, a2, a3⟩
   unfold qah0
   simp only [zT, puth, Nat.reduceEqDiff, reduceIte, Nat.reduceAdd] at a1 a2 a3 ⊢
   obtain ⟨g, rfl⟩ : ∃ h, g = h + 1 := ⟨g - 1, by omega⟩
   obtain ⟨p, hp⟩ : ∃ p, p = addm N j 1 := ⟨_, rfl⟩
   have hpl : p < N := by rw [hp]; exact qadk a1 (by omega)
   have wj : IntKind.i64.wrap ((j : Int) + 1) = (j : Int) + 1 := qabo (by omega) (by omega)
   have tj : Int.tmod ((j : Int) + 1) (N : Int) = (p : Int) := by rw [qasc a1, ← hp]
   have hN0 : ¬ N = 0 := by omega
   have hpl1 : p < T1.length := by omega
   rcases hq : T1[p] with _ | s
   ·have hq' : T1[p]? = some none := by rw [List.getElem?_eq_getElem hpl1, hq]
    have hGn : G = none := by rw [a2, qan2 (by rw [hl1, ← hp]; exact hq')]
    have hS1 : S' = T1 := hend.out hGn
    clear a2 a3 hp
    subst hS1
    repeat' (first | (with_reducible first | refine zA ?_ | refine qabb ?_) | ((with_reducible refine qaap ?_); (try rw [hP]); simp -implicitDefEqProofs [wj, tj, hN0, hl1, hq', qadf, *]) | ((with_reducible refine qabd ?_); (try simp only [qaaz, qaad, qaag])) | ((with_reducible refine qaat rfl (fun h => ?_) (fun h => ?_)) <;> have h' := h <;> (try simp at h') <;> (try subst h')) | fail)
    exact qac2 hm rfl hH2.out rfl rfl (by rw [hc.out]) hl1.symm rfl rfl
   ·have hq' : T1[p]? = some (some s) := by rw [List.getElem?_eq_getElem hpl1, hq]
    obtain ⟨hh, hhh⟩ : ∃ hh, hh = qadu N s.keys := ⟨_, rfl⟩
    have hhl : hh < N := by rw [hhh]; exact Nat.mod_lt _ (by omega)
    rw [qan1 (by rw [hl1, ← hp]; exact hq'), hl1, ← hp, ← hhh] at a2
    have k2 := fun q => home_o (xs.length : Int) m c T1 (by rw [hl1]; exact hS) s.keys (hsm1.out p s hq').1 q
    rw [hl1, ← hhh] at k2
    unfold nums xobj at k2
    rw [hl1] at k2
    have w2 : IntKind.i64.wrap ((p : Int) - hh) = (p : Int) - hh := IntWalk.i64_in _ ⟨by omega, by omega⟩
    have w3 : IntKind.i64.wrap ((p : Int) - hh + N) = (p : Int) - hh + N := IntWalk.i64_in _ ⟨by omega, by omega⟩
    have w4 : IntKind.i64.wrap ((p : Int) - i) = (p : Int) - i := IntWalk.i64_in _ ⟨by omega, by omega⟩
    have w5 : IntKind.i64.wrap ((p : Int) - i + N) = (p : Int) - i + N := IntWalk.i64_in _ ⟨by omega, by omega⟩
    have t2 := qakc hhl hpl
    have t3 := qakc g2 hpl
    have hpi : p ≠ i := fun e => by rw [e, h1i.out] at hq'; cases hq'
    have hd : dist N (addm N p 1) i < g := by
     rw [← hp] at a3
     exact qas2 hpl g2 hpi a3
    generalize dist N hh p = d1 at a2 t2
    generalize dist N i p = d2 at a2 t3
    have hq2 := hq'
    clear a3
    replace hp := Lib.hid hp
    replace hhh := Lib.hid hhh
    replace hd := Lib.hid hd
    by_cases hc2 : d2 ≤ d1
    ·rw [if_pos hc2] at a2
     obtain ⟨s2, b1, b2, b3, b4⟩ := hstep.out p a2
     have b5 : s2 = s := by
      have := hq'
      rw [hT1.out, qab2 (by omega), if_neg hpi, b1] at this
      exact Option.some.inj (Option.some.inj this)
     subst b5
     have hS2 := hgo.out p s2 a2 b1
     obtain ⟨T2, hT2⟩ : ∃ T2, T2 = T1.set i (some s2) := ⟨_, rfl⟩
     have hset2 : (T1.map xsc).set i [.bool true, .view 1 (s2.keys.map fun x => [.int .u64 x]), .int .i64 s2.act, .view 1 (s2.args.map fun x => [.int .u64 x])] = T2.map xsc := by rw [hT2, List.map_set]; rfl
     have hl2 : T2.length = N := by rw [hT2, List.length_set, hl1]
     have hsm2 : qaer T2 := by rw [hT2]; exact qaex hsm1.out (by omega) _ (fun s h => by cases h; exact hsm1.out p _ hq')
     rw [← hT2] at b3 b4 hS2
     have hi1 : T1[i]'(by omega) = none := by
      have := h1i.out
      rw [List.getElem?_eq_getElem (by omega)] at this; exact Option.some.inj this
     rw [g1] at b4
     replace hT2 := Lib.hid hT2
     replace hS2 := Lib.hid hS2
     replace b1 := Lib.hid b1
     replace b3 := Lib.hid b3
     replace b4 := Lib.hid b4
     replace a2 := Lib.hid a2
     replace hsm2 := Lib.hid hsm2
     repeat' (first | (with_reducible first | refine zA ?_ | refine qabb ?_ | refine zK ?_) | ((with_reducible first | refine qaap ?_ | refine qabl (by rw [hP]; exact mixed) ?_); (try rw [hP]); simp -implicitDefEqProofs [wj, tj, hN0, hl1, hq, hq2, qacc, qadf, hi1, nums, w2, w3, w4, w5, t2, t3, hset2, *]) | ((with_reducible first | refine qaa0 ?_ | refine qaby ?_); (try simp -implicitDefEqProofs [wj, tj, hN0, hl1, hq, hq2, qacc, qadf, hi1, nums, w2, w3, w4, w5, t2, t3, hset2, *])) | ((with_reducible refine qaat rfl (fun h => ?_) (fun h => ?_)) <;> have h' := h <;> (try simp at h') <;> (try subst h')) | (refine qacx (k2 _) ⟨rfl, rfl, trivial⟩ ⟨rfl, rfl, trivial⟩ ?_; simp -implicitDefEqProofs [wj, tj, hN0, hl1, hq, hq2, qacc, qadf, hi1, nums, w2, w3, w4, w5, t2, t3, hset2, *]) | (with_reducible first | refine za ?_ ?_ | refine zb ?_ ?_ ?_ ?_ | refine zc ?_ ?_ ?_ ?_) | (with_reducible first | exact qab6 | exact qacf) | ((with_reducible first | refine zga ?_ | refine zgb ?_); rfl) | ((with_reducible refine zgc ?_); (first | (with_reducible rfl) | rfl | (simp; done))) | ((with_reducible first | refine zgd ?_ | refine zge ?_); (first | omega | (simp; done))) | (exact Co.refl _) | (exact CoL.refl _) | ((refine qacu hJo ((T2, p, f)) ?_ ?_ ?_; (with_reducible refine qab1 [] hm ?_ ?_ ?_ ?_) <;> (try simp only [zT, puth, Nat.reduceEqDiff, reduceIte, Nat.reduceAdd]))) | fail)
     all_goals exact ⟨hl2, hpl, hsm2.out, b3.out, hS2.out, b4.out⟩
    ·rw [if_neg hc2] at a2
     replace a2 := Lib.hid a2
     repeat' (first | (with_reducible first | refine zA ?_ | refine qabb ?_ | refine zK ?_) | ((with_reducible first | refine qaap ?_ | refine qabl (by rw [hP]; exact mixed) ?_); (try rw [hP]); simp -implicitDefEqProofs [wj, tj, hN0, hl1, hq, hq2, qacc, nums, w2, w3, w4, w5, t2, t3, *]) | ((with_reducible refine qaa0 ?_); (try simp -implicitDefEqProofs [wj, tj, hN0, hl1, hq, hq2, qacc, nums, w2, w3, w4, w5, t2, t3, *])) | ((with_reducible refine qaat rfl (fun h => ?_) (fun h => ?_)) <;> have h' := h <;> (try simp at h') <;> (try subst h')) | (refine qacx (k2 _) ⟨rfl, rfl, trivial⟩ ⟨rfl, rfl, trivial⟩ ?_; simp -implicitDefEqProofs [wj, tj, hN0, hl1, hq, hq2, qacc, nums, w2, w3, w4, w5, t2, t3, *]) | (with_reducible first | refine za ?_ ?_ | refine zb ?_ ?_ ?_ ?_ | refine zc ?_ ?_ ?_ ?_) | (with_reducible first | exact qab6 | exact qacf) | ((with_reducible first | refine zga ?_ | refine zgb ?_); rfl) | ((with_reducible refine zgc ?_); (first | (with_reducible rfl) | rfl | (simp; done))) | ((with_reducible first | refine zgd ?_ | refine zge ?_); (first | omega | (simp; done))) | (exact Co.refl _) | (exact CoL.refl _) | ((refine qacu hJ ((p, g)) ?_ ?_ ?_; (with_reducible refine qab1 [] hm ?_ ?_ ?_ ?_) <;> (try simp only [zT, puth, Nat.reduceEqDiff, reduceIte, Nat.reduceAdd]))) | fail)
     all_goals exact ⟨hpl, a2.out, hd.out⟩
  | false =>
   clear hT
   repeat' (first | (with_reducible refine zA ?_) | ((with_reducible refine qaap ?_); (try rw [hP]); simp -implicitDefEqProofs [*]) | ((with_reducible refine qaa0 ?_); (try simp -implicitDefEqProofs [*])) | ((with_reducible refine qabd ?_); (try simp only [qaaz, qaad, qaag])) | ((with_reducible refine qaat rfl (fun h => ?_) (fun h => ?_)) <;> have h' := h <;> (try simp at h') <;> (try subst h')) | (refine qacx (k1 _) ⟨rfl, rfl, trivial⟩ ⟨rfl, rfl, trivial⟩ ?_; simp -implicitDefEqProofs [*]) | fail)
   have hV : V = 9 := by rw [hv.out, if_neg (by simp), if_neg (by simp)]
   have hS' : S' = S := by rw [hr.out, if_neg (by rw [hV]; decide)]
   subst hS'
   exact qac2 hm hV hH2.out rfl rfl (by rw [hn.out]) rfl rfl rfl
 ·clear hT
  repeat' (first | (with_reducible refine zA ?_) | ((with_reducible refine qaap ?_); (try rw [hP]); simp -implicitDefEqProofs [h1, *]) | ((with_reducible refine qaa0 ?_); (try simp -implicitDefEqProofs [h1, *])) | ((with_reducible refine qabd ?_); (try simp only [qaaz, qaad, qaag])) | ((with_reducible refine qaat rfl (fun h => ?_) (fun h => ?_)) <;> have h' := h <;> (try simp at h') <;> (try subst h')) | fail)
  ·have hV : V = 2 := by rw [hv.out, if_pos h1]
   have hS' : S' = S := by rw [hr.out, if_neg (by rw [hV]; decide)]
   subst hS'
   exact qac2 hm hV hH2.out rfl rfl (by rw [hn.out]) rfl rfl rfl
  ·exact absurd rfl h1
end Go.Proofs.Yticeaegpkpjjeaa
namespace Go.Proofs.Yticeaegpkpjjeaa
set_option linter.all false
open Go.RowKit
attribute [local simp] qaam qaal qaab qaaf qaac qaae qaaj qaak qaaa qaax SOp.run SX.ev putd puts argS upds SOp.touch SSt.keep SSt.skip gets geth puth delh idOf SV.cells? setL qabu qabv sbin eq0 eq1 eqL qabs qaa9 qaba qaaz qaai qaad qaan qaay qaag qaah FrzOk qaa4 qaav qaa2 qaa3 qaaq qaau qaa7 qaaw qaas qaa5 qaar frzS frzH frz frz1 frz0 SlotsM ObjsM ObjM rn ren ren1 ren0 qabj qabq qabx qabi qaa8 qabr qabw CoL qaa6 qace dels adds idsH qab7
instance : PureF xec := ⟨fun _ _ => rfl, fun _ => rfl, fun x => qab9 _ rfl⟩
theorem fin_xw {X : Cx} {s : SSt} {t z : Nat} {es : List (List SV)} {h : Hp} {a b : SObj} (e : h = [(0, a), (1, b)]) (hw : Wk X s ⟨[(t, .view z es)], [(0, a), (1, b)], 2⟩) : QFun X [.tmp t] 2 (.view z es) h .ret s := by
 subst e
 exact ⟨_, hw, by simp [qagp, resL, resV, one_, gets], ⟨rfl, rfl, trivial⟩, by simp⟩
theorem xsc_frz (g : Nat → Option SObj) (D : List Nat) (S : XTab) : S.map ((fun x => List.map (frz0 g D) x) ∘ xsc) = S.map xsc := List.map_congr_left fun x _ => by cases x <;> rfl
def qadq (S : XTab) : List XSlot := S.filterMap id
theorem xall_s (k m : Int) (n : Nat) (S : XTab) (hS : 0 < S.length ∧ S.length ≤ 1048576) (hsm : qaer S) (hlen : (qadq S).length ≤ 1000000) (L : List XSlot) (hLl : L.length = (qadq S).length) (hL : ∀ l' : List XSlot, l'.Perm (qadq S) → l'.Pairwise (fun a b => ¬ cmpL b.keys a.keys < 0) → l' = L) : SCalls Try.prog 30 [.ptr 0 0] (xobj k m n S) 2 (.view 6 (L.map xec)) (xobj k m n S) := by
 have k1 := fun nm q => qaxg (qadq S) L hlen hL nm q
 obtain ⟨F, hF⟩ : ∃ F, F = qadq S := ⟨_, rfl⟩
 rw [← hF] at k1 hlen hLl
 clear hL
 obtain ⟨H2, hH2⟩ : ∃ H, H = xobj k m n S := ⟨_, rfl⟩
 suffices h : SCalls Try.prog 30 [.ptr 0 0] (xobj k m n S) 2 (.view 6 (L.map xec)) H2 by rw [← hH2]; rw [← hH2] at h; exact h
 replace hH2 := Lib.hid hH2
 replace hsm := Lib.hid hsm
 replace hF := Lib.hid hF
 obtain ⟨N, hN'⟩ : ∃ N, N = S.length := ⟨_, rfl⟩
 unfold xobj
 rw [← hN'] at hS ⊢
 refine qabe (N := 35) Try.func30 rfl rfl (by kernel_rfl) qal8 (by simp) (by repeat' (first | exact trivial | refine And.intro ?_ ?_ | rfl | decide | exact PureR.ren _)) (by repeat' (first | exact trivial | refine And.intro ?_ ?_ | rfl | decide | exact PureR.ren _)) ?_
 rintro X hP hN hm
 unfold c_xall
 replace hN' := Lib.hid hN'
 repeat' (first | (with_reducible refine zA ?_) | ((with_reducible refine qaap ?_); (try rw [hP]); simp -implicitDefEqProofs [*]) | fail)
 refine qaeh (qasb 3 65 6 rfl) ?_
 simp only [zT, puth, Nat.reduceEqDiff, reduceIte, Nat.reduceAdd]
 refine qabk (qad4 (fun s (x : Nat × List XSlot) => ⟨[(3, .own 2 x.2.length), (9, .own 1 N), (10, .int .i64 N), (11, .int .i64 x.1)], [(0, .cells 163 [.int .i64 k, .int .i64 m, .int .i64 n, .own 1 N]), (1, .row 167 4 (S.map xsc)), (2, .row 65 6 (x.2.map xec))], 3⟩) (fun x => x.1 ≤ N ∧ F = x.2 ++ qadq (S.drop x.1)) (fun x => N - x.1) (0, []) ?_ ⟨Nat.zero_le _, by rw [hF.out]; rfl⟩ ?_)
 ·refine qab1 [(2, 10)] hm ⟨Co.refl _, Co.refl _, Co.refl _, Co.refl _, trivial⟩ ⟨⟨_, rfl, rfl, CoL.refl _⟩, ⟨_, rfl, rfl, rfl, ?_⟩, ⟨_, rfl, rfl, rfl, CoLL.refl _⟩, trivial⟩ rfl (by simp)
  rw [qac4]; exact CoLL.refl _
 rintro J hJ ⟨i, out⟩ ⟨h1, h2⟩
 unfold qaky
 simp only [zT, puth, Nat.reduceEqDiff, reduceIte, Nat.reduceAdd] at h1 h2 ⊢
 have hSN : S.length = N := hN'.out.symm
 rcases Nat.lt_or_ge i N with hi | hi
 ·have hiS : i < S.length := by omega
  rw [List.drop_eq_getElem_cons hiS] at h2
  have wi : IntKind.i64.wrap ((i : Int) + 1) = (i : Int) + 1 := qabo (by omega) (by omega)
  rcases hq : S[i] with _ | s
  ·rw [hq] at h2
   replace h2 : F = out ++ qadq (S.drop (i + 1)) := h2
   replace h2 := Lib.hid h2
   repeat' (first | (with_reducible first | refine zA ?_ | refine qabb ?_) | ((with_reducible refine qaap ?_); (try rw [hP]); simp -implicitDefEqProofs [wi, hSN, hq, qadf, *]) | ((with_reducible refine qaa0 ?_); (try simp -implicitDefEqProofs [wi, hSN, hq, qadf, *])) | ((with_reducible refine qaat rfl (fun h => ?_) (fun h => ?_)) <;> have h' := h <;> (try simp at h') <;> (try subst h')) | (with_reducible first | refine za ?_ ?_ | refine zb ?_ ?_ ?_ ?_ | refine zc ?_ ?_ ?_ ?_) | (with_reducible first | exact qab6 | exact qacf) | ((with_reducible first | refine zga ?_ | refine zgb ?_); rfl) | ((with_reducible refine zgc ?_); (first | (with_reducible rfl) | rfl | (simp; done))) | ((with_reducible first | refine zgd ?_ | refine zge ?_); (first | omega | (simp; done))) | (exact Co.refl _) | (exact CoL.refl _) | ((refine qacu hJ ((i + 1, out)) ?_ ?_ ?_; (with_reducible refine qab1 [] hm ?_ ?_ ?_ ?_) <;> (try simp only [zT, puth, Nat.reduceEqDiff, reduceIte, Nat.reduceAdd]))) | fail)
   all_goals exact ⟨by show i + 1 ≤ N; omega, h2.out⟩
  ·rw [hq] at h2
   replace h2 : F = out ++ (s :: qadq (S.drop (i + 1))) := h2
   rw [List.append_cons] at h2
   have hlo : out.length + 1 ≤ F.length := by rw [h2]; simp
   have hss := hsm.out i s (by rw [List.getElem?_eq_getElem hiS, hq])
   have k2 := fun q => xnums s.keys hss.1 q
   have k3 := fun q => xnums s.args hss.2 q
   unfold nums at k2 k3
   have b1 : out.length + 1 ≤ maxLen := by unfold maxLen; omega
   have b2 : (out.length + 1) * 96 ≤ 140737488355328 := by omega
   replace h2 := Lib.hid h2
   replace hlo := Lib.hid hlo
   replace hss := Lib.hid hss
   repeat' (first | (with_reducible first | refine zA ?_ | refine qabb ?_ | refine zK ?_) | ((with_reducible first | refine qaap ?_ | refine qabl (by rw [hP]; exact mixed) ?_); (try rw [hP]); simp -implicitDefEqProofs [wi, hSN, hq, qacc, nums, b1, b2, *]) | ((with_reducible refine qaa0 ?_); (try simp -implicitDefEqProofs [wi, hSN, hq, qacc, nums, b1, b2, *])) | ((with_reducible refine qaat rfl (fun h => ?_) (fun h => ?_)) <;> have h' := h <;> (try simp at h') <;> (try subst h')) | ((first | refine qab5 (k2 _) ?_ | refine qab5 (k3 _) ?_); simp -implicitDefEqProofs [wi, hSN, hq, qacc, nums, b1, b2, *]) | fail)
   refine qacu hJ (i + 1, out ++ [s]) (qab1 [(2, 37)] hm ⟨?_, Co.refl _, Co.refl _, ?_, trivial⟩ ⟨⟨_, rfl, rfl, CoL.refl _⟩, ⟨_, rfl, rfl, rfl, ?_⟩, ⟨_, rfl, rfl, rfl, ?_⟩, trivial⟩ rfl (by simp)) ⟨by show i + 1 ≤ N; omega, h2.out⟩ ?_
   ·simp only [List.length_append, List.length_cons, List.length_nil]; exact Co.refl _
   ·simp only [Int.natCast_add, Int.cast_ofNat_Int]; exact Co.refl _
   ·rw [qac4]; exact CoLL.refl _
   ·rw [qac4, List.map_append]; exact CoLL.refl _
   ·show N - (i + 1) < N - i; omega
 ·obtain rfl : i = N := by omega
  have h3 : F = out := by rw [h2, List.drop_eq_nil_of_le (by omega)]; simp [qadq]
  subst h3
  replace h2 := Lib.hid h2
  replace hLl := Lib.hid hLl
  repeat' (first | ((with_reducible refine qadg (c := .seq (.reg false qah2 [2]) .ret) ?_)) | (with_reducible refine zA ?_) | ((with_reducible refine qaap ?_); (try rw [hP]); simp -implicitDefEqProofs [*]) | ((with_reducible refine qaby ?_); (try simp -implicitDefEqProofs [*])) | ((with_reducible refine qaat rfl (fun h => ?_) (fun h => ?_)) <;> have h' := h <;> (try simp at h') <;> (try subst h')) | (refine qapg (k1 2 _) ⟨rfl, trivial⟩ ⟨rfl, trivial⟩ [] (by simp) ?_; simp -implicitDefEqProofs [*]) | fail)
  constructor
  rw [← hLl.out]
  refine qawj [2] ?_ ?_
  ·simp only [FrzOk, geth, Nat.reduceEqDiff, reduceIte, qawr, and_true]
  simp -implicitDefEqProofs
  repeat' (first | (with_reducible refine zA ?_) | ((with_reducible refine qaap ?_); (try rw [hP]); simp -implicitDefEqProofs [*]) | ((with_reducible refine qabd ?_); (try simp only [qaaz, qaad, qaag])) | ((refine fin_xw hH2.out ?_)) | fail)
  rw [xsc_frz, hSN]
  exact qab1 [] hm ⟨Co.refl _, trivial⟩ ⟨⟨_, rfl, rfl, CoL.refl _⟩, ⟨_, rfl, rfl, rfl, by rw [qac4]; exact CoLL.refl _⟩, trivial⟩ rfl (Nat.le_refl 2)
end Go.Proofs.Yticeaegpkpjjeaa
namespace Go.Proofs.Yticeaegpkpjjeaa
set_option linter.all false
open Go.RowKit
theorem qaf1 : ∀ T : XTab, cnt T < T.length → ∃ e : Nat, T[e]? = some none
 | [], h => by simp [cnt] at h
 | none :: T, _ => ⟨0, rfl⟩
 | some s :: T, h => by
  obtain ⟨e, he⟩ := qaf1 T (by unfold cnt at h ⊢; simp at h ⊢; omega)
  exact ⟨e + 1, by simpa using he⟩
theorem qapc {S : XTab} {r : Nat} (hr : S[r]? = some none) (s : XSlot) : cnt (S.set r (some s)) = cnt S + 1 := by
 have hl := qab8 hr
 have := qaeu S r (some s) hl
 rw [List.getElem?_eq_getElem hl] at hr
 rw [Option.some.inj hr] at this
 simpa using this
theorem qaom {S : XTab} {r : Nat} (hr : S[r]? = some none) (h : cnt S + 1 < S.length) : ∃ e : Nat, e ≠ r ∧ S[e]? = some none := by
 have hl := qab8 hr
 obtain ⟨e, he⟩ := qaf1 (S.set r (some ⟨[], 0, []⟩)) (by rw [qapc hr, List.length_set]; exact h)
 rw [qab2 hl] at he
 split at he
 ·cases he
 ·exact ⟨e, by assumption, he⟩
theorem home_lt {N : Nat} (h : 0 < N) (xs : List Int) : qadu N xs < N := Nat.mod_lt _ h
structure XInv (k m : Int) (S : XTab) : Prop where
 pinv : qar9 (qadu S.length) S
 small : qaer S
 fit : ∀ (j : Nat) (s : XSlot), S[j]? = some (some s) → (s.keys.length : Int) = k
 len : S.length = newN m
 full : (cnt S : Int) ≤ m ∨ cnt S = 0
theorem XInv.sz {k m : Int} {S : XTab} (h : XInv k m S) : 0 < S.length ∧ S.length ≤ 1048576 := by
 have := qahj m
 rw [h.len]; omega
theorem XInv.fr {k m : Int} {S : XTab} (h : XInv k m S) : ∃ e : Nat, S[e]? = some none := let ⟨e, _, h⟩ := h.pinv.free; ⟨e, h⟩
theorem qano (k m : Int) : XInv k m (List.replicate (newN m) none) := by
 have hb := qahj m
 have no : ∀ (j : Nat) (s : XSlot), (List.replicate (newN m) (none : Option XSlot))[j]? = some (some s) → False := fun j s h => by
  rw [List.getElem?_replicate] at h
  split at h <;> cases h
 refine ⟨⟨fun xs => ?_, fun j s _ h => (no j s h).elim, fun j _ s _ _ _ h => (no j s h).elim, ⟨0, ?_, ?_⟩⟩, fun j s h => (no j s h).elim, fun j s h => (no j s h).elim, List.length_replicate, .inr ?_⟩
 ·rw [List.length_replicate]; exact home_lt (by omega) xs
 ·rw [List.length_replicate]; omega
 ·rw [List.getElem?_replicate, if_pos (by omega)]
 ·unfold cnt
  rw [List.countP_replicate]; simp
theorem qaem {k m : Int} {S : XTab} (h : XInv k m S) {j : Nat} {s : XSlot} (hj : S[j]? = some (some s)) : qab4 S s.keys = (j, true) := qalt h.pinv hj
theorem qaje {k m : Int} {S : XTab} (h : XInv k m S) {xs : List Int} (hp : (qab4 S xs).2 = false) : ∀ (j : Nat) (s : XSlot), S[j]? = some (some s) → s.keys ≠ xs := fun j s hj e => by
 subst e
 rw [qaem h hj] at hp; cases hp
theorem qaj8 {k m : Int} {S : XTab} (h : XInv k m S) {s : XSlot} (hs : s.keys.length ≤ 1000000 ∧ s.args.length ≤ 1000000) (hV : qaj9 k m S s.keys = 0) : XInv k m (S.set (qab4 S s.keys).1 (some s)) ∧ S[(qab4 S s.keys).1]? = some none := by
 unfold qaj9 at hV
 split at hV
 ·cases hV
 rename_i hk
 split at hV
 ·cases hV
 rename_i hp
 split at hV
 ·cases hV
 rename_i hc
 have hp' : (qab4 S s.keys).2 = false := by simpa using hp
 have hno := qaje h hp'
 obtain ⟨r, h1, h2, h3⟩ := qaok h.pinv hno
 have e1 : (qab4 S s.keys).1 = r := by unfold qab4; rw [h1]
 rw [e1]
 have hl := qab8 h2
 refine ⟨⟨?_, qaex h.small hl _ fun t ht => by cases ht; exact hs, fun j t ht => ?_, by rw [List.length_set]; exact h.len, .inl (by rw [qapc h2]; omega)⟩, h2⟩
 ·rw [List.length_set]
  exact add_inv h.pinv hno h2 h3 (qaom h2 (by omega))
 ·rw [qab2 hl] at ht
  split at ht
  ·cases ht; omega
  ·exact h.fit j t ht
theorem qayf {k m : Int} {S : XTab} (h : XInv k m S) {s t : XSlot} {j : Nat} (hs : s.keys.length ≤ 1000000 ∧ s.args.length ≤ 1000000) (hj : S[j]? = some (some t)) (hk : s.keys = t.keys) : XInv k m (S.set j (some s)) := by
 have hl := qab8 hj
 refine ⟨?_, qaex h.small hl _ fun t ht => by cases ht; exact hs, fun i u hu => ?_, by rw [List.length_set]; exact h.len, ?_⟩
 ·rw [List.length_set]
  exact chg_inv h.pinv hj hk
 ·rw [qab2 hl] at hu
  split at hu
  ·cases hu; rw [hk]; exact h.fit j t hj
  ·exact h.fit i u hu
 ·have := qaeu S j (some s) hl
  rw [List.getElem?_eq_getElem hl] at hj
  rw [Option.some.inj hj] at this
  have e : cnt (S.set j (some s)) = cnt S := by simpa using this
  rw [e]; exact h.full
theorem qax7 {k m : Int} {S : XTab} (h : XInv k m S) {t : XSlot} {j : Nat} (hj : S[j]? = some (some t)) : XInv k m (qag2 (qadu S.length) S.length S j) ∧ (∀ s, (∃ i : Nat, (qag2 (qadu S.length) S.length S j)[i]? = some (some s)) ↔ ∃ i : Nat, i ≠ j ∧ S[i]? = some (some s)) ∧ cnt (qag2 (qadu S.length) S.length S j) + 1 = cnt S := by
 have hl := qab8 hj
 have hi := qaw0 h.pinv hj
 obtain ⟨e, h1, h2⟩ := hi.free
 obtain ⟨d1, d2, d3, d4⟩ := qag1 S.length S j hi hl ⟨e, h1, h2, Nat.le_of_lt (qaeb hl (qab8 h2))⟩
 have hc := qaeu S j none hl
 rw [List.getElem?_eq_getElem hl] at hj
 rw [Option.some.inj hj] at hc
 have hc' : cnt (S.set j none) + 1 = cnt S := by simpa using hc
 refine ⟨⟨by rw [d2]; exact d1, fun i s hs => ?_, fun i s hs => ?_, by rw [d2]; exact h.len, ?_⟩, d3, by rw [d4]; exact hc'⟩
 ·obtain ⟨i', _, h3⟩ := (d3 s).1 ⟨i, hs⟩
  exact h.small i' s h3
 ·obtain ⟨i', _, h3⟩ := (d3 s).1 ⟨i, hs⟩
  exact h.fit i' s h3
 ·rw [d4]
  rcases h.full with h5 | h5 <;> omega
end Go.Proofs.Yticeaegpkpjjeaa
namespace Go.Proofs.Yticeaegpkpjjeaa
set_option linter.all false
open Go.RowKit
theorem qacy {P : Program} {f : FuncId} {args : List SV} {N : Nat} {hh hh2 : Hp} {r : SV} (he : Enters P f) (hN : 0 < N) (hren : ∀ σ : Nat → Nat, (∀ i, i < N → σ i = i) → RenH σ hh2) (hids2 : ∀ i ∈ idsH hh2, i < N)
  (h : SCalls P f (.ptr 0 0 :: args) hh N r hh2) (ha : ∀ σ, args.map (Go.Proofs.Yticeaegpkpjjeaa.ren σ) = args) (hr : ∀ σ, Go.Proofs.Yticeaegpkpjjeaa.ren σ r = r) (id q : Nat) : SCalls P f (.ptr id 0 :: args) [(id, .abs (qazb N fun h => h = hh))] q r [(id, .abs (qazb N fun h => h = hh2))] := by
 refine qan4 he (fun O Fp w b vs hI hO hd hv => ?_) ha id q
 obtain ⟨h1, ρ, fp, c, hR, h0, hn, hobj, hdis, hlt, hF⟩ := hI
 have hR' : h1 = hh := hR
 subst hR'
 have hA : (fun k => O k ∨ Fp k) = fun k => O k ∨ Live h1 fp k := by funext k; rw [hF]
 rw [hA] at hobj hv
 refine (h.2 O ρ fp w (.pointer (some ⟨b, 0, none⟩) :: vs) ⟨hobj, hdis, fun k hk => ⟨hlt k hk, hd k ((hF k).2 hk)⟩, hO⟩ (Reps.cons (.ptr h0) (hv.mono (.refl _ _) (fun _ h _ => h) fun _ _ h => by cases h)) (fun id h3 _ => hn id h3)).mono ?_
 rintro e w' ⟨v, ρ', fp', rfl, q1, q2, q3, q4, q5, q6⟩
 have hfr : ρ' (N + 8) = none := by
  cases e : ρ' (N + 8) with
  | none => rfl
  | some p =>
   rcases q5 (N + 8) (by rw [e]; simp) with h3 | h3
   ·exact absurd (hn _ (by omega)) h3
   ·omega
 let σ : Nat → Nat := fun i => if i < N then i else N + 8
 have hσ : ∀ {i o}, geth hh2 i = some o → i < N ∧ σ i = i := fun {i o} ho => by
  have := hids2 i (qac0 (by rw [ho]; simp))
  exact ⟨this, if_pos this⟩
 refine ⟨v, fun k => Live hh2 fp' k, rfl, ⟨hh2, fun i => ρ' (σ i), fp', c, rfl, ?_, fun i hi => ?_, fun i o ho => ?_, q1.disj, fun k hk => (q1.lt k hk).1, fun k => Iff.rfl⟩, fun k hk => ?_, q3.mono fun k hk => (hF k).2 hk, ?_⟩
 ·show ρ' (σ 0) = _
  rw [show σ 0 = 0 from if_pos hN]; exact q4 _ _ h0
 ·show ρ' (σ i) = none
  rw [show σ i = N + 8 from if_neg (by omega)]; exact hfr
 ·have h6 := ((hren σ fun i hi => if_pos hi).get i o ho).objM
  have h8 := q1.objs i o ho
  have h9 : ObjRep w' (fun k => O k ∨ Live hh2 fp' k) ρ' (σ i) (fp' i) o := by rw [(hσ ho).2]; exact h8
  exact h6.back h9
 ·obtain ⟨i, o, ho, hk2⟩ := hk
  exact (q6 i o ho k hk2).imp (fun h => (hF k).2 h) fun h => h
 ·have h1 : RepV w' (fun k => O k ∨ Live hh2 fp' k) ρ' (Go.Proofs.Yticeaegpkpjjeaa.ren (fun _ => N + 8) r) v := by rw [hr]; exact q2
  have h2 := qajb h1
  have e : (fun id => ρ' ((fun _ => N + 8) id)) = noPl := by funext id; show ρ' (N + 8) = _; rw [hfr]; rfl
  rw [e] at h2; exact h2
def xA (k m : Int) (S : XTab) : AbsI := qazb 2 fun h => h = xobj k m (cnt S) S
theorem qada (k m : Int) (n : Nat) (S : XTab) {σ : Nat → Nat} (h : σ 1 = 1) : RenH σ (xobj k m n S) := ⟨by show ([.int .i64 k, .int .i64 m, .int .i64 n, .own 1 S.length] : List SV).map (Go.Proofs.Yticeaegpkpjjeaa.ren σ) = _; simp [Go.Proofs.Yticeaegpkpjjeaa.ren, ren1, ren0, h], qac4 _ _ _, trivial⟩
theorem qadx (k m : Int) (n : Nat) (S : XTab) : ∀ i ∈ idsH (xobj k m n S), i < 2 := by intro i hi; simp [idsH, xobj] at hi; omega
theorem xlen_a (k m : Int) (S : XTab) (id q : Nat) : SCalls Try.prog 34 [.ptr id 0] [(id, .abs (xA k m S))] q (.int .i64 (cnt S)) [(id, .abs (xA k m S))] :=
 qacy (xlen_o k m S 2).1 (by decide) (fun σ h => qada _ _ _ _ (h 1 (by decide))) (qadx _ _ _ _) (xlen_o k m S 2) (fun _ => rfl) (fun _ => rfl) id q
theorem qaxb (k m : Int) (S : XTab) (h : XInv k m S) (a : Int) (xs ys : List Int) (hx : xs.length ≤ 1000000) (hy : ys.length ≤ 1000000) (id q : Nat) : SCalls Try.prog 28 [.ptr id 0, nums .u64 xs, .agg (hitc a ys)] [(id, .abs (xA k m S))] q (.int .i64 (qaj9 k m S xs)) [(id, .abs (xA k m (addX k m S ⟨xs, a, ys⟩)))] := by
 have h1 := xadd_s k m S h.sz h.small a xs ys hx hy h.fr (fun hV => qapc (qaj8 h (s := ⟨xs, a, ys⟩) ⟨hx, hy⟩ hV).2 _)
 exact qacy h1.1 (by decide) (fun σ h => qada _ _ _ _ (h 1 (by decide))) (qadx _ _ _ _) h1 (fun _ => rfl) (fun _ => rfl) id q
theorem xchg_a (k m : Int) (S : XTab) (h : XInv k m S) (a : Int) (xs ys : List Int) (hx : xs.length ≤ 1000000) (hy : ys.length ≤ 1000000) (id q : Nat) : SCalls Try.prog 37 [.ptr id 0, nums .u64 xs, .agg (hitc a ys)] [(id, .abs (xA k m S))] q (.int .i64 (qaf4 k S xs)) [(id, .abs (xA k m (chgX k S ⟨xs, a, ys⟩)))] := by
 have h1 := xchg_s k m S h.sz h.small a xs ys hx hy h.fr
 exact qacy h1.1 (by decide) (fun σ h => qada _ _ _ _ (h 1 (by decide))) (qadx _ _ _ _) h1 (fun _ => rfl) (fun _ => rfl) id q
theorem xdrop_a (k m : Int) (S : XTab) (h : XInv k m S) (xs : List Int) (hx : xs.length ≤ 1000000) (id q : Nat) : SCalls Try.prog 27 [.ptr id 0, nums .u64 xs] [(id, .abs (xA k m S))] q (.int .i64 (qaf4 k S xs)) [(id, .abs (xA k m (drpX k S xs)))] := by
 have h1 := xdrop_s k m S h.sz h.small xs hx h.pinv
 exact qacy h1.1 (by decide) (fun σ h => qada _ _ _ _ (h 1 (by decide))) (qadx _ _ _ _) h1 (fun _ => rfl) (fun _ => rfl) id q
theorem qao0 (σ : Nat → Nat) (o : Option XSlot) : Go.Proofs.Yticeaegpkpjjeaa.ren σ (qajp o) = qajp o := by cases o <;> rfl
theorem qawg (k m : Int) (S : XTab) (h : XInv k m S) (xs : List Int) (hx : xs.length ≤ 1000000) (id q : Nat) : SCalls Try.prog 31 [.ptr id 0, nums .u64 xs] [(id, .abs (xA k m S))] q (qajp (qadv k S xs)) [(id, .abs (xA k m S))] := by
 have h1 := xfind_s k m S h.sz h.small xs hx h.fr
 exact qacy h1.1 (by decide) (fun σ h => qada _ _ _ _ (h 1 (by decide))) (qadx _ _ _ _) h1 (fun _ => rfl) (fun σ => qao0 σ _) id q
theorem qag0 (S : XTab) : (qadq S).length = cnt S := by
 unfold qadq cnt
 induction S with
 | nil => rfl
 | cons o S ih => cases o <;> simp [ih]
theorem xall_a (k m : Int) (hm : m ≤ 1000) (S : XTab) (h : XInv k m S) (L : List XSlot) (hLl : L.length = cnt S) (hL : ∀ l' : List XSlot, l'.Perm (qadq S) → l'.Pairwise (fun a b => ¬ cmpL b.keys a.keys < 0) → l' = L) (id q : Nat) : SCalls Try.prog 30 [.ptr id 0] [(id, .abs (xA k m S))] q (.view 6 (L.map xec)) [(id, .abs (xA k m S))] := by
 have h1 := xall_s k m (cnt S) S h.sz h.small (by rw [qag0]; rcases h.full with h2 | h2 <;> omega) L (by rw [qag0]; exact hLl) hL
 exact qacy h1.1 (by decide) (fun σ h => qada _ _ _ _ (h 1 (by decide))) (qadx _ _ _ _) h1 (fun _ => rfl) (fun _ => by simp [Go.Proofs.Yticeaegpkpjjeaa.ren, ren1, ren0]) id q
end Go.Proofs.Yticeaegpkpjjeaa
namespace Go.Proofs.Yticeaegpkpjjeaa
set_option linter.all false
open Go.RowKit
theorem qahc {P : Program} {f : FuncId} {args : List SV} {N : Nat} {hh : Hp} (he : Enters P f) (hN : 0 < N) (hN8 : N ≤ 8) (hren : ∀ σ : Nat → Nat, (∀ i, i < N → σ i = i) → RenH σ hh) (hids : ∀ i ∈ idsH hh, i < N)
  (h : SCalls P f args [] 0 (.ptr 0 0) hh) (ha : ∀ σ, args.map (Go.Proofs.Yticeaegpkpjjeaa.ren σ) = args) (q : Nat) : SCalls P f args [] q (.ptr q 0) [(q, .abs (qazb N fun h => h = hh))] := by
 refine ⟨he, fun O ρ fp w vs hok hargs hfr => ?_⟩
 have hO : (fun k => O k ∨ Live [] fp k) = O := by funext k; simp [Live, geth]
 have ha' : Reps w (fun k => O k ∨ Live [] fp k) noPl args vs := by
  have h1 : Reps w (fun k => O k ∨ Live [] fp k) ρ (args.map (Go.Proofs.Yticeaegpkpjjeaa.ren fun _ => q)) vs := by rw [ha]; exact hargs
  have h2 := qadm h1
  have e : (fun id => ρ ((fun _ => q) id)) = noPl := by funext id; exact hfr q (Nat.le_refl _) (by omega)
  rw [e] at h2; exact h2
 have hE : HeapOk O noPl fp [] w := ⟨fun id o ho => by simp [geth] at ho, fun id id' o o' _ ho => by simp [geth] at ho, fun k ⟨id, o, ho, _⟩ => by simp [geth] at ho, hok.O_lt⟩
 refine (h.2 O noPl fp w vs hE ha' (fun _ _ _ => rfl)).mono ?_
 rintro e w' ⟨v, ρ', fp', rfl, q1, q2, q3, q4, q5, q6⟩
 obtain ⟨b, c, hb, rfl⟩ : ∃ b c, ρ' 0 = some (some (b, c)) ∧ v = .pointer (some ⟨b, 0, none⟩) := by
  generalize hy : SV.ptr 0 0 = y at q2
  cases q2 with
  | ptr h => injection hy with e1 e2; subst e1 e2; exact ⟨_, _, h, rfl⟩
  | _ => cases hy
 have hfr8 : ρ' 8 = none := by
  cases e : ρ' 8 with
  | none => rfl
  | some p =>
   rcases q5 8 (by rw [e]; simp) with h3 | h3
   ·exact absurd rfl h3
   ·omega
 let σ : Nat → Nat := fun i => if i < N then i else 8
 have hσ : ∀ {i o}, geth hh i = some o → i < N ∧ σ i = i := fun {i o} ho => by
  have := hids i (qac0 (by rw [ho]; simp))
  exact ⟨this, if_pos this⟩
 let fp2 : Nat → Nat → Prop := fun _ k => Live hh fp' k
 have hl2 : ∀ k, Live [(q, SObj.abs (qazb N fun h => h = hh))] fp2 k ↔ Live hh fp' k := fun k => by
  rw [qadh]
 have hA : (fun k => O k ∨ Live [(q, SObj.abs (qazb N fun h => h = hh))] fp2 k) = fun k => O k ∨ Live hh fp' k := by funext k; rw [hl2 k]
 refine ⟨.pointer (some ⟨b, 0, none⟩), fun i => if i = q then some (some (b, c)) else ρ i, fp2, rfl, ⟨fun i o ho => ?_, fun i i' o o' hne h' h'' => ?_, fun k hk => q1.lt k ((hl2 k).1 hk), q1.O_lt⟩, .ptr (c := c) (by simp), q3, fun i p hp => ?_, fun i hi => ?_, fun i o ho k hk => ?_⟩
 ·simp only [geth] at ho
  split at ho
  ·rename_i e; subst e; cases ho
   rw [hA]
   refine ⟨b, c, by simp, hh, fun i => ρ' (σ i), fp', c, rfl, ?_, fun i hi => ?_, fun i o ho => ?_, q1.disj, fun k hk => (q1.lt k hk).1, fun k => Iff.rfl⟩
   ·show ρ' (σ 0) = _
    rw [show σ 0 = 0 from if_pos hN]; exact hb
   ·show ρ' (σ i) = none
    rw [show σ i = 8 from if_neg (by omega)]; exact hfr8
   ·have h6 := ((hren σ fun i hi => if_pos hi).get i o ho).objM
    have h8 := q1.objs i o ho
    have h9 : ObjRep w' (fun k => O k ∨ Live hh fp' k) ρ' (σ i) (fp' i) o := by rw [(hσ ho).2]; exact h8
    exact h6.back h9
  ·cases ho
 ·simp only [geth] at h' h''
  split at h'
  ·split at h''
   ·omega
   ·cases h''
  ·cases h'
 ·show (if i = q then _ else ρ i) = some p
  split
  ·rename_i e; subst e; rw [hfr i (Nat.le_refl _) (by omega)] at hp; cases hp
  ·exact hp
 ·by_cases e : i = q
  ·exact .inr ⟨by omega, by omega⟩
  ·exact .inl (by simpa [e] using hi)
 ·obtain ⟨i', o', ho', hk'⟩ := (show Live hh fp' k from hk)
  exact (q6 i' o' ho' k hk').imp (fun h => by obtain ⟨_, _, h, _⟩ := h; simp [geth] at h) fun h => h
theorem xnew_a (k m : Int) (q : Nat) : SCalls Try.prog 26 [.int .i64 k, .int .i64 m] [] q (.ptr q 0) [(q, .abs (xA k m (List.replicate (newN m) none)))] := by
 have h1 := xnew_s k m
 have hc : cnt (List.replicate (newN m) none) = 0 := by unfold cnt; rw [List.countP_replicate]; simp
 have h2 := qahc h1.1 (N := 2) (by decide) (by decide) (fun σ h => qada k m 0 (List.replicate (newN m) none) (h 1 (by decide))) (qadx _ _ _ _) h1 (fun _ => rfl) q
 unfold xA
 rw [hc]; exact h2
end Go.Proofs.Yticeaegpkpjjeaa
namespace Go.Proofs.Yticeaegpkpjjeaa
set_option linter.all false
open Go.RowKit
attribute [local simp] qaam qaal qaab qaaf qaac qaae qaaj qaak qaaa qaax SOp.run SX.ev putd puts argS upds SOp.touch SSt.keep SSt.skip gets geth puth delh idOf SV.cells? setL qabu qabv sbin eq0 eq1 eqL qabs qaa9 qaba qaaz qaai qaad qaan qaay qaag qaah FrzOk qaa4 qaav qaa2 qaa3 qaaq qaau qaa7 qaaw qaas qaa5 qaar frzS frzH frz frz1 frz0 SlotsM ObjsM ObjM rn ren ren1 ren0 qabj qabq qabx qabi qaa8 qabr qabw CoL qaa6 qace dels adds idsH qab7
theorem qanq (e z : Nat) (n : Int) : qay6 (.row e z [[.int .u64 n]]) ↔ True := ⟨fun _ => trivial, fun _ x hx => by simp at hx; subst hx; exact qab9 _ rfl⟩
def xbS0 : XTab := List.replicate (newN 1) none
def xbS1 : XTab := addX 1 1 xbS0 ⟨[5], 3, []⟩
theorem xb_v1 : qaj9 1 1 xbS0 [5] = 0 := by kernel_rfl
theorem xb_v2 : qaj9 1 1 xbS1 [6] = 10 := by kernel_rfl
theorem xb_r2 (s : XSlot) (h : s.keys = [6]) : addX 1 1 xbS1 s = xbS1 := by unfold addX; rw [h, xb_v2]; rfl
theorem xb_i0 : XInv 1 1 xbS0 := qano 1 1
theorem xb_i1 : XInv 1 1 xbS1 := by
 unfold xbS1 addX
 rw [if_pos xb_v1]
 exact (qaj8 xb_i0 (s := ⟨[5], 3, []⟩) ⟨by simp, by simp⟩ xb_v1).1
theorem xb_f1 : qajp (qadv 1 xbS1 [5]) = .tup [.agg [.int .i64 3, .view 1 []], .bool true] := by
 have : qadv 1 xbS1 [5] = some ⟨[5], 3, []⟩ := by kernel_rfl
 rw [this]; rfl
theorem xb_s0 : xbS0 = List.replicate (newN 1) none := rfl
theorem xb_s1 : addX 1 1 xbS0 ⟨[5], 3, []⟩ = xbS1 := rfl
attribute [local irreducible] xbS0 xbS1
theorem qaxa (q : Nat) : SCalls Try.prog 24 [] [] q (.bool true) [] := by
 refine qabt ?_ (fun _ => rfl) (fun _ => rfl) rfl q
 have k0 : ∀ q, SCalls Try.prog 26 [.int .i64 1, .int .i64 1] [] q (.ptr q 0) [(q, .abs (xA 1 1 xbS0))] := fun q => by rw [xb_s0]; exact xnew_a 1 1 q
 have k1 := fun q => qaxb 1 1 xbS0 xb_i0 3 [5] [] (by simp) (by simp) 0 q
 have k2 := fun q => qaxb 1 1 xbS1 xb_i1 0 [6] [] (by simp) (by simp) 0 q
 have k3 := fun q => qawg 1 1 xbS1 xb_i1 [5] (by simp) 0 q
 rw [xb_v1, xb_s1] at k1
 rw [xb_v2, xb_r2 _ rfl] at k2
 rw [xb_f1] at k3
 refine qabe (N := 35) Try.func24 rfl rfl (by kernel_rfl) qal7 (by simp) (by repeat' (first | exact trivial | refine And.intro ?_ ?_ | rfl | decide | exact PureR.ren _)) (by repeat' (first | exact trivial | refine And.intro ?_ ?_ | rfl | decide | exact PureR.ren _)) ?_
 rintro X hP hN hm
 unfold c_xbeg
 repeat' (first | ((with_reducible refine qadg (c := .seq (.reg false qakx [1, 2]) _) ?_)) | (with_reducible refine zA ?_) | ((with_reducible refine qaap ?_); (try rw [hP]); simp -implicitDefEqProofs [*]) | (refine qad2 (k0 _) trivial ⟨rfl, trivial⟩ ?_; simp -implicitDefEqProofs [*]) | fail)
 constructor
 refine qaeh (s' := ⟨[(1, .ptr 0 0)], [(0, .abs (xA 1 1 xbS0))], 1⟩) (qab1 [(0, 1)] hm ⟨Co.refl _, trivial⟩ ⟨⟨_, rfl, rfl⟩, trivial⟩ rfl (Nat.zero_le _)) ?_
 refine qaa1 (qai8 3 ?_)
 simp -implicitDefEqProofs
 refine ⟨⟨[(1, .ptr 0 0), (7, .ptr 0 0), (8, nums .u64 [5]), (9, .agg (hitc 3 []))], [(0, .abs (xA 1 1 xbS0))], 1⟩, qai6 [2] [] hm rfl (by simp only [FrzOk, geth, Nat.reduceEqDiff, reduceIte, qanq, and_true]) ⟨Co.refl _, Co.refl _, Co.refl _, qabr ⟨Co.refl _, Co.nilsl 1, trivial⟩, trivial⟩ ⟨⟨_, rfl, rfl⟩, trivial⟩ rfl (Nat.zero_le _), ?_⟩
 simp -implicitDefEqProofs
 rw [hP]
 refine qad2 (k1 _) ⟨rfl, trivial⟩ ⟨rfl, trivial⟩ ?_
 simp -implicitDefEqProofs
 refine qaa1 (qai8 3 ?_)
 simp -implicitDefEqProofs
 refine ⟨⟨[(1, .ptr 0 0), (2, .int .i64 0), (11, .ptr 0 0), (12, nums .u64 [6]), (13, .agg (hitc 0 []))], [(0, .abs (xA 1 1 xbS1))], 1⟩, qai6 [11] [] hm rfl (by simp only [FrzOk, geth, Nat.reduceEqDiff, reduceIte, qanq, and_true]) ⟨Co.refl _, Co.refl _, Co.refl _, Co.refl _, qabr ⟨Co.refl _, Co.nilsl 1, trivial⟩, trivial⟩ ⟨⟨_, rfl, rfl⟩, trivial⟩ rfl (Nat.zero_le _), ?_⟩
 simp -implicitDefEqProofs
 rw [hP]
 refine qad2 (k2 _) ⟨rfl, trivial⟩ ⟨rfl, trivial⟩ ?_
 simp -implicitDefEqProofs
 refine qaa1 (qai8 2 ?_)
 simp -implicitDefEqProofs
 refine ⟨⟨[(1, .ptr 0 0), (2, .int .i64 0), (3, .int .i64 10), (16, .ptr 0 0), (17, nums .u64 [5])], [(0, .abs (xA 1 1 xbS1))], 1⟩, qai6 [11] [] hm rfl (by simp only [FrzOk, geth, Nat.reduceEqDiff, reduceIte, qanq, and_true]) ⟨Co.refl _, Co.refl _, Co.refl _, Co.refl _, Co.refl _, trivial⟩ ⟨⟨_, rfl, rfl⟩, trivial⟩ rfl (Nat.zero_le _), ?_⟩
 simp -implicitDefEqProofs
 rw [hP]
 refine qacx (k3 _) ⟨rfl, trivial⟩ ⟨rfl, trivial⟩ ?_
 simp -implicitDefEqProofs
 repeat' (first | (with_reducible refine zA ?_) | ((with_reducible refine qaap ?_); (try rw [hP]); simp -implicitDefEqProofs [*]) | ((with_reducible refine qabd ?_); (try simp only [qaaz, qaad, qaag])) | (with_reducible refine zN hm ?_) | fail)
 all_goals rfl
end Go.Proofs.Yticeaegpkpjjeaa
namespace Go.Proofs.Yticeaegpkpjjeaa
set_option linter.all false
open Go.RowKit
theorem qabp {S : XTab} {s : XSlot} : s ∈ qadq S ↔ ∃ j : Nat, S[j]? = some (some s) := by
 unfold qadq
 rw [List.mem_filterMap]
 constructor
 ·rintro ⟨o, ho, h⟩
  obtain rfl : o = some s := h
  exact List.getElem?_of_mem ho
 ·rintro ⟨j, hj⟩
  exact ⟨some s, List.mem_of_getElem? hj, rfl⟩
theorem qahi {k m : Int} {S : XTab} (h : XInv k m S) {xs : List Int} : (qab4 S xs).2 = true ↔ ∃ s ∈ qadq S, s.keys = xs := by
 constructor
 ·intro hp
  obtain ⟨s, hs, hk⟩ := qacs _ _ hp
  exact ⟨s, qabp.2 ⟨_, hs⟩, hk⟩
 ·rintro ⟨s, hs, rfl⟩
  obtain ⟨j, hj⟩ := qabp.1 hs
  rw [qaem h hj]
theorem qae4 {k m : Int} {S : XTab} (h : XInv k m S) {s t : XSlot} (hs : s ∈ qadq S) (ht : t ∈ qadq S) (e : s.keys = t.keys) : s = t := by
 obtain ⟨i, hi⟩ := qabp.1 hs
 obtain ⟨j, hj⟩ := qabp.1 ht
 have : i = j := h.pinv.uniq i j s t (by have := qab8 hi; omega) (by have := qab8 hj; omega) hi hj e
 subst this
 rw [hi] at hj
 exact Option.some.inj (Option.some.inj hj)
theorem qahr {k m : Int} {S : XTab} (h : XInv k m S) : (qadq S).Pairwise fun a b => a.keys ≠ b.keys := by
 unfold qadq
 rw [List.pairwise_filterMap, List.pairwise_iff_getElem]
 intro i j hi hj hij a ha b hb e
 have h1 : S[i]? = some (some a) := by rw [List.getElem?_eq_getElem hi]; exact congrArg some ha
 have h2 : S[j]? = some (some b) := by rw [List.getElem?_eq_getElem hj]; exact congrArg some hb
 have := h.pinv.uniq i j a b (by omega) (by omega) h1 h2 e
 omega
theorem qafy {k m : Int} {S : XTab} (h : XInv k m S) {s : XSlot} (hs : s ∈ qadq S) : qadv k S s.keys = some s := by
 obtain ⟨j, hj⟩ := qabp.1 hs
 unfold qadv
 rw [if_neg (by rw [h.fit j s hj]; simp), qaem h hj, if_pos rfl, hj]; rfl
theorem qafz {k m : Int} {S : XTab} (h : XInv k m S) {xs : List Int} (hx : ∀ s ∈ qadq S, s.keys ≠ xs) : qadv k S xs = none := by
 unfold qadv
 split
 ·rfl
 ·rw [if_neg fun hp => by
   obtain ⟨s, hs, hk⟩ := (qahi h).1 hp
   exact hx s hs hk]
end Go.Proofs.Yticeaegpkpjjeaa
namespace Go.Proofs.Yticeaegpkpjjeaa
set_option linter.all false
open Go.RowKit
def qaka (a b : XSlot) : Prop := ¬ cmpL b.keys a.keys < 0
theorem qahb {l : List XSlot} (hk : ∀ s ∈ l, ∀ t ∈ l, s.keys = t.keys → s = t) : ∀ (l1 l2 : List XSlot), (∀ x ∈ l1, x ∈ l) → l1.Perm l2 → l1.Pairwise qaka → l2.Pairwise qaka → l1 = l2
 | [], l2, _, hp, _, _ => hp.nil_eq
 | a :: t, [], _, hp, _, _ => by have := hp.length_eq; simp at this
 | a :: t, b :: u, hm, hp, h1, h2 => by
  have hab : a = b := by
   rcases List.mem_cons.1 (hp.mem_iff.1 (List.mem_cons_self ..)) with e | ha
   ·exact e
   rcases List.mem_cons.1 (hp.mem_iff.2 (List.mem_cons_self ..)) with e | hb
   ·exact e.symm
   have g1 : ¬ cmpL b.keys a.keys < 0 := (List.pairwise_cons.1 h1).1 b hb
   have g2 : ¬ cmpL a.keys b.keys < 0 := (List.pairwise_cons.1 h2).1 a ha
   have g3 := qacq a.keys b.keys
   exact hk a (hm a (by simp)) b (hm b (by simp [hb])) ((qaec _ _).1 (by omega))
  subst hab
  rw [qahb hk t u (fun x hx => hm x (by simp [hx])) (hp.cons_inv) (List.pairwise_cons.1 h1).2 (List.pairwise_cons.1 h2).2]
def leX (a b : XSlot) : Bool := decide (¬ cmpL b.keys a.keys < 0)
def qaln (S : XTab) : List XSlot := (qadq S).mergeSort leX
theorem qad5 (S : XTab) : (qaln S).Perm (qadq S) := List.mergeSort_perm _ _
theorem qafa (S : XTab) : (qaln S).Pairwise qaka := by
 have h := List.pairwise_mergeSort (le := leX) (fun a b c h1 h2 => by
  unfold leX at *
  simp only [decide_eq_true_eq] at *
  have e1 := qacq a.keys b.keys
  have e2 := qacq b.keys c.keys
  have e3 := qacq a.keys c.keys
  have := qaed a.keys b.keys c.keys (by omega) (by omega)
  omega) (fun a b => by
  unfold leX
  have e1 := qacq a.keys b.keys
  simp only [Bool.or_eq_true, decide_eq_true_eq]
  omega) (qadq S)
 exact h.imp fun {a b} h => of_decide_eq_true h
theorem xall_b (k m : Int) (hm : m ≤ 1000) (S : XTab) (h : XInv k m S) (id q : Nat) : SCalls Try.prog 30 [.ptr id 0] [(id, .abs (xA k m S))] q (.view 6 ((qaln S).map xec)) [(id, .abs (xA k m S))] :=
 xall_a k m hm S h (qaln S) (by rw [(qad5 S).length_eq, qag0]) (fun l' hp hs => qahb (l := qadq S) (fun s hs t ht => qae4 h hs ht) l' _ (fun x hx => hp.mem_iff.1 hx) (hp.trans (qad5 S).symm) hs (qafa S)) id q
end Go.Proofs.Yticeaegpkpjjeaa
namespace Go.Proofs.Yticeaegpkpjjeaa
set_option linter.all false
open Go.RowKit
abbrev qavz : List SOper := [⟨(some 4), .mv (.c (.int .i64 0)), none, none, 0⟩]
abbrev qavy : List SOper := [⟨(some 5), .mv (.c (.int .i64 0)), none, none, 0⟩]
abbrev qavx : List SOper := [⟨(some 6), .mv (.t 5), none, none, 0⟩,
 ⟨(some 7), .mv (.t 0), none, none, 0⟩,
 ⟨(some 8), .len false (.t 7), none, none, 0⟩,
 ⟨(some 9), .bin .lss (.t 6) (.t 8), none, none, 0⟩,
 ⟨(some 10), .mv (.t 9), none, none, 0⟩,
 ⟨(some 11), .mv (.t 5), none, (some (10, true)), 0⟩,
 ⟨(some 12), .mv (.t 1), none, (some (10, true)), 0⟩,
 ⟨(some 13), .len false (.t 12), none, (some (10, true)), 0⟩,
 ⟨(some 14), .bin .lss (.t 11) (.t 13), none, (some (10, true)), 0⟩,
 ⟨(some 15), .pick (.t 10) (.t 14) (.c (.bool false)), none, none, 0⟩]
abbrev qavw : List SOper := [⟨(some 18), .mv (.t 0), none, none, 0⟩,
 ⟨(some 19), .mv (.t 5), none, none, 0⟩,
 ⟨(some 20), .iaddr 1 (.t 18) (.t 19), none, none, 3⟩,
 ⟨(some 21), .load (.t 20), none, none, 7⟩,
 ⟨(some 22), .mv (.t 1), none, none, 0⟩,
 ⟨(some 23), .mv (.t 5), none, none, 0⟩,
 ⟨(some 24), .iaddr 1 (.t 22) (.t 23), none, none, 48⟩,
 ⟨(some 25), .load (.t 24), none, none, 112⟩,
 ⟨(some 26), .bin .lss (.t 21) (.t 25), none, none, 255⟩]
abbrev qavv : List SOper := [⟨(some 4), .mv (.c (.int .i64 (-1))), none, none, 0⟩]
abbrev qavu : List SOper := [⟨(some 27), .mv (.t 0), none, none, 0⟩,
 ⟨(some 28), .mv (.t 5), none, none, 0⟩,
 ⟨(some 29), .iaddr 1 (.t 27) (.t 28), none, none, 3⟩,
 ⟨(some 30), .load (.t 29), none, none, 7⟩,
 ⟨(some 31), .mv (.t 1), none, none, 0⟩,
 ⟨(some 32), .mv (.t 5), none, none, 0⟩,
 ⟨(some 33), .iaddr 1 (.t 31) (.t 32), none, none, 48⟩,
 ⟨(some 34), .load (.t 33), none, none, 112⟩,
 ⟨(some 35), .bin .gtr (.t 30) (.t 34), none, none, 255⟩]
abbrev qavt : List SOper := [⟨(some 4), .mv (.c (.int .i64 1)), none, none, 0⟩]
abbrev qavs : List SOper := [⟨(some 16), .mv (.t 5), none, none, 0⟩,
 ⟨(some 17), .bin .add (.t 16) (.c (.int .i64 1)), none, none, 0⟩,
 ⟨(some 5), .mv (.t 17), none, none, 0⟩]
def qalj : SCode := (.seq (.seq (.reg false qavx [0, 1, 5, 15]) (.cond (.t 15) .skip (.exit 0))) (.seq (.block 1 (.seq (.seq (.reg true qavw [0, 1, 5, 26]) (.cond (.t 26) (.seq (.reg false qavv [4]) .ret) .skip)) (.seq (.reg true qavu [0, 1, 5, 35]) (.cond (.t 35) (.seq (.reg false qavt [4]) .ret) .skip)))) (.reg false qavs [0, 1, 5])))
abbrev qavr : List SOper := [⟨(some 36), .mv (.t 0), none, none, 0⟩,
 ⟨(some 37), .len false (.t 36), none, none, 0⟩,
 ⟨(some 38), .mv (.t 1), none, none, 0⟩,
 ⟨(some 39), .len false (.t 38), none, none, 0⟩,
 ⟨(some 40), .bin .lss (.t 37) (.t 39), none, none, 0⟩]
abbrev qaru : List SOper := [⟨(some 4), .mv (.c (.int .i64 (-1))), none, none, 0⟩]
abbrev qart : List SOper := [⟨(some 41), .mv (.t 0), none, none, 0⟩,
 ⟨(some 42), .len false (.t 41), none, none, 0⟩,
 ⟨(some 43), .mv (.t 1), none, none, 0⟩,
 ⟨(some 44), .len false (.t 43), none, none, 0⟩,
 ⟨(some 45), .bin .gtr (.t 42) (.t 44), none, none, 0⟩]
abbrev qars : List SOper := [⟨(some 4), .mv (.c (.int .i64 1)), none, none, 0⟩]
abbrev qarr : List SOper := [⟨(some 4), .mv (.c (.int .i64 0)), none, none, 0⟩]
def c_less : SCode := (.seq (.reg false qavz [0, 1]) (.seq (.seq (.reg false qavy [0, 1, 5]) (.block 0 (.loop qalj))) (.seq (.seq (.reg false qavr [0, 1, 40]) (.cond (.t 40) (.seq (.reg false qaru [4]) .ret) .skip)) (.seq (.seq (.reg false qart [45]) (.cond (.t 45) (.seq (.reg false qars [4]) .ret) .skip)) (.seq (.reg false qarr [4]) .ret)))))
theorem qamk : comp Try.prog 46 ((Try.f120.body).getD .skip) = some c_less.erase := by kernel_rfl
abbrev qayv : List SOper := [⟨(some 3), .box 65 (.t 1), none, none, 0⟩,
 ⟨(some 4), .mv (.c (.int .i64 0)), none, none, 0⟩]
abbrev qayu : List SOper := [⟨(some 7), .mv (.t 0), none, none, 0⟩,
 ⟨(some 8), .nilc (.t 7), none, none, 0⟩,
 ⟨(some 9), .faddr 0 (.t 8), none, none, 0⟩,
 ⟨(some 10), .load (.t 9), none, none, 0⟩]
abbrev qayt : List SOper := [⟨(some 12), .bin .eql (.t 10) (.c (.int .i64 1)), none, none, 0⟩,
 ⟨(some 11), .mv (.t 12), none, none, 0⟩]
abbrev qays : List SOper := [⟨(some 13), .faddr 0 (.t 3), none, none, 0⟩,
 ⟨(some 14), .load (.t 13), none, none, 1⟩,
 ⟨(some 15), .len false (.t 14), none, none, 3⟩,
 ⟨(some 16), .mv (.t 0), none, none, 0⟩,
 ⟨(some 17), .nilc (.t 16), none, none, 8⟩,
 ⟨(some 18), .faddr 1 (.t 17), none, none, 24⟩,
 ⟨(some 19), .load (.t 18), none, none, 56⟩,
 ⟨(some 20), .bin .neq (.t 15) (.t 19), none, none, 127⟩]
abbrev qayr : List SOper := [⟨(some 4), .mv (.c (.int .i64 2)), none, none, 0⟩]
abbrev qayq : List SOper := [⟨(some 22), .bin .eql (.t 10) (.c (.int .i64 2)), none, none, 0⟩,
 ⟨(some 21), .mv (.t 22), none, none, 0⟩]
abbrev qayp : List SOper := [⟨(some 23), .faddr 0 (.t 3), none, none, 0⟩,
 ⟨(some 24), .load (.t 23), none, none, 1⟩,
 ⟨(some 25), .len false (.t 24), none, none, 3⟩,
 ⟨(some 26), .bin .neq (.t 25) (.c (.int .i64 1)), none, none, 7⟩,
 ⟨(some 27), .mv (.t 26), none, none, 15⟩,
 ⟨(some 28), .mv (.t 0), none, (some (27, false)), 31⟩,
 ⟨(some 29), .nilc (.t 28), none, (some (27, false)), 63⟩,
 ⟨(some 30), .faddr 2 (.t 29), none, (some (27, false)), 127⟩,
 ⟨(some 31), .load (.t 30), none, (some (27, false)), 255⟩,
 ⟨(some 32), .bin .lss (.t 31) (.c (.int .i64 1)), none, (some (27, false)), 511⟩,
 ⟨(some 33), .pick (.t 27) (.c (.bool true)) (.t 32), none, none, 1023⟩,
 ⟨(some 34), .mv (.t 33), none, none, 2047⟩,
 ⟨(some 35), .mv (.t 0), none, (some (34, false)), 4095⟩,
 ⟨(some 36), .nilc (.t 35), none, (some (34, false)), 8191⟩,
 ⟨(some 37), .faddr 2 (.t 36), none, (some (34, false)), 16383⟩,
 ⟨(some 38), .load (.t 37), none, (some (34, false)), 32767⟩,
 ⟨(some 39), .bin .gtr (.t 38) (.c (.int .i64 64)), none, (some (34, false)), 65535⟩,
 ⟨(some 40), .pick (.t 34) (.c (.bool true)) (.t 39), none, none, 131071⟩,
 ⟨(some 41), .mv (.t 40), none, none, 262143⟩,
 ⟨(some 42), .faddr 2 (.t 3), none, (some (41, false)), 524287⟩,
 ⟨(some 43), .load (.t 42), none, (some (41, false)), 1048575⟩,
 ⟨(some 44), .bin .lss (.t 43) (.c (.int .i64 0)), none, (some (41, false)), 2097151⟩,
 ⟨(some 45), .pick (.t 41) (.c (.bool true)) (.t 44), none, none, 4194303⟩,
 ⟨(some 46), .mv (.t 45), none, none, 8388607⟩,
 ⟨(some 47), .faddr 2 (.t 3), none, (some (46, false)), 16777215⟩,
 ⟨(some 48), .load (.t 47), none, (some (46, false)), 33554431⟩,
 ⟨(some 49), .mv (.t 0), none, (some (46, false)), 16777215⟩,
 ⟨(some 50), .nilc (.t 49), none, (some (46, false)), 83886079⟩,
 ⟨(some 51), .faddr 2 (.t 50), none, (some (46, false)), 218103807⟩,
 ⟨(some 52), .load (.t 51), none, (some (46, false)), 486539263⟩,
 ⟨(some 53), .bin .gtr (.t 48) (.t 52), none, (some (46, false)), 1073741823⟩,
 ⟨(some 54), .pick (.t 46) (.c (.bool true)) (.t 53), none, none, 2147483647⟩,
 ⟨(some 55), .mv (.t 54), none, none, 4294967295⟩,
 ⟨(some 56), .faddr 0 (.t 3), none, (some (55, false)), 8589934591⟩,
 ⟨(some 57), .load (.t 56), none, (some (55, false)), 17179869183⟩,
 ⟨(some 58), .iaddr 1 (.t 57) (.c (.int .i64 0)), none, (some (55, false)), 34359738367⟩,
 ⟨(some 59), .load (.t 58), none, (some (55, false)), 68719476735⟩,
 ⟨(some 60), .mv (.t 0), none, (some (55, false)), 8589934591⟩,
 ⟨(some 61), .nilc (.t 60), none, (some (55, false)), 146028888063⟩,
 ⟨(some 62), .faddr 2 (.t 61), none, (some (55, false)), 420906795007⟩,
 ⟨(some 63), .load (.t 62), none, (some (55, false)), 970662608895⟩,
 ⟨(some 64), .mv (.c .any), some ((.c (.fn (.func 79) [] [])), [(.t 59), (.t 63)]), (some (55, false)), 2199023255551⟩,
 ⟨(some 65), .pick (.t 55) (.c (.bool true)) (.t 64), none, none, 4398046511103⟩]
abbrev qayo : List SOper := [⟨(some 4), .mv (.c (.int .i64 6)), none, none, 0⟩]
abbrev qayn : List SOper := [⟨(some 66), .mv (.t 0), none, none, 0⟩,
 ⟨(some 67), .nilc (.t 66), none, none, 1⟩,
 ⟨(some 68), .faddr 2 (.t 67), none, none, 3⟩,
 ⟨(some 69), .load (.t 68), none, none, 7⟩,
 ⟨(some 70), .faddr 2 (.t 3), none, none, 0⟩,
 ⟨(some 71), .load (.t 70), none, none, 16⟩,
 ⟨(some 72), .bin .sub (.t 69) (.t 71), none, none, 63⟩,
 ⟨(some 73), .mv (.c .any), some ((.c (.fn (.func 118) [] [])), [(.t 72)]), none, 127⟩,
 ⟨(some 5), .mv (.t 73), none, none, 255⟩]
abbrev qavq : List SOper := [⟨(some 74), .faddr 0 (.t 3), none, none, 0⟩,
 ⟨(some 75), .load (.t 74), none, none, 0⟩,
 ⟨(some 76), .iaddr 1 (.t 75) (.c (.int .i64 0)), none, none, 0⟩,
 ⟨(some 77), .load (.t 76), none, none, 0⟩,
 ⟨(some 78), .mv (.t 5), none, none, 0⟩,
 ⟨(some 79), .bin .and (.t 77) (.t 78), none, none, 0⟩,
 ⟨(some 80), .bin .neq (.t 79) (.c (.int .u64 0)), none, none, 0⟩]
abbrev qavp : List SOper := [⟨(some 4), .mv (.c (.int .i64 6)), none, none, 0⟩]
abbrev qavo : List SOper := [⟨(some 82), .bin .eql (.t 10) (.c (.int .i64 3)), none, none, 0⟩,
 ⟨(some 81), .mv (.t 82), none, none, 0⟩]
abbrev qavn : List SOper := [⟨(some 83), .faddr 0 (.t 3), none, none, 0⟩,
 ⟨(some 84), .load (.t 83), none, none, 1⟩,
 ⟨(some 85), .len false (.t 84), none, none, 3⟩,
 ⟨(some 86), .mv (.t 0), none, none, 0⟩,
 ⟨(some 87), .nilc (.t 86), none, none, 8⟩,
 ⟨(some 88), .faddr 1 (.t 87), none, none, 24⟩,
 ⟨(some 89), .load (.t 88), none, none, 56⟩,
 ⟨(some 90), .bin .neq (.t 85) (.t 89), none, none, 127⟩,
 ⟨(some 91), .mv (.t 90), none, none, 255⟩,
 ⟨(some 92), .faddr 1 (.t 3), none, (some (91, false)), 511⟩,
 ⟨(some 93), .load (.t 92), none, (some (91, false)), 1023⟩,
 ⟨(some 94), .len false (.t 93), none, (some (91, false)), 2047⟩,
 ⟨(some 95), .mv (.t 0), none, (some (91, false)), 511⟩,
 ⟨(some 96), .nilc (.t 95), none, (some (91, false)), 4607⟩,
 ⟨(some 97), .faddr 1 (.t 96), none, (some (91, false)), 12799⟩,
 ⟨(some 98), .load (.t 97), none, (some (91, false)), 29183⟩,
 ⟨(some 99), .bin .neq (.t 94) (.t 98), none, (some (91, false)), 65535⟩,
 ⟨(some 100), .pick (.t 91) (.c (.bool true)) (.t 99), none, none, 131071⟩,
 ⟨(some 101), .mv (.t 100), none, none, 262143⟩,
 ⟨(some 102), .faddr 3 (.t 3), none, (some (101, false)), 524287⟩,
 ⟨(some 103), .load (.t 102), none, (some (101, false)), 1048575⟩,
 ⟨(some 104), .bin .lss (.t 103) (.c (.int .i64 0)), none, (some (101, false)), 2097151⟩,
 ⟨(some 105), .pick (.t 101) (.c (.bool true)) (.t 104), none, none, 4194303⟩,
 ⟨(some 106), .mv (.t 105), none, none, 8388607⟩,
 ⟨(some 107), .faddr 3 (.t 3), none, (some (106, false)), 16777215⟩,
 ⟨(some 108), .load (.t 107), none, (some (106, false)), 33554431⟩,
 ⟨(some 109), .bin .gtr (.t 108) (.c (.int .i64 1000)), none, (some (106, false)), 67108863⟩,
 ⟨(some 110), .pick (.t 106) (.c (.bool true)) (.t 109), none, none, 134217727⟩]
abbrev qavm : List SOper := [⟨(some 4), .mv (.c (.int .i64 6)), none, none, 0⟩]
abbrev qavl : List SOper := [⟨(some 6), .mv (.c (.int .i64 0)), none, none, 0⟩]
abbrev qavk : List SOper := [⟨(some 111), .mv (.t 6), none, none, 0⟩,
 ⟨(some 112), .mv (.t 0), none, none, 0⟩,
 ⟨(some 113), .nilc (.t 112), none, none, 0⟩,
 ⟨(some 114), .faddr 1 (.t 113), none, none, 0⟩,
 ⟨(some 115), .load (.t 114), none, none, 0⟩,
 ⟨(some 116), .bin .lss (.t 111) (.t 115), none, none, 0⟩]
abbrev qavj : List SOper := [⟨(some 119), .faddr 0 (.t 3), none, none, 0⟩,
 ⟨(some 120), .load (.t 119), none, none, 1⟩,
 ⟨(some 121), .mv (.t 6), none, none, 0⟩,
 ⟨(some 122), .iaddr 1 (.t 120) (.t 121), none, none, 7⟩,
 ⟨(some 123), .load (.t 122), none, none, 15⟩,
 ⟨(some 124), .faddr 1 (.t 3), none, none, 0⟩,
 ⟨(some 125), .load (.t 124), none, none, 32⟩,
 ⟨(some 126), .mv (.t 6), none, none, 0⟩,
 ⟨(some 127), .iaddr 1 (.t 125) (.t 126), none, none, 224⟩,
 ⟨(some 128), .load (.t 127), none, none, 480⟩,
 ⟨(some 129), .bin .and (.t 123) (.t 128), none, none, 1023⟩,
 ⟨(some 130), .faddr 0 (.t 3), none, none, 0⟩,
 ⟨(some 131), .load (.t 130), none, none, 2048⟩,
 ⟨(some 132), .mv (.t 6), none, none, 0⟩,
 ⟨(some 133), .iaddr 1 (.t 131) (.t 132), none, none, 14336⟩,
 ⟨(some 134), .load (.t 133), none, none, 30720⟩,
 ⟨(some 135), .bin .neq (.t 129) (.t 134), none, none, 65535⟩]
abbrev qavi : List SOper := [⟨(some 4), .mv (.c (.int .i64 6)), none, none, 0⟩]
abbrev qavh : List SOper := [⟨(some 117), .mv (.t 6), none, none, 0⟩,
 ⟨(some 118), .bin .add (.t 117) (.c (.int .i64 1)), none, none, 0⟩,
 ⟨(some 6), .mv (.t 118), none, none, 0⟩]
def qarq : SCode := (.seq (.seq (.reg false qavk [0, 3, 6, 116]) (.cond (.t 116) .skip (.exit 1))) (.seq (.block 2 (.seq (.reg true qavj [0, 3, 6, 135]) (.cond (.t 135) (.seq (.reg false qavi [4]) .ret) .skip))) (.reg false qavh [0, 3, 6])))
abbrev qavg : List SOper := [⟨(some 4), .mv (.c (.int .i64 0)), none, none, 0⟩]
def c_may : SCode := (.seq (.reg false qayv [0, 3]) (.seq (.seq (.reg false qayu [0, 3, 10]) (.block 0 (.seq (.reg false qayt [0, 3, 10, 11]) (.cond (.t 11) (.seq (.reg true qays [20]) (.cond (.t 20) (.seq (.reg false qayr [4]) .ret) .skip)) (.seq (.reg false qayq [0, 3, 10, 21]) (.cond (.t 21) (.seq (.seq (.reg true qayp [0, 3, 65]) (.cond (.t 65) (.seq (.reg false qayo [4]) .ret) .skip)) (.seq (.reg true qayn [3, 5]) (.seq (.reg false qavq [80]) (.cond (.t 80) (.seq (.reg false qavp [4]) .ret) .skip)))) (.seq (.reg false qavo [0, 3, 81]) (.cond (.t 81) (.seq (.seq (.reg true qavn [0, 3, 110]) (.cond (.t 110) (.seq (.reg false qavm [4]) .ret) .skip)) (.seq (.reg false qavl [0, 3, 6]) (.block 1 (.loop qarq)))) .skip)))))))) (.seq (.reg false qavg [4]) .ret)))
theorem qapa : comp Try.prog 136 ((Try.f76.body).getD .skip) = some c_may.erase := by kernel_rfl
abbrev qauo : List SOper := [⟨(some 4), .box 65 (.t 1), none, none, 0⟩,
 ⟨(some 5), .box 65 (.t 2), none, none, 0⟩,
 ⟨(some 6), .mv (.c (.bool false)), none, none, 0⟩]
abbrev qaun : List SOper := [⟨(some 7), .mv (.t 0), none, none, 0⟩,
 ⟨(some 8), .nilc (.t 7), none, none, 0⟩,
 ⟨(some 9), .faddr 0 (.t 8), none, none, 0⟩,
 ⟨(some 10), .load (.t 9), none, none, 0⟩,
 ⟨(some 11), .bin .eql (.t 10) (.c (.int .i64 3)), none, none, 0⟩,
 ⟨(some 12), .mv (.t 11), none, none, 0⟩,
 ⟨(some 13), .faddr 3 (.t 4), none, (some (12, true)), 0⟩,
 ⟨(some 14), .load (.t 13), none, (some (12, true)), 0⟩,
 ⟨(some 15), .faddr 3 (.t 5), none, (some (12, true)), 0⟩,
 ⟨(some 16), .load (.t 15), none, (some (12, true)), 0⟩,
 ⟨(some 17), .bin .neq (.t 14) (.t 16), none, (some (12, true)), 0⟩,
 ⟨(some 18), .mv (.t 17), none, (some (12, true)), 0⟩,
 ⟨(some 19), .faddr 1 (.t 4), none, (some (18, false)), 0⟩,
 ⟨(some 20), .load (.t 19), none, (some (18, false)), 0⟩,
 ⟨(some 21), .faddr 1 (.t 5), none, (some (18, false)), 0⟩,
 ⟨(some 22), .load (.t 21), none, (some (18, false)), 0⟩,
 ⟨(some 23), .mv (.c .any), some ((.c (.fn (.func 18) [] [])), [(.t 20), (.t 22)]), (some (18, false)), 0⟩,
 ⟨(some 24), .un .not (.t 23), none, (some (18, false)), 0⟩,
 ⟨(some 25), .pick (.t 18) (.c (.bool true)) (.t 24), none, (some (12, true)), 0⟩,
 ⟨(some 26), .pick (.t 12) (.t 25) (.c (.bool false)), none, none, 0⟩,
 ⟨(some 27), .mv (.t 26), none, none, 0⟩,
 ⟨(some 28), .mv (.t 0), none, (some (27, false)), 0⟩,
 ⟨(some 29), .nilc (.t 28), none, (some (27, false)), 0⟩,
 ⟨(some 30), .faddr 0 (.t 29), none, (some (27, false)), 0⟩,
 ⟨(some 31), .load (.t 30), none, (some (27, false)), 0⟩,
 ⟨(some 32), .bin .eql (.t 31) (.c (.int .i64 2)), none, (some (27, false)), 0⟩,
 ⟨(some 33), .mv (.t 32), none, (some (27, false)), 0⟩,
 ⟨(some 34), .faddr 2 (.t 4), none, (some (33, true)), 0⟩,
 ⟨(some 35), .load (.t 34), none, (some (33, true)), 0⟩,
 ⟨(some 36), .faddr 2 (.t 5), none, (some (33, true)), 0⟩,
 ⟨(some 37), .load (.t 36), none, (some (33, true)), 0⟩,
 ⟨(some 38), .bin .neq (.t 35) (.t 37), none, (some (33, true)), 0⟩,
 ⟨(some 39), .pick (.t 33) (.t 38) (.c (.bool false)), none, (some (27, false)), 0⟩,
 ⟨(some 40), .pick (.t 27) (.c (.bool true)) (.t 39), none, none, 0⟩]
abbrev qaum : List SOper := [⟨(some 6), .mv (.c (.bool false)), none, none, 0⟩]
abbrev qaul : List SOper := [⟨(some 41), .faddr 0 (.t 4), none, none, 0⟩,
 ⟨(some 42), .load (.t 41), none, none, 0⟩,
 ⟨(some 43), .faddr 0 (.t 5), none, none, 0⟩,
 ⟨(some 44), .load (.t 43), none, none, 0⟩,
 ⟨(some 45), .mv (.c .any), some ((.c (.fn (.func 18) [] [])), [(.t 42), (.t 44)]), none, 0⟩,
 ⟨(some 6), .mv (.t 45), none, none, 0⟩]
def c_rone : SCode := (.seq (.reg false qauo [0, 4, 5]) (.seq (.seq (.reg false qaun [4, 5, 40]) (.cond (.t 40) (.seq (.reg false qaum [6]) .ret) .skip)) (.seq (.reg false qaul [6]) .ret)))
theorem qame : comp Try.prog 46 ((Try.f119.body).getD .skip) = some c_rone.erase := by kernel_rfl
abbrev qaym : List SOper := [⟨(some 3), .box 65 (.t 1), none, none, 0⟩,
 ⟨(some 4), .mv (.c (.int .i64 0)), none, none, 0⟩]
abbrev qayl : List SOper := [⟨(some 5), .mv (.c (.int .i64 0)), none, none, 0⟩]
abbrev qayk : List SOper := [⟨(some 6), .mv (.t 5), none, none, 0⟩,
 ⟨(some 7), .mv (.t 0), none, none, 0⟩,
 ⟨(some 8), .nilc (.t 7), none, none, 0⟩,
 ⟨(some 9), .faddr 4 (.t 8), none, none, 0⟩,
 ⟨(some 10), .load (.t 9), none, none, 0⟩,
 ⟨(some 11), .len false (.t 10), none, none, 0⟩,
 ⟨(some 12), .bin .lss (.t 6) (.t 11), none, none, 0⟩]
abbrev qayj : List SOper := [⟨(some 15), .mv (.t 0), none, none, 0⟩,
 ⟨(some 16), .mv (.t 0), none, none, 0⟩,
 ⟨(some 17), .nilc (.t 16), none, none, 2⟩,
 ⟨(some 18), .faddr 4 (.t 17), none, none, 6⟩,
 ⟨(some 19), .load (.t 18), none, none, 14⟩,
 ⟨(some 20), .mv (.t 5), none, none, 0⟩,
 ⟨(some 21), .iaddr 6 (.t 19) (.t 20), none, none, 62⟩,
 ⟨(some 22), .loads 6 (.t 21), none, none, 126⟩,
 ⟨(some 23), .loads 6 (.t 3), none, none, 0⟩,
 ⟨(some 24), .mv (.c .any), some ((.c (.fn (.func 119) [] [])), [(.t 15), (.t 22), (.t 23)]), none, 511⟩]
abbrev qayi : List SOper := [⟨(some 25), .mv (.t 5), none, none, 0⟩,
 ⟨(some 4), .mv (.t 25), none, none, 0⟩]
abbrev qayh : List SOper := [⟨(some 13), .mv (.t 5), none, none, 0⟩,
 ⟨(some 14), .bin .add (.t 13) (.c (.int .i64 1)), none, none, 0⟩,
 ⟨(some 5), .mv (.t 14), none, none, 0⟩]
def qaq6 : SCode := (.seq (.seq (.reg false qayk [0, 3, 5, 12]) (.cond (.t 12) .skip (.exit 0))) (.seq (.block 1 (.seq (.reg true qayj [0, 3, 5, 24]) (.cond (.t 24) (.seq (.reg false qayi [4]) .ret) .skip))) (.reg false qayh [0, 3, 5])))
abbrev qayg : List SOper := [⟨(some 4), .mv (.c (.int .i64 (-1))), none, none, 0⟩]
def c_rat : SCode := (.seq (.reg false qaym [0, 3]) (.seq (.seq (.reg false qayl [0, 3, 5]) (.block 0 (.loop qaq6))) (.seq (.reg false qayg [4]) .ret)))
theorem qao8 : comp Try.prog 26 ((Try.f77.body).getD .skip) = some c_rat.erase := by kernel_rfl
abbrev qav6 : List SOper := [⟨(some 3), .box 65 (.t 1), none, none, 0⟩,
 ⟨(some 4), .alloc 65 [.nilsl, .nilsl, (.int .i64 0), (.int .i64 0), (.int .i64 0), .nilsl], none, none, 0⟩]
abbrev qav5 : List SOper := [⟨(some 5), .loads 6 (.t 3), none, none, 0⟩,
 ⟨(some 6), .mv (.c .any), some ((.c (.fn (.func 75) [] [])), [(.t 5)]), none, 0⟩,
 ⟨none, .store 6 (.t 3) (.t 6), none, none, 0⟩]
abbrev qav4 : List SOper := [⟨(some 7), .mv (.t 0), none, none, 0⟩,
 ⟨(some 8), .nilc (.t 7), none, none, 0⟩,
 ⟨(some 9), .faddr 0 (.t 8), none, none, 0⟩,
 ⟨(some 10), .load (.t 9), none, none, 0⟩,
 ⟨(some 11), .bin .neq (.t 10) (.c (.int .i64 3)), none, none, 0⟩]
abbrev qav3 : List SOper := [⟨(some 12), .faddr 1 (.t 3), none, none, 0⟩,
 ⟨none, .store 1 (.t 12) (.c .nilsl), none, none, 0⟩,
 ⟨(some 13), .faddr 3 (.t 3), none, none, 0⟩,
 ⟨none, .store 1 (.t 13) (.c (.int .i64 0)), none, none, 0⟩]
abbrev qav2 : List SOper := [⟨(some 14), .mv (.t 0), none, none, 0⟩,
 ⟨(some 15), .nilc (.t 14), none, none, 0⟩,
 ⟨(some 16), .faddr 0 (.t 15), none, none, 0⟩,
 ⟨(some 17), .load (.t 16), none, none, 0⟩,
 ⟨(some 18), .bin .neq (.t 17) (.c (.int .i64 2)), none, none, 0⟩]
abbrev qav1 : List SOper := [⟨(some 19), .faddr 2 (.t 3), none, none, 0⟩,
 ⟨none, .store 1 (.t 19) (.c (.int .i64 0)), none, none, 0⟩]
abbrev qav0 : List SOper := [⟨(some 20), .loads 6 (.t 3), none, none, 0⟩,
 ⟨none, .store 6 (.t 4) (.t 20), none, none, 0⟩]
def c_kept : SCode := (.seq (.reg false qav6 [0, 3, 4]) (.seq (.reg false qav5 [0, 3, 4]) (.seq (.seq (.reg false qav4 [0, 3, 4, 11]) (.cond (.t 11) (.reg false qav3 [0, 3, 4]) .skip)) (.seq (.seq (.reg false qav2 [3, 4, 18]) (.cond (.t 18) (.reg false qav1 [3, 4]) .skip)) (.seq (.reg false qav0 [4]) .ret)))))
theorem qaml : comp Try.prog 21 ((Try.f78.body).getD .skip) = some c_kept.erase := by kernel_rfl
abbrev qavf : List SOper := [⟨(some 3), .box 65 (.t 1), none, none, 0⟩,
 ⟨(some 4), .mv (.c (.int .i64 0)), none, none, 0⟩]
abbrev qave : List SOper := [⟨(some 10), .mv (.t 0), none, none, 0⟩,
 ⟨(some 11), .loads 6 (.t 3), none, none, 0⟩,
 ⟨(some 12), .mv (.c .any), some ((.c (.fn (.func 76) [] [])), [(.t 10), (.t 11)]), none, 0⟩,
 ⟨(some 5), .mv (.t 12), none, none, 0⟩]
abbrev qavd : List SOper := [⟨(some 13), .mv (.t 5), none, none, 0⟩,
 ⟨(some 14), .bin .neq (.t 13) (.c (.int .i64 0)), none, none, 0⟩]
abbrev qavc : List SOper := [⟨(some 15), .mv (.t 5), none, none, 0⟩,
 ⟨(some 4), .mv (.t 15), none, none, 0⟩]
abbrev qavb : List SOper := [⟨(some 16), .mv (.t 0), none, none, 0⟩,
 ⟨(some 17), .loads 6 (.t 3), none, none, 0⟩,
 ⟨(some 18), .mv (.c .any), some ((.c (.fn (.func 77) [] [])), [(.t 16), (.t 17)]), none, 0⟩,
 ⟨(some 19), .bin .geq (.t 18) (.c (.int .i64 0)), none, none, 0⟩]
abbrev qava : List SOper := [⟨(some 4), .mv (.c (.int .i64 7)), none, none, 0⟩]
abbrev qau9 : List SOper := [⟨(some 6), .mv (.c (.int .i64 0)), none, none, 0⟩]
abbrev qau8 : List SOper := [⟨(some 20), .mv (.t 6), none, none, 0⟩,
 ⟨(some 21), .mv (.t 0), none, none, 0⟩,
 ⟨(some 22), .nilc (.t 21), none, none, 0⟩,
 ⟨(some 23), .faddr 4 (.t 22), none, none, 0⟩,
 ⟨(some 24), .load (.t 23), none, none, 0⟩,
 ⟨(some 25), .len false (.t 24), none, none, 0⟩,
 ⟨(some 26), .bin .lss (.t 20) (.t 25), none, none, 0⟩,
 ⟨(some 27), .mv (.t 26), none, none, 0⟩,
 ⟨(some 28), .mv (.t 0), none, (some (27, true)), 0⟩,
 ⟨(some 29), .nilc (.t 28), none, (some (27, true)), 0⟩,
 ⟨(some 30), .faddr 0 (.t 29), none, (some (27, true)), 0⟩,
 ⟨(some 31), .load (.t 30), none, (some (27, true)), 0⟩,
 ⟨(some 32), .bin .eql (.t 31) (.c (.int .i64 3)), none, (some (27, true)), 0⟩,
 ⟨(some 33), .pick (.t 27) (.t 32) (.c (.bool false)), none, none, 0⟩]
abbrev qau7 : List SOper := [⟨(some 36), .mv (.t 0), none, none, 0⟩,
 ⟨(some 37), .nilc (.t 36), none, none, 1⟩,
 ⟨(some 38), .faddr 4 (.t 37), none, none, 3⟩,
 ⟨(some 39), .load (.t 38), none, none, 7⟩,
 ⟨(some 40), .mv (.t 6), none, none, 0⟩,
 ⟨(some 41), .iaddr 6 (.t 39) (.t 40), none, none, 31⟩,
 ⟨(some 42), .faddr 3 (.t 41), none, none, 63⟩,
 ⟨(some 43), .load (.t 42), none, none, 127⟩,
 ⟨(some 44), .faddr 3 (.t 3), none, none, 0⟩,
 ⟨(some 45), .load (.t 44), none, none, 256⟩,
 ⟨(some 46), .bin .eql (.t 43) (.t 45), none, none, 1023⟩,
 ⟨(some 7), .mv (.t 46), none, none, 2047⟩]
abbrev qarm : List SOper := [⟨(some 8), .mv (.c (.int .i64 0)), none, none, 0⟩]
abbrev qarl : List SOper := [⟨(some 47), .mv (.t 8), none, none, 0⟩,
 ⟨(some 48), .mv (.t 0), none, none, 0⟩,
 ⟨(some 49), .nilc (.t 48), none, none, 0⟩,
 ⟨(some 50), .faddr 1 (.t 49), none, none, 0⟩,
 ⟨(some 51), .load (.t 50), none, none, 0⟩,
 ⟨(some 52), .bin .lss (.t 47) (.t 51), none, none, 0⟩]
abbrev qark : List SOper := [⟨(some 55), .faddr 1 (.t 3), none, none, 0⟩,
 ⟨(some 56), .load (.t 55), none, none, 1⟩,
 ⟨(some 57), .mv (.t 8), none, none, 0⟩,
 ⟨(some 58), .iaddr 1 (.t 56) (.t 57), none, none, 7⟩,
 ⟨(some 59), .load (.t 58), none, none, 15⟩,
 ⟨(some 60), .mv (.t 0), none, none, 0⟩,
 ⟨(some 61), .nilc (.t 60), none, none, 32⟩,
 ⟨(some 62), .faddr 4 (.t 61), none, none, 96⟩,
 ⟨(some 63), .load (.t 62), none, none, 224⟩,
 ⟨(some 64), .mv (.t 6), none, none, 0⟩,
 ⟨(some 65), .iaddr 6 (.t 63) (.t 64), none, none, 992⟩,
 ⟨(some 66), .faddr 1 (.t 65), none, none, 2016⟩,
 ⟨(some 67), .load (.t 66), none, none, 4064⟩,
 ⟨(some 68), .mv (.t 8), none, none, 0⟩,
 ⟨(some 69), .iaddr 1 (.t 67) (.t 68), none, none, 16352⟩,
 ⟨(some 70), .load (.t 69), none, none, 32736⟩,
 ⟨(some 71), .bin .and (.t 59) (.t 70), none, none, 65535⟩,
 ⟨(some 9), .mv (.t 71), none, none, 131071⟩]
abbrev qarj : List SOper := [⟨(some 72), .faddr 0 (.t 3), none, none, 0⟩,
 ⟨(some 73), .load (.t 72), none, none, 1⟩,
 ⟨(some 74), .mv (.t 8), none, none, 0⟩,
 ⟨(some 75), .iaddr 1 (.t 73) (.t 74), none, none, 7⟩,
 ⟨(some 76), .load (.t 75), none, none, 15⟩,
 ⟨(some 77), .mv (.t 9), none, none, 0⟩,
 ⟨(some 78), .bin .and (.t 76) (.t 77), none, none, 63⟩,
 ⟨(some 79), .mv (.t 0), none, none, 0⟩,
 ⟨(some 80), .nilc (.t 79), none, none, 128⟩,
 ⟨(some 81), .faddr 4 (.t 80), none, none, 384⟩,
 ⟨(some 82), .load (.t 81), none, none, 896⟩,
 ⟨(some 83), .mv (.t 6), none, none, 0⟩,
 ⟨(some 84), .iaddr 6 (.t 82) (.t 83), none, none, 3968⟩,
 ⟨(some 85), .faddr 0 (.t 84), none, none, 8064⟩,
 ⟨(some 86), .load (.t 85), none, none, 16256⟩,
 ⟨(some 87), .mv (.t 8), none, none, 0⟩,
 ⟨(some 88), .iaddr 1 (.t 86) (.t 87), none, none, 65408⟩,
 ⟨(some 89), .load (.t 88), none, none, 130944⟩,
 ⟨(some 90), .mv (.t 9), none, none, 0⟩,
 ⟨(some 91), .bin .and (.t 89) (.t 90), none, none, 524160⟩,
 ⟨(some 92), .bin .neq (.t 78) (.t 91), none, none, 1048575⟩]
abbrev qari : List SOper := [⟨(some 7), .mv (.c (.bool false)), none, none, 0⟩]
abbrev qarh : List SOper := [⟨(some 53), .mv (.t 8), none, none, 0⟩,
 ⟨(some 54), .bin .add (.t 53) (.c (.int .i64 1)), none, none, 0⟩,
 ⟨(some 8), .mv (.t 54), none, none, 0⟩]
def qak9 : SCode := (.seq (.seq (.reg false qarl [0, 3, 6, 7, 8, 52]) (.cond (.t 52) .skip (.exit 2))) (.seq (.block 3 (.seq (.reg true qark [0, 3, 6, 7, 8, 9]) (.seq (.reg true qarj [0, 3, 6, 7, 8, 92]) (.cond (.t 92) (.reg false qari [0, 3, 6, 7, 8]) .skip)))) (.reg false qarh [0, 3, 6, 7, 8])))
abbrev qarg : List SOper := [⟨(some 93), .mv (.t 7), none, none, 0⟩]
abbrev qarf : List SOper := [⟨(some 4), .mv (.c (.int .i64 8)), none, none, 0⟩]
abbrev qare : List SOper := [⟨(some 34), .mv (.t 6), none, none, 0⟩,
 ⟨(some 35), .bin .add (.t 34) (.c (.int .i64 1)), none, none, 0⟩,
 ⟨(some 6), .mv (.t 35), none, none, 0⟩]
def qak8 : SCode := (.seq (.seq (.reg false qau8 [0, 3, 6, 33]) (.cond (.t 33) .skip (.exit 0))) (.seq (.block 1 (.seq (.reg true qau7 [0, 3, 6, 7]) (.seq (.seq (.reg false qarm [0, 3, 6, 7, 8]) (.block 2 (.loop qak9))) (.seq (.reg false qarg [0, 3, 6, 93]) (.cond (.t 93) (.seq (.reg false qarf [4]) .ret) .skip))))) (.reg false qare [0, 3, 6])))
abbrev qard : List SOper := [⟨(some 94), .mv (.t 0), none, none, 0⟩,
 ⟨(some 95), .nilc (.t 94), none, none, 1⟩,
 ⟨(some 96), .faddr 4 (.t 95), none, none, 3⟩,
 ⟨(some 97), .load (.t 96), none, none, 7⟩,
 ⟨(some 98), .len false (.t 97), none, none, 15⟩,
 ⟨(some 99), .mv (.t 0), none, none, 0⟩,
 ⟨(some 100), .nilc (.t 99), none, none, 32⟩,
 ⟨(some 101), .faddr 3 (.t 100), none, none, 96⟩,
 ⟨(some 102), .load (.t 101), none, none, 224⟩,
 ⟨(some 103), .bin .geq (.t 98) (.t 102), none, none, 511⟩]
abbrev qarc : List SOper := [⟨(some 4), .mv (.c (.int .i64 10)), none, none, 0⟩]
abbrev qarb : List SOper := [⟨(some 104), .mv (.t 0), none, none, 0⟩,
 ⟨(some 105), .mv (.t 0), none, none, 0⟩,
 ⟨(some 106), .nilc (.t 105), none, none, 2⟩,
 ⟨(some 107), .faddr 4 (.t 106), none, none, 6⟩,
 ⟨(some 108), .load (.t 107), none, none, 14⟩,
 ⟨(some 109), .mv (.t 0), none, none, 0⟩,
 ⟨(some 110), .loads 6 (.t 3), none, none, 0⟩,
 ⟨(some 111), .mv (.c .any), some ((.c (.fn (.func 78) [] [])), [(.t 109), (.t 110)]), none, 96⟩,
 ⟨(some 112), .mkrow 65 6 1 [.nilsl, .nilsl, (.int .i64 0), (.int .i64 0), (.int .i64 0), .nilsl] [(0, (.t 111))], none, none, 224⟩,
 ⟨(some 113), .app 65 6 96 (.t 108) (.t 112), none, none, 510⟩,
 ⟨(some 114), .nilc (.t 104), none, none, 1023⟩,
 ⟨(some 115), .faddr 4 (.t 114), none, none, 2047⟩,
 ⟨none, .store 1 (.t 115) (.t 113), none, none, 4095⟩]
abbrev qara : List SOper := [⟨(some 4), .mv (.c (.int .i64 0)), none, none, 0⟩]
def c_radd : SCode := (.seq (.reg false qavf [0, 3]) (.seq (.seq (.reg false qave [0, 3, 5]) (.seq (.reg false qavd [0, 3, 5, 14]) (.cond (.t 14) (.seq (.reg false qavc [4]) .ret) .skip))) (.seq (.seq (.reg false qavb [0, 3, 19]) (.cond (.t 19) (.seq (.reg false qava [4]) .ret) .skip)) (.seq (.seq (.reg false qau9 [0, 3, 6]) (.block 0 (.loop qak8))) (.seq (.seq (.reg true qard [0, 3, 103]) (.cond (.t 103) (.seq (.reg false qarc [4]) .ret) .skip)) (.seq (.reg true qarb []) (.seq (.reg false qara [4]) .ret)))))))
theorem qamh : comp Try.prog 116 ((Try.f36.body).getD .skip) = some c_radd.erase := by kernel_rfl
abbrev qaux : List SOper := [⟨(some 3), .box 65 (.t 1), none, none, 0⟩,
 ⟨(some 4), .mv (.c (.int .i64 0)), none, none, 0⟩]
abbrev qauw : List SOper := [⟨(some 7), .mv (.t 0), none, none, 0⟩,
 ⟨(some 8), .loads 6 (.t 3), none, none, 0⟩,
 ⟨(some 9), .mv (.c .any), some ((.c (.fn (.func 76) [] [])), [(.t 7), (.t 8)]), none, 0⟩,
 ⟨(some 5), .mv (.t 9), none, none, 0⟩]
abbrev qauv : List SOper := [⟨(some 10), .mv (.t 5), none, none, 0⟩,
 ⟨(some 11), .bin .neq (.t 10) (.c (.int .i64 0)), none, none, 0⟩]
abbrev qauu : List SOper := [⟨(some 12), .mv (.t 5), none, none, 0⟩,
 ⟨(some 4), .mv (.t 12), none, none, 0⟩]
abbrev qaut : List SOper := [⟨(some 13), .mv (.t 0), none, none, 0⟩,
 ⟨(some 14), .loads 6 (.t 3), none, none, 0⟩,
 ⟨(some 15), .mv (.c .any), some ((.c (.fn (.func 77) [] [])), [(.t 13), (.t 14)]), none, 0⟩,
 ⟨(some 6), .mv (.t 15), none, none, 0⟩]
abbrev qaus : List SOper := [⟨(some 16), .mv (.t 6), none, none, 0⟩,
 ⟨(some 17), .bin .lss (.t 16) (.c (.int .i64 0)), none, none, 0⟩]
abbrev qaur : List SOper := [⟨(some 4), .mv (.c (.int .i64 9)), none, none, 0⟩]
abbrev qauq : List SOper := [⟨(some 18), .mv (.t 0), none, none, 0⟩,
 ⟨(some 19), .nilc (.t 18), none, none, 1⟩,
 ⟨(some 20), .faddr 4 (.t 19), none, none, 3⟩,
 ⟨(some 21), .load (.t 20), none, none, 7⟩,
 ⟨(some 22), .mv (.t 6), none, none, 0⟩,
 ⟨(some 23), .mv (.t 0), none, none, 0⟩,
 ⟨(some 24), .loads 6 (.t 3), none, none, 0⟩,
 ⟨(some 25), .mv (.c .any), some ((.c (.fn (.func 78) [] [])), [(.t 23), (.t 24)]), none, 96⟩,
 ⟨(some 26), .iaddr 6 (.t 21) (.t 22), none, none, 255⟩,
 ⟨none, .store 6 (.t 26) (.t 25), none, none, 511⟩]
abbrev qaup : List SOper := [⟨(some 4), .mv (.c (.int .i64 0)), none, none, 0⟩]
def c_rchg : SCode := (.seq (.reg false qaux [0, 3]) (.seq (.seq (.reg false qauw [0, 3, 5]) (.seq (.reg false qauv [0, 3, 5, 11]) (.cond (.t 11) (.seq (.reg false qauu [4]) .ret) .skip))) (.seq (.reg false qaut [0, 3, 6]) (.seq (.seq (.reg false qaus [0, 3, 6, 17]) (.cond (.t 17) (.seq (.reg false qaur [4]) .ret) .skip)) (.seq (.reg true qauq []) (.seq (.reg false qaup [4]) .ret))))))
theorem qamf : comp Try.prog 27 ((Try.f38.body).getD .skip) = some c_rchg.erase := by kernel_rfl
abbrev qaq5 : List SOper := [⟨(some 3), .box 65 (.t 1), none, none, 0⟩,
 ⟨(some 4), .mv (.c (.int .i64 0)), none, none, 0⟩]
abbrev qaq4 : List SOper := [⟨(some 8), .mv (.t 0), none, none, 0⟩,
 ⟨(some 9), .loads 6 (.t 3), none, none, 0⟩,
 ⟨(some 10), .mv (.c .any), some ((.c (.fn (.func 76) [] [])), [(.t 8), (.t 9)]), none, 0⟩,
 ⟨(some 5), .mv (.t 10), none, none, 0⟩]
abbrev qaq3 : List SOper := [⟨(some 11), .mv (.t 5), none, none, 0⟩,
 ⟨(some 12), .bin .neq (.t 11) (.c (.int .i64 0)), none, none, 0⟩]
abbrev qaq2 : List SOper := [⟨(some 13), .mv (.t 5), none, none, 0⟩,
 ⟨(some 4), .mv (.t 13), none, none, 0⟩]
abbrev qaq1 : List SOper := [⟨(some 14), .mv (.t 0), none, none, 0⟩,
 ⟨(some 15), .loads 6 (.t 3), none, none, 0⟩,
 ⟨(some 16), .mv (.c .any), some ((.c (.fn (.func 77) [] [])), [(.t 14), (.t 15)]), none, 0⟩,
 ⟨(some 6), .mv (.t 16), none, none, 0⟩]
abbrev qaq0 : List SOper := [⟨(some 17), .mv (.t 6), none, none, 0⟩,
 ⟨(some 18), .bin .lss (.t 17) (.c (.int .i64 0)), none, none, 0⟩]
abbrev qaqz : List SOper := [⟨(some 4), .mv (.c (.int .i64 9)), none, none, 0⟩]
abbrev qaqy : List SOper := [⟨(some 7), .mv (.c .nilsl), none, none, 0⟩]
abbrev qaiq : List SOper := [⟨(some 19), .mv (.t 0), none, none, 0⟩,
 ⟨(some 20), .mv (.t 7), none, none, 0⟩,
 ⟨(some 21), .mv (.t 0), none, none, 0⟩,
 ⟨(some 22), .nilc (.t 21), none, none, 4⟩,
 ⟨(some 23), .faddr 4 (.t 22), none, none, 12⟩,
 ⟨(some 24), .load (.t 23), none, none, 28⟩,
 ⟨(some 25), .mv (.t 6), none, none, 0⟩,
 ⟨(some 26), .slice 6 (.t 24) none (some (.t 25)), none, none, 124⟩,
 ⟨(some 27), .app 65 6 96 (.t 20) (.t 26), none, none, 254⟩,
 ⟨(some 28), .mv (.t 0), none, none, 0⟩,
 ⟨(some 29), .nilc (.t 28), none, none, 512⟩,
 ⟨(some 30), .faddr 4 (.t 29), none, none, 1536⟩,
 ⟨(some 31), .load (.t 30), none, none, 3584⟩,
 ⟨(some 32), .mv (.t 6), none, none, 0⟩,
 ⟨(some 33), .bin .add (.t 32) (.c (.int .i64 1)), none, none, 8192⟩,
 ⟨(some 34), .slice 6 (.t 31) (some (.t 33)) none, none, none, 32256⟩,
 ⟨(some 35), .app 65 6 96 (.t 27) (.t 34), none, none, 65534⟩,
 ⟨(some 36), .nilc (.t 19), none, none, 131071⟩,
 ⟨(some 37), .faddr 4 (.t 36), none, none, 262143⟩,
 ⟨none, .store 1 (.t 37) (.t 35), none, none, 524287⟩]
abbrev qang : List SOper := [⟨(some 4), .mv (.c (.int .i64 0)), none, none, 0⟩]
def c_rdrop : SCode := (.seq (.reg false qaq5 [0, 3]) (.seq (.seq (.reg false qaq4 [0, 3, 5]) (.seq (.reg false qaq3 [0, 3, 5, 12]) (.cond (.t 12) (.seq (.reg false qaq2 [4]) .ret) .skip))) (.seq (.reg false qaq1 [0, 6]) (.seq (.seq (.reg false qaq0 [0, 6, 18]) (.cond (.t 18) (.seq (.reg false qaqz [4]) .ret) .skip)) (.seq (.reg false qaqy [0, 6, 7]) (.seq (.reg true qaiq []) (.seq (.reg false qang [4]) .ret)))))))
theorem qaj0 : comp Try.prog 38 ((Try.f39.body).getD .skip) = some c_rdrop.erase := by kernel_rfl
abbrev qaqq : List SOper := [⟨(some 4), .box 65 (.t 1), none, none, 0⟩,
 ⟨(some 6), .mv (.c (.bool false)), none, none, 0⟩]
abbrev qaqp : List SOper := [⟨(some 9), .mv (.t 0), none, none, 0⟩,
 ⟨(some 10), .nilc (.t 9), none, none, 0⟩,
 ⟨(some 11), .faddr 0 (.t 10), none, none, 0⟩,
 ⟨(some 12), .load (.t 11), none, none, 0⟩]
abbrev qaqo : List SOper := [⟨(some 14), .bin .eql (.t 12) (.c (.int .i64 1)), none, none, 0⟩,
 ⟨(some 13), .mv (.t 14), none, none, 0⟩]
abbrev qaqn : List SOper := [⟨(some 15), .faddr 0 (.t 4), none, none, 0⟩,
 ⟨(some 16), .load (.t 15), none, none, 0⟩,
 ⟨(some 17), .mv (.t 2), none, none, 0⟩,
 ⟨(some 18), .mv (.c .any), some ((.c (.fn (.func 18) [] [])), [(.t 16), (.t 17)]), none, 0⟩,
 ⟨(some 6), .mv (.t 18), none, none, 0⟩]
abbrev qaqm : List SOper := [⟨(some 20), .bin .eql (.t 12) (.c (.int .i64 2)), none, none, 0⟩,
 ⟨(some 19), .mv (.t 20), none, none, 0⟩]
abbrev qaql : List SOper := [⟨(some 21), .mv (.t 0), none, none, 0⟩,
 ⟨(some 22), .nilc (.t 21), none, none, 1⟩,
 ⟨(some 23), .faddr 2 (.t 22), none, none, 3⟩,
 ⟨(some 24), .load (.t 23), none, none, 7⟩,
 ⟨(some 25), .mv (.c .any), some ((.c (.fn (.func 118) [] [])), [(.t 24)]), none, 15⟩,
 ⟨(some 26), .mv (.t 0), none, none, 0⟩,
 ⟨(some 27), .nilc (.t 26), none, none, 32⟩,
 ⟨(some 28), .faddr 2 (.t 27), none, none, 96⟩,
 ⟨(some 29), .load (.t 28), none, none, 224⟩,
 ⟨(some 30), .faddr 2 (.t 4), none, none, 0⟩,
 ⟨(some 31), .load (.t 30), none, none, 512⟩,
 ⟨(some 32), .bin .sub (.t 29) (.t 31), none, none, 2016⟩,
 ⟨(some 33), .mv (.c .any), some ((.c (.fn (.func 118) [] [])), [(.t 32)]), none, 4095⟩,
 ⟨(some 34), .bin .sub (.t 25) (.t 33), none, none, 8191⟩,
 ⟨(some 7), .mv (.t 34), none, none, 16383⟩]
abbrev qaqk : List SOper := [⟨(some 35), .mv (.t 2), none, none, 0⟩,
 ⟨(some 36), .iaddr 1 (.t 35) (.c (.int .i64 0)), none, none, 1⟩,
 ⟨(some 37), .load (.t 36), none, none, 3⟩,
 ⟨(some 38), .mv (.t 7), none, none, 0⟩,
 ⟨(some 39), .bin .and (.t 37) (.t 38), none, none, 15⟩,
 ⟨(some 40), .faddr 0 (.t 4), none, none, 0⟩,
 ⟨(some 41), .load (.t 40), none, none, 32⟩,
 ⟨(some 42), .iaddr 1 (.t 41) (.c (.int .i64 0)), none, none, 96⟩,
 ⟨(some 43), .load (.t 42), none, none, 224⟩,
 ⟨(some 44), .bin .eql (.t 39) (.t 43), none, none, 511⟩,
 ⟨(some 6), .mv (.t 44), none, none, 1023⟩]
abbrev qaqj : List SOper := [⟨(some 8), .mv (.c (.int .i64 0)), none, none, 0⟩]
abbrev qaqi : List SOper := [⟨(some 45), .mv (.t 8), none, none, 0⟩,
 ⟨(some 46), .mv (.t 2), none, none, 0⟩,
 ⟨(some 47), .len false (.t 46), none, none, 0⟩,
 ⟨(some 48), .bin .lss (.t 45) (.t 47), none, none, 0⟩]
abbrev qanf : List SOper := [⟨(some 51), .mv (.t 2), none, none, 0⟩,
 ⟨(some 52), .mv (.t 8), none, none, 0⟩,
 ⟨(some 53), .iaddr 1 (.t 51) (.t 52), none, none, 3⟩,
 ⟨(some 54), .load (.t 53), none, none, 7⟩,
 ⟨(some 55), .faddr 1 (.t 4), none, none, 0⟩,
 ⟨(some 56), .load (.t 55), none, none, 16⟩,
 ⟨(some 57), .mv (.t 8), none, none, 0⟩,
 ⟨(some 58), .iaddr 1 (.t 56) (.t 57), none, none, 112⟩,
 ⟨(some 59), .load (.t 58), none, none, 240⟩,
 ⟨(some 60), .bin .and (.t 54) (.t 59), none, none, 511⟩,
 ⟨(some 61), .faddr 0 (.t 4), none, none, 0⟩,
 ⟨(some 62), .load (.t 61), none, none, 1024⟩,
 ⟨(some 63), .mv (.t 8), none, none, 0⟩,
 ⟨(some 64), .iaddr 1 (.t 62) (.t 63), none, none, 7168⟩,
 ⟨(some 65), .load (.t 64), none, none, 15360⟩,
 ⟨(some 66), .bin .neq (.t 60) (.t 65), none, none, 32767⟩]
abbrev qane : List SOper := [⟨(some 6), .mv (.c (.bool false)), none, none, 0⟩]
abbrev qand : List SOper := [⟨(some 49), .mv (.t 8), none, none, 0⟩,
 ⟨(some 50), .bin .add (.t 49) (.c (.int .i64 1)), none, none, 0⟩,
 ⟨(some 8), .mv (.t 50), none, none, 0⟩]
def qain : SCode := (.seq (.seq (.reg false qaqi [2, 4, 8, 48]) (.cond (.t 48) .skip (.exit 1))) (.seq (.block 2 (.seq (.reg true qanf [2, 4, 8, 66]) (.cond (.t 66) (.seq (.reg false qane [6]) .ret) .skip))) (.reg false qand [2, 4, 8])))
abbrev qanc : List SOper := [⟨(some 6), .mv (.c (.bool true)), none, none, 0⟩]
def c_rfits : SCode := (.seq (.reg false qaqq [0, 2, 4]) (.seq (.seq (.reg false qaqp [0, 2, 4, 12]) (.block 0 (.seq (.reg false qaqo [0, 2, 4, 12, 13]) (.cond (.t 13) (.seq (.reg false qaqn [6]) .ret) (.seq (.reg false qaqm [0, 2, 4, 19]) (.cond (.t 19) (.seq (.reg true qaql [2, 4, 7]) (.seq (.reg true qaqk [6]) .ret)) .skip)))))) (.seq (.seq (.reg false qaqj [2, 4, 8]) (.block 1 (.loop qain))) (.seq (.reg false qanc [6]) .ret))))
theorem qajy : comp Try.prog 67 ((Try.f80.body).getD .skip) = some c_rfits.erase := by kernel_rfl
abbrev qaqx : List SOper := [⟨(some 4), .alloc 58 [(.int .i64 0), .nilsl], none, none, 0⟩,
 ⟨(some 5), .mv (.c (.int .i64 0)), none, none, 0⟩,
 ⟨(some 6), .mv (.c (.bool false)), none, none, 0⟩]
abbrev qaqw : List SOper := [⟨(some 10), .mv (.t 1), none, none, 0⟩,
 ⟨(some 11), .len false (.t 10), none, none, 1⟩,
 ⟨(some 12), .mv (.t 0), none, none, 0⟩,
 ⟨(some 13), .nilc (.t 12), none, none, 4⟩,
 ⟨(some 14), .faddr 1 (.t 13), none, none, 12⟩,
 ⟨(some 15), .load (.t 14), none, none, 28⟩,
 ⟨(some 16), .bin .neq (.t 11) (.t 15), none, none, 63⟩,
 ⟨(some 17), .mv (.t 16), none, none, 127⟩,
 ⟨(some 18), .mv (.t 0), none, (some (17, false)), 255⟩,
 ⟨(some 19), .nilc (.t 18), none, (some (17, false)), 511⟩,
 ⟨(some 20), .faddr 0 (.t 19), none, (some (17, false)), 1023⟩,
 ⟨(some 21), .load (.t 20), none, (some (17, false)), 2047⟩,
 ⟨(some 22), .bin .eql (.t 21) (.c (.int .i64 2)), none, (some (17, false)), 4095⟩,
 ⟨(some 23), .mv (.t 22), none, (some (17, false)), 8191⟩,
 ⟨(some 24), .mv (.t 0), none, (some (23, true)), 16383⟩,
 ⟨(some 25), .nilc (.t 24), none, (some (23, true)), 32767⟩,
 ⟨(some 26), .faddr 2 (.t 25), none, (some (23, true)), 65535⟩,
 ⟨(some 27), .load (.t 26), none, (some (23, true)), 131071⟩,
 ⟨(some 28), .bin .lss (.t 27) (.c (.int .i64 1)), none, (some (23, true)), 262143⟩,
 ⟨(some 29), .mv (.t 28), none, (some (23, true)), 524287⟩,
 ⟨(some 30), .mv (.t 0), none, (some (29, false)), 1048575⟩,
 ⟨(some 31), .nilc (.t 30), none, (some (29, false)), 2097151⟩,
 ⟨(some 32), .faddr 2 (.t 31), none, (some (29, false)), 4194303⟩,
 ⟨(some 33), .load (.t 32), none, (some (29, false)), 8388607⟩,
 ⟨(some 34), .bin .gtr (.t 33) (.c (.int .i64 64)), none, (some (29, false)), 16777215⟩,
 ⟨(some 35), .pick (.t 29) (.c (.bool true)) (.t 34), none, (some (23, true)), 33554431⟩,
 ⟨(some 36), .mv (.t 35), none, (some (23, true)), 67108863⟩,
 ⟨(some 37), .mv (.t 1), none, (some (36, false)), 134217727⟩,
 ⟨(some 38), .iaddr 1 (.t 37) (.c (.int .i64 0)), none, (some (36, false)), 268435455⟩,
 ⟨(some 39), .load (.t 38), none, (some (36, false)), 536870911⟩,
 ⟨(some 40), .mv (.t 0), none, (some (36, false)), 134217727⟩,
 ⟨(some 41), .nilc (.t 40), none, (some (36, false)), 1207959551⟩,
 ⟨(some 42), .faddr 2 (.t 41), none, (some (36, false)), 3355443199⟩,
 ⟨(some 43), .load (.t 42), none, (some (36, false)), 7650410495⟩,
 ⟨(some 44), .mv (.c .any), some ((.c (.fn (.func 79) [] [])), [(.t 39), (.t 43)]), (some (36, false)), 17179869183⟩,
 ⟨(some 45), .pick (.t 36) (.c (.bool true)) (.t 44), none, (some (23, true)), 34359738367⟩,
 ⟨(some 46), .pick (.t 23) (.t 45) (.c (.bool false)), none, (some (17, false)), 68719476735⟩,
 ⟨(some 47), .pick (.t 17) (.c (.bool true)) (.t 46), none, none, 137438953471⟩]
abbrev qaqv : List SOper := [⟨(some 48), .build [(.int .i64 0), .nilsl] [], none, none, 0⟩,
 ⟨none, .store 2 (.t 4) (.t 48), none, none, 0⟩,
 ⟨(some 5), .mv (.c (.int .i64 0)), none, none, 0⟩,
 ⟨(some 6), .mv (.c (.bool false)), none, none, 0⟩]
abbrev qaip : List SOper := [⟨(some 7), .mv (.c (.int .i64 (-1))), none, none, 0⟩]
abbrev qaio : List SOper := [⟨(some 8), .mv (.c (.int .i64 0)), none, none, 0⟩]
abbrev qaqu : List SOper := [⟨(some 49), .mv (.t 8), none, none, 0⟩,
 ⟨(some 50), .mv (.t 0), none, none, 0⟩,
 ⟨(some 51), .nilc (.t 50), none, none, 0⟩,
 ⟨(some 52), .faddr 4 (.t 51), none, none, 0⟩,
 ⟨(some 53), .load (.t 52), none, none, 0⟩,
 ⟨(some 54), .len false (.t 53), none, none, 0⟩,
 ⟨(some 55), .bin .lss (.t 49) (.t 54), none, none, 0⟩]
abbrev qaqt : List SOper := [⟨(some 58), .mv (.t 0), none, none, 0⟩,
 ⟨(some 59), .mv (.t 0), none, none, 0⟩,
 ⟨(some 60), .nilc (.t 59), none, none, 2⟩,
 ⟨(some 61), .faddr 4 (.t 60), none, none, 6⟩,
 ⟨(some 62), .load (.t 61), none, none, 14⟩,
 ⟨(some 63), .mv (.t 8), none, none, 0⟩,
 ⟨(some 64), .iaddr 6 (.t 62) (.t 63), none, none, 62⟩,
 ⟨(some 65), .loads 6 (.t 64), none, none, 126⟩,
 ⟨(some 66), .mv (.t 1), none, none, 0⟩,
 ⟨(some 67), .mv (.c .any), some ((.c (.fn (.func 80) [] [])), [(.t 58), (.t 65), (.t 66)]), none, 511⟩,
 ⟨(some 68), .mv (.t 67), none, none, 1023⟩,
 ⟨(some 69), .mv (.t 7), none, (some (68, true)), 2047⟩,
 ⟨(some 70), .bin .lss (.t 69) (.c (.int .i64 0)), none, (some (68, true)), 4095⟩,
 ⟨(some 71), .mv (.t 70), none, (some (68, true)), 8191⟩,
 ⟨(some 72), .mv (.t 0), none, (some (71, false)), 16383⟩,
 ⟨(some 73), .nilc (.t 72), none, (some (71, false)), 32767⟩,
 ⟨(some 74), .faddr 4 (.t 73), none, (some (71, false)), 65535⟩,
 ⟨(some 75), .load (.t 74), none, (some (71, false)), 131071⟩,
 ⟨(some 76), .mv (.t 8), none, (some (71, false)), 16383⟩,
 ⟨(some 77), .iaddr 6 (.t 75) (.t 76), none, (some (71, false)), 524287⟩,
 ⟨(some 78), .faddr 2 (.t 77), none, (some (71, false)), 1048575⟩,
 ⟨(some 79), .load (.t 78), none, (some (71, false)), 2097151⟩,
 ⟨(some 80), .mv (.t 0), none, (some (71, false)), 16383⟩,
 ⟨(some 81), .nilc (.t 80), none, (some (71, false)), 4210687⟩,
 ⟨(some 82), .faddr 4 (.t 81), none, (some (71, false)), 12599295⟩,
 ⟨(some 83), .load (.t 82), none, (some (71, false)), 29376511⟩,
 ⟨(some 84), .mv (.t 7), none, (some (71, false)), 16383⟩,
 ⟨(some 85), .iaddr 6 (.t 83) (.t 84), none, (some (71, false)), 130039807⟩,
 ⟨(some 86), .faddr 2 (.t 85), none, (some (71, false)), 264257535⟩,
 ⟨(some 87), .load (.t 86), none, (some (71, false)), 532692991⟩,
 ⟨(some 88), .bin .gtr (.t 79) (.t 87), none, (some (71, false)), 1073741823⟩,
 ⟨(some 89), .pick (.t 71) (.c (.bool true)) (.t 88), none, (some (68, true)), 2147483647⟩,
 ⟨(some 90), .mv (.t 89), none, (some (68, true)), 4294967295⟩,
 ⟨(some 91), .mv (.t 0), none, (some (90, false)), 8589934591⟩,
 ⟨(some 92), .nilc (.t 91), none, (some (90, false)), 17179869183⟩,
 ⟨(some 93), .faddr 4 (.t 92), none, (some (90, false)), 34359738367⟩,
 ⟨(some 94), .load (.t 93), none, (some (90, false)), 68719476735⟩,
 ⟨(some 95), .mv (.t 8), none, (some (90, false)), 8589934591⟩,
 ⟨(some 96), .iaddr 6 (.t 94) (.t 95), none, (some (90, false)), 274877906943⟩,
 ⟨(some 97), .faddr 3 (.t 96), none, (some (90, false)), 549755813887⟩,
 ⟨(some 98), .load (.t 97), none, (some (90, false)), 1099511627775⟩,
 ⟨(some 99), .mv (.t 0), none, (some (90, false)), 8589934591⟩,
 ⟨(some 100), .nilc (.t 99), none, (some (90, false)), 2207613190143⟩,
 ⟨(some 101), .faddr 4 (.t 100), none, (some (90, false)), 6605659701247⟩,
 ⟨(some 102), .load (.t 101), none, (some (90, false)), 15401752723455⟩,
 ⟨(some 103), .mv (.t 7), none, (some (90, false)), 8589934591⟩,
 ⟨(some 104), .iaddr 6 (.t 102) (.t 103), none, (some (90, false)), 68178310856703⟩,
 ⟨(some 105), .faddr 3 (.t 104), none, (some (90, false)), 138547055034367⟩,
 ⟨(some 106), .load (.t 105), none, (some (90, false)), 279284543389695⟩,
 ⟨(some 107), .bin .lss (.t 98) (.t 106), none, (some (90, false)), 562949953421311⟩,
 ⟨(some 108), .pick (.t 90) (.c (.bool true)) (.t 107), none, (some (68, true)), 1125899906842623⟩,
 ⟨(some 109), .pick (.t 68) (.t 108) (.c (.bool false)), none, none, 2251799813685247⟩]
abbrev qaqs : List SOper := [⟨(some 110), .mv (.t 8), none, none, 0⟩,
 ⟨(some 7), .mv (.t 110), none, none, 0⟩]
abbrev qaqr : List SOper := [⟨(some 56), .mv (.t 8), none, none, 0⟩,
 ⟨(some 57), .bin .add (.t 56) (.c (.int .i64 1)), none, none, 0⟩,
 ⟨(some 8), .mv (.t 57), none, none, 0⟩]
def qafl : SCode := (.seq (.seq (.reg false qaqu [0, 1, 4, 7, 8, 55]) (.cond (.t 55) .skip (.exit 0))) (.seq (.block 1 (.seq (.reg true qaqt [0, 1, 4, 7, 8, 109]) (.cond (.t 109) (.reg false qaqs [0, 1, 4, 7, 8]) .skip))) (.reg false qaqr [0, 1, 4, 7, 8])))
abbrev qagf : List SOper := [⟨(some 111), .mv (.t 7), none, none, 0⟩,
 ⟨(some 112), .bin .lss (.t 111) (.c (.int .i64 0)), none, none, 0⟩]
abbrev qage : List SOper := [⟨(some 113), .build [(.int .i64 0), .nilsl] [], none, none, 0⟩,
 ⟨none, .store 2 (.t 4) (.t 113), none, none, 0⟩,
 ⟨(some 5), .mv (.c (.int .i64 0)), none, none, 0⟩,
 ⟨(some 6), .mv (.c (.bool false)), none, none, 0⟩]
abbrev qagd : List SOper := [⟨(some 114), .mv (.t 0), none, none, 0⟩,
 ⟨(some 115), .nilc (.t 114), none, none, 0⟩,
 ⟨(some 116), .faddr 4 (.t 115), none, none, 0⟩,
 ⟨(some 117), .load (.t 116), none, none, 0⟩,
 ⟨(some 118), .mv (.t 7), none, none, 0⟩,
 ⟨(some 119), .iaddr 6 (.t 117) (.t 118), none, none, 0⟩,
 ⟨(some 120), .loads 6 (.t 119), none, none, 0⟩,
 ⟨(some 121), .mv (.c .any), some ((.c (.fn (.func 75) [] [])), [(.t 120)]), none, 0⟩,
 ⟨(some 9), .alloc 65 [.nilsl, .nilsl, (.int .i64 0), (.int .i64 0), (.int .i64 0), .nilsl], none, none, 0⟩,
 ⟨none, .store 6 (.t 9) (.t 121), none, none, 0⟩]
abbrev qagc : List SOper := [⟨(some 122), .faddr 4 (.t 9), none, none, 0⟩,
 ⟨(some 123), .load (.t 122), none, none, 1⟩,
 ⟨(some 124), .faddr 5 (.t 9), none, none, 0⟩,
 ⟨(some 125), .load (.t 124), none, none, 4⟩,
 ⟨(some 126), .build [(.int .i64 0), .nilsl] [(0, 1, (.t 123)), (1, 1, (.t 125))], none, none, 15⟩,
 ⟨(some 127), .faddr 2 (.t 9), none, none, 0⟩,
 ⟨(some 128), .load (.t 127), none, none, 32⟩,
 ⟨none, .store 2 (.t 4) (.t 126), none, none, 31⟩,
 ⟨(some 5), .mv (.t 128), none, none, 255⟩,
 ⟨(some 6), .mv (.c (.bool true)), none, none, 511⟩]
def c_rfind : SCode := (.seq (.reg false qaqx [0, 1, 4]) (.seq (.seq (.reg true qaqw [0, 1, 4, 47]) (.cond (.t 47) (.seq (.reg false qaqv [4, 5, 6]) .ret) .skip)) (.seq (.reg false qaip [0, 1, 4, 7]) (.seq (.seq (.reg false qaio [0, 1, 4, 7, 8]) (.block 0 (.loop qafl))) (.seq (.seq (.reg false qagf [0, 4, 7, 112]) (.cond (.t 112) (.seq (.reg false qage [4, 5, 6]) .ret) .skip)) (.seq (.reg false qagd [4, 9]) (.seq (.reg true qagc [4, 5, 6]) .ret)))))))
theorem qajz : comp Try.prog 129 ((Try.f40.body).getD .skip) = some c_rfind.erase := by kernel_rfl
abbrev qar3 : List SOper := [⟨(some 2), .box 65 (.t 0), none, none, 0⟩,
 ⟨(some 3), .box 65 (.t 1), none, none, 0⟩,
 ⟨(some 4), .mv (.c (.bool false)), none, none, 0⟩]
abbrev qar2 : List SOper := [⟨(some 6), .faddr 3 (.t 2), none, none, 0⟩,
 ⟨(some 7), .load (.t 6), none, none, 0⟩,
 ⟨(some 8), .faddr 3 (.t 3), none, none, 0⟩,
 ⟨(some 9), .load (.t 8), none, none, 0⟩,
 ⟨(some 10), .bin .neq (.t 7) (.t 9), none, none, 0⟩]
abbrev qar1 : List SOper := [⟨(some 11), .faddr 3 (.t 2), none, none, 0⟩,
 ⟨(some 12), .load (.t 11), none, none, 0⟩,
 ⟨(some 13), .faddr 3 (.t 3), none, none, 0⟩,
 ⟨(some 14), .load (.t 13), none, none, 0⟩,
 ⟨(some 15), .bin .lss (.t 12) (.t 14), none, none, 0⟩,
 ⟨(some 4), .mv (.t 15), none, none, 0⟩]
abbrev qar0 : List SOper := [⟨(some 16), .faddr 0 (.t 2), none, none, 0⟩,
 ⟨(some 17), .load (.t 16), none, none, 0⟩,
 ⟨(some 18), .faddr 0 (.t 3), none, none, 0⟩,
 ⟨(some 19), .load (.t 18), none, none, 0⟩,
 ⟨(some 20), .mv (.c .any), some ((.c (.fn (.func 120) [] [])), [(.t 17), (.t 19)]), none, 0⟩,
 ⟨(some 5), .mv (.t 20), none, none, 0⟩]
abbrev qarz : List SOper := [⟨(some 21), .mv (.t 5), none, none, 0⟩,
 ⟨(some 22), .bin .neq (.t 21) (.c (.int .i64 0)), none, none, 0⟩]
abbrev qary : List SOper := [⟨(some 23), .mv (.t 5), none, none, 0⟩,
 ⟨(some 24), .bin .lss (.t 23) (.c (.int .i64 0)), none, none, 0⟩,
 ⟨(some 4), .mv (.t 24), none, none, 0⟩]
abbrev qarx : List SOper := [⟨(some 25), .faddr 2 (.t 2), none, none, 0⟩,
 ⟨(some 26), .load (.t 25), none, none, 0⟩,
 ⟨(some 27), .faddr 2 (.t 3), none, none, 0⟩,
 ⟨(some 28), .load (.t 27), none, none, 0⟩,
 ⟨(some 29), .bin .neq (.t 26) (.t 28), none, none, 0⟩]
abbrev qarw : List SOper := [⟨(some 30), .faddr 2 (.t 2), none, none, 0⟩,
 ⟨(some 31), .load (.t 30), none, none, 0⟩,
 ⟨(some 32), .faddr 2 (.t 3), none, none, 0⟩,
 ⟨(some 33), .load (.t 32), none, none, 0⟩,
 ⟨(some 34), .bin .lss (.t 31) (.t 33), none, none, 0⟩,
 ⟨(some 4), .mv (.t 34), none, none, 0⟩]
abbrev qarv : List SOper := [⟨(some 35), .faddr 1 (.t 2), none, none, 0⟩,
 ⟨(some 36), .load (.t 35), none, none, 0⟩,
 ⟨(some 37), .faddr 1 (.t 3), none, none, 0⟩,
 ⟨(some 38), .load (.t 37), none, none, 0⟩,
 ⟨(some 39), .mv (.c .any), some ((.c (.fn (.func 120) [] [])), [(.t 36), (.t 38)]), none, 0⟩,
 ⟨(some 40), .bin .lss (.t 39) (.c (.int .i64 0)), none, none, 0⟩,
 ⟨(some 4), .mv (.t 40), none, none, 0⟩]
def c_ahead : SCode := (.seq (.reg false qar3 [2, 3]) (.seq (.seq (.reg false qar2 [2, 3, 10]) (.cond (.t 10) (.seq (.reg false qar1 [4]) .ret) .skip)) (.seq (.reg false qar0 [2, 3, 5]) (.seq (.seq (.reg false qarz [2, 3, 5, 22]) (.cond (.t 22) (.seq (.reg false qary [4]) .ret) .skip)) (.seq (.seq (.reg false qarx [2, 3, 29]) (.cond (.t 29) (.seq (.reg false qarw [4]) .ret) .skip)) (.seq (.reg false qarv [4]) .ret))))))
theorem qaj3 : comp Try.prog 41 ((Try.f81.body).getD .skip) = some c_ahead.erase := by kernel_rfl
abbrev qau6 : List SOper := [⟨(some 2), .mv (.c .nilsl), none, none, 0⟩]
abbrev qau5 : List SOper := [⟨(some 3), .mv (.c .nilsl), none, none, 0⟩]
abbrev qau4 : List SOper := [⟨(some 6), .mv (.t 3), none, none, 0⟩,
 ⟨(some 7), .len false (.t 6), none, none, 0⟩,
 ⟨(some 8), .mv (.t 0), none, none, 0⟩,
 ⟨(some 9), .nilc (.t 8), none, none, 0⟩,
 ⟨(some 10), .faddr 4 (.t 9), none, none, 0⟩,
 ⟨(some 11), .load (.t 10), none, none, 0⟩,
 ⟨(some 12), .len false (.t 11), none, none, 0⟩,
 ⟨(some 13), .bin .lss (.t 7) (.t 12), none, none, 0⟩]
abbrev qau3 : List SOper := [⟨(some 4), .mv (.c (.int .i64 (-1))), none, none, 0⟩]
abbrev qau2 : List SOper := [⟨(some 5), .mv (.c (.int .i64 0)), none, none, 0⟩]
abbrev qau1 : List SOper := [⟨(some 14), .mv (.t 5), none, none, 0⟩,
 ⟨(some 15), .mv (.t 0), none, none, 0⟩,
 ⟨(some 16), .nilc (.t 15), none, none, 0⟩,
 ⟨(some 17), .faddr 4 (.t 16), none, none, 0⟩,
 ⟨(some 18), .load (.t 17), none, none, 0⟩,
 ⟨(some 19), .len false (.t 18), none, none, 0⟩,
 ⟨(some 20), .bin .lss (.t 14) (.t 19), none, none, 0⟩]
abbrev qau0 : List SOper := [⟨(some 23), .mv (.t 3), none, none, 0⟩,
 ⟨(some 24), .len false (.t 23), none, none, 1⟩,
 ⟨(some 25), .bin .gtr (.t 24) (.c (.int .i64 0)), none, none, 3⟩,
 ⟨(some 26), .mv (.t 25), none, none, 7⟩,
 ⟨(some 27), .mv (.t 3), none, (some (26, true)), 15⟩,
 ⟨(some 28), .mv (.t 3), none, (some (26, true)), 15⟩,
 ⟨(some 29), .len false (.t 28), none, (some (26, true)), 47⟩,
 ⟨(some 30), .bin .sub (.t 29) (.c (.int .i64 1)), none, (some (26, true)), 111⟩,
 ⟨(some 31), .iaddr 6 (.t 27) (.t 30), none, (some (26, true)), 255⟩,
 ⟨(some 32), .loads 6 (.t 31), none, (some (26, true)), 511⟩,
 ⟨(some 33), .mv (.t 0), none, (some (26, true)), 15⟩,
 ⟨(some 34), .nilc (.t 33), none, (some (26, true)), 1039⟩,
 ⟨(some 35), .faddr 4 (.t 34), none, (some (26, true)), 3087⟩,
 ⟨(some 36), .load (.t 35), none, (some (26, true)), 7183⟩,
 ⟨(some 37), .mv (.t 5), none, (some (26, true)), 15⟩,
 ⟨(some 38), .iaddr 6 (.t 36) (.t 37), none, (some (26, true)), 31759⟩,
 ⟨(some 39), .loads 6 (.t 38), none, (some (26, true)), 64527⟩,
 ⟨(some 40), .mv (.c .any), some ((.c (.fn (.func 81) [] [])), [(.t 32), (.t 39)]), (some (26, true)), 131071⟩,
 ⟨(some 41), .un .not (.t 40), none, (some (26, true)), 262143⟩,
 ⟨(some 42), .pick (.t 26) (.t 41) (.c (.bool false)), none, none, 524287⟩]
abbrev qauz : List SOper := [⟨(some 43), .mv (.t 4), none, none, 0⟩,
 ⟨(some 44), .bin .lss (.t 43) (.c (.int .i64 0)), none, none, 1⟩,
 ⟨(some 45), .mv (.t 44), none, none, 3⟩,
 ⟨(some 46), .mv (.t 0), none, (some (45, false)), 7⟩,
 ⟨(some 47), .nilc (.t 46), none, (some (45, false)), 15⟩,
 ⟨(some 48), .faddr 4 (.t 47), none, (some (45, false)), 31⟩,
 ⟨(some 49), .load (.t 48), none, (some (45, false)), 63⟩,
 ⟨(some 50), .mv (.t 5), none, (some (45, false)), 7⟩,
 ⟨(some 51), .iaddr 6 (.t 49) (.t 50), none, (some (45, false)), 255⟩,
 ⟨(some 52), .loads 6 (.t 51), none, (some (45, false)), 511⟩,
 ⟨(some 53), .mv (.t 0), none, (some (45, false)), 7⟩,
 ⟨(some 54), .nilc (.t 53), none, (some (45, false)), 1031⟩,
 ⟨(some 55), .faddr 4 (.t 54), none, (some (45, false)), 3079⟩,
 ⟨(some 56), .load (.t 55), none, (some (45, false)), 7175⟩,
 ⟨(some 57), .mv (.t 4), none, (some (45, false)), 7⟩,
 ⟨(some 58), .iaddr 6 (.t 56) (.t 57), none, (some (45, false)), 31751⟩,
 ⟨(some 59), .loads 6 (.t 58), none, (some (45, false)), 64519⟩,
 ⟨(some 60), .mv (.c .any), some ((.c (.fn (.func 81) [] [])), [(.t 52), (.t 59)]), (some (45, false)), 131071⟩,
 ⟨(some 61), .pick (.t 45) (.c (.bool true)) (.t 60), none, none, 262143⟩]
abbrev qauy : List SOper := [⟨(some 62), .mv (.t 5), none, none, 0⟩,
 ⟨(some 4), .mv (.t 62), none, none, 0⟩]
abbrev qaq9 : List SOper := [⟨(some 21), .mv (.t 5), none, none, 0⟩,
 ⟨(some 22), .bin .add (.t 21) (.c (.int .i64 1)), none, none, 0⟩,
 ⟨(some 5), .mv (.t 22), none, none, 0⟩]
def qak7 : SCode := (.seq (.seq (.reg false qau1 [0, 3, 4, 5, 20]) (.cond (.t 20) .skip (.exit 2))) (.seq (.block 3 (.seq (.seq (.reg true qau0 [0, 3, 4, 5, 42]) (.cond (.t 42) (.exit 3) .skip)) (.seq (.reg true qauz [0, 3, 4, 5, 61]) (.cond (.t 61) (.reg false qauy [0, 3, 4, 5]) .skip)))) (.reg false qaq9 [0, 3, 4, 5])))
abbrev qaq8 : List SOper := [⟨(some 63), .mv (.t 3), none, none, 0⟩,
 ⟨(some 64), .mv (.t 0), none, none, 0⟩,
 ⟨(some 65), .nilc (.t 64), none, none, 0⟩,
 ⟨(some 66), .faddr 4 (.t 65), none, none, 0⟩,
 ⟨(some 67), .load (.t 66), none, none, 0⟩,
 ⟨(some 68), .mv (.t 4), none, none, 0⟩,
 ⟨(some 69), .iaddr 6 (.t 67) (.t 68), none, none, 0⟩,
 ⟨(some 70), .loads 6 (.t 69), none, none, 0⟩,
 ⟨(some 71), .mv (.c .any), some ((.c (.fn (.func 75) [] [])), [(.t 70)]), none, 0⟩,
 ⟨(some 72), .mkrow 65 6 1 [.nilsl, .nilsl, (.int .i64 0), (.int .i64 0), (.int .i64 0), .nilsl] [(0, (.t 71))], none, none, 0⟩,
 ⟨(some 73), .app 65 6 96 (.t 63) (.t 72), none, none, 0⟩,
 ⟨(some 3), .mv (.t 73), none, none, 0⟩]
def qak6 : SCode := (.seq (.seq (.reg false qau4 [0, 3, 13]) (.cond (.t 13) .skip (.exit 0))) (.block 1 (.seq (.reg false qau3 [0, 3, 4]) (.seq (.seq (.reg false qau2 [0, 3, 4, 5]) (.block 2 (.loop qak7))) (.reg false qaq8 [0, 3])))))
abbrev qaq7 : List SOper := [⟨(some 74), .mv (.t 3), none, none, 0⟩,
 ⟨(some 2), .mv (.t 74), none, none, 0⟩]
def c_rall : SCode := (.seq (.reg false qau6 [0]) (.seq (.reg false qau5 [0, 3]) (.seq (.block 0 (.loop qak6)) (.seq (.reg false qaq7 [2]) .ret))))
theorem qamg : comp Try.prog 75 ((Try.f42.body).getD .skip) = some c_rall.erase := by kernel_rfl
end Go.Proofs.Yticeaegpkpjjeaa
namespace Go.Proofs.Yticeaegpkpjjeaa
set_option linter.all false
open Go.RowKit
attribute [local simp] qaam qaal qaab qaaf qaac qaae qaaj qaak qaaa qaax SOp.run SX.ev putd puts argS upds SOp.touch SSt.keep SSt.skip gets geth puth delh idOf SV.cells? setL qabu qabv sbin eq0 eq1 eqL qabs qaa9 qaba qaaz qaai qaad qaan qaay qaag qaah FrzOk qaa4 qaav qaa2 qaa3 qaaq qaau qaa7 qaaw qaas qaa5 qaar frzS frzH frz frz1 frz0 SlotsM ObjsM ObjM rn ren ren1 ren0 qabj qabq qabx qabi qaa8 qabr qabw CoL qaa6 qace dels adds idsH qab7
def qafr : List Int → List Int → Int
 | [], [] => 0
 | [], _ :: _ => -1
 | _ :: _, [] => 1
 | x :: xs, y :: ys => if x < y then -1 else if x > y then 1 else qafr xs ys
theorem qahm {xs ys : List Int} {i : Nat} (hx : i < xs.length) (hy : i < ys.length) : qafr (xs.drop i) (ys.drop i) = if xs[i] < ys[i] then -1 else if xs[i] > ys[i] then 1 else qafr (xs.drop (i + 1)) (ys.drop (i + 1)) := by
 rw [List.drop_eq_getElem_cons hx, List.drop_eq_getElem_cons hy]; rfl
theorem qasr {xs ys : List Int} {i : Nat} (h1 : i ≤ xs.length) (h2 : i ≤ ys.length) (h : xs.length ≤ i ∨ ys.length ≤ i) : qafr (xs.drop i) (ys.drop i) = if xs.length < ys.length then -1 else if ys.length < xs.length then 1 else 0 := by
 have a : ∀ l : List Int, l.drop i = [] ↔ l.length ≤ i := fun l => List.drop_eq_nil_iff
 cases ha : xs.drop i with
 | nil =>
  have := (a xs).1 ha
  cases hb : ys.drop i with
  | nil => have := (a ys).1 hb; rw [if_neg (by omega), if_neg (by omega)]; rfl
  | cons y l => have : ¬ ys.length ≤ i := fun h => by rw [(a ys).2 h] at hb; cases hb
                rw [if_pos (by omega)]; rfl
 | cons x l =>
  have : ¬ xs.length ≤ i := fun h => by rw [(a xs).2 h] at ha; cases ha
  cases hb : ys.drop i with
  | nil => have := (a ys).1 hb; rw [if_neg (by omega), if_pos (by omega)]; rfl
  | cons y l => have : ¬ ys.length ≤ i := fun h => by rw [(a ys).2 h] at hb; cases hb
                omega
theorem less_s (xs ys : List Int) (hx : xs.length ≤ 1000000) : SCalls Try.prog 120 [nums .u64 xs, nums .u64 ys] [] 0 (.int .i64 (qafr xs ys)) [] := by
 refine qabe (N := 46) Try.func120 rfl rfl (by kernel_rfl) qamk (by simp) ⟨rfl, rfl, trivial⟩ trivial ?_
 rintro X hP hN hm
 have fin : ∀ (r : Int) hp nx, r = qafr xs ys → QFun X (Try.f120).results.toList 0 (.int .i64 (qafr xs ys)) [] .ret ⟨[(4, .int .i64 r)], hp, nx⟩ := fun r hp nx hr => by
  rw [hr]
  exact (qabn (s' := ⟨[(4, .int .i64 (qafr xs ys))], [], 0⟩) (qabc [] hm rfl (Nat.le_refl _) (by simp -implicitDefEqProofs []) trivial) rfl trivial (by simp))
 unfold c_less
 repeat' (first | (with_reducible refine qaa1 ?_) | ((with_reducible refine qaap ?_); (try rw [hP]); simp -implicitDefEqProofs [*]) | fail)
 refine qabk (qacn (fun s n => ∃ i : Nat, s = ⟨[(0, nums .u64 xs), (1, nums .u64 ys), (5, .int .i64 i)], [], 0⟩ ∧ i ≤ xs.length ∧ i ≤ ys.length ∧ qafr (xs.drop i) (ys.drop i) = qafr xs ys ∧ n = xs.length - i) (qabc [] hm rfl (Nat.le_refl _) (by simp -implicitDefEqProofs [nums]) (by trivial)) ⟨0, rfl, by omega, by omega, by simp, rfl⟩ ?_)
 rintro s n ⟨i, rfl, h1, h2, hl, rfl⟩
 unfold qalj
 repeat' (first | (with_reducible first | refine qaa1 ?_ | refine qabb ?_) | ((with_reducible refine qacp ?_ ?_); (focus rfl)) | ((with_reducible first | refine qaap ?_ | refine qabl (by rw [hP]; exact mixed) ?_); (try rw [hP]); simp -implicitDefEqProofs [nums, *]) | ((with_reducible first | refine qaa0 ?_ | refine qaby ?_); (try simp -implicitDefEqProofs [nums, *])) | ((with_reducible refine qabd ?_); (try simp only [qaaz, qaad, qaag])) | ((with_reducible refine qaat rfl (fun h => ?_) (fun h => ?_)) <;> have h' := h <;> (try simp at h') <;> (try subst h')) | ((with_reducible refine qaci (fun h => ?_) (fun h => ?_)) <;> have h' := h <;> (try simp at h') <;> (try subst h') <;> simp -implicitDefEqProofs [nums, *]) | (refine fin _ _ _ ?_) | ((rw [qabo (by omega) (by omega)]; refine qabm (qabc [] hm rfl (Nat.zero_le _) (by simp -implicitDefEqProofs) (by trivial)) ⟨i + 1, rfl, ?_, ?_, ?_, rfl⟩ (by omega))) | fail)
 all_goals try omega
 all_goals try (rw [← hl, qasr h1 h2 (by omega)]; (repeat' split) <;> omega)
 all_goals try (rw [← hl, qahm (by omega) (by omega)]; (repeat' split) <;> first | rfl | omega)
 rw [← hl, qahm (i := i) (by omega) (by omega), if_neg (by omega), if_neg (by omega)]
end Go.Proofs.Yticeaegpkpjjeaa
namespace Go.Proofs.Yticeaegpkpjjeaa
set_option linter.all false
open Go.RowKit
def qabg (k ks wd ms : Int) (id n : Nat) : SObj := .cells 91 [.int .i64 k, .int .i64 ks, .int .i64 wd, .int .i64 ms, .own id n]
def qabh (L : List Entry) : SObj := .row 65 6 (L.map qaao)
def qack (k ks wd ms : Int) (L : List Entry) : Hp := [(0, qabg k ks wd ms 1 L.length), (1, qabh L)]
theorem qacz (σ : Nat → Nat) (k : IntKind) (xs : List Int) : ren σ (nums k xs) = nums k xs := rfl
theorem qacw (σ : Nat → Nat) (e : Entry) : (qaao e).map (ren σ) = qaao e := rfl
theorem qabz (σ : Nat → Nat) (L : List Entry) : (L.map qaao).map (·.map (ren σ)) = L.map qaao := by
 rw [List.map_map]; rfl
theorem qaco (σ : Nat → Nat) (L : List Entry) : List.map ((fun x => List.map (ren σ) x) ∘ qaao) L = L.map qaao := rfl
theorem qac3 (k ks wd ms : Int) (L : List Entry) : LtH 2 (qack k ks wd ms L) := ⟨by omega, rfl, by omega, qabz _ L, trivial⟩
def qabf (a b : Nat) (k ks wd ms : Int) (L : List Entry) : Hp := [(a, qabg k ks wd ms b L.length), (b, qabh L)]
theorem qael {f : FuncId} {args : List SV} {r : SV} {k ks wd ms : Int} {L : List Entry} (h : SCalls Try.prog f (.ptr 0 0 :: args) (qack k ks wd ms L) 2 r (qack k ks wd ms L)) (ha : ∀ σ, args.map (ren σ) = args) (hr : ∀ σ, ren σ r = r) (hk : ok2 r = true)
  (a b q : Nat) (hab : a ≠ b) (haq : a < q) (hbq : b < q) : SCalls Try.prog f (.ptr a 0 :: args) (qabf a b k ks wd ms L) q r (qabf a b k ks wd ms L) := by
 have e0 : sg [a, b] q 0 = a := rfl
 have e1 : sg [a, b] q 1 = b := rfl
 have g0 : geth (qabf a b k ks wd ms L) a = some (qabg k ks wd ms b L.length) := by simp [qabf, geth]
 have g1 : geth (qabf a b k ks wd ms L) b = some (qabh L) := by simp [qabf, geth, hab]
 refine qad6 [a, b] h rfl (by simp [hab]) (by simp; omega) ?_ ⟨⟨_, g0, rfl, .refl _⟩, ⟨_, g1, rfl, rfl, ?_⟩, trivial⟩ (by simp [idsH, qack]) (hr _).symm hk ⟨⟨_, g0, rfl, rfl, rfl⟩, ⟨_, g1, rfl, rfl, ?_, ?_⟩, trivial⟩ (by simp [idsH, qack]) rfl
 ·show _ = _ :: args.map _
  rw [ha]; rfl
 ·rw [qabz]; exact .refl _
 ·intro x hx
  obtain ⟨e, _, rfl⟩ := List.mem_map.1 hx
  rfl
 ·exact (qabz _ L).symm
def onesP (k : Int) : Int := if k ≤ 64 then 2 ^ k.toNat - 1 else 0
def mayB (ks : List Int) (ms : List Int) : Bool := (List.range ks.length).all fun i => bits .and .u64 (el ks i) (el ms i) == el ks i
theorem mayB_t {ks ms : List Int} (h : ∀ j, j < ks.length → (bits .and .u64 (el ks j) (el ms j) == el ks j) = true) : mayB ks ms = true :=
 List.all_eq_true.2 fun j hj => h j (List.mem_range.1 hj)
theorem mayB_f {ks ms : List Int} {j : Nat} (hj : j < ks.length) (h : ¬ bits .and .u64 (el ks j) (el ms j) = el ks j) : mayB ks ms = false :=
 List.all_eq_false.2 ⟨j, List.mem_range.2 hj, by simpa using h⟩
def mayC (kind keys width : Int) (e : Entry) : Int :=
 if kind = 1 then (if (e.keys.length : Int) = keys then 0 else 2)
 else if kind = 2 then (if (e.keys.length : Int) = 1 ∧ 1 ≤ width ∧ width ≤ 64 ∧ 0 ≤ e.len ∧ e.len ≤ width ∧ qay7 (el e.keys 0) width = false then (if bits .and .u64 (el e.keys 0) (onesP (width - e.len)) = 0 then 0 else 6) else 6)
 else if kind = 3 then (if (e.keys.length : Int) = keys ∧ (e.masks.length : Int) = keys ∧ 0 ≤ e.prio ∧ e.prio ≤ 1000 then (if mayB e.keys e.masks then 0 else 6) else 6)
 else 0
end Go.Proofs.Yticeaegpkpjjeaa
namespace Go.Proofs.Yticeaegpkpjjeaa
set_option linter.all false
open Go.RowKit
attribute [local simp] qaam qaal qaab qaaf qaac qaae qaaj qaak qaaa qaax SOp.run SX.ev putd puts argS upds SOp.touch SSt.keep SSt.skip gets geth puth delh idOf SV.cells? setL qabu qabv sbin eq0 eq1 eqL qabs qaa9 qaba qaaz qaai qaad qaan qaay qaag qaah FrzOk qaa4 qaav qaa2 qaa3 qaaq qaau qaa7 qaaw qaas qaa5 qaar frzS frzH frz frz1 frz0 SlotsM ObjsM ObjM rn ren ren1 ren0 qabj qabq qabx qabi qaa8 qabr qabw CoL qaa6 qace dels adds idsH qab7 qabz qaco qacz
theorem may_s (k ks wd ms : Int) (L : List Entry) (e : Entry) (hs : qadd e) : SCalls Try.prog 76 [.ptr 0 0, .agg (qaao e)] (qack k ks wd ms L) 2 (.int .i64 (mayC k ks wd e)) (qack k ks wd ms L) := by
 refine qabe (N := 136) Try.func76 rfl rfl (by kernel_rfl) qapa (by simp) ⟨rfl, rfl, trivial⟩ (qac3 _ _ _ _ _) ?_
 rintro X hP hN hm
 have fin : ∀ (r : Int) hp nx, r = mayC k ks wd e → QFun X (Try.f76).results.toList 2 (.int .i64 (mayC k ks wd e)) (qack k ks wd ms L) .ret ⟨[(4, .int .i64 r)], (0, qabg k ks wd ms 1 L.length) :: (1, qabh L) :: hp, nx⟩ := fun r hp nx hr => by
  rw [hr]
  exact (qabn (s' := ⟨[(4, .int .i64 (mayC k ks wd e))], qack k ks wd ms L, 2⟩) (qabc [(0, 0), (1, 1)] hm rfl (Nat.le_refl _) (by simp -implicitDefEqProofs []) (by simp -implicitDefEqProofs [qack, qabg, qabh])) rfl ⟨rfl, rfl, trivial⟩ (by simp))
 simp only [qabg, qabh] at fin
 have hk1 : (e.keys.length : Int) = 1 → e.keys[0]? = some (el e.keys 0) := fun h => by
  have : 0 < e.keys.length := by omega
  simp [el, this]
 have hwr : 0 ≤ e.len → e.len ≤ wd → wd ≤ 64 → IntKind.i64.wrap (wd - e.len) = wd - e.len := fun a b c => IntWalk.i64_in _ ⟨by omega, by omega⟩
 obtain ⟨hs1, hs2, hs3⟩ := hs
 unfold c_may qack qabg qabh
 repeat' (first | (with_reducible first | refine qaa1 ?_ | refine qabb ?_) | ((with_reducible refine qacp ?_ ?_); (focus rfl)) | ((with_reducible first | refine qaap ?_ | refine qabl (by rw [hP]; exact mixed) ?_); (try rw [hP]); simp -implicitDefEqProofs [qaao, nums, *]) | ((with_reducible refine qaa0 ?_); (try simp -implicitDefEqProofs [qaao, nums, *])) | ((with_reducible refine qabd ?_); (try simp only [qaaz, qaad, qaag])) | ((with_reducible refine qaat rfl (fun h => ?_) (fun h => ?_)) <;> have h' := h <;> (try simp at h') <;> (try subst h')) | ((with_reducible refine qaci (fun h => ?_) (fun h => ?_)) <;> have h' := h <;> (try simp at h') <;> (try subst h') <;> simp -implicitDefEqProofs [qaao, nums, *]) | ((first | refine qab5 (qabt (qaxd _ _) (fun σ => rfl) (fun σ => rfl) rfl _) ?_ | refine qab5 (qabt (qaxm _) (fun σ => rfl) (fun σ => rfl) rfl _) ?_); simp -implicitDefEqProofs [qaao, nums, *]) | (refine fin _ _ _ ?_) | fail)
 all_goals try (unfold mayC; (repeat' split) <;> first | rfl | omega | (simp_all [onesP]; done))
 case refine_2.refine_2.refine_1.refine_2.refine_2.refine_2.refine_2 =>
  refine qabk (qacn (fun s n => ∃ i : Nat, s = ⟨[(0, .ptr 0 0), (3, .ptr 2 0), (6, .int .i64 i)], [(0, qabg 3 e.keys.length wd ms 1 L.length), (1, qabh L), (2, .cells 65 (qaao e))], 3⟩ ∧ i ≤ e.keys.length ∧ (∀ j, j < i → (bits .and .u64 (el e.keys j) (el e.masks j) == el e.keys j) = true) ∧ n = e.keys.length - i) (qabc [(0, 0), (1, 1), (2, 2)] hm rfl (by simp) (by simp -implicitDefEqProofs) (by simp -implicitDefEqProofs [qabg, qabh, qaao, nums])) ⟨0, rfl, by omega, by omega, rfl⟩ ?_)
  rintro s n ⟨i, rfl, h1, h2, rfl⟩
  have hl : e.masks.length = e.keys.length := by omega
  have g1 : i < e.keys.length → e.keys[i]? = some (el e.keys i) := fun h => by simp [el, h]
  have g2 : i < e.keys.length → e.masks[i]? = some (el e.masks i) := fun h => by have := hl ▸ h; simp [el, this]
  unfold qarq
  repeat' (first | (with_reducible first | refine qaa1 ?_ | refine qabb ?_) | ((with_reducible refine qacp ?_ ?_); (focus rfl)) | ((with_reducible first | refine qaap ?_ | refine qabl (by rw [hP]; exact mixed) ?_); (try rw [hP]); simp -implicitDefEqProofs [qaao, nums, qabg, qabh, *]) | ((with_reducible first | refine qaa0 ?_ | refine qaby ?_); (try simp -implicitDefEqProofs [qaao, nums, qabg, qabh, *])) | ((with_reducible refine qabd ?_); (try simp only [qaaz, qaad, qaag])) | ((with_reducible refine qaat rfl (fun h => ?_) (fun h => ?_)) <;> have h' := h <;> (try simp at h') <;> (try subst h')) | (refine fin _ _ _ ?_) | ((rw [qabo (by omega) (by omega)]; refine qabm (qabc [(0, 0), (1, 1), (2, 2)] hm rfl (by simp) (by simp -implicitDefEqProofs) (by simp -implicitDefEqProofs [qabg, qabh, qaao, nums])) ⟨i + 1, rfl, ?_, ?_, rfl⟩ (by omega))) | fail)
  ·have hf := mayB_f (ks := e.keys) (ms := e.masks) ‹i < e.keys.length› (by rw [qaep _ _ ‹_›, qaep _ _ (by omega)]; assumption)
   unfold mayC; simp [hf]
  ·omega
  ·intro j hj
   rcases Nat.lt_or_ge j i with h4 | h4
   ·simpa using h2 j h4
   ·obtain rfl : j = i := by omega
    rw [qaep _ _ ‹_›, qaep _ _ (by omega)]; simpa using h'
  ·have ht := mayB_t (ks := e.keys) (ms := e.masks) fun j hj => h2 j (by omega)
   unfold mayC
   rw [if_neg (by omega), if_neg (by omega), if_pos rfl, if_pos (by omega), if_pos ht]
end Go.Proofs.Yticeaegpkpjjeaa
namespace Go.Proofs.Yticeaegpkpjjeaa
set_option linter.all false
open Go.RowKit
attribute [local simp] qaam qaal qaab qaaf qaac qaae qaaj qaak qaaa qaax SOp.run SX.ev putd puts argS upds SOp.touch SSt.keep SSt.skip gets geth puth delh idOf SV.cells? setL qabu qabv sbin eq0 eq1 eqL qabs qaa9 qaba qaaz qaai qaad qaan qaay qaag qaah FrzOk qaa4 qaav qaa2 qaa3 qaaq qaau qaa7 qaaw qaas qaa5 qaar frzS frzH frz frz1 frz0 SlotsM ObjsM ObjM rn ren ren1 ren0 qabj qabq qabx qabi qaa8 qabr qabw CoL qaa6 qace dels adds idsH qab7 qabz qaco qacz
def oneB (kind : Int) (a b : Entry) : Bool := !((kind == 3 && (a.prio != b.prio || !decide (a.masks = b.masks))) || (kind == 2 && a.len != b.len)) && decide (a.keys = b.keys)
theorem one_s (k ks wd ms : Int) (L : List Entry) (a b : Entry) (hs : qadd a) : SCalls Try.prog 119 [.ptr 0 0, .agg (qaao a), .agg (qaao b)] (qack k ks wd ms L) 2 (.bool (oneB k a b)) (qack k ks wd ms L) := by
 refine qabe (N := 46) Try.func119 rfl rfl (by kernel_rfl) qame (by simp) ⟨rfl, rfl, rfl, trivial⟩ (qac3 _ _ _ _ _) ?_
 rintro X hP hN hm
 obtain ⟨hs1, hs2, hs3⟩ := hs
 have fin : ∀ (r : Bool) hp nx, r = oneB k a b → QFun X (Try.f119).results.toList 2 (.bool (oneB k a b)) (qack k ks wd ms L) .ret ⟨[(6, .bool r)], (0, qabg k ks wd ms 1 L.length) :: (1, qabh L) :: hp, nx⟩ := fun r hp nx hr => by
  rw [hr]
  exact (qabn (s' := ⟨[(6, .bool (oneB k a b))], qack k ks wd ms L, 2⟩) (qabc [(0, 0), (1, 1)] hm rfl (Nat.le_refl _) (by simp -implicitDefEqProofs []) (by simp -implicitDefEqProofs [qack, qabg, qabh])) rfl ⟨rfl, rfl, trivial⟩ (by simp))
 simp only [qabg, qabh] at fin
 unfold c_rone qack qabg qabh
 repeat' (first | (with_reducible refine qaa1 ?_) | ((with_reducible refine qaap ?_); (try rw [hP]); simp -implicitDefEqProofs [qaao, nums, *]) | ((with_reducible refine qaa0 ?_); (try simp -implicitDefEqProofs [qaao, nums, *])) | ((with_reducible refine qabd ?_); (try simp only [qaaz, qaad, qaag])) | ((with_reducible refine qaat rfl (fun h => ?_) (fun h => ?_)) <;> have h' := h <;> (try simp at h') <;> (try subst h')) | ((with_reducible refine qaci (fun h => ?_) (fun h => ?_)) <;> have h' := h <;> (try simp at h') <;> (try subst h') <;> simp -implicitDefEqProofs [qaao, nums, *]) | (refine qab5 (qac9 _ _ (by assumption) _) ?_; simp -implicitDefEqProofs [qaao, nums, *]) | (refine fin _ _ _ ?_) | fail)
 all_goals try (unfold oneB; simp_all; done)
def atN (kind : Int) (L : List Entry) (e : Entry) : Nat := qac8 (fun i => match L[i]? with | some a => oneB kind a e | none => false) L.length
def atI (kind : Int) (L : List Entry) (e : Entry) : Int := if atN kind L e < L.length then atN kind L e else -1
theorem qad3 {α : Type} {L : List α} {i : Nat} {P : α → Prop} (hi : i < L.length) (h : ∀ j a, j < i → L[j]? = some a → P a) (hb : P L[i]) : ∀ j a, j < i + 1 → L[j]? = some a → P a := by
 intro j a hj ha
 rcases Nat.lt_or_ge j i with h4 | h4
 ·exact h j a h4 ha
 ·obtain rfl : j = i := by omega
  rw [List.getElem?_eq_getElem hi] at ha; cases ha; exact hb
theorem atI_yes {k : Int} {L : List Entry} {e : Entry} {i : Nat} (hi : i < L.length) (h : ∀ j a, j < i → L[j]? = some a → oneB k a e = false) (hb : oneB k L[i] e = true) : atI k L e = i := by
 have : atN k L e = i := qasw _ _ _ (fun j hj => by
  simp only [List.getElem?_eq_getElem (Nat.lt_trans hj hi)]
  exact h j _ hj (List.getElem?_eq_getElem _)) (by simp only [List.getElem?_eq_getElem hi]; exact hb) hi
 unfold atI; rw [this, if_pos hi]
theorem atI_no {k : Int} {L : List Entry} {e : Entry} (h : ∀ j a, j < L.length → L[j]? = some a → oneB k a e = false) : atI k L e = -1 := by
 have : atN k L e = L.length := qal1 _ _ (fun j hj => by
  simp only [List.getElem?_eq_getElem hj]
  exact h j _ hj (List.getElem?_eq_getElem _))
 unfold atI; rw [this, if_neg (by omega)]
theorem at_s (k ks wd ms : Int) (L : List Entry) (e : Entry) (hs : ∀ a ∈ L, qadd a) (hL : L.length ≤ 1000000) : SCalls Try.prog 77 [.ptr 0 0, .agg (qaao e)] (qack k ks wd ms L) 2 (.int .i64 (atI k L e)) (qack k ks wd ms L) := by
 refine qabe (N := 26) Try.func77 rfl rfl (by kernel_rfl) qao8 (by simp) ⟨rfl, rfl, trivial⟩ (qac3 _ _ _ _ _) ?_
 rintro X hP hN hm
 have fin : ∀ (r : Int) hp nx, r = atI k L e → QFun X (Try.f77).results.toList 2 (.int .i64 (atI k L e)) (qack k ks wd ms L) .ret ⟨[(4, .int .i64 r)], (0, qabg k ks wd ms 1 L.length) :: (1, qabh L) :: hp, nx⟩ := fun r hp nx hr => by
  rw [hr]
  exact (qabn (s' := ⟨[(4, .int .i64 (atI k L e))], qack k ks wd ms L, 2⟩) (qabc [(0, 0), (1, 1)] hm rfl (Nat.le_refl _) (by simp -implicitDefEqProofs []) (by simp -implicitDefEqProofs [qack, qabg, qabh])) rfl ⟨rfl, rfl, trivial⟩ (by simp))
 simp only [qabg, qabh] at fin
 unfold c_rat qack qabg qabh
 repeat' (first | (with_reducible refine qaa1 ?_) | ((with_reducible refine qaap ?_); (try rw [hP]); simp -implicitDefEqProofs [qaao, nums, *]) | fail)
 refine qabk (qacn (fun s n => ∃ i : Nat, s = ⟨[(0, .ptr 0 0), (3, .ptr 2 0), (5, .int .i64 i)], [(0, qabg k ks wd ms 1 L.length), (1, qabh L), (2, .cells 65 (qaao e))], 3⟩ ∧ i ≤ L.length ∧ (∀ j a, j < i → L[j]? = some a → oneB k a e = false) ∧ n = L.length - i) (qabc [(0, 0), (1, 1), (2, 2)] hm rfl (by simp) (by simp -implicitDefEqProofs) (by simp -implicitDefEqProofs [qabg, qabh, qaao, nums])) ⟨0, rfl, by omega, by intro j a hj; omega, rfl⟩ ?_)
 rintro s n ⟨i, rfl, h1, h2, rfl⟩
 unfold qaq6
 repeat' (first | (with_reducible first | refine qaa1 ?_ | refine qabb ?_) | ((with_reducible refine qacp ?_ ?_); (focus rfl)) | ((with_reducible first | refine qaap ?_ | refine qabl (by rw [hP]; exact mixed) ?_); (try rw [hP]); simp -implicitDefEqProofs [qaao, nums, qabg, qabh, qabf, *]) | ((with_reducible first | refine qaa0 ?_ | refine qaby ?_); (try simp -implicitDefEqProofs [qaao, nums, qabg, qabh, qabf, *])) | ((with_reducible refine qabd ?_); (try simp only [qaaz, qaad, qaag])) | ((with_reducible refine qaat rfl (fun h => ?_) (fun h => ?_)) <;> have h' := h <;> (try simp at h') <;> (try subst h')) | (refine qad2 (qael (one_s k ks wd ms L _ _ (hs _ (by simp))) (fun σ => rfl) (fun σ => rfl) rfl 0 1 _ (by decide) (by simp) (by simp)) ⟨rfl, rfl, trivial⟩ ⟨rfl, rfl, trivial⟩ ?_; simp -implicitDefEqProofs [qaao, nums, qabg, qabh, qabf, *]) | (refine fin _ _ _ ?_) | ((rw [qabo (by omega) (by omega)]; refine qabm (qabc [(0, 0), (1, 1), (2, 2)] hm rfl (by simp) (by simp -implicitDefEqProofs) (by simp -implicitDefEqProofs [qabg, qabh, qaao, nums])) ⟨i + 1, rfl, ?_, ?_, rfl⟩ (by omega))) | fail)
 ·exact (atI_yes ‹_› h2 h).symm
 ·omega
 ·exact qad3 ‹_› h2 h
 ·exact (atI_no fun j a hj ha => h2 j a (by omega) ha).symm
end Go.Proofs.Yticeaegpkpjjeaa
namespace Go.Proofs.Yticeaegpkpjjeaa
set_option linter.all false
open Go.RowKit
attribute [local simp] qaam qaal qaab qaaf qaac qaae qaaj qaak qaaa qaax SOp.run SX.ev putd puts argS upds SOp.touch SSt.keep SSt.skip gets geth puth delh idOf SV.cells? setL qabu qabv sbin eq0 eq1 eqL qabs qaa9 qaba qaaz qaai qaad qaan qaay qaag qaah FrzOk qaa4 qaav qaa2 qaa3 qaaq qaau qaa7 qaaw qaas qaa5 qaar frzS frzH frz frz1 frz0 SlotsM ObjsM ObjM rn ren ren1 ren0 qabj qabq qabx qabi qaa8 qabr qabw CoL qaa6 qace dels adds idsH qab7 qabz qaco qacz
def qaha (kind : Int) (e : Entry) : Entry := ⟨e.keys, if kind = 3 then e.masks else [], if kind = 2 then e.len else 0, if kind = 3 then e.prio else 0, e.act, e.args⟩
theorem qaj6 (e : Entry) (h : qadd e) (q : Nat) : SCalls Try.prog 75 [.agg (qaao e)] [] q (.agg (qaao e)) [] := qabt (own_s e h) (fun σ => rfl) (fun σ => rfl) rfl q
theorem kept_s (k ks wd ms : Int) (L : List Entry) (e : Entry) (hs : qadd e) : SCalls Try.prog 78 [.ptr 0 0, .agg (qaao e)] (qack k ks wd ms L) 2 (.agg (qaao (qaha k e))) (qack k ks wd ms L) := by
 refine qabe (N := 21) Try.func78 rfl rfl (by kernel_rfl) qaml (by simp) ⟨rfl, rfl, trivial⟩ (qac3 _ _ _ _ _) ?_
 rintro X hP hN hm
 have fin : ∀ x cs nx, CoL cs (qaao (qaha k e)) → QFun X (Try.f78).results.toList 2 (.agg (qaao (qaha k e))) (qack k ks wd ms L) .ret ⟨[(4, .ptr 3 0)], [(0, qabg k ks wd ms 1 L.length), (1, qabh L), (2, x), (3, .cells 65 cs)], nx⟩ := fun x cs nx hc =>
  qabn (s' := ⟨[(4, .ptr 3 0)], [(0, qabg k ks wd ms 1 L.length), (1, qabh L), (3, .cells 65 (qaao (qaha k e)))], 4⟩) (qabc [(0, 0), (1, 1), (3, 3)] hm rfl (by simp) (by simp -implicitDefEqProofs) (by simp -implicitDefEqProofs [qabg, qabh]; exact hc)) (by simp -implicitDefEqProofs [hP, qagp, resL, resV, qag9, qafc, one_, qaao, nums]) ⟨rfl, rfl, trivial⟩ (by simp)
 unfold c_kept qack qabg qabh
 repeat' (first | (with_reducible refine qaa1 ?_) | ((with_reducible refine qaap ?_); (try rw [hP]); simp -implicitDefEqProofs [qaao, nums, *]) | ((with_reducible refine qaa0 ?_); (try simp -implicitDefEqProofs [qaao, nums, *])) | ((with_reducible refine qabd ?_); (try simp only [qaaz, qaad, qaag])) | ((with_reducible refine qaat rfl (fun h => ?_) (fun h => ?_)) <;> have h' := h <;> (try simp at h') <;> (try subst h')) | (refine qab5 (qaj6 _ hs _) ?_; simp -implicitDefEqProofs [qaao, nums, *]) | (refine fin _ _ _ ?_) | fail)
 all_goals (simp -implicitDefEqProofs [qaao, nums, qaha, *])
end Go.Proofs.Yticeaegpkpjjeaa
namespace Go.Proofs.Yticeaegpkpjjeaa
set_option linter.all false
open Go.RowKit
attribute [local simp] qaam qaal qaab qaaf qaac qaae qaaj qaak qaaa qaax SOp.run SX.ev putd puts argS upds SOp.touch SSt.keep SSt.skip gets geth puth delh idOf SV.cells? setL qabu qabv sbin eq0 eq1 eqL qabs qaa9 qaba qaaz qaai qaad qaan qaay qaag qaah FrzOk qaa4 qaav qaa2 qaa3 qaaq qaau qaa7 qaaw qaas qaa5 qaar frzS frzH frz frz1 frz0 SlotsM ObjsM ObjM rn ren ren1 ren0 qabj qabq qabx qabi qaa8 qabr qabw CoL qaa6 qace dels adds idsH qab7 qabz qaco qacz
def qacb (a b : Entry) : Bool := if a.prio = b.prio then (if qafr a.keys b.keys = 0 then (if a.len = b.len then decide (qafr a.masks b.masks < 0) else decide (a.len < b.len)) else decide (qafr a.keys b.keys < 0)) else decide (a.prio < b.prio)
theorem ahead_s (a b : Entry) (hs : qadd a) : SCalls Try.prog 81 [.agg (qaao a), .agg (qaao b)] [] 0 (.bool (qacb a b)) [] := by
 refine qabe (N := 41) Try.func81 rfl rfl (by kernel_rfl) qaj3 (by simp) ⟨rfl, rfl, trivial⟩ trivial ?_
 rintro X hP hN hm
 obtain ⟨hs1, hs2, hs3⟩ := hs
 have fin : ∀ (r : Bool) hp nx, r = qacb a b → QFun X (Try.f81).results.toList 0 (.bool (qacb a b)) [] .ret ⟨[(4, .bool r)], hp, nx⟩ := fun r hp nx hr => by
  rw [hr]
  exact (qabn (s' := ⟨[(4, .bool (qacb a b))], [], 0⟩) (qabc [] hm rfl (Nat.le_refl _) (by simp -implicitDefEqProofs) trivial) rfl trivial (by simp))
 unfold c_ahead
 repeat' (first | (with_reducible refine qaa1 ?_) | ((with_reducible refine qaap ?_); (try rw [hP]); simp -implicitDefEqProofs [qaao, nums, *]) | ((with_reducible refine qaa0 ?_); (try simp -implicitDefEqProofs [qaao, nums, *])) | ((with_reducible refine qabd ?_); (try simp only [qaaz, qaad, qaag])) | ((with_reducible refine qaat rfl (fun h => ?_) (fun h => ?_)) <;> have h' := h <;> (try simp at h') <;> (try subst h')) | (refine qab5 (qabt (less_s _ _ (by assumption)) (fun σ => rfl) (fun σ => rfl) rfl _) ?_; simp -implicitDefEqProofs [qaao, nums, *]) | (refine fin _ _ _ ?_) | fail)
 all_goals try (unfold qacb; simp_all; done)
theorem qaof {n : Nat} {p : Nat → Bool} (h : ∀ j, j < n → p j = true) : (List.range n).all p = true := List.all_eq_true.2 fun j hj => h j (List.mem_range.1 hj)
theorem qaog {n j : Nat} {p : Nat → Bool} (hj : j < n) (h : p j = false) : (List.range n).all p = false := List.all_eq_false.2 ⟨j, List.mem_range.2 hj, by simpa using h⟩
def qal0 (kind width : Int) (e : Entry) (k : List Int) : Bool :=
 if kind = 1 then decide (e.keys = k)
 else if kind = 2 then bits .and .u64 (el k 0) (IntKind.u64.wrap (onesP width - onesP (IntKind.i64.wrap (width - e.len)))) == el e.keys 0
 else (List.range k.length).all fun i => bits .and .u64 (el k i) (el e.masks i) == el e.keys i
def qawc (kind : Int) (e : Entry) (k : List Int) : Prop := (kind = 2 → 1 ≤ k.length ∧ 1 ≤ e.keys.length) ∧ (kind ≠ 1 → kind ≠ 2 → k.length ≤ e.keys.length ∧ k.length ≤ e.masks.length)
theorem fits_s (k ks wd ms : Int) (L : List Entry) (e : Entry) (xs : List Int) (hs : qadd e) (hok : qawc k e xs) : SCalls Try.prog 80 [.ptr 0 0, .agg (qaao e), nums .u64 xs] (qack k ks wd ms L) 2 (.bool (qal0 k wd e xs)) (qack k ks wd ms L) := by
 refine qabe (N := 67) Try.func80 rfl rfl (by kernel_rfl) qajy (by simp) ⟨rfl, rfl, rfl, trivial⟩ (qac3 _ _ _ _ _) ?_
 rintro X hP hN hm
 obtain ⟨hs1, hs2, hs3⟩ := hs
 obtain ⟨ho1, ho2⟩ := hok
 have fin : ∀ (r : Bool) hp nx, r = qal0 k wd e xs → QFun X (Try.f80).results.toList 2 (.bool (qal0 k wd e xs)) (qack k ks wd ms L) .ret ⟨[(6, .bool r)], (0, qabg k ks wd ms 1 L.length) :: (1, qabh L) :: hp, nx⟩ := fun r hp nx hr => by
  rw [hr]
  exact (qabn (s' := ⟨[(6, .bool (qal0 k wd e xs))], qack k ks wd ms L, 2⟩) (qabc [(0, 0), (1, 1)] hm rfl (Nat.le_refl _) (by simp -implicitDefEqProofs []) (by simp -implicitDefEqProofs [qack, qabg, qabh])) rfl ⟨rfl, rfl, trivial⟩ (by simp))
 have a1 : k = 2 → 0 < xs.length := fun h => (ho1 h).1
 have a2 : k = 2 → 0 < e.keys.length := fun h => (ho1 h).2
 have a3 : k = 2 → xs[0]? = some (el xs 0) := fun h => by simp [el, a1 h]
 have a4 : k = 2 → e.keys[0]? = some (el e.keys 0) := fun h => by simp [el, a2 h]
 simp only [qabg, qabh] at fin
 unfold c_rfits qack qabg qabh
 repeat' (first | (with_reducible first | refine qaa1 ?_ | refine qabb ?_) | ((with_reducible refine qacp ?_ ?_); (focus rfl)) | ((with_reducible first | refine qaap ?_ | refine qabl (by rw [hP]; exact mixed) ?_); (try rw [hP]); simp -implicitDefEqProofs [qaao, nums, *]) | ((with_reducible refine qaa0 ?_); (try simp -implicitDefEqProofs [qaao, nums, *])) | ((with_reducible refine qabd ?_); (try simp only [qaaz, qaad, qaag])) | ((with_reducible refine qaat rfl (fun h => ?_) (fun h => ?_)) <;> have h' := h <;> (try simp at h') <;> (try subst h')) | ((first | refine qab5 (qac9 _ _ (by assumption) _) ?_ | refine qab5 (qabt (qaxm _) (fun σ => rfl) (fun σ => rfl) rfl _) ?_); simp -implicitDefEqProofs [qaao, nums, *]) | (refine fin _ _ _ ?_) | fail)
 ·unfold qal0; rw [if_pos rfl]
 ·unfold qal0 onesP; rw [if_neg (show ¬ (2 : Int) = 1 by decide), if_pos (show (2 : Int) = 2 from rfl), qaep _ _ (a1 rfl), qaep _ _ (a2 rfl)]
 ·obtain ⟨b1, b2⟩ := ho2 ‹¬ k = 1› ‹¬ k = 2›
  refine qabk (qacn (fun s n => ∃ i : Nat, s = ⟨[(2, nums .u64 xs), (4, .ptr 2 0), (8, .int .i64 i)], [(0, qabg k ks wd ms 1 L.length), (1, qabh L), (2, .cells 65 (qaao e))], 3⟩ ∧ i ≤ xs.length ∧ (∀ j, j < i → (bits .and .u64 (el xs j) (el e.masks j) == el e.keys j) = true) ∧ n = xs.length - i) (qabc [(0, 0), (1, 1), (2, 2)] hm rfl (by simp) (by simp -implicitDefEqProofs [nums]) (by simp -implicitDefEqProofs [qabg, qabh, qaao, nums])) ⟨0, rfl, by omega, by omega, rfl⟩ ?_)
  rintro s n ⟨i, rfl, h1, h2, rfl⟩
  have g1 : i < xs.length → xs[i]? = some (el xs i) := fun h => by simp [el, h]
  have g2 : i < xs.length → e.masks[i]? = some (el e.masks i) := fun h => by simp [el, show i < e.masks.length by omega]
  have g3 : i < xs.length → e.keys[i]? = some (el e.keys i) := fun h => by simp [el, show i < e.keys.length by omega]
  have g4 : i < xs.length → i < e.masks.length := fun h => by omega
  have g5 : i < xs.length → i < e.keys.length := fun h => by omega
  unfold qain
  repeat' (first | (with_reducible first | refine qaa1 ?_ | refine qabb ?_) | ((with_reducible refine qacp ?_ ?_); (focus rfl)) | ((with_reducible first | refine qaap ?_ | refine qabl (by rw [hP]; exact mixed) ?_); (try rw [hP]); simp -implicitDefEqProofs [qaao, nums, qabg, qabh, *]) | ((with_reducible first | refine qaa0 ?_ | refine qaby ?_); (try simp -implicitDefEqProofs [qaao, nums, qabg, qabh, *])) | ((with_reducible refine qabd ?_); (try simp only [qaaz, qaad, qaag])) | ((with_reducible refine qaat rfl (fun h => ?_) (fun h => ?_)) <;> have h' := h <;> (try simp at h') <;> (try subst h')) | (refine fin _ _ _ ?_) | ((rw [qabo (by omega) (by omega)]; refine qabm (qabc [(0, 0), (1, 1), (2, 2)] hm rfl (by simp) (by simp -implicitDefEqProofs) (by simp -implicitDefEqProofs [qabg, qabh, qaao, nums])) ⟨i + 1, rfl, ?_, ?_, rfl⟩ (by omega))) | fail)
  ·unfold qal0
   rw [if_neg ‹¬ k = 1›, if_neg ‹¬ k = 2›]
   exact (qaog (p := fun i => bits .and .u64 (el xs i) (el e.masks i) == el e.keys i) ‹_› (by rw [qaep _ _ ‹_›, qaep _ _ (by omega), qaep _ _ (by omega)]; simpa using h')).symm
  ·omega
  ·intro j hj
   rcases Nat.lt_or_ge j i with h4 | h4
   ·simpa using h2 j h4
   ·obtain rfl : j = i := by omega
    rw [qaep _ _ ‹_›, qaep _ _ (by omega), qaep _ _ (by omega)]; simpa using h'
  ·unfold qal0
   rw [if_neg ‹¬ k = 1›, if_neg ‹¬ k = 2›]
   exact (qaof (p := fun i => bits .and .u64 (el xs i) (el e.masks i) == el e.keys i) fun j hj => h2 j (by omega)).symm
end Go.Proofs.Yticeaegpkpjjeaa
namespace Go.Proofs.Yticeaegpkpjjeaa
set_option linter.all false
open Go.RowKit
attribute [local simp] qaam qaal qaab qaaf qaac qaae qaaj qaak qaaa qaax SOp.run SX.ev putd puts argS upds SOp.touch SSt.keep SSt.skip gets geth puth delh idOf SV.cells? setL qabu qabv sbin eq0 eq1 eqL qabs qaa9 qaba qaaz qaai qaad qaan qaay qaag qaah FrzOk qaa4 qaav qaa2 qaa3 qaaq qaau qaa7 qaaw qaas qaa5 qaar frzS frzH frz frz1 frz0 SlotsM ObjsM ObjM rn ren ren1 ren0 qabj qabq qabx qabi qaa8 qabr qabw CoL qaa6 qace dels adds idsH qab7 qabz qaco qacz
def qagu (j : Nat) (a e : Entry) : Bool := a.prio == e.prio && (List.range j).all fun k => bits .and .u64 (el e.keys k) (bits .and .u64 (el e.masks k) (el a.masks k)) == bits .and .u64 (el a.keys k) (bits .and .u64 (el e.masks k) (el a.masks k))
def meetC (k : Nat) (a e : Entry) : Bool := bits .and .u64 (el e.keys k) (bits .and .u64 (el e.masks k) (el a.masks k)) == bits .and .u64 (el a.keys k) (bits .and .u64 (el e.masks k) (el a.masks k))
theorem qaor (a e : Entry) : qagu 0 a e = (a.prio == e.prio) := by simp [qagu]
theorem qahk (j : Nat) (a e : Entry) : qagu (j + 1) a e = (qagu j a e && meetC j a e) := by
 unfold qagu meetC
 rw [List.range_succ, List.all_append]
 simp [Bool.and_assoc]
def addC (k ks wd ms : Int) (L : List Entry) (e : Entry) : Int :=
 if mayC k ks wd e = 0 then (if 0 ≤ atI k L e then 7 else if k = 3 ∧ L.any (fun a => qagu ks.toNat a e) = true then 8 else if ms ≤ L.length then 10 else 0) else mayC k ks wd e
def addH (k ks wd ms : Int) (L : List Entry) (e : Entry) : Hp := if addC k ks wd ms L e = 0 then [(0, qabg k ks wd ms 2 (L ++ [qaha k e]).length), (2, qabh (L ++ [qaha k e]))] else qack k ks wd ms L
theorem qar8 {k ks wd ms : Int} {L : List Entry} {e : Entry} (h : addC k ks wd ms L e = 0) : addH k ks wd ms L e = [(0, qabg k ks wd ms 2 (L.length + 1)), (2, qabh (L ++ [qaha k e]))] := by
 unfold addH; rw [if_pos h]; simp
theorem addH_no {k ks wd ms : Int} {L : List Entry} {e : Entry} (h : addC k ks wd ms L e ≠ 0) : addH k ks wd ms L e = qack k ks wd ms L := if_neg h
def qawb (k ks : Int) (L : List Entry) : Prop := k = 3 → 0 ≤ ks ∧ ks ≤ 1000000 ∧ ∀ a ∈ L, (a.keys.length : Int) = ks ∧ (a.masks.length : Int) = ks
theorem may3 {ks wd : Int} {e : Entry} (h : mayC 3 ks wd e = 0) : (e.keys.length : Int) = ks ∧ (e.masks.length : Int) = ks := by
 unfold mayC at h
 rw [if_neg (by omega), if_neg (by omega), if_pos rfl] at h
 split at h
 ·omega
 ·cases h
set_option maxHeartbeats 4000000 in
theorem radd_s (k ks wd ms : Int) (L : List Entry) (e : Entry) (hs : ∀ a ∈ L, qadd a) (hse : qadd e) (hL : L.length ≤ 1000000) (hok : qawb k ks L) : SCalls Try.prog 36 [.ptr 0 0, .agg (qaao e)] (qack k ks wd ms L) 2 (.int .i64 (addC k ks wd ms L e)) (addH k ks wd ms L e) := by
 refine qabe (N := 116) Try.func36 rfl rfl (by kernel_rfl) qamh (by simp) ⟨rfl, rfl, trivial⟩ (qac3 _ _ _ _ _) ?_
 rintro X hP hN hm
 have fin : ∀ (r : Int) hp nx, r ≠ 0 → r = addC k ks wd ms L e → QFun X (Try.f36).results.toList 2 (.int .i64 (addC k ks wd ms L e)) (addH k ks wd ms L e) .ret ⟨[(4, .int .i64 r)], (0, qabg k ks wd ms 1 L.length) :: (1, qabh L) :: hp, nx⟩ := fun r hp nx h0 hr => by
  rw [show addH k ks wd ms L e = qack k ks wd ms L from if_neg (by rw [← hr]; exact h0), ← hr]
  exact (qabn (s' := ⟨[(4, .int .i64 r)], qack k ks wd ms L, 2⟩) (qabc [(0, 0), (1, 1)] hm rfl (Nat.le_refl _) (by simp -implicitDefEqProofs []) (by simp -implicitDefEqProofs [qack, qabg, qabh])) rfl ⟨rfl, rfl, trivial⟩ (by simp))
 unfold c_radd qack qabg qabh
 repeat' (first | (with_reducible refine qaa1 ?_) | ((with_reducible refine qaap ?_); (try rw [hP]); simp -implicitDefEqProofs [qaao, nums, qabf, qabg, qabh, *]) | ((with_reducible refine qaa0 ?_); (try simp -implicitDefEqProofs [qaao, nums, qabf, qabg, qabh, *])) | ((with_reducible refine qabd ?_); (try simp only [qaaz, qaad, qaag])) | ((with_reducible refine qaat rfl (fun h => ?_) (fun h => ?_)) <;> have h' := h <;> (try simp at h') <;> (try subst h')) | ((first | refine qacx (qael (may_s k ks wd ms L e hse) (fun σ => rfl) (fun σ => rfl) rfl 0 1 _ (by decide) (by simp) (by simp)) ⟨rfl, rfl, trivial⟩ ⟨rfl, rfl, trivial⟩ ?_ | refine qacx (qael (at_s k ks wd ms L e hs hL) (fun σ => rfl) (fun σ => rfl) rfl 0 1 _ (by decide) (by simp) (by simp)) ⟨rfl, rfl, trivial⟩ ⟨rfl, rfl, trivial⟩ ?_); simp -implicitDefEqProofs [qaao, nums, qabf, qabg, qabh, *]) | (refine fin _ _ _ ?_ ?_) | fail)
 ·simpa using h'
 ·unfold addC; rw [if_neg h']
 ·decide
 ·unfold addC; rw [if_pos ‹_›, if_pos h']
 have hm0 : mayC k ks wd e = 0 := ‹_›
 have hat : ¬ 0 ≤ atI k L e := by omega
 obtain ⟨hse1, hse2, hse3⟩ := hse
 have hex : ∀ r : Int, (k = 3 ∧ L.any (fun a => qagu ks.toNat a e) = true → r = 8) → (¬ (k = 3 ∧ L.any (fun a => qagu ks.toNat a e) = true) → ms ≤ L.length → r = 10) → (¬ (k = 3 ∧ L.any (fun a => qagu ks.toNat a e) = true) → ¬ ms ≤ L.length → r = 0) → r = addC k ks wd ms L e := by
  intro r h1 h2 h3
  unfold addC
  rw [if_pos hm0, if_neg hat]
  split
  ·exact h1 ‹_›
  ·split
   ·exact h2 ‹_› ‹_›
   ·exact h3 ‹_› ‹_›
 replace hex := Lib.hid hex
 have finY : ∀ (r : Int) (a : Nat) x y nx, r = 0 → 0 = addC k ks wd ms L e → (a = 38 ∨ a = 43) → QFun X (Try.f36).results.toList 2 (.int .i64 (addC k ks wd ms L e)) (addH k ks wd ms L e) .ret ⟨[(4, .int .i64 r)], [(0, qabg k ks wd ms a (L.length + 1)), (2, x), (a - 1, y), (a, .row 65 6 (L.map qaao ++ [qaao (qaha k e)]))], nx⟩ := by
  intro r a x y nx hr hc ha
  rw [qar8 hc.symm, ← hc, hr]
  rcases ha with rfl | rfl
  ·exact qabn (s' := ⟨[(4, .int .i64 0)], [(0, qabg k ks wd ms 2 (L.length + 1)), (2, qabh (L ++ [qaha k e]))], 3⟩) (qabc [(0, 0), (1, 1), (2, 38)] hm rfl (by simp) (by simp -implicitDefEqProofs) (by simp -implicitDefEqProofs [qabg, qabh, qacw])) rfl ⟨rfl, rfl, trivial⟩ (by simp)
  ·exact qabn (s' := ⟨[(4, .int .i64 0)], [(0, qabg k ks wd ms 2 (L.length + 1)), (2, qabh (L ++ [qaha k e]))], 3⟩) (qabc [(0, 0), (1, 1), (2, 43)] hm rfl (by simp) (by simp -implicitDefEqProofs) (by simp -implicitDefEqProofs [qabg, qabh, qacw])) rfl ⟨rfl, rfl, trivial⟩ (by simp)
 have hno : ¬ k = 3 → ¬ (k = 3 ∧ L.any (fun a => qagu ks.toNat a e) = true) := fun h h2 => h h2.1
 have hno2 : ∀ i, L.length ≤ i → (k = 3 → ∀ j a, j < i → L[j]? = some a → qagu ks.toNat a e = false) → ¬ (k = 3 ∧ L.any (fun a => qagu ks.toNat a e) = true) := by
  rintro i hi h ⟨h3, h4⟩
  obtain ⟨a, ha, hb⟩ := List.any_eq_true.1 h4
  obtain ⟨j, hj⟩ := List.getElem?_of_mem ha
  rw [h h3 j a (by have := (List.getElem?_eq_some_iff.1 hj).1; omega) hj] at hb
  cases hb
 replace hno2 := Lib.hid hno2
 replace finY := Lib.hid finY
 refine qabk (qacn (fun s n => ∃ i : Nat, s = ⟨[(0, .ptr 0 0), (3, .ptr 2 0), (6, .int .i64 i)], [(0, qabg k ks wd ms 1 L.length), (1, qabh L), (2, .cells 65 (qaao e))], 3⟩ ∧ i ≤ L.length ∧ (k = 3 → ∀ j a, j < i → L[j]? = some a → qagu ks.toNat a e = false) ∧ (0 < i → k = 3) ∧ n = L.length - i) (qabc [(0, 0), (1, 1), (2, 2)] hm rfl (by simp) (by simp -implicitDefEqProofs) (by simp -implicitDefEqProofs [qabg, qabh, qaao, nums, qabf])) ⟨0, rfl, by omega, by intro _ j a hj; omega, by omega, rfl⟩ ?_)
 rintro s n ⟨i, rfl, h1, h2, h3, rfl⟩
 have ha1 : L.length + 1 ≤ maxLen := by simp [maxLen]; omega
 have ha2 : (L.length + 1) * 96 ≤ 140737488355328 := by omega
 unfold qak8
 repeat' (first | (with_reducible first | refine qaa1 ?_ | refine qabb ?_) | ((with_reducible refine qacp ?_ ?_); (focus rfl)) | ((with_reducible first | refine qaap ?_ | refine qabl (by rw [hP]; exact mixed) ?_); (try rw [hP]); simp -implicitDefEqProofs [qaao, nums, qabf, qabg, qabh, *]) | ((with_reducible first | refine qaa0 ?_ | refine qaby ?_); (try simp -implicitDefEqProofs [qaao, nums, qabf, qabg, qabh, *])) | ((with_reducible refine qabd ?_); (try simp only [qaaz, qaad, qaag])) | ((with_reducible refine qaat rfl (fun h => ?_) (fun h => ?_)) <;> have h' := h <;> (try simp at h') <;> (try subst h')) | ((with_reducible refine qaci (fun h => ?_) (fun h => ?_)) <;> have h' := h <;> (try simp at h') <;> (try subst h') <;> simp -implicitDefEqProofs [qaao, nums, qabf, qabg, qabh, *]) | (refine qacx (qael (kept_s k ks wd ms L e ⟨hse1, hse2, hse3⟩) (fun σ => rfl) (fun σ => rfl) rfl 0 1 _ (by decide) (by simp) (by simp)) ⟨rfl, rfl, trivial⟩ ⟨rfl, rfl, trivial⟩ ?_; simp -implicitDefEqProofs [qaao, nums, qabf, qabg, qabh, *]) | (refine fin _ _ _ ?_ ?_) | fail)
 ·obtain ⟨b1, b2⟩ := may3 hm0
  obtain ⟨_, b3, b4⟩ := hok rfl
  obtain rfl : ks = (e.keys.length : Int) := by omega
  obtain ⟨b5, b6⟩ := b4 L[i] (List.getElem_mem _)
  obtain ⟨a, hLa⟩ : ∃ a, L[i] = a := ⟨_, rfl⟩
  rw [hLa] at b5 b6 ⊢
  refine qabk (qacn (fun s n => ∃ j : Nat, s = ⟨[(0, .ptr 0 0), (3, .ptr 2 0), (6, .int .i64 i), (7, .bool (qagu j a e)), (8, .int .i64 j)], [(0, qabg 3 e.keys.length wd ms 1 L.length), (1, qabh L), (2, .cells 65 (qaao e))], 3⟩ ∧ j ≤ e.keys.length ∧ n = e.keys.length - j) (qabc [(0, 0), (1, 1), (2, 2)] hm rfl (by simp) (by simp -implicitDefEqProofs [qaor]) (by simp -implicitDefEqProofs [qabg, qabh, qaao, nums, qabf])) ⟨0, rfl, by omega, rfl⟩ ?_)
  rintro s n ⟨j, rfl, c1, rfl⟩
  have g0 : j < e.keys.length → j < e.masks.length := fun h => by omega
  have g1 : j < e.keys.length → j < a.keys.length := fun h => by omega
  have g2 : j < e.keys.length → j < a.masks.length := fun h => by omega
  unfold qak9
  repeat' (first | (with_reducible first | refine qaa1 ?_ | refine qabb ?_) | ((with_reducible refine qacp ?_ ?_); (focus rfl)) | ((with_reducible first | refine qaap ?_ | refine qabl (by rw [hP]; exact mixed) ?_); (try rw [hP]); simp -implicitDefEqProofs [qaao, nums, qabf, qabg, qabh, *]) | ((with_reducible first | refine qaa0 ?_ | refine qaby ?_); (try simp -implicitDefEqProofs [qaao, nums, qabf, qabg, qabh, *])) | ((with_reducible refine qabd ?_); (try simp only [qaaz, qaad, qaag])) | ((with_reducible refine qaat rfl (fun h => ?_) (fun h => ?_)) <;> have h' := h <;> (try simp at h') <;> (try subst h')) | fail)
  ·rw [qabo (by omega) (by omega)]
   have hq : qagu (j + 1) a e = false := by
    rw [qahk]; unfold meetC
    rw [qaep _ _ ‹j < e.keys.length›, qaep _ _ (g0 ‹_›), qaep _ _ (g1 ‹_›), qaep _ _ (g2 ‹_›), beq_eq_false_iff_ne.2 (by simpa using h)]
    simp
   exact qabm (qabc [(0, 0), (1, 1), (2, 2)] hm rfl (by simp) (by simp -implicitDefEqProofs [hq]) (by simp -implicitDefEqProofs [qabg, qabh, qaao, nums])) ⟨j + 1, rfl, by omega, rfl⟩ (by omega)
  ·rw [qabo (by omega) (by omega)]
   have hq : qagu (j + 1) a e = qagu j a e := by
    rw [qahk]; unfold meetC
    rw [qaep _ _ ‹j < e.keys.length›, qaep _ _ (g0 ‹_›), qaep _ _ (g1 ‹_›), qaep _ _ (g2 ‹_›), beq_iff_eq.2 (by simpa using h)]
    simp
   exact qabm (qabc [(0, 0), (1, 1), (2, 2)] hm rfl (by simp) (by simp -implicitDefEqProofs [hq]) (by simp -implicitDefEqProofs [qabg, qabh, qaao, nums])) ⟨j + 1, rfl, by omega, rfl⟩ (by omega)
  ·obtain rfl : j = e.keys.length := by omega
   have hany : (3 : Int) = 3 ∧ L.any (fun a => qagu (e.keys.length : Int).toNat a e) = true := ⟨rfl, List.any_eq_true.2 ⟨a, by rw [← hLa]; exact List.getElem_mem _, by simpa using h⟩⟩
   exact fin _ _ _ (by decide) (hex.out _ (fun _ => rfl) (fun h => absurd hany h) (fun h => absurd hany h))
  ·obtain rfl : j = e.keys.length := by omega
   rw [qabo (by omega) (by omega)]
   refine qabm (qabc [(0, 0), (1, 1), (2, 2)] hm rfl (by simp) (by simp -implicitDefEqProofs) (by simp -implicitDefEqProofs [qabg, qabh, qaao, nums])) ⟨i + 1, rfl, by omega, ?_, rfl⟩ (by omega)
   exact qad3 ‹i < L.length› (h2 rfl) (by rw [hLa]; simpa using h)
 ·decide
 ·exact hex.out _ (fun h => absurd h (hno ‹_›)) (fun _ _ => rfl) (fun _ h => absurd ‹_› h)
 ·exact finY.out _ 43 _ _ _ rfl (hex.out _ (fun h => absurd h (hno ‹_›)) (fun _ h => by omega) (fun _ _ => rfl)) (.inr rfl)
 ·decide
 ·exact hex.out _ (fun h => absurd h (hno2.out _ (by omega) h2)) (fun _ _ => rfl) (fun _ h => absurd ‹_› h)
 ·exact finY.out _ 38 _ _ _ rfl (hex.out _ (fun h => absurd h (hno2.out _ (by omega) h2)) (fun _ h => by omega) (fun _ _ => rfl)) (.inl rfl)
end Go.Proofs.Yticeaegpkpjjeaa
namespace Go.Proofs.Yticeaegpkpjjeaa
set_option linter.all false
open Go.RowKit
attribute [local simp] qaam qaal qaab qaaf qaac qaae qaaj qaak qaaa qaax SOp.run SX.ev putd puts argS upds SOp.touch SSt.keep SSt.skip gets geth puth delh idOf SV.cells? setL qabu qabv sbin eq0 eq1 eqL qabs qaa9 qaba qaaz qaai qaad qaan qaay qaag qaah FrzOk qaa4 qaav qaa2 qaa3 qaaq qaau qaa7 qaaw qaas qaa5 qaar frzS frzH frz frz1 frz0 SlotsM ObjsM ObjM rn ren ren1 ren0 qabj qabq qabx qabi qaa8 qabr qabw CoL qaa6 qace dels adds idsH qab7 qabz qaco qacz qacw
def chgC (k ks wd : Int) (L : List Entry) (e : Entry) : Int := if mayC k ks wd e = 0 then (if 0 ≤ atI k L e then 0 else 9) else mayC k ks wd e
def chgL (k ks wd : Int) (L : List Entry) (e : Entry) : List Entry := if chgC k ks wd L e = 0 then L.set (atN k L e) (qaha k e) else L
theorem qae7 (k : Int) (L : List Entry) (e : Entry) : (atI k L e = atN k L e ∧ atN k L e < L.length) ∨ atI k L e = -1 := by
 unfold atI
 split
 ·exact .inl ⟨rfl, ‹_›⟩
 ·exact .inr rfl
theorem qasi {k ks wd ms : Int} {L L' : List Entry} (h : L'.length = L.length) : qack k ks wd ms L' = [(0, qabg k ks wd ms 1 L.length), (1, qabh L')] := by unfold qack; rw [h]
theorem qapf (k ks wd : Int) (L : List Entry) (e : Entry) : (chgL k ks wd L e).length = L.length := by unfold chgL; split <;> simp
theorem rchg_s (k ks wd ms : Int) (L : List Entry) (e : Entry) (hs : ∀ a ∈ L, qadd a) (hse : qadd e) (hL : L.length ≤ 1000000) : SCalls Try.prog 38 [.ptr 0 0, .agg (qaao e)] (qack k ks wd ms L) 2 (.int .i64 (chgC k ks wd L e)) (qack k ks wd ms (chgL k ks wd L e)) := by
 refine qabe (N := 27) Try.func38 rfl rfl (by kernel_rfl) qamf (by simp) ⟨rfl, rfl, trivial⟩ (qac3 _ _ _ _ _) ?_
 rintro X hP hN hm
 rw [qasi (qapf k ks wd L e)]
 generalize hL2 : chgL k ks wd L e = L2
 generalize hr : chgC k ks wd L e = r
 have fin : ∀ (c : Int) es hp nx, c = r → es = L2.map qaao → QFun X (Try.f38).results.toList 2 (.int .i64 r) [(0, qabg k ks wd ms 1 L.length), (1, qabh L2)] .ret ⟨[(4, .int .i64 c)], (0, qabg k ks wd ms 1 L.length) :: (1, .row 65 6 es) :: hp, nx⟩ := fun c es hp nx hc he => by
  rw [hc, he]
  exact (qabn (s' := ⟨[(4, .int .i64 r)], [(0, qabg k ks wd ms 1 L.length), (1, qabh L2)], 2⟩) (qabc [(0, 0), (1, 1)] hm rfl (Nat.le_refl _) (by simp -implicitDefEqProofs) (by simp -implicitDefEqProofs [qabg, qabh])) rfl ⟨rfl, rfl, trivial⟩ (by simp))
 have hat : 0 ≤ atI k L e → atI k L e = atN k L e := fun h => by rcases qae7 k L e with h2 | h2 <;> omega
 have hat2 : 0 ≤ atI k L e → atN k L e < L.length := fun h => by rcases qae7 k L e with h2 | h2 <;> omega
 unfold c_rchg qack qabg qabh
 repeat' (first | (with_reducible refine qaa1 ?_) | ((with_reducible refine qacp ?_ ?_); (focus rfl)) | ((with_reducible first | refine qaap ?_ | refine qabl (by rw [hP]; exact mixed) ?_); (try rw [hP]); simp -implicitDefEqProofs [qaao, nums, qabf, qabg, qabh, *]) | ((with_reducible refine qaa0 ?_); (try simp -implicitDefEqProofs [qaao, nums, qabf, qabg, qabh, *])) | ((with_reducible refine qabd ?_); (try simp only [qaaz, qaad, qaag])) | ((with_reducible refine qaat rfl (fun h => ?_) (fun h => ?_)) <;> have h' := h <;> (try simp at h') <;> (try subst h')) | ((first | refine qacx (qael (may_s k ks wd ms L e hse) (fun σ => rfl) (fun σ => rfl) rfl 0 1 _ (by decide) (by simp) (by simp)) ⟨rfl, rfl, trivial⟩ ⟨rfl, rfl, trivial⟩ ?_ | refine qacx (qael (at_s k ks wd ms L e hs hL) (fun σ => rfl) (fun σ => rfl) rfl 0 1 _ (by decide) (by simp) (by simp)) ⟨rfl, rfl, trivial⟩ ⟨rfl, rfl, trivial⟩ ?_ | refine qacx (qael (kept_s k ks wd ms L e hse) (fun σ => rfl) (fun σ => rfl) rfl 0 1 _ (by decide) (by simp) (by simp)) ⟨rfl, rfl, trivial⟩ ⟨rfl, rfl, trivial⟩ ?_); simp -implicitDefEqProofs [qaao, nums, qabf, qabg, qabh, *]) | (refine fin _ _ _ _ ?_ ?_) | fail)
 ·rw [← hr]; unfold chgC; rw [if_neg h']
 ·rw [← hL2]; unfold chgL; rw [if_neg (by unfold chgC; rw [if_neg h']; exact h')]
 ·rw [← hr]; unfold chgC; rw [if_pos ‹_›, if_neg (by omega)]
 ·rw [← hL2]; unfold chgL; rw [if_neg (by unfold chgC; rw [if_pos ‹_›, if_neg (by omega)]; decide)]
 ·rw [← hr]; unfold chgC; rw [if_pos ‹_›, if_pos h']
 ·rw [← hL2]; unfold chgL; rw [if_pos (by unfold chgC; rw [if_pos ‹_›, if_pos h']), List.map_set]; rfl
def qai4 (k ks wd : Int) (L : List Entry) (e : Entry) : Int := if mayC k ks wd e = 0 then (if 0 ≤ atI k L e then 0 else 9) else mayC k ks wd e
def qai3 (k ks wd : Int) (L : List Entry) (e : Entry) : List Entry := if qai4 k ks wd L e = 0 then L.take (atN k L e) ++ L.drop (atN k L e + 1) else L
def qazc (k ks wd ms : Int) (L : List Entry) (e : Entry) : Hp := if qai4 k ks wd L e = 0 then [(0, qabg k ks wd ms 2 (qai3 k ks wd L e).length), (2, qabh (qai3 k ks wd L e))] else qack k ks wd ms L
theorem qafw (e : Entry) : qai1 (qaao e) := by unfold qaao nums; simp
theorem qawp (k ks wd ms : Int) (L : List Entry) (e : Entry) (hs : ∀ a ∈ L, qadd a) (hse : qadd e) (hL : L.length ≤ 1000000) : SCalls Try.prog 39 [.ptr 0 0, .agg (qaao e)] (qack k ks wd ms L) 2 (.int .i64 (qai4 k ks wd L e)) (qazc k ks wd ms L e) := by
 refine qabe (N := 38) Try.func39 rfl rfl (by kernel_rfl) qaj0 (by simp) ⟨rfl, rfl, trivial⟩ (qac3 _ _ _ _ _) ?_
 rintro X hP hN hm
 have fin : ∀ (r : Int) hp nx, r ≠ 0 → r = qai4 k ks wd L e → QFun X (Try.f39).results.toList 2 (.int .i64 (qai4 k ks wd L e)) (qazc k ks wd ms L e) .ret ⟨[(4, .int .i64 r)], (0, qabg k ks wd ms 1 L.length) :: (1, qabh L) :: hp, nx⟩ := fun r hp nx h0 hr => by
  rw [show qazc k ks wd ms L e = qack k ks wd ms L from if_neg (by rw [← hr]; exact h0), ← hr]
  exact (qabn (s' := ⟨[(4, .int .i64 r)], qack k ks wd ms L, 2⟩) (qabc [(0, 0), (1, 1)] hm rfl (Nat.le_refl _) (by simp -implicitDefEqProofs []) (by simp -implicitDefEqProofs [qack, qabg, qabh])) rfl ⟨rfl, rfl, trivial⟩ (by simp))
 have hat : 0 ≤ atI k L e → atI k L e = atN k L e := fun h => by rcases qae7 k L e with h2 | h2 <;> omega
 have hat2 : 0 ≤ atI k L e → atN k L e < L.length := fun h => by rcases qae7 k L e with h2 | h2 <;> omega
 have hat3 : 0 ≤ atI k L e → atN k L e ≤ L.length := fun h => by have := hat2 h; omega
 have hw : 0 ≤ atI k L e → IntKind.i64.wrap ((atN k L e : Int) + 1) = ((atN k L e + 1 : Nat) : Int) := fun h => by have := hat2 h; rw [qabo (by omega) (by omega)]; omega
 have hm1 : maxLen = 9223372036854775807 ∨ 1000000 < maxLen := by right; decide
 have hb1 : 0 ≤ atI k L e → atN k L e ≤ maxLen := fun h => by have := hat2 h; omega
 have hb2 : 0 ≤ atI k L e → atN k L e * 96 ≤ 140737488355328 := fun h => by have := hat2 h; omega
 have hb3 : 0 ≤ atI k L e → atN k L e + (L.length - (atN k L e + 1)) ≤ maxLen := fun h => by have := hat2 h; omega
 have hb4 : 0 ≤ atI k L e → (atN k L e + (L.length - (atN k L e + 1))) * 96 ≤ 140737488355328 := fun h => by have := hat2 h; omega
 have hb5 : 0 ≤ atI k L e → atN k L e + 1 ≤ L.length := fun h => by have := hat2 h; omega
 clear hm1
 unfold c_rdrop qack qabg qabh
 repeat' (first | ((refine qawj (c := .reg true qaiq []) [1] (by simp -implicitDefEqProofs [qafw]) (qabl (by rw [hP]; exact mixed) ?_); simp -implicitDefEqProofs [qaao, nums, qabf, qabg, qabh, *])) | (with_reducible refine qaa1 ?_) | ((with_reducible refine qacp ?_ ?_); (focus rfl)) | ((with_reducible refine qaap ?_); (try rw [hP]); simp -implicitDefEqProofs [qaao, nums, qabf, qabg, qabh, *]) | ((with_reducible refine qaa0 ?_); (try simp -implicitDefEqProofs [qaao, nums, qabf, qabg, qabh, *])) | ((with_reducible refine qabd ?_); (try simp only [qaaz, qaad, qaag])) | ((with_reducible refine qaat rfl (fun h => ?_) (fun h => ?_)) <;> have h' := h <;> (try simp at h') <;> (try subst h')) | ((with_reducible refine qaei ?_ ?_); (first | omega | (unfold maxLen; omega)); simp -implicitDefEqProofs [qaao, nums, qabf, qabg, qabh, *]) | ((first | refine qacx (qael (may_s k ks wd ms L e hse) (fun σ => rfl) (fun σ => rfl) rfl 0 1 _ (by decide) (by simp) (by simp)) ⟨rfl, rfl, trivial⟩ ⟨rfl, rfl, trivial⟩ ?_ | refine qacx (qael (at_s k ks wd ms L e hs hL) (fun σ => rfl) (fun σ => rfl) rfl 0 1 _ (by decide) (by simp) (by simp)) ⟨rfl, rfl, trivial⟩ ⟨rfl, rfl, trivial⟩ ?_); simp -implicitDefEqProofs [qaao, nums, qabf, qabg, qabh, *]) | (refine fin _ _ _ ?_ ?_) | fail)
 ·exact h'
 ·unfold qai4; rw [if_neg h']
 ·decide
 ·unfold qai4; rw [if_pos ‹_›, if_neg (by omega)]
 ·have hc : qai4 k ks wd L e = 0 := by unfold qai4; rw [if_pos ‹_›, if_pos h']
  have hl : qai3 k ks wd L e = L.take (atN k L e) ++ L.drop (atN k L e + 1) := by unfold qai3; rw [if_pos hc]
  have hn : (qai3 k ks wd L e).length = atN k L e + (L.length - (atN k L e + 1)) := by rw [hl]; simp; have := hat2 h'; omega
  rw [show qazc k ks wd ms L e = [(0, qabg k ks wd ms 2 (qai3 k ks wd L e).length), (2, qabh (qai3 k ks wd L e))] from if_pos hc, hc, hn, hl]
  exact qabn (s' := ⟨[(4, .int .i64 0)], [(0, qabg k ks wd ms 2 (atN k L e + (L.length - (atN k L e + 1)))), (2, qabh (L.take (atN k L e) ++ L.drop (atN k L e + 1)))], 3⟩) (qabc [(0, 0), (1, 1), (2, 47)] hm rfl (by simp) (by simp -implicitDefEqProofs) (by simp -implicitDefEqProofs [qabg, qabh, List.map_take, List.map_drop])) rfl ⟨rfl, rfl, trivial⟩ (by simp)
end Go.Proofs.Yticeaegpkpjjeaa
