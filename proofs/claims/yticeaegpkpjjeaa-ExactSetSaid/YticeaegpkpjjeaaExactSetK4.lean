/-
  Texts joined: XExaF XExaG XExaO XExaP XExaQ XExaR XExaS XExaT XExaU XRowB XRowD XRowH XExaV XExaW XExaX XExaZ XExbA XExbB XExbC XExbD. No condition.
-/
import Derived.Test.YticeaegpkpjjeaaRows
import Derived.Deep.QuietTactic
import Derived.BigQuiet
import Derived.WalkSmall
import Derived.Handy
import Derived.WalkSpells
import Derived.RegionTactic
import Derived.BigRegion
import Derived.Deep.RegionLaw
import Derived.Test.YticeaegpkpjjeaaProg
import Derived.Test.YticeaegpkpjjeaaExactSetK3
namespace Go.Proofs.Yticeaegpkpjjeaa
set_option linter.all false
open Go.RowKit
attribute [local simp] qaak qaaj qaab qaaf qaac qaae qaah qaai qaaa qaap SOp.run SX.ev putd puts argS upds SOp.touch SSt.keep SSt.skip gets geth puth delh idOf SV.cells? setL qabr qabs sbin eq0 eq1 eqL qabn qaa5 qaa6 qaav qaal qaad qaam qaaq qaag qaan FrzOk qaa2 qaax qaa0 qaa1 qaar qaaw qaa8 qaay qaat qaa3 qaas frzS frzH frz frz1 frz0 SlotsM ObjsM ObjM rn ren ren1 ren0 qabj qab7 qab6 qabi qaa9 qab3 qab5 CoL qaa4 qab1 dels adds idsH qabz
theorem qacr {S : XTab} {xs : List Int} : ∀ (f i : Nat), (qab4 S xs f i).2 = true → ∃ s : XSlot, S[(qab4 S xs f i).1]? = some (some s) ∧ s.keys = xs
 | 0, i, h => by cases h
 | f + 1, i, h => by
  cases hs : S[i]? with
  | none => rw [qab4, hs] at h; cases h
  | some o =>
   cases o with
   | none => rw [qab4, hs] at h; cases h
   | some s =>
    by_cases e : s.keys = xs
    ·rw [qab4, hs]; simp only [if_pos e]; exact ⟨s, hs, e⟩
    ·rw [qab4, hs] at h ⊢
     simp only [if_neg e] at h ⊢
     exact qacr f _ h
def qaki (k : Int) (S : XTab) (xs : List Int) : Int := if (xs.length : Int) ≠ k then 2 else if (qabu S xs).2 = true then 0 else 9
def qadh (k : Int) (S : XTab) (xs : List Int) : Option XSlot := if (xs.length : Int) ≠ k then none else if (qabu S xs).2 = true then S[(qabu S xs).1]?.getD none else none
def qahz (o : Option XSlot) : SV := match o with
 | some s => .tup [.agg (hitc s.act s.args), .bool true]
 | none => .tup [.agg (hitc 0 []), .bool false]
theorem qafc {X : Cx} {sl : Sl} {hp : Hp} {t u nx id n : Nat} {h : Hp} {k m : Int} {c : Nat} {S : XTab} {ty : TypeId} {cs ds : List SV} {v r : SV} (hm : X.m = 2) (hid : 2 ≤ id) (hne : t ≠ u) (hv : gets sl t = v) (hN : NoN v) (hu : gets sl u = .ptr id 0) (hc : geth hp id = some (.cells ty cs)) (hh : h = xobj k m c S) (h0 : geth hp 0 = some (.cells 163 [.int .i64 k, .int .i64 m, .int .i64 c, .own 1 S.length])) (h1 : geth hp 1 = some (.row 167 4 (S.map xsc))) (ha : qafx X.P ty = some true) (hn : qabk X.P ty = some n) (hl : ds.length = n) (e : CoL cs ds) (hr : r = .tup [.agg ds, v]) (hd : ∀ σ, ds.map (Go.Proofs.Yticeaegpkpjjeaa.ren σ) = ds) : QFun X [.cell u ty, .tmp t] 2 r h .ret ⟨sl, hp, nx⟩ := by
 subst hr hl hh
 have hw : Wk X ⟨sl, hp, nx⟩ ⟨[(u, .ptr 2 0), (t, v)], [(0, .cells 163 [.int .i64 k, .int .i64 m, .int .i64 c, .own 1 S.length]), (1, .row 167 4 (S.map xsc)), (2, .cells ty ds)], 3⟩ := by
  refine qabh [(2, id)] hm ⟨?_, ?_, trivial⟩ ⟨⟨_, h0, rfl, CoL.refl _⟩, ⟨_, h1, rfl, rfl, by rw [qacm]; exact CoLL.refl _⟩, ⟨_, hc, rfl, by rw [hd]; exact e⟩, trivial⟩ ?_ (by simp)
  ·rw [hu]; exact Co.refl _
  ·rw [hv, hN]; exact Co.refl _
  ·have a1 : ¬ (0 = id) := by omega
   have a2 : ¬ (1 = id) := by omega
   have a3 : ¬ (id = 0) := by omega
   have a4 : ¬ (id = 1) := by omega
   simp [qabz, diag, idsH, List.range_succ, a1, a2, a3, a4]
 refine ⟨_, hw, ?_, ⟨rfl, rfl, trivial⟩, by simp⟩
 simp [qahm, resL, resV, one_, gets, ha, SOp.run, SX.ev, geth, hne, hne.symm, hn]
theorem xfind_s (k m : Int) (S : XTab) (hS : 0 < S.length ∧ S.length ≤ 1048576) (hsm : qad7 S) (xs : List Int) (hx : xs.length ≤ 1000000) (hf : ∃ e : Nat, S[e]? = some none) : SCalls Try.prog 31 [.ptr 0 0, nums .u64 xs] (xobj k m (cnt S) S) 2 (qahz (qadh k S xs)) (xobj k m (cnt S) S) := by
 have k1 := fun q => qalc k m S hS hsm xs hx hf q
 have hv : qadh k S xs = if (xs.length : Int) ≠ k then none else if (qabu S xs).2 = true then S[(qabu S xs).1]?.getD none else none := rfl
 have hR : (qabu S xs).1 < S.length := qaea _ _ (Nat.mod_lt _ hS.1)
 have hT : (qabu S xs).2 = true → ∃ s : XSlot, S[(qabu S xs).1]? = some (some s) ∧ s.keys = xs := qacr _ _
 rw [show qab4 S xs S.length (qada S.length xs) = qabu S xs from rfl] at k1
 generalize qadh k S xs = V at hv ⊢
 obtain ⟨R, b, hp⟩ : ∃ R b, qabu S xs = (R, b) := ⟨_, _, rfl⟩
 rw [hp] at k1 hv hR hT
 simp only at k1 hv hR hT
 obtain ⟨n, hn⟩ : ∃ n, n = cnt S := ⟨_, rfl⟩
 rw [← hn] at k1 ⊢
 obtain ⟨H2, hH2⟩ : ∃ H, H = xobj k m n S := ⟨_, rfl⟩
 obtain ⟨W, hW⟩ : ∃ W, W = qahz V := ⟨_, rfl⟩
 rw [← hW]
 suffices h : SCalls Try.prog 31 [.ptr 0 0, nums .u64 xs] (xobj k m n S) 2 W H2 by rw [← hH2]; rw [← hH2] at h; exact h
 replace hW := Lib.hid hW
 replace hH2 := Lib.hid hH2
 replace hv := Lib.hid hv
 replace hp := Lib.hid hp
 replace hn := Lib.hid hn
 replace hf := Lib.hid hf
 have hsm' := hsm
 replace hsm := Lib.hid hsm
 unfold nums at k1
 unfold xobj at k1 ⊢
 refine qabc (N := 34) Try.func31 rfl rfl (by kernel_rfl) qah1 (by simp) (by repeat' (first | exact trivial | refine And.intro ?_ ?_ | rfl | decide | exact PureR.ren _)) (by repeat' (first | exact trivial | refine And.intro ?_ ?_ | rfl | decide | exact PureR.ren _)) ?_
 rintro X hP hN hm
 unfold c_xfind nums
 by_cases h1 : (xs.length : Int) = k
 ·subst h1
  cases b with
  | true =>
   obtain ⟨s, hs, hk⟩ := hT rfl
   have k3 := fun q => xown_s s.act s.args (hsm' R s hs).2 q
   unfold hitc nums at k3
   clear hT hsm'
   have hs2 : S[R] = some s := by
    rw [List.getElem?_eq_getElem hR] at hs; exact Option.some.inj hs
   replace hs := Lib.hid hs
   replace hk := Lib.hid hk
   repeat' (first | (with_reducible refine zA ?_) | ((with_reducible refine qaao ?_); (try rw [hP]); simp -implicitDefEqProofs [hs2, qabx, nums, *]) | ((with_reducible refine qaaz ?_); (try simp -implicitDefEqProofs [hs2, qabx, nums, *])) | ((with_reducible refine qaba ?_); (try simp only [qaav, qaad, qaag])) | ((with_reducible refine qaau rfl (fun h => ?_) (fun h => ?_)) <;> have h' := h <;> (try simp at h') <;> (try subst h')) | ((first | refine qadj (k1 _) ⟨rfl, rfl, trivial⟩ ⟨rfl, rfl, trivial⟩ ?_ | refine qaci (k3 _) ?_); simp -implicitDefEqProofs [hs2, qabx, nums, *]) | fail)
   have hV : V = some s := by rw [hv.out, if_neg (by simp), if_pos rfl, hs.out]; rfl
   exact qafc (ds := hitc s.act s.args) hm (Nat.le_refl 2) (by decide) rfl (fun σ => rfl) rfl rfl hH2.out rfl rfl (by rw [hP]; with_reducible exact qafe) (by rw [hP]; exact qad8) rfl (CoL.refl _) (by rw [hW.out, hV]; rfl) (fun σ => rfl)
  | false =>
   clear hT hsm'
   repeat' (first | (with_reducible refine zA ?_) | ((with_reducible refine qaao ?_); (try rw [hP]); simp -implicitDefEqProofs [*]) | ((with_reducible refine qaaz ?_); (try simp -implicitDefEqProofs [*])) | ((with_reducible refine qaba ?_); (try simp only [qaav, qaad, qaag])) | ((with_reducible refine qaau rfl (fun h => ?_) (fun h => ?_)) <;> have h' := h <;> (try simp at h') <;> (try subst h')) | (refine qadj (k1 _) ⟨rfl, rfl, trivial⟩ ⟨rfl, rfl, trivial⟩ ?_; simp -implicitDefEqProofs [*]) | fail)
   have hV : V = none := by rw [hv.out, if_neg (by simp), if_neg (by simp)]
   exact qafc (ds := hitc 0 []) hm (Nat.le_refl 2) (by decide) rfl (fun σ => rfl) rfl rfl hH2.out rfl rfl (by rw [hP]; with_reducible exact qafe) (by rw [hP]; exact qad8) rfl ⟨Co.refl _, Co.nilsl _, trivial⟩ (by rw [hW.out, hV]; rfl) (fun σ => rfl)
 ·clear hT hsm'
  repeat' (first | (with_reducible refine zA ?_) | ((with_reducible refine qaao ?_); (try rw [hP]); simp -implicitDefEqProofs [h1, *]) | ((with_reducible refine qaaz ?_); (try simp -implicitDefEqProofs [h1, *])) | ((with_reducible refine qaba ?_); (try simp only [qaav, qaad, qaag])) | ((with_reducible refine qaau rfl (fun h => ?_) (fun h => ?_)) <;> have h' := h <;> (try simp at h') <;> (try subst h')) | fail)
  ·have hV : V = none := by rw [hv.out, if_pos h1]
   exact qafc (ds := hitc 0 []) hm (Nat.le_refl 2) (by decide) rfl (fun σ => rfl) rfl rfl hH2.out rfl rfl (by rw [hP]; with_reducible exact qafe) (by rw [hP]; exact qad8) rfl ⟨Co.refl _, Co.nilsl _, trivial⟩ (by rw [hW.out, hV]; rfl) (fun σ => rfl)
  ·exact absurd rfl h1
end Go.Proofs.Yticeaegpkpjjeaa
namespace Go.Proofs.Yticeaegpkpjjeaa
set_option linter.all false
open Go.RowKit
attribute [local simp] qaak qaaj qaab qaaf qaac qaae qaah qaai qaaa qaap SOp.run SX.ev putd puts argS upds SOp.touch SSt.keep SSt.skip gets geth puth delh idOf SV.cells? setL qabr qabs sbin eq0 eq1 eqL qabn qaa5 qaa6 qaav qaal qaad qaam qaaq qaag qaan FrzOk qaa2 qaax qaa0 qaa1 qaar qaaw qaa8 qaay qaat qaa3 qaas frzS frzH frz frz1 frz0 SlotsM ObjsM ObjM rn ren ren1 ren0 qabj qab7 qab6 qabi qaa9 qab3 qab5 CoL qaa4 qab1 dels adds idsH qabz
theorem qaib {N a b : Nat} (ha : a < N) (hb : b < N) : Int.tmod ((b : Int) - a + N) N = (dist N a b : Nat) := by
 rw [Int.tmod_eq_emod_of_nonneg (by omega)]
 unfold dist
 split
 ·rw [show (b : Int) - a + N = ((b - a : Nat) : Int) + N * 1 by omega, Int.add_mul_emod_self_left, Int.emod_eq_of_lt (by omega) (by omega)]
 ·rw [Int.emod_eq_of_lt (by omega) (by omega)]; omega
theorem qank {N a : Nat} (ha : a < N) : Int.tmod ((a : Int) + 1) N = (addm N a 1 : Nat) := by
 rw [Int.tmod_eq_emod_of_nonneg (by omega), ← qanh ha (by omega)]; rfl
theorem qan7 {N a i g : Nat} (ha : a < N) (hi : i < N) (hne : a ≠ i) (h : dist N a i < g + 1) : dist N (addm N a 1) i < g := by
 unfold dist addm at *
 (repeat' split at h) <;> (repeat' split) <;> omega
theorem qaqg {hm : List Int → Nat} {S : XTab} (h : qapu hm S) {R : Nat} {s : XSlot} (hR : S[R]? = some (some s)) : HInv hm S R := by
 have hl := qabq hR
 refine ⟨h.lt, fun j t _ ht d hd => ?_, fun j k t u _ _ ht hu he => h.uniq j k t u (by have := qabq ht; omega) (by have := qabq hu; omega) ht hu he, ?_⟩
 ·rcases h.path j t (by have := qabq ht; omega) ht d hd with e | e
  ·have := qacy (h.lt t.keys) (show d ≤ S.length by have := qabq ht; have := h.lt t.keys; unfold dist at hd; split at hd <;> omega)
   omega
  ·exact .inr e
 ·obtain ⟨e, -, he⟩ := h.free
  exact ⟨e, fun e1 => (by rw [e1, hR] at he; cases he), he⟩
theorem qakx {hm : List Int → Nat} {S : XTab} {i f k : Nat} (h : S[addm S.length k 1]? = some none) : qahd hm S i (f + 1) k = none := by rw [qahd, h]
theorem qakw {hm : List Int → Nat} {S : XTab} {i f k : Nat} {s : XSlot} (h : S[addm S.length k 1]? = some (some s)) : qahd hm S i (f + 1) k = if dist S.length i (addm S.length k 1) ≤ dist S.length (hm s.keys) (addm S.length k 1) then some (addm S.length k 1) else qahd hm S i f (addm S.length k 1) := by rw [qahd, h]
theorem qan5 {hm : List Int → Nat} {f : Nat} {S : XTab} {i : Nat} (h : HInv hm S i) (hi : i < S.length) (hfr : ∃ e : Nat, e ≠ i ∧ S[e]? = some none ∧ dist S.length i e ≤ f + 1) {k : Nat} (hk : qahd hm (S.set i none) i S.length i = some k) : ∃ s, S[k]? = some (some s) ∧ k ≠ i ∧ HInv hm ((S.set i none).set i (some s)) k ∧ ∃ e : Nat, e ≠ k ∧ ((S.set i none).set i (some s))[e]? = some none ∧ dist S.length k e ≤ f := by
 obtain ⟨e0, he0, h10, h20⟩ := hfr
 have hS := qalq h none
 have hl : (S.set i none).length = S.length := List.length_set ..
 have hi' : i < (S.set i none).length := by rw [hl]; exact hi
 obtain ⟨e, he, h1, h4⟩ := qaqb hi' hS.free
 have g1 : ∀ j, j ≠ i → (S.set i none)[j]? = S[j]? := fun j hj => by rw [qabt hi, if_neg hj]
 have d0 : dist (S.set i none).length i i = 0 := by unfold dist; simp
 have hel := qabq h1
 have hpos : 0 < dist (S.set i none).length i e := by unfold dist; split <;> omega
 have hlt := qadp hi' hel
 rcases qafj hS hi' he h1 h4 S.length i hi' (by omega) (by omega) (fun d h5 h6 => by omega) with ⟨k2, s, q1, q2, q3, q4, q5⟩ | ⟨q1, q2⟩
 ·rw [hk] at q1
  obtain rfl := Option.some.inj q1
  have hks : S[k]? = some (some s) := by rw [← g1 k q2]; exact q3
  have hm2 := qaiq hS hi' q2 q3 q4
  have hkl := qabq hks
  have hke0 : dist S.length i k < dist S.length i e0 := by
   rcases Nat.lt_or_ge (dist S.length i k) (dist S.length i e0) with h9 | h9
   ·exact h9
   ·exfalso
    rw [hl] at q5
    have hp0 : 0 < dist S.length i e0 := by have := qabq h10; unfold dist; split <;> omega
    have hne : dist S.length i e0 ≠ dist S.length i k := fun e1 => by
     have a1 := qace hi (qabq h10)
     have a2 := qace hi hkl
     rw [e1, a2] at a1
     rw [← a1, hks] at h10; cases h10
    obtain ⟨t, ht⟩ := h4 (dist S.length i e0) hp0 (by rw [hl]; omega)
    rw [hl, qace hi (qabq h10), g1 e0 he0, h10] at ht
    cases ht
  refine ⟨s, hks, q2, hm2, e0, (fun e1 => (by rw [e1, hks] at h10; cases h10)), ?_, ?_⟩
  ·rw [List.getElem?_set, if_neg (Ne.symm he0), g1 e0 he0]; exact h10
  ·have := qabq h10
   unfold dist at hke0 h20 ⊢
   (repeat' split at *) <;> (repeat' split) <;> omega
 ·rw [hk] at q1; cases q1
theorem qalx {hm : List Int → Nat} {f : Nat} {S : XTab} {i : Nat} (h : qahd hm (S.set i none) i S.length i = none) : qaft hm (f + 1) S i = S.set i none := by rw [qaft, h]
theorem qalw {hm : List Int → Nat} {f : Nat} {S : XTab} {i k : Nat} {s : XSlot} (h : qahd hm (S.set i none) i S.length i = some k) (hk : S[k]? = some (some s)) : qaft hm (f + 1) S i = qaft hm f ((S.set i none).set i (some s)) k := by rw [qaft, h]; simp only [hk, Option.getD_some]
def drpX (k : Int) (S : XTab) (xs : List Int) : XTab := if qaki k S xs = 0 then qaft (qada S.length) S.length S (qabu S xs).1 else S
theorem qafi {S : XTab} (h : qad7 S) {i : Nat} (hi : i < S.length) (o : Option XSlot) (ho : ∀ s, o = some s → s.keys.length ≤ 1000000 ∧ s.args.length ≤ 1000000) : qad7 (S.set i o) := fun j s hs => by
 rw [qabt hi] at hs
 split at hs
 ·exact ho s (Option.some.inj hs)
 ·exact h j s hs
set_option maxHeartbeats 1000000 in
theorem xdrop_s (k m : Int) (S : XTab) (hS : 0 < S.length ∧ S.length ≤ 1048576) (hsm : qad7 S) (xs : List Int) (hx : xs.length ≤ 1000000) (hI : qapu (qada S.length) S) : SCalls Try.prog 27 [.ptr 0 0, nums .u64 xs] (xobj k m (cnt S) S) 2 (.int .i64 (qaki k S xs)) (xobj k m (cnt (drpX k S xs)) (drpX k S xs)) := by
 have hf : ∃ e : Nat, S[e]? = some none := let ⟨e, _, h⟩ := hI.free; ⟨e, h⟩
 have k1 := fun q => qalc k m S hS hsm xs hx hf q
 have hv : qaki k S xs = if (xs.length : Int) ≠ k then 2 else if (qabu S xs).2 = true then 0 else 9 := rfl
 have hr : drpX k S xs = if qaki k S xs = 0 then qaft (qada S.length) S.length S (qabu S xs).1 else S := rfl
 have hR : (qabu S xs).1 < S.length := qaea _ _ (Nat.mod_lt _ hS.1)
 have hT : (qabu S xs).2 = true → ∃ s : XSlot, S[(qabu S xs).1]? = some (some s) ∧ s.keys = xs := qacr _ _
 rw [show qab4 S xs S.length (qada S.length xs) = qabu S xs from rfl] at k1
 generalize qaki k S xs = V at hv hr ⊢
 generalize drpX k S xs = S' at hr ⊢
 obtain ⟨R, b, hp⟩ : ∃ R b, qabu S xs = (R, b) := ⟨_, _, rfl⟩
 rw [hp] at k1 hv hr hR hT
 simp only at k1 hv hr hR hT
 obtain ⟨n, hn⟩ : ∃ n, n = cnt S := ⟨_, rfl⟩
 rw [← hn] at k1 ⊢
 have hnl : n ≤ S.length := by rw [hn]; exact List.countP_le_length
 replace hv := Lib.hid hv
 replace hr := Lib.hid hr
 replace hp := Lib.hid hp
 replace hn := Lib.hid hn
 replace hf := Lib.hid hf
 replace hI := Lib.hid hI
 replace hsm := Lib.hid hsm
 unfold nums at k1
 obtain ⟨H2, hH2⟩ : ∃ H, H = xobj k m (cnt S') S' := ⟨_, rfl⟩
 rw [← hH2]
 replace hH2 := Lib.hid hH2
 unfold xobj at k1 ⊢
 refine qabc (N := 111) Try.func27 rfl rfl (by kernel_rfl) qah2 (by simp) (by repeat' (first | exact trivial | refine And.intro ?_ ?_ | rfl | decide | exact PureR.ren _)) (by repeat' (first | exact trivial | refine And.intro ?_ ?_ | rfl | decide | exact PureR.ren _)) ?_
 rintro X hP hN hm
 unfold c_xdrop nums
 by_cases h1 : (xs.length : Int) = k
 ·subst h1
  cases b with
  | true =>
   obtain ⟨s, hs, hk⟩ := hT rfl
   clear hT
   have hV : V = 0 := by rw [hv.out, if_neg (by simp), if_pos rfl]
   have hS' : S' = qaft (qada S.length) S.length S R := by rw [hr.out, if_pos hV]
   subst hV
   have hi0 := qaqg hI.out hs
   have hfr : ∃ e : Nat, e ≠ R ∧ S[e]? = some none ∧ dist S.length R e ≤ S.length := by
    obtain ⟨e, h1, h2⟩ := hi0.free
    exact ⟨e, h1, h2, Nat.le_of_lt (qadp hR (qabq h2))⟩
   have hds := qafs S.length S R hi0 hR hfr
   rw [← hS'] at hds
   have hcn : cnt S' + 1 = n := by
    have := qae9 S R none hR
    rw [hds.2.2.2, hn.out]
    have hs2 : S[R] = some s := by rw [List.getElem?_eq_getElem hR] at hs; exact Option.some.inj hs
    rw [hs2] at this
    simpa using this
   have hlS' : S'.length = S.length := hds.2.1
   clear hds
   obtain ⟨c, hc⟩ : ∃ c, cnt S' = c := ⟨_, rfl⟩
   rw [hc] at hcn
   subst hcn
   have w1 : IntKind.i64.wrap (c : Int) = (c : Int) := IntWalk.i64_in _ ⟨by omega, by omega⟩
   replace hs := Lib.hid hs
   replace hk := Lib.hid hk
   replace hc := Lib.hid hc
   replace hlS' := Lib.hid hlS'
   replace hS' := Lib.hid hS'
   replace hfr := Lib.hid hfr
   replace hi0 := Lib.hid hi0
   repeat' (first | (with_reducible refine zA ?_) | ((with_reducible refine qaao ?_); (try rw [hP]); simp -implicitDefEqProofs [w1, *]) | ((with_reducible refine qaaz ?_); (try simp -implicitDefEqProofs [w1, *])) | ((with_reducible refine qaau rfl (fun h => ?_) (fun h => ?_)) <;> have h' := h <;> (try simp at h') <;> (try subst h')) | (refine qadj (k1 _) ⟨rfl, rfl, trivial⟩ ⟨rfl, rfl, trivial⟩ ?_; simp -implicitDefEqProofs [w1, *]) | fail)
   replace hS' := hS'.out
   replace hfr := hfr.out
   replace hi0 := hi0.out
   replace hsm := hsm.out
   clear hI hf hs hk hn hv hr hp k1 hlS'
   obtain ⟨N, hNl⟩ : ∃ N, N = S.length := ⟨_, rfl⟩
   rw [← hNl] at hS' hi0 hR hS hfr ⊢
   have hSl : S.length = N := hNl.symm
   clear hNl hnl
   refine qabf (qacv (fun s (z : XTab × Nat × Nat) => s.turn [(5, .int .i64 z.2.1)] [(1, .row 167 4 (z.1.map xsc))]) (fun z => z.1.length = N ∧ z.2.1 < N ∧ qad7 z.1 ∧ HInv (qada N) z.1 z.2.1 ∧ S' = qaft (qada N) z.2.2 z.1 z.2.1 ∧ ∃ e : Nat, e ≠ z.2.1 ∧ z.1[e]? = some none ∧ dist N z.2.1 e ≤ z.2.2) (fun z => z.2.2) (S, R, N) ?_ ⟨hSl, hR, hsm, hi0, hS', hfr⟩ ?_)
   ·repeat' (first | ((with_reducible refine qabh [] hm ?_ ?_ ?_ ?_) <;> (try simp only [zT, puth, Nat.reduceEqDiff, reduceIte, Nat.reduceAdd])) | (with_reducible first | refine za ?_ ?_ | refine zb ?_ ?_ ?_ ?_ | refine zc ?_ ?_ ?_ ?_) | (with_reducible first | exact qabb | exact qabg) | ((with_reducible first | refine zga ?_ | refine zgb ?_); rfl) | ((with_reducible refine zgc ?_); (first | (with_reducible rfl) | rfl | (simp; done))) | ((with_reducible refine zgd ?_); (first | omega | (simp; done))) | (exact Co.refl _) | (exact CoL.refl _) | fail)
   rintro J hJ ⟨T, i, f⟩ ⟨g1, g2, g3, g4, g5, g6⟩
   unfold qagh
   simp only [zT, puth, Nat.reduceEqDiff, reduceIte, Nat.reduceAdd] at g1 g2 g3 g4 g5 g6 ⊢
   clear hS' hi0 hsm hfr hSl hR
   obtain ⟨f, rfl⟩ : ∃ g, f = g + 1 := ⟨f - 1, by
    obtain ⟨e, e1, e2, e3⟩ := g6
    have := qabq e2
    unfold dist at e3
    split at e3 <;> omega⟩
   have hTi : T[i]? = some T[i] := List.getElem?_eq_getElem (by omega)
   obtain ⟨T1, hT1⟩ : ∃ T1, T1 = T.set i none := ⟨_, rfl⟩
   have hset : (T.map xsc).set i (((((xsc T[i]).set 0 (.bool false)).set 1 .nilsl).set 2 (.int .i64 0)).set 3 .nilsl) = T1.map xsc := by rw [qaku (qapw _), hT1, List.map_set]; rfl
   have hl1 : T1.length = N := by rw [hT1, List.length_set, g1]
   have h1i : T1[i]? = some none := by rw [hT1, qabt (by omega), if_pos rfl]
   have hsm1 : qad7 T1 := by rw [hT1]; exact qafi g3 (by omega) none (fun s h => by cases h)
   obtain ⟨G, hG⟩ : ∃ G, G = qahd (qada N) T1 i N i := ⟨_, rfl⟩
   have hsc : qahd (qada N) (T.set i none) i T.length i = G := by rw [hG, hT1, g1]
   have hstep := fun p (e : G = some p) => qan5 g4 (by omega) (by rw [g1]; exact g6) (k := p) (by rw [hsc]; exact e)
   have hend : G = none → S' = T1 := fun e => by rw [g5, qalx (by rw [hsc]; exact e), hT1]
   have hgo : ∀ p s, G = some p → T[p]? = some (some s) → S' = qaft (qada N) f (T1.set i (some s)) p := fun p s e h => by rw [g5, qalw (by rw [hsc]; exact e) h, hT1]
   rw [← hT1] at hstep
   replace g3 := Lib.hid g3
   replace g4 := Lib.hid g4
   replace g5 := Lib.hid g5
   replace g6 := Lib.hid g6
   replace hG := Lib.hid hG
   replace hsc := Lib.hid hsc
   replace hT1 := Lib.hid hT1
   replace hstep := Lib.hid hstep
   replace hend := Lib.hid hend
   replace hgo := Lib.hid hgo
   replace hsm1 := Lib.hid hsm1
   replace h1i := Lib.hid h1i
   repeat' (first | (with_reducible first | refine zA ?_ | refine qabd ?_) | ((with_reducible refine qaao ?_); (try rw [hP]); simp -implicitDefEqProofs [g1, hset, hTi, *]) | fail)
   have hJo := hJ
   have hb0 : dist N (addm N i 1) i < N := qadp (qacy g2 (by omega)) g2
   replace hb0 := Lib.hid hb0
   refine qabf (qacv (fun s (z : Nat × Nat) => s.turn [(7, .int .i64 z.1)] []) (fun z => z.1 < N ∧ G = qahd (qada N) T1 i z.2 z.1 ∧ dist N (addm N z.1 1) i < z.2) (fun z => z.2) (i, N) ?_ ⟨g2, hG.out, hb0.out⟩ ?_)
   ·repeat' (first | ((with_reducible refine qabh [] hm ?_ ?_ ?_ ?_) <;> (try simp only [zT, puth, Nat.reduceEqDiff, reduceIte, Nat.reduceAdd])) | (with_reducible first | refine za ?_ ?_ | refine zb ?_ ?_ ?_ ?_ | refine zc ?_ ?_ ?_ ?_) | (with_reducible first | exact qabb | exact qabg) | ((with_reducible first | refine zga ?_ | refine zgb ?_); rfl) | ((with_reducible refine zgc ?_); (first | (with_reducible rfl) | rfl | (simp; done))) | ((with_reducible refine zgd ?_); (first | omega | (simp; done))) | (exact Co.refl _) | (exact CoL.refl _) | fail)
   rintro J hJ ⟨j, g⟩ ⟨a1, a2, a3⟩
   unfold qagi
   simp only [zT, puth, Nat.reduceEqDiff, reduceIte, Nat.reduceAdd] at a1 a2 a3 ⊢
   obtain ⟨g, rfl⟩ : ∃ h, g = h + 1 := ⟨g - 1, by omega⟩
   obtain ⟨p, hp⟩ : ∃ p, p = addm N j 1 := ⟨_, rfl⟩
   have hpl : p < N := by rw [hp]; exact qacy a1 (by omega)
   have wj : IntKind.i64.wrap ((j : Int) + 1) = (j : Int) + 1 := qacb (by omega) (by omega)
   have tj : Int.tmod ((j : Int) + 1) (N : Int) = (p : Int) := by rw [qank a1, ← hp]
   have hN0 : ¬ N = 0 := by omega
   have hpl1 : p < T1.length := by omega
   rcases hq : T1[p] with _ | s
   ·have hq' : T1[p]? = some none := by rw [List.getElem?_eq_getElem hpl1, hq]
    have hGn : G = none := by rw [a2, qakx (by rw [hl1, ← hp]; exact hq')]
    have hS1 : S' = T1 := hend.out hGn
    clear a2 a3 hp
    subst hS1
    repeat' (first | (with_reducible first | refine zA ?_ | refine qabd ?_) | ((with_reducible refine qaao ?_); (try rw [hP]); simp -implicitDefEqProofs [wj, tj, hN0, hl1, hq', qacu, *]) | ((with_reducible refine qaba ?_); (try simp only [qaav, qaad, qaag])) | ((with_reducible refine qaau rfl (fun h => ?_) (fun h => ?_)) <;> have h' := h <;> (try simp at h') <;> (try subst h')) | fail)
    exact qadb hm rfl hH2.out rfl rfl (by rw [hc.out]) hl1.symm rfl rfl
   ·have hq' : T1[p]? = some (some s) := by rw [List.getElem?_eq_getElem hpl1, hq]
    obtain ⟨hh, hhh⟩ : ∃ hh, hh = qada N s.keys := ⟨_, rfl⟩
    have hhl : hh < N := by rw [hhh]; exact Nat.mod_lt _ (by omega)
    rw [qakw (by rw [hl1, ← hp]; exact hq'), hl1, ← hp, ← hhh] at a2
    have k2 := fun q => home_o (xs.length : Int) m c T1 (by rw [hl1]; exact hS) s.keys (hsm1.out p s hq').1 q
    rw [hl1, ← hhh] at k2
    unfold nums xobj at k2
    rw [hl1] at k2
    have w2 : IntKind.i64.wrap ((p : Int) - hh) = (p : Int) - hh := IntWalk.i64_in _ ⟨by omega, by omega⟩
    have w3 : IntKind.i64.wrap ((p : Int) - hh + N) = (p : Int) - hh + N := IntWalk.i64_in _ ⟨by omega, by omega⟩
    have w4 : IntKind.i64.wrap ((p : Int) - i) = (p : Int) - i := IntWalk.i64_in _ ⟨by omega, by omega⟩
    have w5 : IntKind.i64.wrap ((p : Int) - i + N) = (p : Int) - i + N := IntWalk.i64_in _ ⟨by omega, by omega⟩
    have t2 := qaib hhl hpl
    have t3 := qaib g2 hpl
    have hpi : p ≠ i := fun e => by rw [e, h1i.out] at hq'; cases hq'
    have hd : dist N (addm N p 1) i < g := by
     rw [← hp] at a3
     exact qan7 hpl g2 hpi a3
    generalize dist N hh p = d1 at a2 t2
    generalize dist N i p = d2 at a2 t3
    have hq2 := hq'
    clear a3
    replace hp := Lib.hid hp
    replace hhh := Lib.hid hhh
    replace hd := Lib.hid hd
    by_cases hc2 : d2 ≤ d1
    ·rw [if_pos hc2] at a2
     obtain ⟨s2, b1, b2, b3, b4⟩ := hstep.out p a2
     have b5 : s2 = s := by
      have := hq'
      rw [hT1.out, qabt (by omega), if_neg hpi, b1] at this
      exact Option.some.inj (Option.some.inj this)
     subst b5
     have hS2 := hgo.out p s2 a2 b1
     obtain ⟨T2, hT2⟩ : ∃ T2, T2 = T1.set i (some s2) := ⟨_, rfl⟩
     have hset2 : (T1.map xsc).set i [.bool true, .view 1 (s2.keys.map fun x => [.int .u64 x]), .int .i64 s2.act, .view 1 (s2.args.map fun x => [.int .u64 x])] = T2.map xsc := by rw [hT2, List.map_set]; rfl
     have hl2 : T2.length = N := by rw [hT2, List.length_set, hl1]
     have hsm2 : qad7 T2 := by rw [hT2]; exact qafi hsm1.out (by omega) _ (fun s h => by cases h; exact hsm1.out p _ hq')
     rw [← hT2] at b3 b4 hS2
     have hi1 : T1[i]'(by omega) = none := by
      have := h1i.out
      rw [List.getElem?_eq_getElem (by omega)] at this; exact Option.some.inj this
     rw [g1] at b4
     replace hT2 := Lib.hid hT2
     replace hS2 := Lib.hid hS2
     replace b1 := Lib.hid b1
     replace b3 := Lib.hid b3
     replace b4 := Lib.hid b4
     replace a2 := Lib.hid a2
     replace hsm2 := Lib.hid hsm2
     repeat' (first | (with_reducible first | refine zA ?_ | refine qabd ?_ | refine zK ?_) | ((with_reducible first | refine qaao ?_ | refine qacl (by rw [hP]; exact mixed) ?_); (try rw [hP]); simp -implicitDefEqProofs [wj, tj, hN0, hl1, hq, hq2, qabx, qacu, hi1, nums, w2, w3, w4, w5, t2, t3, hset2, *]) | ((with_reducible first | refine qaaz ?_ | refine qab9 ?_); (try simp -implicitDefEqProofs [wj, tj, hN0, hl1, hq, hq2, qabx, qacu, hi1, nums, w2, w3, w4, w5, t2, t3, hset2, *])) | ((with_reducible refine qaau rfl (fun h => ?_) (fun h => ?_)) <;> have h' := h <;> (try simp at h') <;> (try subst h')) | (refine qadj (k2 _) ⟨rfl, rfl, trivial⟩ ⟨rfl, rfl, trivial⟩ ?_; simp -implicitDefEqProofs [wj, tj, hN0, hl1, hq, hq2, qabx, qacu, hi1, nums, w2, w3, w4, w5, t2, t3, hset2, *]) | (with_reducible first | refine za ?_ ?_ | refine zb ?_ ?_ ?_ ?_ | refine zc ?_ ?_ ?_ ?_) | (with_reducible first | exact qabb | exact qabg) | ((with_reducible first | refine zga ?_ | refine zgb ?_); rfl) | ((with_reducible refine zgc ?_); (first | (with_reducible rfl) | rfl | (simp; done))) | ((with_reducible first | refine zgd ?_ | refine zge ?_); (first | omega | (simp; done))) | (exact Co.refl _) | (exact CoL.refl _) | ((refine qab0 hJo ((T2, p, f)) ?_ ?_ ?_; (with_reducible refine qabh [] hm ?_ ?_ ?_ ?_) <;> (try simp only [zT, puth, Nat.reduceEqDiff, reduceIte, Nat.reduceAdd]))) | fail)
     all_goals exact ⟨hl2, hpl, hsm2.out, b3.out, hS2.out, b4.out⟩
    ·rw [if_neg hc2] at a2
     replace a2 := Lib.hid a2
     repeat' (first | (with_reducible first | refine zA ?_ | refine qabd ?_ | refine zK ?_) | ((with_reducible first | refine qaao ?_ | refine qacl (by rw [hP]; exact mixed) ?_); (try rw [hP]); simp -implicitDefEqProofs [wj, tj, hN0, hl1, hq, hq2, qabx, nums, w2, w3, w4, w5, t2, t3, *]) | ((with_reducible refine qaaz ?_); (try simp -implicitDefEqProofs [wj, tj, hN0, hl1, hq, hq2, qabx, nums, w2, w3, w4, w5, t2, t3, *])) | ((with_reducible refine qaau rfl (fun h => ?_) (fun h => ?_)) <;> have h' := h <;> (try simp at h') <;> (try subst h')) | (refine qadj (k2 _) ⟨rfl, rfl, trivial⟩ ⟨rfl, rfl, trivial⟩ ?_; simp -implicitDefEqProofs [wj, tj, hN0, hl1, hq, hq2, qabx, nums, w2, w3, w4, w5, t2, t3, *]) | (with_reducible first | refine za ?_ ?_ | refine zb ?_ ?_ ?_ ?_ | refine zc ?_ ?_ ?_ ?_) | (with_reducible first | exact qabb | exact qabg) | ((with_reducible first | refine zga ?_ | refine zgb ?_); rfl) | ((with_reducible refine zgc ?_); (first | (with_reducible rfl) | rfl | (simp; done))) | ((with_reducible first | refine zgd ?_ | refine zge ?_); (first | omega | (simp; done))) | (exact Co.refl _) | (exact CoL.refl _) | ((refine qab0 hJ ((p, g)) ?_ ?_ ?_; (with_reducible refine qabh [] hm ?_ ?_ ?_ ?_) <;> (try simp only [zT, puth, Nat.reduceEqDiff, reduceIte, Nat.reduceAdd]))) | fail)
     all_goals exact ⟨hpl, a2.out, hd.out⟩
  | false =>
   clear hT
   repeat' (first | (with_reducible refine zA ?_) | ((with_reducible refine qaao ?_); (try rw [hP]); simp -implicitDefEqProofs [*]) | ((with_reducible refine qaaz ?_); (try simp -implicitDefEqProofs [*])) | ((with_reducible refine qaba ?_); (try simp only [qaav, qaad, qaag])) | ((with_reducible refine qaau rfl (fun h => ?_) (fun h => ?_)) <;> have h' := h <;> (try simp at h') <;> (try subst h')) | (refine qadj (k1 _) ⟨rfl, rfl, trivial⟩ ⟨rfl, rfl, trivial⟩ ?_; simp -implicitDefEqProofs [*]) | fail)
   have hV : V = 9 := by rw [hv.out, if_neg (by simp), if_neg (by simp)]
   have hS' : S' = S := by rw [hr.out, if_neg (by rw [hV]; decide)]
   subst hS'
   exact qadb hm hV hH2.out rfl rfl (by rw [hn.out]) rfl rfl rfl
 ·clear hT
  repeat' (first | (with_reducible refine zA ?_) | ((with_reducible refine qaao ?_); (try rw [hP]); simp -implicitDefEqProofs [h1, *]) | ((with_reducible refine qaaz ?_); (try simp -implicitDefEqProofs [h1, *])) | ((with_reducible refine qaba ?_); (try simp only [qaav, qaad, qaag])) | ((with_reducible refine qaau rfl (fun h => ?_) (fun h => ?_)) <;> have h' := h <;> (try simp at h') <;> (try subst h')) | fail)
  ·have hV : V = 2 := by rw [hv.out, if_pos h1]
   have hS' : S' = S := by rw [hr.out, if_neg (by rw [hV]; decide)]
   subst hS'
   exact qadb hm hV hH2.out rfl rfl (by rw [hn.out]) rfl rfl rfl
  ·exact absurd rfl h1
end Go.Proofs.Yticeaegpkpjjeaa
namespace Go.Proofs.Yticeaegpkpjjeaa
set_option linter.all false
open Go.RowKit
attribute [local simp] qaak qaaj qaab qaaf qaac qaae qaah qaai qaaa qaap SOp.run SX.ev putd puts argS upds SOp.touch SSt.keep SSt.skip gets geth puth delh idOf SV.cells? setL qabr qabs sbin eq0 eq1 eqL qabn qaa5 qaa6 qaav qaal qaad qaam qaaq qaag qaan FrzOk qaa2 qaax qaa0 qaa1 qaar qaaw qaa8 qaay qaat qaa3 qaas frzS frzH frz frz1 frz0 SlotsM ObjsM ObjM rn ren ren1 ren0 qabj qab7 qab6 qabi qaa9 qab3 qab5 CoL qaa4 qab1 dels adds idsH qabz
instance : PureF xec := ⟨fun _ _ => rfl, fun _ => rfl, fun x => qabl _ rfl⟩
theorem fin_xw {X : Cx} {s : SSt} {t z : Nat} {es : List (List SV)} {h : Hp} {a b : SObj} (e : h = [(0, a), (1, b)]) (hw : Wk X s ⟨[(t, .view z es)], [(0, a), (1, b)], 2⟩) : QFun X [.tmp t] 2 (.view z es) h .ret s := by
 subst e
 exact ⟨_, hw, by simp [qahm, resL, resV, one_, gets], ⟨rfl, rfl, trivial⟩, by simp⟩
theorem xsc_frz (g : Nat → Option SObj) (D : List Nat) (S : XTab) : S.map ((fun x => List.map (frz0 g D) x) ∘ xsc) = S.map xsc := List.map_congr_left fun x _ => by cases x <;> rfl
def qacf (S : XTab) : List XSlot := S.filterMap id
theorem xall_s (k m : Int) (n : Nat) (S : XTab) (hS : 0 < S.length ∧ S.length ≤ 1048576) (hsm : qad7 S) (hlen : (qacf S).length ≤ 1000000) (L : List XSlot) (hLl : L.length = (qacf S).length) (hL : ∀ l' : List XSlot, l'.Perm (qacf S) → l'.Pairwise (fun a b => ¬ cmpL b.keys a.keys < 0) → l' = L) : SCalls Try.prog 30 [.ptr 0 0] (xobj k m n S) 2 (.view 6 (L.map xec)) (xobj k m n S) := by
 have k1 := fun nm q => qaqt (qacf S) L hlen hL nm q
 obtain ⟨F, hF⟩ : ∃ F, F = qacf S := ⟨_, rfl⟩
 rw [← hF] at k1 hlen hLl
 clear hL
 obtain ⟨H2, hH2⟩ : ∃ H, H = xobj k m n S := ⟨_, rfl⟩
 suffices h : SCalls Try.prog 30 [.ptr 0 0] (xobj k m n S) 2 (.view 6 (L.map xec)) H2 by rw [← hH2]; rw [← hH2] at h; exact h
 replace hH2 := Lib.hid hH2
 replace hsm := Lib.hid hsm
 replace hF := Lib.hid hF
 obtain ⟨N, hN'⟩ : ∃ N, N = S.length := ⟨_, rfl⟩
 unfold xobj
 rw [← hN'] at hS ⊢
 refine qabc (N := 35) Try.func30 rfl rfl (by kernel_rfl) qajs (by simp) (by repeat' (first | exact trivial | refine And.intro ?_ ?_ | rfl | decide | exact PureR.ren _)) (by repeat' (first | exact trivial | refine And.intro ?_ ?_ | rfl | decide | exact PureR.ren _)) ?_
 rintro X hP hN hm
 unfold c_xall
 replace hN' := Lib.hid hN'
 repeat' (first | (with_reducible refine zA ?_) | ((with_reducible refine qaao ?_); (try rw [hP]); simp -implicitDefEqProofs [*]) | fail)
 refine qaqq (qanj 3 65 6 rfl) ?_
 simp only [zT, puth, Nat.reduceEqDiff, reduceIte, Nat.reduceAdd]
 refine qabf (qacv (fun s (x : Nat × List XSlot) => ⟨[(3, .own 2 x.2.length), (9, .own 1 N), (10, .int .i64 N), (11, .int .i64 x.1)], [(0, .cells 163 [.int .i64 k, .int .i64 m, .int .i64 n, .own 1 N]), (1, .row 167 4 (S.map xsc)), (2, .row 65 6 (x.2.map xec))], 3⟩) (fun x => x.1 ≤ N ∧ F = x.2 ++ qacf (S.drop x.1)) (fun x => N - x.1) (0, []) ?_ ⟨Nat.zero_le _, by rw [hF.out]; rfl⟩ ?_)
 ·refine qabh [(2, 10)] hm ⟨Co.refl _, Co.refl _, Co.refl _, Co.refl _, trivial⟩ ⟨⟨_, rfl, rfl, CoL.refl _⟩, ⟨_, rfl, rfl, rfl, ?_⟩, ⟨_, rfl, rfl, rfl, CoLL.refl _⟩, trivial⟩ rfl (by simp)
  rw [qacm]; exact CoLL.refl _
 rintro J hJ ⟨i, out⟩ ⟨h1, h2⟩
 unfold qai3
 simp only [zT, puth, Nat.reduceEqDiff, reduceIte, Nat.reduceAdd] at h1 h2 ⊢
 have hSN : S.length = N := hN'.out.symm
 rcases Nat.lt_or_ge i N with hi | hi
 ·have hiS : i < S.length := by omega
  rw [List.drop_eq_getElem_cons hiS] at h2
  have wi : IntKind.i64.wrap ((i : Int) + 1) = (i : Int) + 1 := qacb (by omega) (by omega)
  rcases hq : S[i] with _ | s
  ·rw [hq] at h2
   replace h2 : F = out ++ qacf (S.drop (i + 1)) := h2
   replace h2 := Lib.hid h2
   repeat' (first | (with_reducible first | refine zA ?_ | refine qabd ?_) | ((with_reducible refine qaao ?_); (try rw [hP]); simp -implicitDefEqProofs [wi, hSN, hq, qacu, *]) | ((with_reducible refine qaaz ?_); (try simp -implicitDefEqProofs [wi, hSN, hq, qacu, *])) | ((with_reducible refine qaau rfl (fun h => ?_) (fun h => ?_)) <;> have h' := h <;> (try simp at h') <;> (try subst h')) | (with_reducible first | refine za ?_ ?_ | refine zb ?_ ?_ ?_ ?_ | refine zc ?_ ?_ ?_ ?_) | (with_reducible first | exact qabb | exact qabg) | ((with_reducible first | refine zga ?_ | refine zgb ?_); rfl) | ((with_reducible refine zgc ?_); (first | (with_reducible rfl) | rfl | (simp; done))) | ((with_reducible first | refine zgd ?_ | refine zge ?_); (first | omega | (simp; done))) | (exact Co.refl _) | (exact CoL.refl _) | ((refine qab0 hJ ((i + 1, out)) ?_ ?_ ?_; (with_reducible refine qabh [] hm ?_ ?_ ?_ ?_) <;> (try simp only [zT, puth, Nat.reduceEqDiff, reduceIte, Nat.reduceAdd]))) | fail)
   all_goals exact ⟨by show i + 1 ≤ N; omega, h2.out⟩
  ·rw [hq] at h2
   replace h2 : F = out ++ (s :: qacf (S.drop (i + 1))) := h2
   rw [List.append_cons] at h2
   have hlo : out.length + 1 ≤ F.length := by rw [h2]; simp
   have hss := hsm.out i s (by rw [List.getElem?_eq_getElem hiS, hq])
   have k2 := fun q => xnums s.keys hss.1 q
   have k3 := fun q => xnums s.args hss.2 q
   unfold nums at k2 k3
   have b1 : out.length + 1 ≤ maxLen := by unfold maxLen; omega
   have b2 : (out.length + 1) * 96 ≤ 140737488355328 := by omega
   replace h2 := Lib.hid h2
   replace hlo := Lib.hid hlo
   replace hss := Lib.hid hss
   repeat' (first | (with_reducible first | refine zA ?_ | refine qabd ?_ | refine zK ?_) | ((with_reducible first | refine qaao ?_ | refine qacl (by rw [hP]; exact mixed) ?_); (try rw [hP]); simp -implicitDefEqProofs [wi, hSN, hq, qabx, nums, b1, b2, *]) | ((with_reducible refine qaaz ?_); (try simp -implicitDefEqProofs [wi, hSN, hq, qabx, nums, b1, b2, *])) | ((with_reducible refine qaau rfl (fun h => ?_) (fun h => ?_)) <;> have h' := h <;> (try simp at h') <;> (try subst h')) | ((first | refine qaci (k2 _) ?_ | refine qaci (k3 _) ?_); simp -implicitDefEqProofs [wi, hSN, hq, qabx, nums, b1, b2, *]) | fail)
   refine qab0 hJ (i + 1, out ++ [s]) (qabh [(2, 37)] hm ⟨?_, Co.refl _, Co.refl _, ?_, trivial⟩ ⟨⟨_, rfl, rfl, CoL.refl _⟩, ⟨_, rfl, rfl, rfl, ?_⟩, ⟨_, rfl, rfl, rfl, ?_⟩, trivial⟩ rfl (by simp)) ⟨by show i + 1 ≤ N; omega, h2.out⟩ ?_
   ·simp only [List.length_append, List.length_cons, List.length_nil]; exact Co.refl _
   ·simp only [Int.natCast_add, Int.cast_ofNat_Int]; exact Co.refl _
   ·rw [qacm]; exact CoLL.refl _
   ·rw [qacm, List.map_append]; exact CoLL.refl _
   ·show N - (i + 1) < N - i; omega
 ·obtain rfl : i = N := by omega
  have h3 : F = out := by rw [h2, List.drop_eq_nil_of_le (by omega)]; simp [qacf]
  subst h3
  replace h2 := Lib.hid h2
  replace hLl := Lib.hid hLl
  repeat' (first | ((with_reducible refine qakn (c := .seq (.reg false qagj [2]) .ret) ?_)) | (with_reducible refine zA ?_) | ((with_reducible refine qaao ?_); (try rw [hP]); simp -implicitDefEqProofs [*]) | ((with_reducible refine qab9 ?_); (try simp -implicitDefEqProofs [*])) | ((with_reducible refine qaau rfl (fun h => ?_) (fun h => ?_)) <;> have h' := h <;> (try simp at h') <;> (try subst h')) | (refine qal5 (k1 2 _) ⟨rfl, trivial⟩ ⟨rfl, trivial⟩ [] (by simp) ?_; simp -implicitDefEqProofs [*]) | fail)
  constructor
  rw [← hLl.out]
  refine swp_frz [2] ?_ ?_
  ·simp only [FrzOk, geth, Nat.reduceEqDiff, reduceIte, qap6, and_true]
  simp -implicitDefEqProofs
  repeat' (first | (with_reducible refine zA ?_) | ((with_reducible refine qaao ?_); (try rw [hP]); simp -implicitDefEqProofs [*]) | ((with_reducible refine qaba ?_); (try simp only [qaav, qaad, qaag])) | ((refine fin_xw hH2.out ?_)) | fail)
  rw [xsc_frz, hSN]
  exact qabh [] hm ⟨Co.refl _, trivial⟩ ⟨⟨_, rfl, rfl, CoL.refl _⟩, ⟨_, rfl, rfl, rfl, by rw [qacm]; exact CoLL.refl _⟩, trivial⟩ rfl (Nat.le_refl 2)
end Go.Proofs.Yticeaegpkpjjeaa
namespace Go.Proofs.Yticeaegpkpjjeaa
set_option linter.all false
open Go.RowKit
theorem qae6 : ∀ T : XTab, cnt T < T.length → ∃ e : Nat, T[e]? = some none
 | [], h => by simp [cnt] at h
 | none :: T, _ => ⟨0, rfl⟩
 | some s :: T, h => by
  obtain ⟨e, he⟩ := qae6 T (by unfold cnt at h ⊢; simp at h ⊢; omega)
  exact ⟨e + 1, by simpa using he⟩
theorem qal2 {S : XTab} {r : Nat} (hr : S[r]? = some none) (s : XSlot) : cnt (S.set r (some s)) = cnt S + 1 := by
 have hl := qabq hr
 have := qae9 S r (some s) hl
 rw [List.getElem?_eq_getElem hl] at hr
 rw [Option.some.inj hr] at this
 simpa using this
theorem qalf {S : XTab} {r : Nat} (hr : S[r]? = some none) (h : cnt S + 1 < S.length) : ∃ e : Nat, e ≠ r ∧ S[e]? = some none := by
 have hl := qabq hr
 obtain ⟨e, he⟩ := qae6 (S.set r (some ⟨[], 0, []⟩)) (by rw [qal2 hr, List.length_set]; exact h)
 rw [qabt hl] at he
 split at he
 ·cases he
 ·exact ⟨e, by assumption, he⟩
theorem home_lt {N : Nat} (h : 0 < N) (xs : List Int) : qada N xs < N := Nat.mod_lt _ h
structure XInv (k m : Int) (S : XTab) : Prop where
 pinv : qapu (qada S.length) S
 small : qad7 S
 fit : ∀ (j : Nat) (s : XSlot), S[j]? = some (some s) → (s.keys.length : Int) = k
 len : S.length = newN m
 full : (cnt S : Int) ≤ m ∨ cnt S = 0
theorem XInv.sz {k m : Int} {S : XTab} (h : XInv k m S) : 0 < S.length ∧ S.length ≤ 1048576 := by
 have := qaik m
 rw [h.len]; omega
theorem XInv.fr {k m : Int} {S : XTab} (h : XInv k m S) : ∃ e : Nat, S[e]? = some none := let ⟨e, _, h⟩ := h.pinv.free; ⟨e, h⟩
theorem qafd (k m : Int) : XInv k m (List.replicate (newN m) none) := by
 have hb := qaik m
 have no : ∀ (j : Nat) (s : XSlot), (List.replicate (newN m) (none : Option XSlot))[j]? = some (some s) → False := fun j s h => by
  rw [List.getElem?_replicate] at h
  split at h <;> cases h
 refine ⟨⟨fun xs => ?_, fun j s _ h => (no j s h).elim, fun j _ s _ _ _ h => (no j s h).elim, ⟨0, ?_, ?_⟩⟩, fun j s h => (no j s h).elim, fun j s h => (no j s h).elim, List.length_replicate, .inr ?_⟩
 ·rw [List.length_replicate]; exact home_lt (by omega) xs
 ·rw [List.length_replicate]; omega
 ·rw [List.getElem?_replicate, if_pos (by omega)]
 ·unfold cnt
  rw [List.countP_replicate]; simp
theorem qadz {k m : Int} {S : XTab} (h : XInv k m S) {j : Nat} {s : XSlot} (hj : S[j]? = some (some s)) : qabu S s.keys = (j, true) := qajf h.pinv hj
theorem qahq {k m : Int} {S : XTab} (h : XInv k m S) {xs : List Int} (hp : (qabu S xs).2 = false) : ∀ (j : Nat) (s : XSlot), S[j]? = some (some s) → s.keys ≠ xs := fun j s hj e => by
 subst e
 rw [qadz h hj] at hp; cases hp
theorem qafy {k m : Int} {S : XTab} (h : XInv k m S) {s : XSlot} (hs : s.keys.length ≤ 1000000 ∧ s.args.length ≤ 1000000) (hV : qahe k m S s.keys = 0) : XInv k m (S.set (qabu S s.keys).1 (some s)) ∧ S[(qabu S s.keys).1]? = some none := by
 unfold qahe at hV
 split at hV
 ·cases hV
 rename_i hk
 split at hV
 ·cases hV
 rename_i hp
 split at hV
 ·cases hV
 rename_i hc
 have hp' : (qabu S s.keys).2 = false := by simpa using hp
 have hno := qahq h hp'
 obtain ⟨r, h1, h2, h3⟩ := qald h.pinv hno
 have e1 : (qabu S s.keys).1 = r := by unfold qabu; rw [h1]
 rw [e1]
 have hl := qabq h2
 refine ⟨⟨?_, qafi h.small hl _ fun t ht => by cases ht; exact hs, fun j t ht => ?_, by rw [List.length_set]; exact h.len, .inl (by rw [qal2 h2]; omega)⟩, h2⟩
 ·rw [List.length_set]
  exact add_inv h.pinv hno h2 h3 (qalf h2 (by omega))
 ·rw [qabt hl] at ht
  split at ht
  ·cases ht; omega
  ·exact h.fit j t ht
theorem qarl {k m : Int} {S : XTab} (h : XInv k m S) {t : XSlot} {j : Nat} (hj : S[j]? = some (some t)) : XInv k m (qaft (qada S.length) S.length S j) ∧ (∀ s, (∃ i : Nat, (qaft (qada S.length) S.length S j)[i]? = some (some s)) ↔ ∃ i : Nat, i ≠ j ∧ S[i]? = some (some s)) ∧ cnt (qaft (qada S.length) S.length S j) + 1 = cnt S := by
 have hl := qabq hj
 have hi := qaqg h.pinv hj
 obtain ⟨e, h1, h2⟩ := hi.free
 obtain ⟨d1, d2, d3, d4⟩ := qafs S.length S j hi hl ⟨e, h1, h2, Nat.le_of_lt (qadp hl (qabq h2))⟩
 have hc := qae9 S j none hl
 rw [List.getElem?_eq_getElem hl] at hj
 rw [Option.some.inj hj] at hc
 have hc' : cnt (S.set j none) + 1 = cnt S := by simpa using hc
 refine ⟨⟨by rw [d2]; exact d1, fun i s hs => ?_, fun i s hs => ?_, by rw [d2]; exact h.len, ?_⟩, d3, by rw [d4]; exact hc'⟩
 ·obtain ⟨i', _, h3⟩ := (d3 s).1 ⟨i, hs⟩
  exact h.small i' s h3
 ·obtain ⟨i', _, h3⟩ := (d3 s).1 ⟨i, hs⟩
  exact h.fit i' s h3
 ·rw [d4]
  rcases h.full with h5 | h5 <;> omega
end Go.Proofs.Yticeaegpkpjjeaa
namespace Go.Proofs.Yticeaegpkpjjeaa
set_option linter.all false
open Go.RowKit
theorem qacq {P : Program} {f : FuncId} {args : List SV} {N : Nat} {hh hh2 : Hp} {r : SV} (he : Enters P f) (hN : 0 < N) (hren : ∀ σ : Nat → Nat, (∀ i, i < N → σ i = i) → RenH σ hh2) (hids2 : ∀ i ∈ idsH hh2, i < N)
  (h : SCalls P f (.ptr 0 0 :: args) hh N r hh2) (ha : ∀ σ, args.map (Go.Proofs.Yticeaegpkpjjeaa.ren σ) = args) (hr : ∀ σ, Go.Proofs.Yticeaegpkpjjeaa.ren σ r = r) (id q : Nat) : SCalls P f (.ptr id 0 :: args) [(id, .abs (qar4 N fun h => h = hh))] q r [(id, .abs (qar4 N fun h => h = hh2))] := by
 refine qak0 he (fun O Fp w b vs hI hO hd hv => ?_) ha id q
 obtain ⟨h1, ρ, fp, c, hR, h0, hn, hobj, hdis, hlt, hF⟩ := hI
 have hR' : h1 = hh := hR
 subst hR'
 have hA : (fun k => O k ∨ Fp k) = fun k => O k ∨ Live h1 fp k := by funext k; rw [hF]
 rw [hA] at hobj hv
 refine (h.2 O ρ fp w (.pointer (some ⟨b, 0, none⟩) :: vs) ⟨hobj, hdis, fun k hk => ⟨hlt k hk, hd k ((hF k).2 hk)⟩, hO⟩ (Reps.cons (.ptr h0) (hv.mono (.refl _ _) (fun _ h _ => h) fun _ _ h => by cases h)) (fun id h3 _ => hn id h3)).mono ?_
 rintro e w' ⟨v, ρ', fp', rfl, q1, q2, q3, q4, q5, q6⟩
 have hfr : ρ' (N + 8) = none := by
  cases e : ρ' (N + 8) with
  | none => rfl
  | some p =>
   rcases q5 (N + 8) (by rw [e]; simp) with h3 | h3
   ·exact absurd (hn _ (by omega)) h3
   ·omega
 let σ : Nat → Nat := fun i => if i < N then i else N + 8
 have hσ : ∀ {i o}, geth hh2 i = some o → i < N ∧ σ i = i := fun {i o} ho => by
  have := hids2 i (qach (by rw [ho]; simp))
  exact ⟨this, if_pos this⟩
 refine ⟨v, fun k => Live hh2 fp' k, rfl, ⟨hh2, fun i => ρ' (σ i), fp', c, rfl, ?_, fun i hi => ?_, fun i o ho => ?_, q1.disj, fun k hk => (q1.lt k hk).1, fun k => Iff.rfl⟩, fun k hk => ?_, q3.mono fun k hk => (hF k).2 hk, ?_⟩
 ·show ρ' (σ 0) = _
  rw [show σ 0 = 0 from if_pos hN]; exact q4 _ _ h0
 ·show ρ' (σ i) = none
  rw [show σ i = N + 8 from if_neg (by omega)]; exact hfr
 ·have h6 := ((hren σ fun i hi => if_pos hi).get i o ho).objM
  have h8 := q1.objs i o ho
  have h9 : ObjRep w' (fun k => O k ∨ Live hh2 fp' k) ρ' (σ i) (fp' i) o := by rw [(hσ ho).2]; exact h8
  exact h6.back h9
 ·obtain ⟨i, o, ho, hk2⟩ := hk
  exact (q6 i o ho k hk2).imp (fun h => (hF k).2 h) fun h => h
 ·have h1 : RepV w' (fun k => O k ∨ Live hh2 fp' k) ρ' (Go.Proofs.Yticeaegpkpjjeaa.ren (fun _ => N + 8) r) v := by rw [hr]; exact q2
  have h2 := qahn h1
  have e : (fun id => ρ' ((fun _ => N + 8) id)) = noPl := by funext id; show ρ' (N + 8) = _; rw [hfr]; rfl
  rw [e] at h2; exact h2
def xA (k m : Int) (S : XTab) : AbsI := qar4 2 fun h => h = xobj k m (cnt S) S
theorem qacz (k m : Int) (n : Nat) (S : XTab) {σ : Nat → Nat} (h : σ 1 = 1) : RenH σ (xobj k m n S) := ⟨by show ([.int .i64 k, .int .i64 m, .int .i64 n, .own 1 S.length] : List SV).map (Go.Proofs.Yticeaegpkpjjeaa.ren σ) = _; simp [Go.Proofs.Yticeaegpkpjjeaa.ren, ren1, ren0, h], qacm _ _ _, trivial⟩
theorem qadu (k m : Int) (n : Nat) (S : XTab) : ∀ i ∈ idsH (xobj k m n S), i < 2 := by intro i hi; simp [idsH, xobj] at hi; omega
theorem xlen_a (k m : Int) (S : XTab) (id q : Nat) : SCalls Try.prog 34 [.ptr id 0] [(id, .abs (xA k m S))] q (.int .i64 (cnt S)) [(id, .abs (xA k m S))] :=
 qacq (xlen_o k m S 2).1 (by decide) (fun σ h => qacz _ _ _ _ (h 1 (by decide))) (qadu _ _ _ _) (xlen_o k m S 2) (fun _ => rfl) (fun _ => rfl) id q
theorem qani (k m : Int) (S : XTab) (h : XInv k m S) (a : Int) (xs ys : List Int) (hx : xs.length ≤ 1000000) (hy : ys.length ≤ 1000000) (id q : Nat) : SCalls Try.prog 28 [.ptr id 0, nums .u64 xs, .agg (hitc a ys)] [(id, .abs (xA k m S))] q (.int .i64 (qahe k m S xs)) [(id, .abs (xA k m (addX k m S ⟨xs, a, ys⟩)))] := by
 have h1 := xadd_s k m S h.sz h.small a xs ys hx hy h.fr (fun hV => qal2 (qafy h (s := ⟨xs, a, ys⟩) ⟨hx, hy⟩ hV).2 _)
 exact qacq h1.1 (by decide) (fun σ h => qacz _ _ _ _ (h 1 (by decide))) (qadu _ _ _ _) h1 (fun _ => rfl) (fun _ => rfl) id q
theorem xdrop_a (k m : Int) (S : XTab) (h : XInv k m S) (xs : List Int) (hx : xs.length ≤ 1000000) (id q : Nat) : SCalls Try.prog 27 [.ptr id 0, nums .u64 xs] [(id, .abs (xA k m S))] q (.int .i64 (qaki k S xs)) [(id, .abs (xA k m (drpX k S xs)))] := by
 have h1 := xdrop_s k m S h.sz h.small xs hx h.pinv
 exact qacq h1.1 (by decide) (fun σ h => qacz _ _ _ _ (h 1 (by decide))) (qadu _ _ _ _) h1 (fun _ => rfl) (fun _ => rfl) id q
theorem qalt (σ : Nat → Nat) (o : Option XSlot) : Go.Proofs.Yticeaegpkpjjeaa.ren σ (qahz o) = qahz o := by cases o <;> rfl
theorem qakk (k m : Int) (S : XTab) (h : XInv k m S) (xs : List Int) (hx : xs.length ≤ 1000000) (id q : Nat) : SCalls Try.prog 31 [.ptr id 0, nums .u64 xs] [(id, .abs (xA k m S))] q (qahz (qadh k S xs)) [(id, .abs (xA k m S))] := by
 have h1 := xfind_s k m S h.sz h.small xs hx h.fr
 exact qacq h1.1 (by decide) (fun σ h => qacz _ _ _ _ (h 1 (by decide))) (qadu _ _ _ _) h1 (fun _ => rfl) (fun σ => qalt σ _) id q
theorem qacx (S : XTab) : (qacf S).length = cnt S := by
 unfold qacf cnt
 induction S with
 | nil => rfl
 | cons o S ih => cases o <;> simp [ih]
theorem xall_a (k m : Int) (hm : m ≤ 1000) (S : XTab) (h : XInv k m S) (L : List XSlot) (hLl : L.length = cnt S) (hL : ∀ l' : List XSlot, l'.Perm (qacf S) → l'.Pairwise (fun a b => ¬ cmpL b.keys a.keys < 0) → l' = L) (id q : Nat) : SCalls Try.prog 30 [.ptr id 0] [(id, .abs (xA k m S))] q (.view 6 (L.map xec)) [(id, .abs (xA k m S))] := by
 have h1 := xall_s k m (cnt S) S h.sz h.small (by rw [qacx]; rcases h.full with h2 | h2 <;> omega) L (by rw [qacx]; exact hLl) hL
 exact qacq h1.1 (by decide) (fun σ h => qacz _ _ _ _ (h 1 (by decide))) (qadu _ _ _ _) h1 (fun _ => rfl) (fun _ => by simp [Go.Proofs.Yticeaegpkpjjeaa.ren, ren1, ren0]) id q
end Go.Proofs.Yticeaegpkpjjeaa
namespace Go.Proofs.Yticeaegpkpjjeaa
set_option linter.all false
open Go.RowKit
theorem qaf0 {P : Program} {f : FuncId} {args : List SV} {N : Nat} {hh : Hp} (he : Enters P f) (hN : 0 < N) (hN8 : N ≤ 8) (hren : ∀ σ : Nat → Nat, (∀ i, i < N → σ i = i) → RenH σ hh) (hids : ∀ i ∈ idsH hh, i < N)
  (h : SCalls P f args [] 0 (.ptr 0 0) hh) (ha : ∀ σ, args.map (Go.Proofs.Yticeaegpkpjjeaa.ren σ) = args) (q : Nat) : SCalls P f args [] q (.ptr q 0) [(q, .abs (qar4 N fun h => h = hh))] := by
 refine ⟨he, fun O ρ fp w vs hok hargs hfr => ?_⟩
 have hO : (fun k => O k ∨ Live [] fp k) = O := by funext k; simp [Live, geth]
 have ha' : Reps w (fun k => O k ∨ Live [] fp k) noPl args vs := by
  have h1 : Reps w (fun k => O k ∨ Live [] fp k) ρ (args.map (Go.Proofs.Yticeaegpkpjjeaa.ren fun _ => q)) vs := by rw [ha]; exact hargs
  have h2 := qac1 h1
  have e : (fun id => ρ ((fun _ => q) id)) = noPl := by funext id; exact hfr q (Nat.le_refl _) (by omega)
  rw [e] at h2; exact h2
 have hE : HeapOk O noPl fp [] w := ⟨fun id o ho => by simp [geth] at ho, fun id id' o o' _ ho => by simp [geth] at ho, fun k ⟨id, o, ho, _⟩ => by simp [geth] at ho, hok.O_lt⟩
 refine (h.2 O noPl fp w vs hE ha' (fun _ _ _ => rfl)).mono ?_
 rintro e w' ⟨v, ρ', fp', rfl, q1, q2, q3, q4, q5, q6⟩
 obtain ⟨b, c, hb, rfl⟩ : ∃ b c, ρ' 0 = some (some (b, c)) ∧ v = .pointer (some ⟨b, 0, none⟩) := by
  generalize hy : SV.ptr 0 0 = y at q2
  cases q2 with
  | ptr h => injection hy with e1 e2; subst e1 e2; exact ⟨_, _, h, rfl⟩
  | _ => cases hy
 have hfr8 : ρ' 8 = none := by
  cases e : ρ' 8 with
  | none => rfl
  | some p =>
   rcases q5 8 (by rw [e]; simp) with h3 | h3
   ·exact absurd rfl h3
   ·omega
 let σ : Nat → Nat := fun i => if i < N then i else 8
 have hσ : ∀ {i o}, geth hh i = some o → i < N ∧ σ i = i := fun {i o} ho => by
  have := hids i (qach (by rw [ho]; simp))
  exact ⟨this, if_pos this⟩
 let fp2 : Nat → Nat → Prop := fun _ k => Live hh fp' k
 have hl2 : ∀ k, Live [(q, SObj.abs (qar4 N fun h => h = hh))] fp2 k ↔ Live hh fp' k := fun k => by
  rw [qacw]
 have hA : (fun k => O k ∨ Live [(q, SObj.abs (qar4 N fun h => h = hh))] fp2 k) = fun k => O k ∨ Live hh fp' k := by funext k; rw [hl2 k]
 refine ⟨.pointer (some ⟨b, 0, none⟩), fun i => if i = q then some (some (b, c)) else ρ i, fp2, rfl, ⟨fun i o ho => ?_, fun i i' o o' hne h' h'' => ?_, fun k hk => q1.lt k ((hl2 k).1 hk), q1.O_lt⟩, .ptr (c := c) (by simp), q3, fun i p hp => ?_, fun i hi => ?_, fun i o ho k hk => ?_⟩
 ·simp only [geth] at ho
  split at ho
  ·rename_i e; subst e; cases ho
   rw [hA]
   refine ⟨b, c, by simp, hh, fun i => ρ' (σ i), fp', c, rfl, ?_, fun i hi => ?_, fun i o ho => ?_, q1.disj, fun k hk => (q1.lt k hk).1, fun k => Iff.rfl⟩
   ·show ρ' (σ 0) = _
    rw [show σ 0 = 0 from if_pos hN]; exact hb
   ·show ρ' (σ i) = none
    rw [show σ i = 8 from if_neg (by omega)]; exact hfr8
   ·have h6 := ((hren σ fun i hi => if_pos hi).get i o ho).objM
    have h8 := q1.objs i o ho
    have h9 : ObjRep w' (fun k => O k ∨ Live hh fp' k) ρ' (σ i) (fp' i) o := by rw [(hσ ho).2]; exact h8
    exact h6.back h9
  ·cases ho
 ·simp only [geth] at h' h''
  split at h'
  ·split at h''
   ·omega
   ·cases h''
  ·cases h'
 ·show (if i = q then _ else ρ i) = some p
  split
  ·rename_i e; subst e; rw [hfr i (Nat.le_refl _) (by omega)] at hp; cases hp
  ·exact hp
 ·by_cases e : i = q
  ·exact .inr ⟨by omega, by omega⟩
  ·exact .inl (by simpa [e] using hi)
 ·obtain ⟨i', o', ho', hk'⟩ := (show Live hh fp' k from hk)
  exact (q6 i' o' ho' k hk').imp (fun h => by obtain ⟨_, _, h, _⟩ := h; simp [geth] at h) fun h => h
theorem qaqm (k m : Int) (q : Nat) : SCalls Try.prog 26 [.int .i64 k, .int .i64 m] [] q (.ptr q 0) [(q, .abs (xA k m (List.replicate (newN m) none)))] := by
 have h1 := xnew_s k m
 have hc : cnt (List.replicate (newN m) none) = 0 := by unfold cnt; rw [List.countP_replicate]; simp
 have h2 := qaf0 h1.1 (N := 2) (by decide) (by decide) (fun σ h => qacz k m 0 (List.replicate (newN m) none) (h 1 (by decide))) (qadu _ _ _ _) h1 (fun _ => rfl) q
 unfold xA
 rw [hc]; exact h2
end Go.Proofs.Yticeaegpkpjjeaa
namespace Go.Proofs.Yticeaegpkpjjeaa
set_option linter.all false
open Go.RowKit
attribute [local simp] qaak qaaj qaab qaaf qaac qaae qaah qaai qaaa qaap SOp.run SX.ev putd puts argS upds SOp.touch SSt.keep SSt.skip gets geth puth delh idOf SV.cells? setL qabr qabs sbin eq0 eq1 eqL qabn qaa5 qaa6 qaav qaal qaad qaam qaaq qaag qaan FrzOk qaa2 qaax qaa0 qaa1 qaar qaaw qaa8 qaay qaat qaa3 qaas frzS frzH frz frz1 frz0 SlotsM ObjsM ObjM rn ren ren1 ren0 qabj qab7 qab6 qabi qaa9 qab3 qab5 CoL qaa4 qab1 dels adds idsH qabz
theorem qakl (e z : Nat) (n : Int) : qar1 (.row e z [[.int .u64 n]]) ↔ True := ⟨fun _ => trivial, fun _ x hx => by simp at hx; subst hx; exact qabl _ rfl⟩
def xbS0 : XTab := List.replicate (newN 1) none
def xbS1 : XTab := addX 1 1 xbS0 ⟨[5], 3, []⟩
theorem xb_v1 : qahe 1 1 xbS0 [5] = 0 := by kernel_rfl
theorem xb_v2 : qahe 1 1 xbS1 [6] = 10 := by kernel_rfl
theorem xb_r2 (s : XSlot) (h : s.keys = [6]) : addX 1 1 xbS1 s = xbS1 := by unfold addX; rw [h, xb_v2]; rfl
theorem xb_i0 : XInv 1 1 xbS0 := qafd 1 1
theorem xb_i1 : XInv 1 1 xbS1 := by
 unfold xbS1 addX
 rw [if_pos xb_v1]
 exact (qafy xb_i0 (s := ⟨[5], 3, []⟩) ⟨by simp, by simp⟩ xb_v1).1
theorem xb_f1 : qahz (qadh 1 xbS1 [5]) = .tup [.agg [.int .i64 3, .view 1 []], .bool true] := by
 have : qadh 1 xbS1 [5] = some ⟨[5], 3, []⟩ := by kernel_rfl
 rw [this]; rfl
theorem xb_s0 : xbS0 = List.replicate (newN 1) none := rfl
theorem xb_s1 : addX 1 1 xbS0 ⟨[5], 3, []⟩ = xbS1 := rfl
attribute [local irreducible] xbS0 xbS1
theorem qaqn (q : Nat) : SCalls Try.prog 24 [] [] q (.bool true) [] := by
 refine qab2 ?_ (fun _ => rfl) (fun _ => rfl) rfl q
 have k0 : ∀ q, SCalls Try.prog 26 [.int .i64 1, .int .i64 1] [] q (.ptr q 0) [(q, .abs (xA 1 1 xbS0))] := fun q => by rw [xb_s0]; exact qaqm 1 1 q
 have k1 := fun q => qani 1 1 xbS0 xb_i0 3 [5] [] (by simp) (by simp) 0 q
 have k2 := fun q => qani 1 1 xbS1 xb_i1 0 [6] [] (by simp) (by simp) 0 q
 have k3 := fun q => qakk 1 1 xbS1 xb_i1 [5] (by simp) 0 q
 rw [xb_v1, xb_s1] at k1
 rw [xb_v2, xb_r2 _ rfl] at k2
 rw [xb_f1] at k3
 refine qabc (N := 35) Try.func24 rfl rfl (by kernel_rfl) qajr (by simp) (by repeat' (first | exact trivial | refine And.intro ?_ ?_ | rfl | decide | exact PureR.ren _)) (by repeat' (first | exact trivial | refine And.intro ?_ ?_ | rfl | decide | exact PureR.ren _)) ?_
 rintro X hP hN hm
 unfold c_xbeg
 repeat' (first | ((with_reducible refine qakn (c := .seq (.reg false qai2 [1, 2]) _) ?_)) | (with_reducible refine zA ?_) | ((with_reducible refine qaao ?_); (try rw [hP]); simp -implicitDefEqProofs [*]) | (refine qage (k0 _) trivial ⟨rfl, trivial⟩ ?_; simp -implicitDefEqProofs [*]) | fail)
 constructor
 refine qaqq (s' := ⟨[(1, .ptr 0 0)], [(0, .abs (xA 1 1 xbS0))], 1⟩) (qabh [(0, 1)] hm ⟨Co.refl _, trivial⟩ ⟨⟨_, rfl, rfl⟩, trivial⟩ rfl (Nat.zero_le _)) ?_
 refine qaa7 (qahi 3 ?_)
 simp -implicitDefEqProofs
 refine ⟨⟨[(1, .ptr 0 0), (7, .ptr 0 0), (8, nums .u64 [5]), (9, .agg (hitc 3 []))], [(0, .abs (xA 1 1 xbS0))], 1⟩, qahg [2] [] hm rfl (by simp only [FrzOk, geth, Nat.reduceEqDiff, reduceIte, qakl, and_true]) ⟨Co.refl _, Co.refl _, Co.refl _, qab3 ⟨Co.refl _, Co.nilsl 1, trivial⟩, trivial⟩ ⟨⟨_, rfl, rfl⟩, trivial⟩ rfl (Nat.zero_le _), ?_⟩
 simp -implicitDefEqProofs
 rw [hP]
 refine qage (k1 _) ⟨rfl, trivial⟩ ⟨rfl, trivial⟩ ?_
 simp -implicitDefEqProofs
 refine qaa7 (qahi 3 ?_)
 simp -implicitDefEqProofs
 refine ⟨⟨[(1, .ptr 0 0), (2, .int .i64 0), (11, .ptr 0 0), (12, nums .u64 [6]), (13, .agg (hitc 0 []))], [(0, .abs (xA 1 1 xbS1))], 1⟩, qahg [11] [] hm rfl (by simp only [FrzOk, geth, Nat.reduceEqDiff, reduceIte, qakl, and_true]) ⟨Co.refl _, Co.refl _, Co.refl _, Co.refl _, qab3 ⟨Co.refl _, Co.nilsl 1, trivial⟩, trivial⟩ ⟨⟨_, rfl, rfl⟩, trivial⟩ rfl (Nat.zero_le _), ?_⟩
 simp -implicitDefEqProofs
 rw [hP]
 refine qage (k2 _) ⟨rfl, trivial⟩ ⟨rfl, trivial⟩ ?_
 simp -implicitDefEqProofs
 refine qaa7 (qahi 2 ?_)
 simp -implicitDefEqProofs
 refine ⟨⟨[(1, .ptr 0 0), (2, .int .i64 0), (3, .int .i64 10), (16, .ptr 0 0), (17, nums .u64 [5])], [(0, .abs (xA 1 1 xbS1))], 1⟩, qahg [11] [] hm rfl (by simp only [FrzOk, geth, Nat.reduceEqDiff, reduceIte, qakl, and_true]) ⟨Co.refl _, Co.refl _, Co.refl _, Co.refl _, Co.refl _, trivial⟩ ⟨⟨_, rfl, rfl⟩, trivial⟩ rfl (Nat.zero_le _), ?_⟩
 simp -implicitDefEqProofs
 rw [hP]
 refine qadj (k3 _) ⟨rfl, trivial⟩ ⟨rfl, trivial⟩ ?_
 simp -implicitDefEqProofs
 repeat' (first | (with_reducible refine zA ?_) | ((with_reducible refine qaao ?_); (try rw [hP]); simp -implicitDefEqProofs [*]) | ((with_reducible refine qaba ?_); (try simp only [qaav, qaad, qaag])) | (with_reducible refine zN hm ?_) | fail)
 all_goals rfl
end Go.Proofs.Yticeaegpkpjjeaa
namespace Go.Proofs.Yticeaegpkpjjeaa
set_option linter.all false
open Go.RowKit
theorem qabo {S : XTab} {s : XSlot} : s ∈ qacf S ↔ ∃ j : Nat, S[j]? = some (some s) := by
 unfold qacf
 rw [List.mem_filterMap]
 constructor
 ·rintro ⟨o, ho, h⟩
  obtain rfl : o = some s := h
  exact List.getElem?_of_mem ho
 ·rintro ⟨j, hj⟩
  exact ⟨some s, List.mem_of_getElem? hj, rfl⟩
theorem qaeq {k m : Int} {S : XTab} (h : XInv k m S) {xs : List Int} : (qabu S xs).2 = true ↔ ∃ s ∈ qacf S, s.keys = xs := by
 constructor
 ·intro hp
  obtain ⟨s, hs, hk⟩ := qacr _ _ hp
  exact ⟨s, qabo.2 ⟨_, hs⟩, hk⟩
 ·rintro ⟨s, hs, rfl⟩
  obtain ⟨j, hj⟩ := qabo.1 hs
  rw [qadz h hj]
theorem qaeg {k m : Int} {S : XTab} (h : XInv k m S) {s t : XSlot} (hs : s ∈ qacf S) (ht : t ∈ qacf S) (e : s.keys = t.keys) : s = t := by
 obtain ⟨i, hi⟩ := qabo.1 hs
 obtain ⟨j, hj⟩ := qabo.1 ht
 have : i = j := h.pinv.uniq i j s t (by have := qabq hi; omega) (by have := qabq hj; omega) hi hj e
 subst this
 rw [hi] at hj
 exact Option.some.inj (Option.some.inj hj)
theorem qaeu {k m : Int} {S : XTab} (h : XInv k m S) : (qacf S).Pairwise fun a b => a.keys ≠ b.keys := by
 unfold qacf
 rw [List.pairwise_filterMap, List.pairwise_iff_getElem]
 intro i j hi hj hij a ha b hb e
 have h1 : S[i]? = some (some a) := by rw [List.getElem?_eq_getElem hi]; exact congrArg some ha
 have h2 : S[j]? = some (some b) := by rw [List.getElem?_eq_getElem hj]; exact congrArg some hb
 have := h.pinv.uniq i j a b (by omega) (by omega) h1 h2 e
 omega
theorem qad2 {k m : Int} {S : XTab} (h : XInv k m S) {s : XSlot} (hs : s ∈ qacf S) : qadh k S s.keys = some s := by
 obtain ⟨j, hj⟩ := qabo.1 hs
 unfold qadh
 rw [if_neg (by rw [h.fit j s hj]; simp), qadz h hj, if_pos rfl, hj]; rfl
theorem qad3 {k m : Int} {S : XTab} (h : XInv k m S) {xs : List Int} (hx : ∀ s ∈ qacf S, s.keys ≠ xs) : qadh k S xs = none := by
 unfold qadh
 split
 ·rfl
 ·rw [if_neg fun hp => by
   obtain ⟨s, hs, hk⟩ := (qaeq h).1 hp
   exact hx s hs hk]
end Go.Proofs.Yticeaegpkpjjeaa
namespace Go.Proofs.Yticeaegpkpjjeaa
set_option linter.all false
open Go.RowKit
def qah9 (a b : XSlot) : Prop := ¬ cmpL b.keys a.keys < 0
theorem qaek {l : List XSlot} (hk : ∀ s ∈ l, ∀ t ∈ l, s.keys = t.keys → s = t) : ∀ (l1 l2 : List XSlot), (∀ x ∈ l1, x ∈ l) → l1.Perm l2 → l1.Pairwise qah9 → l2.Pairwise qah9 → l1 = l2
 | [], l2, _, hp, _, _ => hp.nil_eq
 | a :: t, [], _, hp, _, _ => by have := hp.length_eq; simp at this
 | a :: t, b :: u, hm, hp, h1, h2 => by
  have hab : a = b := by
   rcases List.mem_cons.1 (hp.mem_iff.1 (List.mem_cons_self ..)) with e | ha
   ·exact e
   rcases List.mem_cons.1 (hp.mem_iff.2 (List.mem_cons_self ..)) with e | hb
   ·exact e.symm
   have g1 : ¬ cmpL b.keys a.keys < 0 := (List.pairwise_cons.1 h1).1 b hb
   have g2 : ¬ cmpL a.keys b.keys < 0 := (List.pairwise_cons.1 h2).1 a ha
   have g3 := qacd a.keys b.keys
   exact hk a (hm a (by simp)) b (hm b (by simp [hb])) ((qaeh _ _).1 (by omega))
  subst hab
  rw [qaek hk t u (fun x hx => hm x (by simp [hx])) (hp.cons_inv) (List.pairwise_cons.1 h1).2 (List.pairwise_cons.1 h2).2]
def leX (a b : XSlot) : Bool := decide (¬ cmpL b.keys a.keys < 0)
def qann (S : XTab) : List XSlot := (qacf S).mergeSort leX
theorem qaca (S : XTab) : (qann S).Perm (qacf S) := List.mergeSort_perm _ _
theorem qadd (S : XTab) : (qann S).Pairwise qah9 := by
 have h := List.pairwise_mergeSort (le := leX) (fun a b c h1 h2 => by
  unfold leX at *
  simp only [decide_eq_true_eq] at *
  have e1 := qacd a.keys b.keys
  have e2 := qacd b.keys c.keys
  have e3 := qacd a.keys c.keys
  have := qadq a.keys b.keys c.keys (by omega) (by omega)
  omega) (fun a b => by
  unfold leX
  have e1 := qacd a.keys b.keys
  simp only [Bool.or_eq_true, decide_eq_true_eq]
  omega) (qacf S)
 exact h.imp fun {a b} h => of_decide_eq_true h
theorem xall_b (k m : Int) (hm : m ≤ 1000) (S : XTab) (h : XInv k m S) (id q : Nat) : SCalls Try.prog 30 [.ptr id 0] [(id, .abs (xA k m S))] q (.view 6 ((qann S).map xec)) [(id, .abs (xA k m S))] :=
 xall_a k m hm S h (qann S) (by rw [(qaca S).length_eq, qacx]) (fun l' hp hs => qaek (l := qacf S) (fun s hs t ht => qaeg h hs ht) l' _ (fun x hx => hp.mem_iff.1 hx) (hp.trans (qaca S).symm) hs (qadd S)) id q
end Go.Proofs.Yticeaegpkpjjeaa
namespace Go.Proofs.Yticeaegpkpjjeaa
set_option linter.all false
open Go.RowKit
theorem qaem (σ : Nat → Nat) (k : IntKind) (xs : List Int) : ren σ (nums k xs) = nums k xs := rfl
theorem qadl (σ : Nat → Nat) (e : Entry) : (qaby e).map (ren σ) = qaby e := rfl
theorem qaen (σ : Nat → Nat) (L : List Entry) : (L.map qaby).map (·.map (ren σ)) = L.map qaby := by
 rw [List.map_map]; rfl
theorem qadk (σ : Nat → Nat) (L : List Entry) : List.map ((fun x => List.map (ren σ) x) ∘ qaby) L = L.map qaby := rfl
def onesP (k : Int) : Int := if k ≤ 64 then 2 ^ k.toNat - 1 else 0
def mayB (ks : List Int) (ms : List Int) : Bool := (List.range ks.length).all fun i => bits .and .u64 (el ks i) (el ms i) == el ks i
def mayC (kind keys width : Int) (e : Entry) : Int :=
 if kind = 1 then (if (e.keys.length : Int) = keys then 0 else 2)
 else if kind = 2 then (if (e.keys.length : Int) = 1 ∧ 1 ≤ width ∧ width ≤ 64 ∧ 0 ≤ e.len ∧ e.len ≤ width ∧ wideI (el e.keys 0) width = false then (if bits .and .u64 (el e.keys 0) (onesP (width - e.len)) = 0 then 0 else 6) else 6)
 else if kind = 3 then (if (e.keys.length : Int) = keys ∧ (e.masks.length : Int) = keys ∧ 0 ≤ e.prio ∧ e.prio ≤ 1000 then (if mayB e.keys e.masks then 0 else 6) else 6)
 else 0
end Go.Proofs.Yticeaegpkpjjeaa
namespace Go.Proofs.Yticeaegpkpjjeaa
set_option linter.all false
open Go.RowKit
attribute [local simp] qaak qaaj qaab qaaf qaac qaae qaah qaai qaaa qaap SOp.run SX.ev putd puts argS upds SOp.touch SSt.keep SSt.skip gets geth puth delh idOf SV.cells? setL qabr qabs sbin eq0 eq1 eqL qabn qaa5 qaa6 qaav qaal qaad qaam qaaq qaag qaan FrzOk qaa2 qaax qaa0 qaa1 qaar qaaw qaa8 qaay qaat qaa3 qaas frzS frzH frz frz1 frz0 SlotsM ObjsM ObjM rn ren ren1 ren0 qabj qab7 qab6 qabi qaa9 qab3 qab5 CoL qaa4 qab1 dels adds idsH qabz qaen qadk qaem
def oneB (kind : Int) (a b : Entry) : Bool := !((kind == 3 && (a.prio != b.prio || !decide (a.masks = b.masks))) || (kind == 2 && a.len != b.len)) && decide (a.keys = b.keys)
def atN (kind : Int) (L : List Entry) (e : Entry) : Nat := qac8 (fun i => match L[i]? with | some a => oneB kind a e | none => false) L.length
def atI (kind : Int) (L : List Entry) (e : Entry) : Int := if atN kind L e < L.length then atN kind L e else -1
end Go.Proofs.Yticeaegpkpjjeaa
namespace Go.Proofs.Yticeaegpkpjjeaa
set_option linter.all false
open Go.RowKit
attribute [local simp] qaak qaaj qaab qaaf qaac qaae qaah qaai qaaa qaap SOp.run SX.ev putd puts argS upds SOp.touch SSt.keep SSt.skip gets geth puth delh idOf SV.cells? setL qabr qabs sbin eq0 eq1 eqL qabn qaa5 qaa6 qaav qaal qaad qaam qaaq qaag qaan FrzOk qaa2 qaax qaa0 qaa1 qaar qaaw qaa8 qaay qaat qaa3 qaas frzS frzH frz frz1 frz0 SlotsM ObjsM ObjM rn ren ren1 ren0 qabj qab7 qab6 qabi qaa9 qab3 qab5 CoL qaa4 qab1 dels adds idsH qabz qaen qadk qaem qadl
def chgC (k ks wd : Int) (L : List Entry) (e : Entry) : Int := if mayC k ks wd e = 0 then (if 0 ≤ atI k L e then 0 else 9) else mayC k ks wd e
def dropC (k ks wd : Int) (L : List Entry) (e : Entry) : Int := if mayC k ks wd e = 0 then (if 0 ≤ atI k L e then 0 else 9) else mayC k ks wd e
def dropL (k ks wd : Int) (L : List Entry) (e : Entry) : List Entry := if dropC k ks wd L e = 0 then L.take (atN k L e) ++ L.drop (atN k L e + 1) else L
end Go.Proofs.Yticeaegpkpjjeaa
namespace Go.Proofs.Yticeaegpkpjjeaa
set_option linter.all false
open Go.RowKit
def entE (s : XSlot) : Entry := ⟨s.keys, [], 0, 0, s.act, s.args⟩
theorem qarx (L : List Entry) (e : Entry) : 0 ≤ atI 1 L e ↔ ∃ x ∈ L, x.keys = e.keys := by
 have ho : ∀ a : Entry, oneB 1 a e = decide (a.keys = e.keys) := fun a => by unfold oneB; simp
 unfold atI
 constructor
 ·intro h
  split at h
  ·rename_i h1
   have := qaiw _ _ (show qac8 _ L.length < L.length from h1)
   split at this
   ·rename_i a ha
    rw [ho] at this
    exact ⟨a, List.mem_of_getElem? ha, by simpa using this⟩
   ·cases this
  ·omega
 ·rintro ⟨x, hx, hk⟩
  obtain ⟨i, hi, rfl⟩ := List.mem_iff_getElem.1 hx
  split
  ·omega
  ·rename_i h1
   have h9 : atN 1 L e = L.length := Nat.le_antisymm (qaiv _ _) (by omega)
   have h2 := qals _ _ h9 i hi
   simp only [List.getElem?_eq_getElem hi] at h2
   rw [ho] at h2
   simp [hk] at h2
structure RelX (k m : Int) (S : XTab) (L : List Entry) : Prop where
 inv : XInv k m S
 perm : ((qacf S).map entE).Perm L
theorem RelX.len {k m : Int} {S : XTab} {L : List Entry} (h : RelX k m S L) : L.length = cnt S := by
 rw [← h.perm.length_eq, List.length_map, qacx]
theorem qak8 {k m : Int} {S : XTab} {L : List Entry} (h : RelX k m S L) (e : Entry) : 0 ≤ atI 1 L e ↔ (qabu S e.keys).2 = true := by
 rw [qarx, qaeq h.inv]
 constructor
 ·rintro ⟨x, hx, hk⟩
  obtain ⟨s, hs, rfl⟩ := List.mem_map.1 (h.perm.mem_iff.2 hx)
  exact ⟨s, hs, hk⟩
 ·rintro ⟨s, hs, hk⟩
  exact ⟨entE s, h.perm.mem_iff.1 (List.mem_map.2 ⟨s, hs, rfl⟩), hk⟩
theorem may1 (k wd : Int) (e : Entry) : mayC 1 k wd e = if (e.keys.length : Int) = k then 0 else 2 := by unfold mayC; rw [if_pos rfl]
theorem qaoc {k m wd : Int} {S : XTab} {L : List Entry} (h : RelX k m S L) (e : Entry) : chgC 1 k wd L e = qaki k S e.keys := by
 unfold chgC qaki
 rw [may1]
 by_cases h1 : (e.keys.length : Int) = k
 ·rw [if_pos h1, if_pos rfl, if_neg (show ¬ ((e.keys.length : Int) ≠ k) from fun h => h h1)]
  by_cases h2 : 0 ≤ atI 1 L e
  ·rw [if_pos h2, if_pos ((qak8 h e).1 h2)]
  ·rw [if_neg h2, if_neg fun h3 => h2 ((qak8 h e).2 h3)]
 ·rw [if_neg h1, if_neg (by decide), if_pos h1]
end Go.Proofs.Yticeaegpkpjjeaa
namespace Go.Proofs.Yticeaegpkpjjeaa
set_option linter.all false
open Go.RowKit
theorem qaf8 {k m : Int} {S : XTab} (h : XInv k m S) : ((qacf S).map entE).Nodup := by
 rw [List.nodup_iff_pairwise_ne, List.pairwise_map]
 exact (qaeu h).imp fun {a b} hne e => hne (congrArg Entry.keys e)
theorem relX_of {k m : Int} {S : XTab} {L : List Entry} (hi : XInv k m S) (hn : L.Nodup) (hm : ∀ x, (∃ s ∈ qacf S, entE s = x) ↔ x ∈ L) : RelX k m S L :=
 ⟨hi, (List.perm_ext_iff_of_nodup (qaf8 hi) hn).2 fun x => by rw [List.mem_map]; exact hm x⟩
theorem RelX.nodup {k m : Int} {S : XTab} {L : List Entry} (h : RelX k m S L) : L.Nodup := h.perm.nodup_iff.1 (qaf8 h.inv)
theorem RelX.mem {k m : Int} {S : XTab} {L : List Entry} (h : RelX k m S L) (x : Entry) : (∃ s ∈ qacf S, entE s = x) ↔ x ∈ L := by
 rw [← h.perm.mem_iff, List.mem_map]
theorem qark {S : XTab} {r : Nat} (hr : S[r]? = some none) (s t : XSlot) : t ∈ qacf (S.set r (some s)) ↔ t = s ∨ t ∈ qacf S := by
 have hl := qabq hr
 rw [qabo, qabo]
 constructor
 ·rintro ⟨j, hj⟩
  rw [qabt hl] at hj
  split at hj
  ·cases hj; exact .inl rfl
  ·exact .inr ⟨j, hj⟩
 ·rintro (rfl | ⟨j, hj⟩)
  ·exact ⟨r, by rw [qabt hl, if_pos rfl]⟩
  ·refine ⟨j, ?_⟩
   rw [qabt hl, if_neg fun e => by rw [e, hr] at hj; cases hj]; exact hj
end Go.Proofs.Yticeaegpkpjjeaa
namespace Go.Proofs.Yticeaegpkpjjeaa
set_option linter.all false
open Go.RowKit
theorem atN1_at {L : List Entry} {e : Entry} (h : 0 ≤ atI 1 L e) : ∃ hj : atN 1 L e < L.length, (L[atN 1 L e]).keys = e.keys := by
 unfold atI at h
 split at h
 ·rename_i h1
  have := qaiw _ _ (show qac8 _ L.length < L.length from h1)
  refine ⟨h1, ?_⟩
  split at this
  ·rename_i a ha
   have e1 : L[atN 1 L e]? = some a := ha
   rw [List.getElem?_eq_getElem h1] at e1
   obtain rfl := Option.some.inj e1
   unfold oneB at this
   simpa using this
  ·cases this
 ·omega
theorem qare {k m : Int} {S : XTab} {L : List Entry} (h : RelX k m S L) {x y : Entry} (hx : x ∈ L) (hy : y ∈ L) (e : x.keys = y.keys) : x = y := by
 obtain ⟨s, hs, rfl⟩ := (h.mem x).2 hx
 obtain ⟨t, ht, rfl⟩ := (h.mem y).2 hy
 rw [qaeg h.inv hs ht e]
theorem qan6 {k m wd : Int} {S : XTab} {L : List Entry} (h : RelX k m S L) (e : Entry) : RelX k m (drpX k S e.keys) (dropL 1 k wd L e) := by
 unfold drpX dropL
 have hc : dropC 1 k wd L e = qaki k S e.keys := qaoc h e
 rw [hc]
 by_cases h0 : qaki k S e.keys = 0
 ·rw [if_pos h0, if_pos h0]
  have hp : (qabu S e.keys).2 = true := by
   unfold qaki at h0
   split at h0
   ·cases h0
   ·split at h0
    ·assumption
    ·cases h0
  obtain ⟨s, hs, hk⟩ := qacr _ _ hp
  have hj : S[(qabu S e.keys).1]? = some (some s) := hs
  obtain ⟨d1, d2, d3⟩ := qarl h.inv hj
  obtain ⟨hi, hik⟩ := atN1_at ((qak8 h e).2 hp)
  generalize atN 1 L e = i at hi hik
  rw [← List.eraseIdx_eq_take_drop_succ]
  have hsL : entE s ∈ L := (h.mem _).1 ⟨s, qabo.2 ⟨_, hj⟩, rfl⟩
  have hLi : L[i] = entE s := qare h (List.getElem_mem hi) hsL (by rw [hik, ← hk]; rfl)
  refine relX_of d1 (h.nodup.sublist (List.eraseIdx_sublist ..)) fun x => ?_
  rw [List.mem_eraseIdx_iff_getElem]
  constructor
  ·rintro ⟨t, ht, rfl⟩
   obtain ⟨j, hjn, hjt⟩ := (d2 t).1 (qabo.1 ht)
   obtain ⟨i', hi', e1⟩ := List.mem_iff_getElem.1 ((h.mem _).1 ⟨t, qabo.2 ⟨j, hjt⟩, rfl⟩)
   refine ⟨i', hi', fun e2 => ?_, e1⟩
   subst e2
   rw [hLi] at e1
   have := qaeg h.inv (qabo.2 ⟨_, hj⟩) (qabo.2 ⟨j, hjt⟩) (congrArg Entry.keys e1)
   subst this
   have := h.inv.pinv.uniq j _ s s (by have := qabq hjt; omega) (by have := qabq hj; omega) hjt hj rfl
   exact hjn this
  ·rintro ⟨i', hi', hne, rfl⟩
   obtain ⟨t, ht, e1⟩ := (h.mem _).2 (List.getElem_mem hi')
   obtain ⟨j, hjt⟩ := qabo.1 ht
   refine ⟨t, qabo.2 ((d2 t).2 ⟨j, fun e2 => ?_, hjt⟩), e1⟩
   subst e2
   rw [hj] at hjt
   obtain rfl := Option.some.inj (Option.some.inj hjt)
   exact hne ((List.getElem_inj h.nodup).1 (by rw [← e1, hLi]))
 ·rw [if_neg h0, if_neg h0]; exact h
end Go.Proofs.Yticeaegpkpjjeaa
namespace Go.Proofs.Yticeaegpkpjjeaa
set_option linter.all false
open Go.RowKit
theorem qakp {k m : Int} {S : XTab} (h : XInv k m S) : (qann S).Pairwise fun a b => a.keys ≠ b.keys :=
 (qaeu h).perm (qaca S).symm fun h e => h e.symm
theorem qak1 {P : Program} {f : FuncId} {args : List SV} {h1 h2 : Hp} {q : Nat} {r r' : SV} (h : SCalls P f args h1 q r h2) (hc : Co r r') : SCalls P f args h1 q r' h2 :=
 ⟨h.1, fun O ρ fp w vs hok hargs hfr => (h.2 O ρ fp w vs hok hargs hfr).mono fun e w' hh => by
  obtain ⟨v, ρ', fp', e1, q1, q2, q3⟩ := hh
  exact ⟨v, ρ', fp', e1, q1, hc _ _ _ _ q2, q3⟩⟩
theorem coL_at : ∀ {xs ys : List SV} {j : Nat} {y : SV}, CoL xs ys → ys[j]? = some y → ∃ x, xs[j]? = some x ∧ Co x y
 | x :: xs, y :: ys, 0, _, h, hy => by cases hy; exact ⟨x, rfl, h.1⟩
 | x :: xs, y :: ys, j + 1, _, h, hy => coL_at (xs := xs) (ys := ys) (j := j) h.2 (by simpa using hy)
 | [], [], _, _, _, hy => by simp at hy
 | [], _ :: _, _, _, h, _ => h.elim
 | _ :: _, [], _, _, h, _ => h.elim
theorem qaqj : ∀ {xs ys : List (List SV)} {j : Nat} {y : List SV}, CoLL xs ys → ys[j]? = some y → ∃ x, xs[j]? = some x ∧ CoL x y
 | x :: xs, y :: ys, 0, _, h, hy => by cases hy; exact ⟨x, rfl, h.1⟩
 | x :: xs, y :: ys, j + 1, _, h, hy => qaqj (xs := xs) (ys := ys) (j := j) h.2 (by simpa using hy)
 | [], [], _, _, _, hy => by simp at hy
 | [], _ :: _, _, _, h, _ => h.elim
 | _ :: _, [], _, _, h, _ => h.elim
theorem qarp {z : Nat} {xs ys : List (List SV)} (h : CoLL xs ys) : Co (.view z xs) (.view z ys) := fun w A ρ v hv => by
 cases hv with
 | view0 hc ha =>
  have : ys = [] := List.eq_nil_of_length_eq_zero (by rw [← h.length]; rfl)
  subst this; exact .view0 hc ha
 | view cv hn hc hm hA hb hs h1 h2 ho =>
  refine .view cv (by rw [← h.length]; exact hn) hc hm hA hb (h.sizes hs) (fun i e j x he hx => ?_) (fun i e j x he hx => ?_) (fun i e j x he hx => ?_)
  all_goals
   obtain ⟨e', he', hl⟩ := qaqj h he
   obtain ⟨x', hx', hc'⟩ := coL_at hl hx
  ·exact h1 i e' j x' he' hx'
  ·exact hc' _ _ _ _ (h2 i e' j x' he' hx')
  ·exact ho i e' j x' he' hx'
theorem qal1 : ∀ l : List XSlot, CoLL (l.map xec) ((l.map entE).map qaby)
 | [] => trivial
 | s :: l => ⟨⟨Co.refl _, Co.nilsl 1, Co.refl _, Co.refl _, Co.refl _, Co.refl _, trivial⟩, qal1 l⟩
theorem co_xecs (l : List XSlot) : Co (.view 6 (l.map xec)) (ents (l.map entE)) := qarp (qal1 l)
theorem xall_c (k m : Int) (hm : m ≤ 1000) (S : XTab) (h : XInv k m S) (id q : Nat) : SCalls Try.prog 30 [.ptr id 0] [(id, .abs (xA k m S))] q (ents ((qann S).map entE)) [(id, .abs (xA k m S))] :=
 qak1 (xall_b k m hm S h id q) (co_xecs _)
end Go.Proofs.Yticeaegpkpjjeaa
namespace Go.Proofs.Yticeaegpkpjjeaa
set_option linter.all false
open Go.RowKit
attribute [local simp] qaak qaaj qaab qaaf qaac qaae qaah qaai qaaa qaap SOp.run SX.ev putd puts argS upds SOp.touch SSt.keep SSt.skip gets geth puth delh idOf SV.cells? setL qabr qabs sbin eq0 eq1 eqL qabn qaa5 qaa6 qaav qaal qaad qaam qaaq qaag qaan FrzOk qaa2 qaax qaa0 qaa1 qaar qaaw qaa8 qaay qaat qaa3 qaas frzS frzH frz frz1 frz0 SlotsM ObjsM ObjM rn ren ren1 ren0 qabj qab7 qab6 qabi qaa9 qab3 qab5 CoL qaa4 qab1 dels adds idsH qabz
attribute [local simp] qaen qadk qaem qadl
theorem qafa (l : List TStep) (q : Nat) : SCalls Try.prog 25 [qadw l] [] q (.bool (bigS l)) [] := qab2 (great_s l) (fun σ => rfl) (fun σ => rfl) rfl q
theorem qajm {k m : Int} {S : XTab} (h : XInv k m S) (xs : List Int) {s : XSlot} (he : qadh k S xs = some s) : s.args.length ≤ 1000000 := by
 by_cases hx : ∃ t ∈ qacf S, t.keys = xs
 ·obtain ⟨t, ht, rfl⟩ := hx
  rw [qad2 h ht] at he
  cases he
  obtain ⟨j, hj⟩ := qabo.1 ht
  exact (h.small j _ hj).2
 ·rw [qad3 h fun s hs e => hx ⟨s, hs, e⟩] at he; cases he
end Go.Proofs.Yticeaegpkpjjeaa
namespace Go.Proofs.Yticeaegpkpjjeaa
set_option linter.all false
open Go.RowKit
attribute [local simp] qaak qaaj qaab qaaf qaac qaae qaah qaai qaaa qaap SOp.run SX.ev putd puts argS upds SOp.touch SSt.keep SSt.skip gets geth puth delh idOf SV.cells? setL qabr qabs sbin eq0 eq1 eqL qabn qaa5 qaa6 qaav qaal qaad qaam qaaq qaag qaan FrzOk qaa2 qaax qaa0 qaa1 qaar qaaw qaa8 qaay qaat qaa3 qaas frzS frzH frz frz1 frz0 SlotsM ObjsM ObjM rn ren ren1 ren0 qabj qab7 qab6 qabi qaa9 qab3 qab5 CoL qaa4 qab1 dels adds idsH qabz
attribute [local simp] qaen qadk qaem qadl
theorem qaln : LayP qaev qaby :=
 qalm (fun e : Entry => (e.keys, e.masks, e.len, e.prio, e.act, e.args)) (qac3 (qaes (qadg .u64)) (qac3 (qaes (qadg .u64)) (qac3 (qadg .i64) (qac3 (qadg .i64) (qac3 (qadg .i64) (qaes (qadg .u64)))))))
theorem qall : LayP qahh qadc := qalm (fun s : TStep => (s.d, s.e)) (qac3 (qadg .i64) qaln)
theorem qajc (S : List Entry) : qaf1 S S = true := by
 unfold qaf1
 rw [decide_eq_true rfl, Bool.true_and]
 refine List.all_eq_true.2 fun i hi => ?_
 rw [List.getElem?_eq_getElem (List.mem_range.1 hi)]
 simp [qahl]
theorem qaqx (k m : Int) : RelX k m (List.replicate (newN m) none) [] := by
 refine ⟨qafd k m, ?_⟩
 have : qacf (List.replicate (newN m) none) = [] := by
  unfold qacf
  rw [List.filterMap_eq_nil_iff]
  intro o ho
  exact (List.mem_replicate.1 ho).2
 rw [this]; exact .nil
end Go.Proofs.Yticeaegpkpjjeaa
namespace Go.Proofs.Yticeaegpkpjjeaa
set_option linter.all false
open Go.RowKit
theorem qapt {k m : Int} {S : XTab} (h : XInv k m S) {s : XSlot} (hs : s.keys.length ≤ 1000000 ∧ s.args.length ≤ 1000000) : XInv k m (addX k m S s) := by
 unfold addX
 by_cases h0 : qahe k m S s.keys = 0
 ·rw [if_pos h0]; exact (qafy h hs h0).1
 ·rw [if_neg h0]; exact h
theorem qan4 {k m : Int} {S : XTab} (h : XInv k m S) (xs : List Int) : XInv k m (drpX k S xs) :=
 (qan6 (wd := 0) (RelX.mk h (.refl _)) ⟨xs, [], 0, 0, 0, []⟩).inv
theorem ents_nd {k m : Int} {S : XTab} (h : XInv k m S) : (qacf S).Nodup := by
 rw [List.nodup_iff_pairwise_ne]
 exact (qaeu h).imp fun {a b} hne e => hne (congrArg XSlot.keys e)
def rotX (A : List XSlot) (c : Nat) : List XSlot := A.drop c ++ A.take c
theorem qak3 (A : List XSlot) (c : Nat) : (rotX A c).Perm A := by
 have := @List.perm_append_comm _ (A.drop c) (A.take c)
 rw [List.take_append_drop] at this
 exact this
theorem qap2 (A : List XSlot) (c : Nat) : (rotX A c).length = A.length := (qak3 A c).length_eq
theorem rot_get {A : List XSlot} {c i : Nat} (hc : c < A.length) (hi : i < A.length) : ∃ (h : i < (rotX A c).length) (h2 : (i + c) % A.length < A.length), (rotX A c)[i] = A[(i + c) % A.length] := by
 have h2 : (i + c) % A.length < A.length := Nat.mod_lt _ (by omega)
 refine ⟨by rw [qap2]; exact hi, h2, ?_⟩
 unfold rotX
 rw [List.getElem_append]
 split
 ·rename_i h
  rw [List.length_drop] at h
  rw [List.getElem_drop]
  congr 1
  rw [Nat.mod_eq_of_lt (by omega)]; omega
 ·rename_i h
  rw [List.length_drop] at h
  rw [List.getElem_take]
  congr 1
  rw [List.length_drop, Nat.mod_eq_sub_mod (by omega), Nat.mod_eq_of_lt (by omega)]; omega
theorem qaqu {m : Int} (hm : m ≤ 1000) {U : XTab} {R : List XSlot} {i : Nat} (hi : i < R.length) (h : XInv 2 m U) (hp : (qacf U).Perm (R.take i)) (hR : R.Pairwise fun a b => a.keys ≠ b.keys) (hk : (R[i].keys.length : Int) = 2) (hs : R[i].keys.length ≤ 1000000 ∧ R[i].args.length ≤ 1000000) (hl : (R.length : Int) ≤ m) : qahe 2 m U R[i].keys = 0 ∧ XInv 2 m (addX 2 m U R[i]) ∧ (qacf (addX 2 m U R[i])).Perm (R.take (i + 1)) := by
 have hc : cnt U = i := by rw [← qacx, hp.length_eq, List.length_take]; omega
 have hn := qaij hm
 have hln := h.len
 have hpl : ¬ (qabu U R[i].keys).2 = true := fun h0 => by
  obtain ⟨s, h1, h2⟩ := (qaeq h).1 h0
  obtain ⟨j, hj, e⟩ := List.mem_iff_getElem.1 (hp.mem_iff.1 h1)
  rw [List.length_take] at hj
  rw [List.getElem_take] at e
  exact List.pairwise_iff_getElem.1 hR j i (by omega) hi (by omega) (by rw [e]; exact h2)
 have hv : qahe 2 m U R[i].keys = 0 := by
  unfold qahe
  rw [if_neg (by rw [hk]; simp), if_neg hpl, if_neg (by omega)]
 obtain ⟨h1, h2⟩ := qafy h (s := R[i]) hs hv
 have e : addX 2 m U R[i] = U.set (qabu U R[i].keys).1 (some R[i]) := by unfold addX; rw [if_pos hv]
 rw [e]
 refine ⟨hv, h1, (List.perm_ext_iff_of_nodup (ents_nd h1) ?_).2 fun x => ?_⟩
 ·rw [List.nodup_iff_pairwise_ne]
  exact (hR.sublist (List.take_sublist ..)).imp fun {a b} hne e => hne (congrArg XSlot.keys e)
 ·rw [qark h2, List.take_succ_eq_append_getElem hi, List.mem_append, List.mem_singleton, hp.mem_iff, or_comm]
theorem qan1 {k m : Int} {S U : XTab} (hS : XInv k m S) (hU : XInv k m U) (hp : (qacf U).Perm (qacf S)) (xs : List Int) : qadh k U xs = qadh k S xs := by
 by_cases hx : ∃ s ∈ qacf S, s.keys = xs
 ·obtain ⟨s, h1, rfl⟩ := hx
  rw [qad2 hS h1, qad2 hU (hp.mem_iff.2 h1)]
 ·rw [qad3 hS fun s h1 h2 => hx ⟨s, h1, h2⟩, qad3 hU fun s h1 h2 => hx ⟨s, hp.mem_iff.1 h1, h2⟩]
theorem qanm {k m : Int} {S U : XTab} (hS : XInv k m S) (hp : (qacf U).Perm (qacf S)) : qann U = qann S :=
 qaek (l := qacf S) (fun s hs t ht => qaeg hS hs ht) _ _ (fun x hx => hp.mem_iff.1 ((qaca U).mem_iff.1 hx)) ((qaca U).trans (hp.trans (qaca S).symm)) (qadd U) (qadd S)
theorem qarq {S U : XTab} (hp : (qacf U).Perm (qacf S)) : cnt U = cnt S := by rw [← qacx, ← qacx, hp.length_eq]
end Go.Proofs.Yticeaegpkpjjeaa
namespace Go.Proofs.Yticeaegpkpjjeaa
set_option linter.all false
open Go.RowKit
attribute [local simp] qaak qaaj qaab qaaf qaac qaae qaah qaai qaaa qaap SOp.run SX.ev putd puts argS upds SOp.touch SSt.keep SSt.skip gets geth puth delh idOf SV.cells? setL qabr qabs sbin eq0 eq1 eqL qabn qaa5 qaa6 qaav qaal qaad qaam qaaq qaag qaan FrzOk qaa2 qaax qaa0 qaa1 qaar qaaw qaa8 qaay qaat qaa3 qaas frzS frzH frz frz1 frz0 SlotsM ObjsM ObjM rn ren ren1 ren0 qabj qab7 qab6 qabi qaa9 qab3 qab5 CoL qaa4 qab1 dels adds idsH qabz
attribute [local simp] qaen qadk qaem qadl
theorem RelX.ents_nil {k m : Int} {S : XTab} (h : RelX k m S []) : (qacf S).Perm [] := by
 have := h.perm.length_eq
 rw [List.length_map] at this
 rw [List.length_eq_zero_iff.1 this]
def cutN (cut : Int) (n : Nat) : Nat := (IntKind.u64.wrap cut % (n : Int)).toNat
theorem cutN_lt {cut : Int} {n : Nat} (h : 0 < n) : cutN cut n < n := by
 unfold cutN
 have := Int.emod_lt_of_pos (IntKind.u64.wrap cut) (show (0 : Int) < n by omega)
 have := Int.emod_nonneg (IntKind.u64.wrap cut) (show (n : Int) ≠ 0 by omega)
 omega
set_option maxRecDepth 4000 in
theorem xset_s (m : Int) (l : List TStep) (cut : Int) : SCalls Try.prog 6 [.int .i64 m, qadw l, .int .i64 cut] [] 0 (.bool true) [] := by
 refine qabc (N := 149) Try.func6 rfl rfl (by kernel_rfl) qajn (by simp) (by repeat' (first | exact trivial | refine And.intro ?_ ?_ | rfl | decide | exact PureR.ren _)) (by repeat' (first | exact trivial | refine And.intro ?_ ?_ | rfl | decide | exact PureR.ren _)) ?_
 rintro X hP hN hm
 unfold c_xset
 by_cases hm1 : m > 1000
 ·repeat' (first | (with_reducible refine zA ?_) | ((with_reducible refine qaao ?_); (try rw [hP]); simp -implicitDefEqProofs [*]) | ((with_reducible refine qaaz ?_); (try simp -implicitDefEqProofs [*])) | ((with_reducible refine qaba ?_); (try simp only [qaav, qaad, qaag])) | ((with_reducible refine qaau rfl (fun h => ?_) (fun h => ?_)) <;> have h' := h <;> (try simp at h') <;> (try subst h')) | ((refine qaci (qaqn _) ?_); simp -implicitDefEqProofs [*]) | (with_reducible refine zN hm ?_) | fail)
  all_goals rfl
 cases hb : bigS l
 case true =>
  repeat' (first | (with_reducible refine zA ?_) | ((with_reducible refine qaao ?_); (try rw [hP]); simp -implicitDefEqProofs [*]) | ((with_reducible refine qaaz ?_); (try simp -implicitDefEqProofs [*])) | ((with_reducible refine qaba ?_); (try simp only [qaav, qaad, qaag])) | ((with_reducible refine qaau rfl (fun h => ?_) (fun h => ?_)) <;> have h' := h <;> (try simp at h') <;> (try subst h')) | ((first | refine qaci (qaqn _) ?_ | refine qaci (qafa l _) ?_); simp -implicitDefEqProofs [*]) | (with_reducible refine zN hm ?_) | fail)
  all_goals rfl
 case false =>
  have h200 : l.length ≤ 200 ∧ ∀ s ∈ l, bigE s.e = false := by
   simp only [bigS, Bool.or_eq_false_iff] at hb
   exact ⟨by have := hb.1; simp at this; omega, fun s hs => by have := List.any_eq_false.1 hb.2 s hs; simpa using this⟩
  replace h200 := Lib.hid h200
  repeat' (first | (with_reducible refine zA ?_) | ((with_reducible refine qaao ?_); (try rw [hP]); simp -implicitDefEqProofs [*]) | ((with_reducible refine qaaz ?_); (try simp -implicitDefEqProofs [*])) | ((with_reducible refine qaau rfl (fun h => ?_) (fun h => ?_)) <;> have h' := h <;> (try simp at h') <;> (try subst h')) | ((first | refine qaci (qaqn _) ?_ | refine qaci (qafa l _) ?_ | refine qage (qaqm 2 m _) trivial ⟨rfl, trivial⟩ ?_); simp -implicitDefEqProofs [*]) | fail)
  refine qabf (qacv (fun s (x : Nat × XTab) => ⟨[(0, .int .i64 m), (1, qadw l), (2, .int .i64 cut), (7, .ptr 0 0), (8, .int .i64 x.1)], [(0, .abs (xA 2 m x.2))], 1⟩) (fun x => x.1 ≤ l.length ∧ XInv 2 m x.2) (fun x => l.length - x.1) (0, List.replicate (newN m) none) (qabh [(0, 24)] hm ⟨Co.refl _, Co.refl _, Co.refl _, Co.refl _, Co.refl _, trivial⟩ ⟨⟨_, rfl, rfl⟩, trivial⟩ rfl (Nat.zero_le _)) ⟨by simp, qafd 2 m⟩ ?_)
  rintro J hJ ⟨i, S⟩ ⟨g1, g2⟩
  unfold qai0
  simp only at g1 g2 ⊢
  have hl2 := h200.out.1
  rcases Nat.lt_or_ge i l.length with hi | hi
  ·have hbe := h200.out.2 l[i] (List.getElem_mem hi)
   simp only [bigE, Bool.or_eq_false_iff, decide_eq_false_iff_not] at hbe
   obtain ⟨d, e0, hle⟩ : ∃ d e0, l[i] = ⟨d, e0⟩ := ⟨_, _, rfl⟩
   rw [hle] at hbe
   simp only at hbe
   have hse : Small e0 := ⟨by omega, by omega, by omega⟩
   have k1 := fun q => qani 2 m S g2 e0.act e0.keys e0.args hse.1 hse.2.2 0 q
   have k2 := fun q => xdrop_a 2 m S g2 e0.keys hse.1 0 q
   have k5 := fun q => qab2 (qaqf e0) (fun σ => rfl) (fun σ => rfl) rfl q
   have wi : IntKind.i64.wrap ((i : Int) + 1) = (i : Int) + 1 := qacb (by omega) (by omega)
   have n1 : i + 1 ≤ l.length ∧ XInv 2 m (addX 2 m S ⟨e0.keys, e0.act, e0.args⟩) := ⟨by omega, qapt g2 ⟨hse.1, hse.2.2⟩⟩
   have n2 : i + 1 ≤ l.length ∧ XInv 2 m (drpX 2 S e0.keys) := ⟨by omega, qan4 g2 _⟩
   unfold qaby qae0 at k5
   unfold hitc at k1
   generalize addX 2 m S ⟨e0.keys, e0.act, e0.args⟩ = S1 at k1 n1
   generalize drpX 2 S e0.keys = S2 at k2 n2
   generalize qahe 2 m S e0.keys = v1 at k1
   generalize qaki 2 S e0.keys = v2 at k2
   replace n1 := Lib.hid n1
   replace n2 := Lib.hid n2
   clear g2 hse hbe
   by_cases hd : d = 2
   ·subst hd
    repeat' (first | (with_reducible first | refine zA ?_ | refine qabd ?_) | ((with_reducible refine qaao ?_); (try rw [hP]); simp -implicitDefEqProofs [qadw, qadc, qaby, wi, hle, List.getElem?_eq_getElem hi, *]) | ((with_reducible refine qaaz ?_); (try simp -implicitDefEqProofs [qadw, qadc, qaby, wi, hle, List.getElem?_eq_getElem hi, *])) | ((with_reducible refine qaau rfl (fun h => ?_) (fun h => ?_)) <;> have h' := h <;> (try simp at h') <;> (try subst h')) | (refine qage (k2 _) ⟨rfl, trivial⟩ ⟨rfl, trivial⟩ ?_; simp -implicitDefEqProofs [qadw, qadc, qaby, wi, hle, List.getElem?_eq_getElem hi, *]) | (with_reducible first | refine za ?_ ?_ | refine qaeb ?_ ?_) | (with_reducible first | exact qabb | exact qabg) | ((with_reducible first | refine zga ?_ | refine zgb ?_); rfl) | ((with_reducible first | refine zgd ?_ | refine zge ?_); (first | omega | (simp; done))) | (exact Co.refl _) | ((refine qab0 hJ ((i + 1, S2)) ?_ ?_ ?_; (with_reducible refine qabh [] hm ?_ ?_ ?_ ?_) <;> (try simp only [zT, puth, Nat.reduceEqDiff, reduceIte, Nat.reduceAdd]))) | fail)
    all_goals exact n2.out
   ·have hdb : (d == 2) = false := by simpa using hd
    repeat' (first | (with_reducible first | refine zA ?_ | refine qabd ?_ | refine zK ?_) | ((with_reducible first | refine qaao ?_ | refine qacl (by rw [hP]; exact mixed) ?_); (try rw [hP]); simp -implicitDefEqProofs [qadw, qadc, qaby, wi, hle, List.getElem?_eq_getElem hi, hdb, *]) | ((with_reducible refine qaaz ?_); (try simp -implicitDefEqProofs [qadw, qadc, qaby, wi, hle, List.getElem?_eq_getElem hi, hdb, *])) | ((with_reducible refine qaau rfl (fun h => ?_) (fun h => ?_)) <;> have h' := h <;> (try simp at h') <;> (try subst h')) | ((first | refine qaci (k5 _) ?_ | refine qage (k1 _) ⟨rfl, trivial⟩ ⟨rfl, trivial⟩ ?_); simp -implicitDefEqProofs [qadw, qadc, qaby, wi, hle, List.getElem?_eq_getElem hi, hdb, *]) | (with_reducible first | refine za ?_ ?_ | refine qaeb ?_ ?_) | (with_reducible first | exact qabb | exact qabg) | ((with_reducible first | refine zga ?_ | refine zgb ?_); rfl) | ((with_reducible first | refine zgd ?_ | refine zge ?_); (first | omega | (simp; done))) | (exact Co.refl _) | ((refine qab0 hJ ((i + 1, S1)) ?_ ?_ ?_; (with_reducible refine qabh [] hm ?_ ?_ ?_ ?_) <;> (try simp only [zT, puth, Nat.reduceEqDiff, reduceIte, Nat.reduceAdd]))) | fail)
    all_goals exact n1.out
  ·obtain rfl : i = l.length := by omega
   clear hJ g1 hi
   obtain ⟨B, hB⟩ : ∃ B, B = qann S := ⟨_, rfl⟩
   have k1 := fun q => xall_c 2 m (by omega) S g2 0 q
   rw [← hB] at k1
   have hBl : B.length = cnt S := by rw [hB, (qaca S).length_eq, qacx]
   have hBm : (B.length : Int) ≤ m ∨ B.length = 0 := by have := g2.full; omega
   have hBs : ∀ s ∈ B, (s.keys.length : Int) = 2 ∧ s.keys.length ≤ 1000000 ∧ s.args.length ≤ 1000000 := fun s hs => by
    rw [hB] at hs
    obtain ⟨j, hj⟩ := qabo.1 ((qaca S).mem_iff.1 hs)
    exact ⟨g2.fit j s hj, g2.small j s hj⟩
   have hBa : B.Pairwise fun a b => a.keys ≠ b.keys := by rw [hB]; exact qakp g2
   have hBp : B.Perm (qacf S) := by rw [hB]; exact qaca S
   have hn := qaij (show m ≤ 1000 by omega)
   have hBb : B.length ≤ 1000 := by omega
   obtain ⟨R, hR⟩ : ∃ R, R = rotX B (cutN cut B.length) := ⟨_, rfl⟩
   have hRl : R.length = B.length := by rw [hR, qap2]
   have hRp : R.Perm B := by rw [hR]; exact qak3 _ _
   have hRa : R.Pairwise fun a b => a.keys ≠ b.keys := hBa.perm hRp.symm fun h e => h e.symm
   obtain ⟨A, hA⟩ : ∃ A, A = B.map entE := ⟨_, rfl⟩
   have hAl : A.length = B.length := by rw [hA, List.length_map]
   rw [← hA] at k1
   replace hA := Lib.hid hA
   replace hAl := Lib.hid hAl
   replace hB := Lib.hid hB
   replace hBl := Lib.hid hBl
   replace hBs := Lib.hid hBs
   replace hBm := Lib.hid hBm
   replace hBb := Lib.hid hBb
   replace hR := Lib.hid hR
   replace hRl := Lib.hid hRl
   replace g2 := Lib.hid g2
   repeat' (first | (with_reducible refine zA ?_) | ((with_reducible refine qaao ?_); (try rw [hP]); simp -implicitDefEqProofs [qadw, *]) | ((with_reducible refine qab9 ?_); (try simp -implicitDefEqProofs [qadw, *])) | ((with_reducible refine qaau rfl (fun h => ?_) (fun h => ?_)) <;> have h' := h <;> (try simp at h') <;> (try subst h')) | ((first | refine qadj (k1 _) ⟨rfl, trivial⟩ ⟨rfl, trivial⟩ ?_ | refine qage (qaqm 2 m _) trivial ⟨rfl, trivial⟩ ?_); simp -implicitDefEqProofs [qadw, *]) | fail)
   refine qabf (qacv (fun s (x : Nat × XTab) => ⟨[(1, qadw l), (2, .int .i64 cut), (7, .ptr 0 0), (9, ents A), (10, .ptr 1 0), (11, .int .i64 x.1)], [(0, .abs (xA 2 m S)), (1, .abs (xA 2 m x.2))], 2⟩) (fun x => x.1 ≤ B.length ∧ XInv 2 m x.2 ∧ (qacf x.2).Perm (R.take x.1)) (fun x => B.length - x.1) (0, List.replicate (newN m) none) (qabh [(1, 16)] hm ⟨Co.refl _, Co.refl _, Co.refl _, Co.refl _, Co.refl _, Co.refl _, trivial⟩ ⟨⟨_, rfl, rfl⟩, ⟨_, rfl, rfl⟩, trivial⟩ rfl (Nat.zero_le _)) ⟨by simp, qafd 2 m, (qaqx 2 m).ents_nil⟩ ?_)
   rintro J hJ ⟨i, U⟩ ⟨g1, h2, h3⟩
   unfold qaiz
   simp only at g1 h2 h3 ⊢
   rcases Nat.lt_or_ge i B.length with hi | hi
   ·have hb2 := hBb.out
    have hiR : i < R.length := by rw [hRl.out]; exact hi
    have hcl : cutN cut B.length < B.length := cutN_lt (by omega)
    obtain ⟨_, hj, hg⟩ := rot_get hcl hi
    have hgR : R[i] = B[(i + cutN cut B.length) % B.length] := by rw [← hg]; congr 1
    have hs := hBs.out _ (List.getElem_mem hj)
    have hst := qaqu (by omega) hiR h2 h3 hRa (by rw [hgR]; exact hs.1) (by rw [hgR]; exact hs.2) (by have := hBm.out; have := hRl.out; omega)
    rw [hgR] at hst
    have wi : IntKind.i64.wrap ((i : Int) + 1) = (i : Int) + 1 := qacb (by omega) (by omega)
    have hBl1 := hBl
    generalize hx : B[(i + cutN cut B.length) % B.length] = x at hst hs
    have hget : B[(i + cutN cut B.length) % B.length]? = some x := by rw [List.getElem?_eq_getElem hj, hx]
    have k1 := fun q => qani 2 m U h2 x.act x.keys x.args hs.2.1 hs.2.2 1 q
    rw [hst.1] at k1
    have hst2 := hst.2
    generalize addX 2 m U ⟨x.keys, x.act, x.args⟩ = U1 at k1 hst2
    have hci : (IntKind.u64.wrap cut).tmod (B.length : Int) = ((cutN cut B.length : Nat) : Int) := by
     unfold cutN
     rw [Int.toNat_of_nonneg (Int.emod_nonneg _ (by omega)), Int.tmod_eq_emod_of_nonneg (qapz _)]
    have k5 := fun q => qab2 (qaqf (entE x)) (fun σ => rfl) (fun σ => rfl) rfl q
    have n1 : i + 1 ≤ B.length ∧ XInv 2 m U1 ∧ (qacf U1).Perm (R.take (i + 1)) := ⟨by omega, hst2⟩
    clear hst hst2 hx hg hgR hR
    generalize cutN cut B.length = c at hci hcl hget hj
    have w0 : ((B.length : Int) == 0) = false := beq_eq_false_iff_ne.2 (by omega)
    have w1 : IntKind.u64.wrap (B.length : Int) = B.length := u64_in_ (by omega) (by omega)
    have w3 : IntKind.i64.wrap (c : Int) = c := IntWalk.i64_in _ (by omega)
    have w4 : IntKind.i64.wrap ((i : Int) + c) = (i : Int) + c := qacb (by omega) (by omega)
    have w5 : Int.tmod ((i : Int) + c) (B.length : Int) = (((i + c) % B.length : Nat) : Int) := by
     rw [Int.tmod_eq_emod_of_nonneg (by omega)]; rfl
    have w6 : B ≠ [] := fun h => by rw [h] at hi; simp at hi
    generalize hjj : (i + c) % B.length = j at hj hget w5
    have hAl2 := hAl.out
    have hAj : A[j]? = some (entE x) := by rw [hA.out, List.getElem?_map, hget]; rfl
    have hAk : A[j] = entE x := Option.some.inj (by rw [← hAj, List.getElem?_eq_getElem (by omega)])
    have hxj : B[j] = x := Option.some.inj (by rw [← hget, List.getElem?_eq_getElem hj])
    replace n1 := Lib.hid n1
    clear hxj hget hA hAl hs h2 h3 hiR g1 hjj hRa hRp hBa hBp hB hRl hBm hBs g2 hBl1 hBl
    unfold entE qaby qae0 at k5
    unfold hitc at k1
    repeat' (first | (with_reducible first | refine zA ?_ | refine qabd ?_ | refine zK ?_) | ((with_reducible first | refine qaao ?_ | refine qacl (by rw [hP]; exact mixed) ?_); (try rw [hP]); simp -implicitDefEqProofs [ents, qaby, entE, wi, w0, w1, hci, w3, w4, w5, w6, hAj, hAk, hAl2, *]) | ((with_reducible refine qaaz ?_); (try simp -implicitDefEqProofs [ents, qaby, entE, wi, w0, w1, hci, w3, w4, w5, w6, hAj, hAk, hAl2, *])) | ((with_reducible refine qaau rfl (fun h => ?_) (fun h => ?_)) <;> have h' := h <;> (try simp at h') <;> (try subst h')) | ((first | refine qaci (k5 _) ?_ | refine qage (k1 _) ⟨rfl, trivial⟩ ⟨rfl, trivial⟩ ?_); simp -implicitDefEqProofs [ents, qaby, entE, wi, w0, w1, hci, w3, w4, w5, w6, hAj, hAk, hAl2, *]) | (with_reducible first | refine za ?_ ?_ | refine qaeb ?_ ?_) | (with_reducible first | exact qabb | exact qabg) | ((with_reducible first | refine zga ?_ | refine zgb ?_); rfl) | ((with_reducible first | refine zgd ?_ | refine zge ?_); (first | omega | (simp; done))) | (exact Co.refl _) | ((refine qab0 hJ ((i + 1, U1)) ?_ ?_ ?_; (with_reducible refine qabh [] hm ?_ ?_ ?_ ?_) <;> (try simp only [zT, puth, Nat.reduceEqDiff, reduceIte, Nat.reduceAdd]))) | fail)
    all_goals exact n1.out
   ·obtain rfl : i = B.length := by omega
    have hpU : (qacf U).Perm (qacf S) := by
     rw [← hRl.out, List.take_length] at h3
     exact h3.trans (hRp.trans hBp)
    have hS := g2.out
    have hfs := fun xs => qan1 hS h2 hpU xs
    have hso := qanm hS hpU
    have hcn := qarq hpU
    have hAl2 := hAl.out
    have hBb2 := hBb.out
    have hBl2 := hBl.out
    have k1 := fun q => xall_c 2 m (by omega) U h2 1 q
    rw [hso, ← hB.out, ← hA.out] at k1
    have k2 := fun q => xlen_a 2 m S 0 q
    have k3 := fun q => xlen_a 2 m U 1 q
    rw [hcn] at k3
    have hsA : ∀ e ∈ A, Small e := fun e he => by
     rw [hA.out] at he
     obtain ⟨x, hx, rfl⟩ := List.mem_map.1 he
     have := hBs.out x hx
     exact ⟨this.2.1, by simp [entE], this.2.2⟩
    have k4 := fun q => qab2 (sents_s A A (by omega) hsA) (fun σ => rfl) (fun σ => rfl) rfl q
    rw [qajc] at k4
    rw [← hBl2, ← hAl2] at k2 k3
    have k5 := fun xs hx q => qakk 2 m S hS xs hx 0 q
    have k6 := fun xs hx q => qakk 2 m U h2 xs hx 1 q
    simp only [hfs] at k6
    have hfa : ∀ xs, ∃ a r b, r.length ≤ 1000000 ∧ qahz (qadh 2 S xs) = .tup [.agg [.int .i64 a, nums .u64 r], .bool b] := fun xs => by
     cases hf : qadh 2 S xs with
     | none => exact ⟨0, [], false, by simp, rfl⟩
     | some x => exact ⟨x.act, x.args, true, qajm hS _ hf, rfl⟩
    clear hJ g1 hi h2 h3 hRp hRa hBa hBp hRl hR hB hBs hBm hBl hpU hfs hso hcn hS g2 hA hsA hn
    clear hBl2
    repeat' (first | (with_reducible refine zA ?_) | ((with_reducible refine qaao ?_); (try rw [hP]); simp -implicitDefEqProofs [ents, hAl2, *]) | ((with_reducible refine qab9 ?_); (try simp -implicitDefEqProofs [ents, hAl2, *])) | ((with_reducible refine qaau rfl (fun h => ?_) (fun h => ?_)) <;> have h' := h <;> (try simp at h') <;> (try subst h')) | fail)
    refine qabf (qacv (fun s (x : Nat) => ⟨[(1, qadw l), (7, .ptr 0 0), (9, ents A), (10, .ptr 1 0), (13, .int .i64 x)], [(0, .abs (xA 2 m S)), (1, .abs (xA 2 m U))], 2⟩) (fun x => x ≤ l.length) (fun x => l.length - x) 0 (qabh [] hm ⟨Co.refl _, Co.refl _, Co.refl _, Co.refl _, Co.refl _, trivial⟩ ⟨⟨_, rfl, rfl⟩, ⟨_, rfl, rfl⟩, trivial⟩ rfl (Nat.zero_le _)) (by simp) ?_)
    rintro J hJ i g1
    unfold qaiy
    have hl2 := h200.out.1
    rcases Nat.lt_or_ge i l.length with hi | hi
    ·have hbe := h200.out.2 l[i] (List.getElem_mem hi)
     simp only [bigE, Bool.or_eq_false_iff, decide_eq_false_iff_not] at hbe
     obtain ⟨d, e0, hle⟩ : ∃ d e0, l[i] = ⟨d, e0⟩ := ⟨_, _, rfl⟩
     rw [hle] at hbe
     simp only at hbe
     have wi : IntKind.i64.wrap ((i : Int) + 1) = (i : Int) + 1 := qacb (by omega) (by omega)
     have q5 := k5 e0.keys (by omega)
     have q6 := k6 e0.keys (by omega)
     obtain ⟨a, r, b, hr, hv⟩ := hfa e0.keys
     rw [hv] at q5 q6
     have q7 := fun q => qab2 (shit_s a a r r hr) (fun σ => rfl) (fun σ => rfl) rfl q
     rw [show (a == a && decide (r = r)) = true by simp] at q7
     unfold qae0 at q7
     clear hv hr hfa k5 k6 k1 k2 k3 k4 hbe
     repeat' (first | (with_reducible first | refine zA ?_ | refine qabd ?_) | ((with_reducible refine qaao ?_); (try rw [hP]); simp -implicitDefEqProofs [qadw, qadc, qaby, hle, List.getElem?_eq_getElem hi, wi, *]) | ((with_reducible refine qaaz ?_); (try simp -implicitDefEqProofs [qadw, qadc, qaby, hle, List.getElem?_eq_getElem hi, wi, *])) | ((with_reducible refine qaau rfl (fun h => ?_) (fun h => ?_)) <;> have h' := h <;> (try simp at h') <;> (try subst h')) | ((first | refine qadj (q5 _) ⟨rfl, trivial⟩ ⟨rfl, trivial⟩ ?_ | refine qadj (q6 _) ⟨rfl, trivial⟩ ⟨rfl, trivial⟩ ?_ | refine qaci (q7 _) ?_); simp -implicitDefEqProofs [qadw, qadc, qaby, hle, List.getElem?_eq_getElem hi, wi, *]) | (with_reducible first | refine za ?_ ?_ | refine qaeb ?_ ?_) | (with_reducible first | exact qabb | exact qabg) | ((with_reducible first | refine zga ?_ | refine zgb ?_); rfl) | ((with_reducible first | refine zgd ?_ | refine zge ?_); (first | omega | (simp; done))) | (exact Co.refl _) | ((refine qab0 hJ (i + 1) ?_ ?_ ?_; (with_reducible refine qabh [] hm ?_ ?_ ?_ ?_) <;> (try simp only [zT, puth, Nat.reduceEqDiff, reduceIte, Nat.reduceAdd]))) | fail)
     all_goals omega
    ·obtain rfl : i = l.length := by omega
     clear hJ k5 k6 hfa
     unfold ents at k1 k4
     repeat' (first | (with_reducible refine zA ?_) | ((with_reducible refine qaao ?_); (try rw [hP]); simp -implicitDefEqProofs [qadw, ents, *]) | ((with_reducible refine qab9 ?_); (try simp -implicitDefEqProofs [qadw, ents, *])) | ((with_reducible refine qaba ?_); (try simp only [qaav, qaad, qaag])) | ((with_reducible refine qaau rfl (fun h => ?_) (fun h => ?_)) <;> have h' := h <;> (try simp at h') <;> (try subst h')) | ((first | refine qadj (k1 _) ⟨rfl, trivial⟩ ⟨rfl, trivial⟩ ?_ | refine qadj (k2 _) ⟨rfl, trivial⟩ ⟨rfl, trivial⟩ ?_ | refine qadj (k3 _) ⟨rfl, trivial⟩ ⟨rfl, trivial⟩ ?_ | refine qaci (k4 _) ?_); simp -implicitDefEqProofs [qadw, ents, *]) | (with_reducible refine zN hm ?_) | fail)
     all_goals rfl
theorem ExactSet_law (m : Int) (lo : Option Addr) (ln lc : Nat) (l : List TStep) (c : Int) (w : World) (_ : (Lit.int .i64 m).wf = true) (hl : RdL qahh NoA w lo ln lc l) (_ : (Lit.int .i64 c).wf = true) :
  Calls Try.prog 6 #[.int .i64 m, .slice lo ln lc, .int .i64 c] w fun e w' => e = .returned (.bool true) ∧ Below w.heap.size w w' :=
 law_of (vs := [.int .i64 m, .slice lo ln lc, .int .i64 c]) (xset_s m l c) (Reps.cons .int (Reps.cons (qain qall hl) (Reps.cons .int Reps.nil)))
end Go.Proofs.Yticeaegpkpjjeaa
