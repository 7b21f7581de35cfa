/-
  Texts joined: XRowI XRowJ XRowK XRowL XExaV XExaW XExaX XExaY XExaZ XExbA XExbB. No condition.
-/
import Derived.WalkSpells
import Derived.RegionTactic
import Derived.BigRegion
import Derived.Deep.RegionLaw
import Derived.Test.YticeaegpkpjjeaaProg
import Derived.Test.YticeaegpkpjjeaaExactDoesK4
namespace Go.Proofs.Yticeaegpkpjjeaa
set_option linter.all false
open Go.RowKit
attribute [local simp] qaam qaal qaab qaaf qaac qaae qaaj qaak qaaa qaax SOp.run SX.ev putd puts argS upds SOp.touch SSt.keep SSt.skip gets geth puth delh idOf SV.cells? setL qabu qabv sbin eq0 eq1 eqL qabs qaa9 qaba qaaz qaai qaad qaan qaay qaag qaah FrzOk qaa4 qaav qaa2 qaa3 qaaq qaau qaa7 qaaw qaas qaa5 qaar frzS frzH frz frz1 frz0 SlotsM ObjsM ObjM rn ren ren1 ren0 qabj qabq qabx qabi qaa8 qabr qabw CoL qaa6 qace dels adds idsH qab7 qabz qaco qacz qacw
def qafp (a : Entry) (L : List Entry) (b : Int) : Bool := decide (b < 0) || match L[b.toNat]? with
 | some c => decide (a.len > c.len) || decide (a.prio < c.prio)
 | none => false
def qay8 (k wd : Int) (L : List Entry) (xs : List Int) (i : Nat) (b : Int) : Int := match L[i]? with
 | some a => if qal0 k wd a xs && qafp a L b then (i : Int) else b
 | none => b
def qai5 (k wd : Int) (L : List Entry) (xs : List Int) : Nat → Int
 | 0 => -1
 | i + 1 => qay8 k wd L xs i (qai5 k wd L xs i)
def qajq (k ks wd : Int) (xs : List Int) : Bool := decide ((xs.length : Int) = ks) && !(k == 2 && (decide (wd < 1) || (decide (64 < wd) || qay7 (el xs 0) wd)))
def findI (k ks wd : Int) (L : List Entry) (xs : List Int) : Int := if qajq k ks wd xs then qai5 k wd L xs L.length else -1
def qanm (k ks wd : Int) (L : List Entry) (xs : List Int) : Option Entry := if 0 ≤ findI k ks wd L xs then L[(findI k ks wd L xs).toNat]? else none
def qalr (o : Option Entry) : SV := match o with
 | none => .tup [.agg (qadj 0 []), .int .i64 0, .bool false]
 | some e => .tup [.agg (qadj e.act e.args), .int .i64 e.len, .bool true]
theorem qai9 {k wd : Int} {L : List Entry} {xs : List Int} {i : Nat} {b : Int} (hi : i < L.length) : qay8 k wd L xs i b = if qal0 k wd L[i] xs && qafp L[i] L b then (i : Int) else b := by
 unfold qay8; rw [List.getElem?_eq_getElem hi]
theorem qagg (k wd : Int) (L : List Entry) (xs : List Int) : ∀ i, i ≤ L.length → qai5 k wd L xs i = -1 ∨ ∃ j : Nat, qai5 k wd L xs i = j ∧ j < i
 | 0, _ => .inl rfl
 | i + 1, h => by
  have ih := qagg k wd L xs i (by omega)
  show qay8 k wd L xs i (qai5 k wd L xs i) = -1 ∨ ∃ j : Nat, qay8 k wd L xs i (qai5 k wd L xs i) = j ∧ j < i + 1
  rw [qai9 (by omega)]
  generalize qai5 k wd L xs i = b at *
  split
  ·exact .inr ⟨i, rfl, by omega⟩
  ·rcases ih with h1 | ⟨j, h1, h2⟩
   ·exact .inl h1
   ·exact .inr ⟨j, h1, by omega⟩
def qak5 : SCode := (.seq (.reg false qaip [0, 1, 4, 7]) (.seq (.seq (.reg false qaio [0, 1, 4, 7, 8]) (.block 0 (.loop qafl))) (.seq (.seq (.reg false qagf [0, 4, 7, 112]) (.cond (.t 112) (.seq (.reg false qage [4, 5, 6]) .ret) .skip)) (.seq (.reg false qagd [4, 9]) (.seq (.reg true qagc [4, 5, 6]) .ret)))))
theorem qago (X : Cx) (hP : X.P = Try.prog) (hm : X.m = 2) (k ks wd ms : Int) (L : List Entry) (a : Int) (l : List Int) (n : Int) (b : Bool) (cs : List SV) (hp : Hp) (nx : Nat) (hc : CoL cs (qadj a l)) :
  QFun X (Try.f40).results.toList 2 (.tup [.agg (qadj a l), .int .i64 n, .bool b]) (qack k ks wd ms L) .ret ⟨[(4, .ptr 2 0), (5, .int .i64 n), (6, .bool b)], (0, qabg k ks wd ms 1 L.length) :: (1, qabh L) :: (2, .cells 58 cs) :: hp, nx⟩ :=
 qabn (s' := ⟨[(4, .ptr 2 0), (5, .int .i64 n), (6, .bool b)], [(0, qabg k ks wd ms 1 L.length), (1, qabh L), (2, .cells 58 (qadj a l))], 3⟩) (qabc [(0, 0), (1, 1), (2, 2)] hm rfl (by simp) (by simp -implicitDefEqProofs) (by simp -implicitDefEqProofs [qabg, qabh]; exact hc)) (by simp -implicitDefEqProofs [hP, qagp, resL, resV, show qafs Try.prog 58 = some true from by kernel_rfl, show qab3 Try.prog 58 = some 2 from by kernel_rfl, one_, qadj, nums]) ⟨rfl, rfl, trivial⟩ (by simp)
theorem qan9 (X : Cx) (hP : X.P = Try.prog) (hm : X.m = 2) (k ks wd ms : Int) (L : List Entry) (xs : List Int) (hs : ∀ a ∈ L, qadd a) (hL : L.length ≤ 1000000) (hok : ∀ a ∈ L, qawc k a xs) (hf : qajq k ks wd xs = true) (tl : Sl) (nx : Nat) :
  SWp X qak5 (QFun X (Try.f40).results.toList 2 (qalr (qanm k ks wd L xs)) (qack k ks wd ms L)) ⟨(0, .ptr 0 0) :: (1, nums .u64 xs) :: (4, .ptr 2 0) :: tl, [(0, qabg k ks wd ms 1 L.length), (1, qabh L), (2, .cells 58 [.int .i64 0, .nilsl])], nx⟩ := by
 have hI : findI k ks wd L xs = qai5 k wd L xs L.length := if_pos hf
 have hnil : CoL [.int .i64 0, .nilsl] (qadj 0 []) := ⟨.refl _, Co.nilsl 1, trivial⟩
 unfold qak5
 repeat' (first | (with_reducible refine qaa1 ?_) | ((with_reducible refine qaap ?_); (try rw [hP]); simp -implicitDefEqProofs [nums, qabg, qabh, *]) | fail)
 refine qabk (qacn (fun s n => ∃ (i : Nat) (b : Int), s = ⟨[(0, .ptr 0 0), (1, nums .u64 xs), (4, .ptr 2 0), (7, .int .i64 b), (8, .int .i64 i)], [(0, qabg k ks wd ms 1 L.length), (1, qabh L), (2, .cells 58 [.int .i64 0, .nilsl])], 3⟩ ∧ i ≤ L.length ∧ b = qai5 k wd L xs i ∧ n = L.length - i) (qabc [(0, 0), (1, 1), (2, 2)] hm rfl (by simp) (by simp -implicitDefEqProofs [nums]) (by simp -implicitDefEqProofs [qabg, qabh])) ⟨0, -1, rfl, by omega, rfl, rfl⟩ ?_)
 rintro s n ⟨i, b, rfl, h1, hb0, rfl⟩
 have hb := qagg k wd L xs i h1
 rw [← hb0] at hb
 unfold qafl
 rcases Nat.lt_or_ge i L.length with hi | hi
 ·have hsu : qai5 k wd L xs (i + 1) = if qal0 k wd L[i] xs && qafp L[i] L b then (i : Int) else b := by
   rw [← qai9 hi, hb0]; rfl
  replace hsu := Lib.hid hsu
  replace hb0 := Lib.hid hb0
  rcases hb with rfl | ⟨j, rfl, hj⟩
  ·
   repeat' (first | (with_reducible first | refine qaa1 ?_ | refine qabb ?_) | ((with_reducible refine qacp ?_ ?_); (focus rfl)) | ((with_reducible first | refine qaap ?_ | refine qabl (by rw [hP]; exact mixed) ?_); (try rw [hP]); simp -implicitDefEqProofs [qaao, nums, qabf, qabg, qabh, *]) | ((with_reducible refine qaa0 ?_); (try simp -implicitDefEqProofs [qaao, nums, qabf, qabg, qabh, *])) | ((with_reducible refine qaat rfl (fun h => ?_) (fun h => ?_)) <;> have h' := h <;> (try simp at h') <;> (try subst h')) | ((with_reducible refine qaci (fun h => ?_) (fun h => ?_)) <;> have h' := h <;> (try simp at h') <;> (try subst h') <;> simp -implicitDefEqProofs [qaao, nums, qabf, qabg, qabh, *]) | (refine qacx (qael (fits_s k ks wd ms L _ _ (hs _ (by simp)) (hok _ (by simp))) (fun σ => rfl) (fun σ => rfl) rfl 0 1 _ (by decide) (by simp) (by simp)) ⟨rfl, rfl, trivial⟩ ⟨rfl, rfl, trivial⟩ ?_; simp -implicitDefEqProofs [qaao, nums, qabf, qabg, qabh, *]) | ((rw [qabo (by omega) (by omega)]; refine qabm (qabc [(0, 0), (1, 1), (2, 2)] hm rfl (by simp) ?_ ?_) ⟨i + 1, i, rfl, by omega, ?_, rfl⟩ (by omega); (focus (simp -implicitDefEqProofs; done)); (focus (simp -implicitDefEqProofs [qabg, qabh]; done)))) | ((rw [qabo (by omega) (by omega)]; refine qabm (qabc [(0, 0), (1, 1), (2, 2)] hm rfl (by simp) ?_ ?_) ⟨i + 1, -1, rfl, by omega, ?_, rfl⟩ (by omega); (focus (simp -implicitDefEqProofs; done)); (focus (simp -implicitDefEqProofs [qabg, qabh]; done)))) | fail)
   all_goals (rw [hsu.out]; unfold qafp; (try simp_all) <;> omega)
  ·have hjL : j < L.length := by omega
   have hj0 : ¬ ((j : Int) < 0) := by omega
   repeat' (first | (with_reducible first | refine qaa1 ?_ | refine qabb ?_) | ((with_reducible refine qacp ?_ ?_); (focus rfl)) | ((with_reducible first | refine qaap ?_ | refine qabl (by rw [hP]; exact mixed) ?_); (try rw [hP]); simp -implicitDefEqProofs [qaao, nums, qabf, qabg, qabh, *]) | ((with_reducible refine qaa0 ?_); (try simp -implicitDefEqProofs [qaao, nums, qabf, qabg, qabh, *])) | ((with_reducible refine qaat rfl (fun h => ?_) (fun h => ?_)) <;> have h' := h <;> (try simp at h') <;> (try subst h')) | ((with_reducible refine qaci (fun h => ?_) (fun h => ?_)) <;> have h' := h <;> (try simp at h') <;> (try subst h') <;> simp -implicitDefEqProofs [qaao, nums, qabf, qabg, qabh, *]) | (refine qacx (qael (fits_s k ks wd ms L _ _ (hs _ (by simp)) (hok _ (by simp))) (fun σ => rfl) (fun σ => rfl) rfl 0 1 _ (by decide) (by simp) (by simp)) ⟨rfl, rfl, trivial⟩ ⟨rfl, rfl, trivial⟩ ?_; simp -implicitDefEqProofs [qaao, nums, qabf, qabg, qabh, *]) | ((rw [qabo (by omega) (by omega)]; refine qabm (qabc [(0, 0), (1, 1), (2, 2)] hm rfl (by simp) ?_ ?_) ⟨i + 1, i, rfl, by omega, ?_, rfl⟩ (by omega); (focus (simp -implicitDefEqProofs; done)); (focus (simp -implicitDefEqProofs [qabg, qabh]; done)))) | ((rw [qabo (by omega) (by omega)]; refine qabm (qabc [(0, 0), (1, 1), (2, 2)] hm rfl (by simp) ?_ ?_) ⟨i + 1, j, rfl, by omega, ?_, rfl⟩ (by omega); (focus (simp -implicitDefEqProofs; done)); (focus (simp -implicitDefEqProofs [qabg, qabh]; done)))) | fail)
   all_goals (rw [hsu.out]; unfold qafp; (try simp_all) <;> omega)
 ·obtain rfl : i = L.length := by omega
  rcases hb with rfl | ⟨j, rfl, hj⟩
  ·have hR : qanm k ks wd L xs = none := by unfold qanm; rw [hI, ← hb0]; rfl
   rw [hR]
   replace hb0 := Lib.hid hb0
   repeat' (first | (with_reducible refine qaa1 ?_) | ((with_reducible refine qaap ?_); (try rw [hP]); simp -implicitDefEqProofs [qaao, nums, qabf, qabg, qabh, *]) | ((with_reducible refine qaby ?_); (try simp -implicitDefEqProofs [qaao, nums, qabf, qabg, qabh, *])) | ((with_reducible refine qabd ?_); (try simp only [qaaz, qaad, qaag])) | ((with_reducible refine qaat rfl (fun h => ?_) (fun h => ?_)) <;> have h' := h <;> (try simp at h') <;> (try subst h')) | (exact qago X hP hm k ks wd ms L 0 [] 0 false _ _ _ hnil) | fail)
  ·have hR : qanm k ks wd L xs = some L[j] := by
    unfold qanm; rw [hI, ← hb0, if_pos (by omega)]; simp [hj]
   rw [hR]
   have hj0 : ¬ ((j : Int) < 0) := by omega
   replace hb0 := Lib.hid hb0
   repeat' (first | (with_reducible refine qaa1 ?_) | ((with_reducible refine qacp ?_ ?_); (focus rfl)) | ((with_reducible first | refine qaap ?_ | refine qabl (by rw [hP]; exact mixed) ?_); (try rw [hP]); simp -implicitDefEqProofs [qaao, nums, qabf, qabg, qabh, *]) | ((with_reducible first | refine qaa0 ?_ | refine qaby ?_); (try simp -implicitDefEqProofs [qaao, nums, qabf, qabg, qabh, *])) | ((with_reducible refine qabd ?_); (try simp only [qaaz, qaad, qaag])) | ((with_reducible refine qaat rfl (fun h => ?_) (fun h => ?_)) <;> have h' := h <;> (try simp at h') <;> (try subst h')) | (refine qab5 (qaj6 L[j] (hs _ (by simp)) _) ?_; simp -implicitDefEqProofs [qaao, nums, qabf, qabg, qabh, *]) | (exact qago X hP hm k ks wd ms L L[j].act L[j].args L[j].len true _ _ _ (.refl _)) | fail)
theorem rfind_s (k ks wd ms : Int) (L : List Entry) (xs : List Int) (hs : ∀ a ∈ L, qadd a) (hL : L.length ≤ 1000000) (hk2 : k = 2 → ks = 1) (hok : (xs.length : Int) = ks → ∀ a ∈ L, qawc k a xs) : SCalls Try.prog 40 [.ptr 0 0, nums .u64 xs] (qack k ks wd ms L) 2 (qalr (qanm k ks wd L xs)) (qack k ks wd ms L) := by
 refine qabe (N := 129) Try.func40 rfl rfl (by kernel_rfl) qajz (by simp) ⟨rfl, rfl, trivial⟩ (qac3 _ _ _ _ _) ?_
 rintro X hP hN hm
 have hnil : CoL [.int .i64 0, .nilsl] (qadj 0 []) := ⟨.refl _, Co.nilsl 1, trivial⟩
 by_cases hf : qajq k ks wd xs = true
 ·have hf2 := hf
  unfold qajq at hf2
  simp only [Bool.and_eq_true, decide_eq_true_eq, Bool.not_eq_true', Bool.and_eq_false_iff, beq_eq_false_iff_ne, Bool.or_eq_false_iff, decide_eq_false_iff_not] at hf2
  obtain ⟨rfl, hf3⟩ := hf2
  have b1 : k = 2 → ¬ wd < 1 := fun h => (hf3.resolve_left (fun h2 => h2 h)).1
  have b2 : k = 2 → ¬ 64 < wd := fun h => (hf3.resolve_left (fun h2 => h2 h)).2.1
  have b0 : k = 2 → 0 < xs.length := fun h => by have := hk2 h; omega
  have b3 : k = 2 → ∀ h : 0 < xs.length, qay7 xs[0] wd = false := fun h h2 => by
   have := (hf3.resolve_left (fun h2 => h2 h)).2.2
   rwa [qaep _ _ h2] at this
  have htail := Lib.hid fun tl nx => qan9 X hP hm k xs.length wd ms L xs hs hL (hok rfl) hf tl nx
  clear hk2 hok hf3 hf
  unfold c_rfind qack qabg qabh
  repeat' (first | ((exact htail.out _ _)) | (with_reducible refine qaa1 ?_) | ((with_reducible refine qacp ?_ ?_); (focus rfl)) | ((with_reducible first | refine qaap ?_ | refine qabl (by rw [hP]; exact mixed) ?_); (try rw [hP]); simp -implicitDefEqProofs [qaao, nums, qabf, qabg, qabh, *]) | ((with_reducible refine qaa0 ?_); (try simp -implicitDefEqProofs [qaao, nums, qabf, qabg, qabh, *])) | ((with_reducible refine qaat rfl (fun h => ?_) (fun h => ?_)) <;> have h' := h <;> (try simp at h') <;> (try subst h')) | ((with_reducible refine qaci (fun h => ?_) (fun h => ?_)) <;> have h' := h <;> (try simp at h') <;> (try subst h') <;> simp -implicitDefEqProofs [qaao, nums, qabf, qabg, qabh, *]) | (refine qab5 (qabt (qaxd _ _) (fun σ => rfl) (fun σ => rfl) rfl _) ?_; simp -implicitDefEqProofs [qaao, nums, qabf, qabg, qabh, *]) | fail)
 ·have hR : qanm k ks wd L xs = none := by unfold qanm findI; rw [if_neg hf]; rfl
  rw [hR]
  have hlt : k = 2 → (xs.length : Int) = ks → 0 < xs.length := fun h h2 => by have := hk2 h; omega
  clear hk2 hok
  unfold c_rfind qack qabg qabh
  repeat' (first | (with_reducible refine qaa1 ?_) | ((with_reducible refine qacp ?_ ?_); (focus rfl)) | ((with_reducible first | refine qaap ?_ | refine qabl (by rw [hP]; exact mixed) ?_); (try rw [hP]); simp -implicitDefEqProofs [qaao, nums, qabf, qabg, qabh, *]) | ((with_reducible refine qaa0 ?_); (try simp -implicitDefEqProofs [qaao, nums, qabf, qabg, qabh, *])) | ((with_reducible refine qabd ?_); (try simp only [qaaz, qaad, qaag])) | ((with_reducible refine qaat rfl (fun h => ?_) (fun h => ?_)) <;> have h' := h <;> (try simp at h') <;> (try subst h')) | ((with_reducible refine qaci (fun h => ?_) (fun h => ?_)) <;> have h' := h <;> (try simp at h') <;> (try subst h') <;> simp -implicitDefEqProofs [qaao, nums, qabf, qabg, qabh, *]) | (refine qab5 (qabt (qaxd _ _) (fun σ => rfl) (fun σ => rfl) rfl _) ?_; simp -implicitDefEqProofs [qaao, nums, qabf, qabg, qabh, *]) | (exact qago X hP hm _ _ _ _ L 0 [] 0 false _ _ _ hnil) | fail)
  all_goals (exfalso; apply hf; unfold qajq; simp_all [el])
end Go.Proofs.Yticeaegpkpjjeaa
namespace Go.Proofs.Yticeaegpkpjjeaa
set_option linter.all false
open Go.RowKit
attribute [local simp] qaam qaal qaab qaaf qaac qaae qaaj qaak qaaa qaax SOp.run SX.ev putd puts argS upds SOp.touch SSt.keep SSt.skip gets geth puth delh idOf SV.cells? setL qabu qabv sbin eq0 eq1 eqL qabs qaa9 qaba qaaz qaai qaad qaan qaay qaag qaah FrzOk qaa4 qaav qaa2 qaa3 qaaq qaau qaa7 qaaw qaas qaa5 qaar frzS frzH frz frz1 frz0 SlotsM ObjsM ObjM rn ren ren1 ren0 qabj qabq qabx qabi qaa8 qabr qabw CoL qaa6 qace dels adds idsH qab7 qabz qaco qacz qacw
theorem qadi : ∀ xs : List Int, qafr xs xs = 0
 | [] => rfl
 | x :: xs => by show (if x < x then (-1 : Int) else if x > x then 1 else qafr xs xs) = 0; rw [if_neg (by omega), if_neg (by omega)]; exact qadi xs
theorem qaff : ∀ xs ys : List Int, qafr ys xs = - qafr xs ys
 | [], [] => rfl
 | [], _ :: _ => rfl
 | _ :: _, [] => rfl
 | x :: xs, y :: ys => by
  show (if y < x then (-1 : Int) else if y > x then 1 else qafr ys xs) = - (if x < y then (-1 : Int) else if x > y then 1 else qafr xs ys)
  rw [qaff xs ys]
  (repeat' split) <;> omega
theorem qanj {a b : Entry} (h : qacb a b = true) : qacb b a = false := by
 unfold qacb at h ⊢
 have h1 := qaff a.keys b.keys
 have h2 := qaff a.masks b.masks
 rw [h1, h2]
 (repeat' split at h) <;> (repeat' split) <;> simp_all <;> omega
def qaj5 (S : List Entry) (n : Nat) (x : Entry) : Bool := match n with
 | 0 => true
 | m + 1 => match S[m]? with
  | some l => qacb l x
  | none => true
def qaw7 (S L : List Entry) (n i : Nat) (b : Int) : Prop :=
 (b = -1 ∧ ∀ j a, j < i → L[j]? = some a → qaj5 S n a = false) ∨ ∃ (k : Nat) (e : Entry), b = k ∧ k < i ∧ L[k]? = some e ∧ qaj5 S n e = true ∧ ∀ j a, j < i → L[j]? = some a → qaj5 S n a = true → qacb a e = false
theorem qagl {S : List Entry} (hS : S.Pairwise fun a b => qacb a b = true) {i j : Nat} (hij : i < j) (hj : j < S.length) : qacb S[i] S[j] = true := List.pairwise_iff_getElem.1 hS i j (by omega) hj hij
theorem qag5 {S : List Entry} (hS : S.Pairwise fun a b => qacb a b = true) {n m : Nat} (hn : n ≤ S.length) (hm : m < S.length) : qaj5 S n S[m] = true ↔ n ≤ m := by
 cases n with
 | zero => simp [qaj5]
 | succ k =>
  show (match S[k]? with | some l => qacb l S[m] | none => true) = true ↔ k + 1 ≤ m
  rw [List.getElem?_eq_getElem (by omega)]
  show qacb S[k] S[m] = true ↔ k + 1 ≤ m
  rcases Nat.lt_or_ge k m with h | h
  ·rw [qagl hS h hm]; simp; omega
  ·have : qacb S[k] S[m] = false := by
    rcases Nat.lt_or_ge m k with h2 | h2
    ·exact qanj (qagl hS h2 (by omega))
    ·obtain rfl : m = k := by omega
     unfold qacb; rw [if_pos rfl, if_pos (qadi _), if_pos rfl, qadi]; rfl
   rw [this]; simp; omega
theorem qav9 {S L : List Entry} (hS : S.Pairwise fun a b => qacb a b = true) (hp : S.Perm L) {n : Nat} (hn : n < S.length) {b : Int} (h : qaw7 S L n L.length b) : ∃ k : Nat, b = k ∧ L[k]? = some S[n] := by
 have mem : ∀ m (hm : m < S.length), ∃ j, j < L.length ∧ L[j]? = some S[m] := fun m hm => by
  obtain ⟨j, hj⟩ := List.getElem?_of_mem (hp.mem_iff.1 (List.getElem_mem hm))
  exact ⟨j, (List.getElem?_eq_some_iff.1 hj).1, hj⟩
 obtain ⟨j, hj, hjn⟩ := mem n hn
 rcases h with ⟨rfl, h⟩ | ⟨k, e, rfl, hk, he, hc, hb⟩
 ·have := h j _ hj hjn
  rw [(qag5 hS (by omega) hn).2 (Nat.le_refl _)] at this; cases this
 ·refine ⟨k, rfl, ?_⟩
  obtain ⟨m, hm0⟩ := List.getElem?_of_mem (hp.mem_iff.2 (List.mem_of_getElem? he))
  obtain ⟨hm, rfl⟩ := List.getElem?_eq_some_iff.1 hm0
  have h1 := (qag5 hS (by omega) hm).1 hc
  rcases Nat.lt_or_ge n m with h2 | h2
  ·have := hb j _ hj hjn ((qag5 hS (by omega) hn).2 (Nat.le_refl _))
   rw [qagl hS h2 hm] at this; cases this
  ·obtain rfl : m = n := by omega
   exact he
end Go.Proofs.Yticeaegpkpjjeaa
namespace Go.Proofs.Yticeaegpkpjjeaa
set_option linter.all false
open Go.RowKit
theorem qasu (g : Nat → Option SObj) (D : List Nat) (L : List Entry) : List.map ((fun x => List.map (frz0 g D) x) ∘ qaao) L = L.map qaao := rfl
attribute [local simp] qaam qaal qaab qaaf qaac qaae qaaj qaak qaaa qaax SOp.run SX.ev putd puts argS upds SOp.touch SSt.keep SSt.skip gets geth puth delh idOf SV.cells? setL qabu qabv sbin eq0 eq1 eqL qabs qaa9 qaba qaaz qaai qaad qaan qaay qaag qaah FrzOk qaa4 qaav qaa2 qaa3 qaaq qaau qaa7 qaaw qaas qaa5 qaar frzS frzH frz frz1 frz0 SlotsM ObjsM ObjM rn ren ren1 ren0 qabj qabq qabx qabi qaa8 qabr qabw CoL qaa6 qace dels adds idsH qab7 qabz qaco qacz qacw qasu
theorem qar6 (a b : Entry) (hs : qadd a) (q : Nat) : SCalls Try.prog 81 [.agg (qaao a), .agg (qaao b)] [] q (.bool (qacb a b)) [] := qabt (ahead_s a b hs) (fun σ => rfl) (fun σ => rfl) rfl q
theorem qay0 {S L : List Entry} {n i : Nat} {b : Int} (hi : i < L.length) (h : qaw7 S L n i b) (hc : qaj5 S n L[i] = false) : qaw7 S L n (i + 1) b := by
 rcases h with ⟨rfl, h⟩ | ⟨k, e, rfl, hk, he, hce, hb⟩
 ·exact .inl ⟨rfl, qad3 hi h hc⟩
 ·exact .inr ⟨k, e, rfl, by omega, he, hce, qad3 (P := fun a => qaj5 S n a = true → qacb a e = false) hi hb fun h => by rw [hc] at h; cases h⟩
theorem qav8 {S L : List Entry} {n i : Nat} {b : Int} (hi : i < L.length) (h : qaw7 S L n i b) (hc : qaj5 S n L[i] = true) (hb2 : b = -1 ∨ ∃ (k : Nat) (hk : k < L.length), b = k ∧ qacb L[i] L[k] = true) (hS : ∀ a ∈ L, ∀ c ∈ L, ∀ d ∈ L, qacb a c = true → qacb d c = false → qacb d a = false) : qaw7 S L n (i + 1) i := by
 refine .inr ⟨i, L[i], rfl, by omega, by simp [hi], hc, ?_⟩
 have hself : qacb L[i] L[i] = false := by unfold qacb; rw [if_pos rfl, if_pos (qadi _), if_pos rfl, qadi]; rfl
 rcases h with ⟨rfl, h⟩ | ⟨k, e, rfl, hk, he, hce, hb⟩
 ·exact qad3 (P := fun a => qaj5 S n a = true → qacb a L[i] = false) hi (fun j a hj ha hca => by rw [h j a hj ha] at hca; cases hca) fun _ => hself
 ·rcases hb2 with h2 | ⟨k2, hk2, h2, h3⟩
  ·omega
  ·obtain rfl : k = k2 := by omega
   rw [List.getElem?_eq_getElem hk2] at he; cases he
   exact qad3 (P := fun a => qaj5 S n a = true → qacb a L[i] = false) hi (fun j a hj ha hca => hS L[i] (List.getElem_mem _) L[k] (List.getElem_mem _) a (List.mem_of_getElem? ha) h3 (hb j a hj ha hca)) fun _ => hself
theorem qav7 {S L : List Entry} {n i : Nat} {k : Nat} (hi : i < L.length) (hk : k < L.length) (h : qaw7 S L n i k) (hn : qacb L[i] L[k] = false) : qaw7 S L n (i + 1) k := by
 rcases h with ⟨h1, h⟩ | ⟨k2, e, h1, hk2, he, hce, hb⟩
 ·omega
 ·obtain rfl : k = k2 := by omega
  rw [List.getElem?_eq_getElem hk] at he; cases he
  exact .inr ⟨k, L[k], rfl, by omega, by simp [hk], hce, qad3 (P := fun a => qaj5 S n a = true → qacb a L[k] = false) hi hb fun _ => hn⟩
theorem qae9 {S : List Entry} (hS : S.Pairwise fun a b => qacb a b = true) {i j : Nat} (hi : i < S.length) (hj : j < S.length) : qacb S[i] S[j] = true ↔ i < j := by
 have := qag5 hS (n := i + 1) (m := j) (by omega) hj
 unfold qaj5 at this
 simp only [List.getElem?_eq_getElem hi] at this
 exact this
theorem qase {S L : List Entry} (hS : S.Pairwise fun a b => qacb a b = true) (hp : S.Perm L) : ∀ a ∈ L, ∀ c ∈ L, ∀ d ∈ L, qacb a c = true → qacb d c = false → qacb d a = false := by
 intro a ha c hc d hd h1 h2
 obtain ⟨i, hi0⟩ := List.getElem?_of_mem (hp.mem_iff.2 ha)
 obtain ⟨j, hj0⟩ := List.getElem?_of_mem (hp.mem_iff.2 hc)
 obtain ⟨m, hm0⟩ := List.getElem?_of_mem (hp.mem_iff.2 hd)
 obtain ⟨hi, rfl⟩ := List.getElem?_eq_some_iff.1 hi0
 obtain ⟨hj, rfl⟩ := List.getElem?_eq_some_iff.1 hj0
 obtain ⟨hm, rfl⟩ := List.getElem?_eq_some_iff.1 hm0
 have k1 := (qae9 hS hi hj).1 h1
 have k2 : ¬ m < j := fun h => by rw [(qae9 hS hm hj).2 h] at h2; cases h2
 cases h3 : qacb S[m] S[i] with
 | false => rfl
 | true => have := (qae9 hS hm hi).1 h3; omega
set_option maxHeartbeats 4000000 in
theorem rall_s (k ks wd ms : Int) (L S : List Entry) (hs : ∀ a ∈ L, qadd a) (hL : L.length ≤ 1000000) (hS : S.Pairwise fun a b => qacb a b = true) (hp : S.Perm L) : SCalls Try.prog 42 [.ptr 0 0] (qack k ks wd ms L) 2 (ents S) (qack k ks wd ms L) := by
 refine qabe (N := 75) Try.func42 rfl rfl (by kernel_rfl) qamg (by simp) ⟨rfl, trivial⟩ (qac3 _ _ _ _ _) ?_
 rintro X hP hN hm
 have hlen : S.length = L.length := hp.length_eq
 have hsS : ∀ a ∈ S, qadd a := fun a ha => hs a (hp.mem_iff.1 ha)
 unfold c_rall qack qabg qabh
 repeat' (first | (with_reducible refine qaa1 ?_) | ((with_reducible refine qaap ?_); (try rw [hP]); simp -implicitDefEqProofs [*]) | fail)
 refine qaeh (qans 3 65 6 rfl) ?_
 refine qabk (qacn (fun s m => ∃ n : Nat, s = ⟨[(0, .ptr 0 0), (3, .own 2 n)], [(0, qabg k ks wd ms 1 L.length), (1, qabh L), (2, .row 65 6 ((S.take n).map qaao))], 3⟩ ∧ n ≤ L.length ∧ m = L.length - n) (qabc [(0, 0), (1, 1), (2, 4)] hm rfl (by simp) (by simp -implicitDefEqProofs) (by simp -implicitDefEqProofs [qabg, qabh])) ⟨0, rfl, by omega, rfl⟩ ?_)
 rintro s m ⟨n, rfl, hn, rfl⟩
 unfold qak6
 repeat' (first | (with_reducible first | refine qaa1 ?_ | refine qabb ?_) | ((with_reducible refine qaap ?_); (try rw [hP]); simp -implicitDefEqProofs [qaao, nums, qabg, qabh, *]) | ((with_reducible first | refine qaa0 ?_ | refine qaby ?_); (try simp -implicitDefEqProofs [qaao, nums, qabg, qabh, *])) | ((with_reducible refine qabd ?_); (try simp only [qaaz, qaad, qaag])) | ((with_reducible refine qaat rfl (fun h => ?_) (fun h => ?_)) <;> have h' := h <;> (try simp at h') <;> (try subst h')) | fail)
 ·have hnS : n < S.length := by omega
  have hsh := qase hS hp
  refine qabk (qacn (fun s m => ∃ (i : Nat) (b : Int), s = ⟨[(0, .ptr 0 0), (3, .own 2 n), (4, .int .i64 b), (5, .int .i64 i)], [(0, qabg k ks wd ms 1 L.length), (1, qabh L), (2, .row 65 6 ((S.take n).map qaao))], 3⟩ ∧ i ≤ L.length ∧ qaw7 S L n i b ∧ m = L.length - i) (qabc [(0, 0), (1, 1), (2, 2)] hm rfl (by simp) (by simp -implicitDefEqProofs) (by simp -implicitDefEqProofs [qabg, qabh])) ⟨0, -1, rfl, by omega, .inl ⟨rfl, by intro j a hj; omega⟩, rfl⟩ ?_)
  rintro s m ⟨i, b, rfl, h1, hb, rfl⟩
  unfold qak7
  rcases Nat.lt_or_ge i L.length with hi | hi
  ·have hbr : b = -1 ∨ ∃ k : Nat, b = k ∧ k < i := by
    rcases hb with ⟨h, _⟩ | ⟨k, _, h, h2, _⟩
    ·exact .inl h
    ·exact .inr ⟨k, h, h2⟩
   have hno := fun hc => qay0 hi hb hc
   have hnew := fun hc hb2 => qav8 hi hb hc hb2 hsh
   have hold := fun (k : Nat) (hk : k < L.length) (e : b = k) hn => qav7 (k := k) hi hk (by rw [← e]; exact hb) hn
   replace hno := Lib.hid hno
   replace hnew := Lib.hid hnew
   replace hold := Lib.hid hold
   replace hb := Lib.hid hb
   cases n with
   | zero =>
    have hcand : qaj5 S 0 L[i] = true := rfl
    replace hcand := Lib.hid hcand
    rcases hbr with rfl | ⟨q, rfl, hq⟩
    ·
     repeat' (first | (with_reducible first | refine qaa1 ?_ | refine qabb ?_) | ((with_reducible refine qacp ?_ ?_); (focus rfl)) | ((with_reducible first | refine qaap ?_ | refine qabl (by rw [hP]; exact mixed) ?_); (try rw [hP]); simp -implicitDefEqProofs [qaao, nums, qabg, qabh, *]) | ((with_reducible refine qaa0 ?_); (try simp -implicitDefEqProofs [qaao, nums, qabg, qabh, *])) | ((with_reducible refine qaat rfl (fun h => ?_) (fun h => ?_)) <;> have h' := h <;> (try simp at h') <;> (try subst h')) | ((rw [qabo (by omega) (by omega)]; refine qabm (qabc [(0, 0), (1, 1), (2, 2)] hm rfl (by simp) ?_ ?_) ⟨i + 1, i, rfl, by omega, ?_, rfl⟩ (by omega); (focus (simp -implicitDefEqProofs; done)); (focus (simp -implicitDefEqProofs [qabg, qabh]; done)))) | fail)
     all_goals first
      | exact hno.out (hcand.out.trans ‹_›)
      | exact hnew.out hcand.out (.inl rfl)
      | exact hnew.out hcand.out (.inr ⟨_, ‹_›, rfl, ‹_›⟩)
      | exact hnew.out (hcand.out.trans ‹_›) (.inl rfl)
      | exact hnew.out (hcand.out.trans ‹_›) (.inr ⟨_, ‹_›, rfl, ‹_›⟩)
      | exact hold.out _ ‹_› rfl ‹_›
    ·have hqL : q < L.length := by omega
     have hq0 : ¬ ((q : Int) < 0) := by omega
     repeat' (first | (with_reducible first | refine qaa1 ?_ | refine qabb ?_) | ((with_reducible refine qacp ?_ ?_); (focus rfl)) | ((with_reducible first | refine qaap ?_ | refine qabl (by rw [hP]; exact mixed) ?_); (try rw [hP]); simp -implicitDefEqProofs [qaao, nums, qabg, qabh, *]) | ((with_reducible refine qaa0 ?_); (try simp -implicitDefEqProofs [qaao, nums, qabg, qabh, *])) | ((with_reducible refine qaat rfl (fun h => ?_) (fun h => ?_)) <;> have h' := h <;> (try simp at h') <;> (try subst h')) | (refine qab5 (qar6 _ _ (by first | exact hs _ (by simp) | exact hsS _ (by simp)) _) ?_; simp -implicitDefEqProofs [qaao, nums, qabg, qabh, *]) | ((rw [qabo (by omega) (by omega)]; refine qabm (qabc [(0, 0), (1, 1), (2, 2)] hm rfl (by simp) ?_ ?_) ⟨i + 1, i, rfl, by omega, ?_, rfl⟩ (by omega); (focus (simp -implicitDefEqProofs; done)); (focus (simp -implicitDefEqProofs [qabg, qabh]; done)))) | ((rw [qabo (by omega) (by omega)]; refine qabm (qabc [(0, 0), (1, 1), (2, 2)] hm rfl (by simp) ?_ ?_) ⟨i + 1, q, rfl, by omega, ?_, rfl⟩ (by omega); (focus (simp -implicitDefEqProofs; done)); (focus (simp -implicitDefEqProofs [qabg, qabh]; done)))) | fail)
     all_goals first
      | exact hno.out (hcand.out.trans ‹_›)
      | exact hnew.out hcand.out (.inl rfl)
      | exact hnew.out hcand.out (.inr ⟨_, ‹_›, rfl, ‹_›⟩)
      | exact hnew.out (hcand.out.trans ‹_›) (.inl rfl)
      | exact hnew.out (hcand.out.trans ‹_›) (.inr ⟨_, ‹_›, rfl, ‹_›⟩)
      | exact hold.out _ ‹_› rfl ‹_›
   | succ m =>
    have hmS : m < S.length := by omega
    have hwm : IntKind.i64.wrap (m : Int) = m := IntWalk.i64_in _ ⟨by omega, by omega⟩
    have hcand : qaj5 S (m + 1) L[i] = qacb S[m] L[i] := by unfold qaj5; simp only [List.getElem?_eq_getElem hmS]
    replace hcand := Lib.hid hcand
    rcases hbr with rfl | ⟨q, rfl, hq⟩
    ·
     repeat' (first | (with_reducible first | refine qaa1 ?_ | refine qabb ?_) | ((with_reducible refine qacp ?_ ?_); (focus rfl)) | ((with_reducible first | refine qaap ?_ | refine qabl (by rw [hP]; exact mixed) ?_); (try rw [hP]); simp -implicitDefEqProofs [qaao, nums, qabg, qabh, *]) | ((with_reducible first | refine qaa0 ?_ | refine qaby ?_); (try simp -implicitDefEqProofs [qaao, nums, qabg, qabh, *])) | ((with_reducible refine qaat rfl (fun h => ?_) (fun h => ?_)) <;> have h' := h <;> (try simp at h') <;> (try subst h')) | ((with_reducible refine qaei ?_ ?_); (first | omega | (unfold maxLen; omega)); simp -implicitDefEqProofs [qaao, nums, qabg, qabh, *]) | (refine qab5 (qar6 _ _ (by first | exact hs _ (by simp) | exact hsS _ (by simp)) _) ?_; simp -implicitDefEqProofs [qaao, nums, qabg, qabh, *]) | ((rw [qabo (by omega) (by omega)]; refine qabm (qabc [(0, 0), (1, 1), (2, 2)] hm rfl (by simp) ?_ ?_) ⟨i + 1, i, rfl, by omega, ?_, rfl⟩ (by omega); (focus (simp -implicitDefEqProofs; done)); (focus (simp -implicitDefEqProofs [qabg, qabh]; done)))) | ((rw [qabo (by omega) (by omega)]; refine qabm (qabc [(0, 0), (1, 1), (2, 2)] hm rfl (by simp) ?_ ?_) ⟨i + 1, -1, rfl, by omega, ?_, rfl⟩ (by omega); (focus (simp -implicitDefEqProofs; done)); (focus (simp -implicitDefEqProofs [qabg, qabh]; done)))) | fail)
     all_goals first
      | exact hno.out (hcand.out.trans ‹_›)
      | exact hnew.out hcand.out (.inl rfl)
      | exact hnew.out hcand.out (.inr ⟨_, ‹_›, rfl, ‹_›⟩)
      | exact hnew.out (hcand.out.trans ‹_›) (.inl rfl)
      | exact hnew.out (hcand.out.trans ‹_›) (.inr ⟨_, ‹_›, rfl, ‹_›⟩)
      | exact hold.out _ ‹_› rfl ‹_›
    ·have hqL : q < L.length := by omega
     have hq0 : ¬ ((q : Int) < 0) := by omega
     repeat' (first | (with_reducible first | refine qaa1 ?_ | refine qabb ?_) | ((with_reducible refine qacp ?_ ?_); (focus rfl)) | ((with_reducible first | refine qaap ?_ | refine qabl (by rw [hP]; exact mixed) ?_); (try rw [hP]); simp -implicitDefEqProofs [qaao, nums, qabg, qabh, *]) | ((with_reducible first | refine qaa0 ?_ | refine qaby ?_); (try simp -implicitDefEqProofs [qaao, nums, qabg, qabh, *])) | ((with_reducible refine qaat rfl (fun h => ?_) (fun h => ?_)) <;> have h' := h <;> (try simp at h') <;> (try subst h')) | ((with_reducible refine qaei ?_ ?_); (first | omega | (unfold maxLen; omega)); simp -implicitDefEqProofs [qaao, nums, qabg, qabh, *]) | (refine qab5 (qar6 _ _ (by first | exact hs _ (by simp) | exact hsS _ (by simp)) _) ?_; simp -implicitDefEqProofs [qaao, nums, qabg, qabh, *]) | ((rw [qabo (by omega) (by omega)]; refine qabm (qabc [(0, 0), (1, 1), (2, 2)] hm rfl (by simp) ?_ ?_) ⟨i + 1, i, rfl, by omega, ?_, rfl⟩ (by omega); (focus (simp -implicitDefEqProofs; done)); (focus (simp -implicitDefEqProofs [qabg, qabh]; done)))) | ((rw [qabo (by omega) (by omega)]; refine qabm (qabc [(0, 0), (1, 1), (2, 2)] hm rfl (by simp) ?_ ?_) ⟨i + 1, q, rfl, by omega, ?_, rfl⟩ (by omega); (focus (simp -implicitDefEqProofs; done)); (focus (simp -implicitDefEqProofs [qabg, qabh]; done)))) | fail)
     all_goals first
      | exact hno.out (hcand.out.trans ‹_›)
      | exact hnew.out hcand.out (.inl rfl)
      | exact hnew.out hcand.out (.inr ⟨_, ‹_›, rfl, ‹_›⟩)
      | exact hnew.out (hcand.out.trans ‹_›) (.inl rfl)
      | exact hnew.out (hcand.out.trans ‹_›) (.inr ⟨_, ‹_›, rfl, ‹_›⟩)
      | exact hold.out _ ‹_› rfl ‹_›
  ·obtain rfl : i = L.length := by omega
   obtain ⟨q, rfl, hqe⟩ := qav9 hS hp hnS hb
   obtain ⟨hqL, hqe2⟩ := List.getElem?_eq_some_iff.1 hqe
   have hn1 : n ≤ S.length := by omega
   replace hb := Lib.hid hb
   have hz1 : n + 1 ≤ maxLen ∧ (n + 1) * 96 ≤ 140737488355328 := by unfold maxLen; omega
   repeat' (first | (with_reducible refine qaa1 ?_) | ((with_reducible refine qaap ?_); (try rw [hP]); simp -implicitDefEqProofs [qaao, nums, qabg, qabh, *]) | ((with_reducible refine qaby ?_); (try simp -implicitDefEqProofs [qaao, nums, qabg, qabh, *])) | ((with_reducible refine qaat rfl (fun h => ?_) (fun h => ?_)) <;> have h' := h <;> (try simp at h') <;> (try subst h')) | (refine qab5 (qaj6 S[n] (hsS _ (List.getElem_mem _)) _) ?_; simp -implicitDefEqProofs [qaao, nums, qabg, qabh, *]) | fail)
   have hrow : List.take (n + 1) (List.map qaao S) = List.take n (List.map qaao S) ++ [qaao S[n]] := by
    rw [← List.map_take, List.take_succ_eq_append_getElem hnS, List.map_append, List.map_take]; rfl
   exact qabm (qabc [(0, 0), (1, 1), (2, 27)] hm rfl (by simp) (by simp -implicitDefEqProofs) (by simp -implicitDefEqProofs [qabg, qabh]; rw [hrow]; exact .refl _)) ⟨n + 1, rfl, by omega, rfl⟩ (by omega)
 ·obtain rfl : n = S.length := by omega
  exact qabn (s' := ⟨[(2, ents S)], [(0, qabg k ks wd ms 1 L.length), (1, qabh L)], 2⟩) (wk_fz [2] [(0, 0), (1, 1)] hm rfl (by simp -implicitDefEqProofs [qafw]) rfl (by simp) (by simp -implicitDefEqProofs [ents]) (by simp -implicitDefEqProofs [qabg, qabh])) rfl ⟨rfl, rfl, trivial⟩ (by simp)
end Go.Proofs.Yticeaegpkpjjeaa
namespace Go.Proofs.Yticeaegpkpjjeaa
set_option linter.all false
open Go.RowKit
theorem qawm (L : List Entry) : ∀ x ∈ L.map qaao, x.all ok2 = true := by
 intro x hx
 obtain ⟨e, _, rfl⟩ := List.mem_map.1 hx
 rfl
theorem qagn {f : FuncId} {args : List SV} {r : SV} {k ks wd ms : Int} {L L' : List Entry} (h : SCalls Try.prog f (.ptr 0 0 :: args) (qack k ks wd ms L) 2 r (qack k ks wd ms L')) (ha : ∀ σ, args.map (ren σ) = args) (hr : ∀ σ, ren σ r = r) (hk : ok2 r = true)
  (a b q : Nat) (hab : a ≠ b) (haq : a < q) (hbq : b < q) : SCalls Try.prog f (.ptr a 0 :: args) (qabf a b k ks wd ms L) q r (qabf a b k ks wd ms L') := by
 have g0 : ∀ L, geth (qabf a b k ks wd ms L) a = some (qabg k ks wd ms b L.length) := fun L => by simp [qabf, geth]
 have g1 : ∀ L, geth (qabf a b k ks wd ms L) b = some (qabh L) := fun L => by simp [qabf, geth, hab]
 refine qad6 [a, b] h rfl (by simp [hab]) (by simp; omega) ?_ ⟨⟨_, g0 L, rfl, .refl _⟩, ⟨_, g1 L, rfl, rfl, ?_⟩, trivial⟩ (by simp [idsH, qack]) (hr _).symm hk ⟨⟨_, g0 L', rfl, rfl, rfl⟩, ⟨_, g1 L', rfl, rfl, qawm L', ?_⟩, trivial⟩ (by simp [idsH, qack]) rfl
 ·show _ = _ :: args.map _
  rw [ha]; rfl
 ·rw [qabz]; exact .refl _
 ·exact (qabz _ L').symm
theorem qan7 {f : FuncId} {args : List SV} {r : SV} {k ks wd ms : Int} {L L' : List Entry} (h : SCalls Try.prog f (.ptr 0 0 :: args) (qack k ks wd ms L) 2 r [(0, qabg k ks wd ms 2 L'.length), (2, qabh L')]) (ha : ∀ σ, args.map (ren σ) = args) (hr : ∀ σ, ren σ r = r) (hk : ok2 r = true)
  (a b q : Nat) (hab : a ≠ b) (haq : a < q) (hbq : b < q) : SCalls Try.prog f (.ptr a 0 :: args) (qabf a b k ks wd ms L) q r (qabf a q k ks wd ms L') := by
 have g0 : geth (qabf a b k ks wd ms L) a = some (qabg k ks wd ms b L.length) := by simp [qabf, geth]
 have g1 : geth (qabf a b k ks wd ms L) b = some (qabh L) := by simp [qabf, geth, hab]
 have g2 : geth (qabf a q k ks wd ms L') a = some (qabg k ks wd ms q L'.length) := by simp [qabf, geth]
 have g3 : geth (qabf a q k ks wd ms L') q = some (qabh L') := by simp [qabf, geth, Nat.ne_of_lt haq]
 have e2 : sg [a, b] q 2 = q := rfl
 refine qad6 [a, b] h rfl (by simp [hab]) (by simp; omega) ?_ ⟨⟨_, g0, rfl, .refl _⟩, ⟨_, g1, rfl, rfl, ?_⟩, trivial⟩ (by simp [idsH, qack]) (hr _).symm hk ⟨⟨_, g2, rfl, rfl, rfl⟩, ⟨qabh L', by rw [e2]; exact g3, rfl, rfl, qawm L', ?_⟩, trivial⟩ (by simp [idsH]) rfl
 ·show _ = _ :: args.map _
  rw [ha]; rfl
 ·rw [qabz]; exact .refl _
 ·exact (qabz _ L').symm
theorem qay5 (L : List Entry) (x : Entry) : (L ++ [x]).length = L.length + 1 := by simp
theorem raddY (k ks wd ms : Int) (L : List Entry) (e : Entry) (hs : ∀ a ∈ L, qadd a) (hse : qadd e) (hL : L.length ≤ 1000000) (hok : qawb k ks L) (h0 : addC k ks wd ms L e = 0) (a b q : Nat) (hab : a ≠ b) (haq : a < q) (hbq : b < q) :
  SCalls Try.prog 36 [.ptr a 0, .agg (qaao e)] (qabf a b k ks wd ms L) q (.int .i64 0) (qabf a q k ks wd ms (L ++ [qaha k e])) := by
 have := radd_s k ks wd ms L e hs hse hL hok
 rw [qar8 h0, h0, ← qay5] at this
 exact qan7 this (fun σ => rfl) (fun σ => rfl) rfl a b q hab haq hbq
theorem raddN (k ks wd ms : Int) (L : List Entry) (e : Entry) (hs : ∀ a ∈ L, qadd a) (hse : qadd e) (hL : L.length ≤ 1000000) (hok : qawb k ks L) (h0 : addC k ks wd ms L e ≠ 0) (a b q : Nat) (hab : a ≠ b) (haq : a < q) (hbq : b < q) :
  SCalls Try.prog 36 [.ptr a 0, .agg (qaao e)] (qabf a b k ks wd ms L) q (.int .i64 (addC k ks wd ms L e)) (qabf a b k ks wd ms L) := by
 have := radd_s k ks wd ms L e hs hse hL hok
 rw [addH_no h0] at this
 exact qagn this (fun σ => rfl) (fun σ => rfl) rfl a b q hab haq hbq
theorem rdropY (k ks wd ms : Int) (L : List Entry) (e : Entry) (hs : ∀ a ∈ L, qadd a) (hse : qadd e) (hL : L.length ≤ 1000000) (h0 : qai4 k ks wd L e = 0) (a b q : Nat) (hab : a ≠ b) (haq : a < q) (hbq : b < q) :
  SCalls Try.prog 39 [.ptr a 0, .agg (qaao e)] (qabf a b k ks wd ms L) q (.int .i64 0) (qabf a q k ks wd ms (qai3 k ks wd L e)) := by
 have := qawp k ks wd ms L e hs hse hL
 rw [show qazc k ks wd ms L e = [(0, qabg k ks wd ms 2 (qai3 k ks wd L e).length), (2, qabh (qai3 k ks wd L e))] from if_pos h0, h0] at this
 exact qan7 this (fun σ => rfl) (fun σ => rfl) rfl a b q hab haq hbq
theorem rdropN (k ks wd ms : Int) (L : List Entry) (e : Entry) (hs : ∀ a ∈ L, qadd a) (hse : qadd e) (hL : L.length ≤ 1000000) (h0 : qai4 k ks wd L e ≠ 0) (a b q : Nat) (hab : a ≠ b) (haq : a < q) (hbq : b < q) :
  SCalls Try.prog 39 [.ptr a 0, .agg (qaao e)] (qabf a b k ks wd ms L) q (.int .i64 (qai4 k ks wd L e)) (qabf a b k ks wd ms L) := by
 have := qawp k ks wd ms L e hs hse hL
 rw [show qazc k ks wd ms L e = qack k ks wd ms L from if_neg h0] at this
 exact qagn this (fun σ => rfl) (fun σ => rfl) rfl a b q hab haq hbq
theorem rchgA (k ks wd ms : Int) (L : List Entry) (e : Entry) (hs : ∀ a ∈ L, qadd a) (hse : qadd e) (hL : L.length ≤ 1000000) (a b q : Nat) (hab : a ≠ b) (haq : a < q) (hbq : b < q) :
  SCalls Try.prog 38 [.ptr a 0, .agg (qaao e)] (qabf a b k ks wd ms L) q (.int .i64 (chgC k ks wd L e)) (qabf a b k ks wd ms (chgL k ks wd L e)) :=
 qagn (rchg_s k ks wd ms L e hs hse hL) (fun σ => rfl) (fun σ => rfl) rfl a b q hab haq hbq
theorem qaoa (σ : Nat → Nat) (o : Option Entry) : ren σ (qalr o) = qalr o := by cases o <;> rfl
theorem rfindA (k ks wd ms : Int) (L : List Entry) (xs : List Int) (hs : ∀ a ∈ L, qadd a) (hL : L.length ≤ 1000000) (hk2 : k = 2 → ks = 1) (hok : (xs.length : Int) = ks → ∀ a ∈ L, qawc k a xs) (a b q : Nat) (hab : a ≠ b) (haq : a < q) (hbq : b < q) :
  SCalls Try.prog 40 [.ptr a 0, nums .u64 xs] (qabf a b k ks wd ms L) q (qalr (qanm k ks wd L xs)) (qabf a b k ks wd ms L) :=
 qael (rfind_s k ks wd ms L xs hs hL hk2 hok) (fun σ => rfl) (fun σ => qaoa σ _) (by cases qanm k ks wd L xs <;> rfl) a b q hab haq hbq
theorem rallA (k ks wd ms : Int) (L S : List Entry) (hs : ∀ a ∈ L, qadd a) (hL : L.length ≤ 1000000) (hS : S.Pairwise fun a b => qacb a b = true) (hp : S.Perm L) (a b q : Nat) (hab : a ≠ b) (haq : a < q) (hbq : b < q) :
  SCalls Try.prog 42 [.ptr a 0] (qabf a b k ks wd ms L) q (ents S) (qabf a b k ks wd ms L) :=
 qael (rall_s k ks wd ms L S hs hL hS hp) (fun σ => rfl) (fun σ => rfl) rfl a b q hab haq hbq
end Go.Proofs.Yticeaegpkpjjeaa
namespace Go.Proofs.Yticeaegpkpjjeaa
set_option linter.all false
open Go.RowKit
def entE (s : XSlot) : Entry := ⟨s.keys, [], 0, 0, s.act, s.args⟩
theorem qar4 (L : List Entry) (e : Entry) : 0 ≤ atI 1 L e ↔ ∃ x ∈ L, x.keys = e.keys := by
 have ho : ∀ a : Entry, oneB 1 a e = decide (a.keys = e.keys) := fun a => by unfold oneB; simp
 unfold atI
 constructor
 ·intro h
  split at h
  ·rename_i h1
   have := qae2 _ _ (show qac8 _ L.length < L.length from h1)
   split at this
   ·rename_i a ha
    rw [ho] at this
    exact ⟨a, List.mem_of_getElem? ha, by simpa using this⟩
   ·cases this
  ·omega
 ·rintro ⟨x, hx, hk⟩
  obtain ⟨i, hi, rfl⟩ := List.mem_iff_getElem.1 hx
  split
  ·omega
  ·rename_i h1
   have h9 : atN 1 L e = L.length := Nat.le_antisymm (qagz _ _) (by omega)
   have h2 := qaoz _ _ h9 i hi
   simp only [List.getElem?_eq_getElem hi] at h2
   rw [ho] at h2
   simp [hk] at h2
structure RelX (k m : Int) (S : XTab) (L : List Entry) : Prop where
 inv : XInv k m S
 perm : ((qadq S).map entE).Perm L
theorem RelX.len {k m : Int} {S : XTab} {L : List Entry} (h : RelX k m S L) : L.length = cnt S := by
 rw [← h.perm.length_eq, List.length_map, qag0]
theorem qafd {k m : Int} {S : XTab} {L : List Entry} (h : RelX k m S L) (e : Entry) : 0 ≤ atI 1 L e ↔ (qab4 S e.keys).2 = true := by
 rw [qar4, qahi h.inv]
 constructor
 ·rintro ⟨x, hx, hk⟩
  obtain ⟨s, hs, rfl⟩ := List.mem_map.1 (h.perm.mem_iff.2 hx)
  exact ⟨s, hs, hk⟩
 ·rintro ⟨s, hs, hk⟩
  exact ⟨entE s, h.perm.mem_iff.1 (List.mem_map.2 ⟨s, hs, rfl⟩), hk⟩
theorem may1 (k wd : Int) (e : Entry) : mayC 1 k wd e = if (e.keys.length : Int) = k then 0 else 2 := by unfold mayC; rw [if_pos rfl]
theorem qae6 {k m wd : Int} {S : XTab} {L : List Entry} (h : RelX k m S L) (e : Entry) : chgC 1 k wd L e = qaf4 k S e.keys := by
 unfold chgC qaf4
 rw [may1]
 by_cases h1 : (e.keys.length : Int) = k
 ·rw [if_pos h1, if_pos rfl, if_neg (show ¬ ((e.keys.length : Int) ≠ k) from fun h => h h1)]
  by_cases h2 : 0 ≤ atI 1 L e
  ·rw [if_pos h2, if_pos ((qafd h e).1 h2)]
  ·rw [if_neg h2, if_neg fun h3 => h2 ((qafd h e).2 h3)]
 ·rw [if_neg h1, if_neg (by decide), if_pos h1]
theorem qalk {k m wd : Int} (hm : m ≤ 1000) {S : XTab} {L : List Entry} (h : RelX k m S L) (e : Entry) : addC 1 k wd m L e = qaj9 k m S e.keys := by
 unfold addC qaj9
 rw [may1]
 have hn := qasq hm
 have hb := qahj m
 have hl := h.inv.len
 have hc := h.len
 by_cases h1 : (e.keys.length : Int) = k
 ·rw [if_pos h1, if_pos rfl, if_neg (show ¬ ((e.keys.length : Int) ≠ k) from fun h => h h1)]
  by_cases h2 : 0 ≤ atI 1 L e
  ·rw [if_pos h2, if_pos ((qafd h e).1 h2)]
  ·rw [if_neg h2, if_neg fun h3 => h2 ((qafd h e).2 h3), if_neg (show ¬ ((1 : Int) = 3 ∧ (L.any fun a => qagu k.toNat a e) = true) from fun h => absurd h.1 (by decide))]
   by_cases h3 : m ≤ L.length
   ·rw [if_pos h3, if_pos (.inl (by omega))]
   ·rw [if_neg h3, if_neg (by omega)]
 ·rw [if_neg h1, if_neg (by decide), if_pos h1]
end Go.Proofs.Yticeaegpkpjjeaa
namespace Go.Proofs.Yticeaegpkpjjeaa
set_option linter.all false
open Go.RowKit
theorem qahq {k m : Int} {S : XTab} (h : XInv k m S) : ((qadq S).map entE).Nodup := by
 rw [List.nodup_iff_pairwise_ne, List.pairwise_map]
 exact (qahr h).imp fun {a b} hne e => hne (congrArg Entry.keys e)
theorem qaoe {k m : Int} {S : XTab} {L : List Entry} (hi : XInv k m S) (hn : L.Nodup) (hm : ∀ x, (∃ s ∈ qadq S, entE s = x) ↔ x ∈ L) : RelX k m S L :=
 ⟨hi, (List.perm_ext_iff_of_nodup (qahq hi) hn).2 fun x => by rw [List.mem_map]; exact hm x⟩
theorem RelX.nodup {k m : Int} {S : XTab} {L : List Entry} (h : RelX k m S L) : L.Nodup := h.perm.nodup_iff.1 (qahq h.inv)
theorem RelX.mem {k m : Int} {S : XTab} {L : List Entry} (h : RelX k m S L) (x : Entry) : (∃ s ∈ qadq S, entE s = x) ↔ x ∈ L := by
 rw [← h.perm.mem_iff, List.mem_map]
theorem qajr {S : XTab} {r : Nat} (hr : S[r]? = some none) (s t : XSlot) : t ∈ qadq (S.set r (some s)) ↔ t = s ∨ t ∈ qadq S := by
 have hl := qab8 hr
 rw [qabp, qabp]
 constructor
 ·rintro ⟨j, hj⟩
  rw [qab2 hl] at hj
  split at hj
  ·cases hj; exact .inl rfl
  ·exact .inr ⟨j, hj⟩
 ·rintro (rfl | ⟨j, hj⟩)
  ·exact ⟨r, by rw [qab2 hl, if_pos rfl]⟩
  ·refine ⟨j, ?_⟩
   rw [qab2 hl, if_neg fun e => by rw [e, hr] at hj; cases hj]; exact hj
theorem qay4 {k m wd : Int} (hm : m ≤ 1000) {S : XTab} {L : List Entry} (h : RelX k m S L) (e : Entry) (he : e.keys.length ≤ 1000000 ∧ e.args.length ≤ 1000000) : RelX k m (addX k m S ⟨e.keys, e.act, e.args⟩) (if addC 1 k wd m L e = 0 then L ++ [qaha 1 e] else L) := by
 rw [qalk hm h]
 unfold addX
 by_cases h0 : qaj9 k m S e.keys = 0
 ·rw [if_pos h0, if_pos h0]
  obtain ⟨h1, h2⟩ := qaj8 h.inv (s := ⟨e.keys, e.act, e.args⟩) he h0
  have hno : ∀ x ∈ L, x.keys ≠ e.keys := fun x hx hk => by
   have : (qab4 S e.keys).2 = true := (qafd h e).1 ((qar4 L e).2 ⟨x, hx, hk⟩)
   unfold qaj9 at h0
   rw [if_pos this] at h0
   split at h0 <;> cases h0
  refine qaoe h1 ?_ fun x => ?_
  ·rw [List.nodup_append]
   refine ⟨h.nodup, by simp, fun a ha b hb e1 => ?_⟩
   obtain rfl : b = qaha 1 e := by simpa using hb
   exact hno a ha (by rw [e1]; rfl)
  ·rw [List.mem_append, ← h.mem x, List.mem_singleton]
   constructor
   ·rintro ⟨s, hs, rfl⟩
    rcases (qajr h2 _ _).1 hs with rfl | hs
    ·exact .inr rfl
    ·exact .inl ⟨s, hs, rfl⟩
   ·rintro (⟨s, hs, rfl⟩ | rfl)
    ·exact ⟨s, (qajr h2 _ _).2 (.inr hs), rfl⟩
    ·exact ⟨_, (qajr h2 _ _).2 (.inl rfl), rfl⟩
 ·rw [if_neg h0, if_neg h0]; exact h
end Go.Proofs.Yticeaegpkpjjeaa
namespace Go.Proofs.Yticeaegpkpjjeaa
set_option linter.all false
open Go.RowKit
theorem qaw5 {L : List Entry} {e : Entry} (h : 0 ≤ atI 1 L e) : ∃ hj : atN 1 L e < L.length, (L[atN 1 L e]).keys = e.keys := by
 unfold atI at h
 split at h
 ·rename_i h1
  have := qae2 _ _ (show qac8 _ L.length < L.length from h1)
  refine ⟨h1, ?_⟩
  split at this
  ·rename_i a ha
   have e1 : L[atN 1 L e]? = some a := ha
   rw [List.getElem?_eq_getElem h1] at e1
   obtain rfl := Option.some.inj e1
   unfold oneB at this
   simpa using this
  ·cases this
 ·omega
theorem qaji {k m : Int} {S : XTab} {L : List Entry} (h : RelX k m S L) {x y : Entry} (hx : x ∈ L) (hy : y ∈ L) (e : x.keys = y.keys) : x = y := by
 obtain ⟨s, hs, rfl⟩ := (h.mem x).2 hx
 obtain ⟨t, ht, rfl⟩ := (h.mem y).2 hy
 rw [qae4 h.inv hs ht e]
theorem qas1 {k m wd : Int} {S : XTab} {L : List Entry} (h : RelX k m S L) (e : Entry) : RelX k m (drpX k S e.keys) (qai3 1 k wd L e) := by
 unfold drpX qai3
 have hc : qai4 1 k wd L e = qaf4 k S e.keys := qae6 h e
 rw [hc]
 by_cases h0 : qaf4 k S e.keys = 0
 ·rw [if_pos h0, if_pos h0]
  have hp : (qab4 S e.keys).2 = true := by
   unfold qaf4 at h0
   split at h0
   ·cases h0
   ·split at h0
    ·assumption
    ·cases h0
  obtain ⟨s, hs, hk⟩ := qacs _ _ hp
  have hj : S[(qab4 S e.keys).1]? = some (some s) := hs
  obtain ⟨d1, d2, d3⟩ := qax7 h.inv hj
  obtain ⟨hi, hik⟩ := qaw5 ((qafd h e).2 hp)
  generalize atN 1 L e = i at hi hik
  rw [← List.eraseIdx_eq_take_drop_succ]
  have hsL : entE s ∈ L := (h.mem _).1 ⟨s, qabp.2 ⟨_, hj⟩, rfl⟩
  have hLi : L[i] = entE s := qaji h (List.getElem_mem hi) hsL (by rw [hik, ← hk]; rfl)
  refine qaoe d1 (h.nodup.sublist (List.eraseIdx_sublist ..)) fun x => ?_
  rw [List.mem_eraseIdx_iff_getElem]
  constructor
  ·rintro ⟨t, ht, rfl⟩
   obtain ⟨j, hjn, hjt⟩ := (d2 t).1 (qabp.1 ht)
   obtain ⟨i', hi', e1⟩ := List.mem_iff_getElem.1 ((h.mem _).1 ⟨t, qabp.2 ⟨j, hjt⟩, rfl⟩)
   refine ⟨i', hi', fun e2 => ?_, e1⟩
   subst e2
   rw [hLi] at e1
   have := qae4 h.inv (qabp.2 ⟨_, hj⟩) (qabp.2 ⟨j, hjt⟩) (congrArg Entry.keys e1)
   subst this
   have := h.inv.pinv.uniq j _ s s (by have := qab8 hjt; omega) (by have := qab8 hj; omega) hjt hj rfl
   exact hjn this
  ·rintro ⟨i', hi', hne, rfl⟩
   obtain ⟨t, ht, e1⟩ := (h.mem _).2 (List.getElem_mem hi')
   obtain ⟨j, hjt⟩ := qabp.1 ht
   refine ⟨t, qabp.2 ((d2 t).2 ⟨j, fun e2 => ?_, hjt⟩), e1⟩
   subst e2
   rw [hj] at hjt
   obtain rfl := Option.some.inj (Option.some.inj hjt)
   exact hne ((List.getElem_inj h.nodup).1 (by rw [← e1, hLi]))
 ·rw [if_neg h0, if_neg h0]; exact h
end Go.Proofs.Yticeaegpkpjjeaa
namespace Go.Proofs.Yticeaegpkpjjeaa
set_option linter.all false
open Go.RowKit
theorem qaxh (l : List Entry) (i : Nat) (hi : i < l.length) (y : Entry) : (l.set i y).Perm (y :: l.eraseIdx i) := by
 rw [List.eraseIdx_eq_take_drop_succ, List.set_eq_take_append_cons_drop, if_pos hi]
 exact List.perm_middle
theorem qaye {k m wd : Int} {S : XTab} {L : List Entry} (h : RelX k m S L) (e : Entry) (he : e.keys.length ≤ 1000000 ∧ e.args.length ≤ 1000000) : RelX k m (chgX k S ⟨e.keys, e.act, e.args⟩) (chgL 1 k wd L e) := by
 unfold chgX chgL
 rw [qae6 h e]
 by_cases h0 : qaf4 k S e.keys = 0
 ·rw [if_pos h0, if_pos h0]
  have hp : (qab4 S e.keys).2 = true := by
   unfold qaf4 at h0
   split at h0
   ·cases h0
   ·split at h0
    ·assumption
    ·cases h0
  obtain ⟨s, hs, hk⟩ := qacs _ _ hp
  have hj : S[(qab4 S e.keys).1]? = some (some s) := hs
  have hjl := qab8 hj
  obtain ⟨hi, hik⟩ := qaw5 ((qafd h e).2 hp)
  have hsL : entE s ∈ L := (h.mem _).1 ⟨s, qabp.2 ⟨_, hj⟩, rfl⟩
  have hLi : L[atN 1 L e] = entE s := qaji h (List.getElem_mem hi) hsL (by rw [hik, ← hk]; rfl)
  generalize atN 1 L e = i at hi hik hLi
  have hpm := qaxh L i hi (qaha 1 e)
  have hno : ∀ x ∈ L.eraseIdx i, x.keys ≠ e.keys := fun x hx hxk => by
   obtain ⟨i', hi', hne, rfl⟩ := List.mem_eraseIdx_iff_getElem.1 hx
   have := qaji h (List.getElem_mem hi') (List.getElem_mem hi) (by rw [hxk, hik])
   exact hne ((List.getElem_inj h.nodup).1 this)
  refine qaoe (qayf h.inv he hj hk.symm) (hpm.nodup_iff.2 (List.nodup_cons.2 ⟨fun hx => hno _ hx rfl, h.nodup.sublist (List.eraseIdx_sublist ..)⟩)) fun x => ?_
  rw [hpm.mem_iff, List.mem_cons]
  constructor
  ·rintro ⟨t, ht, rfl⟩
   obtain ⟨j, hjt⟩ := qabp.1 ht
   rw [qab2 hjl] at hjt
   split at hjt
   ·cases hjt; exact .inl rfl
   ·rename_i hne
    right
    obtain ⟨i', hi', e1⟩ := List.mem_iff_getElem.1 ((h.mem _).1 ⟨t, qabp.2 ⟨j, hjt⟩, rfl⟩)
    rw [List.mem_eraseIdx_iff_getElem]
    refine ⟨i', hi', fun e2 => ?_, e1⟩
    subst e2
    rw [hLi] at e1
    have := qae4 h.inv (qabp.2 ⟨_, hj⟩) (qabp.2 ⟨j, hjt⟩) (congrArg Entry.keys e1)
    subst this
    exact hne (h.inv.pinv.uniq j _ s s (by have := qab8 hjt; omega) (by omega) hjt hj rfl)
  ·rintro (rfl | hx)
   ·exact ⟨_, qabp.2 ⟨_, by rw [qab2 hjl, if_pos rfl]⟩, rfl⟩
   ·have hxk := hno x hx
    obtain ⟨i', hi', hne, rfl⟩ := List.mem_eraseIdx_iff_getElem.1 hx
    obtain ⟨t, ht, e1⟩ := (h.mem _).2 (List.getElem_mem hi')
    obtain ⟨j, hjt⟩ := qabp.1 ht
    refine ⟨t, qabp.2 ⟨j, ?_⟩, e1⟩
    rw [qab2 hjl, if_neg fun e2 => ?_]
    ·exact hjt
    ·subst e2
     rw [hj] at hjt
     obtain rfl := Option.some.inj (Option.some.inj hjt)
     rw [← e1] at hxk
     exact hxk hk
 ·rw [if_neg h0, if_neg h0]; exact h
end Go.Proofs.Yticeaegpkpjjeaa
namespace Go.Proofs.Yticeaegpkpjjeaa
set_option linter.all false
open Go.RowKit
theorem qahn : ∀ xs ys : List Int, qafr xs ys = cmpL xs ys
 | [], [] => rfl
 | [], _ :: _ => rfl
 | _ :: _, [] => rfl
 | x :: xs, y :: ys => by
  have ih := qahn xs ys
  simp only [qafr, cmpL, ih]
  unfold cmpI
  by_cases h1 : x < y
  ·simp [h1]
  ·by_cases h2 : y < x
   ·simp [h1, h2]
   ·simp [h1, h2]
theorem fitsB1 (wd : Int) (e : Entry) (xs : List Int) : qal0 1 wd e xs = decide (e.keys = xs) := by
 unfold qal0
 rw [if_pos rfl]
theorem qaiz (wd : Int) (L : List Entry) (xs : List Int) : ∀ i, i ≤ L.length → (qai5 1 wd L xs i = -1 ∧ ∀ j (hj : j < L.length), j < i → L[j].keys ≠ xs) ∨ ∃ (b : Nat) (hb : b < L.length), qai5 1 wd L xs i = b ∧ L[b].keys = xs
 | 0, _ => .inl ⟨rfl, fun j _ hj => absurd hj (by omega)⟩
 | i + 1, h => by
  have ih := qaiz wd L xs i (by omega)
  have hi : i < L.length := by omega
  have e : qai5 1 wd L xs (i + 1) = qay8 1 wd L xs i (qai5 1 wd L xs i) := rfl
  rw [qai9 hi, fitsB1] at e
  by_cases hx : L[i].keys = xs
  ·rcases ih with ⟨h1, h2⟩ | ⟨b, hb, h1, h2⟩
   ·rw [h1, decide_eq_true hx, Bool.true_and, if_pos (by simp [qafp])] at e
    exact .inr ⟨i, hi, e, hx⟩
   ·by_cases hc : (decide (L[i].keys = xs) && qafp L[i] L (qai5 1 wd L xs i)) = true
    ·rw [if_pos hc] at e; exact .inr ⟨i, hi, e, hx⟩
    ·rw [if_neg hc] at e; exact .inr ⟨b, hb, e.trans h1, h2⟩
  ·rw [decide_eq_false hx, Bool.false_and, if_neg (by decide)] at e
   rcases ih with ⟨h1, h2⟩ | ⟨b, hb, h1, h2⟩
   ·refine .inl ⟨e.trans h1, fun j hj hji => ?_⟩
    rcases Nat.lt_or_ge j i with h3 | h3
    ·exact h2 j hj h3
    ·obtain rfl : j = i := by omega
     exact hx
   ·exact .inr ⟨b, hb, e.trans h1, h2⟩
theorem qasx {k m wd : Int} {S : XTab} {L : List Entry} (h : RelX k m S L) (xs : List Int) : qanm 1 k wd L xs = (qadv k S xs).map entE := by
 unfold qanm findI
 have hfo : qajq 1 k wd xs = decide ((xs.length : Int) = k) := by simp [qajq]
 rw [hfo]
 by_cases hx : (xs.length : Int) = k
 ·rw [decide_eq_true hx, if_pos rfl]
  rcases qaiz wd L xs L.length (Nat.le_refl _) with ⟨h1, h2⟩ | ⟨b, hb, h1, h2⟩
  ·rw [h1, if_neg (by decide), qafz h.inv fun s hs e => ?_]
   ·rfl
   ·obtain ⟨j, hj, e2⟩ := List.mem_iff_getElem.1 ((h.mem _).1 ⟨s, hs, rfl⟩)
    exact h2 j hj hj (by rw [e2]; exact e)
  ·rw [h1, if_pos (by omega), Int.toNat_natCast, List.getElem?_eq_getElem hb]
   obtain ⟨s, hs, e2⟩ := (h.mem _).2 (List.getElem_mem hb)
   have e3 : s.keys = xs := by rw [← h2, ← e2]; rfl
   rw [← e3, qafy h.inv hs, ← e2]; rfl
 ·rw [decide_eq_false hx, if_neg (show ¬ (0 ≤ if false = true then qai5 1 wd L xs L.length else -1) by simp)]
  unfold qadv
  rw [if_pos (show (xs.length : Int) ≠ k from hx)]; rfl
theorem qay1 {k m : Int} {S : XTab} {L : List Entry} (h : RelX k m S L) : ((qaln S).map entE).Perm L := ((qad5 S).map _).trans h.perm
theorem qanu {k m : Int} {S : XTab} (h : XInv k m S) : (qaln S).Pairwise fun a b => a.keys ≠ b.keys :=
 (qahr h).perm (qad5 S).symm fun h e => h e.symm
theorem qar5 {k m : Int} {S : XTab} (h : XInv k m S) : ((qaln S).map entE).Pairwise fun a b => qacb a b = true := by
 rw [List.pairwise_map]
 have h1 := qafa S
 have h2 := qanu h
 refine (h1.and h2).imp fun {a b} hab => ?_
 have e1 : ¬ cmpL b.keys a.keys < 0 := hab.1
 have e2 := qacq a.keys b.keys
 have e3 : cmpL a.keys b.keys ≠ 0 := fun h => hab.2 ((qaec _ _).1 h)
 unfold qacb entE
 simp only [qahn]
 rw [if_pos trivial, if_neg e3, decide_eq_true (show cmpL a.keys b.keys < 0 by omega)]
theorem qan5 {P : Program} {f : FuncId} {args : List SV} {h1 h2 : Hp} {q : Nat} {r r' : SV} (h : SCalls P f args h1 q r h2) (hc : Co r r') : SCalls P f args h1 q r' h2 :=
 ⟨h.1, fun O ρ fp w vs hok hargs hfr => (h.2 O ρ fp w vs hok hargs hfr).mono fun e w' hh => by
  obtain ⟨v, ρ', fp', e1, q1, q2, q3⟩ := hh
  exact ⟨v, ρ', fp', e1, q1, hc _ _ _ _ q2, q3⟩⟩
theorem coL_at : ∀ {xs ys : List SV} {j : Nat} {y : SV}, CoL xs ys → ys[j]? = some y → ∃ x, xs[j]? = some x ∧ Co x y
 | x :: xs, y :: ys, 0, _, h, hy => by cases hy; exact ⟨x, rfl, h.1⟩
 | x :: xs, y :: ys, j + 1, _, h, hy => coL_at (xs := xs) (ys := ys) (j := j) h.2 (by simpa using hy)
 | [], [], _, _, _, hy => by simp at hy
 | [], _ :: _, _, _, h, _ => h.elim
 | _ :: _, [], _, _, h, _ => h.elim
theorem qaw3 : ∀ {xs ys : List (List SV)} {j : Nat} {y : List SV}, CoLL xs ys → ys[j]? = some y → ∃ x, xs[j]? = some x ∧ CoL x y
 | x :: xs, y :: ys, 0, _, h, hy => by cases hy; exact ⟨x, rfl, h.1⟩
 | x :: xs, y :: ys, j + 1, _, h, hy => qaw3 (xs := xs) (ys := ys) (j := j) h.2 (by simpa using hy)
 | [], [], _, _, _, hy => by simp at hy
 | [], _ :: _, _, _, h, _ => h.elim
 | _ :: _, [], _, _, h, _ => h.elim
theorem qayb {z : Nat} {xs ys : List (List SV)} (h : CoLL xs ys) : Co (.view z xs) (.view z ys) := fun w A ρ v hv => by
 cases hv with
 | view0 hc ha =>
  have : ys = [] := List.eq_nil_of_length_eq_zero (by rw [← h.length]; rfl)
  subst this; exact .view0 hc ha
 | view cv hn hc hm hA hb hs h1 h2 ho =>
  refine .view cv (by rw [← h.length]; exact hn) hc hm hA hb (h.sizes hs) (fun i e j x he hx => ?_) (fun i e j x he hx => ?_) (fun i e j x he hx => ?_)
  all_goals
   obtain ⟨e', he', hl⟩ := qaw3 h he
   obtain ⟨x', hx', hc'⟩ := coL_at hl hx
  ·exact h1 i e' j x' he' hx'
  ·exact hc' _ _ _ _ (h2 i e' j x' he' hx')
  ·exact ho i e' j x' he' hx'
theorem qapb : ∀ l : List XSlot, CoLL (l.map xec) ((l.map entE).map qaao)
 | [] => trivial
 | s :: l => ⟨⟨Co.refl _, Co.nilsl 1, Co.refl _, Co.refl _, Co.refl _, Co.refl _, trivial⟩, qapb l⟩
theorem co_xecs (l : List XSlot) : Co (.view 6 (l.map xec)) (ents (l.map entE)) := qayb (qapb l)
theorem xall_c (k m : Int) (hm : m ≤ 1000) (S : XTab) (h : XInv k m S) (id q : Nat) : SCalls Try.prog 30 [.ptr id 0] [(id, .abs (xA k m S))] q (ents ((qaln S).map entE)) [(id, .abs (xA k m S))] :=
 qan5 (xall_b k m hm S h id q) (co_xecs _)
end Go.Proofs.Yticeaegpkpjjeaa
namespace Go.Proofs.Yticeaegpkpjjeaa
set_option linter.all false
open Go.RowKit
attribute [local simp] qaam qaal qaab qaaf qaac qaae qaaj qaak qaaa qaax SOp.run SX.ev putd puts argS upds SOp.touch SSt.keep SSt.skip gets geth puth delh idOf SV.cells? setL qabu qabv sbin eq0 eq1 eqL qabs qaa9 qaba qaaz qaai qaad qaan qaay qaag qaah FrzOk qaa4 qaav qaa2 qaa3 qaaq qaau qaa7 qaaw qaas qaa5 qaar frzS frzH frz frz1 frz0 SlotsM ObjsM ObjM rn ren ren1 ren0 qabj qabq qabx qabi qaa8 qabr qabw CoL qaa6 qace dels adds idsH qab7
attribute [local simp] qabz qaco qacz qacw
theorem qaf5 (l : List TStep) (q : Nat) : SCalls Try.prog 25 [qade l] [] q (.bool (bigS l)) [] := qabt (great_s l) (fun σ => rfl) (fun σ => rfl) rfl q
def qag6 : SCode := (.seq (.reg false qacm [2, 7, 8, 9, 10, 11, 12, 13, 14]) (.seq (.reg false qagb [2, 7, 8, 9, 10, 11, 12, 13, 14, 15, 17]) (.seq (.reg true qaga [2, 7, 8, 9, 145]) (.cond (.t 145) (.seq (.reg false qaf9 [6]) .ret) .skip))))
theorem qahg {k m : Int} {S : XTab} {L : List Entry} (h : RelX k m S L) : ∀ a ∈ L, qadd a := fun a ha => by
 obtain ⟨s, hs, rfl⟩ := (h.mem a).2 ha
 obtain ⟨j, hj⟩ := qabp.1 hs
 have := h.inv.small j s hj
 exact ⟨this.1, by simp [entE], this.2⟩
theorem qal2 {k m : Int} {S : XTab} (h : XInv k m S) (xs : List Int) {s : XSlot} (he : qadv k S xs = some s) : s.args.length ≤ 1000000 := by
 by_cases hx : ∃ t ∈ qadq S, t.keys = xs
 ·obtain ⟨t, ht, rfl⟩ := hx
  rw [qafy h ht] at he
  cases he
  obtain ⟨j, hj⟩ := qabp.1 ht
  exact (h.small j _ hj).2
 ·rw [qafz h fun s hs e => hx ⟨s, hs, e⟩] at he; cases he
set_option maxRecDepth 4000 in
theorem qanp (X : Cx) (hP : X.P = Try.prog) (hm : X.m = 0) {Q : SExit → SSt → Prop} (steps_ : List TStep) (k m : Int) (S : XTab) (L : List Entry) (i : Nat) (c d : Int) (e : Entry) (hi : i < steps_.length) (hs : steps_[i] = ⟨d, e⟩) (he : qadd e) (h : RelX k m S L) (hL : L.length ≤ 1000000)
  (hQ : ∀ tl hp nx, Q .normal ⟨(2, qade steps_) :: (7, .ptr 0 0) :: (8, .ptr 1 0) :: (9, .int .i64 i) :: tl, (0, .abs (xA k m S)) :: (1, qabg 1 k 0 m 2 L.length) :: (2, qabh L) :: hp, nx⟩) :
  SWp X qag6 Q ⟨[(2, qade steps_), (7, .ptr 0 0), (8, .ptr 1 0), (9, .int .i64 i), (10, .ptr 3 0), (11, .int .i64 c), (12, .int .i64 c)], [(0, .abs (xA k m S)), (1, qabg 1 k 0 m 2 L.length), (2, qabh L), (3, .cells 65 (qaao e))], 4⟩ := by
 have hsm := qahg h
 have f1 := fun q => qawg k m S h.inv e.keys he.1 0 q
 have f2 := fun q => rfindA 1 k 0 m L e.keys hsm hL (fun h => (by cases h)) (fun hx a ha => ⟨fun h0 => (by cases h0), fun h1 _ => absurd rfl h1⟩) 1 2 q (by decide)
 rw [qasx h] at f2
 have f3 := fun q => xlen_a k m S 0 q
 have f4 := fun q => qabt (sent_s e e he) (fun σ => rfl) (fun σ => rfl) rfl q
 rw [show qahe e e = true by simp [qahe]] at f4
 rw [← h.len] at f3
 obtain ⟨a, r, b, n, hr, h1, h2⟩ : ∃ a r b n, r.length ≤ 1000000 ∧ qajp (qadv k S e.keys) = .tup [.agg [.int .i64 a, nums .u64 r], .bool b] ∧ qalr ((qadv k S e.keys).map entE) = .tup [.agg [.int .i64 a, nums .u64 r], .int .i64 n, .bool b] := by
  cases hf : qadv k S e.keys with
  | none => exact ⟨0, [], false, 0, by simp, rfl, rfl⟩
  | some x => exact ⟨x.act, x.args, true, 0, qal2 h.inv _ hf, rfl, rfl⟩
 rw [h1] at f1
 rw [h2] at f2
 have f5 := fun q => qabt (shit_s a a r r hr) (fun σ => rfl) (fun σ => rfl) rfl q
 rw [show (a == a && decide (r = r)) = true by simp] at f5
 clear h1 h2 h hsm
 unfold qadj at f5
 unfold qaao at f4
 replace hQ := Lib.hid hQ
 unfold qag6
 unfold qabf qabg qabh at f2
 repeat' (first | (with_reducible first | refine zA ?_ | refine zK ?_) | ((with_reducible first | refine qaap ?_ | refine qabl (by rw [hP]; exact mixed) ?_); (try rw [hP]); simp -implicitDefEqProofs [qade, qacr, qaao, qabg, qabh, List.getElem?_eq_getElem hi, hs, *]) | ((with_reducible refine qaa0 ?_); (try simp -implicitDefEqProofs [qade, qacr, qaao, qabg, qabh, List.getElem?_eq_getElem hi, hs, *])) | ((with_reducible refine qaat rfl (fun h => ?_) (fun h => ?_)) <;> have h' := h <;> (try simp at h') <;> (try subst h')) | ((first | refine qacx (f1 _) ⟨rfl, trivial⟩ ⟨rfl, trivial⟩ ?_ | refine qacx (f2 _ (by simp) (by simp)) ⟨rfl, rfl, trivial⟩ ⟨rfl, rfl, trivial⟩ ?_ | refine qacx (f3 _) ⟨rfl, trivial⟩ ⟨rfl, trivial⟩ ?_ | refine qab5 (f4 _) ?_ | refine qab5 (f5 _) ?_); simp -implicitDefEqProofs [qade, qacr, qaao, qabg, qabh, List.getElem?_eq_getElem hi, hs, *]) | fail)
 exact hQ.out _ _ _
end Go.Proofs.Yticeaegpkpjjeaa
namespace Go.Proofs.Yticeaegpkpjjeaa
set_option linter.all false
open Go.RowKit
attribute [local simp] qaam qaal qaab qaaf qaac qaae qaaj qaak qaaa qaax SOp.run SX.ev putd puts argS upds SOp.touch SSt.keep SSt.skip gets geth puth delh idOf SV.cells? setL qabu qabv sbin eq0 eq1 eqL qabs qaa9 qaba qaaz qaai qaad qaan qaay qaag qaah FrzOk qaa4 qaav qaa2 qaa3 qaaq qaau qaa7 qaaw qaas qaa5 qaar frzS frzH frz frz1 frz0 SlotsM ObjsM ObjM rn ren ren1 ren0 qabj qabq qabx qabi qaa8 qabr qabw CoL qaa6 qace dels adds idsH qab7
attribute [local simp] qabz qaco qacz qacw
theorem qaou : LayP qafj qaao :=
 qaot (fun e : Entry => (e.keys, e.masks, e.len, e.prio, e.act, e.args)) (qado (qafh (qad0 .u64)) (qado (qafh (qad0 .u64)) (qado (qad0 .i64) (qado (qad0 .i64) (qado (qad0 .i64) (qafh (qad0 .u64)))))))
theorem qaos : LayP qai7 qacr := qaot (fun s : TStep => (s.d, s.e)) (qado (qad0 .i64) qaou)
theorem qalp (S : List Entry) : qahd S S = true := by
 unfold qahd
 rw [decide_eq_true rfl, Bool.true_and]
 refine List.all_eq_true.2 fun i hi => ?_
 rw [List.getElem?_eq_getElem (List.mem_range.1 hi)]
 simp [qahe]
theorem qaxk (k m : Int) : RelX k m (List.replicate (newN m) none) [] := by
 refine ⟨qano k m, ?_⟩
 have : qadq (List.replicate (newN m) none) = [] := by
  unfold qadq
  rw [List.filterMap_eq_nil_iff]
  intro o ho
  exact (List.mem_replicate.1 ho).2
 rw [this]; exact .nil
set_option maxRecDepth 4000 in
theorem xdoes_s (k m : Int) (l : List TStep) : SCalls Try.prog 7 [.int .i64 k, .int .i64 m, qade l] [] 0 (.bool true) [] := by
 refine qabe (N := 151) Try.func7 rfl rfl (by kernel_rfl) qajv (by simp) (by repeat' (first | exact trivial | refine And.intro ?_ ?_ | rfl | decide | exact PureR.ren _)) (by repeat' (first | exact trivial | refine And.intro ?_ ?_ | rfl | decide | exact PureR.ren _)) ?_
 rintro X hP hN hm
 unfold c_xdoes
 by_cases hm1 : m > 1000
 ·repeat' (first | (with_reducible refine zA ?_) | ((with_reducible refine qaap ?_); (try rw [hP]); simp -implicitDefEqProofs [*]) | ((with_reducible refine qaa0 ?_); (try simp -implicitDefEqProofs [*])) | ((with_reducible refine qabd ?_); (try simp only [qaaz, qaad, qaag])) | ((with_reducible refine qaat rfl (fun h => ?_) (fun h => ?_)) <;> have h' := h <;> (try simp at h') <;> (try subst h')) | ((refine qab5 (qaxa _) ?_); simp -implicitDefEqProofs [*]) | (with_reducible refine zN hm ?_) | fail)
  all_goals rfl
 cases hb : bigS l
 case true =>
  repeat' (first | (with_reducible refine zA ?_) | ((with_reducible refine qaap ?_); (try rw [hP]); simp -implicitDefEqProofs [*]) | ((with_reducible refine qaa0 ?_); (try simp -implicitDefEqProofs [*])) | ((with_reducible refine qabd ?_); (try simp only [qaaz, qaad, qaag])) | ((with_reducible refine qaat rfl (fun h => ?_) (fun h => ?_)) <;> have h' := h <;> (try simp at h') <;> (try subst h')) | ((first | refine qab5 (qaxa _) ?_ | refine qab5 (qaf5 l _) ?_); simp -implicitDefEqProofs [*]) | (with_reducible refine zN hm ?_) | fail)
  all_goals rfl
 case false =>
  have h200 : l.length ≤ 200 ∧ ∀ s ∈ l, bigE s.e = false := by
   simp only [bigS, Bool.or_eq_false_iff] at hb
   exact ⟨by have := hb.1; simp at this; omega, fun s hs => by have := List.any_eq_false.1 hb.2 s hs; simpa using this⟩
  replace h200 := Lib.hid h200
  repeat' (first | (with_reducible refine zA ?_) | ((with_reducible refine qaap ?_); (try rw [hP]); simp -implicitDefEqProofs [*]) | ((with_reducible refine qaa0 ?_); (try simp -implicitDefEqProofs [*])) | ((with_reducible refine qaat rfl (fun h => ?_) (fun h => ?_)) <;> have h' := h <;> (try simp at h') <;> (try subst h')) | ((first | refine qab5 (qaxa _) ?_ | refine qab5 (qaf5 l _) ?_ | refine qad2 (xnew_a k m _) trivial ⟨rfl, trivial⟩ ?_); simp -implicitDefEqProofs [*]) | fail)
  refine qaeh (qasa (t := 91) (cs := [.int .i64 1, .int .i64 k, .int .i64 0, .int .i64 m, .nilsl]) 37 4 65 6 rfl rfl) ?_
  refine qabk (qad4 (fun s (x : Nat × XTab × List Entry) => ⟨[(2, qade l), (7, .ptr 0 0), (8, .ptr 1 0), (9, .int .i64 x.1)], [(0, .abs (xA k m x.2.1)), (1, qabg 1 k 0 m 2 x.2.2.length), (2, qabh x.2.2)], 3⟩) (fun x => x.1 ≤ l.length ∧ RelX k m x.2.1 x.2.2 ∧ x.2.2.length ≤ x.1) (fun x => l.length - x.1) (0, List.replicate (newN m) none, []) (qab1 [(0, 25), (1, 37), (2, 40)] hm ⟨Co.refl _, Co.refl _, Co.refl _, Co.refl _, trivial⟩ ⟨⟨_, rfl, rfl⟩, ⟨_, rfl, rfl, CoL.refl _⟩, ⟨_, rfl, rfl, rfl, CoLL.refl _⟩, trivial⟩ rfl (Nat.zero_le _)) ⟨by simp, qaxk k m, by simp⟩ ?_)
  rintro J hJ ⟨i, t, L⟩ ⟨g1, g2, g3⟩
  unfold qah1
  simp only at g1 g2 g3 ⊢
  have hl2 := h200.out.1
  have hsm := qahg g2
  have htl := g2.len
  rcases Nat.lt_or_ge i l.length with hi | hi
  ·have hbe := h200.out.2 l[i] (List.getElem_mem hi)
   simp only [bigE, Bool.or_eq_false_iff, decide_eq_false_iff_not] at hbe
   obtain ⟨d, e0, hle⟩ : ∃ d e0, l[i] = ⟨d, e0⟩ := ⟨_, _, rfl⟩
   rw [hle] at hbe
   simp only at hbe
   have hse : qadd e0 := ⟨by omega, by omega, by omega⟩
   have k1 := fun q => qaxb k m t g2.inv e0.act e0.keys e0.args hse.1 hse.2.2 0 q
   have k2 := fun q => xdrop_a k m t g2.inv e0.keys hse.1 0 q
   have k3 := fun q => xchg_a k m t g2.inv e0.act e0.keys e0.args hse.1 hse.2.2 0 q
   have k0 := fun q => qabt (ownE_s e0 hse) (fun σ => rfl) (fun σ => rfl) rfl q
   have k5 := fun q => qabt (hitOf_s e0) (fun σ => rfl) (fun σ => rfl) rfl q
   have wi : IntKind.i64.wrap ((i : Int) + 1) = (i : Int) + 1 := qabo (by omega) (by omega)
   have rest : ∀ (t' : XTab) (L' : List Entry) (c : Int), RelX k m t' L' → L'.length ≤ i + 1 → SWp X qag6 (qafq 1 (QSeq X (SCode.reg false qaf8 [2, 7, 8, 9]) (qaw6 X J (l.length - i) (qafq 0 (QSeq X ((SCode.reg false qaf7 [6]).seq SCode.ret) (QFun X [ResultVar.tmp 6] 0 (SV.bool true) []))))))
     ⟨[(2, qade l), (7, .ptr 0 0), (8, .ptr 1 0), (9, .int .i64 i), (10, .ptr 3 0), (11, .int .i64 c), (12, .int .i64 c)], [(0, .abs (xA k m t')), (1, qabg 1 k 0 m 2 L'.length), (2, qabh L'), (3, .cells 65 (qaao e0))], 4⟩ := by
    intro t' L' c hr hl'
    refine qanp X hP hm l k m t' L' i c d e0 hi hle hse hr (by omega) ?_
    intro tl hp nx
    simp only [qaai, qaa9]
    replace hr := Lib.hid hr
    repeat' (first | ((with_reducible refine qaap ?_); (try rw [hP]); simp -implicitDefEqProofs [wi, *]) | fail)
    refine qacu hJ (i + 1, t', L') (qab1 [] hm ⟨Co.refl _, Co.refl _, Co.refl _, Co.refl _, trivial⟩ ⟨⟨_, rfl, rfl⟩, ⟨_, rfl, rfl, CoL.refl _⟩, ⟨_, rfl, rfl, rfl, ?_⟩, trivial⟩ rfl (Nat.zero_le _)) ⟨by simp only; omega, hr.out, hl'⟩ (by simp only; omega)
    rw [qabz]; exact CoLL.refl _
   replace rest := Lib.hid rest
   unfold qaao at k0 k5
   unfold hitc at k1 k3
   unfold qadj at k5
   by_cases hd0 : d = 0
   ·subst hd0
    have hv := qalk (wd := 0) (show m ≤ 1000 by omega) g2 e0
    have hr := qay4 (wd := 0) (show m ≤ 1000 by omega) g2 e0 ⟨hse.1, hse.2.2⟩
    have hmask : qawb 1 k L := fun h => absurd h (by decide)
    by_cases hc : addC 1 k 0 m L e0 = 0
    ·have k4 := fun q h1 h2 => raddY 1 k 0 m L e0 hsm hse (by omega) hmask hc 1 2 q (by decide) h1 h2
     rw [← hv, hc] at k1
     rw [if_pos hc] at hr
     have hlen : (L ++ [qaha 1 e0]).length ≤ i + 1 := by simp; omega
     generalize L ++ [qaha 1 e0] = L1 at k4 hr hlen
     generalize addX k m t ⟨e0.keys, e0.act, e0.args⟩ = t1 at k1 hr
     unfold qaao qabf at k4
     clear hv hmask hc hbe hsm g2 htl
     replace hr := Lib.hid hr
     repeat' (first | ((with_reducible refine qadg (c := .seq (.reg false qacm _) _) ?_)) | (with_reducible first | refine zA ?_ | refine qabb ?_ | refine zK ?_) | ((with_reducible first | refine qaap ?_ | refine qabl (by rw [hP]; exact mixed) ?_); (try rw [hP]); simp -implicitDefEqProofs [qade, qacr, qaao, hle, List.getElem?_eq_getElem hi, *]) | ((with_reducible refine qaa0 ?_); (try simp -implicitDefEqProofs [qade, qacr, qaao, hle, List.getElem?_eq_getElem hi, *])) | ((with_reducible refine qaat rfl (fun h => ?_) (fun h => ?_)) <;> have h' := h <;> (try simp at h') <;> (try subst h')) | ((first | refine qab5 (k0 _) ?_ | refine qab5 (k5 _) ?_ | refine qad2 (k1 _) ⟨rfl, trivial⟩ ⟨rfl, trivial⟩ ?_ | refine qad2 (k4 _ (by simp) (by simp)) ⟨rfl, rfl, trivial⟩ ⟨rfl, rfl, trivial⟩ ?_); simp -implicitDefEqProofs [qade, qacr, qaao, hle, List.getElem?_eq_getElem hi, *]) | fail)
     constructor
     refine qaeh ?_ (rest.out t1 L1 0 hr.out hlen)
     exact qab1 [(2, 57), (3, 20)] hm ⟨Co.refl _, Co.refl _, Co.refl _, Co.refl _, Co.refl _, Co.refl _, Co.refl _, trivial⟩ ⟨⟨_, rfl, rfl⟩, ⟨_, rfl, rfl, CoL.refl _⟩, ⟨_, rfl, rfl, rfl, by rw [qabz]; exact CoLL.refl _⟩, ⟨_, rfl, rfl, CoL.refl _⟩, trivial⟩ rfl (by simp)
    ·have k4 := fun q h1 h2 => raddN 1 k 0 m L e0 hsm hse (by omega) hmask hc 1 2 q (by decide) h1 h2
     rw [← hv] at k1
     rw [if_neg hc] at hr
     have hlen : L.length ≤ i + 1 := by omega
     generalize addX k m t ⟨e0.keys, e0.act, e0.args⟩ = t1 at k1 hr
     generalize addC 1 k 0 m L e0 = v at k1 k4
     unfold qaao qabf at k4
     clear hv hmask hc hbe hsm g2 htl
     replace hr := Lib.hid hr
     repeat' (first | ((with_reducible refine qadg (c := .seq (.reg false qacm _) _) ?_)) | (with_reducible first | refine zA ?_ | refine qabb ?_ | refine zK ?_) | ((with_reducible first | refine qaap ?_ | refine qabl (by rw [hP]; exact mixed) ?_); (try rw [hP]); simp -implicitDefEqProofs [qade, qacr, qaao, hle, List.getElem?_eq_getElem hi, *]) | ((with_reducible refine qaa0 ?_); (try simp -implicitDefEqProofs [qade, qacr, qaao, hle, List.getElem?_eq_getElem hi, *])) | ((with_reducible refine qaat rfl (fun h => ?_) (fun h => ?_)) <;> have h' := h <;> (try simp at h') <;> (try subst h')) | ((first | refine qab5 (k0 _) ?_ | refine qab5 (k5 _) ?_ | refine qad2 (k1 _) ⟨rfl, trivial⟩ ⟨rfl, trivial⟩ ?_ | refine qad2 (k4 _ (by simp) (by simp)) ⟨rfl, rfl, trivial⟩ ⟨rfl, rfl, trivial⟩ ?_); simp -implicitDefEqProofs [qade, qacr, qaao, hle, List.getElem?_eq_getElem hi, *]) | fail)
     constructor
     refine qaeh ?_ (rest.out t1 L v hr.out hlen)
     exact qab1 [(3, 20)] hm ⟨Co.refl _, Co.refl _, Co.refl _, Co.refl _, Co.refl _, Co.refl _, Co.refl _, trivial⟩ ⟨⟨_, rfl, rfl⟩, ⟨_, rfl, rfl, CoL.refl _⟩, ⟨_, rfl, rfl, rfl, by rw [qabz]; exact CoLL.refl _⟩, ⟨_, rfl, rfl, CoL.refl _⟩, trivial⟩ rfl (by simp)
   by_cases hd1 : d = 1
   ·subst hd1
    have hv := qae6 (wd := 0) g2 e0
    have hr := qaye (wd := 0) g2 e0 ⟨hse.1, hse.2.2⟩
    have k4 := fun q h1 h2 => rchgA 1 k 0 m L e0 hsm hse (by omega) 1 2 q (by decide) h1 h2
    rw [← hv] at k3
    have hlen : (chgL 1 k 0 L e0).length ≤ i + 1 := by rw [qapf]; omega
    generalize chgL 1 k 0 L e0 = L1 at k4 hr hlen
    generalize chgX k t ⟨e0.keys, e0.act, e0.args⟩ = t1 at k3 hr
    generalize chgC 1 k 0 L e0 = v at k3 k4
    unfold qaao qabf at k4
    clear hv hbe hsm g2 htl
    replace hr := Lib.hid hr
    repeat' (first | ((with_reducible refine qadg (c := .seq (.reg false qacm _) _) ?_)) | (with_reducible first | refine zA ?_ | refine qabb ?_ | refine zK ?_) | ((with_reducible first | refine qaap ?_ | refine qabl (by rw [hP]; exact mixed) ?_); (try rw [hP]); simp -implicitDefEqProofs [qade, qacr, qaao, hle, List.getElem?_eq_getElem hi, *]) | ((with_reducible refine qaa0 ?_); (try simp -implicitDefEqProofs [qade, qacr, qaao, hle, List.getElem?_eq_getElem hi, *])) | ((with_reducible refine qaat rfl (fun h => ?_) (fun h => ?_)) <;> have h' := h <;> (try simp at h') <;> (try subst h')) | ((first | refine qab5 (k0 _) ?_ | refine qab5 (k5 _) ?_ | refine qad2 (k3 _) ⟨rfl, trivial⟩ ⟨rfl, trivial⟩ ?_ | refine qad2 (k4 _ (by simp) (by simp)) ⟨rfl, rfl, trivial⟩ ⟨rfl, rfl, trivial⟩ ?_); simp -implicitDefEqProofs [qade, qacr, qaao, hle, List.getElem?_eq_getElem hi, *]) | fail)
    constructor
    refine qaeh ?_ (rest.out t1 L1 v hr.out hlen)
    exact qab1 [(3, 20)] hm ⟨Co.refl _, Co.refl _, Co.refl _, Co.refl _, Co.refl _, Co.refl _, Co.refl _, trivial⟩ ⟨⟨_, rfl, rfl⟩, ⟨_, rfl, rfl, CoL.refl _⟩, ⟨_, rfl, rfl, rfl, by rw [qabz]; exact CoLL.refl _⟩, ⟨_, rfl, rfl, CoL.refl _⟩, trivial⟩ rfl (by simp)
   by_cases hd2 : d = 2
   ·subst hd2
    have hv : qai4 1 k 0 L e0 = qaf4 k t e0.keys := qae6 (wd := 0) g2 e0
    have hr := qas1 (wd := 0) g2 e0
    have hlen : (qai3 1 k 0 L e0).length ≤ i + 1 := by
     unfold qai3; split
     ·rw [List.length_append, List.length_take, List.length_drop]; omega
     ·omega
    by_cases hc : qai4 1 k 0 L e0 = 0
    ·have k4 := fun q h1 h2 => rdropY 1 k 0 m L e0 hsm hse (by omega) hc 1 2 q (by decide) h1 h2
     rw [← hv, hc] at k2
     generalize qai3 1 k 0 L e0 = L1 at k4 hr hlen
     generalize drpX k t e0.keys = t1 at k2 hr
     unfold qaao qabf at k4
     clear hv hc hbe hsm g2 htl
     replace hr := Lib.hid hr
     repeat' (first | ((with_reducible refine qadg (c := .seq (.reg false qacm _) _) ?_)) | (with_reducible first | refine zA ?_ | refine qabb ?_ | refine zK ?_) | ((with_reducible first | refine qaap ?_ | refine qabl (by rw [hP]; exact mixed) ?_); (try rw [hP]); simp -implicitDefEqProofs [qade, qacr, qaao, hle, List.getElem?_eq_getElem hi, *]) | ((with_reducible refine qaa0 ?_); (try simp -implicitDefEqProofs [qade, qacr, qaao, hle, List.getElem?_eq_getElem hi, *])) | ((with_reducible refine qaat rfl (fun h => ?_) (fun h => ?_)) <;> have h' := h <;> (try simp at h') <;> (try subst h')) | ((first | refine qab5 (k0 _) ?_ | refine qad2 (k2 _) ⟨rfl, trivial⟩ ⟨rfl, trivial⟩ ?_ | refine qad2 (k4 _ (by simp) (by simp)) ⟨rfl, rfl, trivial⟩ ⟨rfl, rfl, trivial⟩ ?_); simp -implicitDefEqProofs [qade, qacr, qaao, hle, List.getElem?_eq_getElem hi, *]) | fail)
     constructor
     refine qaeh ?_ (rest.out t1 L1 0 hr.out hlen)
     exact qab1 [(2, 52), (3, 20)] hm ⟨Co.refl _, Co.refl _, Co.refl _, Co.refl _, Co.refl _, Co.refl _, Co.refl _, trivial⟩ ⟨⟨_, rfl, rfl⟩, ⟨_, rfl, rfl, CoL.refl _⟩, ⟨_, rfl, rfl, rfl, by rw [qabz]; exact CoLL.refl _⟩, ⟨_, rfl, rfl, CoL.refl _⟩, trivial⟩ rfl (by simp)
    ·have k4 := fun q h1 h2 => rdropN 1 k 0 m L e0 hsm hse (by omega) hc 1 2 q (by decide) h1 h2
     rw [← hv] at k2
     rw [show qai3 1 k 0 L e0 = L from if_neg hc] at hr hlen
     generalize drpX k t e0.keys = t1 at k2 hr
     generalize qai4 1 k 0 L e0 = v at k2 k4
     unfold qaao qabf at k4
     clear hv hc hbe hsm g2 htl
     replace hr := Lib.hid hr
     repeat' (first | ((with_reducible refine qadg (c := .seq (.reg false qacm _) _) ?_)) | (with_reducible first | refine zA ?_ | refine qabb ?_ | refine zK ?_) | ((with_reducible first | refine qaap ?_ | refine qabl (by rw [hP]; exact mixed) ?_); (try rw [hP]); simp -implicitDefEqProofs [qade, qacr, qaao, hle, List.getElem?_eq_getElem hi, *]) | ((with_reducible refine qaa0 ?_); (try simp -implicitDefEqProofs [qade, qacr, qaao, hle, List.getElem?_eq_getElem hi, *])) | ((with_reducible refine qaat rfl (fun h => ?_) (fun h => ?_)) <;> have h' := h <;> (try simp at h') <;> (try subst h')) | ((first | refine qab5 (k0 _) ?_ | refine qad2 (k2 _) ⟨rfl, trivial⟩ ⟨rfl, trivial⟩ ?_ | refine qad2 (k4 _ (by simp) (by simp)) ⟨rfl, rfl, trivial⟩ ⟨rfl, rfl, trivial⟩ ?_); simp -implicitDefEqProofs [qade, qacr, qaao, hle, List.getElem?_eq_getElem hi, *]) | fail)
     constructor
     refine qaeh ?_ (rest.out t1 L v hr.out hlen)
     exact qab1 [(3, 20)] hm ⟨Co.refl _, Co.refl _, Co.refl _, Co.refl _, Co.refl _, Co.refl _, Co.refl _, trivial⟩ ⟨⟨_, rfl, rfl⟩, ⟨_, rfl, rfl, CoL.refl _⟩, ⟨_, rfl, rfl, rfl, by rw [qabz]; exact CoLL.refl _⟩, ⟨_, rfl, rfl, CoL.refl _⟩, trivial⟩ rfl (by simp)
   ·have hr := g2
    have hlen : L.length ≤ i + 1 := by omega
    have b0 : (d == 0) = false := by simpa using hd0
    have b1 : (d == 1) = false := by simpa using hd1
    have b2 : (d == 2) = false := by simpa using hd2
    clear hbe hsm g2 htl
    replace hr := Lib.hid hr
    repeat' (first | ((with_reducible refine qadg (c := .seq (.reg false qacm _) _) ?_)) | (with_reducible first | refine zA ?_ | refine qabb ?_) | ((with_reducible refine qaap ?_); (try rw [hP]); simp -implicitDefEqProofs [qade, qacr, qaao, hle, List.getElem?_eq_getElem hi, b0, b1, b2, *]) | ((with_reducible refine qaa0 ?_); (try simp -implicitDefEqProofs [qade, qacr, qaao, hle, List.getElem?_eq_getElem hi, b0, b1, b2, *])) | ((with_reducible refine qaat rfl (fun h => ?_) (fun h => ?_)) <;> have h' := h <;> (try simp at h') <;> (try subst h')) | (refine qab5 (k0 _) ?_; simp -implicitDefEqProofs [qade, qacr, qaao, hle, List.getElem?_eq_getElem hi, b0, b1, b2, *]) | fail)
    constructor
    refine qaeh ?_ (rest.out t L 0 hr.out hlen)
    exact qab1 [(3, 20)] hm ⟨Co.refl _, Co.refl _, Co.refl _, Co.refl _, Co.refl _, Co.refl _, Co.refl _, trivial⟩ ⟨⟨_, rfl, rfl⟩, ⟨_, rfl, rfl, CoL.refl _⟩, ⟨_, rfl, rfl, rfl, by rw [qabz]; exact CoLL.refl _⟩, ⟨_, rfl, rfl, CoL.refl _⟩, trivial⟩ rfl (by simp)
  ·obtain rfl : i = l.length := by omega
   have hp := qay1 g2
   have hll : ((qaln t).map entE).length ≤ 1000000 := by rw [hp.length_eq]; omega
   have k1 := fun q => xall_c k m (by omega) t g2.inv 0 q
   have k2 := fun q h1 h2 => rallA 1 k 0 m L ((qaln t).map entE) hsm (by omega) (qar5 g2.inv) hp 1 2 q (by decide) h1 h2
   have k3 := fun q => qabt (sents_s ((qaln t).map entE) ((qaln t).map entE) hll (fun e he => hsm e (hp.mem_iff.1 he))) (fun σ => rfl) (fun σ => rfl) rfl q
   rw [qalp] at k3
   unfold qabf at k2
   clear hJ hsm hp hll htl g1 g2 g3 hl2
   generalize (qaln t).map entE = S at k1 k2 k3
   repeat' (first | (with_reducible refine zA ?_) | ((with_reducible refine qaap ?_); (try rw [hP]); simp -implicitDefEqProofs [qade, *]) | ((with_reducible refine qaby ?_); (try simp -implicitDefEqProofs [qade, *])) | ((with_reducible refine qabd ?_); (try simp only [qaaz, qaad, qaag])) | ((with_reducible refine qaat rfl (fun h => ?_) (fun h => ?_)) <;> have h' := h <;> (try simp at h') <;> (try subst h')) | ((first | refine qacx (k1 _) ⟨rfl, trivial⟩ ⟨rfl, trivial⟩ ?_ | refine qacx (k2 _ (by simp) (by simp)) ⟨rfl, rfl, trivial⟩ ⟨rfl, rfl, trivial⟩ ?_ | refine qab5 (k3 _) ?_); simp -implicitDefEqProofs [qade, *]) | (with_reducible refine zN hm ?_) | fail)
   all_goals rfl
theorem ExactDoes_law (k m : Int) (lo : Option Addr) (ln lc : Nat) (l : List TStep) (w : World) (_ : (Lit.int .i64 k).wf = true) (_ : (Lit.int .i64 m).wf = true) (hl : RdL qai7 NoA w lo ln lc l) :
  Calls Try.prog 7 #[.int .i64 k, .int .i64 m, .slice lo ln lc] w fun e w' => e = .returned (.bool true) ∧ Below w.heap.size w w' :=
 law_of (vs := [.int .i64 k, .int .i64 m, .slice lo ln lc]) (xdoes_s k m l) (Reps.cons .int (Reps.cons .int (Reps.cons (qakn qaos hl) Reps.nil)))
end Go.Proofs.Yticeaegpkpjjeaa
