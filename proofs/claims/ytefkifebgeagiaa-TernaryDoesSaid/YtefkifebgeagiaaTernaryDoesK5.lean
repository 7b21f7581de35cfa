/-
  Texts joined: XRowF XRowG XRowH XRowI XRowJ XRowK XRowL XTerV XTerQ XCtef XTerS XPfxP XPfxT XPfxY XPfxZ. No condition.
-/
import Derived.WalkSpells
import Derived.RegionTactic
import Derived.BigRegion
import Derived.Deep.RegionLaw
import Derived.Test.YtefkifebgeagiaaProg
import Derived.BigQuiet
import Derived.Deep.QuietTactic
import Derived.Deep.RegionHeld3
import Derived.Deep.DrawnRows
import Derived.Outline
import Derived.Test.YtefkifebgeagiaaTernaryDoesK4
namespace Go.Proofs.Ytefkifebgeagiaa
set_option linter.all false
open Go.RowKit
attribute [local simp] qaao qaan qaac qaah qaad qaag qaal qaam qaaa qaay SOp.run SX.ev putd puts argS upds SOp.touch SSt.keep SSt.skip gets geth puth delh idOf SV.cells? setL qab0 qab1 sbin eq0 eq1 eqL qabz qabd qabe qaau qaak qaab qaap qaaz qaaf qaai FrzOk qaa4 qaaw qaa2 qaa3 qaaq qaav qabb qaax qaas qaa5 qaar frzS frzH frz frz1 frz0 SlotsM ObjsM ObjM rn ren ren1 ren0 qabj qabs qaby qabi qabc qabu qabx CoL qaa6 qab4 dels adds idsH qabv qab3 qaco qac3
def qab8 (a b : Entry) : Bool := if a.prio = b.prio then (if qagt a.keys b.keys = 0 then (if a.len = b.len then decide (qagt a.masks b.masks < 0) else decide (a.len < b.len)) else decide (qagt a.keys b.keys < 0)) else decide (a.prio < b.prio)
theorem ahead_s (a b : Entry) (hs : qab7 a) : SCalls Try.prog 46 [.agg (qaae a), .agg (qaae b)] [] 0 (.bool (qab8 a b)) [] := by
 refine qaa0 (N := 41) Try.func46 rfl rfl (by kernel_rfl) qalq (by simp) ⟨rfl, rfl, trivial⟩ trivial ?_
 rintro X hP hN hm
 obtain ⟨hs1, hs2, hs3⟩ := hs
 have fin : ∀ (r : Bool) hp nx, r = qab8 a b → QFun X (Try.f46).results.toList 0 (.bool (qab8 a b)) [] .ret ⟨[(4, .bool r)], hp, nx⟩ := fun r hp nx hr => by
  rw [hr]
  exact (qabr (s' := ⟨[(4, .bool (qab8 a b))], [], 0⟩) (qabg [] hm rfl (Nat.le_refl _) (by simp -implicitDefEqProofs) trivial) rfl trivial (by simp))
 unfold c_ahead
 repeat' (first | (with_reducible refine qaa8 ?_) | ((with_reducible refine qaaj ?_); (try rw [hP]); simp -implicitDefEqProofs [qaae, nums, *]) | ((with_reducible refine qaa1 ?_); (try simp -implicitDefEqProofs [qaae, nums, *])) | ((with_reducible refine qaa7 ?_); (try simp only [qaau, qaab, qaaf])) | ((with_reducible refine qaat rfl (fun h => ?_) (fun h => ?_)) <;> have h' := h <;> (try simp at h') <;> (try subst h')) | (refine qab2 (qabo (less_s _ _ (by assumption)) (fun σ => rfl) (fun σ => rfl) rfl _) ?_; simp -implicitDefEqProofs [qaae, nums, *]) | (refine fin _ _ _ ?_) | fail)
 all_goals try (unfold qab8; simp_all; done)
theorem qaqt {n : Nat} {p : Nat → Bool} (h : ∀ j, j < n → p j = true) : (List.range n).all p = true := List.all_eq_true.2 fun j hj => h j (List.mem_range.1 hj)
theorem qaqu {n j : Nat} {p : Nat → Bool} (hj : j < n) (h : p j = false) : (List.range n).all p = false := List.all_eq_false.2 ⟨j, List.mem_range.2 hj, by simpa using h⟩
def qanq (kind width : Int) (e : Entry) (k : List Int) : Bool :=
 if kind = 1 then decide (e.keys = k)
 else if kind = 2 then bits .and .u64 (el k 0) (IntKind.u64.wrap (onesP width - onesP (IntKind.i64.wrap (width - e.len)))) == el e.keys 0
 else (List.range k.length).all fun i => bits .and .u64 (el k i) (el e.masks i) == el e.keys i
def qa1o (kind : Int) (e : Entry) (k : List Int) : Prop := (kind = 2 → 1 ≤ k.length ∧ 1 ≤ e.keys.length) ∧ (kind ≠ 1 → kind ≠ 2 → k.length ≤ e.keys.length ∧ k.length ≤ e.masks.length)
theorem fits_s (k ks wd ms : Int) (L : List Entry) (e : Entry) (xs : List Int) (hs : qab7 e) (hok : qa1o k e xs) : SCalls Try.prog 45 [.ptr 0 0, .agg (qaae e), nums .u64 xs] (qaci k ks wd ms L) 2 (.bool (qanq k wd e xs)) (qaci k ks wd ms L) := by
 refine qaa0 (N := 67) Try.func45 rfl rfl (by kernel_rfl) qalj (by simp) ⟨rfl, rfl, rfl, trivial⟩ (qac9 _ _ _ _ _) ?_
 rintro X hP hN hm
 obtain ⟨hs1, hs2, hs3⟩ := hs
 obtain ⟨ho1, ho2⟩ := hok
 have fin : ∀ (r : Bool) hp nx, r = qanq k wd e xs → QFun X (Try.f45).results.toList 2 (.bool (qanq k wd e xs)) (qaci k ks wd ms L) .ret ⟨[(6, .bool r)], (0, qabm k ks wd ms 1 L.length) :: (1, qabn L) :: hp, nx⟩ := fun r hp nx hr => by
  rw [hr]
  exact (qabr (s' := ⟨[(6, .bool (qanq k wd e xs))], qaci k ks wd ms L, 2⟩) (qabg [(0, 0), (1, 1)] hm rfl (Nat.le_refl _) (by simp -implicitDefEqProofs []) (by simp -implicitDefEqProofs [qaci, qabm, qabn])) rfl ⟨rfl, rfl, trivial⟩ (by simp))
 have a1 : k = 2 → 0 < xs.length := fun h => (ho1 h).1
 have a2 : k = 2 → 0 < e.keys.length := fun h => (ho1 h).2
 have a3 : k = 2 → xs[0]? = some (el xs 0) := fun h => by simp [el, a1 h]
 have a4 : k = 2 → e.keys[0]? = some (el e.keys 0) := fun h => by simp [el, a2 h]
 simp only [qabm, qabn] at fin
 unfold c_rfits qaci qabm qabn
 repeat' (first | (with_reducible first | refine qaa8 ?_ | refine qaa9 ?_) | ((with_reducible refine qacq ?_ ?_); (focus rfl)) | ((with_reducible first | refine qaaj ?_ | refine qabl (by rw [hP]; exact qadh) ?_); (try rw [hP]); simp -implicitDefEqProofs [qaae, nums, *]) | ((with_reducible refine qaa1 ?_); (try simp -implicitDefEqProofs [qaae, nums, *])) | ((with_reducible refine qaa7 ?_); (try simp only [qaau, qaab, qaaf])) | ((with_reducible refine qaat rfl (fun h => ?_) (fun h => ?_)) <;> have h' := h <;> (try simp at h') <;> (try subst h')) | ((first | refine qab2 (qadj _ _ (by assumption) _) ?_ | refine qab2 (qabo (qa2v _) (fun σ => rfl) (fun σ => rfl) rfl _) ?_); simp -implicitDefEqProofs [qaae, nums, *]) | (refine fin _ _ _ ?_) | fail)
 ·unfold qanq; rw [if_pos rfl]
 ·unfold qanq onesP; rw [if_neg (show ¬ (2 : Int) = 1 by decide), if_pos (show (2 : Int) = 2 from rfl), qaer _ _ (a1 rfl), qaer _ _ (a2 rfl)]
 ·obtain ⟨b1, b2⟩ := ho2 ‹¬ k = 1› ‹¬ k = 2›
  refine qabp (qacm (fun s n => ∃ i : Nat, s = ⟨[(2, nums .u64 xs), (4, .ptr 2 0), (8, .int .i64 i)], [(0, qabm k ks wd ms 1 L.length), (1, qabn L), (2, .cells 29 (qaae e))], 3⟩ ∧ i ≤ xs.length ∧ (∀ j, j < i → (bits .and .u64 (el xs j) (el e.masks j) == el e.keys j) = true) ∧ n = xs.length - i) (qabg [(0, 0), (1, 1), (2, 2)] hm rfl (by simp) (by simp -implicitDefEqProofs [nums]) (by simp -implicitDefEqProofs [qabm, qabn, qaae, nums])) ⟨0, rfl, by omega, by omega, rfl⟩ ?_)
  rintro s n ⟨i, rfl, h1, h2, rfl⟩
  have g1 : i < xs.length → xs[i]? = some (el xs i) := fun h => by simp [el, h]
  have g2 : i < xs.length → e.masks[i]? = some (el e.masks i) := fun h => by simp [el, show i < e.masks.length by omega]
  have g3 : i < xs.length → e.keys[i]? = some (el e.keys i) := fun h => by simp [el, show i < e.keys.length by omega]
  have g4 : i < xs.length → i < e.masks.length := fun h => by omega
  have g5 : i < xs.length → i < e.keys.length := fun h => by omega
  unfold qajw
  repeat' (first | (with_reducible first | refine qaa8 ?_ | refine qaa9 ?_) | ((with_reducible refine qacq ?_ ?_); (focus rfl)) | ((with_reducible first | refine qaaj ?_ | refine qabl (by rw [hP]; exact qadh) ?_); (try rw [hP]); simp -implicitDefEqProofs [qaae, nums, qabm, qabn, *]) | ((with_reducible first | refine qaa1 ?_ | refine qabw ?_); (try simp -implicitDefEqProofs [qaae, nums, qabm, qabn, *])) | ((with_reducible refine qaa7 ?_); (try simp only [qaau, qaab, qaaf])) | ((with_reducible refine qaat rfl (fun h => ?_) (fun h => ?_)) <;> have h' := h <;> (try simp at h') <;> (try subst h')) | (refine fin _ _ _ ?_) | ((rw [qabt (by omega) (by omega)]; refine qabq (qabg [(0, 0), (1, 1), (2, 2)] hm rfl (by simp) (by simp -implicitDefEqProofs) (by simp -implicitDefEqProofs [qabm, qabn, qaae, nums])) ⟨i + 1, rfl, ?_, ?_, rfl⟩ (by omega))) | fail)
  ·unfold qanq
   rw [if_neg ‹¬ k = 1›, if_neg ‹¬ k = 2›]
   exact (qaqu (p := fun i => bits .and .u64 (el xs i) (el e.masks i) == el e.keys i) ‹_› (by rw [qaer _ _ ‹_›, qaer _ _ (by omega), qaer _ _ (by omega)]; simpa using h')).symm
  ·omega
  ·intro j hj
   rcases Nat.lt_or_ge j i with h4 | h4
   ·simpa using h2 j h4
   ·obtain rfl : j = i := by omega
    rw [qaer _ _ ‹_›, qaer _ _ (by omega), qaer _ _ (by omega)]; simpa using h'
  ·unfold qanq
   rw [if_neg ‹¬ k = 1›, if_neg ‹¬ k = 2›]
   exact (qaqt (p := fun i => bits .and .u64 (el xs i) (el e.masks i) == el e.keys i) fun j hj => h2 j (by omega)).symm
end Go.Proofs.Ytefkifebgeagiaa
namespace Go.Proofs.Ytefkifebgeagiaa
set_option linter.all false
open Go.RowKit
attribute [local simp] qaao qaan qaac qaah qaad qaag qaal qaam qaaa qaay SOp.run SX.ev putd puts argS upds SOp.touch SSt.keep SSt.skip gets geth puth delh idOf SV.cells? setL qab0 qab1 sbin eq0 eq1 eqL qabz qabd qabe qaau qaak qaab qaap qaaz qaaf qaai FrzOk qaa4 qaaw qaa2 qaa3 qaaq qaav qabb qaax qaas qaa5 qaar frzS frzH frz frz1 frz0 SlotsM ObjsM ObjM rn ren ren1 ren0 qabj qabs qaby qabi qabc qabu qabx CoL qaa6 qab4 dels adds idsH qabv qab3 qaco qac3
def qags (j : Nat) (a e : Entry) : Bool := a.prio == e.prio && (List.range j).all fun k => bits .and .u64 (el e.keys k) (bits .and .u64 (el e.masks k) (el a.masks k)) == bits .and .u64 (el a.keys k) (bits .and .u64 (el e.masks k) (el a.masks k))
def meetC (k : Nat) (a e : Entry) : Bool := bits .and .u64 (el e.keys k) (bits .and .u64 (el e.masks k) (el a.masks k)) == bits .and .u64 (el a.keys k) (bits .and .u64 (el e.masks k) (el a.masks k))
theorem qaq9 (a e : Entry) : qags 0 a e = (a.prio == e.prio) := by simp [qags]
theorem qail (j : Nat) (a e : Entry) : qags (j + 1) a e = (qags j a e && meetC j a e) := by
 unfold qags meetC
 rw [List.range_succ, List.all_append]
 simp [Bool.and_assoc]
def addC (k ks wd ms : Int) (L : List Entry) (e : Entry) : Int :=
 if mayC k ks wd e = 0 then (if 0 ≤ atI k L e then 7 else if k = 3 ∧ L.any (fun a => qags ks.toNat a e) = true then 8 else if ms ≤ L.length then 10 else 0) else mayC k ks wd e
def addH (k ks wd ms : Int) (L : List Entry) (e : Entry) : Hp := if addC k ks wd ms L e = 0 then [(0, qabm k ks wd ms 2 (L ++ [qaka k e]).length), (2, qabn (L ++ [qaka k e]))] else qaci k ks wd ms L
theorem qawh {k ks wd ms : Int} {L : List Entry} {e : Entry} (h : addC k ks wd ms L e = 0) : addH k ks wd ms L e = [(0, qabm k ks wd ms 2 (L.length + 1)), (2, qabn (L ++ [qaka k e]))] := by
 unfold addH; rw [if_pos h]; simp
theorem addH_no {k ks wd ms : Int} {L : List Entry} {e : Entry} (h : addC k ks wd ms L e ≠ 0) : addH k ks wd ms L e = qaci k ks wd ms L := if_neg h
def qa1n (k ks : Int) (L : List Entry) : Prop := k = 3 → 0 ≤ ks ∧ ks ≤ 1000000 ∧ ∀ a ∈ L, (a.keys.length : Int) = ks ∧ (a.masks.length : Int) = ks
theorem may3 {ks wd : Int} {e : Entry} (h : mayC 3 ks wd e = 0) : (e.keys.length : Int) = ks ∧ (e.masks.length : Int) = ks := by
 unfold mayC at h
 rw [if_neg (by omega), if_neg (by omega), if_pos rfl] at h
 split at h
 ·omega
 ·cases h
set_option maxHeartbeats 4000000 in
theorem radd_s (k ks wd ms : Int) (L : List Entry) (e : Entry) (hs : ∀ a ∈ L, qab7 a) (hse : qab7 e) (hL : L.length ≤ 1000000) (hok : qa1n k ks L) : SCalls Try.prog 16 [.ptr 0 0, .agg (qaae e)] (qaci k ks wd ms L) 2 (.int .i64 (addC k ks wd ms L e)) (addH k ks wd ms L e) := by
 refine qaa0 (N := 116) Try.func16 rfl rfl (by kernel_rfl) qan5 (by simp) ⟨rfl, rfl, trivial⟩ (qac9 _ _ _ _ _) ?_
 rintro X hP hN hm
 have fin : ∀ (r : Int) hp nx, r ≠ 0 → r = addC k ks wd ms L e → QFun X (Try.f16).results.toList 2 (.int .i64 (addC k ks wd ms L e)) (addH k ks wd ms L e) .ret ⟨[(4, .int .i64 r)], (0, qabm k ks wd ms 1 L.length) :: (1, qabn L) :: hp, nx⟩ := fun r hp nx h0 hr => by
  rw [show addH k ks wd ms L e = qaci k ks wd ms L from if_neg (by rw [← hr]; exact h0), ← hr]
  exact (qabr (s' := ⟨[(4, .int .i64 r)], qaci k ks wd ms L, 2⟩) (qabg [(0, 0), (1, 1)] hm rfl (Nat.le_refl _) (by simp -implicitDefEqProofs []) (by simp -implicitDefEqProofs [qaci, qabm, qabn])) rfl ⟨rfl, rfl, trivial⟩ (by simp))
 unfold c_radd qaci qabm qabn
 repeat' (first | (with_reducible refine qaa8 ?_) | ((with_reducible refine qaaj ?_); (try rw [hP]); simp -implicitDefEqProofs [qaae, nums, qabk, qabm, qabn, *]) | ((with_reducible refine qaa1 ?_); (try simp -implicitDefEqProofs [qaae, nums, qabk, qabm, qabn, *])) | ((with_reducible refine qaa7 ?_); (try simp only [qaau, qaab, qaaf])) | ((with_reducible refine qaat rfl (fun h => ?_) (fun h => ?_)) <;> have h' := h <;> (try simp at h') <;> (try subst h')) | ((first | refine qab9 (qae7 (may_s k ks wd ms L e hse) (fun σ => rfl) (fun σ => rfl) rfl 0 1 _ (by decide) (by simp) (by simp)) ⟨rfl, rfl, trivial⟩ ⟨rfl, rfl, trivial⟩ ?_ | refine qab9 (qae7 (at_s k ks wd ms L e hs hL) (fun σ => rfl) (fun σ => rfl) rfl 0 1 _ (by decide) (by simp) (by simp)) ⟨rfl, rfl, trivial⟩ ⟨rfl, rfl, trivial⟩ ?_); simp -implicitDefEqProofs [qaae, nums, qabk, qabm, qabn, *]) | (refine fin _ _ _ ?_ ?_) | fail)
 ·simpa using h'
 ·unfold addC; rw [if_neg h']
 ·decide
 ·unfold addC; rw [if_pos ‹_›, if_pos h']
 have hm0 : mayC k ks wd e = 0 := ‹_›
 have hat : ¬ 0 ≤ atI k L e := by omega
 obtain ⟨hse1, hse2, hse3⟩ := hse
 have hex : ∀ r : Int, (k = 3 ∧ L.any (fun a => qags ks.toNat a e) = true → r = 8) → (¬ (k = 3 ∧ L.any (fun a => qags ks.toNat a e) = true) → ms ≤ L.length → r = 10) → (¬ (k = 3 ∧ L.any (fun a => qags ks.toNat a e) = true) → ¬ ms ≤ L.length → r = 0) → r = addC k ks wd ms L e := by
  intro r h1 h2 h3
  unfold addC
  rw [if_pos hm0, if_neg hat]
  split
  ·exact h1 ‹_›
  ·split
   ·exact h2 ‹_› ‹_›
   ·exact h3 ‹_› ‹_›
 replace hex := Lib.hid hex
 have finY : ∀ (r : Int) (a : Nat) x y nx, r = 0 → 0 = addC k ks wd ms L e → (a = 38 ∨ a = 43) → QFun X (Try.f16).results.toList 2 (.int .i64 (addC k ks wd ms L e)) (addH k ks wd ms L e) .ret ⟨[(4, .int .i64 r)], [(0, qabm k ks wd ms a (L.length + 1)), (2, x), (a - 1, y), (a, .row 29 6 (L.map qaae ++ [qaae (qaka k e)]))], nx⟩ := by
  intro r a x y nx hr hc ha
  rw [qawh hc.symm, ← hc, hr]
  rcases ha with rfl | rfl
  ·exact qabr (s' := ⟨[(4, .int .i64 0)], [(0, qabm k ks wd ms 2 (L.length + 1)), (2, qabn (L ++ [qaka k e]))], 3⟩) (qabg [(0, 0), (1, 1), (2, 38)] hm rfl (by simp) (by simp -implicitDefEqProofs) (by simp -implicitDefEqProofs [qabm, qabn, qacv])) rfl ⟨rfl, rfl, trivial⟩ (by simp)
  ·exact qabr (s' := ⟨[(4, .int .i64 0)], [(0, qabm k ks wd ms 2 (L.length + 1)), (2, qabn (L ++ [qaka k e]))], 3⟩) (qabg [(0, 0), (1, 1), (2, 43)] hm rfl (by simp) (by simp -implicitDefEqProofs) (by simp -implicitDefEqProofs [qabm, qabn, qacv])) rfl ⟨rfl, rfl, trivial⟩ (by simp)
 have hno : ¬ k = 3 → ¬ (k = 3 ∧ L.any (fun a => qags ks.toNat a e) = true) := fun h h2 => h h2.1
 have hno2 : ∀ i, L.length ≤ i → (k = 3 → ∀ j a, j < i → L[j]? = some a → qags ks.toNat a e = false) → ¬ (k = 3 ∧ L.any (fun a => qags ks.toNat a e) = true) := by
  rintro i hi h ⟨h3, h4⟩
  obtain ⟨a, ha, hb⟩ := List.any_eq_true.1 h4
  obtain ⟨j, hj⟩ := List.getElem?_of_mem ha
  rw [h h3 j a (by have := (List.getElem?_eq_some_iff.1 hj).1; omega) hj] at hb
  cases hb
 replace hno2 := Lib.hid hno2
 replace finY := Lib.hid finY
 refine qabp (qacm (fun s n => ∃ i : Nat, s = ⟨[(0, .ptr 0 0), (3, .ptr 2 0), (6, .int .i64 i)], [(0, qabm k ks wd ms 1 L.length), (1, qabn L), (2, .cells 29 (qaae e))], 3⟩ ∧ i ≤ L.length ∧ (k = 3 → ∀ j a, j < i → L[j]? = some a → qags ks.toNat a e = false) ∧ (0 < i → k = 3) ∧ n = L.length - i) (qabg [(0, 0), (1, 1), (2, 2)] hm rfl (by simp) (by simp -implicitDefEqProofs) (by simp -implicitDefEqProofs [qabm, qabn, qaae, nums, qabk])) ⟨0, rfl, by omega, by intro _ j a hj; omega, by omega, rfl⟩ ?_)
 rintro s n ⟨i, rfl, h1, h2, h3, rfl⟩
 have ha1 : L.length + 1 ≤ maxLen := by simp [maxLen]; omega
 have ha2 : (L.length + 1) * 96 ≤ 140737488355328 := by omega
 unfold qamx
 repeat' (first | (with_reducible first | refine qaa8 ?_ | refine qaa9 ?_) | ((with_reducible refine qacq ?_ ?_); (focus rfl)) | ((with_reducible first | refine qaaj ?_ | refine qabl (by rw [hP]; exact qadh) ?_); (try rw [hP]); simp -implicitDefEqProofs [qaae, nums, qabk, qabm, qabn, *]) | ((with_reducible first | refine qaa1 ?_ | refine qabw ?_); (try simp -implicitDefEqProofs [qaae, nums, qabk, qabm, qabn, *])) | ((with_reducible refine qaa7 ?_); (try simp only [qaau, qaab, qaaf])) | ((with_reducible refine qaat rfl (fun h => ?_) (fun h => ?_)) <;> have h' := h <;> (try simp at h') <;> (try subst h')) | ((with_reducible refine qacg (fun h => ?_) (fun h => ?_)) <;> have h' := h <;> (try simp at h') <;> (try subst h') <;> simp -implicitDefEqProofs [qaae, nums, qabk, qabm, qabn, *]) | (refine qab9 (qae7 (kept_s k ks wd ms L e ⟨hse1, hse2, hse3⟩) (fun σ => rfl) (fun σ => rfl) rfl 0 1 _ (by decide) (by simp) (by simp)) ⟨rfl, rfl, trivial⟩ ⟨rfl, rfl, trivial⟩ ?_; simp -implicitDefEqProofs [qaae, nums, qabk, qabm, qabn, *]) | (refine fin _ _ _ ?_ ?_) | fail)
 ·obtain ⟨b1, b2⟩ := may3 hm0
  obtain ⟨_, b3, b4⟩ := hok rfl
  obtain rfl : ks = (e.keys.length : Int) := by omega
  obtain ⟨b5, b6⟩ := b4 L[i] (List.getElem_mem _)
  obtain ⟨a, hLa⟩ : ∃ a, L[i] = a := ⟨_, rfl⟩
  rw [hLa] at b5 b6 ⊢
  refine qabp (qacm (fun s n => ∃ j : Nat, s = ⟨[(0, .ptr 0 0), (3, .ptr 2 0), (6, .int .i64 i), (7, .bool (qags j a e)), (8, .int .i64 j)], [(0, qabm 3 e.keys.length wd ms 1 L.length), (1, qabn L), (2, .cells 29 (qaae e))], 3⟩ ∧ j ≤ e.keys.length ∧ n = e.keys.length - j) (qabg [(0, 0), (1, 1), (2, 2)] hm rfl (by simp) (by simp -implicitDefEqProofs [qaq9]) (by simp -implicitDefEqProofs [qabm, qabn, qaae, nums, qabk])) ⟨0, rfl, by omega, rfl⟩ ?_)
  rintro s n ⟨j, rfl, c1, rfl⟩
  have g0 : j < e.keys.length → j < e.masks.length := fun h => by omega
  have g1 : j < e.keys.length → j < a.keys.length := fun h => by omega
  have g2 : j < e.keys.length → j < a.masks.length := fun h => by omega
  unfold qamy
  repeat' (first | (with_reducible first | refine qaa8 ?_ | refine qaa9 ?_) | ((with_reducible refine qacq ?_ ?_); (focus rfl)) | ((with_reducible first | refine qaaj ?_ | refine qabl (by rw [hP]; exact qadh) ?_); (try rw [hP]); simp -implicitDefEqProofs [qaae, nums, qabk, qabm, qabn, *]) | ((with_reducible first | refine qaa1 ?_ | refine qabw ?_); (try simp -implicitDefEqProofs [qaae, nums, qabk, qabm, qabn, *])) | ((with_reducible refine qaa7 ?_); (try simp only [qaau, qaab, qaaf])) | ((with_reducible refine qaat rfl (fun h => ?_) (fun h => ?_)) <;> have h' := h <;> (try simp at h') <;> (try subst h')) | fail)
  ·rw [qabt (by omega) (by omega)]
   have hq : qags (j + 1) a e = false := by
    rw [qail]; unfold meetC
    rw [qaer _ _ ‹j < e.keys.length›, qaer _ _ (g0 ‹_›), qaer _ _ (g1 ‹_›), qaer _ _ (g2 ‹_›), beq_eq_false_iff_ne.2 (by simpa using h)]
    simp
   exact qabq (qabg [(0, 0), (1, 1), (2, 2)] hm rfl (by simp) (by simp -implicitDefEqProofs [hq]) (by simp -implicitDefEqProofs [qabm, qabn, qaae, nums])) ⟨j + 1, rfl, by omega, rfl⟩ (by omega)
  ·rw [qabt (by omega) (by omega)]
   have hq : qags (j + 1) a e = qags j a e := by
    rw [qail]; unfold meetC
    rw [qaer _ _ ‹j < e.keys.length›, qaer _ _ (g0 ‹_›), qaer _ _ (g1 ‹_›), qaer _ _ (g2 ‹_›), beq_iff_eq.2 (by simpa using h)]
    simp
   exact qabq (qabg [(0, 0), (1, 1), (2, 2)] hm rfl (by simp) (by simp -implicitDefEqProofs [hq]) (by simp -implicitDefEqProofs [qabm, qabn, qaae, nums])) ⟨j + 1, rfl, by omega, rfl⟩ (by omega)
  ·obtain rfl : j = e.keys.length := by omega
   have hany : (3 : Int) = 3 ∧ L.any (fun a => qags (e.keys.length : Int).toNat a e) = true := ⟨rfl, List.any_eq_true.2 ⟨a, by rw [← hLa]; exact List.getElem_mem _, by simpa using h⟩⟩
   exact fin _ _ _ (by decide) (hex.out _ (fun _ => rfl) (fun h => absurd hany h) (fun h => absurd hany h))
  ·obtain rfl : j = e.keys.length := by omega
   rw [qabt (by omega) (by omega)]
   refine qabq (qabg [(0, 0), (1, 1), (2, 2)] hm rfl (by simp) (by simp -implicitDefEqProofs) (by simp -implicitDefEqProofs [qabm, qabn, qaae, nums])) ⟨i + 1, rfl, by omega, ?_, rfl⟩ (by omega)
   exact qaeq ‹i < L.length› (h2 rfl) (by rw [hLa]; simpa using h)
 ·decide
 ·exact hex.out _ (fun h => absurd h (hno ‹_›)) (fun _ _ => rfl) (fun _ h => absurd ‹_› h)
 ·exact finY.out _ 43 _ _ _ rfl (hex.out _ (fun h => absurd h (hno ‹_›)) (fun _ h => by omega) (fun _ _ => rfl)) (.inr rfl)
 ·decide
 ·exact hex.out _ (fun h => absurd h (hno2.out _ (by omega) h2)) (fun _ _ => rfl) (fun _ h => absurd ‹_› h)
 ·exact finY.out _ 38 _ _ _ rfl (hex.out _ (fun h => absurd h (hno2.out _ (by omega) h2)) (fun _ h => by omega) (fun _ _ => rfl)) (.inl rfl)
end Go.Proofs.Ytefkifebgeagiaa
namespace Go.Proofs.Ytefkifebgeagiaa
set_option linter.all false
open Go.RowKit
attribute [local simp] qaao qaan qaac qaah qaad qaag qaal qaam qaaa qaay SOp.run SX.ev putd puts argS upds SOp.touch SSt.keep SSt.skip gets geth puth delh idOf SV.cells? setL qab0 qab1 sbin eq0 eq1 eqL qabz qabd qabe qaau qaak qaab qaap qaaz qaaf qaai FrzOk qaa4 qaaw qaa2 qaa3 qaaq qaav qabb qaax qaas qaa5 qaar frzS frzH frz frz1 frz0 SlotsM ObjsM ObjM rn ren ren1 ren0 qabj qabs qaby qabi qabc qabu qabx CoL qaa6 qab4 dels adds idsH qabv qab3 qaco qac3 qacv
def chgC (k ks wd : Int) (L : List Entry) (e : Entry) : Int := if mayC k ks wd e = 0 then (if 0 ≤ atI k L e then 0 else 9) else mayC k ks wd e
def chgL (k ks wd : Int) (L : List Entry) (e : Entry) : List Entry := if chgC k ks wd L e = 0 then L.set (atN k L e) (qaka k e) else L
theorem qaf0 (k : Int) (L : List Entry) (e : Entry) : (atI k L e = atN k L e ∧ atN k L e < L.length) ∨ atI k L e = -1 := by
 unfold atI
 split
 ·exact .inl ⟨rfl, ‹_›⟩
 ·exact .inr rfl
theorem qawp {k ks wd ms : Int} {L L' : List Entry} (h : L'.length = L.length) : qaci k ks wd ms L' = [(0, qabm k ks wd ms 1 L.length), (1, qabn L')] := by unfold qaci; rw [h]
theorem qar9 (k ks wd : Int) (L : List Entry) (e : Entry) : (chgL k ks wd L e).length = L.length := by unfold chgL; split <;> simp
theorem rchg_s (k ks wd ms : Int) (L : List Entry) (e : Entry) (hs : ∀ a ∈ L, qab7 a) (hse : qab7 e) (hL : L.length ≤ 1000000) : SCalls Try.prog 18 [.ptr 0 0, .agg (qaae e)] (qaci k ks wd ms L) 2 (.int .i64 (chgC k ks wd L e)) (qaci k ks wd ms (chgL k ks wd L e)) := by
 refine qaa0 (N := 27) Try.func18 rfl rfl (by kernel_rfl) qan3 (by simp) ⟨rfl, rfl, trivial⟩ (qac9 _ _ _ _ _) ?_
 rintro X hP hN hm
 rw [qawp (qar9 k ks wd L e)]
 generalize hL2 : chgL k ks wd L e = L2
 generalize hr : chgC k ks wd L e = r
 have fin : ∀ (c : Int) es hp nx, c = r → es = L2.map qaae → QFun X (Try.f18).results.toList 2 (.int .i64 r) [(0, qabm k ks wd ms 1 L.length), (1, qabn L2)] .ret ⟨[(4, .int .i64 c)], (0, qabm k ks wd ms 1 L.length) :: (1, .row 29 6 es) :: hp, nx⟩ := fun c es hp nx hc he => by
  rw [hc, he]
  exact (qabr (s' := ⟨[(4, .int .i64 r)], [(0, qabm k ks wd ms 1 L.length), (1, qabn L2)], 2⟩) (qabg [(0, 0), (1, 1)] hm rfl (Nat.le_refl _) (by simp -implicitDefEqProofs) (by simp -implicitDefEqProofs [qabm, qabn])) rfl ⟨rfl, rfl, trivial⟩ (by simp))
 have hat : 0 ≤ atI k L e → atI k L e = atN k L e := fun h => by rcases qaf0 k L e with h2 | h2 <;> omega
 have hat2 : 0 ≤ atI k L e → atN k L e < L.length := fun h => by rcases qaf0 k L e with h2 | h2 <;> omega
 unfold c_rchg qaci qabm qabn
 repeat' (first | (with_reducible refine qaa8 ?_) | ((with_reducible refine qacq ?_ ?_); (focus rfl)) | ((with_reducible first | refine qaaj ?_ | refine qabl (by rw [hP]; exact qadh) ?_); (try rw [hP]); simp -implicitDefEqProofs [qaae, nums, qabk, qabm, qabn, *]) | ((with_reducible refine qaa1 ?_); (try simp -implicitDefEqProofs [qaae, nums, qabk, qabm, qabn, *])) | ((with_reducible refine qaa7 ?_); (try simp only [qaau, qaab, qaaf])) | ((with_reducible refine qaat rfl (fun h => ?_) (fun h => ?_)) <;> have h' := h <;> (try simp at h') <;> (try subst h')) | ((first | refine qab9 (qae7 (may_s k ks wd ms L e hse) (fun σ => rfl) (fun σ => rfl) rfl 0 1 _ (by decide) (by simp) (by simp)) ⟨rfl, rfl, trivial⟩ ⟨rfl, rfl, trivial⟩ ?_ | refine qab9 (qae7 (at_s k ks wd ms L e hs hL) (fun σ => rfl) (fun σ => rfl) rfl 0 1 _ (by decide) (by simp) (by simp)) ⟨rfl, rfl, trivial⟩ ⟨rfl, rfl, trivial⟩ ?_ | refine qab9 (qae7 (kept_s k ks wd ms L e hse) (fun σ => rfl) (fun σ => rfl) rfl 0 1 _ (by decide) (by simp) (by simp)) ⟨rfl, rfl, trivial⟩ ⟨rfl, rfl, trivial⟩ ?_); simp -implicitDefEqProofs [qaae, nums, qabk, qabm, qabn, *]) | (refine fin _ _ _ _ ?_ ?_) | fail)
 ·rw [← hr]; unfold chgC; rw [if_neg h']
 ·rw [← hL2]; unfold chgL; rw [if_neg (by unfold chgC; rw [if_neg h']; exact h')]
 ·rw [← hr]; unfold chgC; rw [if_pos ‹_›, if_neg (by omega)]
 ·rw [← hL2]; unfold chgL; rw [if_neg (by unfold chgC; rw [if_pos ‹_›, if_neg (by omega)]; decide)]
 ·rw [← hr]; unfold chgC; rw [if_pos ‹_›, if_pos h']
 ·rw [← hL2]; unfold chgL; rw [if_pos (by unfold chgC; rw [if_pos ‹_›, if_pos h']), List.map_set]; rfl
def qakb (k ks wd : Int) (L : List Entry) (e : Entry) : Int := if mayC k ks wd e = 0 then (if 0 ≤ atI k L e then 0 else 9) else mayC k ks wd e
def qak8 (k ks wd : Int) (L : List Entry) (e : Entry) : List Entry := if qakb k ks wd L e = 0 then L.take (atN k L e) ++ L.drop (atN k L e + 1) else L
def qa4x (k ks wd ms : Int) (L : List Entry) (e : Entry) : Hp := if qakb k ks wd L e = 0 then [(0, qabm k ks wd ms 2 (qak8 k ks wd L e).length), (2, qabn (qak8 k ks wd L e))] else qaci k ks wd ms L
theorem qag0 (e : Entry) : qaic (qaae e) := by unfold qaae nums; simp
theorem qa1z (k ks wd ms : Int) (L : List Entry) (e : Entry) (hs : ∀ a ∈ L, qab7 a) (hse : qab7 e) (hL : L.length ≤ 1000000) : SCalls Try.prog 19 [.ptr 0 0, .agg (qaae e)] (qaci k ks wd ms L) 2 (.int .i64 (qakb k ks wd L e)) (qa4x k ks wd ms L e) := by
 refine qaa0 (N := 38) Try.func19 rfl rfl (by kernel_rfl) qall (by simp) ⟨rfl, rfl, trivial⟩ (qac9 _ _ _ _ _) ?_
 rintro X hP hN hm
 have fin : ∀ (r : Int) hp nx, r ≠ 0 → r = qakb k ks wd L e → QFun X (Try.f19).results.toList 2 (.int .i64 (qakb k ks wd L e)) (qa4x k ks wd ms L e) .ret ⟨[(4, .int .i64 r)], (0, qabm k ks wd ms 1 L.length) :: (1, qabn L) :: hp, nx⟩ := fun r hp nx h0 hr => by
  rw [show qa4x k ks wd ms L e = qaci k ks wd ms L from if_neg (by rw [← hr]; exact h0), ← hr]
  exact (qabr (s' := ⟨[(4, .int .i64 r)], qaci k ks wd ms L, 2⟩) (qabg [(0, 0), (1, 1)] hm rfl (Nat.le_refl _) (by simp -implicitDefEqProofs []) (by simp -implicitDefEqProofs [qaci, qabm, qabn])) rfl ⟨rfl, rfl, trivial⟩ (by simp))
 have hat : 0 ≤ atI k L e → atI k L e = atN k L e := fun h => by rcases qaf0 k L e with h2 | h2 <;> omega
 have hat2 : 0 ≤ atI k L e → atN k L e < L.length := fun h => by rcases qaf0 k L e with h2 | h2 <;> omega
 have hat3 : 0 ≤ atI k L e → atN k L e ≤ L.length := fun h => by have := hat2 h; omega
 have hw : 0 ≤ atI k L e → IntKind.i64.wrap ((atN k L e : Int) + 1) = ((atN k L e + 1 : Nat) : Int) := fun h => by have := hat2 h; rw [qabt (by omega) (by omega)]; omega
 have hm1 : maxLen = 9223372036854775807 ∨ 1000000 < maxLen := by right; decide
 have hb1 : 0 ≤ atI k L e → atN k L e ≤ maxLen := fun h => by have := hat2 h; omega
 have hb2 : 0 ≤ atI k L e → atN k L e * 96 ≤ 140737488355328 := fun h => by have := hat2 h; omega
 have hb3 : 0 ≤ atI k L e → atN k L e + (L.length - (atN k L e + 1)) ≤ maxLen := fun h => by have := hat2 h; omega
 have hb4 : 0 ≤ atI k L e → (atN k L e + (L.length - (atN k L e + 1))) * 96 ≤ 140737488355328 := fun h => by have := hat2 h; omega
 have hb5 : 0 ≤ atI k L e → atN k L e + 1 ≤ L.length := fun h => by have := hat2 h; omega
 clear hm1
 unfold c_rdrop qaci qabm qabn
 repeat' (first | ((refine qa1s (c := .reg true qajz []) [1] (by simp -implicitDefEqProofs [qag0]) (qabl (by rw [hP]; exact qadh) ?_); simp -implicitDefEqProofs [qaae, nums, qabk, qabm, qabn, *])) | (with_reducible refine qaa8 ?_) | ((with_reducible refine qacq ?_ ?_); (focus rfl)) | ((with_reducible refine qaaj ?_); (try rw [hP]); simp -implicitDefEqProofs [qaae, nums, qabk, qabm, qabn, *]) | ((with_reducible refine qaa1 ?_); (try simp -implicitDefEqProofs [qaae, nums, qabk, qabm, qabn, *])) | ((with_reducible refine qaa7 ?_); (try simp only [qaau, qaab, qaaf])) | ((with_reducible refine qaat rfl (fun h => ?_) (fun h => ?_)) <;> have h' := h <;> (try simp at h') <;> (try subst h')) | ((with_reducible refine qaeg ?_ ?_); (first | omega | (unfold maxLen; omega)); simp -implicitDefEqProofs [qaae, nums, qabk, qabm, qabn, *]) | ((first | refine qab9 (qae7 (may_s k ks wd ms L e hse) (fun σ => rfl) (fun σ => rfl) rfl 0 1 _ (by decide) (by simp) (by simp)) ⟨rfl, rfl, trivial⟩ ⟨rfl, rfl, trivial⟩ ?_ | refine qab9 (qae7 (at_s k ks wd ms L e hs hL) (fun σ => rfl) (fun σ => rfl) rfl 0 1 _ (by decide) (by simp) (by simp)) ⟨rfl, rfl, trivial⟩ ⟨rfl, rfl, trivial⟩ ?_); simp -implicitDefEqProofs [qaae, nums, qabk, qabm, qabn, *]) | (refine fin _ _ _ ?_ ?_) | fail)
 ·exact h'
 ·unfold qakb; rw [if_neg h']
 ·decide
 ·unfold qakb; rw [if_pos ‹_›, if_neg (by omega)]
 ·have hc : qakb k ks wd L e = 0 := by unfold qakb; rw [if_pos ‹_›, if_pos h']
  have hl : qak8 k ks wd L e = L.take (atN k L e) ++ L.drop (atN k L e + 1) := by unfold qak8; rw [if_pos hc]
  have hn : (qak8 k ks wd L e).length = atN k L e + (L.length - (atN k L e + 1)) := by rw [hl]; simp; have := hat2 h'; omega
  rw [show qa4x k ks wd ms L e = [(0, qabm k ks wd ms 2 (qak8 k ks wd L e).length), (2, qabn (qak8 k ks wd L e))] from if_pos hc, hc, hn, hl]
  exact qabr (s' := ⟨[(4, .int .i64 0)], [(0, qabm k ks wd ms 2 (atN k L e + (L.length - (atN k L e + 1)))), (2, qabn (L.take (atN k L e) ++ L.drop (atN k L e + 1)))], 3⟩) (qabg [(0, 0), (1, 1), (2, 47)] hm rfl (by simp) (by simp -implicitDefEqProofs) (by simp -implicitDefEqProofs [qabm, qabn, List.map_take, List.map_drop])) rfl ⟨rfl, rfl, trivial⟩ (by simp)
end Go.Proofs.Ytefkifebgeagiaa
namespace Go.Proofs.Ytefkifebgeagiaa
set_option linter.all false
open Go.RowKit
attribute [local simp] qaao qaan qaac qaah qaad qaag qaal qaam qaaa qaay SOp.run SX.ev putd puts argS upds SOp.touch SSt.keep SSt.skip gets geth puth delh idOf SV.cells? setL qab0 qab1 sbin eq0 eq1 eqL qabz qabd qabe qaau qaak qaab qaap qaaz qaaf qaai FrzOk qaa4 qaaw qaa2 qaa3 qaaq qaav qabb qaax qaas qaa5 qaar frzS frzH frz frz1 frz0 SlotsM ObjsM ObjM rn ren ren1 ren0 qabj qabs qaby qabi qabc qabu qabx CoL qaa6 qab4 dels adds idsH qabv qab3 qaco qac3 qacv
def qafj (a : Entry) (L : List Entry) (b : Int) : Bool := decide (b < 0) || match L[b.toNat]? with
 | some c => decide (a.len > c.len) || decide (a.prio < c.prio)
 | none => false
def qa4s (k wd : Int) (L : List Entry) (xs : List Int) (i : Nat) (b : Int) : Int := match L[i]? with
 | some a => if qanq k wd a xs && qafj a L b then (i : Int) else b
 | none => b
def qanb (k wd : Int) (L : List Entry) (xs : List Int) : Nat → Int
 | 0 => -1
 | i + 1 => qa4s k wd L xs i (qanb k wd L xs i)
def qak2 (k ks wd : Int) (xs : List Int) : Bool := decide ((xs.length : Int) = ks) && !(k == 2 && (decide (wd < 1) || (decide (64 < wd) || qa4r (el xs 0) wd)))
def findI (k ks wd : Int) (L : List Entry) (xs : List Int) : Int := if qak2 k ks wd xs then qanb k wd L xs L.length else -1
def qapu (k ks wd : Int) (L : List Entry) (xs : List Int) : Option Entry := if 0 ≤ findI k ks wd L xs then L[(findI k ks wd L xs).toNat]? else none
def qani (o : Option Entry) : SV := match o with
 | none => .tup [.agg (qadw 0 []), .int .i64 0, .bool false]
 | some e => .tup [.agg (qadw e.act e.args), .int .i64 e.len, .bool true]
theorem qakh {k wd : Int} {L : List Entry} {xs : List Int} {i : Nat} {b : Int} (hi : i < L.length) : qa4s k wd L xs i b = if qanq k wd L[i] xs && qafj L[i] L b then (i : Int) else b := by
 unfold qa4s; rw [List.getElem?_eq_getElem hi]
theorem qahl (k wd : Int) (L : List Entry) (xs : List Int) : ∀ i, i ≤ L.length → qanb k wd L xs i = -1 ∨ ∃ j : Nat, qanb k wd L xs i = j ∧ j < i
 | 0, _ => .inl rfl
 | i + 1, h => by
  have ih := qahl k wd L xs i (by omega)
  show qa4s k wd L xs i (qanb k wd L xs i) = -1 ∨ ∃ j : Nat, qa4s k wd L xs i (qanb k wd L xs i) = j ∧ j < i + 1
  rw [qakh (by omega)]
  generalize qanb k wd L xs i = b at *
  split
  ·exact .inr ⟨i, rfl, by omega⟩
  ·rcases ih with h1 | ⟨j, h1, h2⟩
   ·exact .inl h1
   ·exact .inr ⟨j, h1, by omega⟩
def qamu : SCode := (.seq (.reg false qajy [0, 1, 4, 7]) (.seq (.seq (.reg false qajx [0, 1, 4, 7, 8]) (.block 0 (.loop qagm))) (.seq (.seq (.reg false qahj [0, 4, 7, 112]) (.cond (.t 112) (.seq (.reg false qahi [4, 5, 6]) .ret) .skip)) (.seq (.reg false qahh [4, 9]) (.seq (.reg true qahg [4, 5, 6]) .ret)))))
theorem qaht (X : Cx) (hP : X.P = Try.prog) (hm : X.m = 2) (k ks wd ms : Int) (L : List Entry) (a : Int) (l : List Int) (n : Int) (b : Bool) (cs : List SV) (hp : Hp) (nx : Nat) (hc : CoL cs (qadw a l)) :
  QFun X (Try.f20).results.toList 2 (.tup [.agg (qadw a l), .int .i64 n, .bool b]) (qaci k ks wd ms L) .ret ⟨[(4, .ptr 2 0), (5, .int .i64 n), (6, .bool b)], (0, qabm k ks wd ms 1 L.length) :: (1, qabn L) :: (2, .cells 36 cs) :: hp, nx⟩ :=
 qabr (s' := ⟨[(4, .ptr 2 0), (5, .int .i64 n), (6, .bool b)], [(0, qabm k ks wd ms 1 L.length), (1, qabn L), (2, .cells 36 (qadw a l))], 3⟩) (qabg [(0, 0), (1, 1), (2, 2)] hm rfl (by simp) (by simp -implicitDefEqProofs) (by simp -implicitDefEqProofs [qabm, qabn]; exact hc)) (by simp -implicitDefEqProofs [hP, qagq, resL, resV, show qagr Try.prog 36 = some true from by kernel_rfl, show qab6 Try.prog 36 = some 2 from by kernel_rfl, one_, qadw, nums]) ⟨rfl, rfl, trivial⟩ (by simp)
theorem qaqm (X : Cx) (hP : X.P = Try.prog) (hm : X.m = 2) (k ks wd ms : Int) (L : List Entry) (xs : List Int) (hs : ∀ a ∈ L, qab7 a) (hL : L.length ≤ 1000000) (hok : ∀ a ∈ L, qa1o k a xs) (hf : qak2 k ks wd xs = true) (tl : Sl) (nx : Nat) :
  SWp X qamu (QFun X (Try.f20).results.toList 2 (qani (qapu k ks wd L xs)) (qaci k ks wd ms L)) ⟨(0, .ptr 0 0) :: (1, nums .u64 xs) :: (4, .ptr 2 0) :: tl, [(0, qabm k ks wd ms 1 L.length), (1, qabn L), (2, .cells 36 [.int .i64 0, .nilsl])], nx⟩ := by
 have hI : findI k ks wd L xs = qanb k wd L xs L.length := if_pos hf
 have hnil : CoL [.int .i64 0, .nilsl] (qadw 0 []) := ⟨.refl _, Co.nilsl 1, trivial⟩
 unfold qamu
 repeat' (first | (with_reducible refine qaa8 ?_) | ((with_reducible refine qaaj ?_); (try rw [hP]); simp -implicitDefEqProofs [nums, qabm, qabn, *]) | fail)
 refine qabp (qacm (fun s n => ∃ (i : Nat) (b : Int), s = ⟨[(0, .ptr 0 0), (1, nums .u64 xs), (4, .ptr 2 0), (7, .int .i64 b), (8, .int .i64 i)], [(0, qabm k ks wd ms 1 L.length), (1, qabn L), (2, .cells 36 [.int .i64 0, .nilsl])], 3⟩ ∧ i ≤ L.length ∧ b = qanb k wd L xs i ∧ n = L.length - i) (qabg [(0, 0), (1, 1), (2, 2)] hm rfl (by simp) (by simp -implicitDefEqProofs [nums]) (by simp -implicitDefEqProofs [qabm, qabn])) ⟨0, -1, rfl, by omega, rfl, rfl⟩ ?_)
 rintro s n ⟨i, b, rfl, h1, hb0, rfl⟩
 have hb := qahl k wd L xs i h1
 rw [← hb0] at hb
 unfold qagm
 rcases Nat.lt_or_ge i L.length with hi | hi
 ·have hsu : qanb k wd L xs (i + 1) = if qanq k wd L[i] xs && qafj L[i] L b then (i : Int) else b := by
   rw [← qakh hi, hb0]; rfl
  replace hsu := Lib.hid hsu
  replace hb0 := Lib.hid hb0
  rcases hb with rfl | ⟨j, rfl, hj⟩
  ·
   repeat' (first | (with_reducible first | refine qaa8 ?_ | refine qaa9 ?_) | ((with_reducible refine qacq ?_ ?_); (focus rfl)) | ((with_reducible first | refine qaaj ?_ | refine qabl (by rw [hP]; exact qadh) ?_); (try rw [hP]); simp -implicitDefEqProofs [qaae, nums, qabk, qabm, qabn, *]) | ((with_reducible refine qaa1 ?_); (try simp -implicitDefEqProofs [qaae, nums, qabk, qabm, qabn, *])) | ((with_reducible refine qaat rfl (fun h => ?_) (fun h => ?_)) <;> have h' := h <;> (try simp at h') <;> (try subst h')) | ((with_reducible refine qacg (fun h => ?_) (fun h => ?_)) <;> have h' := h <;> (try simp at h') <;> (try subst h') <;> simp -implicitDefEqProofs [qaae, nums, qabk, qabm, qabn, *]) | (refine qab9 (qae7 (fits_s k ks wd ms L _ _ (hs _ (by simp)) (hok _ (by simp))) (fun σ => rfl) (fun σ => rfl) rfl 0 1 _ (by decide) (by simp) (by simp)) ⟨rfl, rfl, trivial⟩ ⟨rfl, rfl, trivial⟩ ?_; simp -implicitDefEqProofs [qaae, nums, qabk, qabm, qabn, *]) | ((rw [qabt (by omega) (by omega)]; refine qabq (qabg [(0, 0), (1, 1), (2, 2)] hm rfl (by simp) ?_ ?_) ⟨i + 1, i, rfl, by omega, ?_, rfl⟩ (by omega); (focus (simp -implicitDefEqProofs; done)); (focus (simp -implicitDefEqProofs [qabm, qabn]; done)))) | ((rw [qabt (by omega) (by omega)]; refine qabq (qabg [(0, 0), (1, 1), (2, 2)] hm rfl (by simp) ?_ ?_) ⟨i + 1, -1, rfl, by omega, ?_, rfl⟩ (by omega); (focus (simp -implicitDefEqProofs; done)); (focus (simp -implicitDefEqProofs [qabm, qabn]; done)))) | fail)
   all_goals (rw [hsu.out]; unfold qafj; (try simp_all) <;> omega)
  ·have hjL : j < L.length := by omega
   have hj0 : ¬ ((j : Int) < 0) := by omega
   repeat' (first | (with_reducible first | refine qaa8 ?_ | refine qaa9 ?_) | ((with_reducible refine qacq ?_ ?_); (focus rfl)) | ((with_reducible first | refine qaaj ?_ | refine qabl (by rw [hP]; exact qadh) ?_); (try rw [hP]); simp -implicitDefEqProofs [qaae, nums, qabk, qabm, qabn, *]) | ((with_reducible refine qaa1 ?_); (try simp -implicitDefEqProofs [qaae, nums, qabk, qabm, qabn, *])) | ((with_reducible refine qaat rfl (fun h => ?_) (fun h => ?_)) <;> have h' := h <;> (try simp at h') <;> (try subst h')) | ((with_reducible refine qacg (fun h => ?_) (fun h => ?_)) <;> have h' := h <;> (try simp at h') <;> (try subst h') <;> simp -implicitDefEqProofs [qaae, nums, qabk, qabm, qabn, *]) | (refine qab9 (qae7 (fits_s k ks wd ms L _ _ (hs _ (by simp)) (hok _ (by simp))) (fun σ => rfl) (fun σ => rfl) rfl 0 1 _ (by decide) (by simp) (by simp)) ⟨rfl, rfl, trivial⟩ ⟨rfl, rfl, trivial⟩ ?_; simp -implicitDefEqProofs [qaae, nums, qabk, qabm, qabn, *]) | ((rw [qabt (by omega) (by omega)]; refine qabq (qabg [(0, 0), (1, 1), (2, 2)] hm rfl (by simp) ?_ ?_) ⟨i + 1, i, rfl, by omega, ?_, rfl⟩ (by omega); (focus (simp -implicitDefEqProofs; done)); (focus (simp -implicitDefEqProofs [qabm, qabn]; done)))) | ((rw [qabt (by omega) (by omega)]; refine qabq (qabg [(0, 0), (1, 1), (2, 2)] hm rfl (by simp) ?_ ?_) ⟨i + 1, j, rfl, by omega, ?_, rfl⟩ (by omega); (focus (simp -implicitDefEqProofs; done)); (focus (simp -implicitDefEqProofs [qabm, qabn]; done)))) | fail)
   all_goals (rw [hsu.out]; unfold qafj; (try simp_all) <;> omega)
 ·obtain rfl : i = L.length := by omega
  rcases hb with rfl | ⟨j, rfl, hj⟩
  ·have hR : qapu k ks wd L xs = none := by unfold qapu; rw [hI, ← hb0]; rfl
   rw [hR]
   replace hb0 := Lib.hid hb0
   repeat' (first | (with_reducible refine qaa8 ?_) | ((with_reducible refine qaaj ?_); (try rw [hP]); simp -implicitDefEqProofs [qaae, nums, qabk, qabm, qabn, *]) | ((with_reducible refine qabw ?_); (try simp -implicitDefEqProofs [qaae, nums, qabk, qabm, qabn, *])) | ((with_reducible refine qaa7 ?_); (try simp only [qaau, qaab, qaaf])) | ((with_reducible refine qaat rfl (fun h => ?_) (fun h => ?_)) <;> have h' := h <;> (try simp at h') <;> (try subst h')) | (exact qaht X hP hm k ks wd ms L 0 [] 0 false _ _ _ hnil) | fail)
  ·have hR : qapu k ks wd L xs = some L[j] := by
    unfold qapu; rw [hI, ← hb0, if_pos (by omega)]; simp [hj]
   rw [hR]
   have hj0 : ¬ ((j : Int) < 0) := by omega
   replace hb0 := Lib.hid hb0
   repeat' (first | (with_reducible refine qaa8 ?_) | ((with_reducible refine qacq ?_ ?_); (focus rfl)) | ((with_reducible first | refine qaaj ?_ | refine qabl (by rw [hP]; exact qadh) ?_); (try rw [hP]); simp -implicitDefEqProofs [qaae, nums, qabk, qabm, qabn, *]) | ((with_reducible first | refine qaa1 ?_ | refine qabw ?_); (try simp -implicitDefEqProofs [qaae, nums, qabk, qabm, qabn, *])) | ((with_reducible refine qaa7 ?_); (try simp only [qaau, qaab, qaaf])) | ((with_reducible refine qaat rfl (fun h => ?_) (fun h => ?_)) <;> have h' := h <;> (try simp at h') <;> (try subst h')) | (refine qab2 (qals L[j] (hs _ (by simp)) _) ?_; simp -implicitDefEqProofs [qaae, nums, qabk, qabm, qabn, *]) | (exact qaht X hP hm k ks wd ms L L[j].act L[j].args L[j].len true _ _ _ (.refl _)) | fail)
theorem rfind_s (k ks wd ms : Int) (L : List Entry) (xs : List Int) (hs : ∀ a ∈ L, qab7 a) (hL : L.length ≤ 1000000) (hk2 : k = 2 → ks = 1) (hok : (xs.length : Int) = ks → ∀ a ∈ L, qa1o k a xs) : SCalls Try.prog 20 [.ptr 0 0, nums .u64 xs] (qaci k ks wd ms L) 2 (qani (qapu k ks wd L xs)) (qaci k ks wd ms L) := by
 refine qaa0 (N := 129) Try.func20 rfl rfl (by kernel_rfl) qalk (by simp) ⟨rfl, rfl, trivial⟩ (qac9 _ _ _ _ _) ?_
 rintro X hP hN hm
 have hnil : CoL [.int .i64 0, .nilsl] (qadw 0 []) := ⟨.refl _, Co.nilsl 1, trivial⟩
 by_cases hf : qak2 k ks wd xs = true
 ·have hf2 := hf
  unfold qak2 at hf2
  simp only [Bool.and_eq_true, decide_eq_true_eq, Bool.not_eq_true', Bool.and_eq_false_iff, beq_eq_false_iff_ne, Bool.or_eq_false_iff, decide_eq_false_iff_not] at hf2
  obtain ⟨rfl, hf3⟩ := hf2
  have b1 : k = 2 → ¬ wd < 1 := fun h => (hf3.resolve_left (fun h2 => h2 h)).1
  have b2 : k = 2 → ¬ 64 < wd := fun h => (hf3.resolve_left (fun h2 => h2 h)).2.1
  have b0 : k = 2 → 0 < xs.length := fun h => by have := hk2 h; omega
  have b3 : k = 2 → ∀ h : 0 < xs.length, qa4r xs[0] wd = false := fun h h2 => by
   have := (hf3.resolve_left (fun h2 => h2 h)).2.2
   rwa [qaer _ _ h2] at this
  have htail := Lib.hid fun tl nx => qaqm X hP hm k xs.length wd ms L xs hs hL (hok rfl) hf tl nx
  clear hk2 hok hf3 hf
  unfold c_rfind qaci qabm qabn
  repeat' (first | ((exact htail.out _ _)) | (with_reducible refine qaa8 ?_) | ((with_reducible refine qacq ?_ ?_); (focus rfl)) | ((with_reducible first | refine qaaj ?_ | refine qabl (by rw [hP]; exact qadh) ?_); (try rw [hP]); simp -implicitDefEqProofs [qaae, nums, qabk, qabm, qabn, *]) | ((with_reducible refine qaa1 ?_); (try simp -implicitDefEqProofs [qaae, nums, qabk, qabm, qabn, *])) | ((with_reducible refine qaat rfl (fun h => ?_) (fun h => ?_)) <;> have h' := h <;> (try simp at h') <;> (try subst h')) | ((with_reducible refine qacg (fun h => ?_) (fun h => ?_)) <;> have h' := h <;> (try simp at h') <;> (try subst h') <;> simp -implicitDefEqProofs [qaae, nums, qabk, qabm, qabn, *]) | (refine qab2 (qabo (qa2i _ _) (fun σ => rfl) (fun σ => rfl) rfl _) ?_; simp -implicitDefEqProofs [qaae, nums, qabk, qabm, qabn, *]) | fail)
 ·have hR : qapu k ks wd L xs = none := by unfold qapu findI; rw [if_neg hf]; rfl
  rw [hR]
  have hlt : k = 2 → (xs.length : Int) = ks → 0 < xs.length := fun h h2 => by have := hk2 h; omega
  clear hk2 hok
  unfold c_rfind qaci qabm qabn
  repeat' (first | (with_reducible refine qaa8 ?_) | ((with_reducible refine qacq ?_ ?_); (focus rfl)) | ((with_reducible first | refine qaaj ?_ | refine qabl (by rw [hP]; exact qadh) ?_); (try rw [hP]); simp -implicitDefEqProofs [qaae, nums, qabk, qabm, qabn, *]) | ((with_reducible refine qaa1 ?_); (try simp -implicitDefEqProofs [qaae, nums, qabk, qabm, qabn, *])) | ((with_reducible refine qaa7 ?_); (try simp only [qaau, qaab, qaaf])) | ((with_reducible refine qaat rfl (fun h => ?_) (fun h => ?_)) <;> have h' := h <;> (try simp at h') <;> (try subst h')) | ((with_reducible refine qacg (fun h => ?_) (fun h => ?_)) <;> have h' := h <;> (try simp at h') <;> (try subst h') <;> simp -implicitDefEqProofs [qaae, nums, qabk, qabm, qabn, *]) | (refine qab2 (qabo (qa2i _ _) (fun σ => rfl) (fun σ => rfl) rfl _) ?_; simp -implicitDefEqProofs [qaae, nums, qabk, qabm, qabn, *]) | (exact qaht X hP hm _ _ _ _ L 0 [] 0 false _ _ _ hnil) | fail)
  all_goals (exfalso; apply hf; unfold qak2; simp_all [el])
end Go.Proofs.Ytefkifebgeagiaa
namespace Go.Proofs.Ytefkifebgeagiaa
set_option linter.all false
open Go.RowKit
attribute [local simp] qaao qaan qaac qaah qaad qaag qaal qaam qaaa qaay SOp.run SX.ev putd puts argS upds SOp.touch SSt.keep SSt.skip gets geth puth delh idOf SV.cells? setL qab0 qab1 sbin eq0 eq1 eqL qabz qabd qabe qaau qaak qaab qaap qaaz qaaf qaai FrzOk qaa4 qaaw qaa2 qaa3 qaaq qaav qabb qaax qaas qaa5 qaar frzS frzH frz frz1 frz0 SlotsM ObjsM ObjM rn ren ren1 ren0 qabj qabs qaby qabi qabc qabu qabx CoL qaa6 qab4 dels adds idsH qabv qab3 qaco qac3 qacv
theorem qadv : ∀ xs : List Int, qagt xs xs = 0
 | [] => rfl
 | x :: xs => by show (if x < x then (-1 : Int) else if x > x then 1 else qagt xs xs) = 0; rw [if_neg (by omega), if_neg (by omega)]; exact qadv xs
theorem qagc : ∀ xs ys : List Int, qagt ys xs = - qagt xs ys
 | [], [] => rfl
 | [], _ :: _ => rfl
 | _ :: _, [] => rfl
 | x :: xs, y :: ys => by
  show (if y < x then (-1 : Int) else if y > x then 1 else qagt ys xs) = - (if x < y then (-1 : Int) else if x > y then 1 else qagt xs ys)
  rw [qagc xs ys]
  (repeat' split) <;> omega
theorem qaps {a b : Entry} (h : qab8 a b = true) : qab8 b a = false := by
 unfold qab8 at h ⊢
 have h1 := qagc a.keys b.keys
 have h2 := qagc a.masks b.masks
 rw [h1, h2]
 (repeat' split at h) <;> (repeat' split) <;> simp_all <;> omega
def qalr (S : List Entry) (n : Nat) (x : Entry) : Bool := match n with
 | 0 => true
 | m + 1 => match S[m]? with
  | some l => qab8 l x
  | none => true
def qa2g (S L : List Entry) (n i : Nat) (b : Int) : Prop :=
 (b = -1 ∧ ∀ j a, j < i → L[j]? = some a → qalr S n a = false) ∨ ∃ (k : Nat) (e : Entry), b = k ∧ k < i ∧ L[k]? = some e ∧ qalr S n e = true ∧ ∀ j a, j < i → L[j]? = some a → qalr S n a = true → qab8 a e = false
theorem qahr {S : List Entry} (hS : S.Pairwise fun a b => qab8 a b = true) {i j : Nat} (hij : i < j) (hj : j < S.length) : qab8 S[i] S[j] = true := List.pairwise_iff_getElem.1 hS i j (by omega) hj hij
theorem qah6 {S : List Entry} (hS : S.Pairwise fun a b => qab8 a b = true) {n m : Nat} (hn : n ≤ S.length) (hm : m < S.length) : qalr S n S[m] = true ↔ n ≤ m := by
 cases n with
 | zero => simp [qalr]
 | succ k =>
  show (match S[k]? with | some l => qab8 l S[m] | none => true) = true ↔ k + 1 ≤ m
  rw [List.getElem?_eq_getElem (by omega)]
  show qab8 S[k] S[m] = true ↔ k + 1 ≤ m
  rcases Nat.lt_or_ge k m with h | h
  ·rw [qahr hS h hm]; simp; omega
  ·have : qab8 S[k] S[m] = false := by
    rcases Nat.lt_or_ge m k with h2 | h2
    ·exact qaps (qahr hS h2 (by omega))
    ·obtain rfl : m = k := by omega
     unfold qab8; rw [if_pos rfl, if_pos (qadv _), if_pos rfl, qadv]; rfl
   rw [this]; simp; omega
theorem qa1j {S L : List Entry} (hS : S.Pairwise fun a b => qab8 a b = true) (hp : S.Perm L) {n : Nat} (hn : n < S.length) {b : Int} (h : qa2g S L n L.length b) : ∃ k : Nat, b = k ∧ L[k]? = some S[n] := by
 have mem : ∀ m (hm : m < S.length), ∃ j, j < L.length ∧ L[j]? = some S[m] := fun m hm => by
  obtain ⟨j, hj⟩ := List.getElem?_of_mem (hp.mem_iff.1 (List.getElem_mem hm))
  exact ⟨j, (List.getElem?_eq_some_iff.1 hj).1, hj⟩
 obtain ⟨j, hj, hjn⟩ := mem n hn
 rcases h with ⟨rfl, h⟩ | ⟨k, e, rfl, hk, he, hc, hb⟩
 ·have := h j _ hj hjn
  rw [(qah6 hS (by omega) hn).2 (Nat.le_refl _)] at this; cases this
 ·refine ⟨k, rfl, ?_⟩
  obtain ⟨m, hm0⟩ := List.getElem?_of_mem (hp.mem_iff.2 (List.mem_of_getElem? he))
  obtain ⟨hm, rfl⟩ := List.getElem?_eq_some_iff.1 hm0
  have h1 := (qah6 hS (by omega) hm).1 hc
  rcases Nat.lt_or_ge n m with h2 | h2
  ·have := hb j _ hj hjn ((qah6 hS (by omega) hn).2 (Nat.le_refl _))
   rw [qahr hS h2 hm] at this; cases this
  ·obtain rfl : m = n := by omega
   exact he
end Go.Proofs.Ytefkifebgeagiaa
namespace Go.Proofs.Ytefkifebgeagiaa
set_option linter.all false
open Go.RowKit
theorem qaw8 (g : Nat → Option SObj) (D : List Nat) (L : List Entry) : List.map ((fun x => List.map (frz0 g D) x) ∘ qaae) L = L.map qaae := rfl
attribute [local simp] qaao qaan qaac qaah qaad qaag qaal qaam qaaa qaay SOp.run SX.ev putd puts argS upds SOp.touch SSt.keep SSt.skip gets geth puth delh idOf SV.cells? setL qab0 qab1 sbin eq0 eq1 eqL qabz qabd qabe qaau qaak qaab qaap qaaz qaaf qaai FrzOk qaa4 qaaw qaa2 qaa3 qaaq qaav qabb qaax qaas qaa5 qaar frzS frzH frz frz1 frz0 SlotsM ObjsM ObjM rn ren ren1 ren0 qabj qabs qaby qabi qabc qabu qabx CoL qaa6 qab4 dels adds idsH qabv qab3 qaco qac3 qacv qaw8
theorem qawe (a b : Entry) (hs : qab7 a) (q : Nat) : SCalls Try.prog 46 [.agg (qaae a), .agg (qaae b)] [] q (.bool (qab8 a b)) [] := qabo (ahead_s a b hs) (fun σ => rfl) (fun σ => rfl) rfl q
theorem qa4k {S L : List Entry} {n i : Nat} {b : Int} (hi : i < L.length) (h : qa2g S L n i b) (hc : qalr S n L[i] = false) : qa2g S L n (i + 1) b := by
 rcases h with ⟨rfl, h⟩ | ⟨k, e, rfl, hk, he, hce, hb⟩
 ·exact .inl ⟨rfl, qaeq hi h hc⟩
 ·exact .inr ⟨k, e, rfl, by omega, he, hce, qaeq (P := fun a => qalr S n a = true → qab8 a e = false) hi hb fun h => by rw [hc] at h; cases h⟩
theorem qa1i {S L : List Entry} {n i : Nat} {b : Int} (hi : i < L.length) (h : qa2g S L n i b) (hc : qalr S n L[i] = true) (hb2 : b = -1 ∨ ∃ (k : Nat) (hk : k < L.length), b = k ∧ qab8 L[i] L[k] = true) (hS : ∀ a ∈ L, ∀ c ∈ L, ∀ d ∈ L, qab8 a c = true → qab8 d c = false → qab8 d a = false) : qa2g S L n (i + 1) i := by
 refine .inr ⟨i, L[i], rfl, by omega, by simp [hi], hc, ?_⟩
 have hself : qab8 L[i] L[i] = false := by unfold qab8; rw [if_pos rfl, if_pos (qadv _), if_pos rfl, qadv]; rfl
 rcases h with ⟨rfl, h⟩ | ⟨k, e, rfl, hk, he, hce, hb⟩
 ·exact qaeq (P := fun a => qalr S n a = true → qab8 a L[i] = false) hi (fun j a hj ha hca => by rw [h j a hj ha] at hca; cases hca) fun _ => hself
 ·rcases hb2 with h2 | ⟨k2, hk2, h2, h3⟩
  ·omega
  ·obtain rfl : k = k2 := by omega
   rw [List.getElem?_eq_getElem hk2] at he; cases he
   exact qaeq (P := fun a => qalr S n a = true → qab8 a L[i] = false) hi (fun j a hj ha hca => hS L[i] (List.getElem_mem _) L[k] (List.getElem_mem _) a (List.mem_of_getElem? ha) h3 (hb j a hj ha hca)) fun _ => hself
theorem qa1h {S L : List Entry} {n i : Nat} {k : Nat} (hi : i < L.length) (hk : k < L.length) (h : qa2g S L n i k) (hn : qab8 L[i] L[k] = false) : qa2g S L n (i + 1) k := by
 rcases h with ⟨h1, h⟩ | ⟨k2, e, h1, hk2, he, hce, hb⟩
 ·omega
 ·obtain rfl : k = k2 := by omega
  rw [List.getElem?_eq_getElem hk] at he; cases he
  exact .inr ⟨k, L[k], rfl, by omega, by simp [hk], hce, qaeq (P := fun a => qalr S n a = true → qab8 a L[k] = false) hi hb fun _ => hn⟩
theorem qaf6 {S : List Entry} (hS : S.Pairwise fun a b => qab8 a b = true) {i j : Nat} (hi : i < S.length) (hj : j < S.length) : qab8 S[i] S[j] = true ↔ i < j := by
 have := qah6 hS (n := i + 1) (m := j) (by omega) hj
 unfold qalr at this
 simp only [List.getElem?_eq_getElem hi] at this
 exact this
theorem qawn {S L : List Entry} (hS : S.Pairwise fun a b => qab8 a b = true) (hp : S.Perm L) : ∀ a ∈ L, ∀ c ∈ L, ∀ d ∈ L, qab8 a c = true → qab8 d c = false → qab8 d a = false := by
 intro a ha c hc d hd h1 h2
 obtain ⟨i, hi0⟩ := List.getElem?_of_mem (hp.mem_iff.2 ha)
 obtain ⟨j, hj0⟩ := List.getElem?_of_mem (hp.mem_iff.2 hc)
 obtain ⟨m, hm0⟩ := List.getElem?_of_mem (hp.mem_iff.2 hd)
 obtain ⟨hi, rfl⟩ := List.getElem?_eq_some_iff.1 hi0
 obtain ⟨hj, rfl⟩ := List.getElem?_eq_some_iff.1 hj0
 obtain ⟨hm, rfl⟩ := List.getElem?_eq_some_iff.1 hm0
 have k1 := (qaf6 hS hi hj).1 h1
 have k2 : ¬ m < j := fun h => by rw [(qaf6 hS hm hj).2 h] at h2; cases h2
 cases h3 : qab8 S[m] S[i] with
 | false => rfl
 | true => have := (qaf6 hS hm hi).1 h3; omega
set_option maxHeartbeats 4000000 in
theorem rall_s (k ks wd ms : Int) (L S : List Entry) (hs : ∀ a ∈ L, qab7 a) (hL : L.length ≤ 1000000) (hS : S.Pairwise fun a b => qab8 a b = true) (hp : S.Perm L) : SCalls Try.prog 24 [.ptr 0 0] (qaci k ks wd ms L) 2 (ents S) (qaci k ks wd ms L) := by
 refine qaa0 (N := 75) Try.func24 rfl rfl (by kernel_rfl) qan4 (by simp) ⟨rfl, trivial⟩ (qac9 _ _ _ _ _) ?_
 rintro X hP hN hm
 have hlen : S.length = L.length := hp.length_eq
 have hsS : ∀ a ∈ S, qab7 a := fun a ha => hs a (hp.mem_iff.1 ha)
 unfold c_rall qaci qabm qabn
 repeat' (first | (with_reducible refine qaa8 ?_) | ((with_reducible refine qaaj ?_); (try rw [hP]); simp -implicitDefEqProofs [*]) | fail)
 refine qaef (qapx 3 29 6 rfl) ?_
 refine qabp (qacm (fun s m => ∃ n : Nat, s = ⟨[(0, .ptr 0 0), (3, .own 2 n)], [(0, qabm k ks wd ms 1 L.length), (1, qabn L), (2, .row 29 6 ((S.take n).map qaae))], 3⟩ ∧ n ≤ L.length ∧ m = L.length - n) (qabg [(0, 0), (1, 1), (2, 4)] hm rfl (by simp) (by simp -implicitDefEqProofs) (by simp -implicitDefEqProofs [qabm, qabn])) ⟨0, rfl, by omega, rfl⟩ ?_)
 rintro s m ⟨n, rfl, hn, rfl⟩
 unfold qamv
 repeat' (first | (with_reducible first | refine qaa8 ?_ | refine qaa9 ?_) | ((with_reducible refine qaaj ?_); (try rw [hP]); simp -implicitDefEqProofs [qaae, nums, qabm, qabn, *]) | ((with_reducible first | refine qaa1 ?_ | refine qabw ?_); (try simp -implicitDefEqProofs [qaae, nums, qabm, qabn, *])) | ((with_reducible refine qaa7 ?_); (try simp only [qaau, qaab, qaaf])) | ((with_reducible refine qaat rfl (fun h => ?_) (fun h => ?_)) <;> have h' := h <;> (try simp at h') <;> (try subst h')) | fail)
 ·have hnS : n < S.length := by omega
  have hsh := qawn hS hp
  refine qabp (qacm (fun s m => ∃ (i : Nat) (b : Int), s = ⟨[(0, .ptr 0 0), (3, .own 2 n), (4, .int .i64 b), (5, .int .i64 i)], [(0, qabm k ks wd ms 1 L.length), (1, qabn L), (2, .row 29 6 ((S.take n).map qaae))], 3⟩ ∧ i ≤ L.length ∧ qa2g S L n i b ∧ m = L.length - i) (qabg [(0, 0), (1, 1), (2, 2)] hm rfl (by simp) (by simp -implicitDefEqProofs) (by simp -implicitDefEqProofs [qabm, qabn])) ⟨0, -1, rfl, by omega, .inl ⟨rfl, by intro j a hj; omega⟩, rfl⟩ ?_)
  rintro s m ⟨i, b, rfl, h1, hb, rfl⟩
  unfold qamw
  rcases Nat.lt_or_ge i L.length with hi | hi
  ·have hbr : b = -1 ∨ ∃ k : Nat, b = k ∧ k < i := by
    rcases hb with ⟨h, _⟩ | ⟨k, _, h, h2, _⟩
    ·exact .inl h
    ·exact .inr ⟨k, h, h2⟩
   have hno := fun hc => qa4k hi hb hc
   have hnew := fun hc hb2 => qa1i hi hb hc hb2 hsh
   have hold := fun (k : Nat) (hk : k < L.length) (e : b = k) hn => qa1h (k := k) hi hk (by rw [← e]; exact hb) hn
   replace hno := Lib.hid hno
   replace hnew := Lib.hid hnew
   replace hold := Lib.hid hold
   replace hb := Lib.hid hb
   cases n with
   | zero =>
    have hcand : qalr S 0 L[i] = true := rfl
    replace hcand := Lib.hid hcand
    rcases hbr with rfl | ⟨q, rfl, hq⟩
    ·
     repeat' (first | (with_reducible first | refine qaa8 ?_ | refine qaa9 ?_) | ((with_reducible refine qacq ?_ ?_); (focus rfl)) | ((with_reducible first | refine qaaj ?_ | refine qabl (by rw [hP]; exact qadh) ?_); (try rw [hP]); simp -implicitDefEqProofs [qaae, nums, qabm, qabn, *]) | ((with_reducible refine qaa1 ?_); (try simp -implicitDefEqProofs [qaae, nums, qabm, qabn, *])) | ((with_reducible refine qaat rfl (fun h => ?_) (fun h => ?_)) <;> have h' := h <;> (try simp at h') <;> (try subst h')) | ((rw [qabt (by omega) (by omega)]; refine qabq (qabg [(0, 0), (1, 1), (2, 2)] hm rfl (by simp) ?_ ?_) ⟨i + 1, i, rfl, by omega, ?_, rfl⟩ (by omega); (focus (simp -implicitDefEqProofs; done)); (focus (simp -implicitDefEqProofs [qabm, qabn]; done)))) | fail)
     all_goals first
      | exact hno.out (hcand.out.trans ‹_›)
      | exact hnew.out hcand.out (.inl rfl)
      | exact hnew.out hcand.out (.inr ⟨_, ‹_›, rfl, ‹_›⟩)
      | exact hnew.out (hcand.out.trans ‹_›) (.inl rfl)
      | exact hnew.out (hcand.out.trans ‹_›) (.inr ⟨_, ‹_›, rfl, ‹_›⟩)
      | exact hold.out _ ‹_› rfl ‹_›
    ·have hqL : q < L.length := by omega
     have hq0 : ¬ ((q : Int) < 0) := by omega
     repeat' (first | (with_reducible first | refine qaa8 ?_ | refine qaa9 ?_) | ((with_reducible refine qacq ?_ ?_); (focus rfl)) | ((with_reducible first | refine qaaj ?_ | refine qabl (by rw [hP]; exact qadh) ?_); (try rw [hP]); simp -implicitDefEqProofs [qaae, nums, qabm, qabn, *]) | ((with_reducible refine qaa1 ?_); (try simp -implicitDefEqProofs [qaae, nums, qabm, qabn, *])) | ((with_reducible refine qaat rfl (fun h => ?_) (fun h => ?_)) <;> have h' := h <;> (try simp at h') <;> (try subst h')) | (refine qab2 (qawe _ _ (by first | exact hs _ (by simp) | exact hsS _ (by simp)) _) ?_; simp -implicitDefEqProofs [qaae, nums, qabm, qabn, *]) | ((rw [qabt (by omega) (by omega)]; refine qabq (qabg [(0, 0), (1, 1), (2, 2)] hm rfl (by simp) ?_ ?_) ⟨i + 1, i, rfl, by omega, ?_, rfl⟩ (by omega); (focus (simp -implicitDefEqProofs; done)); (focus (simp -implicitDefEqProofs [qabm, qabn]; done)))) | ((rw [qabt (by omega) (by omega)]; refine qabq (qabg [(0, 0), (1, 1), (2, 2)] hm rfl (by simp) ?_ ?_) ⟨i + 1, q, rfl, by omega, ?_, rfl⟩ (by omega); (focus (simp -implicitDefEqProofs; done)); (focus (simp -implicitDefEqProofs [qabm, qabn]; done)))) | fail)
     all_goals first
      | exact hno.out (hcand.out.trans ‹_›)
      | exact hnew.out hcand.out (.inl rfl)
      | exact hnew.out hcand.out (.inr ⟨_, ‹_›, rfl, ‹_›⟩)
      | exact hnew.out (hcand.out.trans ‹_›) (.inl rfl)
      | exact hnew.out (hcand.out.trans ‹_›) (.inr ⟨_, ‹_›, rfl, ‹_›⟩)
      | exact hold.out _ ‹_› rfl ‹_›
   | succ m =>
    have hmS : m < S.length := by omega
    have hwm : IntKind.i64.wrap (m : Int) = m := IntWalk.i64_in _ ⟨by omega, by omega⟩
    have hcand : qalr S (m + 1) L[i] = qab8 S[m] L[i] := by unfold qalr; simp only [List.getElem?_eq_getElem hmS]
    replace hcand := Lib.hid hcand
    rcases hbr with rfl | ⟨q, rfl, hq⟩
    ·
     repeat' (first | (with_reducible first | refine qaa8 ?_ | refine qaa9 ?_) | ((with_reducible refine qacq ?_ ?_); (focus rfl)) | ((with_reducible first | refine qaaj ?_ | refine qabl (by rw [hP]; exact qadh) ?_); (try rw [hP]); simp -implicitDefEqProofs [qaae, nums, qabm, qabn, *]) | ((with_reducible first | refine qaa1 ?_ | refine qabw ?_); (try simp -implicitDefEqProofs [qaae, nums, qabm, qabn, *])) | ((with_reducible refine qaat rfl (fun h => ?_) (fun h => ?_)) <;> have h' := h <;> (try simp at h') <;> (try subst h')) | ((with_reducible refine qaeg ?_ ?_); (first | omega | (unfold maxLen; omega)); simp -implicitDefEqProofs [qaae, nums, qabm, qabn, *]) | (refine qab2 (qawe _ _ (by first | exact hs _ (by simp) | exact hsS _ (by simp)) _) ?_; simp -implicitDefEqProofs [qaae, nums, qabm, qabn, *]) | ((rw [qabt (by omega) (by omega)]; refine qabq (qabg [(0, 0), (1, 1), (2, 2)] hm rfl (by simp) ?_ ?_) ⟨i + 1, i, rfl, by omega, ?_, rfl⟩ (by omega); (focus (simp -implicitDefEqProofs; done)); (focus (simp -implicitDefEqProofs [qabm, qabn]; done)))) | ((rw [qabt (by omega) (by omega)]; refine qabq (qabg [(0, 0), (1, 1), (2, 2)] hm rfl (by simp) ?_ ?_) ⟨i + 1, -1, rfl, by omega, ?_, rfl⟩ (by omega); (focus (simp -implicitDefEqProofs; done)); (focus (simp -implicitDefEqProofs [qabm, qabn]; done)))) | fail)
     all_goals first
      | exact hno.out (hcand.out.trans ‹_›)
      | exact hnew.out hcand.out (.inl rfl)
      | exact hnew.out hcand.out (.inr ⟨_, ‹_›, rfl, ‹_›⟩)
      | exact hnew.out (hcand.out.trans ‹_›) (.inl rfl)
      | exact hnew.out (hcand.out.trans ‹_›) (.inr ⟨_, ‹_›, rfl, ‹_›⟩)
      | exact hold.out _ ‹_› rfl ‹_›
    ·have hqL : q < L.length := by omega
     have hq0 : ¬ ((q : Int) < 0) := by omega
     repeat' (first | (with_reducible first | refine qaa8 ?_ | refine qaa9 ?_) | ((with_reducible refine qacq ?_ ?_); (focus rfl)) | ((with_reducible first | refine qaaj ?_ | refine qabl (by rw [hP]; exact qadh) ?_); (try rw [hP]); simp -implicitDefEqProofs [qaae, nums, qabm, qabn, *]) | ((with_reducible first | refine qaa1 ?_ | refine qabw ?_); (try simp -implicitDefEqProofs [qaae, nums, qabm, qabn, *])) | ((with_reducible refine qaat rfl (fun h => ?_) (fun h => ?_)) <;> have h' := h <;> (try simp at h') <;> (try subst h')) | ((with_reducible refine qaeg ?_ ?_); (first | omega | (unfold maxLen; omega)); simp -implicitDefEqProofs [qaae, nums, qabm, qabn, *]) | (refine qab2 (qawe _ _ (by first | exact hs _ (by simp) | exact hsS _ (by simp)) _) ?_; simp -implicitDefEqProofs [qaae, nums, qabm, qabn, *]) | ((rw [qabt (by omega) (by omega)]; refine qabq (qabg [(0, 0), (1, 1), (2, 2)] hm rfl (by simp) ?_ ?_) ⟨i + 1, i, rfl, by omega, ?_, rfl⟩ (by omega); (focus (simp -implicitDefEqProofs; done)); (focus (simp -implicitDefEqProofs [qabm, qabn]; done)))) | ((rw [qabt (by omega) (by omega)]; refine qabq (qabg [(0, 0), (1, 1), (2, 2)] hm rfl (by simp) ?_ ?_) ⟨i + 1, q, rfl, by omega, ?_, rfl⟩ (by omega); (focus (simp -implicitDefEqProofs; done)); (focus (simp -implicitDefEqProofs [qabm, qabn]; done)))) | fail)
     all_goals first
      | exact hno.out (hcand.out.trans ‹_›)
      | exact hnew.out hcand.out (.inl rfl)
      | exact hnew.out hcand.out (.inr ⟨_, ‹_›, rfl, ‹_›⟩)
      | exact hnew.out (hcand.out.trans ‹_›) (.inl rfl)
      | exact hnew.out (hcand.out.trans ‹_›) (.inr ⟨_, ‹_›, rfl, ‹_›⟩)
      | exact hold.out _ ‹_› rfl ‹_›
  ·obtain rfl : i = L.length := by omega
   obtain ⟨q, rfl, hqe⟩ := qa1j hS hp hnS hb
   obtain ⟨hqL, hqe2⟩ := List.getElem?_eq_some_iff.1 hqe
   have hn1 : n ≤ S.length := by omega
   replace hb := Lib.hid hb
   have hz1 : n + 1 ≤ maxLen ∧ (n + 1) * 96 ≤ 140737488355328 := by unfold maxLen; omega
   repeat' (first | (with_reducible refine qaa8 ?_) | ((with_reducible refine qaaj ?_); (try rw [hP]); simp -implicitDefEqProofs [qaae, nums, qabm, qabn, *]) | ((with_reducible refine qabw ?_); (try simp -implicitDefEqProofs [qaae, nums, qabm, qabn, *])) | ((with_reducible refine qaat rfl (fun h => ?_) (fun h => ?_)) <;> have h' := h <;> (try simp at h') <;> (try subst h')) | (refine qab2 (qals S[n] (hsS _ (List.getElem_mem _)) _) ?_; simp -implicitDefEqProofs [qaae, nums, qabm, qabn, *]) | fail)
   have hrow : List.take (n + 1) (List.map qaae S) = List.take n (List.map qaae S) ++ [qaae S[n]] := by
    rw [← List.map_take, List.take_succ_eq_append_getElem hnS, List.map_append, List.map_take]; rfl
   exact qabq (qabg [(0, 0), (1, 1), (2, 27)] hm rfl (by simp) (by simp -implicitDefEqProofs) (by simp -implicitDefEqProofs [qabm, qabn]; rw [hrow]; exact .refl _)) ⟨n + 1, rfl, by omega, rfl⟩ (by omega)
 ·obtain rfl : n = S.length := by omega
  exact qabr (s' := ⟨[(2, ents S)], [(0, qabm k ks wd ms 1 L.length), (1, qabn L)], 2⟩) (wk_fz [2] [(0, 0), (1, 1)] hm rfl (by simp -implicitDefEqProofs [qag0]) rfl (by simp) (by simp -implicitDefEqProofs [ents]) (by simp -implicitDefEqProofs [qabm, qabn])) rfl ⟨rfl, rfl, trivial⟩ (by simp)
end Go.Proofs.Ytefkifebgeagiaa
namespace Go.Proofs.Ytefkifebgeagiaa
set_option linter.all false
open Go.RowKit
theorem qa1w (L : List Entry) : ∀ x ∈ L.map qaae, x.all ok2 = true := by
 intro x hx
 obtain ⟨e, _, rfl⟩ := List.mem_map.1 hx
 rfl
theorem qahs {f : FuncId} {args : List SV} {r : SV} {k ks wd ms : Int} {L L' : List Entry} (h : SCalls Try.prog f (.ptr 0 0 :: args) (qaci k ks wd ms L) 2 r (qaci k ks wd ms L')) (ha : ∀ σ, args.map (ren σ) = args) (hr : ∀ σ, ren σ r = r) (hk : ok2 r = true)
  (a b q : Nat) (hab : a ≠ b) (haq : a < q) (hbq : b < q) : SCalls Try.prog f (.ptr a 0 :: args) (qabk a b k ks wd ms L) q r (qabk a b k ks wd ms L') := by
 have g0 : ∀ L, geth (qabk a b k ks wd ms L) a = some (qabm k ks wd ms b L.length) := fun L => by simp [qabk, geth]
 have g1 : ∀ L, geth (qabk a b k ks wd ms L) b = some (qabn L) := fun L => by simp [qabk, geth, hab]
 refine qacj [a, b] h rfl (by simp [hab]) (by simp; omega) ?_ ⟨⟨_, g0 L, rfl, .refl _⟩, ⟨_, g1 L, rfl, rfl, ?_⟩, trivial⟩ (by simp [idsH, qaci]) (hr _).symm hk ⟨⟨_, g0 L', rfl, rfl, rfl⟩, ⟨_, g1 L', rfl, rfl, qa1w L', ?_⟩, trivial⟩ (by simp [idsH, qaci]) rfl
 ·show _ = _ :: args.map _
  rw [ha]; rfl
 ·rw [qab3]; exact .refl _
 ·exact (qab3 _ L').symm
theorem qaqj {f : FuncId} {args : List SV} {r : SV} {k ks wd ms : Int} {L L' : List Entry} (h : SCalls Try.prog f (.ptr 0 0 :: args) (qaci k ks wd ms L) 2 r [(0, qabm k ks wd ms 2 L'.length), (2, qabn L')]) (ha : ∀ σ, args.map (ren σ) = args) (hr : ∀ σ, ren σ r = r) (hk : ok2 r = true)
  (a b q : Nat) (hab : a ≠ b) (haq : a < q) (hbq : b < q) : SCalls Try.prog f (.ptr a 0 :: args) (qabk a b k ks wd ms L) q r (qabk a q k ks wd ms L') := by
 have g0 : geth (qabk a b k ks wd ms L) a = some (qabm k ks wd ms b L.length) := by simp [qabk, geth]
 have g1 : geth (qabk a b k ks wd ms L) b = some (qabn L) := by simp [qabk, geth, hab]
 have g2 : geth (qabk a q k ks wd ms L') a = some (qabm k ks wd ms q L'.length) := by simp [qabk, geth]
 have g3 : geth (qabk a q k ks wd ms L') q = some (qabn L') := by simp [qabk, geth, Nat.ne_of_lt haq]
 have e2 : sg [a, b] q 2 = q := rfl
 refine qacj [a, b] h rfl (by simp [hab]) (by simp; omega) ?_ ⟨⟨_, g0, rfl, .refl _⟩, ⟨_, g1, rfl, rfl, ?_⟩, trivial⟩ (by simp [idsH, qaci]) (hr _).symm hk ⟨⟨_, g2, rfl, rfl, rfl⟩, ⟨qabn L', by rw [e2]; exact g3, rfl, rfl, qa1w L', ?_⟩, trivial⟩ (by simp [idsH]) rfl
 ·show _ = _ :: args.map _
  rw [ha]; rfl
 ·rw [qab3]; exact .refl _
 ·exact (qab3 _ L').symm
theorem qa4m (L : List Entry) (x : Entry) : (L ++ [x]).length = L.length + 1 := by simp
theorem raddY (k ks wd ms : Int) (L : List Entry) (e : Entry) (hs : ∀ a ∈ L, qab7 a) (hse : qab7 e) (hL : L.length ≤ 1000000) (hok : qa1n k ks L) (h0 : addC k ks wd ms L e = 0) (a b q : Nat) (hab : a ≠ b) (haq : a < q) (hbq : b < q) :
  SCalls Try.prog 16 [.ptr a 0, .agg (qaae e)] (qabk a b k ks wd ms L) q (.int .i64 0) (qabk a q k ks wd ms (L ++ [qaka k e])) := by
 have := radd_s k ks wd ms L e hs hse hL hok
 rw [qawh h0, h0, ← qa4m] at this
 exact qaqj this (fun σ => rfl) (fun σ => rfl) rfl a b q hab haq hbq
theorem raddN (k ks wd ms : Int) (L : List Entry) (e : Entry) (hs : ∀ a ∈ L, qab7 a) (hse : qab7 e) (hL : L.length ≤ 1000000) (hok : qa1n k ks L) (h0 : addC k ks wd ms L e ≠ 0) (a b q : Nat) (hab : a ≠ b) (haq : a < q) (hbq : b < q) :
  SCalls Try.prog 16 [.ptr a 0, .agg (qaae e)] (qabk a b k ks wd ms L) q (.int .i64 (addC k ks wd ms L e)) (qabk a b k ks wd ms L) := by
 have := radd_s k ks wd ms L e hs hse hL hok
 rw [addH_no h0] at this
 exact qahs this (fun σ => rfl) (fun σ => rfl) rfl a b q hab haq hbq
theorem rdropY (k ks wd ms : Int) (L : List Entry) (e : Entry) (hs : ∀ a ∈ L, qab7 a) (hse : qab7 e) (hL : L.length ≤ 1000000) (h0 : qakb k ks wd L e = 0) (a b q : Nat) (hab : a ≠ b) (haq : a < q) (hbq : b < q) :
  SCalls Try.prog 19 [.ptr a 0, .agg (qaae e)] (qabk a b k ks wd ms L) q (.int .i64 0) (qabk a q k ks wd ms (qak8 k ks wd L e)) := by
 have := qa1z k ks wd ms L e hs hse hL
 rw [show qa4x k ks wd ms L e = [(0, qabm k ks wd ms 2 (qak8 k ks wd L e).length), (2, qabn (qak8 k ks wd L e))] from if_pos h0, h0] at this
 exact qaqj this (fun σ => rfl) (fun σ => rfl) rfl a b q hab haq hbq
theorem rdropN (k ks wd ms : Int) (L : List Entry) (e : Entry) (hs : ∀ a ∈ L, qab7 a) (hse : qab7 e) (hL : L.length ≤ 1000000) (h0 : qakb k ks wd L e ≠ 0) (a b q : Nat) (hab : a ≠ b) (haq : a < q) (hbq : b < q) :
  SCalls Try.prog 19 [.ptr a 0, .agg (qaae e)] (qabk a b k ks wd ms L) q (.int .i64 (qakb k ks wd L e)) (qabk a b k ks wd ms L) := by
 have := qa1z k ks wd ms L e hs hse hL
 rw [show qa4x k ks wd ms L e = qaci k ks wd ms L from if_neg h0] at this
 exact qahs this (fun σ => rfl) (fun σ => rfl) rfl a b q hab haq hbq
theorem rchgA (k ks wd ms : Int) (L : List Entry) (e : Entry) (hs : ∀ a ∈ L, qab7 a) (hse : qab7 e) (hL : L.length ≤ 1000000) (a b q : Nat) (hab : a ≠ b) (haq : a < q) (hbq : b < q) :
  SCalls Try.prog 18 [.ptr a 0, .agg (qaae e)] (qabk a b k ks wd ms L) q (.int .i64 (chgC k ks wd L e)) (qabk a b k ks wd ms (chgL k ks wd L e)) :=
 qahs (rchg_s k ks wd ms L e hs hse hL) (fun σ => rfl) (fun σ => rfl) rfl a b q hab haq hbq
theorem qaqn (σ : Nat → Nat) (o : Option Entry) : ren σ (qani o) = qani o := by cases o <;> rfl
theorem rfindA (k ks wd ms : Int) (L : List Entry) (xs : List Int) (hs : ∀ a ∈ L, qab7 a) (hL : L.length ≤ 1000000) (hk2 : k = 2 → ks = 1) (hok : (xs.length : Int) = ks → ∀ a ∈ L, qa1o k a xs) (a b q : Nat) (hab : a ≠ b) (haq : a < q) (hbq : b < q) :
  SCalls Try.prog 20 [.ptr a 0, nums .u64 xs] (qabk a b k ks wd ms L) q (qani (qapu k ks wd L xs)) (qabk a b k ks wd ms L) :=
 qae7 (rfind_s k ks wd ms L xs hs hL hk2 hok) (fun σ => rfl) (fun σ => qaqn σ _) (by cases qapu k ks wd L xs <;> rfl) a b q hab haq hbq
theorem rallA (k ks wd ms : Int) (L S : List Entry) (hs : ∀ a ∈ L, qab7 a) (hL : L.length ≤ 1000000) (hS : S.Pairwise fun a b => qab8 a b = true) (hp : S.Perm L) (a b q : Nat) (hab : a ≠ b) (haq : a < q) (hbq : b < q) :
  SCalls Try.prog 24 [.ptr a 0] (qabk a b k ks wd ms L) q (ents S) (qabk a b k ks wd ms L) :=
 qae7 (rall_s k ks wd ms L S hs hL hS hp) (fun σ => rfl) (fun σ => rfl) rfl a b q hab haq hbq
end Go.Proofs.Ytefkifebgeagiaa
namespace Go.Proofs.Ytefkifebgeagiaa
set_option linter.all false
open Go.RowKit
theorem qaiq : ∀ xs ys : List Int, qagt xs ys = cmpL xs ys
 | [], [] => rfl
 | [], _ :: _ => rfl
 | _ :: _, [] => rfl
 | x :: xs, y :: ys => by
  have ih := qaiq xs ys
  simp only [qagt, cmpL, ih]
  unfold cmpI
  by_cases h1 : x < y
  ·simp [h1]
  ·by_cases h2 : y < x
   ·simp [h1, h2]
   ·simp [h1, h2]
theorem qalv {a m : Int} (ha : 0 ≤ a ∧ a ≤ 18446744073709551615) : bits .andNot .u64 a m = 0 ↔ bits .and .u64 a m = a := by
 obtain ⟨v, rfl⟩ := u64_bv ha
 rw [qalu, qac7, qahk, qawc, show (0 : Int) = ((0#64).toNat : Int) by rfl, qawc]
 constructor
 ·intro h
  ext i hi
  have := congrArg (fun z => z.getLsbD i) h
  simp [hi] at this ⊢
  exact this
 ·intro h
  ext i hi
  have := congrArg (fun z => z.getLsbD i) h
  simp [hi] at this ⊢
  exact this
theorem qain : ∀ ks ms : List Int, ks.length = ms.length → (∀ x ∈ ks, 0 ≤ x ∧ x ≤ 18446744073709551615) → mayB ks ms = qap2 ks ms
 | [], ms, _, _ => by cases ms <;> simp [mayB, qap2]
 | _ :: _, [], h, _ => by simp at h
 | a :: ks, m :: ms, h, hf => by
  have ih := qain ks ms (by simpa using h) fun x hx => hf x (by simp [hx])
  have h1 := qalv (m := m) (hf a (by simp))
  have e : mayB (a :: ks) (m :: ms) = ((bits .and .u64 a m == a) && mayB ks ms) := by
   unfold mayB
   rw [List.length_cons, List.range_succ_eq_map, List.all_cons, List.all_map]
   rfl
  rw [e, qap2, ih]
  by_cases h2 : bits .and .u64 a m = a
  ·rw [if_neg (by rw [h1.2 h2]; simp), beq_iff_eq.2 h2, Bool.true_and]
  ·rw [if_pos (fun h3 => h2 (h1.1 h3)), beq_eq_false_iff_ne.2 h2, Bool.false_and]
theorem qard {k wd : Int} {e : Entry} (hf : ∀ x ∈ e.keys, 0 ≤ x ∧ x ≤ 18446744073709551615) : mayC 3 k wd e = if qaed k e = true then 0 else 6 := by
 unfold mayC qaed
 rw [if_neg (by decide), if_neg (by decide), if_pos rfl]
 by_cases h1 : (e.keys.length : Int) = k
 ·by_cases h2 : (e.masks.length : Int) = k
  ·have h3 := qain e.keys e.masks (by omega) hf
   rw [h3, if_neg (show ¬ ((e.keys.length : Int) ≠ k ∨ (e.masks.length : Int) ≠ k) by omega)]
   by_cases h4 : 0 ≤ e.prio
   ·by_cases h5 : e.prio ≤ 1000
    ·simp [h1, h2, h4, h5]
    ·simp [h5]
   ·simp [h4]
  ·simp [h2]
 ·simp [h1]
theorem qakq (a b : Entry) : oneB 3 a b = (ordE a b == 0) := by
 have h := qacu a b
 unfold oneB
 by_cases hz : ordE a b = 0
 ·obtain ⟨h1, h2, h3⟩ := h.1 hz
  simp [h1, h2, h3, hz]
 ·rw [beq_eq_false_iff_ne.2 hz]
  by_cases h1 : a.prio = b.prio
  ·by_cases h2 : a.masks = b.masks
   ·by_cases h3 : a.keys = b.keys
    ·exact absurd (h.2 ⟨h1, h3, h2⟩) hz
    ·simp [h3]
   ·simp [h2]
  ·simp [h1]
theorem qand (L : List Entry) (e : Entry) : 0 ≤ atI 3 L e ↔ ∃ x ∈ L, ordE x e = 0 := by
 unfold atI
 constructor
 ·intro h
  split at h
  ·rename_i h1
   have := qafu _ _ (show qadi _ L.length < L.length from h1)
   split at this
   ·rename_i a ha
    exact ⟨a, List.mem_of_getElem? ha, by rw [qakq] at this; simpa using this⟩
   ·cases this
  ·omega
 ·rintro ⟨x, hx, ho⟩
  obtain ⟨i, hi, rfl⟩ := List.mem_iff_getElem.1 hx
  split
  ·omega
  ·rename_i h1
   have h9 : atN 3 L e = L.length := Nat.le_antisymm (qah3 _ _) (by omega)
   have h2 := qarr _ _ h9 i hi
   simp only [List.getElem?_eq_getElem hi] at h2
   rw [qakq, ho] at h2
   simp at h2
theorem qap6 (l : List Entry) (e : Entry) : 0 ≤ tatV l e ↔ ∃ x ∈ l, ordE x e = 0 := by
 unfold tatV idxV
 split
 ·rename_i i hi
  obtain ⟨h1, h2, _⟩ := List.findIdx?_eq_some_iff_getElem.1 hi
  exact ⟨fun _ => ⟨_, List.getElem_mem h1, by simpa using h2⟩, fun _ => by omega⟩
 ·rename_i hi
  have h1 := List.findIdx?_eq_none_iff.1 hi
  constructor
  ·intro h; omega
  ·rintro ⟨x, hx, ho⟩
   have := h1 x hx
   rw [ho] at this; simp at this
theorem qar8 (l : List Entry) (e : Entry) : 0 ≤ qai5 l e ↔ ∃ x ∈ l, (x.prio == e.prio && qaib x e) = true := by
 unfold qai5 idxV
 split
 ·rename_i i hi
  obtain ⟨h1, h2, _⟩ := List.findIdx?_eq_some_iff_getElem.1 hi
  exact ⟨fun _ => ⟨_, List.getElem_mem h1, h2⟩, fun _ => by omega⟩
 ·rename_i hi
  have h1 := List.findIdx?_eq_none_iff.1 hi
  constructor
  ·intro h; omega
  ·rintro ⟨x, hx, ho⟩
   have := h1 x hx
   rw [ho] at this; cases this
theorem qaw3 (a b m n : Int) : (qal8 a b m n == 0) = (bits .and .u64 b (bits .and .u64 n m) == bits .and .u64 a (bits .and .u64 n m)) := by
 rw [Bool.eq_iff_iff, beq_iff_eq, beq_iff_eq, qagb, qac7 n m, qac7, qac7, qahk, show (0 : Int) = ((0#64).toNat : Int) by rfl, qawc, qawc]
 constructor
 ·intro h
  ext i hi
  have := congrArg (fun z => z.getLsbD i) h
  simp [hi] at this ⊢
  revert this
  cases (BitVec.ofInt 64 a)[i] <;> cases (BitVec.ofInt 64 b)[i] <;> cases (BitVec.ofInt 64 m)[i] <;> cases (BitVec.ofInt 64 n)[i] <;> decide
 ·intro h
  ext i hi
  have := congrArg (fun z => z.getLsbD i) h
  simp [hi] at this ⊢
  revert this
  cases (BitVec.ofInt 64 a)[i] <;> cases (BitVec.ofInt 64 b)[i] <;> cases (BitVec.ofInt 64 m)[i] <;> cases (BitVec.ofInt 64 n)[i] <;> decide
theorem qag4 : ∀ xa xb xm xn : List Int, xb.length = xa.length → xm.length = xa.length → xn.length = xa.length → qal7 xa xb xm xn = (List.range xa.length).all fun i => qal8 (el xa i) (el xb i) (el xm i) (el xn i) == 0
 | [], xb, xm, xn, _, _, _ => by cases xb <;> cases xm <;> cases xn <;> rfl
 | _ :: _, [], xm, xn, h, _, _ => by simp at h
 | _ :: _, _ :: _, [], xn, _, h, _ => by simp at h
 | _ :: _, _ :: _, _ :: _, [], _, _, h => by simp at h
 | a :: xa, b :: xb, m :: xm, n :: xn, h1, h2, h3 => by
  have ih := qag4 xa xb xm xn (by simpa using h1) (by simpa using h2) (by simpa using h3)
  rw [qal7, ih, List.length_cons, List.range_succ_eq_map, List.all_cons, List.all_map]
  show (if qal8 a b m n ≠ 0 then false else _) = ((qal8 a b m n == 0) && _)
  by_cases h : qal8 a b m n = 0
  ·rw [if_neg (by simp [h]), beq_iff_eq.2 h, Bool.true_and]; rfl
  ·rw [if_pos h, beq_eq_false_iff_ne.2 h, Bool.false_and]
theorem qag3 {k : Int} {a e : Entry} (ha : (a.keys.length : Int) = k ∧ (a.masks.length : Int) = k) (he : (e.keys.length : Int) = k ∧ (e.masks.length : Int) = k) : qags k.toNat a e = (a.prio == e.prio && qaib a e) := by
 unfold qags qaib
 rw [qag4 _ _ _ _ (by omega) (by omega) (by omega), show k.toNat = a.keys.length by omega]
 simp only [qaw3]
structure RelV (k : Int) (l L : List Entry) : Prop where
 inv : TInv k l
 perm : l.Perm L
theorem qa2s (k : Int) : RelV k [] [] := ⟨qake k, .nil⟩
def qahn (e : Entry) : Prop := ∀ x ∈ e.keys, 0 ≤ x ∧ x ≤ 18446744073709551615
theorem qarp {α : Type} {p q : Prop} [Decidable p] [Decidable q] (h : p ↔ q) (a b : α) : (if p then a else b) = if q then a else b := by
 by_cases hp : p
 ·rw [if_pos hp, if_pos (h.1 hp)]
 ·rw [if_neg hp, if_neg fun hq => hp (h.2 hq)]
theorem qawg {k m wd : Int} {l L : List Entry} {e : Entry} (h : RelV k l L) (hf : qahn e) : addC 3 k wd m L e = addV k m l e := by
 unfold addC addV
 rw [qard hf]
 by_cases h1 : qaed k e = true
 ·rw [if_pos h1, if_pos rfl, if_neg (show ¬ qaed k e = false by simp [h1])]
  have h2 : (0 ≤ atI 3 L e) ↔ (0 ≤ tatV l e) := by
   rw [qand, qap6]
   exact ⟨fun ⟨x, hx, ho⟩ => ⟨x, h.perm.mem_iff.2 hx, ho⟩, fun ⟨x, hx, ho⟩ => ⟨x, h.perm.mem_iff.1 hx, ho⟩⟩
  have h3 : (((3 : Int) = 3) ∧ L.any (fun a => qags k.toNat a e) = true) ↔ (0 ≤ qai5 l e) := by
   rw [qar8, List.any_eq_true]
   constructor
   ·rintro ⟨-, x, hx, ho⟩
    have hx' := h.perm.mem_iff.2 hx
    exact ⟨x, hx', by rw [← qag3 (qaez (h.inv.fit x hx')) (qaez h1)]; exact ho⟩
   ·rintro ⟨x, hx, ho⟩
    exact ⟨rfl, x, h.perm.mem_iff.1 hx, by rw [qag3 (qaez (h.inv.fit x hx)) (qaez h1)]; exact ho⟩
  rw [qarp h2, qarp h3, h.perm.length_eq]
 ·rw [if_neg h1, if_neg (by decide), if_pos (by simpa using h1)]
theorem add_rel {k m wd : Int} {l L : List Entry} {e : Entry} (h : RelV k l L) (hf : qahn e) (he : qab7 e) : RelV k (addR k m l e) (if addC 3 k wd m L e = 0 then L ++ [qaka 3 e] else L) := by
 refine ⟨qalw h.inv he, ?_⟩
 rw [qawg h hf]
 unfold addR
 by_cases h0 : addV k m l e = 0
 ·rw [if_pos h0, if_pos h0]
  exact (qadt l (towE e)).trans (h.perm.append_right _)
 ·rw [if_neg h0, if_neg h0]; exact h.perm
theorem qafw {k wd : Int} {l L : List Entry} {e : Entry} (h : RelV k l L) (hf : qahn e) : chgC 3 k wd L e = qamk k l e := by
 unfold chgC qamk
 rw [qard hf]
 by_cases h1 : qaed k e = true
 ·have h2 : (0 ≤ atI 3 L e) ↔ (0 ≤ tatV l e) := by
   rw [qand, qap6]
   exact ⟨fun ⟨x, hx, ho⟩ => ⟨x, h.perm.mem_iff.2 hx, ho⟩, fun ⟨x, hx, ho⟩ => ⟨x, h.perm.mem_iff.1 hx, ho⟩⟩
  rw [if_pos h1, if_pos rfl, if_neg (show ¬ qaed k e = false by simp [h1]), qarp h2]
  by_cases h3 : 0 ≤ tatV l e
  ·rw [if_pos h3, if_neg (by omega)]
  ·rw [if_neg h3, if_pos (by omega)]
 ·rw [if_neg h1, if_neg (by decide), if_pos (by simpa using h1)]
theorem qadu (l : List Entry) (i : Nat) (hi : i < l.length) : l.Perm (l[i] :: l.eraseIdx i) := by
 rw [List.eraseIdx_eq_take_drop_succ]
 have : l = l.take i ++ l[i] :: l.drop (i + 1) := by rw [← List.drop_eq_getElem_cons hi, List.take_append_drop]
 conv => lhs; rw [this]
 exact List.perm_middle
theorem qaqd (l : List Entry) (i : Nat) (hi : i < l.length) (y : Entry) : (l.set i y).Perm (y :: l.eraseIdx i) := by
 rw [List.eraseIdx_eq_take_drop_succ, List.set_eq_take_append_cons_drop, if_pos hi]
 exact List.perm_middle
theorem qaqh {k : Int} {l L : List Entry} {e : Entry} (h : RelV k l L) {i j : Nat} (hi : i < l.length) (hj : j < L.length) (h1 : ordE l[i] e = 0) (h2 : ordE L[j] e = 0) : l[i] = L[j] := by
 obtain ⟨p, hp, he⟩ := List.mem_iff_getElem.1 (h.perm.mem_iff.2 (List.getElem_mem hj))
 rcases Nat.lt_trichotomy i p with hip | hip | hip
 ·exfalso
  have h3 := List.pairwise_iff_getElem.1 h.inv.no i p hi hp hip
  rw [he] at h3
  obtain ⟨a1, a2, a3⟩ := (qacu _ _).1 h1
  obtain ⟨b1, b2, b3⟩ := (qacu _ _).1 h2
  refine h3 ⟨by rw [a1, b1], ?_⟩
  unfold qaib
  rw [a2, b2]
  exact qaev _ _ _ _ fun i _ => qaga _ _ _
 ·subst hip; exact he
 ·exfalso
  have h3 := List.pairwise_iff_getElem.1 h.inv.no p i hp hi hip
  rw [he] at h3
  obtain ⟨a1, a2, a3⟩ := (qacu _ _).1 h1
  obtain ⟨b1, b2, b3⟩ := (qacu _ _).1 h2
  refine h3 ⟨by rw [a1, b1], ?_⟩
  unfold qaib
  rw [a2, b2]
  exact qaev _ _ _ _ fun i _ => qaga _ _ _
theorem atN_at {L : List Entry} {e : Entry} (h : 0 ≤ atI 3 L e) : ∃ hj : atN 3 L e < L.length, ordE L[atN 3 L e] e = 0 := by
 unfold atI at h
 split at h
 ·rename_i h1
  refine ⟨h1, ?_⟩
  have := qafu _ _ (show qadi _ L.length < L.length from h1)
  change (match L[atN 3 L e]? with | some a => oneB 3 a e | none => false) = true at this
  rw [List.getElem?_eq_getElem h1] at this
  simp only [qakq] at this
  simpa using this
 ·omega
theorem qamj {k : Int} {l L : List Entry} {e : Entry} (h : RelV k l L) {i j : Nat} (hi : i < l.length) (hj : j < L.length) (h1 : ordE l[i] e = 0) (h2 : ordE L[j] e = 0) : (l.eraseIdx i).Perm (L.eraseIdx j) := by
 have he := qaqh h hi hj h1 h2
 have p1 := (qadu l i hi).symm.trans (h.perm.trans (qadu L j hj))
 rw [he] at p1
 exact (List.perm_cons _).1 p1
theorem chg_rel {k wd : Int} {l L : List Entry} {e : Entry} (h : RelV k l L) (hf : qahn e) (he : qab7 e) : RelV k (chgR k l e) (chgL 3 k wd L e) := by
 refine ⟨qa3p h.inv he, ?_⟩
 unfold chgL
 rw [qafw h hf]
 unfold chgR qamk
 by_cases h1 : qaed k e = false
 ·rw [if_pos h1, if_pos h1, if_neg (by decide)]; exact h.perm
 ·rw [if_neg h1, if_neg h1]
  by_cases h2 : tatV l e < 0
  ·rw [if_pos h2, if_pos h2, if_neg (by decide)]; exact h.perm
  ·rw [if_neg h2, if_neg h2, if_pos rfl]
   obtain ⟨i, h3, h4⟩ := qagv l e h2
   rw [h3, Int.toNat_natCast]
   obtain ⟨hi, ho⟩ := qap7 h3
   have h5 : 0 ≤ atI 3 L e := (qand L e).2 ⟨_, h.perm.mem_iff.1 (List.getElem_mem hi), ho⟩
   obtain ⟨hj, ho2⟩ := atN_at h5
   exact (qaqd l i hi _).trans (((qamj h hi hj ho ho2).cons _).trans (qaqd L _ hj _).symm)
theorem qa3k {k wd : Int} {l L : List Entry} {e : Entry} (h : RelV k l L) (hf : qahn e) : RelV k (qapv k l e) (qak8 3 k wd L e) := by
 refine ⟨qaxg h.inv, ?_⟩
 have hd : qakb 3 k wd L e = qamk k l e := qafw h hf
 unfold qak8
 rw [hd]
 unfold qapv qamk
 by_cases h1 : qaed k e = false
 ·rw [if_pos h1, if_pos h1, if_neg (by decide)]; exact h.perm
 ·rw [if_neg h1, if_neg h1]
  by_cases h2 : tatV l e < 0
  ·rw [if_pos h2, if_pos h2, if_neg (by decide)]; exact h.perm
  ·rw [if_neg h2, if_neg h2, if_pos rfl]
   obtain ⟨i, h3, h4⟩ := qagv l e h2
   rw [h3, Int.toNat_natCast]
   obtain ⟨hi, ho⟩ := qap7 h3
   have h5 : 0 ≤ atI 3 L e := (qand L e).2 ⟨_, h.perm.mem_iff.1 (List.getElem_mem hi), ho⟩
   obtain ⟨hj, ho2⟩ := atN_at h5
   have hr := (qaqr h.inv.heap i hi).2
   have hrl : (remL l i).length = l.length := (qadl l i).length_eq
   have hdl : remL l i = (remL l i).dropLast ++ [l[i]] := by
    rcases List.eq_nil_or_concat (remL l i) with h6 | ⟨Q, x, h6⟩
    ·rw [h6] at hrl; simp at hrl; omega
    ·have hQ : Q.length = l.length - 1 := by rw [h6] at hrl; simp at hrl; omega
     have : atE (remL l i) (l.length - 1) = x := by unfold atE; rw [h6, ← hQ]; simp
     rw [this, qawd hi] at hr
     rw [h6, hr]; simp
   have p1 : (l[i] :: (remL l i).dropLast).Perm (l[i] :: l.eraseIdx i) := by
    refine (List.perm_append_singleton _ _).symm.trans ?_
    rw [← hdl]
    exact (qadl l i).trans (qadu l i hi)
   rw [← List.eraseIdx_eq_take_drop_succ]
   exact ((List.perm_cons _).1 p1).trans (qamj h hi hj ho ho2)
theorem qarq (wd : Int) (e : Entry) (xs : List Int) : qanq 3 wd e xs = fitK xs e := by
 unfold qanq fitK
 rw [if_neg (by decide), if_neg (by decide)]
theorem qana (wd : Int) (L : List Entry) (xs : List Int) (h0 : ∀ x ∈ L, x.len = 0) : ∀ i, i ≤ L.length → (qanb 3 wd L xs i = -1 ∧ ∀ j (hj : j < L.length), j < i → fitK xs L[j] = false) ∨ ∃ (b : Nat) (hb : b < L.length), qanb 3 wd L xs i = b ∧ fitK xs L[b] = true ∧ ∀ j (hj : j < L.length), j < i → fitK xs L[j] = true → L[b].prio ≤ L[j].prio
 | 0, _ => .inl ⟨rfl, fun j _ hj => absurd hj (by omega)⟩
 | i + 1, h => by
  have ih := qana wd L xs h0 i (by omega)
  have hi : i < L.length := by omega
  have e : qanb 3 wd L xs (i + 1) = qa4s 3 wd L xs i (qanb 3 wd L xs i) := rfl
  rw [qakh hi, qarq] at e
  rcases ih with ⟨h1, h2⟩ | ⟨b, hb, h1, h2, h3⟩
  ·rw [h1] at e
   cases hx : fitK xs L[i]
   ·rw [hx, Bool.false_and, if_neg (by decide)] at e
    refine .inl ⟨e, fun j hj hji => ?_⟩
    rcases Nat.lt_or_ge j i with h3 | h3
    ·exact h2 j hj h3
    ·obtain rfl : j = i := by omega
     exact hx
   ·rw [hx, Bool.true_and, if_pos (by simp [qafj])] at e
    refine .inr ⟨i, hi, e, hx, fun j hj hji hf => ?_⟩
    rcases Nat.lt_or_ge j i with h3 | h3
    ·rw [h2 j hj h3] at hf; cases hf
    ·obtain rfl : j = i := by omega
     omega
  ·rw [h1] at e
   have hbb : qafj L[i] L (b : Int) = decide (L[i].prio < L[b].prio) := by
    unfold qafj
    rw [Int.toNat_natCast, List.getElem?_eq_getElem hb]
    simp only
    rw [h0 _ (List.getElem_mem hi), h0 _ (List.getElem_mem hb)]
    simp
    intro hbn; omega
   rw [hbb] at e
   by_cases hc : (fitK xs L[i] && decide (L[i].prio < L[b].prio)) = true
   ·rw [if_pos hc] at e
    simp only [Bool.and_eq_true, decide_eq_true_eq] at hc
    refine .inr ⟨i, hi, e, hc.1, fun j hj hji hf => ?_⟩
    rcases Nat.lt_or_ge j i with h4 | h4
    ·have := h3 j hj h4 hf; omega
    ·obtain rfl : j = i := by omega
     omega
   ·rw [if_neg hc] at e
    refine .inr ⟨b, hb, e, h2, fun j hj hji hf => ?_⟩
    rcases Nat.lt_or_ge j i with h4 | h4
    ·exact h3 j hj h4 hf
    ·obtain rfl : j = i := by omega
     simp only [Bool.and_eq_true, decide_eq_true_eq, not_and] at hc
     have := hc hf; omega
def qae3 (k : Int) (l : List Entry) (xs : List Int) : Option Entry := if (xs.length : Int) = k then (qae1 l).find? (fitK xs) else none
theorem qa3g {k wd : Int} {l L : List Entry} (h : RelV k l L) (xs : List Int) : qapu 3 k wd L xs = qae3 k l xs := by
 unfold qapu findI qae3
 have hfo : qak2 3 k wd xs = decide ((xs.length : Int) = k) := by simp [qak2]
 rw [hfo]
 by_cases hx : (xs.length : Int) = k
 ·rw [decide_eq_true hx, if_pos rfl, if_pos hx]
  have hp := qaff h.inv
  have h0 : ∀ x ∈ L, x.len = 0 := fun x hx => h.inv.len0 x (h.perm.mem_iff.2 hx)
  have hmem : ∀ x, x ∈ qae1 l ↔ x ∈ L := fun x => (hp.mem_iff).trans h.perm.mem_iff
  rcases qana wd L xs h0 L.length (Nat.le_refl _) with ⟨h1, h2⟩ | ⟨b, hb, h1, h2, h3⟩
  ·rw [h1, if_neg (by decide)]
   symm
   rw [List.find?_eq_none]
   intro x hxm
   obtain ⟨j, hj, rfl⟩ := List.mem_iff_getElem.1 ((hmem x).1 hxm)
   rw [h2 j hj hj]; decide
  ·rw [h1, if_pos (by omega), Int.toNat_natCast, List.getElem?_eq_getElem hb]
   symm
   obtain ⟨p, hpl, he⟩ := List.mem_iff_getElem.1 ((hmem _).2 (List.getElem_mem hb))
   rw [List.find?_eq_some_iff_getElem]
   refine ⟨h2, p, hpl, he, fun j hj => ?_⟩
   cases hf : fitK xs ((qae1 l)[j]'(by omega))
   ·rfl
   ·exfalso
    have hlt := all_lt h.inv hx hj hpl hf (by rw [he]; exact h2)
    obtain ⟨r, hr, hre⟩ := List.mem_iff_getElem.1 ((hmem _).1 (List.getElem_mem (show j < (qae1 l).length by omega)))
    have := h3 r hr hr (by rw [hre]; exact hf)
    rw [hre] at this
    rw [he] at hlt
    omega
 ·rw [decide_eq_false hx, if_neg hx]; simp
theorem qa4l {a b : Entry} (h : leE a b) (hne : ordE a b ≠ 0) (h1 : a.len = 0) (h2 : b.len = 0) : qab8 a b = true := by
 rw [qama] at h
 have hz := qacu a b
 unfold qab8
 simp only [qaiq]
 rcases h with h | ⟨h, h3⟩
 ·rw [if_neg (by omega)]; simpa using h
 ·rw [if_pos h]
  rcases h3 with h3 | ⟨h3, h4⟩
  ·rw [if_neg (by omega)]; simpa using h3
  ·have hk := (qadn a.keys b.keys).2 h3
   rw [if_pos hk, if_pos (by rw [h1, h2])]
   have : cmpL a.masks b.masks ≠ 0 := fun h5 => hne (hz.2 ⟨h, h3, (qadn _ _).1 h5⟩)
   simp only [decide_eq_true_eq]; omega
theorem qa1l {k : Int} {l : List Entry} (h : TInv k l) : (qae1 l).Pairwise fun a b => qab8 a b = true := by
 have hp := qaff h
 have h1 := qaf3 h.heap
 have h2 := qadz hp.symm h.no
 refine List.pairwise_iff_getElem.2 fun i j hi hj hij => ?_
 have a1 := List.pairwise_iff_getElem.1 h1 i j hi hj hij
 have a2 := List.pairwise_iff_getElem.1 h2 i j hi hj hij
 refine qa4l a1 (fun h3 => a2 ?_) (h.len0 _ (hp.mem_iff.1 (List.getElem_mem hi))) (h.len0 _ (hp.mem_iff.1 (List.getElem_mem hj)))
 obtain ⟨b1, b2, b3⟩ := (qacu _ _).1 h3
 refine ⟨b1, ?_⟩
 unfold qaib
 rw [b2]
 exact qaev _ _ _ _ fun i _ => qaga _ _ _
theorem all_rel {k : Int} {l L : List Entry} (h : RelV k l L) : (qae1 l).Perm L := (qaff h.inv).trans h.perm
end Go.Proofs.Ytefkifebgeagiaa
namespace Go.Proofs.Ytefkifebgeagiaa
set_option linter.all false
open Go.RowKit
attribute [local simp] qaao qaan qaac qaah qaad qaag qaal qaam qaaa qaay SOp.run SX.ev putd puts argS upds SOp.touch SSt.keep SSt.skip gets geth puth delh idOf SV.cells? setL qab0 qab1 sbin eq0 eq1 eqL qabz qabd qabe qaau qaak qaab qaap qaaz qaaf qaai FrzOk qaa4 qaaw qaa2 qaa3 qaaq qaav qabb qaax qaas qaa5 qaar frzS frzH frz frz1 frz0 SlotsM ObjsM ObjM rn ren ren1 ren0 qabj qabs qaby qabi qabc qabu qabx CoL qaa6 qab4 dels adds idsH qabv
theorem qawf : qagr Try.prog 36 = some true := by kernel_rfl
theorem qakj : qab6 Try.prog 36 = some 2 := by kernel_rfl
def qakf (o : Option Entry) : SV := match o with
 | some e => .tup [.agg (qadw e.act e.args), .bool true]
 | none => .tup [.agg (qadw 0 []), .bool false]
theorem qart {X : Cx} {sl : Sl} {hp : Hp} {c : qac6} {l : List Entry} {t u nx id n : Nat} {ty : TypeId} {cs ds : List SV} {v r : SV} (hm : X.m = 2) (hid : 2 ≤ id) (hne : t ≠ u) (hv : gets sl t = v) (hN : NoN v) (hu : gets sl u = .ptr id 0) (h : geth hp id = some (.cells ty cs)) (h0 : geth hp 0 = some (.cells (hty c) (hcs c l.length))) (h1 : geth hp 1 = some (.row 29 6 (l.map qaae))) (ha : qagr X.P ty = some true) (hn : qab6 X.P ty = some n) (hl : ds.length = n) (e : CoL cs ds) (hr : r = .tup [.agg ds, v]) (hd : ∀ σ, ds.map (Go.Proofs.Ytefkifebgeagiaa.ren σ) = ds) : QFun X [.cell u ty, .tmp t] 2 r (hobj c l) .ret ⟨sl, hp, nx⟩ := by
 subst hr hl
 have hw : Wk X ⟨sl, hp, nx⟩ ⟨[(u, .ptr 2 0), (t, v)], [(0, .cells (hty c) (hcs c l.length)), (1, .row 29 6 (l.map qaae)), (2, .cells ty ds)], 3⟩ := by
  refine qabh [(2, id)] hm ⟨?_, ?_, trivial⟩ ⟨⟨_, h0, rfl, qada c _ rfl⟩, ⟨_, h1, rfl, rfl, by rw [qaca]; exact CoLL.refl _⟩, ⟨_, h, rfl, by rw [hd]; exact e⟩, trivial⟩ ?_ (by simp)
  ·rw [hu]; exact Co.refl _
  ·rw [hv, hN]; exact Co.refl _
  ·have a1 : ¬ (0 = id) := by omega
   have a2 : ¬ (1 = id) := by omega
   have a3 : ¬ (id = 0) := by omega
   have a4 : ¬ (id = 1) := by omega
   simp [qabv, diag, idsH, List.range_succ, a1, a2, a3, a4]
 refine ⟨_, hw, ?_, ⟨rfl, rfl, trivial⟩, by simp⟩
 simp [qagq, resL, resV, one_, gets, ha, SOp.run, SX.ev, geth, hne, hne.symm, hn]
theorem qaxc (xs ym ya : List Int) (j : Nat) (h1 : j < xs.length) (h2 : j < ym.length) (h3 : j < ya.length) : ([j].all fun i => bits .and .u64 (el xs i) (el ym i) == el ya i) = (bits .and .u64 xs[j] ym[j] == ya[j]) := by
 simp [qaer xs j h1, qaer ym j h2, qaer ya j h3]
theorem qa1r (k m : Int) (l : List Entry) (xs : List Int) (h : TInv k l) (hl : l.length ≤ 1000000) (hx : xs.length ≤ 1000000) : SCalls Try.prog 12 [.ptr 0 0, nums .u64 xs] (hobj (some (k, m)) l) 2 (qakf (qae3 k l xs)) (hobj (some (k, m)) l) := by
 obtain ⟨F, hF⟩ : ∃ F, F = qae3 k l xs := ⟨_, rfl⟩
 rw [← hF]
 unfold qae3 at hF
 replace hF := Lib.hid hF
 have k1 := fun q hq => h_up (qa2l k m l hl h.small) q hq rfl rfl rfl
 have hp := qaff h
 have hlen : ∀ e ∈ qae1 l, (e.keys.length : Int) = k ∧ (e.masks.length : Int) = k := fun e he => qaez (h.fit e (hp.mem_iff.1 he))
 have hL : (qae1 l).length ≤ 1000000 := by rw [hp.length_eq]; exact hl
 generalize qae1 l = A at k1 hlen hL hF
 replace hlen := Lib.hid hlen
 clear hp h
 have hcl : CoL (hcs (some (k, m)) l.length) ((hcs (some (k, m)) l.length).map id) := by rw [List.map_id]; exact CoL.refl _
 refine qaa0 (N := 58) Try.func12 rfl rfl (by kernel_rfl) qalb (by simp) (by repeat' (first | exact trivial | refine And.intro ?_ ?_ | rfl | decide | exact PureR.ren _)) (qais (some (k, m)) l) ?_
 rintro X hP hN hm
 unfold c_tfind
 unfold hobj at k1 ⊢
 unfold nums
 by_cases hk : (xs.length : Int) = k
 ·have e1 : ((xs.length : Int) != k) = false := by simpa using hk
  have hF2 : F = A.find? (fitK xs) := by rw [hF.out, if_pos hk]
  replace hF2 := Lib.hid hF2
  repeat' (first | (with_reducible refine zA ?_) | ((with_reducible refine qaaj ?_); (try rw [hP]); simp -implicitDefEqProofs [hcs, e1, *]) | ((with_reducible refine qaa1 ?_); (try simp -implicitDefEqProofs [hcs, e1, *])) | ((with_reducible refine qaat rfl (fun h => ?_) (fun h => ?_)) <;> have h' := h <;> (try simp at h') <;> (try subst h')) | (refine qab9 (k1 _ (by simp)) ⟨rfl, rfl, trivial⟩ ⟨rfl, rfl, trivial⟩ ?_; simp -implicitDefEqProofs [hcs, e1, *]) | fail)
  refine qabp (qads (fun s (i : Nat) => s.turn [(22, .int .i64 i)] []) (fun i => i ≤ A.length ∧ F = (A.drop i).find? (fitK xs)) (fun i => A.length - i) 0 ?_ ⟨by simp, hF2.out⟩ ?_)
  ·repeat' (first | ((with_reducible refine qabh [] hm ?_ ?_ ?_ ?_) <;> (try simp only [zT, puth, Nat.reduceEqDiff, reduceIte, Nat.reduceAdd])) | (with_reducible first | refine za ?_ ?_ | refine zb ?_ ?_ ?_ ?_ | refine zc ?_ ?_ ?_ ?_) | (with_reducible first | exact qaba | exact qabf) | ((with_reducible first | refine zga ?_ | refine zgb ?_); rfl) | ((with_reducible refine zgc ?_); (first | (with_reducible rfl) | rfl | (simp; done))) | ((with_reducible refine zgd ?_); (first | omega | (simp; done))) | (exact Co.refl _) | (exact CoL.refl _) | fail)
  rintro J hJ i ⟨h1, h2⟩
  unfold qai7
  simp only [zT, puth, Nat.reduceEqDiff, reduceIte, Nat.reduceAdd] at h1 h2 ⊢
  clear hF2
  replace h2 := Lib.hid h2
  rcases Nat.lt_or_ge i A.length with hi | hi
  ·have h3 := h2.out
   rw [List.drop_eq_getElem_cons hi, List.find?_cons] at h3
   obtain ⟨q1, q2⟩ := hlen.out _ (List.getElem_mem hi)
   have wi : IntKind.i64.wrap ((i : Int) + 1) = (i : Int) + 1 := qabt (by omega) (by omega)
   obtain ⟨B, hB⟩ : ∃ B, B = fitK xs A[i] := ⟨_, rfl⟩
   rw [← hB] at h3
   unfold fitK at hB
   generalize hy : A[i] = y at h3 q1 q2 hB
   obtain ⟨ya, ym, yl, yp, yc, yr⟩ := y
   dsimp only at q1 q2 hB
   replace h3 := Lib.hid h3
   replace hB := Lib.hid hB
   replace q1 := Lib.hid q1
   replace q2 := Lib.hid q2
   replace hk := Lib.hid hk
   repeat' (first | (with_reducible first | refine zA ?_ | refine qaa9 ?_) | ((with_reducible refine qaaj ?_); (try rw [hP]); simp -implicitDefEqProofs [List.getElem?_eq_getElem hi, hy, qaae, *]) | ((with_reducible refine qaa1 ?_); (try simp -implicitDefEqProofs [List.getElem?_eq_getElem hi, hy, qaae, *])) | ((with_reducible refine qaat rfl (fun h => ?_) (fun h => ?_)) <;> have h' := h <;> (try simp at h') <;> (try subst h')) | fail)
   have hJo := hJ
   refine qabp (qads (fun s (z : Nat × Bool) => s.turn [(28, .int .i64 z.1), (8, .bool z.2)] []) (fun z => z.1 ≤ xs.length ∧ z.2 = (List.range z.1).all fun i => bits .and .u64 (el xs i) (el ym i) == el ya i) (fun z => xs.length - z.1) (0, true) ?_ ⟨by simp, by simp⟩ ?_)
   ·repeat' (first | ((with_reducible refine qabh [] hm ?_ ?_ ?_ ?_) <;> (try simp only [zT, puth, Nat.reduceEqDiff, reduceIte, Nat.reduceAdd])) | (with_reducible first | refine za ?_ ?_ | refine zb ?_ ?_ ?_ ?_ | refine zc ?_ ?_ ?_ ?_) | (with_reducible first | exact qaba | exact qabf) | ((with_reducible first | refine zga ?_ | refine zgb ?_); rfl) | ((with_reducible refine zgc ?_); (first | (with_reducible rfl) | rfl | (simp; done))) | ((with_reducible refine zgd ?_); (first | omega | (simp; done))) | (exact Co.refl _) | (exact CoL.refl _) | fail)
   rintro J hJ ⟨j, b⟩ ⟨g1, g2⟩
   unfold qai8
   simp only [zT, puth, Nat.reduceEqDiff, reduceIte, Nat.reduceAdd] at g1 g2 ⊢
   rcases Nat.lt_or_ge j xs.length with hj | hj
   ·have j1 : j < ya.length := by have := q1.out; have := hk.out; omega
    have j2 : j < ym.length := by have := q2.out; have := hk.out; omega
    have wj : IntKind.i64.wrap ((j : Int) + 1) = (j : Int) + 1 := qabt (by omega) (by omega)
    have g3 : ((List.range (j + 1)).all fun i => bits .and .u64 (el xs i) (el ym i) == el ya i) = (b && (bits .and .u64 xs[j] ym[j] == ya[j])) := by
     rw [List.range_succ, List.all_append, ← g2, qaxc xs ym ya j hj j2 j1]
    clear g2
    replace g3 := Lib.hid g3
    cases b
    all_goals
     repeat' (first | (with_reducible first | refine zA ?_ | refine qaa9 ?_ | refine zK ?_) | ((with_reducible first | refine qaaj ?_ | refine qabl (by rw [hP]; exact qadh) ?_); (try rw [hP]); simp -implicitDefEqProofs [nums, wj, List.getElem?_eq_getElem hj, List.getElem?_eq_getElem j1, List.getElem?_eq_getElem j2, *]) | ((with_reducible refine qaa1 ?_); (try simp -implicitDefEqProofs [nums, wj, List.getElem?_eq_getElem hj, List.getElem?_eq_getElem j1, List.getElem?_eq_getElem j2, *])) | ((with_reducible refine qaat rfl (fun h => ?_) (fun h => ?_)) <;> have h' := h <;> (try simp at h') <;> (try subst h')) | (with_reducible first | refine za ?_ ?_ | refine zb ?_ ?_ ?_ ?_ | refine zc ?_ ?_ ?_ ?_) | (with_reducible first | exact qaba | exact qabf) | ((with_reducible first | refine zga ?_ | refine zgb ?_); rfl) | ((with_reducible refine zgc ?_); (first | (with_reducible rfl) | rfl | (simp; done))) | ((with_reducible first | refine zgd ?_ | refine zge ?_); (first | omega | (simp; done))) | (exact Co.refl _) | (exact CoL.refl _) | ((refine qacp hJ (j + 1, ?_) ?_ ?_ ?_; rotate_left 1; (with_reducible refine qabh [] hm ?_ ?_ ?_ ?_) <;> (try simp only [zT, puth, Nat.reduceEqDiff, reduceIte, Nat.reduceAdd]))) | fail)
     all_goals first | exact ⟨by omega, by rw [g3.out]; rfl⟩ | omega | trace_state
   ·obtain rfl : j = xs.length := by omega
    have hb2 : b = B := by rw [g2, hB.out]
    subst hb2
    clear g2
    cases b
    all_goals
     repeat' (first | (with_reducible refine zA ?_) | ((with_reducible refine qaaj ?_); (try rw [hP]); simp -implicitDefEqProofs [nums, wi, *]) | ((with_reducible first | refine qaa1 ?_ | refine qabw ?_); (try simp -implicitDefEqProofs [nums, wi, *])) | ((with_reducible refine qaa7 ?_); (try simp only [qaau, qaab, qaaf])) | ((with_reducible refine qaat rfl (fun h => ?_) (fun h => ?_)) <;> have h' := h <;> (try simp at h') <;> (try subst h')) | (with_reducible first | refine za ?_ ?_ | refine zb ?_ ?_ ?_ ?_ | refine zc ?_ ?_ ?_ ?_) | (with_reducible first | exact qaba | exact qabf) | ((with_reducible first | refine zga ?_ | refine zgb ?_); rfl) | ((with_reducible refine zgc ?_); (first | (with_reducible rfl) | rfl | (simp; done))) | ((with_reducible first | refine zgd ?_ | refine zge ?_); (first | omega | (simp; done))) | (exact Co.refl _) | (exact CoL.refl _) | ((refine qart (c := some (k, m)) (l := l) (v := .bool true) (ds := qadw yc yr) hm (by decide) (by decide) rfl (qahw _) rfl rfl rfl rfl (by rw [hP]; exact qawf) (by rw [hP]; exact qakj) rfl (CoL.refl _) ?_ (fun σ => rfl))) | ((refine qacp hJo (i + 1) ?_ ?_ ?_; (with_reducible refine qabh [] hm ?_ ?_ ?_ ?_) <;> (try simp only [zT, puth, Nat.reduceEqDiff, reduceIte, Nat.reduceAdd]))) | fail)
     all_goals first | exact ⟨by omega, by rw [h3.out]⟩ | (rw [h3.out]; rfl) | omega | trace_state
  ·have h4 : F = none := by rw [h2.out, List.drop_eq_nil_of_le hi]; rfl
   subst h4
   repeat' (first | (with_reducible refine zA ?_) | ((with_reducible refine qaaj ?_); (try rw [hP]); simp -implicitDefEqProofs [Nat.not_lt.2 hi, *]) | ((with_reducible refine qabw ?_); (try simp -implicitDefEqProofs [Nat.not_lt.2 hi, *])) | ((with_reducible refine qaa7 ?_); (try simp only [qaau, qaab, qaaf])) | ((with_reducible refine qaat rfl (fun h => ?_) (fun h => ?_)) <;> have h' := h <;> (try simp at h') <;> (try subst h')) | ((refine qart (c := some (k, m)) (l := l) (v := .bool false) (ds := qadw 0 []) hm (by decide) (by decide) rfl (qahw _) rfl rfl rfl rfl (by rw [hP]; exact qawf) (by rw [hP]; exact qakj) rfl ⟨Co.refl _, Co.nilsl _, trivial⟩ rfl (fun σ => rfl))) | fail)
 ·have e1 : ((xs.length : Int) != k) = true := by simpa using hk
  have hF2 : F = none := by rw [hF.out, if_neg hk]
  subst hF2
  repeat' (first | (with_reducible refine zA ?_) | ((with_reducible refine qaaj ?_); (try rw [hP]); simp -implicitDefEqProofs [hcs, e1, *]) | ((with_reducible refine qaa7 ?_); (try simp only [qaau, qaab, qaaf])) | ((with_reducible refine qaat rfl (fun h => ?_) (fun h => ?_)) <;> have h' := h <;> (try simp at h') <;> (try subst h')) | ((refine qart (c := some (k, m)) (l := l) (v := .bool false) (ds := qadw 0 []) hm (by decide) (by decide) rfl (qahw _) rfl rfl rfl rfl (by rw [hP]; exact qawf) (by rw [hP]; exact qakj) rfl ⟨Co.refl _, Co.nilsl _, trivial⟩ rfl (fun σ => rfl))) | fail)
end Go.Proofs.Ytefkifebgeagiaa
namespace Go.Proofs.Ytefkifebgeagiaa
set_option linter.all false
open Go.RowKit
abbrev qata : List SOper := [Oa 6 (.mv (.c (.bool false)))]
abbrev qas9 : List SOper := [Oc 18 6 [], Oa 19 (.un .not (.t 18))]
abbrev qas8 : List SOper := [Oa 6 (.mv (.c (.bool false)))]
abbrev qas7 : List SOper := [Oa 20 (.mv (.t 2)), Oc 21 7 [(.t 20)], Oa 22 (.mv (.t 21)), Oe 23 (.mv (.t 0)) 22 false, Oe 24 (.bin .lss (.t 23) (.c (.int .i64 0))) 22 false, Oa 25 (.pick (.t 22) (.c (.bool true)) (.t 24)), Oa 26 (.mv (.t 25)), Oe 27 (.mv (.t 0)) 26 false, Oe 28 (.bin .gtr (.t 27) (.c (.int .i64 20))) 26 false, Oa 29 (.pick (.t 26) (.c (.bool true)) (.t 28))]
abbrev qas6 : List SOper := [Oa 6 (.mv (.c (.bool true)))]
abbrev qas5 : List SOper := [Oa 30 (.mv (.t 0)), Oa 31 (.mv (.t 1)), Oc 32 8 [(.t 30), (.t 31)], Oa 7 (.mv (.t 32))]
abbrev qas4 : List SOper := [Oa 33 (.mv (.t 0)), Oa 34 (.mv (.t 1)), Oa 35 (.build [(.int .i64 0), (.int .i64 0), (.int .i64 0), (.int .i64 0), .nilsl] [(0, 1, (.c (.int .i64 3))), (1, 1, (.t 33)), (3, 1, (.t 34))]), Oa 36 (.box 45 (.t 35)), Oa 8 (.mv (.t 36))]
abbrev qas3 : List SOper := [Oa 9 (.mv (.c (.int .i64 0)))]
abbrev qas2 : List SOper := [Oa 37 (.mv (.t 9)), Oa 38 (.mv (.t 2)), Oa 39 (.len false (.t 38)), Oa 40 (.bin .lss (.t 37) (.t 39))]
abbrev qao7 : List SOper := [Oa 43 (.mv (.t 2)), Oa 44 (.mv (.t 9)), Oa 45 (.iaddr 7 (.t 43) (.t 44)), Oa 46 (.faddr 1 (.t 45)), Oa 47 (.loads 6 (.t 46)), Oc 48 15 [(.t 47)], Oa 10 (.alloc 29 [.nilsl, .nilsl, (.int .i64 0), (.int .i64 0), (.int .i64 0), .nilsl]), Ob (.store 6 (.t 10) (.t 48))]
abbrev qao6 : List SOper := [Oa 11 (.mv (.c (.int .i64 0))), Oa 12 (.mv (.c (.int .i64 0)))]
abbrev qao5 : List SOper := [Oa 49 (.mv (.t 2)), Oa 50 (.mv (.t 9)), Oa 51 (.iaddr 7 (.t 49) (.t 50)), Oa 52 (.faddr 0 (.t 51)), Oa 53 (.load (.t 52))]
abbrev qao4 : List SOper := [Oa 55 (.bin .eql (.t 53) (.c (.int .i64 0))), Oa 54 (.mv (.t 55))]
abbrev qao3 : List SOper := [Oa 56 (.mv (.t 7)), Oa 57 (.loads 6 (.t 10)), ⟨(some 58), .mv (.c .any), some ((.c (.fn (.func 10) [] [])), [(.t 56), (.t 57)]), none, 3⟩, Oa 59 (.mv (.t 8)), Oa 60 (.mv (.t 2)), Oa 61 (.mv (.t 9)), Od 62 (.iaddr 7 (.t 60) (.t 61)) 48, Od 63 (.faddr 1 (.t 62)) 112, Od 64 (.loads 6 (.t 63)) 240, ⟨(some 65), .mv (.c .any), some ((.c (.fn (.func 16) [] [])), [(.t 59), (.t 64)]), none, 511⟩, Od 11 (.mv (.t 58)) 1023, Od 12 (.mv (.t 65)) 2047]
abbrev qao2 : List SOper := [Oa 67 (.bin .eql (.t 53) (.c (.int .i64 1))), Oa 66 (.mv (.t 67))]
abbrev qao1 : List SOper := [Oa 68 (.mv (.t 7)), Oa 69 (.loads 6 (.t 10)), ⟨(some 70), .mv (.c .any), some ((.c (.fn (.func 17) [] [])), [(.t 68), (.t 69)]), none, 3⟩, Oa 71 (.mv (.t 8)), Oa 72 (.mv (.t 2)), Oa 73 (.mv (.t 9)), Od 74 (.iaddr 7 (.t 72) (.t 73)) 48, Od 75 (.faddr 1 (.t 74)) 112, Od 76 (.loads 6 (.t 75)) 240, ⟨(some 77), .mv (.c .any), some ((.c (.fn (.func 18) [] [])), [(.t 71), (.t 76)]), none, 511⟩, Od 11 (.mv (.t 70)) 1023, Od 12 (.mv (.t 77)) 2047]
abbrev qao0 : List SOper := [Oa 79 (.bin .eql (.t 53) (.c (.int .i64 2))), Oa 78 (.mv (.t 79))]
abbrev qaoz : List SOper := [Oa 80 (.mv (.t 7)), Oa 81 (.loads 6 (.t 10)), ⟨(some 82), .mv (.c .any), some ((.c (.fn (.func 9) [] [])), [(.t 80), (.t 81)]), none, 3⟩, Oa 83 (.mv (.t 8)), Oa 84 (.mv (.t 2)), Oa 85 (.mv (.t 9)), Od 86 (.iaddr 7 (.t 84) (.t 85)) 48, Od 87 (.faddr 1 (.t 86)) 112, Od 88 (.loads 6 (.t 87)) 240, ⟨(some 89), .mv (.c .any), some ((.c (.fn (.func 19) [] [])), [(.t 83), (.t 88)]), none, 511⟩, Od 11 (.mv (.t 82)) 1023, Od 12 (.mv (.t 89)) 2047]
abbrev qacl : List SOper := [Oa 91 (.mv (.t 7)), Oa 92 (.faddr 0 (.t 10)), Oa 93 (.load (.t 92)), Oc 94 12 [(.t 91), (.t 93)], Oa 90 (.mv (.t 94)), Oa 95 (.extr (.t 90) 0), Oa 96 (.extr (.t 90) 1), Oa 13 (.alloc 36 [(.int .i64 0), .nilsl]), Ob (.store 2 (.t 13) (.t 95)), Oa 14 (.mv (.t 96))]
abbrev qahf : List SOper := [Oa 98 (.mv (.t 8)), Oa 99 (.mv (.t 2)), Oa 100 (.mv (.t 9)), Oa 101 (.iaddr 7 (.t 99) (.t 100)), Oa 102 (.faddr 1 (.t 101)), Oa 103 (.faddr 0 (.t 102)), Oa 104 (.load (.t 103)), Oc 105 20 [(.t 98), (.t 104)], Oa 97 (.mv (.t 105)), Oa 106 (.extr (.t 97) 0), Oa 107 (.extr (.t 97) 1), Oa 108 (.extr (.t 97) 2), Oa 15 (.alloc 36 [(.int .i64 0), .nilsl]), Ob (.store 2 (.t 15) (.t 106)), Oa 16 (.mv (.t 107)), Oa 17 (.mv (.t 108))]
abbrev qahe : List SOper := [Oa 109 (.mv (.t 11)), Oa 110 (.mv (.t 12)), Od 111 (.bin .neq (.t 109) (.t 110)) 3, Od 112 (.mv (.t 111)) 7, Of 113 (.mv (.t 14)) 112 false 15, Of 114 (.mv (.t 17)) 112 false 15, Of 115 (.eq 0 true (.t 113) (.t 114)) 112 false 63, Od 116 (.pick (.t 112) (.c (.bool true)) (.t 115)) 127, Od 117 (.mv (.t 116)) 255, Of 118 (.loads 2 (.t 13)) 117 false 511, Of 119 (.loads 2 (.t 15)) 117 false 511, ⟨(some 120), .mv (.c .any), some ((.c (.fn (.func 13) [] [])), [(.t 118), (.t 119)]), (some (117, false)), 2047⟩, Of 121 (.un .not (.t 120)) 117 false 4095, Od 122 (.pick (.t 117) (.c (.bool true)) (.t 121)) 8191, Od 123 (.mv (.t 122)) 16383, Of 124 (.mv (.t 7)) 123 false 32767, ⟨(some 125), .mv (.c .any), some ((.c (.fn (.func 21) [] [])), [(.t 124)]), (some (123, false)), 65535⟩, Of 126 (.mv (.t 8)) 123 false 32767, Of 127 (.nilc (.t 126)) 123 false 163839, Of 128 (.faddr 4 (.t 127)) 123 false 425983, Of 129 (.load (.t 128)) 123 false 950271, Of 130 (.len false (.t 129)) 123 false 1998847, Of 131 (.bin .neq (.t 125) (.t 130)) 123 false 4194303, Od 132 (.pick (.t 123) (.c (.bool true)) (.t 131)) 8388607, Od 133 (.mv (.t 132)) 16777215, Of 134 (.loads 6 (.t 10)) 133 false 33554431, Of 135 (.mv (.t 2)) 133 false 33554431, Of 136 (.mv (.t 9)) 133 false 33554431, Of 137 (.iaddr 7 (.t 135) (.t 136)) 133 false 234881023, Of 138 (.faddr 1 (.t 137)) 133 false 503316479, Of 139 (.loads 6 (.t 138)) 133 false 1040187391, ⟨(some 140), .mv (.c .any), some ((.c (.fn (.func 22) [] [])), [(.t 134), (.t 139)]), (some (133, false)), 2147483647⟩, Of 141 (.un .not (.t 140)) 133 false 4294967295, Od 142 (.pick (.t 133) (.c (.bool true)) (.t 141)) 8589934591]
abbrev qahd : List SOper := [Oa 6 (.mv (.c (.bool false)))]
abbrev qahc : List SOper := [Oa 41 (.mv (.t 9)), Oa 42 (.bin .add (.t 41) (.c (.int .i64 1))), Oa 9 (.mv (.t 42))]
def qai9 : SCode := (.seq (.seq (.reg false qas2 [2, 7, 8, 9, 40]) (.cond (.t 40) .skip (.exit 0))) (.seq (.block 1 (.seq (.reg false qao7 [2, 7, 8, 9, 10]) (.seq (.reg false qao6 [2, 7, 8, 9, 10, 11, 12]) (.seq (.seq (.reg false qao5 [2, 7, 8, 9, 10, 11, 12, 53]) (.block 2 (.seq (.reg false qao4 [2, 7, 8, 9, 10, 11, 12, 53, 54]) (.cond (.t 54) (.reg true qao3 [2, 7, 8, 9, 10, 11, 12]) (.seq (.reg false qao2 [2, 7, 8, 9, 10, 11, 12, 53, 66]) (.cond (.t 66) (.reg true qao1 [2, 7, 8, 9, 10, 11, 12]) (.seq (.reg false qao0 [2, 7, 8, 9, 10, 11, 12, 78]) (.cond (.t 78) (.reg true qaoz [2, 7, 8, 9, 10, 11, 12]) .skip)))))))) (.seq (.reg false qacl [2, 7, 8, 9, 10, 11, 12, 13, 14]) (.seq (.reg false qahf [2, 7, 8, 9, 10, 11, 12, 13, 14, 15, 17]) (.seq (.reg true qahe [2, 7, 8, 9, 142]) (.cond (.t 142) (.seq (.reg false qahd [6]) .ret) .skip)))))))) (.reg false qahc [2, 7, 8, 9])))
abbrev qahb : List SOper := [Oa 143 (.mv (.t 7)), Oc 144 11 [(.t 143)], Oa 145 (.mv (.t 8)), Oc 146 24 [(.t 145)], Oc 147 23 [(.t 144), (.t 146)], Oa 6 (.mv (.t 147))]
def c_tdoes : SCode := (.seq (.reg false qata [0, 1, 2]) (.seq (.seq (.reg false qas9 [0, 1, 2, 19]) (.cond (.t 19) (.seq (.reg false qas8 [6]) .ret) .skip)) (.seq (.seq (.reg false qas7 [0, 1, 2, 29]) (.cond (.t 29) (.seq (.reg false qas6 [6]) .ret) .skip)) (.seq (.reg false qas5 [0, 1, 2, 7]) (.seq (.reg false qas4 [2, 7, 8]) (.seq (.seq (.reg false qas3 [2, 7, 8, 9]) (.block 0 (.loop qai9))) (.seq (.reg false qahb [6]) .ret)))))))
theorem qald : comp Try.prog 148 ((Try.f4.body).getD .skip) = some c_tdoes.erase := by kernel_rfl
abbrev qax5 : List SOper := [Oa 0 (.mv (.c (.bool false)))]
abbrev qax4 : List SOper := [Oc 8 8 [(.c (.int .i64 1)), (.c (.int .i64 4))], Oa 1 (.mv (.t 8))]
abbrev qamo : List SOper := [Oa 9 (.mv (.t 1)), Oa 10 (.mkrow 39 1 1 [(.int .u64 0)] [(0, (.c (.int .u64 16)))]), Oa 11 (.mkrow 39 1 1 [(.int .u64 0)] [(0, (.c (.int .u64 240)))]), Oa 12 (.build [.nilsl, .nilsl, (.int .i64 0), (.int .i64 0), (.int .i64 0), .nilsl] [(0, 1, (.t 10)), (1, 1, (.t 11)), (3, 1, (.c (.int .i64 2))), (4, 1, (.c (.int .i64 1)))]), Oc 13 10 [(.t 9), (.t 12)], Oa 2 (.mv (.t 13))]
abbrev qax3 : List SOper := [Oa 14 (.mv (.t 1)), Oa 15 (.mkrow 39 1 1 [(.int .u64 0)] [(0, (.c (.int .u64 18)))]), Oa 16 (.mkrow 39 1 1 [(.int .u64 0)] [(0, (.c (.int .u64 255)))]), Oa 17 (.build [.nilsl, .nilsl, (.int .i64 0), (.int .i64 0), (.int .i64 0), .nilsl] [(0, 1, (.t 15)), (1, 1, (.t 16)), (3, 1, (.c (.int .i64 1))), (4, 1, (.c (.int .i64 2)))]), Oc 18 10 [(.t 14), (.t 17)], Oa 3 (.mv (.t 18))]
abbrev qax2 : List SOper := [Oa 20 (.mv (.t 1)), Oa 21 (.mkrow 39 1 1 [(.int .u64 0)] [(0, (.c (.int .u64 18)))]), Oc 22 12 [(.t 20), (.t 21)], Oa 19 (.mv (.t 22)), Oa 23 (.extr (.t 19) 0), Oa 24 (.extr (.t 19) 1), Oa 4 (.alloc 36 [(.int .i64 0), .nilsl]), Ob (.store 2 (.t 4) (.t 23)), Oa 5 (.mv (.t 24))]
abbrev qax1 : List SOper := [Oa 26 (.mv (.t 1)), Oa 27 (.mkrow 39 1 1 [(.int .u64 0)] [(0, (.c (.int .u64 19)))]), Oc 28 12 [(.t 26), (.t 27)], Oa 25 (.mv (.t 28)), Oa 29 (.extr (.t 25) 0), Oa 30 (.extr (.t 25) 1), Oa 6 (.alloc 36 [(.int .i64 0), .nilsl]), Ob (.store 2 (.t 6) (.t 29)), Oa 7 (.mv (.t 30))]
abbrev qax0 : List SOper := [Oa 31 (.mv (.t 2)), Oa 32 (.bin .eql (.t 31) (.c (.int .i64 0))), Oa 33 (.mv (.t 32)), Oe 34 (.mv (.t 3)) 33 true, Oe 35 (.bin .eql (.t 34) (.c (.int .i64 0))) 33 true, Oa 36 (.pick (.t 33) (.t 35) (.c (.bool false))), Oa 37 (.mv (.t 36)), Oe 38 (.mv (.t 5)) 37 true, Oa 39 (.pick (.t 37) (.t 38) (.c (.bool false))), Oa 40 (.mv (.t 39)), Oe 41 (.mv (.t 7)) 40 true, Oa 42 (.pick (.t 40) (.t 41) (.c (.bool false))), Oa 43 (.mv (.t 42)), Oe 44 (.faddr 0 (.t 4)) 43 true, Oe 45 (.load (.t 44)) 43 true, Oe 46 (.bin .eql (.t 45) (.c (.int .i64 2))) 43 true, Oa 47 (.pick (.t 43) (.t 46) (.c (.bool false))), Oa 48 (.mv (.t 47)), Oe 49 (.faddr 0 (.t 6)) 48 true, Oe 50 (.load (.t 49)) 48 true, Oe 51 (.bin .eql (.t 50) (.c (.int .i64 1))) 48 true, Oa 52 (.pick (.t 48) (.t 51) (.c (.bool false))), Oa 0 (.mv (.t 52))]
def c_tbeg : SCode := (.seq (.reg false qax5 []) (.seq (.reg false qax4 [1]) (.seq (.reg false qamo [1, 2]) (.seq (.reg false qax3 [1, 2, 3]) (.seq (.reg false qax2 [1, 2, 3, 4, 5]) (.seq (.reg false qax1 [2, 3, 4, 5, 6, 7]) (.seq (.reg false qax0 [0]) .ret)))))))
theorem qanx : comp Try.prog 53 ((Try.f6.body).getD .skip) = some c_tbeg.erase := by kernel_rfl
end Go.Proofs.Ytefkifebgeagiaa
namespace Go.Proofs.Ytefkifebgeagiaa
set_option linter.all false
open Go.RowKit
attribute [local simp] qaao qaan qaac qaah qaad qaag qaal qaam qaaa qaay SOp.run SX.ev putd puts argS upds SOp.touch SSt.keep SSt.skip gets geth puth delh idOf SV.cells? setL qab0 qab1 sbin eq0 eq1 eqL qabz qabd qabe qaau qaak qaab qaap qaaz qaaf qaai FrzOk qaa4 qaaw qaa2 qaa3 qaaq qaav qabb qaax qaas qaa5 qaar frzS frzH frz frz1 frz0 SlotsM ObjsM ObjM rn ren ren1 ren0 qabj qabs qaby qabi qabc qabu qabx CoL qaa6 qab4 dels adds idsH qabv
theorem qap4 (σ : Nat → Nat) (o : Option Entry) : Go.Proofs.Ytefkifebgeagiaa.ren σ (qakf o) = qakf o := by cases o <;> rfl
theorem qaky (c : qac6) (l : List Entry) : ∀ i ∈ idsH (hobj c l), i < 2 := by intro i hi; simp [idsH, hobj] at hi; omega
theorem qap3 (k m : Int) (l : List Entry) (xs : List Int) (h : TInv k l) (hl : l.length ≤ 1000000) (hx : xs.length ≤ 1000000) (id q : Nat) : SCalls Try.prog 12 [.ptr id 0, nums .u64 xs] [(id, .abs (qacx (some (k, m)) l))] q (qakf (qae3 k l xs)) [(id, .abs (qacx (some (k, m)) l))] :=
 qae5 (qa1r k m l xs h hl hx).1 (by decide) (fun σ h => qad4 _ _ (h 1 (by decide))) (qaky _ _) (qa1r k m l xs h hl hx) (fun _ => rfl) (fun σ => qap4 σ _) id q
theorem tall_a (k m : Int) (l : List Entry) (h : TInv k l) (hl : l.length ≤ 1000000) (id q : Nat) : SCalls Try.prog 11 [.ptr id 0] [(id, .abs (qacx (some (k, m)) l))] q (ents (qae1 l)) [(id, .abs (qacx (some (k, m)) l))] :=
 qae5 (qa2l k m l hl h.small).1 (by decide) (fun σ h => qad4 _ _ (h 1 (by decide))) (qaky _ _) (qa2l k m l hl h.small) (fun _ => rfl) (fun σ => rfl) id q
theorem tlen_a (k m : Int) (l : List Entry) (id q : Nat) : SCalls Try.prog 21 [.ptr id 0] [(id, .abs (qacx (some (k, m)) l))] q (.int .i64 l.length) [(id, .abs (qacx (some (k, m)) l))] :=
 qae5 (tlen_o k m l 2).1 (by decide) (fun σ h => qad4 _ _ (h 1 (by decide))) (qaky _ _) (tlen_o k m l 2) (fun _ => rfl) (fun σ => rfl) id q
theorem qa2m (k m : Int) (l : List Entry) (e : Entry) (h : TInv k l) (hl : l.length < 1000000) (he : qab7 e) (id q : Nat) (hq : id < q) : SCalls Try.prog 10 [.ptr id 0, .agg (qaae e)] [(id, .abs (qacx (some (k, m)) l))] q (.int .i64 (addV k m l e)) [(id, .abs (qacx (some (k, m)) (addR k m l e)))] :=
 qae6 (tadd_s k m l e hl h.small h.fit he) (fun _ => rfl) (fun _ => rfl) rfl id q hq
theorem tdrop_a (k m : Int) (l : List Entry) (e : Entry) (h : TInv k l) (hl : l.length ≤ 1000000) (he : qab7 e) (id q : Nat) (hq : id < q) : SCalls Try.prog 9 [.ptr id 0, .agg (qaae e)] [(id, .abs (qacx (some (k, m)) l))] q (.int .i64 (qamk k l e)) [(id, .abs (qacx (some (k, m)) (qapv k l e)))] :=
 qae6 (tdrop_s k m l e hl h.small he) (fun _ => rfl) (fun _ => rfl) rfl id q hq
theorem tchg_a (k m : Int) (l : List Entry) (e : Entry) (h : TInv k l) (hl : l.length ≤ 1000000) (he : qab7 e) (id q : Nat) (hq : id < q) : SCalls Try.prog 17 [.ptr id 0, .agg (qaae e)] [(id, .abs (qacx (some (k, m)) l))] q (.int .i64 (qamk k l e)) [(id, .abs (qacx (some (k, m)) (chgR k l e)))] :=
 qae6 (tchg_s k m l e hl h.small he) (fun _ => rfl) (fun _ => rfl) rfl id q hq
theorem tnew_a (k m : Int) (q : Nat) : SCalls Try.prog 8 [.int .i64 k, .int .i64 m] [] q (.ptr q 0) [(q, .abs (qacx (some (k, m)) []))] := by
 have e0 : sg [] q 0 = q := rfl
 exact qacj [] (tnew_s k m) rfl (by simp) (by simp) rfl trivial (by simp [idsH]) (by simp [Go.Proofs.Ytefkifebgeagiaa.ren, ren1, ren0, e0]) rfl ⟨⟨.abs (qacx (some (k, m)) []), by rw [e0]; simp [geth], rfl⟩, trivial⟩ (by simp [idsH]) (by simp [idsH, e0])
theorem qalz (e z : Nat) (n : Int) : qa4o (.row e z [[.int .u64 n]]) ↔ True := ⟨fun _ => trivial, fun _ x hx => by simp at hx; subst hx; exact qacf _ rfl⟩
def tbE1 : Entry := ⟨[16], [240], 0, 2, 1, []⟩
def tbE2 : Entry := ⟨[18], [255], 0, 1, 2, []⟩
theorem tb_s1 : qab7 tbE1 := ⟨by simp [tbE1], by simp [tbE1], by simp [tbE1]⟩
theorem tb_s2 : qab7 tbE2 := ⟨by simp [tbE2], by simp [tbE2], by simp [tbE2]⟩
theorem tb_v1 : addV 1 4 [] tbE1 = 0 := by rfl
theorem tb_r1 : addR 1 4 [] tbE1 = [tbE1] := by rfl
theorem tb_v2 : addV 1 4 [tbE1] tbE2 = 0 := by rfl
theorem tb_r2 : addR 1 4 [tbE1] tbE2 = [tbE2, tbE1] := by rfl
theorem tb_f1 : qae3 1 [tbE2, tbE1] [18] = some tbE2 := by rfl
theorem tb_f2 : qae3 1 [tbE2, tbE1] [19] = some tbE1 := by rfl
theorem tb_i1 : TInv 1 [tbE1] := by rw [← tb_r1]; exact qalw (qake 1) tb_s1
theorem tb_i2 : TInv 1 [tbE2, tbE1] := by rw [← tb_r2]; exact qalw tb_i1 tb_s2
theorem tbeg_s (q : Nat) : SCalls Try.prog 6 [] [] q (.bool true) [] := by
 refine qabo ?_ (fun _ => rfl) (fun _ => rfl) rfl q
 have k1 := fun q hq => qa2m 1 4 [] tbE1 (qake 1) (by simp) tb_s1 0 q hq
 have k2 := fun q hq => qa2m 1 4 [tbE1] tbE2 tb_i1 (by simp) tb_s2 0 q hq
 have k3 := fun q => qap3 1 4 [tbE2, tbE1] [18] tb_i2 (by simp) (by simp) 0 q
 have k4 := fun q => qap3 1 4 [tbE2, tbE1] [19] tb_i2 (by simp) (by simp) 0 q
 rw [tb_v1, tb_r1] at k1
 rw [tb_v2, tb_r2] at k2
 rw [tb_f1, show qakf (some tbE2) = .tup [.agg [.int .i64 2, .view 1 []], .bool true] from rfl] at k3
 rw [tb_f2, show qakf (some tbE1) = .tup [.agg [.int .i64 1, .view 1 []], .bool true] from rfl] at k4
 refine qaa0 (N := 53) Try.func6 rfl rfl (by kernel_rfl) qanx (by simp) (by repeat' (first | exact trivial | refine And.intro ?_ ?_ | rfl | decide | exact PureR.ren _)) (by repeat' (first | exact trivial | refine And.intro ?_ ?_ | rfl | decide | exact PureR.ren _)) ?_
 rintro X hP hN hm
 unfold c_tbeg
 repeat' (first | ((with_reducible refine qac8 (c := .seq (.reg false qamo [1, 2]) _) ?_)) | (with_reducible refine zA ?_) | ((with_reducible refine qaaj ?_); (try rw [hP]); simp -implicitDefEqProofs [*]) | (refine qaep (tnew_a 1 4 _) trivial ⟨rfl, trivial⟩ ?_; simp -implicitDefEqProofs [*]) | fail)
 constructor
 refine qaef (s' := ⟨[(1, .ptr 0 0)], [(0, .abs (qacx (some (1, 4)) []))], 1⟩) (qabh [(0, 1)] hm ⟨Co.refl _, trivial⟩ ⟨⟨_, rfl, rfl⟩, trivial⟩ rfl (Nat.zero_le _)) ?_
 refine qaa8 (qahq 4 ?_)
 simp -implicitDefEqProofs
 refine ⟨⟨[(1, .ptr 0 0), (9, .ptr 0 0), (12, .agg (qaae tbE1))], [(0, .abs (qacx (some (1, 4)) []))], 1⟩, qaho [2, 3] [] hm rfl (by simp only [FrzOk, geth, Nat.reduceEqDiff, reduceIte, qalz, and_true]) ⟨Co.refl _, Co.refl _, qabu ⟨Co.refl _, Co.refl _, Co.refl _, Co.refl _, Co.refl _, Co.nilsl 1, trivial⟩, trivial⟩ ⟨⟨_, rfl, rfl⟩, trivial⟩ rfl (Nat.zero_le _), ?_⟩
 simp -implicitDefEqProofs
 rw [hP]
 refine qaep (k1 _ (by simp)) ⟨rfl, trivial⟩ ⟨rfl, trivial⟩ ?_
 simp -implicitDefEqProofs
 refine qaa8 (qahq 4 ?_)
 simp -implicitDefEqProofs
 refine ⟨⟨[(1, .ptr 0 0), (2, .int .i64 0), (14, .ptr 0 0), (17, .agg (qaae tbE2))], [(0, .abs (qacx (some (1, 4)) [tbE1]))], 1⟩, qaho [11, 12] [] hm rfl (by simp only [FrzOk, geth, Nat.reduceEqDiff, reduceIte, qalz, and_true]) ⟨Co.refl _, Co.refl _, Co.refl _, qabu ⟨Co.refl _, Co.refl _, Co.refl _, Co.refl _, Co.refl _, Co.nilsl 1, trivial⟩, trivial⟩ ⟨⟨_, rfl, rfl⟩, trivial⟩ rfl (Nat.zero_le _), ?_⟩
 simp -implicitDefEqProofs
 rw [hP]
 refine qaep (k2 _ (by simp)) ⟨rfl, trivial⟩ ⟨rfl, trivial⟩ ?_
 simp -implicitDefEqProofs
 refine qaa8 (qahq 2 ?_)
 simp -implicitDefEqProofs
 refine ⟨⟨[(1, .ptr 0 0), (2, .int .i64 0), (3, .int .i64 0), (20, .ptr 0 0), (21, nums .u64 [18])], [(0, .abs (qacx (some (1, 4)) [tbE2, tbE1]))], 1⟩, qaho [11] [] hm rfl (by simp only [FrzOk, geth, Nat.reduceEqDiff, reduceIte, qalz, and_true]) ⟨Co.refl _, Co.refl _, Co.refl _, Co.refl _, Co.refl _, trivial⟩ ⟨⟨_, rfl, rfl⟩, trivial⟩ rfl (Nat.zero_le _), ?_⟩
 simp -implicitDefEqProofs
 rw [hP]
 refine qab9 (k3 _) ⟨rfl, trivial⟩ ⟨rfl, trivial⟩ ?_
 simp -implicitDefEqProofs
 refine qaa8 (qahq 2 ?_)
 simp -implicitDefEqProofs
 refine ⟨⟨[(2, .int .i64 0), (3, .int .i64 0), (4, .ptr 1 0), (5, .bool true), (26, .ptr 0 0), (27, nums .u64 [19])], [(0, .abs (qacx (some (1, 4)) [tbE2, tbE1])), (1, .cells 36 [.int .i64 2, .view 1 []])], 2⟩, qaho [16] [(1, 12)] hm rfl (by simp only [FrzOk, geth, Nat.reduceEqDiff, reduceIte, qalz, and_true]) ⟨Co.refl _, Co.refl _, Co.refl _, Co.refl _, Co.refl _, Co.refl _, trivial⟩ ⟨⟨_, rfl, rfl⟩, ⟨_, rfl, rfl, CoL.refl _⟩, trivial⟩ rfl (Nat.zero_le _), ?_⟩
 simp -implicitDefEqProofs
 rw [hP]
 refine qab9 (k4 _) ⟨rfl, trivial⟩ ⟨rfl, trivial⟩ ?_
 simp -implicitDefEqProofs
 repeat' (first | (with_reducible refine zA ?_) | ((with_reducible refine qaaj ?_); (try rw [hP]); simp -implicitDefEqProofs [*]) | ((with_reducible refine qaa7 ?_); (try simp only [qaau, qaab, qaaf])) | (with_reducible refine zN hm ?_) | fail)
 all_goals rfl
end Go.Proofs.Ytefkifebgeagiaa
namespace Go.Proofs.Ytefkifebgeagiaa
set_option linter.all false
open Go.RowKit
def pre (W : Nat) (key : Int) (i : Nat) : Int := key / 2 ^ (W - i)
theorem qaq1 (n : Nat) : (0 : Int) < 2 ^ n := Int.pow_pos (by decide)
theorem qaii {W : Nat} {key : Int} (h0 : 0 ≤ key) (i : Nat) : 0 ≤ pre W key i := Int.ediv_nonneg h0 (Int.le_of_lt (qaq1 _))
theorem pre_lt {W i : Nat} {key : Int} (h1 : key < 2 ^ W) (hi : i ≤ W) : pre W key i < 2 ^ i := by
 unfold pre
 refine Int.ediv_lt_of_lt_mul (qaq1 _) ?_
 rw [← Int.pow_add, show i + (W - i) = W by omega]
 exact h1
def qa4v (width key n : Int) : Bool := decide (1 ≤ width ∧ width ≤ 64 ∧ 0 ≤ n ∧ n ≤ width ∧ key < 2 ^ width.toNat ∧ key % 2 ^ (width - n).toNat = 0)
end Go.Proofs.Ytefkifebgeagiaa
namespace Go.Proofs.Ytefkifebgeagiaa
set_option linter.all false
open Go.RowKit
structure Dat where
 there : Bool
 act : Int
 args : List Int
def noDat : Dat := ⟨false, 0, []⟩
def ptr (o : Option Nat) : Value := .pointer (o.map fun g => ⟨g, 0, none⟩)
end Go.Proofs.Ytefkifebgeagiaa
namespace Go.Proofs.Ytefkifebgeagiaa
set_option linter.all false
open Go.RowKit
attribute [local go_sem ↓] Go.wp_at_zero Go.wp_at_succ
structure Grown (w wr : World) (adr adr' : Nat → Int → Option Nat) (dat dat' : Nat → Int → Dat) : Prop where
 old : ∀ i v g, adr i v = some g → adr' i v = some g ∧ dat' i v = dat i v
 new : ∀ i v g, adr' i v = some g → adr i v = some g ∨ (w.heap.size ≤ g ∧ adr i v = none ∧ dat' i v = noDat)
 step : Step (fun b => ∃ i v, adr i v = some b) w wr
theorem Grown.refl (w : World) (adr : Nat → Int → Option Nat) (dat : Nat → Int → Dat) : Grown w w adr adr dat dat := ⟨fun _ _ _ e => ⟨e, rfl⟩, fun _ _ _ e => .inl e, Step.refl _ _⟩
theorem Grown.below {w wr w' : World} {adr adr' : Nat → Int → Option Nat} {dat dat' : Nat → Int → Dat} (h : Grown w wr adr adr' dat dat') (hb : Below wr.heap.size wr w') : Grown w w' adr adr' dat dat' := ⟨h.old, h.new, h.step.trans (Step.of hb)⟩
theorem Step.fresh {A B : Nat → Prop} {w wr w' : World} (h : Step A w wr) (k : Step B wr w') (hB : ∀ b, B b → A b ∨ w.heap.size ≤ b) : Step A w w' :=
 ⟨k.os.trans h.os, k.tape.trans h.tape, k.output.trans h.output, Nat.le_trans h.size k.size, fun i hi hA => (k.block i (Nat.lt_of_lt_of_le hi h.size) fun hb => (hB i hb).elim hA fun h2 => absurd hi (Nat.not_lt_of_le h2)).trans (h.block i hi hA)⟩
end Go.Proofs.Ytefkifebgeagiaa
namespace Go.Proofs.Ytefkifebgeagiaa
set_option linter.all false
open Go.RowKit
attribute [local go_sem ↓] Go.wp_at_zero Go.wp_at_succ
def ent (adr : Nat → Int → Option Nat) (dat : Nat → Int → Dat) (i : Nat) (v : Int) : Option (Int × List Int) := match adr i v with
 | some _ => if (dat i v).there then some ((dat i v).act, (dat i v).args) else none
 | none => none
theorem qak3 {adr : Nat → Int → Option Nat} {dat : Nat → Int → Dat} {i : Nat} {v : Int} (h : adr i v = none) : ent adr dat i v = none := by unfold ent; rw [h]
theorem qarv {adr : Nat → Int → Option Nat} {dat : Nat → Int → Dat} {i : Nat} {v : Int} {g : Nat} (h : adr i v = some g) : ent adr dat i v = if (dat i v).there then some ((dat i v).act, (dat i v).args) else none := by unfold ent; rw [h]
def qagh (E : Nat → Int → Option (Int × List Int)) (i : Nat) (v : Int) (x : Option (Int × List Int)) : Nat → Int → Option (Int × List Int) := fun j u => if j = i ∧ u = v then x else E j u
def qag2 (width most n : Int) (E : Nat → Int → Option (Int × List Int)) (key k : Int) : Int :=
 if qa4v width key k = false then 6 else if (E k.toNat (pre width.toNat key k.toNat)).isSome then 7 else if most ≤ n then 10 else 0
def qag1 (width most n : Int) (E : Nat → Int → Option (Int × List Int)) (key k : Int) : Int := if qag2 width most n E key k = 0 then n + 1 else n
def qaij (width most n : Int) (E : Nat → Int → Option (Int × List Int)) (key k act : Int) (args : List Int) : Nat → Int → Option (Int × List Int) := if qag2 width most n E key k = 0 then qagh E k.toNat (pre width.toNat key k.toNat) (some (act, args)) else E
theorem qawv {width most n : Int} {E : Nat → Int → Option (Int × List Int)} {key k : Int} (h : qag2 width most n E key k ≠ 0) (act : Int) (args : List Int) : qag1 width most n E key k = n ∧ qaij width most n E key k act args = E := by unfold qag1 qaij; rw [if_neg h, if_neg h]; exact ⟨rfl, rfl⟩
theorem qaq3 {width most n : Int} {E : Nat → Int → Option (Int × List Int)} {key k : Int} (h : qag2 width most n E key k = 0) (act : Int) (args : List Int) : qag1 width most n E key k = n + 1 ∧ qaij width most n E key k act args = qagh E k.toNat (pre width.toNat key k.toNat) (some (act, args)) := by unfold qag1 qaij; rw [if_pos h, if_pos h]; exact ⟨rfl, rfl⟩
theorem qaik {width key k : Int} (h : qa4v width key k = true) : ∃ W K : Nat, width = W ∧ k = K ∧ 1 ≤ W ∧ W ≤ 64 ∧ K ≤ W ∧ key < 2 ^ W ∧ key % 2 ^ (W - K) = 0 := by
 unfold qa4v at h
 rw [decide_eq_true_iff] at h
 obtain ⟨h1, h2, h3, h4, h5, h6⟩ := h
 refine ⟨width.toNat, k.toNat, by omega, by omega, by omega, by omega, by omega, h5, ?_⟩
 rw [show width.toNat - k.toNat = (width - k).toNat by omega]; exact h6
theorem Grown.ent {w wr : World} {adr adr' : Nat → Int → Option Nat} {dat dat' : Nat → Int → Dat} (h : Grown w wr adr adr' dat dat') (i : Nat) (v : Int) : ent adr' dat' i v = ent adr dat i v := by
 cases e : adr' i v with
 | none =>
  rw [qak3 e]
  cases e2 : adr i v with
  | none => rw [qak3 e2]
  | some g => have := (h.old i v g e2).1; rw [e] at this; cases this
 | some g =>
  rw [qarv e]
  rcases h.new i v g e with e2 | ⟨_, e2, e3⟩
  ·rw [qarv e2, (h.old i v g e2).2]
  ·rw [qak3 e2, e3]; rfl
end Go.Proofs.Ytefkifebgeagiaa
