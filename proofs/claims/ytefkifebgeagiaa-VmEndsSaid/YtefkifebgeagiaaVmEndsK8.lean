/-
  Texts joined: XVmJ. No condition.
-/
import Derived.Test.YtefkifebgeagiaaProg
import Derived.Test.YtefkifebgeagiaaRows
import Derived.Deep.QuietTactic
import Derived.BigQuiet
import Derived.WalkSmall
import Derived.Handy
import Derived.Deep.RegionLaw
import Derived.Deep.Cut
import Derived.Deep.CutRange
import Derived.WalkSpells
import Derived.RegionTactic
import Derived.BigRegion
import Derived.Deep.RegionHeld3
import Derived.Deep.DrawnRows
import Derived.Outline
import Derived.Laws.StructEq
import Derived.Test.YtefkifebgeagiaaVmEndsK7
namespace Go.Proofs.Ytefkifebgeagiaa
set_option linter.all false
open Go.RowKit
attribute [local simp] qab2 qab1 qaa2 qabg qaa3 qabf qabz qab0 qaav qacs SOp.run SX.ev putd puts argS upds SOp.touch SSt.keep SSt.skip gets geth puth delh idOf SV.cells? setL qaf7 qaf8 sbin eq0 eq1 eqL qafp qaef qaeg qaaj qab3 qaaa qab4 qact qaae qaas FrzOk qabj qaa5 qabh qabi qaax qaa4 qab5 qaa6 qaaz qabk qaay frzS frzH frz frz1 frz0 SlotsM ObjsM ObjM rn ren ren1 ren0 qacw qadi qaep qacv qab6 qadj qaeo CoL qabm qabl dels adds idsH qabc
theorem qaj2 (p : Prog) (hp : PWf p) (b : List Int) (port : Int) (id q : Nat) : SCalls Try.prog 27 [.agg (pcv p), .own id 1, nums .u8 b, .int .i64 port] [(id, .row 114 1 [[.nil]])] q (.tup [.agg [.int .i64 0, .nilsl], .int .i64 0, .agg [.int .i64 (badV p).1, .int .i64 (badV p).2]]) [(id, .row 114 1 [[.nil]])] :=
 qadx (qapl p hp b port q) ⟨qacm _, qaej (e := 114) (by simp [geth]) (fun x hx => by simp at hx; subst hx; exact qacj _ rfl) rfl, qacm _, qacm _, trivial⟩ (qan1 (qabo (qaie (qabo (qadt _ _) (qabo qaix qaeq))) (qabo (qadt _ _) (qabo (qaie (qabo (qadt _ _) (qabo (qadt _ _) qaeq))) qaeq))))
theorem qaqi : LayP qaba scv := fun A w x cs h => by
 rw [h.1]; exact ⟨Reps.cons .int (Reps.cons .int (Reps.cons .int Reps.nil)), fun v hv => by simp [Shape.cells] at hv; rcases hv with rfl | rfl | rfl <;> rfl⟩
theorem qans : LayP qadq icv := fun A w x cs h => by
 rw [h.1]; exact ⟨Reps.cons .int (Reps.cons .int (Reps.cons .int (Reps.cons .int (Reps.cons .int (Reps.cons .int Reps.nil))))), fun v hv => by simp [Ins.cells] at hv; rcases hv with rfl | rfl | rfl | rfl | rfl | rfl <;> rfl⟩
theorem qap1 {w : World} (slots : Int) {to_ co : Option Addr} {tn tc cn cc : Nat} {tabs : List Shape} {code : List Ins} (ht : RdL qaba NoA w to_ tn tc tabs) (hc : RdL qadq NoA w co cn cc code) : RepV w (fun _ => False) noPl (.agg (pcv ⟨slots, tabs, code⟩)) (.agg #[.int .i64 slots, .slice to_ tn tc, .slice co cn cc]) :=
 .agg (vs := [.int .i64 slots, .slice to_ tn tc, .slice co cn cc]) (fun v hv => by simp at hv; rcases hv with rfl | rfl | rfl <;> rfl) rfl (Reps.cons .int (Reps.cons (qafh qaqi ht) (Reps.cons (qafh qans hc) Reps.nil))).2
theorem pwf_ofx {w : World} (slots : Int) {to_ co : Option Addr} {tn tc cn cc : Nat} {tabs : List Shape} {code : List Ins} (ht : RdL qaba NoA w to_ tn tc tabs) (hc : RdL qadq NoA w co cn cc code) : PWf ⟨slots, tabs, code⟩ := ⟨ht.wf_flat, hc.wf_flat⟩
theorem qapy (xs ys : List Int) (hx : AllFit .u8 xs) (hy : AllFit .u8 ys) (q : Nat) : SCalls Try.prog 50 [nums .u8 xs, nums .u8 ys] [] q (.bool (decide (xs = ys))) [] := by
 refine qah0 (Enters.of Try.func50 rfl rfl) (fun O w vs hO h => ?_) (fun σ => rfl) q
 obtain ⟨v, us, rfl, h1, h2⟩ := Reps.cons_inv h
 obtain ⟨u, us2, rfl, h3, h4⟩ := Reps.cons_inv h2
 cases h4.nil_inv
 obtain ⟨ao, ac, rfl, r1, _⟩ := qao1 h1 hx
 obtain ⟨bo, bc, rfl, r2, _⟩ := qao1 h3 hy
 refine (qaf4 _ _ _ _ _ _ _ _ _ r1 r2).mono ?_
 rintro e w' ⟨rfl, rfl⟩
 exact ⟨_, rfl, Below.refl _ _, .bool⟩
theorem qao3 (a c : Int) (xs ys : List Int) (hx : AllFit .u8 xs) (hy : AllFit .u8 ys) (q : Nat) : SCalls Try.prog 28 [.agg [.int .i64 a, nums .u8 xs], .agg [.int .i64 c, nums .u8 ys]] [] q (.bool (a == c && decide (xs = ys))) [] := by
 refine qabu ?_ (fun _ => rfl) (fun _ => rfl) rfl q
 have k1 := fun q => qapy xs ys hx hy q
 refine qaar (N := 17) Try.func28 rfl rfl (by kernel_rfl) qagq (by simp) (by repeat' (first | exact trivial | refine And.intro ?_ ?_ | rfl | decide | exact PureR.ren _)) (by repeat' (first | exact trivial | refine And.intro ?_ ?_ | rfl | decide | exact PureR.ren _)) ?_
 rintro X hP hN hm
 unfold c_sresl
 cases hx : (a == c)
 all_goals
  repeat' (first | (with_reducible refine zA ?_) | ((with_reducible refine qaac ?_); (try rw [hP]); simp -implicitDefEqProofs [hx, *]) | ((with_reducible refine qaah ?_); (try simp only [qaaj, qaaa, qaae])) | (refine qabb (k1 _) ?_; simp -implicitDefEqProofs [hx, *]) | (with_reducible refine zN hm ?_) | fail)
  all_goals first | rfl | simp | trace_state
def qais (p : Prog) : Bool := decide (300 < p.tabs.length) || decide (65000 < p.code.length)
theorem gprog_s (p : Prog) (q : Nat) : SCalls Try.prog 26 [.agg (pcv p)] [] q (.bool (qais p)) [] := by
 refine qabu ?_ (fun _ => rfl) (fun _ => rfl) rfl q
 refine qaar (N := 13) Try.func26 rfl rfl (by kernel_rfl) qagr (by simp) (by repeat' (first | exact trivial | refine And.intro ?_ ?_ | rfl | decide | exact PureR.ren _)) (by repeat' (first | exact trivial | refine And.intro ?_ ?_ | rfl | decide | exact PureR.ren _)) ?_
 rintro X hP hN hm
 unfold c_gprog pcv
 by_cases h3 : 300 < p.tabs.length
 ·have h4 : (p.tabs.length : Int) > 300 := by omega
  rw [show qais p = true by unfold qais; rw [decide_eq_true h3, Bool.true_or]]
  repeat' (first | (with_reducible refine zA ?_) | ((with_reducible refine qaac ?_); (try rw [hP]); simp -implicitDefEqProofs [h4, *]) | ((with_reducible refine qaah ?_); (try simp only [qaaj, qaaa, qaae])) | (with_reducible refine zN hm ?_) | fail)
  all_goals rfl
 ·have h4 : ¬ (p.tabs.length : Int) > 300 := by omega
  rw [show qais p = decide (65000 < p.code.length) by unfold qais; rw [decide_eq_false h3, Bool.false_or]]
  repeat' (first | (with_reducible refine zA ?_) | ((with_reducible refine qaac ?_); (try rw [hP]); simp -implicitDefEqProofs [h4, *]) | ((with_reducible refine qaah ?_); (try simp only [qaaj, qaaa, qaae])) | (with_reducible refine zN hm ?_) | fail)
  all_goals exact decide_eq_decide.2 (by omega)
theorem qanf {p : Prog} (hp : PWf p) (b : List Int) (port : Int) : 0 ≤ (runV p b port).2.1 ∧ (runV p b port).2.1 ≤ p.code.length ∧ ((runV p b port).2.2.1 = 0 → (runV p b port).2.1 ≠ 0) ∧ (runV p b port).2.2.2 < p.code.length := by
 have hAt : (qacu p).1 ≠ 0 → (qacu p).2 < p.code.length := by
  unfold qacu
  intro h
  repeat' split
  all_goals (simp only; omega)
 unfold runV
 split
 ·rename_i h; exact ⟨by simp, by simp, fun h2 => absurd h2 h, hAt h⟩
 ·split
  ·simp only; omega
  ·split
   ·simp only; omega
   ·split
    ·simp only; omega
    ·rename_i h0 _ _ _
     have h0' : (qacu p).1 = 0 := by simpa using h0
     obtain ⟨m1, m2, m3, m4, m5⟩ := qafq h0'
     exact qae7 (fun i hi => (qaei hp.c h0' i hi).2) m1 _ _ _ _ m2 (by omega) (by omega) (by omega)
def vbP : Prog := ⟨0, [], [⟨1, 0, 0, 0, 0, 5⟩, ⟨16, 0, 0, 0, 0, 0⟩]⟩
theorem vb_wf : PWf vbP := ⟨fun x hx => by simp [vbP] at hx, fun x hx => by
 simp [vbP] at hx
 rcases hx with rfl | rfl <;> exact ⟨rfl, rfl, rfl, rfl, rfl, rfl⟩⟩
theorem vb_run : runV vbP [1] 2 = ((5, []), 2, 0, 0) := by rfl
theorem vb_pure (e : Nat) (n : Int) : qapi (.row e 1 [[.int .u8 n]]) ↔ True := ⟨fun _ => trivial, fun _ x hx => by simp at hx; subst hx; exact qacj _ rfl⟩
theorem qapq (e : Nat) (a c d : List SV) (h : a = icv ⟨1, 0, 0, 0, 0, 5⟩) (g : c = icv ⟨16, 0, 0, 0, 0, 0⟩) : qapi (.row e 6 [a, c]) := fun x hx => by
 simp at hx
 rcases hx with rfl | rfl
 ·rw [h]; exact qacj _ rfl
 ·rw [g]; exact qacj _ rfl
theorem vmbeg_s (q : Nat) : SCalls Try.prog 25 [] [] q (.bool true) [] := by
 refine qabu ?_ (fun _ => rfl) (fun _ => rfl) rfl q
 have k1 := fun q => vrun_s vbP vb_wf [1] 2 q
 rw [vb_run, show runR ((5, []), 2, 0, 0) = .tup [.agg [.int .i64 5, .view 1 []], .int .i64 2, .agg [.int .i64 0, .int .i64 0]] from rfl] at k1
 have k2 : ∀ q, SCalls Try.prog 28 [.agg [.int .i64 5, .view 1 []], .agg [.int .i64 5, .nilsl]] [] q (.bool true) [] := fun q => qah1 (qao3 5 5 [] [] (fun x hx => by cases hx) (fun x hx => by cases hx) q) ⟨Co.refl _, qadj ⟨Co.refl _, Co.nilsl 1, trivial⟩, trivial⟩
 refine qaar (N := 26) Try.func25 rfl rfl (by kernel_rfl) qago (by simp) (by repeat' (first | exact trivial | refine And.intro ?_ ?_ | rfl | decide | exact PureR.ren _)) (by repeat' (first | exact trivial | refine And.intro ?_ ?_ | rfl | decide | exact PureR.ren _)) ?_
 rintro X hP hN hm
 unfold c_vmbeg
 repeat' (first | ((with_reducible refine qapr (c := .seq (.reg false qaf1 [1, 2, 3]) _) ?_)) | (with_reducible refine zA ?_) | ((with_reducible refine qaac ?_); (try rw [hP]); simp -implicitDefEqProofs [*]) | fail)
 constructor
 refine qao2 (qaps 5 ?_)
 simp -implicitDefEqProofs
 refine ⟨⟨[(8, .agg (pcv vbP)), (9, nums .u8 [1])], [], 0⟩, qapk [3, 5] [] hm rfl ⟨qapq _ _ _ [] rfl rfl, (vb_pure _ _).2 trivial, trivial⟩ ⟨qadj ⟨Co.refl _, Co.nilsl 3, Co.refl _, trivial⟩, Co.refl _, trivial⟩ trivial rfl (Nat.zero_le _), ?_⟩
 simp -implicitDefEqProofs
 rw [hP]
 refine qabb (k1 _) ?_
 simp -implicitDefEqProofs
 repeat' (first | (with_reducible refine zA ?_) | ((with_reducible refine qaac ?_); (try rw [hP]); simp -implicitDefEqProofs [*]) | ((with_reducible refine qaah ?_); (try simp only [qaaj, qaaa, qaae])) | (refine qabb (k2 _) ?_; simp -implicitDefEqProofs [*]) | (with_reducible refine zN hm ?_) | fail)
 all_goals rfl
theorem vends_s (p : Prog) (hp : PWf p) (b : List Int) (port : Int) : SCalls Try.prog 5 [.agg (pcv p), nums .u8 b, .int .i64 port] [] 0 (.bool true) [] := by
 have k1 := fun q => vrun_s p hp b port q
 have k2 := fun id q => qaj2 p hp b port id q
 have kg := fun q => gprog_s p q
 have ks : ∀ q, SCalls Try.prog 28 [.agg [.int .i64 0, .nilsl], .agg [.int .i64 0, .nilsl]] [] q (.bool true) [] := fun q => qah1 (qao3 0 0 [] [] (fun x hx => by cases hx) (fun x hx => by cases hx) q) ⟨qadj ⟨Co.refl _, Co.nilsl 1, trivial⟩, qadj ⟨Co.refl _, Co.nilsl 1, trivial⟩, trivial⟩
 obtain ⟨r1, r2, r3, r4⟩ := qanf hp b port
 have hbad : (badV p).1 ≠ 0 := by
  unfold badV
  split
  ·assumption
  ·decide
 generalize runV p b port = V at k1 r1 r2 r3 r4
 obtain ⟨⟨x1, x2⟩, n, c, a⟩ := V
 generalize badV p = B at k2 hbad
 try simp only at r1 r2 r3 r4
 unfold runR at k1
 try simp only at k1
 refine qaar (N := 77) Try.func5 rfl rfl (by kernel_rfl) qagp (by simp) (by repeat' (first | exact trivial | refine And.intro ?_ ?_ | rfl | decide | exact PureR.ren _)) (by repeat' (first | exact trivial | refine And.intro ?_ ?_ | rfl | decide | exact PureR.ren _)) ?_
 rintro X hP hN hm
 unfold c_vends
 unfold pcv at k1 k2 kg ⊢
 have kv := fun q => vmbeg_s q
 cases hg : qais p
 case true =>
  rw [hg] at kg
  clear k1 k2 ks
  repeat' (first | (with_reducible refine zA ?_) | ((with_reducible refine qaac ?_); (try rw [hP]); simp -implicitDefEqProofs [*]) | ((with_reducible refine qaai ?_); (try simp -implicitDefEqProofs [*])) | ((with_reducible refine qaah ?_); (try simp only [qaaj, qaaa, qaae])) | ((with_reducible refine qaab rfl (fun h => ?_) (fun h => ?_)) <;> have h' := h <;> (try simp at h') <;> (try subst h')) | ((first | refine qabb (kv _) ?_ | refine qabb (kg _) ?_); simp -implicitDefEqProofs [*]) | (with_reducible refine zN hm ?_) | fail)
  all_goals first | rfl | trace_state
 case false =>
  rw [hg] at kg
  by_cases hb : b.length > 2000
  ·have hb' : (b.length : Int) > 2000 := by omega
   clear k1 k2 ks
   repeat' (first | (with_reducible refine zA ?_) | ((with_reducible refine qaac ?_); (try rw [hP]); simp -implicitDefEqProofs [nums, hb', *]) | ((with_reducible refine qaai ?_); (try simp -implicitDefEqProofs [nums, hb', *])) | ((with_reducible refine qaah ?_); (try simp only [qaaj, qaaa, qaae])) | ((with_reducible refine qaab rfl (fun h => ?_) (fun h => ?_)) <;> have h' := h <;> (try simp at h') <;> (try subst h')) | ((first | refine qabb (kv _) ?_ | refine qabb (kg _) ?_); simp -implicitDefEqProofs [nums, hb', *]) | (with_reducible refine zN hm ?_) | fail)
   all_goals first | rfl | trace_state
  ·have hb' : ¬ (b.length : Int) > 2000 := by omega
   have e1 : ¬ n < 0 := by omega
   have e2 : ¬ n > (p.code.length : Int) := by omega
   have e4 : ¬ a ≥ (p.code.length : Int) := by omega
   have e5 : (B.1 != 0) = true := by simpa using hbad
   have e3 : (c == 0) = true → (n == 0) = false := fun h => by have := r3 (by simpa using h); simpa using this
   clear r1 r2 r3 r4 hbad
   unfold nums at k1 k2
   cases ec : (c == 0)
   ·replace e3 := Lib.hid e3
    repeat' (first | (with_reducible refine zA ?_) | ((with_reducible refine qaac ?_); (try rw [hP]); simp -implicitDefEqProofs [nums, hb', e1, e2, e4, e5, ec, *]) | ((with_reducible refine qaai ?_); (try simp -implicitDefEqProofs [nums, hb', e1, e2, e4, e5, ec, *])) | ((with_reducible refine qaah ?_); (try simp only [qaaj, qaaa, qaae])) | ((with_reducible refine qaab rfl (fun h => ?_) (fun h => ?_)) <;> have h' := h <;> (try simp at h') <;> (try subst h')) | ((first | refine qabb (kv _) ?_ | refine qabb (kg _) ?_ | refine qabb (k1 _) ?_ | refine qabs (k2 _ _) ⟨rfl, trivial⟩ ⟨rfl, trivial⟩ ?_ | refine qabb (ks _) ?_); simp -implicitDefEqProofs [nums, hb', e1, e2, e4, e5, ec, *]) | (with_reducible refine zN hm ?_) | fail)
    all_goals first | rfl | trace_state
   ·have e6 := e3 ec
    clear e3
    repeat' (first | (with_reducible refine zA ?_) | ((with_reducible refine qaac ?_); (try rw [hP]); simp -implicitDefEqProofs [nums, hb', e1, e2, e4, e5, ec, e6, *]) | ((with_reducible refine qaai ?_); (try simp -implicitDefEqProofs [nums, hb', e1, e2, e4, e5, ec, e6, *])) | ((with_reducible refine qaah ?_); (try simp only [qaaj, qaaa, qaae])) | ((with_reducible refine qaab rfl (fun h => ?_) (fun h => ?_)) <;> have h' := h <;> (try simp at h') <;> (try subst h')) | ((first | refine qabb (kv _) ?_ | refine qabb (kg _) ?_ | refine qabb (k1 _) ?_ | refine qabs (k2 _ _) ⟨rfl, trivial⟩ ⟨rfl, trivial⟩ ?_ | refine qabb (ks _) ?_); simp -implicitDefEqProofs [nums, hb', e1, e2, e4, e5, ec, e6, *]) | (with_reducible refine zN hm ?_) | fail)
    all_goals first | rfl | trace_state
theorem VmEnds_law (slots : Int) (to_ co : Option Addr) (tn tc cn cc : Nat) (tabs : List Shape) (code : List Ins) (bo : Option Addr) (bn bc : Nat) (b : List Int) (port : Int) (w : World)
  (_ : Fits .i64 slots) (ht : RdL qaba NoA w to_ tn tc tabs) (hc : RdL qadq NoA w co cn cc code) (hb : Rd w .u8 bo bn bc b) (_ : (Lit.int .i64 port).wf = true) :
  Calls Try.prog 5 #[.agg #[.int .i64 slots, .slice to_ tn tc, .slice co cn cc], .slice bo bn bc, .int .i64 port] w fun e w' => e = .returned (.bool true) ∧ Below w.heap.size w w' :=
 law_of (vs := [.agg #[.int .i64 slots, .slice to_ tn tc, .slice co cn cc], .slice bo bn bc, .int .i64 port]) (vends_s ⟨slots, tabs, code⟩ (pwf_ofx slots ht hc) b port) (Reps.cons (qap1 slots ht hc) (Reps.cons (rd_view hb fun _ _ _ h => h) (Reps.cons .int Reps.nil)))
end Go.Proofs.Ytefkifebgeagiaa
