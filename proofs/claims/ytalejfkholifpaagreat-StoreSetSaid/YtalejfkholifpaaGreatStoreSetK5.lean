/-
  Texts joined: XTerA XTerB XShMt XTerC XTerD XTerE XTerF XTerG XTerH XTerI XTerJ XTerO XTerK XTerL XTerM XTrow XTerP XTerN XBv XTerR XTerV XTerQ XTerS XPfxP XPfxT XBitsQ XPfxW. No condition.
-/
import Derived.WalkSpells
import Derived.RegionTactic
import Derived.BigRegion
import Derived.Deep.RegionLaw
import Derived.Test.YtalejfkholifpaaGreatProg
import Derived.BigQuiet
import Derived.Deep.QuietTactic
import Derived.Deep.RegionHeld3
import Derived.Deep.DrawnRows
import Derived.Outline
import Derived.Test.YtalejfkholifpaaGreatStoreSetK4
namespace Go.Proofs.YtalejfkholifpaaGreat
set_option linter.all false
open Go.RowKit
attribute [local simp] qaas qaar qaac qaag qaad qaaf qaap qaaq qaab qaa4 SOp.run SX.ev putd puts argS upds SOp.touch SSt.keep SSt.skip gets geth puth delh idOf SV.cells? setL qab7 qab8 sbin eq0 eq1 eqL qab5 qabh qabi qaa5 qaat qaae qaau qaa6 qaam qaan FrzOk qaba qaa0 qaa8 qaa9 qaav qaaz qabe qaa1 qaax qabb qaaw frzS frzH frz frz1 frz0 SlotsM ObjsM ObjM rn ren ren1 ren0 qabp qabs qabt qabo qabf qab1 qab0 CoL qabc qabw dels adds idsH qabq
def orL : List Int → Int
 | [] => 0
 | a :: xs => if a ≠ 0 then a else orL xs
def ordE (a b : Entry) : Int := orL [cmpI a.prio b.prio, cmpL a.keys b.keys, cmpL a.masks b.masks]
theorem nani_s (n : Int) (q : Nat) : SCalls Tryz.prog 162 [.int .i64 n] [] q (.bool false) [] := by
 refine qabm ?_ (fun _ => rfl) (fun _ => rfl) rfl q
 refine qaai (N := 6) Tryz.func162 rfl rfl (by kernel_rfl) qatt (by simp) (by repeat' (first | exact trivial | refine And.intro ?_ ?_ | rfl | decide | exact PureR.ren _)) (by repeat' (first | exact trivial | refine And.intro ?_ ?_ | rfl | decide | exact PureR.ren _)) ?_
 rintro X hP hN hm
 unfold c_nani
 repeat' (first | refine yA ?_ | with_reducible refine yB ?_ ?_ | ((with_reducible refine yC fun h => ?_); have h' := h; (try simp at h'); (try subst h')) | ((refine qach hm ?_ (fun σ => rfl))) | exact trivial)
 all_goals simp
theorem nanu_s (n : Int) (q : Nat) : SCalls Tryz.prog 108 [.int .u64 n] [] q (.bool false) [] := by
 refine qabm ?_ (fun _ => rfl) (fun _ => rfl) rfl q
 refine qaai (N := 6) Tryz.func108 rfl rfl (by kernel_rfl) qats (by simp) (by repeat' (first | exact trivial | refine And.intro ?_ ?_ | rfl | decide | exact PureR.ren _)) (by repeat' (first | exact trivial | refine And.intro ?_ ?_ | rfl | decide | exact PureR.ren _)) ?_
 rintro X hP hN hm
 unfold c_nanu
 repeat' (first | refine yA ?_ | with_reducible refine yB ?_ ?_ | ((with_reducible refine yC fun h => ?_); have h' := h; (try simp at h'); (try subst h')) | ((refine qach hm ?_ (fun σ => rfl))) | exact trivial)
 all_goals simp
theorem cmpi_s (a b : Int) (q : Nat) : SCalls Tryz.prog 161 [.int .i64 a, .int .i64 b] [] q (.int .i64 (cmpI a b)) [] := by
 refine qabm ?_ (fun _ => rfl) (fun _ => rfl) rfl q
 refine qaai (N := 20) Tryz.func161 rfl rfl (by kernel_rfl) qaty (by simp) (by repeat' (first | exact trivial | refine And.intro ?_ ?_ | rfl | decide | exact PureR.ren _)) (by repeat' (first | exact trivial | refine And.intro ?_ ?_ | rfl | decide | exact PureR.ren _)) ?_
 rintro X hP hN hm
 obtain ⟨F, hF⟩ : ∃ F, F = cmpI a b := ⟨_, rfl⟩
 rw [← hF]
 replace hF := Lib.hid hF
 unfold c_cmpi
 repeat' (first | refine yA ?_ | with_reducible refine yB ?_ ?_ | ((with_reducible refine yC fun h => ?_); have h' := h; (try simp at h'); (try subst h')) | refine qabr (nani_s _ _) ?_ | ((refine qach hm ?_ (fun σ => rfl))) | exact trivial)
 all_goals (rw [hF.out]; unfold cmpI; first | (rw [if_pos (by omega)]) | (rw [if_neg (by omega), if_pos (by omega)]) | (rw [if_neg (by omega), if_neg (by omega)]))
theorem cmpu_s (a b : Int) (q : Nat) : SCalls Tryz.prog 97 [.int .u64 a, .int .u64 b] [] q (.int .i64 (cmpI a b)) [] := by
 refine qabm ?_ (fun _ => rfl) (fun _ => rfl) rfl q
 refine qaai (N := 20) Tryz.func97 rfl rfl (by kernel_rfl) qatx (by simp) (by repeat' (first | exact trivial | refine And.intro ?_ ?_ | rfl | decide | exact PureR.ren _)) (by repeat' (first | exact trivial | refine And.intro ?_ ?_ | rfl | decide | exact PureR.ren _)) ?_
 rintro X hP hN hm
 obtain ⟨F, hF⟩ : ∃ F, F = cmpI a b := ⟨_, rfl⟩
 rw [← hF]
 replace hF := Lib.hid hF
 unfold c_cmpu
 repeat' (first | refine yA ?_ | with_reducible refine yB ?_ ?_ | ((with_reducible refine yC fun h => ?_); have h' := h; (try simp at h'); (try subst h')) | refine qabr (nanu_s _ _) ?_ | ((refine qach hm ?_ (fun σ => rfl))) | exact trivial)
 all_goals (rw [hF.out]; unfold cmpI; first | (rw [if_pos (by omega)]) | (rw [if_neg (by omega), if_pos (by omega)]) | (rw [if_neg (by omega), if_neg (by omega)]))
theorem qa6i (xa xb : List Int) (i : Nat) (h : i < xa.length) (g : i < xb.length) : cmpL (xa.drop i) (xb.drop i) = if cmpI xa[i] xb[i] ≠ 0 then cmpI xa[i] xb[i] else cmpL (xa.drop (i + 1)) (xb.drop (i + 1)) := by
 rw [List.drop_eq_getElem_cons h, List.drop_eq_getElem_cons g]; rfl
theorem qbbv (xa xb : List Int) (ha : xa.length ≤ 1000000) (hb : xb.length ≤ 1000000) (q : Nat) : SCalls Tryz.prog 92 [nums .u64 xa, nums .u64 xb] [] q (.int .i64 (cmpL xa xb)) [] := by
 refine qabm ?_ (fun _ => rfl) (fun _ => rfl) rfl q
 refine qaai (N := 36) Tryz.func92 rfl rfl (by kernel_rfl) qapy (by simp) (by repeat' (first | exact trivial | refine And.intro ?_ ?_ | rfl | decide | exact PureR.ren _)) (by repeat' (first | exact trivial | refine And.intro ?_ ?_ | rfl | decide | exact PureR.ren _)) ?_
 rintro X hP hN hm
 obtain ⟨F, hF⟩ : ∃ F, F = cmpL xa xb := ⟨_, rfl⟩
 rw [← hF]
 replace hF := Lib.hid hF
 unfold c_slcmp nums
 repeat' (first | refine yA ?_ | with_reducible refine yB ?_ ?_ | ((with_reducible refine yC fun h => ?_); have h' := h; (try simp at h'); (try subst h')) | exact trivial)
 refine qabj (qacp (fun s (i : Nat) => s.turn [(11, .int .i64 i)] []) (fun i => i ≤ xa.length ∧ i ≤ xb.length ∧ F = cmpL (xa.drop i) (xb.drop i)) (fun i => xa.length - i) 0 ?_ ⟨by simp, by simp, hF.out⟩ ?_)
 ·repeat' (first | exact yD | refine yE ?_ | with_reducible refine yB ?_ ?_ | exact trivial)
 rintro J hJ i ⟨h1, h2, h3⟩
 unfold qane
 simp only [zT, puth, Nat.reduceEqDiff, reduceIte, Nat.reduceAdd] at h1 h2 h3 ⊢
 replace h3 := Lib.hid h3
 rcases Nat.lt_or_ge i xa.length with hi | hi
 ·rcases Nat.lt_or_ge i xb.length with hj | hj
  ·have h4 := h3.out
   rw [qa6i xa xb i hi hj] at h4
   generalize hx : cmpI xa[i] xb[i] = x at h4
   have hc : ∀ q, SCalls Tryz.prog 97 [.int .u64 xa[i], .int .u64 xb[i]] [] q (.int .i64 x) [] := fun q => by rw [← hx]; exact cmpu_s _ _ q
   have wi : IntKind.i64.wrap ((i : Int) + 1) = (i : Int) + 1 := qabz (by omega) (by omega)
   replace h4 := Lib.hid h4
   repeat' (first | ((with_reducible first | refine qaao ?_ | refine qaak (by rw [hP]; exact mixed) ?_); (try rw [hP]); simp -implicitDefEqProofs [wi, List.getElem?_eq_getElem hi, List.getElem?_eq_getElem hj, *]) | ((with_reducible first | refine qaah ?_ | refine qaaj ?_); (try simp -implicitDefEqProofs [wi, List.getElem?_eq_getElem hi, List.getElem?_eq_getElem hj, *])) | ((with_reducible refine qaaa (fun h => ?_) (fun h => ?_)) <;> have h' := h <;> (try simp at h') <;> (try subst h') <;> simp -implicitDefEqProofs [wi, List.getElem?_eq_getElem hi, List.getElem?_eq_getElem hj, *]) | ((with_reducible refine qaal ?_ ?_); (first | omega | (unfold maxLen; omega)); simp -implicitDefEqProofs [wi, List.getElem?_eq_getElem hi, List.getElem?_eq_getElem hj, *]) | refine yA ?_ | with_reducible refine yB ?_ ?_ | ((with_reducible refine yC fun h => ?_); have h' := h; (try simp at h'); (try subst h')) | (refine qabr (hc _) ?_; simp -implicitDefEqProofs [wi, List.getElem?_eq_getElem hi, List.getElem?_eq_getElem hj, *]) | exact yD | refine yE ?_ | ((refine qach hm ?_ (fun σ => rfl))) | ((refine qabn hJ (i + 1) ?_ ?_ ?_; (with_reducible refine qabg [] hm ?_ ?_ ?_ ?_) <;> (try simp only [zT, puth, Nat.reduceEqDiff, reduceIte, Nat.reduceAdd]))) | exact trivial)
   all_goals first | (exfalso; omega) | (rw [h4.out, if_pos ‹_›]; done) | (refine ⟨by omega, by omega, ?_⟩; rw [h4.out, if_neg (by omega)]) | omega | trace_state
  ·repeat' (first | ((with_reducible first | refine qaao ?_ | refine qaak (by rw [hP]; exact mixed) ?_); (try rw [hP]); simp -implicitDefEqProofs [List.getElem?_eq_getElem hi, *]) | ((with_reducible first | refine qaah ?_ | refine qaaj ?_); (try simp -implicitDefEqProofs [List.getElem?_eq_getElem hi, *])) | ((with_reducible refine qaaa (fun h => ?_) (fun h => ?_)) <;> have h' := h <;> (try simp at h') <;> (try subst h') <;> simp -implicitDefEqProofs [List.getElem?_eq_getElem hi, *]) | ((with_reducible refine qaal ?_ ?_); (first | omega | (unfold maxLen; omega)); simp -implicitDefEqProofs [List.getElem?_eq_getElem hi, *]) | refine yA ?_ | with_reducible refine yB ?_ ?_ | ((with_reducible refine yC fun h => ?_); have h' := h; (try simp at h'); (try subst h')) | ((refine qach hm ?_ (fun σ => rfl))) | exact trivial)
   all_goals first | (exfalso; omega) | (rw [h3.out, List.drop_eq_nil_of_le hj, List.drop_eq_getElem_cons hi]; rfl) | trace_state
 ·have hn : ¬ (i < xa.length) := by omega
  repeat' (first | refine yA ?_ | with_reducible refine yB ?_ ?_ | ((with_reducible refine yC fun h => ?_); have h' := h; (try simp at h'); (try subst h')) | ((refine qach hm ?_ (fun σ => rfl))) | exact trivial)
  all_goals first | (exfalso; omega) | (rw [h3.out, List.drop_eq_nil_of_le hi, List.drop_eq_getElem_cons (by omega)]; rfl) | (rw [h3.out, List.drop_eq_nil_of_le hi, List.drop_eq_nil_of_le (by omega)]; rfl) | trace_state
theorem cmpor_s (xa : List Int) (ha : xa.length ≤ 1000000) (q : Nat) : SCalls Tryz.prog 160 [nums .i64 xa] [] q (.int .i64 (orL xa)) [] := by
 refine qabm ?_ (fun _ => rfl) (fun _ => rfl) rfl q
 refine qaai (N := 18) Tryz.func160 rfl rfl (by kernel_rfl) qaqa (by simp) (by repeat' (first | exact trivial | refine And.intro ?_ ?_ | rfl | decide | exact PureR.ren _)) (by repeat' (first | exact trivial | refine And.intro ?_ ?_ | rfl | decide | exact PureR.ren _)) ?_
 rintro X hP hN hm
 obtain ⟨F, hF⟩ : ∃ F, F = orL xa := ⟨_, rfl⟩
 rw [← hF]
 replace hF := Lib.hid hF
 unfold c_cmpor nums
 repeat' (first | refine yA ?_ | with_reducible refine yB ?_ ?_ | ((with_reducible refine yC fun h => ?_); have h' := h; (try simp at h'); (try subst h')) | exact trivial)
 refine qabj (qacp (fun s (i : Nat) => s.turn [(8, .int .i64 i)] []) (fun i => i ≤ xa.length ∧ F = orL (xa.drop i)) (fun i => xa.length - i) 0 ?_ ⟨by simp, hF.out⟩ ?_)
 ·repeat' (first | exact yD | refine yE ?_ | with_reducible refine yB ?_ ?_ | exact trivial)
 rintro J hJ i ⟨h1, h3⟩
 unfold qan1
 simp only [zT, puth, Nat.reduceEqDiff, reduceIte, Nat.reduceAdd] at h1 h3 ⊢
 replace h3 := Lib.hid h3
 rcases Nat.lt_or_ge i xa.length with hi | hi
 ·have h4 : F = if xa[i] ≠ 0 then xa[i] else orL (xa.drop (i + 1)) := by rw [h3.out, List.drop_eq_getElem_cons hi]; rfl
  have wi : IntKind.i64.wrap ((i : Int) + 1) = (i : Int) + 1 := qabz (by omega) (by omega)
  replace h4 := Lib.hid h4
  repeat' (first | ((with_reducible first | refine qaao ?_ | refine qaak (by rw [hP]; exact mixed) ?_); (try rw [hP]); simp -implicitDefEqProofs [wi, List.getElem?_eq_getElem hi, *]) | ((with_reducible first | refine qaah ?_ | refine qaaj ?_); (try simp -implicitDefEqProofs [wi, List.getElem?_eq_getElem hi, *])) | ((with_reducible refine qaaa (fun h => ?_) (fun h => ?_)) <;> have h' := h <;> (try simp at h') <;> (try subst h') <;> simp -implicitDefEqProofs [wi, List.getElem?_eq_getElem hi, *]) | ((with_reducible refine qaal ?_ ?_); (first | omega | (unfold maxLen; omega)); simp -implicitDefEqProofs [wi, List.getElem?_eq_getElem hi, *]) | refine yA ?_ | with_reducible refine yB ?_ ?_ | ((with_reducible refine yC fun h => ?_); have h' := h; (try simp at h'); (try subst h')) | exact yD | refine yE ?_ | ((refine qach hm ?_ (fun σ => rfl))) | ((refine qabn hJ (i + 1) ?_ ?_ ?_; (with_reducible refine qabg [] hm ?_ ?_ ?_ ?_) <;> (try simp only [zT, puth, Nat.reduceEqDiff, reduceIte, Nat.reduceAdd]))) | exact trivial)
  all_goals first | (exfalso; omega) | (rw [h4.out, if_pos ‹_›]; done) | (refine ⟨by omega, ?_⟩; rw [h4.out, if_neg (by omega)]) | omega | trace_state
 ·repeat' (first | refine yA ?_ | with_reducible refine yB ?_ ?_ | ((with_reducible refine yC fun h => ?_); have h' := h; (try simp at h'); (try subst h')) | ((refine qach hm ?_ (fun σ => rfl))) | exact trivial)
  all_goals first | (exfalso; omega) | (rw [h3.out, List.drop_eq_nil_of_le hi]; rfl) | trace_state
theorem qa6h (a b c : Int) (id q : Nat) : SCalls Tryz.prog 160 [.own id 3] [(id, .row 3 1 [[.int .i64 a], [.int .i64 b], [.int .i64 c]])] q (.int .i64 (orL [a, b, c])) [(id, .row 3 1 [[.int .i64 a], [.int .i64 b], [.int .i64 c]])] := by
 have hl : Lent [(id, .row 3 1 [[.int .i64 a], [.int .i64 b], [.int .i64 c]])] (.own id 3) (.view 1 [[.int .i64 a], [.int .i64 b], [.int .i64 c]]) :=
  qaks (e := 3) (by simp [geth]) (fun e he x hx => by
   simp only [List.mem_cons, List.not_mem_nil, or_false] at he
   rcases he with rfl | rfl | rfl <;> (simp only [List.mem_cons, List.not_mem_nil, or_false] at hx; subst hx; exact qafa _ _)) rfl
 exact qac7 (cmpor_s [a, b, c] (by simp) q) ⟨hl, trivial⟩ (qafd _ _)
theorem qbb9 (a b : Entry) (ha : qadk a) (hb : qadk b) (q : Nat) : SCalls Tryz.prog 159 [.agg (qaay a), .agg (qaay b)] [] q (.int .i64 (ordE a b)) [] := by
 refine qabm ?_ (fun _ => rfl) (fun _ => rfl) rfl q
 refine qaai (N := 22) Tryz.func159 rfl rfl (by kernel_rfl) qamm (by simp) (by repeat' (first | exact trivial | refine And.intro ?_ ?_ | rfl | decide | exact PureR.ren _)) (by repeat' (first | exact trivial | refine And.intro ?_ ?_ | rfl | decide | exact PureR.ren _)) ?_
 rintro X hP hN hm
 have k1 := fun q => qbbv a.keys b.keys ha.1 hb.1 q
 have k2 := fun q => qbbv a.masks b.masks ha.2.1 hb.2.1 q
 unfold c_torder qaay
 repeat' (first | refine yA ?_ | with_reducible refine yB ?_ ?_ | ((with_reducible refine yC fun h => ?_); have h' := h; (try simp at h'); (try subst h')) | refine qabr (cmpi_s _ _ _) ?_ | refine qabr (k1 _) ?_ | refine qabr (k2 _) ?_ | refine qab4 (qa6h _ _ _ _ _) ⟨rfl, trivial⟩ ⟨rfl, trivial⟩ ?_ | ((refine qach hm ?_ (fun σ => rfl))) | exact trivial)
 all_goals rfl
theorem same_s (a b : Entry) (ha : qadk a) (hb : qadk b) (q : Nat) : SCalls Tryz.prog 156 [.agg (qaay a), .agg (qaay b)] [] q (.bool (ordE a b == 0)) [] := by
 refine qabm ?_ (fun _ => rfl) (fun _ => rfl) rfl q
 refine qaai (N := 9) Tryz.func156 rfl rfl (by kernel_rfl) qaps (by simp) (by repeat' (first | exact trivial | refine And.intro ?_ ?_ | rfl | decide | exact PureR.ren _)) (by repeat' (first | exact trivial | refine And.intro ?_ ?_ | rfl | decide | exact PureR.ren _)) ?_
 rintro X hP hN hm
 have k1 := fun q => qbb9 a b ha hb q
 unfold qaay at k1
 unfold c_tsame qaay
 repeat' (first | refine yA ?_ | with_reducible refine yB ?_ ?_ | ((with_reducible refine yC fun h => ?_); have h' := h; (try simp at h'); (try subst h')) | refine qabr (k1 _) ?_ | ((refine qach hm ?_ (fun σ => rfl))) | exact trivial)
 all_goals rfl
theorem tnums (xs : List Int) (h : xs.length ≤ 1000000) (q : Nat) : SCalls Tryz.prog 32 [nums .u64 xs] [] q (nums .u64 xs) [] := by
 unfold nums
 rcases xs with _ | ⟨x, xs⟩
 ·refine qagc (qabm ?_ (fun _ => rfl) (fun _ => rfl) rfl q) (qabm ?_ (fun _ => rfl) (fun _ => rfl) rfl q)
  ·refine qaai (N := 8) Tryz.func32 rfl rfl (by kernel_rfl) qaiz (by simp) (by repeat' (first | exact trivial | refine And.intro ?_ ?_ | rfl | decide | exact PureR.ren _)) (by repeat' (first | exact trivial | refine And.intro ?_ ?_ | rfl | decide | exact PureR.ren _)) ?_
   rintro X hP hN hm
   unfold c_clu
   repeat' (first | refine yA ?_ | with_reducible refine yB ?_ ?_ | ((with_reducible refine yC fun h => ?_); have h' := h; (try simp at h'); (try subst h')) | (refine qbe1 hm rfl (Co.nilsl _) (qao0 _ _)) | exact trivial)
  ·refine qaai (N := 8) Tryz.func32 rfl rfl (by kernel_rfl) qaiz (by simp) (by repeat' (first | exact trivial | refine And.intro ?_ ?_ | rfl | decide | exact PureR.ren _)) (by repeat' (first | exact trivial | refine And.intro ?_ ?_ | rfl | decide | exact PureR.ren _)) ?_
   rintro X hP hN hm
   unfold c_clu
   repeat' (first | refine yA ?_ | with_reducible refine yB ?_ ?_ | ((with_reducible refine yC fun h => ?_); have h' := h; (try simp at h'); (try subst h')) | (refine qajw (es := []) hm rfl rfl ?_ rfl) | exact trivial)
   all_goals rfl
 ·refine qabm ?_ (fun _ => rfl) (fun _ => rfl) rfl q
  refine qaai (N := 8) Tryz.func32 rfl rfl (by kernel_rfl) qaiz (by simp) (by repeat' (first | exact trivial | refine And.intro ?_ ?_ | rfl | decide | exact PureR.ren _)) (by repeat' (first | exact trivial | refine And.intro ?_ ?_ | rfl | decide | exact PureR.ren _)) ?_
  rintro X hP hN hm
  have hb : (x :: xs).length ≤ maxLen := by unfold maxLen; omega
  simp only [List.length_cons] at h hb
  unfold c_clu
  repeat' (first | refine yA ?_ | with_reducible refine yB ?_ ?_ | ((with_reducible refine yC fun h => ?_); have h' := h; (try simp at h'); (try subst h')) | (refine qajw (es := (x :: xs).map fun x => [.int .u64 x]) hm rfl rfl ?_ rfl) | exact trivial)
  all_goals simp
def towE (e : Entry) : Entry := { e with len := 0 }
theorem qbdb (e : Entry) (h : qadk e) (q : Nat) : SCalls Tryz.prog 150 [.agg (qaay e)] [] q (.agg (qaay (towE e))) [] := by
 refine qabm ?_ (fun _ => rfl) (fun _ => rfl) rfl q
 refine qaai (N := 17) Tryz.func150 rfl rfl (by kernel_rfl) qatd (by simp) (by repeat' (first | exact trivial | refine And.intro ?_ ?_ | rfl | decide | exact PureR.ren _)) (by repeat' (first | exact trivial | refine And.intro ?_ ?_ | rfl | decide | exact PureR.ren _)) ?_
 rintro X hP hN hm
 obtain ⟨h1, h2, h3⟩ := h
 have k1 := fun q => tnums e.keys h1 q
 have k2 := fun q => tnums e.masks h2 q
 have k3 := fun q => tnums e.args h3 q
 unfold nums at k1 k2 k3
 unfold c_town qaay nums towE
 repeat' (first | refine yA ?_ | with_reducible refine yB ?_ ?_ | ((with_reducible refine yC fun h => ?_); have h' := h; (try simp at h'); (try subst h')) | refine qabr (k1 _) ?_ | refine qabr (k2 _) ?_ | refine qabr (k3 _) ?_ | ((refine qapj hm rfl ?_ ?_ rfl (CoL.refl _) rfl ?_)) | exact trivial)
 all_goals first | (rw [hP]; with_reducible exact qbbf) | (rw [hP]; exact qawj) | (intro σ; rfl) | trace_state
def qav1 : List Int → List Int → List Int → List Int → Bool
 | a :: xa, b :: xb, m :: xm, n :: xn => if bits .and .u64 (bits .and .u64 (bits .xor .u64 a b) m) n ≠ 0 then false else qav1 xa xb xm xn
 | _, _, _, _ => true
def qao2 (a b : Entry) : Bool := qav1 a.keys b.keys a.masks b.masks
theorem qaxl (xa xb xm xn : List Int) (i : Nat) (h : i < xa.length) (g : i < xb.length) (hm : i < xm.length) (hn : i < xn.length) : qav1 (xa.drop i) (xb.drop i) (xm.drop i) (xn.drop i) = if bits .and .u64 (bits .and .u64 (bits .xor .u64 xa[i] xb[i]) xm[i]) xn[i] ≠ 0 then false else qav1 (xa.drop (i + 1)) (xb.drop (i + 1)) (xm.drop (i + 1)) (xn.drop (i + 1)) := by
 rw [List.drop_eq_getElem_cons h, List.drop_eq_getElem_cons g, List.drop_eq_getElem_cons hm, List.drop_eq_getElem_cons hn, qav1]
theorem meets_s (a b : Entry) (ha : qadk a) (hb : qadk b) (h1 : b.keys.length = a.keys.length) (h2 : a.masks.length = a.keys.length) (h3 : b.masks.length = a.keys.length) (q : Nat) : SCalls Tryz.prog 148 [.agg (qaay a), .agg (qaay b)] [] q (.bool (qao2 a b)) [] := by
 refine qabm ?_ (fun _ => rfl) (fun _ => rfl) rfl q
 refine qaai (N := 37) Tryz.func148 rfl rfl (by kernel_rfl) qamn (by simp) (by repeat' (first | exact trivial | refine And.intro ?_ ?_ | rfl | decide | exact PureR.ren _)) (by repeat' (first | exact trivial | refine And.intro ?_ ?_ | rfl | decide | exact PureR.ren _)) ?_
 rintro X hP hN hm
 obtain ⟨h4, -, -⟩ := ha
 obtain ⟨ka, ma, la, pa, aa, ra⟩ := a
 obtain ⟨kb, mb, lb, pb, ab, rb⟩ := b
 dsimp only at h1 h2 h3 h4
 obtain ⟨F, hF⟩ : ∃ F, F = qao2 ⟨ka, ma, la, pa, aa, ra⟩ ⟨kb, mb, lb, pb, ab, rb⟩ := ⟨_, rfl⟩
 rw [← hF]
 replace hF := Lib.hid hF
 replace h1 := Lib.hid h1
 replace h2 := Lib.hid h2
 replace h3 := Lib.hid h3
 unfold c_tmeets qaay nums
 repeat' (first | refine yA ?_ | with_reducible refine yB ?_ ?_ | ((with_reducible refine yC fun h => ?_); have h' := h; (try simp at h'); (try subst h')) | exact trivial)
 refine qabj (qacp (fun s (i : Nat) => s.turn [(9, .int .i64 i)] []) (fun i => i ≤ ka.length ∧ F = qav1 (ka.drop i) (kb.drop i) (ma.drop i) (mb.drop i)) (fun i => ka.length - i) 0 ?_ ⟨by simp, hF.out⟩ ?_)
 ·repeat' (first | exact yD | refine yE ?_ | with_reducible refine yB ?_ ?_ | exact trivial)
 rintro J hJ i ⟨h5, h6⟩
 unfold qaj5
 simp only [zT, puth, Nat.reduceEqDiff, reduceIte, Nat.reduceAdd] at h5 h6 ⊢
 replace h6 := Lib.hid h6
 rcases Nat.lt_or_ge i ka.length with hi | hi
 ·have i1 : i < kb.length := by rw [h1.out]; exact hi
  have i2 : i < ma.length := by rw [h2.out]; exact hi
  have i3 : i < mb.length := by rw [h3.out]; exact hi
  have h7 := h6.out
  rw [qaxl ka kb ma mb i hi i1 i2 i3] at h7
  have wi : IntKind.i64.wrap ((i : Int) + 1) = (i : Int) + 1 := qabz (by omega) (by omega)
  generalize hx : bits .and .u64 (bits .and .u64 (bits .xor .u64 ka[i] kb[i]) ma[i]) mb[i] = x at h7
  replace h7 := Lib.hid h7
  repeat' (first | ((with_reducible first | refine qaao ?_ | refine qaak (by rw [hP]; exact mixed) ?_); (try rw [hP]); simp -implicitDefEqProofs [wi, List.getElem?_eq_getElem hi, List.getElem?_eq_getElem i1, List.getElem?_eq_getElem i2, List.getElem?_eq_getElem i3, hx, *]) | ((with_reducible first | refine qaah ?_ | refine qaaj ?_); (try simp -implicitDefEqProofs [wi, List.getElem?_eq_getElem hi, List.getElem?_eq_getElem i1, List.getElem?_eq_getElem i2, List.getElem?_eq_getElem i3, hx, *])) | ((with_reducible refine qaaa (fun h => ?_) (fun h => ?_)) <;> have h' := h <;> (try simp at h') <;> (try subst h') <;> simp -implicitDefEqProofs [wi, List.getElem?_eq_getElem hi, List.getElem?_eq_getElem i1, List.getElem?_eq_getElem i2, List.getElem?_eq_getElem i3, hx, *]) | ((with_reducible refine qaal ?_ ?_); (first | omega | (unfold maxLen; omega)); simp -implicitDefEqProofs [wi, List.getElem?_eq_getElem hi, List.getElem?_eq_getElem i1, List.getElem?_eq_getElem i2, List.getElem?_eq_getElem i3, hx, *]) | refine yA ?_ | with_reducible refine yB ?_ ?_ | ((with_reducible refine yC fun h => ?_); have h' := h; (try simp at h'); (try subst h')) | exact yD | refine yE ?_ | ((refine qach hm ?_ (fun σ => rfl))) | ((refine qabn hJ (i + 1) ?_ ?_ ?_; (with_reducible refine qabg [] hm ?_ ?_ ?_ ?_) <;> (try simp only [zT, puth, Nat.reduceEqDiff, reduceIte, Nat.reduceAdd]))) | exact trivial)
  all_goals first | (exfalso; omega) | (rw [h7.out, if_pos ‹_›]; done) | (refine ⟨by omega, ?_⟩; rw [h7.out, if_neg (by omega)]) | omega | trace_state
 ·repeat' (first | refine yA ?_ | with_reducible refine yB ?_ ?_ | ((with_reducible refine yC fun h => ?_); have h' := h; (try simp at h'); (try subst h')) | ((refine qach hm ?_ (fun σ => rfl))) | exact trivial)
  all_goals first | (exfalso; omega) | (rw [h6.out, List.drop_eq_nil_of_le hi]; rfl) | trace_state
end Go.Proofs.YtalejfkholifpaaGreat
namespace Go.Proofs.YtalejfkholifpaaGreat
set_option linter.all false
open Go.RowKit
attribute [local simp] qaas qaar qaac qaag qaad qaaf qaap qaaq qaab qaa4 SOp.run SX.ev putd puts argS upds SOp.touch SSt.keep SSt.skip gets geth puth delh idOf SV.cells? setL qab7 qab8 sbin eq0 eq1 eqL qab5 qabh qabi qaa5 qaat qaae qaau qaa6 qaam qaan FrzOk qaba qaa0 qaa8 qaa9 qaav qaaz qabe qaa1 qaax qabb qaaw frzS frzH frz frz1 frz0 SlotsM ObjsM ObjM rn ren ren1 ren0 qabp qabs qabt qabo qabf qab1 qab0 CoL qabc qabw dels adds idsH qabq
def qbbs (k m : Int) (l : List Entry) : List SV := [.int .i64 k, .int .i64 m, .view 6 (l.map qaay)]
def qbbt : List Int → List Int → Bool
 | a :: xa, m :: xm => if bits .andNot .u64 a m ≠ 0 then false else qbbt xa xm
 | _, _ => true
def qahy (k : Int) (e : Entry) : Bool := if (e.keys.length : Int) ≠ k ∨ (e.masks.length : Int) ≠ k then false else qbbt e.keys e.masks && (decide (0 ≤ e.prio) && decide (e.prio ≤ 1000))
theorem qav8 (xa xm : List Int) (i : Nat) (h : i < xa.length) (g : i < xm.length) : qbbt (xa.drop i) (xm.drop i) = if bits .andNot .u64 xa[i] xm[i] ≠ 0 then false else qbbt (xa.drop (i + 1)) (xm.drop (i + 1)) := by
 rw [List.drop_eq_getElem_cons h, List.drop_eq_getElem_cons g, qbbt]
theorem tfits_s (k m : Int) (l : List Entry) (e : Entry) (he : qadk e) (q : Nat) : SCalls Tryz.prog 144 [.cp (qbbs k m l), .agg (qaay e)] [] q (.bool (qahy k e)) [] := by
 refine qabm ?_ (fun _ => rfl) (fun _ => rfl) rfl q
 refine qaai (N := 50) Tryz.func144 rfl rfl (by kernel_rfl) qapt (by simp) (by repeat' (first | exact trivial | refine And.intro ?_ ?_ | rfl | decide | exact PureR.ren _)) (by repeat' (first | exact trivial | refine And.intro ?_ ?_ | rfl | decide | exact PureR.ren _)) ?_
 rintro X hP hN hm
 obtain ⟨h4, -, -⟩ := he
 obtain ⟨xa, xm, ln, pr, ac, ar⟩ := e
 dsimp only at h4
 obtain ⟨F, hF⟩ : ∃ F, F = qahy k ⟨xa, xm, ln, pr, ac, ar⟩ := ⟨_, rfl⟩
 rw [← hF]
 unfold qahy at hF
 replace hF := Lib.hid hF
 unfold c_tfits qaay nums qbbs
 repeat' (first | refine yA ?_ | with_reducible refine yB ?_ ?_ | ((with_reducible refine yC fun h => ?_); have h' := h; (try simp at h'); (try subst h')) | ((refine qach hm ?_ (fun σ => rfl))) | exact trivial)
 ·dsimp only at hF; rw [hF.out, if_pos (by omega)]
 ·dsimp only at hF; rw [hF.out, if_pos (by omega)]
 have hml : xm.length = xa.length := by omega
 have hF2 : F = (qbbt xa xm && (decide (0 ≤ pr) && decide (pr ≤ 1000))) := by have := hF.out; dsimp only at this; rw [if_neg (by omega)] at this; exact this
 clear hF
 replace hml := Lib.hid hml
 refine qabj (qacp (fun s (i : Nat) => s.turn [(28, .int .i64 i)] []) (fun i => i ≤ xa.length ∧ F = (qbbt (xa.drop i) (xm.drop i) && (decide (0 ≤ pr) && decide (pr ≤ 1000)))) (fun i => xa.length - i) 0 ?_ ⟨by simp, hF2⟩ ?_)
 ·repeat' (first | exact yD | refine yE ?_ | with_reducible refine yB ?_ ?_ | exact trivial)
 rintro J hJ i ⟨h5, h6⟩
 unfold qamz
 simp only [zT, puth, Nat.reduceEqDiff, reduceIte, Nat.reduceAdd] at h5 h6 ⊢
 clear hF2
 replace h6 := Lib.hid h6
 rcases Nat.lt_or_ge i xa.length with hi | hi
 ·have i2 : i < xm.length := by rw [hml.out]; exact hi
  have h7 := h6.out
  rw [qav8 xa xm i hi i2] at h7
  have wi : IntKind.i64.wrap ((i : Int) + 1) = (i : Int) + 1 := qabz (by omega) (by omega)
  generalize hx : bits .andNot .u64 xa[i] xm[i] = x at h7
  replace h7 := Lib.hid h7
  repeat' (first | ((with_reducible first | refine qaao ?_ | refine qaak (by rw [hP]; exact mixed) ?_); (try rw [hP]); simp -implicitDefEqProofs [wi, List.getElem?_eq_getElem hi, List.getElem?_eq_getElem i2, hx, *]) | ((with_reducible first | refine qaah ?_ | refine qaaj ?_); (try simp -implicitDefEqProofs [wi, List.getElem?_eq_getElem hi, List.getElem?_eq_getElem i2, hx, *])) | ((with_reducible refine qaaa (fun h => ?_) (fun h => ?_)) <;> have h' := h <;> (try simp at h') <;> (try subst h') <;> simp -implicitDefEqProofs [wi, List.getElem?_eq_getElem hi, List.getElem?_eq_getElem i2, hx, *]) | ((with_reducible refine qaal ?_ ?_); (first | omega | (unfold maxLen; omega)); simp -implicitDefEqProofs [wi, List.getElem?_eq_getElem hi, List.getElem?_eq_getElem i2, hx, *]) | refine yA ?_ | with_reducible refine yB ?_ ?_ | ((with_reducible refine yC fun h => ?_); have h' := h; (try simp at h'); (try subst h')) | exact yD | refine yE ?_ | ((refine qach hm ?_ (fun σ => rfl))) | ((refine qabn hJ (i + 1) ?_ ?_ ?_; (with_reducible refine qabg [] hm ?_ ?_ ?_ ?_) <;> (try simp only [zT, puth, Nat.reduceEqDiff, reduceIte, Nat.reduceAdd]))) | exact trivial)
  all_goals first | (exfalso; omega) | (rw [h7.out, if_pos ‹_›]; rfl) | (refine ⟨by omega, ?_⟩; rw [h7.out, if_neg (by omega)]) | omega | trace_state
 ·have h7 : F = (decide (0 ≤ pr) && decide (pr ≤ 1000)) := by rw [h6.out, List.drop_eq_nil_of_le hi]; simp [qbbt]
  replace h7 := Lib.hid h7
  repeat' (first | ((with_reducible first | refine qaao ?_ | refine qaak (by rw [hP]; exact mixed) ?_); (try rw [hP]); simp -implicitDefEqProofs [Nat.not_lt.2 hi, *]) | ((with_reducible first | refine qaah ?_ | refine qaaj ?_); (try simp -implicitDefEqProofs [Nat.not_lt.2 hi, *])) | ((with_reducible refine qaaa (fun h => ?_) (fun h => ?_)) <;> have h' := h <;> (try simp at h') <;> (try subst h') <;> simp -implicitDefEqProofs [Nat.not_lt.2 hi, *]) | ((with_reducible refine qaal ?_ ?_); (first | omega | (unfold maxLen; omega)); simp -implicitDefEqProofs [Nat.not_lt.2 hi, *]) | refine yA ?_ | with_reducible refine yB ?_ ?_ | ((with_reducible refine yC fun h => ?_); have h' := h; (try simp at h'); (try subst h')) | ((refine qach hm ?_ (fun σ => rfl))) | exact trivial)
  all_goals first | (have h0 : 0 ≤ pr := by omega
                     rw [h7.out, decide_eq_true h0]; rfl) | (have h0 : ¬ 0 ≤ pr := by omega
                                                             rw [h7.out, decide_eq_false h0]; rfl)
def AskC (g : FuncId) (b : Entry) (l : List Entry) (p : Entry → Bool) : Prop := ∀ x ∈ l, ∀ q, SCalls Tryz.prog g [.agg (qaay x), .cp (qaay b)] [] q (.bool (p x)) []
theorem at1_s (a b : Entry) (ha : qadk a) (hb : qadk b) (q : Nat) : SCalls Tryz.prog 155 [.agg (qaay a), .cp (qaay b)] [] q (.bool (ordE a b == 0)) [] := by
 refine qabm ?_ (fun _ => rfl) (fun _ => rfl) rfl q
 refine qaai (N := 7) Tryz.func155 rfl rfl (by kernel_rfl) qay9 (by simp) (by repeat' (first | exact trivial | refine And.intro ?_ ?_ | rfl | decide | exact PureR.ren _)) (by repeat' (first | exact trivial | refine And.intro ?_ ?_ | rfl | decide | exact PureR.ren _)) ?_
 rintro X hP hN hm
 have k1 := fun q => same_s a b ha hb q
 unfold qaay at k1
 unfold c_at1 qaay
 repeat' (first | refine yA ?_ | with_reducible refine yB ?_ ?_ | ((with_reducible refine yC fun h => ?_); have h' := h; (try simp at h'); (try subst h')) | refine qabr (k1 _) ?_ | ((refine qach hm ?_ (fun σ => rfl))) | exact trivial)
 all_goals rfl
theorem ad1_s (a b : Entry) (ha : qadk a) (hb : qadk b) (h1 : b.keys.length = a.keys.length) (h2 : a.masks.length = a.keys.length) (h3 : b.masks.length = a.keys.length) (q : Nat) : SCalls Tryz.prog 147 [.agg (qaay a), .cp (qaay b)] [] q (.bool (a.prio == b.prio && qao2 a b)) [] := by
 refine qabm ?_ (fun _ => rfl) (fun _ => rfl) rfl q
 refine qaai (N := 14) Tryz.func147 rfl rfl (by kernel_rfl) qaza (by simp) (by repeat' (first | exact trivial | refine And.intro ?_ ?_ | rfl | decide | exact PureR.ren _)) (by repeat' (first | exact trivial | refine And.intro ?_ ?_ | rfl | decide | exact PureR.ren _)) ?_
 rintro X hP hN hm
 have k1 := fun q => meets_s a b ha hb h1 h2 h3 q
 clear h1 h2 h3
 generalize qao2 a b = y at k1
 unfold qaay at k1
 unfold c_ad1 qaay
 cases hx : (a.prio == b.prio)
 all_goals
  repeat' (first | ((with_reducible first | refine qaao ?_ | refine qaak (by rw [hP]; exact mixed) ?_); (try rw [hP]); simp -implicitDefEqProofs [hx, *]) | ((with_reducible first | refine qaah ?_ | refine qaaj ?_); (try simp -implicitDefEqProofs [hx, *])) | ((with_reducible refine qaaa (fun h => ?_) (fun h => ?_)) <;> have h' := h <;> (try simp at h') <;> (try subst h') <;> simp -implicitDefEqProofs [hx, *]) | ((with_reducible refine qaal ?_ ?_); (first | omega | (unfold maxLen; omega)); simp -implicitDefEqProofs [hx, *]) | refine yA ?_ | with_reducible refine yB ?_ ?_ | ((with_reducible refine yC fun h => ?_); have h' := h; (try simp at h'); (try subst h')) | (refine qabr (k1 _) ?_; simp -implicitDefEqProofs [hx, *]) | ((refine qach hm ?_ (fun σ => rfl))) | exact trivial)
  all_goals rfl
theorem qac6 (e : Entry) : (qaay e).length = 6 := rfl
theorem qab9 (e : Entry) : (qaay e).take 6 = qaay e := rfl
theorem idxf_s (g : FuncId) (b : Entry) (l : List Entry) (p : Entry → Bool) (hl : l.length ≤ 1000000) (hg : AskC g b l p) (q : Nat) : SCalls Tryz.prog 154 [.view 6 (l.map qaay), .fn (.func g) [] [.cp (qaay b)]] [] q (.int .i64 (match l.findIdx? p with | some i => (i : Int) | none => -1)) [] := by
 refine qabm ?_ (fun _ => rfl) (fun _ => rfl) rfl q
 refine qaai (N := 19) Tryz.func154 rfl rfl (by kernel_rfl) qatu (by simp) (by repeat' (first | exact trivial | refine And.intro ?_ ?_ | rfl | decide | exact PureR.ren _)) (by repeat' (first | exact trivial | refine And.intro ?_ ?_ | rfl | decide | exact PureR.ren _)) ?_
 rintro X hP hN hm
 obtain ⟨F, hF⟩ : ∃ F, F = (match l.findIdx? p with | some i => (i : Int) | none => -1) := ⟨_, rfl⟩
 rw [← hF]
 replace hF := Lib.hid hF
 unfold c_idxf
 repeat' (first | refine yA ?_ | with_reducible refine yB ?_ ?_ | ((with_reducible refine yC fun h => ?_); have h' := h; (try simp at h'); (try subst h')) | exact trivial)
 refine qabj (qacp (fun s (i : Nat) => s.turn [(8, .int .i64 i)] []) (fun i => i ≤ l.length ∧ F = (match (l.drop i).findIdx? p with | some j => (i : Int) + j | none => -1)) (fun i => l.length - i) 0 ?_ ⟨by simp, by rw [hF.out]; simp⟩ ?_)
 ·repeat' (first | exact yD | refine yE ?_ | with_reducible refine yB ?_ ?_ | exact trivial)
 rintro J hJ i ⟨h5, h6⟩
 unfold qar8
 simp only [zT, puth, Nat.reduceEqDiff, reduceIte, Nat.reduceAdd] at h5 h6 ⊢
 replace h6 := Lib.hid h6
 rcases Nat.lt_or_ge i l.length with hi | hi
 ·have h7 := h6.out
  rw [List.drop_eq_getElem_cons hi, List.findIdx?_cons] at h7
  have hc := hg l[i] (List.getElem_mem hi)
  have wi : IntKind.i64.wrap ((i : Int) + 1) = (i : Int) + 1 := qabz (by omega) (by omega)
  generalize hx : p l[i] = x at h7 hc
  replace h7 := Lib.hid h7
  replace hg := Lib.hid hg
  repeat' (first | ((with_reducible first | refine qaao ?_ | refine qaak (by rw [hP]; exact mixed) ?_); (try rw [hP]); simp -implicitDefEqProofs [wi, List.getElem?_eq_getElem hi, qac6, qab9, *]) | ((with_reducible first | refine qaah ?_ | refine qaaj ?_); (try simp -implicitDefEqProofs [wi, List.getElem?_eq_getElem hi, qac6, qab9, *])) | ((with_reducible refine qaaa (fun h => ?_) (fun h => ?_)) <;> have h' := h <;> (try simp at h') <;> (try subst h') <;> simp -implicitDefEqProofs [wi, List.getElem?_eq_getElem hi, qac6, qab9, *]) | ((with_reducible refine qaal ?_ ?_); (first | omega | (unfold maxLen; omega)); simp -implicitDefEqProofs [wi, List.getElem?_eq_getElem hi, qac6, qab9, *]) | refine yA ?_ | with_reducible refine yB ?_ ?_ | ((with_reducible refine yC fun h => ?_); have h' := h; (try simp at h'); (try subst h')) | (refine qae4 (hc _) trivial trivial [] (by simp) ?_; simp -implicitDefEqProofs [wi, List.getElem?_eq_getElem hi, qac6, qab9, *]) | exact yD | refine yE ?_ | ((refine qach hm ?_ (fun σ => rfl))) | ((refine qabn hJ (i + 1) ?_ ?_ ?_; (with_reducible refine qabg [] hm ?_ ?_ ?_ ?_) <;> (try simp only [zT, puth, Nat.reduceEqDiff, reduceIte, Nat.reduceAdd]))) | exact trivial)
  ·rw [h7.out, if_pos rfl]; simp
  ·refine ⟨by omega, ?_⟩
   rw [h7.out, if_neg (by decide)]
   cases List.findIdx? p (l.drop (i + 1)) with
   | none => rfl
   | some j =>
    show (i : Int) + ((j + 1 : Nat) : Int) = ((i + 1 : Nat) : Int) + j
    push_cast; omega
 ·repeat' (first | ((with_reducible first | refine qaao ?_ | refine qaak (by rw [hP]; exact mixed) ?_); (try rw [hP]); simp -implicitDefEqProofs [Nat.not_lt.2 hi, *]) | ((with_reducible first | refine qaah ?_ | refine qaaj ?_); (try simp -implicitDefEqProofs [Nat.not_lt.2 hi, *])) | ((with_reducible refine qaaa (fun h => ?_) (fun h => ?_)) <;> have h' := h <;> (try simp at h') <;> (try subst h') <;> simp -implicitDefEqProofs [Nat.not_lt.2 hi, *]) | ((with_reducible refine qaal ?_ ?_); (first | omega | (unfold maxLen; omega)); simp -implicitDefEqProofs [Nat.not_lt.2 hi, *]) | refine yA ?_ | with_reducible refine yB ?_ ?_ | ((with_reducible refine yC fun h => ?_); have h' := h; (try simp at h'); (try subst h')) | ((refine qach hm ?_ (fun σ => rfl))) | exact trivial)
  all_goals (rw [h6.out, List.drop_eq_nil_of_le hi]; rfl)
theorem qbcp {h1 : Hp} {f : Fn} {cs ds : List SV} (h : qbc5 h1 cs ds) : Lent h1 (.fn f [] cs) (.fn f [] ds) := fun O ρ fp w v hok hx => by
 cases hx with
 | fn a b c d =>
  exact .fn a (by rw [← qagi h]; exact b) (fun j x v hx => by cases hx) fun j y v hy hv => by
   obtain ⟨x, hx, hl⟩ := qah4 h hy
   exact hl O ρ fp w v hok (d j x v hx hv)
theorem qaw5 (e : Entry) : qan5 (qaay e) := by
 intro x hx
 simp only [qaay, List.mem_cons, List.not_mem_nil, or_false] at hx
 rcases hx with rfl | rfl | rfl | rfl | rfl | rfl <;> first | exact qafa _ _ | exact qagp _ _
def idxV (l : List Entry) (p : Entry → Bool) : Int := match l.findIdx? p with | some i => (i : Int) | none => -1
theorem qbep (g : FuncId) (b : Entry) (l : List Entry) (p : Entry → Bool) (hl : l.length ≤ 1000000) (hg : AskC g b l p) (id q : Nat) : SCalls Tryz.prog 154 [.view 6 (l.map qaay), .fn (.func g) [] [.ptr id 0]] [(id, .cells 38 (qaay b))] q (.int .i64 (idxV l p)) [(id, .cells 38 (qaay b))] :=
 qac7 (idxf_s g b l p hl hg q) ⟨qadr _, qbcp ⟨qakt (t := 38) (cs := qaay b) (by simp [geth]) (qait _) (qaw5 b), trivial⟩, trivial⟩ (qafd _ _)
theorem conf_s (g : FuncId) (b : Entry) (l : List Entry) (p : Entry → Bool) (hl : l.length ≤ 1000000) (hg : AskC g b l p) (q : Nat) : SCalls Tryz.prog 146 [.view 6 (l.map qaay), .fn (.func g) [] [.cp (qaay b)]] [] q (.bool (decide (0 ≤ idxV l p))) [] := by
 refine qabm ?_ (fun _ => rfl) (fun _ => rfl) rfl q
 refine qaai (N := 9) Tryz.func146 rfl rfl (by kernel_rfl) qatw (by simp) (by repeat' (first | exact trivial | refine And.intro ?_ ?_ | rfl | decide | exact PureR.ren _)) (by repeat' (first | exact trivial | refine And.intro ?_ ?_ | rfl | decide | exact PureR.ren _)) ?_
 rintro X hP hN hm
 have k1 := fun q => idxf_s g b l p hl hg q
 clear hg
 change ∀ q, SCalls Tryz.prog _ _ [] q (.int .i64 (idxV l p)) [] at k1
 generalize idxV l p = y at k1
 unfold c_conf
 repeat' (first | refine yA ?_ | with_reducible refine yB ?_ ?_ | ((with_reducible refine yC fun h => ?_); have h' := h; (try simp at h'); (try subst h')) | refine qabr (k1 _) ?_ | ((refine qach hm ?_ (fun σ => rfl))) | exact trivial)
 all_goals rfl
def tatV (l : List Entry) (e : Entry) : Int := idxV l fun x => ordE x e == 0
theorem tat_s (k m : Int) (l : List Entry) (e : Entry) (hl : l.length ≤ 1000000) (hs : ∀ x ∈ l, qadk x) (he : qadk e) (q : Nat) : SCalls Tryz.prog 145 [.cp (qbbs k m l), .agg (qaay e)] [] q (.int .i64 (tatV l e)) [] := by
 refine qabm ?_ (fun _ => rfl) (fun _ => rfl) rfl q
 refine qaai (N := 11) Tryz.func145 rfl rfl (by kernel_rfl) qayp (by simp) (by repeat' (first | exact trivial | refine And.intro ?_ ?_ | rfl | decide | exact PureR.ren _)) (by repeat' (first | exact trivial | refine And.intro ?_ ?_ | rfl | decide | exact PureR.ren _)) ?_
 rintro X hP hN hm
 have k1 := fun id q => qbep _ e l (fun x => ordE x e == 0) hl (fun x hx q => at1_s x e (hs x hx) he q) id q
 change ∀ id q, SCalls Tryz.prog _ _ _ q (.int .i64 (tatV l e)) _ at k1
 generalize tatV l e = y at k1
 unfold qaay at k1
 unfold c_tat qaay qbbs
 repeat' (first | refine yA ?_ | with_reducible refine yB ?_ ?_ | ((with_reducible refine yC fun h => ?_); have h' := h; (try simp at h'); (try subst h')) | refine qab4 (k1 _ _) ⟨rfl, trivial⟩ ⟨rfl, trivial⟩ ?_ | ((refine qach hm ?_ (fun σ => rfl))) | exact trivial)
 all_goals rfl
end Go.Proofs.YtalejfkholifpaaGreat
namespace Go.Proofs.YtalejfkholifpaaGreat
set_option linter.all false
open Go.RowKit
def qab3 (P : Program) (t : TypeId) (nm : String) : Option (Option (FuncId × Bool)) := match P.info? t with
 | some i => match i.methods.find? (·.name == nm) with
  | some m => if m.path.isEmpty then some m.func else none
  | none => none
 | none => none
def qav2 (P : Program) (t : TypeId) : Option (Option TypeId) := match P.underlying t with
 | some (.pointer e) => some (some e)
 | some (.interface _) => none
 | some _ => some none
 | none => none
variable {P : Program} {g : Nat → Option SObj} {t : TypeId} {x : SV} {nm : String} {f : FuncId}
theorem qakp {b : Bool} (h : qab3 P t nm = some (some (f, b))) : ∃ i m, P.info? t = some i ∧ i.methods.find? (·.name == nm) = some m ∧ m.path = #[] ∧ m.func = some (f, b) := by
 unfold qab3 at h
 split at h
 ·rename_i i hi
  split at h
  ·rename_i m hm
   split at h
   ·rename_i hp
    exact ⟨i, m, hi, hm, by simpa using hp, by simpa using h⟩
   ·cases h
  ·cases h
 ·cases h
theorem qag9 {e : TypeId} (h : qab3 P t nm = some (some (f, true))) (hp : qav2 P t = some (some e)) : Meth P g t x nm f x := fun w A ρ v hobj hx => by
 obtain ⟨i, m, h1, h2, h3, h4⟩ := qakp h
 refine ⟨v, ?_, hx⟩
 have hu : P.underlying t = some (.pointer e) := by
  unfold qav2 at hp
  split at hp <;> simp_all
 have hn : P.types.size + Made.depth = (P.types.size + 99) + 1 := rfl
 rw [hn]
 unfold method
 simp [typeInfo, h1, h2, h3, h4, follow, receiverAt, run_underlying hu, Place.get]
theorem qacw (h : qab3 P t nm = some (some (f, false))) (hp : qav2 P t = some none) : Meth P g t x nm f x := fun w A ρ v hobj hx => by
 obtain ⟨i, m, h1, h2, h3, h4⟩ := qakp h
 refine ⟨v, ?_, hx⟩
 obtain ⟨d, hu, hd⟩ : ∃ d, P.underlying t = some d ∧ ∀ e, d ≠ .pointer e := by
  unfold qav2 at hp
  split at hp
  ·cases hp
  ·cases hp
  ·exact ⟨_, ‹P.underlying t = some _›, fun e he => by subst he; simp_all⟩
  ·cases hp
 have hn : P.types.size + Made.depth = (P.types.size + 99) + 1 := rfl
 rw [hn]
 unfold method
 cases d <;> first | exact absurd rfl (hd _) | simp [typeInfo, h1, h2, h3, h4, follow, receiverAt, run_underlying hu, Place.get]
theorem wrap_ok (ts : Array TypeId) (ty : TypeId) (a : Addr) (s m : ByteArray) : Builtin.ssaWrapNilChk_ ts ty #[.pointer (some a), .string s, .string m] = pure (.pointer (some a)) := rfl
theorem qa5r {e u : TypeId} {id off : Nat} {cs : List SV} {c : SV} (h : qab3 P t nm = some (some (f, false))) (hp : qav2 P t = some (some e)) (hb : qahn P e = some false) (hg : g id = some (.cells u cs)) (hc : cs[off]? = some c) : Meth P g t (.ptr id off) nm f c := fun w A ρ v hobj hx => by
 obtain ⟨i, m, h1, h2, h3, h4⟩ := qakp h
 have hu : P.underlying t = some (.pointer e) := by
  unfold qav2 at hp
  split at hp <;> simp_all
 obtain ⟨fp, b, c0, vs, hρ, hbl, ⟨hr, hone⟩, _⟩ := hobj _ _ hg
 cases hx with
 | ptr hρ2 =>
  rw [hρ2] at hρ; cases hρ
  obtain ⟨v', h5, h6⟩ := hr.get hc
  refine ⟨v', ?_, h6⟩
  have hcell : w.cell? ⟨b, off, none⟩ = some v' := by rw [hbl.cell]; simpa using h5
  have hn : P.types.size + Made.depth = (P.types.size + 99) + 1 := rfl
  rw [hn]
  unfold method
  simp [typeInfo, h1, h2, h3, h4, follow, receiverAt, run_underlying hu, Place.get, strVal, wrap_ok, asAddr, loadVar, qaf8 hb w, load, Sem.run, hcell]
end Go.Proofs.YtalejfkholifpaaGreat
namespace Go.Proofs.YtalejfkholifpaaGreat
set_option linter.all false
open Go.RowKit
attribute [local simp] qaas qaar qaac qaag qaad qaaf qaap qaaq qaab qaa4 SOp.run SX.ev putd puts argS upds SOp.touch SSt.keep SSt.skip gets geth puth delh idOf SV.cells? setL qab7 qab8 sbin eq0 eq1 eqL qab5 qabh qabi qaa5 qaat qaae qaau qaa6 qaam qaan FrzOk qaba qaa0 qaa8 qaa9 qaav qaaz qabe qaa1 qaax qabb qaaw frzS frzH frz frz1 frz0 SlotsM ObjsM ObjM rn ren ren1 ren0 qabp qabs qabt qabo qabf qab1 qab0 CoL qabc qabw dels adds idsH qabq
theorem qarm {z : Nat} : ∀ (es : List (List SV)) (k : Nat), (∀ x ∈ es, x.length = z) → (es.take k).flatten = es.flatten.take (k * z)
 | [], k, _ => by simp
 | x :: es, 0, _ => by simp
 | x :: es, k + 1, h => by
  have hx := h x (by simp)
  have e1 : x.take ((k + 1) * z) = x := List.take_of_length_le (by rw [hx, Nat.succ_mul]; omega)
  have e2 : (k + 1) * z - z = k * z := by rw [Nat.succ_mul]; omega
  rw [List.take_succ_cons, List.flatten_cons, List.flatten_cons, qarm es k fun y hy => h y (by simp [hy]), List.take_append, hx, e1, e2]
theorem qa4t {X : Cx} {s : SSt} (id k : Nat) {e z : Nat} {es : List (List SV)} (h : geth s.hp id = some (.row e z es)) (hk : k ≤ es.length) : Wk X s ⟨s.sl, puth s.hp id (.row e z (es.take k)), s.nx⟩ := by
 intro ρ fp a w hs
 have hg : ∀ i o, geth (puth s.hp id (.row e z (es.take k))) i = some o → ∃ o', geth s.hp i = some o' := fun i o ho => by
  rw [qacm] at ho
  split at ho
  ·rename_i e1; subst e1; exact ⟨_, h⟩
  ·exact ⟨_, ho⟩
 have hav : ∀ j, Av X (puth s.hp id (.row e z (es.take k))) fp j → Av X s.hp fp j := fun j hj => hj.imp (fun h => h) fun ⟨i, o, h1, h2⟩ => by
  obtain ⟨o', h3⟩ := hg i o h1
  exact ⟨i, o', h3, h2⟩
 refine ⟨ρ, fp, ⟨⟨fun i o ho => ?_, fun i i' o o' hne ho ho' => ?_, fun i o ho => ?_, hs.sim.h.step, hs.sim.h.keep⟩, hs.sim.tmps, hs.sim.defers, fun u => (hs.sim.slots u).weaken fun j hj _ => hav j hj⟩, hs.fresh, hs.le⟩
 ·rw [qacm] at ho
  split at ho
  ·rename_i e1; subst e1; cases ho
   obtain ⟨v, vs, h1, ⟨h2, h3⟩, h4, h5, h6⟩ := hs.sim.h.objs _ _ h
   have hf := qarm es k h4
   have hr : Reps w (Av X s.hp fp) ρ (es.take k).flatten (vs.take (k * z)) := by
    rw [hf]
    refine ⟨by rw [List.length_take, List.length_take, h2.1], fun j x u hx hu => ?_⟩
    rw [List.getElem?_take] at hx hu
    split at hx
    ·rename_i hj
     rw [if_pos hj] at hu
     exact h2.2 j x u hx hu
    ·cases hx
   have ho : Ones (vs.take (k * z)) := fun u hu => h3 u (List.mem_of_mem_take hu)
   have hl : (es.take k).length = k := by rw [List.length_take]; omega
   obtain ⟨q1, q2⟩ := h1
   have hlv : (vs.take (k * z)).length = k * z := by rw [List.length_take, q1]; exact Nat.min_eq_left (Nat.mul_le_mul_right _ hk)
   rcases q2 with ⟨rfl, hn⟩ | ⟨g, cap, cur, fz, rfl, g2, g3, g4, g5, g6, g7⟩
   ·exact ⟨_, vs.take (k * z), by rw [hl]; exact ⟨hlv, .inl ⟨rfl, by omega⟩⟩, ⟨hr.mono (.refl _ _) (fun j hj _ => hav j hj) fun _ _ h => h, ho⟩, fun x hx => h4 x (List.mem_of_mem_take hx), h5, h6⟩
   ·have hc : cur.toList.take (k * z) = vs.take (k * z) := by rw [← g7, List.take_take, Nat.min_eq_left (Nat.mul_le_mul_right _ hk)]
    have how : RowP w e z (.slice (some ⟨g, 0, none⟩) k cap) (es.take k).length (vs.take (k * z)) := by
     rw [hl]; exact ⟨hlv, .inr ⟨g, cap, cur, fz, rfl, g2, g3, by omega, g5, g6, hc⟩⟩
    exact ⟨_, vs.take (k * z), how, ⟨hr.mono (.refl _ _) (fun j hj _ => hav j hj) fun _ _ h => h, ho⟩, fun x hx => h4 x (List.mem_of_mem_take hx), h5, h6⟩
  ·exact (hs.sim.h.objs i o ho).weaken fun j hj _ => hav j hj
 ·obtain ⟨p, h1⟩ := hg i o ho
  obtain ⟨p', h2⟩ := hg i' o' ho'
  exact hs.sim.h.disj i i' p p' hne h1 h2
 ·obtain ⟨p, h1⟩ := hg i o ho
  exact hs.sim.h.turn i p h1
instance : PureF qaay := ⟨fun _ _ => rfl, fun _ => rfl, qaw5⟩
abbrev qaeq := Option (Int × Int)
def hcs : qaeq → Nat → List SV
 | none, n => [.own 1 n]
 | some (k, m), n => [.int .i64 k, .int .i64 m, .own 1 n]
def hoff : qaeq → Nat
 | none => 0
 | some _ => 2
def hty : qaeq → TypeId
 | none => 106
 | some _ => 108
def hobj (c : qaeq) (l : List Entry) : Hp := [(0, .cells (hty c) (hcs c l.length)), (1, .row 38 6 (l.map qaay))]
theorem qal8 (c : qaeq) (n : Nat) {σ : Nat → Nat} (h : σ 1 = 1) : (hcs c n).map (Go.Proofs.YtalejfkholifpaaGreat.ren σ) = hcs c n := by
 rcases c with _ | ⟨k, m⟩ <;> simp [hcs, Go.Proofs.YtalejfkholifpaaGreat.ren, ren1, ren0, h]
theorem qadf (c : qaeq) (n : Nat) {σ : Nat → Nat} (h : σ 1 = 1) : CoL (hcs c n) ((hcs c n).map (Go.Proofs.YtalejfkholifpaaGreat.ren σ)) := by rw [qal8 c n h]; exact CoL.refl _
theorem hcs_get (c : qaeq) (n : Nat) : (hcs c n)[hoff c]? = some (.own 1 n) := by rcases c with _ | ⟨k, m⟩ <;> rfl
theorem hcs_ok (c : qaeq) (n : Nat) : (hcs c n).all ok2 = true := by rcases c with _ | ⟨k, m⟩ <;> rfl
theorem qal7 (c : qaeq) (l : List Entry) : LtH 2 (hobj c l) := ⟨by decide, qal8 c _ rfl, by decide, qaby _ _ _, trivial⟩
theorem h_up {f : FuncId} {args : List SV} {r : SV} {c : qaeq} {l l' : List Entry} (h : SCalls Tryz.prog f args (hobj c l) 2 r (hobj c l')) (q : Nat) (hq : 2 ≤ q) (ha : args = args.map (Go.Proofs.YtalejfkholifpaaGreat.ren (sg [0, 1] q))) (hr : r = Go.Proofs.YtalejfkholifpaaGreat.ren (sg [0, 1] q) r) (hk : ok2 r = true) : SCalls Tryz.prog f args (hobj c l) q r (hobj c l') :=
 qadd [0, 1] h rfl (by decide) (by intro i hi; simp at hi; omega) ha ⟨⟨_, rfl, rfl, qadf c _ rfl⟩, ⟨_, rfl, rfl, rfl, by rw [qaby]; exact CoLL.refl _⟩, trivial⟩ (by simp [idsH, hobj]) hr hk ⟨⟨_, rfl, rfl, hcs_ok c _, (qal8 c _ rfl).symm⟩, ⟨_, rfl, rfl, rfl, qajo _ _, (qaby _ _ _).symm⟩, trivial⟩ (by simp [idsH, hobj]) (by simp [idsH, hobj]; exact ⟨rfl, rfl⟩)
theorem qbey {X : Cx} {s : SSt} {c : qaeq} {l : List Entry} {t : Nat} {r : SV} (hr : (∃ b, r = .bool b) ∨ (∃ n, r = .int .i64 n) ∨ ∃ e, r = .ifc 38 (.agg (qaay e))) (hw : Wk X s ⟨[(t, r)], hobj c l, 2⟩) : QFun X [.tmp t] 2 r (hobj c l) .ret s :=
 ⟨_, hw, by rcases hr with ⟨b, rfl⟩ | ⟨n, rfl⟩ | ⟨e, rfl⟩ <;> simp [qage, resL, resV, one_, gets], ⟨rfl, rfl, trivial⟩, by simp⟩
theorem fin_ghv {X : Cx} {s : SSt} {c : qaeq} {l : List Entry} {x : SExit} (hx : x = .ret ∨ x = .normal) (hw : Wk X s ⟨[], hobj c l, 2⟩) : QFun X [] 2 (.tup []) (hobj c l) x s := by
 rcases hx with rfl | rfl <;> exact ⟨_, hw, rfl, ⟨rfl, rfl, trivial⟩, by simp⟩
theorem qafi (e : Entry) (x : List SV) (h : x.length = 6) : setL x 0 (qaay e) = qaay e := by
 match x, h with
 | [_, _, _, _, _, _], _ => rfl
theorem qarr {l : List Entry} {i j : Nat} {e : Entry} (h : j < ((l.map qaay).set i (qaay e)).length) : (((l.map qaay).set i (qaay e))[j]).length = 6 := by
 rw [List.getElem_set]
 split
 ·rfl
 ·rw [List.getElem_map]; rfl
end Go.Proofs.YtalejfkholifpaaGreat
namespace Go.Proofs.YtalejfkholifpaaGreat
set_option linter.all false
open Go.RowKit
attribute [local simp] qaas qaar qaac qaag qaad qaaf qaap qaaq qaab qaa4 SOp.run SX.ev putd puts argS upds SOp.touch SSt.keep SSt.skip gets geth puth delh idOf SV.cells? setL qab7 qab8 sbin eq0 eq1 eqL qab5 qabh qabi qaa5 qaat qaae qaau qaa6 qaam qaan FrzOk qaba qaa0 qaa8 qaa9 qaav qaaz qabe qaa1 qaax qabb qaaw frzS frzH frz frz1 frz0 SlotsM ObjsM ObjM rn ren ren1 ren0 qabp qabs qabt qabo qabf qab1 qab0 CoL qabc qabw dels adds idsH qabq
theorem rlen_s (c : qaeq) (l : List Entry) (q : Nat) (hq : 2 ≤ q) : SCalls Tryz.prog 163 [.own 1 l.length] (hobj c l) q (.int .i64 l.length) (hobj c l) := by
 refine h_up ?_ q hq rfl rfl rfl
 refine qaai (N := 5) Tryz.func163 rfl rfl (by kernel_rfl) qap5 (by simp) (by repeat' (first | exact trivial | refine And.intro ?_ ?_ | rfl | decide | exact PureR.ren _)) (qal7 c l) ?_
 rintro X hP hN hm
 unfold c_rwlen hobj
 repeat' (first | refine yA ?_ | with_reducible refine yB ?_ ?_ | ((with_reducible refine yC fun h => ?_); have h' := h; (try simp at h'); (try subst h')) | exact yD | refine yE ?_ | ((refine qbey (.inr (.inl ⟨_, rfl⟩)) ?_; simp only [hobj])) | (exact qadf _ _ rfl) | exact trivial)
 all_goals trace_state
theorem rless_s (c : qaeq) (l : List Entry) (hs : ∀ x ∈ l, qadk x) (i j : Nat) (hi : i < l.length) (hj : j < l.length) (q : Nat) (hq : 2 ≤ q) : SCalls Tryz.prog 164 [.own 1 l.length, .int .i64 i, .int .i64 j] (hobj c l) q (.bool (decide (ordE l[i] l[j] < 0))) (hobj c l) := by
 refine h_up ?_ q hq rfl rfl rfl
 refine qaai (N := 17) Tryz.func164 rfl rfl (by kernel_rfl) qams (by simp) (by repeat' (first | exact trivial | refine And.intro ?_ ?_ | rfl | decide | exact PureR.ren _)) (qal7 c l) ?_
 rintro X hP hN hm
 have k1 := fun q => qbb9 l[i] l[j] (hs _ (List.getElem_mem hi)) (hs _ (List.getElem_mem hj)) q
 replace hs := Lib.hid hs
 unfold c_rwless hobj
 repeat' (first | ((with_reducible first | refine qaao ?_ | refine qaak (by rw [hP]; exact mixed) ?_); (try rw [hP]); simp -implicitDefEqProofs [List.getElem?_eq_getElem hi, List.getElem?_eq_getElem hj, qac6, qab9, *]) | ((with_reducible first | refine qaah ?_ | refine qaaj ?_); (try simp -implicitDefEqProofs [List.getElem?_eq_getElem hi, List.getElem?_eq_getElem hj, qac6, qab9, *])) | ((with_reducible refine qaaa (fun h => ?_) (fun h => ?_)) <;> have h' := h <;> (try simp at h') <;> (try subst h') <;> simp -implicitDefEqProofs [List.getElem?_eq_getElem hi, List.getElem?_eq_getElem hj, qac6, qab9, *]) | ((with_reducible refine qaal ?_ ?_); (first | omega | (unfold maxLen; omega)); simp -implicitDefEqProofs [List.getElem?_eq_getElem hi, List.getElem?_eq_getElem hj, qac6, qab9, *]) | refine yA ?_ | with_reducible refine yB ?_ ?_ | ((with_reducible refine yC fun h => ?_); have h' := h; (try simp at h'); (try subst h')) | (refine qabr (k1 _) ?_; simp -implicitDefEqProofs [List.getElem?_eq_getElem hi, List.getElem?_eq_getElem hj, qac6, qab9, *]) | exact yD | refine yE ?_ | ((refine qbey (.inl ⟨_, rfl⟩) ?_; simp only [hobj])) | (exact qadf _ _ rfl) | exact trivial)
 all_goals trace_state
theorem rswap_s (c : qaeq) (l : List Entry) (i j : Nat) (hi : i < l.length) (hj : j < l.length) (q : Nat) (hq : 2 ≤ q) : SCalls Tryz.prog 165 [.own 1 l.length, .int .i64 i, .int .i64 j] (hobj c l) q (.tup []) (hobj c ((l.set i l[j]).set j l[i])) := by
 refine h_up ?_ q hq rfl rfl rfl
 obtain ⟨R, hR⟩ : ∃ R, R = (l.set i l[j]).set j l[i] := ⟨_, rfl⟩
 rw [← hR]
 have hl : R.length = l.length := by rw [hR]; simp
 have hm2 : R.map qaay = ((l.map qaay).set i (qaay l[j])).set j (qaay l[i]) := by rw [hR]; simp
 replace hl := Lib.hid hl
 replace hm2 := Lib.hid hm2
 replace hR := Lib.hid hR
 refine qaai (N := 20) Tryz.func165 rfl rfl (by kernel_rfl) qamq (by simp) (by repeat' (first | exact trivial | refine And.intro ?_ ?_ | rfl | decide | exact PureR.ren _)) (qal7 c l) ?_
 rintro X hP hN hm
 unfold c_rwswap hobj
 repeat' (first | ((with_reducible first | refine qaao ?_ | refine qaak (by rw [hP]; exact mixed) ?_); (try rw [hP]); simp -implicitDefEqProofs [List.getElem?_eq_getElem hi, List.getElem?_eq_getElem hj, qac6, qab9, qafi, qarr, *]) | ((with_reducible first | refine qaah ?_ | refine qaaj ?_); (try simp -implicitDefEqProofs [List.getElem?_eq_getElem hi, List.getElem?_eq_getElem hj, qac6, qab9, qafi, qarr, *])) | ((with_reducible refine qaaa (fun h => ?_) (fun h => ?_)) <;> have h' := h <;> (try simp at h') <;> (try subst h') <;> simp -implicitDefEqProofs [List.getElem?_eq_getElem hi, List.getElem?_eq_getElem hj, qac6, qab9, qafi, qarr, *]) | ((with_reducible refine qaal ?_ ?_); (first | omega | (unfold maxLen; omega)); simp -implicitDefEqProofs [List.getElem?_eq_getElem hi, List.getElem?_eq_getElem hj, qac6, qab9, qafi, qarr, *]) | refine yA ?_ | with_reducible refine yB ?_ ?_ | ((with_reducible refine yC fun h => ?_); have h' := h; (try simp at h'); (try subst h')) | exact yD | refine yE ?_ | ((refine fin_ghv (.inr rfl) ?_; simp only [hobj])) | ((rw [hl.out]; exact qadf _ _ rfl)) | exact trivial)
 all_goals exact hm2.out.symm
theorem qaw1 {X : Cx} {rs : List ResultVar} {m : Nat} {r : SV} {h2 : Hp} {s s1 : SSt} (hw : Wk X s s1) (h : QFun X rs m r h2 .ret s1) : QFun X rs m r h2 .ret s := by
 obtain ⟨s', h1, h2, h3, h4⟩ := h
 exact ⟨s', hw.trans h1, h2, h3, h4⟩
instance pureR_snoc {α : Type} (f : α → List SV) [PureF f] (L : List α) (x : α) : PureR (L.map f ++ [f x]) := by
 have e : L.map f ++ [f x] = (L ++ [x]).map f := by simp
 rw [e]
 exact ⟨fun σ => qaby f σ _, qajo f _, qagn f _⟩
theorem rpop_s (c : qaeq) (L : List Entry) (x : Entry) (hl : L.length + 1 ≤ 1000000) (q : Nat) (hq : 2 ≤ q) : SCalls Tryz.prog 167 [.ptr 0 (hoff c)] (hobj c (L ++ [x])) q (.ifc 38 (.agg (qaay x))) (hobj c L) := by
 refine h_up ?_ q hq rfl rfl rfl
 have hlen : (L ++ [x]).length = L.length + 1 := by simp
 have hrow : (L ++ [x]).map qaay = L.map qaay ++ [qaay x] := by simp
 rw [show hobj c (L ++ [x]) = [(0, .cells (hty c) (hcs c (L.length + 1))), (1, .row 38 6 (L.map qaay ++ [qaay x]))] by unfold hobj; rw [hlen, hrow]]
 have wi : IntKind.i64.wrap (L.length : Int) = L.length := by simp [IntKind.wrap, IntKind.bits, IntKind.signed, Int.bmod]; omega
 have hg : (L.map qaay ++ [qaay x])[L.length]? = some (qaay x) := by rw [List.getElem?_append_right (by simp)]; simp
 have htk : (L.map qaay ++ [qaay x]).take L.length = L.map qaay := by rw [List.take_append_of_le_length (by simp)]; exact List.take_of_length_le (by simp)
 rcases c with _ | ⟨k, m⟩
 all_goals
  refine qaai (N := 25) Tryz.func167 rfl rfl (by kernel_rfl) qap4 (by simp) (by repeat' (first | exact trivial | refine And.intro ?_ ?_ | rfl | decide | exact PureR.ren _)) (by repeat' (first | exact trivial | refine And.intro ?_ ?_ | rfl | decide | exact PureR.ren _)) ?_
  rintro X hP hN hm
  unfold c_rwpop hcs hty hoff
  repeat' (first | ((with_reducible first | refine qaao ?_ | refine qaak (by rw [hP]; exact mixed) ?_); (try rw [hP]); simp -implicitDefEqProofs [wi, hg, qac6, qab9, qafi, *]) | ((with_reducible first | refine qaah ?_ | refine qaaj ?_); (try simp -implicitDefEqProofs [wi, hg, qac6, qab9, qafi, *])) | ((with_reducible refine qaaa (fun h => ?_) (fun h => ?_)) <;> have h' := h <;> (try simp at h') <;> (try subst h') <;> simp -implicitDefEqProofs [wi, hg, qac6, qab9, qafi, *]) | ((with_reducible refine qaal ?_ ?_); (first | omega | (unfold maxLen; omega)); simp -implicitDefEqProofs [wi, hg, qac6, qab9, qafi, *]) | refine yA ?_ | with_reducible refine yB ?_ ?_ | ((with_reducible refine yC fun h => ?_); have h' := h; (try simp at h'); (try subst h')) | exact yD | refine yE ?_ | ((refine qaw1 (qa4t 1 L.length rfl ?_) ?_; rotate_left; rw [htk]; refine qbey (.inr (.inr ⟨_, rfl⟩)) ?_; simp only [hobj, hcs, puth])) | exact trivial)
  all_goals trace_state
end Go.Proofs.YtalejfkholifpaaGreat
namespace Go.Proofs.YtalejfkholifpaaGreat
set_option linter.all false
open Go.RowKit
attribute [local simp] qaas qaar qaac qaag qaad qaaf qaap qaaq qaab qaa4 SOp.run SX.ev putd puts argS upds SOp.touch SSt.keep SSt.skip gets geth puth delh idOf SV.cells? setL qab7 qab8 sbin eq0 eq1 eqL qab5 qabh qabi qaa5 qaat qaae qaau qaa6 qaam qaan FrzOk qaba qaa0 qaa8 qaa9 qaav qaaz qabe qaa1 qaax qabb qaaw frzS frzH frz frz1 frz0 SlotsM ObjsM ObjM rn ren ren1 ren0 qabp qabs qabt qabo qabf qab1 qab0 CoL qabc qabw dels adds idsH qabq
def qady (c : qaeq) (l : List Entry) : AbsI := qaox 2 fun h => h = hobj c l
theorem qaf2 (c : qaeq) (l : List Entry) {σ : Nat → Nat} (h : σ 1 = 1) : RenH σ (hobj c l) := ⟨qal8 c _ h, qaby _ _ _, trivial⟩
theorem qagw (c : qaeq) (l : List Entry) : ∀ hh, hh = hobj c l → (∃ t cs, geth hh 0 = some (.cells t cs)) ∧ RenH (fun i => if i = 0 then 2 else i) hh := fun hh h => by
 subst h
 exact ⟨⟨_, _, rfl⟩, qaf2 c l rfl⟩
theorem qaod {X : Cx} {s : SSt} {c : qaeq} {l : List Entry} (hs : SubH s.hp (hobj c l)) : Wk X s ⟨s.sl, [(0, .abs (qady c l))], s.nx⟩ :=
 qbbn (hh := hobj c l) (R := fun h => h = hobj c l) rfl (by decide) rfl (fun σ h => qaf2 c l (h 1 (by decide))) (by simp [idsH, hobj]) hs rfl (fun id o' h ho => by simp only [geth, if_neg (Ne.symm h)] at ho; cases ho)
theorem qbcx {X : Cx} {s : SSt} {c : qaeq} {l : List Entry} {e : SExit} (he : e = .ret ∨ e = .normal) (hm : X.m = 1) (hw : Wk X s ⟨[], hobj c l, 2⟩) : QFun X [] 1 (.tup []) [(0, .abs (qady c l))] e s := by
 have h1 : Wk X s ⟨[], [(0, .abs (qady c l))], 2⟩ := hw.trans (qaod ⟨rfl, rfl, trivial⟩)
 have h2 : Wk X ⟨[], [(0, .abs (qady c l))], 2⟩ ⟨[], [(0, .abs (qady c l))], 1⟩ := qabg [] hm trivial ⟨⟨_, rfl, rfl⟩, trivial⟩ rfl (Nat.le_refl _)
 rcases he with rfl | rfl <;> exact ⟨_, h1.trans h2, rfl, ⟨rfl, trivial⟩, by simp⟩
theorem rpush_s (c : qaeq) (l : List Entry) (e : Entry) (hl : l.length < 1000000) : SCalls Tryz.prog 168 [.ptr 0 (hoff c), .ifc 38 (.agg (qaay e))] [(0, .abs (qady c l))] 1 (.tup []) [(0, .abs (qady c (l ++ [e])))] := by
 refine qaai (N := 20) Tryz.func168 rfl rfl (by kernel_rfl) qamr (by simp) (by repeat' (first | exact trivial | refine And.intro ?_ ?_ | rfl | decide | exact PureR.ren _)) (by repeat' (first | exact trivial | refine And.intro ?_ ?_ | rfl | decide | exact PureR.ren _)) ?_
 rintro X hP hN hm
 refine qafk (by omega) (by decide) (qagw c l) fun hh h => ?_
 subst h
 unfold c_rwpush hobj
 have b1 : l.length + 1 ≤ maxLen := by unfold maxLen; omega
 have b2 : (l.length + 1) * 96 ≤ 140737488355328 := by omega
 rcases c with _ | ⟨k, m⟩
 all_goals
  unfold hcs hty hoff
  repeat' (first | ((with_reducible first | refine qaao ?_ | refine qaak (by rw [hP]; exact mixed) ?_); (try rw [hP]); simp -implicitDefEqProofs [b1, b2, qac6, qab9, qafi, *]) | ((with_reducible first | refine qaah ?_ | refine qaaj ?_); (try simp -implicitDefEqProofs [b1, b2, qac6, qab9, qafi, *])) | ((with_reducible refine qaaa (fun h => ?_) (fun h => ?_)) <;> have h' := h <;> (try simp at h') <;> (try subst h') <;> simp -implicitDefEqProofs [b1, b2, qac6, qab9, qafi, *]) | ((with_reducible refine qaal ?_ ?_); (first | omega | (unfold maxLen; omega)); simp -implicitDefEqProofs [b1, b2, qac6, qab9, qafi, *]) | refine yA ?_ | with_reducible refine yB ?_ ?_ | ((with_reducible refine yC fun h => ?_); have h' := h; (try simp at h'); (try subst h')) | exact yD | refine yE ?_ | (refine qbcx (.inr rfl) hm (qabg [(1, 17)] hm trivial ⟨⟨_, rfl, rfl, ?_⟩, ⟨_, rfl, rfl, rfl, ?_⟩, trivial⟩ rfl (by simp))) | exact trivial)
  all_goals first | (rw [List.length_append]; exact CoL.refl _) | (rw [qaby, List.map_append]; exact CoLL.refl _) | trace_state
end Go.Proofs.YtalejfkholifpaaGreat
namespace Go.Proofs.YtalejfkholifpaaGreat
set_option linter.all false
open Go.RowKit
def qahx (l : List Entry) (i j : Nat) : Bool := match l[i]?, l[j]? with
 | some a, some b => decide (ordE a b < 0)
 | _, _ => false
def qaej (l : List Entry) (i j : Nat) : List Entry := match l[i]?, l[j]? with
 | some a, some b => (l.set i b).set j a
 | _, _ => l
def upL : Nat → List Entry → Nat → List Entry
 | 0, l, _ => l
 | f + 1, l, j => if (j - 1) / 2 = j ∨ qahx l j ((j - 1) / 2) = false then l else upL f (qaej l ((j - 1) / 2) j) ((j - 1) / 2)
def sonL (l : List Entry) (i n : Nat) : Nat := if 2 * i + 1 + 1 < n ∧ qahx l (2 * i + 1 + 1) (2 * i + 1) = true then 2 * i + 1 + 1 else 2 * i + 1
def qafj : Nat → List Entry → Nat → Nat → List Entry × Nat
 | 0, l, i, _ => (l, i)
 | f + 1, l, i, n => if n ≤ 2 * i + 1 ∨ qahx l (sonL l i n) i = false then (l, i) else qafj f (qaej l i (sonL l i n)) (sonL l i n) n
theorem qaxp {l : List Entry} {i j : Nat} (hi : i < l.length) (hj : j < l.length) : qahx l i j = decide (ordE l[i] l[j] < 0) := by
 unfold qahx; rw [List.getElem?_eq_getElem hi, List.getElem?_eq_getElem hj]
theorem qaoj {l : List Entry} {i j : Nat} (hi : i < l.length) (hj : j < l.length) : qaej l i j = (l.set i l[j]).set j l[i] := by
 unfold qaej; rw [List.getElem?_eq_getElem hi, List.getElem?_eq_getElem hj]
theorem qaeg (l : List Entry) (i j : Nat) : (qaej l i j).length = l.length := by
 unfold qaej; split <;> simp
theorem qa5g {l : List Entry} {i j : Nat} (hi : i < l.length) (hj : j < l.length) : ((l.set i l[j]).set j l[i]).Perm l := List.set_set_perm hi hj
theorem qadm (l : List Entry) (i j : Nat) : (qaej l i j).Perm l := by
 by_cases hi : i < l.length
 ·by_cases hj : j < l.length
  ·rw [qaoj hi hj]; exact qa5g hi hj
  ·unfold qaej; rw [List.getElem?_eq_none (by omega : l.length ≤ j)]; split <;> first | exact .refl _ | simp_all
 ·unfold qaej; rw [List.getElem?_eq_none (by omega : l.length ≤ i)]
theorem qaic : ∀ (f : Nat) (l : List Entry) (j : Nat), (upL f l j).Perm l
 | 0, l, j => .refl _
 | f + 1, l, j => by
  rw [upL]; split
  ·exact .refl _
  ·exact (qaic f _ _).trans (qadm _ _ _)
theorem qav4 : ∀ (f g : Nat) (l : List Entry) (j : Nat), j < f → j < g → upL f l j = upL g l j
 | f + 1, g + 1, l, j, hf, hg => by
  rw [upL, upL]
  by_cases h : (j - 1) / 2 = j ∨ qahx l j ((j - 1) / 2) = false
  ·rw [if_pos h, if_pos h]
  ·rw [if_neg h, if_neg h]
   have : (j - 1) / 2 ≠ j := fun e => h (.inl e)
   exact qav4 f g _ _ (by omega) (by omega)
theorem qadw : ∀ (f : Nat) (l : List Entry) (i n : Nat), (qafj f l i n).1.Perm l
 | 0, l, i, n => .refl _
 | f + 1, l, i, n => by
  rw [qafj]; split
  ·exact .refl _
  ·exact (qadw f _ _ _).trans (qadm _ _ _)
theorem qalj (l : List Entry) (i n : Nat) (h : 2 * i + 1 < n) : i < sonL l i n ∧ sonL l i n < n := by
 unfold sonL; split <;> omega
theorem qamh : ∀ (f g : Nat) (l : List Entry) (i n : Nat), n - i < f → n - i < g → qafj f l i n = qafj g l i n
 | f + 1, g + 1, l, i, n, hf, hg => by
  rw [qafj, qafj]
  by_cases h : n ≤ 2 * i + 1 ∨ qahx l (sonL l i n) i = false
  ·rw [if_pos h, if_pos h]
  ·rw [if_neg h, if_neg h]
   have h1 : 2 * i + 1 < n := Nat.lt_of_not_le fun e => h (.inl e)
   have h2 := qalj l i n h1
   exact qamh f g _ _ _ (by omega) (by omega)
end Go.Proofs.YtalejfkholifpaaGreat
namespace Go.Proofs.YtalejfkholifpaaGreat
set_option linter.all false
open Go.RowKit
attribute [local simp] qaas qaar qaac qaag qaad qaaf qaap qaaq qaab qaa4 SOp.run SX.ev putd puts argS upds SOp.touch SSt.keep SSt.skip gets geth puth delh idOf SV.cells? setL qab7 qab8 sbin eq0 eq1 eqL qab5 qabh qabi qaa5 qaat qaae qaau qaa6 qaam qaan FrzOk qaba qaa0 qaa8 qaa9 qaav qaaz qabe qaa1 qaax qabb qaaw frzS frzH frz frz1 frz0 SlotsM ObjsM ObjM rn ren ren1 ren0 qabp qabs qabt qabo qabf qab1 qab0 CoL qabc qabw dels adds idsH qabq
theorem m_len : qab3 Tryz.prog 176 "Len" = some (some (163, false)) := by kernel_rfl
theorem qas0 : qab3 Tryz.prog 176 "Less" = some (some (164, false)) := by kernel_rfl
theorem qao4 : qab3 Tryz.prog 176 "Swap" = some (some (165, false)) := by kernel_rfl
theorem m_push : qab3 Tryz.prog 176 "Push" = some (some (168, true)) := by kernel_rfl
theorem m_pop : qab3 Tryz.prog 176 "Pop" = some (some (167, true)) := by kernel_rfl
theorem qbhk : qav2 Tryz.prog 176 = some (some 106) := by kernel_rfl
theorem a_row : qahn Tryz.prog 106 = some false := by kernel_rfl
attribute [local irreducible] qab3
abbrev hobn (c : qaeq) (n : Nat) (l : List Entry) : Hp := [(0, .cells (hty c) (hcs c n)), (1, .row 38 6 (l.map qaay))]
theorem qad8 {c : qaeq} {n : Nat} {l : List Entry} (h : l.length = n) : hobj c l = hobn c n l := by subst h; rfl
theorem qajt (c : qaeq) (n : Nat) (l : List Entry) : LtH 2 (hobn c n l) := ⟨by decide, qal8 c _ rfl, by decide, qaby _ _ _, trivial⟩
theorem qaww (c : qaeq) (n : Nat) (l : List Entry) (hl : l.length = n) (hs : ∀ x ∈ l, qadk x) (i j : Nat) (hi : i < n) (hj : j < n) (q : Nat) (hq : 2 ≤ q) : SCalls Tryz.prog 164 [.own 1 n, .int .i64 i, .int .i64 j] (hobn c n l) q (.bool (qahx l i j)) (hobn c n l) := by
 subst hl; rw [qaxp hi hj]; exact rless_s c l hs i j hi hj q hq
theorem qaq0 (c : qaeq) (n : Nat) (l : List Entry) (hl : l.length = n) (i j : Nat) (hi : i < n) (hj : j < n) (q : Nat) (hq : 2 ≤ q) : SCalls Tryz.prog 165 [.own 1 n, .int .i64 i, .int .i64 j] (hobn c n l) q (.tup []) (hobn c n (qaej l i j)) := by
 have h := rswap_s c l i j (by omega) (by omega) q hq
 rw [← qaoj (by omega) (by omega), qad8 (c := c) (n := n) (l := qaej l i j) (by rw [qaeg, hl]), qad8 hl, hl] at h
 exact h
theorem qadx {c : qaeq} {n : Nat} {nm : String} {f : FuncId} (h : qab3 Tryz.prog 176 nm = some (some (f, false))) : Meth Tryz.prog (geth [(0, .cells (hty c) (hcs c n))]) 176 (.ptr 0 (hoff c)) nm f (.own 1 n) := qa5r h qbhk a_row rfl (hcs_get c n)
theorem qbcv {X : Cx} {s : SSt} {c : qaeq} {n : Nat} {l : List Entry} {x : SExit} (hx : x = .ret ∨ x = .normal) (hw : Wk X s ⟨[], hobn c n l, 2⟩) : QFun X [] 2 (.tup []) (hobn c n l) x s := by
 rcases hx with rfl | rfl <;> exact ⟨_, hw, rfl, ⟨rfl, rfl, trivial⟩, by simp⟩
theorem par_eq (i : Nat) : ((i : Int) - 1).tdiv 2 = (((i - 1) / 2 : Nat) : Int) := by
 cases i with
 | zero => rfl
 | succ i =>
  have e : ((i + 1 : Nat) : Int) - 1 = (i : Int) := by omega
  rw [e, Nat.add_sub_cancel]; rfl
theorem qagm (x : Int) (h1 : -9223372036854775808 ≤ x) (h2 : x ≤ 9223372036854775807) : IntKind.i64.wrap x = x := IntWalk.i64_in _ ⟨h1, h2⟩
theorem up_s (c : qaeq) (l : List Entry) (j : Nat) (hj : j < l.length) (hb : l.length ≤ 1000000) (hs : ∀ x ∈ l, qadk x) (q : Nat) (hq : 2 ≤ q) : SCalls Tryz.prog 157 [.ifc 176 (.ptr 0 (hoff c)), .int .i64 j] (hobj c l) q (.tup []) (hobj c (upL (j + 1) l j)) := by
 refine h_up ?_ q hq rfl rfl rfl
 obtain ⟨F, hF⟩ : ∃ F, F = upL (j + 1) l j := ⟨_, rfl⟩
 have hFl : F.length = l.length := by rw [hF]; exact (qaic _ _ _).length_eq
 rw [← hF, qad8 hFl, qad8 (c := c) (l := l) rfl]
 generalize hn : l.length = n at hj hb hFl
 replace hF := Lib.hid hF
 replace hFl := Lib.hid hFl
 replace hs := Lib.hid hs
 replace hn := Lib.hid hn
 refine qaai (N := 23) Tryz.func157 rfl rfl (by kernel_rfl) qay8 (by simp) (by repeat' (first | exact trivial | refine And.intro ?_ ?_ | rfl | decide | exact PureR.ren _)) (qajt c n l) ?_
 rintro X hP hN hm
 unfold c_hup
 show SWp X (.block 0 (.loop qaqm)) _ ⟨[(0, .ifc 176 (.ptr 0 (hoff c))), (1, .int .i64 j)], _, _⟩
 refine qabj (qacp (fun s (x : Nat × List Entry) => s.turn [(1, .int .i64 x.1)] [(1, .row 38 6 (x.2.map qaay))]) (fun x => x.1 < n ∧ x.2.length = n ∧ (∀ e ∈ x.2, qadk e) ∧ F = upL (x.1 + 1) x.2 x.1) (fun x => x.1) (j, l) ?_ ⟨hj, hn.out, hs.out, hF.out⟩ ?_)
 ·repeat' (first | exact yD | refine yE ?_ | with_reducible refine yB ?_ ?_ | exact trivial)
  all_goals exact qadf _ _ rfl
 rintro J hJ ⟨i, L⟩ ⟨h1, h2, h3, h4⟩
 unfold qaqm
 simp only [zT, puth, Nat.reduceEqDiff, reduceIte, Nat.reduceAdd] at h1 h2 h3 h4 ⊢
 rw [upL] at h4
 have e1 : ((i : Int) - 1).tdiv 2 = (((i - 1) / 2 : Nat) : Int) := par_eq i
 have w1 : IntKind.i64.wrap ((i : Int) - 1) = (i : Int) - 1 := qagm _ (by omega) (by omega)
 generalize hp : (i - 1) / 2 = p at h4 e1
 have w2 : IntKind.i64.wrap (p : Int) = (p : Int) := qagm _ (by omega) (by omega)
 have hpi : p ≤ i := by omega
 have hpl : p ≠ i → p < i := by omega
 have k1 := fun q hq => qaww c n L h2 h3 i p h1 (by omega) q hq
 have k2 := fun q hq => qaq0 c n L h2 p i (by omega) h1 q hq
 generalize hx : qahx L i p = x at h4 k1
 have hsl : (qaej L p i).length = n := by rw [qaeg, h2]
 have hss : ∀ e ∈ qaej L p i, qadk e := fun e he => h3 e ((qadm L p i).mem_iff.1 he)
 generalize qaej L p i = L2 at h4 k2 hsl hss
 replace h2 := Lib.hid h2
 replace h3 := Lib.hid h3
 replace h4 := Lib.hid h4
 replace hsl := Lib.hid hsl
 replace hss := Lib.hid hss
 have w3 : IntKind.i64.wrap (i : Int) = (i : Int) := qagm _ (by omega) (by omega)
 by_cases hip : p = i
 ·have hFL : F = L := by have := h4.out; rw [if_pos (.inl hip)] at this; exact this
  subst hFL
  repeat' (first | ((with_reducible first | refine qaao ?_ | refine qaak (by rw [hP]; exact mixed) ?_); (try rw [hP]); simp -implicitDefEqProofs [w1, w2, w3, e1, hip, *]) | ((with_reducible first | refine qaah ?_ | refine qaaj ?_); (try simp -implicitDefEqProofs [w1, w2, w3, e1, hip, *])) | ((with_reducible refine qaaa (fun h => ?_) (fun h => ?_)) <;> have h' := h <;> (try simp at h') <;> (try subst h') <;> simp -implicitDefEqProofs [w1, w2, w3, e1, hip, *]) | ((with_reducible refine qaal ?_ ?_); (first | omega | (unfold maxLen; omega)); simp -implicitDefEqProofs [w1, w2, w3, e1, hip, *]) | refine yA ?_ | with_reducible refine yB ?_ ?_ | ((with_reducible refine yC fun h => ?_); have h' := h; (try simp at h'); (try subst h')) | exact yD | refine yE ?_ | ((refine qbcv (.inr rfl) ?_)) | (exact qadf _ _ rfl) | exact trivial)
  all_goals (exfalso; omega)
 ·have hb : ((p : Int) == (i : Int)) = false := by simp; omega
  cases x
  ·have hFL : F = L := by have := h4.out; rw [if_pos (.inr rfl)] at this; exact this
   subst hFL
   repeat' (first | ((with_reducible first | refine qaao ?_ | refine qaak (by rw [hP]; exact mixed) ?_); (try rw [hP]); simp -implicitDefEqProofs [w1, w2, e1, hb, *]) | ((with_reducible first | refine qaah ?_ | refine qaaj ?_); (try simp -implicitDefEqProofs [w1, w2, e1, hb, *])) | ((with_reducible refine qaaa (fun h => ?_) (fun h => ?_)) <;> have h' := h <;> (try simp at h') <;> (try subst h') <;> simp -implicitDefEqProofs [w1, w2, e1, hb, *]) | ((with_reducible refine qaal ?_ ?_); (first | omega | (unfold maxLen; omega)); simp -implicitDefEqProofs [w1, w2, e1, hb, *]) | refine yA ?_ | with_reducible refine yB ?_ ?_ | ((with_reducible refine yC fun h => ?_); have h' := h; (try simp at h'); (try subst h')) | (refine qadl [(0, .cells (hty c) (hcs c n))] ⟨rfl, trivial⟩ (qadx qas0) (k1 _ (by simp)) ⟨rfl, rfl, trivial⟩ ⟨rfl, rfl, trivial⟩ [] (by simp) ?_; simp -implicitDefEqProofs [w1, w2, e1, hb, *]) | (refine qadl [(0, .cells (hty c) (hcs c n))] ⟨rfl, trivial⟩ (qadx qao4) (k2 _ (by simp)) ⟨rfl, rfl, trivial⟩ ⟨rfl, rfl, trivial⟩ [] (by simp) ?_; simp -implicitDefEqProofs [w1, w2, e1, hb, *]) | exact yD | refine yE ?_ | ((refine qbcv (.inr rfl) ?_)) | (exact qadf _ _ rfl) | exact trivial)
  ·have hFL : F = upL i L2 p := by have := h4.out; rw [if_neg (by simp [hip])] at this; exact this
   replace hFL := Lib.hid hFL
   repeat' (first | ((with_reducible first | refine qaao ?_ | refine qaak (by rw [hP]; exact mixed) ?_); (try rw [hP]); simp -implicitDefEqProofs [w1, w2, e1, hb, *]) | ((with_reducible first | refine qaah ?_ | refine qaaj ?_); (try simp -implicitDefEqProofs [w1, w2, e1, hb, *])) | ((with_reducible refine qaaa (fun h => ?_) (fun h => ?_)) <;> have h' := h <;> (try simp at h') <;> (try subst h') <;> simp -implicitDefEqProofs [w1, w2, e1, hb, *]) | ((with_reducible refine qaal ?_ ?_); (first | omega | (unfold maxLen; omega)); simp -implicitDefEqProofs [w1, w2, e1, hb, *]) | refine yA ?_ | with_reducible refine yB ?_ ?_ | ((with_reducible refine yC fun h => ?_); have h' := h; (try simp at h'); (try subst h')) | (refine qadl [(0, .cells (hty c) (hcs c n))] ⟨rfl, trivial⟩ (qadx qas0) (k1 _ (by simp)) ⟨rfl, rfl, trivial⟩ ⟨rfl, rfl, trivial⟩ [] (by simp) ?_; simp -implicitDefEqProofs [w1, w2, e1, hb, *]) | (refine qadl [(0, .cells (hty c) (hcs c n))] ⟨rfl, trivial⟩ (qadx qao4) (k2 _ (by simp)) ⟨rfl, rfl, trivial⟩ ⟨rfl, rfl, trivial⟩ [] (by simp) ?_; simp -implicitDefEqProofs [w1, w2, e1, hb, *]) | exact yD | refine yE ?_ | ((refine qabn hJ (p, L2) ?_ ?_ ?_; (with_reducible refine qabg [] hm ?_ ?_ ?_ ?_) <;> (try simp only [zT, puth, Nat.reduceEqDiff, reduceIte, Nat.reduceAdd]))) | (exact qadf _ _ rfl) | exact trivial)
   all_goals exact ⟨by omega, hsl.out, hss.out, by rw [hFL.out]; exact qav4 _ _ _ _ (hpl hip) (Nat.lt_succ_self _)⟩
end Go.Proofs.YtalejfkholifpaaGreat
namespace Go.Proofs.YtalejfkholifpaaGreat
set_option linter.all false
open Go.RowKit
attribute [local simp] qaas qaar qaac qaag qaad qaaf qaap qaaq qaab qaa4 SOp.run SX.ev putd puts argS upds SOp.touch SSt.keep SSt.skip gets geth puth delh idOf SV.cells? setL qab7 qab8 sbin eq0 eq1 eqL qab5 qabh qabi qaa5 qaat qaae qaau qaa6 qaam qaan FrzOk qaba qaa0 qaa8 qaa9 qaav qaaz qabe qaa1 qaax qabb qaaw frzS frzH frz frz1 frz0 SlotsM ObjsM ObjM rn ren ren1 ren0 qabp qabs qabt qabo qabf qab1 qab0 CoL qabc qabw dels adds idsH qabq
attribute [local irreducible] qab3
theorem qbcw {X : Cx} {s : SSt} {c : qaeq} {n t : Nat} {l : List Entry} {b : Bool} (hw : Wk X s ⟨[(t, .bool b)], hobn c n l, 2⟩) : QFun X [.tmp t] 2 (.bool b) (hobn c n l) .ret s := ⟨_, hw, by simp [qage, resL, resV, one_, gets], ⟨rfl, rfl, trivial⟩, by simp⟩
theorem down_s (c : qaeq) (l : List Entry) (i0 n : Nat) (hn : n ≤ l.length) (hi0 : i0 ≤ l.length) (hb : l.length ≤ 1000000) (hs : ∀ x ∈ l, qadk x) (q : Nat) (hq : 2 ≤ q) : SCalls Tryz.prog 158 [.ifc 176 (.ptr 0 (hoff c)), .int .i64 i0, .int .i64 n] (hobj c l) q (.bool (decide (i0 < (qafj (n - i0 + 1) l i0 n).2))) (hobj c (qafj (n - i0 + 1) l i0 n).1) := by
 refine h_up ?_ q hq rfl rfl rfl
 obtain ⟨F, hF⟩ : ∃ F, F = qafj (n - i0 + 1) l i0 n := ⟨_, rfl⟩
 have hFl : F.1.length = l.length := by rw [hF]; exact (qadw _ _ _ _).length_eq
 rw [← hF, qad8 hFl, qad8 (c := c) (l := l) rfl]
 generalize hN : l.length = N at hn hb hFl hi0
 replace hF := Lib.hid hF
 replace hFl := Lib.hid hFl
 replace hs := Lib.hid hs
 replace hN := Lib.hid hN
 refine qaai (N := 48) Tryz.func158 rfl rfl (by kernel_rfl) qap8 (by simp) (by repeat' (first | exact trivial | refine And.intro ?_ ?_ | rfl | decide | exact PureR.ren _)) (qajt c N l) ?_
 rintro X hP hNn hm
 unfold c_hdown
 repeat' (first | refine yA ?_ | with_reducible refine yB ?_ ?_ | ((with_reducible refine yC fun h => ?_); have h' := h; (try simp at h'); (try subst h')) | exact trivial)
 refine qabj (qacp (fun s (x : Nat × List Entry) => s.turn [(7, .int .i64 x.1)] [(1, .row 38 6 (x.2.map qaay))]) (fun x => x.1 ≤ N ∧ x.2.length = N ∧ (∀ e ∈ x.2, qadk e) ∧ F = qafj (n - x.1 + 1) x.2 x.1 n) (fun x => N - x.1) (i0, l) ?_ ⟨hi0, hN.out, hs.out, hF.out⟩ ?_)
 ·repeat' (first | exact yD | refine yE ?_ | with_reducible refine yB ?_ ?_ | exact trivial)
  all_goals exact qadf _ _ rfl
 rintro J hJ ⟨i, L⟩ ⟨h1, h2, h3, h4⟩
 unfold qans
 simp only [zT, puth, Nat.reduceEqDiff, reduceIte, Nat.reduceAdd] at h1 h2 h3 h4 ⊢
 rw [qafj] at h4
 have w0 : IntKind.i64.wrap (2 * (i : Int)) = 2 * (i : Int) := qagm _ (by omega) (by omega)
 have w1 : IntKind.i64.wrap (2 * (i : Int) + 1) = 2 * (i : Int) + 1 := qagm _ (by omega) (by omega)
 have w2 : IntKind.i64.wrap (2 * (i : Int) + 1 + 1) = 2 * (i : Int) + 1 + 1 := qagm _ (by omega) (by omega)
 have hneg : ¬ (2 * (i : Int) + 1 < 0) := by omega
 rcases Nat.lt_or_ge (2 * i + 1) n with hj | hj
 ·have hng : ¬ ((n : Int) ≤ 2 * (i : Int) + 1) := by omega
  have hsn := qalj L i n hj
  have hm1 : ((2 * i + 1 : Nat) : Int) = 2 * (i : Int) + 1 := by omega
  have hm2 : ((2 * i + 1 + 1 : Nat) : Int) = 2 * (i : Int) + 1 + 1 := by omega
  have k0 : 2 * i + 1 + 1 < n → ∀ q, 2 ≤ q → SCalls Tryz.prog 164 [.own 1 N, .int .i64 (2 * (i : Int) + 1 + 1), .int .i64 (2 * (i : Int) + 1)] (hobn c N L) q (.bool (qahx L (2 * i + 1 + 1) (2 * i + 1))) (hobn c N L) := fun h q hq => by
   rw [← hm2, ← hm1]
   exact qaww c N L h2 h3 (2 * i + 1 + 1) (2 * i + 1) (by omega) (by omega) q hq
  have k1 : ∀ q, 2 ≤ q → _ := fun q hq => qaww c N L h2 h3 (sonL L i n) i (by omega) (by omega) q hq
  have k2 : ∀ q, 2 ≤ q → _ := fun q hq => qaq0 c N L h2 i (sonL L i n) (by omega) (by omega) q hq
  have hsl : (qaej L i (sonL L i n)).length = N := by rw [qaeg, h2]
  have hss : ∀ e ∈ qaej L i (sonL L i n), qadk e := fun e he => h3 e ((qadm _ _ _).mem_iff.1 he)
  generalize qaej L i (sonL L i n) = L2 at h4 k2 hsl hss
  have hcase : (2 * i + 1 + 1 < n ∧ qahx L (2 * i + 1 + 1) (2 * i + 1) = true ∧ sonL L i n = 2 * i + 1 + 1) ∨ (2 * i + 1 + 1 < n ∧ qahx L (2 * i + 1 + 1) (2 * i + 1) = false ∧ sonL L i n = 2 * i + 1) ∨ (¬ 2 * i + 1 + 1 < n ∧ sonL L i n = 2 * i + 1) := by
   unfold sonL
   by_cases hA : 2 * i + 1 + 1 < n
   ·cases hx : qahx L (2 * i + 1 + 1) (2 * i + 1)
    ·exact .inr (.inl ⟨hA, rfl, by rw [if_neg (by simp)]⟩)
    ·exact .inl ⟨hA, rfl, by rw [if_pos ⟨hA, rfl⟩]⟩
   ·exact .inr (.inr ⟨hA, by rw [if_neg fun h => hA h.1]⟩)
  have h5 : F = if qahx L (sonL L i n) i = false then (L, i) else qafj (n - sonL L i n + 1) L2 (sonL L i n) n := by
   rw [h4]
   by_cases hy : qahx L (sonL L i n) i = false
   ·rw [if_pos (.inr hy), if_pos hy]
   ·rw [if_neg (fun h => h.elim (by omega) hy), if_neg hy]; exact qamh _ _ _ _ _ (by omega) (by omega)
  generalize hy : qahx L (sonL L i n) i = y at h5 k1
  replace h2 := Lib.hid h2
  replace h3 := Lib.hid h3
  replace hsl := Lib.hid hsl
  replace hss := Lib.hid hss
  clear h4 hy
  have fin1 : y = false → F = (L, i) := fun e => by rw [h5, if_pos e]
  have fin2 : y = true → F = qafj (n - sonL L i n + 1) L2 (sonL L i n) n := fun e => by rw [h5, e, if_neg (by decide)]
  clear h5
  rcases hcase with ⟨hA, hx, hs0⟩ | ⟨hA, hx, hs0⟩ | ⟨hA, hs0⟩
  all_goals
   rw [hs0] at k1 k2
   first | (replace k0 := k0 hA; rw [hx] at k0) | clear k0
   first | (have hB : 2 * (i : Int) + 1 + 1 < n := by omega) | (have hB : ¬ (2 * (i : Int) + 1 + 1 < n) := by omega)
   first | rw [hm2] at k1 k2 | rw [hm1] at k1 k2
   cases y
   ·obtain rfl := fin1 rfl
    clear fin2
    repeat' (first | ((with_reducible first | refine qaao ?_ | refine qaak (by rw [hP]; exact mixed) ?_); (try rw [hP]); simp -implicitDefEqProofs [w0, w1, w2, hng, hneg, *]) | ((with_reducible first | refine qaah ?_ | refine qaaj ?_); (try simp -implicitDefEqProofs [w0, w1, w2, hng, hneg, *])) | ((with_reducible refine qaaa (fun h => ?_) (fun h => ?_)) <;> have h' := h <;> (try simp at h') <;> (try subst h') <;> simp -implicitDefEqProofs [w0, w1, w2, hng, hneg, *]) | ((with_reducible refine qaal ?_ ?_); (first | omega | (unfold maxLen; omega)); simp -implicitDefEqProofs [w0, w1, w2, hng, hneg, *]) | refine yA ?_ | with_reducible refine yB ?_ ?_ | ((with_reducible refine yC fun h => ?_); have h' := h; (try simp at h'); (try subst h')) | (refine qadl [(0, .cells (hty c) (hcs c N))] ⟨rfl, trivial⟩ (qadx qas0) (k0 _ (by simp)) ⟨rfl, rfl, trivial⟩ ⟨rfl, rfl, trivial⟩ [] (by simp) ?_; simp -implicitDefEqProofs [w0, w1, w2, hng, hneg, *]) | (refine qadl [(0, .cells (hty c) (hcs c N))] ⟨rfl, trivial⟩ (qadx qas0) (k1 _ (by simp)) ⟨rfl, rfl, trivial⟩ ⟨rfl, rfl, trivial⟩ [] (by simp) ?_; simp -implicitDefEqProofs [w0, w1, w2, hng, hneg, *]) | (refine qadl [(0, .cells (hty c) (hcs c N))] ⟨rfl, trivial⟩ (qadx qao4) (k2 _ (by simp)) ⟨rfl, rfl, trivial⟩ ⟨rfl, rfl, trivial⟩ [] (by simp) ?_; simp -implicitDefEqProofs [w0, w1, w2, hng, hneg, *]) | exact yD | refine yE ?_ | ((refine qbcw ?_)) | (exact qadf _ _ rfl) | exact trivial)
   ·replace fin2 := Lib.hid (fin2 rfl)
    clear fin1
    repeat' (first | ((with_reducible first | refine qaao ?_ | refine qaak (by rw [hP]; exact mixed) ?_); (try rw [hP]); simp -implicitDefEqProofs [w0, w1, w2, hng, hneg, *]) | ((with_reducible first | refine qaah ?_ | refine qaaj ?_); (try simp -implicitDefEqProofs [w0, w1, w2, hng, hneg, *])) | ((with_reducible refine qaaa (fun h => ?_) (fun h => ?_)) <;> have h' := h <;> (try simp at h') <;> (try subst h') <;> simp -implicitDefEqProofs [w0, w1, w2, hng, hneg, *]) | ((with_reducible refine qaal ?_ ?_); (first | omega | (unfold maxLen; omega)); simp -implicitDefEqProofs [w0, w1, w2, hng, hneg, *]) | refine yA ?_ | with_reducible refine yB ?_ ?_ | ((with_reducible refine yC fun h => ?_); have h' := h; (try simp at h'); (try subst h')) | (refine qadl [(0, .cells (hty c) (hcs c N))] ⟨rfl, trivial⟩ (qadx qas0) (k0 _ (by simp)) ⟨rfl, rfl, trivial⟩ ⟨rfl, rfl, trivial⟩ [] (by simp) ?_; simp -implicitDefEqProofs [w0, w1, w2, hng, hneg, *]) | (refine qadl [(0, .cells (hty c) (hcs c N))] ⟨rfl, trivial⟩ (qadx qas0) (k1 _ (by simp)) ⟨rfl, rfl, trivial⟩ ⟨rfl, rfl, trivial⟩ [] (by simp) ?_; simp -implicitDefEqProofs [w0, w1, w2, hng, hneg, *]) | (refine qadl [(0, .cells (hty c) (hcs c N))] ⟨rfl, trivial⟩ (qadx qao4) (k2 _ (by simp)) ⟨rfl, rfl, trivial⟩ ⟨rfl, rfl, trivial⟩ [] (by simp) ?_; simp -implicitDefEqProofs [w0, w1, w2, hng, hneg, *]) | exact yD | refine yE ?_ | ((refine qabn hJ (sonL L i n, L2) ?_ ?_ ?_; (with_reducible refine qabg [] hm ?_ ?_ ?_ ?_) <;> (try simp only [zT, puth, Nat.reduceEqDiff, reduceIte, Nat.reduceAdd]))) | (exact qadf _ _ rfl) | exact trivial)
    all_goals exact ⟨by omega, hsl.out, hss.out, fin2.out⟩
 ·have hge : ((n : Int) ≤ 2 * (i : Int) + 1) := by omega
  obtain rfl : F = (L, i) := by rw [h4, if_pos (.inl hj)]
  clear h4
  repeat' (first | ((with_reducible first | refine qaao ?_ | refine qaak (by rw [hP]; exact mixed) ?_); (try rw [hP]); simp -implicitDefEqProofs [w0, w1, w2, hge, *]) | ((with_reducible first | refine qaah ?_ | refine qaaj ?_); (try simp -implicitDefEqProofs [w0, w1, w2, hge, *])) | ((with_reducible refine qaaa (fun h => ?_) (fun h => ?_)) <;> have h' := h <;> (try simp at h') <;> (try subst h') <;> simp -implicitDefEqProofs [w0, w1, w2, hge, *]) | ((with_reducible refine qaal ?_ ?_); (first | omega | (unfold maxLen; omega)); simp -implicitDefEqProofs [w0, w1, w2, hge, *]) | refine yA ?_ | with_reducible refine yB ?_ ?_ | ((with_reducible refine yC fun h => ?_); have h' := h; (try simp at h'); (try subst h')) | exact yD | refine yE ?_ | ((refine qbcw ?_)) | (exact qadf _ _ rfl) | exact trivial)
end Go.Proofs.YtalejfkholifpaaGreat
namespace Go.Proofs.YtalejfkholifpaaGreat
set_option linter.all false
open Go.RowKit
attribute [local simp] qaas qaar qaac qaag qaad qaaf qaap qaaq qaab qaa4 SOp.run SX.ev putd puts argS upds SOp.touch SSt.keep SSt.skip gets geth puth delh idOf SV.cells? setL qab7 qab8 sbin eq0 eq1 eqL qab5 qabh qabi qaa5 qaat qaae qaau qaa6 qaam qaan FrzOk qaba qaa0 qaa8 qaa9 qaav qaaz qabe qaa1 qaax qabb qaaw frzS frzH frz frz1 frz0 SlotsM ObjsM ObjM rn ren ren1 ren0 qabp qabs qabt qabo qabf qab1 qab0 CoL qabc qabw dels adds idsH qabq
attribute [local irreducible] qab3
def popL (l : List Entry) : List Entry := (qafj (l.length - 1 - 0 + 1) (qaej l 0 (l.length - 1)) 0 (l.length - 1)).1
def remL (l : List Entry) (i : Nat) : List Entry := if l.length - 1 = i then l else
 if i < (qafj (l.length - 1 - i + 1) (qaej l i (l.length - 1)) i (l.length - 1)).2 then (qafj (l.length - 1 - i + 1) (qaej l i (l.length - 1)) i (l.length - 1)).1
 else upL (i + 1) (qafj (l.length - 1 - i + 1) (qaej l i (l.length - 1)) i (l.length - 1)).1 i
theorem qadg (l : List Entry) : (popL l).Perm l := (qadw _ _ _ _).trans (qadm _ _ _)
theorem qafv (l : List Entry) (i : Nat) : (remL l i).Perm l := by
 unfold remL
 split
 ·exact .refl _
 ·split
  ·exact (qadw _ _ _ _).trans (qadm _ _ _)
  ·exact (qaic _ _ _).trans ((qadw _ _ _ _).trans (qadm _ _ _))
theorem qaro {X : Cx} {s : SSt} {c : qaeq} {n t : Nat} {l : List Entry} {e : Entry} (hw : Wk X s ⟨[(t, .ifc 38 (.agg (qaay e)))], hobn c n l, 2⟩) : QFun X [.tmp t] 2 (.ifc 38 (.agg (qaay e))) (hobn c n l) .ret s := ⟨_, hw, by simp [qage, resL, resV, one_, gets], ⟨rfl, rfl, trivial⟩, by simp⟩
theorem qbdt (c : qaeq) (n : Nat) (l : List Entry) (hl : l.length = n) (q : Nat) (hq : 2 ≤ q) : SCalls Tryz.prog 163 [.own 1 n] (hobn c n l) q (.int .i64 n) (hobn c n l) := by subst hl; exact rlen_s c l q hq
theorem rpop_n (c : qaeq) (n : Nat) (l L : List Entry) (x : Entry) (h : l = L ++ [x]) (hl : L.length = n) (hb : n + 1 ≤ 1000000) (q : Nat) (hq : 2 ≤ q) : SCalls Tryz.prog 167 [.ptr 0 (hoff c)] (hobn c (n + 1) l) q (.ifc 38 (.agg (qaay x))) (hobn c n L) := by
 subst h hl
 have := rpop_s c L x hb q hq
 rw [qad8 (c := c) (n := L.length + 1) (l := L ++ [x]) (by simp)] at this
 exact this
theorem up_n (c : qaeq) (n : Nat) (l : List Entry) (hl : l.length = n) (j : Nat) (hj : j < n) (hb : n ≤ 1000000) (hs : ∀ x ∈ l, qadk x) (q : Nat) (hq : 2 ≤ q) : SCalls Tryz.prog 157 [.ifc 176 (.ptr 0 (hoff c)), .int .i64 j] (hobn c n l) q (.tup []) (hobn c n (upL (j + 1) l j)) := by
 have := up_s c l j (by omega) (by omega) hs q hq
 rw [qad8 hl, qad8 (c := c) (n := n) (l := upL (j + 1) l j) (by rw [(qaic _ _ _).length_eq, hl])] at this
 exact this
theorem down_n (c : qaeq) (N : Nat) (l : List Entry) (hl : l.length = N) (i n : Nat) (hn : n ≤ N) (hi : i ≤ N) (hb : N ≤ 1000000) (hs : ∀ x ∈ l, qadk x) (q : Nat) (hq : 2 ≤ q) : SCalls Tryz.prog 158 [.ifc 176 (.ptr 0 (hoff c)), .int .i64 i, .int .i64 n] (hobn c N l) q (.bool (decide (i < (qafj (n - i + 1) l i n).2))) (hobn c N (qafj (n - i + 1) l i n).1) := by
 have := down_s c l i n (by omega) (by omega) (by omega) hs q hq
 rw [qad8 hl, qad8 (c := c) (n := N) (l := (qafj (n - i + 1) l i n).1) (by rw [(qadw _ _ _ _).length_eq, hl])] at this
 exact this
theorem hpop_s (c : qaeq) (l L : List Entry) (x : Entry) (h : popL l = L ++ [x]) (hb : l.length ≤ 1000000) (hs : ∀ x ∈ l, qadk x) (q : Nat) (hq : 2 ≤ q) : SCalls Tryz.prog 152 [.ifc 176 (.ptr 0 (hoff c))] (hobj c l) q (.ifc 38 (.agg (qaay x))) (hobj c L) := by
 refine h_up ?_ q hq rfl rfl rfl
 have hl : l.length = L.length + 1 := by rw [← (qadg l).length_eq, h]; simp
 unfold popL at h
 generalize hn : L.length = n at hl
 rw [hl, Nat.add_sub_cancel] at h
 rw [qad8 hl, qad8 hn]
 have k1 := fun q hq => qbdt c (n + 1) l hl q hq
 have k2 := fun q hq => qaq0 c (n + 1) l hl 0 n (by omega) (by omega) q hq
 have hsl : (qaej l 0 n).length = n + 1 := by rw [qaeg, hl]
 have hss : ∀ e ∈ qaej l 0 n, qadk e := fun e he => hs e ((qadm _ _ _).mem_iff.1 he)
 have k3 := fun q hq => down_n c (n + 1) (qaej l 0 n) hsl 0 n (by omega) (by omega) (by omega) hss q hq
 rw [h] at k3
 have k4 := fun q hq => rpop_n c n (L ++ [x]) L x rfl hn (by omega) q hq
 generalize decide (0 < (qafj (n - 0 + 1) (qaej l 0 n) 0 n).2) = y at k3
 generalize qaej l 0 n = l1 at k2 k3
 generalize L ++ [x] = l2 at k3 k4
 have w1 : IntKind.i64.wrap (n : Int) = n := qagm _ (by omega) (by omega)
 clear h hs hss hsl
 replace hl := Lib.hid hl
 replace hn := Lib.hid hn
 refine qaai (N := 15) Tryz.func152 rfl rfl (by kernel_rfl) qatv (by simp) (by repeat' (first | exact trivial | refine And.intro ?_ ?_ | rfl | decide | exact PureR.ren _)) (qajt c (n + 1) l) ?_
 rintro X hP hN hm
 unfold c_hpop
 repeat' (first | ((with_reducible first | refine qaao ?_ | refine qaak (by rw [hP]; exact mixed) ?_); (try rw [hP]); simp -implicitDefEqProofs [w1, *]) | ((with_reducible first | refine qaah ?_ | refine qaaj ?_); (try simp -implicitDefEqProofs [w1, *])) | ((with_reducible refine qaaa (fun h => ?_) (fun h => ?_)) <;> have h' := h <;> (try simp at h') <;> (try subst h') <;> simp -implicitDefEqProofs [w1, *]) | ((with_reducible refine qaal ?_ ?_); (first | omega | (unfold maxLen; omega)); simp -implicitDefEqProofs [w1, *]) | refine yA ?_ | with_reducible refine yB ?_ ?_ | ((with_reducible refine yC fun h => ?_); have h' := h; (try simp at h'); (try subst h')) | (refine qadl [(0, .cells (hty c) (hcs c (n + 1)))] ⟨rfl, trivial⟩ (qadx m_len) (k1 _ (by simp)) ⟨rfl, rfl, trivial⟩ ⟨rfl, rfl, trivial⟩ [] (by simp) ?_; simp -implicitDefEqProofs [w1, *]) | (refine qadl [(0, .cells (hty c) (hcs c (n + 1)))] ⟨rfl, trivial⟩ (qadx qao4) (k2 _ (by simp)) ⟨rfl, rfl, trivial⟩ ⟨rfl, rfl, trivial⟩ [] (by simp) ?_; simp -implicitDefEqProofs [w1, *]) | (refine qae4 (k3 _ (by simp)) ⟨rfl, rfl, trivial⟩ ⟨rfl, rfl, trivial⟩ [] (by simp) ?_; simp -implicitDefEqProofs [w1, *]) | (refine qadl [] trivial (qag9 m_pop qbhk) (k4 _ (by simp)) ⟨rfl, rfl, trivial⟩ ⟨rfl, rfl, trivial⟩ [] (by simp) ?_; simp -implicitDefEqProofs [w1, *]) | exact yD | refine yE ?_ | ((refine qaro ?_)) | (exact qadf _ _ rfl) | exact trivial)
theorem hrem_s (c : qaeq) (l L : List Entry) (i : Nat) (hi : i < l.length) (x : Entry) (h : remL l i = L ++ [x]) (hb : l.length ≤ 1000000) (hs : ∀ x ∈ l, qadk x) (q : Nat) (hq : 2 ≤ q) : SCalls Tryz.prog 153 [.ifc 176 (.ptr 0 (hoff c)), .int .i64 i] (hobj c l) q (.ifc 38 (.agg (qaay x))) (hobj c L) := by
 refine h_up ?_ q hq rfl rfl rfl
 have hl : l.length = L.length + 1 := by rw [← (qafv l i).length_eq, h]; simp
 unfold remL at h
 generalize hn : L.length = n at hl
 rw [hl, Nat.add_sub_cancel] at h
 rw [qad8 hl, qad8 hn]
 have w1 : IntKind.i64.wrap (n : Int) = n := qagm _ (by omega) (by omega)
 have k1 := fun q hq => qbdt c (n + 1) l hl q hq
 have k4 := fun q hq => rpop_n c n (L ++ [x]) L x rfl hn (by omega) q hq
 by_cases hni : n = i
 ·rw [if_pos hni] at h
  subst hni
  rw [← h] at k4
  clear h hs
  replace hl := Lib.hid hl
  replace hn := Lib.hid hn
  refine qaai (N := 26) Tryz.func153 rfl rfl (by kernel_rfl) qahl (by simp) (by repeat' (first | exact trivial | refine And.intro ?_ ?_ | rfl | decide | exact PureR.ren _)) (qajt c (n + 1) l) ?_
  rintro X hP hN hm
  unfold c_hrem
  repeat' (first | ((with_reducible first | refine qaao ?_ | refine qaak (by rw [hP]; exact mixed) ?_); (try rw [hP]); simp -implicitDefEqProofs [w1, *]) | ((with_reducible first | refine qaah ?_ | refine qaaj ?_); (try simp -implicitDefEqProofs [w1, *])) | ((with_reducible refine qaaa (fun h => ?_) (fun h => ?_)) <;> have h' := h <;> (try simp at h') <;> (try subst h') <;> simp -implicitDefEqProofs [w1, *]) | ((with_reducible refine qaal ?_ ?_); (first | omega | (unfold maxLen; omega)); simp -implicitDefEqProofs [w1, *]) | refine yA ?_ | with_reducible refine yB ?_ ?_ | ((with_reducible refine yC fun h => ?_); have h' := h; (try simp at h'); (try subst h')) | (refine qadl [(0, .cells (hty c) (hcs c (n + 1)))] ⟨rfl, trivial⟩ (qadx m_len) (k1 _ (by simp)) ⟨rfl, rfl, trivial⟩ ⟨rfl, rfl, trivial⟩ [] (by simp) ?_; simp -implicitDefEqProofs [w1, *]) | (refine qadl [] trivial (qag9 m_pop qbhk) (k4 _ (by simp)) ⟨rfl, rfl, trivial⟩ ⟨rfl, rfl, trivial⟩ [] (by simp) ?_; simp -implicitDefEqProofs [w1, *]) | exact yD | refine yE ?_ | ((refine qaro ?_)) | (exact qadf _ _ rfl) | exact trivial)
 ·rw [if_neg hni] at h
  have k2 := fun q hq => qaq0 c (n + 1) l hl i n (by omega) (by omega) q hq
  have hsl : (qaej l i n).length = n + 1 := by rw [qaeg, hl]
  have hss : ∀ e ∈ qaej l i n, qadk e := fun e he => hs e ((qadm _ _ _).mem_iff.1 he)
  have k3 := fun q hq => down_n c (n + 1) (qaej l i n) hsl i n (by omega) (by omega) (by omega) hss q hq
  have hdl : (qafj (n - i + 1) (qaej l i n) i n).1.length = n + 1 := by rw [(qadw _ _ _ _).length_eq, hsl]
  have hds : ∀ e ∈ (qafj (n - i + 1) (qaej l i n) i n).1, qadk e := fun e he => hss e ((qadw _ _ _ _).mem_iff.1 he)
  generalize qaej l i n = l1 at k2 k3 h hdl hds
  generalize qafj (n - i + 1) l1 i n = d at k3 h hdl hds
  have k5 := fun q hq => up_n c (n + 1) d.1 hdl i (by omega) (by omega) hds q hq
  have hb1 : ((n : Int) == (i : Int)) = false := by simp; omega
  generalize d.1 = l2 at k3 k5 h
  clear hs hsl hss hdl hds
  replace hl := Lib.hid hl
  replace hn := Lib.hid hn
  by_cases hy : i < d.2
  ·rw [if_pos hy] at h
   rw [decide_eq_true hy] at k3
   rw [← h] at k4
   clear k5 hy h
   refine qaai (N := 26) Tryz.func153 rfl rfl (by kernel_rfl) qahl (by simp) (by repeat' (first | exact trivial | refine And.intro ?_ ?_ | rfl | decide | exact PureR.ren _)) (qajt c (n + 1) l) ?_
   rintro X hP hN hm
   unfold c_hrem
   repeat' (first | ((with_reducible first | refine qaao ?_ | refine qaak (by rw [hP]; exact mixed) ?_); (try rw [hP]); simp -implicitDefEqProofs [w1, hb1, hni, *]) | ((with_reducible first | refine qaah ?_ | refine qaaj ?_); (try simp -implicitDefEqProofs [w1, hb1, hni, *])) | ((with_reducible refine qaaa (fun h => ?_) (fun h => ?_)) <;> have h' := h <;> (try simp at h') <;> (try subst h') <;> simp -implicitDefEqProofs [w1, hb1, hni, *]) | ((with_reducible refine qaal ?_ ?_); (first | omega | (unfold maxLen; omega)); simp -implicitDefEqProofs [w1, hb1, hni, *]) | refine yA ?_ | with_reducible refine yB ?_ ?_ | ((with_reducible refine yC fun h => ?_); have h' := h; (try simp at h'); (try subst h')) | (refine qadl [(0, .cells (hty c) (hcs c (n + 1)))] ⟨rfl, trivial⟩ (qadx m_len) (k1 _ (by simp)) ⟨rfl, rfl, trivial⟩ ⟨rfl, rfl, trivial⟩ [] (by simp) ?_; simp -implicitDefEqProofs [w1, hb1, hni, *]) | (refine qadl [(0, .cells (hty c) (hcs c (n + 1)))] ⟨rfl, trivial⟩ (qadx qao4) (k2 _ (by simp)) ⟨rfl, rfl, trivial⟩ ⟨rfl, rfl, trivial⟩ [] (by simp) ?_; simp -implicitDefEqProofs [w1, hb1, hni, *]) | (refine qae4 (k3 _ (by simp)) ⟨rfl, rfl, trivial⟩ ⟨rfl, rfl, trivial⟩ [] (by simp) ?_; simp -implicitDefEqProofs [w1, hb1, hni, *]) | (refine qadl [] trivial (qag9 m_pop qbhk) (k4 _ (by simp)) ⟨rfl, rfl, trivial⟩ ⟨rfl, rfl, trivial⟩ [] (by simp) ?_; simp -implicitDefEqProofs [w1, hb1, hni, *]) | exact yD | refine yE ?_ | ((refine qaro ?_)) | (exact qadf _ _ rfl) | exact trivial)
   all_goals (exfalso; omega)
  ·rw [if_neg hy] at h
   rw [decide_eq_false hy] at k3
   rw [h] at k5
   generalize L ++ [x] = l3 at k4 k5
   clear h hy
   refine qaai (N := 26) Tryz.func153 rfl rfl (by kernel_rfl) qahl (by simp) (by repeat' (first | exact trivial | refine And.intro ?_ ?_ | rfl | decide | exact PureR.ren _)) (qajt c (n + 1) l) ?_
   rintro X hP hN hm
   unfold c_hrem
   repeat' (first | ((with_reducible first | refine qaao ?_ | refine qaak (by rw [hP]; exact mixed) ?_); (try rw [hP]); simp -implicitDefEqProofs [w1, hb1, hni, *]) | ((with_reducible first | refine qaah ?_ | refine qaaj ?_); (try simp -implicitDefEqProofs [w1, hb1, hni, *])) | ((with_reducible refine qaaa (fun h => ?_) (fun h => ?_)) <;> have h' := h <;> (try simp at h') <;> (try subst h') <;> simp -implicitDefEqProofs [w1, hb1, hni, *]) | ((with_reducible refine qaal ?_ ?_); (first | omega | (unfold maxLen; omega)); simp -implicitDefEqProofs [w1, hb1, hni, *]) | refine yA ?_ | with_reducible refine yB ?_ ?_ | ((with_reducible refine yC fun h => ?_); have h' := h; (try simp at h'); (try subst h')) | (refine qadl [(0, .cells (hty c) (hcs c (n + 1)))] ⟨rfl, trivial⟩ (qadx m_len) (k1 _ (by simp)) ⟨rfl, rfl, trivial⟩ ⟨rfl, rfl, trivial⟩ [] (by simp) ?_; simp -implicitDefEqProofs [w1, hb1, hni, *]) | (refine qadl [(0, .cells (hty c) (hcs c (n + 1)))] ⟨rfl, trivial⟩ (qadx qao4) (k2 _ (by simp)) ⟨rfl, rfl, trivial⟩ ⟨rfl, rfl, trivial⟩ [] (by simp) ?_; simp -implicitDefEqProofs [w1, hb1, hni, *]) | (refine qae4 (k3 _ (by simp)) ⟨rfl, rfl, trivial⟩ ⟨rfl, rfl, trivial⟩ [] (by simp) ?_; simp -implicitDefEqProofs [w1, hb1, hni, *]) | (refine qae4 (k5 _ (by simp)) ⟨rfl, rfl, trivial⟩ ⟨rfl, rfl, trivial⟩ [] (by simp) ?_; simp -implicitDefEqProofs [w1, hb1, hni, *]) | (refine qadl [] trivial (qag9 m_pop qbhk) (k4 _ (by simp)) ⟨rfl, rfl, trivial⟩ ⟨rfl, rfl, trivial⟩ [] (by simp) ?_; simp -implicitDefEqProofs [w1, hb1, hni, *]) | exact yD | refine yE ?_ | ((refine qaro ?_)) | (exact qadf _ _ rfl) | exact trivial)
   all_goals (exfalso; omega)
end Go.Proofs.YtalejfkholifpaaGreat
namespace Go.Proofs.YtalejfkholifpaaGreat
set_option linter.all false
open Go.RowKit
attribute [local simp] qaas qaar qaac qaag qaad qaaf qaap qaaq qaab qaa4 SOp.run SX.ev putd puts argS upds SOp.touch SSt.keep SSt.skip gets geth puth delh idOf SV.cells? setL qab7 qab8 sbin eq0 eq1 eqL qab5 qabh qabi qaa5 qaat qaae qaau qaa6 qaam qaan FrzOk qaba qaa0 qaa8 qaa9 qaav qaaz qabe qaa1 qaax qabb qaaw frzS frzH frz frz1 frz0 SlotsM ObjsM ObjM rn ren ren1 ren0 qabp qabs qabt qabo qabf qab1 qab0 CoL qabc qabw dels adds idsH qabq
attribute [local irreducible] qab3
def qasl (l : List Entry) (e : Entry) : List Entry := upL (l.length + 1) (l ++ [e]) l.length
theorem qaez (l : List Entry) (e : Entry) : (qasl l e).Perm (l ++ [e]) := qaic _ _ _
theorem qajm {P : Program} {f : FuncId} {args : List SV} {I1 I2 : AbsI} {r : SV} (h : SCalls P f args [(0, .abs I1)] 1 r [(0, .abs I2)]) (ha : ∀ σ : Nat → Nat, σ 0 = 0 → args.map (Go.Proofs.YtalejfkholifpaaGreat.ren σ) = args) (hr : ∀ σ : Nat → Nat, σ 0 = 0 → Go.Proofs.YtalejfkholifpaaGreat.ren σ r = r) (hk : ok2 r = true) (q : Nat) (hq : 0 < q) : SCalls P f args [(0, .abs I1)] q r [(0, .abs I2)] := by
 have e0 : sg [0] q 0 = 0 := rfl
 exact qadd [0] h rfl (by simp) (by simp; omega) (ha _ e0).symm ⟨⟨.abs I1, by rw [e0]; simp [geth], rfl⟩, trivial⟩ (by simp [idsH]) (hr _ e0).symm hk ⟨⟨.abs I2, by rw [e0]; simp [geth], rfl⟩, trivial⟩ (by simp [idsH]) (by simp [idsH, e0])
theorem hpush_s (c : qaeq) (l : List Entry) (e : Entry) (hl : l.length < 1000000) (hs : ∀ x ∈ l, qadk x) (he : qadk e) : SCalls Tryz.prog 149 [.ifc 176 (.ptr 0 (hoff c)), .ifc 38 (.agg (qaay e))] [(0, .abs (qady c l))] 1 (.tup []) [(0, .abs (qady c (qasl l e)))] := by
 have k1 := fun q hq => qajm (rpush_s c l e hl) (fun σ h => by simp [Go.Proofs.YtalejfkholifpaaGreat.ren, ren1, ren0, h, renA, renB, qaay, nums]) (fun σ h => rfl) rfl q hq
 have hn : (l ++ [e]).length = l.length + 1 := by simp
 have hss : ∀ x ∈ l ++ [e], qadk x := fun x hx => by
  rcases List.mem_append.1 hx with h | h
  ·exact hs x h
  ·rw [List.mem_singleton.1 h]; exact he
 have k2 := fun q hq => qbdt c (l.length + 1) (l ++ [e]) hn q hq
 have k3 := fun q hq => up_n c (l.length + 1) (l ++ [e]) hn l.length (by omega) (by omega) hss q hq
 have w1 : IntKind.i64.wrap (l.length : Int) = l.length := qagm _ (by omega) (by omega)
 have hpl : (qasl l e).length = l.length + 1 := by rw [(qaez l e).length_eq, hn]
 rw [show upL (l.length + 1) (l ++ [e]) l.length = qasl l e from rfl] at k3
 generalize qasl l e = L2 at k3 hpl
 generalize l.length = n at k2 k3 w1 hpl hn
 generalize l ++ [e] = L1 at k1 k2 k3 hn
 refine qaai (N := 12) Tryz.func149 rfl rfl (by kernel_rfl) qap7 (by simp) (by repeat' (first | exact trivial | refine And.intro ?_ ?_ | rfl | decide | exact PureR.ren _)) (by repeat' (first | exact trivial | refine And.intro ?_ ?_ | rfl | decide | exact PureR.ren _)) ?_
 rintro X hP hN hm
 unfold c_hpush
 repeat' (first | ((with_reducible refine qaif (c := .reg false qanr []) ?_)) | refine yA ?_ | with_reducible refine yB ?_ ?_ | ((with_reducible refine yC fun h => ?_); have h' := h; (try simp at h'); (try subst h')) | refine qadl [] trivial (qag9 m_push qbhk) (k1 _ (by simp)) ⟨rfl, trivial⟩ ⟨rfl, trivial⟩ [] (by simp) ?_ | exact trivial)
 constructor
 refine qasd (s' := ⟨[(0, .ifc 176 (.ptr 0 (hoff c)))], [(0, .abs (qady c L1))], 1⟩) (qabg [] hm ⟨Co.refl _, trivial⟩ ⟨⟨_, rfl, rfl⟩, trivial⟩ rfl (Nat.le_refl _)) ?_
 refine qafk (by omega) (by decide) (qagw c L1) fun hh h => ?_
 subst h
 rw [qad8 hn]
 replace hn := Lib.hid hn
 replace hpl := Lib.hid hpl
 repeat' (first | ((with_reducible first | refine qaao ?_ | refine qaak (by rw [hP]; exact mixed) ?_); (try rw [hP]); simp -implicitDefEqProofs [w1, *]) | ((with_reducible first | refine qaah ?_ | refine qaaj ?_); (try simp -implicitDefEqProofs [w1, *])) | ((with_reducible refine qaaa (fun h => ?_) (fun h => ?_)) <;> have h' := h <;> (try simp at h') <;> (try subst h') <;> simp -implicitDefEqProofs [w1, *]) | ((with_reducible refine qaal ?_ ?_); (first | omega | (unfold maxLen; omega)); simp -implicitDefEqProofs [w1, *]) | refine yA ?_ | with_reducible refine yB ?_ ?_ | ((with_reducible refine yC fun h => ?_); have h' := h; (try simp at h'); (try subst h')) | (refine qadl [(0, .cells (hty c) (hcs c (n + 1)))] ⟨rfl, trivial⟩ (qadx m_len) (k2 _ (by simp)) ⟨rfl, rfl, trivial⟩ ⟨rfl, rfl, trivial⟩ [] (by simp) ?_; simp -implicitDefEqProofs [w1, *]) | (refine qae4 (k3 _ (by simp)) ⟨rfl, rfl, trivial⟩ ⟨rfl, rfl, trivial⟩ [] (by simp) ?_; simp -implicitDefEqProofs [w1, *]) | exact yD | refine yE ?_ | ((refine qbcx (.inr rfl) hm ?_; rw [qad8 hpl.out])) | (exact qadf _ _ rfl) | exact trivial)
 all_goals trace_state
end Go.Proofs.YtalejfkholifpaaGreat
namespace Go.Proofs.YtalejfkholifpaaGreat
set_option linter.all false
open Go.RowKit
def leE (a b : Entry) : Prop := ordE a b ≤ 0
theorem qaq7 (a b : Entry) : ordE a b = if cmpI a.prio b.prio ≠ 0 then cmpI a.prio b.prio else if cmpL a.keys b.keys ≠ 0 then cmpL a.keys b.keys else cmpL a.masks b.masks := by
 unfold ordE
 simp only [orL]
 split
 ·rfl
 ·split
  ·rfl
  ·split <;> omega
theorem qa5i (a b : Entry) : ordE b a = - ordE a b := by
 rw [qaq7, qaq7]
 have h1 := qaru a.prio b.prio
 have h2 := qac9 a.keys b.keys
 have h3 := qac9 a.masks b.masks
 split <;> (try split) <;> (try split) <;> (try split) <;> omega
theorem qafb (a b : Entry) : ordE a b = 0 ↔ a.prio = b.prio ∧ a.keys = b.keys ∧ a.masks = b.masks := by
 rw [qaq7]
 have h1 := @qaf6 a.prio b.prio
 have h2 := qad3 a.keys b.keys
 have h3 := qad3 a.masks b.masks
 constructor
 ·intro h
  split at h
  ·omega
  ·split at h
   ·omega
   ·exact ⟨by omega, h2.1 (by omega), h3.1 h⟩
 ·rintro ⟨e1, e2, e3⟩
  rw [if_neg (by omega), if_neg (by have := h2.2 e2; omega)]
  exact h3.2 e3
theorem qarf (a b : Entry) : leE a b ↔ a.prio < b.prio ∨ (a.prio = b.prio ∧ (cmpL a.keys b.keys < 0 ∨ (a.keys = b.keys ∧ cmpL a.masks b.masks ≤ 0))) := by
 unfold leE
 rw [qaq7]
 have h1 := @qaf6 a.prio b.prio
 have h1' := @qak7 a.prio b.prio
 have h2 := qad3 a.keys b.keys
 constructor
 ·intro h
  split at h
  ·exact .inl (by omega)
  ·refine .inr ⟨by omega, ?_⟩
   split at h
   ·exact .inl (by omega)
   ·exact .inr ⟨h2.1 (by omega), h⟩
 ·rintro (h | ⟨h, h3 | ⟨h3, h4⟩⟩)
  ·rw [if_pos (by omega)]; omega
  ·rw [if_neg (by omega), if_pos (by omega)]; omega
  ·rw [if_neg (by omega), if_neg (by have := h2.2 h3; omega)]; exact h4
theorem qagu {a b c : Entry} (h1 : leE a b) (h2 : leE b c) : leE a c := by
 rw [qarf] at *
 rcases h1 with h1 | ⟨e1, h1 | ⟨f1, h1⟩⟩ <;> rcases h2 with h2 | ⟨e2, h2 | ⟨f2, h2⟩⟩
 ·exact .inl (by omega)
 ·exact .inl (by omega)
 ·exact .inl (by omega)
 ·exact .inl (by omega)
 ·exact .inr ⟨by omega, .inl (qart h1 (by omega))⟩
 ·exact .inr ⟨by omega, .inl (by rw [← f2]; exact h1)⟩
 ·exact .inl (by omega)
 ·exact .inr ⟨by omega, .inl (by rw [f1]; exact h2)⟩
 ·exact .inr ⟨by omega, .inr ⟨f1.trans f2, qafr _ _ _ h1 h2⟩⟩
theorem qaxr {a b : Entry} (h : ¬ ordE a b < 0) : leE b a := by
 unfold leE; rw [qa5i a b]; omega
theorem qa5v {a b : Entry} (h : ordE a b < 0) : leE a b := by unfold leE; omega
theorem qao8 (a : Entry) : leE a a := by unfold leE; rw [(qafb a a).2 ⟨rfl, rfl, rfl⟩]; omega
def e0E : Entry := ⟨[], [], 0, 0, 0, []⟩
def atE (l : List Entry) (i : Nat) : Entry := l[i]?.getD e0E
theorem qbbc {l : List Entry} {i : Nat} (h : i < l.length) : atE l i = l[i] := by unfold atE; rw [List.getElem?_eq_getElem h]; rfl
theorem qbej {l : List Entry} {i j : Nat} (h : qahx l i j = true) : leE (atE l i) (atE l j) := by
 unfold qahx at h
 split at h
 ·rename_i a b h1 h2
  unfold atE; rw [h1, h2]; exact qa5v (by simpa using h)
 ·cases h
theorem qbek {l : List Entry} {i j : Nat} (hi : i < l.length) (hj : j < l.length) (h : qahx l i j = false) : leE (atE l j) (atE l i) := by
 rw [qaxp hi hj] at h
 rw [qbbc hi, qbbc hj]
 exact qaxr (by simpa using h)
theorem qasa {l : List Entry} {i j : Nat} (hi : i < l.length) (hj : j < l.length) (k : Nat) : atE (qaej l i j) k = if k = j then atE l i else if k = i then atE l j else atE l k := by
 rw [qaoj hi hj]
 unfold atE
 rw [List.getElem?_set, List.getElem?_set]
 by_cases e1 : k = j
 ·subst e1
  rw [if_pos rfl, if_pos rfl, if_pos (by simpa using hj), List.getElem?_eq_getElem hi]
 ·rw [if_neg (Ne.symm e1), if_neg e1]
  by_cases e2 : k = i
  ·subst e2
   rw [if_pos rfl, if_pos rfl, if_pos hi, List.getElem?_eq_getElem hj]
  ·rw [if_neg (Ne.symm e2), if_neg e2]
def HeapN (n : Nat) (l : List Entry) : Prop := ∀ i, 0 < i → i < n → leE (atE l ((i - 1) / 2)) (atE l i)
def UpP (n : Nat) (l : List Entry) (j : Nat) : Prop := (∀ i, 0 < i → i < n → i ≠ j → leE (atE l ((i - 1) / 2)) (atE l i)) ∧ (0 < j → ∀ i, 0 < i → i < n → (i - 1) / 2 = j → leE (atE l ((j - 1) / 2)) (atE l i))
theorem qaoe : ∀ (f : Nat) (l : List Entry) (j n : Nat), n ≤ l.length → j < n → j < f → UpP n l j → HeapN n (upL f l j) ∧ ∀ k, j < k → atE (upL f l j) k = atE l k
 | f + 1, l, j, n, hn, hj, hf, ⟨h1, h2⟩ => by
  rw [upL]
  by_cases hc : (j - 1) / 2 = j ∨ qahx l j ((j - 1) / 2) = false
  ·rw [if_pos hc]
   refine ⟨fun i hi hin => ?_, fun _ _ => rfl⟩
   by_cases e : i = j
   ·subst e
    rcases hc with hc | hc
    ·omega
    ·exact qbek (by omega) (by omega) hc
   ·exact h1 i hi hin e
  ·rw [if_neg hc]
   obtain ⟨p, hp⟩ : ∃ p, p = (j - 1) / 2 := ⟨_, rfl⟩
   rw [← hp] at hc ⊢
   have hpj : p < j := by have : p ≠ j := fun e => hc (.inl e); omega
   have hl : leE (atE l j) (atE l p) := qbej (by cases h : qahx l j p <;> simp_all)
   have hs := qasa (l := l) (i := p) (j := j) (by omega) (by omega)
   have ih := qaoe f (qaej l p j) p n (by rw [qaeg]; exact hn) (by omega) (by omega) ⟨fun i hi hin hip => ?_, fun hp0 i hi hin hip => ?_⟩
   ·refine ⟨ih.1, fun k hk => ?_⟩
    rw [ih.2 k (by omega), hs, if_neg (by omega), if_neg (by omega)]
   ·rw [hs, hs]
    by_cases e1 : i = j
    ·subst e1
     rw [← hp, if_neg (by omega), if_pos rfl, if_pos rfl]; exact hl
    ·rw [if_neg e1, if_neg hip]
     by_cases e2 : (i - 1) / 2 = j
     ·rw [if_pos e2, hp]; exact h2 (by omega) i hi hin e2
     ·rw [if_neg e2]
      by_cases e3 : (i - 1) / 2 = p
      ·rw [if_pos e3]
       have := h1 i hi hin e1
       rw [e3] at this
       exact qagu hl this
      ·rw [if_neg e3]; exact h1 i hi hin e1
   ·rw [hs, hs, if_neg (by omega : ¬ (p - 1) / 2 = j), if_neg (by omega : ¬ (p - 1) / 2 = p)]
    have h3 := h1 p hp0 (by omega) (by omega)
    by_cases e1 : i = j
    ·rw [if_pos e1]; exact h3
    ·rw [if_neg e1, if_neg (by omega)]
     have := h1 i hi hin e1
     rw [hip] at this
     exact qagu h3 this
theorem qaol {l : List Entry} {i n : Nat} (hn : n ≤ l.length) (h : 2 * i + 1 < n) : (sonL l i n - 1) / 2 = i ∧ ∀ k, 0 < k → k < n → (k - 1) / 2 = i → leE (atE l (sonL l i n)) (atE l k) := by
 unfold sonL
 by_cases hc : 2 * i + 1 + 1 < n ∧ qahx l (2 * i + 1 + 1) (2 * i + 1) = true
 ·rw [if_pos hc]
  refine ⟨by omega, fun k h1 h2 h3 => ?_⟩
  have : k = 2 * i + 1 ∨ k = 2 * i + 1 + 1 := by omega
  rcases this with rfl | rfl
  ·exact qbej hc.2
  ·exact qao8 _
 ·rw [if_neg hc]
  refine ⟨by omega, fun k h1 h2 h3 => ?_⟩
  have : k = 2 * i + 1 ∨ k = 2 * i + 1 + 1 := by omega
  rcases this with rfl | rfl
  ·exact qao8 _
  ·refine qbek (by omega) (by omega) ?_
   cases h : qahx l (2 * i + 1 + 1) (2 * i + 1)
   ·rfl
   ·exact absurd ⟨h2, h⟩ hc
theorem qaiy : ∀ (f : Nat) (l : List Entry) (i n i0 : Nat), n ≤ l.length → n - i < f → i0 ≤ i → (∀ k, 0 < k → k < n → (k - 1) / 2 ≠ i → k ≠ i0 → leE (atE l ((k - 1) / 2)) (atE l k)) → (0 < i → ∀ k, 0 < k → k < n → (k - 1) / 2 = i → leE (atE l ((i - 1) / 2)) (atE l k)) →
  (∀ k, 0 < k → k < n → k ≠ i0 → leE (atE (qafj f l i n).1 ((k - 1) / 2)) (atE (qafj f l i n).1 k)) ∧ (∀ k, k < i ∨ n ≤ k → atE (qafj f l i n).1 k = atE l k) ∧ i ≤ (qafj f l i n).2 ∧
   ((qafj f l i n).2 = i → (qafj f l i n).1 = l) ∧ (i < (qafj f l i n).2 → 2 * i + 1 < n ∧ atE (qafj f l i n).1 i = atE l (sonL l i n))
 | f + 1, l, i, n, i0, hn, hf, h0, hA, hB => by
  rw [qafj]
  by_cases hc : n ≤ 2 * i + 1 ∨ qahx l (sonL l i n) i = false
  ·rw [if_pos hc]
   refine ⟨fun k hk hkn hk0 => ?_, fun k _ => rfl, Nat.le_refl _, fun _ => rfl, fun h => absurd h (Nat.lt_irrefl _)⟩
   by_cases e : (k - 1) / 2 = i
   ·rcases hc with hc | hc
    ·omega
    ·have hin : 2 * i + 1 < n := by omega
     obtain ⟨s1, s2⟩ := qaol hn hin
     obtain ⟨s3, s4⟩ := qalj l i n hin
     show leE (atE l ((k - 1) / 2)) (atE l k)
     rw [e]
     exact qagu (qbek (i := sonL l i n) (j := i) (by omega) (by omega) hc) (s2 k hk hkn e)
   ·exact hA k hk hkn e hk0
  ·rw [if_neg hc]
   have hin : 2 * i + 1 < n := Nat.lt_of_not_le fun e => hc (.inl e)
   obtain ⟨s1, s2⟩ := qaol hn hin
   obtain ⟨s3, s4⟩ := qalj l i n hin
   have hl : leE (atE l (sonL l i n)) (atE l i) := qbej (by cases h : qahx l (sonL l i n) i <;> simp_all)
   generalize sonL l i n = s at *
   have hs := qasa (l := l) (i := i) (j := s) (by omega) (by omega)
   have ih := qaiy f (qaej l i s) s n i0 (by rw [qaeg]; exact hn) (by omega) (by omega) (fun k hk hkn hp hk0 => ?_) (fun hs0 k hk hkn hp => ?_)
   ·obtain ⟨q1, q2, q3, q4, q5⟩ := ih
    refine ⟨q1, fun k hk => ?_, by omega, fun h => absurd h (by omega), fun _ => ⟨hin, ?_⟩⟩
    ·rw [q2 k (by omega), hs, if_neg (by omega), if_neg (by omega)]
    ·rw [q2 i (.inl s3), hs, if_neg (by omega), if_pos rfl]
   ·rw [hs, hs]
    by_cases e1 : (k - 1) / 2 = i
    ·rw [e1, if_neg (by omega : ¬ i = s), if_pos rfl]
     by_cases e2 : k = s
     ·rw [if_pos e2]; exact hl
     ·rw [if_neg e2, if_neg (by omega)]; exact s2 k hk hkn e1
    ·have ks : k ≠ s := fun e => by subst e; exact e1 s1
     rw [if_neg ks, if_neg hp, if_neg e1]
     by_cases e2 : k = i
     ·subst e2
      rw [if_pos rfl]; exact hB hk s (by omega) s4 s1
     ·rw [if_neg e2]; exact hA k hk hkn e1 hk0
   ·rw [hs, hs, s1, if_neg (by omega : ¬ i = s), if_pos rfl, if_neg (by omega : ¬ k = s), if_neg (by omega : ¬ k = i)]
    have := hA k hk hkn (by omega) (by omega)
    rw [hp] at this; exact this
theorem qbes {n : Nat} {l : List Entry} (h : HeapN n l) : ∀ k, k < n → leE (atE l 0) (atE l k) := by
 intro k
 induction k using Nat.strongRecOn with
 | _ k ih =>
  intro hk
  rcases Nat.eq_zero_or_pos k with rfl | h0
  ·exact qao8 _
  ·exact qagu (ih ((k - 1) / 2) (by omega) (by omega)) (h k h0 hk)
def Heap (l : List Entry) : Prop := HeapN l.length l
theorem qber : Heap [] := fun i _ h => by simp at h
theorem qa5c {l : List Entry} (h : Heap l) (e : Entry) : Heap (qasl l e) := by
 have hl : (qasl l e).length = l.length + 1 := by rw [(qaez l e).length_eq]; simp
 unfold Heap
 rw [hl]
 refine (qaoe (l.length + 1) (l ++ [e]) l.length (l.length + 1) (by simp) (by omega) (by omega) ⟨fun i hi hin hne => ?_, fun _ i hi hin hp => ?_⟩).1
 ·have a1 : ∀ k, k < l.length → atE (l ++ [e]) k = atE l k := fun k hk => by unfold atE; rw [List.getElem?_append_left hk]
  rw [a1 _ (by omega), a1 _ (by omega)]
  exact h i hi (by omega)
 ·omega
theorem qaj9 {l : List Entry} {k : Nat} (h : k < l.length - 1) : atE l.dropLast k = atE l k := by
 unfold atE; rw [List.getElem?_dropLast, if_pos h]
theorem qahq {l : List Entry} (h : HeapN (l.length - 1) l) : Heap l.dropLast := fun i hi hin => by
 rw [List.length_dropLast] at hin
 rw [qaj9 hin, qaj9 (by omega)]
 exact h i hi hin
theorem qbdw {l : List Entry} (h : Heap l) (h0 : 0 < l.length) : Heap (popL l).dropLast ∧ atE (popL l) (l.length - 1) = atE l 0 := by
 have hl : (popL l).length = l.length := (qadg l).length_eq
 have hs := qasa (l := l) (i := 0) (j := l.length - 1) h0 (by omega)
 obtain ⟨q1, q2, -, -, -⟩ := qaiy (l.length - 1 - 0 + 1) (qaej l 0 (l.length - 1)) 0 (l.length - 1) 0 (by rw [qaeg]; omega) (by omega) (Nat.le_refl _) (fun k hk hkn hp _ => by
  rw [hs, hs, if_neg (by omega), if_neg hp, if_neg (by omega), if_neg (by omega)]
  exact h k hk (by omega)) (fun h => absurd h (by omega))
 refine ⟨qahq ?_, ?_⟩
 ·rw [hl]; exact fun i hi hin => q1 i hi hin (by omega)
 ·unfold popL
  rw [q2 _ (.inr (Nat.le_refl _)), hs, if_pos rfl]
theorem qbdv {l : List Entry} (h : Heap l) (i : Nat) (hi : i < l.length) : Heap (remL l i).dropLast ∧ atE (remL l i) (l.length - 1) = atE l i := by
 have hl : (remL l i).length = l.length := (qafv l i).length_eq
 have key : HeapN (l.length - 1) (remL l i) ∧ atE (remL l i) (l.length - 1) = atE l i := by
  unfold remL
  by_cases e : l.length - 1 = i
  ·rw [if_pos e, e]; exact ⟨fun k hk hkn => h k hk (by omega), rfl⟩
  ·rw [if_neg e]
   have hs := qasa (l := l) (i := i) (j := l.length - 1) hi (by omega)
   have hA : ∀ k, 0 < k → k < l.length - 1 → (k - 1) / 2 ≠ i → k ≠ i → leE (atE (qaej l i (l.length - 1)) ((k - 1) / 2)) (atE (qaej l i (l.length - 1)) k) := fun k hk hkn hp hki => by
    rw [hs, hs, if_neg (by omega), if_neg hp, if_neg (by omega), if_neg hki]
    exact h k hk (by omega)
   have hB : 0 < i → ∀ k, 0 < k → k < l.length - 1 → (k - 1) / 2 = i → leE (atE (qaej l i (l.length - 1)) ((i - 1) / 2)) (atE (qaej l i (l.length - 1)) k) := fun h0 k hk hkn hp => by
    rw [hs, hs, if_neg (by omega), if_neg (by omega), if_neg (by omega), if_neg (by omega)]
    have h3 := h k hk (by omega)
    rw [hp] at h3
    exact qagu (h i h0 hi) h3
   have hsl : (qaej l i (l.length - 1)).length = l.length := qaeg _ _ _
   obtain ⟨q1, q2, q3, q4, q5⟩ := qaiy (l.length - 1 - i + 1) (qaej l i (l.length - 1)) i (l.length - 1) i (by rw [hsl]; omega) (by omega) (Nat.le_refl _) (fun k hk hkn hp hk0 => hA k hk hkn hp hk0) hB
   have hsn := @qaol (qaej l i (l.length - 1)) i (l.length - 1) (by rw [hsl]; omega)
   have hsl2 := qalj (qaej l i (l.length - 1)) i (l.length - 1)
   have hlast : atE (qaej l i (l.length - 1)) (l.length - 1) = atE l i := by rw [hs, if_pos rfl]
   have hdl : (qafj (l.length - 1 - i + 1) (qaej l i (l.length - 1)) i (l.length - 1)).1.length = l.length := by rw [(qadw _ _ _ _).length_eq, hsl]
   generalize qaej l i (l.length - 1) = S at *
   generalize qafj (l.length - 1 - i + 1) S i (l.length - 1) = d at *
   by_cases hm : i < d.2
   ·rw [if_pos hm]
    refine ⟨fun k hk hkn => ?_, by rw [q2 _ (.inr (Nat.le_refl _)), hlast]⟩
    by_cases e1 : k = i
    ·subst e1
     obtain ⟨r1, r2⟩ := q5 hm
     rw [r2, q2 _ (.inl (by omega))]
     exact hB hk _ (by have := hsl2 r1; omega) (hsl2 r1).2 (hsn r1).1
    ·exact q1 k hk hkn e1
   ·rw [if_neg hm]
    have hd := q4 (by omega)
    rw [hd] at q1 hdl ⊢
    obtain ⟨u1, u2⟩ := qaoe (i + 1) S i (l.length - 1) (by omega) (by omega) (by omega) ⟨q1, hB⟩
    exact ⟨u1, by rw [u2 _ (by omega), hlast]⟩
 exact ⟨qahq (by rw [hl]; exact key.1), key.2⟩
theorem qbdk {l : List Entry} (h : Heap l) (i : Nat) (e : Entry) (hi : i < l.length) (he : ordE (atE l i) e = 0) : Heap (l.set i e) := by
 have hz := (qafb _ _).1 he
 have q : ∀ k, (atE (l.set i e) k).prio = (atE l k).prio ∧ (atE (l.set i e) k).keys = (atE l k).keys ∧ (atE (l.set i e) k).masks = (atE l k).masks := fun k => by
  by_cases e1 : i = k
  ·subst e1
   have : atE (l.set i e) i = e := by unfold atE; rw [List.getElem?_set, if_pos rfl, if_pos hi]; rfl
   rw [this]; exact ⟨hz.1.symm, hz.2.1.symm, hz.2.2.symm⟩
  ·have : atE (l.set i e) k = atE l k := by unfold atE; rw [List.getElem?_set, if_neg e1]
   rw [this]; exact ⟨rfl, rfl, rfl⟩
 intro k hk hkn
 rw [List.length_set] at hkn
 have := h k hk hkn
 rw [qarf] at this ⊢
 obtain ⟨a1, a2, a3⟩ := q k
 obtain ⟨b1, b2, b3⟩ := q ((k - 1) / 2)
 rw [a1, a2, a3, b1, b2, b3]; exact this
def qa4o : Nat → List Entry → List Entry
 | 0, _ => []
 | f + 1, l => match (popL l).getLast? with
  | some x => towE x :: qa4o f (popL l).dropLast
  | none => []
def qai9 (l : List Entry) : List Entry := qa4o l.length l
theorem qaoq {l : List Entry} (h0 : 0 < l.length) : (popL l).getLast? = some (atE (popL l) (l.length - 1)) ∧ popL l = (popL l).dropLast ++ [atE (popL l) (l.length - 1)] := by
 have hl : (popL l).length = l.length := (qadg l).length_eq
 rcases List.eq_nil_or_concat (popL l) with h | ⟨L, x, h⟩
 ·rw [h] at hl; simp at hl; omega
 ·have hLl : L.length = l.length - 1 := by rw [h] at hl; simp at hl; omega
  have : atE (popL l) (l.length - 1) = x := by unfold atE; rw [h, ← hLl]; simp
  rw [this, h]; simp
theorem qaie : ∀ (f : Nat) (l : List Entry), l.length ≤ f → (qa4o f l).Perm (l.map towE)
 | 0, l, h => by rw [List.eq_nil_of_length_eq_zero (l := l) (by omega)]; exact .refl _
 | f + 1, l, h => by
  rw [qa4o]
  rcases Nat.eq_zero_or_pos l.length with h0 | h0
  ·have : l = [] := List.eq_nil_of_length_eq_zero h0
   subst this
   have hp : popL [] = [] := List.Perm.eq_nil (qadg [])
   rw [hp]; exact .refl _
  ·obtain ⟨p1, p2⟩ := qaoq h0
   have hl : (popL l).length = l.length := (qadg l).length_eq
   rw [p1]
   refine ((qaie f _ (by rw [List.length_dropLast]; omega)).cons _).trans ?_
   refine .trans ?_ ((qadg l).map towE)
   rw [← List.map_cons]
   refine .map _ ?_
   conv => rhs; rw [p2]
   exact (List.perm_append_singleton _ _).symm
theorem qaid : ∀ (f : Nat) (l : List Entry), l.length ≤ f → Heap l → (qa4o f l).Pairwise leE
 | 0, l, h, _ => .nil
 | f + 1, l, h, hh => by
  rw [qa4o]
  rcases Nat.eq_zero_or_pos l.length with h0 | h0
  ·have : l = [] := List.eq_nil_of_length_eq_zero h0
   subst this
   have hp : popL [] = [] := List.Perm.eq_nil (qadg [])
   rw [hp]; exact .nil
  ·obtain ⟨p1, p2⟩ := qaoq h0
   obtain ⟨q1, q2⟩ := qbdw hh h0
   have hl : (popL l).length = l.length := (qadg l).length_eq
   have hd : (popL l).dropLast.length ≤ f := by rw [List.length_dropLast]; omega
   rw [p1, q2]
   refine .cons (fun y hy => ?_) (qaid f _ hd q1)
   have hy2 := (qaie f _ hd).mem_iff.1 hy
   obtain ⟨z, hz, rfl⟩ := List.mem_map.1 hy2
   have hz2 : z ∈ l := (qadg l).mem_iff.1 ((List.dropLast_sublist _).mem hz)
   obtain ⟨k, hk, rfl⟩ := List.mem_iff_getElem.1 hz2
   have := qbes hh k hk
   rw [qbbc hk] at this
   exact this
theorem qawc (l : List Entry) : (qai9 l).Perm (l.map towE) := qaie _ _ (Nat.le_refl _)
theorem qaoi {l : List Entry} (h : Heap l) : (qai9 l).Pairwise leE := qaid _ _ (Nat.le_refl _) h
end Go.Proofs.YtalejfkholifpaaGreat
namespace Go.Proofs.YtalejfkholifpaaGreat
set_option linter.all false
open Go.RowKit
attribute [local simp] qaas qaar qaac qaag qaad qaaf qaap qaaq qaab qaa4 SOp.run SX.ev putd puts argS upds SOp.touch SSt.keep SSt.skip gets geth puth delh idOf SV.cells? setL qab7 qab8 sbin eq0 eq1 eqL qab5 qabh qabi qaa5 qaat qaae qaau qaa6 qaam qaan FrzOk qaba qaa0 qaa8 qaa9 qaav qaaz qabe qaa1 qaax qabb qaaw frzS frzH frz frz1 frz0 SlotsM ObjsM ObjM rn ren ren1 ren0 qabp qabs qabt qabo qabf qab1 qab0 CoL qabc qabw dels adds idsH qabq
attribute [local irreducible] qab3
theorem qao6 {k m : Int} {l : List Entry} : Lent (hobj (some (k, m)) l) (.ptr 0 0) (.cp (qbbs k m l)) := by
 refine qakt (t := 108) (cs := hcs (some (k, m)) l.length) rfl ⟨qadr _, qadr _, qaks (e := 38) rfl (qagn _ _) (by simp), trivial⟩ ?_
 intro x hx
 simp only [qbbs, List.mem_cons, List.not_mem_nil, or_false] at hx
 rcases hx with rfl | rfl | rfl
 ·exact qafa _ _
 ·exact qafa _ _
 ·exact qagp _ _
theorem qav7 (k m : Int) (l : List Entry) (e : Entry) (he : qadk e) (q : Nat) : SCalls Tryz.prog 144 [.ptr 0 0, .agg (qaay e)] (hobj (some (k, m)) l) q (.bool (qahy k e)) (hobj (some (k, m)) l) :=
 qac7 (tfits_s k m l e he q) ⟨qao6, qadr _, trivial⟩ (qai3 _)
theorem tat_o (k m : Int) (l : List Entry) (e : Entry) (hl : l.length ≤ 1000000) (hs : ∀ x ∈ l, qadk x) (he : qadk e) (q : Nat) : SCalls Tryz.prog 145 [.ptr 0 0, .agg (qaay e)] (hobj (some (k, m)) l) q (.int .i64 (tatV l e)) (hobj (some (k, m)) l) :=
 qac7 (tat_s k m l e hl hs he q) ⟨qao6, qadr _, trivial⟩ (qafd _ _)
theorem qaf9 {X : Cx} {s : SSt} {c : qaeq} {l : List Entry} {t : Nat} {n : Int} (hm : X.m = 1) (hw : Wk X s ⟨[(t, .int .i64 n)], hobj c l, 2⟩) : QFun X [.tmp t] 1 (.int .i64 n) [(0, .abs (qady c l))] .ret s := by
 have h1 : Wk X s ⟨[(t, .int .i64 n)], [(0, .abs (qady c l))], 2⟩ := hw.trans (qaod ⟨rfl, rfl, trivial⟩)
 have h2 : Wk X ⟨[(t, .int .i64 n)], [(0, .abs (qady c l))], 2⟩ ⟨[(t, .int .i64 n)], [(0, .abs (qady c l))], 1⟩ := qabg [] hm ⟨by simp only [gets, if_true]; exact Co.refl _, trivial⟩ ⟨⟨_, rfl, rfl⟩, trivial⟩ rfl (Nat.le_refl _)
 exact ⟨_, h1.trans h2, by simp [qage, resL, resV, one_, gets], ⟨rfl, trivial⟩, by simp⟩
def dropV (k : Int) (l : List Entry) (e : Entry) : Int := if qahy k e = false then 6 else if tatV l e < 0 then 9 else 0
def qan9 (k : Int) (l : List Entry) (e : Entry) : List Entry := if qahy k e = false then l else if tatV l e < 0 then l else (remL l (tatV l e).toNat).dropLast
theorem qaqt (l : List Entry) (e : Entry) (h : ¬ tatV l e < 0) : ∃ i : Nat, tatV l e = i ∧ i < l.length := by
 unfold tatV idxV at h ⊢
 split at h
 ·rename_i i hi
  exact ⟨i, rfl, (List.findIdx?_eq_some_iff_getElem.1 hi).1⟩
 ·omega
theorem tdrop_s (k m : Int) (l : List Entry) (e : Entry) (hl : l.length ≤ 1000000) (hs : ∀ x ∈ l, qadk x) (he : qadk e) : SCalls Tryz.prog 142 [.ptr 0 0, .agg (qaay e)] [(0, .abs (qady (some (k, m)) l))] 1 (.int .i64 (dropV k l e)) [(0, .abs (qady (some (k, m)) (qan9 k l e)))] := by
 have k1 := fun q => qav7 k m l e he q
 have k2 := fun q => tat_o k m l e hl hs he q
 have hv : dropV k l e = if qahy k e = false then 6 else if tatV l e < 0 then 9 else 0 := rfl
 have hr : qan9 k l e = if qahy k e = false then l else if tatV l e < 0 then l else (remL l (tatV l e).toNat).dropLast := rfl
 have k3 : ∀ i : Nat, tatV l e = i → i < l.length → ∀ q, 2 ≤ q → SCalls Tryz.prog 153 [.ifc 176 (.ptr 0 2), .int .i64 i] (hobj (some (k, m)) l) q (.ifc 38 (.agg (qaay ((remL l i).getLastD e)))) (hobj (some (k, m)) (remL l i).dropLast) := fun i _ hi q hq =>
  hrem_s (some (k, m)) l (remL l i).dropLast i hi ((remL l i).getLastD e) (by
   have hne : remL l i ≠ [] := by
    intro h0
    have := (qafv l i).length_eq
    rw [h0] at this; simp at this; omega
   rcases List.eq_nil_or_concat (remL l i) with h0 | ⟨L', x, h0⟩
   ·exact absurd h0 hne
   ·rw [h0]; simp) hl hs q hq
 have hlt := qaqt l e
 generalize dropV k l e = v at hv
 generalize qan9 k l e = r at hr
 generalize qahy k e = a at k1 hv hr
 generalize tatV l e = b at k2 hv hr hlt k3
 refine qaai (N := 21) Tryz.func142 rfl rfl (by kernel_rfl) qapv (by simp) (by repeat' (first | exact trivial | refine And.intro ?_ ?_ | rfl | decide | exact PureR.ren _)) (by repeat' (first | exact trivial | refine And.intro ?_ ?_ | rfl | decide | exact PureR.ren _)) ?_
 rintro X hP hN hm
 refine qafk (by omega) (by decide) (qagw _ l) fun hh h => ?_
 subst h
 unfold c_tdrop
 unfold qaay at k1 k2
 unfold qaay
 unfold hobj at k1 k2 k3
 unfold hobj
 cases a
 ·obtain rfl : v = 6 := by rw [hv, if_pos rfl]
  obtain rfl : r = l := by rw [hr, if_pos rfl]
  clear hlt k2 k3 hv hr
  repeat' (first | refine yA ?_ | with_reducible refine yB ?_ ?_ | ((with_reducible refine yC fun h => ?_); have h' := h; (try simp at h'); (try subst h')) | refine qab4 (k1 _) ⟨rfl, rfl, trivial⟩ ⟨rfl, rfl, trivial⟩ ?_ | exact yD | refine yE ?_ | ((refine qaf9 hm ?_; simp only [hobj])) | (exact qadf _ _ rfl) | exact trivial)
 ·by_cases hb : b < 0
  ·obtain rfl : v = 9 := by rw [hv, if_neg (by decide), if_pos hb]
   obtain rfl : r = l := by rw [hr, if_neg (by decide), if_pos hb]
   clear hlt k3 hv hr
   repeat' (first | refine yA ?_ | with_reducible refine yB ?_ ?_ | ((with_reducible refine yC fun h => ?_); have h' := h; (try simp at h'); (try subst h')) | refine qab4 (k1 _) ⟨rfl, rfl, trivial⟩ ⟨rfl, rfl, trivial⟩ ?_ | refine qab4 (k2 _) ⟨rfl, rfl, trivial⟩ ⟨rfl, rfl, trivial⟩ ?_ | exact yD | refine yE ?_ | ((refine qaf9 hm ?_; simp only [hobj])) | (exact qadf _ _ rfl) | exact trivial)
  ·obtain ⟨i, rfl, hi⟩ := hlt hb
   have k4 := k3 i rfl hi
   obtain rfl : v = 0 := by rw [hv, if_neg (by decide), if_neg hb]
   rw [if_neg (by decide), if_neg hb, Int.toNat_natCast] at hr
   rw [← hr] at k4
   generalize (remL l i).getLastD e = x at k4
   clear hlt k3 hv hr
   repeat' (first | refine yA ?_ | with_reducible refine yB ?_ ?_ | ((with_reducible refine yC fun h => ?_); have h' := h; (try simp at h'); (try subst h')) | refine qab4 (k1 _) ⟨rfl, rfl, trivial⟩ ⟨rfl, rfl, trivial⟩ ?_ | refine qab4 (k2 _) ⟨rfl, rfl, trivial⟩ ⟨rfl, rfl, trivial⟩ ?_ | refine qae4 (k4 _ (by simp)) ⟨rfl, rfl, trivial⟩ ⟨rfl, rfl, trivial⟩ [] (by simp) ?_ | exact yD | refine yE ?_ | ((refine qaf9 hm ?_; simp only [hobj])) | (exact qadf _ _ rfl) | exact trivial)
def chgR (k : Int) (l : List Entry) (e : Entry) : List Entry := if qahy k e = false then l else if tatV l e < 0 then l else l.set (tatV l e).toNat (towE e)
theorem tchg_s (k m : Int) (l : List Entry) (e : Entry) (hl : l.length ≤ 1000000) (hs : ∀ x ∈ l, qadk x) (he : qadk e) : SCalls Tryz.prog 141 [.ptr 0 0, .agg (qaay e)] [(0, .abs (qady (some (k, m)) l))] 1 (.int .i64 (dropV k l e)) [(0, .abs (qady (some (k, m)) (chgR k l e)))] := by
 have k1 := fun q => qav7 k m l e he q
 have k2 := fun q => tat_o k m l e hl hs he q
 have k5 := fun q => qbdb e he q
 have hv : dropV k l e = if qahy k e = false then 6 else if tatV l e < 0 then 9 else 0 := rfl
 have hr : chgR k l e = if qahy k e = false then l else if tatV l e < 0 then l else l.set (tatV l e).toNat (towE e) := rfl
 have hlt := qaqt l e
 generalize dropV k l e = v at hv
 generalize chgR k l e = r at hr
 generalize qahy k e = a at k1 hv hr
 generalize tatV l e = b at k2 hv hr hlt
 generalize towE e = te at k5 hr
 refine qaai (N := 23) Tryz.func141 rfl rfl (by kernel_rfl) qatg (by simp) (by repeat' (first | exact trivial | refine And.intro ?_ ?_ | rfl | decide | exact PureR.ren _)) (by repeat' (first | exact trivial | refine And.intro ?_ ?_ | rfl | decide | exact PureR.ren _)) ?_
 rintro X hP hN hm
 refine qafk (by omega) (by decide) (qagw _ l) fun hh h => ?_
 subst h
 unfold c_tchg
 generalize hz : qaay te = z at k5
 unfold qaay at k1 k2 k5
 rw [show qaay e = [nums .u64 e.keys, nums .u64 e.masks, .int .i64 e.len, .int .i64 e.prio, .int .i64 e.act, nums .u64 e.args] from rfl]
 unfold hobj at k1 k2
 unfold hobj
 cases a
 ·obtain rfl : v = 6 := by rw [hv, if_pos rfl]
  obtain rfl : r = l := by rw [hr, if_pos rfl]
  clear hlt k2 hv hr
  repeat' (first | refine yA ?_ | with_reducible refine yB ?_ ?_ | ((with_reducible refine yC fun h => ?_); have h' := h; (try simp at h'); (try subst h')) | refine qab4 (k1 _) ⟨rfl, rfl, trivial⟩ ⟨rfl, rfl, trivial⟩ ?_ | exact yD | refine yE ?_ | ((refine qaf9 hm ?_; simp only [hobj])) | (exact qadf _ _ rfl) | exact trivial)
 ·by_cases hb : b < 0
  ·obtain rfl : v = 9 := by rw [hv, if_neg (by decide), if_pos hb]
   obtain rfl : r = l := by rw [hr, if_neg (by decide), if_pos hb]
   clear hlt hv hr
   repeat' (first | refine yA ?_ | with_reducible refine yB ?_ ?_ | ((with_reducible refine yC fun h => ?_); have h' := h; (try simp at h'); (try subst h')) | refine qab4 (k1 _) ⟨rfl, rfl, trivial⟩ ⟨rfl, rfl, trivial⟩ ?_ | refine qab4 (k2 _) ⟨rfl, rfl, trivial⟩ ⟨rfl, rfl, trivial⟩ ?_ | exact yD | refine yE ?_ | ((refine qaf9 hm ?_; simp only [hobj])) | (exact qadf _ _ rfl) | exact trivial)
  ·obtain ⟨i, rfl, hi⟩ := hlt hb
   obtain rfl : v = 0 := by rw [hv, if_neg (by decide), if_neg hb]
   rw [if_neg (by decide), if_neg hb, Int.toNat_natCast] at hr
   have hrl : r.length = l.length := by rw [hr]; simp
   have hrr : r.map qaay = (l.map qaay).set i z := by rw [hr, ← hz]; simp
   have hz6 : z.length = 6 := by rw [← hz]; rfl
   have hzs : ∀ x : Entry, setL (qaay x) 0 z = z := fun x => by rw [← hz]; rfl
   clear hlt hv hr hz
   replace hrl := Lib.hid hrl
   replace hrr := Lib.hid hrr
   repeat' (first | ((with_reducible first | refine qaao ?_ | refine qaak (by rw [hP]; exact mixed) ?_); (try rw [hP]); simp -implicitDefEqProofs [List.getElem?_eq_getElem hi, qac6, qab9, hz6, hzs, *]) | ((with_reducible first | refine qaah ?_ | refine qaaj ?_); (try simp -implicitDefEqProofs [List.getElem?_eq_getElem hi, qac6, qab9, hz6, hzs, *])) | ((with_reducible refine qaaa (fun h => ?_) (fun h => ?_)) <;> have h' := h <;> (try simp at h') <;> (try subst h') <;> simp -implicitDefEqProofs [List.getElem?_eq_getElem hi, qac6, qab9, hz6, hzs, *]) | ((with_reducible refine qaal ?_ ?_); (first | omega | (unfold maxLen; omega)); simp -implicitDefEqProofs [List.getElem?_eq_getElem hi, qac6, qab9, hz6, hzs, *]) | refine yA ?_ | with_reducible refine yB ?_ ?_ | ((with_reducible refine yC fun h => ?_); have h' := h; (try simp at h'); (try subst h')) | (refine qab4 (k1 _) ⟨rfl, rfl, trivial⟩ ⟨rfl, rfl, trivial⟩ ?_; simp -implicitDefEqProofs [List.getElem?_eq_getElem hi, qac6, qab9, hz6, hzs, *]) | (refine qab4 (k2 _) ⟨rfl, rfl, trivial⟩ ⟨rfl, rfl, trivial⟩ ?_; simp -implicitDefEqProofs [List.getElem?_eq_getElem hi, qac6, qab9, hz6, hzs, *]) | (refine qabr (k5 _) ?_; simp -implicitDefEqProofs [List.getElem?_eq_getElem hi, qac6, qab9, hz6, hzs, *]) | exact yD | refine yE ?_ | ((refine qaf9 hm ?_; simp only [hobj])) | (exact qadf _ _ rfl) | exact trivial)
   all_goals first | (rw [hrl.out]; exact qadf _ _ rfl) | exact hrr.out.symm
end Go.Proofs.YtalejfkholifpaaGreat
namespace Go.Proofs.YtalejfkholifpaaGreat
set_option linter.all false
open Go.RowKit
attribute [local simp] qaas qaar qaac qaag qaad qaaf qaap qaaq qaab qaa4 SOp.run SX.ev putd puts argS upds SOp.touch SSt.keep SSt.skip gets geth puth delh idOf SV.cells? setL qab7 qab8 sbin eq0 eq1 eqL qab5 qabh qabi qaa5 qaat qaae qaau qaa6 qaam qaan FrzOk qaba qaa0 qaa8 qaa9 qaav qaaz qabe qaa1 qaax qabb qaaw frzS frzH frz frz1 frz0 SlotsM ObjsM ObjM rn ren ren1 ren0 qabp qabs qabt qabo qabf qab1 qab0 CoL qabc qabw dels adds idsH qabq
theorem fin_ghn {X : Cx} {s : SSt} {c : qaeq} {l : List Entry} {t : Nat} (hm : X.m = 0) (hw : Wk X s ⟨[(t, .ptr 0 0)], hobj c l, 2⟩) : QFun X [.tmp t] 0 (.ptr 0 0) [(0, .abs (qady c l))] .ret s := by
 have h1 : Wk X s ⟨[(t, .ptr 0 0)], [(0, .abs (qady c l))], 2⟩ := hw.trans (qaod ⟨rfl, rfl, trivial⟩)
 have h2 : Wk X ⟨[(t, .ptr 0 0)], [(0, .abs (qady c l))], 2⟩ ⟨[(t, .ptr 0 0)], [(0, .abs (qady c l))], 1⟩ := qabg [] hm ⟨by simp only [gets, if_true]; exact Co.refl _, trivial⟩ ⟨⟨_, rfl, rfl⟩, trivial⟩ rfl (Nat.zero_le _)
 exact ⟨_, h1.trans h2, by simp [qage, resL, resV, one_, gets], ⟨rfl, trivial⟩, by simp⟩
theorem tnew_s (k m : Int) : SCalls Tryz.prog 35 [.int .i64 k, .int .i64 m] [] 0 (.ptr 0 0) [(0, .abs (qady (some (k, m)) []))] := by
 refine qaai (N := 9) Tryz.func35 rfl rfl (by kernel_rfl) qate (by simp) (by repeat' (first | exact trivial | refine And.intro ?_ ?_ | rfl | decide | exact PureR.ren _)) (by repeat' (first | exact trivial | refine And.intro ?_ ?_ | rfl | decide | exact PureR.ren _)) ?_
 rintro X hP hN hm
 unfold c_tnew
 repeat' (first | refine yA ?_ | with_reducible refine yB ?_ ?_ | ((with_reducible refine yC fun h => ?_); have h' := h; (try simp at h'); (try subst h')) | exact trivial)
 refine qaw1 (qaqq 4 2 38 6 rfl rfl) ?_
 exact fin_ghn hm (qabg [(0, 4), (1, 6)] hm ⟨Co.refl _, trivial⟩ ⟨⟨_, rfl, rfl, CoL.refl _⟩, ⟨_, rfl, rfl, rfl, CoLL.refl _⟩, trivial⟩ rfl (Nat.zero_le _))
end Go.Proofs.YtalejfkholifpaaGreat
namespace Go.Proofs.YtalejfkholifpaaGreat
set_option linter.all false
open Go.RowKit
attribute [local simp] qaas qaar qaac qaag qaad qaaf qaap qaaq qaab qaa4 SOp.run SX.ev putd puts argS upds SOp.touch SSt.keep SSt.skip gets geth puth delh idOf SV.cells? setL qab7 qab8 sbin eq0 eq1 eqL qab5 qabh qabi qaa5 qaat qaae qaau qaa6 qaam qaan FrzOk qaba qaa0 qaa8 qaa9 qaav qaaz qabe qaa1 qaax qabb qaaw frzS frzH frz frz1 frz0 SlotsM ObjsM ObjM rn ren ren1 ren0 qabp qabs qabt qabo qabf qab1 qab0 CoL qabc qabw dels adds idsH qabq
theorem tlen_s (k m : Int) (l : List Entry) (q : Nat) : SCalls Tryz.prog 132 [.cp (qbbs k m l)] [] q (.int .i64 l.length) [] := by
 refine qabm ?_ (fun _ => rfl) (fun _ => rfl) rfl q
 refine qaai (N := 8) Tryz.func132 rfl rfl (by kernel_rfl) qatf (by simp) (by repeat' (first | exact trivial | refine And.intro ?_ ?_ | rfl | decide | exact PureR.ren _)) (by repeat' (first | exact trivial | refine And.intro ?_ ?_ | rfl | decide | exact PureR.ren _)) ?_
 rintro X hP hN hm
 unfold c_tlen qbbs
 repeat' (first | refine yA ?_ | with_reducible refine yB ?_ ?_ | ((with_reducible refine yC fun h => ?_); have h' := h; (try simp at h'); (try subst h')) | ((refine qach hm ?_ (fun σ => rfl))) | exact trivial)
 all_goals simp
theorem tlen_o (k m : Int) (l : List Entry) (q : Nat) : SCalls Tryz.prog 132 [.ptr 0 0] (hobj (some (k, m)) l) q (.int .i64 l.length) (hobj (some (k, m)) l) :=
 qac7 (tlen_s k m l q) ⟨qao6, trivial⟩ (qafd _ _)
theorem conf_o (g : FuncId) (b : Entry) (l : List Entry) (p : Entry → Bool) (c : qaeq) (id : Nat) (h2 : 2 ≤ id) (hl : l.length ≤ 1000000) (hg : AskC g b l p) (q : Nat) : SCalls Tryz.prog 146 [.own 1 l.length, .fn (.func g) [] [.ptr id 0]] (hobj c l ++ [(id, .cells 38 (qaay b))]) q (.bool (decide (0 ≤ idxV l p))) (hobj c l ++ [(id, .cells 38 (qaay b))]) :=
 qac7 (conf_s g b l p hl hg q) ⟨qaks (e := 38) rfl (qagn _ _) (by simp), qbcp ⟨qakt (t := 38) (cs := qaay b) (by unfold hobj; simp only [List.cons_append, List.nil_append, geth]; rw [if_neg (by omega), if_neg (by omega), if_pos trivial]) (qait _) (qaw5 b), trivial⟩, trivial⟩ (qai3 _)
end Go.Proofs.YtalejfkholifpaaGreat
namespace Go.Proofs.YtalejfkholifpaaGreat
set_option linter.all false
open Go.RowKit
instance : PureR ([] : List (List SV)) := ⟨fun _ => rfl, fun x hx => (by cases hx), fun x hx => (by cases hx)⟩
theorem qfun_wk {X : Cx} {rs : List ResultVar} {m : Nat} {r : SV} {h2 : Hp} {s s1 : SSt} (hw : Wk X s s1) (h : QFun X rs m r h2 .ret s1) : QFun X rs m r h2 .ret s := by
 obtain ⟨s', h1, h2, h3, h4⟩ := h
 exact ⟨s', hw.trans h1, h2, h3, h4⟩
end Go.Proofs.YtalejfkholifpaaGreat
namespace Go.Proofs.YtalejfkholifpaaGreat
set_option linter.all false
open Go.RowKit
attribute [local simp] qaas qaar qaac qaag qaad qaaf qaap qaaq qaab qaa4 SOp.run SX.ev putd puts argS upds SOp.touch SSt.keep SSt.skip gets geth puth delh idOf SV.cells? setL qab7 qab8 sbin eq0 eq1 eqL qab5 qabh qabi qaa5 qaat qaae qaau qaa6 qaam qaan FrzOk qaba qaa0 qaa8 qaa9 qaav qaaz qabe qaa1 qaax qabb qaaw frzS frzH frz frz1 frz0 SlotsM ObjsM ObjM rn ren ren1 ren0 qabp qabs qabt qabo qabf qab1 qab0 CoL qabc qabw dels adds idsH qabq
theorem qakz {X : Cx} {sl : Sl} {hp : Hp} {t nx id e z n e' z' : Nat} {es fs : List (List SV)} [PureR es] [PureR fs] (hm : X.m = 1) (hne : id ≠ 0) (hv : gets sl t = .own id n) (h0 : geth hp 0 = some (.row e' z' fs)) (h1 : geth hp id = some (.row e z es)) : QFun X [.tmp t] 1 (.own 1 n) [(0, .row e' z' fs), (1, .row e z es)] .ret ⟨sl, hp, nx⟩ := by
 have hw : Wk X ⟨sl, hp, nx⟩ ⟨[(t, .own 1 n)], [(0, .row e' z' fs), (1, .row e z es)], 2⟩ := by
  refine qabg [(1, id)] hm ⟨?_, trivial⟩ ⟨⟨_, h0, rfl, rfl, ?_⟩, ⟨_, h1, rfl, rfl, ?_⟩, trivial⟩ ?_ (by simp)
  ·rw [hv]; exact Co.refl _
  ·rw [PureR.ren]; exact CoLL.refl _
  ·rw [PureR.ren]; exact CoLL.refl _
  ·simp [qabq, diag, idsH, hne, Ne.symm hne, List.range_succ]
 exact ⟨_, hw, by simp [qage, resL, resV, one_, gets], ⟨rfl, rfl, trivial⟩, by simp⟩
theorem clrow_1 (l : List Entry) (hl : l.length ≤ 1000000) : SCalls Tryz.prog 151 [.own 0 l.length] [(0, .row 38 6 (l.map qaay))] 1 (.own 1 l.length) [(0, .row 38 6 (l.map qaay)), (1, .row 38 6 (l.map qaay))] := by
 rcases l with _ | ⟨x, l⟩
 ·refine qaai (N := 8) Tryz.func151 rfl rfl (by kernel_rfl) qai0 (by simp) (by repeat' (first | exact trivial | refine And.intro ?_ ?_ | rfl | decide | exact PureR.ren _)) ⟨by decide, rfl, trivial⟩ ?_
  rintro X hP hN hm
  unfold c_clrow
  refine qbdf 0 0 rfl ?_ ?_
  ·show SWp _ _ _ ⟨[(0, .nilsl)], _, _⟩
   repeat' (first | refine yA ?_ | with_reducible refine yB ?_ ?_ | ((with_reducible refine yC fun h => ?_); have h' := h; (try simp at h'); (try subst h')) | exact yD | refine yE ?_ | ((refine qfun_wk (qakc 2 38 6 rfl) ?_; simp only [zT, puth, Nat.reduceEqDiff, reduceIte, Nat.reduceAdd]; exact qakz hm (by decide) rfl rfl rfl)) | exact trivial)
   all_goals trace_state
  ·show SWp _ _ _ ⟨[(0, .mt)], _, _⟩
   repeat' (first | refine yA ?_ | with_reducible refine yB ?_ ?_ | ((with_reducible refine yC fun h => ?_); have h' := h; (try simp at h'); (try subst h')) | ((exact qakz hm (by decide) rfl rfl rfl)) | exact trivial)
   all_goals trace_state
 ·refine qaai (N := 8) Tryz.func151 rfl rfl (by kernel_rfl) qai0 (by simp) (by repeat' (first | exact trivial | refine And.intro ?_ ?_ | rfl | decide | exact PureR.ren _)) ⟨by decide, qaby _ _ _, trivial⟩ ?_
  rintro X hP hN hm
  have hb : (x :: l).length ≤ maxLen := by unfold maxLen; omega
  simp only [List.length_cons] at hl hb
  unfold c_clrow
  repeat' (first | refine yA ?_ | with_reducible refine yB ?_ ?_ | ((with_reducible refine yC fun h => ?_); have h' := h; (try simp at h'); (try subst h')) | exact trivial)
  show QFun X [.tmp 2] 1 (.own 1 (l.length + 1)) [(0, .row 38 6 ((x :: l).map qaay)), (1, .row 38 6 ((x :: l).map qaay))] .ret ⟨_, [(0, .row 38 6 ((x :: l).map qaay)), (6, .row 38 6 ((x :: l).map qaay))], _⟩
  exact qakz hm (by decide) rfl rfl rfl
theorem clrow_o (l : List Entry) (hl : l.length ≤ 1000000) (a q : Nat) (ha : a < q) : SCalls Tryz.prog 151 [.own a l.length] [(a, .row 38 6 (l.map qaay))] q (.own q l.length) [(a, .row 38 6 (l.map qaay)), (q, .row 38 6 (l.map qaay))] := by
 have e0 : sg [a] q 0 = a := rfl
 have e1 : sg [a] q 1 = q := rfl
 exact qadd [a] (clrow_1 l hl) rfl (by simp) (by simp; omega) (by simp [Go.Proofs.YtalejfkholifpaaGreat.ren, ren1, ren0, e0]) ⟨⟨.row 38 6 (l.map qaay), by rw [e0]; simp [geth], rfl, rfl, by rw [qaby]; exact CoLL.refl _⟩, trivial⟩ (by simp [idsH]) (by simp [Go.Proofs.YtalejfkholifpaaGreat.ren, ren1, ren0, e1]) rfl ⟨⟨.row 38 6 (l.map qaay), by rw [e0]; simp [geth], rfl, rfl, qajo _ _, (qaby _ _ _).symm⟩, ⟨.row 38 6 (l.map qaay), by rw [e1]; simp [geth], rfl, rfl, qajo _ _, (qaby _ _ _).symm⟩, trivial⟩ (by simp [idsH]) (by simp [idsH, e0, e1])
theorem hpop_r (l L : List Entry) (x : Entry) (h : popL l = L ++ [x]) (hb : l.length ≤ 1000000) (hs : ∀ x ∈ l, qadk x) (a b q : Nat) (hab : a ≠ b) (ha : a < q) (hbq : b < q) : SCalls Tryz.prog 152 [.ifc 176 (.ptr a 0)] [(a, .cells 106 [.own b l.length]), (b, .row 38 6 (l.map qaay))] q (.ifc 38 (.agg (qaay x))) [(a, .cells 106 [.own b L.length]), (b, .row 38 6 (L.map qaay))] := by
 have e0 : sg [a, b] q 0 = a := rfl
 have e1 : sg [a, b] q 1 = b := rfl
 have h0 := hpop_s none l L x h hb hs 2 (Nat.le_refl _)
 have g0 : ∀ o p : SObj, geth [(a, o), (b, p)] b = some p := fun o p => by simp [geth, hab]
 exact qadd [a, b] h0 rfl (by simp [hab]) (by simp; omega) (by simp [Go.Proofs.YtalejfkholifpaaGreat.ren, ren1, ren0, renA, renB, e0, hoff]) ⟨⟨.cells 106 [.own b l.length], by rw [e0]; simp [geth], rfl, by simp [hcs, Go.Proofs.YtalejfkholifpaaGreat.ren, ren1, ren0, e1]⟩, ⟨.row 38 6 (l.map qaay), by rw [e1]; exact g0 _ _, rfl, rfl, by rw [qaby]; exact CoLL.refl _⟩, trivial⟩ (by simp [idsH, hobj]) (by rfl) rfl ⟨⟨.cells 106 [.own b L.length], by rw [e0]; simp [geth], rfl, rfl, by simp [hcs, Go.Proofs.YtalejfkholifpaaGreat.ren, ren1, ren0, e1]⟩, ⟨.row 38 6 (L.map qaay), by rw [e1]; exact g0 _ _, rfl, rfl, qajo _ _, (qaby _ _ _).symm⟩, trivial⟩ (by simp [idsH, hobj]) (by simp [idsH, hobj, e0, e1])
theorem fin_ghw {X : Cx} {s : SSt} {c : qaeq} {l : List Entry} {t z : Nat} {es : List (List SV)} (hw : Wk X s ⟨[(t, .view z es)], hobj c l, 2⟩) : QFun X [.tmp t] 2 (.view z es) (hobj c l) .ret s :=
 ⟨_, hw, by simp [qage, resL, resV, one_, gets], ⟨rfl, rfl, trivial⟩, by simp⟩
theorem qbde (k m : Int) (l : List Entry) (hl : l.length ≤ 1000000) (hs : ∀ x ∈ l, qadk x) : SCalls Tryz.prog 140 [.ptr 0 0] (hobj (some (k, m)) l) 2 (.view 6 ((qai9 l).map qaay)) (hobj (some (k, m)) l) := by
 obtain ⟨F, hF⟩ : ∃ F, F = qai9 l := ⟨_, rfl⟩
 rw [← hF]
 replace hF := Lib.hid hF
 replace hs := Lib.hid hs
 have k1 := fun q hq => clrow_o l hl 1 q hq
 refine qaai (N := 28) Tryz.func140 rfl rfl (by kernel_rfl) qath (by simp) (by repeat' (first | exact trivial | refine And.intro ?_ ?_ | rfl | decide | exact PureR.ren _)) (qal7 (some (k, m)) l) ?_
 rintro X hP hN hm
 unfold c_tall hobj
 repeat' (first | ((with_reducible first | refine qaao ?_ | refine qaak (by rw [hP]; exact mixed) ?_); (try rw [hP]); simp -implicitDefEqProofs [hcs, *]) | ((with_reducible first | refine qaah ?_ | refine qaaj ?_); (try simp -implicitDefEqProofs [hcs, *])) | ((with_reducible refine qaaa (fun h => ?_) (fun h => ?_)) <;> have h' := h <;> (try simp at h') <;> (try subst h') <;> simp -implicitDefEqProofs [hcs, *]) | ((with_reducible refine qaal ?_ ?_); (first | omega | (unfold maxLen; omega)); simp -implicitDefEqProofs [hcs, *]) | refine yA ?_ | with_reducible refine yB ?_ ?_ | ((with_reducible refine yC fun h => ?_); have h' := h; (try simp at h'); (try subst h')) | (refine qae4 (k1 _ (by simp)) ⟨rfl, trivial⟩ ⟨rfl, by simp [geth], trivial⟩ [] (by simp) ?_; simp -implicitDefEqProofs [hcs, *]) | exact trivial)
 refine qasd (qakc 4 38 6 rfl) ?_
 simp only [zT, puth, Nat.reduceEqDiff, reduceIte, Nat.reduceAdd]
 refine qabj (qacp (fun s (x : List Entry × List Entry) => ⟨[(3, .ptr 2 0), (4, .own 4 x.2.length)], [(0, .cells (hty (some (k, m))) (hcs (some (k, m)) l.length)), (1, .row 38 6 (l.map qaay)), (2, .cells 106 [.own 3 x.1.length]), (3, .row 38 6 (x.1.map qaay)), (4, .row 38 6 (x.2.map qaay))], 5⟩) (fun x => F = x.2 ++ qa4o x.1.length x.1 ∧ (∀ e ∈ x.1, qadk e) ∧ x.2.length + x.1.length ≤ 1000000) (fun x => x.1.length) (l, []) ?_ ⟨by rw [hF.out]; rfl, hs.out, by simpa using hl⟩ ?_)
 ·refine qabg [(2, 15), (3, 7), (4, 18)] hm ⟨Co.refl _, Co.refl _, trivial⟩ ⟨⟨_, rfl, rfl, qadf (some (k, m)) _ rfl⟩, ⟨_, rfl, rfl, rfl, ?_⟩, ⟨_, rfl, rfl, CoL.refl _⟩, ⟨_, rfl, rfl, rfl, ?_⟩, ⟨_, rfl, rfl, rfl, CoLL.refl _⟩, trivial⟩ rfl (by simp)
  ·rw [qaby]; exact CoLL.refl _
  ·rw [qaby]; exact CoLL.refl _
 rintro J hJ ⟨L, out⟩ ⟨h1, h2, h3⟩
 unfold qary
 simp only [zT, puth, Nat.reduceEqDiff, reduceIte, Nat.reduceAdd] at h1 h2 h3 ⊢
 rcases Nat.eq_zero_or_pos L.length with h0 | h0
 ·have hLn : L = [] := List.eq_nil_of_length_eq_zero h0
  subst hLn
  have hFo : F = out := by rw [h1]; simp [qa4o]
  subst hFo
  clear h1 h2 h3 hJ
  repeat' (first | ((with_reducible refine qaif (c := .seq (.reg false qarx [2]) .ret) ?_)) | ((with_reducible first | refine qaao ?_ | refine qaak (by rw [hP]; exact mixed) ?_); (try rw [hP]); simp -implicitDefEqProofs [hcs, *]) | ((with_reducible first | refine qaah ?_ | refine qaaj ?_); (try simp -implicitDefEqProofs [hcs, *])) | ((with_reducible refine qaaa (fun h => ?_) (fun h => ?_)) <;> have h' := h <;> (try simp at h') <;> (try subst h') <;> simp -implicitDefEqProofs [hcs, *]) | ((with_reducible refine qaal ?_ ?_); (first | omega | (unfold maxLen; omega)); simp -implicitDefEqProofs [hcs, *]) | refine yA ?_ | with_reducible refine yB ?_ ?_ | ((with_reducible refine yC fun h => ?_); have h' := h; (try simp at h'); (try subst h')) | exact trivial)
  constructor
  refine qawd [4] ?_ ?_
  ·simp only [FrzOk, geth, Nat.reduceEqDiff, reduceIte, qaq5, and_true]
  simp -implicitDefEqProofs
  repeat' (first | refine yA ?_ | with_reducible refine yB ?_ ?_ | ((with_reducible refine yC fun h => ?_); have h' := h; (try simp at h'); (try subst h')) | exact yD | refine yE ?_ | ((refine fin_ghw ?_; simp only [hobj])) | (exact qadf _ _ rfl) | exact trivial)
  all_goals trace_state
 ·obtain ⟨p1, p2⟩ := qaoq h0
  have hdl : (popL L).dropLast.length = L.length - 1 := by rw [List.length_dropLast, (qadg L).length_eq]
  have hds : ∀ e ∈ (popL L).dropLast, qadk e := fun e he => h2 e ((qadg L).mem_iff.1 ((List.dropLast_sublist _).mem he))
  have hxm : atE (popL L) (L.length - 1) ∈ popL L := by
   have h9 : atE (popL L) (L.length - 1) ∈ (popL L).dropLast ++ [atE (popL L) (L.length - 1)] := by simp
   rw [← p2] at h9; exact h9
  have hxs : qadk (atE (popL L) (L.length - 1)) := h2 _ ((qadg L).mem_iff.1 hxm)
  have h4 : F = (out ++ [towE (atE (popL L) (L.length - 1))]) ++ qa4o (popL L).dropLast.length (popL L).dropLast := by
   rw [h1, hdl, show L.length = L.length - 1 + 1 by omega]
   simp only [qa4o, p1]; simp
  have k2 := fun q h1 h3 => hpop_r L _ _ p2 (by omega) h2 2 3 q (by decide) h1 h3
  have k3 := fun q => qbdb _ hxs q
  generalize (popL L).dropLast = L2 at *
  generalize atE (popL L) (L.length - 1) = x at *
  generalize hte : towE x = te at *
  have hro : out.map qaay ++ [qaay te] = (out ++ [te]).map qaay := by simp
  have hlo : (out ++ [te]).length = out.length + 1 := by simp
  generalize out ++ [te] = O2 at *
  have b1 : out.length + 1 ≤ maxLen := by unfold maxLen; omega
  have b2 : (out.length + 1) * 96 ≤ 140737488355328 := by omega
  have hg : ((L.length : Int) > 0) := by omega
  clear p1 p2 h1 h2 hxs hxm hte
  replace h4 := Lib.hid h4
  replace hds := Lib.hid hds
  replace hdl := Lib.hid hdl
  replace hro := Lib.hid hro
  replace hlo := Lib.hid hlo
  replace hs := Lib.hid hs
  repeat' (first | ((with_reducible first | refine qaao ?_ | refine qaak (by rw [hP]; exact mixed) ?_); (try rw [hP]); simp -implicitDefEqProofs [hcs, b1, b2, qac6, qab9, qafi, *]) | ((with_reducible first | refine qaah ?_ | refine qaaj ?_); (try simp -implicitDefEqProofs [hcs, b1, b2, qac6, qab9, qafi, *])) | ((with_reducible refine qaaa (fun h => ?_) (fun h => ?_)) <;> have h' := h <;> (try simp at h') <;> (try subst h') <;> simp -implicitDefEqProofs [hcs, b1, b2, qac6, qab9, qafi, *]) | ((with_reducible refine qaal ?_ ?_); (first | omega | (unfold maxLen; omega)); simp -implicitDefEqProofs [hcs, b1, b2, qac6, qab9, qafi, *]) | refine yA ?_ | with_reducible refine yB ?_ ?_ | ((with_reducible refine yC fun h => ?_); have h' := h; (try simp at h'); (try subst h')) | (refine qae4 (k2 _ (by simp) (by simp)) ⟨rfl, rfl, trivial⟩ ⟨rfl, rfl, trivial⟩ [] (by simp) ?_; simp -implicitDefEqProofs [hcs, b1, b2, qac6, qab9, qafi, *]) | (refine qabr (k3 _) ?_; simp -implicitDefEqProofs [hcs, b1, b2, qac6, qab9, qafi, *]) | exact trivial)
  refine qabn hJ (L2, O2) (qabg [(4, 36)] hm ⟨Co.refl _, ?_, trivial⟩ ⟨⟨_, rfl, rfl, qadf (some (k, m)) _ rfl⟩, ⟨_, rfl, rfl, rfl, ?_⟩, ⟨_, rfl, rfl, CoL.refl _⟩, ⟨_, rfl, rfl, rfl, ?_⟩, ⟨_, rfl, rfl, rfl, ?_⟩, trivial⟩ rfl (by simp)) ⟨h4.out, hds.out, ?_⟩ ?_
  ·simp only [hlo.out]; exact Co.refl _
  ·rw [qaby]; exact CoLL.refl _
  ·rw [qaby]; exact CoLL.refl _
  ·rw [qaby, hro.out]; exact CoLL.refl _
  ·simp only [hlo.out, hdl.out]; omega
  ·simp only [hdl.out]; omega
end Go.Proofs.YtalejfkholifpaaGreat
namespace Go.Proofs.YtalejfkholifpaaGreat
set_option linter.all false
open Go.RowKit
attribute [local simp] qaas qaar qaac qaag qaad qaaf qaap qaaq qaab qaa4 SOp.run SX.ev putd puts argS upds SOp.touch SSt.keep SSt.skip gets geth puth delh idOf SV.cells? setL qab7 qab8 sbin eq0 eq1 eqL qab5 qabh qabi qaa5 qaat qaae qaau qaa6 qaam qaan FrzOk qaba qaa0 qaa8 qaa9 qaav qaaz qabe qaa1 qaax qabb qaaw frzS frzH frz frz1 frz0 SlotsM ObjsM ObjM rn ren ren1 ren0 qabp qabs qabt qabo qabf qab1 qab0 CoL qabc qabw dels adds idsH qabq
attribute [local irreducible] qab3
def qatz (l : List Entry) (e : Entry) : Int := idxV l fun x => x.prio == e.prio && qao2 x e
def addV (k m : Int) (l : List Entry) (e : Entry) : Int := if qahy k e = false then 6 else if 0 ≤ tatV l e then 7 else if 0 ≤ qatz l e then 8 else if m ≤ l.length then 10 else 0
def addR (k m : Int) (l : List Entry) (e : Entry) : List Entry := if addV k m l e = 0 then qasl l (towE e) else l
theorem qax4 {k : Int} {e : Entry} (h : qahy k e = true) : (e.keys.length : Int) = k ∧ (e.masks.length : Int) = k := by
 unfold qahy at h
 split at h
 ·cases h
 ·omega
theorem qa4u {X : Cx} {s : SSt} {c : qaeq} {l : List Entry} {o : SObj} (hs : SubH s.hp (hobj c l)) (h2 : geth s.hp 2 = some o) : Wk X s ⟨s.sl, [(0, .abs (qady c l)), (2, o)], s.nx⟩ :=
 qbbn (hh := hobj c l) (R := fun h => h = hobj c l) rfl (by decide) rfl (fun σ h => qaf2 c l (h 1 (by decide))) (by simp [idsH, hobj]) hs rfl (fun id o' h ho => by
  simp only [geth, if_neg (Ne.symm h)] at ho
  split at ho
  ·rename_i e; subst e; cases ho; exact ⟨h2, rfl⟩
  ·cases ho)
theorem fin_ai {X : Cx} {t nx : Nat} {n : Int} {sl : Sl} {hp : Hp} {I : AbsI} (hm : X.m = 1) (hb : gets sl t = .int .i64 n) (h : geth hp 0 = some (.abs I)) : QFun X [.tmp t] 1 (.int .i64 n) [(0, .abs I)] .ret ⟨sl, hp, nx⟩ :=
 ⟨⟨[(t, .int .i64 n)], [(0, .abs I)], 1⟩, qabg [] hm ⟨by rw [hb]; exact Co.refl _, trivial⟩ ⟨⟨_, h, rfl⟩, trivial⟩ rfl (Nat.le_refl _), by simp [qage, resL, resV, one_, gets], ⟨rfl, trivial⟩, by simp⟩
set_option maxRecDepth 4000 in
theorem tadd_s (k m : Int) (l : List Entry) (e : Entry) (hl : l.length < 1000000) (hs : ∀ x ∈ l, qadk x) (hk : ∀ x ∈ l, qahy k x = true) (he : qadk e) : SCalls Tryz.prog 139 [.ptr 0 0, .agg (qaay e)] [(0, .abs (qady (some (k, m)) l))] 1 (.int .i64 (addV k m l e)) [(0, .abs (qady (some (k, m)) (addR k m l e)))] := by
 have k1 := fun q => qav7 k m l e he q
 have k2 := fun q => tat_o k m l e (by omega) hs he q
 have k5 := fun q => qbdb e he q
 have k3 : qahy k e = true → ∀ id q, 2 ≤ id → _ := fun hf id q h2 => conf_o 147 e l (fun x => x.prio == e.prio && qao2 x e) (some (k, m)) id h2 (by omega) (fun x hx q => by
  have h1 := qax4 (hk x hx)
  have h3 := qax4 hf
  exact ad1_s x e (hs x hx) he (by omega) (by omega) (by omega) q) q
 have k6 : ∀ q, 0 < q → SCalls Tryz.prog 149 [.ifc 176 (.ptr 0 2), .ifc 38 (.agg (qaay (towE e)))] [(0, .abs (qady (some (k, m)) l))] q (.tup []) [(0, .abs (qady (some (k, m)) (qasl l (towE e))))] := fun q hq => qajm (hpush_s (some (k, m)) l (towE e) hl hs ⟨he.1, he.2.1, he.2.2⟩) (fun σ h => by simp [Go.Proofs.YtalejfkholifpaaGreat.ren, ren1, ren0, h, renA, renB, qaay, nums]) (fun σ h => rfl) rfl q hq
 have hv : addV k m l e = if qahy k e = false then 6 else if 0 ≤ tatV l e then 7 else if 0 ≤ qatz l e then 8 else if m ≤ l.length then 10 else 0 := rfl
 have hr : addR k m l e = if addV k m l e = 0 then qasl l (towE e) else l := rfl
 change qahy k e = true → ∀ id q, 2 ≤ id → SCalls _ _ _ _ q (.bool (decide (0 ≤ qatz l e))) _ at k3
 generalize addV k m l e = v at hv hr
 generalize addR k m l e = r at hr
 generalize qahy k e = a at k1 hv k3
 generalize tatV l e = b at k2 hv
 generalize qatz l e = d at k3 hv
 refine qaai (N := 41) Tryz.func139 rfl rfl (by kernel_rfl) qati (by simp) (by repeat' (first | exact trivial | refine And.intro ?_ ?_ | rfl | decide | exact PureR.ren _)) (by repeat' (first | exact trivial | refine And.intro ?_ ?_ | rfl | decide | exact PureR.ren _)) ?_
 rintro X hP hN hm
 refine qafk (by omega) (by decide) (qagw _ l) fun hh h => ?_
 subst h
 unfold c_tadd
 unfold hobj at k1 k2 k3
 generalize qaay (towE e) = z at k5 k6
 unfold qaay at k1 k2 k3 k5
 rw [show qaay e = [nums .u64 e.keys, nums .u64 e.masks, .int .i64 e.len, .int .i64 e.prio, .int .i64 e.act, nums .u64 e.args] from rfl]
 unfold hobj
 cases a
 ·obtain rfl : v = 6 := by rw [hv, if_pos rfl]
  obtain rfl : r = l := by rw [hr, if_neg (by decide)]
  clear k2 k3 hv hr k6
  repeat' (first | refine yA ?_ | with_reducible refine yB ?_ ?_ | ((with_reducible refine yC fun h => ?_); have h' := h; (try simp at h'); (try subst h')) | refine qab4 (k1 _) ⟨rfl, rfl, trivial⟩ ⟨rfl, rfl, trivial⟩ ?_ | exact yD | refine yE ?_ | ((refine qaf9 hm ?_; simp only [hobj])) | (exact qadf _ _ rfl) | exact trivial)
 ·replace k3 := k3 rfl
  rw [if_neg (by decide)] at hv
  by_cases hb : 0 ≤ b
  ·obtain rfl : v = 7 := by rw [hv, if_pos hb]
   obtain rfl : r = l := by rw [hr, if_neg (by decide)]
   clear k3 hv hr k6
   repeat' (first | refine yA ?_ | with_reducible refine yB ?_ ?_ | ((with_reducible refine yC fun h => ?_); have h' := h; (try simp at h'); (try subst h')) | refine qab4 (k1 _) ⟨rfl, rfl, trivial⟩ ⟨rfl, rfl, trivial⟩ ?_ | refine qab4 (k2 _) ⟨rfl, rfl, trivial⟩ ⟨rfl, rfl, trivial⟩ ?_ | exact yD | refine yE ?_ | ((refine qaf9 hm ?_; simp only [hobj])) | (exact qadf _ _ rfl) | exact trivial)
  ·rw [if_neg hb] at hv
   by_cases hd : 0 ≤ d
   ·obtain rfl : v = 8 := by rw [hv, if_pos hd]
    obtain rfl : r = l := by rw [hr, if_neg (by decide)]
    clear hv hr k6
    rw [decide_eq_true hd] at k3
    repeat' (first | ((with_reducible first | refine qaao ?_ | refine qaak (by rw [hP]; exact mixed) ?_); (try rw [hP]); simp -implicitDefEqProofs [hb, *]) | ((with_reducible first | refine qaah ?_ | refine qaaj ?_); (try simp -implicitDefEqProofs [hb, *])) | ((with_reducible refine qaaa (fun h => ?_) (fun h => ?_)) <;> have h' := h <;> (try simp at h') <;> (try subst h') <;> simp -implicitDefEqProofs [hb, *]) | ((with_reducible refine qaal ?_ ?_); (first | omega | (unfold maxLen; omega)); simp -implicitDefEqProofs [hb, *]) | refine yA ?_ | with_reducible refine yB ?_ ?_ | ((with_reducible refine yC fun h => ?_); have h' := h; (try simp at h'); (try subst h')) | (refine qab4 (k1 _) ⟨rfl, rfl, trivial⟩ ⟨rfl, rfl, trivial⟩ ?_; simp -implicitDefEqProofs [hb, *]) | (refine qab4 (k2 _) ⟨rfl, rfl, trivial⟩ ⟨rfl, rfl, trivial⟩ ?_; simp -implicitDefEqProofs [hb, *]) | (refine qab4 (k3 _ _ (by simp)) ⟨rfl, rfl, rfl, trivial⟩ ⟨rfl, rfl, rfl, trivial⟩ ?_; simp -implicitDefEqProofs [hb, *]) | exact yD | refine yE ?_ | ((refine qaf9 hm ?_; simp only [hobj])) | (exact qadf _ _ rfl) | exact trivial)
    all_goals trace_state
   ·rw [if_neg hd] at hv
    rw [decide_eq_false hd] at k3
    by_cases hml : m ≤ l.length
    ·obtain rfl : v = 10 := by rw [hv, if_pos hml]
     obtain rfl : r = l := by rw [hr, if_neg (by decide)]
     clear hv hr k6
     have c0 : hcs (some (k, m)) r.length = [.int .i64 k, .int .i64 m, .own 1 r.length] := rfl
     repeat' (first | ((with_reducible first | refine qaao ?_ | refine qaak (by rw [hP]; exact mixed) ?_); (try rw [hP]); simp -implicitDefEqProofs [hb, hml, hcs, *]) | ((with_reducible first | refine qaah ?_ | refine qaaj ?_); (try simp -implicitDefEqProofs [hb, hml, hcs, *])) | ((with_reducible refine qaaa (fun h => ?_) (fun h => ?_)) <;> have h' := h <;> (try simp at h') <;> (try subst h') <;> simp -implicitDefEqProofs [hb, hml, hcs, *]) | ((with_reducible refine qaal ?_ ?_); (first | omega | (unfold maxLen; omega)); simp -implicitDefEqProofs [hb, hml, hcs, *]) | refine yA ?_ | with_reducible refine yB ?_ ?_ | ((with_reducible refine yC fun h => ?_); have h' := h; (try simp at h'); (try subst h')) | (refine qab4 (k1 _) ⟨rfl, rfl, trivial⟩ ⟨rfl, rfl, trivial⟩ ?_; simp -implicitDefEqProofs [hb, hml, hcs, *]) | (refine qab4 (k2 _) ⟨rfl, rfl, trivial⟩ ⟨rfl, rfl, trivial⟩ ?_; simp -implicitDefEqProofs [hb, hml, hcs, *]) | (refine qab4 (k3 _ _ (by simp)) ⟨rfl, rfl, rfl, trivial⟩ ⟨rfl, rfl, rfl, trivial⟩ ?_; simp -implicitDefEqProofs [hb, hml, hcs, *]) | exact yD | refine yE ?_ | ((refine qaf9 hm ?_; simp only [hobj])) | (exact qadf _ _ rfl) | exact trivial)
     all_goals trace_state
    ·obtain rfl : v = 0 := by rw [hv, if_neg hml]
     rw [if_pos rfl] at hr
     rw [← hr] at k6
     clear hv hr
     replace k6 := Lib.hid k6
     repeat' (first | ((with_reducible refine qaif (c := .seq (.reg true qam2 []) _) ?_)) | ((with_reducible first | refine qaao ?_ | refine qaak (by rw [hP]; exact mixed) ?_); (try rw [hP]); simp -implicitDefEqProofs [hb, hml, hcs, *]) | ((with_reducible first | refine qaah ?_ | refine qaaj ?_); (try simp -implicitDefEqProofs [hb, hml, hcs, *])) | ((with_reducible refine qaaa (fun h => ?_) (fun h => ?_)) <;> have h' := h <;> (try simp at h') <;> (try subst h') <;> simp -implicitDefEqProofs [hb, hml, hcs, *]) | ((with_reducible refine qaal ?_ ?_); (first | omega | (unfold maxLen; omega)); simp -implicitDefEqProofs [hb, hml, hcs, *]) | refine yA ?_ | with_reducible refine yB ?_ ?_ | ((with_reducible refine yC fun h => ?_); have h' := h; (try simp at h'); (try subst h')) | (refine qab4 (k1 _) ⟨rfl, rfl, trivial⟩ ⟨rfl, rfl, trivial⟩ ?_; simp -implicitDefEqProofs [hb, hml, hcs, *]) | (refine qab4 (k2 _) ⟨rfl, rfl, trivial⟩ ⟨rfl, rfl, trivial⟩ ?_; simp -implicitDefEqProofs [hb, hml, hcs, *]) | (refine qab4 (k3 _ _ (by simp)) ⟨rfl, rfl, rfl, trivial⟩ ⟨rfl, rfl, rfl, trivial⟩ ?_; simp -implicitDefEqProofs [hb, hml, hcs, *]) | exact trivial)
     constructor
     refine qasd (qa4u (c := some (k, m)) (l := l) ⟨rfl, rfl, trivial⟩ rfl) ?_
     repeat' (first | refine yA ?_ | with_reducible refine yB ?_ ?_ | ((with_reducible refine yC fun h => ?_); have h' := h; (try simp at h'); (try subst h')) | refine qabr (k5 _) ?_ | refine qae4 (k6.out _ (by simp)) ⟨rfl, trivial⟩ ⟨rfl, trivial⟩ [] (by simp) ?_ | (exact fin_ai hm rfl rfl) | exact trivial)
     all_goals trace_state
end Go.Proofs.YtalejfkholifpaaGreat
namespace Go.Proofs.YtalejfkholifpaaGreat
set_option linter.all false
open Go.RowKit
theorem qbc4 (v : BitVec 64) : BitVec.ofInt 64 (v.toNat : Int) = v := by
 rw [BitVec.ofInt_natCast]; simp
theorem qbc3 (v : BitVec 64) : IntKind.u64.wrap (v.toNat : Int) = v.toNat := qbbr (by omega) (by have := v.isLt; omega)
end Go.Proofs.YtalejfkholifpaaGreat
namespace Go.Proofs.YtalejfkholifpaaGreat
set_option linter.all false
open Go.RowKit
theorem qar9 (x y : Int) : bits .and .u64 x y = ((BitVec.ofInt 64 x &&& BitVec.ofInt 64 y).toNat : Int) := qbc3 _
theorem qba8 (x y : Int) : bits .xor .u64 x y = ((BitVec.ofInt 64 x ^^^ BitVec.ofInt 64 y).toNat : Int) := qbc3 _
def qbcl (a b m n : Int) : Int := bits .and .u64 (bits .and .u64 (bits .xor .u64 a b) m) n
theorem qao3 (a b m n : Int) : qbcl a b m n = (((BitVec.ofInt 64 a ^^^ BitVec.ofInt 64 b) &&& BitVec.ofInt 64 m &&& BitVec.ofInt 64 n).toNat : Int) := by
 unfold qbcl
 rw [qba8, qar9, qar9, qbc4, qbc4]
theorem qaxm (a b m n : Int) : qbcl a b m n = qbcl b a n m := by
 rw [qao3, qao3, BitVec.xor_comm, BitVec.and_assoc, BitVec.and_comm (BitVec.ofInt 64 m), ← BitVec.and_assoc]
theorem qal2 (a m n : Int) : qbcl a a m n = 0 := by
 rw [qao3, BitVec.xor_self, BitVec.zero_and, BitVec.zero_and]; rfl
theorem qal0 : ∀ xa xb xm xn : List Int, qav1 xa xb xm xn = qav1 xb xa xn xm
 | [], xb, xm, xn => by cases xb <;> cases xm <;> cases xn <;> rfl
 | _ :: _, [], xm, xn => by cases xm <;> cases xn <;> rfl
 | _ :: _, _ :: _, [], xn => by cases xn <;> rfl
 | _ :: _, _ :: _, _ :: _, [] => rfl
 | a :: xa, b :: xb, m :: xm, n :: xn => by
  have h := qaxm a b m n
  unfold qbcl at h
  rw [qav1, qav1, h, qal0 xa xb xm xn]
theorem qakq : ∀ xa xb xm xn : List Int, (∀ i, i < xa.length → qbcl (el xa i) (el xb i) (el xm i) (el xn i) = 0) → qav1 xa xb xm xn = true
 | [], xb, xm, xn, _ => by cases xb <;> cases xm <;> cases xn <;> rfl
 | _ :: _, [], xm, xn, _ => by cases xm <;> cases xn <;> rfl
 | _ :: _, _ :: _, [], xn, _ => by cases xn <;> rfl
 | _ :: _, _ :: _, _ :: _, [], _ => rfl
 | a :: xa, b :: xb, m :: xm, n :: xn, h => by
  have h0 := h 0 (by simp)
  simp only [qapn] at h0
  unfold qbcl at h0
  rw [qav1, if_neg (by rw [h0]; simp)]
  exact qakq xa xb xm xn fun i hi => by
   have := h (i + 1) (by simp; omega)
   simpa only [qapo] using this
theorem qal1 (a b : Entry) : qao2 a b = qao2 b a := qal0 _ _ _ _
def qbhf (l : List Entry) : Prop := l.Pairwise fun a b => ¬ (a.prio = b.prio ∧ qao2 a b = true)
structure TInv (k : Int) (l : List Entry) : Prop where
 heap : Heap l
 small : ∀ x ∈ l, qadk x
 fit : ∀ x ∈ l, qahy k x = true
 len0 : ∀ x ∈ l, x.len = 0
 no : qbhf l
theorem qag8 {l l' : List Entry} (h : l.Perm l') (hl : qbhf l) : qbhf l' :=
 (h.pairwise_iff fun {a b} hab hba => hab ⟨hba.1.symm, by rw [qal1]; exact hba.2⟩).1 hl
theorem qbdc (k : Int) : TInv k [] := ⟨qber, fun x hx => (by cases hx), fun x hx => (by cases hx), fun x hx => (by cases hx), List.Pairwise.nil⟩
theorem qaoh (e : Entry) (h : e.len = 0) : towE e = e := by
 cases e; simp only at h; subst h; rfl
theorem qbeq {l : List Entry} {p : Entry → Bool} (h : ¬ 0 ≤ idxV l p) : ∀ x ∈ l, p x = false := by
 unfold idxV at h
 split at h
 ·omega
 ·rename_i h1; exact fun x hx => by have := List.findIdx?_eq_none_iff.1 h1 x hx; simpa using this
theorem tatV_at {l : List Entry} {e : Entry} {i : Nat} (h : tatV l e = i) : ∃ hi : i < l.length, ordE l[i] e = 0 := by
 unfold tatV idxV at h
 split at h
 ·rename_i j hj
  obtain ⟨h1, h2, _⟩ := List.findIdx?_eq_some_iff_getElem.1 hj
  obtain rfl : j = i := by omega
  exact ⟨h1, by simpa using h2⟩
 ·omega
theorem qasc {k m : Int} {l : List Entry} {e : Entry} (h : addV k m l e = 0) : qahy k e = true ∧ ¬ 0 ≤ tatV l e ∧ ¬ 0 ≤ qatz l e ∧ ¬ m ≤ l.length := by
 unfold addV at h
 split at h
 ·cases h
 ·split at h
  ·cases h
  ·split at h
   ·cases h
   ·split at h
    ·cases h
    ·exact ⟨by simp_all, by assumption, by assumption, by assumption⟩
theorem qbhc {k m : Int} {l : List Entry} {e : Entry} (h : TInv k l) (he : qadk e) : TInv k (addR k m l e) := by
 unfold addR
 by_cases h0 : addV k m l e = 0
 ·rw [if_pos h0]
  obtain ⟨q1, -, q3, -⟩ := qasc h0
  have hm : ∀ x, x ∈ qasl l (towE e) → x ∈ l ∨ x = towE e := fun x hx => by
   have := (qaez l (towE e)).mem_iff.1 hx
   simpa using this
  refine ⟨qa5c h.heap _, fun x hx => ?_, fun x hx => ?_, fun x hx => ?_, qag8 (qaez l (towE e)).symm ?_⟩
  ·rcases hm x hx with h1 | rfl
   ·exact h.small x h1
   ·exact ⟨he.1, he.2.1, he.2.2⟩
  ·rcases hm x hx with h1 | rfl
   ·exact h.fit x h1
   ·exact q1
  ·rcases hm x hx with h1 | rfl
   ·exact h.len0 x h1
   ·rfl
  ·refine List.pairwise_append.2 ⟨h.no, List.pairwise_singleton _ _, fun a ha b hb => ?_⟩
   rw [List.mem_singleton.1 hb]
   rintro ⟨h1, h2⟩
   have := qbeq q3 a ha
   have h1' : a.prio = e.prio := h1
   have e1 : (a.prio == e.prio) = true := by simpa using h1'
   rw [e1, Bool.true_and] at this
   rw [show qao2 a e = true from h2] at this; cases this
 ·rw [if_neg h0]; exact h
theorem sub_inv {k : Int} {l L : List Entry} (h : TInv k l) (hh : Heap L.dropLast) (hp : L.Perm l) : TInv k L.dropLast := by
 have hm : ∀ x, x ∈ L.dropLast → x ∈ l := fun x hx => hp.mem_iff.1 ((List.dropLast_sublist _).mem hx)
 exact ⟨hh, fun x hx => h.small x (hm x hx), fun x hx => h.fit x (hm x hx), fun x hx => h.len0 x (hm x hx), (qag8 hp.symm h.no).sublist (List.dropLast_sublist _)⟩
theorem qa6f {k : Int} {l : List Entry} {e : Entry} (h : TInv k l) : TInv k (qan9 k l e) := by
 unfold qan9
 split
 ·exact h
 ·split
  ·exact h
  ·rename_i h1
   obtain ⟨i, h2, h3⟩ := qaqt l e h1
   rw [h2, Int.toNat_natCast]
   exact sub_inv h (qbdv h.heap i h3).1 (qafv l i)
theorem qbfl {k : Int} {l : List Entry} {e : Entry} (h : TInv k l) (he : qadk e) : TInv k (chgR k l e) := by
 unfold chgR
 split
 ·exact h
 ·rename_i hf
  split
  ·exact h
  ·rename_i h1
   obtain ⟨i, h2, h3⟩ := qaqt l e h1
   rw [h2, Int.toNat_natCast]
   obtain ⟨hi, ho⟩ := tatV_at h2
   have hm : ∀ x, x ∈ l.set i (towE e) → x ∈ l ∨ x = towE e := fun x hx => List.mem_or_eq_of_mem_set hx
   obtain ⟨z1, z2, z3⟩ := (qafb _ _).1 ho
   refine ⟨qbdk h.heap i _ hi (by rw [qbbc hi]; exact ho), fun x hx => ?_, fun x hx => ?_, fun x hx => ?_, ?_⟩
   ·rcases hm x hx with h1 | rfl
    ·exact h.small x h1
    ·exact ⟨he.1, he.2.1, he.2.2⟩
   ·rcases hm x hx with h1 | rfl
    ·exact h.fit x h1
    ·have hff : qahy k e = true := by simpa using hf
     exact hff
   ·rcases hm x hx with h1 | rfl
    ·exact h.len0 x h1
    ·rfl
   ·have q : ∀ j (hj : j < (l.set i (towE e)).length) (hj' : j < l.length), (l.set i (towE e))[j].prio = l[j].prio ∧ (l.set i (towE e))[j].keys = l[j].keys ∧ (l.set i (towE e))[j].masks = l[j].masks := fun j hj hj' => by
     rw [List.getElem_set]
     split
     ·rename_i e1; subst e1; exact ⟨z1.symm, z2.symm, z3.symm⟩
     ·exact ⟨rfl, rfl, rfl⟩
    refine List.pairwise_iff_getElem.2 fun a b ha hb hab => ?_
    have ha' : a < l.length := by simpa using ha
    have hb' : b < l.length := by simpa using hb
    obtain ⟨a1, a2, a3⟩ := q a ha ha'
    obtain ⟨b1, b2, b3⟩ := q b hb hb'
    have := List.pairwise_iff_getElem.1 h.no a b ha' hb' hab
    unfold qao2 at this ⊢
    rw [a1, a2, a3, b1, b2, b3]; exact this
theorem qbbh {k m : Int} {l : List Entry} {e : Entry} (h : (l.length : Int) ≤ max m 0) : ((addR k m l e).length : Int) ≤ max m 0 := by
 unfold addR
 by_cases h0 : addV k m l e = 0
 ·rw [if_pos h0, (qaez l (towE e)).length_eq]
  have := (qasc h0).2.2.2
  simp; omega
 ·rw [if_neg h0]; exact h
theorem qa6e {k : Int} {l : List Entry} {e : Entry} : (qan9 k l e).length ≤ l.length := by
 unfold qan9; split
 ·omega
 ·split
  ·omega
  ·rw [List.length_dropLast, (qafv _ _).length_eq]; omega
theorem qbfk {k : Int} {l : List Entry} {e : Entry} : (chgR k l e).length = l.length := by
 unfold chgR; split
 ·rfl
 ·split
  ·rfl
  ·simp
def fitK (xs : List Int) (e : Entry) : Bool := (List.range xs.length).all fun i => bits .and .u64 (el xs i) (el e.masks i) == el e.keys i
theorem qadj {k : Int} {l : List Entry} (h : TInv k l) : (qai9 l).Perm l := by
 have h1 := qawc l
 have h2 : l.map towE = l := by
  have : l.map towE = l.map id := List.map_congr_left fun x hx => qaoh x (h.len0 x hx)
  rw [this, List.map_id]
 rw [h2] at h1; exact h1
end Go.Proofs.YtalejfkholifpaaGreat
namespace Go.Proofs.YtalejfkholifpaaGreat
set_option linter.all false
open Go.RowKit
def qag5 (k : Int) (l : List Entry) (xs : List Int) : Option Entry := if (xs.length : Int) = k then (qai9 l).find? (fitK xs) else none
theorem qa4j {a b : Entry} (h : leE a b) (hne : ordE a b ≠ 0) (h1 : a.len = 0) (h2 : b.len = 0) : qahm a b = true := by
 rw [qarf] at h
 have hz := qafb a b
 unfold qahm
 simp only [qal4]
 rcases h with h | ⟨h, h3⟩
 ·rw [if_neg (by omega)]; simpa using h
 ·rw [if_pos h]
  rcases h3 with h3 | ⟨h3, h4⟩
  ·rw [if_neg (by omega)]; simpa using h3
  ·have hk := (qad3 a.keys b.keys).2 h3
   rw [if_pos hk, if_pos (by rw [h1, h2])]
   have : cmpL a.masks b.masks ≠ 0 := fun h5 => hne (hz.2 ⟨h, h3, (qad3 _ _).1 h5⟩)
   simp only [decide_eq_true_eq]; omega
theorem qbbd {k : Int} {l : List Entry} (h : TInv k l) : (qai9 l).Pairwise fun a b => qahm a b = true := by
 have hp := qadj h
 have h1 := qaoi h.heap
 have h2 := qag8 hp.symm h.no
 refine List.pairwise_iff_getElem.2 fun i j hi hj hij => ?_
 have a1 := List.pairwise_iff_getElem.1 h1 i j hi hj hij
 have a2 := List.pairwise_iff_getElem.1 h2 i j hi hj hij
 refine qa4j a1 (fun h3 => a2 ?_) (h.len0 _ (hp.mem_iff.1 (List.getElem_mem hi))) (h.len0 _ (hp.mem_iff.1 (List.getElem_mem hj)))
 obtain ⟨b1, b2, b3⟩ := (qafb _ _).1 h3
 refine ⟨b1, ?_⟩
 unfold qao2
 rw [b2]
 exact qakq _ _ _ _ fun i _ => qal2 _ _ _
end Go.Proofs.YtalejfkholifpaaGreat
namespace Go.Proofs.YtalejfkholifpaaGreat
set_option linter.all false
open Go.RowKit
attribute [local simp] qaas qaar qaac qaag qaad qaaf qaap qaaq qaab qaa4 SOp.run SX.ev putd puts argS upds SOp.touch SSt.keep SSt.skip gets geth puth delh idOf SV.cells? setL qab7 qab8 sbin eq0 eq1 eqL qab5 qabh qabi qaa5 qaat qaae qaau qaa6 qaam qaan FrzOk qaba qaa0 qaa8 qaa9 qaav qaaz qabe qaa1 qaax qabb qaaw frzS frzH frz frz1 frz0 SlotsM ObjsM ObjM rn ren ren1 ren0 qabp qabs qabt qabo qabf qab1 qab0 CoL qabc qabw dels adds idsH qabq
theorem qa4k : qahn Tryz.prog 46 = some true := by kernel_rfl
theorem qaom : qab6 Tryz.prog 46 = some 2 := by kernel_rfl
def qawa (o : Option Entry) : SV := match o with
 | some e => .tup [.agg (qaem e.act e.args), .bool true]
 | none => .tup [.agg (qaem 0 []), .bool false]
theorem qax8 {X : Cx} {sl : Sl} {hp : Hp} {c : qaeq} {l : List Entry} {t u nx id n : Nat} {ty : TypeId} {cs ds : List SV} {v r : SV} (hm : X.m = 2) (hid : 2 ≤ id) (hne : t ≠ u) (hv : gets sl t = v) (hN : NoN v) (hu : gets sl u = .ptr id 0) (h : geth hp id = some (.cells ty cs)) (h0 : geth hp 0 = some (.cells (hty c) (hcs c l.length))) (h1 : geth hp 1 = some (.row 38 6 (l.map qaay))) (ha : qahn X.P ty = some true) (hn : qab6 X.P ty = some n) (hl : ds.length = n) (e : CoL cs ds) (hr : r = .tup [.agg ds, v]) (hd : ∀ σ, ds.map (Go.Proofs.YtalejfkholifpaaGreat.ren σ) = ds) : QFun X [.cell u ty, .tmp t] 2 r (hobj c l) .ret ⟨sl, hp, nx⟩ := by
 subst hr hl
 have hw : Wk X ⟨sl, hp, nx⟩ ⟨[(u, .ptr 2 0), (t, v)], [(0, .cells (hty c) (hcs c l.length)), (1, .row 38 6 (l.map qaay)), (2, .cells ty ds)], 3⟩ := by
  refine qabg [(2, id)] hm ⟨?_, ?_, trivial⟩ ⟨⟨_, h0, rfl, qadf c _ rfl⟩, ⟨_, h1, rfl, rfl, by rw [qaby]; exact CoLL.refl _⟩, ⟨_, h, rfl, by rw [hd]; exact e⟩, trivial⟩ ?_ (by simp)
  ·rw [hu]; exact Co.refl _
  ·rw [hv, hN]; exact Co.refl _
  ·have a1 : ¬ (0 = id) := by omega
   have a2 : ¬ (1 = id) := by omega
   have a3 : ¬ (id = 0) := by omega
   have a4 : ¬ (id = 1) := by omega
   simp [qabq, diag, idsH, List.range_succ, a1, a2, a3, a4]
 refine ⟨_, hw, ?_, ⟨rfl, rfl, trivial⟩, by simp⟩
 simp [qage, resL, resV, one_, gets, ha, SOp.run, SX.ev, geth, hne, hne.symm, hn]
theorem qa6a (xs ym ya : List Int) (j : Nat) (h1 : j < xs.length) (h2 : j < ym.length) (h3 : j < ya.length) : ([j].all fun i => bits .and .u64 (el xs i) (el ym i) == el ya i) = (bits .and .u64 xs[j] ym[j] == ya[j]) := by
 simp [qaye xs j h1, qaye ym j h2, qaye ya j h3]
theorem qbbu (k m : Int) (l : List Entry) (xs : List Int) (h : TInv k l) (hl : l.length ≤ 1000000) (hx : xs.length ≤ 1000000) : SCalls Tryz.prog 143 [.ptr 0 0, nums .u64 xs] (hobj (some (k, m)) l) 2 (qawa (qag5 k l xs)) (hobj (some (k, m)) l) := by
 obtain ⟨F, hF⟩ : ∃ F, F = qag5 k l xs := ⟨_, rfl⟩
 rw [← hF]
 unfold qag5 at hF
 replace hF := Lib.hid hF
 have k1 := fun q hq => h_up (qbde k m l hl h.small) q hq rfl rfl rfl
 have hp := qadj h
 have hlen : ∀ e ∈ qai9 l, (e.keys.length : Int) = k ∧ (e.masks.length : Int) = k := fun e he => qax4 (h.fit e (hp.mem_iff.1 he))
 have hL : (qai9 l).length ≤ 1000000 := by rw [hp.length_eq]; exact hl
 generalize qai9 l = A at k1 hlen hL hF
 replace hlen := Lib.hid hlen
 clear hp h
 have hcl : CoL (hcs (some (k, m)) l.length) ((hcs (some (k, m)) l.length).map id) := by rw [List.map_id]; exact CoL.refl _
 refine qaai (N := 58) Tryz.func143 rfl rfl (by kernel_rfl) qapu (by simp) (by repeat' (first | exact trivial | refine And.intro ?_ ?_ | rfl | decide | exact PureR.ren _)) (qal7 (some (k, m)) l) ?_
 rintro X hP hN hm
 unfold c_tfind
 unfold hobj at k1 ⊢
 unfold nums
 by_cases hk : (xs.length : Int) = k
 ·have e1 : ((xs.length : Int) != k) = false := by simpa using hk
  have hF2 : F = A.find? (fitK xs) := by rw [hF.out, if_pos hk]
  replace hF2 := Lib.hid hF2
  repeat' (first | ((with_reducible first | refine qaao ?_ | refine qaak (by rw [hP]; exact mixed) ?_); (try rw [hP]); simp -implicitDefEqProofs [hcs, e1, *]) | ((with_reducible first | refine qaah ?_ | refine qaaj ?_); (try simp -implicitDefEqProofs [hcs, e1, *])) | ((with_reducible refine qaaa (fun h => ?_) (fun h => ?_)) <;> have h' := h <;> (try simp at h') <;> (try subst h') <;> simp -implicitDefEqProofs [hcs, e1, *]) | ((with_reducible refine qaal ?_ ?_); (first | omega | (unfold maxLen; omega)); simp -implicitDefEqProofs [hcs, e1, *]) | refine yA ?_ | with_reducible refine yB ?_ ?_ | ((with_reducible refine yC fun h => ?_); have h' := h; (try simp at h'); (try subst h')) | (refine qab4 (k1 _ (by simp)) ⟨rfl, rfl, trivial⟩ ⟨rfl, rfl, trivial⟩ ?_; simp -implicitDefEqProofs [hcs, e1, *]) | exact trivial)
  refine qabj (qacp (fun s (i : Nat) => s.turn [(22, .int .i64 i)] []) (fun i => i ≤ A.length ∧ F = (A.drop i).find? (fitK xs)) (fun i => A.length - i) 0 ?_ ⟨by simp, hF2.out⟩ ?_)
  ·repeat' (first | exact yD | refine yE ?_ | with_reducible refine yB ?_ ?_ | exact trivial)
  rintro J hJ i ⟨h1, h2⟩
  unfold qam0
  simp only [zT, puth, Nat.reduceEqDiff, reduceIte, Nat.reduceAdd] at h1 h2 ⊢
  clear hF2
  replace h2 := Lib.hid h2
  rcases Nat.lt_or_ge i A.length with hi | hi
  ·have h3 := h2.out
   rw [List.drop_eq_getElem_cons hi, List.find?_cons] at h3
   obtain ⟨q1, q2⟩ := hlen.out _ (List.getElem_mem hi)
   have wi : IntKind.i64.wrap ((i : Int) + 1) = (i : Int) + 1 := qabz (by omega) (by omega)
   obtain ⟨B, hB⟩ : ∃ B, B = fitK xs A[i] := ⟨_, rfl⟩
   rw [← hB] at h3
   unfold fitK at hB
   generalize hy : A[i] = y at h3 q1 q2 hB
   obtain ⟨ya, ym, yl, yp, yc, yr⟩ := y
   dsimp only at q1 q2 hB
   replace h3 := Lib.hid h3
   replace hB := Lib.hid hB
   replace q1 := Lib.hid q1
   replace q2 := Lib.hid q2
   replace hk := Lib.hid hk
   repeat' (first | ((with_reducible first | refine qaao ?_ | refine qaak (by rw [hP]; exact mixed) ?_); (try rw [hP]); simp -implicitDefEqProofs [List.getElem?_eq_getElem hi, hy, qaay, *]) | ((with_reducible first | refine qaah ?_ | refine qaaj ?_); (try simp -implicitDefEqProofs [List.getElem?_eq_getElem hi, hy, qaay, *])) | ((with_reducible refine qaaa (fun h => ?_) (fun h => ?_)) <;> have h' := h <;> (try simp at h') <;> (try subst h') <;> simp -implicitDefEqProofs [List.getElem?_eq_getElem hi, hy, qaay, *]) | ((with_reducible refine qaal ?_ ?_); (first | omega | (unfold maxLen; omega)); simp -implicitDefEqProofs [List.getElem?_eq_getElem hi, hy, qaay, *]) | refine yA ?_ | with_reducible refine yB ?_ ?_ | ((with_reducible refine yC fun h => ?_); have h' := h; (try simp at h'); (try subst h')) | exact trivial)
   have hJo := hJ
   refine qabj (qacp (fun s (z : Nat × Bool) => s.turn [(28, .int .i64 z.1), (8, .bool z.2)] []) (fun z => z.1 ≤ xs.length ∧ z.2 = (List.range z.1).all fun i => bits .and .u64 (el xs i) (el ym i) == el ya i) (fun z => xs.length - z.1) (0, true) ?_ ⟨by simp, by simp⟩ ?_)
   ·repeat' (first | exact yD | refine yE ?_ | with_reducible refine yB ?_ ?_ | exact trivial)
   rintro J hJ ⟨j, b⟩ ⟨g1, g2⟩
   unfold qam1
   simp only [zT, puth, Nat.reduceEqDiff, reduceIte, Nat.reduceAdd] at g1 g2 ⊢
   rcases Nat.lt_or_ge j xs.length with hj | hj
   ·have j1 : j < ya.length := by have := q1.out; have := hk.out; omega
    have j2 : j < ym.length := by have := q2.out; have := hk.out; omega
    have wj : IntKind.i64.wrap ((j : Int) + 1) = (j : Int) + 1 := qabz (by omega) (by omega)
    have g3 : ((List.range (j + 1)).all fun i => bits .and .u64 (el xs i) (el ym i) == el ya i) = (b && (bits .and .u64 xs[j] ym[j] == ya[j])) := by
     rw [List.range_succ, List.all_append, ← g2, qa6a xs ym ya j hj j2 j1]
    clear g2
    replace g3 := Lib.hid g3
    cases b
    all_goals
     repeat' (first | ((with_reducible first | refine qaao ?_ | refine qaak (by rw [hP]; exact mixed) ?_); (try rw [hP]); simp -implicitDefEqProofs [nums, wj, List.getElem?_eq_getElem hj, List.getElem?_eq_getElem j1, List.getElem?_eq_getElem j2, *]) | ((with_reducible first | refine qaah ?_ | refine qaaj ?_); (try simp -implicitDefEqProofs [nums, wj, List.getElem?_eq_getElem hj, List.getElem?_eq_getElem j1, List.getElem?_eq_getElem j2, *])) | ((with_reducible refine qaaa (fun h => ?_) (fun h => ?_)) <;> have h' := h <;> (try simp at h') <;> (try subst h') <;> simp -implicitDefEqProofs [nums, wj, List.getElem?_eq_getElem hj, List.getElem?_eq_getElem j1, List.getElem?_eq_getElem j2, *]) | ((with_reducible refine qaal ?_ ?_); (first | omega | (unfold maxLen; omega)); simp -implicitDefEqProofs [nums, wj, List.getElem?_eq_getElem hj, List.getElem?_eq_getElem j1, List.getElem?_eq_getElem j2, *]) | refine yA ?_ | with_reducible refine yB ?_ ?_ | ((with_reducible refine yC fun h => ?_); have h' := h; (try simp at h'); (try subst h')) | exact yD | refine yE ?_ | ((refine qabn hJ (j + 1, ?_) ?_ ?_ ?_; rotate_left 1; (with_reducible refine qabg [] hm ?_ ?_ ?_ ?_) <;> (try simp only [zT, puth, Nat.reduceEqDiff, reduceIte, Nat.reduceAdd]))) | exact trivial)
     all_goals first | exact ⟨by omega, by rw [g3.out]; rfl⟩ | omega | trace_state
   ·obtain rfl : j = xs.length := by omega
    have hb2 : b = B := by rw [g2, hB.out]
    subst hb2
    clear g2
    cases b
    all_goals
     repeat' (first | ((with_reducible first | refine qaao ?_ | refine qaak (by rw [hP]; exact mixed) ?_); (try rw [hP]); simp -implicitDefEqProofs [nums, wi, *]) | ((with_reducible first | refine qaah ?_ | refine qaaj ?_); (try simp -implicitDefEqProofs [nums, wi, *])) | ((with_reducible refine qaaa (fun h => ?_) (fun h => ?_)) <;> have h' := h <;> (try simp at h') <;> (try subst h') <;> simp -implicitDefEqProofs [nums, wi, *]) | ((with_reducible refine qaal ?_ ?_); (first | omega | (unfold maxLen; omega)); simp -implicitDefEqProofs [nums, wi, *]) | refine yA ?_ | with_reducible refine yB ?_ ?_ | ((with_reducible refine yC fun h => ?_); have h' := h; (try simp at h'); (try subst h')) | exact yD | refine yE ?_ | ((refine qax8 (c := some (k, m)) (l := l) (v := .bool true) (ds := qaem yc yr) hm (by decide) (by decide) rfl (qaiq _) rfl rfl rfl rfl (by rw [hP]; exact qa4k) (by rw [hP]; exact qaom) rfl (CoL.refl _) ?_ (fun σ => rfl))) | ((refine qabn hJo (i + 1) ?_ ?_ ?_; (with_reducible refine qabg [] hm ?_ ?_ ?_ ?_) <;> (try simp only [zT, puth, Nat.reduceEqDiff, reduceIte, Nat.reduceAdd]))) | exact trivial)
     all_goals first | exact ⟨by omega, by rw [h3.out]⟩ | (rw [h3.out]; rfl) | omega | trace_state
  ·have h4 : F = none := by rw [h2.out, List.drop_eq_nil_of_le hi]; rfl
   subst h4
   repeat' (first | ((with_reducible first | refine qaao ?_ | refine qaak (by rw [hP]; exact mixed) ?_); (try rw [hP]); simp -implicitDefEqProofs [Nat.not_lt.2 hi, *]) | ((with_reducible first | refine qaah ?_ | refine qaaj ?_); (try simp -implicitDefEqProofs [Nat.not_lt.2 hi, *])) | ((with_reducible refine qaaa (fun h => ?_) (fun h => ?_)) <;> have h' := h <;> (try simp at h') <;> (try subst h') <;> simp -implicitDefEqProofs [Nat.not_lt.2 hi, *]) | ((with_reducible refine qaal ?_ ?_); (first | omega | (unfold maxLen; omega)); simp -implicitDefEqProofs [Nat.not_lt.2 hi, *]) | refine yA ?_ | with_reducible refine yB ?_ ?_ | ((with_reducible refine yC fun h => ?_); have h' := h; (try simp at h'); (try subst h')) | exact yD | refine yE ?_ | ((refine qax8 (c := some (k, m)) (l := l) (v := .bool false) (ds := qaem 0 []) hm (by decide) (by decide) rfl (qaiq _) rfl rfl rfl rfl (by rw [hP]; exact qa4k) (by rw [hP]; exact qaom) rfl ⟨Co.refl _, Co.nilsl _, trivial⟩ rfl (fun σ => rfl))) | exact trivial)
 ·have e1 : ((xs.length : Int) != k) = true := by simpa using hk
  have hF2 : F = none := by rw [hF.out, if_neg hk]
  subst hF2
  repeat' (first | ((with_reducible first | refine qaao ?_ | refine qaak (by rw [hP]; exact mixed) ?_); (try rw [hP]); simp -implicitDefEqProofs [hcs, e1, *]) | ((with_reducible first | refine qaah ?_ | refine qaaj ?_); (try simp -implicitDefEqProofs [hcs, e1, *])) | ((with_reducible refine qaaa (fun h => ?_) (fun h => ?_)) <;> have h' := h <;> (try simp at h') <;> (try subst h') <;> simp -implicitDefEqProofs [hcs, e1, *]) | ((with_reducible refine qaal ?_ ?_); (first | omega | (unfold maxLen; omega)); simp -implicitDefEqProofs [hcs, e1, *]) | refine yA ?_ | with_reducible refine yB ?_ ?_ | ((with_reducible refine yC fun h => ?_); have h' := h; (try simp at h'); (try subst h')) | exact yD | refine yE ?_ | ((refine qax8 (c := some (k, m)) (l := l) (v := .bool false) (ds := qaem 0 []) hm (by decide) (by decide) rfl (qaiq _) rfl rfl rfl rfl (by rw [hP]; exact qa4k) (by rw [hP]; exact qaom) rfl ⟨Co.refl _, Co.nilsl _, trivial⟩ rfl (fun σ => rfl))) | exact trivial)
end Go.Proofs.YtalejfkholifpaaGreat
namespace Go.Proofs.YtalejfkholifpaaGreat
set_option linter.all false
open Go.RowKit
attribute [local simp] qaas qaar qaac qaag qaad qaaf qaap qaaq qaab qaa4 SOp.run SX.ev putd puts argS upds SOp.touch SSt.keep SSt.skip gets geth puth delh idOf SV.cells? setL qab7 qab8 sbin eq0 eq1 eqL qab5 qabh qabi qaa5 qaat qaae qaau qaa6 qaam qaan FrzOk qaba qaa0 qaa8 qaa9 qaav qaaz qabe qaa1 qaax qabb qaaw frzS frzH frz frz1 frz0 SlotsM ObjsM ObjM rn ren ren1 ren0 qabp qabs qabt qabo qabf qab1 qab0 CoL qabc qabw dels adds idsH qabq
theorem qav9 (σ : Nat → Nat) (o : Option Entry) : Go.Proofs.YtalejfkholifpaaGreat.ren σ (qawa o) = qawa o := by cases o <;> rfl
theorem qapd (c : qaeq) (l : List Entry) : ∀ i ∈ idsH (hobj c l), i < 2 := by intro i hi; simp [idsH, hobj] at hi; omega
theorem tfind_a (k m : Int) (l : List Entry) (xs : List Int) (h : TInv k l) (hl : l.length ≤ 1000000) (hx : xs.length ≤ 1000000) (id q : Nat) : SCalls Tryz.prog 143 [.ptr id 0, nums .u64 xs] [(id, .abs (qady (some (k, m)) l))] q (qawa (qag5 k l xs)) [(id, .abs (qady (some (k, m)) l))] :=
 qag6 (qbbu k m l xs h hl hx).1 (by decide) (fun σ h => qaf2 _ _ (h 1 (by decide))) (qapd _ _) (qbbu k m l xs h hl hx) (fun _ => rfl) (fun σ => qav9 σ _) id q
theorem tall_a (k m : Int) (l : List Entry) (h : TInv k l) (hl : l.length ≤ 1000000) (id q : Nat) : SCalls Tryz.prog 140 [.ptr id 0] [(id, .abs (qady (some (k, m)) l))] q (ents (qai9 l)) [(id, .abs (qady (some (k, m)) l))] :=
 qag6 (qbde k m l hl h.small).1 (by decide) (fun σ h => qaf2 _ _ (h 1 (by decide))) (qapd _ _) (qbde k m l hl h.small) (fun _ => rfl) (fun σ => rfl) id q
theorem tlen_a (k m : Int) (l : List Entry) (id q : Nat) : SCalls Tryz.prog 132 [.ptr id 0] [(id, .abs (qady (some (k, m)) l))] q (.int .i64 l.length) [(id, .abs (qady (some (k, m)) l))] :=
 qag6 (tlen_o k m l 2).1 (by decide) (fun σ h => qaf2 _ _ (h 1 (by decide))) (qapd _ _) (tlen_o k m l 2) (fun _ => rfl) (fun σ => rfl) id q
theorem tadd_a (k m : Int) (l : List Entry) (e : Entry) (h : TInv k l) (hl : l.length < 1000000) (he : qadk e) (id q : Nat) (hq : id < q) : SCalls Tryz.prog 139 [.ptr id 0, .agg (qaay e)] [(id, .abs (qady (some (k, m)) l))] q (.int .i64 (addV k m l e)) [(id, .abs (qady (some (k, m)) (addR k m l e)))] :=
 qag7 (tadd_s k m l e hl h.small h.fit he) (fun _ => rfl) (fun _ => rfl) rfl id q hq
theorem tdrop_a (k m : Int) (l : List Entry) (e : Entry) (h : TInv k l) (hl : l.length ≤ 1000000) (he : qadk e) (id q : Nat) (hq : id < q) : SCalls Tryz.prog 142 [.ptr id 0, .agg (qaay e)] [(id, .abs (qady (some (k, m)) l))] q (.int .i64 (dropV k l e)) [(id, .abs (qady (some (k, m)) (qan9 k l e)))] :=
 qag7 (tdrop_s k m l e hl h.small he) (fun _ => rfl) (fun _ => rfl) rfl id q hq
theorem tchg_a (k m : Int) (l : List Entry) (e : Entry) (h : TInv k l) (hl : l.length ≤ 1000000) (he : qadk e) (id q : Nat) (hq : id < q) : SCalls Tryz.prog 141 [.ptr id 0, .agg (qaay e)] [(id, .abs (qady (some (k, m)) l))] q (.int .i64 (dropV k l e)) [(id, .abs (qady (some (k, m)) (chgR k l e)))] :=
 qag7 (tchg_s k m l e hl h.small he) (fun _ => rfl) (fun _ => rfl) rfl id q hq
theorem tnew_a (k m : Int) (q : Nat) : SCalls Tryz.prog 35 [.int .i64 k, .int .i64 m] [] q (.ptr q 0) [(q, .abs (qady (some (k, m)) []))] := by
 have e0 : sg [] q 0 = q := rfl
 exact qadd [] (tnew_s k m) rfl (by simp) (by simp) rfl trivial (by simp [idsH]) (by simp [Go.Proofs.YtalejfkholifpaaGreat.ren, ren1, ren0, e0]) rfl ⟨⟨.abs (qady (some (k, m)) []), by rw [e0]; simp [geth], rfl⟩, trivial⟩ (by simp [idsH]) (by simp [idsH, e0])
end Go.Proofs.YtalejfkholifpaaGreat
namespace Go.Proofs.YtalejfkholifpaaGreat
set_option linter.all false
open Go.RowKit
def pre (W : Nat) (key : Int) (i : Nat) : Int := key / 2 ^ (W - i)
def kbit (W : Nat) (key : Int) (i : Nat) : Int := key / 2 ^ (W - 1 - i) % 2
theorem qafm (n : Nat) : (0 : Int) < 2 ^ n := Int.pow_pos (by decide)
theorem qad7 (W : Nat) (key : Int) (i : Nat) : 0 ≤ kbit W key i ∧ kbit W key i ≤ 1 := by unfold kbit; omega
theorem qakn {W : Nat} {key : Int} (h0 : 0 ≤ key) (h1 : key < 2 ^ W) : pre W key 0 = 0 := by
 unfold pre; rw [Nat.sub_zero]; exact Int.ediv_eq_zero_of_lt h0 h1
theorem qagf {W i : Nat} (key : Int) (hi : i < W) : pre W key (i + 1) = 2 * pre W key i + kbit W key i := by
 unfold pre kbit
 rw [show W - (i + 1) = W - 1 - i by omega, show W - i = (W - 1 - i) + 1 by omega]
 generalize W - 1 - i = m
 rw [Int.pow_succ, ← Int.ediv_ediv_of_nonneg (Int.le_of_lt (qafm m))]
 omega
theorem qalu {W : Nat} {key : Int} (h0 : 0 ≤ key) (i : Nat) : 0 ≤ pre W key i := Int.ediv_nonneg h0 (Int.le_of_lt (qafm _))
theorem pre_lt {W i : Nat} {key : Int} (h1 : key < 2 ^ W) (hi : i ≤ W) : pre W key i < 2 ^ i := by
 unfold pre
 refine Int.ediv_lt_of_lt_mul (qafm _) ?_
 rw [← Int.pow_add, show i + (W - i) = W by omega]
 exact h1
theorem qaxz {W n : Nat} {key : Int} (h : key % 2 ^ (W - n) = 0) : key = pre W key n * 2 ^ (W - n) := by
 unfold pre
 have := Int.emod_add_mul_ediv key (2 ^ (W - n))
 rw [h, Int.zero_add, Int.mul_comm] at this
 exact this.symm
def qae5 (width key n : Int) : Bool := decide (1 ≤ width ∧ width ≤ 64 ∧ 0 ≤ n ∧ n ≤ width ∧ key < 2 ^ width.toNat ∧ key % 2 ^ (width - n).toNat = 0)
end Go.Proofs.YtalejfkholifpaaGreat
namespace Go.Proofs.YtalejfkholifpaaGreat
set_option linter.all false
open Go.RowKit
structure Dat where
 there : Bool
 act : Int
 args : List Int
def qalc : Dat := ⟨false, 0, []⟩
def ptr (o : Option Nat) : Value := .pointer (o.map fun g => ⟨g, 0, none⟩)
theorem qado : ptr none = .pointer none := rfl
theorem qact (g : Nat) : ptr (some g) = .pointer (some ⟨g, 0, none⟩) := rfl
def NodeAt (w : World) (M : Nat → Prop) (adr : Nat → Int → Option Nat) (i : Nat) (v : Int) (g : Nat) (d : Dat) : Prop :=
 ∃ ao n c, Blk w g 103 #[.bool d.there, .int .i64 d.act, .slice ao n c, ptr (adr (i + 1) (2 * v)), ptr (adr (i + 1) (2 * v + 1))] ∧ RdL (Lay.int .u64) (fun k => ¬ M k) w ao n c d.args ∧ Fits .i64 d.act
structure Trie (w : World) (M : Nat → Prop) (adr : Nat → Int → Option Nat) (dat : Nat → Int → Dat) : Prop where
 node : ∀ i v g, adr i v = some g → NodeAt w M adr i v g (dat i v) ∧ ¬ M g
 inj : ∀ i v j u g, adr i v = some g → adr j u = some g → i = j ∧ v = u
 up : ∀ i v, adr (i + 1) v ≠ none → adr i (v / 2) ≠ none
 lt : ∀ k, M k → k < w.heap.size
theorem NodeAt.step {w w' : World} {M : Nat → Prop} {adr : Nat → Int → Option Nat} {i : Nat} {v : Int} {g : Nat} {d : Dat} (h : NodeAt w M adr i v g d) {S : Nat → Prop} (hs : Step S w w') (hM : ∀ k, S k → ¬ M k) (hg : ¬ S g) : NodeAt w' M adr i v g d := by
 obtain ⟨ao, n, c, h1, h2, h3⟩ := h
 exact ⟨ao, n, c, (hs.block g h1.lt hg).trans h1, h2.step (hs.mono hM), h3⟩
theorem Trie.step {w w' : World} {M : Nat → Prop} {adr : Nat → Int → Option Nat} {dat : Nat → Int → Dat} (h : Trie w M adr dat) {S : Nat → Prop} (hs : Step S w w') (hM : ∀ k, S k → ¬ M k) (hg : ∀ i v g, adr i v = some g → ¬ S g) : Trie w' M adr dat :=
 ⟨fun i v g e => ⟨(h.node i v g e).1.step hs hM (hg i v g e), (h.node i v g e).2⟩, h.inj, h.up, fun k hk => Nat.lt_of_lt_of_le (h.lt k hk) hs.size⟩
theorem Trie.below {w w' : World} {M : Nat → Prop} {adr : Nat → Int → Option Nat} {dat : Nat → Int → Dat} (h : Trie w M adr dat) (hb : Below w.heap.size w w') : Trie w' M adr dat :=
 h.step (S := fun _ => False) (Step.of hb) (fun _ h => h.elim) (fun _ _ _ _ h => h)
theorem Trie.cells {w : World} {M : Nat → Prop} {adr : Nat → Int → Option Nat} {dat : Nat → Int → Dat} (h : Trie w M adr dat) {i : Nat} {v : Int} {g : Nat} (e : adr i v = some g) :
  ∃ ao n c, w.cell? ⟨g, 0, none⟩ = some (.bool (dat i v).there) ∧ w.cell? ⟨g, 1, none⟩ = some (.int .i64 (dat i v).act) ∧ w.cell? ⟨g, 2, none⟩ = some (.slice ao n c) ∧ w.cell? ⟨g, 3, none⟩ = some (ptr (adr (i + 1) (2 * v))) ∧ w.cell? ⟨g, 4, none⟩ = some (ptr (adr (i + 1) (2 * v + 1))) ∧
   RdL (Lay.int .u64) (fun k => ¬ M k) w ao n c (dat i v).args ∧ g < w.heap.size ∧ (∀ j, w.frozen? ⟨g, j, none⟩ = false) := by
 obtain ⟨⟨ao, n, c, h1, h2, _⟩, _⟩ := h.node i v g e
 exact ⟨ao, n, c, by rw [h1.cell]; rfl, by rw [h1.cell]; rfl, by rw [h1.cell]; rfl, by rw [h1.cell]; rfl, by rw [h1.cell]; rfl, h2, h1.lt, fun j => h1.frozen j⟩
theorem Trie.none_up {w : World} {M : Nat → Prop} {adr : Nat → Int → Option Nat} {dat : Nat → Int → Dat} (h : Trie w M adr dat) {W : Nat} {key : Int} {i j : Nat} (hij : i ≤ j) (hj : j ≤ W) (hn : adr i (pre W key i) = none) : adr j (pre W key j) = none := by
 obtain ⟨d, rfl⟩ := Nat.exists_eq_add_of_le hij
 clear hij
 induction d with
 | zero => exact hn
 | succ d ih =>
  have ih := ih (by omega)
  cases e : adr (i + d + 1) (pre W key (i + d + 1)) with
  | none => rfl
  | some g =>
   have := h.up (i + d) (pre W key (i + d + 1)) (by rw [e]; simp)
   have e2 : pre W key (i + d + 1) / 2 = pre W key (i + d) := by rw [qagf key (by omega)]; have := qad7 W key (i + d); omega
   rw [e2, ih] at this
   exact absurd rfl this
structure Pfx (w : World) (gt : Nat) (width most n : Int) (M : Nat → Prop) (adr : Nat → Int → Option Nat) (dat : Nat → Int → Dat) : Prop where
 blk : Blk w gt 105 #[.int .i64 width, .int .i64 most, .int .i64 n, ptr (adr 0 0)]
 trie : Trie w M adr dat
 out : ¬ M gt
 root : adr 0 0 ≠ none
theorem Pfx.ne {w : World} {gt : Nat} {width most n : Int} {M : Nat → Prop} {adr : Nat → Int → Option Nat} {dat : Nat → Int → Dat} (h : Pfx w gt width most n M adr dat) {i : Nat} {v : Int} {g : Nat} (e : adr i v = some g) : g ≠ gt := by
 obtain ⟨⟨ao, k, c, h1, _⟩, _⟩ := h.trie.node i v g e
 intro he
 subst he
 have h2 := h.blk
 unfold Blk at h1 h2
 rw [h1] at h2
 injection h2 with h2
 injection h2 with _ h3
 exact absurd h3 (by decide)
end Go.Proofs.YtalejfkholifpaaGreat
namespace Go.Proofs.YtalejfkholifpaaGreat
set_option linter.all false
open Go.RowKit
theorem qbg9 (v w : Int) (h0 : 0 ≤ v) (h1 : v ≤ 18446744073709551615) (hw0 : 1 ≤ w) (hw : w ≤ 64) : bits .and .u64 v (ones w) = v % 2 ^ w.toNat := by
 have hr := qaxd w
 unfold ones at hr ⊢
 rw [if_pos ⟨hw0, hw⟩] at hr ⊢
 obtain ⟨a, rfl⟩ := Int.eq_ofNat_of_zero_le h0
 have hp : 0 < 2 ^ w.toNat := Nat.two_pow_pos _
 have e1 : qa5l w.toNat = ((2 ^ w.toNat - 1 : Nat) : Int) := by
  unfold qa5l
  have : ((2 ^ w.toNat : Nat) : Int) = (2 : Int) ^ w.toNat := by simp
  omega
 rw [e1] at hr ⊢
 rw [u64_and_nat a _ (by omega) (by omega), Nat.and_two_pow_sub_one_eq_mod]
 simp
end Go.Proofs.YtalejfkholifpaaGreat
namespace Go.Proofs.YtalejfkholifpaaGreat
set_option linter.all false
open Go.RowKit
attribute [local go_sem ↓] Go.wp_at_zero Go.wp_at_succ
theorem qadu {x : Int} (h : -9223372036854775808 ≤ x) (h2 : x ≤ 9223372036854775807) : IntKind.i64.wrap x = x := by
 simp [IntKind.wrap, IntKind.bits, IntKind.signed, Int.bmod]; omega
theorem qalv (gt : Nat) (width most n : Int) (M : Nat → Prop) (adr : Nat → Int → Option Nat) (dat : Nat → Int → Dat) (w : World) (h : Pfx w gt width most n M adr dat) :
  Calls Tryz.prog 115 #[.pointer (some ⟨gt, 0, none⟩)] w fun e w' => e = .returned (.int .i64 n) ∧ w = w' := by
 have h0 := h.blk.cell 2
 simp at h0
 have hz := h.blk.lt
 go_enter Tryz.func115, Tryz.ntmps115
 go_wp2_with fail
 go_ret
 exact ⟨rfl, rfl⟩
theorem qafn (gt : Nat) (W i : Nat) (key most n : Int) (M : Nat → Prop) (adr : Nat → Int → Option Nat) (dat : Nat → Int → Dat) (w : World) (h : Pfx w gt (W : Int) most n M adr dat) (hW : W ≤ 64) (hi : i < W) (hk : Fits .u64 key) :
  Calls Tryz.prog 131 #[.pointer (some ⟨gt, 0, none⟩), .int .u64 key, .int .i64 (i : Int)] w fun e w' => e = .returned (.int .i64 (kbit W key i)) ∧ w = w' := by
 have h0 := h.blk.cell 0
 simp at h0
 have hz := h.blk.lt
 have hk' := hk.u64
 have hcode : bits .and .u64 (key / 2 ^ (W - 1 - i)) 1 = kbit W key i := qan3 key hk'.1 hk'.2 (W - 1 - i)
 have hr := qad7 W key i
 have hw : IntKind.i64.wrap (kbit W key i) = kbit W key i := qadu (by omega) (by omega)
 have H := Lib.hid h
 clear h
 go_enter Tryz.func131, Tryz.ntmps131
 go_wp2_with fail
 go_ret
 refine ⟨qawx ?_, rfl⟩
 first | rfl | (rw [hcode]; exact hw) | exact hw | (simp only [hw]; done)
set_option maxRecDepth 100000 in
set_option maxHeartbeats 2000000 in
theorem qacj (gt : Nat) (width key k most n : Int) (M : Nat → Prop) (adr : Nat → Int → Option Nat) (dat : Nat → Int → Dat) (w : World) (h : Pfx w gt width most n M adr dat) (hw : Fits .i64 width) (hk : Fits .i64 k) (hkey : Fits .u64 key) :
  Calls Tryz.prog 127 #[.pointer (some ⟨gt, 0, none⟩), .int .u64 key, .int .i64 k] w fun e w' => e = .returned (.bool (qae5 width key k)) ∧ w = w' := by
 have h0 := h.blk.cell 0
 simp at h0
 have hz := h.blk.lt
 have hk' := hkey.u64
 have hwi := hw.i64
 have hki := hk.i64
 clear h
 by_cases c1 : width < 1
 ·have q : qae5 width key k = false := by unfold qae5; rw [decide_eq_false_iff_not]; omega
  have Q := Lib.hid q
  clear q
  go_enter Tryz.func127, Tryz.ntmps127
  go_wp2_with fail
  go_ret
  exact ⟨by rw [Q.out]; rfl, rfl⟩
 have c1' : 1 ≤ width := by omega
 by_cases c2 : 64 < width
 ·have q : qae5 width key k = false := by unfold qae5; rw [decide_eq_false_iff_not]; omega
  have Q := Lib.hid q
  clear q
  go_enter Tryz.func127, Tryz.ntmps127
  go_wp2_with fail
  go_ret
  exact ⟨by rw [Q.out]; rfl, rfl⟩
 have c2' : width ≤ 64 := by omega
 by_cases c3 : k < 0
 ·have q : qae5 width key k = false := by unfold qae5; rw [decide_eq_false_iff_not]; omega
  have Q := Lib.hid q
  clear q
  go_enter Tryz.func127, Tryz.ntmps127
  go_wp2_with fail
  go_ret
  exact ⟨by rw [Q.out]; rfl, rfl⟩
 have c3' : 0 ≤ k := by omega
 by_cases c4 : width < k
 ·have q : qae5 width key k = false := by unfold qae5; rw [decide_eq_false_iff_not]; omega
  have Q := Lib.hid q
  clear q
  go_enter Tryz.func127, Tryz.ntmps127
  go_wp2_with fail
  go_ret
  exact ⟨by rw [Q.out]; rfl, rfl⟩
 have c4' : k ≤ width := by omega
 have hon : ones width = 2 ^ width.toNat - 1 := by unfold ones; rw [if_pos ⟨c1', c2'⟩]; rfl
 by_cases c5 : ones width < key
 ·have q : qae5 width key k = false := by unfold qae5; rw [decide_eq_false_iff_not]; omega
  have Q := Lib.hid q
  clear q hon
  go_enter Tryz.func127, Tryz.ntmps127
  go_wp2_with (go_at_call 49; refine (qai8 _ _ hw).mono ?_; rintro e w' ⟨rfl, rfl⟩)
  go_ret
  exact ⟨by rw [Q.out]; rfl, rfl⟩
 have c5' : key ≤ ones width := by omega
 by_cases c6 : k = width
 ·have q : qae5 width key k = true := by
   unfold qae5; rw [decide_eq_true_iff]
   subst c6
   refine ⟨c1', c2', c3', Int.le_refl _, by omega, by simp⟩
  have Q := Lib.hid q
  have q6 : (k == width) = true := by rw [beq_iff_eq]; exact c6
  clear q hon c6
  go_enter Tryz.func127, Tryz.ntmps127
  go_wp2_with (go_at_call 49; refine (qai8 _ _ hw).mono ?_; rintro e w' ⟨rfl, rfl⟩)
  go_ret
  exact ⟨by rw [Q.out]; rfl, rfl⟩
 have q6 : (k == width) = false := by rw [beq_eq_false_iff_ne]; exact c6
 have hs : IntKind.i64.wrap (width - k) = width - k := qadu (by omega) (by omega)
 have hA : bits .and .u64 key (ones (width - k)) = key % 2 ^ (width - k).toNat := qbg9 key (width - k) hk'.1 hk'.2 (by omega) (by omega)
 have hf2 : Fits .i64 (width - k) := Fits.of_i64 (by omega) (by omega)
 obtain ⟨r, hr⟩ : ∃ r, key % 2 ^ (width - k).toNat = r := ⟨_, rfl⟩
 have hq : qae5 width key k = (r == 0) := by
  unfold qae5
  rw [← hr, Bool.eq_iff_iff, decide_eq_true_iff, beq_iff_eq]
  exact ⟨fun h => h.2.2.2.2.2, fun h => ⟨c1', c2', c3', c4', by omega, h⟩⟩
 rw [hr] at hA
 have Q := Lib.hid hq
 clear hq hon c6 hr
 go_enter Tryz.func127, Tryz.ntmps127
 go_wp2_with fail
 refine (qai8 width _ hw).mono ?_
 rintro e w' ⟨rfl, rfl⟩
 go_wp2_with fail
 refine (qai8 (width - k) _ hf2).mono ?_
 rintro e w' ⟨rfl, rfl⟩
 go_wp2_with fail
 go_ret
 exact ⟨by rw [Q.out]; rfl, rfl⟩
end Go.Proofs.YtalejfkholifpaaGreat
