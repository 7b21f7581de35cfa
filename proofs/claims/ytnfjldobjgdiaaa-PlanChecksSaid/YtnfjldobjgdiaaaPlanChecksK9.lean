/-
  Texts joined: XPloC XPloD. No condition.
-/
import Derived.Test.YtnfjldobjgdiaaaProg
import Derived.ProofKit
import Derived.WalkSpells
import Derived.RegionTactic
import Derived.BigRegion
import Derived.Deep.RegionLaw
import Derived.Test.YtnfjldobjgdiaaaPlanChecksK8
namespace Go.Proofs.Ytnfjldobjgdiaaa
set_option linter.all false
open Go.RowKit
attribute [local simp] sops_nil sops_run sopsk_some sops_call sops_guard sopsg_yes sopsg_tf sopsg_ft sopsg_undef rg_true SOp.run SX.ev putd puts argS upds SOp.touch SSt.keep SSt.skip gets geth puth delh idOf SV.cells? setL fillS fillR sbin eq0 eq1 eqL rowOf qseq_n qseq_e qseq_r qblock_n qblock_r qblock_e qloop_e qloop_r take_map_len FrzOk pureV_int pureV_bool pureV_str pureV_nil pureV_nilsl pureV_view pureV_cp pureL_nil_ pureL_cons_ pureO_row pureO_cells frzS frzH frz frz1 frz0 SlotsM ObjsM ObjM rn ren ren1 ren0 co_self co_int co_own co_view co_nilsl co_agg co_tup CoL coll_self mergeH dels adds idsH okNames
attribute [local simp] headc refc pushc casec statec opc actc tabc nodec planc nums
def begP (e : Int) : PlanD := ⟨[⟨[8]⟩], [], [⟨0, ⟨0, 0⟩, [], e⟩], [], [], [], []⟩
theorem begP_small (e : Int) : SmallP (begP e) := by
 constructor <;> simp [begP]
theorem begP_ok {e : Int} (h : 0 ≤ e ∧ e ≤ 1000) : OkPlan (begP e) := by
 have f : ∀ n : Int, 0 ≤ n ∧ n ≤ 1000 → Fits .i64 n := fun n hn => Fits.of_i64 (by omega) (by omega)
 refine ⟨?_, ?_, ?_, ?_, ?_, ?_, ?_⟩ <;> simp [begP, AllFit, OkState, OkRef]
 ·exact f _ (by omega)
 ·exact ⟨f _ (by omega), f _ h⟩
theorem coL_at : ∀ {xs ys : List SV} {j : Nat} {y : SV}, CoL xs ys → ys[j]? = some y → ∃ x, xs[j]? = some x ∧ Co x y
 | x :: xs, y :: ys, 0, _, h, hy => by cases hy; exact ⟨x, rfl, h.1⟩
 | x :: xs, y :: ys, j + 1, _, h, hy => coL_at (xs := xs) (ys := ys) (j := j) h.2 (by simpa using hy)
 | [], [], _, _, _, hy => by simp at hy
 | [], _ :: _, _, _, h, _ => h.elim
 | _ :: _, [], _, _, h, _ => h.elim
theorem coLL_at : ∀ {xs ys : List (List SV)} {j : Nat} {y : List SV}, CoLL xs ys → ys[j]? = some y → ∃ x, xs[j]? = some x ∧ CoL x y
 | x :: xs, y :: ys, 0, _, h, hy => by cases hy; exact ⟨x, rfl, h.1⟩
 | x :: xs, y :: ys, j + 1, _, h, hy => coLL_at (xs := xs) (ys := ys) (j := j) h.2 (by simpa using hy)
 | [], [], _, _, _, hy => by simp at hy
 | [], _ :: _, _, _, h, _ => h.elim
 | _ :: _, [], _, _, h, _ => h.elim
theorem co_viewl {z : Nat} {xs ys : List (List SV)} (h : CoLL xs ys) : Co (.view z xs) (.view z ys) := fun w A ρ v hv => by
 cases hv with
 | view0 hc ha =>
  have : ys = [] := List.eq_nil_of_length_eq_zero (by rw [← h.length]; rfl)
  subst this; exact .view0 hc ha
 | view cv hn hc hm hA hb hs h1 h2 ho =>
  refine .view cv (by rw [← h.length]; exact hn) hc hm hA hb (h.sizes hs) (fun i e j x he hx => ?_) (fun i e j x he hx => ?_) (fun i e j x he hx => ?_)
  all_goals
   obtain ⟨e', he', hl⟩ := coLL_at h he
   obtain ⟨x', hx', hc'⟩ := coL_at hl hx
  ·exact h1 i e' j x' he' hx'
  ·exact hc' _ _ _ _ (h2 i e' j x' he' hx')
  ·exact ho i e' j x' he' hx'
theorem pf_clean (a b : Int) : CleanV (.agg [.int .i64 a, .int .i64 b]) := clean_agg (cleanL_cons (clean_int _ _) (cleanL_cons (clean_int _ _) cleanL_nil))
theorem begP_look (e : Int) (he : 0 ≤ e ∧ e ≤ 1000) (id q : Nat) : SCalls Try.prog 17 [.agg [.view 1 [[.view 1 [[.int .i64 8]]]], .nilsl, .own id 1, .nilsl, .nilsl, .nilsl, .nilsl]] [(id, .row 65 5 [[.int .i64 0, .int .i64 0, .int .i64 0, .nilsl, .int .i64 e]])] q (.agg [.int .i64 (planF (begP e)).1, .int .i64 (planF (begP e)).2]) [(id, .row 65 5 [[.int .i64 0, .int .i64 0, .int .i64 0, .nilsl, .int .i64 e]])] := by
 have hc : SCalls Try.prog 17 [.agg [.view 1 [[.view 1 [[.int .i64 8]]]], .nilsl, .view 5 [[.int .i64 0, .int .i64 0, .int .i64 0, .nilsl, .int .i64 e]], .nilsl, .nilsl, .nilsl, .nilsl]] [] q (.agg [.int .i64 (planF (begP e)).1, .int .i64 (planF (begP e)).2]) [] := by
  refine scalls_co (pcheck_s (begP e) (begP_small e) (begP_ok he) q) ⟨co_agg ⟨Co.refl _, Co.nilsl 1, ?_, Co.nilsl 2, Co.nilsl 6, Co.nilsl 5, Co.nilsl 1, trivial⟩, trivial⟩
  exact co_viewl ⟨⟨Co.refl _, Co.refl _, Co.refl _, Co.nilsl 3, Co.refl _, trivial⟩, trivial⟩
 have hr : Lent [(id, .row 65 5 [[.int .i64 0, .int .i64 0, .int .i64 0, .nilsl, .int .i64 e]])] (.own id 1) (.view 5 [[.int .i64 0, .int .i64 0, .int .i64 0, .nilsl, .int .i64 e]]) := lent_row (e := 65) (by simp [geth]) (fun x hx => by simp at hx; subst hx; exact pureL_ints _ rfl) rfl
 exact scalls_look hc ⟨lent_agg ⟨lent_refl _, lent_refl _, hr, lent_refl _, lent_refl _, lent_refl _, lent_refl _, trivial⟩, trivial⟩ (pf_clean _ _)
theorem pbegun_s (q : Nat) : SCalls Try.prog 7 [] [] q (.bool true) [] := by
 refine scalls_q ?_ (fun _ => rfl) (fun _ => rfl) rfl q
 refine scalls_of (N := 30) Try.func7 rfl rfl (by kernel_rfl) comp_c_pbegun (by simp) (by repeat' (first | exact trivial | refine And.intro ?_ ?_ | rfl | decide | exact PureR.ren _)) (by repeat' (first | exact trivial | refine And.intro ?_ ?_ | rfl | decide | exact PureR.ren _)) ?_
 rintro X hP hN hm
 have l1 := begP_look 1000 (by omega)
 have l2 := begP_look 0 (by omega)
 have e1 : planF (begP 1000) = (0, 0) := by decide
 have e2 : planF (begP 0) = (11, 3000) := by decide
 rw [e1] at l1
 rw [e2] at l2
 unfold c_pbegun
 repeat' (first | ((with_reducible refine swp_stop (c := .seq (.reg false c_pbegun_r3 [1, 2]) (.seq (.reg false c_pbegun_r4 [1, 2]) (.seq (.reg false c_pbegun_r5 [0]) .ret))) ?_)) | (with_reducible first | refine zA ?_ | refine swp_block1 ?_ | refine swp_block2 ?_ | refine zK ?_) | ((with_reducible first | refine swp_reg ?_ | refine swp_regd (by rw [hP]; exact mixed) ?_); (try rw [hP]); simp -implicitDefEqProofs [*]) | ((with_reducible first | refine swp_skip ?_ | refine swp_exit ?_); (try simp -implicitDefEqProofs [*])) | ((with_reducible refine swp_ret ?_); (try simp only [qseq_r, qblock_r, qloop_r])) | ((with_reducible refine swp_cond rfl (fun h => ?_) (fun h => ?_)) <;> have h' := h <;> (try simp at h') <;> (try subst h')) | ((with_reducible refine sopsg_cases (fun h => ?_) (fun h => ?_)) <;> have h' := h <;> (try simp at h') <;> (try subst h') <;> simp -implicitDefEqProofs [*]) | ((with_reducible refine sopsk_rg ?_ ?_); (first | omega | (unfold maxLen; omega)); simp -implicitDefEqProofs [*]) | (with_reducible first | refine zM hm ?_ | refine zN hm ?_ | refine zO hm ?_ | refine zP hm ?_) | fail)
 constructor
 refine swp_frz [1] ?_ ?_
 ·simp only [FrzOk, geth, Nat.reduceEqDiff, reduceIte, and_true]; exact fun x hx => by simp at hx; subst hx; exact pureL_ints _ rfl
 simp -implicitDefEqProofs
 refine swp_frz [3] ?_ ?_
 ·simp only [FrzOk, geth, Nat.reduceEqDiff, reduceIte, and_true]; exact fun x hx => by simp at hx; subst hx; exact pureL_ints _ rfl
 simp -implicitDefEqProofs
 have w1 := fun q => scalls_co (call_width0 (begP 0) ⟨0, 0⟩ q) (args := [.agg [.view 1 [[.view 1 [[.int .i64 8]]]], .nilsl, .view 5 [[.int .i64 0, .int .i64 0, .int .i64 0, .nilsl, .int .i64 0]], .nilsl, .nilsl, .nilsl, .nilsl], .agg [.int .i64 0, .int .i64 0], .nilsl]) ⟨co_agg ⟨Co.refl _, Co.nilsl 1, co_viewl ⟨⟨Co.refl _, Co.refl _, Co.refl _, Co.nilsl 3, Co.refl _, trivial⟩, trivial⟩, Co.nilsl 2, Co.nilsl 6, Co.nilsl 5, Co.nilsl 1, trivial⟩, Co.refl _, Co.refl _, trivial⟩
 rw [show widthOf (begP 0) ⟨0, 0⟩ [] = 8 by decide] at w1
 have lw : ∀ id q, SCalls Try.prog 9 [.agg [.view 1 [[.view 1 [[.int .i64 8]]]], .nilsl, .own id 1, .nilsl, .nilsl, .nilsl, .nilsl], .agg [.int .i64 0, .int .i64 0], .nilsl] [(id, .row 65 5 [[.int .i64 0, .int .i64 0, .int .i64 0, .nilsl, .int .i64 0]])] q (.int .i64 8) [(id, .row 65 5 [[.int .i64 0, .int .i64 0, .int .i64 0, .nilsl, .int .i64 0]])] := fun id q => by
  have hr : Lent [(id, .row 65 5 [[.int .i64 0, .int .i64 0, .int .i64 0, .nilsl, .int .i64 0]])] (.own id 1) (.view 5 [[.int .i64 0, .int .i64 0, .int .i64 0, .nilsl, .int .i64 0]]) := lent_row (e := 65) (by simp [geth]) (fun x hx => by simp at hx; subst hx; exact pureL_ints _ rfl) rfl
  exact scalls_look (w1 q) ⟨lent_agg ⟨lent_refl _, lent_refl _, hr, lent_refl _, lent_refl _, lent_refl _, lent_refl _, trivial⟩, lent_refl _, lent_refl _, trivial⟩ (clean_int _ _)
 clear w1
 replace l1 := Lib.hid l1
 replace l2 := Lib.hid l2
 replace lw := Lib.hid lw
 repeat' (first | (with_reducible first | refine zA ?_ | refine swp_block1 ?_ | refine swp_block2 ?_ | refine zK ?_) | ((with_reducible first | refine swp_reg ?_ | refine swp_regd (by rw [hP]; exact mixed) ?_); (try rw [hP]); simp -implicitDefEqProofs [*]) | ((with_reducible first | refine swp_skip ?_ | refine swp_exit ?_); (try simp -implicitDefEqProofs [*])) | ((with_reducible refine swp_ret ?_); (try simp only [qseq_r, qblock_r, qloop_r])) | ((with_reducible refine swp_cond rfl (fun h => ?_) (fun h => ?_)) <;> have h' := h <;> (try simp at h') <;> (try subst h')) | ((with_reducible refine sopsg_cases (fun h => ?_) (fun h => ?_)) <;> have h' := h <;> (try simp at h') <;> (try subst h') <;> simp -implicitDefEqProofs [*]) | ((with_reducible refine sopsk_rg ?_ ?_); (first | omega | (unfold maxLen; omega)); simp -implicitDefEqProofs [*]) | ((first | refine call_r (l1.out _ _) ⟨rfl, trivial⟩ ⟨rfl, trivial⟩ ?_ | refine call_r (l2.out _ _) ⟨rfl, trivial⟩ ⟨rfl, trivial⟩ ?_ | refine call_r (lw.out _ _) ⟨rfl, trivial⟩ ⟨rfl, trivial⟩ ?_); simp -implicitDefEqProofs [*]) | (with_reducible first | refine zM hm ?_ | refine zN hm ?_ | refine zO hm ?_ | refine zP hm ?_) | fail)
 all_goals rfl
end Go.Proofs.Ytnfjldobjgdiaaa
namespace Go.Proofs.Ytnfjldobjgdiaaa
set_option linter.all false
open Go.RowKit Go.ChangeShapes Go.WideShapes
attribute [local simp] sops_nil sops_run sopsk_some sops_call sops_guard sopsg_yes sopsg_tf sopsg_ft sopsg_undef rg_true SOp.run SX.ev putd puts argS upds SOp.touch SSt.keep SSt.skip gets geth puth delh idOf SV.cells? setL fillS fillR sbin eq0 eq1 eqL rowOf qseq_n qseq_e qseq_r qblock_n qblock_r qblock_e qloop_e qloop_r take_map_len FrzOk pureV_int pureV_bool pureV_str pureV_nil pureV_nilsl pureV_view pureV_cp pureL_nil_ pureL_cons_ pureO_row pureO_cells frzS frzH frz frz1 frz0 SlotsM ObjsM ObjM rn ren ren1 ren0 co_self co_int co_own co_view co_nilsl co_agg co_tup CoL coll_self mergeH dels adds idsH okNames
attribute [local simp] headc refc pushc casec statec opc actc tabc nodec planc nums
theorem pchecks_s (p : PlanD) (hk : OkPlan p) (q : Nat) : SCalls Try.prog 4 [.agg (planc p)] [] q (.bool true) [] := by
 refine scalls_q ?_ (fun _ => rfl) (fun _ => rfl) rfl q
 refine scalls_of (N := 26) Try.func4 rfl rfl (by kernel_rfl) comp_c_pchecks (by simp) (by repeat' (first | exact trivial | refine And.intro ?_ ?_ | rfl | decide | exact PureR.ren _)) (by repeat' (first | exact trivial | refine And.intro ?_ ?_ | rfl | decide | exact PureR.ren _)) ?_
 rintro X hP hN hm
 have hg := fun q => gplan_s p q
 unfold c_pchecks
 cases hG : greatP p <;> rw [hG] at hg
 ·have hs := small_of hG
  have c1 := fun q => pcheck_s p hs hk q
  have c2 := fun q => rform_s p hs q
  generalize planF p = F at c1 c2
  replace c1 := Lib.hid c1
  replace c2 := Lib.hid c2
  replace hs := Lib.hid hs
  replace hk := Lib.hid hk
  repeat' (first | (with_reducible first | refine zA ?_ | refine swp_block1 ?_ | refine swp_block2 ?_ | refine zK ?_) | ((with_reducible first | refine swp_reg ?_ | refine swp_regd (by rw [hP]; exact mixed) ?_); (try rw [hP]); simp -implicitDefEqProofs [*]) | ((with_reducible first | refine swp_skip ?_ | refine swp_exit ?_); (try simp -implicitDefEqProofs [*])) | ((with_reducible refine swp_ret ?_); (try simp only [qseq_r, qblock_r, qloop_r])) | ((with_reducible refine swp_cond rfl (fun h => ?_) (fun h => ?_)) <;> have h' := h <;> (try simp at h') <;> (try subst h')) | ((with_reducible refine sopsg_cases (fun h => ?_) (fun h => ?_)) <;> have h' := h <;> (try simp at h') <;> (try subst h') <;> simp -implicitDefEqProofs [*]) | ((with_reducible refine sopsk_rg ?_ ?_); (first | omega | (unfold maxLen; omega)); simp -implicitDefEqProofs [*]) | ((first | refine call_q (pbegun_s _) ?_ | refine call_q (hg _) ?_ | refine call_q (oplan_s p hs.out _) ?_ | refine call_q (c1.out _) ?_ | refine call_q (c2.out _) ?_ | refine call_q (splan_s p hs.out _) ?_ | refine call_q (pown_s p hs.out _) ?_); simp -implicitDefEqProofs [*]) | (with_reducible first | refine zM hm ?_ | refine zN hm ?_ | refine zO hm ?_ | refine zP hm ?_) | fail)
  all_goals rfl
 ·repeat' (first | (with_reducible first | refine zA ?_ | refine swp_block1 ?_ | refine swp_block2 ?_ | refine zK ?_) | ((with_reducible first | refine swp_reg ?_ | refine swp_regd (by rw [hP]; exact mixed) ?_); (try rw [hP]); simp -implicitDefEqProofs [*]) | ((with_reducible first | refine swp_skip ?_ | refine swp_exit ?_); (try simp -implicitDefEqProofs [*])) | ((with_reducible refine swp_ret ?_); (try simp only [qseq_r, qblock_r, qloop_r])) | ((with_reducible refine swp_cond rfl (fun h => ?_) (fun h => ?_)) <;> have h' := h <;> (try simp at h') <;> (try subst h')) | ((with_reducible refine sopsg_cases (fun h => ?_) (fun h => ?_)) <;> have h' := h <;> (try simp at h') <;> (try subst h') <;> simp -implicitDefEqProofs [*]) | ((with_reducible refine sopsk_rg ?_ ?_); (first | omega | (unfold maxLen; omega)); simp -implicitDefEqProofs [*]) | ((first | refine call_q (pbegun_s _) ?_ | refine call_q (hg _) ?_); simp -implicitDefEqProofs [*]) | (with_reducible first | refine zM hm ?_ | refine zN hm ?_ | refine zO hm ?_ | refine zP hm ?_) | fail)
  all_goals rfl
theorem opens_ref : Opens Try.prog 31 refLay := by
 have h : Opens Try.prog 31 (Lay.pair (Lay.int .i64) (Lay.int .i64)) :=
  Opens.struct Try.underlying31 (OpensF.cons opensI rfl (OpensF.one opensI rfl)) (by kernel_rfl) (by decide)
 refine h.weak rfl ?_
 rintro w ⟨a, b⟩ cs hr
 exact ⟨⟨a, b⟩, hr⟩
theorem opens_push : Opens Try.prog 97 pushLay := by
 have h : Opens Try.prog 97 (Lay.pair i64L (Lay.pair refLay u64L)) :=
  Opens.struct Try.underlying97 (OpensF.cons opensI rfl (OpensF.cons opens_ref rfl (OpensF.one opensU rfl))) (by kernel_rfl) (by decide)
 refine h.weak rfl ?_
 rintro w ⟨a, b, c⟩ cs hr
 exact ⟨⟨a, b, c⟩, hr⟩
theorem opensIs : Opens Try.prog 23 (Lay.slice (Lay.int .i64)) := opensI.slice Try.underlying23 (by kernel_rfl)
theorem opens_head : Opens Try.prog 62 headLay := by
 have h : Opens Try.prog 62 (Lay.slice i64L) :=
  Opens.struct Try.underlying62 (OpensF.one opensIs rfl) (by kernel_rfl) (by decide)
 refine h.weak rfl ?_
 rintro w a cs hr
 exact ⟨⟨a⟩, hr⟩
theorem opens_case : Opens Try.prog 95 caseLay := by
 have h : Opens Try.prog 95 (Lay.pair u64L (Lay.pair u64L i64L)) :=
  Opens.struct Try.underlying95 (OpensF.cons opensU rfl (OpensF.cons opensU rfl (OpensF.one opensI rfl))) (by kernel_rfl) (by decide)
 refine h.weak rfl ?_
 rintro w ⟨a, b, c⟩ cs hr
 exact ⟨⟨a, b, c⟩, hr⟩
set_option maxRecDepth 20000 in
theorem opens_state : Opens Try.prog 65 stateLay := by
 have h : Opens Try.prog 65 (Lay.pair i64L (Lay.pair refLay (Lay.pair (Lay.slice caseLay) i64L))) :=
  Opens.struct Try.underlying65 (OpensF.cons opensI rfl (OpensF.cons opens_ref rfl (OpensF.cons (opens_case.slice Try.underlying63 (by kernel_rfl)) rfl (OpensF.one opensI rfl)))) (by kernel_rfl) (by decide)
 refine h.weak rfl ?_
 rintro w ⟨a, b, c, d⟩ cs hr
 exact ⟨⟨a, b, c, d⟩, hr⟩
theorem opens_pushes : Opens Try.prog 69 (Lay.slice pushLay) := opens_push.slice Try.underlying69 (by kernel_rfl)
set_option maxRecDepth 20000 in
theorem opens_op : Opens Try.prog 71 opLay := by
 have h : Opens Try.prog 71 (Lay.pair i64L (Lay.pair refLay (Lay.pair i64L (Lay.slice pushLay)))) :=
  Opens.struct Try.underlying71 (OpensF.cons opensI rfl (OpensF.cons opens_ref rfl (OpensF.cons opensI rfl (OpensF.one opens_pushes rfl)))) (by kernel_rfl) (by decide)
 refine h.weak rfl ?_
 rintro w ⟨a, b, c, d⟩ cs hr
 exact ⟨⟨a, b, c, d⟩, hr⟩
set_option maxRecDepth 20000 in
theorem opens_act : Opens Try.prog 68 actLay := by
 have h : Opens Try.prog 68 (Lay.pair (Lay.slice i64L) (Lay.slice opLay)) :=
  Opens.struct Try.underlying68 (OpensF.cons opensIs rfl (OpensF.one (opens_op.slice Try.underlying66 (by kernel_rfl)) rfl)) (by kernel_rfl) (by decide)
 refine h.weak rfl ?_
 rintro w ⟨a, b⟩ cs hr
 exact ⟨⟨a, b⟩, hr⟩
set_option maxRecDepth 20000 in
theorem opens_tab : Opens Try.prog 35 tabLay := by
 have h : Opens Try.prog 35 (Lay.pair i64L (Lay.pair (Lay.slice refLay) (Lay.pair (Lay.slice i64L) (Lay.pair i64L (Lay.pair i64L (Lay.slice u64L)))))) :=
  Opens.struct Try.underlying35 (OpensF.cons opensI rfl (OpensF.cons (opens_ref.slice Try.underlying32 (by kernel_rfl)) rfl (OpensF.cons opensIs rfl (OpensF.cons opensI rfl (OpensF.cons opensI rfl (OpensF.one opensN rfl)))))) (by kernel_rfl) (by decide)
 refine h.weak rfl ?_
 rintro w ⟨a, b, c, d, e, f⟩ cs hr
 exact ⟨⟨a, b, c, d, e, f⟩, hr⟩
set_option maxRecDepth 20000 in
theorem opens_node : Opens Try.prog 73 nodeLay := by
 have h : Opens Try.prog 73 (Lay.pair i64L (Lay.pair i64L (Lay.pair (Lay.slice pushLay) (Lay.pair i64L i64L)))) :=
  Opens.struct Try.underlying73 (OpensF.cons opensI rfl (OpensF.cons opensI rfl (OpensF.cons opens_pushes rfl (OpensF.cons opensI rfl (OpensF.one opensI rfl))))) (by kernel_rfl) (by decide)
 refine h.weak rfl ?_
 rintro w ⟨a, b, c, d, e⟩ cs hr
 exact ⟨⟨a, b, c, d, e⟩, hr⟩
set_option maxRecDepth 20000 in
theorem opens_plan : Opens Try.prog 29 planLay := by
 have h : Opens Try.prog 29 (Lay.pair (Lay.slice headLay) (Lay.pair (Lay.slice i64L) (Lay.pair (Lay.slice stateLay) (Lay.pair (Lay.slice actLay) (Lay.pair (Lay.slice tabLay) (Lay.pair (Lay.slice nodeLay) (Lay.slice i64L))))))) :=
  Opens.struct Try.underlying29 (OpensF.cons (opens_head.slice Try.underlying22 (by kernel_rfl)) rfl (OpensF.cons opensIs rfl (OpensF.cons (opens_state.slice Try.underlying24 (by kernel_rfl)) rfl (OpensF.cons (opens_act.slice Try.underlying25 (by kernel_rfl)) rfl (OpensF.cons (opens_tab.slice Try.underlying26 (by kernel_rfl)) rfl (OpensF.cons (opens_node.slice Try.underlying27 (by kernel_rfl)) rfl (OpensF.one opensIs rfl))))))) (by kernel_rfl) (by decide)
 refine h.weak rfl ?_
 rintro w ⟨a, b, c, d, e, f, g⟩ cs hr
 exact ⟨⟨a, b, c, d, e, f, g⟩, hr⟩
theorem rep_lay {α : Type} {L : Lay α} {f : α → List SV} (hp : LayP L f) {w : World} {x : α} {cs : Array Value} (h : L.rep NoA w x cs.toList) : RepV w (fun _ => False) noPl (.agg (f x)) (.agg cs) := by
 obtain ⟨h1, h2⟩ := hp NoA w x cs.toList h
 have := RepV.agg (w := w) (A := NoA) (ρ := noPl) (cs := f x) (vs := cs.toList) h2 h1.1 h1.2
 exact this
theorem PlanChecks_law (p : PlanD) (cs : Array Value) (w : World) (h : planLay.rep NoA w p cs.toList) :
  Calls Try.prog 4 #[.agg cs] w fun e w' => e = .returned (.bool true) ∧ Below w.heap.size w w' :=
 law_of (vs := [.agg cs]) (pchecks_s p (layF_plan NoA w p cs.toList h) 0) (Reps.cons (rep_lay layP_plan h) Reps.nil)
end Go.Proofs.Ytnfjldobjgdiaaa
