/-
  Texts joined: XGrdG XGrdP XGrdQ. No condition.
-/
import Derived.Test.YtfakdapglbgokaaJ24
import Derived.Test.YtfakdapglbgokaaI30
import Derived.Test.YtfakdapglbgokaaJ31
/-
  Package guard, in the plain machine: Check. No condition.
-/
namespace Go.Proofs.Ytfakdapglbgokaa
set_option linter.all false
open Go.RowKit
attribute [local simp] sops_nil sops_run sopsk_some sops_call sops_guard sopsg_yes sopsg_tf sopsg_ft sopsg_undef rg_true SOp.run SX.ev putd puts argS upds SOp.touch SSt.keep SSt.skip gets geth puth delh idOf SV.cells? setL fillS fillR sbin eq0 eq1 eqL rowOf qseq_n qseq_e qseq_r qblock_n qblock_r qblock_e qloop_e qloop_r take_map_len FrzOk pureV_int pureV_bool pureV_str pureV_nil pureV_nilsl pureV_view pureV_cp pureL_nil_ pureL_cons_ pureO_row pureO_cells frzS frzH frz frz1 frz0 SlotsM ObjsM ObjM rn ren ren1 ren0 co_self co_int co_own co_view co_nilsl co_agg co_tup CoL coll_self mergeH dels adds idsH okNames
instance : Inhabited GSt := ⟨gzero⟩
def gJump (op : Int) : Bool := decide (op = 12 ∨ op = 9 ∨ op = 10 ∨ op = 11)
def gAfter (x : Ins) (s : GSt) : GSt := if x.op = 9 then setR s x.r ⟨(regAt s x.r).set, (regAt s x.r).just, (regAt s x.r).n, if (regAt s x.r).room < x.n then x.n else (regAt s x.r).room⟩ else s
/-- What is known behind an instruction, where there is no fault. -/
def gPut (x : Ins) (i : Nat) (s : GSt) (at_ : List GSt) : List GSt :=
  let a1 := if gJump x.op then at_.set (i + 1 + x.to.toNat) (gJoin (at_.getD (i + 1 + x.to.toNat) default) s) else at_
  if x.op ≠ 12 ∧ isEnd x.op = false then a1.set (i + 1) (gJoin (a1.getD (i + 1) default) (gAfter x s)) else a1
def gStep (p : Prog) (i : Nat) (at_ : List GSt) : Int × List GSt :=
  if (at_.getD i default).there = false then (0, at_)
  else ((gDoes p.tabs (nth p.code i) (at_.getD i default)).2, gPut (nth p.code i) i (gDoes p.tabs (nth p.code i) (at_.getD i default)).1 at_)
/-- The fault that is found from the i-th instruction on, of m. -/
def gFrom (p : Prog) : Nat → Nat → List GSt → Int × Int
  | 0, _, _ => (0, 0)
  | m + 1, i, at_ => if (gStep p i at_).1 ≠ 0 then ((gStep p i at_).1, (i : Int)) else gFrom p m (i + 1) (gStep p i at_).2
def gFirst : GSt := ⟨true, List.replicate 10 ⟨false, false, 0, -1⟩, List.replicate 96 false⟩
def gF (p : Prog) : Int × Int := if (progF p).1 ≠ 0 then progF p else gFrom p p.code.length 0 (gFirst :: List.replicate p.code.length gzero)
def gRow (l : List GSt) : List (List SV) := l.map stc
theorem gRow_ren (σ : Nat → Nat) (l : List GSt) : (gRow l).map (·.map (ren σ)) = gRow l := by
  unfold gRow
  rw [List.map_map]
  exact List.map_congr_left fun s _ => stc_ren σ s
theorem gRow_zero (n : Nat) : List.replicate n zst = gRow (List.replicate n gzero) := by unfold gRow; rw [List.map_replicate]; rfl
def gR0 : List Kn := List.replicate 10 ⟨false, false, 0, 0⟩
def gR1 : List Kn := List.replicate 10 ⟨false, false, 0, -1⟩
theorem gR0_len : gR0.length = 10 := rfl
theorem gR1_len : gR1.length = 10 := rfl
def gS0 : List Bool := List.replicate 96 false
def gBeg (i : Nat) : GSt := ⟨true, mixL (fun _ y => y) gR0 gR1 i, gS0⟩
theorem gBeg_ok {i : Nat} (hi : i ≤ 10) : GOk (gBeg i) := ⟨(mix_len (gR0_len.trans gR1_len.symm) (by rw [gR0_len]; exact hi)).trans gR0_len, rfl⟩
theorem gBeg_succ {i : Nat} (hi : i < 10) : (stc (gBeg i)).set (1 + i * 4 + 3) (.int .i64 (-1)) = stc (gBeg (i + 1)) := by
  have hl : i < (gBeg i).regs.length := by rw [(gBeg_ok (by omega)).r]; exact hi
  have h0 : i < gR0.length := by rw [gR0_len]; exact hi
  have hg : (gBeg i).regs[i] = gR0[i] := by
    have := mix_get (f := fun _ y => y) (xs := gR0) (ys := gR1) (gR0_len.trans gR1_len.symm) h0
    have h2 := List.getElem?_eq_getElem hl
    exact Option.some.inj (h2.symm.trans this)
  have hg0 : gR0[i] = ⟨false, false, 0, 0⟩ := List.getElem_replicate _
  have hg1 : ∀ h, gR1[i]'h = ⟨false, false, 0, -1⟩ := fun h => List.getElem_replicate _
  rw [stc_setf' (k' := ⟨false, false, 0, -1⟩) hl (by omega) (by rw [hg, hg0]; rfl)]
  have := mix_set (f := fun _ y => y) (xs := gR0) (ys := gR1) (gR0_len.trans gR1_len.symm) h0
  rw [hg1] at this
  exact congrArg (fun l => stc ⟨true, l, gS0⟩) this
theorem gBeg_end : gBeg 10 = gFirst := by
  unfold gBeg
  rw [show mixL (fun _ y => y) gR0 gR1 10 = gR1 from rfl]; rfl
theorem agg_fault : aggOf Try.prog 65 = some true := by kernel_rfl
theorem size_fault : sizeOf_ Try.prog 65 = some 2 := by kernel_rfl
theorem stc_all (f : SV → Bool) (hb : ∀ b, f (.bool b) = true) (hi : ∀ k n, f (.int k n) = true) (s : GSt) : (stc s).all f = true := by
  unfold stc
  simp only [List.all_cons, List.all_append, hb, Bool.true_and, Bool.and_eq_true, List.all_eq_true]
  refine ⟨fun x hx => ?_, fun x hx => ?_⟩
  · obtain ⟨l, hl, hx⟩ := List.mem_flatten.1 hx
    obtain ⟨k, _, rfl⟩ := List.mem_map.1 hl
    simp [kc] at hx; rcases hx with rfl | rfl | rfl | rfl
    · exact hb _
    · exact hb _
    · exact hi _ _
    · exact hi _ _
  · obtain ⟨b, _, rfl⟩ := List.mem_map.1 hx; exact hb b
theorem call_sjoin (s o : GSt) (hs : GOk s) (ho : GOk o) (q : Nat) : SCalls Try.prog 117 [.agg (stc s), .agg (stc o)] [] q (.agg (stc (gJoin s o))) [] :=
  scalls_q (sjoin_s s o hs ho) (fun σ => by show [SV.agg ((stc s).map (ren1 σ)), SV.agg ((stc o).map (ren1 σ))] = _; rw [stc_ren1, stc_ren1]) (fun σ => by show SV.agg ((stc _).map (ren1 σ)) = _; rw [stc_ren1]) (stc_all ok1 (fun _ => rfl) (fun _ _ => rfl) _) q
theorem gOk_set {l : List GSt} {i : Nat} {J : GSt} (h : ∀ s ∈ l, GOk s) (hJ : GOk J) : ∀ s ∈ l.set i J, GOk s := fun s hs => by
  rcases List.mem_or_eq_of_mem_set hs with hs | rfl
  · exact h s hs
  · exact hJ
theorem getD_lt {l : List GSt} {i : Nat} (h : i < l.length) : l.getD i default = l[i] := by rw [List.getD_eq_getElem?_getD, List.getElem?_eq_getElem h]; rfl
theorem gFrom_step {p : Prog} {i : Nat} {at_ : List GSt} (hi : i < p.code.length) (h : (gStep p i at_).1 = 0) : gFrom p (p.code.length - i) i at_ = gFrom p (p.code.length - (i + 1)) (i + 1) (gStep p i at_).2 := by
  rw [show p.code.length - i = (p.code.length - (i + 1)) + 1 by omega, gFrom, if_neg (by simpa using h)]
theorem gFrom_stop {p : Prog} {i : Nat} {at_ : List GSt} (hi : i < p.code.length) (h : (gStep p i at_).1 ≠ 0) : gFrom p (p.code.length - i) i at_ = ((gStep p i at_).1, (i : Int)) := by
  rw [show p.code.length - i = (p.code.length - (i + 1)) + 1 by omega, gFrom, if_pos h]
theorem gRow_get {l : List GSt} {i : Nat} (h : i < l.length) : (gRow l)[i]? = some (stc l[i]) := by unfold gRow; rw [List.getElem?_map, List.getElem?_eq_getElem h]; rfl
theorem gRow_set (l : List GSt) (i : Nat) (s : GSt) : (gRow l).set i (stc s) = gRow (l.set i s) := by unfold gRow; rw [List.map_set]
theorem gRow_len (l : List GSt) : (gRow l).length = l.length := by unfold gRow; rw [List.length_map]
def gInv (p : Prog) (s' : SSt) (m : Nat) : Prop := ∃ (i : Nat) (at_ : List GSt), s' = ⟨[(2, .ptr 0 0), (4, .ptr 1 0), (44, .view 6 (p.code.map icv)), (45, .int .i64 p.code.length), (46, .int .i64 i)], [(0, .cells 65 [.int .i64 0, .int .i64 0]), (1, .cells 149 (pcv p ++ [.own 2 (p.code.length + 1)])), (2, .row 155 137 (gRow at_))], 3⟩ ∧
  i ≤ p.code.length ∧ at_.length = p.code.length + 1 ∧ (∀ s ∈ at_, GOk s) ∧ gFrom p (p.code.length - i) i at_ = gFrom p p.code.length 0 (gFirst :: List.replicate p.code.length gzero) ∧ m = p.code.length - i
theorem call_gdoes (p : Prog) (slots : Int) (x : Ins) (s : GSt) (hx : InsP slots p.tabs x) (hs : GOk s) (a n : Nat) (q : Nat) : SCalls Try.prog 116 [.ptr a 0, .agg (icv x), .agg (stc s)] [(a, .cells 149 (pcv p ++ [.own (a + 1) n]))] q (gres (gDoes p.tabs x s)) [(a, .cells 149 (pcv p ++ [.own (a + 1) n]))] := by
  refine scalls_look (args' := [gcp p.tabs, .agg (icv x), .agg (stc s)]) (scalls_q (gdoes_s p.tabs slots x s hx hs) (fun σ => by show [gcp p.tabs, SV.agg (icv x), SV.agg ((stc s).map (ren1 σ))] = _; rw [stc_ren1]) (fun σ => gres_ren σ _) (ok2_gres _) q) ?_ ?_
  · refine ⟨lent_ptr (t := 149) (cs := pcv p ++ [.own (a + 1) n]) (by simp [geth]) (show LentL _ [.int .i64 p.slots, .view 3 (p.tabs.map scv), .view 6 (p.code.map icv), .own (a + 1) n] [.any, .view 3 (p.tabs.map scv), .any, .any] from ⟨lent_any _, lent_refl _, lent_any _, lent_any _, trivial⟩) ?_, lent_refl _, lent_refl _, trivial⟩
    exact pureL_cons pure_any (pureL_cons (pure_view _ _) (pureL_cons pure_any (pureL_cons pure_any pureL_nil)))
  · refine clean_tup (cleanL_cons (clean_agg fun y hy => ?_) (cleanL_cons (clean_int _ _) cleanL_nil))
    unfold stc at hy
    rcases List.mem_cons.1 hy with rfl | hy
    · exact clean_bool _
    rcases List.mem_append.1 hy with hy | hy
    · obtain ⟨l, hl, hy⟩ := List.mem_flatten.1 hy
      obtain ⟨k, _, rfl⟩ := List.mem_map.1 hl
      simp [kc] at hy; rcases hy with rfl | rfl | rfl | rfl
      · exact clean_bool _
      · exact clean_bool _
      · exact clean_int _ _
      · exact clean_int _ _
    · obtain ⟨b, _, rfl⟩ := List.mem_map.1 hy; exact clean_bool _
set_option maxHeartbeats 8000000 in
theorem gcheck_s (p : Prog) (hp : PWf p) : SCalls Try.prog 68 [.agg (pcv p)] [] 0 (faultV (gF p)) [] := by
  refine scalls_of (N := 154) Try.func68 rfl rfl (by kernel_rfl) comp_c_gchk (by simp) ⟨rfl, trivial⟩ trivial ?_
  rintro X hP hN hm
  have fin : ∀ y cs hp' nx, cs = [.int .i64 (gF p).1, .int .i64 (gF p).2] → (hp' = [] ∨ True) → QFun X [ResultVar.cell 2 65] 0 (faultV (gF p)) [] .ret ⟨[(2, .ptr 1 0)], (0, y) :: (1, .cells 65 cs) :: hp', nx⟩ := fun y cs hp' nx hc _ => by
    subst hc
    exact qfun_done (s' := ⟨[(2, .ptr 0 0)], [(0, .cells 65 [.int .i64 (gF p).1, .int .i64 (gF p).2])], 1⟩) (wk_list [(0, 1)] hm rfl (by simp) (by simp -implicitDefEqProofs) (by simp -implicitDefEqProofs)) (by simp -implicitDefEqProofs [hP, resOf, resL, resV, agg_fault, size_fault, one_, faultV]) trivial (by simp)
  unfold c_gchk
  by_cases h0 : (progF p).1 = 0
  · obtain ⟨hv, _⟩ := progF_valid hp.c h0
    have hcl : p.code.length ≤ 60000 := hv.code.2
    replace hv := Lib.hid hv
    have w1 : IntKind.i64.wrap ((p.code.length : Int) + 1) = (p.code.length : Int) + 1 := i64_add_ (by omega) (by omega)
    have w2 : ((p.code.length : Int) + 1).toNat = p.code.length + 1 := by omega
    have w3 : 0 ≤ (p.code.length : Int) + 1 := by omega
    have w4 : (p.code.length : Int) + 1 ≤ (maxLen : Nat) := by unfold maxLen; omega
    have w5 : ((p.code.length : Int) + 1) * 344 ≤ 140737488355328 := by omega
    repeat' (first
        | (with_reducible refine swp_seq ?_)
        | ((with_reducible refine swp_reg ?_); (try rw [hP]); simp -implicitDefEqProofs [pcv, faultV, *])
        | ((with_reducible refine swp_regd (by rw [hP]; exact mixed) ?_); (try rw [hP]); simp -implicitDefEqProofs [pcv, faultV, *])
        | ((with_reducible refine swp_skip ?_); (try simp -implicitDefEqProofs [pcv, faultV, *]))
        | ((with_reducible refine swp_exit ?_); (try simp -implicitDefEqProofs [pcv, faultV, *]))
        | ((with_reducible refine swp_ret ?_); (try simp only [qseq_r, qblock_r, qloop_r]))
        | ((with_reducible refine swp_cond rfl (fun h => ?_) (fun h => ?_)) <;> have h' := h <;> (try simp at h') <;> (try subst h'))
        | ((with_reducible refine sopsg_cases (fun h => ?_) (fun h => ?_)) <;> have h' := h <;> (try simp at h') <;> (try subst h') <;> simp -implicitDefEqProofs [pcv, faultV, *])
        | ((with_reducible refine draw_ok ?_ ?_); (focus rfl))
        | ((with_reducible refine sopsk_rg ?_ ?_); (first | omega | (unfold maxLen; omega)); simp -implicitDefEqProofs [pcv, faultV, *])
        | (with_reducible refine swp_block1 ?_)
        | (with_reducible refine swp_block2 ?_)
        | (refine call_q (wcheck_s p hp _) ?_; simp -implicitDefEqProofs [pcv, faultV, *]))
    have hrow : (List.replicate (p.code.length + 1) zst).set 0 (zst.set 0 (.bool true)) = gRow (gBeg 0 :: List.replicate p.code.length gzero) := by
      rw [List.replicate_succ, gRow_zero]; rfl
    refine swp_block (swp_loop (fun s' m => ∃ i : Nat, s' = ⟨[(1, .ptr 0 0), (2, .ptr 1 0), (4, .ptr 2 0), (30, .int .i64 i)], [(0, .cells 63 (pcv p)), (1, .cells 65 [.int .i64 0, .int .i64 0]), (2, .cells 149 (pcv p ++ [.own 3 (p.code.length + 1)])), (3, .row 155 137 (gRow (gBeg i :: List.replicate p.code.length gzero)))], 4⟩ ∧ i ≤ 10 ∧ m = 10 - i) (wk_list [(0, 0), (1, 1), (2, 23), (3, 21)] hm rfl (by simp) (by simp -implicitDefEqProofs) (by refine And.intro ⟨_, rfl, rfl, .refl _⟩ (And.intro ⟨_, rfl, rfl, .refl _⟩ (And.intro ⟨_, rfl, rfl, .refl _⟩ (And.intro ⟨_, rfl, rfl, rfl, ?_⟩ trivial))); rw [gRow_ren, ← hrow]; exact .refl _)) ⟨0, rfl, by omega, rfl⟩ ?_)
    rintro s' m ⟨i, rfl, h1, rfl⟩
    unfold c_gchk_l1
    rcases Nat.lt_or_ge i 10 with hi | hi
    · have f1 : 1 + i * 4 ≤ 133 := by omega
      have f2 : (gRow (gBeg i :: List.replicate p.code.length gzero))[0]? = some (stc (gBeg i)) := rfl
      have f3 := gBeg_succ hi
      have f5 : (i : Int) < 10 := by omega
      have f6 : i < 10 := by omega
      have f4 : ∀ s, (gRow (gBeg i :: List.replicate p.code.length gzero)).set 0 (stc s) = gRow (s :: List.replicate p.code.length gzero) := fun s => rfl
      repeat' (first
          | (with_reducible refine swp_seq ?_)
          | ((with_reducible refine swp_reg ?_); (try rw [hP]); simp -implicitDefEqProofs [pcv, *])
          | ((with_reducible refine swp_regd (by rw [hP]; exact mixed) ?_); (try rw [hP]); simp -implicitDefEqProofs [pcv, *])
          | ((with_reducible refine swp_skip ?_); (try simp -implicitDefEqProofs [pcv, *]))
          | ((with_reducible refine swp_exit ?_); (try simp -implicitDefEqProofs [pcv, *]))
          | ((with_reducible refine swp_ret ?_); (try simp only [qseq_r, qblock_r, qloop_r]))
          | ((with_reducible refine swp_cond rfl (fun h => ?_) (fun h => ?_)) <;> have h' := h <;> (try simp at h') <;> (try subst h'))
          | ((with_reducible refine sopsg_cases (fun h => ?_) (fun h => ?_)) <;> have h' := h <;> (try simp at h') <;> (try subst h') <;> simp -implicitDefEqProofs [pcv, *])
          | ((with_reducible refine draw_ok ?_ ?_); (focus rfl))
          | ((with_reducible refine sopsk_rg ?_ ?_); (first | omega | (unfold maxLen; omega)); simp -implicitDefEqProofs [pcv, *])
          | (with_reducible refine swp_block1 ?_)
          | (with_reducible refine swp_block2 ?_)
          | ((rw [i64_add_ (by omega) (by omega)]; refine qloop_next (wk_list [(0, 0), (1, 1), (2, 2), (3, 3)] hm rfl (by simp) ?_ ?_) ⟨i + 1, rfl, by omega, rfl⟩ (by omega); (focus (simp -implicitDefEqProofs; done)); (focus (refine And.intro ⟨_, rfl, rfl, .refl _⟩ (And.intro ⟨_, rfl, rfl, .refl _⟩ (And.intro ⟨_, rfl, rfl, .refl _⟩ (And.intro ⟨_, rfl, rfl, rfl, ?_⟩ trivial))); rw [gRow_ren]; exact .refl _)))))
    · obtain rfl : i = 10 := by omega
      rw [gBeg_end]
      repeat' (first
          | (with_reducible refine swp_seq ?_)
          | ((with_reducible refine swp_reg ?_); (try rw [hP]); simp -implicitDefEqProofs [pcv, *])
          | ((with_reducible refine swp_regd (by rw [hP]; exact mixed) ?_); (try rw [hP]); simp -implicitDefEqProofs [pcv, *])
          | ((with_reducible refine swp_skip ?_); (try simp -implicitDefEqProofs [pcv, *]))
          | ((with_reducible refine swp_exit ?_); (try simp -implicitDefEqProofs [pcv, *]))
          | ((with_reducible refine swp_ret ?_); (try simp only [qseq_r, qblock_r, qloop_r]))
          | ((with_reducible refine swp_cond rfl (fun h => ?_) (fun h => ?_)) <;> have h' := h <;> (try simp at h') <;> (try subst h'))
          | ((with_reducible refine sopsg_cases (fun h => ?_) (fun h => ?_)) <;> have h' := h <;> (try simp at h') <;> (try subst h') <;> simp -implicitDefEqProofs [pcv, *])
          | ((with_reducible refine draw_ok ?_ ?_); (focus rfl))
          | ((with_reducible refine sopsk_rg ?_ ?_); (first | omega | (unfold maxLen; omega)); simp -implicitDefEqProofs [pcv, *])
          | (with_reducible refine swp_block1 ?_)
          | (with_reducible refine swp_block2 ?_))
      have hgF : gF p = gFrom p p.code.length 0 (gFirst :: List.replicate p.code.length gzero) := by unfold gF; rw [if_neg (by simpa using h0)]
      have fin2 : ∀ cs hp' nx, cs = [.int .i64 (gF p).1, .int .i64 (gF p).2] → (hp' = [] ∨ True) → QFun X [ResultVar.cell 2 65] 0 (faultV (gF p)) [] .ret ⟨[(2, .ptr 0 0)], (0, .cells 65 cs) :: hp', nx⟩ := fun cs hp' nx hc _ => by
        subst hc
        exact qfun_done (s' := ⟨[(2, .ptr 0 0)], [(0, .cells 65 [.int .i64 (gF p).1, .int .i64 (gF p).2])], 1⟩) (wk_list [(0, 0)] hm rfl (by simp) (by simp -implicitDefEqProofs) (by simp -implicitDefEqProofs)) (by simp -implicitDefEqProofs [hP, resOf, resL, resV, agg_fault, size_fault, one_, faultV]) trivial (by simp)
      replace hgF := Lib.hid hgF
      clear fin
      refine swp_block (swp_loop (gInv p) (wk_list [(0, 1), (1, 2), (2, 3)] hm rfl (by simp) (by simp -implicitDefEqProofs) (by refine And.intro ⟨_, rfl, rfl, .refl _⟩ (And.intro ⟨_, rfl, rfl, .refl _⟩ (And.intro ⟨_, rfl, rfl, rfl, ?_⟩ trivial)); rw [gRow_ren]; exact .refl _)) ⟨0, gFirst :: List.replicate p.code.length gzero, rfl, by omega, by simp, ?_, rfl, rfl⟩ ?_)
      · intro s hs
        rcases List.mem_cons.1 hs with rfl | hs
        · rw [← gBeg_end]; exact gBeg_ok (by omega)
        · rw [List.eq_of_mem_replicate hs]; exact ⟨rfl, rfl⟩
      rintro s' m ⟨j, at_, rfl, h2, h3, h4, h5, rfl⟩
      unfold c_gchk_l2
      rcases Nat.lt_or_ge j p.code.length with hj | hj
      · have hx := (progF_ins_ok hp.c h0 j hj).1
        have ht := (progF_ins_ok hp.c h0 j hj).2
        rw [nth_lt _ _ hj] at hx ht
        have hjl : j < at_.length := by omega
        have hs := h4 at_[j] (List.getElem_mem hjl)
        have g1 := gRow_get hjl
        have l1 := stc_len hs
        have l2 := stc_take hs
        have hG := gDoes_ok (tabs := p.tabs) (x := p.code[j]) hs
        have g2 : (stc at_[j])[0]? = some (.bool at_[j].there) := rfl
        have hst : gStep p j at_ = if at_[j].there = false then (0, at_) else ((gDoes p.tabs p.code[j] at_[j]).2, gPut p.code[j] j (gDoes p.tabs p.code[j] at_[j]).1 at_) := by
          unfold gStep; rw [nth_lt _ _ hj, List.getD_eq_getElem?_getD, List.getElem?_eq_getElem hjl]; rfl
        have hcall := call_gdoes p p.slots p.code[j] at_[j] hx hs 1 (p.code.length + 1)
        have c1 : (p.code.map icv)[j]? = some (icv p.code[j]) := by rw [List.getElem?_map, List.getElem?_eq_getElem hj]; rfl
        generalize hxx : p.code[j] = x at hx ht hG hst hcall c1
        generalize hss : at_[j] = s0 at hs g1 l1 l2 hG g2 hst hcall
        generalize hGG : gDoes p.tabs x s0 = G at hG hst hcall
        obtain ⟨st, e⟩ := G
        have d1 : (j : Int) < p.code.length := by omega
        have d2 : j < p.code.length + 1 := by omega
        replace hx := Lib.hid hx
        replace ht := Lib.hid ht
        replace hst := Lib.hid hst
        replace hcall := Lib.hid hcall
        replace h5 := Lib.hid h5
        have l3 := stc_len hG
        have l4 := stc_take hG
        cases hth : s0.there
        · rw [hth] at g2
          repeat' (first
              | (with_reducible refine swp_seq ?_)
              | ((with_reducible refine swp_reg ?_); (try rw [hP]); simp -implicitDefEqProofs [pcv, icv, stc_get0, *])
              | ((with_reducible refine swp_regd (by rw [hP]; exact mixed) ?_); (try rw [hP]); simp -implicitDefEqProofs [pcv, icv, stc_get0, *])
              | ((with_reducible refine swp_skip ?_); (try simp -implicitDefEqProofs [pcv, icv, stc_get0, *]))
              | ((with_reducible refine swp_exit ?_); (try simp -implicitDefEqProofs [pcv, icv, stc_get0, *]))
              | ((with_reducible refine swp_ret ?_); (try simp only [qseq_r, qblock_r, qloop_r]))
              | ((with_reducible refine swp_cond rfl (fun h => ?_) (fun h => ?_)) <;> have h' := h <;> (try simp at h') <;> (try subst h'))
              | ((with_reducible refine sopsg_cases (fun h => ?_) (fun h => ?_)) <;> have h' := h <;> (try simp at h') <;> (try subst h') <;> simp -implicitDefEqProofs [pcv, icv, stc_get0, *])
              | ((with_reducible refine draw_ok ?_ ?_); (focus rfl))
              | ((with_reducible refine sopsk_rg ?_ ?_); (first | omega | (unfold maxLen; omega)); simp -implicitDefEqProofs [pcv, icv, stc_get0, *])
              | (with_reducible refine swp_block1 ?_)
              | (with_reducible refine swp_block2 ?_)
              | ((rw [i64_add_ (by omega) (by omega)]; refine qloop_next (wk_list [(0, 0), (1, 1), (2, 2)] hm rfl (by simp) ?_ ?_) ⟨j + 1, at_, rfl, by omega, h3, h4, ?_, rfl⟩ (by omega); (focus (simp -implicitDefEqProofs; done)); (focus (refine And.intro ⟨_, rfl, rfl, .refl _⟩ (And.intro ⟨_, rfl, rfl, .refl _⟩ (And.intro ⟨_, rfl, rfl, rfl, ?_⟩ trivial)); rw [gRow_ren]; exact .refl _)))))
          have h6 : gStep p j at_ = (0, at_) := by rw [hst.out, hth]; rfl
          rw [← h5.out, gFrom_step hj (by rw [h6]), h6]
        rw [hth] at g2
        by_cases he : e = 0
        rotate_left
        ·
          repeat' (first
              | (with_reducible refine swp_seq ?_)
              | ((with_reducible refine swp_reg ?_); (try rw [hP]); simp -implicitDefEqProofs [pcv, icv, gres, stc_get0, *])
              | ((with_reducible refine swp_regd (by rw [hP]; exact mixed) ?_); (try rw [hP]); simp -implicitDefEqProofs [pcv, icv, gres, stc_get0, *])
              | ((with_reducible refine swp_skip ?_); (try simp -implicitDefEqProofs [pcv, icv, gres, stc_get0, *]))
              | ((with_reducible refine swp_exit ?_); (try simp -implicitDefEqProofs [pcv, icv, gres, stc_get0, *]))
              | ((with_reducible refine swp_ret ?_); (try simp only [qseq_r, qblock_r, qloop_r]))
              | ((with_reducible refine swp_cond rfl (fun h => ?_) (fun h => ?_)) <;> have h' := h <;> (try simp at h') <;> (try subst h'))
              | ((with_reducible refine sopsg_cases (fun h => ?_) (fun h => ?_)) <;> have h' := h <;> (try simp at h') <;> (try subst h') <;> simp -implicitDefEqProofs [pcv, icv, gres, stc_get0, *])
              | ((with_reducible refine draw_ok ?_ ?_); (focus rfl))
              | ((with_reducible refine sopsk_rg ?_ ?_); (first | omega | (unfold maxLen; omega)); simp -implicitDefEqProofs [pcv, icv, gres, stc_get0, *])
              | (with_reducible refine swp_block1 ?_)
              | (with_reducible refine swp_block2 ?_)
              | (refine call_r (hcall.out _) ⟨rfl, trivial⟩ ⟨rfl, trivial⟩ ?_; simp -implicitDefEqProofs [pcv, icv, gres, stc_get0, *])
              | (refine fin2 _ _ _ ?_ (.inr trivial))
              | ((exfalso; omega)))
          have h6 : gStep p j at_ = (e, gPut x j st at_) := by rw [hst.out, hth]; rfl
          rw [hgF.out, ← h5.out, gFrom_stop hj (by rw [h6]; exact he), h6]
        subst he
        have h6 : gStep p j at_ = (0, gPut x j st at_) := by rw [hst.out, hth]; rfl
        have hnext : gFrom p (p.code.length - (j + 1)) (j + 1) (gPut x j st at_) = gFrom p p.code.length 0 (gFirst :: List.replicate p.code.length gzero) := by
          rw [← h5.out, gFrom_step hj (by rw [h6]), h6]
        replace hnext := Lib.hid hnext
        clear h6
        obtain ⟨hto, hjt⟩ := ht.out
        obtain ⟨T, hT⟩ : ∃ n : Nat, x.to = n := ⟨x.to.toNat, by omega⟩
        have hr := hx.out.r
        obtain ⟨R, hR⟩ : ∃ n : Nat, x.r = n := ⟨x.r.toNat, by omega⟩
        have hRl : R < st.regs.length := by rw [hG.r]; omega
        replace hcall := hcall.out
        simp only [icv, hT, hR] at hcall
        replace hcall := Lib.hid hcall
        have k1 : IntKind.i64.wrap ((j : Int) + 1) = (j : Int) + 1 := i64_add_ (by omega) (by omega)
        have k2 : ((j : Int) + 1).toNat = j + 1 := by omega
        have k3 : (j : Int) + 1 < (p.code.length + 1 : Nat) := by omega
        have k4 : 0 ≤ (j : Int) + 1 := by omega
        have k5 : j + 1 < at_.length := by omega
        have k6 : j + 1 < p.code.length + 1 := by omega
        have hz : ∀ (cs : List SV), cs.length = 137 → setL cs 0 (stc st) = stc st := fun cs h => setL_whole (by rw [h, l3])
        by_cases hjmp : hasT x.op = true
        · have hZ := hjt hjmp
          have hz1 : j + 1 + T < p.code.length := by omega
          have hz2 : j + 1 + T < at_.length := by omega
          have kz : IntKind.i64.wrap ((j : Int) + 1 + T) = (j : Int) + 1 + T := i64_add_ (by omega) (by omega)
          have kz2 : ((j : Int) + 1 + T).toNat = j + 1 + T := by omega
          have kz3 : 0 ≤ (j : Int) + 1 + T := by omega
          have kz4 : (j : Int) + 1 + T < (p.code.length + 1 : Nat) := by omega
          have m1 := gRow_get hz2
          have hok2 := h4 at_[j + 1 + T] (List.getElem_mem hz2)
          have m2 := stc_take hok2
          have m3 := stc_len hok2
          have hJ := gJoin_ok hok2 hG
          have m4 := stc_len hJ
          have m5 : setL (stc at_[j + 1 + T]) 0 (stc (gJoin at_[j + 1 + T] st)) = stc (gJoin at_[j + 1 + T] st) := setL_whole (by rw [m3, m4])
          have m0 := getD_lt hz2
          have hTT : x.to.toNat = T := by omega
          generalize hJJ : gJoin at_[j + 1 + T] st = J at hJ m4 m5
          have hx9 := hx.out.n9
          have hn0 := hx.out.n0
          generalize ha1 : at_.set (j + 1 + T) J = a1
          have ha1l : a1.length = p.code.length + 1 := by rw [← ha1, List.length_set]; exact h3
          have ha1k : ∀ s ∈ a1, GOk s := by rw [← ha1]; exact gOk_set h4 hJ
          have k5' : j + 1 < a1.length := by omega
          have b1 := gRow_get k5'
          have hok3 := ha1k a1[j + 1] (List.getElem_mem k5')
          have b2 := stc_take hok3
          have b3 := stc_len hok3
          have b0 := getD_lt k5'
          have hc : x.op = 12 ∨ x.op = 9 ∨ x.op = 10 ∨ x.op = 11 := by
            unfold hasT at hjmp
            simp at hjmp
            omega
          have hp1 : gPut x j st at_ = if x.op ≠ 12 ∧ isEnd x.op = false then a1.set (j + 1) (gJoin (a1.getD (j + 1) default) (gAfter x st)) else a1 := by
            have hgj : gJump x.op = true := by unfold gJump; simp [hc]
            unfold gPut
            rw [hgj, if_pos rfl, hTT, m0, hJJ, ha1]
          replace hp1 := Lib.hid hp1
          replace b0 := Lib.hid b0
          rcases hc with hop | hop | hop | hop
          ·
            replace hcall := hcall.out
            simp only [hop] at hcall
            replace hcall := Lib.hid hcall
            have hJ2 := hJ
            repeat' (first
                | (with_reducible refine swp_seq ?_)
                | ((with_reducible refine swp_reg ?_); (try rw [hP]); simp -implicitDefEqProofs [pcv, icv, gres, stc_get0, gRow_set, *])
                | ((with_reducible refine swp_regd (by rw [hP]; exact mixed) ?_); (try rw [hP]); simp -implicitDefEqProofs [pcv, icv, gres, stc_get0, gRow_set, *])
                | ((with_reducible refine swp_skip ?_); (try simp -implicitDefEqProofs [pcv, icv, gres, stc_get0, gRow_set, *]))
                | ((with_reducible refine swp_exit ?_); (try simp -implicitDefEqProofs [pcv, icv, gres, stc_get0, gRow_set, *]))
                | ((with_reducible refine swp_ret ?_); (try simp only [qseq_r, qblock_r, qloop_r]))
                | ((with_reducible refine swp_cond rfl (fun h => ?_) (fun h => ?_)) <;> have h' := h <;> (try simp at h') <;> (try subst h'))
                | ((with_reducible refine sopsg_cases (fun h => ?_) (fun h => ?_)) <;> have h' := h <;> (try simp at h') <;> (try subst h') <;> simp -implicitDefEqProofs [pcv, icv, gres, stc_get0, gRow_set, *])
                | ((with_reducible refine draw_ok ?_ ?_); (focus rfl))
                | ((with_reducible refine sopsk_rg ?_ ?_); (first | omega | (unfold maxLen; omega)); simp -implicitDefEqProofs [pcv, icv, gres, stc_get0, gRow_set, *])
                | (with_reducible refine swp_block1 ?_)
                | (with_reducible refine swp_block2 ?_)
                | (refine call_r (hcall.out _) ⟨rfl, trivial⟩ ⟨rfl, trivial⟩ ?_; simp -implicitDefEqProofs [pcv, icv, gres, stc_get0, gRow_set, *])
                | ((exfalso; omega))
                | (refine call_q (ends_s _ _) ?_; simp -implicitDefEqProofs [pcv, icv, gres, stc_get0, gRow_set, *])
                | (refine call_q (call_sjoin _ _ hok2 hG _) ?_; simp -implicitDefEqProofs [pcv, icv, gres, stc_get0, gRow_set, *])
                | ((refine qloop_next (wk_list [(0, 0), (1, 1), (2, 2)] hm rfl (by simp) ?_ ?_) ⟨j + 1, a1, rfl, by omega, ?_, ?_, ?_, rfl⟩ (by omega); (focus (simp -implicitDefEqProofs; done)); (focus (refine And.intro ⟨_, rfl, rfl, .refl _⟩ (And.intro ⟨_, rfl, rfl, .refl _⟩ (And.intro ⟨_, rfl, rfl, rfl, ?_⟩ trivial)); rw [gRow_ren]; exact .refl _)))))
            all_goals first
              | (rw [List.length_set]; exact ha1l)
              | exact ha1l
              | exact gOk_set ha1k hJ2
              | exact ha1k
              | (rw [← hnext.out, hp1.out, hop]; rfl)
              | (rw [← hnext.out, hp1.out, b0.out, if_pos (by rw [hop]; exact ⟨by decide, rfl⟩)]; unfold gAfter; rw [hop]; rfl)
          ·
            replace hcall := hcall.out
            simp only [hop] at hcall
            replace hcall := Lib.hid hcall
            have hN : IntKind.i64.wrap x.n = x.n := IntWalk.i64_in _ ⟨by omega, by have := hx9 hop; omega⟩
            have r3 : (stc st)[1 + R * 4 + 3]? = some (.int .i64 st.regs[R].room) := stc_regf hRl (by omega)
            have r7 : ∀ v, (stc st).set (1 + R * 4 + 3) (.int .i64 v) = stc (setR st R ⟨st.regs[R].set, st.regs[R].just, st.regs[R].n, v⟩) := fun v => stc_setf' (k' := ⟨st.regs[R].set, st.regs[R].just, st.regs[R].n, v⟩) hRl (by omega) (by simp [kc])
            have hga : gAfter x st = setR st R ⟨st.regs[R].set, st.regs[R].just, st.regs[R].n, if st.regs[R].room < x.n then x.n else st.regs[R].room⟩ := by
              unfold gAfter
              rw [if_pos hop, hR, regAt_lt hRl]
            have hgk : GOk (gAfter x st) := by rw [hga]; exact setR_ok hG _ _
            have r8 : ∀ v, (stc (setR st R ⟨st.regs[R].set, st.regs[R].just, st.regs[R].n, v⟩)).length = 137 := fun v => stc_len (setR_ok hG _ _)
            have r9 : ∀ v, (stc (setR st R ⟨st.regs[R].set, st.regs[R].just, st.regs[R].n, v⟩)).take 137 = stc (setR st R ⟨st.regs[R].set, st.regs[R].just, st.regs[R].n, v⟩) := fun v => stc_take (setR_ok hG _ _)
            have q1 : R < 10 := by omega
            have q5 : 1 + R * 4 + 3 + 1 ≤ 137 := by omega
            have q6 : 1 + R * 4 + 4 ≤ 137 := by omega
            have he : isEnd 9 = false := rfl
            rw [hga] at hgk
            have hJ2 := gJoin_ok hok3 hgk
            have m6 := stc_len hJ2
            have m7 : setL (stc a1[j + 1]) 0 (stc (gJoin a1[j + 1] (setR st R ⟨st.regs[R].set, st.regs[R].just, st.regs[R].n, if st.regs[R].room < x.n then x.n else st.regs[R].room⟩))) = stc (gJoin a1[j + 1] (setR st R ⟨st.regs[R].set, st.regs[R].just, st.regs[R].n, if st.regs[R].room < x.n then x.n else st.regs[R].room⟩)) := setL_whole (by rw [b3, m6])
            replace hga := Lib.hid hga
            repeat' (first
                | (with_reducible refine swp_seq ?_)
                | ((with_reducible refine swp_reg ?_); (try rw [hP]); simp -implicitDefEqProofs [pcv, icv, gres, stc_get0, gRow_set, *])
                | ((with_reducible refine swp_regd (by rw [hP]; exact mixed) ?_); (try rw [hP]); simp -implicitDefEqProofs [pcv, icv, gres, stc_get0, gRow_set, *])
                | ((with_reducible refine swp_skip ?_); (try simp -implicitDefEqProofs [pcv, icv, gres, stc_get0, gRow_set, *]))
                | ((with_reducible refine swp_exit ?_); (try simp -implicitDefEqProofs [pcv, icv, gres, stc_get0, gRow_set, *]))
                | ((with_reducible refine swp_ret ?_); (try simp only [qseq_r, qblock_r, qloop_r]))
                | ((with_reducible refine swp_cond rfl (fun h => ?_) (fun h => ?_)) <;> have h' := h <;> (try simp at h') <;> (try subst h'))
                | ((with_reducible refine sopsg_cases (fun h => ?_) (fun h => ?_)) <;> have h' := h <;> (try simp at h') <;> (try subst h') <;> simp -implicitDefEqProofs [pcv, icv, gres, stc_get0, gRow_set, *])
                | ((with_reducible refine draw_ok ?_ ?_); (focus rfl))
                | ((with_reducible refine sopsk_rg ?_ ?_); (first | omega | (unfold maxLen; omega)); simp -implicitDefEqProofs [pcv, icv, gres, stc_get0, gRow_set, *])
                | (with_reducible refine swp_block1 ?_)
                | (with_reducible refine swp_block2 ?_)
                | (refine call_r (hcall.out _) ⟨rfl, trivial⟩ ⟨rfl, trivial⟩ ?_; simp -implicitDefEqProofs [pcv, icv, gres, stc_get0, gRow_set, *])
                | ((exfalso; omega))
                | (refine call_q (ends_s _ _) ?_; simp -implicitDefEqProofs [pcv, icv, gres, stc_get0, gRow_set, *])
                | (refine call_q (call_sjoin _ _ hok2 hG _) ?_; simp -implicitDefEqProofs [pcv, icv, gres, stc_get0, gRow_set, *])
                | (refine call_q (call_sjoin _ _ hok3 hgk _) ?_; simp -implicitDefEqProofs [pcv, icv, gres, stc_get0, gRow_set, *])
                | ((refine qloop_next (wk_list [(0, 0), (1, 1), (2, 2)] hm rfl (by simp) ?_ ?_) ⟨j + 1, a1.set (j + 1) (gJoin a1[j + 1] (setR st R ⟨st.regs[R].set, st.regs[R].just, st.regs[R].n, if st.regs[R].room < x.n then x.n else st.regs[R].room⟩)), rfl, by omega, ?_, ?_, ?_, rfl⟩ (by omega); (focus (simp -implicitDefEqProofs; done)); (focus (refine And.intro ⟨_, rfl, rfl, .refl _⟩ (And.intro ⟨_, rfl, rfl, .refl _⟩ (And.intro ⟨_, rfl, rfl, rfl, ?_⟩ trivial)); rw [gRow_ren]; exact .refl _)))))
            all_goals first
              | (rw [List.length_set]; exact ha1l)
              | exact gOk_set ha1k hJ2
              | (rw [← hnext.out, hp1.out, b0.out, hga.out]; simp [hop, he]; done)
              | (rw [← hnext.out, hp1.out, b0.out, hga.out]; simp [hop, he, *]; done)
          ·
            replace hcall := hcall.out
            simp only [hop] at hcall
            replace hcall := Lib.hid hcall
            have hJ2 := gJoin_ok hok3 hG
            have m6 := stc_len hJ2
            have m7 : setL (stc a1[j + 1]) 0 (stc (gJoin a1[j + 1] st)) = stc (gJoin a1[j + 1] st) := setL_whole (by rw [b3, m6])
            have he : isEnd 10 = false := rfl
            repeat' (first
                | (with_reducible refine swp_seq ?_)
                | ((with_reducible refine swp_reg ?_); (try rw [hP]); simp -implicitDefEqProofs [pcv, icv, gres, stc_get0, gRow_set, *])
                | ((with_reducible refine swp_regd (by rw [hP]; exact mixed) ?_); (try rw [hP]); simp -implicitDefEqProofs [pcv, icv, gres, stc_get0, gRow_set, *])
                | ((with_reducible refine swp_skip ?_); (try simp -implicitDefEqProofs [pcv, icv, gres, stc_get0, gRow_set, *]))
                | ((with_reducible refine swp_exit ?_); (try simp -implicitDefEqProofs [pcv, icv, gres, stc_get0, gRow_set, *]))
                | ((with_reducible refine swp_ret ?_); (try simp only [qseq_r, qblock_r, qloop_r]))
                | ((with_reducible refine swp_cond rfl (fun h => ?_) (fun h => ?_)) <;> have h' := h <;> (try simp at h') <;> (try subst h'))
                | ((with_reducible refine sopsg_cases (fun h => ?_) (fun h => ?_)) <;> have h' := h <;> (try simp at h') <;> (try subst h') <;> simp -implicitDefEqProofs [pcv, icv, gres, stc_get0, gRow_set, *])
                | ((with_reducible refine draw_ok ?_ ?_); (focus rfl))
                | ((with_reducible refine sopsk_rg ?_ ?_); (first | omega | (unfold maxLen; omega)); simp -implicitDefEqProofs [pcv, icv, gres, stc_get0, gRow_set, *])
                | (with_reducible refine swp_block1 ?_)
                | (with_reducible refine swp_block2 ?_)
                | (refine call_r (hcall.out _) ⟨rfl, trivial⟩ ⟨rfl, trivial⟩ ?_; simp -implicitDefEqProofs [pcv, icv, gres, stc_get0, gRow_set, *])
                | ((exfalso; omega))
                | (refine call_q (ends_s _ _) ?_; simp -implicitDefEqProofs [pcv, icv, gres, stc_get0, gRow_set, *])
                | (refine call_q (call_sjoin _ _ hok2 hG _) ?_; simp -implicitDefEqProofs [pcv, icv, gres, stc_get0, gRow_set, *])
                | (refine call_q (call_sjoin _ _ hok3 hG _) ?_; simp -implicitDefEqProofs [pcv, icv, gres, stc_get0, gRow_set, *])
                | ((refine qloop_next (wk_list [(0, 0), (1, 1), (2, 2)] hm rfl (by simp) ?_ ?_) ⟨j + 1, a1.set (j + 1) (gJoin a1[j + 1] st), rfl, by omega, ?_, ?_, ?_, rfl⟩ (by omega); (focus (simp -implicitDefEqProofs; done)); (focus (refine And.intro ⟨_, rfl, rfl, .refl _⟩ (And.intro ⟨_, rfl, rfl, .refl _⟩ (And.intro ⟨_, rfl, rfl, rfl, ?_⟩ trivial)); rw [gRow_ren]; exact .refl _)))))
            all_goals first
              | (rw [List.length_set]; exact ha1l)
              | exact ha1l
              | exact gOk_set ha1k hJ2
              | exact ha1k
              | (rw [← hnext.out, hp1.out, hop]; rfl)
              | (rw [← hnext.out, hp1.out, b0.out, if_pos (by rw [hop]; exact ⟨by decide, rfl⟩)]; unfold gAfter; rw [hop]; rfl)
          ·
            replace hcall := hcall.out
            simp only [hop] at hcall
            replace hcall := Lib.hid hcall
            have hJ2 := gJoin_ok hok3 hG
            have m6 := stc_len hJ2
            have m7 : setL (stc a1[j + 1]) 0 (stc (gJoin a1[j + 1] st)) = stc (gJoin a1[j + 1] st) := setL_whole (by rw [b3, m6])
            have he : isEnd 11 = false := rfl
            repeat' (first
                | (with_reducible refine swp_seq ?_)
                | ((with_reducible refine swp_reg ?_); (try rw [hP]); simp -implicitDefEqProofs [pcv, icv, gres, stc_get0, gRow_set, *])
                | ((with_reducible refine swp_regd (by rw [hP]; exact mixed) ?_); (try rw [hP]); simp -implicitDefEqProofs [pcv, icv, gres, stc_get0, gRow_set, *])
                | ((with_reducible refine swp_skip ?_); (try simp -implicitDefEqProofs [pcv, icv, gres, stc_get0, gRow_set, *]))
                | ((with_reducible refine swp_exit ?_); (try simp -implicitDefEqProofs [pcv, icv, gres, stc_get0, gRow_set, *]))
                | ((with_reducible refine swp_ret ?_); (try simp only [qseq_r, qblock_r, qloop_r]))
                | ((with_reducible refine swp_cond rfl (fun h => ?_) (fun h => ?_)) <;> have h' := h <;> (try simp at h') <;> (try subst h'))
                | ((with_reducible refine sopsg_cases (fun h => ?_) (fun h => ?_)) <;> have h' := h <;> (try simp at h') <;> (try subst h') <;> simp -implicitDefEqProofs [pcv, icv, gres, stc_get0, gRow_set, *])
                | ((with_reducible refine draw_ok ?_ ?_); (focus rfl))
                | ((with_reducible refine sopsk_rg ?_ ?_); (first | omega | (unfold maxLen; omega)); simp -implicitDefEqProofs [pcv, icv, gres, stc_get0, gRow_set, *])
                | (with_reducible refine swp_block1 ?_)
                | (with_reducible refine swp_block2 ?_)
                | (refine call_r (hcall.out _) ⟨rfl, trivial⟩ ⟨rfl, trivial⟩ ?_; simp -implicitDefEqProofs [pcv, icv, gres, stc_get0, gRow_set, *])
                | ((exfalso; omega))
                | (refine call_q (ends_s _ _) ?_; simp -implicitDefEqProofs [pcv, icv, gres, stc_get0, gRow_set, *])
                | (refine call_q (call_sjoin _ _ hok2 hG _) ?_; simp -implicitDefEqProofs [pcv, icv, gres, stc_get0, gRow_set, *])
                | (refine call_q (call_sjoin _ _ hok3 hG _) ?_; simp -implicitDefEqProofs [pcv, icv, gres, stc_get0, gRow_set, *])
                | ((refine qloop_next (wk_list [(0, 0), (1, 1), (2, 2)] hm rfl (by simp) ?_ ?_) ⟨j + 1, a1.set (j + 1) (gJoin a1[j + 1] st), rfl, by omega, ?_, ?_, ?_, rfl⟩ (by omega); (focus (simp -implicitDefEqProofs; done)); (focus (refine And.intro ⟨_, rfl, rfl, .refl _⟩ (And.intro ⟨_, rfl, rfl, .refl _⟩ (And.intro ⟨_, rfl, rfl, rfl, ?_⟩ trivial)); rw [gRow_ren]; exact .refl _)))))
            all_goals first
              | (rw [List.length_set]; exact ha1l)
              | exact ha1l
              | exact gOk_set ha1k hJ2
              | exact ha1k
              | (rw [← hnext.out, hp1.out, hop]; rfl)
              | (rw [← hnext.out, hp1.out, b0.out, if_pos (by rw [hop]; exact ⟨by decide, rfl⟩)]; unfold gAfter; rw [hop]; rfl)
        · have hno : x.op ≠ 12 ∧ x.op ≠ 9 ∧ x.op ≠ 10 ∧ x.op ≠ 11 := by
            unfold hasT at hjmp
            simp at hjmp
            omega
          obtain ⟨n1, n2, n3, n4⟩ := hno
          have m1 := gRow_get k5
          have hok2 := h4 at_[j + 1] (List.getElem_mem k5)
          have m2 := stc_take hok2
          have m3 := stc_len hok2
          have hJ := gJoin_ok hok2 hG
          have m4 := stc_len hJ
          have m5 : setL (stc at_[j + 1]) 0 (stc (gJoin at_[j + 1] st)) = stc (gJoin at_[j + 1] st) := setL_whole (by rw [m3, m4])
          repeat' (first
              | (with_reducible refine swp_seq ?_)
              | ((with_reducible refine swp_reg ?_); (try rw [hP]); simp -implicitDefEqProofs [pcv, icv, gres, stc_get0, gRow_set, *])
              | ((with_reducible refine swp_regd (by rw [hP]; exact mixed) ?_); (try rw [hP]); simp -implicitDefEqProofs [pcv, icv, gres, stc_get0, gRow_set, *])
              | ((with_reducible refine swp_skip ?_); (try simp -implicitDefEqProofs [pcv, icv, gres, stc_get0, gRow_set, *]))
              | ((with_reducible refine swp_exit ?_); (try simp -implicitDefEqProofs [pcv, icv, gres, stc_get0, gRow_set, *]))
              | ((with_reducible refine swp_ret ?_); (try simp only [qseq_r, qblock_r, qloop_r]))
              | ((with_reducible refine swp_cond rfl (fun h => ?_) (fun h => ?_)) <;> have h' := h <;> (try simp at h') <;> (try subst h'))
              | ((with_reducible refine sopsg_cases (fun h => ?_) (fun h => ?_)) <;> have h' := h <;> (try simp at h') <;> (try subst h') <;> simp -implicitDefEqProofs [pcv, icv, gres, stc_get0, gRow_set, *])
              | ((with_reducible refine draw_ok ?_ ?_); (focus rfl))
              | ((with_reducible refine sopsk_rg ?_ ?_); (first | omega | (unfold maxLen; omega)); simp -implicitDefEqProofs [pcv, icv, gres, stc_get0, gRow_set, *])
              | (with_reducible refine swp_block1 ?_)
              | (with_reducible refine swp_block2 ?_)
              | (refine call_r (hcall.out _) ⟨rfl, trivial⟩ ⟨rfl, trivial⟩ ?_; simp -implicitDefEqProofs [pcv, icv, gres, stc_get0, gRow_set, *])
              | ((exfalso; omega))
              | (refine call_q (ends_s _ _) ?_; simp -implicitDefEqProofs [pcv, icv, gres, stc_get0, gRow_set, *])
              | (refine call_q (call_sjoin _ _ hok2 hG _) ?_; simp -implicitDefEqProofs [pcv, icv, gres, stc_get0, gRow_set, *])
              | ((refine qloop_next (wk_list [(0, 0), (1, 1), (2, 2)] hm rfl (by simp) ?_ ?_) ⟨j + 1, at_.set (j + 1) (gJoin at_[j + 1] st), rfl, by omega, ?_, ?_, ?_, rfl⟩ (by omega); (focus (simp -implicitDefEqProofs; done)); (focus (refine And.intro ⟨_, rfl, rfl, .refl _⟩ (And.intro ⟨_, rfl, rfl, .refl _⟩ (And.intro ⟨_, rfl, rfl, rfl, ?_⟩ trivial)); rw [gRow_ren]; exact .refl _))))
              | ((refine qloop_next (wk_list [(0, 0), (1, 1), (2, 2)] hm rfl (by simp) ?_ ?_) ⟨j + 1, at_, rfl, by omega, ?_, ?_, ?_, rfl⟩ (by omega); (focus (simp -implicitDefEqProofs; done)); (focus (refine And.intro ⟨_, rfl, rfl, .refl _⟩ (And.intro ⟨_, rfl, rfl, .refl _⟩ (And.intro ⟨_, rfl, rfl, rfl, ?_⟩ trivial)); rw [gRow_ren]; exact .refl _)))))
          all_goals first
            | (rw [List.length_set]; exact h3)
            | exact h3
            | exact gOk_set h4 hJ
            | exact h4
            | (rw [← hnext.out]; refine congrArg _ ?_; unfold gPut gJump gAfter; simp [getD_lt k5, *])
      · obtain rfl : j = p.code.length := by omega
        repeat' (first
            | (with_reducible refine swp_seq ?_)
            | ((with_reducible refine swp_reg ?_); (try rw [hP]); simp -implicitDefEqProofs [*])
            | ((with_reducible refine swp_regd (by rw [hP]; exact mixed) ?_); (try rw [hP]); simp -implicitDefEqProofs [*])
            | ((with_reducible refine swp_skip ?_); (try simp -implicitDefEqProofs [*]))
            | ((with_reducible refine swp_exit ?_); (try simp -implicitDefEqProofs [*]))
            | ((with_reducible refine swp_ret ?_); (try simp only [qseq_r, qblock_r, qloop_r]))
            | ((with_reducible refine swp_cond rfl (fun h => ?_) (fun h => ?_)) <;> have h' := h <;> (try simp at h') <;> (try subst h'))
            | ((with_reducible refine sopsg_cases (fun h => ?_) (fun h => ?_)) <;> have h' := h <;> (try simp at h') <;> (try subst h') <;> simp -implicitDefEqProofs [*])
            | ((with_reducible refine draw_ok ?_ ?_); (focus rfl))
            | ((with_reducible refine sopsk_rg ?_ ?_); (first | omega | (unfold maxLen; omega)); simp -implicitDefEqProofs [*])
            | (with_reducible refine swp_block1 ?_)
            | (with_reducible refine swp_block2 ?_)
            | (refine fin2 _ _ _ ?_ (.inr trivial)))
        rw [hgF.out, ← h5, Nat.sub_self]; rfl
  ·
    repeat' (first
        | (with_reducible refine swp_seq ?_)
        | ((with_reducible refine swp_reg ?_); (try rw [hP]); simp -implicitDefEqProofs [pcv, faultV, *])
        | ((with_reducible refine swp_regd (by rw [hP]; exact mixed) ?_); (try rw [hP]); simp -implicitDefEqProofs [pcv, faultV, *])
        | ((with_reducible refine swp_skip ?_); (try simp -implicitDefEqProofs [pcv, faultV, *]))
        | ((with_reducible refine swp_exit ?_); (try simp -implicitDefEqProofs [pcv, faultV, *]))
        | ((with_reducible refine swp_ret ?_); (try simp only [qseq_r, qblock_r, qloop_r]))
        | ((with_reducible refine swp_cond rfl (fun h => ?_) (fun h => ?_)) <;> have h' := h <;> (try simp at h') <;> (try subst h'))
        | ((with_reducible refine sopsg_cases (fun h => ?_) (fun h => ?_)) <;> have h' := h <;> (try simp at h') <;> (try subst h') <;> simp -implicitDefEqProofs [pcv, faultV, *])
        | ((with_reducible refine draw_ok ?_ ?_); (focus rfl))
        | ((with_reducible refine sopsk_rg ?_ ?_); (first | omega | (unfold maxLen; omega)); simp -implicitDefEqProofs [pcv, faultV, *])
        | (with_reducible refine swp_block1 ?_)
        | (with_reducible refine swp_block2 ?_)
        | ((refine absurd ?_ h0; (focus (assumption; done))))
        | (refine call_q (wcheck_s p hp _) ?_; simp -implicitDefEqProofs [pcv, faultV, *])
        | (refine fin _ _ _ _ ?_ (.inr trivial)))
    rw [show gF p = progF p by unfold gF; rw [if_pos h0]]
end Go.Proofs.Ytfakdapglbgokaa

/-
  The reference of package guard, in the plain machine: GuardFault. No condition.
-/
namespace Go.Proofs.Ytfakdapglbgokaa
set_option linter.all false
open Go.RowKit
attribute [local simp] sops_nil sops_run sopsk_some sops_call sops_guard sopsg_yes sopsg_tf sopsg_ft sopsg_undef rg_true SOp.run SX.ev putd puts argS upds SOp.touch SSt.keep SSt.skip gets geth puth delh idOf SV.cells? setL fillS fillR sbin eq0 eq1 eqL rowOf qseq_n qseq_e qseq_r qblock_n qblock_r qblock_e qloop_e qloop_r take_map_len FrzOk pureV_int pureV_bool pureV_str pureV_nil pureV_nilsl pureV_view pureV_cp pureL_nil_ pureL_cons_ pureO_row pureO_cells frzS frzH frz frz1 frz0 SlotsM ObjsM ObjM rn ren ren1 ren0 co_self co_int co_own co_view co_nilsl co_agg co_tup CoL coll_self mergeH dels adds idsH okNames
theorem call_nothing (n : Nat) (hn : n ≤ 96) (q : Nat) : SCalls Try.prog 118 [.int .i64 n] [] q (.agg ((rkFirst n).own q)) ((rkFirst n).hp q) :=
  rk_new (nothing_s n hn) (fun σ => rfl) q (by simp [RK.own, ren, ren1, ren0, sg]) (by simp [RK.own, ok2, ok1, ok0])
/-- What the reference knows ahead of each instruction. -/
def ocv : Option RK → List SV
  | none => [.bool false, .nilsl, .nilsl, .nilsl, .nilsl, .nilsl]
  | some k => k.cv
instance : PureF ocv := ⟨fun σ x => by cases x <;> rfl, fun x => by cases x <;> rfl, fun x => by cases x <;> exact pureL_ints _ rfl⟩
def oMeet (a : Option RK) (b : RK) : RK := match a with
  | none => b
  | some a => rMeet a b
theorem co_rk0 : Co (.agg (ocv none)) (.agg (RK.cv ⟨false, [], [], [], [], []⟩)) := Co.agg ⟨Co.refl _, Co.nilsl _, Co.nilsl _, Co.nilsl _, Co.nilsl _, Co.nilsl _, trivial⟩
theorem call_omeet (a : Option RK) (b : RK) (ha : ∀ k, a = some k → k.there = true ∧ k.Ten ∧ k.slot.length = b.slot.length) (hb : b.Ten) (q : Nat) : SCalls Try.prog 120 [.agg (ocv a), .agg b.cv] [] q (.agg ((oMeet a b).own q)) ((oMeet a b).hp q) := by
  cases a with
  | none =>
    refine scalls_co (args' := [.agg (RK.cv ⟨false, [], [], [], [], []⟩), .agg b.cv]) ?_ ⟨co_rk0, Co.refl _, trivial⟩
    have := call_meet ⟨false, [], [], [], [], []⟩ b (fun h => by cases h) hb (fun h => by cases h) q
    exact this
  | some k => exact call_meet k b (fun _ => (ha k rfl).2.1) hb (fun _ => (ha k rfl).2.2) q
theorem rk_hp_none (k : RK) (b q : Nat) (h : b + 5 ≤ q) : ∀ id, geth (k.hp b) id ≠ none → geth ((oMeet none k).hp q) id = none ∨ True := fun _ _ => .inr trivial
theorem rk_clean (k : RK) (q : Nat) : CleanV (.agg (k.own q)) := clean_agg (cleanL_cons (clean_bool _) (cleanL_cons (clean_own _ _) (cleanL_cons (clean_own _ _) (cleanL_cons (clean_own _ _) (cleanL_cons (clean_own _ _) (cleanL_cons (clean_own _ _) cleanL_nil))))))
theorem bcs_clean (l : List Bool) : ∀ e ∈ bcs l, CleanL e := fun e he => by obtain ⟨b, _, rfl⟩ := List.mem_map.1 he; exact cleanL_cons (clean_bool _) cleanL_nil
theorem ucs_clean (l : List Int) : ∀ e ∈ ucs l, CleanL e := fun e he => by obtain ⟨b, _, rfl⟩ := List.mem_map.1 he; exact cleanL_cons (clean_int _ _) cleanL_nil
theorem ics_clean (l : List Int) : ∀ e ∈ ics l, CleanL e := fun e he => by obtain ⟨b, _, rfl⟩ := List.mem_map.1 he; exact cleanL_cons (clean_int _ _) cleanL_nil
theorem bcs_pure (l : List Bool) : ∀ e ∈ bcs l, PureL e := rowf_pure _ l
theorem ucs_pure (l : List Int) : ∀ e ∈ ucs l, PureL e := rowf_pure (fun n : Int => [SV.int .u64 n]) l
theorem ics_pure (l : List Int) : ∀ e ∈ ics l, PureL e := rowf_pure (fun n : Int => [SV.int .i64 n]) l
theorem rk_cleanH (k : RK) (q : Nat) : ∀ id o, geth (k.hp q) id = some o → CleanO o := cleanH_cons (bcs_clean _) (cleanH_cons (bcs_clean _) (cleanH_cons (ucs_clean _) (cleanH_cons (ics_clean _) (cleanH_cons (bcs_clean _) cleanH_nil))))
theorem rk_lent (k : RK) (b : Nat) : Lent (k.hp b) (.agg (k.own b)) (.agg k.cv) := by
  refine lent_agg ⟨lent_refl _, lent_row (e := 4) ?_ (bcs_pure _) (bcs_len _).symm, lent_row (e := 4) ?_ (bcs_pure _) (bcs_len _).symm, lent_row (e := 23) ?_ (ucs_pure _) (ucs_len _).symm, lent_row (e := 3) ?_ (ics_pure _) (ics_len _).symm, lent_row (e := 4) ?_ (bcs_pure _) (bcs_len _).symm, trivial⟩ <;> simp [RK.hp, geth]
/-- The second one's rows being lent. -/
theorem lend_omeet (a : Option RK) (b : RK) (ha : ∀ k, a = some k → k.there = true ∧ k.Ten ∧ k.slot.length = b.slot.length) (hb : b.Ten) (c q : Nat) (hq : c + 5 ≤ q) : SCalls Try.prog 120 [.agg (ocv a), .agg (b.own c)] (b.hp c) q (.agg ((oMeet a b).own q)) (b.hp c ++ (oMeet a b).hp q) :=
  scalls_lend (call_omeet a b ha hb q) ⟨lent_refl _, rk_lent b c, trivial⟩ (rk_clean _ _) (rk_cleanH _ _) fun id hid => by
    simp only [RK.hp, geth] at hid ⊢
    rw [if_neg, if_neg, if_neg, if_neg, if_neg] <;> (intro e; apply hid; rw [if_neg, if_neg, if_neg, if_neg, if_neg] <;> omega)
theorem call_behind0 (tabs : List Shape) (code : List Ins) (slots : Int) (x : Ins) (k : RK) (hx : InsP slots tabs x) (hop : isOp x.op = true) (hk : k.Ten) (hks : (k.slot.length : Int) = slots) (h0 : (rBehind tabs x k).2 = 0) (q : Nat) :
    SCalls Try.prog 119 [.agg (pcv ⟨slots, tabs, code⟩), .agg (icv x), .agg k.cv] [] q (.tup [.agg ((rBehind tabs x k).1.own q), .int .i64 0]) ((rBehind tabs x k).1.hp q) := by
  have hu : (usesL x).all (fun r => (k.kn r.toNat).set) = true := by
    by_cases hu : (usesL x).all (fun r => (k.kn r.toNat).set) = false
    · rw [rBehind, if_pos hu] at h0; cases h0
    · simpa using hu
  exact rk_new (behind_yes tabs code slots x k hx hop hk hu hks _ _ (fun _ => ⟨rfl, rfl⟩) (fun h => absurd h0 h)) (fun σ => rfl) q (by simp [RK.own, ren, ren1, ren0, sg]) (by simp [RK.own, ok2, ok1, ok0])
theorem call_behindE (tabs : List Shape) (code : List Ins) (slots : Int) (x : Ins) (k : RK) (hx : InsP slots tabs x) (hop : isOp x.op = true) (hk : k.Ten) (hks : (k.slot.length : Int) = slots) (h0 : (rBehind tabs x k).2 ≠ 0) (q : Nat) :
    SCalls Try.prog 119 [.agg (pcv ⟨slots, tabs, code⟩), .agg (icv x), .agg k.cv] [] q (.tup [.agg [.any, .any, .any, .any, .any, .any], .int .i64 (rBehind tabs x k).2]) [] := by
  refine scalls_q ?_ (fun σ => rfl) (fun σ => rfl) rfl q
  by_cases hu : (usesL x).all (fun r => (k.kn r.toNat).set) = false
  · have : (rBehind tabs x k).2 = 15 := by rw [rBehind, if_pos hu]
    rw [this]; exact behind_no tabs code slots x k hx hop hk hu
  · exact behind_yes tabs code slots x k hx hop hk (by simpa using hu) hks _ _ (fun h => absurd h h0) fun _ => ⟨rfl, rfl⟩
end Go.Proofs.Ytfakdapglbgokaa

/-
  The reference of package guard: GuardFault, plain; what it keeps. No condition.
-/
namespace Go.Proofs.Ytfakdapglbgokaa
set_option linter.all false
open Go.RowKit
def rAfter (x : Ins) (k : RK) : RK := if (k.kn x.r.toNat).room < x.n ∧ x.op = 9 then ⟨k.there, k.set, k.just, k.num, k.room.set x.r.toNat x.n, k.slot⟩ else k
def rJ (x : Ins) (i : Nat) (k : RK) (a : List (Option RK)) : List (Option RK) := if hasT x.op = true then a.set (i + 1 + x.to.toNat) (some (oMeet (a.getD (i + 1 + x.to.toNat) none) k)) else a
def rPut (x : Ins) (i : Nat) (k : RK) (a : List (Option RK)) : List (Option RK) :=
  if x.op ≠ 12 ∧ isEnd x.op = false then (rJ x i k (a.set i none)).set (i + 1) (some (oMeet ((rJ x i k (a.set i none)).getD (i + 1) none) (rAfter x k))) else rJ x i k (a.set i none)
def rFrom (p : Prog) : Nat → Nat → List (Option RK) → Int × Int
  | 0, _, _ => (0, 0)
  | m + 1, i, a => match a.getD i none with
    | none => rFrom p m (i + 1) a
    | some k => if (rBehind p.tabs (nth p.code i) k).2 ≠ 0 then ((rBehind p.tabs (nth p.code i) k).2, (i : Int)) else rFrom p m (i + 1) (rPut (nth p.code i) i (rBehind p.tabs (nth p.code i) k).1 a)
def rF (p : Prog) : Int × Int := if (progF p).1 ≠ 0 then progF p else rFrom p p.code.length 0 (some (rkFirst p.slots.toNat) :: List.replicate p.code.length none)
/-- What is known of a program with so many slots. -/
structure RKok (slots : Int) (k : RK) : Prop where
  there : k.there = true
  ten : k.Ten
  len : (k.slot.length : Int) = slots
theorem rk_sets (k : RK) (r : Nat) (x : Kn) : (k.to_ r x).slot.length = k.slot.length := rfl
theorem slotsSet_len' (sl : List Bool) (a n : Nat) : (slotsSet sl a n).length = sl.length := slotsSet_len sl a n
theorem RKok.to_ {slots : Int} {k : RK} (h : RKok slots k) (r : Nat) (x : Kn) : RKok slots (k.to_ r x) := ⟨h.there, h.ten.put _ _ _ _ _, h.len⟩
theorem RKok.sl {slots : Int} {k : RK} (h : RKok slots k) {l : List Bool} (hl : l.length = k.slot.length) : RKok slots (k.sl l) := ⟨h.there, ⟨h.ten.set, h.ten.just, h.ten.num, h.ten.room, by show l.length ≤ 96; rw [hl]; exact h.ten.slot⟩, by show (l.length : Int) = _; rw [hl]; exact h.len⟩
theorem rBehind_ok {slots : Int} {k : RK} (tabs : List Shape) (x : Ins) (h : RKok slots k) : RKok slots (rBehind tabs x k).1 := by
  have e : ∀ (c : Prop) [Decidable c] (a b : RK × Int), RKok slots a.1 → RKok slots b.1 → RKok slots (if c then a else b).1 := fun c _ a b ha hb => by split <;> assumption
  unfold rBehind rCall
  repeat' (first
    | exact h
    | exact h.to_ _ _
    | exact h.sl (by simp)
    | exact (h.sl (slotsSet_len _ _ _)).to_ _ _
    | refine e _ _ _ ?_ ?_)
theorem rAfter_ok {slots : Int} {k : RK} (x : Ins) (h : RKok slots k) : RKok slots (rAfter x k) := by
  unfold rAfter
  split
  · exact ⟨h.there, ⟨h.ten.set, h.ten.just, h.ten.num, by simp [h.ten.room], h.ten.slot⟩, h.len⟩
  · exact h
theorem oMeet_ok {slots : Int} {a : Option RK} {b : RK} (ha : ∀ k, a = some k → RKok slots k) (hb : RKok slots b) : RKok slots (oMeet a b) := by
  cases a with
  | none => exact hb
  | some k =>
    have h := ha k rfl
    show RKok slots (rMeet k b)
    unfold rMeet
    rw [h.there, if_pos rfl]
    have e : ∀ (f : Nat → Bool) (l : List Bool), (upd f l l.length).length = l.length := fun f l => upd_len f (Nat.le_refl _)
    unfold rMeet1
    exact ⟨rfl, ⟨(upd_len _ (by rw [h.ten.set]; omega)).trans h.ten.set, (upd_len _ (by rw [h.ten.just]; omega)).trans h.ten.just, h.ten.num, (upd_len _ (by rw [h.ten.room]; omega)).trans h.ten.room, by show (upd _ _ _).length ≤ 96; rw [e]; exact h.ten.slot⟩, by show ((upd _ _ _).length : Int) = _; rw [e]; exact h.len⟩
def OkA (slots : Int) (a : List (Option RK)) : Prop := ∀ k, some k ∈ a → RKok slots k
theorem OkA.getD {slots : Int} {a : List (Option RK)} (h : OkA slots a) (i : Nat) : ∀ k, a.getD i none = some k → RKok slots k := fun k hk => by
  rw [List.getD_eq_getElem?_getD] at hk
  cases e : a[i]? with
  | none => rw [e] at hk; cases hk
  | some y => rw [e] at hk; cases hk; exact h k (List.mem_of_getElem? e)
theorem OkA.set {slots : Int} {a : List (Option RK)} (h : OkA slots a) (i : Nat) {x : Option RK} (hx : ∀ k, x = some k → RKok slots k) : OkA slots (a.set i x) := fun k hk => by
  rcases List.mem_or_eq_of_mem_set hk with hk | hk
  · exact h k hk
  · exact hx k hk.symm
theorem rJ_ok {slots : Int} {a : List (Option RK)} {x : Ins} {i : Nat} {k : RK} (h : OkA slots a) (hk : RKok slots k) : OkA slots (rJ x i k a) := by
  unfold rJ
  split
  · exact h.set _ fun k' e => by cases e; exact oMeet_ok (h.getD _) hk
  · exact h
theorem rPut_ok {slots : Int} {a : List (Option RK)} {x : Ins} {i : Nat} {k : RK} (h : OkA slots a) (hk : RKok slots k) : OkA slots (rPut x i k a) := by
  have h0 : OkA slots (a.set i none) := h.set _ fun k e => by cases e
  unfold rPut
  split
  · exact (rJ_ok h0 hk).set _ fun k' e => by cases e; exact oMeet_ok ((rJ_ok h0 hk).getD _) (rAfter_ok x hk)
  · exact rJ_ok h0 hk
theorem rJ_len {a : List (Option RK)} {x : Ins} {i : Nat} {k : RK} : (rJ x i k a).length = a.length := by unfold rJ; split <;> simp
theorem rPut_len {a : List (Option RK)} {x : Ins} {i : Nat} {k : RK} : (rPut x i k a).length = a.length := by unfold rPut; split <;> simp [rJ_len]
theorem rFrom_none {p : Prog} {i : Nat} {a : List (Option RK)} (hi : i < p.code.length) (h : a.getD i none = none) : rFrom p (p.code.length - i) i a = rFrom p (p.code.length - (i + 1)) (i + 1) a := by
  obtain ⟨m, hm⟩ : ∃ m, p.code.length - i = m + 1 := ⟨p.code.length - i - 1, by omega⟩
  rw [hm, show p.code.length - (i + 1) = m by omega, rFrom, h]
theorem rFrom_some {p : Prog} {i : Nat} {a : List (Option RK)} {k : RK} (hi : i < p.code.length) (h : a.getD i none = some k) : rFrom p (p.code.length - i) i a = if (rBehind p.tabs p.code[i] k).2 ≠ 0 then ((rBehind p.tabs p.code[i] k).2, (i : Int)) else rFrom p (p.code.length - (i + 1)) (i + 1) (rPut p.code[i] i (rBehind p.tabs p.code[i] k).1 a) := by
  obtain ⟨m, hm⟩ : ∃ m, p.code.length - i = m + 1 := ⟨p.code.length - i - 1, by omega⟩
  rw [hm, show p.code.length - (i + 1) = m by omega, rFrom, h, nth_lt _ _ hi]
theorem progF_isOp {p : Prog} (hx : ∀ x ∈ p.code, x.wf) (h : (progF p).1 = 0) (i : Nat) (hi : i < p.code.length) : isOp (nth p.code i).op = true := by
  have hv := (progF_valid hx h).1
  by_cases h1 : p.slots < 0 ∨ 96 < p.slots
  · rw [progF_slots h1] at h; cases h
  by_cases h2 : 5 < p.tabs.length ∨ p.code.length = 0 ∨ 60000 < p.code.length
  · rw [progF_many h1 h2] at h; cases h
  by_cases h4 : firstN (insBad p.slots p.tabs p.code) p.code.length < p.code.length
  · rw [progF_ins h1 h2 hv.tab (firstN_before _ _) h4 (firstN_at _ _ h4)] at h
    simp only at h
    split at h <;> cases h
  have h4' := firstN_all (insBad p.slots p.tabs p.code) p.code.length (by have := firstN_le (insBad p.slots p.tabs p.code) p.code.length; omega)
  have hb := h4' i hi
  unfold insBad insOk formOk at hb
  simp only [Bool.or_eq_false_iff, Bool.not_eq_false', Bool.and_eq_true] at hb
  exact hb.1.1.1.1.1.1.1.1
end Go.Proofs.Ytfakdapglbgokaa
