/-
  Texts joined: XGrdE XWordW XWordV XWordS. No condition.
-/
import Derived.Test.YtfakdapglbgokaaProg
import Derived.Handy
import Derived.Lib.Hide
import Derived.Test.YtfakdapglbgokaaI26
import Derived.Test.YtfakdapglbgokaaI6
/-
  Package guard, in the plain machine: does. No condition.
-/
namespace Go.Proofs.Ytfakdapglbgokaa
set_option linter.all false
open Go.RowKit
attribute [local simp] sops_nil sops_run sopsk_some sops_call sops_guard sopsg_yes sopsg_tf sopsg_ft sopsg_undef rg_true SOp.run SX.ev putd puts argS upds SOp.touch SSt.keep SSt.skip gets geth puth delh idOf SV.cells? setL fillS fillR sbin eq0 eq1 eqL rowOf qseq_n qseq_e qseq_r qblock_n qblock_r qblock_e qloop_e qloop_r take_map_len FrzOk pureV_int pureV_bool pureV_str pureV_nil pureV_nilsl pureV_view pureV_cp pureL_nil_ pureL_cons_ pureO_row pureO_cells frzS frzH frz frz1 frz0 SlotsM ObjsM ObjM rn ren ren1 ren0 co_self co_int co_own co_view co_nilsl co_agg co_tup CoL coll_self mergeH dels adds idsH okNames
def regAt (s : GSt) (r : Int) : Kn := s.regs.getD r.toNat default
def setR (s : GSt) (r : Int) (k : Kn) : GSt := ⟨s.there, s.regs.set r.toNat k, s.slots⟩
def gDoes (tabs : List Shape) (x : Ins) (s : GSt) : GSt × Int :=
  if (usesL x).all (fun r => (regAt s r).set) = false then (s, 15)
  else if x.op = 1 then (setR s x.r ⟨true, true, x.n, if x.n = 0 then 0 else -1⟩, 0)
  else if x.op = 2 then (setR s x.r (regAt s x.s), 0)
  else if x.op = 3 then (setR s x.r (knBin x.k (regAt s x.r) (regAt s x.s)), 0)
  else if x.op = 4 ∨ x.op = 5 ∨ x.op = 18 then (setR s x.r knSome, 0)
  else if x.op = 6 then if (regAt s x.s).room < x.n + x.k then (s, 16) else (setR s x.r knSome, 0)
  else if x.op = 7 then if s.slots.getD x.n.toNat false then (setR s x.r knSome, 0) else (s, 15)
  else if x.op = 8 then (⟨s.there, s.regs, s.slots.set x.n.toNat true⟩, 0)
  else if x.op = 13 then gCall (nth tabs x.n.toNat) x s
  else if x.op = 15 then if (regAt s x.r).room < 0 then (s, 16) else (s, 0)
  else (s, 0)
theorem setR_ok {s : GSt} (hs : GOk s) (r : Int) (k : Kn) : GOk (setR s r k) := ⟨by simp [setR, hs.r], hs.s⟩
theorem gCall_ok {t : Shape} {x : Ins} {s : GSt} (hs : GOk s) : GOk (gCall t x s).1 := by
  unfold gCall
  split
  · exact ⟨by simp [hs.r], by rw [slotsSet_len]; exact hs.s⟩
  · exact hs
theorem gDoes_ok {tabs : List Shape} {x : Ins} {s : GSt} (hs : GOk s) : GOk (gDoes tabs x s).1 := by
  unfold gDoes
  repeat' split
  all_goals first | exact hs | exact setR_ok hs _ _ | exact gCall_ok hs | exact ⟨hs.r, by simp [hs.s]⟩
theorem usesL_ok {slots : Int} {tabs : List Shape} {x : Ins} (hx : InsP slots tabs x) : ∀ r ∈ usesL x, 0 ≤ r ∧ r < 10 := by
  intro r hr
  have h1 := hx.r
  have h2 := hx.s
  unfold usesL at hr
  repeat' split at hr
  all_goals simp at hr
  · rename_i h3 h4; subst hr; exact h2 (by omega)
  · rename_i h3 h4 h5; rcases hr with rfl | rfl
    · exact h1
    · exact h2 (by omega)
  · subst hr; exact h1
theorem usesL_len (x : Ins) : (usesL x).length ≤ 2 := by
  unfold usesL; repeat' split
  all_goals simp
theorem regAt_lt {s : GSt} {r : Nat} (h : r < s.regs.length) : regAt s r = s.regs[r] := by
  unfold regAt
  rw [Int.toNat_natCast, List.getD_eq_getElem?_getD, List.getElem?_eq_getElem h]; rfl
theorem set_setL : ∀ (cs : List SV) (i f : Nat) (vs : List SV) (v : SV), f < vs.length → (setL cs i vs).set (i + f) v = setL cs i (vs.set f v)
  | cs, i, 0, v0 :: vs, v, _ => by
    have : ∀ (vs : List SV) (cs : List SV) (j : Nat), j > i → (setL cs j vs).set i v = setL (cs.set i v) j vs := by
      intro vs
      induction vs with
      | nil => intros; rfl
      | cons u vs ih => intro cs j hj; rw [setL, setL, ih _ _ (by omega), List.set_comm _ _ (by omega)]
    show (setL (cs.set i v0) (i + 1) vs).set i v = setL (cs.set i v) (i + 1) vs
    rw [this vs _ _ (by omega), List.set_set]
  | cs, i, f + 1, v0 :: vs, v, h => by
    rw [setL, show i + (f + 1) = (i + 1) + f by omega, set_setL _ (i + 1) f vs v (by simpa using h), List.set_cons_succ, setL]
theorem stc_setf {s : GSt} {r f : Nat} {k : Kn} {v : SV} {k' : Kn} (hr : r < s.regs.length) (hf : f < 4) (h : (kc k).set f v = kc k') : (setL (stc s) (1 + r * 4) (kc k)).set (1 + r * 4 + f) v = stc ⟨s.there, s.regs.set r k', s.slots⟩ := by
  rw [set_setL _ _ _ _ _ hf, h, stc_setreg hr]
theorem stc_self {s : GSt} {r : Nat} (hr : r < s.regs.length) : setL (stc s) (1 + r * 4) (kc s.regs[r]) = stc s := by
  rw [stc_setreg hr, List.set_getElem_self]
theorem stc_setf' {s : GSt} {r f : Nat} {v : SV} {k' : Kn} (hr : r < s.regs.length) (hf : f < 4) (h : (kc s.regs[r]).set f v = kc k') : (stc s).set (1 + r * 4 + f) v = stc (setR s r k') := by
  have := stc_setf hr hf h
  rw [stc_self hr] at this
  rw [this]; rfl
theorem call_gbin (k : Int) (a b : Kn) (q : Nat) : SCalls Try.prog 142 [.int .i64 k, .agg (kc a), .agg (kc b)] [] q (.agg (kc (knBin k a b))) [] := scalls_q (gbin_s k a b) (fun σ => rfl) (fun σ => rfl) rfl q
theorem call_uses (x : Ins) (q : Nat) : SCalls Try.prog 141 [.agg (icv x)] [] q (iv (usesL x)) [] := scalls_q (uses_s x) (fun σ => rfl) (fun σ => rfl) rfl q
theorem ok2_gres (r : GSt × Int) : ok2 (gres r) = true := by
  unfold gres
  simp only [ok2, ok1, List.all_cons, List.all_nil, Bool.and_true, ok0]
  unfold stc
  simp only [List.all_cons, List.all_append, ok0, Bool.true_and, Bool.and_eq_true, List.all_eq_true]
  refine ⟨fun x hx => ?_, fun x hx => ?_⟩
  · obtain ⟨l, hl, hx⟩ := List.mem_flatten.1 hx
    obtain ⟨k, _, rfl⟩ := List.mem_map.1 hl
    simp [kc] at hx; rcases hx with rfl | rfl | rfl | rfl <;> rfl
  · obtain ⟨b, _, rfl⟩ := List.mem_map.1 hx; rfl
theorem gres_ren (σ : Nat → Nat) (r : GSt × Int) : ren σ (gres r) = gres r := by
  show SV.tup [.agg ((stc r.1).map (ren0 σ)), _] = _
  rw [stc_ren0]; rfl
theorem call_gcall (tabs : List Shape) (slots : Int) (x : Ins) (s : GSt) (hx : InsP slots tabs x) (hop : x.op = 13) (hs : GOk s) (q : Nat) : SCalls Try.prog 144 [gcp tabs, .agg (icv x), .agg (stc s)] [] q (gres (gCall (nth tabs x.n.toNat) x s)) [] :=
  scalls_q (gcall_s tabs slots x s hx hop hs) (fun σ => by show [gcp tabs, SV.agg (icv x), SV.agg ((stc s).map (ren1 σ))] = _; rw [stc_ren1]) (fun σ => gres_ren σ _) (ok2_gres _) q
theorem gdoes_s (tabs : List Shape) (slots : Int) (x : Ins) (s : GSt) (hx : InsP slots tabs x) (hs : GOk s) : SCalls Try.prog 116 [gcp tabs, .agg (icv x), .agg (stc s)] [] 0 (gres (gDoes tabs x s)) [] := by
  refine scalls_of (N := 143) Try.func116 rfl rfl (by kernel_rfl) comp_c_gdoes (by simp) ⟨rfl, rfl, stc_lt _ _, trivial⟩ trivial ?_
  rintro X hP hN hm
  have l1 := stc_len hs
  have hu := usesL_ok hx
  have hul := usesL_len x
  have fin : ∀ y z cs nx e, cs = stc (gDoes tabs x s).1 ∧ e = (gDoes tabs x s).2 → QFun X [ResultVar.cell 6 155, ResultVar.tmp 7] 0 (gres (gDoes tabs x s)) [] .ret ⟨[(6, .ptr 2 0), (7, .int .i64 e)], [(0, y), (1, z), (2, .cells 155 cs)], nx⟩ := fun y z cs nx e ⟨hc, he⟩ => by
    subst hc he
    have hok : GOk (gDoes tabs x s).1 := gDoes_ok hs
    exact qfun_done (s' := ⟨[(6, .ptr 2 0), (7, .int .i64 (gDoes tabs x s).2)], [(2, .cells 155 (stc (gDoes tabs x s).1))], 3⟩) (wk_list [(2, 2)] hm rfl (by simp) (by simp -implicitDefEqProofs) (by simp -implicitDefEqProofs [stc_ren, coL_self])) (by simp -implicitDefEqProofs [hP, resOf, resL, resV, agg_state, size_state, stc_len hok, stc_take hok, one_, gres]) trivial (by simp)
  generalize hl : usesL x = l at hu hul
  unfold c_gdoes
  repeat' (first
      | (with_reducible refine swp_seq ?_)
      | ((with_reducible refine swp_reg ?_); (try rw [hP]); simp -implicitDefEqProofs [icv, iv, hl, kc_len, stc_get0, stc_take hs, *])
      | ((with_reducible refine swp_regd (by rw [hP]; exact mixed) ?_); (try rw [hP]); simp -implicitDefEqProofs [icv, iv, hl, kc_len, stc_get0, stc_take hs, *])
      | ((with_reducible refine swp_skip ?_); (try simp -implicitDefEqProofs [icv, iv, hl, kc_len, stc_get0, stc_take hs, *]))
      | ((with_reducible refine swp_exit ?_); (try simp -implicitDefEqProofs [icv, iv, hl, kc_len, stc_get0, stc_take hs, *]))
      | ((with_reducible refine swp_ret ?_); (try simp only [qseq_r, qblock_r, qloop_r]))
      | ((with_reducible refine swp_cond rfl (fun h => ?_) (fun h => ?_)) <;> have h' := h <;> (try simp at h') <;> (try subst h'))
      | ((with_reducible refine sopsg_cases (fun h => ?_) (fun h => ?_)) <;> have h' := h <;> (try simp at h') <;> (try subst h') <;> simp -implicitDefEqProofs [icv, iv, hl, kc_len, stc_get0, stc_take hs, *])
      | ((with_reducible refine draw_ok ?_ ?_); (focus rfl))
      | ((with_reducible refine sopsk_rg ?_ ?_); (first | omega | (unfold maxLen; omega)); simp -implicitDefEqProofs [icv, iv, hl, kc_len, stc_get0, stc_take hs, *])
      | (with_reducible refine swp_block1 ?_)
      | (with_reducible refine swp_block2 ?_)
      | (refine call_q (call_uses x _) ?_; simp -implicitDefEqProofs [icv, iv, hl, kc_len, stc_get0, stc_take hs, *]))
  refine swp_block (swp_loop (fun s' m => ∃ i : Nat, s' = ⟨[(0, gcp tabs), (4, .ptr 0 0), (5, .ptr 1 0), (6, .ptr 2 0), (11, iv l), (12, .int .i64 (l.length : Nat)), (13, .int .i64 i)], [(0, .cells 56 (icv x)), (1, .cells 155 (stc s)), (2, .cells 155 zst)], 3⟩ ∧ i ≤ l.length ∧ (∀ r ∈ l.take i, (regAt s r).set = true) ∧ m = l.length - i) (wk_list [(0, 0), (1, 1), (2, 2)] hm rfl (by simp) (by simp -implicitDefEqProofs [gcp, iv]) (by refine And.intro ⟨_, rfl, rfl, .refl _⟩ (And.intro ⟨_, rfl, rfl, ?_⟩ (And.intro ⟨_, rfl, rfl, ?_⟩ trivial)); (rw [stc_ren]; exact .refl _); (rw [zst_ren]; exact .refl _))) ⟨0, rfl, by omega, by simp, rfl⟩ ?_)
  rintro s' m ⟨i, rfl, h1, h6, rfl⟩
  unfold c_gdoes_l1
  rcases Nat.lt_or_ge i l.length with hi | hi
  · obtain ⟨hr0, hr1⟩ := hu l[i] (List.getElem_mem hi)
    obtain ⟨R, hR⟩ : ∃ n : Nat, l[i] = n := ⟨l[i].toNat, by omega⟩
    have hRl : R < s.regs.length := by rw [hs.r]; omega
    have g1 := stc_regf (f := 0) hRl (by omega)
    have g2 : (kc s.regs[R])[0]? = some (.bool s.regs[R].set) := rfl
    rw [g2, Nat.add_zero] at g1
    have g3 : R < 10 := by omega
    have hg := regAt_lt hRl
    replace hg := Lib.hid hg
    cases hb : s.regs[R].set <;> rw [hb] at g1
    ·
      repeat' (first
          | (with_reducible refine swp_seq ?_)
          | ((with_reducible refine swp_reg ?_); (try rw [hP]); simp -implicitDefEqProofs [zst_len, iv, stc_take hs, *])
          | ((with_reducible refine swp_regd (by rw [hP]; exact mixed) ?_); (try rw [hP]); simp -implicitDefEqProofs [zst_len, iv, stc_take hs, *])
          | ((with_reducible refine swp_skip ?_); (try simp -implicitDefEqProofs [zst_len, iv, stc_take hs, *]))
          | ((with_reducible refine swp_exit ?_); (try simp -implicitDefEqProofs [zst_len, iv, stc_take hs, *]))
          | ((with_reducible refine swp_ret ?_); (try simp only [qseq_r, qblock_r, qloop_r]))
          | ((with_reducible refine swp_cond rfl (fun h => ?_) (fun h => ?_)) <;> have h' := h <;> (try simp at h') <;> (try subst h'))
          | ((with_reducible refine sopsg_cases (fun h => ?_) (fun h => ?_)) <;> have h' := h <;> (try simp at h') <;> (try subst h') <;> simp -implicitDefEqProofs [zst_len, iv, stc_take hs, *])
          | ((with_reducible refine draw_ok ?_ ?_); (focus rfl))
          | ((with_reducible refine sopsk_rg ?_ ?_); (first | omega | (unfold maxLen; omega)); simp -implicitDefEqProofs [zst_len, iv, stc_take hs, *])
          | (with_reducible refine swp_block1 ?_)
          | (with_reducible refine swp_block2 ?_)
          | (with_reducible refine fin _ _ _ _ _ ?_))
      have hc : gDoes tabs x s = (s, 15) := by
        unfold gDoes
        rw [if_pos]
        rw [hl, List.all_eq_false]
        exact ⟨l[i], List.getElem_mem hi, by rw [hR, hg.out, hb]; simp⟩
      rw [hc]
      exact ⟨setL_whole (by rw [l1]; exact zst_len), rfl⟩
    ·
      repeat' (first
          | (with_reducible refine swp_seq ?_)
          | ((with_reducible refine swp_reg ?_); (try rw [hP]); simp -implicitDefEqProofs [zst_len, iv, stc_take hs, *])
          | ((with_reducible refine swp_regd (by rw [hP]; exact mixed) ?_); (try rw [hP]); simp -implicitDefEqProofs [zst_len, iv, stc_take hs, *])
          | ((with_reducible refine swp_skip ?_); (try simp -implicitDefEqProofs [zst_len, iv, stc_take hs, *]))
          | ((with_reducible refine swp_exit ?_); (try simp -implicitDefEqProofs [zst_len, iv, stc_take hs, *]))
          | ((with_reducible refine swp_ret ?_); (try simp only [qseq_r, qblock_r, qloop_r]))
          | ((with_reducible refine swp_cond rfl (fun h => ?_) (fun h => ?_)) <;> have h' := h <;> (try simp at h') <;> (try subst h'))
          | ((with_reducible refine sopsg_cases (fun h => ?_) (fun h => ?_)) <;> have h' := h <;> (try simp at h') <;> (try subst h') <;> simp -implicitDefEqProofs [zst_len, iv, stc_take hs, *])
          | ((with_reducible refine draw_ok ?_ ?_); (focus rfl))
          | ((with_reducible refine sopsk_rg ?_ ?_); (first | omega | (unfold maxLen; omega)); simp -implicitDefEqProofs [zst_len, iv, stc_take hs, *])
          | (with_reducible refine swp_block1 ?_)
          | (with_reducible refine swp_block2 ?_)
          | ((rw [i64_add_ (by omega) (by omega)]; refine qloop_next (wk_list [(0, 0), (1, 1), (2, 2)] hm rfl (by simp) ?_ ?_) ⟨i + 1, rfl, by omega, ?_, rfl⟩ (by omega); (focus (simp -implicitDefEqProofs [gcp, iv]; done)); (focus (simp -implicitDefEqProofs [stc_ren, zst_ren, coL_self, icv]; done)))))
      intro r hr
      rw [List.take_succ_eq_append_getElem hi, List.mem_append, List.mem_singleton] at hr
      rcases hr with hr | rfl
      · exact h6 r hr
      · rw [hR, hg.out, hb]
  · obtain rfl : i = l.length := by omega
    have hall : (usesL x).all (fun r => (regAt s r).set) = true := by
      rw [hl, List.all_eq_true]
      intro r hr
      exact h6 r (by rw [List.take_length]; exact hr)
    by_cases h13 : x.op = 13
    ·
      have hcall : ∀ q, SCalls Try.prog 144 [gcp tabs, .agg [.int .i64 13, .int .i64 x.r, .int .i64 x.s, .int .i64 x.k, .int .i64 x.to, .int .u64 x.n], .agg (stc s)] [] q (.tup [.agg (stc (gCall (nth tabs x.n.toNat) x s).1), .int .i64 (gCall (nth tabs x.n.toNat) x s).2]) [] := fun q => by
        have := call_gcall tabs slots x s hx h13 hs q
        unfold icv gres at this
        rw [h13] at this
        exact this
      replace hcall := Lib.hid hcall
      have l2 := stc_len (gCall_ok (t := nth tabs x.n.toNat) (x := x) hs)
      repeat' (first
          | (with_reducible refine swp_seq ?_)
          | ((with_reducible refine swp_reg ?_); (try rw [hP]); simp -implicitDefEqProofs [zst_len, icv, stc_take hs, *])
          | ((with_reducible refine swp_regd (by rw [hP]; exact mixed) ?_); (try rw [hP]); simp -implicitDefEqProofs [zst_len, icv, stc_take hs, *])
          | ((with_reducible refine swp_skip ?_); (try simp -implicitDefEqProofs [zst_len, icv, stc_take hs, *]))
          | ((with_reducible refine swp_exit ?_); (try simp -implicitDefEqProofs [zst_len, icv, stc_take hs, *]))
          | ((with_reducible refine swp_ret ?_); (try simp only [qseq_r, qblock_r, qloop_r]))
          | ((with_reducible refine swp_cond rfl (fun h => ?_) (fun h => ?_)) <;> have h' := h <;> (try simp at h') <;> (try subst h'))
          | ((with_reducible refine sopsg_cases (fun h => ?_) (fun h => ?_)) <;> have h' := h <;> (try simp at h') <;> (try subst h') <;> simp -implicitDefEqProofs [zst_len, icv, stc_take hs, *])
          | ((with_reducible refine draw_ok ?_ ?_); (focus rfl))
          | ((with_reducible refine sopsk_rg ?_ ?_); (first | omega | (unfold maxLen; omega)); simp -implicitDefEqProofs [zst_len, icv, stc_take hs, *])
          | (with_reducible refine swp_block1 ?_)
          | (with_reducible refine swp_block2 ?_)
          | (refine call_q (hcall.out _) ?_; simp -implicitDefEqProofs [zst_len, icv, stc_take hs, *])
          | (with_reducible refine fin _ _ _ _ _ ?_))
      have hc : gDoes tabs x s = gCall (nth tabs x.n.toNat) x s := by
        unfold gDoes
        simp only [hall, h13]
        rfl
      rw [hc]
      exact ⟨setL_whole (by rw [stc_len (gCall_ok hs)]; exact zst_len), rfl⟩
    have h5 := hx.r
    have h4 := hx.s h13
    have hn0 := hx.n0
    have hk6 := hx.k6
    have hn7 := hx.n7
    have hsl := hx.sl
    replace hx := Lib.hid hx
    obtain ⟨R, hR⟩ : ∃ n : Nat, x.r = n := ⟨x.r.toNat, by omega⟩
    obtain ⟨S, hS⟩ : ∃ n : Nat, x.s = n := ⟨x.s.toNat, by omega⟩
    obtain ⟨n, hn⟩ : ∃ n : Nat, x.n = n := ⟨x.n.toNat, by omega⟩
    have hRl : R < s.regs.length := by rw [hs.r]; omega
    have hSl : S < s.regs.length := by rw [hs.r]; omega
    have r1 := stc_reg hRl
    have r2 := stc_reg hSl
    have r3 : (stc s)[1 + R * 4 + 3]? = some (.int .i64 s.regs[R].room) := stc_regf hRl (by omega)
    have r4 : (stc s)[1 + S * 4 + 3]? = some (.int .i64 s.regs[S].room) := stc_regf hSl (by omega)
    have r5 : ∀ k, setL (stc s) (1 + R * 4) (kc k) = stc (setR s R k) := fun k => stc_setreg hRl
    have r6 : ∀ a b c d, ((((stc s).set (1 + R * 4) (.bool a)).set (1 + R * 4 + 1) (.bool b)).set (1 + R * 4 + 1 + 1) (.int .u64 c)).set (1 + R * 4 + 1 + 1 + 1) (.int .i64 d) = stc (setR s R ⟨a, b, c, d⟩) := fun a b c d => r5 ⟨a, b, c, d⟩
    have r7 : ∀ k v, (stc (setR s R k)).set (1 + R * 4 + 3) (.int .i64 v) = stc (setR s R ⟨k.set, k.just, k.n, v⟩) := fun k v => by
      have hl' : R < (setR s R k).regs.length := by simp [setR, hRl]
      rw [stc_setf' (s := setR s R k) (r := R) (f := 3) (k' := ⟨k.set, k.just, k.n, v⟩) hl' (by omega) (by simp [setR, kc])]
      simp [setR]
    have r8 : ∀ k, (stc (setR s R k)).length = 137 := fun k => stc_len (setR_ok hs _ _)
    have r9 : ∀ k, (stc (setR s R k)).take 137 = stc (setR s R k) := fun k => stc_take (setR_ok hs _ _)
    have q1 : R < 10 := by omega
    have q2 : S < 10 := by omega
    have q3 : 1 + R * 4 + 4 ≤ 137 := by omega
    have q4 : 1 + S * 4 + 4 ≤ 137 := by omega
    have q5 : 1 + R * 4 + 3 + 1 ≤ 137 := by omega
    have c1 : x.op = 7 → (stc s)[41 + n]? = some (.bool (s.slots.getD n false)) := fun h => by
      have : n < s.slots.length := by have := hn7 (.inl h); rw [hs.s]; omega
      rw [stc_slot hs this, List.getD_eq_getElem?_getD, List.getElem?_eq_getElem this]; rfl
    have c2 : x.op = 8 → (stc s).set (41 + n) (.bool true) = stc ⟨s.there, s.regs, s.slots.set n true⟩ := fun h => stc_setslot hs (by have := hn7 (.inr h); rw [hs.s]; omega)
    have c5 : x.op = 6 → IntKind.i64.wrap (n : Int) = n := fun h => by have := hk6 h; exact IntWalk.i64_in _ ⟨by omega, by omega⟩
    have c6 : x.op = 6 → IntKind.i64.wrap ((n : Int) + x.k) = n + x.k := fun h => by have := hk6 h; exact IntWalk.i64_in _ ⟨by omega, by omega⟩
    have c0 : GOk ⟨s.there, s.regs, s.slots.set n true⟩ := ⟨hs.r, by simp [hs.s]⟩
    have c3 := stc_len c0
    have c4 := stc_take c0
    have hres : ∀ G : GSt × Int, gDoes tabs x s = G → ∀ cs e, cs = setL zst 0 (stc G.1) → e = G.2 → cs = stc (gDoes tabs x s).1 ∧ e = (gDoes tabs x s).2 := by
      rintro G hG cs e rfl rfl
      have hok : GOk (gDoes tabs x s).1 := gDoes_ok hs
      rw [hG] at hok ⊢
      exact ⟨setL_whole (by rw [stc_len hok]; exact zst_len), rfl⟩
    replace hres := Lib.hid hres
    have hd : gDoes tabs x s = if x.op = 1 then (setR s x.r ⟨true, true, x.n, if x.n = 0 then 0 else -1⟩, 0)
      else if x.op = 2 then (setR s x.r (regAt s x.s), 0)
      else if x.op = 3 then (setR s x.r (knBin x.k (regAt s x.r) (regAt s x.s)), 0)
      else if x.op = 4 ∨ x.op = 5 ∨ x.op = 18 then (setR s x.r knSome, 0)
      else if x.op = 6 then if (regAt s x.s).room < x.n + x.k then (s, 16) else (setR s x.r knSome, 0)
      else if x.op = 7 then if s.slots.getD x.n.toNat false then (setR s x.r knSome, 0) else (s, 15)
      else if x.op = 8 then (⟨s.there, s.regs, s.slots.set x.n.toNat true⟩, 0)
      else if x.op = 13 then gCall (nth tabs x.n.toNat) x s
      else if x.op = 15 then if (regAt s x.r).room < 0 then (s, 16) else (s, 0)
      else (s, 0) := by unfold gDoes; rw [if_neg (by rw [hall]; simp)]
    replace hd := Lib.hid hd
    have e1 := Lib.hid (regAt_lt hRl)
    have e2 := Lib.hid (regAt_lt hSl)
    repeat' (first
        | (with_reducible refine swp_seq ?_)
        | ((with_reducible refine swp_reg ?_); (try rw [hP]); simp -implicitDefEqProofs [zst_len, icv, kc_len, stc_take hs, *])
        | ((with_reducible refine swp_regd (by rw [hP]; exact mixed) ?_); (try rw [hP]); simp -implicitDefEqProofs [zst_len, icv, kc_len, stc_take hs, *])
        | ((with_reducible refine swp_skip ?_); (try simp -implicitDefEqProofs [zst_len, icv, kc_len, stc_take hs, *]))
        | ((with_reducible refine swp_exit ?_); (try simp -implicitDefEqProofs [zst_len, icv, kc_len, stc_take hs, *]))
        | ((with_reducible refine swp_ret ?_); (try simp only [qseq_r, qblock_r, qloop_r]))
        | ((with_reducible refine swp_cond rfl (fun h => ?_) (fun h => ?_)) <;> have h' := h <;> (try simp at h') <;> (try subst h'))
        | ((with_reducible refine sopsg_cases (fun h => ?_) (fun h => ?_)) <;> have h' := h <;> (try simp at h') <;> (try subst h') <;> simp -implicitDefEqProofs [zst_len, icv, kc_len, stc_take hs, *])
        | ((with_reducible refine draw_ok ?_ ?_); (focus rfl))
        | ((with_reducible refine sopsk_rg ?_ ?_); (first | omega | (unfold maxLen; omega)); simp -implicitDefEqProofs [zst_len, icv, kc_len, stc_take hs, *])
        | (with_reducible refine swp_block1 ?_)
        | (with_reducible refine swp_block2 ?_)
        | (refine call_q (call_gsome _) ?_; simp -implicitDefEqProofs [zst_len, icv, kc_len, stc_take hs, *])
        | (refine call_q (call_gbin _ _ _ _) ?_; simp -implicitDefEqProofs [zst_len, icv, kc_len, stc_take hs, *])
        | ((refine absurd ?_ h13; (focus (assumption; done))))
        | (with_reducible refine fin _ _ _ _ _ ?_))
    all_goals
      refine hres.out (_, _) ?_ _ _ rfl rfl
      rw [hd.out]
      clear hall hu h6 hl fin r1 r2 r3 r4 r5 r6 r7 r8 r9 c1 c2 c0 c3 c4 c5 c6
      simp [*, e1.out, e2.out]
    all_goals first | rfl | (rw [if_neg (by omega)]; rfl)
end Go.Proofs.Ytfakdapglbgokaa

/-
  Package word: has, with, reg, slots, Ends; the references' isReg. No condition.
-/
namespace Go.Proofs.Ytfakdapglbgokaa
set_option linter.all false
open Go.RowKit

def hasStr (op : Int) : ByteArray :=
  if op = 1 ∨ op = 7 ∨ op = 8 then ⟨#[114, 110]⟩ else if op = 2 ∨ op = 5 then ⟨#[114, 115]⟩ else if op = 3 then ⟨#[114, 115, 107]⟩ else if op = 4 ∨ op = 15 ∨ op = 16 ∨ op = 18 then ⟨#[114]⟩
  else if op = 6 ∨ op = 13 then ⟨#[114, 115, 107, 110]⟩ else if op = 9 then ⟨#[114, 116, 110]⟩ else if op = 10 ∨ op = 11 then ⟨#[114, 115, 116]⟩ else if op = 12 then ⟨#[116]⟩ else if op = 14 then ⟨#[114, 107]⟩ else if op = 17 then ⟨#[]⟩ else ⟨#[63]⟩

theorem op_cases {op : Int} (h : isOp op = true) : op = 1 ∨ op = 2 ∨ op = 3 ∨ op = 4 ∨ op = 5 ∨ op = 6 ∨ op = 7 ∨ op = 8 ∨ op = 9 ∨ op = 10 ∨ op = 11 ∨ op = 12 ∨ op = 13 ∨ op = 14 ∨ op = 15 ∨ op = 16 ∨ op = 17 ∨ op = 18 := by
  unfold isOp at h; simp at h; omega

theorem has_no (op : Int) (w : World) (h : isOp op = false) : Calls Try.prog 106 #[.int .i64 op] w fun e w' => e = .returned (.string ⟨#[63]⟩) ∧ w = w' := by
  unfold isOp at h
  simp only [decide_eq_false_iff_not] at h
  have h : op < 1 ∨ (1 ≤ op ∧ 18 < op) := by omega
  rcases h with h | h
  all_goals
    go_enter Try.func106, Try.ntmps106
    go_wp2
    go_ret
    exact ⟨rfl, rfl⟩
def hasRow : Array Value := #[.string ⟨#[]⟩, .string ⟨#[114, 110]⟩, .string ⟨#[114, 115]⟩, .string ⟨#[114, 115, 107]⟩, .string ⟨#[114]⟩, .string ⟨#[114, 115]⟩, .string ⟨#[114, 115, 107, 110]⟩, .string ⟨#[114, 110]⟩, .string ⟨#[114, 110]⟩, .string ⟨#[114, 116, 110]⟩, .string ⟨#[114, 115, 116]⟩, .string ⟨#[114, 115, 116]⟩, .string ⟨#[116]⟩, .string ⟨#[114, 115, 107, 110]⟩, .string ⟨#[114, 107]⟩, .string ⟨#[114]⟩, .string ⟨#[114]⟩, .string ⟨#[]⟩, .string ⟨#[114]⟩]
theorem has_index (op : Int) (h : isOp op = true) (w : World) : (Instr.index 181 (.agg hasRow) (.int .i64 op)).run Try.prog w = .ok (.string (hasStr op)) w := by
  rcases op_cases h with rfl | rfl | rfl | rfl | rfl | rfl | rfl | rfl | rfl | rfl | rfl | rfl | rfl | rfl | rfl | rfl | rfl | rfl
  all_goals kernel_rfl
set_option maxRecDepth 100000 in
set_option maxHeartbeats 1000000 in
theorem has_yes (op : Int) (w : World) (h : isOp op = true) : Calls Try.prog 106 #[.int .i64 op] w fun e w' => e = .returned (.string (hasStr op)) ∧ w = w' := by
  have hi := has_index op h
  unfold hasRow at hi
  have h' := h
  unfold isOp at h'
  simp only [decide_eq_true_eq] at h'
  obtain ⟨h1, h2⟩ := h'
  go_enter Try.func106, Try.ntmps106
  go_wp2
  go_ret
  exact ⟨rfl, rfl⟩

/-- Does a byte stand in a string? -/
def inStr (s : ByteArray) (c : Int) : Bool := s.data.toList.any fun x => (x.toNat : Int) == c
theorem inStr_has (op : Int) (h : isOp op = true) : inStr (hasStr op) 114 = hasR op ∧ inStr (hasStr op) 115 = hasS op ∧ inStr (hasStr op) 107 = hasK op ∧ inStr (hasStr op) 116 = hasT op ∧ inStr (hasStr op) 110 = hasN op ∧ ((hasStr op).toList == [63]) = false ∧ (hasStr op).size ≤ 4 := by
  rcases op_cases h with rfl | rfl | rfl | rfl | rfl | rfl | rfl | rfl | rfl | rfl | rfl | rfl | rfl | rfl | rfl | rfl | rfl | rfl
  all_goals decide +kernel
set_option maxHeartbeats 400000 in
theorem with_any (s : ByteArray) (c : Int) (w : World) (hs : s.size ≤ 1000) : Calls Try.prog 105 #[.string s, .int .u8 c] w fun e w' => e = .returned (.bool (inStr s c)) ∧ w = w' := by
  go_enter Try.func105, Try.ntmps105
  go_wp2
  go_loop [8] (fun i => ∃ k : Nat, k ≤ s.size ∧ i = .int .i64 k ∧ ∀ j (h : j < s.size), j < k → (s[j].toNat : Int) ≠ c) (fun i => s.size - (intOf i).toNat)
  case atStart => exact ⟨0, Nat.zero_le _, rfl, fun j _ h => absurd h (Nat.not_lt_zero j)⟩
  case round =>
    obtain ⟨k, hk, rfl, hno⟩ := hrel
    have HN := Lib.hid hno
    clear hno
    by_cases hlt : k < s.size
    · by_cases hc : (s[k].toNat : Int) = c
      · have e1 : Hid (inStr s c = true) := by
          show inStr s c = true
          unfold inStr
          rw [List.any_eq_true]
          exact ⟨s[k], by rw [show s[k] = s.data[k] from rfl]; exact Array.mem_toList_iff.2 (Array.getElem_mem _), by rw [beq_iff_eq]; exact hc⟩
        have hq : ((s[k].toNat : Int) == c) = true := by rw [beq_iff_eq]; exact hc
        clear hc
        go_wp2
        go_ret
        exact ⟨by rw [e1.out]; rfl, rfl⟩
      · have hq : ((s[k].toNat : Int) == c) = false := by rw [beq_eq_false_iff_ne]; exact hc
        have hno2 : Hid (∀ j (h : j < s.size), j < k + 1 → (s[j].toNat : Int) ≠ c) := fun j hj hj2 => by
          by_cases e : j = k
          · subst e; exact hc
          · exact HN.out j hj (by omega)
        clear hc
        go_wp2
        go_round
        case rel => exact ⟨k + 1, by omega, by go_num, hno2.out⟩
        case measure => simp [intOf]; omega
    · have e1 : Hid (inStr s c = false) := by
        show inStr s c = false
        unfold inStr
        rw [List.any_eq_false]
        intro x hx
        rw [Array.mem_toList_iff] at hx
        obtain ⟨i, hi, rfl⟩ := Array.getElem_of_mem hx
        have := HN.out i hi (by have : i < s.size := hi; omega)
        rw [beq_iff_eq]
        exact this
      go_wp2
      go_ret
      exact ⟨by rw [e1.out]; rfl, rfl⟩

theorem Ends_any (op : Int) (w : World) : Calls Try.prog 54 #[.int .i64 op] w fun e w' => e = .returned (.bool (isEnd op)) ∧ w = w' := by
  have h : isEnd op = (decide (op = 16) || decide (op = 17)) := by unfold isEnd; simp
  rw [h]
  clear h
  by_cases h1 : op = 16
  · subst h1
    go_enter Try.func54, Try.ntmps54
    go_wp2
    go_ret
    exact ⟨rfl, rfl⟩
  by_cases h2 : op = 17
  · subst h2
    go_enter Try.func54, Try.ntmps54
    go_wp2
    go_ret
    exact ⟨rfl, rfl⟩
  have q1 : (op == 16) = false := by rw [beq_eq_false_iff_ne]; exact h1
  have q2 : (op == 17) = false := by rw [beq_eq_false_iff_ne]; exact h2
  go_enter Try.func54, Try.ntmps54
  go_wp2
  go_ret
  exact ⟨by simp [h1, h2], rfl⟩

def regB (n : Int) : Bool := decide (0 ≤ n ∧ n < 10)
theorem reg_any (n : Int) (w : World) : Calls Try.prog 134 #[.int .i64 n] w fun e w' => e = .returned (.bool (regB n)) ∧ w = w' := by
  go_enter Try.func134, Try.ntmps134
  go_wp2
  all_goals
    go_ret
    exact ⟨by simp [regB]; try omega, rfl⟩
theorem isReg_any (n : Int) (w : World) : Calls Try.prog 133 #[.int .i64 n] w fun e w' => e = .returned (.bool (regB n)) ∧ w = w' := by
  go_enter Try.func133, Try.ntmps133
  go_wp2
  all_goals
    go_ret
    exact ⟨by simp [regB]; try omega, rfl⟩
end Go.Proofs.Ytfakdapglbgokaa

/-
  The references' fieldsOf and insForm; word's fits. No condition.
-/
namespace Go.Proofs.Ytfakdapglbgokaa
set_option linter.all false
open Go.RowKit

set_option maxRecDepth 100000 in
set_option maxHeartbeats 2000000 in
theorem fieldsOf_any (op : Int) (w : World) : Calls Try.prog 89 #[.int .i64 op] w fun e w' => e = .returned (.tuple #[.agg #[.bool (hasR op), .bool (hasS op), .bool (hasK op), .bool (hasT op), .bool (hasN op)], .bool (isOp op)]) ∧ Below w.heap.size w w' := by
  by_cases h : isOp op = true
  · rcases op_cases h with rfl | rfl | rfl | rfl | rfl | rfl | rfl | rfl | rfl | rfl | rfl | rfl | rfl | rfl | rfl | rfl | rfl | rfl
    all_goals
      clear h
      go_enter Try.func89, Try.ntmps89
      go_wp2
      exact bodyPost_ret (v := .tuple #[.agg #[.bool (hasR _), .bool (hasS _), .bool (hasK _), .bool (hasT _), .bool (hasN _)], .bool (isOp _)]) (by simp [results, Try.results89, go_sem, hasR, hasS, hasK, hasT, hasN, isOp]) rfl ⟨rfl, by go_grown⟩
  · have h0 : op < 1 ∨ 18 < op := by unfold isOp at h; simp at h; omega
    have e1 : hasR op = false ∧ hasS op = false ∧ hasK op = false ∧ hasT op = false ∧ hasN op = false ∧ isOp op = false := by
      unfold hasR hasS hasK hasT hasN isOp; simp; omega
    obtain ⟨e1, e2, e3, e4, e5, e6⟩ := e1
    rw [e1, e2, e3, e4, e5, e6]
    have q1 : (op == 1) = false := by rw [beq_eq_false_iff_ne]; omega
    have q2 : (op == 2) = false := by rw [beq_eq_false_iff_ne]; omega
    have q3 : (op == 3) = false := by rw [beq_eq_false_iff_ne]; omega
    have q4 : (op == 4) = false := by rw [beq_eq_false_iff_ne]; omega
    have q5 : (op == 5) = false := by rw [beq_eq_false_iff_ne]; omega
    have q6 : (op == 6) = false := by rw [beq_eq_false_iff_ne]; omega
    have q7 : (op == 7) = false := by rw [beq_eq_false_iff_ne]; omega
    have q8 : (op == 8) = false := by rw [beq_eq_false_iff_ne]; omega
    have q9 : (op == 9) = false := by rw [beq_eq_false_iff_ne]; omega
    have q10 : (op == 10) = false := by rw [beq_eq_false_iff_ne]; omega
    have q11 : (op == 11) = false := by rw [beq_eq_false_iff_ne]; omega
    have q12 : (op == 12) = false := by rw [beq_eq_false_iff_ne]; omega
    have q13 : (op == 13) = false := by rw [beq_eq_false_iff_ne]; omega
    have q14 : (op == 14) = false := by rw [beq_eq_false_iff_ne]; omega
    have q15 : (op == 15) = false := by rw [beq_eq_false_iff_ne]; omega
    have q16 : (op == 16) = false := by rw [beq_eq_false_iff_ne]; omega
    have q17 : (op == 17) = false := by rw [beq_eq_false_iff_ne]; omega
    have q18 : (op == 18) = false := by rw [beq_eq_false_iff_ne]; omega
    clear h e1 e2 e3 e4 e5 e6 h0
    go_enter Try.func89, Try.ntmps89
    go_wp2
    exact bodyPost_ret (v := .tuple #[.agg #[.bool false, .bool false, .bool false, .bool false, .bool false], .bool false]) (by simp [results, Try.results89, go_sem]) rfl ⟨rfl, by go_grown⟩

theorem insOk_op (slots : Int) (tabs : List Shape) (x : Ins) (r s k t n : Bool) (hi : isOp x.op = true) (hr : hasR x.op = r) (hs : hasS x.op = s) (hk : hasK x.op = k) (ht : hasT x.op = t) (hn : hasN x.op = n) :
    insOk slots tabs x = ((r || x.r == 0) && (s || x.s == 0) && (k || x.k == 0) && (t || x.to == 0) && (n || x.n == 0) && regB x.r && (x.op == 13 || regB x.s) && decide (0 ≤ x.to) && kindOk slots tabs x) := by
  unfold insOk formOk regsOk regB
  rw [hi, hr, hs, hk, ht, hn]
  simp only [Bool.beq_eq_decide_eq, Bool.true_and, Bool.and_assoc]
/-- What is known of the two blocks of the parameters behind the first call. -/
theorem ins_facts {slots op r s k to n : Int} {to_ co : Option Addr} {tn tc cn cc : Nat} {tp ti : TypeId} {w w1 : World}
    (hb1 : Below ((w.alloc (.cells #[.int .i64 slots, .slice to_ tn tc, .slice co cn cc] tp)).alloc (.cells #[.int .i64 op, .int .i64 r, .int .i64 s, .int .i64 k, .int .i64 to, .int .u64 n] ti)).heap.size ((w.alloc (.cells #[.int .i64 slots, .slice to_ tn tc, .slice co cn cc] tp)).alloc (.cells #[.int .i64 op, .int .i64 r, .int .i64 s, .int .i64 k, .int .i64 to, .int .u64 n] ti)) w1) :
    Below w.heap.size w w1 ∧ w1.cell? ⟨w.heap.size, 0, none⟩ = some (.int .i64 slots) ∧ w1.cell? ⟨w.heap.size, 1, none⟩ = some (.slice to_ tn tc) ∧
      w1.cell? ⟨w.heap.size + 1, 0, none⟩ = some (.int .i64 op) ∧ w1.cell? ⟨w.heap.size + 1, 1, none⟩ = some (.int .i64 r) ∧ w1.cell? ⟨w.heap.size + 1, 2, none⟩ = some (.int .i64 s) ∧ w1.cell? ⟨w.heap.size + 1, 3, none⟩ = some (.int .i64 k) ∧ w1.cell? ⟨w.heap.size + 1, 4, none⟩ = some (.int .i64 to) ∧ w1.cell? ⟨w.heap.size + 1, 5, none⟩ = some (.int .u64 n) := by
  have k1 := ((Blk.new w tp #[.int .i64 slots, .slice to_ tn tc, .slice co cn cc]).alloc (.cells #[.int .i64 op, .int .i64 r, .int .i64 s, .int .i64 k, .int .i64 to, .int .u64 n] ti)).below hb1 (by simp; omega)
  have k2 := (Blk.new (w.alloc (.cells #[.int .i64 slots, .slice to_ tn tc, .slice co cn cc] tp)) ti #[.int .i64 op, .int .i64 r, .int .i64 s, .int .i64 k, .int .i64 to, .int .u64 n]).below hb1 (by simp)
  rw [World.size_alloc] at k2
  exact ⟨ov (al (al (rf w) _) _) (hb1.mono (Nat.le_refl _)), k1.cell 0, k1.cell 1, k2.cell 0, k2.cell 1, k2.cell 2, k2.cell 3, k2.cell 4, k2.cell 5⟩

end Go.Proofs.Ytfakdapglbgokaa

/-
  insForm and fits of an instruction that asks a table (13). No condition.
-/
namespace Go.Proofs.Ytfakdapglbgokaa
set_option linter.all false
open Go.RowKit

theorem slots_any (slots at_ n : Int) (to_ co : Option Addr) (tn tc cn cc : Nat) (w : World) (hs : 0 ≤ slots ∧ slots ≤ 96) (hn : 0 ≤ n ∧ n ≤ 3) :
    Calls Try.prog 135 #[.agg #[.int .i64 slots, .slice to_ tn tc, .slice co cn cc], .int .i64 at_, .int .i64 n] w fun e w' => e = .returned (.bool (slotsOk slots at_ n)) ∧ Below w.heap.size w w' := by
  obtain ⟨hs1, hs2⟩ := hs
  obtain ⟨hn1, hn2⟩ := hn
  go_enter Try.func135, Try.ntmps135
  go_wp2
  all_goals
    go_ret
    exact ⟨by simp [slotsOk, go_sem, *]; try omega, by go_grown⟩
set_option maxRecDepth 100000 in
set_option maxHeartbeats 2000000 in
theorem fits_13 (slots : Int) (to_ : Option Addr) (tc : Nat) (tabs : List Shape) (co : Option Addr) (cn cc : Nat) (x : Ins) (A : Nat → Prop) (w : World) (ht : RdL shapeLay A w to_ tabs.length tc tabs) (hok : ∀ i, i < tabs.length → tabBad (nth tabs i) = false) (hx : x.wf) (hs : 0 ≤ slots ∧ slots ≤ 96) (h : x.op = 13) :
    Calls Try.prog 104 #[.agg #[.int .i64 slots, .slice to_ tabs.length tc, .slice co cn cc], .agg #[.int .i64 x.op, .int .i64 x.r, .int .i64 x.s, .int .i64 x.k, .int .i64 x.to, .int .u64 x.n]] w fun e w' => e = .returned (.bool (insOk slots tabs x)) ∧ Below w.heap.size w w' := by
  obtain ⟨op, r, s, k, to, n⟩ := x
  simp only at h
  subst h
  have hn := hx.2.2.2.2.2.u64
  simp only at hn
  obtain ⟨hn1, hn2⟩ := hn
  have b1 : isOp 13 = true := rfl
  have E := insOk_op slots tabs ⟨13, r, s, k, to, n⟩ true true true false true rfl rfl rfl rfl rfl rfl
  obtain ⟨R, hR⟩ : ∃ R, insOk slots tabs ⟨13, r, s, k, to, n⟩ = R := ⟨_, rfl⟩
  rw [hR]
  rw [hR] at E
  replace E := Lib.hid E
  clear hR hx
  obtain ⟨i1, i2, i3, i4, i5, i6, i7⟩ := inStr_has 13 b1
  rw [show hasR 13 = true from rfl] at i1
  rw [show hasS 13 = true from rfl] at i2
  rw [show hasK 13 = true from rfl] at i3
  rw [show hasT 13 = false from rfl] at i4
  rw [show hasN 13 = true from rfl] at i5
  have i8 : (hasStr 13).size ≤ 1000 := by omega
  have htl := ht.lt
  clear i7
  by_cases hlt : n < tabs.length
  case neg =>
    have hge : (tabs.length : Int) ≤ n := by omega
    obtain ⟨hs1, hs2⟩ := hs
    clear hlt
    go_enter Try.func104, Try.ntmps104
    go_wp2_with (first
      | (go_at_call 106; refine (has_yes _ _ b1).mono ?_; rintro e w' ⟨rfl, rfl⟩)
      | (go_at_call 105; refine (with_any _ _ _ i8).mono ?_; rintro e w' ⟨rfl, rfl⟩)
      | (go_at_call 134; refine (reg_any _ _).mono ?_; rintro e w' ⟨rfl, rfl⟩))
    all_goals
      go_ret
      exact ⟨by rw [E.out]; have hq : ¬ n < tabs.length := by { omega }; simp [kindOk, go_sem, *], by go_grown⟩
  obtain ⟨m, rfl⟩ := Int.eq_ofNat_of_zero_le hn1
  have hm : m < tabs.length := by omega
  obtain ⟨b, off, rfl, _, hb, hwf, hc0, hc1, hc2⟩ := ht.shape_at hm
  have hto := hok m hm
  have ho : (1 ≤ (nth tabs m).keys ∧ (nth tabs m).keys ≤ 3) ∧ (0 ≤ (nth tabs m).args ∧ (nth tabs m).args ≤ 3) := by unfold tabBad at hto; simp at hto; omega
  clear hto hok
  go_enter Try.func104, Try.ntmps104
  go_wp2_with (first
      | (go_at_call 106; refine (has_yes _ _ b1).mono ?_; rintro e w' ⟨rfl, rfl⟩)
      | (go_at_call 105; refine (with_any _ _ _ i8).mono ?_; rintro e w' ⟨rfl, rfl⟩)
      | (go_at_call 134; refine (reg_any _ _).mono ?_; rintro e w' ⟨rfl, rfl⟩))
  rotate_left
  all_goals try (go_ret; exact ⟨by rw [E.out]; simp [kindOk, go_sem, *], by go_grown⟩)
  refine (slots_any _ _ _ _ _ _ _ _ _ _ hs ⟨by omega, ho.1.2⟩).mono ?_
  rintro e w1 ⟨rfl, hb1⟩
  obtain ⟨hB, k0, k1, k2⟩ := blk3 hb1
  have g0 := k0.cell 0
  have g1 := k0.cell 1
  have g2 := k0.cell 2
  have g3 := k1.cell 3
  have g4 := k2.cell 2
  simp at g0 g1 g2 g3 g4
  clear hb1 k0 k1 k2 hc0 hc1 hc2
  by_cases hq : slotsOk slots s (nth tabs m).keys = true
  case neg =>
    simp only [Bool.not_eq_true] at hq
    go_wp2_with fail
    go_ret
    exact ⟨by rw [E.out]; simp [kindOk, go_sem, *], by go_grown⟩
  go_wp2_with fail
  refine (slots_any _ _ _ _ _ _ _ _ _ _ hs ho.2).mono ?_
  rintro e w2 ⟨rfl, hb2⟩
  have hB2 := ov hB hb2
  go_wp2_with fail
  go_ret
  exact ⟨by rw [E.out]; simp [kindOk, go_sem, *], hB2⟩
set_option maxRecDepth 100000 in
set_option maxHeartbeats 2000000 in
theorem insForm_13 (slots : Int) (to_ : Option Addr) (tc : Nat) (tabs : List Shape) (co : Option Addr) (cn cc : Nat) (x : Ins) (A : Nat → Prop) (w : World) (ht : RdL shapeLay A w to_ tabs.length tc tabs) (hok : ∀ i, i < tabs.length → tabBad (nth tabs i) = false) (hx : x.wf) (hs : 0 ≤ slots ∧ slots ≤ 96) (h : x.op = 13) :
    Calls Try.prog 98 #[.agg #[.int .i64 slots, .slice to_ tabs.length tc, .slice co cn cc], .agg #[.int .i64 x.op, .int .i64 x.r, .int .i64 x.s, .int .i64 x.k, .int .i64 x.to, .int .u64 x.n]] w fun e w' => e = .returned (.bool (insOk slots tabs x)) ∧ Below w.heap.size w w' := by
  obtain ⟨op, r, s, k, to, n⟩ := x
  simp only at h
  subst h
  have hn := hx.2.2.2.2.2.u64
  have hss := hx.2.2.1.i64
  have hkk := hx.2.2.2.1.i64
  simp only at hn hss hkk
  obtain ⟨hn1, hn2⟩ := hn
  have E := insOk_op slots tabs ⟨13, r, s, k, to, n⟩ true true true false true rfl rfl rfl rfl rfl rfl
  obtain ⟨R, hR⟩ : ∃ R, insOk slots tabs ⟨13, r, s, k, to, n⟩ = R := ⟨_, rfl⟩
  rw [hR]
  rw [hR] at E
  replace E := Lib.hid E
  clear hR hx
  have htl := ht.lt
  obtain ⟨hs1, hs2⟩ := hs
  go_enter Try.func98, Try.ntmps98
  go_wp2_with fail
  refine (fieldsOf_any _ _).mono ?_
  rintro e w1 ⟨rfl, hb1⟩
  rw [show isOp 13 = true from rfl, show hasR 13 = true from rfl, show hasS 13 = true from rfl, show hasK 13 = true from rfl, show hasT 13 = false from rfl, show hasN 13 = true from rfl]
  have hz : w.heap.size + 1 < w1.heap.size := by have := hb1.size; simp at this; omega
  have hz0 : w.heap.size < w1.heap.size := by omega
  obtain ⟨hB, g0, g1, f0, f1, f2, f3, f4, f5⟩ := ins_facts hb1
  have ht2 := ht.below (al hB (.cells #[.bool true, .bool true, .bool true, .bool false, .bool true] 125))
  clear hb1
  go_wp2_with (go_at_call 133; refine (isReg_any _ _).mono ?_; rintro e w' ⟨rfl, rfl⟩)
  rotate_left
  all_goals try (go_ret; exact ⟨by rw [E.out]; simp [kindOk, go_sem, *], by go_grown⟩)
  all_goals
    go_loop [7] (fun i => ∃ j : Nat, j ≤ tabs.length ∧ (j : Int) ≤ n ∧ i = .int .i64 j) (fun i => tabs.length - (intOf i).toNat)
    case atStart => exact ⟨0, Nat.zero_le _, by omega, rfl⟩
    case round =>
      obtain ⟨j, hj, hjn, rfl⟩ := hrel
      by_cases hlt : j < tabs.length
      · by_cases he : (j : Int) = n
        · subst he
          have hto := hok j hlt
          have ho : (1 ≤ (nth tabs j).keys ∧ (nth tabs j).keys ≤ 3) ∧ (0 ≤ (nth tabs j).args ∧ (nth tabs j).args ≤ 3) := by unfold tabBad at hto; simp at hto; omega
          obtain ⟨⟨ho1, ho2⟩, ho3, ho4⟩ := ho
          obtain ⟨b, off, rfl, _, hb, hwf, hc0, hc1, hc2⟩ := ht2.shape_at hlt
          clear hto hb hwf
          go_wp2_with fail
          all_goals
            go_ret
            exact ⟨by rw [E.out]; first | (simp [kindOk, slotsOk, go_sem, *]; done) | (simp [kindOk, slotsOk, go_sem, *]; omega) | (simp [kindOk, slotsOk, go_sem, *]; rw [Bool.eq_iff_iff]; simp only [decide_eq_true_eq, Bool.and_eq_true]; omega), by go_grown⟩
        · have he' : ((j : Int) == n) = false := by rw [beq_eq_false_iff_ne]; exact he
          have hjn2 : ((j + 1 : Nat) : Int) ≤ n := by omega
          clear he
          go_wp2_with fail
          go_round
          case rel => exact ⟨j + 1, by omega, hjn2, by go_num⟩
          case measure => simp [intOf]; omega
      · have hge : ¬ n < (tabs.length : Int) := by omega
        go_wp2_with fail
        go_ret
        exact ⟨by rw [E.out]; first | (simp [kindOk, go_sem, *]; done) | (simp [kindOk, go_sem, *]; intros; omega), by go_grown⟩
end Go.Proofs.Ytfakdapglbgokaa
