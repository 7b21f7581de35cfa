/-
  Texts joined: XGrdJ XGrdK XGrdL XGrdM XGrdN XGrdO. No condition.
-/
import Derived.Test.YtfakdapglbgokaaJ24
import Derived.Test.YtfakdapglbgokaaI26
import Derived.Test.YtfakdapglbgokaaI30
/-
  The reference of package guard, in the plain machine: some. No condition.
-/
namespace Go.Proofs.Ytfakdapglbgokaa
set_option linter.all false
open Go.RowKit
attribute [local simp] sops_nil sops_run sopsk_some sops_call sops_guard sopsg_yes sopsg_tf sopsg_ft sopsg_undef rg_true SOp.run SX.ev putd puts argS upds SOp.touch SSt.keep SSt.skip gets geth puth delh idOf SV.cells? setL fillS fillR sbin eq0 eq1 eqL rowOf qseq_n qseq_e qseq_r qblock_n qblock_r qblock_e qloop_e qloop_r take_map_len FrzOk pureV_int pureV_bool pureV_str pureV_nil pureV_nilsl pureV_view pureV_cp pureL_nil_ pureL_cons_ pureO_row pureO_cells frzS frzH frz frz1 frz0 SlotsM ObjsM ObjM rn ren ren1 ren0 co_self co_int co_own co_view co_nilsl co_agg co_tup CoL coll_self mergeH dels adds idsH okNames
def RK.put (k : RK) (r : Nat) (a b : Bool) (n m : Int) : RK := ⟨k.there, k.set.set r a, k.just.set r b, k.num.set r n, k.room.set r m, k.slot⟩
theorem bcs_set (l : List Bool) (r : Nat) (b : Bool) : (bcs l).set r [.bool b] = bcs (l.set r b) := by unfold bcs; rw [List.map_set]
theorem ucs_set (l : List Int) (r : Nat) (b : Int) : (ucs l).set r [.int .u64 b] = ucs (l.set r b) := by unfold ucs; rw [List.map_set]
theorem ics_set (l : List Int) (r : Nat) (b : Int) : (ics l).set r [.int .i64 b] = ics (l.set r b) := by unfold ics; rw [List.map_set]
theorem bcs_get {l : List Bool} {r : Nat} (h : r < l.length) : (bcs l)[r]? = some [.bool l[r]] := by unfold bcs; rw [List.getElem?_map, List.getElem?_eq_getElem h]; rfl
theorem ucs_get {l : List Int} {r : Nat} (h : r < l.length) : (ucs l)[r]? = some [.int .u64 l[r]] := by unfold ucs; rw [List.getElem?_map, List.getElem?_eq_getElem h]; rfl
theorem ics_get {l : List Int} {r : Nat} (h : r < l.length) : (ics l)[r]? = some [.int .i64 l[r]] := by unfold ics; rw [List.getElem?_map, List.getElem?_eq_getElem h]; rfl
/-- Ten registers. -/
structure RK.Ten (k : RK) : Prop where
  set : k.set.length = 10
  just : k.just.length = 10
  num : k.num.length = 10
  room : k.room.length = 10
  slot : k.slot.length ≤ 96
theorem RK.Ten.small {k : RK} (h : k.Ten) : k.Small := ⟨by rw [h.set]; omega, by rw [h.just]; omega, by rw [h.num]; omega, by rw [h.room]; omega, h.slot⟩
theorem RK.Ten.put {k : RK} (h : k.Ten) (r : Nat) (a b : Bool) (n m : Int) : (k.put r a b n m).Ten := ⟨by simp [RK.put, h.set], by simp [RK.put, h.just], by simp [RK.put, h.num], by simp [RK.put, h.room], h.slot⟩
theorem RK.hp_lt (k : RK) : LtH 5 (k.hp 0) :=
  ⟨by decide, bcs_ren _ _, by decide, bcs_ren _ _, by decide, ucs_ren _ _, by decide, ics_ren _ _, by decide, bcs_ren _ _, trivial⟩
theorem rsome_s (k : RK) (hk : k.Ten) (r : Nat) (hr : r < 10) : SCalls Try.prog 148 [.agg (k.own 0), .int .i64 r] (k.hp 0) 5 (.agg ((k.put r true false 0 (-1)).own 0)) ((k.put r true false 0 (-1)).hp 0) := by
  refine scalls_of (N := 22) Try.func148 rfl rfl (by kernel_rfl) comp_c_rsome (by simp) ⟨by simp [RK.own, ltV, ren, ren1, ren0], by simp [ltV, ren, ren1, ren0], trivial⟩ k.hp_lt ?_
  rintro X hP hN hm
  have h1 := hk.set
  have h2 := hk.just
  have h3 := hk.num
  have h4 := hk.room
  have i1 := bcs_get (l := k.set) (r := r) (by omega)
  have i2 := bcs_get (l := k.just) (r := r) (by omega)
  have i3 := ucs_get (l := k.num) (r := r) (by omega)
  have i4 := ics_get (l := k.room) (r := r) (by omega)
  have i5 : (r : Int) < 10 := by omega
  unfold c_rsome
  repeat' (first
      | (with_reducible refine swp_seq ?_)
      | ((with_reducible refine swp_reg ?_); (try rw [hP]); simp -implicitDefEqProofs [RK.own, RK.hp, bcs_set, ucs_set, ics_set, *])
      | ((with_reducible refine swp_regd (by rw [hP]; exact mixed) ?_); (try rw [hP]); simp -implicitDefEqProofs [RK.own, RK.hp, bcs_set, ucs_set, ics_set, *])
      | ((with_reducible refine swp_skip ?_); (try simp -implicitDefEqProofs [RK.own, RK.hp, bcs_set, ucs_set, ics_set, *]))
      | ((with_reducible refine swp_exit ?_); (try simp -implicitDefEqProofs [RK.own, RK.hp, bcs_set, ucs_set, ics_set, *]))
      | ((with_reducible refine swp_ret ?_); (try simp only [qseq_r, qblock_r, qloop_r]))
      | ((with_reducible refine swp_cond rfl (fun h => ?_) (fun h => ?_)) <;> have h' := h <;> (try simp at h') <;> (try subst h'))
      | ((with_reducible refine sopsg_cases (fun h => ?_) (fun h => ?_)) <;> have h' := h <;> (try simp at h') <;> (try subst h') <;> simp -implicitDefEqProofs [RK.own, RK.hp, bcs_set, ucs_set, ics_set, *])
      | ((with_reducible refine draw_ok ?_ ?_); (focus rfl))
      | ((with_reducible refine sopsk_rg ?_ ?_); (first | omega | (unfold maxLen; omega)); simp -implicitDefEqProofs [RK.own, RK.hp, bcs_set, ucs_set, ics_set, *])
      | (with_reducible refine swp_block1 ?_)
      | (with_reducible refine swp_block2 ?_))
  refine qfun_done (s' := ⟨[(4, .ptr 6 0)], (k.put r true false 0 (-1)).hp 0 ++ [(6, .cells 162 ((k.put r true false 0 (-1)).own 0))], 7⟩) (wk_list [(0, 0), (1, 1), (2, 2), (3, 3), (4, 4), (6, 6)] hm rfl (by simp) (by simp -implicitDefEqProofs) ?_) ?_ ⟨rfl, rfl, rfl, rfl, rfl, trivial⟩ (by simp)
  · refine And.intro ⟨_, rfl, rfl, rfl, ?_⟩ (And.intro ⟨_, rfl, rfl, rfl, ?_⟩ (And.intro ⟨_, rfl, rfl, rfl, ?_⟩ (And.intro ⟨_, rfl, rfl, rfl, ?_⟩ (And.intro ⟨_, rfl, rfl, rfl, ?_⟩ (And.intro ⟨_, rfl, rfl, ?_⟩ trivial)))))
    · rw [bcs_ren]; exact .refl _
    · rw [bcs_ren]; exact .refl _
    · rw [ucs_ren]; exact .refl _
    · rw [ics_ren]; exact .refl _
    · rw [bcs_ren]; exact .refl _
    · simp -implicitDefEqProofs [RK.own, RK.put]; rw [h1, h2, h3, h4]; exact ⟨.refl _, .refl _, .refl _, .refl _⟩
  · simp -implicitDefEqProofs [hP, resOf, resL, resV, agg_knows, size_knows, one_, RK.own, RK.hp]
/-- A function that turns what is known, under other names. -/
theorem rk_call {f : FuncId} {args : List SV} {k k' : RK} {r : SV} (h : SCalls Try.prog f (.agg (k.own 0) :: args) (k.hp 0) 5 r (k'.hp 0)) (ha : ∀ σ, args.map (ren σ) = args) (a q : Nat) (haq : a + 5 ≤ q) {r' : SV} (hr : r' = ren (sg [a, a + 1, a + 2, a + 3, a + 4] q) r) (hk : ok2 r = true) :
    SCalls Try.prog f (.agg (k.own a) :: args) (k.hp a) q r' (k'.hp a) := by
  have e0 : sg [a, a + 1, a + 2, a + 3, a + 4] q 0 = a := rfl
  have e1 : sg [a, a + 1, a + 2, a + 3, a + 4] q 1 = a + 1 := rfl
  have e2 : sg [a, a + 1, a + 2, a + 3, a + 4] q 2 = a + 2 := rfl
  have e3 : sg [a, a + 1, a + 2, a + 3, a + 4] q 3 = a + 3 := rfl
  have e4 : sg [a, a + 1, a + 2, a + 3, a + 4] q 4 = a + 4 := rfl
  refine scalls_ren [a, a + 1, a + 2, a + 3, a + 4] h rfl (by simp) (by simp; omega) ?_ ?_ (by simp [idsH, RK.hp]) hr hk ?_ (by simp [idsH, RK.hp]) (by simp [idsH, RK.hp, e0, e1, e2, e3, e4])
  · rw [List.map_cons, ha]
    simp [RK.own, ren, ren1, ren0, e0, e1, e2, e3, e4]
  · refine And.intro ⟨.row 4 1 (bcs k.set), ?_, rfl, rfl, ?_⟩ (And.intro ⟨.row 4 1 (bcs k.just), ?_, rfl, rfl, ?_⟩ (And.intro ⟨.row 23 1 (ucs k.num), ?_, rfl, rfl, ?_⟩ (And.intro ⟨.row 3 1 (ics k.room), ?_, rfl, rfl, ?_⟩ (And.intro ⟨.row 4 1 (bcs k.slot), ?_, rfl, rfl, ?_⟩ trivial))))
    · rw [e0]; simp [RK.hp, geth]
    · rw [bcs_ren]; exact .refl _
    · rw [e1]; simp [RK.hp, geth]
    · rw [bcs_ren]; exact .refl _
    · rw [e2]; simp [RK.hp, geth]
    · rw [ucs_ren]; exact .refl _
    · rw [e3]; simp [RK.hp, geth]
    · rw [ics_ren]; exact .refl _
    · rw [e4]; simp [RK.hp, geth]
    · rw [bcs_ren]; exact .refl _
  · refine And.intro ⟨.row 4 1 (bcs k'.set), ?_, rfl, rfl, bcs_ok2 _, (bcs_ren _ _).symm⟩ (And.intro ⟨.row 4 1 (bcs k'.just), ?_, rfl, rfl, bcs_ok2 _, (bcs_ren _ _).symm⟩ (And.intro ⟨.row 23 1 (ucs k'.num), ?_, rfl, rfl, ucs_ok2 _, (ucs_ren _ _).symm⟩ (And.intro ⟨.row 3 1 (ics k'.room), ?_, rfl, rfl, ics_ok2 _, (ics_ren _ _).symm⟩ (And.intro ⟨.row 4 1 (bcs k'.slot), ?_, rfl, rfl, bcs_ok2 _, (bcs_ren _ _).symm⟩ trivial))))
    · rw [e0]; simp [RK.hp, geth]
    · rw [e1]; simp [RK.hp, geth]
    · rw [e2]; simp [RK.hp, geth]
    · rw [e3]; simp [RK.hp, geth]
    · rw [e4]; simp [RK.hp, geth]
theorem call_rsome (k : RK) (hk : k.Ten) (r : Nat) (hr : r < 10) (a q : Nat) (haq : a + 5 ≤ q) : SCalls Try.prog 148 [.agg (k.own a), .int .i64 r] (k.hp a) q (.agg ((k.put r true false 0 (-1)).own a)) ((k.put r true false 0 (-1)).hp a) :=
  rk_call (rsome_s k hk r hr) (fun σ => rfl) a q haq (by simp [RK.own, ren, ren1, ren0, sg]) (by simp [RK.own, ok2, ok1, ok0])
end Go.Proofs.Ytfakdapglbgokaa

/-
  The reference of package guard, in the plain machine: meet. No condition.
-/
namespace Go.Proofs.Ytfakdapglbgokaa
set_option linter.all false
open Go.RowKit
attribute [local simp] sops_nil sops_run sopsk_some sops_call sops_guard sopsg_yes sopsg_tf sopsg_ft sopsg_undef rg_true SOp.run SX.ev putd puts argS upds SOp.touch SSt.keep SSt.skip gets geth puth delh idOf SV.cells? setL fillS fillR sbin eq0 eq1 eqL rowOf qseq_n qseq_e qseq_r qblock_n qblock_r qblock_e qloop_e qloop_r take_map_len FrzOk pureV_int pureV_bool pureV_str pureV_nil pureV_nilsl pureV_view pureV_cp pureL_nil_ pureL_cons_ pureO_row pureO_cells frzS frzH frz frz1 frz0 SlotsM ObjsM ObjM rn ren ren1 ren0 co_self co_int co_own co_view co_nilsl co_agg co_tup CoL coll_self mergeH dels adds idsH okNames
/-- The first i turned. -/
def upd {α : Type} (f : Nat → α) (xs : List α) (i : Nat) : List α := (List.range i).map f ++ xs.drop i
theorem upd_zero {α : Type} (f : Nat → α) (xs : List α) : upd f xs 0 = xs := by simp [upd]
theorem upd_len {α : Type} (f : Nat → α) {xs : List α} {i : Nat} (hi : i ≤ xs.length) : (upd f xs i).length = xs.length := by
  unfold upd; rw [List.length_append, List.length_map, List.length_range, List.length_drop]; omega
theorem upd_set {α : Type} (f : Nat → α) {xs : List α} {i : Nat} (hi : i < xs.length) : (upd f xs i).set i (f i) = upd f xs (i + 1) := by
  unfold upd
  have hl : ((List.range i).map f).length = i := by simp
  rw [List.set_append_right _ _ (by omega), hl, Nat.sub_self, List.drop_eq_getElem_cons hi, List.set_cons_zero, List.range_succ, List.map_append]
  simp
theorem upd_get {α : Type} (f : Nat → α) {xs : List α} {i : Nat} (hi : i < xs.length) : (upd f xs i)[i]? = some xs[i] := by
  unfold upd
  have hl : ((List.range i).map f).length = i := by simp
  rw [List.getElem?_append_right (by omega), hl, Nat.sub_self, List.getElem?_drop]
  simp [hi]
def mSet (a b : RK) (i : Nat) : Bool := a.set.getD i false && b.set.getD i false
def mJust (a b : RK) (i : Nat) : Bool := mSet a b i && (a.just.getD i false && (b.just.getD i false && a.num.getD i 0 == b.num.getD i 0))
def mRoom (a b : RK) (i : Nat) : Int := if mSet a b i then (if b.room.getD i 0 < a.room.getD i 0 then b.room.getD i 0 else a.room.getD i 0) else -1
def mSlot (a b : RK) (i : Nat) : Bool := a.slot.getD i false && b.slot.getD i false
def rMeet1 (a b : RK) (i j : Nat) : RK := ⟨true, upd (mSet a b) a.set i, upd (mJust a b) a.just i, a.num, upd (mRoom a b) a.room i, upd (mSlot a b) a.slot j⟩
def rMeet (a b : RK) : RK := if a.there then rMeet1 a b 10 a.slot.length else b
theorem upd_b (σ : Nat → Nat) (f : Nat → Bool) {xs : List Bool} {i : Nat} (hi : i < xs.length) {v : Bool} (h : v = f i) : CoLL (bcs ((upd f xs i).set i v)) ((bcs (upd f xs (i + 1))).map (·.map (ren σ))) := by
  rw [bcs_ren, h, upd_set f hi]; exact .refl _
theorem upd_i (σ : Nat → Nat) (f : Nat → Int) {xs : List Int} {i : Nat} (hi : i < xs.length) {v : Int} (h : v = f i) : CoLL (ics ((upd f xs i).set i v)) ((ics (upd f xs (i + 1))).map (·.map (ren σ))) := by
  rw [ics_ren, h, upd_set f hi]; exact .refl _
theorem upd_i0 (σ : Nat → Nat) (f : Nat → Int) {xs : List Int} {i : Nat} (hi : i < xs.length) (h : xs[i] = f i) : CoLL (ics (upd f xs i)) ((ics (upd f xs (i + 1))).map (·.map (ren σ))) := by
  have e : (upd f xs i).set i (f i) = upd f xs i := by
    have h1 := upd_get f hi
    rw [h] at h1
    obtain ⟨h2, h3⟩ := List.getElem?_eq_some_iff.1 h1
    rw [← h3]; exact List.set_getElem_self _
  rw [ics_ren, ← upd_set f hi, e]; exact .refl _
theorem bcs_upd {f : Nat → Bool} {xs : List Bool} {i : Nat} (hi : i < xs.length) : (bcs (upd f xs i))[i]? = some [.bool xs[i]] := by unfold bcs; rw [List.getElem?_map, upd_get f hi]; rfl
theorem ics_upd {f : Nat → Int} {xs : List Int} {i : Nat} (hi : i < xs.length) : (ics (upd f xs i))[i]? = some [.int .i64 xs[i]] := by unfold ics; rw [List.getElem?_map, upd_get f hi]; rfl
theorem bcs_upds {f : Nat → Bool} {xs : List Bool} {i : Nat} (hi : i < xs.length) (v : Bool) : (bcs ((upd f xs i).set i v))[i]? = some [.bool v] := by
  unfold bcs; rw [List.getElem?_map, List.getElem?_set_self (by rw [upd_len f (by omega)]; exact hi)]; rfl
theorem ics_upds {f : Nat → Int} {xs : List Int} {i : Nat} (hi : i < xs.length) (v : Int) : (ics ((upd f xs i).set i v))[i]? = some [.int .i64 v] := by
  unfold ics; rw [List.getElem?_map, List.getElem?_set_self (by rw [upd_len f (by omega)]; exact hi)]; rfl
theorem bcs_getE {l : List Bool} {i : Nat} (h : i < (bcs l).length) : (bcs l)[i] = [.bool (l[i]'(by simpa [bcs] using h))] := by simp [bcs]
theorem ucs_getE {l : List Int} {i : Nat} (h : i < (ucs l).length) : (ucs l)[i] = [.int .u64 (l[i]'(by simpa [ucs] using h))] := by simp [ucs]
theorem ics_getE {l : List Int} {i : Nat} (h : i < (ics l).length) : (ics l)[i] = [.int .i64 (l[i]'(by simpa [ics] using h))] := by simp [ics]
theorem getD_b {l : List Bool} {i : Nat} (h : i < l.length) : l.getD i false = l[i] := by rw [List.getD_eq_getElem?_getD, List.getElem?_eq_getElem h]; rfl
theorem getD_i {l : List Int} {i : Nat} (h : i < l.length) : l.getD i 0 = l[i] := by rw [List.getD_eq_getElem?_getD, List.getElem?_eq_getElem h]; rfl
def meetHp (a b : RK) (ks kj : List Bool) (kr : List Int) (kl : List Bool) : Hp := [(0, .cells 162 a.cv), (1, .cells 162 b.cv), (2, .cells 162 [.bool false, .nilsl, .nilsl, .nilsl, .nilsl, .nilsl]), (3, .row 4 1 (bcs ks)), (4, .row 4 1 (bcs kj)), (5, .row 23 1 (ucs a.num)), (6, .row 3 1 (ics kr)), (7, .row 4 1 (bcs kl)), (8, .cells 162 [.bool true, .own 3 10, .own 4 10, .own 5 10, .own 6 10, .own 7 b.slot.length])]
theorem RK.cv_ren (σ : Nat → Nat) (k : RK) : ren σ (.agg k.cv) = .agg k.cv := rfl
theorem meet_s (a b : RK) (ha : a.there = true → a.Ten) (hb : b.Ten) (hl : a.there = true → a.slot.length = b.slot.length) : SCalls Try.prog 120 [.agg a.cv, .agg b.cv] [] 0 (.agg ((rMeet a b).own 0)) ((rMeet a b).hp 0) := by
  refine scalls_of (N := 125) Try.func120 rfl rfl (by kernel_rfl) comp_c_meet (by simp) ⟨rfl, rfl, trivial⟩ trivial ?_
  rintro X hP hN hm
  unfold c_meet
  cases hth : a.there
  ·
    have hbs := hb.small
    have hr : rMeet a b = b := by unfold rMeet; rw [hth]; rfl
    rw [hr]
    repeat' (first
        | (with_reducible refine swp_seq ?_)
        | ((with_reducible refine swp_reg ?_); (try rw [hP]); simp -implicitDefEqProofs [RK.cv, RK.own, RK.hp, *])
        | ((with_reducible refine swp_regd (by rw [hP]; exact mixed) ?_); (try rw [hP]); simp -implicitDefEqProofs [RK.cv, RK.own, RK.hp, *])
        | ((with_reducible refine swp_skip ?_); (try simp -implicitDefEqProofs [RK.cv, RK.own, RK.hp, *]))
        | ((with_reducible refine swp_exit ?_); (try simp -implicitDefEqProofs [RK.cv, RK.own, RK.hp, *]))
        | ((with_reducible refine swp_ret ?_); (try simp only [qseq_r, qblock_r, qloop_r]))
        | ((with_reducible refine swp_cond rfl (fun h => ?_) (fun h => ?_)) <;> have h' := h <;> (try simp at h') <;> (try subst h'))
        | ((with_reducible refine sopsg_cases (fun h => ?_) (fun h => ?_)) <;> have h' := h <;> (try simp at h') <;> (try subst h') <;> simp -implicitDefEqProofs [RK.cv, RK.own, RK.hp, *])
        | ((with_reducible refine draw_ok ?_ ?_); (focus rfl))
        | ((with_reducible refine sopsk_rg ?_ ?_); (first | omega | (unfold maxLen; omega)); simp -implicitDefEqProofs [RK.cv, RK.own, RK.hp, *])
        | (with_reducible refine swp_block1 ?_)
        | (with_reducible refine swp_block2 ?_)
        | (refine call_h (call_okn b hbs _) trivial ⟨rfl, rfl, rfl, rfl, rfl, trivial⟩ ?_; simp -implicitDefEqProofs [RK.cv, RK.own, RK.hp, *]))
    refine qfun_done (s' := ⟨[(4, .ptr 5 0)], b.hp 0 ++ [(5, .cells 162 (b.own 0))], 6⟩) (wk_list [(5, 2), (0, 7), (1, 8), (2, 9), (3, 10), (4, 11)] hm rfl (by simp) (by simp -implicitDefEqProofs) ?_) ?_ ⟨rfl, rfl, rfl, rfl, rfl, trivial⟩ (by simp)
    · refine And.intro ⟨_, rfl, rfl, rfl, ?_⟩ (And.intro ⟨_, rfl, rfl, rfl, ?_⟩ (And.intro ⟨_, rfl, rfl, rfl, ?_⟩ (And.intro ⟨_, rfl, rfl, rfl, ?_⟩ (And.intro ⟨_, rfl, rfl, rfl, ?_⟩ (And.intro ⟨_, rfl, rfl, .refl _⟩ trivial)))))
      · rw [bcs_ren]; exact .refl _
      · rw [bcs_ren]; exact .refl _
      · rw [ucs_ren]; exact .refl _
      · rw [ics_ren]; exact .refl _
      · rw [bcs_ren]; exact .refl _
    · simp -implicitDefEqProofs [hP, resOf, resL, resV, agg_knows, size_knows, one_, RK.own, RK.hp]
  · have hat := ha hth
    have hs := hl hth
    obtain ⟨at_, aset, ajust, anum, aroom, aslot⟩ := a
    have e : at_ = true := hth
    subst e
    have hsm := hat.small
    have h1 : aset.length = 10 := hat.set
    have h2 : ajust.length = 10 := hat.just
    have h3 : anum.length = 10 := hat.num
    have h4 : aroom.length = 10 := hat.room
    have h5 : aslot.length ≤ 96 := hat.slot
    have g1 := hb.set
    have g2 := hb.just
    have g3 := hb.num
    have g4 := hb.room
    have g5 := hb.slot
    have hs' : aslot.length = b.slot.length := hs
    replace hs := Lib.hid hs
    replace hs' := Lib.hid hs'
    repeat' (first
        | (with_reducible refine swp_seq ?_)
        | ((with_reducible refine swp_reg ?_); (try rw [hP]); simp -implicitDefEqProofs [RK.cv, RK.own, RK.hp, *])
        | ((with_reducible refine swp_regd (by rw [hP]; exact mixed) ?_); (try rw [hP]); simp -implicitDefEqProofs [RK.cv, RK.own, RK.hp, *])
        | ((with_reducible refine swp_skip ?_); (try simp -implicitDefEqProofs [RK.cv, RK.own, RK.hp, *]))
        | ((with_reducible refine swp_exit ?_); (try simp -implicitDefEqProofs [RK.cv, RK.own, RK.hp, *]))
        | ((with_reducible refine swp_ret ?_); (try simp only [qseq_r, qblock_r, qloop_r]))
        | ((with_reducible refine swp_cond rfl (fun h => ?_) (fun h => ?_)) <;> have h' := h <;> (try simp at h') <;> (try subst h'))
        | ((with_reducible refine sopsg_cases (fun h => ?_) (fun h => ?_)) <;> have h' := h <;> (try simp at h') <;> (try subst h') <;> simp -implicitDefEqProofs [RK.cv, RK.own, RK.hp, *])
        | ((with_reducible refine draw_ok ?_ ?_); (focus rfl))
        | ((with_reducible refine sopsk_rg ?_ ?_); (first | omega | (unfold maxLen; omega)); simp -implicitDefEqProofs [RK.cv, RK.own, RK.hp, *])
        | (with_reducible refine swp_block1 ?_)
        | (with_reducible refine swp_block2 ?_)
        | (refine call_h (call_okn ⟨true, aset, ajust, anum, aroom, aslot⟩ hsm _) trivial ⟨rfl, rfl, rfl, rfl, rfl, trivial⟩ ?_; simp -implicitDefEqProofs [RK.cv, RK.own, RK.hp, *]))
    generalize hA : RK.mk true aset ajust anum aroom aslot = A
    have e1 : A.set = aset := by rw [← hA]
    have e2 : A.just = ajust := by rw [← hA]
    have e3 : A.num = anum := by rw [← hA]
    have e4 : A.room = aroom := by rw [← hA]
    have e5 : A.slot = aslot := by rw [← hA]
    have e0 : A.cv = [.bool true, .view 1 (bcs aset), .view 1 (bcs ajust), .view 1 (ucs anum), .view 1 (ics aroom), .view 1 (bcs aslot)] := by rw [← hA]; rfl
    refine swp_block (swp_loop (fun s' m => ∃ i : Nat, s' = ⟨[(2, .ptr 0 0), (3, .ptr 1 0), (4, .ptr 2 0), (5, .ptr 8 0), (6, .int .i64 i)], meetHp A b (upd (mSet A b) aset i) (upd (mJust A b) ajust i) (upd (mRoom A b) aroom i) aslot, 9⟩ ∧ i ≤ 10 ∧ m = 10 - i) (wk_list [(0, 0), (1, 1), (2, 2), (3, 7), (4, 8), (5, 9), (6, 10), (7, 11), (8, 15)] hm rfl (by simp) (by simp -implicitDefEqProofs) ?_) ⟨0, rfl, by omega, rfl⟩ ?_)
    · rw [upd_zero, upd_zero, upd_zero]
      unfold meetHp
      rw [e0, e3]
      refine And.intro ⟨_, rfl, rfl, .refl _⟩ (And.intro ⟨_, rfl, rfl, .refl _⟩ (And.intro ⟨_, rfl, rfl, .refl _⟩ (And.intro ⟨_, rfl, rfl, rfl, ?_⟩ (And.intro ⟨_, rfl, rfl, rfl, ?_⟩ (And.intro ⟨_, rfl, rfl, rfl, ?_⟩ (And.intro ⟨_, rfl, rfl, rfl, ?_⟩ (And.intro ⟨_, rfl, rfl, rfl, ?_⟩ (And.intro ⟨_, rfl, rfl, .refl _⟩ trivial))))))))
      · rw [bcs_ren]; exact .refl _
      · rw [bcs_ren]; exact .refl _
      · rw [ucs_ren]; exact .refl _
      · rw [ics_ren]; exact .refl _
      · rw [bcs_ren]; exact .refl _
    rintro s' m ⟨i, rfl, hi, rfl⟩
    unfold c_meet_l1
    rcases Nat.lt_or_ge i 10 with hl | hl
    · have x1 : i < aset.length := by omega
      have x2 : i < ajust.length := by omega
      have x3 : i < anum.length := by omega
      have x4 : i < aroom.length := by omega
      have y1 : i < b.set.length := by omega
      have y2 : i < b.just.length := by omega
      have y3 : i < b.num.length := by omega
      have y4 : i < b.room.length := by omega
      have u1 := bcs_upd (f := mSet A b) x1
      have u2 := bcs_upds (f := mSet A b) x1
      have u3 := bcs_upd (f := mJust A b) x2
      have u4 := ics_upd (f := mRoom A b) x4
      have u5 := ics_upds (f := mRoom A b) x4
      have v1 := bcs_get x1
      have v2 := bcs_get x2
      have v3 := ucs_get x3
      have w1 := bcs_get y1
      have w2 := bcs_get y2
      have w3 := ucs_get y3
      have w4 := ics_get y4
      have z1 : (i : Int) < 10 := by omega
      have m1 : mSet A b i = (aset[i] && b.set[i]) := by unfold mSet; rw [e1, getD_b x1, getD_b y1]
      have m2 : mJust A b i = (mSet A b i && (ajust[i] && (b.just[i] && anum[i] == b.num[i]))) := by unfold mJust; rw [e2, e3, getD_b x2, getD_b y2, getD_i x3, getD_i y3]
      have m3 : mRoom A b i = if mSet A b i then (if b.room[i] < aroom[i] then b.room[i] else aroom[i]) else -1 := by unfold mRoom; rw [e4, getD_i x4, getD_i y4]
      rw [m1] at m2 m3
      replace m1 := Lib.hid m1
      replace m2 := Lib.hid m2
      replace m3 := Lib.hid m3
      replace x1 := Lib.hid x1
      replace x2 := Lib.hid x2
      replace x4 := Lib.hid x4
      repeat' (first
          | (with_reducible refine swp_seq ?_)
          | ((with_reducible refine swp_reg ?_); (try rw [hP]); simp -implicitDefEqProofs [meetHp, e0, RK.cv, bcs_set, ics_set, List.set_set, bcs_len, ucs_len, ics_len, bcs_getE, ucs_getE, ics_getE, *])
          | ((with_reducible refine swp_regd (by rw [hP]; exact mixed) ?_); (try rw [hP]); simp -implicitDefEqProofs [meetHp, e0, RK.cv, bcs_set, ics_set, List.set_set, bcs_len, ucs_len, ics_len, bcs_getE, ucs_getE, ics_getE, *])
          | ((with_reducible refine swp_skip ?_); (try simp -implicitDefEqProofs [meetHp, e0, RK.cv, bcs_set, ics_set, List.set_set, bcs_len, ucs_len, ics_len, bcs_getE, ucs_getE, ics_getE, *]))
          | ((with_reducible refine swp_exit ?_); (try simp -implicitDefEqProofs [meetHp, e0, RK.cv, bcs_set, ics_set, List.set_set, bcs_len, ucs_len, ics_len, bcs_getE, ucs_getE, ics_getE, *]))
          | ((with_reducible refine swp_ret ?_); (try simp only [qseq_r, qblock_r, qloop_r]))
          | ((with_reducible refine swp_cond rfl (fun h => ?_) (fun h => ?_)) <;> have h' := h <;> (try simp at h') <;> (try subst h'))
          | ((with_reducible refine sopsg_cases (fun h => ?_) (fun h => ?_)) <;> have h' := h <;> (try simp at h') <;> (try subst h') <;> simp -implicitDefEqProofs [meetHp, e0, RK.cv, bcs_set, ics_set, List.set_set, bcs_len, ucs_len, ics_len, bcs_getE, ucs_getE, ics_getE, *])
          | ((with_reducible refine draw_ok ?_ ?_); (focus rfl))
          | ((with_reducible refine sopsk_rg ?_ ?_); (first | omega | (unfold maxLen; omega)); simp -implicitDefEqProofs [meetHp, e0, RK.cv, bcs_set, ics_set, List.set_set, bcs_len, ucs_len, ics_len, bcs_getE, ucs_getE, ics_getE, *])
          | (with_reducible refine swp_block1 ?_)
          | (with_reducible refine swp_block2 ?_)
          | ((rw [i64_add_ (by omega) (by omega)]; refine qloop_next (wk_list [(0, 0), (1, 1), (2, 2), (3, 3), (4, 4), (5, 5), (6, 6), (7, 7), (8, 8)] hm rfl (by simp) ?_ ?_) ⟨i + 1, rfl, by omega, rfl⟩ (by omega); (focus (simp -implicitDefEqProofs; done)))))
      all_goals
        simp only [meetHp, RK.cv, e1, e2, e3, e4, e5]
        refine And.intro ⟨_, rfl, rfl, .refl _⟩ (And.intro ⟨_, rfl, rfl, .refl _⟩ (And.intro ⟨_, rfl, rfl, .refl _⟩ (And.intro ⟨_, rfl, rfl, rfl, upd_b _ _ x1.out ?_⟩ (And.intro ⟨_, rfl, rfl, rfl, upd_b _ _ x2.out ?_⟩ (And.intro ⟨_, rfl, rfl, rfl, ?_⟩ (And.intro ⟨_, rfl, rfl, rfl, ?_⟩ (And.intro ⟨_, rfl, rfl, rfl, ?_⟩ (And.intro ⟨_, rfl, rfl, .refl _⟩ trivial))))))))
        · rw [m1.out]; simp [*]
        · rw [m2.out]; simp [*]
        · rw [ucs_ren]; exact .refl _
        · first
            | (refine upd_i _ _ x4.out ?_; rw [m3.out]; simp [*]; done)
            | (refine upd_i _ _ x4.out ?_; rw [m3.out]; simp [*]; omega)
            | (refine upd_i0 _ _ x4.out ?_; rw [m3.out]; simp [*]; done)
            | (refine upd_i0 _ _ x4.out ?_; rw [m3.out]; simp [*]; omega)
        · rw [bcs_ren]; exact .refl _
    · obtain rfl : i = 10 := by omega
      repeat' (first
          | (with_reducible refine swp_seq ?_)
          | ((with_reducible refine swp_reg ?_); (try rw [hP]); simp -implicitDefEqProofs [meetHp, e0, RK.cv, *])
          | ((with_reducible refine swp_regd (by rw [hP]; exact mixed) ?_); (try rw [hP]); simp -implicitDefEqProofs [meetHp, e0, RK.cv, *])
          | ((with_reducible refine swp_skip ?_); (try simp -implicitDefEqProofs [meetHp, e0, RK.cv, *]))
          | ((with_reducible refine swp_exit ?_); (try simp -implicitDefEqProofs [meetHp, e0, RK.cv, *]))
          | ((with_reducible refine swp_ret ?_); (try simp only [qseq_r, qblock_r, qloop_r]))
          | ((with_reducible refine swp_cond rfl (fun h => ?_) (fun h => ?_)) <;> have h' := h <;> (try simp at h') <;> (try subst h'))
          | ((with_reducible refine sopsg_cases (fun h => ?_) (fun h => ?_)) <;> have h' := h <;> (try simp at h') <;> (try subst h') <;> simp -implicitDefEqProofs [meetHp, e0, RK.cv, *])
          | ((with_reducible refine draw_ok ?_ ?_); (focus rfl))
          | ((with_reducible refine sopsk_rg ?_ ?_); (first | omega | (unfold maxLen; omega)); simp -implicitDefEqProofs [meetHp, e0, RK.cv, *])
          | (with_reducible refine swp_block1 ?_)
          | (with_reducible refine swp_block2 ?_))
      refine swp_block (swp_loop (fun s' m => ∃ j : Nat, s' = ⟨[(2, .ptr 0 0), (3, .ptr 1 0), (4, .ptr 2 0), (5, .ptr 8 0), (7, .int .i64 j)], meetHp A b (upd (mSet A b) aset 10) (upd (mJust A b) ajust 10) (upd (mRoom A b) aroom 10) (upd (mSlot A b) aslot j), 9⟩ ∧ j ≤ aslot.length ∧ m = aslot.length - j) (wk_list [(0, 0), (1, 1), (2, 2), (3, 3), (4, 4), (5, 5), (6, 6), (7, 7), (8, 8)] hm rfl (by simp) (by simp -implicitDefEqProofs) ?_) ⟨0, rfl, by omega, rfl⟩ ?_)
      · rw [upd_zero]
        simp only [meetHp, RK.cv, e1, e2, e3, e4, e5]
        refine And.intro ⟨_, rfl, rfl, .refl _⟩ (And.intro ⟨_, rfl, rfl, .refl _⟩ (And.intro ⟨_, rfl, rfl, .refl _⟩ (And.intro ⟨_, rfl, rfl, rfl, ?_⟩ (And.intro ⟨_, rfl, rfl, rfl, ?_⟩ (And.intro ⟨_, rfl, rfl, rfl, ?_⟩ (And.intro ⟨_, rfl, rfl, rfl, ?_⟩ (And.intro ⟨_, rfl, rfl, rfl, ?_⟩ (And.intro ⟨_, rfl, rfl, .refl _⟩ trivial))))))))
        · rw [bcs_ren]; exact .refl _
        · rw [bcs_ren]; exact .refl _
        · rw [ucs_ren]; exact .refl _
        · rw [ics_ren]; exact .refl _
        · rw [bcs_ren]; exact .refl _
      rintro s' m ⟨j, rfl, hj, rfl⟩
      unfold c_meet_l2
      have hs2 := hs'.out
      rcases Nat.lt_or_ge j aslot.length with hl2 | hl2
      · have x1 : j < b.slot.length := by omega
        have u1 := bcs_upd (f := mSlot A b) hl2
        have v1 := bcs_get hl2
        have w1 := bcs_get x1
        have z1 : (j : Int) < b.slot.length := by omega
        have m1 : mSlot A b j = (aslot[j] && b.slot[j]) := by unfold mSlot; rw [e5, getD_b hl2, getD_b x1]
        have l1 : (upd (mSlot A b) aslot j).length = b.slot.length := by rw [upd_len _ hj, hs2]
        replace m1 := Lib.hid m1
        repeat' (first
            | (with_reducible refine swp_seq ?_)
            | ((with_reducible refine swp_reg ?_); (try rw [hP]); simp -implicitDefEqProofs [meetHp, e0, RK.cv, bcs_set, ics_set, List.set_set, bcs_len, bcs_getE, *])
            | ((with_reducible refine swp_regd (by rw [hP]; exact mixed) ?_); (try rw [hP]); simp -implicitDefEqProofs [meetHp, e0, RK.cv, bcs_set, ics_set, List.set_set, bcs_len, bcs_getE, *])
            | ((with_reducible refine swp_skip ?_); (try simp -implicitDefEqProofs [meetHp, e0, RK.cv, bcs_set, ics_set, List.set_set, bcs_len, bcs_getE, *]))
            | ((with_reducible refine swp_exit ?_); (try simp -implicitDefEqProofs [meetHp, e0, RK.cv, bcs_set, ics_set, List.set_set, bcs_len, bcs_getE, *]))
            | ((with_reducible refine swp_ret ?_); (try simp only [qseq_r, qblock_r, qloop_r]))
            | ((with_reducible refine swp_cond rfl (fun h => ?_) (fun h => ?_)) <;> have h' := h <;> (try simp at h') <;> (try subst h'))
            | ((with_reducible refine sopsg_cases (fun h => ?_) (fun h => ?_)) <;> have h' := h <;> (try simp at h') <;> (try subst h') <;> simp -implicitDefEqProofs [meetHp, e0, RK.cv, bcs_set, ics_set, List.set_set, bcs_len, bcs_getE, *])
            | ((with_reducible refine draw_ok ?_ ?_); (focus rfl))
            | ((with_reducible refine sopsk_rg ?_ ?_); (first | omega | (unfold maxLen; omega)); simp -implicitDefEqProofs [meetHp, e0, RK.cv, bcs_set, ics_set, List.set_set, bcs_len, bcs_getE, *])
            | (with_reducible refine swp_block1 ?_)
            | (with_reducible refine swp_block2 ?_)
            | (with_reducible refine swp_block2 ?_)
            | ((rw [i64_add_ (by omega) (by omega)]; refine qloop_next (wk_list [(0, 0), (1, 1), (2, 2), (3, 3), (4, 4), (5, 5), (6, 6), (7, 7), (8, 8)] hm rfl (by simp) ?_ ?_) ⟨j + 1, rfl, by omega, rfl⟩ (by omega); (focus (simp -implicitDefEqProofs; done)))))
        all_goals
          simp only [meetHp, RK.cv, e1, e2, e3, e4, e5]
          refine And.intro ⟨_, rfl, rfl, .refl _⟩ (And.intro ⟨_, rfl, rfl, .refl _⟩ (And.intro ⟨_, rfl, rfl, .refl _⟩ (And.intro ⟨_, rfl, rfl, rfl, ?_⟩ (And.intro ⟨_, rfl, rfl, rfl, ?_⟩ (And.intro ⟨_, rfl, rfl, rfl, ?_⟩ (And.intro ⟨_, rfl, rfl, rfl, ?_⟩ (And.intro ⟨_, rfl, rfl, rfl, upd_b _ _ hl2 ?_⟩ (And.intro ⟨_, rfl, rfl, .refl _⟩ trivial))))))))
          · rw [bcs_ren]; exact .refl _
          · rw [bcs_ren]; exact .refl _
          · rw [ucs_ren]; exact .refl _
          · rw [ics_ren]; exact .refl _
          · rw [m1.out]; simp [*]
      · obtain rfl : j = aslot.length := by omega
        have e6 : A.there = true := by rw [← hA]
        have hr : rMeet A b = ⟨true, upd (mSet A b) aset 10, upd (mJust A b) ajust 10, anum, upd (mRoom A b) aroom 10, upd (mSlot A b) aslot aslot.length⟩ := by
          unfold rMeet rMeet1
          rw [e6, e1, e2, e3, e4, e5]; rfl
        rw [hr]
        have n1 : (upd (mSet A b) aset 10).length = 10 := by rw [upd_len _ (by omega), h1]
        have n2 : (upd (mJust A b) ajust 10).length = 10 := by rw [upd_len _ (by omega), h2]
        have n4 : (upd (mRoom A b) aroom 10).length = 10 := by rw [upd_len _ (by omega), h4]
        have n5 : (upd (mSlot A b) aslot aslot.length).length = b.slot.length := by rw [upd_len _ (Nat.le_refl _), hs2]
        generalize upd (mSet A b) aset 10 = p1 at *
        generalize upd (mJust A b) ajust 10 = p2 at *
        generalize upd (mRoom A b) aroom 10 = p4 at *
        generalize upd (mSlot A b) aslot aslot.length = p5 at *
        repeat' (first
            | (with_reducible refine swp_seq ?_)
            | ((with_reducible refine swp_reg ?_); (try rw [hP]); simp -implicitDefEqProofs [meetHp, e0, RK.cv, *])
            | ((with_reducible refine swp_regd (by rw [hP]; exact mixed) ?_); (try rw [hP]); simp -implicitDefEqProofs [meetHp, e0, RK.cv, *])
            | ((with_reducible refine swp_skip ?_); (try simp -implicitDefEqProofs [meetHp, e0, RK.cv, *]))
            | ((with_reducible refine swp_exit ?_); (try simp -implicitDefEqProofs [meetHp, e0, RK.cv, *]))
            | ((with_reducible refine swp_ret ?_); (try simp only [qseq_r, qblock_r, qloop_r]))
            | ((with_reducible refine swp_cond rfl (fun h => ?_) (fun h => ?_)) <;> have h' := h <;> (try simp at h') <;> (try subst h'))
            | ((with_reducible refine sopsg_cases (fun h => ?_) (fun h => ?_)) <;> have h' := h <;> (try simp at h') <;> (try subst h') <;> simp -implicitDefEqProofs [meetHp, e0, RK.cv, *])
            | ((with_reducible refine draw_ok ?_ ?_); (focus rfl))
            | ((with_reducible refine sopsk_rg ?_ ?_); (first | omega | (unfold maxLen; omega)); simp -implicitDefEqProofs [meetHp, e0, RK.cv, *])
            | (with_reducible refine swp_block1 ?_)
            | (with_reducible refine swp_block2 ?_))
        refine qfun_done (s' := ⟨[(4, .ptr 5 0)], [(0, .row 4 1 (bcs p1)), (1, .row 4 1 (bcs p2)), (2, .row 23 1 (ucs anum)), (3, .row 3 1 (ics p4)), (4, .row 4 1 (bcs p5)), (5, .cells 162 [.bool true, .own 0 10, .own 1 10, .own 2 10, .own 3 10, .own 4 b.slot.length])], 6⟩) (wk_list [(5, 2), (0, 3), (1, 4), (2, 5), (3, 6), (4, 7)] hm rfl (by simp) (by simp -implicitDefEqProofs) ?_) ?_ ⟨rfl, rfl, rfl, rfl, rfl, trivial⟩ (by simp)
        · refine And.intro ⟨_, rfl, rfl, rfl, ?_⟩ (And.intro ⟨_, rfl, rfl, rfl, ?_⟩ (And.intro ⟨_, rfl, rfl, rfl, ?_⟩ (And.intro ⟨_, rfl, rfl, rfl, ?_⟩ (And.intro ⟨_, rfl, rfl, rfl, ?_⟩ (And.intro ⟨_, rfl, rfl, .refl _⟩ trivial)))))
          · rw [bcs_ren]; exact .refl _
          · rw [bcs_ren]; exact .refl _
          · rw [ucs_ren]; exact .refl _
          · rw [ics_ren]; exact .refl _
          · rw [bcs_ren]; exact .refl _
        · simp -implicitDefEqProofs [hP, resOf, resL, resV, agg_knows, size_knows, one_, *]
end Go.Proofs.Ytfakdapglbgokaa

/-
  The reference of package guard, in the plain machine: behind. No condition.
-/
namespace Go.Proofs.Ytfakdapglbgokaa
set_option linter.all false
open Go.RowKit
attribute [local simp] sops_nil sops_run sopsk_some sops_call sops_guard sopsg_yes sopsg_tf sopsg_ft sopsg_undef rg_true SOp.run SX.ev putd puts argS upds SOp.touch SSt.keep SSt.skip gets geth puth delh idOf SV.cells? setL fillS fillR sbin eq0 eq1 eqL rowOf qseq_n qseq_e qseq_r qblock_n qblock_r qblock_e qloop_e qloop_r take_map_len FrzOk pureV_int pureV_bool pureV_str pureV_nil pureV_nilsl pureV_view pureV_cp pureL_nil_ pureL_cons_ pureO_row pureO_cells frzS frzH frz frz1 frz0 SlotsM ObjsM ObjM rn ren ren1 ren0 co_self co_int co_own co_view co_nilsl co_agg co_tup CoL coll_self mergeH dels adds idsH okNames
/-- New own rows under other names. -/
theorem rk_new {f : FuncId} {args : List SV} {k' : RK} {r : SV} (h : SCalls Try.prog f args [] 0 r (k'.hp 0)) (ha : ∀ σ, args.map (ren σ) = args) (q : Nat) {r' : SV} (hr : r' = ren (sg [] q) r) (hk : ok2 r = true) : SCalls Try.prog f args [] q r' (k'.hp q) := by
  have e : ∀ i, i < 8 → sg [] q i = q + i := fun i hi => by unfold sg; simp [hi]
  have e0 := e 0 (by omega)
  have e1 := e 1 (by omega)
  have e2 := e 2 (by omega)
  have e3 := e 3 (by omega)
  have e4 := e 4 (by omega)
  refine scalls_ren [] h rfl (by simp) (by simp) (ha _).symm trivial (by simp [idsH]) hr hk ?_ (by simp [idsH, RK.hp]) ?_
  · refine And.intro ⟨.row 4 1 (bcs k'.set), ?_, rfl, rfl, bcs_ok2 _, (bcs_ren _ _).symm⟩ (And.intro ⟨.row 4 1 (bcs k'.just), ?_, rfl, rfl, bcs_ok2 _, (bcs_ren _ _).symm⟩ (And.intro ⟨.row 23 1 (ucs k'.num), ?_, rfl, rfl, ucs_ok2 _, (ucs_ren _ _).symm⟩ (And.intro ⟨.row 3 1 (ics k'.room), ?_, rfl, rfl, ics_ok2 _, (ics_ren _ _).symm⟩ (And.intro ⟨.row 4 1 (bcs k'.slot), ?_, rfl, rfl, bcs_ok2 _, (bcs_ren _ _).symm⟩ trivial))))
    · rw [e0]; simp [RK.hp, geth]
    · rw [e1]; simp [RK.hp, geth]
    · rw [e2]; simp [RK.hp, geth]
    · rw [e3]; simp [RK.hp, geth]
    · rw [e4]; simp [RK.hp, geth]
  · simp [idsH, RK.hp, e0, e1, e2, e3, e4]
theorem call_meet (a b : RK) (ha : a.there = true → a.Ten) (hb : b.Ten) (hl : a.there = true → a.slot.length = b.slot.length) (q : Nat) : SCalls Try.prog 120 [.agg a.cv, .agg b.cv] [] q (.agg ((rMeet a b).own q)) ((rMeet a b).hp q) :=
  rk_new (meet_s a b ha hb hl) (fun σ => rfl) q (by simp [RK.own, ren, ren1, ren0, sg]) (by simp [RK.own, ok2, ok1, ok0])
theorem call_needs (x : Ins) (hop : isOp x.op = true) (q : Nat) : SCalls Try.prog 146 [.agg (icv x)] [] q (iv (usesL x)) [] := scalls_q (needs_s x hop) (fun σ => rfl) (fun σ => rfl) rfl q
def RK.kn (k : RK) (r : Nat) : Kn := ⟨k.set.getD r false, k.just.getD r false, k.num.getD r 0, k.room.getD r 0⟩
def RK.to_ (k : RK) (r : Nat) (x : Kn) : RK := k.put r x.set x.just x.n x.room
def RK.sl (k : RK) (l : List Bool) : RK := ⟨k.there, k.set, k.just, k.num, k.room, l⟩
def rCall (t : Shape) (x : Ins) (k : RK) : RK × Int :=
  if slotsAll k.slot x.s.toNat t.keys.toNat then ((k.sl (slotsSet k.slot x.k.toNat t.args.toNat)).to_ x.r.toNat knSome, 0) else (k, 15)
/-- What the reference knows behind an instruction; a code. -/
def rBehind (tabs : List Shape) (x : Ins) (k : RK) : RK × Int :=
  if (usesL x).all (fun r => (k.kn r.toNat).set) = false then (k, 15)
  else if x.op = 1 then (k.to_ x.r.toNat ⟨true, true, x.n, if x.n = 0 then 0 else -1⟩, 0)
  else if x.op = 2 then (k.to_ x.r.toNat ⟨true, (k.kn x.s.toNat).just, (k.kn x.s.toNat).n, (k.kn x.s.toNat).room⟩, 0)
  else if x.op = 3 then (k.to_ x.r.toNat (knBin x.k (k.kn x.r.toNat) (k.kn x.s.toNat)), 0)
  else if x.op = 4 ∨ x.op = 5 ∨ x.op = 18 then (k.to_ x.r.toNat knSome, 0)
  else if x.op = 6 then if (k.kn x.s.toNat).room < x.n + x.k then (k, 16) else (k.to_ x.r.toNat knSome, 0)
  else if x.op = 7 then if k.slot.getD x.n.toNat false then (k.to_ x.r.toNat knSome, 0) else (k, 15)
  else if x.op = 8 then (k.sl (k.slot.set x.n.toNat true), 0)
  else if x.op = 13 then rCall (nth tabs x.n.toNat) x k
  else if x.op = 15 then if (k.kn x.r.toNat).room < 0 then (k, 16) else (k, 0)
  else (k, 0)
/-- The program's state and the reference's: the same is known. -/
structure Alike (slots : Int) (s : GSt) (k : RK) : Prop where
  there : s.there = k.there
  ok : GOk s
  ten : s.there = true → k.Ten
  set : s.there = true → ∀ r : Nat, r < 10 → (regAt s r).set = (k.kn r).set
  just : s.there = true → ∀ r : Nat, r < 10 → (regAt s r).just = (k.kn r).just
  num : s.there = true → ∀ r : Nat, r < 10 → (k.kn r).just = true → (regAt s r).n = (k.kn r).n
  room : s.there = true → ∀ r : Nat, r < 10 → (regAt s r).room = (k.kn r).room
  len : s.there = true → (k.slot.length : Int) = slots
  slot : s.there = true → ∀ j : Nat, (j : Int) < slots → s.slots.getD j false = k.slot.getD j false
end Go.Proofs.Ytfakdapglbgokaa

/-
  The reference of package guard, in the plain machine: behind. No condition.
-/
namespace Go.Proofs.Ytfakdapglbgokaa
set_option linter.all false
open Go.RowKit
attribute [local simp] sops_nil sops_run sopsk_some sops_call sops_guard sopsg_yes sopsg_tf sopsg_ft sopsg_undef rg_true SOp.run SX.ev putd puts argS upds SOp.touch SSt.keep SSt.skip gets geth puth delh idOf SV.cells? setL fillS fillR sbin eq0 eq1 eqL rowOf qseq_n qseq_e qseq_r qblock_n qblock_r qblock_e qloop_e qloop_r take_map_len FrzOk pureV_int pureV_bool pureV_str pureV_nil pureV_nilsl pureV_view pureV_cp pureL_nil_ pureL_cons_ pureO_row pureO_cells frzS frzH frz frz1 frz0 SlotsM ObjsM ObjM rn ren ren1 ren0 co_self co_int co_own co_view co_nilsl co_agg co_tup CoL coll_self mergeH dels adds idsH okNames
theorem behind_no (tabs : List Shape) (code : List Ins) (slots : Int) (x : Ins) (k : RK) (hx : InsP slots tabs x) (hop : isOp x.op = true) (hk : k.Ten) (hu : (usesL x).all (fun r => (k.kn r.toNat).set) = false) :
    SCalls Try.prog 119 [.agg (pcv ⟨slots, tabs, code⟩), .agg (icv x), .agg k.cv] [] 0 (.tup [.agg [.any, .any, .any, .any, .any, .any], .int .i64 15]) [] := by
  refine scalls_of (N := 305) Try.func119 rfl rfl (by kernel_rfl) comp_c_behind (by simp) ⟨rfl, rfl, rfl, trivial⟩ trivial ?_
  rintro X hP hN hm
  have h1 := hk.set
  have hu1 := usesL_ok hx
  have hul := usesL_len x
  generalize hl : usesL x = l at hu hu1 hul
  unfold c_behind
  repeat' (first
      | (with_reducible refine swp_seq ?_)
      | ((with_reducible refine swp_reg ?_); (try rw [hP]); simp -implicitDefEqProofs [icv, iv, pcv, RK.cv, hl, *])
      | ((with_reducible refine swp_regd (by rw [hP]; exact mixed) ?_); (try rw [hP]); simp -implicitDefEqProofs [icv, iv, pcv, RK.cv, hl, *])
      | ((with_reducible refine swp_skip ?_); (try simp -implicitDefEqProofs [icv, iv, pcv, RK.cv, hl, *]))
      | ((with_reducible refine swp_exit ?_); (try simp -implicitDefEqProofs [icv, iv, pcv, RK.cv, hl, *]))
      | ((with_reducible refine swp_ret ?_); (try simp only [qseq_r, qblock_r, qloop_r]))
      | ((with_reducible refine swp_cond rfl (fun h => ?_) (fun h => ?_)) <;> have h' := h <;> (try simp at h') <;> (try subst h'))
      | ((with_reducible refine sopsg_cases (fun h => ?_) (fun h => ?_)) <;> have h' := h <;> (try simp at h') <;> (try subst h') <;> simp -implicitDefEqProofs [icv, iv, pcv, RK.cv, hl, *])
      | ((with_reducible refine draw_ok ?_ ?_); (focus rfl))
      | ((with_reducible refine sopsk_rg ?_ ?_); (first | omega | (unfold maxLen; omega)); simp -implicitDefEqProofs [icv, iv, pcv, RK.cv, hl, *])
      | (with_reducible refine swp_block1 ?_)
      | (with_reducible refine swp_block2 ?_)
      | (refine call_q (call_needs x hop _) ?_; simp -implicitDefEqProofs [icv, iv, pcv, RK.cv, hl, *]))
  have fin : ∀ y z u c0 c1 c2 c3 c4 c5 nx, QFun X [ResultVar.cell 6 162, ResultVar.tmp 7] 0 (.tup [.agg [.any, .any, .any, .any, .any, .any], .int .i64 15]) [] .ret ⟨[(6, .ptr 3 0), (7, .int .i64 15)], [(0, y), (1, z), (2, u), (3, .cells 162 [c0, c1, c2, c3, c4, c5])], nx⟩ := fun y z u c0 c1 c2 c3 c4 c5 nx =>
    qfun_done (s' := ⟨[(6, .ptr 0 0), (7, .int .i64 15)], [(0, .cells 162 [.any, .any, .any, .any, .any, .any])], 1⟩) (wk_list [(0, 3)] hm rfl (by simp) (by simp -implicitDefEqProofs) (And.intro ⟨_, rfl, rfl, Co.any _, Co.any _, Co.any _, Co.any _, Co.any _, Co.any _, trivial⟩ trivial)) (by simp -implicitDefEqProofs [hP, resOf, resL, resV, agg_knows, size_knows, one_]) trivial (by simp)
  refine swp_block (swp_loop (fun s' m => ∃ i : Nat, s' = ⟨[(3, .ptr 0 0), (4, .ptr 1 0), (5, .ptr 2 0), (6, .ptr 3 0), (8, iv l), (9, .int .i64 i)], [(0, .cells 63 (pcv ⟨slots, tabs, code⟩)), (1, .cells 56 (icv x)), (2, .cells 162 k.cv), (3, .cells 162 [.bool false, .nilsl, .nilsl, .nilsl, .nilsl, .nilsl])], 4⟩ ∧ i ≤ l.length ∧ (∀ r ∈ l.take i, (k.kn r.toNat).set = true) ∧ m = l.length - i) (wk_list [(0, 0), (1, 1), (2, 2), (3, 3)] hm rfl (by simp) (by simp -implicitDefEqProofs [iv]) (by refine And.intro ⟨_, rfl, rfl, .refl _⟩ (And.intro ⟨_, rfl, rfl, .refl _⟩ (And.intro ⟨_, rfl, rfl, .refl _⟩ (And.intro ⟨_, rfl, rfl, .refl _⟩ trivial))))) ⟨0, rfl, by omega, by simp, rfl⟩ ?_)
  rintro s' m ⟨i, rfl, hi, h6, rfl⟩
  unfold c_behind_l1
  rcases Nat.lt_or_ge i l.length with hlt | hge
  · obtain ⟨hr0, hr1⟩ := hu1 l[i] (List.getElem_mem hlt)
    obtain ⟨R, hR⟩ : ∃ n : Nat, l[i] = n := ⟨l[i].toNat, by omega⟩
    have hRl : R < k.set.length := by omega
    have g1 := bcs_get hRl
    have g3 : (k.kn R).set = k.set[R] := getD_b hRl
    have z1 : (i : Int) < l.length := by omega
    have z2 : (R : Int) < 10 := by omega
    have z3 : R < 10 := by omega
    replace g3 := Lib.hid g3
    replace hu := Lib.hid hu
    cases hb : k.set[R] <;> rw [hb] at g1
    ·
      repeat' (first
          | (with_reducible refine swp_seq ?_)
          | ((with_reducible refine swp_reg ?_); (try rw [hP]); simp -implicitDefEqProofs [icv, iv, pcv, RK.cv, bcs_len, bcs_getE, *])
          | ((with_reducible refine swp_regd (by rw [hP]; exact mixed) ?_); (try rw [hP]); simp -implicitDefEqProofs [icv, iv, pcv, RK.cv, bcs_len, bcs_getE, *])
          | ((with_reducible refine swp_skip ?_); (try simp -implicitDefEqProofs [icv, iv, pcv, RK.cv, bcs_len, bcs_getE, *]))
          | ((with_reducible refine swp_exit ?_); (try simp -implicitDefEqProofs [icv, iv, pcv, RK.cv, bcs_len, bcs_getE, *]))
          | ((with_reducible refine swp_ret ?_); (try simp only [qseq_r, qblock_r, qloop_r]))
          | ((with_reducible refine swp_cond rfl (fun h => ?_) (fun h => ?_)) <;> have h' := h <;> (try simp at h') <;> (try subst h'))
          | ((with_reducible refine sopsg_cases (fun h => ?_) (fun h => ?_)) <;> have h' := h <;> (try simp at h') <;> (try subst h') <;> simp -implicitDefEqProofs [icv, iv, pcv, RK.cv, bcs_len, bcs_getE, *])
          | ((with_reducible refine draw_ok ?_ ?_); (focus rfl))
          | ((with_reducible refine sopsk_rg ?_ ?_); (first | omega | (unfold maxLen; omega)); simp -implicitDefEqProofs [icv, iv, pcv, RK.cv, bcs_len, bcs_getE, *])
          | (with_reducible refine swp_block1 ?_)
          | (with_reducible refine swp_block2 ?_)
          | (exact fin _ _ _ _ _ _ _ _ _ _))
    ·
      repeat' (first
          | (with_reducible refine swp_seq ?_)
          | ((with_reducible refine swp_reg ?_); (try rw [hP]); simp -implicitDefEqProofs [icv, iv, pcv, RK.cv, bcs_len, bcs_getE, *])
          | ((with_reducible refine swp_regd (by rw [hP]; exact mixed) ?_); (try rw [hP]); simp -implicitDefEqProofs [icv, iv, pcv, RK.cv, bcs_len, bcs_getE, *])
          | ((with_reducible refine swp_skip ?_); (try simp -implicitDefEqProofs [icv, iv, pcv, RK.cv, bcs_len, bcs_getE, *]))
          | ((with_reducible refine swp_exit ?_); (try simp -implicitDefEqProofs [icv, iv, pcv, RK.cv, bcs_len, bcs_getE, *]))
          | ((with_reducible refine swp_ret ?_); (try simp only [qseq_r, qblock_r, qloop_r]))
          | ((with_reducible refine swp_cond rfl (fun h => ?_) (fun h => ?_)) <;> have h' := h <;> (try simp at h') <;> (try subst h'))
          | ((with_reducible refine sopsg_cases (fun h => ?_) (fun h => ?_)) <;> have h' := h <;> (try simp at h') <;> (try subst h') <;> simp -implicitDefEqProofs [icv, iv, pcv, RK.cv, bcs_len, bcs_getE, *])
          | ((with_reducible refine draw_ok ?_ ?_); (focus rfl))
          | ((with_reducible refine sopsk_rg ?_ ?_); (first | omega | (unfold maxLen; omega)); simp -implicitDefEqProofs [icv, iv, pcv, RK.cv, bcs_len, bcs_getE, *])
          | (with_reducible refine swp_block1 ?_)
          | (with_reducible refine swp_block2 ?_)
          | ((rw [i64_add_ (by omega) (by omega)]; refine qloop_next (wk_list [(0, 0), (1, 1), (2, 2), (3, 3)] hm rfl (by simp) ?_ ?_) ⟨i + 1, rfl, by omega, ?_, rfl⟩ (by omega); (focus (simp -implicitDefEqProofs [iv]; done)); (focus (exact And.intro ⟨_, rfl, rfl, .refl _⟩ (And.intro ⟨_, rfl, rfl, .refl _⟩ (And.intro ⟨_, rfl, rfl, .refl _⟩ (And.intro ⟨_, rfl, rfl, .refl _⟩ trivial))))))))
      intro r hr
      rw [List.take_succ_eq_append_getElem hlt, List.mem_append, List.mem_singleton] at hr
      rcases hr with hr | rfl
      · exact h6 r hr
      · rw [hR, Int.toNat_natCast, g3.out, hb]
  · exfalso
    obtain rfl : i = l.length := by omega
    rw [List.take_length] at h6
    have : (l.all fun r => (k.kn r.toNat).set) = true := List.all_eq_true.2 h6
    rw [this] at hu; cases hu
end Go.Proofs.Ytfakdapglbgokaa

/-
  The reference of package guard, in the plain machine: behind, where all registers are set. No condition.
-/
namespace Go.Proofs.Ytfakdapglbgokaa
set_option linter.all false
open Go.RowKit
attribute [local simp] sops_nil sops_run sopsk_some sops_call sops_guard sopsg_yes sopsg_tf sopsg_ft sopsg_undef rg_true SOp.run SX.ev putd puts argS upds SOp.touch SSt.keep SSt.skip gets geth puth delh idOf SV.cells? setL fillS fillR sbin eq0 eq1 eqL rowOf qseq_n qseq_e qseq_r qblock_n qblock_r qblock_e qloop_e qloop_r take_map_len FrzOk pureV_int pureV_bool pureV_str pureV_nil pureV_nilsl pureV_view pureV_cp pureL_nil_ pureL_cons_ pureO_row pureO_cells frzS frzH frz frz1 frz0 SlotsM ObjsM ObjM rn ren ren1 ren0 co_self co_int co_own co_view co_nilsl co_agg co_tup CoL coll_self mergeH dels adds idsH okNames
/-- The objects, where a table is called. -/
def bHp (slots : Int) (tabs : List Shape) (code : List Ins) (x : Ins) (k : RK) (R S D n K A : Nat) (ac : Int) (sl : List Bool) : Hp := [(0, .cells 63 (pcv ⟨slots, tabs, code⟩)), (1, .cells 56 [.int .i64 13, .int .i64 R, .int .i64 S, .int .i64 D, .int .i64 x.to, .int .u64 n]), (2, .cells 162 (k.own 9)), (3, .cells 162 [.bool false, .nilsl, .nilsl, .nilsl, .nilsl, .nilsl]), (9, .row 4 1 (bcs k.set)), (10, .row 4 1 (bcs k.just)), (11, .row 23 1 (ucs k.num)), (12, .row 3 1 (ics k.room)), (13, .row 4 1 (bcs sl)), (14, .cells 123 [.int .i64 K, .int .i64 ac, .int .i64 A])]
theorem bHp_to {σ : Nat → Nat} {hp : Hp} {slots : Int} {tabs : List Shape} {code : List Ins} {x : Ins} {k : RK} {R S D n K A : Nat} {ac : Int} {sl : List Bool}
    (h0 : ∃ o, geth hp (σ 0) = some o ∧ ObjM σ o (.cells 63 (pcv ⟨slots, tabs, code⟩))) (h1 : ∃ o, geth hp (σ 1) = some o ∧ ObjM σ o (.cells 56 [.int .i64 13, .int .i64 R, .int .i64 S, .int .i64 D, .int .i64 x.to, .int .u64 n])) (h2 : ∃ o, geth hp (σ 2) = some o ∧ ObjM σ o (.cells 162 (k.own 9))) (h3 : ∃ o, geth hp (σ 3) = some o ∧ ObjM σ o (.cells 162 [.bool false, .nilsl, .nilsl, .nilsl, .nilsl, .nilsl]))
    (h9 : geth hp (σ 9) = some (.row 4 1 (bcs k.set))) (h10 : geth hp (σ 10) = some (.row 4 1 (bcs k.just))) (h11 : geth hp (σ 11) = some (.row 23 1 (ucs k.num))) (h12 : geth hp (σ 12) = some (.row 3 1 (ics k.room))) (h13 : geth hp (σ 13) = some (.row 4 1 (bcs sl))) (h14 : ∃ o, geth hp (σ 14) = some o ∧ ObjM σ o (.cells 123 [.int .i64 K, .int .i64 ac, .int .i64 A])) : ObjsM σ hp (bHp slots tabs code x k R S D n K A ac sl) := by
  refine And.intro h0 (And.intro h1 (And.intro h2 (And.intro h3 (And.intro ⟨_, h9, rfl, rfl, ?_⟩ (And.intro ⟨_, h10, rfl, rfl, ?_⟩ (And.intro ⟨_, h11, rfl, rfl, ?_⟩ (And.intro ⟨_, h12, rfl, rfl, ?_⟩ (And.intro ⟨_, h13, rfl, rfl, ?_⟩ (And.intro h14 trivial)))))))))
  · rw [bcs_ren]; exact .refl _
  · rw [bcs_ren]; exact .refl _
  · rw [ucs_ren]; exact .refl _
  · rw [ics_ren]; exact .refl _
  · rw [bcs_ren]; exact .refl _
set_option maxHeartbeats 8000000 in
theorem behind_yes (tabs : List Shape) (code : List Ins) (slots : Int) (x : Ins) (k : RK) (hx : InsP slots tabs x) (hop : isOp x.op = true) (hk : k.Ten) (hu : (usesL x).all (fun r => (k.kn r.toNat).set) = true) (hks : (k.slot.length : Int) = slots) (q : SV) (h2 : Hp) (hq : (rBehind tabs x k).2 = 0 → q = .tup [.agg ((rBehind tabs x k).1.own 0), .int .i64 0] ∧ h2 = (rBehind tabs x k).1.hp 0) (hq2 : (rBehind tabs x k).2 ≠ 0 → q = .tup [.agg [.any, .any, .any, .any, .any, .any], .int .i64 (rBehind tabs x k).2] ∧ h2 = []) :
    SCalls Try.prog 119 [.agg (pcv ⟨slots, tabs, code⟩), .agg (icv x), .agg k.cv] [] 0 q h2 := by
  refine scalls_of (N := 305) Try.func119 rfl rfl (by kernel_rfl) comp_c_behind (by simp) ⟨rfl, rfl, rfl, trivial⟩ trivial ?_
  rintro X hP hN hm
  have h1 := hk.set
  have hu1 := usesL_ok hx
  have hul := usesL_len x
  generalize hl : usesL x = l at hu hu1 hul
  unfold c_behind
  repeat' (first
      | (with_reducible refine swp_seq ?_)
      | ((with_reducible refine swp_reg ?_); (try rw [hP]); simp -implicitDefEqProofs [icv, iv, pcv, RK.cv, hl, *])
      | ((with_reducible refine swp_regd (by rw [hP]; exact mixed) ?_); (try rw [hP]); simp -implicitDefEqProofs [icv, iv, pcv, RK.cv, hl, *])
      | ((with_reducible refine swp_skip ?_); (try simp -implicitDefEqProofs [icv, iv, pcv, RK.cv, hl, *]))
      | ((with_reducible refine swp_exit ?_); (try simp -implicitDefEqProofs [icv, iv, pcv, RK.cv, hl, *]))
      | ((with_reducible refine swp_ret ?_); (try simp only [qseq_r, qblock_r, qloop_r]))
      | ((with_reducible refine swp_cond rfl (fun h => ?_) (fun h => ?_)) <;> have h' := h <;> (try simp at h') <;> (try subst h'))
      | ((with_reducible refine sopsg_cases (fun h => ?_) (fun h => ?_)) <;> have h' := h <;> (try simp at h') <;> (try subst h') <;> simp -implicitDefEqProofs [icv, iv, pcv, RK.cv, hl, *])
      | ((with_reducible refine draw_ok ?_ ?_); (focus rfl))
      | ((with_reducible refine sopsk_rg ?_ ?_); (first | omega | (unfold maxLen; omega)); simp -implicitDefEqProofs [icv, iv, pcv, RK.cv, hl, *])
      | (with_reducible refine swp_block1 ?_)
      | (with_reducible refine swp_block2 ?_)
      | (refine call_q (call_needs x hop _) ?_; simp -implicitDefEqProofs [icv, iv, pcv, RK.cv, hl, *]))
  refine swp_block (swp_loop (fun s' m => ∃ i : Nat, s' = ⟨[(3, .ptr 0 0), (4, .ptr 1 0), (5, .ptr 2 0), (6, .ptr 3 0), (8, iv l), (9, .int .i64 i)], [(0, .cells 63 (pcv ⟨slots, tabs, code⟩)), (1, .cells 56 (icv x)), (2, .cells 162 k.cv), (3, .cells 162 [.bool false, .nilsl, .nilsl, .nilsl, .nilsl, .nilsl])], 4⟩ ∧ i ≤ l.length ∧ (∀ r ∈ l.take i, (k.kn r.toNat).set = true) ∧ m = l.length - i) (wk_list [(0, 0), (1, 1), (2, 2), (3, 3)] hm rfl (by simp) (by simp -implicitDefEqProofs [iv]) (by refine And.intro ⟨_, rfl, rfl, .refl _⟩ (And.intro ⟨_, rfl, rfl, .refl _⟩ (And.intro ⟨_, rfl, rfl, .refl _⟩ (And.intro ⟨_, rfl, rfl, .refl _⟩ trivial))))) ⟨0, rfl, by omega, by simp, rfl⟩ ?_)
  rintro s' m ⟨i, rfl, hi, h6, rfl⟩
  unfold c_behind_l1
  rcases Nat.lt_or_ge i l.length with hlt | hge
  · obtain ⟨hr0, hr1⟩ := hu1 l[i] (List.getElem_mem hlt)
    obtain ⟨R, hR⟩ : ∃ n : Nat, l[i] = n := ⟨l[i].toNat, by omega⟩
    have hRl : R < k.set.length := by omega
    have g1 := bcs_get hRl
    have g3 : (k.kn R).set = k.set[R] := getD_b hRl
    have z1 : (i : Int) < l.length := by omega
    have z2 : (R : Int) < 10 := by omega
    have z3 : R < 10 := by omega
    replace g3 := Lib.hid g3
    replace hu := Lib.hid hu
    have hb : k.set[R] = true := by
      rw [← g3.out]
      have := List.all_eq_true.1 hu.out l[i] (List.getElem_mem hlt)
      rw [hR] at this; exact this
    rw [hb] at g1
    repeat' (first
        | (with_reducible refine swp_seq ?_)
        | ((with_reducible refine swp_reg ?_); (try rw [hP]); simp -implicitDefEqProofs [icv, iv, pcv, RK.cv, bcs_len, bcs_getE, *])
        | ((with_reducible refine swp_regd (by rw [hP]; exact mixed) ?_); (try rw [hP]); simp -implicitDefEqProofs [icv, iv, pcv, RK.cv, bcs_len, bcs_getE, *])
        | ((with_reducible refine swp_skip ?_); (try simp -implicitDefEqProofs [icv, iv, pcv, RK.cv, bcs_len, bcs_getE, *]))
        | ((with_reducible refine swp_exit ?_); (try simp -implicitDefEqProofs [icv, iv, pcv, RK.cv, bcs_len, bcs_getE, *]))
        | ((with_reducible refine swp_ret ?_); (try simp only [qseq_r, qblock_r, qloop_r]))
        | ((with_reducible refine swp_cond rfl (fun h => ?_) (fun h => ?_)) <;> have h' := h <;> (try simp at h') <;> (try subst h'))
        | ((with_reducible refine sopsg_cases (fun h => ?_) (fun h => ?_)) <;> have h' := h <;> (try simp at h') <;> (try subst h') <;> simp -implicitDefEqProofs [icv, iv, pcv, RK.cv, bcs_len, bcs_getE, *])
        | ((with_reducible refine draw_ok ?_ ?_); (focus rfl))
        | ((with_reducible refine sopsk_rg ?_ ?_); (first | omega | (unfold maxLen; omega)); simp -implicitDefEqProofs [icv, iv, pcv, RK.cv, bcs_len, bcs_getE, *])
        | (with_reducible refine swp_block1 ?_)
        | (with_reducible refine swp_block2 ?_)
        | ((rw [i64_add_ (by omega) (by omega)]; refine qloop_next (wk_list [(0, 0), (1, 1), (2, 2), (3, 3)] hm rfl (by simp) ?_ ?_) ⟨i + 1, rfl, by omega, ?_, rfl⟩ (by omega); (focus (simp -implicitDefEqProofs [iv]; done)); (focus (exact And.intro ⟨_, rfl, rfl, .refl _⟩ (And.intro ⟨_, rfl, rfl, .refl _⟩ (And.intro ⟨_, rfl, rfl, .refl _⟩ (And.intro ⟨_, rfl, rfl, .refl _⟩ trivial))))))))
    intro r hr
    rw [List.take_succ_eq_append_getElem hlt, List.mem_append, List.mem_singleton] at hr
    rcases hr with hr | rfl
    · exact h6 r hr
    · rw [hR, Int.toNat_natCast, g3.out, hb]
  · obtain rfl : i = l.length := by omega
    replace hu := Lib.hid hu
    replace h1 := Lib.hid h1
    have hr := hx.r
    have hn0 := hx.n0
    obtain ⟨R, hR⟩ : ∃ n : Nat, x.r = n := ⟨x.r.toNat, by omega⟩
    obtain ⟨n, hn⟩ : ∃ n : Nat, x.n = n := ⟨x.n.toNat, by omega⟩
    have hR10 : R < 10 := by omega
    have z2 : (R : Int) < 10 := by omega
    have finOk : ∀ y z u s1 j1 n1 r1 sl1 hp' nx, (rBehind tabs x k = (⟨k.there, s1, j1, n1, r1, sl1⟩, 0) ∧ s1.length = k.set.length ∧ j1.length = k.just.length ∧ n1.length = k.num.length ∧ r1.length = k.room.length ∧ sl1.length = k.slot.length) →
        QFun X [ResultVar.cell 6 162, ResultVar.tmp 7] 0 q h2 .ret ⟨[(6, .ptr 3 0), (7, .int .i64 0)], (0, y) :: (1, z) :: (2, u) :: (3, .cells 162 [.bool k.there, .own 9 k.set.length, .own 10 k.just.length, .own 11 k.num.length, .own 12 k.room.length, .own 13 k.slot.length]) :: (9, .row 4 1 (bcs s1)) :: (10, .row 4 1 (bcs j1)) :: (11, .row 23 1 (ucs n1)) :: (12, .row 3 1 (ics r1)) :: (13, .row 4 1 (bcs sl1)) :: hp', nx⟩ := fun y z u s1 j1 n1 r1 sl1 hp' nx ⟨hb, g1, g2, g3, g4, g5⟩ => by
      rw [hb] at hq
      obtain ⟨rfl, rfl⟩ := hq rfl
      clear hq hq2
      unfold RK.own RK.hp
      simp only [g1, g2, g3, g4, g5]
      refine qfun_done (s' := ⟨[(6, .ptr 5 0), (7, .int .i64 0)], [(0, .row 4 1 (bcs s1)), (0 + 1, .row 4 1 (bcs j1)), (0 + 2, .row 23 1 (ucs n1)), (0 + 3, .row 3 1 (ics r1)), (0 + 4, .row 4 1 (bcs sl1)), (5, .cells 162 [.bool k.there, .own 0 k.set.length, .own 1 k.just.length, .own 2 k.num.length, .own 3 k.room.length, .own 4 k.slot.length])], 6⟩) (wk_list [(5, 3), (0, 9), (1, 10), (2, 11), (3, 12), (4, 13)] hm rfl (by simp) (by simp -implicitDefEqProofs) ?_) ?_ ⟨rfl, rfl, rfl, rfl, rfl, trivial⟩ (by simp)
      · refine And.intro ⟨_, rfl, rfl, rfl, ?_⟩ (And.intro ⟨_, rfl, rfl, rfl, ?_⟩ (And.intro ⟨_, rfl, rfl, rfl, ?_⟩ (And.intro ⟨_, rfl, rfl, rfl, ?_⟩ (And.intro ⟨_, rfl, rfl, rfl, ?_⟩ (And.intro ⟨_, rfl, rfl, .refl _⟩ trivial)))))
        · rw [bcs_ren]; exact .refl _
        · rw [bcs_ren]; exact .refl _
        · rw [ucs_ren]; exact .refl _
        · rw [ics_ren]; exact .refl _
        · rw [bcs_ren]; exact .refl _
      · simp -implicitDefEqProofs [hP, resOf, resL, resV, agg_knows, size_knows, one_]
    have finBad : ∀ y z u a0 a1 a2 a3 a4 a5 e hp' nx, (rBehind tabs x k).2 = e ∧ e ≠ 0 → QFun X [ResultVar.cell 6 162, ResultVar.tmp 7] 0 q h2 .ret ⟨[(6, .ptr 3 0), (7, .int .i64 e)], (0, y) :: (1, z) :: (2, u) :: (3, .cells 162 [a0, a1, a2, a3, a4, a5]) :: hp', nx⟩ := fun y z u a0 a1 a2 a3 a4 a5 e hp' nx ⟨he, h0⟩ => by
      subst he
      obtain ⟨rfl, rfl⟩ := hq2 h0
      exact qfun_done (s' := ⟨[(6, .ptr 0 0), (7, .int .i64 (rBehind tabs x k).2)], [(0, .cells 162 [.any, .any, .any, .any, .any, .any])], 1⟩) (wk_list [(0, 3)] hm rfl (by simp) (by simp -implicitDefEqProofs) (And.intro ⟨_, rfl, rfl, Co.any _, Co.any _, Co.any _, Co.any _, Co.any _, Co.any _, trivial⟩ trivial)) (by simp -implicitDefEqProofs [hP, resOf, resL, resV, agg_knows, size_knows, one_]) trivial (by simp)
    by_cases h13 : x.op = 13
    · have ht := hx.t h13
      have hh2 := hx.ts h13
      have hh3 := hx.tk h13
      have hn1 : n < tabs.length := by have := hx.tn h13; omega
      have h96 := hx.sl
      have hd : rBehind tabs x k = rCall (nth tabs n) x k := by
        unfold rBehind
        rw [if_neg (by rw [hl, hu.out]; simp), hn, Int.toNat_natCast]
        simp [h13]
      rw [hn, Int.toNat_natCast, nth_lt tabs n hn1] at ht hh2 hh3
      rw [nth_lt tabs n hn1] at hd
      generalize htt : tabs[n] = tt at ht hh2 hh3 hd
      obtain ⟨K, hK⟩ : ∃ n : Nat, tt.keys = n := ⟨tt.keys.toNat, by omega⟩
      obtain ⟨A, hA⟩ : ∃ n : Nat, tt.args = n := ⟨tt.args.toNat, by omega⟩
      obtain ⟨S, hS⟩ : ∃ n : Nat, x.s = n := ⟨x.s.toNat, by omega⟩
      obtain ⟨D, hD⟩ : ∃ n : Nat, x.k = n := ⟨x.k.toNat, by omega⟩
      rw [hK, hS] at hh2
      rw [hA, hD] at hh3
      rw [hK, hA] at ht
      replace hd := Lib.hid hd
      replace hx := Lib.hid hx
      replace hq := Lib.hid hq
      replace hq2 := Lib.hid hq2
      replace hks := Lib.hid hks
      repeat' (first
          | (with_reducible refine swp_seq ?_)
          | ((with_reducible refine swp_reg ?_); (try rw [hP]); simp -implicitDefEqProofs [icv, iv, pcv, RK.cv, RK.own, RK.hp, scv, *])
          | ((with_reducible refine swp_regd (by rw [hP]; exact mixed) ?_); (try rw [hP]); simp -implicitDefEqProofs [icv, iv, pcv, RK.cv, RK.own, RK.hp, scv, *])
          | ((with_reducible refine swp_skip ?_); (try simp -implicitDefEqProofs [icv, iv, pcv, RK.cv, RK.own, RK.hp, scv, *]))
          | ((with_reducible refine swp_exit ?_); (try simp -implicitDefEqProofs [icv, iv, pcv, RK.cv, RK.own, RK.hp, scv, *]))
          | ((with_reducible refine swp_ret ?_); (try simp only [qseq_r, qblock_r, qloop_r]))
          | ((with_reducible refine swp_cond rfl (fun h => ?_) (fun h => ?_)) <;> have h' := h <;> (try simp at h') <;> (try subst h'))
          | ((with_reducible refine sopsg_cases (fun h => ?_) (fun h => ?_)) <;> have h' := h <;> (try simp at h') <;> (try subst h') <;> simp -implicitDefEqProofs [icv, iv, pcv, RK.cv, RK.own, RK.hp, scv, *])
          | ((with_reducible refine draw_ok ?_ ?_); (focus rfl))
          | ((with_reducible refine sopsk_rg ?_ ?_); (first | omega | (unfold maxLen; omega)); simp -implicitDefEqProofs [icv, iv, pcv, RK.cv, RK.own, RK.hp, scv, *])
          | (with_reducible refine swp_block1 ?_)
          | (with_reducible refine swp_block2 ?_)
          | (refine call_h (call_okn k hk.small _) trivial ⟨rfl, rfl, rfl, rfl, rfl, trivial⟩ ?_; simp -implicitDefEqProofs [icv, iv, pcv, RK.cv, RK.own, RK.hp, scv, *]))
      refine swp_block (swp_loop (fun s' m => ∃ i : Nat, s' = ⟨[(4, .ptr 1 0), (5, .ptr 2 0), (6, .ptr 3 0), (15, .ptr 14 0), (16, .int .i64 i)], bHp slots tabs code x k R S D n K A tt.acts k.slot, 15⟩ ∧ i ≤ K ∧ slotsAll k.slot S i = true ∧ m = K - i) (wk_list [(0, 0), (1, 1), (2, 2), (3, 3), (9, 9), (10, 10), (11, 11), (12, 12), (13, 13), (14, 48)] hm rfl (by simp) (by simp -implicitDefEqProofs) (by exact bHp_to ⟨_, rfl, rfl, .refl _⟩ ⟨_, rfl, rfl, .refl _⟩ ⟨_, rfl, rfl, .refl _⟩ ⟨_, rfl, rfl, .refl _⟩ rfl rfl rfl rfl rfl ⟨_, rfl, rfl, .refl _⟩)) ⟨0, rfl, by omega, rfl, rfl⟩ ?_)
      rintro s' m ⟨i, rfl, h7, h8, rfl⟩
      unfold c_behind_l2
      rcases Nat.lt_or_ge i K with hi2 | hi2
      · have hlt : S + i < k.slot.length := by have := hks.out; omega
        have g1 := bcs_get hlt
        have g2 : IntKind.i64.wrap ((S : Int) + i) = ((S + i : Nat) : Int) := by rw [i64_add_ (by omega) (by omega)]; omega
        have g4 : ((S : Int) + (i : Int)).toNat = S + i := by omega
        cases hb : k.slot[S + i] <;> rw [hb] at g1
        ·
          repeat' (first
              | (with_reducible refine swp_seq ?_)
              | ((with_reducible refine swp_reg ?_); (try rw [hP]); simp -implicitDefEqProofs [bHp, RK.own, bcs_len, bcs_getE, *])
              | ((with_reducible refine swp_regd (by rw [hP]; exact mixed) ?_); (try rw [hP]); simp -implicitDefEqProofs [bHp, RK.own, bcs_len, bcs_getE, *])
              | ((with_reducible refine swp_skip ?_); (try simp -implicitDefEqProofs [bHp, RK.own, bcs_len, bcs_getE, *]))
              | ((with_reducible refine swp_exit ?_); (try simp -implicitDefEqProofs [bHp, RK.own, bcs_len, bcs_getE, *]))
              | ((with_reducible refine swp_ret ?_); (try simp only [qseq_r, qblock_r, qloop_r]))
              | ((with_reducible refine swp_cond rfl (fun h => ?_) (fun h => ?_)) <;> have h' := h <;> (try simp at h') <;> (try subst h'))
              | ((with_reducible refine sopsg_cases (fun h => ?_) (fun h => ?_)) <;> have h' := h <;> (try simp at h') <;> (try subst h') <;> simp -implicitDefEqProofs [bHp, RK.own, bcs_len, bcs_getE, *])
              | ((with_reducible refine draw_ok ?_ ?_); (focus rfl))
              | ((with_reducible refine sopsk_rg ?_ ?_); (first | omega | (unfold maxLen; omega)); simp -implicitDefEqProofs [bHp, RK.own, bcs_len, bcs_getE, *])
              | (with_reducible refine swp_block1 ?_)
              | (with_reducible refine swp_block2 ?_)
              | (refine finBad _ _ _ _ _ _ _ _ _ _ _ _ ?_))
          refine ⟨?_, by decide⟩
          have hno : slotsAll k.slot S K = false := slotsAll_no (by rw [List.getD_eq_getElem?_getD, List.getElem?_eq_getElem hlt, hb]; rfl) hi2
          rw [hd.out]; unfold rCall; rw [hS, hK, Int.toNat_natCast, Int.toNat_natCast, hno]; rfl
        ·
          repeat' (first
              | (with_reducible refine swp_seq ?_)
              | ((with_reducible refine swp_reg ?_); (try rw [hP]); simp -implicitDefEqProofs [bHp, RK.own, bcs_len, bcs_getE, *])
              | ((with_reducible refine swp_regd (by rw [hP]; exact mixed) ?_); (try rw [hP]); simp -implicitDefEqProofs [bHp, RK.own, bcs_len, bcs_getE, *])
              | ((with_reducible refine swp_skip ?_); (try simp -implicitDefEqProofs [bHp, RK.own, bcs_len, bcs_getE, *]))
              | ((with_reducible refine swp_exit ?_); (try simp -implicitDefEqProofs [bHp, RK.own, bcs_len, bcs_getE, *]))
              | ((with_reducible refine swp_ret ?_); (try simp only [qseq_r, qblock_r, qloop_r]))
              | ((with_reducible refine swp_cond rfl (fun h => ?_) (fun h => ?_)) <;> have h' := h <;> (try simp at h') <;> (try subst h'))
              | ((with_reducible refine sopsg_cases (fun h => ?_) (fun h => ?_)) <;> have h' := h <;> (try simp at h') <;> (try subst h') <;> simp -implicitDefEqProofs [bHp, RK.own, bcs_len, bcs_getE, *])
              | ((with_reducible refine draw_ok ?_ ?_); (focus rfl))
              | ((with_reducible refine sopsk_rg ?_ ?_); (first | omega | (unfold maxLen; omega)); simp -implicitDefEqProofs [bHp, RK.own, bcs_len, bcs_getE, *])
              | (with_reducible refine swp_block1 ?_)
              | (with_reducible refine swp_block2 ?_)
              | ((rw [i64_add_ (by omega) (by omega)]; refine qloop_next (wk_list [(0, 0), (1, 1), (2, 2), (3, 3), (9, 9), (10, 10), (11, 11), (12, 12), (13, 13), (14, 14)] hm rfl (by simp) ?_ ?_) ⟨i + 1, rfl, by omega, ?_, rfl⟩ (by omega); (focus (simp -implicitDefEqProofs; done)); (focus (exact bHp_to ⟨_, rfl, rfl, .refl _⟩ ⟨_, rfl, rfl, .refl _⟩ ⟨_, rfl, rfl, .refl _⟩ ⟨_, rfl, rfl, .refl _⟩ rfl rfl rfl rfl rfl ⟨_, rfl, rfl, .refl _⟩)))))
          rw [slotsAll_succ, h8, List.getD_eq_getElem?_getD, List.getElem?_eq_getElem hlt, hb]; rfl
      · obtain rfl : i = K := by omega
        have hyes : rBehind tabs x k = ((k.sl (slotsSet k.slot D A)).to_ R knSome, 0) := by rw [hd.out]; unfold rCall; rw [hS, hK, hD, hA, hR, Int.toNat_natCast, Int.toNat_natCast, Int.toNat_natCast, Int.toNat_natCast, Int.toNat_natCast, h8]; rfl
        replace hyes := Lib.hid hyes
        repeat' (first
            | (with_reducible refine swp_seq ?_)
            | ((with_reducible refine swp_reg ?_); (try rw [hP]); simp -implicitDefEqProofs [bHp, *])
            | ((with_reducible refine swp_regd (by rw [hP]; exact mixed) ?_); (try rw [hP]); simp -implicitDefEqProofs [bHp, *])
            | ((with_reducible refine swp_skip ?_); (try simp -implicitDefEqProofs [bHp, *]))
            | ((with_reducible refine swp_exit ?_); (try simp -implicitDefEqProofs [bHp, *]))
            | ((with_reducible refine swp_ret ?_); (try simp only [qseq_r, qblock_r, qloop_r]))
            | ((with_reducible refine swp_cond rfl (fun h => ?_) (fun h => ?_)) <;> have h' := h <;> (try simp at h') <;> (try subst h'))
            | ((with_reducible refine sopsg_cases (fun h => ?_) (fun h => ?_)) <;> have h' := h <;> (try simp at h') <;> (try subst h') <;> simp -implicitDefEqProofs [bHp, *])
            | ((with_reducible refine draw_ok ?_ ?_); (focus rfl))
            | ((with_reducible refine sopsk_rg ?_ ?_); (first | omega | (unfold maxLen; omega)); simp -implicitDefEqProofs [bHp, *])
            | (with_reducible refine swp_block1 ?_)
            | (with_reducible refine swp_block2 ?_))
        refine swp_block (swp_loop (fun s' m => ∃ j : Nat, s' = ⟨[(4, .ptr 1 0), (5, .ptr 2 0), (6, .ptr 3 0), (15, .ptr 14 0), (17, .int .i64 j)], bHp slots tabs code x k R S D n i A tt.acts (slotsSet k.slot D j), 15⟩ ∧ j ≤ A ∧ m = A - j) (wk_list [(0, 0), (1, 1), (2, 2), (3, 3), (9, 9), (10, 10), (11, 11), (12, 12), (13, 13), (14, 14)] hm rfl (by simp) (by simp -implicitDefEqProofs) (by exact bHp_to ⟨_, rfl, rfl, .refl _⟩ ⟨_, rfl, rfl, .refl _⟩ ⟨_, rfl, rfl, .refl _⟩ ⟨_, rfl, rfl, .refl _⟩ rfl rfl rfl rfl rfl ⟨_, rfl, rfl, .refl _⟩)) ⟨0, rfl, by omega, rfl⟩ ?_)
        rintro s' m ⟨j, rfl, h9, rfl⟩
        unfold c_behind_l3
        have hsl : (slotsSet k.slot D j).length = k.slot.length := slotsSet_len _ _ _
        rcases Nat.lt_or_ge j A with hj | hj
        · have hlt : D + j < (slotsSet k.slot D j).length := by rw [hsl]; have := hks.out; omega
          have hlt2 : D + j < k.slot.length := by rw [← hsl]; exact hlt
          have g1 := bcs_get hlt
          have g2 : IntKind.i64.wrap ((D : Int) + j) = ((D + j : Nat) : Int) := by rw [i64_add_ (by omega) (by omega)]; omega
          have g4 : ((D : Int) + (j : Int)).toNat = D + j := by omega
          repeat' (first
              | (with_reducible refine swp_seq ?_)
              | ((with_reducible refine swp_reg ?_); (try rw [hP]); simp -implicitDefEqProofs [bHp, RK.own, bcs_len, bcs_getE, bcs_set, *])
              | ((with_reducible refine swp_regd (by rw [hP]; exact mixed) ?_); (try rw [hP]); simp -implicitDefEqProofs [bHp, RK.own, bcs_len, bcs_getE, bcs_set, *])
              | ((with_reducible refine swp_skip ?_); (try simp -implicitDefEqProofs [bHp, RK.own, bcs_len, bcs_getE, bcs_set, *]))
              | ((with_reducible refine swp_exit ?_); (try simp -implicitDefEqProofs [bHp, RK.own, bcs_len, bcs_getE, bcs_set, *]))
              | ((with_reducible refine swp_ret ?_); (try simp only [qseq_r, qblock_r, qloop_r]))
              | ((with_reducible refine swp_cond rfl (fun h => ?_) (fun h => ?_)) <;> have h' := h <;> (try simp at h') <;> (try subst h'))
              | ((with_reducible refine sopsg_cases (fun h => ?_) (fun h => ?_)) <;> have h' := h <;> (try simp at h') <;> (try subst h') <;> simp -implicitDefEqProofs [bHp, RK.own, bcs_len, bcs_getE, bcs_set, *])
              | ((with_reducible refine draw_ok ?_ ?_); (focus rfl))
              | ((with_reducible refine sopsk_rg ?_ ?_); (first | omega | (unfold maxLen; omega)); simp -implicitDefEqProofs [bHp, RK.own, bcs_len, bcs_getE, bcs_set, *])
              | (with_reducible refine swp_block1 ?_)
              | (with_reducible refine swp_block2 ?_)
              | ((rw [i64_add_ (by omega) (by omega)]; refine qloop_next (wk_list [(0, 0), (1, 1), (2, 2), (3, 3), (9, 9), (10, 10), (11, 11), (12, 12), (13, 13), (14, 14)] hm rfl (by simp) ?_ ?_) ⟨j + 1, rfl, by omega, rfl⟩ (by omega); (focus (simp -implicitDefEqProofs; done)); (focus (exact bHp_to ⟨_, rfl, rfl, .refl _⟩ ⟨_, rfl, rfl, .refl _⟩ ⟨_, rfl, rfl, .refl _⟩ ⟨_, rfl, rfl, .refl _⟩ rfl rfl rfl rfl rfl ⟨_, rfl, rfl, .refl _⟩)))))
        · obtain rfl : j = A := by omega
          have hk' : (k.sl (slotsSet k.slot D j)).Ten := ⟨hk.set, hk.just, hk.num, hk.room, by show (slotsSet k.slot D j).length ≤ 96; rw [hsl]; exact hk.slot⟩
          have hc := fun q hq => call_rsome (k.sl (slotsSet k.slot D j)) hk' R hR10 9 q hq
          unfold RK.own RK.hp RK.sl RK.put at hc
          simp only [hsl] at hc
          replace hsl := Lib.hid hsl
          repeat' (first
              | (with_reducible refine swp_seq ?_)
              | ((with_reducible refine swp_reg ?_); (try rw [hP]); simp -implicitDefEqProofs [bHp, RK.own, *])
              | ((with_reducible refine swp_regd (by rw [hP]; exact mixed) ?_); (try rw [hP]); simp -implicitDefEqProofs [bHp, RK.own, *])
              | ((with_reducible refine swp_skip ?_); (try simp -implicitDefEqProofs [bHp, RK.own, *]))
              | ((with_reducible refine swp_exit ?_); (try simp -implicitDefEqProofs [bHp, RK.own, *]))
              | ((with_reducible refine swp_ret ?_); (try simp only [qseq_r, qblock_r, qloop_r]))
              | ((with_reducible refine swp_cond rfl (fun h => ?_) (fun h => ?_)) <;> have h' := h <;> (try simp at h') <;> (try subst h'))
              | ((with_reducible refine sopsg_cases (fun h => ?_) (fun h => ?_)) <;> have h' := h <;> (try simp at h') <;> (try subst h') <;> simp -implicitDefEqProofs [bHp, RK.own, *])
              | ((with_reducible refine draw_ok ?_ ?_); (focus rfl))
              | ((with_reducible refine sopsk_rg ?_ ?_); (first | omega | (unfold maxLen; omega)); simp -implicitDefEqProofs [bHp, RK.own, *])
              | (with_reducible refine swp_block1 ?_)
              | (with_reducible refine swp_block2 ?_)
              | (refine call_h (hc _ (by simp)) ⟨rfl, rfl, rfl, rfl, rfl, trivial⟩ ⟨rfl, rfl, rfl, rfl, rfl, trivial⟩ ?_; simp -implicitDefEqProofs [bHp, RK.own, *])
              | (refine finOk _ _ _ _ _ _ _ _ _ _ ?_))
          refine ⟨?_, by simp, by simp, by simp, by simp, hsl.out⟩
          rw [hyes.out]
          rfl
    have hs0 := hx.s h13
    obtain ⟨S, hS⟩ : ∃ n : Nat, x.s = n := ⟨x.s.toNat, by omega⟩
    have hS10 : S < 10 := by omega
    have w1 : S < k.set.length := by rw [hk.set]; exact hS10
    have w2 : S < k.just.length := by rw [hk.just]; exact hS10
    have w3 : S < k.num.length := by rw [hk.num]; exact hS10
    have w4 : S < k.room.length := by rw [hk.room]; exact hS10
    have hk6 := hx.k6
    have hn7 := hx.n7
    have hsl := hx.sl
    replace hx := Lib.hid hx
    have y1 : R < k.set.length := by rw [hk.set]; exact hR10
    have y2 : R < k.just.length := by rw [hk.just]; exact hR10
    have y3 : R < k.num.length := by rw [hk.num]; exact hR10
    have y4 : R < k.room.length := by rw [hk.room]; exact hR10
    have a1 := bcs_get y1
    have a2 := bcs_get y2
    have a3 := ucs_get y3
    have a4 := ics_get y4
    have b1 := bcs_get w1
    have b2 := bcs_get w2
    have b3 := ucs_get w3
    have b4 := ics_get w4
    have c0 : x.op = 7 ∨ x.op = 8 → n < k.slot.length := fun h => by have := hn7 h; omega
    have c1 : x.op = 7 → n < k.slot.length := fun h => c0 (.inl h)
    have c2 : x.op = 8 → n < k.slot.length := fun h => c0 (.inr h)
    have c3 : x.op = 7 → (bcs k.slot)[n]? = some [.bool (k.slot.getD n false)] := fun h => by rw [getD_b (c1 h)]; exact bcs_get (c1 h)
    have c4 : x.op = 8 → (bcs k.slot)[n]? = some [.bool (k.slot.getD n false)] := fun h => by rw [getD_b (c2 h)]; exact bcs_get (c2 h)
    clear c0
    have c5 : x.op = 6 → IntKind.i64.wrap (n : Int) = n := fun h => by have := hk6 h; exact IntWalk.i64_in _ ⟨by omega, by omega⟩
    have c6 : x.op = 6 → IntKind.i64.wrap ((n : Int) + x.k) = n + x.k := fun h => by have := hk6 h; exact IntWalk.i64_in _ ⟨by omega, by omega⟩
    have t1 : ∀ v, (bcs (k.set.set R v))[R]? = some [.bool v] := fun v => by unfold bcs; simp [y1]
    have t2 : ∀ v, (bcs (k.just.set R v))[R]? = some [.bool v] := fun v => by unfold bcs; simp [y2]
    have t3 : ∀ v, (ucs (k.num.set R v))[R]? = some [.int .u64 v] := fun v => by unfold ucs; simp [y3]
    have t4 : ∀ v, (ics (k.room.set R v))[R]? = some [.int .i64 v] := fun v => by unfold ics; simp [y4]
    have hd : rBehind tabs x k = if x.op = 1 then (k.to_ x.r.toNat ⟨true, true, x.n, if x.n = 0 then 0 else -1⟩, 0)
      else if x.op = 2 then (k.to_ x.r.toNat ⟨true, (k.kn x.s.toNat).just, (k.kn x.s.toNat).n, (k.kn x.s.toNat).room⟩, 0)
      else if x.op = 3 then (k.to_ x.r.toNat (knBin x.k (k.kn x.r.toNat) (k.kn x.s.toNat)), 0)
      else if x.op = 4 ∨ x.op = 5 ∨ x.op = 18 then (k.to_ x.r.toNat knSome, 0)
      else if x.op = 6 then if (k.kn x.s.toNat).room < x.n + x.k then (k, 16) else (k.to_ x.r.toNat knSome, 0)
      else if x.op = 7 then if k.slot.getD x.n.toNat false then (k.to_ x.r.toNat knSome, 0) else (k, 15)
      else if x.op = 8 then (k.sl (k.slot.set x.n.toNat true), 0)
      else if x.op = 13 then rCall (nth tabs x.n.toNat) x k
      else if x.op = 15 then if (k.kn x.r.toNat).room < 0 then (k, 16) else (k, 0)
      else (k, 0) := by unfold rBehind; rw [if_neg (by rw [hl, hu.out]; simp)]
    replace hd := Lib.hid hd
    have ekR : k.kn R = ⟨k.set[R], k.just[R], k.num[R], k.room[R]⟩ := by unfold RK.kn; rw [getD_b y1, getD_b y2, getD_i y3, getD_i y4]
    have ekS : k.kn S = ⟨k.set[S], k.just[S], k.num[S], k.room[S]⟩ := by unfold RK.kn; rw [getD_b w1, getD_b w2, getD_i w3, getD_i w4]
    replace ekR := Lib.hid ekR
    replace ekS := Lib.hid ekS
    replace hq := Lib.hid hq
    replace hq2 := Lib.hid hq2
    repeat' (first
        | (with_reducible refine swp_seq ?_)
        | ((with_reducible refine swp_reg ?_); (try rw [hP]); simp -implicitDefEqProofs [icv, iv, pcv, RK.cv, RK.own, RK.hp, RK.put, bcs_set, ucs_set, ics_set, List.set_set, *])
        | ((with_reducible refine swp_regd (by rw [hP]; exact mixed) ?_); (try rw [hP]); simp -implicitDefEqProofs [icv, iv, pcv, RK.cv, RK.own, RK.hp, RK.put, bcs_set, ucs_set, ics_set, List.set_set, *])
        | ((with_reducible refine swp_skip ?_); (try simp -implicitDefEqProofs [icv, iv, pcv, RK.cv, RK.own, RK.hp, RK.put, bcs_set, ucs_set, ics_set, List.set_set, *]))
        | ((with_reducible refine swp_exit ?_); (try simp -implicitDefEqProofs [icv, iv, pcv, RK.cv, RK.own, RK.hp, RK.put, bcs_set, ucs_set, ics_set, List.set_set, *]))
        | ((with_reducible refine swp_ret ?_); (try simp only [qseq_r, qblock_r, qloop_r]))
        | ((with_reducible refine swp_cond rfl (fun h => ?_) (fun h => ?_)) <;> have h' := h <;> (try simp at h') <;> (try subst h'))
        | ((with_reducible refine sopsg_cases (fun h => ?_) (fun h => ?_)) <;> have h' := h <;> (try simp at h') <;> (try subst h') <;> simp -implicitDefEqProofs [icv, iv, pcv, RK.cv, RK.own, RK.hp, RK.put, bcs_set, ucs_set, ics_set, List.set_set, *])
        | ((with_reducible refine draw_ok ?_ ?_); (focus rfl))
        | ((with_reducible refine sopsk_rg ?_ ?_); (first | omega | (unfold maxLen; omega)); simp -implicitDefEqProofs [icv, iv, pcv, RK.cv, RK.own, RK.hp, RK.put, bcs_set, ucs_set, ics_set, List.set_set, *])
        | (with_reducible refine swp_block1 ?_)
        | (with_reducible refine swp_block2 ?_)
        | (refine call_h (call_okn k hk.small _) trivial ⟨rfl, rfl, rfl, rfl, rfl, trivial⟩ ?_; simp -implicitDefEqProofs [icv, iv, pcv, RK.cv, RK.own, RK.hp, RK.put, bcs_set, ucs_set, ics_set, List.set_set, *])
        | (refine call_h (call_rsome k hk R hR10 _ _ (by simp)) ⟨rfl, rfl, rfl, rfl, rfl, trivial⟩ ⟨rfl, rfl, rfl, rfl, rfl, trivial⟩ ?_; simp -implicitDefEqProofs [icv, iv, pcv, RK.cv, RK.own, RK.hp, RK.put, bcs_set, ucs_set, ics_set, List.set_set, *])
        | ((refine absurd ?_ h13; (focus (assumption; done))))
        | (refine finOk _ _ _ _ _ _ _ _ _ _ ?_)
        | (refine finBad _ _ _ _ _ _ _ _ _ _ _ _ ?_))
    all_goals try (refine ⟨?_, by simp, by simp, by simp, by simp, by simp⟩; rw [hd.out]; clear finOk finBad a1 a2 a3 a4 b1 b2 b3 b4 t1 t2 t3 t4 c3 c4 c5 c6; simp [RK.to_, RK.put, RK.sl, knSome, knBin, ekR.out, ekS.out, *]; done)
    all_goals try (refine ⟨?_, by decide⟩; rw [hd.out]; clear finOk finBad a1 a2 a3 a4 b1 b2 b3 b4 t1 t2 t3 t4 c3 c4 c5 c6; simp [ekR.out, ekS.out, *]; done)
    all_goals try (refine ⟨?_, by simp, by simp, by simp, by simp, by simp⟩; rw [hd.out]; clear finOk finBad a1 a2 a3 a4 b1 b2 b3 b4 t1 t2 t3 t4 c3 c4 c5 c6; simp [RK.to_, RK.put, RK.sl, knSome, knBin, ekR.out, ekS.out, *]; rw [if_neg (by omega)]; done)
end Go.Proofs.Ytfakdapglbgokaa

/-
  The reference of package guard, in the plain machine: nothing; calls of behind. No condition.
-/
namespace Go.Proofs.Ytfakdapglbgokaa
set_option linter.all false
open Go.RowKit
attribute [local simp] sops_nil sops_run sopsk_some sops_call sops_guard sopsg_yes sopsg_tf sopsg_ft sopsg_undef rg_true SOp.run SX.ev putd puts argS upds SOp.touch SSt.keep SSt.skip gets geth puth delh idOf SV.cells? setL fillS fillR sbin eq0 eq1 eqL rowOf qseq_n qseq_e qseq_r qblock_n qblock_r qblock_e qloop_e qloop_r take_map_len FrzOk pureV_int pureV_bool pureV_str pureV_nil pureV_nilsl pureV_view pureV_cp pureL_nil_ pureL_cons_ pureO_row pureO_cells frzS frzH frz frz1 frz0 SlotsM ObjsM ObjM rn ren ren1 ren0 co_self co_int co_own co_view co_nilsl co_agg co_tup CoL coll_self mergeH dels adds idsH okNames
def rkFirst (n : Nat) : RK := ⟨true, List.replicate 10 false, List.replicate 10 false, List.replicate 10 0, List.replicate 10 (-1), List.replicate n false⟩
theorem bcs_repl (n : Nat) (b : Bool) : List.replicate n [SV.bool b] = bcs (List.replicate n b) := by unfold bcs; rw [List.map_replicate]
theorem ucs_repl (n : Nat) (b : Int) : List.replicate n [SV.int .u64 b] = ucs (List.replicate n b) := by unfold ucs; rw [List.map_replicate]
theorem ics_repl (n : Nat) (b : Int) : List.replicate n [SV.int .i64 b] = ics (List.replicate n b) := by unfold ics; rw [List.map_replicate]
theorem ics_app (n : Nat) : ics (List.replicate n (-1)) ++ [[SV.int .i64 (-1)]] = ics (List.replicate (n + 1) (-1)) := by unfold ics; rw [List.replicate_succ', List.map_append]; rfl
instance (l : List Bool) : PureR (bcs l) := pureR_map (fun b : Bool => [SV.bool b]) l
instance (l : List Int) : PureR (ucs l) := pureR_map (fun b : Int => [SV.int .u64 b]) l
instance (l : List Int) : PureR (ics l) := pureR_map (fun b : Int => [SV.int .i64 b]) l
theorem nothing_s (n : Nat) (hn : n ≤ 96) : SCalls Try.prog 118 [.int .i64 n] [] 0 (.agg ((rkFirst n).own 0)) ((rkFirst n).hp 0) := by
  refine scalls_of (N := 21) Try.func118 rfl rfl (by kernel_rfl) comp_c_nothing (by simp) ⟨rfl, trivial⟩ trivial ?_
  rintro X hP hN hm
  unfold c_nothing
  repeat' (first
      | (with_reducible refine swp_seq ?_)
      | ((with_reducible refine swp_reg ?_); (try rw [hP]); simp -implicitDefEqProofs [bcs_repl, ucs_repl, *])
      | ((with_reducible refine swp_regd (by rw [hP]; exact mixed) ?_); (try rw [hP]); simp -implicitDefEqProofs [bcs_repl, ucs_repl, *])
      | ((with_reducible refine swp_skip ?_); (try simp -implicitDefEqProofs [bcs_repl, ucs_repl, *]))
      | ((with_reducible refine swp_exit ?_); (try simp -implicitDefEqProofs [bcs_repl, ucs_repl, *]))
      | ((with_reducible refine swp_ret ?_); (try simp only [qseq_r, qblock_r, qloop_r]))
      | ((with_reducible refine swp_cond rfl (fun h => ?_) (fun h => ?_)) <;> have h' := h <;> (try simp at h') <;> (try subst h'))
      | ((with_reducible refine sopsg_cases (fun h => ?_) (fun h => ?_)) <;> have h' := h <;> (try simp at h') <;> (try subst h') <;> simp -implicitDefEqProofs [bcs_repl, ucs_repl, *])
      | ((with_reducible refine draw_ok ?_ ?_); (focus rfl))
      | ((with_reducible refine sopsk_rg ?_ ?_); (first | omega | (unfold maxLen; omega)); simp -implicitDefEqProofs [bcs_repl, ucs_repl, *])
      | (with_reducible refine swp_block1 ?_)
      | (with_reducible refine swp_block2 ?_)
      | ((with_reducible refine wk_self [] hm ?_ ?_ ?_ ?_) <;> (try simp only [SSt.turn, setSs, setS, putHs, puth, Nat.reduceEqDiff, reduceIte, Nat.reduceAdd]))
      | (with_reducible exact slotsM_nil)
      | (with_reducible refine slotsM_cons ?_ ?_)
      | (with_reducible exact objsM_nil)
      | (with_reducible refine objsM_cells (cs := ?_) ?_ ?_ ?_)
      | (with_reducible refine objsM_rowm (es := ?_) ?_ ?_ ?_)
      | (with_reducible refine objsM_rowc (es := ?_) ?_ ?_ ?_)
      | (with_reducible refine objsM_abs ?_ ?_)
      | (with_reducible exact subH_nil)
      | (with_reducible refine subH_cons ?_ ?_)
      | ((with_reducible show geth _ _ = some _); (focus rfl))
      | ((with_reducible show (_ : List (List SV)) = _); (focus (first | (with_reducible rfl) | rfl | (simp; done))))
      | ((with_reducible show okNames _ _ _ _ = true); (focus rfl))
      | ((with_reducible show (_ : Nat) ≤ _); (focus (first | omega | (simp; done))))
      | ((with_reducible show (_ : Nat) < _); (focus omega))
      | (refine co_wrap ⟨?_, ?_⟩ ?_ <;> (focus omega))
      | (with_reducible exact Co.refl _)
      | (with_reducible exact CoL.refl _)
      | (with_reducible exact CoLL.refl _)
      | (exact Co.refl _)
      | (exact CoL.refl _)
      | (exact CoLL.refl _)
      | (refine co_own ?_; (focus omega))
      | (refine co_int ?_; (focus omega))
      | (with_reducible refine coL_cons ?_ ?_)
      | (with_reducible exact coL_nilm)
      | (with_reducible refine coL_consm ?_ ?_))
  refine swp_wk (wk_adoptc 7 4 3 1 rfl rfl) ?_
  simp -implicitDefEqProofs
  refine swp_block (swp_for (fun s (i : Nat) => s.turn [(4, .int .i64 i)] [(7, .cells 162 [.bool true, .own 1 10, .own 2 10, .own 3 10, .own 10 i, .own 5 n]), (10, .row 3 1 (ics (List.replicate i (-1))))]) (fun i => i ≤ 10) (fun i => 10 - i) 0 ?_ (by simp) ?_)
  · repeat' (first
      | ((with_reducible refine wk_self [] hm ?_ ?_ ?_ ?_) <;> (try simp only [SSt.turn, setSs, setS, putHs, puth, Nat.reduceEqDiff, reduceIte, Nat.reduceAdd]))
      | (with_reducible exact slotsM_nil)
      | (with_reducible refine slotsM_cons ?_ ?_)
      | (with_reducible exact objsM_nil)
      | (with_reducible refine objsM_cells (cs := ?_) ?_ ?_ ?_)
      | (with_reducible refine objsM_rowm (es := ?_) ?_ ?_ ?_)
      | (with_reducible refine objsM_rowc (es := ?_) ?_ ?_ ?_)
      | (with_reducible refine objsM_abs ?_ ?_)
      | (with_reducible exact subH_nil)
      | (with_reducible refine subH_cons ?_ ?_)
      | ((with_reducible show geth _ _ = some _); (focus rfl))
      | ((with_reducible show (_ : List (List SV)) = _); (focus (first | (with_reducible rfl) | rfl | (simp; done))))
      | ((with_reducible show okNames _ _ _ _ = true); (focus rfl))
      | ((with_reducible show (_ : Nat) ≤ _); (focus (first | omega | (simp; done))))
      | ((with_reducible show (_ : Nat) < _); (focus omega))
      | (refine co_wrap ⟨?_, ?_⟩ ?_ <;> (focus omega))
      | (with_reducible exact Co.refl _)
      | (with_reducible exact CoL.refl _)
      | (with_reducible exact CoLL.refl _)
      | (exact Co.refl _)
      | (exact CoL.refl _)
      | (exact CoLL.refl _)
      | (refine co_own ?_; (focus omega))
      | (refine co_int ?_; (focus omega))
      | (with_reducible refine coL_cons ?_ ?_)
      | (with_reducible exact coL_nilm)
      | (with_reducible refine coL_consm ?_ ?_))
  rintro J hJ i hi
  unfold c_nothing_l1
  simp only [SSt.turn, setSs, setS, putHs, puth, Nat.reduceEqDiff, reduceIte, Nat.reduceAdd]
  rcases Nat.lt_or_ge i 10 with h | h
  · have z1 : (i : Int) < 10 := by omega
    repeat' (first
        | (with_reducible refine swp_seq ?_)
        | ((with_reducible refine swp_reg ?_); (try rw [hP]); simp -implicitDefEqProofs [ics_app, ics_len, List.length_replicate, *])
        | ((with_reducible refine swp_regd (by rw [hP]; exact mixed) ?_); (try rw [hP]); simp -implicitDefEqProofs [ics_app, ics_len, List.length_replicate, *])
        | ((with_reducible refine swp_skip ?_); (try simp -implicitDefEqProofs [ics_app, ics_len, List.length_replicate, *]))
        | ((with_reducible refine swp_exit ?_); (try simp -implicitDefEqProofs [ics_app, ics_len, List.length_replicate, *]))
        | ((with_reducible refine swp_ret ?_); (try simp only [qseq_r, qblock_r, qloop_r]))
        | ((with_reducible refine swp_cond rfl (fun h => ?_) (fun h => ?_)) <;> have h' := h <;> (try simp at h') <;> (try subst h'))
        | ((with_reducible refine sopsg_cases (fun h => ?_) (fun h => ?_)) <;> have h' := h <;> (try simp at h') <;> (try subst h') <;> simp -implicitDefEqProofs [ics_app, ics_len, List.length_replicate, *])
        | ((with_reducible refine draw_ok ?_ ?_); (focus rfl))
        | ((with_reducible refine sopsk_rg ?_ ?_); (first | omega | (unfold maxLen; omega)); simp -implicitDefEqProofs [ics_app, ics_len, List.length_replicate, *])
        | (with_reducible refine swp_block1 ?_)
        | (with_reducible refine swp_block2 ?_)
        | ((with_reducible refine wk_self [] hm ?_ ?_ ?_ ?_) <;> (try simp only [SSt.turn, setSs, setS, putHs, puth, Nat.reduceEqDiff, reduceIte, Nat.reduceAdd]))
        | (with_reducible exact slotsM_nil)
        | (with_reducible refine slotsM_cons ?_ ?_)
        | (with_reducible exact objsM_nil)
        | (with_reducible refine objsM_cells (cs := ?_) ?_ ?_ ?_)
        | (with_reducible refine objsM_rowm (es := ?_) ?_ ?_ ?_)
        | (with_reducible refine objsM_rowc (es := ?_) ?_ ?_ ?_)
        | (with_reducible refine objsM_abs ?_ ?_)
        | (with_reducible exact subH_nil)
        | (with_reducible refine subH_cons ?_ ?_)
        | ((with_reducible show geth _ _ = some _); (focus rfl))
        | ((with_reducible show (_ : List (List SV)) = _); (focus (first | (with_reducible rfl) | rfl | (simp; done))))
        | ((with_reducible show okNames _ _ _ _ = true); (focus rfl))
        | ((with_reducible show (_ : Nat) ≤ _); (focus (first | omega | (simp; done))))
        | ((with_reducible show (_ : Nat) < _); (focus omega))
        | (refine co_wrap ⟨?_, ?_⟩ ?_ <;> (focus omega))
        | (with_reducible exact Co.refl _)
        | (with_reducible exact CoL.refl _)
        | (with_reducible exact CoLL.refl _)
        | (exact Co.refl _)
        | (exact CoL.refl _)
        | (exact CoLL.refl _)
        | (refine co_own ?_; (focus omega))
        | (refine co_int ?_; (focus omega))
        | (with_reducible refine coL_cons ?_ ?_)
        | (with_reducible exact coL_nilm)
        | (with_reducible refine coL_consm ?_ ?_)
        | ((refine qfor_next hJ (i + 1) ?_ ?_ ?_; (with_reducible refine wk_self [(10, ?_)] hm ?_ ?_ ?_ ?_) <;> (try simp only [SSt.turn, setSs, setS, putHs, puth, Nat.reduceEqDiff, reduceIte, Nat.reduceAdd]))))
  · obtain rfl : i = 10 := by omega
    repeat' (first
        | (with_reducible refine swp_seq ?_)
        | ((with_reducible refine swp_reg ?_); (try rw [hP]); simp -implicitDefEqProofs [*])
        | ((with_reducible refine swp_regd (by rw [hP]; exact mixed) ?_); (try rw [hP]); simp -implicitDefEqProofs [*])
        | ((with_reducible refine swp_skip ?_); (try simp -implicitDefEqProofs [*]))
        | ((with_reducible refine swp_exit ?_); (try simp -implicitDefEqProofs [*]))
        | ((with_reducible refine swp_ret ?_); (try simp only [qseq_r, qblock_r, qloop_r]))
        | ((with_reducible refine swp_cond rfl (fun h => ?_) (fun h => ?_)) <;> have h' := h <;> (try simp at h') <;> (try subst h'))
        | ((with_reducible refine sopsg_cases (fun h => ?_) (fun h => ?_)) <;> have h' := h <;> (try simp at h') <;> (try subst h') <;> simp -implicitDefEqProofs [*])
        | ((with_reducible refine draw_ok ?_ ?_); (focus rfl))
        | ((with_reducible refine sopsk_rg ?_ ?_); (first | omega | (unfold maxLen; omega)); simp -implicitDefEqProofs [*])
        | (with_reducible refine swp_block1 ?_)
        | (with_reducible refine swp_block2 ?_)
        | ((with_reducible refine wk_self [] hm ?_ ?_ ?_ ?_) <;> (try simp only [SSt.turn, setSs, setS, putHs, puth, Nat.reduceEqDiff, reduceIte, Nat.reduceAdd]))
        | (with_reducible exact slotsM_nil)
        | (with_reducible refine slotsM_cons ?_ ?_)
        | (with_reducible exact objsM_nil)
        | (with_reducible refine objsM_cells (cs := ?_) ?_ ?_ ?_)
        | (with_reducible refine objsM_rowm (es := ?_) ?_ ?_ ?_)
        | (with_reducible refine objsM_rowc (es := ?_) ?_ ?_ ?_)
        | (with_reducible refine objsM_abs ?_ ?_)
        | (with_reducible exact subH_nil)
        | (with_reducible refine subH_cons ?_ ?_)
        | ((with_reducible show geth _ _ = some _); (focus rfl))
        | ((with_reducible show (_ : List (List SV)) = _); (focus (first | (with_reducible rfl) | rfl | (simp; done))))
        | ((with_reducible show okNames _ _ _ _ = true); (focus rfl))
        | ((with_reducible show (_ : Nat) ≤ _); (focus (first | omega | (simp; done))))
        | ((with_reducible show (_ : Nat) < _); (focus omega))
        | (refine co_wrap ⟨?_, ?_⟩ ?_ <;> (focus omega))
        | (with_reducible exact Co.refl _)
        | (with_reducible exact CoL.refl _)
        | (with_reducible exact CoLL.refl _)
        | (exact Co.refl _)
        | (exact CoL.refl _)
        | (exact CoLL.refl _)
        | (refine co_own ?_; (focus omega))
        | (refine co_int ?_; (focus omega))
        | (with_reducible refine coL_cons ?_ ?_)
        | (with_reducible exact coL_nilm)
        | (with_reducible refine coL_consm ?_ ?_))
    refine qfun_done (s' := ⟨[(2, .ptr 5 0)], (5, .cells 162 ((rkFirst n).own 0)) :: (rkFirst n).hp 0, 6⟩) (wk_self [(5, ?_), (0, ?_), (1, ?_), (2, ?_), (3, ?_), (4, ?_)] hm ?_ ?_ ?_ ?_) ?_ ⟨rfl, rfl, rfl, rfl, rfl, trivial⟩ (by simp)
    all_goals try simp only [RK.hp, RK.own, rkFirst, List.cons_append, List.nil_append, List.length_replicate]
    repeat' (first
        | ((with_reducible refine wk_self [] hm ?_ ?_ ?_ ?_) <;> (try simp only [SSt.turn, setSs, setS, putHs, puth, Nat.reduceEqDiff, reduceIte, Nat.reduceAdd]))
        | (with_reducible exact slotsM_nil)
        | (with_reducible refine slotsM_cons ?_ ?_)
        | (with_reducible exact objsM_nil)
        | (with_reducible refine objsM_cells (cs := ?_) ?_ ?_ ?_)
        | (with_reducible refine objsM_rowm (es := ?_) ?_ ?_ ?_)
        | (with_reducible refine objsM_rowc (es := ?_) ?_ ?_ ?_)
        | (with_reducible refine objsM_abs ?_ ?_)
        | (with_reducible exact subH_nil)
        | (with_reducible refine subH_cons ?_ ?_)
        | ((with_reducible show geth _ _ = some _); (focus rfl))
        | ((with_reducible show (_ : List (List SV)) = _); (focus (first | (with_reducible rfl) | rfl | (simp; done))))
        | ((with_reducible show okNames _ _ _ _ = true); (focus rfl))
        | ((with_reducible show (_ : Nat) ≤ _); (focus (first | omega | (simp; done))))
        | ((with_reducible show (_ : Nat) < _); (focus omega))
        | (refine co_wrap ⟨?_, ?_⟩ ?_ <;> (focus omega))
        | (with_reducible exact Co.refl _)
        | (with_reducible exact CoL.refl _)
        | (with_reducible exact CoLL.refl _)
        | (exact Co.refl _)
        | (exact CoL.refl _)
        | (exact CoLL.refl _)
        | (refine co_own ?_; (focus omega))
        | (refine co_int ?_; (focus omega))
        | (with_reducible refine coL_cons ?_ ?_)
        | (with_reducible exact coL_nilm)
        | (with_reducible refine coL_consm ?_ ?_))
    simp -implicitDefEqProofs [hP, resOf, resL, resV, agg_knows, size_knows, one_]
end Go.Proofs.Ytfakdapglbgokaa
