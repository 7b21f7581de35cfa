/-
  Texts joined: XPfxU XPfxV XDoesA XDoesB XDoesC XDoesD. No condition.
-/
import Derived.Test.YtfakdapglbgokaaJ18
import Derived.Test.YtfakdapglbgokaaJ8
import Derived.Test.YtfakdapglbgokaaI23
/-
  Package prefix: a table whose width is none: nothing ever stands there. No condition.
-/
namespace Go.Proofs.Ytfakdapglbgokaa
set_option linter.all false
open Go.RowKit
attribute [local go_sem ↓] Go.wp_at_zero Go.wp_at_succ
/-- A table with nothing but its root. -/
def Pfx0 (w : World) (gt gr : Nat) (width most : Int) : Prop := Blk w gt 113 #[.int .i64 width, .int .i64 most, .int .i64 0, .pointer (some ⟨gr, 0, none⟩)] ∧ Blk w gr 111 #[.bool false, .int .i64 0, .slice none 0 0, .pointer none, .pointer none]
def adr0 (gr : Nat) (i : Nat) (v : Int) : Option Nat := if i = 0 ∧ v = 0 then some gr else none
theorem Pfx0.pfx {w : World} {gt gr : Nat} {width most : Int} (h : Pfx0 w gt gr width most) : Pfx w gt width most 0 (fun _ => False) (adr0 gr) (fun _ _ => noDat) := by
  refine ⟨h.1, ⟨?_, ?_, ?_, fun _ h => h.elim⟩, fun h => h, by simp [adr0]⟩
  · intro i v g e
    unfold adr0 at e
    by_cases h0 : i = 0 ∧ v = 0
    · rw [if_pos h0] at e
      cases e
      refine ⟨⟨none, 0, 0, ?_, RdL.nil_ _ _ _, Fits.of_i64 (by decide) (by decide)⟩, fun h => h⟩
      have := h.2
      simpa [ptr, noDat, adr0] using this
    · rw [if_neg h0] at e; cases e
  · intro i v j u g e1 e2
    unfold adr0 at e1 e2
    by_cases h : i = 0 ∧ v = 0
    · by_cases h2 : j = 0 ∧ u = 0
      · exact ⟨h.1.trans h2.1.symm, h.2.trans h2.2.symm⟩
      · rw [if_neg h2] at e2; cases e2
    · rw [if_neg h] at e1; cases e1
  · intro i v h
    simp [adr0] at h
theorem Pfx0.below {w w' : World} {gt gr : Nat} {width most : Int} (h : Pfx0 w gt gr width most) (hb : Below w.heap.size w w') : Pfx0 w' gt gr width most := ⟨h.1.below hb h.1.lt, h.2.below hb h.2.lt⟩
def pfxAbs0 (width most : Int) : AbsI where
  I w _ Fp b := ∃ gr, Pfx0 w b gr width most ∧ ∀ k, Fp k ↔ k = b ∨ k = gr
  lt := fun h k hk => by
    obtain ⟨gr, h1, h2⟩ := h
    rcases (h2 k).1 hk with rfl | rfl
    · exact h1.1.lt
    · exact h1.2.lt
  keep := fun {w w' A A' Fp b} h _ _ hb => by
    obtain ⟨gr, h1, h2⟩ := h
    exact ⟨gr, ⟨(hb _ ((h2 _).2 (.inl rfl))).trans h1.1, (hb _ ((h2 _).2 (.inr rfl))).trans h1.2⟩, h2⟩
theorem unfit {width key k : Int} (hw : ¬ (1 ≤ width ∧ width ≤ 64)) : pfits width key k = false := by
  unfold pfits; rw [decide_eq_false_iff_not]; omega

set_option maxRecDepth 100000 in
set_option maxHeartbeats 2000000 in
theorem pfxNew0_any (width most : Int) (w : World) :
    Calls Try.prog 17 #[.int .i64 width, .int .i64 most] w fun e w' => e = .returned (.pointer (some ⟨w.heap.size + 1, 0, none⟩)) ∧ Pfx0 w' (w.heap.size + 1) w.heap.size width most ∧ Below w.heap.size w w' := by
  go_enter Try.func17, Try.ntmps17
  go_wp2_with fail
  go_ret
  refine ⟨rfl, ⟨?_, ?_⟩, al (al (rf w) _) _⟩
  · have := Blk.new (w.alloc (.cells #[.bool false, .int .i64 0, .slice none 0 0, .pointer none, .pointer none] 111)) 113 #[.int .i64 width, .int .i64 most, .int .i64 0, .pointer (some ⟨w.heap.size, 0, none⟩)]
    simpa using this
  · exact (Blk.new w 111 #[.bool false, .int .i64 0, .slice none 0 0, .pointer none, .pointer none]).alloc (.cells #[.int .i64 width, .int .i64 most, .int .i64 0, .pointer (some ⟨w.heap.size, 0, none⟩)] 113)
set_option maxRecDepth 100000 in
set_option maxHeartbeats 2000000 in
theorem pfxAdd0_any (gt gr : Nat) (width most key k act : Int) (ao : Option Addr) (an ac : Nat) (w : World) (h : Pfx0 w gt gr width most) (hu : ¬ (1 ≤ width ∧ width ≤ 64)) (hw : Fits .i64 width) (hkey : Fits .u64 key) (hk : Fits .i64 k) :
    Calls Try.prog 20 #[.pointer (some ⟨gt, 0, none⟩), .int .u64 key, .int .i64 k, .agg #[.int .i64 act, .slice ao an ac]] w fun e w' => e = .returned (.int .i64 6) ∧ Below w.heap.size w w' := by
  have hal := al (rf w) (.cells #[.int .i64 act, .slice ao an ac] 37)
  have H1 := Lib.hid (h.pfx.below hal)
  have HF := Lib.hid (unfit (key := key) (k := k) hu)
  clear h hu
  go_enter Try.func20, Try.ntmps20
  go_wp2_with fail
  refine (pfxFits_any _ _ _ _ _ _ _ _ _ _ H1.out hw hk hkey).mono ?_
  rintro e w' ⟨rfl, rfl⟩
  rw [HF.out]
  go_wp2_with fail
  go_ret
  exact ⟨rfl, hal⟩
set_option maxRecDepth 100000 in
set_option maxHeartbeats 2000000 in
theorem pfxChg0_any (gt gr : Nat) (width most key k act : Int) (ao : Option Addr) (an ac : Nat) (w : World) (h : Pfx0 w gt gr width most) (hu : ¬ (1 ≤ width ∧ width ≤ 64)) (hw : Fits .i64 width) (hkey : Fits .u64 key) (hk : Fits .i64 k) :
    Calls Try.prog 38 #[.pointer (some ⟨gt, 0, none⟩), .int .u64 key, .int .i64 k, .agg #[.int .i64 act, .slice ao an ac]] w fun e w' => e = .returned (.int .i64 6) ∧ Below w.heap.size w w' := by
  have hal := al (rf w) (.cells #[.int .i64 act, .slice ao an ac] 37)
  have H1 := Lib.hid (h.pfx.below hal)
  have HF := Lib.hid (unfit (key := key) (k := k) hu)
  clear h hu
  go_enter Try.func38, Try.ntmps38
  go_wp2_with fail
  refine (pfxFits_any _ _ _ _ _ _ _ _ _ _ H1.out hw hk hkey).mono ?_
  rintro e w' ⟨rfl, rfl⟩
  rw [HF.out]
  go_wp2_with fail
  go_ret
  exact ⟨rfl, hal⟩
set_option maxRecDepth 100000 in
set_option maxHeartbeats 2000000 in
theorem pfxDrop0_any (gt gr : Nat) (width most key k : Int) (w : World) (h : Pfx0 w gt gr width most) (hu : ¬ (1 ≤ width ∧ width ≤ 64)) (hw : Fits .i64 width) (hkey : Fits .u64 key) (hk : Fits .i64 k) :
    Calls Try.prog 19 #[.pointer (some ⟨gt, 0, none⟩), .int .u64 key, .int .i64 k] w fun e w' => e = .returned (.int .i64 6) ∧ Below w.heap.size w w' := by
  have H1 := Lib.hid h.pfx
  have HF := Lib.hid (unfit (key := key) (k := k) hu)
  clear h hu
  go_enter Try.func19, Try.ntmps19
  go_wp2_with fail
  refine (pfxFits_any _ _ _ _ _ _ _ _ _ _ H1.out hw hk hkey).mono ?_
  rintro e w' ⟨rfl, rfl⟩
  rw [HF.out]
  go_wp2_with fail
  go_ret
  exact ⟨rfl, Below.refl _ _⟩
set_option maxRecDepth 100000 in
set_option maxHeartbeats 2000000 in
theorem pfxFind0_any (gt gr : Nat) (width most key : Int) (w : World) (h : Pfx0 w gt gr width most) (hu : ¬ (1 ≤ width ∧ width ≤ 64)) (hw : Fits .i64 width) (hkey : Fits .u64 key) :
    Calls Try.prog 23 #[.pointer (some ⟨gt, 0, none⟩), .int .u64 key] w fun e w' => e = .returned (.tuple #[.agg #[.int .i64 0, .slice none 0 0], .int .i64 0, .bool false]) ∧ Below w.heap.size w w' := by
  have hal := al (rf w) (.cells #[.int .i64 0, .slice none 0 0] 37)
  have hz0 := Blk.new w 37 #[.int .i64 0, .slice none 0 0]
  have h0 := h.1.cell 0
  simp at h0
  have hz := h.1.lt
  have H1 := Lib.hid (h.pfx.below hal)
  have HF := Lib.hid (unfit (key := key) (k := width) hu)
  clear h hu
  go_enter Try.func23, Try.ntmps23
  go_wp2_with fail
  refine (pfxFits_any _ _ _ _ _ _ _ _ _ _ H1.out hw hw hkey).mono ?_
  rintro e w' ⟨rfl, rfl⟩
  rw [HF.out]
  go_wp2_with fail
  exact bodyPost_ret (v := .tuple #[.agg #[.int .i64 0, .slice none 0 0], .int .i64 0, .bool false]) (by simp [results, Try.results23, go_sem]) rfl ⟨rfl, hal⟩
set_option maxRecDepth 100000 in
set_option maxHeartbeats 2000000 in
theorem pfxWalkNil_any (gt : Nat) (key n : Int) (v : Value) (w : World) :
    Calls Try.prog 85 #[.pointer (some ⟨gt, 0, none⟩), .pointer none, .int .u64 key, .int .i64 n, v] w fun e w' => e = .returned v ∧ w = w' := by
  go_enter Try.func85, Try.ntmps85
  go_wp2_with fail
  go_ret
  exact ⟨rfl, rfl⟩
set_option maxRecDepth 100000 in
set_option maxHeartbeats 2000000 in
theorem pfxWalk0_any (gt gr : Nat) (width most : Int) (w : World) (h : Pfx0 w gt gr width most) (hu : ¬ (1 ≤ width ∧ width ≤ 64)) (hw : Fits .i64 width) :
    Calls Try.prog 85 #[.pointer (some ⟨gt, 0, none⟩), .pointer (some ⟨gr, 0, none⟩), .int .u64 0, .int .i64 0, .slice none 0 0] w fun e w' => e = .returned (.slice none 0 0) ∧ Below w.heap.size w w' := by
  have H := Lib.hid h
  have t0 := h.1.cell 0
  have t1 := h.2.cell 0
  have t2 := h.2.cell 3
  have t3 := h.2.cell 4
  simp at t0 t1 t2 t3
  have z0 := h.1.lt
  have z1 := h.2.lt
  have hwi := hw.i64
  clear h
  by_cases hp : 0 < width
  · have hl : decide ((0 : Int) < width) = true := decide_eq_true hp
    obtain ⟨N, rfl⟩ : ∃ N : Nat, width = (N : Int) + 1 := ⟨(width - 1).toNat, by omega⟩
    have hwr2 : IntKind.i64.wrap ((N : Int) + 1 - 1) = N := by rw [Int.add_sub_cancel]; exact i64_wrap_ (by omega) (by omega)
    have hwr3 : IntKind.i64.wrap ((N : Int) - 0) = N := by rw [Int.sub_zero]; exact i64_wrap_ (by omega) (by omega)
    have hwr4 : IntKind.i64.wrap (N : Int) = N := i64_wrap_ (by omega) (by omega)
    go_enter Try.func85, Try.ntmps85
    go_wp2_with fail
    refine (pfxWalkNil_any _ _ _ _ _).mono ?_
    rintro e w' ⟨rfl, rfl⟩
    go_wp2_with fail
    go_region_law ((go_simp; go_at_call 85; refine (pfxWalkNil_any _ _ _ _ _).mono ?_; rintro e w4 ⟨rfl, rfl⟩))
    all_goals
      go_wp2_with fail
      go_ret
      exact ⟨rfl, Below.drew0_ w⟩
  · have hl : decide ((0 : Int) < width) = false := decide_eq_false hp
    go_enter Try.func85, Try.ntmps85
    go_wp2_with fail
    go_ret
    exact ⟨rfl, by first | exact Below.refl _ _ | go_grown⟩
set_option maxRecDepth 100000 in
set_option maxHeartbeats 2000000 in
theorem pfxAll0_any (gt gr : Nat) (width most : Int) (w : World) (h : Pfx0 w gt gr width most) (hu : ¬ (1 ≤ width ∧ width ≤ 64)) (hw : Fits .i64 width) :
    Calls Try.prog 24 #[.pointer (some ⟨gt, 0, none⟩)] w fun e w' => e = .returned (.slice none 0 0) ∧ Below w.heap.size w w' := by
  have H := Lib.hid h
  have g3 := h.1.cell 3
  simp at g3
  have gz := h.1.lt
  clear h
  go_enter Try.func24, Try.ntmps24
  go_wp2_with fail
  refine (pfxWalk0_any gt gr width most _ H.out hu hw).mono ?_
  rintro e w' ⟨rfl, hb⟩
  go_wp2_with fail
  go_ret
  exact ⟨rfl, hb⟩
end Go.Proofs.Ytfakdapglbgokaa

/-
  Package prefix, in the plain machine: tables of any width. No condition.
-/
namespace Go.Proofs.Ytfakdapglbgokaa
set_option linter.all false
open Go.RowKit
def okWd (width : Int) : Prop := 1 ≤ width ∧ width ≤ 64
instance (width : Int) : Decidable (okWd width) := by unfold okWd; infer_instance
def pT (width most n : Int) (E : PE) : AbsI := if okWd width then pfxAbs width most n E else pfxAbs0 width most
theorem pT_yes {width most n : Int} {E : PE} (h : okWd width) : pT width most n E = pfxAbs width most n E := if_pos h
theorem pT_no {width most n : Int} {E : PE} (h : ¬ okWd width) : pT width most n E = pfxAbs0 width most := if_neg h
theorem newT_s (width most : Int) (q : Nat) : SCalls Try.prog 17 [.int .i64 width, .int .i64 most] [] q (.ptr q 0) [(q, .abs (pT width most 0 noE))] := by
  by_cases hw : okWd width
  · rw [pT_yes hw]; exact pfxNew_s width most q
  · rw [pT_no hw]
    refine scalls_new (Enters.of Try.func17 rfl (by kernel_rfl)) (fun O w vs hO hr => ?_) (fun σ => rfl) q
    obtain ⟨us, rfl, hr1⟩ := reps_int hr
    obtain ⟨us2, rfl, hr2⟩ := reps_int hr1
    cases hr2.nil_inv
    refine (pfxNew0_any width most w).mono ?_
    rintro e w' ⟨rfl, h1, h2⟩
    refine ⟨_, fun k => k = w.heap.size + 1 ∨ k = w.heap.size, rfl, ⟨_, h1, fun k => Iff.rfl⟩, ?_, h2⟩
    rintro k (rfl | rfl) <;> omega
/-- A method that leaves a table alone. -/
theorem still0 {f : FuncId} {args : List SV} {width most : Int} {r : SV} (he : Enters Try.prog f)
    (h : ∀ (O : Nat → Prop) (gr : Nat) (w : World) (b : Nat) (vs : List Value), Pfx0 w b gr width most → (∀ k, O k → k < w.heap.size) → Reps w O noPl args vs → Calls Try.prog f (.pointer (some ⟨b, 0, none⟩) :: vs).toArray w fun e w' => ∃ v, e = .returned v ∧ Below w.heap.size w w' ∧ RepV w' O noPl r v)
    (ha : ∀ σ, args.map (ren σ) = args) (id q : Nat) : SCalls Try.prog f (.ptr id 0 :: args) [(id, .abs (pfxAbs0 width most))] q r [(id, .abs (pfxAbs0 width most))] := by
  refine scalls_in1 he (fun O Fp w b vs hI hO hd hr => ?_) ha id q
  have hlt := (pfxAbs0 width most).lt hI
  obtain ⟨gr, h1, h2⟩ := hI
  refine (h (fun k => O k ∨ Fp k) gr w b vs h1 (fun k hk => hk.elim (hO k) (hlt k)) hr).mono ?_
  rintro e w' ⟨v, rfl, hb, hv⟩
  exact ⟨v, Fp, rfl, ⟨gr, h1.below hb, h2⟩, fun k hk => .inl hk, .of hb, hv⟩
theorem addT_s (width most n : Int) (E : PE) (key k act : Int) (args : List Int) (hw : Fits .i64 width) (hkey : Fits .u64 key) (hk : Fits .i64 k) (hact : Fits .i64 act) (hf : AllFit .u64 args) (han : args.length ≤ 1000000) (hn : 0 ≤ n ∧ n ≤ 1000000) (id q : Nat) :
    SCalls Try.prog 20 [.ptr id 0, .int .u64 key, .int .i64 k, .agg (hcells act args)] [(id, .abs (pT width most n E))] q (.int .i64 (pfxAddC width most n E key k)) [(id, .abs (pT width most (pfxAddN width most n E key k) (pfxAddE width most n E key k act args)))] := by
  by_cases hu : okWd width
  · rw [pT_yes hu, pT_yes hu]; exact pfxAdd_s width most n E key k act args hw hkey hk hact hf han hn id q
  · rw [pT_no hu, pT_no hu]
    have hc : pfxAddC width most n E key k = 6 := by unfold pfxAddC; rw [if_pos (unfit hu)]
    rw [hc]
    refine still0 (Enters.of Try.func20 rfl (by kernel_rfl)) (fun O gr w b vs h1 hO hr => ?_) (fun σ => rfl) id q
    obtain ⟨us, rfl, hr1⟩ := reps_int hr
    obtain ⟨us2, rfl, hr2⟩ := reps_int hr1
    obtain ⟨v, rfl, hr3⟩ := reps1 hr2
    obtain ⟨ao, c, rfl, hr4⟩ := rep_hit hr3 hf
    refine (pfxAdd0_any b gr width most key k act ao _ c w h1 hu hw hkey hk).mono ?_
    rintro e w' ⟨rfl, hb⟩
    exact ⟨_, rfl, hb, .int⟩
theorem chgT_s (width most n : Int) (E : PE) (key k act : Int) (args : List Int) (hw : Fits .i64 width) (hkey : Fits .u64 key) (hk : Fits .i64 k) (hact : Fits .i64 act) (hf : AllFit .u64 args) (han : args.length ≤ 1000000) (id q : Nat) :
    SCalls Try.prog 38 [.ptr id 0, .int .u64 key, .int .i64 k, .agg (hcells act args)] [(id, .abs (pT width most n E))] q (.int .i64 (pfxChgC width E key k)) [(id, .abs (pT width most n (pfxChgE width E key k act args)))] := by
  by_cases hu : okWd width
  · rw [pT_yes hu, pT_yes hu]
    refine scalls_in1 (Enters.of Try.func38 rfl (by kernel_rfl)) (fun O Fp w b vs hI hO hd hr => ?_) (fun σ => rfl) id q
    obtain ⟨us, rfl, hr1⟩ := reps_int hr
    obtain ⟨us2, rfl, hr2⟩ := reps_int hr1
    obtain ⟨v, rfl, hr3⟩ := reps1 hr2
    obtain ⟨ao, c, rfl, hr4⟩ := rep_hit hr3 hf
    refine (pfxChg_any b Fp width most n key k act ao _ c args E w hI hw hkey hk hact hr4 han).mono ?_
    rintro e w' ⟨rfl, Fp', h1, h2, h3⟩
    exact ⟨_, Fp', rfl, h1, h2, h3, .int⟩
  · rw [pT_no hu, pT_no hu]
    have hc : pfxChgC width E key k = 6 := by unfold pfxChgC; rw [if_pos (unfit hu)]
    rw [hc]
    refine still0 (Enters.of Try.func38 rfl (by kernel_rfl)) (fun O gr w b vs h1 hO hr => ?_) (fun σ => rfl) id q
    obtain ⟨us, rfl, hr1⟩ := reps_int hr
    obtain ⟨us2, rfl, hr2⟩ := reps_int hr1
    obtain ⟨v, rfl, hr3⟩ := reps1 hr2
    obtain ⟨ao, c, rfl, hr4⟩ := rep_hit hr3 hf
    refine (pfxChg0_any b gr width most key k act ao _ c w h1 hu hw hkey hk).mono ?_
    rintro e w' ⟨rfl, hb⟩
    exact ⟨_, rfl, hb, .int⟩
theorem dropT_s (width most n : Int) (E : PE) (key k : Int) (hw : Fits .i64 width) (hkey : Fits .u64 key) (hk : Fits .i64 k) (hn : -1000000 ≤ n ∧ n ≤ 1000000) (id q : Nat) :
    SCalls Try.prog 19 [.ptr id 0, .int .u64 key, .int .i64 k] [(id, .abs (pT width most n E))] q (.int .i64 (pfxDropC width E key k)) [(id, .abs (pT width most (pfxDropN width n E key k) (pfxDropE width E key k)))] := by
  by_cases hu : okWd width
  · rw [pT_yes hu, pT_yes hu]; exact pfxDrop_s width most n E key k hw hkey hk hn id q
  · rw [pT_no hu, pT_no hu]
    have hc : pfxDropC width E key k = 6 := by unfold pfxDropC; rw [if_pos (unfit hu)]
    rw [hc]
    refine still0 (Enters.of Try.func19 rfl (by kernel_rfl)) (fun O gr w b vs h1 hO hr => ?_) (fun σ => rfl) id q
    obtain ⟨us, rfl, hr1⟩ := reps_int hr
    obtain ⟨us2, rfl, hr2⟩ := reps_int hr1
    cases hr2.nil_inv
    refine (pfxDrop0_any b gr width most key k w h1 hu hw hkey hk).mono ?_
    rintro e w' ⟨rfl, hb⟩
    exact ⟨_, rfl, hb, .int⟩
theorem lenT_s (width most n : Int) (E : PE) (h0 : ¬ okWd width → n = 0) (id q : Nat) : SCalls Try.prog 42 [.ptr id 0] [(id, .abs (pT width most n E))] q (.int .i64 n) [(id, .abs (pT width most n E))] := by
  by_cases hu : okWd width
  · rw [pT_yes hu]; exact pfxLen_s width most n E id q
  · rw [pT_no hu, h0 hu]
    refine still0 (Enters.of Try.func42 rfl (by kernel_rfl)) (fun O gr w b vs h1 hO hr => ?_) (fun σ => rfl) id q
    cases hr.nil_inv
    refine (pfxLen_any b width most 0 _ _ _ w h1.pfx).mono ?_
    rintro e w' ⟨rfl, rfl⟩
    exact ⟨_, rfl, Below.refl _ _, .int⟩
theorem findT_s (width most n : Int) (E : PE) (key : Int) (hw : Fits .i64 width) (hkey : Fits .u64 key) (hargs : ∀ i v x, E i v = some x → x.2.length ≤ 1000000) (id q : Nat) :
    SCalls Try.prog 23 [.ptr id 0, .int .u64 key] [(id, .abs (pT width most n E))] q (findV (pfxFind width E key)) [(id, .abs (pT width most n E))] := by
  by_cases hu : okWd width
  · rw [pT_yes hu]; exact pfxFind_s width most n E key hw hkey hargs id q
  · rw [pT_no hu]
    have hc : pfxFind width E key = none := by unfold pfxFind; rw [unfit hu]; rfl
    rw [hc]
    refine still0 (Enters.of Try.func23 rfl (by kernel_rfl)) (fun O gr w b vs h1 hO hr => ?_) (fun σ => rfl) id q
    obtain ⟨us, rfl, hr1⟩ := reps_int hr
    cases hr1.nil_inv
    refine (pfxFind0_any b gr width most key w h1 hu hw hkey).mono ?_
    rintro e w' ⟨rfl, hb⟩
    refine ⟨_, rfl, hb, .tup rfl ?_⟩
    intro j x v hx hv2
    match j with
    | 0 =>
      simp at hx hv2; subst hx hv2
      refine .agg (vs := [_, _]) (by simp [Value.oneCell']) rfl fun j x v hx hv2 => ?_
      match j with
      | 0 => simp [hcells, fAct] at hx hv2; subst hx hv2; exact .int
      | 1 => simp [hcells, fArgs, nums] at hx hv2; subst hx hv2; exact .view0 (by simp [maxLen]) (fun _ => rfl)
      | j + 2 => simp at hv2
    | 1 => simp [fLen] at hx hv2; subst hx hv2; exact .int
    | 2 => simp at hx hv2; subst hx hv2; exact .bool
    | j + 3 => simp at hv2
def allT (width : Int) (E : PE) : List Entry := if okWd width then allF E width.toNat width.toNat 0 0 else []
theorem allT_s (width most n : Int) (E : PE) (hw : Fits .i64 width) (hargs : ∀ i v x, E i v = some x → x.2.length ≤ 1000000) (hlen : (allT width E).length ≤ 1000000) (id q : Nat) :
    SCalls Try.prog 24 [.ptr id 0] [(id, .abs (pT width most n E))] q (ents (allT width E)) [(id, .abs (pT width most n E))] := by
  by_cases hu : okWd width
  · have e : allT width E = allF E width.toNat width.toNat 0 0 := if_pos hu
    rw [pT_yes hu, e]
    rw [e] at hlen
    obtain ⟨W, rfl⟩ : ∃ W : Nat, width = W := ⟨width.toNat, by have := hu.1; omega⟩
    have h2 := hu.2
    simp only [Int.toNat_natCast] at hlen ⊢
    exact pfxAll_s W most n E (by omega) hargs hlen id q
  · have e : allT width E = [] := if_neg hu
    rw [pT_no hu, e]
    refine still0 (Enters.of Try.func24 rfl (by kernel_rfl)) (fun O gr w b vs h1 hO hr => ?_) (fun σ => rfl) id q
    cases hr.nil_inv
    refine (pfxAll0_any b gr width most w h1 hu hw).mono ?_
    rintro e w' ⟨rfl, hb⟩
    exact ⟨_, rfl, hb, .view0 (by simp [maxLen]) (fun _ => rfl)⟩
end Go.Proofs.Ytfakdapglbgokaa

/-
  PrefixDoes, plain: a table by beginnings and the reference's rows. No program in sight. No condition.
-/
namespace Go.Proofs.Ytfakdapglbgokaa
set_option linter.all false
open Go.RowKit

theorem and_high {x W m : Nat} (hx : x < 2 ^ W) (hm : m ≤ W) : x &&& (2 ^ W - 2 ^ m) = x / 2 ^ m * 2 ^ m := by
  have e : 2 ^ W - 2 ^ m = 2 ^ m * (2 ^ (W - m) - 1) := by
    rw [Nat.mul_sub_one, ← Nat.pow_add, show m + (W - m) = W by omega]
  apply Nat.eq_of_testBit_eq
  intro j
  rw [Nat.testBit_and, e, Nat.mul_comm (x / 2 ^ m), Nat.testBit_two_pow_mul, Nat.testBit_two_pow_mul, Nat.testBit_two_pow_sub_one, Nat.testBit_div_two_pow]
  by_cases h1 : j ≥ m
  · rw [show j - m + m = j by omega, decide_eq_true h1]
    by_cases h2 : j - m < W - m
    · rw [decide_eq_true h2]; simp
    · have h3 : x.testBit j = false := Nat.testBit_lt_two_pow (Nat.lt_of_lt_of_le hx (Nat.pow_le_pow_right (by omega) (by omega)))
      rw [h3]; simp
  · rw [decide_eq_false h1]; simp
theorem and_highI {W i : Nat} {key : Int} (h0 : 0 ≤ key) (h1 : key < 2 ^ W) (hW : W ≤ 64) (hi : i ≤ W) : bits .and .u64 key (IntKind.u64.wrap (onesP (W : Int) - onesP (IntKind.i64.wrap ((W : Int) - (i : Int))))) = pre W key i * 2 ^ (W - i) := by
  have e1 : IntKind.i64.wrap ((W : Int) - (i : Int)) = ((W - i : Nat) : Int) := by rw [IntWalk.i64_in _ ⟨by omega, by omega⟩]; omega
  have e2 : onesP (W : Int) = ((2 ^ W - 1 : Nat) : Int) := by
    unfold onesP; rw [if_pos (by omega), Int.toNat_natCast]
    have : 0 < 2 ^ W := Nat.two_pow_pos _
    have e : ((2 : Int) ^ W) = ((2 ^ W : Nat) : Int) := by simp
    omega
  have e3 : onesP ((W - i : Nat) : Int) = ((2 ^ (W - i) - 1 : Nat) : Int) := by
    unfold onesP; rw [if_pos (by omega), Int.toNat_natCast]
    have : 0 < 2 ^ (W - i) := Nat.two_pow_pos _
    have e : ((2 : Int) ^ (W - i)) = ((2 ^ (W - i) : Nat) : Int) := by simp
    omega
  obtain ⟨a, rfl⟩ := Int.eq_ofNat_of_zero_le h0
  have ha : a < 2 ^ W := by
    have e : ((2 : Int) ^ W) = ((2 ^ W : Nat) : Int) := by simp
    omega
  have p1 : 0 < 2 ^ (W - i) := Nat.two_pow_pos _
  have p2 : 2 ^ (W - i) ≤ 2 ^ W := Nat.pow_le_pow_right (by omega) (by omega)
  have p3 : 2 ^ W ≤ 2 ^ 64 := Nat.pow_le_pow_right (by omega) hW
  have p4 : (2 ^ 64 : Nat) = 18446744073709551616 := by decide
  rw [e1, e2, e3, show ((2 ^ W - 1 : Nat) : Int) - ((2 ^ (W - i) - 1 : Nat) : Int) = ((2 ^ W - 2 ^ (W - i) : Nat) : Int) by omega, u64_in_ (by omega) (by omega), u64_and_nat a _ (by omega) (by omega), and_high ha (by omega)]
  unfold pre
  simp
theorem wide_lt {W : Nat} {key : Int} (hW : W ≤ 64) : wideI key (W : Int) = !decide (key < 2 ^ W) := by
  unfold wideI
  rw [if_pos (by omega), Int.toNat_natCast]
  by_cases h : key < 2 ^ W
  · rw [decide_eq_true h, decide_eq_false (by omega)]; rfl
  · rw [decide_eq_false h, decide_eq_true (by omega)]; rfl
/-- May an entry stand there: as the table says. -/
theorem may_pfits {width key : Int} {e : Entry} (hk : e.keys = [key]) (h0 : 0 ≤ key) (h1 : key ≤ 18446744073709551615) : mayC 2 1 width e = if pfits width key e.len = true then 0 else 6 := by
  have hel : el e.keys 0 = key := by rw [hk]; rfl
  unfold mayC
  rw [if_neg (by decide), if_pos rfl, hel]
  by_cases hw : okWd width
  · obtain ⟨W, rfl⟩ : ∃ W : Nat, width = W := ⟨width.toNat, by have := hw.1; omega⟩
    obtain ⟨w1, w2⟩ := hw
    rw [wide_lt (by omega)]
    unfold pfits
    by_cases hl : 0 ≤ e.len ∧ e.len ≤ W ∧ key < 2 ^ W
    · obtain ⟨l1, l2, l3⟩ := hl
      obtain ⟨i, hi⟩ : ∃ i : Nat, e.len = i := ⟨e.len.toNat, by omega⟩
      rw [hi] at l1 l2 ⊢
      have e1 : (W : Int) - (i : Int) = ((W - i : Nat) : Int) := by omega
      have e2 : onesP ((W : Int) - (i : Int)) = 2 ^ (W - i) - 1 := by unfold onesP; rw [e1, if_pos (by omega), Int.toNat_natCast]
      rw [if_pos ⟨by rw [hk]; rfl, w1, w2, by omega, by omega, by simp [l3]⟩, e2, and_low h0 h1 (by omega), e1]
      simp only [Int.toNat_natCast]
      by_cases hz : key % 2 ^ (W - i) = 0
      · rw [if_pos hz, if_pos (decide_eq_true ⟨w1, w2, by omega, by omega, l3, hz⟩)]
      · rw [if_neg hz, if_neg (by simp; intros; exact hz)]
    · have : ¬ (1 ≤ (W : Int) ∧ (W : Int) ≤ 64 ∧ 0 ≤ e.len ∧ e.len ≤ (W : Int) ∧ key < 2 ^ (W : Int).toNat ∧ key % 2 ^ ((W : Int) - e.len).toNat = 0) := by
        rintro ⟨_, _, q1, q2, q3, _⟩
        exact hl ⟨q1, q2, by simpa using q3⟩
      rw [decide_eq_false this, if_neg (by rintro ⟨_, _, _, q1, q2, q3⟩; exact hl ⟨q1, q2, by simpa using q3⟩), if_neg (by decide)]
  · rw [unfit hw, if_neg (by rintro ⟨_, q1, q2, _⟩; exact hw ⟨q1, q2⟩), if_neg (by decide)]
theorem kept_ce {W K : Nat} {key : Int} {e : Entry} (hk : e.keys = [key]) (hl : e.len = K) (hz : key % 2 ^ (W - K) = 0) : keptE 2 e = ce W K (pre W key K) (e.act, e.args) := by
  unfold keptE ce
  rw [if_neg (by decide), if_pos rfl, if_neg (by decide), hk, hl]
  congr 1
  rw [← key_of_pre hz]
theorem ce_inj {W i j : Nat} {v u : Int} {x y : Int × List Int} (h : ce W i v x = ce W j u y) : i = j ∧ v = u ∧ x = y := by
  unfold ce at h
  injection h with h1 h2 h3 h4 h5 h6
  obtain rfl : i = j := by omega
  injection h1 with h1
  have := Int.eq_of_mul_eq_mul_right (Int.ne_of_gt (pow_pos_ (W - i))) h1
  exact ⟨rfl, this, Prod.ext h5 h6⟩
/-- Rows that say what a table says. -/
structure RelM (W : Nat) (E : PE) (L : List Entry) : Prop where
  mem : ∀ e, e ∈ L ↔ ∃ (i : Nat) (v : Int) (x : Int × List Int), E i v = some x ∧ e = ce W i v x
  nd : L.Nodup
theorem relM_nil (W : Nat) : RelM W noE [] := ⟨fun e => by simp [noE], List.nodup_nil⟩
/-- Where an entry stands. -/
theorem RelM.at_ {W K : Nat} {E : PE} {L : List Entry} (h : RelM W E L) {key : Int} {e : Entry} (hk : e.keys = [key]) (hl : e.len = K) (hz : key % 2 ^ (W - K) = 0) :
    (E K (pre W key K) = none ∧ atI 2 L e = -1) ∨ ∃ x, E K (pre W key K) = some x ∧ atI 2 L e = atN 2 L e ∧ ∃ hi : atN 2 L e < L.length, L[atN 2 L e] = ce W K (pre W key K) x := by
  have hkey := key_of_pre hz
  have hone : ∀ i v x, oneB 2 (ce W i v x) e = true ↔ i = K ∧ v = pre W key K := by
    intro i v x
    unfold oneB ce
    rw [hk, hl]
    simp
    constructor
    · rintro ⟨h1, h2⟩
      obtain rfl : i = K := by omega
      refine ⟨rfl, ?_⟩
      rw [hkey] at h2
      exact Int.eq_of_mul_eq_mul_right (Int.ne_of_gt (pow_pos_ (W - i))) h2
    · rintro ⟨rfl, rfl⟩
      exact ⟨rfl, hkey.symm⟩
  rcases atI_cases 2 L e with ⟨h1, h2⟩ | h1
  · right
    have hb := firstN_at (fun i => match L[i]? with | some a => oneB 2 a e | none => false) L.length h2
    change (match L[atN 2 L e]? with | some a => oneB 2 a e | none => false) = true at hb
    rw [List.getElem?_eq_getElem h2] at hb
    obtain ⟨i, v, x, hE, hce⟩ := (h.mem _).1 (List.getElem_mem h2)
    simp only [hce] at hb
    obtain ⟨rfl, rfl⟩ := (hone i v x).1 hb
    exact ⟨x, hE, h1, h2, hce⟩
  · left
    refine ⟨?_, h1⟩
    cases hE : E K (pre W key K) with
    | none => rfl
    | some x =>
      obtain ⟨j, hj⟩ := List.getElem?_of_mem ((h.mem (ce W K (pre W key K) x)).2 ⟨K, _, x, hE, rfl⟩)
      obtain ⟨hjL, hje⟩ := List.getElem?_eq_some_iff.1 hj
      have hlt : atN 2 L e < L.length := by
        refine Nat.lt_of_le_of_ne (firstN_le _ _) fun heq => ?_
        have := firstN_before (fun i => match L[i]? with | some a => oneB 2 a e | none => false) L.length j (by show j < atN 2 L e; rw [heq]; exact hjL)
        simp only [hj] at this
        rw [(hone _ _ _).2 ⟨rfl, rfl⟩] at this
        cases this
      unfold atI at h1
      rw [if_pos hlt] at h1
      omega
end Go.Proofs.Ytfakdapglbgokaa

/-
  PrefixDoes, plain: steps of a table by beginnings, and of the reference's rows. No program in sight. No condition.
-/
namespace Go.Proofs.Ytfakdapglbgokaa
set_option linter.all false
open Go.RowKit
theorem split_at_ {α : Type} {L : List α} {i : Nat} (hi : i < L.length) (a : α) : L = L.take i ++ L[i] :: L.drop (i + 1) ∧ L.set i a = L.take i ++ a :: L.drop (i + 1) := by
  constructor
  · rw [← List.drop_eq_getElem_cons hi, List.take_append_drop]
  · rw [List.set_eq_take_append_cons_drop, if_pos hi]
theorem entSet_at (E : PE) (K : Nat) (P : Int) (y : Option (Int × List Int)) : entSet E K P y K P = y := if_pos ⟨rfl, rfl⟩
theorem entSet_ne (E : PE) {K i : Nat} {P v : Int} (y : Option (Int × List Int)) (h : ¬ (i = K ∧ v = P)) : entSet E K P y i v = E i v := if_neg h
theorem RelM.add {W K : Nat} {E : PE} {L : List Entry} (h : RelM W E L) {P : Int} {x : Int × List Int} (hn : E K P = none) : RelM W (entSet E K P (some x)) (L ++ [ce W K P x]) := by
  constructor
  · intro e
    rw [List.mem_append, h.mem, List.mem_singleton]
    constructor
    · rintro (⟨i, v, y, h1, h2⟩ | rfl)
      · refine ⟨i, v, y, ?_, h2⟩
        rw [entSet_ne _ _ fun hh => by rw [hh.1, hh.2, hn] at h1; cases h1]; exact h1
      · exact ⟨K, P, x, entSet_at _ _ _ _, rfl⟩
    · rintro ⟨i, v, y, h1, h2⟩
      by_cases hh : i = K ∧ v = P
      · obtain ⟨rfl, rfl⟩ := hh
        rw [entSet_at] at h1; cases h1
        exact .inr h2
      · rw [entSet_ne _ _ hh] at h1
        exact .inl ⟨i, v, y, h1, h2⟩
  · rw [List.nodup_append]
    refine ⟨h.nd, by simp, ?_⟩
    intro a ha b hb hab
    rw [List.mem_singleton] at hb
    subst hb hab
    obtain ⟨i, v, y, h1, h2⟩ := (h.mem _).1 ha
    obtain ⟨rfl, rfl, rfl⟩ := ce_inj h2
    rw [hn] at h1; cases h1
theorem RelM.parts {W K : Nat} {E : PE} {A B : List Entry} {P : Int} {x : Int × List Int} (h : RelM W E (A ++ ce W K P x :: B)) : (∀ e, e ∈ A ++ B ↔ ∃ (i : Nat) (v : Int) (y : Int × List Int), E i v = some y ∧ e = ce W i v y ∧ ¬ (i = K ∧ v = P)) ∧ (A ++ B).Nodup ∧ ∀ y, ce W K P y ∉ A ++ B := by
  have hE : E K P = some x := by
    obtain ⟨i, v, y, h1, h2⟩ := (h.mem (ce W K P x)).1 (by simp)
    obtain ⟨rfl, rfl, rfl⟩ := ce_inj h2
    exact h1
  have hnd := h.nd
  rw [List.nodup_append] at hnd
  obtain ⟨n1, n2, n3⟩ := hnd
  rw [List.nodup_cons] at n2
  have hno : ∀ y, ce W K P y ∉ A ++ B := by
    intro y hy
    have : ce W K P y ∈ A ++ ce W K P x :: B := by
      rcases List.mem_append.1 hy with h1 | h1
      · exact List.mem_append_left _ h1
      · exact List.mem_append_right _ (List.mem_cons_of_mem _ h1)
    obtain ⟨i, v, z, h1, h2⟩ := (h.mem _).1 this
    obtain ⟨rfl, rfl, rfl⟩ := ce_inj h2
    rw [hE] at h1; cases h1
    rcases List.mem_append.1 hy with h1 | h1
    · exact n3 _ h1 _ (by simp) rfl
    · exact n2.1 h1
  refine ⟨fun e => ?_, ?_, hno⟩
  · constructor
    · intro he
      have : e ∈ A ++ ce W K P x :: B := by
        rcases List.mem_append.1 he with h1 | h1
        · exact List.mem_append_left _ h1
        · exact List.mem_append_right _ (List.mem_cons_of_mem _ h1)
      obtain ⟨i, v, z, h1, h2⟩ := (h.mem _).1 this
      refine ⟨i, v, z, h1, h2, ?_⟩
      rintro ⟨rfl, rfl⟩
      exact hno z (h2 ▸ he)
    · rintro ⟨i, v, y, h1, h2, h3⟩
      have := (h.mem e).2 ⟨i, v, y, h1, h2⟩
      rcases List.mem_append.1 this with h4 | h4
      · exact List.mem_append_left _ h4
      · rcases List.mem_cons.1 h4 with h5 | h5
        · rw [h5] at h2
          obtain ⟨q1, q2, _⟩ := ce_inj h2
          exact absurd ⟨q1.symm, q2.symm⟩ h3
        · exact List.mem_append_right _ h5
  · rw [List.nodup_append]
    exact ⟨n1, n2.2, fun a ha b hb => n3 a ha b (List.mem_cons_of_mem _ hb)⟩
theorem RelM.set {W K : Nat} {E : PE} {A B : List Entry} {P : Int} {x y : Int × List Int} (h : RelM W E (A ++ ce W K P x :: B)) : RelM W (entSet E K P (some y)) (A ++ ce W K P y :: B) := by
  obtain ⟨h1, h2, h3⟩ := h.parts
  have hmem : ∀ e, e ∈ A ++ ce W K P y :: B ↔ e ∈ A ++ B ∨ e = ce W K P y := fun e => by
    simp only [List.mem_append, List.mem_cons]
    constructor
    · rintro (h | h | h)
      · exact .inl (.inl h)
      · exact .inr h
      · exact .inl (.inr h)
    · rintro ((h | h) | h)
      · exact .inl h
      · exact .inr (.inr h)
      · exact .inr (.inl h)
  constructor
  · intro e
    rw [hmem, h1]
    constructor
    · rintro (⟨i, v, z, q1, q2, q3⟩ | rfl)
      · exact ⟨i, v, z, by rw [entSet_ne _ _ q3]; exact q1, q2⟩
      · exact ⟨K, P, y, entSet_at _ _ _ _, rfl⟩
    · rintro ⟨i, v, z, q1, q2⟩
      by_cases hh : i = K ∧ v = P
      · obtain ⟨rfl, rfl⟩ := hh
        rw [entSet_at] at q1; cases q1
        exact .inr q2
      · rw [entSet_ne _ _ hh] at q1
        exact .inl ⟨i, v, z, q1, q2, hh⟩
  · have h4 := h3 y
    rw [List.nodup_append] at h2 ⊢
    obtain ⟨n1, n2, n3⟩ := h2
    refine ⟨n1, List.nodup_cons.2 ⟨fun hb => h4 (List.mem_append_right _ hb), n2⟩, fun a ha b hb hab => ?_⟩
    rcases List.mem_cons.1 hb with hb | hb
    · subst hab hb; exact h4 (List.mem_append_left _ ha)
    · exact n3 a ha b hb hab
theorem RelM.drop {W K : Nat} {E : PE} {A B : List Entry} {P : Int} {x : Int × List Int} (h : RelM W E (A ++ ce W K P x :: B)) : RelM W (entSet E K P none) (A ++ B) := by
  obtain ⟨h1, h2, h3⟩ := h.parts
  refine ⟨fun e => ?_, h2⟩
  rw [h1]
  constructor
  · rintro ⟨i, v, z, q1, q2, q3⟩
    exact ⟨i, v, z, by rw [entSet_ne _ _ q3]; exact q1, q2⟩
  · rintro ⟨i, v, z, q1, q2⟩
    by_cases hh : i = K ∧ v = P
    · obtain ⟨rfl, rfl⟩ := hh
      rw [entSet_at] at q1; cases q1
    · rw [entSet_ne _ _ hh] at q1
      exact ⟨i, v, z, q1, q2, hh⟩
end Go.Proofs.Ytfakdapglbgokaa

/-
  PrefixDoes, plain: both say the same at each step. No program in sight. No condition.
-/
namespace Go.Proofs.Ytfakdapglbgokaa
set_option linter.all false
open Go.RowKit
structure RelT (width n : Int) (E : PE) (L : List Entry) : Prop where
  len : n = L.length
  yes : okWd width → RelM width.toNat E L ∧ PInv width.toNat n E
  no : ¬ okWd width → L = []
theorem relT_nil (width : Int) : RelT width 0 noE [] := ⟨rfl, fun _ => ⟨relM_nil _, PInv.none _⟩, fun _ => rfl⟩
/-- An entry with one key, whose numbers fit. -/
structure OneE (e : Entry) (key : Int) : Prop where
  keys : e.keys = [key]
  h0 : 0 ≤ key
  h1 : key ≤ 18446744073709551615
  act : Fits .i64 e.act
  args : AllFit .u64 e.args
  few : e.args.length ≤ 1000
variable {width n : Int} {E : PE} {L : List Entry} {e : Entry} {key : Int}
theorem addT_rel (h : RelT width n E L) (he : OneE e key) (most : Int) : addC 2 1 width most L e = pfxAddC width most n E key e.len ∧
    RelT width (pfxAddN width most n E key e.len) (pfxAddE width most n E key e.len e.act e.args) (if addC 2 1 width most L e = 0 then L ++ [keptE 2 e] else L) := by
  have hm := may_pfits (width := width) he.keys he.h0 he.h1
  by_cases hp : pfits width key e.len = true
  · rw [if_pos hp] at hm
    obtain ⟨W, K, rfl, hK, w1, w2, k1, k2, k3⟩ := pfits_true hp
    obtain ⟨hR, hI⟩ := h.yes ⟨by omega, by omega⟩
    have e1 : ((W : Int)).toNat = W := Int.toNat_natCast W
    rw [e1] at hR hI
    have hpa := hI.add (most := most) (key := key) (k := e.len) (act := e.act) (args := e.args) he.h0 he.few he.args he.act
    rcases hR.at_ he.keys hK k3 with ⟨a1, a2⟩ | ⟨x, a1, a2, a3, a4⟩
    · have c1 : addC 2 1 (W : Int) most L e = if most ≤ n then 10 else 0 := by
        unfold addC
        rw [if_pos hm, if_neg (by omega), if_neg (by rintro ⟨h, _⟩; omega), h.len]
      have c2 : pfxAddC (W : Int) most n E key e.len = if most ≤ n then 10 else 0 := by
        unfold pfxAddC
        rw [if_neg (by rw [hp]; decide), hK, e1, Int.toNat_natCast, a1, if_neg (by simp)]
      refine ⟨by rw [c1, c2], ?_⟩
      by_cases hf : most ≤ n
      · rw [if_pos hf] at c1 c2
        obtain ⟨q1, q2⟩ := pfxAdd_no (show pfxAddC (W : Int) most n E key e.len ≠ 0 by rw [c2]; decide) e.act e.args
        rw [if_neg (by rw [c1]; decide), q1, q2]
        exact h
      · rw [if_neg hf] at c1 c2
        obtain ⟨q1, q2⟩ := pfxAdd_yes c2 e.act e.args
        rw [q1, q2] at hpa
        rw [if_pos c1, q1, q2, kept_ce he.keys hK k3]
        simp only [hK, e1, Int.toNat_natCast] at hpa ⊢
        refine ⟨by rw [h.len]; simp, fun _ => ⟨?_, ?_⟩, fun h => absurd ⟨by omega, by omega⟩ h⟩
        · rw [e1]; exact hR.add a1
        · rw [e1]; exact hpa.1
    · have c1 : addC 2 1 (W : Int) most L e = 7 := by
        unfold addC
        rw [if_pos hm, if_pos (by omega)]
      have c2 : pfxAddC (W : Int) most n E key e.len = 7 := by
        unfold pfxAddC
        rw [if_neg (by rw [hp]; decide), hK, e1, Int.toNat_natCast, a1]; rfl
      obtain ⟨q1, q2⟩ := pfxAdd_no (show pfxAddC (W : Int) most n E key e.len ≠ 0 by rw [c2]; decide) e.act e.args
      refine ⟨by rw [c1, c2], ?_⟩
      rw [if_neg (by rw [c1]; decide), q1, q2]
      exact h
  · rw [if_neg hp] at hm
    have c1 : addC 2 1 width most L e = 6 := by unfold addC; rw [if_neg (by rw [hm]; decide), hm]
    have c2 : pfxAddC width most n E key e.len = 6 := by unfold pfxAddC; rw [if_pos (by simpa using hp)]
    obtain ⟨q1, q2⟩ := pfxAdd_no (show pfxAddC width most n E key e.len ≠ 0 by rw [c2]; decide) e.act e.args
    refine ⟨by rw [c1, c2], ?_⟩
    rw [if_neg (by rw [c1]; decide), q1, q2]
    exact h
theorem len_entSet {W K : Nat} {P : Int} {E : PE} {y : Option (Int × List Int)} (hK : K ≤ W) (p0 : 0 ≤ P) (p1 : P < 2 ^ K) : (allF (entSet E K P y) W W 0 0).length + (E K P).toList.length = (allF E W W 0 0).length + y.toList.length := by
  have := len_allF E W K P y W 0 0
  rwa [if_pos (under_top hK p0 p1), if_pos (under_top hK p0 p1)] at this
theorem PInv.set {W K : Nat} {n : Int} {P : Int} {x y : Int × List Int} (h : PInv W n E) (hE : E K P = some x) (ha : y.2.length ≤ 1000) (hf : AllFit .u64 y.2) (hact : Fits .i64 y.1) : PInv W n (entSet E K P (some y)) := by
  obtain ⟨i1, i2, i3, _⟩ := h.ok K P x hE
  refine ⟨?_, fun i v z hz => ?_⟩
  · have := len_entSet (y := some y) (E := E) i1 i2 i3
    rw [hE] at this
    simp at this
    rw [h.cnt]; omega
  · unfold entSet at hz
    split at hz
    · rename_i e
      obtain ⟨rfl, rfl⟩ := e
      cases hz
      exact ⟨i1, i2, i3, ha, hf, hact⟩
    · exact h.ok i v z hz
theorem chgT_rel (h : RelT width n E L) (he : OneE e key) : chgC 2 1 width L e = pfxChgC width E key e.len ∧
    RelT width n (pfxChgE width E key e.len e.act e.args) (chgL 2 1 width L e) := by
  have hm := may_pfits (width := width) he.keys he.h0 he.h1
  by_cases hp : pfits width key e.len = true
  · rw [if_pos hp] at hm
    obtain ⟨W, K, rfl, hK, w1, w2, k1, k2, k3⟩ := pfits_true hp
    obtain ⟨hR, hI⟩ := h.yes ⟨by omega, by omega⟩
    have e1 : ((W : Int)).toNat = W := Int.toNat_natCast W
    rw [e1] at hR hI
    rcases hR.at_ he.keys hK k3 with ⟨a1, a2⟩ | ⟨x, a1, a2, a3, a4⟩
    · have c1 : chgC 2 1 (W : Int) L e = 9 := by
        unfold chgC
        rw [if_pos hm, if_neg (by omega)]
      have c2 : pfxChgC (W : Int) E key e.len = 9 := by
        unfold pfxChgC
        rw [if_neg (by rw [hp]; decide), hK, e1, Int.toNat_natCast, a1, if_neg (by simp)]
      refine ⟨by rw [c1, c2], ?_⟩
      rw [pfxChg_no (by rw [c2]; decide), show chgL 2 1 (W : Int) L e = L from if_neg (by rw [c1]; decide)]
      exact h
    · have c1 : chgC 2 1 (W : Int) L e = 0 := by
        unfold chgC
        rw [if_pos hm, if_pos (by omega)]
      have c2 : pfxChgC (W : Int) E key e.len = 0 := by
        unfold pfxChgC
        rw [if_neg (by rw [hp]; decide), hK, e1, Int.toNat_natCast, a1]; rfl
      refine ⟨by rw [c1, c2], ?_⟩
      have hl : chgL 2 1 (W : Int) L e = L.set (atN 2 L e) (ce W K (pre W key K) (e.act, e.args)) := by
        unfold chgL; rw [if_pos c1, kept_ce he.keys hK k3]
      rw [pfxChg_yes c2, hl]
      simp only [hK, e1, Int.toNat_natCast]
      refine ⟨by rw [h.len]; simp, fun _ => ⟨?_, ?_⟩, fun h => absurd ⟨by omega, by omega⟩ h⟩
      · rw [e1]
        obtain ⟨s1, s2⟩ := split_at_ a3 (ce W K (pre W key K) (e.act, e.args))
        rw [a4] at s1
        rw [s2]
        exact RelM.set (s1 ▸ hR)
      · rw [e1]; exact hI.set a1 he.few he.args he.act
  · rw [if_neg hp] at hm
    have c1 : chgC 2 1 width L e = 6 := by unfold chgC; rw [if_neg (by rw [hm]; decide), hm]
    have c2 : pfxChgC width E key e.len = 6 := by unfold pfxChgC; rw [if_pos (by simpa using hp)]
    refine ⟨by rw [c1, c2], ?_⟩
    rw [pfxChg_no (by rw [c2]; decide), show chgL 2 1 width L e = L from if_neg (by rw [c1]; decide)]
    exact h
theorem dropT_rel (h : RelT width n E L) (he : OneE e key) : dropC 2 1 width L e = pfxDropC width E key e.len ∧
    RelT width (pfxDropN width n E key e.len) (pfxDropE width E key e.len) (dropL 2 1 width L e) := by
  have hm := may_pfits (width := width) he.keys he.h0 he.h1
  by_cases hp : pfits width key e.len = true
  · rw [if_pos hp] at hm
    obtain ⟨W, K, rfl, hK, w1, w2, k1, k2, k3⟩ := pfits_true hp
    obtain ⟨hR, hI⟩ := h.yes ⟨by omega, by omega⟩
    have e1 : ((W : Int)).toNat = W := Int.toNat_natCast W
    rw [e1] at hR hI
    have hpd := hI.drop (key := key) (k := e.len) he.h0
    rcases hR.at_ he.keys hK k3 with ⟨a1, a2⟩ | ⟨x, a1, a2, a3, a4⟩
    · have c1 : dropC 2 1 (W : Int) L e = 9 := by
        unfold dropC
        rw [if_pos hm, if_neg (by omega)]
      have c2 : pfxDropC (W : Int) E key e.len = 9 := by
        unfold pfxDropC
        rw [if_neg (by rw [hp]; decide), hK, e1, Int.toNat_natCast, a1, if_neg (by simp)]
      obtain ⟨q1, q2⟩ := pfxDrop_no (n := n) (show pfxDropC (W : Int) E key e.len ≠ 0 by rw [c2]; decide)
      refine ⟨by rw [c1, c2], ?_⟩
      rw [q1, q2, show dropL 2 1 (W : Int) L e = L from if_neg (by rw [c1]; decide)]
      exact h
    · have c1 : dropC 2 1 (W : Int) L e = 0 := by
        unfold dropC
        rw [if_pos hm, if_pos (by omega)]
      have c2 : pfxDropC (W : Int) E key e.len = 0 := by
        unfold pfxDropC
        rw [if_neg (by rw [hp]; decide), hK, e1, Int.toNat_natCast, a1]; rfl
      obtain ⟨q1, q2⟩ := pfxDrop_yes (n := n) c2
      refine ⟨by rw [c1, c2], ?_⟩
      rw [q1, q2] at hpd
      rw [q1, q2, show dropL 2 1 (W : Int) L e = L.take (atN 2 L e) ++ L.drop (atN 2 L e + 1) from if_pos c1]
      simp only [hK, e1, Int.toNat_natCast] at hpd ⊢
      refine ⟨by rw [h.len]; simp; omega, fun _ => ⟨?_, ?_⟩, fun h => absurd ⟨by omega, by omega⟩ h⟩
      · rw [e1]
        obtain ⟨s1, _⟩ := split_at_ a3 e
        rw [a4] at s1
        exact RelM.drop (s1 ▸ hR)
      · rw [e1]; exact hpd.1
  · rw [if_neg hp] at hm
    have c1 : dropC 2 1 width L e = 6 := by unfold dropC; rw [if_neg (by rw [hm]; decide), hm]
    have c2 : pfxDropC width E key e.len = 6 := by unfold pfxDropC; rw [if_pos (by simpa using hp)]
    obtain ⟨q1, q2⟩ := pfxDrop_no (n := n) (show pfxDropC width E key e.len ≠ 0 by rw [c2]; decide)
    refine ⟨by rw [c1, c2], ?_⟩
    rw [q1, q2, show dropL 2 1 width L e = L from if_neg (by rw [c1]; decide)]
    exact h
end Go.Proofs.Ytfakdapglbgokaa

/-
  PrefixDoes, plain: what is found, and all in order. No program in sight. No condition.
-/
namespace Go.Proofs.Ytfakdapglbgokaa
set_option linter.all false
open Go.RowKit
variable {width n : Int} {E : PE} {L : List Entry} {key : Int}
theorem fits_beg {W j : Nat} {v : Int} {x : Int × List Int} (h0 : 0 ≤ key) (h1 : key < 2 ^ W) (hW : W ≤ 64) (hj : j ≤ W) : fitsB 2 (W : Int) (ce W j v x) [key] = true ↔ v = pre W key j := by
  unfold fitsB
  rw [if_neg (by decide), if_pos rfl]
  have e1 : el [key] 0 = key := rfl
  have e2 : el (ce W j v x).keys 0 = v * 2 ^ (W - j) := by simp [ce, el]
  have e3 : (ce W j v x).len = (j : Int) := rfl
  rw [e1, e2, e3, and_highI h0 h1 hW hj]
  simp only [beq_iff_eq]
  exact ⟨fun h => (Int.eq_of_mul_eq_mul_right (Int.ne_of_gt (pow_pos_ _)) h).symm, fun h => by rw [h]⟩
theorem findT_rel (h : RelT width n E L) (h0 : 0 ≤ key) (h1 : key ≤ 18446744073709551615) : rfindV (findR 2 1 width L [key]) = findV (pfxFind width E key) := by
  by_cases hf : pfits width key width = true
  case neg =>
    have e1 : pfxFind width E key = none := by unfold pfxFind; rw [if_neg hf]
    have e2 : findOk 2 1 width [key] = false := by
      unfold findOk
      have e0 : el [key] 0 = key := rfl
      rw [e0]
      by_cases hw : okWd width
      · obtain ⟨W, rfl⟩ : ∃ W : Nat, width = W := ⟨width.toNat, by have := hw.1; omega⟩
        obtain ⟨w1, w2⟩ := hw
        have : ¬ key < 2 ^ W := fun hk => hf (by unfold pfits; exact decide_eq_true ⟨w1, w2, by omega, by omega, by simpa using hk, by simp⟩)
        rw [wide_lt (by omega), decide_eq_false this]
        simp
      · have : decide (width < 1) = true ∨ decide (64 < width) = true := by
          by_cases h1 : 1 ≤ width
          · right; exact decide_eq_true (by have : ¬ width ≤ 64 := fun h2 => hw ⟨h1, h2⟩
                                            omega)
          · left; exact decide_eq_true (by omega)
        rcases this with h | h <;> rw [h] <;> simp
    have e3 : findR 2 1 width L [key] = none := by unfold findR findI; rw [e2]; rfl
    rw [e1, e3]; rfl
  obtain ⟨W, K, rfl, hK, w1, w2, k1, k2, k3⟩ := pfits_true hf
  obtain rfl : K = W := by omega
  obtain ⟨hR, hI⟩ := h.yes ⟨by omega, by omega⟩
  have e1 : ((K : Int)).toNat = K := Int.toNat_natCast K
  rw [e1] at hR hI
  have hok : findOk 2 1 (K : Int) [key] = true := by
    unfold findOk
    have e0 : el [key] 0 = key := rfl
    rw [e0, wide_lt (by omega), decide_eq_true k2, decide_eq_false (show ¬ (K : Int) < 1 by omega), decide_eq_false (show ¬ (64 : Int) < K by omega)]
    rfl
  -- the best of the first i
  have hbest : ∀ i, i ≤ L.length → (bestN 2 K L [key] i = -1 ∧ ∀ j e, j < i → L[j]? = some e → ¬ hasBeg K key e) ∨ ∃ (k : Nat) (e : Entry), bestN 2 K L [key] i = k ∧ k < i ∧ L[k]? = some e ∧ hasBeg K key e ∧ ∀ j e', j < i → L[j]? = some e' → hasBeg K key e' → e'.len ≤ e.len := by
    intro i
    induction i with
    | zero => exact fun _ => .inl ⟨rfl, by intro j e hj; omega⟩
    | succ i ih =>
      intro hi
      have hiL : i < L.length := by omega
      obtain ⟨j, v, x, hE, hce⟩ := (hR.mem _).1 (List.getElem_mem hiL)
      obtain ⟨jW, _⟩ := hI.ok j v x hE
      have hfit : fitsB 2 (K : Int) L[i] [key] = true ↔ hasBeg K key L[i] := by rw [hce, fits_beg h0 k2 w2 jW, hasBeg_ce]
      have hpr : ∀ a ∈ L, a.prio = 0 := fun a ha => by obtain ⟨_, _, _, _, rfl⟩ := (hR.mem a).1 ha; rfl
      have hst : bestN 2 K L [key] (i + 1) = stepB 2 K L [key] i (bestN 2 K L [key] i) := rfl
      rw [hst, stepB_at hiL]
      have hLi : L[i]? = some L[i] := List.getElem?_eq_getElem hiL
      have ih := ih (by omega)
      generalize bestN 2 (K : Int) L [key] i = b at *
      by_cases hx : hasBeg K key L[i]
      · rw [hfit.2 hx, Bool.true_and]
        rcases ih with ⟨rfl, q⟩ | ⟨k, e, rfl, q1, q2, q3, q4⟩
        · rw [if_pos (show betterB L[i] L (-1) = true from rfl)]
          refine .inr ⟨i, L[i], rfl, by omega, hLi, hx, ?_⟩
          exact all_succ (P := fun a => hasBeg K key a → a.len ≤ L[i].len) hiL (fun j a hj ha hb => absurd hb (q j a hj ha)) fun _ => Int.le_refl _
        · obtain ⟨hkL, rfl⟩ := List.getElem?_eq_some_iff.1 q2
          have hb : betterB L[i] L (k : Int) = decide (L[i].len > L[k].len) := by
            unfold betterB
            rw [decide_eq_false (show ¬ (k : Int) < 0 by omega), Int.toNat_natCast, q2]
            simp only [Bool.false_or]
            rw [hpr _ (List.getElem_mem hiL), hpr _ (List.getElem_mem hkL)]
            simp
          rw [hb]
          by_cases hl : L[i].len > L[k].len
          · rw [if_pos (decide_eq_true hl)]
            refine .inr ⟨i, L[i], rfl, by omega, hLi, hx, ?_⟩
            exact all_succ (P := fun a => hasBeg K key a → a.len ≤ L[i].len) hiL (fun j a hj ha hb => by have := q4 j a hj ha hb; omega) fun _ => Int.le_refl _
          · rw [decide_eq_false hl, if_neg (by decide)]
            refine .inr ⟨k, L[k], rfl, by omega, q2, q3, ?_⟩
            exact all_succ (P := fun a => hasBeg K key a → a.len ≤ L[k].len) hiL q4 fun _ => by omega
      · have hff : fitsB 2 (K : Int) L[i] [key] = false := by
          cases h : fitsB 2 (K : Int) L[i] [key] with
          | false => rfl
          | true => exact absurd (hfit.1 h) hx
        rw [hff, Bool.false_and, if_neg (by decide)]
        rcases ih with ⟨rfl, q⟩ | ⟨k, e, rfl, q1, q2, q3, q4⟩
        · exact .inl ⟨rfl, all_succ (P := fun a => ¬ hasBeg K key a) hiL q hx⟩
        · exact .inr ⟨k, e, rfl, by omega, q2, q3, all_succ (P := fun a => hasBeg K key a → a.len ≤ e.len) hiL q4 fun hb => absurd hb hx⟩
  have hI2 : findI 2 1 (K : Int) L [key] = bestN 2 K L [key] L.length := if_pos hok
  have hF : pfxFind (K : Int) E key = match lastN (hasE E K key) (K + 1) with
    | none => none
    | some i => (E i (pre K key i)).map fun x => (i, x.1, x.2) := by
    unfold pfxFind; rw [if_pos hf]; rfl
  have mem : ∀ j, j < K + 1 → hasE E K key j = true → ∃ x, E j (pre K key j) = some x ∧ ∃ i : Nat, i < L.length ∧ L[i]? = some (ce K j (pre K key j) x) := by
    intro j hj he
    obtain ⟨x, hx⟩ := Option.isSome_iff_exists.1 (show (E j (pre K key j)).isSome = true from he)
    obtain ⟨i, hi⟩ := List.getElem?_of_mem ((hR.mem (ce K j (pre K key j) x)).2 ⟨j, _, x, hx, rfl⟩)
    exact ⟨x, hx, i, (List.getElem?_eq_some_iff.1 hi).1, hi⟩
  rcases hbest L.length (Nat.le_refl _) with ⟨hb, q⟩ | ⟨k, e, hb, q1, q2, q3, q4⟩
  · have e3 : findR 2 1 (K : Int) L [key] = none := by unfold findR; rw [hI2, hb]; rfl
    have e4 : lastN (hasE E K key) (K + 1) = none := by
      cases hl : lastN (hasE E K key) (K + 1) with
      | none => rfl
      | some i =>
        obtain ⟨l1, l2, _⟩ := lastN_some hl
        obtain ⟨x, _, j, hj, hj2⟩ := mem i l1 l2
        exact absurd (hasBeg_ce.2 rfl) (q j _ hj hj2)
    rw [e3, hF, e4]; rfl
  · have e3 : findR 2 1 (K : Int) L [key] = some e := by unfold findR; rw [hI2, hb, if_pos (by omega), Int.toNat_natCast]; exact q2
    obtain ⟨j, u, x, hE, rfl⟩ := (hR.mem e).1 (List.mem_of_getElem? q2)
    obtain ⟨jW, _⟩ := hI.ok j u x hE
    obtain rfl := hasBeg_ce.1 q3
    have hh : hasE E K key j = true := by unfold hasE; rw [hE]; rfl
    have e4 : lastN (hasE E K key) (K + 1) = some j := by
      cases hl : lastN (hasE E K key) (K + 1) with
      | none => have := lastN_none hl j (by omega); rw [hh] at this; cases this
      | some i =>
        obtain ⟨l1, l2, l3⟩ := lastN_some hl
        congr 1
        rcases Nat.lt_trichotomy i j with h2 | h2 | h2
        · have := l3 j h2 (by omega); rw [hh] at this; cases this
        · exact h2
        · obtain ⟨y, _, m, hm2, hm3⟩ := mem i l1 l2
          have := q4 m _ hm2 hm3 (hasBeg_ce.2 rfl)
          simp [ce] at this; omega
    rw [e3, hF, e4]
    simp only [hE]
    rfl
end Go.Proofs.Ytfakdapglbgokaa
