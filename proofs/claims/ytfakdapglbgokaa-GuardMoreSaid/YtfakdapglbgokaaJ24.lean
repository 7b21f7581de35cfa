/-
  Texts joined: XWordD XGrdF XGrdI. No condition.
-/
import Derived.BigQuiet
import Derived.Deep.RegionLaw
import Derived.Deep.Cut
import Derived.Deep.CutRange
import Derived.Deep.QuietTactic
import Derived.Test.YtfakdapglbgokaaI28
import Derived.Test.YtfakdapglbgokaaI3
import Derived.Test.YtfakdapglbgokaaI27
import Derived.Test.YtfakdapglbgokaaI29
import Derived.Test.YtfakdapglbgokaaI30
/-
  The references' ProgramFault. No condition.
-/
namespace Go.Proofs.Ytfakdapglbgokaa
set_option linter.all false
open Go.RowKit

set_option maxRecDepth 100000 in
set_option maxHeartbeats 4000000 in
theorem ProgramFault_any (slots : Int) (to_ co : Option Addr) (tc cc : Nat) (tabs : List Shape) (code : List Ins) (A : Nat → Prop) (w : World) (ht : RdL shapeLay A w to_ tabs.length tc tabs) (hc : RdL insLay A w co code.length cc code) :
    Calls Try.prog 48 #[.agg #[.int .i64 slots, .slice to_ tabs.length tc, .slice co code.length cc]] w fun e w' => e = .returned (.agg #[.int .i64 (progF ⟨slots, tabs, code⟩).1, .int .i64 (progF ⟨slots, tabs, code⟩).2]) ∧ Below w.heap.size w w' := by
  have htl := ht.lt
  have hcl := hc.lt
  by_cases h1 : slots < 0 ∨ 96 < slots
  · rw [progF_slots (p := ⟨slots, tabs, code⟩) h1]
    have h1' : slots < 0 ∨ (0 ≤ slots ∧ 96 < slots) := by omega
    rcases h1' with h | h
    all_goals
      go_enter Try.func48, Try.ntmps48
      go_wp2_with (go_at_call 90; refine (F_any _ _ _).mono ?_; rintro e w' ⟨rfl, rfl⟩)
      exact bodyPost_ret (v := .agg #[.int .i64 1, .int .i64 (-1)]) (by simp [results, Try.results48, go_sem]) rfl ⟨rfl, by go_grown⟩
  by_cases h2 : 5 < tabs.length ∨ code.length = 0 ∨ 60000 < code.length
  · rw [progF_many (p := ⟨slots, tabs, code⟩) h1 h2]
    have h1' : 0 ≤ slots ∧ slots ≤ 96 := by omega
    obtain ⟨h1a, h1b⟩ := h1'
    have h2' : (5 : Int) < tabs.length ∨ ((tabs.length : Int) ≤ 5 ∧ (code.length : Int) < 1) ∨ ((tabs.length : Int) ≤ 5 ∧ 1 ≤ (code.length : Int) ∧ (60000 : Int) < code.length) := by
      omega
    clear h1 h2
    rcases h2' with h | ⟨h, h'⟩ | ⟨h, h', h''⟩
    all_goals
      go_enter Try.func48, Try.ntmps48
      go_wp2_with (go_at_call 90; refine (F_any _ _ _).mono ?_; rintro e w' ⟨rfl, rfl⟩)
      exact bodyPost_ret (v := .agg #[.int .i64 2, .int .i64 (-1)]) (by simp [results, Try.results48, go_sem]) rfl ⟨rfl, by go_grown⟩
  have h1a : 0 ≤ slots := by omega
  have h1b : slots ≤ 96 := by omega
  have h2a : (tabs.length : Int) ≤ 5 := by omega
  have h2b : 1 ≤ (code.length : Int) := by omega
  have h2c : (code.length : Int) ≤ 60000 := by omega
  have h2d : 0 < code.length := by omega
  have N1 := Lib.hid h1
  have N2 := Lib.hid h2
  clear h1 h2
  have H : Kept (fun w' => (Below w.heap.size w w' ∧ Blk w' w.heap.size 63 #[.int .i64 slots, .slice to_ tabs.length tc, .slice co code.length cc]) ∧ Blk w' (w.heap.size + 1) 65 #[.int .i64 0, .int .i64 0]) ((w.alloc (.cells #[.int .i64 slots, .slice to_ tabs.length tc, .slice co code.length cc] 63)).alloc (.cells #[.int .i64 0, .int .i64 0] 65)) := by
    have := blk2 (rf ((w.alloc (.cells #[.int .i64 slots, .slice to_ tabs.length tc, .slice co code.length cc] 63)).alloc (.cells #[.int .i64 0, .int .i64 0] 65)))
    exact ⟨⟨this.1, this.2.1⟩, this.2.2⟩
  go_enter Try.func48, Try.ntmps48
  go_wp2_with fail
  generalize (w.alloc (.cells #[.int .i64 slots, .slice to_ tabs.length tc, .slice co code.length cc] 63)).alloc (.cells #[.int .i64 0, .int .i64 0] 65) = w1 at *
  go_loopw [3] (fun i wr => ∃ k : Nat, k ≤ tabs.length ∧ (∀ j, j < k → tabBad (nth tabs j) = false) ∧ i = .int .i64 k ∧ Below w1.heap.size w1 wr) (fun i _ => tabs.length - (intOf i).toNat)
  case atStart => exact ⟨0, Nat.zero_le _, fun j hj => absurd hj (Nat.not_lt_zero j), rfl, rf _⟩
  case round =>
    obtain ⟨k, hk, hno, rfl, hbr⟩ := hrel
    have HN := Lib.hid hno
    clear hno
    replace H := H.to hbr
    by_cases hlt : k < tabs.length
    · obtain ⟨b, off, rfl, _, hb, hwf, hc0, hc1, hc2⟩ := (ht.below H.out.1.1).shape_at hlt
      have hz := H.out.2.lt
      have hz0 := H.out.1.2.lt
      have hd1 := H.out.1.2.cell 1
      simp at hd1
      have hfr := H.out.2.frozen 0
      have hfr1 := H.out.2.frozen 1
      obtain ⟨hu, hv⟩ := H.out.2.two
      have hBr := H.out.1.1
      clear hwf
      by_cases hbad : tabBad (nth tabs k) = true
      · have HP := Lib.hid (progF_tab (p := ⟨slots, tabs, code⟩) N1.out N2.out HN.out hlt hbad)
        have hbad' : (nth tabs k).keys < 1 ∨ (1 ≤ (nth tabs k).keys ∧ 3 < (nth tabs k).keys) ∨ ((1 ≤ (nth tabs k).keys ∧ (nth tabs k).keys ≤ 3) ∧ (nth tabs k).acts < 1) ∨ ((1 ≤ (nth tabs k).keys ∧ (nth tabs k).keys ≤ 3) ∧ 1 ≤ (nth tabs k).acts ∧ 8 < (nth tabs k).acts) ∨ ((1 ≤ (nth tabs k).keys ∧ (nth tabs k).keys ≤ 3) ∧ (1 ≤ (nth tabs k).acts ∧ (nth tabs k).acts ≤ 8) ∧ (nth tabs k).args < 0) ∨ ((1 ≤ (nth tabs k).keys ∧ (nth tabs k).keys ≤ 3) ∧ (1 ≤ (nth tabs k).acts ∧ (nth tabs k).acts ≤ 8) ∧ 0 ≤ (nth tabs k).args ∧ 3 < (nth tabs k).args) := by
          unfold tabBad at hbad; simp at hbad; omega
        clear hbad
        rcases hbad' with h | ⟨h, h'⟩ | ⟨⟨h, h'⟩, h''⟩ | ⟨⟨h, h'⟩, h'', h3⟩ | ⟨⟨h, h'⟩, ⟨h'', h3⟩, h4⟩ | ⟨⟨h, h'⟩, ⟨h'', h3⟩, h4, h5⟩
        all_goals
          go_wp2_with (go_at_call 90; refine (F_any _ _ _).mono ?_; rintro e w' ⟨rfl, rfl⟩)
          exact bodyPost_ret (v := .agg #[.int .i64 1, .int .i64 (-2 - (k : Int))]) (by simp [results, Try.results48, go_sem, hu, hv, hfr, hfr1, hz, hz0]) rfl ⟨by rw [HP.out], by go_grown⟩
      · have hgood := tabBad_false (by simpa using hbad)
        obtain ⟨t1, t2, t3, t4, t5, t6⟩ := hgood
        have HN2 : Hid (∀ j, j < k + 1 → tabBad (nth tabs j) = false) := fun j hj => by
          by_cases e : j = k
          · subst e; simpa using hbad
          · exact HN.out j (by omega)
        clear hbad
        go_wp2_with fail
        go_roundw
        case rel => exact ⟨k + 1, by omega, HN2.out, by go_num, al hbr _⟩
        case measure => simp [intOf]; omega
    · obtain rfl : k = tabs.length := by omega
      have hz := H.out.2.lt
      have hz0 := H.out.1.2.lt
      have hd1 := H.out.1.2.cell 1
      have hd2 := H.out.1.2.cell 2
      simp at hd1 hd2
      clear hbr
      go_wp2_with fail
      obtain ⟨w2, hw2⟩ : ∃ w2, w2 = wr := ⟨_, rfl⟩
      rw [← hw2] at H hz hz0 hd1 hd2 ⊢
      clear hw2 hd1 hd2 hz hz0
      go_loopw [5] (fun i wr => ∃ k : Nat, k ≤ code.length ∧ (∀ j, j < k → insBad slots tabs code j = false) ∧ i = .int .i64 k ∧ Below w2.heap.size w2 wr) (fun i _ => code.length - (intOf i).toNat)
      case atStart => exact ⟨0, Nat.zero_le _, fun j hj => absurd hj (Nat.not_lt_zero j), rfl, rf _⟩
      case round =>
        obtain ⟨k, hk, hno2, rfl, hbr⟩ := hrel
        have HM := Lib.hid hno2
        clear hno2
        replace H := H.to hbr
        have hz := H.out.2.lt
        have hz0 := H.out.1.2.lt
        have hd0 := H.out.1.2.cell 0
        have hd1 := H.out.1.2.cell 1
        have hd2 := H.out.1.2.cell 2
        simp at hd0 hd1 hd2
        by_cases hlt : k < code.length
        · obtain ⟨b, off, rfl, _, hb, hwf, hc0, hc1, hc2, hc3, hc4, hc5⟩ := (hc.below H.out.1.1).ins_at hlt
          go_upto_region 14 with (fail)
          go_cut [92] from 78 to 123 (fun s wc => s = .bool (!insOk slots tabs (nth code k)) ∧ Below wr.heap.size wr wc)
          case first =>
            go_region_law ((go_simp; go_at_call 98; refine (insForm_any _ _ _ _ _ _ _ _ A _ ((ht.below H.out.1.1).below (below_drewN_ (rf _) _)) HN.out hwf ⟨h1a, h1b⟩).mono ?_; rintro e w3 ⟨rfl, hb3⟩))
            all_goals
              go_wp2_with fail
              go_meet
              case rel => exact ⟨rfl, by first | exact hb3 | exact ov (below_drewN_ (rf _) _) hb3⟩
          case rest =>
          obtain ⟨rfl, hb3⟩ := hcut
          obtain ⟨w3, hw3⟩ : ∃ w3, w3 = wc := ⟨_, rfl⟩
          rw [← hw3] at hb3 ⊢
          clear hw3
          have HB2 := hbr.trans (hb3.mono hbr.size)
          have H3 := H.to hb3
          clear hz hz0 hd0 hd1 hd2 hb
          replace hc0 := keep hc0 hb3
          replace hc4 := keep hc4 hb3
          clear hb3 hc1 hc2 hc3 hc5
          have hz := H3.out.2.lt
          have hz0 := H3.out.1.2.lt
          have hd0 := H3.out.1.2.cell 0
          have hd1 := H3.out.1.2.cell 1
          have hd2 := H3.out.1.2.cell 2
          have hfr := H3.out.2.frozen 0
          have hfr1 := H3.out.2.frozen 1
          obtain ⟨hu, hv⟩ := H3.out.2.two
          have hBr := H3.out.1.1
          simp at hd0 hd1 hd2
          by_cases hI : insOk slots tabs (nth code k) = true
          case neg =>
            have hI' : insOk slots tabs (nth code k) = false := by simpa using hI
            have HP := progF_ins (p := ⟨slots, tabs, code⟩) N1.out N2.out HN.out HM.out hlt (insBad_form hI')
            rw [hI'] at HP
            replace HP := Lib.hid HP
            have hqI : (!insOk slots tabs (nth code k)) = true := by rw [hI']; rfl
            clear hI' hI
            rw [hqI]
            go_wp2_with (go_at_call 90; refine (F_any _ _ _).mono ?_; rintro e w' ⟨rfl, rfl⟩)
            exact bodyPost_ret (v := .agg #[.int .i64 4, .int .i64 (k : Int)]) (by simp [results, Try.results48, go_sem, hu, hv, hfr, hfr1, hz, hz0]) rfl ⟨by rw [HP.out]; rfl, by go_grown⟩
          have hqI : (!insOk slots tabs (nth code k)) = false := by rw [hI]; rfl
          have hto := hwf.2.2.2.2.1.i64
          clear hwf
          rw [hqI]
          go_wp2_with fail
          refine (fieldsOf_any _ _).mono ?_
          rintro e w4 ⟨rfl, hb4⟩
          have HB4 := (HB2.trans (hb4.mono HB2.size)).alloc (Nat.le_trans HB2.size hb4.size) (.cells #[.bool (hasR (nth code k).op), .bool (hasS (nth code k).op), .bool (hasK (nth code k).op), .bool (hasT (nth code k).op), .bool (hasN (nth code k).op)] 125)
          have H4 := H3.to hb4
          clear hz hz0 hd0 hd1 hd2 hfr hfr1 hu hv hBr
          replace hc0 := keep hc0 hb4
          replace hc4 := keep hc4 hb4
          clear hb4
          have hbl := block_lt_of_cell hc4
          simp only at hbl
          have hz := H4.out.2.lt
          have hz0 := H4.out.1.2.lt
          have hd2 := H4.out.1.2.cell 2
          have hfr := H4.out.2.frozen 0
          have hfr1 := H4.out.2.frozen 1
          obtain ⟨hu, hv⟩ := H4.out.2.two
          have hBr := H4.out.1.1
          simp at hd2
          by_cases hT : hasT (nth code k).op = true
          case neg =>
            have hT' : hasT (nth code k).op = false := by simpa using hT
            have hnb : Hid (∀ j, j < k + 1 → insBad slots tabs code j = false) := fun j hj => by
              by_cases e : j = k
              · subst e; rw [insBad_ok hI]; unfold jumpBad; rw [hT']; rfl
              · exact HM.out j (by omega)
            rw [hT'] at HB4 ⊢
            clear hT hT'
            go_wp2_with fail
            go_quiet (fail)
            go_wp2_with fail
            go_roundw
            case rel => exact ⟨k + 1, by omega, hnb.out, by go_num, below_drewN_ HB4 _⟩
            case measure => simp [intOf]; omega
          by_cases hJ : (code.length : Int) - k - 1 ≤ (nth code k).to
          · have HP := progF_ins (p := ⟨slots, tabs, code⟩) N1.out N2.out HN.out HM.out hlt (by show insBad slots tabs code k = true; rw [insBad_ok hI]; unfold jumpBad; rw [hT]; simpa using hJ)
            rw [hI] at HP
            replace HP := Lib.hid HP
            have hJ' : (code.length : Int) - 1 - k ≤ (nth code k).to := by omega
            rw [hT]
            clear hT hJ HB4
            go_wp2_with fail
            go_quiet (fail)
            go_wp2_with (go_at_call 90; refine (F_any _ _ _).mono ?_; rintro e w' ⟨rfl, rfl⟩)
            have hX := (((below_drewN_ (hBr.alloc hBr.size (.cells #[.bool (hasR (nth code k).op), .bool (hasS (nth code k).op), .bool (hasK (nth code k).op), .bool true, .bool (hasN (nth code k).op)] 125)) nq).setCell (p := ⟨w.heap.size + 1, 0, none⟩) (Nat.le_succ _) (.int .i64 17)).setCell (p := ⟨w.heap.size + 1, 1, none⟩) (Nat.le_succ _) (.int .i64 (k : Int)))
            exact bodyPost_ret (v := .agg #[.int .i64 17, .int .i64 (k : Int)]) (by simp [results, Try.results48, go_sem, hu, hv, hfr, hfr1, hz, hz0]) rfl ⟨by rw [HP.out]; rfl, hX.alloc hX.size _⟩
          · have hnb : Hid (∀ j, j < k + 1 → insBad slots tabs code j = false) := fun j hj => by
              by_cases e : j = k
              · subst e; rw [insBad_ok hI]; unfold jumpBad; rw [hT]; simpa using hJ
              · exact HM.out j (by omega)
            have hJ' : (nth code k).to < (code.length : Int) - 1 - k := by omega
            rw [hT] at HB4 ⊢
            clear hT hJ
            go_wp2_with fail
            go_quiet (fail)
            go_wp2_with fail
            go_roundw
            case rel => exact ⟨k + 1, by omega, hnb.out, by go_num, below_drewN_ HB4 _⟩
            case measure => simp [intOf]; omega
        · obtain rfl : k = code.length := by omega
          have hfr := H.out.2.frozen 0
          have hfr1 := H.out.2.frozen 1
          obtain ⟨hu, hv⟩ := H.out.2.two
          have hBr := H.out.1.1
          have hwb := H.out.1.1.size
          obtain ⟨b, off, rfl, _, hb, hwf, hc0, hc1, hc2, hc3, hc4, hc5⟩ := (hc.below H.out.1.1).ins_at (i := code.length - 1) (by omega)
          have HP := Lib.hid (progF_end (p := ⟨slots, tabs, code⟩) N1.out N2.out HN.out HM.out)
          clear hc1 hc2 hc3 hc4 hc5 hwf
          by_cases e6 : (nth code (code.length - 1)).op = 16
          · have q6 : ((nth code (code.length - 1)).op != 16) = false := by rw [e6]; rfl
            have hE : isEnd (nth code (code.length - 1)).op = true := by rw [e6]; rfl
            clear e6
            go_wp2_with fail
            exact bodyPost_ret (v := .agg #[.int .i64 0, .int .i64 0]) (by simp [results, Try.results48, go_sem, hu, hv, hfr, hfr1, hz, hz0]) rfl ⟨by rw [HP.out, if_pos hE], by go_grown⟩
          have q6 : ((nth code (code.length - 1)).op != 16) = true := by rw [bne_iff_ne]; exact e6
          by_cases e7 : (nth code (code.length - 1)).op = 17
          · have q7 : ((nth code (code.length - 1)).op != 17) = false := by rw [e7]; rfl
            have hE : isEnd (nth code (code.length - 1)).op = true := by rw [e7]; rfl
            clear e6 e7
            go_wp2_with fail
            exact bodyPost_ret (v := .agg #[.int .i64 0, .int .i64 0]) (by simp [results, Try.results48, go_sem, hu, hv, hfr, hfr1, hz, hz0]) rfl ⟨by rw [HP.out, if_pos hE], by go_grown⟩
          have q7 : ((nth code (code.length - 1)).op != 17) = true := by rw [bne_iff_ne]; exact e7
          have hE' : isEnd (nth code (code.length - 1)).op = false := by unfold isEnd; simp [e6, e7]
          clear e6 e7
          go_wp2_with (go_at_call 90; refine (F_any _ _ _).mono ?_; rintro e w' ⟨rfl, rfl⟩)
          exact bodyPost_ret (v := .agg #[.int .i64 18, .int .i64 ((code.length : Int) - 1)]) (by simp [results, Try.results48, go_sem, hu, hv, hfr, hfr1, hz, hz0]) rfl ⟨by rw [HP.out, hE']; rfl, by go_grown⟩
end Go.Proofs.Ytfakdapglbgokaa

/-
  Package guard, in the plain machine: what is known of package word, brought in. No condition.
-/
namespace Go.Proofs.Ytfakdapglbgokaa
set_option linter.all false
open Go.RowKit
theorem reps_ints {w : World} {A : Nat → Prop} {ρ : Plan_} : ∀ (l : List (IntKind × Int)) {vs : List Value}, Reps w A ρ (l.map fun p => .int p.1 p.2) vs → vs = l.map fun p => .int p.1 p.2
  | [], vs, h => h.nil_inv
  | p :: l, vs, h => by
    obtain ⟨v, us, rfl, h1, h2⟩ := Reps.cons_inv (x := .int p.1 p.2) (xs := l.map fun p => .int p.1 p.2) h
    cases h1
    rw [reps_ints l h2]; rfl
theorem view_flat {α : Type} {size : Nat} {enc : α → List Value} {ok : α → Prop} {hl : ∀ a, (enc a).length = size} {f : α → List SV} (hf : ∀ w A x vs, Reps w A noPl (f x) vs → vs = enc x) (hsz : ∀ x, (f x).length = size)
    {A : Nat → Prop} {w : World} {ρ : Plan_} {xs : List α} {v : Value} (h : RepV w A ρ (.view size (xs.map f)) v) (hok : ∀ x ∈ xs, ok x) : ∃ ao c, v = .slice ao xs.length c ∧ RdL (Lay.flat size enc ok hl) A w ao xs.length c xs := by
  generalize hes : xs.map f = es at h
  cases h with
  | view0 hc ha =>
    have : xs = [] := List.map_eq_nil_iff.1 hes
    subst this
    exact ⟨_, _, rfl, rfl, Nat.zero_le _, hc, ha, fun h => absurd h (by simp)⟩
  | view cv hn hc hm hA hb hz h1 h2 ho =>
    rename_i b off n c
    have hn' : xs.length = n := by rw [← hn, ← hes, List.length_map]
    subst hn'
    refine ⟨_, _, rfl, rfl, hc, hm, (fun e => by cases e), fun _ => ⟨b, off, rfl, hA, hb, fun i hi => ?_⟩⟩
    have hi' : es[i]? = some (f xs[i]) := by rw [← hes, List.getElem?_map, List.getElem?_eq_getElem hi]; rfl
    have hr : Reps w A noPl (f xs[i]) ((List.range size).map (cv i)) := by
      refine ⟨by rw [hsz]; simp, fun j x u hx hu => ?_⟩
      have := h2 i _ j x hi' hx
      rw [List.getElem?_map, Option.map_eq_some_iff] at hu
      obtain ⟨k, hk, rfl⟩ := hu
      obtain ⟨hk1, hk2⟩ := List.getElem?_eq_some_iff.1 hk
      rw [List.getElem_range] at hk2
      subst hk2
      exact this
    have he := hf _ _ _ _ hr
    refine ⟨enc xs[i], ⟨rfl, hok _ (List.getElem_mem hi)⟩, fun j hj => ?_⟩
    have hx : (f xs[i])[j]? = some ((f xs[i])[j]'(by rw [hsz]; exact hj)) := List.getElem?_eq_getElem _
    show w.cell? ⟨b, off + i * size + j, none⟩ = _
    have hj' : j < size := hj
    rw [h1 i _ j _ hi' hx, ← he, List.getElem?_map, List.getElem?_range hj']; rfl
theorem view_shapes {A : Nat → Prop} {w : World} {ρ : Plan_} {xs : List Shape} {v : Value} (h : RepV w A ρ (.view 3 (xs.map scv)) v) (hok : ∀ x ∈ xs, x.wf) : ∃ ao c, v = .slice ao xs.length c ∧ RdL shapeLay A w ao xs.length c xs :=
  view_flat (f := scv) (fun w A x vs h => reps_ints [(.i64, x.keys), (.i64, x.acts), (.i64, x.args)] h) (fun _ => rfl) h hok
theorem view_ins {A : Nat → Prop} {w : World} {ρ : Plan_} {xs : List Ins} {v : Value} (h : RepV w A ρ (.view 6 (xs.map icv)) v) (hok : ∀ x ∈ xs, x.wf) : ∃ ao c, v = .slice ao xs.length c ∧ RdL insLay A w ao xs.length c xs :=
  view_flat (f := icv) (fun w A x vs h => reps_ints [(.i64, x.op), (.i64, x.r), (.i64, x.s), (.i64, x.k), (.i64, x.to), (.u64, x.n)] h) (fun _ => rfl) h hok
structure PWf (p : Prog) : Prop where
  t : ∀ x ∈ p.tabs, x.wf
  c : ∀ x ∈ p.code, x.wf
def pcv (p : Prog) : List SV := [.int .i64 p.slots, .view 3 (p.tabs.map scv), .view 6 (p.code.map icv)]
theorem rep_prog {A : Nat → Prop} {w : World} {ρ : Plan_} {p : Prog} {v : Value} (h : RepV w A ρ (.agg (pcv p)) v) (hp : PWf p) : ∃ to_ tc co cc, v = .agg #[.int .i64 p.slots, .slice to_ p.tabs.length tc, .slice co p.code.length cc] ∧ RdL shapeLay A w to_ p.tabs.length tc p.tabs ∧ RdL insLay A w co p.code.length cc p.code := by
  cases h with
  | agg ho hl hh =>
    obtain ⟨v1, u1, rfl, h1, r1⟩ := Reps.cons_inv ⟨hl, hh⟩
    obtain ⟨v2, u2, rfl, h2, r2⟩ := Reps.cons_inv r1
    obtain ⟨v3, u3, rfl, h3, r3⟩ := Reps.cons_inv r2
    have := r3.nil_inv
    subst this
    cases h1
    obtain ⟨ao, c, rfl, q1⟩ := view_shapes h2 hp.t
    obtain ⟨co, cc, rfl, q2⟩ := view_ins h3 hp.c
    exact ⟨_, _, _, _, rfl, q1, q2⟩
def faultV (e : Int × Int) : SV := .agg [.int .i64 e.1, .int .i64 e.2]
theorem rep_fault {A : Nat → Prop} {w : World} {ρ : Plan_} (e : Int × Int) : RepV w A ρ (faultV e) (.agg #[.int .i64 e.1, .int .i64 e.2]) :=
  .agg (vs := [.int .i64 e.1, .int .i64 e.2]) (fun v hv => by simp at hv; rcases hv with rfl | rfl <;> rfl) rfl (Reps.cons .int (Reps.cons .int Reps.nil)).2
theorem wcheck_s (p : Prog) (hp : PWf p) (q : Nat) : SCalls Try.prog 52 [.agg (pcv p)] [] q (faultV (progF p)) [] := by
  refine scalls_in (Enters.of Try.func52 rfl rfl) (fun O w vs hO h => ?_) (fun σ => rfl) q
  obtain ⟨v, us, rfl, h1, h2⟩ := Reps.cons_inv h
  have := h2.nil_inv; subst this
  obtain ⟨to_, tc, co, cc, rfl, q1, q2⟩ := rep_prog h1 hp
  refine (Check_any p.slots to_ co tc cc p.tabs p.code O w q1 q2).mono ?_
  rintro e w' ⟨rfl, hb⟩
  exact ⟨_, rfl, hb, rep_fault _⟩
theorem rcheck_s (p : Prog) (hp : PWf p) (q : Nat) : SCalls Try.prog 48 [.agg (pcv p)] [] q (faultV (progF p)) [] := by
  refine scalls_in (Enters.of Try.func48 rfl rfl) (fun O w vs hO h => ?_) (fun σ => rfl) q
  obtain ⟨v, us, rfl, h1, h2⟩ := Reps.cons_inv h
  have := h2.nil_inv; subst this
  obtain ⟨to_, tc, co, cc, rfl, q1, q2⟩ := rep_prog h1 hp
  refine (ProgramFault_any p.slots to_ co tc cc p.tabs p.code O w q1 q2).mono ?_
  rintro e w' ⟨rfl, hb⟩
  exact ⟨_, rfl, hb, rep_fault _⟩
theorem ends_s (op : Int) (q : Nat) : SCalls Try.prog 54 [.int .i64 op] [] q (.bool (isEnd op)) [] := by
  refine scalls_in (Enters.of Try.func54 rfl rfl) (fun O w vs hO h => ?_) (fun σ => rfl) q
  obtain ⟨v, us, rfl, h1, h2⟩ := Reps.cons_inv h
  have := h2.nil_inv; subst this
  cases h1
  refine (Ends_any op w).mono ?_
  rintro e w' ⟨rfl, rfl⟩
  exact ⟨_, rfl, .refl _ _, .bool⟩
theorem fieldsOf_s (op : Int) (q : Nat) : SCalls Try.prog 89 [.int .i64 op] [] q (.tup [.agg [.bool (hasR op), .bool (hasS op), .bool (hasK op), .bool (hasT op), .bool (hasN op)], .bool (isOp op)]) [] := by
  refine scalls_in (Enters.of Try.func89 rfl rfl) (fun O w vs hO h => ?_) (fun σ => rfl) q
  obtain ⟨v, us, rfl, h1, h2⟩ := Reps.cons_inv h
  have := h2.nil_inv; subst this
  cases h1
  refine (fieldsOf_any op w).mono ?_
  rintro e w' ⟨rfl, hb⟩
  refine ⟨_, rfl, hb, .tup (vs := [.agg #[.bool (hasR op), .bool (hasS op), .bool (hasK op), .bool (hasT op), .bool (hasN op)], .bool (isOp op)]) rfl (Reps.cons (.agg (vs := [.bool (hasR op), .bool (hasS op), .bool (hasK op), .bool (hasT op), .bool (hasN op)]) ?_ rfl (Reps.cons .bool (Reps.cons .bool (Reps.cons .bool (Reps.cons .bool (Reps.cons .bool Reps.nil))))).2) (Reps.cons .bool Reps.nil)).2⟩
  intro v hv; simp at hv; rcases hv with rfl | rfl | rfl | rfl | rfl <;> rfl
theorem pgreat_s (p : Prog) (hp : PWf p) (q : Nat) : SCalls Try.prog 46 [.agg (pcv p)] [] q (.bool (greatB p)) [] := by
  refine scalls_in (Enters.of Try.func46 rfl rfl) (fun O w vs hO h => ?_) (fun σ => rfl) q
  obtain ⟨v, us, rfl, h1, h2⟩ := Reps.cons_inv h
  have := h2.nil_inv; subst this
  obtain ⟨to_, tc, co, cc, rfl, q1, q2⟩ := rep_prog h1 hp
  refine (GreatProgram_any p.slots to_ co p.tabs.length p.code.length tc cc w q1.lt q2.lt).mono ?_
  rintro e w' ⟨rfl, hb⟩
  exact ⟨_, rfl, hb, .bool⟩
theorem psame_s (p p' : Prog) (hp : PWf p) (hp' : PWf p') (q : Nat) : SCalls Try.prog 35 [.agg (pcv p), .agg (pcv p')] [] q (.bool (decide (p = p'))) [] := by
  refine scalls_in (Enters.of Try.func35 rfl rfl) (fun O w vs hO h => ?_) (fun σ => rfl) q
  obtain ⟨v, us, rfl, h1, h2⟩ := Reps.cons_inv h
  obtain ⟨v', us', rfl, h3, h4⟩ := Reps.cons_inv h2
  have := h4.nil_inv; subst this
  obtain ⟨to_, tc, co, cc, rfl, q1, q2⟩ := rep_prog h1 hp
  obtain ⟨to', tc', co', cc', rfl, q3, q4⟩ := rep_prog h3 hp'
  refine (SameProgram_any p.slots p'.slots to_ co to' co' tc cc tc' cc' p.tabs p'.tabs p.code p'.code O O w q1 q2 q3 q4).mono ?_
  rintro e w' ⟨rfl, hb⟩
  exact ⟨_, rfl, hb, .bool⟩
end Go.Proofs.Ytfakdapglbgokaa

/-
  The reference of package guard, in the plain machine: needs, ownKnows, some. No condition.
-/
namespace Go.Proofs.Ytfakdapglbgokaa
set_option linter.all false
open Go.RowKit
attribute [local simp] sops_nil sops_run sopsk_some sops_call sops_guard sopsg_yes sopsg_tf sopsg_ft sopsg_undef rg_true SOp.run SX.ev putd puts argS upds SOp.touch SSt.keep SSt.skip gets geth puth delh idOf SV.cells? setL fillS fillR sbin eq0 eq1 eqL rowOf qseq_n qseq_e qseq_r qblock_n qblock_r qblock_e qloop_e qloop_r take_map_len FrzOk pureV_int pureV_bool pureV_str pureV_nil pureV_nilsl pureV_view pureV_cp pureL_nil_ pureL_cons_ pureO_row pureO_cells frzS frzH frz frz1 frz0 SlotsM ObjsM ObjM rn ren ren1 ren0 co_self co_int co_own co_view co_nilsl co_agg co_tup CoL coll_self mergeH dels adds idsH okNames
theorem needs_s (x : Ins) (hop : isOp x.op = true) : SCalls Try.prog 146 [.agg (icv x)] [] 0 (iv (usesL x)) [] := by
  refine scalls_of (N := 31) Try.func146 rfl rfl (by kernel_rfl) comp_c_needs (by simp) ⟨rfl, trivial⟩ trivial ?_
  rintro X hP hN hm
  have hc := op_cases hop
  have fin0 : ∀ y nx, usesL x = [] → QFun X (Try.f146).results.toList 0 (iv (usesL x)) [] .ret ⟨[(2, .nilsl)], [(0, y)], nx⟩ := fun y nx h => by
    rw [h]
    exact qfun_done (s' := ⟨[(2, .view 1 [])], [], 0⟩) (wk_list [] hm rfl (by simp) (by simp -implicitDefEqProofs) trivial) (by simp -implicitDefEqProofs [hP, resOf, resL, resV, one_, iv]) trivial (by simp)
  have fin1 : ∀ y id a nx, id ≠ 0 → usesL x = [a] → QFun X (Try.f146).results.toList 0 (iv (usesL x)) [] .ret ⟨[(2, .own id 1)], [(0, y), (id, .row 3 1 [[.int .i64 a]])], nx⟩ := fun y id a nx h0 h => by
    have h0' := Ne.symm h0
    rw [h]
    exact qfun_done (s' := ⟨[(2, .view 1 [[.int .i64 a]])], [], 0⟩) (wk_fz [id] [] hm (by simp) (by simp -implicitDefEqProofs [h0, h0']) rfl (by simp) (by simp -implicitDefEqProofs [h0, h0']) trivial) (by simp -implicitDefEqProofs [hP, resOf, resL, resV, one_, iv]) trivial (by simp)
  have fin2 : ∀ y id a b nx, id ≠ 0 → usesL x = [a, b] → QFun X (Try.f146).results.toList 0 (iv (usesL x)) [] .ret ⟨[(2, .own id 2)], [(0, y), (id, .row 3 1 [[.int .i64 a], [.int .i64 b]])], nx⟩ := fun y id a b nx h0 h => by
    have h0' := Ne.symm h0
    rw [h]
    exact qfun_done (s' := ⟨[(2, .view 1 [[.int .i64 a], [.int .i64 b]])], [], 0⟩) (wk_fz [id] [] hm (by simp) (by simp -implicitDefEqProofs [h0, h0']) rfl (by simp) (by simp -implicitDefEqProofs [h0, h0']) trivial) (by simp -implicitDefEqProofs [hP, resOf, resL, resV, one_, iv]) trivial (by simp)
  replace hc := Lib.hid hc
  unfold c_needs
  repeat' (first
      | (with_reducible refine swp_seq ?_)
      | ((with_reducible refine swp_reg ?_); (try rw [hP]); simp -implicitDefEqProofs [icv, *])
      | ((with_reducible refine swp_regd (by rw [hP]; exact mixed) ?_); (try rw [hP]); simp -implicitDefEqProofs [icv, *])
      | ((with_reducible refine swp_skip ?_); (try simp -implicitDefEqProofs [icv, *]))
      | ((with_reducible refine swp_exit ?_); (try simp -implicitDefEqProofs [icv, *]))
      | ((with_reducible refine swp_ret ?_); (try simp only [qseq_r, qblock_r, qloop_r]))
      | ((with_reducible refine swp_cond rfl (fun h => ?_) (fun h => ?_)) <;> have h' := h <;> (try simp at h') <;> (try subst h'))
      | ((with_reducible refine sopsg_cases (fun h => ?_) (fun h => ?_)) <;> have h' := h <;> (try simp at h') <;> (try subst h') <;> simp -implicitDefEqProofs [icv, *])
      | ((with_reducible refine draw_ok ?_ ?_); (focus rfl))
      | ((with_reducible refine sopsk_rg ?_ ?_); (first | omega | (unfold maxLen; omega)); simp -implicitDefEqProofs [icv, *])
      | (with_reducible refine swp_block1 ?_)
      | (with_reducible refine swp_block2 ?_)
      | (refine fin0 _ _ ?_)
      | (refine fin1 _ _ _ _ (by decide) ?_)
      | (refine fin2 _ _ _ _ _ (by decide) ?_))
  all_goals (have hc := hc.out; unfold usesL; simp_all)
  all_goals omega
def bcs (l : List Bool) : List (List SV) := l.map fun b => [.bool b]
def ucs (l : List Int) : List (List SV) := l.map fun b => [.int .u64 b]
def ics (l : List Int) : List (List SV) := l.map fun b => [.int .i64 b]
theorem bcs_len (l : List Bool) : (bcs l).length = l.length := by simp [bcs]
theorem ucs_len (l : List Int) : (ucs l).length = l.length := by simp [ucs]
theorem ics_len (l : List Int) : (ics l).length = l.length := by simp [ics]
theorem bcs_ren (σ : Nat → Nat) (l : List Bool) : (bcs l).map (·.map (ren σ)) = bcs l := by unfold bcs; rw [List.map_map]; rfl
theorem ucs_ren (σ : Nat → Nat) (l : List Int) : (ucs l).map (·.map (ren σ)) = ucs l := by unfold ucs; rw [List.map_map]; rfl
theorem ics_ren (σ : Nat → Nat) (l : List Int) : (ics l).map (·.map (ren σ)) = ics l := by unfold ics; rw [List.map_map]; rfl
theorem bcs_ok2 (l : List Bool) : ∀ x ∈ bcs l, x.all ok2 = true := fun x hx => by obtain ⟨b, _, rfl⟩ := List.mem_map.1 hx; rfl
theorem ucs_ok2 (l : List Int) : ∀ x ∈ ucs l, x.all ok2 = true := fun x hx => by obtain ⟨b, _, rfl⟩ := List.mem_map.1 hx; rfl
theorem ics_ok2 (l : List Int) : ∀ x ∈ ics l, x.all ok2 = true := fun x hx => by obtain ⟨b, _, rfl⟩ := List.mem_map.1 hx; rfl
/-- What the reference knows: as lists. -/
structure RK where
  there : Bool
  set : List Bool
  just : List Bool
  num : List Int
  room : List Int
  slot : List Bool
def RK.cv (k : RK) : List SV := [.bool k.there, .view 1 (bcs k.set), .view 1 (bcs k.just), .view 1 (ucs k.num), .view 1 (ics k.room), .view 1 (bcs k.slot)]
def RK.own (k : RK) (q : Nat) : List SV := [.bool k.there, .own q k.set.length, .own (q + 1) k.just.length, .own (q + 2) k.num.length, .own (q + 3) k.room.length, .own (q + 4) k.slot.length]
def RK.hp (k : RK) (q : Nat) : Hp := [(q, .row 4 1 (bcs k.set)), (q + 1, .row 4 1 (bcs k.just)), (q + 2, .row 23 1 (ucs k.num)), (q + 3, .row 3 1 (ics k.room)), (q + 4, .row 4 1 (bcs k.slot))]
structure RK.Small (k : RK) : Prop where
  set : k.set.length ≤ 96
  just : k.just.length ≤ 96
  num : k.num.length ≤ 96
  room : k.room.length ≤ 96
  slot : k.slot.length ≤ 96
theorem agg_knows : aggOf Try.prog 162 = some true := by kernel_rfl
theorem size_knows : sizeOf_ Try.prog 162 = some 6 := by kernel_rfl
theorem okn_s (k : RK) (hk : k.Small) : SCalls Try.prog 147 [.agg k.cv] [] 0 (.agg (k.own 0)) (k.hp 0) := by
  obtain ⟨a1, a2, a3, a4, a5⟩ := hk
  have b1 : (bcs k.set).length ≤ maxLen := by simp [maxLen, bcs_len]; omega
  have b2 : (bcs k.just).length ≤ maxLen := by simp [maxLen, bcs_len]; omega
  have b3 : (ucs k.num).length ≤ maxLen := by simp [maxLen, ucs_len]; omega
  have b4 : (ics k.room).length ≤ maxLen := by simp [maxLen, ics_len]; omega
  have b5 : (bcs k.slot).length ≤ maxLen := by simp [maxLen, bcs_len]; omega
  have c1 : (bcs k.set).length * 1 ≤ 140737488355328 := by simp [bcs_len]; omega
  have c2 : (bcs k.just).length * 1 ≤ 140737488355328 := by simp [bcs_len]; omega
  have c3 : (ucs k.num).length * 8 ≤ 140737488355328 := by simp [ucs_len]; omega
  have c4 : (ics k.room).length * 8 ≤ 140737488355328 := by simp [ics_len]; omega
  have c5 : (bcs k.slot).length * 1 ≤ 140737488355328 := by simp [bcs_len]; omega
  refine scalls_of (N := 31) Try.func147 rfl rfl (by kernel_rfl) comp_c_okn (by simp) ⟨rfl, trivial⟩ trivial ?_
  rintro X hP hN hm
  unfold c_okn
  repeat' (first
      | (with_reducible refine swp_seq ?_)
      | ((with_reducible refine swp_reg ?_); (try rw [hP]); simp -implicitDefEqProofs [RK.cv, *])
      | ((with_reducible refine swp_regd (by rw [hP]; exact mixed) ?_); (try rw [hP]); simp -implicitDefEqProofs [RK.cv, *])
      | ((with_reducible refine swp_skip ?_); (try simp -implicitDefEqProofs [RK.cv, *]))
      | ((with_reducible refine swp_exit ?_); (try simp -implicitDefEqProofs [RK.cv, *]))
      | ((with_reducible refine swp_ret ?_); (try simp only [qseq_r, qblock_r, qloop_r]))
      | ((with_reducible refine swp_cond rfl (fun h => ?_) (fun h => ?_)) <;> have h' := h <;> (try simp at h') <;> (try subst h'))
      | ((with_reducible refine sopsg_cases (fun h => ?_) (fun h => ?_)) <;> have h' := h <;> (try simp at h') <;> (try subst h') <;> simp -implicitDefEqProofs [RK.cv, *])
      | ((with_reducible refine draw_ok ?_ ?_); (focus rfl))
      | ((with_reducible refine sopsk_rg ?_ ?_); (first | omega | (unfold maxLen; omega)); simp -implicitDefEqProofs [RK.cv, *])
      | (with_reducible refine swp_block1 ?_)
      | (with_reducible refine swp_block2 ?_))
  refine qfun_done (s' := ⟨[(2, .ptr 5 0)], k.hp 0 ++ [(5, .cells 162 (k.own 0))], 6⟩) (wk_list [(5, 1), (0, 12), (1, 16), (2, 20), (3, 24), (4, 28)] hm rfl (by simp) (by simp -implicitDefEqProofs) ?_) ?_ ⟨rfl, rfl, rfl, rfl, rfl, trivial⟩ (by simp)
  · refine And.intro ⟨_, rfl, rfl, rfl, ?_⟩ (And.intro ⟨_, rfl, rfl, rfl, ?_⟩ (And.intro ⟨_, rfl, rfl, rfl, ?_⟩ (And.intro ⟨_, rfl, rfl, rfl, ?_⟩ (And.intro ⟨_, rfl, rfl, rfl, ?_⟩ (And.intro ⟨_, rfl, rfl, ?_⟩ trivial)))))
    · rw [bcs_ren]; exact .refl _
    · rw [bcs_ren]; exact .refl _
    · rw [ucs_ren]; exact .refl _
    · rw [ics_ren]; exact .refl _
    · rw [bcs_ren]; exact .refl _
    · rw [bcs_len, bcs_len, ucs_len, ics_len, bcs_len]; exact .refl _
  · simp -implicitDefEqProofs [hP, resOf, resL, resV, agg_knows, size_knows, one_, RK.own, RK.hp]
/-- Under other names. -/
theorem call_okn (k : RK) (hk : k.Small) (q : Nat) : SCalls Try.prog 147 [.agg k.cv] [] q (.agg (k.own q)) (k.hp q) := by
  have e : ∀ i, i < 8 → sg [] q i = q + i := fun i hi => by unfold sg; simp [hi]
  have e0 := e 0 (by omega)
  have e1 := e 1 (by omega)
  have e2 := e 2 (by omega)
  have e3 := e 3 (by omega)
  have e4 := e 4 (by omega)
  refine scalls_ren [] (okn_s k hk) rfl (by simp) (by simp) rfl trivial (by simp [idsH]) ?_ rfl ?_ (by simp [idsH, RK.hp]) ?_
  · simp [RK.own, ren, ren1, ren0, e0, e1, e2, e3, e4]
  · refine And.intro ⟨.row 4 1 (bcs k.set), ?_, rfl, rfl, bcs_ok2 _, (bcs_ren _ _).symm⟩ (And.intro ⟨.row 4 1 (bcs k.just), ?_, rfl, rfl, bcs_ok2 _, (bcs_ren _ _).symm⟩ (And.intro ⟨.row 23 1 (ucs k.num), ?_, rfl, rfl, ucs_ok2 _, (ucs_ren _ _).symm⟩ (And.intro ⟨.row 3 1 (ics k.room), ?_, rfl, rfl, ics_ok2 _, (ics_ren _ _).symm⟩ (And.intro ⟨.row 4 1 (bcs k.slot), ?_, rfl, rfl, bcs_ok2 _, (bcs_ren _ _).symm⟩ trivial))))
    · rw [e0]; simp [RK.hp, geth]
    · rw [e1]; simp [RK.hp, geth]
    · rw [e2]; simp [RK.hp, geth]
    · rw [e3]; simp [RK.hp, geth]
    · rw [e4]; simp [RK.hp, geth]
  · simp [idsH, RK.hp, e0, e1, e2, e3, e4]
end Go.Proofs.Ytfakdapglbgokaa
