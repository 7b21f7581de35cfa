/-
  The references' ProgramFault. No condition.
-/
import Derived.Test.YtfakdapglbgokaaWordR
import Derived.Test.YtfakdapglbgokaaBitsW
import Derived.BigQuiet
import Derived.Deep.RegionLaw
import Derived.Deep.Cut
import Derived.Deep.CutRange
import Derived.Deep.QuietTactic
namespace Go.Proofs.Ytfakdapglbgokaa
set_option linter.all false
open Go.RowKit

set_option maxRecDepth 100000 in
set_option maxHeartbeats 4000000 in
theorem ProgramFault_any (slots : Int) (to_ co : Option Addr) (tc cc : Nat) (tabs : List Shape) (code : List Ins) (A : Nat → Prop) (w : World) (ht : RdL shapeLay A w to_ tabs.length tc tabs) (hc : RdL insLay A w co code.length cc code) :
    Calls Try.prog 48 #[.agg #[.int .i64 slots, .slice to_ tabs.length tc, .slice co code.length cc]] w fun e w' => e = .returned (.agg #[.int .i64 (progF ⟨slots, tabs, code⟩).1, .int .i64 (progF ⟨slots, tabs, code⟩).2]) ∧ Below w.heap.size w w' := by
  have htl := ht.lt
  have hcl := hc.lt
  by_cases h1 : slots < 0 ∨ 96 < slots
  · rw [progF_slots (p := ⟨slots, tabs, code⟩) h1]
    have h1' : slots < 0 ∨ (0 ≤ slots ∧ 96 < slots) := by omega
    rcases h1' with h | h
    all_goals
      go_enter Try.func48, Try.ntmps48
      go_wp2_with (go_at_call 90; refine (F_any _ _ _).mono ?_; rintro e w' ⟨rfl, rfl⟩)
      exact bodyPost_ret (v := .agg #[.int .i64 1, .int .i64 (-1)]) (by simp [results, Try.results48, go_sem]) rfl ⟨rfl, by go_grown⟩
  by_cases h2 : 5 < tabs.length ∨ code.length = 0 ∨ 60000 < code.length
  · rw [progF_many (p := ⟨slots, tabs, code⟩) h1 h2]
    have h1' : 0 ≤ slots ∧ slots ≤ 96 := by omega
    obtain ⟨h1a, h1b⟩ := h1'
    have h2' : (5 : Int) < tabs.length ∨ ((tabs.length : Int) ≤ 5 ∧ (code.length : Int) < 1) ∨ ((tabs.length : Int) ≤ 5 ∧ 1 ≤ (code.length : Int) ∧ (60000 : Int) < code.length) := by
      omega
    clear h1 h2
    rcases h2' with h | ⟨h, h'⟩ | ⟨h, h', h''⟩
    all_goals
      go_enter Try.func48, Try.ntmps48
      go_wp2_with (go_at_call 90; refine (F_any _ _ _).mono ?_; rintro e w' ⟨rfl, rfl⟩)
      exact bodyPost_ret (v := .agg #[.int .i64 2, .int .i64 (-1)]) (by simp [results, Try.results48, go_sem]) rfl ⟨rfl, by go_grown⟩
  have h1a : 0 ≤ slots := by omega
  have h1b : slots ≤ 96 := by omega
  have h2a : (tabs.length : Int) ≤ 5 := by omega
  have h2b : 1 ≤ (code.length : Int) := by omega
  have h2c : (code.length : Int) ≤ 60000 := by omega
  have h2d : 0 < code.length := by omega
  have N1 := Lib.hid h1
  have N2 := Lib.hid h2
  clear h1 h2
  have H : Kept (fun w' => (Below w.heap.size w w' ∧ Blk w' w.heap.size 63 #[.int .i64 slots, .slice to_ tabs.length tc, .slice co code.length cc]) ∧ Blk w' (w.heap.size + 1) 65 #[.int .i64 0, .int .i64 0]) ((w.alloc (.cells #[.int .i64 slots, .slice to_ tabs.length tc, .slice co code.length cc] 63)).alloc (.cells #[.int .i64 0, .int .i64 0] 65)) := by
    have := blk2 (rf ((w.alloc (.cells #[.int .i64 slots, .slice to_ tabs.length tc, .slice co code.length cc] 63)).alloc (.cells #[.int .i64 0, .int .i64 0] 65)))
    exact ⟨⟨this.1, this.2.1⟩, this.2.2⟩
  go_enter Try.func48, Try.ntmps48
  go_wp2_with fail
  generalize (w.alloc (.cells #[.int .i64 slots, .slice to_ tabs.length tc, .slice co code.length cc] 63)).alloc (.cells #[.int .i64 0, .int .i64 0] 65) = w1 at *
  go_loopw [3] (fun i wr => ∃ k : Nat, k ≤ tabs.length ∧ (∀ j, j < k → tabBad (nth tabs j) = false) ∧ i = .int .i64 k ∧ Below w1.heap.size w1 wr) (fun i _ => tabs.length - (intOf i).toNat)
  case atStart => exact ⟨0, Nat.zero_le _, fun j hj => absurd hj (Nat.not_lt_zero j), rfl, rf _⟩
  case round =>
    obtain ⟨k, hk, hno, rfl, hbr⟩ := hrel
    have HN := Lib.hid hno
    clear hno
    replace H := H.to hbr
    by_cases hlt : k < tabs.length
    · obtain ⟨b, off, rfl, _, hb, hwf, hc0, hc1, hc2⟩ := (ht.below H.out.1.1).shape_at hlt
      have hz := H.out.2.lt
      have hz0 := H.out.1.2.lt
      have hd1 := H.out.1.2.cell 1
      simp at hd1
      have hfr := H.out.2.frozen 0
      have hfr1 := H.out.2.frozen 1
      obtain ⟨hu, hv⟩ := H.out.2.two
      have hBr := H.out.1.1
      clear hwf
      by_cases hbad : tabBad (nth tabs k) = true
      · have HP := Lib.hid (progF_tab (p := ⟨slots, tabs, code⟩) N1.out N2.out HN.out hlt hbad)
        have hbad' : (nth tabs k).keys < 1 ∨ (1 ≤ (nth tabs k).keys ∧ 3 < (nth tabs k).keys) ∨ ((1 ≤ (nth tabs k).keys ∧ (nth tabs k).keys ≤ 3) ∧ (nth tabs k).acts < 1) ∨ ((1 ≤ (nth tabs k).keys ∧ (nth tabs k).keys ≤ 3) ∧ 1 ≤ (nth tabs k).acts ∧ 8 < (nth tabs k).acts) ∨ ((1 ≤ (nth tabs k).keys ∧ (nth tabs k).keys ≤ 3) ∧ (1 ≤ (nth tabs k).acts ∧ (nth tabs k).acts ≤ 8) ∧ (nth tabs k).args < 0) ∨ ((1 ≤ (nth tabs k).keys ∧ (nth tabs k).keys ≤ 3) ∧ (1 ≤ (nth tabs k).acts ∧ (nth tabs k).acts ≤ 8) ∧ 0 ≤ (nth tabs k).args ∧ 3 < (nth tabs k).args) := by
          unfold tabBad at hbad; simp at hbad; omega
        clear hbad
        rcases hbad' with h | ⟨h, h'⟩ | ⟨⟨h, h'⟩, h''⟩ | ⟨⟨h, h'⟩, h'', h3⟩ | ⟨⟨h, h'⟩, ⟨h'', h3⟩, h4⟩ | ⟨⟨h, h'⟩, ⟨h'', h3⟩, h4, h5⟩
        all_goals
          go_wp2_with (go_at_call 90; refine (F_any _ _ _).mono ?_; rintro e w' ⟨rfl, rfl⟩)
          exact bodyPost_ret (v := .agg #[.int .i64 1, .int .i64 (-2 - (k : Int))]) (by simp [results, Try.results48, go_sem, hu, hv, hfr, hfr1, hz, hz0]) rfl ⟨by rw [HP.out], by go_grown⟩
      · have hgood := tabBad_false (by simpa using hbad)
        obtain ⟨t1, t2, t3, t4, t5, t6⟩ := hgood
        have HN2 : Hid (∀ j, j < k + 1 → tabBad (nth tabs j) = false) := fun j hj => by
          by_cases e : j = k
          · subst e; simpa using hbad
          · exact HN.out j (by omega)
        clear hbad
        go_wp2_with fail
        go_roundw
        case rel => exact ⟨k + 1, by omega, HN2.out, by go_num, al hbr _⟩
        case measure => simp [intOf]; omega
    · obtain rfl : k = tabs.length := by omega
      have hz := H.out.2.lt
      have hz0 := H.out.1.2.lt
      have hd1 := H.out.1.2.cell 1
      have hd2 := H.out.1.2.cell 2
      simp at hd1 hd2
      clear hbr
      go_wp2_with fail
      obtain ⟨w2, hw2⟩ : ∃ w2, w2 = wr := ⟨_, rfl⟩
      rw [← hw2] at H hz hz0 hd1 hd2 ⊢
      clear hw2 hd1 hd2 hz hz0
      go_loopw [5] (fun i wr => ∃ k : Nat, k ≤ code.length ∧ (∀ j, j < k → insBad slots tabs code j = false) ∧ i = .int .i64 k ∧ Below w2.heap.size w2 wr) (fun i _ => code.length - (intOf i).toNat)
      case atStart => exact ⟨0, Nat.zero_le _, fun j hj => absurd hj (Nat.not_lt_zero j), rfl, rf _⟩
      case round =>
        obtain ⟨k, hk, hno2, rfl, hbr⟩ := hrel
        have HM := Lib.hid hno2
        clear hno2
        replace H := H.to hbr
        have hz := H.out.2.lt
        have hz0 := H.out.1.2.lt
        have hd0 := H.out.1.2.cell 0
        have hd1 := H.out.1.2.cell 1
        have hd2 := H.out.1.2.cell 2
        simp at hd0 hd1 hd2
        by_cases hlt : k < code.length
        · obtain ⟨b, off, rfl, _, hb, hwf, hc0, hc1, hc2, hc3, hc4, hc5⟩ := (hc.below H.out.1.1).ins_at hlt
          go_upto_region 14 with (fail)
          go_cut [92] from 78 to 123 (fun s wc => s = .bool (!insOk slots tabs (nth code k)) ∧ Below wr.heap.size wr wc)
          case first =>
            go_region_law ((go_simp; go_at_call 98; refine (insForm_any _ _ _ _ _ _ _ _ A _ ((ht.below H.out.1.1).below (below_drewN_ (rf _) _)) HN.out hwf ⟨h1a, h1b⟩).mono ?_; rintro e w3 ⟨rfl, hb3⟩))
            all_goals
              go_wp2_with fail
              go_meet
              case rel => exact ⟨rfl, by first | exact hb3 | exact ov (below_drewN_ (rf _) _) hb3⟩
          case rest =>
          obtain ⟨rfl, hb3⟩ := hcut
          obtain ⟨w3, hw3⟩ : ∃ w3, w3 = wc := ⟨_, rfl⟩
          rw [← hw3] at hb3 ⊢
          clear hw3
          have HB2 := hbr.trans (hb3.mono hbr.size)
          have H3 := H.to hb3
          clear hz hz0 hd0 hd1 hd2 hb
          replace hc0 := keep hc0 hb3
          replace hc4 := keep hc4 hb3
          clear hb3 hc1 hc2 hc3 hc5
          have hz := H3.out.2.lt
          have hz0 := H3.out.1.2.lt
          have hd0 := H3.out.1.2.cell 0
          have hd1 := H3.out.1.2.cell 1
          have hd2 := H3.out.1.2.cell 2
          have hfr := H3.out.2.frozen 0
          have hfr1 := H3.out.2.frozen 1
          obtain ⟨hu, hv⟩ := H3.out.2.two
          have hBr := H3.out.1.1
          simp at hd0 hd1 hd2
          by_cases hI : insOk slots tabs (nth code k) = true
          case neg =>
            have hI' : insOk slots tabs (nth code k) = false := by simpa using hI
            have HP := progF_ins (p := ⟨slots, tabs, code⟩) N1.out N2.out HN.out HM.out hlt (insBad_form hI')
            rw [hI'] at HP
            replace HP := Lib.hid HP
            have hqI : (!insOk slots tabs (nth code k)) = true := by rw [hI']; rfl
            clear hI' hI
            rw [hqI]
            go_wp2_with (go_at_call 90; refine (F_any _ _ _).mono ?_; rintro e w' ⟨rfl, rfl⟩)
            exact bodyPost_ret (v := .agg #[.int .i64 4, .int .i64 (k : Int)]) (by simp [results, Try.results48, go_sem, hu, hv, hfr, hfr1, hz, hz0]) rfl ⟨by rw [HP.out]; rfl, by go_grown⟩
          have hqI : (!insOk slots tabs (nth code k)) = false := by rw [hI]; rfl
          have hto := hwf.2.2.2.2.1.i64
          clear hwf
          rw [hqI]
          go_wp2_with fail
          refine (fieldsOf_any _ _).mono ?_
          rintro e w4 ⟨rfl, hb4⟩
          have HB4 := (HB2.trans (hb4.mono HB2.size)).alloc (Nat.le_trans HB2.size hb4.size) (.cells #[.bool (hasR (nth code k).op), .bool (hasS (nth code k).op), .bool (hasK (nth code k).op), .bool (hasT (nth code k).op), .bool (hasN (nth code k).op)] 125)
          have H4 := H3.to hb4
          clear hz hz0 hd0 hd1 hd2 hfr hfr1 hu hv hBr
          replace hc0 := keep hc0 hb4
          replace hc4 := keep hc4 hb4
          clear hb4
          have hbl := block_lt_of_cell hc4
          simp only at hbl
          have hz := H4.out.2.lt
          have hz0 := H4.out.1.2.lt
          have hd2 := H4.out.1.2.cell 2
          have hfr := H4.out.2.frozen 0
          have hfr1 := H4.out.2.frozen 1
          obtain ⟨hu, hv⟩ := H4.out.2.two
          have hBr := H4.out.1.1
          simp at hd2
          by_cases hT : hasT (nth code k).op = true
          case neg =>
            have hT' : hasT (nth code k).op = false := by simpa using hT
            have hnb : Hid (∀ j, j < k + 1 → insBad slots tabs code j = false) := fun j hj => by
              by_cases e : j = k
              · subst e; rw [insBad_ok hI]; unfold jumpBad; rw [hT']; rfl
              · exact HM.out j (by omega)
            rw [hT'] at HB4 ⊢
            clear hT hT'
            go_wp2_with fail
            go_quiet (fail)
            go_wp2_with fail
            go_roundw
            case rel => exact ⟨k + 1, by omega, hnb.out, by go_num, below_drewN_ HB4 _⟩
            case measure => simp [intOf]; omega
          by_cases hJ : (code.length : Int) - k - 1 ≤ (nth code k).to
          · have HP := progF_ins (p := ⟨slots, tabs, code⟩) N1.out N2.out HN.out HM.out hlt (by show insBad slots tabs code k = true; rw [insBad_ok hI]; unfold jumpBad; rw [hT]; simpa using hJ)
            rw [hI] at HP
            replace HP := Lib.hid HP
            have hJ' : (code.length : Int) - 1 - k ≤ (nth code k).to := by omega
            rw [hT]
            clear hT hJ HB4
            go_wp2_with fail
            go_quiet (fail)
            go_wp2_with (go_at_call 90; refine (F_any _ _ _).mono ?_; rintro e w' ⟨rfl, rfl⟩)
            have hX := (((below_drewN_ (hBr.alloc hBr.size (.cells #[.bool (hasR (nth code k).op), .bool (hasS (nth code k).op), .bool (hasK (nth code k).op), .bool true, .bool (hasN (nth code k).op)] 125)) nq).setCell (p := ⟨w.heap.size + 1, 0, none⟩) (Nat.le_succ _) (.int .i64 17)).setCell (p := ⟨w.heap.size + 1, 1, none⟩) (Nat.le_succ _) (.int .i64 (k : Int)))
            exact bodyPost_ret (v := .agg #[.int .i64 17, .int .i64 (k : Int)]) (by simp [results, Try.results48, go_sem, hu, hv, hfr, hfr1, hz, hz0]) rfl ⟨by rw [HP.out]; rfl, hX.alloc hX.size _⟩
          · have hnb : Hid (∀ j, j < k + 1 → insBad slots tabs code j = false) := fun j hj => by
              by_cases e : j = k
              · subst e; rw [insBad_ok hI]; unfold jumpBad; rw [hT]; simpa using hJ
              · exact HM.out j (by omega)
            have hJ' : (nth code k).to < (code.length : Int) - 1 - k := by omega
            rw [hT] at HB4 ⊢
            clear hT hJ
            go_wp2_with fail
            go_quiet (fail)
            go_wp2_with fail
            go_roundw
            case rel => exact ⟨k + 1, by omega, hnb.out, by go_num, below_drewN_ HB4 _⟩
            case measure => simp [intOf]; omega
        · obtain rfl : k = code.length := by omega
          have hfr := H.out.2.frozen 0
          have hfr1 := H.out.2.frozen 1
          obtain ⟨hu, hv⟩ := H.out.2.two
          have hBr := H.out.1.1
          have hwb := H.out.1.1.size
          obtain ⟨b, off, rfl, _, hb, hwf, hc0, hc1, hc2, hc3, hc4, hc5⟩ := (hc.below H.out.1.1).ins_at (i := code.length - 1) (by omega)
          have HP := Lib.hid (progF_end (p := ⟨slots, tabs, code⟩) N1.out N2.out HN.out HM.out)
          clear hc1 hc2 hc3 hc4 hc5 hwf
          by_cases e6 : (nth code (code.length - 1)).op = 16
          · have q6 : ((nth code (code.length - 1)).op != 16) = false := by rw [e6]; rfl
            have hE : isEnd (nth code (code.length - 1)).op = true := by rw [e6]; rfl
            clear e6
            go_wp2_with fail
            exact bodyPost_ret (v := .agg #[.int .i64 0, .int .i64 0]) (by simp [results, Try.results48, go_sem, hu, hv, hfr, hfr1, hz, hz0]) rfl ⟨by rw [HP.out, if_pos hE], by go_grown⟩
          have q6 : ((nth code (code.length - 1)).op != 16) = true := by rw [bne_iff_ne]; exact e6
          by_cases e7 : (nth code (code.length - 1)).op = 17
          · have q7 : ((nth code (code.length - 1)).op != 17) = false := by rw [e7]; rfl
            have hE : isEnd (nth code (code.length - 1)).op = true := by rw [e7]; rfl
            clear e6 e7
            go_wp2_with fail
            exact bodyPost_ret (v := .agg #[.int .i64 0, .int .i64 0]) (by simp [results, Try.results48, go_sem, hu, hv, hfr, hfr1, hz, hz0]) rfl ⟨by rw [HP.out, if_pos hE], by go_grown⟩
          have q7 : ((nth code (code.length - 1)).op != 17) = true := by rw [bne_iff_ne]; exact e7
          have hE' : isEnd (nth code (code.length - 1)).op = false := by unfold isEnd; simp [e6, e7]
          clear e6 e7
          go_wp2_with (go_at_call 90; refine (F_any _ _ _).mono ?_; rintro e w' ⟨rfl, rfl⟩)
          exact bodyPost_ret (v := .agg #[.int .i64 18, .int .i64 ((code.length : Int) - 1)]) (by simp [results, Try.results48, go_sem, hu, hv, hfr, hfr1, hz, hz0]) rfl ⟨by rw [HP.out, hE']; rfl, by go_grown⟩
end Go.Proofs.Ytfakdapglbgokaa
