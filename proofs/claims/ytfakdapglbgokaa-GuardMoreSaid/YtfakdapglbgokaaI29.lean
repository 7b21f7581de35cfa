/-
  Texts joined: XWordC XWordQ XWordH XWordI XEqS. No condition.
-/
import Derived.BigQuiet
import Derived.Deep.QuietTactic
import Derived.Deep.RegionLaw
import Derived.Deep.RegionHeld3
import Derived.Deep.DrawnRows
import Derived.Outline
import Derived.Test.YtfakdapglbgokaaProg
import Derived.Laws.StructEq
import Derived.Handy
import Derived.Test.YtfakdapglbgokaaI28
import Derived.Test.YtfakdapglbgokaaI6
import Derived.Test.YtfakdapglbgokaaI3
import Derived.Test.YtfakdapglbgokaaI2
import Derived.Test.YtfakdapglbgokaaI27
/-
  Package word's Check. No condition.
-/
namespace Go.Proofs.Ytfakdapglbgokaa
set_option linter.all false
open Go.RowKit

set_option maxRecDepth 100000 in
set_option maxHeartbeats 4000000 in
theorem Check_any (slots : Int) (to_ co : Option Addr) (tc cc : Nat) (tabs : List Shape) (code : List Ins) (A : Nat → Prop) (w : World) (ht : RdL shapeLay A w to_ tabs.length tc tabs) (hc : RdL insLay A w co code.length cc code) :
    Calls Try.prog 52 #[.agg #[.int .i64 slots, .slice to_ tabs.length tc, .slice co code.length cc]] w fun e w' => e = .returned (.agg #[.int .i64 (progF ⟨slots, tabs, code⟩).1, .int .i64 (progF ⟨slots, tabs, code⟩).2]) ∧ Below w.heap.size w w' := by
  have htl := ht.lt
  have hcl := hc.lt
  by_cases h1 : slots < 0 ∨ 96 < slots
  · rw [progF_slots (p := ⟨slots, tabs, code⟩) h1]
    have h1' : slots < 0 ∨ (0 ≤ slots ∧ 96 < slots) := by omega
    rcases h1' with h | h
    all_goals
      go_enter Try.func52, Try.ntmps52
      go_wp2_with fail
      exact bodyPost_ret (v := .agg #[.int .i64 1, .int .i64 (-1)]) (by simp [results, Try.results52, go_sem]) rfl ⟨rfl, by go_grown⟩
  by_cases h2 : 5 < tabs.length ∨ code.length = 0 ∨ 60000 < code.length
  · rw [progF_many (p := ⟨slots, tabs, code⟩) h1 h2]
    have h1' : 0 ≤ slots ∧ slots ≤ 96 := by omega
    obtain ⟨h1a, h1b⟩ := h1'
    have h2' : (5 : Int) < tabs.length ∨ ((tabs.length : Int) ≤ 5 ∧ ((code.length : Int) == 0) = true) ∨ ((tabs.length : Int) ≤ 5 ∧ ((code.length : Int) == 0) = false ∧ (60000 : Int) < code.length) := by
      rw [beq_iff_eq, beq_eq_false_iff_ne]; omega
    clear h1 h2
    rcases h2' with h | ⟨h, h'⟩ | ⟨h, h', h''⟩
    all_goals
      go_enter Try.func52, Try.ntmps52
      go_wp2_with fail
      exact bodyPost_ret (v := .agg #[.int .i64 2, .int .i64 (-1)]) (by simp [results, Try.results52, go_sem]) rfl ⟨rfl, by go_grown⟩
  have h1a : 0 ≤ slots := by omega
  have h1b : slots ≤ 96 := by omega
  have h2a : (tabs.length : Int) ≤ 5 := by omega
  have h2b : ((code.length : Int) == 0) = false := by rw [beq_eq_false_iff_ne]; omega
  have h2c : (code.length : Int) ≤ 60000 := by omega
  have h2d : 0 < code.length := by omega
  have N1 := Lib.hid h1
  have N2 := Lib.hid h2
  clear h1 h2
  have H : Kept (fun w' => (Below w.heap.size w w' ∧ Blk w' w.heap.size 63 #[.int .i64 slots, .slice to_ tabs.length tc, .slice co code.length cc]) ∧ Blk w' (w.heap.size + 1) 65 #[.int .i64 0, .int .i64 0]) ((w.alloc (.cells #[.int .i64 slots, .slice to_ tabs.length tc, .slice co code.length cc] 63)).alloc (.cells #[.int .i64 0, .int .i64 0] 65)) := by
    have := blk2 (rf ((w.alloc (.cells #[.int .i64 slots, .slice to_ tabs.length tc, .slice co code.length cc] 63)).alloc (.cells #[.int .i64 0, .int .i64 0] 65)))
    exact ⟨⟨this.1, this.2.1⟩, this.2.2⟩
  go_enter Try.func52, Try.ntmps52
  go_wp2_with fail
  generalize (w.alloc (.cells #[.int .i64 slots, .slice to_ tabs.length tc, .slice co code.length cc] 63)).alloc (.cells #[.int .i64 0, .int .i64 0] 65) = w1 at *
  go_loopw [37] (fun i wr => ∃ k : Nat, k ≤ tabs.length ∧ (∀ j, j < k → tabBad (nth tabs j) = false) ∧ i = .int .i64 k ∧ Below w1.heap.size w1 wr) (fun i _ => tabs.length - (intOf i).toNat)
  case atStart => exact ⟨0, Nat.zero_le _, fun j hj => absurd hj (Nat.not_lt_zero j), rfl, rf _⟩
  case round =>
    obtain ⟨k, hk, hno, rfl, hbr⟩ := hrel
    have HN := Lib.hid hno
    clear hno
    replace H := H.to hbr
    by_cases hlt : k < tabs.length
    · obtain ⟨b, off, rfl, _, hb, hwf, hc0, hc1, hc2⟩ := (ht.below H.out.1.1).shape_at hlt
      have hz := H.out.2.lt
      have hfr := H.out.2.frozen 0
      have hfr1 := H.out.2.frozen 1
      obtain ⟨hu, hv⟩ := H.out.2.two
      have hBr := H.out.1.1
      clear hwf
      by_cases hbad : tabBad (nth tabs k) = true
      · have HP := Lib.hid (progF_tab (p := ⟨slots, tabs, code⟩) N1.out N2.out HN.out hlt hbad)
        have hbad' : (nth tabs k).keys < 1 ∨ (1 ≤ (nth tabs k).keys ∧ 3 < (nth tabs k).keys) ∨ ((1 ≤ (nth tabs k).keys ∧ (nth tabs k).keys ≤ 3) ∧ (nth tabs k).acts < 1) ∨ ((1 ≤ (nth tabs k).keys ∧ (nth tabs k).keys ≤ 3) ∧ 1 ≤ (nth tabs k).acts ∧ 8 < (nth tabs k).acts) ∨ ((1 ≤ (nth tabs k).keys ∧ (nth tabs k).keys ≤ 3) ∧ (1 ≤ (nth tabs k).acts ∧ (nth tabs k).acts ≤ 8) ∧ (nth tabs k).args < 0) ∨ ((1 ≤ (nth tabs k).keys ∧ (nth tabs k).keys ≤ 3) ∧ (1 ≤ (nth tabs k).acts ∧ (nth tabs k).acts ≤ 8) ∧ 0 ≤ (nth tabs k).args ∧ 3 < (nth tabs k).args) := by
          unfold tabBad at hbad; simp at hbad; omega
        clear hbad
        rcases hbad' with h | ⟨h, h'⟩ | ⟨⟨h, h'⟩, h''⟩ | ⟨⟨h, h'⟩, h'', h3⟩ | ⟨⟨h, h'⟩, ⟨h'', h3⟩, h4⟩ | ⟨⟨h, h'⟩, ⟨h'', h3⟩, h4, h5⟩
        all_goals
          go_wp2_with fail
          exact bodyPost_ret (v := .agg #[.int .i64 1, .int .i64 (-2 - (k : Int))]) (by simp [results, Try.results52, go_sem, hu, hv, hfr, hfr1, hz]) rfl ⟨by rw [HP.out], by go_grown⟩
      · have hgood := tabBad_false (by simpa using hbad)
        obtain ⟨t1, t2, t3, t4, t5, t6⟩ := hgood
        have HN2 : Hid (∀ j, j < k + 1 → tabBad (nth tabs j) = false) := fun j hj => by
          by_cases e : j = k
          · subst e; simpa using hbad
          · exact HN.out j (by omega)
        clear hbad
        go_wp2_with fail
        go_roundw
        case rel => exact ⟨k + 1, by omega, HN2.out, by go_num, al hbr _⟩
        case measure => simp [intOf]; omega
    · obtain rfl : k = tabs.length := by omega
      have hz := H.out.2.lt
      have hz0 := H.out.1.2.lt
      have hd1 := H.out.1.2.cell 1
      have hd2 := H.out.1.2.cell 2
      simp at hd1 hd2
      clear hbr
      go_wp2_with fail
      obtain ⟨w2, hw2⟩ : ∃ w2, w2 = wr := ⟨_, rfl⟩
      rw [← hw2] at H hz hz0 hd1 hd2 ⊢
      clear hw2 hd1 hd2 hz hz0
      go_loopw [77] (fun i wr => ∃ k : Nat, k ≤ code.length ∧ (∀ j, j < k → insBad slots tabs code j = false) ∧ i = .int .i64 k ∧ Below w2.heap.size w2 wr) (fun i _ => code.length - (intOf i).toNat)
      case atStart => exact ⟨0, Nat.zero_le _, fun j hj => absurd hj (Nat.not_lt_zero j), rfl, rf _⟩
      case round =>
        obtain ⟨k, hk, hno2, rfl, hbr⟩ := hrel
        have HM := Lib.hid hno2
        clear hno2
        replace H := H.to hbr
        have hz := H.out.2.lt
        have hz0 := H.out.1.2.lt
        have hd0 := H.out.1.2.cell 0
        have hd1 := H.out.1.2.cell 1
        have hd2 := H.out.1.2.cell 2
        simp at hd0 hd1 hd2
        by_cases hlt : k < code.length
        · obtain ⟨b, off, rfl, _, hb, hwf, hc0, hc1, hc2, hc3, hc4, hc5⟩ := (hc.below H.out.1.1).ins_at hlt
          go_wp2_with fail
          refine (fits_any _ _ _ _ _ _ _ _ A _ (ht.below (H.al _).out.1.1) HN.out hwf ⟨h1a, h1b⟩).mono ?_
          rintro e w3 ⟨rfl, hb3⟩
          have HB2 := hbr.trans ((al (rf wr) (.cells (nth code k).cells.toArray 56)).mono hbr.size) |>.trans (hb3.mono (by have := hbr.size; simp; omega))
          have H3 := (H.new (nth code k).cells.toArray 56).to hb3
          clear hb3 hz hz0 hd0 hd1 hd2 hc0 hc1 hc2 hc3 hc4 hc5 hb
          have hz := H3.out.1.2.lt
          have hz0 := H3.out.1.1.2.lt
          have hd0 := H3.out.1.1.2.cell 0
          have hd1 := H3.out.1.1.2.cell 1
          have hd2 := H3.out.1.1.2.cell 2
          have hx0 := H3.out.2.cell 0
          have hx4 := H3.out.2.cell 4
          have hfr := H3.out.1.2.frozen 0
          have hfr1 := H3.out.1.2.frozen 1
          obtain ⟨hu, hv⟩ := H3.out.1.2.two
          have hBr := H3.out.1.1.1
          simp [Ins.cells] at hd0 hd1 hd2 hx0 hx4
          by_cases hI : insOk slots tabs (nth code k) = true
          case neg =>
            have hI' : insOk slots tabs (nth code k) = false := by simpa using hI
            have HP := progF_ins (p := ⟨slots, tabs, code⟩) N1.out N2.out HN.out HM.out hlt (insBad_form hI')
            rw [hI'] at HP
            replace HP := Lib.hid HP
            clear hI
            go_wp2_with fail
            exact bodyPost_ret (v := .agg #[.int .i64 4, .int .i64 (k : Int)]) (by simp [results, Try.results52, go_sem, hu, hv, hfr, hfr1, hz]) rfl ⟨by rw [HP.out]; rfl, by go_grown⟩
          have hop : isOp (nth code k).op = true := by unfold insOk formOk at hI; simp at hI; exact hI.1.1.1.1.1.1.1
          obtain ⟨_, _, _, i4, _, _, i7⟩ := inStr_has (nth code k).op hop
          have i8 : (hasStr (nth code k).op).size ≤ 1000 := by omega
          have HO := Lib.hid hop
          have hto := hwf.2.2.2.2.1.i64
          clear i7 hop hwf
          by_cases hT : hasT (nth code k).op = true
          case neg =>
            have hT' : hasT (nth code k).op = false := by simpa using hT
            rw [hT'] at i4
            have hnb : Hid (∀ j, j < k + 1 → insBad slots tabs code j = false) := fun j hj => by
              by_cases e : j = k
              · subst e; rw [insBad_ok hI]; unfold jumpBad; rw [hT']; rfl
              · exact HM.out j (by omega)
            clear hT hT'
            go_wp2_with (first
              | (go_at_call 106; refine (has_yes _ _ HO.out).mono ?_; rintro e w' ⟨rfl, rfl⟩)
              | (go_at_call 105; refine (with_any _ _ _ i8).mono ?_; rintro e w' ⟨rfl, rfl⟩))
            go_roundw
            case rel => exact ⟨k + 1, by omega, hnb.out, by go_num, HB2⟩
            case measure => simp [intOf]; omega
          rw [hT] at i4
          by_cases hJ : (code.length : Int) - k - 1 ≤ (nth code k).to
          · have HP := progF_ins (p := ⟨slots, tabs, code⟩) N1.out N2.out HN.out HM.out hlt (by show insBad slots tabs code k = true; rw [insBad_ok hI]; unfold jumpBad; rw [hT]; simpa using hJ)
            rw [hI] at HP
            replace HP := Lib.hid HP
            clear hT
            go_wp2_with (first
              | (go_at_call 106; refine (has_yes _ _ HO.out).mono ?_; rintro e w' ⟨rfl, rfl⟩)
              | (go_at_call 105; refine (with_any _ _ _ i8).mono ?_; rintro e w' ⟨rfl, rfl⟩))
            exact bodyPost_ret (v := .agg #[.int .i64 17, .int .i64 (k : Int)]) (by simp [results, Try.results52, go_sem, hu, hv, hfr, hfr1, hz]) rfl ⟨by rw [HP.out]; rfl, by go_grown⟩
          · have hnb : Hid (∀ j, j < k + 1 → insBad slots tabs code j = false) := fun j hj => by
              by_cases e : j = k
              · subst e; rw [insBad_ok hI]; unfold jumpBad; rw [hT]; simpa using hJ
              · exact HM.out j (by omega)
            have hJ' : (nth code k).to < (code.length : Int) - k - 1 := by omega
            clear hT hJ
            go_wp2_with (first
              | (go_at_call 106; refine (has_yes _ _ HO.out).mono ?_; rintro e w' ⟨rfl, rfl⟩)
              | (go_at_call 105; refine (with_any _ _ _ i8).mono ?_; rintro e w' ⟨rfl, rfl⟩))
            go_roundw
            case rel => exact ⟨k + 1, by omega, hnb.out, by go_num, HB2⟩
            case measure => simp [intOf]; omega
        · obtain rfl : k = code.length := by omega
          have hfr := H.out.2.frozen 0
          have hfr1 := H.out.2.frozen 1
          obtain ⟨hu, hv⟩ := H.out.2.two
          have hBr := H.out.1.1
          have hwb := H.out.1.1.size
          obtain ⟨b, off, rfl, _, hb, hwf, hc0, hc1, hc2, hc3, hc4, hc5⟩ := (hc.below H.out.1.1).ins_at (i := code.length - 1) (by omega)
          have HP := Lib.hid (progF_end (p := ⟨slots, tabs, code⟩) N1.out N2.out HN.out HM.out)
          clear hc1 hc2 hc3 hc4 hc5 hwf
          by_cases hE : isEnd (nth code (code.length - 1)).op = true
          · go_wp2_with (go_at_call 54; refine (Ends_any _ _).mono ?_; rintro e w' ⟨rfl, rfl⟩)
            exact bodyPost_ret (v := .agg #[.int .i64 0, .int .i64 0]) (by simp [results, Try.results52, go_sem, hu, hv, hfr, hfr1, hz]) rfl ⟨by rw [HP.out, if_pos hE], by go_grown⟩
          · have hE' : isEnd (nth code (code.length - 1)).op = false := by simpa using hE
            clear hE
            go_wp2_with (go_at_call 54; refine (Ends_any _ _).mono ?_; rintro e w' ⟨rfl, rfl⟩)
            exact bodyPost_ret (v := .agg #[.int .i64 18, .int .i64 ((code.length : Int) - 1)]) (by simp [results, Try.results52, go_sem, hu, hv, hfr, hfr1, hz]) rfl ⟨by rw [HP.out, hE']; rfl, by go_grown⟩
end Go.Proofs.Ytfakdapglbgokaa

/-
  Programs as bytes, plain. No program in sight. No condition.
-/
namespace Go.Proofs.Ytfakdapglbgokaa
set_option linter.all false
open Go.RowKit

/-- A number of 64 bits as eight bytes, the highest first. -/
def numBytes (n : Int) : List Int := [n / 72057594037927936 % 256, n / 281474976710656 % 256, n / 1099511627776 % 256, n / 4294967296 % 256, n / 16777216 % 256, n / 65536 % 256, n / 256 % 256, n % 256]
def insBytes (x : Ins) : List Int := [x.op, x.r, x.s, x.k, x.to / 256, x.to % 256] ++ numBytes x.n
def shapeBytes (t : Shape) : List Int := [t.keys, t.acts, t.args]
def tabsTo (tabs : List Shape) : Nat → List Int
  | 0 => []
  | k + 1 => tabsTo tabs k ++ shapeBytes (nth tabs k)
def codeTo (code : List Ins) : Nat → List Int
  | 0 => []
  | k + 1 => codeTo code k ++ insBytes (nth code k)
def progBytes (p : Prog) : List Int :=
  (([83, 87, 1, p.slots, (p.tabs.length : Int)] ++ tabsTo p.tabs p.tabs.length) ++ [(p.code.length : Int) / 256, (p.code.length : Int) % 256]) ++ codeTo p.code p.code.length
theorem tabsTo_length (tabs : List Shape) (k : Nat) : (tabsTo tabs k).length = 3 * k := by
  induction k with
  | zero => rfl
  | succ k ih => simp only [tabsTo, List.length_append, ih]; simp [shapeBytes]; omega
theorem insBytes_length (x : Ins) : (insBytes x).length = 14 := rfl
theorem codeTo_length (code : List Ins) (k : Nat) : (codeTo code k).length = 14 * k := by
  induction k with
  | zero => rfl
  | succ k ih => simp only [codeTo, List.length_append, ih, insBytes_length]; omega
theorem progBytes_length (p : Prog) : (progBytes p).length = 7 + 3 * p.tabs.length + 14 * p.code.length := by
  unfold progBytes
  simp only [List.length_append, tabsTo_length, codeTo_length, List.length_cons, List.length_nil]
  omega

/-- What an instruction that may be has: bytes. -/
structure Ins.Small (x : Ins) : Prop where
  op : 0 ≤ x.op ∧ x.op ≤ 255
  r : 0 ≤ x.r ∧ x.r ≤ 255
  s : 0 ≤ x.s ∧ x.s ≤ 255
  k : 0 ≤ x.k ∧ x.k ≤ 255
  to : 0 ≤ x.to ∧ x.to ≤ 65535
theorem Ins.small {slots : Int} {tabs : List Shape} {x : Ins} {n i : Nat} (hs : 0 ≤ slots ∧ slots ≤ 96) (ht : ∀ t ∈ tabs, tabBad t = false) (hn : n ≤ 60000) (hx : x.wf) (h : insOk slots tabs x = true) (hj : jumpBad n i x = false) : x.Small := by
  unfold insOk formOk regsOk at h
  unfold jumpBad at hj
  simp only [Bool.and_eq_true, Bool.or_eq_true, decide_eq_true_eq] at h
  obtain ⟨⟨⟨⟨⟨⟨⟨ho, fr⟩, fs⟩, fk⟩, ft⟩, fn⟩, ⟨⟨hr, hs2⟩, hto⟩⟩, hkk⟩ := h
  have hop : 1 ≤ x.op ∧ x.op ≤ 18 := by unfold isOp at ho; simpa using ho
  have h13 : x.op = 13 → (0 ≤ x.s ∧ x.s ≤ 96) ∧ (0 ≤ x.k ∧ x.k ≤ 96) := by
    intro e
    unfold kindOk at hkk
    rw [e] at hkk
    simp at hkk
    obtain ⟨⟨a, b⟩, c⟩ := hkk
    have hn0 := hx.2.2.2.2.2.u64
    have hm := ht (nth tabs x.n.toNat) (by rw [nth_lt _ _ (by omega)]; exact List.getElem_mem _)
    have hm := tabBad_false hm
    unfold slotsOk at b c
    simp at b c
    omega
  have hK : x.op = 3 → (3 ≤ x.k ∧ x.k ≤ 12) := by intro e; unfold kindOk at hkk; rw [e] at hkk; simpa using hkk
  have hK6 : x.op = 6 → (1 ≤ x.k ∧ x.k ≤ 8) := by intro e; unfold kindOk at hkk; rw [e] at hkk; simp at hkk; omega
  have hK14 : x.op = 14 → (1 ≤ x.k ∧ x.k ≤ 8) := by intro e; unfold kindOk at hkk; rw [e] at hkk; simpa using hkk
  refine ⟨by omega, by omega, ?_, ?_, ?_⟩
  · rcases hs2 with e | e
    · have := h13 e; omega
    · omega
  · rcases fk with e | e
    · unfold hasK at e
      simp at e
      rcases e with e | e | e | e
      · have := hK e; omega
      · have := hK6 e; omega
      · have := h13 e; omega
      · have := hK14 e; omega
    · omega
  · rcases ft with e | e
    · rw [e] at hj
      simp at hj
      omega
    · omega
/-- A program that may be. -/
structure Valid (p : Prog) : Prop where
  slots : 0 ≤ p.slots ∧ p.slots ≤ 96
  tabs : p.tabs.length ≤ 5
  code : 1 ≤ p.code.length ∧ p.code.length ≤ 60000
  tab : ∀ j, j < p.tabs.length → tabBad (nth p.tabs j) = false
  ins : ∀ j, j < p.code.length → (nth p.code j).Small
theorem progF_valid {p : Prog} (hx : ∀ x ∈ p.code, x.wf) (h : (progF p).1 = 0) : Valid p ∧ (progF p).2 = 0 := by
  by_cases h1 : p.slots < 0 ∨ 96 < p.slots
  · rw [progF_slots h1] at h; cases h
  by_cases h2 : 5 < p.tabs.length ∨ p.code.length = 0 ∨ 60000 < p.code.length
  · rw [progF_many h1 h2] at h; cases h
  by_cases h3 : firstN (fun i => tabBad (nth p.tabs i)) p.tabs.length < p.tabs.length
  · rw [progF_tab h1 h2 (firstN_before _ _) h3 (firstN_at _ _ h3)] at h; cases h
  have h3' := firstN_all (fun i => tabBad (nth p.tabs i)) p.tabs.length (by have := firstN_le (fun i => tabBad (nth p.tabs i)) p.tabs.length; omega)
  by_cases h4 : firstN (insBad p.slots p.tabs p.code) p.code.length < p.code.length
  · rw [progF_ins h1 h2 h3' (firstN_before _ _) h4 (firstN_at _ _ h4)] at h
    simp only at h
    split at h <;> cases h
  have h4' := firstN_all (insBad p.slots p.tabs p.code) p.code.length (by have := firstN_le (insBad p.slots p.tabs p.code) p.code.length; omega)
  have he := progF_end h1 h2 h3' h4'
  have he2 : (progF p).2 = 0 := by
    rw [he] at h ⊢
    split at h
    · rename_i e; rw [if_pos e]
    · cases h
  refine ⟨⟨by omega, by omega, by omega, h3', fun j hj => ?_⟩, he2⟩
  have hb := h4' j hj
  unfold insBad at hb
  simp only [Bool.or_eq_false_iff, Bool.not_eq_false'] at hb
  refine Ins.small (n := p.code.length) (i := j) (by omega) ?_ (by omega) ?_ hb.1 hb.2
  · intro t ht
    obtain ⟨i, hi, rfl⟩ := List.getElem_of_mem ht
    rw [← nth_lt _ _ hi]
    exact h3' i hi
  · rw [nth_lt _ _ hj]
    exact hx _ (List.getElem_mem hj)

theorem div_pow (n : Int) (a b : Nat) : n / 2 ^ (a + b) = n / 2 ^ a / 2 ^ b := by
  have hp : (0 : Int) < 2 ^ a := Int.pow_pos (by omega)
  rw [Int.pow_add, Int.ediv_ediv, if_neg (by omega), Int.sub_zero]
theorem byte_of (y : Int) : 2 * (2 * (2 * (2 * (2 * (2 * (2 * (y / 2 ^ 7 % 2) + y / 2 ^ 6 % 2) + y / 2 ^ 5 % 2) + y / 2 ^ 4 % 2) + y / 2 ^ 3 % 2) + y / 2 ^ 2 % 2) + y / 2 ^ 1 % 2) + y / 2 ^ 0 % 2 = y % 256 := by
  simp only [Int.reducePow]
  omega
theorem numByte (n : Int) (i : Nat) (hi : i < 8) : byteF (el (numB n 64)) i = n / 2 ^ (56 - 8 * i) % 256 := by
  unfold byteF numB
  rw [el_mk _ _ _ (by omega), el_mk _ _ _ (by omega), el_mk _ _ _ (by omega), el_mk _ _ _ (by omega), el_mk _ _ _ (by omega), el_mk _ _ _ (by omega), el_mk _ _ _ (by omega), el_mk _ _ _ (by omega)]
  unfold nbit
  rw [show 64 - 1 - 8 * i = (56 - 8 * i) + 7 by omega, show 64 - 1 - (8 * i + 1) = (56 - 8 * i) + 6 by omega, show 64 - 1 - (8 * i + 2) = (56 - 8 * i) + 5 by omega, show 64 - 1 - (8 * i + 3) = (56 - 8 * i) + 4 by omega, show 64 - 1 - (8 * i + 4) = (56 - 8 * i) + 3 by omega, show 64 - 1 - (8 * i + 5) = (56 - 8 * i) + 2 by omega, show 64 - 1 - (8 * i + 6) = (56 - 8 * i) + 1 by omega, show 64 - 1 - (8 * i + 7) = (56 - 8 * i) + 0 by omega]
  simp only [div_pow n (56 - 8 * i)]
  exact byte_of _
/-- The eight bytes, by way of bits. -/
theorem numBytes_bits (n : Int) : bytesF (el (numB n 64)) 8 = numBytes n := by
  unfold bytesF mk numBytes
  rw [show List.range 8 = [0, 1, 2, 3, 4, 5, 6, 7] from rfl]
  simp only [List.map_cons, List.map_nil, numByte n 0 (by omega), numByte n 1 (by omega), numByte n 2 (by omega), numByte n 3 (by omega), numByte n 4 (by omega), numByte n 5 (by omega), numByte n 6 (by omega), numByte n 7 (by omega)]
  simp

end Go.Proofs.Ytfakdapglbgokaa

/-
  Bytes as programs, plain; there and back. No program in sight. No condition.
-/
namespace Go.Proofs.Ytfakdapglbgokaa
set_option linter.all false
open Go.RowKit

instance : One insLay := ⟨fun h u hu => by
  rw [h.1] at hu
  simp [Ins.cells] at hu
  rcases hu with rfl | rfl | rfl | rfl | rfl | rfl <;> rfl⟩
instance : One shapeLay := ⟨fun h u hu => by
  rw [h.1] at hu
  simp [Shape.cells] at hu
  rcases hu with rfl | rfl | rfl <;> rfl⟩
instance : Flat insLay := ⟨fun h => h⟩
instance : Flat shapeLay := ⟨fun h => h⟩

/-- The first m values of a function, as a list. -/
def mkL {α : Type} (f : Nat → α) (m : Nat) : List α := (List.range m).map f
theorem mkL_length {α : Type} (f : Nat → α) (m : Nat) : (mkL f m).length = m := by simp [mkL]
theorem nth_mkL {α : Type} [Inhabited α] (f : Nat → α) (m k : Nat) (h : k < m) : nth (mkL f m) k = f k := by simp [nth, mkL, List.getD, h]
theorem mkL_succ {α : Type} (f : Nat → α) (m : Nat) : mkL f (m + 1) = mkL f m ++ [f m] := by simp [mkL, List.range_succ]
theorem mkL_zero {α : Type} (f : Nat → α) : mkL f 0 = [] := rfl
theorem mkL_nth {α : Type} [Inhabited α] (xs : List α) : mkL (nth xs) xs.length = xs :=
  ext_nth (mkL_length _ _) fun i hi => by rw [mkL_length] at hi; rw [nth_mkL _ _ _ hi]

/-- The number of n bytes, the highest first. -/
def numAt (b : List Int) (o : Nat) : Nat → Int
  | 0 => 0
  | n + 1 => 256 * numAt b o n + el b (o + n)
theorem numAt_range {b : List Int} (h : AllFit .u8 b) (o n : Nat) : 0 ≤ numAt b o n ∧ numAt b o n + 1 ≤ 256 ^ n := by
  induction n with
  | zero => simp [numAt]
  | succ n ih =>
    have := h.el_u8 (o + n)
    simp only [numAt, Int.pow_succ]
    generalize (256 : Int) ^ n = p at *
    omega
def shapeAt (b : List Int) (o : Nat) : Shape := ⟨el b o, el b (o + 1), el b (o + 2)⟩
def insAt (b : List Int) (o : Nat) : Ins := ⟨el b o, el b (o + 1), el b (o + 2), el b (o + 3), numAt b (o + 4) 2, numAt b (o + 6) 8⟩
def nTabs (b : List Int) : Nat := (el b 4).toNat
def nCode (b : List Int) : Nat := (numAt b (5 + 3 * nTabs b) 2).toNat
def progAt (b : List Int) : Prog := ⟨el b 3, mkL (fun i => shapeAt b (5 + 3 * i)) (nTabs b), mkL (fun i => insAt b (7 + 3 * nTabs b + 14 * i)) (nCode b)⟩
def noProg : Prog := ⟨0, [], []⟩
/-- Where bytes are no program: the code, and where. -/
def decE (b : List Int) : Int × Int :=
  if b.length < 5 then (3, b.length)
  else if ¬ (el b 0 = 83 ∧ el b 1 = 87 ∧ el b 2 = 1) then (4, 0)
  else if b.length < 7 + 3 * nTabs b then (3, b.length)
  else if b.length < 7 + 3 * nTabs b + 14 * nCode b then (3, b.length)
  else if 7 + 3 * nTabs b + 14 * nCode b < b.length then (4, (7 + 3 * nTabs b + 14 * nCode b : Nat))
  else progF (progAt b)
def decV (b : List Int) : Prog := if (decE b).1 = 0 then progAt b else noProg

theorem mem_nth {α : Type} [Inhabited α] {xs : List α} {x : α} (h : x ∈ xs) : ∃ i, i < xs.length ∧ nth xs i = x := by
  obtain ⟨i, hi, rfl⟩ := List.getElem_of_mem h
  exact ⟨i, hi, nth_lt _ _ hi⟩
theorem shapeAt_wf {b : List Int} (h : AllFit .u8 b) (o : Nat) : (shapeAt b o).wf := by
  have h0 := h.el_u8 o; have h1 := h.el_u8 (o + 1); have h2 := h.el_u8 (o + 2)
  exact ⟨Fits.of_i64 (by simp only [shapeAt]; omega) (by simp only [shapeAt]; omega), Fits.of_i64 (by simp only [shapeAt]; omega) (by simp only [shapeAt]; omega), Fits.of_i64 (by simp only [shapeAt]; omega) (by simp only [shapeAt]; omega)⟩
theorem insAt_wf {b : List Int} (h : AllFit .u8 b) (o : Nat) : (insAt b o).wf := by
  have h0 := h.el_u8 o; have h1 := h.el_u8 (o + 1); have h2 := h.el_u8 (o + 2); have h3 := h.el_u8 (o + 3)
  have h4 := numAt_range h (o + 4) 2
  have h5 := numAt_range h (o + 6) 8
  simp only [Int.reducePow] at h4 h5
  refine ⟨Fits.of_i64 ?_ ?_, Fits.of_i64 ?_ ?_, Fits.of_i64 ?_ ?_, Fits.of_i64 ?_ ?_, Fits.of_i64 ?_ ?_, Fits.of_u64 ?_ ?_⟩ <;> (simp only [insAt]; omega)
theorem nTabs_le {b : List Int} (h : AllFit .u8 b) : nTabs b ≤ 255 := by have := h.el_u8 4; unfold nTabs; omega
theorem nCode_le {b : List Int} (h : AllFit .u8 b) : nCode b ≤ 65535 := by
  have := numAt_range h (5 + 3 * nTabs b) 2
  simp only [Int.reducePow] at this
  unfold nCode; omega

theorem el_tabsTo (tabs : List Shape) (k i j : Nat) (hi : i < k) (hj : j < 3) : el (tabsTo tabs k) (3 * i + j) = el (shapeBytes (nth tabs i)) j := by
  induction k with
  | zero => omega
  | succ k ih =>
    simp only [tabsTo]
    rw [el_append, tabsTo_length]
    by_cases h : i < k
    · rw [if_pos (by omega), ih h]
    · obtain rfl : i = k := by omega
      rw [if_neg (by omega)]
      congr 1; omega
theorem el_codeTo (code : List Ins) (k i j : Nat) (hi : i < k) (hj : j < 14) : el (codeTo code k) (14 * i + j) = el (insBytes (nth code i)) j := by
  induction k with
  | zero => omega
  | succ k ih =>
    simp only [codeTo]
    rw [el_append, codeTo_length]
    by_cases h : i < k
    · rw [if_pos (by omega), ih h]
    · obtain rfl : i = k := by omega
      rw [if_neg (by omega)]
      congr 1; omega
/-- The bytes of a program, each by its place. -/
theorem el_prog_head (p : Prog) (i : Nat) (hi : i < 5) : el (progBytes p) i = el [83, 87, 1, p.slots, (p.tabs.length : Int)] i := by
  unfold progBytes
  rw [el_append, if_pos (by simp only [List.length_append, tabsTo_length, List.length_cons, List.length_nil]; omega), el_append, if_pos (by simp only [List.length_append, tabsTo_length, List.length_cons, List.length_nil]; omega), el_append, if_pos (by simpa using hi)]
theorem el_prog_tab (p : Prog) (i j : Nat) (hi : i < p.tabs.length) (hj : j < 3) : el (progBytes p) (5 + 3 * i + j) = el (shapeBytes (nth p.tabs i)) j := by
  unfold progBytes
  rw [el_append, if_pos (by simp only [List.length_append, tabsTo_length, List.length_cons, List.length_nil]; omega), el_append, if_pos (by simp only [List.length_append, tabsTo_length, List.length_cons, List.length_nil]; omega), el_append, if_neg (by simp only [List.length_cons, List.length_nil]; omega)]
  rw [show 5 + 3 * i + j - [83, 87, 1, p.slots, (p.tabs.length : Int)].length = 3 * i + j by simp only [List.length_cons, List.length_nil]; omega]
  exact el_tabsTo _ _ _ _ hi hj
theorem el_prog_n (p : Prog) (j : Nat) (hj : j < 2) : el (progBytes p) (5 + 3 * p.tabs.length + j) = el [(p.code.length : Int) / 256, (p.code.length : Int) % 256] j := by
  unfold progBytes
  rw [el_append, if_pos (by simp only [List.length_append, tabsTo_length, List.length_cons, List.length_nil]; omega), el_append, if_neg (by simp only [List.length_append, tabsTo_length, List.length_cons, List.length_nil]; omega)]
  congr 1
  simp only [List.length_append, tabsTo_length, List.length_cons, List.length_nil]; omega
theorem el_prog_ins (p : Prog) (i j : Nat) (hi : i < p.code.length) (hj : j < 14) : el (progBytes p) (7 + 3 * p.tabs.length + 14 * i + j) = el (insBytes (nth p.code i)) j := by
  unfold progBytes
  rw [el_append, if_neg (by simp only [List.length_append, tabsTo_length, List.length_cons, List.length_nil]; omega)]
  rw [show 7 + 3 * p.tabs.length + 14 * i + j - (([83, 87, 1, p.slots, (p.tabs.length : Int)] ++ tabsTo p.tabs p.tabs.length) ++ [(p.code.length : Int) / 256, (p.code.length : Int) % 256]).length = 14 * i + j by simp only [List.length_append, tabsTo_length, List.length_cons, List.length_nil]; omega]
  exact el_codeTo _ _ _ _ hi hj

theorem numAt_congr (b c : List Int) (o n : Nat) (h : ∀ i, i < n → el b (o + i) = el c (o + i)) : numAt b o n = numAt c o n := by
  induction n with
  | zero => rfl
  | succ n ih => simp only [numAt]; rw [ih fun i hi => h i (by omega), h n (by omega)]
theorem num8 (b : List Int) (o : Nat) (x : Int) (hx : 0 ≤ x ∧ x ≤ 18446744073709551615) (h : ∀ i, i < 8 → el b (o + i) = el (numBytes x) i) : numAt b o 8 = x := by
  simp only [numAt]
  rw [h 0 (by omega), h 1 (by omega), h 2 (by omega), h 3 (by omega), h 4 (by omega), h 5 (by omega), h 6 (by omega), h 7 (by omega)]
  simp only [numBytes, el, List.getD_cons_succ, List.getD_cons_zero]
  omega

/-- Bytes that begin as a program's. -/
theorem begins_as {p : Prog} (hv : Valid p) (hx : ∀ x ∈ p.code, x.wf) {b : List Int} (h : ∀ i, i < (progBytes p).length → el b i = el (progBytes p) i) (hl : (progBytes p).length ≤ b.length) : nTabs b = p.tabs.length ∧ nCode b = p.code.length ∧ progAt b = p ∧ el b 0 = 83 ∧ el b 1 = 87 ∧ el b 2 = 1 := by
  have hlen := progBytes_length p
  have e0 := (h 0 (by omega)).trans (el_prog_head p 0 (by omega))
  have e1 := (h 1 (by omega)).trans (el_prog_head p 1 (by omega))
  have e2 := (h 2 (by omega)).trans (el_prog_head p 2 (by omega))
  have e3 := (h 3 (by omega)).trans (el_prog_head p 3 (by omega))
  have e4 := (h 4 (by omega)).trans (el_prog_head p 4 (by omega))
  simp only [el, List.getD_cons_succ, List.getD_cons_zero] at e0 e1 e2 e3 e4
  have hT : nTabs b = p.tabs.length := by unfold nTabs el; rw [show b.getD 4 0 = (p.tabs.length : Int) from e4]; omega
  have f0 := (h (5 + 3 * p.tabs.length + 0) (by omega)).trans (el_prog_n p 0 (by omega))
  have f1 := (h (5 + 3 * p.tabs.length + 1) (by omega)).trans (el_prog_n p 1 (by omega))
  have hC : nCode b = p.code.length := by
    unfold nCode
    rw [hT]
    simp only [numAt]
    rw [f0, f1]
    simp only [el, List.getD_cons_succ, List.getD_cons_zero]
    omega
  refine ⟨hT, hC, ?_, e0, e1, e2⟩
  have hc6 := hv.code
  obtain ⟨slots, tabs, code⟩ := p
  simp only at *
  unfold progAt
  rw [hT, hC]
  have t1 : mkL (fun i => shapeAt b (5 + 3 * i)) tabs.length = tabs := by
    refine ext_nth (mkL_length _ _) fun i hi => ?_
    rw [mkL_length] at hi
    rw [nth_mkL _ _ _ hi]
    have g := fun j (hj : j < 3) => (h (5 + 3 * i + j) (by omega)).trans (el_prog_tab ⟨slots, tabs, code⟩ i j hi hj)
    have g0 := g 0 (by omega); have g1 := g 1 (by omega); have g2 := g 2 (by omega)
    simp only [shapeBytes, el, List.getD_cons_succ, List.getD_cons_zero, Nat.add_zero] at g0 g1 g2
    unfold shapeAt el
    rw [g0, g1, g2]
  have t2 : mkL (fun i => insAt b (7 + 3 * tabs.length + 14 * i)) code.length = code := by
    refine ext_nth (mkL_length _ _) fun i hi => ?_
    rw [mkL_length] at hi
    rw [nth_mkL _ _ _ hi]
    have g := fun j (hj : j < 14) => (h (7 + 3 * tabs.length + 14 * i + j) (by omega)).trans (el_prog_ins ⟨slots, tabs, code⟩ i j hi hj)
    have hsm := hv.ins i hi
    have hn := (hx (nth code i) (by rw [nth_lt _ _ hi]; exact List.getElem_mem _)).2.2.2.2.2.u64
    have hto := hsm.to
    simp only at hto
    generalize nth code i = x at *
    generalize 7 + 3 * tabs.length + 14 * i = o at *
    have q8 : numAt b (o + 6) 8 = x.n := num8 b (o + 6) x.n hn fun j hj => by
      rw [show o + 6 + j = o + (6 + j) by omega, g (6 + j) (by omega)]
      simp only [insBytes]
      rw [show 6 + j = [x.op, x.r, x.s, x.k, x.to / 256, x.to % 256].length + j from rfl, el_append_right]
    have g0 := g 0 (by omega); have g1 := g 1 (by omega); have g2 := g 2 (by omega); have g3 := g 3 (by omega); have g4 := g 4 (by omega); have g5 := g 5 (by omega)
    simp only [insBytes, el, List.cons_append, List.getD_cons_succ, List.getD_cons_zero, Nat.add_zero] at g0 g1 g2 g3 g4 g5
    have q2 : numAt b (o + 4) 2 = x.to := by
      simp only [numAt, el, Nat.add_zero]
      rw [show o + 4 + 1 = o + 5 by omega, g4, g5]
      omega
    unfold insAt
    rw [q8, q2]
    simp only [el]
    rw [g0, g1, g2, g3]
  rw [t1, t2]
  unfold el
  rw [e3]

/-- What was encoded is decoded as it was. -/
theorem dec_enc {p : Prog} (hx : ∀ x ∈ p.code, x.wf) (h : (progF p).1 = 0) : decE (progBytes p) = (0, 0) ∧ decV (progBytes p) = p := by
  obtain ⟨hv, h2⟩ := progF_valid hx h
  obtain ⟨b1, b2, b3, b4, b5, b6⟩ := begins_as hv hx (b := progBytes p) (fun _ _ => rfl) (Nat.le_refl _)
  have hl := progBytes_length p
  have e : decE (progBytes p) = (0, 0) := by
    unfold decE
    rw [if_neg (by omega), if_neg (by simp [b4, b5, b6]), b1, b2, if_neg (by omega), if_neg (by omega), if_neg (by omega), b3]
    exact Prod.ext h h2
  refine ⟨e, ?_⟩
  unfold decV
  rw [e, b3]; rfl

theorem numBytes_at {b : List Int} (hb : AllFit .u8 b) (o : Nat) : numBytes (numAt b o 8) = [el b o, el b (o + 1), el b (o + 2), el b (o + 3), el b (o + 4), el b (o + 5), el b (o + 6), el b (o + 7)] := by
  have h0 := hb.el_u8 o; have h1 := hb.el_u8 (o + 1); have h2 := hb.el_u8 (o + 2); have h3 := hb.el_u8 (o + 3); have h4 := hb.el_u8 (o + 4); have h5 := hb.el_u8 (o + 5); have h6 := hb.el_u8 (o + 6); have h7 := hb.el_u8 (o + 7)
  simp only [numAt, numBytes, Nat.add_zero]
  generalize el b o = a0 at *
  generalize el b (o + 1) = a1 at *
  generalize el b (o + 2) = a2 at *
  generalize el b (o + 3) = a3 at *
  generalize el b (o + 4) = a4 at *
  generalize el b (o + 5) = a5 at *
  generalize el b (o + 6) = a6 at *
  generalize el b (o + 7) = a7 at *
  simp only [List.cons.injEq, and_true]
  refine ⟨?_, ?_, ?_, ?_, ?_, ?_, ?_, ?_⟩ <;> omega

theorem el_shapeAt (b : List Int) (o j : Nat) (hj : j < 3) : el (shapeBytes (shapeAt b o)) j = el b (o + j) := by
  match j, hj with
  | 0, _ => rfl
  | 1, _ => rfl
  | 2, _ => rfl
theorem el_insAt {b : List Int} (hb : AllFit .u8 b) (o j : Nat) (hj14 : j < 14) : el (insBytes (insAt b o)) j = el b (o + j) := by
  have t0 := hb.el_u8 (o + 4)
  have t1 := hb.el_u8 (o + 4 + 1)
  have hto : numAt b (o + 4) 2 = 256 * el b (o + 4) + el b (o + 4 + 1) := by simp only [numAt, Nat.add_zero]; omega
  have h14 : insBytes (insAt b o) = [el b o, el b (o + 1), el b (o + 2), el b (o + 3), el b (o + 4), el b (o + 4 + 1), el b (o + 6), el b (o + 7), el b (o + 8), el b (o + 9), el b (o + 10), el b (o + 11), el b (o + 12), el b (o + 13)] := by
    unfold insBytes insAt
    simp only [numBytes_at hb, hto]
    rw [show (256 * el b (o + 4) + el b (o + 4 + 1)) / 256 = el b (o + 4) by omega, show (256 * el b (o + 4) + el b (o + 4 + 1)) % 256 = el b (o + 4 + 1) by omega]
    rfl
  rw [h14]
  match j, hj14 with
  | 0, _ => rfl
  | 1, _ => rfl
  | 2, _ => rfl
  | 3, _ => rfl
  | 4, _ => rfl
  | 5, _ => rfl
  | 6, _ => rfl
  | 7, _ => rfl
  | 8, _ => rfl
  | 9, _ => rfl
  | 10, _ => rfl
  | 11, _ => rfl
  | 12, _ => rfl
  | 13, _ => rfl
/-- What is decoded is encoded to the same bytes. -/
theorem enc_dec {b : List Int} (hb : AllFit .u8 b) (h : (decE b).1 = 0) : decE b = (0, 0) ∧ progF (progAt b) = (0, 0) ∧ progBytes (progAt b) = b := by
  unfold decE at h ⊢
  by_cases h1 : b.length < 5
  · rw [if_pos h1] at h; cases h
  rw [if_neg h1] at h ⊢
  by_cases h2 : ¬ (el b 0 = 83 ∧ el b 1 = 87 ∧ el b 2 = 1)
  · rw [if_pos h2] at h; cases h
  rw [if_neg h2] at h ⊢
  by_cases h3 : b.length < 7 + 3 * nTabs b
  · rw [if_pos h3] at h; cases h
  rw [if_neg h3] at h ⊢
  by_cases h4 : b.length < 7 + 3 * nTabs b + 14 * nCode b
  · rw [if_pos h4] at h; cases h
  rw [if_neg h4] at h ⊢
  by_cases h5 : 7 + 3 * nTabs b + 14 * nCode b < b.length
  · rw [if_pos h5] at h; cases h
  rw [if_neg h5] at h ⊢
  have hwf : ∀ x ∈ (progAt b).code, x.wf := fun x hx => by
    obtain ⟨i, hi, rfl⟩ := mem_nth hx
    simp only [progAt, mkL_length] at hi
    simp only [progAt]
    rw [nth_mkL _ _ _ hi]
    exact insAt_wf hb _
  obtain ⟨hv, h6⟩ := progF_valid hwf h
  have hp : progF (progAt b) = (0, 0) := Prod.ext h h6
  refine ⟨hp, hp, ?_⟩
  simp only [Classical.not_not] at h2
  have ht : (progAt b).tabs.length = nTabs b := mkL_length _ _
  have hc : (progAt b).code.length = nCode b := mkL_length _ _
  have hlen := progBytes_length (progAt b)
  rw [ht, hc] at hlen
  have e4 := hb.el_u8 4
  have hT4 : ((nTabs b : Nat) : Int) = el b 4 := by unfold nTabs; omega
  refine ext_el (by omega) fun i hi => ?_
  by_cases g1 : i < 5
  · rw [el_prog_head _ i g1]
    match i, g1 with
    | 0, _ => exact h2.1.symm
    | 1, _ => exact h2.2.1.symm
    | 2, _ => exact h2.2.2.symm
    | 3, _ => rfl
    | 4, _ => show ((progAt b).tabs.length : Int) = _; rw [ht]; exact hT4
  by_cases g2 : i < 5 + 3 * nTabs b
  · have := el_prog_tab (progAt b) ((i - 5) / 3) ((i - 5) % 3) (by rw [ht]; omega) (by omega)
    rw [show 5 + 3 * ((i - 5) / 3) + (i - 5) % 3 = i by omega] at this
    rw [this]
    have hn : nth (progAt b).tabs ((i - 5) / 3) = shapeAt b (5 + 3 * ((i - 5) / 3)) := nth_mkL _ _ _ (by omega)
    rw [hn, el_shapeAt _ _ _ (by omega)]
    congr 1; omega
  by_cases g3 : i < 7 + 3 * nTabs b
  · have := el_prog_n (progAt b) (i - 5 - 3 * nTabs b) (by omega)
    rw [ht, hc, show 5 + 3 * nTabs b + (i - 5 - 3 * nTabs b) = i by omega] at this
    rw [this]
    have q0 := hb.el_u8 (5 + 3 * nTabs b)
    have q1 := hb.el_u8 (5 + 3 * nTabs b + 1)
    have hC : ((nCode b : Nat) : Int) = 256 * el b (5 + 3 * nTabs b) + el b (5 + 3 * nTabs b + 1) := by unfold nCode; simp only [numAt, Nat.add_zero]; omega
    have hi2 : i = 5 + 3 * nTabs b ∨ i = 5 + 3 * nTabs b + 1 := by omega
    rw [hC]
    rcases hi2 with rfl | rfl
    · rw [show 5 + 3 * nTabs b - 5 - 3 * nTabs b = 0 by omega]
      simp only [el, List.getD_cons_zero] at *
      omega
    · rw [show 5 + 3 * nTabs b + 1 - 5 - 3 * nTabs b = 1 by omega]
      simp only [el, List.getD_cons_succ, List.getD_cons_zero] at *
      omega
  · have := el_prog_ins (progAt b) ((i - 7 - 3 * nTabs b) / 14) ((i - 7 - 3 * nTabs b) % 14) (by rw [hc]; omega) (by omega)
    rw [ht, show 7 + 3 * nTabs b + 14 * ((i - 7 - 3 * nTabs b) / 14) + (i - 7 - 3 * nTabs b) % 14 = i by omega] at this
    rw [this]
    have hn : nth (progAt b).code ((i - 7 - 3 * nTabs b) / 14) = insAt b (7 + 3 * nTabs b + 14 * ((i - 7 - 3 * nTabs b) / 14)) := nth_mkL _ _ _ (by omega)
    rw [hn, el_insAt hb _ _ (by omega)]
    congr 1; omega

/-- What is cut off is told. -/
theorem dec_cut {p : Prog} (hx : ∀ x ∈ p.code, x.wf) (h : (progF p).1 = 0) (k : Nat) (hk : k < (progBytes p).length) : decE ((progBytes p).take k) = (3, (k : Int)) := by
  obtain ⟨hv, h2⟩ := progF_valid hx h
  obtain ⟨b1, b2, b3, b4, b5, b6⟩ := begins_as hv hx (b := progBytes p) (fun _ _ => rfl) (Nat.le_refl _)
  have hl := progBytes_length p
  have hlk : ((progBytes p).take k).length = k := by rw [List.length_take]; omega
  have hel : ∀ i, i < k → el ((progBytes p).take k) i = el (progBytes p) i := fun i hi => by rw [el_take, if_pos hi]
  unfold decE
  rw [hlk]
  by_cases g1 : k < 5
  · rw [if_pos g1]
  rw [if_neg g1, if_neg (by rw [hel 0 (by omega), hel 1 (by omega), hel 2 (by omega), b4, b5, b6]; simp)]
  have hT : nTabs ((progBytes p).take k) = p.tabs.length := by rw [← b1]; unfold nTabs; rw [hel 4 (by omega)]
  rw [hT]
  by_cases g2 : k < 7 + 3 * p.tabs.length
  · rw [if_pos g2]
  rw [if_neg g2]
  have hC : nCode ((progBytes p).take k) = p.code.length := by
    rw [← b2]
    unfold nCode
    rw [hT, b1, numAt_congr _ (progBytes p) _ _ fun i hi => hel _ (by omega)]
  rw [hC, if_pos (by omega)]
theorem dec_more {p : Prog} (hx : ∀ x ∈ p.code, x.wf) (h : (progF p).1 = 0) (x : Int) : decE (progBytes p ++ [x]) = (4, ((progBytes p).length : Int)) := by
  obtain ⟨hv, h2⟩ := progF_valid hx h
  have hl := progBytes_length p
  obtain ⟨b1, b2, b3, b4, b5, b6⟩ := begins_as hv hx (b := progBytes p ++ [x]) (fun i hi => el_append_left _ _ _ hi) (by simp)
  unfold decE
  rw [List.length_append, b1, b2, if_neg (by omega), if_neg (by simp [b4, b5, b6]), if_neg (by omega), if_neg (by omega), if_pos (by simp only [List.length_cons, List.length_nil]; omega), hl]
end Go.Proofs.Ytfakdapglbgokaa

/-
  The references' SameProgram, GreatProgram, OwnProgram. No condition.
-/
namespace Go.Proofs.Ytfakdapglbgokaa
set_option linter.all false
open Go.RowKit
attribute [local go_sem ↓] Go.wp_at_zero Go.wp_at_succ

theorem sty_shapes : SliceTy Try.prog 47 123 3 24 (.agg #[.int .i64 0, .int .i64 0, .int .i64 0]) := ⟨Try.underlying47, by kernel_rfl, rfl, by omega⟩
theorem sty_ins : SliceTy Try.prog 51 56 6 48 (.agg #[.int .i64 0, .int .i64 0, .int .i64 0, .int .i64 0, .int .i64 0, .int .u64 0]) := ⟨Try.underlying51, by kernel_rfl, rfl, by omega⟩

def greatB (p : Prog) : Bool := decide (300 < p.tabs.length) || decide (65000 < p.code.length)
theorem GreatProgram_any (slots : Int) (to_ co : Option Addr) (tn cn tc cc : Nat) (w : World) (ht : tn ≤ 9223372036854775807) (hc : cn ≤ 9223372036854775807) :
    Calls Try.prog 46 #[.agg #[.int .i64 slots, .slice to_ tn tc, .slice co cn cc]] w fun e w' => e = .returned (.bool (decide (300 < tn) || decide (65000 < cn))) ∧ Below w.heap.size w w' := by
  by_cases h : 300 < tn
  · have h1 : (300 : Int) < (tn : Int) := by omega
    go_enter Try.func46, Try.ntmps46
    go_wp2_with fail
    go_ret
    exact ⟨by simp [h]; try omega, by go_grown⟩
  · have h1 : (tn : Int) ≤ 300 := by omega
    go_enter Try.func46, Try.ntmps46
    go_wp2_with fail
    go_ret
    exact ⟨by rw [show decide (300 < tn) = false from decide_eq_false h, show decide ((300 : Int) < (tn : Int)) = false from decide_eq_false (by omega)]; simp; omega, by go_grown⟩

theorem OwnProgram_mine (slots : Int) (to_ co : Option Addr) (tc cc : Nat) (tabs : List Shape) (code : List Ins) (A : Nat → Prop) (w : World) (ht : RdL shapeLay A w to_ tabs.length tc tabs) (hc : RdL insLay A w co code.length cc code) (ht5 : tabs.length ≤ 300) (hc6 : code.length ≤ 65000) :
    Calls Try.prog 47 #[.agg #[.int .i64 slots, .slice to_ tabs.length tc, .slice co code.length cc]] w fun e w' => ∃ to' co' tc' cc', e = .returned (.agg #[.int .i64 slots, .slice to' tabs.length tc', .slice co' code.length cc']) ∧
      RdL shapeLay NoA w' to' tabs.length tc' tabs ∧ RdL insLay NoA w' co' code.length cc' code ∧ MineL insLay AnyA w' w.heap.size 56 (.slice co' code.length cc') code ∧ Below w.heap.size w w' := by
  have hB := al (al (rf w) (.cells #[.int .i64 slots, .slice to_ tabs.length tc, .slice co code.length cc] 63)) (.cells #[.int .i64 0, .slice none 0 0, .slice none 0 0] 63)
  go_enter Try.func47, Try.ntmps47
  go_wp2_with fail
  have kB : Hid (Below w.heap.size w ((w.alloc (.cells #[.int .i64 slots, .slice to_ tabs.length tc, .slice co code.length cc] 63)).alloc (.cells #[.int .i64 0, .slice none 0 0, .slice none 0 0] 63))) := hB
  have hk := blk2 (rf ((w.alloc (.cells #[.int .i64 slots, .slice to_ tabs.length tc, .slice co code.length cc] 63)).alloc (.cells #[.int .i64 0, .slice none 0 0, .slice none 0 0] 63)))
  obtain ⟨_, hk1, hk2⟩ := hk
  have ht2 := ht.below hB
  have hc2 := hc.below hB
  generalize ((w.alloc (.cells #[.int .i64 slots, .slice to_ tabs.length tc, .slice co code.length cc] 63)).alloc (.cells #[.int .i64 0, .slice none 0 0, .slice none 0 0] 63)) = w1 at *
  have hd0 := hk1.cell 0
  have hd1 := hk1.cell 1
  have hd2 := hk1.cell 2
  have he0 := hk2.cell 0
  have he1 := hk2.cell 1
  have he2 := hk2.cell 2
  simp at hd0 hd1 hd2 he0 he1 he2
  have hf0 := hk2.frozen 0
  have hf1 := hk2.frozen 1
  have hf2 := hk2.frozen 2
  clear hB
  have ht3 : RdL shapeLay A w1.drew to_ tabs.length tc tabs := ht2.below ⟨rfl, rfl, rfl, Nat.le_refl _, fun _ _ => rfl⟩
  have hc3 : RdL insLay A w1.drew co code.length cc code := hc2.below ⟨rfl, rfl, rfl, Nat.le_refl _, fun _ _ => rfl⟩
  go_region_held3 (fun w' => w'.cell? ⟨w.heap.size, 0, none⟩ = some (.int .i64 slots) ∧ w'.cell? ⟨w.heap.size, 1, none⟩ = some (.slice to_ tabs.length tc) ∧ w'.cell? ⟨w.heap.size, 2, none⟩ = some (.slice co code.length cc))
    (first
      | go_keep
      | exact ⟨keep (w := w1.drew) hd0 hb7, keep (w := w1.drew) hd1 hb7, keep (w := w1.drew) hd2 hb7⟩
      | exact ⟨keep (keep (w := w1.drew) hd0 hb7) hb8, keep (keep (w := w1.drew) hd1 hb7) hb8, keep (keep (w := w1.drew) hd2 hb7) hb8⟩)
    ((first
      | (refine step_append_lay (L := shapeLay) (A := NoA) (by rfl) _ _ 47 (by rfl) sty_shapes w1.drew.heap.size (by rfl) (MineL.nil _ _ _ _ _) (by simp [Value.ownBlock]) (by rfl) ht3.srcF (by simp [maxLen]; omega) (by simp; omega) (by exact Nat.le_refl _) ?_; intro v2 w6 hm6 hb7; obtain ⟨a2, c2, rfl⟩ := hm6.form)
      | (refine step_append_lay (L := insLay) (A := NoA) (by rfl) _ _ 51 (by rfl) sty_ins w6.heap.size (by rfl) (MineL.nil _ _ _ _ _) (by simp [Value.ownBlock]) (by rfl) ((hc3.below hb7).srcF) (by simp [maxLen]; omega) (by simp; omega) (by exact Nat.le_refl _) ?_; intro v3 w7 hm7 hb8; obtain ⟨a3, c3, rfl⟩ := hm7.form; have hkz : Blk w7 (w.heap.size + 1) 63 #[.int .i64 0, .slice none 0 0, .slice none 0 0] := Blk.below (Blk.below (w := w1.drew) hk2 hb7 hk2.lt) hb8 (Nat.lt_of_lt_of_le hk2.lt hb7.size); have hg0 := hkz.cell 0; have hg1 := hkz.cell 1; have hg2 := hkz.cell 2; simp at hg0 hg1 hg2; have hgf0 := hkz.frozen 0; have hgf1 := hkz.frozen 1; have hgf2 := hkz.frozen 2; have hgz := hkz.lt)))
  go_wp2_with fail
  have hw16 : w1.heap.size ≤ w6.heap.size := hb7.size
  have hlt1 : w.heap.size + 1 < w1.heap.size := hk2.lt
  have R1 := ((((hm6.rdF).below hb8).set (p := ⟨w.heap.size + 1, 0, none⟩) hlt1 (.int .i64 slots)).set (p := ⟨w.heap.size + 1, 1, none⟩) hlt1 (.slice a2 tabs.length c2)).set (p := ⟨w.heap.size + 1, 2, none⟩) hlt1 (.slice a3 code.length c3)
  have R2 := ((hm7.rdF.set (p := ⟨w.heap.size + 1, 0, none⟩) (Nat.lt_of_lt_of_le hlt1 hw16) (.int .i64 slots)).set (p := ⟨w.heap.size + 1, 1, none⟩) (Nat.lt_of_lt_of_le hlt1 hw16) (.slice a2 tabs.length c2)).set (p := ⟨w.heap.size + 1, 2, none⟩) (Nat.lt_of_lt_of_le hlt1 hw16) (.slice a3 code.length c3)
  have M2 : MineL insLay AnyA (((w7.setCell ⟨w.heap.size + 1, 0, none⟩ (.int .i64 slots)).setCell ⟨w.heap.size + 1, 1, none⟩ (.slice a2 tabs.length c2)).setCell ⟨w.heap.size + 1, 2, none⟩ (.slice a3 code.length c3)) w.heap.size 56 (.slice a3 code.length c3) code := by
    have h0 := hm7.flat (A' := AnyA)
    have st : Step (fun k => k = w.heap.size + 1) w7 (((w7.setCell ⟨w.heap.size + 1, 0, none⟩ (.int .i64 slots)).setCell ⟨w.heap.size + 1, 1, none⟩ (.slice a2 tabs.length c2)).setCell ⟨w.heap.size + 1, 2, none⟩ (.slice a3 code.length c3)) := ((Step.set (fun k => k = w.heap.size + 1) w7 ⟨w.heap.size + 1, 0, none⟩ rfl _).trans (Step.set (fun k => k = w.heap.size + 1) _ ⟨w.heap.size + 1, 1, none⟩ rfl _)).trans (Step.set (fun k => k = w.heap.size + 1) _ ⟨w.heap.size + 1, 2, none⟩ rfl _)
    exact (h0.step st (fun g hg e => by have := (h0.lt g hg).1; omega) fun _ _ => trivial).base_le (by omega)
  have hB9 : Below w.heap.size w w7 := ((Below.drew kB.out).trans (Below.mono hb7 kB.out.size)).trans (hb8.mono (Nat.le_trans kB.out.size hw16))
  exact bodyPost_ret (v := .agg #[.int .i64 slots, .slice a2 tabs.length c2, .slice a3 code.length c3]) (by simp [results, Try.results47, go_sem, hg0, hg1, hg2, hgf0, hgf1, hgf2, hgz]) rfl ⟨a2, a3, c2, c3, rfl, R1.no, R2.no, M2, ((hB9.setCell (Nat.le_succ _) _).setCell (Nat.le_succ _) _).setCell (Nat.le_succ _) _⟩
theorem OwnProgram_any (slots : Int) (to_ co : Option Addr) (tc cc : Nat) (tabs : List Shape) (code : List Ins) (A : Nat → Prop) (w : World) (ht : RdL shapeLay A w to_ tabs.length tc tabs) (hc : RdL insLay A w co code.length cc code) (ht5 : tabs.length ≤ 300) (hc6 : code.length ≤ 65000) :
    Calls Try.prog 47 #[.agg #[.int .i64 slots, .slice to_ tabs.length tc, .slice co code.length cc]] w fun e w' => ∃ to' co' tc' cc', e = .returned (.agg #[.int .i64 slots, .slice to' tabs.length tc', .slice co' code.length cc']) ∧
      RdL shapeLay NoA w' to' tabs.length tc' tabs ∧ RdL insLay NoA w' co' code.length cc' code ∧ Below w.heap.size w w' :=
  (OwnProgram_mine slots to_ co tc cc tabs code A w ht hc ht5 hc6).mono fun _ _ ⟨a, b, c, d, e, h1, h2, _, h4⟩ => ⟨a, b, c, d, e, h1, h2, h4⟩
end Go.Proofs.Ytfakdapglbgokaa

/-
  Structs held against each other. No condition.
-/
namespace Go.Proofs.Ytfakdapglbgokaa
set_option linter.all false
open Go.RowKit

theorem guard_shape : Try.prog.eqGuardType Try.prog.depth 123 = false := by kernel_rfl
theorem guard_ins : Try.prog.eqGuardType Try.prog.depth 56 = false := by kernel_rfl
theorem guard_fault : Try.prog.eqGuardType Try.prog.depth 65 = false := by kernel_rfl
theorem eq_fault (a0 a1 b0 b1 : Int) (w : World) : (Op.equalIn 10000 65 (.agg #[.int .i64 a0, .int .i64 a1]) (.agg #[.int .i64 b0, .int .i64 b1])).run Try.prog w = .ok (decide (a0 = b0 ∧ a1 = b1)) w := by
  rw [show (10000 : Nat) = 9999 + 1 from rfl, run_equalIn_struct _ _ _ _ _ (by kernel_rfl) (by kernel_rfl)]
  simp only [Program.fieldsOf, Try.underlying65]
  simp [Op.eqFields, go_sem, Try.underlying3]
  by_cases h0 : a0 = b0 <;> by_cases h1 : a1 = b1 <;> simp [h0, h1]
theorem eq_shape (a b : Shape) (w : World) : (Op.equalIn 10000 123 (.agg #[.int .i64 a.keys, .int .i64 a.acts, .int .i64 a.args]) (.agg #[.int .i64 b.keys, .int .i64 b.acts, .int .i64 b.args])).run Try.prog w = .ok (decide (a = b)) w := by
  obtain ⟨a0, a1, a2⟩ := a
  obtain ⟨b0, b1, b2⟩ := b
  rw [show (10000 : Nat) = 9999 + 1 from rfl, run_equalIn_struct _ _ _ _ _ (by kernel_rfl) (by kernel_rfl)]
  simp only [Program.fieldsOf, Try.underlying123]
  simp [Op.eqFields, go_sem, Try.underlying3]
  by_cases h0 : a0 = b0 <;> by_cases h1 : a1 = b1 <;> by_cases h2 : a2 = b2 <;> simp [h0, h1, h2]
theorem eq_ins (a b : Ins) (w : World) : (Op.equalIn 10000 56 (.agg #[.int .i64 a.op, .int .i64 a.r, .int .i64 a.s, .int .i64 a.k, .int .i64 a.to, .int .u64 a.n]) (.agg #[.int .i64 b.op, .int .i64 b.r, .int .i64 b.s, .int .i64 b.k, .int .i64 b.to, .int .u64 b.n])).run Try.prog w = .ok (decide (a = b)) w := by
  obtain ⟨a0, a1, a2, a3, a4, a5⟩ := a
  obtain ⟨b0, b1, b2, b3, b4, b5⟩ := b
  rw [show (10000 : Nat) = 9999 + 1 from rfl, run_equalIn_struct _ _ _ _ _ (by kernel_rfl) (by kernel_rfl)]
  simp only [Program.fieldsOf, Try.underlying56]
  simp [Op.eqFields, go_sem, Try.underlying3, Try.underlying23]
  by_cases h0 : a0 = b0 <;> by_cases h1 : a1 = b1 <;> by_cases h2 : a2 = b2 <;> by_cases h3 : a3 = b3 <;> by_cases h4 : a4 = b4 <;> by_cases h5 : a5 = b5 <;> simp [h0, h1, h2, h3, h4, h5]
end Go.Proofs.Ytfakdapglbgokaa
