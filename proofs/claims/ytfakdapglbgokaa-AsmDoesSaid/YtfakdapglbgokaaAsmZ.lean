/-
  Package asm: the reference's Labelled: Label, Mark, Done. No condition.
-/
import Derived.Test.YtfakdapglbgokaaAsmY
import Derived.Test.YtfakdapglbgokaaAsmO
import Derived.Test.YtfakdapglbgokaaWordD
namespace Go.Proofs.Ytfakdapglbgokaa
set_option linter.all false
open Go.RowKit
attribute [local go_sem ↓] Go.wp_at_zero Go.wp_at_succ

set_option maxHeartbeats 1000000 in
theorem refLabel_any (g : Nat) (Fp : Nat → Prop) (code : List Ins) (marks : List Int) (w : World) (h : AsmObj w Fp 54 g code marks) (hm : marks.length ≤ 1000000) :
    Calls Try.prog 29 #[.pointer (some ⟨g, 0, none⟩)] w fun e w' => e = .returned (.int .i64 (marks.length : Int)) ∧ ∃ Fp', AsmObj w' Fp' 54 g code (marks ++ [-1]) ∧ (∀ k, Fp' k → Fp k ∨ w.heap.size ≤ k) ∧ Step Fp w w' := by
  obtain ⟨a1, c1, a2, c2, h1, h2, h3, h4, h5⟩ := h
  have hd1 := h1.cell 1
  simp at hd1
  have hz := h1.lt
  have hal := Step.alloc (fun _ => False) w (.cells #[.int .i64 (-1)] 3)
  have hb2 := h1.alloc (.cells #[.int .i64 (-1)] 3)
  have ho2 := h2.step hal (fun _ _ h => h) fun _ h => h.elim
  have ho3 := h3.step hal (fun _ _ h => h) fun _ h => h.elim
  have hsz : Hid ((marks.length + 1) * 8 ≤ 140737488355328) := by show _ ≤ _; omega
  have hml : Hid (marks.length + 1 ≤ maxLen) := by show _ ≤ _; simp [maxLen]; omega
  have hne : Hid (∀ k, (Value.slice a2 marks.length c2).ownBlock = some k → k ≠ g) := fun k hk e => ho3.ne hb2 (by decide) (by rw [← e]; exact hk)
  have hap := Lib.hid (ho3.apart ho2 (by decide))
  go_enter Try.func29, Try.ntmps29
  go_wp2_with (at_builtin; refine wpList_append_own_ (L := Lay.int .i64) (A := AnyA) rfl _ _ 52 rfl sty_ints rfl ho3 (fun _ _ => trivial) rfl (Src.lit1 (x := (-1 : Int)) (cs := [.int .i64 (-1)]) (Blk.new w 3 #[.int .i64 (-1)]) ⟨rfl, Fits.of_i64 (by decide) (by decide)⟩) hml.out hsz.out ?_; intro v9 w9 hm9 hs9; have B9 := hb2.step_ hs9 (fun hk => hne.out g hk rfl); obtain ⟨a9, c9, rfl⟩ := hm9.form (n := marks.length + 1) (by simp); have hc9 : w9.cell? ⟨g, 1, none⟩ = some (.slice a2 marks.length c2) := B9.cell 1; have hf9 := B9.frozen 1; have hz9 := B9.lt)
  go_ret
  have O2 := ho2.step hs9 (fun k hk hk2 => hap.out k hk2 hk) fun _ _ => trivial
  have hst := Step.set (fun k => k = g) w9 ⟨g, 1, none⟩ rfl (.slice a9 (marks.length + 1) c9)
  refine ⟨rfl, fun k => Fp k ∨ (Value.slice a9 (marks.length + 1) c9).ownBlock = some k, ⟨a1, c1, a9, c9, ?_, ?_, ?_, .inl h4, ?_⟩, ?_, ?_⟩
  · have := B9.set_ 1 (.slice a9 (marks.length + 1) c9)
    simpa using this
  · exact (O2.weaken fun k hk => .inl hk).step hst (fun k hk e => (O2.ne B9 (by decide)) (by rw [hk, e])) fun _ _ => trivial
  · have := (hm9.exact_ (fun k => Fp k ∨ (Value.slice a9 (marks.length + 1) c9).ownBlock = some k) fun k hk => .inr hk).step hst (fun k hk e => (hm9.ne B9 (by decide)) (by rw [hk, e])) fun _ _ => trivial
    simpa using this
  · rintro k (hk | hk)
    · have := h5 k hk
      have := hs9.size
      simp at this ⊢
      omega
    · simpa using hm9.lt k hk
  · rintro k (hk | hk)
    · exact .inl hk
    · rcases hm9.row k hk with h | h
      · exact .inl h
      · exact .inr (by simp at h; omega)
  · refine ((Step.alloc Fp w _).trans (hs9.mono fun k hk => h3.row k hk)).trans (Step.set Fp w9 ⟨g, 1, none⟩ h4 _)

set_option maxHeartbeats 1000000 in
theorem refMark_any (g : Nat) (Fp : Nat → Prop) (code : List Ins) (marks : List Int) (l : Int) (w : World) (h : AsmObj w Fp 54 g code marks) (hm : marks.length ≤ 1000000) (hc : code.length ≤ 1000000) (hmk : ∀ x ∈ marks, -1 ≤ x) :
    Calls Try.prog 31 #[.pointer (some ⟨g, 0, none⟩), .int .i64 l] w fun e w' => e = .returned (.bool (markOk marks l)) ∧ AsmObj w' Fp 54 g code (markTo marks l code.length) ∧ Step Fp w w' := by
  have hno : markOk marks l = false → markTo marks l code.length = marks := fun h => by unfold markTo; rw [h]; rfl
  have hyes : markOk marks l = true → markTo marks l code.length = put marks l.toNat (code.length : Int) := fun h => by unfold markTo; rw [if_pos h]
  have HNo := Lib.hid hno
  have HYes := Lib.hid hyes
  clear hno hyes
  have HO := Lib.hid h
  obtain ⟨a1, c1, a2, c2, h1, h2, h3, h4, h5⟩ := h
  have hd0 := h1.cell 0
  have hd1 := h1.cell 1
  simp at hd0 hd1
  have hz := h1.lt
  by_cases hl : l < 0
  · have q : markOk marks l = false := by unfold markOk; rw [decide_eq_false_iff_not]; omega
    have Q := Lib.hid q
    clear h5 q
    go_enter Try.func31, Try.ntmps31
    go_wp2_with fail
    go_ret
    exact ⟨by rw [Q.out]; rfl, by rw [HNo.out Q.out]; exact HO.out, Step.refl _ _⟩
  by_cases hl2 : (marks.length : Int) ≤ l
  · have q : markOk marks l = false := by unfold markOk; rw [decide_eq_false_iff_not]; omega
    have hl0 : 0 ≤ l := by omega
    have Q := Lib.hid q
    clear h5 q
    go_enter Try.func31, Try.ntmps31
    go_wp2_with fail
    go_ret
    exact ⟨by rw [Q.out]; rfl, by rw [HNo.out Q.out]; exact HO.out, Step.refl _ _⟩
  obtain ⟨k, rfl⟩ := Int.eq_ofNat_of_zero_le (show 0 ≤ l by omega)
  have hk : k < marks.length := by omega
  obtain ⟨g2, cap2, e2, _, _⟩ := h3.mine.at_ (by omega)
  injection e2 with e2 _ e3
  subst e2 e3
  obtain ⟨hx0, hx1, hx2⟩ := h3.cellInt hk
  have hge : -1 ≤ el marks k := by rw [el_lt _ _ hk]; exact hmk _ (List.getElem_mem hk)
  by_cases hv : 0 ≤ el marks k
  · have t1 : (el marks k != -1) = true := by rw [bne_iff_ne]; omega
    have q : markOk marks (k : Int) = false := by unfold markOk; rw [decide_eq_false_iff_not]; simp; omega
    have Q := Lib.hid q
    clear h5 q
    go_enter Try.func31, Try.ntmps31
    go_wp2_with fail
    go_ret
    exact ⟨by rw [Q.out]; rfl, by rw [HNo.out Q.out]; exact HO.out, Step.refl _ _⟩
  · have hv' : el marks k < 0 := by omega
    have t1 : (el marks k != -1) = false := by rw [bne_eq_false_iff_eq]; omega
    have q : markOk marks (k : Int) = true := by unfold markOk; rw [decide_eq_true_iff]; simp; omega
    have hne : g ≠ g2 := fun e => h3.ne h1 (by decide) (by rw [e]; rfl)
    have hap := Lib.hid (h3.apart h2 (by decide))
    have H5 := Lib.hid h5
    have HM := Lib.hid (show marks.length ≤ 1000000 ∧ code.length ≤ 1000000 from ⟨hm, hc⟩)
    have Q := Lib.hid q
    clear h5 hm hc q
    go_enter Try.func31, Try.ntmps31
    go_wp2_with fail
    go_region
    go_wp2_with fail
    go_ret
    have hF2 : Fp g2 := h3.row g2 rfl
    have hst := Step.set (fun k => k = g2) w ⟨g2, k, none⟩ rfl (.int .i64 (code.length : Int))
    have hcl := HM.out.2
    refine ⟨by rw [Q.out]; rfl, AsmObj.drew ?_, (Step.set Fp w ⟨g2, k, none⟩ hF2 _).trans (Step.drew_ _ _)⟩
    rw [HYes.out Q.out]
    have hO := h3.setInt hk (x := (code.length : Int)) (Fits.of_i64 (by omega) (by omega)) trivial
    have hl := put_length marks k (code.length : Int)
    refine ⟨a1, c1, some ⟨g2, 0, none⟩, c2, ?_, h2.step hst (fun j hj e => hap.out g2 rfl (by rw [← e]; exact hj)) fun _ _ => trivial, ?_, h4, ?_⟩
    · rw [show (put marks (k : Int).toNat (code.length : Int)).length = marks.length from hl]; exact h1.step_ hst hne
    · rw [show (put marks (k : Int).toNat (code.length : Int)).length = marks.length from hl]; exact hO
    · intro j hj; have := H5.out j hj; simpa [World.setCell] using this

set_option maxRecDepth 100000 in
set_option maxHeartbeats 16000000 in
theorem refDone_any (g : Nat) (Fp : Nat → Prop) (code : List Ins) (marks : List Int) (slots : Int) (to_ : Option Addr) (tc : Nat) (tabs : List Shape) (w : World) (h : AsmObj w Fp 54 g code marks) (ht : RdL shapeLay NoA w to_ tabs.length tc tabs) (hm : marks.length ≤ 1000000) (hc : code.length ≤ 65000) (htn : tabs.length ≤ 300) :
    Calls Try.prog 34 #[.pointer (some ⟨g, 0, none⟩), .int .i64 slots, .slice to_ tabs.length tc] w fun e w' => DonePost w (donePF slots tabs code marks) e w' := by
  have H : Kept (fun w' => ((Below w.heap.size w w' ∧ AsmObj w' Fp 54 g code marks) ∧ Blk w' w.heap.size 63 #[.int .i64 0, .slice none 0 0, .slice none 0 0]) ∧ Blk w' (w.heap.size + 1) 65 #[.int .i64 0, .int .i64 0]) ((w.alloc (.cells #[.int .i64 0, .slice none 0 0, .slice none 0 0] 63)).alloc (.cells #[.int .i64 0, .int .i64 0] 65)) := by
    have := blk2 (rf ((w.alloc (.cells #[.int .i64 0, .slice none 0 0, .slice none 0 0] 63)).alloc (.cells #[.int .i64 0, .int .i64 0] 65)))
    exact ⟨⟨⟨this.1, Mono.mono (P := fun w => AsmObj w Fp 54 g code marks) h this.1⟩, this.2.1⟩, this.2.2⟩
  replace ht := ht.below H.out.1.1.1
  obtain ⟨a1, c1, a2, c2, h1, h2, h3, h4, h5⟩ := h
  have hd0 := h1.cell 0
  simp at hd0
  have hz := h1.lt
  have hcd := (h2.rd (Fp := Fp)).below H.out.1.1.1
  clear h1 h2 h3 h4 h5
  go_enter Try.func34, Try.ntmps34
  go_wp2_with fail
  generalize (w.alloc (.cells #[.int .i64 0, .slice none 0 0, .slice none 0 0] 63)).alloc (.cells #[.int .i64 0, .int .i64 0] 65) = w1 at *
  refine (OwnProgram_both slots to_ a1 tc c1 tabs code NoA w1 ht hcd htn hc).mono ?_
  rintro e w2 ⟨b1, b2, e1, e2, rfl, D2, D3, hb2⟩
  generalize hG : w2.heap.size = G
  have D0 : DoneSt w1 G slots tabs code b1 b2 tabs.length code.length e1 e2 (w2.alloc (.cells #[.int .i64 slots, .slice b1 tabs.length e1, .slice b2 code.length e2] 63)) := by subst hG; exact DoneSt.laid D2 D3 hb2
  generalize hwc : w2.alloc (.cells #[.int .i64 slots, .slice b1 tabs.length e1, .slice b2 code.length e2] 63) = wc at *
  obtain ⟨D1, D2, D3, D4, D5⟩ := D0
  have H1 : Kept (fun w' => ((Below w.heap.size w w' ∧ AsmObj w' Fp 54 g code marks) ∧ Blk w' w.heap.size 63 #[.int .i64 0, .slice none 0 0, .slice none 0 0]) ∧ Blk w' (w.heap.size + 1) 65 #[.int .i64 0, .int .i64 0]) wc := Mono.mono (P := (fun w' => ((Below w.heap.size w w' ∧ AsmObj w' Fp 54 g code marks) ∧ Blk w' w.heap.size 63 #[.int .i64 0, .slice none 0 0, .slice none 0 0]) ∧ Blk w' (w.heap.size + 1) 65 #[.int .i64 0, .int .i64 0])) H.out D4
  have hk2 := D1.cell 2
  simp at hk2
  clear hcd hd0 hz hb2
  go_wp2_with fail
  have E0 := doneTo_zero marks code
  have L0 := doneTo_length marks code
  have LL := Lib.hid L0
  clear L0 hk2
  go_loopw [9] (fun i wr => ∃ k : Nat, k ≤ code.length ∧ (∀ j, j < k → doneBad marks code j = false) ∧ i = .int .i64 k ∧ DoneSt w1 G slots tabs (doneTo marks code k) b1 b2 tabs.length code.length e1 e2 wr) (fun i _ => code.length - (intOf i).toNat)
  case atStart => exact ⟨0, Nat.zero_le _, fun j hj => absurd hj (Nat.not_lt_zero j), rfl, by rw [E0]; exact ⟨D1, D2, D3, D4, D5⟩⟩
  case round =>
    clear D1 D2 D3 D4 H1 E0
    obtain ⟨k, hk, hno, rfl, D⟩ := hrel
    have HN := Lib.hid hno
    have HD := Lib.hid D
    obtain ⟨D1, D2, D3, D4, _⟩ := D
    have G2 := D1.cell 2
    simp at G2
    have Gz := D1.lt
    clear hno
    by_cases hlt : k < code.length
    · obtain ⟨b, off, e3, _, hb, hwf, hc0, hc1, hc2, hc3, hc4, hc5⟩ := (MineL.rdF D3).ins_at (i := k) (by rw [LL.out]; exact hlt)
      rw [nth_doneTo marks code k k (Nat.le_refl _) hlt] at hwf hc0 hc1 hc2 hc3 hc4 hc5
      subst e3
      clear hc1 hc2 hc3 hc4 hc5 D1 D2 D3 D4 hwf
      go_wp2_with fail
      refine (fieldsOf_any _ _).mono ?_
      rintro e w3 ⟨rfl, hb3⟩
      have HD3 := Lib.hid (HD.out.below_ hb3)
      clear G2 Gz hc0 hb hb3 HD
      have D3' := HD3.out
      obtain ⟨D1, D2, D3, D4, _⟩ := D3'
      obtain ⟨b', off', e3, _, hb, hwf, hc0, hc1, hc2, hc3, hc4, hc5⟩ := (MineL.rdF D3).ins_at (i := k) (by rw [LL.out]; exact hlt)
      injection e3 with e3
      injection e3 with e3 e4 e5
      clear e5
      subst e3 e4
      rw [nth_doneTo marks code k k (Nat.le_refl _) hlt] at hwf hc0 hc1 hc2 hc3 hc4 hc5
      obtain ⟨g2, cap2, e4, hg2, hg3⟩ := D3.at_ (by rw [LL.out]; omega)
      injection e4 with e4 e7 e5
      injection e4 with e4
      injection e4 with e4 e6 e8
      clear e7 e8
      subst e4 e5
      have Off := Lib.hid e6
      clear e6
      have G2 := D1.cell 2
      simp at G2
      have Gz := D1.lt
      have H1 := (Mono.mono (P := (fun w' => ((Below w.heap.size w w' ∧ AsmObj w' Fp 54 g code marks) ∧ Blk w' w.heap.size 63 #[.int .i64 0, .slice none 0 0, .slice none 0 0]) ∧ Blk w' (w.heap.size + 1) 65 #[.int .i64 0, .int .i64 0])) H.out D4)
      obtain ⟨a1, c1, a2, c2, h1, h2, h3, h4, h5⟩ := H1.1.1.2
      have hd1 := h1.cell 1
      simp at hd1
      have hz := h1.lt
      clear h5 hc0 hc1 hc2 hc3 hc5
      by_cases hT : hasT (nth code k).op = true
      case neg =>
        have hT' : hasT (nth code k).op = false := by simpa using hT
        rw [hT']
        have HT := Lib.hid hT'
        clear hT hT'
        go_wp2_with fail
        go_roundw
        case rel => exact ⟨k + 1, by omega, doneBad_next HN.out (by unfold doneBad; rw [HT.out]; rfl), by go_num, by rw [doneTo_skip _ _ _ hlt HT.out]; exact HD3.out.alloc_ _⟩
        case measure => simp [intOf]; omega
      rw [hT]
      have HT := Lib.hid hT
      clear hT
      have q0 := H1.1.2.cell 0
      have q1 := H1.1.2.cell 1
      have q2 := H1.1.2.cell 2
      have q3 := H1.2.cell 0
      have q4 := H1.2.cell 1
      simp at q0 q1 q2 q3 q4
      have f0 := H1.1.2.frozen 0
      have f1 := H1.1.2.frozen 1
      have f2 := H1.1.2.frozen 2
      have f3 := H1.2.frozen 0
      have f4 := H1.2.frozen 1
      have z0 := H1.1.2.lt
      have z1 := H1.2.lt
      have hBr := H1.1.1.1
      have hBz := hBr.size
      by_cases hn : (nth code k).to < 0
      · have HP := Lib.hid (donePF_none slots tabs HN.out hlt HT.out (by unfold labBad; rw [decide_eq_true_iff]; exact .inl hn))
        go_wp2_with (go_at_call 90; refine (F_any _ _ _).mono ?_; rintro e w' ⟨rfl, rfl⟩)
        exact bodyPost_ret (v := .tuple #[.agg #[.int .i64 0, .slice none 0 0, .slice none 0 0], .agg #[.int .i64 9, .int .i64 (k : Int)]]) (by simp [results, Try.results34, go_sem, q0, q1, q2, q3, q4, f0, f1, f2, f3, f4, z0, z1]) rfl (DonePost.bad HP.out (by go_grown))
      by_cases hn2 : (marks.length : Int) ≤ (nth code k).to
      · have HP := Lib.hid (donePF_none slots tabs HN.out hlt HT.out (by unfold labBad; rw [decide_eq_true_iff]; exact .inr (.inl hn2)))
        have hn0 : 0 ≤ (nth code k).to := by omega
        have d1 : decide ((nth code k).to < 0) = false := decide_eq_false hn
        have d2 : decide ((marks.length : Int) ≤ (nth code k).to) = true := decide_eq_true hn2
        go_wp2_with (go_at_call 90; refine (F_any _ _ _).mono ?_; rintro e w' ⟨rfl, rfl⟩)
        exact bodyPost_ret (v := .tuple #[.agg #[.int .i64 0, .slice none 0 0, .slice none 0 0], .agg #[.int .i64 9, .int .i64 (k : Int)]]) (by simp [results, Try.results34, go_sem, q0, q1, q2, q3, q4, f0, f1, f2, f3, f4, z0, z1]) rfl (DonePost.bad HP.out (by go_grown))
      obtain ⟨m, hm⟩ := Int.eq_ofNat_of_zero_le (show 0 ≤ (nth code k).to by omega)
      have hml : m < marks.length := by omega
      obtain ⟨g3, cap3, e7, _, _⟩ := h3.mine.at_ (by omega)
      injection e7 with e7 e8 e9
      clear e8
      subst e7 e9
      obtain ⟨hv0, _, hv2⟩ := h3.cellInt hml
      rw [hm] at hc4 hn hn2
      have hml2 : (m : Int) < marks.length := by omega
      have hm0 : (0 : Int) ≤ m := by omega
      have HM := Lib.hid hm
      have d1 : decide ((m : Int) < 0) = false := decide_eq_false (by omega)
      have d2 : decide ((marks.length : Int) ≤ (m : Int)) = false := decide_eq_false (by omega)
      have d2' : decide (marks.length ≤ m) = false := decide_eq_false (by omega)
      have d2'' : ¬ marks.length ≤ m := by omega
      clear hm hn hn2
      have hcl : code.length ≤ 65000 := hc
      have hvf := h3.mine.fit.el_i64 m
      by_cases hv : el marks m < 0
      · have d3 : decide (el marks m < 0) = true := decide_eq_true hv
        have HP := Lib.hid (donePF_none slots tabs HN.out hlt HT.out (by unfold labBad; rw [HM.out, decide_eq_true_iff]; exact .inr (.inr hv)))
        go_wp2_with (go_at_call 90; refine (F_any _ _ _).mono ?_; rintro e w' ⟨rfl, rfl⟩)
        exact bodyPost_ret (v := .tuple #[.agg #[.int .i64 0, .slice none 0 0, .slice none 0 0], .agg #[.int .i64 9, .int .i64 (k : Int)]]) (by simp [results, Try.results34, go_sem, q0, q1, q2, q3, q4, f0, f1, f2, f3, f4, z0, z1]) rfl (DonePost.bad HP.out (by go_grown))
      have hv' : 0 ≤ el marks m := by omega
      have d3 : decide (el marks m < 0) = false := decide_eq_false hv
      have hw1 : IntKind.i64.wrap (el marks m - (k : Int)) = el marks m - k := i64_wrap_id (by omega) (by omega)
      have hw2 : IntKind.i64.wrap (el marks m - (k : Int) - 1) = el marks m - k - 1 := i64_wrap_id (by omega) (by omega)
      by_cases hr : el marks m ≤ (k : Int)
      · have HP := Lib.hid (donePF_round slots tabs HN.out hlt HT.out (by unfold labBad; rw [HM.out, decide_eq_false_iff_not]; simp; omega) (by unfold labBack; rw [HM.out, decide_eq_true_iff]; simp; omega))
        go_wp2_with (go_at_call 90; refine (F_any _ _ _).mono ?_; rintro e w' ⟨rfl, rfl⟩)
        exact bodyPost_ret (v := .tuple #[.agg #[.int .i64 0, .slice none 0 0, .slice none 0 0], .agg #[.int .i64 11, .int .i64 (k : Int)]]) (by simp [results, Try.results34, go_sem, q0, q1, q2, q3, q4, f0, f1, f2, f3, f4, z0, z1]) rfl (DonePost.bad HP.out (by go_grown))
      · have HQ := Lib.hid (show doneBad marks code k = false by unfold doneBad labBad labBack; rw [HT.out, HM.out]; simp; omega)
        have HJ : Hid (el marks m - (k : Int) - 1 = el marks (nth code k).to.toNat - (k : Int) - 1) := by show _ = _; rw [HM.out]; rfl
        have D3' := D3
        rw [Off.out] at D3'
        have hfr := (D3'.cellAt (i := k) (by rw [LL.out]; exact hlt))
        clear D3'
        obtain ⟨_, _, _, hfr2, _, _⟩ := hfr
        have hfr4 := hfr2 (off + k * 6 + 4)
        have hr' : (k : Int) < el marks m := by omega
        go_wp2_with fail
        go_region
        go_wp2_with fail
        go_roundw
        case rel =>
          refine ⟨k + 1, by omega, doneBad_next HN.out HQ.out, by go_num, ?_⟩
          have e := Off.out
          have D := HD3.out
          rw [e] at D
          subst e
          rw [Nat.zero_add]
          exact ((DoneSt.jump D hlt HT.out HJ.out (Fits.of_i64 (by omega) (by omega))).alloc_ _).below_ (Below.drew0 _)
        case measure => simp [intOf]; omega
    · obtain rfl : k = code.length := by omega
      clear hk hlt
      have H1 := (Mono.mono (P := (fun w' => ((Below w.heap.size w w' ∧ AsmObj w' Fp 54 g code marks) ∧ Blk w' w.heap.size 63 #[.int .i64 0, .slice none 0 0, .slice none 0 0]) ∧ Blk w' (w.heap.size + 1) 65 #[.int .i64 0, .int .i64 0])) H.out D4)
      have q0 := H1.1.2.cell 0
      have q1 := H1.1.2.cell 1
      have q2 := H1.1.2.cell 2
      have q3 := H1.2.cell 0
      have q4 := H1.2.cell 1
      simp at q0 q1 q2 q3 q4
      have f0 := H1.1.2.frozen 0
      have f1 := H1.1.2.frozen 1
      have f2 := H1.1.2.frozen 2
      have f3 := H1.2.frozen 0
      have f4 := H1.2.frozen 1
      have z0 := H1.1.2.lt
      have z1 := H1.2.lt
      have hBr := H1.1.1.1
      have hBz := hBr.size
      have G0 := D1.cell 0
      have G1 := D1.cell 1
      have G2 := D1.cell 2
      simp at G0 G1 G2
      have Gz := D1.lt
      obtain ⟨F, hF⟩ : ∃ F, progF ⟨slots, tabs, doneTo marks code code.length⟩ = F := ⟨_, rfl⟩
      have HC := ProgramFault_any slots b1 b2 e1 e2 tabs (doneTo marks code code.length) (fun k => k < w1.heap.size) wr (MineL.rdF D2) (by rw [LL.out]; exact MineL.rdF D3)
      rw [LL.out, hF] at HC
      replace HC := Lib.hid HC
      have HF := Lib.hid hF
      clear hF D1 D2 D3
      go_wp2_with fail
      refine HC.out.mono ?_
      rintro e w9 ⟨rfl, hb9⟩
      have q0 := keep q0 hb9
      have q1 := keep q1 hb9
      have q2 := keep q2 hb9
      have q3 := keep q3 hb9
      have q4 := keep q4 hb9
      have z0 := Nat.lt_of_lt_of_le z0 hb9.size
      have z1 := Nat.lt_of_lt_of_le z1 hb9.size
      have H2 : Kept (fun w' => ((Below w.heap.size w w' ∧ AsmObj w' Fp 54 g code marks) ∧ Blk w' w.heap.size 63 #[.int .i64 0, .slice none 0 0, .slice none 0 0]) ∧ Blk w' (w.heap.size + 1) 65 #[.int .i64 0, .int .i64 0]) w9 := Mono.mono (P := (fun w' => ((Below w.heap.size w w' ∧ AsmObj w' Fp 54 g code marks) ∧ Blk w' w.heap.size 63 #[.int .i64 0, .slice none 0 0, .slice none 0 0]) ∧ Blk w' (w.heap.size + 1) 65 #[.int .i64 0, .int .i64 0])) H1 hb9
      have f0 := H2.out.1.2.frozen 0
      have f1 := H2.out.1.2.frozen 1
      have f2 := H2.out.1.2.frozen 2
      have f3 := H2.out.2.frozen 0
      have f4 := H2.out.2.frozen 1
      have D9 := HD.out.below_ hb9
      obtain ⟨D1, D2, D3, D4, _⟩ := D9
      have G0 := D1.cell 0
      have G1 := D1.cell 1
      have G2 := D1.cell 2
      simp at G0 G1 G2
      have Gz := D1.lt
      have hBr := H2.out.1.1.1
      have hBz := hBr.size
      have HD2 := Lib.hid D2
      have HD3 := Lib.hid D3
      clear hb9 HC D1 D2 D3
      by_cases h0 : F.1 = 0
      · have q : (F.1 != 0) = false := by rw [h0]; rfl
        have HP := Lib.hid (donePF_good slots tabs HN.out (by rw [HF.out]; exact h0))
        clear h0
        go_wp2_with fail
        have hlt2 : w.heap.size + 1 < w1.heap.size := H.out.2.lt
        have R1 := ((((((MineL.rdF HD2.out).set (p := ⟨w.heap.size, 0, none⟩) (by show w.heap.size < w1.heap.size; omega) (.int .i64 slots)).set (p := ⟨w.heap.size, 1, none⟩) (by show w.heap.size < w1.heap.size; omega) (.slice b1 tabs.length e1)).set (p := ⟨w.heap.size, 2, none⟩) (by show w.heap.size < w1.heap.size; omega) (.slice b2 code.length e2)).set (p := ⟨w.heap.size + 1, 0, none⟩) hlt2 (.int .i64 0)).set (p := ⟨w.heap.size + 1, 1, none⟩) hlt2 (.int .i64 0)).below (al (rf _) (.cells #[.int .i64 F.1, .int .i64 F.2] 65))
        have R2 := ((((((MineL.rdF HD3.out).set (p := ⟨w.heap.size, 0, none⟩) (by show w.heap.size < w1.heap.size; omega) (.int .i64 slots)).set (p := ⟨w.heap.size, 1, none⟩) (by show w.heap.size < w1.heap.size; omega) (.slice b1 tabs.length e1)).set (p := ⟨w.heap.size, 2, none⟩) (by show w.heap.size < w1.heap.size; omega) (.slice b2 code.length e2)).set (p := ⟨w.heap.size + 1, 0, none⟩) hlt2 (.int .i64 0)).set (p := ⟨w.heap.size + 1, 1, none⟩) hlt2 (.int .i64 0)).below (al (rf _) (.cells #[.int .i64 F.1, .int .i64 F.2] 65))
        exact bodyPost_ret (v := .tuple #[.agg #[.int .i64 slots, .slice b1 tabs.length e1, .slice b2 code.length e2], .agg #[.int .i64 0, .int .i64 0]]) (by simp [results, Try.results34, go_sem, q0, q1, q2, q3, q4, f0, f1, f2, f3, f4, z0, z1]) rfl (DonePost.good HP.out R1.no R2.no (by go_grown))
      · have q : (F.1 != 0) = true := by rw [bne_iff_ne]; exact h0
        have HP := donePF_bad slots tabs HN.out (by rw [HF.out]; exact h0)
        rw [HF.out] at HP
        replace HP := Lib.hid HP
        clear h0
        go_wp2_with fail
        go_region
        go_wp2_with fail
        exact bodyPost_ret (v := .tuple #[.agg #[.int .i64 0, .slice none 0 0, .slice none 0 0], .agg #[.int .i64 F.1, .int .i64 F.2]]) (by simp [results, Try.results34, go_sem, q0, q1, q2, q3, q4, f0, f1, f2, f3, f4, z0, z1]) rfl (DonePost.bad HP.out (by go_grown))
end Go.Proofs.Ytfakdapglbgokaa
