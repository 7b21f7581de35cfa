/-
  Package asm: Done. No condition.
-/
import Derived.Test.YtfakdapglbgokaaAsmX
import Derived.Test.YtfakdapglbgokaaAsmP
import Derived.Deep.CutRange
import Derived.Deep.CutBlock
import Derived.Deep.Cut
namespace Go.Proofs.Ytfakdapglbgokaa
set_option linter.all false
open Go.RowKit
attribute [local go_sem ↓] Go.wp_at_zero Go.wp_at_succ

instance {Fp : Nat → Prop} {T : TypeId} {g : Nat} {code : List Ins} {marks : List Int} : Mono (fun w => AsmObj w Fp T g code marks) := ⟨fun h hb => h.step (S := fun _ => False) (Step.of hb) fun _ h => h.elim⟩
theorem MineL.apart {α β : Type} {L : Lay α} {M : Lay β} {A A' : Nat → Prop} {w : World} {b b' : Nat} {e e' : TypeId} {v v' : Value} {xs : List α} {ys : List β} (h : MineL L A w b e v xs) (g : MineL M A' w b' e' v' ys) (hne : e ≠ e') : ∀ k, v.ownBlock = some k → v'.ownBlock ≠ some k :=
  OwnL.apart (Fp := fun _ => True) (Fp' := fun _ => True) ⟨h.base_le (Nat.zero_le _), fun _ _ => trivial⟩ ⟨g.base_le (Nat.zero_le _), fun _ _ => trivial⟩ hne
theorem MineL.ne {α : Type} {L : Lay α} {A : Nat → Prop} {w : World} {b : Nat} {e t : TypeId} {v : Value} {xs : List α} {g : Nat} {cs : Array Value} (h : MineL L A w b e v xs) (hg : Blk w g t cs) (hne : e ≠ t) : v.ownBlock ≠ some g :=
  OwnL.ne (Fp := fun _ => True) ⟨h.base_le (Nat.zero_le _), fun _ _ => trivial⟩ hg hne

/-- The program that is made, and all else. -/
def DoneSt (w1 : World) (G : Nat) (slots : Int) (tabs : List Shape) (code : List Ins) (a1 a2 : Option Addr) (n1 n2 c1 c2 : Nat) (wx : World) : Prop :=
  Blk wx G 63 #[.int .i64 slots, .slice a1 n1 c1, .slice a2 n2 c2] ∧ MineL shapeLay AnyA wx w1.heap.size 123 (.slice a1 n1 c1) tabs ∧ MineL insLay AnyA wx w1.heap.size 56 (.slice a2 n2 c2) code ∧ Below w1.heap.size w1 wx ∧ w1.heap.size ≤ G

theorem Below.drew0 (w : World) : Below w.heap.size w w.drew := ⟨rfl, rfl, rfl, Nat.le_refl _, fun _ _ => rfl⟩
theorem set3_st {a w : World} {B g i G : Nat} {v x y z : Value} (h : Below B a w ∧ w.cell? ⟨g, i, none⟩ = some v) (hG : B ≤ G) (hg : g < B) :
    Below B a (((w.setCell ⟨G, 0, none⟩ x).setCell ⟨G, 1, none⟩ y).setCell ⟨G, 2, none⟩ z) ∧ (((w.setCell ⟨G, 0, none⟩ x).setCell ⟨G, 1, none⟩ y).setCell ⟨G, 2, none⟩ z).cell? ⟨g, i, none⟩ = some v := by
  refine ⟨((h.1.setCell (p := ⟨G, 0, none⟩) hG x).setCell (p := ⟨G, 1, none⟩) hG y).setCell (p := ⟨G, 2, none⟩) hG z, ?_⟩
  have st : Step (fun k => k = G) w (((w.setCell ⟨G, 0, none⟩ x).setCell ⟨G, 1, none⟩ y).setCell ⟨G, 2, none⟩ z) := ((Step.set (fun k => k = G) w ⟨G, 0, none⟩ rfl x).trans (Step.set (fun k => k = G) _ ⟨G, 1, none⟩ rfl y)).trans (Step.set (fun k => k = G) _ ⟨G, 2, none⟩ rfl z)
  exact st.cell h.2 (by show ¬ g = G; omega)
theorem DoneSt.set3 {w1 w : World} {G : Nat} {slots : Int} {tabs : List Shape} {code : List Ins} {a1 a2 : Option Addr} {n1 n2 c1 c2 : Nat} {x y z : Value} (k : Blk w G 63 #[x, y, z])
    (h1 : MineL shapeLay AnyA w w1.heap.size 123 (.slice a1 n1 c1) tabs) (h2 : MineL insLay AnyA w w1.heap.size 56 (.slice a2 n2 c2) code) (hB : Below w1.heap.size w1 w) (hG : w1.heap.size ≤ G) :
    DoneSt w1 G slots tabs code a1 a2 n1 n2 c1 c2 (((w.setCell ⟨G, 0, none⟩ (.int .i64 slots)).setCell ⟨G, 1, none⟩ (.slice a1 n1 c1)).setCell ⟨G, 2, none⟩ (.slice a2 n2 c2)) := by
  have st : Step (fun k => k = G) w (((w.setCell ⟨G, 0, none⟩ (.int .i64 slots)).setCell ⟨G, 1, none⟩ (.slice a1 n1 c1)).setCell ⟨G, 2, none⟩ (.slice a2 n2 c2)) := ((Step.set (fun k => k = G) w ⟨G, 0, none⟩ rfl _).trans (Step.set (fun k => k = G) _ ⟨G, 1, none⟩ rfl _)).trans (Step.set (fun k => k = G) _ ⟨G, 2, none⟩ rfl _)
  refine ⟨((k.set_ 0 _).set_ 1 _).set_ 2 _, h1.step st (fun g hg e => h1.ne k (by decide) (by rw [hg, e])) fun _ _ => trivial, h2.step st (fun g hg e => h2.ne k (by decide) (by rw [hg, e])) fun _ _ => trivial, ?_, hG⟩
  exact ((hB.setCell (p := ⟨G, 0, none⟩) hG _).setCell (p := ⟨G, 1, none⟩) hG _).setCell (p := ⟨G, 2, none⟩) hG _
theorem DoneSt.laid {w1 w : World} {slots : Int} {tabs : List Shape} {code : List Ins} {a1 a2 : Option Addr} {n1 n2 c1 c2 : Nat}
    (h1 : MineL shapeLay AnyA w w1.heap.size 123 (.slice a1 n1 c1) tabs) (h2 : MineL insLay AnyA w w1.heap.size 56 (.slice a2 n2 c2) code) (hB : Below w1.heap.size w1 w) :
    DoneSt w1 w.heap.size slots tabs code a1 a2 n1 n2 c1 c2 (w.alloc (.cells #[.int .i64 slots, .slice a1 n1 c1, .slice a2 n2 c2] 63)) :=
  ⟨Blk.new _ _ _, h1.below (al (rf _) _), h2.below (al (rf _) _), al hB _, hB.size⟩

theorem DoneSt.alloc_ {w1 w : World} {G : Nat} {slots : Int} {tabs : List Shape} {code : List Ins} {a1 a2 : Option Addr} {n1 n2 c1 c2 : Nat} (h : DoneSt w1 G slots tabs code a1 a2 n1 n2 c1 c2 w) (o : Obj) : DoneSt w1 G slots tabs code a1 a2 n1 n2 c1 c2 (w.alloc o) :=
  ⟨h.1.alloc o, h.2.1.below (al (rf w) o), h.2.2.1.below (al (rf w) o), al h.2.2.2.1 o, h.2.2.2.2⟩
theorem DoneSt.below_ {w1 w w' : World} {G : Nat} {slots : Int} {tabs : List Shape} {code : List Ins} {a1 a2 : Option Addr} {n1 n2 c1 c2 : Nat} (h : DoneSt w1 G slots tabs code a1 a2 n1 n2 c1 c2 w) (hb : Below w.heap.size w w') : DoneSt w1 G slots tabs code a1 a2 n1 n2 c1 c2 w' :=
  ⟨h.1.below hb h.1.lt, h.2.1.below hb, h.2.2.1.below hb, ov h.2.2.2.1 hb, h.2.2.2.2⟩
theorem DoneSt.jump {w1 w : World} {G : Nat} {slots : Int} {tabs : List Shape} {code : List Ins} {marks : List Int} {a1 : Option Addr} {g n1 n2 c1 c2 k : Nat} (h : DoneSt w1 G slots tabs (doneTo marks code k) a1 (some ⟨g, 0, none⟩) n1 n2 c1 c2 w) (hk : k < code.length)
    (hT : hasT (nth code k).op = true) {v : Int} (hv : v = el marks (nth code k).to.toNat - k - 1) (hf : Fits .i64 v) :
    DoneSt w1 G slots tabs (doneTo marks code (k + 1)) a1 (some ⟨g, 0, none⟩) n1 n2 c1 c2 (w.setCell ⟨g, k * 6 + 4, none⟩ (.int .i64 v)) := by
  obtain ⟨h1, h2, h3, h4, h5⟩ := h
  have hg : w1.heap.size ≤ g := (h3.lt g rfl).1
  have st := Step.set (fun k => k = g) w ⟨g, k * 6 + 4, none⟩ rfl (.int .i64 v)
  refine ⟨h1.step_ st fun e => h3.ne h1 (by decide) (by rw [show G = g from e]; rfl), h2.step st (fun j hj e => h3.apart h2 (by decide) g rfl (by rw [← e]; exact hj)) fun _ _ => trivial, ?_, h4.setCell (p := ⟨g, k * 6 + 4, none⟩) hg _, h5⟩
  rw [doneTo_succ _ _ _ hk]
  refine h3.setAt (i := k) (by rw [doneTo_length]; exact hk) (j := 4) (by show 4 < 6; omega) trivial ?_ rfl
  intro c hc
  have e : (doneTo marks code k)[k]'(by rw [doneTo_length]; exact hk) = nth code k := by rw [← nth_doneTo marks code k k (Nat.le_refl _) hk, nth_lt _ _ (by rw [doneTo_length]; exact hk)]
  rw [e] at hc
  obtain ⟨rfl, hw⟩ := hc
  have e2 : doneIns marks k (nth code k) = (nth code k).setTo v := by unfold doneIns; rw [if_pos hT, hv]
  rw [e2]
  exact ⟨rfl, Ins.wf_setTo hw hf⟩

set_option maxRecDepth 100000 in
set_option maxHeartbeats 16000000 in
theorem asmDone_any (g : Nat) (Fp : Nat → Prop) (code : List Ins) (marks : List Int) (slots : Int) (to_ : Option Addr) (tc : Nat) (tabs : List Shape) (w : World) (h : AsmObj w Fp 120 g code marks) (ht : RdL shapeLay NoA w to_ tabs.length tc tabs) (hm : marks.length ≤ 1000000) (hc : code.length ≤ 1000000) (htn : tabs.length ≤ 1000000) :
    Calls Try.prog 33 #[.pointer (some ⟨g, 0, none⟩), .int .i64 slots, .slice to_ tabs.length tc] w fun e w' => DonePost w (donePF slots tabs code marks) e w' := by
  have H : Kept (fun w' => ((Below w.heap.size w w' ∧ AsmObj w' Fp 120 g code marks) ∧ Blk w' w.heap.size 63 #[.int .i64 0, .slice none 0 0, .slice none 0 0]) ∧ Blk w' (w.heap.size + 1) 65 #[.int .i64 0, .int .i64 0]) ((w.alloc (.cells #[.int .i64 0, .slice none 0 0, .slice none 0 0] 63)).alloc (.cells #[.int .i64 0, .int .i64 0] 65)) := by
    have := blk2 (rf ((w.alloc (.cells #[.int .i64 0, .slice none 0 0, .slice none 0 0] 63)).alloc (.cells #[.int .i64 0, .int .i64 0] 65)))
    exact ⟨⟨⟨this.1, Mono.mono (P := fun w => AsmObj w Fp 120 g code marks) h this.1⟩, this.2.1⟩, this.2.2⟩
  replace ht := ht.below H.out.1.1.1
  clear h
  go_enter Try.func33, Try.ntmps33
  go_wp2_with fail
  generalize (w.alloc (.cells #[.int .i64 0, .slice none 0 0, .slice none 0 0] 63)).alloc (.cells #[.int .i64 0, .int .i64 0] 65) = w1 at *
  obtain ⟨a1, c1, a2, c2, h1, h2, h3, h4, h5⟩ := H.out.1.1.2
  have hd0 := h1.cell 0
  simp at hd0
  have hz := h1.lt
  have hd0' : w1.drew.cell? ⟨g, 0, none⟩ = some (.slice a1 code.length c1) := hd0
  have hcd := (h2.rd (Fp := Fp)).below (w' := w1.drew) ⟨rfl, rfl, rfl, Nat.le_refl _, fun _ _ => rfl⟩
  have htd := ht.below (w' := w1.drew) ⟨rfl, rfl, rfl, Nat.le_refl _, fun _ _ => rfl⟩
  go_cut [8] from 13 to 21 (fun p wx => ∃ G a1 a2 c1 c2, p = .pointer (some ⟨G, 0, none⟩) ∧ DoneSt w1 G slots tabs code a1 a2 tabs.length code.length c1 c2 wx)
  case first =>
    have hS0 : Below w1.heap.size w1 w1.drew := ⟨rfl, rfl, rfl, Nat.le_refl _, fun _ _ => rfl⟩
    go_region_held3 (fun w' => Below w1.heap.size w1 w' ∧ w'.cell? ⟨g, 0, none⟩ = some (.slice a1 code.length c1))
      (first
        | exact ⟨hS0, hd0'⟩
        | (obtain ⟨hA, hB⟩ := ‹Below w1.heap.size w1 _ ∧ _›; exact ⟨al hA _, keep hB (al (rf _) _)⟩)
        | (obtain ⟨hA, hB⟩ := ‹Below w1.heap.size w1 _ ∧ _›; exact ⟨ov hA hb6, keep hB hb6⟩)
        | (obtain ⟨hA, hB⟩ := ‹Below w1.heap.size w1 _ ∧ _›; exact ⟨ov hA hb7, keep hB hb7⟩)
        | exact ⟨al (ov (ov hS0 hb6) hb7) _, keep (keep (keep hd0' hb6) hb7) (al (rf _) _)⟩
        | exact set3_st ‹Below w1.heap.size w1 _ ∧ _› (Nat.le_refl _) hz
        | exact set3_st ‹Below w1.heap.size w1 _ ∧ _› hb6.size hz)
      ((first
        | (go_at_call 86; (with_reducible refine (CloneShapes_any _ _ _ _ NoA _ (ht.below (And.left ‹Below w1.heap.size w1 _ ∧ _›)) htn).mono ?_); rintro e w6 ⟨r6, rfl, hm6, hb6⟩; obtain ⟨a6, c6, rfl⟩ := hm6.form; (first | (have kz0 : Blk w6 w1.heap.size 63 #[.int .i64 0, .slice none 0 0, .slice none 0 0] := (Blk.new w1.drew _ _).below hb6 (by simp)) | skip))
        | (go_at_call 87; (with_reducible refine (CloneIns_any _ _ _ _ NoA _ ((OwnL.rd h2).below (And.left ‹Below w1.heap.size w1 _ ∧ _›)) hc).mono ?_); rintro e w7 ⟨r7, rfl, hm7, hb7⟩; obtain ⟨a7, c7, rfl⟩ := hm7.form; (first | (have kz := Blk.below kz0 hb7 kz0.lt) | (have kz : Blk w7 w6.heap.size 63 #[.int .i64 0, .slice none 0 0, .slice none 0 0] := (Blk.new w6 _ _).below hb7 (by simp)) | have kz := ()); (try (have hg0 := kz.cell 0; have hg1 := kz.cell 1; have hg2 := kz.cell 2; simp at hg0 hg1 hg2; have hgf0 := kz.frozen 0; have hgf1 := kz.frozen 1; have hgf2 := kz.frozen 2; have hgz := kz.lt)))))
    all_goals go_wp2_with fail
    all_goals go_meet
    all_goals
      have hBe := And.left ‹Below w1.heap.size w1 _ ∧ _›
      first
        | exact ⟨_, _, _, _, _, rfl, DoneSt.laid (hm6.below hb7) (hm7.base_le hb6.size) (ov (ov hS0 hb6) hb7)⟩
        | exact ⟨_, _, _, _, _, rfl, DoneSt.set3 kz ((hm6.base_le (by simp)).below hb7) (hm7.base_le (by have := hb6.size; simp at this; omega)) (ov (ov (al hS0 _) hb6) hb7) (Nat.le_refl _)⟩
        | exact ⟨_, _, _, _, _, rfl, DoneSt.set3 kz (((hm6.below (al (rf _) _))).below hb7) (hm7.base_le (by have := hb6.size; simp at this ⊢; omega)) (ov (al (ov hS0 hb6) _) hb7) hb6.size⟩
  case rest =>
    obtain ⟨G, b1, b2, e1, e2, rfl, D1, D2, D3, D4, D5⟩ := hcut
    have H1 : Kept (fun w' => ((Below w.heap.size w w' ∧ AsmObj w' Fp 120 g code marks) ∧ Blk w' w.heap.size 63 #[.int .i64 0, .slice none 0 0, .slice none 0 0]) ∧ Blk w' (w.heap.size + 1) 65 #[.int .i64 0, .int .i64 0]) wc := Mono.mono (P := (fun w' => ((Below w.heap.size w w' ∧ AsmObj w' Fp 120 g code marks) ∧ Blk w' w.heap.size 63 #[.int .i64 0, .slice none 0 0, .slice none 0 0]) ∧ Blk w' (w.heap.size + 1) 65 #[.int .i64 0, .int .i64 0])) H.out D4
    have hk2 := D1.cell 2
    simp at hk2
    clear hcd htd hd0 hd0' h1 h2 h3 h4 h5 hz
    go_wp2_with fail
    have E0 := doneTo_zero marks code
    have L0 := doneTo_length marks code
    have LL := Lib.hid L0
    clear L0 hk2
    go_loopw [25] (fun i wr => ∃ k : Nat, k ≤ code.length ∧ (∀ j, j < k → doneBad marks code j = false) ∧ i = .int .i64 k ∧ DoneSt w1 G slots tabs (doneTo marks code k) b1 b2 tabs.length code.length e1 e2 wr) (fun i _ => code.length - (intOf i).toNat)
    case atStart => exact ⟨0, Nat.zero_le _, fun j hj => absurd hj (Nat.not_lt_zero j), rfl, by rw [E0]; exact ⟨D1, D2, D3, D4, D5⟩⟩
    case round =>
      clear D1 D2 D3 D4 H1 E0
      obtain ⟨k, hk, hno, rfl, D⟩ := hrel
      have HN := Lib.hid hno
      have HD := Lib.hid D
      obtain ⟨D1, D2, D3, D4, _⟩ := D
      have H1 := (Mono.mono (P := (fun w' => ((Below w.heap.size w w' ∧ AsmObj w' Fp 120 g code marks) ∧ Blk w' w.heap.size 63 #[.int .i64 0, .slice none 0 0, .slice none 0 0]) ∧ Blk w' (w.heap.size + 1) 65 #[.int .i64 0, .int .i64 0])) H.out D4)
      clear hno
      by_cases hlt : k < code.length
      · obtain ⟨b, off, e3, _, hb, hwf, hc0, hc1, hc2, hc3, hc4, hc5⟩ := (MineL.rdF D3).ins_at (i := k) (by rw [LL.out]; exact hlt)
        rw [nth_doneTo marks code k k (Nat.le_refl _) hlt] at hwf hc0 hc1 hc2 hc3 hc4 hc5
        subst e3
        obtain ⟨g2, cap2, e4, hg2, hg3⟩ := D3.at_ (by rw [LL.out]; omega)
        injection e4 with e4 e7 e5
        injection e4 with e4
        injection e4 with e4 e6 e8
        clear e7 e8
        subst e4 e5
        have Off := Lib.hid e6
        clear e6
        obtain ⟨a1, c1, a2, c2, h1, h2, h3, h4, h5⟩ := H1.1.1.2
        have hd1 := h1.cell 1
        simp at hd1
        have hz := h1.lt
        have hxb := Blk.new wr 56 (nth code k).cells.toArray
        have HX := Lib.hid hxb
        clear h5 hxb
        by_cases hT : hasT (nth code k).op = true
        case neg =>
          have hT' : hasT (nth code k).op = false := by simpa using hT
          clear hT
          go_wp2_with (go_at_call 88; refine (jumps_any _ _).mono ?_; rintro e w' ⟨rfl, rfl⟩)
          go_roundw
          case rel => exact ⟨k + 1, by omega, doneBad_next HN.out (by unfold doneBad; rw [hT']; rfl), by go_num, by rw [doneTo_skip _ _ _ hlt hT']; exact HD.out.alloc_ _⟩
          case measure => simp [intOf]; omega
        have q0 := H1.1.2.cell 0
        have q1 := H1.1.2.cell 1
        have q2 := H1.1.2.cell 2
        have q3 := H1.2.cell 0
        have q4 := H1.2.cell 1
        simp at q0 q1 q2 q3 q4
        have f0 := H1.1.2.frozen 0
        have f1 := H1.1.2.frozen 1
        have f2 := H1.1.2.frozen 2
        have f3 := H1.2.frozen 0
        have f4 := H1.2.frozen 1
        have z0 := H1.1.2.lt
        have z1 := H1.2.lt
        have hBr := H1.1.1.1
        have hBz := hBr.size
        by_cases hn : (nth code k).to < 0
        · have HP := Lib.hid (donePF_none slots tabs HN.out hlt hT (by unfold labBad; rw [decide_eq_true_iff]; exact .inl hn))
          go_wp2_with (go_at_call 88; refine (jumps_any _ _).mono ?_; rintro e w' ⟨rfl, rfl⟩)
          go_big_quiet (fail)
          go_wp2_with fail
          exact bodyPost_ret (v := .tuple #[.agg #[.int .i64 0, .slice none 0 0, .slice none 0 0], .agg #[.int .i64 9, .int .i64 (k : Int)]]) (by simp [results, Try.results33, go_sem, q0, q1, q2, q3, q4, f0, f1, f2, f3, f4, z0, z1]) rfl (DonePost.bad HP.out (by go_grown; exact below_drewN_ (al hBr _) _))
        by_cases hn2 : (marks.length : Int) ≤ (nth code k).to
        · have HP := Lib.hid (donePF_none slots tabs HN.out hlt hT (by unfold labBad; rw [decide_eq_true_iff]; exact .inr (.inl hn2)))
          have hn0 : 0 ≤ (nth code k).to := by omega
          have d1 : decide ((nth code k).to < 0) = false := decide_eq_false hn
          have d2 : decide ((marks.length : Int) ≤ (nth code k).to) = true := decide_eq_true hn2
          go_wp2_with (go_at_call 88; refine (jumps_any _ _).mono ?_; rintro e w' ⟨rfl, rfl⟩)
          go_big_quiet (fail)
          go_wp2_with fail
          exact bodyPost_ret (v := .tuple #[.agg #[.int .i64 0, .slice none 0 0, .slice none 0 0], .agg #[.int .i64 9, .int .i64 (k : Int)]]) (by simp [results, Try.results33, go_sem, q0, q1, q2, q3, q4, f0, f1, f2, f3, f4, z0, z1]) rfl (DonePost.bad HP.out (by go_grown; exact below_drewN_ (al hBr _) _))
        obtain ⟨m, hm⟩ := Int.eq_ofNat_of_zero_le (show 0 ≤ (nth code k).to by omega)
        have hml : m < marks.length := by omega
        obtain ⟨g3, cap3, e7, _, _⟩ := h3.mine.at_ (by omega)
        injection e7 with e7 e8 e9
        clear e8
        subst e7 e9
        obtain ⟨hv0, _, hv2⟩ := h3.cellInt hml
        rw [hm] at hc4 hn hn2
        have hml2 : (m : Int) < marks.length := by omega
        have hm0 : (0 : Int) ≤ m := by omega
        have HM := Lib.hid hm
        have d1 : decide ((m : Int) < 0) = false := decide_eq_false (by omega)
        have d2 : decide ((marks.length : Int) ≤ (m : Int)) = false := decide_eq_false (by omega)
        have d2' : decide (marks.length ≤ m) = false := decide_eq_false (by omega)
        have d2'' : ¬ marks.length ≤ m := by omega
        clear hm hn hn2
        have hcl : code.length ≤ 1000000 := hc
        have hvf := h3.mine.fit.el_i64 m
        by_cases hv : el marks m < 0
        · have d3 : decide (el marks m < 0) = true := decide_eq_true hv
          have HP := Lib.hid (donePF_none slots tabs HN.out hlt hT (by unfold labBad; rw [HM.out, decide_eq_true_iff]; exact .inr (.inr hv)))
          go_wp2_with (go_at_call 88; refine (jumps_any _ _).mono ?_; rintro e w' ⟨rfl, rfl⟩)
          go_big_quiet (fail)
          go_wp2_with fail
          exact bodyPost_ret (v := .tuple #[.agg #[.int .i64 0, .slice none 0 0, .slice none 0 0], .agg #[.int .i64 9, .int .i64 (k : Int)]]) (by simp [results, Try.results33, go_sem, q0, q1, q2, q3, q4, f0, f1, f2, f3, f4, z0, z1]) rfl (DonePost.bad HP.out (by go_grown; exact below_drewN_ (al hBr _) _))
        have hv' : 0 ≤ el marks m := by omega
        have d3 : decide (el marks m < 0) = false := decide_eq_false hv
        have hw1 : IntKind.i64.wrap (el marks m - (k : Int)) = el marks m - k := i64_wrap_id (by omega) (by omega)
        have hw2 : IntKind.i64.wrap (el marks m - (k : Int) - 1) = el marks m - k - 1 := i64_wrap_id (by omega) (by omega)
        have Hm2 := hm0
        by_cases hr : el marks m - (k : Int) - 1 < 0
        · have HP := Lib.hid (donePF_round slots tabs HN.out hlt hT (by unfold labBad; rw [HM.out, decide_eq_false_iff_not]; simp; omega) (by unfold labBack; rw [HM.out, decide_eq_true_iff]; simp; omega))
          go_wp2_with (go_at_call 88; refine (jumps_any _ _).mono ?_; rintro e w' ⟨rfl, rfl⟩)
          go_big_quiet (fail)
          go_wp2_with fail
          go_big_quiet (fail)
          go_wp2_with fail
          exact bodyPost_ret (v := .tuple #[.agg #[.int .i64 0, .slice none 0 0, .slice none 0 0], .agg #[.int .i64 11, .int .i64 (k : Int)]]) (by simp [results, Try.results33, go_sem, q0, q1, q2, q3, q4, f0, f1, f2, f3, f4, z0, z1]) rfl (DonePost.bad HP.out (by go_grown; exact below_drewN_ (al hBr _) _))
        · have HQ := Lib.hid (show doneBad marks code k = false by unfold doneBad labBad labBack; rw [hT, HM.out]; simp; omega)
          have HJ : Hid (el marks m - (k : Int) - 1 = el marks (nth code k).to.toNat - (k : Int) - 1) := by show _ = _; rw [HM.out]; rfl
          have D3' := D3
          rw [Off.out] at D3'
          have hfr := (D3'.cellAt (i := k) (by rw [LL.out]; exact hlt))
          clear D3'
          obtain ⟨_, _, _, hfr2, _, _⟩ := hfr
          have hfr4 := hfr2 (off + k * 6 + 4)
          have G2 := D1.cell 2
          simp at G2
          have Gz := D1.lt
          go_wp2_with (go_at_call 88; refine (jumps_any _ _).mono ?_; rintro e w' ⟨rfl, rfl⟩)
          go_big_quiet (fail)
          go_wp2_with fail
          go_big_quiet (fail)
          go_wp2_with fail
          go_roundw
          case rel =>
            refine ⟨k + 1, by omega, doneBad_next HN.out HQ.out, by go_num, ?_⟩
            have e := Off.out
            have D := HD.out
            rw [e] at D
            subst e
            rw [Nat.zero_add]
            exact DoneSt.jump ((D.alloc_ _).below_ (below_drewN_ (rf _) _)) hlt hT HJ.out (Fits.of_i64 (by omega) (by omega))
          case measure => simp [intOf]; omega
      · obtain rfl : k = code.length := by omega
        clear hk hlt
        have q0 := H1.1.2.cell 0
        have q1 := H1.1.2.cell 1
        have q2 := H1.1.2.cell 2
        have q3 := H1.2.cell 0
        have q4 := H1.2.cell 1
        simp at q0 q1 q2 q3 q4
        have f0 := H1.1.2.frozen 0
        have f1 := H1.1.2.frozen 1
        have f2 := H1.1.2.frozen 2
        have f3 := H1.2.frozen 0
        have f4 := H1.2.frozen 1
        have z0 := H1.1.2.lt
        have z1 := H1.2.lt
        have hBr := H1.1.1.1
        have hBz := hBr.size
        have G0 := D1.cell 0
        have G1 := D1.cell 1
        have G2 := D1.cell 2
        simp at G0 G1 G2
        have Gz := D1.lt
        obtain ⟨F, hF⟩ : ∃ F, progF ⟨slots, tabs, doneTo marks code code.length⟩ = F := ⟨_, rfl⟩
        have HC := Check_any slots b1 b2 e1 e2 tabs (doneTo marks code code.length) (fun k => k < w1.heap.size) wr (MineL.rdF D2) (by rw [LL.out]; exact MineL.rdF D3)
        rw [LL.out, hF] at HC
        replace HC := Lib.hid HC
        have HF := Lib.hid hF
        clear hF D1 D2 D3
        go_wp2_with fail
        refine HC.out.mono ?_
        rintro e w9 ⟨rfl, hb9⟩
        have q0 := keep q0 hb9
        have q1 := keep q1 hb9
        have q2 := keep q2 hb9
        have q3 := keep q3 hb9
        have q4 := keep q4 hb9
        have z0 := Nat.lt_of_lt_of_le z0 hb9.size
        have z1 := Nat.lt_of_lt_of_le z1 hb9.size
        have H2 : Kept (fun w' => ((Below w.heap.size w w' ∧ AsmObj w' Fp 120 g code marks) ∧ Blk w' w.heap.size 63 #[.int .i64 0, .slice none 0 0, .slice none 0 0]) ∧ Blk w' (w.heap.size + 1) 65 #[.int .i64 0, .int .i64 0]) w9 := Mono.mono (P := (fun w' => ((Below w.heap.size w w' ∧ AsmObj w' Fp 120 g code marks) ∧ Blk w' w.heap.size 63 #[.int .i64 0, .slice none 0 0, .slice none 0 0]) ∧ Blk w' (w.heap.size + 1) 65 #[.int .i64 0, .int .i64 0])) H1 hb9
        have f0 := H2.out.1.2.frozen 0
        have f1 := H2.out.1.2.frozen 1
        have f2 := H2.out.1.2.frozen 2
        have f3 := H2.out.2.frozen 0
        have f4 := H2.out.2.frozen 1
        have D9 := HD.out.below_ hb9
        obtain ⟨D1, D2, D3, D4, _⟩ := D9
        have G0 := D1.cell 0
        have G1 := D1.cell 1
        have G2 := D1.cell 2
        simp at G0 G1 G2
        have Gz := D1.lt
        have hBr := H2.out.1.1.1
        have hBz := hBr.size
        have HD2 := Lib.hid D2
        have HD3 := Lib.hid D3
        clear hb9 HC D1 D2 D3
        by_cases h0 : F.1 = 0
        · have q : (F.1 != 0) = false := by rw [h0]; rfl
          have HP := Lib.hid (donePF_good slots tabs HN.out (by rw [HF.out]; exact h0))
          clear h0
          go_wp2_with fail
          have hlt2 : w.heap.size + 1 < w1.heap.size := H.out.2.lt
          have R1 := ((((((MineL.rdF HD2.out).set (p := ⟨w.heap.size, 0, none⟩) (by show w.heap.size < w1.heap.size; omega) (.int .i64 slots)).set (p := ⟨w.heap.size, 1, none⟩) (by show w.heap.size < w1.heap.size; omega) (.slice b1 tabs.length e1)).set (p := ⟨w.heap.size, 2, none⟩) (by show w.heap.size < w1.heap.size; omega) (.slice b2 code.length e2)).set (p := ⟨w.heap.size + 1, 0, none⟩) hlt2 (.int .i64 0)).set (p := ⟨w.heap.size + 1, 1, none⟩) hlt2 (.int .i64 0)).below (al (rf _) (.cells #[.int .i64 F.1, .int .i64 F.2] 65))
          have R2 := ((((((MineL.rdF HD3.out).set (p := ⟨w.heap.size, 0, none⟩) (by show w.heap.size < w1.heap.size; omega) (.int .i64 slots)).set (p := ⟨w.heap.size, 1, none⟩) (by show w.heap.size < w1.heap.size; omega) (.slice b1 tabs.length e1)).set (p := ⟨w.heap.size, 2, none⟩) (by show w.heap.size < w1.heap.size; omega) (.slice b2 code.length e2)).set (p := ⟨w.heap.size + 1, 0, none⟩) hlt2 (.int .i64 0)).set (p := ⟨w.heap.size + 1, 1, none⟩) hlt2 (.int .i64 0)).below (al (rf _) (.cells #[.int .i64 F.1, .int .i64 F.2] 65))
          exact bodyPost_ret (v := .tuple #[.agg #[.int .i64 slots, .slice b1 tabs.length e1, .slice b2 code.length e2], .agg #[.int .i64 0, .int .i64 0]]) (by simp [results, Try.results33, go_sem, q0, q1, q2, q3, q4, f0, f1, f2, f3, f4, z0, z1]) rfl (DonePost.good HP.out R1.no R2.no (by go_grown))
        · have q : (F.1 != 0) = true := by rw [bne_iff_ne]; exact h0
          have HP := donePF_bad slots tabs HN.out (by rw [HF.out]; exact h0)
          rw [HF.out] at HP
          replace HP := Lib.hid HP
          clear h0
          go_wp2_with fail
          go_region
          go_wp2_with fail
          exact bodyPost_ret (v := .tuple #[.agg #[.int .i64 0, .slice none 0 0, .slice none 0 0], .agg #[.int .i64 F.1, .int .i64 F.2]]) (by simp [results, Try.results33, go_sem, q0, q1, q2, q3, q4, f0, f1, f2, f3, f4, z0, z1]) rfl (DonePost.bad HP.out (by go_grown))
end Go.Proofs.Ytfakdapglbgokaa
