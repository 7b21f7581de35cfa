/-
  The law AsmDoes. No condition.
-/
import Derived.Test.YtfakdapglbgokaaAsmB
import Derived.Test.YtfakdapglbgokaaAsmZ
import Derived.Test.YtfakdapglbgokaaWordJ
import Derived.Test.YtfakdapglbgokaaWordA
namespace Go.Proofs.Ytfakdapglbgokaa
set_option linter.all false
open Go.RowKit
attribute [local go_sem ↓] Go.wp_at_zero Go.wp_at_succ

structure AStep where
  d : Int
  n : Int
  x : Ins
instance : Inhabited AStep := ⟨⟨0, 0, default⟩⟩
def AStep.cells (s : AStep) : List Value := [.int .i64 s.d, .int .i64 s.n, .int .i64 s.x.op, .int .i64 s.x.r, .int .i64 s.x.s, .int .i64 s.x.k, .int .i64 s.x.to, .int .u64 s.x.n]
def AStep.wf (s : AStep) : Prop := Fits .i64 s.d ∧ Fits .i64 s.n ∧ s.x.wf
def astepLay : Lay AStep := Lay.flat 8 AStep.cells AStep.wf fun _ => rfl
theorem RdL.astep_at {A : Nat → Prop} {w : World} {ao : Option Addr} {n cap : Nat} {xs : List AStep} (h : RdL astepLay A w ao n cap xs) {i : Nat} (hi : i < xs.length) :
    ∃ b off, ao = some ⟨b, off, none⟩ ∧ b < w.heap.size ∧ (nth xs i).wf ∧
      w.cell? ⟨b, off + i * 8, none⟩ = some (.int .i64 (nth xs i).d) ∧ w.cell? ⟨b, off + i * 8 + 1, none⟩ = some (.int .i64 (nth xs i).n) ∧ w.cell? ⟨b, off + i * 8 + 2, none⟩ = some (.int .i64 (nth xs i).x.op) ∧
      w.cell? ⟨b, off + i * 8 + 3, none⟩ = some (.int .i64 (nth xs i).x.r) ∧ w.cell? ⟨b, off + i * 8 + 4, none⟩ = some (.int .i64 (nth xs i).x.s) ∧ w.cell? ⟨b, off + i * 8 + 5, none⟩ = some (.int .i64 (nth xs i).x.k) ∧
      w.cell? ⟨b, off + i * 8 + 6, none⟩ = some (.int .i64 (nth xs i).x.to) ∧ w.cell? ⟨b, off + i * 8 + 7, none⟩ = some (.int .u64 (nth xs i).x.n) := by
  obtain ⟨b, off, e, _, h2, ho, hc⟩ := RdL.flat_at h hi
  exact ⟨b, off, e, h2, ho, hc 0 (by omega), hc 1 (by omega), hc 2 (by omega), hc 3 (by omega), hc 4 (by omega), hc 5 (by omega), hc 6 (by omega), hc 7 (by omega)⟩
theorem keepB {w w' : World} {p : Addr} {v : Value} {B : Nat} (h : w.cell? p = some v) (hb : Below B w w') (hp : p.block < B) : w'.cell? p = some v := (hb.cell hp).trans h
theorem quietEqA {P : Program} {f : FuncId} {args : Array Value} {w : World} {n : Nat} {v : Value}
    (h : Calls P f args (w.drewN n) fun e w' => e = .returned v ∧ w.drewN n = w') : Calls P f args (w.drewN n) fun e w'' => e = .returned v ∧ ∃ m, w'' = w.drewN m :=
  h.mono fun _ _ ⟨he, hm⟩ => ⟨he, n, hm.symm⟩

/-- The two objects after so many steps. -/
def AsmSt (w0 : World) (g1 g2 i : Nat) (code : List Ins) (marks : List Int) (w : World) : Prop :=
  AsmTwo w w0.heap.size 120 54 g1 g2 code code marks marks ∧ Below w0.heap.size w0 w ∧ (∀ x ∈ marks, -1 ≤ x) ∧ code.length ≤ i ∧ marks.length ≤ i
theorem AsmSt.step {w0 w w' : World} {g1 g2 i : Nat} {code : List Ins} {marks : List Int} (h : AsmSt w0 g1 g2 i code marks w) (hb : Below w.heap.size w w') : AsmSt w0 g1 g2 (i + 1) code marks w' :=
  ⟨h.1.below hb, ov h.2.1 hb, h.2.2.1, Nat.le_succ_of_le h.2.2.2.1, Nat.le_succ_of_le h.2.2.2.2⟩
theorem markTo_ge {marks : List Int} {l : Int} {n : Nat} (h : ∀ x ∈ marks, -1 ≤ x) : ∀ x ∈ markTo marks l n, -1 ≤ x := by
  intro x hx
  unfold markTo at hx
  split at hx
  · rcases List.mem_or_eq_of_mem_set hx with h' | h'
    · exact h x h'
    · subst h'; omega
  · exact h x hx
theorem markTo_length (marks : List Int) (l : Int) (n : Nat) : (markTo marks l n).length = marks.length := by unfold markTo; split <;> simp [put]

set_option maxRecDepth 100000 in
set_option maxHeartbeats 16000000 in
theorem AsmDoes_law (lo : Option Addr) (ln lc : Nat) (l : List AStep) (to_ : Option Addr) (tn tc : Nat) (tabs : List Shape) (w : World) (hl : RdL astepLay NoA w lo ln lc l) (ht : RdL shapeLay NoA w to_ tn tc tabs) :
    Calls Try.prog 4 #[.slice lo ln lc, .slice to_ tn tc] w fun e w' => e = .returned (.bool true) ∧ Below w.heap.size w w' := by
  obtain rfl := hl.len
  obtain rfl := ht.len
  have hll := hl.lt
  have htl := ht.lt
  go_enter Try.func4, Try.ntmps4
  go_wp2_with fail
  refine (asmBegun_any _).mono ?_
  rintro e w1 ⟨rfl, hb1⟩
  by_cases hg : 300 < l.length ∨ 100 < tabs.length
  · have hgt : (300 : Int) < l.length ∨ ((l.length : Int) ≤ 300 ∧ (100 : Int) < tabs.length) := by omega
    clear hg
    rcases hgt with h | ⟨h, h2⟩
    all_goals
      go_wp2_with fail
      go_ret
      exact ⟨rfl, hb1⟩
  have h3 : (l.length : Int) ≤ 300 := by omega
  have h4 : (tabs.length : Int) ≤ 100 := by omega
  clear hg
  go_wp2_with fail
  refine (asmNew_any _).mono ?_
  rintro e w2 ⟨rfl, hO, hb2⟩
  have hS0 : AsmSt w w1.heap.size w2.heap.size 0 [] [] (w2.alloc (.cells #[.slice none 0 0, .slice none 0 0] 54)) := by
    have hlt := hO.lt _ rfl
    have hw1 := hb1.size
    refine ⟨⟨fun k => k = w1.heap.size, fun k => k = w2.heap.size, Mono.mono (P := fun w => AsmObj w _ 120 w1.heap.size [] []) hO (al (rf _) _), ⟨none, 0, none, 0, Blk.new _ _ _, OwnL.nil _ _ _ _ _, OwnL.nil _ _ _ _ _, rfl, fun k hk => by rw [hk]; simp⟩, fun k hk hk2 => ?_, fun k hk => ?_, fun k hk => ?_⟩, al (ov hb1 hb2) _, by simp, Nat.le_refl _, Nat.le_refl _⟩
    · rw [hk] at hk2; omega
    · rw [hk]; exact hw1
    · rw [hk]; omega
  clear hO hb2 hb1
  go_wp2_with fail
  generalize w2.alloc (.cells #[.slice none 0 0, .slice none 0 0] 54) = w3 at *
  generalize w1.heap.size = g1 at *
  generalize w2.heap.size = g2 at *
  go_loopw [7] (fun i wr => ∃ k : Nat, k ≤ l.length ∧ i = .int .i64 k ∧ ∃ code marks, AsmSt w g1 g2 k code marks wr) (fun i _ => l.length - (intOf i).toNat)
  case atStart => exact ⟨0, Nat.zero_le _, rfl, [], [], hS0⟩
  case round =>
    clear hS0
    obtain ⟨k, hk, rfl, code, marks, hS⟩ := hrel
    have hBr := hS.2.1
    have hBz := hBr.size
    by_cases hlt : k < l.length
    · obtain ⟨b, off, rfl, hb, hwf, _, _, _, _, _, _, _, _⟩ := hl.astep_at hlt
      obtain ⟨b', off', e3, _, _, hc0, hc1, hc2, hc3, hc4, hc5, hc6, hc7⟩ := (hl.below hBr).astep_at hlt
      injection e3 with e3
      injection e3 with e3 e4 e5
      subst e3 e4
      clear e5
      have HS := Lib.hid hS
      obtain ⟨hT, _, hmk, hcl, hml⟩ := hS
      have HM := Lib.hid hmk
      clear hmk
      by_cases d0 : (nth l k).d = 0
      · have q0 : ((nth l k).d == 0) = true := by rw [d0]; rfl
        clear d0 hc2 hc3 hc4 hc5 hc6 hc7
        obtain ⟨Fa, hOa, hNa⟩ := hT.one
        go_wp2_with fail
        refine (asmLabel_any g1 Fa code marks wr hOa (by omega)).mono ?_
        rintro e w5 ⟨rfl, Fa', hOA, hFA, hSA⟩
        obtain ⟨hT5, hB5⟩ := hNa _ _ _ _ hOA hFA hSA
        obtain ⟨Fb, hOb, hNb⟩ := hT5.two
        clear hOa hNa hOA hFA hSA hT5 hc0 hc1
        go_wp2_with fail
        refine (refLabel_any g2 Fb code marks w5 hOb (by omega)).mono ?_
        rintro e w6 ⟨rfl, Fb', hOB, hFB, hSB⟩
        obtain ⟨hT6, hB6⟩ := hNb _ _ _ _ hOB hFB hSB
        have HS6 : Hid (AsmSt w g1 g2 (k + 1) code (marks ++ [-1]) w6) := ⟨hT6, hBr.trans (hB5.trans hB6), fun x hx => by
          rcases List.mem_append.1 hx with h | h
          · exact HM.out x h
          · simp at h; omega, by omega, by simp; omega⟩
        obtain ⟨F1, F2, hO1, hO2, _⟩ := hT6
        obtain ⟨x1, y1, x2, y2, hk1, _⟩ := hO2
        have hd0 := hk1.cell 0
        simp at hd0
        have hz := hk1.lt
        clear hOb hNb hOB hFB hSB hk1 hB5 hB6 HS hT
        go_wp2_with fail
        go_big_quiet ((go_at_call 36; exact quietEqA (asmLen_any _ _ _ _ _ (Mono.mono (P := fun w => AsmObj w F1 120 g1 code (marks ++ [-1])) hO1 (below_drewN_ (rf _) _)))))
        go_wp2_with fail
        go_roundw
        case rel => exact ⟨k + 1, by omega, by go_num, code, _, ⟨HS6.out.1.below (below_drewN_ (rf _) _), below_drewN_ HS6.out.2.1 _, HS6.out.2.2⟩⟩
        case measure => simp [intOf]; omega
      have q0 : ((nth l k).d == 0) = false := by rw [beq_eq_false_iff_ne]; exact d0
      clear d0
      by_cases d1 : (nth l k).d = 1
      · have q1 : ((nth l k).d == 1) = true := by rw [d1]; rfl
        clear d1 hc2 hc3 hc4 hc5 hc6 hc7
        have hTd := hT.below (Below.drew0 wr)
        obtain ⟨Fa, hOa, hNa⟩ := hTd.one
        have hc1' : wr.drew.cell? ⟨b, off + k * 8 + 1, none⟩ = some (.int .i64 (nth l k).n) := hc1
        have HNa := Lib.hid hNa
        have hmA : (markTo marks (nth l k).n code.length).length ≤ k := by rw [markTo_length]; exact hml
        clear hNa
        go_wp2_with fail
        go_region_held3 (fun w' => w'.cell? ⟨b, off + k * 8 + 1, none⟩ = some (.int .i64 (nth l k).n))
          (first | exact hc1' | exact keepB hc1' hBA hb | exact keepB (keepB hc1' hBA hb) hBB hb)
          ((first
            | (go_at_call 30; (with_reducible refine (asmMark_any g1 Fa code marks _ _ hOa (by omega) (by omega)).mono ?_); rintro e wA ⟨rfl, hOA, hSA⟩; obtain ⟨hTA, hBA⟩ := HNa.out _ _ _ _ hOA (fun k h => .inl h) hSA; obtain ⟨Fb, hOb, hNb⟩ := hTA.two; have HNb := Lib.hid hNb; clear hNb)
            | (go_at_call 31; (with_reducible refine (refMark_any g2 Fb code marks _ _ hOb (by omega) (by omega) HM.out).mono ?_); rintro e wB ⟨rfl, hOB, hSB⟩; obtain ⟨hTB, hBB⟩ := HNb.out _ _ _ _ hOB (fun k h => .inl h) hSB)))
        have HS6 : Hid (AsmSt w g1 g2 (k + 1) code (markTo marks (nth l k).n code.length) wB) := ⟨hTB, (hBr.trans ((Below.drew0 wr).mono hBz)).trans (hBA.trans hBB), markTo_ge HM.out, by omega, by omega⟩
        obtain ⟨F1, F2, hO1, hO2, _⟩ := hTB
        obtain ⟨x1, y1, x2, y2, hk1, _⟩ := hO2
        have hd0 := hk1.cell 0
        simp at hd0
        have hz := hk1.lt
        clear hOa HNa hOA hSA hTA hOb HNb hOB hSB hk1 hBA hBB HS hT hTd hc0 hc1 hc1'
        go_wp2_with fail
        go_big_quiet ((go_at_call 36; exact quietEqA (asmLen_any _ _ _ _ _ (Mono.mono (P := fun w => AsmObj w F1 120 g1 code (markTo marks (nth l k).n code.length)) hO1 (below_drewN_ (rf _) _)))))
        go_wp2_with fail
        go_roundw
        case rel => exact ⟨k + 1, by omega, by go_num, code, _, ⟨HS6.out.1.below (below_drewN_ (rf _) _), below_drewN_ HS6.out.2.1 _, HS6.out.2.2⟩⟩
        case measure => simp [intOf]; omega
      have q1 : ((nth l k).d == 1) = false := by rw [beq_eq_false_iff_ne]; exact d1
      clear d1
      by_cases d2 : (nth l k).d = 2
      · have q2 : ((nth l k).d == 2) = true := by rw [d2]; rfl
        clear d2
        have hTl := hT.below (al (rf wr) (.cells #[.int .i64 (nth l k).x.op, .int .i64 (nth l k).x.r, .int .i64 (nth l k).x.s, .int .i64 (nth l k).x.k, .int .i64 (nth l k).x.to, .int .u64 (nth l k).x.n] 56))
        obtain ⟨Fa, hOa, hNa⟩ := hTl.one
        have hr : RdL insLay NoA (wr.alloc (.cells #[.int .i64 (nth l k).x.op, .int .i64 (nth l k).x.r, .int .i64 (nth l k).x.s, .int .i64 (nth l k).x.k, .int .i64 (nth l k).x.to, .int .u64 (nth l k).x.n] 56)) (some ⟨wr.heap.size, 0, none⟩) 1 1 [(nth l k).x] := RdL.lit_ (cs := (nth l k).x.cells) (RepAll.one (insLit _ _ _ hwf.2.2)) (Blk.new _ _ _) rfl (by simp [maxLen]) (fun h => h)
        go_wp2_with fail
        refine (asmPut_any g1 Fa code marks _ 1 1 _ _ hOa hr (by omega)).mono ?_
        rintro e w5 ⟨rfl, Fa', hOA, hFA, hSA⟩
        obtain ⟨hT5, hB5⟩ := hNa _ _ _ _ hOA hFA hSA
        have hB5' : Below w.heap.size w w5 := (al hBr _).trans hB5
        obtain ⟨Fb, hOb, hNb⟩ := hT5.two
        obtain ⟨x1, y1, x2, y2, k1, k2, k3, k4, k5⟩ := hOb
        replace hc2 := keepB (keep hc2 (al (rf wr) (.cells #[.int .i64 (nth l k).x.op, .int .i64 (nth l k).x.r, .int .i64 (nth l k).x.s, .int .i64 (nth l k).x.k, .int .i64 (nth l k).x.to, .int .u64 (nth l k).x.n] 56))) hB5 hb
        replace hc3 := keepB (keep hc3 (al (rf wr) (.cells #[.int .i64 (nth l k).x.op, .int .i64 (nth l k).x.r, .int .i64 (nth l k).x.s, .int .i64 (nth l k).x.k, .int .i64 (nth l k).x.to, .int .u64 (nth l k).x.n] 56))) hB5 hb
        replace hc4 := keepB (keep hc4 (al (rf wr) (.cells #[.int .i64 (nth l k).x.op, .int .i64 (nth l k).x.r, .int .i64 (nth l k).x.s, .int .i64 (nth l k).x.k, .int .i64 (nth l k).x.to, .int .u64 (nth l k).x.n] 56))) hB5 hb
        replace hc5 := keepB (keep hc5 (al (rf wr) (.cells #[.int .i64 (nth l k).x.op, .int .i64 (nth l k).x.r, .int .i64 (nth l k).x.s, .int .i64 (nth l k).x.k, .int .i64 (nth l k).x.to, .int .u64 (nth l k).x.n] 56))) hB5 hb
        replace hc6 := keepB (keep hc6 (al (rf wr) (.cells #[.int .i64 (nth l k).x.op, .int .i64 (nth l k).x.r, .int .i64 (nth l k).x.s, .int .i64 (nth l k).x.k, .int .i64 (nth l k).x.to, .int .u64 (nth l k).x.n] 56))) hB5 hb
        replace hc7 := keepB (keep hc7 (al (rf wr) (.cells #[.int .i64 (nth l k).x.op, .int .i64 (nth l k).x.r, .int .i64 (nth l k).x.s, .int .i64 (nth l k).x.k, .int .i64 (nth l k).x.to, .int .u64 (nth l k).x.n] 56))) hB5 hb
        have hd0 := k1.cell 0
        simp at hd0
        have hz := k1.lt
        have hHN := Lib.hid hNb
        have K5 := Lib.hid k5
        have HWf := Lib.hid hwf
        have h63 : Hid (code.length + 1 ≤ maxLen) := by show _ ≤ _; simp [maxLen]; omega
        have hsz : Hid ((code.length + 1) * 48 ≤ 140737488355328) := by show _ ≤ _; omega
        have hne : Hid (¬ (Value.slice x1 code.length y1).ownBlock = some g2) := k2.ne k1 (by decide)
        clear hc0 hc1 hTl hOa hNa hr hOA hFA hSA hT5 hB5 hT hNb k5 HS hwf
        go_wp2_with fail
        go_region_law ((first
          | (refine step_append_own (L := insLay) (A := AnyA) (by rfl) _ _ 51 (by rfl) sty_ins (by rfl) (k2.below_ (al (below_drewN_ (rf _) _) _)) (fun _ _ => trivial) (by rfl) (RdL.srcF (A' := NoA) (xs := [(nth l k).x]) (RdL.lit_ (cs := (nth l k).x.cells) (RepAll.one (insLit _ _ _ HWf.out.2.2)) (Blk.new _ _ _) rfl (by simp [maxLen]) (fun h => h))) h63.out hsz.out ?_; intro v9 w9 hm9 hs9; obtain ⟨a9, c9, rfl⟩ := hm9.form (n := code.length + 1) (by simp); have B9 : Blk w9 g2 54 #[.slice x1 code.length y1, .slice x2 marks.length y2] := Blk.step_ (Blk.below k1 (al (below_drewN_ (rf _) _) _) k1.lt) hs9 hne.out; have hb9 : w9.cell? ⟨g2, 0, none⟩ = some (.slice x1 code.length y1) := B9.cell 0; have hf9 := B9.frozen 0; have hz9 := B9.lt)))
        all_goals
          have hRR := AsmObj.append2 (by decide) (by decide) hHN.out (by first | exact al (below_drewN_ (rf _) _) _ | exact below_drewN_ (al (rf _) _) _) k1 k2 k3 k4 K5.out hm9 hs9 (by simp)
          obtain ⟨hT9, hB9⟩ := hRR
          have hB9' := hB5'.trans hB9
          have HS6 : Hid (AsmSt w g1 g2 (k + 1) (code ++ [(nth l k).x]) marks (w9.setCell ⟨g2, 0, none⟩ (.slice a9 (code.length + 1) c9))) := ⟨hT9, hB9', HM.out, by simp; omega, by omega⟩
          obtain ⟨F1, F2, hO1, hO2, _⟩ := hT9
          have hd9 : (w9.setCell ⟨g2, 0, none⟩ (.slice a9 (code.length + 1) c9)).cell? ⟨g2, 0, none⟩ = some (.slice a9 (code.length + 1) c9) := by have := (B9.set_ 0 (.slice a9 (code.length + 1) c9)).cell 0; simpa using this
          have hz9' : g2 < (w9.setCell ⟨g2, 0, none⟩ (.slice a9 (code.length + 1) c9)).heap.size := (B9.set_ 0 (.slice a9 (code.length + 1) c9)).lt
          generalize w9.setCell ⟨g2, 0, none⟩ (.slice a9 (code.length + 1) c9) = w10 at *
          have hO1' : AsmObj w10 F1 120 g1 (code ++ [(nth l k).x]) marks := hO1
          have hcl1 : ((code ++ [(nth l k).x]).length : Int) = (code.length : Int) + 1 := by simp
          clear hO1 hO2 B9 hb9 hf9 hz9 hm9 hs9 k1 k2 k3 hHN hd0 hz hc2 hc3 hc4 hc5 hc6 hc7 hB9
          go_wp2_with fail
          go_big_quiet ((go_at_call 36; exact quietEqA (asmLen_any _ _ _ _ _ (Mono.mono (P := fun w => AsmObj w F1 120 g1 (code ++ [(nth l k).x]) marks) hO1' (below_drewN_ (rf _) _)))))
          go_wp2_with fail
          go_roundw
          case rel => exact ⟨k + 1, by omega, by go_num, code ++ [(nth l k).x], marks, ⟨HS6.out.1.below (below_drewN_ (rf _) _), below_drewN_ HS6.out.2.1 _, HS6.out.2.2⟩⟩
          case measure => simp [intOf]; omega
      have q2 : ((nth l k).d == 2) = false := by rw [beq_eq_false_iff_ne]; exact d2
      clear d2 hc2 hc3 hc4 hc5 hc6 hc7
      obtain ⟨D, hD⟩ : ∃ D, donePF (nth l k).n tabs code marks = D := ⟨_, rfl⟩
      have HT := hT
      obtain ⟨F1, F2, hO1, hO2, _⟩ := hT
      have HC1 := asmDone_any g1 F1 code marks (nth l k).n to_ tc tabs wr hO1 (ht.below hBr) (by omega) (by omega) (by omega)
      rw [hD] at HC1
      have HC2 := fun w' (hb : Below wr.heap.size wr w') => refDone_any g2 F2 code marks (nth l k).n to_ tc tabs w' (Mono.mono (P := fun w => AsmObj w F2 54 g2 code marks) hO2 hb) ((ht.below hBr).below hb) (by omega) (by omega) (by omega)
      rw [hD] at HC2
      replace HC1 := Lib.hid HC1
      replace HC2 := Lib.hid HC2
      clear hD hO1 hO2
      go_wp2_with fail
      refine HC1.out.mono ?_
      rintro e w5 ⟨t5, tc5, c5, cc5, rfl, ht5, hc5, hb5⟩
      have hbx := al (al hb5 (.cells #[.int .i64 D.1.slots, .slice t5 D.1.tabs.length tc5, .slice c5 D.1.code.length cc5] 63)) (.cells #[.int .i64 D.2.1, .int .i64 D.2.2] 65)
      have K5 : Kept (fun w' => RdL shapeLay NoA w' t5 D.1.tabs.length tc5 D.1.tabs ∧ RdL insLay NoA w' c5 D.1.code.length cc5 D.1.code) w5 := ⟨ht5, hc5⟩
      have K6 := (K5.new #[.int .i64 D.1.slots, .slice t5 D.1.tabs.length tc5, .slice c5 D.1.code.length cc5] 63).new #[.int .i64 D.2.1, .int .i64 D.2.2] 65
      rw [show (w5.alloc (.cells #[.int .i64 D.1.slots, .slice t5 D.1.tabs.length tc5, .slice c5 D.1.code.length cc5] 63)).heap.size = w5.heap.size + 1 by simp] at K6
      have hcn : ((w5.alloc (.cells #[.int .i64 D.1.slots, .slice t5 D.1.tabs.length tc5, .slice c5 D.1.code.length cc5] 63)).alloc (.cells #[.int .i64 D.2.1, .int .i64 D.2.2] 65)).cell? ⟨b, off + k * 8 + 1, none⟩ = some (.int .i64 (nth l k).n) := keep hc1 hbx
      clear ht5 hc5 hb5 K5 HC1 hc0
      go_wp2_with fail
      refine (HC2.out _ hbx).mono ?_
      rintro e w6 ⟨t6, tc6, c6, cc6, rfl, ht6, hc6, hb6⟩
      have hby := al (al (ov hbx hb6) (.cells #[.int .i64 D.1.slots, .slice t6 D.1.tabs.length tc6, .slice c6 D.1.code.length cc6] 63)) (.cells #[.int .i64 D.2.1, .int .i64 D.2.2] 65)
      have K7 := ((K6.to hb6).al (.cells #[.int .i64 D.1.slots, .slice t6 D.1.tabs.length tc6, .slice c6 D.1.code.length cc6] 63)).al (.cells #[.int .i64 D.2.1, .int .i64 D.2.2] 65)
      have hbz := al (al (rf w6) (.cells #[.int .i64 D.1.slots, .slice t6 D.1.tabs.length tc6, .slice c6 D.1.code.length cc6] 63)) (.cells #[.int .i64 D.2.1, .int .i64 D.2.2] 65)
      have hSP := SameProgram_any D.1.slots D.1.slots t5 c5 t6 c6 tc5 cc5 tc6 cc6 D.1.tabs D.1.tabs D.1.code D.1.code NoA NoA _ K7.out.1.1.1 K7.out.1.1.2 (ht6.below hbz) (hc6.below hbz)
      rw [decide_eq_true rfl] at hSP
      have HSP := Lib.hid hSP
      obtain ⟨p0, p1, p2⟩ := K7.out.1.2.three
      obtain ⟨r0, r1⟩ := K7.out.2.two
      have zp := K7.out.1.2.lt
      have zr := K7.out.2.lt
      have hq1 : ∀ x : Int, (x != x) = false := fun x => by simp
      clear K6 K7 HC2 hSP ht6 hc6 hb6 hbz hbx
      go_wp2_with fail
      refine HSP.out.mono ?_
      rintro e w7 ⟨rfl, hb7⟩
      have hb8 := ov hby hb7
      have HS6 : Hid (AsmSt w g1 g2 (k + 1) code marks w7) := HS.out.step hb8
      obtain ⟨F1, F2, hO1, hO2, _⟩ := HT.below hb8
      obtain ⟨x1, y1, x2, y2, hk1, _⟩ := hO2
      have hd0 := hk1.cell 0
      simp at hd0
      have hz := hk1.lt
      clear HSP hb7 hby hb8 hk1 p0 p1 p2 r0 r1 zp zr HT HS hcn hc1
      go_wp2_with fail
      go_big_quiet ((go_at_call 36; exact quietEqA (asmLen_any _ _ _ _ _ (Mono.mono (P := fun w => AsmObj w F1 120 g1 code marks) hO1 (below_drewN_ (rf _) _)))))
      go_wp2_with fail
      go_roundw
      case rel => exact ⟨k + 1, by omega, by go_num, code, marks, ⟨HS6.out.1.below (below_drewN_ (rf _) _), below_drewN_ HS6.out.2.1 _, HS6.out.2.2⟩⟩
      case measure => simp [intOf]; omega
    · obtain rfl : k = l.length := by omega
      go_wp2_with fail
      go_ret
      exact ⟨rfl, hBr⟩
end Go.Proofs.Ytfakdapglbgokaa
