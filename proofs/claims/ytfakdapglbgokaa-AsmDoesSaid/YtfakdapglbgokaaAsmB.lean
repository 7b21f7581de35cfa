/-
  Package asm: two objects side by side; asmBegun. No condition.
-/
import Derived.Test.YtfakdapglbgokaaAsmY
namespace Go.Proofs.Ytfakdapglbgokaa
set_option linter.all false
open Go.RowKit
attribute [local go_sem ↓] Go.wp_at_zero Go.wp_at_succ

theorem RdL.lit_ {α : Type} {L : Lay α} {A : Nat → Prop} {w : World} {xs : List α} {cs : List Value} {e : TypeId} {g n : Nat} (h : RepAll L A w xs cs) (hb : Blk w g e cs.toArray) (hn : xs.length = n) (hm : n ≤ maxLen) (hA : ¬ A g) : RdL L A w (some ⟨g, 0, none⟩) n n xs := by
  refine ⟨hn, Nat.le_refl _, hm, by simp, fun _ => ⟨g, 0, rfl, hA, hb.lt, fun i hi => ?_⟩⟩
  obtain ⟨c, hc, hj⟩ := h.at_ i hi
  refine ⟨c, hc, fun j hj' => ?_⟩
  rw [Nat.zero_add, hb.cell, ← hj j hj']
  simp

theorem OwnL.below_ {α : Type} {L : Lay α} {A : Nat → Prop} {w w' : World} {Fp : Nat → Prop} {e : TypeId} {v : Value} {xs : List α} (h : OwnL L A w Fp e v xs) (hb : Below w.heap.size w w') : OwnL L A w' Fp e v xs := ⟨h.mine.below hb, h.row⟩
/-- append(v, src...), v of a footprint, as one step of a region that draws its order. -/
theorem step_append_own {P : Program} {ops : Array Oper} {o : Oper} {a : Act} {w : World} {K : Act → World → Prop} {Q : Exit → Act → World → Prop} {E : Prop} (hgd : o.guard = none) (s x : Operand) (t : TypeId)
    (ho : o.op = .call { callee := .builtin .append, args := #[s, x], argTypes := #[t, t] })
    {α : Type} {L : Lay α} [One L] {A : Nat → Prop} {e : TypeId} {bytes : Nat} {z : Value} (ty : SliceTy P t e L.size bytes z) {Fp : Nat → Prop}
    {v : Value} {xs : List α} (hs : a.eval s = v) (hown : OwnL L A w Fp e v xs) (hA : ∀ k, v.ownBlock = some k → A k)
    {ao : Option Addr} {m c : Nat} {ys : List α} (hx : a.eval x = .slice ao m c) (hr : Src L A w ao m c ys)
    (h63 : xs.length + m ≤ maxLen) (hsz : (xs.length + m) * bytes ≤ 140737488355328)
    (h : ∀ v' w', OwnL L A w' (fun k => Fp k ∨ k = w.heap.size) e v' (xs ++ ys) → Step (fun k => v.ownBlock = some k) w w' → K (a.put o.dst v') w') :
    if Region.wanted o (yielded ops a.tmps) = true then Oper.wp P o a w K Q else E := by
  rw [if_pos (by simp [Region.wanted, hgd])]
  exact wp_append_own_ s x t ho ty hs hown hA hx hr h63 hsz h
/-- What an append to the code leaves. -/
theorem AsmObj.appended {w w9 : World} {Fp : Nat → Prop} {T : TypeId} {g : Nat} {code xs : List Ins} {marks : List Int} {a1 a2 a9 : Option Addr} {c1 c2 c9 n : Nat} (t1 : 56 ≠ T) (t2 : 3 ≠ T)
    (h1 : Blk w g T #[.slice a1 code.length c1, .slice a2 marks.length c2]) (h2 : OwnL insLay AnyA w Fp 56 (.slice a1 code.length c1) code) (h3 : OwnL (Lay.int .i64) AnyA w Fp 3 (.slice a2 marks.length c2) marks) (h4 : Fp g) (h5 : ∀ k, Fp k → k < w.heap.size)
    (hm9 : OwnL insLay AnyA w9 (fun k => Fp k ∨ k = w.heap.size) 56 (.slice a9 n c9) (code ++ xs)) (hs9 : Step (fun k => (Value.slice a1 code.length c1).ownBlock = some k) w w9) (hn : n = (code ++ xs).length) :
    ∃ Fp', AsmObj (w9.setCell ⟨g, 0, none⟩ (.slice a9 n c9)) Fp' T g (code ++ xs) marks ∧ (∀ k, Fp' k → Fp k ∨ w.heap.size ≤ k) ∧ Step Fp w (w9.setCell ⟨g, 0, none⟩ (.slice a9 n c9)) := by
  have hne : ¬ (Value.slice a1 code.length c1).ownBlock = some g := h2.ne h1 t1
  have B9 := h1.step_ hs9 hne
  have hap := h2.apart h3 (by decide)
  have O3 := h3.step hs9 (fun k hk hk2 => hap k hk2 hk) fun _ _ => trivial
  have hst := Step.set (fun k => k = g) w9 ⟨g, 0, none⟩ rfl (.slice a9 n c9)
  refine ⟨fun k => Fp k ∨ (Value.slice a9 n c9).ownBlock = some k, ⟨a9, c9, a2, c2, ?_, ?_, ?_, .inl h4, ?_⟩, ?_, ?_⟩
  · have := B9.set_ 0 (.slice a9 n c9)
    rw [← hn]
    simpa using this
  · have := (hm9.exact_ (fun k => Fp k ∨ (Value.slice a9 n c9).ownBlock = some k) fun k hk => .inr hk).step hst (fun k hk e => (hm9.ne B9 t1) (by rw [hk, e])) fun _ _ => trivial
    rw [← hn]
    exact this
  · exact (O3.weaken fun k hk => .inl hk).step hst (fun k hk e => (O3.ne B9 t2) (by rw [hk, e])) fun _ _ => trivial
  · rintro k (hk | hk)
    · have := h5 k hk
      have := hs9.size
      simp [World.setCell] at this ⊢
      omega
    · simpa [World.setCell] using hm9.lt k hk
  · rintro k (hk | hk)
    · exact .inl hk
    · rcases hm9.row k hk with h | h
      · exact .inl h
      · exact .inr (by omega)
  · exact (hs9.mono fun k hk => h2.row k hk).trans (Step.set Fp w9 ⟨g, 0, none⟩ h4 _)

/-- Two objects that have nothing in common, all of their memory new. -/
def AsmTwo (w : World) (B : Nat) (T1 T2 : TypeId) (g1 g2 : Nat) (c1 c2 : List Ins) (m1 m2 : List Int) : Prop :=
  ∃ Fp1 Fp2, AsmObj w Fp1 T1 g1 c1 m1 ∧ AsmObj w Fp2 T2 g2 c2 m2 ∧ (∀ k, Fp1 k → ¬ Fp2 k) ∧ (∀ k, Fp1 k → B ≤ k) ∧ (∀ k, Fp2 k → B ≤ k)
theorem AsmObj.lt {w : World} {Fp : Nat → Prop} {T : TypeId} {g : Nat} {c : List Ins} {m : List Int} (h : AsmObj w Fp T g c m) : ∀ k, Fp k → k < w.heap.size := by
  obtain ⟨_, _, _, _, _, _, _, _, h⟩ := h; exact h
theorem AsmObj.mem {w : World} {Fp : Nat → Prop} {T : TypeId} {g : Nat} {c : List Ins} {m : List Int} (h : AsmObj w Fp T g c m) : Fp g := by
  obtain ⟨_, _, _, _, _, _, _, h, _⟩ := h; exact h
theorem AsmTwo.below {w w' : World} {B : Nat} {T1 T2 : TypeId} {g1 g2 : Nat} {c1 c2 : List Ins} {m1 m2 : List Int} (h : AsmTwo w B T1 T2 g1 g2 c1 c2 m1 m2) (hb : Below w.heap.size w w') : AsmTwo w' B T1 T2 g1 g2 c1 c2 m1 m2 := by
  obtain ⟨F1, F2, h1, h2, h3⟩ := h
  exact ⟨F1, F2, Mono.mono (P := fun w => AsmObj w F1 T1 g1 c1 m1) h1 hb, Mono.mono (P := fun w => AsmObj w F2 T2 g2 c2 m2) h2 hb, h3⟩
instance {B : Nat} {T1 T2 : TypeId} {g1 g2 : Nat} {c1 c2 : List Ins} {m1 m2 : List Int} : Mono (fun w => AsmTwo w B T1 T2 g1 g2 c1 c2 m1 m2) := ⟨fun h hb => h.below hb⟩
theorem AsmTwo.one {w : World} {B : Nat} {T1 T2 : TypeId} {g1 g2 : Nat} {c1 c2 : List Ins} {m1 m2 : List Int} (h : AsmTwo w B T1 T2 g1 g2 c1 c2 m1 m2) :
    ∃ Fp, AsmObj w Fp T1 g1 c1 m1 ∧ ∀ w' c m Fp', AsmObj w' Fp' T1 g1 c m → (∀ k, Fp' k → Fp k ∨ w.heap.size ≤ k) → Step Fp w w' → AsmTwo w' B T1 T2 g1 g2 c c2 m m2 ∧ Below B w w' := by
  obtain ⟨F1, F2, h1, h2, h3, h4, h5⟩ := h
  have hB : B ≤ w.heap.size := Nat.le_of_lt (Nat.lt_of_le_of_lt (h4 _ h1.mem) (h1.lt _ h1.mem))
  refine ⟨F1, h1, fun w' c m Fp' ho hF hs => ⟨⟨Fp', F2, ho, h2.step hs (fun k hk => h3 k hk), fun k hk hk2 => ?_, fun k hk => ?_, h5⟩, hs.below hB h4⟩⟩
  · rcases hF k hk with e | e
    · exact h3 k e hk2
    · exact Nat.not_le_of_lt (h2.lt k hk2) e
  · rcases hF k hk with e | e
    · exact h4 k e
    · omega
theorem AsmTwo.two {w : World} {B : Nat} {T1 T2 : TypeId} {g1 g2 : Nat} {c1 c2 : List Ins} {m1 m2 : List Int} (h : AsmTwo w B T1 T2 g1 g2 c1 c2 m1 m2) :
    ∃ Fp, AsmObj w Fp T2 g2 c2 m2 ∧ ∀ w' c m Fp', AsmObj w' Fp' T2 g2 c m → (∀ k, Fp' k → Fp k ∨ w.heap.size ≤ k) → Step Fp w w' → AsmTwo w' B T1 T2 g1 g2 c1 c m1 m ∧ Below B w w' := by
  obtain ⟨F1, F2, h1, h2, h3, h4, h5⟩ := h
  have hB : B ≤ w.heap.size := Nat.le_of_lt (Nat.lt_of_le_of_lt (h4 _ h1.mem) (h1.lt _ h1.mem))
  refine ⟨F2, h2, fun w' c m Fp' ho hF hs => ⟨⟨F1, Fp', h1.step hs (fun k hk hk1 => h3 k hk1 hk), ho, fun k hk hk2 => ?_, h4, fun k hk => ?_⟩, hs.below hB h5⟩⟩
  · rcases hF k hk2 with e | e
    · exact h3 k hk e
    · exact Nat.not_le_of_lt (h1.lt k hk) e
  · rcases hF k hk with e | e
    · exact h5 k e
    · omega

theorem AsmObj.append2 {w5 W w9 : World} {Fp : Nat → Prop} {T : TypeId} {g : Nat} {code xs : List Ins} {marks : List Int} {a1 a2 a9 : Option Addr} {c1 c2 c9 n : Nat} {X : World → List Ins → List Int → Prop} (t1 : 56 ≠ T) (t2 : 3 ≠ T)
    (hN : ∀ w' c m Fp', AsmObj w' Fp' T g c m → (∀ k, Fp' k → Fp k ∨ w5.heap.size ≤ k) → Step Fp w5 w' → X w' c m) (hb : Below w5.heap.size w5 W)
    (h1 : Blk w5 g T #[.slice a1 code.length c1, .slice a2 marks.length c2]) (h2 : OwnL insLay AnyA w5 Fp 56 (.slice a1 code.length c1) code) (h3 : OwnL (Lay.int .i64) AnyA w5 Fp 3 (.slice a2 marks.length c2) marks) (h4 : Fp g) (h5 : ∀ k, Fp k → k < w5.heap.size)
    (hm9 : OwnL insLay AnyA w9 (fun k => Fp k ∨ k = W.heap.size) 56 (.slice a9 n c9) (code ++ xs)) (hs9 : Step (fun k => (Value.slice a1 code.length c1).ownBlock = some k) W w9) (hn : n = (code ++ xs).length) :
    X (w9.setCell ⟨g, 0, none⟩ (.slice a9 n c9)) (code ++ xs) marks := by
  obtain ⟨Fp', ho, hF, hS⟩ := AsmObj.appended t1 t2 (h1.below hb h1.lt) (h2.below_ hb) (h3.below_ hb) h4 (fun k hk => Nat.lt_of_lt_of_le (h5 k hk) hb.size) hm9 hs9 hn
  exact hN _ _ _ Fp' ho (fun k hk => (hF k hk).imp id fun e => Nat.le_trans hb.size e) ((Step.of hb).trans hS)

theorem begA_f : donePF 0 [] [⟨12, 0, 0, 0, 0, 0⟩, ⟨1, 0, 0, 0, 0, 0⟩, ⟨17, 0, 0, 0, 0, 0⟩] [2] = (⟨0, [], [⟨12, 0, 0, 0, 1, 0⟩, ⟨1, 0, 0, 0, 0, 0⟩, ⟨17, 0, 0, 0, 0, 0⟩]⟩, (0, 0)) := by decide +kernel
theorem insLit (x : Ins) (w : World) (A : Nat → Prop) (h : x.wf) : insLay.rep A w x x.cells := ⟨rfl, h⟩
theorem begWf (op to_ : Int) (h : Fits .i64 op) (h2 : Fits .i64 to_) : Ins.wf ⟨op, 0, 0, 0, to_, 0⟩ :=
  ⟨h, Fits.of_i64 (x := 0) (by decide) (by decide), Fits.of_i64 (x := 0) (by decide) (by decide), Fits.of_i64 (x := 0) (by decide) (by decide), h2, Fits.of_u64 (x := 0) (by decide) (by decide)⟩
set_option maxRecDepth 100000 in
set_option maxHeartbeats 2000000 in
theorem asmBegun_any (w : World) : Calls Try.prog 26 #[] w fun e w' => e = .returned (.bool true) ∧ Below w.heap.size w w' := by
  go_enter Try.func26, Try.ntmps26
  go_wp2_with fail
  refine (asmNew_any w).mono ?_
  rintro e w1 ⟨rfl, hO, hb⟩
  generalize hg : w.heap.size = g at *
  have HG := Lib.hid hg
  clear hg
  have hF : ∀ k, (fun k => k = g) k → g ≤ k := fun k hk => Nat.le_of_eq hk.symm
  generalize (fun k => k = g) = F1 at *
  go_wp2_with fail
  refine (asmLabel_any g F1 [] [] w1 hO (by simp)).mono ?_
  rintro e w2 ⟨rfl, F2, hO2, hF2, hs2⟩
  have hb2 : Below g w w2 := hb.trans (hs2.below (by have := hO.lt _ hO.mem; omega) hF)
  replace hF2 : ∀ k, F2 k → g ≤ k := fun k hk => by
    have := hO.lt _ hO.mem
    rcases hF2 k hk with e | e
    · exact hF k e
    · omega
  clear hO hF hs2 hb
  have hO3 := Mono.mono (P := fun w => AsmObj w F2 120 g [] [-1]) hO2 (al (rf w2) (.cells #[.int .i64 12, .int .i64 0, .int .i64 0, .int .i64 0, .int .i64 0, .int .u64 0, .int .i64 1, .int .i64 0, .int .i64 0, .int .i64 0, .int .i64 0, .int .u64 0] 56))
  go_wp2_with fail
  have hr3 : RdL insLay NoA (w2.alloc (.cells #[.int .i64 12, .int .i64 0, .int .i64 0, .int .i64 0, .int .i64 0, .int .u64 0, .int .i64 1, .int .i64 0, .int .i64 0, .int .i64 0, .int .i64 0, .int .u64 0] 56)) (some ⟨w2.heap.size, 0, none⟩) 2 2 [⟨12, 0, 0, 0, 0, 0⟩, ⟨1, 0, 0, 0, 0, 0⟩] :=
    RdL.lit_ (cs := [.int .i64 12, .int .i64 0, .int .i64 0, .int .i64 0, .int .i64 0, .int .u64 0, .int .i64 1, .int .i64 0, .int .i64 0, .int .i64 0, .int .i64 0, .int .u64 0]) ⟨_, _, rfl, insLit _ _ _ (begWf 12 0 (Fits.of_i64 (by decide) (by decide)) (Fits.of_i64 (by decide) (by decide))), _, _, rfl, insLit _ _ _ (begWf 1 0 (Fits.of_i64 (by decide) (by decide)) (Fits.of_i64 (by decide) (by decide))), rfl⟩ (Blk.new _ _ _) rfl (by simp [maxLen]) (fun h => h)
  refine (asmPut_any g F2 [] [-1] _ 2 2 _ _ hO3 hr3 (by simp)).mono ?_
  rintro e w3 ⟨rfl, F3, hO4, hF3, hs3⟩
  have hz2 : w2.heap.size < w3.heap.size := by have := hs3.size; simp at this; omega
  have hb3 : Below g w w3 := (hb2.alloc (by have := hO2.lt _ hO2.mem; omega) _).trans (hs3.below (by have := hO2.lt _ hO2.mem; simp; omega) hF2)
  replace hF3 : ∀ k, F3 k → g ≤ k := fun k hk => by
    have := hO2.lt _ hO2.mem
    rcases hF3 k hk with e | e
    · exact hF2 k e
    · simp at e; omega
  have hb3' := hb3
  clear hO3 hF2 hs3 hr3 hb2 hO2
  go_wp2_with fail
  refine (asmMark_any g F3 _ [-1] 0 w3 hO4 (by simp) (by simp)).mono ?_
  rintro e w4 ⟨rfl, hO5, hs4⟩
  have e1 : markTo [-1] 0 (List.length (([] : List Ins) ++ [(⟨12, 0, 0, 0, 0, 0⟩ : Ins), ⟨1, 0, 0, 0, 0, 0⟩])) = [2] := by decide
  rw [e1] at hO5
  rw [show markOk [-1] 0 = true by decide]
  have hb4 : Below g w w4 := hb3.trans (hs4.below (by have := hO4.lt _ hO4.mem; omega) hF3)
  clear hO4 hs4 hb3 hz2 hb3'
  have hO6 := Mono.mono (P := fun w => AsmObj w F3 120 g ([] ++ [(⟨12, 0, 0, 0, 0, 0⟩ : Ins), ⟨1, 0, 0, 0, 0, 0⟩]) [2]) hO5 (al (rf w4) (.cells #[.int .i64 17, .int .i64 0, .int .i64 0, .int .i64 0, .int .i64 0, .int .u64 0] 56))
  go_wp2_with fail
  have hr5 : RdL insLay NoA (w4.alloc (.cells #[.int .i64 17, .int .i64 0, .int .i64 0, .int .i64 0, .int .i64 0, .int .u64 0] 56)) (some ⟨w4.heap.size, 0, none⟩) 1 1 [⟨17, 0, 0, 0, 0, 0⟩] :=
    RdL.lit_ (cs := [.int .i64 17, .int .i64 0, .int .i64 0, .int .i64 0, .int .i64 0, .int .u64 0]) ⟨_, _, rfl, insLit _ _ _ (begWf 17 0 (Fits.of_i64 (by decide) (by decide)) (Fits.of_i64 (by decide) (by decide))), rfl⟩ (Blk.new _ _ _) rfl (by simp [maxLen]) (fun h => h)
  refine (asmPut_any g F3 _ [2] _ 1 1 _ _ hO6 hr5 (by simp)).mono ?_
  rintro e w5 ⟨rfl, F5, hO7, _, hs5⟩
  have hb5 : Below g w w5 := (hb4.alloc (by have := hO5.lt _ hO5.mem; have := hF3 _ hO5.mem; omega) _).trans (hs5.below (by have := hO5.lt _ hO5.mem; simp; omega) hF3)
  clear hO6 hO5 hr5 hs5 hb4
  go_wp2_with fail
  refine (asmDone_any g F5 _ [2] 0 none 0 [] w5 hO7 (RdL.nil_ _ _ _) (by simp) (by simp) (by simp)).mono ?_
  rintro e w6 ⟨to_, tc, co, cc, rfl, ht, hc, hb6⟩
  rw [show donePF 0 [] ([] ++ [(⟨12, 0, 0, 0, 0, 0⟩ : Ins), ⟨1, 0, 0, 0, 0, 0⟩] ++ [⟨17, 0, 0, 0, 0, 0⟩]) [2] = _ from begA_f] at ht hc ⊢
  have hb7 : Below g w w6 := hb5.trans (hb6.mono (by have := hb5.size; have := hO7.lt _ hO7.mem; omega))
  obtain ⟨b, off, rfl, _, hbz, _, hc0, hc1, hc2, hc3, hc4, hc5⟩ := hc.ins_at (i := 0) (by simp)
  simp [nth] at hc4
  clear hO7 hb5 hb6 ht hc hc0 hc1 hc2 hc3 hc5
  go_wp2_with fail
  go_ret
  rw [← HG.out] at hb7
  have hz7 := hb7.size
  exact ⟨by first | rfl | simp, al (al hb7 _) _⟩
end Go.Proofs.Ytfakdapglbgokaa
