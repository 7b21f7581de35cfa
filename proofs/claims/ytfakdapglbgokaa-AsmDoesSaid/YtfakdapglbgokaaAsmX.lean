/-
  Package asm and its reference: the object, and New, Label, Mark, Put, Len. No condition.
-/
import Derived.Test.YtfakdapglbgokaaAsmW
import Derived.Test.YtfakdapglbgokaaBitsJ
import Derived.BigQuiet
import Derived.Deep.QuietTactic
import Derived.Deep.RegionHeld3
import Derived.Deep.DrawnRows
import Derived.Outline
namespace Go.Proofs.Ytfakdapglbgokaa
set_option linter.all false
open Go.RowKit
attribute [local go_sem ↓] Go.wp_at_zero Go.wp_at_succ

/-- Code that is written, with labels: where it lies. -/
def AsmObj (w : World) (Fp : Nat → Prop) (T : TypeId) (g : Nat) (code : List Ins) (marks : List Int) : Prop :=
  ∃ a1 c1 a2 c2, Blk w g T #[.slice a1 code.length c1, .slice a2 marks.length c2] ∧ OwnL insLay AnyA w Fp 56 (.slice a1 code.length c1) code ∧ OwnL (Lay.int .i64) AnyA w Fp 3 (.slice a2 marks.length c2) marks ∧ Fp g ∧ ∀ k, Fp k → k < w.heap.size
theorem Blk.step_ {w w' : World} {g : Nat} {t : TypeId} {cs : Array Value} (h : Blk w g t cs) {S : Nat → Prop} (hs : Step S w w') (hg : ¬ S g) : Blk w' g t cs := (hs.block g h.lt hg).trans h
theorem AsmObj.step {w w' : World} {Fp : Nat → Prop} {T : TypeId} {g : Nat} {code : List Ins} {marks : List Int} (h : AsmObj w Fp T g code marks) {S : Nat → Prop} (hs : Step S w w') (hd : ∀ k, S k → ¬ Fp k) : AsmObj w' Fp T g code marks := by
  obtain ⟨a1, c1, a2, c2, h1, h2, h3, h4, h5⟩ := h
  exact ⟨a1, c1, a2, c2, h1.step_ hs fun hk => hd _ hk h4, h2.step hs (fun k hk hs => hd k hs (h2.row k hk)) fun _ _ => trivial, h3.step hs (fun k hk hs => hd k hs (h3.row k hk)) fun _ _ => trivial, h4, fun k hk => Nat.lt_of_lt_of_le (h5 k hk) hs.size⟩

theorem AsmObj.drew {w : World} {Fp : Nat → Prop} {T : TypeId} {g : Nat} {code : List Ins} {marks : List Int} (h : AsmObj w Fp T g code marks) : AsmObj w.drew Fp T g code marks :=
  h.step (S := fun _ => False) (Step.of ⟨rfl, rfl, rfl, Nat.le_refl _, fun _ _ => rfl⟩) fun _ h => h.elim
theorem Step.drew_ (A : Nat → Prop) (w : World) : Step A w w.drew := Step.of ⟨rfl, rfl, rfl, Nat.le_refl _, fun _ _ => rfl⟩

theorem asmNew_any (w : World) : Calls Try.prog 27 #[] w fun e w' => e = .returned (.pointer (some ⟨w.heap.size, 0, none⟩)) ∧ AsmObj w' (fun k => k = w.heap.size) 120 w.heap.size [] [] ∧ Below w.heap.size w w' := by
  go_enter Try.func27, Try.ntmps27
  go_wp2_with fail
  go_ret
  refine ⟨rfl, ⟨none, 0, none, 0, Blk.new _ _ _, OwnL.nil _ _ _ _ _, OwnL.nil _ _ _ _ _, rfl, fun k hk => by rw [hk]; simp⟩, al (rf w) _⟩

set_option maxHeartbeats 1000000 in
theorem asmLabel_any (g : Nat) (Fp : Nat → Prop) (code : List Ins) (marks : List Int) (w : World) (h : AsmObj w Fp 120 g code marks) (hm : marks.length ≤ 1000000) :
    Calls Try.prog 28 #[.pointer (some ⟨g, 0, none⟩)] w fun e w' => e = .returned (.int .i64 (marks.length : Int)) ∧ ∃ Fp', AsmObj w' Fp' 120 g code (marks ++ [-1]) ∧ (∀ k, Fp' k → Fp k ∨ w.heap.size ≤ k) ∧ Step Fp w w' := by
  obtain ⟨a1, c1, a2, c2, h1, h2, h3, h4, h5⟩ := h
  have hd1 := h1.cell 1
  simp at hd1
  have hz := h1.lt
  have hal := Step.alloc (fun _ => False) w (.cells #[.int .i64 (-1)] 3)
  have hb2 := h1.alloc (.cells #[.int .i64 (-1)] 3)
  have ho2 := h2.step hal (fun _ _ h => h) fun _ h => h.elim
  have ho3 := h3.step hal (fun _ _ h => h) fun _ h => h.elim
  have hsz : Hid ((marks.length + 1) * 8 ≤ 140737488355328) := by show _ ≤ _; omega
  have hml : Hid (marks.length + 1 ≤ maxLen) := by show _ ≤ _; simp [maxLen]; omega
  have hne : Hid (∀ k, (Value.slice a2 marks.length c2).ownBlock = some k → k ≠ g) := fun k hk e => ho3.ne hb2 (by decide) (by rw [← e]; exact hk)
  have hap := Lib.hid (ho3.apart ho2 (by decide))
  go_enter Try.func28, Try.ntmps28
  go_wp2_with (at_builtin; refine wpList_append_own_ (L := Lay.int .i64) (A := AnyA) rfl _ _ 52 rfl sty_ints rfl ho3 (fun _ _ => trivial) rfl (Src.lit1 (x := (-1 : Int)) (cs := [.int .i64 (-1)]) (Blk.new w 3 #[.int .i64 (-1)]) ⟨rfl, Fits.of_i64 (by decide) (by decide)⟩) hml.out hsz.out ?_; intro v9 w9 hm9 hs9; have B9 := hb2.step_ hs9 (fun hk => hne.out g hk rfl); obtain ⟨a9, c9, rfl⟩ := hm9.form (n := marks.length + 1) (by simp); have hc9 : w9.cell? ⟨g, 1, none⟩ = some (.slice a2 marks.length c2) := B9.cell 1; have hf9 := B9.frozen 1; have hz9 := B9.lt)
  go_ret
  have O2 := ho2.step hs9 (fun k hk hk2 => hap.out k hk2 hk) fun _ _ => trivial
  have hst := Step.set (fun k => k = g) w9 ⟨g, 1, none⟩ rfl (.slice a9 (marks.length + 1) c9)
  refine ⟨rfl, fun k => Fp k ∨ (Value.slice a9 (marks.length + 1) c9).ownBlock = some k, ⟨a1, c1, a9, c9, ?_, ?_, ?_, .inl h4, ?_⟩, ?_, ?_⟩
  · have := B9.set_ 1 (.slice a9 (marks.length + 1) c9)
    simpa using this
  · exact (O2.weaken fun k hk => .inl hk).step hst (fun k hk e => (O2.ne B9 (by decide)) (by rw [hk, e])) fun _ _ => trivial
  · have := (hm9.exact_ (fun k => Fp k ∨ (Value.slice a9 (marks.length + 1) c9).ownBlock = some k) fun k hk => .inr hk).step hst (fun k hk e => (hm9.ne B9 (by decide)) (by rw [hk, e])) fun _ _ => trivial
    simpa using this
  · rintro k (hk | hk)
    · have := h5 k hk
      have := hs9.size
      simp at this ⊢
      omega
    · simpa using hm9.lt k hk
  · rintro k (hk | hk)
    · exact .inl hk
    · rcases hm9.row k hk with h | h
      · exact .inl h
      · exact .inr (by simp at h; omega)
  · refine ((Step.alloc Fp w _).trans (hs9.mono fun k hk => h3.row k hk)).trans (Step.set Fp w9 ⟨g, 1, none⟩ h4 _)
/-- May a label be marked? -/
def markOk (marks : List Int) (l : Int) : Bool := decide (0 ≤ l ∧ l < (marks.length : Int) ∧ el marks l.toNat < 0)
def markTo (marks : List Int) (l : Int) (n : Nat) : List Int := if markOk marks l then put marks l.toNat (n : Int) else marks

theorem OwnL.setInt {A : Nat → Prop} {w : World} {Fp : Nat → Prop} {e : TypeId} {xs : List Int} {g n cap : Nat} {kd : IntKind} (h : OwnL (Lay.int kd) A w Fp e (.slice (some ⟨g, 0, none⟩) n cap) xs) {k : Nat} (hk : k < xs.length) {x : Int} (hx : Fits kd x) (hA : A g) :
    OwnL (Lay.int kd) A (w.setCell ⟨g, k, none⟩ (.int kd x)) Fp e (.slice (some ⟨g, 0, none⟩) n cap) (put xs k x) :=
  ⟨h.mine.setAt hk (j := 0) Nat.one_pos hA (fun c hc => by obtain ⟨rfl, _⟩ := hc; exact ⟨rfl, hx⟩) (by simp [Lay.int]), h.row⟩
theorem OwnL.cellInt {A : Nat → Prop} {w : World} {Fp : Nat → Prop} {e : TypeId} {xs : List Int} {g n cap : Nat} {kd : IntKind} (h : OwnL (Lay.int kd) A w Fp e (.slice (some ⟨g, 0, none⟩) n cap) xs) {k : Nat} (hk : k < xs.length) :
    w.cell? ⟨g, k, none⟩ = some (.int kd (el xs k)) ∧ w.frozen? ⟨g, k, none⟩ = false ∧ g < w.heap.size := by
  obtain ⟨c, hc, hj, hf, _, hg⟩ := h.mine.cellAt hk
  obtain ⟨rfl, _⟩ := hc
  refine ⟨?_, hf k, hg⟩
  have := hj 0 Nat.one_pos
  simp [Lay.int] at this
  rw [this, el_lt _ _ hk]

set_option maxHeartbeats 1000000 in
theorem asmMark_any (g : Nat) (Fp : Nat → Prop) (code : List Ins) (marks : List Int) (l : Int) (w : World) (h : AsmObj w Fp 120 g code marks) (hm : marks.length ≤ 1000000) (hc : code.length ≤ 1000000) :
    Calls Try.prog 30 #[.pointer (some ⟨g, 0, none⟩), .int .i64 l] w fun e w' => e = .returned (.bool (markOk marks l)) ∧ AsmObj w' Fp 120 g code (markTo marks l code.length) ∧ Step Fp w w' := by
  have hno : markOk marks l = false → markTo marks l code.length = marks := fun h => by unfold markTo; rw [h]; rfl
  have hyes : markOk marks l = true → markTo marks l code.length = put marks l.toNat (code.length : Int) := fun h => by unfold markTo; rw [if_pos h]
  have HNo := Lib.hid hno
  have HYes := Lib.hid hyes
  clear hno hyes
  have HO := Lib.hid h
  obtain ⟨a1, c1, a2, c2, h1, h2, h3, h4, h5⟩ := h
  have hd0 := h1.cell 0
  have hd1 := h1.cell 1
  simp at hd0 hd1
  have hz := h1.lt
  by_cases hl : l < 0
  · have q : markOk marks l = false := by unfold markOk; rw [decide_eq_false_iff_not]; omega
    have Q := Lib.hid q
    clear h5 q
    go_enter Try.func30, Try.ntmps30
    go_wp2_with fail
    go_ret
    exact ⟨by rw [Q.out]; rfl, by rw [HNo.out Q.out]; exact HO.out, Step.refl _ _⟩
  by_cases hl2 : (marks.length : Int) ≤ l
  · have q : markOk marks l = false := by unfold markOk; rw [decide_eq_false_iff_not]; omega
    have hl0 : 0 ≤ l := by omega
    have Q := Lib.hid q
    clear h5 q
    go_enter Try.func30, Try.ntmps30
    go_wp2_with fail
    go_ret
    exact ⟨by rw [Q.out]; rfl, by rw [HNo.out Q.out]; exact HO.out, Step.refl _ _⟩
  obtain ⟨k, rfl⟩ := Int.eq_ofNat_of_zero_le (show 0 ≤ l by omega)
  have hk : k < marks.length := by omega
  obtain ⟨g2, cap2, e2, _, _⟩ := h3.mine.at_ (by omega)
  injection e2 with e2 _ e3
  subst e2 e3
  obtain ⟨hx0, hx1, hx2⟩ := h3.cellInt hk
  by_cases hv : 0 ≤ el marks k
  · have q : markOk marks (k : Int) = false := by unfold markOk; rw [decide_eq_false_iff_not]; simp; omega
    have Q := Lib.hid q
    clear h5 q
    go_enter Try.func30, Try.ntmps30
    go_wp2_with fail
    go_ret
    exact ⟨by rw [Q.out]; rfl, by rw [HNo.out Q.out]; exact HO.out, Step.refl _ _⟩
  · have hv' : el marks k < 0 := by omega
    have q : markOk marks (k : Int) = true := by unfold markOk; rw [decide_eq_true_iff]; simp; omega
    have hne : g ≠ g2 := fun e => h3.ne h1 (by decide) (by rw [e]; rfl)
    have hap := Lib.hid (h3.apart h2 (by decide))
    have H5 := Lib.hid h5
    have HM := Lib.hid (show marks.length ≤ 1000000 ∧ code.length ≤ 1000000 from ⟨hm, hc⟩)
    have Q := Lib.hid q
    clear h5 hm hc q
    go_enter Try.func30, Try.ntmps30
    go_wp2_with fail
    go_region
    go_wp2_with fail
    go_ret
    have hF2 : Fp g2 := h3.row g2 rfl
    have hst := Step.set (fun k => k = g2) w ⟨g2, k, none⟩ rfl (.int .i64 (code.length : Int))
    have hcl := HM.out.2
    refine ⟨by rw [Q.out]; rfl, AsmObj.drew ?_, (Step.set Fp w ⟨g2, k, none⟩ hF2 _).trans (Step.drew_ _ _)⟩
    rw [HYes.out Q.out]
    have hO := h3.setInt hk (x := (code.length : Int)) (Fits.of_i64 (by omega) (by omega)) trivial
    have hl := put_length marks k (code.length : Int)
    refine ⟨a1, c1, some ⟨g2, 0, none⟩, c2, ?_, h2.step hst (fun j hj e => hap.out g2 rfl (by rw [← e]; exact hj)) fun _ _ => trivial, ?_, h4, ?_⟩
    · rw [show (put marks (k : Int).toNat (code.length : Int)).length = marks.length from hl]; exact h1.step_ hst hne
    · rw [show (put marks (k : Int).toNat (code.length : Int)).length = marks.length from hl]; exact hO
    · intro j hj; have := H5.out j hj; simpa [World.setCell] using this

set_option maxHeartbeats 1000000 in
theorem asmPut_any (g : Nat) (Fp : Nat → Prop) (code : List Ins) (marks : List Int) (ao : Option Addr) (n cap : Nat) (xs : List Ins) (w : World) (h : AsmObj w Fp 120 g code marks) (hr : RdL insLay NoA w ao n cap xs) (hc : code.length + n ≤ 1000000) :
    Calls Try.prog 32 #[.pointer (some ⟨g, 0, none⟩), .slice ao n cap] w fun e w' => e = .returned (.tuple #[]) ∧ ∃ Fp', AsmObj w' Fp' 120 g (code ++ xs) marks ∧ (∀ k, Fp' k → Fp k ∨ w.heap.size ≤ k) ∧ Step Fp w w' := by
  obtain rfl := hr.len
  obtain ⟨a1, c1, a2, c2, h1, h2, h3, h4, h5⟩ := h
  have hd0 := h1.cell 0
  simp at hd0
  have hz := h1.lt
  have hsz : Hid ((code.length + xs.length) * 48 ≤ 140737488355328) := by show _ ≤ _; omega
  have hml : Hid (code.length + xs.length ≤ maxLen) := by show _ ≤ _; simp [maxLen]; omega
  have hne : Hid (∀ k, (Value.slice a1 code.length c1).ownBlock = some k → k ≠ g) := fun k hk e => h2.ne h1 (by decide) (by rw [← e]; exact hk)
  have hap := Lib.hid (h2.apart h3 (by decide))
  have H5 := Lib.hid h5
  clear h5 hc
  go_enter Try.func32, Try.ntmps32
  go_wp2_with (at_builtin; refine wpList_append_own_ (L := insLay) (A := AnyA) rfl _ _ 51 rfl sty_ins rfl h2 (fun _ _ => trivial) rfl hr.srcF hml.out hsz.out ?_; intro v9 w9 hm9 hs9; have B9 := h1.step_ hs9 (fun hk => hne.out g hk rfl); obtain ⟨a9, c9, rfl⟩ := hm9.form (n := code.length + xs.length) (by simp); have hc9 : w9.cell? ⟨g, 0, none⟩ = some (.slice a1 code.length c1) := B9.cell 0; have hf9 := B9.frozen 0; have hz9 := B9.lt)
  refine bodyPost_end (results_none Try.results32 _ _ _) rfl ?_
  have O3 := h3.step hs9 (fun k hk hk2 => hap.out k hk2 hk) fun _ _ => trivial
  have hst := Step.set (fun k => k = g) w9 ⟨g, 0, none⟩ rfl (.slice a9 (code.length + xs.length) c9)
  refine ⟨rfl, fun k => Fp k ∨ (Value.slice a9 (code.length + xs.length) c9).ownBlock = some k, ⟨a9, c9, a2, c2, ?_, ?_, ?_, .inl h4, ?_⟩, ?_, ?_⟩
  · have := B9.set_ 0 (.slice a9 (code.length + xs.length) c9)
    simpa using this
  · have := (hm9.exact_ (fun k => Fp k ∨ (Value.slice a9 (code.length + xs.length) c9).ownBlock = some k) fun k hk => .inr hk).step hst (fun k hk e => (hm9.ne B9 (by decide)) (by rw [hk, e])) fun _ _ => trivial
    simpa using this
  · exact (O3.weaken fun k hk => .inl hk).step hst (fun k hk e => (O3.ne B9 (by decide)) (by rw [hk, e])) fun _ _ => trivial
  · rintro k (hk | hk)
    · have := H5.out k hk
      have := hs9.size
      simp at this ⊢
      omega
    · simpa using hm9.lt k hk
  · rintro k (hk | hk)
    · exact .inl hk
    · rcases hm9.row k hk with h | h
      · exact .inl h
      · exact .inr (by omega)
  · exact (hs9.mono fun k hk => h2.row k hk).trans (Step.set Fp w9 ⟨g, 0, none⟩ h4 _)

theorem asmLen_any (g : Nat) (Fp : Nat → Prop) (code : List Ins) (marks : List Int) (w : World) (h : AsmObj w Fp 120 g code marks) :
    Calls Try.prog 36 #[.pointer (some ⟨g, 0, none⟩)] w fun e w' => e = .returned (.int .i64 (code.length : Int)) ∧ w = w' := by
  obtain ⟨a1, c1, a2, c2, h1, h2, h3, h4, h5⟩ := h
  have hd0 := h1.cell 0
  simp at hd0
  have hz := h1.lt
  clear h5
  go_enter Try.func36, Try.ntmps36
  go_wp2_with fail
  go_ret
  exact ⟨rfl, rfl⟩
end Go.Proofs.Ytfakdapglbgokaa
