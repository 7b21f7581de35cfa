/-
  The references' SameProgram, GreatProgram, OwnProgram. No condition.
-/
import Derived.Test.YtfakdapglbgokaaWordH
import Derived.Test.YtfakdapglbgokaaWordW
import Derived.Test.YtfakdapglbgokaaBitsV
import Derived.BigQuiet
import Derived.Deep.QuietTactic
import Derived.Deep.RegionLaw
import Derived.Deep.RegionHeld3
import Derived.Deep.DrawnRows
import Derived.Outline
namespace Go.Proofs.Ytfakdapglbgokaa
set_option linter.all false
open Go.RowKit
attribute [local go_sem ↓] Go.wp_at_zero Go.wp_at_succ

theorem sty_shapes : SliceTy Try.prog 47 123 3 24 (.agg #[.int .i64 0, .int .i64 0, .int .i64 0]) := ⟨Try.underlying47, by kernel_rfl, rfl, by omega⟩
theorem sty_ins : SliceTy Try.prog 51 56 6 48 (.agg #[.int .i64 0, .int .i64 0, .int .i64 0, .int .i64 0, .int .i64 0, .int .u64 0]) := ⟨Try.underlying51, by kernel_rfl, rfl, by omega⟩

def greatB (p : Prog) : Bool := decide (300 < p.tabs.length) || decide (65000 < p.code.length)
theorem GreatProgram_any (slots : Int) (to_ co : Option Addr) (tn cn tc cc : Nat) (w : World) (ht : tn ≤ 9223372036854775807) (hc : cn ≤ 9223372036854775807) :
    Calls Try.prog 46 #[.agg #[.int .i64 slots, .slice to_ tn tc, .slice co cn cc]] w fun e w' => e = .returned (.bool (decide (300 < tn) || decide (65000 < cn))) ∧ Below w.heap.size w w' := by
  by_cases h : 300 < tn
  · have h1 : (300 : Int) < (tn : Int) := by omega
    go_enter Try.func46, Try.ntmps46
    go_wp2_with fail
    go_ret
    exact ⟨by simp [h]; try omega, by go_grown⟩
  · have h1 : (tn : Int) ≤ 300 := by omega
    go_enter Try.func46, Try.ntmps46
    go_wp2_with fail
    go_ret
    exact ⟨by rw [show decide (300 < tn) = false from decide_eq_false h, show decide ((300 : Int) < (tn : Int)) = false from decide_eq_false (by omega)]; simp; omega, by go_grown⟩

theorem OwnProgram_mine (slots : Int) (to_ co : Option Addr) (tc cc : Nat) (tabs : List Shape) (code : List Ins) (A : Nat → Prop) (w : World) (ht : RdL shapeLay A w to_ tabs.length tc tabs) (hc : RdL insLay A w co code.length cc code) (ht5 : tabs.length ≤ 300) (hc6 : code.length ≤ 65000) :
    Calls Try.prog 47 #[.agg #[.int .i64 slots, .slice to_ tabs.length tc, .slice co code.length cc]] w fun e w' => ∃ to' co' tc' cc', e = .returned (.agg #[.int .i64 slots, .slice to' tabs.length tc', .slice co' code.length cc']) ∧
      RdL shapeLay NoA w' to' tabs.length tc' tabs ∧ RdL insLay NoA w' co' code.length cc' code ∧ MineL insLay AnyA w' w.heap.size 56 (.slice co' code.length cc') code ∧ Below w.heap.size w w' := by
  have hB := al (al (rf w) (.cells #[.int .i64 slots, .slice to_ tabs.length tc, .slice co code.length cc] 63)) (.cells #[.int .i64 0, .slice none 0 0, .slice none 0 0] 63)
  go_enter Try.func47, Try.ntmps47
  go_wp2_with fail
  have kB : Hid (Below w.heap.size w ((w.alloc (.cells #[.int .i64 slots, .slice to_ tabs.length tc, .slice co code.length cc] 63)).alloc (.cells #[.int .i64 0, .slice none 0 0, .slice none 0 0] 63))) := hB
  have hk := blk2 (rf ((w.alloc (.cells #[.int .i64 slots, .slice to_ tabs.length tc, .slice co code.length cc] 63)).alloc (.cells #[.int .i64 0, .slice none 0 0, .slice none 0 0] 63)))
  obtain ⟨_, hk1, hk2⟩ := hk
  have ht2 := ht.below hB
  have hc2 := hc.below hB
  generalize ((w.alloc (.cells #[.int .i64 slots, .slice to_ tabs.length tc, .slice co code.length cc] 63)).alloc (.cells #[.int .i64 0, .slice none 0 0, .slice none 0 0] 63)) = w1 at *
  have hd0 := hk1.cell 0
  have hd1 := hk1.cell 1
  have hd2 := hk1.cell 2
  have he0 := hk2.cell 0
  have he1 := hk2.cell 1
  have he2 := hk2.cell 2
  simp at hd0 hd1 hd2 he0 he1 he2
  have hf0 := hk2.frozen 0
  have hf1 := hk2.frozen 1
  have hf2 := hk2.frozen 2
  clear hB
  have ht3 : RdL shapeLay A w1.drew to_ tabs.length tc tabs := ht2.below ⟨rfl, rfl, rfl, Nat.le_refl _, fun _ _ => rfl⟩
  have hc3 : RdL insLay A w1.drew co code.length cc code := hc2.below ⟨rfl, rfl, rfl, Nat.le_refl _, fun _ _ => rfl⟩
  go_region_held3 (fun w' => w'.cell? ⟨w.heap.size, 0, none⟩ = some (.int .i64 slots) ∧ w'.cell? ⟨w.heap.size, 1, none⟩ = some (.slice to_ tabs.length tc) ∧ w'.cell? ⟨w.heap.size, 2, none⟩ = some (.slice co code.length cc))
    (first
      | go_keep
      | exact ⟨keep (w := w1.drew) hd0 hb7, keep (w := w1.drew) hd1 hb7, keep (w := w1.drew) hd2 hb7⟩
      | exact ⟨keep (keep (w := w1.drew) hd0 hb7) hb8, keep (keep (w := w1.drew) hd1 hb7) hb8, keep (keep (w := w1.drew) hd2 hb7) hb8⟩)
    ((first
      | (refine step_append_lay (L := shapeLay) (A := NoA) (by rfl) _ _ 47 (by rfl) sty_shapes w1.drew.heap.size (by rfl) (MineL.nil _ _ _ _ _) (by simp [Value.ownBlock]) (by rfl) ht3.srcF (by simp [maxLen]; omega) (by simp; omega) (by exact Nat.le_refl _) ?_; intro v2 w6 hm6 hb7; obtain ⟨a2, c2, rfl⟩ := hm6.form)
      | (refine step_append_lay (L := insLay) (A := NoA) (by rfl) _ _ 51 (by rfl) sty_ins w6.heap.size (by rfl) (MineL.nil _ _ _ _ _) (by simp [Value.ownBlock]) (by rfl) ((hc3.below hb7).srcF) (by simp [maxLen]; omega) (by simp; omega) (by exact Nat.le_refl _) ?_; intro v3 w7 hm7 hb8; obtain ⟨a3, c3, rfl⟩ := hm7.form; have hkz : Blk w7 (w.heap.size + 1) 63 #[.int .i64 0, .slice none 0 0, .slice none 0 0] := Blk.below (Blk.below (w := w1.drew) hk2 hb7 hk2.lt) hb8 (Nat.lt_of_lt_of_le hk2.lt hb7.size); have hg0 := hkz.cell 0; have hg1 := hkz.cell 1; have hg2 := hkz.cell 2; simp at hg0 hg1 hg2; have hgf0 := hkz.frozen 0; have hgf1 := hkz.frozen 1; have hgf2 := hkz.frozen 2; have hgz := hkz.lt)))
  go_wp2_with fail
  have hw16 : w1.heap.size ≤ w6.heap.size := hb7.size
  have hlt1 : w.heap.size + 1 < w1.heap.size := hk2.lt
  have R1 := ((((hm6.rdF).below hb8).set (p := ⟨w.heap.size + 1, 0, none⟩) hlt1 (.int .i64 slots)).set (p := ⟨w.heap.size + 1, 1, none⟩) hlt1 (.slice a2 tabs.length c2)).set (p := ⟨w.heap.size + 1, 2, none⟩) hlt1 (.slice a3 code.length c3)
  have R2 := ((hm7.rdF.set (p := ⟨w.heap.size + 1, 0, none⟩) (Nat.lt_of_lt_of_le hlt1 hw16) (.int .i64 slots)).set (p := ⟨w.heap.size + 1, 1, none⟩) (Nat.lt_of_lt_of_le hlt1 hw16) (.slice a2 tabs.length c2)).set (p := ⟨w.heap.size + 1, 2, none⟩) (Nat.lt_of_lt_of_le hlt1 hw16) (.slice a3 code.length c3)
  have M2 : MineL insLay AnyA (((w7.setCell ⟨w.heap.size + 1, 0, none⟩ (.int .i64 slots)).setCell ⟨w.heap.size + 1, 1, none⟩ (.slice a2 tabs.length c2)).setCell ⟨w.heap.size + 1, 2, none⟩ (.slice a3 code.length c3)) w.heap.size 56 (.slice a3 code.length c3) code := by
    have h0 := hm7.flat (A' := AnyA)
    have st : Step (fun k => k = w.heap.size + 1) w7 (((w7.setCell ⟨w.heap.size + 1, 0, none⟩ (.int .i64 slots)).setCell ⟨w.heap.size + 1, 1, none⟩ (.slice a2 tabs.length c2)).setCell ⟨w.heap.size + 1, 2, none⟩ (.slice a3 code.length c3)) := ((Step.set (fun k => k = w.heap.size + 1) w7 ⟨w.heap.size + 1, 0, none⟩ rfl _).trans (Step.set (fun k => k = w.heap.size + 1) _ ⟨w.heap.size + 1, 1, none⟩ rfl _)).trans (Step.set (fun k => k = w.heap.size + 1) _ ⟨w.heap.size + 1, 2, none⟩ rfl _)
    exact (h0.step st (fun g hg e => by have := (h0.lt g hg).1; omega) fun _ _ => trivial).base_le (by omega)
  have hB9 : Below w.heap.size w w7 := ((Below.drew kB.out).trans (Below.mono hb7 kB.out.size)).trans (hb8.mono (Nat.le_trans kB.out.size hw16))
  exact bodyPost_ret (v := .agg #[.int .i64 slots, .slice a2 tabs.length c2, .slice a3 code.length c3]) (by simp [results, Try.results47, go_sem, hg0, hg1, hg2, hgf0, hgf1, hgf2, hgz]) rfl ⟨a2, a3, c2, c3, rfl, R1.no, R2.no, M2, ((hB9.setCell (Nat.le_succ _) _).setCell (Nat.le_succ _) _).setCell (Nat.le_succ _) _⟩
theorem OwnProgram_any (slots : Int) (to_ co : Option Addr) (tc cc : Nat) (tabs : List Shape) (code : List Ins) (A : Nat → Prop) (w : World) (ht : RdL shapeLay A w to_ tabs.length tc tabs) (hc : RdL insLay A w co code.length cc code) (ht5 : tabs.length ≤ 300) (hc6 : code.length ≤ 65000) :
    Calls Try.prog 47 #[.agg #[.int .i64 slots, .slice to_ tabs.length tc, .slice co code.length cc]] w fun e w' => ∃ to' co' tc' cc', e = .returned (.agg #[.int .i64 slots, .slice to' tabs.length tc', .slice co' code.length cc']) ∧
      RdL shapeLay NoA w' to' tabs.length tc' tabs ∧ RdL insLay NoA w' co' code.length cc' code ∧ Below w.heap.size w w' :=
  (OwnProgram_mine slots to_ co tc cc tabs code A w ht hc ht5 hc6).mono fun _ _ ⟨a, b, c, d, e, h1, h2, _, h4⟩ => ⟨a, b, c, d, e, h1, h2, h4⟩
end Go.Proofs.Ytfakdapglbgokaa
