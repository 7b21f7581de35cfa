/-
  Package asm: copies of shapes and instructions; jumps. No condition.
-/
import Derived.Test.YtfakdapglbgokaaObj
import Derived.Test.YtfakdapglbgokaaWordI
namespace Go.Proofs.Ytfakdapglbgokaa
set_option linter.all false
open Go.RowKit

set_option maxHeartbeats 1000000 in
theorem CloneShapes_any (ao : Option Addr) (n cap : Nat) (xs : List Shape) (A : Nat → Prop) (w : World) (hr : RdL shapeLay A w ao n cap xs) (hn : n ≤ 1000000) :
    Calls Try.prog 86 #[.slice ao n cap] w fun e w' => ∃ r, e = .returned r ∧ MineL shapeLay AnyA w' w.heap.size 123 r xs ∧ Below w.heap.size w w' := by
  have hq := fun w : World => Lib.run_eql_slice_nil (P := Try.prog) w 47 123 ao n cap 0 0 Try.underlying47
  have hle := hr.le
  have hlen := hr.len
  cases ao with
  | none =>
    have h0 := hr.nil rfl
    obtain rfl : cap = 0 := h0
    obtain rfl : n = 0 := by omega
    obtain rfl : xs = [] := List.eq_nil_of_length_eq_zero hlen
    go_enter Try.func86, Try.ntmps86
    go_wp2_with fail
    go_ret
    exact ⟨_, rfl, MineL.nil _ _ _ _ _, Below.refl _ _⟩
  | some a =>
    have hr' : RdL shapeLay A (w.alloc (.cells #[] 123)) (some a) n cap xs := hr.below ((Below.refl _ _).alloc (Nat.le_refl _) _)
    have hm : MineL shapeLay AnyA (w.alloc (.cells #[] 123)) w.heap.size 123 (.slice (some ⟨w.heap.size, 0, none⟩) 0 0) [] := ⟨[], World.ownsRow_made w #[] 0 (Nat.le_refl _) (by simp [maxLen]) rfl, rfl⟩
    have H1 := Lib.hid hlen
    clear hlen
    go_enter Try.func86, Try.ntmps86
    go_wp2_with (at_builtin; refine wpList_append_lay (L := shapeLay) (A := AnyA) rfl _ _ 47 rfl sty_shapes w.heap.size rfl hm (fun _ _ => trivial) rfl hr'.srcF (by simp [maxLen]; omega) (by simp; omega) (by simp) ?_; intro r' w2 hm2 hg2)
    go_ret
    exact ⟨_, rfl, hm2, ((Below.refl _ _).alloc (Nat.le_refl _) _).trans hg2⟩
set_option maxHeartbeats 1000000 in
theorem CloneIns_any (ao : Option Addr) (n cap : Nat) (xs : List Ins) (A : Nat → Prop) (w : World) (hr : RdL insLay A w ao n cap xs) (hn : n ≤ 1000000) :
    Calls Try.prog 87 #[.slice ao n cap] w fun e w' => ∃ r, e = .returned r ∧ MineL insLay AnyA w' w.heap.size 56 r xs ∧ Below w.heap.size w w' := by
  have hq := fun w : World => Lib.run_eql_slice_nil (P := Try.prog) w 51 56 ao n cap 0 0 Try.underlying51
  have hle := hr.le
  have hlen := hr.len
  cases ao with
  | none =>
    have h0 := hr.nil rfl
    obtain rfl : cap = 0 := h0
    obtain rfl : n = 0 := by omega
    obtain rfl : xs = [] := List.eq_nil_of_length_eq_zero hlen
    go_enter Try.func87, Try.ntmps87
    go_wp2_with fail
    go_ret
    exact ⟨_, rfl, MineL.nil _ _ _ _ _, Below.refl _ _⟩
  | some a =>
    have hr' : RdL insLay A (w.alloc (.cells #[] 56)) (some a) n cap xs := hr.below ((Below.refl _ _).alloc (Nat.le_refl _) _)
    have hm : MineL insLay AnyA (w.alloc (.cells #[] 56)) w.heap.size 56 (.slice (some ⟨w.heap.size, 0, none⟩) 0 0) [] := ⟨[], World.ownsRow_made w #[] 0 (Nat.le_refl _) (by simp [maxLen]) rfl, rfl⟩
    have H1 := Lib.hid hlen
    clear hlen
    go_enter Try.func87, Try.ntmps87
    go_wp2_with (at_builtin; refine wpList_append_lay (L := insLay) (A := AnyA) rfl _ _ 51 rfl sty_ins w.heap.size rfl hm (fun _ _ => trivial) rfl hr'.srcF (by simp [maxLen]; omega) (by simp; omega) (by simp) ?_; intro r' w2 hm2 hg2)
    go_ret
    exact ⟨_, rfl, hm2, ((Below.refl _ _).alloc (Nat.le_refl _) _).trans hg2⟩

theorem jumps_any (op : Int) (w : World) : Calls Try.prog 88 #[.int .i64 op] w fun e w' => e = .returned (.bool (hasT op)) ∧ w = w' := by
  have h : hasT op = (decide (op = 12) || decide (op = 9) || decide (op = 10) || decide (op = 11)) := by
    unfold hasT
    rw [Bool.eq_iff_iff]
    simp
    omega
  rw [h]
  clear h
  by_cases h1 : op = 12
  · subst h1
    go_enter Try.func88, Try.ntmps88
    go_wp2
    go_ret
    exact ⟨rfl, rfl⟩
  by_cases h2 : op = 9
  · subst h2
    go_enter Try.func88, Try.ntmps88
    go_wp2
    go_ret
    exact ⟨rfl, rfl⟩
  by_cases h3 : op = 10
  · subst h3
    go_enter Try.func88, Try.ntmps88
    go_wp2
    go_ret
    exact ⟨rfl, rfl⟩
  by_cases h4 : op = 11
  · subst h4
    go_enter Try.func88, Try.ntmps88
    go_wp2
    go_ret
    exact ⟨rfl, rfl⟩
  have q1 : (op == 12) = false := by rw [beq_eq_false_iff_ne]; exact h1
  have q2 : (op == 9) = false := by rw [beq_eq_false_iff_ne]; exact h2
  have q3 : (op == 10) = false := by rw [beq_eq_false_iff_ne]; exact h3
  have q4 : (op == 11) = false := by rw [beq_eq_false_iff_ne]; exact h4
  go_enter Try.func88, Try.ntmps88
  go_wp2
  go_ret
  exact ⟨by simp [h1, h2, h3, h4], rfl⟩
end Go.Proofs.Ytfakdapglbgokaa
