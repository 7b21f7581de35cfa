/-
  The references' fieldsOf and insForm; word's fits. No condition.
-/
import Derived.Test.YtfakdapglbgokaaWordW
namespace Go.Proofs.Ytfakdapglbgokaa
set_option linter.all false
open Go.RowKit

set_option maxRecDepth 100000 in
set_option maxHeartbeats 2000000 in
theorem fieldsOf_any (op : Int) (w : World) : Calls Try.prog 89 #[.int .i64 op] w fun e w' => e = .returned (.tuple #[.agg #[.bool (hasR op), .bool (hasS op), .bool (hasK op), .bool (hasT op), .bool (hasN op)], .bool (isOp op)]) ∧ Below w.heap.size w w' := by
  by_cases h : isOp op = true
  · rcases op_cases h with rfl | rfl | rfl | rfl | rfl | rfl | rfl | rfl | rfl | rfl | rfl | rfl | rfl | rfl | rfl | rfl | rfl | rfl
    all_goals
      clear h
      go_enter Try.func89, Try.ntmps89
      go_wp2
      exact bodyPost_ret (v := .tuple #[.agg #[.bool (hasR _), .bool (hasS _), .bool (hasK _), .bool (hasT _), .bool (hasN _)], .bool (isOp _)]) (by simp [results, Try.results89, go_sem, hasR, hasS, hasK, hasT, hasN, isOp]) rfl ⟨rfl, by go_grown⟩
  · have h0 : op < 1 ∨ 18 < op := by unfold isOp at h; simp at h; omega
    have e1 : hasR op = false ∧ hasS op = false ∧ hasK op = false ∧ hasT op = false ∧ hasN op = false ∧ isOp op = false := by
      unfold hasR hasS hasK hasT hasN isOp; simp; omega
    obtain ⟨e1, e2, e3, e4, e5, e6⟩ := e1
    rw [e1, e2, e3, e4, e5, e6]
    have q1 : (op == 1) = false := by rw [beq_eq_false_iff_ne]; omega
    have q2 : (op == 2) = false := by rw [beq_eq_false_iff_ne]; omega
    have q3 : (op == 3) = false := by rw [beq_eq_false_iff_ne]; omega
    have q4 : (op == 4) = false := by rw [beq_eq_false_iff_ne]; omega
    have q5 : (op == 5) = false := by rw [beq_eq_false_iff_ne]; omega
    have q6 : (op == 6) = false := by rw [beq_eq_false_iff_ne]; omega
    have q7 : (op == 7) = false := by rw [beq_eq_false_iff_ne]; omega
    have q8 : (op == 8) = false := by rw [beq_eq_false_iff_ne]; omega
    have q9 : (op == 9) = false := by rw [beq_eq_false_iff_ne]; omega
    have q10 : (op == 10) = false := by rw [beq_eq_false_iff_ne]; omega
    have q11 : (op == 11) = false := by rw [beq_eq_false_iff_ne]; omega
    have q12 : (op == 12) = false := by rw [beq_eq_false_iff_ne]; omega
    have q13 : (op == 13) = false := by rw [beq_eq_false_iff_ne]; omega
    have q14 : (op == 14) = false := by rw [beq_eq_false_iff_ne]; omega
    have q15 : (op == 15) = false := by rw [beq_eq_false_iff_ne]; omega
    have q16 : (op == 16) = false := by rw [beq_eq_false_iff_ne]; omega
    have q17 : (op == 17) = false := by rw [beq_eq_false_iff_ne]; omega
    have q18 : (op == 18) = false := by rw [beq_eq_false_iff_ne]; omega
    clear h e1 e2 e3 e4 e5 e6 h0
    go_enter Try.func89, Try.ntmps89
    go_wp2
    exact bodyPost_ret (v := .tuple #[.agg #[.bool false, .bool false, .bool false, .bool false, .bool false], .bool false]) (by simp [results, Try.results89, go_sem]) rfl ⟨rfl, by go_grown⟩

theorem insOk_op (slots : Int) (tabs : List Shape) (x : Ins) (r s k t n : Bool) (hi : isOp x.op = true) (hr : hasR x.op = r) (hs : hasS x.op = s) (hk : hasK x.op = k) (ht : hasT x.op = t) (hn : hasN x.op = n) :
    insOk slots tabs x = ((r || x.r == 0) && (s || x.s == 0) && (k || x.k == 0) && (t || x.to == 0) && (n || x.n == 0) && regB x.r && (x.op == 13 || regB x.s) && decide (0 ≤ x.to) && kindOk slots tabs x) := by
  unfold insOk formOk regsOk regB
  rw [hi, hr, hs, hk, ht, hn]
  simp only [Bool.beq_eq_decide_eq, Bool.true_and, Bool.and_assoc]
/-- What is known of the two blocks of the parameters behind the first call. -/
theorem ins_facts {slots op r s k to n : Int} {to_ co : Option Addr} {tn tc cn cc : Nat} {tp ti : TypeId} {w w1 : World}
    (hb1 : Below ((w.alloc (.cells #[.int .i64 slots, .slice to_ tn tc, .slice co cn cc] tp)).alloc (.cells #[.int .i64 op, .int .i64 r, .int .i64 s, .int .i64 k, .int .i64 to, .int .u64 n] ti)).heap.size ((w.alloc (.cells #[.int .i64 slots, .slice to_ tn tc, .slice co cn cc] tp)).alloc (.cells #[.int .i64 op, .int .i64 r, .int .i64 s, .int .i64 k, .int .i64 to, .int .u64 n] ti)) w1) :
    Below w.heap.size w w1 ∧ w1.cell? ⟨w.heap.size, 0, none⟩ = some (.int .i64 slots) ∧ w1.cell? ⟨w.heap.size, 1, none⟩ = some (.slice to_ tn tc) ∧
      w1.cell? ⟨w.heap.size + 1, 0, none⟩ = some (.int .i64 op) ∧ w1.cell? ⟨w.heap.size + 1, 1, none⟩ = some (.int .i64 r) ∧ w1.cell? ⟨w.heap.size + 1, 2, none⟩ = some (.int .i64 s) ∧ w1.cell? ⟨w.heap.size + 1, 3, none⟩ = some (.int .i64 k) ∧ w1.cell? ⟨w.heap.size + 1, 4, none⟩ = some (.int .i64 to) ∧ w1.cell? ⟨w.heap.size + 1, 5, none⟩ = some (.int .u64 n) := by
  have k1 := ((Blk.new w tp #[.int .i64 slots, .slice to_ tn tc, .slice co cn cc]).alloc (.cells #[.int .i64 op, .int .i64 r, .int .i64 s, .int .i64 k, .int .i64 to, .int .u64 n] ti)).below hb1 (by simp; omega)
  have k2 := (Blk.new (w.alloc (.cells #[.int .i64 slots, .slice to_ tn tc, .slice co cn cc] tp)) ti #[.int .i64 op, .int .i64 r, .int .i64 s, .int .i64 k, .int .i64 to, .int .u64 n]).below hb1 (by simp)
  rw [World.size_alloc] at k2
  exact ⟨ov (al (al (rf w) _) _) (hb1.mono (Nat.le_refl _)), k1.cell 0, k1.cell 1, k2.cell 0, k2.cell 1, k2.cell 2, k2.cell 3, k2.cell 4, k2.cell 5⟩

end Go.Proofs.Ytfakdapglbgokaa
