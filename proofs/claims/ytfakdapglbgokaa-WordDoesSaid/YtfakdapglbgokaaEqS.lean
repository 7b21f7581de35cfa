/-
  Structs held against each other. No condition.
-/
import Derived.Test.YtfakdapglbgokaaWordP
import Derived.Test.YtfakdapglbgokaaProg
import Derived.Laws.StructEq
import Derived.Handy
namespace Go.Proofs.Ytfakdapglbgokaa
set_option linter.all false
open Go.RowKit

theorem guard_shape : Try.prog.eqGuardType Try.prog.depth 123 = false := by kernel_rfl
theorem guard_ins : Try.prog.eqGuardType Try.prog.depth 56 = false := by kernel_rfl
theorem guard_fault : Try.prog.eqGuardType Try.prog.depth 65 = false := by kernel_rfl
theorem eq_fault (a0 a1 b0 b1 : Int) (w : World) : (Op.equalIn 10000 65 (.agg #[.int .i64 a0, .int .i64 a1]) (.agg #[.int .i64 b0, .int .i64 b1])).run Try.prog w = .ok (decide (a0 = b0 ∧ a1 = b1)) w := by
  rw [show (10000 : Nat) = 9999 + 1 from rfl, run_equalIn_struct _ _ _ _ _ (by kernel_rfl) (by kernel_rfl)]
  simp only [Program.fieldsOf, Try.underlying65]
  simp [Op.eqFields, go_sem, Try.underlying3]
  by_cases h0 : a0 = b0 <;> by_cases h1 : a1 = b1 <;> simp [h0, h1]
theorem eq_shape (a b : Shape) (w : World) : (Op.equalIn 10000 123 (.agg #[.int .i64 a.keys, .int .i64 a.acts, .int .i64 a.args]) (.agg #[.int .i64 b.keys, .int .i64 b.acts, .int .i64 b.args])).run Try.prog w = .ok (decide (a = b)) w := by
  obtain ⟨a0, a1, a2⟩ := a
  obtain ⟨b0, b1, b2⟩ := b
  rw [show (10000 : Nat) = 9999 + 1 from rfl, run_equalIn_struct _ _ _ _ _ (by kernel_rfl) (by kernel_rfl)]
  simp only [Program.fieldsOf, Try.underlying123]
  simp [Op.eqFields, go_sem, Try.underlying3]
  by_cases h0 : a0 = b0 <;> by_cases h1 : a1 = b1 <;> by_cases h2 : a2 = b2 <;> simp [h0, h1, h2]
theorem eq_ins (a b : Ins) (w : World) : (Op.equalIn 10000 56 (.agg #[.int .i64 a.op, .int .i64 a.r, .int .i64 a.s, .int .i64 a.k, .int .i64 a.to, .int .u64 a.n]) (.agg #[.int .i64 b.op, .int .i64 b.r, .int .i64 b.s, .int .i64 b.k, .int .i64 b.to, .int .u64 b.n])).run Try.prog w = .ok (decide (a = b)) w := by
  obtain ⟨a0, a1, a2, a3, a4, a5⟩ := a
  obtain ⟨b0, b1, b2, b3, b4, b5⟩ := b
  rw [show (10000 : Nat) = 9999 + 1 from rfl, run_equalIn_struct _ _ _ _ _ (by kernel_rfl) (by kernel_rfl)]
  simp only [Program.fieldsOf, Try.underlying56]
  simp [Op.eqFields, go_sem, Try.underlying3, Try.underlying23]
  by_cases h0 : a0 = b0 <;> by_cases h1 : a1 = b1 <;> by_cases h2 : a2 = b2 <;> by_cases h3 : a3 = b3 <;> by_cases h4 : a4 = b4 <;> by_cases h5 : a5 = b5 <;> simp [h0, h1, h2, h3, h4, h5]
end Go.Proofs.Ytfakdapglbgokaa
