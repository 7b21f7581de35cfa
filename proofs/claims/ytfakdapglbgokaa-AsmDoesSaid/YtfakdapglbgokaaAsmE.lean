/-
  Steps that came in: how they lie in cells. No condition.
-/
import Derived.Test.YtfakdapglbgokaaAsmD
import Derived.Test.YtfakdapglbgokaaWordM
namespace Go.Proofs.Ytfakdapglbgokaa
set_option linter.all false
open Go.RowKit Go.ChangeShapes Go.WideShapes

theorem opens_astep : Opens Try.prog 58 astepLay := by
  have h : Opens Try.prog 58 (Lay.pair (Lay.int .i64) (Lay.pair (Lay.int .i64) insLay)) :=
    Opens.struct Try.underlying58 (OpensF.cons opens_int rfl (OpensF.cons opens_int rfl (OpensF.one opens_ins rfl))) (by kernel_rfl) (by decide)
  refine h.weak rfl ?_
  rintro w ⟨a, b, x⟩ cs ⟨_, _, rfl, ⟨rfl, h1⟩, _, _, rfl, ⟨rfl, h2⟩, rfl, h3⟩
  exact ⟨⟨a, b, x⟩, rfl, h1, h2, h3⟩
end Go.Proofs.Ytfakdapglbgokaa
