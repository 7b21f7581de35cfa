/-
  Texts joined: XEqN. No condition.
-/
import Derived.WalkSpells
import Derived.RegionTactic
import Derived.BigRegion
import Derived.Deep.RegionLaw
import Derived.Test.YtalejfkholifpaaGreatProg
import Derived.Laws.StructEq
import Derived.Laws.Pointers
import Derived.ChangeKeysEq
import Derived.Handy
import Derived.Test.YtalejfkholifpaaGreatStoreSetK7
namespace Go.Proofs.YtalejfkholifpaaGreat
set_option linter.all false
open Go.RowKit
theorem qayc (p q : Option Addr) (w : World) : (Op.equalIn 10000 101 (.agg #[.pointer p, .pointer q]) (.agg #[.pointer none, .pointer none])).run Tryz.prog w = .ok (p.isNone && q.isNone) w := by
 have h := fun (w : World) (d : Nat) (p : Option Addr) => run_equalIn_pointer_nil (P := Tryz.prog) w d 100 p (by kernel_rfl)
 obtain ⟨i, hi⟩ := Option.isSome_iff_exists.1 (show (Tryz.prog.info? 100).isSome = true by kernel_rfl)
 rw [show (10000 : Nat) = 9999 + 1 from rfl, run_equalIn_array w 9999 _ _ Tryz.underlying101 hi]
 rw [show Tryz.prog.cellsOf 100 = 1 by kernel_rfl, show List.range 2 = [0, 1] from rfl]
 have h0 : ∀ (a b : Value) (w : World), (part 100 #[a, b] 0).run Tryz.prog w = .ok a w := fun a b w => by simp [part, go_sem, Tryz.underlying100]
 have h1 : ∀ (a b : Value) (w : World), (part 100 #[a, b] 1).run Tryz.prog w = .ok b w := fun a b w => by simp [part, go_sem, Tryz.underlying100]
 simp only [Op.eqItems, Sem.run_bind, Nat.zero_mul, Nat.one_mul, h0, h1, Result.andThen_ok]
 have h9 : ∀ (w : World) (p : Option Addr), (Op.equalIn 9999 100 (.pointer p) (.pointer none)).run Tryz.prog w = .ok p.isNone w := fun w p => h w 9998 p
 clear h hi
 cases p <;> cases q <;> simp [h1, h9]
end Go.Proofs.YtalejfkholifpaaGreat
