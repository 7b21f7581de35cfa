/-
  A program of a machine that came in: how it lies in cells. No condition.
-/
import Derived.Test.YtfakdapglbgokaaOpen
import Derived.Test.YtfakdapglbgokaaWordH
import Derived.Test.YtfakdapglbgokaaProg
import Derived.Handy
namespace Go.Proofs.Ytfakdapglbgokaa
set_option linter.all false
open Go.RowKit Go.ChangeShapes Go.WideShapes

theorem opens_int : Opens Try.prog 3 (Lay.int .i64) := Opens.int Try.underlying3 (by kernel_rfl)
theorem opens_u64 : Opens Try.prog 23 (Lay.int .u64) := Opens.int Try.underlying23 (by kernel_rfl)
theorem opens_shape : Opens Try.prog 123 shapeLay := by
  have h : Opens Try.prog 123 (Lay.pair (Lay.int .i64) (Lay.pair (Lay.int .i64) (Lay.int .i64))) :=
    Opens.struct Try.underlying123 (OpensF.cons opens_int rfl (OpensF.cons opens_int rfl (OpensF.one opens_int rfl))) (by kernel_rfl) (by decide)
  refine h.weak rfl ?_
  rintro w ⟨a, b, c⟩ cs ⟨x, y, rfl, ⟨rfl, h1⟩, z, u, rfl, ⟨rfl, h2⟩, rfl, h3⟩
  exact ⟨⟨a, b, c⟩, rfl, h1, h2, h3⟩
theorem opens_ins : Opens Try.prog 56 insLay := by
  have h : Opens Try.prog 56 (Lay.pair (Lay.int .i64) (Lay.pair (Lay.int .i64) (Lay.pair (Lay.int .i64) (Lay.pair (Lay.int .i64) (Lay.pair (Lay.int .i64) (Lay.int .u64)))))) :=
    Opens.struct Try.underlying56 (OpensF.cons opens_int rfl (OpensF.cons opens_int rfl (OpensF.cons opens_int rfl (OpensF.cons opens_int rfl (OpensF.cons opens_int rfl (OpensF.one opens_u64 rfl)))))) (by kernel_rfl) (by decide)
  refine h.weak rfl ?_
  rintro w ⟨a, b, c, d, e, f⟩ cs ⟨_, _, rfl, ⟨rfl, h1⟩, _, _, rfl, ⟨rfl, h2⟩, _, _, rfl, ⟨rfl, h3⟩, _, _, rfl, ⟨rfl, h4⟩, _, _, rfl, ⟨rfl, h5⟩, rfl, h6⟩
  exact ⟨⟨a, b, c, d, e, f⟩, rfl, h1, h2, h3, h4, h5, h6⟩
theorem opens_shapes : Opens Try.prog 47 (Lay.slice shapeLay) := opens_shape.slice Try.underlying47 (by kernel_rfl)
theorem opens_inss : Opens Try.prog 51 (Lay.slice insLay) := opens_ins.slice Try.underlying51 (by kernel_rfl)
theorem opens_prog : Opens Try.prog 63 (Lay.pair (Lay.int .i64) (Lay.pair (Lay.slice shapeLay) (Lay.slice insLay))) := by
  refine Opens.struct Try.underlying63 ?_ (by kernel_rfl) (by decide)
  refine OpensF.cons opens_int rfl ?_
  refine OpensF.cons opens_shapes rfl ?_
  exact OpensF.one opens_inss rfl
set_option maxRecDepth 100000 in
/-- A program that came in by value. -/
theorem open_prog {H : Type} {enc : TypeId × Value → H} {w : World} {r : Reach} {b0 : Nat} {v : Value} {d : DataW H} {p : List MemPlace}
    (hv : Value.okWide Try.prog w r b0 63 v) (ht : DataW.Trod enc Try.prog w 0 (fun _ => true) true 63 v d p) :
    ∃ slots to_ tn tc co cn cc tabs code, v = .agg #[.int .i64 slots, .slice to_ tn tc, .slice co cn cc] ∧ Fits .i64 slots ∧ RdL shapeLay NoA w to_ tn tc tabs ∧ RdL insLay NoA w co cn cc code := by
  obtain ⟨⟨slots, tabs, code⟩, cs, hv', hr⟩ := opens_prog.arg Try.underlying63 hv ht
  subst hv'
  obtain ⟨c1, d1, e, hr1, hr2⟩ := hr
  obtain ⟨rfl, h1⟩ := hr1
  obtain ⟨c2, d2, rfl, hr3, hr4⟩ := hr2
  obtain ⟨to_, tn, tc, rfl, h2⟩ := hr3
  obtain ⟨co, cn, cc, rfl, h3⟩ := hr4
  refine ⟨slots, to_, tn, tc, co, cn, cc, tabs, code, ?_, h1, h2, h3⟩
  obtain ⟨l⟩ := cs
  simp only at e
  rw [e]; rfl
end Go.Proofs.Ytfakdapglbgokaa
