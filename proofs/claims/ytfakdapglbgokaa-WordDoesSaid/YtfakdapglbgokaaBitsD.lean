/-
  The laws of bits: BitsJoins, BitsBack, BitsApart, BitsDoes. No condition.
-/
import Derived.Test.YtfakdapglbgokaaBitsQ
namespace Go.Proofs.Ytfakdapglbgokaa
set_option linter.all false
open Go.RowKit

theorem lit2_fit : AllFit .u8 [171, 205] := by intro x hx; simp at hx; rcases hx with rfl | rfl <;> rfl
theorem fits_lit {k : IntKind} {x : Int} (h : (Lit.int k x).wf = true) : Fits k x := h

theorem SameBytes_any (ao bo : Option Addr) (na ca nb cb : Nat) (xs ys : List Int) (w : World) (hx : Rd w .u8 ao na ca xs) (hy : Rd w .u8 bo nb cb ys) :
    Calls Try.prog 53 #[.slice ao na ca, .slice bo nb cb] w fun e w' => e = .returned (.bool (decide (xs = ys))) ∧ w = w' := by
  have h1 := hx.str (P := Try.prog) 77 9 5 Try.underlying77 Try.underlying5 Try.underlying9
  have h2 := hy.str (P := Try.prog) 77 9 5 Try.underlying77 Try.underlying5 Try.underlying9
  have h3 := Lib.hid (strOfNums_inj hx.fit hy.fit)
  go_enter Try.func53, Try.ntmps53
  go_wp2_with fail
  go_ret
  exact ⟨by rw [← h3.out]; rfl, rfl⟩

theorem Calls.quiet_eq {P : Program} {f : FuncId} {args : Array Value} {w : World} {n : Nat} {v : Value}
    (h : Calls P f args (w.drewN n) fun e w' => e = .returned v ∧ w.drewN n = w') : Calls P f args (w.drewN n) fun e w'' => e = .returned v ∧ ∃ m, w'' = w.drewN m :=
  h.mono fun _ _ ⟨he, hm⟩ => ⟨he, n, hm.symm⟩

end Go.Proofs.Ytfakdapglbgokaa
