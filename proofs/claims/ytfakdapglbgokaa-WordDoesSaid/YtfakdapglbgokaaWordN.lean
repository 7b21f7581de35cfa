/-
  What decoding answers. No condition.
-/
import Derived.Test.YtfakdapglbgokaaWordG
import Derived.Test.YtfakdapglbgokaaWordC
import Derived.Test.YtfakdapglbgokaaWordI
import Derived.BigQuiet
import Derived.Deep.QuietTactic
import Derived.Deep.RegionHeld3
import Derived.Deep.RegionLaw
import Derived.Deep.DrawnRows
import Derived.RegionTactic
import Derived.BigRegion
import Derived.Outline
namespace Go.Proofs.Ytfakdapglbgokaa
set_option linter.all false
open Go.RowKit

/-- What is answered: nothing, or a program in new memory. -/
def DecPost (w : World) (xs : List Int) (e : Ending) (w' : World) : Prop := ∃ to_ tc co cc, e = .returned (.tuple #[.agg #[.int .i64 (decV xs).slots, .slice to_ (decV xs).tabs.length tc, .slice co (decV xs).code.length cc], .agg #[.int .i64 (decE xs).1, .int .i64 (decE xs).2]]) ∧
  RdL shapeLay NoA w' to_ (decV xs).tabs.length tc (decV xs).tabs ∧ RdL insLay NoA w' co (decV xs).code.length cc (decV xs).code ∧ Below w.heap.size w w'
theorem DecPost.bad {w w' : World} {xs : List Int} {c a : Int} (h : decE xs = (c, a)) (hc : c ≠ 0) (hb : Below w.heap.size w w') : DecPost w xs (.returned (.tuple #[.agg #[.int .i64 0, .slice none 0 0, .slice none 0 0], .agg #[.int .i64 c, .int .i64 a]])) w' := by
  have hv : decV xs = noProg := by unfold decV; rw [h, if_neg hc]
  refine ⟨none, 0, none, 0, ?_, ?_, ?_, hb⟩
  · rw [hv, h]; rfl
  · rw [hv]; exact RdL.nil_ _ _ _
  · rw [hv]; exact RdL.nil_ _ _ _

theorem DecPost.good {w w' : World} {xs : List Int} {F : Int × Int} {a a' : Option Addr} {c c' : Nat} (h : decE xs = F) (h0 : F.1 = 0) (h1 : F.2 = 0)
    (ht : RdL shapeLay NoA w' a (nTabs xs) c (mkL (fun i => shapeAt xs (5 + 3 * i)) (nTabs xs))) (hc : RdL insLay NoA w' a' (nCode xs) c' (mkL (fun i => insAt xs (7 + 3 * nTabs xs + 14 * i)) (nCode xs))) (hb : Below w.heap.size w w') :
    DecPost w xs (.returned (.tuple #[.agg #[.int .i64 (el xs 3), .slice a (nTabs xs) c, .slice a' (nCode xs) c'], .agg #[.int .i64 0, .int .i64 0]])) w' := by
  have hv : decV xs = progAt xs := by unfold decV; rw [h, if_pos h0]
  have e1 : (progAt xs).tabs.length = nTabs xs := mkL_length _ _
  have e2 : (progAt xs).code.length = nCode xs := mkL_length _ _
  refine ⟨a, c, a', c', ?_, ?_, ?_, hb⟩
  · rw [hv, h, h0, h1, e1, e2]; rfl
  · rw [hv, e1]; exact ht
  · rw [hv, e2]; exact hc
theorem Blk.step {w w' : World} {g : Nat} {t : TypeId} {cs : Array Value} (h : Blk w g t cs) {S : Nat → Prop} (hs : Step S w w') (hg : ¬ S g) : Blk w' g t cs := (hs.block g h.lt hg).trans h
theorem MineL.far {α : Type} {L : Lay α} {w : World} {base : Nat} {e : TypeId} {v : Value} {xs : List α} (h : MineL L AnyA w base e v xs) {w' : World} {S : Nat → Prop} (hs : Step S w w') (hS : ∀ k, S k → k < base) : MineL L AnyA w' base e v xs :=
  h.step hs (fun g hg hk => Nat.not_le_of_lt (hS _ hk) (h.lt g hg).1) fun _ _ => trivial
end Go.Proofs.Ytfakdapglbgokaa
