/-
  Texts joined: XExbC. No condition.
-/
import Derived.WalkSpells
import Derived.RegionTactic
import Derived.BigRegion
import Derived.Deep.RegionLaw
import Derived.Test.YtalejfkholifpaaGreatProg
import Derived.Test.YtalejfkholifpaaGreatStoreSetK17
namespace Go.Proofs.YtalejfkholifpaaGreat
set_option linter.all false
open Go.RowKit
theorem ents_nd {k m : Int} {S : XTab} (h : XInv k m S) : (qafh S).Nodup := by
 rw [List.nodup_iff_pairwise_ne]
 exact (qayd h).imp fun {a b} hne e => hne (congrArg XSlot.keys e)
def rotX {α : Type} (A : List α) (c : Nat) : List α := A.drop c ++ A.take c
theorem qawu {α : Type} (A : List α) (c : Nat) : (rotX A c).Perm A := by
 have := @List.perm_append_comm α (A.drop c) (A.take c)
 rw [List.take_append_drop] at this
 exact this
theorem qbb3 {α : Type} (A : List α) (c : Nat) : (rotX A c).length = A.length := (qawu A c).length_eq
theorem rot_get {α : Type} {A : List α} {c i : Nat} (hc : c < A.length) (hi : i < A.length) : ∃ (h : i < (rotX A c).length) (h2 : (i + c) % A.length < A.length), (rotX A c)[i] = A[(i + c) % A.length] := by
 have h2 : (i + c) % A.length < A.length := Nat.mod_lt _ (by omega)
 refine ⟨by rw [qbb3]; exact hi, h2, ?_⟩
 unfold rotX
 rw [List.getElem_append]
 split
 ·rename_i h
  rw [List.length_drop] at h
  rw [List.getElem_drop]
  congr 1
  rw [Nat.mod_eq_of_lt (by omega)]; omega
 ·rename_i h
  rw [List.length_drop] at h
  rw [List.getElem_take]
  congr 1
  rw [List.length_drop, Nat.mod_eq_sub_mod (by omega), Nat.mod_eq_of_lt (by omega)]; omega
theorem qa55 {k m : Int} {S U : XTab} (hS : XInv k m S) (hU : XInv k m U) (hp : (qafh U).Perm (qafh S)) (xs : List Int) : qafp k U xs = qafp k S xs := by
 by_cases hx : ∃ s ∈ qafh S, s.keys = xs
 ·obtain ⟨s, h1, rfl⟩ := hx
  rw [qahg hS h1, qahg hU (hp.mem_iff.2 h1)]
 ·rw [qahh hS fun s h1 h2 => hx ⟨s, h1, h2⟩, qahh hU fun s h1 h2 => hx ⟨s, hp.mem_iff.1 h1, h2⟩]
end Go.Proofs.YtalejfkholifpaaGreat
