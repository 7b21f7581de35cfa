/-
  Package asm: what Done answers, in plain Lean. No condition.
-/
import Derived.Test.YtfakdapglbgokaaWordN
namespace Go.Proofs.Ytfakdapglbgokaa
set_option linter.all false
open Go.RowKit

theorem i64_wrap_id {x : Int} (h : -9223372036854775808 ≤ x) (h2 : x ≤ 9223372036854775807) : IntKind.i64.wrap x = x := by
  simp [IntKind.wrap, IntKind.bits, IntKind.signed, Int.bmod]; omega
/-- A label that is none, or stands nowhere. -/
def labBad (marks : List Int) (x : Ins) : Bool := decide (x.to < 0 ∨ (marks.length : Int) ≤ x.to ∨ el marks x.to.toNat < 0)
def labBack (marks : List Int) (i : Nat) (x : Ins) : Bool := decide (el marks x.to.toNat ≤ i)
def doneBad (marks : List Int) (code : List Ins) (i : Nat) : Bool := hasT (nth code i).op && (labBad marks (nth code i) || labBack marks i (nth code i))
def Ins.setTo (x : Ins) (t : Int) : Ins := ⟨x.op, x.r, x.s, x.k, t, x.n⟩
def doneIns (marks : List Int) (i : Nat) (x : Ins) : Ins := if hasT x.op then x.setTo (el marks x.to.toNat - i - 1) else x
def doneTo (marks : List Int) (code : List Ins) (k : Nat) : List Ins := (List.range code.length).map fun i => if i < k then doneIns marks i (nth code i) else nth code i
theorem doneTo_length (marks : List Int) (code : List Ins) (k : Nat) : (doneTo marks code k).length = code.length := by simp [doneTo]
theorem doneTo_zero (marks : List Int) (code : List Ins) : doneTo marks code 0 = code :=
  List.ext_getElem (by simp [doneTo]) fun i h1 h2 => by simp [doneTo, nth_lt _ _ h2]
theorem nth_doneTo (marks : List Int) (code : List Ins) (k i : Nat) (h : k ≤ i) (hi : i < code.length) : nth (doneTo marks code k) i = nth code i := by
  rw [nth_lt _ _ (by rw [doneTo_length]; exact hi)]
  simp [doneTo]; omega
theorem doneTo_succ (marks : List Int) (code : List Ins) (k : Nat) (h : k < code.length) : doneTo marks code (k + 1) = (doneTo marks code k).set k (doneIns marks k (nth code k)) := by
  refine List.ext_getElem (by simp [doneTo]) fun i h1 h2 => ?_
  rw [List.getElem_set]
  simp only [doneTo, List.getElem_map, List.getElem_range]
  by_cases e : k = i
  · subst e; simp
  · rw [if_neg e]
    by_cases hk : i < k
    · rw [if_pos hk, if_pos (by omega)]
    · rw [if_neg hk, if_neg (by omega)]
/-- Where nothing leads, the step changes nothing. -/
theorem doneTo_skip (marks : List Int) (code : List Ins) (k : Nat) (h : k < code.length) (hj : hasT (nth code k).op = false) : doneTo marks code (k + 1) = doneTo marks code k := by
  rw [doneTo_succ _ _ _ h]
  unfold doneIns
  rw [hj, if_neg (by decide), ← nth_doneTo marks code k k (Nat.le_refl _) h, nth_lt _ _ (by rw [doneTo_length]; exact h)]
  exact List.set_getElem_self _
def donePF (slots : Int) (tabs : List Shape) (code : List Ins) (marks : List Int) : Prog × (Int × Int) :=
  if firstN (doneBad marks code) code.length < code.length then (noProg, (if labBad marks (nth code (firstN (doneBad marks code) code.length)) then 9 else 11, (firstN (doneBad marks code) code.length : Int)))
  else if (progF ⟨slots, tabs, doneTo marks code code.length⟩).1 = 0 then (⟨slots, tabs, doneTo marks code code.length⟩, (0, 0)) else (noProg, progF ⟨slots, tabs, doneTo marks code code.length⟩)
theorem donePF_none (slots : Int) (tabs : List Shape) {code : List Ins} {marks : List Int} {i : Nat} (h : ∀ j, j < i → doneBad marks code j = false) (hi : i < code.length) (hj : hasT (nth code i).op = true) (hb : labBad marks (nth code i) = true) : donePF slots tabs code marks = (noProg, (9, (i : Int))) := by
  have e := firstN_eq (doneBad marks code) code.length i h (by unfold doneBad; rw [hj, hb]; rfl) hi
  unfold donePF
  rw [e, if_pos hi, if_pos hb]
theorem donePF_round (slots : Int) (tabs : List Shape) {code : List Ins} {marks : List Int} {i : Nat} (h : ∀ j, j < i → doneBad marks code j = false) (hi : i < code.length) (hj : hasT (nth code i).op = true) (hb : labBad marks (nth code i) = false) (hc : labBack marks i (nth code i) = true) : donePF slots tabs code marks = (noProg, (11, (i : Int))) := by
  have e := firstN_eq (doneBad marks code) code.length i h (by unfold doneBad; rw [hj, hb, hc]; rfl) hi
  unfold donePF
  rw [e, if_pos hi, if_neg (by rw [hb]; decide)]
theorem donePF_bad (slots : Int) (tabs : List Shape) {code : List Ins} {marks : List Int} (h : ∀ j, j < code.length → doneBad marks code j = false) (hf : (progF ⟨slots, tabs, doneTo marks code code.length⟩).1 ≠ 0) : donePF slots tabs code marks = (noProg, progF ⟨slots, tabs, doneTo marks code code.length⟩) := by
  unfold donePF
  rw [firstN_none _ _ h, if_neg (by omega), if_neg hf]
theorem donePF_good (slots : Int) (tabs : List Shape) {code : List Ins} {marks : List Int} (h : ∀ j, j < code.length → doneBad marks code j = false) (hf : (progF ⟨slots, tabs, doneTo marks code code.length⟩).1 = 0) : donePF slots tabs code marks = (⟨slots, tabs, doneTo marks code code.length⟩, (0, 0)) := by
  unfold donePF
  rw [firstN_none _ _ h, if_neg (by omega), if_pos hf]
theorem doneBad_next {marks : List Int} {code : List Ins} {k : Nat} (h : ∀ j, j < k → doneBad marks code j = false) (hk : doneBad marks code k = false) : ∀ j, j < k + 1 → doneBad marks code j = false := fun j hj => by
  by_cases e : j = k
  · subst e; exact hk
  · exact h j (by omega)
/-- What Done answers: nothing, or a program in new memory. -/
def DonePost (w : World) (D : Prog × (Int × Int)) (e : Ending) (w' : World) : Prop := ∃ to_ tc co cc, e = .returned (.tuple #[.agg #[.int .i64 D.1.slots, .slice to_ D.1.tabs.length tc, .slice co D.1.code.length cc], .agg #[.int .i64 D.2.1, .int .i64 D.2.2]]) ∧
  RdL shapeLay NoA w' to_ D.1.tabs.length tc D.1.tabs ∧ RdL insLay NoA w' co D.1.code.length cc D.1.code ∧ Below w.heap.size w w'
theorem DonePost.bad {w w' : World} {D : Prog × (Int × Int)} {c a : Int} (h : D = (noProg, (c, a))) (hb : Below w.heap.size w w') : DonePost w D (.returned (.tuple #[.agg #[.int .i64 0, .slice none 0 0, .slice none 0 0], .agg #[.int .i64 c, .int .i64 a]])) w' := by
  subst h
  exact ⟨none, 0, none, 0, rfl, RdL.nil_ _ _ _, RdL.nil_ _ _ _, hb⟩
theorem DonePost.good {w w' : World} {D : Prog × (Int × Int)} {slots : Int} {tabs : List Shape} {code : List Ins} (h : D = (⟨slots, tabs, code⟩, (0, 0))) {to_ co : Option Addr} {tn tc cn cc : Nat} (ht : RdL shapeLay NoA w' to_ tn tc tabs) (hc : RdL insLay NoA w' co cn cc code) (hb : Below w.heap.size w w') :
    DonePost w D (.returned (.tuple #[.agg #[.int .i64 slots, .slice to_ tn tc, .slice co cn cc], .agg #[.int .i64 0, .int .i64 0]])) w' := by
  subst h
  obtain rfl := ht.len
  obtain rfl := hc.len
  exact ⟨to_, tc, co, cc, rfl, ht, hc, hb⟩
theorem Ins.wf_setTo {x : Ins} (h : x.wf) {t : Int} (ht : Fits .i64 t) : (x.setTo t).wf := ⟨h.1, h.2.1, h.2.2.1, h.2.2.2.1, ht, h.2.2.2.2.2⟩
end Go.Proofs.Ytfakdapglbgokaa
