/-
  fits and insForm of whatever instruction. No condition.
-/
import Derived.Test.YtfakdapglbgokaaWordS
import Derived.Test.YtfakdapglbgokaaWordT
import Derived.Test.YtfakdapglbgokaaWordU
namespace Go.Proofs.Ytfakdapglbgokaa
set_option linter.all false
open Go.RowKit

theorem insOk_no {slots : Int} {tabs : List Shape} {x : Ins} (h : isOp x.op = false) : insOk slots tabs x = false := by
  unfold insOk formOk; rw [h]; rfl
set_option maxRecDepth 100000 in
theorem fits_no (slots : Int) (to_ co : Option Addr) (tn tc cn cc : Nat) (x : Ins) (w : World) (h : isOp x.op = false) :
    Calls Try.prog 104 #[.agg #[.int .i64 slots, .slice to_ tn tc, .slice co cn cc], .agg #[.int .i64 x.op, .int .i64 x.r, .int .i64 x.s, .int .i64 x.k, .int .i64 x.to, .int .u64 x.n]] w fun e w' => e = .returned (.bool false) ∧ Below w.heap.size w w' := by
  have H := Lib.hid h
  clear h
  go_enter Try.func104, Try.ntmps104
  go_wp2_with (go_at_call 106; refine (has_no _ _ H.out).mono ?_; rintro e w' ⟨rfl, rfl⟩)
  go_ret
  exact ⟨rfl, by go_grown⟩
set_option maxRecDepth 100000 in
theorem insForm_no (slots : Int) (to_ co : Option Addr) (tn tc cn cc : Nat) (x : Ins) (w : World) (h : isOp x.op = false) :
    Calls Try.prog 98 #[.agg #[.int .i64 slots, .slice to_ tn tc, .slice co cn cc], .agg #[.int .i64 x.op, .int .i64 x.r, .int .i64 x.s, .int .i64 x.k, .int .i64 x.to, .int .u64 x.n]] w fun e w' => e = .returned (.bool false) ∧ Below w.heap.size w w' := by
  go_enter Try.func98, Try.ntmps98
  go_wp2_with fail
  refine (fieldsOf_any _ _).mono ?_
  rintro e w1 ⟨rfl, hb1⟩
  rw [h]
  obtain ⟨hB, _, _⟩ := blk2 hb1
  have hsz := hB.size
  clear hb1
  go_wp2_with fail
  go_ret
  exact ⟨rfl, by go_grown⟩

theorem fits_any (slots : Int) (to_ : Option Addr) (tc : Nat) (tabs : List Shape) (co : Option Addr) (cn cc : Nat) (x : Ins) (A : Nat → Prop) (w : World) (ht : RdL shapeLay A w to_ tabs.length tc tabs) (hok : ∀ i, i < tabs.length → tabBad (nth tabs i) = false) (hx : x.wf) (hs : 0 ≤ slots ∧ slots ≤ 96) :
    Calls Try.prog 104 #[.agg #[.int .i64 slots, .slice to_ tabs.length tc, .slice co cn cc], .agg #[.int .i64 x.op, .int .i64 x.r, .int .i64 x.s, .int .i64 x.k, .int .i64 x.to, .int .u64 x.n]] w fun e w' => e = .returned (.bool (insOk slots tabs x)) ∧ Below w.heap.size w w' := by
  by_cases h : isOp x.op = true
  case neg => rw [insOk_no (by simpa using h)]; exact fits_no _ _ _ _ _ _ _ _ _ (by simpa using h)
  rcases op_cases h with h | h | h | h | h | h | h | h | h | h | h | h | h | h | h | h | h | h
  · exact fits_1 _ _ _ _ _ _ _ _ _ _ hs h
  · exact fits_2 _ _ _ _ _ _ _ _ _ _ hs (.inl h)
  · exact fits_3 _ _ _ _ _ _ _ _ _ _ hs h
  · exact fits_4 _ _ _ _ _ _ _ _ _ _ hs (.inl h)
  · exact fits_2 _ _ _ _ _ _ _ _ _ _ hs (.inr h)
  · exact fits_6 _ _ _ _ _ _ _ _ _ _ hs h
  · exact fits_7 _ _ _ _ _ _ _ _ _ _ hs (.inl h)
  · exact fits_7 _ _ _ _ _ _ _ _ _ _ hs (.inr h)
  · exact fits_9 _ _ _ _ _ _ _ _ _ _ hs h
  · exact fits_10 _ _ _ _ _ _ _ _ _ _ hs (.inl h)
  · exact fits_10 _ _ _ _ _ _ _ _ _ _ hs (.inr h)
  · exact fits_12 _ _ _ _ _ _ _ _ _ _ hs h
  · exact fits_13 _ _ _ _ _ _ _ _ A _ ht hok hx hs h
  · exact fits_14 _ _ _ _ _ _ _ _ _ _ hs h
  · exact fits_4 _ _ _ _ _ _ _ _ _ _ hs (.inr (.inl h))
  · exact fits_4 _ _ _ _ _ _ _ _ _ _ hs (.inr (.inr (.inl h)))
  · exact fits_17 _ _ _ _ _ _ _ _ _ _ hs h
  · exact fits_4 _ _ _ _ _ _ _ _ _ _ hs (.inr (.inr (.inr h)))
theorem insForm_any (slots : Int) (to_ : Option Addr) (tc : Nat) (tabs : List Shape) (co : Option Addr) (cn cc : Nat) (x : Ins) (A : Nat → Prop) (w : World) (ht : RdL shapeLay A w to_ tabs.length tc tabs) (hok : ∀ i, i < tabs.length → tabBad (nth tabs i) = false) (hx : x.wf) (hs : 0 ≤ slots ∧ slots ≤ 96) :
    Calls Try.prog 98 #[.agg #[.int .i64 slots, .slice to_ tabs.length tc, .slice co cn cc], .agg #[.int .i64 x.op, .int .i64 x.r, .int .i64 x.s, .int .i64 x.k, .int .i64 x.to, .int .u64 x.n]] w fun e w' => e = .returned (.bool (insOk slots tabs x)) ∧ Below w.heap.size w w' := by
  by_cases h : isOp x.op = true
  case neg => rw [insOk_no (by simpa using h)]; exact insForm_no _ _ _ _ _ _ _ _ _ (by simpa using h)
  rcases op_cases h with h | h | h | h | h | h | h | h | h | h | h | h | h | h | h | h | h | h
  · exact insForm_1 _ _ _ _ _ _ _ _ _ _ hs h
  · exact insForm_2 _ _ _ _ _ _ _ _ _ _ hs (.inl h)
  · exact insForm_3 _ _ _ _ _ _ _ _ _ _ hs h
  · exact insForm_4 _ _ _ _ _ _ _ _ _ _ hs (.inl h)
  · exact insForm_2 _ _ _ _ _ _ _ _ _ _ hs (.inr h)
  · exact insForm_6 _ _ _ _ _ _ _ _ _ _ hs h
  · exact insForm_7 _ _ _ _ _ _ _ _ _ _ hs (.inl h)
  · exact insForm_7 _ _ _ _ _ _ _ _ _ _ hs (.inr h)
  · exact insForm_9 _ _ _ _ _ _ _ _ _ _ hs h
  · exact insForm_10 _ _ _ _ _ _ _ _ _ _ hs (.inl h)
  · exact insForm_10 _ _ _ _ _ _ _ _ _ _ hs (.inr h)
  · exact insForm_12 _ _ _ _ _ _ _ _ _ _ hs h
  · exact insForm_13 _ _ _ _ _ _ _ _ A _ ht hok hx hs h
  · exact insForm_14 _ _ _ _ _ _ _ _ _ _ hs h
  · exact insForm_4 _ _ _ _ _ _ _ _ _ _ hs (.inr (.inl h))
  · exact insForm_4 _ _ _ _ _ _ _ _ _ _ hs (.inr (.inr (.inl h)))
  · exact insForm_17 _ _ _ _ _ _ _ _ _ _ hs h
  · exact insForm_4 _ _ _ _ _ _ _ _ _ _ hs (.inr (.inr (.inr h)))
end Go.Proofs.Ytfakdapglbgokaa
