/-
  Package word: has, with, reg, slots, Ends; the references' isReg. No condition.
-/
import Derived.Test.YtfakdapglbgokaaWordP
import Derived.Test.YtfakdapglbgokaaProg
import Derived.Handy
import Derived.Lib.Hide
namespace Go.Proofs.Ytfakdapglbgokaa
set_option linter.all false
open Go.RowKit

def hasStr (op : Int) : ByteArray :=
  if op = 1 ∨ op = 7 ∨ op = 8 then ⟨#[114, 110]⟩ else if op = 2 ∨ op = 5 then ⟨#[114, 115]⟩ else if op = 3 then ⟨#[114, 115, 107]⟩ else if op = 4 ∨ op = 15 ∨ op = 16 ∨ op = 18 then ⟨#[114]⟩
  else if op = 6 ∨ op = 13 then ⟨#[114, 115, 107, 110]⟩ else if op = 9 then ⟨#[114, 116, 110]⟩ else if op = 10 ∨ op = 11 then ⟨#[114, 115, 116]⟩ else if op = 12 then ⟨#[116]⟩ else if op = 14 then ⟨#[114, 107]⟩ else if op = 17 then ⟨#[]⟩ else ⟨#[63]⟩

theorem op_cases {op : Int} (h : isOp op = true) : op = 1 ∨ op = 2 ∨ op = 3 ∨ op = 4 ∨ op = 5 ∨ op = 6 ∨ op = 7 ∨ op = 8 ∨ op = 9 ∨ op = 10 ∨ op = 11 ∨ op = 12 ∨ op = 13 ∨ op = 14 ∨ op = 15 ∨ op = 16 ∨ op = 17 ∨ op = 18 := by
  unfold isOp at h; simp at h; omega

theorem has_no (op : Int) (w : World) (h : isOp op = false) : Calls Try.prog 106 #[.int .i64 op] w fun e w' => e = .returned (.string ⟨#[63]⟩) ∧ w = w' := by
  unfold isOp at h
  simp only [decide_eq_false_iff_not] at h
  have h : op < 1 ∨ (1 ≤ op ∧ 18 < op) := by omega
  rcases h with h | h
  all_goals
    go_enter Try.func106, Try.ntmps106
    go_wp2
    go_ret
    exact ⟨rfl, rfl⟩
def hasRow : Array Value := #[.string ⟨#[]⟩, .string ⟨#[114, 110]⟩, .string ⟨#[114, 115]⟩, .string ⟨#[114, 115, 107]⟩, .string ⟨#[114]⟩, .string ⟨#[114, 115]⟩, .string ⟨#[114, 115, 107, 110]⟩, .string ⟨#[114, 110]⟩, .string ⟨#[114, 110]⟩, .string ⟨#[114, 116, 110]⟩, .string ⟨#[114, 115, 116]⟩, .string ⟨#[114, 115, 116]⟩, .string ⟨#[116]⟩, .string ⟨#[114, 115, 107, 110]⟩, .string ⟨#[114, 107]⟩, .string ⟨#[114]⟩, .string ⟨#[114]⟩, .string ⟨#[]⟩, .string ⟨#[114]⟩]
theorem has_index (op : Int) (h : isOp op = true) (w : World) : (Instr.index 181 (.agg hasRow) (.int .i64 op)).run Try.prog w = .ok (.string (hasStr op)) w := by
  rcases op_cases h with rfl | rfl | rfl | rfl | rfl | rfl | rfl | rfl | rfl | rfl | rfl | rfl | rfl | rfl | rfl | rfl | rfl | rfl
  all_goals kernel_rfl
set_option maxRecDepth 100000 in
set_option maxHeartbeats 1000000 in
theorem has_yes (op : Int) (w : World) (h : isOp op = true) : Calls Try.prog 106 #[.int .i64 op] w fun e w' => e = .returned (.string (hasStr op)) ∧ w = w' := by
  have hi := has_index op h
  unfold hasRow at hi
  have h' := h
  unfold isOp at h'
  simp only [decide_eq_true_eq] at h'
  obtain ⟨h1, h2⟩ := h'
  go_enter Try.func106, Try.ntmps106
  go_wp2
  go_ret
  exact ⟨rfl, rfl⟩

/-- Does a byte stand in a string? -/
def inStr (s : ByteArray) (c : Int) : Bool := s.data.toList.any fun x => (x.toNat : Int) == c
theorem inStr_has (op : Int) (h : isOp op = true) : inStr (hasStr op) 114 = hasR op ∧ inStr (hasStr op) 115 = hasS op ∧ inStr (hasStr op) 107 = hasK op ∧ inStr (hasStr op) 116 = hasT op ∧ inStr (hasStr op) 110 = hasN op ∧ ((hasStr op).toList == [63]) = false ∧ (hasStr op).size ≤ 4 := by
  rcases op_cases h with rfl | rfl | rfl | rfl | rfl | rfl | rfl | rfl | rfl | rfl | rfl | rfl | rfl | rfl | rfl | rfl | rfl | rfl
  all_goals decide +kernel
set_option maxHeartbeats 400000 in
theorem with_any (s : ByteArray) (c : Int) (w : World) (hs : s.size ≤ 1000) : Calls Try.prog 105 #[.string s, .int .u8 c] w fun e w' => e = .returned (.bool (inStr s c)) ∧ w = w' := by
  go_enter Try.func105, Try.ntmps105
  go_wp2
  go_loop [8] (fun i => ∃ k : Nat, k ≤ s.size ∧ i = .int .i64 k ∧ ∀ j (h : j < s.size), j < k → (s[j].toNat : Int) ≠ c) (fun i => s.size - (intOf i).toNat)
  case atStart => exact ⟨0, Nat.zero_le _, rfl, fun j _ h => absurd h (Nat.not_lt_zero j)⟩
  case round =>
    obtain ⟨k, hk, rfl, hno⟩ := hrel
    have HN := Lib.hid hno
    clear hno
    by_cases hlt : k < s.size
    · by_cases hc : (s[k].toNat : Int) = c
      · have e1 : Hid (inStr s c = true) := by
          show inStr s c = true
          unfold inStr
          rw [List.any_eq_true]
          exact ⟨s[k], by rw [show s[k] = s.data[k] from rfl]; exact Array.mem_toList_iff.2 (Array.getElem_mem _), by rw [beq_iff_eq]; exact hc⟩
        have hq : ((s[k].toNat : Int) == c) = true := by rw [beq_iff_eq]; exact hc
        clear hc
        go_wp2
        go_ret
        exact ⟨by rw [e1.out]; rfl, rfl⟩
      · have hq : ((s[k].toNat : Int) == c) = false := by rw [beq_eq_false_iff_ne]; exact hc
        have hno2 : Hid (∀ j (h : j < s.size), j < k + 1 → (s[j].toNat : Int) ≠ c) := fun j hj hj2 => by
          by_cases e : j = k
          · subst e; exact hc
          · exact HN.out j hj (by omega)
        clear hc
        go_wp2
        go_round
        case rel => exact ⟨k + 1, by omega, by go_num, hno2.out⟩
        case measure => simp [intOf]; omega
    · have e1 : Hid (inStr s c = false) := by
        show inStr s c = false
        unfold inStr
        rw [List.any_eq_false]
        intro x hx
        rw [Array.mem_toList_iff] at hx
        obtain ⟨i, hi, rfl⟩ := Array.getElem_of_mem hx
        have := HN.out i hi (by have : i < s.size := hi; omega)
        rw [beq_iff_eq]
        exact this
      go_wp2
      go_ret
      exact ⟨by rw [e1.out]; rfl, rfl⟩

theorem Ends_any (op : Int) (w : World) : Calls Try.prog 54 #[.int .i64 op] w fun e w' => e = .returned (.bool (isEnd op)) ∧ w = w' := by
  have h : isEnd op = (decide (op = 16) || decide (op = 17)) := by unfold isEnd; simp
  rw [h]
  clear h
  by_cases h1 : op = 16
  · subst h1
    go_enter Try.func54, Try.ntmps54
    go_wp2
    go_ret
    exact ⟨rfl, rfl⟩
  by_cases h2 : op = 17
  · subst h2
    go_enter Try.func54, Try.ntmps54
    go_wp2
    go_ret
    exact ⟨rfl, rfl⟩
  have q1 : (op == 16) = false := by rw [beq_eq_false_iff_ne]; exact h1
  have q2 : (op == 17) = false := by rw [beq_eq_false_iff_ne]; exact h2
  go_enter Try.func54, Try.ntmps54
  go_wp2
  go_ret
  exact ⟨by simp [h1, h2], rfl⟩

def regB (n : Int) : Bool := decide (0 ≤ n ∧ n < 10)
theorem reg_any (n : Int) (w : World) : Calls Try.prog 134 #[.int .i64 n] w fun e w' => e = .returned (.bool (regB n)) ∧ w = w' := by
  go_enter Try.func134, Try.ntmps134
  go_wp2
  all_goals
    go_ret
    exact ⟨by simp [regB]; try omega, rfl⟩
theorem isReg_any (n : Int) (w : World) : Calls Try.prog 133 #[.int .i64 n] w fun e w' => e = .returned (.bool (regB n)) ∧ w = w' := by
  go_enter Try.func133, Try.ntmps133
  go_wp2
  all_goals
    go_ret
    exact ⟨by simp [regB]; try omega, rfl⟩
end Go.Proofs.Ytfakdapglbgokaa
