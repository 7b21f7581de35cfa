/-
  The first index at which something is so; sums of lists: plain, no program in sight. No condition.
-/
import Derived.Test.YtfakdapglbgokaaRd
namespace Go.Proofs.Ytfakdapglbgokaa
set_option linter.all false
open Go.RowKit

/-- The first index below n at which p is so; n: there is none. -/
def firstN (p : Nat → Bool) : Nat → Nat
  | 0 => 0
  | n + 1 => if firstN p n < n then firstN p n else if p n then n else n + 1
theorem firstN_le (p : Nat → Bool) (n : Nat) : firstN p n ≤ n := by
  induction n with
  | zero => simp [firstN]
  | succ n ih => simp only [firstN]; repeat' split
                 all_goals omega
theorem firstN_before (p : Nat → Bool) (n i : Nat) (h : i < firstN p n) : p i = false := by
  induction n with
  | zero => simp [firstN] at h
  | succ n ih =>
    have hle := firstN_le p n
    simp only [firstN] at h
    split at h
    · exact ih h
    · split at h
      · exact ih (by omega)
      · rename_i h1 h2
        by_cases hi : i = n
        · subst hi; simpa using h2
        · exact ih (by omega)
theorem firstN_at (p : Nat → Bool) (n : Nat) (h : firstN p n < n) : p (firstN p n) = true := by
  induction n with
  | zero => simp [firstN] at h
  | succ n ih =>
    simp only [firstN] at h ⊢
    split
    · rename_i h1; exact ih h1
    · split
      · assumption
      · rename_i h1 h2; rw [if_neg h1, if_neg h2] at h; omega
theorem firstN_eq (p : Nat → Bool) (n i : Nat) (h : ∀ j, j < i → p j = false) (hp : p i = true) (hi : i < n) : firstN p n = i := by
  rcases Nat.lt_trichotomy (firstN p n) i with hlt | he | hgt
  · have := firstN_at p n (by omega)
    rw [h _ hlt] at this; cases this
  · exact he
  · have := firstN_before p n i hgt
    rw [hp] at this; cases this
theorem firstN_none (p : Nat → Bool) (n : Nat) (h : ∀ j, j < n → p j = false) : firstN p n = n := by
  have hle := firstN_le p n
  by_cases hlt : firstN p n < n
  · have := firstN_at p n hlt
    rw [h _ hlt] at this; cases this
  · omega
theorem firstN_all (p : Nat → Bool) (n : Nat) (h : firstN p n = n) : ∀ j, j < n → p j = false := fun j hj => firstN_before p n j (by omega)

/-- The sum of the first so many numbers. -/
def sumTo (l : List Int) : Nat → Int
  | 0 => 0
  | i + 1 => sumTo l i + el l i

end Go.Proofs.Ytfakdapglbgokaa
