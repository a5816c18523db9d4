/- What the program's sequence numbers answer, in plain numbers. -/
import Derived.Test.YtafnmkbehjbkdaaATKit
set_option linter.unusedVariables false
set_option linter.unusedSimpArgs false
namespace Go.Proofs.Ytafnmkbehjbkdaa.M
open Go Go.RowKit
def sdiff (a b : Int) : Int := (b - a + 2147483648) % 4294967296 - 2147483648
def satw (n : Int) : Int := max (-9223372036854775808) (min n 9223372036854775807)
def unwrapO (base s : Int) : Int := satw (base + sdiff (base % 4294967296) s)
section
variable {R : Type} (cp : Nat → Nat → Bool) (n : Nat)
theorem Diff_k (a b : Int) (k : Int → Option R) : G13 cp (n + 1) a b k = k (sdiff a b) := by
 simp only [G13]
 congr 1
 rw [wu32, wi32, wi64]; unfold sdiff; omega
theorem Sum_k (a b : Int) (k : Int → Option R) (a0 : -9223372036854775808 ≤ a) (a1 : a ≤ 9223372036854775807) (b0 : -9223372036854775808 ≤ b) (b1 : b ≤ 9223372036854775807) : G29 cp (n + 1) a b k = k (satw (a + b)) := by
 simp only [G29, cite]
 have hw := wi64 (a + b)
 have hs : satw (a + b) = max (-9223372036854775808) (min (a + b) 9223372036854775807) := rfl
 generalize wr .i64 (a + b) = z at *
 generalize satw (a + b) = q at *
 repeat' split
 all_goals first | (congr 1; omega) | (exfalso; omega)
theorem Unwrap_k (a s : Int) (k : Int → Option R) (a0 : -9223372036854775808 ≤ a) (a1 : a ≤ 9223372036854775807) : G12 cp (n + 2) a s k = k (unwrapO a s) := by
 simp only [G12]
 rw [Diff_k, wu32, Sum_k _ _ _ _ _ a0 a1 (by unfold sdiff; omega) (by unfold sdiff; omega)]
 rfl
end
end Go.Proofs.Ytafnmkbehjbkdaa.M
