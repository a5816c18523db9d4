/- What the program's sequence numbers answer, in plain numbers. -/
import Derived.Test.YtgadpgeghlhpnaaFTKit
set_option linter.unusedVariables false
set_option linter.unusedSimpArgs false
namespace Go.Proofs.Ytgadpgeghlhpnaa.M
open Go Go.RowKit

/-- How far a number is ahead. -/
def sdiff (a b : Int) : Int := (b - a + 2147483648) % 4294967296 - 2147483648
/-- What a sum within an int is. -/
def satw (n : Int) : Int := max (-9223372036854775808) (min n 9223372036854775807)
def unwrapO (base s : Int) : Int := satw (base + sdiff (base % 4294967296) s)
section
variable {R : Type} (cp : Nat → Nat → Bool) (n : Nat)
end
theorem satw_range (n : Int) : -9223372036854775808 ≤ satw n ∧ satw n ≤ 9223372036854775807 := by unfold satw; omega
end Go.Proofs.Ytgadpgeghlhpnaa.M
