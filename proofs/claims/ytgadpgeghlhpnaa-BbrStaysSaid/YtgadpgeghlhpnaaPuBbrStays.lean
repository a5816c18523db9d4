-- Printed by a session's program (wip/tools/mg3.py) out of the translation. Lean checks it.
import Derived.Test.YtgadpgeghlhpnaaSG0
import Derived.Test.YtgadpgeghlhpnaaMachY
set_option linter.unusedVariables false
namespace Go.Proofs.Ytgadpgeghlhpnaa.M
open Go
namespace LawBbrStays
/-- What is given of a value of this type. -/
def InSample (M : Nat) (x : SSample) : Prop := (Rng .i64 x.xNow) ∧ (Rng .i64 x.xAcked) ∧ (Rng .i64 x.xRtt) ∧ (Rng .i64 x.xRate) ∧ (True) ∧ (Rng .i64 x.xGiven) ∧ (Rng .i64 x.xBefore) ∧ (Rng .i64 x.xFlight)
/-- What is left of the law: over numbers and rows alone. -/
def Pure : Prop := ∀ (M : Nat) (a0 : Int) (a1 : Int) (a2 : (List SSample)), (Rng .i64 a0) → (Rng .i64 a1) → (a2.length ≤ 9223372036854775807 ∧ a2.length * 64 ≤ 140737488351232 ∧ a2.length ≤ M ∧ ∀ y ∈ a2, InSample M y) → ∃ n, ∀ (R : Type) (k : Bool → Option R), G_law18_BbrStays capB n a0 a1 a2 k = k true
end LawBbrStays
end Go.Proofs.Ytgadpgeghlhpnaa.M
