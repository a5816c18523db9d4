-- Printed by a session's program (wip/tools/mg3.py) out of the translation. Lean checks it.
import Derived.Test.YtgadpgeghlhpnaaYG0
import Derived.Test.YtgadpgeghlhpnaaMachY
set_option linter.unusedVariables false
namespace Go.Proofs.Ytgadpgeghlhpnaa.M
open Go
namespace LawBbrSteady

/-- What is left of the law: over numbers and rows alone. -/
def Pure : Prop := ∀ (M : Nat) (a0 : Int) (a1 : Int) (a2 : Int), (Rng .i64 a0) → (Rng .i64 a1) → (Rng .i64 a2) → ∃ n, ∀ (R : Type) (k : Bool → Option R), G_law18_BbrSteady capB n a0 a1 a2 k = k true
end LawBbrSteady
end Go.Proofs.Ytgadpgeghlhpnaa.M
