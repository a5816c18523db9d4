-- Printed by a session's program (wip/tools/mg3.py) out of the translation. Lean checks it.
import Derived.Test.YtliknmgcnipbkaaBG0
import Derived.Test.YtliknmgcnipbkaaMachY
set_option linter.unusedVariables false
namespace Go.Proofs.Ytliknmgcnipbkaa.M
open Go
namespace LawCubicBack

/-- What is left of the law: over numbers and rows alone. -/
def Pure : Prop := ∀ (M : Nat) (a0 : Int), (Rng .i64 a0) → ∃ n, ∀ (R : Type) (k : Bool → Option R), G_law16_CubicBack capB n a0 k = k true
end LawCubicBack
end Go.Proofs.Ytliknmgcnipbkaa.M
