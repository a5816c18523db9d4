-- Printed by a session's program (wip/tools/mg3.py) out of the translation. Lean checks it.
import Derived.Test.YtgnoidblkenglaaNG0
import Derived.Test.YtgnoidblkenglaaMachY
set_option linter.unusedVariables false
namespace Go.Proofs.Ytgnoidblkenglaa.M
open Go
namespace LawCcBegins

/-- What is left of the law: over numbers and rows alone. -/
def Pure : Prop := ∀ (M : Nat) (a0 : Int) (a1 : Int) (a2 : Int), (Rng .i64 a0) → (Rng .i64 a1) → (Rng .i64 a2) → ∃ n, ∀ (R : Type) (k : Bool → Option R), G_law19_CcBegins capB n a0 a1 a2 k = k true
end LawCcBegins
end Go.Proofs.Ytgnoidblkenglaa.M
