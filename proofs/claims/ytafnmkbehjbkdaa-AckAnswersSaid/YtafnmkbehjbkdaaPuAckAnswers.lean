-- Printed by a session's program (wip/tools/mg3.py) out of the translation. Lean checks it.
import Derived.Test.YtafnmkbehjbkdaaAG0
import Derived.Test.YtafnmkbehjbkdaaMachY
set_option linter.unusedVariables false
namespace Go.Proofs.Ytafnmkbehjbkdaa.M
open Go
namespace LawAckAnswers

/-- What is left of the law: over numbers and rows alone. -/
def Pure : Prop := ∀ (M : Nat) (a0 : Int) (a1 : (List Int)) (a2 : (List Int)), (Rng .u32 a0) → (a1.length ≤ 9223372036854775807 ∧ a1.length * 8 ≤ 140737488351232 ∧ a1.length ≤ M ∧ ∀ y ∈ a1, Rng .i64 y) → (a2.length ≤ 9223372036854775807 ∧ a2.length * 1 ≤ 140737488351232 ∧ a2.length ≤ M ∧ ∀ y ∈ a2, Rng .u8 y) → ∃ n, ∀ (R : Type) (k : Bool → Option R), G3 capB n a0 a1 a2 k = k true
end LawAckAnswers
end Go.Proofs.Ytafnmkbehjbkdaa.M
