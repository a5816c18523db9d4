-- Printed by a session's program (wip/tools/mg3.py) out of the translation. Lean checks it.
import Derived.Test.YtilmdmjhdidoiaaSG0
import Derived.Test.YtilmdmjhdidoiaaMachY
set_option linter.unusedVariables false
namespace Go.Proofs.Ytilmdmjhdidoiaa.M
open Go
namespace LawRecvOrders

/-- What is left of the law: over numbers and rows alone. -/
def Pure : Prop := ∀ (M : Nat) (a0 : (List Int)) (a1 : Int) (a2 : (List Int)) (a3 : (List Int)), (a0.length ≤ 9223372036854775807 ∧ a0.length * 1 ≤ 140737488351232 ∧ a0.length ≤ M ∧ ∀ y ∈ a0, Rng .u8 y) → (Rng .u32 a1) → (a2.length ≤ 9223372036854775807 ∧ a2.length * 8 ≤ 140737488351232 ∧ a2.length ≤ M ∧ ∀ y ∈ a2, Rng .i64 y) → (a3.length ≤ 9223372036854775807 ∧ a3.length * 8 ≤ 140737488351232 ∧ a3.length ≤ M ∧ ∀ y ∈ a3, Rng .i64 y) → ∃ n, ∀ (R : Type) (k : Bool → Option R), G6 capB n a0 a1 a2 a3 k = k true
end LawRecvOrders
end Go.Proofs.Ytilmdmjhdidoiaa.M
