-- Printed by a session's program (wip/tools/mg3.py) out of the translation. Lean checks it.
import Derived.Test.YtilmdmjhdidoiaaDG0
import Derived.Test.YtilmdmjhdidoiaaMachY
set_option linter.unusedVariables false
namespace Go.Proofs.Ytilmdmjhdidoiaa.M
open Go
namespace LawRecvReads
/-- What is given of a value of this type. -/
def InPiece (M : Nat) (x : SPiece) : Prop := (Rng .i64 x.xFrom) ∧ (x.xData.length ≤ 9223372036854775807 ∧ x.xData.length * 1 ≤ 140737488351232 ∧ x.xData.length ≤ M ∧ ∀ y ∈ x.xData, Rng .u8 y)
/-- What is given of a value of this type. -/
def InSpan (M : Nat) (x : SSpan) : Prop := (Rng .i64 x.xFrom) ∧ (Rng .i64 x.xTo)
/-- What is given of a value of this type. -/
def InRecv (M : Nat) (x : SRecv) : Prop := (Rng .i64 x.xNext) ∧ (x.xUnread.length ≤ 9223372036854775807 ∧ x.xUnread.length * 1 ≤ 140737488351232 ∧ x.xUnread.length ≤ M ∧ ∀ y ∈ x.xUnread, Rng .u8 y) ∧ (x.xLate.length ≤ 9223372036854775807 ∧ x.xLate.length * 32 ≤ 140737488351232 ∧ x.xLate.length ≤ M ∧ ∀ y ∈ x.xLate, InPiece M y) ∧ (Rng .i64 x.xCap) ∧ (Rng .i64 x.xShift) ∧ (Rng .i64 x.xEdge) ∧ (Rng .u32 x.xRecent) ∧ (True) ∧ (True) ∧ (Rng .i64 x.xFin) ∧ (True) ∧ (x.xFirst.length ≤ 9223372036854775807 ∧ x.xFirst.length * 16 ≤ 140737488351232 ∧ x.xFirst.length ≤ M ∧ ∀ y ∈ x.xFirst, InSpan M y) ∧ (Rng .u32 x.xIrs) ∧ (Rng .u32 x.xOwn) ∧ (True)
/-- What is left of the law: over numbers and rows alone. -/
def Pure : Prop := ∀ (M : Nat) (a0 : SRecv) (a1 : Int), (InRecv M a0) → (Rng .i64 a1) → ∃ n, ∀ (R : Type) (k : Bool → Option R), G9 capB n a0 a1 k = k true
end LawRecvReads
end Go.Proofs.Ytilmdmjhdidoiaa.M
