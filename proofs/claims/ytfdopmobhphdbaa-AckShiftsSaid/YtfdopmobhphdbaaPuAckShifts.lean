-- Printed by a session's program (wip/tools/mg3.py) out of the translation. Lean checks it.
import Derived.Test.YtfdopmobhphdbaaG0
import Derived.Test.YtfdopmobhphdbaaMachY
set_option linter.unusedVariables false
namespace Go.Proofs.Ytfdopmobhphdbaa.M
open Go
namespace LawAckShifts
/-- What is given of a value of this type. -/
def InAsked (M : Nat) (x : SAsked) : Prop := (Rng .i64 x.xUna) ∧ (Rng .i64 x.xNext) ∧ (Rng .u32 x.xIss) ∧ (Rng .i64 x.xPeer) ∧ (Rng .u32 x.xIrs) ∧ (True) ∧ (Rng .u32 x.xRecent) ∧ (Rng .u32 x.xNow) ∧ (True)
/-- What is given of a value of this type. -/
def InBlock (M : Nat) (x : SBlock) : Prop := (Rng .u32 x.xFrom) ∧ (Rng .u32 x.xTo)
/-- What is given of a value of this type. -/
def InSegment (M : Nat) (x : SSegment) : Prop := (Rng .i64 x.xSrcPort) ∧ (Rng .i64 x.xDstPort) ∧ (Rng .u32 x.xSeq) ∧ (Rng .u32 x.xAck) ∧ (Rng .i64 x.xFlags) ∧ (Rng .i64 x.xWin) ∧ (Rng .i64 x.xUrg) ∧ (Rng .i64 x.xMss) ∧ (Rng .i64 x.xScale) ∧ (True) ∧ (True) ∧ (Rng .u32 x.xVal) ∧ (Rng .u32 x.xEcr) ∧ (x.xSacks.length ≤ 9223372036854775807 ∧ x.xSacks.length * 8 ≤ 140737488351232 ∧ x.xSacks.length ≤ M ∧ ∀ y ∈ x.xSacks, InBlock M y) ∧ (x.xData.length ≤ 9223372036854775807 ∧ x.xData.length * 1 ≤ 140737488351232 ∧ x.xData.length ≤ M ∧ ∀ y ∈ x.xData, Rng .u8 y)
/-- What is left of the law: over numbers and rows alone. -/
def Pure : Prop := ∀ (M : Nat) (a0 : SAsked) (a1 : SSegment) (a2 : Int) (a3 : Int), (InAsked M a0) → (InSegment M a1) → (Rng .u32 a2) → (Rng .u32 a3) → ∃ n, ∀ (R : Type) (k : Bool → Option R), G_law22_AckShifts capB n a0 a1 a2 a3 k = k true
end LawAckShifts
end Go.Proofs.Ytfdopmobhphdbaa.M
