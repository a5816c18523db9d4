/-
  No cell of these rows narrows 'for every input' (looked for: loops, veiled, ifaces, maps, wideKeys, modest, calm, conditions, laid).
  DERIVED. THE GIVEN ROWS OF THIS SEAT. 6 by the template 'for every input the law returns true; each argument reads behind the call as it read before'; 0 by the template 'total and deterministic' (their statements: YtpebhhpmcjaioaaTotals.lean).
  GIVEN WITH THE SEED: the statements are not yours to turn. If you find one false, say at which input.
  Laid BY PROGRAM, IN A SANDBOX (cutbox-rows.mjs): the forced cells as the released guide's own fill.sh prints them over the translation b75a4c98224f2a03… (all of the seat's roots in one cut). By AI agents, Wed Nov 11 2026. No macro, syntax, notation, axiom, sorry.
-/
import Derived.Test.YtpebhhpmcjaioaaChecked
import GoSem.Claim
import GoSem.ClaimJoined
import GoSem.ClaimMapViews
import Derived.JoinedTies
import Derived.KernelRfl
namespace Go.Proofs.Ytpebhhpmcjaioaa
/- THE CELL 'sum', in the pinned program and in every row, IS THE sha256 OF THE DUMP (.gsa) THAT YtpebhhpmcjaioaaProg.lean LOADS. Nothing in Lean hashes anything: it is a label: what it is worth is what the hold of that sum in a sandbox is worth. -/
noncomputable def Try.pinned : Pinned := { name := "ytpebhhpmcjaioaa", sum := "b75a4c98224f2a0380b70ad396e111408a0b4985571f65d7bae34c75666fa09a", checked := Try.checked }
namespace Rows
def none {H : Type} : Left H := { results := [], args := [] }

/-- 'tidewaylaw01.SeqReckons': WHATEVER THE INPUT: true; the input reads as it did. -/
def seqReckonsSpec : ChangeSpec := { name := "seqReckons", fn := fun _ => fun
  | [d1, d2, d3] => { results := [.lit (.bool true)], args := [d1, d2, d3] }
  | _ => none }
def seqReckonsRow : OpenClaim := { program := "ytpebhhpmcjaioaa", sum := "b75a4c98224f2a0380b70ad396e111408a0b4985571f65d7bae34c75666fa09a", func := "tideway/tidewaylaw01.SeqReckons", spec := "seqReckons", named := ["math/bits.divideError", "math/bits.overflowError"], apart := false }
def SeqReckonsSaid : Prop := seqReckonsRow.holds Try.pinned (OpenSpec.ofChange seqReckonsSpec)

/-- ITS FALSE NEIGHBOUR: 'it returns false'. Refute it at one input. -/
def seqReckonsWrong : ChangeSpec := { name := "seqReckons", fn := fun _ => fun
  | [d1, d2, d3] => { results := [.lit (.bool false)], args := [d1, d2, d3] }
  | _ => none }
def SeqReckonsWrongFalsely : Prop := seqReckonsRow.holds Try.pinned (OpenSpec.ofChange seqReckonsWrong)

/-- 'tidewaylaw01.SeqBack': WHATEVER THE INPUT: true; the input reads as it did. -/
def seqBackSpec : ChangeSpec := { name := "seqBack", fn := fun _ => fun
  | [d1, d2] => { results := [.lit (.bool true)], args := [d1, d2] }
  | _ => none }
def seqBackRow : OpenClaim := { program := "ytpebhhpmcjaioaa", sum := "b75a4c98224f2a0380b70ad396e111408a0b4985571f65d7bae34c75666fa09a", func := "tideway/tidewaylaw01.SeqBack", spec := "seqBack", named := ["math/bits.divideError", "math/bits.overflowError"], apart := false }
def SeqBackSaid : Prop := seqBackRow.holds Try.pinned (OpenSpec.ofChange seqBackSpec)

/-- ITS FALSE NEIGHBOUR: 'it returns false'. Refute it at one input. -/
def seqBackWrong : ChangeSpec := { name := "seqBack", fn := fun _ => fun
  | [d1, d2] => { results := [.lit (.bool false)], args := [d1, d2] }
  | _ => none }
def SeqBackWrongFalsely : Prop := seqBackRow.holds Try.pinned (OpenSpec.ofChange seqBackWrong)

/-- 'tidewaylaw01.SeqTurns': WHATEVER THE INPUT: true; the input reads as it did. -/
def seqTurnsSpec : ChangeSpec := { name := "seqTurns", fn := fun _ => fun
  | [d1, d2] => { results := [.lit (.bool true)], args := [d1, d2] }
  | _ => none }
def seqTurnsRow : OpenClaim := { program := "ytpebhhpmcjaioaa", sum := "b75a4c98224f2a0380b70ad396e111408a0b4985571f65d7bae34c75666fa09a", func := "tideway/tidewaylaw01.SeqTurns", spec := "seqTurns", named := ["math/bits.divideError", "math/bits.overflowError"], apart := false }
def SeqTurnsSaid : Prop := seqTurnsRow.holds Try.pinned (OpenSpec.ofChange seqTurnsSpec)

/-- ITS FALSE NEIGHBOUR: 'it returns false'. Refute it at one input. -/
def seqTurnsWrong : ChangeSpec := { name := "seqTurns", fn := fun _ => fun
  | [d1, d2] => { results := [.lit (.bool false)], args := [d1, d2] }
  | _ => none }
def SeqTurnsWrongFalsely : Prop := seqTurnsRow.holds Try.pinned (OpenSpec.ofChange seqTurnsWrong)

/-- 'tidewaylaw01.SeqExact': WHATEVER THE INPUT: true; the input reads as it did. -/
def seqExactSpec : ChangeSpec := { name := "seqExact", fn := fun _ => fun
  | [d1, d2, d3] => { results := [.lit (.bool true)], args := [d1, d2, d3] }
  | _ => none }
def seqExactRow : OpenClaim := { program := "ytpebhhpmcjaioaa", sum := "b75a4c98224f2a0380b70ad396e111408a0b4985571f65d7bae34c75666fa09a", func := "tideway/tidewaylaw01.SeqExact", spec := "seqExact", named := ["math/bits.divideError", "math/bits.overflowError"], apart := false }
def SeqExactSaid : Prop := seqExactRow.holds Try.pinned (OpenSpec.ofChange seqExactSpec)

/-- ITS FALSE NEIGHBOUR: 'it returns false'. Refute it at one input. -/
def seqExactWrong : ChangeSpec := { name := "seqExact", fn := fun _ => fun
  | [d1, d2, d3] => { results := [.lit (.bool false)], args := [d1, d2, d3] }
  | _ => none }
def SeqExactWrongFalsely : Prop := seqExactRow.holds Try.pinned (OpenSpec.ofChange seqExactWrong)

/-- 'tidewaylaw01.SeqCompares': WHATEVER THE INPUT: true; the input reads as it did. -/
def seqComparesSpec : ChangeSpec := { name := "seqCompares", fn := fun _ => fun
  | [d1, d2, d3, d4] => { results := [.lit (.bool true)], args := [d1, d2, d3, d4] }
  | _ => none }
def seqComparesRow : OpenClaim := { program := "ytpebhhpmcjaioaa", sum := "b75a4c98224f2a0380b70ad396e111408a0b4985571f65d7bae34c75666fa09a", func := "tideway/tidewaylaw01.SeqCompares", spec := "seqCompares", named := ["math/bits.divideError", "math/bits.overflowError"], apart := false }
def SeqComparesSaid : Prop := seqComparesRow.holds Try.pinned (OpenSpec.ofChange seqComparesSpec)

/-- ITS FALSE NEIGHBOUR: 'it returns false'. Refute it at one input. -/
def seqComparesWrong : ChangeSpec := { name := "seqCompares", fn := fun _ => fun
  | [d1, d2, d3, d4] => { results := [.lit (.bool false)], args := [d1, d2, d3, d4] }
  | _ => none }
def SeqComparesWrongFalsely : Prop := seqComparesRow.holds Try.pinned (OpenSpec.ofChange seqComparesWrong)

/-- 'tidewaylaw01.SeqUnwraps': WHATEVER THE INPUT: true; the input reads as it did. -/
def seqUnwrapsSpec : ChangeSpec := { name := "seqUnwraps", fn := fun _ => fun
  | [d1, d2, d3, d4] => { results := [.lit (.bool true)], args := [d1, d2, d3, d4] }
  | _ => none }
def seqUnwrapsRow : OpenClaim := { program := "ytpebhhpmcjaioaa", sum := "b75a4c98224f2a0380b70ad396e111408a0b4985571f65d7bae34c75666fa09a", func := "tideway/tidewaylaw01.SeqUnwraps", spec := "seqUnwraps", named := ["math/bits.divideError", "math/bits.overflowError"], apart := false }
def SeqUnwrapsSaid : Prop := seqUnwrapsRow.holds Try.pinned (OpenSpec.ofChange seqUnwrapsSpec)

/-- ITS FALSE NEIGHBOUR: 'it returns false'. Refute it at one input. -/
def seqUnwrapsWrong : ChangeSpec := { name := "seqUnwraps", fn := fun _ => fun
  | [d1, d2, d3, d4] => { results := [.lit (.bool false)], args := [d1, d2, d3, d4] }
  | _ => none }
def SeqUnwrapsWrongFalsely : Prop := seqUnwrapsRow.holds Try.pinned (OpenSpec.ofChange seqUnwrapsWrong)

/- THE SECOND FORM. 'bulk': how many values and letters a reading holds, each counted each time it is reached (what is shared counts as often as it is met; a slice's spare places count too). A statement '..UptoSaid' is the law's where the arguments, and the package variables that the reading takes, are together of bulk at most 1048576: NARROWER than '..Said'. Prove '..Said' where nothing that the law and all that it calls make is longer than what came in: it says more and counts as full. Else prove '..UptoSaid'. A law counts once. -/
mutual
def uptoBulk {H : Type} : DataW H → Nat
  | .lit (.string bytes) => bytes.length + 1
  | .lit _ => 1
  | .nil => 1
  | .ptr d => uptoBulk d + 1
  | .slice elems spare => uptoBulkAll elems + uptoBulkAll spare + 1
  | .agg parts => uptoBulkAll parts + 1
  | .iface _ d => uptoBulk d + 1
  | .map entries => uptoBulkEntries entries + 1
  | .held _ => 1
def uptoBulkAll {H : Type} : List (DataW H) → Nat
  | [] => 0
  | d :: r => uptoBulk d + uptoBulkAll r
def uptoBulkEntries {H : Type} : List (Lit × DataW H) → Nat
  | [] => 0
  | x :: r => uptoBulkEntry x + uptoBulkEntries r
def uptoBulkEntry {H : Type} : Lit × DataW H → Nat
  | (.string bytes, d) => bytes.length + uptoBulk d + 1
  | (_, d) => uptoBulk d + 1
 end
def uptoSmall : (H : Type) → List (DataW H) → Bool := fun _ ds => decide (uptoBulkAll ds ≤ 1048576)
def OpenSpec.upto (s : _root_.Go.ChangeSpec) : _root_.Go.OpenSpec := { _root_.Go.OpenSpec.ofChange s with cond := some uptoSmall }

/-- 'tidewaylaw01.SeqReckons', WHERE WHAT IT READS IS OF BULK AT MOST 1048576: true; the input reads as it did. -/
def seqReckonsUptoRow : OpenClaim := { program := "ytpebhhpmcjaioaa", sum := "b75a4c98224f2a0380b70ad396e111408a0b4985571f65d7bae34c75666fa09a", func := "tideway/tidewaylaw01.SeqReckons", spec := "seqReckons", named := ["math/bits.divideError", "math/bits.overflowError"], apart := false, narrowed := true }
def SeqReckonsUptoSaid : Prop := seqReckonsUptoRow.holds Try.pinned (OpenSpec.upto seqReckonsSpec)

/-- 'tidewaylaw01.SeqBack', WHERE WHAT IT READS IS OF BULK AT MOST 1048576: true; the input reads as it did. -/
def seqBackUptoRow : OpenClaim := { program := "ytpebhhpmcjaioaa", sum := "b75a4c98224f2a0380b70ad396e111408a0b4985571f65d7bae34c75666fa09a", func := "tideway/tidewaylaw01.SeqBack", spec := "seqBack", named := ["math/bits.divideError", "math/bits.overflowError"], apart := false, narrowed := true }
def SeqBackUptoSaid : Prop := seqBackUptoRow.holds Try.pinned (OpenSpec.upto seqBackSpec)

/-- 'tidewaylaw01.SeqTurns', WHERE WHAT IT READS IS OF BULK AT MOST 1048576: true; the input reads as it did. -/
def seqTurnsUptoRow : OpenClaim := { program := "ytpebhhpmcjaioaa", sum := "b75a4c98224f2a0380b70ad396e111408a0b4985571f65d7bae34c75666fa09a", func := "tideway/tidewaylaw01.SeqTurns", spec := "seqTurns", named := ["math/bits.divideError", "math/bits.overflowError"], apart := false, narrowed := true }
def SeqTurnsUptoSaid : Prop := seqTurnsUptoRow.holds Try.pinned (OpenSpec.upto seqTurnsSpec)

/-- 'tidewaylaw01.SeqExact', WHERE WHAT IT READS IS OF BULK AT MOST 1048576: true; the input reads as it did. -/
def seqExactUptoRow : OpenClaim := { program := "ytpebhhpmcjaioaa", sum := "b75a4c98224f2a0380b70ad396e111408a0b4985571f65d7bae34c75666fa09a", func := "tideway/tidewaylaw01.SeqExact", spec := "seqExact", named := ["math/bits.divideError", "math/bits.overflowError"], apart := false, narrowed := true }
def SeqExactUptoSaid : Prop := seqExactUptoRow.holds Try.pinned (OpenSpec.upto seqExactSpec)

/-- 'tidewaylaw01.SeqCompares', WHERE WHAT IT READS IS OF BULK AT MOST 1048576: true; the input reads as it did. -/
def seqComparesUptoRow : OpenClaim := { program := "ytpebhhpmcjaioaa", sum := "b75a4c98224f2a0380b70ad396e111408a0b4985571f65d7bae34c75666fa09a", func := "tideway/tidewaylaw01.SeqCompares", spec := "seqCompares", named := ["math/bits.divideError", "math/bits.overflowError"], apart := false, narrowed := true }
def SeqComparesUptoSaid : Prop := seqComparesUptoRow.holds Try.pinned (OpenSpec.upto seqComparesSpec)

/-- 'tidewaylaw01.SeqUnwraps', WHERE WHAT IT READS IS OF BULK AT MOST 1048576: true; the input reads as it did. -/
def seqUnwrapsUptoRow : OpenClaim := { program := "ytpebhhpmcjaioaa", sum := "b75a4c98224f2a0380b70ad396e111408a0b4985571f65d7bae34c75666fa09a", func := "tideway/tidewaylaw01.SeqUnwraps", spec := "seqUnwraps", named := ["math/bits.divideError", "math/bits.overflowError"], apart := false, narrowed := true }
def SeqUnwrapsUptoSaid : Prop := seqUnwrapsUptoRow.holds Try.pinned (OpenSpec.upto seqUnwrapsSpec)

end Rows
end Go.Proofs.Ytpebhhpmcjaioaa
