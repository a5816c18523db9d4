/-
  No cell of these rows narrows 'for every input' (looked for: loops, veiled, ifaces, maps, wideKeys, modest, calm, conditions, laid).
  DERIVED. THE GIVEN ROWS OF THIS SEAT. 3 by the template 'for every input the law returns true; each argument reads behind the call as it read before'; 0 by the template 'total and deterministic' (their statements: YtfdopmobhphdbaaTotals.lean).
  GIVEN WITH THE SEED: the statements are not yours to turn. If you find one false, say at which input.
  Laid BY PROGRAM, IN A SANDBOX (cutbox-rows.mjs): the forced cells as the released guide's own fill.sh prints them over the translation 4e4ba8e64357a17b… (all of the seat's roots in one cut). By AI agents, Wed Nov 11 2026. No macro, syntax, notation, axiom, sorry.
-/
import Derived.Test.YtfdopmobhphdbaaChecked
import GoSem.Claim
import GoSem.ClaimJoined
import GoSem.ClaimMapViews
import Derived.JoinedTies
import Derived.KernelRfl
namespace Go.Proofs.Ytfdopmobhphdbaa
/- THE CELL 'sum', in the pinned program and in every row, IS THE sha256 OF THE DUMP (.gsa) THAT YtfdopmobhphdbaaProg.lean LOADS. Nothing in Lean hashes anything: it is a label: what it is worth is what the hold of that sum in a sandbox is worth. -/
noncomputable def Try.pinned : Pinned := { name := "ytfdopmobhphdbaa", sum := "4e4ba8e64357a17b62d28b9c400988eac3439eeab964848c645a5b9c59da663c", checked := Try.checked }
namespace Rows
def none {H : Type} : Left H := { results := [], args := [] }

/-- 'tidewaylaw22.AckPlain': WHATEVER THE INPUT: true; the input reads as it did. -/
def ackPlainSpec : ChangeSpec := { name := "ackPlain", fn := fun _ => fun
  | [d1, d2] => { results := [.lit (.bool true)], args := [d1, d2] }
  | _ => none }
def ackPlainRow : OpenClaim := { program := "ytfdopmobhphdbaa", sum := "4e4ba8e64357a17b62d28b9c400988eac3439eeab964848c645a5b9c59da663c", func := "tideway/tidewaylaw22.AckPlain", spec := "ackPlain", unfollowed := true, recurses := true, apart := false }
def AckPlainSaid : Prop := ackPlainRow.holds Try.pinned (OpenSpec.ofChange ackPlainSpec)

/-- ITS FALSE NEIGHBOUR: 'it returns false'. Refute it at one input. -/
def ackPlainWrong : ChangeSpec := { name := "ackPlain", fn := fun _ => fun
  | [d1, d2] => { results := [.lit (.bool false)], args := [d1, d2] }
  | _ => none }
def AckPlainWrongFalsely : Prop := ackPlainRow.holds Try.pinned (OpenSpec.ofChange ackPlainWrong)

/-- 'tidewaylaw22.AckWithin': WHATEVER THE INPUT: true; the input reads as it did. -/
def ackWithinSpec : ChangeSpec := { name := "ackWithin", fn := fun _ => fun
  | [d1, d2] => { results := [.lit (.bool true)], args := [d1, d2] }
  | _ => none }
def ackWithinRow : OpenClaim := { program := "ytfdopmobhphdbaa", sum := "4e4ba8e64357a17b62d28b9c400988eac3439eeab964848c645a5b9c59da663c", func := "tideway/tidewaylaw22.AckWithin", spec := "ackWithin", unfollowed := true, recurses := true, apart := false }
def AckWithinSaid : Prop := ackWithinRow.holds Try.pinned (OpenSpec.ofChange ackWithinSpec)

/-- ITS FALSE NEIGHBOUR: 'it returns false'. Refute it at one input. -/
def ackWithinWrong : ChangeSpec := { name := "ackWithin", fn := fun _ => fun
  | [d1, d2] => { results := [.lit (.bool false)], args := [d1, d2] }
  | _ => none }
def AckWithinWrongFalsely : Prop := ackWithinRow.holds Try.pinned (OpenSpec.ofChange ackWithinWrong)

/-- 'tidewaylaw22.AckShifts': WHATEVER THE INPUT: true; the input reads as it did. -/
def ackShiftsSpec : ChangeSpec := { name := "ackShifts", fn := fun _ => fun
  | [d1, d2, d3, d4] => { results := [.lit (.bool true)], args := [d1, d2, d3, d4] }
  | _ => none }
def ackShiftsRow : OpenClaim := { program := "ytfdopmobhphdbaa", sum := "4e4ba8e64357a17b62d28b9c400988eac3439eeab964848c645a5b9c59da663c", func := "tideway/tidewaylaw22.AckShifts", spec := "ackShifts", unfollowed := true, recurses := true, apart := false }
def AckShiftsSaid : Prop := ackShiftsRow.holds Try.pinned (OpenSpec.ofChange ackShiftsSpec)

/-- ITS FALSE NEIGHBOUR: 'it returns false'. Refute it at one input. -/
def ackShiftsWrong : ChangeSpec := { name := "ackShifts", fn := fun _ => fun
  | [d1, d2, d3, d4] => { results := [.lit (.bool false)], args := [d1, d2, d3, d4] }
  | _ => none }
def AckShiftsWrongFalsely : Prop := ackShiftsRow.holds Try.pinned (OpenSpec.ofChange ackShiftsWrong)

/- THE SECOND FORM. 'bulk': how many values and letters a reading holds, each counted each time it is reached (what is shared counts as often as it is met; a slice's spare places count too). A statement '..UptoSaid' is the law's where the arguments, and the package variables that the reading takes, are together of bulk at most 1048576: NARROWER than '..Said'. Prove '..Said' where nothing that the law and all that it calls make is longer than what came in: it says more and counts as full. Else prove '..UptoSaid'. A law counts once. -/
mutual
def uptoBulk {H : Type} : DataW H → Nat
  | .lit (.string bytes) => bytes.length + 1
  | .lit _ => 1
  | .nil => 1
  | .ptr d => uptoBulk d + 1
  | .slice elems spare => uptoBulkAll elems + uptoBulkAll spare + 1
  | .agg parts => uptoBulkAll parts + 1
  | .iface _ d => uptoBulk d + 1
  | .map entries => uptoBulkEntries entries + 1
  | .held _ => 1
def uptoBulkAll {H : Type} : List (DataW H) → Nat
  | [] => 0
  | d :: r => uptoBulk d + uptoBulkAll r
def uptoBulkEntries {H : Type} : List (Lit × DataW H) → Nat
  | [] => 0
  | x :: r => uptoBulkEntry x + uptoBulkEntries r
def uptoBulkEntry {H : Type} : Lit × DataW H → Nat
  | (.string bytes, d) => bytes.length + uptoBulk d + 1
  | (_, d) => uptoBulk d + 1
 end
def uptoSmall : (H : Type) → List (DataW H) → Bool := fun _ ds => decide (uptoBulkAll ds ≤ 1048576)
def OpenSpec.upto (s : _root_.Go.ChangeSpec) : _root_.Go.OpenSpec := { _root_.Go.OpenSpec.ofChange s with cond := some uptoSmall }

/-- 'tidewaylaw22.AckPlain', WHERE WHAT IT READS IS OF BULK AT MOST 1048576: true; the input reads as it did. -/
def ackPlainUptoRow : OpenClaim := { program := "ytfdopmobhphdbaa", sum := "4e4ba8e64357a17b62d28b9c400988eac3439eeab964848c645a5b9c59da663c", func := "tideway/tidewaylaw22.AckPlain", spec := "ackPlain", unfollowed := true, recurses := true, apart := false, narrowed := true }
def AckPlainUptoSaid : Prop := ackPlainUptoRow.holds Try.pinned (OpenSpec.upto ackPlainSpec)

/-- 'tidewaylaw22.AckWithin', WHERE WHAT IT READS IS OF BULK AT MOST 1048576: true; the input reads as it did. -/
def ackWithinUptoRow : OpenClaim := { program := "ytfdopmobhphdbaa", sum := "4e4ba8e64357a17b62d28b9c400988eac3439eeab964848c645a5b9c59da663c", func := "tideway/tidewaylaw22.AckWithin", spec := "ackWithin", unfollowed := true, recurses := true, apart := false, narrowed := true }
def AckWithinUptoSaid : Prop := ackWithinUptoRow.holds Try.pinned (OpenSpec.upto ackWithinSpec)

/-- 'tidewaylaw22.AckShifts', WHERE WHAT IT READS IS OF BULK AT MOST 1048576: true; the input reads as it did. -/
def ackShiftsUptoRow : OpenClaim := { program := "ytfdopmobhphdbaa", sum := "4e4ba8e64357a17b62d28b9c400988eac3439eeab964848c645a5b9c59da663c", func := "tideway/tidewaylaw22.AckShifts", spec := "ackShifts", unfollowed := true, recurses := true, apart := false, narrowed := true }
def AckShiftsUptoSaid : Prop := ackShiftsUptoRow.holds Try.pinned (OpenSpec.upto ackShiftsSpec)

end Rows
end Go.Proofs.Ytfdopmobhphdbaa
