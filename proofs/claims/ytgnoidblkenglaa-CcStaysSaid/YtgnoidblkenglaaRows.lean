/-
  No cell of these rows narrows 'for every input' (looked for: loops, veiled, ifaces, maps, wideKeys, modest, calm, conditions, laid).
  DERIVED. THE GIVEN ROWS OF THIS SEAT. 4 by the template 'for every input the law returns true; each argument reads behind the call as it read before'; 0 by the template 'total and deterministic' (their statements: YtgnoidblkenglaaTotals.lean).
  GIVEN WITH THE SEED: the statements are not yours to turn. If you find one false, say at which input.
  Laid BY PROGRAM, IN A SANDBOX (cutbox-rows.mjs): the forced cells as the released guide's own fill.sh prints them over the translation c33d3ee0ff2285a8… (all of the seat's roots in one cut). By AI agents, Wed Nov 11 2026. No macro, syntax, notation, axiom, sorry.
-/
import Derived.Test.YtgnoidblkenglaaChecked
import GoSem.Claim
import GoSem.ClaimJoined
import GoSem.ClaimMapViews
import Derived.JoinedTies
import Derived.KernelRfl
namespace Go.Proofs.Ytgnoidblkenglaa
/- THE CELL 'sum', in the pinned program and in every row, IS THE sha256 OF THE DUMP (.gsa) THAT YtgnoidblkenglaaProg.lean LOADS. Nothing in Lean hashes anything: it is a label: what it is worth is what the hold of that sum in a sandbox is worth. -/
noncomputable def Try.pinned : Pinned := { name := "ytgnoidblkenglaa", sum := "c33d3ee0ff2285a8cf1e1f8c9a3eaa5b78a5bd50820a2aed56e5defea9ea602a", checked := Try.checked }
namespace Rows
def none {H : Type} : Left H := { results := [], args := [] }

/-- 'tidewaylaw19.CcBegins': WHATEVER THE INPUT: true; the input reads as it did. -/
def ccBeginsSpec : ChangeSpec := { name := "ccBegins", fn := fun _ => fun
  | [d1, d2, d3] => { results := [.lit (.bool true)], args := [d1, d2, d3] }
  | _ => none }
def ccBeginsRow : OpenClaim := { program := "ytgnoidblkenglaa", sum := "c33d3ee0ff2285a8cf1e1f8c9a3eaa5b78a5bd50820a2aed56e5defea9ea602a", func := "tideway/tidewaylaw19.CcBegins", spec := "ccBegins", named := ["math/bits.divideError", "math/bits.overflowError"], apart := false }
def CcBeginsSaid : Prop := ccBeginsRow.holds Try.pinned (OpenSpec.ofChange ccBeginsSpec)

/-- ITS FALSE NEIGHBOUR: 'it returns false'. Refute it at one input. -/
def ccBeginsWrong : ChangeSpec := { name := "ccBegins", fn := fun _ => fun
  | [d1, d2, d3] => { results := [.lit (.bool false)], args := [d1, d2, d3] }
  | _ => none }
def CcBeginsWrongFalsely : Prop := ccBeginsRow.holds Try.pinned (OpenSpec.ofChange ccBeginsWrong)

/-- 'tidewaylaw19.CcRestLess': WHATEVER THE INPUT: true; the input reads as it did. -/
def ccRestLessSpec : ChangeSpec := { name := "ccRestLess", fn := fun _ => fun
  | [d1, d2, d3, d4] => { results := [.lit (.bool true)], args := [d1, d2, d3, d4] }
  | _ => none }
def ccRestLessRow : OpenClaim := { program := "ytgnoidblkenglaa", sum := "c33d3ee0ff2285a8cf1e1f8c9a3eaa5b78a5bd50820a2aed56e5defea9ea602a", func := "tideway/tidewaylaw19.CcRestLess", spec := "ccRestLess", named := ["math/bits.divideError", "math/bits.overflowError"], apart := false }
def CcRestLessSaid : Prop := ccRestLessRow.holds Try.pinned (OpenSpec.ofChange ccRestLessSpec)

/-- ITS FALSE NEIGHBOUR: 'it returns false'. Refute it at one input. -/
def ccRestLessWrong : ChangeSpec := { name := "ccRestLess", fn := fun _ => fun
  | [d1, d2, d3, d4] => { results := [.lit (.bool false)], args := [d1, d2, d3, d4] }
  | _ => none }
def CcRestLessWrongFalsely : Prop := ccRestLessRow.holds Try.pinned (OpenSpec.ofChange ccRestLessWrong)

/-- 'tidewaylaw19.CcRests': WHATEVER THE INPUT: true; the input reads as it did. -/
def ccRestsSpec : ChangeSpec := { name := "ccRests", fn := fun _ => fun
  | [d1, d2, d3, d4] => { results := [.lit (.bool true)], args := [d1, d2, d3, d4] }
  | _ => none }
def ccRestsRow : OpenClaim := { program := "ytgnoidblkenglaa", sum := "c33d3ee0ff2285a8cf1e1f8c9a3eaa5b78a5bd50820a2aed56e5defea9ea602a", func := "tideway/tidewaylaw19.CcRests", spec := "ccRests", named := ["math/bits.divideError", "math/bits.overflowError"], apart := false }
def CcRestsSaid : Prop := ccRestsRow.holds Try.pinned (OpenSpec.ofChange ccRestsSpec)

/-- ITS FALSE NEIGHBOUR: 'it returns false'. Refute it at one input. -/
def ccRestsWrong : ChangeSpec := { name := "ccRests", fn := fun _ => fun
  | [d1, d2, d3, d4] => { results := [.lit (.bool false)], args := [d1, d2, d3, d4] }
  | _ => none }
def CcRestsWrongFalsely : Prop := ccRestsRow.holds Try.pinned (OpenSpec.ofChange ccRestsWrong)

/-- 'tidewaylaw19.CcStays': WHATEVER THE INPUT: true; the input reads as it did. -/
def ccStaysSpec : ChangeSpec := { name := "ccStays", fn := fun _ => fun
  | [d1, d2, d3, d4] => { results := [.lit (.bool true)], args := [d1, d2, d3, d4] }
  | _ => none }
def ccStaysRow : OpenClaim := { program := "ytgnoidblkenglaa", sum := "c33d3ee0ff2285a8cf1e1f8c9a3eaa5b78a5bd50820a2aed56e5defea9ea602a", func := "tideway/tidewaylaw19.CcStays", spec := "ccStays", unfollowed := true, recurses := true, named := ["math/bits.divideError", "math/bits.overflowError"], apart := false }
def CcStaysSaid : Prop := ccStaysRow.holds Try.pinned (OpenSpec.ofChange ccStaysSpec)

/-- ITS FALSE NEIGHBOUR: 'it returns false'. Refute it at one input. -/
def ccStaysWrong : ChangeSpec := { name := "ccStays", fn := fun _ => fun
  | [d1, d2, d3, d4] => { results := [.lit (.bool false)], args := [d1, d2, d3, d4] }
  | _ => none }
def CcStaysWrongFalsely : Prop := ccStaysRow.holds Try.pinned (OpenSpec.ofChange ccStaysWrong)

/- THE SECOND FORM. 'bulk': how many values and letters a reading holds, each counted each time it is reached (what is shared counts as often as it is met; a slice's spare places count too). A statement '..UptoSaid' is the law's where the arguments, and the package variables that the reading takes, are together of bulk at most 1048576: NARROWER than '..Said'. Prove '..Said' where nothing that the law and all that it calls make is longer than what came in: it says more and counts as full. Else prove '..UptoSaid'. A law counts once. -/
mutual
def uptoBulk {H : Type} : DataW H → Nat
  | .lit (.string bytes) => bytes.length + 1
  | .lit _ => 1
  | .nil => 1
  | .ptr d => uptoBulk d + 1
  | .slice elems spare => uptoBulkAll elems + uptoBulkAll spare + 1
  | .agg parts => uptoBulkAll parts + 1
  | .iface _ d => uptoBulk d + 1
  | .map entries => uptoBulkEntries entries + 1
  | .held _ => 1
def uptoBulkAll {H : Type} : List (DataW H) → Nat
  | [] => 0
  | d :: r => uptoBulk d + uptoBulkAll r
def uptoBulkEntries {H : Type} : List (Lit × DataW H) → Nat
  | [] => 0
  | x :: r => uptoBulkEntry x + uptoBulkEntries r
def uptoBulkEntry {H : Type} : Lit × DataW H → Nat
  | (.string bytes, d) => bytes.length + uptoBulk d + 1
  | (_, d) => uptoBulk d + 1
 end
def uptoSmall : (H : Type) → List (DataW H) → Bool := fun _ ds => decide (uptoBulkAll ds ≤ 1048576)
def OpenSpec.upto (s : _root_.Go.ChangeSpec) : _root_.Go.OpenSpec := { _root_.Go.OpenSpec.ofChange s with cond := some uptoSmall }

/-- 'tidewaylaw19.CcBegins', WHERE WHAT IT READS IS OF BULK AT MOST 1048576: true; the input reads as it did. -/
def ccBeginsUptoRow : OpenClaim := { program := "ytgnoidblkenglaa", sum := "c33d3ee0ff2285a8cf1e1f8c9a3eaa5b78a5bd50820a2aed56e5defea9ea602a", func := "tideway/tidewaylaw19.CcBegins", spec := "ccBegins", named := ["math/bits.divideError", "math/bits.overflowError"], apart := false, narrowed := true }
def CcBeginsUptoSaid : Prop := ccBeginsUptoRow.holds Try.pinned (OpenSpec.upto ccBeginsSpec)

/-- 'tidewaylaw19.CcRestLess', WHERE WHAT IT READS IS OF BULK AT MOST 1048576: true; the input reads as it did. -/
def ccRestLessUptoRow : OpenClaim := { program := "ytgnoidblkenglaa", sum := "c33d3ee0ff2285a8cf1e1f8c9a3eaa5b78a5bd50820a2aed56e5defea9ea602a", func := "tideway/tidewaylaw19.CcRestLess", spec := "ccRestLess", named := ["math/bits.divideError", "math/bits.overflowError"], apart := false, narrowed := true }
def CcRestLessUptoSaid : Prop := ccRestLessUptoRow.holds Try.pinned (OpenSpec.upto ccRestLessSpec)

/-- 'tidewaylaw19.CcRests', WHERE WHAT IT READS IS OF BULK AT MOST 1048576: true; the input reads as it did. -/
def ccRestsUptoRow : OpenClaim := { program := "ytgnoidblkenglaa", sum := "c33d3ee0ff2285a8cf1e1f8c9a3eaa5b78a5bd50820a2aed56e5defea9ea602a", func := "tideway/tidewaylaw19.CcRests", spec := "ccRests", named := ["math/bits.divideError", "math/bits.overflowError"], apart := false, narrowed := true }
def CcRestsUptoSaid : Prop := ccRestsUptoRow.holds Try.pinned (OpenSpec.upto ccRestsSpec)

/-- 'tidewaylaw19.CcStays', WHERE WHAT IT READS IS OF BULK AT MOST 1048576: true; the input reads as it did. -/
def ccStaysUptoRow : OpenClaim := { program := "ytgnoidblkenglaa", sum := "c33d3ee0ff2285a8cf1e1f8c9a3eaa5b78a5bd50820a2aed56e5defea9ea602a", func := "tideway/tidewaylaw19.CcStays", spec := "ccStays", unfollowed := true, recurses := true, named := ["math/bits.divideError", "math/bits.overflowError"], apart := false, narrowed := true }
def CcStaysUptoSaid : Prop := ccStaysUptoRow.holds Try.pinned (OpenSpec.upto ccStaysSpec)

end Rows
end Go.Proofs.Ytgnoidblkenglaa
