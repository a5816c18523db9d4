/-
  No cell of these rows narrows 'for every input' (looked for: loops, veiled, ifaces, maps, wideKeys, modest, calm, conditions, laid).
  DERIVED. THE GIVEN ROWS OF THIS SEAT. 5 by the template 'for every input the law returns true; each argument reads behind the call as it read before'; 0 by the template 'total and deterministic' (their statements: YtliknmgcnipbkaaTotals.lean).
  GIVEN WITH THE SEED: the statements are not yours to turn. If you find one false, say at which input.
  Laid BY PROGRAM, IN A SANDBOX (cutbox-rows.mjs): the forced cells as the released guide's own fill.sh prints them over the translation 994626c18a4b20ab… (all of the seat's roots in one cut). By AI agents, Wed Nov 11 2026. No macro, syntax, notation, axiom, sorry.
-/
import Derived.Test.YtliknmgcnipbkaaChecked
import GoSem.Claim
import GoSem.ClaimJoined
import GoSem.ClaimMapViews
import Derived.JoinedTies
import Derived.KernelRfl
namespace Go.Proofs.Ytliknmgcnipbkaa
/- THE CELL 'sum', in the pinned program and in every row, IS THE sha256 OF THE DUMP (.gsa) THAT YtliknmgcnipbkaaProg.lean LOADS. Nothing in Lean hashes anything: it is a label: what it is worth is what the hold of that sum in a sandbox is worth. -/
noncomputable def Try.pinned : Pinned := { name := "ytliknmgcnipbkaa", sum := "994626c18a4b20ab5d620f77e4d192ad924a299b113d0e5060cd5bd3af47dcc6", checked := Try.checked }
namespace Rows
def none {H : Type} : Left H := { results := [], args := [] }

/-- 'tidewaylaw16.CubicGrows': WHATEVER THE INPUT: true; the input reads as it did. -/
def cubicGrowsSpec : ChangeSpec := { name := "cubicGrows", fn := fun _ => fun
  | [d1, d2, d3, d4, d5] => { results := [.lit (.bool true)], args := [d1, d2, d3, d4, d5] }
  | _ => none }
def cubicGrowsRow : OpenClaim := { program := "ytliknmgcnipbkaa", sum := "994626c18a4b20ab5d620f77e4d192ad924a299b113d0e5060cd5bd3af47dcc6", func := "tideway/tidewaylaw16.CubicGrows", spec := "cubicGrows", unfollowed := true, recurses := true, named := ["math/bits.divideError", "math/bits.overflowError"], apart := false }
def CubicGrowsSaid : Prop := cubicGrowsRow.holds Try.pinned (OpenSpec.ofChange cubicGrowsSpec)

/-- ITS FALSE NEIGHBOUR: 'it returns false'. Refute it at one input. -/
def cubicGrowsWrong : ChangeSpec := { name := "cubicGrows", fn := fun _ => fun
  | [d1, d2, d3, d4, d5] => { results := [.lit (.bool false)], args := [d1, d2, d3, d4, d5] }
  | _ => none }
def CubicGrowsWrongFalsely : Prop := cubicGrowsRow.holds Try.pinned (OpenSpec.ofChange cubicGrowsWrong)

/-- 'tidewaylaw16.CubicRises': WHATEVER THE INPUT: true; the input reads as it did. -/
def cubicRisesSpec : ChangeSpec := { name := "cubicRises", fn := fun _ => fun
  | [d1, d2, d3, d4] => { results := [.lit (.bool true)], args := [d1, d2, d3, d4] }
  | _ => none }
def cubicRisesRow : OpenClaim := { program := "ytliknmgcnipbkaa", sum := "994626c18a4b20ab5d620f77e4d192ad924a299b113d0e5060cd5bd3af47dcc6", func := "tideway/tidewaylaw16.CubicRises", spec := "cubicRises", unfollowed := true, recurses := true, named := ["math/bits.divideError", "math/bits.overflowError"], apart := false }
def CubicRisesSaid : Prop := cubicRisesRow.holds Try.pinned (OpenSpec.ofChange cubicRisesSpec)

/-- ITS FALSE NEIGHBOUR: 'it returns false'. Refute it at one input. -/
def cubicRisesWrong : ChangeSpec := { name := "cubicRises", fn := fun _ => fun
  | [d1, d2, d3, d4] => { results := [.lit (.bool false)], args := [d1, d2, d3, d4] }
  | _ => none }
def CubicRisesWrongFalsely : Prop := cubicRisesRow.holds Try.pinned (OpenSpec.ofChange cubicRisesWrong)

/-- 'tidewaylaw16.CubicCurve': WHATEVER THE INPUT: true; the input reads as it did. -/
def cubicCurveSpec : ChangeSpec := { name := "cubicCurve", fn := fun _ => fun
  | [d1, d2, d3] => { results := [.lit (.bool true)], args := [d1, d2, d3] }
  | _ => none }
def cubicCurveRow : OpenClaim := { program := "ytliknmgcnipbkaa", sum := "994626c18a4b20ab5d620f77e4d192ad924a299b113d0e5060cd5bd3af47dcc6", func := "tideway/tidewaylaw16.CubicCurve", spec := "cubicCurve", unfollowed := true, recurses := true, named := ["math/bits.divideError", "math/bits.overflowError"], apart := false }
def CubicCurveSaid : Prop := cubicCurveRow.holds Try.pinned (OpenSpec.ofChange cubicCurveSpec)

/-- ITS FALSE NEIGHBOUR: 'it returns false'. Refute it at one input. -/
def cubicCurveWrong : ChangeSpec := { name := "cubicCurve", fn := fun _ => fun
  | [d1, d2, d3] => { results := [.lit (.bool false)], args := [d1, d2, d3] }
  | _ => none }
def CubicCurveWrongFalsely : Prop := cubicCurveRow.holds Try.pinned (OpenSpec.ofChange cubicCurveWrong)

/-- 'tidewaylaw16.CubicBack': WHATEVER THE INPUT: true; the input reads as it did. -/
def cubicBackSpec : ChangeSpec := { name := "cubicBack", fn := fun _ => fun
  | [d] => { results := [.lit (.bool true)], args := [d] }
  | _ => none }
def cubicBackRow : OpenClaim := { program := "ytliknmgcnipbkaa", sum := "994626c18a4b20ab5d620f77e4d192ad924a299b113d0e5060cd5bd3af47dcc6", func := "tideway/tidewaylaw16.CubicBack", spec := "cubicBack", unfollowed := true, recurses := true, named := ["math/bits.divideError", "math/bits.overflowError"], apart := false }
def CubicBackSaid : Prop := cubicBackRow.holds Try.pinned (OpenSpec.ofChange cubicBackSpec)

/-- ITS FALSE NEIGHBOUR: 'it returns false'. Refute it at one input. -/
def cubicBackWrong : ChangeSpec := { name := "cubicBack", fn := fun _ => fun
  | [d] => { results := [.lit (.bool false)], args := [d] }
  | _ => none }
def CubicBackWrongFalsely : Prop := cubicBackRow.holds Try.pinned (OpenSpec.ofChange cubicBackWrong)

/-- 'tidewaylaw16.CubicFalls': WHATEVER THE INPUT: true; the input reads as it did. -/
def cubicFallsSpec : ChangeSpec := { name := "cubicFalls", fn := fun _ => fun
  | [d1, d2, d3] => { results := [.lit (.bool true)], args := [d1, d2, d3] }
  | _ => none }
def cubicFallsRow : OpenClaim := { program := "ytliknmgcnipbkaa", sum := "994626c18a4b20ab5d620f77e4d192ad924a299b113d0e5060cd5bd3af47dcc6", func := "tideway/tidewaylaw16.CubicFalls", spec := "cubicFalls", unfollowed := true, recurses := true, named := ["math/bits.divideError", "math/bits.overflowError"], apart := false }
def CubicFallsSaid : Prop := cubicFallsRow.holds Try.pinned (OpenSpec.ofChange cubicFallsSpec)

/-- ITS FALSE NEIGHBOUR: 'it returns false'. Refute it at one input. -/
def cubicFallsWrong : ChangeSpec := { name := "cubicFalls", fn := fun _ => fun
  | [d1, d2, d3] => { results := [.lit (.bool false)], args := [d1, d2, d3] }
  | _ => none }
def CubicFallsWrongFalsely : Prop := cubicFallsRow.holds Try.pinned (OpenSpec.ofChange cubicFallsWrong)

/- THE SECOND FORM. 'bulk': how many values and letters a reading holds, each counted each time it is reached (what is shared counts as often as it is met; a slice's spare places count too). A statement '..UptoSaid' is the law's where the arguments, and the package variables that the reading takes, are together of bulk at most 1048576: NARROWER than '..Said'. Prove '..Said' where nothing that the law and all that it calls make is longer than what came in: it says more and counts as full. Else prove '..UptoSaid'. A law counts once. -/
mutual
def uptoBulk {H : Type} : DataW H → Nat
  | .lit (.string bytes) => bytes.length + 1
  | .lit _ => 1
  | .nil => 1
  | .ptr d => uptoBulk d + 1
  | .slice elems spare => uptoBulkAll elems + uptoBulkAll spare + 1
  | .agg parts => uptoBulkAll parts + 1
  | .iface _ d => uptoBulk d + 1
  | .map entries => uptoBulkEntries entries + 1
  | .held _ => 1
def uptoBulkAll {H : Type} : List (DataW H) → Nat
  | [] => 0
  | d :: r => uptoBulk d + uptoBulkAll r
def uptoBulkEntries {H : Type} : List (Lit × DataW H) → Nat
  | [] => 0
  | x :: r => uptoBulkEntry x + uptoBulkEntries r
def uptoBulkEntry {H : Type} : Lit × DataW H → Nat
  | (.string bytes, d) => bytes.length + uptoBulk d + 1
  | (_, d) => uptoBulk d + 1
 end
def uptoSmall : (H : Type) → List (DataW H) → Bool := fun _ ds => decide (uptoBulkAll ds ≤ 1048576)
def OpenSpec.upto (s : _root_.Go.ChangeSpec) : _root_.Go.OpenSpec := { _root_.Go.OpenSpec.ofChange s with cond := some uptoSmall }

/-- 'tidewaylaw16.CubicGrows', WHERE WHAT IT READS IS OF BULK AT MOST 1048576: true; the input reads as it did. -/
def cubicGrowsUptoRow : OpenClaim := { program := "ytliknmgcnipbkaa", sum := "994626c18a4b20ab5d620f77e4d192ad924a299b113d0e5060cd5bd3af47dcc6", func := "tideway/tidewaylaw16.CubicGrows", spec := "cubicGrows", unfollowed := true, recurses := true, named := ["math/bits.divideError", "math/bits.overflowError"], apart := false, narrowed := true }
def CubicGrowsUptoSaid : Prop := cubicGrowsUptoRow.holds Try.pinned (OpenSpec.upto cubicGrowsSpec)

/-- 'tidewaylaw16.CubicRises', WHERE WHAT IT READS IS OF BULK AT MOST 1048576: true; the input reads as it did. -/
def cubicRisesUptoRow : OpenClaim := { program := "ytliknmgcnipbkaa", sum := "994626c18a4b20ab5d620f77e4d192ad924a299b113d0e5060cd5bd3af47dcc6", func := "tideway/tidewaylaw16.CubicRises", spec := "cubicRises", unfollowed := true, recurses := true, named := ["math/bits.divideError", "math/bits.overflowError"], apart := false, narrowed := true }
def CubicRisesUptoSaid : Prop := cubicRisesUptoRow.holds Try.pinned (OpenSpec.upto cubicRisesSpec)

/-- 'tidewaylaw16.CubicCurve', WHERE WHAT IT READS IS OF BULK AT MOST 1048576: true; the input reads as it did. -/
def cubicCurveUptoRow : OpenClaim := { program := "ytliknmgcnipbkaa", sum := "994626c18a4b20ab5d620f77e4d192ad924a299b113d0e5060cd5bd3af47dcc6", func := "tideway/tidewaylaw16.CubicCurve", spec := "cubicCurve", unfollowed := true, recurses := true, named := ["math/bits.divideError", "math/bits.overflowError"], apart := false, narrowed := true }
def CubicCurveUptoSaid : Prop := cubicCurveUptoRow.holds Try.pinned (OpenSpec.upto cubicCurveSpec)

/-- 'tidewaylaw16.CubicBack', WHERE WHAT IT READS IS OF BULK AT MOST 1048576: true; the input reads as it did. -/
def cubicBackUptoRow : OpenClaim := { program := "ytliknmgcnipbkaa", sum := "994626c18a4b20ab5d620f77e4d192ad924a299b113d0e5060cd5bd3af47dcc6", func := "tideway/tidewaylaw16.CubicBack", spec := "cubicBack", unfollowed := true, recurses := true, named := ["math/bits.divideError", "math/bits.overflowError"], apart := false, narrowed := true }
def CubicBackUptoSaid : Prop := cubicBackUptoRow.holds Try.pinned (OpenSpec.upto cubicBackSpec)

/-- 'tidewaylaw16.CubicFalls', WHERE WHAT IT READS IS OF BULK AT MOST 1048576: true; the input reads as it did. -/
def cubicFallsUptoRow : OpenClaim := { program := "ytliknmgcnipbkaa", sum := "994626c18a4b20ab5d620f77e4d192ad924a299b113d0e5060cd5bd3af47dcc6", func := "tideway/tidewaylaw16.CubicFalls", spec := "cubicFalls", unfollowed := true, recurses := true, named := ["math/bits.divideError", "math/bits.overflowError"], apart := false, narrowed := true }
def CubicFallsUptoSaid : Prop := cubicFallsUptoRow.holds Try.pinned (OpenSpec.upto cubicFallsSpec)

end Rows
end Go.Proofs.Ytliknmgcnipbkaa
