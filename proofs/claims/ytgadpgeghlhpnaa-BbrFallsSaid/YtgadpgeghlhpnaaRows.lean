/-
  No cell of these rows narrows 'for every input' (looked for: loops, veiled, ifaces, maps, wideKeys, modest, calm, conditions, laid).
  DERIVED. THE GIVEN ROWS OF THIS SEAT. 4 by the template 'for every input the law returns true; each argument reads behind the call as it read before'; 0 by the template 'total and deterministic' (their statements: YtgadpgeghlhpnaaTotals.lean).
  GIVEN WITH THE SEED: the statements are not yours to turn. If you find one false, say at which input.
  Laid BY PROGRAM, IN A SANDBOX (cutbox-rows.mjs): the forced cells as the released guide's own fill.sh prints them over the translation 249bc12432acd62a… (all of the seat's roots in one cut). By AI agents, Wed Nov 11 2026. No macro, syntax, notation, axiom, sorry.
-/
import Derived.Test.YtgadpgeghlhpnaaChecked
import GoSem.Claim
import GoSem.ClaimJoined
import GoSem.ClaimMapViews
import Derived.JoinedTies
import Derived.KernelRfl
namespace Go.Proofs.Ytgadpgeghlhpnaa
/- THE CELL 'sum', in the pinned program and in every row, IS THE sha256 OF THE DUMP (.gsa) THAT YtgadpgeghlhpnaaProg.lean LOADS. Nothing in Lean hashes anything: it is a label: what it is worth is what the hold of that sum in a sandbox is worth. -/
noncomputable def Try.pinned : Pinned := { name := "ytgadpgeghlhpnaa", sum := "249bc12432acd62aeb07c6af4d62123b61ed5547a039fe0274c9195b2c7caf3e", checked := Try.checked }
namespace Rows
def none {H : Type} : Left H := { results := [], args := [] }

/-- 'tidewaylaw18.BbrFalls': WHATEVER THE INPUT: true; the input reads as it did. -/
def bbrFallsSpec : ChangeSpec := { name := "bbrFalls", fn := fun _ => fun
  | [d1, d2, d3] => { results := [.lit (.bool true)], args := [d1, d2, d3] }
  | _ => none }
def bbrFallsRow : OpenClaim := { program := "ytgadpgeghlhpnaa", sum := "249bc12432acd62aeb07c6af4d62123b61ed5547a039fe0274c9195b2c7caf3e", func := "tideway/tidewaylaw18.BbrFalls", spec := "bbrFalls", named := ["math/bits.divideError", "math/bits.overflowError"], apart := false }
def BbrFallsSaid : Prop := bbrFallsRow.holds Try.pinned (OpenSpec.ofChange bbrFallsSpec)

/-- ITS FALSE NEIGHBOUR: 'it returns false'. Refute it at one input. -/
def bbrFallsWrong : ChangeSpec := { name := "bbrFalls", fn := fun _ => fun
  | [d1, d2, d3] => { results := [.lit (.bool false)], args := [d1, d2, d3] }
  | _ => none }
def BbrFallsWrongFalsely : Prop := bbrFallsRow.holds Try.pinned (OpenSpec.ofChange bbrFallsWrong)

/-- 'tidewaylaw18.BbrStays': WHATEVER THE INPUT: true; the input reads as it did. -/
def bbrStaysSpec : ChangeSpec := { name := "bbrStays", fn := fun _ => fun
  | [d1, d2, d3] => { results := [.lit (.bool true)], args := [d1, d2, d3] }
  | _ => none }
def bbrStaysRow : OpenClaim := { program := "ytgadpgeghlhpnaa", sum := "249bc12432acd62aeb07c6af4d62123b61ed5547a039fe0274c9195b2c7caf3e", func := "tideway/tidewaylaw18.BbrStays", spec := "bbrStays", named := ["math/bits.divideError", "math/bits.overflowError"], apart := false }
def BbrStaysSaid : Prop := bbrStaysRow.holds Try.pinned (OpenSpec.ofChange bbrStaysSpec)

/-- ITS FALSE NEIGHBOUR: 'it returns false'. Refute it at one input. -/
def bbrStaysWrong : ChangeSpec := { name := "bbrStays", fn := fun _ => fun
  | [d1, d2, d3] => { results := [.lit (.bool false)], args := [d1, d2, d3] }
  | _ => none }
def BbrStaysWrongFalsely : Prop := bbrStaysRow.holds Try.pinned (OpenSpec.ofChange bbrStaysWrong)

/-- 'tidewaylaw18.BbrSteady': WHATEVER THE INPUT: true; the input reads as it did. -/
def bbrSteadySpec : ChangeSpec := { name := "bbrSteady", fn := fun _ => fun
  | [d1, d2, d3] => { results := [.lit (.bool true)], args := [d1, d2, d3] }
  | _ => none }
def bbrSteadyRow : OpenClaim := { program := "ytgadpgeghlhpnaa", sum := "249bc12432acd62aeb07c6af4d62123b61ed5547a039fe0274c9195b2c7caf3e", func := "tideway/tidewaylaw18.BbrSteady", spec := "bbrSteady", named := ["math/bits.divideError", "math/bits.overflowError"], apart := false }
def BbrSteadySaid : Prop := bbrSteadyRow.holds Try.pinned (OpenSpec.ofChange bbrSteadySpec)

/-- ITS FALSE NEIGHBOUR: 'it returns false'. Refute it at one input. -/
def bbrSteadyWrong : ChangeSpec := { name := "bbrSteady", fn := fun _ => fun
  | [d1, d2, d3] => { results := [.lit (.bool false)], args := [d1, d2, d3] }
  | _ => none }
def BbrSteadyWrongFalsely : Prop := bbrSteadyRow.holds Try.pinned (OpenSpec.ofChange bbrSteadyWrong)

/-- 'tidewaylaw18.BbrProbes': WHATEVER THE INPUT: true; the input reads as it did. -/
def bbrProbesSpec : ChangeSpec := { name := "bbrProbes", fn := fun _ => fun
  | [d1, d2] => { results := [.lit (.bool true)], args := [d1, d2] }
  | _ => none }
def bbrProbesRow : OpenClaim := { program := "ytgadpgeghlhpnaa", sum := "249bc12432acd62aeb07c6af4d62123b61ed5547a039fe0274c9195b2c7caf3e", func := "tideway/tidewaylaw18.BbrProbes", spec := "bbrProbes", named := ["math/bits.divideError", "math/bits.overflowError"], apart := false }
def BbrProbesSaid : Prop := bbrProbesRow.holds Try.pinned (OpenSpec.ofChange bbrProbesSpec)

/-- ITS FALSE NEIGHBOUR: 'it returns false'. Refute it at one input. -/
def bbrProbesWrong : ChangeSpec := { name := "bbrProbes", fn := fun _ => fun
  | [d1, d2] => { results := [.lit (.bool false)], args := [d1, d2] }
  | _ => none }
def BbrProbesWrongFalsely : Prop := bbrProbesRow.holds Try.pinned (OpenSpec.ofChange bbrProbesWrong)

/- THE SECOND FORM. 'bulk': how many values and letters a reading holds, each counted each time it is reached (what is shared counts as often as it is met; a slice's spare places count too). A statement '..UptoSaid' is the law's where the arguments, and the package variables that the reading takes, are together of bulk at most 1048576: NARROWER than '..Said'. Prove '..Said' where nothing that the law and all that it calls make is longer than what came in: it says more and counts as full. Else prove '..UptoSaid'. A law counts once. -/
mutual
def uptoBulk {H : Type} : DataW H → Nat
  | .lit (.string bytes) => bytes.length + 1
  | .lit _ => 1
  | .nil => 1
  | .ptr d => uptoBulk d + 1
  | .slice elems spare => uptoBulkAll elems + uptoBulkAll spare + 1
  | .agg parts => uptoBulkAll parts + 1
  | .iface _ d => uptoBulk d + 1
  | .map entries => uptoBulkEntries entries + 1
  | .held _ => 1
def uptoBulkAll {H : Type} : List (DataW H) → Nat
  | [] => 0
  | d :: r => uptoBulk d + uptoBulkAll r
def uptoBulkEntries {H : Type} : List (Lit × DataW H) → Nat
  | [] => 0
  | x :: r => uptoBulkEntry x + uptoBulkEntries r
def uptoBulkEntry {H : Type} : Lit × DataW H → Nat
  | (.string bytes, d) => bytes.length + uptoBulk d + 1
  | (_, d) => uptoBulk d + 1
 end
def uptoSmall : (H : Type) → List (DataW H) → Bool := fun _ ds => decide (uptoBulkAll ds ≤ 1048576)
def OpenSpec.upto (s : _root_.Go.ChangeSpec) : _root_.Go.OpenSpec := { _root_.Go.OpenSpec.ofChange s with cond := some uptoSmall }

/-- 'tidewaylaw18.BbrFalls', WHERE WHAT IT READS IS OF BULK AT MOST 1048576: true; the input reads as it did. -/
def bbrFallsUptoRow : OpenClaim := { program := "ytgadpgeghlhpnaa", sum := "249bc12432acd62aeb07c6af4d62123b61ed5547a039fe0274c9195b2c7caf3e", func := "tideway/tidewaylaw18.BbrFalls", spec := "bbrFalls", named := ["math/bits.divideError", "math/bits.overflowError"], apart := false, narrowed := true }
def BbrFallsUptoSaid : Prop := bbrFallsUptoRow.holds Try.pinned (OpenSpec.upto bbrFallsSpec)

/-- 'tidewaylaw18.BbrStays', WHERE WHAT IT READS IS OF BULK AT MOST 1048576: true; the input reads as it did. -/
def bbrStaysUptoRow : OpenClaim := { program := "ytgadpgeghlhpnaa", sum := "249bc12432acd62aeb07c6af4d62123b61ed5547a039fe0274c9195b2c7caf3e", func := "tideway/tidewaylaw18.BbrStays", spec := "bbrStays", named := ["math/bits.divideError", "math/bits.overflowError"], apart := false, narrowed := true }
def BbrStaysUptoSaid : Prop := bbrStaysUptoRow.holds Try.pinned (OpenSpec.upto bbrStaysSpec)

/-- 'tidewaylaw18.BbrSteady', WHERE WHAT IT READS IS OF BULK AT MOST 1048576: true; the input reads as it did. -/
def bbrSteadyUptoRow : OpenClaim := { program := "ytgadpgeghlhpnaa", sum := "249bc12432acd62aeb07c6af4d62123b61ed5547a039fe0274c9195b2c7caf3e", func := "tideway/tidewaylaw18.BbrSteady", spec := "bbrSteady", named := ["math/bits.divideError", "math/bits.overflowError"], apart := false, narrowed := true }
def BbrSteadyUptoSaid : Prop := bbrSteadyUptoRow.holds Try.pinned (OpenSpec.upto bbrSteadySpec)

/-- 'tidewaylaw18.BbrProbes', WHERE WHAT IT READS IS OF BULK AT MOST 1048576: true; the input reads as it did. -/
def bbrProbesUptoRow : OpenClaim := { program := "ytgadpgeghlhpnaa", sum := "249bc12432acd62aeb07c6af4d62123b61ed5547a039fe0274c9195b2c7caf3e", func := "tideway/tidewaylaw18.BbrProbes", spec := "bbrProbes", named := ["math/bits.divideError", "math/bits.overflowError"], apart := false, narrowed := true }
def BbrProbesUptoSaid : Prop := bbrProbesUptoRow.holds Try.pinned (OpenSpec.upto bbrProbesSpec)

end Rows
end Go.Proofs.Ytgadpgeghlhpnaa
