/-
  No cell of these rows narrows 'for every input' (looked for: loops, veiled, ifaces, maps, wideKeys, modest, calm, conditions, laid).
  DERIVED. THE GIVEN ROWS OF THIS SEAT. 7 by the template 'for every input the law returns true; each argument reads behind the call as it read before'; 0 by the template 'total and deterministic' (their statements: YtilmdmjhdidoiaaTotals.lean).
  GIVEN WITH THE SEED: the statements are not yours to turn. If you find one false, say at which input.
  Laid BY PROGRAM, IN A SANDBOX (cutbox-rows.mjs): the forced cells as the released guide's own fill.sh prints them over the translation 6e61c2b2a408e006… (all of the seat's roots in one cut). By AI agents, Wed Nov 11 2026. No macro, syntax, notation, axiom, sorry.
-/
import Derived.Test.YtilmdmjhdidoiaaChecked
import GoSem.Claim
import GoSem.ClaimJoined
import GoSem.ClaimMapViews
import Derived.JoinedTies
import Derived.KernelRfl
namespace Go.Proofs.Ytilmdmjhdidoiaa
/- THE CELL 'sum', in the pinned program and in every row, IS THE sha256 OF THE DUMP (.gsa) THAT YtilmdmjhdidoiaaProg.lean LOADS. Nothing in Lean hashes anything: it is a label: what it is worth is what the hold of that sum in a sandbox is worth. -/
noncomputable def Try.pinned : Pinned := { name := "ytilmdmjhdidoiaa", sum := "6e61c2b2a408e0064fe3705bc4faae863d996a2c36dedc1e4012981cd811186a", checked := Try.checked }
namespace Rows
def none {H : Type} : Left H := { results := [], args := [] }

/-- 'tidewaylaw08.RecvOld': WHATEVER THE INPUT: true; the input reads as it did. -/
def recvOldSpec : ChangeSpec := { name := "recvOld", fn := fun _ => fun
  | [d1, d2, d3] => { results := [.lit (.bool true)], args := [d1, d2, d3] }
  | _ => none }
def recvOldRow : OpenClaim := { program := "ytilmdmjhdidoiaa", sum := "6e61c2b2a408e0064fe3705bc4faae863d996a2c36dedc1e4012981cd811186a", func := "tideway/tidewaylaw08.RecvOld", spec := "recvOld", inPlace := ["slices.overlaps[tideway/api.Piece]"], unfollowed := true, recurses := true, apart := false }
def RecvOldSaid : Prop := recvOldRow.holds Try.pinned (OpenSpec.ofChange recvOldSpec)

/-- ITS FALSE NEIGHBOUR: 'it returns false'. Refute it at one input. -/
def recvOldWrong : ChangeSpec := { name := "recvOld", fn := fun _ => fun
  | [d1, d2, d3] => { results := [.lit (.bool false)], args := [d1, d2, d3] }
  | _ => none }
def RecvOldWrongFalsely : Prop := recvOldRow.holds Try.pinned (OpenSpec.ofChange recvOldWrong)

/-- 'tidewaylaw08.RecvInputs': WHATEVER THE INPUT: true; the input reads as it did. -/
def recvInputsSpec : ChangeSpec := { name := "recvInputs", fn := fun _ => fun
  | [d1, d2] => { results := [.lit (.bool true)], args := [d1, d2] }
  | _ => none }
def recvInputsRow : OpenClaim := { program := "ytilmdmjhdidoiaa", sum := "6e61c2b2a408e0064fe3705bc4faae863d996a2c36dedc1e4012981cd811186a", func := "tideway/tidewaylaw08.RecvInputs", spec := "recvInputs", inPlace := ["slices.overlaps[tideway/api.Piece]"], unfollowed := true, recurses := true, apart := false }
def RecvInputsSaid : Prop := recvInputsRow.holds Try.pinned (OpenSpec.ofChange recvInputsSpec)

/-- ITS FALSE NEIGHBOUR: 'it returns false'. Refute it at one input. -/
def recvInputsWrong : ChangeSpec := { name := "recvInputs", fn := fun _ => fun
  | [d1, d2] => { results := [.lit (.bool false)], args := [d1, d2] }
  | _ => none }
def RecvInputsWrongFalsely : Prop := recvInputsRow.holds Try.pinned (OpenSpec.ofChange recvInputsWrong)

/-- 'tidewaylaw08.RecvBegins': WHATEVER THE INPUT: true; the input reads as it did. -/
def recvBeginsSpec : ChangeSpec := { name := "recvBegins", fn := fun _ => fun
  | [d1, d2, d3, d4] => { results := [.lit (.bool true)], args := [d1, d2, d3, d4] }
  | _ => none }
def recvBeginsRow : OpenClaim := { program := "ytilmdmjhdidoiaa", sum := "6e61c2b2a408e0064fe3705bc4faae863d996a2c36dedc1e4012981cd811186a", func := "tideway/tidewaylaw08.RecvBegins", spec := "recvBegins", inPlace := ["slices.overlaps[tideway/api.Piece]"], unfollowed := true, recurses := true, apart := false }
def RecvBeginsSaid : Prop := recvBeginsRow.holds Try.pinned (OpenSpec.ofChange recvBeginsSpec)

/-- ITS FALSE NEIGHBOUR: 'it returns false'. Refute it at one input. -/
def recvBeginsWrong : ChangeSpec := { name := "recvBegins", fn := fun _ => fun
  | [d1, d2, d3, d4] => { results := [.lit (.bool false)], args := [d1, d2, d3, d4] }
  | _ => none }
def RecvBeginsWrongFalsely : Prop := recvBeginsRow.holds Try.pinned (OpenSpec.ofChange recvBeginsWrong)

/-- 'tidewaylaw08.RecvOrders': WHATEVER THE INPUT: true; the input reads as it did. -/
def recvOrdersSpec : ChangeSpec := { name := "recvOrders", fn := fun _ => fun
  | [d1, d2, d3, d4] => { results := [.lit (.bool true)], args := [d1, d2, d3, d4] }
  | _ => none }
def recvOrdersRow : OpenClaim := { program := "ytilmdmjhdidoiaa", sum := "6e61c2b2a408e0064fe3705bc4faae863d996a2c36dedc1e4012981cd811186a", func := "tideway/tidewaylaw08.RecvOrders", spec := "recvOrders", inPlace := ["slices.overlaps[tideway/api.Piece]"], unfollowed := true, recurses := true, apart := false }
def RecvOrdersSaid : Prop := recvOrdersRow.holds Try.pinned (OpenSpec.ofChange recvOrdersSpec)

/-- ITS FALSE NEIGHBOUR: 'it returns false'. Refute it at one input. -/
def recvOrdersWrong : ChangeSpec := { name := "recvOrders", fn := fun _ => fun
  | [d1, d2, d3, d4] => { results := [.lit (.bool false)], args := [d1, d2, d3, d4] }
  | _ => none }
def RecvOrdersWrongFalsely : Prop := recvOrdersRow.holds Try.pinned (OpenSpec.ofChange recvOrdersWrong)

/-- 'tidewaylaw08.RecvTwice': WHATEVER THE INPUT: true; the input reads as it did. -/
def recvTwiceSpec : ChangeSpec := { name := "recvTwice", fn := fun _ => fun
  | [d1, d2] => { results := [.lit (.bool true)], args := [d1, d2] }
  | _ => none }
def recvTwiceRow : OpenClaim := { program := "ytilmdmjhdidoiaa", sum := "6e61c2b2a408e0064fe3705bc4faae863d996a2c36dedc1e4012981cd811186a", func := "tideway/tidewaylaw08.RecvTwice", spec := "recvTwice", inPlace := ["slices.overlaps[tideway/api.Piece]"], unfollowed := true, recurses := true, apart := false }
def RecvTwiceSaid : Prop := recvTwiceRow.holds Try.pinned (OpenSpec.ofChange recvTwiceSpec)

/-- ITS FALSE NEIGHBOUR: 'it returns false'. Refute it at one input. -/
def recvTwiceWrong : ChangeSpec := { name := "recvTwice", fn := fun _ => fun
  | [d1, d2] => { results := [.lit (.bool false)], args := [d1, d2] }
  | _ => none }
def RecvTwiceWrongFalsely : Prop := recvTwiceRow.holds Try.pinned (OpenSpec.ofChange recvTwiceWrong)

/-- 'tidewaylaw08.RecvWindow': WHATEVER THE INPUT: true; the input reads as it did. -/
def recvWindowSpec : ChangeSpec := { name := "recvWindow", fn := fun _ => fun
  | [d1, d2] => { results := [.lit (.bool true)], args := [d1, d2] }
  | _ => none }
def recvWindowRow : OpenClaim := { program := "ytilmdmjhdidoiaa", sum := "6e61c2b2a408e0064fe3705bc4faae863d996a2c36dedc1e4012981cd811186a", func := "tideway/tidewaylaw08.RecvWindow", spec := "recvWindow", inPlace := ["slices.overlaps[tideway/api.Piece]"], unfollowed := true, recurses := true, apart := false }
def RecvWindowSaid : Prop := recvWindowRow.holds Try.pinned (OpenSpec.ofChange recvWindowSpec)

/-- ITS FALSE NEIGHBOUR: 'it returns false'. Refute it at one input. -/
def recvWindowWrong : ChangeSpec := { name := "recvWindow", fn := fun _ => fun
  | [d1, d2] => { results := [.lit (.bool false)], args := [d1, d2] }
  | _ => none }
def RecvWindowWrongFalsely : Prop := recvWindowRow.holds Try.pinned (OpenSpec.ofChange recvWindowWrong)

/-- 'tidewaylaw08.RecvReads': WHATEVER THE INPUT: true; the input reads as it did. -/
def recvReadsSpec : ChangeSpec := { name := "recvReads", fn := fun _ => fun
  | [d1, d2] => { results := [.lit (.bool true)], args := [d1, d2] }
  | _ => none }
def recvReadsRow : OpenClaim := { program := "ytilmdmjhdidoiaa", sum := "6e61c2b2a408e0064fe3705bc4faae863d996a2c36dedc1e4012981cd811186a", func := "tideway/tidewaylaw08.RecvReads", spec := "recvReads", inPlace := ["slices.overlaps[tideway/api.Piece]"], unfollowed := true, recurses := true, apart := false }
def RecvReadsSaid : Prop := recvReadsRow.holds Try.pinned (OpenSpec.ofChange recvReadsSpec)

/-- ITS FALSE NEIGHBOUR: 'it returns false'. Refute it at one input. -/
def recvReadsWrong : ChangeSpec := { name := "recvReads", fn := fun _ => fun
  | [d1, d2] => { results := [.lit (.bool false)], args := [d1, d2] }
  | _ => none }
def RecvReadsWrongFalsely : Prop := recvReadsRow.holds Try.pinned (OpenSpec.ofChange recvReadsWrong)

/- THE SECOND FORM. 'bulk': how many values and letters a reading holds, each counted each time it is reached (what is shared counts as often as it is met; a slice's spare places count too). A statement '..UptoSaid' is the law's where the arguments, and the package variables that the reading takes, are together of bulk at most 1048576: NARROWER than '..Said'. Prove '..Said' where nothing that the law and all that it calls make is longer than what came in: it says more and counts as full. Else prove '..UptoSaid'. A law counts once. -/
mutual
def uptoBulk {H : Type} : DataW H → Nat
  | .lit (.string bytes) => bytes.length + 1
  | .lit _ => 1
  | .nil => 1
  | .ptr d => uptoBulk d + 1
  | .slice elems spare => uptoBulkAll elems + uptoBulkAll spare + 1
  | .agg parts => uptoBulkAll parts + 1
  | .iface _ d => uptoBulk d + 1
  | .map entries => uptoBulkEntries entries + 1
  | .held _ => 1
def uptoBulkAll {H : Type} : List (DataW H) → Nat
  | [] => 0
  | d :: r => uptoBulk d + uptoBulkAll r
def uptoBulkEntries {H : Type} : List (Lit × DataW H) → Nat
  | [] => 0
  | x :: r => uptoBulkEntry x + uptoBulkEntries r
def uptoBulkEntry {H : Type} : Lit × DataW H → Nat
  | (.string bytes, d) => bytes.length + uptoBulk d + 1
  | (_, d) => uptoBulk d + 1
 end
def uptoSmall : (H : Type) → List (DataW H) → Bool := fun _ ds => decide (uptoBulkAll ds ≤ 1048576)
def OpenSpec.upto (s : _root_.Go.ChangeSpec) : _root_.Go.OpenSpec := { _root_.Go.OpenSpec.ofChange s with cond := some uptoSmall }

/-- 'tidewaylaw08.RecvOld', WHERE WHAT IT READS IS OF BULK AT MOST 1048576: true; the input reads as it did. -/
def recvOldUptoRow : OpenClaim := { program := "ytilmdmjhdidoiaa", sum := "6e61c2b2a408e0064fe3705bc4faae863d996a2c36dedc1e4012981cd811186a", func := "tideway/tidewaylaw08.RecvOld", spec := "recvOld", inPlace := ["slices.overlaps[tideway/api.Piece]"], unfollowed := true, recurses := true, apart := false, narrowed := true }
def RecvOldUptoSaid : Prop := recvOldUptoRow.holds Try.pinned (OpenSpec.upto recvOldSpec)

/-- 'tidewaylaw08.RecvInputs', WHERE WHAT IT READS IS OF BULK AT MOST 1048576: true; the input reads as it did. -/
def recvInputsUptoRow : OpenClaim := { program := "ytilmdmjhdidoiaa", sum := "6e61c2b2a408e0064fe3705bc4faae863d996a2c36dedc1e4012981cd811186a", func := "tideway/tidewaylaw08.RecvInputs", spec := "recvInputs", inPlace := ["slices.overlaps[tideway/api.Piece]"], unfollowed := true, recurses := true, apart := false, narrowed := true }
def RecvInputsUptoSaid : Prop := recvInputsUptoRow.holds Try.pinned (OpenSpec.upto recvInputsSpec)

/-- 'tidewaylaw08.RecvBegins', WHERE WHAT IT READS IS OF BULK AT MOST 1048576: true; the input reads as it did. -/
def recvBeginsUptoRow : OpenClaim := { program := "ytilmdmjhdidoiaa", sum := "6e61c2b2a408e0064fe3705bc4faae863d996a2c36dedc1e4012981cd811186a", func := "tideway/tidewaylaw08.RecvBegins", spec := "recvBegins", inPlace := ["slices.overlaps[tideway/api.Piece]"], unfollowed := true, recurses := true, apart := false, narrowed := true }
def RecvBeginsUptoSaid : Prop := recvBeginsUptoRow.holds Try.pinned (OpenSpec.upto recvBeginsSpec)

/-- 'tidewaylaw08.RecvOrders', WHERE WHAT IT READS IS OF BULK AT MOST 1048576: true; the input reads as it did. -/
def recvOrdersUptoRow : OpenClaim := { program := "ytilmdmjhdidoiaa", sum := "6e61c2b2a408e0064fe3705bc4faae863d996a2c36dedc1e4012981cd811186a", func := "tideway/tidewaylaw08.RecvOrders", spec := "recvOrders", inPlace := ["slices.overlaps[tideway/api.Piece]"], unfollowed := true, recurses := true, apart := false, narrowed := true }
def RecvOrdersUptoSaid : Prop := recvOrdersUptoRow.holds Try.pinned (OpenSpec.upto recvOrdersSpec)

/-- 'tidewaylaw08.RecvTwice', WHERE WHAT IT READS IS OF BULK AT MOST 1048576: true; the input reads as it did. -/
def recvTwiceUptoRow : OpenClaim := { program := "ytilmdmjhdidoiaa", sum := "6e61c2b2a408e0064fe3705bc4faae863d996a2c36dedc1e4012981cd811186a", func := "tideway/tidewaylaw08.RecvTwice", spec := "recvTwice", inPlace := ["slices.overlaps[tideway/api.Piece]"], unfollowed := true, recurses := true, apart := false, narrowed := true }
def RecvTwiceUptoSaid : Prop := recvTwiceUptoRow.holds Try.pinned (OpenSpec.upto recvTwiceSpec)

/-- 'tidewaylaw08.RecvWindow', WHERE WHAT IT READS IS OF BULK AT MOST 1048576: true; the input reads as it did. -/
def recvWindowUptoRow : OpenClaim := { program := "ytilmdmjhdidoiaa", sum := "6e61c2b2a408e0064fe3705bc4faae863d996a2c36dedc1e4012981cd811186a", func := "tideway/tidewaylaw08.RecvWindow", spec := "recvWindow", inPlace := ["slices.overlaps[tideway/api.Piece]"], unfollowed := true, recurses := true, apart := false, narrowed := true }
def RecvWindowUptoSaid : Prop := recvWindowUptoRow.holds Try.pinned (OpenSpec.upto recvWindowSpec)

/-- 'tidewaylaw08.RecvReads', WHERE WHAT IT READS IS OF BULK AT MOST 1048576: true; the input reads as it did. -/
def recvReadsUptoRow : OpenClaim := { program := "ytilmdmjhdidoiaa", sum := "6e61c2b2a408e0064fe3705bc4faae863d996a2c36dedc1e4012981cd811186a", func := "tideway/tidewaylaw08.RecvReads", spec := "recvReads", inPlace := ["slices.overlaps[tideway/api.Piece]"], unfollowed := true, recurses := true, apart := false, narrowed := true }
def RecvReadsUptoSaid : Prop := recvReadsUptoRow.holds Try.pinned (OpenSpec.upto recvReadsSpec)

end Rows
end Go.Proofs.Ytilmdmjhdidoiaa
