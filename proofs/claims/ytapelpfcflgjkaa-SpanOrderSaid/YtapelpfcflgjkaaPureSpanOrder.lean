/- The law SpanOrder holds: for every input that its own guards let in, it answers true (the order in which spans are added does not matter); nothing else is asked. -/
import Derived.Test.YtapelpfcflgjkaaOLSpanOrder
namespace Go.Proofs.Ytapelpfcflgjkaa.Pure
theorem SpanOrder : Go.Proofs.Ytapelpfcflgjkaa.M.LawSpanOrder.Pure := Go.Proofs.Ytapelpfcflgjkaa.M.law_SpanOrder
end Go.Proofs.Ytapelpfcflgjkaa.Pure
