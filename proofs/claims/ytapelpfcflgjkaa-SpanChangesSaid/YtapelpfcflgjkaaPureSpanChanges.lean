/- The law SpanChanges holds: for every input that its own guards let in, it answers true (what a row is behind a span more, or less); nothing else is asked. -/
import Derived.Test.YtapelpfcflgjkaaCLSpanChanges
namespace Go.Proofs.Ytapelpfcflgjkaa.Pure
theorem SpanChanges : Go.Proofs.Ytapelpfcflgjkaa.M.LawSpanChanges.Pure := Go.Proofs.Ytapelpfcflgjkaa.M.law_SpanChanges
end Go.Proofs.Ytapelpfcflgjkaa.Pure
