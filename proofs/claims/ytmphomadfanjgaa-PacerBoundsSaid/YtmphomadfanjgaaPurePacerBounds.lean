/- The law PacerBounds holds: for every input that its own guards let in, it answers true (in any time no more leaves than the rate times it and a burst, and a segment larger than that (BOUNDED PACE)); nothing else is asked. -/
import Derived.Test.YtmphomadfanjgaaLPacerBounds
namespace Go.Proofs.Ytmphomadfanjgaa.Pure
theorem PacerBounds : Go.Proofs.Ytmphomadfanjgaa.PA.PacerBounds.tidewaylaw20_PacerBounds.PureSaid := law_PacerBounds
end Go.Proofs.Ytmphomadfanjgaa.Pure
