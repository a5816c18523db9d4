/- The law PacerWaits holds: for every input that its own guards let in, it answers true (at the time that is told bytes may leave, and a microsecond ahead of it not); nothing else is asked. -/
import Derived.Test.YtmphomadfanjgaaLPacerWaits
namespace Go.Proofs.Ytmphomadfanjgaa.Pure
theorem PacerWaits : Go.Proofs.Ytmphomadfanjgaa.PA.PacerWaits.tidewaylaw20_PacerWaits.PureSaid := law_PacerWaits
end Go.Proofs.Ytmphomadfanjgaa.Pure
