/- The law PacerFull holds: for every input that its own guards let in, it answers true (a bucket is full behind the time that a burst and what is owed take, and never more than full); nothing else is asked. -/
import Derived.Test.YtmphomadfanjgaaLPacerFull
namespace Go.Proofs.Ytmphomadfanjgaa.Pure
theorem PacerFull : Go.Proofs.Ytmphomadfanjgaa.PA.PacerFull.tidewaylaw20_PacerFull.PureSaid := law_PacerFull
end Go.Proofs.Ytmphomadfanjgaa.Pure
