/- The law PacerSplit holds: for every input that its own guards let in, it answers true (a bucket filled in two steps is as filled in one); nothing else is asked. -/
import Derived.Test.YtmphomadfanjgaaLPacerSplit
namespace Go.Proofs.Ytmphomadfanjgaa.Pure
theorem PacerSplit : Go.Proofs.Ytmphomadfanjgaa.PA.PacerSplit.tidewaylaw20_PacerSplit.PureSaid := law_PacerSplit
end Go.Proofs.Ytmphomadfanjgaa.Pure
