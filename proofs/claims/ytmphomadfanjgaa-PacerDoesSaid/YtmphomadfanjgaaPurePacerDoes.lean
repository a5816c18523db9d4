/- The law PacerDoes holds: for every input that its own guards let in, it answers true (what each call makes of a bucket); nothing else is asked. -/
import Derived.Test.YtmphomadfanjgaaLPacerDoes
namespace Go.Proofs.Ytmphomadfanjgaa.Pure
theorem PacerDoes : Go.Proofs.Ytmphomadfanjgaa.PA.PacerDoes.tidewaylaw20_PacerDoes.PureSaid := law_PacerDoes
end Go.Proofs.Ytmphomadfanjgaa.Pure
