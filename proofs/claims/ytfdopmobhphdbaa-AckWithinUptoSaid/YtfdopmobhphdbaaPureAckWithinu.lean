/- The law AckWithin holds: for every input that its own guards let in, it answers true (what is acknowledged, and what is sacked, was sent and is not acknowledged yet); nothing else is asked, but that what comes in is of bulk at most 1048576. -/
import Derived.Test.YtfdopmobhphdbaaLAckWithin
namespace Go.Proofs.Ytfdopmobhphdbaa.Pure
theorem AckWithinU : Go.Proofs.Ytfdopmobhphdbaa.M.LawAckWithinu.Pure := Go.Proofs.Ytfdopmobhphdbaa.M.law_AckWithinU
end Go.Proofs.Ytfdopmobhphdbaa.Pure
