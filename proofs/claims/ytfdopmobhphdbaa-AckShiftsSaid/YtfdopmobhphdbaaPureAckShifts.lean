/- The law AckShifts holds: for every input that its own guards let in, it answers true (only differences of sequence numbers count); nothing else is asked. -/
import Derived.Test.YtfdopmobhphdbaaLAckShifts
namespace Go.Proofs.Ytfdopmobhphdbaa.Pure
theorem AckShifts : Go.Proofs.Ytfdopmobhphdbaa.M.LawAckShifts.Pure := Go.Proofs.Ytfdopmobhphdbaa.M.law_AckShifts
end Go.Proofs.Ytfdopmobhphdbaa.Pure
