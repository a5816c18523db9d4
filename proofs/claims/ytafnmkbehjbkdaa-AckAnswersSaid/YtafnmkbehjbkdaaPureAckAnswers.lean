/- The law AckAnswers holds: for every input that its own guards let in, it answers true (what a receiver answers counts, and acknowledges what it waits for); nothing else is asked. -/
import Derived.Test.YtafnmkbehjbkdaaALAckAnswers
namespace Go.Proofs.Ytafnmkbehjbkdaa.Pure
theorem AckAnswers : Go.Proofs.Ytafnmkbehjbkdaa.M.LawAckAnswers.Pure := Go.Proofs.Ytafnmkbehjbkdaa.M.law_AckAnswers
end Go.Proofs.Ytafnmkbehjbkdaa.Pure
