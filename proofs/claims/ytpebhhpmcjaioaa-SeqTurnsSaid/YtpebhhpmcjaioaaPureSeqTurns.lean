/- The law SeqTurns holds: for every input that its own guards let in, it answers true (differences are opposite, but at 2^31, and that exactly one of two unlike numbers is ahead); nothing else is asked. -/
import Derived.Test.YtpebhhpmcjaioaaLaw01
namespace Go.Proofs.Ytpebhhpmcjaioaa.Pure
theorem SeqTurns : Go.Proofs.Ytpebhhpmcjaioaa.PA.SeqTurns.tidewaylaw01_SeqTurns.PureSaid := law_SeqTurns
end Go.Proofs.Ytpebhhpmcjaioaa.Pure
