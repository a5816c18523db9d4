/- The law SeqCompares holds: for every input that its own guards let in, it answers true (how sequence numbers stand to each other); nothing else is asked. -/
import Derived.Test.YtpebhhpmcjaioaaLaw01
namespace Go.Proofs.Ytpebhhpmcjaioaa.Pure
theorem SeqCompares : Go.Proofs.Ytpebhhpmcjaioaa.PA.SeqCompares.tidewaylaw01_SeqCompares.PureSaid := law_SeqCompares
end Go.Proofs.Ytpebhhpmcjaioaa.Pure
