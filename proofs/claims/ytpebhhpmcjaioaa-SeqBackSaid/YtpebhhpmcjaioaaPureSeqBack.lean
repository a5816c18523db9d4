/- The law SeqBack holds: for every input that its own guards let in, it answers true (an offset is found again from its sequence number, near where it is); nothing else is asked. -/
import Derived.Test.YtpebhhpmcjaioaaLaw01
namespace Go.Proofs.Ytpebhhpmcjaioaa.Pure
theorem SeqBack : Go.Proofs.Ytpebhhpmcjaioaa.PA.SeqBack.tidewaylaw01_SeqBack.PureSaid := law_SeqBack
end Go.Proofs.Ytpebhhpmcjaioaa.Pure
