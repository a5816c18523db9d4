/- The law SeqReckons holds: for every input that its own guards let in, it answers true (what products by a number, and cube roots are); nothing else is asked. -/
import Derived.Test.YtpebhhpmcjaioaaLaw01
namespace Go.Proofs.Ytpebhhpmcjaioaa.Pure
theorem SeqReckons : Go.Proofs.Ytpebhhpmcjaioaa.PA.SeqReckons.tidewaylaw01_SeqReckons.PureSaid := law_SeqReckons
end Go.Proofs.Ytpebhhpmcjaioaa.Pure
