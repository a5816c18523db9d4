/- The law SeqUnwraps holds: for every input that its own guards let in, it answers true (which offset is nearest, and what sums are within an int); nothing else is asked. -/
import Derived.Test.YtpebhhpmcjaioaaLaw01
namespace Go.Proofs.Ytpebhhpmcjaioaa.Pure
theorem SeqUnwraps : Go.Proofs.Ytpebhhpmcjaioaa.PA.SeqUnwraps.tidewaylaw01_SeqUnwraps.PureSaid := law_SeqUnwraps
end Go.Proofs.Ytpebhhpmcjaioaa.Pure
