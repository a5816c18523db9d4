/- The law SeqExact holds: for every input that its own guards let in, it answers true (a quotient is the greatest number whose product is not too much, and a cube root likewise); nothing else is asked. -/
import Derived.Test.YtpebhhpmcjaioaaLaw01
namespace Go.Proofs.Ytpebhhpmcjaioaa.Pure
theorem SeqExact : Go.Proofs.Ytpebhhpmcjaioaa.PA.SeqExact.tidewaylaw01_SeqExact.PureSaid := law_SeqExact
end Go.Proofs.Ytpebhhpmcjaioaa.Pure
