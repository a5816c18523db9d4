/- The law RecvOld holds: for every input that its own guards let in, it answers true (what is stamped ahead of what was seen is not taken); nothing else is asked. -/
import Derived.Test.YtilmdmjhdidoiaaOLRecvOld
namespace Go.Proofs.Ytilmdmjhdidoiaa.Pure
theorem RecvOld : Go.Proofs.Ytilmdmjhdidoiaa.M.LawRecvOld.Pure := Go.Proofs.Ytilmdmjhdidoiaa.M.law_RecvOld
end Go.Proofs.Ytilmdmjhdidoiaa.Pure
