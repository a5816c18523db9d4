/- A segment that came already brings nothing. -/
import Derived.Test.YtafnmkbehjbkdaaATRIn
set_option linter.unusedVariables false
set_option linter.unusedSimpArgs false
namespace Go.Proofs.Ytafnmkbehjbkdaa.M
open Go Go.RowKit
noncomputable section
theorem full_late {r : SRecv} {t : Int} (h : r.xNext ≤ t) : At (Full r) t = At r.xLate t := at_out (by rw [full_end]; omega)
theorem full_head {r : SRecv} {t : Int} (h : r.xNext - r.xUnread.length ≤ t ∧ t < r.xNext) : At (Full r) t ≠ none := at_some (by rw [full_end]; exact h)
theorem inT_at {r : SRecv} (s : SSegment) (h : RecvOk r) (t : Int) : At (Full (inT r s)) t = if max (inX r s) r.xNext ≤ t ∧ t < takeE (midR r s) (inX r s) s.xData ∧ At (Full r) t = none then s.xData[(t - inX r s).toNat]? else At (Full r) t := by
 have h5 := (take_ok (mid_midR (s := s) (mid_of_ok h)) (inX r s) s.xData).2.2.2.2 t
 obtain ⟨u, b, f, e⟩ := midR_eq r s
 have e1 : (midR r s).xNext = r.xNext := by rw [e]
 have e2 : Full (midR r s) = Full r := by rw [e]; rfl
 rw [e1, e2] at h5
 exact h5
end
end Go.Proofs.Ytafnmkbehjbkdaa.M
