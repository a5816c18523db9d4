/- Without selective acknowledgements no block counts. -/
import Derived.Test.YtfdopmobhphdbaaTAck2
import Derived.Test.YtfdopmobhphdbaaTSame
import Derived.Test.YtfdopmobhphdbaaPuAckPlainu
set_option linter.unusedVariables false
set_option linter.unusedSimpArgs false
namespace Go.Proofs.Ytfdopmobhphdbaa.M
open Go Go.RowKit
theorem Same22_k {R : Type} (cp : Nat → Nat → Bool) (n : Nat) (h : SHeard) (k : Bool → Option R) (hl : h.xSpans.length < 9223372036854775807) (hn : h.xSpans.length + 1 ≤ n) : G_ref22_Same cp (n + 2) h h k = k true := by
  simp only [G_ref22_Same, beq_self_eq_true, decide_true, cond_true]
  exact Same06_k cp n _ _ hl hn
/-- What a segment tells, without its blocks. -/
def bare (h : SHeard) : SHeard := ⟨h.xCounts, h.xAck, h.xOld, h.xAt, h.xWin, h.xRecent, h.xRtt, false, []⟩
theorem plain1 (a : SAsked) (s : SSegment) : weigh ⟨a.xUna, a.xNext, a.xIss, a.xPeer, a.xIrs, a.xStamps, a.xRecent, a.xNow, false⟩ s = bare (weigh a s) := by
  have e : cntO ⟨a.xUna, a.xNext, a.xIss, a.xPeer, a.xIrs, a.xStamps, a.xRecent, a.xNow, false⟩ s = cntO a s := rfl
  unfold weigh
  rw [e]
  cases (cntO a s).2 <;> rfl
theorem plain2 (a : SAsked) (s : SSegment) : weigh a ⟨s.xSrcPort, s.xDstPort, s.xSeq, s.xAck, s.xFlags, s.xWin, s.xUrg, s.xMss, s.xScale, s.xSackOk, s.xStamped, s.xVal, s.xEcr, [], s.xData⟩ = bare (weigh a s) := by
  have e : cntO a ⟨s.xSrcPort, s.xDstPort, s.xSeq, s.xAck, s.xFlags, s.xWin, s.xUrg, s.xMss, s.xScale, s.xSackOk, s.xStamped, s.xVal, s.xEcr, [], s.xData⟩ = cntO a s := rfl
  unfold weigh
  rw [e]
  cases (cntO a s).2 with
  | false => rfl
  | true => cases a.xSacks <;> rfl
theorem law_AckPlainU : LawAckPlainu.Pure := by
  intro a s ha hs
  refine ⟨s.xSacks.length + 58 + 1 + 1, fun R k => ?_⟩
  have hA : Asks a := ⟨ha.1, ha.2.2.2.1⟩
  have hl : s.xSacks.length ≤ 1048576 := hs.2.2.2.2.2.2.2.2.2.2.2.2.2.1.2.2.1
  simp only [G_law22_AckPlain]
  have hB : Asks ⟨a.xUna, a.xNext, a.xIss, a.xPeer, a.xIrs, a.xStamps, a.xRecent, a.xNow, false⟩ := ⟨hA.1, hA.2⟩
  rw [Weigh_k _ _ _ hB (by omega) (by omega), Weigh_k _ _ _ hA (by simp) (by simp), Weigh_k _ _ _ hA (by omega) (by omega), plain1, plain2]
  have e : SHeard.mk (weigh a s).xCounts (weigh a s).xAck (weigh a s).xOld (weigh a s).xAt (weigh a s).xWin (weigh a s).xRecent (weigh a s).xRtt false [] = bare (weigh a s) := rfl
  rw [e]
  have hsp : (bare (weigh a s)).xSpans = [] := rfl
  have htw : (bare (weigh a s)).xTwice = false := rfl
  generalize bare (weigh a s) = x at *
  rw [show s.xSacks.length + 58 + 1 = (s.xSacks.length + 57) + 2 by omega, Same22_k _ _ _ _ (by rw [hsp]; simp) (by rw [hsp]; simp), cond_true, Same22_k _ _ _ _ (by rw [hsp]; simp) (by rw [hsp]; simp), cond_true, hsp, htw, ct (show (([] : List SSpan).length : Int) = 0 from rfl), Bool.not_false, cond_true, heads22' (by omega)]
end Go.Proofs.Ytfdopmobhphdbaa.M
