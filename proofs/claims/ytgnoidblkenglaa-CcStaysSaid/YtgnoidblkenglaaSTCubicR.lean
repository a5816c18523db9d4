/- What an acknowledgement does to a window: it does not fall, and a controller that may be stays one. -/
import Derived.Test.YtgnoidblkenglaaSTCubic2
set_option linter.unusedVariables false
set_option linter.unusedSimpArgs false
namespace Go.Proofs.Ytgnoidblkenglaa.M
open Go Go.RowKit
noncomputable section
abbrev AckIn (q now srtt : Int) : Prop := (0 ≤ q ∧ q ≤ 1073741824) ∧ (0 ≤ now ∧ now ≤ 1125899906842624) ∧ (0 ≤ srtt ∧ srtt ≤ 1125899906842624)
theorem mdv_pos {a b c : Int} (ha : 0 ≤ a) (hb : 0 ≤ b) (hc : 0 < c) : mdv a b c = min (a * b / c) 9223372036854775807 := by
  unfold mdv; rw [if_neg (by omega)]
/-- What part of a number is no more than the number. -/
theorem mdv_le {a b c e : Int} (ha : 0 ≤ a) (hb : 0 ≤ b) (hc : 0 < c) (h : a * b ≤ e * c) : mdv a b c ≤ e := by
  rw [mdv_pos ha hb hc]
  have := Int.ediv_le_ediv hc h
  rw [Int.mul_ediv_cancel _ (by omega)] at this
  omega
theorem grow_facts {c : SCc} {q now srtt : Int} (h : CubOk c) (he : 0 ≤ c.xEpoch) :
    CubOk (growO c q now srtt) ∧ c.xCwnd ≤ (growO c q now srtt).xCwnd := by
  have a1 := mdv_range (529 * c.xMss) q (1000 * c.xCwnd)
  have a2 := mdv_range (wideO c now srtt - c.xCwnd) q c.xCwnd
  have hw : 0 ≤ westO c q ∧ westO c q ≤ 1073741824 := by unfold westO satw; omega
  have hc : c.xCwnd ≤ min 1073741824 (max (westO c q) (satw (c.xCwnd + mdv (wideO c now srtt - c.xCwnd) q c.xCwnd))) := by unfold satw; omega
  have hv : min 1073741824 (max (westO c q) (satw (c.xCwnd + mdv (wideO c now srtt - c.xCwnd) q c.xCwnd))) ≤ 1073741824 := by omega
  unfold growO
  refine ⟨?_, hc⟩
  generalize min 1073741824 (max (westO c q) (satw (c.xCwnd + mdv (wideO c now srtt - c.xCwnd) q c.xCwnd))) = v at *
  generalize westO c q = w at *
  simp only [CubOk, Com, NoBbr] at h ⊢
  omega
theorem acked_facts {c : SCc} {q now srtt : Int} (h : CubOk c) (hi : AckIn q now srtt) :
    CubOk (ackedO c q now srtt false) ∧ c.xCwnd ≤ (ackedO c q now srtt false).xCwnd := by
  unfold ackedO
  rw [if_pos h, if_pos hi, if_neg (show ¬ (false = true) by simp)]
  split
  · refine ⟨?_, ?_⟩
    · simp only [CubOk, Com, NoBbr] at h ⊢
      omega
    · show c.xCwnd ≤ min 1073741824 (c.xCwnd + min q c.xMss)
      omega
  · split
    · obtain ⟨b1, b2⟩ := begin_ok h (show 0 ≤ now by omega) (by omega)
      have e : (beginO c now).xCwnd = c.xCwnd := by unfold beginO; split <;> rfl
      have := grow_facts (q := q) (now := now) (srtt := srtt) b1 b2
      rw [e] at this; exact this
    · exact grow_facts h (by omega)
end
end Go.Proofs.Ytgnoidblkenglaa.M
