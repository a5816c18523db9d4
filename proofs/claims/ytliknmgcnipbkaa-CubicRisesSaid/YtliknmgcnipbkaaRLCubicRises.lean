/- The law CubicRises: no acknowledgement lowers the window, nor makes it more than half as large again at once. -/
import Derived.Test.YtliknmgcnipbkaaRTCubicR
import Derived.Test.YtliknmgcnipbkaaPuCubicRises
set_option linter.unusedVariables false
set_option linter.unusedSimpArgs false
namespace Go.Proofs.Ytliknmgcnipbkaa.M
open Go Go.RowKit
noncomputable section
/-- At the beginning of an epoch. -/
theorem rise_at {c : SCc} {q now srtt : Int} (h : CubOk c) (hi : AckIn q now srtt) (h1 : q ≤ c.xCwnd) (h2 : c.xSsthresh ≤ c.xCwnd) (h3 : c.xEpoch = -1) :
    (ackedO c q now srtt false).xCwnd ≤ c.xCwnd + c.xCwnd / 2 + c.xMss := by
  unfold ackedO
  rw [if_pos h, if_pos hi, if_neg (show ¬ (false = true) by simp), if_neg (by omega), if_pos h3]
  obtain ⟨b1, b2⟩ := begin_ok h (show 0 ≤ now by omega) (by omega)
  have e1 : (beginO c now).xCwnd = c.xCwnd := by unfold beginO; split <;> rfl
  have e2 : (beginO c now).xWest = c.xCwnd := by unfold beginO; split <;> rfl
  have e3 : (beginO c now).xMss = c.xMss := by unfold beginO; split <;> rfl
  have a1 : mdv (529 * c.xMss) q (1000 * c.xCwnd) ≤ c.xMss := by
    refine mdv_le (by omega) (by omega) (by omega) ?_
    have : 529 * c.xMss * q ≤ 1000 * c.xMss * c.xCwnd := mul_le (by omega) (by omega) (by omega) h1
    rw [Int.mul_left_comm, ← Int.mul_assoc]; exact this
  have w0 : 0 ≤ wideO (beginO c now) now srtt - c.xCwnd := by unfold wideO; rw [e1]; omega
  have w1 : wideO (beginO c now) now srtt - c.xCwnd ≤ c.xCwnd / 2 := by unfold wideO; rw [e1]; omega
  have a2 : mdv (wideO (beginO c now) now srtt - c.xCwnd) q c.xCwnd ≤ c.xCwnd / 2 := by
    refine Int.le_trans (mdv_le w0 (by omega) (by omega) ?_) w1
    exact Int.mul_le_mul_of_nonneg_left h1 w0
  have r1 := mdv_range (529 * c.xMss) q (1000 * c.xCwnd)
  have r2 := mdv_range (wideO (beginO c now) now srtt - c.xCwnd) q c.xCwnd
  unfold growO westO
  dsimp only
  rw [e1, e2, e3]
  unfold satw
  omega
theorem law_CubicRises : LawCubicRises.Pure := by
  intro M c q now srtt hC hq hnow hs
  simp only [LawCubicRises.InCc, Rng, i64min, i64max] at hC hq hnow hs
  obtain ⟨c0, c1, c2, c3, c4, c5, c6, c7, c8, c9, c10, c11, _⟩ := hC
  have hi : InR c := ⟨c1, c7⟩
  refine ⟨101, fun R k => ?_⟩
  rw [G_law16_CubicRises]
  simp only [G_law16_CubicRises, s_law16_CubicRises_1, s_law16_CubicRises_4, s_law16_CubicRises_7]
  rw [Acked_k capB 99 c q now srtt false _ (by omega) hi]
  have hh : ∀ k : Bool → Option R, G_law16_heads capB 100 k = k true := fun k => heads16 100 k (by omega)
  by_cases h : CubOk c
  case neg => unfold ackedE; rw [if_neg h, cnf (by omega), hh]
  by_cases hA : AckIn q now srtt
  case neg => unfold ackedE; rw [if_pos h, if_neg hA, cnf (by omega), hh]
  have e0 : ackedE c q now srtt = 0 := by unfold ackedE; rw [if_pos h, if_pos hA]
  obtain ⟨f1, f2⟩ := acked_facts h hA
  have hi2 := inR_of f1
  rw [e0, cnt rfl, cf (by omega), Check_k capB 94 _ _ hi2.mss.1 hi2.mss.2, if_pos f1, cnt rfl, hh]
  by_cases g1 : q ≤ c.xCwnd
  case neg => rw [cf g1]
  by_cases g2 : c.xSsthresh ≤ c.xCwnd
  case neg => rw [ct g1, cf g2]
  by_cases g3 : c.xEpoch = -1
  case neg => rw [ct g1, ct g2, cf g3]
  have := rise_at h hA g1 g2 g3
  rw [ct g1, ct g2, ct g3, tdiv_pos (by omega), w64_id (n := c.xCwnd / 2) (by omega) (by omega), w64_id (n := c.xCwnd + c.xCwnd / 2) (by omega) (by omega), w64_id (n := c.xCwnd + c.xCwnd / 2 + c.xMss) (by omega) (by omega), cf (by omega)]
end
end Go.Proofs.Ytliknmgcnipbkaa.M
