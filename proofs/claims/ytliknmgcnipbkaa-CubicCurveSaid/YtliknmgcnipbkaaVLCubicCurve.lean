/- The law CubicCurve: the curve does not fall with time, and is Wmax at K. -/
import Derived.Test.YtliknmgcnipbkaaVTCubicR
import Derived.Test.YtliknmgcnipbkaaPuCubicCurve
set_option linter.unusedVariables false
set_option linter.unusedSimpArgs false
namespace Go.Proofs.Ytliknmgcnipbkaa.M
open Go Go.RowKit
noncomputable section
theorem cube_mono {m x y : Int} (hm : 1 ≤ m) (h : max x (-x) ≤ max y (-y)) : cubeO m x ≤ cubeO m y := by
  unfold cubeO
  generalize hX : max x (-x) = X at *
  generalize hY : max y (-y) = Y at *
  have x0 : 0 ≤ X := by omega
  have h3 : X * X * X ≤ Y * Y * Y := cube_le x0 h
  have x3 : 0 ≤ X * X * X := Int.mul_nonneg (Int.mul_nonneg x0 x0) x0
  rw [mdv_pos x3 (by omega) (by omega), mdv_pos (by omega) (by omega) (by omega)]
  have := Int.ediv_le_ediv (show (0 : Int) < 10000000000 by omega) (Int.mul_le_mul_of_nonneg_right h3 (show 0 ≤ 4 * m by omega))
  omega
theorem cube_nonneg (m d : Int) : 0 ≤ cubeO m d := (mdv_range _ _ _).1
theorem curve_mono {c : SCc} {t u : Int} (h : t ≤ u) : curveO c t ≤ curveO c u := by
  unfold curveO
  by_cases hc : CubOk c
  case neg => rw [if_neg hc, if_neg hc]; omega
  rw [if_pos hc, if_pos hc]
  have hd : distO c t ≤ distO c u := by unfold distO; omega
  have p1 := cube_nonneg c.xMss (distO c t)
  have p2 := cube_nonneg c.xMss (distO c u)
  by_cases a : distO c t < 0
  · rw [if_pos a]
    by_cases b : distO c u < 0
    · rw [if_pos b]
      have := cube_mono (m := c.xMss) (x := distO c u) (y := distO c t) (by omega) (by omega)
      omega
    · rw [if_neg b]; omega
  · rw [if_neg a, if_neg (by omega)]
    have := cube_mono (m := c.xMss) (x := distO c t) (y := distO c u) (by omega) (by omega)
    omega
theorem curve_top {c : SCc} (h : CubOk c) : curveO c c.xK = c.xWmax := by
  have hd : distO c c.xK = 0 := by unfold distO; omega
  have hz : cubeO c.xMss 0 = 0 := by
    unfold cubeO
    rw [show max (0 : Int) (-0) = 0 by omega, mdv_pos (by omega) (by omega) (by omega)]; simp; omega
  unfold curveO
  rw [if_pos h, hd, if_neg (by omega), hz]; omega
theorem law_CubicCurve : LawCubicCurve.Pure := by
  intro M c t more hC ht hmore
  simp only [LawCubicCurve.InCc, Rng, i64min, i64max] at hC ht hmore
  obtain ⟨c0, c1, c2, c3, c4, c5, c6, c7, c8, c9, c10, c11, _⟩ := hC
  have hi : InR c := ⟨c1, c7⟩
  refine ⟨101, fun R k => ?_⟩
  rw [G_law16_CubicCurve]
  simp only [G_law16_CubicCurve, s_law16_CubicCurve_1, s_law16_CubicCurve_3, s_law16_CubicCurve_5, s_law16_CubicCurve_8, s_law16_CubicCurve_9, s_law16_CubicCurve_12, s_law16_CubicCurve_14]
  have hh : ∀ k : Bool → Option R, G_law16_heads capB 100 k = k true := fun k => heads16 100 k (by omega)
  rw [Check_k capB 94 c _ hi.mss.1 hi.mss.2]
  by_cases h : CubOk c
  case neg => rw [if_neg h, cnf (by omega), cond_true, hh]
  rw [if_pos h, cnt rfl]
  by_cases a1 : t < 0
  · rw [ct a1, cond_true, hh]
  by_cases a2 : more < 0
  · rw [cf a1, ct a2, cond_true, hh]
  by_cases a3 : 1099511627776 < t
  · rw [cf a1, cf a2, ct a3, cond_true, hh]
  by_cases a4 : 1099511627776 < more
  · rw [cf a1, cf a2, cf a3, ct a4, hh]
  rw [cf a1, cf a2, cf a3, cf a4, w64_id (n := t + more) (by omega) (by omega)]
  rw [Curve_k capB 99 c t _ (by omega) hi (by omega) (by omega), Curve_k capB 99 c (t + more) _ (by omega) hi (by omega) (by omega)]
  have r1 := curveO_range c t
  have r2 := curveO_range c (t + more)
  have r3 := curve_mono (c := c) (t := t) (u := t + more) (by omega)
  rw [ct r3, ct r1.1, ct r2.2, Curve_k capB 99 c c.xK _ (by omega) hi (by omega) (by omega), ct (curve_top h), hh]
end
end Go.Proofs.Ytliknmgcnipbkaa.M
