/- The law CubicGrows: the program's CUBIC makes of an acknowledgement what the document's makes. -/
import Derived.Test.YtliknmgcnipbkaaGTCubic2
import Derived.Test.YtliknmgcnipbkaaPuCubicGrows
set_option linter.unusedVariables false
set_option linter.unusedSimpArgs false
namespace Go.Proofs.Ytliknmgcnipbkaa.M
open Go Go.RowKit
noncomputable section
theorem heads16_D {R : Type} (n : Nat) (k : Bool → Option R) : G_law16_heads capD (n + 40) k = k true := by kernel_rfl
theorem heads16 {R : Type} (n : Nat) (k : Bool → Option R) (h : 40 ≤ n) : G_law16_heads capB n k = k true := by
  obtain ⟨m, rfl⟩ : ∃ m, n = m + 40 := ⟨n - 40, by omega⟩
  rw [capB_eq]; exact heads16_D m k
theorem acked_bw (c : SCc) (q now srtt : Int) (idle : Bool) : (ackedO c q now srtt idle).xBw.length ≤ c.xBw.length := by
  unfold ackedO
  split
  · split
    · split
      · exact Nat.le_refl _
      · split
        · exact Nat.le_refl _
        · unfold growO
          show (if c.xEpoch = -1 then beginO c now else c).xBw.length ≤ _
          split
          · unfold beginO; split <;> exact Nat.le_refl _
          · exact Nat.le_refl _
    · exact Nat.zero_le _
  · exact Nat.zero_le _
theorem law_CubicGrows : LawCubicGrows.Pure := by
  intro M c q now srtt idle hC hq hnow hs
  simp only [LawCubicGrows.InCc, Rng, i64min, i64max] at hC hq hnow hs
  obtain ⟨c0, c1, c2, c3, c4, c5, c6, c7, c8, c9, c10, c11, _⟩ := hC
  have hi : InR c := ⟨c1, c7⟩
  refine ⟨c.xBw.length + 101, fun R k => ?_⟩
  rw [G_law16_CubicGrows]
  obtain ⟨m, hm⟩ : ∃ m, c.xBw.length + 100 = m + 91 := ⟨c.xBw.length + 9, by omega⟩
  rw [hm]
  simp only [G_law16_CubicGrows, s_law16_CubicGrows_1, s_law16_CubicGrows_3, s_law16_CubicGrows_5, s_law16_CubicGrows_7, s_law16_CubicGrows_9]
  rw [Acked_k capB (m + 90) c q now srtt idle _ (by omega) hi, Acked16_k capB (m + 90) c q now srtt idle _ (by omega) hi]
  have hb := acked_bw c q now srtt idle
  rw [SameCc_k capB (m + 90) _ _ (by omega) (by omega), cond_true, ct rfl, Check_k capB (m + 85) c _ hi.mss.1 hi.mss.2, Check16_k capB (m + 88) c _ hi.mss.1 hi.mss.2, ct rfl,
    Curve_k capB (m + 90) c now _ (by omega) hi (by omega) (by omega), Curve16_k capB (m + 90) c now _ (by omega) hi (by omega) (by omega), ct rfl,
    Curve_k capB (m + 90) c _ _ (by omega) hi (by rw [wi64]; omega) (by rw [wi64]; omega), Curve16_k capB (m + 90) c _ _ (by omega) hi (by rw [wi64]; omega) (by rw [wi64]; omega), ct rfl, heads16 _ _ (by omega)]
end
end Go.Proofs.Ytliknmgcnipbkaa.M
