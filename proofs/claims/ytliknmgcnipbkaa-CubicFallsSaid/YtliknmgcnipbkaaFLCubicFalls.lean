/- The law CubicFalls: the program's CUBIC is behind losses, timeouts and at first what the document's is. -/
import Derived.Test.YtliknmgcnipbkaaFTCubicF
import Derived.Test.YtliknmgcnipbkaaPuCubicFalls
set_option linter.unusedVariables false
set_option linter.unusedSimpArgs false
namespace Go.Proofs.Ytliknmgcnipbkaa.M
open Go Go.RowKit
noncomputable section
theorem heads16_D {R : Type} (n : Nat) (k : Bool → Option R) : G_law16_heads capD (n + 40) k = k true := by kernel_rfl
theorem heads16 {R : Type} (n : Nat) (k : Bool → Option R) (h : 40 ≤ n) : G_law16_heads capB n k = k true := by
  obtain ⟨m, rfl⟩ : ∃ m, n = m + 40 := ⟨n - 40, by omega⟩
  rw [capB_eq]; exact heads16_D m k
theorem moved_bw (f : SCc → SCc) (c : SCc) (q : Int) (h : (f c).xBw = c.xBw) : (movedO f c q).xBw.length ≤ c.xBw.length := by
  unfold movedO
  split
  · split
    · rw [h]; exact Nat.le_refl _
    · exact Nat.zero_le _
  · exact Nat.zero_le _
theorem new_bw (a b m f : Int) : (newO a b m f).xBw.length = 0 := by unfold newO; split <;> rfl
theorem law_CubicFalls : LawCubicFalls.Pure := by
  intro M c q first hC hq hf
  simp only [LawCubicFalls.InCc, Rng, i64min, i64max] at hC hq hf
  obtain ⟨c0, c1, c2, c3, c4, c5, c6, c7, c8, c9, c10, c11, _⟩ := hC
  have hi : InR c := ⟨c1, c7⟩
  refine ⟨c.xBw.length + 101, fun R k => ?_⟩
  rw [G_law16_CubicFalls]
  obtain ⟨m, hm⟩ : ∃ m, c.xBw.length + 100 = m + 91 := ⟨c.xBw.length + 9, by omega⟩
  rw [hm]
  simp only [G_law16_CubicFalls, s_law16_CubicFalls_1, s_law16_CubicFalls_3, s_law16_CubicFalls_5, s_law16_CubicFalls_7, s_law16_CubicFalls_9, s_law16_CubicFalls_11, s_law16_CubicFalls_13]
  have b1 := moved_bw fallO c q rfl
  have b2 := moved_bw shutO c q rfl
  have b3 := moved_bw doneO c 0 rfl
  have b4 := new_bw 2 (-1) q first
  rw [Loss_k capB (m + 83) c q _ hi, Loss16_k capB (m + 87) c q _ hi, Timeout_k capB (m + 83) c q _ hi, Timeout16_k capB (m + 86) c q _ hi, Done_k capB (m + 83) c _ hi, Done16_k capB (m + 87) c _ hi, New_k capB (m + 89), New16_k capB (m + 89),
    SameCc_k capB (m + 90) _ _ (by omega) (by omega), cond_true, ct rfl, SameCc_k capB (m + 90) _ _ (by omega) (by omega), cond_true, ct rfl, SameCc_k capB (m + 90) _ _ (by omega) (by omega), cond_true, ct rfl, SameCc_k capB (m + 90) _ _ (by omega) (by omega), cond_true, ct rfl, heads16 _ _ (by omega)]
end
end Go.Proofs.Ytliknmgcnipbkaa.M
