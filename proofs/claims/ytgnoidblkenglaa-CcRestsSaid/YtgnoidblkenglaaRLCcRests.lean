/- The law CcRests: a time without sending, a limit, and the pace are what the document says. -/
import Derived.Test.YtgnoidblkenglaaRTCcR
import Derived.Test.YtgnoidblkenglaaPuCcRests
set_option linter.unusedVariables false
set_option linter.unusedSimpArgs false
namespace Go.Proofs.Ytgnoidblkenglaa.M
open Go Go.RowKit
noncomputable section
theorem heads19_D {R : Type} (n : Nat) (k : Bool → Option R) : G_law19_heads capD (n + 40) k = k true := by kernel_rfl
theorem heads19 {R : Type} (n : Nat) (k : Bool → Option R) (h : 40 ≤ n) : G_law19_heads capB n k = k true := by
  obtain ⟨m, rfl⟩ : ∃ m, n = m + 40 := ⟨n - 40, by omega⟩
  rw [capB_eq]; exact heads19_D m k
theorem rest_bw (c : SCc) (a b d : Int) : (restO c a b d).xBw.length ≤ c.xBw.length := by
  unfold restO
  split
  · split
    · split <;> exact Nat.le_refl _
    · exact Nat.zero_le _
  · exact Nat.zero_le _
theorem limit_bw (c : SCc) (a : Int) : (limitO c a).xBw.length ≤ c.xBw.length := by
  unfold limitO
  split
  · split
    · exact Nat.le_refl _
    · exact Nat.zero_le _
  · exact Nat.zero_le _
theorem law_CcRests : LawCcRests.Pure := by
  intro M c idle rto used hC h1 h2 h3
  simp only [LawCcRests.InCc, Rng, i64min, i64max] at hC h1 h2 h3
  obtain ⟨c0, c1, c2, c3, c4, c5, c6, c7, c8, c9, c10, c11, _⟩ := hC
  have hi : InR c := ⟨c1, c7⟩
  obtain ⟨m, hm⟩ : ∃ m, m = c.xBw.length + 80 := ⟨_, rfl⟩
  refine ⟨m + 14, fun R k => ?_⟩
  rw [G_law19_CcRests]
  simp only [G_law19_CcRests, s_law19_CcRests_1, s_law19_CcRests_3, s_law19_CcRests_5, s_law19_CcRests_7, s_law19_CcRests_9]
  have hh : ∀ k : Bool → Option R, G_law19_heads capB (m + 13) k = k true := fun k => heads19 _ k (by omega)
  have b1 := rest_bw c idle rto used
  have b2 := limit_bw c used
  rw [Rest_k capB m c idle rto used _ ⟨hi, by omega, by omega⟩, Rest19_k capB (m + 7) c idle rto used _ ⟨hi, by omega, by omega⟩ (by omega), Limit_k capB m c used _ ⟨hi, by omega, by omega⟩, Limit19_k capB (m + 7) c used _ ⟨hi, by omega, by omega⟩,
    SameCc_k capB (m + 12) _ _ (by omega) (by omega), cond_true, ct rfl, SameCc_k capB (m + 12) _ _ (by omega) (by omega), cond_true, ct rfl, Pace_k capB m c idle used _ ⟨hi, by omega, by omega⟩ (by omega) (by omega), Pace19_k capB (m + 7) c idle used _ ⟨hi, by omega, by omega⟩ (by omega) (by omega) (by omega), ct rfl, hh]
end
end Go.Proofs.Ytgnoidblkenglaa.M
