/- The law CcRestLess: a time without sending raises no window, and takes no more than is used. -/
import Derived.Test.YtgnoidblkenglaaLTCcx
import Derived.Test.YtgnoidblkenglaaPuCcRestLess
set_option linter.unusedVariables false
set_option linter.unusedSimpArgs false
namespace Go.Proofs.Ytgnoidblkenglaa.M
open Go Go.RowKit
noncomputable section
theorem heads19_D {R : Type} (n : Nat) (k : Bool → Option R) : G_law19_heads capD (n + 40) k = k true := by kernel_rfl
theorem heads19 {R : Type} (n : Nat) (k : Bool → Option R) (h : 40 ≤ n) : G_law19_heads capB n k = k true := by
  obtain ⟨m, rfl⟩ : ∃ m, n = m + 40 := ⟨n - 40, by omega⟩
  rw [capB_eq]; exact heads19_D m k
theorem law_CcRestLess : LawCcRestLess.Pure := by
  intro M c idle rto used hC h1 h2 h3
  simp only [LawCcRestLess.InCc, Rng, i64min, i64max] at hC h1 h2 h3
  obtain ⟨c0, c1, c2, c3, c4, c5, c6, c7, c8, c9, c10, c11, _⟩ := hC
  have hi : InR c := ⟨c1, c7⟩
  obtain ⟨m, hm⟩ : ∃ m, m = c.xBw.length + 60 := ⟨_, rfl⟩
  refine ⟨m + 14, fun R k => ?_⟩
  rw [G_law19_CcRestLess]
  have hh : ∀ k : Bool → Option R, G_law19_heads capB (m + 13) k = k true := fun k => heads19 _ k (by omega)
  rw [Rest_k capB m c idle rto used _ ⟨hi, by omega, by omega⟩]
  by_cases h : restE c idle rto used = 0
  case neg => rw [cnf h, hh]
  have ok : CcOk c := by
    unfold restE at h
    by_cases a : CcOk c
    · exact a
    · rw [if_neg a] at h; omega
  have hr : Tm idle ∧ Tm rto ∧ Sz used := by
    unfold restE at h
    rw [if_pos ok] at h
    by_cases a : Tm idle ∧ Tm rto ∧ Sz used
    · exact a
    · rw [if_neg a] at h; omega
  obtain ⟨r1, r2, r3, r4, r5, r6⟩ := rest_ok ok hr
  have hc := cwnd_of ok
  rw [cnt h, ct r3, mn_min, ct r4, mn_min, w64_id (n := 2 * c.xMss) (by omega) (by omega), ct r5, ct r6, ccCheck_k capB (m + 2) _ _ (inC_of r1 (by rw [r2]; omega) (by rw [r2]; omega)), if_pos r1, ct rfl, hh]
end
end Go.Proofs.Ytgnoidblkenglaa.M
