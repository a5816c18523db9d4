/- The law CcBegins: fresh controllers of each kind are what the document says. -/
import Derived.Test.YtgnoidblkenglaaNTCcx
import Derived.Test.YtgnoidblkenglaaPuCcBegins
set_option linter.unusedVariables false
set_option linter.unusedSimpArgs false
namespace Go.Proofs.Ytgnoidblkenglaa.M
open Go Go.RowKit
noncomputable section
theorem heads19_D {R : Type} (n : Nat) (k : Bool → Option R) : G_law19_heads capD (n + 40) k = k true := by kernel_rfl
theorem heads19 {R : Type} (n : Nat) (k : Bool → Option R) (h : 40 ≤ n) : G_law19_heads capB n k = k true := by
  obtain ⟨m, rfl⟩ : ∃ m, n = m + 40 := ⟨n - 40, by omega⟩
  rw [capB_eq]; exact heads19_D m k
theorem New19_k {R : Type} (n : Nat) (kind m f : Int) (k : SCc → Int → Option R) : G_ref19_New capB (n + 3) kind m f k = k (ccNewO kind m f) (ccNewE kind m f) := by
  rw [G_ref19_New]
  unfold ccNewO ccNewE
  by_cases a1 : kind = 1
  · rw [ct a1, New15_k, if_pos a1, if_pos (.inl a1)]
  by_cases a2 : kind = 2
  · rw [cf a1, ct a2, New16_k, if_neg a1, if_pos a2, if_pos (.inr (.inl a2))]
  by_cases a3 : kind = 3
  · rw [cf a1, cf a2, ct a3, if_neg a1, if_neg a2, if_pos a3, if_pos (.inr (.inr a3)), G_ref18_New, New15_k]
    unfold newO newE newB
    split <;> rfl
  · rw [cf a1, cf a2, cf a3, if_neg a1, if_neg a2, if_neg a3, if_neg (by omega)]; rfl
theorem ccNew_bw (kind m f : Int) : (ccNewO kind m f).xBw.length = 0 := by
  unfold ccNewO newO newB
  split
  · split <;> rfl
  · split
    · split <;> rfl
    · split
      · split <;> rfl
      · rfl
theorem law_CcBegins : LawCcBegins.Pure := by
  intro M kind m f hk hm hf
  refine ⟨101, fun R k => ?_⟩
  rw [G_law19_CcBegins]
  simp only [G_law19_CcBegins, s_law19_CcBegins_1, s_law19_CcBegins_3, s_law19_CcBegins_6]
  have hb := ccNew_bw kind m f
  have hh : ∀ k : Bool → Option R, G_law19_heads capB 100 k = k true := fun k => heads19 100 k (by omega)
  rw [ccNew_k capB 97, New19_k 97, SameCc_k capB 99 _ _ (by omega) (by omega), cond_true, ct rfl]
  by_cases h : ccNewE kind m f = 0
  · have ok := ccNew_ok h
    rw [cnt h, ccCheck_k capB 89 _ _ (inC_of ok (by omega) (by omega)), if_pos ok, ct rfl, hh]
  · rw [cnf h, hh]
end
end Go.Proofs.Ytgnoidblkenglaa.M
