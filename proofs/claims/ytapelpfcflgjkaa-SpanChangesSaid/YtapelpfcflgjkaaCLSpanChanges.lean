/- The law SpanChanges: a row behind a span more, or less, is what the document says. -/
import Derived.Test.YtapelpfcflgjkaaCTSpanRef
import Derived.Test.YtapelpfcflgjkaaCTSame2
import Derived.Test.YtapelpfcflgjkaaPuSpanChanges
set_option linter.unusedVariables false
set_option linter.unusedSimpArgs false
namespace Go.Proofs.Ytapelpfcflgjkaa.M
open Go Go.RowKit
noncomputable section
theorem heads06 {R : Type} (n : Nat) (k : Bool → Option R) : G_law06_heads capB (n + 40) k = k true := by
  have : G_law06_heads capD (n + 40) k = k true := by kernel_rfl
  rwa [capB_eq]
theorem law_SpanChanges : LawSpanChanges.Pure := by
  intro M l s hl hs
  obtain ⟨m, hm⟩ : ∃ m, m = l.length + 60 := ⟨_, rfl⟩
  refine ⟨m + 12, fun R k => ?_⟩
  have hh : ∀ k : Bool → Option R, G_law06_heads capB (m + 11) k = k true := fun k => by
    obtain ⟨j, rfl⟩ : ∃ j, m = j + 40 := ⟨m - 40, by omega⟩
    exact heads06 (j + 11) k
  have hS : ∀ (r : List SSpan) (k : Bool → Option R), r.length ≤ l.length + 1 → G_ref06_Same capB (m + 11) r r k = k true := fun r k h => Same06_k capB (m + 10) r k (by omega) (by omega)
  show cond (capB (([] : List SSpan).length + l.length) 16) (G_span_Add capB (m + 11) l s (fun r13 r14 => G_ref06_Add capB (m + 11) l s (fun r15 r16 => G_span_Cut capB (m + 11) l s (fun r17 r18 => G_ref06_Cut capB (m + 11) l s (fun r19 r20 =>
    G_ref06_Same capB (m + 11) r13 r15 (fun r30 => cond (r30) (cond (decide (r14 = r16)) (G_ref06_Same capB (m + 11) r17 r19 (fun r31 => cond (r31) (cond (decide (r18 = r20)) (G_span_Check capB (m + 11) l (fun r32 => G_ref06_Check capB (m + 11) l (fun r33 => cond (decide (r32 = r33)) (G_ref06_Same capB (m + 11) l l (fun r34 => cond (r34) (G_law06_heads capB (m + 11) (fun r57 => k r57)) (k false))) (k false)))) (k false)) (k false))) (k false)) (k false))))))) none = _
  rw [cap_ok (by simp only [List.length_nil]; omega), AddS_k (m + 10) l s _ (by omega) (by omega)]
  have hc := Check_k (R := R) capB (m + 10) l
  have hr := RCheck_k (R := R) capB (m + 10) l
  by_cases c : Ok 0 l ∧ SpOk s
  · rw [if_pos c, RAdd_k (m + 10) l s _ (by omega) (by omega), if_pos c, Cut_k (m + 10) l s _ (by omega) (by omega), if_pos c, RCut_k (m + 10) l s _ (by omega) (by omega), if_pos c,
      hS _ _ (addS_length s l), cond_true, ct rfl, hS _ _ (cutS_length c.1 c.2), cond_true, ct rfl, hc _ (by omega) (by omega), hr _ (by omega) (by omega), ct rfl, hS _ _ (by omega), cond_true, hh]
  · rw [if_neg c, RAdd_k (m + 10) l s _ (by omega) (by omega), if_neg c, Cut_k (m + 10) l s _ (by omega) (by omega), if_neg c, RCut_k (m + 10) l s _ (by omega) (by omega), if_neg c,
      hS _ _ (by simp), cond_true, ct rfl, hS _ _ (by simp), cond_true, ct rfl, hc _ (by omega) (by omega), hr _ (by omega) (by omega), ct rfl, hS _ _ (by omega), cond_true, hh]
end
end Go.Proofs.Ytapelpfcflgjkaa.M
