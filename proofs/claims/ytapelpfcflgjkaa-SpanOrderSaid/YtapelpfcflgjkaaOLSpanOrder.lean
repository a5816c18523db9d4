/- The law SpanOrder: the order in which spans are added does not matter. -/
import Derived.Test.YtapelpfcflgjkaaOTUnion
import Derived.Test.YtapelpfcflgjkaaOTSame2
import Derived.Test.YtapelpfcflgjkaaPuSpanOrder
set_option linter.unusedVariables false
set_option linter.unusedSimpArgs false
namespace Go.Proofs.Ytapelpfcflgjkaa.M
open Go Go.RowKit
noncomputable section
theorem heads06 {R : Type} (n : Nat) (k : Bool → Option R) : G_law06_heads capB (n + 40) k = k true := by
  have : G_law06_heads capD (n + 40) k = k true := by kernel_rfl
  rwa [capB_eq]
theorem law_SpanOrder : LawSpanOrder.Pure := by
  intro M l s t hl hs ht
  obtain ⟨m, hm⟩ : ∃ m, m = l.length + 60 := ⟨_, rfl⟩
  refine ⟨m + 12, fun R k => ?_⟩
  have hh : ∀ k : Bool → Option R, G_law06_heads capB (m + 11) k = k true := fun k => by
    obtain ⟨j, rfl⟩ : ∃ j, m = j + 40 := ⟨m - 40, by omega⟩
    exact heads06 (j + 11) k
  show G_span_Add capB (m + 11) l s (fun r7 r8 => G_span_Add capB (m + 11) l t (fun r9 r10 => cond (!decide (r8 = 0)) (G_law06_heads capB (m + 11) k) (cond (!decide (r10 = 0)) (G_law06_heads capB (m + 11) k) (G_span_Add capB (m + 11) r7 t (fun r16 r17 => G_span_Add capB (m + 11) r9 s (fun r18 r19 => cond (decide (r17 = 0)) (cond (decide (r19 = 0)) (G_ref06_Same capB (m + 11) r16 r18 (fun r20 => cond (r20) (G_law06_heads capB (m + 11) k) (k false))) (k false)) (k false))))))) = _
  rw [AddS_k (m + 10) l s _ (by omega) (by omega)]
  by_cases c1 : Ok 0 l ∧ SpOk s
  case neg =>
    rw [if_neg c1, AddS_k (m + 10) l t _ (by omega) (by omega)]
    have e : ¬ ((if Ok 0 l then (2 : Int) else 60) = 0) := by split <;> omega
    split <;> rw [cnf e, hh]
  rw [if_pos c1, AddS_k (m + 10) l t _ (by omega) (by omega)]
  by_cases c2 : Ok 0 l ∧ SpOk t
  case neg =>
    rw [if_neg c2]
    have e : ¬ ((if Ok 0 l then (2 : Int) else 60) = 0) := by split <;> omega
    rw [cnt rfl, cnf e, hh]
  have a1 := addS_length s l
  have a2 := addS_length t l
  have a3 := addS_length t (addS s l)
  rw [if_pos c2, cnt rfl, cnt rfl, AddS_k (m + 10) _ t _ (by omega) (by omega), if_pos ⟨addS_Ok c1.1 c1.2, c2.2⟩, AddS_k (m + 10) _ s _ (by omega) (by omega), if_pos ⟨addS_Ok c2.1 c2.2, c1.2⟩,
    ct rfl, ct rfl, addS_comm c1.1 c1.2 c2.2, Same06_k capB (m + 10) _ _ (by rw [← addS_comm c1.1 c1.2 c2.2]; omega) (by rw [← addS_comm c1.1 c1.2 c2.2]; omega), cond_true, hh]
end
end Go.Proofs.Ytapelpfcflgjkaa.M
