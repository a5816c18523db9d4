/- What is gathered of the blocks; what must come at any rate. -/
import Derived.Test.YtfdopmobhphdbaaTAck
import Derived.KernelRfl
set_option linter.unusedVariables false
set_option linter.unusedSimpArgs false
namespace Go.Proofs.Ytfdopmobhphdbaa.M
open Go Go.RowKit
theorem aside_no {tw : Bool} {lo hi : Int} {i : Nat} {b : SSpan} (h : ¬ aside tw lo hi i b = true) : lo ≤ b.xFrom ∧ b.xFrom < b.xTo ∧ b.xTo ≤ hi := by
  simp only [aside, Bool.or_eq_true, decide_eq_true_eq, not_or] at h
  omega
theorem gather_Ok {tw : Bool} {lo hi : Int} (h0 : 0 ≤ lo) (h1 : hi ≤ 1125899906842624) : ∀ (l : List SSpan) (i : Nat) (acc : List SSpan), Ok 0 acc → Ok 0 (gather tw lo hi i acc l)
  | [], i, acc, h => h
  | b :: r, i, acc, h => by
    unfold gather
    refine gather_Ok h0 h1 r _ _ ?_
    split
    · exact h
    · rename_i c
      have := aside_no c
      exact add_Ok _ _ acc 0 h (by omega) (by omega) (by omega)
theorem gather_in {tw : Bool} {lo hi : Int} : ∀ (l : List SSpan) (i : Nat) (acc : List SSpan), (∀ x ∈ acc, lo ≤ x.xFrom ∧ x.xTo ≤ hi) → ∀ x ∈ gather tw lo hi i acc l, lo ≤ x.xFrom ∧ x.xTo ≤ hi
  | [], i, acc, h => h
  | b :: r, i, acc, h => by
    unfold gather
    refine gather_in r _ _ ?_
    split
    · exact h
    · rename_i c
      have := aside_no c
      exact add_in lo hi _ _ acc h (by omega) (by omega)
theorem gather_length {tw : Bool} {lo hi : Int} : ∀ (l : List SSpan) (i : Nat) (acc : List SSpan), (gather tw lo hi i acc l).length ≤ acc.length + l.length
  | [], i, acc => by simp [gather]
  | b :: r, i, acc => by
    unfold gather
    refine Nat.le_trans (gather_length r _ _) ?_
    split
    · simp
    · have := add_length b.xFrom b.xTo acc
      simp; omega
theorem heads22D {R : Type} (n : Nat) (k : Bool → Option R) : G_law22_heads capD (n + 40) k = k true := by kernel_rfl
theorem heads22 {R : Type} (n : Nat) (k : Bool → Option R) : G_law22_heads capB (n + 40) k = k true := by rw [capB_eq]; exact heads22D n k
theorem heads22' {R : Type} {n : Nat} (h : 40 ≤ n) (k : Bool → Option R) : G_law22_heads capB n k = k true := by
  obtain ⟨m, rfl⟩ : ∃ m, n = m + 40 := ⟨n - 40, by omega⟩
  exact heads22 m k
end Go.Proofs.Ytfdopmobhphdbaa.M
