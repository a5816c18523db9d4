/- Fresh controllers, in plain numbers. -/
import Derived.Test.YtgnoidblkenglaaSTCc
set_option linter.unusedVariables false
set_option linter.unusedSimpArgs false
namespace Go.Proofs.Ytgnoidblkenglaa.M
open Go Go.RowKit
noncomputable section
abbrev NewOk (m f : Int) : Prop := 1 ≤ m ∧ m ≤ 65000 ∧ 1 ≤ f ∧ f ≤ 100
def newO (kind epoch : Int) (m f : Int) : SCc := if NewOk m f then ⟨kind, m, m * f, 1073741824, 0, 0, epoch, 0, 0, 0, 0, [], 0, 0, 0, 0, 0, 0, 0, 0, 0, 0⟩ else zCc
def newE (m f : Int) : Int := if NewOk m f then 0 else 2
section
variable {R : Type} (cp : Nat → Nat → Bool) (n : Nat)
theorem new_mul {m f : Int} (h : NewOk m f) : 1 ≤ m * f ∧ m * f ≤ 6500000 := by
  have h1 : 1 * 1 ≤ m * f := Int.mul_le_mul h.1 h.2.2.1 (by omega) (by omega)
  have h2 : m * f ≤ 65000 * 100 := Int.mul_le_mul h.2.1 h.2.2.2 (by omega) (by omega)
  omega
theorem renoNew_k (m f : Int) (k : SCc → Int → Option R) : G_reno_New cp (n + 1) m f k = k (newO 1 0 m f) (newE m f) := by
  have neg : ∀ (p : Prop) [Decidable p] (x : Option R), cond (decide p) (k zCc 2) x = cond (decide (¬ p)) x (k zCc 2) := fun p _ x => cneg
  have z : (SCc.mk 0 0 0 0 0 0 0 0 0 0 0 [] 0 0 0 0 0 0 0 0 0 0) = zCc := rfl
  simp only [G_reno_New, z]
  simp only [neg, cdd]
  refine (ciff (q := NewOk m f) (by unfold NewOk; omega)).trans ?_
  unfold newO newE
  split
  · rename_i h
    have := new_mul h
    rw [w64_id (n := m * f) (by omega) (by omega)]
  · rfl
theorem New_k (m f : Int) (k : SCc → Int → Option R) : G_cubic_New cp (n + 2) m f k = k (newO 2 (-1) m f) (newE m f) := by
  rw [G_cubic_New, renoNew_k]
  unfold newO newE
  split <;> rfl
end
end
end Go.Proofs.Ytgnoidblkenglaa.M
