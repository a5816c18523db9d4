/- Clamps, cube roots, and the document's sums and products, in plain numbers. -/
import Derived.Test.YtgadpgeghlhpnaaYTSeq
import Derived.Test.YtgadpgeghlhpnaaYTDiv
set_option linter.unusedVariables false
set_option linter.unusedSimpArgs false
namespace Go.Proofs.Ytgadpgeghlhpnaa.M
open Go Go.RowKit
section
variable {R : Type} (cp : Nat → Nat → Bool) (n : Nat)
theorem Clamp_k (x lo hi : Int) (k : Int → Option R) : G_seq_Clamp cp (n + 1) x lo hi k = k (max lo (min x hi)) := by
  simp only [G_seq_Clamp]; rw [mx_max, mn_min]
/-! Cube roots. -/
structure IsCbrt (n r : Int) : Prop where
  r0 : 0 ≤ r
  r1 : r ≤ 2097151
  le : r = 0 ∨ r * r * r ≤ n
  lt : r = 2097151 ∨ n < (r + 1) * (r + 1) * (r + 1)

theorem cube_le {a b : Int} (h0 : 0 ≤ a) (h : a ≤ b) : a * a * a ≤ b * b * b := mul_le (Int.mul_nonneg h0 h0) (mul_le h0 h h0 h) h0 h
theorem cube_max {a : Int} (h0 : 0 ≤ a) (h : a ≤ 2097151) : 0 ≤ a * a ∧ a * a ≤ 4398042316801 ∧ 0 ≤ a * a * a ∧ a * a * a ≤ 9223358842721533951 := by
  have h1 := mul_le h0 h h0 h
  have h2 := cube_le h0 h
  exact ⟨Int.mul_nonneg h0 h0, by omega, Int.mul_nonneg (Int.mul_nonneg h0 h0) h0, by omega⟩
theorem IsCbrt.unique {n r s : Int} (h : IsCbrt n r) (g : IsCbrt n s) : r = s := by
  rcases Int.lt_trichotomy r s with hl | he | hl
  · have := cube_le (show 0 ≤ r + 1 by have := h.r0; omega) (show r + 1 ≤ s by omega)
    have := h.lt; have := g.le; have := g.r1; have := h.r0; omega
  · exact he
  · have := cube_le (show 0 ≤ s + 1 by have := g.r0; omega) (show s + 1 ≤ r by omega)
    have := g.lt; have := h.le; have := h.r1; have := g.r0; omega

end
end Go.Proofs.Ytgadpgeghlhpnaa.M
