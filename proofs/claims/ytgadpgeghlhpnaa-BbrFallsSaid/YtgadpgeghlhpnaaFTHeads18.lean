/- What must come at any rate. -/
import Derived.Test.YtgadpgeghlhpnaaFTBbrB
set_option linter.unusedVariables false
set_option linter.unusedSimpArgs false
namespace Go.Proofs.Ytgadpgeghlhpnaa.M
open Go Go.RowKit
noncomputable section
theorem heads18_D {R : Type} (n : Nat) (k : Bool → Option R) : G_law18_heads capD (n + 40) k = k true := by kernel_rfl
theorem heads18 {R : Type} (n : Nat) (k : Bool → Option R) (h : 40 ≤ n) : G_law18_heads capB n k = k true := by
  obtain ⟨m, rfl⟩ : ∃ m, n = m + 40 := ⟨n - 40, by omega⟩
  rw [capB_eq]; exact heads18_D m k
def newB (m f : Int) : SCc := if NewOk m f then ⟨3, m, m * f, 1073741824, 0, 0, 0, 0, 0, 0, 1, [], 0, 0, 0, 0, 0, 0, 0, 0, 0, 0⟩ else zCc
theorem bNew_k {R : Type} (cp : Nat → Nat → Bool) (n : Nat) (m f : Int) (k : SCc → Int → Option R) : G_bbr_New cp (n + 2) m f k = k (newB m f) (newE m f) := by
  rw [G_bbr_New, renoNew_k]
  unfold newO newE newB
  split <;> rfl
theorem newB_ok {m f : Int} (h : NewOk m f) : BbrOk (newB m f) := by
  have hm := new_mul h
  have h1 : m ≤ m * f := by have := Int.mul_le_mul_of_nonneg_left h.2.2.1 (show 0 ≤ m by omega); omega
  unfold newB
  rw [if_pos h]
  simp only [BbrOk, NoCub]
  simp [fchain, fin18]; omega
theorem bBandwidth_k {R : Type} (cp : Nat → Nat → Bool) (n : Nat) (c : SCc) (k : Int → Option R) (hl : c.xBw.length < 9223372036854775807) (hn : c.xBw.length ≤ n) (hb : BbrOk c) : G_bbr_Bandwidth cp (n + 11) c k = k (bestO c.xBw) := by
  rw [G_bbr_Bandwidth, bCheck_k cp n c _ hl hn, if_pos hb, cnt rfl]
  exact bw_k (n + 8) cp (ofC c) _
end
end Go.Proofs.Ytgadpgeghlhpnaa.M
