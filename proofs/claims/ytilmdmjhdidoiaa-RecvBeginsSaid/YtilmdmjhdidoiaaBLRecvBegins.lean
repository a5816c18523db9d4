/- The law RecvBegins: what a fresh receiver is. -/
import Derived.Test.YtilmdmjhdidoiaaBTRecv
import Derived.Test.YtilmdmjhdidoiaaBTRHeads
import Derived.Test.YtilmdmjhdidoiaaPuRecvBegins
set_option linter.unusedVariables false
set_option linter.unusedSimpArgs false
namespace Go.Proofs.Ytilmdmjhdidoiaa.M
open Go Go.RowKit
noncomputable section
section
variable {R : Type}
theorem pieces0_k (n : Nat) (c s w : Int) (a b d : Bool) (x y : Int) (k : Bool → Option R) : G_recv_pieces capB (n + 10) (SRecv.mk 0 [] [] c s w 0 a b (-1) false [] x y d) k = k true := by kernel_rfl
theorem CheckR_k (n : Nat) (r : SRecv) (k : Int → Option R) (hp : ∀ k : Bool → Option R, G_recv_pieces capB (n + 10) r k = k true) (h1 : NewOk r.xCap r.xShift) (h2 : r.xNext = 0) (h3 : r.xUnread.length = 0) (h4 : 0 ≤ r.xEdge ∧ r.xEdge ≤ r.xCap) (h5 : r.xFin = -1) (h6 : r.xDone = false) : G_recv_Check capB (n + 11) r k = k 0 := by
  obtain ⟨c1, c2, c3, c4⟩ := h1
  simp only [G_recv_Check, G_recv_Check, s_recv_Check_1, s_recv_Check_3, s_recv_Check_5, s_recv_Check_8, s_recv_Check_10, G_recv_reach, hp]
  have hw : wr .i64 (wr .i64 (r.xNext - (r.xUnread.length : Int)) + r.xCap) = r.xCap := by
    rw [h2, h3, w64_id (n := 0 - _) (by omega) (by omega), w64_id (by omega) (by omega)]; omega
  rw [ct (by omega), ct (by omega), ct c1, ct c2, ct c3, ct c4, mn_min, cnt (by omega), cf (by omega), hw, cf (by omega), cf (by omega), cf (by omega), cf (by omega), Bool.not_true, cond_false, h6, h5, h2]
  rfl
theorem CheckNew_k (n : Nat) (c s p2 p3 : Int) (p4 p5 : Bool) (k : Int → Option R) (h : NewOk c s) : G_recv_Check capB (n + 11) (newS c s p2 p3 p4 p5) k = k 0 := by
  obtain ⟨w1, w2, w3⟩ := win_le (r := c) ⟨h.2.2.1, h.2.2.2⟩ (by have := h.1; omega)
  exact CheckR_k n _ k (fun k => pieces0_k n c s (win c s) p4 p5 false p2 p3 k) h rfl rfl ⟨w1, w2⟩ rfl rfl
end
theorem law_RecvBegins : LawRecvBegins.Pure := by
  intro M a0 a1 a2 a3 h0 h1 h2
  refine ⟨61, fun R k => ?_⟩
  have hh := fun k : Bool → Option R => heads08 (R := R) 20 k
  show G_recv_New capB 60 a0 a1 a2 (wr .u32 (a2 + 1)) a3 (!a3) (fun r3 r4 => G_ref08_New capB 60 a0 a1 a2 (wr .u32 (a2 + 1)) a3 (!a3) (fun r5 r6 =>
    G_ref08_Same capB 60 r3 r5 (fun r11 => cond (r11) (cond (decide (r4 = r6)) (cond (!decide (r4 = 0)) (G_law08_heads capB 60 (fun r12 => k r12)) (G_recv_Check capB 60 r3 (fun r13 => cond (decide (r13 = 0)) (G_law08_heads capB 60 (fun r14 => k r14)) (k false)))) (k false)) (k false)))) = _
  rw [New_k 58]
  by_cases c : NewOk a0 a1
  · rw [if_pos c, RNew_k 58, if_pos c, Same08_k 58 _ _ (by show 0 < _; omega) (by show 0 < _; omega) (by show (0 : Int) ≤ _; omega) (by show (0 : Int) ≤ _; omega), cond_true, ct rfl, cnt rfl, CheckNew_k 49 _ _ _ _ _ _ _ c, ct rfl]
    exact hh k
  · rw [if_neg c, RNew_k 58, if_neg c, Same08_k 58 _ _ (by show 0 < _; omega) (by show 0 < _; omega) (by show (0 : Int) ≤ _; omega) (by show (0 : Int) ≤ _; omega), cond_true, ct rfl, cnf (by omega)]
    exact hh k
end
end Go.Proofs.Ytilmdmjhdidoiaa.M
