/- What CUBIC is behind losses, timeouts, and at first: the program's and the document's. -/
import Derived.Test.YtgnoidblkenglaaSTCubic2
import Derived.Test.YtgnoidblkenglaaSTNew
set_option linter.unusedVariables false
set_option linter.unusedSimpArgs false
namespace Go.Proofs.Ytgnoidblkenglaa.M
open Go Go.RowKit
noncomputable section
def fallO (c : SCc) : SCc := { c with xWmax := if c.xCwnd < c.xWmax then 17 * c.xCwnd / 20 else c.xCwnd, xSsthresh := max (2 * c.xMss) (7 * c.xCwnd / 10), xEpoch := -1, xAcc := 0 }
def movedO (f : SCc → SCc) (c : SCc) (q : Int) : SCc := if CubOk c then if 0 ≤ q ∧ q ≤ 1073741824 then f c else zCc else zCc
def movedE (c : SCc) (q : Int) : Int := if CubOk c then if 0 ≤ q ∧ q ≤ 1073741824 then 0 else 2 else 230
def shutO (c : SCc) : SCc := { fallO c with xCwnd := c.xMss }
def doneO (c : SCc) : SCc := { c with xCwnd := c.xSsthresh }
section
variable {R : Type} (cp : Nat → Nat → Bool) (n : Nat)
theorem fall_k (c : SCc) (k : ST85 → Option R) (h : CubOk c) : G_cubic_ctl_fall cp (n + 1) (ctlO c) k = k (ctlO (fallO c)) := by
  rw [G_cubic_ctl_fall]
  have e1 : mx (wr .i64 (2 * c.xMss)) (wr .i64 (Int.tdiv (wr .i64 (7 * c.xCwnd)) 10)) = max (2 * c.xMss) (7 * c.xCwnd / 10) := by
    rw [mx_max, w64_id (n := 2 * c.xMss) (by omega) (by omega), w64_id (n := 7 * c.xCwnd) (by omega) (by omega), tdiv_pos (by omega), w64_id (n := 7 * c.xCwnd / 10) (by omega) (by omega)]
  have e2 : wr .i64 (Int.tdiv (wr .i64 (17 * c.xCwnd)) 20) = 17 * c.xCwnd / 20 := by
    rw [w64_id (n := 17 * c.xCwnd) (by omega) (by omega), tdiv_pos (by omega), w64_id (n := 17 * c.xCwnd / 20) (by omega) (by omega)]
  by_cases a : c.xCwnd < c.xWmax
  · refine (ct (p := (ctlO c).xCc_Cwnd < (ctlO c).xCc_Wmax) a).trans ?_
    show k (ctlO { c with xWmax := wr .i64 (Int.tdiv (wr .i64 (17 * c.xCwnd)) 20), xSsthresh := mx (wr .i64 (2 * c.xMss)) (wr .i64 (Int.tdiv (wr .i64 (7 * c.xCwnd)) 10)), xEpoch := -1, xAcc := 0 }) = _
    rw [e1, e2]; unfold fallO; rw [if_pos a]
  · refine (cf (p := (ctlO c).xCc_Cwnd < (ctlO c).xCc_Wmax) a).trans ?_
    show k (ctlO { c with xWmax := c.xCwnd, xSsthresh := mx (wr .i64 (2 * c.xMss)) (wr .i64 (Int.tdiv (wr .i64 (7 * c.xCwnd)) 10)), xEpoch := -1, xAcc := 0 }) = _
    rw [e1]; unfold fallO; rw [if_neg a]
/-- What every move of a controller does. -/
theorem moved_any (c : SCc) (q : Int) (f : SCc → SCc) (k : SCc → Int → Option R) (hc : InR c) (X : Option R) (hX : CubOk c → X = k (f c) 0) :
    G_cubic_Check cp (n + 6) c (fun r16 => cond (!decide (r16 = 0)) (k zCc 230) (G_cubic_size cp (n + 6) [q] (fun r17 => cond (!r17) (k zCc 2) X))) = k (movedO f c q) (movedE c q) := by
  rw [Check_k cp n c _ hc.mss.1 hc.mss.2]
  unfold movedO movedE
  by_cases h : CubOk c
  case neg => rw [if_neg h, if_neg h, if_neg h]; rfl
  rw [if_pos h, if_pos h, if_pos h, cnt rfl, csize1_k cp (n + 3)]
  by_cases a1 : 0 ≤ q ∧ q ≤ 1073741824
  · rw [cnt a1, if_pos a1, if_pos a1, hX h]
  · rw [cnf a1, if_neg a1, if_neg a1]
theorem Loss_k (c : SCc) (q : Int) (k : SCc → Int → Option R) (hc : InR c) : G_cubic_Loss cp (n + 8) c q k = k (movedO fallO c q) (movedE c q) := by
  rw [G_cubic_Loss, G_cubic_moved]
  refine moved_any cp n c q fallO k hc _ fun h => ?_
  exact (fall_k cp (n + 5) c _ h).trans rfl
theorem Timeout_k (c : SCc) (q : Int) (k : SCc → Int → Option R) (hc : InR c) : G_cubic_Timeout cp (n + 8) c q k = k (movedO shutO c q) (movedE c q) := by
  rw [G_cubic_Timeout, G_cubic_moved_b]
  refine moved_any cp n c q shutO k hc _ fun h => ?_
  rw [G_cubic_ctl_shut]
  exact (fall_k cp (n + 4) c _ h).trans rfl
end
end
end Go.Proofs.Ytgnoidblkenglaa.M
