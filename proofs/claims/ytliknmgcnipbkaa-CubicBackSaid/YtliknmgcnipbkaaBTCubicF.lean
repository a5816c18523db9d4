/- What CUBIC is behind losses, timeouts, and at first: the program's and the document's. -/
import Derived.Test.YtliknmgcnipbkaaBTCubic2
set_option linter.unusedVariables false
set_option linter.unusedSimpArgs false
namespace Go.Proofs.Ytliknmgcnipbkaa.M
open Go Go.RowKit
noncomputable section
def fallO (c : SCc) : SCc := { c with xWmax := if c.xCwnd < c.xWmax then 17 * c.xCwnd / 20 else c.xCwnd, xSsthresh := max (2 * c.xMss) (7 * c.xCwnd / 10), xEpoch := -1, xAcc := 0 }
def movedO (f : SCc → SCc) (c : SCc) (q : Int) : SCc := if CubOk c then if 0 ≤ q ∧ q ≤ 1073741824 then f c else zCc else zCc
def movedE (c : SCc) (q : Int) : Int := if CubOk c then if 0 ≤ q ∧ q ≤ 1073741824 then 0 else 2 else 230
def shutO (c : SCc) : SCc := { fallO c with xCwnd := c.xMss }
def doneO (c : SCc) : SCc := { c with xCwnd := c.xSsthresh }
abbrev NewOk (m f : Int) : Prop := 1 ≤ m ∧ m ≤ 65000 ∧ 1 ≤ f ∧ f ≤ 100
def newO (kind epoch : Int) (m f : Int) : SCc := if NewOk m f then ⟨kind, m, m * f, 1073741824, 0, 0, epoch, 0, 0, 0, 0, [], 0, 0, 0, 0, 0, 0, 0, 0, 0, 0⟩ else zCc
def newE (m f : Int) : Int := if NewOk m f then 0 else 2
section
variable {R : Type} (cp : Nat → Nat → Bool) (n : Nat)
theorem fall_k (c : SCc) (k : Sctl → Option R) (h : CubOk c) : G_cubic_ctl_fall cp (n + 1) (ctlO c) k = k (ctlO (fallO c)) := by
  rw [G_cubic_ctl_fall]
  have e1 : mx (wr .i64 (2 * c.xMss)) (wr .i64 (Int.tdiv (wr .i64 (7 * c.xCwnd)) 10)) = max (2 * c.xMss) (7 * c.xCwnd / 10) := by
    rw [mx_max, w64_id (n := 2 * c.xMss) (by omega) (by omega), w64_id (n := 7 * c.xCwnd) (by omega) (by omega), tdiv_pos (by omega), w64_id (n := 7 * c.xCwnd / 10) (by omega) (by omega)]
  have e2 : wr .i64 (Int.tdiv (wr .i64 (17 * c.xCwnd)) 20) = 17 * c.xCwnd / 20 := by
    rw [w64_id (n := 17 * c.xCwnd) (by omega) (by omega), tdiv_pos (by omega), w64_id (n := 17 * c.xCwnd / 20) (by omega) (by omega)]
  by_cases a : c.xCwnd < c.xWmax
  · refine (ct (p := (ctlO c).xCc_Cwnd < (ctlO c).xCc_Wmax) a).trans ?_
    show k (ctlO { c with xWmax := wr .i64 (Int.tdiv (wr .i64 (17 * c.xCwnd)) 20), xSsthresh := mx (wr .i64 (2 * c.xMss)) (wr .i64 (Int.tdiv (wr .i64 (7 * c.xCwnd)) 10)), xEpoch := -1, xAcc := 0 }) = _
    rw [e1, e2]; unfold fallO; rw [if_pos a]
  · refine (cf (p := (ctlO c).xCc_Cwnd < (ctlO c).xCc_Wmax) a).trans ?_
    show k (ctlO { c with xWmax := c.xCwnd, xSsthresh := mx (wr .i64 (2 * c.xMss)) (wr .i64 (Int.tdiv (wr .i64 (7 * c.xCwnd)) 10)), xEpoch := -1, xAcc := 0 }) = _
    rw [e1]; unfold fallO; rw [if_neg a]
/-- What every move of a controller does. -/
theorem moved_any (c : SCc) (q : Int) (f : SCc → SCc) (k : SCc → Int → Option R) (hc : InR c) (X : Option R) (hX : CubOk c → X = k (f c) 0) :
    G_cubic_Check cp (n + 6) c (fun r16 => cond (!decide (r16 = 0)) (k zCc 230) (G_cubic_size cp (n + 6) [q] (fun r17 => cond (!r17) (k zCc 2) X))) = k (movedO f c q) (movedE c q) := by
  rw [Check_k cp n c _ hc.mss.1 hc.mss.2]
  unfold movedO movedE
  by_cases h : CubOk c
  case neg => rw [if_neg h, if_neg h, if_neg h]; rfl
  rw [if_pos h, if_pos h, if_pos h, cnt rfl, csize1_k cp (n + 3)]
  by_cases a1 : 0 ≤ q ∧ q ≤ 1073741824
  · rw [cnt a1, if_pos a1, if_pos a1, hX h]
  · rw [cnf a1, if_neg a1, if_neg a1]
theorem Loss_k (c : SCc) (q : Int) (k : SCc → Int → Option R) (hc : InR c) : G_cubic_Loss cp (n + 8) c q k = k (movedO fallO c q) (movedE c q) := by
  rw [G_cubic_Loss, G_cubic_moved]
  refine moved_any cp n c q fallO k hc _ fun h => ?_
  exact (fall_k cp (n + 5) c _ h).trans rfl
theorem Done_k (c : SCc) (k : SCc → Int → Option R) (hc : InR c) : G_cubic_Done cp (n + 8) c k = k (movedO doneO c 0) (movedE c 0) := by
  rw [G_cubic_Done, G_cubic_moved_b]
  refine moved_any cp n c 0 doneO k hc _ fun h => ?_
  rw [G_cubic_ctl_done]; rfl
theorem new_mul {m f : Int} (h : NewOk m f) : 1 ≤ m * f ∧ m * f ≤ 6500000 := by
  have h1 : 1 * 1 ≤ m * f := Int.mul_le_mul h.1 h.2.2.1 (by omega) (by omega)
  have h2 : m * f ≤ 65000 * 100 := Int.mul_le_mul h.2.1 h.2.2.2 (by omega) (by omega)
  omega
theorem renoNew_k (m f : Int) (k : SCc → Int → Option R) : G_reno_New cp (n + 1) m f k = k (newO 1 0 m f) (newE m f) := by
  have neg : ∀ (p : Prop) [Decidable p] (x : Option R), cond (decide p) (k zCc 2) x = cond (decide (¬ p)) x (k zCc 2) := fun p _ x => cneg
  have z : (SCc.mk 0 0 0 0 0 0 0 0 0 0 0 [] 0 0 0 0 0 0 0 0 0 0) = zCc := rfl
  simp only [G_reno_New, z]
  simp only [neg, cdd]
  refine (ciff (q := NewOk m f) (by unfold NewOk; omega)).trans ?_
  unfold newO newE
  split
  · rename_i h
    have := new_mul h
    rw [w64_id (n := m * f) (by omega) (by omega)]
  · rfl
theorem New_k (m f : Int) (k : SCc → Int → Option R) : G_cubic_New cp (n + 2) m f k = k (newO 2 (-1) m f) (newE m f) := by
  rw [G_cubic_New, renoNew_k]
  unfold newO newE
  split <;> rfl
end
end
end Go.Proofs.Ytliknmgcnipbkaa.M
