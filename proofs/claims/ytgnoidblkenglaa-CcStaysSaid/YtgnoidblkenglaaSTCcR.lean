/- The document's three controllers behind one face, at rest, limited, and paced. -/
import Derived.Test.YtgnoidblkenglaaSTCcx
set_option linter.unusedVariables false
set_option linter.unusedSimpArgs false
namespace Go.Proofs.Ytgnoidblkenglaa.M
open Go Go.RowKit
noncomputable section
section
variable {R : Type} (cp : Nat → Nat → Bool) (n : Nat)
def limitO (c : SCc) (w : Int) : SCc := if CcOk c then if Sz w then { c with xCwnd := max c.xMss w } else zCc else zCc
def limitE (c : SCc) (w : Int) : Int := if CcOk c then if Sz w then 0 else 2 else 230
theorem Limit_k (c : SCc) (w : Int) (k : SCc → Int → Option R) (h : InC c n) : G_cc_Limit cp (n + 13) c w k = k (limitO c w) (limitE c w) := by
  rw [G_cc_Limit, ccsize_k cp (n + 11), asked_k cp n c _ _ h]
  unfold limitO limitE
  by_cases a : CcOk c
  case neg => simp only [if_neg a]; rfl
  by_cases b : Sz w
  · simp only [if_pos a, if_pos b, decide_eq_true b, if_true]; rw [cnt trivial, mx_max]
  · simp only [if_pos a, if_neg b, decide_eq_false b]; rfl
/-- How fast to pace, in hundredths. -/
def gainO (c : SCc) : Int := if c.xMode = 1 then 289 else if c.xMode = 2 then 35 else if c.xMode = 3 then if c.xPhase = 0 then 125 else if c.xPhase = 1 then 75 else 100 else 100
theorem best_range {c : SCc} (h : BbrOk c) : 0 ≤ bestO c.xBw ∧ bestO c.xBw ≤ 1099511627776 := by
  obtain ⟨_, _, _, _, _, _, _, _, _, _, _, _, _, _, _, _, _, _, _, _, h1, h2⟩ := h
  cases hb : c.xBw with
  | nil => show 0 ≤ (0 : Int) ∧ (0 : Int) ≤ 1099511627776; omega
  | cons e r =>
    rw [hb] at h1 h2
    simp only [fchain, fmay, fin18, List.all_cons, Bool.and_eq_true, decide_eq_true_eq] at h1 h2
    show 0 ≤ e.xV ∧ e.xV ≤ 1099511627776; omega
theorem Gain_k (c : SCc) (k : Int → Option R) (h : InC c n) (hb : BbrOk c) : G_bbr_Gain cp (n + 11) c k = k (gainO c) := by
  rw [G_bbr_Gain, bCheck_k cp n c _ h.len h.fit, if_pos hb, cnt rfl]
  unfold gainO
  by_cases a1 : c.xMode = 1
  · rw [ct a1, if_pos a1]
  by_cases a2 : c.xMode = 2
  · rw [cf a1, ct a2, if_neg a1, if_pos a2]
  rw [cf a1, cf a2, if_neg a1, if_neg a2]
  by_cases a3 : c.xMode = 3
  case neg => rw [cf a3, cf a3, if_neg a3]
  rw [ct a3, if_pos a3]
  by_cases b0 : c.xPhase = 0
  · rw [ct b0, if_pos b0]
  rw [cf b0, if_neg b0, ct a3]
  by_cases b1 : c.xPhase = 1
  · rw [ct b1, if_pos b1]
  · rw [cf b1, if_neg b1]
theorem bandwidth_k (q : ST68) (k : Int → ST68 → Option R) : G_bbr_ctl_bandwidth cp (n + 2) q k = k (bestO q.xCc_Bw) q := by
  rw [G_bbr_ctl_bandwidth]
  obtain ⟨b, e⟩ := Best_k cp n q.xCc_Bw (fun r35 r36 => k r35 q)
  exact e
theorem Bandwidth_k (c : SCc) (k : Int → Option R) (h : InC c n) (hb : BbrOk c) : G_bbr_Bandwidth cp (n + 11) c k = k (bestO c.xBw) := by
  rw [G_bbr_Bandwidth, bCheck_k cp n c _ h.len h.fit, if_pos hb, cnt rfl, bandwidth_k]
def paceR (c : SCc) : Int := if c.xKind = 3 then gainO c * bestO c.xBw / 100 else 0
def paceG (c : SCc) : Int := if c.xKind = 3 then 289 else if c.xCwnd < c.xSsthresh then 200 else 120
def paceT (s : Int) : Int := if s < 1 then 1000 else min s 1125899906842624
def paceO (c : SCc) (s f : Int) : Int := if CcOk c then min 1099511627776 (max (max 1 f) (if paceR c = 0 then mdv c.xCwnd (paceG c * 1000000) (100 * paceT s) else paceR c)) else 0
theorem gain_range (c : SCc) : 0 ≤ gainO c ∧ gainO c ≤ 289 := by unfold gainO; repeat' split <;> omega
theorem pace_w {c : SCc} (h : BbrOk c) : wr .i64 (Int.tdiv (wr .i64 (gainO c * bestO c.xBw)) 100) = gainO c * bestO c.xBw / 100 := by
  obtain ⟨b0, b1⟩ := best_range h
  obtain ⟨g0, g1⟩ := gain_range c
  have p0 : 0 ≤ gainO c * bestO c.xBw := Int.mul_nonneg g0 b0
  have p1 : gainO c * bestO c.xBw ≤ 289 * 1099511627776 := mul_le g0 g1 b0 b1
  rw [w64_id (n := gainO c * bestO c.xBw) (by omega) (by omega), tdiv_pos p0, w64_id (by omega) (by omega)]
theorem pace_rest (c : SCc) (s f g r : Int) (k : Int → Option R) (hn : 5 ≤ n) (hc : 0 ≤ c.xCwnd ∧ c.xCwnd ≤ 1073741824) (hg : 0 ≤ g ∧ g ≤ 289) (s0 : -9223372036854775808 ≤ s) (s1 : s ≤ 9223372036854775807) :
    s_cc_Pace_4 cp n c s f g r k = k (min 1099511627776 (max (max 1 f) (if r = 0 then mdv c.xCwnd (g * 1000000) (100 * paceT s) else r))) := by
  obtain ⟨m, rfl⟩ : ∃ m, n = m + 1 := ⟨n - 1, by omega⟩
  simp only [s_cc_Pace_4]
  by_cases a : r = 0
  case neg => rw [cf a, if_neg a, mn_min, mx_max, mx_max]
  rw [ct a, if_pos a]
  unfold paceT
  by_cases b : s < 1
  · rw [ct (by rw [mn_min]; omega), if_pos b, w64_id (n := g * 1000000) (by omega) (by omega), w64_id (n := 100 * 1000) (by omega) (by omega), MulDiv_k cp m _ _ _ _ (by omega) (by omega) (by omega) (by omega), mn_min, mx_max, mx_max]
  · rw [cf (by rw [mn_min]; omega), if_neg b, w64_id (n := g * 1000000) (by omega) (by omega), mn_min s, w64_id (n := 100 * _) (by omega) (by omega), MulDiv_k cp m _ _ _ _ (by omega) (by omega) (by omega) (by omega), mn_min, mx_max, mx_max]
theorem Pace_k (c : SCc) (s f : Int) (k : Int → Option R) (h : InC c n) (s0 : -9223372036854775808 ≤ s) (s1 : s ≤ 9223372036854775807) : G_cc_Pace cp (n + 13) c s f k = k (paceO c s f) := by
  rw [G_cc_Pace, s_cc_Pace_7, s_cc_Pace_1, ccCheck_k cp (n + 1) c _ ⟨h.r, h.len, by have := h.fit; omega⟩]
  unfold paceO paceR paceG
  by_cases a : CcOk c
  case neg => rw [if_neg a, if_neg a]; rfl
  rw [if_pos a, if_pos a, cnt rfl]
  have hc := cwnd_of a
  by_cases a3 : c.xKind = 3
  · have hb : BbrOk c := (ccOk3 (by omega) (by omega)).1 a
    rw [ct a3, if_pos a3, if_pos a3, Gain_k cp (n + 1) c _ ⟨h.r, h.len, by have := h.fit; omega⟩ hb, Bandwidth_k cp (n + 1) c _ ⟨h.r, h.len, by have := h.fit; omega⟩ hb, pace_w hb, pace_rest cp (n + 12) c s f _ _ _ (by omega) (by omega) (by omega) s0 s1]
  · rw [cf a3, if_neg a3, if_neg a3]
    by_cases b : c.xCwnd < c.xSsthresh
    · rw [ct b, if_pos b, pace_rest cp (n + 12) c s f _ _ _ (by omega) (by omega) (by omega) s0 s1]
    · rw [cf b, if_neg b, pace_rest cp (n + 12) c s f _ _ _ (by omega) (by omega) (by omega) s0 s1]
end
end
end Go.Proofs.Ytgnoidblkenglaa.M
