/- What the program's CUBIC and the document's make of an acknowledgement, in plain numbers. -/
import Derived.Test.YtgnoidblkenglaaSTCubic
set_option linter.unusedVariables false
set_option linter.unusedSimpArgs false
namespace Go.Proofs.Ytgnoidblkenglaa.M
open Go Go.RowKit
noncomputable section
section
variable {R : Type} (cp : Nat → Nat → Bool) (n : Nat)
/-- The same numbers as a controller on its way. -/
def ctlO (c : SCc) : ST85 := ⟨c.xKind, c.xMss, c.xCwnd, c.xSsthresh, c.xAcc, c.xWmax, c.xEpoch, c.xK, c.xWest, c.xStart, c.xMode, c.xBw, c.xMinRtt, c.xMinAt, c.xRound, c.xNextAt, c.xFull, c.xFullN, c.xPhase, c.xPhaseAt, c.xDoneAt, c.xPrior⟩
theorem Cbrt_o (N : Int) (k : Int → Option R) (hn : 22 ≤ n) : G_seq_Cbrt cp (n + 1) N k = k (cbrtO N) := by
  obtain ⟨r, h, e⟩ := Cbrt_k (R := R) cp n N hn
  rw [e, cbrtO_eq h]
theorem cbrtO_range (N : Int) : 0 ≤ cbrtO N ∧ cbrtO N ≤ 2097151 := by
  obtain ⟨r, h, _⟩ := Cbrt_k (R := Unit) (fun _ _ => true) 22 N (by omega)
  rw [cbrtO_eq h]; exact ⟨h.r0, h.r1⟩
theorem begin_k (c : SCc) (now : Int) (k : ST85 → Option R) (hn : 24 ≤ n) (h : CubOk c) : G_cubic_ctl_begin cp (n + 1) now (ctlO c) k = k (ctlO (beginO c now)) := by
  rw [G_cubic_ctl_begin]
  obtain ⟨m, rfl⟩ : ∃ m, n = m + 2 := ⟨n - 2, by omega⟩
  by_cases a : c.xCwnd < c.xWmax
  · refine (ct (p := (ctlO c).xCc_Cwnd < (ctlO c).xCc_Wmax) a).trans ?_
    show (G_cubic_by cp (m + 2) (wr .i64 (c.xWmax - c.xCwnd)) 10000000000 (wr .i64 (4 * c.xMss)) fun r73 => G_seq_Cbrt cp (m + 2) r73 fun r83 => k (ctlO { c with xEpoch := now, xStart := c.xCwnd, xWest := c.xCwnd, xK := r83 })) = _
    rw [w64_id (n := c.xWmax - c.xCwnd) (by omega) (by omega), w64_id (n := 4 * c.xMss) (by omega) (by omega), by_k cp m _ _ _ _ (by omega) (by omega) (by omega) (by omega), Cbrt_o cp (m + 1) _ _ (by omega)]
    unfold beginO
    rw [if_pos a]
  · refine (cf (p := (ctlO c).xCc_Cwnd < (ctlO c).xCc_Wmax) a).trans ?_
    unfold beginO
    rw [if_neg a]; rfl
/-- Behind the begin of an epoch a controller may be. -/
theorem begin_ok {c : SCc} {now : Int} (h : CubOk c) (h0 : 0 ≤ now) (h1 : now ≤ 1125899906842624) : CubOk (beginO c now) ∧ 0 ≤ (beginO c now).xEpoch := by
  have := cbrtO_range (mdv (c.xWmax - c.xCwnd) 10000000000 (4 * c.xMss))
  unfold beginO
  split <;> simp only [CubOk, Com, NoBbr] at h ⊢ <;> omega
theorem inR_of {c : SCc} (h : CubOk c) : InR c := ⟨by omega, by omega⟩
theorem curveO_range (c : SCc) (t : Int) : 0 ≤ curveO c t ∧ curveO c t ≤ 1073741824 := by unfold curveO; split <;> omega
theorem wide_k (c : SCc) (now srtt : Int) (h : CubOk c) (he : 0 ≤ c.xEpoch) (h0 : 0 ≤ now) (h1 : now ≤ 1125899906842624) (h2 : 0 ≤ srtt) (h3 : srtt ≤ 1125899906842624) :
    wr .i64 (Int.tdiv (wr .i64 (mx 0 (wr .i64 (now - c.xEpoch)) + srtt)) 1000) = (max 0 (now - c.xEpoch) + srtt) / 1000 ∧ wr .i64 (Int.tdiv (wr .i64 (mx (wr .i64 (now - c.xEpoch)) 0 + srtt)) 1000) = (max 0 (now - c.xEpoch) + srtt) / 1000 ∧
    wr .i64 (c.xCwnd + wr .i64 (Int.tdiv c.xCwnd 2)) = c.xCwnd + c.xCwnd / 2 ∧ wr .i64 (529 * c.xMss) = 529 * c.xMss ∧ wr .i64 (1000 * c.xCwnd) = 1000 * c.xCwnd ∧
    0 ≤ wideO c now srtt - c.xCwnd ∧ wideO c now srtt - c.xCwnd ≤ 1073741824 := by
  rw [mx_max, mx_max, w64_id (n := now - c.xEpoch) (by omega) (by omega), w64_id (n := max 0 (now - c.xEpoch) + srtt) (by omega) (by omega), w64_id (n := max (now - c.xEpoch) 0 + srtt) (by omega) (by omega), tdiv_pos (by omega), tdiv_pos (by omega), tdiv_pos (by omega)]
  rw [w64_id (n := (max 0 (now - c.xEpoch) + srtt) / 1000) (by omega) (by omega), w64_id (n := c.xCwnd / 2) (by omega) (by omega), w64_id (n := c.xCwnd + _) (by omega) (by omega), w64_id (n := 529 * _) (by omega) (by omega), w64_id (n := 1000 * _) (by omega) (by omega), Int.max_comm (now - c.xEpoch) 0,
    w64_id (n := (max 0 (now - c.xEpoch) + srtt) / 1000) (by omega) (by omega)]
  have := curveO_range c ((max 0 (now - c.xEpoch) + srtt) / 1000)
  unfold wideO
  refine ⟨rfl, rfl, rfl, rfl, rfl, ?_, ?_⟩ <;> omega
theorem grow_rest (c : SCc) (q now srtt : Int) (k : SCc → Option R) (hn : 12 ≤ n) (h : CubOk c) (he : 0 ≤ c.xEpoch) (q0 : 0 ≤ q) (q1 : q ≤ 1073741824) (h0 : 0 ≤ now) (h1 : now ≤ 1125899906842624) (h2 : 0 ≤ srtt) (h3 : srtt ≤ 1125899906842624) :
    (G_cubic_Curve cp n c (wr .i64 (Int.tdiv (wr .i64 (mx 0 (wr .i64 (now - c.xEpoch)) + srtt)) 1000)) fun r24 => G_seq_Clamp cp n r24 c.xCwnd (wr .i64 (c.xCwnd + wr .i64 (Int.tdiv c.xCwnd 2))) fun r25 => G_cubic_by cp n (wr .i64 (529 * c.xMss)) q (wr .i64 (1000 * c.xCwnd)) fun r26 => G_seq_Sum cp n c.xWest r26 fun r27 =>
      G_cubic_by cp n (wr .i64 (r25 - c.xCwnd)) q c.xCwnd fun r30 => G_seq_Sum cp n c.xCwnd r30 fun r31 => k { c with xWest := mn 1073741824 r27, xCwnd := mn 1073741824 (mx (mn 1073741824 r27) r31) }) = k (growO c q now srtt) := by
  obtain ⟨m, rfl⟩ : ∃ m, n = m + 2 := ⟨n - 2, by omega⟩
  obtain ⟨e1, _, e2, e3, e4, e5, e6⟩ := wide_k c now srtt h he h0 h1 h2 h3
  have a1 := mdv_range (529 * c.xMss) q (1000 * c.xCwnd)
  have a2 := mdv_range (wideO c now srtt - c.xCwnd) q c.xCwnd
  rw [e1, e2, e3, e4, Curve_k cp (m + 1) c _ _ (by omega) (inR_of h) (by omega) (by omega), Clamp_k]
  show (G_cubic_by cp (m + 2) _ _ _ fun r26 => G_seq_Sum cp (m + 2) c.xWest r26 fun r27 => G_cubic_by cp (m + 2) (wr .i64 (wideO c now srtt - c.xCwnd)) q c.xCwnd fun r30 => G_seq_Sum cp (m + 2) c.xCwnd r30 fun r31 => k { c with xWest := mn 1073741824 r27, xCwnd := mn 1073741824 (mx (mn 1073741824 r27) r31) }) = _
  rw [by_k cp m _ _ _ _ (by omega) (by omega) (by omega) (by omega), Sum_k cp (m + 1) _ _ _ (by omega) (by omega) (by omega) (by omega), w64_id (n := wideO c now srtt - c.xCwnd) (by omega) (by omega),
    by_k cp m _ _ _ _ (by omega) (by omega) (by omega) (by omega), Sum_k cp (m + 1) _ _ _ (by omega) (by omega) (by omega) (by omega)]
  simp only [mn_min, mx_max, growO, westO]
theorem Acked_k (c : SCc) (q now srtt : Int) (idle : Bool) (k : SCc → Int → Option R) (hn : 30 ≤ n) (hc : InR c) : G_cubic_Acked cp (n + 1) c q now srtt idle k = k (ackedO c q now srtt idle) (ackedE c q now srtt) := by
  obtain ⟨m, rfl⟩ : ∃ m, n = m + 30 := ⟨n - 30, by omega⟩
  rw [G_cubic_Acked]
  rw [Check_k cp (m + 24) c _ hc.mss.1 hc.mss.2]
  unfold ackedO ackedE
  by_cases h : CubOk c
  case neg => rw [if_neg h, if_neg h, if_neg h]; rfl
  rw [if_pos h, if_pos h, if_pos h, cnt rfl, csize1_k cp (m + 27)]
  by_cases a1 : 0 ≤ q ∧ q ≤ 1073741824
  case neg => rw [cnf a1, if_neg (fun g : (0 ≤ q ∧ q ≤ 1073741824) ∧ (0 ≤ now ∧ now ≤ 1125899906842624) ∧ (0 ≤ srtt ∧ srtt ≤ 1125899906842624) => by omega), if_neg (fun g : (0 ≤ q ∧ q ≤ 1073741824) ∧ (0 ≤ now ∧ now ≤ 1125899906842624) ∧ (0 ≤ srtt ∧ srtt ≤ 1125899906842624) => by omega)]; rfl
  rw [cnt a1]
  by_cases a2 : now < 0
  · rw [ct a2, if_neg (fun g : (0 ≤ q ∧ q ≤ 1073741824) ∧ (0 ≤ now ∧ now ≤ 1125899906842624) ∧ (0 ≤ srtt ∧ srtt ≤ 1125899906842624) => by omega), if_neg (fun g : (0 ≤ q ∧ q ≤ 1073741824) ∧ (0 ≤ now ∧ now ≤ 1125899906842624) ∧ (0 ≤ srtt ∧ srtt ≤ 1125899906842624) => by omega)]; rfl
  by_cases a3 : 1125899906842624 < now
  · rw [cf a2, ct a3, if_neg (fun g : (0 ≤ q ∧ q ≤ 1073741824) ∧ (0 ≤ now ∧ now ≤ 1125899906842624) ∧ (0 ≤ srtt ∧ srtt ≤ 1125899906842624) => by omega), if_neg (fun g : (0 ≤ q ∧ q ≤ 1073741824) ∧ (0 ≤ now ∧ now ≤ 1125899906842624) ∧ (0 ≤ srtt ∧ srtt ≤ 1125899906842624) => by omega)]; rfl
  by_cases a4 : srtt < 0
  · rw [cf a2, cf a3, ct a4, if_neg (fun g : (0 ≤ q ∧ q ≤ 1073741824) ∧ (0 ≤ now ∧ now ≤ 1125899906842624) ∧ (0 ≤ srtt ∧ srtt ≤ 1125899906842624) => by omega), if_neg (fun g : (0 ≤ q ∧ q ≤ 1073741824) ∧ (0 ≤ now ∧ now ≤ 1125899906842624) ∧ (0 ≤ srtt ∧ srtt ≤ 1125899906842624) => by omega)]; rfl
  by_cases a5 : 1125899906842624 < srtt
  · rw [cf a2, cf a3, cf a4, ct a5, if_neg (fun g : (0 ≤ q ∧ q ≤ 1073741824) ∧ (0 ≤ now ∧ now ≤ 1125899906842624) ∧ (0 ≤ srtt ∧ srtt ≤ 1125899906842624) => by omega), if_neg (fun g : (0 ≤ q ∧ q ≤ 1073741824) ∧ (0 ≤ now ∧ now ≤ 1125899906842624) ∧ (0 ≤ srtt ∧ srtt ≤ 1125899906842624) => by omega)]; rfl
  have g : (0 ≤ q ∧ q ≤ 1073741824) ∧ (0 ≤ now ∧ now ≤ 1125899906842624) ∧ (0 ≤ srtt ∧ srtt ≤ 1125899906842624) := by omega
  rw [cf a2, cf a3, cf a4, cf a5, if_pos g, if_pos g]
  cases idle with
  | true => rfl
  | false =>
    rw [cond_false, if_neg (show ¬ (false = true) by simp)]
    by_cases a6 : c.xCwnd < c.xSsthresh
    · rw [ct a6, if_pos a6, mn_min, mn_min, w64_id (n := c.xCwnd + min q c.xMss) (by omega) (by omega)]
    rw [cf a6, if_neg a6]
    show G_cubic_ctl_grow cp (m + 30) q now srtt (ctlO c) (fun r => k ⟨r.xCc_Kind, r.xCc_Mss, r.xCc_Cwnd, r.xCc_Ssthresh, r.xCc_Acc, r.xCc_Wmax, r.xCc_Epoch, r.xCc_K, r.xCc_West, r.xCc_Start, r.xCc_Mode, r.xCc_Bw, r.xCc_MinRtt, r.xCc_MinAt, r.xCc_Round, r.xCc_NextAt, r.xCc_Full, r.xCc_FullN, r.xCc_Phase, r.xCc_PhaseAt, r.xCc_DoneAt, r.xCc_Prior⟩ 0) = _
    simp only [G_cubic_ctl_grow, s_cubic_ctl_grow_1, s_cubic_ctl_grow_3, s_cubic_ctl_grow_5, s_cubic_ctl_grow_8, s_cubic_ctl_grow_10]
    by_cases a7 : c.xEpoch = -1
    · refine (ct (p := (ctlO c).xCc_Epoch < 0) (show c.xEpoch < 0 by omega)).trans ?_
      rw [if_pos a7, begin_k cp (m + 28) c now _ (by omega) h]
      obtain ⟨b1, b2⟩ := begin_ok h (show 0 ≤ now by omega) (by omega)
      generalize beginO c now = d at *
      exact grow_rest cp (m + 29) d q now srtt (fun r => k r 0) (by omega) b1 b2 (by omega) (by omega) (by omega) (by omega) (by omega) (by omega)
    · refine (cf (p := (ctlO c).xCc_Epoch < 0) (show ¬ c.xEpoch < 0 by omega)).trans ?_
      rw [if_neg a7]
      exact grow_rest cp (m + 29) c q now srtt (fun r => k r 0) (by omega) h (by omega) (by omega) (by omega) (by omega) (by omega) (by omega) (by omega)
end
end
end Go.Proofs.Ytgnoidblkenglaa.M
