/- Whatever comes, a controller that may be stays one: each kind's moves. -/
import Derived.Test.YtgnoidblkenglaaSTCcR
import Derived.Test.YtgnoidblkenglaaSTBbrB
import Derived.Test.YtgnoidblkenglaaSTCubicF
import Derived.Test.YtgnoidblkenglaaSTCubicR
set_option linter.unusedVariables false
set_option linter.unusedSimpArgs false
namespace Go.Proofs.Ytgnoidblkenglaa.M
open Go Go.RowKit
noncomputable section
/-- What a move may answer: an argument that may not be, or a controller that may be, of the same kind. -/
def Stay (c d : SCc) (f : Int) : Prop := f = 2 ∨ (f = 0 ∧ CcOk d ∧ d.xKind = c.xKind ∧ d.xMss = c.xMss ∧ d.xBw.length ≤ c.xBw.length + 1)
/-- A move does so, at any rate. -/
def Moves {R : Type} (c : SCc) (m : (SCc → Int → Option R) → Option R) : Prop := ∃ d f, Stay c d f ∧ ∀ k, m k = k d f
def rO (c : SCc) : Sctl := ⟨c.xKind, c.xMss, c.xCwnd, c.xSsthresh, c.xAcc, c.xWmax, c.xEpoch, c.xK, c.xWest, c.xStart, c.xMode, c.xBw, c.xMinRtt, c.xMinAt, c.xRound, c.xNextAt, c.xFull, c.xFullN, c.xPhase, c.xPhaseAt, c.xDoneAt, c.xPrior⟩
section
variable {R : Type} (cp : Nat → Nat → Bool) (n : Nat)
theorem begun_k (c : SCc) (x : Int) (k : Int → Sctl → Option R) (h : RenoOk c) : G_reno_begun cp (n + 3) c x k = if Sz x then k 0 (rO c) else k 2 (rO zCc) := by
  have hm := h.2.1
  rw [G_reno_begun, rCheck_k cp n c _ (by omega) (by omega), if_pos h, cnt rfl, rsize_k cp (n + 1)]
  by_cases a : Sz x
  · rw [cnt a, if_pos a]; rfl
  · rw [cnf a, if_neg a]; rfl
theorem good2 {c d : SCc} : Stay c d 2 := .inl rfl
theorem goodR {c d : SCc} (h : RenoOk d) (h1 : c.xKind = 1) (h2 : d.xMss = c.xMss) (h3 : d.xBw = c.xBw) : Stay c d 0 := .inr ⟨rfl, .inl h, h.1.trans h1.symm, h2, by rw [h3]; omega⟩
theorem goodC {c d : SCc} (h : CubOk d) (h1 : c.xKind = 2) (h2 : d.xMss = c.xMss) (h3 : d.xBw = c.xBw) : Stay c d 0 := .inr ⟨rfl, .inr (.inl h), h.1.trans h1.symm, h2, by rw [h3]; omega⟩
theorem goodB {c d : SCc} (h : BbrOk d) (h1 : c.xKind = 3) (h2 : d.xMss = c.xMss) (h3 : d.xBw.length ≤ c.xBw.length + 1) : Stay c d 0 := .inr ⟨rfl, .inr (.inr h), h.1.trans h1.symm, h2, h3⟩
/-! ### Reno -/
theorem rLoss_d (c : SCc) (x : Int) (h : RenoOk c) : Moves (R := R) c (G_reno_Loss cp (n + 4) c x) := by
  have hm := h.2.1
  by_cases a : Sz x
  · refine ⟨{ c with xSsthresh := max (2 * c.xMss) (x / 2), xAcc := 0 }, 0, goodR ?_ h.1 rfl rfl, fun k => ?_⟩
    · simp only [RenoOk, Com, NoCub, NoBbr] at h ⊢; omega
    · rw [G_reno_Loss, begun_k cp n c x _ h, if_pos a, ct rfl]
      have e : mx (wr .i64 (2 * (rO c).xCc_Mss)) (wr .i64 (Int.tdiv x 2)) = max (2 * c.xMss) (x / 2) := by
        show mx (wr .i64 (2 * c.xMss)) _ = _
        rw [mx_max, w64_id (n := 2 * c.xMss) (by omega) (by omega), tdiv_pos (by omega), w64_id (n := x / 2) (by omega) (by omega)]
      rw [e]; rfl
  · refine ⟨zCc, 2, good2, fun k => ?_⟩
    rw [G_reno_Loss, begun_k cp n c x _ h, if_neg a, cf (by omega)]; rfl
theorem rTimeout_d (c : SCc) (x : Int) (h : RenoOk c) : Moves (R := R) c (G_reno_Timeout cp (n + 5) c x) := by
  obtain ⟨d, f, g, e⟩ := rLoss_d (R := R) cp n c x h
  refine ⟨{ d with xCwnd := d.xMss }, f, ?_, fun k => ?_⟩
  · rcases g with g | ⟨g1, g2, g3, g4, g5⟩
    · exact .inl g
    · subst g1
      have g2 := (ccOk1 (g3.trans h.1)).1 g2
      refine .inr ⟨rfl, .inl ?_, g3, g4, g5⟩
      simp only [RenoOk, Com, NoCub, NoBbr] at g2 ⊢; omega
  · rw [G_reno_Timeout, e]
theorem rAcked_d (c : SCc) (x : Int) (idle : Bool) (h : RenoOk c) : Moves (R := R) c (G_reno_Acked cp (n + 4) c x idle) := by
  have hm := h.2.1
  by_cases a : Sz x
  case neg =>
    refine ⟨zCc, 2, good2, fun k => ?_⟩
    rw [G_reno_Acked, begun_k cp n c x _ h, if_neg a, cnf (by omega)]; rfl
  cases idle with
  | true =>
    refine ⟨c, 0, goodR h h.1 rfl rfl, fun k => ?_⟩
    rw [G_reno_Acked, begun_k cp n c x _ h, if_pos a, cnt rfl]; rfl
  | false =>
    by_cases b : c.xCwnd < c.xSsthresh
    · refine ⟨{ c with xCwnd := min 1073741824 (c.xCwnd + min x c.xMss) }, 0, goodR ?_ h.1 rfl rfl, fun k => ?_⟩
      · simp only [RenoOk, Com, NoCub, NoBbr] at h ⊢; omega
      · rw [G_reno_Acked, begun_k cp n c x _ h, if_pos a, cnt rfl, cond_false]
        refine (ct (p := (rO c).xCc_Cwnd < (rO c).xCc_Ssthresh) b).trans ?_
        rw [G_reno_ctl_rise]
        have e : mn 1073741824 (wr .i64 ((rO c).xCc_Cwnd + mn x (rO c).xCc_Mss)) = min 1073741824 (c.xCwnd + min x c.xMss) := by
          show mn 1073741824 (wr .i64 (c.xCwnd + mn x c.xMss)) = _
          rw [mn_min, mn_min, w64_id (by omega) (by omega)]
        rw [e]; rfl
    · have e : mn 1073741824 (wr .i64 ((rO c).xCc_Acc + x)) = min 1073741824 (c.xAcc + x) := by
        show mn 1073741824 (wr .i64 (c.xAcc + x)) = _
        rw [mn_min, w64_id (by omega) (by omega)]
      by_cases d : c.xCwnd ≤ min 1073741824 (c.xAcc + x)
      · refine ⟨{ c with xAcc := min 1073741824 (c.xAcc + x) - c.xCwnd, xCwnd := min 1073741824 (c.xCwnd + c.xMss) }, 0, goodR ?_ h.1 rfl rfl, fun k => ?_⟩
        · simp only [RenoOk, Com, NoCub, NoBbr] at h ⊢; omega
        · rw [G_reno_Acked, begun_k cp n c x _ h, if_pos a, cnt rfl, cond_false]
          refine (cf (p := (rO c).xCc_Cwnd < (rO c).xCc_Ssthresh) b).trans ?_
          rw [e]
          refine (ct (p := (rO c).xCc_Cwnd ≤ min 1073741824 (c.xAcc + x)) d).trans ?_
          rw [G_reno_ctl_rise]
          have e2 : mn 1073741824 (wr .i64 ((rO c).xCc_Cwnd + (rO c).xCc_Mss)) = min 1073741824 (c.xCwnd + c.xMss) := by
            show mn 1073741824 (wr .i64 (c.xCwnd + c.xMss)) = _
            rw [mn_min, w64_id (by omega) (by omega)]
          have e3 : wr .i64 (min 1073741824 (c.xAcc + x) - (rO c).xCc_Cwnd) = min 1073741824 (c.xAcc + x) - c.xCwnd := by
            show wr .i64 (min 1073741824 (c.xAcc + x) - c.xCwnd) = _
            rw [w64_id (by omega) (by omega)]
          show k ⟨(rO c).xCc_Kind, (rO c).xCc_Mss, mn 1073741824 (wr .i64 ((rO c).xCc_Cwnd + (rO c).xCc_Mss)), (rO c).xCc_Ssthresh, wr .i64 (min 1073741824 (c.xAcc + x) - (rO c).xCc_Cwnd), (rO c).xCc_Wmax, (rO c).xCc_Epoch, (rO c).xCc_K, (rO c).xCc_West, (rO c).xCc_Start, (rO c).xCc_Mode, (rO c).xCc_Bw, (rO c).xCc_MinRtt, (rO c).xCc_MinAt, (rO c).xCc_Round, (rO c).xCc_NextAt, (rO c).xCc_Full, (rO c).xCc_FullN, (rO c).xCc_Phase, (rO c).xCc_PhaseAt, (rO c).xCc_DoneAt, (rO c).xCc_Prior⟩ 0 = _
          rw [e2, e3]; rfl
      · refine ⟨{ c with xAcc := min 1073741824 (c.xAcc + x) }, 0, goodR ?_ h.1 rfl rfl, fun k => ?_⟩
        · simp only [RenoOk, Com, NoCub, NoBbr] at h ⊢; omega
        · rw [G_reno_Acked, begun_k cp n c x _ h, if_pos a, cnt rfl, cond_false]
          refine (cf (p := (rO c).xCc_Cwnd < (rO c).xCc_Ssthresh) b).trans ?_
          rw [e]
          refine (cf (p := (rO c).xCc_Cwnd ≤ min 1073741824 (c.xAcc + x)) d).trans ?_
          rfl
/-! ### CUBIC -/
theorem fall_ok {c : SCc} (h : CubOk c) : CubOk (fallO c) := by
  simp only [CubOk, Com, NoBbr] at h
  obtain ⟨w, hw, w0, w1⟩ : ∃ w, (if c.xCwnd < c.xWmax then 17 * c.xCwnd / 20 else c.xCwnd) = w ∧ 0 ≤ w ∧ w ≤ 1073741824 := ⟨_, rfl, by split <;> omega, by split <;> omega⟩
  unfold fallO
  rw [hw]
  simp only [CubOk, Com, NoBbr]
  omega
theorem shut_ok {c : SCc} (h : CubOk c) : CubOk (shutO c) := by
  have := fall_ok h
  have e : (fallO c).xMss = c.xMss := rfl
  unfold shutO
  simp only [CubOk, Com, NoBbr] at this ⊢
  omega
theorem moved_d {c : SCc} {x : Int} {f : SCc → SCc} (h : CubOk c) (h1 : CubOk (f c)) (h2 : (f c).xMss = c.xMss) (h3 : (f c).xBw = c.xBw) : Stay c (movedO f c x) (movedE c x) := by
  unfold movedO movedE
  rw [if_pos h, if_pos h]
  by_cases a : 0 ≤ x ∧ x ≤ 1073741824
  · rw [if_pos a, if_pos a]; exact goodC h1 h.1 h2 h3
  · rw [if_neg a, if_neg a]; exact good2
theorem cLoss_d (c : SCc) (x : Int) (h : CubOk c) : Moves (R := R) c (G_cubic_Loss cp (n + 8) c x) :=
  ⟨_, _, moved_d h (fall_ok h) rfl rfl, fun k => Loss_k cp n c x k (inR_of h)⟩
theorem cTimeout_d (c : SCc) (x : Int) (h : CubOk c) : Moves (R := R) c (G_cubic_Timeout cp (n + 8) c x) :=
  ⟨_, _, moved_d h (shut_ok h) rfl rfl, fun k => Timeout_k cp n c x k (inR_of h)⟩
theorem begin_bw (c : SCc) (now : Int) : (beginO c now).xBw = c.xBw ∧ (beginO c now).xMss = c.xMss := by unfold beginO; split <;> exact ⟨rfl, rfl⟩
theorem cAcked_d (c : SCc) (q now srtt : Int) (idle : Bool) (h : CubOk c) : Moves (R := R) c (G_cubic_Acked cp (n + 31) c q now srtt idle) := by
  refine ⟨_, _, ?_, fun k => Acked_k cp (n + 30) c q now srtt idle k (by omega) (inR_of h)⟩
  by_cases a : AckIn q now srtt
  case neg =>
    unfold ackedO ackedE
    rw [if_pos h, if_pos h, if_neg a, if_neg a]; exact good2
  have e : ackedE c q now srtt = 0 := by unfold ackedE; rw [if_pos h, if_pos a]
  rw [e]
  cases idle with
  | false =>
    refine goodC (acked_facts h a).1 h.1 ?_ ?_
    · unfold ackedO
      rw [if_pos h, if_pos a, if_neg (show ¬ (false = true) by simp)]
      split
      · rfl
      · show (if c.xEpoch = -1 then beginO c now else c).xMss = _
        split
        · exact (begin_bw c now).2
        · rfl
    · unfold ackedO
      rw [if_pos h, if_pos a, if_neg (show ¬ (false = true) by simp)]
      split
      · rfl
      · show (if c.xEpoch = -1 then beginO c now else c).xBw = _
        split
        · exact (begin_bw c now).1
        · rfl
  | true =>
    have e2 : ackedO c q now srtt true = { c with xEpoch := -1 } := by unfold ackedO; rw [if_pos h, if_pos a, if_pos rfl]
    rw [e2]
    refine goodC ?_ h.1 rfl rfl
    simp only [CubOk, Com, NoBbr] at h ⊢; omega
/-! ### BBR -/
theorem bTimeout_d (c : SCc) (x : Int) (h : BbrOk c) (hl : c.xBw.length < 9223372036854775807) (hn : c.xBw.length ≤ n) : Moves (R := R) c (G_bbr_Timeout cp (n + 11) c x) := by
  by_cases a : Sz x
  · refine ⟨{ c with xCwnd := c.xMss, xPrior := c.xCwnd }, 0, goodB ?_ h.1 rfl (by show c.xBw.length ≤ _; omega), fun k => ?_⟩
    · have q := qn_of h
      exact qn_to (q := { ofC c with xCc_Cwnd := c.xMss, xCc_Prior := c.xCwnd }) { q with cwnd := ⟨Int.le_refl _, by have := q.mss; show c.xMss ≤ _; have : c.xMss ≤ 65000 := q.mss.2; omega⟩, prior := ⟨by have h1 : 1 ≤ c.xMss := q.mss.1; have h2 : c.xMss ≤ c.xCwnd := q.cwnd.1; show 0 ≤ c.xCwnd; omega, q.cwnd.2⟩ }
    · rw [G_bbr_Timeout, bCheck_k cp n c _ hl hn, if_pos h, cnt rfl, within_k cp (n + 9) _ _ _ (by show 1 < _; omega) (by show 2 ≤ _; omega)]
      have : ([x].all fun y => decide (0 ≤ y ∧ y ≤ 1073741824)) = true := by simp only [List.all_cons, List.all_nil, Bool.and_true]; exact decide_eq_true a
      rw [this]; rfl
  · refine ⟨zCc, 2, good2, fun k => ?_⟩
    rw [G_bbr_Timeout, bCheck_k cp n c _ hl hn, if_pos h, cnt rfl, within_k cp (n + 9) _ _ _ (by show 1 < _; omega) (by show 2 ≤ _; omega)]
    have : ([x].all fun y => decide (0 ≤ y ∧ y ≤ 1073741824)) = false := by simp only [List.all_cons, List.all_nil, Bool.and_true]; exact decide_eq_false a
    rw [this]; rfl
theorem bAcked_d (c : SCc) (s : SSample) (h : BbrOk c) (hl : (c.xBw.length + 1) * 16 ≤ 140737488355328) (hn : c.xBw.length ≤ n) : Moves (R := R) c (G_bbr_Acked capB (n + 11) c s) := by
  by_cases hs : Smp s
  · obtain ⟨L, hL, g1, g2, g3, g4, g5⟩ := bAcked_ok (R := R) n c s h hs hl hn
    refine ⟨_, 0, goodB g1 h.1 g4 ?_, g5⟩
    rw [g2]
    have := hL.len
    have e : (roundO (ofC c) s).xCc_Bw = c.xBw := (roundO_ok (qn_of h) hs).2.2.1
    rw [e] at this; exact this
  · obtain ⟨e, _, e2, e3⟩ := bAcked_bad (R := R) n c s (by omega) hn (fun g => hs g.2)
    exact ⟨zCc, e, by rw [e2 h]; exact good2, e3⟩
/-! ### behind one face -/
theorem kind_of {c : SCc} (h : CcOk c) : (c.xKind = 1 ∧ RenoOk c) ∨ (c.xKind = 2 ∧ CubOk c) ∨ (c.xKind = 3 ∧ BbrOk c) := by
  rcases h with g | g | g
  · exact .inl ⟨g.1, g⟩
  · exact .inr (.inl ⟨g.1, g⟩)
  · exact .inr (.inr ⟨g.1, g⟩)
theorem good_self {c : SCc} (h : CcOk c) : Stay c c 0 := .inr ⟨rfl, h, rfl, rfl, by omega⟩
theorem ccLoss_d (c : SCc) (x : Int) (h : CcOk c) (hc : InC c n) : Moves (R := R) c (G_cc_Loss cp (n + 13) c x) := by
  by_cases a : Sz x
  case neg =>
    refine ⟨zCc, 2, good2, fun k => ?_⟩
    rw [G_cc_Loss, ccsize_k cp (n + 11), asked_k cp n c _ _ hc, if_pos h, decide_eq_false a, if_neg (by simp), cnf (by omega)]; rfl
  have key : ∀ k : SCc → Int → Option R, G_cc_Loss cp (n + 13) c x k = cond (decide (c.xKind = 1)) (G_reno_Loss cp (n + 12) c x k) (cond (decide (c.xKind = 2)) (G_cubic_Loss cp (n + 12) c x k) (k c 0)) := fun k => by
    rw [G_cc_Loss, ccsize_k cp (n + 11), asked_k cp n c _ _ hc, if_pos h, decide_eq_true a, if_pos rfl, cnt rfl]
  rcases kind_of h with ⟨e, g⟩ | ⟨e, g⟩ | ⟨e, g⟩
  · obtain ⟨d, f, g1, g2⟩ := rLoss_d (R := R) cp (n + 8) c x g
    exact ⟨d, f, g1, fun k => by rw [key, ct e]; exact g2 k⟩
  · obtain ⟨d, f, g1, g2⟩ := cLoss_d (R := R) cp (n + 4) c x g
    exact ⟨d, f, g1, fun k => by rw [key, cf (by omega), ct e]; exact g2 k⟩
  · exact ⟨c, 0, good_self h, fun k => by rw [key, cf (by omega), cf (by omega)]⟩
theorem ccTimeout_d (c : SCc) (x : Int) (h : CcOk c) (hc : InC c n) : Moves (R := R) c (G_cc_Timeout cp (n + 13) c x) := by
  have key : ∀ k : SCc → Int → Option R, G_cc_Timeout cp (n + 13) c x k = cond (decide (c.xKind = 1)) (G_reno_Timeout cp (n + 12) c x k) (cond (decide (c.xKind = 2)) (G_cubic_Timeout cp (n + 12) c x k) (G_bbr_Timeout cp (n + 12) c x k)) := fun k => by rw [G_cc_Timeout]
  rcases kind_of h with ⟨e, g⟩ | ⟨e, g⟩ | ⟨e, g⟩
  · obtain ⟨d, f, g1, g2⟩ := rTimeout_d (R := R) cp (n + 7) c x g
    exact ⟨d, f, g1, fun k => by rw [key, ct e]; exact g2 k⟩
  · obtain ⟨d, f, g1, g2⟩ := cTimeout_d (R := R) cp (n + 4) c x g
    exact ⟨d, f, g1, fun k => by rw [key, cf (by omega), ct e]; exact g2 k⟩
  · obtain ⟨d, f, g1, g2⟩ := bTimeout_d (R := R) cp (n + 1) c x g hc.len (by have := hc.fit; omega)
    exact ⟨d, f, g1, fun k => by rw [key, cf (by omega), cf (by omega)]; exact g2 k⟩
theorem ccDone_d (c : SCc) (h : CcOk c) (hc : InC c n) : Moves (R := R) c (G_cc_Done cp (n + 12) c) := by
  have hw := cwnd_of h
  have key : ∀ k : SCc → Int → Option R, G_cc_Done cp (n + 12) c k = cond (decide (c.xKind = 2)) (k { c with xCwnd := c.xSsthresh } 0) (cond (decide (c.xKind = 1)) (k { c with xCwnd := c.xSsthresh } 0) (k c 0)) := fun k => by
    rw [G_cc_Done, ccCheck_k cp n c _ hc, if_pos h, cnt rfl]
  rcases kind_of h with ⟨e, g⟩ | ⟨e, g⟩ | ⟨e, g⟩
  · refine ⟨{ c with xCwnd := c.xSsthresh }, 0, goodR ?_ e rfl rfl, fun k => by rw [key, cf (by omega), ct e]⟩
    simp only [RenoOk, Com, NoCub, NoBbr] at g ⊢; omega
  · refine ⟨{ c with xCwnd := c.xSsthresh }, 0, goodC ?_ e rfl rfl, fun k => by rw [key, ct e]⟩
    simp only [CubOk, Com, NoBbr] at g ⊢; omega
  · exact ⟨c, 0, good_self h, fun k => by rw [key, cf (by omega), cf (by omega)]⟩
theorem ccRest_d (c : SCc) (idle rto used : Int) (h : CcOk c) (hc : InC c n) : Moves (R := R) c (G_cc_Rest cp (n + 13) c idle rto used) := by
  refine ⟨_, _, ?_, fun k => Rest_k cp n c idle rto used k hc⟩
  by_cases a : Tm idle ∧ Tm rto ∧ Sz used
  · obtain ⟨r1, r2, _⟩ := rest_ok h a
    have e : restE c idle rto used = 0 := by unfold restE; rw [if_pos h, if_pos a]
    rw [e]
    refine .inr ⟨rfl, r1, ?_, ?_, by rw [r2]; omega⟩
    · unfold restO; rw [if_pos h, if_pos a]; split <;> rfl
    · unfold restO; rw [if_pos h, if_pos a]; split <;> rfl
  · have e : restE c idle rto used = 2 := by unfold restE; rw [if_pos h, if_neg a]
    rw [e]; exact good2
theorem ccLimit_d (c : SCc) (w : Int) (h : CcOk c) (hc : InC c n) : Moves (R := R) c (G_cc_Limit cp (n + 13) c w) := by
  refine ⟨_, _, ?_, fun k => Limit_k cp n c w k hc⟩
  unfold limitO limitE
  rw [if_pos h, if_pos h]
  by_cases a : Sz w
  case neg => rw [if_neg a, if_neg a]; exact good2
  rw [if_pos a, if_pos a]
  rcases kind_of h with ⟨e, g⟩ | ⟨e, g⟩ | ⟨e, g⟩
  · refine goodR ?_ e rfl rfl
    simp only [RenoOk, Com, NoCub, NoBbr] at g ⊢; omega
  · refine goodC ?_ e rfl rfl
    simp only [CubOk, Com, NoBbr] at g ⊢; omega
  · have q := qn_of g
    have h1 : 1 ≤ c.xMss ∧ c.xMss ≤ 65000 := q.mss
    exact goodB (qn_to (q := { ofC c with xCc_Cwnd := max c.xMss w }) { q with cwnd := ⟨by show c.xMss ≤ max c.xMss w; omega, by show max c.xMss w ≤ _; omega⟩ }) e rfl (by show c.xBw.length ≤ _; omega)
theorem ccAcked_d (c : SCc) (s : SSample) (srtt : Int) (h : CcOk c) (hc : InC c n) (hl : (c.xBw.length + 1) * 16 ≤ 140737488355328) (hn : 30 ≤ n) : Moves (R := R) c (G_cc_Acked capB (n + 13) c s srtt) := by
  have asked : ∀ (b : Bool) (k : Int → Option R), G_cc_asked capB (n + 12) c b k = k (if b = true then 0 else 2) := fun b k => by rw [asked_k capB n c _ _ hc, if_pos h]
  have key : ∀ k : SCc → Int → Option R, G_cc_Acked capB (n + 13) c s srtt k = cond (decide (c.xKind = 3)) (G_bbr_Acked capB (n + 12) c s k) (if Sz s.xAcked ∧ Tm s.xNow ∧ Tm srtt then cond (decide (c.xKind = 1)) (G_reno_Acked capB (n + 12) c s.xAcked s.xIdle k) (G_cubic_Acked capB (n + 12) c s.xAcked s.xNow srtt s.xIdle k) else k zCc 2) := fun k => by
    simp only [G_cc_Acked, s_cc_Acked_1, s_cc_Acked_4, s_cc_Acked_6, s_cc_Acked_9, s_cc_Acked_10, s_cc_Acked_13, s_cc_Acked_15, asked, ccsize_k capB (n + 11), cctime_k capB (n + 11)]
    by_cases a3 : c.xKind = 3
    · rw [ct a3, ct a3]
    rw [cf a3, cf a3]
    by_cases b1 : Sz s.xAcked
    case neg => rw [cf b1, if_neg (show ¬ (Sz s.xAcked ∧ Tm s.xNow ∧ Tm srtt) from fun g => b1 g.1), if_neg (show ¬ (false = true) by simp), cnf (by omega)]; rfl
    rw [ct b1]
    by_cases b2 : Tm s.xNow
    case neg => rw [cf b2, if_neg (show ¬ (Sz s.xAcked ∧ Tm s.xNow ∧ Tm srtt) from fun g => b2 g.2.1), if_neg (show ¬ (false = true) by simp), cnf (by omega)]; rfl
    rw [ct b2]
    by_cases b3 : Tm srtt
    · rw [decide_eq_true b3, if_pos rfl, cnt rfl, if_pos ⟨b1, b2, b3⟩]
    · rw [decide_eq_false b3, if_neg (by simp), cnf (by omega), if_neg (fun g => b3 g.2.2)]; rfl
  rcases kind_of h with ⟨e, g⟩ | ⟨e, g⟩ | ⟨e, g⟩
  · by_cases a : Sz s.xAcked ∧ Tm s.xNow ∧ Tm srtt
    · obtain ⟨d, f, g1, g2⟩ := rAcked_d (R := R) capB (n + 8) c s.xAcked s.xIdle g
      exact ⟨d, f, g1, fun k => by rw [key, cf (by omega), if_pos a, ct e]; exact g2 k⟩
    · exact ⟨zCc, 2, good2, fun k => by rw [key, cf (by omega), if_neg a]⟩
  · by_cases a : Sz s.xAcked ∧ Tm s.xNow ∧ Tm srtt
    · obtain ⟨m, rfl⟩ : ∃ m, n = m + 30 := ⟨n - 30, by omega⟩
      obtain ⟨d, f, g1, g2⟩ := cAcked_d (R := R) capB (m + 11) c s.xAcked s.xNow srtt s.xIdle g
      exact ⟨d, f, g1, fun k => by rw [key, cf (by omega), if_pos a, cf (by omega)]; exact g2 k⟩
    · exact ⟨zCc, 2, good2, fun k => by rw [key, cf (by omega), if_neg a]⟩
  · obtain ⟨d, f, g1, g2⟩ := bAcked_d (R := R) (n + 1) c s g hl (by have := hc.fit; omega)
    exact ⟨d, f, g1, fun k => by rw [key, ct e]; exact g2 k⟩
end
end
end Go.Proofs.Ytgnoidblkenglaa.M
