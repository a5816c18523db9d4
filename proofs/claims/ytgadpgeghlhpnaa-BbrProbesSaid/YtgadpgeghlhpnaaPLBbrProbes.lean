/- The law BbrProbes: an old shortest time is asked anew. -/
import Derived.Test.YtgadpgeghlhpnaaPTHeads18
import Derived.Test.YtgadpgeghlhpnaaPuBbrProbes
set_option linter.unusedVariables false
set_option linter.unusedSimpArgs false
namespace Go.Proofs.Ytgadpgeghlhpnaa.M
open Go Go.RowKit
noncomputable section
theorem round_same (q : QB) (s : SSample) : (roundO q s).xCc_MinRtt = q.xCc_MinRtt ∧ (roundO q s).xCc_MinAt = q.xCc_MinAt ∧ (roundO q s).xCc_Mode = q.xCc_Mode ∧ (roundO q s).xCc_Cwnd = q.xCc_Cwnd := by
  unfold roundO; split <;> exact ⟨rfl, rfl, rfl, rfl⟩
theorem full_mode {q : QB} (h : q.xCc_Mode ≠ 4) : (fullO q).xCc_Mode ≠ 4 := by
  unfold fullO
  split
  · exact h
  · split
    · exact h
    · show (if _ then (2 : Int) else q.xCc_Mode) ≠ 4
      split
      · decide
      · exact h
theorem cycle_mode {q : QB} {s : SSample} (h : q.xCc_Mode ≠ 4) : (cycleO q s).xCc_Mode ≠ 4 := by
  unfold cycleO
  split
  · show (3 : Int) ≠ 4; decide
  · split <;> exact h
theorem probes {q : QB} {s : SSample} {fresh : Bool} (h : Qn q) (hs : Smp s) (hl : lateB q s = true) (hm : q.xCc_Mode ≠ 4) :
    (restB q s fresh).xCc_Mode = 4 ∧ (restB q s fresh).xCc_Cwnd ≤ max (4 * q.xCc_Mss) q.xCc_Mss ∧ (restB q s fresh).xCc_Prior = q.xCc_Cwnd ∧ (restB q s fresh).xCc_DoneAt = 0 := by
  obtain ⟨s1, s2, s3, s4, s5⟩ := short_bw q s
  have key : ∀ q' : QB, q'.xCc_Mode ≠ 4 → q'.xCc_Cwnd = q.xCc_Cwnd → q'.xCc_Mss = q.xCc_Mss →
      (windowO (askO (cycleO q' s) s (lateB q s)) s).xCc_Mode = 4 ∧ (windowO (askO (cycleO q' s) s (lateB q s)) s).xCc_Cwnd ≤ max (4 * q.xCc_Mss) q.xCc_Mss ∧ (windowO (askO (cycleO q' s) s (lateB q s)) s).xCc_Prior = q.xCc_Cwnd ∧ (windowO (askO (cycleO q' s) s (lateB q s)) s).xCc_DoneAt = 0 := fun q' m1 m2 m3 => by
    obtain ⟨_, _, b3, b4⟩ := cycle_bw q' s
    have e : askO (cycleO q' s) s (lateB q s) = { cycleO q' s with xCc_Mode := 4, xCc_Prior := (cycleO q' s).xCc_Cwnd, xCc_DoneAt := 0 } := by
      unfold askO; rw [if_pos ⟨hl, cycle_mode m1⟩]
    rw [e]
    refine ⟨rfl, ?_, b4.trans m2, rfl⟩
    show max (cycleO q' s).xCc_Mss (min (if (4 : Int) = 4 then min (cycleO q' s).xCc_Cwnd (4 * (cycleO q' s).xCc_Mss) else _) 1073741824) ≤ _
    rw [if_pos rfl, b3, m3]; omega
  unfold restB
  split
  · obtain ⟨_, _, f3, f4⟩ := full_bw (shortO q s)
    exact key _ (full_mode (by rw [s4]; exact hm)) (f4.trans s5) (f3.trans s3)
  · exact key _ (by rw [s4]; exact hm) s5 s3
theorem law_BbrProbes : LawBbrProbes.Pure := by
  intro M c s hC hS
  simp only [LawBbrProbes.InCc, LawBbrProbes.InSample, Rng, i64min, i64max] at hC hS
  obtain ⟨c0, c1, c2, c3, c4, c5, c6, c7, c8, c9, c10, c11, c12, c13, _⟩ := hC
  obtain ⟨m, hm⟩ : ∃ m, m = c.xBw.length + 60 := ⟨_, rfl⟩
  refine ⟨m + 12, fun R k => ?_⟩
  rw [G_law18_BbrProbes]
  have hh : ∀ k : Bool → Option R, G_law18_heads capB (m + 11) k = k true := fun k => heads18 _ k (by omega)
  simp only [G_law18_BbrProbes, s_law18_BbrProbes_1, s_law18_BbrProbes_4, s_law18_BbrProbes_7]
  rw [bCheck_k capB (m + 1) c _ (by omega) (by omega)]
  by_cases h : BbrOk c
  case neg => rw [if_neg h, cnf (by omega), hh]
  rw [if_pos h, cnt rfl]
  by_cases a1 : c.xMinRtt = 0
  · rw [ct a1, hh]
  by_cases a2 : c.xMode = 4
  · rw [cf a1, ct a2, hh]
  have q0 := qn_of h
  have hma : 0 ≤ c.xMinAt ∧ c.xMinAt ≤ 1125899906842624 := q0.minAt
  have hmr : 0 ≤ c.xMinRtt ∧ c.xMinRtt ≤ 1125899906842624 := q0.minRtt
  rw [cf a1, cf a2, w64_id (n := c.xMinAt + 10000001) (by omega) (by omega)]
  generalize hx : SSample.mk (c.xMinAt + 10000001) s.xAcked s.xRtt s.xRate s.xIdle s.xGiven s.xBefore s.xFlight = x
  have hnow : x.xNow = c.xMinAt + 10000001 := by rw [← hx]
  by_cases hsm : Smp x
  case neg =>
    obtain ⟨e, e1, _, e3⟩ := bAcked_bad (R := R) m c x (by omega) (by omega) (fun g => hsm g.2)
    rw [e3, cnf (by omega), hh]
  obtain ⟨L, hL, g1, g2, g3, g4, g5⟩ := bAcked_ok (R := R) m c x h hsm (by omega) (by omega)
  obtain ⟨q1, r1, r2, r3⟩ := roundO_ok q0 hsm
  obtain ⟨t1, t2, t3, t4⟩ := round_same (ofC c) x
  have q2 : Qn { roundO (ofC c) x with xCc_Bw := L } := { q1 with chain := hL.chain, fin := hL.fin }
  have hlate : lateB { roundO (ofC c) x with xCc_Bw := L } x = true := by
    unfold lateB
    refine decide_eq_true ?_
    show 0 < (roundO (ofC c) x).xCc_MinRtt ∧ 10000000 < x.xNow - (roundO (ofC c) x).xCc_MinAt
    rw [t1, t2, hnow]
    show 0 < c.xMinRtt ∧ 10000000 < c.xMinAt + 10000001 - c.xMinAt
    omega
  obtain ⟨p1, p2, p3, p4⟩ := probes (fresh := freshB (ofC c) x) q2 hsm hlate (by show (roundO (ofC c) x).xCc_Mode ≠ 4; rw [t3]; exact a2)
  have f1 : (ackB c x L).xMode = 4 := p1
  have f2 : (ackB c x L).xCwnd ≤ max (4 * c.xMss) c.xMss := by
    have : (ackB c x L).xCwnd ≤ max (4 * (roundO (ofC c) x).xCc_Mss) (roundO (ofC c) x).xCc_Mss := p2
    rw [r3] at this; exact this
  have f3 : (ackB c x L).xPrior = c.xCwnd := p3.trans t4
  have f4 : (ackB c x L).xDoneAt = 0 := p4
  have hms : 1 ≤ c.xMss ∧ c.xMss ≤ 65000 := q0.mss
  rw [g5, cnt rfl, ct f1, g4, mx_max, w64_id (n := 4 * c.xMss) (by omega) (by omega), ct f2, ct f3, ct f4, hh]
end
end Go.Proofs.Ytgadpgeghlhpnaa.M
