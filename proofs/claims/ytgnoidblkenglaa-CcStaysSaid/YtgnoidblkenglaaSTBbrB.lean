/- What BBR makes of a sample: the steps, and all of them. -/
import Derived.Test.YtgnoidblkenglaaSTBbrA
import Derived.Test.YtgnoidblkenglaaSTNew
set_option linter.unusedVariables false
set_option linter.unusedSimpArgs false
namespace Go.Proofs.Ytgnoidblkenglaa.M
open Go Go.RowKit
noncomputable section
def freshB (q : QB) (s : SSample) : Bool := !decide (s.xBefore < q.xCc_NextAt)
def roundO (q : QB) (s : SSample) : QB := if s.xBefore < q.xCc_NextAt then q else { q with xCc_Round := min 1125899906842624 (q.xCc_Round + 1), xCc_NextAt := s.xGiven }
def lateB (q : QB) (s : SSample) : Bool := decide (0 < q.xCc_MinRtt ∧ 10000000 < s.xNow - q.xCc_MinAt)
def shortO (q : QB) (s : SSample) : QB := if 0 < s.xRtt ∧ (lateB q s = true ∨ q.xCc_MinRtt = 0 ∨ s.xRtt ≤ q.xCc_MinRtt) then { q with xCc_MinRtt := s.xRtt, xCc_MinAt := s.xNow } else q
def fullO (q : QB) : QB := if bestO q.xCc_Bw = 0 then q else if 5 * q.xCc_Full ≤ 4 * bestO q.xCc_Bw then { q with xCc_Full := bestO q.xCc_Bw, xCc_FullN := 0 } else
  { q with xCc_FullN := min 3 (q.xCc_FullN + 1), xCc_Mode := if min 3 (q.xCc_FullN + 1) = 3 then 2 else q.xCc_Mode }
def prodO (q : QB) : Int := min 1073741824 (mdv (bestO q.xCc_Bw) q.xCc_MinRtt 1000000)
def probeO (q : QB) (now : Int) : QB := { q with xCc_Mode := 3, xCc_Phase := 2, xCc_PhaseAt := now }
def cycleO (q : QB) (s : SSample) : QB := if q.xCc_Mode = 2 ∧ s.xFlight ≤ prodO q then probeO q s.xNow else if q.xCc_Mode = 3 ∧ q.xCc_MinRtt < s.xNow - q.xCc_PhaseAt then { q with xCc_Phase := (q.xCc_Phase + 1) % 8, xCc_PhaseAt := s.xNow } else q
def askO (q : QB) (s : SSample) (late : Bool) : QB :=
  if late = true ∧ q.xCc_Mode ≠ 4 then { q with xCc_Mode := 4, xCc_Prior := q.xCc_Cwnd, xCc_DoneAt := 0 } else if q.xCc_Mode ≠ 4 then q else
  if q.xCc_DoneAt = 0 ∧ s.xFlight ≤ 4 * q.xCc_Mss then { q with xCc_DoneAt := min 1125899906842624 (s.xNow + 200000) } else
  if 0 < q.xCc_DoneAt ∧ q.xCc_DoneAt ≤ s.xNow then
    if q.xCc_FullN = 3 then probeO { q with xCc_MinAt := s.xNow, xCc_Cwnd := max q.xCc_Cwnd q.xCc_Prior, xCc_DoneAt := 0 } s.xNow else { q with xCc_MinAt := s.xNow, xCc_Cwnd := max q.xCc_Cwnd q.xCc_Prior, xCc_DoneAt := 0, xCc_Mode := 1 } else q
def aimO (q : QB) : Int := max (2 * prodO q) (4 * q.xCc_Mss)
def wantO (q : QB) (s : SSample) : Int := if q.xCc_Mode = 4 then min q.xCc_Cwnd (4 * q.xCc_Mss) else if q.xCc_FullN = 3 then min (aimO q) (q.xCc_Cwnd + s.xAcked) else if q.xCc_Cwnd < aimO q ∨ bestO q.xCc_Bw = 0 then q.xCc_Cwnd + s.xAcked else q.xCc_Cwnd
def windowO (q : QB) (s : SSample) : QB := { q with xCc_Cwnd := max q.xCc_Mss (min (wantO q s) 1073741824) }
/-- Behind the rate's sample: B is the row then. -/
def restB (q : QB) (s : SSample) (fresh : Bool) : QB :=
  windowO (askO (cycleO (if fresh = true ∧ (shortO q s).xCc_Mode = 1 ∧ s.xIdle = false then fullO (shortO q s) else shortO q s) s) s (lateB q s)) s
section
variable {R : Type} (n : Nat)
theorem qbest {q : QB} (h : Qn q) : 0 ≤ bestO q.xCc_Bw ∧ bestO q.xCc_Bw ≤ 1099511627776 := by
  have h1 := h.chain; have h2 := h.fin
  cases hb : q.xCc_Bw with
  | nil => show 0 ≤ (0 : Int) ∧ (0 : Int) ≤ 1099511627776; omega
  | cons e r =>
    rw [hb] at h1 h2
    simp only [fchain, fmay, fin18, List.all_cons, Bool.and_eq_true, decide_eq_true_eq] at h1 h2
    show 0 ≤ e.xV ∧ e.xV ≤ 1099511627776; omega
theorem prod_range (q : QB) : 0 ≤ prodO q ∧ prodO q ≤ 1073741824 := by
  have : 0 ≤ mdv (bestO q.xCc_Bw) q.xCc_MinRtt 1000000 ∧ mdv (bestO q.xCc_Bw) q.xCc_MinRtt 1000000 ≤ 9223372036854775807 := by
    unfold mdv
    split
    · omega
    · have := Int.ediv_nonneg (Int.mul_nonneg (show 0 ≤ bestO q.xCc_Bw by omega) (show 0 ≤ q.xCc_MinRtt by omega)) (show (0 : Int) ≤ 1000000 by omega)
      omega
  unfold prodO; omega
theorem round_k (cp : Nat → Nat → Bool) (q : QB) (s : SSample) (k : Bool → QB → Option R) (h : Qn q) : G_bbr_ctl_round cp (n + 1) s q k = k (freshB q s) (roundO q s) := by
  have := h.round
  rw [G_bbr_ctl_round]
  unfold freshB roundO
  by_cases a : s.xBefore < q.xCc_NextAt
  · rw [ct a, if_pos a, decide_eq_true a]; rfl
  · rw [cf a, if_neg a, decide_eq_false a, mn_min, w64_id (n := q.xCc_Round + 1) (by omega) (by omega)]; rfl
theorem bw_k (cp : Nat → Nat → Bool) (q : QB) (k : Int → QB → Option R) : G_bbr_ctl_bandwidth cp (n + 2) q k = k (bestO q.xCc_Bw) q := by
  rw [G_bbr_ctl_bandwidth]
  obtain ⟨b, e⟩ := Best_k cp n q.xCc_Bw (fun r35 r36 => k r35 q)
  exact e
theorem short_k (cp : Nat → Nat → Bool) (q : QB) (s : SSample) (k : Bool → QB → Option R) (h : Qn q) (hs : Smp s) : G_bbr_ctl_shortest cp (n + 1) s q k = k (lateB q s) (shortO q s) := by
  have h1 := h.minAt; have h2 := hs.now; have h3 := h.minRtt
  rw [G_bbr_ctl_shortest, w64_id (n := s.xNow - q.xCc_MinAt) (by omega) (by omega)]
  unfold shortO lateB
  by_cases a : 0 < q.xCc_MinRtt
  · have e : decide (0 < q.xCc_MinRtt ∧ 10000000 < s.xNow - q.xCc_MinAt) = decide (10000000 < s.xNow - q.xCc_MinAt) := by rw [decide_eq_decide]; omega
    rw [ct a, e]
    simp only [decide_eq_true_eq]
    by_cases b : 0 < s.xRtt
    case neg => rw [cf b, if_neg (fun g => b g.1)]
    rw [ct b]
    by_cases c : 10000000 < s.xNow - q.xCc_MinAt
    · rw [ct c, if_pos ⟨b, .inl c⟩]
    rw [cf c, cf (by omega)]
    by_cases d : s.xRtt ≤ q.xCc_MinRtt
    · rw [ct d, if_pos ⟨b, .inr (.inr d)⟩]
    · rw [cf d, if_neg (fun g => by omega)]
  · have e : decide (0 < q.xCc_MinRtt ∧ 10000000 < s.xNow - q.xCc_MinAt) = false := decide_eq_false (fun g => a g.1)
    rw [cf a, e]
    simp only [Bool.false_eq_true, false_or]
    by_cases b : 0 < s.xRtt
    case neg => rw [cf b, if_neg (fun g => b g.1)]
    rw [ct b, ct (by omega), if_pos ⟨b, .inl (by omega)⟩]
theorem full_k (cp : Nat → Nat → Bool) (q : QB) (k : QB → Option R) (h : Qn q) : G_bbr_ctl_full cp (n + 3) q k = k (fullO q) := by
  have h1 := qbest h; have h2 := h.full; have h3 := h.fullN
  rw [G_bbr_ctl_full, bw_k]
  unfold fullO
  by_cases a : bestO q.xCc_Bw = 0
  · rw [ct a, if_pos a]
  rw [cf a, if_neg a, w64_id (n := 5 * q.xCc_Full) (by omega) (by omega), w64_id (n := 4 * bestO q.xCc_Bw) (by omega) (by omega)]
  by_cases b : 5 * q.xCc_Full ≤ 4 * bestO q.xCc_Bw
  · rw [ct b, if_pos b]
  rw [cf b, if_neg b, mn_min, w64_id (n := q.xCc_FullN + 1) (by omega) (by omega)]
  by_cases c : min 3 (q.xCc_FullN + 1) = 3
  · rw [ct c, if_pos c]
  · rw [cf c, if_neg c]
theorem prod_k (cp : Nat → Nat → Bool) (q : QB) (k : Int → QB → Option R) (h : Qn q) (hn : 5 ≤ n) : G_bbr_ctl_product cp (n + 2) q k = k (prodO q) q := by
  have h1 := qbest h; have h2 := h.minRtt
  rw [G_bbr_ctl_product]
  obtain ⟨m, rfl⟩ : ∃ m, n = m + 1 := ⟨n - 1, by omega⟩
  rw [bw_k, MulDiv_k cp (m + 1) _ _ _ _ (by omega) (by omega) (by omega) (by omega), mn_min]; rfl
theorem probe_k (cp : Nat → Nat → Bool) (q : QB) (now : Int) (k : QB → Option R) : G_bbr_ctl_probe cp (n + 1) now q k = k (probeO q now) := rfl
theorem cycle_k (cp : Nat → Nat → Bool) (q : QB) (s : SSample) (k : QB → Option R) (h : Qn q) (hs : Smp s) (hn : 5 ≤ n) : G_bbr_ctl_cycle cp (n + 3) s q k = k (cycleO q s) := by
  have h1 := h.phaseAt; have h2 := hs.now; have h3 := h.phase
  rw [G_bbr_ctl_cycle, w64_id (n := s.xNow - q.xCc_PhaseAt) (by omega) (by omega), w64_id (n := q.xCc_Phase + 1) (by omega) (by omega), tmod_pos (by omega)]
  have rest : cond (decide (q.xCc_Mode = 3)) (cond (decide (q.xCc_MinRtt < s.xNow - q.xCc_PhaseAt)) (k { q with xCc_Phase := (q.xCc_Phase + 1) % 8, xCc_PhaseAt := s.xNow }) (k q)) (k q) =
      k (if q.xCc_Mode = 3 ∧ q.xCc_MinRtt < s.xNow - q.xCc_PhaseAt then { q with xCc_Phase := (q.xCc_Phase + 1) % 8, xCc_PhaseAt := s.xNow } else q) := by
    by_cases a : q.xCc_Mode = 3
    case neg => rw [cf a, if_neg (fun g => a g.1)]
    rw [ct a]
    by_cases b : q.xCc_MinRtt < s.xNow - q.xCc_PhaseAt
    · rw [ct b, if_pos ⟨a, b⟩]
    · rw [cf b, if_neg (fun g => b g.2)]
  unfold cycleO
  by_cases a : q.xCc_Mode = 2
  · rw [ct a, prod_k n cp q _ h hn]
    by_cases b : s.xFlight ≤ prodO q
    · rw [ct b, if_pos ⟨a, b⟩]; rfl
    · rw [cf b, if_neg (fun g => b g.2)]; exact rest
  · rw [cf a, if_neg (fun g => a g.1)]; exact rest
theorem ask_k (cp : Nat → Nat → Bool) (q : QB) (s : SSample) (late : Bool) (k : QB → Option R) (h : Qn q) (hs : Smp s) : G_bbr_ctl_ask cp (n + 2) s late q k = k (askO q s late) := by
  have h1 := h.mss; have h2 := hs.now; have h3 := h.doneAt
  rw [G_bbr_ctl_ask]
  simp only [s_bbr_ctl_ask_12, s_bbr_ctl_ask_1, s_bbr_ctl_ask_10, s_bbr_ctl_ask_8, s_bbr_ctl_ask_3]
  have hv : ∀ F : Bool → Option R, cond late (F (!decide (q.xCc_Mode = 4))) (F false) = F (decide (late = true ∧ q.xCc_Mode ≠ 4)) := fun F => by
    cases late with
    | true => simp
    | false => simp
  rw [hv (fun v => s_bbr_ctl_ask_5 cp (n + 1) s q v _)]
  simp only [s_bbr_ctl_ask_5]
  unfold askO
  by_cases a : late = true ∧ q.xCc_Mode ≠ 4
  · rw [ct a, if_pos a]
  rw [cf a, if_neg a]
  by_cases b : q.xCc_Mode = 4
  case neg => rw [cnf b, if_pos b]
  rw [cnt b, if_neg (fun g => g b), w64_id (n := 4 * q.xCc_Mss) (by omega) (by omega), mn_min, w64_id (n := s.xNow + 200000) (by omega) (by omega), mx_max]
  by_cases c : q.xCc_DoneAt = 0
  · rw [ct c]
    by_cases d : s.xFlight ≤ 4 * q.xCc_Mss
    · rw [ct d, if_pos ⟨c, d⟩]
    · rw [cf d, if_neg (fun g => d g.2), cf (by omega), if_neg (by omega)]
  · rw [cf c, if_neg (fun g => c g.1), ct (by omega)]
    by_cases e : q.xCc_DoneAt ≤ s.xNow
    case neg => rw [cf e, if_neg (fun g => e g.2)]
    rw [ct e, if_pos ⟨by omega, e⟩]
    by_cases f : q.xCc_FullN = 3
    · rw [ct f, if_pos f]; rfl
    · rw [cf f, if_neg f]
theorem window_k (cp : Nat → Nat → Bool) (q : QB) (s : SSample) (k : QB → Option R) (h : Qn q) (hs : Smp s) (hn : 5 ≤ n) : G_bbr_ctl_window cp (n + 3) s q k = k (windowO q s) := by
  have h1 := h.mss; have h2 := hs.acked; have h3 := h.cwnd; have h4 := prod_range q
  rw [G_bbr_ctl_window]
  simp only [s_bbr_ctl_window_10, s_bbr_ctl_window_1, s_bbr_ctl_window_8]
  rw [prod_k n cp q _ h hn, mx_max, w64_id (n := 2 * prodO q) (by omega) (by omega), w64_id (n := 4 * q.xCc_Mss) (by omega) (by omega)]
  have key : ∀ kn : Int → Option R, s_bbr_ctl_window_3 cp (n + 2) s q (max (2 * prodO q) (4 * q.xCc_Mss)) kn = kn (wantO q s) := fun kn => by
    simp only [s_bbr_ctl_window_3]
    unfold wantO aimO
    rw [mn_min, mn_min, w64_id (n := 4 * q.xCc_Mss) (by omega) (by omega), w64_id (n := q.xCc_Cwnd + s.xAcked) (by omega) (by omega)]
    by_cases a : q.xCc_Mode = 4
    · rw [ct a, if_pos a]
    rw [cf a, if_neg a]
    by_cases b : q.xCc_FullN = 3
    · rw [ct b, if_pos b]
    rw [cf b, if_neg b]
    by_cases c : q.xCc_Cwnd < max (2 * prodO q) (4 * q.xCc_Mss)
    · rw [ct c, if_pos (.inl c)]
    rw [cf c, bw_k]
    by_cases d : bestO q.xCc_Bw = 0
    · rw [ct d, if_pos (.inr d)]
    · rw [cf d, if_neg (fun g => g.elim c d)]
  rw [key]
  simp only [s_bbr_ctl_window_5]
  rw [Clamp_k]; rfl
/-! ### a controller that may be stays one -/
theorem roundO_ok {q : QB} {s : SSample} (h : Qn q) (hs : Smp s) : Qn (roundO q s) ∧ q.xCc_Round ≤ (roundO q s).xCc_Round ∧ (roundO q s).xCc_Bw = q.xCc_Bw ∧ (roundO q s).xCc_Mss = q.xCc_Mss := by
  have h1 := h.round
  unfold roundO
  split
  · exact ⟨h, Int.le_refl _, rfl, rfl⟩
  · refine ⟨{ h with nextAt := hs.given, round := ⟨by dsimp only; omega, by dsimp only; omega⟩, fin := fin_mono h.fin (by dsimp only; omega) }, by dsimp only; omega, rfl, rfl⟩
theorem shortO_ok {q : QB} {s : SSample} (h : Qn q) (hs : Smp s) : Qn (shortO q s) := by
  unfold shortO
  split
  · exact { h with minRtt := hs.rtt, minAt := hs.now }
  · exact h
theorem fullO_ok {q : QB} (h : Qn q) : Qn (fullO q) := by
  have h1 := qbest h; have h2 := h.fullN; have h3 := h.mode
  unfold fullO
  split
  · exact h
  · split
    · exact { h with full := h1, fullN := ⟨by dsimp only; omega, by dsimp only; omega⟩ }
    · refine { h with fullN := ⟨by dsimp only; omega, by dsimp only; omega⟩, mode := ?_ }
      dsimp only; split <;> omega
theorem probeO_ok {q : QB} {now : Int} (h : Qn q) (h0 : 0 ≤ now) (h1 : now ≤ 1125899906842624) : Qn (probeO q now) := { h with mode := ⟨by show (1 : Int) ≤ 3; omega, by show (3 : Int) ≤ 4; omega⟩, phase := ⟨by show (0 : Int) ≤ 2; omega, by show (2 : Int) ≤ 7; omega⟩, phaseAt := ⟨h0, h1⟩ }
theorem cycleO_ok {q : QB} {s : SSample} (h : Qn q) (hs : Smp s) : Qn (cycleO q s) := by
  unfold cycleO
  split
  · exact probeO_ok h hs.now.1 hs.now.2
  · split
    · exact { h with phase := ⟨by dsimp only; omega, by dsimp only; omega⟩, phaseAt := hs.now }
    · exact h
theorem askO_ok {q : QB} {s : SSample} {late : Bool} (h : Qn q) (hs : Smp s) : Qn (askO q s late) := by
  have h1 := h.mss; have h2 := h.cwnd; have h3 := hs.now; have h4 := h.prior
  unfold askO
  split
  · exact { h with mode := ⟨by dsimp only; omega, by dsimp only; omega⟩, prior := ⟨by dsimp only; omega, by dsimp only; omega⟩, doneAt := ⟨by dsimp only; omega, by dsimp only; omega⟩ }
  · split
    · exact h
    · split
      · exact { h with doneAt := ⟨by dsimp only; omega, by dsimp only; omega⟩ }
      · split
        · split
          · refine probeO_ok ?_ h3.1 h3.2
            exact { h with minAt := h3, cwnd := ⟨by dsimp only; omega, by dsimp only; omega⟩, doneAt := ⟨by dsimp only; omega, by dsimp only; omega⟩ }
          · exact { h with minAt := h3, cwnd := ⟨by dsimp only; omega, by dsimp only; omega⟩, doneAt := ⟨by dsimp only; omega, by dsimp only; omega⟩, mode := ⟨by dsimp only; omega, by dsimp only; omega⟩ }
        · exact h
theorem windowO_ok {q : QB} {s : SSample} (h : Qn q) : Qn (windowO q s) := by
  have h1 := h.mss
  exact { h with cwnd := ⟨by unfold windowO; dsimp only; omega, by unfold windowO; dsimp only; omega⟩ }
theorem short_bw (q : QB) (s : SSample) : (shortO q s).xCc_Bw = q.xCc_Bw ∧ (shortO q s).xCc_Round = q.xCc_Round ∧ (shortO q s).xCc_Mss = q.xCc_Mss ∧ (shortO q s).xCc_Mode = q.xCc_Mode ∧ (shortO q s).xCc_Cwnd = q.xCc_Cwnd := by unfold shortO; split <;> exact ⟨rfl, rfl, rfl, rfl, rfl⟩
theorem full_bw (q : QB) : (fullO q).xCc_Bw = q.xCc_Bw ∧ (fullO q).xCc_Round = q.xCc_Round ∧ (fullO q).xCc_Mss = q.xCc_Mss ∧ (fullO q).xCc_Cwnd = q.xCc_Cwnd := by
  unfold fullO
  repeat' split
  all_goals exact ⟨rfl, rfl, rfl, rfl⟩
theorem cycle_bw (q : QB) (s : SSample) : (cycleO q s).xCc_Bw = q.xCc_Bw ∧ (cycleO q s).xCc_Round = q.xCc_Round ∧ (cycleO q s).xCc_Mss = q.xCc_Mss ∧ (cycleO q s).xCc_Cwnd = q.xCc_Cwnd := by
  unfold cycleO
  repeat' split
  all_goals exact ⟨rfl, rfl, rfl, rfl⟩
theorem ask_bw (q : QB) (s : SSample) (b : Bool) : (askO q s b).xCc_Bw = q.xCc_Bw ∧ (askO q s b).xCc_Round = q.xCc_Round ∧ (askO q s b).xCc_Mss = q.xCc_Mss := by
  unfold askO
  repeat' split
  all_goals exact ⟨rfl, rfl, rfl⟩
theorem brest_ok {q : QB} {s : SSample} {fresh : Bool} (h : Qn q) (hs : Smp s) : Qn (restB q s fresh) ∧ (restB q s fresh).xCc_Bw = q.xCc_Bw ∧ (restB q s fresh).xCc_Round = q.xCc_Round ∧ (restB q s fresh).xCc_Mss = q.xCc_Mss := by
  have hx : ∀ q' : QB, Qn q' → Qn (windowO (askO (cycleO q' s) s (lateB q s)) s) ∧ (windowO (askO (cycleO q' s) s (lateB q s)) s).xCc_Bw = q'.xCc_Bw ∧ (windowO (askO (cycleO q' s) s (lateB q s)) s).xCc_Round = q'.xCc_Round ∧ (windowO (askO (cycleO q' s) s (lateB q s)) s).xCc_Mss = q'.xCc_Mss := fun q' h' => by
    obtain ⟨a1, a2, a3⟩ := ask_bw (cycleO q' s) s (lateB q s)
    obtain ⟨b1, b2, b3, _⟩ := cycle_bw q' s
    exact ⟨windowO_ok (askO_ok (cycleO_ok h' hs) hs), a1.trans b1, a2.trans b2, a3.trans b3⟩
  have h1 := shortO_ok h hs
  obtain ⟨s1, s2, s3, _, _⟩ := short_bw q s
  unfold restB
  split
  · obtain ⟨f1, f2, f3, _⟩ := full_bw (shortO q s)
    obtain ⟨x1, x2, x3, x4⟩ := hx _ (fullO_ok h1)
    exact ⟨x1, x2.trans (f1.trans s1), x3.trans (f2.trans s2), x4.trans (f3.trans s3)⟩
  · obtain ⟨x1, x2, x3, x4⟩ := hx _ h1
    exact ⟨x1, x2.trans s1, x3.trans s2, x4.trans s3⟩
/-! ### the rate's sample -/
/-- What the row is behind a sample. -/
structure SpeedOk (q : QB) (s : SSample) (L : List SEntry) : Prop where
  chain : fchain none L = true
  fin : fin18 q.xCc_Round L = true
  len : L.length ≤ q.xCc_Bw.length + 1
  best : bestO L ≤ max (bestO q.xCc_Bw) (min s.xRate 1099511627776)
  one : 0 < min 1099511627776 s.xRate → (∀ e ∈ q.xCc_Bw, e.xV ≤ min 1099511627776 s.xRate) → L = [⟨q.xCc_Round, min 1099511627776 s.xRate⟩]
theorem put_speed {q : QB} {s : SSample} {l L : List SEntry} {v : Int} (h : Qn q) (hl : ∀ e ∈ l, e ∈ q.xCc_Bw) (hn : l.length ≤ q.xCc_Bw.length) (hv : 0 ≤ v ∧ v ≤ 1099511627776) (hv2 : v ≤ max (bestO q.xCc_Bw) (min s.xRate 1099511627776))
    (h1 : 0 < min 1099511627776 s.xRate → (∀ e ∈ q.xCc_Bw, e.xV ≤ min 1099511627776 s.xRate) → v = min 1099511627776 s.xRate) (hp : PutOk l q.xCc_Round v L) : SpeedOk q s L := by
  have hb : ∀ e ∈ L, e.xV ≤ max (bestO q.xCc_Bw) (min s.xRate 1099511627776) := fun e he => by
    rcases hp.mem e he with he | rfl
    · have := chain_best h.chain e (hl e he); omega
    · exact hv2
  refine ⟨hp.chain, ?_, by have := hp.len; omega, ?_, fun h2 h3 => ?_⟩
  · unfold fin18
    rw [List.all_eq_true]
    intro e he
    have hq := h.fin
    unfold fin18 at hq
    rw [List.all_eq_true] at hq
    rcases hp.mem e he with he | rfl
    · exact hq e (hl e he)
    · simp only [Bool.and_eq_true, decide_eq_true_eq]; omega
  · obtain ⟨l', rfl, _⟩ := hp.last
    cases l' with
    | nil => exact hb _ (by simp)
    | cons e r => exact hb e (by simp)
  · obtain ⟨l', rfl, hgt⟩ := hp.last
    have hv3 := h1 h2 h3
    cases l' with
    | nil => rw [hv3]; rfl
    | cons e r =>
      have := hgt e (by simp)
      rcases hp.mem e (by simp) with he | rfl
      · have := h3 e (hl e he); omega
      · dsimp only at this; omega
theorem chain_lt_last {l : List SEntry} {x : SEntry} : ∀ {p : Option SEntry}, fchain p l = true → l.getLast? = some x → ∀ e ∈ l.take (l.length - 1), e.xAt < x.xAt := by
  induction l with
  | nil => intro p _ hx; cases hx
  | cons a r ih =>
    intro p h hx e he
    cases r with
    | nil => simp at he
    | cons b r =>
      rw [List.getLast?_cons_cons] at hx
      have h2 := chain_tail h
      simp only [List.length_cons, Nat.add_sub_cancel, List.take_succ_cons] at he
      cases he with
      | head =>
        have := last_at h2 hx b (by simp)
        simp only [fchain, Bool.and_eq_true, decide_eq_true_eq] at h2
        omega
      | tail _ he => exact ih h2 hx e he
theorem speed_k (q : QB) (s : SSample) (h : Qn q) (hs : Smp s) (hc : (q.xCc_Bw.length + 1) * 16 ≤ 140737488355328) (hn : q.xCc_Bw.length ≤ n) :
    ∃ L, SpeedOk q s L ∧ ∀ k : QB → Option R, G_bbr_ctl_speed capB (n + 5) s q k = k { q with xCc_Bw := L } := by
  have hr := hs.rate; have hrd := h.round
  have hb := qbest h
  have keep : SpeedOk q s q.xCc_Bw ∨ True := .inr trivial
  by_cases a : min 1099511627776 s.xRate = 0
  · refine ⟨q.xCc_Bw, ⟨h.chain, h.fin, by omega, by omega, fun g => by omega⟩, fun k => ?_⟩
    rw [G_bbr_ctl_speed]
    simp only [s_bbr_ctl_speed_7, s_bbr_ctl_speed_1]
    rw [mn_min, ct a]
  by_cases b : s.xIdle = true ∧ min 1099511627776 s.xRate < bestO q.xCc_Bw
  · refine ⟨q.xCc_Bw, ⟨h.chain, h.fin, by omega, by omega, fun _ g => ?_⟩, fun k => ?_⟩
    · cases hq : q.xCc_Bw with
      | nil => rw [hq] at b; have := b.2; simp only [bestO] at this; omega
      | cons e r =>
        rw [hq] at b g
        have := g e (by simp)
        have h2 := b.2
        simp only [bestO] at h2
        omega
    · rw [G_bbr_ctl_speed]
      simp only [s_bbr_ctl_speed_7, s_bbr_ctl_speed_1]
      rw [mn_min, cf a, b.1, cond_true, bw_k, ct b.2]
  have go : ∀ k : QB → Option R, G_bbr_ctl_speed capB (n + 5) s q k = s_bbr_ctl_speed_4 capB (n + 4) q (min 1099511627776 s.xRate) (fun L => k { q with xCc_Bw := L }) := fun k => by
    rw [G_bbr_ctl_speed]
    simp only [s_bbr_ctl_speed_7, s_bbr_ctl_speed_1]
    rw [mn_min, cf a]
    cases hi : s.xIdle with
    | false => rfl
    | true => rw [cond_true, bw_k, cf (fun g => b ⟨hi, g⟩)]
  have put : ∀ (l : List SEntry) (v : Int), fchain none l = true → (∀ e ∈ l, e ∈ q.xCc_Bw) → l.length ≤ q.xCc_Bw.length → (∀ e ∈ l, e.xAt < q.xCc_Round) → 0 ≤ v ∧ v ≤ 1099511627776 → v ≤ max (bestO q.xCc_Bw) (min s.xRate 1099511627776) →
      (0 < min 1099511627776 s.xRate → (∀ e ∈ q.xCc_Bw, e.xV ≤ min 1099511627776 s.xRate) → v = min 1099511627776 s.xRate) →
      ∃ L, SpeedOk q s L ∧ ∀ k : List SEntry → Int → Option R, G_filter_Put capB (n + 4) l q.xCc_Round v 10 true k = k L 0 := fun l v p1 p2 p3 p4 p5 p6 p7 => by
    obtain ⟨L, hL, e⟩ := Put_k (R := R) n l q.xCc_Round v p1 hrd p5 p4 (by omega) (by omega)
    exact ⟨L, put_speed h p2 p3 p5 p6 p7 hL, e⟩
  cases hq : q.xCc_Bw.getLast? with
  | none =>
    have hnil := List.getLast?_eq_none_iff.1 hq
    obtain ⟨L, hL, e⟩ := put q.xCc_Bw (min 1099511627776 s.xRate) h.chain (fun e he => he) (Nat.le_refl _) (by rw [hnil]; intro e he; cases he) (by omega) (by omega) (fun _ _ => rfl)
    refine ⟨L, hL, fun k => ?_⟩
    rw [go]
    simp only [s_bbr_ctl_speed_4]
    rw [cf (by rw [hnil]; simp), e]
  | some x =>
    have hne : 0 < q.xCc_Bw.length := by cases hz : q.xCc_Bw with
      | nil => rw [hz] at hq; cases hq
      | cons => simp
    rw [List.getLast?_eq_getElem?] at hq
    have hw : wr .i64 ((q.xCc_Bw.length : Int) - 1) = ((q.xCc_Bw.length - 1 : Nat) : Int) := by rw [w64_id (by omega) (by omega)]; omega
    have hg : q.xCc_Bw.getD (Int.toNat ((q.xCc_Bw.length - 1 : Nat) : Int)) zEntry = x := by rw [Int.toNat_natCast, List.getD_eq_getElem?_getD, hq]; rfl
    have hx := List.mem_of_getElem? hq
    have hxv : 0 ≤ x.xV ∧ x.xV ≤ 1099511627776 ∧ x.xAt ≤ q.xCc_Round := by
      have h1 := h.fin
      unfold fin18 at h1
      rw [List.all_eq_true] at h1
      have h2 := h1 x hx
      simp only [Bool.and_eq_true, decide_eq_true_eq] at h2
      have h3 : fmay x = true := by
        have key : ∀ (l : List SEntry) (p : Option SEntry), fchain p l = true → ∀ e ∈ l, fmay e = true := by
          intro l
          induction l with
          | nil => intro p _ e he; cases he
          | cons a r ih =>
            intro p hp e he
            cases he with
            | head => cases p <;> simp only [fchain, Bool.and_eq_true] at hp <;> exact hp.1
            | tail _ he => exact ih _ (chain_tail hp) e he
        exact key _ _ h.chain x hx
      simp only [fmay, decide_eq_true_eq] at h3
      omega
    have hlast2 : q.xCc_Bw.getLast? = some x := by rw [List.getLast?_eq_getElem?]; exact hq
    have hbx := chain_best h.chain x hx
    by_cases c : x.xAt = q.xCc_Round
    · obtain ⟨L, hL, e⟩ := put (q.xCc_Bw.take (q.xCc_Bw.length - 1)) (max (min 1099511627776 s.xRate) x.xV) (chain_take _ h.chain) (fun e he => List.mem_of_mem_take he) (by rw [List.length_take]; omega)
        (fun e he => by have := chain_lt_last h.chain hlast2 e he; omega) (by omega) (by omega) (fun h1 h2 => by have := h2 x hx; omega)
      refine ⟨L, hL, fun k => ?_⟩
      rw [go]
      simp only [s_bbr_ctl_speed_4]
      rw [ct (by omega), hw, ct (by omega), ct (by omega), hg, ct c, ct (by omega), ct (by omega), ct (by omega), ct (by omega), ct trivial, mx_max, Int.toNat_natCast, e]
    · obtain ⟨L, hL, e⟩ := put q.xCc_Bw (min 1099511627776 s.xRate) h.chain (fun e he => he) (Nat.le_refl _) (fun e he => by have := last_at h.chain hlast2 e he; omega) (by omega) (by omega) (fun _ _ => rfl)
      refine ⟨L, hL, fun k => ?_⟩
      rw [go]
      simp only [s_bbr_ctl_speed_4]
      rw [ct (by omega), hw, ct (by omega), ct (by omega), hg, cf c, e]
/-! ### the whole -/
/-- What BBR answers: nothing new, or a controller behind a sample whose row is L. -/
def ackB (c : SCc) (s : SSample) (L : List SEntry) : SCc := toC (restB { roundO (ofC c) s with xCc_Bw := L } s (freshB (ofC c) s))
theorem bAcked_bad (c : SCc) (s : SSample) (hl : c.xBw.length < 9223372036854775807) (hn : c.xBw.length ≤ n) (h : ¬ (BbrOk c ∧ Smp s)) : ∃ e, (e = 230 ∨ e = 2) ∧ (BbrOk c → e = 2) ∧ ∀ k : SCc → Int → Option R, G_bbr_Acked capB (n + 11) c s k = k zCc e := by
  have hw : ∀ (M : Int) (l : List Int) (k : Bool → Option R), l.length ≤ 6 → G_bbr_within capB (n + 10) M l k = k (l.all fun x => decide (0 ≤ x ∧ x ≤ M)) := fun M l k h => within_k capB (n + 9) M l k (by omega) (by omega)
  by_cases hb : BbrOk c
  · refine ⟨2, .inr rfl, fun _ => rfl, fun k => ?_⟩
    rw [G_bbr_Acked]
    simp only [s_bbr_Acked_11, s_bbr_Acked_1]
    rw [bCheck_k capB n c _ hl hn, if_pos hb, cnt rfl, hw _ _ _ (by simp)]
    by_cases a1 : ([s.xNow, s.xGiven, s.xBefore, s.xRtt].all fun x => decide (0 ≤ x ∧ x ≤ 1125899906842624)) = true
    case neg => rw [Bool.eq_false_iff.2 a1]; rfl
    rw [a1, Bool.not_true, cond_false, hw _ _ _ (by simp)]
    by_cases a2 : ([s.xAcked, s.xFlight].all fun x => decide (0 ≤ x ∧ x ≤ 1073741824)) = true
    case neg => rw [Bool.eq_false_iff.2 a2]; rfl
    rw [a2, Bool.not_true, cond_false]
    simp only [List.all_cons, List.all_nil, Bool.and_true, Bool.and_eq_true, decide_eq_true_eq] at a1 a2
    by_cases a3 : s.xRate < 0
    · rw [ct a3]; rfl
    · exact absurd ⟨hb, ⟨a1.1, a1.2.1, a1.2.2.1, a1.2.2.2, a2.1, a2.2, by omega⟩⟩ h
  · refine ⟨230, .inl rfl, fun g => absurd g hb, fun k => ?_⟩
    rw [G_bbr_Acked]
    simp only [s_bbr_Acked_11, s_bbr_Acked_1]
    rw [bCheck_k capB n c _ hl hn, if_neg hb]; rfl
theorem bAcked_ok (c : SCc) (s : SSample) (hb : BbrOk c) (hs : Smp s) (hc : (c.xBw.length + 1) * 16 ≤ 140737488355328) (hn : c.xBw.length ≤ n) :
    ∃ L, SpeedOk (roundO (ofC c) s) s L ∧ BbrOk (ackB c s L) ∧ (ackB c s L).xBw = L ∧ (ackB c s L).xRound = (roundO (ofC c) s).xCc_Round ∧ (ackB c s L).xMss = c.xMss ∧ ∀ k : SCc → Int → Option R, G_bbr_Acked capB (n + 11) c s k = k (ackB c s L) 0 := by
  have hw : ∀ (M : Int) (l : List Int) (k : Bool → Option R), l.length ≤ 6 → G_bbr_within capB (n + 10) M l k = k (l.all fun x => decide (0 ≤ x ∧ x ≤ M)) := fun M l k h => within_k capB (n + 9) M l k (by omega) (by omega)
  have q0 := qn_of hb
  obtain ⟨q1, r1, r2, r3⟩ := roundO_ok q0 hs
  obtain ⟨L, hL, e⟩ := speed_k (R := R) (n + 5) (roundO (ofC c) s) s q1 hs (by rw [r2]; exact hc) (by rw [r2]; show c.xBw.length ≤ _; omega)
  have q2 : Qn { roundO (ofC c) s with xCc_Bw := L } := { q1 with chain := hL.chain, fin := hL.fin }
  obtain ⟨z1, z2, z3, z4⟩ := brest_ok (fresh := freshB (ofC c) s) q2 hs
  refine ⟨L, hL, qn_to z1, z2, z3, z4.trans r3, fun k => ?_⟩
  rw [G_bbr_Acked]
  simp only [s_bbr_Acked_11, s_bbr_Acked_1]
  have a1 : ([s.xNow, s.xGiven, s.xBefore, s.xRtt].all fun x => decide (0 ≤ x ∧ x ≤ 1125899906842624)) = true := by
    simp only [List.all_cons, List.all_nil, Bool.and_true, Bool.and_eq_true, decide_eq_true_eq]; exact ⟨hs.now, hs.given, hs.before, hs.rtt⟩
  have a2 : ([s.xAcked, s.xFlight].all fun x => decide (0 ≤ x ∧ x ≤ 1073741824)) = true := by
    simp only [List.all_cons, List.all_nil, Bool.and_true, Bool.and_eq_true, decide_eq_true_eq]; exact ⟨hs.acked, hs.flight⟩
  have a3 := hs.rate
  rw [bCheck_k capB n c _ (by omega) hn, if_pos hb, cnt rfl, hw _ _ _ (by simp), a1, Bool.not_true, cond_false, hw _ _ _ (by simp), a2, Bool.not_true, cond_false, cf (by omega)]
  show G_bbr_ctl_round capB (n + 10) s (ofC c) (fun r73 r74 => s_bbr_Acked_9 capB (n + 10) s r73 (toC r74) fun v92 => k v92 0) = _
  rw [round_k (n + 9) capB (ofC c) s _ q0, s_bbr_Acked_9, s_bbr_Acked_4]
  show G_bbr_ctl_speed capB (n + 10) s (roundO (ofC c) s) _ = _
  rw [e, short_k (n + 9) capB _ s _ q2 hs]
  have q3 := shortO_ok q2 hs
  have tail : ∀ q' : QB, Qn q' → s_bbr_Acked_6 capB (n + 10) s (lateB { roundO (ofC c) s with xCc_Bw := L } s) (toC q') (fun v91 => k v91 0) = k (toC (windowO (askO (cycleO q' s) s (lateB { roundO (ofC c) s with xCc_Bw := L } s)) s)) 0 := fun q' h' => by
    rw [s_bbr_Acked_6]
    show G_bbr_ctl_cycle capB (n + 10) s q' _ = _
    have h2 := cycleO_ok (s := s) h' hs
    have h3 := askO_ok (late := lateB { roundO (ofC c) s with xCc_Bw := L } s) h2 hs
    rw [cycle_k (n + 7) capB q' s _ h' hs (by omega), ask_k (n + 8) capB _ s _ _ h2 hs, window_k (n + 7) capB _ s _ h3 hs (by omega)]
    rfl
  unfold ackB restB
  generalize hq3 : shortO { roundO (ofC c) s with xCc_Bw := L } s = q' at *
  have key : ∀ F : QB → Option R, (∀ x, Qn x → F x = k (toC (windowO (askO (cycleO x s) s (lateB { roundO (ofC c) s with xCc_Bw := L } s)) s)) 0) →
      cond (freshB (ofC c) s) (cond (decide (q'.xCc_Mode = 1)) (cond (!s.xIdle) (F (fullO q')) (F q')) (F q')) (F q') = k (toC (windowO (askO (cycleO (if freshB (ofC c) s = true ∧ q'.xCc_Mode = 1 ∧ s.xIdle = false then fullO q' else q') s) s (lateB { roundO (ofC c) s with xCc_Bw := L } s)) s)) 0 := fun F hF => by
    cases hf : freshB (ofC c) s with
    | false => simp only [cond_false, Bool.false_eq_true, false_and, if_false]; exact hF _ q3
    | true =>
      by_cases m : q'.xCc_Mode = 1
      · cases hi : s.xIdle with
        | true => simp only [cond_true, decide_eq_true m, Bool.not_true, cond_false, Bool.true_eq_false, and_false, if_false]; exact hF _ q3
        | false => simp only [cond_true, decide_eq_true m, Bool.not_false, m, and_self, if_true]; exact hF _ (fullO_ok q3)
      · simp only [cond_true, decide_eq_false m, cond_false, m, false_and, and_false, if_false]; exact hF _ q3
  have hfull := fun (kk : QB → Option R) => full_k (n + 7) capB q' kk q3
  refine Eq.trans ?_ (key (fun x => s_bbr_Acked_6 capB (n + 10) s (lateB { roundO (ofC c) s with xCc_Bw := L } s) (toC x) (fun v91 => k v91 0)) tail)
  cases freshB (ofC c) s with
  | false => rfl
  | true =>
    simp only [cond_true]
    cases decide (q'.xCc_Mode = 1) with
    | false => rfl
    | true =>
      simp only [cond_true]
      cases s.xIdle with
      | true => rfl
      | false => simp only [Bool.not_false, cond_true]; exact hfull _
end
end
end Go.Proofs.Ytgnoidblkenglaa.M
