/- The document's three controllers behind one face, at rest, limited, and paced. -/
import Derived.Test.YtgnoidblkenglaaRTCcx
set_option linter.unusedVariables false
set_option linter.unusedSimpArgs false
namespace Go.Proofs.Ytgnoidblkenglaa.M
open Go Go.RowKit
noncomputable section
section
variable {R : Type} (cp : Nat → Nat → Bool) (n : Nat)
theorem Check15_k (c : SCc) (k : Int → Option R) (h0 : -9223372036854775808 ≤ c.xMss) (h1 : c.xMss ≤ 9223372036854775807) : G_ref15_Check cp (n + 3) c k = k (if RenoOk c then 0 else 230) := by
  have neg : ∀ (p : Prop) [Decidable p] (x : Option R), cond (decide p) (k 230) x = cond (decide (¬ p)) x (k 230) := fun p _ x => cneg
  rw [← kif k, G_ref15_Check, Common15_k cp n _ _ h0 h1]
  simp only [Plain15_k cp (n + 1), cnn]
  simp only [neg, cdd]
  refine ciff ?_
  simp only [RenoOk, Com, NoCub, NoBbr, Bool.false_eq_true, false_or, and_assoc]
theorem time12_k (x : Int) (k : Bool → Option R) : G_ref12_time cp (n + 1) x k = k (decide (0 ≤ x ∧ x ≤ 1125899906842624)) := by
  simp only [G_ref12_time]
  exact cdk k
theorem value12_k (x : Int) (k : Bool → Option R) : G_ref12_value cp (n + 1) x k = k (decide (0 ≤ x ∧ x ≤ 1152921504606846976)) := by
  simp only [G_ref12_value]
  exact cdk k
theorem time18_k (x : Int) (k : Bool → Option R) : G_ref18_time cp (n + 1) x k = k (decide (Tm x)) := by
  simp only [G_ref18_time]
  exact cdk k
theorem time19_k (x : Int) (k : Bool → Option R) : G_ref19_time cp (n + 1) x k = k (decide (Tm x)) := by
  simp only [G_ref19_time]
  exact cdk k
theorem Check12_loop (l : List SEntry) (kr ke : Option R) (hl : l.length < 9223372036854775807) : ∀ (r : List SEntry) (i m : Nat) (p : Option SEntry), l.drop i = r → i ≤ l.length → (i = 0 ∧ p = none ∨ 0 < i ∧ ∃ q, p = some q ∧ l[i - 1]? = some q) → r.length + 1 ≤ m →
    l_ref12_Check_19 cp (n + 1) m l true (i : Int) kr ke = cond (fchain p r) ke kr
  | [], i, 0, p, h, hi, hp, hk => by simp at hk
  | [], i, m + 1, p, h, hi, hp, hk => by
    have := drop_nil h
    simp only [l_ref12_Check_19, G_ref12_Check, s_ref12_Check_1, s_ref12_Check_3, s_ref12_Check_5, s_ref12_Check_8, s_ref12_Check_10, s_ref12_Check_11, s_ref12_Check_12, s_ref12_Check_13, s_ref12_Check_16, s_ref12_Check_18, s_ref12_Check_20, s_ref12_Check_21, s_ref12_Check_22, s_ref12_Check_23, s_ref12_Check_26, s_ref12_Check_28]
    rw [cf (by omega)]; cases p <;> rfl
  | e :: r, i, 0, p, h, hi, hp, hk => by simp at hk
  | e :: r, i, m + 1, p, h, hi, hp, hk => by
    obtain ⟨h1, h2⟩ := drop_lt h
    rw [l_ref12_Check_19]
    simp only [G_ref12_Check, s_ref12_Check_1, s_ref12_Check_3, s_ref12_Check_5, s_ref12_Check_8, s_ref12_Check_10, s_ref12_Check_11, s_ref12_Check_12, s_ref12_Check_13, s_ref12_Check_16, s_ref12_Check_18, s_ref12_Check_20, s_ref12_Check_21, s_ref12_Check_22, s_ref12_Check_23, s_ref12_Check_26, s_ref12_Check_28]
    rw [ct (by omega), ct (by omega), ct (by omega), rd_at h, time12_k]
    have ih := Check12_loop l kr ke hl r (i + 1) m (some e) h2 (by omega) (.inr ⟨by omega, e, rfl, prev_next h⟩) (by simpa using hk)
    have hm : fmay e = decide ((0 ≤ e.xAt ∧ e.xAt ≤ 1125899906842624) ∧ (0 ≤ e.xV ∧ e.xV ≤ 1152921504606846976)) := by
      unfold fmay; rw [decide_eq_decide, and_assoc]
    by_cases a1 : 0 ≤ e.xAt ∧ e.xAt ≤ 1125899906842624
    case neg =>
      have hf : fmay e = false := by rw [hm]; exact decide_eq_false fun g => a1 g.1
      rw [cnf a1]; cases p <;> simp [fchain, hf]
    rw [cnt a1, ct (by omega), ct (by omega), value12_k]
    by_cases a2 : 0 ≤ e.xV ∧ e.xV ≤ 1152921504606846976
    case neg =>
      have hf : fmay e = false := by rw [hm]; exact decide_eq_false fun g => a2 g.2
      rw [cnf a2]; cases p <;> simp [fchain, hf]
    have hf : fmay e = true := by rw [hm]; exact decide_eq_true ⟨a1, a2⟩
    rw [cnt a2]
    rcases hp with ⟨rfl, rfl⟩ | ⟨h0, q, rfl, hq⟩
    · rw [cf (by omega), cf (by omega), succ_w (by omega)]
      simp only [fchain, hf, Bool.true_and]
      exact ih
    · obtain ⟨e1, e2, e3⟩ := rd_prev h0 (by omega) hq
      simp only [fchain, hf, Bool.true_and]
      rw [ct (by omega), ct (by omega), ct (by omega), ct (by omega), ct (by omega), e2]
      by_cases b1 : e.xAt ≤ q.xAt
      · rw [ct b1, cond_false_and (decide_eq_false (by omega))]
      rw [cf b1, ct (by omega), cond_true, ct (by omega), ct (by omega), ct (by omega), ct (by omega), cond_true_and (decide_eq_true (by omega))]
      by_cases b2 : q.xV ≤ e.xV
      · rw [ct b2, cond_false_and (decide_eq_false (by omega))]
      rw [cf b2, Bool.not_true, cond_false, cond_true_and (decide_eq_true (by omega)), succ_w (by omega)]
      exact ih
theorem Check12_k (l : List SEntry) (k : Int → Option R) (hl : l.length < 9223372036854775807) (hn : l.length + 1 ≤ n + 1) : G_ref12_Check cp (n + 2) l true k = k (if fchain none l = true then 0 else 2) := by
  simp only [G_ref12_Check, s_ref12_Check_1, s_ref12_Check_3, s_ref12_Check_5, s_ref12_Check_8, s_ref12_Check_10, s_ref12_Check_11, s_ref12_Check_12, s_ref12_Check_13, s_ref12_Check_16, s_ref12_Check_18, s_ref12_Check_20, s_ref12_Check_21, s_ref12_Check_22, s_ref12_Check_23, s_ref12_Check_26, s_ref12_Check_28]
  refine (Check12_loop cp n l (k 2) (k 0) hl l 0 (n + 1) none rfl (by omega) (.inl ⟨rfl, rfl⟩) hn).trans ?_
  cases fchain none l <;> rfl
theorem Check18_loop (c : SCc) (kr ke : Option R) (hl : c.xBw.length < 9223372036854775807) : ∀ (r : List SEntry) (i m : Nat), c.xBw.drop i = r → i ≤ c.xBw.length → r.length + 1 ≤ m → l_ref18_Check_13 cp n m c (i : Int) kr ke = cond (fin18 c.xRound r) ke kr
  | [], i, 0, h, hi, hk => by simp at hk
  | [], i, m + 1, h, hi, hk => by
    have := drop_nil h
    simp only [l_ref18_Check_13, G_ref18_Check, s_ref18_Check_1, s_ref18_Check_4, s_ref18_Check_6, s_ref18_Check_7, s_ref18_Check_8, s_ref18_Check_10, s_ref18_Check_14, s_ref18_Check_15, s_ref18_Check_16, s_ref18_Check_17, s_ref18_Check_20, s_ref18_Check_22, s_ref18_Check_24]
    rw [cf (by omega)]; rfl
  | x :: r, i, 0, h, hi, hk => by simp at hk
  | x :: r, i, m + 1, h, hi, hk => by
    obtain ⟨h1, h2⟩ := drop_lt h
    simp only [l_ref18_Check_13, G_ref18_Check, s_ref18_Check_1, s_ref18_Check_4, s_ref18_Check_6, s_ref18_Check_7, s_ref18_Check_8, s_ref18_Check_10, s_ref18_Check_14, s_ref18_Check_15, s_ref18_Check_16, s_ref18_Check_17, s_ref18_Check_20, s_ref18_Check_22, s_ref18_Check_24, fin18, List.all_cons]
    rw [ct (by omega), ct (by omega), ct (by omega), rd_at h]
    by_cases a : 1099511627776 < x.xV
    · rw [ct a, decide_eq_false (by omega)]; rfl
    rw [cf a, ct (by omega), ct (by omega)]
    by_cases b : c.xRound < x.xAt
    · rw [ct b, decide_eq_false (show ¬ x.xAt ≤ c.xRound by omega), Bool.and_false]; rfl
    rw [cf b, decide_eq_true (show x.xV ≤ 1099511627776 by omega), decide_eq_true (show x.xAt ≤ c.xRound by omega), succ_w (by omega)]
    exact Check18_loop c kr ke hl r (i + 1) m h2 (by omega) (by simpa using hk)
theorem Check18_k (c : SCc) (k : Int → Option R) (hl : c.xBw.length < 9223372036854775807) (hn : c.xBw.length ≤ n) : G_ref18_Check cp (n + 4) c k = k (if BbrOk c then 0 else 230) := by
  have neg : ∀ (p : Prop) [Decidable p] (x : Option R), cond (decide p) (k 230) x = cond (decide (¬ p)) x (k 230) := fun p _ x => cneg
  have hb : ∀ (b : Bool) (x y : Option R), cond b x y = cond (decide (b = true)) x y := fun b x y => by cases b <;> rfl
  rw [← kif k]
  rw [G_ref18_Check, s_ref18_Check_24, s_ref18_Check_1]
  simp only [Plain15_k cp (n + 2)]
  rw [s_ref18_Check_22, s_ref18_Check_7]
  -- the times
  have hT : ∀ kn : Bool → Option R, s_ref18_Check_4 cp (n + 3) c kn = kn (!decide ((1 ≤ c.xMode ∧ c.xMode ≤ 4) ∧ fchain none c.xBw = true ∧ Tm c.xMinRtt ∧ Tm c.xMinAt ∧ Tm c.xNextAt ∧ Tm c.xPhaseAt ∧ Tm c.xDoneAt ∧ Tm c.xRound)) := fun kn => by
    simp only [s_ref18_Check_4]
    by_cases a1 : c.xMode < 1
    · rw [ct a1, decide_eq_false (fun g => by omega)]; rfl
    by_cases a2 : 4 < c.xMode
    · rw [cf a1, ct a2, decide_eq_false (fun g => by omega)]; rfl
    rw [cf a1, cf a2, Check12_k cp (n + 1) _ _ hl (by omega)]
    by_cases a3 : fchain none c.xBw = true
    case neg => rw [if_neg a3, cnf (by omega), decide_eq_false (fun g => a3 g.2.1)]; rfl
    rw [if_pos a3, cnt rfl]
    simp only [time18_k cp (n + 2)]
    have key : ∀ (P Q : Prop) [Decidable P] [Decidable Q], cond (!decide P) (kn true) (kn (!decide Q)) = kn (!decide (P ∧ Q)) := fun P Q _ _ => by
      by_cases h : P
      · rw [cnt h]; congr 2; simp [h]
      · rw [cnf h]; congr 1; simp [h]
    iterate 5 rw [key]
    congr 2
    rw [decide_eq_decide]
    constructor
    · exact fun g => ⟨⟨by omega, by omega⟩, a3, g⟩
    · exact fun g => g.2.2
  rw [hT]
  simp only [s_ref18_Check_6]
  have hL : ∀ k2 : Int → Option R, s_ref18_Check_20 cp (n + 3) c k2 = cond (fin18 c.xRound c.xBw) (s_ref18_Check_17 cp (n + 3) c k2) (k2 230) := fun k2 => by
    rw [s_ref18_Check_20, s_ref18_Check_16, s_ref18_Check_8, s_ref18_Check_15, s_ref18_Check_14]
    exact Check18_loop cp (n + 3) c _ _ hl c.xBw 0 (n + 3) rfl (by omega) (by omega)
  rw [hL]
  simp only [s_ref18_Check_17, Size15_k cp (n + 2), cnn, bool_not]
  rw [hb (fin18 c.xRound c.xBw)]
  simp only [neg, cdd]
  refine ciff ?_
  simp only [BbrOk, NoCub, Bool.false_eq_true, false_or, true_or, and_true, and_assoc, Int.not_lt]
  generalize (fchain none c.xBw = true) = P
  generalize (fin18 c.xRound c.xBw = true) = Q
  grind
theorem Check19_k (c : SCc) (k : Int → Option R) (h : InC c n) : G_ref19_Check cp (n + 5) c k = k (if CcOk c then 0 else 230) := by
  rw [G_ref19_Check]
  by_cases a1 : c.xKind = 1
  · rw [ct a1, Check15_k cp (n + 1) c _ h.r.mss.1 h.r.mss.2, cif (ccOk1 a1)]
  by_cases a2 : c.xKind = 2
  · rw [cf a1, ct a2, Check16_k cp (n + 1) c _ h.r.mss.1 h.r.mss.2, cif (ccOk2 a2)]
  by_cases a3 : c.xKind = 3
  · rw [cf a1, cf a2, ct a3, Check18_k cp n c _ h.len h.fit, cif (ccOk3 a1 a2)]
  · rw [cf a1, cf a2, cf a3, cif (ccOk3 a1 a2), if_neg (fun g => a3 g.1)]
theorem half_loop (c : SCc) (idle rto used v : Int) (ke : Int → Option R) (h0 : rto ≠ 0) (q : Nat) (hq : mn (wr .i64 (Int.tdiv idle rto)) 20 = q) : ∀ (d m : Nat) (x : Int) (i : Nat), i + d = q → 0 ≤ x → x ≤ 1073741824 → d + 1 ≤ m →
    l_ref19_Rest_11 cp n m c idle rto used v x (i : Int) ke = ke (x / 2 ^ d) := by
  intro d
  induction d with
  | zero =>
    intro m x i hi x0 x1 hm
    obtain ⟨m, rfl⟩ : ∃ z, m = z + 1 := ⟨m - 1, by omega⟩
    rw [l_ref19_Rest_11]
    simp only [s_ref19_Rest_6]
    rw [cf h0, hq, cf (by omega)]; simp
  | succ d ih =>
    intro m x i hi x0 x1 hm
    obtain ⟨m, rfl⟩ : ∃ z, m = z + 1 := ⟨m - 1, by omega⟩
    have hq20 : (q : Int) ≤ 20 := by rw [← hq, mn_min]; omega
    rw [l_ref19_Rest_11]
    simp only [s_ref19_Rest_6]
    rw [cf h0, hq, ct (by omega), tdiv_pos x0, w64_id (n := x / 2) (by omega) (by omega), succ_w (by omega), ih m (x / 2) (i + 1) (by omega) (by omega) (by omega) (by omega)]
    rw [Int.ediv_ediv_of_nonneg (by omega), Int.pow_succ, Int.mul_comm]
theorem Rest19_k (c : SCc) (idle rto used : Int) (k : SCc → Int → Option R) (h : InC c n) (hn : 22 ≤ n) : G_ref19_Rest cp (n + 6) c idle rto used k = k (restO c idle rto used) (restE c idle rto used) := by
  rw [G_ref19_Rest]
  simp only [s_ref19_Rest_22, s_ref19_Rest_1, s_ref19_Rest_20, s_ref19_Rest_16, s_ref19_Rest_14, s_ref19_Rest_12, s_ref19_Rest_4, s_ref19_Rest_17]
  rw [Check19_k cp n c _ h]
  unfold restO restE
  by_cases a : CcOk c
  case neg => simp only [if_neg a]; rfl
  simp only [if_pos a]
  rw [cnt trivial, time19_k cp (n + 4)]
  by_cases b1 : Tm idle
  case neg => rw [cnf b1, if_neg (fun g => b1 g.1), if_neg (fun g => b1 g.1)]; rfl
  rw [cnt b1, time19_k cp (n + 4)]
  by_cases b2 : Tm rto
  case neg => rw [cnf b2, if_neg (fun g => b2 g.2.1), if_neg (fun g => b2 g.2.1)]; rfl
  rw [cnt b2, Size15_k cp (n + 4)]
  by_cases b3 : Sz used
  case neg => rw [cnf b3, if_neg (fun g => b3 g.2.2), if_neg (fun g => b3 g.2.2)]; rfl
  have b : Tm idle ∧ Tm rto ∧ Sz used := ⟨b1, b2, b3⟩
  rw [cnt b3, if_pos b, if_pos b]
  by_cases a2 : rto = 0
  · rw [ct a2, if_pos (.inr (.inl a2))]
  by_cases a3 : idle ≤ rto
  · rw [cf a2, ct a3, if_pos (.inr (.inr a3))]
  by_cases a1 : c.xKind = 3
  · rw [cf a2, cf a3, ct a1, if_pos (.inl a1)]
  have hc := cwnd_of a
  have q0 : 0 ≤ idle / rto := Int.ediv_nonneg (by omega) (by omega)
  have q1 : idle / rto ≤ idle := Int.ediv_le_self _ (by omega)
  have hq : mn (wr .i64 (Int.tdiv idle rto)) 20 = ((min 20 (idle / rto)).toNat : Nat) := by
    rw [mn_min, tdiv_pos (by omega), w64_id (n := idle / rto) (by omega) (by omega)]; omega
  rw [cf a2, cf a3, cf a1, if_neg (by omega)]
  refine (half_loop cp (n + 5) c idle rto used _ _ a2 _ hq (min 20 (idle / rto)).toNat (n + 5) c.xCwnd 0 (by omega) (by omega) (by omega) (by omega)).trans ?_
  rw [mx_max, mx_max, mx_max, mn_min, mn_min, w64_id (n := 2 * c.xMss) (by omega) (by omega), w64_id (n := c.xCwnd * 3) (by omega) (by omega), tdiv_pos (by omega), w64_id (n := c.xCwnd * 3 / 4) (by omega) (by omega), Int.min_comm _ c.xCwnd, Int.mul_comm c.xCwnd 3]
  congr 2
  omega
def limitO (c : SCc) (w : Int) : SCc := if CcOk c then if Sz w then { c with xCwnd := max c.xMss w } else zCc else zCc
def limitE (c : SCc) (w : Int) : Int := if CcOk c then if Sz w then 0 else 2 else 230
theorem Limit_k (c : SCc) (w : Int) (k : SCc → Int → Option R) (h : InC c n) : G_cc_Limit cp (n + 13) c w k = k (limitO c w) (limitE c w) := by
  rw [G_cc_Limit, ccsize_k cp (n + 11), asked_k cp n c _ _ h]
  unfold limitO limitE
  by_cases a : CcOk c
  case neg => simp only [if_neg a]; rfl
  by_cases b : Sz w
  · simp only [if_pos a, if_pos b, decide_eq_true b, if_true]; rw [cnt trivial, mx_max]
  · simp only [if_pos a, if_neg b, decide_eq_false b]; rfl
theorem Limit19_k (c : SCc) (w : Int) (k : SCc → Int → Option R) (h : InC c n) : G_ref19_Limit cp (n + 6) c w k = k (limitO c w) (limitE c w) := by
  rw [G_ref19_Limit, Check19_k cp n c _ h]
  unfold limitO limitE
  by_cases a : CcOk c
  case neg => simp only [if_neg a]; rfl
  simp only [if_pos a]
  rw [cnt trivial, Size15_k cp (n + 4)]
  by_cases b : Sz w
  · simp only [if_pos b]; rw [cnt b, mx_max, Int.max_comm]
  · simp only [if_neg b]; rw [cnf b]; rfl
/-- How fast to pace, in hundredths. -/
def gainO (c : SCc) : Int := if c.xMode = 1 then 289 else if c.xMode = 2 then 35 else if c.xMode = 3 then if c.xPhase = 0 then 125 else if c.xPhase = 1 then 75 else 100 else 100
theorem best_range {c : SCc} (h : BbrOk c) : 0 ≤ bestO c.xBw ∧ bestO c.xBw ≤ 1099511627776 := by
  obtain ⟨_, _, _, _, _, _, _, _, _, _, _, _, _, _, _, _, _, _, _, _, h1, h2⟩ := h
  cases hb : c.xBw with
  | nil => show 0 ≤ (0 : Int) ∧ (0 : Int) ≤ 1099511627776; omega
  | cons e r =>
    rw [hb] at h1 h2
    simp only [fchain, fmay, fin18, List.all_cons, Bool.and_eq_true, decide_eq_true_eq] at h1 h2
    show 0 ≤ e.xV ∧ e.xV ≤ 1099511627776; omega
theorem Gain_k (c : SCc) (k : Int → Option R) (h : InC c n) (hb : BbrOk c) : G_bbr_Gain cp (n + 11) c k = k (gainO c) := by
  rw [G_bbr_Gain, bCheck_k cp n c _ h.len h.fit, if_pos hb, cnt rfl]
  unfold gainO
  by_cases a1 : c.xMode = 1
  · rw [ct a1, if_pos a1]
  by_cases a2 : c.xMode = 2
  · rw [cf a1, ct a2, if_neg a1, if_pos a2]
  rw [cf a1, cf a2, if_neg a1, if_neg a2]
  by_cases a3 : c.xMode = 3
  case neg => rw [cf a3, cf a3, if_neg a3]
  rw [ct a3, if_pos a3]
  by_cases b0 : c.xPhase = 0
  · rw [ct b0, if_pos b0]
  rw [cf b0, if_neg b0, ct a3]
  by_cases b1 : c.xPhase = 1
  · rw [ct b1, if_pos b1]
  · rw [cf b1, if_neg b1]
theorem Gain18_k (c : SCc) (k : Int → Option R) (h : InC c n) (hb : BbrOk c) : G_ref18_Gain cp (n + 5) c k = k (gainO c) := by
  rw [G_ref18_Gain, Check18_k cp n c _ h.len h.fit, if_pos hb, cnt rfl]
  unfold gainO
  by_cases a1 : c.xMode = 1
  · rw [ct a1, if_pos a1]
  by_cases a2 : c.xMode = 2
  · rw [cf a1, ct a2, if_neg a1, if_pos a2]
  rw [cf a1, cf a2, if_neg a1, if_neg a2]
  by_cases a3 : c.xMode = 3
  case neg => rw [cf a3, if_neg a3]
  rw [ct a3, if_pos a3]
  have hp : c.xPhase = 0 ∨ c.xPhase = 1 ∨ c.xPhase = 2 ∨ c.xPhase = 3 ∨ c.xPhase = 4 ∨ c.xPhase = 5 ∨ c.xPhase = 6 ∨ c.xPhase = 7 := by
    obtain ⟨_, _, _, _, _, _, _, _, _, _, _, _, _, _, _, _, h1, _⟩ := hb
    omega
  rw [ct (by omega), ct (by simp; omega)]
  rcases hp with e | e | e | e | e | e | e | e <;> rw [e] <;> rfl
theorem bandwidth_k (q : ST68) (k : Int → ST68 → Option R) : G_bbr_ctl_bandwidth cp (n + 2) q k = k (bestO q.xCc_Bw) q := by
  rw [G_bbr_ctl_bandwidth]
  obtain ⟨b, e⟩ := Best_k cp n q.xCc_Bw (fun r35 r36 => k r35 q)
  exact e
theorem Bandwidth_k (c : SCc) (k : Int → Option R) (h : InC c n) (hb : BbrOk c) : G_bbr_Bandwidth cp (n + 11) c k = k (bestO c.xBw) := by
  rw [G_bbr_Bandwidth, bCheck_k cp n c _ h.len h.fit, if_pos hb, cnt rfl, bandwidth_k]
theorem Bandwidth18_k (c : SCc) (k : Int → Option R) (h : InC c n) (hb : BbrOk c) : G_ref18_Bandwidth cp (n + 5) c k = k (bestO c.xBw) := by
  rw [G_ref18_Bandwidth, Check18_k cp n c _ h.len h.fit, if_pos hb, cnt rfl, G_ref18_bandwidth, G_ref12_Best]
  cases c.xBw with
  | nil => rfl
  | cons e r => rw [cf (by simp; omega), ct (by simp)]; rfl
def paceR (c : SCc) : Int := if c.xKind = 3 then gainO c * bestO c.xBw / 100 else 0
def paceG (c : SCc) : Int := if c.xKind = 3 then 289 else if c.xCwnd < c.xSsthresh then 200 else 120
def paceT (s : Int) : Int := if s < 1 then 1000 else min s 1125899906842624
def paceO (c : SCc) (s f : Int) : Int := if CcOk c then min 1099511627776 (max (max 1 f) (if paceR c = 0 then mdv c.xCwnd (paceG c * 1000000) (100 * paceT s) else paceR c)) else 0
theorem gain_range (c : SCc) : 0 ≤ gainO c ∧ gainO c ≤ 289 := by unfold gainO; repeat' split <;> omega
theorem pace_w {c : SCc} (h : BbrOk c) : wr .i64 (Int.tdiv (wr .i64 (gainO c * bestO c.xBw)) 100) = gainO c * bestO c.xBw / 100 := by
  obtain ⟨b0, b1⟩ := best_range h
  obtain ⟨g0, g1⟩ := gain_range c
  have p0 : 0 ≤ gainO c * bestO c.xBw := Int.mul_nonneg g0 b0
  have p1 : gainO c * bestO c.xBw ≤ 289 * 1099511627776 := mul_le g0 g1 b0 b1
  rw [w64_id (n := gainO c * bestO c.xBw) (by omega) (by omega), tdiv_pos p0, w64_id (by omega) (by omega)]
theorem pace_rest (c : SCc) (s f g r : Int) (k : Int → Option R) (hn : 5 ≤ n) (hc : 0 ≤ c.xCwnd ∧ c.xCwnd ≤ 1073741824) (hg : 0 ≤ g ∧ g ≤ 289) (s0 : -9223372036854775808 ≤ s) (s1 : s ≤ 9223372036854775807) :
    s_cc_Pace_4 cp n c s f g r k = k (min 1099511627776 (max (max 1 f) (if r = 0 then mdv c.xCwnd (g * 1000000) (100 * paceT s) else r))) := by
  obtain ⟨m, rfl⟩ : ∃ m, n = m + 1 := ⟨n - 1, by omega⟩
  simp only [s_cc_Pace_4]
  by_cases a : r = 0
  case neg => rw [cf a, if_neg a, mn_min, mx_max, mx_max]
  rw [ct a, if_pos a]
  unfold paceT
  by_cases b : s < 1
  · rw [ct (by rw [mn_min]; omega), if_pos b, w64_id (n := g * 1000000) (by omega) (by omega), w64_id (n := 100 * 1000) (by omega) (by omega), MulDiv_k cp m _ _ _ _ (by omega) (by omega) (by omega) (by omega), mn_min, mx_max, mx_max]
  · rw [cf (by rw [mn_min]; omega), if_neg b, w64_id (n := g * 1000000) (by omega) (by omega), mn_min s, w64_id (n := 100 * _) (by omega) (by omega), MulDiv_k cp m _ _ _ _ (by omega) (by omega) (by omega) (by omega), mn_min, mx_max, mx_max]
theorem Pace_k (c : SCc) (s f : Int) (k : Int → Option R) (h : InC c n) (s0 : -9223372036854775808 ≤ s) (s1 : s ≤ 9223372036854775807) : G_cc_Pace cp (n + 13) c s f k = k (paceO c s f) := by
  rw [G_cc_Pace, s_cc_Pace_7, s_cc_Pace_1, ccCheck_k cp (n + 1) c _ ⟨h.r, h.len, by have := h.fit; omega⟩]
  unfold paceO paceR paceG
  by_cases a : CcOk c
  case neg => rw [if_neg a, if_neg a]; rfl
  rw [if_pos a, if_pos a, cnt rfl]
  have hc := cwnd_of a
  by_cases a3 : c.xKind = 3
  · have hb : BbrOk c := (ccOk3 (by omega) (by omega)).1 a
    rw [ct a3, if_pos a3, if_pos a3, Gain_k cp (n + 1) c _ ⟨h.r, h.len, by have := h.fit; omega⟩ hb, Bandwidth_k cp (n + 1) c _ ⟨h.r, h.len, by have := h.fit; omega⟩ hb, pace_w hb, pace_rest cp (n + 12) c s f _ _ _ (by omega) (by omega) (by omega) s0 s1]
  · rw [cf a3, if_neg a3, if_neg a3]
    by_cases b : c.xCwnd < c.xSsthresh
    · rw [ct b, if_pos b, pace_rest cp (n + 12) c s f _ _ _ (by omega) (by omega) (by omega) s0 s1]
    · rw [cf b, if_neg b, pace_rest cp (n + 12) c s f _ _ _ (by omega) (by omega) (by omega) s0 s1]
theorem rpace_rest (c : SCc) (s f g r : Int) (k : Int → Option R) (hn : 65 ≤ n) (hc : 0 ≤ c.xCwnd ∧ c.xCwnd ≤ 1073741824) (hg : 0 ≤ g ∧ g ≤ 289) (s0 : -9223372036854775808 ≤ s) (s1 : s ≤ 9223372036854775807) :
    s_ref19_Pace_4 cp n c s f r g k = k (min 1099511627776 (max (max 1 f) (if r = 0 then mdv c.xCwnd (g * 1000000) (100 * paceT s) else r))) := by
  obtain ⟨m, rfl⟩ : ∃ m, n = m + 1 := ⟨n - 1, by omega⟩
  have hmx : ∀ z : Int, mn (mx (mx z f) 1) 1099511627776 = min 1099511627776 (max (max 1 f) z) := fun z => by rw [mn_min, mx_max, mx_max]; omega
  simp only [s_ref19_Pace_4, hmx]
  by_cases a : r = 0
  case neg => rw [cf a, if_neg a]
  rw [ct a, if_pos a]
  unfold paceT
  have e : mn 1000 1125899906842624 = 1000 := by rw [mn_min]; omega
  by_cases b : s < 1
  · rw [ct b, if_pos b, e, Int.mul_comm 1000000 g, w64_id (n := g * 1000000) (by omega) (by omega), w64_id (n := 100 * 1000) (by omega) (by omega), rMulDiv_k cp m _ _ _ _ (by omega) (by omega) (by omega) (by omega)]
  · rw [cf b, if_neg b, Int.mul_comm 1000000 g, w64_id (n := g * 1000000) (by omega) (by omega), mn_min s, w64_id (n := 100 * _) (by omega) (by omega), rMulDiv_k cp m _ _ _ _ (by omega) (by omega) (by omega) (by omega)]
theorem Pace19_k (c : SCc) (s f : Int) (k : Int → Option R) (h : InC c n) (hn : 65 ≤ n) (s0 : -9223372036854775808 ≤ s) (s1 : s ≤ 9223372036854775807) : G_ref19_Pace cp (n + 6) c s f k = k (paceO c s f) := by
  rw [G_ref19_Pace, s_ref19_Pace_7, s_ref19_Pace_1, Check19_k cp n c _ h]
  unfold paceO paceR paceG
  by_cases a : CcOk c
  case neg => rw [if_neg a, if_neg a]; rfl
  rw [if_pos a, if_pos a, cnt rfl]
  have hc := cwnd_of a
  by_cases a3 : c.xKind = 3
  · have hb : BbrOk c := (ccOk3 (by omega) (by omega)).1 a
    rw [ct a3, if_pos a3, if_pos a3, Gain18_k cp n c _ h hb, Bandwidth18_k cp n c _ h hb, pace_w hb, rpace_rest cp (n + 5) c s f _ _ _ (by omega) (by omega) (by omega) s0 s1]
  · rw [cf a3, if_neg a3, if_neg a3]
    by_cases b : c.xCwnd < c.xSsthresh
    · rw [ct b, if_pos b, rpace_rest cp (n + 5) c s f _ _ _ (by omega) (by omega) (by omega) s0 s1]
    · rw [cf b, if_neg b, rpace_rest cp (n + 5) c s f _ _ _ (by omega) (by omega) (by omega) s0 s1]
end
end
end Go.Proofs.Ytgnoidblkenglaa.M
