/- The document's test of a controller of the path's own speed, in plain words. -/
import Derived.Test.YtgadpgeghlhpnaaFTHeads18
set_option linter.unusedVariables false
set_option linter.unusedSimpArgs false
namespace Go.Proofs.Ytgadpgeghlhpnaa.M
open Go Go.RowKit
noncomputable section
abbrev Tm (x : Int) : Prop := 0 ≤ x ∧ x ≤ 1125899906842624
section
variable {R : Type} (cp : Nat → Nat → Bool) (n : Nat)
theorem time12_k (x : Int) (k : Bool → Option R) : G_ref12_time cp (n + 1) x k = k (decide (0 ≤ x ∧ x ≤ 1125899906842624)) := by
  simp only [G_ref12_time]
  exact cdk k
theorem value12_k (x : Int) (k : Bool → Option R) : G_ref12_value cp (n + 1) x k = k (decide (0 ≤ x ∧ x ≤ 1152921504606846976)) := by
  simp only [G_ref12_value]
  exact cdk k
theorem time18_k (x : Int) (k : Bool → Option R) : G_ref18_time cp (n + 1) x k = k (decide (Tm x)) := by
  simp only [G_ref18_time]
  exact cdk k
theorem Check12_loop (l : List SEntry) (kr ke : Option R) (hl : l.length < 9223372036854775807) : ∀ (r : List SEntry) (i m : Nat) (p : Option SEntry), l.drop i = r → i ≤ l.length → (i = 0 ∧ p = none ∨ 0 < i ∧ ∃ q, p = some q ∧ l[i - 1]? = some q) → r.length + 1 ≤ m →
    l_ref12_Check_19 cp (n + 1) m l true (i : Int) kr ke = cond (fchain p r) ke kr
  | [], i, 0, p, h, hi, hp, hk => by simp at hk
  | [], i, m + 1, p, h, hi, hp, hk => by
    have := drop_nil h
    simp only [l_ref12_Check_19, G_ref12_Check, s_ref12_Check_1, s_ref12_Check_3, s_ref12_Check_5, s_ref12_Check_8, s_ref12_Check_10, s_ref12_Check_11, s_ref12_Check_12, s_ref12_Check_13, s_ref12_Check_16, s_ref12_Check_18, s_ref12_Check_20, s_ref12_Check_21, s_ref12_Check_22, s_ref12_Check_23, s_ref12_Check_26, s_ref12_Check_28]
    rw [cf (by omega)]; cases p <;> rfl
  | e :: r, i, 0, p, h, hi, hp, hk => by simp at hk
  | e :: r, i, m + 1, p, h, hi, hp, hk => by
    obtain ⟨h1, h2⟩ := drop_lt h
    rw [l_ref12_Check_19]
    simp only [G_ref12_Check, s_ref12_Check_1, s_ref12_Check_3, s_ref12_Check_5, s_ref12_Check_8, s_ref12_Check_10, s_ref12_Check_11, s_ref12_Check_12, s_ref12_Check_13, s_ref12_Check_16, s_ref12_Check_18, s_ref12_Check_20, s_ref12_Check_21, s_ref12_Check_22, s_ref12_Check_23, s_ref12_Check_26, s_ref12_Check_28]
    rw [ct (by omega), ct (by omega), ct (by omega), rd_at h, time12_k]
    have ih := Check12_loop l kr ke hl r (i + 1) m (some e) h2 (by omega) (.inr ⟨by omega, e, rfl, prev_next h⟩) (by simpa using hk)
    have hm : fmay e = decide ((0 ≤ e.xAt ∧ e.xAt ≤ 1125899906842624) ∧ (0 ≤ e.xV ∧ e.xV ≤ 1152921504606846976)) := by
      unfold fmay; rw [decide_eq_decide, and_assoc]
    by_cases a1 : 0 ≤ e.xAt ∧ e.xAt ≤ 1125899906842624
    case neg =>
      have hf : fmay e = false := by rw [hm]; exact decide_eq_false fun g => a1 g.1
      rw [cnf a1]; cases p <;> simp [fchain, hf]
    rw [cnt a1, ct (by omega), ct (by omega), value12_k]
    by_cases a2 : 0 ≤ e.xV ∧ e.xV ≤ 1152921504606846976
    case neg =>
      have hf : fmay e = false := by rw [hm]; exact decide_eq_false fun g => a2 g.2
      rw [cnf a2]; cases p <;> simp [fchain, hf]
    have hf : fmay e = true := by rw [hm]; exact decide_eq_true ⟨a1, a2⟩
    rw [cnt a2]
    rcases hp with ⟨rfl, rfl⟩ | ⟨h0, q, rfl, hq⟩
    · rw [cf (by omega), cf (by omega), succ_w (by omega)]
      simp only [fchain, hf, Bool.true_and]
      exact ih
    · obtain ⟨e1, e2, e3⟩ := rd_prev h0 (by omega) hq
      simp only [fchain, hf, Bool.true_and]
      rw [ct (by omega), ct (by omega), ct (by omega), ct (by omega), ct (by omega), e2]
      by_cases b1 : e.xAt ≤ q.xAt
      · rw [ct b1, cond_false_and (decide_eq_false (by omega))]
      rw [cf b1, ct (by omega), cond_true, ct (by omega), ct (by omega), ct (by omega), ct (by omega), cond_true_and (decide_eq_true (by omega))]
      by_cases b2 : q.xV ≤ e.xV
      · rw [ct b2, cond_false_and (decide_eq_false (by omega))]
      rw [cf b2, Bool.not_true, cond_false, cond_true_and (decide_eq_true (by omega)), succ_w (by omega)]
      exact ih
theorem Check12_k (l : List SEntry) (k : Int → Option R) (hl : l.length < 9223372036854775807) (hn : l.length + 1 ≤ n + 1) : G_ref12_Check cp (n + 2) l true k = k (if fchain none l = true then 0 else 2) := by
  simp only [G_ref12_Check, s_ref12_Check_1, s_ref12_Check_3, s_ref12_Check_5, s_ref12_Check_8, s_ref12_Check_10, s_ref12_Check_11, s_ref12_Check_12, s_ref12_Check_13, s_ref12_Check_16, s_ref12_Check_18, s_ref12_Check_20, s_ref12_Check_21, s_ref12_Check_22, s_ref12_Check_23, s_ref12_Check_26, s_ref12_Check_28]
  refine (Check12_loop cp n l (k 2) (k 0) hl l 0 (n + 1) none rfl (by omega) (.inl ⟨rfl, rfl⟩) hn).trans ?_
  cases fchain none l <;> rfl
theorem Check18_loop (c : SCc) (kr ke : Option R) (hl : c.xBw.length < 9223372036854775807) : ∀ (r : List SEntry) (i m : Nat), c.xBw.drop i = r → i ≤ c.xBw.length → r.length + 1 ≤ m → l_ref18_Check_13 cp n m c (i : Int) kr ke = cond (fin18 c.xRound r) ke kr
  | [], i, 0, h, hi, hk => by simp at hk
  | [], i, m + 1, h, hi, hk => by
    have := drop_nil h
    simp only [l_ref18_Check_13, G_ref18_Check, s_ref18_Check_1, s_ref18_Check_4, s_ref18_Check_6, s_ref18_Check_7, s_ref18_Check_8, s_ref18_Check_10, s_ref18_Check_14, s_ref18_Check_15, s_ref18_Check_16, s_ref18_Check_17, s_ref18_Check_20, s_ref18_Check_22, s_ref18_Check_24]
    rw [cf (by omega)]; rfl
  | x :: r, i, 0, h, hi, hk => by simp at hk
  | x :: r, i, m + 1, h, hi, hk => by
    obtain ⟨h1, h2⟩ := drop_lt h
    simp only [l_ref18_Check_13, G_ref18_Check, s_ref18_Check_1, s_ref18_Check_4, s_ref18_Check_6, s_ref18_Check_7, s_ref18_Check_8, s_ref18_Check_10, s_ref18_Check_14, s_ref18_Check_15, s_ref18_Check_16, s_ref18_Check_17, s_ref18_Check_20, s_ref18_Check_22, s_ref18_Check_24, fin18, List.all_cons]
    rw [ct (by omega), ct (by omega), ct (by omega), rd_at h]
    by_cases a : 1099511627776 < x.xV
    · rw [ct a, decide_eq_false (by omega)]; rfl
    rw [cf a, ct (by omega), ct (by omega)]
    by_cases b : c.xRound < x.xAt
    · rw [ct b, decide_eq_false (show ¬ x.xAt ≤ c.xRound by omega), Bool.and_false]; rfl
    rw [cf b, decide_eq_true (show x.xV ≤ 1099511627776 by omega), decide_eq_true (show x.xAt ≤ c.xRound by omega), succ_w (by omega)]
    exact Check18_loop c kr ke hl r (i + 1) m h2 (by omega) (by simpa using hk)
theorem Check18_k (c : SCc) (k : Int → Option R) (hl : c.xBw.length < 9223372036854775807) (hn : c.xBw.length ≤ n) : G_ref18_Check cp (n + 4) c k = k (if BbrOk c then 0 else 230) := by
  have neg : ∀ (p : Prop) [Decidable p] (x : Option R), cond (decide p) (k 230) x = cond (decide (¬ p)) x (k 230) := fun p _ x => cneg
  have hb : ∀ (b : Bool) (x y : Option R), cond b x y = cond (decide (b = true)) x y := fun b x y => by cases b <;> rfl
  rw [← kif k]
  rw [G_ref18_Check, s_ref18_Check_24, s_ref18_Check_1]
  simp only [Plain15_k cp (n + 2)]
  rw [s_ref18_Check_22, s_ref18_Check_7]
  -- the times
  have hT : ∀ kn : Bool → Option R, s_ref18_Check_4 cp (n + 3) c kn = kn (!decide ((1 ≤ c.xMode ∧ c.xMode ≤ 4) ∧ fchain none c.xBw = true ∧ Tm c.xMinRtt ∧ Tm c.xMinAt ∧ Tm c.xNextAt ∧ Tm c.xPhaseAt ∧ Tm c.xDoneAt ∧ Tm c.xRound)) := fun kn => by
    simp only [s_ref18_Check_4]
    by_cases a1 : c.xMode < 1
    · rw [ct a1, decide_eq_false (fun g => by omega)]; rfl
    by_cases a2 : 4 < c.xMode
    · rw [cf a1, ct a2, decide_eq_false (fun g => by omega)]; rfl
    rw [cf a1, cf a2, Check12_k cp (n + 1) _ _ hl (by omega)]
    by_cases a3 : fchain none c.xBw = true
    case neg => rw [if_neg a3, cnf (by omega), decide_eq_false (fun g => a3 g.2.1)]; rfl
    rw [if_pos a3, cnt rfl]
    simp only [time18_k cp (n + 2)]
    have key : ∀ (P Q : Prop) [Decidable P] [Decidable Q], cond (!decide P) (kn true) (kn (!decide Q)) = kn (!decide (P ∧ Q)) := fun P Q _ _ => by
      by_cases h : P
      · rw [cnt h]; congr 2; simp [h]
      · rw [cnf h]; congr 1; simp [h]
    iterate 5 rw [key]
    congr 2
    rw [decide_eq_decide]
    constructor
    · exact fun g => ⟨⟨by omega, by omega⟩, a3, g⟩
    · exact fun g => g.2.2
  rw [hT]
  simp only [s_ref18_Check_6]
  have hL : ∀ k2 : Int → Option R, s_ref18_Check_20 cp (n + 3) c k2 = cond (fin18 c.xRound c.xBw) (s_ref18_Check_17 cp (n + 3) c k2) (k2 230) := fun k2 => by
    rw [s_ref18_Check_20, s_ref18_Check_16, s_ref18_Check_8, s_ref18_Check_15, s_ref18_Check_14]
    exact Check18_loop cp (n + 3) c _ _ hl c.xBw 0 (n + 3) rfl (by omega) (by omega)
  rw [hL]
  simp only [s_ref18_Check_17, Size15_k cp (n + 2), cnn, bool_not]
  rw [hb (fin18 c.xRound c.xBw)]
  simp only [neg, cdd]
  refine ciff ?_
  simp only [BbrOk, NoCub, Bool.false_eq_true, false_or, true_or, and_true, and_assoc, Int.not_lt]
  generalize (fchain none c.xBw = true) = P
  generalize (fin18 c.xRound c.xBw = true) = Q
  grind
end
end
end Go.Proofs.Ytgadpgeghlhpnaa.M
