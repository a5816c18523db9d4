/- Bandwidths' rows and BBR's controllers: what the program's and the document's tests say, in plain words. -/
import Derived.Test.YtgnoidblkenglaaSTCc
import Derived.Test.YtgnoidblkenglaaSTSeqX
set_option linter.unusedVariables false
set_option linter.unusedSimpArgs false
namespace Go.Proofs.Ytgnoidblkenglaa.M
open Go Go.RowKit
noncomputable section
/-- May an entry be? -/
def fmay (e : SEntry) : Bool := decide (0 ≤ e.xAt ∧ e.xAt ≤ 1125899906842624 ∧ 0 ≤ e.xV ∧ e.xV ≤ 1152921504606846976)
/-- Entries: later and less, one by one. -/
def fchain : Option SEntry → List SEntry → Bool
  | _, [] => true
  | none, e :: r => fmay e && fchain (some e) r
  | some q, e :: r => fmay e && (decide (q.xAt < e.xAt) && (decide (e.xV < q.xV) && fchain (some e) r))
/-- No entry is more than a rate may be, or later than the round. -/
def fin18 (rd : Int) (l : List SEntry) : Bool := l.all fun e => decide (e.xV ≤ 1099511627776) && decide (e.xAt ≤ rd)
abbrev BbrOk (c : SCc) : Prop := c.xKind = 3 ∧ 1 ≤ c.xMss ∧ c.xMss ≤ 65000 ∧ c.xMss ≤ c.xCwnd ∧ c.xCwnd ≤ 1073741824 ∧ c.xSsthresh = 1073741824 ∧ c.xAcc = 0 ∧ NoCub c ∧
  (0 ≤ c.xMinRtt ∧ c.xMinRtt ≤ 1125899906842624) ∧ (0 ≤ c.xMinAt ∧ c.xMinAt ≤ 1125899906842624) ∧ (0 ≤ c.xNextAt ∧ c.xNextAt ≤ 1125899906842624) ∧ (0 ≤ c.xPhaseAt ∧ c.xPhaseAt ≤ 1125899906842624) ∧ (0 ≤ c.xDoneAt ∧ c.xDoneAt ≤ 1125899906842624) ∧ (0 ≤ c.xRound ∧ c.xRound ≤ 1125899906842624) ∧
  (0 ≤ c.xFull ∧ c.xFull ≤ 1099511627776) ∧ (0 ≤ c.xFullN ∧ c.xFullN ≤ 3) ∧ (0 ≤ c.xPhase ∧ c.xPhase ≤ 7) ∧ (0 ≤ c.xPrior ∧ c.xPrior ≤ 1073741824) ∧ 1 ≤ c.xMode ∧ c.xMode ≤ 4 ∧ fchain none c.xBw = true ∧ fin18 c.xRound c.xBw = true
/-- The best bandwidth. -/
def bestO (l : List SEntry) : Int := match l with
  | [] => 0
  | e :: _ => e.xV
section
variable {R : Type} (cp : Nat → Nat → Bool) (n : Nat)
theorem rd_prev {l : List SEntry} {i : Nat} {q : SEntry} (h0 : 0 < i) (hi : i < 9223372036854775807) (h : l[i - 1]? = some q) : wr .i64 ((i : Int) - 1) = ((i - 1 : Nat) : Int) ∧ l.getD (Int.toNat (wr .i64 ((i : Int) - 1))) zEntry = q ∧ i - 1 < l.length := by
  have e : wr .i64 ((i : Int) - 1) = ((i - 1 : Nat) : Int) := by rw [w64_id (by omega) (by omega)]; omega
  refine ⟨e, ?_, (List.getElem?_eq_some_iff.1 h).1⟩
  rw [e, Int.toNat_natCast, List.getD_eq_getElem?_getD, h]; rfl
theorem prev_next {l : List SEntry} {i : Nat} {e : SEntry} {r : List SEntry} (h : l.drop i = e :: r) : l[i + 1 - 1]? = some e := by
  have := drop_lt h
  have h2 := List.drop_eq_getElem_cons this.1
  rw [h] at h2
  simp only [List.cons.injEq] at h2
  rw [Nat.add_sub_cancel, List.getElem?_eq_getElem this.1, h2.1]
theorem bool_not {b : Bool} {x y : Option R} : cond (!b) x y = cond b y x := by cases b <;> rfl
theorem cond_false_and {a b : Bool} {x y : Option R} (h : a = false) : cond (a && b) x y = y := by rw [h]; rfl
theorem cond_true_and {a b : Bool} {x y : Option R} (h : a = true) : cond (a && b) x y = cond b x y := by rw [h]; rfl
theorem may_k (e : SEntry) (k : Bool → Option R) : G_filter_may cp (n + 1) e k = k (fmay e) := by
  simp only [G_filter_may]
  iterate 3 rw [cdk k]
  rfl
theorem beats_k (a b : Int) (k : Bool → Option R) : G_filter_beats cp (n + 1) a b true k = k (decide (b ≤ a)) := by
  simp only [G_filter_beats, Bool.not_true, cond_true, cond_false]
  cases decide (b ≤ a) <;> rfl
theorem fCheck_loop (l : List SEntry) (kr ke : Option R) (hl : l.length < 9223372036854775807) : ∀ (r : List SEntry) (i m : Nat) (p : Option SEntry), l.drop i = r → i ≤ l.length → (i = 0 ∧ p = none ∨ 0 < i ∧ ∃ q, p = some q ∧ l[i - 1]? = some q) → r.length + 1 ≤ m →
    l_filter_Check_10 cp (n + 1) m l true (l.length : Int) (i : Int) kr ke = cond (fchain p r) ke kr
  | [], i, 0, p, h, hi, hp, hk => by simp at hk
  | [], i, m + 1, p, h, hi, hp, hk => by
    have := drop_nil h
    simp only [l_filter_Check_10, G_filter_Check, s_filter_Check_1, s_filter_Check_3, s_filter_Check_5, s_filter_Check_11, s_filter_Check_12, s_filter_Check_13, s_filter_Check_14, s_filter_Check_17, s_filter_Check_19]
    rw [cf (by omega)]; cases p <;> rfl
  | e :: r, i, 0, p, h, hi, hp, hk => by simp at hk
  | e :: r, i, m + 1, p, h, hi, hp, hk => by
    obtain ⟨h1, h2⟩ := drop_lt h
    rw [l_filter_Check_10]
    simp only [G_filter_Check, s_filter_Check_1, s_filter_Check_3, s_filter_Check_5, s_filter_Check_11, s_filter_Check_12, s_filter_Check_13, s_filter_Check_14, s_filter_Check_17, s_filter_Check_19]
    rw [ct (by omega), ct (by omega), ct (by omega), rd_at h, may_k]
    have ih := fCheck_loop l kr ke hl r (i + 1) m (some e) h2 (by omega) (.inr ⟨by omega, e, rfl, prev_next h⟩) (by simpa using hk)
    rcases hp with ⟨rfl, rfl⟩ | ⟨h0, q, rfl, hq⟩
    · simp only [fchain]
      cases hm : fmay e with
      | false => rfl
      | true =>
        rw [Bool.not_true, cond_false, cf (by omega), Bool.true_and, succ_w (by omega)]
        exact ih
    · obtain ⟨e1, e2, e3⟩ := rd_prev h0 (by omega) hq
      simp only [fchain]
      cases hm : fmay e with
      | false => rfl
      | true =>
        rw [Bool.not_true, cond_false, ct (by omega), ct (by omega), ct (by omega), e2, Bool.true_and]
        by_cases a : e.xAt ≤ q.xAt
        · rw [ct a, cond_false_and (decide_eq_false (by omega))]
        rw [cf a, ct (by omega), ct (by omega), beats_k, cond_true_and (decide_eq_true (by omega))]
        by_cases b : q.xV ≤ e.xV
        · rw [ct b, cond_false_and (decide_eq_false (by omega))]
        rw [cf b, cond_true_and (decide_eq_true (by omega)), succ_w (by omega)]
        exact ih
theorem fCheck_k (l : List SEntry) (k : Int → Option R) (hl : l.length < 9223372036854775807) (hn : l.length + 1 ≤ n + 1) : G_filter_Check cp (n + 2) l true k = k (if fchain none l = true then 0 else 2) := by
  simp only [G_filter_Check, s_filter_Check_1, s_filter_Check_3, s_filter_Check_5, s_filter_Check_11, s_filter_Check_12, s_filter_Check_13, s_filter_Check_14, s_filter_Check_17, s_filter_Check_19]
  refine (fCheck_loop cp n l (k 2) (k 0) hl l 0 (n + 1) none rfl (by omega) (.inl ⟨rfl, rfl⟩) hn).trans ?_
  cases fchain none l <;> rfl
theorem Best_k (l : List SEntry) (k : Int → Bool → Option R) : ∃ b, G_filter_Best cp (n + 1) l k = k (bestO l) b := by
  simp only [G_filter_Best]
  cases l with
  | nil => exact ⟨false, rfl⟩
  | cons e r => exact ⟨true, by rw [cf (by simp; omega), ct (by simp)]; rfl⟩
theorem within_loop (M : Int) (l : List Int) (kr ke : Option R) (hl : l.length < 9223372036854775807) : ∀ (r : List Int) (i m : Nat), l.drop i = r → i ≤ l.length → r.length + 1 ≤ m → l_bbr_within_10 cp n m M l (l.length : Int) (i : Int) kr ke = cond (r.all fun x => decide (0 ≤ x ∧ x ≤ M)) ke kr
  | [], i, 0, h, hi, hk => by simp at hk
  | [], i, m + 1, h, hi, hk => by
    have := drop_nil h
    simp only [l_bbr_within_10, G_bbr_within, s_bbr_within_1, s_bbr_within_3, s_bbr_within_5, s_bbr_within_11, s_bbr_within_12, s_bbr_within_13, s_bbr_within_14, s_bbr_within_17, s_bbr_within_19]
    rw [cf (by omega)]; rfl
  | x :: r, i, 0, h, hi, hk => by simp at hk
  | x :: r, i, m + 1, h, hi, hk => by
    obtain ⟨h1, h2⟩ := drop_lt h
    simp only [l_bbr_within_10, G_bbr_within, s_bbr_within_1, s_bbr_within_3, s_bbr_within_5, s_bbr_within_11, s_bbr_within_12, s_bbr_within_13, s_bbr_within_14, s_bbr_within_17, s_bbr_within_19, List.all_cons]
    rw [ct (by omega), ct (by omega), ct (by omega), rd_at h]
    by_cases a : x < 0
    · rw [ct a, decide_eq_false (by omega)]; rfl
    by_cases b : M < x
    · rw [cf a, ct b, decide_eq_false (by omega)]; rfl
    rw [cf a, cf b, decide_eq_true (show 0 ≤ x ∧ x ≤ M by omega), succ_w (by omega)]
    exact within_loop M l kr ke hl r (i + 1) m h2 (by omega) (by simpa using hk)
theorem within_k (M : Int) (l : List Int) (k : Bool → Option R) (hl : l.length < 9223372036854775807) (hn : l.length + 1 ≤ n) : G_bbr_within cp (n + 1) M l k = k (l.all fun x => decide (0 ≤ x ∧ x ≤ M)) := by
  simp only [G_bbr_within, s_bbr_within_1, s_bbr_within_3, s_bbr_within_5, s_bbr_within_11, s_bbr_within_12, s_bbr_within_13, s_bbr_within_14, s_bbr_within_17, s_bbr_within_19]
  refine (within_loop cp n M l (k false) (k true) hl l 0 n rfl (by omega) hn).trans ?_
  cases l.all fun x => decide (0 ≤ x ∧ x ≤ M) <;> rfl
theorem entries_loop (q : ST68) (kr ke : Option R) (hl : q.xCc_Bw.length < 9223372036854775807) : ∀ (r : List SEntry) (i m : Nat), q.xCc_Bw.drop i = r → i ≤ q.xCc_Bw.length → r.length + 1 ≤ m → l_bbr_ctl_entries_10 cp n m q (q.xCc_Bw.length : Int) (i : Int) kr ke = cond (fin18 q.xCc_Round r) ke kr
  | [], i, 0, h, hi, hk => by simp at hk
  | [], i, m + 1, h, hi, hk => by
    have := drop_nil h
    simp only [l_bbr_ctl_entries_10, G_bbr_ctl_entries, s_bbr_ctl_entries_1, s_bbr_ctl_entries_4, s_bbr_ctl_entries_6, s_bbr_ctl_entries_11, s_bbr_ctl_entries_12, s_bbr_ctl_entries_13, s_bbr_ctl_entries_14, s_bbr_ctl_entries_17, s_bbr_ctl_entries_19]
    rw [cf (by omega)]; rfl
  | x :: r, i, 0, h, hi, hk => by simp at hk
  | x :: r, i, m + 1, h, hi, hk => by
    obtain ⟨h1, h2⟩ := drop_lt h
    simp only [l_bbr_ctl_entries_10, G_bbr_ctl_entries, s_bbr_ctl_entries_1, s_bbr_ctl_entries_4, s_bbr_ctl_entries_6, s_bbr_ctl_entries_11, s_bbr_ctl_entries_12, s_bbr_ctl_entries_13, s_bbr_ctl_entries_14, s_bbr_ctl_entries_17, s_bbr_ctl_entries_19, fin18, List.all_cons]
    rw [ct (by omega), ct (by omega), ct (by omega), rd_at h]
    by_cases a : 1099511627776 < x.xV
    · rw [ct a, decide_eq_false (by omega)]; rfl
    by_cases b : q.xCc_Round < x.xAt
    · rw [cf a, ct b, decide_eq_false (show ¬ x.xAt ≤ q.xCc_Round by omega), Bool.and_false]; rfl
    rw [cf a, cf b, decide_eq_true (show x.xV ≤ 1099511627776 by omega), decide_eq_true (show x.xAt ≤ q.xCc_Round by omega), succ_w (by omega)]
    exact entries_loop q kr ke hl r (i + 1) m h2 (by omega) (by simpa using hk)
theorem entries_k (q : ST68) (k : Bool → ST68 → Option R) (hl : q.xCc_Bw.length < 9223372036854775807) (hn : q.xCc_Bw.length ≤ n) : G_bbr_ctl_entries cp (n + 3) q k = k (fchain none q.xCc_Bw && fin18 q.xCc_Round q.xCc_Bw) q := by
  simp only [G_bbr_ctl_entries, s_bbr_ctl_entries_1, s_bbr_ctl_entries_4, s_bbr_ctl_entries_6, s_bbr_ctl_entries_11, s_bbr_ctl_entries_12, s_bbr_ctl_entries_13, s_bbr_ctl_entries_14, s_bbr_ctl_entries_17, s_bbr_ctl_entries_19]
  rw [fCheck_k cp n _ _ hl (by omega)]
  cases hf : fchain none q.xCc_Bw with
  | false => rfl
  | true =>
    rw [if_pos rfl, cnt rfl, Bool.true_and]
    refine (entries_loop cp (n + 2) q (k false q) (k true q) hl q.xCc_Bw 0 (n + 2) rfl (by omega) (by omega)).trans ?_
    cases fin18 q.xCc_Round q.xCc_Bw <;> rfl
theorem bplain_k (c : SCc) (kn : Bool → Option R) : s_bbr_Check_3 cp n c kn = kn (decide (c.xKind = 3 ∧ 1 ≤ c.xMss ∧ c.xMss ≤ 65000 ∧ c.xMss ≤ c.xCwnd ∧ c.xCwnd ≤ 1073741824 ∧ c.xSsthresh = 1073741824 ∧ c.xAcc = 0)) := by
  simp only [s_bbr_Check_3]
  iterate 6 rw [cdk kn]
theorem bbare_k (c : SCc) (v : Bool) (kn : Bool → Option R) : s_bbr_Check_5 cp n c v kn = kn (decide (NoCub c)) := by
  simp only [s_bbr_Check_5]
  iterate 4 rw [cdk kn]
theorem bnum_k (c : SCc) (a b d : Bool) (kn : Bool → Option R) : s_bbr_Check_9 cp (n + 9) c a b d kn = kn (decide ((0 ≤ c.xFull ∧ c.xFull ≤ 1099511627776) ∧ (0 ≤ c.xFullN ∧ c.xFullN ≤ 3) ∧ (0 ≤ c.xPhase ∧ c.xPhase ≤ 7) ∧ (0 ≤ c.xPrior ∧ c.xPrior ≤ 1073741824))) := by
  have ws : ∀ (M x : Int) (k : Bool → Option R), G_bbr_within cp (n + 9) M [x] k = k (decide (0 ≤ x ∧ x ≤ M)) := fun M x k => by
    rw [within_k cp (n + 8) M [x] k (by simp) (by simp)]; simp
  simp only [s_bbr_Check_9, ws]
  iterate 3 rw [cdk kn]
theorem btime_k (c : SCc) (a b : Bool) (kn : Bool → Option R) : s_bbr_Check_7 cp (n + 9) c a b kn = kn (decide ((0 ≤ c.xMinRtt ∧ c.xMinRtt ≤ 1125899906842624) ∧ (0 ≤ c.xMinAt ∧ c.xMinAt ≤ 1125899906842624) ∧ (0 ≤ c.xNextAt ∧ c.xNextAt ≤ 1125899906842624) ∧ (0 ≤ c.xPhaseAt ∧ c.xPhaseAt ≤ 1125899906842624) ∧ (0 ≤ c.xDoneAt ∧ c.xDoneAt ≤ 1125899906842624) ∧ (0 ≤ c.xRound ∧ c.xRound ≤ 1125899906842624))) := by
  simp only [s_bbr_Check_7]
  rw [within_k cp (n + 8) _ _ kn (by simp) (by simp)]
  congr 1
  simp only [List.all_cons, List.all_nil, Bool.and_true, Bool.decide_and]
theorem bCheck_k (c : SCc) (k : Int → Option R) (hl : c.xBw.length < 9223372036854775807) (hn : c.xBw.length ≤ n) : G_bbr_Check cp (n + 10) c k = k (if BbrOk c then 0 else 230) := by
  have neg : ∀ (p : Prop) [Decidable p] (x : Option R), cond (decide p) (k 230) x = cond (decide (¬ p)) x (k 230) := fun p _ x => cneg
  have hb : ∀ (b : Bool) (x y : Option R), cond b x y = cond (decide (b = true)) x y := fun b x y => by cases b <;> rfl
  rw [← kif k]
  rw [G_bbr_Check, s_bbr_Check_22, s_bbr_Check_1, s_bbr_Check_20, bplain_k, s_bbr_Check_18, bbare_k, s_bbr_Check_16, btime_k, s_bbr_Check_14, bnum_k]
  simp only [s_bbr_Check_11]
  rw [entries_k cp (n + 6) _ _ (by exact hl) (by show c.xBw.length ≤ _; omega)]
  simp only [cnn]
  simp only [bool_not]
  rw [hb (fchain none c.xBw && fin18 c.xRound c.xBw)]
  simp only [neg, cdd]
  refine ciff ?_
  simp only [Bool.and_eq_true, BbrOk, and_assoc, Int.not_lt, decide_eq_true_eq]
end
end
end Go.Proofs.Ytgnoidblkenglaa.M
