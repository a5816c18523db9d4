/- What BBR makes of a sample, step by step. -/
import Derived.Test.YtgnoidblkenglaaSTBbr
set_option linter.unusedVariables false
set_option linter.unusedSimpArgs false
namespace Go.Proofs.Ytgnoidblkenglaa.M
open Go Go.RowKit
noncomputable section
abbrev QB := ST68
def toC (q : QB) : SCc := ⟨q.xCc_Kind, q.xCc_Mss, q.xCc_Cwnd, q.xCc_Ssthresh, q.xCc_Acc, q.xCc_Wmax, q.xCc_Epoch, q.xCc_K, q.xCc_West, q.xCc_Start, q.xCc_Mode, q.xCc_Bw, q.xCc_MinRtt, q.xCc_MinAt, q.xCc_Round, q.xCc_NextAt, q.xCc_Full, q.xCc_FullN, q.xCc_Phase, q.xCc_PhaseAt, q.xCc_DoneAt, q.xCc_Prior⟩
def ofC (c : SCc) : QB := ⟨c.xKind, c.xMss, c.xCwnd, c.xSsthresh, c.xAcc, c.xWmax, c.xEpoch, c.xK, c.xWest, c.xStart, c.xMode, c.xBw, c.xMinRtt, c.xMinAt, c.xRound, c.xNextAt, c.xFull, c.xFullN, c.xPhase, c.xPhaseAt, c.xDoneAt, c.xPrior⟩
/-- A controller on its way that may be. -/
def QOk (q : QB) : Prop := BbrOk (toC q)
/-- Its numbers, without its row. -/
structure Qn (q : QB) : Prop where
  kind : q.xCc_Kind = 3
  mss : 1 ≤ q.xCc_Mss ∧ q.xCc_Mss ≤ 65000
  cwnd : q.xCc_Mss ≤ q.xCc_Cwnd ∧ q.xCc_Cwnd ≤ 1073741824
  ss : q.xCc_Ssthresh = 1073741824
  acc : q.xCc_Acc = 0
  cub : q.xCc_Wmax = 0 ∧ q.xCc_Epoch = 0 ∧ q.xCc_K = 0 ∧ q.xCc_West = 0 ∧ q.xCc_Start = 0
  minRtt : 0 ≤ q.xCc_MinRtt ∧ q.xCc_MinRtt ≤ 1125899906842624
  minAt : 0 ≤ q.xCc_MinAt ∧ q.xCc_MinAt ≤ 1125899906842624
  nextAt : 0 ≤ q.xCc_NextAt ∧ q.xCc_NextAt ≤ 1125899906842624
  phaseAt : 0 ≤ q.xCc_PhaseAt ∧ q.xCc_PhaseAt ≤ 1125899906842624
  doneAt : 0 ≤ q.xCc_DoneAt ∧ q.xCc_DoneAt ≤ 1125899906842624
  round : 0 ≤ q.xCc_Round ∧ q.xCc_Round ≤ 1125899906842624
  full : 0 ≤ q.xCc_Full ∧ q.xCc_Full ≤ 1099511627776
  fullN : 0 ≤ q.xCc_FullN ∧ q.xCc_FullN ≤ 3
  phase : 0 ≤ q.xCc_Phase ∧ q.xCc_Phase ≤ 7
  prior : 0 ≤ q.xCc_Prior ∧ q.xCc_Prior ≤ 1073741824
  mode : 1 ≤ q.xCc_Mode ∧ q.xCc_Mode ≤ 4
  chain : fchain none q.xCc_Bw = true
  fin : fin18 q.xCc_Round q.xCc_Bw = true
theorem qn_of {c : SCc} (h : BbrOk c) : Qn (ofC c) := by
  obtain ⟨a1, a2, a3, a4, a5, a6, a7, a8, a9, b1, b2, b3, b4, b5, b6, b7, b8, b9, d1, d2, d3, d4⟩ := h
  exact ⟨a1, ⟨a2, a3⟩, ⟨a4, a5⟩, a6, a7, a8, a9, b1, b2, b3, b4, b5, b6, b7, b8, b9, ⟨d1, d2⟩, d3, d4⟩
theorem qn_to {q : QB} (h : Qn q) : BbrOk (toC q) :=
  ⟨h.kind, h.mss.1, h.mss.2, h.cwnd.1, h.cwnd.2, h.ss, h.acc, h.cub, h.minRtt, h.minAt, h.nextAt, h.phaseAt, h.doneAt, h.round, h.full, h.fullN, h.phase, h.prior, h.mode.1, h.mode.2, h.chain, h.fin⟩
/-- A sample that may be. -/
structure Smp (s : SSample) : Prop where
  now : 0 ≤ s.xNow ∧ s.xNow ≤ 1125899906842624
  given : 0 ≤ s.xGiven ∧ s.xGiven ≤ 1125899906842624
  before : 0 ≤ s.xBefore ∧ s.xBefore ≤ 1125899906842624
  rtt : 0 ≤ s.xRtt ∧ s.xRtt ≤ 1125899906842624
  acked : 0 ≤ s.xAcked ∧ s.xAcked ≤ 1073741824
  flight : 0 ≤ s.xFlight ∧ s.xFlight ≤ 1073741824
  rate : 0 ≤ s.xRate
/-! ### rows -/
theorem fin_mono {a b : Int} {l : List SEntry} (h : fin18 a l = true) (hab : a ≤ b) : fin18 b l = true := by
  unfold fin18 at h ⊢
  rw [List.all_eq_true] at h ⊢
  intro x hx
  have := h x hx
  simp only [Bool.and_eq_true, decide_eq_true_eq] at this ⊢
  omega
theorem chain_tail {p : Option SEntry} {e : SEntry} {r : List SEntry} (h : fchain p (e :: r) = true) : fchain (some e) r = true := by
  cases p <;> simp only [fchain, Bool.and_eq_true] at h
  · exact h.2
  · exact h.2.2.2
theorem chain_none {p : Option SEntry} {r : List SEntry} (h : fchain p r = true) : fchain none r = true := by
  cases r with
  | nil => rfl
  | cons e r =>
    have ht := chain_tail h
    cases p <;> simp only [fchain, Bool.and_eq_true] at h ⊢
    · exact h
    · exact ⟨h.1, ht⟩
theorem chain_drop {l : List SEntry} : ∀ {p : Option SEntry} (n : Nat), fchain p l = true → fchain none (l.drop n) = true := by
  induction l with
  | nil => intro p n h; cases n <;> rfl
  | cons e r ih =>
    intro p n h
    cases n with
    | zero => exact chain_none h
    | succ n => exact ih n (chain_tail h)
theorem chain_take {l : List SEntry} : ∀ {p : Option SEntry} (n : Nat), fchain p l = true → fchain p (l.take n) = true := by
  induction l with
  | nil => intro p n h; cases n <;> cases p <;> rfl
  | cons e r ih =>
    intro p n h
    cases n with
    | zero => cases p <;> rfl
    | succ n =>
      have := ih n (chain_tail h)
      cases p <;> simp only [List.take_succ_cons, fchain, Bool.and_eq_true] at h ⊢
      · exact ⟨h.1, this⟩
      · exact ⟨h.1, h.2.1, h.2.2.1, this⟩
/-- One entry more, behind the last. -/
theorem chain_snoc {x : SEntry} (hx : fmay x = true) : ∀ {l : List SEntry} {p : Option SEntry}, fchain p l = true → (∀ e, (match l.getLast? with
    | some e => some e
    | none => p) = some e → e.xAt < x.xAt ∧ x.xV < e.xV) → fchain p (l ++ [x]) = true := by
  intro l
  induction l with
  | nil =>
    intro p h hl
    cases p with
    | none => simp [fchain, hx]
    | some e =>
      have := hl e rfl
      simp [fchain, hx, this.1, this.2]
  | cons e r ih =>
    intro p h hl
    have ht := ih (p := some e) (chain_tail h) (fun y hy => hl y (by
      cases r with
      | nil => simpa using hy
      | cons a r =>
        cases hz : (a :: r).getLast? with
        | none => simp at hz
        | some z => rw [List.getLast?_cons_cons, hz]; rw [hz] at hy; exact hy))
    cases p <;> simp only [List.cons_append, fchain, Bool.and_eq_true] at h ⊢
    · exact ⟨h.1, ht⟩
    · exact ⟨h.1, h.2.1, h.2.2.1, ht⟩
/-- All entries of a chain are at most as much as its first. -/
theorem chain_best {l : List SEntry} : ∀ {p : Option SEntry}, fchain p l = true → ∀ e ∈ l, e.xV ≤ bestO l := by
  intro p h
  cases l with
  | nil => intro e he; cases he
  | cons a r =>
    have key : ∀ (r : List SEntry) (a : SEntry), fchain (some a) r = true → ∀ e ∈ r, e.xV ≤ a.xV := by
      intro r
      induction r with
      | nil => intro a _ e he; cases he
      | cons b r ih =>
        intro a h e he
        have h2 := chain_tail h
        simp only [fchain, Bool.and_eq_true, decide_eq_true_eq] at h
        cases he with
        | head => omega
        | tail _ he => have := ih b h2 e he; omega
    intro e he
    cases he with
    | head => exact Int.le_refl _
    | tail _ he => exact key r a (chain_tail h) e he
theorem getLast_mem {α : Type} {l : List α} {e : α} (h : l.getLast? = some e) : e ∈ l := List.mem_of_getLast? h
/-- What a row is behind a value more. -/
structure PutOk (l : List SEntry) (at_ v : Int) (L : List SEntry) : Prop where
  chain : fchain none L = true
  mem : ∀ e ∈ L, e ∈ l ∨ e = ⟨at_, v⟩
  len : L.length ≤ l.length + 1
  last : ∃ l', L = l' ++ [⟨at_, v⟩] ∧ ∀ e ∈ l', v < e.xV
section
variable {R : Type} (n : Nat)
theorem put_loop1 (cp : Nat → Nat → Bool) (l : List SEntry) (a v w : Int) (b : Bool) (hl : l.length < 9223372036854775807) : ∀ (d m : Nat) (i : Nat), i + d = l.length → d + 1 ≤ m →
    ∃ f : Nat, f ≤ l.length ∧ ∀ ke : Int → Option R, l_filter_Put_9 cp n m l a v w b (l.length : Int) (i : Int) ke = ke (f : Int) := by
  intro d
  induction d with
  | zero =>
    intro m i hi hm
    obtain ⟨m, rfl⟩ : ∃ z, m = z + 1 := ⟨m - 1, by omega⟩
    refine ⟨i, by omega, fun ke => ?_⟩
    simp only [l_filter_Put_9, s_filter_Put_4]
    rw [cf (by omega)]
  | succ d ih =>
    intro m i hi hm
    obtain ⟨m, rfl⟩ : ∃ z, m = z + 1 := ⟨m - 1, by omega⟩
    obtain ⟨f, h1, h2⟩ := ih m (i + 1) (by omega) (by omega)
    by_cases c : wr .i64 ((l.getD (Int.toNat (i : Int)) zEntry).xAt + w) < a
    · refine ⟨f, h1, fun ke => ?_⟩
      rw [l_filter_Put_9]
      simp only [s_filter_Put_4]
      rw [ct (by omega), ct (by omega), ct (by omega), ct c, succ_w (by omega)]
      exact h2 ke
    · refine ⟨i, by omega, fun ke => ?_⟩
      rw [l_filter_Put_9]
      simp only [s_filter_Put_4]
      rw [ct (by omega), ct (by omega), ct (by omega), cf c]
theorem put_loop2 (cp : Nat → Nat → Bool) (l : List SEntry) (a v : Int) (f : Nat) (hl : l.length < 9223372036854775807) : ∀ (t m : Nat), f ≤ t → t ≤ l.length → t + 1 ≤ m →
    ∃ u : Nat, f ≤ u ∧ u ≤ l.length ∧ (f < u → ∃ e, l[u - 1]? = some e ∧ v < e.xV) ∧ ∀ ke : Int → Option R, l_filter_Put_18 cp (n + 1) m l a v true (f : Int) (t : Int) ke = ke (u : Int) := by
  intro t
  induction t with
  | zero =>
    intro m h1 h2 hm
    obtain ⟨m, rfl⟩ : ∃ z, m = z + 1 := ⟨m - 1, by omega⟩
    refine ⟨0, h1, by omega, fun h => by omega, fun ke => ?_⟩
    simp only [l_filter_Put_18, s_filter_Put_13]
    rw [cf (by omega)]
  | succ t ih =>
    intro m h1 h2 hm
    obtain ⟨m, rfl⟩ : ∃ z, m = z + 1 := ⟨m - 1, by omega⟩
    by_cases hf : f = t + 1
    · refine ⟨t + 1, h1, by omega, fun h => by omega, fun ke => ?_⟩
      rw [l_filter_Put_18]
      simp only [s_filter_Put_13]
      rw [cf (by omega)]
    have hw : wr .i64 (((t + 1 : Nat) : Int) - 1) = (t : Int) := by rw [w64_id (by omega) (by omega)]; omega
    have hg : l[t]? = some l[t] := List.getElem?_eq_getElem (by omega)
    have hr : l.getD (Int.toNat (t : Int)) zEntry = l[t] := by rw [Int.toNat_natCast, List.getD_eq_getElem?_getD, hg]; rfl
    by_cases c : l[t].xV ≤ v
    · obtain ⟨u, u1, u2, u3, u4⟩ := ih m (by omega) (by omega) (by omega)
      refine ⟨u, u1, u2, u3, fun ke => ?_⟩
      rw [l_filter_Put_18]
      simp only [s_filter_Put_13]
      rw [ct (by omega), hw, ct (by omega), ct (by omega), hr, beats_k, decide_eq_true c]
      exact u4 ke
    · refine ⟨t + 1, h1, by omega, fun _ => ⟨l[t], by rw [Nat.add_sub_cancel]; exact hg, by omega⟩, fun ke => ?_⟩
      rw [l_filter_Put_18]
      simp only [s_filter_Put_13]
      rw [ct (by omega), hw, ct (by omega), ct (by omega), hr, beats_k, decide_eq_false c]
      rfl
theorem last_at {l : List SEntry} : ∀ {p : Option SEntry}, fchain p l = true → ∀ {x : SEntry}, l.getLast? = some x → ∀ e ∈ l, e.xAt ≤ x.xAt := by
  intro p h
  induction l generalizing p with
  | nil => intro x hx; cases hx
  | cons a r ih =>
    intro x hx e he
    cases r with
    | nil =>
      simp at hx he; subst hx; subst he; exact Int.le_refl _
    | cons b r =>
      rw [List.getLast?_cons_cons] at hx
      have h2 := chain_tail h
      have := ih h2 hx
      cases he with
      | head =>
        have h3 := this b (by simp)
        simp only [fchain, Bool.and_eq_true, decide_eq_true_eq] at h2
        omega
      | tail _ he => exact this e he
theorem Put_k (l : List SEntry) (a v : Int) (h : fchain none l = true) (ha : 0 ≤ a ∧ a ≤ 1125899906842624) (hv : 0 ≤ v ∧ v ≤ 1099511627776) (hlast : ∀ e ∈ l, e.xAt < a) (hc : (l.length + 1) * 16 ≤ 140737488355328) (hn : l.length ≤ n) :
    ∃ L, PutOk l a v L ∧ ∀ k : List SEntry → Int → Option R, G_filter_Put capB (n + 4) l a v 10 true k = k L 0 := by
  obtain ⟨f, f1, f2⟩ := put_loop1 (R := R) (n + 3) capB l a v 10 true (by omega) l.length (n + 3) 0 (by omega) (by omega)
  obtain ⟨u, u1, u2, u3, u4⟩ := put_loop2 (R := R) (n + 2) capB l a v f (by omega) l.length (n + 3) f1 (Nat.le_refl _) (by omega)
  have hmay : fmay ⟨a, v⟩ = true := by unfold fmay; exact decide_eq_true (by dsimp only; omega)
  have hlen : (List.take (u - f) (l.drop f)).length = u - f := by rw [List.length_take, List.length_drop]; omega
  have hsub : ∀ e ∈ List.take (u - f) (l.drop f), e ∈ l := fun e he => List.mem_of_mem_drop (List.mem_of_mem_take he)
  have hch : fchain none (List.take (u - f) (l.drop f)) = true := chain_take _ (chain_drop _ h)
  have hgl : ∀ e, (List.take (u - f) (l.drop f)).getLast? = some e → l[u - 1]? = some e ∧ f < u := fun e he => by
    rw [List.getLast?_eq_getElem?, hlen] at he
    have hlt := (List.getElem?_eq_some_iff.1 he).1
    rw [hlen] at hlt
    rw [List.getElem?_take_of_lt (by omega), List.getElem?_drop] at he
    refine ⟨?_, by omega⟩
    rw [← he]; congr 1; omega
  refine ⟨List.take (u - f) (l.drop f) ++ [⟨a, v⟩], ⟨?_, ?_, ?_, ?_⟩, fun k => ?_⟩
  · refine chain_snoc hmay hch fun e he => ?_
    cases hg : (List.take (u - f) (l.drop f)).getLast? with
    | none => rw [hg] at he; cases he
    | some y =>
      rw [hg] at he
      cases he
      obtain ⟨g1, g2⟩ := hgl _ hg
      obtain ⟨z, z1, z2⟩ := u3 g2
      rw [g1] at z1; cases z1
      exact ⟨hlast _ (hsub _ (getLast_mem hg)), z2⟩
  · intro e he
    rcases List.mem_append.1 he with he | he
    · exact .inl (hsub e he)
    · exact .inr (by simpa using he)
  · rw [List.length_append, hlen]; simp; omega
  · refine ⟨_, rfl, fun e he => ?_⟩
    cases hg : (List.take (u - f) (l.drop f)).getLast? with
    | none => rw [List.getLast?_eq_none_iff.1 hg] at he; cases he
    | some y =>
      obtain ⟨g1, g2⟩ := hgl _ hg
      obtain ⟨z, z1, z2⟩ := u3 g2
      rw [g1] at z1; cases z1
      -- later entries are less
      have key : ∀ (m : List SEntry) (p : Option SEntry), fchain p m = true → m.getLast? = some y → ∀ e ∈ m, y.xV ≤ e.xV := by
        intro m
        induction m with
        | nil => intro p _ hy; cases hy
        | cons b r ih =>
          intro p hm hy e he
          cases r with
          | nil => simp at hy he; subst hy; subst he; exact Int.le_refl _
          | cons d r =>
            rw [List.getLast?_cons_cons] at hy
            have h2 := chain_tail hm
            have ih' := ih _ h2 hy
            cases he with
            | head =>
              have := ih' d (by simp)
              simp only [fchain, Bool.and_eq_true, decide_eq_true_eq] at h2
              omega
            | tail _ he => exact ih' e he
      have := key _ _ hch hg e he
      omega
  · rw [G_filter_Put]
    simp only [s_filter_Put_29, s_filter_Put_1]
    rw [fCheck_k capB (n + 1) l _ (by omega) (by omega), if_pos h, cnt rfl, may_k capB (n + 2), hmay, Bool.not_true, cond_false, may_k capB (n + 2)]
    have hm10 : fmay ⟨10, 0⟩ = true := by decide
    rw [hm10, Bool.not_true, cond_false]
    have fin : s_filter_Put_27 capB (n + 3) l a v 10 true (l.length : Int) (fun v53 => k v53 0) = k (List.take (u - f) (l.drop f) ++ [⟨a, v⟩]) 0 := by
      rw [s_filter_Put_27, s_filter_Put_12, s_filter_Put_10]
      refine (f2 _).trans ?_
      rw [s_filter_Put_25, s_filter_Put_21, s_filter_Put_19]
      refine (u4 _).trans ?_
      rw [s_filter_Put_22]
      rw [ct (by omega), ct (by omega), ct (by omega), ct rfl, Int.toNat_natCast, Int.toNat_natCast, cap_ok (by rw [hlen]; simp; omega)]
    by_cases hz : 0 < (l.length : Int)
    case neg => rw [cf hz]; exact fin
    have hw : wr .i64 ((l.length : Int) - 1) = ((l.length - 1 : Nat) : Int) := by rw [w64_id (by omega) (by omega)]; omega
    have hg : l[l.length - 1]? = some l[l.length - 1] := List.getElem?_eq_getElem (by omega)
    have hr : l.getD (Int.toNat ((l.length - 1 : Nat) : Int)) zEntry = l[l.length - 1] := by rw [Int.toNat_natCast, List.getD_eq_getElem?_getD, hg]; rfl
    have hla := hlast _ (List.getElem_mem (show l.length - 1 < l.length by omega))
    rw [ct hz, hw, ct (by omega), ct (by omega), hr, cf (by omega)]
    exact fin
end
end
end Go.Proofs.Ytgnoidblkenglaa.M
