/- What a segment tells a sender, in plain numbers and rows. -/
import Derived.Test.YtfdopmobhphdbaaTSpan
import Derived.Test.YtfdopmobhphdbaaTSeq
set_option linter.unusedVariables false
set_option linter.unusedSimpArgs false
namespace Go.Proofs.Ytfdopmobhphdbaa.M
open Go Go.RowKit

/-- Does it count, and what does it acknowledge? -/
def cntO (a : SAsked) (s : SSegment) : Int × Bool :=
  if a.xUna < 0 then (0, false) else if a.xNext < a.xUna then (0, false) else if 1125899906842625 < a.xNext then (0, false) else
  if bits .and .i64 s.xFlags 22 = 16 then
    (if a.xStamps && (!s.xStamped || decide (sdiff a.xRecent s.xVal < 0)) then (0, false) else
      (unwrapO a.xUna ((s.xAck - a.xIss) % 4294967296), decide (unwrapO a.xPeer ((s.xSeq - a.xIrs) % 4294967296) = a.xPeer) && (decide (0 ≤ unwrapO a.xUna ((s.xAck - a.xIss) % 4294967296)) && decide (unwrapO a.xUna ((s.xAck - a.xIss) % 4294967296) ≤ a.xNext))))
  else (0, false)
/-- What is known is whole numbers. -/
structure Asks (a : SAsked) : Prop where
  una : -9223372036854775808 ≤ a.xUna ∧ a.xUna ≤ 9223372036854775807
  peer : -9223372036854775808 ≤ a.xPeer ∧ a.xPeer ≤ 9223372036854775807
theorem counts_k {R : Type} (cp : Nat → Nat → Bool) (n : Nat) (a : SAsked) (s : SSegment) (k : Int → Bool → Option R) (h : Asks a) : G_ack_counts cp (n + 3) a s k = k (cntO a s).1 (cntO a s).2 := by
  simp only [G_ack_counts, cntO]
  by_cases h1 : a.xUna < 0
  · rw [ct h1, if_pos h1]
  rw [cf h1, if_neg h1]
  by_cases h2 : a.xNext < a.xUna
  · rw [ct h2, if_pos h2]
  rw [cf h2, if_neg h2]
  by_cases h3 : 1125899906842625 < a.xNext
  · rw [ct h3, if_pos h3]
  rw [cf h3, if_neg h3]
  by_cases h4 : bits .and .i64 s.xFlags 22 = 16
  case neg => rw [cnf h4, if_neg h4]
  rw [cnt h4, if_pos h4]
  have fin : (G_seq_Unwrap cp (n + 2) a.xUna (wr .u32 (s.xAck - a.xIss)) fun r4 => G_seq_Unwrap cp (n + 2) a.xPeer (wr .u32 (s.xSeq - a.xIrs)) fun r5 => cond (decide (r5 = a.xPeer)) (cond (decide (0 ≤ r4)) (k r4 (decide (r4 ≤ a.xNext))) (k r4 false)) (k r4 false)) =
      k (unwrapO a.xUna ((s.xAck - a.xIss) % 4294967296)) (decide (unwrapO a.xPeer ((s.xSeq - a.xIrs) % 4294967296) = a.xPeer) && (decide (0 ≤ unwrapO a.xUna ((s.xAck - a.xIss) % 4294967296)) && decide (unwrapO a.xUna ((s.xAck - a.xIss) % 4294967296) ≤ a.xNext))) := by
    rw [Unwrap_k _ _ _ _ _ h.una.1 h.una.2, Unwrap_k _ _ _ _ _ h.peer.1 h.peer.2, wu32, wu32]
    generalize unwrapO a.xUna _ = x
    generalize unwrapO a.xPeer _ = y
    by_cases c1 : y = a.xPeer
    · rw [ct c1, decide_eq_true c1]
      by_cases c2 : 0 ≤ x
      · rw [ct c2, decide_eq_true c2]; rfl
      · rw [cf c2, decide_eq_false c2]; rfl
    · rw [cf c1, decide_eq_false c1]; rfl
  cases hs : a.xStamps with
  | false =>
    simp only [cond_false, Bool.false_and, Bool.false_eq_true, if_false]
    exact fin
  | true =>
    simp only [cond_true, Bool.true_and]
    cases ht : s.xStamped with
    | false => simp
    | true =>
      simp only [Bool.not_true, cond_false, Bool.false_or]
      rw [Diff_k]
      by_cases c : sdiff a.xRecent s.xVal < 0
      · rw [ct c, decide_eq_true c]; simp
      · rw [cf c, decide_eq_false c]
        simp only [Bool.false_eq_true, if_false]
        exact fin
/-- A block's offsets. -/
def offs (a : SAsked) (b : SBlock) : SSpan := ⟨unwrapO a.xUna ((b.xFrom - a.xIss) % 4294967296), unwrapO a.xUna ((b.xTo - a.xIss) % 4294967296)⟩
theorem of_k {R : Type} (cp : Nat → Nat → Bool) (n : Nat) (x : Int) (a : SAsked) (k : Int → SAsked → Option R) (h : Asks a) : G_ack_Weigh_1 cp (n + 3) x a k = k (unwrapO a.xUna ((x - a.xIss) % 4294967296)) a := by
  simp only [G_ack_Weigh_1]
  rw [Unwrap_k _ _ _ _ _ h.una.1 h.una.2, wu32]
theorem offsets_loop {R : Type} (n : Nat) (l : List SBlock) (a : SAsked) (ha : Asks a) (hl : l.length < 8796093022200) (ke : List SSpan → Int → Int → Int → Int → Int → Bool → Int → Int → Bool → Option R) :
    ∀ (r : List SBlock) (i m : Nat) (out : List SSpan), l.drop i = r → i ≤ l.length → out.length = i → r.length + 1 ≤ m →
      l_ack_offsets_12 capB (n + 3) m l (l.length : Int) out (i : Int) a.xUna a.xNext a.xIss a.xPeer a.xIrs a.xStamps a.xRecent a.xNow a.xSacks ke = ke (out ++ r.map (offs a)) a.xUna a.xNext a.xIss a.xPeer a.xIrs a.xStamps a.xRecent a.xNow a.xSacks
  | [], i, 0, out, h, hi, ho, hk => by simp at hk
  | [], i, m + 1, out, h, hi, ho, hk => by
    have := drop_nil h
    simp only [l_ack_offsets_12, s_ack_offsets_7]
    rw [cf (by omega)]; simp
  | x :: r, i, 0, out, h, hi, ho, hk => by simp at hk
  | x :: r, i, m + 1, out, h, hi, ho, hk => by
    obtain ⟨h1, h2⟩ := drop_lt h
    simp only [l_ack_offsets_12, s_ack_offsets_7]
    rw [ct (by omega), ct (by omega), ct (by omega), rd_at h]
    show G_ack_Weigh_1 capB (n + 3) x.xFrom a _ = _
    rw [of_k _ _ _ _ _ ha, of_k _ _ _ _ _ ha, cap_ok (by simp only [List.length_cons, List.length_nil]; omega), succ_w (by omega),
      offsets_loop n l a ha hl ke r (i + 1) m _ h2 (by omega) (by simp; omega) (by simpa using hk)]
    simp [offs]
theorem offsets_k {R : Type} (n : Nat) (l : List SBlock) (a : SAsked) (ha : Asks a) (hl : l.length < 8796093022200) (hn : l.length + 4 ≤ n) (k : List SSpan → SAsked → Option R) : G_ack_offsets capB (n + 1) l a k = k (l.map (offs a)) a := by
  obtain ⟨m, rfl⟩ : ∃ m, n = m + 3 := ⟨n - 3, by omega⟩
  show l_ack_offsets_12 capB (m + 3) (m + 3) l (l.length : Int) [] ((0 : Nat) : Int) a.xUna a.xNext a.xIss a.xPeer a.xIrs a.xStamps a.xRecent a.xNow a.xSacks _ = _
  rw [offsets_loop m l a ha hl _ l 0 (m + 3) [] rfl (by omega) rfl (by omega)]
  rfl
/-- Does the first block say that something came twice? -/
def twiceO : List SSpan → Int → Bool
  | [], _ => false
  | b :: r, x => decide (b.xFrom < b.xTo) && (decide (b.xTo ≤ x) || (match r with
    | [] => false
    | c :: _ => decide (c.xFrom ≤ b.xFrom) && decide (b.xTo ≤ c.xTo)))
theorem twice_k {R : Type} (cp : Nat → Nat → Bool) (n : Nat) (l : List SSpan) (x : Int) (k : Bool → Option R) : G_ack_twice cp (n + 1) l x k = k (twiceO l x) := by
  simp only [G_ack_twice]
  cases l with
  | nil => rfl
  | cons b r =>
    rw [cf (by simp <;> omega), ct (by simp <;> omega), ct (by simp <;> omega)]
    simp only [List.getD_cons_zero, twiceO]
    by_cases c1 : b.xTo ≤ b.xFrom
    · rw [ct c1, decide_eq_false (show ¬ b.xFrom < b.xTo by omega)]; rfl
    rw [cf c1, decide_eq_true (show b.xFrom < b.xTo by omega), ct (by simp <;> omega), Bool.true_and]
    by_cases c2 : b.xTo ≤ x
    · rw [ct c2, decide_eq_true c2]; rfl
    rw [cf c2, decide_eq_false c2, Bool.false_or]
    cases r with
    | nil => rw [cf (by simp)]
    | cons c r =>
      rw [ct (by simp <;> omega), ct (by simp <;> omega), ct (by simp <;> omega)]
      simp only [List.getD_cons_succ, List.getD_cons_zero]
      by_cases c3 : c.xFrom ≤ b.xFrom
      · rw [ct c3, decide_eq_true c3, ct (by simp <;> omega), ct (by simp <;> omega), Bool.true_and]
      · rw [cf c3, decide_eq_false c3, Bool.false_and]
/-- Is a block left aside? -/
def aside (tw : Bool) (lo hi : Int) (i : Nat) (b : SSpan) : Bool := (decide (i = 0) && tw) || decide (b.xFrom < lo) || decide (b.xTo ≤ b.xFrom) || decide (hi < b.xTo)
def gather (tw : Bool) (lo hi : Int) : Nat → List SSpan → List SSpan → List SSpan
  | _, acc, [] => acc
  | i, acc, b :: r => gather tw lo hi (i + 1) (if aside tw lo hi i b then acc else add b.xFrom b.xTo acc) r
theorem blocks_loop {R : Type} (n : Nat) (p0 : SAsked) (p1 : SSegment) (v12 : Int) (v13 : Bool) (v14 v16 : Int) (l : List SSpan) (v107 v108 v109 v110 v111 : Int) (v112 : Bool) (v113 v114 : Int) (v115 tw : Bool) (ke : List SSpan → Option R)
    (hl : l.length < 8796093022100) (hn : l.length + 8 ≤ n) (hlo : 0 ≤ v12) : ∀ (r : List SSpan) (i m : Nat) (acc : List SSpan), l.drop i = r → i ≤ l.length → acc.length ≤ i → Ok 0 acc → r.length + 1 ≤ m →
      l_ack_Weigh_29 capB (n + 1) m p0 p1 v12 v13 v14 v16 l v107 v108 v109 v110 v111 v112 v113 v114 v115 tw (l.length : Int) (i : Int) acc ke = ke (gather tw v12 (min v108 1125899906842624) i acc r)
  | [], i, 0, acc, h, hi, ho, hok, hk => by simp at hk
  | [], i, m + 1, acc, h, hi, ho, hok, hk => by
    have := drop_nil h
    simp only [l_ack_Weigh_29, s_ack_Weigh_24]
    rw [cf (by omega)]; rfl
  | x :: r, i, 0, acc, h, hi, ho, hok, hk => by simp at hk
  | x :: r, i, m + 1, acc, h, hi, ho, hok, hk => by
    obtain ⟨h1, h2⟩ := drop_lt h
    have ih := fun acc ho hok => blocks_loop n p0 p1 v12 v13 v14 v16 l v107 v108 v109 v110 v111 v112 v113 v114 v115 tw ke hl hn hlo r (i + 1) m acc h2 (by omega) ho hok (by simpa using hk)
    simp only [l_ack_Weigh_29, s_ack_Weigh_24]
    rw [ct (by omega), ct (by omega), ct (by omega), rd_at h, succ_w (by omega), mn_min]
    simp only [gather]
    have skip : ∀ b, b = true → l_ack_Weigh_29 capB (n + 1) m p0 p1 v12 v13 v14 v16 l v107 v108 v109 v110 v111 v112 v113 v114 v115 tw (l.length : Int) ((i + 1 : Nat) : Int) acc ke = ke (gather tw v12 (min v108 1125899906842624) (i + 1) (if b then acc else add x.xFrom x.xTo acc) r) := fun b hb => by
      rw [hb, if_pos rfl]; exact ih acc (by omega) hok
    have rest : ∀ b : Bool, (b = true ↔ x.xFrom < v12 ∨ x.xTo ≤ x.xFrom ∨ min v108 1125899906842624 < x.xTo) →
        cond (decide (x.xFrom < v12)) (l_ack_Weigh_29 capB (n + 1) m p0 p1 v12 v13 v14 v16 l v107 v108 v109 v110 v111 v112 v113 v114 v115 tw (l.length : Int) ((i + 1 : Nat) : Int) acc ke) (cond (decide (x.xTo ≤ x.xFrom)) (l_ack_Weigh_29 capB (n + 1) m p0 p1 v12 v13 v14 v16 l v107 v108 v109 v110 v111 v112 v113 v114 v115 tw (l.length : Int) ((i + 1 : Nat) : Int) acc ke)
          (cond (decide (min v108 1125899906842624 < x.xTo)) (l_ack_Weigh_29 capB (n + 1) m p0 p1 v12 v13 v14 v16 l v107 v108 v109 v110 v111 v112 v113 v114 v115 tw (l.length : Int) ((i + 1 : Nat) : Int) acc ke) (G_span_Add capB (n + 1) acc x fun r121 r122 => l_ack_Weigh_29 capB (n + 1) m p0 p1 v12 v13 v14 v16 l v107 v108 v109 v110 v111 v112 v113 v114 v115 tw (l.length : Int) ((i + 1 : Nat) : Int) r121 ke)))
        = ke (gather tw v12 (min v108 1125899906842624) (i + 1) (if b then acc else add x.xFrom x.xTo acc) r) := fun b hb => by
      by_cases c1 : x.xFrom < v12
      · rw [ct c1]; exact skip b (hb.2 (.inl c1))
      rw [cf c1]
      by_cases c2 : x.xTo ≤ x.xFrom
      · rw [ct c2]; exact skip b (hb.2 (.inr (.inl c2)))
      rw [cf c2]
      by_cases c3 : min v108 1125899906842624 < x.xTo
      · rw [ct c3]; exact skip b (hb.2 (.inr (.inr c3)))
      rw [cf c3, Add_k n acc x _ (by omega) (by omega) hok (by omega) (by omega) (by omega)]
      have hb' : ¬ b = true := fun h => by rcases hb.1 h with h | h | h <;> omega
      rw [if_neg hb']
      exact ih _ (by have := add_length x.xFrom x.xTo acc; omega) (add_Ok _ _ acc 0 hok (by omega) (by omega) (by omega))
    have hrest := rest (aside tw v12 (min v108 1125899906842624) i x)
    by_cases c0 : i = 0
    · rw [ct (by omega)]
      cases tw with
      | true => exact skip _ (by simp [aside, c0])
      | false =>
        refine hrest ?_
        simp only [aside, Bool.and_false, Bool.false_or, Bool.or_eq_true, decide_eq_true_eq, or_assoc]
    · rw [cf (by omega)]
      refine hrest ?_
      simp only [aside, c0, decide_false, Bool.false_and, Bool.false_or, Bool.or_eq_true, decide_eq_true_eq, or_assoc]
/-- What a segment tells. -/
def weigh (a : SAsked) (s : SSegment) : SHeard := if (cntO a s).2 then
    let x := (cntO a s).1
    let l := s.xSacks.map (offs a)
    let tw := cond a.xSacks (twiceO l x) false
    ⟨true, max x a.xUna, decide (x < a.xUna), a.xPeer, s.xWin, cond a.xStamps s.xVal 0, cond a.xStamps (if a.xUna < x then max 0 (sdiff s.xEcr a.xNow) else 0) 0, tw, cond a.xSacks (gather tw (max x a.xUna) (min a.xNext 1125899906842624) 0 [] l) []⟩
  else ⟨false, 0, false, 0, 0, 0, 0, false, []⟩
theorem cnt_facts {a : SAsked} {s : SSegment} (h : (cntO a s).2 = true) : 0 ≤ a.xUna ∧ a.xUna ≤ a.xNext ∧ a.xNext ≤ 1125899906842625 ∧ 0 ≤ (cntO a s).1 ∧ (cntO a s).1 ≤ a.xNext := by
  unfold cntO at h ⊢
  split at h
  · cases h
  rename_i h1
  rw [if_neg h1]
  split at h
  · cases h
  rename_i h2
  rw [if_neg h2]
  split at h
  · cases h
  rename_i h3
  rw [if_neg h3]
  split at h
  case isFalse => cases h
  rename_i h4
  rw [if_pos h4]
  split at h
  · cases h
  rename_i h5
  rw [if_neg h5]
  simp only [Bool.and_eq_true, decide_eq_true_eq] at h
  exact ⟨by omega, by omega, by omega, h.2.1, h.2.2⟩
theorem Weigh_k {R : Type} (n : Nat) (a : SAsked) (s : SSegment) (ha : Asks a) (hl : s.xSacks.length < 8796093022100) (hn : s.xSacks.length + 10 ≤ n) (k : SHeard → Option R) : G_ack_Weigh capB (n + 1) a s k = k (weigh a s) := by
  obtain ⟨m, rfl⟩ : ∃ m, n = m + 3 := ⟨n - 3, by omega⟩
  simp only [G_ack_Weigh, s_ack_Weigh_1, s_ack_Weigh_4, s_ack_Weigh_58, s_ack_Weigh_56, s_ack_Weigh_54, s_ack_Weigh_6]
  rw [counts_k _ _ _ _ _ ha]
  unfold weigh
  cases hc : (cntO a s).2 with
  | false => rfl
  | true =>
    obtain ⟨f1, f2, f3, f4, f5⟩ := cnt_facts hc
    simp only [Bool.not_true, cond_false, if_true]
    generalize (cntO a s).1 = x at *
    simp only [s_ack_Weigh_52, s_ack_Weigh_9, s_ack_Weigh_50, s_ack_Weigh_11, s_ack_Weigh_48, s_ack_Weigh_13, s_ack_Weigh_46, s_ack_Weigh_15]
    have tail : ∀ (rec rtt : Int) , (cond (!a.xSacks) (k ⟨true, mx x a.xUna, decide (x < a.xUna), a.xPeer, s.xWin, rec, rtt, false, []⟩) (s_ack_Weigh_44 capB (m + 3) a s x (mx x a.xUna) (decide (x < a.xUna)) rec rtt fun v132 v133 => k ⟨true, mx x a.xUna, decide (x < a.xUna), a.xPeer, s.xWin, rec, rtt, v132, v133⟩)) =
        k ⟨true, max x a.xUna, decide (x < a.xUna), a.xPeer, s.xWin, rec, rtt, cond a.xSacks (twiceO (s.xSacks.map (offs a)) x) false, cond a.xSacks (gather (cond a.xSacks (twiceO (s.xSacks.map (offs a)) x) false) (max x a.xUna) (min a.xNext 1125899906842624) 0 [] (s.xSacks.map (offs a))) []⟩ := fun rec rtt => by
      rw [mx_max]
      cases hs : a.xSacks with
      | false => rfl
      | true =>
        simp only [Bool.not_true, cond_false, cond_true, s_ack_Weigh_44, s_ack_Weigh_17]
        rw [offsets_k _ _ _ ha (by omega) (by omega)]
        simp only [s_ack_Weigh_42, s_ack_Weigh_19]
        rw [twice_k]
        simp only [s_ack_Weigh_40, s_ack_Weigh_21, s_ack_Weigh_38, s_ack_Weigh_34, s_ack_Weigh_22, s_ack_Weigh_32, s_ack_Weigh_30]
        have := blocks_loop (m + 2) a s (max x a.xUna) (decide (x < a.xUna)) rec rtt (s.xSacks.map (offs a)) a.xUna a.xNext a.xIss a.xPeer a.xIrs a.xStamps a.xRecent a.xNow a.xSacks (twiceO (s.xSacks.map (offs a)) x) (fun v129 => s_ack_Weigh_35 capB (m + 3) a s (max x a.xUna) (decide (x < a.xUna)) rec rtt (twiceO (s.xSacks.map (offs a)) x) v129 (k ⟨true, max x a.xUna, decide (x < a.xUna), a.xPeer, s.xWin, rec, rtt, twiceO (s.xSacks.map (offs a)) x, v129⟩))
          (by simpa using hl) (by simp; omega) (by omega) (s.xSacks.map (offs a)) 0 (m + 3) [] rfl (by omega) (by simp) trivial (by simp; omega)
        exact this
    cases ht : a.xStamps with
    | false => exact tail 0 0
    | true =>
      simp only [cond_true]
      by_cases c : a.xUna < x
      · rw [ct c, if_pos c, Diff_k, mx_max 0]; exact tail s.xVal (max 0 (sdiff s.xEcr a.xNow))
      · rw [cf c, if_neg c]; exact tail s.xVal 0
end Go.Proofs.Ytfdopmobhphdbaa.M
