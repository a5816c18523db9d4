/- What is acknowledged, and what is sacked, was sent and is not acknowledged yet. -/
import Derived.Test.YtfdopmobhphdbaaTAck2
import Derived.Test.YtfdopmobhphdbaaPuAckWithinu
set_option linter.unusedVariables false
set_option linter.unusedSimpArgs false
namespace Go.Proofs.Ytfdopmobhphdbaa.M
open Go Go.RowKit
theorem Within_loop {R : Type} (n : Nat) (a : SAsked) (v179 : Bool) (v180 : Int) (v181 : Bool) (v182 v183 v184 v185 : Int) (v186 : Bool) (l : List SSpan) (kr ke : Option R) (hl : l.length < 9223372036854775807) (hin : ∀ x ∈ l, v180 ≤ x.xFrom ∧ x.xTo ≤ a.xNext) :
    ∀ (r : List SSpan) (i m : Nat), l.drop i = r → i ≤ l.length → r.length + 1 ≤ m → l_law22_AckWithin_16 capB n m a v179 v180 v181 v182 v183 v184 v185 v186 l (i : Int) kr ke = ke
  | [], i, 0, h, hi, hk => by simp at hk
  | [], i, m + 1, h, hi, hk => by
    have := drop_nil h
    simp only [l_law22_AckWithin_16, s_law22_AckWithin_12]
    rw [cf (by omega)]
  | x :: r, i, 0, h, hi, hk => by simp at hk
  | x :: r, i, m + 1, h, hi, hk => by
    obtain ⟨h1, h2⟩ := drop_lt h
    have hx := hin x (List.mem_of_mem_drop (i := i) (by rw [h]; simp))
    simp only [l_law22_AckWithin_16, s_law22_AckWithin_12]
    rw [ct (by omega), ct (by omega), ct (by omega), rd_at h, cf (by omega), ct (by omega), ct (by omega), cf (by omega), succ_w (by omega)]
    exact Within_loop n a v179 v180 v181 v182 v183 v184 v185 v186 l kr ke hl hin r (i + 1) m h2 (by omega) (by simpa using hk)
theorem Within_core {R : Type} (n : Nat) (a : SAsked) (h : SHeard) (k : Bool → Option R) (hlen : h.xSpans.length + 58 ≤ n) (hl : h.xSpans.length ≤ 1048576)
    (H : h.xCounts = false → h.xOld = false ∧ h.xTwice = false ∧ h.xAck = 0 ∧ h.xAt = 0 ∧ h.xSpans = [])
    (H2 : h.xCounts = true → a.xUna ≤ h.xAck ∧ h.xAck ≤ a.xNext ∧ 0 ≤ h.xRtt ∧ Ok 0 h.xSpans ∧ (h.xOld = true → h.xAck = a.xUna) ∧ ∀ x ∈ h.xSpans, h.xAck ≤ x.xFrom ∧ x.xTo ≤ a.xNext) :
    s_law22_AckWithin_27 capB (n + 1) a h.xCounts h.xAck h.xOld h.xAt h.xWin h.xRecent h.xRtt h.xTwice h.xSpans k = k true := by
  have hh : ∀ (k : Bool → Option R), G_law22_heads capB (n + 1) k = k true := fun k => by
    obtain ⟨m, rfl⟩ : ∃ m, n = m + 39 := ⟨n - 39, by omega⟩
    exact heads22 _ k
  obtain ⟨c, ack, old, at_, win, rec, rtt, tw, sp⟩ := h
  simp only at hlen hl H H2 ⊢
  simp only [s_law22_AckWithin_27, s_law22_AckWithin_6]
  cases c with
  | false =>
    obtain ⟨rfl, rfl, rfl, rfl, rfl⟩ := H rfl
    exact hh _
  | true =>
    obtain ⟨h1, h2, h3, hok, h5, hin⟩ := H2 rfl
    simp only [Bool.not_true, cond_false, s_law22_AckWithin_25, s_law22_AckWithin_8]
    have fin : s_law22_AckWithin_23 capB (n + 1) a true ack old at_ win rec rtt tw sp (fun v => k v) = k true := by
      simp only [s_law22_AckWithin_23, s_law22_AckWithin_19, s_law22_AckWithin_10, s_law22_AckWithin_18, s_law22_AckWithin_17]
      refine (Within_loop _ a _ _ _ _ _ _ _ _ sp _ _ (by omega) hin sp 0 _ rfl (by omega) (by omega)).trans ?_
      simp only [s_law22_AckWithin_20]
      exact hh _
    rw [cf (by omega), cf (by omega), cf (by omega), Check_k _ _ _ _ (by omega) (by omega), if_pos hok, cnt rfl]
    cases old with
    | false => exact fin
    | true =>
      simp only [cond_true]
      rw [cnt (h5 rfl)]; exact fin
theorem weigh_length (a : SAsked) (s : SSegment) : (weigh a s).xSpans.length ≤ s.xSacks.length := by
  unfold weigh
  split
  · simp only
    cases a.xSacks with
    | false => simp
    | true =>
      refine Nat.le_trans (gather_length _ _ _) ?_
      simp
  · simp
theorem weigh_no {a : SAsked} {s : SSegment} (h : (weigh a s).xCounts = false) : (weigh a s).xOld = false ∧ (weigh a s).xTwice = false ∧ (weigh a s).xAck = 0 ∧ (weigh a s).xAt = 0 ∧ (weigh a s).xSpans = [] := by
  unfold weigh at h ⊢
  split at h
  · cases h
  · rename_i c
    rw [if_neg c]
    exact ⟨rfl, rfl, rfl, rfl, rfl⟩
theorem weigh_yes {a : SAsked} {s : SSegment} (h : (weigh a s).xCounts = true) : a.xUna ≤ (weigh a s).xAck ∧ (weigh a s).xAck ≤ a.xNext ∧ 0 ≤ (weigh a s).xRtt ∧ Ok 0 (weigh a s).xSpans ∧ ((weigh a s).xOld = true → (weigh a s).xAck = a.xUna) ∧ ∀ x ∈ (weigh a s).xSpans, (weigh a s).xAck ≤ x.xFrom ∧ x.xTo ≤ a.xNext := by
  unfold weigh at h ⊢
  split at h
  · rename_i c
    rw [if_pos c]
    obtain ⟨f1, f2, f3, f4, f5⟩ := cnt_facts c
    simp only
    generalize (cntO a s).1 = x at *
    refine ⟨by omega, by omega, ?_, ?_, fun h => ?_, ?_⟩
    · cases a.xStamps with
      | false => simp
      | true => simp only [cond_true]; split <;> omega
    · cases a.xSacks with
      | false => trivial
      | true => exact gather_Ok (by omega) (by omega) _ _ _ trivial
    · have := of_decide_eq_true h
      omega
    · cases a.xSacks with
      | false => simp
      | true =>
        intro y hy
        have := gather_in _ _ [] (by simp) y hy
        omega
  · cases h
theorem law_AckWithinU : LawAckWithinu.Pure := by
  intro a s ha hs
  refine ⟨s.xSacks.length + 58 + 1 + 1, fun R k => ?_⟩
  have hA : Asks a := ⟨ha.1, ha.2.2.2.1⟩
  have hl : s.xSacks.length ≤ 1048576 := hs.2.2.2.2.2.2.2.2.2.2.2.2.2.1.2.2.1
  simp only [G_law22_AckWithin, s_law22_AckWithin_31, s_law22_AckWithin_1, s_law22_AckWithin_29, s_law22_AckWithin_4]
  rw [Weigh_k _ _ _ hA (by omega) (by omega)]
  have hw := weigh_length a s
  exact Within_core _ a (weigh a s) _ (by omega) (by omega) weigh_no weigh_yes
end Go.Proofs.Ytfdopmobhphdbaa.M
