/- The law RecvTwice: the same segment again changes nothing but what is told. -/
import Derived.Test.YtilmdmjhdidoiaaTTRTwice
import Derived.Test.YtilmdmjhdidoiaaTTRHeads
import Derived.Test.YtilmdmjhdidoiaaPuRecvTwice
set_option linter.unusedVariables false
set_option linter.unusedSimpArgs false
namespace Go.Proofs.Ytilmdmjhdidoiaa.M
open Go Go.RowKit
noncomputable section
theorem law_RecvTwice : LawRecvTwice.Pure := by
  intro M r s h0 h1
  obtain ⟨i1, ⟨_, i2, _, _⟩, ⟨_, i3, _, i4⟩, _, _, _, i5, _, _, _, _, ⟨_, i6, _, _⟩, i7, _⟩ := h0
  have hsd : s.xData.length ≤ 140737488351232 := by
    obtain ⟨j1, j2, j3, j4, j5, j6, j7, j8, j9, j10, j11, j12, j13, j14, j15, j16, j17⟩ := h1
    omega
  obtain ⟨N, hN⟩ : ∃ N, N = r.xLate.length + r.xFirst.length + 4294967296 := ⟨_, rfl⟩
  have hz : ∀ n, N ≤ n + 4294967200 → Fits n r := fun n hn => ⟨fun p hp => by have := (i4 p hp).2.2.1; omega, by omega, by omega, by omega, by omega⟩
  refine ⟨N + 61, fun R k => ?_⟩
  obtain ⟨F, hF⟩ : ∃ F, F = N + 60 := ⟨_, rfl⟩
  have hh : ∀ k : Bool → Option R, G11 capB F k = k true := fun k => by
    obtain ⟨j, hj⟩ : ∃ j, F = j + 40 := ⟨N + 20, by omega⟩
    rw [hj]; exact heads08 j k
  rw [show N + 61 = F + 1 by omega]
  have hsame : ∀ (xs : List Int) (k : Bool → Option R), G21 capB F xs xs k = k true := fun xs k => by
    obtain ⟨j, hj⟩ : ∃ j, F = j + 1 := ⟨F - 1, by omega⟩
    rw [hj]; exact Same02_k j xs k
  have hi := fun k => Input_F (R := R) (F := F) (by omega) r s k (hz _ (by omega)) hsd
  simp only [G7, s7_1, s7_4, s7_7]
  by_cases ok : RecvOk r
  · -- whatever the first call answers, if it stays right and a second call makes the same of it
    have core : ∀ (a : SRecv) (b : Bool) (c : SRecv) (t : SSegment), RecvOk a → (∀ k : SRecv → SSegment → Bool → Int → Option R, G12 capB F a s k = k c t b 0) → r.xNext ≤ a.xNext → r.xEdge ≤ a.xEdge → c.xNext = a.xNext → c.xUnread = a.xUnread → c.xFin = a.xFin → c.xDone = a.xDone → c.xLate = a.xLate →
        cond (!decide ((0 : Int) = 0)) (G11 capB F fun r15 => k r15) (cond (decide (500 < (s.xData.length : Int))) (G11 capB F fun r16 => k r16) (G12 capB F a s fun r17 r18 r19 r20 => cond (decide (r20 = 0)) (cond (b == r19) (cond (decide (a.xNext = r17.xNext)) (G21 capB F a.xUnread r17.xUnread fun r27 => cond r27 (cond (decide (a.xFin = r17.xFin)) (cond (a.xDone == r17.xDone) (cond (decide ((a.xLate.length : Int) = (r17.xLate.length : Int))) (cond (decide (r.xNext ≤ a.xNext)) (cond (decide (r.xEdge ≤ a.xEdge)) (G10 capB F a fun r28 => cond (decide (r28 = 0)) (G11 capB F fun r29 => k r29) (k false)) (k false)) (k false)) (k false)) (k false)) (k false)) (k false)) (k false)) (k false)) (k false))) = k true := by
      intro a b c t ha hin h1 h2 h3 h4 h5 h6 h7
      rw [cnt rfl]
      by_cases c1 : 500 < (s.xData.length : Int)
      · rw [ct c1, hh]
      · have hc := fun k => Check_F (R := R) (F := F) (by omega) a k (ok_fits ha (by omega))
        rw [cf c1, hin, ct rfl, h3, h4, h5, h6, h7]
        simp only [beq_self_eq_true, cond_true, decide_true]
        rw [hsame]
        rw [cond_true, ct h1, ct h2, (hc _).1 ha, ct rfl, hh]
    rw [(hi _).1 ok]
    by_cases c1 : r.xStamps = true ∧ s.xStamped = false
    · rw [if_pos c1]
      have hin : ∀ k : SRecv → SSegment → Bool → Int → Option R, G12 capB F r s k = k r noSeg false 0 := fun k => by rw [(hi k).1 ok, if_pos c1]
      exact core r false r noSeg ok hin (Int.le_refl _) (Int.le_refl _) rfl rfl rfl rfl rfl
    · rw [if_neg c1]
      by_cases c2 : r.xStamps = true ∧ r.xStamp = true ∧ sdiff r.xRecent s.xVal < 0
      · rw [if_pos c2]
        have hin : ∀ k : SRecv → SSegment → Bool → Int → Option R, G12 capB F (tellE r) s k = k (tellE (tellE r)) (tellS (tellE r) []) true 0 := fun k => by
          rw [(Input_F (F := F) (by omega) (tellE r) s k (hz _ (by omega)) hsd).1 ok.tell, if_neg (show ¬ ((tellE r).xStamps = true ∧ s.xStamped = false) from c1), if_pos (show (tellE r).xStamps = true ∧ (tellE r).xStamp = true ∧ sdiff (tellE r).xRecent s.xVal < 0 from c2)]
        exact core (tellE r) true (tellE (tellE r)) _ ok.tell hin (Int.le_refl _) (by show r.xEdge ≤ max r.xEdge _; omega) rfl rfl rfl rfl rfl
      · rw [if_neg c2]
        have hok := (inR_ok s ok).tell
        obtain ⟨o1, o2⟩ := twice_old c2
        obtain ⟨e1, e2, e3, e4, e5⟩ := inT_eq s ok
        by_cases c3 : 500 < (s.xData.length : Int)
        · rw [cnt rfl, ct c3, hh]
        · have hin : ∀ k : SRecv → SSegment → Bool → Int → Option R, G12 capB F (tellE (inR r s)) s k = k (tellE (inR (tellE (inR r s)) s)) (tellS (inR (tellE (inR r s)) s) (aheadL (tellE (inR r s)) s)) true 0 := fun k => by
            rw [(Input_F (F := F) (by omega) (tellE (inR r s)) s k (ok_fits hok (by omega)) hsd).1 hok, if_neg (by rw [o1]; exact c1), if_neg o2]
          have tw := twice (s := s) ok (by omega)
          exact core (tellE (inR r s)) true _ _ hok hin e1 (by show r.xEdge ≤ max (inT r s).xEdge _; rw [e4]; omega) tw.next tw.unread tw.fin tw.done tw.late
  · rw [(hi _).2 ok, cnf (by omega), hh]
end
end Go.Proofs.Ytilmdmjhdidoiaa.M
