/- The law RecvOld: what is stamped ahead of what was seen is not taken. -/
import Derived.Test.YtilmdmjhdidoiaaOTRTell
import Derived.Test.YtilmdmjhdidoiaaOTRHeads
import Derived.Test.YtilmdmjhdidoiaaOTSeq
import Derived.Test.YtilmdmjhdidoiaaPuRecvOld
set_option linter.unusedVariables false
set_option linter.unusedSimpArgs false
namespace Go.Proofs.Ytilmdmjhdidoiaa.M
open Go Go.RowKit
noncomputable section
theorem law_RecvOld : LawRecvOld.Pure := by
  intro M r s b h0 h1 h2
  obtain ⟨i1, ⟨_, i2, _, _⟩, ⟨_, i3, _, i4⟩, _, _, _, i5, _, _, _, _, ⟨_, i6, _, _⟩, i7, _⟩ := h0
  have hr5 := i5.u32
  have hb := h2.i64
  have hn := i1.i64
  obtain ⟨N, hN⟩ : ∃ N, N = r.xLate.length + r.xFirst.length + 1 := ⟨_, rfl⟩
  have hz : ∀ n, N ≤ n → Fits n r := fun n hn => ⟨fun p hp => by have := (i4 p hp).2.2.1; omega, by omega, by omega, by omega, by omega⟩
  refine ⟨N + 61, fun R k => ?_⟩
  obtain ⟨F, hF⟩ : ∃ F, F = N + 60 := ⟨_, rfl⟩
  obtain ⟨F1, hF1⟩ : ∃ F1, F = F1 + 1 := ⟨N + 59, by omega⟩
  have hh : ∀ k : Bool → Option R, G_law08_heads capB F k = k true := fun k => by
    obtain ⟨j, hj⟩ : ∃ j, F = j + 40 := ⟨N + 20, by omega⟩
    rw [hj]; exact heads08 j k
  have hc := fun k => Check_k (R := R) (F - 5) r k (hz _ (by omega))
  have hc2 := fun k => Check_k (R := R) (F1 - 5) r k (hz _ (by omega))
  have hcp := fun k => copied_k (R := R) (F1 - 2) r k (hz _ (by omega))
  have hU := fun a s k h0 h1 => Unwrap_k (R := R) (n := F1 - 2) (cp := capB) a s k h0 h1
  rw [show F - 5 + 5 = F by omega] at hc
  rw [show F1 - 5 + 5 = F1 by omega] at hc2
  rw [show F1 - 2 + 2 = F1 by omega] at hcp hU
  have hD := fun a b k => Diff_k (R := R) (n := F1 - 1) (cp := capB) a b k
  rw [show F1 - 1 + 1 = F1 by omega] at hD
  rw [show N + 61 = F + 1 by omega, show G_law08_RecvOld capB (F + 1) r s b k = s_law08_RecvOld_14 capB F r s b (fun v => k v) from rfl]
  simp only [G_law08_RecvOld, s_law08_RecvOld_1, s_law08_RecvOld_3, s_law08_RecvOld_5, s_law08_RecvOld_8, s_law08_RecvOld_9, s_law08_RecvOld_12, s_law08_RecvOld_14]
  by_cases ok : RecvOk r
  · have hbase := ok.1
    have ht := fun bs k => tell_k (R := R) (F1 - 2) r bs k hbase (by omega) (by omega) ⟨ok.2.1, by have := ok.2.2.1; obtain ⟨q1, q2, q3, q4, q5, q6, q7, q8⟩ := hbase; omega⟩
    rw [show F1 - 2 + 2 = F1 by omega] at ht
    rw [(hc _).1 ok, cnt rfl]
    cases hs : r.xStamps with
    | false => simp only [Bool.not_false, cond_true]; exact hh k
    | true =>
    simp only [Bool.not_true, cond_false]
    cases hst : r.xStamp with
    | false => simp only [Bool.not_false, cond_true]; exact hh k
    | true =>
    simp only [Bool.not_true, cond_false]
    by_cases c1 : b < 1
    · rw [ct c1]; simp only [cond_true]; exact hh k
    rw [cf c1]
    by_cases c2 : 2147483647 < b
    · rw [ct c2]; simp only [cond_true]; exact hh k
    rw [cf c2]
    by_cases c3 : 500 < (s.xData.length : Int)
    · rw [ct c3]; exact hh k
    rw [cf c3]
    have hI : ∀ (sg : SSegment) (k : SRecv → SSegment → Bool → Int → Option R), sg.xStamped = true → sg.xVal = wr .u32 (r.xRecent - wr .u32 b) → G_recv_Input capB F r sg k = k (tellE r) (tellS r []) true 0 := fun sg k e1 e2 => by
      rw [show G_recv_Input capB F r sg k = s_recv_Input_27 capB F1 r sg (fun v62 v63 v64 v65 => k v64 v65 v62 v63) from by rw [hF1]; rfl]
      simp only [s_recv_Input_1, s_recv_Input_4, G_recv_Input, s_recv_Input_1, s_recv_Input_4, s_recv_Input_6, s_recv_Input_8, s_recv_Input_10, s_recv_Input_12, s_recv_Input_14, s_recv_Input_17, s_recv_Input_19, s_recv_Input_21, s_recv_Input_23, s_recv_Input_25, s_recv_Input_27]
      rw [(hc2 _).1 ok, cnt rfl, hcp, hs, cond_true, e1, Bool.not_true, cond_false, hU _ _ _ (by omega) (by omega), cond_true, hst, cond_true, e2]
      have hw : sdiff r.xRecent (wr .u32 (r.xRecent - wr .u32 b)) = -b := by
        unfold sdiff; rw [wu32, wu32]; omega
      rw [hD, hw, ct (by omega), ht]
    rw [hI _ _ rfl rfl, ct rfl, cond_true, ct (show (tellE r).xNext = r.xNext from rfl), ct (show ((tellE r).xLate.length : Int) = r.xLate.length from rfl), ct (show (tellE r).xRecent = r.xRecent from rfl), ct (show (tellE r).xFin = r.xFin from rfl)]
    exact hh k
  · rw [(hc _).2 ok, cnf (by omega)]; simp only [cond_true]; exact hh k
end
end Go.Proofs.Ytilmdmjhdidoiaa.M
