/- The law RecvWindow: never more is told than there is room for, and reading makes room. -/
import Derived.Test.YtilmdmjhdidoiaaWTRRead
import Derived.Test.YtilmdmjhdidoiaaWTRHeads
import Derived.Test.YtilmdmjhdidoiaaPuRecvWindow
set_option linter.unusedVariables false
set_option linter.unusedSimpArgs false
namespace Go.Proofs.Ytilmdmjhdidoiaa.M
open Go Go.RowKit
noncomputable section
theorem Window_F {R : Type} {F : Nat} (h : 7 ≤ F) (r : SRecv) (k : Int → Option R) (hz : Fits (F - 6) r) : (RecvOk r → G22 capB F r k = k (room r)) ∧ (¬ RecvOk r → G22 capB F r k = k 0) := by
  obtain ⟨n, rfl⟩ : ∃ n, F = n + 1 := ⟨F - 1, by omega⟩
  have hz1 : Fits (n - 5) r := ⟨hz.1, hz.2.1, hz.2.2.1, hz.2.2.2.1, by have := hz.2.2.2.2; omega⟩
  have hc := fun k => Check_F (R := R) (F := n) (by omega) r k hz1
  simp only [G22]
  exact ⟨fun ok => by rw [(hc _).1 ok, cnt rfl, window_F (by omega) _ _ ok.1], fun no => by rw [(hc _).2 no, cnf (by omega)]⟩
theorem Tell_F {R : Type} {F : Nat} (h : 7 ≤ F) (r : SRecv) (k : SRecv → SSegment → Option R) (hz : Fits (F - 6) r) (ok : RecvOk r) : G23 capB F r k = k (tellE r) (tellS r []) := by
  obtain ⟨n, rfl⟩ : ∃ n, F = n + 1 := ⟨F - 1, by omega⟩
  have hz1 : ∀ q, n - 5 ≤ q → Fits q r := fun q hq => ⟨hz.1, hz.2.1, hz.2.2.1, hz.2.2.2.1, by have := hz.2.2.2.2; omega⟩
  have hc := fun k => Check_F (R := R) (F := n) (by omega) r k (hz1 _ (by omega))
  simp only [G23]
  rw [(hc _).1 ok, cnt rfl, copied_F (by omega) _ _ (hz1 _ (by omega)), tell_F (by omega) _ _ _ ok (hz1 _ (by omega))]
theorem win_mono {x b s : Int} (hs : 0 ≤ s ∧ s ≤ 14) (hx : 0 ≤ x) (hb : 0 ≤ b) : win x s ≤ win (x + b) s ∧ win (x + b) s ≤ win x s + b + 2 ^ s.toNat := by
  obtain ⟨t, rfl⟩ := Int.eq_ofNat_of_zero_le hs.1
  have ht : t ≤ 14 := by omega
  unfold win
  rw [Int.toNat_natCast]
  rcases p2 t ht with h | h | h | h | h | h | h | h | h | h | h | h | h | h | h <;> rw [h] <;> constructor <;> omega
theorem win_back {x s : Int} (hs : 0 ≤ s ∧ s ≤ 14) (hx : 0 ≤ x) : shl .i64 (win x s / 2 ^ s.toNat) s = win x s := by
  obtain ⟨t, rfl⟩ := Int.eq_ofNat_of_zero_le hs.1
  have ht : t ≤ 14 := by omega
  rw [shl_t _ t ht]
  unfold win
  rw [Int.toNat_natCast]
  rcases p2 t ht with h | h | h | h | h | h | h | h | h | h | h | h | h | h | h <;> rw [h] <;> rw [w64_id (by omega) (by omega)] <;> omega
theorem law_RecvWindow : LawRecvWindow.Pure := by
  intro M r m h0 h1
  obtain ⟨i1, ⟨_, i2, _, _⟩, ⟨_, i3, _, i4⟩, _, _, _, i5, _, _, _, _, ⟨_, i6, _, _⟩, i7, _⟩ := h0
  obtain ⟨N, hN⟩ : ∃ N, N = r.xLate.length + r.xFirst.length + 1 := ⟨_, rfl⟩
  have hz : ∀ n, N ≤ n → Fits n r := fun n hn => ⟨fun p hp => by have := (i4 p hp).2.2.1; omega, by omega, by omega, by omega, by omega⟩
  refine ⟨N + 61, fun R k => ?_⟩
  obtain ⟨F, hF⟩ : ∃ F, F = N + 60 := ⟨_, rfl⟩
  have hh : ∀ k : Bool → Option R, G11 capB F k = k true := fun k => by
    obtain ⟨j, hj⟩ : ∃ j, F = j + 40 := ⟨N + 20, by omega⟩
    rw [hj]; exact heads08 j k
  rw [show N + 61 = F + 1 by omega]
  have hc := fun k => Check_F (R := R) (F := F) (by omega) r k (hz _ (by omega))
  have hw := fun k => Window_F (R := R) (F := F) (by omega) r k (hz _ (by omega))
  have hrd := fun k => Read_F (R := R) (F := F) (by omega) r m k (hz _ (by omega))
  simp only [G8, s8_1, s8_4, s8_6, s8_9, s8_11]
  by_cases ok : RecvOk r
  · rw [(hc _).1 ok, cnt rfl, (hw _).1 ok, (hrd _).1 ok]
    have htell := fun k => Tell_F (R := R) (F := F) (by omega) r k (hz _ (by omega)) ok
    have hx1 : RecvOk (readR r m) := ok.read m
    have hx2 : RecvOk (tellE (readR r m)) := hx1.tell
    have hw1 := fun k => (Window_F (R := R) (F := F) (by omega) (readR r m) k ((hz _ (by omega)).read m)).1 hx1
    have hw2 : ∀ k, G22 capB F (tellE (readR r m)) k = k (room (readR r m)) := fun k => (Window_F (R := R) (F := F) (by omega) (tellE (readR r m)) k ((hz _ (by omega)).read m)).1 hx2
    have hl := readN_le r m
    have hr := room_le ok.1
    have hr2 := room_le hx1.1
    obtain ⟨⟨b1, b2, b3, b4, b5, b6, b7, b8⟩, e1, e2, _⟩ := ok
    have hs : wr .u64 r.xShift = r.xShift := by rw [wu64]; omega
    have hlen : ((readR r m).xUnread.length : Int) = r.xUnread.length - readN r m := by
      show ((r.xUnread.drop (readN r m)).length : Int) = _
      rw [List.length_drop]; omega
    have hroom : room (readR r m) = win (r.xCap - r.xUnread.length + readN r m) r.xShift := by
      unfold room
      rw [hlen]
      show win (r.xCap - _) r.xShift = _
      congr 1; omega
    obtain ⟨m1, m2⟩ := win_mono (x := r.xCap - r.xUnread.length) (b := (readN r m : Int)) ⟨b5, b6⟩ (by omega) (by omega)
    rw [← hroom] at m1 m2
    have hroom0 : win (r.xCap - r.xUnread.length) r.xShift = room r := rfl
    rw [hroom0] at m1 m2
    have h2 : (2 : Int) ^ r.xShift.toNat ≤ 16384 ∧ 0 < (2 : Int) ^ r.xShift.toNat := by
      rcases p2 r.xShift.toNat (by omega) with h | h | h | h | h | h | h | h | h | h | h | h | h | h | h <;> rw [h] <;> omega
    have hsh : shl .i64 1 r.xShift = 2 ^ r.xShift.toNat := by
      obtain ⟨t, ht⟩ := Int.eq_ofNat_of_zero_le b5
      rw [ht] at h2 ⊢
      rw [Int.toNat_natCast] at h2 ⊢
      rw [shl_t _ t (by omega), Int.one_mul, w64_id (by omega) (by omega)]
    have hb : shl .i64 (tellS r []).xWin r.xShift = room r := win_back ⟨b5, b6⟩ (by omega)
    have hlt : (((r.xUnread.take (readN r m)).length : Nat) : Int) = readN r m := by rw [List.length_take]; omega
    have hE : (tellE r).xEdge = max r.xEdge (r.xNext + room r) := rfl
    have core : ∀ (x : SRecv) (b : Bool), (∀ k : Int → Option R, G22 capB F x k = k (room (readR r m))) →
        cond (decide (0 ≤ room r)) (cond (decide (room r ≤ wr .i64 (r.xCap - (r.xUnread.length : Int)))) (cond (decide ((0 : Int) = 0)) (G22 capB F x fun r27 => cond (decide (room r ≤ r27)) (G22 capB F x fun r28 => cond (decide (wr .u64 r.xShift < 0)) none (cond (decide (r28 ≤ wr .i64 (wr .i64 (room r + ((r.xUnread.take (readN r m)).length : Int)) + shl .i64 1 (wr .u64 r.xShift)))) (cond (decide (wr .u64 r.xShift < 0)) none (cond (decide (shl .i64 (tellS r []).xWin (wr .u64 r.xShift) = room r)) (cond (decide (r.xEdge ≤ (tellE r).xEdge)) (cond (decide ((tellE r).xEdge ≤ mx r.xEdge (wr .i64 (r.xNext + room r)))) (G11 capB F fun r29 => k r29) (k false)) (k false)) (k false))) (k false))) (k false)) (k false)) (k false)) (k false) = k true := fun x b hx => by
      rw [ct (by omega), w64_id (n := r.xCap - _) (by omega) (by omega), ct (by omega), ct rfl, hx, ct (by omega), hx, hs, cf (by omega), hlt, hsh, w64_id (n := room r + _) (by omega) (by omega), w64_id (n := room r + _ + _) (by omega) (by omega), ct (by omega), cf (by omega), hb, ct rfl, hE, ct (by omega), w64_id (n := r.xNext + _) (by omega) (by omega), mx_max, ct (by omega), hh]
    split
    · rw [htell]; exact core _ true hw1
    · rw [htell]; exact core _ true hw2
  · rw [(hc _).2 ok, cnf (by omega), (hw _).2 ok, ct rfl, hh]
end
end Go.Proofs.Ytilmdmjhdidoiaa.M
