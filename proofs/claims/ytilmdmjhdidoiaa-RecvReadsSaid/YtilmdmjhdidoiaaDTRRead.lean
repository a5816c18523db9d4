/- What is read, and what stays right. -/
import Derived.Test.YtilmdmjhdidoiaaDTRTell
import Derived.Test.YtilmdmjhdidoiaaDTSeq
set_option linter.unusedVariables false
set_option linter.unusedSimpArgs false
namespace Go.Proofs.Ytilmdmjhdidoiaa.M
open Go Go.RowKit
noncomputable section
/-! ### what stays right -/
theorem PiecesOk.mono {lm lm' fin : Int} (h : lm ≤ lm') : ∀ {ps : List SPiece} {a : Int}, PiecesOk lm fin a ps → PiecesOk lm' fin a ps
 | [], _, _ => trivial
 | p :: ps, a, g => by
  unfold PiecesOk at g ⊢
  exact ⟨g.1, g.2.1, by have := g.2.2.1; omega, g.2.2.2.1, PiecesOk.mono h g.2.2.2.2⟩
def readN (r : SRecv) (m : Int) : Nat := (max 0 (min m (r.xUnread.length : Int))).toNat
def readR (r : SRecv) (m : Int) : SRecv := { r with xUnread := r.xUnread.drop (readN r m) }
theorem readN_le (r : SRecv) (m : Int) : readN r m ≤ r.xUnread.length := by unfold readN; omega
theorem room_le {r : SRecv} (h : Base r) : 0 ≤ room r ∧ room r ≤ r.xCap - r.xUnread.length ∧ room r ≤ 65535 * 16384 := by
 obtain ⟨h1, h2, h3, h4, h5, h6, h7, h8⟩ := h
 exact win_le ⟨h5, h6⟩ (by omega)
theorem RecvOk.tell {r : SRecv} (h : RecvOk r) : RecvOk (tellE r) := by
 obtain ⟨hb, h1, h2, h3, h4, h5, h6, h7, h8⟩ := h
 have hw := room_le hb
 refine ⟨hb, ?_, ?_, h3, h4, h5, h6, h7, h8⟩
 ·show 0 ≤ max r.xEdge (r.xNext + room r)
  omega
 ·show max r.xEdge (r.xNext + room r) ≤ r.xNext - r.xUnread.length + r.xCap
  obtain ⟨b1, b2, b3, b4, b5, b6, b7, b8⟩ := hb
  omega
theorem RecvOk.read {r : SRecv} (h : RecvOk r) (m : Int) : RecvOk (readR r m) := by
 obtain ⟨hb, h1, h2, h3, h4, h5, h6, h7, h8⟩ := h
 obtain ⟨b1, b2, b3, b4, b5, b6, b7, b8⟩ := hb
 have hl : (r.xUnread.drop (readN r m)).length ≤ r.xUnread.length := by rw [List.length_drop]; omega
 have hlim : lim r ≤ lim (readR r m) := by
  show min _ _ ≤ min (r.xNext - ((r.xUnread.drop (readN r m)).length : Int) + r.xCap) _
  omega
 refine ⟨⟨b1, b2, b3, b4, b5, b6, ?_, ?_⟩, h1, ?_, h3, h4, h5, ⟨h6.1.mono hlim, h6.2⟩, h7, h8⟩
 ·show ((r.xUnread.drop (readN r m)).length : Int) ≤ r.xCap
  omega
 ·show ((r.xUnread.drop (readN r m)).length : Int) ≤ r.xNext
  omega
 ·show r.xEdge ≤ r.xNext - ((r.xUnread.drop (readN r m)).length : Int) + r.xCap
  omega
theorem Fits.read {n : Nat} {r : SRecv} (h : Fits n r) (m : Int) : Fits n (readR r m) := by
 obtain ⟨z1, z2, z3, z4, z5⟩ := h
 exact ⟨z1, z2, z3, by show (r.xUnread.drop (readN r m)).length ≤ _; rw [List.length_drop]; omega, z5⟩
theorem Fits.tell {n : Nat} {r : SRecv} (h : Fits n r) : Fits n (tellE r) := h
def noSeg : SSegment := SSegment.mk 0 0 0 0 0 0 0 0 0 false false 0 0 [] []
section
variable {R : Type} {F : Nat}
/-! ### with fuel enough -/
theorem Check_F (h : 5 ≤ F) (r : SRecv) (k : Int → Option R) (hz : Fits (F - 5) r) : (RecvOk r → G10 capB F r k = k 0) ∧ (¬ RecvOk r → G10 capB F r k = k 230) := by
 obtain ⟨n, rfl⟩ : ∃ n, F = n + 5 := ⟨F - 5, by omega⟩
 exact Check_k n r k hz
theorem copied_F (h : 2 ≤ F) (r : SRecv) (k : SRecv → Option R) (hz : Fits (F - 2) r) : G29 capB F r k = k r := by
 obtain ⟨n, rfl⟩ : ∃ n, F = n + 2 := ⟨F - 2, by omega⟩
 exact copied_k n r k hz
theorem window_F (h : 1 ≤ F) (r : SRecv) (k : Int → Option R) (hb : Base r) : G49 capB F r k = k (room r) := by
 obtain ⟨n, rfl⟩ : ∃ n, F = n + 1 := ⟨F - 1, by omega⟩
 obtain ⟨h1, h2, h3, h4, h5, h6, h7, h8⟩ := hb
 exact window_k n r k ⟨h5, h6⟩ h7 h4
theorem tell_F (h : 2 ≤ F) (r : SRecv) (bs : List SBlock) (k : SRecv → SSegment → Option R) (ok : RecvOk r) (hz : Fits (F - 2) r) : G32 capB F r bs k = k (tellE r) (tellS r bs) := by
 obtain ⟨n, rfl⟩ : ∃ n, F = n + 2 := ⟨F - 2, by omega⟩
 have hb := ok.1
 obtain ⟨z1, z2, z3, z4, z5⟩ := hz
 exact tell_k n r bs k hb (by omega) (by omega) ⟨ok.2.1, by have := ok.2.2.1; obtain ⟨q1, q2, q3, q4, q5, q6, q7, q8⟩ := hb; omega⟩
theorem Unwrap_F (h : 2 ≤ F) (a s : Int) (k : Int → Option R) (a0 : -9223372036854775808 ≤ a) (a1 : a ≤ 9223372036854775807) : G30 capB F a s k = k (unwrapO a s) := by
 obtain ⟨n, rfl⟩ : ∃ n, F = n + 2 := ⟨F - 2, by omega⟩
 exact Unwrap_k capB n a s k a0 a1
theorem Diff_F (h : 1 ≤ F) (a b : Int) (k : Int → Option R) : G31 capB F a b k = k (sdiff a b) := by
 obtain ⟨n, rfl⟩ : ∃ n, F = n + 1 := ⟨F - 1, by omega⟩
 exact Diff_k capB n a b k
theorem Clamp_F (h : 1 ≤ F) (x lo hi : Int) (k : Int → Option R) : G51 capB F x lo hi k = k (max lo (min x hi)) := by
 obtain ⟨n, rfl⟩ : ∃ n, F = n + 1 := ⟨F - 1, by omega⟩
 simp only [G51]; rw [mx_max, mn_min]
theorem Clone_F (h : 1 ≤ F) (l : List Int) (k : List Int → Option R) (hl : l.length ≤ 140737488355328) : G52 capB F l k = k l := by
 obtain ⟨n, rfl⟩ : ∃ n, F = n + 1 := ⟨F - 1, by omega⟩
 simp only [G52]; rw [cap_ok (by omega)]
/-! ### read -/
theorem Read_F (h : 10 ≤ F) (r : SRecv) (m : Int) (k : SRecv → List Int → SSegment → Bool → Int → Option R) (hz : Fits (F - 9) r) :
  (RecvOk r → G20 capB F r m k = if r.xNext + room (readR r m) - r.xEdge < max (r.xCap / 2) 1 then k (readR r m) (r.xUnread.take (readN r m)) noSeg false 0 else k (tellE (readR r m)) (r.xUnread.take (readN r m)) (tellS (readR r m) []) true 0) ∧
  (¬ RecvOk r → G20 capB F r m k = k noS [] noSeg false 230) := by
 obtain ⟨n, rfl⟩ : ∃ n, F = n + 1 := ⟨F - 1, by omega⟩
 have hz1 : ∀ q, n - 8 ≤ q → Fits q r := fun q hq => ⟨hz.1, hz.2.1, hz.2.2.1, hz.2.2.2.1, by have := hz.2.2.2.2; omega⟩
 have hz0 := hz
 obtain ⟨z1, z2, z3, z4, z5⟩ := hz0
 have hc := fun k => Check_F (R := R) (F := n) (by omega) r k (hz1 _ (by omega))
 simp only [G20, s20_1, s20_4, s20_7]
 constructor
 ·intro ok
  have hr := ok.read m
  have hl := readN_le r m
  have hN : max (0 : Int) (min m (r.xUnread.length : Int)) = ((readN r m : Nat) : Int) := by unfold readN; omega
  rw [(hc _).1 ok, cnt rfl, copied_F (by omega) r _ (hz1 _ (by omega)), Clamp_F (by omega), hN, ct (by omega), ct (by omega), Int.toNat_natCast, Clone_F (by omega) _ _ (by rw [List.length_take]; omega), ct (by omega), ct (by omega)]
  have hd : List.take (r.xUnread.length - readN r m) (r.xUnread.drop (readN r m)) = r.xUnread.drop (readN r m) := List.take_of_length_le (by rw [List.length_drop]; omega)
  rw [hd]
  have hwd : ∀ k : Int → Option R, G49 capB n (SRecv.mk r.xNext (r.xUnread.drop (readN r m)) r.xLate r.xCap r.xShift r.xEdge r.xRecent r.xStamps r.xSacks r.xFin r.xDone r.xFirst r.xIrs r.xOwn r.xStamp) k = k (room (readR r m)) := fun k => window_F (by omega) (readR r m) k hr.1
  have htl : ∀ k : SRecv → SSegment → Option R, G32 capB n (SRecv.mk r.xNext (r.xUnread.drop (readN r m)) r.xLate r.xCap r.xShift r.xEdge r.xRecent r.xStamps r.xSacks r.xFin r.xDone r.xFirst r.xIrs r.xOwn r.xStamp) [] k = k (tellE (readR r m)) (tellS (readR r m) []) := fun k => tell_F (by omega) (readR r m) [] k hr ((hz1 _ (by omega)).read m)
  rw [hwd, htl, mx_max]
  have hw := room_le hr.1
  obtain ⟨⟨b1, b2, b3, b4, b5, b6, b7, b8⟩, e1, e2, _⟩ := ok
  have hcp : (readR r m).xCap = r.xCap := rfl
  rw [hcp] at hw
  rw [w64_id (n := r.xNext + _) (by omega) (by omega), w64_id (by omega) (by omega), Int.tdiv_eq_ediv_of_nonneg (by omega), w64_id (n := r.xCap / 2) (by omega) (by omega), cite]
  rfl
 ·intro no
  rw [(hc _).2 no, cnf (by omega)]; rfl
end
end
end Go.Proofs.Ytilmdmjhdidoiaa.M
