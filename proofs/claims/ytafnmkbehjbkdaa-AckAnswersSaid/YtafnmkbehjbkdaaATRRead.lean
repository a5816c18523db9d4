/- What is read, and what stays right. -/
import Derived.Test.YtafnmkbehjbkdaaATRTell
import Derived.Test.YtafnmkbehjbkdaaATSeq
set_option linter.unusedVariables false
set_option linter.unusedSimpArgs false
namespace Go.Proofs.Ytafnmkbehjbkdaa.M
open Go Go.RowKit
noncomputable section
theorem PiecesOk.mono {lm lm' fin : Int} (h : lm ≤ lm') : ∀ {ps : List SPiece} {a : Int}, PiecesOk lm fin a ps → PiecesOk lm' fin a ps
 | [], _, _ => trivial
 | p :: ps, a, g => by
  unfold PiecesOk at g ⊢
  exact ⟨g.1, g.2.1, by have := g.2.2.1; omega, g.2.2.2.1, PiecesOk.mono h g.2.2.2.2⟩
def readN (r : SRecv) (m : Int) : Nat := (max 0 (min m (r.xUnread.length : Int))).toNat
def readR (r : SRecv) (m : Int) : SRecv := { r with xUnread := r.xUnread.drop (readN r m) }
theorem room_le {r : SRecv} (h : Base r) : 0 ≤ room r ∧ room r ≤ r.xCap - r.xUnread.length ∧ room r ≤ 65535 * 16384 := by
 obtain ⟨h1, h2, h3, h4, h5, h6, h7, h8⟩ := h
 exact win_le ⟨h5, h6⟩ (by omega)
theorem RecvOk.tell {r : SRecv} (h : RecvOk r) : RecvOk (tellE r) := by
 obtain ⟨hb, h1, h2, h3, h4, h5, h6, h7, h8⟩ := h
 have hw := room_le hb
 refine ⟨hb, ?_, ?_, h3, h4, h5, h6, h7, h8⟩
 ·show 0 ≤ max r.xEdge (r.xNext + room r)
  omega
 ·show max r.xEdge (r.xNext + room r) ≤ r.xNext - r.xUnread.length + r.xCap
  obtain ⟨b1, b2, b3, b4, b5, b6, b7, b8⟩ := hb
  omega
theorem RecvOk.read {r : SRecv} (h : RecvOk r) (m : Int) : RecvOk (readR r m) := by
 obtain ⟨hb, h1, h2, h3, h4, h5, h6, h7, h8⟩ := h
 obtain ⟨b1, b2, b3, b4, b5, b6, b7, b8⟩ := hb
 have hl : (r.xUnread.drop (readN r m)).length ≤ r.xUnread.length := by rw [List.length_drop]; omega
 have hlim : lim r ≤ lim (readR r m) := by
  show min _ _ ≤ min (r.xNext - ((r.xUnread.drop (readN r m)).length : Int) + r.xCap) _
  omega
 refine ⟨⟨b1, b2, b3, b4, b5, b6, ?_, ?_⟩, h1, ?_, h3, h4, h5, ⟨h6.1.mono hlim, h6.2⟩, h7, h8⟩
 ·show ((r.xUnread.drop (readN r m)).length : Int) ≤ r.xCap
  omega
 ·show ((r.xUnread.drop (readN r m)).length : Int) ≤ r.xNext
  omega
 ·show r.xEdge ≤ r.xNext - ((r.xUnread.drop (readN r m)).length : Int) + r.xCap
  omega
theorem Fits.read {n : Nat} {r : SRecv} (h : Fits n r) (m : Int) : Fits n (readR r m) := by
 obtain ⟨z1, z2, z3, z4, z5⟩ := h
 exact ⟨z1, z2, z3, by show (r.xUnread.drop (readN r m)).length ≤ _; rw [List.length_drop]; omega, z5⟩
theorem Fits.tell {n : Nat} {r : SRecv} (h : Fits n r) : Fits n (tellE r) := h
def noSeg : SSegment := SSegment.mk 0 0 0 0 0 0 0 0 0 false false 0 0 [] []
section
variable {R : Type} {F : Nat}
theorem Check_F (h : 5 ≤ F) (r : SRecv) (k : Int → Option R) (hz : Fits (F - 5) r) : (RecvOk r → G10 capB F r k = k 0) ∧ (¬ RecvOk r → G10 capB F r k = k 230) := by
 obtain ⟨n, rfl⟩ : ∃ n, F = n + 5 := ⟨F - 5, by omega⟩
 exact Check_k n r k hz
theorem copied_F (h : 2 ≤ F) (r : SRecv) (k : SRecv → Option R) (hz : Fits (F - 2) r) : G11 capB F r k = k r := by
 obtain ⟨n, rfl⟩ : ∃ n, F = n + 2 := ⟨F - 2, by omega⟩
 exact copied_k n r k hz
theorem tell_F (h : 2 ≤ F) (r : SRecv) (bs : List SBlock) (k : SRecv → SSegment → Option R) (ok : RecvOk r) (hz : Fits (F - 2) r) : G14 capB F r bs k = k (tellE r) (tellS r bs) := by
 obtain ⟨n, rfl⟩ : ∃ n, F = n + 2 := ⟨F - 2, by omega⟩
 have hb := ok.1
 obtain ⟨z1, z2, z3, z4, z5⟩ := hz
 exact tell_k n r bs k hb (by omega) (by omega) ⟨ok.2.1, by have := ok.2.2.1; obtain ⟨q1, q2, q3, q4, q5, q6, q7, q8⟩ := hb; omega⟩
theorem Unwrap_F (h : 2 ≤ F) (a s : Int) (k : Int → Option R) (a0 : -9223372036854775808 ≤ a) (a1 : a ≤ 9223372036854775807) : G12 capB F a s k = k (unwrapO a s) := by
 obtain ⟨n, rfl⟩ : ∃ n, F = n + 2 := ⟨F - 2, by omega⟩
 exact Unwrap_k capB n a s k a0 a1
theorem Diff_F (h : 1 ≤ F) (a b : Int) (k : Int → Option R) : G13 capB F a b k = k (sdiff a b) := by
 obtain ⟨n, rfl⟩ : ∃ n, F = n + 1 := ⟨F - 1, by omega⟩
 exact Diff_k capB n a b k
theorem Clone_F (h : 1 ≤ F) (l : List Int) (k : List Int → Option R) (hl : l.length ≤ 140737488355328) : G28 capB F l k = k l := by
 obtain ⟨n, rfl⟩ : ∃ n, F = n + 1 := ⟨F - 1, by omega⟩
 simp only [G28]; rw [cap_ok (by omega)]
end
end
end Go.Proofs.Ytafnmkbehjbkdaa.M
