/- What a receiver tells. -/
import Derived.Test.YtafnmkbehjbkdaaATRCheck
set_option linter.unusedVariables false
set_option linter.unusedSimpArgs false
namespace Go.Proofs.Ytafnmkbehjbkdaa.M
open Go Go.RowKit
noncomputable section
section
variable {R : Type}
theorem copied_l (n : Nat) (r : SRecv) (u : List Int) (fs : List SSpan) (hs : Small r.xLate) (hl : r.xLate.length * 32 ≤ 140737488351232) : ∀ (rest : List SPiece) (m i : Nat) (ke : List SPiece → Option R), r.xLate.drop i = rest → rest.length < m → i ≤ r.xLate.length →
  l11_10 capB (n + 1) m r u fs (r.xLate.length : Int) (i : Int) (r.xLate.take i) ke = ke r.xLate
 | [], m, i, ke, hd, hm, hi => by
  obtain ⟨m, rfl⟩ : ∃ m', m = m' + 1 := ⟨m - 1, by omega⟩
  have := drop_nil hd
  simp only [l11_10, G11, s11_1, s11_3, s11_5, s11_11, s11_13, s11_15, s11_16, s11_19, s11_21]
  rw [cf (by omega), List.take_of_length_le this]
 | p :: rest, m, i, ke, hd, hm, hi => by
  obtain ⟨m, rfl⟩ : ∃ m', m = m' + 1 := ⟨m - 1, by omega⟩
  obtain ⟨h1, h2⟩ := drop_lt hd
  simp only [List.length_cons] at hm
  have hp : p.xData.length ≤ 140737488351232 := hs p (List.mem_of_mem_drop (by rw [hd]; exact List.mem_cons_self))
  have htk : r.xLate.take (i + 1) = r.xLate.take i ++ [p] := by
   have := List.drop_eq_getElem_cons h1
   rw [hd] at this
   simp only [List.cons.injEq] at this
   rw [this.1, List.take_succ_eq_append_getElem h1]
  simp only [l11_10, G11, s11_1, s11_3, s11_5, s11_11, s11_13, s11_15, s11_16, s11_19, s11_21, G28]
  rw [ct (show (i : Int) < _ by omega), ct (show (0 : Int) ≤ i by omega), ct (show (i : Int) < _ by omega), rd_at hd, cap_ok (by omega), cap_ok (by rw [List.length_take]; simp only [List.length_cons, List.length_nil]; omega), succ_w (by omega)]
  have e : r.xLate.take i ++ [SPiece.mk p.xFrom p.xData] = r.xLate.take (i + 1) := htk.symm
  rw [e]
  exact copied_l n r u fs hs hl rest m (i + 1) ke h2 (by omega) (by omega)
theorem copied_k (n : Nat) (r : SRecv) (k : SRecv → Option R) (hz : Fits n r) : G11 capB (n + 2) r k = k r := by
 obtain ⟨z1, z2, z3, z4, z5⟩ := hz
 have h : ∀ u fs ke, l11_10 capB (n + 1) (n + 1) r u fs (r.xLate.length : Int) 0 [] ke = ke r.xLate := fun u fs ke => copied_l (R := R) n r u fs z1 z2 r.xLate (n + 1) 0 ke rfl (by omega) (by omega)
 simp only [G11, s11_1, s11_3, s11_5, s11_11, s11_13, s11_15, s11_16, s11_19, s11_21, G27]
 rw [cap_ok (by simp only [List.length_nil]; omega), cap_ok (by omega), h]
 rfl
def sackL (r : SRecv) (m : Int) : List SBlock → List SSpan → List SBlock
 | acc, [] => acc
 | acc, f :: fs => sackL r m (if r.xSacks = true ∧ (acc.length : Int) < m then acc ++ [⟨wr .u32 (r.xIrs + wr .u32 f.xFrom), wr .u32 (r.xIrs + wr .u32 f.xTo)⟩] else acc) fs
def room (r : SRecv) : Int := win (r.xCap - r.xUnread.length) r.xShift
def tellE (r : SRecv) : SRecv := { r with xEdge := max r.xEdge (r.xNext + room r) }
def tellS (r : SRecv) (bs : List SBlock) : SSegment := SSegment.mk 0 0 r.xOwn (wr .u32 (r.xIrs + wr .u32 (if r.xDone = true then r.xNext + 1 else r.xNext))) 16 (room r / 2 ^ r.xShift.toNat) 0 (-1) (-1) false r.xStamps 0 (if r.xStamps = true then r.xRecent else 0)
 (sackL r (if r.xStamps = true then 3 else 4) bs r.xFirst) []
theorem tell_l (n : Nat) (r : SRecv) (lm : Int) (sg : SSegment) (h4 : lm ≤ 4) (hl : r.xFirst.length ≤ 4611686018427387904) : ∀ (rest : List SSpan) (m i : Nat) (acc : List SBlock) (ke : List SBlock → Option R), r.xFirst.drop i = rest → rest.length < m → i ≤ r.xFirst.length →
  l14_10 capB (n + 1) m r lm sg (r.xFirst.length : Int) (i : Int) acc ke = ke (sackL r lm acc rest)
 | [], m, i, acc, ke, hd, hm, hi => by
  obtain ⟨m, rfl⟩ : ∃ m', m = m' + 1 := ⟨m - 1, by omega⟩
  have := drop_nil hd
  simp only [l14_10, s14_5]
  rw [cf (by omega)]; rfl
 | f :: rest, m, i, acc, ke, hd, hm, hi => by
  obtain ⟨m, rfl⟩ : ∃ m', m = m' + 1 := ⟨m - 1, by omega⟩
  obtain ⟨h1, h2⟩ := drop_lt hd
  simp only [List.length_cons] at hm
  have ih := fun acc => tell_l n r lm sg h4 hl rest m (i + 1) acc ke h2 (by omega) (by omega)
  simp only [l14_10, s14_5, G18, sackL]
  rw [ct (show (i : Int) < _ by omega), ct (show (0 : Int) ≤ i by omega), ct (show (i : Int) < _ by omega), rd_at hd, succ_w (by omega)]
  cases hs : r.xSacks with
  | true =>
   rw [cond_true]
   by_cases c : (acc.length : Int) < lm
   ·rw [ct c, cap_ok (by simp only [List.length_cons, List.length_nil]; omega), if_pos ⟨rfl, c⟩]; exact ih _
   ·rw [cf c, if_neg (fun h => c h.2)]; exact ih _
  | false =>
   rw [cond_false, if_neg (fun h => by cases h.1)]; exact ih _
theorem tell_k (n : Nat) (r : SRecv) (bs : List SBlock) (k : SRecv → SSegment → Option R) (hb : Base r) (hf : r.xFirst.length < n) (hl : r.xFirst.length ≤ 4611686018427387904) (he : 0 ≤ r.xEdge ∧ r.xEdge ≤ 1125899906842624) : G14 capB (n + 2) r bs k = k (tellE r) (tellS r bs) := by
 have hb' := hb
 obtain ⟨h1, h2, h3, h4, h5, h6, h7, h8⟩ := hb'
 have h : ∀ lm sg acc ke, lm ≤ 4 → l14_10 capB (n + 1) (n + 1) r lm sg (r.xFirst.length : Int) 0 acc ke = ke (sackL r lm acc r.xFirst) := fun lm sg acc ke h4 => tell_l (R := R) n r lm sg h4 hl r.xFirst (n + 1) 0 acc ke rfl (by omega) (by omega)
 have hw := fun k => window_k (R := R) n r k ⟨h5, h6⟩ h7 h4
 obtain ⟨w1, w2, w3⟩ := win_le (r := r.xCap - r.xUnread.length) (s := r.xShift) ⟨h5, h6⟩ (by omega)
 have hsh : shr .i64 (room r) r.xShift = room r / 2 ^ r.xShift.toNat := by
  obtain ⟨t, ht⟩ := Int.eq_ofNat_of_zero_le h5
  rw [ht, shr_t _ t (by omega), Int.toNat_natCast]
 have hE : mx r.xEdge (wr .i64 (r.xNext + room r)) = max r.xEdge (r.xNext + room r) := by
  rw [w64_id (by unfold room; omega) (by unfold room; omega), mx_max]
 have hN : wr .i64 (r.xNext + 1) = r.xNext + 1 := w64_id (by omega) (by omega)
 simp only [G14, s14_1, s14_3, s14_5, s14_11, s14_13, s14_15, s14_16, s14_19, s14_21, G18, hw]
 rw [show win (r.xCap - (r.xUnread.length : Int)) r.xShift = room r from rfl, hsh, hE, hN]
 have e3 : wr .i64 (4 - 1) = 3 := by rw [w64_id (by omega) (by omega)]; omega
 rw [e3]
 cases hd : r.xDone <;> cases hst : r.xStamps <;> simp only [cond_true, cond_false] <;> rw [cf (by omega), h _ _ _ _ (by omega)] <;> simp only [tellE, tellS, hd, hst, if_true, Bool.false_eq_true, if_false]
end
end
end Go.Proofs.Ytafnmkbehjbkdaa.M
