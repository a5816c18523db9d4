/- When a receiver is right. -/
import Derived.Test.YtafnmkbehjbkdaaATRecv
set_option linter.unusedVariables false
set_option linter.unusedSimpArgs false
namespace Go.Proofs.Ytafnmkbehjbkdaa.M
open Go Go.RowKit
noncomputable section
instance : DecidableEq SSpan := fun a b => if h : a.xFrom = b.xFrom ∧ a.xTo = b.xTo then isTrue (by cases a; cases b; simp_all) else isFalse (by rintro rfl; exact h ⟨rfl, rfl⟩)
theorem span_eq (a b : SSpan) : (decide (a.xFrom = b.xFrom) && (decide (a.xTo = b.xTo) && true)) = decide (a = b) := by
 by_cases h : a = b
 ·subst h; simp
 ·rw [decide_eq_false h]
  cases a; cases b
  simp only [SSpan.mk.injEq] at h
  simp only [Bool.and_true, Bool.and_eq_false_imp, decide_eq_true_eq, decide_eq_false_iff_not]
  exact fun h1 h2 => h ⟨h1, h2⟩
def sp (p : SPiece) : SSpan := ⟨p.xFrom, wr .i64 (p.xFrom + (p.xData.length : Int))⟩
section
variable {R : Type}
theorem coll_l (n : Nat) (r : SRecv) (hl : r.xLate.length * 16 ≤ 140737488355328) : ∀ (rest : List SPiece) (m i : Nat) (acc : List SSpan) (ke : List SSpan → Option R), r.xLate.drop i = rest → rest.length < m → i ≤ r.xLate.length → acc.length ≤ i →
  l1024_38 capB (n + 1) m r (r.xLate.length : Int) (i : Int) acc ke = ke (acc ++ rest.map sp)
 | [], m, i, acc, ke, hd, hm, hi, ha => by
  obtain ⟨m, rfl⟩ : ∃ m', m = m' + 1 := ⟨m - 1, by omega⟩
  have := drop_nil hd
  simp only [l1024_38, G1024, s1024_1, s1024_3, s1024_7, s1024_9, s1024_12, s1024_14, s1024_16, s1024_22, s1024_23, s1024_26, s1024_28, s1024_30, s1024_31, s1024_34, s1024_36, s1024_39, s1024_41, s1024_43, s1024_46, s1024_48, s1024_50, s1024_51, s1024_54, s1024_56]
  rw [cf (by omega)]; simp
 | p :: rest, m, i, acc, ke, hd, hm, hi, ha => by
  obtain ⟨m, rfl⟩ : ∃ m', m = m' + 1 := ⟨m - 1, by omega⟩
  obtain ⟨h1, h2⟩ := drop_lt hd
  simp only [List.length_cons] at hm
  simp only [l1024_38, G1024, s1024_1, s1024_3, s1024_7, s1024_9, s1024_12, s1024_14, s1024_16, s1024_22, s1024_23, s1024_26, s1024_28, s1024_30, s1024_31, s1024_34, s1024_36, s1024_39, s1024_41, s1024_43, s1024_46, s1024_48, s1024_50, s1024_51, s1024_54, s1024_56, G42]
  rw [ct (show (i : Int) < _ by omega), ct (show (0 : Int) ≤ i by omega), ct (show (i : Int) < _ by omega), rd_at hd, cap_ok (by simp only [List.length_cons, List.length_nil]; omega), succ_w (by omega),
   coll_l n r hl rest m (i + 1) _ ke h2 (by omega) (by omega) (by simp; omega)]
  simp [sp]
theorem Collect_k (n : Nat) (r : SRecv) (k : List SSpan → SRecv → Option R) (hn : r.xLate.length < n + 1) (hl : r.xLate.length * 16 ≤ 140737488355328) : G1023 capB (n + 3) r k = k (r.xLate.map sp) r := by
 have h := fun ke => coll_l (R := R) n r hl r.xLate (n + 1) 0 [] ke rfl hn (by omega) (by simp)
 simp only [G1023, G1024, s1024_1, s1024_3, s1024_7, s1024_9, s1024_12, s1024_14, s1024_16, s1024_22, s1024_23, s1024_26, s1024_28, s1024_30, s1024_31, s1024_34, s1024_36, s1024_39, s1024_41, s1024_43, s1024_46, s1024_48, s1024_50, s1024_51, s1024_54, s1024_56]
 rw [show ((0 : Int)) = ((0 : Nat) : Int) from rfl, h]; rfl
theorem idx_l (n : Nat) (xs : List SSpan) (x : SSpan) (hl : xs.length ≤ 4611686018427387904) (A : Option R) (kr : Int → Option R) (hk : ∀ j : Int, 0 ≤ j → kr j = A) : ∀ (rest : List SSpan) (m i : Nat) (ke : Option R), xs.drop i = rest → rest.length < m → i ≤ xs.length →
  l50_11 capB n m xs x (xs.length : Int) (i : Int) kr ke = if x ∈ rest then A else ke
 | [], m, i, ke, hd, hm, hi => by
  obtain ⟨m, rfl⟩ : ∃ m', m = m' + 1 := ⟨m - 1, by omega⟩
  have := drop_nil hd
  simp only [l50_11, G50, s50_1, s50_3, s50_5, s50_12, s50_14, s50_16, s50_17, s50_20, s50_22]
  rw [cf (by omega), if_neg (by simp)]
 | y :: rest, m, i, ke, hd, hm, hi => by
  obtain ⟨m, rfl⟩ : ∃ m', m = m' + 1 := ⟨m - 1, by omega⟩
  obtain ⟨h1, h2⟩ := drop_lt hd
  simp only [List.length_cons] at hm
  simp only [l50_11, G50, s50_1, s50_3, s50_5, s50_12, s50_14, s50_16, s50_17, s50_20, s50_22]
  rw [ct (show (i : Int) < _ by omega), ct (show (0 : Int) ≤ i by omega), ct (show (i : Int) < _ by omega), rd_at hd, span_eq]
  by_cases e : x = y
  ·rw [ct e, hk _ (by omega), if_pos (by simp [e])]
  ·rw [cf e, succ_w (by omega), idx_l n xs x hl A kr hk rest m (i + 1) ke h2 (by omega) (by omega)]
   simp [e]
theorem Contains_k (n : Nat) (xs : List SSpan) (x : SSpan) (k : Bool → Option R) (hn : xs.length < n) (hl : xs.length ≤ 4611686018427387904) : G38 capB (n + 2) xs x k = k (decide (x ∈ xs)) := by
 have h : ∀ ke, l50_11 capB n n xs x (xs.length : Int) 0 (fun j => k (decide (0 ≤ j))) ke = if x ∈ xs then k true else ke := fun ke => idx_l (R := R) n xs x hl (k true) (fun j => k (decide (0 ≤ j))) (fun j hj => by rw [decide_eq_true hj]) xs n 0 ke rfl hn (by omega)
 simp only [G38, G50, s50_1, s50_3, s50_5, s50_12, s50_14, s50_16, s50_17, s50_20, s50_22]
 rw [h]
 by_cases e : x ∈ xs
 ·rw [if_pos e, decide_eq_true e]
 ·rw [if_neg e, decide_eq_false e, decide_eq_false (by omega)]
def Base (r : SRecv) : Prop := 0 ≤ r.xNext ∧ r.xNext ≤ 562949953421312 ∧ 1 ≤ r.xCap ∧ r.xCap ≤ 1073741824 ∧ 0 ≤ r.xShift ∧ r.xShift ≤ 14 ∧ (r.xUnread.length : Int) ≤ r.xCap ∧ (r.xUnread.length : Int) ≤ r.xNext
def lim (r : SRecv) : Int := min (r.xNext - r.xUnread.length + r.xCap) 562949953421312
theorem reach_k (n : Nat) (r : SRecv) (k : Int → Option R) (h : Base r) : G25 capB (n + 1) r k = k (r.xNext - r.xUnread.length + r.xCap) := by
 obtain ⟨h1, h2, h3, h4, h5, h6, h7, h8⟩ := h
 simp only [G25]
 rw [w64_id (n := r.xNext - _) (by omega) (by omega), w64_id (by omega) (by omega)]
theorem limit_k (n : Nat) (r : SRecv) (k : Int → Option R) (h : Base r) : G31 capB (n + 2) r k = k (lim r) := by
 simp only [G31]
 rw [reach_k n r _ h, mn_min]; rfl
theorem lim_rng {r : SRecv} (h : Base r) : 0 ≤ lim r ∧ lim r ≤ 562949953421312 := by
 obtain ⟨h1, h2, h3, h4, h5, h6, h7, h8⟩ := h
 unfold lim; omega
def PiecesOk (lm fin : Int) : Int → List SPiece → Prop
 | _, [] => True
 | a, p :: ps => p.xData.length ≠ 0 ∧ a < p.xFrom ∧ p.xFrom + p.xData.length ≤ lm ∧ (0 ≤ fin → p.xFrom + p.xData.length ≤ fin) ∧ PiecesOk lm fin (p.xFrom + p.xData.length) ps
def Small (xs : List SPiece) : Prop := ∀ p ∈ xs, p.xData.length ≤ 140737488351232
theorem pieces_l (n : Nat) (r : SRecv) (hb : Base r) (hf : -1 ≤ r.xFin ∧ r.xFin ≤ 562949953421312) (hl : r.xLate.length ≤ 4611686018427387904) : ∀ (rest : List SPiece) (m i : Nat) (a : Int) (kr ke : Option R), r.xLate.drop i = rest → Small rest → rest.length < m → i ≤ r.xLate.length → 0 ≤ a →
  (PiecesOk (lim r) r.xFin a rest → l26_10 capB (n + 2) m r (r.xLate.length : Int) a (i : Int) kr ke = ke) ∧ (¬ PiecesOk (lim r) r.xFin a rest → l26_10 capB (n + 2) m r (r.xLate.length : Int) a (i : Int) kr ke = kr)
 | [], m, i, a, kr, ke, hd, hsm, hm, hi, h0 => by
  obtain ⟨m, rfl⟩ : ∃ m', m = m' + 1 := ⟨m - 1, by omega⟩
  have := drop_nil hd
  simp only [l26_10, s26_5]
  rw [cf (by omega)]
  exact ⟨fun _ => rfl, fun h => absurd trivial h⟩
 | p :: rest, m, i, a, kr, ke, hd, hsm, hm, hi, h0 => by
  obtain ⟨m, rfl⟩ : ∃ m', m = m' + 1 := ⟨m - 1, by omega⟩
  obtain ⟨h1, h2⟩ := drop_lt hd
  simp only [List.length_cons] at hm
  have hps : p.xData.length ≤ 140737488351232 := hsm p List.mem_cons_self
  have hlm := lim_rng hb
  have ih := fun a => pieces_l n r hb hf hl rest m (i + 1) a kr ke h2 (fun q hq => hsm q (List.mem_cons_of_mem _ hq)) (by omega) (by omega)
  simp only [l26_10, s26_5, PiecesOk]
  rw [ct (show (i : Int) < _ by omega), ct (show (0 : Int) ≤ i by omega), ct (show (i : Int) < _ by omega), rd_at hd, limit_k n r _ hb, succ_w (by omega), w64_id (n := lim r - _) (by omega) (by omega)]
  by_cases c1 : p.xData.length = 0
  ·rw [ct (by omega)]; exact ⟨fun h => absurd c1 h.1, fun _ => rfl⟩
  rw [cf (by omega)]
  by_cases c2 : p.xFrom ≤ a
  ·rw [ct c2]; exact ⟨fun h => absurd h.2.1 (by omega), fun _ => rfl⟩
  rw [cf c2]
  by_cases c3 : lim r - (p.xData.length : Int) < p.xFrom
  ·rw [ct c3]; exact ⟨fun h => absurd h.2.2.1 (by omega), fun _ => rfl⟩
  rw [cf c3, w64_id (n := p.xFrom + _) (by omega) (by omega)]
  by_cases c4 : 0 ≤ r.xFin
  ·rw [ct c4, w64_id (n := r.xFin - _) (by omega) (by omega)]
   by_cases c5 : r.xFin - (p.xData.length : Int) < p.xFrom
   ·rw [ct c5]; exact ⟨fun h => absurd (h.2.2.2.1 c4) (by omega), fun _ => rfl⟩
   ·rw [cf c5]
    exact ⟨fun h => (ih _ (by omega)).1 h.2.2.2.2, fun h => (ih _ (by omega)).2 fun hr => h ⟨c1, by omega, by omega, fun _ => by omega, hr⟩⟩
  ·rw [cf c4]
   exact ⟨fun h => (ih _ (by omega)).1 h.2.2.2.2, fun h => (ih _ (by omega)).2 fun hr => h ⟨c1, by omega, by omega, fun h => absurd h c4, hr⟩⟩
def FirstsOk (L : List SSpan) : List SSpan → List SSpan → Prop
 | _, [] => True
 | pre, f :: fs => f ∈ L ∧ f ∉ pre ∧ FirstsOk L (pre ++ [f]) fs
theorem firsts_l (n : Nat) (r : SRecv) (L : List SSpan) (hL : L.length < n) (hL2 : L.length ≤ 4611686018427387904) (hl : r.xFirst.length < n) (hl2 : r.xFirst.length ≤ 4611686018427387904) : ∀ (rest : List SSpan) (m i : Nat) (kr ke : Option R), r.xFirst.drop i = rest → rest.length < m → i ≤ r.xFirst.length →
  (FirstsOk L (r.xFirst.take i) rest → l26_22 capB (n + 2) m r L (r.xFirst.length : Int) (i : Int) kr ke = ke) ∧ (¬ FirstsOk L (r.xFirst.take i) rest → l26_22 capB (n + 2) m r L (r.xFirst.length : Int) (i : Int) kr ke = kr)
 | [], m, i, kr, ke, hd, hm, hi => by
  obtain ⟨m, rfl⟩ : ∃ m', m = m' + 1 := ⟨m - 1, by omega⟩
  have := drop_nil hd
  simp only [l26_22, s26_18]
  rw [cf (by omega)]
  exact ⟨fun _ => rfl, fun h => absurd trivial h⟩
 | f :: rest, m, i, kr, ke, hd, hm, hi => by
  obtain ⟨m, rfl⟩ : ∃ m', m = m' + 1 := ⟨m - 1, by omega⟩
  obtain ⟨h1, h2⟩ := drop_lt hd
  simp only [List.length_cons] at hm
  have ih := firsts_l n r L hL hL2 hl hl2 rest m (i + 1) kr ke h2 (by omega) (by omega)
  have htk : r.xFirst.take (i + 1) = r.xFirst.take i ++ [f] := by
   have := List.drop_eq_getElem_cons h1
   rw [hd] at this
   simp only [List.cons.injEq] at this
   rw [this.1, List.take_succ_eq_append_getElem h1]
  rw [htk] at ih
  simp only [l26_22, s26_18, FirstsOk]
  rw [ct (show (i : Int) < _ by omega), ct (show (0 : Int) ≤ i by omega), ct (show (i : Int) < _ by omega), rd_at hd, Contains_k n L f _ hL hL2]
  by_cases c1 : f ∈ L
  ·rw [cnt c1, ct (show (0 : Int) ≤ i by omega), ct (show (i : Int) ≤ _ by omega), Int.toNat_natCast, Contains_k n _ f _ (by rw [List.length_take]; omega) (by rw [List.length_take]; omega)]
   by_cases c2 : f ∈ r.xFirst.take i
   ·rw [ct c2]; exact ⟨fun h => absurd c2 h.2.1, fun _ => rfl⟩
   ·rw [cf c2, succ_w (by omega)]
    exact ⟨fun h => ih.1 h.2.2, fun h => ih.2 fun hr => h ⟨c1, c2, hr⟩⟩
  ·rw [cnf c1]; exact ⟨fun h => absurd h.1 c1, fun _ => rfl⟩
theorem pieces_k (n : Nat) (r : SRecv) (k : Bool → Option R) (hb : Base r) (hf : -1 ≤ r.xFin ∧ r.xFin ≤ 562949953421312) (hs : Small r.xLate) (hl : r.xLate.length * 16 ≤ 140737488355328) (hl2 : r.xFirst.length ≤ 4611686018427387904) (hn : r.xLate.length + r.xFirst.length < n) :
  (PiecesOk (lim r) r.xFin r.xNext r.xLate ∧ FirstsOk (r.xLate.map sp) [] r.xFirst → G26 capB (n + 4) r k = k true) ∧ (¬ (PiecesOk (lim r) r.xFin r.xNext r.xLate ∧ FirstsOk (r.xLate.map sp) [] r.xFirst) → G26 capB (n + 4) r k = k false) := by
 have h1 := fun kr ke => pieces_l (R := R) (n + 1) r hb hf (by omega) r.xLate (n + 3) 0 r.xNext kr ke rfl hs (by omega) (by omega) hb.1
 have h2 := fun kr ke => firsts_l (R := R) (n + 1) r (r.xLate.map sp) (by rw [List.length_map]; omega) (by rw [List.length_map]; omega) (by omega) hl2 r.xFirst (n + 3) 0 kr ke rfl (by omega) (by omega)
 have hc := fun k => Collect_k (R := R) n r k (by omega) hl
 simp only [G26, s26_1, s26_3, s26_5, s26_11, s26_12, s26_13, s26_14, s26_16, s26_18, s26_23, s26_24, s26_25, s26_26, s26_29, s26_31, s26_33, s26_35, G30, hc]
 have e0 : ((0 : Int)) = ((0 : Nat) : Int) := rfl
 rw [e0]
 by_cases c1 : PiecesOk (lim r) r.xFin r.xNext r.xLate
 ·rw [(h1 _ _).1 c1]
  by_cases c2 : FirstsOk (r.xLate.map sp) [] r.xFirst
  ·rw [(h2 _ _).1 c2]; exact ⟨fun _ => rfl, fun h => absurd ⟨c1, c2⟩ h⟩
  ·rw [(h2 _ _).2 c2]; exact ⟨fun h => absurd h.2 c2, fun _ => rfl⟩
 ·rw [(h1 _ _).2 c1]; exact ⟨fun h => absurd h.1 c1, fun _ => rfl⟩
def RecvOk (r : SRecv) : Prop := Base r ∧ 0 ≤ r.xEdge ∧ r.xEdge ≤ r.xNext - r.xUnread.length + r.xCap ∧ -1 ≤ r.xFin ∧ r.xFin ≤ 562949953421312 ∧ (0 ≤ r.xFin → r.xNext ≤ r.xFin) ∧ (PiecesOk (lim r) r.xFin r.xNext r.xLate ∧ FirstsOk (r.xLate.map sp) [] r.xFirst) ∧
 (r.xDone = true ↔ r.xFin = r.xNext) ∧ (r.xDone = true → r.xLate.length = 0)
def Fits (n : Nat) (r : SRecv) : Prop := Small r.xLate ∧ r.xLate.length * 32 ≤ 140737488351232 ∧ r.xFirst.length * 16 ≤ 140737488351232 ∧ r.xUnread.length ≤ 140737488351232 ∧ r.xLate.length + r.xFirst.length < n
theorem Check_k (n : Nat) (r : SRecv) (k : Int → Option R) (hz : Fits n r) : (RecvOk r → G10 capB (n + 5) r k = k 0) ∧ (¬ RecvOk r → G10 capB (n + 5) r k = k 230) := by
 obtain ⟨z1, z2, z3, z4, z5⟩ := hz
 simp only [G10, s10_1, s10_3, s10_5, s10_8, s10_10, RecvOk, Base]
 have no : ∀ {p q : Prop}, ¬ p → (p → q) ∧ (¬ p → k 230 = k 230) := fun h => ⟨fun hp => absurd hp h, fun _ => rfl⟩
 by_cases c1 : 0 ≤ r.xNext
 ·rw [ct c1]
  by_cases c2 : r.xNext ≤ 562949953421312
  ·rw [ct c2]
   by_cases c3 : 1 ≤ r.xCap
   ·rw [ct c3]
    by_cases c4 : r.xCap ≤ 1073741824
    ·rw [ct c4]
     by_cases c5 : 0 ≤ r.xShift
     ·rw [ct c5]
      by_cases c6 : r.xShift ≤ 14
      ·rw [ct c6, mn_min]
       by_cases c7 : (r.xUnread.length : Int) ≤ min r.xCap r.xNext
       ·rw [cnt c7]
        have hb : Base r := ⟨c1, c2, c3, c4, c5, c6, by omega, by omega⟩
        by_cases c8 : r.xEdge < 0
        ·rw [ct c8]; exact no fun h => by omega
        rw [cf c8, reach_k (n + 3) r _ hb]
        by_cases c9 : r.xNext - r.xUnread.length + r.xCap < r.xEdge
        ·rw [ct c9]; exact no fun h => by omega
        rw [cf c9]
        by_cases c10 : r.xFin < -1
        ·rw [ct c10]; exact no fun h => by omega
        rw [cf c10]
        by_cases c11 : 0 ≤ r.xFin ∧ r.xFin < r.xNext
        ·rw [ct c11.1, ct c11.2]; exact no fun h => by omega
        by_cases c12 : 562949953421312 < r.xFin
        ·have : 0 ≤ r.xFin := by omega
         rw [ct this, cf (by omega), ct c12]; exact no fun h => by omega
        have e : ∀ X : Option R, cond (decide (0 ≤ r.xFin)) (cond (decide (r.xFin < r.xNext)) (k 230) (cond (decide (562949953421312 < r.xFin)) (k 230) X)) (cond (decide (562949953421312 < r.xFin)) (k 230) X) = X := fun X => by
         by_cases c : 0 ≤ r.xFin
         ·rw [ct c, cf (by omega), cf c12]
         ·rw [cf c, cf c12]
        rw [e]
        have hp := fun k => pieces_k (R := R) n r k hb ⟨by omega, by omega⟩ z1 (by omega) (by omega) z5
        by_cases c13 : PiecesOk (lim r) r.xFin r.xNext r.xLate ∧ FirstsOk (r.xLate.map sp) [] r.xFirst
        ·rw [(hp _).1 c13, Bool.not_true, cond_false]
         by_cases c14 : r.xDone = true ↔ r.xFin = r.xNext
         ·have e2 : (!(r.xDone == decide (r.xFin = r.xNext))) = false := by
           by_cases d : r.xFin = r.xNext
           ·rw [decide_eq_true d, c14.2 d]; rfl
           ·rw [decide_eq_false d]; cases hd : r.xDone with
            | true => exact absurd (c14.1 hd) d
            | false => rfl
          rw [e2, cond_false]
          cases hd : r.xDone with
          | true =>
           rw [cond_true]
           by_cases c15 : r.xLate.length = 0
           ·rw [cf (by omega)]
            exact ⟨fun _ => rfl, fun h => absurd ⟨hb, by omega, by omega, by omega, by omega, fun _ => by omega, c13, by rw [hd] at c14; exact c14, fun _ => c15⟩ h⟩
           ·rw [ct (by omega)]; exact no fun h => absurd (h.2.2.2.2.2.2.2.2 rfl) c15
          | false =>
           rw [cond_false]
           exact ⟨fun _ => rfl, fun h => absurd ⟨hb, by omega, by omega, by omega, by omega, fun _ => by omega, c13, by rw [hd] at c14; exact c14, fun h => by cases h⟩ h⟩
         ·have e2 : (!(r.xDone == decide (r.xFin = r.xNext))) = true := by
           by_cases d : r.xFin = r.xNext
           ·rw [decide_eq_true d]; cases hd : r.xDone with
            | true => exact absurd ⟨fun _ => d, fun _ => hd⟩ c14
            | false => rfl
           ·rw [decide_eq_false d]; cases hd : r.xDone with
            | true => rfl
            | false => exact absurd ⟨fun h => (by rw [hd] at h; cases h), fun h => absurd h d⟩ c14
          rw [e2, cond_true]; exact no fun h => c14 h.2.2.2.2.2.2.2.1
        ·rw [(hp _).2 c13]; exact no fun h => c13 h.2.2.2.2.2.2.1
       ·rw [cnf c7]; exact no fun h => by omega
      ·rw [cf c6]; exact no fun h => by omega
     ·rw [cf c5]; exact no fun h => by omega
    ·rw [cf c4]; exact no fun h => by omega
   ·rw [cf c3]; exact no fun h => by omega
  ·rw [cf c2]; exact no fun h => by omega
 ·rw [cf c1]; exact no fun h => by omega
end
end
end Go.Proofs.Ytafnmkbehjbkdaa.M
