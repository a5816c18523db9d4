/- The document's receiver: when one is right, what it tells, what is read. -/
import Derived.Test.YtilmdmjhdidoiaaDTRRead
set_option linter.unusedVariables false
set_option linter.unusedSimpArgs false
namespace Go.Proofs.Ytilmdmjhdidoiaa.M
open Go Go.RowKit
noncomputable section
section
variable {R : Type} {F : Nat}
theorem tmod32 (n : Int) : (if Int.tmod n 4294967296 < 0 then Int.tmod n 4294967296 + 4294967296 else Int.tmod n 4294967296) = n % 4294967296 ∧ -4294967296 < Int.tmod n 4294967296 ∧ Int.tmod n 4294967296 < 4294967296 := by
 rcases Int.lt_or_le n 0 with c | c
 ·have e : Int.tmod n 4294967296 = -((-n) % 4294967296) := by
   have := Int.neg_tmod (-n) 4294967296
   rw [Int.neg_neg] at this
   rw [this, Int.tmod_eq_emod_of_nonneg (by omega)]
  rw [e]
  split <;> omega
 ·rw [Int.tmod_eq_emod_of_nonneg c]
  split <;> omega
theorem rmod_F (h : 1 ≤ F) (n : Int) (k : Int → Option R) : G65 capB F n k = k (n % 4294967296) := by
 obtain ⟨m, rfl⟩ : ∃ m, F = m + 1 := ⟨F - 1, by omega⟩
 obtain ⟨t1, t2, t3⟩ := tmod32 n
 simp only [G65]
 by_cases c : Int.tmod n 4294967296 < 0
 ·rw [ct c, w64_id (by omega) (by omega)]; rw [if_pos c] at t1; rw [t1]
 ·rw [cf c]; rw [if_neg c] at t1; rw [t1]
theorem rAdd_F (h : 2 ≤ F) (a n : Int) (k : Int → Option R) (ha : 0 ≤ a ∧ a < 4294967296) : G39 capB F a n k = k (wr .u32 (a + wr .u32 n)) := by
 obtain ⟨m, rfl⟩ : ∃ m, F = m + 1 := ⟨F - 1, by omega⟩
 simp only [G39]
 rw [rmod_F (by omega), rmod_F (by omega), w64_id (n := a) (by omega) (by omega), w64_id (n := a + _) (by omega) (by omega)]
 congr 1
 rw [wu32, wu32, wu32]; omega
/-! ### spans -/
theorem rsp_l (n : Nat) (l : List SPiece) (hl : l.length * 16 ≤ 140737488355328) : ∀ (rest : List SPiece) (m i : Nat) (acc : List SSpan) (ke : List SSpan → Option R), l.drop i = rest → rest.length < m → i ≤ l.length → acc.length ≤ i →
  l47_10 capB n m l acc (i : Int) ke = ke (acc ++ rest.map sp)
 | [], m, i, acc, ke, hd, hm, hi, ha => by
  obtain ⟨m, rfl⟩ : ∃ m', m = m' + 1 := ⟨m - 1, by omega⟩
  have := drop_nil hd
  simp only [l47_10, s47_5]
  rw [cf (by omega)]; simp
 | p :: rest, m, i, acc, ke, hd, hm, hi, ha => by
  obtain ⟨m, rfl⟩ : ∃ m', m = m' + 1 := ⟨m - 1, by omega⟩
  obtain ⟨h1, h2⟩ := drop_lt hd
  simp only [List.length_cons] at hm
  have c1 : (i : Int) < l.length := by omega
  have c0 : (0 : Int) ≤ i := by omega
  simp only [l47_10, s47_5]
  rw [ct c1, ct c0, ct c1, ct c0, ct c1, ct c0, ct c1, rd_at hd, cap_ok (by simp only [List.length_cons, List.length_nil]; omega), succ_w (by omega),
   rsp_l n l hl rest m (i + 1) _ ke h2 (by omega) (by omega) (by simp; omega)]
  simp [sp]
theorem rspans_F {n : Nat} (l : List SPiece) (k : List SSpan → Option R) (hn : l.length < n) (hl : l.length * 16 ≤ 140737488355328) : G47 capB (n + 1) l k = k (l.map sp) := by
 have h := fun ke => rsp_l (R := R) n l hl l n 0 [] ke rfl hn (by omega) (by simp)
 rw [show (((0 : Nat) : Int)) = 0 from rfl] at h
 simp only [G47, s47_1, s47_3, s47_5, s47_11, s47_13, s47_15, s47_16, s47_19, s47_21]
 rw [h]; rfl
theorem rin_l (n : Nat) (xs : List SSpan) (x : SSpan) (hl : xs.length ≤ 4611686018427387904) (kr : Option R) : ∀ (rest : List SSpan) (m i : Nat) (ke : Option R), xs.drop i = rest → rest.length < m → i ≤ xs.length →
  l48_10 capB n m x xs (i : Int) kr ke = if x ∈ rest then kr else ke
 | [], m, i, ke, hd, hm, hi => by
  obtain ⟨m, rfl⟩ : ∃ m', m = m' + 1 := ⟨m - 1, by omega⟩
  have := drop_nil hd
  simp only [l48_10, s48_5]
  rw [cf (by omega), if_neg (by simp)]
 | y :: rest, m, i, ke, hd, hm, hi => by
  obtain ⟨m, rfl⟩ : ∃ m', m = m' + 1 := ⟨m - 1, by omega⟩
  obtain ⟨h1, h2⟩ := drop_lt hd
  simp only [List.length_cons] at hm
  simp only [l48_10, s48_5]
  rw [ct (show (i : Int) < _ by omega), ct (show (0 : Int) ≤ i by omega), ct (show (i : Int) < _ by omega), rd_at hd, span_eq]
  by_cases e : y = x
  ·rw [ct e, if_pos (by simp [e])]
  ·have e' : ¬ x = y := fun z => e z.symm
   rw [cf e, succ_w (by omega), rin_l n xs x hl kr rest m (i + 1) ke h2 (by omega) (by omega)]
   simp [e']
theorem rin_F {n : Nat} (xs : List SSpan) (x : SSpan) (k : Bool → Option R) (hn : xs.length < n) (hl : xs.length ≤ 4611686018427387904) : G48 capB (n + 1) x xs k = k (decide (x ∈ xs)) := by
 have h := fun kr ke => rin_l (R := R) n xs x hl kr xs n 0 ke rfl hn (by omega)
 rw [show (((0 : Nat) : Int)) = 0 from rfl] at h
 simp only [G48, s48_1, s48_3, s48_5, s48_11, s48_12, s48_13, s48_14, s48_17, s48_19]
 rw [h]
 by_cases e : x ∈ xs
 ·rw [if_pos e, decide_eq_true e]
 ·rw [if_neg e, decide_eq_false e]
theorem rlimit_k (n : Nat) (r : SRecv) (k : Int → Option R) (h : Base r) : G42 capB (n + 2) r k = k (lim r) := by
 obtain ⟨h1, h2, h3, h4, h5, h6, h7, h8⟩ := h
 simp only [G42, G46]
 rw [w64_id (n := r.xNext - _) (by omega) (by omega), w64_id (by omega) (by omega), mn_min]; rfl
theorem rpieces_l (n : Nat) (r : SRecv) (hb : Base r) (hf : -1 ≤ r.xFin ∧ r.xFin ≤ 562949953421312) (hl : r.xLate.length ≤ 4611686018427387904) : ∀ (rest : List SPiece) (m i : Nat) (a : Int) (kr ke : Option R), r.xLate.drop i = rest → Small rest → rest.length < m → i ≤ r.xLate.length → 0 ≤ a →
  (PiecesOk (lim r) r.xFin a rest → l16_11 capB (n + 2) m r a (i : Int) kr ke = ke) ∧ (¬ PiecesOk (lim r) r.xFin a rest → l16_11 capB (n + 2) m r a (i : Int) kr ke = kr)
 | [], m, i, a, kr, ke, hd, hsm, hm, hi, h0 => by
  obtain ⟨m, rfl⟩ : ∃ m', m = m' + 1 := ⟨m - 1, by omega⟩
  have := drop_nil hd
  simp only [l16_11, s16_8]
  rw [cf (by omega)]
  exact ⟨fun _ => rfl, fun h => absurd trivial h⟩
 | p :: rest, m, i, a, kr, ke, hd, hsm, hm, hi, h0 => by
  obtain ⟨m, rfl⟩ : ∃ m', m = m' + 1 := ⟨m - 1, by omega⟩
  obtain ⟨h1, h2⟩ := drop_lt hd
  simp only [List.length_cons] at hm
  have hps : p.xData.length ≤ 140737488351232 := hsm p List.mem_cons_self
  have hlm := lim_rng hb
  have t1 : (i : Int) < r.xLate.length := by omega
  have t0 : (0 : Int) ≤ i := by omega
  have ih := fun a => rpieces_l n r hb hf hl rest m (i + 1) a kr ke h2 (fun q hq => hsm q (List.mem_cons_of_mem _ hq)) (by omega) (by omega)
  simp only [l16_11, s16_8, PiecesOk]
  rw [ct t1, ct t0, ct t1, rd_at hd]
  by_cases c1 : p.xData.length = 0
  ·rw [ct (by omega)]; exact ⟨fun h => absurd c1 h.1, fun _ => rfl⟩
  rw [cf (by omega), ct t0, ct t1]
  by_cases c2 : p.xFrom ≤ a
  ·rw [ct c2]; exact ⟨fun h => absurd h.2.1 (by omega), fun _ => rfl⟩
  rw [cf c2, ct t0, ct t1, rlimit_k n r _ hb, succ_w (by omega), w64_id (n := lim r - _) (by omega) (by omega)]
  by_cases c3 : lim r - (p.xData.length : Int) < p.xFrom
  ·rw [ct c3]; exact ⟨fun h => absurd h.2.2.1 (by omega), fun _ => rfl⟩
  rw [cf c3, w64_id (n := p.xFrom + _) (by omega) (by omega)]
  by_cases c4 : 0 ≤ r.xFin
  ·rw [ct c4, ct t0, ct t1, w64_id (n := r.xFin - _) (by omega) (by omega)]
   by_cases c5 : r.xFin - (p.xData.length : Int) < p.xFrom
   ·rw [ct c5]; exact ⟨fun h => absurd (h.2.2.2.1 c4) (by omega), fun _ => rfl⟩
   ·rw [cf c5, ct t0, ct t1]
    exact ⟨fun h => (ih _ (by omega)).1 h.2.2.2.2, fun h => (ih _ (by omega)).2 fun hr => h ⟨c1, by omega, by omega, fun _ => by omega, hr⟩⟩
  ·rw [cf c4, ct t0, ct t1]
   exact ⟨fun h => (ih _ (by omega)).1 h.2.2.2.2, fun h => (ih _ (by omega)).2 fun hr => h ⟨c1, by omega, by omega, fun h => absurd h c4, hr⟩⟩
theorem rfirsts_l (n : Nat) (r : SRecv) (L : List SSpan) (hL : L.length < n) (hL2 : L.length ≤ 4611686018427387904) (hl : r.xFirst.length < n) (hl2 : r.xFirst.length ≤ 4611686018427387904) : ∀ (rest : List SSpan) (m i : Nat) (kr ke : Option R), r.xFirst.drop i = rest → rest.length < m → i ≤ r.xFirst.length →
  (FirstsOk L (r.xFirst.take i) rest → l16_22 capB (n + 1) m r L (i : Int) kr ke = ke) ∧ (¬ FirstsOk L (r.xFirst.take i) rest → l16_22 capB (n + 1) m r L (i : Int) kr ke = kr)
 | [], m, i, kr, ke, hd, hm, hi => by
  obtain ⟨m, rfl⟩ : ∃ m', m = m' + 1 := ⟨m - 1, by omega⟩
  have := drop_nil hd
  simp only [l16_22, s16_19]
  rw [cf (by omega)]
  exact ⟨fun _ => rfl, fun h => absurd trivial h⟩
 | f :: rest, m, i, kr, ke, hd, hm, hi => by
  obtain ⟨m, rfl⟩ : ∃ m', m = m' + 1 := ⟨m - 1, by omega⟩
  obtain ⟨h1, h2⟩ := drop_lt hd
  simp only [List.length_cons] at hm
  have ih := rfirsts_l n r L hL hL2 hl hl2 rest m (i + 1) kr ke h2 (by omega) (by omega)
  have htk : r.xFirst.take (i + 1) = r.xFirst.take i ++ [f] := by
   have := List.drop_eq_getElem_cons h1
   rw [hd] at this
   simp only [List.cons.injEq] at this
   rw [this.1, List.take_succ_eq_append_getElem h1]
  rw [htk] at ih
  have t1 : (i : Int) < r.xFirst.length := by omega
  have t0 : (0 : Int) ≤ i := by omega
  simp only [l16_22, s16_19, FirstsOk]
  rw [ct t1, ct t0, ct t1, rd_at hd, rin_F L f _ hL hL2]
  by_cases c1 : f ∈ L
  ·rw [cnt c1, ct t0, ct t1, ct t0, ct (show (i : Int) ≤ _ by omega), Int.toNat_natCast, rin_F _ f _ (by rw [List.length_take]; omega) (by rw [List.length_take]; omega)]
   by_cases c2 : f ∈ r.xFirst.take i
   ·rw [ct c2]; exact ⟨fun h => absurd c2 h.2.1, fun _ => rfl⟩
   ·rw [cf c2, succ_w (by omega)]
    exact ⟨fun h => ih.1 h.2.2, fun h => ih.2 fun hr => h ⟨c1, c2, hr⟩⟩
  ·rw [cnf c1]; exact ⟨fun h => absurd h.1 c1, fun _ => rfl⟩
theorem rCheck_k (n : Nat) (r : SRecv) (k : Int → Option R) (hz : Fits n r) : (RecvOk r → G16 capB (n + 3) r k = k 0) ∧ (¬ RecvOk r → G16 capB (n + 3) r k = k 230) := by
 obtain ⟨z1, z2, z3, z4, z5⟩ := hz
 simp only [G16, s16_1, s16_4, s16_6, s16_8, s16_12, s16_13, s16_14, s16_15, s16_17, s16_19, s16_23, s16_24, s16_25, s16_26, s16_29, s16_31, s16_33, s16_35, s16_37, G46]
 have no : ¬ RecvOk r → (RecvOk r → k 230 = k 0) ∧ (¬ RecvOk r → k 230 = k 230) := fun h => ⟨fun hp => absurd hp h, fun _ => rfl⟩
 have nb : ¬ Base r → ¬ RecvOk r := fun h z => h z.1
 by_cases hb : Base r
 ·obtain ⟨b1, b2, b3, b4, b5, b6, b7, b8⟩ := hb
  rw [cf (by omega), cf (by omega), cf (by omega), cf (by omega), cf (by omega), cf (by omega), cf (by omega), cf (by omega)]
  rw [w64_id (n := r.xNext - _) (by omega) (by omega), w64_id (n := r.xNext - _ + _) (by omega) (by omega)]
  by_cases c1 : r.xFin < -1
  ·rw [ct c1]; exact no fun h => by have := h.2.2.2.1; omega
  rw [cf c1]
  by_cases c2 : 0 ≤ r.xFin ∧ r.xFin < r.xNext
  ·rw [ct c2.1, ct c2.2]; exact no fun h => by have := h.2.2.2.2.2.1 c2.1; omega
  have e : ∀ A : Option R, cond (decide (0 ≤ r.xFin)) (cond (decide (r.xFin < r.xNext)) (k 230) A) A = A := fun A => by
   by_cases c : 0 ≤ r.xFin
   ·rw [ct c, cf (by omega)]
   ·rw [cf c]
  rw [e]
  by_cases c3 : 562949953421312 < r.xFin
  ·rw [ct c3]; exact no fun h => by have := h.2.2.2.2.1; omega
  rw [cf c3]
  by_cases c4 : r.xEdge < 0
  ·rw [ct c4]; exact no fun h => by have := h.2.1; omega
  rw [cf c4]
  by_cases c5 : r.xNext - r.xUnread.length + r.xCap < r.xEdge
  ·rw [ct c5]; exact no fun h => by have := h.2.2.1; omega
  rw [cf c5]
  have hb : Base r := ⟨b1, b2, b3, b4, b5, b6, b7, b8⟩
  have h1 := fun kr ke => rpieces_l (R := R) n r hb ⟨by omega, by omega⟩ (by omega) r.xLate (n + 2) 0 r.xNext kr ke rfl z1 (by omega) (by omega) b1
  have h2 := fun kr ke => rfirsts_l (R := R) (n + 1) r (r.xLate.map sp) (by rw [List.length_map]; omega) (by rw [List.length_map]; omega) (by omega) (by omega) r.xFirst (n + 2) 0 kr ke rfl (by omega) (by omega)
  rw [show (((0 : Nat) : Int)) = 0 from rfl] at h1 h2
  by_cases c6 : PiecesOk (lim r) r.xFin r.xNext r.xLate
  ·rw [(h1 _ _).1 c6, rspans_F _ _ (by omega) (by omega)]
   by_cases c7 : FirstsOk (r.xLate.map sp) [] r.xFirst
   ·rw [(h2 _ _).1 c7]
    by_cases c14 : r.xDone = true ↔ r.xFin = r.xNext
    ·have e2 : (!(r.xDone == decide (r.xFin = r.xNext))) = false := by
      by_cases d : r.xFin = r.xNext
      ·rw [decide_eq_true d, c14.2 d]; rfl
      ·rw [decide_eq_false d]
       cases hd : r.xDone with
       | true => exact absurd (c14.1 hd) d
       | false => rfl
     rw [e2, cond_false]
     cases hd : r.xDone with
     | true =>
      rw [cond_true]
      by_cases c15 : r.xLate.length = 0
      ·rw [cf (by omega)]
       exact ⟨fun _ => rfl, fun h => absurd ⟨hb, by omega, by omega, by omega, by omega, fun _ => by omega, ⟨c6, c7⟩, c14, fun _ => c15⟩ h⟩
      ·rw [ct (by omega)]; exact no fun h => c15 (h.2.2.2.2.2.2.2.2 hd)
     | false =>
      rw [cond_false]
      exact ⟨fun _ => rfl, fun h => absurd ⟨hb, by omega, by omega, by omega, by omega, fun _ => by omega, ⟨c6, c7⟩, c14, fun z => by rw [hd] at z; cases z⟩ h⟩
    ·have e2 : (!(r.xDone == decide (r.xFin = r.xNext))) = true := by
      by_cases d : r.xFin = r.xNext
      ·rw [decide_eq_true d]
       cases hd : r.xDone with
       | true => exact absurd ⟨fun _ => d, fun _ => hd⟩ c14
       | false => rfl
      ·rw [decide_eq_false d]
       cases hd : r.xDone with
       | true => rfl
       | false => exact absurd ⟨fun h => (by rw [hd] at h; cases h), fun h => absurd h d⟩ c14
     rw [e2, cond_true]; exact no fun h => c14 h.2.2.2.2.2.2.2.1
   ·rw [(h2 _ _).2 c7]; exact no fun h => c7 h.2.2.2.2.2.2.1.2
  ·rw [(h1 _ _).2 c6]; exact no fun h => c6 h.2.2.2.2.2.2.1.1
 ·have key : ∀ A : Option R, cond (decide (r.xNext < 0)) (k 230) (cond (decide (562949953421312 < r.xNext)) (k 230) (cond (decide (r.xCap < 1)) (k 230) (cond (decide (1073741824 < r.xCap)) (k 230) (cond (decide (r.xShift < 0)) (k 230) (cond (decide (14 < r.xShift)) (k 230) (cond (decide (r.xCap < (r.xUnread.length : Int))) (k 230) (cond (decide (r.xNext < (r.xUnread.length : Int))) (k 230) A))))))) = k 230 := fun A => by
   unfold Base at hb
   by_cases d1 : r.xNext < 0
   ·rw [ct d1]
   rw [cf d1]
   by_cases d2 : 562949953421312 < r.xNext
   ·rw [ct d2]
   rw [cf d2]
   by_cases d3 : r.xCap < 1
   ·rw [ct d3]
   rw [cf d3]
   by_cases d4 : 1073741824 < r.xCap
   ·rw [ct d4]
   rw [cf d4]
   by_cases d5 : r.xShift < 0
   ·rw [ct d5]
   rw [cf d5]
   by_cases d6 : 14 < r.xShift
   ·rw [ct d6]
   rw [cf d6]
   by_cases d7 : r.xCap < (r.xUnread.length : Int)
   ·rw [ct d7]
   rw [cf d7, ct (by omega)]
  rw [key]; exact no (nb hb)
theorem rCheck_F (h : 5 ≤ F) (r : SRecv) (k : Int → Option R) (hz : Fits (F - 5) r) : (RecvOk r → G16 capB F r k = k 0) ∧ (¬ RecvOk r → G16 capB F r k = k 230) := by
 obtain ⟨n, rfl⟩ : ∃ n, F = n + 3 := ⟨F - 3, by omega⟩
 exact rCheck_k n r k ⟨hz.1, hz.2.1, hz.2.2.1, hz.2.2.2.1, by have := hz.2.2.2.2; omega⟩
/-! ### a copy -/
theorem rcopy_l (n : Nat) (r : SRecv) (u : List Int) (hs : Small r.xLate) (hl : r.xLate.length * 32 ≤ 140737488351232) : ∀ (rest : List SPiece) (m i : Nat) (ke : List SPiece → Option R), r.xLate.drop i = rest → rest.length < m → i ≤ r.xLate.length →
  l37_10 capB n m r u (i : Int) (r.xLate.take i) ke = ke r.xLate
 | [], m, i, ke, hd, hm, hi => by
  obtain ⟨m, rfl⟩ : ∃ m', m = m' + 1 := ⟨m - 1, by omega⟩
  have := drop_nil hd
  simp only [l37_10, s37_5]
  rw [cf (by omega), List.take_of_length_le this]
 | p :: rest, m, i, ke, hd, hm, hi => by
  obtain ⟨m, rfl⟩ : ∃ m', m = m' + 1 := ⟨m - 1, by omega⟩
  obtain ⟨h1, h2⟩ := drop_lt hd
  simp only [List.length_cons] at hm
  have hp : p.xData.length ≤ 140737488351232 := hs p (List.mem_of_mem_drop (by rw [hd]; exact List.mem_cons_self))
  have htk : r.xLate.take (i + 1) = r.xLate.take i ++ [p] := by
   have := List.drop_eq_getElem_cons h1
   rw [hd] at this
   simp only [List.cons.injEq] at this
   rw [this.1, List.take_succ_eq_append_getElem h1]
  have t1 : (i : Int) < r.xLate.length := by omega
  have t0 : (0 : Int) ≤ i := by omega
  simp only [l37_10, s37_5, List.nil_append]
  rw [ct t1, ct t0, ct t1, ct t0, ct t1, rd_at hd, cap_ok (by simp only [List.length_nil]; omega), cap_ok (by rw [List.length_take]; simp only [List.length_cons, List.length_nil]; omega), succ_w (by omega)]
  have e : r.xLate.take i ++ [SPiece.mk p.xFrom p.xData] = r.xLate.take (i + 1) := htk.symm
  rw [e]
  exact rcopy_l n r u hs hl rest m (i + 1) ke h2 (by omega) (by omega)
theorem rCopy_F (h : 2 ≤ F) (r : SRecv) (k : SRecv → Option R) (hz : Fits (F - 2) r) : G37 capB F r k = k r := by
 obtain ⟨n, rfl⟩ : ∃ n, F = n + 1 := ⟨F - 1, by omega⟩
 obtain ⟨z1, z2, z3, z4, z5⟩ := hz
 have h := fun u ke => rcopy_l (R := R) n r u z1 z2 r.xLate n 0 ke rfl (by omega) (by omega)
 rw [show (((0 : Nat) : Int)) = 0 from rfl, List.take_zero] at h
 simp only [G37, s37_1, s37_3, s37_5, s37_11, s37_13, s37_15, s37_16, s37_19, s37_21, List.nil_append]
 rw [cap_ok (by simp only [List.length_nil]; omega), h, cap_ok (by simp only [List.length_nil]; omega)]
/-! ### what is told -/
theorem rwindow_F (h : 1 ≤ F) (r : SRecv) (k : Int → Option R) (hb : Base r) : G50 capB F r k = k (room r) := by
 obtain ⟨n, rfl⟩ : ∃ n, F = n + 1 := ⟨F - 1, by omega⟩
 obtain ⟨h1, h2, h3, h4, h5, h6, h7, h8⟩ := hb
 exact rwindow_k n r k ⟨h5, h6⟩ h7 h4
theorem sackL_full (r : SRecv) (m : Int) (acc : List SBlock) (h : ¬ (r.xSacks = true ∧ (acc.length : Int) < m)) : ∀ fs, sackL r m acc fs = acc
 | [] => rfl
 | f :: fs => by unfold sackL; rw [if_neg h]; exact sackL_full r m acc h fs
theorem rtell_l (n : Nat) (hn : 2 ≤ n) (r : SRecv) (lm : Int) (sg : SSegment) (h4 : lm ≤ 4) (hirs : 0 ≤ r.xIrs ∧ r.xIrs < 4294967296) (hl : r.xFirst.length ≤ 4611686018427387904) : ∀ (rest : List SSpan) (m i : Nat) (acc : List SBlock) (ke : List SBlock → Option R), r.xFirst.drop i = rest → rest.length < m → i ≤ r.xFirst.length →
  l41_10 capB n m r lm sg (i : Int) acc ke = ke (sackL r lm acc rest)
 | [], m, i, acc, ke, hd, hm, hi => by
  obtain ⟨m, rfl⟩ : ∃ m', m = m' + 1 := ⟨m - 1, by omega⟩
  have := drop_nil hd
  simp only [l41_10, s41_5]
  rw [cf (by omega)]; rfl
 | f :: rest, m, i, acc, ke, hd, hm, hi => by
  obtain ⟨m, rfl⟩ : ∃ m', m = m' + 1 := ⟨m - 1, by omega⟩
  obtain ⟨h1, h2⟩ := drop_lt hd
  simp only [List.length_cons] at hm
  have t1 : (i : Int) < r.xFirst.length := by omega
  have t0 : (0 : Int) ≤ i := by omega
  by_cases c : r.xSacks = true ∧ (acc.length : Int) < lm
  ·simp only [l41_10, s41_5]
   rw [ct t1, cT c.1, ct c.2, ct t0, ct t1, rd_at hd, rAdd_F hn _ _ _ hirs, ct t0, ct t1, rAdd_F hn _ _ _ hirs, cap_ok (by simp only [List.length_cons, List.length_nil]; omega), succ_w (by omega),
    rtell_l n hn r lm sg h4 hirs hl rest m (i + 1) _ ke h2 (by omega) (by omega)]
   conv => rhs; unfold sackL
   rw [if_pos c]
  ·rw [sackL_full r lm acc c]
   simp only [l41_10, s41_5]
   rw [ct t1]
   rcases Bool.eq_false_or_eq_true r.xSacks with d | d
   ·rw [cT d, cf (fun z => c ⟨d, z⟩)]
   ·rw [cF d]
theorem rtell_F (h : 4 ≤ F) (r : SRecv) (bs : List SBlock) (k : SRecv → SSegment → Option R) (ok : RecvOk r) (hz : Fits (F - 4) r) (hirs : 0 ≤ r.xIrs ∧ r.xIrs < 4294967296) : G41 capB F r bs k = k (tellE r) (tellS r bs) := by
 obtain ⟨n, rfl⟩ : ∃ n, F = n + 1 := ⟨F - 1, by omega⟩
 have hb := ok.1
 have hw := room_le hb
 have hz1 : Fits (n - 2) r := ⟨hz.1, hz.2.1, hz.2.2.1, hz.2.2.2.1, by have := hz.2.2.2.2; omega⟩
 obtain ⟨b1, b2, b3, b4, b5, b6, b7, b8⟩ := hb
 have hz2 := hz.2.2.1
 have hz3 := hz.2.2.2.2
 have hl := fun lm sg acc ke h4 => rtell_l (R := R) n (by omega) r lm sg h4 hirs (by omega) r.xFirst n 0 acc ke rfl (by omega) (by omega)
 rw [show (((0 : Nat) : Int)) = 0 from rfl] at hl
 have hs : wr .u64 r.xShift = r.xShift := by rw [wu64]; omega
 have hsh : shr .i64 (room r) r.xShift = room r / 2 ^ r.xShift.toNat := by
  obtain ⟨t, ht⟩ := Int.eq_ofNat_of_zero_le b5
  rw [ht, shr_t _ t (by omega), Int.toNat_natCast]
 have hE : mx r.xEdge (wr .i64 (r.xNext + room r)) = max r.xEdge (r.xNext + room r) := by
  rw [w64_id (by omega) (by omega), mx_max]
 have hN : wr .i64 (r.xNext + 1) = r.xNext + 1 := w64_id (by omega) (by omega)
 have hwd := fun k => rwindow_F (R := R) (F := n) (by omega) r k ok.1
 have hcp := fun k => rCopy_F (R := R) (F := n) (by omega) r k hz1
 have hAd := fun x k => rAdd_F (R := R) (F := n) (by omega) r.xIrs x k hirs
 have e0 : ¬ r.xShift < 0 := by omega
 simp only [G41, s41_1, s41_3, s41_5, s41_11, s41_13, s41_15, s41_16, s41_19, s41_21, hs, hwd, hAd, hsh, hN]
 rcases Bool.eq_false_or_eq_true r.xDone with hd | hd <;> rcases Bool.eq_false_or_eq_true r.xStamps with hst | hst
 ·rw [cT hd, cf e0, cT hst, hl _ _ _ _ (by omega), hcp, hE]
  simp only [tellE, tellS, hd, hst, if_true, Bool.false_eq_true, if_false]
 ·rw [cT hd, cf e0, cF hst, hl _ _ _ _ (by omega), hcp, hE]
  simp only [tellE, tellS, hd, hst, if_true, Bool.false_eq_true, if_false]
 ·rw [cF hd, cf e0, cT hst, hl _ _ _ _ (by omega), hcp, hE]
  simp only [tellE, tellS, hd, hst, if_true, Bool.false_eq_true, if_false]
 ·rw [cF hd, cf e0, cF hst, hl _ _ _ _ (by omega), hcp, hE]
  simp only [tellE, tellS, hd, hst, if_true, Bool.false_eq_true, if_false]
/-! ### the same segment -/
theorem same03_l (n : Nat) (s : SSegment) (hl : s.xSacks.length ≤ 4611686018427387904) (kr ke : Option R) : ∀ (d m i : Nat), i + d = s.xSacks.length → d < m → l45_9 capB n m s s (i : Int) kr ke = ke
 | 0, m, i, hd, hm => by
  obtain ⟨m, rfl⟩ : ∃ m', m = m' + 1 := ⟨m - 1, by omega⟩
  simp only [l45_9, s45_6]
  rw [cf (by omega)]
 | d + 1, m, i, hd, hm => by
  obtain ⟨m, rfl⟩ : ∃ m', m = m' + 1 := ⟨m - 1, by omega⟩
  have t1 : (i : Int) < s.xSacks.length := by omega
  have t0 : (0 : Int) ≤ i := by omega
  simp only [l45_9, s45_6]
  rw [ct t1, ct t0, ct t1, ct t0, ct t1, show (!(decide True && (decide True && true))) = false from rfl, cond_false, succ_w (by omega)]
  exact same03_l n s hl kr ke d m (i + 1) (by omega) (by omega)
theorem Told_F (h : 4 ≤ F) (s : SSegment) (k : Bool → Option R) (hs : s.xSacks.length < F - 4) (hl : s.xSacks.length ≤ 4611686018427387904) : G15 capB F s s k = k true := by
 obtain ⟨n, rfl⟩ : ∃ n, F = n + 3 := ⟨F - 3, by omega⟩
 have h := fun kr ke => same03_l (R := R) (n + 1) s hl kr ke s.xSacks.length (n + 1) 0 (by omega) (by omega)
 rw [show (((0 : Nat) : Int)) = 0 from rfl] at h
 simp only [G15, G45, s45_1, s45_4, s45_6, s45_10, s45_11, s45_12, s45_13, s45_16, s45_18, decide_true, Bool.not_true, cond_false, beq_self_eq_true]
 rw [h, Same02_k]
theorem sackL_len (r : SRecv) (m : Int) (h : m ≤ 4) : ∀ (fs : List SSpan) (acc : List SBlock), acc.length ≤ 4 → (sackL r m acc fs).length ≤ 4
 | [], acc, ha => ha
 | f :: fs, acc, ha => by
  unfold sackL
  split
  ·rename_i c
   exact sackL_len r m h fs _ (by simp; omega)
  ·exact sackL_len r m h fs _ ha
theorem tellS_len (r : SRecv) (bs : List SBlock) (h : bs.length ≤ 4) : (tellS r bs).xSacks.length ≤ 4 := sackL_len r _ (by split <;> omega) r.xFirst bs h
theorem Same08_F (h : 2 ≤ F) (r : SRecv) (k : Bool → Option R) (hz : Fits (F - 2) r) : G14 capB F r r k = k true := by
 obtain ⟨n, rfl⟩ : ∃ n, F = n + 2 := ⟨F - 2, by omega⟩
 obtain ⟨z1, z2, z3, z4, z5⟩ := hz
 exact Same08_k n r k (by omega) (by omega) (by omega) (by omega)
end
end
end Go.Proofs.Ytilmdmjhdidoiaa.M
