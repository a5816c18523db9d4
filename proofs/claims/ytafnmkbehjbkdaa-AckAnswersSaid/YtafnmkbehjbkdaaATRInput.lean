/- What a receiver makes of a segment. -/
import Derived.Test.YtafnmkbehjbkdaaATRTake
set_option linter.unusedVariables false
set_option linter.unusedSimpArgs false
namespace Go.Proofs.Ytafnmkbehjbkdaa.M
open Go Go.RowKit
noncomputable section
section
variable {R : Type} {F : Nat}
theorem ord_id {r : SRecv} (h : ∀ p ps, r.xLate = p :: ps → p.xFrom ≠ r.xNext) : ordR r = r := by
 unfold ordR
 have e1 : oN r = r.xNext := by
  unfold oN; split
  ·rename_i p ps hl; exact if_neg (h p ps hl)
  ·rfl
 have e2 : oU r = r.xUnread := by
  unfold oU; split
  ·rename_i p ps hl; exact if_neg (h p ps hl)
  ·rfl
 have e3 : oL r = r.xLate := by
  unfold oL; split
  ·rename_i p ps hl; rw [if_neg (h p ps hl), hl]
  ·rename_i hl; rw [hl]
 rw [e1, e2, e3]
theorem ord_stop (n m : Nat) (b : Bool) (r : SRecv) (ke : SRecv → Option R) (h : ∀ p ps, r.xLate = p :: ps → p.xFrom ≠ r.xNext) : l16_77 capB n (m + 1) b r ke = ke r := by
 simp only [l16_77, s16_73]
 cases hl : r.xLate with
 | nil => rw [cf (by simp)]
 | cons p ps =>
  have hp : 0 < (((p :: ps).length : Nat) : Int) := by simp only [List.length_cons]; omega
  rw [ct hp, ct hp, cf (show ¬ ((p :: ps).getD 0 zPiece).xFrom = r.xNext from h p ps hl)]
theorem ord_l (n m : Nat) (b : Bool) (r : SRecv) (ke : SRecv → Option R) (h : POk r.xNext r.xLate) (hb : Rn r.xNext (lim r)) (hh : ∀ p ∈ r.xLate, endP p ≤ lim r) (hu : r.xUnread.length ≤ 1073741824) : l16_77 capB n (m + 2) b r ke = ke (ordR r) := by
 cases hl : r.xLate with
 | nil => rw [ord_stop n (m + 1) b r ke (fun p ps e => by rw [hl] at e; cases e), ord_id (fun p ps e => by rw [hl] at e; cases e)]
 | cons p ps =>
  by_cases c : p.xFrom = r.xNext
  ·have hp : 0 < (((p :: ps).length : Nat) : Int) := by simp only [List.length_cons]; omega
   obtain ⟨z1, z2⟩ := PW_size h.pw hh hb
   rw [hl] at h hh z1 z2
   obtain ⟨a1, a2, a3, a4⟩ := z2 p List.mem_cons_self
   have e1 : oN r = endP p := by unfold oN; rw [hl]; exact if_pos c
   have e2 : oU r = r.xUnread ++ p.xData := by unfold oU; rw [hl]; exact if_pos c
   have e3 : oL r = ps := by unfold oL; rw [hl]; exact if_pos c
   have st := ord_stop (R := R) n m b (ordR r) ke (fun q qs e => by
    have e' : ps = q :: qs := e3.symm.trans e
    have := h.2.2; rw [e'] at this
    have := this.1
    show q.xFrom ≠ oN r
    rw [e1]; omega)
   rw [← st]
   have one : l16_77 capB n (m + 2) b r ke = l16_77 capB n (m + 1) b { r with xNext := wr .i64 (r.xNext + (p.xData.length : Int)), xUnread := r.xUnread ++ p.xData, xLate := List.take ((p :: ps).length - 1) ((p :: ps).drop 1) } ke := by
    rw [l16_77]
    simp only [s16_73]
    rw [hl, ct hp, ct hp, ct (show ((p :: ps).getD 0 zPiece).xFrom = r.xNext from c), ct hp, cap_ok (by show (r.xUnread.length + p.xData.length) * 1 ≤ _; omega), ct hp, ct (by omega)]
    rfl
   have e4 : wr .i64 (r.xNext + (p.xData.length : Int)) = endP p := by rw [← c]; exact a4
   have e5 : List.take ((p :: ps).length - 1) ((p :: ps).drop 1) = ps := List.take_of_length_le (by simp)
   rw [one, e4, e5]
   unfold ordR
   rw [e1, e2, e3]
  ·rw [ord_stop n (m + 1) b r ke (fun q qs e => by rw [hl] at e; cases e; exact c), ord_id (fun q qs e => by rw [hl] at e; cases e; exact c)]
theorem limit_F (h : 2 ≤ F) (r : SRecv) (k : Int → Option R) (hb : Base r) : G31 capB F r k = k (lim r) := by
 obtain ⟨n, rfl⟩ : ∃ n, F = n + 2 := ⟨F - 2, by omega⟩
 exact limit_k n r k hb
theorem late_F (h : 1 ≤ F) (r : SRecv) (k : SRecv → Option R) : G30 capB F r k = k r := by
 obtain ⟨n, rfl⟩ : ∃ n, F = n + 1 := ⟨F - 1, by omega⟩
 rfl
theorem mid_size {r : SRecv} (h : Mid r) : r.xLate.length ≤ 1073741824 ∧ ∀ p ∈ r.xLate, 0 ≤ p.xFrom ∧ p.xData.length ≤ 1073741824 ∧ endP p ≤ 562949953421312 ∧ wr .i64 (p.xFrom + (p.xData.length : Int)) = endP p :=
 PW_size (h.2.1.1.pw.le (by omega)) h.2.1.2 (mid_rn h.1)
theorem gapsL_len (fr to' : Int) : ∀ (l : List SSpan) (a : Int), (gapsL fr to' a l).length ≤ l.length + 1
 | [], a => by unfold gapsL; split <;> simp
 | x :: r, a => by
  unfold gapsL
  split
  ·have := gapsL_len fr to' r (min x.xTo to')
   split
   ·simp only [List.length_append, List.length_cons, List.length_nil]; omega
   ·simp only [List.nil_append, List.length_cons]; omega
  ·have := gapsL_len fr to' r a
   simp only [List.length_cons]; omega
theorem Take_F (h : 4294967240 ≤ F) (r : SRecv) (x : Int) (d : List Int) (k : SRecv → Bool → Option R) (ok : Mid r) (hx : -1125899906842624 ≤ x ∧ x ≤ 1125899906842624) (hd : d.length ≤ 140737488351232) : G16 capB F r x d k = k (takeR r x d) (!(takeG r x d).isEmpty) := by
 obtain ⟨n, rfl⟩ : ∃ n, F = n + 3 := ⟨F - 3, by omega⟩
 have hb := ok.1
 have hrn := mid_rn hb
 obtain ⟨z1, z2⟩ := mid_size ok
 obtain ⟨g1, g2, g3⟩ := takeG_ok ok x d
 obtain ⟨f1, f2⟩ := fill_take ok x d
 have fl := fill_le ok x d
 have te := takeE_le (r := r) (x := x) (d := d)
 have hrows := fun e ke => rows_l (R := R) (n + 1) r r x d e z1 (fun p hp => (z2 p hp).2.2.2) r.xLate (n + 2) 0 [] ke rfl (by omega) (by omega) (by simp)
 have hok : Ok 0 (r.xLate.map spx) := (Ok_map ok.2.1.1 (fun p hp => by have := (z2 p hp).2.2.1; omega)).le (by have := hrn.1; omega)
 have hu : r.xUnread.length ≤ 1073741824 := by have := hb.2.2.2.1; have := hb.2.2.2.2.2.2.1; omega
 have hord := ord_l (R := R) (n + 2) n (!(takeG r x d).isEmpty) { r with xLate := fillL x d r.xLate (takeG r x d) } (fun r' => k r' (!(takeG r x d).isEmpty)) f1 hrn (fun p hp => (fl p hp).1) hu
 simp only [G16, s16_1, s16_3, s16_7, s16_9, s16_12, s16_14, s16_16, s16_22, s16_23, s16_26, s16_28, s16_30, s16_31, s16_34, s16_36, s16_39, s16_41, s16_43, s16_46, s16_48, s16_50, s16_51, s16_53, s16_55, s16_57, s16_63, s16_65, s16_67, s16_68, s16_69, s16_72, s16_73, s16_78, s16_80, s16_82, s16_83, s16_86, s16_88, s16_90, s16_92, s16_94]
 rw [limit_F (by omega) r _ hb, w64_id (n := x + _) (by omega) (by omega)]
 have main : ∀ e, e = takeE r x d → G30 capB (n + 2) r (fun r165 => l16_38 capB (n + 2) (n + 2) r x d e r165 (r165.xLate.length : Int) 0 [] fun v189 => cond (decide (mx x r.xNext < e)) (G34 capB (n + 2) v189 ⟨mx x r.xNext, e⟩ fun r192 => l16_62 capB (n + 2) (n + 2) r192 (r192.length : Int) 0 r x d false fun v217 v218 => l16_77 capB (n + 2) (n + 2) v218 v217 fun v223 => k v223 v218) (l16_77 capB (n + 2) (n + 2) false r fun v223 => k v223 false)) = k (takeR r x d) (!(takeG r x d).isEmpty) := by
  intro e he
  subst he
  rw [late_F (by omega), show ((0 : Int)) = ((0 : Nat) : Int) from rfl, hrows, List.nil_append, mx_max]
  by_cases c : max x r.xNext < takeE r x d
  ·have hG : takeG r x d = gapsL (max x r.xNext) (takeE r x d) (max x r.xNext) (r.xLate.map spx) := if_pos c
   rw [ct c, Gaps_F (by omega) _ ⟨max x r.xNext, takeE r x d⟩ _ hok (by rw [List.length_map]; exact z1) c]
   show l16_62 capB (n + 2) (n + 2) (gapsL (max x r.xNext) (takeE r x d) (max x r.xNext) (r.xLate.map spx)) _ _ r x d false _ = _
   rw [← hG]
   have hgl : (takeG r x d).length ≤ r.xLate.length + 1 := by
    have := gapsL_len (max x r.xNext) (takeE r x d) (r.xLate.map spx) (max x r.xNext)
    rw [List.length_map] at this
    rw [hG]; exact this
   obtain ⟨r1, r2, r3, r4⟩ := hrn
   rw [fill_l (n + 2) (by omega) x d (takeG r x d) (by omega) r.xNext (lim r) ⟨r1, r2, r3, r4⟩ (by omega) (takeG r x d) (n + 2) 0 r false (max x r.xNext) _ rfl (by omega) (by omega) ⟨ok.2.1.1.le (by omega), ok.2.1.2⟩ g1 (by omega) (by omega) (fun g hg => by have := g3 g hg; omega) (fun t ht => ((g2 t).1 ht).2.2)]
   rw [Bool.false_or]
   exact hord
  ·have hG : takeG r x d = [] := if_neg c
   rw [cf c]
   rw [hG] at hord ⊢
   unfold takeR
   rw [hG]
   exact hord
 unfold takeE at main
 by_cases c : 0 ≤ r.xFin
 ·rw [ct c, mn_min, mn_min]; rw [if_pos c] at main
  exact main _ rfl
 ·rw [cf c, mn_min]; rw [if_neg c] at main
  exact main _ rfl
def findS (all : List SSpan) (s : SSpan) : Option SSpan := all.find? (fun y => decide (y.xFrom ≤ s.xFrom ∧ s.xTo ≤ y.xTo))
theorem findS_cons (y : SSpan) (r : List SSpan) (s : SSpan) : findS (y :: r) s = if y.xFrom ≤ s.xFrom ∧ s.xTo ≤ y.xTo then some y else findS r s := by
 unfold findS
 rw [List.find?_cons]
 by_cases c : y.xFrom ≤ s.xFrom ∧ s.xTo ≤ y.xTo
 ·rw [decide_eq_true c, if_pos c]
 ·rw [decide_eq_false c, if_neg c]
def lastI (all : List SSpan) (x e : Int) : Nat → Option SSpan
 | 0 => none
 | i + 1 => if (all.getD i zSpan).xFrom < e ∧ x < (all.getD i zSpan).xTo then some (all.getD i zSpan) else lastI all x e i
def toldL (all : List SSpan) (x : Int) (d : List Int) (fs : List SSpan) : List SSpan := if d = [] then fs else match lastI all x (x + d.length) all.length with
 | some s => s :: fs
 | none => fs
def firstsL (all : List SSpan) : List SSpan → List SSpan → List SSpan
 | out, [] => out
 | out, s :: rest => match findS all s with
  | some y => if y ∈ out then firstsL all out rest else firstsL all (out ++ [y]) rest
  | none => firstsL all out rest
theorem idxf_l (n : Nat) (l : List SSpan) (s : SSpan) (hl : l.length ≤ 1073741824) : ∀ (rest : List SSpan) (m i : Nat), l.drop i = rest → rest.length < m → i ≤ l.length →
  (∃ q : Nat, q < l.length ∧ findS rest s = some (l.getD q zSpan) ∧ ∀ (kr : Int → Int → Int → Option R) (ke : Int → Int → Option R), l1044_12 capB (n + 1) m l (l.length : Int) (i : Int) s.xFrom s.xTo kr ke = kr (q : Int) s.xFrom s.xTo) ∨
  (findS rest s = none ∧ ∀ (kr : Int → Int → Int → Option R) (ke : Int → Int → Option R), l1044_12 capB (n + 1) m l (l.length : Int) (i : Int) s.xFrom s.xTo kr ke = ke s.xFrom s.xTo)
 | [], m, i, hd, hm, hi => by
  obtain ⟨m, rfl⟩ : ∃ m', m = m' + 1 := ⟨m - 1, by omega⟩
  have := drop_nil hd
  refine .inr ⟨rfl, fun kr ke => ?_⟩
  simp only [l1044_12, s1044_5]
  rw [cf (by omega)]
 | y :: rest, m, i, hd, hm, hi => by
  obtain ⟨m, rfl⟩ : ∃ m', m = m' + 1 := ⟨m - 1, by omega⟩
  obtain ⟨h1, h2⟩ := drop_lt hd
  simp only [List.length_cons] at hm
  have hg : l.getD i zSpan = y := by have := rd_at (z := zSpan) hd; rwa [Int.toNat_natCast] at this
  have hf : ∀ k : Bool → SSpan → Option R, G1045 capB (n + 1) y s k = k (decide (y.xFrom ≤ s.xFrom ∧ s.xTo ≤ y.xTo)) s := fun k => by
   simp only [G1045]
   by_cases c : y.xFrom ≤ s.xFrom
   ·rw [ct c]; congr 1; exact decide_eq_decide.2 ⟨fun h => ⟨c, h⟩, fun h => h.2⟩
   ·rw [cf c, decide_eq_false (fun h => c h.1)]
  by_cases c : y.xFrom ≤ s.xFrom ∧ s.xTo ≤ y.xTo
  ·refine .inl ⟨i, h1, ?_, fun kr ke => ?_⟩
   ·rw [hg, findS_cons, if_pos c]
   ·simp only [l1044_12, s1044_5]
    rw [ct (show (i : Int) < _ by omega), ct (show (0 : Int) ≤ i by omega), ct (show (i : Int) < _ by omega), rd_at hd, hf, ct c]
  ·have hfd : findS (y :: rest) s = findS rest s := by rw [findS_cons, if_neg c]
   rw [hfd]
   have stp : ∀ kr ke, l1044_12 (R := R) capB (n + 1) (m + 1) l (l.length : Int) (i : Int) s.xFrom s.xTo kr ke = l1044_12 capB (n + 1) m l (l.length : Int) ((i + 1 : Nat) : Int) s.xFrom s.xTo kr ke := fun kr ke => by
    rw [l1044_12]
    simp only [s1044_5]
    rw [ct (show (i : Int) < _ by omega), ct (show (0 : Int) ≤ i by omega), ct (show (i : Int) < _ by omega), rd_at hd, hf, cf c, succ_w (by omega)]
   rcases idxf_l n l s hl rest m (i + 1) h2 (by omega) (by omega) with ⟨q, q1, q2, q3⟩ | ⟨q2, q3⟩
   ·exact .inl ⟨q, q1, q2, fun kr ke => by rw [stp, q3]⟩
   ·exact .inr ⟨q2, fun kr ke => by rw [stp, q3]⟩
theorem idxf_F (h : 4294967200 ≤ F) (l : List SSpan) (s : SSpan) (hl : l.length ≤ 1073741824) :
  (∃ q : Nat, q < l.length ∧ findS l s = some (l.getD q zSpan) ∧ ∀ k : Int → SSpan → Option R, G1044 capB F l s k = k (q : Int) s) ∨ (findS l s = none ∧ ∀ k : Int → SSpan → Option R, G1044 capB F l s k = k (-1) s) := by
 obtain ⟨n, rfl⟩ : ∃ n, F = n + 2 := ⟨F - 2, by omega⟩
 have := idxf_l (R := R) n l s hl l (n + 1) 0 rfl (by omega) (by omega)
 rw [show (((0 : Nat) : Int)) = 0 from rfl] at this
 simp only [G1044, s1044_1, s1044_3, s1044_5, s1044_13, s1044_16, s1044_19, s1044_20, s1044_23, s1044_25]
 rcases this with ⟨q, q1, q2, q3⟩ | ⟨q2, q3⟩
 ·exact .inl ⟨q, q1, q2, fun k => by rw [q3]⟩
 ·exact .inr ⟨q2, fun k => by rw [q3]⟩
theorem Contains_F (h : 4294967200 ≤ F) (xs : List SSpan) (x : SSpan) (k : Bool → Option R) (hl : xs.length ≤ 4294967100) : G38 capB F xs x k = k (decide (x ∈ xs)) := by
 obtain ⟨n, rfl⟩ : ∃ n, F = n + 2 := ⟨F - 2, by omega⟩
 exact Contains_k n xs x k (by omega) (by omega)
theorem out_l (n : Nat) (hn : 4294967200 ≤ n) (all told : List SSpan) (ha : all.length ≤ 1073741824) (ht : told.length ≤ 4294967100) : ∀ (rest : List SSpan) (m i : Nat) (out : List SSpan) (ke : List SSpan → Option R), told.drop i = rest → rest.length < m → i ≤ told.length → out.length ≤ i →
  l17_25 capB n m all told (told.length : Int) out (i : Int) ke = ke (firstsL all out rest)
 | [], m, i, out, ke, hd, hm, hi, ho => by
  obtain ⟨m, rfl⟩ : ∃ m', m = m' + 1 := ⟨m - 1, by omega⟩
  have := drop_nil hd
  simp only [l17_25, s17_20]
  rw [cf (by omega)]; rfl
 | s :: rest, m, i, out, ke, hd, hm, hi, ho => by
  obtain ⟨m, rfl⟩ : ∃ m', m = m' + 1 := ⟨m - 1, by omega⟩
  obtain ⟨h1, h2⟩ := drop_lt hd
  simp only [List.length_cons] at hm
  have ih := fun out ho => out_l n hn all told ha ht rest m (i + 1) out ke h2 (by omega) (by omega) ho
  simp only [l17_25, s17_20]
  rw [ct (show (i : Int) < _ by omega), ct (show (0 : Int) ≤ i by omega), ct (show (i : Int) < _ by omega), rd_at hd, succ_w (by omega)]
  unfold firstsL
  rcases idxf_F (R := R) hn all s ha with ⟨q, q1, q2, q3⟩ | ⟨q2, q3⟩
  ·rw [q2, q3, ct (by omega), ct (by omega), ct (by omega), Int.toNat_natCast, Contains_F hn out _ _ (by omega)]
   simp only
   by_cases c : all.getD q zSpan ∈ out
   ·rw [cnt c, if_pos c]; exact ih _ (by omega)
   ·rw [cnf c, if_neg c, ct (by omega), ct (by omega), cap_ok (by simp only [List.length_cons, List.length_nil]; omega)]
    exact ih _ (by simp; omega)
  ·rw [q2, q3, cf (by omega)]; exact ih _ (by omega)
theorem told_l (n : Nat) (r : SRecv) (x : Int) (d : List Int) (all : List SSpan) (ha : all.length ≤ 1073741824) (hf : r.xFirst.length * 16 ≤ 140737488351232) (hd : d.length ≤ 140737488351232) (hx : -1125899906842624 ≤ x ∧ x ≤ 1125899906842624) : ∀ (i m : Nat) (ke : List SSpan → Option R), i < m → i ≤ all.length →
  l17_10 capB n m r x d all ((i : Int) - 1) ke = ke (if d = [] then r.xFirst else match lastI all x (x + d.length) i with | some s => s :: r.xFirst | none => r.xFirst)
 | 0, m, ke, hm, hi => by
  obtain ⟨m, rfl⟩ : ∃ m', m = m' + 1 := ⟨m - 1, by omega⟩
  simp only [l17_10, s17_5]
  rw [cf (by omega)]
  congr 1; split <;> rfl
 | i + 1, m, ke, hm, hi => by
  obtain ⟨m, rfl⟩ : ∃ m', m = m' + 1 := ⟨m - 1, by omega⟩
  have e1 : (((i + 1 : Nat) : Int) - 1) = (i : Int) := by omega
  have ih := told_l n r x d all ha hf hd hx i m ke (by omega) (by omega)
  have hw : wr .i64 ((i : Int) - 1) = (i : Int) - 1 := w64_id (by omega) (by omega)
  rw [e1]
  simp only [l17_10, s17_5]
  rw [ct (by omega), ct (by omega), ct (by omega), Int.toNat_natCast, w64_id (n := x + _) (by omega) (by omega), hw, ih]
  by_cases c1 : (all.getD i zSpan).xFrom < x + d.length
  ·rw [ct c1, ct (by omega), ct (by omega)]
   by_cases c2 : x < (all.getD i zSpan).xTo
   ·rw [ct c2]
    by_cases c3 : d = []
    ·rw [cf (by rw [c3]; simp), if_pos c3, if_pos c3]
    ·rw [ct (by have := len1 c3; omega), ct (by omega), ct (by omega), cap_ok (by simp only [List.length_cons, List.length_nil]; omega), if_neg c3]
     unfold lastI; rw [if_pos ⟨c1, c2⟩]; rfl
   ·rw [cf c2]
    conv => rhs; unfold lastI
    rw [if_neg (c := _ ∧ _) (fun h => c2 h.2)]
  ·rw [cf c1]
   conv => rhs; unfold lastI
   rw [if_neg (c := _ ∧ _) (fun h => c1 h.1)]
theorem map_sp {l : List SPiece} (h : ∀ p ∈ l, wr .i64 (p.xFrom + (p.xData.length : Int)) = endP p) : l.map sp = l.map spx := List.map_congr_left fun p hp => by unfold sp spx; rw [h p hp]
theorem Collect_F (h : 4294967200 ≤ F) (r : SRecv) (k : List SSpan → SRecv → Option R) (hl : r.xLate.length ≤ 1073741824) (hs : ∀ p ∈ r.xLate, wr .i64 (p.xFrom + (p.xData.length : Int)) = endP p) : G1023 capB F r k = k (r.xLate.map spx) r := by
 obtain ⟨n, rfl⟩ : ∃ n, F = n + 3 := ⟨F - 3, by omega⟩
 rw [Collect_k n r k (by omega) (by omega), map_sp hs]
theorem Firsts_F (h : 4294967240 ≤ F) (r : SRecv) (x : Int) (d : List Int) (k : List SSpan → Option R) (hl : r.xLate.length ≤ 1073741824) (hs : ∀ p ∈ r.xLate, wr .i64 (p.xFrom + (p.xData.length : Int)) = endP p) (hf : r.xFirst.length * 16 ≤ 140737488351232) (hf2 : r.xFirst.length ≤ 4294967000) (hd : d.length ≤ 140737488351232) (hx : -1125899906842624 ≤ x ∧ x ≤ 1125899906842624) :
  G17 capB F r x d k = k (firstsL (r.xLate.map spx) [] (toldL (r.xLate.map spx) x d r.xFirst)) := by
 obtain ⟨n, rfl⟩ : ∃ n, F = n + 1 := ⟨F - 1, by omega⟩
 have hw : wr .i64 (((r.xLate.map spx).length : Int) - 1) = ((r.xLate.map spx).length : Int) - 1 := w64_id (by omega) (by rw [List.length_map]; omega)
 have htl : (toldL (r.xLate.map spx) x d r.xFirst).length ≤ r.xFirst.length + 1 := by
  unfold toldL; split
  ·omega
  ·split <;> simp
 simp only [G17, s17_1, s17_3, s17_5, s17_11, s17_13, s17_15, s17_16, s17_18, s17_20, s17_26, s17_28, s17_30, s17_31, s17_34, s17_36, s17_38, s17_40]
 rw [late_F (by omega), Collect_F (by omega) r _ hl hs, hw, told_l n r x d _ (by rw [List.length_map]; exact hl) hf hd hx _ n _ (by rw [List.length_map]; omega) (Nat.le_refl _)]
 rw [show (0 : Int) = ((0 : Nat) : Int) from rfl]
 exact out_l n (by omega) _ (toldL (r.xLate.map spx) x d r.xFirst) (by rw [List.length_map]; exact hl) (by omega) _ n 0 [] _ rfl (by omega) (by omega) (by simp)
def lastP : Int → List SPiece → Int
 | a, [] => a
 | _, p :: ps => lastP (endP p) ps
def endR (r : SRecv) (e : Int) : Int := if r.xFin < 0 ∧ lastP r.xNext r.xLate ≤ e ∧ e ≤ lim r then e else r.xFin
theorem end_l (n : Nat) (r r1 : SRecv) (e : Int) (hl : r.xLate.length ≤ 1073741824) (hs : ∀ p ∈ r.xLate, wr .i64 (p.xFrom + (p.xData.length : Int)) = endP p) : ∀ (rest : List SPiece) (m i : Nat) (a : Int) (ke : Int → Option R), r.xLate.drop i = rest → rest.length < m → i ≤ r.xLate.length →
  l15_38 capB (n + 1) m r1 e r (r.xLate.length : Int) (i : Int) a ke = ke (lastP a rest)
 | [], m, i, a, ke, hd, hm, hi => by
  obtain ⟨m, rfl⟩ : ∃ m', m = m' + 1 := ⟨m - 1, by omega⟩
  have := drop_nil hd
  simp only [l15_38, G15, s15_1, s15_3, s15_7, s15_9, s15_12, s15_14, s15_16, s15_22, s15_23, s15_26, s15_28, s15_30, s15_31, s15_34, s15_36, s15_39, s15_41, s15_43, s15_46, s15_48, s15_50, s15_51, s15_54, s15_56]
  rw [cf (by omega)]; rfl
 | p :: rest, m, i, a, ke, hd, hm, hi => by
  obtain ⟨m, rfl⟩ : ∃ m', m = m' + 1 := ⟨m - 1, by omega⟩
  obtain ⟨h1, h2⟩ := drop_lt hd
  simp only [List.length_cons] at hm
  have hp := hs p (List.mem_of_mem_drop (by rw [hd]; exact List.mem_cons_self))
  simp only [l15_38, G15, s15_1, s15_3, s15_7, s15_9, s15_12, s15_14, s15_16, s15_22, s15_23, s15_26, s15_28, s15_30, s15_31, s15_34, s15_36, s15_39, s15_41, s15_43, s15_46, s15_48, s15_50, s15_51, s15_54, s15_56, G42]
  rw [ct (show (i : Int) < _ by omega), ct (show (0 : Int) ≤ i by omega), ct (show (i : Int) < _ by omega), rd_at hd, hp, succ_w (by omega)]
  exact end_l n r r1 e hl hs rest m (i + 1) _ ke h2 (by omega) (by omega)
theorem End_F (h : 4294967240 ≤ F) (r : SRecv) (e : Int) (k : Int → Option R) (hb : Base r) (hl : r.xLate.length ≤ 1073741824) (hs : ∀ p ∈ r.xLate, wr .i64 (p.xFrom + (p.xData.length : Int)) = endP p) : G15 capB F r e k = k (endR r e) := by
 obtain ⟨n, rfl⟩ : ∃ n, F = n + 2 := ⟨F - 2, by omega⟩
 have he := fun ke => end_l (R := R) n r r e hl hs r.xLate (n + 1) 0 r.xNext ke rfl (by omega) (by omega)
 simp only [G15, s15_1, s15_3, s15_7, s15_9, s15_12, s15_14, s15_16, s15_22, s15_23, s15_26, s15_28, s15_30, s15_31, s15_34, s15_36, s15_39, s15_41, s15_43, s15_46, s15_48, s15_50, s15_51, s15_54, s15_56]
 rw [late_F (by omega), show ((0 : Int)) = ((0 : Nat) : Int) from rfl, he, limit_F (by omega) r _ hb]
 unfold endR
 by_cases c1 : r.xFin < 0
 ·rw [ct (show r.xFin < ((0 : Nat) : Int) from c1)]
  by_cases c2 : lastP r.xNext r.xLate ≤ e
  ·rw [ct c2]
   by_cases c3 : e ≤ lim r
   ·rw [ct c3, if_pos ⟨c1, c2, c3⟩]
   ·rw [cf c3, if_neg (fun h => c3 h.2.2)]
  ·rw [cf c2, if_neg (fun h => c2 h.2.1)]
 ·rw [cf (show ¬ r.xFin < ((0 : Nat) : Int) from c1), if_neg (fun h => c1 h.1)]
end
end
end Go.Proofs.Ytafnmkbehjbkdaa.M
