/- What a segment tells a sender: the walk. -/
import Derived.Test.YtafnmkbehjbkdaaATRAdd
import Derived.Test.YtafnmkbehjbkdaaATSeq
set_option linter.unusedVariables false
set_option linter.unusedSimpArgs false
namespace Go.Proofs.Ytafnmkbehjbkdaa.M
open Go Go.RowKit
noncomputable section
def twiceO : List SSpan → Int → Bool
 | [], _ => false
 | b :: r, x => decide (b.xFrom < b.xTo) && (decide (b.xTo ≤ x) || (match r with
  | [] => false
  | c :: _ => decide (c.xFrom ≤ b.xFrom) && decide (b.xTo ≤ c.xTo)))
def ofB (a : SAsked) (b : SBlock) : SSpan := ⟨unwrapO a.xUna (wr .u32 (b.xFrom - a.xIss)), unwrapO a.xUna (wr .u32 (b.xTo - a.xIss))⟩
def aside (tw : Bool) (lo hi : Int) (i : Nat) (b : SSpan) : Prop := (i = 0 ∧ tw = true) ∨ b.xFrom < lo ∨ b.xTo ≤ b.xFrom ∨ hi < b.xTo
instance (tw : Bool) (lo hi : Int) (i : Nat) (b : SSpan) : Decidable (aside tw lo hi i b) := by unfold aside; infer_instance
def gather (tw : Bool) (lo hi : Int) : Nat → List SSpan → List SSpan → List SSpan
 | _, acc, [] => acc
 | i, acc, b :: r => gather tw lo hi (i + 1) (if aside tw lo hi i b then acc else add b.xFrom b.xTo acc) r
theorem gather_all (t : Int) (tw : Bool) (lo hi : Int) (h0 : 0 ≤ lo) (h1 : hi ≤ 1125899906842624) : ∀ (l : List SSpan) (i : Nat) (acc : List SSpan), (tw = false ∨ 0 < i) → (∀ b ∈ l, lo ≤ b.xFrom ∧ b.xFrom < b.xTo ∧ b.xTo ≤ hi) → Ok 0 acc → Ok 0 (gather tw lo hi i acc l) ∧ (In t (gather tw lo hi i acc l) ↔ In t acc ∨ In t l)
 | [], i, acc, _, _, h => ⟨h, by unfold gather; simp [In_nil]⟩
 | b :: r, i, acc, hi', hb, h => by
  obtain ⟨b1, b2, b3⟩ := hb b List.mem_cons_self
  have hn : ¬ aside tw lo hi i b := by
   unfold aside
   rintro (⟨e1, e2⟩ | e | e | e)
   ·rcases hi' with z | z
    ·rw [z] at e2; cases e2
    ·omega
   ·omega
   ·omega
   ·omega
  obtain ⟨i1, i2⟩ := gather_all t tw lo hi h0 h1 r (i + 1) (add b.xFrom b.xTo acc) (.inr (by omega)) (fun c hc => hb c (List.mem_cons_of_mem _ hc)) (add_Ok _ _ acc 0 h (by omega) b2 (by omega))
  unfold gather
  rw [if_neg hn]
  refine ⟨i1, ?_⟩
  rw [i2, add_In t _ _ b2 acc 0 h, In_cons, or_assoc]
  constructor
  ·rintro (z | z | z)
   ·exact .inr (.inl z)
   ·exact .inl z
   ·exact .inr (.inr z)
  ·rintro (z | z | z)
   ·exact .inr (.inl z)
   ·exact .inl z
   ·exact .inr (.inr z)
section
variable {R : Type} {F : Nat}
theorem twice_F (h : 1 ≤ F) (l : List SSpan) (x : Int) (k : Bool → Option R) : G22 capB F l x k = k (twiceO l x) := by
 obtain ⟨n, rfl⟩ : ∃ n, F = n + 1 := ⟨F - 1, by omega⟩
 simp only [G22]
 cases l with
 | nil => rfl
 | cons b r =>
  rw [cf (by simp <;> omega), ct (by simp <;> omega), ct (by simp <;> omega)]
  simp only [List.getD_cons_zero, twiceO]
  by_cases c1 : b.xTo ≤ b.xFrom
  ·rw [ct c1, decide_eq_false (show ¬ b.xFrom < b.xTo by omega)]; rfl
  rw [cf c1, decide_eq_true (show b.xFrom < b.xTo by omega), ct (by simp <;> omega), Bool.true_and]
  by_cases c2 : b.xTo ≤ x
  ·rw [ct c2, decide_eq_true c2]; rfl
  rw [cf c2, decide_eq_false c2, Bool.false_or]
  cases r with
  | nil => rw [cf (by simp)]
  | cons c r =>
   rw [ct (by simp <;> omega), ct (by simp <;> omega), ct (by simp <;> omega)]
   simp only [List.getD_cons_succ, List.getD_cons_zero]
   by_cases c3 : c.xFrom ≤ b.xFrom
   ·rw [ct c3, decide_eq_true c3, ct (by simp <;> omega), ct (by simp <;> omega), Bool.true_and]
   ·rw [cf c3, decide_eq_false c3, Bool.false_and]
theorem unw_F (h : 2 ≤ F) (a s : Int) (k : Int → Option R) (a0 : -9223372036854775808 ≤ a) (a1 : a ≤ 9223372036854775807) : G12 capB F a s k = k (unwrapO a s) := by
 obtain ⟨n, rfl⟩ : ∃ n, F = n + 2 := ⟨F - 2, by omega⟩
 exact Unwrap_k capB n a s k a0 a1
theorem off_l (n : Nat) (hn : 10 ≤ n) (a : SAsked) (ha : 0 ≤ a.xUna ∧ a.xUna ≤ 1125899906842624) (l : List SBlock) (hl : l.length ≤ 1000) : ∀ (rest : List SBlock) (m i : Nat) (out : List SSpan) (ke : List SSpan → SAsked → Option R), l.drop i = rest → rest.length < m → i ≤ l.length → out.length ≤ i →
  l1007_10 capB n m l (l.length : Int) out (i : Int) a ke = ke (out ++ rest.map (ofB a)) a
 | [], m, i, out, ke, hd, hm, hi, ho => by
  obtain ⟨m, rfl⟩ : ∃ m', m = m' + 1 := ⟨m - 1, by omega⟩
  have := drop_nil hd
  simp only [l1007_10, s1007_5]
  rw [cf (by omega)]; simp
 | b :: rest, m, i, out, ke, hd, hm, hi, ho => by
  obtain ⟨m, rfl⟩ : ∃ m', m = m' + 1 := ⟨m - 1, by omega⟩
  obtain ⟨h1, h2⟩ := drop_lt hd
  simp only [List.length_cons] at hm
  have hof : ∀ (x : Int) (k : Int → SAsked → Option R), G1008 capB n x a k = k (unwrapO a.xUna (wr .u32 (x - a.xIss))) a := fun x k => by
   obtain ⟨j, rfl⟩ : ∃ j, n = j + 1 := ⟨n - 1, by omega⟩
   simp only [G1008]
   try rw [unw_F (by omega) _ _ _ (by omega) (by omega)]
  simp only [l1007_10, s1007_5]
  rw [ct (show (i : Int) < _ by omega), ct (show (0 : Int) ≤ i by omega), ct (show (i : Int) < _ by omega), rd_at hd, hof, hof, cap_ok (by simp only [List.length_cons, List.length_nil]; omega), succ_w (by omega), off_l n hn a ha l hl rest m (i + 1) _ ke h2 (by omega) (by omega) (by simp; omega)]
  simp [ofB]
theorem blocks_l (n : Nat) (hn : 4294967200 ≤ n) (hd : SHeard) (l : List SSpan) (hl : l.length ≤ 1000) (a : SAsked) (q : Int) (tw : Bool) (hlo : 0 ≤ hd.xAck) : ∀ (rest : List SSpan) (m i : Nat) (acc : List SSpan) (ke : List SSpan → Option R), l.drop i = rest → rest.length < m → i ≤ l.length → acc.length ≤ i → Ok 0 acc →
  l7_16 capB n m hd l a q tw (l.length : Int) (i : Int) acc ke = ke (gather tw hd.xAck (min a.xNext 1125899906842624) i acc rest)
 | [], m, i, acc, ke, hdr, hm, hi, ho, ok => by
  obtain ⟨m, rfl⟩ : ∃ m', m = m' + 1 := ⟨m - 1, by omega⟩
  have := drop_nil hdr
  simp only [l7_16, s7_11]
  rw [cf (by omega)]; rfl
 | b :: rest, m, i, acc, ke, hdr, hm, hi, ho, ok => by
  obtain ⟨m, rfl⟩ : ∃ m', m = m' + 1 := ⟨m - 1, by omega⟩
  obtain ⟨h1, h2⟩ := drop_lt hdr
  simp only [List.length_cons] at hm
  have ih := fun acc ho ok => blocks_l n hn hd l hl a q tw hlo rest m (i + 1) acc ke h2 (by omega) (by omega) ho ok
  have skip : aside tw hd.xAck (min a.xNext 1125899906842624) i b → l7_16 capB n m hd l a q tw (l.length : Int) ((i + 1 : Nat) : Int) acc ke = ke (gather tw hd.xAck (min a.xNext 1125899906842624) i acc (b :: rest)) := fun hs => by
   rw [ih acc (by omega) ok]
   conv => rhs; unfold gather
   rw [if_pos hs]
  have rest_ : ¬ (i = 0 ∧ tw = true) → cond (decide (b.xFrom < hd.xAck)) (l7_16 capB n m hd l a q tw (l.length : Int) ((i + 1 : Nat) : Int) acc ke) (cond (decide (b.xTo ≤ b.xFrom)) (l7_16 capB n m hd l a q tw (l.length : Int) ((i + 1 : Nat) : Int) acc ke) (cond (decide (min a.xNext 1125899906842624 < b.xTo)) (l7_16 capB n m hd l a q tw (l.length : Int) ((i + 1 : Nat) : Int) acc ke) (G23 capB n acc b fun r60 r61 => l7_16 capB n m hd l a q tw (l.length : Int) ((i + 1 : Nat) : Int) r60 ke))) = ke (gather tw hd.xAck (min a.xNext 1125899906842624) i acc (b :: rest)) := fun h0 => by
   by_cases c1 : b.xFrom < hd.xAck
   ·rw [ct c1]; exact skip (.inr (.inl c1))
   rw [cf c1]
   by_cases c2 : b.xTo ≤ b.xFrom
   ·rw [ct c2]; exact skip (.inr (.inr (.inl c2)))
   rw [cf c2]
   by_cases c3 : min a.xNext 1125899906842624 < b.xTo
   ·rw [ct c3]; exact skip (.inr (.inr (.inr c3)))
   obtain ⟨j, hj⟩ : ∃ j, n = j + 1 := ⟨n - 1, by omega⟩
   have hadd : ∀ k : List SSpan → Int → Option R, G23 capB n acc b k = k (add b.xFrom b.xTo acc) 0 := fun k => by
    rw [hj]; exact Add_k j acc b k (by omega) (by omega) ok (by omega) (by omega) (by omega)
   rw [cf c3, hadd, ih _ (by have := add_length b.xFrom b.xTo acc; omega) (add_Ok _ _ acc 0 ok (by omega) (by omega) (by omega))]
   conv => rhs; unfold gather
   rw [if_neg]
   rintro (z | z | z | z)
   ·exact h0 z
   ·exact c1 z
   ·exact c2 z
   ·exact c3 z
  simp only [l7_16, s7_11]
  rw [ct (show (i : Int) < _ by omega), ct (show (0 : Int) ≤ i by omega), ct (show (i : Int) < _ by omega), rd_at hdr, succ_w (by omega), mn_min]
  by_cases c0 : i = 0
  ·rw [ct (by omega)]
   rcases Bool.eq_false_or_eq_true tw with ht | ht
   ·rw [cT ht]; exact skip (.inl ⟨c0, ht⟩)
   ·rw [cF ht]; exact rest_ fun z => by rw [ht] at z; cases z.2
  ·rw [cf (by omega)]; exact rest_ fun z => c0 z.1
theorem Weigh_F (h : 4294967220 ≤ F) (a : SAsked) (s : SSegment) (k : SHeard → Option R) (x : Int) (hu : 0 ≤ a.xUna ∧ a.xUna ≤ x ∧ x ≤ a.xNext ∧ a.xNext ≤ 1000) (hst : a.xStamps = false) (hsk : a.xSacks = true) (hp : a.xPeer = 0) (hf : s.xFlags = 16) (hx : unwrapO a.xUna (wr .u32 (s.xAck - a.xIss)) = x) (hq : wr .u32 (s.xSeq - a.xIrs) = 0) (hl : s.xSacks.length ≤ 1000) :
  G7 capB F a s k = k (SHeard.mk true x false 0 s.xWin 0 0 (twiceO (s.xSacks.map (ofB a)) x) (gather (twiceO (s.xSacks.map (ofB a)) x) x (min a.xNext 1125899906842624) 0 [] (s.xSacks.map (ofB a)))) := by
 obtain ⟨n, rfl⟩ : ∃ n, F = n + 2 := ⟨F - 2, by omega⟩
 have hpz : unwrapO a.xPeer 0 = 0 := by rw [hp]; rfl
 have hb : bits .and .i64 s.xFlags 22 = 16 := by rw [hf]; rfl
 have hcnt : ∀ k : Int → Bool → Option R, G19 capB (n + 1) a s k = k x true := fun k => by
  simp only [G19, s19_1, s19_4, s19_7]
  rw [cf (by omega), cf (by omega), cf (by omega), cnt hb, cF hst, unw_F (by omega) _ _ _ (by omega) (by omega), hx, hq, unw_F (by omega) _ _ _ (by omega) (by omega), hpz, hp, ct rfl, ct (by omega), decide_eq_true (by omega)]
 have hoff : ∀ k : List SSpan → SAsked → Option R, G1007 capB (n + 1) s.xSacks a k = k (s.xSacks.map (ofB a)) a := fun k => by
  have := off_l (R := R) n (by omega) a (by omega) s.xSacks hl s.xSacks n 0 [] k rfl (by omega) (by omega) (by simp)
  rw [show (((0 : Nat) : Int)) = 0 from rfl] at this
  simp only [G1007, s1007_1, s1007_3, s1007_5, s1007_11, s1007_13, s1007_15, s1007_16, s1007_19, s1007_21]
  rw [this]; rfl
 have hbl := fun hd q tw ke hlo => blocks_l (R := R) (n + 1) (by omega) hd (s.xSacks.map (ofB a)) (by rw [List.length_map]; exact hl) a q tw hlo (s.xSacks.map (ofB a)) (n + 1) 0 [] ke rfl (by rw [List.length_map]; omega) (by omega) (by simp) trivial
 rw [show (((0 : Nat) : Int)) = 0 from rfl] at hbl
 simp only [G7, s7_1, s7_4, s7_7, s7_9, s7_11, s7_17, s7_19, s7_21, s7_22, s7_25, s7_27, s7_29, s7_31]
 rw [hcnt, Bool.not_true, cond_false, cF hst, cF hst, hsk, Bool.not_true, cond_false, hoff, twice_F (by omega)]
 have hmx : mx x a.xUna = x := by rw [mx_max]; omega
 have hold : decide (x < a.xUna) = false := decide_eq_false (by omega)
 rw [hmx, hold, hp]
 rw [hbl _ _ _ _ (by show 0 ≤ x; omega)]
def sumP : List SPiece → Int
 | [] => 0
 | p :: ps => p.xData.length + sumP ps
theorem size_l (n : Nat) (l : List SPiece) (hl : l.length ≤ 1000) : ∀ (rest : List SPiece) (m i : Nat) (v lo : Int) (ke : Int → Option R), l.drop i = rest → rest.length < m → i ≤ l.length → POk lo rest → (∀ p ∈ rest, endP p ≤ 1000) → 0 ≤ lo → 0 ≤ v → v ≤ lo → l8_11 capB n m (l.map spx) (l.length : Int) v (i : Int) ke = ke (v + sumP rest)
 | [], m, i, v, lo, ke, hd, hm, hi, ok, hh, h0, h1, h2 => by
  obtain ⟨m, rfl⟩ : ∃ m', m = m' + 1 := ⟨m - 1, by omega⟩
  have := drop_nil hd
  simp only [l8_11, s8_6]
  rw [cf (by omega), show v + sumP [] = v from Int.add_zero v]
 | p :: rest, m, i, v, lo, ke, hd, hm, hi, ok, hh, h0, h1, h2 => by
  obtain ⟨m, rfl⟩ : ∃ m', m = m' + 1 := ⟨m - 1, by omega⟩
  obtain ⟨g1, g2⟩ := drop_lt hd
  simp only [List.length_cons] at hm
  have hdm : (l.map spx).drop i = spx p :: rest.map spx := by rw [← List.map_drop, hd]; rfl
  have e1 := hh p List.mem_cons_self
  have e0 := ok.1
  have e2 : (spx p).xTo - (spx p).xFrom = p.xData.length := by unfold spx endP; simp only; omega
  simp only [l8_11, s8_6]
  have e3 : endP p = p.xFrom + p.xData.length := rfl
  rw [ct (show (i : Int) < _ by omega), ct (show (0 : Int) ≤ i by omega), ct (show (i : Int) < _ by rw [List.length_map]; omega), rd_at hdm, e2, w64_id (n := (p.xData.length : Int)) (by omega) (by omega), w64_id (by omega) (by omega), succ_w (by omega), size_l n l hl rest m (i + 1) _ (endP p + 1) ke g2 (by omega) (by omega) ok.2.2 (fun q hq => hh q (List.mem_cons_of_mem _ hq)) (by omega) (by omega) (by omega)]
  congr 1; rw [show sumP (p :: rest) = p.xData.length + sumP rest from rfl]; omega
theorem Size_F (h : 4294967210 ≤ F) (l : List SPiece) (k : Int → Option R) (hl : l.length ≤ 1000) (ok : POk 0 l) (hh : ∀ p ∈ l, endP p ≤ 1000) : G8 capB F (l.map spx) k = k (sumP l) := by
 obtain ⟨n, rfl⟩ : ∃ n, F = n + 1 := ⟨F - 1, by omega⟩
 have hs := fun ke => size_l (R := R) n l hl l n 0 0 0 ke rfl (by omega) (by omega) ok hh (by omega) (by omega) (by omega)
 rw [show (((0 : Nat) : Int)) = 0 from rfl] at hs
 simp only [G8, s8_1, s8_4, s8_6, s8_12, s8_14, s8_16, s8_17, s8_20, s8_22]
 rw [spCheck_F (by omega) _ _ (Ok_map ok (fun p hp => by have := hh p hp; omega)) (by rw [List.length_map]; omega), cnt rfl, List.length_map, hs, Int.zero_add]
end
end
end Go.Proofs.Ytafnmkbehjbkdaa.M
