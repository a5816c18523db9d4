/- The program's puts, gaps and takes of late pieces, in plain rows. -/
import Derived.Test.YtafnmkbehjbkdaaATRAt
import Derived.Test.YtafnmkbehjbkdaaATRRead
set_option linter.unusedVariables false
set_option linter.unusedSimpArgs false
namespace Go.Proofs.Ytafnmkbehjbkdaa.M
open Go Go.RowKit
noncomputable section
def Ok : Int → List SSpan → Prop
 | _, [] => True
 | lo, x :: r => lo ≤ x.xFrom ∧ x.xFrom < x.xTo ∧ x.xTo ≤ 1125899906842624 ∧ Ok (x.xTo + 1) r
instance Ok.dec : ∀ lo l, Decidable (Ok lo l)
 | _, [] => isTrue trivial
 | lo, x :: r => by unfold Ok; have := Ok.dec (x.xTo + 1) r; exact inferInstance
theorem Ok.le {lo lo' : Int} (h : lo' ≤ lo) : ∀ {l : List SSpan}, Ok lo l → Ok lo' l
 | [], _ => trivial
 | x :: r, hh => by unfold Ok at hh ⊢; exact ⟨by omega, hh.2⟩
theorem may_k {R : Type} (cp : Nat → Nat → Bool) (n : Nat) (s : SSpan) (k : Bool → Option R) : G40 cp (n + 1) s k = k (decide (0 ≤ s.xFrom ∧ s.xFrom ≤ s.xTo ∧ s.xTo ≤ 1125899906842624)) := by
 simp only [G40]
 by_cases h1 : 0 ≤ s.xFrom
 ·rw [ct h1]
  by_cases h2 : s.xFrom ≤ s.xTo
  ·rw [ct h2]; congr 1; exact decide_eq_decide.2 ⟨fun h => ⟨h1, h2, h⟩, fun h => h.2.2⟩
  ·rw [cf h2, decide_eq_false (by omega)]
 ·rw [cf h1, decide_eq_false (by omega)]
def lowS (l : List SSpan) (i : Nat) : Int := if i = 0 then 0 else (l.getD (i - 1) zSpan).xTo + 1
theorem spCheck_loop {R : Type} (cp : Nat → Nat → Bool) (n : Nat) (kr ke : Option R) (l : List SSpan) (hl : l.length < 9223372036854775807) : ∀ (r : List SSpan) (i m : Nat), l.drop i = r → i ≤ l.length → r.length + 1 ≤ m → 0 ≤ lowS l i →
  l24_10 cp (n + 1) m l (l.length : Int) (i : Int) kr ke = if Ok (lowS l i) r then ke else kr
 | [], i, 0, h, hi, hk, h0 => by simp at hk
 | [], i, m + 1, h, hi, hk, h0 => by
  have := drop_nil h
  simp only [l24_10, s24_5]; rw [cf (by omega), if_pos (by unfold Ok; trivial)]
 | x :: r, i, 0, h, hi, hk, h0 => by simp at hk
 | x :: r, i, m + 1, h, hi, hk, h0 => by
  obtain ⟨h1, h2⟩ := drop_lt h
  have ih := fun h0 => spCheck_loop cp n kr ke l hl r (i + 1) m h2 (by omega) (by simpa using hk) h0
  have hlow : lowS l (i + 1) = x.xTo + 1 := by
   have := rd_at (z := zSpan) h
   rw [Int.toNat_natCast] at this
   unfold lowS; rw [if_neg (by omega), Nat.add_sub_cancel, this]
  rw [hlow] at ih
  simp only [l24_10, s24_5]
  rw [ct (by omega), ct (by omega), ct (by omega), rd_at h, may_k]
  have hw := succ_w (i := i) (by omega)
  by_cases c1 : 0 ≤ x.xFrom ∧ x.xFrom ≤ x.xTo ∧ x.xTo ≤ 1125899906842624
  ·rw [cnt c1]
   have ih := ih (by omega)
   by_cases c2 : x.xFrom = x.xTo
   ·rw [ct c2, if_neg (by unfold Ok; omega)]
   rw [cf c2]
   by_cases c3 : i = 0
   ·rw [cf (by omega), hw, ih]
    have : Ok (lowS l i) (x :: r) ↔ Ok (x.xTo + 1) r := by
     unfold lowS; rw [if_pos c3]
     constructor
     ·intro h; unfold Ok at h; exact h.2.2.2
     ·intro h; unfold Ok; exact ⟨c1.1, by omega, c1.2.2, h⟩
    by_cases c4 : Ok (x.xTo + 1) r
    ·rw [if_pos c4, if_pos (this.2 c4)]
    ·rw [if_neg c4, if_neg (fun h => c4 (this.1 h))]
   ·have hw2 : wr .i64 ((i : Int) - 1) = ((i - 1 : Nat) : Int) := by rw [w64_id (by omega) (by omega)]; omega
    have hlo : lowS l i = (l.getD (i - 1) zSpan).xTo + 1 := by unfold lowS; rw [if_neg c3]
    rw [ct (by omega), hw2, ct (by omega), ct (by omega), hlo, Int.toNat_natCast]
    by_cases c5 : x.xFrom ≤ (l.getD (i - 1) zSpan).xTo
    ·rw [ct c5, if_neg (by unfold Ok; omega)]
    rw [cf c5, hw, ih]
    have : Ok ((l.getD (i - 1) zSpan).xTo + 1) (x :: r) ↔ Ok (x.xTo + 1) r := by
     constructor
     ·intro h; unfold Ok at h; exact h.2.2.2
     ·intro h; unfold Ok; exact ⟨by omega, by omega, c1.2.2, h⟩
    by_cases c4 : Ok (x.xTo + 1) r
    ·rw [if_pos c4, if_pos (this.2 c4)]
    ·rw [if_neg c4, if_neg (fun h => c4 (this.1 h))]
  ·rw [cnf c1]
   have hneg : ¬ Ok (lowS l i) (x :: r) := by
    intro h; unfold Ok at h
    apply c1
    exact ⟨by omega, by omega, h.2.2.1⟩
   rw [if_neg hneg]
theorem spCheck_k {R : Type} (cp : Nat → Nat → Bool) (n : Nat) (l : List SSpan) (k : Int → Option R) (hl : l.length < 9223372036854775807) (hn : l.length + 2 ≤ n) : G24 cp (n + 1) l k = k (if Ok 0 l then 0 else 60) := by
 obtain ⟨m, rfl⟩ : ∃ m, n = m + 1 := ⟨n - 1, by omega⟩
 show l24_10 cp (m + 1) (m + 1) l (l.length : Int) ((0 : Nat) : Int) (k 60) (k 0) = _
 rw [spCheck_loop cp m _ _ l hl l 0 (m + 1) rfl (by omega) (by omega) (by unfold lowS; simp)]
 unfold lowS
 simp only [if_true]
 split <;> rfl
theorem Ok_map : ∀ {l : List SPiece} {lo : Int}, POk lo l → (∀ p ∈ l, endP p ≤ 1125899906842624) → Ok lo (l.map spx)
 | [], _, _, _ => trivial
 | p :: ps, lo, h, hh => ⟨h.1, end_lt h.2.1, hh p List.mem_cons_self, Ok_map h.2.2 (fun q hq => hh q (List.mem_cons_of_mem _ hq))⟩
def Rn (lo hi : Int) : Prop := 0 ≤ lo ∧ lo ≤ hi ∧ hi ≤ 562949953421312 ∧ hi ≤ lo + 1073741824
def Lie (lo hi : Int) (l : List SPiece) : Prop := POk lo l ∧ ∀ p ∈ l, endP p ≤ hi
theorem PW_from : ∀ {l : List SPiece} {lo : Int}, PW lo l → ∀ p ∈ l, lo ≤ p.xFrom ∧ p.xData ≠ []
 | [], _, _, p, hp => by cases hp
 | x :: r, lo, h, p, hp => by
  rcases List.mem_cons.1 hp with rfl | hp
  ·exact ⟨h.1, h.2.1⟩
  ·have := PW_from h.2.2 p hp
   have := end_lt h.2.1; have := h.1
   exact ⟨by omega, (PW_from h.2.2 p hp).2⟩
theorem PW_size {lo hi : Int} {l : List SPiece} (h : PW lo l) (hh : ∀ p ∈ l, endP p ≤ hi) (hr : Rn lo hi) : l.length ≤ 1073741824 ∧ ∀ p ∈ l, 0 ≤ p.xFrom ∧ p.xData.length ≤ 1073741824 ∧ endP p ≤ 562949953421312 ∧ wr .i64 (p.xFrom + (p.xData.length : Int)) = endP p := by
 obtain ⟨r1, r2, r3, r4⟩ := hr
 refine ⟨by have := PW_len h hh r2; omega, fun p hp => ?_⟩
 obtain ⟨a, b⟩ := PW_from h p hp
 have c := hh p hp
 have d := len1 b
 unfold endP at c
 exact ⟨by omega, by omega, by unfold endP; omega, by unfold endP; rw [w64_id (by omega) (by omega)]⟩
section
variable {R : Type} {F : Nat}
theorem spCheck_F (h : 4294967200 ≤ F) (l : List SSpan) (k : Int → Option R) (ok : Ok 0 l) (hl : l.length ≤ 1073741824) : G24 capB F l k = k 0 := by
 obtain ⟨n, rfl⟩ : ∃ n, F = n + 1 := ⟨F - 1, by omega⟩
 rw [spCheck_k capB n l k (by omega) (by omega), if_pos ok]
theorem gaps_l (n : Nat) (s : SSpan) (l : List SSpan) (hl : l.length ≤ 1073741824) (K : List SSpan → Option R) (ke : List SSpan → Int → Option R)
  (hK : ∀ out a, out.length ≤ l.length → ke out a = K (out ++ if a < s.xTo then [⟨a, s.xTo⟩] else [])) : ∀ (rest : List SSpan) (m i : Nat) (out : List SSpan) (a : Int), l.drop i = rest → rest.length < m → i ≤ l.length → out.length ≤ i →
  l34_40 capB n m s l s.xFrom s.xTo (l.length : Int) (i : Int) out a ke = K (out ++ gapsL s.xFrom s.xTo a rest)
 | [], m, i, out, a, hd, hm, hi, ho => by
  obtain ⟨m, rfl⟩ : ∃ m', m = m' + 1 := ⟨m - 1, by omega⟩
  have := drop_nil hd
  simp only [l34_40, G34, s34_1, s34_4, s34_8, s34_10, s34_13, s34_15, s34_18, s34_24, s34_25, s34_28, s34_30, s34_32, s34_33, s34_36, s34_38, s34_41, s34_43, s34_45, s34_48, s34_50, s34_52, s34_53, s34_56, s34_58]
  rw [cf (by omega), hK _ _ (by omega)]; rfl
 | x :: rest, m, i, out, a, hd, hm, hi, ho => by
  obtain ⟨m, rfl⟩ : ∃ m', m = m' + 1 := ⟨m - 1, by omega⟩
  obtain ⟨h1, h2⟩ := drop_lt hd
  simp only [List.length_cons] at hm
  simp only [l34_40, G34, s34_1, s34_4, s34_8, s34_10, s34_13, s34_15, s34_18, s34_24, s34_25, s34_28, s34_30, s34_32, s34_33, s34_36, s34_38, s34_41, s34_43, s34_45, s34_48, s34_50, s34_52, s34_53, s34_56, s34_58, gapsL]
  rw [ct (show (i : Int) < _ by omega), ct (show (0 : Int) ≤ i by omega), ct (show (i : Int) < _ by omega), rd_at hd, mx_max, mn_min, succ_w (by omega)]
  by_cases c : max x.xFrom s.xFrom < min x.xTo s.xTo
  ·rw [ct c, if_pos c]
   by_cases c2 : a < max x.xFrom s.xFrom
   ·rw [ct c2, if_pos c2, cap_ok (by simp only [List.length_cons, List.length_nil]; omega), gaps_l n s l hl K ke hK rest m (i + 1) _ _ h2 (by omega) (by omega) (by simp; omega)]
    simp
   ·rw [cf c2, if_neg c2, gaps_l n s l hl K ke hK rest m (i + 1) _ _ h2 (by omega) (by omega) (by omega)]
    simp
  ·rw [cf c, if_neg c]
   exact gaps_l n s l hl K ke hK rest m (i + 1) _ _ h2 (by omega) (by omega) (by omega)
theorem Gaps_F (h : 4294967210 ≤ F) (l : List SSpan) (s : SSpan) (k : List SSpan → Option R) (ok : Ok 0 l) (hl : l.length ≤ 1073741824) (hs : s.xFrom < s.xTo) : G34 capB F l s k = k (gapsL s.xFrom s.xTo s.xFrom l) := by
 obtain ⟨n, rfl⟩ : ∃ n, F = n + 1 := ⟨F - 1, by omega⟩
 have hg := fun ke hK => gaps_l (R := R) n s l hl k ke hK l n 0 [] s.xFrom rfl (by omega) (by omega) (by simp)
 have hw : ∀ k : List SSpan → SSpan → Option R, G48 capB n l s k = k l s := fun k => by
  obtain ⟨m, rfl⟩ : ∃ m, n = m + 1 := ⟨n - 1, by omega⟩
  rfl
 simp only [G34, s34_1, s34_4, s34_8, s34_10, s34_13, s34_15, s34_18, s34_24, s34_25, s34_28, s34_30, s34_32, s34_33, s34_36, s34_38, s34_41, s34_43, s34_45, s34_48, s34_50, s34_52, s34_53, s34_56, s34_58]
 rw [spCheck_F (by omega) l _ ok hl, cnt rfl, cf (by omega), hw]
 rw [show (0 : Int) = ((0 : Nat) : Int) from rfl, hg]
 ·simp
 ·intro out a ho
  by_cases c : a < s.xTo
  ·rw [ct c, if_pos c, cap_ok (by simp only [List.length_cons, List.length_nil]; omega)]
  ·rw [cf c, if_neg c]; simp
theorem shr_u1 {x : Int} : shr .u64 x 1 = x / 2 := by
 unfold shr
 rw [show min (Int.toNat 1) IntKind.u64.bits = 1 from rfl, Int.pow_one]
 exact Int.fdiv_eq_ediv_of_nonneg _ (by omega)
theorem POk_mono : ∀ {l : List SPiece} {lo : Int}, POk lo l → ∀ (i j : Nat), i ≤ j → j < l.length → (l.getD i zPiece).xFrom ≤ (l.getD j zPiece).xFrom
 | [], _, _, i, j, _, h => by simp at h
 | x :: r, lo, h, 0, 0, _, _ => Int.le_refl _
 | x :: r, lo, h, 0, j + 1, _, hj => by
  simp only [List.length_cons] at hj
  have hj' : j < r.length := by omega
  have hm : r.getD j zPiece ∈ r := by rw [List.getD_eq_getElem?_getD, List.getElem?_eq_getElem hj']; exact List.getElem_mem _
  have := (POk_from h.2.2 _ hm).1
  have := end_lt h.2.1
  simp only [List.getD_cons_zero, List.getD_cons_succ]; omega
 | x :: r, lo, h, i + 1, 0, hij, _ => by omega
 | x :: r, lo, h, i + 1, j + 1, hij, hj => by
  simp only [List.length_cons] at hj
  simp only [List.getD_cons_succ]
  exact POk_mono h.2.2 i j (by omega) (by omega)
theorem ins_at (p : SPiece) : ∀ (l : List SPiece) (i : Nat), i ≤ l.length → (∀ k, k < i → (l.getD k zPiece).xFrom < p.xFrom) → (∀ k, i ≤ k → k < l.length → p.xFrom ≤ (l.getD k zPiece).xFrom) → insL l i p = ins p l
 | [], i, h, _, _ => by simp at h; subst h; rfl
 | x :: r, 0, h, _, h2 => by
  have := h2 0 (Nat.le_refl _) (by simp)
  simp only [List.getD_cons_zero] at this
  unfold ins; rw [if_neg (by omega)]; rfl
 | x :: r, i + 1, h, h1, h2 => by
  have := h1 0 (by omega)
  simp only [List.getD_cons_zero] at this
  simp only [List.length_cons] at h
  unfold ins; rw [if_pos this, ← ins_at p r i (by omega) (fun k hk => by have := h1 (k + 1) (by omega); simpa using this) (fun k hk hk2 => by have := h2 (k + 1) (by omega) (by simp; omega); simpa using this)]
  rfl
theorem bs_l (n : Nat) (l : List SPiece) (x : Int) (hx : 0 ≤ x ∧ x ≤ 562949953421312) (lo : Int) (ok : POk lo l) (h0 : 0 ≤ lo) (hl : l.length ≤ 1073741824) (hf : ∀ p ∈ l, 0 ≤ p.xFrom ∧ p.xFrom ≤ 562949953421312) : ∀ (m i j : Nat), j < i + m → i ≤ j → j ≤ l.length →
  (∀ k, k < i → (l.getD k zPiece).xFrom < x) → (∀ k, j ≤ k → k < l.length → x ≤ (l.getD k zPiece).xFrom) →
  ∃ q : Nat, (q ≤ l.length ∧ (∀ k, k < q → (l.getD k zPiece).xFrom < x) ∧ (∀ k, q ≤ k → k < l.length → x ≤ (l.getD k zPiece).xFrom)) ∧ ∀ ke : Int → Option R, l1038_8 capB (n + 1) m l x (l.length : Int) (i : Int) (j : Int) ke = ke (q : Int)
 | 0, i, j, hm, hij, _, _, _ => by omega
 | m + 1, i, j, hm, hij, hj, h1, h2 => by
  by_cases c : i < j
  ·have hh : wr .i64 (shr .u64 (wr .u64 (wr .i64 ((i : Int) + (j : Int)))) 1) = (((i + j) / 2 : Nat) : Int) := by
    rw [w64_id (n := (i : Int) + j) (by omega) (by omega), wu64, shr_u1, w64_id (by omega) (by omega)]; omega
   have hlt : (i + j) / 2 < l.length := by omega
   have hmem : l.getD ((i + j) / 2) zPiece ∈ l := by rw [List.getD_eq_getElem?_getD, List.getElem?_eq_getElem hlt]; exact List.getElem_mem _
   obtain ⟨g1, g2⟩ := hf _ hmem
   have hp : ∀ (p : SPiece) (k : Int → Option R), G44 capB (n + 1) p x k = k (wr .i64 (p.xFrom - x)) := fun p k => rfl
   by_cases d : (l.getD ((i + j) / 2) zPiece).xFrom < x
   ·obtain ⟨q, hq, e⟩ := bs_l n l x hx lo ok h0 hl hf m ((i + j) / 2 + 1) j (by omega) (by omega) hj (fun k hk => by
     have := POk_mono ok k ((i + j) / 2) (by omega) hlt; omega) h2
    refine ⟨q, hq, fun ke => ?_⟩
    simp only [l1038_8, s1038_3]
    rw [ct (show (i : Int) < j by omega), hh, ct (by omega), ct (by omega), Int.toNat_natCast, hp, w64_id (n := _ - x) (by omega) (by omega), ct (by omega), succ_w (by omega)]
    exact e ke
   ·obtain ⟨q, hq, e⟩ := bs_l n l x hx lo ok h0 hl hf m i ((i + j) / 2) (by omega) (by omega) (by omega) h1 (fun k hk hk2 => by
     have := POk_mono ok ((i + j) / 2) k (by omega) hk2; omega)
    refine ⟨q, hq, fun ke => ?_⟩
    simp only [l1038_8, s1038_3]
    rw [ct (show (i : Int) < j by omega), hh, ct (by omega), ct (by omega), Int.toNat_natCast, hp, w64_id (n := _ - x) (by omega) (by omega), cf (by omega)]
    exact e ke
  ·refine ⟨i, ⟨by omega, h1, fun k hk hk2 => h2 k (by omega) hk2⟩, fun ke => ?_⟩
   simp only [l1038_8, s1038_3]
   rw [cf (by omega)]
theorem bs_F (h : 4294967200 ≤ F) (l : List SPiece) (p : SPiece) (hx : 0 ≤ p.xFrom ∧ p.xFrom ≤ 562949953421312) (lo : Int) (ok : POk lo l) (h0 : 0 ≤ lo) (hl : l.length ≤ 1073741824) (hf : ∀ p ∈ l, 0 ≤ p.xFrom ∧ p.xFrom ≤ 562949953421312) :
  ∃ q : Nat, q ≤ l.length ∧ insL l q p = ins p l ∧ ∀ k : Int → Bool → Option R, ∃ b, G1038 capB F l p.xFrom k = k (q : Int) b := by
 obtain ⟨n, rfl⟩ : ∃ n, F = n + 2 := ⟨F - 2, by omega⟩
 obtain ⟨q, ⟨q1, q2, q3⟩, e⟩ := bs_l (R := R) n l p.xFrom hx lo ok h0 hl hf (n + 1) 0 l.length (by omega) (by omega) (Nat.le_refl _) (fun k hk => by omega) (fun k hk hk2 => by omega)
 refine ⟨q, q1, ins_at p l q q1 q2 q3, fun k => ?_⟩
 have hp : ∀ (y : SPiece) (k : Int → Option R), G44 capB (n + 1) y p.xFrom k = k (wr .i64 (y.xFrom - p.xFrom)) := fun y k => rfl
 rw [show (((0 : Nat) : Int)) = 0 from rfl] at e
 simp only [G1038, s1038_1, s1038_3, s1038_9, s1038_11, s1038_12, s1038_15, s1038_17]
 rw [e]
 by_cases c : q < l.length
 ·rw [ct (by omega), ct (by omega), ct (by omega), hp]; exact ⟨_, rfl⟩
 ·rw [cf (by omega)]; exact ⟨_, rfl⟩
theorem put_l (n : Nat) (l : List SPiece) (hl : l.length ≤ 1073741825) (lo hi : Int) (hr : Rn lo hi) : ∀ (rest : List SPiece) (m i : Nat) (pre : List SPiece) (q : SPiece) (ke : List SPiece → Option R), l.drop i = rest → rest.length < m → i ≤ l.length → pre.length < i → PW lo (q :: rest) → (∀ p ∈ q :: rest, endP p ≤ hi) →
  l33_10 capB (n + 1) m l (l.length : Int) (pre ++ [q]) (i : Int) ke = ke (pre ++ mg q rest)
 | [], m, i, pre, q, ke, hd, hm, hi', hp, hw, hh => by
  obtain ⟨m, rfl⟩ : ∃ m', m = m' + 1 := ⟨m - 1, by omega⟩
  have := drop_nil hd
  simp only [l33_10, s33_5]
  rw [cf (by omega)]; rfl
 | p :: rest, m, i, pre, q, ke, hd, hm, hi', hp, hw, hh => by
  obtain ⟨m, rfl⟩ : ∃ m', m = m' + 1 := ⟨m - 1, by omega⟩
  obtain ⟨h1, h2⟩ := drop_lt hd
  simp only [List.length_cons] at hm
  obtain ⟨z1, z2⟩ := PW_size hw hh hr
  obtain ⟨a1, a2, a3, a4⟩ := z2 q List.mem_cons_self
  obtain ⟨b1, b2, b3, b4⟩ := z2 p (List.mem_cons_of_mem _ List.mem_cons_self)
  obtain ⟨w1, w2, w3, w4, w5⟩ := hw
  have e1 : (((pre ++ [q]).length : Nat) : Int) = (pre.length : Int) + 1 := by simp
  have e2 : wr .i64 ((pre.length : Int) + 1 - 1) = (pre.length : Int) := by rw [w64_id (by omega) (by omega)]; omega
  have e3 : (pre ++ [q]).getD pre.length zPiece = q := by simp [List.getD_eq_getElem?_getD]
  have e4 : ∀ y : SPiece, (pre ++ [q]).set pre.length y = pre ++ [y] := fun y => by simp
  have hof : ∀ (k : SSpan → Option R), G42 capB (n + 1) q k = k (spx q) := fun k => by
   simp only [G42]; rw [a4]; rfl
  have hcl : ∀ (y : List Int) (k : List Int → Option R), G47 capB (n + 1) y k = k y := fun y k => by
   simp only [G47]
   rw [ct (by omega), ct (Int.le_refl _), decide_true, cond_true, Int.toNat_natCast, List.take_length]
  have hln : (pre ++ [q]).length = pre.length + 1 := by simp
  simp only [l33_10, s33_5]
  rw [ct (show (i : Int) < _ by omega), ct (show (0 : Int) ≤ i by omega), ct (show (i : Int) < _ by omega), e1, ct (by omega), e2, ct (by omega), ct (by omega), Int.toNat_natCast, hln, ct (by omega), e3, hof, rd_at hd, succ_w (by omega)]
  unfold mg
  by_cases c : endP q = p.xFrom
  ·rw [ct (show (spx q).xTo = p.xFrom from c), if_pos c, ct (by omega), ct (by omega), ct (by omega), hcl, cap_ok (by omega), ct (by omega), ct (by omega), ct (by omega), e4]
   have he : endP ⟨q.xFrom, q.xData ++ p.xData⟩ = endP p := by unfold endP at c ⊢; simp only [List.length_append]; omega
   exact put_l n l hl lo hi hr rest m (i + 1) pre ⟨q.xFrom, q.xData ++ p.xData⟩ ke h2 (by omega) (by omega) (by omega) ⟨w1, by simp [w2], by rw [he]; exact w5⟩ (fun y hy => by
    rcases List.mem_cons.1 hy with rfl | hy
    ·rw [he]; exact hh p (List.mem_cons_of_mem _ List.mem_cons_self)
    ·exact hh y (List.mem_cons_of_mem _ (List.mem_cons_of_mem _ hy)))
  ·rw [cf (show ¬ (spx q).xTo = p.xFrom from c), if_neg c, cap_ok (by simp only [List.length_cons, List.length_nil]; omega), put_l n l hl lo hi hr rest m (i + 1) (pre ++ [q]) p ke h2 (by omega) (by omega) (by rw [hln]; omega) ⟨by have := end_lt w2; omega, w4, w5⟩ (fun y hy => hh y (List.mem_cons_of_mem _ hy))]
   simp
theorem Put_F (h : 4294967210 ≤ F) (l : List SPiece) (p : SPiece) (k : List SPiece → Option R) (lo hi : Int) (hr : Rn lo hi) (ok : Lie lo hi l) (hp : p.xData ≠ []) (h1 : lo ≤ p.xFrom) (h2 : endP p ≤ hi) (hn : ∀ t, p.xFrom ≤ t → t < endP p → At l t = none) : G33 capB F l p k = k (putL l p) := by
 obtain ⟨n, rfl⟩ : ∃ n, F = n + 2 := ⟨F - 2, by omega⟩
 obtain ⟨z1, z2⟩ := PW_size ok.1.pw ok.2 hr
 have hi1 := (ins_ok p hp l lo lo ok.1 hn (Int.le_refl _) h1).1
 have hmem : ∀ y ∈ ins p l, y = p ∨ y ∈ l := by
  have : ∀ l : List SPiece, ∀ y ∈ ins p l, y = p ∨ y ∈ l := fun l => by
   induction l with
   | nil => intro y hy; exact .inl (List.mem_singleton.1 hy)
   | cons x r ih =>
    intro y hy
    unfold ins at hy
    split at hy
    ·rcases List.mem_cons.1 hy with rfl | hy
     ·exact .inr List.mem_cons_self
     ·exact (ih y hy).imp id (List.mem_cons_of_mem _)
    ·rcases List.mem_cons.1 hy with rfl | hy
     ·exact .inl rfl
     ·exact .inr hy
  exact this l
 have hi2 : ∀ y ∈ ins p l, endP y ≤ hi := fun y hy => by
  rcases hmem y hy with rfl | hy
  ·exact h2
  ·exact ok.2 y hy
 obtain ⟨z3, z4⟩ := PW_size hi1 hi2 hr
 have ep := end_lt hp
 obtain ⟨r1, r2, r3, r4⟩ := hr
 have hpl : p.xData.length ≤ 1073741824 := by unfold endP at h2; omega
 obtain ⟨q, q1, q2, q3⟩ := bs_F (R := R) (F := n + 1) (by omega) l p ⟨by omega, by omega⟩ lo ok.1 r1 z1 (fun y hy => by
  have := z2 y hy; have := (POk_from ok.1 y hy).1; have := end_lt (POk_from ok.1 y hy).2; omega)
 obtain ⟨y, ys, e⟩ := ins_cons p l
 have hlen : (insL l q p).length = l.length + 1 := insL_length q1
 simp only [G33, s33_1, s33_3, s33_5, s33_11, s33_13, s33_15, s33_16, s33_19, s33_21]
 obtain ⟨b, hb⟩ := q3 (fun r161 r162 => G1040 capB (n + 1) l fun r163 => G28 capB (n + 1) p.xData fun r164 => G45 capB (n + 1) r163 r161 ⟨p.xFrom, r164⟩ fun r165 => l33_10 capB (n + 1) (n + 1) r165 (r165.length : Int) [] 0 fun v177 => k v177)
 rw [hb]
 have hcl : ∀ k : List SPiece → Option R, G1040 capB (n + 1) l k = k l := fun k => by
  simp only [G1040]; rw [cap_ok (by omega)]
 rw [hcl, Clone_F (by omega) _ _ (by omega)]
 have hins : ∀ k : List SPiece → Option R, G45 capB (n + 1) l (q : Int) ⟨p.xFrom, p.xData⟩ k = k (insL l q p) := fun k => by
  simp only [G45]; rw [cap_ok (by omega), ct (by omega), ct (by omega), Int.toNat_natCast]
 rw [hins]
 rw [q2] at hlen ⊢
 unfold putL
 rw [e] at hlen z3 hi1 hi2 ⊢
 obtain ⟨m, hm⟩ : ∃ m, n + 1 = m + 1 := ⟨n, rfl⟩
 have step : ∀ ke : List SPiece → Option R, l33_10 capB (n + 1) (n + 1) (y :: ys) ((y :: ys).length : Int) [] 0 ke = l33_10 capB (n + 1) n (y :: ys) ((y :: ys).length : Int) ([] ++ [y]) ((1 : Nat) : Int) ke := fun ke => by
  rw [l33_10]
  simp only [s33_5]
  rw [ct (by simp only [List.length_cons]; omega), ct (Int.le_refl _), ct (by simp only [List.length_cons]; omega), cf (by simp), cap_ok (by simp), show wr .i64 (0 + 1) = ((1 : Nat) : Int) from by rw [w64_id (by omega) (by omega)]; rfl]
  rfl
 rw [step, put_l n (y :: ys) (by omega) lo hi ⟨r1, r2, r3, r4⟩ ys n 1 [] y _ rfl (by simp only [List.length_cons] at z3; omega) (by simp) (by simp) hi1 hi2]
 rfl
end
end
end Go.Proofs.Ytafnmkbehjbkdaa.M
