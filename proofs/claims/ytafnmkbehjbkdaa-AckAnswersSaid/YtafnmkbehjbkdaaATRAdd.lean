/- Spans laid into a row. -/
import Derived.Test.YtafnmkbehjbkdaaATRPut
set_option linter.unusedVariables false
set_option linter.unusedSimpArgs false
namespace Go.Proofs.Ytafnmkbehjbkdaa.M
open Go Go.RowKit
noncomputable section
theorem right_k {R : Type} (cp : Nat → Nat → Bool) (n : Nat) (l : List SSpan) (s : SSpan) (k : Int → Option R) (hl : l.length < 9223372036854775807) (hn : l.length + 3 ≤ n) :
  G39 cp (n + 1) l s k = k (if Ok 0 l then (if 0 ≤ s.xFrom ∧ s.xFrom ≤ s.xTo ∧ s.xTo ≤ 1125899906842624 then 0 else 2) else 60) := by
 obtain ⟨m, rfl⟩ : ∃ m, n = m + 1 := ⟨n - 1, by omega⟩
 simp only [G39]
 rw [spCheck_k cp m l _ hl (by omega)]
 by_cases h : Ok 0 l
 ·rw [if_pos h, cnt rfl, may_k, if_pos h]
  by_cases c : 0 ≤ s.xFrom ∧ s.xFrom ≤ s.xTo ∧ s.xTo ≤ 1125899906842624
  ·rw [cnt c, if_pos c]
  ·rw [cnf c, if_neg c]
 ·rw [if_neg h, cnf (by decide), if_neg h]
def addM : Int → Int → List SSpan → List SSpan
 | a, b, [] => [⟨a, b⟩]
 | a, b, x :: r => if x.xFrom ≤ b then addM (min a x.xFrom) (max b x.xTo) r else ⟨a, b⟩ :: x :: r
def add (a b : Int) : List SSpan → List SSpan
 | [] => [⟨a, b⟩]
 | x :: r => if x.xTo < a then x :: add a b r else addM a b (x :: r)
theorem addM_length : ∀ (l : List SSpan) (a b : Int), (addM a b l).length ≤ l.length + 1
 | [], a, b => by simp [addM]
 | x :: r, a, b => by
  unfold addM; split
  ·have := addM_length r (min a x.xFrom) (max b x.xTo); simp only [List.length_cons]; omega
  ·simp
theorem add_length (a b : Int) : ∀ (l : List SSpan), (add a b l).length ≤ l.length + 1
 | [] => by simp [add]
 | x :: r => by
  unfold add; split
  ·have := add_length a b r; simp only [List.length_cons]; omega
  ·exact addM_length _ _ _
theorem addM_Ok : ∀ (l : List SSpan) (lo a b : Int), Ok lo l → lo ≤ a → a < b → b ≤ 1125899906842624 → Ok lo (addM a b l)
 | [], lo, a, b, h, h1, h2, h3 => by unfold addM Ok; exact ⟨h1, h2, h3, trivial⟩
 | x :: r, lo, a, b, h, h1, h2, h3 => by
  unfold Ok at h
  unfold addM; split
  ·exact addM_Ok r lo _ _ (h.2.2.2.le (by omega)) (by omega) (by omega) (by omega)
  ·unfold Ok; refine ⟨h1, h2, h3, ?_⟩; unfold Ok; exact ⟨by simp only; omega, h.2⟩
theorem add_Ok (a b : Int) : ∀ (l : List SSpan) (lo : Int), Ok lo l → lo ≤ a → a < b → b ≤ 1125899906842624 → Ok lo (add a b l)
 | [], lo, h, h1, h2, h3 => by unfold add Ok; exact ⟨h1, h2, h3, trivial⟩
 | x :: r, lo, h, h1, h2, h3 => by
  have h' := h
  unfold Ok at h
  unfold add; split
  ·unfold Ok; exact ⟨h.1, h.2.1, h.2.2.1, add_Ok a b r _ h.2.2.2 (by omega) h2 h3⟩
  ·exact addM_Ok _ lo a b h' h1 h2 h3
theorem take_drop {α : Type} (l : List α) (i : Nat) : List.take (l.length - i) (l.drop i) = l.drop i := List.take_of_length_le (by simp)
theorem Add_l1 {R : Type} (n : Nat) (l out : List SSpan) (ke : Int → Int → Int → Option R) (hl : l.length < 9223372036854775807) (K : List SSpan → Option R) (i0 : Nat) : ∀ (r : List SSpan) (i m : Nat) (a b : Int), l.drop i = r → i0 ≤ i → i ≤ l.length → r.length + 1 ≤ m →
  (∀ (j : Nat) (a b : Int), i0 ≤ j → j ≤ l.length → ke (j : Int) a b = K (⟨a, b⟩ :: l.drop j)) → l23_16 capB n m l out (i : Int) a b ke = K (addM a b r)
 | [], i, 0, a, b, h, h0, hi, hk, hK => by simp at hk
 | [], i, m + 1, a, b, h, h0, hi, hk, hK => by
  have := drop_nil h
  simp only [l23_16, s23_12]
  rw [cf (by omega), hK _ _ _ h0 hi, h]; rfl
 | x :: r, i, 0, a, b, h, h0, hi, hk, hK => by simp at hk
 | x :: r, i, m + 1, a, b, h, h0, hi, hk, hK => by
  obtain ⟨h1, h2⟩ := drop_lt h
  simp only [l23_16, s23_12]
  rw [ct (by omega), ct (by omega), ct (by omega), rd_at h]
  unfold addM
  by_cases c : x.xFrom ≤ b
  ·rw [ct c, if_pos c, ct (by omega), ct (by omega), ct (by omega), ct (by omega), succ_w (by omega), mn_min, mx_max]
   exact Add_l1 n l out ke hl K i0 r (i + 1) m _ _ h2 (by omega) (by omega) (by simpa using hk) hK
  ·rw [cf c, if_neg c, hK _ _ _ h0 hi, h]
theorem Add_l0 {R : Type} (n : Nat) (l : List SSpan) (s : SSpan) (ke : List SSpan → Int → Option R) (hl : l.length < 8796093022200) (K : List SSpan → Option R) (a b : Int) (hs : s.xFrom = a) :
  ∀ (r : List SSpan) (i m : Nat) (out : List SSpan), l.drop i = r → i ≤ l.length → out.length ≤ i → r.length + 1 ≤ m →
  (∀ (j : Nat) (out : List SSpan) (r : List SSpan), l.drop j = r → j ≤ l.length → out.length ≤ j → ke out (j : Int) = K (out ++ addM a b r)) → l23_8 capB n m l s out (i : Int) ke = K (out ++ add a b r)
 | [], i, 0, out, h, hi, ho, hk, hK => by simp at hk
 | [], i, m + 1, out, h, hi, ho, hk, hK => by
  have := drop_nil h
  simp only [l23_8, s23_4]
  rw [cf (by omega), hK i out [] h hi ho]; rfl
 | x :: r, i, 0, out, h, hi, ho, hk, hK => by simp at hk
 | x :: r, i, m + 1, out, h, hi, ho, hk, hK => by
  obtain ⟨h1, h2⟩ := drop_lt h
  simp only [l23_8, s23_4]
  rw [ct (by omega), ct (by omega), ct (by omega), rd_at h, hs]
  unfold add
  by_cases c : x.xTo < a
  ·rw [ct c, if_pos c, ct (by omega), ct (by omega), cap_ok (by simp only [List.length_cons, List.length_nil]; omega), succ_w (by omega), Add_l0 n l s ke hl K a b hs r (i + 1) m _ h2 (by omega) (by simp; omega) (by simpa using hk) hK]
   simp
  ·rw [cf c, if_neg c]
   exact hK i out (x :: r) h hi ho
theorem Add_k {R : Type} (n : Nat) (l : List SSpan) (s : SSpan) (k : List SSpan → Int → Option R) (hl : l.length < 8796093022200) (hn : l.length + 4 ≤ n) (h : Ok 0 l) (h1 : 0 ≤ s.xFrom) (h2 : s.xFrom < s.xTo) (h3 : s.xTo ≤ 1125899906842624) :
  G23 capB (n + 1) l s k = k (add s.xFrom s.xTo l) 0 := by
 obtain ⟨m, rfl⟩ : ∃ m, n = m + 1 := ⟨n - 1, by omega⟩
 show G39 capB (m + 1) l s (fun e => cond (!decide (e = 0)) (k [] e) (cond (decide (s.xFrom = s.xTo)) (G27 capB (m + 1) l fun r => k r 0) (l23_8 capB (m + 1) (m + 1) l s [] ((0 : Nat) : Int) fun out i => l23_16 capB (m + 1) (m + 1) l out i s.xFrom s.xTo fun i a b => s23_20 capB (m + 1) l out i a b fun r => k r 0))) = _
 rw [right_k capB m l s _ (by omega) (by omega), if_pos h, if_pos ⟨h1, by omega, h3⟩, cnt rfl, cf (by omega)]
 refine Add_l0 (m + 1) l s _ hl (fun r => k r 0) s.xFrom s.xTo rfl l 0 (m + 1) [] rfl (by omega) (by simp) (by omega) (fun j out r hj hj2 ho => ?_)
 refine Add_l1 (m + 1) l out _ (by omega) (fun r => k (out ++ r) 0) j r j (m + 1) _ _ hj (Nat.le_refl _) hj2 (by rw [← hj, List.length_drop]; omega) (fun i a b hji hi => ?_)
 unfold s23_20
 rw [Int.toNat_natCast, take_drop, cap_ok (by simp only [List.length_cons, List.length_nil]; omega), ct (by omega), ct (by omega), cap_ok (by simp only [List.length_append, List.length_cons, List.length_nil, List.length_drop]; omega)]
 simp
def In (t : Int) (l : List SSpan) : Prop := ∃ s ∈ l, s.xFrom ≤ t ∧ t < s.xTo
theorem In_nil {t : Int} : ¬ In t [] := by rintro ⟨s, h, _⟩; cases h
theorem In_cons {t : Int} {x : SSpan} {l : List SSpan} : In t (x :: l) ↔ (x.xFrom ≤ t ∧ t < x.xTo) ∨ In t l := by
 unfold In
 constructor
 ·rintro ⟨s, h, g⟩
  rcases List.mem_cons.1 h with rfl | h
  ·exact .inl g
  ·exact .inr ⟨s, h, g⟩
 ·rintro (g | ⟨s, h, g⟩)
  ·exact ⟨x, List.mem_cons_self, g⟩
  ·exact ⟨s, List.mem_cons_of_mem _ h, g⟩
theorem In_ge : ∀ {l : List SSpan} {lo t : Int}, Ok lo l → In t l → lo ≤ t
 | [], _, _, _, h => (In_nil h).elim
 | x :: r, lo, t, h, g => by
  unfold Ok at h
  rcases In_cons.1 g with g | g
  ·omega
  ·have := In_ge h.2.2.2 g; omega
theorem Ok_uniq : ∀ {l l' : List SSpan} {lo lo' : Int}, Ok lo l → Ok lo' l' → (∀ t, In t l ↔ In t l') → l = l'
 | [], [], _, _, _, _, _ => rfl
 | [], y :: r', _, _, _, h', e => by
  unfold Ok at h'
  exact (In_nil ((e y.xFrom).2 (In_cons.2 (.inl ⟨Int.le_refl _, h'.2.1⟩)))).elim
 | x :: r, [], _, _, h, _, e => by
  unfold Ok at h
  exact (In_nil ((e x.xFrom).1 (In_cons.2 (.inl ⟨Int.le_refl _, h.2.1⟩)))).elim
 | x :: r, y :: r', lo, lo', h, h', e => by
  unfold Ok at h h'
  obtain ⟨a1, a2, a3, a4⟩ := h
  obtain ⟨b1, b2, b3, b4⟩ := h'
  have gx : ∀ t, In t r → x.xTo + 1 ≤ t := fun t g => In_ge a4 g
  have gy : ∀ t, In t r' → y.xTo + 1 ≤ t := fun t g => In_ge b4 g
  have e' : ∀ t, (x.xFrom ≤ t ∧ t < x.xTo) ∨ In t r ↔ (y.xFrom ≤ t ∧ t < y.xTo) ∨ In t r' := fun t => by rw [← In_cons, ← In_cons]; exact e t
  have f1 : y.xFrom ≤ x.xFrom := by
   rcases (e' x.xFrom).1 (.inl ⟨by omega, a2⟩) with g | g
   ·exact g.1
   ·have := gy _ g; omega
  have f2 : x.xFrom ≤ y.xFrom := by
   rcases (e' y.xFrom).2 (.inl ⟨by omega, b2⟩) with g | g
   ·exact g.1
   ·have := gx _ g; omega
  have t1 : y.xTo ≤ x.xTo := by
   rcases Int.lt_or_le x.xTo y.xTo with c | c
   ·rcases (e' x.xTo).2 (.inl ⟨by omega, c⟩) with g | g
    ·omega
    ·have := gx _ g; omega
   ·exact c
  have t2 : x.xTo ≤ y.xTo := by
   rcases Int.lt_or_le y.xTo x.xTo with c | c
   ·rcases (e' y.xTo).1 (.inl ⟨by omega, c⟩) with g | g
    ·omega
    ·have := gy _ g; omega
   ·exact c
  have exy : x = y := by cases x; cases y; simp only at f1 f2 t1 t2; congr <;> omega
  have : r = r' := Ok_uniq a4 b4 fun t => by
   constructor
   ·intro g
    rcases (e' t).1 (.inr g) with c | c
    ·have := gx _ g; omega
    ·exact c
   ·intro g
    rcases (e' t).2 (.inr g) with c | c
    ·have := gy _ g; omega
    ·exact c
  rw [exy, this]
theorem Ok_ge : ∀ {l : List SSpan} {lo : Int}, Ok lo l → ∀ y ∈ l, lo ≤ y.xFrom ∧ y.xFrom < y.xTo
 | [], _, _, _, h => by cases h
 | x :: r, lo, h, y, hy => by
  unfold Ok at h
  rcases List.mem_cons.1 hy with rfl | hy
  ·exact ⟨h.1, h.2.1⟩
  ·have := Ok_ge h.2.2.2 y hy; omega
theorem addM_In (t : Int) : ∀ (l : List SSpan) (a b : Int), (∀ y ∈ l, a ≤ y.xTo ∧ y.xFrom < y.xTo) → a < b → (In t (addM a b l) ↔ (a ≤ t ∧ t < b) ∨ In t l)
 | [], a, b, _, _ => by unfold addM; rw [In_cons]
 | x :: r, a, b, h, hab => by
  have hx := h x List.mem_cons_self
  unfold addM
  split
  ·rename_i c
   rw [addM_In t r _ _ (fun y hy => ⟨by have := h y (List.mem_cons_of_mem _ hy); omega, (h y (List.mem_cons_of_mem _ hy)).2⟩) (by omega), In_cons, ← or_assoc]
   apply or_congr_left
   omega
  ·rw [In_cons]
theorem add_In (t a b : Int) (hab : a < b) : ∀ (l : List SSpan) (lo : Int), Ok lo l → (In t (add a b l) ↔ (a ≤ t ∧ t < b) ∨ In t l)
 | [], _, _ => by unfold add; rw [In_cons]
 | x :: r, lo, h => by
  have h' := h
  unfold Ok at h
  unfold add
  split
  ·rw [In_cons, add_In t a b hab r _ h.2.2.2, In_cons]
   constructor
   ·rintro (g | g | g)
    ·exact .inr (.inl g)
    ·exact .inl g
    ·exact .inr (.inr g)
   ·rintro (g | g | g)
    ·exact .inr (.inl g)
    ·exact .inl g
    ·exact .inr (.inr g)
  ·rename_i c
   refine addM_In t _ a b (fun y hy => ?_) hab
   rcases List.mem_cons.1 hy with rfl | hy
   ·exact ⟨by omega, h.2.1⟩
   ·have := Ok_ge h.2.2.2 y hy; omega
end
end Go.Proofs.Ytafnmkbehjbkdaa.M
