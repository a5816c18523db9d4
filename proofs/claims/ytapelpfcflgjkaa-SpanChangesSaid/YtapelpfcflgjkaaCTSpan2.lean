/- What the program's rows of spans answer, in plain rows. -/
import Derived.Test.YtapelpfcflgjkaaCTKit
set_option linter.unusedVariables false
set_option linter.unusedSimpArgs false
namespace Go.Proofs.Ytapelpfcflgjkaa.M
open Go Go.RowKit

/-- A row that may be: every span begins at 'lo' or behind it, none touches the next. -/
def Ok : Int → List SSpan → Prop
  | _, [] => True
  | lo, x :: r => lo ≤ x.xFrom ∧ x.xFrom < x.xTo ∧ x.xTo ≤ 1125899906842624 ∧ Ok (x.xTo + 1) r
instance Ok.dec : ∀ lo l, Decidable (Ok lo l)
  | _, [] => isTrue trivial
  | lo, x :: r => by unfold Ok; have := Ok.dec (x.xTo + 1) r; exact inferInstance
theorem Ok.le {lo lo' : Int} (h : lo' ≤ lo) : ∀ {l : List SSpan}, Ok lo l → Ok lo' l
  | [], _ => trivial
  | x :: r, hh => by unfold Ok at hh ⊢; exact ⟨by omega, hh.2⟩

theorem may_k {R : Type} (cp : Nat → Nat → Bool) (n : Nat) (s : SSpan) (k : Bool → Option R) : G_span_may cp (n + 1) s k = k (decide (0 ≤ s.xFrom ∧ s.xFrom ≤ s.xTo ∧ s.xTo ≤ 1125899906842624)) := by
  simp only [G_span_may]
  by_cases h1 : 0 ≤ s.xFrom
  · rw [ct h1]
    by_cases h2 : s.xFrom ≤ s.xTo
    · rw [ct h2]; congr 1; exact decide_eq_decide.2 ⟨fun h => ⟨h1, h2, h⟩, fun h => h.2.2⟩
    · rw [cf h2, decide_eq_false (by omega)]
  · rw [cf h1, decide_eq_false (by omega)]
/-- Where a row's rest must begin. -/
def low (l : List SSpan) (i : Nat) : Int := if i = 0 then 0 else (l.getD (i - 1) zSpan).xTo + 1
theorem Check_loop {R : Type} (cp : Nat → Nat → Bool) (n : Nat) (kr ke : Option R) (l : List SSpan) (hl : l.length < 9223372036854775807) : ∀ (r : List SSpan) (i m : Nat), l.drop i = r → i ≤ l.length → r.length + 1 ≤ m → 0 ≤ low l i →
    l_span_Check_10 cp (n + 1) m l (l.length : Int) (i : Int) kr ke = if Ok (low l i) r then ke else kr
  | [], i, 0, h, hi, hk, h0 => by simp at hk
  | [], i, m + 1, h, hi, hk, h0 => by
    have := drop_nil h
    simp only [l_span_Check_10, s_span_Check_5]; rw [cf (by omega), if_pos (by unfold Ok; trivial)]
  | x :: r, i, 0, h, hi, hk, h0 => by simp at hk
  | x :: r, i, m + 1, h, hi, hk, h0 => by
    obtain ⟨h1, h2⟩ := drop_lt h
    have ih := fun h0 => Check_loop cp n kr ke l hl r (i + 1) m h2 (by omega) (by simpa using hk) h0
    have hlow : low l (i + 1) = x.xTo + 1 := by
      have := rd_at (z := zSpan) h
      rw [Int.toNat_natCast] at this
      unfold low; rw [if_neg (by omega), Nat.add_sub_cancel, this]
    rw [hlow] at ih
    simp only [l_span_Check_10, s_span_Check_5]
    rw [ct (by omega), ct (by omega), ct (by omega), rd_at h, may_k]
    have hw := succ_w (i := i) (by omega)
    by_cases c1 : 0 ≤ x.xFrom ∧ x.xFrom ≤ x.xTo ∧ x.xTo ≤ 1125899906842624
    · rw [cnt c1]
      have ih := ih (by omega)
      by_cases c2 : x.xFrom = x.xTo
      · rw [ct c2, if_neg (by unfold Ok; omega)]
      rw [cf c2]
      by_cases c3 : i = 0
      · rw [cf (by omega), hw, ih]
        have : Ok (low l i) (x :: r) ↔ Ok (x.xTo + 1) r := by
          unfold low; rw [if_pos c3]
          constructor
          · intro h; unfold Ok at h; exact h.2.2.2
          · intro h; unfold Ok; exact ⟨c1.1, by omega, c1.2.2, h⟩
        by_cases c4 : Ok (x.xTo + 1) r
        · rw [if_pos c4, if_pos (this.2 c4)]
        · rw [if_neg c4, if_neg (fun h => c4 (this.1 h))]
      · have hw2 : wr .i64 ((i : Int) - 1) = ((i - 1 : Nat) : Int) := by rw [w64_id (by omega) (by omega)]; omega
        have hlo : low l i = (l.getD (i - 1) zSpan).xTo + 1 := by unfold low; rw [if_neg c3]
        rw [ct (by omega), hw2, ct (by omega), ct (by omega), hlo, Int.toNat_natCast]
        by_cases c5 : x.xFrom ≤ (l.getD (i - 1) zSpan).xTo
        · rw [ct c5, if_neg (by unfold Ok; omega)]
        rw [cf c5, hw, ih]
        have : Ok ((l.getD (i - 1) zSpan).xTo + 1) (x :: r) ↔ Ok (x.xTo + 1) r := by
          constructor
          · intro h; unfold Ok at h; exact h.2.2.2
          · intro h; unfold Ok; exact ⟨by omega, by omega, c1.2.2, h⟩
        by_cases c4 : Ok (x.xTo + 1) r
        · rw [if_pos c4, if_pos (this.2 c4)]
        · rw [if_neg c4, if_neg (fun h => c4 (this.1 h))]
    · rw [cnf c1]
      have hneg : ¬ Ok (low l i) (x :: r) := by
        intro h; unfold Ok at h
        apply c1
        exact ⟨by omega, by omega, h.2.2.1⟩
      rw [if_neg hneg]
theorem Check_k {R : Type} (cp : Nat → Nat → Bool) (n : Nat) (l : List SSpan) (k : Int → Option R) (hl : l.length < 9223372036854775807) (hn : l.length + 2 ≤ n) : G_span_Check cp (n + 1) l k = k (if Ok 0 l then 0 else 60) := by
  obtain ⟨m, rfl⟩ : ∃ m, n = m + 1 := ⟨n - 1, by omega⟩
  show l_span_Check_10 cp (m + 1) (m + 1) l (l.length : Int) ((0 : Nat) : Int) (k 60) (k 0) = _
  rw [Check_loop cp m _ _ l hl l 0 (m + 1) rfl (by omega) (by omega) (by unfold low; simp)]
  unfold low
  simp only [if_true]
  split <;> rfl
theorem right_k {R : Type} (cp : Nat → Nat → Bool) (n : Nat) (l : List SSpan) (s : SSpan) (k : Int → Option R) (hl : l.length < 9223372036854775807) (hn : l.length + 3 ≤ n) :
    G_span_right cp (n + 1) l s k = k (if Ok 0 l then (if 0 ≤ s.xFrom ∧ s.xFrom ≤ s.xTo ∧ s.xTo ≤ 1125899906842624 then 0 else 2) else 60) := by
  obtain ⟨m, rfl⟩ : ∃ m, n = m + 1 := ⟨n - 1, by omega⟩
  simp only [G_span_right]
  rw [Check_k cp m l _ hl (by omega)]
  by_cases h : Ok 0 l
  · rw [if_pos h, cnt rfl, may_k, if_pos h]
    by_cases c : 0 ≤ s.xFrom ∧ s.xFrom ≤ s.xTo ∧ s.xTo ≤ 1125899906842624
    · rw [cnt c, if_pos c]
    · rw [cnf c, if_neg c]
  · rw [if_neg h, cnf (by decide), if_neg h]
/-- A span laid into a row: what it meets becomes one with it. -/
def addM : Int → Int → List SSpan → List SSpan
  | a, b, [] => [⟨a, b⟩]
  | a, b, x :: r => if x.xFrom ≤ b then addM (min a x.xFrom) (max b x.xTo) r else ⟨a, b⟩ :: x :: r
def add (a b : Int) : List SSpan → List SSpan
  | [] => [⟨a, b⟩]
  | x :: r => if x.xTo < a then x :: add a b r else addM a b (x :: r)
theorem addM_length : ∀ (l : List SSpan) (a b : Int), (addM a b l).length ≤ l.length + 1
  | [], a, b => by simp [addM]
  | x :: r, a, b => by
    unfold addM; split
    · have := addM_length r (min a x.xFrom) (max b x.xTo); simp only [List.length_cons]; omega
    · simp
theorem add_length (a b : Int) : ∀ (l : List SSpan), (add a b l).length ≤ l.length + 1
  | [] => by simp [add]
  | x :: r => by
    unfold add; split
    · have := add_length a b r; simp only [List.length_cons]; omega
    · exact addM_length _ _ _
theorem addM_Ok : ∀ (l : List SSpan) (lo a b : Int), Ok lo l → lo ≤ a → a < b → b ≤ 1125899906842624 → Ok lo (addM a b l)
  | [], lo, a, b, h, h1, h2, h3 => by unfold addM Ok; exact ⟨h1, h2, h3, trivial⟩
  | x :: r, lo, a, b, h, h1, h2, h3 => by
    unfold Ok at h
    unfold addM; split
    · exact addM_Ok r lo _ _ (h.2.2.2.le (by omega)) (by omega) (by omega) (by omega)
    · unfold Ok; refine ⟨h1, h2, h3, ?_⟩; unfold Ok; exact ⟨by simp only; omega, h.2⟩
theorem add_Ok (a b : Int) : ∀ (l : List SSpan) (lo : Int), Ok lo l → lo ≤ a → a < b → b ≤ 1125899906842624 → Ok lo (add a b l)
  | [], lo, h, h1, h2, h3 => by unfold add Ok; exact ⟨h1, h2, h3, trivial⟩
  | x :: r, lo, h, h1, h2, h3 => by
    have h' := h
    unfold Ok at h
    unfold add; split
    · unfold Ok; exact ⟨h.1, h.2.1, h.2.2.1, add_Ok a b r _ h.2.2.2 (by omega) h2 h3⟩
    · exact addM_Ok _ lo a b h' h1 h2 h3
theorem addM_in (A B : Int) : ∀ (l : List SSpan) (a b : Int), (∀ x ∈ l, A ≤ x.xFrom ∧ x.xTo ≤ B) → A ≤ a → b ≤ B → ∀ x ∈ addM a b l, A ≤ x.xFrom ∧ x.xTo ≤ B
  | [], a, b, h, h1, h2 => by unfold addM; simp; exact ⟨h1, h2⟩
  | x :: r, a, b, h, h1, h2 => by
    have hx := h x (by simp)
    unfold addM; split
    · exact addM_in A B r _ _ (fun y hy => h y (by simp [hy])) (by omega) (by omega)
    · intro y hy
      rcases List.mem_cons.1 hy with rfl | hy
      · exact ⟨h1, h2⟩
      · exact h y hy
theorem add_in (A B a b : Int) : ∀ (l : List SSpan), (∀ x ∈ l, A ≤ x.xFrom ∧ x.xTo ≤ B) → A ≤ a → b ≤ B → ∀ x ∈ add a b l, A ≤ x.xFrom ∧ x.xTo ≤ B
  | [], h, h1, h2 => by unfold add; simp; exact ⟨h1, h2⟩
  | x :: r, h, h1, h2 => by
    unfold add; split
    · intro y hy
      rcases List.mem_cons.1 hy with rfl | hy
      · exact h y (by simp)
      · exact add_in A B a b r (fun z hz => h z (by simp [hz])) h1 h2 y hy
    · exact addM_in A B _ a b h h1 h2
theorem take_drop {α : Type} (l : List α) (i : Nat) : List.take (l.length - i) (l.drop i) = l.drop i := List.take_of_length_le (by simp)
theorem Add_l1 {R : Type} (n : Nat) (l out : List SSpan) (ke : Int → Int → Int → Option R) (hl : l.length < 9223372036854775807) (K : List SSpan → Option R) (i0 : Nat) : ∀ (r : List SSpan) (i m : Nat) (a b : Int), l.drop i = r → i0 ≤ i → i ≤ l.length → r.length + 1 ≤ m →
    (∀ (j : Nat) (a b : Int), i0 ≤ j → j ≤ l.length → ke (j : Int) a b = K (⟨a, b⟩ :: l.drop j)) → l_span_Add_16 capB n m l out (i : Int) a b ke = K (addM a b r)
  | [], i, 0, a, b, h, h0, hi, hk, hK => by simp at hk
  | [], i, m + 1, a, b, h, h0, hi, hk, hK => by
    have := drop_nil h
    simp only [l_span_Add_16, s_span_Add_12]
    rw [cf (by omega), hK _ _ _ h0 hi, h]; rfl
  | x :: r, i, 0, a, b, h, h0, hi, hk, hK => by simp at hk
  | x :: r, i, m + 1, a, b, h, h0, hi, hk, hK => by
    obtain ⟨h1, h2⟩ := drop_lt h
    simp only [l_span_Add_16, s_span_Add_12]
    rw [ct (by omega), ct (by omega), ct (by omega), rd_at h]
    unfold addM
    by_cases c : x.xFrom ≤ b
    · rw [ct c, if_pos c, ct (by omega), ct (by omega), ct (by omega), ct (by omega), succ_w (by omega), mn_min, mx_max]
      exact Add_l1 n l out ke hl K i0 r (i + 1) m _ _ h2 (by omega) (by omega) (by simpa using hk) hK
    · rw [cf c, if_neg c, hK _ _ _ h0 hi, h]
theorem Add_l0 {R : Type} (n : Nat) (l : List SSpan) (s : SSpan) (ke : List SSpan → Int → Option R) (hl : l.length < 8796093022200) (K : List SSpan → Option R) (a b : Int) (hs : s.xFrom = a) :
    ∀ (r : List SSpan) (i m : Nat) (out : List SSpan), l.drop i = r → i ≤ l.length → out.length ≤ i → r.length + 1 ≤ m →
    (∀ (j : Nat) (out : List SSpan) (r : List SSpan), l.drop j = r → j ≤ l.length → out.length ≤ j → ke out (j : Int) = K (out ++ addM a b r)) → l_span_Add_8 capB n m l s out (i : Int) ke = K (out ++ add a b r)
  | [], i, 0, out, h, hi, ho, hk, hK => by simp at hk
  | [], i, m + 1, out, h, hi, ho, hk, hK => by
    have := drop_nil h
    simp only [l_span_Add_8, s_span_Add_4]
    rw [cf (by omega), hK i out [] h hi ho]; rfl
  | x :: r, i, 0, out, h, hi, ho, hk, hK => by simp at hk
  | x :: r, i, m + 1, out, h, hi, ho, hk, hK => by
    obtain ⟨h1, h2⟩ := drop_lt h
    simp only [l_span_Add_8, s_span_Add_4]
    rw [ct (by omega), ct (by omega), ct (by omega), rd_at h, hs]
    unfold add
    by_cases c : x.xTo < a
    · rw [ct c, if_pos c, ct (by omega), ct (by omega), cap_ok (by simp only [List.length_cons, List.length_nil]; omega), succ_w (by omega), Add_l0 n l s ke hl K a b hs r (i + 1) m _ h2 (by omega) (by simp; omega) (by simpa using hk) hK]
      simp
    · rw [cf c, if_neg c]
      exact hK i out (x :: r) h hi ho
theorem Add_k {R : Type} (n : Nat) (l : List SSpan) (s : SSpan) (k : List SSpan → Int → Option R) (hl : l.length < 8796093022200) (hn : l.length + 4 ≤ n) (h : Ok 0 l) (h1 : 0 ≤ s.xFrom) (h2 : s.xFrom < s.xTo) (h3 : s.xTo ≤ 1125899906842624) :
    G_span_Add capB (n + 1) l s k = k (add s.xFrom s.xTo l) 0 := by
  obtain ⟨m, rfl⟩ : ∃ m, n = m + 1 := ⟨n - 1, by omega⟩
  show G_span_right capB (m + 1) l s (fun e => cond (!decide (e = 0)) (k [] e) (cond (decide (s.xFrom = s.xTo)) (G_slices_Clone_Span capB (m + 1) l fun r => k r 0) (l_span_Add_8 capB (m + 1) (m + 1) l s [] ((0 : Nat) : Int) fun out i => l_span_Add_16 capB (m + 1) (m + 1) l out i s.xFrom s.xTo fun i a b => s_span_Add_20 capB (m + 1) l out i a b fun r => k r 0))) = _
  rw [right_k capB m l s _ (by omega) (by omega), if_pos h, if_pos ⟨h1, by omega, h3⟩, cnt rfl, cf (by omega)]
  refine Add_l0 (m + 1) l s _ hl (fun r => k r 0) s.xFrom s.xTo rfl l 0 (m + 1) [] rfl (by omega) (by simp) (by omega) (fun j out r hj hj2 ho => ?_)
  refine Add_l1 (m + 1) l out _ (by omega) (fun r => k (out ++ r) 0) j r j (m + 1) _ _ hj (Nat.le_refl _) hj2 (by rw [← hj, List.length_drop]; omega) (fun i a b hji hi => ?_)
  unfold s_span_Add_20
  rw [Int.toNat_natCast, take_drop, cap_ok (by simp only [List.length_cons, List.length_nil]; omega), ct (by omega), ct (by omega), cap_ok (by simp only [List.length_append, List.length_cons, List.length_nil, List.length_drop]; omega)]
  simp
theorem Add_err {R : Type} (n : Nat) (l : List SSpan) (s : SSpan) (k : List SSpan → Int → Option R) (hl : l.length < 8796093022200) (hn : l.length + 4 ≤ n) (h : ¬ (Ok 0 l ∧ 0 ≤ s.xFrom ∧ s.xFrom ≤ s.xTo ∧ s.xTo ≤ 1125899906842624)) :
    G_span_Add capB (n + 1) l s k = k [] (if Ok 0 l then 2 else 60) := by
  obtain ⟨m, rfl⟩ : ∃ m, n = m + 1 := ⟨n - 1, by omega⟩
  show G_span_right capB (m + 1) l s (fun e => cond (!decide (e = 0)) (k [] e) _) = _
  rw [right_k capB m l s _ (by omega) (by omega)]
  by_cases h0 : Ok 0 l
  · rw [if_pos h0, if_neg (fun x => h ⟨h0, x⟩), cnf (by decide)]
    simp only [h0, if_true]
  · rw [if_neg h0, cnf (by decide)]
    simp only [h0, if_false]
theorem Add_nil {R : Type} (n : Nat) (l : List SSpan) (s : SSpan) (k : List SSpan → Int → Option R) (hl : l.length < 8796093022200) (hn : l.length + 4 ≤ n) (h : Ok 0 l) (h1 : 0 ≤ s.xFrom) (h2 : s.xFrom = s.xTo) (h3 : s.xTo ≤ 1125899906842624) :
    G_span_Add capB (n + 1) l s k = k l 0 := by
  obtain ⟨m, rfl⟩ : ∃ m, n = m + 1 := ⟨n - 1, by omega⟩
  show G_span_right capB (m + 1) l s (fun e => cond (!decide (e = 0)) (k [] e) (cond (decide (s.xFrom = s.xTo)) (G_slices_Clone_Span capB (m + 1) l fun r => k r 0) _)) = _
  rw [right_k capB m l s _ (by omega) (by omega), if_pos h, if_pos ⟨h1, by omega, h3⟩, cnt rfl, ct h2]
  show cond (capB (0 + l.length) 16) (k l 0) none = _
  rw [cap_ok (by omega)]
end Go.Proofs.Ytapelpfcflgjkaa.M
