/- Rows of spans as sets of offsets. -/
import Derived.Test.YtapelpfcflgjkaaCTSpan2
set_option linter.unusedVariables false
set_option linter.unusedSimpArgs false
namespace Go.Proofs.Ytapelpfcflgjkaa.M
open Go Go.RowKit
def In (t : Int) (l : List SSpan) : Prop := ∃ s ∈ l, s.xFrom ≤ t ∧ t < s.xTo
theorem In_nil {t : Int} : ¬ In t [] := by rintro ⟨s, h, _⟩; cases h
theorem In_cons {t : Int} {x : SSpan} {l : List SSpan} : In t (x :: l) ↔ (x.xFrom ≤ t ∧ t < x.xTo) ∨ In t l := by
  unfold In
  constructor
  · rintro ⟨s, h, g⟩
    rcases List.mem_cons.1 h with rfl | h
    · exact .inl g
    · exact .inr ⟨s, h, g⟩
  · rintro (g | ⟨s, h, g⟩)
    · exact ⟨x, List.mem_cons_self, g⟩
    · exact ⟨s, List.mem_cons_of_mem _ h, g⟩
theorem In_app {t : Int} {l r : List SSpan} : In t (l ++ r) ↔ In t l ∨ In t r := by
  induction l with
  | nil => simp [In_nil]
  | cons x l ih => rw [List.cons_append, In_cons, In_cons, ih, or_assoc]
theorem In_ge : ∀ {l : List SSpan} {lo t : Int}, Ok lo l → In t l → lo ≤ t
  | [], _, _, _, h => (In_nil h).elim
  | x :: r, lo, t, h, g => by
    unfold Ok at h
    rcases In_cons.1 g with g | g
    · omega
    · have := In_ge h.2.2.2 g; omega
theorem Ok_uniq : ∀ {l l' : List SSpan} {lo lo' : Int}, Ok lo l → Ok lo' l' → (∀ t, In t l ↔ In t l') → l = l'
  | [], [], _, _, _, _, _ => rfl
  | [], y :: r', _, _, _, h', e => by
    unfold Ok at h'
    exact (In_nil ((e y.xFrom).2 (In_cons.2 (.inl ⟨Int.le_refl _, h'.2.1⟩)))).elim
  | x :: r, [], _, _, h, _, e => by
    unfold Ok at h
    exact (In_nil ((e x.xFrom).1 (In_cons.2 (.inl ⟨Int.le_refl _, h.2.1⟩)))).elim
  | x :: r, y :: r', lo, lo', h, h', e => by
    unfold Ok at h h'
    obtain ⟨a1, a2, a3, a4⟩ := h
    obtain ⟨b1, b2, b3, b4⟩ := h'
    have gx : ∀ t, In t r → x.xTo + 1 ≤ t := fun t g => In_ge a4 g
    have gy : ∀ t, In t r' → y.xTo + 1 ≤ t := fun t g => In_ge b4 g
    have e' : ∀ t, (x.xFrom ≤ t ∧ t < x.xTo) ∨ In t r ↔ (y.xFrom ≤ t ∧ t < y.xTo) ∨ In t r' := fun t => by rw [← In_cons, ← In_cons]; exact e t
    have f1 : y.xFrom ≤ x.xFrom := by
      rcases (e' x.xFrom).1 (.inl ⟨by omega, a2⟩) with g | g
      · exact g.1
      · have := gy _ g; omega
    have f2 : x.xFrom ≤ y.xFrom := by
      rcases (e' y.xFrom).2 (.inl ⟨by omega, b2⟩) with g | g
      · exact g.1
      · have := gx _ g; omega
    have t1 : y.xTo ≤ x.xTo := by
      rcases Int.lt_or_le x.xTo y.xTo with c | c
      · rcases (e' x.xTo).2 (.inl ⟨by omega, c⟩) with g | g
        · omega
        · have := gx _ g; omega
      · exact c
    have t2 : x.xTo ≤ y.xTo := by
      rcases Int.lt_or_le y.xTo x.xTo with c | c
      · rcases (e' y.xTo).1 (.inl ⟨by omega, c⟩) with g | g
        · omega
        · have := gy _ g; omega
      · exact c
    have exy : x = y := by cases x; cases y; simp only at f1 f2 t1 t2; congr <;> omega
    have : r = r' := Ok_uniq a4 b4 fun t => by
      constructor
      · intro g
        rcases (e' t).1 (.inr g) with c | c
        · have := gx _ g; omega
        · exact c
      · intro g
        rcases (e' t).2 (.inr g) with c | c
        · have := gy _ g; omega
        · exact c
    rw [exy, this]
theorem Ok_ge : ∀ {l : List SSpan} {lo : Int}, Ok lo l → ∀ y ∈ l, lo ≤ y.xFrom ∧ y.xFrom < y.xTo
  | [], _, _, _, h => by cases h
  | x :: r, lo, h, y, hy => by
    unfold Ok at h
    rcases List.mem_cons.1 hy with rfl | hy
    · exact ⟨h.1, h.2.1⟩
    · have := Ok_ge h.2.2.2 y hy; omega
theorem addM_In (t : Int) : ∀ (l : List SSpan) (a b : Int), (∀ y ∈ l, a ≤ y.xTo ∧ y.xFrom < y.xTo) → a < b → (In t (addM a b l) ↔ (a ≤ t ∧ t < b) ∨ In t l)
  | [], a, b, _, _ => by unfold addM; rw [In_cons]
  | x :: r, a, b, h, hab => by
    have hx := h x List.mem_cons_self
    unfold addM
    split
    · rename_i c
      rw [addM_In t r _ _ (fun y hy => ⟨by have := h y (List.mem_cons_of_mem _ hy); omega, (h y (List.mem_cons_of_mem _ hy)).2⟩) (by omega), In_cons, ← or_assoc]
      apply or_congr_left
      omega
    · rw [In_cons]
theorem add_In (t a b : Int) (hab : a < b) : ∀ (l : List SSpan) (lo : Int), Ok lo l → (In t (add a b l) ↔ (a ≤ t ∧ t < b) ∨ In t l)
  | [], _, _ => by unfold add; rw [In_cons]
  | x :: r, lo, h => by
    have h' := h
    unfold Ok at h
    unfold add
    split
    · rw [In_cons, add_In t a b hab r _ h.2.2.2, In_cons]
      constructor
      · rintro (g | g | g)
        · exact .inr (.inl g)
        · exact .inl g
        · exact .inr (.inr g)
      · rintro (g | g | g)
        · exact .inr (.inl g)
        · exact .inl g
        · exact .inr (.inr g)
    · rename_i c
      refine addM_In t _ a b (fun y hy => ?_) hab
      rcases List.mem_cons.1 hy with rfl | hy
      · exact ⟨by omega, h.2.1⟩
      · have := Ok_ge h.2.2.2 y hy; omega
/-- A span may be empty: then nothing is added. -/
def addS (s : SSpan) (l : List SSpan) : List SSpan := if s.xFrom = s.xTo then l else add s.xFrom s.xTo l
def SpOk (s : SSpan) : Prop := 0 ≤ s.xFrom ∧ s.xFrom ≤ s.xTo ∧ s.xTo ≤ 1125899906842624
instance (s : SSpan) : Decidable (SpOk s) := by unfold SpOk; exact inferInstance
theorem addS_In (t : Int) {s : SSpan} {l : List SSpan} {lo : Int} (h : Ok lo l) (hs : SpOk s) : In t (addS s l) ↔ (s.xFrom ≤ t ∧ t < s.xTo) ∨ In t l := by
  unfold SpOk at hs
  unfold addS
  split
  · rename_i c
    constructor
    · exact .inr
    · rintro (g | g)
      · omega
      · exact g
  · exact add_In t _ _ (by omega) l lo h
theorem addS_Ok {s : SSpan} {l : List SSpan} (h : Ok 0 l) (hs : SpOk s) : Ok 0 (addS s l) := by
  unfold SpOk at hs
  unfold addS
  split
  · exact h
  · exact add_Ok _ _ l 0 h hs.1 (by omega) hs.2.2
theorem addS_length (s : SSpan) (l : List SSpan) : (addS s l).length ≤ l.length + 1 := by
  unfold addS
  split
  · omega
  · exact add_length _ _ l
theorem addS_comm {s t : SSpan} {l : List SSpan} (h : Ok 0 l) (hs : SpOk s) (ht : SpOk t) : addS t (addS s l) = addS s (addS t l) :=
  Ok_uniq (addS_Ok (addS_Ok h hs) ht) (addS_Ok (addS_Ok h ht) hs) fun u => by
    rw [addS_In u (addS_Ok h hs) ht, addS_In u h hs, addS_In u (addS_Ok h ht) hs, addS_In u h ht, or_left_comm]
theorem AddS_k {R : Type} (n : Nat) (l : List SSpan) (s : SSpan) (k : List SSpan → Int → Option R) (hl : l.length < 8796093022200) (hn : l.length + 4 ≤ n) :
    G_span_Add capB (n + 1) l s k = if Ok 0 l ∧ SpOk s then k (addS s l) 0 else k [] (if Ok 0 l then 2 else 60) := by
  by_cases h : Ok 0 l ∧ SpOk s
  · rw [if_pos h]
    obtain ⟨h0, h1, h2, h3⟩ := h
    unfold addS
    by_cases c : s.xFrom = s.xTo
    · rw [if_pos c, Add_nil n l s k hl hn h0 h1 c h3]
    · rw [if_neg c, Add_k n l s k hl hn h0 h1 (by omega) h3]
  · rw [if_neg h, Add_err n l s k hl hn h]
end Go.Proofs.Ytapelpfcflgjkaa.M
