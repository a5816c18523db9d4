/- What the document's rows of spans answer, and cutting, in plain rows. -/
import Derived.Test.YtapelpfcflgjkaaCTUnion
set_option linter.unusedVariables false
set_option linter.unusedSimpArgs false
namespace Go.Proofs.Ytapelpfcflgjkaa.M
open Go Go.RowKit

theorem RCheck_loop {R : Type} (cp : Nat → Nat → Bool) (n : Nat) (kr ke : Option R) (l : List SSpan) (hl : l.length < 9223372036854775807) : ∀ (r : List SSpan) (i m : Nat), l.drop i = r → i ≤ l.length → r.length + 1 ≤ m → 0 ≤ low l i →
    l_ref06_Check_10 cp n m l (i : Int) kr ke = if Ok (low l i) r then ke else kr
  | [], i, 0, h, hi, hk, h0 => by simp at hk
  | [], i, m + 1, h, hi, hk, h0 => by
    have := drop_nil h
    simp only [l_ref06_Check_10, s_ref06_Check_5]; rw [cf (by omega), if_pos (by unfold Ok; trivial)]
  | x :: r, i, 0, h, hi, hk, h0 => by simp at hk
  | x :: r, i, m + 1, h, hi, hk, h0 => by
    obtain ⟨h1, h2⟩ := drop_lt h
    have ih := fun h0 => RCheck_loop cp n kr ke l hl r (i + 1) m h2 (by omega) (by simpa using hk) h0
    have hlow : low l (i + 1) = x.xTo + 1 := by
      have := rd_at (z := zSpan) h
      rw [Int.toNat_natCast] at this
      unfold low; rw [if_neg (by omega), Nat.add_sub_cancel, this]
    rw [hlow] at ih
    simp only [l_ref06_Check_10, s_ref06_Check_5]
    have i1 : (i : Int) < (l.length : Int) := by omega
    have i2 : 0 ≤ (i : Int) := by omega
    have hw := succ_w (i := i) (by omega)
    rw [rd_at h]
    simp only [ct i1, ct i2]
    by_cases a1 : x.xFrom < 0
    · rw [ct a1, if_neg]
      intro g; unfold Ok at g; omega
    rw [cf a1]
    by_cases a2 : x.xTo ≤ x.xFrom
    · rw [ct a2, if_neg]
      intro g; unfold Ok at g; omega
    rw [cf a2]
    by_cases a3 : 1125899906842624 < x.xTo
    · rw [ct a3, if_neg]
      intro g; unfold Ok at g; omega
    rw [cf a3]
    have ih := ih (by omega)
    by_cases c3 : i = 0
    · rw [cf (by omega), hw, ih]
      have : Ok (low l i) (x :: r) ↔ Ok (x.xTo + 1) r := by
        unfold low; rw [if_pos c3]
        constructor
        · intro h; unfold Ok at h; exact h.2.2.2
        · intro h; unfold Ok; exact ⟨by omega, by omega, by omega, h⟩
      by_cases c4 : Ok (x.xTo + 1) r
      · rw [if_pos c4, if_pos (this.2 c4)]
      · rw [if_neg c4, if_neg (fun h => c4 (this.1 h))]
    · have hw2 : wr .i64 ((i : Int) - 1) = ((i - 1 : Nat) : Int) := by rw [w64_id (by omega) (by omega)]; omega
      have hlo : low l i = (l.getD (i - 1) zSpan).xTo + 1 := by unfold low; rw [if_neg c3]
      rw [ct (show 0 < (i : Int) by omega), hw2, ct (show 0 ≤ ((i - 1 : Nat) : Int) by omega), ct (show ((i - 1 : Nat) : Int) < (l.length : Int) by omega), hlo, Int.toNat_natCast]
      by_cases c5 : x.xFrom ≤ (l.getD (i - 1) zSpan).xTo
      · rw [ct c5, if_neg (by unfold Ok; omega)]
      rw [cf c5, hw, ih]
      have : Ok ((l.getD (i - 1) zSpan).xTo + 1) (x :: r) ↔ Ok (x.xTo + 1) r := by
        constructor
        · intro h; unfold Ok at h; exact h.2.2.2
        · intro h; unfold Ok; exact ⟨by omega, by omega, by omega, h⟩
      by_cases c4 : Ok (x.xTo + 1) r
      · rw [if_pos c4, if_pos (this.2 c4)]
      · rw [if_neg c4, if_neg (fun h => c4 (this.1 h))]
theorem RCheck_k {R : Type} (cp : Nat → Nat → Bool) (n : Nat) (l : List SSpan) (k : Int → Option R) (hl : l.length < 9223372036854775807) (hn : l.length + 2 ≤ n) : G_ref06_Check cp (n + 1) l k = k (if Ok 0 l then 0 else 60) := by
  obtain ⟨m, rfl⟩ : ∃ m, n = m + 1 := ⟨n - 1, by omega⟩
  show l_ref06_Check_10 cp (m + 1) (m + 1) l ((0 : Nat) : Int) (k 60) (k 0) = _
  rw [RCheck_loop cp (m + 1) _ _ l hl l 0 (m + 1) rfl (by omega) (by omega) (by unfold low; simp)]
  unfold low
  simp only [if_true]
  split <;> rfl
theorem Rright_k {R : Type} (cp : Nat → Nat → Bool) (n : Nat) (s : SSpan) (k : Bool → Option R) : G_ref06_right cp (n + 1) s k = k (decide (SpOk s)) := by
  simp only [G_ref06_right]
  rw [show decide (SpOk s) = decide (0 ≤ s.xFrom ∧ s.xFrom ≤ s.xTo ∧ s.xTo ≤ 1125899906842624) from decide_eq_decide.2 Iff.rfl]
  by_cases h1 : 0 ≤ s.xFrom
  · rw [ct h1]
    by_cases h2 : s.xFrom ≤ s.xTo
    · rw [ct h2]; congr 1; exact decide_eq_decide.2 ⟨fun h => ⟨h1, h2, h⟩, fun h => h.2.2⟩
    · rw [cf h2, decide_eq_false (by omega)]
  · rw [cf h1, decide_eq_false (by omega)]
theorem add_addM {a b : Int} : ∀ {l : List SSpan}, (∀ y ∈ l, a ≤ y.xTo) → add a b l = addM a b l
  | [], _ => rfl
  | x :: r, h => by
    have := h x List.mem_cons_self
    unfold add
    rw [if_neg (by omega)]
theorem RAdd_put {R : Type} (n : Nat) (l : List SSpan) (ke : List SSpan → Bool → Int → Int → Option R) (hl : l.length < 8796093022200) (K : List SSpan → Option R) (a b : Int) (hab : a < b) (hK : ∀ out, ke out true a b = K out) :
    ∀ (r : List SSpan) (i m : Nat) (out : List SSpan) (lo : Int), l.drop i = r → i ≤ l.length → out.length ≤ i + 1 → r.length + 1 ≤ m → Ok lo r → b < lo → l_ref06_Add_11 capB n m l out true (i : Int) a b ke = K (out ++ r)
  | [], i, 0, out, lo, h, hi, ho, hk, h0, hb => by simp at hk
  | [], i, m + 1, out, lo, h, hi, ho, hk, h0, hb => by
    have := drop_nil h
    simp only [l_ref06_Add_11, s_ref06_Add_6]
    rw [cf (by omega), hK, List.append_nil]
  | x :: r, i, 0, out, lo, h, hi, ho, hk, h0, hb => by simp at hk
  | x :: r, i, m + 1, out, lo, h, hi, ho, hk, h0, hb => by
    obtain ⟨h1, h2⟩ := drop_lt h
    unfold Ok at h0
    have i1 : (i : Int) < (l.length : Int) := by omega
    have i2 : 0 ≤ (i : Int) := by omega
    simp only [l_ref06_Add_11, s_ref06_Add_6]
    rw [rd_at h]
    simp only [ct i1, ct i2, Bool.not_true, cond_false]
    rw [cf (show ¬ x.xTo < a by omega), ct (show b < x.xFrom by omega), cap_ok (by simp only [List.length_cons, List.length_nil]; omega), succ_w (by omega),
      RAdd_put n l ke hl K a b hab hK r (i + 1) m _ _ h2 (by omega) (by simp; omega) (by simpa using hk) h0.2.2.2 (by omega)]
    simp
theorem RAdd_l {R : Type} (n : Nat) (l : List SSpan) (ke : List SSpan → Bool → Int → Int → Option R) (hl : l.length < 8796093022200) (K : List SSpan → Option R) (hK : ∀ out a b, ke out true a b = K out) (hK0 : ∀ out a b, out.length ≤ l.length → ke out false a b = K (out ++ [⟨a, b⟩])) :
    ∀ (r : List SSpan) (i m : Nat) (out : List SSpan) (a b lo : Int), l.drop i = r → i ≤ l.length → out.length ≤ i → r.length + 1 ≤ m → Ok lo r → a < b → l_ref06_Add_11 capB n m l out false (i : Int) a b ke = K (out ++ add a b r)
  | [], i, 0, out, a, b, lo, h, hi, ho, hk, h0, hab => by simp at hk
  | [], i, m + 1, out, a, b, lo, h, hi, ho, hk, h0, hab => by
    have := drop_nil h
    simp only [l_ref06_Add_11, s_ref06_Add_6]
    rw [cf (by omega), hK0 _ _ _ (by omega)]; rfl
  | x :: r, i, 0, out, a, b, lo, h, hi, ho, hk, h0, hab => by simp at hk
  | x :: r, i, m + 1, out, a, b, lo, h, hi, ho, hk, h0, hab => by
    obtain ⟨h1, h2⟩ := drop_lt h
    unfold Ok at h0
    have i1 : (i : Int) < (l.length : Int) := by omega
    have i2 : 0 ≤ (i : Int) := by omega
    simp only [l_ref06_Add_11, s_ref06_Add_6]
    rw [rd_at h]
    simp only [ct i1, ct i2, Bool.not_false, cond_true]
    unfold add
    by_cases c1 : x.xTo < a
    · rw [ct c1, if_pos c1, cap_ok (by simp only [List.length_cons, List.length_nil]; omega), succ_w (by omega),
        RAdd_l n l ke hl K hK hK0 r (i + 1) m _ a b _ h2 (by omega) (by simp; omega) (by simpa using hk) h0.2.2.2 hab]
      simp
    rw [cf c1, if_neg c1]
    unfold addM
    by_cases c2 : b < x.xFrom
    · rw [ct c2, if_neg (by omega), cap_ok (by simp only [List.length_cons, List.length_nil]; omega), cap_ok (by simp only [List.length_append, List.length_cons, List.length_nil]; omega), succ_w (by omega),
        RAdd_put n l ke hl K a b hab (fun out => hK out a b) r (i + 1) m _ _ h2 (by omega) (by simp; omega) (by simpa using hk) h0.2.2.2 (by omega)]
      simp
    · rw [cf c2, if_pos (by omega), succ_w (by omega), mn_min, mx_max,
        RAdd_l n l ke hl K hK hK0 r (i + 1) m _ _ _ _ h2 (by omega) (by omega) (by simpa using hk) h0.2.2.2 (by omega),
        add_addM fun y hy => by have := Ok_ge h0.2.2.2 y hy; omega]
theorem RAdd_k {R : Type} (n : Nat) (l : List SSpan) (s : SSpan) (k : List SSpan → Int → Option R) (hl : l.length < 8796093022200) (hn : l.length + 4 ≤ n) :
    G_ref06_Add capB (n + 1) l s k = if Ok 0 l ∧ SpOk s then k (addS s l) 0 else k [] (if Ok 0 l then 2 else 60) := by
  obtain ⟨m, rfl⟩ : ∃ m, n = m + 1 := ⟨n - 1, by omega⟩
  show G_ref06_Check capB (m + 1) l (fun r56 => cond (!decide (r56 = 0)) (k [] 60) (G_ref06_right capB (m + 1) s (fun r57 => cond (!r57) (k [] 2) (cond (decide (s.xFrom = s.xTo)) (cond (capB (([] : List SSpan).length + l.length) 16) (k ([] ++ l) 0) (none))
    (l_ref06_Add_11 capB (m + 1) (m + 1) l [] false ((0 : Nat) : Int) s.xFrom s.xTo fun v78 v79 v80 v81 => s_ref06_Add_17 capB (m + 1) v78 v79 v80 v81 (fun v82 => k v82 0)))))) = _
  rw [RCheck_k capB m l _ (by omega) (by omega)]
  by_cases h : Ok 0 l
  case neg => rw [if_neg h, cnf (by decide), if_neg (fun g => h g.1), if_neg h]
  rw [if_pos h, cnt rfl, Rright_k]
  by_cases hs : SpOk s
  case neg => rw [cnf hs, if_neg (fun g => hs g.2), if_pos h]
  rw [cnt hs, if_pos ⟨h, hs⟩]
  unfold addS
  by_cases c : s.xFrom = s.xTo
  · rw [ct c, if_pos c, cap_ok (by simp only [List.length_nil]; omega), List.nil_append]
  rw [cf c, if_neg c]
  unfold SpOk at hs
  refine RAdd_l (m + 1) l _ hl (fun r => k r 0) (fun out a b => rfl) (fun out a b ho => ?_) l 0 (m + 1) [] s.xFrom s.xTo 0 rfl (by omega) (by simp) (by omega) h (by omega)
  show cond (capB (out.length + [(SSpan.mk a b)].length) 16) (k (out ++ [(SSpan.mk a b)]) 0) none = _
  rw [cap_ok (by simp only [List.length_cons, List.length_nil]; omega)]
/-! ### cutting -/
def cutP (a b : Int) (x : SSpan) : List SSpan := (if x.xFrom < min x.xTo a then [⟨x.xFrom, min x.xTo a⟩] else []) ++ (if max x.xFrom b < x.xTo then [⟨max x.xFrom b, x.xTo⟩] else [])
def cut (a b : Int) (l : List SSpan) : List SSpan := l.flatMap (cutP a b)
theorem cutP_out {a b : Int} (hab : a < b) {x : SSpan} (hx : x.xFrom < x.xTo) (h : x.xTo ≤ a ∨ b ≤ x.xFrom) : cutP a b x = [x] := by
  cases x with
  | mk f t =>
  simp only at hx h
  unfold cutP
  simp only
  rcases h with h | h
  · rw [if_pos (by omega), if_neg (by omega), show min t a = t by omega]; rfl
  · rw [if_neg (by omega), if_pos (by omega), show max f b = f by omega]; rfl
theorem cutP_in {a b : Int} {x : SSpan} (h1 : ¬ x.xTo ≤ a) (h2 : ¬ b ≤ x.xFrom) : cutP a b x = (if x.xFrom < a then [⟨x.xFrom, a⟩] else []) ++ (if b < x.xTo then [⟨b, x.xTo⟩] else []) := by
  unfold cutP
  rw [show min x.xTo a = a by omega, show max x.xFrom b = b by omega]
theorem cut_one {a b : Int} (hab : a < b) : ∀ {l : List SSpan} {lo : Int}, Ok lo l → a ≤ lo → (cut a b l).length ≤ l.length
  | [], _, _, _ => Nat.le_refl _
  | x :: r, lo, h, hlo => by
    unfold Ok at h
    have ih := cut_one hab (l := r) (lo := x.xTo + 1) h.2.2.2 (by omega)
    have e : cut a b (x :: r) = cutP a b x ++ cut a b r := rfl
    have : (cutP a b x).length ≤ 1 := by
      unfold cutP
      rw [if_neg (by omega), List.nil_append]
      split <;> simp
    rw [e, List.length_append, List.length_cons]
    omega
theorem cut_length {a b : Int} (hab : a < b) : ∀ {l : List SSpan} {lo : Int}, Ok lo l → (cut a b l).length ≤ l.length + 1
  | [], _, _ => by unfold cut; simp
  | x :: r, lo, h => by
    unfold Ok at h
    have e : cut a b (x :: r) = cutP a b x ++ cut a b r := rfl
    rw [e, List.length_append, List.length_cons]
    by_cases c : x.xFrom < min x.xTo a ∧ max x.xFrom b < x.xTo
    · have := cut_one hab (l := r) (lo := x.xTo + 1) h.2.2.2 (by omega)
      have : (cutP a b x).length = 2 := by unfold cutP; rw [if_pos c.1, if_pos c.2]; rfl
      omega
    · have := cut_length hab (l := r) h.2.2.2
      have : (cutP a b x).length ≤ 1 := by
        unfold cutP
        by_cases c1 : x.xFrom < min x.xTo a
        · rw [if_pos c1, if_neg (fun g => c ⟨c1, g⟩)]; simp
        · rw [if_neg c1, List.nil_append]; split <;> simp
      omega
theorem cut_app {a b : Int} {x : SSpan} {l : List SSpan} : cut a b (x :: l) = cutP a b x ++ cut a b l := rfl
def cutS (s : SSpan) (l : List SSpan) : List SSpan := if s.xFrom = s.xTo then l else cut s.xFrom s.xTo l
theorem dTr (i : Decidable True) : @decide True i = true := @decide_eq_true True i trivial
theorem Cut_in {R : Type} (n : Nat) (l : List SSpan) (s : SSpan) (v97 v99 f t : Int) (out : List SSpan) (ke : List SSpan → Option R) (hc : (out.length + 2) * 16 ≤ 140737488355328) :
    l_span_Cut_17 capB (n + 3) (n + 3) l s v97 v99 f t out 0 ke = ke (out ++ ((if f < s.xFrom then [⟨f, s.xFrom⟩] else []) ++ (if s.xTo < t then [⟨s.xTo, t⟩] else []))) := by
  have w1 : wr .i64 (0 + 1) = 1 := by rw [w64_id (by omega) (by omega)]; rfl
  have w2 : wr .i64 (1 + 1) = 2 := by rw [w64_id (by omega) (by omega)]; rfl
  have d1 : decide ((0 : Int) < 2) = true := rfl
  have d2 : decide ((1 : Int) < 2) = true := rfl
  have d3 : decide ((2 : Int) < 2) = false := rfl
  have d4 : decide ((1 : Int) = 0) = false := rfl
  have d5 : decide ((0 : Int) = 0) = true := rfl
  have d6 : decide ((1 : Int) = 1) = true := rfl
  simp only [dTr, l_span_Cut_17, s_span_Cut_12, d1, d2, d3, d4, d5, d6, cond_true, cond_false, w1, w2]
  by_cases c1 : f < s.xFrom
  · rw [ct c1, if_pos c1, cap_ok (by simp only [List.length_cons, List.length_nil]; omega)]
    by_cases c2 : s.xTo < t
    · rw [ct c2, if_pos c2, cap_ok (by simp only [List.length_append, List.length_cons, List.length_nil]; omega), List.append_assoc]
    · rw [cf c2, if_neg c2, List.append_nil]
  · rw [cf c1, if_neg c1, List.nil_append]
    by_cases c2 : s.xTo < t
    · rw [ct c2, if_pos c2, cap_ok (by simp only [List.length_append, List.length_cons, List.length_nil]; omega)]
    · rw [cf c2, if_neg c2, List.append_nil]
theorem Cut_l {R : Type} (n : Nat) (l : List SSpan) (s : SSpan) (ke : List SSpan → Option R) (hl : l.length < 8796093022190) (hs : s.xFrom < s.xTo) :
    ∀ (r : List SSpan) (i m : Nat) (out : List SSpan) (lo : Int), l.drop i = r → i ≤ l.length → out.length ≤ i + 1 → r.length + 1 ≤ m → Ok lo r → (out.length = i + 1 → s.xFrom ≤ lo) → l_span_Cut_33 capB (n + 3) m l s (l.length : Int) out (i : Int) ke = ke (out ++ cut s.xFrom s.xTo r)
  | [], i, 0, out, lo, h, hi, ho, hk, h0, hb => by simp at hk
  | [], i, m + 1, out, lo, h, hi, ho, hk, h0, hb => by
    have := drop_nil h
    show cond (decide ((i : Int) < (l.length : Int))) _ (ke out) = _
    rw [cf (by omega)]
    unfold cut; simp
  | x :: r, i, 0, out, lo, h, hi, ho, hk, h0, hb => by simp at hk
  | x :: r, i, m + 1, out, lo, h, hi, ho, hk, h0, hb => by
    obtain ⟨h1, h2⟩ := drop_lt h
    unfold Ok at h0
    have i1 : (i : Int) < (l.length : Int) := by omega
    have i2 : 0 ≤ (i : Int) := by omega
    show cond (decide ((i : Int) < (l.length : Int))) (s_span_Cut_9 capB (n + 3) l s (l.length : Int) out (i : Int) (fun v100 v101 => l_span_Cut_17 capB (n + 3) (n + 3) l s (l.length : Int) (i : Int) v100 v101 out 0 fun o => l_span_Cut_33 capB (n + 3) m l s (l.length : Int) o (wr .i64 ((i : Int) + 1)) ke) fun o => l_span_Cut_33 capB (n + 3) m l s (l.length : Int) o (wr .i64 ((i : Int) + 1)) ke) (ke out) = _
    simp only [s_span_Cut_9]
    rw [rd_at h, succ_w (by omega), ct i1, ct i2, ct i1, cut_app]
    have ih : ∀ out' : List SSpan, out' = out ++ cutP s.xFrom s.xTo x → l_span_Cut_33 capB (n + 3) m l s (l.length : Int) out' ((i + 1 : Nat) : Int) ke = ke (out ++ (cutP s.xFrom s.xTo x ++ cut s.xFrom s.xTo r)) := fun out' e => by
      have hlen : out'.length ≤ i + 2 ∧ (out'.length = i + 2 → s.xFrom ≤ x.xTo + 1) := by
        rw [e, List.length_append]
        unfold cutP
        by_cases c1 : x.xFrom < min x.xTo s.xFrom
        · have : ¬ out.length = i + 1 := fun g => by have := hb g; omega
          by_cases c2 : max x.xFrom s.xTo < x.xTo
          · rw [if_pos c1, if_pos c2]; simp only [List.length_append, List.length_cons, List.length_nil]; omega
          · rw [if_pos c1, if_neg c2]; simp only [List.length_append, List.length_cons, List.length_nil]; omega
        · rw [if_neg c1]
          split <;> simp only [List.length_append, List.length_cons, List.length_nil] <;> omega
      rw [Cut_l n l s ke hl hs r (i + 1) m out' (x.xTo + 1) h2 (by omega) hlen.1 (by simpa using hk) h0.2.2.2 hlen.2, e, List.append_assoc]
    by_cases c1 : x.xTo ≤ s.xFrom
    · rw [ct c1, cap_ok (by simp only [List.length_cons, List.length_nil]; omega), ih _ (by rw [cutP_out hs h0.2.1 (.inl c1)])]
    rw [cf c1]
    by_cases c2 : s.xTo ≤ x.xFrom
    · rw [ct c2, cap_ok (by simp only [List.length_cons, List.length_nil]; omega), ih _ (by rw [cutP_out hs h0.2.1 (.inr c2)])]
    rw [cf c2, Cut_in (n := n) l s _ _ _ _ out _ (by omega), ih _ (by rw [cutP_in c1 c2])]
theorem Cut_k {R : Type} (n : Nat) (l : List SSpan) (s : SSpan) (k : List SSpan → Int → Option R) (hl : l.length < 8796093022190) (hn : l.length + 4 ≤ n) :
    G_span_Cut capB (n + 1) l s k = if Ok 0 l ∧ SpOk s then k (cutS s l) 0 else k [] (if Ok 0 l then 2 else 60) := by
  obtain ⟨m, rfl⟩ : ∃ m, n = m + 3 := ⟨n - 3, by omega⟩
  show G_span_right capB (m + 3) l s (fun e => cond (!decide (e = 0)) (k [] e) (cond (decide (s.xFrom = s.xTo)) (G_slices_Clone_Span capB (m + 3) l fun r => k r 0) (l_span_Cut_33 capB (m + 3) (m + 3) l s (l.length : Int) [] ((0 : Nat) : Int) fun r => k r 0))) = _
  rw [right_k capB (m + 2) l s _ (by omega) (by omega)]
  by_cases h : Ok 0 l
  case neg => rw [if_neg h, cnf (by decide), if_neg (fun g => h g.1), if_neg h]
  rw [if_pos h]
  by_cases hs : SpOk s
  case neg => rw [if_neg (show ¬ (0 ≤ s.xFrom ∧ s.xFrom ≤ s.xTo ∧ s.xTo ≤ 1125899906842624) from hs), cnf (by decide), if_neg (fun g => hs g.2), if_pos h]
  rw [if_pos (show (0 ≤ s.xFrom ∧ s.xFrom ≤ s.xTo ∧ s.xTo ≤ 1125899906842624) from hs), cnt rfl, if_pos ⟨h, hs⟩]
  unfold cutS
  by_cases c : s.xFrom = s.xTo
  · rw [ct c, if_pos c]
    show cond (capB (0 + l.length) 16) (k l 0) none = _
    rw [cap_ok (by omega)]
  rw [cf c, if_neg c]
  unfold SpOk at hs
  rw [Cut_l m l s _ hl (by omega) l 0 (m + 3) [] 0 rfl (by omega) (by simp) (by omega) h (by simp)]
  simp
theorem RCut_l {R : Type} (n : Nat) (l : List SSpan) (s : SSpan) (ke : List SSpan → Option R) (hl : l.length < 8796093022190) (hs : s.xFrom < s.xTo) :
    ∀ (r : List SSpan) (i m : Nat) (out : List SSpan) (lo : Int), l.drop i = r → i ≤ l.length → out.length ≤ i + 1 → r.length + 1 ≤ m → Ok lo r → (out.length = i + 1 → s.xFrom ≤ lo) → l_ref06_Cut_11 capB n m l s out (i : Int) ke = ke (out ++ cut s.xFrom s.xTo r)
  | [], i, 0, out, lo, h, hi, ho, hk, h0, hb => by simp at hk
  | [], i, m + 1, out, lo, h, hi, ho, hk, h0, hb => by
    have := drop_nil h
    simp only [l_ref06_Cut_11, s_ref06_Cut_6]
    rw [cf (by omega)]
    unfold cut; simp
  | x :: r, i, 0, out, lo, h, hi, ho, hk, h0, hb => by simp at hk
  | x :: r, i, m + 1, out, lo, h, hi, ho, hk, h0, hb => by
    obtain ⟨h1, h2⟩ := drop_lt h
    unfold Ok at h0
    have i1 : (i : Int) < (l.length : Int) := by omega
    have i2 : 0 ≤ (i : Int) := by omega
    have ih : ∀ out' : List SSpan, out' = out ++ cutP s.xFrom s.xTo x → l_ref06_Cut_11 capB n m l s out' ((i + 1 : Nat) : Int) ke = ke (out ++ (cutP s.xFrom s.xTo x ++ cut s.xFrom s.xTo r)) := fun out' e => by
      have hlen : out'.length ≤ i + 2 ∧ (out'.length = i + 2 → s.xFrom ≤ x.xTo + 1) := by
        rw [e, List.length_append]
        unfold cutP
        by_cases c1 : x.xFrom < min x.xTo s.xFrom
        · have : ¬ out.length = i + 1 := fun g => by have := hb g; omega
          by_cases c2 : max x.xFrom s.xTo < x.xTo
          · rw [if_pos c1, if_pos c2]; simp only [List.length_append, List.length_cons, List.length_nil]; omega
          · rw [if_pos c1, if_neg c2]; simp only [List.length_append, List.length_cons, List.length_nil]; omega
        · rw [if_neg c1]
          split <;> simp only [List.length_append, List.length_cons, List.length_nil] <;> omega
      rw [RCut_l n l s ke hl hs r (i + 1) m out' (x.xTo + 1) h2 (by omega) hlen.1 (by simpa using hk) h0.2.2.2 hlen.2, e, List.append_assoc]
    simp only [l_ref06_Cut_11, s_ref06_Cut_6]
    rw [rd_at h, succ_w (by omega), mn_min, mx_max, cut_app]
    simp only [ct i1, ct i2]
    rw [cf (by omega)]
    have ih2 : ∀ out', out' = out ++ cutP s.xFrom s.xTo x → l_ref06_Cut_11 capB n m l s out' ((i + 1 : Nat) : Int) ke = ke (out ++ (cutP s.xFrom s.xTo x ++ cut s.xFrom s.xTo r)) := ih
    by_cases c1 : x.xFrom < min x.xTo s.xFrom
    · rw [ct c1, cap_ok (by simp only [List.length_cons, List.length_nil]; omega)]
      by_cases c2 : max x.xFrom s.xTo < x.xTo
      · rw [ct c2, cap_ok (by simp only [List.length_append, List.length_cons, List.length_nil]; omega), ih _ (by unfold cutP; rw [if_pos c1, if_pos c2, List.append_assoc])]
      · rw [cf c2, ih _ (by unfold cutP; rw [if_pos c1, if_neg c2, List.append_nil])]
    · rw [cf c1]
      by_cases c2 : max x.xFrom s.xTo < x.xTo
      · rw [ct c2, cap_ok (by simp only [List.length_append, List.length_cons, List.length_nil]; omega), ih _ (by unfold cutP; rw [if_neg c1, if_pos c2, List.nil_append])]
      · rw [cf c2, ih _ (by unfold cutP; rw [if_neg c1, if_neg c2, List.append_nil, List.append_nil])]
theorem RCut_e {R : Type} (n : Nat) (l : List SSpan) (s : SSpan) (ke : List SSpan → Option R) (hl : l.length < 8796093022190) (hs : s.xTo ≤ s.xFrom) :
    ∀ (r : List SSpan) (i m : Nat) (out : List SSpan), l.drop i = r → i ≤ l.length → out.length ≤ i → r.length + 1 ≤ m → l_ref06_Cut_11 capB n m l s out (i : Int) ke = ke (out ++ r)
  | [], i, 0, out, h, hi, ho, hk => by simp at hk
  | [], i, m + 1, out, h, hi, ho, hk => by
    have := drop_nil h
    simp only [l_ref06_Cut_11, s_ref06_Cut_6]
    rw [cf (by omega), List.append_nil]
  | x :: r, i, 0, out, h, hi, ho, hk => by simp at hk
  | x :: r, i, m + 1, out, h, hi, ho, hk => by
    obtain ⟨h1, h2⟩ := drop_lt h
    have i1 : (i : Int) < (l.length : Int) := by omega
    have i2 : 0 ≤ (i : Int) := by omega
    simp only [l_ref06_Cut_11, s_ref06_Cut_6]
    rw [rd_at h, succ_w (by omega), ct i1, ct hs, ct i2, ct i1, cap_ok (by simp only [List.length_cons, List.length_nil]; omega), RCut_e n l s ke hl hs r (i + 1) m _ h2 (by omega) (by simp; omega) (by simpa using hk)]
    simp
theorem RCut_k {R : Type} (n : Nat) (l : List SSpan) (s : SSpan) (k : List SSpan → Int → Option R) (hl : l.length < 8796093022190) (hn : l.length + 4 ≤ n) :
    G_ref06_Cut capB (n + 1) l s k = if Ok 0 l ∧ SpOk s then k (cutS s l) 0 else k [] (if Ok 0 l then 2 else 60) := by
  obtain ⟨m, rfl⟩ : ∃ m, n = m + 1 := ⟨n - 1, by omega⟩
  show G_ref06_Check capB (m + 1) l (fun r56 => cond (!decide (r56 = 0)) (k [] 60) (G_ref06_right capB (m + 1) s (fun r57 => cond (!r57) (k [] 2) (l_ref06_Cut_11 capB (m + 1) (m + 1) l s [] ((0 : Nat) : Int) fun r => k r 0)))) = _
  rw [RCheck_k capB m l _ (by omega) (by omega)]
  by_cases h : Ok 0 l
  case neg => rw [if_neg h, cnf (by decide), if_neg (fun g => h g.1), if_neg h]
  rw [if_pos h, cnt rfl, Rright_k]
  by_cases hs : SpOk s
  case neg => rw [cnf hs, if_neg (fun g => hs g.2), if_pos h]
  rw [cnt hs, if_pos ⟨h, hs⟩]
  unfold SpOk at hs
  unfold cutS
  by_cases c : s.xFrom = s.xTo
  · rw [if_pos c, RCut_e (m + 1) l s _ hl (by omega) l 0 (m + 1) [] rfl (by omega) (by simp) (by omega)]
    simp
  · rw [if_neg c, RCut_l (m + 1) l s _ hl (by omega) l 0 (m + 1) [] 0 rfl (by omega) (by simp) (by omega) h (by simp)]
    simp
theorem cutS_length {s : SSpan} {l : List SSpan} (h : Ok 0 l) (hs : SpOk s) : (cutS s l).length ≤ l.length + 1 := by
  unfold SpOk at hs
  unfold cutS
  split
  · omega
  · exact cut_length (by omega) h
end Go.Proofs.Ytapelpfcflgjkaa.M
