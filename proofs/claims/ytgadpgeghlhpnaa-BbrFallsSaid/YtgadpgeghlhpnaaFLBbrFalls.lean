/- The law BbrFalls: behind a timeout, and at first, a controller is what the document says. -/
import Derived.Test.YtgadpgeghlhpnaaFTCh18
import Derived.Test.YtgadpgeghlhpnaaPuBbrFalls
set_option linter.unusedVariables false
set_option linter.unusedSimpArgs false
namespace Go.Proofs.Ytgadpgeghlhpnaa.M
open Go Go.RowKit
noncomputable section
abbrev Szb (x : Int) : Prop := 0 ≤ x ∧ x ≤ 1073741824
def timeO (c : SCc) (x : Int) : SCc := if BbrOk c ∧ Szb x then { c with xCwnd := c.xMss, xPrior := c.xCwnd } else zCc
def timeE (c : SCc) (x : Int) : Int := if BbrOk c then if Szb x then 0 else 2 else 230
theorem timeB_k {R : Type} (cp : Nat → Nat → Bool) (n : Nat) (c : SCc) (x : Int) (k : SCc → Int → Option R) (hl : c.xBw.length < 9223372036854775807) (hn : c.xBw.length ≤ n) : G_bbr_Timeout cp (n + 11) c x k = k (timeO c x) (timeE c x) := by
  rw [G_bbr_Timeout, bCheck_k cp n c _ hl hn]
  unfold timeO timeE
  by_cases h : BbrOk c
  case neg => rw [if_neg h, cnf (by omega), if_neg (fun g => h g.1), if_neg h]; rfl
  rw [if_pos h, cnt rfl, within_k cp (n + 9) _ _ _ (by show 1 < _; omega) (by show 2 ≤ _; omega), if_pos h]
  by_cases a : Szb x
  · rw [if_pos ⟨h, a⟩, if_pos a]
    have : ([x].all fun y => decide (0 ≤ y ∧ y ≤ 1073741824)) = true := by simp only [List.all_cons, List.all_nil, Bool.and_true]; exact decide_eq_true a
    rw [this]; rfl
  · rw [if_neg (fun g => a g.2), if_neg a]
    have : ([x].all fun y => decide (0 ≤ y ∧ y ≤ 1073741824)) = false := by simp only [List.all_cons, List.all_nil, Bool.and_true]; exact decide_eq_false a
    rw [this]; rfl
theorem time18R_k {R : Type} (cp : Nat → Nat → Bool) (n : Nat) (c : SCc) (x : Int) (k : SCc → Int → Option R) (hl : c.xBw.length < 9223372036854775807) (hn : c.xBw.length ≤ n) : G_ref18_Timeout cp (n + 5) c x k = k (timeO c x) (timeE c x) := by
  rw [G_ref18_Timeout, Check18_k cp n c _ hl hn]
  unfold timeO timeE
  by_cases h : BbrOk c
  case neg => rw [if_neg h, cnf (by omega), if_neg (fun g => h g.1), if_neg h]; rfl
  rw [if_pos h, cnt rfl, Size15_k cp (n + 3), if_pos h]
  by_cases a : Szb x
  · rw [cnt a, if_pos ⟨h, a⟩, if_pos a]
  · rw [cnf a, if_neg (fun g => a g.2), if_neg a]; rfl
theorem New18_k {R : Type} (cp : Nat → Nat → Bool) (n : Nat) (m f : Int) (k : SCc → Int → Option R) : G_ref18_New cp (n + 2) m f k = k (newB m f) (newE m f) := by
  rw [G_ref18_New, New15_k]
  unfold newO newE newB
  split <;> rfl
theorem law_BbrFalls : LawBbrFalls.Pure := by
  intro M c x y hC hx hy
  simp only [LawBbrFalls.InCc, Rng, i64min, i64max] at hC hx hy
  obtain ⟨c0, c1, c2, c3, c4, c5, c6, c7, c8, c9, c10, c11, c12, c13, _⟩ := hC
  obtain ⟨m, hm⟩ : ∃ m, m = c.xBw.length + 60 := ⟨_, rfl⟩
  refine ⟨m + 12, fun R k => ?_⟩
  rw [G_law18_BbrFalls]
  have hh : ∀ k : Bool → Option R, G_law18_heads capB (m + 11) k = k true := fun k => heads18 _ k (by omega)
  simp only [G_law18_BbrFalls, s_law18_BbrFalls_1, s_law18_BbrFalls_3, s_law18_BbrFalls_5, s_law18_BbrFalls_7, s_law18_BbrFalls_9]
  have hbw : (timeO c x).xBw.length ≤ c.xBw.length := by
    unfold timeO
    split
    · exact Nat.le_refl _
    · exact Nat.zero_le _
  have hnw : (newB x y).xBw.length = 0 := by unfold newB; split <;> rfl
  rw [timeB_k capB m c x _ (by omega) (by omega), time18R_k capB (m + 6) c x _ (by omega) (by omega), bNew_k capB (m + 9), New18_k capB (m + 9),
    SameCc_k capB (m + 10) _ _ (by omega) (by omega), cond_true, ct rfl, SameCc_k capB (m + 10) _ _ (by omega) (by omega), cond_true, ct rfl]
  by_cases h : NewOk x y
  · have e : newE x y = 0 := by unfold newE; rw [if_pos h]
    rw [cnt e, bCheck_k capB (m + 1) _ _ (by omega) (by omega), if_pos (newB_ok h), ct rfl, hh]
  · have e : newE x y = 2 := by unfold newE; rw [if_neg h]
    rw [cnf (by omega), hh]
end
end Go.Proofs.Ytgadpgeghlhpnaa.M
