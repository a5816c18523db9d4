/- The three controllers behind one face: what the program's answers, in plain numbers. -/
import Derived.Test.YtgnoidblkenglaaSTBbr
import Derived.Test.YtgnoidblkenglaaSTCubic
import Derived.Test.YtgnoidblkenglaaSTNew
set_option linter.unusedVariables false
set_option linter.unusedSimpArgs false
namespace Go.Proofs.Ytgnoidblkenglaa.M
open Go Go.RowKit
noncomputable section
abbrev RenoOk (c : SCc) : Prop := c.xKind = 1 ∧ Com c ∧ NoCub c ∧ NoBbr c
def CcOk (c : SCc) : Prop := RenoOk c ∨ CubOk c ∨ BbrOk c
instance (c : SCc) : Decidable (CcOk c) := Classical.propDecidable _
abbrev Tm (x : Int) : Prop := 0 ≤ x ∧ x ≤ 1125899906842624
abbrev Sz (x : Int) : Prop := 0 ≤ x ∧ x ≤ 1073741824
/-- Is a controller of kind k. -/
theorem ccOk1 {c : SCc} (h : c.xKind = 1) : CcOk c ↔ RenoOk c := by
  constructor
  · rintro (g | g | g)
    · exact g
    · have := g.1; omega
    · have := g.1; omega
  · exact .inl
theorem ccOk2 {c : SCc} (h : c.xKind = 2) : CcOk c ↔ CubOk c := by
  constructor
  · rintro (g | g | g)
    · have := g.1; omega
    · exact g
    · have := g.1; omega
  · exact fun g => .inr (.inl g)
theorem ccOk3 {c : SCc} (h1 : c.xKind ≠ 1) (h2 : c.xKind ≠ 2) : CcOk c ↔ BbrOk c := by
  constructor
  · rintro (g | g | g)
    · have := g.1; omega
    · have := g.1; omega
    · exact g
  · exact fun g => .inr (.inr g)
theorem cif {p q : Prop} [Decidable p] [Decidable q] {α : Type} {x y : α} (h : p ↔ q) : (if p then x else y) = if q then x else y := by
  by_cases g : q
  · rw [if_pos g, if_pos (h.2 g)]
  · rw [if_neg g, if_neg (fun e => g (h.1 e))]
/-- What is known of a controller's numbers at any rate, and how long its row is. -/
structure InC (c : SCc) (n : Nat) : Prop where
  r : InR c
  len : c.xBw.length < 9223372036854775807
  fit : c.xBw.length ≤ n
theorem inC_of {c : SCc} {n : Nat} (h : CcOk c) (hl : c.xBw.length < 9223372036854775807) (hn : c.xBw.length ≤ n) : InC c n := by
  refine ⟨⟨?_, ?_⟩, hl, hn⟩
  · rcases h with g | g | g
    · have := g.2.1; simp only [Com] at this; omega
    · have := g.2.1; simp only [Com] at this; omega
    · have := g.2.1; have := g.2.2.1; omega
  · rcases h with g | g | g
    · have := g.2.2.1; simp only [NoCub] at this; omega
    · have := g.2.2.2; omega
    · have := g.2.2.2.2.2.2.2.1; simp only [NoCub] at this; omega
/-- A resting controller. -/
def restO (c : SCc) (idle rto used : Int) : SCc :=
  if CcOk c then if Tm idle ∧ Tm rto ∧ Sz used then if c.xKind = 3 ∨ rto = 0 ∨ idle ≤ rto then c else
    { c with xCwnd := min c.xCwnd (max (max (c.xCwnd / 2 ^ (min 20 (idle / rto)).toNat) used) (2 * c.xMss)), xSsthresh := max c.xSsthresh (3 * c.xCwnd / 4) } else zCc else zCc
def restE (c : SCc) (idle rto used : Int) : Int := if CcOk c then if Tm idle ∧ Tm rto ∧ Sz used then 0 else 2 else 230
section
variable {R : Type} (cp : Nat → Nat → Bool) (n : Nat)
theorem ccCheck_k (c : SCc) (k : Int → Option R) (h : InC c n) : G_cc_Check cp (n + 11) c k = k (if CcOk c then 0 else 230) := by
  rw [G_cc_Check]
  by_cases a1 : c.xKind = 1
  · rw [ct a1, rCheck_k cp (n + 8) c _ h.r.mss.1 h.r.mss.2, cif (ccOk1 a1)]
  by_cases a2 : c.xKind = 2
  · rw [cf a1, ct a2, Check_k cp (n + 4) c _ h.r.mss.1 h.r.mss.2, cif (ccOk2 a2)]
  · rw [cf a1, cf a2, bCheck_k cp n c _ h.len h.fit, cif (ccOk3 a1 a2)]
def newB (m f : Int) : SCc := if NewOk m f then ⟨3, m, m * f, 1073741824, 0, 0, 0, 0, 0, 0, 1, [], 0, 0, 0, 0, 0, 0, 0, 0, 0, 0⟩ else zCc
theorem bNew_k (m f : Int) (k : SCc → Int → Option R) : G_bbr_New cp (n + 2) m f k = k (newB m f) (newE m f) := by
  rw [G_bbr_New, renoNew_k]
  unfold newO newE newB
  split <;> rfl
/-- A fresh controller. -/
def ccNewO (kind m f : Int) : SCc := if kind = 1 then newO 1 0 m f else if kind = 2 then newO 2 (-1) m f else if kind = 3 then (newB m f) else zCc
def ccNewE (kind m f : Int) : Int := if kind = 1 ∨ kind = 2 ∨ kind = 3 then newE m f else 2
theorem ccNew_k (kind m f : Int) (k : SCc → Int → Option R) : G_cc_New cp (n + 3) kind m f k = k (ccNewO kind m f) (ccNewE kind m f) := by
  rw [G_cc_New]
  unfold ccNewO ccNewE
  by_cases a1 : kind = 1
  · rw [ct a1, renoNew_k, if_pos a1, if_pos (.inl a1)]
  by_cases a2 : kind = 2
  · rw [cf a1, ct a2, New_k, if_neg a1, if_pos a2, if_pos (.inr (.inl a2))]
  by_cases a3 : kind = 3
  · rw [cf a1, cf a2, ct a3, bNew_k, if_neg a1, if_neg a2, if_pos a3, if_pos (.inr (.inr a3))]
  · rw [cf a1, cf a2, cf a3, if_neg a1, if_neg a2, if_neg a3, if_neg (by omega)]; rfl
theorem ccNew_ok {kind m f : Int} (h : ccNewE kind m f = 0) : CcOk (ccNewO kind m f) := by
  unfold ccNewE newE at h
  by_cases a : NewOk m f
  case neg => rw [if_neg a] at h; split at h <;> omega
  have hm := new_mul a
  have h1 : m ≤ m * f := by have := Int.mul_le_mul_of_nonneg_left a.2.2.1 (show 0 ≤ m by omega); omega
  unfold ccNewO newO newB
  simp only [if_pos a]
  by_cases a1 : kind = 1
  · rw [if_pos a1]
    refine .inl ?_
    simp only [RenoOk, Com, NoCub, NoBbr]
    simp; omega
  by_cases a2 : kind = 2
  · rw [if_neg a1, if_pos a2]
    refine .inr (.inl ?_)
    simp only [CubOk, Com, NoBbr]
    simp; omega
  by_cases a3 : kind = 3
  · rw [if_neg a1, if_neg a2, if_pos a3]
    refine .inr (.inr ?_)
    simp only [BbrOk, NoCub]
    simp [fchain, fin18]; omega
  · rw [if_neg (by omega)] at h; omega
theorem cctime_k (x : Int) (k : Bool → Option R) : G_cc_time cp (n + 1) x k = k (decide (Tm x)) := by
  simp only [G_cc_time]
  exact cdk k
theorem ccsize_k (x : Int) (k : Bool → Option R) : G_cc_size cp (n + 1) x k = k (decide (Sz x)) := by
  simp only [G_cc_size]
  exact cdk k
theorem asked_k (c : SCc) (b : Bool) (k : Int → Option R) (h : InC c n) : G_cc_asked cp (n + 12) c b k = k (if CcOk c then if b = true then 0 else 2 else 230) := by
  rw [G_cc_asked, ccCheck_k cp n c _ h]
  by_cases a : CcOk c
  · rw [if_pos a, if_pos a, cnt rfl]; cases b <;> rfl
  · rw [if_neg a, if_neg a]; rfl
theorem rest_time (c : SCc) (idle rto used : Int) (kn : Int → Option R) (h : InC c n) : s_cc_Rest_3 cp (n + 12) c idle rto used kn = kn (restE c idle rto used) := by
  have hF : ∀ (b : Bool) (P : Prop) [Decidable P], (b = true ↔ P) → G_cc_asked cp (n + 12) c b kn = kn (if CcOk c then if P then 0 else 2 else 230) := fun b P _ e => by
    rw [asked_k cp n c b kn h]
    congr 1
    split
    · exact cif e
    · rfl
  unfold restE
  simp only [s_cc_Rest_3, cctime_k, ccsize_k]
  by_cases a1 : Tm idle
  case neg => rw [cf a1]; exact hF false _ (by simp only [Bool.false_eq_true, false_iff]; exact fun e => a1 e.1)
  by_cases a2 : Tm rto
  case neg => rw [ct a1, cf a2]; exact hF false _ (by simp only [Bool.false_eq_true, false_iff]; exact fun e => a2 e.2.1)
  rw [ct a1, ct a2]
  exact hF _ _ (by rw [decide_eq_true_eq]; exact ⟨fun e => ⟨a1, a2, e⟩, fun e => e.2.2⟩)
theorem cwnd_of {c : SCc} (h : CcOk c) : 1 ≤ c.xMss ∧ c.xMss ≤ 65000 ∧ c.xMss ≤ c.xCwnd ∧ c.xCwnd ≤ 1073741824 ∧ 2 * c.xMss ≤ c.xSsthresh ∧ c.xSsthresh ≤ 1073741824 := by
  rcases h with g | g | g
  · have := g.2.1; simp only [Com] at this; omega
  · have := g.2.1; simp only [Com] at this; omega
  · have := g.2.1; have := g.2.2.1; have := g.2.2.2.1; have := g.2.2.2.2.1; have := g.2.2.2.2.2.1; omega
theorem Rest_k (c : SCc) (idle rto used : Int) (k : SCc → Int → Option R) (h : InC c n) : G_cc_Rest cp (n + 13) c idle rto used k = k (restO c idle rto used) (restE c idle rto used) := by
  rw [G_cc_Rest]
  simp only [s_cc_Rest_14, s_cc_Rest_1, s_cc_Rest_12, s_cc_Rest_8]
  rw [rest_time cp n c idle rto used _ h]
  simp only [s_cc_Rest_5, s_cc_Rest_9]
  unfold restO restE
  by_cases a : CcOk c
  case neg => simp only [if_neg a]; rfl
  by_cases b : Tm idle ∧ Tm rto ∧ Sz used
  case neg => simp only [if_pos a, if_neg b]; rfl
  simp only [if_pos a, if_pos b]
  rw [cnt trivial]
  by_cases a1 : c.xKind = 3
  · rw [ct a1, if_pos (.inl a1)]
  by_cases a2 : rto = 0
  · rw [cf a1, ct a2, if_pos (.inr (.inl a2))]
  by_cases a3 : idle ≤ rto
  · rw [cf a1, cf a2, ct a3, if_pos (.inr (.inr a3))]
  have hc := cwnd_of a
  have q0 : 0 ≤ idle / rto := Int.ediv_nonneg (by omega) (by omega)
  have q1 : idle / rto ≤ idle := Int.ediv_le_self _ (by omega)
  rw [cf a1, cf a2, cf a3, cf a2, if_neg (by omega), tdiv_pos (by omega), mn_min, w64_id (n := idle / rto) (by omega) (by omega), cf (by omega), shr_eq, mn_min, mx_max, mx_max, mx_max,
    w64_id (n := 2 * c.xMss) (by omega) (by omega), w64_id (n := 3 * c.xCwnd) (by omega) (by omega), tdiv_pos (by omega), w64_id (n := 3 * c.xCwnd / 4) (by omega) (by omega)]
  have e : min (min 20 (idle / rto)).toNat IntKind.i64.bits = (min 20 (idle / rto)).toNat := by simp [IntKind.bits]; omega
  rw [e]
/-- A resting controller may be. -/
theorem rest_ok {c : SCc} {idle rto used : Int} (h : CcOk c) (hr : Tm idle ∧ Tm rto ∧ Sz used) : CcOk (restO c idle rto used) ∧ (restO c idle rto used).xBw = c.xBw ∧
    (restO c idle rto used).xCwnd ≤ c.xCwnd ∧ min c.xCwnd used ≤ (restO c idle rto used).xCwnd ∧ min c.xCwnd (2 * c.xMss) ≤ (restO c idle rto used).xCwnd ∧ c.xSsthresh ≤ (restO c idle rto used).xSsthresh := by
  have hc := cwnd_of h
  unfold restO
  rw [if_pos h, if_pos hr]
  split
  · exact ⟨h, rfl, by omega, by omega, by omega, by omega⟩
  · rename_i hk
    refine ⟨?_, rfl, by dsimp only; omega, by dsimp only; omega, by dsimp only; omega, by dsimp only; omega⟩
    generalize c.xCwnd / 2 ^ (min 20 (idle / rto)).toNat = z
    rcases h with g | g | g
    · refine .inl ?_
      simp only [RenoOk, Com, NoCub, NoBbr] at g ⊢
      omega
    · refine .inr (.inl ?_)
      simp only [CubOk, Com, NoBbr] at g ⊢
      omega
    · exact absurd (.inl g.1) hk
end
end
end Go.Proofs.Ytgnoidblkenglaa.M
