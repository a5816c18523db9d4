/- The law CubicBack: once the time K is over, the window has come back to where it was at the loss. -/
import Derived.Test.YtliknmgcnipbkaaBTCubicR
import Derived.Test.YtliknmgcnipbkaaBTCubicF
import Derived.Test.YtliknmgcnipbkaaPuCubicBack
set_option linter.unusedVariables false
set_option linter.unusedSimpArgs false
namespace Go.Proofs.Ytliknmgcnipbkaa.M
open Go Go.RowKit
noncomputable section
/-- A controller on its way back: s segments at the loss. -/
structure BackC (s K : Int) (c : SCc) : Prop where
  ok : CubOk c
  mss : c.xMss = 100
  cwnd : 70 * s ≤ c.xCwnd
  wmax : c.xWmax = 100 * s
  k : c.xK = K
  epoch : c.xEpoch = 0
  ss : c.xSsthresh = 70 * s
theorem back_grow {s K q now : Int} {c : SCc} (h : BackC s K c) : BackC s K (growO c q now 0) := by
  obtain ⟨g1, g2⟩ := grow_facts (q := q) (now := now) (srtt := 0) h.ok (by have := h.epoch; omega)
  exact ⟨g1, h.mss, Int.le_trans h.cwnd g2, h.wmax, h.k, h.epoch, h.ss⟩
theorem back_up {s K i : Int} {c : SCc} (h : BackC s K c) (hs0 : 10 ≤ s) (hs1 : s ≤ 1000) (hi0 : 0 ≤ i) (hi : K + 200 < i * 100) : 100 * s - 100 ≤ (growO c c.xCwnd (i * 100000) 0).xCwnd := by
  have h1 := h.ok; have h2 := h.cwnd; have h3 := h.wmax; have h4 := h.k; have h5 := h.epoch
  have ht : (max 0 (i * 100000 - c.xEpoch) + 0) / 1000 = i * 100 := by omega
  have hcv : 100 * s ≤ curveO c (i * 100) := by
    have := (mdv_range (max (distO c (i * 100)) (-distO c (i * 100)) * max (distO c (i * 100)) (-distO c (i * 100)) * max (distO c (i * 100)) (-distO c (i * 100))) (4 * c.xMss) 10000000000).1
    unfold curveO
    rw [if_pos h1, if_neg (by unfold distO; omega)]
    unfold cubeO
    omega
  have hw : wideO c (i * 100000) 0 = max c.xCwnd (min (curveO c (i * 100)) (c.xCwnd + c.xCwnd / 2)) := by unfold wideO; rw [ht]
  have w0 : 0 ≤ wideO c (i * 100000) 0 - c.xCwnd := by rw [hw]; omega
  have hm : mdv (wideO c (i * 100000) 0 - c.xCwnd) c.xCwnd c.xCwnd = wideO c (i * 100000) 0 - c.xCwnd := by
    rw [mdv_pos w0 (by omega) (by omega), Int.mul_ediv_cancel _ (by omega)]
    have := curveO_range c (i * 100)
    rw [hw]; omega
  unfold growO
  dsimp only
  rw [hm]
  have hww : 100 * s ≤ wideO c (i * 100000) 0 := by rw [hw]; omega
  unfold satw
  omega
theorem back_acked {s K i : Int} {c : SCc} (h : BackC s K c) (hi0 : 0 ≤ i) (hi : i ≤ 400) : ackedO c c.xCwnd (i * 100000) 0 false = growO c c.xCwnd (i * 100000) 0 ∧ ackedE c c.xCwnd (i * 100000) 0 = 0 := by
  have h1 := h.ok; have h2 := h.cwnd; have h6 := h.ss; have h5 := h.epoch
  have hA : AckIn c.xCwnd (i * 100000) 0 := by unfold AckIn; omega
  unfold ackedO ackedE
  rw [if_pos h1, if_pos hA, if_pos h1, if_pos hA, if_neg (show ¬ (false = true) by simp), if_neg (by omega), if_neg (by omega)]
  exact ⟨rfl, rfl⟩
theorem back_loop {R : Type} (n : Nat) (s K : Int) (hn : 31 ≤ n) (hs0 : 10 ≤ s) (hs1 : s ≤ 1000) (hK0 : 0 ≤ K) (hK : K ≤ 39000) (kr : Option R) (ke : SCc → Option R) (r : Option R) (hke : ∀ c', 100 * s - 100 ≤ c'.xCwnd → ke c' = r) :
    ∀ (d m : Nat) (i : Int) (c : SCc), i + d = 400 → 1 ≤ i → (i - 1) * 100 ≤ K + 200 → BackC s K c → d + 1 ≤ m → l_law16_CubicBack_14 capB n m s i c kr ke = r := by
  intro d
  induction d with
  | zero => intro m i c h1 h2 h3; omega
  | succ d ih =>
    intro m i c h1 h2 h3 hb hm
    obtain ⟨m, rfl⟩ : ∃ q, m = q + 1 := ⟨m - 1, by omega⟩
    obtain ⟨n', rfl⟩ : ∃ q, n = q + 1 := ⟨n - 1, by omega⟩
    rw [l_law16_CubicBack_14]
    simp only [G_law16_CubicBack, s_law16_CubicBack_1, s_law16_CubicBack_4, s_law16_CubicBack_7, s_law16_CubicBack_9, s_law16_CubicBack_15, s_law16_CubicBack_17, s_law16_CubicBack_19, s_law16_CubicBack_20, s_law16_CubicBack_23, s_law16_CubicBack_25, s_law16_CubicBack_27]
    obtain ⟨e1, e2⟩ := back_acked (i := i) hb (by omega) (by omega)
    rw [ct (by omega), w64_id (n := i * 100000) (by omega) (by omega), Acked_k capB n' c _ _ 0 false _ (by omega) (inR_of hb.ok), e1, e2, cnt rfl]
    have hb2 := back_grow (q := c.xCwnd) (now := i * 100000) hb
    have hk := hb2.k
    rw [w64_id (n := (growO c c.xCwnd (i * 100000) 0).xK + 200) (by omega) (by omega), w64_id (n := i * 100) (by omega) (by omega), hk]
    by_cases a : K + 200 < i * 100
    · rw [ct a]; exact hke _ (back_up hb hs0 hs1 (by omega) a)
    · rw [cf a, w64_id (n := i + 1) (by omega) (by omega)]
      exact ih m (i + 1) _ (by omega) (by omega) (by omega) hb2 (by omega)
theorem cbrt_small {N r : Int} (h : IsCbrt N r) (hN : N ≤ 750000000000) : r ≤ 9100 := by
  rcases Int.lt_or_le 9100 r with hl | hl
  · have := cube_le (show (0 : Int) ≤ 9101 by omega) (show 9101 ≤ r by omega)
    have := h.le
    omega
  · exact hl
theorem law_CubicBack : LawCubicBack.Pure := by
  intro M s hs
  refine ⟨1001, fun R k => ?_⟩
  rw [G_law16_CubicBack]
  have hh : ∀ k : Bool → Option R, G_law16_heads capB 1000 k = k true := fun k => heads16 1000 k (by omega)
  simp only [G_law16_CubicBack, s_law16_CubicBack_1, s_law16_CubicBack_4, s_law16_CubicBack_7, s_law16_CubicBack_9, s_law16_CubicBack_15, s_law16_CubicBack_17, s_law16_CubicBack_19, s_law16_CubicBack_20, s_law16_CubicBack_23, s_law16_CubicBack_25, s_law16_CubicBack_27]
  by_cases a1 : s < 10
  · rw [ct a1, hh]
  by_cases a2 : 1000 < s
  · rw [cf a1, ct a2, hh]
  rw [cf a1, cf a2, New_k capB 998 100 10]
  have eN : newO 2 (-1) 100 10 = ⟨2, 100, 1000, 1073741824, 0, 0, -1, 0, 0, 0, 0, [], 0, 0, 0, 0, 0, 0, 0, 0, 0, 0⟩ := by unfold newO; rw [if_pos (by unfold NewOk; omega)]; rfl
  rw [eN, w64_id (n := 100 * s) (by omega) (by omega)]
  generalize hc0 : (SCc.mk 2 100 (100 * s) (100 * s) 0 0 (-1) 0 0 0 0 [] 0 0 0 0 0 0 0 0 0 0) = c0
  have ok0 : CubOk c0 := by
    subst hc0
    simp only [CubOk, Com, NoBbr]
    simp
    omega
  rw [Loss_k capB 992 c0 0 _ (inR_of ok0)]
  have e1 : movedO fallO c0 0 = fallO c0 := by unfold movedO; rw [if_pos ok0, if_pos (by omega)]
  have e2 : movedE c0 0 = 0 := by unfold movedE; rw [if_pos ok0, if_pos (by omega)]
  have e3 : fallO c0 = SCc.mk 2 100 (100 * s) (70 * s) 0 (100 * s) (-1) 0 0 0 0 [] 0 0 0 0 0 0 0 0 0 0 := by
    subst hc0
    unfold fallO
    dsimp only
    rw [if_neg (by omega)]
    congr 1; omega
  rw [e1, e2, e3]
  generalize hc1 : (SCc.mk 2 100 (100 * s) (70 * s) 0 (100 * s) (-1) 0 0 0 0 [] 0 0 0 0 0 0 0 0 0 0) = c1
  have ok1 : CubOk c1 := by
    subst hc1
    simp only [CubOk, Com, NoBbr]
    simp
    omega
  rw [Done_k capB 992 c1 _ (inR_of ok1)]
  have f1 : movedO doneO c1 0 = doneO c1 := by unfold movedO; rw [if_pos ok1, if_pos (by omega)]
  have f2 : movedE c1 0 = 0 := by unfold movedE; rw [if_pos ok1, if_pos (by omega)]
  have f3 : doneO c1 = SCc.mk 2 100 (70 * s) (70 * s) 0 (100 * s) (-1) 0 0 0 0 [] 0 0 0 0 0 0 0 0 0 0 := by subst hc1; rfl
  rw [f1, f2, f3, cnt rfl, cnt rfl, w64_id (n := 70 * s) (by omega) (by omega), cnt rfl]
  generalize hc2 : (SCc.mk 2 100 (70 * s) (70 * s) 0 (100 * s) (-1) 0 0 0 0 [] 0 0 0 0 0 0 0 0 0 0) = c2
  have ok2 : CubOk c2 := by
    subst hc2
    simp only [CubOk, Com, NoBbr]
    simp
    omega
  have g0 : c2.xCwnd = 70 * s := by subst hc2; rfl
  have g1 : c2.xWmax = 100 * s := by subst hc2; rfl
  have g2 : c2.xEpoch = -1 := by subst hc2; rfl
  have g3 : c2.xSsthresh = 70 * s := by subst hc2; rfl
  have g4 : c2.xMss = 100 := by subst hc2; rfl
  obtain ⟨b1, b2⟩ := begin_ok (now := 0) ok2 (by omega) (by omega)
  have hK : ∃ K, 0 ≤ K ∧ K ≤ 39000 ∧ BackC s K (beginO c2 0) := by
    have eb : beginO c2 0 = { c2 with xEpoch := 0, xStart := c2.xCwnd, xWest := c2.xCwnd, xK := cbrtO (mdv (c2.xWmax - c2.xCwnd) 10000000000 (4 * c2.xMss)) } := by unfold beginO; rw [if_pos (by omega)]
    have hr := cbrtO_range (mdv (c2.xWmax - c2.xCwnd) 10000000000 (4 * c2.xMss))
    have hs : cbrtO (mdv (c2.xWmax - c2.xCwnd) 10000000000 (4 * c2.xMss)) ≤ 9100 := by
      obtain ⟨r, h, _⟩ := Cbrt_k (R := Unit) (fun _ _ => true) 22 (mdv (c2.xWmax - c2.xCwnd) 10000000000 (4 * c2.xMss)) (by omega)
      rw [cbrtO_eq h]
      refine cbrt_small h ?_
      rw [mdv_pos (by omega) (by omega) (by omega), g0, g1, g4]
      omega
    refine ⟨_, hr.1, by omega, ?_⟩
    rw [eb] at b1 ⊢
    exact ⟨b1, g4, by show 70 * s ≤ c2.xCwnd; omega, g1, rfl, rfl, g3⟩
  obtain ⟨K, K0, K1, hb⟩ := hK
  have hA : AckIn c2.xCwnd (0 * 100000) 0 := by unfold AckIn; omega
  have i1 : ackedO c2 c2.xCwnd (0 * 100000) 0 false = growO (beginO c2 0) c2.xCwnd (0 * 100000) 0 := by
    unfold ackedO
    rw [if_pos ok2, if_pos hA, if_neg (show ¬ (false = true) by simp), if_neg (by omega), if_pos g2]
    rfl
  have i2 : ackedE c2 c2.xCwnd (0 * 100000) 0 = 0 := by unfold ackedE; rw [if_pos ok2, if_pos hA]
  rw [l_law16_CubicBack_14]
  simp only [G_law16_CubicBack, s_law16_CubicBack_1, s_law16_CubicBack_4, s_law16_CubicBack_7, s_law16_CubicBack_9, s_law16_CubicBack_15, s_law16_CubicBack_17, s_law16_CubicBack_19, s_law16_CubicBack_20, s_law16_CubicBack_23, s_law16_CubicBack_25, s_law16_CubicBack_27]
  rw [ct (by omega), w64_id (n := 0 * 100000) (by omega) (by omega), Acked_k capB 999 c2 _ _ 0 false _ (by omega) (inR_of ok2), i1, i2, cnt rfl]
  have hb2 := back_grow (q := c2.xCwnd) (now := 0 * 100000) hb
  have hk := hb2.k
  rw [w64_id (n := (growO (beginO c2 0) c2.xCwnd (0 * 100000) 0).xK + 200) (by omega) (by omega), w64_id (n := 0 * 100) (by omega) (by omega), cf (by omega), w64_id (n := 0 + 1) (by omega) (by omega)]
  refine back_loop 1000 s K (by omega) (by omega) (by omega) K0 K1 _ _ (k true) (fun c' hc' => ?_) 399 999 (0 + 1) _ (by omega) (by omega) (by omega) hb2 (by omega)
  rw [w64_id (n := 100 * s - 100) (by omega) (by omega), ct hc', hh]
end
end Go.Proofs.Ytliknmgcnipbkaa.M
