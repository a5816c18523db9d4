/- The law BbrStays: a controller that may be stays one, whatever samples come. -/
import Derived.Test.YtgadpgeghlhpnaaSTHeads18
import Derived.Test.YtgadpgeghlhpnaaPuBbrStays
set_option linter.unusedVariables false
set_option linter.unusedSimpArgs false
namespace Go.Proofs.Ytgadpgeghlhpnaa.M
open Go Go.RowKit
noncomputable section
theorem stays_loop {R : Type} (n : Nat) (mss : Int) (l : List SSample) (kr : Bool → Option R) (ke r : Option R) (hl : l.length ≤ 300) (hr : ∀ b, b = true → kr b = r) (hke : ke = r) :
    ∀ (d m : Nat) (i : Nat) (most : Int) (c : SCc), i + d = l.length → BbrOk c → c.xMss = mss → c.xBw.length ≤ i → bestO c.xBw ≤ most → d + 1 ≤ m →
      l_law18_BbrStays_12 capB (n + 400) m mss l most (i : Int) c kr ke = r := by
  intro d
  induction d with
  | zero =>
    intro m i most c hi hb hm hlen hbest hk
    obtain ⟨m, rfl⟩ : ∃ z, m = z + 1 := ⟨m - 1, by omega⟩
    simp only [l_law18_BbrStays_12, s_law18_BbrStays_6]
    rw [cf (by omega), hke]
  | succ d ih =>
    intro m i most c hi hb hm hlen hbest hk
    obtain ⟨m, rfl⟩ : ∃ z, m = z + 1 := ⟨m - 1, by omega⟩
    rw [l_law18_BbrStays_12]
    simp only [s_law18_BbrStays_6]
    rw [ct (by omega), ct (by omega), ct (by omega)]
    generalize hs : l.getD (Int.toNat (i : Int)) zSample = s
    have hh : ∀ k : Bool → Option R, G_law18_heads capB (n + 400) k = k true := fun k => heads18 _ k (by omega)
    by_cases hsm : Smp s
    case neg =>
      obtain ⟨e, e1, e2, e3⟩ := bAcked_bad (R := R) (n + 389) c s (by omega) (by omega) (fun g => hsm g.2)
      have he := e2 hb
      rw [e3, cnf (by omega), ct he, hh]
      exact hr _ rfl
    obtain ⟨L, hL, g1, g2, g3, g4, g5⟩ := bAcked_ok (R := R) (n + 389) c s hb hsm (by omega) (by omega)
    have hlL : L.length ≤ i + 1 := by
      have := hL.len
      have e : (roundO (ofC c) s).xCc_Bw = c.xBw := (roundO_ok (qn_of hb) hsm).2.2.1
      rw [e] at this; omega
    have hbl : bestO L ≤ max most (min s.xRate 1099511627776) := by
      have := hL.best
      have e : (roundO (ofC c) s).xCc_Bw = c.xBw := (roundO_ok (qn_of hb) hsm).2.2.1
      rw [e] at this; omega
    have hrd : c.xRound ≤ (ackB c s L).xRound := by rw [g3]; exact (roundO_ok (qn_of hb) hsm).2.1
    have hcw : mss ≤ (ackB c s L).xCwnd := by rw [← hm, ← g4]; exact g1.2.2.2.1
    rw [g5, cnt rfl, ct (by omega), ct (by omega), bCheck_k capB (n + 390) _ _ (by rw [g2]; omega) (by rw [g2]; omega), if_pos g1, cnt rfl, cf (by omega), cf (by omega),
      bBandwidth_k capB (n + 389) _ _ (by rw [g2]; omega) (by rw [g2]; omega) g1, g2, mn_min, mx_max, cf (by omega), succ_w (by omega)]
    exact ih m (i + 1) _ _ (by omega) g1 (g4.trans hm) (by rw [g2]; exact hlL) (by rw [g2]; exact hbl) (by omega)
theorem law_BbrStays : LawBbrStays.Pure := by
  intro M mss first l hm hf hl
  refine ⟨1001, fun R k => ?_⟩
  rw [G_law18_BbrStays]
  have hh : ∀ k : Bool → Option R, G_law18_heads capB 1000 k = k true := fun k => heads18 1000 k (by omega)
  simp only [s_law18_BbrStays_23, s_law18_BbrStays_1, s_law18_BbrStays_21]
  rw [bNew_k capB 998]
  by_cases a : NewOk mss first
  case neg => unfold newE; rw [if_neg a, cnf (by omega), hh]
  have e0 : newE mss first = 0 := by unfold newE; rw [if_pos a]
  have hb := newB_ok a
  have hms : (newB mss first).xMss = mss := by unfold newB; rw [if_pos a]
  have hbw : (newB mss first).xBw = [] := by unfold newB; rw [if_pos a]
  rw [e0, cnt rfl]
  by_cases b : 300 < (l.length : Int)
  · rw [ct b, hh]
  rw [cf b]
  simp only [s_law18_BbrStays_17, s_law18_BbrStays_4, s_law18_BbrStays_15, s_law18_BbrStays_13, s_law18_BbrStays_18]
  exact stays_loop 600 mss l _ _ (k true) (by omega) (fun b hb => by rw [hb]) (hh _) l.length 1000 0 0 (newB mss first) (by omega) hb hms (by rw [hbw]; exact Nat.le_refl _) (by rw [hbw]; exact Int.le_refl _) (by omega)
end
end Go.Proofs.Ytgadpgeghlhpnaa.M
