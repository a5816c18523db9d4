/- The law CcStays: whatever comes, a controller that may be stays one, of its kind, and its pace is in its bounds. -/
import Derived.Test.YtgnoidblkenglaaSTStay
import Derived.Test.YtgnoidblkenglaaPuCcStays
set_option linter.unusedVariables false
set_option linter.unusedSimpArgs false
namespace Go.Proofs.Ytgnoidblkenglaa.M
open Go Go.RowKit
noncomputable section
theorem heads19_D {R : Type} (n : Nat) (k : Bool → Option R) : G_law19_heads capD (n + 40) k = k true := by kernel_rfl
theorem heads19 {R : Type} (n : Nat) (k : Bool → Option R) (h : 40 ≤ n) : G_law19_heads capB n k = k true := by
  obtain ⟨m, rfl⟩ : ∃ m, n = m + 40 := ⟨n - 40, by omega⟩
  rw [capB_eq]; exact heads19_D m k
theorem step_d {R : Type} (n : Nat) (kind mss : Int) (l : List SSample) (w : List Int) (i : Nat) (c : SCc) (h : CcOk c) (hc : InC c n) (hl : (c.xBw.length + 1) * 16 ≤ 140737488355328) (hn : 30 ≤ n) (h1 : i < l.length) (h2 : i < w.length) :
    ∃ d f, Stay c d f ∧ ∀ kn : Int → SCc → Option R, s_law19_CcStays_50 capB (n + 13) kind mss l w (i : Int) c kn = kn f d := by
  have a0 : (0 : Int) ≤ (i : Int) := by omega
  have a1 : (i : Int) < (l.length : Int) := by omega
  have a2 : (i : Int) < (w.length : Int) := by omega
  simp only [s_law19_CcStays_11, s_law19_CcStays_13, s_law19_CcStays_15, s_law19_CcStays_17, s_law19_CcStays_19, s_law19_CcStays_21, s_law19_CcStays_23, s_law19_CcStays_25, s_law19_CcStays_27, s_law19_CcStays_29, s_law19_CcStays_31, s_law19_CcStays_34, s_law19_CcStays_35, s_law19_CcStays_38, s_law19_CcStays_39, s_law19_CcStays_42, s_law19_CcStays_43, s_law19_CcStays_46, s_law19_CcStays_48, s_law19_CcStays_50,
    decide_eq_true a0, decide_eq_true a1, decide_eq_true a2, cond_true]
  generalize bits .and .i64 (w.getD (Int.toNat (i : Int)) zint) 7 = v
  generalize l.getD (Int.toNat (i : Int)) zSample = s
  by_cases v0 : v = 0
  · obtain ⟨d, f, g, e⟩ := ccLoss_d (R := R) capB n c s.xFlight h hc
    exact ⟨d, f, g, fun kn => (ct v0).trans (e _)⟩
  by_cases v1 : v = 1
  · obtain ⟨d, f, g, e⟩ := ccTimeout_d (R := R) capB n c s.xFlight h hc
    exact ⟨d, f, g, fun kn => (cf v0).trans ((ct v1).trans (e _))⟩
  by_cases v2 : v = 2
  · obtain ⟨d, f, g, e⟩ := ccDone_d (R := R) capB (n + 1) c h ⟨hc.r, hc.len, by have := hc.fit; omega⟩
    exact ⟨d, f, g, fun kn => (cf v0).trans ((cf v1).trans ((ct v2).trans (e _)))⟩
  by_cases v3 : v = 3
  · obtain ⟨d, f, g, e⟩ := ccRest_d (R := R) capB n c s.xNow s.xRtt s.xFlight h hc
    exact ⟨d, f, g, fun kn => (cf v0).trans ((cf v1).trans ((cf v2).trans ((ct v3).trans (e _))))⟩
  by_cases v4 : v = 4
  · obtain ⟨d, f, g, e⟩ := ccLimit_d (R := R) capB n c s.xFlight h hc
    exact ⟨d, f, g, fun kn => (cf v0).trans ((cf v1).trans ((cf v2).trans ((cf v3).trans ((ct v4).trans (e _)))))⟩
  obtain ⟨d, f, g, e⟩ := ccAcked_d (R := R) n c s s.xRtt h hc hl hn
  by_cases v5 : v = 5
  · exact ⟨d, f, g, fun kn => (cf v0).trans ((cf v1).trans ((cf v2).trans ((cf v3).trans ((cf v4).trans ((ct v5).trans ((ct v5).trans (e _)))))))⟩
  by_cases v6 : v = 6
  · exact ⟨d, f, g, fun kn => (cf v0).trans ((cf v1).trans ((cf v2).trans ((cf v3).trans ((cf v4).trans ((cf v5).trans ((ct v6).trans ((ct v6).trans (e _))))))))⟩
  by_cases v7 : v = 7
  · exact ⟨d, f, g, fun kn => (cf v0).trans ((cf v1).trans ((cf v2).trans ((cf v3).trans ((cf v4).trans ((cf v5).trans ((cf v6).trans ((ct v7).trans (e _))))))))⟩
  · exact ⟨c, 0, good_self h, fun kn => (cf v0).trans ((cf v1).trans ((cf v2).trans ((cf v3).trans ((cf v4).trans ((cf v5).trans ((cf v6).trans (cf v7)))))))⟩
theorem stays_loop {R : Type} (n : Nat) (kind mss : Int) (l : List SSample) (w : List Int) (kr : Bool → Option R) (ke r : Option R) (hl : l.length ≤ 200) (hw : l.length ≤ w.length) (hs : ∀ s ∈ l, -9223372036854775808 ≤ s.xRtt ∧ s.xRtt ≤ 9223372036854775807) (hr : ∀ b, b = true → kr b = r) (hke : ke = r) :
    ∀ (d m : Nat) (i : Nat) (c : SCc), i + d = l.length → CcOk c → c.xKind = kind → c.xMss = mss → c.xBw.length ≤ i → d + 1 ≤ m →
      l_law19_CcStays_72 capB (n + 300) m kind mss l w (i : Int) c kr ke = r := by
  intro d
  induction d with
  | zero =>
    intro m i c hi hb hk hm hlen hmm
    obtain ⟨m, rfl⟩ : ∃ z, m = z + 1 := ⟨m - 1, by omega⟩
    simp only [l_law19_CcStays_72, s_law19_CcStays_70, s_law19_CcStays_6]
    rw [cf (by omega), hke]
  | succ d ih =>
    intro m i c hi hb hk hm hlen hmm
    obtain ⟨m, rfl⟩ : ∃ z, m = z + 1 := ⟨m - 1, by omega⟩
    have hh : ∀ k : Bool → Option R, G_law19_heads capB (n + 300) k = k true := fun k => heads19 _ k (by omega)
    have hin : i < l.length := by omega
    rw [l_law19_CcStays_72]
    simp only [s_law19_CcStays_70, s_law19_CcStays_6, s_law19_CcStays_67, s_law19_CcStays_62, s_law19_CcStays_59, s_law19_CcStays_9, s_law19_CcStays_56]
    obtain ⟨x, f, g, e⟩ := step_d (R := R) (n + 287) kind mss l w i c hb (inC_of hb (by omega) (by omega)) (by omega) (by omega) hin (by omega)
    rw [ct (by omega), e]
    simp only [s_law19_CcStays_51]
    rcases g with rfl | ⟨rfl, g1, g2, g3, g4⟩
    · rw [cnf (by omega), ct rfl, hh]; exact hr _ rfl
    have hcw := cwnd_of g1
    have hmem : l.getD (Int.toNat (i : Int)) zSample ∈ l := by
      have : l.getD (Int.toNat (i : Int)) zSample = l[i] := by
        show l.getD i zSample = _
        rw [List.getD_eq_getElem?_getD, List.getElem?_eq_getElem hin]; rfl
      rw [this]; exact List.getElem_mem hin
    have hsr := hs _ hmem
    rw [cnt rfl, ccCheck_k capB (n + 289) _ _ (inC_of g1 (by omega) (by omega)), if_pos g1, cnt rfl, cf (by omega), cf (by omega), cnt (by omega), cnt (by omega), ct (by omega), ct (by omega),
      Pace_k capB (n + 287) _ _ _ _ (inC_of g1 (by omega) (by omega)) hsr.1 hsr.2]
    have hp : 7 ≤ paceO x (l.getD (Int.toNat (i : Int)) zSample).xRtt 7 ∧ paceO x (l.getD (Int.toNat (i : Int)) zSample).xRtt 7 ≤ 1099511627776 := by
      unfold paceO; rw [if_pos g1]
      generalize (if paceR x = 0 then _ else paceR x) = z
      omega
    rw [cf (by omega), cf (by omega)]
    simp only [s_law19_CcStays_63]
    rw [succ_w (by omega)]
    exact ih m (i + 1) x (by omega) g1 (g2.trans hk) (g3.trans hm) (by omega) (by omega)
theorem ccNew_facts {kind m f : Int} (h : ccNewE kind m f = 0) : (ccNewO kind m f).xKind = kind ∧ (ccNewO kind m f).xMss = m ∧ (ccNewO kind m f).xBw = [] := by
  unfold ccNewE at h
  split at h
  case isFalse => omega
  rename_i hk
  unfold newE at h
  split at h
  case isFalse => omega
  rename_i ok
  unfold ccNewO newO newB
  rw [if_pos ok, if_pos ok, if_pos ok]
  by_cases a1 : kind = 1
  · rw [if_pos a1]; exact ⟨a1.symm, rfl, rfl⟩
  by_cases a2 : kind = 2
  · rw [if_neg a1, if_pos a2]; exact ⟨a2.symm, rfl, rfl⟩
  · have a3 : kind = 3 := by omega
    rw [if_neg a1, if_neg a2, if_pos a3]; exact ⟨a3.symm, rfl, rfl⟩
theorem law_CcStays : LawCcStays.Pure := by
  intro M kind mss l w hk hm hl hw
  refine ⟨1001, fun R k => ?_⟩
  rw [G_law19_CcStays]
  have hh : ∀ k : Bool → Option R, G_law19_heads capB 1000 k = k true := fun k => heads19 1000 k (by omega)
  simp only [s_law19_CcStays_83, s_law19_CcStays_1]
  rw [ccNew_k capB 997]
  by_cases a : ccNewE kind mss 4 = 0
  case neg => rw [cnf a, hh]
  rw [cnt a]
  by_cases b : 200 < (l.length : Int)
  · rw [ct b, hh]
  rw [cf b]
  by_cases d : (w.length : Int) < (l.length : Int)
  · rw [ct d, hh]
  rw [cf d]
  obtain ⟨n1, n2, n3⟩ := ccNew_facts a
  simp only [s_law19_CcStays_81, s_law19_CcStays_77, s_law19_CcStays_4, s_law19_CcStays_75, s_law19_CcStays_73, s_law19_CcStays_78]
  refine stays_loop 700 kind mss l w _ _ (k true) (by omega) (by omega) (fun s hs => ?_) (fun b hb => by rw [hb]) (hh _) l.length 1000 0 _ (by omega) (ccNew_ok a) n1 n2 (by rw [n3]; exact Nat.le_refl _) (by omega)
  have := hl.2.2.2 s hs
  simp only [LawCcStays.InSample, Rng, i64min, i64max] at this
  obtain ⟨_, _, h3, _⟩ := this
  exact h3
end
end Go.Proofs.Ytgnoidblkenglaa.M
