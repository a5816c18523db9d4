/- The law BbrSteady: on an even path startup ends, and the window becomes twice what the path holds. -/
import Derived.Test.YtgadpgeghlhpnaaYTHeads18
import Derived.Test.YtgadpgeghlhpnaaPuBbrSteady
set_option linter.unusedVariables false
set_option linter.unusedSimpArgs false
namespace Go.Proofs.Ytgadpgeghlhpnaa.M
open Go Go.RowKit
noncomputable section
def pathO (rate rtt : Int) : Int := min 1073741824 (mdv rate rtt 1000000)
def aimS (m rate rtt : Int) : Int := max (2 * pathO rate rtt) (4 * m)
structure Ev (m rate rtt i t : Int) (c : SCc) : Prop where
  ok : BbrOk c
  mss : c.xMss = m
  round : c.xRound = i
  next : c.xNextAt = 1000 * i
  bw : (i = 0 ∧ c.xBw = [] ∧ c.xMinRtt = 0) ∨ (1 ≤ i ∧ c.xBw = [⟨i, rate⟩] ∧ c.xMinRtt = rtt ∧ c.xMinAt = t)
  st : (i = 0 ∧ c.xFull = 0 ∧ c.xFullN = 0 ∧ c.xMode = 1) ∨ (1 ≤ i ∧ i ≤ 3 ∧ c.xFull = rate ∧ c.xFullN = i - 1 ∧ c.xMode = 1) ∨ (4 ≤ i ∧ c.xFull = rate ∧ c.xFullN = 3 ∧ c.xMode = 3)
  cw : 10 * m ≤ c.xCwnd ∨ (4 ≤ i ∧ c.xCwnd = min (aimS m rate rtt) 1073741824)
  cw4 : 4 ≤ i → c.xCwnd = min (aimS m rate rtt) 1073741824 ∨ (10 * m ≤ c.xCwnd ∧ c.xCwnd < aimS m rate rtt)
structure Kp (q x : QB) : Prop where
  mss : x.xCc_Mss = q.xCc_Mss
  round : x.xCc_Round = q.xCc_Round
  next : x.xCc_NextAt = q.xCc_NextAt
  bw : x.xCc_Bw = q.xCc_Bw
  cwnd : x.xCc_Cwnd = q.xCc_Cwnd
  rtt : x.xCc_MinRtt = q.xCc_MinRtt
  at_ : x.xCc_MinAt = q.xCc_MinAt
theorem full_kp (q : QB) : Kp q (fullO q) := by
  unfold fullO; split
  · exact ⟨rfl, rfl, rfl, rfl, rfl, rfl, rfl⟩
  · split <;> exact ⟨rfl, rfl, rfl, rfl, rfl, rfl, rfl⟩
theorem cycle_kp (q : QB) (s : SSample) : Kp q (cycleO q s) ∧ (cycleO q s).xCc_Full = q.xCc_Full ∧ (cycleO q s).xCc_FullN = q.xCc_FullN ∧ (s.xFlight = 0 → (cycleO q s).xCc_Mode = if q.xCc_Mode = 2 then 3 else q.xCc_Mode) := by
  have := prod_range q
  unfold cycleO
  split
  · rename_i h; refine ⟨⟨rfl, rfl, rfl, rfl, rfl, rfl, rfl⟩, rfl, rfl, fun _ => ?_⟩; rw [if_pos h.1]; rfl
  · rename_i h
    have h2 : s.xFlight = 0 → q.xCc_Mode ≠ 2 := fun e g => h ⟨g, by omega⟩
    split
    · refine ⟨⟨rfl, rfl, rfl, rfl, rfl, rfl, rfl⟩, rfl, rfl, fun e => ?_⟩; rw [if_neg (h2 e)]
    · refine ⟨⟨rfl, rfl, rfl, rfl, rfl, rfl, rfl⟩, rfl, rfl, fun e => ?_⟩; rw [if_neg (h2 e)]
theorem ev_step {m rate rtt i t : Int} {c : SCc} {s : SSample} {L : List SEntry} (h : Ev m rate rtt i t c) (hm : 1 ≤ m ∧ m ≤ 10000) (hr : 1000 ≤ rate ∧ rate ≤ 1073741824) (ht : 1000 ≤ rtt ∧ rtt ≤ 1000000) (hi : 0 ≤ i ∧ i ≤ 12) (ht0 : 0 ≤ t)
    (s1 : s.xNow = t + rtt) (s2 : s.xRtt = rtt) (s3 : s.xRate = rate) (s4 : s.xIdle = false) (s5 : s.xGiven = 1000 * i + 1000) (s6 : s.xBefore = 1000 * i) (s7 : s.xFlight = 0) (s8 : 0 ≤ s.xAcked)
    (hok : BbrOk (ackB c s L)) (hL : SpeedOk (roundO (ofC c) s) s L) : Ev m rate rtt (i + 1) (t + rtt) (ackB c s L) := by
  have hx := h.next
  have hrd := h.round
  have hms := h.mss
  have hf : freshB (ofC c) s = true := by unfold freshB; rw [decide_eq_false (by show ¬ s.xBefore < c.xNextAt; omega)]; rfl
  have hro : roundO (ofC c) s = { ofC c with xCc_Round := i + 1, xCc_NextAt := 1000 * (i + 1) } := by
    unfold roundO
    rw [if_neg (by show ¬ s.xBefore < c.xNextAt; omega)]
    have e1 : min 1125899906842624 ((ofC c).xCc_Round + 1) = i + 1 := by show min 1125899906842624 (c.xRound + 1) = _; omega
    rw [e1, show s.xGiven = 1000 * (i + 1) by omega]
  have hLe : L = [⟨i + 1, rate⟩] := by
    have := hL.one (by omega) (fun e he => by
      rw [hro] at he
      have he : e ∈ c.xBw := he
      rcases h.bw with ⟨_, b, _⟩ | ⟨_, b, _⟩
      · rw [b] at he; cases he
      · rw [b] at he; rw [List.mem_singleton.1 he]; show rate ≤ _; omega)
    rw [this, hro]; congr 2; omega
  subst hLe
  -- the steps
  have hq : (ackB c s [⟨i + 1, rate⟩]) = toC (restB { ofC c with xCc_Round := i + 1, xCc_NextAt := 1000 * (i + 1), xCc_Bw := [⟨i + 1, rate⟩] } s true) := by unfold ackB; rw [hf, hro]
  rw [hq] at hok ⊢
  generalize hQ : ({ ofC c with xCc_Round := i + 1, xCc_NextAt := 1000 * (i + 1), xCc_Bw := [⟨i + 1, rate⟩] } : QB) = q at hok ⊢
  have q1 : q.xCc_Mss = m := by rw [← hQ]; exact hms
  have q2 : q.xCc_Round = i + 1 := by rw [← hQ]
  have q3 : q.xCc_NextAt = 1000 * (i + 1) := by rw [← hQ]
  have q4 : q.xCc_Bw = [⟨i + 1, rate⟩] := by rw [← hQ]
  have q5 : q.xCc_Cwnd = c.xCwnd := by rw [← hQ]; rfl
  have q6 : q.xCc_Full = c.xFull := by rw [← hQ]; rfl
  have q7 : q.xCc_FullN = c.xFullN := by rw [← hQ]; rfl
  have q8 : q.xCc_Mode = c.xMode := by rw [← hQ]; rfl
  have q9 : q.xCc_MinRtt = 0 ∨ (q.xCc_MinRtt = rtt ∧ q.xCc_MinAt = t) := by
    rw [← hQ]
    rcases h.bw with ⟨_, _, b⟩ | ⟨_, _, b, b2⟩
    · exact .inl b
    · exact .inr ⟨b, b2⟩
  have hlate : lateB q s = false := by unfold lateB; exact decide_eq_false (by omega)
  have hsh : shortO q s = { q with xCc_MinRtt := rtt, xCc_MinAt := t + rtt } := by
    unfold shortO; rw [if_pos ⟨by omega, by omega⟩, s2, s1]
  -- behind the first two steps
  obtain ⟨y, hy, ky, y1⟩ : ∃ y : QB, y = (if True ∧ (shortO q s).xCc_Mode = 1 ∧ s.xIdle = false then fullO (shortO q s) else shortO q s) ∧ Kp (shortO q s) y ∧
      ((i = 0 ∧ y.xCc_Full = rate ∧ y.xCc_FullN = 0 ∧ y.xCc_Mode = 1) ∨ (1 ≤ i ∧ i ≤ 2 ∧ y.xCc_Full = rate ∧ y.xCc_FullN = i ∧ y.xCc_Mode = 1) ∨ (i = 3 ∧ y.xCc_Full = rate ∧ y.xCc_FullN = 3 ∧ y.xCc_Mode = 2) ∨ (4 ≤ i ∧ y.xCc_Full = rate ∧ y.xCc_FullN = 3 ∧ y.xCc_Mode = 3)) := by
    have z1 : (shortO q s).xCc_Mode = c.xMode := by rw [hsh]; exact q8
    have z2 : (shortO q s).xCc_Full = c.xFull := by rw [hsh]; exact q6
    have z3 : (shortO q s).xCc_FullN = c.xFullN := by rw [hsh]; exact q7
    have z4 : bestO (shortO q s).xCc_Bw = rate := by rw [hsh]; show bestO q.xCc_Bw = _; rw [q4]; rfl
    refine ⟨_, rfl, ?_, ?_⟩
    · split
      · exact full_kp _
      · exact ⟨rfl, rfl, rfl, rfl, rfl, rfl, rfl⟩
    · rcases h.st with ⟨a, b1, b2, b3⟩ | ⟨a, a2, b1, b2, b3⟩ | ⟨a, b1, b2, b3⟩
      · rw [if_pos ⟨trivial, z1.trans b3, s4⟩]
        unfold fullO
        rw [z4, if_neg (by omega), if_pos (by omega)]
        exact .inl ⟨a, rfl, rfl, z1.trans b3⟩
      · rw [if_pos ⟨trivial, z1.trans b3, s4⟩]
        unfold fullO
        rw [z4, if_neg (by omega), if_neg (by omega)]
        by_cases w : i = 3
        · exact .inr (.inr (.inl ⟨w, z2.trans b1, by show min 3 ((shortO q s).xCc_FullN + 1) = 3; omega, by show (if min 3 ((shortO q s).xCc_FullN + 1) = 3 then 2 else _) = (2 : Int); rw [if_pos (by omega)]⟩))
        · exact .inr (.inl ⟨a, by omega, z2.trans b1, by show min 3 ((shortO q s).xCc_FullN + 1) = i; omega, by show (if min 3 ((shortO q s).xCc_FullN + 1) = 3 then 2 else _) = (1 : Int); rw [if_neg (by omega)]; exact z1.trans b3⟩)
      · rw [if_neg (fun g => by have := g.2.1; omega)]
        exact .inr (.inr (.inr ⟨a, z2.trans b1, z3.trans b2, z1.trans b3⟩))
  obtain ⟨kz, z1, z2, z3⟩ := cycle_kp y s
  have z3 := z3 s7
  have hm4 : (cycleO y s).xCc_Mode ≠ 4 := by rw [z3]; split <;> omega
  have hres : restB q s true = windowO (cycleO y s) s := by
    unfold restB
    rw [hlate]
    have e : (if true = true ∧ (shortO q s).xCc_Mode = 1 ∧ s.xIdle = false then fullO (shortO q s) else shortO q s) = y := by rw [hy]; simp only [true_and]
    rw [e]
    have : askO (cycleO y s) s false = cycleO y s := by
      unfold askO; rw [if_neg (fun g => by cases g.1), if_pos hm4]
    rw [this]
  rw [hres] at hok ⊢
  generalize hz : cycleO y s = z at *
  have e1 : z.xCc_Mss = m := kz.mss.trans (ky.mss.trans (by rw [hsh]; exact q1))
  have e2 : z.xCc_Round = i + 1 := kz.round.trans (ky.round.trans (by rw [hsh]; exact q2))
  have e3 : z.xCc_NextAt = 1000 * (i + 1) := kz.next.trans (ky.next.trans (by rw [hsh]; exact q3))
  have e4 : z.xCc_Bw = [⟨i + 1, rate⟩] := kz.bw.trans (ky.bw.trans (by rw [hsh]; exact q4))
  have e5 : z.xCc_Cwnd = c.xCwnd := kz.cwnd.trans (ky.cwnd.trans (by rw [hsh]; exact q5))
  have e6 : z.xCc_MinRtt = rtt := kz.rtt.trans (ky.rtt.trans (by rw [hsh]))
  have e7 : z.xCc_MinAt = t + rtt := kz.at_.trans (ky.at_.trans (by rw [hsh]))
  have ha : aimO z = aimS m rate rtt := by unfold aimO aimS pathO prodO; rw [e1, e4, e6]; rfl
  have hb : bestO z.xCc_Bw = rate := by rw [e4]; rfl
  have haim : 4 * m ≤ aimS m rate rtt := by unfold aimS; omega
  have hcw : (windowO z s).xCc_Cwnd = max m (min (wantO z s) 1073741824) := by show max z.xCc_Mss _ = _; rw [e1]
  have hstg : (i + 1 = 0 ∧ z.xCc_Full = 0 ∧ z.xCc_FullN = 0 ∧ z.xCc_Mode = 1) ∨ (1 ≤ i + 1 ∧ i + 1 ≤ 3 ∧ z.xCc_Full = rate ∧ z.xCc_FullN = i + 1 - 1 ∧ z.xCc_Mode = 1) ∨ (4 ≤ i + 1 ∧ z.xCc_Full = rate ∧ z.xCc_FullN = 3 ∧ z.xCc_Mode = 3) := by
    rcases y1 with ⟨a, b1, b2, b3⟩ | ⟨a, a2, b1, b2, b3⟩ | ⟨a, b1, b2, b3⟩ | ⟨a, b1, b2, b3⟩
    · rw [if_neg (by omega)] at z3; exact .inr (.inl ⟨by omega, by omega, z1.trans b1, by omega, z3.trans b3⟩)
    · rw [if_neg (by omega)] at z3; exact .inr (.inl ⟨by omega, by omega, z1.trans b1, by omega, z3.trans b3⟩)
    · rw [if_pos b3] at z3; exact .inr (.inr ⟨by omega, z1.trans b1, by omega, z3⟩)
    · rw [if_neg (by omega)] at z3; exact .inr (.inr ⟨by omega, z1.trans b1, by omega, z3.trans b3⟩)
  have hcw0 := h.cw
  have want3 : 4 ≤ i + 1 → wantO z s = min (aimS m rate rtt) (c.xCwnd + s.xAcked) := fun g => by
    unfold wantO; rw [if_neg hm4, if_pos (by omega), ha, e5]
  have want0 : i + 1 < 4 → wantO z s = c.xCwnd + s.xAcked ∨ wantO z s = c.xCwnd := fun g => by
    unfold wantO; rw [if_neg hm4, if_neg (by omega), e5]
    split
    · exact .inl rfl
    · exact .inr rfl
  have four : 4 ≤ i + 1 → (windowO z s).xCc_Cwnd = min (aimS m rate rtt) 1073741824 ∨ (10 * m ≤ (windowO z s).xCc_Cwnd ∧ (windowO z s).xCc_Cwnd < aimS m rate rtt) := fun g => by
    rw [hcw, want3 g]; omega
  refine ⟨hok, e1, e2, e3, .inr ⟨by omega, e4, e6, e7⟩, hstg, ?_, four⟩
  show 10 * m ≤ (windowO z s).xCc_Cwnd ∨ (4 ≤ i + 1 ∧ (windowO z s).xCc_Cwnd = min (aimS m rate rtt) 1073741824)
  by_cases g : 4 ≤ i + 1
  · rcases four g with a | a
    · exact .inr ⟨g, a⟩
    · exact .inl a.1
  · refine .inl ?_
    rw [hcw]
    rcases want0 (by omega) with a | a <;> rw [a] <;> omega
theorem bProduct_k {R : Type} (cp : Nat → Nat → Bool) (n : Nat) (c : SCc) (k : Int → Option R) (hl : c.xBw.length < 9223372036854775807) (hn : c.xBw.length ≤ n) (hb : BbrOk c) : G_bbr_Product cp (n + 11) c k = k (prodO (ofC c)) := by
  rw [G_bbr_Product, bCheck_k cp n c _ hl hn, if_pos hb, cnt rfl]
  exact prod_k (n + 8) cp (ofC c) _ (qn_of hb) (by omega)
theorem bw_len {m rate rtt i t : Int} {c : SCc} (h : Ev m rate rtt i t c) : c.xBw.length ≤ 1 := by
  rcases h.bw with ⟨_, b, _⟩ | ⟨_, b, _⟩ <;> rw [b] <;> simp
theorem steady_loop {R : Type} (n : Nat) (m rate rtt : Int) (kr : Option R) (ke : SCc → Option R) (hm : 1 ≤ m ∧ m ≤ 10000) (hr : 1000 ≤ rate ∧ rate ≤ 1073741824) (ht : 1000 ≤ rtt ∧ rtt ≤ 1000000) :
    ∀ (d x : Nat) (i : Nat) (c : SCc), i + d = 12 → Ev m rate rtt i (i * rtt) c → d + 1 ≤ x →
      ∃ c', Ev m rate rtt 12 (12 * rtt) c' ∧ l_law18_BbrSteady_19 capB (n + 400) x m rate rtt (1000 * (i : Int)) ((i : Int) + 1) c kr ke = ke c' := by
  intro d
  induction d with
  | zero =>
    intro x i c hi h hx
    obtain ⟨x, rfl⟩ : ∃ z, x = z + 1 := ⟨x - 1, by omega⟩
    have e : i = 12 := by omega
    subst e
    refine ⟨c, h, ?_⟩
    simp only [l_law18_BbrSteady_19, s_law18_BbrSteady_14]
    rw [cf (by omega)]
  | succ d ih =>
    intro x i c hi h hx
    obtain ⟨x, rfl⟩ : ∃ z, x = z + 1 := ⟨x - 1, by omega⟩
    have b0 : 0 ≤ (i : Int) * rtt := Int.mul_nonneg (by omega) (by omega)
    have b1 : (i : Int) * rtt ≤ 12 * 1000000 := Int.mul_le_mul (by omega) ht.2 (by omega) (by omega)
    have b2 : ((i : Int) + 1) * rtt = i * rtt + rtt := by rw [Int.add_mul, Int.one_mul]
    obtain ⟨A, hA, A0, A1⟩ : ∃ A, mn (wr .i64 ((wr .i64 ((wr .i64 (Int.tdiv rate 1000)) * (wr .i64 (Int.tdiv rtt 1000)))) + 1000000)) 1073741824 = A ∧ 0 ≤ A ∧ A ≤ 1073741824 := by
      refine ⟨_, rfl, ?_⟩
      rw [Int.tdiv_eq_ediv_of_nonneg (by omega), Int.tdiv_eq_ediv_of_nonneg (by omega), w64_id (n := rate / 1000) (by omega) (by omega), w64_id (n := rtt / 1000) (by omega) (by omega)]
      have p0 : 0 ≤ rate / 1000 * (rtt / 1000) := Int.mul_nonneg (by omega) (by omega)
      have p1 : rate / 1000 * (rtt / 1000) ≤ 1073742 * 1000 := Int.mul_le_mul (by omega) (by omega) (by omega) (by omega)
      rw [w64_id (n := rate / 1000 * (rtt / 1000)) (by omega) (by omega), w64_id (by omega) (by omega), mn_min]; omega
    rw [l_law18_BbrSteady_19]
    simp only [s_law18_BbrSteady_14]
    rw [ct (by omega), hA, b2, w64_id (n := (i : Int) * rtt + rtt) (by omega) (by omega), w64_id (n := 1000 * (i : Int) + 1000) (by omega) (by omega), w64_id (n := (i : Int) + 1 + 1) (by omega) (by omega)]
    generalize hs : SSample.mk ((i : Int) * rtt + rtt) A rtt rate false (1000 * (i : Int) + 1000) (1000 * (i : Int)) 0 = s
    have hsm : Smp s := by
      subst hs
      exact ⟨⟨by show 0 ≤ (i : Int) * rtt + rtt; omega, by show (i : Int) * rtt + rtt ≤ _; omega⟩, ⟨by show 0 ≤ 1000 * (i : Int) + 1000; omega, by show 1000 * (i : Int) + 1000 ≤ _; omega⟩, ⟨by show 0 ≤ 1000 * (i : Int); omega, by show 1000 * (i : Int) ≤ _; omega⟩, ⟨by show 0 ≤ rtt; omega, by show rtt ≤ _; omega⟩, ⟨A0, A1⟩, ⟨Int.le_refl _, by show (0 : Int) ≤ _; omega⟩, by show 0 ≤ rate; omega⟩
    have hlen := bw_len h
    obtain ⟨L, hL, g1, g2, g3, g4, g5⟩ := bAcked_ok (R := R) (n + 389) c s h.ok hsm (by omega) (by omega)
    have hev : Ev m rate rtt (i + 1) ((i : Int) * rtt + rtt) (ackB c s L) :=
      ev_step h hm hr ht ⟨by omega, by omega⟩ b0 (by rw [← hs]) (by rw [← hs]) (by rw [← hs]) (by rw [← hs]) (by rw [← hs]) (by rw [← hs]) (by rw [← hs]) (by rw [← hs]; exact A0) g1 hL
    obtain ⟨c', h1, h2⟩ := ih x (i + 1) (ackB c s L) (by omega) (by rw [← b2] at hev; exact hev) (by omega)
    refine ⟨c', h1, ?_⟩
    rw [g5, cnt rfl]
    have e1 : (1000 : Int) * (i : Int) + 1000 = 1000 * ((i + 1 : Nat) : Int) := by omega
    have e2 : (i : Int) + 1 + 1 = ((i + 1 : Nat) : Int) + 1 := by omega
    rw [e1, e2]
    exact h2
theorem law_BbrSteady : LawBbrSteady.Pure := by
  intro M m rate rtt hm hr ht
  refine ⟨1001, fun R k => ?_⟩
  rw [G_law18_BbrSteady]
  have hh : ∀ k : Bool → Option R, G_law18_heads capB 1000 k = k true := fun k => heads18 1000 k (by omega)
  simp only [s_law18_BbrSteady_34, s_law18_BbrSteady_1, s_law18_BbrSteady_32, s_law18_BbrSteady_8, s_law18_BbrSteady_3, s_law18_BbrSteady_5]
  by_cases a1 : m < 1
  · rw [ct a1, cond_true, hh]
  by_cases a2 : 10000 < m
  · rw [cf a1, ct a2, cond_true, hh]
  by_cases a3 : rate < 1000
  · rw [cf a1, cf a2, ct a3, cond_true, hh]
  by_cases a4 : 1073741824 < rate
  · rw [cf a1, cf a2, cf a3, ct a4, cond_true, hh]
  by_cases a5 : rtt < 1000
  · rw [cf a1, cf a2, cf a3, cf a4, ct a5, cond_true, hh]
  by_cases a6 : 1000000 < rtt
  · rw [cf a1, cf a2, cf a3, cf a4, cf a5, decide_eq_true a6, cond_true, hh]
  rw [cf a1, cf a2, cf a3, cf a4, cf a5, decide_eq_false a6, cond_false]
  simp only [s_law18_BbrSteady_30, s_law18_BbrSteady_9, s_law18_BbrSteady_28, s_law18_BbrSteady_24, s_law18_BbrSteady_12, s_law18_BbrSteady_22, s_law18_BbrSteady_20]
  have hn : NewOk m 10 := ⟨by omega, by omega, by omega, by omega⟩
  have e0 : newE m 10 = 0 := by unfold newE; rw [if_pos hn]
  have hnb : newB m 10 = ⟨3, m, m * 10, 1073741824, 0, 0, 0, 0, 0, 0, 1, [], 0, 0, 0, 0, 0, 0, 0, 0, 0, 0⟩ := by unfold newB; rw [if_pos hn]
  rw [bNew_k capB 998, e0, cnt rfl]
  have h0 : Ev m rate rtt (0 : Nat) ((0 : Nat) * rtt) (newB m 10) := by
    refine ⟨newB_ok hn, by rw [hnb], by rw [hnb]; rfl, by rw [hnb]; rfl, .inl ⟨rfl, by rw [hnb], by rw [hnb]⟩, .inl ⟨rfl, by rw [hnb], by rw [hnb], by rw [hnb]⟩, .inl (by rw [hnb]; show 10 * m ≤ m * 10; omega), fun g => absurd g (by decide)⟩
  obtain ⟨c, hc, e⟩ := steady_loop 600 m rate rtt (k false) _ ⟨by omega, by omega⟩ ⟨by omega, by omega⟩ ⟨by omega, by omega⟩ 12 1000 0 (newB m 10) (by omega) h0 (by omega)
  refine Eq.trans e ?_
  simp only [s_law18_BbrSteady_25]
  have hlen := bw_len hc
  have hbw : c.xBw = [⟨12, rate⟩] ∧ c.xMinRtt = rtt := by
    rcases hc.bw with ⟨a, _⟩ | ⟨_, b, b2, _⟩
    · omega
    · exact ⟨b, b2⟩
  have hst : c.xFullN = 3 ∧ c.xMode = 3 := by
    rcases hc.st with ⟨a, _⟩ | ⟨_, a, _⟩ | ⟨_, _, b, b2⟩
    · omega
    · omega
    · exact ⟨b, b2⟩
  have hp : prodO (ofC c) = pathO rate rtt := by
    unfold prodO pathO
    show min 1073741824 (mdv (bestO c.xBw) c.xMinRtt 1000000) = _
    rw [hbw.1, hbw.2]; rfl
  have hpr := prod_range (ofC c)
  rw [hp] at hpr
  rw [bProduct_k capB 989 c _ (by omega) (by omega) hc.ok, ct hst.1, ct hst.2, bBandwidth_k capB 989 c _ (by omega) (by omega) hc.ok, hp]
  have hb : bestO c.xBw = rate := by rw [hbw.1]; rfl
  rw [ct hb, ct hbw.2, mx_max, mn_min, w64_id (n := 4 * m) (by omega) (by omega), w64_id (n := 2 * pathO rate rtt) (by omega) (by omega), w64_id (n := 10 * m) (by omega) (by omega)]
  have haim : aimS m rate rtt = max (4 * m) (2 * pathO rate rtt) := by unfold aimS; omega
  have h4 := hc.cw4 (by omega)
  rw [haim] at h4
  by_cases b : c.xCwnd = min (max (4 * m) (2 * pathO rate rtt)) 1073741824
  · rw [ct b, hh]
  · rcases h4 with h4 | h4
    · exact absurd h4 b
    · rw [cf b, ct h4.2, ct h4.1, hh]
end
end Go.Proofs.Ytgadpgeghlhpnaa.M
