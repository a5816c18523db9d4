/- The law PacerBounds of the pacer, over numbers alone. -/
import Derived.Test.YtmphomadfanjgaaPAx0
import Derived.Test.YtmphomadfanjgaaPAx4
import Derived.Test.YtmphomadfanjgaaPAx6
import Derived.Test.YtmphomadfanjgaaPacer
import Derived.Test.YtmphomadfanjgaaPuPacerBounds
set_option linter.unusedVariables false
set_option linter.unusedSimpArgs false
namespace Go.Proofs.Ytmphomadfanjgaa.Pure
open Go Go.RowKit Go.Proofs.Ytmphomadfanjgaa.PA Go.Proofs.YtmphomadfanjgaaW.PrintWords Go.Proofs.Ytmphomadfanjgaa.Open Go.Proofs.Ytmphomadfanjgaa.Seq Go.Proofs.Ytmphomadfanjgaa.Math Go.Proofs.Ytmphomadfanjgaa.Div Go.Proofs.Ytmphomadfanjgaa.Pacer

theorem heads_ok (k : Nat) (hk : 500 ≤ k) : tidewaylaw20_heads.f k = some true := at_rounds tidewaylaw20_heads.mono (show 500 ≤ k from hk) (by decide +kernel)

theorem fuel {k d : Nat} (h : d ≤ k) : ∃ m, k = m + d := ⟨k - d, by omega⟩

/-! Bounded pace. -/
/-- The sum of a row from place i on. -/
def suf (xs : List Int) (i : Nat) : Int := (xs.drop i).sum
theorem suf_at (xs : List Int) (i : Nat) (h : i < xs.length) : suf xs i = rd xs i + suf xs (i + 1) := by
  unfold suf rd
  rw [List.drop_eq_getElem_cons h, List.sum_cons]
  simp [List.getD, List.getElem?_eq_getElem h]
theorem suf_end (xs : List Int) (i : Nat) (h : xs.length ≤ i) : suf xs i = 0 := by unfold suf; rw [List.drop_eq_nil_of_le h]; rfl
theorem suf_snoc (xs : List Int) (v : Int) (i : Nat) (h : i ≤ xs.length) : suf (xs ++ [v]) i = suf xs i + v := by
  unfold suf; rw [List.drop_append_of_le_length h, List.sum_append]; simp
theorem rd_snoc_lt (xs : List Int) (v : Int) (i : Nat) (h : i < xs.length) : rd (xs ++ [v]) i = rd xs i := by
  unfold rd; simp [List.getD, List.getElem?_append_left h]
theorem rd_snoc_eq (xs : List Int) (v : Int) : rd (xs ++ [v]) (xs.length : Nat) = v := by
  unfold rd; simp [List.getD]

structure Kept (r b t now : Int) (ts ss : List Int) (steps : Nat) : Prop where
  len : ts.length = ss.length
  few : ts.length ≤ steps
  some' : steps ≤ 200
  r0 : 1 ≤ r
  r1 : r ≤ 1073741824
  b0 : 1 ≤ b
  b1 : b ≤ 1048576
  now0 : 0 ≤ now
  now1 : now ≤ steps * 1048576
  low : -1048576000000 ≤ t
  high : t ≤ b * 1000000
  size : ∀ i : Nat, i < ss.length → 0 ≤ rd ss i ∧ rd ss i ≤ 1048576
  time : ∀ i : Nat, i < ts.length → 0 ≤ rd ts i ∧ rd ts i ≤ now
  pace : ∀ i : Nat, i < ts.length → t ≤ b * 1000000 + r * (now - rd ts i) - 1000000 * suf ss i

theorem Kept.ok {r b t now : Int} {ts ss : List Int} {n : Nat} (h : Kept r b t now ts ss n) : OKP r b t now := by
  have := h.r0; have := h.r1; have := h.b0; have := h.b1; have := h.now0; have := h.now1; have := h.low; have := h.high; have := h.some'
  unfold OKP; omega
theorem suf_bound (ss : List Int) (h : ∀ i : Nat, i < ss.length → 0 ≤ rd ss i ∧ rd ss i ≤ 1048576) : ∀ d i : Nat, i + d = ss.length → 0 ≤ suf ss i ∧ suf ss i ≤ d * 1048576 := by
  intro d
  induction d with
  | zero => intro i hi; rw [suf_end ss i (by omega)]; simp
  | succ d ih =>
    intro i hi
    have := ih (i + 1) (by omega); have := h i (by omega)
    rw [suf_at ss i (by omega)]; omega

/-- A filling keeps it. -/
theorem Kept.fill {r b t now w : Int} {ts ss : List Int} {n : Nat} (h : Kept r b t now ts ss n) (hn : n < 200) (w0 : 0 ≤ w) (w1 : w ≤ 1048576) : Kept r b (fillT r b t now (now + w)) (now + w) ts ss (n + 1) := by
  obtain ⟨a1, a2, a3, a4, a5, a6, a7, a8, a9, a10, a11, a12, a13, a14⟩ := h
  have ef : fillT r b t now (now + w) = min (b * 1000000) (t + r * w) := by unfold fillT; rw [show now + w - now = w by omega]
  have p : 0 ≤ r * w := Int.mul_nonneg (by omega) w0
  refine ⟨a1, by omega, by omega, a4, a5, a6, a7, by omega, by omega, by rw [ef]; omega, by rw [ef]; omega, a12, fun i hi => by have := a13 i hi; omega, fun i hi => ?_⟩
  have := a14 i hi
  rw [ef, show now + w - rd ts i = (now - rd ts i) + w by omega, Int.mul_add]
  omega
/-- What leaves keeps it. -/
theorem Kept.take {r b t now v : Int} {ts ss : List Int} {n : Nat} (h : Kept r b t now ts ss n) (hl : ts.length < n) (v0 : 0 ≤ v) (v1 : v ≤ 1048576) (hm : min v b * 1000000 ≤ t) :
    Kept r b (t - v * 1000000) now (ts ++ [now]) (ss ++ [v]) n ∧ -(max (v - b) 0 * 1000000) ≤ t - v * 1000000 := by
  obtain ⟨a1, a2, a3, a4, a5, a6, a7, a8, a9, a10, a11, a12, a13, a14⟩ := h
  refine ⟨⟨by simp [a1], by simp; omega, a3, a4, a5, a6, a7, a8, a9, by omega, by omega, fun i hi => ?_, fun i hi => ?_, fun i hi => ?_⟩, by omega⟩
  · rw [List.length_append, List.length_singleton] at hi
    rcases Nat.lt_or_ge i ss.length with h1 | h1
    · rw [rd_snoc_lt _ _ _ h1]; exact a12 i h1
    · obtain rfl : i = ss.length := by omega
      rw [rd_snoc_eq]; omega
  · rw [List.length_append, List.length_singleton] at hi
    rcases Nat.lt_or_ge i ts.length with h1 | h1
    · rw [rd_snoc_lt _ _ _ h1]; exact a13 i h1
    · obtain rfl : i = ts.length := by omega
      rw [rd_snoc_eq]; omega
  · rw [List.length_append, List.length_singleton] at hi
    rcases Nat.lt_or_ge i ts.length with h1 | h1
    · rw [rd_snoc_lt _ _ _ h1, suf_snoc _ _ _ (by omega)]; have := a14 i h1; omega
    · obtain rfl : i = ts.length := by omega
      rw [rd_snoc_eq, suf_snoc _ _ _ (by omega), a1, suf_end ss _ (Nat.le_refl _), show now - now = 0 by omega, Int.mul_zero]; omega

theorem inner (r b now t : Int) (l : List S33) (ts ss : List Int) (n : Nat) (i0 : Int) (hK : Kept r b t now ts ss n) (hp : 0 < ts.length) (ht : -(max (rd ss ((ss.length - 1 : Nat) : Int) - b) 0 * 1000000) ≤ t) (hi0 : wrap64 (i0 + 1) = i0 + 1) (res : Option Bool) (F : Nat)
    (hres : ∀ k, F ≤ k → tidewaylaw20_PacerBounds.l0 k r b l now ts ss (i0 + 1) r b t now = res) :
    ∀ (j k : Nat) (large : Int), j ≤ ts.length → 0 ≤ large → large ≤ 1048576 → (j < ts.length → rd ss ((ss.length - 1 : Nat) : Int) ≤ large) → F + j + 1 ≤ k →
    tidewaylaw20_PacerBounds.l1 k r b l now ts ss i0 (suf ss j) large ((j : Int) - 1) r b t now = res := by
  obtain ⟨a1, a2, a3, a4, a5, a6, a7, a8, a9, a10, a11, a12, a13, a14⟩ := hK
  intro j
  induction j with
  | zero =>
    intro k large _ _ _ _ hk
    obtain ⟨k, rfl⟩ := fuel (show 1 ≤ k by omega)
    simp only [tidewaylaw20_PacerBounds.l1]
    rw [if_neg (by omega), hi0]
    exact hres k (by omega)
  | succ j ih =>
    intro k large hj h0 h1 h2 hk
    obtain ⟨k, rfl⟩ := fuel (show 1 ≤ k by omega)
    simp only [tidewaylaw20_PacerBounds.l1]
    have e : ((j + 1 : Nat) : Int) - 1 = j := by omega
    have s1 := a12 j (by omega)
    have t1 := a13 j (by omega)
    have b1 := suf_bound ss a12 (ss.length - (j + 1)) (j + 1) (by omega)
    have b2 := suf_bound ss a12 (ss.length - j) j (by omega)
    have es := suf_at ss j (by omega)
    have pc := a14 j (by omega)
    have b3 : ((ss.length - (j + 1) : Nat) : Int) ≤ 200 := by omega
    have b4 : ((ss.length - j : Nat) : Int) ≤ 200 := by omega
    have p1 : r * (now - rd ts j) ≤ 1073741824 * 209715200 := mul_le (by omega) (by omega) (by omega) (by omega)
    have p0 : 0 ≤ r * (now - rd ts j) := Int.mul_nonneg (by omega) (by omega)
    have hlast : rd ss ((ss.length - 1 : Nat) : Int) ≤ mx large (rd ss j) := by
      rw [mx_max]
      rcases Nat.lt_or_ge (j + 1) ts.length with hc | hc
      · have := h2 hc; omega
      · have : j = ss.length - 1 := by omega
        rw [← this]; omega
    rw [e, if_pos (by omega), if_pos (by omega), if_pos (by omega), if_pos (by omega)]
    have hmx : mx large (rd ss j) = max large (rd ss j) := mx_max _ _
    have w1 : wrap64 (suf ss (j + 1) + rd ss j) = suf ss j := by rw [w64_id (by omega) (by omega)]; omega
    have w2 : wrap64 (suf ss j - b) = suf ss j - b := w64_id (by omega) (by omega)
    have w3 : wrap64 (mx large (rd ss j) - b) = mx large (rd ss j) - b := w64_id (by omega) (by omega)
    have w4 : wrap64 (suf ss j - b - max (mx large (rd ss j) - b) 0) = suf ss j - b - max (mx large (rd ss j) - b) 0 := w64_id (by omega) (by omega)
    have w5 : wrap64 ((suf ss j - b - max (mx large (rd ss j) - b) 0) * 1000000) = (suf ss j - b - max (mx large (rd ss j) - b) 0) * 1000000 := w64_id (by omega) (by omega)
    have w6 : wrap64 (now - rd ts j) = now - rd ts j := w64_id (by omega) (by omega)
    have w7 : wrap64 (r * (now - rd ts j)) = r * (now - rd ts j) := w64_id (by omega) (by omega)
    rw [w1, w2, w3, mx_max _ 0, w4, w5, w6, w7, if_neg (by omega), w64_id (n := (j : Int) - 1) (by omega) (by omega)]
    exact ih k _ (by omega) (by omega) (by omega) (fun _ => hlast) (by omega)

set_option maxRecDepth 20000 in
theorem outer (r b : Int) (l : List S33) (hl : l.length ≤ 200) (hin : ∀ y ∈ l, -9223372036854775808 ≤ y.f0 ∧ y.f0 ≤ 9223372036854775807) : ∀ (d i k : Nat) (now t : Int) (ts ss : List Int), i + d = l.length → Kept r b t now ts ss i → 600 + d * 250 ≤ k →
    tidewaylaw20_PacerBounds.l0 k r b l now ts ss (i : Int) r b t now = some true := by
  intro d
  induction d with
  | zero =>
    intro i k now t ts ss hi hK hk
    obtain ⟨k, rfl⟩ := fuel (show 1 ≤ k by omega)
    simp only [tidewaylaw20_PacerBounds.l0]
    rw [if_neg (by omega), heads_ok k (by omega)]; rfl
  | succ d ih =>
    intro i k now t ts ss hi hK hk
    obtain ⟨k, rfl⟩ := fuel (show 2 ≤ k by omega)
    have hid : i + 1 + d = l.length := (Nat.add_right_comm i 1 d).trans hi
    have hkd : 600 + d * 250 ≤ k := by
      have e := Nat.add_mul d 1 250
      clear hi hid hl hin ih hK
      rw [e] at hk
      generalize d * 250 = z at *
      omega
    have hw : wrap64 ((i : Int) + 1) = ((i + 1 : Nat) : Int) := by rw [w64_id (by omega) (by omega)]; omega
    have bad : tidewaylaw20_PacerBounds.j2 (k + 1) r b l now ts ss i true r b t now = some true := by
      simp only [tidewaylaw20_PacerBounds.j2]
      rw [if_pos trivial, heads_ok k (by omega)]; rfl
    have hilt : (i : Int) < (l.length : Int) := by omega
    simp only [tidewaylaw20_PacerBounds.l0]
    rw [if_pos hilt, if_pos (by omega)]
    generalize hy : rd_T33 l (i : Int) = y
    by_cases c1 : y.f0 < 0
    · rw [if_pos c1]; exact bad
    rw [if_neg c1]
    by_cases c2 : y.f0 > 1048576
    · rw [if_pos c2]; exact bad
    rw [if_neg c2]
    by_cases c3 : y.f1 < 0
    · rw [if_pos c3]; exact bad
    rw [if_neg c3]
    by_cases c4 : y.f1 > 1048576
    · rw [decide_eq_true c4]; exact bad
    rw [decide_eq_false c4]
    have hn := hK.now0; have hn1 := hK.now1; have hok := hK.ok
    have hs := hK.some'
    have hK1 := hK.fill (by omega) (show 0 ≤ y.f0 by omega) (by omega)
    have hwn : wrap64 (now + y.f0) = now + y.f0 := w64_id (by omega) (by omega)
    simp only [tidewaylaw20_PacerBounds.j2]
    rw [if_neg (by decide), if_pos (by omega), if_pos hilt]
    simp only [hy]
    rw [hwn, Fill_eq _ _ _ _ _ k (by omega), Option.bind_some, if_pos hok, if_pos (show now ≤ now + y.f0 ∧ now + y.f0 ≤ 1125899906842624 by omega)]
    simp only
    rw [if_pos trivial, May_eq, Option.bind_some]
    generalize hT : fillT r b t now (now + y.f0) = T at *
    by_cases c5 : may r b T (now + y.f0) y.f1
    · rw [decide_eq_true c5, if_pos rfl, Take_eq, Option.bind_some, if_pos hK1.ok, if_pos c5]
      simp only
      obtain ⟨hK2, hlow⟩ := hK1.take (by have := hK.few; omega) (show 0 ≤ y.f1 by omega) (by omega) c5.2.2.2
      have hfew := hK.few; have hlen := hK.len
      rw [if_pos trivial, if_pos (by omega), Option.bind_some, if_pos (by omega)]
      have hlen2 : (ts ++ [now + y.f0]).length = ts.length + 1 := by simp
      have hlen3 : (ss ++ [y.f1]).length = ss.length + 1 := by simp
      rw [w64_id (n := ((ts ++ [now + y.f0]).length : Int) - 1) (by omega) (by omega)]
      have e0 : (0 : Int) = suf (ss ++ [y.f1]) (ts ++ [now + y.f0]).length := (suf_end _ _ (by omega)).symm
      have step := inner r b (now + y.f0) (T - y.f1 * 1000000) l _ _ (i + 1) (i : Int) hK2 (by omega) (by rw [hlen3, Nat.add_sub_cancel, rd_snoc_eq]; exact hlow) (by rw [hw]; omega) (some true) (600 + d * 250)
        (fun k' hk' => by have := ih (i + 1) k' (now + y.f0) (T - y.f1 * 1000000) (ts ++ [now + y.f0]) (ss ++ [y.f1]) (by omega) hK2 hk'; rw [show ((i + 1 : Nat) : Int) = (i : Int) + 1 by omega] at this; exact this)
        (ts ++ [now + y.f0]).length k 0 (Nat.le_refl _) (by omega) (by omega) (fun h => by omega) (by omega)
      rw [← e0] at step
      exact step
    · rw [decide_eq_false c5, if_neg (by decide), hw]
      exact ih (i + 1) k (now + y.f0) T ts ss hid hK1 hkd

theorem law_PacerBounds : Go.Proofs.Ytmphomadfanjgaa.PA.PacerBounds.tidewaylaw20_PacerBounds.PureSaid := by
  intro M r b l hr hb hl
  refine ⟨100000 + 1, ?_⟩
  have fin := heads_ok 100000 (by omega)
  unfold tidewaylaw20_PacerBounds.f
  have key : tidewaylaw20_PacerBounds.j0 (100000 + 1) r b l true = some true := by
    simp only [tidewaylaw20_PacerBounds.j0]; rw [if_pos trivial, fin]; rfl
  by_cases c1 : r < 1
  · rw [if_pos c1, key]
  rw [if_neg c1]
  by_cases c2 : r > 1073741824
  · rw [if_pos c2, key]
  rw [if_neg c2]
  by_cases c3 : b < 1
  · rw [if_pos c3, key]
  rw [if_neg c3]
  by_cases c4 : b > 1048576
  · rw [if_pos c4, key]
  rw [if_neg c4]
  by_cases c5 : (l.length : Int) > 200
  · rw [decide_eq_true c5, key]
  rw [decide_eq_false c5]
  simp only [tidewaylaw20_PacerBounds.j0]
  rw [if_neg (by decide), New_eq, Option.bind_some, if_pos (show 1 ≤ r ∧ r ≤ 1099511627776 ∧ 1 ≤ b ∧ b ≤ 1073741824 ∧ (0 : Int) ≤ 0 ∧ (0 : Int) ≤ 1125899906842624 by omega)]
  simp only
  rw [if_pos trivial]
  have hin : ∀ y ∈ l, -9223372036854775808 ≤ y.f0 ∧ y.f0 ≤ 9223372036854775807 := fun y hy => (hl.2.2.2 y hy).1
  exact outer r b l (by omega) hin l.length 0 100000 0 (b * 1000000) [] [] (by omega)
    ⟨rfl, by simp, by omega, by omega, by omega, by omega, by omega, by omega, by omega, by omega, by omega, fun i hi => by simp at hi, fun i hi => by simp at hi, fun i hi => by simp at hi⟩ (by omega)
end Go.Proofs.Ytmphomadfanjgaa.Pure
