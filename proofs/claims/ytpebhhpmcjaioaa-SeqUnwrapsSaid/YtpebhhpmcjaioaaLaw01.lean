/- The six laws of chapter 1, over numbers alone: sequence numbers, products by a number, cube roots. -/
import Derived.Test.YtpebhhpmcjaioaaSeq
import Derived.Test.YtpebhhpmcjaioaaPAx
import Derived.Test.YtpebhhpmcjaioaaPuSeqReckons
import Derived.Test.YtpebhhpmcjaioaaPuSeqBack
import Derived.Test.YtpebhhpmcjaioaaPuSeqTurns
import Derived.Test.YtpebhhpmcjaioaaPuSeqExact
import Derived.Test.YtpebhhpmcjaioaaPuSeqCompares
import Derived.Test.YtpebhhpmcjaioaaPuSeqUnwraps
set_option linter.unusedVariables false
set_option linter.unusedSimpArgs false
namespace Go.Proofs.Ytpebhhpmcjaioaa.Pure
open Go Go.RowKit Go.Proofs.Ytpebhhpmcjaioaa.PA Go.Proofs.YtpebhhpmcjaioaaW.PrintWords Go.Proofs.Ytpebhhpmcjaioaa.Open Go.Proofs.Ytpebhhpmcjaioaa.Seq Go.Proofs.Ytpebhhpmcjaioaa.Math Go.Proofs.Ytpebhhpmcjaioaa.Div

theorem heads_ok (k : Nat) (hk : 100 ≤ k) : tidewaylaw01_heads.f k = some true := at_rounds tidewaylaw01_heads.mono hk (by decide +kernel)

theorem law_SeqReckons : Go.Proofs.Ytpebhhpmcjaioaa.PA.SeqReckons.tidewaylaw01_SeqReckons.PureSaid := by
  intro M a b c ha hb hc
  have ha := ha.i64; have hb := hb.i64; have hc := hc.i64
  refine ⟨400, ?_⟩
  obtain ⟨r, er, hr⟩ := Cbrt_eq a 400 (by omega) ha.2
  obtain ⟨s, es, hs⟩ := rCbrt_eq a 400 (by omega)
  obtain rfl := hr.unique hs
  unfold tidewaylaw01_SeqReckons.f
  by_cases h : a < 0 ∨ b < 0 ∨ c ≤ 0
  · rw [muldiv_bad a b c 400 (by omega) h, Option.bind_some, rMulDiv_bad a b c 400 (by omega) h, Option.bind_some]
    rw [if_pos rfl, if_pos rfl, er, Option.bind_some, es, Option.bind_some, if_pos rfl, heads_ok 400 (by omega)]; rfl
  · rw [muldiv_eq a b c 400 (by omega) (by omega) (by omega) (by omega) (by omega) (by omega) (by omega), Option.bind_some, rMulDiv_eq a b c 400 (by omega) (by omega) (by omega) (by omega) (by omega) (by omega) (by omega), Option.bind_some]
    rw [if_pos rfl, if_pos rfl, er, Option.bind_some, es, Option.bind_some, if_pos rfl, heads_ok 400 (by omega)]; rfl

theorem law_SeqBack : Go.Proofs.Ytpebhhpmcjaioaa.PA.SeqBack.tidewaylaw01_SeqBack.PureSaid := by
  intro M x d hx hd
  have hx := hx.i64; have hd := hd.i64
  refine ⟨400 + 1, ?_⟩
  have key : tidewaylaw01_SeqBack.j0 (400 + 1) x d true = some true := by
    simp only [tidewaylaw01_SeqBack.j0]
    rw [if_pos trivial, heads_ok 400 (by omega)]; rfl
  unfold tidewaylaw01_SeqBack.f
  by_cases c1 : x < -4611686018427387904
  · rw [if_pos c1, key]
  rw [if_neg c1]
  by_cases c2 : x > 4611686018427387904
  · rw [if_pos c2, key]
  rw [if_neg c2]
  by_cases c3 : d < -2147483648
  · rw [if_pos c3, key]
  rw [if_neg c3]
  by_cases c4 : d ≥ 2147483648
  · rw [decide_eq_true c4, key]
  rw [decide_eq_false c4]
  simp only [tidewaylaw01_SeqBack.j0]
  rw [if_neg (by simp), Add_eq, Option.bind_some, w64_id (n := x - d) (by omega) (by omega), w64_id (n := -d) (by omega) (by omega), Unwrap_eq _ _ 400 (by omega) (by omega) (by omega), Option.bind_some]
  rw [if_pos (by unfold satw diff; omega), Add_eq, Option.bind_some, Diff_eq, Option.bind_some, if_pos (by unfold diff; omega), heads_ok 400 (by omega)]; rfl

theorem law_SeqTurns : Go.Proofs.Ytpebhhpmcjaioaa.PA.SeqTurns.tidewaylaw01_SeqTurns.PureSaid := by
  intro M a b ha hb
  have ha := ha.u32; have hb := hb.u32
  refine ⟨400 + 1, ?_⟩
  unfold tidewaylaw01_SeqTurns.f
  rw [Diff_eq, Option.bind_some, Diff_eq, Option.bind_some]
  have key : diff a b = -2147483648 ↔ diff b a = -2147483648 := by unfold diff; omega
  by_cases c : diff a b = -2147483648
  · rw [if_pos c]
    simp only [tidewaylaw01_SeqTurns.j0]
    rw [if_pos trivial, if_pos (c.trans (key.1 c).symm), heads_ok 400 (by omega)]; rfl
  · rw [if_neg c, beq_eq_false_iff_ne.2 (fun h => c (key.2 h))]
    simp only [tidewaylaw01_SeqTurns.j0]
    have c' : diff b a ≠ -2147483648 := fun h => c (key.2 h)
    rw [if_neg (by simp), Less_eq, Option.bind_some, Less_eq, Option.bind_some, w64_id (n := -diff b a) (by unfold diff; omega) (by unfold diff; omega), if_pos (by unfold diff at *; omega)]
    have hb' : ((decide (diff a b > 0) != decide (diff b a > 0)) == (a != b)) = true := by
      by_cases e : a = b
      · subst e; simp
      · have : (a != b) = true := by simpa using e
        rw [this]
        rcases Int.lt_or_le 0 (diff a b) with h | h
        · rw [decide_eq_true h, decide_eq_false (by unfold diff at *; omega)]; rfl
        · rw [decide_eq_false (by omega), decide_eq_true (by unfold diff at *; omega)]; rfl
    rw [if_pos hb', Add_eq, Option.bind_some, if_pos (by unfold diff; omega), heads_ok 400 (by omega)]; rfl

theorem law_SeqExact : Go.Proofs.Ytpebhhpmcjaioaa.PA.SeqExact.tidewaylaw01_SeqExact.PureSaid := by
  intro M a b c ha hb hc
  have ha := ha.i64; have hb := hb.i64; have hc := hc.i64
  refine ⟨400 + 3, ?_⟩
  have key : tidewaylaw01_SeqExact.j0 (400 + 3) a b c true = some true := by
    simp only [tidewaylaw01_SeqExact.j0]
    rw [if_pos trivial, heads_ok (400 + 2) (by omega)]; rfl
  unfold tidewaylaw01_SeqExact.f
  by_cases c1 : a < 0
  · rw [if_pos c1, key]
  rw [if_neg c1]
  by_cases c2 : b < 0
  · rw [if_pos c2, key]
  rw [if_neg c2]
  by_cases c3 : c < 1
  · rw [if_pos c3, key]
  rw [if_neg c3]
  by_cases c4 : a > 2147483648
  · rw [if_pos c4, key]
  rw [if_neg c4]
  by_cases c5 : b > 2147483648
  · rw [if_pos c5, key]
  rw [if_neg c5]
  by_cases c6 : c > 2147483648
  · rw [decide_eq_true c6, key]
  rw [decide_eq_false c6]
  have p0 : 0 ≤ a * b := Int.mul_nonneg (by omega) (by omega)
  have p1 : a * b ≤ 2147483648 * 2147483648 := mul_le (by omega) (by omega) (by omega) (by omega)
  have wp : wrap64 (a * b) = a * b := w64_id (by omega) (by omega)
  obtain ⟨r, er, hr⟩ := Cbrt_eq (a * b) (400 + 2) (by omega) (by omega)
  have q0 : 0 ≤ a * b / c := Int.ediv_nonneg p0 (by omega)
  have q1 : a * b / c ≤ a * b := Int.ediv_le_self _ p0
  have hm := quot_mul_le (n := a * b) (show 0 < c by omega)
  have hl := lt_quot_mul (n := a * b) (show 0 < c by omega)
  rw [Int.add_mul] at hl
  have qc0 : 0 ≤ a * b / c * c := Int.mul_nonneg q0 (by omega)
  simp only [tidewaylaw01_SeqExact.j0]
  rw [if_neg (by simp), muldiv_eq a b c (400 + 2) (by omega) (by omega) (by omega) (by omega) (by omega) (by omega) (by omega), Option.bind_some, muldiv_eq a c c (400 + 2) (by omega) (by omega) (by omega) (by omega) (by omega) (by omega) (by omega), Option.bind_some, wp, er, Option.bind_some]
  simp only
  rw [Int.mul_ediv_cancel _ (show c ≠ 0 by omega), show min (a * b / c) 9223372036854775807 = a * b / c by omega, show min a 9223372036854775807 = a by omega]
  have hr0 := hr.r0
  have hr1 := hr.r1
  rw [if_pos trivial, if_pos trivial, if_pos rfl, if_neg (by omega), if_neg (by omega), decide_eq_false (by omega)]
  obtain ⟨u1, u2, u3, u4⟩ := cube_max (a := r) (by omega) (by omega)
  have hle : r * r * r ≤ a * b := by
    rcases hr.le with h | h
    · subst h; simpa using p0
    · exact h
  have hlt : r = 2097151 ∨ wrap64 (wrap64 (wrap64 (r + 1) * wrap64 (r + 1)) * wrap64 (r + 1)) > a * b := by
    rcases hr.lt with h | h
    · exact .inl h
    · rcases Int.lt_or_le r 2097151 with h2 | h2
      · obtain ⟨v1, v2, v3, v4⟩ := cube_max (a := r + 1) (by omega) (by omega)
        refine .inr ?_
        rw [w64_id (n := r + 1) (by omega) (by omega), w64_id (n := (r + 1) * (r + 1)) (by omega) (by omega), w64_id (n := (r + 1) * (r + 1) * (r + 1)) (by omega) (by omega)]
        exact h
      · exact .inl (by omega)
  have fin := heads_ok 400 (by omega)
  have fin1 := heads_ok 401 (by omega)
  have tq : Int.tdiv (a * b) c = a * b / c := Int.tdiv_eq_ediv_of_nonneg p0
  simp only [tidewaylaw01_SeqExact.j1]
  rw [if_neg (by simp)]
  generalize hq : a * b / c = q at *
  generalize hn : a * b = n at *
  have w1 : wrap64 q = q := w64_id (by omega) (by omega)
  have w2 : wrap64 (q * c) = q * c := w64_id (by omega) (by omega)
  have w3 : wrap64 (n - q * c) = n - q * c := w64_id (by omega) (by omega)
  have w4 : wrap64 (r * r) = r * r := w64_id (by omega) (by omega)
  have w5 : wrap64 (r * r * r) = r * r * r := w64_id (by omega) (by omega)
  simp only [wp, tq, w1, w2, w3, w4, w5]
  generalize wrap64 (wrap64 (wrap64 (r + 1) * wrap64 (r + 1)) * wrap64 (r + 1)) = big at *
  simp only [fin, fin1, Option.bind_some]
  repeat' split
  all_goals first | rfl | (exfalso; omega) | (exfalso; simp_all; done) | skip

theorem law_SeqCompares : Go.Proofs.Ytpebhhpmcjaioaa.PA.SeqCompares.tidewaylaw01_SeqCompares.PureSaid := by
  intro M a b n k ha hb hn hk
  have ha := ha.u32; have hb := hb.u32; have hn := hn.u32; have hk := hk.i64
  refine ⟨400, ?_⟩
  unfold tidewaylaw01_SeqCompares.f
  rw [Diff_eq, Option.bind_some, rDiff_eq _ _ ha.1 ha.2 hb.1 hb.2, Option.bind_some, if_pos rfl, Less_eq, Option.bind_some, rLess_eq _ _ ha.1 ha.2 hb.1 hb.2, Option.bind_some, if_pos (by simp), Within_eq, Option.bind_some, rWithin_eq _ _ _ ha.1 ha.2 hb.1 hb.2 hn.1 hn.2, Option.bind_some, if_pos (by simp), Add_eq, Option.bind_some, rAdd_eq _ _ ha.1 ha.2, Option.bind_some, if_pos rfl, heads_ok 400 (by omega)]; rfl

theorem law_SeqUnwraps : Go.Proofs.Ytpebhhpmcjaioaa.PA.SeqUnwraps.tidewaylaw01_SeqUnwraps.PureSaid := by
  intro M base s x y hb hs hx hy
  have hb := hb.i64; have hs := hs.u32; have hx := hx.i64; have hy := hy.i64
  refine ⟨400, ?_⟩
  unfold tidewaylaw01_SeqUnwraps.f
  rw [Unwrap_eq _ _ 400 (by omega) hb.1 hb.2, Option.bind_some, rUnwrap_eq _ _ 400 (by omega) hb.1 hb.2 hs.1 hs.2, Option.bind_some, if_pos rfl, Sum_eq _ _ 400 (by omega) hx.1 hx.2 hy.1 hy.2, Option.bind_some, rSum_eq _ _ 400 (by omega) hx.1 hx.2 hy.1 hy.2, Option.bind_some, if_pos rfl, Clamp_eq, Option.bind_some, rClamp_eq, Option.bind_some, if_pos rfl, heads_ok 400 (by omega)]; rfl
end Go.Proofs.Ytpebhhpmcjaioaa.Pure
