/- A segment that came already brings nothing. -/
import Derived.Test.YtilmdmjhdidoiaaSTRIn
set_option linter.unusedVariables false
set_option linter.unusedSimpArgs false
namespace Go.Proofs.Ytilmdmjhdidoiaa.M
open Go Go.RowKit
noncomputable section
theorem at_lastP : ∀ {l : List SPiece} {a : Int}, POk (a + 1) l → l ≠ [] → At l (lastP a l - 1) ≠ none
 | [], _, _, h => absurd rfl h
 | [p], a, h, _ => by
  have := end_lt h.2.1
  exact at_some (by show p.xFrom ≤ endP p - 1 ∧ endP p - 1 < endP p; omega)
 | p :: q :: r, a, h, _ => by
  have ih := at_lastP (a := endP p) h.2.2 (by simp)
  have := (lastP_ge h.2.2).1
  by_cases c : p.xFrom ≤ lastP (endP p) (q :: r) - 1 ∧ lastP (endP p) (q :: r) - 1 < endP p
  ·exact at_some c
  ·show At (p :: q :: r) (lastP (endP p) (q :: r) - 1) ≠ none
   rw [at_out c]; exact ih
theorem at_le : ∀ {l : List SPiece} {t b : Int}, At l t ≠ none → (∀ p ∈ l, endP p ≤ b) → t < b
 | [], _, _, h, _ => absurd rfl h
 | p :: ps, t, b, h, hh => by
  by_cases c : p.xFrom ≤ t ∧ t < endP p
  ·have := hh p List.mem_cons_self; omega
  ·rw [at_out c] at h
   exact at_le h fun q hq => hh q (List.mem_cons_of_mem _ hq)
/-- Behind what is in order only what is late counts. -/
theorem full_late {r : SRecv} {t : Int} (h : r.xNext ≤ t) : At (Full r) t = At r.xLate t := at_out (by rw [full_end]; omega)
theorem full_head {r : SRecv} {t : Int} (h : r.xNext - r.xUnread.length ≤ t ∧ t < r.xNext) : At (Full r) t ≠ none := at_some (by rw [full_end]; exact h)
theorem inX_uniq {r b : SRecv} {s : SSegment} (hr : Base r) (hb : Base b) (he : b.xIrs = r.xIrs) (h1 : b.xNext - 2147483648 ≤ inX r s) (h2 : inX r s < b.xNext + 2147483648) : inX b s = inX r s := by
 obtain ⟨a1, a2, a3⟩ := inX_rng (s := s) hr
 obtain ⟨b1, b2, b3⟩ := inX_rng (s := s) hb
 rw [he] at b1
 have hv : 0 ≤ wr .u32 (s.xSeq - r.xIrs) ∧ wr .u32 (s.xSeq - r.xIrs) < 4294967296 := by rw [wu32]; omega
 generalize wr .u32 (s.xSeq - r.xIrs) = v at a1 b1 hv
 unfold sdiff at a1 b1
 omega
/-- What is known of a taken segment. -/
theorem inT_at {r : SRecv} (s : SSegment) (h : RecvOk r) (t : Int) : At (Full (inT r s)) t = if max (inX r s) r.xNext ≤ t ∧ t < takeE (midR r s) (inX r s) s.xData ∧ At (Full r) t = none then s.xData[(t - inX r s).toNat]? else At (Full r) t := by
 have h5 := (take_ok (mid_midR (s := s) (mid_of_ok h)) (inX r s) s.xData).2.2.2.2 t
 obtain ⟨u, b, f, e⟩ := midR_eq r s
 have e1 : (midR r s).xNext = r.xNext := by rw [e]
 have e2 : Full (midR r s) = Full r := by rw [e]; rfl
 rw [e1, e2] at h5
 exact h5
/-- The second time. -/
structure AsIs (b c : SRecv) : Prop where
 next : c.xNext = b.xNext
 unread : c.xUnread = b.xUnread
 late : c.xLate = b.xLate
 fin : c.xFin = b.xFin
 done : c.xDone = b.xDone
theorem twice {r : SRecv} {s : SSegment} (h : RecvOk r) (hd : s.xData.length ≤ 500) : AsIs (tellE (inR r s)) (tellE (inR (tellE (inR r s)) s)) := by
 have hm := mid_of_ok h
 have hok : RecvOk (inR r s) := inR_ok s h
 have hb : RecvOk (tellE (inR r s)) := hok.tell
 obtain ⟨i1, i2, i3, i4, i5⟩ := inT_eq s h
 obtain ⟨u, b, f, e⟩ := midR_eq r s
 have hmid := inT_mid s h
 have hle := takeE_le (r := midR r s) (x := inX r s) (d := s.xData)
 have hirs : (tellE (inR r s)).xIrs = r.xIrs := by
  show (midR r s).xIrs = _
  rw [e]
 have hn : (tellE (inR r s)).xNext = (inT r s).xNext := rfl
 have hbase := h.1
 have hrn := mid_rn hbase
 have hrn2 := mid_rn hmid.1
 have hX : inX (tellE (inR r s)) s = inX r s := by
  obtain ⟨x1, x2, x3⟩ := inX_rng (s := s) hbase
  refine inX_uniq hbase hb.1 hirs ?_ (by rw [hn]; omega)
  rw [hn]
  by_cases c : (inT r s).xNext = r.xNext
  ·omega
  ·have hu := hbase.2.2.2.2.2.2.1
   have hh := full_head (r := inT r s) (t := r.xNext) ⟨by rw [i2]; omega, by omega⟩
   have h0 : At (Full r) r.xNext = none := by rw [full_late (Int.le_refl _)]; exact POk_none hm.2.1.1 (by omega)
   rw [inT_at s h] at hh
   by_cases d : max (inX r s) r.xNext ≤ r.xNext ∧ r.xNext < takeE (midR r s) (inX r s) s.xData ∧ At (Full r) r.xNext = none
   ·have : lim (inT r s) = lim r := i3
    obtain ⟨q1, q2, q3, q4⟩ := hrn
    obtain ⟨p1, p2, p3, p4⟩ := hrn2
    omega
   ·rw [if_neg d, h0] at hh; exact absurd rfl hh
 have hfin : (midR (tellE (inR r s)) s).xFin = (inT r s).xFin := by
  unfold midR
  obtain ⟨u2, b2, e2⟩ := stampR_eq (tellE (inR r s)) s
  rw [e2, hX]
  unfold finR
  split
  ·rename_i hB
   show endR { tellE (inR r s) with xRecent := u2, xStamp := b2 } (inX r s + s.xData.length) = (inT r s).xFin
   unfold endR
   show (if (inT r s).xFin < 0 ∧ lastP (inT r s).xNext (inT r s).xLate ≤ inX r s + s.xData.length ∧ inX r s + s.xData.length ≤ lim (inT r s) then inX r s + (s.xData.length : Int) else (inT r s).xFin) = (inT r s).xFin
   by_cases c : (inT r s).xFin < 0 ∧ lastP (inT r s).xNext (inT r s).xLate ≤ inX r s + s.xData.length ∧ inX r s + s.xData.length ≤ lim (inT r s)
   ·exfalso
    obtain ⟨c1, c2, c3⟩ := c
    have hf : (inT r s).xFin = endR (stampR r s) (inX r s + s.xData.length) := by
     show (midR r s).xFin = _
     unfold midR finR
     rw [if_pos hB]
    obtain ⟨u1, b1, e1⟩ := stampR_eq r s
    rw [e1] at hf
    unfold endR at hf
    have hf : (inT r s).xFin = if r.xFin < 0 ∧ lastP r.xNext r.xLate ≤ inX r s + (s.xData.length : Int) ∧ inX r s + (s.xData.length : Int) ≤ lim r then inX r s + (s.xData.length : Int) else r.xFin := hf
    have hl := lastP_ge hm.2.1.1
    have hl2 := lastP_ge hmid.2.1.1
    have hlast : lastP r.xNext r.xLate ≤ lastP (inT r s).xNext (inT r s).xLate := by
     by_cases c : r.xLate = []
     ·rw [c]; show r.xNext ≤ _; omega
     ·have ha := at_lastP hm.2.1.1 c
      have hll := hl.1
      have : r.xNext < lastP r.xNext r.xLate := by
       rcases Int.lt_or_le r.xNext (lastP r.xNext r.xLate) with g | g
       ·exact g
       ·exact absurd (POk_none hm.2.1.1 (by omega)) ha
      have hfl : At (Full r) (lastP r.xNext r.xLate - 1) ≠ none := by rw [full_late (by omega)]; exact ha
      have hfl2 : At (Full (inT r s)) (lastP r.xNext r.xLate - 1) ≠ none := by
       rw [inT_at s h, if_neg (fun z => hfl z.2.2)]; exact hfl
      rcases Int.lt_or_le (lastP r.xNext r.xLate - 1) (inT r s).xNext with g | g
      ·omega
      ·rw [full_late g] at hfl2
       have := at_le hfl2 hl2.2
       omega
    rw [i3] at c3
    by_cases k : r.xFin < 0
    ·rw [if_pos ⟨k, by omega, c3⟩] at hf
     have := hl.1; have := hbase.1
     omega
    ·rw [if_neg (fun z => k z.1)] at hf
     exact absurd (show r.xFin < 0 from hf ▸ c1) k
   ·rw [if_neg c]
  ·rfl
 obtain ⟨u3, b3, f3, e3⟩ := midR_eq (tellE (inR r s)) s
 have hf3 : f3 = (inT r s).xFin := by rw [e3] at hfin; exact hfin
 subst hf3
 have hmid2 : Mid (midR (tellE (inR r s)) s) := mid_midR (mid_of_ok hb)
 have hg : takeG (midR (tellE (inR r s)) s) (inX r s) s.xData = [] := by
  obtain ⟨g1, g2, g3⟩ := takeG_ok hmid2 (inX r s) s.xData
  cases hG : takeG (midR (tellE (inR r s)) s) (inX r s) s.xData with
  | nil => rfl
  | cons g gs =>
   exfalso
   rw [hG] at g1 g2
   have hin : InS g.xFrom (g :: gs) := .inl ⟨Int.le_refl _, g1.2.1⟩
   obtain ⟨m1, m2, m3⟩ := (g2 g.xFrom).1 hin
   have hE : takeE (midR (tellE (inR r s)) s) (inX r s) s.xData = takeE (midR r s) (inX r s) s.xData := by
    rw [e3]
    have : lim (inT r s) = lim (midR r s) := by rw [i3, e]; rfl
    unfold takeE
    show (if 0 ≤ (inT r s).xFin then min (min (inX r s + (s.xData.length : Int)) (lim (inT r s))) (inT r s).xFin else min (inX r s + (s.xData.length : Int)) (lim (inT r s))) = _
    rw [this]; rfl
   have hN : (midR (tellE (inR r s)) s).xNext = (inT r s).xNext := by rw [e3]; rfl
   have hL : (midR (tellE (inR r s)) s).xLate = (inT r s).xLate := by rw [e3]; rfl
   rw [hE] at m2
   rw [hN] at m1
   rw [hL] at m3
   have hat := inT_at s h g.xFrom
   rw [full_late (by omega), m3] at hat
   by_cases k : At (Full r) g.xFrom = none
   ·rw [if_pos ⟨by omega, m2, k⟩] at hat
    have := hle.1
    rw [List.getElem?_eq_getElem (by omega)] at hat
    cases hat
   ·rw [if_neg (fun z => k z.2.2)] at hat
    exact k hat.symm
 have hT : inT (tellE (inR r s)) s = midR (tellE (inR r s)) s := by
  unfold inT takeR
  rw [hX, hg]
  show ordR (midR (tellE (inR r s)) s) = _
  refine ord_id fun p ps hp => ?_
  have := hmid2.2.1.1
  rw [hp] at this
  have := this.1
  omega
 have hd2 : (inR r s).xDone = decide ((inT r s).xFin = (inT r s).xNext) := rfl
 constructor
 ·show (inT (tellE (inR r s)) s).xNext = _; rw [hT, e3]
 ·show (inT (tellE (inR r s)) s).xUnread = _; rw [hT, e3]
 ·show (inT (tellE (inR r s)) s).xLate = _; rw [hT, e3]
 ·show (inT (tellE (inR r s)) s).xFin = _; rw [hT, e3]; rfl
 ·show decide ((inT (tellE (inR r s)) s).xFin = (inT (tellE (inR r s)) s).xNext) = (inR r s).xDone
  rw [hT, e3, hd2]; rfl
/-- Old stamps: the second time as the first. -/
theorem twice_old {r : SRecv} {s : SSegment} (ho : ¬ (r.xStamps = true ∧ r.xStamp = true ∧ sdiff r.xRecent s.xVal < 0)) : (tellE (inR r s)).xStamps = r.xStamps ∧ ¬ ((tellE (inR r s)).xStamps = true ∧ (tellE (inR r s)).xStamp = true ∧ sdiff (tellE (inR r s)).xRecent s.xVal < 0) := by
 have hf : (midR r s).xStamps = r.xStamps ∧ (midR r s).xStamp = (stampR r s).xStamp ∧ (midR r s).xRecent = (stampR r s).xRecent := by
  unfold midR
  obtain ⟨u, b, e⟩ := stampR_eq r s
  rw [e]
  obtain ⟨f, e2, _⟩ := finR_eq { r with xRecent := u, xStamp := b } s (inX r s)
  rw [e2]
  exact ⟨rfl, rfl, rfl⟩
 have h1 : (tellE (inR r s)).xStamps = r.xStamps := hf.1
 refine ⟨h1, ?_⟩
 rw [h1, show (tellE (inR r s)).xStamp = (stampR r s).xStamp from hf.2.1, show (tellE (inR r s)).xRecent = (stampR r s).xRecent from hf.2.2]
 unfold stampR
 by_cases c : r.xStamps = true ∧ inX r s ≤ r.xNext
 ·rw [if_pos c]
  rintro ⟨_, _, z⟩
  have z : sdiff s.xVal s.xVal < 0 := z
  unfold sdiff at z; omega
 ·rw [if_neg c]; exact ho
end
end Go.Proofs.Ytilmdmjhdidoiaa.M
