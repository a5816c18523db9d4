/- A text comes in parts, in whatever order. -/
import Derived.Test.YtilmdmjhdidoiaaSTRTwice
set_option linter.unusedVariables false
set_option linter.unusedSimpArgs false
namespace Go.Proofs.Ytilmdmjhdidoiaa.M
open Go Go.RowKit
noncomputable section
/-- A receiver to which parts of a text came, and what was read of it. -/
structure Txt (text : List Int) (irs cap : Int) (got : List Int) (r : SRecv) : Prop where
 ok : RecvOk r
 hcap : r.xCap = cap
 hirs : r.xIrs = irs
 hrec : r.xRecent = 0
 hfin : r.xFin = -1 ∨ r.xFin = text.length
 gl : got.length ≤ text.length
 gt : text.take got.length = got
 base : r.xNext - r.xUnread.length = got.length
 hat : ∀ t, At (Full r) t ≠ none → At (Full r) t = text[t.toNat]?
/-- A part of a text as a segment. -/
structure Part (text : List Int) (irs x : Int) (s : SSegment) : Prop where
 x0 : 0 ≤ x
 x1 : x ≤ text.length
 hseq : s.xSeq = wr .u32 (irs + wr .u32 x)
 hval : s.xVal = 0
 hdat : ∃ m, s.xData = (text.drop x.toNat).take m
 hlen : x + s.xData.length ≤ text.length
 hfin : finB s = true → x + s.xData.length = text.length
theorem Txt.unread {text : List Int} {irs cap : Int} {got : List Int} {r : SRecv} (h : Txt text irs cap got r) : r.xUnread = (text.drop got.length).take r.xUnread.length := by
 apply List.ext_getElem?
 intro i
 by_cases c : i < r.xUnread.length
 ·have hb := h.base
  have hn := h.ok.1.2.2.2.2.2.2.2
  have e : At (Full r) (r.xNext - r.xUnread.length + i) = r.xUnread[i]? := by
   rw [show At (Full r) _ = _ from at_in (by rw [full_end]; show r.xNext - (r.xUnread.length : Int) ≤ _ ∧ _; omega)]
   show r.xUnread[(r.xNext - r.xUnread.length + i - (r.xNext - r.xUnread.length)).toNat]? = _
   congr 1; omega
  have hh := h.hat (r.xNext - r.xUnread.length + i) (by rw [e, List.getElem?_eq_getElem c]; simp)
  rw [e] at hh
  rw [hh, List.getElem?_take, if_pos c, List.getElem?_drop]
  congr 1; omega
 ·rw [List.getElem?_eq_none (by omega), List.getElem?_take, if_neg c]
theorem Txt.next_le {text : List Int} {irs cap : Int} {got : List Int} {r : SRecv} (h : Txt text irs cap got r) : r.xNext ≤ text.length := by
 have hb := h.base
 have hl := h.gl
 by_cases c : r.xUnread.length = 0
 ·omega
 ·have hh := full_head (r := r) (t := r.xNext - 1) (by omega)
  have := h.hat _ hh
  rw [this] at hh
  have : (r.xNext - 1).toNat < text.length := by
   rcases Nat.lt_or_ge (r.xNext - 1).toNat text.length with c | c
   ·exact c
   ·rw [List.getElem?_eq_none c] at hh; exact absurd rfl hh
  omega
theorem Txt.atX {text : List Int} {irs cap : Int} {got : List Int} {r : SRecv} {x : Int} {s : SSegment} (h : Txt text irs cap got r) (p : Part text irs x s) (hl : text.length ≤ 200) : inX r s = x := by
 obtain ⟨a1, a2, a3⟩ := inX_rng (s := s) h.ok.1
 have hn := h.next_le
 have h0 := h.ok.1.1
 have x0 := p.x0; have x1 := p.x1
 rw [h.hirs, p.hseq] at a1
 have hv : wr .u32 (wr .u32 (irs + wr .u32 x) - irs) = x := by rw [wu32, wu32, wu32]; omega
 rw [hv] at a1
 unfold sdiff at a1
 omega
theorem part_at {text : List Int} {irs x : Int} {s : SSegment} (p : Part text irs x s) {t : Int} (h : x ≤ t) (hn : s.xData[(t - x).toNat]? ≠ none) : s.xData[(t - x).toNat]? = text[t.toNat]? := by
 obtain ⟨m, hm⟩ := p.hdat
 have x0 := p.x0
 rw [hm] at hn ⊢
 rw [List.getElem?_take] at hn ⊢
 split at hn
 ·rename_i c
  rw [if_pos c, List.getElem?_drop]
  congr 1; omega
 ·exact absurd rfl hn
theorem Txt.input {text : List Int} {irs cap : Int} {got : List Int} {r : SRecv} {x : Int} {s : SSegment} (h : Txt text irs cap got r) (p : Part text irs x s) (hl : text.length ≤ 200) :
  Txt text irs cap got (tellE (inR r s)) ∧ r.xNext ≤ (tellE (inR r s)).xNext ∧ r.xEdge ≤ (tellE (inR r s)).xEdge ∧ (tellE (inR r s)).xStamps = r.xStamps ∧ (tellE (inR r s)).xSacks = r.xSacks := by
 have hx := h.atX p hl
 obtain ⟨i1, i2, i3, i4, i5⟩ := inT_eq s h.ok
 obtain ⟨u, b, f, e⟩ := midR_eq r s
 have hst : (stampR r s).xRecent = 0 := by
  unfold stampR; split
  ·exact p.hval
  ·exact h.hrec
 have hf : (midR r s).xRecent = (stampR r s).xRecent ∧ ((midR r s).xFin = r.xFin ∨ (midR r s).xFin = text.length) := by
  unfold midR
  obtain ⟨u, b, e⟩ := stampR_eq r s
  rw [e]
  unfold finR
  split
  ·rename_i hB
   refine ⟨rfl, ?_⟩
   show endR _ _ = _ ∨ endR _ _ = _
   unfold endR
   split
   ·right; rw [hx]; exact p.hfin hB
   ·left; rfl
  ·exact ⟨rfl, .inl rfl⟩
 refine ⟨⟨(inR_ok s h.ok).tell, ?_, ?_, ?_, ?_, h.gl, h.gt, ?_, fun t => ?_⟩, i1, ?_, ?_, ?_⟩
 ·show (inT r s).xCap = cap; rw [i5, h.hcap]
 ·show (midR r s).xIrs = irs; rw [e]; exact h.hirs
 ·show (midR r s).xRecent = 0; rw [hf.1, hst]
 ·show (midR r s).xFin = -1 ∨ (midR r s).xFin = text.length
  rcases hf.2 with g | g
  ·rw [g]; exact h.hfin
  ·exact .inr g
 ·show (inT r s).xNext - ((inT r s).xUnread.length : Int) = got.length
  rw [i2]; exact h.base
 ·show At (Full (inT r s)) t ≠ none → At (Full (inT r s)) t = text[t.toNat]?
  rw [inT_at s h.ok]
  split
  ·rename_i c
   intro hn
   rw [hx] at hn c ⊢
   exact part_at p (by omega) hn
  ·exact h.hat t
 ·show r.xEdge ≤ max (inT r s).xEdge _
  rw [i4]; omega
 ·show (midR r s).xStamps = _; rw [e]
 ·show (midR r s).xSacks = _; rw [e]
theorem Txt.tell {text : List Int} {irs cap : Int} {got : List Int} {r : SRecv} (h : Txt text irs cap got r) : Txt text irs cap got (tellE r) :=
 ⟨h.ok.tell, h.hcap, h.hirs, h.hrec, h.hfin, h.gl, h.gt, h.base, h.hat⟩
theorem take_snoc {text got : List Int} {j : Nat} {u : List Int} (h1 : got.length ≤ text.length) (h2 : text.take got.length = got) (h3 : u = (text.drop got.length).take u.length) (hj : j ≤ u.length) : text.take (got ++ u.take j).length = got ++ u.take j := by
 have e : u.take j = (text.drop got.length).take j := by
  rw [h3, List.take_take]; congr 1; omega
 have hl : (u.take j).length = j := by rw [List.length_take]; omega
 rw [List.length_append, hl, e, List.take_add, h2]
theorem Txt.read {text : List Int} {irs cap : Int} {got : List Int} {r : SRecv} (h : Txt text irs cap got r) (m : Int) : Txt text irs cap (got ++ r.xUnread.take (readN r m)) (readR r m) := by
 have hr := readN_le r m
 have hl : ((r.xUnread.take (readN r m)).length : Int) = readN r m := by rw [List.length_take]; omega
 have hd : ((r.xUnread.drop (readN r m)).length : Int) = r.xUnread.length - readN r m := by rw [List.length_drop]; omega
 have hb := h.base
 have hn := h.next_le
 refine ⟨h.ok.read m, h.hcap, h.hirs, h.hrec, h.hfin, ?_, take_snoc h.gl h.gt h.unread hr, ?_, fun t => ?_⟩
 ·rw [List.length_append]; omega
 ·show r.xNext - ((r.xUnread.drop (readN r m)).length : Int) = _
  rw [List.length_append]; omega
 ·show At (Full (readR r m)) t ≠ none → At (Full (readR r m)) t = text[t.toNat]?
  have key : At (Full (readR r m)) t ≠ none → At (Full (readR r m)) t = At (Full r) t := by
   by_cases c : r.xNext - r.xUnread.length ≤ t ∧ t < r.xNext
   ·have e1 : At (Full r) t = r.xUnread[(t - (r.xNext - r.xUnread.length)).toNat]? := at_in (by rw [full_end]; exact c)
    by_cases c2 : r.xNext - ((r.xUnread.drop (readN r m)).length : Int) ≤ t
    ·have e2 : At (Full (readR r m)) t = (r.xUnread.drop (readN r m))[(t - (r.xNext - ((r.xUnread.drop (readN r m)).length : Int))).toNat]? := at_in (by rw [full_end]; exact ⟨c2, c.2⟩)
     intro _
     rw [e1, e2, List.getElem?_drop]
     congr 1; omega
    ·have e2 : At (Full (readR r m)) t = At r.xLate t := at_out (by rw [full_end]; intro z; exact c2 z.1)
     rw [e2, POk_none (mid_of_ok h.ok).2.1.1 (by omega)]
     intro z; exact absurd rfl z
   ·have e1 : At (Full r) t = At r.xLate t := at_out (by rw [full_end]; exact c)
    have e2 : At (Full (readR r m)) t = At r.xLate t := at_out (by
     rw [full_end]
     show ¬ (r.xNext - ((r.xUnread.drop (readN r m)).length : Int) ≤ t ∧ t < r.xNext)
     omega)
    rw [e1, e2]; exact fun _ => rfl
  intro hne
  have := key hne
  rw [this] at hne ⊢
  exact h.hat t hne
/-- Once all has come: all is in order. -/
theorem Txt.whole {text : List Int} {irs cap : Int} {got : List Int} {r : SRecv} {s : SSegment} (h : Txt text irs cap got r) (p : Part text irs 0 s) (hl : text.length ≤ 200) (hc : 200 ≤ cap) (hd : s.xData = text) : (inT r s).xNext = text.length := by
 have hx := h.atX p hl
 have hin := (h.input p hl).1
 have h1 : (inT r s).xNext ≤ text.length := hin.next_le
 have hmid := inT_mid s h.ok
 have hb := h.base
 have hb2 := h.ok.1
 rcases Int.lt_or_le (inT r s).xNext text.length with c | c
 ·exfalso
  have h0 : At (Full (inT r s)) (inT r s).xNext = none := by rw [full_late (Int.le_refl _)]; exact POk_none hmid.2.1.1 (by omega)
  have hn0 := (inT_eq s h.ok).1
  rw [inT_at s h.ok] at h0
  have hE : takeE (midR r s) (inX r s) s.xData = text.length := by
   obtain ⟨u, b, f, e⟩ := midR_eq r s
   have hlim : lim (midR r s) = lim r := by rw [e]; rfl
   have hfin : (inT r s).xFin = -1 ∨ (inT r s).xFin = text.length := hin.hfin
   have hfin2 : (midR r s).xFin = -1 ∨ (midR r s).xFin = text.length := hfin
   unfold takeE
   rw [hlim, hx, hd]
   have : lim r = min (r.xNext - r.xUnread.length + r.xCap) 562949953421312 := rfl
   rw [h.hcap] at this
   rcases hfin2 with g | g <;> rw [g]
   ·rw [if_neg (by omega)]; omega
   ·rw [if_pos (by omega)]; omega
  by_cases k : At (Full r) (inT r s).xNext = none
  ·have hb0 := h.ok.1.1
   rw [hE, hx, if_pos ⟨by omega, by omega, k⟩, hd, List.getElem?_eq_getElem (by omega)] at h0
   cases h0
  ·rw [if_neg (fun z => k z.2.2)] at h0
   exact k h0
 ·omega
theorem Txt.whole_fin {text : List Int} {irs cap : Int} {got : List Int} {r : SRecv} {s : SSegment} (h : Txt text irs cap got r) (p : Part text irs 0 s) (hl : text.length ≤ 200) (hc : 200 ≤ cap) (hd : s.xData = text) (hB : finB s = true) : (inR r s).xDone = true := by
 have hn := h.whole p hl hc hd
 have hx := h.atX p hl
 show decide ((midR r s).xFin = (inT r s).xNext) = true
 rw [hn]
 apply decide_eq_true
 unfold midR
 obtain ⟨u, b, e⟩ := stampR_eq r s
 rw [e]
 unfold finR
 rw [if_pos hB, hx, hd]
 show endR { r with xRecent := u, xStamp := b } _ = _
 unfold endR
 have hm := mid_of_ok h.ok
 have hlast : lastP r.xNext r.xLate ≤ text.length := by
  by_cases c : r.xLate = []
  ·rw [c]; exact h.next_le
  ·have ha := at_lastP hm.2.1.1 c
   have h3 : r.xNext < lastP r.xNext r.xLate := by
    rcases Int.lt_or_le r.xNext (lastP r.xNext r.xLate) with g | g
    ·exact g
    ·exact absurd (POk_none hm.2.1.1 (by omega)) ha
   have hfl : At (Full r) (lastP r.xNext r.xLate - 1) ≠ none := by rw [full_late (by omega)]; exact ha
   have h4 := h.hat _ hfl
   rw [h4] at hfl
   have : (lastP r.xNext r.xLate - 1).toNat < text.length := by
    rcases Nat.lt_or_ge (lastP r.xNext r.xLate - 1).toNat text.length with c | c
    ·exact c
    ·rw [List.getElem?_eq_none c] at hfl; exact absurd rfl hfl
   have h0 := h.ok.1.1
   omega
 have hb := h.base
 have hlim : (text.length : Int) ≤ lim r := by
  have : lim r = min (r.xNext - r.xUnread.length + r.xCap) 562949953421312 := rfl
  rw [h.hcap] at this
  omega
 show (if r.xFin < 0 ∧ lastP r.xNext r.xLate ≤ 0 + (text.length : Int) ∧ 0 + (text.length : Int) ≤ lim r then 0 + (text.length : Int) else r.xFin) = _
 rcases h.hfin with g | g
 ·rw [if_pos ⟨by omega, by omega, by omega⟩]; omega
 ·rw [if_neg (by omega)]; exact g
end
end Go.Proofs.Ytilmdmjhdidoiaa.M
