/- A text comes in parts, in whatever order. -/
import Derived.Test.YtafnmkbehjbkdaaATRTwice
set_option linter.unusedVariables false
set_option linter.unusedSimpArgs false
namespace Go.Proofs.Ytafnmkbehjbkdaa.M
open Go Go.RowKit
noncomputable section
structure Txt (text : List Int) (irs cap : Int) (got : List Int) (r : SRecv) : Prop where
 ok : RecvOk r
 hcap : r.xCap = cap
 hirs : r.xIrs = irs
 hrec : r.xRecent = 0
 hfin : r.xFin = -1 ∨ r.xFin = text.length
 gl : got.length ≤ text.length
 gt : text.take got.length = got
 base : r.xNext - r.xUnread.length = got.length
 hat : ∀ t, At (Full r) t ≠ none → At (Full r) t = text[t.toNat]?
structure Part (text : List Int) (irs x : Int) (s : SSegment) : Prop where
 x0 : 0 ≤ x
 x1 : x ≤ text.length
 hseq : s.xSeq = wr .u32 (irs + wr .u32 x)
 hval : s.xVal = 0
 hdat : ∃ m, s.xData = (text.drop x.toNat).take m
 hlen : x + s.xData.length ≤ text.length
 hfin : finB s = true → x + s.xData.length = text.length
theorem Txt.next_le {text : List Int} {irs cap : Int} {got : List Int} {r : SRecv} (h : Txt text irs cap got r) : r.xNext ≤ text.length := by
 have hb := h.base
 have hl := h.gl
 by_cases c : r.xUnread.length = 0
 ·omega
 ·have hh := full_head (r := r) (t := r.xNext - 1) (by omega)
  have := h.hat _ hh
  rw [this] at hh
  have : (r.xNext - 1).toNat < text.length := by
   rcases Nat.lt_or_ge (r.xNext - 1).toNat text.length with c | c
   ·exact c
   ·rw [List.getElem?_eq_none c] at hh; exact absurd rfl hh
  omega
theorem Txt.atX {text : List Int} {irs cap : Int} {got : List Int} {r : SRecv} {x : Int} {s : SSegment} (h : Txt text irs cap got r) (p : Part text irs x s) (hl : text.length ≤ 200) : inX r s = x := by
 obtain ⟨a1, a2, a3⟩ := inX_rng (s := s) h.ok.1
 have hn := h.next_le
 have h0 := h.ok.1.1
 have x0 := p.x0; have x1 := p.x1
 rw [h.hirs, p.hseq] at a1
 have hv : wr .u32 (wr .u32 (irs + wr .u32 x) - irs) = x := by rw [wu32, wu32, wu32]; omega
 rw [hv] at a1
 unfold sdiff at a1
 omega
theorem part_at {text : List Int} {irs x : Int} {s : SSegment} (p : Part text irs x s) {t : Int} (h : x ≤ t) (hn : s.xData[(t - x).toNat]? ≠ none) : s.xData[(t - x).toNat]? = text[t.toNat]? := by
 obtain ⟨m, hm⟩ := p.hdat
 have x0 := p.x0
 rw [hm] at hn ⊢
 rw [List.getElem?_take] at hn ⊢
 split at hn
 ·rename_i c
  rw [if_pos c, List.getElem?_drop]
  congr 1; omega
 ·exact absurd rfl hn
theorem Txt.input {text : List Int} {irs cap : Int} {got : List Int} {r : SRecv} {x : Int} {s : SSegment} (h : Txt text irs cap got r) (p : Part text irs x s) (hl : text.length ≤ 200) :
  Txt text irs cap got (tellE (inR r s)) ∧ r.xNext ≤ (tellE (inR r s)).xNext ∧ r.xEdge ≤ (tellE (inR r s)).xEdge ∧ (tellE (inR r s)).xStamps = r.xStamps ∧ (tellE (inR r s)).xSacks = r.xSacks := by
 have hx := h.atX p hl
 obtain ⟨i1, i2, i3, i4, i5⟩ := inT_eq s h.ok
 obtain ⟨u, b, f, e⟩ := midR_eq r s
 have hst : (stampR r s).xRecent = 0 := by
  unfold stampR; split
  ·exact p.hval
  ·exact h.hrec
 have hf : (midR r s).xRecent = (stampR r s).xRecent ∧ ((midR r s).xFin = r.xFin ∨ (midR r s).xFin = text.length) := by
  unfold midR
  obtain ⟨u, b, e⟩ := stampR_eq r s
  rw [e]
  unfold finR
  split
  ·rename_i hB
   refine ⟨rfl, ?_⟩
   show endR _ _ = _ ∨ endR _ _ = _
   unfold endR
   split
   ·right; rw [hx]; exact p.hfin hB
   ·left; rfl
  ·exact ⟨rfl, .inl rfl⟩
 refine ⟨⟨(inR_ok s h.ok).tell, ?_, ?_, ?_, ?_, h.gl, h.gt, ?_, fun t => ?_⟩, i1, ?_, ?_, ?_⟩
 ·show (inT r s).xCap = cap; rw [i5, h.hcap]
 ·show (midR r s).xIrs = irs; rw [e]; exact h.hirs
 ·show (midR r s).xRecent = 0; rw [hf.1, hst]
 ·show (midR r s).xFin = -1 ∨ (midR r s).xFin = text.length
  rcases hf.2 with g | g
  ·rw [g]; exact h.hfin
  ·exact .inr g
 ·show (inT r s).xNext - ((inT r s).xUnread.length : Int) = got.length
  rw [i2]; exact h.base
 ·show At (Full (inT r s)) t ≠ none → At (Full (inT r s)) t = text[t.toNat]?
  rw [inT_at s h.ok]
  split
  ·rename_i c
   intro hn
   rw [hx] at hn c ⊢
   exact part_at p (by omega) hn
  ·exact h.hat t
 ·show r.xEdge ≤ max (inT r s).xEdge _
  rw [i4]; omega
 ·show (midR r s).xStamps = _; rw [e]
 ·show (midR r s).xSacks = _; rw [e]
end
end Go.Proofs.Ytafnmkbehjbkdaa.M
