/- The law AckAnswers: what a receiver answers counts, and acknowledges what it waits for. -/
import Derived.Test.YtafnmkbehjbkdaaATRWeigh
import Derived.Test.YtafnmkbehjbkdaaATRCov
import Derived.Test.YtafnmkbehjbkdaaATRHeads22
import Derived.Test.YtafnmkbehjbkdaaPuAckAnswers
set_option linter.unusedVariables false
set_option linter.unusedSimpArgs false
namespace Go.Proofs.Ytafnmkbehjbkdaa.M
open Go Go.RowKit
noncomputable section
def segA (text : List Int) (irs x n : Int) : SSegment := SSegment.mk 0 0 (wr .u32 (irs + wr .u32 x)) 0 0 0 0 0 0 false false 0 0 [] (List.take ((min (text.length : Int) (x + n)).toNat - x.toNat) (text.drop x.toNat))
theorem segA_fin (text : List Int) (irs x n : Int) : finB (segA text irs x n) = false := by
 show decide (0 < bits .and .i64 0 1) = false
 rfl
theorem sackLe (r : SRecv) (m : Int) (h : m ≤ 4) : ∀ (fs : List SSpan) (acc : List SBlock), acc.length ≤ 4 → (sackL r m acc fs).length ≤ 4
 | [], acc, ha => ha
 | f :: fs, acc, ha => by
  unfold sackL
  split
  ·rename_i c
   exact sackLe r m h fs _ (by simp; omega)
  ·exact sackLe r m h fs _ ha
theorem tellS_le (r : SRecv) (bs : List SBlock) (h : bs.length ≤ 4) : (tellS r bs).xSacks.length ≤ 4 := sackLe r _ (by split <;> omega) r.xFirst bs h
theorem segA_part {text : List Int} {irs x n : Int} (h0 : 0 ≤ x) (h1 : x ≤ text.length) (hn : 0 ≤ n) : Part text irs x (segA text irs x n) := by
 have hl : ((segA text irs x n).xData.length : Int) = min (text.length : Int) (x + n) - x := by
  show ((List.take _ _).length : Int) = _
  rw [List.length_take, List.length_drop]; omega
 exact ⟨h0, h1, rfl, rfl, ⟨_, rfl⟩, by omega, fun hB => by rw [segA_fin] at hB; cases hB⟩
structure An (text : List Int) (irs : Int) (r : SRecv) : Prop where
 t : Txt text irs 1000 [] r
 st : r.xStamps = false
 sk : r.xSacks = true
 fin : r.xFin = -1
 done : r.xDone = false
 own : r.xOwn = 77
 cov : Cov r
theorem An.end_ {text : List Int} {irs x : Int} {r : SRecv} {s : SSegment} (h : An text irs r) (p : Part text irs x s) (hB : finB s = false) (hl : text.length ≤ 200) : takeE (midR r s) x s.xData = x + s.xData.length := by
 have hf : (midR r s).xFin = -1 := by
  unfold midR
  obtain ⟨u, b, e⟩ := stampR_eq r s
  rw [e]; unfold finR
  rw [if_neg (by rw [hB]; exact Bool.false_ne_true)]; exact h.fin
 obtain ⟨u, b, f, e⟩ := midR_eq r s
 have hlim : lim (midR r s) = lim r := by rw [e]; rfl
 have : lim r = min (r.xNext - r.xUnread.length + r.xCap) 562949953421312 := rfl
 rw [h.t.hcap] at this
 have hb := h.t.base
 have := p.hlen
 unfold takeE
 rw [hf, if_neg (by omega), hlim]
 simp only [List.length_nil] at hb
 omega
theorem An.step {text : List Int} {irs x : Int} {r : SRecv} {s : SSegment} (h : An text irs r) (p : Part text irs x s) (hB : finB s = false) (hl : text.length ≤ 200) : An text irs (tellE (inR r s)) := by
 obtain ⟨t1, t2, t3, t4, t5⟩ := h.t.input p hl
 have hf : (midR r s).xFin = -1 := by
  unfold midR
  obtain ⟨u, b, e⟩ := stampR_eq r s
  rw [e]; unfold finR
  rw [if_neg (by rw [hB]; exact Bool.false_ne_true)]; exact h.fin
 have h0 := t1.ok.1.1
 refine ⟨t1, by rw [t4]; exact h.st, by rw [t5]; exact h.sk, hf, ?_, ?_, ?_⟩
 ·show decide ((midR r s).xFin = (inT r s).xNext) = false
  have h0 : 0 ≤ (inT r s).xNext := h0
  rw [hf]; exact decide_eq_false (by omega)
 ·obtain ⟨u, b, f, e⟩ := midR_eq r s
  show (midR r s).xOwn = 77
  rw [e]; exact h.own
 ·exact cov_in h.t.ok h.cov (h.t.atX p hl) (h.end_ p hB hl)
theorem in_F {R : Type} {F : Nat} (h : 4294967260 ≤ F) {text : List Int} {irs x : Int} {r : SRecv} {s : SSegment} (t : An text irs r) (p : Part text irs x s) (hl : text.length ≤ 200) (k : SRecv → SSegment → Bool → Int → Option R) : G6 capB F r s k = k (tellE (inR r s)) (tellS (inR r s) (aheadL r s)) true 0 := by
 have hd := p.hlen
 have x0 := p.x0
 rw [(Input_F h r s k (ok_fits t.t.ok (by omega)) (by omega)).1 t.t.ok, if_neg (fun z => by rw [t.st] at z; cases z.1), if_neg (fun z => by rw [t.st] at z; cases z.1)]
def blkO (irs : Int) (f : SSpan) : SBlock := ⟨wr .u32 (irs + wr .u32 f.xFrom), wr .u32 (irs + wr .u32 f.xTo)⟩
theorem sackL_eq (r : SRecv) (h : r.xSacks = true) (m : Nat) : ∀ (fs : List SSpan) (acc : List SBlock), acc.length ≤ m → sackL r (m : Int) acc fs = acc ++ (fs.take (m - acc.length)).map (blkO r.xIrs)
 | [], acc, _ => by simp [sackL]
 | f :: fs, acc, ha => by
  unfold sackL
  by_cases c : (acc.length : Int) < m
  ·rw [if_pos ⟨h, c⟩, sackL_eq r h m fs _ (by simp; omega)]
   obtain ⟨j, hj⟩ : ∃ j, m - acc.length = j + 1 := ⟨m - acc.length - 1, by omega⟩
   have hj2 : m - (acc ++ [(⟨wr .u32 (r.xIrs + wr .u32 f.xFrom), wr .u32 (r.xIrs + wr .u32 f.xTo)⟩ : SBlock)]).length = j := by simp; omega
   rw [hj, hj2, List.take_succ_cons, List.map_cons]
   simp [blkO]
  ·rw [if_neg (fun z => c z.2), sackL_eq r h m fs acc ha, show m - acc.length = 0 by omega, List.take_zero, List.take_zero]
theorem unw_is {una irs f : Int} (h : 0 ≤ una ∧ una ≤ 1000) (hf : 0 ≤ f ∧ f ≤ 1000) : unwrapO una (wr .u32 (wr .u32 (irs + wr .u32 f) - irs)) = f := by
 have e : wr .u32 (wr .u32 (irs + wr .u32 f) - irs) = f := by rw [wu32, wu32, wu32]; omega
 rw [e]; unfold unwrapO satw sdiff; omega
theorem of_is {a : SAsked} (h : 0 ≤ a.xUna ∧ a.xUna ≤ 1000) {f : SSpan} (h1 : 0 ≤ f.xFrom ∧ f.xFrom ≤ 1000) (h2 : 0 ≤ f.xTo ∧ f.xTo ≤ 1000) : ofB a (blkO a.xIss f) = f := by
 unfold ofB blkO
 rw [unw_is h h1, unw_is h h2]
theorem told_is {a : SAsked} (h : 0 ≤ a.xUna ∧ a.xUna ≤ 1000) : ∀ (fs : List SSpan), (∀ f ∈ fs, (0 ≤ f.xFrom ∧ f.xFrom ≤ 1000) ∧ 0 ≤ f.xTo ∧ f.xTo ≤ 1000) → (fs.map (blkO a.xIss)).map (ofB a) = fs
 | [], _ => rfl
 | f :: fs, hf => by
  obtain ⟨h1, h2⟩ := hf f List.mem_cons_self
  rw [List.map_cons, List.map_cons, of_is h h1 h2, told_is h fs (fun g hg => hf g (List.mem_cons_of_mem _ hg))]
theorem hears {text : List Int} {irs x : Int} {r : SRecv} {s : SSegment} {una : Int} (h : An text irs r) (p : Part text irs x s) (hB : finB s = false) (hl : text.length ≤ 200) (hu : una = r.xNext) (a : SAsked) (ha : a = SAsked.mk una text.length irs 0 77 false 0 0 true) :
  ∃ l tw, (tellS (inR r s) (aheadL r s)).xSacks.map (ofB a) = l ∧ twiceO l (inR r s).xNext = tw ∧ (tellS (inR r s) (aheadL r s)).xSacks.length ≤ 4 ∧
   ((inR r s).xLate.length ≤ 3 → gather tw (inR r s).xNext (min a.xNext 1125899906842624) 0 [] l = (inR r s).xLate.map spx) := by
 have hn := h.step p hB hl
 have hok : RecvOk (inR r s) := inR_ok s h.t.ok
 have hm := mid_of_ok hok
 have hX := h.t.atX p hl
 have hE := h.end_ p hB hl
 have hmt := inT_mid s h.t.ok
 have h0 := h.t.ok.1.1
 have h1 := h.t.next_le
 have hN : (tellE (inR r s)).xNext ≤ text.length := hn.t.next_le
 have hN : (inR r s).xNext ≤ text.length := hN
 have hNN : r.xNext ≤ (inR r s).xNext := (inT_eq s h.t.ok).1
 have hua : 0 ≤ a.xUna ∧ a.xUna ≤ 1000 := by rw [ha]; show 0 ≤ una ∧ una ≤ 1000; omega
 have hii : a.xIss = irs := by rw [ha]
 have hnx : a.xNext = text.length := by rw [ha]
 -- late pieces lie within the text
 have hle : ∀ q ∈ (inR r s).xLate, (inR r s).xNext < q.xFrom ∧ q.xFrom < endP q ∧ endP q ≤ text.length := fun q hq => by
  have f := POk_from hm.2.1.1 q hq
  have e := end_lt f.2
  refine ⟨by have := f.1; omega, e, ?_⟩
  have hq2 : At (Full (tellE (inR r s))) (endP q - 1) ≠ none := by
   rw [full_late (by show (inR r s).xNext ≤ _; have := f.1; omega)]
   exact mem_at hq ⟨by omega, by omega⟩
  have hq3 := hn.t.hat _ hq2
  rw [hq3] at hq2
  rcases Nat.lt_or_ge (endP q - 1).toNat text.length with c | c
  ·have := f.1; omega
  ·rw [List.getElem?_eq_none c] at hq2; exact absurd rfl hq2
 have hfn := firsts_nodup _ _ _ (ok_firsts hok)
 have hfm : ∀ f ∈ (inR r s).xFirst, ∃ q ∈ (inR r s).xLate, f = spx q := fun f hf => by
  obtain ⟨q, hq, e⟩ := List.mem_map.1 (hfn.2 f hf).1
  exact ⟨q, hq, e.symm⟩
 have hfr : ∀ f ∈ (inR r s).xFirst, (inR r s).xNext < f.xFrom ∧ f.xFrom < f.xTo ∧ f.xTo ≤ text.length := fun f hf => by
  obtain ⟨q, hq, e⟩ := hfm f hf
  have := hle q hq
  rw [e]; exact this
 have hsk : (inR r s).xSacks = true := hn.sk
 have hst : (inR r s).xStamps = false := hn.st
 have hir : (inR r s).xIrs = irs := hn.t.hirs
 have hsx : ∀ bs, bs.length ≤ 4 → (tellS (inR r s) bs).xSacks = bs ++ ((inR r s).xFirst.take (4 - bs.length)).map (blkO irs) := fun bs hb => by
  have : (tellS (inR r s) bs).xSacks = sackL (inR r s) (if (inR r s).xStamps = true then 3 else 4) bs (inR r s).xFirst := rfl
  rw [this, hst, if_neg Bool.false_ne_true, show (4 : Int) = ((4 : Nat) : Int) from rfl, sackL_eq _ hsk 4 _ _ hb, hir]
 have hfl : (inR r s).xLate.length ≤ 3 → (inR r s).xFirst.length ≤ 3 := fun h3 => by
  have := nodup_len _ _ hfn.1 (fun f hf => (hfn.2 f hf).1)
  rw [List.length_map] at this; omega
 have hcov : Cov (inR r s) := hn.cov
 -- told spans make up what is late
 have all : ∀ tw i, (tw = false ∨ 0 < i) → gather tw (inR r s).xNext (min a.xNext 1125899906842624) i [] (inR r s).xFirst = (inR r s).xLate.map spx := fun tw i hti => by
  have hg := fun t => gather_all t tw (inR r s).xNext (min a.xNext 1125899906842624) (by omega) (by omega) (inR r s).xFirst i [] hti (fun b hb => by have := hfr b hb; rw [hnx]; omega) trivial
  have hok2 : Ok 0 ((inR r s).xLate.map spx) := (Ok_map hm.2.1.1 (fun q hq => by have := hle q hq; omega)).le (by omega)
  refine Ok_uniq (hg 0).1 hok2 fun t => ?_
  rw [(hg t).2]
  constructor
  ·rintro (z | ⟨f, hf, z⟩)
   ·exact (In_nil z).elim
   ·exact ⟨f, (hfn.2 f hf).1, z⟩
  ·rintro ⟨f, hf, z⟩
   obtain ⟨q, hq, e⟩ := List.mem_map.1 hf
   exact .inr ⟨f, by rw [← e]; exact hcov q hq, z⟩
 have htl : ∀ n, (((inR r s).xFirst.take n).map (blkO irs)).map (ofB a) = (inR r s).xFirst.take n := fun n => by
  rw [← hii]
  exact told_is hua _ fun f hf => by have := hfr f (List.mem_of_mem_take hf); omega
 unfold aheadL
 by_cases c : r.xSacks = true ∧ 0 < s.xData.length ∧ 0 ≤ inX r s ∧ inFresh r s = false
 ·rw [if_pos c]
  obtain ⟨c1, c2, c3, c4⟩ := c
  have x0 := p.x0; have xl := p.hlen
  have hb1 : (⟨s.xSeq, wr .u32 (s.xSeq + wr .u32 (s.xData.length : Int))⟩ : SBlock) = blkO irs ⟨x, x + s.xData.length⟩ := by
   unfold blkO
   rw [p.hseq]
   congr 1
   simp only [wu32]; omega
  have hof : ofB a (blkO irs ⟨x, x + s.xData.length⟩) = ⟨x, x + s.xData.length⟩ := by
   rw [← hii]; exact of_is hua (by show 0 ≤ x ∧ x ≤ 1000; omega) (by show 0 ≤ x + (s.xData.length : Int) ∧ x + (s.xData.length : Int) ≤ 1000; omega)
  have hl4 : (tellS (inR r s) [⟨s.xSeq, wr .u32 (s.xSeq + wr .u32 (s.xData.length : Int))⟩]).xSacks.map (ofB a) = ⟨x, x + s.xData.length⟩ :: (inR r s).xFirst.take 3 := by
   rw [hsx _ (by simp), List.map_append, htl, hb1]
   simp [hof]
  -- it came already
  have hge : takeG (midR r s) x s.xData = [] := by
   rw [← hX]
   unfold inFresh at c4
   cases hg : takeG (midR r s) (inX r s) s.xData with
   | nil => rfl
   | cons y ys => rw [hg] at c4; cases c4
  have hgo := (takeG_ok (mid_midR (s := s) (mid_of_ok h.t.ok)) x s.xData).2.1
  obtain ⟨u, b, f, e⟩ := midR_eq r s
  have hmn : (midR r s).xNext = r.xNext := by rw [e]
  have hml : (midR r s).xLate = r.xLate := by rw [e]
  rw [hge, hE, hmn, hml] at hgo
  have nogap : ∀ t, max x r.xNext ≤ t → t < x + s.xData.length → At r.xLate t ≠ none := fun t t1 t2 z => ((hgo t).2 ⟨t1, t2, z⟩).elim
  have htw : twiceO (⟨x, x + s.xData.length⟩ :: (inR r s).xFirst.take 3) (inR r s).xNext = true := by
   simp only [twiceO]
   rw [decide_eq_true (show x < x + (s.xData.length : Int) by omega), Bool.true_and]
   by_cases d : x + s.xData.length ≤ (inR r s).xNext
   ·rw [decide_eq_true d]; rfl
   ·rw [decide_eq_false d, Bool.false_or]
    have hxn : (inR r s).xNext < x := by
     rcases Int.lt_or_le (inR r s).xNext x with z | z
     ·exact z
     ·exfalso
      have hmeet := meets h.t.ok hX hE (t := (inR r s).xNext) (Int.le_refl _) z (by omega)
      exact hmeet (POk_none hmt.2.1.1 (by show (inT r s).xNext < (inT r s).xNext + 1; omega))
    have hin := meets h.t.ok hX hE (t := x) (by show (inR r s).xNext ≤ x; omega) (Int.le_refl _) (by omega)
    obtain ⟨q, hq, q1, q2⟩ := at_mem hin
    have q3 := holds h.t.ok hX hE hq (t := x) ⟨q1, q2⟩ (Int.le_refl _) (by omega)
    have hd : s.xData ≠ [] := fun z => by rw [z] at c2; simp at c2
    have hfi : (inR r s).xFirst = firstsL ((inT r s).xLate.map spx) [] (toldL ((inT r s).xLate.map spx) (inX r s) s.xData (inT r s).xFirst) := rfl
    have hfind : findS ((inT r s).xLate.map spx) (spx q) = some (spx q) := find_in hmt.2.1.1 hq (end_lt (POk_from hmt.2.1.1 q hq).2) (Int.le_refl _) (Int.le_refl _)
    rw [hX, told_head hmt.2.1.1 hq hd (by omega) (by omega) q3] at hfi
    have hhd : ∃ m, (inR r s).xFirst = spx q :: m := by
     rw [hfi]
     conv => enter [1, m, 1]; unfold firstsL
     rw [hfind]
     simp only [List.not_mem_nil, if_false]
     obtain ⟨m, hm'⟩ := firstsL_head ((inT r s).xLate.map spx) (inT r s).xFirst ([] ++ [spx q])
     exact ⟨m, by rw [hm']; rfl⟩
    obtain ⟨m, hm'⟩ := hhd
    rw [hm', List.take_succ_cons]
    show (decide (q.xFrom ≤ x) && decide (x + (s.xData.length : Int) ≤ endP q)) = true
    rw [decide_eq_true q1, decide_eq_true q3]; rfl
  refine ⟨_, true, hl4, htw, tellS_le _ _ (by simp), fun h3 => ?_⟩
  show gather true _ _ 1 (if aside true _ _ 0 _ then [] else _) _ = _
  rw [if_pos (.inl ⟨rfl, rfl⟩), List.take_of_length_le (hfl h3)]
  exact all true 1 (.inr (by omega))
 ·rw [if_neg c]
  have hl4 : (tellS (inR r s) []).xSacks.map (ofB a) = (inR r s).xFirst.take 4 := by
   rw [hsx _ (by simp), List.nil_append, htl]; rfl
  have htw : twiceO ((inR r s).xFirst.take 4) (inR r s).xNext = false := by
   cases hf : (inR r s).xFirst with
   | nil => rfl
   | cons b m =>
    have hb := hfr b (by rw [hf]; exact List.mem_cons_self)
    rw [List.take_succ_cons]
    simp only [twiceO]
    rw [decide_eq_true hb.2.1, Bool.true_and, decide_eq_false (show ¬ b.xTo ≤ (inR r s).xNext by omega), Bool.false_or]
    cases m with
    | nil => rfl
    | cons c m =>
     rw [List.take_succ_cons]
     show (decide (c.xFrom ≤ b.xFrom) && decide (b.xTo ≤ c.xTo)) = false
     rcases Int.lt_or_le b.xFrom c.xFrom with k | k
     ·rw [decide_eq_false (by omega)]; rfl
     ·rcases Int.lt_or_le c.xTo b.xTo with k2 | k2
      ·rw [decide_eq_false (show ¬ b.xTo ≤ c.xTo by omega), Bool.and_false]
      ·exfalso
       obtain ⟨q, hq, e1⟩ := hfm b (by rw [hf]; exact List.mem_cons_self)
       obtain ⟨z, hz, e2⟩ := hfm c (by rw [hf]; exact List.mem_cons_of_mem _ List.mem_cons_self)
       rw [e1] at k k2 hb; rw [e2] at k k2
       have k : z.xFrom ≤ q.xFrom := k
       have k2 : endP q ≤ endP z := k2
       have hb2 : q.xFrom < endP q := hb.2.1
       have := one_piece hm.2.1.1 hq hz (t := q.xFrom) ⟨Int.le_refl _, hb2⟩ ⟨k, by omega⟩
       have hnd := hfn.1
       rw [hf, e1, e2, this] at hnd
       exact (List.nodup_cons.1 hnd).1 List.mem_cons_self
  refine ⟨_, false, hl4, htw, tellS_le _ _ (by simp), fun h3 => ?_⟩
  rw [List.take_of_length_le (by have := hfl h3; omega)]
  exact all false 0 (.inl rfl)
theorem rem_rng {p b : Int} (hb : 1 ≤ b) (hb2 : b ≤ 1000) : 0 ≤ wr .i64 (Int.tmod (wr .u64 p) (wr .u64 (wr .i64 b))) ∧ wr .i64 (Int.tmod (wr .u64 p) (wr .u64 (wr .i64 b))) ≤ b - 1 := by
 have h1 : wr .u64 (wr .i64 b) = b := by rw [w64_id (by omega) (by omega), wu64]; omega
 have h2 : 0 ≤ wr .u64 p := by rw [wu64]; omega
 rw [h1, Int.tmod_eq_emod_of_nonneg h2]
 have := Int.emod_nonneg (wr .u64 p) (show b ≠ 0 by omega)
 have := Int.emod_lt_of_pos (wr .u64 p) (show 0 < b by omega)
 rw [w64_id (by omega) (by omega)]; omega
theorem len_rng {p : Int} : 0 ≤ wr .i64 (Int.tmod (shr .u64 (wr .u64 p) 10) 16) ∧ wr .i64 (Int.tmod (shr .u64 (wr .u64 p) 10) 16) ≤ 15 := by
 have h2 : 0 ≤ wr .u64 p := by rw [wu64]; omega
 have h3 : shr .u64 (wr .u64 p) 10 = wr .u64 p / 1024 := by
  unfold shr
  rw [show min (Int.toNat 10) IntKind.u64.bits = 10 from rfl, show (2 : Int) ^ 10 = 1024 from rfl]
  exact Int.fdiv_eq_ediv_of_nonneg _ (by omega)
 have h4 : 0 ≤ wr .u64 p / 1024 := by omega
 rw [h3, Int.tmod_eq_emod_of_nonneg h4, w64_id (by omega) (by omega)]
 omega
theorem sum_l {R : Type} (n : Nat) (p0 : Int) (p1 p2 : List Int) (v93 v95 v97 : Int) (r : SRecv) (hd : SHeard) (hl : r.xLate.length ≤ 1000) : ∀ (rest : List SPiece) (m i : Nat) (v lo : Int) (ke : Int → Option R), r.xLate.drop i = rest → rest.length < m → i ≤ r.xLate.length → POk lo rest → (∀ p ∈ rest, endP p ≤ 1000) → 0 ≤ lo → 0 ≤ v → v ≤ lo →
  l3_19 capB n m p0 p1 p2 v93 v95 v97 r hd v (i : Int) ke = ke (v + sumP rest)
 | [], m, i, v, lo, ke, hd', hm, hi, ok, hh, h0, h1, h2 => by
  obtain ⟨m, rfl⟩ : ∃ m', m = m' + 1 := ⟨m - 1, by omega⟩
  have := drop_nil hd'
  simp only [l3_19, s3_14]
  rw [cf (by omega), show v + sumP [] = v from Int.add_zero v]
 | p :: rest, m, i, v, lo, ke, hd', hm, hi, ok, hh, h0, h1, h2 => by
  obtain ⟨m, rfl⟩ : ∃ m', m = m' + 1 := ⟨m - 1, by omega⟩
  obtain ⟨g1, g2⟩ := drop_lt hd'
  simp only [List.length_cons] at hm
  have e1 := hh p List.mem_cons_self
  have e0 := ok.1
  have e3 : endP p = p.xFrom + p.xData.length := rfl
  simp only [l3_19, s3_14]
  rw [ct (show (i : Int) < _ by omega), ct (show (0 : Int) ≤ i by omega), ct (show (i : Int) < _ by omega), rd_at hd', w64_id (by omega) (by omega), succ_w (by omega), sum_l n p0 p1 p2 v93 v95 v97 r hd hl rest m (i + 1) _ (endP p + 1) ke g2 (by omega) (by omega) ok.2.2 (fun q hq => hh q (List.mem_cons_of_mem _ hq)) (by omega) (by omega) (by omega)]
  congr 1; rw [show sumP (p :: rest) = p.xData.length + sumP rest from rfl]; omega
theorem loop22 {R : Type} (n : Nat) (hn : 4294967290 ≤ n) (text : List Int) (irs : Int) (parts : List Int) (hl : text.length ≤ 200) (hp : parts.length ≤ 200) (kr ke : Option R) : ∀ (d m i : Nat) (r : SRecv) (una : Int), i + d = parts.length → d < m → An text irs r → una = r.xNext →
  l3_38 capB n m irs parts text (text.length : Int) (i : Int) r una kr ke = ke
 | 0, m, i, r, una, hd, hm, t, hu => by
  obtain ⟨m, rfl⟩ : ∃ m', m = m' + 1 := ⟨m - 1, by omega⟩
  simp only [l3_38, G3, s3_1, s3_4, s3_6, s3_9, s3_12, s3_14, s3_20, s3_22, s3_24, s3_25, s3_27, s3_29, s3_31, s3_32, s3_35, s3_37, s3_39, s3_40, s3_41, s3_42, s3_45, s3_47]
  rw [cf (by omega)]
 | d + 1, m, i, r, una, hd, hm, t, hu => by
  obtain ⟨m, rfl⟩ : ∃ m', m = m' + 1 := ⟨m - 1, by omega⟩
  obtain ⟨x1, x2⟩ := rem_rng (p := parts.getD i zint) (b := (text.length : Int) + 1) (by omega) (by omega)
  obtain ⟨n1, n2⟩ := len_rng (p := parts.getD i zint)
  have hX : ∃ X, X = wr .i64 (Int.tmod (wr .u64 (parts.getD i zint)) (wr .u64 (wr .i64 ((text.length : Int) + 1)))) := ⟨_, rfl⟩
  have hN : ∃ N, N = wr .i64 (Int.tmod (shr .u64 (wr .u64 (parts.getD i zint)) 10) 16) := ⟨_, rfl⟩
  obtain ⟨X, hX⟩ := hX
  obtain ⟨N, hN⟩ := hN
  rw [← hX] at x1 x2
  rw [← hN] at n1 n2
  obtain ⟨S, hS⟩ : ∃ S, S = segA text irs X (N + 1) := ⟨_, rfl⟩
  have pt : Part text irs X S := by rw [hS]; exact segA_part x1 (by omega) (by omega)
  have hB : finB S = false := by rw [hS]; exact segA_fin text irs X (N + 1)
  have t1 := t.step pt hB hl
  have hin := fun k => in_F (R := R) (F := n) (by omega) t pt hl k
  obtain ⟨l, tw, e1, e2, e3, e4⟩ := hears t pt hB hl hu (SAsked.mk una text.length irs 0 77 false 0 0 true) rfl
  have hne : ¬ wr .u64 (wr .i64 ((text.length : Int) + 1)) = 0 := by rw [w64_id (by omega) (by omega), wu64]; omega
  have h0 := t.t.ok.1.1
  have hn1 : (inR r S).xNext ≤ text.length := t1.t.next_le
  have hn2 : r.xNext ≤ (inR r S).xNext := (inT_eq _ t.t.ok).1
  have hir : (inR r S).xIrs = irs := t1.t.hirs
  have hdn : (inR r S).xDone = false := t1.done
  have how : (inR r S).xOwn = 77 := t1.own
  have hack : (tellS (inR r S) (aheadL r S)).xAck = wr .u32 (irs + wr .u32 (inR r S).xNext) := by
   show wr .u32 ((inR r S).xIrs + wr .u32 (if (inR r S).xDone = true then _ else _)) = _
   rw [hdn, if_neg Bool.false_ne_true, hir]
  have hw := fun k => Weigh_F (R := R) (F := n) (by omega) (SAsked.mk una text.length irs 0 77 false 0 0 true) (tellS (inR r S) (aheadL r S)) k (inR r S).xNext ⟨by show 0 ≤ una; omega, by show una ≤ _; omega, hn1, by show (text.length : Int) ≤ 1000; omega⟩ rfl rfl rfl rfl (by rw [hack]; exact unw_is (by show 0 ≤ una ∧ una ≤ 1000; omega) (by omega)) (by show wr .u32 ((inR r S).xOwn - 77) = 0; rw [how]; rfl) (by omega)
  rw [e1, e2] at hw
  have key : ∀ A B : Option R, cond (!decide ((SHeard.mk true (inR r S).xNext false 0 (tellS (inR r S) (aheadL r S)).xWin 0 0 tw (gather tw (inR r S).xNext (min (SAsked.mk una text.length irs 0 77 false 0 0 true).xNext 1125899906842624) 0 [] l)).xAck = (tellE (inR r S)).xNext)) A B = B := fun A B => cnt rfl
  have hok : RecvOk (inR r S) := inR_ok _ t.t.ok
  have hm1 := mid_of_ok hok
  have hends : ∀ q ∈ (inR r S).xLate, endP q ≤ 1000 := fun q hq => by
   have := hm1.2.1.2 q hq
   have hb := t1.t.base
   have hc := t1.t.hcap
   have hb : (inR r S).xNext - ((inR r S).xUnread.length : Int) = 0 := hb
   have hc : (inR r S).xCap = 1000 := hc
   unfold lim at this; omega
  have hrn : POk 0 (inR r S).xLate := hm1.2.1.1.le (by omega)
  have hln : (inR r S).xLate.length ≤ 1000 := by
   have := PW_len hrn.pw hends (by omega); omega
  have hw2 := succ_w (i := i) (by omega)
  have ih := fun una' hu' => loop22 n hn text irs parts hl hp kr ke d m (i + 1) (tellE (inR r S)) una' (by omega) (by omega) t1 hu'
  have hmn : mn (text.length : Int) (wr .i64 (wr .i64 (X + N) + 1)) = min (text.length : Int) (X + (N + 1)) := by
   rw [w64_id (n := X + N) (by omega) (by omega), w64_id (by omega) (by omega), mn_min]; congr 1; omega
  have hsum := fun v93 v95 v97 hd ke => sum_l (R := R) n irs parts text v93 v95 v97 (tellE (inR r S)) hd hln (inR r S).xLate n 0 0 0 ke rfl (by omega) (by omega) hrn hends (by omega) (by omega) (by omega)
  rw [show (((0 : Nat) : Int)) = 0 from rfl] at hsum
  have hseg : SSegment.mk 0 0 (wr .u32 (irs + wr .u32 X)) 0 0 0 0 0 0 false false 0 0 [] (List.take ((min (text.length : Int) (X + (N + 1))).toNat - X.toNat) (text.drop X.toNat)) = S := hS.symm
  simp only [l3_38, G3, s3_1, s3_4, s3_6, s3_9, s3_12, s3_14, s3_20, s3_22, s3_24, s3_25, s3_27, s3_29, s3_31, s3_32, s3_35, s3_37, s3_39, s3_40, s3_41, s3_42, s3_45, s3_47]
  rw [ct (show (i : Int) < _ by omega), ct (show (0 : Int) ≤ i by omega), ct (show (i : Int) < _ by omega), cf hne, ct (show (0 : Int) ≤ i by omega), ct (show (i : Int) < _ by omega), Int.toNat_natCast, ← hX, ← hN, hmn, ct x1, ct (by omega), ct (by omega), hseg, hin, cnt rfl, Bool.not_true, cond_false, hw, Bool.not_true, cond_false, cond_false, key, hsum, Int.zero_add, hw2]
  by_cases c : ((tellE (inR r S)).xLate.length : Int) ≤ 3
  ·have c' : (inR r S).xLate.length ≤ 3 := by
    have : (tellE (inR r S)).xLate = (inR r S).xLate := rfl
    rw [this] at c; omega
   have hsz := fun k => Size_F (R := R) (F := n) (by omega) (inR r S).xLate k (by omega) hrn hends
   rw [ct c, e4 c', hsz, cnt rfl]
   exact ih _ rfl
  ·rw [cf c]
   exact ih _ rfl
theorem newA_ok : NewOk 1000 0 := by unfold NewOk; omega
theorem newA_recv (irs : Int) : RecvOk (newS 1000 0 irs 77 false true) := by
 have h : NewOk 1000 0 := newA_ok
 obtain ⟨h1, h2, h3, h4⟩ := h
 obtain ⟨w1, w2, w3⟩ := win_le (r := 1000) (s := 0) ⟨h3, h4⟩ (by omega)
 refine ⟨⟨Int.le_refl _, by show (0 : Int) ≤ _; omega, h1, h2, h3, h4, by show ((0 : Nat) : Int) ≤ 1000; omega, by show ((0 : Nat) : Int) ≤ 0; omega⟩, w1, by show win 1000 0 ≤ 0 - ((0 : Nat) : Int) + 1000; omega, by show -1 ≤ (-1 : Int); omega, by show (-1 : Int) ≤ _; omega, fun z => by have z : (0 : Int) ≤ -1 := z; omega, ⟨trivial, trivial⟩, ?_, fun _ => rfl⟩
 show false = true ↔ (-1 : Int) = 0
 exact ⟨fun z => (by cases z), fun z => (by omega)⟩
theorem law_AckAnswers : LawAckAnswers.Pure := by
 intro M irs parts text h0 h1 h2
 obtain ⟨N, hN⟩ : ∃ N : Nat, N = 4294967296 := ⟨_, rfl⟩
 refine ⟨N + 61, fun R k => ?_⟩
 obtain ⟨F, hF⟩ : ∃ F, F = N + 60 := ⟨_, rfl⟩
 have hh : ∀ k : Bool → Option R, G4 capB F k = k true := fun k => by
  obtain ⟨j, hj⟩ : ∃ j, F = j + 40 := ⟨N + 20, by omega⟩
  rw [hj]; exact heads22 j k
 rw [show N + 61 = F + 1 by omega]
 have t0 : An text irs (newS 1000 0 irs 77 false true) := by
  refine ⟨⟨newA_recv irs, rfl, rfl, rfl, .inl rfl, by simp, by simp, by show (0 : Int) - ((0 : Nat) : Int) = ((0 : Nat) : Int); omega, fun t hn => ?_⟩, rfl, rfl, rfl, rfl, rfl, fun p hp => by cases hp⟩
  refine absurd ?_ hn
  have : At (Full (newS 1000 0 irs 77 false true)) t = At [] t := at_out (by rw [full_end]; show ¬ ((0 : Int) - ((0 : Nat) : Int) ≤ t ∧ t < 0); omega)
  rw [this]; rfl
 have hnew : ∀ k : SRecv → Int → Option R, G5 capB F 1000 0 irs 77 false true k = k (newS 1000 0 irs 77 false true) 0 := fun k => by
  obtain ⟨j, hj⟩ : ∃ j, F = j + 2 := ⟨F - 2, by omega⟩
  rw [hj, New_k, if_pos newA_ok]
 simp only [G3, s3_1, s3_4, s3_6, s3_9, s3_12, s3_14, s3_20, s3_22, s3_24, s3_25, s3_27, s3_29, s3_31, s3_32, s3_35, s3_37, s3_39, s3_40, s3_41, s3_42, s3_45, s3_47]
 by_cases c1 : 200 < (text.length : Int)
 ·rw [ct c1, hh]
 rw [cf c1]
 by_cases c2 : 100 < (parts.length : Int)
 ·rw [ct c2, hh]
 have hlp := loop22 (R := R) F (by omega) text irs parts (by omega) (by omega) (k false) (k true) parts.length F 0 _ 0 (by omega) (by omega) t0 rfl
 rw [show (((0 : Nat) : Int)) = 0 from rfl] at hlp
 rw [cf c2, hnew, cnt rfl, hh, hlp]
end
end Go.Proofs.Ytafnmkbehjbkdaa.M
