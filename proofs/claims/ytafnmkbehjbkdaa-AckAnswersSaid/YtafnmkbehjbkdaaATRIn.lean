/- A segment comes: what a receiver becomes, and that it stays right. -/
import Derived.Test.YtafnmkbehjbkdaaATRInput
set_option linter.unusedVariables false
set_option linter.unusedSimpArgs false
namespace Go.Proofs.Ytafnmkbehjbkdaa.M
open Go Go.RowKit
noncomputable section
theorem nodup_len {α : Type} [DecidableEq α] : ∀ (fs L : List α), fs.Nodup → (∀ f ∈ fs, f ∈ L) → fs.length ≤ L.length
 | [], L, _, _ => by simp
 | f :: fs, L, h, hh => by
  obtain ⟨h1, h2⟩ := List.nodup_cons.1 h
  have hf := hh f List.mem_cons_self
  have := nodup_len fs (L.erase f) h2 (fun g hg => (List.mem_erase_of_ne (fun e => h1 (by rw [← e]; exact hg))).2 (hh g (List.mem_cons_of_mem _ hg)))
  rw [List.length_erase_of_mem hf] at this
  have : 0 < L.length := List.length_pos_of_mem hf
  simp only [List.length_cons]; omega
theorem firsts_nodup (L : List SSpan) : ∀ (fs pre : List SSpan), FirstsOk L pre fs → fs.Nodup ∧ ∀ f ∈ fs, f ∈ L ∧ f ∉ pre
 | [], pre, _ => ⟨List.nodup_nil, fun f hf => by cases hf⟩
 | f :: fs, pre, h => by
  obtain ⟨h1, h2, h3⟩ := h
  obtain ⟨i1, i2⟩ := firsts_nodup L fs (pre ++ [f]) h3
  refine ⟨List.nodup_cons.2 ⟨fun hf => (i2 f hf).2 (by simp), i1⟩, fun g hg => ?_⟩
  rcases List.mem_cons.1 hg with rfl | hg
  ·exact ⟨h1, h2⟩
  ·exact ⟨(i2 g hg).1, fun z => (i2 g hg).2 (List.mem_append_left _ z)⟩
theorem firsts_snoc (L : List SSpan) (y : SSpan) (hy : y ∈ L) : ∀ (fs pre : List SSpan), FirstsOk L pre fs → y ∉ pre → y ∉ fs → FirstsOk L pre (fs ++ [y])
 | [], pre, _, h1, _ => ⟨hy, h1, trivial⟩
 | f :: fs, pre, h, h1, h2 => ⟨h.1, h.2.1, firsts_snoc L y hy fs (pre ++ [f]) h.2.2 (fun z => by
   rcases List.mem_append.1 z with z | z
   ·exact h1 z
   ·exact h2 (by rw [List.mem_singleton.1 z]; exact List.mem_cons_self)) (fun z => h2 (List.mem_cons_of_mem _ z))⟩
theorem firstsL_ok (all : List SSpan) : ∀ (told out : List SSpan), FirstsOk all [] out → FirstsOk all [] (firstsL all out told)
 | [], out, h => h
 | s :: rest, out, h => by
  unfold firstsL
  cases hf : findS all s with
  | none => exact firstsL_ok all rest out h
  | some y =>
   simp only
   split
   ·exact firstsL_ok all rest out h
   ·rename_i c
    exact firstsL_ok all rest _ (firsts_snoc all y (List.mem_of_find?_eq_some hf) out [] h (by simp) c)
theorem piecesOk_to {lm fin : Int} : ∀ {ps : List SPiece} {a : Int}, PiecesOk lm fin a ps → POk (a + 1) ps ∧ (∀ p ∈ ps, endP p ≤ lm) ∧ (0 ≤ fin → ∀ p ∈ ps, endP p ≤ fin)
 | [], _, _ => ⟨trivial, fun p hp => (by cases hp), fun _ p hp => (by cases hp)⟩
 | p :: ps, a, h => by
  obtain ⟨h1, h2, h3, h4, h5⟩ := h
  obtain ⟨i1, i2, i3⟩ := piecesOk_to h5
  refine ⟨⟨by omega, fun z => h1 (by rw [z]; rfl), i1⟩, fun q hq => ?_, fun hf q hq => ?_⟩
  ·rcases List.mem_cons.1 hq with rfl | hq
   ·exact h3
   ·exact i2 q hq
  ·rcases List.mem_cons.1 hq with rfl | hq
   ·exact h4 hf
   ·exact i3 hf q hq
theorem piecesOk_of {lm fin : Int} : ∀ {ps : List SPiece} {a : Int}, POk (a + 1) ps → (∀ p ∈ ps, endP p ≤ lm) → (0 ≤ fin → ∀ p ∈ ps, endP p ≤ fin) → PiecesOk lm fin a ps
 | [], _, _, _, _ => trivial
 | p :: ps, a, h, h2, h3 => ⟨fun z => h.2.1 (List.length_eq_zero_iff.1 z), by have := h.1; omega, h2 p List.mem_cons_self, fun hf => h3 hf p List.mem_cons_self,
   piecesOk_of h.2.2 (fun q hq => h2 q (List.mem_cons_of_mem _ hq)) (fun hf q hq => h3 hf q (List.mem_cons_of_mem _ hq))⟩
theorem mid_of_ok {r : SRecv} (h : RecvOk r) : Mid r := by
 obtain ⟨hb, h1, h2, h3, h4, h5, h6, h7, h8⟩ := h
 obtain ⟨i1, i2, i3⟩ := piecesOk_to h6.1
 exact ⟨hb, ⟨i1, i2⟩, h3, h4, fun hf => ⟨h5 hf, i3 hf⟩⟩
theorem ok_firsts {r : SRecv} (h : RecvOk r) : FirstsOk (r.xLate.map spx) [] r.xFirst := by
 have := h.2.2.2.2.2.2.1.2
 rwa [map_sp (fun p hp => ((mid_size (mid_of_ok h)).2 p hp).2.2.2)] at this
theorem ok_size {r : SRecv} (h : RecvOk r) : r.xLate.length ≤ 1073741824 ∧ r.xFirst.length ≤ 1073741824 ∧ r.xUnread.length ≤ 1073741824 := by
 have h1 := (mid_size (mid_of_ok h)).1
 have h2 := firsts_nodup _ _ _ (ok_firsts h)
 have h3 := nodup_len _ _ h2.1 (fun f hf => (h2.2 f hf).1)
 rw [List.length_map] at h3
 have := h.1.2.2.2.1; have := h.1.2.2.2.2.2.2.1
 exact ⟨h1, by omega, by omega⟩
theorem ok_fits {r : SRecv} {n : Nat} (h : RecvOk r) (hn : 2147483649 ≤ n) : Fits n r := by
 obtain ⟨h1, h2, h3⟩ := ok_size h
 exact ⟨fun p hp => by have := ((mid_size (mid_of_ok h)).2 p hp).2.1; omega, by omega, by omega, by omega, by omega⟩
theorem lastP_ge : ∀ {ps : List SPiece} {a : Int}, POk (a + 1) ps → a ≤ lastP a ps ∧ ∀ p ∈ ps, endP p ≤ lastP a ps
 | [], _, _ => ⟨Int.le_refl _, fun p hp => by cases hp⟩
 | p :: ps, a, h => by
  obtain ⟨i1, i2⟩ := lastP_ge h.2.2
  have := h.1; have := end_lt h.2.1
  refine ⟨by show a ≤ lastP (endP p) ps; omega, fun q hq => ?_⟩
  rcases List.mem_cons.1 hq with rfl | hq
  ·exact i1
  ·exact i2 q hq
def finB (s : SSegment) : Bool := decide (0 < bits .and .i64 s.xFlags 1)
def inX (r : SRecv) (s : SSegment) : Int := unwrapO r.xNext (wr .u32 (s.xSeq - r.xIrs))
def stampR (r : SRecv) (s : SSegment) : SRecv := if r.xStamps = true ∧ inX r s ≤ r.xNext then { r with xRecent := s.xVal, xStamp := true } else r
def finR (r : SRecv) (s : SSegment) (x : Int) : SRecv := if finB s = true then { r with xFin := endR r (x + s.xData.length) } else r
def midR (r : SRecv) (s : SSegment) : SRecv := finR (stampR r s) s (inX r s)
def inT (r : SRecv) (s : SSegment) : SRecv := takeR (midR r s) (inX r s) s.xData
def doneR (a : SRecv) (x : Int) (d : List Int) : SRecv := { a with xDone := decide (a.xFin = a.xNext), xFirst := firstsL (a.xLate.map spx) [] (toldL (a.xLate.map spx) x d a.xFirst) }
def inR (r : SRecv) (s : SSegment) : SRecv := doneR (inT r s) (inX r s) s.xData
def inFresh (r : SRecv) (s : SSegment) : Bool := !(takeG (midR r s) (inX r s) s.xData).isEmpty
def aheadL (r : SRecv) (s : SSegment) : List SBlock := if r.xSacks = true ∧ 0 < s.xData.length ∧ 0 ≤ inX r s ∧ inFresh r s = false then [⟨s.xSeq, wr .u32 (s.xSeq + wr .u32 (s.xData.length : Int))⟩] else []
theorem inX_rng {r : SRecv} {s : SSegment} (h : Base r) : inX r s = r.xNext + sdiff (r.xNext % 4294967296) (wr .u32 (s.xSeq - r.xIrs)) ∧ r.xNext - 2147483648 ≤ inX r s ∧ inX r s < r.xNext + 2147483648 := by
 obtain ⟨h1, h2, _⟩ := h
 unfold inX unwrapO
 have hs : -2147483648 ≤ sdiff (r.xNext % 4294967296) (wr .u32 (s.xSeq - r.xIrs)) ∧ sdiff (r.xNext % 4294967296) (wr .u32 (s.xSeq - r.xIrs)) < 2147483648 := by unfold sdiff; omega
 have e : satw (r.xNext + sdiff (r.xNext % 4294967296) (wr .u32 (s.xSeq - r.xIrs))) = r.xNext + sdiff (r.xNext % 4294967296) (wr .u32 (s.xSeq - r.xIrs)) := by unfold satw; omega
 rw [e]; omega
theorem stampR_eq (r : SRecv) (s : SSegment) : ∃ u b, stampR r s = { r with xRecent := u, xStamp := b } := by
 unfold stampR; split
 ·exact ⟨_, _, rfl⟩
 ·exact ⟨r.xRecent, r.xStamp, rfl⟩
theorem finR_eq (r : SRecv) (s : SSegment) (x : Int) : ∃ f, finR r s x = { r with xFin := f } ∧ (f = r.xFin ∨ (r.xFin < 0 ∧ lastP r.xNext r.xLate ≤ f ∧ f ≤ lim r)) := by
 unfold finR; split
 ·refine ⟨_, rfl, ?_⟩
  unfold endR; split
  ·rename_i c; exact .inr c
  ·exact .inl rfl
 ·exact ⟨r.xFin, rfl, .inl rfl⟩
theorem mid_midR {r : SRecv} {s : SSegment} (h : Mid r) : Mid (midR r s) := by
 unfold midR
 obtain ⟨u, b, e⟩ := stampR_eq r s
 rw [e]
 obtain ⟨f, e2, hf⟩ := finR_eq { r with xRecent := u, xStamp := b } s (inX r s)
 rw [e2]
 obtain ⟨h1, h2, h3, h4, h5⟩ := h
 refine ⟨h1, h2, ?_⟩
 rcases hf with hf | ⟨f1, f2, f3⟩
 ·rw [hf]; exact ⟨h3, h4, h5⟩
 ·have hl := lastP_ge h2.1
  have f2' : lastP r.xNext r.xLate ≤ f := f2
  have f3' : f ≤ lim r := f3
  have hr := mid_rn h1
  obtain ⟨r1, r2, r3, r4⟩ := hr
  exact ⟨by show -1 ≤ f; omega, by show f ≤ _; omega, fun _ => ⟨by show r.xNext ≤ f; omega, fun p hp => by have := hl.2 p hp; show endP p ≤ f; omega⟩⟩
theorem midR_eq (r : SRecv) (s : SSegment) : ∃ u b f, midR r s = { r with xRecent := u, xStamp := b, xFin := f } := by
 unfold midR
 obtain ⟨u, b, e⟩ := stampR_eq r s
 rw [e]
 obtain ⟨f, e2, _⟩ := finR_eq { r with xRecent := u, xStamp := b } s (inX r s)
 exact ⟨u, b, f, e2⟩
theorem doneR_ok {a : SRecv} (x : Int) (d : List Int) (h : Mid a) (he : 0 ≤ a.xEdge ∧ a.xEdge ≤ a.xNext - a.xUnread.length + a.xCap) : RecvOk (doneR a x d) := by
 obtain ⟨z1, z2⟩ := mid_size h
 obtain ⟨hb, ⟨h1, h2⟩, h3, h4, h5⟩ := h
 refine ⟨hb, he.1, he.2, h3, h4, fun hf => (h5 hf).1, ⟨piecesOk_of h1 h2 (fun hf => (h5 hf).2), ?_⟩, ?_, ?_⟩
 ·show FirstsOk (a.xLate.map sp) [] (firstsL (a.xLate.map spx) [] _)
  rw [map_sp (fun p hp => (z2 p hp).2.2.2)]
  exact firstsL_ok _ _ _ trivial
 ·show decide (a.xFin = a.xNext) = true ↔ a.xFin = a.xNext
  exact decide_eq_true_iff
 ·intro hd
  have hd' : a.xFin = a.xNext := of_decide_eq_true hd
  show a.xLate.length = 0
  have hn := hb.1
  cases hl : a.xLate with
  | nil => rfl
  | cons p ps =>
   rw [hl] at h1
   have := (h5 (by omega)).2 p (by rw [hl]; exact List.mem_cons_self)
   have := h1.1; have := end_lt h1.2.1
   omega
theorem inT_mid {r : SRecv} (s : SSegment) (h : RecvOk r) : Mid (inT r s) := (take_ok (mid_midR (mid_of_ok h)) _ _).1
theorem inT_eq {r : SRecv} (s : SSegment) (h : RecvOk r) : r.xNext ≤ (inT r s).xNext ∧ (inT r s).xNext - ((inT r s).xUnread.length : Int) = r.xNext - r.xUnread.length ∧ lim (inT r s) = lim r ∧ (inT r s).xEdge = r.xEdge ∧ (inT r s).xCap = r.xCap := by
 obtain ⟨t1, t2, t3, t4, t5⟩ := take_ok (mid_midR (mid_of_ok h)) (inX r s) s.xData (r := midR r s)
 obtain ⟨u, b, f, e⟩ := midR_eq r s
 unfold inT
 have e1 : (midR r s).xNext = r.xNext := by rw [e]
 have e2 : (midR r s).xUnread = r.xUnread := by rw [e]
 have e3 : lim (midR r s) = lim r := by rw [e]; rfl
 have e4 : (midR r s).xEdge = r.xEdge := by rw [e]
 have e5 : (midR r s).xCap = r.xCap := by rw [e]
 rw [e1] at t3 t4; rw [e2] at t4; rw [e3] at t2
 exact ⟨t3, t4, t2, e4, e5⟩
theorem inR_ok {r : SRecv} (s : SSegment) (h : RecvOk r) : RecvOk (inR r s) := by
 obtain ⟨i1, i2, i3, i4, i5⟩ := inT_eq s h
 exact doneR_ok _ _ (inT_mid s h) ⟨by rw [i4]; exact h.2.1, by rw [i2, i4, i5]; exact h.2.2.1⟩
section
variable {R : Type} {F : Nat}
theorem Add_F (h : 1 ≤ F) (a n : Int) (k : Int → Option R) : G18 capB F a n k = k (wr .u32 (a + wr .u32 n)) := by
 obtain ⟨m, rfl⟩ : ∃ m, F = m + 1 := ⟨F - 1, by omega⟩
 rfl
theorem Input_F (h : 4294967260 ≤ F) (r : SRecv) (s : SSegment) (k : SRecv → SSegment → Bool → Int → Option R) (hz : Fits (F - 300) r) (hd : s.xData.length ≤ 140737488351232) :
  (RecvOk r → G6 capB F r s k = if r.xStamps = true ∧ s.xStamped = false then k r noSeg false 0
   else if r.xStamps = true ∧ r.xStamp = true ∧ sdiff r.xRecent s.xVal < 0 then k (tellE r) (tellS r []) true 0
   else k (tellE (inR r s)) (tellS (inR r s) (aheadL r s)) true 0) ∧
  (¬ RecvOk r → G6 capB F r s k = k noS noSeg false 230) := by
 obtain ⟨n, rfl⟩ : ∃ n, F = n + 1 := ⟨F - 1, by omega⟩
 have hz1 : ∀ q, n - 299 ≤ q → Fits q r := fun q hq => ⟨hz.1, hz.2.1, hz.2.2.1, hz.2.2.2.1, by have := hz.2.2.2.2; omega⟩
 have hc := fun k => Check_F (R := R) (F := n) (by omega) r k (hz1 _ (by omega))
 constructor
 ·intro ok
  have hx := inX_rng (s := s) ok.1
  have hn0 := ok.1.1; have hn1 := ok.1.2.1
  have hm : Mid (midR r s) := mid_midR (mid_of_ok ok)
  have ht := fun k => Take_F (R := R) (F := n) (by omega) (midR r s) (inX r s) s.xData k hm (by omega) hd
  have htm := inT_mid s ok
  have hts := mid_size htm
  have hfs := ok_size ok
  have hff : (inT r s).xFirst = r.xFirst := by
   obtain ⟨u, b, f, e⟩ := midR_eq r s
   show (midR r s).xFirst = r.xFirst
   rw [e]
  have hfirst := fun k => Firsts_F (R := R) (F := n) (by omega) { inT r s with xDone := decide ((inT r s).xFin = (inT r s).xNext) } (inX r s) s.xData k hts.1 (fun p hp => (hts.2 p hp).2.2.2) (by show (inT r s).xFirst.length * 16 ≤ _; rw [hff]; omega) (by show (inT r s).xFirst.length ≤ _; rw [hff]; omega) hd (by omega)
  have hir := inR_ok s ok
  have htell := fun bs k => tell_F (R := R) (F := n) (by omega) (inR r s) bs k hir (ok_fits hir (by omega))
  have htell0 := fun k => tell_F (R := R) (F := n) (by omega) r [] k ok (ok_fits ok (by omega))
  have hsk : (inR r s).xSacks = r.xSacks := by
   obtain ⟨u, b, f, e⟩ := midR_eq r s
   show (midR r s).xSacks = r.xSacks
   rw [e]
  -- behind the stamps
  have tail : G16 capB n (midR r s) (inX r s) s.xData (fun r1 b => G17 capB n { r1 with xDone := decide (r1.xFin = r1.xNext) } (inX r s) s.xData fun fs => cond r1.xSacks (cond (decide (0 < (s.xData.length : Int))) (cond (decide (0 ≤ inX r s)) (cond (!b) (G18 capB n s.xSeq (s.xData.length : Int) fun q => G14 capB n { r1 with xDone := decide (r1.xFin = r1.xNext), xFirst := fs } [⟨s.xSeq, q⟩] fun a t => k a t true 0) (G14 capB n { r1 with xDone := decide (r1.xFin = r1.xNext), xFirst := fs } [] fun a t => k a t true 0)) (G14 capB n { r1 with xDone := decide (r1.xFin = r1.xNext), xFirst := fs } [] fun a t => k a t true 0)) (G14 capB n { r1 with xDone := decide (r1.xFin = r1.xNext), xFirst := fs } [] fun a t => k a t true 0)) (G14 capB n { r1 with xDone := decide (r1.xFin = r1.xNext), xFirst := fs } [] fun a t => k a t true 0)) = k (tellE (inR r s)) (tellS (inR r s) (aheadL r s)) true 0 := by
   rw [ht]
   show G17 capB n { inT r s with xDone := decide ((inT r s).xFin = (inT r s).xNext) } (inX r s) s.xData _ = _
   rw [hfirst]
   show cond (inR r s).xSacks (cond (decide (0 < (s.xData.length : Int))) (cond (decide (0 ≤ inX r s)) (cond (!(inFresh r s)) (G18 capB n s.xSeq (s.xData.length : Int) fun q => G14 capB n (inR r s) [⟨s.xSeq, q⟩] fun a t => k a t true 0) (G14 capB n (inR r s) [] fun a t => k a t true 0)) (G14 capB n (inR r s) [] fun a t => k a t true 0)) (G14 capB n (inR r s) [] fun a t => k a t true 0)) (G14 capB n (inR r s) [] fun a t => k a t true 0) = _
   rw [hsk, Add_F (by omega), htell, htell]
   unfold aheadL
   cases r.xSacks with
   | false => rw [cond_false, if_neg (fun z => by cases z.1)]
   | true =>
    rw [cond_true]
    by_cases c1 : 0 < s.xData.length
    ·rw [ct (by omega)]
     by_cases c2 : 0 ≤ inX r s
     ·rw [ct c2]
      cases inFresh r s with
      | true => rw [Bool.not_true, cond_false, if_neg (fun z => by cases z.2.2.2)]
      | false => rw [Bool.not_false, cond_true, if_pos ⟨rfl, c1, c2, rfl⟩]
     ·rw [cf c2, if_neg (fun z => c2 z.2.2.1)]
    ·rw [cf (by omega), if_neg (fun z => c1 z.2.1)]
  -- the end
  have fin : ∀ (u : Int) (b : Bool), stampR r s = { r with xRecent := u, xStamp := b } → ∀ K : SRecv → Option R, cond (decide (0 < bits .and .i64 s.xFlags 1)) (G15 capB n { r with xRecent := u, xStamp := b } (wr .i64 (inX r s + (s.xData.length : Int))) fun f => K { r with xRecent := u, xStamp := b, xFin := f }) (K { r with xRecent := u, xStamp := b }) = K (midR r s) := by
   intro u b e K
   rw [w64_id (n := inX r s + _) (by omega) (by omega)]
   have hms := mid_size (mid_of_ok ok)
   have he := fun k => End_F (R := R) (F := n) (by omega) { r with xRecent := u, xStamp := b } (inX r s + s.xData.length) k ok.1 hms.1 (fun p hp => (hms.2 p hp).2.2.2)
   rw [he]
   unfold midR finR finB
   rw [e]
   by_cases c : 0 < bits .and .i64 s.xFlags 1
   ·rw [ct c, decide_eq_true c, if_pos rfl]
   ·rw [cf c, decide_eq_false c, if_neg Bool.false_ne_true]
  have hU := fun k => Unwrap_F (R := R) (F := n) (by omega) r.xNext (wr .u32 (s.xSeq - r.xIrs)) k (by omega) (by omega)
  have hD := fun k => Diff_F (R := R) (F := n) (by omega) r.xRecent s.xVal k
  have hxe : unwrapO r.xNext (wr .u32 (s.xSeq - r.xIrs)) = inX r s := rfl
  simp only [G6, s6_1, s6_4, s6_6, s6_8, s6_10, s6_12, s6_14, s6_17, s6_19, s6_21, s6_23, s6_25, s6_27]
  rw [(hc _).1 ok, cnt rfl, copied_F (by omega) r _ (hz1 _ (by omega))]
  rw [hU, hD, hxe]
  rcases Bool.eq_false_or_eq_true r.xStamps with hst | hst
  ·rw [cT hst]
   rcases Bool.eq_false_or_eq_true s.xStamped with hsd | hsd
   ·rw [hsd, Bool.not_true, cond_false, cT hst, if_neg (fun z => by cases z.2)]
    have rest : cond (decide (inX r s ≤ r.xNext)) (cond (decide (0 < bits .and .i64 s.xFlags 1)) (G15 capB n { r with xRecent := s.xVal, xStamp := true } (wr .i64 (inX r s + (s.xData.length : Int))) fun f => G16 capB n { r with xRecent := s.xVal, xStamp := true, xFin := f } (inX r s) s.xData (fun r1 b => G17 capB n { r1 with xDone := decide (r1.xFin = r1.xNext) } (inX r s) s.xData fun fs => cond r1.xSacks (cond (decide (0 < (s.xData.length : Int))) (cond (decide (0 ≤ inX r s)) (cond (!b) (G18 capB n s.xSeq (s.xData.length : Int) fun q => G14 capB n { r1 with xDone := decide (r1.xFin = r1.xNext), xFirst := fs } [⟨s.xSeq, q⟩] fun a t => k a t true 0) (G14 capB n { r1 with xDone := decide (r1.xFin = r1.xNext), xFirst := fs } [] fun a t => k a t true 0)) (G14 capB n { r1 with xDone := decide (r1.xFin = r1.xNext), xFirst := fs } [] fun a t => k a t true 0)) (G14 capB n { r1 with xDone := decide (r1.xFin = r1.xNext), xFirst := fs } [] fun a t => k a t true 0)) (G14 capB n { r1 with xDone := decide (r1.xFin = r1.xNext), xFirst := fs } [] fun a t => k a t true 0)))
     (G16 capB n { r with xRecent := s.xVal, xStamp := true } (inX r s) s.xData (fun r1 b => G17 capB n { r1 with xDone := decide (r1.xFin = r1.xNext) } (inX r s) s.xData fun fs => cond r1.xSacks (cond (decide (0 < (s.xData.length : Int))) (cond (decide (0 ≤ inX r s)) (cond (!b) (G18 capB n s.xSeq (s.xData.length : Int) fun q => G14 capB n { r1 with xDone := decide (r1.xFin = r1.xNext), xFirst := fs } [⟨s.xSeq, q⟩] fun a t => k a t true 0) (G14 capB n { r1 with xDone := decide (r1.xFin = r1.xNext), xFirst := fs } [] fun a t => k a t true 0)) (G14 capB n { r1 with xDone := decide (r1.xFin = r1.xNext), xFirst := fs } [] fun a t => k a t true 0)) (G14 capB n { r1 with xDone := decide (r1.xFin = r1.xNext), xFirst := fs } [] fun a t => k a t true 0)) (G14 capB n { r1 with xDone := decide (r1.xFin = r1.xNext), xFirst := fs } [] fun a t => k a t true 0))))
     (cond (decide (0 < bits .and .i64 s.xFlags 1)) (G15 capB n r (wr .i64 (inX r s + (s.xData.length : Int))) fun f => G16 capB n { r with xFin := f } (inX r s) s.xData (fun r1 b => G17 capB n { r1 with xDone := decide (r1.xFin = r1.xNext) } (inX r s) s.xData fun fs => cond r1.xSacks (cond (decide (0 < (s.xData.length : Int))) (cond (decide (0 ≤ inX r s)) (cond (!b) (G18 capB n s.xSeq (s.xData.length : Int) fun q => G14 capB n { r1 with xDone := decide (r1.xFin = r1.xNext), xFirst := fs } [⟨s.xSeq, q⟩] fun a t => k a t true 0) (G14 capB n { r1 with xDone := decide (r1.xFin = r1.xNext), xFirst := fs } [] fun a t => k a t true 0)) (G14 capB n { r1 with xDone := decide (r1.xFin = r1.xNext), xFirst := fs } [] fun a t => k a t true 0)) (G14 capB n { r1 with xDone := decide (r1.xFin = r1.xNext), xFirst := fs } [] fun a t => k a t true 0)) (G14 capB n { r1 with xDone := decide (r1.xFin = r1.xNext), xFirst := fs } [] fun a t => k a t true 0)))
     (G16 capB n r (inX r s) s.xData (fun r1 b => G17 capB n { r1 with xDone := decide (r1.xFin = r1.xNext) } (inX r s) s.xData fun fs => cond r1.xSacks (cond (decide (0 < (s.xData.length : Int))) (cond (decide (0 ≤ inX r s)) (cond (!b) (G18 capB n s.xSeq (s.xData.length : Int) fun q => G14 capB n { r1 with xDone := decide (r1.xFin = r1.xNext), xFirst := fs } [⟨s.xSeq, q⟩] fun a t => k a t true 0) (G14 capB n { r1 with xDone := decide (r1.xFin = r1.xNext), xFirst := fs } [] fun a t => k a t true 0)) (G14 capB n { r1 with xDone := decide (r1.xFin = r1.xNext), xFirst := fs } [] fun a t => k a t true 0)) (G14 capB n { r1 with xDone := decide (r1.xFin = r1.xNext), xFirst := fs } [] fun a t => k a t true 0)) (G14 capB n { r1 with xDone := decide (r1.xFin = r1.xNext), xFirst := fs } [] fun a t => k a t true 0)))) = k (tellE (inR r s)) (tellS (inR r s) (aheadL r s)) true 0 := by
     refine Eq.trans ?_ tail
     by_cases c : inX r s ≤ r.xNext
     ·rw [ct c]
      exact fin s.xVal true (by unfold stampR; rw [if_pos ⟨hst, c⟩]) (fun q => G16 capB n q (inX r s) s.xData _)
     ·rw [cf c]
      exact fin r.xRecent r.xStamp (by unfold stampR; rw [if_neg (fun z => c z.2)]) (fun q => G16 capB n q (inX r s) s.xData _)
    rcases Bool.eq_false_or_eq_true r.xStamp with hsp | hsp
    ·rw [cT hsp]
     by_cases c : sdiff r.xRecent s.xVal < 0
     ·rw [ct c, if_pos ⟨hst, hsp, c⟩, htell0]
     ·rw [cf c, if_neg (fun z => c z.2.2), cT hst]
      exact rest
    ·rw [cF hsp, if_neg (fun z => by rw [hsp] at z; cases z.2.1), cT hst]
     exact rest
   ·rw [hsd, Bool.not_false, cond_true, if_pos ⟨hst, rfl⟩]; rfl
  ·rw [cF hst, cF hst, cF hst, if_neg (fun z => by rw [hst] at z; cases z.1), if_neg (fun z => by rw [hst] at z; cases z.1)]
   refine Eq.trans ?_ tail
   refine fin r.xRecent r.xStamp ?_ (fun q => G16 capB n q (inX r s) s.xData _)
   unfold stampR; rw [if_neg (fun z => by rw [hst] at z; cases z.1)]
 ·intro no
  simp only [G6, s6_1, s6_4, s6_6, s6_8, s6_10, s6_12, s6_14, s6_17, s6_19, s6_21, s6_23, s6_25, s6_27]
  rw [(hc _).2 no, cnf (by omega)]; rfl
end
end
end Go.Proofs.Ytafnmkbehjbkdaa.M
