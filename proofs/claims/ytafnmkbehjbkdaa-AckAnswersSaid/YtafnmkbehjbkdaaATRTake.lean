/- What a receiver takes. -/
import Derived.Test.YtafnmkbehjbkdaaATRPut
set_option linter.unusedVariables false
set_option linter.unusedSimpArgs false
namespace Go.Proofs.Ytafnmkbehjbkdaa.M
open Go Go.RowKit
noncomputable section
def oN (r : SRecv) : Int := match r.xLate with
 | p :: _ => if p.xFrom = r.xNext then endP p else r.xNext
 | [] => r.xNext
def oU (r : SRecv) : List Int := match r.xLate with
 | p :: _ => if p.xFrom = r.xNext then r.xUnread ++ p.xData else r.xUnread
 | [] => r.xUnread
def oL (r : SRecv) : List SPiece := match r.xLate with
 | p :: ps => if p.xFrom = r.xNext then ps else p :: ps
 | [] => []
def ordR (r : SRecv) : SRecv := { r with xNext := oN r, xUnread := oU r, xLate := oL r }
def Full (r : SRecv) : List SPiece := ⟨r.xNext - r.xUnread.length, r.xUnread⟩ :: r.xLate
theorem full_end (r : SRecv) : endP ⟨r.xNext - r.xUnread.length, r.xUnread⟩ = r.xNext := by unfold endP; simp only; omega
theorem ord_ok {r : SRecv} {hi : Int} (h : POk r.xNext r.xLate) (hh : ∀ p ∈ r.xLate, endP p ≤ hi) (hn : r.xNext ≤ hi) :
  POk ((ordR r).xNext + 1) (ordR r).xLate ∧ (∀ t, At (Full (ordR r)) t = At (Full r) t) ∧ r.xNext ≤ (ordR r).xNext ∧ (ordR r).xNext ≤ hi ∧ (∀ p ∈ (ordR r).xLate, endP p ≤ hi) ∧ (ordR r).xNext - ((ordR r).xUnread.length : Int) = r.xNext - r.xUnread.length := by
 unfold ordR
 cases hl : r.xLate with
 | nil =>
  have e1 : oN r = r.xNext := by unfold oN; rw [hl]
  have e2 : oU r = r.xUnread := by unfold oU; rw [hl]
  have e3 : oL r = [] := by unfold oL; rw [hl]
  rw [e1, e2, e3]
  exact ⟨trivial, fun t => by simp only [Full, hl], Int.le_refl _, hn, fun p hp => (by cases hp), rfl⟩
 | cons p ps =>
  rw [hl] at h hh
  obtain ⟨h1, h2, h3⟩ := h
  have ep := end_lt h2
  by_cases c : p.xFrom = r.xNext
  ·have e1 : oN r = endP p := by unfold oN; rw [hl]; exact if_pos c
   have e2 : oU r = r.xUnread ++ p.xData := by unfold oU; rw [hl]; exact if_pos c
   have e3 : oL r = ps := by unfold oL; rw [hl]; exact if_pos c
   rw [e1, e2, e3]
   refine ⟨h3, fun t => ?_, by show r.xNext ≤ endP p; omega, hh p List.mem_cons_self, fun q hq => hh q (List.mem_cons_of_mem _ hq), by show endP p - ((r.xUnread ++ p.xData).length : Int) = _; rw [List.length_append]; unfold endP; omega⟩
   simp only [Full, hl, List.length_append]
   have he : endP ⟨endP p - ((r.xUnread.length + p.xData.length : Nat) : Int), r.xUnread ++ p.xData⟩ = endP p := by unfold endP; simp only [List.length_append]; omega
   have he0 := full_end r
   have hb : endP p - ((r.xUnread.length + p.xData.length : Nat) : Int) = r.xNext - r.xUnread.length := by unfold endP; omega
   by_cases c1 : r.xNext - r.xUnread.length ≤ t ∧ t < r.xNext
   ·rw [at_in (by rw [he]; show endP p - _ ≤ t ∧ _; omega), at_in (by rw [he0]; exact c1)]
    show (r.xUnread ++ p.xData)[(t - (endP p - _)).toNat]? = r.xUnread[_]?
    rw [hb, List.getElem?_append_left (by omega)]
   ·rw [at_out (p := ⟨r.xNext - r.xUnread.length, r.xUnread⟩) (by rw [he0]; exact c1)]
    by_cases c2 : p.xFrom ≤ t ∧ t < endP p
    ·rw [at_in (by rw [he]; show endP p - _ ≤ t ∧ _; omega), at_in c2]
     show (r.xUnread ++ p.xData)[(t - (endP p - _)).toNat]? = _
     rw [hb, List.getElem?_append_right (by omega)]
     congr 1; omega
    ·rw [at_out (by rw [he]; show ¬ (endP p - _ ≤ t ∧ _); omega), at_out c2]
  ·have e1 : oN r = r.xNext := by unfold oN; rw [hl]; exact if_neg c
   have e2 : oU r = r.xUnread := by unfold oU; rw [hl]; exact if_neg c
   have e3 : oL r = p :: ps := by unfold oL; rw [hl]; exact if_neg c
   rw [e1, e2, e3]
   exact ⟨⟨by show r.xNext + 1 ≤ _; omega, h2, h3⟩, fun t => by simp only [Full, hl], Int.le_refl _, hn, hh, rfl⟩
def takeE (r : SRecv) (x : Int) (d : List Int) : Int := if 0 ≤ r.xFin then min (min (x + d.length) (lim r)) r.xFin else min (x + d.length) (lim r)
def takeG (r : SRecv) (x : Int) (d : List Int) : List SSpan := if max x r.xNext < takeE r x d then gapsL (max x r.xNext) (takeE r x d) (max x r.xNext) (r.xLate.map spx) else []
def takeR (r : SRecv) (x : Int) (d : List Int) : SRecv := ordR { r with xLate := fillL x d r.xLate (takeG r x d) }
def Mid (r : SRecv) : Prop := Base r ∧ Lie (r.xNext + 1) (lim r) r.xLate ∧ -1 ≤ r.xFin ∧ r.xFin ≤ 562949953421312 ∧ (0 ≤ r.xFin → r.xNext ≤ r.xFin ∧ ∀ p ∈ r.xLate, endP p ≤ r.xFin)
theorem mid_rn {r : SRecv} (h : Base r) : Rn r.xNext (lim r) := by
 obtain ⟨h1, h2, h3, h4, h5, h6, h7, h8⟩ := h
 unfold Rn lim; omega
theorem takeE_le {r : SRecv} {x : Int} {d : List Int} : takeE r x d ≤ x + d.length ∧ takeE r x d ≤ lim r ∧ (0 ≤ r.xFin → takeE r x d ≤ r.xFin) := by unfold takeE; split <;> omega
theorem takeG_ok {r : SRecv} (h : Mid r) (x : Int) (d : List Int) : GS (max x r.xNext) (takeG r x d) ∧ (∀ t, InS t (takeG r x d) ↔ max x r.xNext ≤ t ∧ t < takeE r x d ∧ At r.xLate t = none) ∧ ∀ g ∈ takeG r x d, g.xTo ≤ takeE r x d := by
 unfold takeG
 obtain ⟨hb, ⟨h1, h2⟩, h3⟩ := h
 by_cases c : max x r.xNext < takeE r x d
 ·rw [if_pos c]
  obtain ⟨i1, i2, i3⟩ := gaps_ok (max x r.xNext) (takeE r x d) (r.xLate.map spx) (r.xNext + 1) (max x r.xNext) (GS_map h1) (Int.le_refl _) (by omega)
  refine ⟨i1, fun t => ?_, i3⟩
  rw [i2, InS_map]
  constructor
  ·rintro ⟨a, b, e⟩; exact ⟨a, b, Decidable.not_not.1 e⟩
  ·rintro ⟨a, b, e⟩; exact ⟨a, b, fun z => z e⟩
 ·rw [if_neg c]
  exact ⟨trivial, fun t => ⟨fun z => z.elim, fun z => by omega⟩, fun g hg => by cases hg⟩
theorem fill_take {r : SRecv} (h : Mid r) (x : Int) (d : List Int) : POk r.xNext (fillL x d r.xLate (takeG r x d)) ∧ ∀ t, At (fillL x d r.xLate (takeG r x d)) t = if max x r.xNext ≤ t ∧ t < takeE r x d ∧ At r.xLate t = none then d[(t - x).toNat]? else At r.xLate t := by
 obtain ⟨g1, g2, g3⟩ := takeG_ok h x d
 have e := takeE_le (r := r) (x := x) (d := d)
 obtain ⟨j1, j2⟩ := fillL_ok (x := x) (d := d) (lo := r.xNext) (h.2.1.1.le (by omega)) g1 (by omega) (by omega) (fun g hg => by have := g3 g hg; omega) (fun t ht => ((g2 t).1 ht).2.2)
 refine ⟨j1, fun t => ?_⟩
 rw [j2]
 by_cases c : InS t (takeG r x d)
 ·rw [if_pos c, if_pos ((g2 t).1 c)]
 ·rw [if_neg c, if_neg fun z => c ((g2 t).2 z)]
theorem fill_le {r : SRecv} (h : Mid r) (x : Int) (d : List Int) : ∀ p ∈ fillL x d r.xLate (takeG r x d), endP p ≤ lim r ∧ (0 ≤ r.xFin → endP p ≤ r.xFin) := fun p hp => by
 obtain ⟨f1, f2⟩ := fill_take h x d
 have e := takeE_le (r := r) (x := x) (d := d)
 have hat : ∀ t, At r.xLate t ≠ none → ∃ q ∈ r.xLate, t < endP q := by
  intro t
  induction r.xLate with
  | nil => intro z; exact absurd rfl z
  | cons q qs ih =>
   intro z
   by_cases c : q.xFrom ≤ t ∧ t < endP q
   ·exact ⟨q, List.mem_cons_self, c.2⟩
   ·rw [at_out c] at z
    obtain ⟨y, hy, e⟩ := ih z
    exact ⟨y, List.mem_cons_of_mem _ hy, e⟩
 constructor
 ·refine POk_hi f1 (fun t ht => ?_) p hp
  rw [f2] at ht
  split at ht
  ·omega
  ·obtain ⟨q, hq, c⟩ := hat t ht
   have := h.2.1.2 q hq; omega
 ·intro hf
  refine POk_hi f1 (fun t ht => ?_) p hp
  rw [f2] at ht
  split at ht
  ·have := e.2.2 hf; omega
  ·obtain ⟨q, hq, c⟩ := hat t ht
   have := (h.2.2.2.2 hf).2 q hq; omega
theorem take_ok {r : SRecv} (h : Mid r) (x : Int) (d : List Int) : Mid (takeR r x d) ∧ lim (takeR r x d) = lim r ∧ r.xNext ≤ (takeR r x d).xNext ∧ (takeR r x d).xNext - ((takeR r x d).xUnread.length : Int) = r.xNext - r.xUnread.length ∧
  ∀ t, At (Full (takeR r x d)) t = if max x r.xNext ≤ t ∧ t < takeE r x d ∧ At (Full r) t = none then d[(t - x).toNat]? else At (Full r) t := by
 obtain ⟨f1, f2⟩ := fill_take h x d
 have fl := fill_le h x d
 have hb := h.1
 have hrn := mid_rn hb
 obtain ⟨r1, r2, r3, r4⟩ := hrn
 obtain ⟨o1, o2, o3, o4, o5, o6⟩ := ord_ok (r := { r with xLate := fillL x d r.xLate (takeG r x d) }) (hi := lim r) f1 (fun p hp => (fl p hp).1) r2
 have of : 0 ≤ r.xFin → (takeR r x d).xNext ≤ r.xFin ∧ ∀ p ∈ (takeR r x d).xLate, endP p ≤ r.xFin := fun hf => by
  obtain ⟨_, _, _, p4, p5, _⟩ := ord_ok (r := { r with xLate := fillL x d r.xLate (takeG r x d) }) (hi := r.xFin) f1 (fun p hp => (fl p hp).2 hf) (h.2.2.2.2 hf).1
  exact ⟨p4, p5⟩
 have o3' : r.xNext ≤ (takeR r x d).xNext := o3
 have o6' : (takeR r x d).xNext - ((takeR r x d).xUnread.length : Int) = r.xNext - r.xUnread.length := o6
 have o4' : (takeR r x d).xNext ≤ lim r := o4
 have hlim : lim (takeR r x d) = lim r := by
  show min ((takeR r x d).xNext - ((takeR r x d).xUnread.length : Int) + r.xCap) _ = min (r.xNext - r.xUnread.length + r.xCap) _
  rw [o6']
 obtain ⟨b1, b2, b3, b4, b5, b6, b7, b8⟩ := hb
 have hl2 : lim r ≤ r.xNext - r.xUnread.length + r.xCap := by unfold lim; omega
 refine ⟨⟨⟨by omega, by omega, b3, b4, b5, b6, ?_, by omega⟩, ⟨o1, by rw [hlim]; exact o5⟩, h.2.2.1, h.2.2.2.1, of⟩, hlim, o3', o6', fun t => ?_⟩
 ·show ((takeR r x d).xUnread.length : Int) ≤ r.xCap
  omega
 ·rw [show At (Full (takeR r x d)) t = _ from o2 t]
  by_cases c : r.xNext - r.xUnread.length ≤ t ∧ t < r.xNext
  ·have c' : ∀ ps, At (⟨r.xNext - r.xUnread.length, r.xUnread⟩ :: ps) t = r.xUnread[(t - (r.xNext - r.xUnread.length)).toNat]? := fun ps => at_in (by rw [full_end]; exact c)
   rw [if_neg (by omega)]
   show At (⟨r.xNext - r.xUnread.length, r.xUnread⟩ :: _) t = At (⟨r.xNext - r.xUnread.length, r.xUnread⟩ :: _) t
   rw [c', c']
  ·have c' : ∀ ps, At (⟨r.xNext - r.xUnread.length, r.xUnread⟩ :: ps) t = At ps t := fun ps => at_out (by rw [full_end]; exact c)
   have k2 : At (Full r) t = At r.xLate t := c' _
   have k1 : At (Full { r with xLate := fillL x d r.xLate (takeG r x d) }) t = At (fillL x d r.xLate (takeG r x d)) t := c' _
   simp only [k2]
   rw [k1, f2]
section
variable {R : Type} {F : Nat}
theorem rows_l (n : Nat) (r r1 : SRecv) (x : Int) (d : List Int) (e : Int) (hl : r.xLate.length ≤ 1073741824) (hs : ∀ p ∈ r.xLate, wr .i64 (p.xFrom + (p.xData.length : Int)) = endP p) : ∀ (rest : List SPiece) (m i : Nat) (out : List SSpan) (ke : List SSpan → Option R), r.xLate.drop i = rest → rest.length < m → i ≤ r.xLate.length → out.length ≤ i →
  l16_38 capB (n + 1) m r1 x d e r (r.xLate.length : Int) (i : Int) out ke = ke (out ++ rest.map spx)
 | [], m, i, out, ke, hd, hm, hi, ho => by
  obtain ⟨m, rfl⟩ : ∃ m', m = m' + 1 := ⟨m - 1, by omega⟩
  have := drop_nil hd
  simp only [l16_38, G16, s16_1, s16_3, s16_7, s16_9, s16_12, s16_14, s16_16, s16_22, s16_23, s16_26, s16_28, s16_30, s16_31, s16_34, s16_36, s16_39, s16_41, s16_43, s16_46, s16_48, s16_50, s16_51, s16_53, s16_55, s16_57, s16_63, s16_65, s16_67, s16_68, s16_69, s16_72, s16_73, s16_78, s16_80, s16_82, s16_83, s16_86, s16_88, s16_90, s16_92, s16_94]
  rw [cf (by omega)]; simp
 | p :: rest, m, i, out, ke, hd, hm, hi, ho => by
  obtain ⟨m, rfl⟩ : ∃ m', m = m' + 1 := ⟨m - 1, by omega⟩
  obtain ⟨h1, h2⟩ := drop_lt hd
  simp only [List.length_cons] at hm
  have hp := hs p (List.mem_of_mem_drop (by rw [hd]; exact List.mem_cons_self))
  simp only [l16_38, G16, s16_1, s16_3, s16_7, s16_9, s16_12, s16_14, s16_16, s16_22, s16_23, s16_26, s16_28, s16_30, s16_31, s16_34, s16_36, s16_39, s16_41, s16_43, s16_46, s16_48, s16_50, s16_51, s16_53, s16_55, s16_57, s16_63, s16_65, s16_67, s16_68, s16_69, s16_72, s16_73, s16_78, s16_80, s16_82, s16_83, s16_86, s16_88, s16_90, s16_92, s16_94, G42]
  rw [ct (show (i : Int) < _ by omega), ct (show (0 : Int) ≤ i by omega), ct (show (i : Int) < _ by omega), rd_at hd, hp, cap_ok (by simp only [List.length_cons, List.length_nil]; omega), succ_w (by omega),
   rows_l n r r1 x d e hl hs rest m (i + 1) _ ke h2 (by omega) (by omega) (by simp; omega)]
  simp [spx]
theorem take1_F (h : 4294967220 ≤ F) (r : SRecv) (x : Int) (d : List Int) (b : Bool) (g : SSpan) (k : SRecv → Int → List Int → Bool → Option R) (lo hi : Int) (hr : Rn lo hi) (ok : Lie lo hi r.xLate) (hx : -1125899906842624 ≤ x) (h0 : lo ≤ g.xFrom) (h1 : x ≤ g.xFrom) (h2 : g.xFrom < g.xTo) (h3 : g.xTo ≤ x + d.length) (h4 : g.xTo ≤ hi)
  (hn : ∀ t, g.xFrom ≤ t → t < g.xTo → At r.xLate t = none) : G1036 capB F g r x d b k = k { r with xLate := putL r.xLate ⟨g.xFrom, slc d x g⟩ } x d true := by
 obtain ⟨n, rfl⟩ : ∃ n, F = n + 1 := ⟨F - 1, by omega⟩
 obtain ⟨r1, r2, r3, r4⟩ := hr
 have hlen := slc_len h1 (Int.le_of_lt h2) h3
 have he : endP ⟨g.xFrom, slc d x g⟩ = g.xTo := by unfold endP; simp only; omega
 simp only [G1036]
 rw [w64_id (n := g.xFrom - x) (by omega) (by omega), w64_id (n := g.xTo - x) (by omega) (by omega), ct (by omega), ct (by omega), ct (by omega)]
 exact Put_F (by omega) r.xLate ⟨g.xFrom, slc d x g⟩ _ lo hi ⟨r1, r2, r3, r4⟩ ok (by intro h; simp only at h; rw [h] at hlen; simp at hlen; omega) h0 (by rw [he]; exact h4) (fun t u1 u2 => hn t u1 (by rw [he] at u2; exact u2))
theorem fill_l (n : Nat) (hn : 4294967220 ≤ n) (x : Int) (d : List Int) (gs : List SSpan) (hg : gs.length ≤ 4611686018427387904) (lo hi : Int) (hr : Rn lo hi) (hx : -1125899906842624 ≤ x) : ∀ (rest : List SSpan) (m i : Nat) (r : SRecv) (b : Bool) (a : Int) (ke : SRecv → Bool → Option R), gs.drop i = rest → rest.length < m → i ≤ gs.length →
  Lie lo hi r.xLate → GS a rest → lo ≤ a → x ≤ a → (∀ g ∈ rest, g.xTo ≤ x + d.length ∧ g.xTo ≤ hi) → (∀ t, InS t rest → At r.xLate t = none) →
  l16_62 capB n m gs (gs.length : Int) (i : Int) r x d b ke = ke { r with xLate := fillL x d r.xLate rest } (b || !rest.isEmpty)
 | [], m, i, r, b, a, ke, hd, hm, hi', ok, hs, h0, h1, h3, hno => by
  obtain ⟨m, rfl⟩ : ∃ m', m = m' + 1 := ⟨m - 1, by omega⟩
  have := drop_nil hd
  simp only [l16_62, G16, s16_1, s16_3, s16_7, s16_9, s16_12, s16_14, s16_16, s16_22, s16_23, s16_26, s16_28, s16_30, s16_31, s16_34, s16_36, s16_39, s16_41, s16_43, s16_46, s16_48, s16_50, s16_51, s16_53, s16_55, s16_57, s16_63, s16_65, s16_67, s16_68, s16_69, s16_72, s16_73, s16_78, s16_80, s16_82, s16_83, s16_86, s16_88, s16_90, s16_92, s16_94]
  rw [cf (by omega)]
  simp [fillL]
 | g :: rest, m, i, r, b, a, ke, hd, hm, hi', ok, hs, h0, h1, h3, hno => by
  obtain ⟨m, rfl⟩ : ∃ m', m = m' + 1 := ⟨m - 1, by omega⟩
  obtain ⟨p1, p2⟩ := drop_lt hd
  simp only [List.length_cons] at hm
  obtain ⟨s1, s2, s3⟩ := hs
  obtain ⟨u1, u2⟩ := h3 g List.mem_cons_self
  have hng : ∀ t, g.xFrom ≤ t → t < g.xTo → At r.xLate t = none := fun t a b => hno t (.inl ⟨a, b⟩)
  obtain ⟨q1, q2⟩ := put_ok (x := x) (d := d) (g := g) ok.1 (by omega) (by omega) s2 u1 hng
  have hat : ∀ t, At r.xLate t ≠ none → t < hi := by
   have := ok.2
   intro t
   revert this
   induction r.xLate with
   | nil => intro _ z; exact absurd rfl z
   | cons q qs ih =>
    intro hh z
    by_cases c : q.xFrom ≤ t ∧ t < endP q
    ·have := hh q List.mem_cons_self; omega
    ·rw [at_out c] at z
     exact ih (fun y hy => hh y (List.mem_cons_of_mem _ hy)) z
  have q3 : ∀ p ∈ putL r.xLate ⟨g.xFrom, slc d x g⟩, endP p ≤ hi := POk_hi q1 (fun t ht => by
   rw [q2] at ht
   split at ht
   ·omega
   ·exact hat t ht)
  simp only [l16_62, s16_57]
  rw [ct (show (i : Int) < _ by omega), ct (show (0 : Int) ≤ i by omega), ct (show (i : Int) < _ by omega), rd_at hd, take1_F hn r x d b g _ lo hi hr ok hx (by omega) (by omega) s2 u1 u2 hng, succ_w (by omega)]
  rw [fill_l n hn x d gs hg lo hi hr hx rest m (i + 1) { r with xLate := putL r.xLate ⟨g.xFrom, slc d x g⟩ } true g.xTo ke p2 (by omega) (by omega) ⟨q1, q3⟩ s3 (by omega) (by omega) (fun y hy => h3 y (List.mem_cons_of_mem _ hy)) (fun t ht => by
   show At (putL _ _) t = none
   rw [q2, if_neg (by have := GS_in s3 ht; omega)]; exact hno t (.inr ht))]
  simp [fillL]
end
end
end Go.Proofs.Ytafnmkbehjbkdaa.M
