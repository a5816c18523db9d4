/- Pieces of a text that lie apart: where a byte is, laying a piece between them, what is not there. -/
import Derived.Test.YtafnmkbehjbkdaaATKit
set_option linter.unusedVariables false
set_option linter.unusedSimpArgs false
namespace Go.Proofs.Ytafnmkbehjbkdaa.M
open Go Go.RowKit
noncomputable section
def endP (p : SPiece) : Int := p.xFrom + (p.xData.length : Int)
def At : List SPiece → Int → Option Int
 | [], _ => none
 | p :: ps, t => if p.xFrom ≤ t ∧ t < endP p then p.xData[(t - p.xFrom).toNat]? else At ps t
def POk : Int → List SPiece → Prop
 | _, [] => True
 | lo, p :: ps => lo ≤ p.xFrom ∧ p.xData ≠ [] ∧ POk (endP p + 1) ps
def PW : Int → List SPiece → Prop
 | _, [] => True
 | lo, p :: ps => lo ≤ p.xFrom ∧ p.xData ≠ [] ∧ PW (endP p) ps
theorem len1 {l : List Int} (h : l ≠ []) : 1 ≤ (l.length : Int) := by cases l with
 | nil => exact absurd rfl h
 | cons a l => simp only [List.length_cons]; omega
theorem end_lt {p : SPiece} (h : p.xData ≠ []) : p.xFrom < endP p := by have := len1 h; unfold endP; omega
theorem POk.le {lo lo' : Int} (h : lo' ≤ lo) : ∀ {l : List SPiece}, POk lo l → POk lo' l
 | [], _ => trivial
 | x :: r, hh => ⟨by have := hh.1; omega, hh.2⟩
theorem PW.le {lo lo' : Int} (h : lo' ≤ lo) : ∀ {l : List SPiece}, PW lo l → PW lo' l
 | [], _ => trivial
 | x :: r, hh => ⟨by have := hh.1; omega, hh.2⟩
theorem POk.pw : ∀ {l : List SPiece} {lo : Int}, POk lo l → PW lo l
 | [], _, _ => trivial
 | x :: r, lo, h => ⟨h.1, h.2.1, (POk.pw h.2.2).le (by omega)⟩
theorem at_in {p : SPiece} {ps : List SPiece} {t : Int} (h : p.xFrom ≤ t ∧ t < endP p) : At (p :: ps) t = p.xData[(t - p.xFrom).toNat]? := by simp only [At]; rw [if_pos h]
theorem at_out {p : SPiece} {ps : List SPiece} {t : Int} (h : ¬ (p.xFrom ≤ t ∧ t < endP p)) : At (p :: ps) t = At ps t := by simp only [At]; rw [if_neg h]
theorem at_some {p : SPiece} {ps : List SPiece} {t : Int} (h : p.xFrom ≤ t ∧ t < endP p) : At (p :: ps) t ≠ none := by
 rw [at_in h]
 have : (t - p.xFrom).toNat < p.xData.length := by unfold endP at h; omega
 rw [List.getElem?_eq_getElem this]; simp
theorem PW_none : ∀ {l : List SPiece} {lo t : Int}, PW lo l → t < lo → At l t = none
 | [], _, _, _, _ => rfl
 | x :: r, lo, t, h, ht => by
  have := end_lt h.2.1
  have := h.1
  rw [at_out (by omega)]
  exact PW_none h.2.2 (by omega)
theorem POk_none {l : List SPiece} {lo t : Int} (h : POk lo l) (ht : t < lo) : At l t = none := PW_none h.pw ht
def mg (q : SPiece) : List SPiece → List SPiece
 | [] => [q]
 | p :: ps => if endP q = p.xFrom then mg ⟨q.xFrom, q.xData ++ p.xData⟩ ps else q :: mg p ps
theorem mg_ok : ∀ (ps : List SPiece) (q : SPiece) (lo : Int), PW lo (q :: ps) → POk lo (mg q ps) ∧ ∀ t, At (mg q ps) t = At (q :: ps) t
 | [], q, lo, h => ⟨⟨h.1, h.2.1, trivial⟩, fun _ => rfl⟩
 | p :: ps, q, lo, h => by
  obtain ⟨h1, h2, h3, h4, h5⟩ := h
  unfold mg
  by_cases c : endP q = p.xFrom
  ·rw [if_pos c]
   have he : endP ⟨q.xFrom, q.xData ++ p.xData⟩ = endP p := by
    unfold endP at c ⊢; simp only [List.length_append]; omega
   obtain ⟨i1, i2⟩ := mg_ok ps ⟨q.xFrom, q.xData ++ p.xData⟩ lo ⟨h1, by simp [h2], by rw [he]; exact h5⟩
   refine ⟨i1, fun t => ?_⟩
   rw [i2]
   have e1 := end_lt h2
   have e2 := end_lt h4
   by_cases c1 : q.xFrom ≤ t ∧ t < endP q
   ·rw [at_in (p := q) c1, at_in (by rw [he]; exact ⟨c1.1, by omega⟩)]
    exact List.getElem?_append_left (by unfold endP at c1; show (t - q.xFrom).toNat < _; omega)
   ·rw [at_out (p := q) c1]
    by_cases c2 : p.xFrom ≤ t ∧ t < endP p
    ·rw [at_in c2, at_in (by rw [he]; exact ⟨by show q.xFrom ≤ t; omega, c2.2⟩)]
     show (q.xData ++ p.xData)[(t - q.xFrom).toNat]? = _
     rw [List.getElem?_append_right (by unfold endP at c; omega)]
     congr 1
     unfold endP at c; omega
    ·rw [at_out c2, at_out (by rw [he]; show ¬ (q.xFrom ≤ t ∧ _); omega)]
  ·rw [if_neg c]
   obtain ⟨i1, i2⟩ := mg_ok ps p (endP q + 1) ⟨by omega, h4, h5⟩
   refine ⟨⟨h1, h2, i1⟩, fun t => ?_⟩
   by_cases c1 : q.xFrom ≤ t ∧ t < endP q
   ·rw [at_in c1, at_in c1]
   ·rw [at_out c1, at_out c1, i2]
def ins (p : SPiece) : List SPiece → List SPiece
 | [] => [p]
 | x :: r => if x.xFrom < p.xFrom then x :: ins p r else p :: x :: r
theorem ins_ok (p : SPiece) (hp : p.xData ≠ []) : ∀ (l : List SPiece) (lo lo' : Int), POk lo l → (∀ t, p.xFrom ≤ t → t < endP p → At l t = none) → lo' ≤ lo → lo' ≤ p.xFrom →
  PW lo' (ins p l) ∧ ∀ t, At (ins p l) t = if p.xFrom ≤ t ∧ t < endP p then p.xData[(t - p.xFrom).toNat]? else At l t
 | [], lo, lo', _, _, _, h2 => ⟨⟨h2, hp, trivial⟩, fun _ => rfl⟩
 | x :: r, lo, lo', h, hn, h1, h2 => by
  obtain ⟨g1, g2, g3⟩ := h
  have e1 := end_lt g2
  have e2 := end_lt hp
  unfold ins
  by_cases c : x.xFrom < p.xFrom
  ·rw [if_pos c]
   have hx : endP x ≤ p.xFrom := by
    rcases Int.lt_or_le p.xFrom (endP x) with d | d
    ·exact absurd (hn p.xFrom (Int.le_refl _) e2) (at_some ⟨by omega, d⟩)
    ·exact d
   obtain ⟨i1, i2⟩ := ins_ok p hp r (endP x + 1) (endP x) g3 (fun t a b => by rw [← hn t a b, at_out (by omega)]) (by omega) hx
   refine ⟨⟨by omega, g2, i1⟩, fun t => ?_⟩
   by_cases c1 : x.xFrom ≤ t ∧ t < endP x
   ·rw [at_in c1, if_neg (by omega), at_in c1]
   ·rw [at_out c1, i2, at_out c1]
  ·rw [if_neg c]
   have hx : endP p ≤ x.xFrom := by
    rcases Int.lt_or_le x.xFrom (endP p) with d | d
    ·exact absurd (hn x.xFrom (by omega) d) (at_some ⟨Int.le_refl _, e1⟩)
    ·exact d
   refine ⟨⟨h2, hp, hx, g2, g3.pw.le (by omega)⟩, fun t => ?_⟩
   simp only [At]
def putL (l : List SPiece) (p : SPiece) : List SPiece := match ins p l with
 | [] => []
 | q :: qs => mg q qs
theorem ins_cons (p : SPiece) : ∀ l, ∃ q qs, ins p l = q :: qs
 | [] => ⟨_, _, rfl⟩
 | x :: r => by unfold ins; split <;> exact ⟨_, _, rfl⟩
theorem putL_ok {p : SPiece} {l : List SPiece} {lo : Int} (hp : p.xData ≠ []) (h : POk lo l) (hn : ∀ t, p.xFrom ≤ t → t < endP p → At l t = none) (h2 : lo ≤ p.xFrom) :
  POk lo (putL l p) ∧ ∀ t, At (putL l p) t = if p.xFrom ≤ t ∧ t < endP p then p.xData[(t - p.xFrom).toNat]? else At l t := by
 obtain ⟨i1, i2⟩ := ins_ok p hp l lo lo h hn (Int.le_refl _) h2
 obtain ⟨q, qs, e⟩ := ins_cons p l
 unfold putL
 rw [e] at i1 i2 ⊢
 obtain ⟨j1, j2⟩ := mg_ok qs q lo i1
 exact ⟨j1, fun t => by rw [j2, i2]⟩
def spx (p : SPiece) : SSpan := ⟨p.xFrom, endP p⟩
def InS (t : Int) : List SSpan → Prop
 | [] => False
 | x :: r => (x.xFrom ≤ t ∧ t < x.xTo) ∨ InS t r
instance InS.dec (t : Int) : ∀ l, Decidable (InS t l)
 | [] => isFalse id
 | x :: r => by unfold InS; have := InS.dec t r; exact inferInstance
theorem InS_map (t : Int) : ∀ l : List SPiece, InS t (l.map spx) ↔ At l t ≠ none
 | [] => by simp [InS, At]
 | p :: ps => by
  show ((p.xFrom ≤ t ∧ t < endP p) ∨ InS t (ps.map spx)) ↔ _
  rw [InS_map t ps]
  by_cases c : p.xFrom ≤ t ∧ t < endP p
  ·exact ⟨fun _ => at_some c, fun _ => .inl c⟩
  ·rw [at_out c]; exact ⟨fun h => h.resolve_left c, .inr⟩
def GS : Int → List SSpan → Prop
 | _, [] => True
 | lo, g :: gs => lo ≤ g.xFrom ∧ g.xFrom < g.xTo ∧ GS g.xTo gs
theorem GS.le {lo lo' : Int} (h : lo' ≤ lo) : ∀ {l : List SSpan}, GS lo l → GS lo' l
 | [], _ => trivial
 | x :: r, hh => ⟨by have := hh.1; omega, hh.2⟩
theorem GS_in : ∀ {l : List SSpan} {lo t : Int}, GS lo l → InS t l → lo ≤ t
 | [], _, _, _, h => h.elim
 | x :: r, lo, t, h, g => by
  rcases g with g | g
  ·have := h.1; omega
  ·have := GS_in h.2.2 g; have := h.1; have := h.2.1; omega
theorem GS_map : ∀ {l : List SPiece} {lo : Int}, POk lo l → GS lo (l.map spx)
 | [], _, _ => trivial
 | p :: ps, lo, h => ⟨h.1, end_lt h.2.1, (GS_map h.2.2).le (by show endP p ≤ _; omega)⟩
def gapsL (fr to' : Int) : Int → List SSpan → List SSpan
 | a, [] => if a < to' then [⟨a, to'⟩] else []
 | a, x :: r => if max x.xFrom fr < min x.xTo to' then (if a < max x.xFrom fr then [⟨a, max x.xFrom fr⟩] else []) ++ gapsL fr to' (min x.xTo to') r else gapsL fr to' a r
theorem gaps_ok (fr to' : Int) : ∀ (l : List SSpan) (lo a : Int), GS lo l → fr ≤ a → a ≤ max lo fr → GS a (gapsL fr to' a l) ∧ (∀ t, InS t (gapsL fr to' a l) ↔ a ≤ t ∧ t < to' ∧ ¬ InS t l) ∧ ∀ g ∈ gapsL fr to' a l, g.xTo ≤ to'
 | [], lo, a, _, h1, h2 => by
  unfold gapsL
  by_cases c : a < to'
  ·rw [if_pos c]
   exact ⟨⟨Int.le_refl _, c, trivial⟩, fun t => by simp [InS], fun g hg => by rw [List.mem_singleton.1 hg]; exact Int.le_refl _⟩
  ·rw [if_neg c]
   exact ⟨trivial, fun t => ⟨fun h => h.elim, fun h => by omega⟩, fun g hg => by cases hg⟩
 | x :: r, lo, a, h, h1, h2 => by
  obtain ⟨g1, g2, g3⟩ := h
  unfold gapsL
  by_cases c : max x.xFrom fr < min x.xTo to'
  ·rw [if_pos c]
   obtain ⟨i1, i2, i3⟩ := gaps_ok fr to' r x.xTo (min x.xTo to') g3 (by omega) (by omega)
   have hin : ∀ t, a ≤ t → t < to' → (¬ InS t (x :: r) ↔ t < max x.xFrom fr ∨ (min x.xTo to' ≤ t ∧ ¬ InS t r)) := fun t u1 u2 => by
    constructor
    ·intro q
     rcases Int.lt_or_le t (max x.xFrom fr) with d | d
     ·exact .inl d
     ·have e : min x.xTo to' ≤ t := by
       rcases Int.lt_or_le t (min x.xTo to') with e | e
       ·exact absurd (Or.inl ⟨by omega, by omega⟩) q
       ·exact e
      exact .inr ⟨e, fun z => q (.inr z)⟩
    ·rintro (d | ⟨d, e⟩) (z | z)
     ·omega
     ·have := GS_in g3 z; omega
     ·omega
     ·exact e z
   by_cases c2 : a < max x.xFrom fr
   ·rw [if_pos c2]
    refine ⟨⟨Int.le_refl _, c2, i1.le (by show max x.xFrom fr ≤ _; omega)⟩, fun t => ?_, fun g hg => ?_⟩
    ·rw [List.singleton_append]
     show ((a ≤ t ∧ t < max x.xFrom fr) ∨ InS t (gapsL fr to' (min x.xTo to') r)) ↔ _
     rw [i2]
     constructor
     ·rintro (⟨u1, u2⟩ | ⟨u1, u2, u3⟩)
      ·exact ⟨u1, by omega, (hin t u1 (by omega)).2 (.inl u2)⟩
      ·exact ⟨by omega, u2, (hin t (by omega) u2).2 (.inr ⟨u1, u3⟩)⟩
     ·rintro ⟨u1, u2, u3⟩
      rcases (hin t u1 u2).1 u3 with d | d
      ·exact .inl ⟨u1, d⟩
      ·exact .inr ⟨d.1, u2, d.2⟩
    ·rcases List.mem_cons.1 hg with rfl | hg
     ·show max x.xFrom fr ≤ to'; omega
     ·exact i3 g hg
   ·rw [if_neg c2]
    refine ⟨i1.le (by omega), fun t => ?_, i3⟩
    show InS t (gapsL fr to' (min x.xTo to') r) ↔ _
    rw [i2]
    constructor
    ·rintro ⟨u1, u2, u3⟩
     exact ⟨by omega, u2, (hin t (by omega) u2).2 (.inr ⟨u1, u3⟩)⟩
    ·rintro ⟨u1, u2, u3⟩
     rcases (hin t u1 u2).1 u3 with d | d
     ·omega
     ·exact ⟨d.1, u2, d.2⟩
  ·rw [if_neg c]
   obtain ⟨i1, i2, i3⟩ := gaps_ok fr to' r x.xTo a g3 h1 (by omega)
   refine ⟨i1, fun t => ?_, i3⟩
   rw [i2]
   constructor
   ·rintro ⟨u1, u2, u3⟩
    refine ⟨u1, u2, ?_⟩
    rintro (z | z)
    ·omega
    ·exact u3 z
   ·rintro ⟨u1, u2, u3⟩
    exact ⟨u1, u2, fun z => u3 (.inr z)⟩
def slc (d : List Int) (x : Int) (g : SSpan) : List Int := List.take ((g.xTo - x).toNat - (g.xFrom - x).toNat) (d.drop (g.xFrom - x).toNat)
def fillL (x : Int) (d : List Int) : List SPiece → List SSpan → List SPiece
 | l, [] => l
 | l, g :: gs => fillL x d (putL l ⟨g.xFrom, slc d x g⟩) gs
theorem slc_len {d : List Int} {x : Int} {g : SSpan} (h1 : x ≤ g.xFrom) (h2 : g.xFrom ≤ g.xTo) (h3 : g.xTo ≤ x + d.length) : ((slc d x g).length : Int) = g.xTo - g.xFrom := by
 unfold slc; rw [List.length_take, List.length_drop]; omega
theorem slc_at {d : List Int} {x : Int} {g : SSpan} {t : Int} (h1 : x ≤ g.xFrom) (h3 : g.xTo ≤ x + d.length) (ht : g.xFrom ≤ t ∧ t < g.xTo) : (slc d x g)[(t - g.xFrom).toNat]? = d[(t - x).toNat]? := by
 unfold slc
 rw [List.getElem?_take, if_pos (by omega), List.getElem?_drop]
 congr 1; omega
theorem put_ok {x : Int} {d : List Int} {l : List SPiece} {g : SSpan} {lo : Int} (h : POk lo l) (h0 : lo ≤ g.xFrom) (h1 : x ≤ g.xFrom) (h2 : g.xFrom < g.xTo) (h3 : g.xTo ≤ x + d.length) (hn : ∀ t, g.xFrom ≤ t → t < g.xTo → At l t = none) :
  POk lo (putL l ⟨g.xFrom, slc d x g⟩) ∧ ∀ t, At (putL l ⟨g.xFrom, slc d x g⟩) t = if g.xFrom ≤ t ∧ t < g.xTo then d[(t - x).toNat]? else At l t := by
 have hlen := slc_len h1 (Int.le_of_lt h2) h3
 have he : endP ⟨g.xFrom, slc d x g⟩ = g.xTo := by unfold endP; simp only; omega
 obtain ⟨i1, i2⟩ := putL_ok (p := ⟨g.xFrom, slc d x g⟩) (by intro h; simp only at h; rw [h] at hlen; simp at hlen; omega) h (fun t u1 u2 => hn t u1 (by rw [he] at u2; exact u2)) h0
 refine ⟨i1, fun t => ?_⟩
 rw [i2, he]
 by_cases c : g.xFrom ≤ t ∧ t < g.xTo
 ·rw [if_pos c, if_pos c]; exact slc_at h1 h3 c
 ·rw [if_neg c, if_neg c]
theorem fillL_ok {x : Int} {d : List Int} {lo : Int} : ∀ {gs : List SSpan} {l : List SPiece} {a : Int}, POk lo l → GS a gs → lo ≤ a → x ≤ a → (∀ g ∈ gs, g.xTo ≤ x + d.length) → (∀ t, InS t gs → At l t = none) →
  POk lo (fillL x d l gs) ∧ ∀ t, At (fillL x d l gs) t = if InS t gs then d[(t - x).toNat]? else At l t
 | [], l, a, h, _, _, _, _, _ => ⟨h, fun t => rfl⟩
 | g :: gs, l, a, h, hg, h0, h1, h3, hn => by
  obtain ⟨g1, g2, g3⟩ := hg
  obtain ⟨i1, i2⟩ := put_ok (x := x) (d := d) (g := g) h (by omega) (by omega) g2 (h3 g List.mem_cons_self) (fun t u1 u2 => hn t (.inl ⟨u1, u2⟩))
  obtain ⟨j1, j2⟩ := fillL_ok (x := x) (d := d) (gs := gs) i1 g3 (by omega) (by omega) (fun y hy => h3 y (List.mem_cons_of_mem _ hy)) (fun t ht => by
   rw [i2, if_neg (by have := GS_in g3 ht; omega)]; exact hn t (.inr ht))
  refine ⟨j1, fun t => ?_⟩
  show At (fillL x d (putL l ⟨g.xFrom, slc d x g⟩) gs) t = if ((g.xFrom ≤ t ∧ t < g.xTo) ∨ InS t gs) then _ else _
  rw [j2, i2]
  by_cases c2 : InS t gs
  ·rw [if_pos c2, if_pos (show (g.xFrom ≤ t ∧ t < g.xTo) ∨ InS t gs from Or.inr c2)]
  ·rw [if_neg c2]
   by_cases c : g.xFrom ≤ t ∧ t < g.xTo
   ·rw [if_pos c, if_pos (show (g.xFrom ≤ t ∧ t < g.xTo) ∨ InS t gs from Or.inl c)]
   ·rw [if_neg c, if_neg (show ¬ ((g.xFrom ≤ t ∧ t < g.xTo) ∨ InS t gs) from fun z => z.elim c c2)]
theorem POk_hi : ∀ {l : List SPiece} {lo hi : Int}, POk lo l → (∀ t, At l t ≠ none → t < hi) → ∀ p ∈ l, endP p ≤ hi
 | [], _, _, _, _, p, hp => by cases hp
 | x :: r, lo, hi, h, hh, p, hp => by
  have e := end_lt h.2.1
  have hx : endP x ≤ hi := by
   have := hh (endP x - 1) (at_some ⟨by omega, by omega⟩); omega
  rcases List.mem_cons.1 hp with rfl | hp
  ·exact hx
  ·refine POk_hi h.2.2 (fun t ht => ?_) p hp
   refine hh t ?_
   by_cases c : x.xFrom ≤ t ∧ t < endP x
   ·exact at_some c
   ·rw [at_out c]; exact ht
theorem POk_from : ∀ {l : List SPiece} {lo : Int}, POk lo l → ∀ p ∈ l, lo ≤ p.xFrom ∧ p.xData ≠ []
 | [], _, _, p, hp => by cases hp
 | x :: r, lo, h, p, hp => by
  rcases List.mem_cons.1 hp with rfl | hp
  ·exact ⟨h.1, h.2.1⟩
  ·have := POk_from h.2.2 p hp
   have := end_lt h.2.1; have := h.1
   exact ⟨by omega, (POk_from h.2.2 p hp).2⟩
theorem PW_len : ∀ {l : List SPiece} {lo hi : Int}, PW lo l → (∀ p ∈ l, endP p ≤ hi) → lo ≤ hi → (l.length : Int) ≤ hi - lo
 | [], lo, hi, _, _, h => by simp only [List.length_nil]; omega
 | x :: r, lo, hi, h, hh, h0 => by
  have e := end_lt h.2.1
  have := h.1
  have := hh x List.mem_cons_self
  have := PW_len h.2.2 (fun p hp => hh p (List.mem_cons_of_mem _ hp)) (by omega)
  simp only [List.length_cons]; omega
end
end Go.Proofs.Ytafnmkbehjbkdaa.M
