/- The law RecvReads: what is read, and told then, is what the document says. -/
import Derived.Test.YtilmdmjhdidoiaaDTRRef
import Derived.Test.YtilmdmjhdidoiaaDTRHeads
import Derived.Test.YtilmdmjhdidoiaaPuRecvReads
set_option linter.unusedVariables false
set_option linter.unusedSimpArgs false
namespace Go.Proofs.Ytilmdmjhdidoiaa.M
open Go Go.RowKit
noncomputable section
section
variable {R : Type} {F : Nat}
theorem Window_F (h : 7 ≤ F) (r : SRecv) (k : Int → Option R) (hz : Fits (F - 6) r) : (RecvOk r → G22 capB F r k = k (room r)) ∧ (¬ RecvOk r → G22 capB F r k = k 0) := by
 obtain ⟨n, rfl⟩ : ∃ n, F = n + 1 := ⟨F - 1, by omega⟩
 have hz1 : Fits (n - 5) r := ⟨hz.1, hz.2.1, hz.2.2.1, hz.2.2.2.1, by have := hz.2.2.2.2; omega⟩
 have hc := fun k => Check_F (R := R) (F := n) (by omega) r k hz1
 simp only [G22]
 exact ⟨fun ok => by rw [(hc _).1 ok, cnt rfl, window_F (by omega) _ _ ok.1], fun no => by rw [(hc _).2 no, cnf (by omega)]⟩
theorem rWindow_F (h : 7 ≤ F) (r : SRecv) (k : Int → Option R) (hz : Fits (F - 6) r) : (RecvOk r → G26 capB F r k = k (room r)) ∧ (¬ RecvOk r → G26 capB F r k = k 0) := by
 obtain ⟨n, rfl⟩ : ∃ n, F = n + 1 := ⟨F - 1, by omega⟩
 have hz1 : Fits (n - 5) r := ⟨hz.1, hz.2.1, hz.2.2.1, hz.2.2.2.1, by have := hz.2.2.2.2; omega⟩
 have hc := fun k => rCheck_F (R := R) (F := n) (by omega) r k hz1
 simp only [G26]
 exact ⟨fun ok => by rw [(hc _).1 ok, cnt rfl, rwindow_F (by omega) _ _ ok.1], fun no => by rw [(hc _).2 no, cnf (by omega)]⟩
theorem Tell_F (h : 7 ≤ F) (r : SRecv) (k : SRecv → SSegment → Option R) (hz : Fits (F - 6) r) : (RecvOk r → G23 capB F r k = k (tellE r) (tellS r [])) ∧ (¬ RecvOk r → G23 capB F r k = k noS noSeg) := by
 obtain ⟨n, rfl⟩ : ∃ n, F = n + 1 := ⟨F - 1, by omega⟩
 have hz1 : ∀ q, n - 5 ≤ q → Fits q r := fun q hq => ⟨hz.1, hz.2.1, hz.2.2.1, hz.2.2.2.1, by have := hz.2.2.2.2; omega⟩
 have hc := fun k => Check_F (R := R) (F := n) (by omega) r k (hz1 _ (by omega))
 simp only [G23]
 exact ⟨fun ok => by rw [(hc _).1 ok, cnt rfl, copied_F (by omega) _ _ (hz1 _ (by omega)), tell_F (by omega) _ _ _ ok (hz1 _ (by omega))], fun no => by rw [(hc _).2 no, cnf (by omega)]; rfl⟩
theorem rTell_F (h : 7 ≤ F) (r : SRecv) (k : SRecv → SSegment → Option R) (hz : Fits (F - 6) r) (hirs : 0 ≤ r.xIrs ∧ r.xIrs < 4294967296) : (RecvOk r → G25 capB F r k = k (tellE r) (tellS r [])) ∧ (¬ RecvOk r → G25 capB F r k = k noS noSeg) := by
 obtain ⟨n, rfl⟩ : ∃ n, F = n + 1 := ⟨F - 1, by omega⟩
 have hz1 : ∀ q, n - 5 ≤ q → Fits q r := fun q hq => ⟨hz.1, hz.2.1, hz.2.2.1, hz.2.2.2.1, by have := hz.2.2.2.2; omega⟩
 have hc := fun k => rCheck_F (R := R) (F := n) (by omega) r k (hz1 _ (by omega))
 simp only [G25]
 exact ⟨fun ok => by rw [(hc _).1 ok, cnt rfl, rtell_F (by omega) _ _ _ ok (hz1 _ (by omega)) hirs], fun no => by rw [(hc _).2 no, cnf (by omega)]; rfl⟩
theorem rRead_F (h : 10 ≤ F) (r : SRecv) (m : Int) (k : SRecv → List Int → SSegment → Bool → Int → Option R) (hz : Fits (F - 9) r) (hirs : 0 ≤ r.xIrs ∧ r.xIrs < 4294967296) :
  (RecvOk r → G24 capB F r m k = if r.xNext + room (readR r m) - r.xEdge < max (r.xCap / 2) 1 then k (readR r m) (r.xUnread.take (readN r m)) noSeg false 0 else k (tellE (readR r m)) (r.xUnread.take (readN r m)) (tellS (readR r m) []) true 0) ∧
  (¬ RecvOk r → G24 capB F r m k = k noS [] noSeg false 230) := by
 obtain ⟨n, rfl⟩ : ∃ n, F = n + 1 := ⟨F - 1, by omega⟩
 have hz1 : ∀ q, n - 8 ≤ q → Fits q r := fun q hq => ⟨hz.1, hz.2.1, hz.2.2.1, hz.2.2.2.1, by have := hz.2.2.2.2; omega⟩
 have hz0 := hz
 obtain ⟨z1, z2, z3, z4, z5⟩ := hz0
 have hc := fun k => rCheck_F (R := R) (F := n) (by omega) r k (hz1 _ (by omega))
 simp only [G24]
 constructor
 ·intro ok
  have hr := ok.read m
  have hl := readN_le r m
  have hN : mn (mx m 0) (r.xUnread.length : Int) = ((readN r m : Nat) : Int) := by rw [mn_min, mx_max]; unfold readN; omega
  rw [(hc _).1 ok, cnt rfl, rCopy_F (by omega) r _ (hz1 _ (by omega)), hN, ct (by omega), ct (by omega), Int.toNat_natCast, List.nil_append, cap_ok (by rw [List.length_take]; simp only [List.length_nil]; omega), ct (by omega), ct (by omega)]
  have hd : List.take (r.xUnread.length - readN r m) (r.xUnread.drop (readN r m)) = r.xUnread.drop (readN r m) := List.take_of_length_le (by rw [List.length_drop]; omega)
  rw [hd]
  have hwd : ∀ k : Int → Option R, G50 capB n (SRecv.mk r.xNext (r.xUnread.drop (readN r m)) r.xLate r.xCap r.xShift r.xEdge r.xRecent r.xStamps r.xSacks r.xFin r.xDone r.xFirst r.xIrs r.xOwn r.xStamp) k = k (room (readR r m)) := fun k => rwindow_F (by omega) (readR r m) k hr.1
  have htl : ∀ k : SRecv → SSegment → Option R, G41 capB n (SRecv.mk r.xNext (r.xUnread.drop (readN r m)) r.xLate r.xCap r.xShift r.xEdge r.xRecent r.xStamps r.xSacks r.xFin r.xDone r.xFirst r.xIrs r.xOwn r.xStamp) [] k = k (tellE (readR r m)) (tellS (readR r m) []) := fun k => rtell_F (by omega) (readR r m) [] k hr ((hz1 _ (by omega)).read m) hirs
  rw [hwd, htl, mx_max]
  have hw := room_le hr.1
  obtain ⟨⟨b1, b2, b3, b4, b5, b6, b7, b8⟩, e1, e2, _⟩ := ok
  have hcp : (readR r m).xCap = r.xCap := rfl
  rw [hcp] at hw
  rw [Int.tdiv_eq_ediv_of_nonneg (by omega), w64_id (n := r.xCap / 2) (by omega) (by omega), w64_id (n := r.xNext + _) (by omega) (by omega), w64_id (n := r.xNext + _ - _) (by omega) (by omega)]
  by_cases c : max (r.xCap / 2) 1 ≤ r.xNext + room (readR r m) - r.xEdge
  ·rw [ct c, if_neg (by omega)]
  ·rw [cf c, if_pos (by omega)]; rfl
 ·intro no
  rw [(hc _).2 no, cnf (by omega)]; rfl
end
theorem law_RecvReads : LawRecvReads.Pure := by
 intro M r m h0 h1
 obtain ⟨i1, ⟨_, i2, _, _⟩, ⟨_, i3, _, i4⟩, _, _, _, i5, _, _, _, _, ⟨_, i6, _, _⟩, i7, _⟩ := h0
 have j0 := i7.u32
 have hirs : 0 ≤ r.xIrs ∧ r.xIrs < 4294967296 := by omega
 obtain ⟨N, hN⟩ : ∃ N, N = r.xLate.length + r.xFirst.length + 1 := ⟨_, rfl⟩
 have hz : ∀ n, N ≤ n → Fits n r := fun n hn => ⟨fun p hp => by have := (i4 p hp).2.2.1; omega, by omega, by omega, by omega, by omega⟩
 refine ⟨N + 61, fun R k => ?_⟩
 obtain ⟨F, hF⟩ : ∃ F, F = N + 60 := ⟨_, rfl⟩
 have hh : ∀ k : Bool → Option R, G11 capB F k = k true := fun k => by
  obtain ⟨j, hj⟩ : ∃ j, F = j + 40 := ⟨N + 20, by omega⟩
  rw [hj]; exact heads08 j k
 rw [show N + 61 = F + 1 by omega]
 have hrd := fun k => Read_F (R := R) (F := F) (by omega) r m k (hz _ (by omega))
 have hrr := fun k => rRead_F (R := R) (F := F) (by omega) r m k (hz _ (by omega)) hirs
 have htl := fun k => Tell_F (R := R) (F := F) (by omega) r k (hz _ (by omega))
 have htr := fun k => rTell_F (R := R) (F := F) (by omega) r k (hz _ (by omega)) hirs
 have hw := fun k => Window_F (R := R) (F := F) (by omega) r k (hz _ (by omega))
 have hwr := fun k => rWindow_F (R := R) (F := F) (by omega) r k (hz _ (by omega))
 have hsm : ∀ (xs : List Int) (k : Bool → Option R), G21 capB F xs xs k = k true := fun xs k => by
  obtain ⟨j, hj⟩ : ∃ j, F = j + 1 := ⟨F - 1, by omega⟩
  rw [hj]; exact Same02_k j xs k
 have core : ∀ (a : SRecv) (x : List Int) (t : SSegment) (b : Bool) (e : Int) (c : SRecv) (v : SSegment) (q : Int), Fits (F - 2) a → Fits (F - 2) c → t.xSacks.length ≤ 4 → v.xSacks.length ≤ 4 → (∀ k : Int → Option R, G22 capB F r k = k q) → (∀ k : Int → Option R, G26 capB F r k = k q) →
   G14 capB F a a (fun r56 => cond r56 (G21 capB F x x fun r57 => cond r57 (G15 capB F t t fun r58 => cond r58 (cond (b == b) (cond (decide (e = e)) (G14 capB F c c fun r59 => cond r59 (G15 capB F v v fun r60 => cond r60 (G22 capB F r fun r63 => G26 capB F r fun r66 => cond (decide (r63 = r66)) (G11 capB F fun r117 => k r117) (k false)) (k false)) (k false)) (k false)) (k false)) (k false)) (k false)) (k false)) = k true := by
  intro a x t b e c v q ha hc ht hv h1 h2
  rw [Same08_F (by omega) a _ ha, cond_true, hsm, cond_true, Told_F (by omega) t _ (by omega) (by omega), cond_true, beq_self_eq_true, cond_true, ct rfl, Same08_F (by omega) c _ hc, cond_true, Told_F (by omega) v _ (by omega) (by omega), cond_true, h1, h2, ct rfl, hh]
 simp only [G9, s9_1, s9_3, s9_5, s9_7, s9_9]
 by_cases ok : RecvOk r
 ·have z1 := (hz (F - 2) (by omega)).read m
  have z2 := (hz (F - 2) (by omega)).tell
  have t0 : noSeg.xSacks.length ≤ 4 := Nat.zero_le _
  have t1 := tellS_len (readR r m) [] (by simp)
  have t2 := tellS_len r [] (by simp)
  rw [(hrd _).1 ok]
  by_cases c : r.xNext + room (readR r m) - r.xEdge < max (r.xCap / 2) 1
  ·rw [if_pos c, (hrr _).1 ok, if_pos c, (htl _).1 ok, (htr _).1 ok]
   exact core _ _ _ _ _ _ _ _ z1 z2 t0 t2 (fun k => (hw k).1 ok) (fun k => (hwr k).1 ok)
  ·rw [if_neg c, (hrr _).1 ok, if_neg c, (htl _).1 ok, (htr _).1 ok]
   exact core _ _ _ _ _ _ _ _ z1.tell z2 t1 t2 (fun k => (hw k).1 ok) (fun k => (hwr k).1 ok)
 ·have zn : Fits (F - 2) noS := ⟨fun p hp => (by cases hp), by show 0 * 32 ≤ _; omega, by show 0 * 16 ≤ _; omega, by show 0 ≤ _; omega, by show 0 + 0 < F - 2; omega⟩
  have t0 : noSeg.xSacks.length ≤ 4 := Nat.zero_le _
  rw [(hrd _).2 ok, (hrr _).2 ok, (htl _).2 ok, (htr _).2 ok]
  exact core _ _ _ _ _ _ _ _ zn zn t0 t0 (fun k => (hw k).2 ok) (fun k => (hwr k).2 ok)
end
end Go.Proofs.Ytilmdmjhdidoiaa.M
