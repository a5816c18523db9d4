/- The receiver: its window, a fresh one, when two are the same. -/
import Derived.Test.YtafnmkbehjbkdaaATKit
set_option linter.unusedVariables false
set_option linter.unusedSimpArgs false
namespace Go.Proofs.Ytafnmkbehjbkdaa.M
open Go Go.RowKit
noncomputable section
theorem p2 (t : Nat) (h : t ≤ 14) : (2 : Int) ^ t = 1 ∨ (2 : Int) ^ t = 2 ∨ (2 : Int) ^ t = 4 ∨ (2 : Int) ^ t = 8 ∨ (2 : Int) ^ t = 16 ∨ (2 : Int) ^ t = 32 ∨ (2 : Int) ^ t = 64 ∨ (2 : Int) ^ t = 128 ∨ (2 : Int) ^ t = 256 ∨ (2 : Int) ^ t = 512 ∨ (2 : Int) ^ t = 1024 ∨ (2 : Int) ^ t = 2048 ∨ (2 : Int) ^ t = 4096 ∨ (2 : Int) ^ t = 8192 ∨ (2 : Int) ^ t = 16384 := by
 have : t = 0 ∨ t = 1 ∨ t = 2 ∨ t = 3 ∨ t = 4 ∨ t = 5 ∨ t = 6 ∨ t = 7 ∨ t = 8 ∨ t = 9 ∨ t = 10 ∨ t = 11 ∨ t = 12 ∨ t = 13 ∨ t = 14 := by omega
 rcases this with rfl | rfl | rfl | rfl | rfl | rfl | rfl | rfl | rfl | rfl | rfl | rfl | rfl | rfl | rfl <;> decide
def win (r s : Int) : Int := min (r / 2 ^ s.toNat) 65535 * 2 ^ s.toNat
theorem win_le {r s : Int} (hs : 0 ≤ s ∧ s ≤ 14) (hr : 0 ≤ r) : 0 ≤ win r s ∧ win r s ≤ r ∧ win r s ≤ 65535 * 16384 := by
 obtain ⟨t, rfl⟩ := Int.eq_ofNat_of_zero_le hs.1
 have ht : t ≤ 14 := by omega
 unfold win
 rw [Int.toNat_natCast]
 rcases p2 t ht with h | h | h | h | h | h | h | h | h | h | h | h | h | h | h <;> rw [h] <;> omega
theorem shl_t (x : Int) (t : Nat) (ht : t ≤ 14) : shl .i64 x (t : Int) = wr .i64 (x * 2 ^ t) := by
 unfold shl
 rw [Int.toNat_natCast, show min t IntKind.i64.bits = t from Nat.min_eq_left (by show t ≤ 64; omega), wi64, IntKind.wrap_i64]
theorem shr_t (x : Int) (t : Nat) (ht : t ≤ 14) : shr .i64 x (t : Int) = x / 2 ^ t := by
 unfold shr
 rw [Int.toNat_natCast, show min t IntKind.i64.bits = t from Nat.min_eq_left (by show t ≤ 64; omega)]
 exact Int.fdiv_eq_ediv_of_nonneg _ (by rcases p2 t ht with h | h | h | h | h | h | h | h | h | h | h | h | h | h | h <;> rw [h] <;> omega)
section
variable {R : Type}
theorem window_k (n : Nat) (r : SRecv) (k : Int → Option R) (hs : 0 ≤ r.xShift ∧ r.xShift ≤ 14) (h0 : (r.xUnread.length : Int) ≤ r.xCap) (h1 : r.xCap ≤ 1073741824) : G9 capB (n + 1) r k = k (win (r.xCap - r.xUnread.length) r.xShift) := by
 simp only [G9]
 rw [cf (by omega), cf (by omega), w64_id (by omega) (by omega)]
 congr 1
 generalize hx : r.xCap - (r.xUnread.length : Int) = x
 have hx0 : 0 ≤ x := by omega
 have hx1 : x ≤ 1073741824 := by omega
 obtain ⟨t, ht⟩ := Int.eq_ofNat_of_zero_le hs.1
 have ht4 : t ≤ 14 := by omega
 rw [ht, shl_t _ _ ht4, shr_t _ _ ht4, mn_min]
 unfold win
 rw [Int.toNat_natCast]
 rcases p2 t ht4 with h | h | h | h | h | h | h | h | h | h | h | h | h | h | h <;> rw [h] <;> rw [w64_id (by omega) (by omega)]
def NewOk (c s : Int) : Prop := 1 ≤ c ∧ c ≤ 1073741824 ∧ 0 ≤ s ∧ s ≤ 14
instance (c s : Int) : Decidable (NewOk c s) := by unfold NewOk; infer_instance
def newS (c s p2 p3 : Int) (p4 p5 : Bool) : SRecv := SRecv.mk 0 [] [] c s (win c s) 0 p4 p5 (-1) false [] p2 p3 false
def noS : SRecv := SRecv.mk 0 [] [] 0 0 0 0 false false 0 false [] 0 0 false
theorem New_k (n : Nat) (c s p2 p3 : Int) (p4 p5 : Bool) (k : SRecv → Int → Option R) : G5 capB (n + 2) c s p2 p3 p4 p5 k = if NewOk c s then k (newS c s p2 p3 p4 p5) 0 else k noS 2 := by
 simp only [G5]
 by_cases h : NewOk c s
 ·obtain ⟨h1, h2, h3, h4⟩ := h
  rw [cf (by omega), cf (by omega), cf (by omega), cf (by omega), window_k n _ _ ⟨h3, h4⟩ (by show (0 : Int) ≤ c; omega) h2, if_pos ⟨h1, h2, h3, h4⟩]
  show k (SRecv.mk 0 [] [] c s (win (c - 0) s) 0 p4 p5 (-1) false [] p2 p3 false) 0 = _
  rw [Int.sub_zero]; rfl
 ·rw [if_neg h]
  unfold NewOk at h
  by_cases h1 : c < 1
  ·rw [ct h1]; rfl
  rw [cf h1]
  by_cases h2 : 1073741824 < c
  ·rw [ct h2]; rfl
  rw [cf h2]
  by_cases h3 : s < 0
  ·rw [ct h3]; rfl
  rw [cf h3, ct (by omega)]; rfl
end
end
end Go.Proofs.Ytafnmkbehjbkdaa.M
