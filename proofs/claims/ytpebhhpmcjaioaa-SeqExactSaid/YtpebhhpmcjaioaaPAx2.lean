-- Written by a session's program (wip/tools/myprint.py) out of the translation, by way of the kit's printer. Lean checks it.
import Derived.Test.YtpebhhpmcjaioaaPAx0
import Derived.Test.YtpebhhpmcjaioaaPAx1
namespace Go.Proofs.Ytpebhhpmcjaioaa.PA
open Go.RowKit Go.Proofs.YtpebhhpmcjaioaaW.PrintWords Go.Proofs.YtpebhhpmcjaioaaW.PrintLast Go.Proofs.YtpebhhpmcjaioaaW.PrintMore
attribute [local go_sem] max2_int min2_int max_two min_two max_three min_three max_four min_four   -- for this text's walks alone
set_option linter.unusedVariables false
set_option linter.unusedSimpArgs false

/-! ### seq_MulDiv: function 9 -/
def seq_MulDiv.j0 : Nat → Int → Int → Int → Bool → Option (Int × Int)
  | 0, _, _, _, _ => none
  | k + 1, x0, x1, x2, x21 => if x21 = true then (some (0, 2)) else ((bits_Mul64.f (IntKind.u64.wrap (x0)) (IntKind.u64.wrap (x1))).bind fun bt103 => (if bt103.1 ≥ (IntKind.u64.wrap (x2)) then (some (9223372036854775807, 0)) else ((bits_Div64.f k bt103.1 bt103.2 (IntKind.u64.wrap (x2))).bind fun bt105 => (some (wrap64 (mn bt105.1 9223372036854775807), 0)))))
def seq_MulDiv.f (k : Nat) (a0 : Int) (a1 : Int) (a2 : Int) : Option (Int × Int) := if a0 < 0 then (seq_MulDiv.j0 k a0 a1 a2 true) else (if a1 < 0 then (seq_MulDiv.j0 k a0 a1 a2 true) else (seq_MulDiv.j0 k a0 a1 a2 (decide (a2 ≤ 0))))
theorem seq_MulDiv.mono_l : ∀ k, (∀ y0 y1 y2 y3, LeO (seq_MulDiv.j0 k y0 y1 y2 y3) (seq_MulDiv.j0 (k + 1) y0 y1 y2 y3))
  | 0 => fun _ _ _ _ r h => by simp [seq_MulDiv.j0] at h
  | k + 1 => by
    have ih0 := seq_MulDiv.mono_l k
    · intro y0 y1 y2 y3
      unfold seq_MulDiv.j0
      repeat' first
      | (with_reducible exact ih0 _ _ _ _)
      | (with_reducible exact bits_Div64.mono _ _ _ _)
      | (with_reducible exact LeO.refl _)
      | (with_reducible exact LeO.none _)
      | (with_reducible refine LeO.ite ?_ ?_)
      | (with_reducible refine LeO.bind ?_ (fun _ => ?_))
      | exact ih0 _ _ _ _
      | exact bits_Div64.mono _ _ _ _
      | exact LeO.none _
      | refine LeO.ite ?_ ?_
      | refine LeO.bind ?_ (fun _ => ?_)
theorem seq_MulDiv.mono : ∀ a0 a1 a2 k, LeO (seq_MulDiv.f k a0 a1 a2) (seq_MulDiv.f (k + 1) a0 a1 a2) := by
  intro a0 a1 a2 k
  have ih0 := seq_MulDiv.mono_l k
  unfold seq_MulDiv.f
  repeat' first
      | (with_reducible exact ih0 _ _ _ _)
      | (with_reducible exact bits_Div64.mono _ _ _ _)
      | (with_reducible exact LeO.refl _)
      | (with_reducible exact LeO.none _)
      | (with_reducible refine LeO.ite ?_ ?_)
      | (with_reducible refine LeO.bind ?_ (fun _ => ?_))
      | exact ih0 _ _ _ _
      | exact bits_Div64.mono _ _ _ _
      | exact LeO.none _
      | refine LeO.ite ?_ ?_
      | refine LeO.bind ?_ (fun _ => ?_)
set_option maxHeartbeats 8000000 in
set_option maxRecDepth 100000 in
theorem seq_MulDiv.calls (k : Nat) (a0 : Int) (a1 : Int) (a2 : Int) (r1 : Int) (r2 : Int) (w : World) (h : seq_MulDiv.f k a0 a1 a2 = some (r1, r2)) :
    Calls Try.prog 9 #[.int .i64 a0, .int .i64 a1, .int .i64 a2] w fun e w' => e = .returned (.tuple #[.int .i64 r1, .int .i64 r2]) ∧ Below w.heap.size w w' := by
  have HB := Aside0.mk (Below.refl w.heap.size w)
  have H : (if a0 < 0 then (seq_MulDiv.j0 k a0 a1 a2 true) else (if a1 < 0 then (seq_MulDiv.j0 k a0 a1 a2 true) else (seq_MulDiv.j0 k a0 a1 a2 (decide (a2 ≤ 0))))) = some (r1, r2) := h
  clear h
  have HC4 := Aside0.mk H
  clear H
  go_enter Try.func9, Try.ntmps9
  go_upto_region 1 with (fail)
  go_cut [21] (fun v21 wc => ∃ (kq : Nat) (x21_3 : Bool), v21 = .bool x21_3 ∧ Aside0 (seq_MulDiv.j0 kq a0 a1 a2 x21_3 = some (r1, r2)) ∧ Aside0 (kq ≤ k) ∧ Aside0 (Below w.heap.size w wc))
  case first =>
    have H := HC4.out
    clear HC4
    by_cases c5 : a0 < 0
    · rw [if_pos c5] at H
      have c5b0 : decide (a0 < 0) = true := decide_eq_true c5
      clear c5
      (first | rw [c5b0] | (simp only [i64_w, i32_w]; rw [c5b0]) | skip)
      have H' := Aside0.mk H
      clear H
      go_wp2
      go_meet
      case rel => exact ⟨_, (true), (by first | rfl | (simp; done) | (simp [*]; done)), H', ⟨by first | omega | exact Nat.le_refl _⟩, ⟨by repeat (first | (with_reducible first | exact HB.out | apply below_alloc | apply pw_below_drewN | apply below_drew1) | exact HB.out)⟩⟩
    · rw [if_neg c5] at H
      have c5b0 : decide (a0 < 0) = false := decide_eq_false c5
      clear c5
      (first | rw [c5b0] | (simp only [i64_w, i32_w]; rw [c5b0]) | skip)
      by_cases c6 : a1 < 0
      · rw [if_pos c6] at H
        have c6b0 : decide (a1 < 0) = true := decide_eq_true c6
        clear c6
        have H' := Aside0.mk H
        clear H
        go_wp2
        go_meet
        case rel => exact ⟨_, (true), (by first | rfl | (simp; done) | (simp [*]; done)), H', ⟨by first | omega | exact Nat.le_refl _⟩, ⟨by repeat (first | (with_reducible first | exact HB.out | apply below_alloc | apply pw_below_drewN | apply below_drew1) | exact HB.out)⟩⟩
      · rw [if_neg c6] at H
        have c6b0 : decide (a1 < 0) = false := decide_eq_false c6
        clear c6
        have H' := Aside0.mk H
        clear H
        go_wp2
        go_meet
        case rel => exact ⟨_, (decide (a2 ≤ 0)), (by first | rfl | (simp; done) | (simp [*]; done)), H', ⟨by first | omega | exact Nat.le_refl _⟩, ⟨by repeat (first | (with_reducible first | exact HB.out | apply below_alloc | apply pw_below_drewN | apply below_drew1) | exact HB.out)⟩⟩
  case rest =>
    clear HC4
    try clear p2
    try clear c5
    try clear c5b0
    try clear c6
    try clear c6b0
    obtain ⟨kq, x21_3, rfl, HA, HJ3, HB⟩ := hcut
    cases kq with
    | zero => exact absurd HA.out (by simp [seq_MulDiv.j0])
    | succ kj3 =>
      have H := HA.out
      clear HA
      simp only [seq_MulDiv.j0] at H
      by_cases c7 : x21_3 = true
      · subst c7
        have H1 : (some (0, 2)) = some (r1, r2) := by rw [if_pos rfl] at H; exact H
        clear H
        have H := H1
        clear H1
        simp only [Option.some.injEq, Prod.mk.injEq] at H
        obtain ⟨rfl, rfl⟩ := H
        go_wp2
        go_ret2
        exact ⟨by first | rfl | (simp [errW_none, errW_some] <;> rfl) | (simp [*, errW_none, errW_some] <;> rfl), by repeat (first | (with_reducible first | exact HB.out | apply below_alloc | apply pw_below_drewN | apply below_drew1) | exact HB.out)⟩
      · replace c7 := Bool.eq_false_iff.mpr c7
        subst c7
        have H1 : ((bits_Mul64.f (IntKind.u64.wrap (a0)) (IntKind.u64.wrap (a1))).bind fun bt103 => (if bt103.1 ≥ (IntKind.u64.wrap (a2)) then (some (9223372036854775807, 0)) else ((bits_Div64.f kj3 bt103.1 bt103.2 (IntKind.u64.wrap (a2))).bind fun bt105 => (some (wrap64 (mn bt105.1 9223372036854775807), 0))))) = some (r1, r2) := by rw [if_neg (show ¬ (false = true) by decide)] at H; exact H
        clear H
        have H := H1
        clear H1
        replace H := Option.bind_eq_some_iff.mp H
        obtain ⟨⟨t103, t104⟩, A80, H⟩ := H
        replace H : (if t103 ≥ (IntKind.u64.wrap (a2)) then (some (9223372036854775807, 0)) else ((bits_Div64.f kj3 t103 t104 (IntKind.u64.wrap (a2))).bind fun bt105 => (some (wrap64 (mn bt105.1 9223372036854775807), 0)))) = some (r1, r2) := H
        have A8 := Aside0.mk A80
        clear A80
        by_cases c9 : t103 ≥ (IntKind.u64.wrap (a2))
        · rw [if_pos c9] at H
          have c9b0 : decide ((IntKind.u64.wrap (a2)) ≤ t103) = true := decide_eq_true c9
          clear c9
          simp only [Option.some.injEq, Prod.mk.injEq] at H
          obtain ⟨rfl, rfl⟩ := H
          go_wp2_with (first | ((with_reducible refine gate_callee (f := 28) rfl ?_); refine goesL_ (some 27) rfl rfl Try.func28 (by kernel_rfl) rfl #[.int .u64 (IntKind.u64.wrap (a0)), .int .u64 (IntKind.u64.wrap (a1))] rfl (by (try simp only [List.map_toArray, List.map_cons, List.map_nil]); first | done | rfl | (simp only [List.length_drop, List.length_take]; rfl)) ?_; (with_reducible refine (bits_Mul64.calls (IntKind.u64.wrap (a0)) (IntKind.u64.wrap (a1)) t103 t104 _ A8.out).mono ?_); rintro e w' ⟨rfl, ⟨nd, rfl⟩⟩; refine ⟨_, rfl, ?_⟩))
          go_ret2
          exact ⟨by first | rfl | (simp [errW_none, errW_some] <;> rfl) | (simp [*, errW_none, errW_some] <;> rfl), by repeat (first | (with_reducible first | exact HB.out | apply below_alloc | apply pw_below_drewN | apply below_drew1) | exact HB.out)⟩
        · rw [if_neg c9] at H
          have c9b0 : decide ((IntKind.u64.wrap (a2)) ≤ t103) = false := decide_eq_false c9
          clear c9
          replace H := Option.bind_eq_some_iff.mp H
          obtain ⟨⟨t105, t106⟩, A100, H⟩ := H
          replace H : (some (wrap64 (mn t105 9223372036854775807), 0)) = some (r1, r2) := H
          have A10 := Aside0.mk A100
          clear A100
          obtain ⟨ji11, hji11⟩ : ∃ j_ : Int, (mn t105 9223372036854775807) = j_ := ⟨_, rfl⟩
          replace H : (some (wrap64 (ji11), 0)) = some (r1, r2) := by first | (rw [hji11] at H; exact H) | (simp only [hji11] at H ⊢; exact H)
          (try rw [hji11] at A8)
          (try rw [hji11] at A10)
          (try (have hji11h : ji11 ≤ 9223372036854775807 := by (rw [← hji11]; unfold mn; (repeat' split) <;> omega)))
          (try (have hji11g : ji11 ≤ 64 := by omega))
          have hji11_ : (if 9223372036854775807 < t105 then 9223372036854775807 else t105) = ji11 := hji11
          simp only [Option.some.injEq, Prod.mk.injEq] at H
          obtain ⟨rfl, rfl⟩ := H
          go_wp2_with (first | ((with_reducible refine gate_callee (f := 28) rfl ?_); refine goesL_ (some 27) rfl rfl Try.func28 (by kernel_rfl) rfl #[.int .u64 (IntKind.u64.wrap (a0)), .int .u64 (IntKind.u64.wrap (a1))] rfl (by (try simp only [List.map_toArray, List.map_cons, List.map_nil]); first | done | rfl | (simp only [List.length_drop, List.length_take]; rfl)) ?_; (with_reducible refine (bits_Mul64.calls (IntKind.u64.wrap (a0)) (IntKind.u64.wrap (a1)) t103 t104 _ A8.out).mono ?_); rintro e w' ⟨rfl, ⟨nd, rfl⟩⟩; refine ⟨_, rfl, ?_⟩) | ((with_reducible refine gate_callee (f := 29) rfl ?_); refine goesL_ (some 39) rfl rfl Try.func29 (by kernel_rfl) rfl #[.int .u64 t103, .int .u64 t104, .int .u64 (IntKind.u64.wrap (a2))] rfl (by (try simp only [List.map_toArray, List.map_cons, List.map_nil]); first | done | rfl | (simp only [List.length_drop, List.length_take]; rfl)) ?_; (with_reducible refine (bits_Div64.calls kj3 t103 t104 (IntKind.u64.wrap (a2)) t105 t106 _ A10.out).mono ?_); rintro e w' ⟨rfl, ⟨nd, rfl⟩⟩; refine ⟨_, rfl, ?_⟩))
          go_ret2
          exact ⟨by first | rfl | (simp [errW_none, errW_some] <;> rfl) | (simp only [← hji11]; first | rfl | (simp [errW_none, errW_some] <;> rfl)) | (simp [*, errW_none, errW_some] <;> rfl), by repeat (first | (with_reducible first | exact HB.out | apply below_alloc | apply pw_below_drewN | apply below_drew1) | exact HB.out)⟩

/-! ### tidewayref01_MulDiv: function 10 -/
mutual
def tidewayref01_MulDiv.j0 : Nat → Int → Int → Int → Bool → Option (Int × Int)
  | 0, _, _, _, _ => none
  | k + 1, x0, x1, x2, x23 => if x23 = true then (some (0, 2)) else (if (IntKind.u64.wrap (x2)) = 0 then (none) else (tidewayref01_MulDiv.l0 k x0 x2 0 0 false (IntKind.u64.wrap (Int.tdiv (IntKind.u64.wrap (x1)) (IntKind.u64.wrap (x2)))) (Int.tmod (IntKind.u64.wrap (x1)) (IntKind.u64.wrap (x2))) 62))
def tidewayref01_MulDiv.l0 : Nat → Int → Int → Int → Int → Bool → Int → Int → Int → Option (Int × Int)
  | 0, _, _, _, _, _, _, _, _ => none
  | k + 1, x0, x2, x8, x9, x10, x11, x12, x13 => if x13 ≥ 0 then (if x10 = true then (tidewayref01_MulDiv.j2 k x0 x2 x8 x9 true x11 x12 x13) else (tidewayref01_MulDiv.j2 k x0 x2 x8 x9 (decide (x8 ≥ 4611686018427387904)) x11 x12 x13)) else (some (wrap64 (x8), 0))
def tidewayref01_MulDiv.j2 : Nat → Int → Int → Int → Int → Bool → Int → Int → Int → Option (Int × Int)
  | 0, _, _, _, _, _, _, _, _ => none
  | k + 1, x0, x2, x8, x9, x10, x11, x12, x13 => if (IntKind.u64.wrap (2 * x9)) ≥ (IntKind.u64.wrap (x2)) then (tidewayref01_MulDiv.j3 k x0 x2 (IntKind.u64.wrap ((IntKind.u64.wrap (2 * x8)) + 1)) (IntKind.u64.wrap ((IntKind.u64.wrap (2 * x9)) - (IntKind.u64.wrap (x2)))) x10 x11 x12 x13) else (tidewayref01_MulDiv.j3 k x0 x2 (IntKind.u64.wrap (2 * x8)) (IntKind.u64.wrap (2 * x9)) x10 x11 x12 x13)
def tidewayref01_MulDiv.j3 : Nat → Int → Int → Int → Int → Bool → Int → Int → Int → Option (Int × Int)
  | 0, _, _, _, _, _, _, _, _ => none
  | k + 1, x0, x2, x8, x9, x10, x11, x12, x13 => if 0 ≤ (IntKind.u64.wrap (x13)) then (if (Go.bits .and .i64 (shr .i64 x0 (IntKind.u64.wrap (x13))) 1) = 1 then (if x10 = true then (tidewayref01_MulDiv.j4 k x0 x2 x8 x9 true x11 x12 x13) else (tidewayref01_MulDiv.j4 k x0 x2 x8 x9 (decide (x8 > (IntKind.u64.wrap (9223372036854775807 - x11)))) x11 x12 x13)) else (if x10 = true then (some (9223372036854775807, 0)) else (if x8 > 9223372036854775807 then (some (9223372036854775807, 0)) else (tidewayref01_MulDiv.l0 k x0 x2 x8 x9 x10 x11 x12 (wrap64 (x13 - 1)))))) else (none)
def tidewayref01_MulDiv.j4 : Nat → Int → Int → Int → Int → Bool → Int → Int → Int → Option (Int × Int)
  | 0, _, _, _, _, _, _, _, _ => none
  | k + 1, x0, x2, x8, x9, x10, x11, x12, x13 => if (IntKind.u64.wrap (x9 + x12)) ≥ (IntKind.u64.wrap (x2)) then (if x10 = true then (some (9223372036854775807, 0)) else (if (IntKind.u64.wrap ((IntKind.u64.wrap (x8 + x11)) + 1)) > 9223372036854775807 then (some (9223372036854775807, 0)) else (tidewayref01_MulDiv.l0 k x0 x2 (IntKind.u64.wrap ((IntKind.u64.wrap (x8 + x11)) + 1)) (IntKind.u64.wrap ((IntKind.u64.wrap (x9 + x12)) - (IntKind.u64.wrap (x2)))) x10 x11 x12 (wrap64 (x13 - 1))))) else (if x10 = true then (some (9223372036854775807, 0)) else (if (IntKind.u64.wrap (x8 + x11)) > 9223372036854775807 then (some (9223372036854775807, 0)) else (tidewayref01_MulDiv.l0 k x0 x2 (IntKind.u64.wrap (x8 + x11)) (IntKind.u64.wrap (x9 + x12)) x10 x11 x12 (wrap64 (x13 - 1)))))
end
def tidewayref01_MulDiv.f (k : Nat) (a0 : Int) (a1 : Int) (a2 : Int) : Option (Int × Int) := if a0 < 0 then (tidewayref01_MulDiv.j0 k a0 a1 a2 true) else (if a1 < 0 then (tidewayref01_MulDiv.j0 k a0 a1 a2 true) else (tidewayref01_MulDiv.j0 k a0 a1 a2 (decide (a2 ≤ 0))))
theorem tidewayref01_MulDiv.mono_l : ∀ k, (∀ y0 y1 y2 y3, LeO (tidewayref01_MulDiv.j0 k y0 y1 y2 y3) (tidewayref01_MulDiv.j0 (k + 1) y0 y1 y2 y3)) ∧ (∀ y0 y1 y2 y3 y4 y5 y6 y7, LeO (tidewayref01_MulDiv.l0 k y0 y1 y2 y3 y4 y5 y6 y7) (tidewayref01_MulDiv.l0 (k + 1) y0 y1 y2 y3 y4 y5 y6 y7)) ∧ (∀ y0 y1 y2 y3 y4 y5 y6 y7, LeO (tidewayref01_MulDiv.j2 k y0 y1 y2 y3 y4 y5 y6 y7) (tidewayref01_MulDiv.j2 (k + 1) y0 y1 y2 y3 y4 y5 y6 y7)) ∧ (∀ y0 y1 y2 y3 y4 y5 y6 y7, LeO (tidewayref01_MulDiv.j3 k y0 y1 y2 y3 y4 y5 y6 y7) (tidewayref01_MulDiv.j3 (k + 1) y0 y1 y2 y3 y4 y5 y6 y7)) ∧ (∀ y0 y1 y2 y3 y4 y5 y6 y7, LeO (tidewayref01_MulDiv.j4 k y0 y1 y2 y3 y4 y5 y6 y7) (tidewayref01_MulDiv.j4 (k + 1) y0 y1 y2 y3 y4 y5 y6 y7))
  | 0 => ⟨fun _ _ _ _ r h => by simp [tidewayref01_MulDiv.j0] at h, fun _ _ _ _ _ _ _ _ r h => by simp [tidewayref01_MulDiv.l0] at h, fun _ _ _ _ _ _ _ _ r h => by simp [tidewayref01_MulDiv.j2] at h, fun _ _ _ _ _ _ _ _ r h => by simp [tidewayref01_MulDiv.j3] at h, fun _ _ _ _ _ _ _ _ r h => by simp [tidewayref01_MulDiv.j4] at h⟩
  | k + 1 => by
    obtain ⟨ih0, ih1, ih2, ih3, ih4⟩ := tidewayref01_MulDiv.mono_l k
    refine ⟨?_, ?_, ?_, ?_, ?_⟩
    · intro y0 y1 y2 y3
      unfold tidewayref01_MulDiv.j0
      repeat' first
      | (with_reducible exact ih0 _ _ _ _)
      | (with_reducible exact ih1 _ _ _ _ _ _ _ _)
      | (with_reducible exact ih2 _ _ _ _ _ _ _ _)
      | (with_reducible exact ih3 _ _ _ _ _ _ _ _)
      | (with_reducible exact ih4 _ _ _ _ _ _ _ _)
      | (with_reducible exact LeO.refl _)
      | (with_reducible exact LeO.none _)
      | (with_reducible refine LeO.ite ?_ ?_)
      | (with_reducible refine LeO.bind ?_ (fun _ => ?_))
      | exact ih0 _ _ _ _
      | exact ih1 _ _ _ _ _ _ _ _
      | exact ih2 _ _ _ _ _ _ _ _
      | exact ih3 _ _ _ _ _ _ _ _
      | exact ih4 _ _ _ _ _ _ _ _
      | exact LeO.none _
      | refine LeO.ite ?_ ?_
      | refine LeO.bind ?_ (fun _ => ?_)
    · intro y0 y1 y2 y3 y4 y5 y6 y7
      unfold tidewayref01_MulDiv.l0
      repeat' first
      | (with_reducible exact ih0 _ _ _ _)
      | (with_reducible exact ih1 _ _ _ _ _ _ _ _)
      | (with_reducible exact ih2 _ _ _ _ _ _ _ _)
      | (with_reducible exact ih3 _ _ _ _ _ _ _ _)
      | (with_reducible exact ih4 _ _ _ _ _ _ _ _)
      | (with_reducible exact LeO.refl _)
      | (with_reducible exact LeO.none _)
      | (with_reducible refine LeO.ite ?_ ?_)
      | (with_reducible refine LeO.bind ?_ (fun _ => ?_))
      | exact ih0 _ _ _ _
      | exact ih1 _ _ _ _ _ _ _ _
      | exact ih2 _ _ _ _ _ _ _ _
      | exact ih3 _ _ _ _ _ _ _ _
      | exact ih4 _ _ _ _ _ _ _ _
      | exact LeO.none _
      | refine LeO.ite ?_ ?_
      | refine LeO.bind ?_ (fun _ => ?_)
    · intro y0 y1 y2 y3 y4 y5 y6 y7
      unfold tidewayref01_MulDiv.j2
      repeat' first
      | (with_reducible exact ih0 _ _ _ _)
      | (with_reducible exact ih1 _ _ _ _ _ _ _ _)
      | (with_reducible exact ih2 _ _ _ _ _ _ _ _)
      | (with_reducible exact ih3 _ _ _ _ _ _ _ _)
      | (with_reducible exact ih4 _ _ _ _ _ _ _ _)
      | (with_reducible exact LeO.refl _)
      | (with_reducible exact LeO.none _)
      | (with_reducible refine LeO.ite ?_ ?_)
      | (with_reducible refine LeO.bind ?_ (fun _ => ?_))
      | exact ih0 _ _ _ _
      | exact ih1 _ _ _ _ _ _ _ _
      | exact ih2 _ _ _ _ _ _ _ _
      | exact ih3 _ _ _ _ _ _ _ _
      | exact ih4 _ _ _ _ _ _ _ _
      | exact LeO.none _
      | refine LeO.ite ?_ ?_
      | refine LeO.bind ?_ (fun _ => ?_)
    · intro y0 y1 y2 y3 y4 y5 y6 y7
      unfold tidewayref01_MulDiv.j3
      repeat' first
      | (with_reducible exact ih0 _ _ _ _)
      | (with_reducible exact ih1 _ _ _ _ _ _ _ _)
      | (with_reducible exact ih2 _ _ _ _ _ _ _ _)
      | (with_reducible exact ih3 _ _ _ _ _ _ _ _)
      | (with_reducible exact ih4 _ _ _ _ _ _ _ _)
      | (with_reducible exact LeO.refl _)
      | (with_reducible exact LeO.none _)
      | (with_reducible refine LeO.ite ?_ ?_)
      | (with_reducible refine LeO.bind ?_ (fun _ => ?_))
      | exact ih0 _ _ _ _
      | exact ih1 _ _ _ _ _ _ _ _
      | exact ih2 _ _ _ _ _ _ _ _
      | exact ih3 _ _ _ _ _ _ _ _
      | exact ih4 _ _ _ _ _ _ _ _
      | exact LeO.none _
      | refine LeO.ite ?_ ?_
      | refine LeO.bind ?_ (fun _ => ?_)
    · intro y0 y1 y2 y3 y4 y5 y6 y7
      unfold tidewayref01_MulDiv.j4
      repeat' first
      | (with_reducible exact ih0 _ _ _ _)
      | (with_reducible exact ih1 _ _ _ _ _ _ _ _)
      | (with_reducible exact ih2 _ _ _ _ _ _ _ _)
      | (with_reducible exact ih3 _ _ _ _ _ _ _ _)
      | (with_reducible exact ih4 _ _ _ _ _ _ _ _)
      | (with_reducible exact LeO.refl _)
      | (with_reducible exact LeO.none _)
      | (with_reducible refine LeO.ite ?_ ?_)
      | (with_reducible refine LeO.bind ?_ (fun _ => ?_))
      | exact ih0 _ _ _ _
      | exact ih1 _ _ _ _ _ _ _ _
      | exact ih2 _ _ _ _ _ _ _ _
      | exact ih3 _ _ _ _ _ _ _ _
      | exact ih4 _ _ _ _ _ _ _ _
      | exact LeO.none _
      | refine LeO.ite ?_ ?_
      | refine LeO.bind ?_ (fun _ => ?_)
theorem tidewayref01_MulDiv.mono : ∀ a0 a1 a2 k, LeO (tidewayref01_MulDiv.f k a0 a1 a2) (tidewayref01_MulDiv.f (k + 1) a0 a1 a2) := by
  intro a0 a1 a2 k
  obtain ⟨ih0, ih1, ih2, ih3, ih4⟩ := tidewayref01_MulDiv.mono_l k
  unfold tidewayref01_MulDiv.f
  repeat' first
      | (with_reducible exact ih0 _ _ _ _)
      | (with_reducible exact ih1 _ _ _ _ _ _ _ _)
      | (with_reducible exact ih2 _ _ _ _ _ _ _ _)
      | (with_reducible exact ih3 _ _ _ _ _ _ _ _)
      | (with_reducible exact ih4 _ _ _ _ _ _ _ _)
      | (with_reducible exact LeO.refl _)
      | (with_reducible exact LeO.none _)
      | (with_reducible refine LeO.ite ?_ ?_)
      | (with_reducible refine LeO.bind ?_ (fun _ => ?_))
      | exact ih0 _ _ _ _
      | exact ih1 _ _ _ _ _ _ _ _
      | exact ih2 _ _ _ _ _ _ _ _
      | exact ih3 _ _ _ _ _ _ _ _
      | exact ih4 _ _ _ _ _ _ _ _
      | exact LeO.none _
      | refine LeO.ite ?_ ?_
      | refine LeO.bind ?_ (fun _ => ?_)
set_option maxHeartbeats 8000000 in
set_option maxRecDepth 100000 in
theorem tidewayref01_MulDiv.calls (k : Nat) (a0 : Int) (a1 : Int) (a2 : Int) (r1 : Int) (r2 : Int) (w : World) (h : tidewayref01_MulDiv.f k a0 a1 a2 = some (r1, r2)) :
    Calls Try.prog 10 #[.int .i64 a0, .int .i64 a1, .int .i64 a2] w fun e w' => e = .returned (.tuple #[.int .i64 r1, .int .i64 r2]) ∧ Drawn0 w w' := by
  have H : (if a0 < 0 then (tidewayref01_MulDiv.j0 k a0 a1 a2 true) else (if a1 < 0 then (tidewayref01_MulDiv.j0 k a0 a1 a2 true) else (tidewayref01_MulDiv.j0 k a0 a1 a2 (decide (a2 ≤ 0))))) = some (r1, r2) := h
  clear h
  have HC4 := Aside0.mk H
  clear H
  go_enter Try.func10, Try.ntmps10
  go_upto_region 1 with (fail)
  repeat (go_quiet (fail); go_upto_region 1 with (fail))
  go_cut [23] (fun v23 wc => ∃ (kq : Nat) (x23_3 : Bool), v23 = .bool x23_3 ∧ Aside0 (tidewayref01_MulDiv.j0 kq a0 a1 a2 x23_3 = some (r1, r2)) ∧ Aside0 (kq ≤ k) ∧ Drawn0 w wc)
  case first =>
    have H := HC4.out
    clear HC4
    by_cases c5 : a0 < 0
    · rw [if_pos c5] at H
      have c5b0 : decide (a0 < 0) = true := decide_eq_true c5
      clear c5
      (first | rw [c5b0] | (simp only [i64_w, i32_w]; rw [c5b0]) | skip)
      have H' := Aside0.mk H
      clear H
      go_wp2
      repeat (go_quiet (fail); try go_wp2)
      go_meet
      case rel => exact ⟨_, (true), (by first | rfl | (simp; done) | (simp [*]; done)), H', ⟨by first | omega | exact Nat.le_refl _⟩, by repeat (first | exact Drawn0.refl _ | apply Drawn0.step)⟩
    · rw [if_neg c5] at H
      have c5b0 : decide (a0 < 0) = false := decide_eq_false c5
      clear c5
      (first | rw [c5b0] | (simp only [i64_w, i32_w]; rw [c5b0]) | skip)
      by_cases c6 : a1 < 0
      · rw [if_pos c6] at H
        have c6b0 : decide (a1 < 0) = true := decide_eq_true c6
        clear c6
        have H' := Aside0.mk H
        clear H
        go_wp2
        repeat (go_quiet (fail); try go_wp2)
        go_meet
        case rel => exact ⟨_, (true), (by first | rfl | (simp; done) | (simp [*]; done)), H', ⟨by first | omega | exact Nat.le_refl _⟩, by repeat (first | exact Drawn0.refl _ | apply Drawn0.step)⟩
      · rw [if_neg c6] at H
        have c6b0 : decide (a1 < 0) = false := decide_eq_false c6
        clear c6
        have H' := Aside0.mk H
        clear H
        go_wp2
        repeat (go_quiet (fail); try go_wp2)
        go_meet
        case rel => exact ⟨_, (decide (a2 ≤ 0)), (by first | rfl | (simp; done) | (simp [*]; done)), H', ⟨by first | omega | exact Nat.le_refl _⟩, by repeat (first | exact Drawn0.refl _ | apply Drawn0.step)⟩
  case rest =>
    clear HC4
    try clear c1
    try clear p2
    try clear c5
    try clear c5b0
    try clear c6
    try clear c6b0
    obtain ⟨kq, x23_3, rfl, HA, HJ3, ⟨mc3, rfl⟩⟩ := hcut
    cases kq with
    | zero => exact absurd HA.out (by simp [tidewayref01_MulDiv.j0])
    | succ kj3 =>
      have H := HA.out
      clear HA
      simp only [tidewayref01_MulDiv.j0] at H
      by_cases c7 : x23_3 = true
      · subst c7
        have H1 : (some (0, 2)) = some (r1, r2) := by rw [if_pos rfl] at H; exact H
        clear H
        have H := H1
        clear H1
        simp only [Option.some.injEq, Prod.mk.injEq] at H
        obtain ⟨rfl, rfl⟩ := H
        go_wp2
        repeat (go_quiet (fail); try go_wp2)
        go_ret2
        exact ⟨by first | rfl | (simp; done) | (simp [*]; done), by repeat (first | exact Drawn0.refl _ | apply Drawn0.step)⟩
      · replace c7 := Bool.eq_false_iff.mpr c7
        subst c7
        have H1 : (if (IntKind.u64.wrap (a2)) = 0 then (none) else (tidewayref01_MulDiv.l0 kj3 a0 a2 0 0 false (IntKind.u64.wrap (Int.tdiv (IntKind.u64.wrap (a1)) (IntKind.u64.wrap (a2)))) (Int.tmod (IntKind.u64.wrap (a1)) (IntKind.u64.wrap (a2))) 62)) = some (r1, r2) := by rw [if_neg (show ¬ (false = true) by decide)] at H; exact H
        clear H
        have H := H1
        clear H1
        by_cases c8 : (IntKind.u64.wrap (a2)) = 0
        · rw [if_pos c8] at H
          exact absurd H (by simp)
        · rw [if_neg c8] at H
          have c8b0 : ((IntKind.u64.wrap (a2)) == 0) = false := beq_eq_false_iff_ne.mpr c8
          have c8b1 : ((IntKind.u64.wrap (a2)) != 0) = true := bne_iff_ne.mpr c8
          have H' := Aside0.mk H
          clear H
          go_wp2
          repeat (go_quiet (fail); try go_wp2)
          go_loopg [8, 9, 10, 13] kj3 (fun kq v8 v9 v10 v13 w' => ∃ (x8_2 : Int) (x9_2 : Int) (x10_2 : Bool) (x13_2 : Int), v8 = .int .u64 x8_2 ∧ v9 = .int .u64 x9_2 ∧ v10 = .bool x10_2 ∧ v13 = .int .i64 x13_2 ∧ Aside0 (tidewayref01_MulDiv.l0 kq a0 a2 x8_2 x9_2 x10_2 (IntKind.u64.wrap (Int.tdiv (IntKind.u64.wrap (a1)) (IntKind.u64.wrap (a2)))) (Int.tmod (IntKind.u64.wrap (a1)) (IntKind.u64.wrap (a2))) x13_2 = some (r1, r2)) ∧ Aside0 (kq ≤ kj3) ∧ Drawn0 w w')
          case atStart => exact ⟨(0), (0), (false), (62), (by first | rfl | (simp; done) | (simp [*]; done)), (by first | rfl | (simp; done) | (simp [*]; done)), (by first | rfl | (simp; done) | (simp [*]; done)), (by first | rfl | (simp; done) | (simp [*]; done)), H', ⟨Nat.le_refl _⟩, by repeat (first | exact Drawn0.refl _ | apply Drawn0.step)⟩
          case round =>
            clear H'
            try clear c1
            try clear p2
            try clear c3
            try clear c5
            try clear c5b0
            try clear c6
            try clear c6b0
            try clear c7
            try clear c8
            try clear c8b0
            try clear c8b1
            try clear p2
            obtain ⟨x8_2, x9_2, x10_2, x13_2, rfl, rfl, rfl, rfl, HA, HK2, ⟨m2, rfl⟩⟩ := hrel
            cases gk with
            | zero => exact absurd HA.out (by simp [tidewayref01_MulDiv.l0])
            | succ k2 =>
              have H := HA.out
              clear HA
              simp only [tidewayref01_MulDiv.l0] at H
              by_cases c9 : x13_2 ≥ 0
              · rw [if_pos c9] at H
                have c9b0 : decide (0 ≤ x13_2) = true := decide_eq_true c9
                clear c9
                have HC10 := Aside0.mk H
                clear H
                go_upto_region 9 with (fail)
                repeat (go_quiet (fail); go_upto_region 9 with (fail))
                go_cut [10] (fun v10 wc => ∃ (kq : Nat) (x10_9 : Bool), v10 = .bool x10_9 ∧ Aside0 (tidewayref01_MulDiv.j2 kq a0 a2 x8_2 x9_2 x10_9 (IntKind.u64.wrap (Int.tdiv (IntKind.u64.wrap (a1)) (IntKind.u64.wrap (a2)))) (Int.tmod (IntKind.u64.wrap (a1)) (IntKind.u64.wrap (a2))) x13_2 = some (r1, r2)) ∧ Aside0 (kq ≤ k2) ∧ Drawn0 w wc)
                case first =>
                  have H := HC10.out
                  clear HC10
                  by_cases c11 : x10_2 = true
                  · subst c11
                    have H1 : (tidewayref01_MulDiv.j2 k2 a0 a2 x8_2 x9_2 true (IntKind.u64.wrap (Int.tdiv (IntKind.u64.wrap (a1)) (IntKind.u64.wrap (a2)))) (Int.tmod (IntKind.u64.wrap (a1)) (IntKind.u64.wrap (a2))) x13_2) = some (r1, r2) := by rw [if_pos rfl] at H; exact H
                    clear H
                    have H := H1
                    clear H1
                    have H' := Aside0.mk H
                    clear H
                    go_wp2
                    repeat (go_quiet (fail); try go_wp2)
                    go_meet
                    case rel => exact ⟨_, (true), (by first | rfl | (simp; done) | (simp [*]; done)), H', ⟨by have := HJ3.out; have := HK2.out; first | omega | exact Nat.le_refl _⟩, by repeat (first | exact Drawn0.refl _ | apply Drawn0.step)⟩
                  · replace c11 := Bool.eq_false_iff.mpr c11
                    subst c11
                    have H1 : (tidewayref01_MulDiv.j2 k2 a0 a2 x8_2 x9_2 (decide (x8_2 ≥ 4611686018427387904)) (IntKind.u64.wrap (Int.tdiv (IntKind.u64.wrap (a1)) (IntKind.u64.wrap (a2)))) (Int.tmod (IntKind.u64.wrap (a1)) (IntKind.u64.wrap (a2))) x13_2) = some (r1, r2) := by rw [if_neg (show ¬ (false = true) by decide)] at H; exact H
                    clear H
                    have H := H1
                    clear H1
                    have H' := Aside0.mk H
                    clear H
                    go_wp2
                    repeat (go_quiet (fail); try go_wp2)
                    go_meet
                    case rel => exact ⟨_, (decide (x8_2 ≥ 4611686018427387904)), (by first | rfl | (simp; done) | (simp [*]; done)), H', ⟨by have := HJ3.out; have := HK2.out; first | omega | exact Nat.le_refl _⟩, by repeat (first | exact Drawn0.refl _ | apply Drawn0.step)⟩
                case rest =>
                  clear HC10
                  try clear c1
                  try clear p2
                  try clear c3
                  try clear c5
                  try clear c5b0
                  try clear c6
                  try clear c6b0
                  try clear c7
                  try clear c8
                  try clear c8b0
                  try clear c8b1
                  try clear c9
                  try clear c9b0
                  try clear c10
                  try clear c11
                  try clear p2
                  obtain ⟨kq, x10_9, rfl, HA, HJ9, ⟨mc9, rfl⟩⟩ := hcut
                  cases kq with
                  | zero => exact absurd HA.out (by simp [tidewayref01_MulDiv.j2])
                  | succ kj9 =>
                    have H := HA.out
                    clear HA
                    simp only [tidewayref01_MulDiv.j2] at H
                    have HC12 := Aside0.mk H
                    clear H
                    go_upto_if 50 with (fail)
                    repeat (go_quiet (fail); go_upto_if 50 with (fail))
                    go_cut [8, 9] (fun v8 v9 wc => ∃ (kq : Nat) (x8_11 : Int) (x9_11 : Int), v8 = .int .u64 x8_11 ∧ v9 = .int .u64 x9_11 ∧ Aside0 (tidewayref01_MulDiv.j3 kq a0 a2 x8_11 x9_11 x10_9 (IntKind.u64.wrap (Int.tdiv (IntKind.u64.wrap (a1)) (IntKind.u64.wrap (a2)))) (Int.tmod (IntKind.u64.wrap (a1)) (IntKind.u64.wrap (a2))) x13_2 = some (r1, r2)) ∧ Aside0 (kq ≤ kj9) ∧ Drawn0 w wc)
                    case first =>
                      have H := HC12.out
                      clear HC12
                      by_cases c13 : (IntKind.u64.wrap (2 * x9_2)) ≥ (IntKind.u64.wrap (a2))
                      · rw [if_pos c13] at H
                        have c13b0 : decide ((IntKind.u64.wrap (a2)) ≤ (IntKind.u64.wrap (2 * x9_2))) = true := decide_eq_true c13
                        clear c13
                        (first | rw [c13b0] | (simp only [i64_w, i32_w]; rw [c13b0]) | skip)
                        have H' := Aside0.mk H
                        clear H
                        go_wp2
                        repeat (go_quiet (fail); try go_wp2)
                        go_meet
                        case rel => exact ⟨_, (IntKind.u64.wrap ((IntKind.u64.wrap (2 * x8_2)) + 1)), (IntKind.u64.wrap ((IntKind.u64.wrap (2 * x9_2)) - (IntKind.u64.wrap (a2)))), (by first | rfl | (simp; done) | (simp [*]; done)), (by first | rfl | (simp; done) | (simp [*]; done)), H', ⟨by have := HJ3.out; have := HK2.out; have := HJ9.out; first | omega | exact Nat.le_refl _⟩, by repeat (first | exact Drawn0.refl _ | apply Drawn0.step)⟩
                      · rw [if_neg c13] at H
                        have c13b0 : decide ((IntKind.u64.wrap (a2)) ≤ (IntKind.u64.wrap (2 * x9_2))) = false := decide_eq_false c13
                        clear c13
                        (first | rw [c13b0] | (simp only [i64_w, i32_w]; rw [c13b0]) | skip)
                        have H' := Aside0.mk H
                        clear H
                        go_wp2
                        repeat (go_quiet (fail); try go_wp2)
                        go_meet
                        case rel => exact ⟨_, (IntKind.u64.wrap (2 * x8_2)), (IntKind.u64.wrap (2 * x9_2)), (by first | rfl | (simp; done) | (simp [*]; done)), (by first | rfl | (simp; done) | (simp [*]; done)), H', ⟨by have := HJ3.out; have := HK2.out; have := HJ9.out; first | omega | exact Nat.le_refl _⟩, by repeat (first | exact Drawn0.refl _ | apply Drawn0.step)⟩
                    case rest =>
                      clear HC12
                      try clear c1
                      try clear p2
                      try clear c3
                      try clear c5
                      try clear c5b0
                      try clear c6
                      try clear c6b0
                      try clear c7
                      try clear c8
                      try clear c8b0
                      try clear c8b1
                      try clear c9
                      try clear c9b0
                      try clear c10
                      try clear c11
                      try clear c13
                      try clear c13b0
                      try clear p2
                      obtain ⟨kq, x8_11, x9_11, rfl, rfl, HA, HJ11, ⟨mc11, rfl⟩⟩ := hcut
                      cases kq with
                      | zero => exact absurd HA.out (by simp [tidewayref01_MulDiv.j3])
                      | succ kj11 =>
                        have H := HA.out
                        clear HA
                        simp only [tidewayref01_MulDiv.j3] at H
                        obtain ⟨ji14, hji14⟩ : ∃ j_ : Int, (IntKind.u64.wrap (x13_2)) = j_ := ⟨_, rfl⟩
                        replace H : (if 0 ≤ (ji14) then (if (Go.bits .and .i64 (shr .i64 a0 (ji14)) 1) = 1 then (if x10_9 = true then (tidewayref01_MulDiv.j4 kj11 a0 a2 x8_11 x9_11 true (IntKind.u64.wrap (Int.tdiv (IntKind.u64.wrap (a1)) (IntKind.u64.wrap (a2)))) (Int.tmod (IntKind.u64.wrap (a1)) (IntKind.u64.wrap (a2))) x13_2) else (tidewayref01_MulDiv.j4 kj11 a0 a2 x8_11 x9_11 (decide (x8_11 > (IntKind.u64.wrap (9223372036854775807 - (IntKind.u64.wrap (Int.tdiv (IntKind.u64.wrap (a1)) (IntKind.u64.wrap (a2)))))))) (IntKind.u64.wrap (Int.tdiv (IntKind.u64.wrap (a1)) (IntKind.u64.wrap (a2)))) (Int.tmod (IntKind.u64.wrap (a1)) (IntKind.u64.wrap (a2))) x13_2)) else (if x10_9 = true then (some (9223372036854775807, 0)) else (if x8_11 > 9223372036854775807 then (some (9223372036854775807, 0)) else (tidewayref01_MulDiv.l0 kj11 a0 a2 x8_11 x9_11 x10_9 (IntKind.u64.wrap (Int.tdiv (IntKind.u64.wrap (a1)) (IntKind.u64.wrap (a2)))) (Int.tmod (IntKind.u64.wrap (a1)) (IntKind.u64.wrap (a2))) (wrap64 (x13_2 - 1)))))) else (none)) = some (r1, r2) := by first | (rw [hji14] at H; exact H) | (simp only [hji14] at H ⊢; exact H)
                        by_cases c15 : 0 ≤ (ji14)
                        · rw [if_pos c15] at H
                          have c15b0 := eq_true c15
                          have c15b1 : decide (0 ≤ (ji14)) = true := decide_eq_true c15
                          clear c15
                          obtain ⟨ji16, hji16⟩ : ∃ j_ : Int, (shr .i64 a0 (ji14)) = j_ := ⟨_, rfl⟩
                          replace H : (if (Go.bits .and .i64 (ji16) 1) = 1 then (if x10_9 = true then (tidewayref01_MulDiv.j4 kj11 a0 a2 x8_11 x9_11 true (IntKind.u64.wrap (Int.tdiv (IntKind.u64.wrap (a1)) (IntKind.u64.wrap (a2)))) (Int.tmod (IntKind.u64.wrap (a1)) (IntKind.u64.wrap (a2))) x13_2) else (tidewayref01_MulDiv.j4 kj11 a0 a2 x8_11 x9_11 (decide (x8_11 > (IntKind.u64.wrap (9223372036854775807 - (IntKind.u64.wrap (Int.tdiv (IntKind.u64.wrap (a1)) (IntKind.u64.wrap (a2)))))))) (IntKind.u64.wrap (Int.tdiv (IntKind.u64.wrap (a1)) (IntKind.u64.wrap (a2)))) (Int.tmod (IntKind.u64.wrap (a1)) (IntKind.u64.wrap (a2))) x13_2)) else (if x10_9 = true then (some (9223372036854775807, 0)) else (if x8_11 > 9223372036854775807 then (some (9223372036854775807, 0)) else (tidewayref01_MulDiv.l0 kj11 a0 a2 x8_11 x9_11 x10_9 (IntKind.u64.wrap (Int.tdiv (IntKind.u64.wrap (a1)) (IntKind.u64.wrap (a2)))) (Int.tmod (IntKind.u64.wrap (a1)) (IntKind.u64.wrap (a2))) (wrap64 (x13_2 - 1)))))) = some (r1, r2) := by first | (rw [hji16] at H; exact H) | (simp only [hji16] at H ⊢; exact H)
                          have hji16_ : (a0 / 2 ^ min (ji14).toNat 64) = ji16 := hji16
                          have hji16z : (ji14) ≤ 64 → (a0 / 2 ^ (ji14).toNat) = ji16 := shr_small hji16
                          by_cases c17 : (Go.bits .and .i64 (ji16) 1) = 1
                          · rw [if_pos c17] at H
                            have c17b0 : ((Go.bits .and .i64 (ji16) 1) == 1) = true := beq_iff_eq.mpr c17
                            have c17b1 : ((Go.bits .and .i64 (ji16) 1) != 1) = false := bne_eq_false_iff_eq.mpr c17
                            clear c17
                            have HC18 := Aside0.mk H
                            clear H
                            go_upto_region 16 with (fail)
                            repeat (go_quiet (fail); go_upto_region 16 with (fail))
                            go_cut [10] (fun v10 wc => ∃ (kq : Nat) (x10_17 : Bool), v10 = .bool x10_17 ∧ Aside0 (tidewayref01_MulDiv.j4 kq a0 a2 x8_11 x9_11 x10_17 (IntKind.u64.wrap (Int.tdiv (IntKind.u64.wrap (a1)) (IntKind.u64.wrap (a2)))) (Int.tmod (IntKind.u64.wrap (a1)) (IntKind.u64.wrap (a2))) x13_2 = some (r1, r2)) ∧ Aside0 (kq ≤ kj11) ∧ Drawn0 w wc)
                            case first =>
                              have H := HC18.out
                              clear HC18
                              by_cases c19 : x10_9 = true
                              · subst c19
                                have H1 : (tidewayref01_MulDiv.j4 kj11 a0 a2 x8_11 x9_11 true (IntKind.u64.wrap (Int.tdiv (IntKind.u64.wrap (a1)) (IntKind.u64.wrap (a2)))) (Int.tmod (IntKind.u64.wrap (a1)) (IntKind.u64.wrap (a2))) x13_2) = some (r1, r2) := by rw [if_pos rfl] at H; exact H
                                clear H
                                have H := H1
                                clear H1
                                have H' := Aside0.mk H
                                clear H
                                go_wp2
                                repeat (go_quiet (fail); try go_wp2)
                                go_meet
                                case rel => exact ⟨_, (true), (by first | rfl | (simp; done) | (simp [*]; done)), H', ⟨by have := HJ3.out; have := HK2.out; have := HJ9.out; have := HJ11.out; first | omega | exact Nat.le_refl _⟩, by repeat (first | exact Drawn0.refl _ | apply Drawn0.step)⟩
                              · replace c19 := Bool.eq_false_iff.mpr c19
                                subst c19
                                have H1 : (tidewayref01_MulDiv.j4 kj11 a0 a2 x8_11 x9_11 (decide (x8_11 > (IntKind.u64.wrap (9223372036854775807 - (IntKind.u64.wrap (Int.tdiv (IntKind.u64.wrap (a1)) (IntKind.u64.wrap (a2)))))))) (IntKind.u64.wrap (Int.tdiv (IntKind.u64.wrap (a1)) (IntKind.u64.wrap (a2)))) (Int.tmod (IntKind.u64.wrap (a1)) (IntKind.u64.wrap (a2))) x13_2) = some (r1, r2) := by rw [if_neg (show ¬ (false = true) by decide)] at H; exact H
                                clear H
                                have H := H1
                                clear H1
                                have H' := Aside0.mk H
                                clear H
                                go_wp2
                                repeat (go_quiet (fail); try go_wp2)
                                go_meet
                                case rel => exact ⟨_, (decide (x8_11 > (IntKind.u64.wrap (9223372036854775807 - (IntKind.u64.wrap (Int.tdiv (IntKind.u64.wrap (a1)) (IntKind.u64.wrap (a2)))))))), (by first | rfl | (simp; done) | (simp [*]; done)), H', ⟨by have := HJ3.out; have := HK2.out; have := HJ9.out; have := HJ11.out; first | omega | exact Nat.le_refl _⟩, by repeat (first | exact Drawn0.refl _ | apply Drawn0.step)⟩
                            case rest =>
                              clear HC18
                              try clear c1
                              try clear p2
                              try clear c3
                              try clear c5
                              try clear c5b0
                              try clear c6
                              try clear c6b0
                              try clear p6
                              try clear c7
                              try clear c8
                              try clear c8b0
                              try clear c8b1
                              try clear c9
                              try clear c9b0
                              try clear c10
                              try clear c11
                              try clear c13
                              try clear c13b0
                              try clear c15
                              try clear c15b0
                              try clear c15b1
                              try clear c17
                              try clear c17b0
                              try clear c17b1
                              try clear c19
                              try clear p2
                              obtain ⟨kq, x10_17, rfl, HA, HJ17, ⟨mc17, rfl⟩⟩ := hcut
                              cases kq with
                              | zero => exact absurd HA.out (by simp [tidewayref01_MulDiv.j4])
                              | succ kj17 =>
                                have H := HA.out
                                clear HA
                                simp only [tidewayref01_MulDiv.j4] at H
                                by_cases c20 : (IntKind.u64.wrap (x9_11 + (Int.tmod (IntKind.u64.wrap (a1)) (IntKind.u64.wrap (a2))))) ≥ (IntKind.u64.wrap (a2))
                                · rw [if_pos c20] at H
                                  have c20b0 : decide ((IntKind.u64.wrap (a2)) ≤ (IntKind.u64.wrap (x9_11 + (Int.tmod (IntKind.u64.wrap (a1)) (IntKind.u64.wrap (a2)))))) = true := decide_eq_true c20
                                  clear c20
                                  by_cases c21 : x10_17 = true
                                  · subst c21
                                    have H1 : (some (9223372036854775807, 0)) = some (r1, r2) := by rw [if_pos rfl] at H; exact H
                                    clear H
                                    have H := H1
                                    clear H1
                                    simp only [Option.some.injEq, Prod.mk.injEq] at H
                                    obtain ⟨rfl, rfl⟩ := H
                                    go_wp2
                                    repeat (go_quiet (fail); try go_wp2)
                                    go_ret2
                                    exact ⟨by first | rfl | (simp; done) | (simp only [← hji14, ← hji16] <;> (first | rfl | simp)) | (simp [*]; done), by repeat (first | exact Drawn0.refl _ | apply Drawn0.step)⟩
                                  · replace c21 := Bool.eq_false_iff.mpr c21
                                    subst c21
                                    have H1 : (if (IntKind.u64.wrap ((IntKind.u64.wrap (x8_11 + (IntKind.u64.wrap (Int.tdiv (IntKind.u64.wrap (a1)) (IntKind.u64.wrap (a2)))))) + 1)) > 9223372036854775807 then (some (9223372036854775807, 0)) else (tidewayref01_MulDiv.l0 kj17 a0 a2 (IntKind.u64.wrap ((IntKind.u64.wrap (x8_11 + (IntKind.u64.wrap (Int.tdiv (IntKind.u64.wrap (a1)) (IntKind.u64.wrap (a2)))))) + 1)) (IntKind.u64.wrap ((IntKind.u64.wrap (x9_11 + (Int.tmod (IntKind.u64.wrap (a1)) (IntKind.u64.wrap (a2))))) - (IntKind.u64.wrap (a2)))) false (IntKind.u64.wrap (Int.tdiv (IntKind.u64.wrap (a1)) (IntKind.u64.wrap (a2)))) (Int.tmod (IntKind.u64.wrap (a1)) (IntKind.u64.wrap (a2))) (wrap64 (x13_2 - 1)))) = some (r1, r2) := by rw [if_neg (show ¬ (false = true) by decide)] at H; exact H
                                    clear H
                                    have H := H1
                                    clear H1
                                    by_cases c22 : (IntKind.u64.wrap ((IntKind.u64.wrap (x8_11 + (IntKind.u64.wrap (Int.tdiv (IntKind.u64.wrap (a1)) (IntKind.u64.wrap (a2)))))) + 1)) > 9223372036854775807
                                    · rw [if_pos c22] at H
                                      have c22b0 : decide (9223372036854775807 < (IntKind.u64.wrap ((IntKind.u64.wrap (x8_11 + (IntKind.u64.wrap (Int.tdiv (IntKind.u64.wrap (a1)) (IntKind.u64.wrap (a2)))))) + 1))) = true := decide_eq_true c22
                                      clear c22
                                      simp only [Option.some.injEq, Prod.mk.injEq] at H
                                      obtain ⟨rfl, rfl⟩ := H
                                      go_wp2
                                      repeat (go_quiet (fail); try go_wp2)
                                      go_ret2
                                      exact ⟨by first | rfl | (simp; done) | (simp only [← hji14, ← hji16] <;> (first | rfl | simp)) | (simp [*]; done), by repeat (first | exact Drawn0.refl _ | apply Drawn0.step)⟩
                                    · rw [if_neg c22] at H
                                      have c22b0 : decide (9223372036854775807 < (IntKind.u64.wrap ((IntKind.u64.wrap (x8_11 + (IntKind.u64.wrap (Int.tdiv (IntKind.u64.wrap (a1)) (IntKind.u64.wrap (a2)))))) + 1))) = false := decide_eq_false c22
                                      clear c22
                                      have H' := Aside0.mk H
                                      clear H
                                      go_wp2
                                      repeat (go_quiet (fail); try go_wp2)
                                      go_roundg kj17
                                      case measure => have := HJ3.out; have := HK2.out; have := HJ9.out; have := HJ11.out; have := HJ17.out; omega
                                      case rel => exact ⟨(IntKind.u64.wrap ((IntKind.u64.wrap (x8_11 + (IntKind.u64.wrap (Int.tdiv (IntKind.u64.wrap (a1)) (IntKind.u64.wrap (a2)))))) + 1)), (IntKind.u64.wrap ((IntKind.u64.wrap (x9_11 + (Int.tmod (IntKind.u64.wrap (a1)) (IntKind.u64.wrap (a2))))) - (IntKind.u64.wrap (a2)))), (false), (wrap64 (x13_2 - 1)), (by first | rfl | (simp; done) | (simp [*]; done)), (by first | rfl | (simp; done) | (simp [*]; done)), (by first | rfl | (simp; done) | (simp [*]; done)), (by first | rfl | (simp; done) | (simp [*]; done)), H', ⟨by have := HJ3.out; have := HK2.out; have := HJ9.out; have := HJ11.out; have := HJ17.out; omega⟩, by repeat (first | exact Drawn0.refl _ | apply Drawn0.step)⟩
                                · rw [if_neg c20] at H
                                  have c20b0 : decide ((IntKind.u64.wrap (a2)) ≤ (IntKind.u64.wrap (x9_11 + (Int.tmod (IntKind.u64.wrap (a1)) (IntKind.u64.wrap (a2)))))) = false := decide_eq_false c20
                                  clear c20
                                  by_cases c23 : x10_17 = true
                                  · subst c23
                                    have H1 : (some (9223372036854775807, 0)) = some (r1, r2) := by rw [if_pos rfl] at H; exact H
                                    clear H
                                    have H := H1
                                    clear H1
                                    simp only [Option.some.injEq, Prod.mk.injEq] at H
                                    obtain ⟨rfl, rfl⟩ := H
                                    go_wp2
                                    repeat (go_quiet (fail); try go_wp2)
                                    go_ret2
                                    exact ⟨by first | rfl | (simp; done) | (simp only [← hji14, ← hji16] <;> (first | rfl | simp)) | (simp [*]; done), by repeat (first | exact Drawn0.refl _ | apply Drawn0.step)⟩
                                  · replace c23 := Bool.eq_false_iff.mpr c23
                                    subst c23
                                    have H1 : (if (IntKind.u64.wrap (x8_11 + (IntKind.u64.wrap (Int.tdiv (IntKind.u64.wrap (a1)) (IntKind.u64.wrap (a2)))))) > 9223372036854775807 then (some (9223372036854775807, 0)) else (tidewayref01_MulDiv.l0 kj17 a0 a2 (IntKind.u64.wrap (x8_11 + (IntKind.u64.wrap (Int.tdiv (IntKind.u64.wrap (a1)) (IntKind.u64.wrap (a2)))))) (IntKind.u64.wrap (x9_11 + (Int.tmod (IntKind.u64.wrap (a1)) (IntKind.u64.wrap (a2))))) false (IntKind.u64.wrap (Int.tdiv (IntKind.u64.wrap (a1)) (IntKind.u64.wrap (a2)))) (Int.tmod (IntKind.u64.wrap (a1)) (IntKind.u64.wrap (a2))) (wrap64 (x13_2 - 1)))) = some (r1, r2) := by rw [if_neg (show ¬ (false = true) by decide)] at H; exact H
                                    clear H
                                    have H := H1
                                    clear H1
                                    by_cases c24 : (IntKind.u64.wrap (x8_11 + (IntKind.u64.wrap (Int.tdiv (IntKind.u64.wrap (a1)) (IntKind.u64.wrap (a2)))))) > 9223372036854775807
                                    · rw [if_pos c24] at H
                                      have c24b0 : decide (9223372036854775807 < (IntKind.u64.wrap (x8_11 + (IntKind.u64.wrap (Int.tdiv (IntKind.u64.wrap (a1)) (IntKind.u64.wrap (a2))))))) = true := decide_eq_true c24
                                      clear c24
                                      simp only [Option.some.injEq, Prod.mk.injEq] at H
                                      obtain ⟨rfl, rfl⟩ := H
                                      go_wp2
                                      repeat (go_quiet (fail); try go_wp2)
                                      go_ret2
                                      exact ⟨by first | rfl | (simp; done) | (simp only [← hji14, ← hji16] <;> (first | rfl | simp)) | (simp [*]; done), by repeat (first | exact Drawn0.refl _ | apply Drawn0.step)⟩
                                    · rw [if_neg c24] at H
                                      have c24b0 : decide (9223372036854775807 < (IntKind.u64.wrap (x8_11 + (IntKind.u64.wrap (Int.tdiv (IntKind.u64.wrap (a1)) (IntKind.u64.wrap (a2))))))) = false := decide_eq_false c24
                                      clear c24
                                      have H' := Aside0.mk H
                                      clear H
                                      go_wp2
                                      repeat (go_quiet (fail); try go_wp2)
                                      go_roundg kj17
                                      case measure => have := HJ3.out; have := HK2.out; have := HJ9.out; have := HJ11.out; have := HJ17.out; omega
                                      case rel => exact ⟨(IntKind.u64.wrap (x8_11 + (IntKind.u64.wrap (Int.tdiv (IntKind.u64.wrap (a1)) (IntKind.u64.wrap (a2)))))), (IntKind.u64.wrap (x9_11 + (Int.tmod (IntKind.u64.wrap (a1)) (IntKind.u64.wrap (a2))))), (false), (wrap64 (x13_2 - 1)), (by first | rfl | (simp; done) | (simp [*]; done)), (by first | rfl | (simp; done) | (simp [*]; done)), (by first | rfl | (simp; done) | (simp [*]; done)), (by first | rfl | (simp; done) | (simp [*]; done)), H', ⟨by have := HJ3.out; have := HK2.out; have := HJ9.out; have := HJ11.out; have := HJ17.out; omega⟩, by repeat (first | exact Drawn0.refl _ | apply Drawn0.step)⟩
                          · rw [if_neg c17] at H
                            have c17b0 : ((Go.bits .and .i64 (ji16) 1) == 1) = false := beq_eq_false_iff_ne.mpr c17
                            have c17b1 : ((Go.bits .and .i64 (ji16) 1) != 1) = true := bne_iff_ne.mpr c17
                            by_cases c25 : x10_9 = true
                            · subst c25
                              have H1 : (some (9223372036854775807, 0)) = some (r1, r2) := by rw [if_pos rfl] at H; exact H
                              clear H
                              have H := H1
                              clear H1
                              simp only [Option.some.injEq, Prod.mk.injEq] at H
                              obtain ⟨rfl, rfl⟩ := H
                              go_wp2
                              repeat (go_quiet (fail); try go_wp2)
                              go_ret2
                              exact ⟨by first | rfl | (simp; done) | (simp only [← hji14, ← hji16] <;> (first | rfl | simp)) | (simp [*]; done), by repeat (first | exact Drawn0.refl _ | apply Drawn0.step)⟩
                            · replace c25 := Bool.eq_false_iff.mpr c25
                              subst c25
                              have H1 : (if x8_11 > 9223372036854775807 then (some (9223372036854775807, 0)) else (tidewayref01_MulDiv.l0 kj11 a0 a2 x8_11 x9_11 false (IntKind.u64.wrap (Int.tdiv (IntKind.u64.wrap (a1)) (IntKind.u64.wrap (a2)))) (Int.tmod (IntKind.u64.wrap (a1)) (IntKind.u64.wrap (a2))) (wrap64 (x13_2 - 1)))) = some (r1, r2) := by rw [if_neg (show ¬ (false = true) by decide)] at H; exact H
                              clear H
                              have H := H1
                              clear H1
                              by_cases c26 : x8_11 > 9223372036854775807
                              · rw [if_pos c26] at H
                                have c26b0 : decide (9223372036854775807 < x8_11) = true := decide_eq_true c26
                                clear c26
                                simp only [Option.some.injEq, Prod.mk.injEq] at H
                                obtain ⟨rfl, rfl⟩ := H
                                go_wp2
                                repeat (go_quiet (fail); try go_wp2)
                                go_ret2
                                exact ⟨by first | rfl | (simp; done) | (simp only [← hji14, ← hji16] <;> (first | rfl | simp)) | (simp [*]; done), by repeat (first | exact Drawn0.refl _ | apply Drawn0.step)⟩
                              · rw [if_neg c26] at H
                                have c26b0 : decide (9223372036854775807 < x8_11) = false := decide_eq_false c26
                                clear c26
                                have H' := Aside0.mk H
                                clear H
                                go_wp2
                                repeat (go_quiet (fail); try go_wp2)
                                go_roundg kj11
                                case measure => have := HJ3.out; have := HK2.out; have := HJ9.out; have := HJ11.out; omega
                                case rel => exact ⟨(x8_11), (x9_11), (false), (wrap64 (x13_2 - 1)), (by first | rfl | (simp; done) | (simp [*]; done)), (by first | rfl | (simp; done) | (simp [*]; done)), (by first | rfl | (simp; done) | (simp [*]; done)), (by first | rfl | (simp; done) | (simp [*]; done)), H', ⟨by have := HJ3.out; have := HK2.out; have := HJ9.out; have := HJ11.out; omega⟩, by repeat (first | exact Drawn0.refl _ | apply Drawn0.step)⟩
                        · rw [if_neg c15] at H
                          exact absurd H (by simp)
              · rw [if_neg c9] at H
                have c9b0 : decide (0 ≤ x13_2) = false := decide_eq_false c9
                clear c9
                simp only [Option.some.injEq, Prod.mk.injEq] at H
                obtain ⟨rfl, rfl⟩ := H
                go_wp2
                repeat (go_quiet (fail); try go_wp2)
                go_ret2
                exact ⟨by first | rfl | (simp; done) | (simp [*]; done), by repeat (first | exact Drawn0.refl _ | apply Drawn0.step)⟩

/-! ### seq_Cbrt: function 11 -/
def seq_Cbrt.l0 : Nat → Int → Int → Int → Option (Int)
  | 0, _, _, _ => none
  | k + 1, x0, x3, x6 => if x6 < 21 then (if 0 ≤ (wrap64 (20 - x6)) then (if (wrap64 ((wrap64 ((Go.bits .or .i64 x3 (shl .i64 1 (wrap64 (20 - x6)))) * (Go.bits .or .i64 x3 (shl .i64 1 (wrap64 (20 - x6)))))) * (Go.bits .or .i64 x3 (shl .i64 1 (wrap64 (20 - x6)))))) ≤ x0 then (seq_Cbrt.l0 k x0 (Go.bits .or .i64 x3 (shl .i64 1 (wrap64 (20 - x6)))) (wrap64 (x6 + 1))) else (seq_Cbrt.l0 k x0 x3 (wrap64 (x6 + 1)))) else (none)) else (some x3)
def seq_Cbrt.f (k : Nat) (a0 : Int) : Option (Int) := seq_Cbrt.l0 k a0 0 0
theorem seq_Cbrt.mono_l : ∀ k, (∀ y0 y1 y2, LeO (seq_Cbrt.l0 k y0 y1 y2) (seq_Cbrt.l0 (k + 1) y0 y1 y2))
  | 0 => fun _ _ _ r h => by simp [seq_Cbrt.l0] at h
  | k + 1 => by
    have ih0 := seq_Cbrt.mono_l k
    · intro y0 y1 y2
      unfold seq_Cbrt.l0
      repeat' first
      | (with_reducible exact ih0 _ _ _)
      | (with_reducible exact LeO.refl _)
      | (with_reducible exact LeO.none _)
      | (with_reducible refine LeO.ite ?_ ?_)
      | (with_reducible refine LeO.bind ?_ (fun _ => ?_))
      | exact ih0 _ _ _
      | exact LeO.none _
      | refine LeO.ite ?_ ?_
      | refine LeO.bind ?_ (fun _ => ?_)
theorem seq_Cbrt.mono : ∀ a0 k, LeO (seq_Cbrt.f k a0) (seq_Cbrt.f (k + 1) a0) := by
  intro a0 k
  have ih0 := seq_Cbrt.mono_l k
  unfold seq_Cbrt.f
  repeat' first
      | (with_reducible exact ih0 _ _ _)
      | (with_reducible exact LeO.refl _)
      | (with_reducible exact LeO.none _)
      | (with_reducible refine LeO.ite ?_ ?_)
      | (with_reducible refine LeO.bind ?_ (fun _ => ?_))
      | exact ih0 _ _ _
      | exact LeO.none _
      | refine LeO.ite ?_ ?_
      | refine LeO.bind ?_ (fun _ => ?_)
set_option maxHeartbeats 8000000 in
set_option maxRecDepth 100000 in
theorem seq_Cbrt.calls (k : Nat) (a0 : Int) (r : Int) (w : World) (h : seq_Cbrt.f k a0 = some r) :
    Calls Try.prog 11 #[.int .i64 a0] w fun e w' => e = .returned (.int .i64 r) ∧ Drawn0 w w' := by
  have H : (seq_Cbrt.l0 k a0 0 0) = some r := h
  clear h
  have H' := Aside0.mk H
  clear H
  go_enter Try.func11, Try.ntmps11
  go_wp2
  go_loopg [3, 6] k (fun kq v3 v6 w' => ∃ (x3_1 : Int) (x6_1 : Int), v3 = .int .i64 x3_1 ∧ v6 = .int .i64 x6_1 ∧ Aside0 (seq_Cbrt.l0 kq a0 x3_1 x6_1 = some r) ∧ Aside0 (kq ≤ k) ∧ Drawn0 w w')
  case atStart => exact ⟨(0), (0), (by first | rfl | (simp; done) | (simp [*]; done)), (by first | rfl | (simp; done) | (simp [*]; done)), H', ⟨Nat.le_refl _⟩, by repeat (first | exact Drawn0.refl _ | apply Drawn0.step)⟩
  case round =>
    clear H'
    try clear c1
    obtain ⟨x3_1, x6_1, rfl, rfl, HA, HK1, ⟨m1, rfl⟩⟩ := hrel
    cases gk with
    | zero => exact absurd HA.out (by simp [seq_Cbrt.l0])
    | succ k1 =>
      have H := HA.out
      clear HA
      simp only [seq_Cbrt.l0] at H
      by_cases c2 : x6_1 < 21
      · rw [if_pos c2] at H
        have c2b0 : decide (x6_1 < 21) = true := decide_eq_true c2
        clear c2
        obtain ⟨ji3, hji3⟩ : ∃ j_ : Int, (wrap64 (20 - x6_1)) = j_ := ⟨_, rfl⟩
        replace H : (if 0 ≤ (ji3) then (if (wrap64 ((wrap64 ((Go.bits .or .i64 x3_1 (shl .i64 1 (ji3))) * (Go.bits .or .i64 x3_1 (shl .i64 1 (ji3))))) * (Go.bits .or .i64 x3_1 (shl .i64 1 (ji3))))) ≤ a0 then (seq_Cbrt.l0 k1 a0 (Go.bits .or .i64 x3_1 (shl .i64 1 (ji3))) (wrap64 (x6_1 + 1))) else (seq_Cbrt.l0 k1 a0 x3_1 (wrap64 (x6_1 + 1)))) else (none)) = some r := by first | (rw [hji3] at H; exact H) | (simp only [hji3] at H ⊢; exact H)
        have hji3w : (IntKind.i64.wrap (20 - x6_1)) = ji3 := (i64_w _).trans hji3
        by_cases c4 : 0 ≤ (ji3)
        · rw [if_pos c4] at H
          have c4b0 := eq_true c4
          have c4b1 : decide (0 ≤ (ji3)) = true := decide_eq_true c4
          clear c4
          obtain ⟨ji5, hji5⟩ : ∃ j_ : Int, (shl .i64 1 (ji3)) = j_ := ⟨_, rfl⟩
          replace H : (if (wrap64 ((wrap64 ((Go.bits .or .i64 x3_1 (ji5)) * (Go.bits .or .i64 x3_1 (ji5)))) * (Go.bits .or .i64 x3_1 (ji5)))) ≤ a0 then (seq_Cbrt.l0 k1 a0 (Go.bits .or .i64 x3_1 (ji5)) (wrap64 (x6_1 + 1))) else (seq_Cbrt.l0 k1 a0 x3_1 (wrap64 (x6_1 + 1)))) = some r := by first | (rw [hji5] at H; exact H) | (simp only [hji5] at H ⊢; exact H)
          have hji5_ : (IntKind.i64.wrap (1 * 2 ^ min (ji3).toNat 64)) = ji5 := hji5
          have hji5z : (ji3) ≤ 64 → (IntKind.i64.wrap (1 * 2 ^ (ji3).toNat)) = ji5 := shl_small hji5
          have hji5u : (IntKind.i64.wrap (2 ^ min (ji3).toNat 64)) = ji5 := by have h_ := hji5_; rw [Int.one_mul] at h_; exact h_
          have hji5v : (ji3) ≤ 64 → (IntKind.i64.wrap (2 ^ (ji3).toNat)) = ji5 := fun hle_ => by have h_ := hji5z hle_; rw [Int.one_mul] at h_; exact h_
          have hji5y : (wrap64 (1 * 2 ^ min (ji3).toNat 64)) = ji5 := (i64_w _).symm.trans hji5_
          have hji5x : (ji3) ≤ 64 → (wrap64 (1 * 2 ^ (ji3).toNat)) = ji5 := fun h_ => (i64_w _).symm.trans (hji5z h_)
          by_cases c6 : (wrap64 ((wrap64 ((Go.bits .or .i64 x3_1 (ji5)) * (Go.bits .or .i64 x3_1 (ji5)))) * (Go.bits .or .i64 x3_1 (ji5)))) ≤ a0
          · rw [if_pos c6] at H
            have c6b0 : decide ((wrap64 ((wrap64 ((Go.bits .or .i64 x3_1 (ji5)) * (Go.bits .or .i64 x3_1 (ji5)))) * (Go.bits .or .i64 x3_1 (ji5)))) ≤ a0) = true := decide_eq_true c6
            clear c6
            have H' := Aside0.mk H
            clear H
            go_wp2
            go_roundg k1
            case measure => have := HK1.out; omega
            case rel => exact ⟨(Go.bits .or .i64 x3_1 (ji5)), (wrap64 (x6_1 + 1)), (by first | rfl | (simp; done) | (simp only [← hji5] <;> (first | rfl | simp)) | (simp [*]; done)), (by first | rfl | (simp; done) | (simp [*]; done)), H', ⟨by have := HK1.out; omega⟩, by repeat (first | exact Drawn0.refl _ | apply Drawn0.step)⟩
          · rw [if_neg c6] at H
            have c6b0 : decide ((wrap64 ((wrap64 ((Go.bits .or .i64 x3_1 (ji5)) * (Go.bits .or .i64 x3_1 (ji5)))) * (Go.bits .or .i64 x3_1 (ji5)))) ≤ a0) = false := decide_eq_false c6
            clear c6
            have H' := Aside0.mk H
            clear H
            go_wp2
            go_roundg k1
            case measure => have := HK1.out; omega
            case rel => exact ⟨(x3_1), (wrap64 (x6_1 + 1)), (by first | rfl | (simp; done) | (simp [*]; done)), (by first | rfl | (simp; done) | (simp [*]; done)), H', ⟨by have := HK1.out; omega⟩, by repeat (first | exact Drawn0.refl _ | apply Drawn0.step)⟩
        · rw [if_neg c4] at H
          exact absurd H (by simp)
      · rw [if_neg c2] at H
        have c2b0 : decide (x6_1 < 21) = false := decide_eq_false c2
        clear c2
        obtain rfl := Option.some.inj H
        go_wp2
        go_ret
        exact ⟨by first | rfl | (simp; done) | (simp [*]; done), by repeat (first | exact Drawn0.refl _ | apply Drawn0.step)⟩

end Go.Proofs.Ytpebhhpmcjaioaa.PA
