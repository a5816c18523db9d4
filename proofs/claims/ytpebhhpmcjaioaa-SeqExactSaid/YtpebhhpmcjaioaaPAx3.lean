-- Written by a session's program (wip/tools/myprint.py) out of the translation, by way of the kit's printer. Lean checks it.
import Derived.Test.YtpebhhpmcjaioaaPAx0
import Derived.Test.YtpebhhpmcjaioaaPAx2
namespace Go.Proofs.Ytpebhhpmcjaioaa.PA
open Go.RowKit Go.Proofs.YtpebhhpmcjaioaaW.PrintWords Go.Proofs.YtpebhhpmcjaioaaW.PrintLast Go.Proofs.YtpebhhpmcjaioaaW.PrintMore
attribute [local go_sem] max2_int min2_int max_two min_two max_three min_three max_four min_four   -- for this text's walks alone
set_option linter.unusedVariables false
set_option linter.unusedSimpArgs false

/-! ### tidewayref01_Cbrt: function 12 -/
def tidewayref01_Cbrt.l0 : Nat → Int → Int → Int → Option (Int)
  | 0, _, _, _ => none
  | k + 1, x0, x3, x4 => if x3 < x4 then (if (wrap64 ((wrap64 ((wrap64 (Int.tdiv (wrap64 ((wrap64 (x3 + x4)) + 1)) 2)) * (wrap64 (Int.tdiv (wrap64 ((wrap64 (x3 + x4)) + 1)) 2)))) * (wrap64 (Int.tdiv (wrap64 ((wrap64 (x3 + x4)) + 1)) 2)))) ≤ x0 then (tidewayref01_Cbrt.l0 k x0 (wrap64 (Int.tdiv (wrap64 ((wrap64 (x3 + x4)) + 1)) 2)) x4) else (tidewayref01_Cbrt.l0 k x0 x3 (wrap64 ((wrap64 (Int.tdiv (wrap64 ((wrap64 (x3 + x4)) + 1)) 2)) - 1)))) else (some x3)
def tidewayref01_Cbrt.f (k : Nat) (a0 : Int) : Option (Int) := tidewayref01_Cbrt.l0 k a0 0 2097151
theorem tidewayref01_Cbrt.mono_l : ∀ k, (∀ y0 y1 y2, LeO (tidewayref01_Cbrt.l0 k y0 y1 y2) (tidewayref01_Cbrt.l0 (k + 1) y0 y1 y2))
  | 0 => fun _ _ _ r h => by simp [tidewayref01_Cbrt.l0] at h
  | k + 1 => by
    have ih0 := tidewayref01_Cbrt.mono_l k
    · intro y0 y1 y2
      unfold tidewayref01_Cbrt.l0
      repeat' first
      | (with_reducible exact ih0 _ _ _)
      | (with_reducible exact LeO.refl _)
      | (with_reducible exact LeO.none _)
      | (with_reducible refine LeO.ite ?_ ?_)
      | (with_reducible refine LeO.bind ?_ (fun _ => ?_))
      | exact ih0 _ _ _
      | exact LeO.none _
      | refine LeO.ite ?_ ?_
      | refine LeO.bind ?_ (fun _ => ?_)
theorem tidewayref01_Cbrt.mono : ∀ a0 k, LeO (tidewayref01_Cbrt.f k a0) (tidewayref01_Cbrt.f (k + 1) a0) := by
  intro a0 k
  have ih0 := tidewayref01_Cbrt.mono_l k
  unfold tidewayref01_Cbrt.f
  repeat' first
      | (with_reducible exact ih0 _ _ _)
      | (with_reducible exact LeO.refl _)
      | (with_reducible exact LeO.none _)
      | (with_reducible refine LeO.ite ?_ ?_)
      | (with_reducible refine LeO.bind ?_ (fun _ => ?_))
      | exact ih0 _ _ _
      | exact LeO.none _
      | refine LeO.ite ?_ ?_
      | refine LeO.bind ?_ (fun _ => ?_)
set_option maxHeartbeats 8000000 in
set_option maxRecDepth 100000 in
theorem tidewayref01_Cbrt.calls (k : Nat) (a0 : Int) (r : Int) (w : World) (h : tidewayref01_Cbrt.f k a0 = some r) :
    Calls Try.prog 12 #[.int .i64 a0] w fun e w' => e = .returned (.int .i64 r) ∧ Drawn0 w w' := by
  have H : (tidewayref01_Cbrt.l0 k a0 0 2097151) = some r := h
  clear h
  have H' := Aside0.mk H
  clear H
  go_enter Try.func12, Try.ntmps12
  go_wp2
  go_loopg [3, 4] k (fun kq v3 v4 w' => ∃ (x3_1 : Int) (x4_1 : Int), v3 = .int .i64 x3_1 ∧ v4 = .int .i64 x4_1 ∧ Aside0 (tidewayref01_Cbrt.l0 kq a0 x3_1 x4_1 = some r) ∧ Aside0 (kq ≤ k) ∧ Drawn0 w w')
  case atStart => exact ⟨(0), (2097151), (by first | rfl | (simp; done) | (simp [*]; done)), (by first | rfl | (simp; done) | (simp [*]; done)), H', ⟨Nat.le_refl _⟩, by repeat (first | exact Drawn0.refl _ | apply Drawn0.step)⟩
  case round =>
    clear H'
    try clear c1
    obtain ⟨x3_1, x4_1, rfl, rfl, HA, HK1, ⟨m1, rfl⟩⟩ := hrel
    cases gk with
    | zero => exact absurd HA.out (by simp [tidewayref01_Cbrt.l0])
    | succ k1 =>
      have H := HA.out
      clear HA
      simp only [tidewayref01_Cbrt.l0] at H
      by_cases c2 : x3_1 < x4_1
      · rw [if_pos c2] at H
        have c2b0 : decide (x3_1 < x4_1) = true := decide_eq_true c2
        clear c2
        by_cases c3 : (wrap64 ((wrap64 ((wrap64 (Int.tdiv (wrap64 ((wrap64 (x3_1 + x4_1)) + 1)) 2)) * (wrap64 (Int.tdiv (wrap64 ((wrap64 (x3_1 + x4_1)) + 1)) 2)))) * (wrap64 (Int.tdiv (wrap64 ((wrap64 (x3_1 + x4_1)) + 1)) 2)))) ≤ a0
        · rw [if_pos c3] at H
          have c3b0 : decide ((wrap64 ((wrap64 ((wrap64 (Int.tdiv (wrap64 ((wrap64 (x3_1 + x4_1)) + 1)) 2)) * (wrap64 (Int.tdiv (wrap64 ((wrap64 (x3_1 + x4_1)) + 1)) 2)))) * (wrap64 (Int.tdiv (wrap64 ((wrap64 (x3_1 + x4_1)) + 1)) 2)))) ≤ a0) = true := decide_eq_true c3
          clear c3
          have H' := Aside0.mk H
          clear H
          go_wp2
          go_roundg k1
          case measure => have := HK1.out; omega
          case rel => exact ⟨(wrap64 (Int.tdiv (wrap64 ((wrap64 (x3_1 + x4_1)) + 1)) 2)), (x4_1), (by first | rfl | (simp; done) | (simp [*]; done)), (by first | rfl | (simp; done) | (simp [*]; done)), H', ⟨by have := HK1.out; omega⟩, by repeat (first | exact Drawn0.refl _ | apply Drawn0.step)⟩
        · rw [if_neg c3] at H
          have c3b0 : decide ((wrap64 ((wrap64 ((wrap64 (Int.tdiv (wrap64 ((wrap64 (x3_1 + x4_1)) + 1)) 2)) * (wrap64 (Int.tdiv (wrap64 ((wrap64 (x3_1 + x4_1)) + 1)) 2)))) * (wrap64 (Int.tdiv (wrap64 ((wrap64 (x3_1 + x4_1)) + 1)) 2)))) ≤ a0) = false := decide_eq_false c3
          clear c3
          have H' := Aside0.mk H
          clear H
          go_wp2
          go_roundg k1
          case measure => have := HK1.out; omega
          case rel => exact ⟨(x3_1), (wrap64 ((wrap64 (Int.tdiv (wrap64 ((wrap64 (x3_1 + x4_1)) + 1)) 2)) - 1)), (by first | rfl | (simp; done) | (simp [*]; done)), (by first | rfl | (simp; done) | (simp [*]; done)), H', ⟨by have := HK1.out; omega⟩, by repeat (first | exact Drawn0.refl _ | apply Drawn0.step)⟩
      · rw [if_neg c2] at H
        have c2b0 : decide (x3_1 < x4_1) = false := decide_eq_false c2
        clear c2
        obtain rfl := Option.some.inj H
        go_wp2
        go_ret
        exact ⟨by first | rfl | (simp; done) | (simp [*]; done), by repeat (first | exact Drawn0.refl _ | apply Drawn0.step)⟩

/-! ### seq_Add: function 14 -/
def seq_Add.f (a0 : Int) (a1 : Int) : Option (Int) := some ((a0 + ((a1) % 4294967296)) % 4294967296)
set_option maxHeartbeats 8000000 in
set_option maxRecDepth 100000 in
theorem seq_Add.calls (a0 : Int) (a1 : Int) (r : Int) (w : World) (h : seq_Add.f a0 a1 = some r) :
    Calls Try.prog 14 #[.int .u32 a0, .int .i64 a1] w fun e w' => e = .returned (.int .u32 r) ∧ Drawn0 w w' := by
  have H : (some ((a0 + ((a1) % 4294967296)) % 4294967296)) = some r := h
  clear h
  obtain rfl := Option.some.inj H
  go_enter Try.func14, Try.ntmps14
  go_wp2
  go_ret
  exact ⟨by first | rfl | (simp; done) | (simp [*]; done), by repeat (first | exact Drawn0.refl _ | apply Drawn0.step)⟩

/-! ### seq_Diff: function 16 -/
def seq_Diff.f (a0 : Int) (a1 : Int) : Option (Int) := some (wrap64 (wrap32 ((a1 - a0) % 4294967296)))
set_option maxHeartbeats 8000000 in
set_option maxRecDepth 100000 in
theorem seq_Diff.calls (a0 : Int) (a1 : Int) (r : Int) (w : World) (h : seq_Diff.f a0 a1 = some r) :
    Calls Try.prog 16 #[.int .u32 a0, .int .u32 a1] w fun e w' => e = .returned (.int .i64 r) ∧ Drawn0 w w' := by
  have H : (some (wrap64 (wrap32 ((a1 - a0) % 4294967296)))) = some r := h
  clear h
  obtain rfl := Option.some.inj H
  go_enter Try.func16, Try.ntmps16
  go_wp2
  go_ret
  exact ⟨by first | rfl | (simp; done) | (simp [*]; done), by repeat (first | exact Drawn0.refl _ | apply Drawn0.step)⟩

/-! ### seq_Sum: function 24 -/
def seq_Sum.j0 : Nat → Int → Int → Int → Bool → Option (Int)
  | 0, _, _, _, _ => none
  | k + 1, x0, x1, x5, x9 => if x9 = true then (some 9223372036854775807) else (if x0 < 0 then (if x1 < 0 then (if x5 ≥ 0 then (some (-9223372036854775808)) else (some x5)) else (some x5)) else (some x5))
def seq_Sum.f (k : Nat) (a0 : Int) (a1 : Int) : Option (Int) := if a0 > 0 then (if a1 > 0 then (seq_Sum.j0 k a0 a1 (wrap64 (a0 + a1)) (decide ((wrap64 (a0 + a1)) < 0))) else (seq_Sum.j0 k a0 a1 (wrap64 (a0 + a1)) false)) else (seq_Sum.j0 k a0 a1 (wrap64 (a0 + a1)) false)
theorem seq_Sum.mono_l : ∀ k, (∀ y0 y1 y2 y3, LeO (seq_Sum.j0 k y0 y1 y2 y3) (seq_Sum.j0 (k + 1) y0 y1 y2 y3))
  | 0 => fun _ _ _ _ r h => by simp [seq_Sum.j0] at h
  | k + 1 => by
    have ih0 := seq_Sum.mono_l k
    · intro y0 y1 y2 y3
      unfold seq_Sum.j0
      repeat' first
      | (with_reducible exact ih0 _ _ _ _)
      | (with_reducible exact LeO.refl _)
      | (with_reducible exact LeO.none _)
      | (with_reducible refine LeO.ite ?_ ?_)
      | (with_reducible refine LeO.bind ?_ (fun _ => ?_))
      | exact ih0 _ _ _ _
      | exact LeO.none _
      | refine LeO.ite ?_ ?_
      | refine LeO.bind ?_ (fun _ => ?_)
theorem seq_Sum.mono : ∀ a0 a1 k, LeO (seq_Sum.f k a0 a1) (seq_Sum.f (k + 1) a0 a1) := by
  intro a0 a1 k
  have ih0 := seq_Sum.mono_l k
  unfold seq_Sum.f
  repeat' first
      | (with_reducible exact ih0 _ _ _ _)
      | (with_reducible exact LeO.refl _)
      | (with_reducible exact LeO.none _)
      | (with_reducible refine LeO.ite ?_ ?_)
      | (with_reducible refine LeO.bind ?_ (fun _ => ?_))
      | exact ih0 _ _ _ _
      | exact LeO.none _
      | refine LeO.ite ?_ ?_
      | refine LeO.bind ?_ (fun _ => ?_)
set_option maxHeartbeats 8000000 in
set_option maxRecDepth 100000 in
theorem seq_Sum.calls (k : Nat) (a0 : Int) (a1 : Int) (r : Int) (w : World) (h : seq_Sum.f k a0 a1 = some r) :
    Calls Try.prog 24 #[.int .i64 a0, .int .i64 a1] w fun e w' => e = .returned (.int .i64 r) ∧ Drawn0 w w' := by
  have H : (if a0 > 0 then (if a1 > 0 then (seq_Sum.j0 k a0 a1 (wrap64 (a0 + a1)) (decide ((wrap64 (a0 + a1)) < 0))) else (seq_Sum.j0 k a0 a1 (wrap64 (a0 + a1)) false)) else (seq_Sum.j0 k a0 a1 (wrap64 (a0 + a1)) false)) = some r := h
  clear h
  have HC3 := Aside0.mk H
  clear H
  go_enter Try.func24, Try.ntmps24
  go_upto_region 2 with (fail)
  go_cut [9] (fun v9 wc => ∃ (kq : Nat) (x9_2 : Bool), v9 = .bool x9_2 ∧ Aside0 (seq_Sum.j0 kq a0 a1 (wrap64 (a0 + a1)) x9_2 = some r) ∧ Aside0 (kq ≤ k) ∧ Drawn0 w wc)
  case first =>
    have H := HC3.out
    clear HC3
    by_cases c4 : a0 > 0
    · rw [if_pos c4] at H
      have c4b0 : decide (0 < a0) = true := decide_eq_true c4
      clear c4
      (first | rw [c4b0] | (simp only [i64_w, i32_w]; rw [c4b0]) | skip)
      by_cases c5 : a1 > 0
      · rw [if_pos c5] at H
        have c5b0 : decide (0 < a1) = true := decide_eq_true c5
        clear c5
        have H' := Aside0.mk H
        clear H
        go_wp2
        go_meet
        case rel => exact ⟨_, (decide ((wrap64 (a0 + a1)) < 0)), (by first | rfl | (simp; done) | (simp [*]; done)), H', ⟨by first | omega | exact Nat.le_refl _⟩, by repeat (first | exact Drawn0.refl _ | apply Drawn0.step)⟩
      · rw [if_neg c5] at H
        have c5b0 : decide (0 < a1) = false := decide_eq_false c5
        clear c5
        have H' := Aside0.mk H
        clear H
        go_wp2
        go_meet
        case rel => exact ⟨_, (false), (by first | rfl | (simp; done) | (simp [*]; done)), H', ⟨by first | omega | exact Nat.le_refl _⟩, by repeat (first | exact Drawn0.refl _ | apply Drawn0.step)⟩
    · rw [if_neg c4] at H
      have c4b0 : decide (0 < a0) = false := decide_eq_false c4
      clear c4
      (first | rw [c4b0] | (simp only [i64_w, i32_w]; rw [c4b0]) | skip)
      have H' := Aside0.mk H
      clear H
      go_wp2
      go_meet
      case rel => exact ⟨_, (false), (by first | rfl | (simp; done) | (simp [*]; done)), H', ⟨by first | omega | exact Nat.le_refl _⟩, by repeat (first | exact Drawn0.refl _ | apply Drawn0.step)⟩
  case rest =>
    clear HC3
    try clear c2
    try clear p2
    try clear c4
    try clear c4b0
    try clear c5
    try clear c5b0
    obtain ⟨kq, x9_2, rfl, HA, HJ2, ⟨mc2, rfl⟩⟩ := hcut
    cases kq with
    | zero => exact absurd HA.out (by simp [seq_Sum.j0])
    | succ kj2 =>
      have H := HA.out
      clear HA
      simp only [seq_Sum.j0] at H
      by_cases c6 : x9_2 = true
      · subst c6
        have H1 : (some 9223372036854775807) = some r := by rw [if_pos rfl] at H; exact H
        clear H
        have H := H1
        clear H1
        obtain rfl := Option.some.inj H
        go_wp2
        go_ret
        exact ⟨by first | rfl | (simp; done) | (simp [*]; done), by repeat (first | exact Drawn0.refl _ | apply Drawn0.step)⟩
      · replace c6 := Bool.eq_false_iff.mpr c6
        subst c6
        have H1 : (if a0 < 0 then (if a1 < 0 then (if (wrap64 (a0 + a1)) ≥ 0 then (some (-9223372036854775808)) else (some (wrap64 (a0 + a1)))) else (some (wrap64 (a0 + a1)))) else (some (wrap64 (a0 + a1)))) = some r := by rw [if_neg (show ¬ (false = true) by decide)] at H; exact H
        clear H
        have H := H1
        clear H1
        by_cases c7 : a0 < 0
        · rw [if_pos c7] at H
          have c7b0 : decide (a0 < 0) = true := decide_eq_true c7
          clear c7
          by_cases c8 : a1 < 0
          · rw [if_pos c8] at H
            have c8b0 : decide (a1 < 0) = true := decide_eq_true c8
            clear c8
            by_cases c9 : (wrap64 (a0 + a1)) ≥ 0
            · rw [if_pos c9] at H
              have c9b0 : decide (0 ≤ (wrap64 (a0 + a1))) = true := decide_eq_true c9
              clear c9
              obtain rfl := Option.some.inj H
              go_wp2
              go_ret
              exact ⟨by first | rfl | (simp; done) | (simp [*]; done), by repeat (first | exact Drawn0.refl _ | apply Drawn0.step)⟩
            · rw [if_neg c9] at H
              have c9b0 : decide (0 ≤ (wrap64 (a0 + a1))) = false := decide_eq_false c9
              clear c9
              obtain rfl := Option.some.inj H
              go_wp2
              go_ret
              exact ⟨by first | rfl | (simp; done) | (simp [*]; done), by repeat (first | exact Drawn0.refl _ | apply Drawn0.step)⟩
          · rw [if_neg c8] at H
            have c8b0 : decide (a1 < 0) = false := decide_eq_false c8
            clear c8
            obtain rfl := Option.some.inj H
            go_wp2
            go_ret
            exact ⟨by first | rfl | (simp; done) | (simp [*]; done), by repeat (first | exact Drawn0.refl _ | apply Drawn0.step)⟩
        · rw [if_neg c7] at H
          have c7b0 : decide (a0 < 0) = false := decide_eq_false c7
          clear c7
          obtain rfl := Option.some.inj H
          go_wp2
          go_ret
          exact ⟨by first | rfl | (simp; done) | (simp [*]; done), by repeat (first | exact Drawn0.refl _ | apply Drawn0.step)⟩

/-! ### seq_Unwrap: function 15 -/
def seq_Unwrap.f (k : Nat) (a0 : Int) (a1 : Int) : Option (Int) := (seq_Diff.f ((a0) % 4294967296) a1).bind fun t107 => ((seq_Sum.f k a0 t107).bind fun t108 => (some t108))
theorem seq_Unwrap.mono : ∀ a0 a1 k, LeO (seq_Unwrap.f k a0 a1) (seq_Unwrap.f (k + 1) a0 a1) := by
  intro a0 a1 k
  unfold seq_Unwrap.f
  repeat' first
      | (with_reducible exact seq_Sum.mono _ _ _)
      | (with_reducible exact LeO.refl _)
      | (with_reducible exact LeO.none _)
      | (with_reducible refine LeO.ite ?_ ?_)
      | (with_reducible refine LeO.bind ?_ (fun _ => ?_))
      | exact seq_Sum.mono _ _ _
      | exact LeO.none _
      | refine LeO.ite ?_ ?_
      | refine LeO.bind ?_ (fun _ => ?_)
set_option maxHeartbeats 8000000 in
set_option maxRecDepth 100000 in
theorem seq_Unwrap.calls (k : Nat) (a0 : Int) (a1 : Int) (r : Int) (w : World) (h : seq_Unwrap.f k a0 a1 = some r) :
    Calls Try.prog 15 #[.int .i64 a0, .int .u32 a1] w fun e w' => e = .returned (.int .i64 r) ∧ Drawn0 w w' := by
  have H : ((seq_Diff.f ((a0) % 4294967296) a1).bind fun t107 => ((seq_Sum.f k a0 t107).bind fun t108 => (some t108))) = some r := h
  clear h
  replace H := Option.bind_eq_some_iff.mp H
  obtain ⟨t107, A30, H⟩ := H
  replace H : ((seq_Sum.f k a0 t107).bind fun t108 => (some t108)) = some r := H
  have A3 := Aside0.mk A30
  clear A30
  replace H := Option.bind_eq_some_iff.mp H
  obtain ⟨t108, A40, H⟩ := H
  replace H : (some t108) = some r := H
  have A4 := Aside0.mk A40
  clear A40
  obtain rfl := Option.some.inj H
  go_enter Try.func15, Try.ntmps15
  go_wp2_with (first | ((with_reducible refine gate_callee (f := 16) rfl ?_); refine goesL_ (some 9) rfl rfl Try.func16 (by kernel_rfl) rfl #[.int .u32 ((a0) % 4294967296), .int .u32 a1] rfl (by (try simp only [List.map_toArray, List.map_cons, List.map_nil]); first | done | rfl | (simp only [List.length_drop, List.length_take]; rfl)) ?_; (with_reducible refine (seq_Diff.calls ((a0) % 4294967296) a1 t107 _ A3.out).mono ?_); rintro e w' ⟨rfl, ⟨nd, rfl⟩⟩; refine ⟨_, rfl, ?_⟩) | ((with_reducible refine gate_callee (f := 24) rfl ?_); refine goesL_ (some 10) rfl rfl Try.func24 (by kernel_rfl) rfl #[.int .i64 a0, .int .i64 t107] rfl (by (try simp only [List.map_toArray, List.map_cons, List.map_nil]); first | done | rfl | (simp only [List.length_drop, List.length_take]; rfl)) ?_; (with_reducible refine (seq_Sum.calls k a0 t107 t108 _ A4.out).mono ?_); rintro e w' ⟨rfl, ⟨nd, rfl⟩⟩; refine ⟨_, rfl, ?_⟩))
  go_ret
  exact ⟨by first | rfl | (simp; done) | (simp [*]; done), by repeat (first | exact Drawn0.refl _ | apply Drawn0.step)⟩

/-! ### seq_Less: function 17 -/
def seq_Less.f (a0 : Int) (a1 : Int) : Option (Bool) := (seq_Diff.f a0 a1).bind fun t109 => (some (decide (t109 > 0)))
set_option maxHeartbeats 8000000 in
set_option maxRecDepth 100000 in
theorem seq_Less.calls (a0 : Int) (a1 : Int) (r : Bool) (w : World) (h : seq_Less.f a0 a1 = some r) :
    Calls Try.prog 17 #[.int .u32 a0, .int .u32 a1] w fun e w' => e = .returned (.bool r) ∧ Drawn0 w w' := by
  have H : ((seq_Diff.f a0 a1).bind fun t109 => (some (decide (t109 > 0)))) = some r := h
  clear h
  replace H := Option.bind_eq_some_iff.mp H
  obtain ⟨t109, A30, H⟩ := H
  replace H : (some (decide (t109 > 0))) = some r := H
  have A3 := Aside0.mk A30
  clear A30
  obtain rfl := Option.some.inj H
  go_enter Try.func17, Try.ntmps17
  go_wp2_with (first | ((with_reducible refine gate_callee (f := 16) rfl ?_); refine goesL_ (some 7) rfl rfl Try.func16 (by kernel_rfl) rfl #[.int .u32 a0, .int .u32 a1] rfl (by (try simp only [List.map_toArray, List.map_cons, List.map_nil]); first | done | rfl | (simp only [List.length_drop, List.length_take]; rfl)) ?_; (with_reducible refine (seq_Diff.calls a0 a1 t109 _ A3.out).mono ?_); rintro e w' ⟨rfl, ⟨nd, rfl⟩⟩; refine ⟨_, rfl, ?_⟩))
  go_ret
  exact ⟨by first | rfl | (simp; done) | (simp [*]; done), by repeat (first | exact Drawn0.refl _ | apply Drawn0.step)⟩

/-! ### tidewaylaw01_heads: function 13 -/
def tidewaylaw01_heads.f (k : Nat)  : Option (Bool) := (seq_MulDiv.f k 4611686018427387904 6 8).bind fun bt110 => ((seq_MulDiv.f k 1 1 0).bind fun bt112 => ((seq_Diff.f 4294967295 1).bind fun t114 => (if t114 = 2 then ((seq_Less.f 1 4294967295).bind fun t115 => (if t115 = true then (none) else ((seq_Unwrap.f k 4294967300 3).bind fun t116 => (if t116 = 4294967299 then (if bt110.1 = 3458764513820540928 then (if bt110.2 = 0 then (if bt112.2 = 2 then ((seq_Cbrt.f k 26).bind fun t117 => (if t117 = 2 then ((seq_Add.f 5 (-6)).bind fun t118 => (some (t118 == 4294967295))) else (none))) else (none)) else (none)) else (none)) else (none))))) else (none))))
theorem tidewaylaw01_heads.mono : ∀ k, LeO (tidewaylaw01_heads.f k ) (tidewaylaw01_heads.f (k + 1) ) := by
  intro  k
  unfold tidewaylaw01_heads.f
  repeat' first
      | (with_reducible exact seq_Cbrt.mono _ _)
      | (with_reducible exact seq_MulDiv.mono _ _ _ _)
      | (with_reducible exact seq_Unwrap.mono _ _ _)
      | (with_reducible exact LeO.refl _)
      | (with_reducible exact LeO.none _)
      | (with_reducible refine LeO.ite ?_ ?_)
      | (with_reducible refine LeO.bind ?_ (fun _ => ?_))
      | exact seq_Cbrt.mono _ _
      | exact seq_MulDiv.mono _ _ _ _
      | exact seq_Unwrap.mono _ _ _
      | exact LeO.none _
      | refine LeO.ite ?_ ?_
      | refine LeO.bind ?_ (fun _ => ?_)
set_option maxHeartbeats 8000000 in
set_option maxRecDepth 100000 in
theorem tidewaylaw01_heads.calls (k : Nat)  (r : Bool) (w : World) (h : tidewaylaw01_heads.f k  = some r) :
    Calls Try.prog 13 #[] w fun e w' => e = .returned (.bool r) ∧ Below w.heap.size w w' := by
  have HB := Aside0.mk (Below.refl w.heap.size w)
  have H : ((seq_MulDiv.f k 4611686018427387904 6 8).bind fun bt110 => ((seq_MulDiv.f k 1 1 0).bind fun bt112 => ((seq_Diff.f 4294967295 1).bind fun t114 => (if t114 = 2 then ((seq_Less.f 1 4294967295).bind fun t115 => (if t115 = true then (none) else ((seq_Unwrap.f k 4294967300 3).bind fun t116 => (if t116 = 4294967299 then (if bt110.1 = 3458764513820540928 then (if bt110.2 = 0 then (if bt112.2 = 2 then ((seq_Cbrt.f k 26).bind fun t117 => (if t117 = 2 then ((seq_Add.f 5 (-6)).bind fun t118 => (some (t118 == 4294967295))) else (none))) else (none)) else (none)) else (none)) else (none))))) else (none))))) = some r := h
  clear h
  replace H := Option.bind_eq_some_iff.mp H
  obtain ⟨⟨t110, t111⟩, A10, H⟩ := H
  replace H : ((seq_MulDiv.f k 1 1 0).bind fun bt112 => ((seq_Diff.f 4294967295 1).bind fun t114 => (if t114 = 2 then ((seq_Less.f 1 4294967295).bind fun t115 => (if t115 = true then (none) else ((seq_Unwrap.f k 4294967300 3).bind fun t116 => (if t116 = 4294967299 then (if t110 = 3458764513820540928 then (if t111 = 0 then (if bt112.2 = 2 then ((seq_Cbrt.f k 26).bind fun t117 => (if t117 = 2 then ((seq_Add.f 5 (-6)).bind fun t118 => (some (t118 == 4294967295))) else (none))) else (none)) else (none)) else (none)) else (none))))) else (none)))) = some r := H
  have A1 := Aside0.mk A10
  clear A10
  replace H := Option.bind_eq_some_iff.mp H
  obtain ⟨⟨t112, t113⟩, A20, H⟩ := H
  replace H : ((seq_Diff.f 4294967295 1).bind fun t114 => (if t114 = 2 then ((seq_Less.f 1 4294967295).bind fun t115 => (if t115 = true then (none) else ((seq_Unwrap.f k 4294967300 3).bind fun t116 => (if t116 = 4294967299 then (if t110 = 3458764513820540928 then (if t111 = 0 then (if t113 = 2 then ((seq_Cbrt.f k 26).bind fun t117 => (if t117 = 2 then ((seq_Add.f 5 (-6)).bind fun t118 => (some (t118 == 4294967295))) else (none))) else (none)) else (none)) else (none)) else (none))))) else (none))) = some r := H
  have A2 := Aside0.mk A20
  clear A20
  replace H := Option.bind_eq_some_iff.mp H
  obtain ⟨t114, A30, H⟩ := H
  replace H : (if t114 = 2 then ((seq_Less.f 1 4294967295).bind fun t115 => (if t115 = true then (none) else ((seq_Unwrap.f k 4294967300 3).bind fun t116 => (if t116 = 4294967299 then (if t110 = 3458764513820540928 then (if t111 = 0 then (if t113 = 2 then ((seq_Cbrt.f k 26).bind fun t117 => (if t117 = 2 then ((seq_Add.f 5 (-6)).bind fun t118 => (some (t118 == 4294967295))) else (none))) else (none)) else (none)) else (none)) else (none))))) else (none)) = some r := H
  have A3 := Aside0.mk A30
  clear A30
  by_cases c4 : t114 = 2
  · rw [if_pos c4] at H
    have c4b0 : (t114 == 2) = true := beq_iff_eq.mpr c4
    have c4b1 : (t114 != 2) = false := bne_eq_false_iff_eq.mpr c4
    clear c4
    replace H := Option.bind_eq_some_iff.mp H
    obtain ⟨t115, A50, H⟩ := H
    replace H : (if t115 = true then (none) else ((seq_Unwrap.f k 4294967300 3).bind fun t116 => (if t116 = 4294967299 then (if t110 = 3458764513820540928 then (if t111 = 0 then (if t113 = 2 then ((seq_Cbrt.f k 26).bind fun t117 => (if t117 = 2 then ((seq_Add.f 5 (-6)).bind fun t118 => (some (t118 == 4294967295))) else (none))) else (none)) else (none)) else (none)) else (none)))) = some r := H
    have A5 := Aside0.mk A50
    clear A50
    by_cases c6 : t115 = true
    · subst c6
      have H1 : (none) = some r := by rw [if_pos rfl] at H; exact H
      clear H
      have H := H1
      clear H1
      exact absurd H (by simp)
    · replace c6 := Bool.eq_false_iff.mpr c6
      subst c6
      have H1 : ((seq_Unwrap.f k 4294967300 3).bind fun t116 => (if t116 = 4294967299 then (if t110 = 3458764513820540928 then (if t111 = 0 then (if t113 = 2 then ((seq_Cbrt.f k 26).bind fun t117 => (if t117 = 2 then ((seq_Add.f 5 (-6)).bind fun t118 => (some (t118 == 4294967295))) else (none))) else (none)) else (none)) else (none)) else (none))) = some r := by rw [if_neg (show ¬ (false = true) by decide)] at H; exact H
      clear H
      have H := H1
      clear H1
      replace H := Option.bind_eq_some_iff.mp H
      obtain ⟨t116, A70, H⟩ := H
      replace H : (if t116 = 4294967299 then (if t110 = 3458764513820540928 then (if t111 = 0 then (if t113 = 2 then ((seq_Cbrt.f k 26).bind fun t117 => (if t117 = 2 then ((seq_Add.f 5 (-6)).bind fun t118 => (some (t118 == 4294967295))) else (none))) else (none)) else (none)) else (none)) else (none)) = some r := H
      have A7 := Aside0.mk A70
      clear A70
      by_cases c8 : t116 = 4294967299
      · rw [if_pos c8] at H
        have c8b0 : (t116 == 4294967299) = true := beq_iff_eq.mpr c8
        have c8b1 : (t116 != 4294967299) = false := bne_eq_false_iff_eq.mpr c8
        clear c8
        by_cases c9 : t110 = 3458764513820540928
        · rw [if_pos c9] at H
          have c9b0 : (t110 == 3458764513820540928) = true := beq_iff_eq.mpr c9
          have c9b1 : (t110 != 3458764513820540928) = false := bne_eq_false_iff_eq.mpr c9
          clear c9
          by_cases c10 : t111 = 0
          · rw [if_pos c10] at H
            have c10b0 : (t111 == 0) = true := beq_iff_eq.mpr c10
            have c10b1 : (t111 != 0) = false := bne_eq_false_iff_eq.mpr c10
            clear c10
            by_cases c11 : t113 = 2
            · rw [if_pos c11] at H
              have c11b0 : (t113 == 2) = true := beq_iff_eq.mpr c11
              have c11b1 : (t113 != 2) = false := bne_eq_false_iff_eq.mpr c11
              clear c11
              replace H := Option.bind_eq_some_iff.mp H
              obtain ⟨t117, A120, H⟩ := H
              replace H : (if t117 = 2 then ((seq_Add.f 5 (-6)).bind fun t118 => (some (t118 == 4294967295))) else (none)) = some r := H
              have A12 := Aside0.mk A120
              clear A120
              by_cases c13 : t117 = 2
              · rw [if_pos c13] at H
                have c13b0 : (t117 == 2) = true := beq_iff_eq.mpr c13
                have c13b1 : (t117 != 2) = false := bne_eq_false_iff_eq.mpr c13
                clear c13
                replace H := Option.bind_eq_some_iff.mp H
                obtain ⟨t118, A140, H⟩ := H
                replace H : (some (t118 == 4294967295)) = some r := H
                have A14 := Aside0.mk A140
                clear A140
                obtain rfl := Option.some.inj H
                go_enter Try.func13, Try.ntmps13
                go_wp2_with (first | ((with_reducible refine gate_callee (f := 9) rfl ?_); refine goesL_ (some 6) rfl rfl Try.func9 (by kernel_rfl) rfl #[.int .i64 4611686018427387904, .int .i64 6, .int .i64 8] rfl (by (try simp only [List.map_toArray, List.map_cons, List.map_nil]); first | done | rfl | (simp only [List.length_drop, List.length_take]; rfl)) ?_; (with_reducible refine (seq_MulDiv.calls k 4611686018427387904 6 8 t110 t111 _ A1.out).mono ?_); rintro e w15 ⟨rfl, hb⟩; refine ⟨_, rfl, ?_⟩; have n0_ := Aside0.mk (below_step (by repeat (first | (with_reducible first | exact HB.out | apply below_alloc | apply pw_below_drewN | apply below_drew1) | exact HB.out)) hb); clear HB; have HB := n0_; clear n0_; (try clear hb); (try clear hb2); (try clear hk); (try clear hi)) | ((with_reducible refine gate_callee (f := 9) rfl ?_); refine goesL_ (some 10) rfl rfl Try.func9 (by kernel_rfl) rfl #[.int .i64 1, .int .i64 1, .int .i64 0] rfl (by (try simp only [List.map_toArray, List.map_cons, List.map_nil]); first | done | rfl | (simp only [List.length_drop, List.length_take]; rfl)) ?_; (with_reducible refine (seq_MulDiv.calls k 1 1 0 t112 t113 _ A2.out).mono ?_); rintro e w16 ⟨rfl, hb⟩; refine ⟨_, rfl, ?_⟩; have n0_ := Aside0.mk (below_step (by repeat (first | (with_reducible first | exact HB.out | apply below_alloc | apply pw_below_drewN | apply below_drew1) | exact HB.out)) hb); clear HB; have HB := n0_; clear n0_; (try clear hb); (try clear hb2); (try clear hk); (try clear hi)) | ((with_reducible refine gate_callee (f := 16) rfl ?_); refine goesL_ (some 13) rfl rfl Try.func16 (by kernel_rfl) rfl #[.int .u32 4294967295, .int .u32 1] rfl (by (try simp only [List.map_toArray, List.map_cons, List.map_nil]); first | done | rfl | (simp only [List.length_drop, List.length_take]; rfl)) ?_; (with_reducible refine (seq_Diff.calls 4294967295 1 t114 _ A3.out).mono ?_); rintro e w' ⟨rfl, ⟨nd, rfl⟩⟩; refine ⟨_, rfl, ?_⟩) | (go_at_call 17; (with_reducible refine (seq_Less.calls 1 4294967295 false _ A5.out).mono ?_); rintro e w' ⟨rfl, ⟨nd, rfl⟩⟩) | (go_at_call 15; (with_reducible refine (seq_Unwrap.calls k 4294967300 3 t116 _ A7.out).mono ?_); rintro e w' ⟨rfl, ⟨nd, rfl⟩⟩) | (go_at_call 11; (with_reducible refine (seq_Cbrt.calls k 26 t117 _ A12.out).mono ?_); rintro e w' ⟨rfl, ⟨nd, rfl⟩⟩) | (go_at_call 14; (with_reducible refine (seq_Add.calls 5 (-6) t118 _ A14.out).mono ?_); rintro e w' ⟨rfl, ⟨nd, rfl⟩⟩))
                go_ret
                exact ⟨by first | rfl | (simp [errW_none, errW_some] <;> rfl) | (simp [*, errW_none, errW_some] <;> rfl), by repeat (first | (with_reducible first | exact HB.out | apply below_alloc | apply pw_below_drewN | apply below_drew1) | exact HB.out)⟩
              · rw [if_neg c13] at H
                exact absurd H (by simp)
            · rw [if_neg c11] at H
              exact absurd H (by simp)
          · rw [if_neg c10] at H
            exact absurd H (by simp)
        · rw [if_neg c9] at H
          exact absurd H (by simp)
      · rw [if_neg c8] at H
        exact absurd H (by simp)
  · rw [if_neg c4] at H
    exact absurd H (by simp)

/-! ### tidewaylaw01_SeqReckons: function 3 -/
def tidewaylaw01_SeqReckons.f (k : Nat) (a0 : Int) (a1 : Int) (a2 : Int) : Option (Bool) := (seq_MulDiv.f k a0 a1 a2).bind fun bt119 => ((tidewayref01_MulDiv.f k a0 a1 a2).bind fun bt121 => (if bt119.1 = bt121.1 then (if bt119.2 = bt121.2 then ((seq_Cbrt.f k a0).bind fun t123 => ((tidewayref01_Cbrt.f k a0).bind fun t124 => (if t123 = t124 then ((tidewaylaw01_heads.f k).bind fun t125 => (some t125)) else (none)))) else (none)) else (none)))
theorem tidewaylaw01_SeqReckons.mono : ∀ a0 a1 a2 k, LeO (tidewaylaw01_SeqReckons.f k a0 a1 a2) (tidewaylaw01_SeqReckons.f (k + 1) a0 a1 a2) := by
  intro a0 a1 a2 k
  unfold tidewaylaw01_SeqReckons.f
  repeat' first
      | (with_reducible exact seq_Cbrt.mono _ _)
      | (with_reducible exact seq_MulDiv.mono _ _ _ _)
      | (with_reducible exact tidewaylaw01_heads.mono _)
      | (with_reducible exact tidewayref01_Cbrt.mono _ _)
      | (with_reducible exact tidewayref01_MulDiv.mono _ _ _ _)
      | (with_reducible exact LeO.refl _)
      | (with_reducible exact LeO.none _)
      | (with_reducible refine LeO.ite ?_ ?_)
      | (with_reducible refine LeO.bind ?_ (fun _ => ?_))
      | exact seq_Cbrt.mono _ _
      | exact seq_MulDiv.mono _ _ _ _
      | exact tidewaylaw01_heads.mono _
      | exact tidewayref01_Cbrt.mono _ _
      | exact tidewayref01_MulDiv.mono _ _ _ _
      | exact LeO.none _
      | refine LeO.ite ?_ ?_
      | refine LeO.bind ?_ (fun _ => ?_)
set_option maxHeartbeats 8000000 in
set_option maxRecDepth 100000 in
theorem tidewaylaw01_SeqReckons.calls (k : Nat) (a0 : Int) (a1 : Int) (a2 : Int) (r : Bool) (w : World) (h : tidewaylaw01_SeqReckons.f k a0 a1 a2 = some r) :
    Calls Try.prog 3 #[.int .i64 a0, .int .i64 a1, .int .i64 a2] w fun e w' => e = .returned (.bool r) ∧ Below w.heap.size w w' := by
  have HB := Aside0.mk (Below.refl w.heap.size w)
  have H : ((seq_MulDiv.f k a0 a1 a2).bind fun bt119 => ((tidewayref01_MulDiv.f k a0 a1 a2).bind fun bt121 => (if bt119.1 = bt121.1 then (if bt119.2 = bt121.2 then ((seq_Cbrt.f k a0).bind fun t123 => ((tidewayref01_Cbrt.f k a0).bind fun t124 => (if t123 = t124 then ((tidewaylaw01_heads.f k).bind fun t125 => (some t125)) else (none)))) else (none)) else (none)))) = some r := h
  clear h
  replace H := Option.bind_eq_some_iff.mp H
  obtain ⟨⟨t119, t120⟩, A40, H⟩ := H
  replace H : ((tidewayref01_MulDiv.f k a0 a1 a2).bind fun bt121 => (if t119 = bt121.1 then (if t120 = bt121.2 then ((seq_Cbrt.f k a0).bind fun t123 => ((tidewayref01_Cbrt.f k a0).bind fun t124 => (if t123 = t124 then ((tidewaylaw01_heads.f k).bind fun t125 => (some t125)) else (none)))) else (none)) else (none))) = some r := H
  have A4 := Aside0.mk A40
  clear A40
  replace H := Option.bind_eq_some_iff.mp H
  obtain ⟨⟨t121, t122⟩, A50, H⟩ := H
  replace H : (if t119 = t121 then (if t120 = t122 then ((seq_Cbrt.f k a0).bind fun t123 => ((tidewayref01_Cbrt.f k a0).bind fun t124 => (if t123 = t124 then ((tidewaylaw01_heads.f k).bind fun t125 => (some t125)) else (none)))) else (none)) else (none)) = some r := H
  have A5 := Aside0.mk A50
  clear A50
  by_cases c6 : t119 = t121
  · rw [if_pos c6] at H
    have c6b0 : (t119 == t121) = true := beq_iff_eq.mpr c6
    have c6b1 : (t119 != t121) = false := bne_eq_false_iff_eq.mpr c6
    clear c6
    by_cases c7 : t120 = t122
    · rw [if_pos c7] at H
      have c7b0 : (t120 == t122) = true := beq_iff_eq.mpr c7
      have c7b1 : (t120 != t122) = false := bne_eq_false_iff_eq.mpr c7
      clear c7
      replace H := Option.bind_eq_some_iff.mp H
      obtain ⟨t123, A80, H⟩ := H
      replace H : ((tidewayref01_Cbrt.f k a0).bind fun t124 => (if t123 = t124 then ((tidewaylaw01_heads.f k).bind fun t125 => (some t125)) else (none))) = some r := H
      have A8 := Aside0.mk A80
      clear A80
      replace H := Option.bind_eq_some_iff.mp H
      obtain ⟨t124, A90, H⟩ := H
      replace H : (if t123 = t124 then ((tidewaylaw01_heads.f k).bind fun t125 => (some t125)) else (none)) = some r := H
      have A9 := Aside0.mk A90
      clear A90
      by_cases c10 : t123 = t124
      · rw [if_pos c10] at H
        have c10b0 : (t123 == t124) = true := beq_iff_eq.mpr c10
        have c10b1 : (t123 != t124) = false := bne_eq_false_iff_eq.mpr c10
        clear c10
        replace H := Option.bind_eq_some_iff.mp H
        obtain ⟨t125, A110, H⟩ := H
        replace H : (some t125) = some r := H
        have A11 := Aside0.mk A110
        clear A110
        obtain rfl := Option.some.inj H
        go_enter Try.func3, Try.ntmps3
        go_wp2_with (first | ((with_reducible refine gate_callee (f := 9) rfl ?_); refine goesL_ (some 15) rfl rfl Try.func9 (by kernel_rfl) rfl #[.int .i64 a0, .int .i64 a1, .int .i64 a2] rfl (by (try simp only [List.map_toArray, List.map_cons, List.map_nil]); first | done | rfl | (simp only [List.length_drop, List.length_take]; rfl)) ?_; (with_reducible refine (seq_MulDiv.calls k a0 a1 a2 t119 t120 _ A4.out).mono ?_); rintro e w12 ⟨rfl, hb⟩; refine ⟨_, rfl, ?_⟩; have n0_ := Aside0.mk (below_step (by repeat (first | (with_reducible first | exact HB.out | apply below_alloc | apply pw_below_drewN | apply below_drew1) | exact HB.out)) hb); clear HB; have HB := n0_; clear n0_; (try clear hb); (try clear hb2); (try clear hk); (try clear hi)) | ((with_reducible refine gate_callee (f := 10) rfl ?_); refine goesL_ (some 22) rfl rfl Try.func10 (by kernel_rfl) rfl #[.int .i64 a0, .int .i64 a1, .int .i64 a2] rfl (by (try simp only [List.map_toArray, List.map_cons, List.map_nil]); first | done | rfl | (simp only [List.length_drop, List.length_take]; rfl)) ?_; (with_reducible refine (tidewayref01_MulDiv.calls k a0 a1 a2 t121 t122 _ A5.out).mono ?_); rintro e w' ⟨rfl, ⟨nd, rfl⟩⟩; refine ⟨_, rfl, ?_⟩) | (go_at_call 11; (with_reducible refine (seq_Cbrt.calls k a0 t123 _ A8.out).mono ?_); rintro e w' ⟨rfl, ⟨nd, rfl⟩⟩) | (go_at_call 12; (with_reducible refine (tidewayref01_Cbrt.calls k a0 t124 _ A9.out).mono ?_); rintro e w' ⟨rfl, ⟨nd, rfl⟩⟩) | (go_at_call 13; (with_reducible refine (tidewaylaw01_heads.calls k  t125 _ A11.out).mono ?_); rintro e w13 ⟨rfl, hb⟩; have n0_ := Aside0.mk (below_step (by repeat (first | (with_reducible first | exact HB.out | apply below_alloc | apply pw_below_drewN | apply below_drew1) | exact HB.out)) hb); clear HB; have HB := n0_; clear n0_; (try clear hb); (try clear hb2); (try clear hk); (try clear hi)))
        go_ret
        exact ⟨by first | rfl | (simp [errW_none, errW_some] <;> rfl) | (simp [*, errW_none, errW_some] <;> rfl), by repeat (first | (with_reducible first | exact HB.out | apply below_alloc | apply pw_below_drewN | apply below_drew1) | exact HB.out)⟩
      · rw [if_neg c10] at H
        exact absurd H (by simp)
    · rw [if_neg c7] at H
      exact absurd H (by simp)
  · rw [if_neg c6] at H
    exact absurd H (by simp)

/-- THE ONE PURE STATEMENT of tidewaylaw01_SeqReckons: yours. -/
def tidewaylaw01_SeqReckons.Pure : Prop := ∀ (a0 : Int) (a1 : Int) (a2 : Int), (Lit.int .i64 a0).wf = true → (Lit.int .i64 a1).wf = true → (Lit.int .i64 a2).wf = true → ∃ k, tidewaylaw01_SeqReckons.f k a0 a1 a2 = some true
theorem tidewaylaw01_SeqReckons.walk (P : tidewaylaw01_SeqReckons.Pure) (a0 : Int) (a1 : Int) (a2 : Int) (w : World) (w0 : (Lit.int .i64 a0).wf = true) (w1 : (Lit.int .i64 a1).wf = true) (w2 : (Lit.int .i64 a2).wf = true) :
    Calls Try.prog 3 #[.int .i64 a0, .int .i64 a1, .int .i64 a2] w fun e w' => e = .returned (.bool true) ∧ Below w.heap.size w w' := by
  obtain ⟨k, h⟩ := P a0 a1 a2 w0 w1 w2
  refine (tidewaylaw01_SeqReckons.calls k a0 a1 a2 true w h).mono ?_
  rintro e w' ⟨rfl, hd⟩
  exact ⟨rfl, hd⟩

/-! ### tidewaylaw01_SeqBack: function 4 -/
def tidewaylaw01_SeqBack.j0 : Nat → Int → Int → Bool → Option (Bool)
  | 0, _, _, _ => none
  | k + 1, x0, x1, x19 => if x19 = true then ((tidewaylaw01_heads.f k).bind fun t126 => (some t126)) else ((seq_Add.f 0 x0).bind fun t127 => ((seq_Unwrap.f k (wrap64 (x0 - x1)) t127).bind fun t128 => (if t128 = x0 then ((seq_Add.f t127 (wrap64 (-x1))).bind fun t129 => ((seq_Diff.f t129 t127).bind fun t130 => (if t130 = x1 then ((tidewaylaw01_heads.f k).bind fun t131 => (some t131)) else (none)))) else (none))))
def tidewaylaw01_SeqBack.f (k : Nat) (a0 : Int) (a1 : Int) : Option (Bool) := if a0 < (-4611686018427387904) then (tidewaylaw01_SeqBack.j0 k a0 a1 true) else (if a0 > 4611686018427387904 then (tidewaylaw01_SeqBack.j0 k a0 a1 true) else (if a1 < (-2147483648) then (tidewaylaw01_SeqBack.j0 k a0 a1 true) else (tidewaylaw01_SeqBack.j0 k a0 a1 (decide (a1 ≥ 2147483648)))))
theorem tidewaylaw01_SeqBack.mono_l : ∀ k, (∀ y0 y1 y2, LeO (tidewaylaw01_SeqBack.j0 k y0 y1 y2) (tidewaylaw01_SeqBack.j0 (k + 1) y0 y1 y2))
  | 0 => fun _ _ _ r h => by simp [tidewaylaw01_SeqBack.j0] at h
  | k + 1 => by
    have ih0 := tidewaylaw01_SeqBack.mono_l k
    · intro y0 y1 y2
      unfold tidewaylaw01_SeqBack.j0
      repeat' first
      | (with_reducible exact ih0 _ _ _)
      | (with_reducible exact seq_Unwrap.mono _ _ _)
      | (with_reducible exact tidewaylaw01_heads.mono _)
      | (with_reducible exact LeO.refl _)
      | (with_reducible exact LeO.none _)
      | (with_reducible refine LeO.ite ?_ ?_)
      | (with_reducible refine LeO.bind ?_ (fun _ => ?_))
      | exact ih0 _ _ _
      | exact seq_Unwrap.mono _ _ _
      | exact tidewaylaw01_heads.mono _
      | exact LeO.none _
      | refine LeO.ite ?_ ?_
      | refine LeO.bind ?_ (fun _ => ?_)
theorem tidewaylaw01_SeqBack.mono : ∀ a0 a1 k, LeO (tidewaylaw01_SeqBack.f k a0 a1) (tidewaylaw01_SeqBack.f (k + 1) a0 a1) := by
  intro a0 a1 k
  have ih0 := tidewaylaw01_SeqBack.mono_l k
  unfold tidewaylaw01_SeqBack.f
  repeat' first
      | (with_reducible exact ih0 _ _ _)
      | (with_reducible exact seq_Unwrap.mono _ _ _)
      | (with_reducible exact tidewaylaw01_heads.mono _)
      | (with_reducible exact LeO.refl _)
      | (with_reducible exact LeO.none _)
      | (with_reducible refine LeO.ite ?_ ?_)
      | (with_reducible refine LeO.bind ?_ (fun _ => ?_))
      | exact ih0 _ _ _
      | exact seq_Unwrap.mono _ _ _
      | exact tidewaylaw01_heads.mono _
      | exact LeO.none _
      | refine LeO.ite ?_ ?_
      | refine LeO.bind ?_ (fun _ => ?_)
set_option maxHeartbeats 8000000 in
set_option maxRecDepth 100000 in
theorem tidewaylaw01_SeqBack.calls (k : Nat) (a0 : Int) (a1 : Int) (r : Bool) (w : World) (h : tidewaylaw01_SeqBack.f k a0 a1 = some r) :
    Calls Try.prog 4 #[.int .i64 a0, .int .i64 a1] w fun e w' => e = .returned (.bool r) ∧ Below w.heap.size w w' := by
  have HB := Aside0.mk (Below.refl w.heap.size w)
  have H : (if a0 < (-4611686018427387904) then (tidewaylaw01_SeqBack.j0 k a0 a1 true) else (if a0 > 4611686018427387904 then (tidewaylaw01_SeqBack.j0 k a0 a1 true) else (if a1 < (-2147483648) then (tidewaylaw01_SeqBack.j0 k a0 a1 true) else (tidewaylaw01_SeqBack.j0 k a0 a1 (decide (a1 ≥ 2147483648)))))) = some r := h
  clear h
  have HC3 := Aside0.mk H
  clear H
  go_enter Try.func4, Try.ntmps4
  go_upto_region 1 with (fail)
  go_cut [19] (fun v19 wc => ∃ (kq : Nat) (x19_2 : Bool), v19 = .bool x19_2 ∧ Aside0 (tidewaylaw01_SeqBack.j0 kq a0 a1 x19_2 = some r) ∧ Aside0 (kq ≤ k) ∧ Aside0 (Below w.heap.size w wc))
  case first =>
    have H := HC3.out
    clear HC3
    by_cases c4 : a0 < (-4611686018427387904)
    · rw [if_pos c4] at H
      have c4b0 : decide (a0 < (-4611686018427387904)) = true := decide_eq_true c4
      clear c4
      (first | rw [c4b0] | (simp only [i64_w, i32_w]; rw [c4b0]) | skip)
      have H' := Aside0.mk H
      clear H
      go_wp2
      go_meet
      case rel => exact ⟨_, (true), (by first | rfl | (simp; done) | (simp [*]; done)), H', ⟨by first | omega | exact Nat.le_refl _⟩, ⟨by repeat (first | (with_reducible first | exact HB.out | apply below_alloc | apply pw_below_drewN | apply below_drew1) | exact HB.out)⟩⟩
    · rw [if_neg c4] at H
      have c4b0 : decide (a0 < (-4611686018427387904)) = false := decide_eq_false c4
      clear c4
      (first | rw [c4b0] | (simp only [i64_w, i32_w]; rw [c4b0]) | skip)
      by_cases c5 : a0 > 4611686018427387904
      · rw [if_pos c5] at H
        have c5b0 : decide (4611686018427387904 < a0) = true := decide_eq_true c5
        clear c5
        have H' := Aside0.mk H
        clear H
        go_wp2
        go_meet
        case rel => exact ⟨_, (true), (by first | rfl | (simp; done) | (simp [*]; done)), H', ⟨by first | omega | exact Nat.le_refl _⟩, ⟨by repeat (first | (with_reducible first | exact HB.out | apply below_alloc | apply pw_below_drewN | apply below_drew1) | exact HB.out)⟩⟩
      · rw [if_neg c5] at H
        have c5b0 : decide (4611686018427387904 < a0) = false := decide_eq_false c5
        clear c5
        by_cases c6 : a1 < (-2147483648)
        · rw [if_pos c6] at H
          have c6b0 : decide (a1 < (-2147483648)) = true := decide_eq_true c6
          clear c6
          have H' := Aside0.mk H
          clear H
          go_wp2
          go_meet
          case rel => exact ⟨_, (true), (by first | rfl | (simp; done) | (simp [*]; done)), H', ⟨by first | omega | exact Nat.le_refl _⟩, ⟨by repeat (first | (with_reducible first | exact HB.out | apply below_alloc | apply pw_below_drewN | apply below_drew1) | exact HB.out)⟩⟩
        · rw [if_neg c6] at H
          have c6b0 : decide (a1 < (-2147483648)) = false := decide_eq_false c6
          clear c6
          have H' := Aside0.mk H
          clear H
          go_wp2
          go_meet
          case rel => exact ⟨_, (decide (a1 ≥ 2147483648)), (by first | rfl | (simp; done) | (simp [*]; done)), H', ⟨by first | omega | exact Nat.le_refl _⟩, ⟨by repeat (first | (with_reducible first | exact HB.out | apply below_alloc | apply pw_below_drewN | apply below_drew1) | exact HB.out)⟩⟩
  case rest =>
    clear HC3
    try clear p2
    try clear c4
    try clear c4b0
    try clear c5
    try clear c5b0
    try clear c6
    try clear c6b0
    obtain ⟨kq, x19_2, rfl, HA, HJ2, HB⟩ := hcut
    cases kq with
    | zero => exact absurd HA.out (by simp [tidewaylaw01_SeqBack.j0])
    | succ kj2 =>
      have H := HA.out
      clear HA
      simp only [tidewaylaw01_SeqBack.j0] at H
      by_cases c7 : x19_2 = true
      · subst c7
        have H1 : ((tidewaylaw01_heads.f kj2).bind fun t126 => (some t126)) = some r := by rw [if_pos rfl] at H; exact H
        clear H
        have H := H1
        clear H1
        replace H := Option.bind_eq_some_iff.mp H
        obtain ⟨t126, A80, H⟩ := H
        replace H : (some t126) = some r := H
        have A8 := Aside0.mk A80
        clear A80
        obtain rfl := Option.some.inj H
        go_wp2_with (first | ((with_reducible refine gate_callee (f := 13) rfl ?_); refine goesL_ (some 20) rfl rfl Try.func13 (by kernel_rfl) rfl #[] rfl (by (try simp only [List.map_toArray, List.map_cons, List.map_nil]); first | done | rfl | (simp only [List.length_drop, List.length_take]; rfl)) ?_; (with_reducible refine (tidewaylaw01_heads.calls kj2  t126 _ A8.out).mono ?_); rintro e w9 ⟨rfl, hb⟩; refine ⟨_, rfl, ?_⟩; have n0_ := Aside0.mk (below_step (by repeat (first | (with_reducible first | exact HB.out | apply below_alloc | apply pw_below_drewN | apply below_drew1) | exact HB.out)) hb); clear HB; have HB := n0_; clear n0_; (try clear hb); (try clear hb2); (try clear hk); (try clear hi)))
        go_ret
        exact ⟨by first | rfl | (simp [errW_none, errW_some] <;> rfl) | (simp [*, errW_none, errW_some] <;> rfl), by repeat (first | (with_reducible first | exact HB.out | apply below_alloc | apply pw_below_drewN | apply below_drew1) | exact HB.out)⟩
      · replace c7 := Bool.eq_false_iff.mpr c7
        subst c7
        have H1 : ((seq_Add.f 0 a0).bind fun t127 => ((seq_Unwrap.f kj2 (wrap64 (a0 - a1)) t127).bind fun t128 => (if t128 = a0 then ((seq_Add.f t127 (wrap64 (-a1))).bind fun t129 => ((seq_Diff.f t129 t127).bind fun t130 => (if t130 = a1 then ((tidewaylaw01_heads.f kj2).bind fun t131 => (some t131)) else (none)))) else (none)))) = some r := by rw [if_neg (show ¬ (false = true) by decide)] at H; exact H
        clear H
        have H := H1
        clear H1
        replace H := Option.bind_eq_some_iff.mp H
        obtain ⟨t127, A100, H⟩ := H
        replace H : ((seq_Unwrap.f kj2 (wrap64 (a0 - a1)) t127).bind fun t128 => (if t128 = a0 then ((seq_Add.f t127 (wrap64 (-a1))).bind fun t129 => ((seq_Diff.f t129 t127).bind fun t130 => (if t130 = a1 then ((tidewaylaw01_heads.f kj2).bind fun t131 => (some t131)) else (none)))) else (none))) = some r := H
        have A10 := Aside0.mk A100
        clear A100
        replace H := Option.bind_eq_some_iff.mp H
        obtain ⟨t128, A110, H⟩ := H
        replace H : (if t128 = a0 then ((seq_Add.f t127 (wrap64 (-a1))).bind fun t129 => ((seq_Diff.f t129 t127).bind fun t130 => (if t130 = a1 then ((tidewaylaw01_heads.f kj2).bind fun t131 => (some t131)) else (none)))) else (none)) = some r := H
        have A11 := Aside0.mk A110
        clear A110
        by_cases c12 : t128 = a0
        · rw [if_pos c12] at H
          have c12b0 : (t128 == a0) = true := beq_iff_eq.mpr c12
          have c12b1 : (t128 != a0) = false := bne_eq_false_iff_eq.mpr c12
          clear c12
          replace H := Option.bind_eq_some_iff.mp H
          obtain ⟨t129, A130, H⟩ := H
          replace H : ((seq_Diff.f t129 t127).bind fun t130 => (if t130 = a1 then ((tidewaylaw01_heads.f kj2).bind fun t131 => (some t131)) else (none))) = some r := H
          have A13 := Aside0.mk A130
          clear A130
          replace H := Option.bind_eq_some_iff.mp H
          obtain ⟨t130, A140, H⟩ := H
          replace H : (if t130 = a1 then ((tidewaylaw01_heads.f kj2).bind fun t131 => (some t131)) else (none)) = some r := H
          have A14 := Aside0.mk A140
          clear A140
          by_cases c15 : t130 = a1
          · rw [if_pos c15] at H
            have c15b0 : (t130 == a1) = true := beq_iff_eq.mpr c15
            have c15b1 : (t130 != a1) = false := bne_eq_false_iff_eq.mpr c15
            clear c15
            replace H := Option.bind_eq_some_iff.mp H
            obtain ⟨t131, A160, H⟩ := H
            replace H : (some t131) = some r := H
            have A16 := Aside0.mk A160
            clear A160
            obtain rfl := Option.some.inj H
            go_wp2_with (first | ((with_reducible refine gate_callee (f := 14) rfl ?_); refine goesL_ (some 22) rfl rfl Try.func14 (by kernel_rfl) rfl #[.int .u32 0, .int .i64 a0] rfl (by (try simp only [List.map_toArray, List.map_cons, List.map_nil]); first | done | rfl | (simp only [List.length_drop, List.length_take]; rfl)) ?_; (with_reducible refine (seq_Add.calls 0 a0 t127 _ A10.out).mono ?_); rintro e w' ⟨rfl, ⟨nd, rfl⟩⟩; refine ⟨_, rfl, ?_⟩) | ((with_reducible refine gate_callee (f := 15) rfl ?_); refine goesL_ (some 27) rfl rfl Try.func15 (by kernel_rfl) rfl #[.int .i64 (wrap64 (a0 - a1)), .int .u32 t127] rfl (by (try simp only [List.map_toArray, List.map_cons, List.map_nil]); first | done | rfl | (simp only [List.length_drop, List.length_take]; rfl)) ?_; (with_reducible refine (seq_Unwrap.calls kj2 (wrap64 (a0 - a1)) t127 t128 _ A11.out).mono ?_); rintro e w' ⟨rfl, ⟨nd, rfl⟩⟩; refine ⟨_, rfl, ?_⟩) | (go_at_call 14; (with_reducible refine (seq_Add.calls t127 (wrap64 (-a1)) t129 _ A13.out).mono ?_); rintro e w' ⟨rfl, ⟨nd, rfl⟩⟩) | (go_at_call 16; (with_reducible refine (seq_Diff.calls t129 t127 t130 _ A14.out).mono ?_); rintro e w' ⟨rfl, ⟨nd, rfl⟩⟩) | (go_at_call 13; (with_reducible refine (tidewaylaw01_heads.calls kj2  t131 _ A16.out).mono ?_); rintro e w17 ⟨rfl, hb⟩; have n0_ := Aside0.mk (below_step (by repeat (first | (with_reducible first | exact HB.out | apply below_alloc | apply pw_below_drewN | apply below_drew1) | exact HB.out)) hb); clear HB; have HB := n0_; clear n0_; (try clear hb); (try clear hb2); (try clear hk); (try clear hi)))
            go_ret
            exact ⟨by first | rfl | (simp [errW_none, errW_some] <;> rfl) | (simp [*, errW_none, errW_some] <;> rfl), by repeat (first | (with_reducible first | exact HB.out | apply below_alloc | apply pw_below_drewN | apply below_drew1) | exact HB.out)⟩
          · rw [if_neg c15] at H
            exact absurd H (by simp)
        · rw [if_neg c12] at H
          exact absurd H (by simp)

/-- THE ONE PURE STATEMENT of tidewaylaw01_SeqBack: yours. -/
def tidewaylaw01_SeqBack.Pure : Prop := ∀ (a0 : Int) (a1 : Int), (Lit.int .i64 a0).wf = true → (Lit.int .i64 a1).wf = true → ∃ k, tidewaylaw01_SeqBack.f k a0 a1 = some true
theorem tidewaylaw01_SeqBack.walk (P : tidewaylaw01_SeqBack.Pure) (a0 : Int) (a1 : Int) (w : World) (w0 : (Lit.int .i64 a0).wf = true) (w1 : (Lit.int .i64 a1).wf = true) :
    Calls Try.prog 4 #[.int .i64 a0, .int .i64 a1] w fun e w' => e = .returned (.bool true) ∧ Below w.heap.size w w' := by
  obtain ⟨k, h⟩ := P a0 a1 w0 w1
  refine (tidewaylaw01_SeqBack.calls k a0 a1 true w h).mono ?_
  rintro e w' ⟨rfl, hd⟩
  exact ⟨rfl, hd⟩

end Go.Proofs.Ytpebhhpmcjaioaa.PA
