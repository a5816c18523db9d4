-- Written by a session's program (wip/tools/myprint.py) out of the translation, by way of the kit's printer. Lean checks it.
import Derived.Test.YtpebhhpmcjaioaaPAx0
import Derived.Test.YtpebhhpmcjaioaaPAx2
import Derived.Test.YtpebhhpmcjaioaaPAx3
namespace Go.Proofs.Ytpebhhpmcjaioaa.PA
open Go.RowKit Go.Proofs.YtpebhhpmcjaioaaW.PrintWords Go.Proofs.YtpebhhpmcjaioaaW.PrintLast Go.Proofs.YtpebhhpmcjaioaaW.PrintMore
attribute [local go_sem] max2_int min2_int max_two min_two max_three min_three max_four min_four   -- for this text's walks alone
set_option linter.unusedVariables false
set_option linter.unusedSimpArgs false

/-! ### tidewaylaw01_SeqTurns: function 5 -/
def tidewaylaw01_SeqTurns.j0 : Nat → Int → Int → Int → Int → Bool → Option (Bool)
  | 0, _, _, _, _, _ => none
  | k + 1, x0, x1, x5, x6, x19 => if x19 = true then (if x5 = x6 then ((tidewaylaw01_heads.f k).bind fun t134 => (some t134)) else (none)) else ((seq_Less.f x0 x1).bind fun t135 => ((seq_Less.f x1 x0).bind fun t136 => (if x5 = (wrap64 (-x6)) then (if ((t135 != t136) == (x0 != x1)) = true then ((seq_Add.f x0 x5).bind fun t137 => (if t137 = x1 then ((tidewaylaw01_heads.f k).bind fun t138 => (some t138)) else (none))) else (none)) else (none))))
def tidewaylaw01_SeqTurns.f (k : Nat) (a0 : Int) (a1 : Int) : Option (Bool) := (seq_Diff.f a0 a1).bind fun t132 => ((seq_Diff.f a1 a0).bind fun t133 => (if t132 = (-2147483648) then (tidewaylaw01_SeqTurns.j0 k a0 a1 t132 t133 true) else (tidewaylaw01_SeqTurns.j0 k a0 a1 t132 t133 (t133 == (-2147483648)))))
theorem tidewaylaw01_SeqTurns.mono_l : ∀ k, (∀ y0 y1 y2 y3 y4, LeO (tidewaylaw01_SeqTurns.j0 k y0 y1 y2 y3 y4) (tidewaylaw01_SeqTurns.j0 (k + 1) y0 y1 y2 y3 y4))
  | 0 => fun _ _ _ _ _ r h => by simp [tidewaylaw01_SeqTurns.j0] at h
  | k + 1 => by
    have ih0 := tidewaylaw01_SeqTurns.mono_l k
    · intro y0 y1 y2 y3 y4
      unfold tidewaylaw01_SeqTurns.j0
      repeat' first
      | (with_reducible exact ih0 _ _ _ _ _)
      | (with_reducible exact tidewaylaw01_heads.mono _)
      | (with_reducible exact LeO.refl _)
      | (with_reducible exact LeO.none _)
      | (with_reducible refine LeO.ite ?_ ?_)
      | (with_reducible refine LeO.bind ?_ (fun _ => ?_))
      | exact ih0 _ _ _ _ _
      | exact tidewaylaw01_heads.mono _
      | exact LeO.none _
      | refine LeO.ite ?_ ?_
      | refine LeO.bind ?_ (fun _ => ?_)
theorem tidewaylaw01_SeqTurns.mono : ∀ a0 a1 k, LeO (tidewaylaw01_SeqTurns.f k a0 a1) (tidewaylaw01_SeqTurns.f (k + 1) a0 a1) := by
  intro a0 a1 k
  have ih0 := tidewaylaw01_SeqTurns.mono_l k
  unfold tidewaylaw01_SeqTurns.f
  repeat' first
      | (with_reducible exact ih0 _ _ _ _ _)
      | (with_reducible exact tidewaylaw01_heads.mono _)
      | (with_reducible exact LeO.refl _)
      | (with_reducible exact LeO.none _)
      | (with_reducible refine LeO.ite ?_ ?_)
      | (with_reducible refine LeO.bind ?_ (fun _ => ?_))
      | exact ih0 _ _ _ _ _
      | exact tidewaylaw01_heads.mono _
      | exact LeO.none _
      | refine LeO.ite ?_ ?_
      | refine LeO.bind ?_ (fun _ => ?_)
set_option maxHeartbeats 8000000 in
set_option maxRecDepth 100000 in
theorem tidewaylaw01_SeqTurns.calls (k : Nat) (a0 : Int) (a1 : Int) (r : Bool) (w : World) (h : tidewaylaw01_SeqTurns.f k a0 a1 = some r) :
    Calls Try.prog 5 #[.int .u32 a0, .int .u32 a1] w fun e w' => e = .returned (.bool r) ∧ Below w.heap.size w w' := by
  have HB := Aside0.mk (Below.refl w.heap.size w)
  have H : ((seq_Diff.f a0 a1).bind fun t132 => ((seq_Diff.f a1 a0).bind fun t133 => (if t132 = (-2147483648) then (tidewaylaw01_SeqTurns.j0 k a0 a1 t132 t133 true) else (tidewaylaw01_SeqTurns.j0 k a0 a1 t132 t133 (t133 == (-2147483648)))))) = some r := h
  clear h
  replace H := Option.bind_eq_some_iff.mp H
  obtain ⟨t132, A30, H⟩ := H
  replace H : ((seq_Diff.f a1 a0).bind fun t133 => (if t132 = (-2147483648) then (tidewaylaw01_SeqTurns.j0 k a0 a1 t132 t133 true) else (tidewaylaw01_SeqTurns.j0 k a0 a1 t132 t133 (t133 == (-2147483648))))) = some r := H
  have A3 := Aside0.mk A30
  clear A30
  replace H := Option.bind_eq_some_iff.mp H
  obtain ⟨t133, A40, H⟩ := H
  replace H : (if t132 = (-2147483648) then (tidewaylaw01_SeqTurns.j0 k a0 a1 t132 t133 true) else (tidewaylaw01_SeqTurns.j0 k a0 a1 t132 t133 (t133 == (-2147483648)))) = some r := H
  have A4 := Aside0.mk A40
  clear A40
  have HC5 := Aside0.mk H
  clear H
  go_enter Try.func5, Try.ntmps5
  go_upto_region 2 with (first | ((with_reducible refine gate_callee (f := 16) rfl ?_); refine goesL_ (some 10) rfl rfl Try.func16 (by kernel_rfl) rfl #[.int .u32 a0, .int .u32 a1] rfl (by (try simp only [List.map_toArray, List.map_cons, List.map_nil]); first | done | rfl | (simp only [List.length_drop, List.length_take]; rfl)) ?_; (with_reducible refine (seq_Diff.calls a0 a1 t132 _ A3.out).mono ?_); rintro e w' ⟨rfl, ⟨nd, rfl⟩⟩; refine ⟨_, rfl, ?_⟩) | ((with_reducible refine gate_callee (f := 16) rfl ?_); refine goesL_ (some 13) rfl rfl Try.func16 (by kernel_rfl) rfl #[.int .u32 a1, .int .u32 a0] rfl (by (try simp only [List.map_toArray, List.map_cons, List.map_nil]); first | done | rfl | (simp only [List.length_drop, List.length_take]; rfl)) ?_; (with_reducible refine (seq_Diff.calls a1 a0 t133 _ A4.out).mono ?_); rintro e w' ⟨rfl, ⟨nd, rfl⟩⟩; refine ⟨_, rfl, ?_⟩))
  (try simp only [Act.put, List.setIfInBounds_toArray, List.set_cons_zero, List.set_cons_succ])
  go_cut [19] (fun v19 wc => ∃ (kq : Nat) (x19_4 : Bool), v19 = .bool x19_4 ∧ Aside0 (tidewaylaw01_SeqTurns.j0 kq a0 a1 t132 t133 x19_4 = some r) ∧ Aside0 (kq ≤ k) ∧ Aside0 (Below w.heap.size w wc))
  case first =>
    have H := HC5.out
    clear HC5
    by_cases c6 : t132 = (-2147483648)
    · rw [if_pos c6] at H
      have c6b0 : (t132 == (-2147483648)) = true := beq_iff_eq.mpr c6
      have c6b1 : (t132 != (-2147483648)) = false := bne_eq_false_iff_eq.mpr c6
      clear c6
      (first | rw [c6b0] | (simp only [i64_w, i32_w]; rw [c6b0]) | skip)
      have H' := Aside0.mk H
      clear H
      go_wp2
      go_meet
      case rel => exact ⟨_, (true), (by first | rfl | (simp; done) | (simp [*]; done)), H', ⟨by first | omega | exact Nat.le_refl _⟩, ⟨by repeat (first | (with_reducible first | exact HB.out | apply below_alloc | apply pw_below_drewN | apply below_drew1) | exact HB.out)⟩⟩
    · rw [if_neg c6] at H
      have c6b0 : (t132 == (-2147483648)) = false := beq_eq_false_iff_ne.mpr c6
      have c6b1 : (t132 != (-2147483648)) = true := bne_iff_ne.mpr c6
      (first | rw [c6b0] | (simp only [i64_w, i32_w]; rw [c6b0]) | skip)
      have H' := Aside0.mk H
      clear H
      go_wp2
      go_meet
      case rel => exact ⟨_, ((t133 == (-2147483648))), (by first | rfl | (simp; done) | (simp [*]; done)), H', ⟨by first | omega | exact Nat.le_refl _⟩, ⟨by repeat (first | (with_reducible first | exact HB.out | apply below_alloc | apply pw_below_drewN | apply below_drew1) | exact HB.out)⟩⟩
  case rest =>
    clear HC5
    try clear c1
    try clear p2
    try clear c5
    try clear c6
    try clear c6b0
    try clear c6b1
    obtain ⟨kq, x19_4, rfl, HA, HJ4, HB⟩ := hcut
    cases kq with
    | zero => exact absurd HA.out (by simp [tidewaylaw01_SeqTurns.j0])
    | succ kj4 =>
      have H := HA.out
      clear HA
      simp only [tidewaylaw01_SeqTurns.j0] at H
      by_cases c7 : x19_4 = true
      · subst c7
        have H1 : (if t132 = t133 then ((tidewaylaw01_heads.f kj4).bind fun t134 => (some t134)) else (none)) = some r := by rw [if_pos rfl] at H; exact H
        clear H
        have H := H1
        clear H1
        by_cases c8 : t132 = t133
        · rw [if_pos c8] at H
          have c8b0 : (t132 == t133) = true := beq_iff_eq.mpr c8
          have c8b1 : (t132 != t133) = false := bne_eq_false_iff_eq.mpr c8
          clear c8
          replace H := Option.bind_eq_some_iff.mp H
          obtain ⟨t134, A90, H⟩ := H
          replace H : (some t134) = some r := H
          have A9 := Aside0.mk A90
          clear A90
          obtain rfl := Option.some.inj H
          go_wp2_with (first | (go_at_call 13; (with_reducible refine (tidewaylaw01_heads.calls kj4  t134 _ A9.out).mono ?_); rintro e w10 ⟨rfl, hb⟩; have n0_ := Aside0.mk (below_step (by repeat (first | (with_reducible first | exact HB.out | apply below_alloc | apply pw_below_drewN | apply below_drew1) | exact HB.out)) hb); clear HB; have HB := n0_; clear n0_; (try clear hb); (try clear hb2); (try clear hk); (try clear hi)))
          go_ret
          exact ⟨by first | rfl | (simp [errW_none, errW_some] <;> rfl) | (simp [*, errW_none, errW_some] <;> rfl), by repeat (first | (with_reducible first | exact HB.out | apply below_alloc | apply pw_below_drewN | apply below_drew1) | exact HB.out)⟩
        · rw [if_neg c8] at H
          exact absurd H (by simp)
      · replace c7 := Bool.eq_false_iff.mpr c7
        subst c7
        have H1 : ((seq_Less.f a0 a1).bind fun t135 => ((seq_Less.f a1 a0).bind fun t136 => (if t132 = (wrap64 (-t133)) then (if ((t135 != t136) == (a0 != a1)) = true then ((seq_Add.f a0 t132).bind fun t137 => (if t137 = a1 then ((tidewaylaw01_heads.f kj4).bind fun t138 => (some t138)) else (none))) else (none)) else (none)))) = some r := by rw [if_neg (show ¬ (false = true) by decide)] at H; exact H
        clear H
        have H := H1
        clear H1
        replace H := Option.bind_eq_some_iff.mp H
        obtain ⟨t135, A110, H⟩ := H
        replace H : ((seq_Less.f a1 a0).bind fun t136 => (if t132 = (wrap64 (-t133)) then (if ((t135 != t136) == (a0 != a1)) = true then ((seq_Add.f a0 t132).bind fun t137 => (if t137 = a1 then ((tidewaylaw01_heads.f kj4).bind fun t138 => (some t138)) else (none))) else (none)) else (none))) = some r := H
        have A11 := Aside0.mk A110
        clear A110
        replace H := Option.bind_eq_some_iff.mp H
        obtain ⟨t136, A120, H⟩ := H
        replace H : (if t132 = (wrap64 (-t133)) then (if ((t135 != t136) == (a0 != a1)) = true then ((seq_Add.f a0 t132).bind fun t137 => (if t137 = a1 then ((tidewaylaw01_heads.f kj4).bind fun t138 => (some t138)) else (none))) else (none)) else (none)) = some r := H
        have A12 := Aside0.mk A120
        clear A120
        by_cases c13 : t132 = (wrap64 (-t133))
        · rw [if_pos c13] at H
          have c13b0 : (t132 == (wrap64 (-t133))) = true := beq_iff_eq.mpr c13
          have c13b1 : (t132 != (wrap64 (-t133))) = false := bne_eq_false_iff_eq.mpr c13
          clear c13
          by_cases c14 : ((t135 != t136) == (a0 != a1)) = true
          · rw [if_pos c14] at H
            have c14b0 : ((t135 != t136) == (a0 != a1)) = true := c14
            (try (have c14b1 : decide ((t135 != t136) = (a0 != a1)) = true := by simpa using c14))
            (try (have c14b2 : ((t135 != t136) == (a0 != a1)) = true := by simpa using c14))
            clear c14
            replace H := Option.bind_eq_some_iff.mp H
            obtain ⟨t137, A150, H⟩ := H
            replace H : (if t137 = a1 then ((tidewaylaw01_heads.f kj4).bind fun t138 => (some t138)) else (none)) = some r := H
            have A15 := Aside0.mk A150
            clear A150
            by_cases c16 : t137 = a1
            · rw [if_pos c16] at H
              have c16b0 : (t137 == a1) = true := beq_iff_eq.mpr c16
              have c16b1 : (t137 != a1) = false := bne_eq_false_iff_eq.mpr c16
              clear c16
              replace H := Option.bind_eq_some_iff.mp H
              obtain ⟨t138, A170, H⟩ := H
              replace H : (some t138) = some r := H
              have A17 := Aside0.mk A170
              clear A170
              obtain rfl := Option.some.inj H
              go_wp2_with (first | ((with_reducible refine gate_callee (f := 17) rfl ?_); refine goesL_ (some 28) rfl rfl Try.func17 (by kernel_rfl) rfl #[.int .u32 a0, .int .u32 a1] rfl (by (try simp only [List.map_toArray, List.map_cons, List.map_nil]); first | done | rfl | (simp only [List.length_drop, List.length_take]; rfl)) ?_; (with_reducible refine (seq_Less.calls a0 a1 t135 _ A11.out).mono ?_); rintro e w' ⟨rfl, ⟨nd, rfl⟩⟩; refine ⟨_, rfl, ?_⟩) | ((with_reducible refine gate_callee (f := 17) rfl ?_); refine goesL_ (some 31) rfl rfl Try.func17 (by kernel_rfl) rfl #[.int .u32 a1, .int .u32 a0] rfl (by (try simp only [List.map_toArray, List.map_cons, List.map_nil]); first | done | rfl | (simp only [List.length_drop, List.length_take]; rfl)) ?_; (with_reducible refine (seq_Less.calls a1 a0 t136 _ A12.out).mono ?_); rintro e w' ⟨rfl, ⟨nd, rfl⟩⟩; refine ⟨_, rfl, ?_⟩) | (go_at_call 14; (with_reducible refine (seq_Add.calls a0 t132 t137 _ A15.out).mono ?_); rintro e w' ⟨rfl, ⟨nd, rfl⟩⟩) | (go_at_call 13; (with_reducible refine (tidewaylaw01_heads.calls kj4  t138 _ A17.out).mono ?_); rintro e w18 ⟨rfl, hb⟩; have n0_ := Aside0.mk (below_step (by repeat (first | (with_reducible first | exact HB.out | apply below_alloc | apply pw_below_drewN | apply below_drew1) | exact HB.out)) hb); clear HB; have HB := n0_; clear n0_; (try clear hb); (try clear hb2); (try clear hk); (try clear hi)))
              rotate_left
              · exfalso; rename_i hx; apply hx; revert c14b0; cases t135 <;> cases t136 <;> cases (a0 != a1) <;> simp
              go_ret
              exact ⟨by first | rfl | (simp [errW_none, errW_some] <;> rfl) | (simp [*, errW_none, errW_some] <;> rfl), by repeat (first | (with_reducible first | exact HB.out | apply below_alloc | apply pw_below_drewN | apply below_drew1) | exact HB.out)⟩
            · rw [if_neg c16] at H
              exact absurd H (by simp)
          · rw [if_neg c14] at H
            exact absurd H (by simp)
        · rw [if_neg c13] at H
          exact absurd H (by simp)

/-- THE ONE PURE STATEMENT of tidewaylaw01_SeqTurns: yours. -/
def tidewaylaw01_SeqTurns.Pure : Prop := ∀ (a0 : Int) (a1 : Int), (Lit.int .u32 a0).wf = true → (Lit.int .u32 a1).wf = true → ∃ k, tidewaylaw01_SeqTurns.f k a0 a1 = some true
theorem tidewaylaw01_SeqTurns.walk (P : tidewaylaw01_SeqTurns.Pure) (a0 : Int) (a1 : Int) (w : World) (w0 : (Lit.int .u32 a0).wf = true) (w1 : (Lit.int .u32 a1).wf = true) :
    Calls Try.prog 5 #[.int .u32 a0, .int .u32 a1] w fun e w' => e = .returned (.bool true) ∧ Below w.heap.size w w' := by
  obtain ⟨k, h⟩ := P a0 a1 w0 w1
  refine (tidewaylaw01_SeqTurns.calls k a0 a1 true w h).mono ?_
  rintro e w' ⟨rfl, hd⟩
  exact ⟨rfl, hd⟩

/-! ### tidewaylaw01_SeqExact: function 6 -/
mutual
def tidewaylaw01_SeqExact.j0 : Nat → Int → Int → Int → Bool → Option (Bool)
  | 0, _, _, _, _ => none
  | k + 1, x0, x1, x2, x34 => if x34 = true then ((tidewaylaw01_heads.f k).bind fun t139 => (some t139)) else ((seq_MulDiv.f k x0 x1 x2).bind fun bt140 => ((seq_MulDiv.f k x0 x2 x2).bind fun bt142 => ((seq_Cbrt.f k (wrap64 (x0 * x1))).bind fun t144 => (if bt140.2 = 0 then (if bt142.2 = 0 then (if bt142.1 = x0 then (if bt140.1 < 0 then (tidewaylaw01_SeqExact.j1 k x0 x1 x2 bt140.1 t144 true) else (if t144 < 0 then (tidewaylaw01_SeqExact.j1 k x0 x1 x2 bt140.1 t144 true) else (tidewaylaw01_SeqExact.j1 k x0 x1 x2 bt140.1 t144 (decide (t144 > 2097151))))) else (tidewaylaw01_SeqExact.j1 k x0 x1 x2 bt140.1 t144 true)) else (tidewaylaw01_SeqExact.j1 k x0 x1 x2 bt140.1 t144 true)) else (tidewaylaw01_SeqExact.j1 k x0 x1 x2 bt140.1 t144 true)))))
def tidewaylaw01_SeqExact.j1 : Nat → Int → Int → Int → Int → Int → Bool → Option (Bool)
  | 0, _, _, _, _, _, _ => none
  | k + 1, x0, x1, x2, x7, x11, x76 => if x76 = true then (none) else (if x2 > 0 then (if x2 = 0 then (none) else (if x7 > (wrap64 (Int.tdiv (wrap64 (x0 * x1)) x2)) then (none) else (if (wrap64 ((wrap64 (x0 * x1)) - (wrap64 (x7 * x2)))) ≥ 0 then (if (wrap64 ((wrap64 (x0 * x1)) - (wrap64 (x7 * x2)))) < x2 then (if (wrap64 ((wrap64 (x11 * x11)) * x11)) ≤ (wrap64 (x0 * x1)) then (if x11 = 2097151 then ((tidewaylaw01_heads.f k).bind fun t145 => (some t145)) else (if (wrap64 ((wrap64 ((wrap64 (x11 + 1)) * (wrap64 (x11 + 1)))) * (wrap64 (x11 + 1)))) > (wrap64 (x0 * x1)) then ((tidewaylaw01_heads.f k).bind fun t146 => (some t146)) else (none))) else (none)) else (none)) else (none)))) else (if (wrap64 ((wrap64 (x0 * x1)) - (wrap64 (x7 * x2)))) ≥ 0 then (if (wrap64 ((wrap64 (x0 * x1)) - (wrap64 (x7 * x2)))) < x2 then (if (wrap64 ((wrap64 (x11 * x11)) * x11)) ≤ (wrap64 (x0 * x1)) then (if x11 = 2097151 then ((tidewaylaw01_heads.f k).bind fun t147 => (some t147)) else (if (wrap64 ((wrap64 ((wrap64 (x11 + 1)) * (wrap64 (x11 + 1)))) * (wrap64 (x11 + 1)))) > (wrap64 (x0 * x1)) then ((tidewaylaw01_heads.f k).bind fun t148 => (some t148)) else (none))) else (none)) else (none)) else (none)))
end
def tidewaylaw01_SeqExact.f (k : Nat) (a0 : Int) (a1 : Int) (a2 : Int) : Option (Bool) := if a0 < 0 then (tidewaylaw01_SeqExact.j0 k a0 a1 a2 true) else (if a1 < 0 then (tidewaylaw01_SeqExact.j0 k a0 a1 a2 true) else (if a2 < 1 then (tidewaylaw01_SeqExact.j0 k a0 a1 a2 true) else (if a0 > 2147483648 then (tidewaylaw01_SeqExact.j0 k a0 a1 a2 true) else (if a1 > 2147483648 then (tidewaylaw01_SeqExact.j0 k a0 a1 a2 true) else (tidewaylaw01_SeqExact.j0 k a0 a1 a2 (decide (a2 > 2147483648)))))))
theorem tidewaylaw01_SeqExact.mono_l : ∀ k, (∀ y0 y1 y2 y3, LeO (tidewaylaw01_SeqExact.j0 k y0 y1 y2 y3) (tidewaylaw01_SeqExact.j0 (k + 1) y0 y1 y2 y3)) ∧ (∀ y0 y1 y2 y3 y4 y5, LeO (tidewaylaw01_SeqExact.j1 k y0 y1 y2 y3 y4 y5) (tidewaylaw01_SeqExact.j1 (k + 1) y0 y1 y2 y3 y4 y5))
  | 0 => ⟨fun _ _ _ _ r h => by simp [tidewaylaw01_SeqExact.j0] at h, fun _ _ _ _ _ _ r h => by simp [tidewaylaw01_SeqExact.j1] at h⟩
  | k + 1 => by
    obtain ⟨ih0, ih1⟩ := tidewaylaw01_SeqExact.mono_l k
    refine ⟨?_, ?_⟩
    · intro y0 y1 y2 y3
      unfold tidewaylaw01_SeqExact.j0
      repeat' first
      | (with_reducible exact ih0 _ _ _ _)
      | (with_reducible exact ih1 _ _ _ _ _ _)
      | (with_reducible exact seq_Cbrt.mono _ _)
      | (with_reducible exact seq_MulDiv.mono _ _ _ _)
      | (with_reducible exact tidewaylaw01_heads.mono _)
      | (with_reducible exact LeO.refl _)
      | (with_reducible exact LeO.none _)
      | (with_reducible refine LeO.ite ?_ ?_)
      | (with_reducible refine LeO.bind ?_ (fun _ => ?_))
      | exact ih0 _ _ _ _
      | exact ih1 _ _ _ _ _ _
      | exact seq_Cbrt.mono _ _
      | exact seq_MulDiv.mono _ _ _ _
      | exact tidewaylaw01_heads.mono _
      | exact LeO.none _
      | refine LeO.ite ?_ ?_
      | refine LeO.bind ?_ (fun _ => ?_)
    · intro y0 y1 y2 y3 y4 y5
      unfold tidewaylaw01_SeqExact.j1
      repeat' first
      | (with_reducible exact ih0 _ _ _ _)
      | (with_reducible exact ih1 _ _ _ _ _ _)
      | (with_reducible exact seq_Cbrt.mono _ _)
      | (with_reducible exact seq_MulDiv.mono _ _ _ _)
      | (with_reducible exact tidewaylaw01_heads.mono _)
      | (with_reducible exact LeO.refl _)
      | (with_reducible exact LeO.none _)
      | (with_reducible refine LeO.ite ?_ ?_)
      | (with_reducible refine LeO.bind ?_ (fun _ => ?_))
      | exact ih0 _ _ _ _
      | exact ih1 _ _ _ _ _ _
      | exact seq_Cbrt.mono _ _
      | exact seq_MulDiv.mono _ _ _ _
      | exact tidewaylaw01_heads.mono _
      | exact LeO.none _
      | refine LeO.ite ?_ ?_
      | refine LeO.bind ?_ (fun _ => ?_)
theorem tidewaylaw01_SeqExact.mono : ∀ a0 a1 a2 k, LeO (tidewaylaw01_SeqExact.f k a0 a1 a2) (tidewaylaw01_SeqExact.f (k + 1) a0 a1 a2) := by
  intro a0 a1 a2 k
  obtain ⟨ih0, ih1⟩ := tidewaylaw01_SeqExact.mono_l k
  unfold tidewaylaw01_SeqExact.f
  repeat' first
      | (with_reducible exact ih0 _ _ _ _)
      | (with_reducible exact ih1 _ _ _ _ _ _)
      | (with_reducible exact seq_Cbrt.mono _ _)
      | (with_reducible exact seq_MulDiv.mono _ _ _ _)
      | (with_reducible exact tidewaylaw01_heads.mono _)
      | (with_reducible exact LeO.refl _)
      | (with_reducible exact LeO.none _)
      | (with_reducible refine LeO.ite ?_ ?_)
      | (with_reducible refine LeO.bind ?_ (fun _ => ?_))
      | exact ih0 _ _ _ _
      | exact ih1 _ _ _ _ _ _
      | exact seq_Cbrt.mono _ _
      | exact seq_MulDiv.mono _ _ _ _
      | exact tidewaylaw01_heads.mono _
      | exact LeO.none _
      | refine LeO.ite ?_ ?_
      | refine LeO.bind ?_ (fun _ => ?_)
set_option maxHeartbeats 8000000 in
set_option maxRecDepth 100000 in
theorem tidewaylaw01_SeqExact.calls (k : Nat) (a0 : Int) (a1 : Int) (a2 : Int) (r : Bool) (w : World) (h : tidewaylaw01_SeqExact.f k a0 a1 a2 = some r) :
    Calls Try.prog 6 #[.int .i64 a0, .int .i64 a1, .int .i64 a2] w fun e w' => e = .returned (.bool r) ∧ Below w.heap.size w w' := by
  have HB := Aside0.mk (Below.refl w.heap.size w)
  have H : (if a0 < 0 then (tidewaylaw01_SeqExact.j0 k a0 a1 a2 true) else (if a1 < 0 then (tidewaylaw01_SeqExact.j0 k a0 a1 a2 true) else (if a2 < 1 then (tidewaylaw01_SeqExact.j0 k a0 a1 a2 true) else (if a0 > 2147483648 then (tidewaylaw01_SeqExact.j0 k a0 a1 a2 true) else (if a1 > 2147483648 then (tidewaylaw01_SeqExact.j0 k a0 a1 a2 true) else (tidewaylaw01_SeqExact.j0 k a0 a1 a2 (decide (a2 > 2147483648)))))))) = some r := h
  clear h
  have HC4 := Aside0.mk H
  clear H
  go_enter Try.func6, Try.ntmps6
  go_upto_region 1 with (fail)
  go_cut [34] (fun v34 wc => ∃ (kq : Nat) (x34_3 : Bool), v34 = .bool x34_3 ∧ Aside0 (tidewaylaw01_SeqExact.j0 kq a0 a1 a2 x34_3 = some r) ∧ Aside0 (kq ≤ k) ∧ Aside0 (Below w.heap.size w wc))
  case first =>
    have H := HC4.out
    clear HC4
    by_cases c5 : a0 < 0
    · rw [if_pos c5] at H
      have c5b0 : decide (a0 < 0) = true := decide_eq_true c5
      clear c5
      (first | rw [c5b0] | (simp only [i64_w, i32_w]; rw [c5b0]) | skip)
      have H' := Aside0.mk H
      clear H
      go_wp2
      go_meet
      case rel => exact ⟨_, (true), (by first | rfl | (simp; done) | (simp [*]; done)), H', ⟨by first | omega | exact Nat.le_refl _⟩, ⟨by repeat (first | (with_reducible first | exact HB.out | apply below_alloc | apply pw_below_drewN | apply below_drew1) | exact HB.out)⟩⟩
    · rw [if_neg c5] at H
      have c5b0 : decide (a0 < 0) = false := decide_eq_false c5
      clear c5
      (first | rw [c5b0] | (simp only [i64_w, i32_w]; rw [c5b0]) | skip)
      by_cases c6 : a1 < 0
      · rw [if_pos c6] at H
        have c6b0 : decide (a1 < 0) = true := decide_eq_true c6
        clear c6
        have H' := Aside0.mk H
        clear H
        go_wp2
        go_meet
        case rel => exact ⟨_, (true), (by first | rfl | (simp; done) | (simp [*]; done)), H', ⟨by first | omega | exact Nat.le_refl _⟩, ⟨by repeat (first | (with_reducible first | exact HB.out | apply below_alloc | apply pw_below_drewN | apply below_drew1) | exact HB.out)⟩⟩
      · rw [if_neg c6] at H
        have c6b0 : decide (a1 < 0) = false := decide_eq_false c6
        clear c6
        by_cases c7 : a2 < 1
        · rw [if_pos c7] at H
          have c7b0 : decide (a2 < 1) = true := decide_eq_true c7
          clear c7
          have H' := Aside0.mk H
          clear H
          go_wp2
          go_meet
          case rel => exact ⟨_, (true), (by first | rfl | (simp; done) | (simp [*]; done)), H', ⟨by first | omega | exact Nat.le_refl _⟩, ⟨by repeat (first | (with_reducible first | exact HB.out | apply below_alloc | apply pw_below_drewN | apply below_drew1) | exact HB.out)⟩⟩
        · rw [if_neg c7] at H
          have c7b0 : decide (a2 < 1) = false := decide_eq_false c7
          clear c7
          by_cases c8 : a0 > 2147483648
          · rw [if_pos c8] at H
            have c8b0 : decide (2147483648 < a0) = true := decide_eq_true c8
            clear c8
            have H' := Aside0.mk H
            clear H
            go_wp2
            go_meet
            case rel => exact ⟨_, (true), (by first | rfl | (simp; done) | (simp [*]; done)), H', ⟨by first | omega | exact Nat.le_refl _⟩, ⟨by repeat (first | (with_reducible first | exact HB.out | apply below_alloc | apply pw_below_drewN | apply below_drew1) | exact HB.out)⟩⟩
          · rw [if_neg c8] at H
            have c8b0 : decide (2147483648 < a0) = false := decide_eq_false c8
            clear c8
            by_cases c9 : a1 > 2147483648
            · rw [if_pos c9] at H
              have c9b0 : decide (2147483648 < a1) = true := decide_eq_true c9
              clear c9
              have H' := Aside0.mk H
              clear H
              go_wp2
              go_meet
              case rel => exact ⟨_, (true), (by first | rfl | (simp; done) | (simp [*]; done)), H', ⟨by first | omega | exact Nat.le_refl _⟩, ⟨by repeat (first | (with_reducible first | exact HB.out | apply below_alloc | apply pw_below_drewN | apply below_drew1) | exact HB.out)⟩⟩
            · rw [if_neg c9] at H
              have c9b0 : decide (2147483648 < a1) = false := decide_eq_false c9
              clear c9
              have H' := Aside0.mk H
              clear H
              go_wp2
              go_meet
              case rel => exact ⟨_, (decide (a2 > 2147483648)), (by first | rfl | (simp; done) | (simp [*]; done)), H', ⟨by first | omega | exact Nat.le_refl _⟩, ⟨by repeat (first | (with_reducible first | exact HB.out | apply below_alloc | apply pw_below_drewN | apply below_drew1) | exact HB.out)⟩⟩
  case rest =>
    clear HC4
    try clear p2
    try clear c5
    try clear c5b0
    try clear c6
    try clear c6b0
    try clear c7
    try clear c7b0
    try clear c8
    try clear c8b0
    try clear c9
    try clear c9b0
    obtain ⟨kq, x34_3, rfl, HA, HJ3, HB⟩ := hcut
    cases kq with
    | zero => exact absurd HA.out (by simp [tidewaylaw01_SeqExact.j0])
    | succ kj3 =>
      have H := HA.out
      clear HA
      simp only [tidewaylaw01_SeqExact.j0] at H
      by_cases c10 : x34_3 = true
      · subst c10
        have H1 : ((tidewaylaw01_heads.f kj3).bind fun t139 => (some t139)) = some r := by rw [if_pos rfl] at H; exact H
        clear H
        have H := H1
        clear H1
        replace H := Option.bind_eq_some_iff.mp H
        obtain ⟨t139, A110, H⟩ := H
        replace H : (some t139) = some r := H
        have A11 := Aside0.mk A110
        clear A110
        obtain rfl := Option.some.inj H
        go_wp2_with (first | ((with_reducible refine gate_callee (f := 13) rfl ?_); refine goesL_ (some 35) rfl rfl Try.func13 (by kernel_rfl) rfl #[] rfl (by (try simp only [List.map_toArray, List.map_cons, List.map_nil]); first | done | rfl | (simp only [List.length_drop, List.length_take]; rfl)) ?_; (with_reducible refine (tidewaylaw01_heads.calls kj3  t139 _ A11.out).mono ?_); rintro e w12 ⟨rfl, hb⟩; refine ⟨_, rfl, ?_⟩; have n0_ := Aside0.mk (below_step (by repeat (first | (with_reducible first | exact HB.out | apply below_alloc | apply pw_below_drewN | apply below_drew1) | exact HB.out)) hb); clear HB; have HB := n0_; clear n0_; (try clear hb); (try clear hb2); (try clear hk); (try clear hi)))
        go_ret
        exact ⟨by first | rfl | (simp [errW_none, errW_some] <;> rfl) | (simp [*, errW_none, errW_some] <;> rfl), by repeat (first | (with_reducible first | exact HB.out | apply below_alloc | apply pw_below_drewN | apply below_drew1) | exact HB.out)⟩
      · replace c10 := Bool.eq_false_iff.mpr c10
        subst c10
        have H1 : ((seq_MulDiv.f kj3 a0 a1 a2).bind fun bt140 => ((seq_MulDiv.f kj3 a0 a2 a2).bind fun bt142 => ((seq_Cbrt.f kj3 (wrap64 (a0 * a1))).bind fun t144 => (if bt140.2 = 0 then (if bt142.2 = 0 then (if bt142.1 = a0 then (if bt140.1 < 0 then (tidewaylaw01_SeqExact.j1 kj3 a0 a1 a2 bt140.1 t144 true) else (if t144 < 0 then (tidewaylaw01_SeqExact.j1 kj3 a0 a1 a2 bt140.1 t144 true) else (tidewaylaw01_SeqExact.j1 kj3 a0 a1 a2 bt140.1 t144 (decide (t144 > 2097151))))) else (tidewaylaw01_SeqExact.j1 kj3 a0 a1 a2 bt140.1 t144 true)) else (tidewaylaw01_SeqExact.j1 kj3 a0 a1 a2 bt140.1 t144 true)) else (tidewaylaw01_SeqExact.j1 kj3 a0 a1 a2 bt140.1 t144 true))))) = some r := by rw [if_neg (show ¬ (false = true) by decide)] at H; exact H
        clear H
        have H := H1
        clear H1
        replace H := Option.bind_eq_some_iff.mp H
        obtain ⟨⟨t140, t141⟩, A130, H⟩ := H
        replace H : ((seq_MulDiv.f kj3 a0 a2 a2).bind fun bt142 => ((seq_Cbrt.f kj3 (wrap64 (a0 * a1))).bind fun t144 => (if t141 = 0 then (if bt142.2 = 0 then (if bt142.1 = a0 then (if t140 < 0 then (tidewaylaw01_SeqExact.j1 kj3 a0 a1 a2 t140 t144 true) else (if t144 < 0 then (tidewaylaw01_SeqExact.j1 kj3 a0 a1 a2 t140 t144 true) else (tidewaylaw01_SeqExact.j1 kj3 a0 a1 a2 t140 t144 (decide (t144 > 2097151))))) else (tidewaylaw01_SeqExact.j1 kj3 a0 a1 a2 t140 t144 true)) else (tidewaylaw01_SeqExact.j1 kj3 a0 a1 a2 t140 t144 true)) else (tidewaylaw01_SeqExact.j1 kj3 a0 a1 a2 t140 t144 true)))) = some r := H
        have A13 := Aside0.mk A130
        clear A130
        replace H := Option.bind_eq_some_iff.mp H
        obtain ⟨⟨t142, t143⟩, A140, H⟩ := H
        replace H : ((seq_Cbrt.f kj3 (wrap64 (a0 * a1))).bind fun t144 => (if t141 = 0 then (if t143 = 0 then (if t142 = a0 then (if t140 < 0 then (tidewaylaw01_SeqExact.j1 kj3 a0 a1 a2 t140 t144 true) else (if t144 < 0 then (tidewaylaw01_SeqExact.j1 kj3 a0 a1 a2 t140 t144 true) else (tidewaylaw01_SeqExact.j1 kj3 a0 a1 a2 t140 t144 (decide (t144 > 2097151))))) else (tidewaylaw01_SeqExact.j1 kj3 a0 a1 a2 t140 t144 true)) else (tidewaylaw01_SeqExact.j1 kj3 a0 a1 a2 t140 t144 true)) else (tidewaylaw01_SeqExact.j1 kj3 a0 a1 a2 t140 t144 true))) = some r := H
        have A14 := Aside0.mk A140
        clear A140
        replace H := Option.bind_eq_some_iff.mp H
        obtain ⟨t144, A150, H⟩ := H
        replace H : (if t141 = 0 then (if t143 = 0 then (if t142 = a0 then (if t140 < 0 then (tidewaylaw01_SeqExact.j1 kj3 a0 a1 a2 t140 t144 true) else (if t144 < 0 then (tidewaylaw01_SeqExact.j1 kj3 a0 a1 a2 t140 t144 true) else (tidewaylaw01_SeqExact.j1 kj3 a0 a1 a2 t140 t144 (decide (t144 > 2097151))))) else (tidewaylaw01_SeqExact.j1 kj3 a0 a1 a2 t140 t144 true)) else (tidewaylaw01_SeqExact.j1 kj3 a0 a1 a2 t140 t144 true)) else (tidewaylaw01_SeqExact.j1 kj3 a0 a1 a2 t140 t144 true)) = some r := H
        have A15 := Aside0.mk A150
        clear A150
        have HC16 := Aside0.mk H
        clear H
        go_upto_region 6 with (first | ((with_reducible refine gate_callee (f := 9) rfl ?_); refine goesL_ (some 40) rfl rfl Try.func9 (by kernel_rfl) rfl #[.int .i64 a0, .int .i64 a1, .int .i64 a2] rfl (by (try simp only [List.map_toArray, List.map_cons, List.map_nil]); first | done | rfl | (simp only [List.length_drop, List.length_take]; rfl)) ?_; (with_reducible refine (seq_MulDiv.calls kj3 a0 a1 a2 t140 t141 _ A13.out).mono ?_); rintro e w17 ⟨rfl, hb⟩; refine ⟨_, rfl, ?_⟩; have n0_ := Aside0.mk (below_step (by repeat (first | (with_reducible first | exact HB.out | apply below_alloc | apply pw_below_drewN | apply below_drew1) | exact HB.out)) hb); clear HB; have HB := n0_; clear n0_; (try clear hb); (try clear hb2); (try clear hk); (try clear hi)) | ((with_reducible refine gate_callee (f := 9) rfl ?_); refine goesL_ (some 47) rfl rfl Try.func9 (by kernel_rfl) rfl #[.int .i64 a0, .int .i64 a2, .int .i64 a2] rfl (by (try simp only [List.map_toArray, List.map_cons, List.map_nil]); first | done | rfl | (simp only [List.length_drop, List.length_take]; rfl)) ?_; (with_reducible refine (seq_MulDiv.calls kj3 a0 a2 a2 t142 t143 _ A14.out).mono ?_); rintro e w18 ⟨rfl, hb⟩; refine ⟨_, rfl, ?_⟩; have n0_ := Aside0.mk (below_step (by repeat (first | (with_reducible first | exact HB.out | apply below_alloc | apply pw_below_drewN | apply below_drew1) | exact HB.out)) hb); clear HB; have HB := n0_; clear n0_; (try clear hb); (try clear hb2); (try clear hk); (try clear hi)) | ((with_reducible refine gate_callee (f := 11) rfl ?_); refine goesL_ (some 53) rfl rfl Try.func11 (by kernel_rfl) rfl #[.int .i64 (wrap64 (a0 * a1))] rfl (by (try simp only [List.map_toArray, List.map_cons, List.map_nil]); first | done | rfl | (simp only [List.length_drop, List.length_take]; rfl)) ?_; (with_reducible refine (seq_Cbrt.calls kj3 (wrap64 (a0 * a1)) t144 _ A15.out).mono ?_); rintro e w' ⟨rfl, ⟨nd, rfl⟩⟩; refine ⟨_, rfl, ?_⟩))
        (try simp only [Act.put, List.setIfInBounds_toArray, List.set_cons_zero, List.set_cons_succ])
        go_cut [76] (fun v76 wc => ∃ (kq : Nat) (x76_15 : Bool), v76 = .bool x76_15 ∧ Aside0 (tidewaylaw01_SeqExact.j1 kq a0 a1 a2 t140 t144 x76_15 = some r) ∧ Aside0 (kq ≤ kj3) ∧ Aside0 (Below w.heap.size w wc))
        case first =>
          have H := HC16.out
          clear HC16
          by_cases c19 : t141 = 0
          · rw [if_pos c19] at H
            have c19b0 : (t141 == 0) = true := beq_iff_eq.mpr c19
            have c19b1 : (t141 != 0) = false := bne_eq_false_iff_eq.mpr c19
            clear c19
            (first | rw [c19b0] | (simp only [i64_w, i32_w]; rw [c19b0]) | skip)
            by_cases c20 : t143 = 0
            · rw [if_pos c20] at H
              have c20b0 : (t143 == 0) = true := beq_iff_eq.mpr c20
              have c20b1 : (t143 != 0) = false := bne_eq_false_iff_eq.mpr c20
              clear c20
              by_cases c21 : t142 = a0
              · rw [if_pos c21] at H
                have c21b0 : (t142 == a0) = true := beq_iff_eq.mpr c21
                have c21b1 : (t142 != a0) = false := bne_eq_false_iff_eq.mpr c21
                clear c21
                by_cases c22 : t140 < 0
                · rw [if_pos c22] at H
                  have c22b0 : decide (t140 < 0) = true := decide_eq_true c22
                  clear c22
                  have H' := Aside0.mk H
                  clear H
                  go_wp2
                  go_meet
                  case rel => exact ⟨_, (true), (by first | rfl | (simp; done) | (simp [*]; done)), H', ⟨by have := HJ3.out; first | omega | exact Nat.le_refl _⟩, ⟨by repeat (first | (with_reducible first | exact HB.out | apply below_alloc | apply pw_below_drewN | apply below_drew1) | exact HB.out)⟩⟩
                · rw [if_neg c22] at H
                  have c22b0 : decide (t140 < 0) = false := decide_eq_false c22
                  clear c22
                  by_cases c23 : t144 < 0
                  · rw [if_pos c23] at H
                    have c23b0 : decide (t144 < 0) = true := decide_eq_true c23
                    clear c23
                    have H' := Aside0.mk H
                    clear H
                    go_wp2
                    go_meet
                    case rel => exact ⟨_, (true), (by first | rfl | (simp; done) | (simp [*]; done)), H', ⟨by have := HJ3.out; first | omega | exact Nat.le_refl _⟩, ⟨by repeat (first | (with_reducible first | exact HB.out | apply below_alloc | apply pw_below_drewN | apply below_drew1) | exact HB.out)⟩⟩
                  · rw [if_neg c23] at H
                    have c23b0 : decide (t144 < 0) = false := decide_eq_false c23
                    clear c23
                    have H' := Aside0.mk H
                    clear H
                    go_wp2
                    go_meet
                    case rel => exact ⟨_, (decide (t144 > 2097151)), (by first | rfl | (simp; done) | (simp [*]; done)), H', ⟨by have := HJ3.out; first | omega | exact Nat.le_refl _⟩, ⟨by repeat (first | (with_reducible first | exact HB.out | apply below_alloc | apply pw_below_drewN | apply below_drew1) | exact HB.out)⟩⟩
              · rw [if_neg c21] at H
                have c21b0 : (t142 == a0) = false := beq_eq_false_iff_ne.mpr c21
                have c21b1 : (t142 != a0) = true := bne_iff_ne.mpr c21
                have H' := Aside0.mk H
                clear H
                go_wp2
                go_meet
                case rel => exact ⟨_, (true), (by first | rfl | (simp; done) | (simp [*]; done)), H', ⟨by have := HJ3.out; first | omega | exact Nat.le_refl _⟩, ⟨by repeat (first | (with_reducible first | exact HB.out | apply below_alloc | apply pw_below_drewN | apply below_drew1) | exact HB.out)⟩⟩
            · rw [if_neg c20] at H
              have c20b0 : (t143 == 0) = false := beq_eq_false_iff_ne.mpr c20
              have c20b1 : (t143 != 0) = true := bne_iff_ne.mpr c20
              have H' := Aside0.mk H
              clear H
              go_wp2
              go_meet
              case rel => exact ⟨_, (true), (by first | rfl | (simp; done) | (simp [*]; done)), H', ⟨by have := HJ3.out; first | omega | exact Nat.le_refl _⟩, ⟨by repeat (first | (with_reducible first | exact HB.out | apply below_alloc | apply pw_below_drewN | apply below_drew1) | exact HB.out)⟩⟩
          · rw [if_neg c19] at H
            have c19b0 : (t141 == 0) = false := beq_eq_false_iff_ne.mpr c19
            have c19b1 : (t141 != 0) = true := bne_iff_ne.mpr c19
            (first | rw [c19b0] | (simp only [i64_w, i32_w]; rw [c19b0]) | skip)
            have H' := Aside0.mk H
            clear H
            go_wp2
            go_meet
            case rel => exact ⟨_, (true), (by first | rfl | (simp; done) | (simp [*]; done)), H', ⟨by have := HJ3.out; first | omega | exact Nat.le_refl _⟩, ⟨by repeat (first | (with_reducible first | exact HB.out | apply below_alloc | apply pw_below_drewN | apply below_drew1) | exact HB.out)⟩⟩
        case rest =>
          clear HC16
          try clear c1
          try clear c2
          try clear p2
          try clear c5
          try clear c5b0
          try clear c6
          try clear c6b0
          try clear p6
          try clear c7
          try clear c7b0
          try clear c8
          try clear c8b0
          try clear c9
          try clear c9b0
          try clear c10
          try clear c11
          try clear c13
          try clear c19
          try clear c19b0
          try clear c19b1
          try clear c20
          try clear c20b0
          try clear c20b1
          try clear c21
          try clear c21b0
          try clear c21b1
          try clear c22
          try clear c22b0
          try clear c23
          try clear c23b0
          try clear p2
          obtain ⟨kq, x76_15, rfl, HA, HJ15, HB⟩ := hcut
          cases kq with
          | zero => exact absurd HA.out (by simp [tidewaylaw01_SeqExact.j1])
          | succ kj15 =>
            have H := HA.out
            clear HA
            simp only [tidewaylaw01_SeqExact.j1] at H
            by_cases c24 : x76_15 = true
            · subst c24
              have H1 : (none) = some r := by rw [if_pos rfl] at H; exact H
              clear H
              have H := H1
              clear H1
              exact absurd H (by simp)
            · replace c24 := Bool.eq_false_iff.mpr c24
              subst c24
              have H1 : (if a2 > 0 then (if a2 = 0 then (none) else (if t140 > (wrap64 (Int.tdiv (wrap64 (a0 * a1)) a2)) then (none) else (if (wrap64 ((wrap64 (a0 * a1)) - (wrap64 (t140 * a2)))) ≥ 0 then (if (wrap64 ((wrap64 (a0 * a1)) - (wrap64 (t140 * a2)))) < a2 then (if (wrap64 ((wrap64 (t144 * t144)) * t144)) ≤ (wrap64 (a0 * a1)) then (if t144 = 2097151 then ((tidewaylaw01_heads.f kj15).bind fun t145 => (some t145)) else (if (wrap64 ((wrap64 ((wrap64 (t144 + 1)) * (wrap64 (t144 + 1)))) * (wrap64 (t144 + 1)))) > (wrap64 (a0 * a1)) then ((tidewaylaw01_heads.f kj15).bind fun t146 => (some t146)) else (none))) else (none)) else (none)) else (none)))) else (if (wrap64 ((wrap64 (a0 * a1)) - (wrap64 (t140 * a2)))) ≥ 0 then (if (wrap64 ((wrap64 (a0 * a1)) - (wrap64 (t140 * a2)))) < a2 then (if (wrap64 ((wrap64 (t144 * t144)) * t144)) ≤ (wrap64 (a0 * a1)) then (if t144 = 2097151 then ((tidewaylaw01_heads.f kj15).bind fun t147 => (some t147)) else (if (wrap64 ((wrap64 ((wrap64 (t144 + 1)) * (wrap64 (t144 + 1)))) * (wrap64 (t144 + 1)))) > (wrap64 (a0 * a1)) then ((tidewaylaw01_heads.f kj15).bind fun t148 => (some t148)) else (none))) else (none)) else (none)) else (none))) = some r := by rw [if_neg (show ¬ (false = true) by decide)] at H; exact H
              clear H
              have H := H1
              clear H1
              by_cases c25 : a2 > 0
              · rw [if_pos c25] at H
                have c25b0 : decide (0 < a2) = true := decide_eq_true c25
                clear c25
                by_cases c26 : a2 = 0
                · rw [if_pos c26] at H
                  exact absurd H (by simp)
                · rw [if_neg c26] at H
                  have c26b0 : (a2 == 0) = false := beq_eq_false_iff_ne.mpr c26
                  have c26b1 : (a2 != 0) = true := bne_iff_ne.mpr c26
                  by_cases c27 : t140 > (wrap64 (Int.tdiv (wrap64 (a0 * a1)) a2))
                  · rw [if_pos c27] at H
                    exact absurd H (by simp)
                  · rw [if_neg c27] at H
                    have c27b0 : decide ((wrap64 (Int.tdiv (wrap64 (a0 * a1)) a2)) < t140) = false := decide_eq_false c27
                    clear c27
                    by_cases c28 : (wrap64 ((wrap64 (a0 * a1)) - (wrap64 (t140 * a2)))) ≥ 0
                    · rw [if_pos c28] at H
                      have c28b0 : decide (0 ≤ (wrap64 ((wrap64 (a0 * a1)) - (wrap64 (t140 * a2))))) = true := decide_eq_true c28
                      clear c28
                      by_cases c29 : (wrap64 ((wrap64 (a0 * a1)) - (wrap64 (t140 * a2)))) < a2
                      · rw [if_pos c29] at H
                        have c29b0 : decide ((wrap64 ((wrap64 (a0 * a1)) - (wrap64 (t140 * a2)))) < a2) = true := decide_eq_true c29
                        clear c29
                        by_cases c30 : (wrap64 ((wrap64 (t144 * t144)) * t144)) ≤ (wrap64 (a0 * a1))
                        · rw [if_pos c30] at H
                          have c30b0 : decide ((wrap64 ((wrap64 (t144 * t144)) * t144)) ≤ (wrap64 (a0 * a1))) = true := decide_eq_true c30
                          clear c30
                          by_cases c31 : t144 = 2097151
                          · rw [if_pos c31] at H
                            have c31b0 : (t144 == 2097151) = true := beq_iff_eq.mpr c31
                            have c31b1 : (t144 != 2097151) = false := bne_eq_false_iff_eq.mpr c31
                            clear c31
                            replace H := Option.bind_eq_some_iff.mp H
                            obtain ⟨t145, A320, H⟩ := H
                            replace H : (some t145) = some r := H
                            have A32 := Aside0.mk A320
                            clear A320
                            obtain rfl := Option.some.inj H
                            go_wp2_with (first | (go_at_call 13; (with_reducible refine (tidewaylaw01_heads.calls kj15  t145 _ A32.out).mono ?_); rintro e w33 ⟨rfl, hb⟩; have n0_ := Aside0.mk (below_step (by repeat (first | (with_reducible first | exact HB.out | apply below_alloc | apply pw_below_drewN | apply below_drew1) | exact HB.out)) hb); clear HB; have HB := n0_; clear n0_; (try clear hb); (try clear hb2); (try clear hk); (try clear hi)))
                            go_ret
                            exact ⟨by first | rfl | (simp [errW_none, errW_some] <;> rfl) | (simp [*, errW_none, errW_some] <;> rfl), by repeat (first | (with_reducible first | exact HB.out | apply below_alloc | apply pw_below_drewN | apply below_drew1) | exact HB.out)⟩
                          · rw [if_neg c31] at H
                            have c31b0 : (t144 == 2097151) = false := beq_eq_false_iff_ne.mpr c31
                            have c31b1 : (t144 != 2097151) = true := bne_iff_ne.mpr c31
                            by_cases c34 : (wrap64 ((wrap64 ((wrap64 (t144 + 1)) * (wrap64 (t144 + 1)))) * (wrap64 (t144 + 1)))) > (wrap64 (a0 * a1))
                            · rw [if_pos c34] at H
                              have c34b0 : decide ((wrap64 (a0 * a1)) < (wrap64 ((wrap64 ((wrap64 (t144 + 1)) * (wrap64 (t144 + 1)))) * (wrap64 (t144 + 1))))) = true := decide_eq_true c34
                              clear c34
                              replace H := Option.bind_eq_some_iff.mp H
                              obtain ⟨t146, A350, H⟩ := H
                              replace H : (some t146) = some r := H
                              have A35 := Aside0.mk A350
                              clear A350
                              obtain rfl := Option.some.inj H
                              go_wp2_with (first | (go_at_call 13; (with_reducible refine (tidewaylaw01_heads.calls kj15  t146 _ A35.out).mono ?_); rintro e w36 ⟨rfl, hb⟩; have n0_ := Aside0.mk (below_step (by repeat (first | (with_reducible first | exact HB.out | apply below_alloc | apply pw_below_drewN | apply below_drew1) | exact HB.out)) hb); clear HB; have HB := n0_; clear n0_; (try clear hb); (try clear hb2); (try clear hk); (try clear hi)))
                              go_ret
                              exact ⟨by first | rfl | (simp [errW_none, errW_some] <;> rfl) | (simp [*, errW_none, errW_some] <;> rfl), by repeat (first | (with_reducible first | exact HB.out | apply below_alloc | apply pw_below_drewN | apply below_drew1) | exact HB.out)⟩
                            · rw [if_neg c34] at H
                              exact absurd H (by simp)
                        · rw [if_neg c30] at H
                          exact absurd H (by simp)
                      · rw [if_neg c29] at H
                        exact absurd H (by simp)
                    · rw [if_neg c28] at H
                      exact absurd H (by simp)
              · rw [if_neg c25] at H
                have c25b0 : decide (0 < a2) = false := decide_eq_false c25
                clear c25
                by_cases c37 : (wrap64 ((wrap64 (a0 * a1)) - (wrap64 (t140 * a2)))) ≥ 0
                · rw [if_pos c37] at H
                  have c37b0 : decide (0 ≤ (wrap64 ((wrap64 (a0 * a1)) - (wrap64 (t140 * a2))))) = true := decide_eq_true c37
                  clear c37
                  by_cases c38 : (wrap64 ((wrap64 (a0 * a1)) - (wrap64 (t140 * a2)))) < a2
                  · rw [if_pos c38] at H
                    have c38b0 : decide ((wrap64 ((wrap64 (a0 * a1)) - (wrap64 (t140 * a2)))) < a2) = true := decide_eq_true c38
                    clear c38
                    by_cases c39 : (wrap64 ((wrap64 (t144 * t144)) * t144)) ≤ (wrap64 (a0 * a1))
                    · rw [if_pos c39] at H
                      have c39b0 : decide ((wrap64 ((wrap64 (t144 * t144)) * t144)) ≤ (wrap64 (a0 * a1))) = true := decide_eq_true c39
                      clear c39
                      by_cases c40 : t144 = 2097151
                      · rw [if_pos c40] at H
                        have c40b0 : (t144 == 2097151) = true := beq_iff_eq.mpr c40
                        have c40b1 : (t144 != 2097151) = false := bne_eq_false_iff_eq.mpr c40
                        clear c40
                        replace H := Option.bind_eq_some_iff.mp H
                        obtain ⟨t147, A410, H⟩ := H
                        replace H : (some t147) = some r := H
                        have A41 := Aside0.mk A410
                        clear A410
                        obtain rfl := Option.some.inj H
                        go_wp2_with (first | (go_at_call 13; (with_reducible refine (tidewaylaw01_heads.calls kj15  t147 _ A41.out).mono ?_); rintro e w42 ⟨rfl, hb⟩; have n0_ := Aside0.mk (below_step (by repeat (first | (with_reducible first | exact HB.out | apply below_alloc | apply pw_below_drewN | apply below_drew1) | exact HB.out)) hb); clear HB; have HB := n0_; clear n0_; (try clear hb); (try clear hb2); (try clear hk); (try clear hi)))
                        go_ret
                        exact ⟨by first | rfl | (simp [errW_none, errW_some] <;> rfl) | (simp [*, errW_none, errW_some] <;> rfl), by repeat (first | (with_reducible first | exact HB.out | apply below_alloc | apply pw_below_drewN | apply below_drew1) | exact HB.out)⟩
                      · rw [if_neg c40] at H
                        have c40b0 : (t144 == 2097151) = false := beq_eq_false_iff_ne.mpr c40
                        have c40b1 : (t144 != 2097151) = true := bne_iff_ne.mpr c40
                        by_cases c43 : (wrap64 ((wrap64 ((wrap64 (t144 + 1)) * (wrap64 (t144 + 1)))) * (wrap64 (t144 + 1)))) > (wrap64 (a0 * a1))
                        · rw [if_pos c43] at H
                          have c43b0 : decide ((wrap64 (a0 * a1)) < (wrap64 ((wrap64 ((wrap64 (t144 + 1)) * (wrap64 (t144 + 1)))) * (wrap64 (t144 + 1))))) = true := decide_eq_true c43
                          clear c43
                          replace H := Option.bind_eq_some_iff.mp H
                          obtain ⟨t148, A440, H⟩ := H
                          replace H : (some t148) = some r := H
                          have A44 := Aside0.mk A440
                          clear A440
                          obtain rfl := Option.some.inj H
                          go_wp2_with (first | (go_at_call 13; (with_reducible refine (tidewaylaw01_heads.calls kj15  t148 _ A44.out).mono ?_); rintro e w45 ⟨rfl, hb⟩; have n0_ := Aside0.mk (below_step (by repeat (first | (with_reducible first | exact HB.out | apply below_alloc | apply pw_below_drewN | apply below_drew1) | exact HB.out)) hb); clear HB; have HB := n0_; clear n0_; (try clear hb); (try clear hb2); (try clear hk); (try clear hi)))
                          go_ret
                          exact ⟨by first | rfl | (simp [errW_none, errW_some] <;> rfl) | (simp [*, errW_none, errW_some] <;> rfl), by repeat (first | (with_reducible first | exact HB.out | apply below_alloc | apply pw_below_drewN | apply below_drew1) | exact HB.out)⟩
                        · rw [if_neg c43] at H
                          exact absurd H (by simp)
                    · rw [if_neg c39] at H
                      exact absurd H (by simp)
                  · rw [if_neg c38] at H
                    exact absurd H (by simp)
                · rw [if_neg c37] at H
                  exact absurd H (by simp)

/-- THE ONE PURE STATEMENT of tidewaylaw01_SeqExact: yours. -/
def tidewaylaw01_SeqExact.Pure : Prop := ∀ (a0 : Int) (a1 : Int) (a2 : Int), (Lit.int .i64 a0).wf = true → (Lit.int .i64 a1).wf = true → (Lit.int .i64 a2).wf = true → ∃ k, tidewaylaw01_SeqExact.f k a0 a1 a2 = some true
theorem tidewaylaw01_SeqExact.walk (P : tidewaylaw01_SeqExact.Pure) (a0 : Int) (a1 : Int) (a2 : Int) (w : World) (w0 : (Lit.int .i64 a0).wf = true) (w1 : (Lit.int .i64 a1).wf = true) (w2 : (Lit.int .i64 a2).wf = true) :
    Calls Try.prog 6 #[.int .i64 a0, .int .i64 a1, .int .i64 a2] w fun e w' => e = .returned (.bool true) ∧ Below w.heap.size w w' := by
  obtain ⟨k, h⟩ := P a0 a1 a2 w0 w1 w2
  refine (tidewaylaw01_SeqExact.calls k a0 a1 a2 true w h).mono ?_
  rintro e w' ⟨rfl, hd⟩
  exact ⟨rfl, hd⟩

/-! ### tidewayref01_Diff: function 18 -/
def tidewayref01_Diff.f (a0 : Int) (a1 : Int) : Option (Int) := if (Int.tmod (wrap64 ((wrap64 ((wrap64 (a1)) - (wrap64 (a0)))) + 4294967296)) 4294967296) ≥ 2147483648 then (some (wrap64 ((Int.tmod (wrap64 ((wrap64 ((wrap64 (a1)) - (wrap64 (a0)))) + 4294967296)) 4294967296) - 4294967296))) else (some (Int.tmod (wrap64 ((wrap64 ((wrap64 (a1)) - (wrap64 (a0)))) + 4294967296)) 4294967296))
set_option maxHeartbeats 8000000 in
set_option maxRecDepth 100000 in
theorem tidewayref01_Diff.calls (a0 : Int) (a1 : Int) (r : Int) (w : World) (h : tidewayref01_Diff.f a0 a1 = some r) :
    Calls Try.prog 18 #[.int .u32 a0, .int .u32 a1] w fun e w' => e = .returned (.int .i64 r) ∧ Drawn0 w w' := by
  have H : (if (Int.tmod (wrap64 ((wrap64 ((wrap64 (a1)) - (wrap64 (a0)))) + 4294967296)) 4294967296) ≥ 2147483648 then (some (wrap64 ((Int.tmod (wrap64 ((wrap64 ((wrap64 (a1)) - (wrap64 (a0)))) + 4294967296)) 4294967296) - 4294967296))) else (some (Int.tmod (wrap64 ((wrap64 ((wrap64 (a1)) - (wrap64 (a0)))) + 4294967296)) 4294967296))) = some r := h
  clear h
  by_cases c3 : (Int.tmod (wrap64 ((wrap64 ((wrap64 (a1)) - (wrap64 (a0)))) + 4294967296)) 4294967296) ≥ 2147483648
  · rw [if_pos c3] at H
    have c3b0 : decide (2147483648 ≤ (Int.tmod (wrap64 ((wrap64 ((wrap64 (a1)) - (wrap64 (a0)))) + 4294967296)) 4294967296)) = true := decide_eq_true c3
    clear c3
    obtain rfl := Option.some.inj H
    go_enter Try.func18, Try.ntmps18
    go_wp2
    go_ret
    exact ⟨by first | rfl | (simp; done) | (simp [*]; done), by repeat (first | exact Drawn0.refl _ | apply Drawn0.step)⟩
  · rw [if_neg c3] at H
    have c3b0 : decide (2147483648 ≤ (Int.tmod (wrap64 ((wrap64 ((wrap64 (a1)) - (wrap64 (a0)))) + 4294967296)) 4294967296)) = false := decide_eq_false c3
    clear c3
    obtain rfl := Option.some.inj H
    go_enter Try.func18, Try.ntmps18
    go_wp2
    go_ret
    exact ⟨by first | rfl | (simp; done) | (simp [*]; done), by repeat (first | exact Drawn0.refl _ | apply Drawn0.step)⟩

/-! ### tidewayref01_Less: function 19 -/
def tidewayref01_Less.f (a0 : Int) (a1 : Int) : Option (Bool) := (tidewayref01_Diff.f a0 a1).bind fun t149 => (some (decide (t149 > 0)))
set_option maxHeartbeats 8000000 in
set_option maxRecDepth 100000 in
theorem tidewayref01_Less.calls (a0 : Int) (a1 : Int) (r : Bool) (w : World) (h : tidewayref01_Less.f a0 a1 = some r) :
    Calls Try.prog 19 #[.int .u32 a0, .int .u32 a1] w fun e w' => e = .returned (.bool r) ∧ Drawn0 w w' := by
  have H : ((tidewayref01_Diff.f a0 a1).bind fun t149 => (some (decide (t149 > 0)))) = some r := h
  clear h
  replace H := Option.bind_eq_some_iff.mp H
  obtain ⟨t149, A30, H⟩ := H
  replace H : (some (decide (t149 > 0))) = some r := H
  have A3 := Aside0.mk A30
  clear A30
  obtain rfl := Option.some.inj H
  go_enter Try.func19, Try.ntmps19
  go_wp2_with (first | ((with_reducible refine gate_callee (f := 18) rfl ?_); refine goesL_ (some 7) rfl rfl Try.func18 (by kernel_rfl) rfl #[.int .u32 a0, .int .u32 a1] rfl (by (try simp only [List.map_toArray, List.map_cons, List.map_nil]); first | done | rfl | (simp only [List.length_drop, List.length_take]; rfl)) ?_; (with_reducible refine (tidewayref01_Diff.calls a0 a1 t149 _ A3.out).mono ?_); rintro e w' ⟨rfl, ⟨nd, rfl⟩⟩; refine ⟨_, rfl, ?_⟩))
  go_ret
  exact ⟨by first | rfl | (simp; done) | (simp [*]; done), by repeat (first | exact Drawn0.refl _ | apply Drawn0.step)⟩

/-! ### seq_Within: function 20 -/
def seq_Within.f (a0 : Int) (a1 : Int) (a2 : Int) : Option (Bool) := some (decide (((a0 - a1) % 4294967296) < a2))
set_option maxHeartbeats 8000000 in
set_option maxRecDepth 100000 in
theorem seq_Within.calls (a0 : Int) (a1 : Int) (a2 : Int) (r : Bool) (w : World) (h : seq_Within.f a0 a1 a2 = some r) :
    Calls Try.prog 20 #[.int .u32 a0, .int .u32 a1, .int .u32 a2] w fun e w' => e = .returned (.bool r) ∧ Drawn0 w w' := by
  have H : (some (decide (((a0 - a1) % 4294967296) < a2))) = some r := h
  clear h
  obtain rfl := Option.some.inj H
  go_enter Try.func20, Try.ntmps20
  go_wp2
  go_ret
  exact ⟨by first | rfl | (simp; done) | (simp [*]; done), by repeat (first | exact Drawn0.refl _ | apply Drawn0.step)⟩

/-! ### tidewayref01_mod: function 30 -/
def tidewayref01_mod.f (a0 : Int) : Option (Int) := if (Int.tmod a0 4294967296) < 0 then (some (wrap64 ((Int.tmod a0 4294967296) + 4294967296))) else (some (Int.tmod a0 4294967296))
set_option maxHeartbeats 8000000 in
set_option maxRecDepth 100000 in
theorem tidewayref01_mod.calls (a0 : Int) (r : Int) (w : World) (h : tidewayref01_mod.f a0 = some r) :
    Calls Try.prog 30 #[.int .i64 a0] w fun e w' => e = .returned (.int .i64 r) ∧ Drawn0 w w' := by
  have H : (if (Int.tmod a0 4294967296) < 0 then (some (wrap64 ((Int.tmod a0 4294967296) + 4294967296))) else (some (Int.tmod a0 4294967296))) = some r := h
  clear h
  by_cases c2 : (Int.tmod a0 4294967296) < 0
  · rw [if_pos c2] at H
    have c2b0 : decide ((Int.tmod a0 4294967296) < 0) = true := decide_eq_true c2
    clear c2
    obtain rfl := Option.some.inj H
    go_enter Try.func30, Try.ntmps30
    go_wp2
    go_ret
    exact ⟨by first | rfl | (simp; done) | (simp [*]; done), by repeat (first | exact Drawn0.refl _ | apply Drawn0.step)⟩
  · rw [if_neg c2] at H
    have c2b0 : decide ((Int.tmod a0 4294967296) < 0) = false := decide_eq_false c2
    clear c2
    obtain rfl := Option.some.inj H
    go_enter Try.func30, Try.ntmps30
    go_wp2
    go_ret
    exact ⟨by first | rfl | (simp; done) | (simp [*]; done), by repeat (first | exact Drawn0.refl _ | apply Drawn0.step)⟩

/-! ### tidewayref01_Within: function 21 -/
def tidewayref01_Within.f (a0 : Int) (a1 : Int) (a2 : Int) : Option (Bool) := (tidewayref01_mod.f (wrap64 ((wrap64 (a0)) - (wrap64 (a1))))).bind fun t150 => (some (decide (t150 < (wrap64 (a2)))))
set_option maxHeartbeats 8000000 in
set_option maxRecDepth 100000 in
theorem tidewayref01_Within.calls (a0 : Int) (a1 : Int) (a2 : Int) (r : Bool) (w : World) (h : tidewayref01_Within.f a0 a1 a2 = some r) :
    Calls Try.prog 21 #[.int .u32 a0, .int .u32 a1, .int .u32 a2] w fun e w' => e = .returned (.bool r) ∧ Drawn0 w w' := by
  have H : ((tidewayref01_mod.f (wrap64 ((wrap64 (a0)) - (wrap64 (a1))))).bind fun t150 => (some (decide (t150 < (wrap64 (a2)))))) = some r := h
  clear h
  replace H := Option.bind_eq_some_iff.mp H
  obtain ⟨t150, A40, H⟩ := H
  replace H : (some (decide (t150 < (wrap64 (a2))))) = some r := H
  have A4 := Aside0.mk A40
  clear A40
  obtain rfl := Option.some.inj H
  go_enter Try.func21, Try.ntmps21
  go_wp2_with (first | ((with_reducible refine gate_callee (f := 30) rfl ?_); refine goesL_ (some 12) rfl rfl Try.func30 (by kernel_rfl) rfl #[.int .i64 (wrap64 ((wrap64 (a0)) - (wrap64 (a1))))] rfl (by (try simp only [List.map_toArray, List.map_cons, List.map_nil]); first | done | rfl | (simp only [List.length_drop, List.length_take]; rfl)) ?_; (with_reducible refine (tidewayref01_mod.calls (wrap64 ((wrap64 (a0)) - (wrap64 (a1)))) t150 _ A4.out).mono ?_); rintro e w' ⟨rfl, ⟨nd, rfl⟩⟩; refine ⟨_, rfl, ?_⟩))
  go_ret
  exact ⟨by first | rfl | (simp; done) | (simp [*]; done), by repeat (first | exact Drawn0.refl _ | apply Drawn0.step)⟩

/-! ### tidewayref01_Add: function 22 -/
def tidewayref01_Add.f (a0 : Int) (a1 : Int) : Option (Int) := (tidewayref01_mod.f a1).bind fun t151 => ((tidewayref01_mod.f (wrap64 ((wrap64 (a0)) + t151))).bind fun t152 => (some ((t152) % 4294967296)))
set_option maxHeartbeats 8000000 in
set_option maxRecDepth 100000 in
theorem tidewayref01_Add.calls (a0 : Int) (a1 : Int) (r : Int) (w : World) (h : tidewayref01_Add.f a0 a1 = some r) :
    Calls Try.prog 22 #[.int .u32 a0, .int .i64 a1] w fun e w' => e = .returned (.int .u32 r) ∧ Drawn0 w w' := by
  have H : ((tidewayref01_mod.f a1).bind fun t151 => ((tidewayref01_mod.f (wrap64 ((wrap64 (a0)) + t151))).bind fun t152 => (some ((t152) % 4294967296)))) = some r := h
  clear h
  replace H := Option.bind_eq_some_iff.mp H
  obtain ⟨t151, A30, H⟩ := H
  replace H : ((tidewayref01_mod.f (wrap64 ((wrap64 (a0)) + t151))).bind fun t152 => (some ((t152) % 4294967296))) = some r := H
  have A3 := Aside0.mk A30
  clear A30
  replace H := Option.bind_eq_some_iff.mp H
  obtain ⟨t152, A40, H⟩ := H
  replace H : (some ((t152) % 4294967296)) = some r := H
  have A4 := Aside0.mk A40
  clear A40
  obtain rfl := Option.some.inj H
  go_enter Try.func22, Try.ntmps22
  go_wp2_with (first | ((with_reducible refine gate_callee (f := 30) rfl ?_); refine goesL_ (some 8) rfl rfl Try.func30 (by kernel_rfl) rfl #[.int .i64 a1] rfl (by (try simp only [List.map_toArray, List.map_cons, List.map_nil]); first | done | rfl | (simp only [List.length_drop, List.length_take]; rfl)) ?_; (with_reducible refine (tidewayref01_mod.calls a1 t151 _ A3.out).mono ?_); rintro e w' ⟨rfl, ⟨nd, rfl⟩⟩; refine ⟨_, rfl, ?_⟩) | ((with_reducible refine gate_callee (f := 30) rfl ?_); refine goesL_ (some 10) rfl rfl Try.func30 (by kernel_rfl) rfl #[.int .i64 (wrap64 ((wrap64 (a0)) + t151))] rfl (by (try simp only [List.map_toArray, List.map_cons, List.map_nil]); first | done | rfl | (simp only [List.length_drop, List.length_take]; rfl)) ?_; (with_reducible refine (tidewayref01_mod.calls (wrap64 ((wrap64 (a0)) + t151)) t152 _ A4.out).mono ?_); rintro e w' ⟨rfl, ⟨nd, rfl⟩⟩; refine ⟨_, rfl, ?_⟩))
  go_ret
  exact ⟨by first | rfl | (simp; done) | (simp [*]; done), by repeat (first | exact Drawn0.refl _ | apply Drawn0.step)⟩

/-! ### tidewaylaw01_SeqCompares: function 7 -/
def tidewaylaw01_SeqCompares.f (k : Nat) (a0 : Int) (a1 : Int) (a2 : Int) (a3 : Int) : Option (Bool) := (seq_Diff.f a0 a1).bind fun t153 => ((tidewayref01_Diff.f a0 a1).bind fun t154 => (if t153 = t154 then ((seq_Less.f a0 a1).bind fun t155 => ((tidewayref01_Less.f a0 a1).bind fun t156 => (if (t155 == t156) = true then ((seq_Within.f a0 a1 a2).bind fun t157 => ((tidewayref01_Within.f a0 a1 a2).bind fun t158 => (if (t157 == t158) = true then ((seq_Add.f a0 a3).bind fun t159 => ((tidewayref01_Add.f a0 a3).bind fun t160 => (if t159 = t160 then ((tidewaylaw01_heads.f k).bind fun t161 => (some t161)) else (none)))) else (none)))) else (none)))) else (none)))
theorem tidewaylaw01_SeqCompares.mono : ∀ a0 a1 a2 a3 k, LeO (tidewaylaw01_SeqCompares.f k a0 a1 a2 a3) (tidewaylaw01_SeqCompares.f (k + 1) a0 a1 a2 a3) := by
  intro a0 a1 a2 a3 k
  unfold tidewaylaw01_SeqCompares.f
  repeat' first
      | (with_reducible exact tidewaylaw01_heads.mono _)
      | (with_reducible exact LeO.refl _)
      | (with_reducible exact LeO.none _)
      | (with_reducible refine LeO.ite ?_ ?_)
      | (with_reducible refine LeO.bind ?_ (fun _ => ?_))
      | exact tidewaylaw01_heads.mono _
      | exact LeO.none _
      | refine LeO.ite ?_ ?_
      | refine LeO.bind ?_ (fun _ => ?_)
set_option maxHeartbeats 8000000 in
set_option maxRecDepth 100000 in
theorem tidewaylaw01_SeqCompares.calls (k : Nat) (a0 : Int) (a1 : Int) (a2 : Int) (a3 : Int) (r : Bool) (w : World) (h : tidewaylaw01_SeqCompares.f k a0 a1 a2 a3 = some r) :
    Calls Try.prog 7 #[.int .u32 a0, .int .u32 a1, .int .u32 a2, .int .i64 a3] w fun e w' => e = .returned (.bool r) ∧ Below w.heap.size w w' := by
  have HB := Aside0.mk (Below.refl w.heap.size w)
  have H : ((seq_Diff.f a0 a1).bind fun t153 => ((tidewayref01_Diff.f a0 a1).bind fun t154 => (if t153 = t154 then ((seq_Less.f a0 a1).bind fun t155 => ((tidewayref01_Less.f a0 a1).bind fun t156 => (if (t155 == t156) = true then ((seq_Within.f a0 a1 a2).bind fun t157 => ((tidewayref01_Within.f a0 a1 a2).bind fun t158 => (if (t157 == t158) = true then ((seq_Add.f a0 a3).bind fun t159 => ((tidewayref01_Add.f a0 a3).bind fun t160 => (if t159 = t160 then ((tidewaylaw01_heads.f k).bind fun t161 => (some t161)) else (none)))) else (none)))) else (none)))) else (none)))) = some r := h
  clear h
  replace H := Option.bind_eq_some_iff.mp H
  obtain ⟨t153, A50, H⟩ := H
  replace H : ((tidewayref01_Diff.f a0 a1).bind fun t154 => (if t153 = t154 then ((seq_Less.f a0 a1).bind fun t155 => ((tidewayref01_Less.f a0 a1).bind fun t156 => (if (t155 == t156) = true then ((seq_Within.f a0 a1 a2).bind fun t157 => ((tidewayref01_Within.f a0 a1 a2).bind fun t158 => (if (t157 == t158) = true then ((seq_Add.f a0 a3).bind fun t159 => ((tidewayref01_Add.f a0 a3).bind fun t160 => (if t159 = t160 then ((tidewaylaw01_heads.f k).bind fun t161 => (some t161)) else (none)))) else (none)))) else (none)))) else (none))) = some r := H
  have A5 := Aside0.mk A50
  clear A50
  replace H := Option.bind_eq_some_iff.mp H
  obtain ⟨t154, A60, H⟩ := H
  replace H : (if t153 = t154 then ((seq_Less.f a0 a1).bind fun t155 => ((tidewayref01_Less.f a0 a1).bind fun t156 => (if (t155 == t156) = true then ((seq_Within.f a0 a1 a2).bind fun t157 => ((tidewayref01_Within.f a0 a1 a2).bind fun t158 => (if (t157 == t158) = true then ((seq_Add.f a0 a3).bind fun t159 => ((tidewayref01_Add.f a0 a3).bind fun t160 => (if t159 = t160 then ((tidewaylaw01_heads.f k).bind fun t161 => (some t161)) else (none)))) else (none)))) else (none)))) else (none)) = some r := H
  have A6 := Aside0.mk A60
  clear A60
  by_cases c7 : t153 = t154
  · rw [if_pos c7] at H
    have c7b0 : (t153 == t154) = true := beq_iff_eq.mpr c7
    have c7b1 : (t153 != t154) = false := bne_eq_false_iff_eq.mpr c7
    clear c7
    replace H := Option.bind_eq_some_iff.mp H
    obtain ⟨t155, A80, H⟩ := H
    replace H : ((tidewayref01_Less.f a0 a1).bind fun t156 => (if (t155 == t156) = true then ((seq_Within.f a0 a1 a2).bind fun t157 => ((tidewayref01_Within.f a0 a1 a2).bind fun t158 => (if (t157 == t158) = true then ((seq_Add.f a0 a3).bind fun t159 => ((tidewayref01_Add.f a0 a3).bind fun t160 => (if t159 = t160 then ((tidewaylaw01_heads.f k).bind fun t161 => (some t161)) else (none)))) else (none)))) else (none))) = some r := H
    have A8 := Aside0.mk A80
    clear A80
    replace H := Option.bind_eq_some_iff.mp H
    obtain ⟨t156, A90, H⟩ := H
    replace H : (if (t155 == t156) = true then ((seq_Within.f a0 a1 a2).bind fun t157 => ((tidewayref01_Within.f a0 a1 a2).bind fun t158 => (if (t157 == t158) = true then ((seq_Add.f a0 a3).bind fun t159 => ((tidewayref01_Add.f a0 a3).bind fun t160 => (if t159 = t160 then ((tidewaylaw01_heads.f k).bind fun t161 => (some t161)) else (none)))) else (none)))) else (none)) = some r := H
    have A9 := Aside0.mk A90
    clear A90
    by_cases c10 : (t155 == t156) = true
    · rw [if_pos c10] at H
      have c10b0 : (t155 == t156) = true := c10
      (try (have c10b1 : decide (t155 = t156) = true := by simpa using c10))
      (try (have c10b2 : (t155 == t156) = true := by simpa using c10))
      clear c10
      replace H := Option.bind_eq_some_iff.mp H
      obtain ⟨t157, A110, H⟩ := H
      replace H : ((tidewayref01_Within.f a0 a1 a2).bind fun t158 => (if (t157 == t158) = true then ((seq_Add.f a0 a3).bind fun t159 => ((tidewayref01_Add.f a0 a3).bind fun t160 => (if t159 = t160 then ((tidewaylaw01_heads.f k).bind fun t161 => (some t161)) else (none)))) else (none))) = some r := H
      have A11 := Aside0.mk A110
      clear A110
      replace H := Option.bind_eq_some_iff.mp H
      obtain ⟨t158, A120, H⟩ := H
      replace H : (if (t157 == t158) = true then ((seq_Add.f a0 a3).bind fun t159 => ((tidewayref01_Add.f a0 a3).bind fun t160 => (if t159 = t160 then ((tidewaylaw01_heads.f k).bind fun t161 => (some t161)) else (none)))) else (none)) = some r := H
      have A12 := Aside0.mk A120
      clear A120
      by_cases c13 : (t157 == t158) = true
      · rw [if_pos c13] at H
        have c13b0 : (t157 == t158) = true := c13
        (try (have c13b1 : decide (t157 = t158) = true := by simpa using c13))
        (try (have c13b2 : (t157 == t158) = true := by simpa using c13))
        clear c13
        replace H := Option.bind_eq_some_iff.mp H
        obtain ⟨t159, A140, H⟩ := H
        replace H : ((tidewayref01_Add.f a0 a3).bind fun t160 => (if t159 = t160 then ((tidewaylaw01_heads.f k).bind fun t161 => (some t161)) else (none))) = some r := H
        have A14 := Aside0.mk A140
        clear A140
        replace H := Option.bind_eq_some_iff.mp H
        obtain ⟨t160, A150, H⟩ := H
        replace H : (if t159 = t160 then ((tidewaylaw01_heads.f k).bind fun t161 => (some t161)) else (none)) = some r := H
        have A15 := Aside0.mk A150
        clear A150
        by_cases c16 : t159 = t160
        · rw [if_pos c16] at H
          have c16b0 : (t159 == t160) = true := beq_iff_eq.mpr c16
          have c16b1 : (t159 != t160) = false := bne_eq_false_iff_eq.mpr c16
          clear c16
          replace H := Option.bind_eq_some_iff.mp H
          obtain ⟨t161, A170, H⟩ := H
          replace H : (some t161) = some r := H
          have A17 := Aside0.mk A170
          clear A170
          obtain rfl := Option.some.inj H
          go_enter Try.func7, Try.ntmps7
          go_wp2_with (first | ((with_reducible refine gate_callee (f := 16) rfl ?_); refine goesL_ (some 11) rfl rfl Try.func16 (by kernel_rfl) rfl #[.int .u32 a0, .int .u32 a1] rfl (by (try simp only [List.map_toArray, List.map_cons, List.map_nil]); first | done | rfl | (simp only [List.length_drop, List.length_take]; rfl)) ?_; (with_reducible refine (seq_Diff.calls a0 a1 t153 _ A5.out).mono ?_); rintro e w' ⟨rfl, ⟨nd, rfl⟩⟩; refine ⟨_, rfl, ?_⟩) | ((with_reducible refine gate_callee (f := 18) rfl ?_); refine goesL_ (some 14) rfl rfl Try.func18 (by kernel_rfl) rfl #[.int .u32 a0, .int .u32 a1] rfl (by (try simp only [List.map_toArray, List.map_cons, List.map_nil]); first | done | rfl | (simp only [List.length_drop, List.length_take]; rfl)) ?_; (with_reducible refine (tidewayref01_Diff.calls a0 a1 t154 _ A6.out).mono ?_); rintro e w' ⟨rfl, ⟨nd, rfl⟩⟩; refine ⟨_, rfl, ?_⟩) | (go_at_call 17; (with_reducible refine (seq_Less.calls a0 a1 t155 _ A8.out).mono ?_); rintro e w' ⟨rfl, ⟨nd, rfl⟩⟩) | (go_at_call 19; (with_reducible refine (tidewayref01_Less.calls a0 a1 t156 _ A9.out).mono ?_); rintro e w' ⟨rfl, ⟨nd, rfl⟩⟩) | (go_at_call 20; (with_reducible refine (seq_Within.calls a0 a1 a2 t157 _ A11.out).mono ?_); rintro e w' ⟨rfl, ⟨nd, rfl⟩⟩) | (go_at_call 21; (with_reducible refine (tidewayref01_Within.calls a0 a1 a2 t158 _ A12.out).mono ?_); rintro e w' ⟨rfl, ⟨nd, rfl⟩⟩) | (go_at_call 14; (with_reducible refine (seq_Add.calls a0 a3 t159 _ A14.out).mono ?_); rintro e w' ⟨rfl, ⟨nd, rfl⟩⟩) | (go_at_call 22; (with_reducible refine (tidewayref01_Add.calls a0 a3 t160 _ A15.out).mono ?_); rintro e w' ⟨rfl, ⟨nd, rfl⟩⟩) | (go_at_call 13; (with_reducible refine (tidewaylaw01_heads.calls k  t161 _ A17.out).mono ?_); rintro e w18 ⟨rfl, hb⟩; have n0_ := Aside0.mk (below_step (by repeat (first | (with_reducible first | exact HB.out | apply below_alloc | apply pw_below_drewN | apply below_drew1) | exact HB.out)) hb); clear HB; have HB := n0_; clear n0_; (try clear hb); (try clear hb2); (try clear hk); (try clear hi)))
          go_ret
          exact ⟨by first | rfl | (simp [errW_none, errW_some] <;> rfl) | (simp [*, errW_none, errW_some] <;> rfl), by repeat (first | (with_reducible first | exact HB.out | apply below_alloc | apply pw_below_drewN | apply below_drew1) | exact HB.out)⟩
        · rw [if_neg c16] at H
          exact absurd H (by simp)
      · rw [if_neg c13] at H
        exact absurd H (by simp)
    · rw [if_neg c10] at H
      exact absurd H (by simp)
  · rw [if_neg c7] at H
    exact absurd H (by simp)

/-- THE ONE PURE STATEMENT of tidewaylaw01_SeqCompares: yours. -/
def tidewaylaw01_SeqCompares.Pure : Prop := ∀ (a0 : Int) (a1 : Int) (a2 : Int) (a3 : Int), (Lit.int .u32 a0).wf = true → (Lit.int .u32 a1).wf = true → (Lit.int .u32 a2).wf = true → (Lit.int .i64 a3).wf = true → ∃ k, tidewaylaw01_SeqCompares.f k a0 a1 a2 a3 = some true
theorem tidewaylaw01_SeqCompares.walk (P : tidewaylaw01_SeqCompares.Pure) (a0 : Int) (a1 : Int) (a2 : Int) (a3 : Int) (w : World) (w0 : (Lit.int .u32 a0).wf = true) (w1 : (Lit.int .u32 a1).wf = true) (w2 : (Lit.int .u32 a2).wf = true) (w3 : (Lit.int .i64 a3).wf = true) :
    Calls Try.prog 7 #[.int .u32 a0, .int .u32 a1, .int .u32 a2, .int .i64 a3] w fun e w' => e = .returned (.bool true) ∧ Below w.heap.size w w' := by
  obtain ⟨k, h⟩ := P a0 a1 a2 a3 w0 w1 w2 w3
  refine (tidewaylaw01_SeqCompares.calls k a0 a1 a2 a3 true w h).mono ?_
  rintro e w' ⟨rfl, hd⟩
  exact ⟨rfl, hd⟩

end Go.Proofs.Ytpebhhpmcjaioaa.PA
