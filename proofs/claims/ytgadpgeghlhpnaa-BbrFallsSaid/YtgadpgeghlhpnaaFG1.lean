/- The machine's code of the functions, and that it computes them. -/
import Derived.Test.YtgadpgeghlhpnaaFG1a
import Derived.Test.YtgadpgeghlhpnaaProg
import Derived.KernelRfl
set_option maxRecDepth 100000
set_option linter.unusedVariables false
set_option linter.unusedSimpArgs false
namespace Go.Proofs.Ytgadpgeghlhpnaa.M
open Go
noncomputable section
theorem s_law18_BbrFalls_7_t {R : Type} (cp : Nat → Nat → Bool) (n : Nat) (v21 v22 v23 v24 : Int) (v25 v26 v27 v28 : SCc) (k : Ex → FF → Option R) : X cp n i_law18_BbrFalls_2 (fr_law18_BbrFalls_2 v21 v22 v23 v24 v25 v26 v27 v28) k = s_law18_BbrFalls_7 cp n v21 v22 v23 v24 v25 v26 v27 v28 (fun v35 => k .ret (fr_law18_BbrFalls_6 v35)) := (show X cp n i_law18_BbrFalls_2 (fr_law18_BbrFalls_2 v21 v22 v23 v24 v25 v26 v27 v28) k = X cp n i_law18_BbrFalls_0 (fr_law18_BbrFalls_2 v21 v22 v23 v24 v25 v26 v27 v28) (seqT (X cp n) i_law18_BbrFalls_1 k) from by kernel_rfl).trans ((show X cp n i_law18_BbrFalls_0 (fr_law18_BbrFalls_2 v21 v22 v23 v24 v25 v26 v27 v28) (seqT (X cp n) i_law18_BbrFalls_1 k) = s_law18_BbrFalls_3 cp n v21 v22 v23 v24 v25 v26 v27 v28 (fun v34 => X cp n i_law18_BbrFalls_1 (fr_law18_BbrFalls_4 v34) k) from (s_law18_BbrFalls_3_t cp n v21 v22 v23 v24 v25 v26 v27 v28 (seqT (X cp n) i_law18_BbrFalls_1 k)).trans (by kernel_rfl)).trans (congrArg (fun q => s_law18_BbrFalls_3 cp n v21 v22 v23 v24 v25 v26 v27 v28 q) (funext fun v34 => (s_law18_BbrFalls_5_t cp n v34 k).trans (show s_law18_BbrFalls_5 cp n v34 (k .ret (fr_law18_BbrFalls_4 v34)) = s_law18_BbrFalls_5 cp n v34 (k .ret (fr_law18_BbrFalls_6 v34)) from by kernel_rfl))))
def fr_law18_BbrFalls_8 (v36 : Bool) : FF := [dT 6 ((tB v36) :: (dT 9 [])), dc, dc, dc, dc, dc, dc, dc, dc, dc, dc, dc]
def fr_law18_BbrFalls_10 (p0 : SCc) (p1 p2 : Int) : FF := [(.agg (eCc p0)) :: (tL p1) :: (tL p2) :: (dT 13 []), dc, dc, dc, dc, dc, dc, dc, dc, dc, dc, dc]
theorem s_law18_BbrFalls_9_t {R : Type} (cp : Nat → Nat → Bool) (n : Nat) (p0 : SCc) (p1 p2 : Int) (k : Ex → FF → Option R) : X cp n i_law18_BbrFalls_3 (fr_law18_BbrFalls_10 p0 p1 p2) k = s_law18_BbrFalls_9 cp n p0 p1 p2 (fun v36 => k .ret (fr_law18_BbrFalls_8 v36)) := ((fun c => (show X cp n (.seq (.fin (.reg g_law18_BbrFalls_0) [0, 6] []) (.seq (.fin (.reg g_law18_BbrFalls_1) [15, 16, 17, 18, 19, 20] []) (.seq (.fin (.reg g_law18_BbrFalls_2) [3, 21, 22, 23, 24, 25, 26] [(69, 22)]) (.seq (.fin (.reg g_law18_BbrFalls_3) [27, 28, 29, 30, 31, 32] []) (.seq (.fin (.reg g_law18_BbrFalls_4) [1, 2, 33, 34, 35, 36, 37, 38] []) c))))) (fr_law18_BbrFalls_10 p0 p1 p2) k = s_law18_BbrFalls_1 cp n p0 p1 p2 (fun v21 v22 v23 v24 v25 v26 v27 v28 => X cp n c (fr_law18_BbrFalls_2 v21 v22 v23 v24 v25 v26 v27 v28) k) from by kernel_rfl)) i_law18_BbrFalls_2).trans (congrArg (fun q => s_law18_BbrFalls_1 cp n p0 p1 p2 q) (funext fun v21 => funext fun v22 => funext fun v23 => funext fun v24 => funext fun v25 => funext fun v26 => funext fun v27 => funext fun v28 => (s_law18_BbrFalls_7_t cp n v21 v22 v23 v24 v25 v26 v27 v28 k).trans (show s_law18_BbrFalls_7 cp n v21 v22 v23 v24 v25 v26 v27 v28 (fun v35 => k .ret (fr_law18_BbrFalls_6 v35)) = s_law18_BbrFalls_7 cp n v21 v22 v23 v24 v25 v26 v27 v28 (fun v35 => k .ret (fr_law18_BbrFalls_8 v35)) from by kernel_rfl)))
theorem run_law18_BbrFalls {R : Type} (cp : Nat → Nat → Bool) (n : Nat) (p0 : SCc) (p1 p2 : Int) (k : Ret2 RW → Option R) : G_law18_BbrFalls cp (n + 1) p0 p1 p2 (fun r0 => k ⟨(tB r0), []⟩) = run2 U cp (callP cp n) n fn_law18_BbrFalls [.agg (eCc p0), (tL p1), (tL p2)] [] k := ((X_run (f := fn_law18_BbrFalls) (av := [.agg (eCc p0), (tL p1), (tL p2)]) (cells := []) (code := i_law18_BbrFalls_3) (fr := (fr_law18_BbrFalls_10 p0 p1 p2)) (k := k) (by kernel_rfl) (fun K => by kernel_rfl)).trans ((s_law18_BbrFalls_9_t cp n p0 p1 p2 (finK2 fn_law18_BbrFalls k)).trans (by kernel_rfl))).symm
def tbl : Nat → Option IFn
  | 17 => some (fn_bbr_within.lo U)
  | 44 => some (fn_filter_may.lo U)
  | 45 => some (fn_filter_beats.lo U)
  | 36 => some (fn_filter_Check.lo U)
  | 1004 => some (fn_bbr_ctl_entries.lo U)
  | 12 => some (fn_bbr_Check.lo U)
  | 7 => some (fn_bbr_Timeout.lo U)
  | 33 => some (fn_ref15_Plain.lo U)
  | 42 => some (fn_ref12_time.lo U)
  | 43 => some (fn_ref12_value.lo U)
  | 34 => some (fn_ref12_Check.lo U)
  | 35 => some (fn_ref18_time.lo U)
  | 19 => some (fn_ref15_Size.lo U)
  | 18 => some (fn_ref18_Check.lo U)
  | 8 => some (fn_ref18_Timeout.lo U)
  | 20 => some (fn_reno_New.lo U)
  | 9 => some (fn_bbr_New.lo U)
  | 21 => some (fn_ref15_New.lo U)
  | 10 => some (fn_ref18_New.lo U)
  | 11 => some (fn_ref15_Same.lo U)
  | 1023 => some (fn_bbr_ctl_round.lo U)
  | 40 => some (fn_filter_Best.lo U)
  | 1025 => some (fn_bbr_ctl_bandwidth.lo U)
  | 37 => some (fn_filter_Put.lo U)
  | 1024 => some (fn_bbr_ctl_speed.lo U)
  | 1028 => some (fn_bbr_ctl_shortest.lo U)
  | 1029 => some (fn_bbr_ctl_full.lo U)
  | 46 => some (fn_math_bits_Mul64.lo U)
  | 49 => some (fn_math_bits_Len64.lo U)
  | 48 => some (fn_math_bits_LeadingZeros64.lo U)
  | 47 => some (fn_math_bits_Div64.lo U)
  | 41 => some (fn_seq_MulDiv.lo U)
  | 1031 => some (fn_bbr_ctl_product.lo U)
  | 1037 => some (fn_bbr_ctl_probe.lo U)
  | 1030 => some (fn_bbr_ctl_cycle.lo U)
  | 1038 => some (fn_bbr_ctl_ask.lo U)
  | 39 => some (fn_seq_Clamp.lo U)
  | 1039 => some (fn_bbr_ctl_window.lo U)
  | 14 => some (fn_bbr_Acked.lo U)
  | 15 => some (fn_bbr_Bandwidth.lo U)
  | 16 => some (fn_bbr_Product.lo U)
  | 23 => some (fn_bbr_Gain.lo U)
  | 13 => some (fn_law18_heads.lo U)
  | 3 => some (fn_law18_BbrFalls.lo U)
  | _ => none
theorem chk_bbr_within : chkFn Try.prog tbl (fn_bbr_within.lo U) = true := by kernel_rfl
theorem chk_filter_may : chkFn Try.prog tbl (fn_filter_may.lo U) = true := by kernel_rfl
theorem chk_filter_beats : chkFn Try.prog tbl (fn_filter_beats.lo U) = true := by kernel_rfl
theorem chk_filter_Check : chkFn Try.prog tbl (fn_filter_Check.lo U) = true := by kernel_rfl
theorem chk_bbr_ctl_entries : chkFn Try.prog tbl (fn_bbr_ctl_entries.lo U) = true := by kernel_rfl
theorem chk_bbr_Check : chkFn Try.prog tbl (fn_bbr_Check.lo U) = true := by kernel_rfl
theorem chk_bbr_Timeout : chkFn Try.prog tbl (fn_bbr_Timeout.lo U) = true := by kernel_rfl
theorem chk_ref15_Plain : chkFn Try.prog tbl (fn_ref15_Plain.lo U) = true := by kernel_rfl
theorem chk_ref12_time : chkFn Try.prog tbl (fn_ref12_time.lo U) = true := by kernel_rfl
theorem chk_ref12_value : chkFn Try.prog tbl (fn_ref12_value.lo U) = true := by kernel_rfl
theorem chk_ref12_Check : chkFn Try.prog tbl (fn_ref12_Check.lo U) = true := by kernel_rfl
theorem chk_ref18_time : chkFn Try.prog tbl (fn_ref18_time.lo U) = true := by kernel_rfl
theorem chk_ref15_Size : chkFn Try.prog tbl (fn_ref15_Size.lo U) = true := by kernel_rfl
theorem chk_ref18_Check : chkFn Try.prog tbl (fn_ref18_Check.lo U) = true := by kernel_rfl
theorem chk_ref18_Timeout : chkFn Try.prog tbl (fn_ref18_Timeout.lo U) = true := by kernel_rfl
theorem chk_reno_New : chkFn Try.prog tbl (fn_reno_New.lo U) = true := by kernel_rfl
theorem chk_bbr_New : chkFn Try.prog tbl (fn_bbr_New.lo U) = true := by kernel_rfl
theorem chk_ref15_New : chkFn Try.prog tbl (fn_ref15_New.lo U) = true := by kernel_rfl
theorem chk_ref18_New : chkFn Try.prog tbl (fn_ref18_New.lo U) = true := by kernel_rfl
theorem chk_ref15_Same : chkFn Try.prog tbl (fn_ref15_Same.lo U) = true := by kernel_rfl
theorem chk_bbr_ctl_round : chkFn Try.prog tbl (fn_bbr_ctl_round.lo U) = true := by kernel_rfl
theorem chk_filter_Best : chkFn Try.prog tbl (fn_filter_Best.lo U) = true := by kernel_rfl
theorem chk_bbr_ctl_bandwidth : chkFn Try.prog tbl (fn_bbr_ctl_bandwidth.lo U) = true := by kernel_rfl
theorem chk_filter_Put : chkFn Try.prog tbl (fn_filter_Put.lo U) = true := by kernel_rfl
theorem chk_bbr_ctl_speed : chkFn Try.prog tbl (fn_bbr_ctl_speed.lo U) = true := by kernel_rfl
theorem chk_bbr_ctl_shortest : chkFn Try.prog tbl (fn_bbr_ctl_shortest.lo U) = true := by kernel_rfl
theorem chk_bbr_ctl_full : chkFn Try.prog tbl (fn_bbr_ctl_full.lo U) = true := by kernel_rfl
theorem chk_math_bits_Mul64 : chkFn Try.prog tbl (fn_math_bits_Mul64.lo U) = true := by kernel_rfl
theorem chk_math_bits_Len64 : chkFn Try.prog tbl (fn_math_bits_Len64.lo U) = true := by kernel_rfl
theorem chk_math_bits_LeadingZeros64 : chkFn Try.prog tbl (fn_math_bits_LeadingZeros64.lo U) = true := by kernel_rfl
theorem chk_math_bits_Div64 : chkFn Try.prog tbl (fn_math_bits_Div64.lo U) = true := by kernel_rfl
theorem chk_seq_MulDiv : chkFn Try.prog tbl (fn_seq_MulDiv.lo U) = true := by kernel_rfl
theorem chk_bbr_ctl_product : chkFn Try.prog tbl (fn_bbr_ctl_product.lo U) = true := by kernel_rfl
theorem chk_bbr_ctl_probe : chkFn Try.prog tbl (fn_bbr_ctl_probe.lo U) = true := by kernel_rfl
theorem chk_bbr_ctl_cycle : chkFn Try.prog tbl (fn_bbr_ctl_cycle.lo U) = true := by kernel_rfl
theorem chk_bbr_ctl_ask : chkFn Try.prog tbl (fn_bbr_ctl_ask.lo U) = true := by kernel_rfl
theorem chk_seq_Clamp : chkFn Try.prog tbl (fn_seq_Clamp.lo U) = true := by kernel_rfl
theorem chk_bbr_ctl_window : chkFn Try.prog tbl (fn_bbr_ctl_window.lo U) = true := by kernel_rfl
theorem chk_bbr_Acked : chkFn Try.prog tbl (fn_bbr_Acked.lo U) = true := by kernel_rfl
theorem chk_bbr_Bandwidth : chkFn Try.prog tbl (fn_bbr_Bandwidth.lo U) = true := by kernel_rfl
theorem chk_bbr_Product : chkFn Try.prog tbl (fn_bbr_Product.lo U) = true := by kernel_rfl
theorem chk_bbr_Gain : chkFn Try.prog tbl (fn_bbr_Gain.lo U) = true := by kernel_rfl
theorem chk_law18_heads : chkFn Try.prog tbl (fn_law18_heads.lo U) = true := by kernel_rfl
theorem chk_law18_BbrFalls : chkFn Try.prog tbl (fn_law18_BbrFalls.lo U) = true := by kernel_rfl
theorem chkAll : ∀ (id : Nat) (f : IFn), tbl id = some f → chkFn Try.prog tbl f = true := by
  intro id f h
  unfold tbl at h
  split at h
  · cases h; exact chk_bbr_within
  · cases h; exact chk_filter_may
  · cases h; exact chk_filter_beats
  · cases h; exact chk_filter_Check
  · cases h; exact chk_bbr_ctl_entries
  · cases h; exact chk_bbr_Check
  · cases h; exact chk_bbr_Timeout
  · cases h; exact chk_ref15_Plain
  · cases h; exact chk_ref12_time
  · cases h; exact chk_ref12_value
  · cases h; exact chk_ref12_Check
  · cases h; exact chk_ref18_time
  · cases h; exact chk_ref15_Size
  · cases h; exact chk_ref18_Check
  · cases h; exact chk_ref18_Timeout
  · cases h; exact chk_reno_New
  · cases h; exact chk_bbr_New
  · cases h; exact chk_ref15_New
  · cases h; exact chk_ref18_New
  · cases h; exact chk_ref15_Same
  · cases h; exact chk_bbr_ctl_round
  · cases h; exact chk_filter_Best
  · cases h; exact chk_bbr_ctl_bandwidth
  · cases h; exact chk_filter_Put
  · cases h; exact chk_bbr_ctl_speed
  · cases h; exact chk_bbr_ctl_shortest
  · cases h; exact chk_bbr_ctl_full
  · cases h; exact chk_math_bits_Mul64
  · cases h; exact chk_math_bits_Len64
  · cases h; exact chk_math_bits_LeadingZeros64
  · cases h; exact chk_math_bits_Div64
  · cases h; exact chk_seq_MulDiv
  · cases h; exact chk_bbr_ctl_product
  · cases h; exact chk_bbr_ctl_probe
  · cases h; exact chk_bbr_ctl_cycle
  · cases h; exact chk_bbr_ctl_ask
  · cases h; exact chk_seq_Clamp
  · cases h; exact chk_bbr_ctl_window
  · cases h; exact chk_bbr_Acked
  · cases h; exact chk_bbr_Bandwidth
  · cases h; exact chk_bbr_Product
  · cases h; exact chk_bbr_Gain
  · cases h; exact chk_law18_heads
  · cases h; exact chk_law18_BbrFalls
  · cases h
theorem dI_ok {kd : IntKind} {y : TV RW} {a : Int} (h : dI kd y = some a) : y = .sc (.int kd a) := by
  unfold dI at h
  split at h
  · obtain ⟨h1, h2⟩ := cond_some h
    cases h2
    rw [of_decide_eq_true h1]
  · cases h
theorem dB_ok {y : TV RW} {a : Bool} (h : dB y = some a) : y = .sc (.bool a) := by
  unfold dB at h
  split at h <;> cases h
  rfl
theorem dS_ok {y : TV RW} {a : ByteArray} (h : dS y = some a) : y = .sc (.string a) := by
  unfold dS at h
  split at h <;> cases h
  rfl
theorem dA_ok {y : TV RW} {a : Fr} (h : dA y = some a) : y = .agg a := by
  unfold dA at h
  split at h <;> cases h
  rfl
theorem dOne_ok {y : Fr} {a : TV RW} (h : dOne y = some a) : y = [a] := by
  unfold dOne at h
  split at h <;> cases h
  rfl
theorem dP_ok {a b : Nat} {y : TV RW} {u : Unit} (h : dP a b y = some u) : y = .ptr a b := by
  unfold dP at h
  split at h
  · obtain ⟨h1, h2⟩ := cond_some h
    simp only [Bool.and_eq_true] at h1
    rw [nbeq h1.1, nbeq h1.2]
  · cases h
theorem dC_ok {a : Nat} {b : List (Nat × Nat)} {y : TV RW} {u : Unit} (h : dC a b y = some u) : y = .clo a b := by
  unfold dC at h
  split at h
  · obtain ⟨h1, h2⟩ := cond_some h
    simp only [Bool.and_eq_true] at h1
    rw [nbeq h1.1, of_decide_eq_true h1.2]
  · cases h
theorem dREntry_ok {fl : Bool} {y : TV RW} {a : List SEntry} (h : dREntry fl y = some a) : y = .row fl (.rEntry a) := by
  unfold dREntry at h
  split at h
  · obtain ⟨h1, h2⟩ := cond_some h
    cases h2
    rw [eq_of_beq h1]
  · cases h
theorem dRint_ok {fl : Bool} {y : TV RW} {a : List Int} (h : dRint fl y = some a) : y = .row fl (.rint a) := by
  unfold dRint at h
  split at h
  · obtain ⟨h1, h2⟩ := cond_some h
    cases h2
    rw [eq_of_beq h1]
  · cases h
theorem dCc_ok {L : Fr} {a : SCc} (h : dCc L = some a) : L = eCc a := by
  unfold dCc at h
  split at h
  · simp only [Option.bind_eq_some_iff] at h
    obtain ⟨a0, h0, a1, h1, a2, h2, a3, h3, a4, h4, a5, h5, a6, h6, a7, h7, a8, h8, a9, h9, a10, h10, a11, h11, a12, h12, a13, h13, a14, h14, a15, h15, a16, h16, a17, h17, a18, h18, a19, h19, a20, h20, a21, h21, h⟩ := h
    cases h
    obtain rfl := dI_ok h0
    obtain rfl := dI_ok h1
    obtain rfl := dI_ok h2
    obtain rfl := dI_ok h3
    obtain rfl := dI_ok h4
    obtain rfl := dI_ok h5
    obtain rfl := dI_ok h6
    obtain rfl := dI_ok h7
    obtain rfl := dI_ok h8
    obtain rfl := dI_ok h9
    obtain rfl := dI_ok h10
    obtain rfl := dREntry_ok h11
    obtain rfl := dI_ok h12
    obtain rfl := dI_ok h13
    obtain rfl := dI_ok h14
    obtain rfl := dI_ok h15
    obtain rfl := dI_ok h16
    obtain rfl := dI_ok h17
    obtain rfl := dI_ok h18
    obtain rfl := dI_ok h19
    obtain rfl := dI_ok h20
    obtain rfl := dI_ok h21
    rfl
  · cases h
theorem dCct_ok {L : Fr} {a : SCc} (h : dCct L = some a) : L = eCct a := by
  unfold dCct at h
  split at h
  · simp only [Option.bind_eq_some_iff] at h
    obtain ⟨a0, h0, a1, h1, a2, h2, a3, h3, a4, h4, a5, h5, a6, h6, a7, h7, a8, h8, a9, h9, a10, h10, a11, h11, a12, h12, a13, h13, a14, h14, a15, h15, a16, h16, a17, h17, a18, h18, a19, h19, a20, h20, a21, h21, h⟩ := h
    cases h
    obtain rfl := dI_ok h0
    obtain rfl := dI_ok h1
    obtain rfl := dI_ok h2
    obtain rfl := dI_ok h3
    obtain rfl := dI_ok h4
    obtain rfl := dI_ok h5
    obtain rfl := dI_ok h6
    obtain rfl := dI_ok h7
    obtain rfl := dI_ok h8
    obtain rfl := dI_ok h9
    obtain rfl := dI_ok h10
    obtain rfl := dREntry_ok h11
    obtain rfl := dI_ok h12
    obtain rfl := dI_ok h13
    obtain rfl := dI_ok h14
    obtain rfl := dI_ok h15
    obtain rfl := dI_ok h16
    obtain rfl := dI_ok h17
    obtain rfl := dI_ok h18
    obtain rfl := dI_ok h19
    obtain rfl := dI_ok h20
    obtain rfl := dI_ok h21
    rfl
  · cases h
theorem dEntry_ok {L : Fr} {a : SEntry} (h : dEntry L = some a) : L = eEntry a := by
  unfold dEntry at h
  split at h
  · simp only [Option.bind_eq_some_iff] at h
    obtain ⟨a0, h0, a1, h1, h⟩ := h
    cases h
    obtain rfl := dI_ok h0
    obtain rfl := dI_ok h1
    rfl
  · cases h
theorem dctl_ok {L : Fr} {a : Sctl} (h : dctl L = some a) : L = ectl a := by
  unfold dctl at h
  split at h
  · simp only [Option.bind_eq_some_iff] at h
    obtain ⟨a0, h0, a1, h1, a2, h2, a3, h3, a4, h4, a5, h5, a6, h6, a7, h7, a8, h8, a9, h9, a10, h10, a11, h11, a12, h12, a13, h13, a14, h14, a15, h15, a16, h16, a17, h17, a18, h18, a19, h19, a20, h20, a21, h21, h⟩ := h
    cases h
    obtain rfl := dI_ok h0
    obtain rfl := dI_ok h1
    obtain rfl := dI_ok h2
    obtain rfl := dI_ok h3
    obtain rfl := dI_ok h4
    obtain rfl := dI_ok h5
    obtain rfl := dI_ok h6
    obtain rfl := dI_ok h7
    obtain rfl := dI_ok h8
    obtain rfl := dI_ok h9
    obtain rfl := dI_ok h10
    obtain rfl := dREntry_ok h11
    obtain rfl := dI_ok h12
    obtain rfl := dI_ok h13
    obtain rfl := dI_ok h14
    obtain rfl := dI_ok h15
    obtain rfl := dI_ok h16
    obtain rfl := dI_ok h17
    obtain rfl := dI_ok h18
    obtain rfl := dI_ok h19
    obtain rfl := dI_ok h20
    obtain rfl := dI_ok h21
    rfl
  · cases h
theorem dctlt_ok {L : Fr} {a : Sctl} (h : dctlt L = some a) : L = ectlt a := by
  unfold dctlt at h
  split at h
  · simp only [Option.bind_eq_some_iff] at h
    obtain ⟨a0, h0, a1, h1, a2, h2, a3, h3, a4, h4, a5, h5, a6, h6, a7, h7, a8, h8, a9, h9, a10, h10, a11, h11, a12, h12, a13, h13, a14, h14, a15, h15, a16, h16, a17, h17, a18, h18, a19, h19, a20, h20, a21, h21, h⟩ := h
    cases h
    obtain rfl := dI_ok h0
    obtain rfl := dI_ok h1
    obtain rfl := dI_ok h2
    obtain rfl := dI_ok h3
    obtain rfl := dI_ok h4
    obtain rfl := dI_ok h5
    obtain rfl := dI_ok h6
    obtain rfl := dI_ok h7
    obtain rfl := dI_ok h8
    obtain rfl := dI_ok h9
    obtain rfl := dI_ok h10
    obtain rfl := dREntry_ok h11
    obtain rfl := dI_ok h12
    obtain rfl := dI_ok h13
    obtain rfl := dI_ok h14
    obtain rfl := dI_ok h15
    obtain rfl := dI_ok h16
    obtain rfl := dI_ok h17
    obtain rfl := dI_ok h18
    obtain rfl := dI_ok h19
    obtain rfl := dI_ok h20
    obtain rfl := dI_ok h21
    rfl
  · cases h
theorem dSample_ok {L : Fr} {a : SSample} (h : dSample L = some a) : L = eSample a := by
  unfold dSample at h
  split at h
  · simp only [Option.bind_eq_some_iff] at h
    obtain ⟨a0, h0, a1, h1, a2, h2, a3, h3, a4, h4, a5, h5, a6, h6, a7, h7, h⟩ := h
    cases h
    obtain rfl := dI_ok h0
    obtain rfl := dI_ok h1
    obtain rfl := dI_ok h2
    obtain rfl := dI_ok h3
    obtain rfl := dB_ok h4
    obtain rfl := dI_ok h5
    obtain rfl := dI_ok h6
    obtain rfl := dI_ok h7
    rfl
  · cases h
theorem pEntry_ok : ∀ {L : Fr} {xs : List SEntry}, pEntry_ L = some xs → TV.los U L = (xs.map cEntry).flatten
  | [], xs, h => by cases h; rfl
  | [_], xs, h => by cases h
  | y0 :: y1 :: r, xs, h => by
    simp only [pEntry_, Option.bind_eq_some_iff] at h
    obtain ⟨a0, h0, a1, h1, xs', h', h⟩ := h
    cases h
    have ih := pEntry_ok h'
    obtain rfl := dI_ok h0
    obtain rfl := dI_ok h1
    show _ :: _ :: TV.los U r = _
    rw [ih]; rfl
theorem pint_ok : ∀ {L : Fr} {xs : List Int}, pint_ L = some xs → TV.los U L = (xs.map cint).flatten
  | [], xs, h => by cases h; rfl
  | y0 :: r, xs, h => by
    simp only [pint_, Option.bind_eq_some_iff] at h
    obtain ⟨a0, h0, xs', h', h⟩ := h
    cases h
    have ih := pint_ok h'
    obtain rfl := dI_ok h0
    show _ :: TV.los U r = _
    rw [ih]; rfl
theorem UOk : UniOk U where
  get := fun r i => match r with
    | .rEntry xs => by kernel_rfl
    | .rint xs => by kernel_rfl
  app := fun r q x h => by cases r <;> cases q <;> first | (cases h; done) | (cases h; exact ⟨rfl, rfl, List.length_append, (rg_app (c := cEntry) (z := zEntry)).symm⟩) | (cases h; exact ⟨rfl, rfl, List.length_append, (rg_app (c := cint) (z := zint)).symm⟩)
  sub := fun lo n r h => by cases r <;> first | exact ⟨rfl, sub_len h, (rg_sub (c := cEntry) (z := zEntry) h).symm⟩ | exact ⟨rfl, sub_len h, (rg_sub (c := cint) (z := zint) h).symm⟩
  lit := fun t n L r h => by
    unfold U at h
    dsimp only at h
    split at h
    · obtain ⟨xs, h1, rfl, rfl⟩ := bind_lit h
      have e := pEntry_ok h1
      exact ⟨rfl, rfl, by rw [e]; exact (rg_lit (c := cEntry) (sz := 2) (z := zEntry) (fun _ => rfl)).symm, by rw [e]; exact all_flat (fun _ => rfl) xs⟩
    · obtain ⟨xs, h1, rfl, rfl⟩ := bind_lit h
      have e := pint_ok h1
      exact ⟨rfl, rfl, by rw [e]; exact (rg_lit (c := cint) (sz := 1) (z := zint) (fun _ => rfl)).symm, by rw [e]; exact all_flat (fun _ => rfl) xs⟩
    · cases h
theorem ok_bbr_within {R : Type} {r : R} : ∀ {n : Nat}, (∀ m, n = m + 1 → CallOk2 (R := R) U (callP capB m) (runF tbl m)) → ∀ {av : Fr} {cs : List Fr} {k : Ret2 RW → Option R}, ca_bbr_within capB n av cs k = some r → ∃ q : Ret2 RW, runF tbl n 17 (TV.los U av) (cs.map (TV.los U)) = some (q.lo U) ∧ k q = some r := by
  intro n ih av cs k h
  unfold ca_bbr_within at h
  split at h
  · simp only [Option.bind_eq_some_iff] at h
    obtain ⟨p0, h0, p1, h1, h⟩ := h
    obtain rfl := dI_ok h0
    obtain rfl := dRint_ok h1
    cases n with
    | zero => cases h
    | succ n =>
      exact run2_ok UOk (ih n rfl) (f := fn_bbr_within) rfl ((run_bbr_within capB n p0 p1 k).symm.trans h)
  · cases h
theorem ok_filter_may {R : Type} {r : R} : ∀ {n : Nat}, (∀ m, n = m + 1 → CallOk2 (R := R) U (callP capB m) (runF tbl m)) → ∀ {av : Fr} {cs : List Fr} {k : Ret2 RW → Option R}, ca_filter_may capB n av cs k = some r → ∃ q : Ret2 RW, runF tbl n 44 (TV.los U av) (cs.map (TV.los U)) = some (q.lo U) ∧ k q = some r := by
  intro n ih av cs k h
  unfold ca_filter_may at h
  split at h
  · simp only [Option.bind_eq_some_iff] at h
    obtain ⟨c0_, h0, p0, g0, h⟩ := h
    obtain rfl := dA_ok h0
    obtain rfl := dEntry_ok g0
    cases n with
    | zero => cases h
    | succ n =>
      exact run2_ok UOk (ih n rfl) (f := fn_filter_may) rfl ((run_filter_may capB n p0 k).symm.trans h)
  · cases h
theorem ok_filter_beats {R : Type} {r : R} : ∀ {n : Nat}, (∀ m, n = m + 1 → CallOk2 (R := R) U (callP capB m) (runF tbl m)) → ∀ {av : Fr} {cs : List Fr} {k : Ret2 RW → Option R}, ca_filter_beats capB n av cs k = some r → ∃ q : Ret2 RW, runF tbl n 45 (TV.los U av) (cs.map (TV.los U)) = some (q.lo U) ∧ k q = some r := by
  intro n ih av cs k h
  unfold ca_filter_beats at h
  split at h
  · simp only [Option.bind_eq_some_iff] at h
    obtain ⟨p0, h0, p1, h1, p2, h2, h⟩ := h
    obtain rfl := dI_ok h0
    obtain rfl := dI_ok h1
    obtain rfl := dB_ok h2
    cases n with
    | zero => cases h
    | succ n =>
      exact run2_ok UOk (ih n rfl) (f := fn_filter_beats) rfl ((run_filter_beats capB n p0 p1 p2 k).symm.trans h)
  · cases h
theorem ok_filter_Check {R : Type} {r : R} : ∀ {n : Nat}, (∀ m, n = m + 1 → CallOk2 (R := R) U (callP capB m) (runF tbl m)) → ∀ {av : Fr} {cs : List Fr} {k : Ret2 RW → Option R}, ca_filter_Check capB n av cs k = some r → ∃ q : Ret2 RW, runF tbl n 36 (TV.los U av) (cs.map (TV.los U)) = some (q.lo U) ∧ k q = some r := by
  intro n ih av cs k h
  unfold ca_filter_Check at h
  split at h
  · simp only [Option.bind_eq_some_iff] at h
    obtain ⟨p0, h0, p1, h1, h⟩ := h
    obtain rfl := dREntry_ok h0
    obtain rfl := dB_ok h1
    cases n with
    | zero => cases h
    | succ n =>
      exact run2_ok UOk (ih n rfl) (f := fn_filter_Check) rfl ((run_filter_Check capB n p0 p1 k).symm.trans h)
  · cases h
theorem ok_bbr_ctl_entries {R : Type} {r : R} : ∀ {n : Nat}, (∀ m, n = m + 1 → CallOk2 (R := R) U (callP capB m) (runF tbl m)) → ∀ {av : Fr} {cs : List Fr} {k : Ret2 RW → Option R}, ca_bbr_ctl_entries capB n av cs k = some r → ∃ q : Ret2 RW, runF tbl n 1004 (TV.los U av) (cs.map (TV.los U)) = some (q.lo U) ∧ k q = some r := by
  intro n ih av cs k h
  unfold ca_bbr_ctl_entries at h
  split at h
  · simp only [Option.bind_eq_some_iff] at h
    obtain ⟨u0, h0, q0, i0, h⟩ := h
    obtain rfl := dP_ok h0
    obtain rfl := dctl_ok i0
    cases n with
    | zero => cases h
    | succ n =>
      exact run2_ok UOk (ih n rfl) (f := fn_bbr_ctl_entries) rfl ((run_bbr_ctl_entries capB n q0 k).symm.trans h)
  · cases h
theorem ok_bbr_Check {R : Type} {r : R} : ∀ {n : Nat}, (∀ m, n = m + 1 → CallOk2 (R := R) U (callP capB m) (runF tbl m)) → ∀ {av : Fr} {cs : List Fr} {k : Ret2 RW → Option R}, ca_bbr_Check capB n av cs k = some r → ∃ q : Ret2 RW, runF tbl n 12 (TV.los U av) (cs.map (TV.los U)) = some (q.lo U) ∧ k q = some r := by
  intro n ih av cs k h
  unfold ca_bbr_Check at h
  split at h
  · simp only [Option.bind_eq_some_iff] at h
    obtain ⟨c0_, h0, p0, g0, h⟩ := h
    obtain rfl := dA_ok h0
    obtain rfl := dCc_ok g0
    cases n with
    | zero => cases h
    | succ n =>
      exact run2_ok UOk (ih n rfl) (f := fn_bbr_Check) rfl ((run_bbr_Check capB n p0 k).symm.trans h)
  · cases h
theorem ok_bbr_Timeout {R : Type} {r : R} : ∀ {n : Nat}, (∀ m, n = m + 1 → CallOk2 (R := R) U (callP capB m) (runF tbl m)) → ∀ {av : Fr} {cs : List Fr} {k : Ret2 RW → Option R}, ca_bbr_Timeout capB n av cs k = some r → ∃ q : Ret2 RW, runF tbl n 7 (TV.los U av) (cs.map (TV.los U)) = some (q.lo U) ∧ k q = some r := by
  intro n ih av cs k h
  unfold ca_bbr_Timeout at h
  split at h
  · simp only [Option.bind_eq_some_iff] at h
    obtain ⟨c0_, h0, p0, g0, p1, h1, h⟩ := h
    obtain rfl := dA_ok h0
    obtain rfl := dCc_ok g0
    obtain rfl := dI_ok h1
    cases n with
    | zero => cases h
    | succ n =>
      exact run2_ok UOk (ih n rfl) (f := fn_bbr_Timeout) rfl ((run_bbr_Timeout capB n p0 p1 k).symm.trans h)
  · cases h
theorem ok_ref15_Plain {R : Type} {r : R} : ∀ {n : Nat}, (∀ m, n = m + 1 → CallOk2 (R := R) U (callP capB m) (runF tbl m)) → ∀ {av : Fr} {cs : List Fr} {k : Ret2 RW → Option R}, ca_ref15_Plain capB n av cs k = some r → ∃ q : Ret2 RW, runF tbl n 33 (TV.los U av) (cs.map (TV.los U)) = some (q.lo U) ∧ k q = some r := by
  intro n ih av cs k h
  unfold ca_ref15_Plain at h
  split at h
  · simp only [Option.bind_eq_some_iff] at h
    obtain ⟨c0_, h0, p0, g0, p1, h1, p2, h2, h⟩ := h
    obtain rfl := dA_ok h0
    obtain rfl := dCc_ok g0
    obtain rfl := dB_ok h1
    obtain rfl := dB_ok h2
    cases n with
    | zero => cases h
    | succ n =>
      exact run2_ok UOk (ih n rfl) (f := fn_ref15_Plain) rfl ((run_ref15_Plain capB n p0 p1 p2 k).symm.trans h)
  · cases h
theorem ok_ref12_time {R : Type} {r : R} : ∀ {n : Nat}, (∀ m, n = m + 1 → CallOk2 (R := R) U (callP capB m) (runF tbl m)) → ∀ {av : Fr} {cs : List Fr} {k : Ret2 RW → Option R}, ca_ref12_time capB n av cs k = some r → ∃ q : Ret2 RW, runF tbl n 42 (TV.los U av) (cs.map (TV.los U)) = some (q.lo U) ∧ k q = some r := by
  intro n ih av cs k h
  unfold ca_ref12_time at h
  split at h
  · simp only [Option.bind_eq_some_iff] at h
    obtain ⟨p0, h0, h⟩ := h
    obtain rfl := dI_ok h0
    cases n with
    | zero => cases h
    | succ n =>
      exact run2_ok UOk (ih n rfl) (f := fn_ref12_time) rfl ((run_ref12_time capB n p0 k).symm.trans h)
  · cases h
theorem ok_ref12_value {R : Type} {r : R} : ∀ {n : Nat}, (∀ m, n = m + 1 → CallOk2 (R := R) U (callP capB m) (runF tbl m)) → ∀ {av : Fr} {cs : List Fr} {k : Ret2 RW → Option R}, ca_ref12_value capB n av cs k = some r → ∃ q : Ret2 RW, runF tbl n 43 (TV.los U av) (cs.map (TV.los U)) = some (q.lo U) ∧ k q = some r := by
  intro n ih av cs k h
  unfold ca_ref12_value at h
  split at h
  · simp only [Option.bind_eq_some_iff] at h
    obtain ⟨p0, h0, h⟩ := h
    obtain rfl := dI_ok h0
    cases n with
    | zero => cases h
    | succ n =>
      exact run2_ok UOk (ih n rfl) (f := fn_ref12_value) rfl ((run_ref12_value capB n p0 k).symm.trans h)
  · cases h
theorem ok_ref12_Check {R : Type} {r : R} : ∀ {n : Nat}, (∀ m, n = m + 1 → CallOk2 (R := R) U (callP capB m) (runF tbl m)) → ∀ {av : Fr} {cs : List Fr} {k : Ret2 RW → Option R}, ca_ref12_Check capB n av cs k = some r → ∃ q : Ret2 RW, runF tbl n 34 (TV.los U av) (cs.map (TV.los U)) = some (q.lo U) ∧ k q = some r := by
  intro n ih av cs k h
  unfold ca_ref12_Check at h
  split at h
  · simp only [Option.bind_eq_some_iff] at h
    obtain ⟨p0, h0, p1, h1, h⟩ := h
    obtain rfl := dREntry_ok h0
    obtain rfl := dB_ok h1
    cases n with
    | zero => cases h
    | succ n =>
      exact run2_ok UOk (ih n rfl) (f := fn_ref12_Check) rfl ((run_ref12_Check capB n p0 p1 k).symm.trans h)
  · cases h
theorem ok_ref18_time {R : Type} {r : R} : ∀ {n : Nat}, (∀ m, n = m + 1 → CallOk2 (R := R) U (callP capB m) (runF tbl m)) → ∀ {av : Fr} {cs : List Fr} {k : Ret2 RW → Option R}, ca_ref18_time capB n av cs k = some r → ∃ q : Ret2 RW, runF tbl n 35 (TV.los U av) (cs.map (TV.los U)) = some (q.lo U) ∧ k q = some r := by
  intro n ih av cs k h
  unfold ca_ref18_time at h
  split at h
  · simp only [Option.bind_eq_some_iff] at h
    obtain ⟨p0, h0, h⟩ := h
    obtain rfl := dI_ok h0
    cases n with
    | zero => cases h
    | succ n =>
      exact run2_ok UOk (ih n rfl) (f := fn_ref18_time) rfl ((run_ref18_time capB n p0 k).symm.trans h)
  · cases h
theorem ok_ref15_Size {R : Type} {r : R} : ∀ {n : Nat}, (∀ m, n = m + 1 → CallOk2 (R := R) U (callP capB m) (runF tbl m)) → ∀ {av : Fr} {cs : List Fr} {k : Ret2 RW → Option R}, ca_ref15_Size capB n av cs k = some r → ∃ q : Ret2 RW, runF tbl n 19 (TV.los U av) (cs.map (TV.los U)) = some (q.lo U) ∧ k q = some r := by
  intro n ih av cs k h
  unfold ca_ref15_Size at h
  split at h
  · simp only [Option.bind_eq_some_iff] at h
    obtain ⟨p0, h0, h⟩ := h
    obtain rfl := dI_ok h0
    cases n with
    | zero => cases h
    | succ n =>
      exact run2_ok UOk (ih n rfl) (f := fn_ref15_Size) rfl ((run_ref15_Size capB n p0 k).symm.trans h)
  · cases h
theorem ok_ref18_Check {R : Type} {r : R} : ∀ {n : Nat}, (∀ m, n = m + 1 → CallOk2 (R := R) U (callP capB m) (runF tbl m)) → ∀ {av : Fr} {cs : List Fr} {k : Ret2 RW → Option R}, ca_ref18_Check capB n av cs k = some r → ∃ q : Ret2 RW, runF tbl n 18 (TV.los U av) (cs.map (TV.los U)) = some (q.lo U) ∧ k q = some r := by
  intro n ih av cs k h
  unfold ca_ref18_Check at h
  split at h
  · simp only [Option.bind_eq_some_iff] at h
    obtain ⟨c0_, h0, p0, g0, h⟩ := h
    obtain rfl := dA_ok h0
    obtain rfl := dCc_ok g0
    cases n with
    | zero => cases h
    | succ n =>
      exact run2_ok UOk (ih n rfl) (f := fn_ref18_Check) rfl ((run_ref18_Check capB n p0 k).symm.trans h)
  · cases h
theorem ok_ref18_Timeout {R : Type} {r : R} : ∀ {n : Nat}, (∀ m, n = m + 1 → CallOk2 (R := R) U (callP capB m) (runF tbl m)) → ∀ {av : Fr} {cs : List Fr} {k : Ret2 RW → Option R}, ca_ref18_Timeout capB n av cs k = some r → ∃ q : Ret2 RW, runF tbl n 8 (TV.los U av) (cs.map (TV.los U)) = some (q.lo U) ∧ k q = some r := by
  intro n ih av cs k h
  unfold ca_ref18_Timeout at h
  split at h
  · simp only [Option.bind_eq_some_iff] at h
    obtain ⟨c0_, h0, p0, g0, p1, h1, h⟩ := h
    obtain rfl := dA_ok h0
    obtain rfl := dCc_ok g0
    obtain rfl := dI_ok h1
    cases n with
    | zero => cases h
    | succ n =>
      exact run2_ok UOk (ih n rfl) (f := fn_ref18_Timeout) rfl ((run_ref18_Timeout capB n p0 p1 k).symm.trans h)
  · cases h
theorem ok_reno_New {R : Type} {r : R} : ∀ {n : Nat}, (∀ m, n = m + 1 → CallOk2 (R := R) U (callP capB m) (runF tbl m)) → ∀ {av : Fr} {cs : List Fr} {k : Ret2 RW → Option R}, ca_reno_New capB n av cs k = some r → ∃ q : Ret2 RW, runF tbl n 20 (TV.los U av) (cs.map (TV.los U)) = some (q.lo U) ∧ k q = some r := by
  intro n ih av cs k h
  unfold ca_reno_New at h
  split at h
  · simp only [Option.bind_eq_some_iff] at h
    obtain ⟨p0, h0, p1, h1, h⟩ := h
    obtain rfl := dI_ok h0
    obtain rfl := dI_ok h1
    cases n with
    | zero => cases h
    | succ n =>
      exact run2_ok UOk (ih n rfl) (f := fn_reno_New) rfl ((run_reno_New capB n p0 p1 k).symm.trans h)
  · cases h
theorem ok_bbr_New {R : Type} {r : R} : ∀ {n : Nat}, (∀ m, n = m + 1 → CallOk2 (R := R) U (callP capB m) (runF tbl m)) → ∀ {av : Fr} {cs : List Fr} {k : Ret2 RW → Option R}, ca_bbr_New capB n av cs k = some r → ∃ q : Ret2 RW, runF tbl n 9 (TV.los U av) (cs.map (TV.los U)) = some (q.lo U) ∧ k q = some r := by
  intro n ih av cs k h
  unfold ca_bbr_New at h
  split at h
  · simp only [Option.bind_eq_some_iff] at h
    obtain ⟨p0, h0, p1, h1, h⟩ := h
    obtain rfl := dI_ok h0
    obtain rfl := dI_ok h1
    cases n with
    | zero => cases h
    | succ n =>
      exact run2_ok UOk (ih n rfl) (f := fn_bbr_New) rfl ((run_bbr_New capB n p0 p1 k).symm.trans h)
  · cases h
theorem ok_ref15_New {R : Type} {r : R} : ∀ {n : Nat}, (∀ m, n = m + 1 → CallOk2 (R := R) U (callP capB m) (runF tbl m)) → ∀ {av : Fr} {cs : List Fr} {k : Ret2 RW → Option R}, ca_ref15_New capB n av cs k = some r → ∃ q : Ret2 RW, runF tbl n 21 (TV.los U av) (cs.map (TV.los U)) = some (q.lo U) ∧ k q = some r := by
  intro n ih av cs k h
  unfold ca_ref15_New at h
  split at h
  · simp only [Option.bind_eq_some_iff] at h
    obtain ⟨p0, h0, p1, h1, h⟩ := h
    obtain rfl := dI_ok h0
    obtain rfl := dI_ok h1
    cases n with
    | zero => cases h
    | succ n =>
      exact run2_ok UOk (ih n rfl) (f := fn_ref15_New) rfl ((run_ref15_New capB n p0 p1 k).symm.trans h)
  · cases h
theorem ok_ref18_New {R : Type} {r : R} : ∀ {n : Nat}, (∀ m, n = m + 1 → CallOk2 (R := R) U (callP capB m) (runF tbl m)) → ∀ {av : Fr} {cs : List Fr} {k : Ret2 RW → Option R}, ca_ref18_New capB n av cs k = some r → ∃ q : Ret2 RW, runF tbl n 10 (TV.los U av) (cs.map (TV.los U)) = some (q.lo U) ∧ k q = some r := by
  intro n ih av cs k h
  unfold ca_ref18_New at h
  split at h
  · simp only [Option.bind_eq_some_iff] at h
    obtain ⟨p0, h0, p1, h1, h⟩ := h
    obtain rfl := dI_ok h0
    obtain rfl := dI_ok h1
    cases n with
    | zero => cases h
    | succ n =>
      exact run2_ok UOk (ih n rfl) (f := fn_ref18_New) rfl ((run_ref18_New capB n p0 p1 k).symm.trans h)
  · cases h
theorem ok_ref15_Same {R : Type} {r : R} : ∀ {n : Nat}, (∀ m, n = m + 1 → CallOk2 (R := R) U (callP capB m) (runF tbl m)) → ∀ {av : Fr} {cs : List Fr} {k : Ret2 RW → Option R}, ca_ref15_Same capB n av cs k = some r → ∃ q : Ret2 RW, runF tbl n 11 (TV.los U av) (cs.map (TV.los U)) = some (q.lo U) ∧ k q = some r := by
  intro n ih av cs k h
  unfold ca_ref15_Same at h
  split at h
  · simp only [Option.bind_eq_some_iff] at h
    obtain ⟨c0_, h0, p0, g0, c1_, h1, p1, g1, h⟩ := h
    obtain rfl := dA_ok h0
    obtain rfl := dCc_ok g0
    obtain rfl := dA_ok h1
    obtain rfl := dCc_ok g1
    cases n with
    | zero => cases h
    | succ n =>
      exact run2_ok UOk (ih n rfl) (f := fn_ref15_Same) rfl ((run_ref15_Same capB n p0 p1 k).symm.trans h)
  · cases h
theorem ok_bbr_ctl_round {R : Type} {r : R} : ∀ {n : Nat}, (∀ m, n = m + 1 → CallOk2 (R := R) U (callP capB m) (runF tbl m)) → ∀ {av : Fr} {cs : List Fr} {k : Ret2 RW → Option R}, ca_bbr_ctl_round capB n av cs k = some r → ∃ q : Ret2 RW, runF tbl n 1023 (TV.los U av) (cs.map (TV.los U)) = some (q.lo U) ∧ k q = some r := by
  intro n ih av cs k h
  unfold ca_bbr_ctl_round at h
  split at h
  · simp only [Option.bind_eq_some_iff] at h
    obtain ⟨u0, h0, c1_, h1, p1, g1, q0, i0, h⟩ := h
    obtain rfl := dP_ok h0
    obtain rfl := dA_ok h1
    obtain rfl := dSample_ok g1
    obtain rfl := dctl_ok i0
    cases n with
    | zero => cases h
    | succ n =>
      exact run2_ok UOk (ih n rfl) (f := fn_bbr_ctl_round) rfl ((run_bbr_ctl_round capB n p1 q0 k).symm.trans h)
  · cases h
theorem ok_filter_Best {R : Type} {r : R} : ∀ {n : Nat}, (∀ m, n = m + 1 → CallOk2 (R := R) U (callP capB m) (runF tbl m)) → ∀ {av : Fr} {cs : List Fr} {k : Ret2 RW → Option R}, ca_filter_Best capB n av cs k = some r → ∃ q : Ret2 RW, runF tbl n 40 (TV.los U av) (cs.map (TV.los U)) = some (q.lo U) ∧ k q = some r := by
  intro n ih av cs k h
  unfold ca_filter_Best at h
  split at h
  · simp only [Option.bind_eq_some_iff] at h
    obtain ⟨p0, h0, h⟩ := h
    obtain rfl := dREntry_ok h0
    cases n with
    | zero => cases h
    | succ n =>
      exact run2_ok UOk (ih n rfl) (f := fn_filter_Best) rfl ((run_filter_Best capB n p0 k).symm.trans h)
  · cases h
theorem ok_bbr_ctl_bandwidth {R : Type} {r : R} : ∀ {n : Nat}, (∀ m, n = m + 1 → CallOk2 (R := R) U (callP capB m) (runF tbl m)) → ∀ {av : Fr} {cs : List Fr} {k : Ret2 RW → Option R}, ca_bbr_ctl_bandwidth capB n av cs k = some r → ∃ q : Ret2 RW, runF tbl n 1025 (TV.los U av) (cs.map (TV.los U)) = some (q.lo U) ∧ k q = some r := by
  intro n ih av cs k h
  unfold ca_bbr_ctl_bandwidth at h
  split at h
  · simp only [Option.bind_eq_some_iff] at h
    obtain ⟨u0, h0, q0, i0, h⟩ := h
    obtain rfl := dP_ok h0
    obtain rfl := dctl_ok i0
    cases n with
    | zero => cases h
    | succ n =>
      exact run2_ok UOk (ih n rfl) (f := fn_bbr_ctl_bandwidth) rfl ((run_bbr_ctl_bandwidth capB n q0 k).symm.trans h)
  · cases h
theorem ok_filter_Put {R : Type} {r : R} : ∀ {n : Nat}, (∀ m, n = m + 1 → CallOk2 (R := R) U (callP capB m) (runF tbl m)) → ∀ {av : Fr} {cs : List Fr} {k : Ret2 RW → Option R}, ca_filter_Put capB n av cs k = some r → ∃ q : Ret2 RW, runF tbl n 37 (TV.los U av) (cs.map (TV.los U)) = some (q.lo U) ∧ k q = some r := by
  intro n ih av cs k h
  unfold ca_filter_Put at h
  split at h
  · simp only [Option.bind_eq_some_iff] at h
    obtain ⟨p0, h0, p1, h1, p2, h2, p3, h3, p4, h4, h⟩ := h
    obtain rfl := dREntry_ok h0
    obtain rfl := dI_ok h1
    obtain rfl := dI_ok h2
    obtain rfl := dI_ok h3
    obtain rfl := dB_ok h4
    cases n with
    | zero => cases h
    | succ n =>
      exact run2_ok UOk (ih n rfl) (f := fn_filter_Put) rfl ((run_filter_Put capB n p0 p1 p2 p3 p4 k).symm.trans h)
  · cases h
theorem ok_bbr_ctl_speed {R : Type} {r : R} : ∀ {n : Nat}, (∀ m, n = m + 1 → CallOk2 (R := R) U (callP capB m) (runF tbl m)) → ∀ {av : Fr} {cs : List Fr} {k : Ret2 RW → Option R}, ca_bbr_ctl_speed capB n av cs k = some r → ∃ q : Ret2 RW, runF tbl n 1024 (TV.los U av) (cs.map (TV.los U)) = some (q.lo U) ∧ k q = some r := by
  intro n ih av cs k h
  unfold ca_bbr_ctl_speed at h
  split at h
  · simp only [Option.bind_eq_some_iff] at h
    obtain ⟨u0, h0, c1_, h1, p1, g1, q0, i0, h⟩ := h
    obtain rfl := dP_ok h0
    obtain rfl := dA_ok h1
    obtain rfl := dSample_ok g1
    obtain rfl := dctl_ok i0
    cases n with
    | zero => cases h
    | succ n =>
      exact run2_ok UOk (ih n rfl) (f := fn_bbr_ctl_speed) rfl ((run_bbr_ctl_speed capB n p1 q0 k).symm.trans h)
  · cases h
theorem ok_bbr_ctl_shortest {R : Type} {r : R} : ∀ {n : Nat}, (∀ m, n = m + 1 → CallOk2 (R := R) U (callP capB m) (runF tbl m)) → ∀ {av : Fr} {cs : List Fr} {k : Ret2 RW → Option R}, ca_bbr_ctl_shortest capB n av cs k = some r → ∃ q : Ret2 RW, runF tbl n 1028 (TV.los U av) (cs.map (TV.los U)) = some (q.lo U) ∧ k q = some r := by
  intro n ih av cs k h
  unfold ca_bbr_ctl_shortest at h
  split at h
  · simp only [Option.bind_eq_some_iff] at h
    obtain ⟨u0, h0, c1_, h1, p1, g1, q0, i0, h⟩ := h
    obtain rfl := dP_ok h0
    obtain rfl := dA_ok h1
    obtain rfl := dSample_ok g1
    obtain rfl := dctl_ok i0
    cases n with
    | zero => cases h
    | succ n =>
      exact run2_ok UOk (ih n rfl) (f := fn_bbr_ctl_shortest) rfl ((run_bbr_ctl_shortest capB n p1 q0 k).symm.trans h)
  · cases h
theorem ok_bbr_ctl_full {R : Type} {r : R} : ∀ {n : Nat}, (∀ m, n = m + 1 → CallOk2 (R := R) U (callP capB m) (runF tbl m)) → ∀ {av : Fr} {cs : List Fr} {k : Ret2 RW → Option R}, ca_bbr_ctl_full capB n av cs k = some r → ∃ q : Ret2 RW, runF tbl n 1029 (TV.los U av) (cs.map (TV.los U)) = some (q.lo U) ∧ k q = some r := by
  intro n ih av cs k h
  unfold ca_bbr_ctl_full at h
  split at h
  · simp only [Option.bind_eq_some_iff] at h
    obtain ⟨u0, h0, q0, i0, h⟩ := h
    obtain rfl := dP_ok h0
    obtain rfl := dctl_ok i0
    cases n with
    | zero => cases h
    | succ n =>
      exact run2_ok UOk (ih n rfl) (f := fn_bbr_ctl_full) rfl ((run_bbr_ctl_full capB n q0 k).symm.trans h)
  · cases h
theorem ok_math_bits_Mul64 {R : Type} {r : R} : ∀ {n : Nat}, (∀ m, n = m + 1 → CallOk2 (R := R) U (callP capB m) (runF tbl m)) → ∀ {av : Fr} {cs : List Fr} {k : Ret2 RW → Option R}, ca_math_bits_Mul64 capB n av cs k = some r → ∃ q : Ret2 RW, runF tbl n 46 (TV.los U av) (cs.map (TV.los U)) = some (q.lo U) ∧ k q = some r := by
  intro n ih av cs k h
  unfold ca_math_bits_Mul64 at h
  split at h
  · simp only [Option.bind_eq_some_iff] at h
    obtain ⟨p0, h0, p1, h1, h⟩ := h
    obtain rfl := dI_ok h0
    obtain rfl := dI_ok h1
    cases n with
    | zero => cases h
    | succ n =>
      exact run2_ok UOk (ih n rfl) (f := fn_math_bits_Mul64) rfl ((run_math_bits_Mul64 capB n p0 p1 k).symm.trans h)
  · cases h
theorem ok_math_bits_Len64 {R : Type} {r : R} : ∀ {n : Nat}, (∀ m, n = m + 1 → CallOk2 (R := R) U (callP capB m) (runF tbl m)) → ∀ {av : Fr} {cs : List Fr} {k : Ret2 RW → Option R}, ca_math_bits_Len64 capB n av cs k = some r → ∃ q : Ret2 RW, runF tbl n 49 (TV.los U av) (cs.map (TV.los U)) = some (q.lo U) ∧ k q = some r := by
  intro n ih av cs k h
  unfold ca_math_bits_Len64 at h
  split at h
  · simp only [Option.bind_eq_some_iff] at h
    obtain ⟨p0, h0, h⟩ := h
    obtain rfl := dI_ok h0
    cases n with
    | zero => cases h
    | succ n =>
      exact run2_ok UOk (ih n rfl) (f := fn_math_bits_Len64) rfl ((run_math_bits_Len64 capB n p0 k).symm.trans h)
  · cases h
theorem ok_math_bits_LeadingZeros64 {R : Type} {r : R} : ∀ {n : Nat}, (∀ m, n = m + 1 → CallOk2 (R := R) U (callP capB m) (runF tbl m)) → ∀ {av : Fr} {cs : List Fr} {k : Ret2 RW → Option R}, ca_math_bits_LeadingZeros64 capB n av cs k = some r → ∃ q : Ret2 RW, runF tbl n 48 (TV.los U av) (cs.map (TV.los U)) = some (q.lo U) ∧ k q = some r := by
  intro n ih av cs k h
  unfold ca_math_bits_LeadingZeros64 at h
  split at h
  · simp only [Option.bind_eq_some_iff] at h
    obtain ⟨p0, h0, h⟩ := h
    obtain rfl := dI_ok h0
    cases n with
    | zero => cases h
    | succ n =>
      exact run2_ok UOk (ih n rfl) (f := fn_math_bits_LeadingZeros64) rfl ((run_math_bits_LeadingZeros64 capB n p0 k).symm.trans h)
  · cases h
theorem ok_math_bits_Div64 {R : Type} {r : R} : ∀ {n : Nat}, (∀ m, n = m + 1 → CallOk2 (R := R) U (callP capB m) (runF tbl m)) → ∀ {av : Fr} {cs : List Fr} {k : Ret2 RW → Option R}, ca_math_bits_Div64 capB n av cs k = some r → ∃ q : Ret2 RW, runF tbl n 47 (TV.los U av) (cs.map (TV.los U)) = some (q.lo U) ∧ k q = some r := by
  intro n ih av cs k h
  unfold ca_math_bits_Div64 at h
  split at h
  · simp only [Option.bind_eq_some_iff] at h
    obtain ⟨p0, h0, p1, h1, p2, h2, h⟩ := h
    obtain rfl := dI_ok h0
    obtain rfl := dI_ok h1
    obtain rfl := dI_ok h2
    cases n with
    | zero => cases h
    | succ n =>
      exact run2_ok UOk (ih n rfl) (f := fn_math_bits_Div64) rfl ((run_math_bits_Div64 capB n p0 p1 p2 k).symm.trans h)
  · cases h
theorem ok_seq_MulDiv {R : Type} {r : R} : ∀ {n : Nat}, (∀ m, n = m + 1 → CallOk2 (R := R) U (callP capB m) (runF tbl m)) → ∀ {av : Fr} {cs : List Fr} {k : Ret2 RW → Option R}, ca_seq_MulDiv capB n av cs k = some r → ∃ q : Ret2 RW, runF tbl n 41 (TV.los U av) (cs.map (TV.los U)) = some (q.lo U) ∧ k q = some r := by
  intro n ih av cs k h
  unfold ca_seq_MulDiv at h
  split at h
  · simp only [Option.bind_eq_some_iff] at h
    obtain ⟨p0, h0, p1, h1, p2, h2, h⟩ := h
    obtain rfl := dI_ok h0
    obtain rfl := dI_ok h1
    obtain rfl := dI_ok h2
    cases n with
    | zero => cases h
    | succ n =>
      exact run2_ok UOk (ih n rfl) (f := fn_seq_MulDiv) rfl ((run_seq_MulDiv capB n p0 p1 p2 k).symm.trans h)
  · cases h
theorem ok_bbr_ctl_product {R : Type} {r : R} : ∀ {n : Nat}, (∀ m, n = m + 1 → CallOk2 (R := R) U (callP capB m) (runF tbl m)) → ∀ {av : Fr} {cs : List Fr} {k : Ret2 RW → Option R}, ca_bbr_ctl_product capB n av cs k = some r → ∃ q : Ret2 RW, runF tbl n 1031 (TV.los U av) (cs.map (TV.los U)) = some (q.lo U) ∧ k q = some r := by
  intro n ih av cs k h
  unfold ca_bbr_ctl_product at h
  split at h
  · simp only [Option.bind_eq_some_iff] at h
    obtain ⟨u0, h0, q0, i0, h⟩ := h
    obtain rfl := dP_ok h0
    obtain rfl := dctl_ok i0
    cases n with
    | zero => cases h
    | succ n =>
      exact run2_ok UOk (ih n rfl) (f := fn_bbr_ctl_product) rfl ((run_bbr_ctl_product capB n q0 k).symm.trans h)
  · cases h
theorem ok_bbr_ctl_probe {R : Type} {r : R} : ∀ {n : Nat}, (∀ m, n = m + 1 → CallOk2 (R := R) U (callP capB m) (runF tbl m)) → ∀ {av : Fr} {cs : List Fr} {k : Ret2 RW → Option R}, ca_bbr_ctl_probe capB n av cs k = some r → ∃ q : Ret2 RW, runF tbl n 1037 (TV.los U av) (cs.map (TV.los U)) = some (q.lo U) ∧ k q = some r := by
  intro n ih av cs k h
  unfold ca_bbr_ctl_probe at h
  split at h
  · simp only [Option.bind_eq_some_iff] at h
    obtain ⟨u0, h0, p1, h1, q0, i0, h⟩ := h
    obtain rfl := dP_ok h0
    obtain rfl := dI_ok h1
    obtain rfl := dctl_ok i0
    cases n with
    | zero => cases h
    | succ n =>
      exact run2_ok UOk (ih n rfl) (f := fn_bbr_ctl_probe) rfl ((run_bbr_ctl_probe capB n p1 q0 k).symm.trans h)
  · cases h
theorem ok_bbr_ctl_cycle {R : Type} {r : R} : ∀ {n : Nat}, (∀ m, n = m + 1 → CallOk2 (R := R) U (callP capB m) (runF tbl m)) → ∀ {av : Fr} {cs : List Fr} {k : Ret2 RW → Option R}, ca_bbr_ctl_cycle capB n av cs k = some r → ∃ q : Ret2 RW, runF tbl n 1030 (TV.los U av) (cs.map (TV.los U)) = some (q.lo U) ∧ k q = some r := by
  intro n ih av cs k h
  unfold ca_bbr_ctl_cycle at h
  split at h
  · simp only [Option.bind_eq_some_iff] at h
    obtain ⟨u0, h0, c1_, h1, p1, g1, q0, i0, h⟩ := h
    obtain rfl := dP_ok h0
    obtain rfl := dA_ok h1
    obtain rfl := dSample_ok g1
    obtain rfl := dctl_ok i0
    cases n with
    | zero => cases h
    | succ n =>
      exact run2_ok UOk (ih n rfl) (f := fn_bbr_ctl_cycle) rfl ((run_bbr_ctl_cycle capB n p1 q0 k).symm.trans h)
  · cases h
theorem ok_bbr_ctl_ask {R : Type} {r : R} : ∀ {n : Nat}, (∀ m, n = m + 1 → CallOk2 (R := R) U (callP capB m) (runF tbl m)) → ∀ {av : Fr} {cs : List Fr} {k : Ret2 RW → Option R}, ca_bbr_ctl_ask capB n av cs k = some r → ∃ q : Ret2 RW, runF tbl n 1038 (TV.los U av) (cs.map (TV.los U)) = some (q.lo U) ∧ k q = some r := by
  intro n ih av cs k h
  unfold ca_bbr_ctl_ask at h
  split at h
  · simp only [Option.bind_eq_some_iff] at h
    obtain ⟨u0, h0, c1_, h1, p1, g1, p2, h2, q0, i0, h⟩ := h
    obtain rfl := dP_ok h0
    obtain rfl := dA_ok h1
    obtain rfl := dSample_ok g1
    obtain rfl := dB_ok h2
    obtain rfl := dctl_ok i0
    cases n with
    | zero => cases h
    | succ n =>
      exact run2_ok UOk (ih n rfl) (f := fn_bbr_ctl_ask) rfl ((run_bbr_ctl_ask capB n p1 p2 q0 k).symm.trans h)
  · cases h
theorem ok_seq_Clamp {R : Type} {r : R} : ∀ {n : Nat}, (∀ m, n = m + 1 → CallOk2 (R := R) U (callP capB m) (runF tbl m)) → ∀ {av : Fr} {cs : List Fr} {k : Ret2 RW → Option R}, ca_seq_Clamp capB n av cs k = some r → ∃ q : Ret2 RW, runF tbl n 39 (TV.los U av) (cs.map (TV.los U)) = some (q.lo U) ∧ k q = some r := by
  intro n ih av cs k h
  unfold ca_seq_Clamp at h
  split at h
  · simp only [Option.bind_eq_some_iff] at h
    obtain ⟨p0, h0, p1, h1, p2, h2, h⟩ := h
    obtain rfl := dI_ok h0
    obtain rfl := dI_ok h1
    obtain rfl := dI_ok h2
    cases n with
    | zero => cases h
    | succ n =>
      exact run2_ok UOk (ih n rfl) (f := fn_seq_Clamp) rfl ((run_seq_Clamp capB n p0 p1 p2 k).symm.trans h)
  · cases h
theorem ok_bbr_ctl_window {R : Type} {r : R} : ∀ {n : Nat}, (∀ m, n = m + 1 → CallOk2 (R := R) U (callP capB m) (runF tbl m)) → ∀ {av : Fr} {cs : List Fr} {k : Ret2 RW → Option R}, ca_bbr_ctl_window capB n av cs k = some r → ∃ q : Ret2 RW, runF tbl n 1039 (TV.los U av) (cs.map (TV.los U)) = some (q.lo U) ∧ k q = some r := by
  intro n ih av cs k h
  unfold ca_bbr_ctl_window at h
  split at h
  · simp only [Option.bind_eq_some_iff] at h
    obtain ⟨u0, h0, c1_, h1, p1, g1, q0, i0, h⟩ := h
    obtain rfl := dP_ok h0
    obtain rfl := dA_ok h1
    obtain rfl := dSample_ok g1
    obtain rfl := dctl_ok i0
    cases n with
    | zero => cases h
    | succ n =>
      exact run2_ok UOk (ih n rfl) (f := fn_bbr_ctl_window) rfl ((run_bbr_ctl_window capB n p1 q0 k).symm.trans h)
  · cases h
theorem ok_bbr_Acked {R : Type} {r : R} : ∀ {n : Nat}, (∀ m, n = m + 1 → CallOk2 (R := R) U (callP capB m) (runF tbl m)) → ∀ {av : Fr} {cs : List Fr} {k : Ret2 RW → Option R}, ca_bbr_Acked capB n av cs k = some r → ∃ q : Ret2 RW, runF tbl n 14 (TV.los U av) (cs.map (TV.los U)) = some (q.lo U) ∧ k q = some r := by
  intro n ih av cs k h
  unfold ca_bbr_Acked at h
  split at h
  · simp only [Option.bind_eq_some_iff] at h
    obtain ⟨c0_, h0, p0, g0, c1_, h1, p1, g1, h⟩ := h
    obtain rfl := dA_ok h0
    obtain rfl := dCc_ok g0
    obtain rfl := dA_ok h1
    obtain rfl := dSample_ok g1
    cases n with
    | zero => cases h
    | succ n =>
      exact run2_ok UOk (ih n rfl) (f := fn_bbr_Acked) rfl ((run_bbr_Acked capB n p0 p1 k).symm.trans h)
  · cases h
theorem ok_bbr_Bandwidth {R : Type} {r : R} : ∀ {n : Nat}, (∀ m, n = m + 1 → CallOk2 (R := R) U (callP capB m) (runF tbl m)) → ∀ {av : Fr} {cs : List Fr} {k : Ret2 RW → Option R}, ca_bbr_Bandwidth capB n av cs k = some r → ∃ q : Ret2 RW, runF tbl n 15 (TV.los U av) (cs.map (TV.los U)) = some (q.lo U) ∧ k q = some r := by
  intro n ih av cs k h
  unfold ca_bbr_Bandwidth at h
  split at h
  · simp only [Option.bind_eq_some_iff] at h
    obtain ⟨c0_, h0, p0, g0, h⟩ := h
    obtain rfl := dA_ok h0
    obtain rfl := dCc_ok g0
    cases n with
    | zero => cases h
    | succ n =>
      exact run2_ok UOk (ih n rfl) (f := fn_bbr_Bandwidth) rfl ((run_bbr_Bandwidth capB n p0 k).symm.trans h)
  · cases h
theorem ok_bbr_Product {R : Type} {r : R} : ∀ {n : Nat}, (∀ m, n = m + 1 → CallOk2 (R := R) U (callP capB m) (runF tbl m)) → ∀ {av : Fr} {cs : List Fr} {k : Ret2 RW → Option R}, ca_bbr_Product capB n av cs k = some r → ∃ q : Ret2 RW, runF tbl n 16 (TV.los U av) (cs.map (TV.los U)) = some (q.lo U) ∧ k q = some r := by
  intro n ih av cs k h
  unfold ca_bbr_Product at h
  split at h
  · simp only [Option.bind_eq_some_iff] at h
    obtain ⟨c0_, h0, p0, g0, h⟩ := h
    obtain rfl := dA_ok h0
    obtain rfl := dCc_ok g0
    cases n with
    | zero => cases h
    | succ n =>
      exact run2_ok UOk (ih n rfl) (f := fn_bbr_Product) rfl ((run_bbr_Product capB n p0 k).symm.trans h)
  · cases h
theorem ok_bbr_Gain {R : Type} {r : R} : ∀ {n : Nat}, (∀ m, n = m + 1 → CallOk2 (R := R) U (callP capB m) (runF tbl m)) → ∀ {av : Fr} {cs : List Fr} {k : Ret2 RW → Option R}, ca_bbr_Gain capB n av cs k = some r → ∃ q : Ret2 RW, runF tbl n 23 (TV.los U av) (cs.map (TV.los U)) = some (q.lo U) ∧ k q = some r := by
  intro n ih av cs k h
  unfold ca_bbr_Gain at h
  split at h
  · simp only [Option.bind_eq_some_iff] at h
    obtain ⟨c0_, h0, p0, g0, h⟩ := h
    obtain rfl := dA_ok h0
    obtain rfl := dCc_ok g0
    cases n with
    | zero => cases h
    | succ n =>
      exact run2_ok UOk (ih n rfl) (f := fn_bbr_Gain) rfl ((run_bbr_Gain capB n p0 k).symm.trans h)
  · cases h
theorem ok_law18_heads {R : Type} {r : R} : ∀ {n : Nat}, (∀ m, n = m + 1 → CallOk2 (R := R) U (callP capB m) (runF tbl m)) → ∀ {av : Fr} {cs : List Fr} {k : Ret2 RW → Option R}, ca_law18_heads capB n av cs k = some r → ∃ q : Ret2 RW, runF tbl n 13 (TV.los U av) (cs.map (TV.los U)) = some (q.lo U) ∧ k q = some r := by
  intro n ih av cs k h
  unfold ca_law18_heads at h
  split at h
  · cases n with
    | zero => cases h
    | succ n =>
      exact run2_ok UOk (ih n rfl) (f := fn_law18_heads) rfl ((run_law18_heads capB n  k).symm.trans h)
  · cases h
theorem ok_law18_BbrFalls {R : Type} {r : R} : ∀ {n : Nat}, (∀ m, n = m + 1 → CallOk2 (R := R) U (callP capB m) (runF tbl m)) → ∀ {av : Fr} {cs : List Fr} {k : Ret2 RW → Option R}, ca_law18_BbrFalls capB n av cs k = some r → ∃ q : Ret2 RW, runF tbl n 3 (TV.los U av) (cs.map (TV.los U)) = some (q.lo U) ∧ k q = some r := by
  intro n ih av cs k h
  unfold ca_law18_BbrFalls at h
  split at h
  · simp only [Option.bind_eq_some_iff] at h
    obtain ⟨c0_, h0, p0, g0, p1, h1, p2, h2, h⟩ := h
    obtain rfl := dA_ok h0
    obtain rfl := dCc_ok g0
    obtain rfl := dI_ok h1
    obtain rfl := dI_ok h2
    cases n with
    | zero => cases h
    | succ n =>
      exact run2_ok UOk (ih n rfl) (f := fn_law18_BbrFalls) rfl ((run_law18_BbrFalls capB n p0 p1 p2 k).symm.trans h)
  · cases h
theorem callOk {R : Type} : ∀ n, CallOk2 (R := R) U (callP capB n) (runF tbl n)
  | n => fun id av cells k r h => by
    have ih : ∀ m, n = m + 1 → CallOk2 (R := R) U (callP capB m) (runF tbl m) := fun m e => callOk m
    unfold callP at h
    split at h
    · exact ok_bbr_within ih h
    · exact ok_filter_may ih h
    · exact ok_filter_beats ih h
    · exact ok_filter_Check ih h
    · exact ok_bbr_ctl_entries ih h
    · exact ok_bbr_Check ih h
    · exact ok_bbr_Timeout ih h
    · exact ok_ref15_Plain ih h
    · exact ok_ref12_time ih h
    · exact ok_ref12_value ih h
    · exact ok_ref12_Check ih h
    · exact ok_ref18_time ih h
    · exact ok_ref15_Size ih h
    · exact ok_ref18_Check ih h
    · exact ok_ref18_Timeout ih h
    · exact ok_reno_New ih h
    · exact ok_bbr_New ih h
    · exact ok_ref15_New ih h
    · exact ok_ref18_New ih h
    · exact ok_ref15_Same ih h
    · exact ok_bbr_ctl_round ih h
    · exact ok_filter_Best ih h
    · exact ok_bbr_ctl_bandwidth ih h
    · exact ok_filter_Put ih h
    · exact ok_bbr_ctl_speed ih h
    · exact ok_bbr_ctl_shortest ih h
    · exact ok_bbr_ctl_full ih h
    · exact ok_math_bits_Mul64 ih h
    · exact ok_math_bits_Len64 ih h
    · exact ok_math_bits_LeadingZeros64 ih h
    · exact ok_math_bits_Div64 ih h
    · exact ok_seq_MulDiv ih h
    · exact ok_bbr_ctl_product ih h
    · exact ok_bbr_ctl_probe ih h
    · exact ok_bbr_ctl_cycle ih h
    · exact ok_bbr_ctl_ask ih h
    · exact ok_seq_Clamp ih h
    · exact ok_bbr_ctl_window ih h
    · exact ok_bbr_Acked ih h
    · exact ok_bbr_Bandwidth ih h
    · exact ok_bbr_Product ih h
    · exact ok_bbr_Gain ih h
    · exact ok_law18_heads ih h
    · exact ok_law18_BbrFalls ih h
    · cases h
termination_by n => n
decreasing_by omega
end
end Go.Proofs.Ytgadpgeghlhpnaa.M
