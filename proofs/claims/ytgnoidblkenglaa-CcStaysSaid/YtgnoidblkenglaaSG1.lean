/- The machine's code of the functions, and that it computes them. -/
import Derived.Test.YtgnoidblkenglaaSG1a
import Derived.Test.YtgnoidblkenglaaProg
import Derived.KernelRfl
set_option maxRecDepth 100000
set_option linter.unusedVariables false
set_option linter.unusedSimpArgs false
namespace Go.Proofs.Ytgnoidblkenglaa.M
open Go
noncomputable section
theorem l_math_bits_Div64_20_t {R : Type} (cp : Nat → Nat → Bool) (n : Nat) : ∀ (m : Nat) (v66 v67 v68 v69 v72 v83 v85 v87 v88 : Int) (k : Ex → FF → Option R), loopN2 (X cp n i_math_bits_Div64_3) m (fr_math_bits_Div64_18 v66 v67 v68 v69 v72 v83 v85 v87 v88) k = l_math_bits_Div64_20 cp n m v66 v67 v68 v69 v72 v83 v85 v87 v88 (fun v92 => k (.exit 2) (fr_math_bits_Div64_19 v66 v67 v72 v83 v85 v92))
  | 0, _, _, _, _, _, _, _, _, _, _ => rfl
  | m + 1, v66, v67, v68, v69, v72, v83, v85, v87, v88, k => (loopN2_succ (X cp n i_math_bits_Div64_3) m (fr_math_bits_Div64_18 v66 v67 v68 v69 v72 v83 v85 v87 v88) k).trans ((s_math_bits_Div64_15_t cp n v66 v67 v68 v69 v72 v83 v85 v87 v88 (loopT (X cp n i_math_bits_Div64_3) m k)).trans ((show s_math_bits_Div64_15 cp n v66 v67 v68 v69 v72 v83 v85 v87 v88 (fun v89 v90 => loopT (X cp n i_math_bits_Div64_3) m k .norm (fr_math_bits_Div64_16 v66 v67 v68 v69 v72 v83 v85 v89 v90)) (fun v91 => loopT (X cp n i_math_bits_Div64_3) m k (.exit 2) (fr_math_bits_Div64_17 v66 v67 v72 v83 v85 v91)) = s_math_bits_Div64_15 cp n v66 v67 v68 v69 v72 v83 v85 v87 v88 (fun v89 v90 => loopN2 (X cp n i_math_bits_Div64_3) m (fr_math_bits_Div64_18 v66 v67 v68 v69 v72 v83 v85 v89 v90) k) (fun v91 => k (.exit 2) (fr_math_bits_Div64_19 v66 v67 v72 v83 v85 v91)) from by kernel_rfl).trans (congrArg (fun q => s_math_bits_Div64_15 cp n v66 v67 v68 v69 v72 v83 v85 v87 v88 q (fun v91 => k (.exit 2) (fr_math_bits_Div64_19 v66 v67 v72 v83 v85 v91))) (funext fun v89 => funext fun v90 => l_math_bits_Div64_20_t cp n m v66 v67 v68 v69 v72 v83 v85 v89 v90 k))))
theorem s_math_bits_Div64_21_t {R : Type} (cp : Nat → Nat → Bool) (n : Nat) (v66 v67 v68 v69 v72 v83 v84 v85 v86 : Int) (k : Ex → FF → Option R) : X cp n i_math_bits_Div64_4 (fr_math_bits_Div64_14 v66 v67 v68 v69 v72 v83 v84 v85 v86) k = s_math_bits_Div64_21 cp n v66 v67 v68 v69 v72 v83 v84 v85 v86 (fun v92 => k (.exit 2) (fr_math_bits_Div64_19 v66 v67 v72 v83 v85 v92)) := (show X cp n i_math_bits_Div64_4 (fr_math_bits_Div64_14 v66 v67 v68 v69 v72 v83 v84 v85 v86) k = loopN2 (X cp n i_math_bits_Div64_3) n (fr_math_bits_Div64_18 v66 v67 v68 v69 v72 v83 v85 v84 v86) k from by kernel_rfl).trans (l_math_bits_Div64_20_t cp n n v66 v67 v68 v69 v72 v83 v85 v84 v86 k)
def fr_math_bits_Div64_22 (v66 v67 v72 v83 v85 v93 : Int) : FF := [dT 2 ((tI .u64 v66) :: (dT 5 ((tI .u64 v67) :: (dT 5 ([(tI .u64 v72), (tI .u64 v83)]))))), dT 1 ((tI .u64 v85) :: (tI .u64 v93) :: (dT 13 [])), dc, dc, dc, dc, dc, dc, dc]
theorem s_math_bits_Div64_23_t {R : Type} (cp : Nat → Nat → Bool) (n : Nat) (v66 v67 v68 v69 v72 v83 v84 v85 v86 : Int) (k : Ex → FF → Option R) : X cp n i_math_bits_Div64_5 (fr_math_bits_Div64_14 v66 v67 v68 v69 v72 v83 v84 v85 v86) k = s_math_bits_Div64_23 cp n v66 v67 v68 v69 v72 v83 v84 v85 v86 (fun v93 => k .norm (fr_math_bits_Div64_22 v66 v67 v72 v83 v85 v93)) := (show X cp n i_math_bits_Div64_5 (fr_math_bits_Div64_14 v66 v67 v68 v69 v72 v83 v84 v85 v86) k = X cp n i_math_bits_Div64_4 (fr_math_bits_Div64_14 v66 v67 v68 v69 v72 v83 v84 v85 v86) (blkT 2 k) from by kernel_rfl).trans ((s_math_bits_Div64_21_t cp n v66 v67 v68 v69 v72 v83 v84 v85 v86 (blkT 2 k)).trans (by kernel_rfl))
def fr_math_bits_Div64_25 (v94 v95 : Int) : FF := [dT 6 ((tI .u64 v94) :: (tI .u64 v95) :: (dT 8 [])), dc, dc, dc, dc, dc, dc, dc, dc]
theorem s_math_bits_Div64_24_t {R : Type} (cp : Nat → Nat → Bool) (n : Nat) (v66 v67 v72 v83 v85 v93 : Int) (k : Ex → FF → Option R) : X cp n i_math_bits_Div64_6 (fr_math_bits_Div64_22 v66 v67 v72 v83 v85 v93) k = s_math_bits_Div64_24 cp n v66 v67 v72 v83 v85 v93 (fun v94 v95 => k .ret (fr_math_bits_Div64_25 v94 v95)) := by kernel_rfl
def fr_math_bits_Div64_26 (v96 v97 : Int) : FF := [dT 6 ((tI .u64 v96) :: (tI .u64 v97) :: (dT 8 [])), dc, dc, dc, dc, dc, dc, dc, dc]
theorem s_math_bits_Div64_27_t {R : Type} (cp : Nat → Nat → Bool) (n : Nat) (v66 v67 v68 v69 v72 v83 v84 v85 v86 : Int) (k : Ex → FF → Option R) : X cp n i_math_bits_Div64_7 (fr_math_bits_Div64_14 v66 v67 v68 v69 v72 v83 v84 v85 v86) k = s_math_bits_Div64_27 cp n v66 v67 v68 v69 v72 v83 v84 v85 v86 (fun v96 v97 => k .ret (fr_math_bits_Div64_26 v96 v97)) := (show X cp n i_math_bits_Div64_7 (fr_math_bits_Div64_14 v66 v67 v68 v69 v72 v83 v84 v85 v86) k = X cp n i_math_bits_Div64_5 (fr_math_bits_Div64_14 v66 v67 v68 v69 v72 v83 v84 v85 v86) (seqT (X cp n) i_math_bits_Div64_6 k) from by kernel_rfl).trans ((show X cp n i_math_bits_Div64_5 (fr_math_bits_Div64_14 v66 v67 v68 v69 v72 v83 v84 v85 v86) (seqT (X cp n) i_math_bits_Div64_6 k) = s_math_bits_Div64_23 cp n v66 v67 v68 v69 v72 v83 v84 v85 v86 (fun v93 => X cp n i_math_bits_Div64_6 (fr_math_bits_Div64_22 v66 v67 v72 v83 v85 v93) k) from (s_math_bits_Div64_23_t cp n v66 v67 v68 v69 v72 v83 v84 v85 v86 (seqT (X cp n) i_math_bits_Div64_6 k)).trans (by kernel_rfl)).trans (congrArg (fun q => s_math_bits_Div64_23 cp n v66 v67 v68 v69 v72 v83 v84 v85 v86 q) (funext fun v93 => (s_math_bits_Div64_24_t cp n v66 v67 v72 v83 v85 v93 k).trans (show s_math_bits_Div64_24 cp n v66 v67 v72 v83 v85 v93 (fun v94 v95 => k .ret (fr_math_bits_Div64_25 v94 v95)) = s_math_bits_Div64_24 cp n v66 v67 v72 v83 v85 v93 (fun v94 v95 => k .ret (fr_math_bits_Div64_26 v94 v95)) from by kernel_rfl))))
def fr_math_bits_Div64_28 (v98 v99 : Int) : FF := [dT 6 ((tI .u64 v98) :: (tI .u64 v99) :: (dT 8 [])), dc, dc, dc, dc, dc, dc, dc, dc]
theorem s_math_bits_Div64_29_t {R : Type} (cp : Nat → Nat → Bool) (n : Nat) (v66 v67 v68 v69 v70 v71 v72 v83 : Int) (k : Ex → FF → Option R) : X cp n i_math_bits_Div64_8 (fr_math_bits_Div64_11 v66 v67 v68 v69 v70 v71 v72 v83) k = s_math_bits_Div64_29 cp n v66 v67 v68 v69 v70 v71 v72 v83 (fun v98 v99 => k .ret (fr_math_bits_Div64_28 v98 v99)) := ((fun c => (show X cp n (.seq (.fin (.reg g_math_bits_Div64_21) [11, 13, 86, 87, 88, 89, 90, 91, 92, 93] []) (.seq (.fin (.reg g_math_bits_Div64_22) [94, 95, 96] []) (.seq (.fin (.reg g_math_bits_Div64_23) [97, 98, 99, 100, 101] []) c))) (fr_math_bits_Div64_11 v66 v67 v68 v69 v70 v71 v72 v83) k = s_math_bits_Div64_13 cp n v66 v67 v68 v69 v70 v71 v72 v83 (fun v84 v85 v86 => X cp n c (fr_math_bits_Div64_14 v66 v67 v68 v69 v72 v83 v84 v85 v86) k) from by kernel_rfl)) i_math_bits_Div64_7).trans (congrArg (fun q => s_math_bits_Div64_13 cp n v66 v67 v68 v69 v70 v71 v72 v83 q) (funext fun v84 => funext fun v85 => funext fun v86 => (s_math_bits_Div64_27_t cp n v66 v67 v68 v69 v72 v83 v84 v85 v86 k).trans (show s_math_bits_Div64_27 cp n v66 v67 v68 v69 v72 v83 v84 v85 v86 (fun v96 v97 => k .ret (fr_math_bits_Div64_26 v96 v97)) = s_math_bits_Div64_27 cp n v66 v67 v68 v69 v72 v83 v84 v85 v86 (fun v96 v97 => k .ret (fr_math_bits_Div64_28 v96 v97)) from by kernel_rfl)))
def fr_math_bits_Div64_30 (v100 v101 : Int) : FF := [dT 6 ((tI .u64 v100) :: (tI .u64 v101) :: (dT 8 [])), dc, dc, dc, dc, dc, dc, dc, dc]
theorem s_math_bits_Div64_31_t {R : Type} (cp : Nat → Nat → Bool) (n : Nat) (v66 v67 v68 v69 v70 v71 v72 v73 v74 : Int) (k : Ex → FF → Option R) : X cp n i_math_bits_Div64_9 (fr_math_bits_Div64_2 v66 v67 v68 v69 v70 v71 v72 v73 v74) k = s_math_bits_Div64_31 cp n v66 v67 v68 v69 v70 v71 v72 v73 v74 (fun v100 v101 => k .ret (fr_math_bits_Div64_30 v100 v101)) := (show X cp n i_math_bits_Div64_9 (fr_math_bits_Div64_2 v66 v67 v68 v69 v70 v71 v72 v73 v74) k = X cp n i_math_bits_Div64_2 (fr_math_bits_Div64_2 v66 v67 v68 v69 v70 v71 v72 v73 v74) (seqT (X cp n) i_math_bits_Div64_8 k) from by kernel_rfl).trans ((show X cp n i_math_bits_Div64_2 (fr_math_bits_Div64_2 v66 v67 v68 v69 v70 v71 v72 v73 v74) (seqT (X cp n) i_math_bits_Div64_8 k) = s_math_bits_Div64_12 cp n v66 v67 v68 v69 v70 v71 v72 v73 v74 (fun v83 => X cp n i_math_bits_Div64_8 (fr_math_bits_Div64_11 v66 v67 v68 v69 v70 v71 v72 v83) k) from (s_math_bits_Div64_12_t cp n v66 v67 v68 v69 v70 v71 v72 v73 v74 (seqT (X cp n) i_math_bits_Div64_8 k)).trans (by kernel_rfl)).trans (congrArg (fun q => s_math_bits_Div64_12 cp n v66 v67 v68 v69 v70 v71 v72 v73 v74 q) (funext fun v83 => (s_math_bits_Div64_29_t cp n v66 v67 v68 v69 v70 v71 v72 v83 k).trans (show s_math_bits_Div64_29 cp n v66 v67 v68 v69 v70 v71 v72 v83 (fun v98 v99 => k .ret (fr_math_bits_Div64_28 v98 v99)) = s_math_bits_Div64_29 cp n v66 v67 v68 v69 v70 v71 v72 v83 (fun v98 v99 => k .ret (fr_math_bits_Div64_30 v98 v99)) from by kernel_rfl))))
def fr_math_bits_Div64_32 (v102 v103 : Int) : FF := [dT 6 ((tI .u64 v102) :: (tI .u64 v103) :: (dT 8 [])), dc, dc, dc, dc, dc, dc, dc, dc]
def fr_math_bits_Div64_34 (p0 p1 p2 : Int) : FF := [(tI .u64 p0) :: (tI .u64 p1) :: (tI .u64 p2) :: (dT 13 []), dc, dc, dc, dc, dc, dc, dc, dc]
theorem s_math_bits_Div64_33_t {R : Type} (cp : Nat → Nat → Bool) (n : Nat) (p0 p1 p2 : Int) (k : Ex → FF → Option R) : X cp n i_math_bits_Div64_10 (fr_math_bits_Div64_34 p0 p1 p2) k = s_math_bits_Div64_33 cp n p0 p1 p2 (fun v102 v103 => k .ret (fr_math_bits_Div64_32 v102 v103)) := ((fun c => (show X cp n (.seq (.fin (.reg g_math_bits_Div64_0) [6, 7] []) (.seq (.seq (.fin (.reg g_math_bits_Div64_1) [19] []) (.fin (.cond (.s 20) (.stuck) (.skip)) [20] [])) (.seq (.seq (.fin (.reg g_math_bits_Div64_3) [22, 23] []) (.fin (.cond (.s 24) (.stuck) (.skip)) [24] [])) (.seq (.seq (.fin (.reg g_math_bits_Div64_5) [26] []) (.fin (.cond (.s 27) (.seq (.fin (.reg g_math_bits_Div64_6) [0, 1, 2, 27, 28, 29, 30, 31, 32, 33] []) (.ret)) (.skip)) [27] [])) (.seq (.fin (.reg g_math_bits_Div64_7) [34, 35, 36] []) (.seq (.fin (.reg g_math_bits_Div64_8) [37, 38, 39] []) (.seq (.fin (.reg g_math_bits_Div64_9) [40, 41] []) (.seq (.fin (.reg g_math_bits_Div64_10) [42, 43] []) (.seq (.fin (.reg g_math_bits_Div64_11) [0, 44, 45, 46, 47, 48, 49, 50, 51] []) (.seq (.fin (.reg g_math_bits_Div64_12) [1, 52, 53, 54] []) (.seq (.fin (.reg g_math_bits_Div64_13) [55, 56] []) (.seq (.fin (.reg g_math_bits_Div64_14) [12, 57, 58] []) (.seq (.fin (.reg g_math_bits_Div64_15) [59, 60, 61] []) (.seq (.fin (.reg g_math_bits_Div64_16) [62, 63, 64, 65, 66] []) c)))))))))))))) (fr_math_bits_Div64_34 p0 p1 p2) k = s_math_bits_Div64_1 cp n p0 p1 p2 (fun v66 v67 v68 v69 v70 v71 v72 v73 v74 => X cp n c (fr_math_bits_Div64_2 v66 v67 v68 v69 v70 v71 v72 v73 v74) k) (fun v75 v76 => k .ret (fr_math_bits_Div64_32 v75 v76)) from by kernel_rfl)) i_math_bits_Div64_9).trans (congrArg (fun q => s_math_bits_Div64_1 cp n p0 p1 p2 q (fun v75 v76 => k .ret (fr_math_bits_Div64_32 v75 v76))) (funext fun v66 => funext fun v67 => funext fun v68 => funext fun v69 => funext fun v70 => funext fun v71 => funext fun v72 => funext fun v73 => funext fun v74 => (s_math_bits_Div64_31_t cp n v66 v67 v68 v69 v70 v71 v72 v73 v74 k).trans (show s_math_bits_Div64_31 cp n v66 v67 v68 v69 v70 v71 v72 v73 v74 (fun v100 v101 => k .ret (fr_math_bits_Div64_30 v100 v101)) = s_math_bits_Div64_31 cp n v66 v67 v68 v69 v70 v71 v72 v73 v74 (fun v100 v101 => k .ret (fr_math_bits_Div64_32 v100 v101)) from by kernel_rfl)))
theorem run_math_bits_Div64 {R : Type} (cp : Nat → Nat → Bool) (n : Nat) (p0 p1 p2 : Int) (k : Ret2 RW → Option R) : G_math_bits_Div64 cp (n + 1) p0 p1 p2 (fun r0 r1 => k ⟨.tup [(tI .u64 r0), (tI .u64 r1)], [], []⟩) = run2 U cp (callP cp n) n fn_math_bits_Div64 [(tI .u64 p0), (tI .u64 p1), (tI .u64 p2)] [] k := ((X_run (f := fn_math_bits_Div64) (av := [(tI .u64 p0), (tI .u64 p1), (tI .u64 p2)]) (cells := []) (code := i_math_bits_Div64_10) (fr := (fr_math_bits_Div64_34 p0 p1 p2)) (k := k) (by kernel_rfl) (fun K => by kernel_rfl)).trans ((s_math_bits_Div64_33_t cp n p0 p1 p2 (finK2 fn_math_bits_Div64 k)).trans (by kernel_rfl))).symm
/-! tideway/seq.MulDiv -/
theorem run_seq_MulDiv {R : Type} (cp : Nat → Nat → Bool) (n : Nat) (p0 p1 p2 : Int) (k : Ret2 RW → Option R) : G_seq_MulDiv cp (n + 1) p0 p1 p2 (fun r0 r1 => k ⟨.tup [(tL r0), (tL r1)], [], []⟩) = run2 U cp (callP cp n) n fn_seq_MulDiv [(tL p0), (tL p1), (tL p2)] [] k := by kernel_rfl
/-! tideway/cc.Pace -/
def fr_cc_Pace_2 (p0 : SCc) (p1 p2 v49 v50 : Int) : FF := [dT 1 ((tL p1) :: (tL p2) :: (.ptr 49 0) :: (dT 3 ((tL v49) :: (tL v50) :: (dT 7 [])))), dc, dc, dT 1 ((.hdr 22) :: (sl 0 14 (eCc p0))), sl 14 8 (eCc p0) ++ (dT 8 [])]
def fr_cc_Pace_3 : FF := [dT 6 ((tL 0) :: (dT 9 [])), dc, dc, dc, dc]
def fr_cc_Pace_5 (v55 : Int) : FF := [dT 6 ((tL v55) :: (dT 9 [])), dc, dc, dc, dc]
theorem s_cc_Pace_4_t {R : Type} (cp : Nat → Nat → Bool) (n : Nat) (p0 : SCc) (p1 p2 v49 v50 : Int) (k : Ex → FF → Option R) : X cp n i_cc_Pace_0 (fr_cc_Pace_2 p0 p1 p2 v49 v50) k = s_cc_Pace_4 cp n p0 p1 p2 v49 v50 (fun v55 => k .ret (fr_cc_Pace_5 v55)) := by kernel_rfl
def fr_cc_Pace_6 (v56 : Int) : FF := [dT 6 ((tL v56) :: (dT 9 [])), dc, dc, dc, dc]
def fr_cc_Pace_8 (p0 : SCc) (p1 p2 : Int) : FF := [(.agg (eCc p0)) :: (tL p1) :: (tL p2) :: (dT 13 []), dc, dc, dc, dc]
theorem s_cc_Pace_7_t {R : Type} (cp : Nat → Nat → Bool) (n : Nat) (p0 : SCc) (p1 p2 : Int) (k : Ex → FF → Option R) : X cp n i_cc_Pace_1 (fr_cc_Pace_8 p0 p1 p2) k = s_cc_Pace_7 cp n p0 p1 p2 (fun v56 => k .ret (fr_cc_Pace_6 v56)) := ((fun c => (show X cp n (.seq (.fin (.reg g_cc_Pace_0) [0, 6] []) (.seq (.seq (.fin (.reg g_cc_Pace_1) [10, 11] []) (.fin (.cond (.s 12) (.seq (.fin (.reg g_cc_Pace_2) [1, 2, 3, 12] [(49, 22)]) (.ret)) (.skip)) [12] [])) (.seq (.reg g_cc_Pace_3) (.seq (.blk 0 (.seq (.fin (.reg g_cc_Pace_4) [14, 15, 16] []) (.cond (.s 13) (.fin (.reg g_cc_Pace_5) [13, 17, 18, 19, 20, 21, 22] []) (.seq (.fin (.reg g_cc_Pace_6) [13, 24, 25, 26, 27, 28] []) (.fin (.cond (.s 23) (.fin (.reg g_cc_Pace_7) [23] []) (.skip)) [23] []))))) c)))) (fr_cc_Pace_8 p0 p1 p2) k = s_cc_Pace_1 cp n p0 p1 p2 (fun v49 v50 => X cp n c (fr_cc_Pace_2 p0 p1 p2 v49 v50) k) (k .ret (fr_cc_Pace_6 0)) from by kernel_rfl)) i_cc_Pace_0).trans (congrArg (fun q => s_cc_Pace_1 cp n p0 p1 p2 q (k .ret (fr_cc_Pace_6 0))) (funext fun v49 => funext fun v50 => (s_cc_Pace_4_t cp n p0 p1 p2 v49 v50 k).trans (show s_cc_Pace_4 cp n p0 p1 p2 v49 v50 (fun v55 => k .ret (fr_cc_Pace_5 v55)) = s_cc_Pace_4 cp n p0 p1 p2 v49 v50 (fun v55 => k .ret (fr_cc_Pace_6 v55)) from by kernel_rfl)))
theorem run_cc_Pace {R : Type} (cp : Nat → Nat → Bool) (n : Nat) (p0 : SCc) (p1 p2 : Int) (k : Ret2 RW → Option R) : G_cc_Pace cp (n + 1) p0 p1 p2 (fun r0 => k ⟨(tL r0), [], []⟩) = run2 U cp (callP cp n) n fn_cc_Pace [.agg (eCc p0), (tL p1), (tL p2)] [] k := ((X_run (f := fn_cc_Pace) (av := [.agg (eCc p0), (tL p1), (tL p2)]) (cells := []) (code := i_cc_Pace_1) (fr := (fr_cc_Pace_8 p0 p1 p2)) (k := k) (by kernel_rfl) (fun K => by kernel_rfl)).trans ((s_cc_Pace_7_t cp n p0 p1 p2 (finK2 fn_cc_Pace k)).trans (by kernel_rfl))).symm
/-! tideway/tidewaylaw19.heads -/
def fr_law19_heads_2 (v35 v36 v37 v38 : Int) (v39 v40 v41 : SCc) : FF := [dT 1 ((.ptr 82 0) :: (tL v35) :: (.ptr 105 0) :: (tL v36) :: (.ptr 128 0) :: (tL v37) :: (dT 1 ((tL v38) :: (dT 7 [])))), dc, dc, dc, dc, dT 2 ((.hdr 22) :: (sl 0 13 (eCc v39))), sl 13 9 (eCc v39) ++ ((.hdr 22) :: (sl 0 6 (eCc v40))), sl 6 16 (eCc v40), (.hdr 22) :: (sl 0 15 (eCc v41)), sl 15 7 (eCc v41) ++ (dT 9 []), dc, dc, dc]
def fr_law19_heads_4 (v59 : Bool) : FF := [(tB v59) :: (dT 15 []), dc, dc, dc, dc, dc, dc, dc, dc, dc, dc, dc, dc]
theorem s_law19_heads_3_t {R : Type} (cp : Nat → Nat → Bool) (n : Nat) (v35 v36 v37 v38 : Int) (v39 v40 v41 : SCc) (k : Ex → FF → Option R) : X cp n i_law19_heads_0 (fr_law19_heads_2 v35 v36 v37 v38 v39 v40 v41) k = s_law19_heads_3 cp n v35 v36 v37 v38 v39 v40 v41 (fun v59 => k .ret (fr_law19_heads_4 v59)) := by kernel_rfl
def fr_law19_heads_5 (v60 : Bool) : FF := [(tB v60) :: (dT 15 []), dc, dc, dc, dc, dc, dc, dc, dc, dc, dc, dc, dc]
def fr_law19_heads_7 : FF := [dc, dc, dc, dc, dc, dc, dc, dc, dc, dc, dc, dc, dc]
theorem s_law19_heads_6_t {R : Type} (cp : Nat → Nat → Bool) (n : Nat) (k : Ex → FF → Option R) : X cp n i_law19_heads_1 fr_law19_heads_7 k = s_law19_heads_6 cp n (fun v60 => k .ret (fr_law19_heads_5 v60)) := ((fun c => (show X cp n (.seq (.fin (.reg g_law19_heads_0) [0] []) (.seq (.fin (.reg g_law19_heads_1) [11, 12, 13, 14] []) (.seq (.fin (.reg g_law19_heads_2) [15, 16, 17, 18] []) (.seq (.fin (.reg g_law19_heads_3) [19, 20, 21, 22] []) (.seq (.fin (.reg g_law19_heads_4) [7, 23, 24, 25, 26] [(151, 22)]) c))))) fr_law19_heads_7 k = s_law19_heads_1 cp n (fun v35 v36 v37 v38 v39 v40 v41 => X cp n c (fr_law19_heads_2 v35 v36 v37 v38 v39 v40 v41) k) from by kernel_rfl)) i_law19_heads_0).trans (congrArg (fun q => s_law19_heads_1 cp n q) (funext fun v35 => funext fun v36 => funext fun v37 => funext fun v38 => funext fun v39 => funext fun v40 => funext fun v41 => (s_law19_heads_3_t cp n v35 v36 v37 v38 v39 v40 v41 k).trans (show s_law19_heads_3 cp n v35 v36 v37 v38 v39 v40 v41 (fun v59 => k .ret (fr_law19_heads_4 v59)) = s_law19_heads_3 cp n v35 v36 v37 v38 v39 v40 v41 (fun v59 => k .ret (fr_law19_heads_5 v59)) from by kernel_rfl)))
theorem run_law19_heads {R : Type} (cp : Nat → Nat → Bool) (n : Nat) (k : Ret2 RW → Option R) : G_law19_heads cp (n + 1) (fun r0 => k ⟨(tB r0), [], []⟩) = run2 U cp (callP cp n) n fn_law19_heads [] [] k := ((X_run (f := fn_law19_heads) (av := []) (cells := []) (code := i_law19_heads_1) (fr := fr_law19_heads_7) (k := k) (by kernel_rfl) (fun K => by kernel_rfl)).trans ((s_law19_heads_6_t cp n  (finK2 fn_law19_heads k)).trans (by kernel_rfl))).symm
/-! tideway/reno.begun -/
theorem run_reno_begun {R : Type} (cp : Nat → Nat → Bool) (n : Nat) (p0 : SCc) (p1 : Int) (k : Ret2 RW → Option R) : G_reno_begun cp (n + 1) p0 p1 (fun r0 r1 => k ⟨.tup [.ptr 44 0, (tL r0)], [], [(ectl r1)]⟩) = run2 U cp (callP cp n) n fn_reno_begun [.agg (eCc p0), (tL p1)] [] k := by kernel_rfl
/-! tideway/reno.Loss -/
theorem run_reno_Loss {R : Type} (cp : Nat → Nat → Bool) (n : Nat) (p0 : SCc) (p1 : Int) (k : Ret2 RW → Option R) : G_reno_Loss cp (n + 1) p0 p1 (fun r0 r1 => k ⟨.tup [.agg (eCc r0), (tL r1)], [], []⟩) = run2 U cp (callP cp n) n fn_reno_Loss [.agg (eCc p0), (tL p1)] [] k := by kernel_rfl
/-! (*tideway/cubic.ctl).fall -/
theorem run_cubic_ctl_fall {R : Type} (cp : Nat → Nat → Bool) (n : Nat) (q0 : ST85) (k : Ret2 RW → Option R) : G_cubic_ctl_fall cp (n + 1) q0 (fun r0 => k ⟨.tup [], [(eT85 r0)], []⟩) = run2 U cp (callP cp n) n fn_cubic_ctl_fall [.ptr 57 0] [(eT85 q0)] k := by kernel_rfl
/-! tideway/cubic.moved -/
theorem run_cubic_moved {R : Type} (cp : Nat → Nat → Bool) (n : Nat) (p0 : SCc) (p1 : Int) (k : Ret2 RW → Option R) : G_cubic_moved cp (n + 1) p0 p1 (fun r0 r1 => k ⟨.tup [.agg (eCc r0), (tL r1)], [], []⟩) = run2 U cp (callP cp n) n fn_cubic_moved [.agg (eCc p0), (tL p1), .clo 65 []] [] k := by kernel_rfl
/-! tideway/cubic.Loss -/
theorem run_cubic_Loss {R : Type} (cp : Nat → Nat → Bool) (n : Nat) (p0 : SCc) (p1 : Int) (k : Ret2 RW → Option R) : G_cubic_Loss cp (n + 1) p0 p1 (fun r0 r1 => k ⟨.tup [.agg (eCc r0), (tL r1)], [], []⟩) = run2 U cp (callP cp n) n fn_cubic_Loss [.agg (eCc p0), (tL p1)] [] k := by kernel_rfl
/-! tideway/cc.Loss -/
theorem run_cc_Loss {R : Type} (cp : Nat → Nat → Bool) (n : Nat) (p0 : SCc) (p1 : Int) (k : Ret2 RW → Option R) : G_cc_Loss cp (n + 1) p0 p1 (fun r0 r1 => k ⟨.tup [.agg (eCc r0), (tL r1)], [], []⟩) = run2 U cp (callP cp n) n fn_cc_Loss [.agg (eCc p0), (tL p1)] [] k := by kernel_rfl
/-! tideway/reno.Timeout -/
theorem run_reno_Timeout {R : Type} (cp : Nat → Nat → Bool) (n : Nat) (p0 : SCc) (p1 : Int) (k : Ret2 RW → Option R) : G_reno_Timeout cp (n + 1) p0 p1 (fun r0 r1 => k ⟨.tup [.agg (eCc r0), (tL r1)], [], []⟩) = run2 U cp (callP cp n) n fn_reno_Timeout [.agg (eCc p0), (tL p1)] [] k := by kernel_rfl
/-! (*tideway/cubic.ctl).shut -/
theorem run_cubic_ctl_shut {R : Type} (cp : Nat → Nat → Bool) (n : Nat) (q0 : ST85) (k : Ret2 RW → Option R) : G_cubic_ctl_shut cp (n + 1) q0 (fun r0 => k ⟨.tup [], [(eT85 r0)], []⟩) = run2 U cp (callP cp n) n fn_cubic_ctl_shut [.ptr 13 0] [(eT85 q0)] k := by kernel_rfl
/-! tideway/cubic.moved -/
theorem run_cubic_moved_b {R : Type} (cp : Nat → Nat → Bool) (n : Nat) (p0 : SCc) (p1 : Int) (k : Ret2 RW → Option R) : G_cubic_moved_b cp (n + 1) p0 p1 (fun r0 r1 => k ⟨.tup [.agg (eCc r0), (tL r1)], [], []⟩) = run2 U cp (callP cp n) n fn_cubic_moved_b [.agg (eCc p0), (tL p1), .clo 66 []] [] k := by kernel_rfl
/-! tideway/cubic.Timeout -/
theorem run_cubic_Timeout {R : Type} (cp : Nat → Nat → Bool) (n : Nat) (p0 : SCc) (p1 : Int) (k : Ret2 RW → Option R) : G_cubic_Timeout cp (n + 1) p0 p1 (fun r0 r1 => k ⟨.tup [.agg (eCc r0), (tL r1)], [], []⟩) = run2 U cp (callP cp n) n fn_cubic_Timeout [.agg (eCc p0), (tL p1)] [] k := by kernel_rfl
/-! tideway/bbr.Timeout -/
theorem run_bbr_Timeout {R : Type} (cp : Nat → Nat → Bool) (n : Nat) (p0 : SCc) (p1 : Int) (k : Ret2 RW → Option R) : G_bbr_Timeout cp (n + 1) p0 p1 (fun r0 r1 => k ⟨.tup [.agg (eCc r0), (tL r1)], [], []⟩) = run2 U cp (callP cp n) n fn_bbr_Timeout [.agg (eCc p0), (tL p1)] [] k := by kernel_rfl
/-! tideway/cc.Timeout -/
theorem run_cc_Timeout {R : Type} (cp : Nat → Nat → Bool) (n : Nat) (p0 : SCc) (p1 : Int) (k : Ret2 RW → Option R) : G_cc_Timeout cp (n + 1) p0 p1 (fun r0 r1 => k ⟨.tup [.agg (eCc r0), (tL r1)], [], []⟩) = run2 U cp (callP cp n) n fn_cc_Timeout [.agg (eCc p0), (tL p1)] [] k := by kernel_rfl
/-! tideway/cc.Done -/
theorem run_cc_Done {R : Type} (cp : Nat → Nat → Bool) (n : Nat) (p0 : SCc) (k : Ret2 RW → Option R) : G_cc_Done cp (n + 1) p0 (fun r0 r1 => k ⟨.tup [.agg (eCc r0), (tL r1)], [], []⟩) = run2 U cp (callP cp n) n fn_cc_Done [.agg (eCc p0)] [] k := by kernel_rfl
/-! tideway/cc.Limit -/
theorem run_cc_Limit {R : Type} (cp : Nat → Nat → Bool) (n : Nat) (p0 : SCc) (p1 : Int) (k : Ret2 RW → Option R) : G_cc_Limit cp (n + 1) p0 p1 (fun r0 r1 => k ⟨.tup [.agg (eCc r0), (tL r1)], [], []⟩) = run2 U cp (callP cp n) n fn_cc_Limit [.agg (eCc p0), (tL p1)] [] k := by kernel_rfl
/-! (*tideway/bbr.ctl).round -/
theorem run_bbr_ctl_round {R : Type} (cp : Nat → Nat → Bool) (n : Nat) (p1 : SSample) (q0 : ST68) (k : Ret2 RW → Option R) : G_bbr_ctl_round cp (n + 1) p1 q0 (fun r0 r1 => k ⟨(tB r0), [(eT68 r1)], []⟩) = run2 U cp (callP cp n) n fn_bbr_ctl_round [.ptr 30 0, .agg (eSample p1)] [(eT68 q0)] k := by kernel_rfl
/-! tideway/filter.Put -/
def fr_filter_Put_2 (p0 : (List SEntry)) (p1 p2 p3 : Int) (p4 : Bool) (v93 : Int) : FF := [(.row false (.rEntry p0)) :: (tL p1) :: (tL p2) :: (tL p3) :: (tB p4) :: (dT 7 ((.ptr 91 0) :: (tL 0) :: (tL v93) :: (dT 1 []))), dc, dc, dc, dc, dT 11 ((.hdr 2) :: (tL p1) :: (tL p2) :: (dT 2 []))]
def fr_filter_Put_3 : FF := [dT 10 ((.row false (.rEntry [])) :: (tL 2) :: (dT 4 [])), dc, dc, dc, dc, dc]
def fr_filter_Put_5 (p0 : (List SEntry)) (p1 p2 p3 : Int) (p4 : Bool) (v93 v95 : Int) : FF := [(.row false (.rEntry p0)) :: (tL p1) :: (tL p2) :: (tL p3) :: (tB p4) :: (dT 7 ((.ptr 91 0) :: (tL v95) :: (tL v93) :: (dT 1 []))), dc, dc, dc, dc, dT 11 ((.hdr 2) :: (tL p1) :: (tL p2) :: (dT 2 []))]
def fr_filter_Put_6 (p0 : (List SEntry)) (p1 p2 : Int) (p4 : Bool) (v93 v94 : Int) : FF := [(.row false (.rEntry p0)) :: (dT 1 ((tL p2) :: (dT 1 ((tB p4) :: (dT 7 ((.ptr 91 0) :: (tL v94) :: (tL v93) :: (dT 1 []))))))), dc, dc, dc, dc, dT 11 ((.hdr 2) :: (tL p1) :: (tL p2) :: (dT 2 []))]
def fr_filter_Put_7 (p0 : (List SEntry)) (p1 p2 p3 : Int) (p4 : Bool) (v93 v94 : Int) : FF := [(.row false (.rEntry p0)) :: (tL p1) :: (tL p2) :: (tL p3) :: (tB p4) :: (dT 7 ((.ptr 91 0) :: (tL v94) :: (tL v93) :: (dT 1 []))), dc, dc, dc, dc, dT 11 ((.hdr 2) :: (tL p1) :: (tL p2) :: (dT 2 []))]
theorem s_filter_Put_4_t {R : Type} (cp : Nat → Nat → Bool) (n : Nat) (p0 : (List SEntry)) (p1 p2 p3 : Int) (p4 : Bool) (v93 v94 : Int) (k : Ex → FF → Option R) : X cp n i_filter_Put_0 (fr_filter_Put_7 p0 p1 p2 p3 p4 v93 v94) k = s_filter_Put_4 cp n p0 p1 p2 p3 p4 v93 v94 (fun v95 => k .norm (fr_filter_Put_5 p0 p1 p2 p3 p4 v93 v95)) (k (.exit 0) (fr_filter_Put_6 p0 p1 p2 p4 v93 v94)) := by kernel_rfl
def fr_filter_Put_8 (p0 : (List SEntry)) (p1 p2 : Int) (p4 : Bool) (v93 v96 : Int) : FF := [(.row false (.rEntry p0)) :: (dT 1 ((tL p2) :: (dT 1 ((tB p4) :: (dT 7 ((.ptr 91 0) :: (tL v96) :: (tL v93) :: (dT 1 []))))))), dc, dc, dc, dc, dT 11 ((.hdr 2) :: (tL p1) :: (tL p2) :: (dT 2 []))]
theorem l_filter_Put_9_t {R : Type} (cp : Nat → Nat → Bool) (n : Nat) : ∀ (m : Nat) (p0 : (List SEntry)) (p1 p2 p3 : Int) (p4 : Bool) (v93 v94 : Int) (k : Ex → FF → Option R), loopN2 (X cp n i_filter_Put_0) m (fr_filter_Put_7 p0 p1 p2 p3 p4 v93 v94) k = l_filter_Put_9 cp n m p0 p1 p2 p3 p4 v93 v94 (fun v96 => k (.exit 0) (fr_filter_Put_8 p0 p1 p2 p4 v93 v96))
  | 0, _, _, _, _, _, _, _, _ => rfl
  | m + 1, p0, p1, p2, p3, p4, v93, v94, k => (loopN2_succ (X cp n i_filter_Put_0) m (fr_filter_Put_7 p0 p1 p2 p3 p4 v93 v94) k).trans ((s_filter_Put_4_t cp n p0 p1 p2 p3 p4 v93 v94 (loopT (X cp n i_filter_Put_0) m k)).trans ((show s_filter_Put_4 cp n p0 p1 p2 p3 p4 v93 v94 (fun v95 => loopT (X cp n i_filter_Put_0) m k .norm (fr_filter_Put_5 p0 p1 p2 p3 p4 v93 v95)) (loopT (X cp n i_filter_Put_0) m k (.exit 0) (fr_filter_Put_6 p0 p1 p2 p4 v93 v94)) = s_filter_Put_4 cp n p0 p1 p2 p3 p4 v93 v94 (fun v95 => loopN2 (X cp n i_filter_Put_0) m (fr_filter_Put_7 p0 p1 p2 p3 p4 v93 v95) k) (k (.exit 0) (fr_filter_Put_8 p0 p1 p2 p4 v93 v94)) from by kernel_rfl).trans (congrArg (fun q => s_filter_Put_4 cp n p0 p1 p2 p3 p4 v93 v94 q (k (.exit 0) (fr_filter_Put_8 p0 p1 p2 p4 v93 v94))) (funext fun v95 => l_filter_Put_9_t cp n m p0 p1 p2 p3 p4 v93 v95 k))))
theorem s_filter_Put_10_t {R : Type} (cp : Nat → Nat → Bool) (n : Nat) (p0 : (List SEntry)) (p1 p2 p3 : Int) (p4 : Bool) (v93 : Int) (k : Ex → FF → Option R) : X cp n i_filter_Put_1 (fr_filter_Put_2 p0 p1 p2 p3 p4 v93) k = s_filter_Put_10 cp n p0 p1 p2 p3 p4 v93 (fun v96 => k (.exit 0) (fr_filter_Put_8 p0 p1 p2 p4 v93 v96)) := (show X cp n i_filter_Put_1 (fr_filter_Put_2 p0 p1 p2 p3 p4 v93) k = loopN2 (X cp n i_filter_Put_0) n (fr_filter_Put_7 p0 p1 p2 p3 p4 v93 0) k from by kernel_rfl).trans (l_filter_Put_9_t cp n n p0 p1 p2 p3 p4 v93 0 k)
def fr_filter_Put_11 (p0 : (List SEntry)) (p1 p2 : Int) (p4 : Bool) (v93 v97 : Int) : FF := [(.row false (.rEntry p0)) :: (dT 1 ((tL p2) :: (dT 1 ((tB p4) :: (dT 7 ((.ptr 91 0) :: (tL v97) :: (tL v93) :: (dT 1 []))))))), dc, dc, dc, dc, dT 11 ((.hdr 2) :: (tL p1) :: (tL p2) :: (dT 2 []))]
theorem s_filter_Put_12_t {R : Type} (cp : Nat → Nat → Bool) (n : Nat) (p0 : (List SEntry)) (p1 p2 p3 : Int) (p4 : Bool) (v93 : Int) (k : Ex → FF → Option R) : X cp n i_filter_Put_2 (fr_filter_Put_2 p0 p1 p2 p3 p4 v93) k = s_filter_Put_12 cp n p0 p1 p2 p3 p4 v93 (fun v97 => k .norm (fr_filter_Put_11 p0 p1 p2 p4 v93 v97)) := (show X cp n i_filter_Put_2 (fr_filter_Put_2 p0 p1 p2 p3 p4 v93) k = X cp n i_filter_Put_1 (fr_filter_Put_2 p0 p1 p2 p3 p4 v93) (blkT 0 k) from by kernel_rfl).trans ((s_filter_Put_10_t cp n p0 p1 p2 p3 p4 v93 (blkT 0 k)).trans (by kernel_rfl))
def fr_filter_Put_14 (p0 : (List SEntry)) (p1 p2 : Int) (p4 : Bool) (v97 v100 : Int) : FF := [(.row false (.rEntry p0)) :: (dT 1 ((tL p2) :: (dT 1 ((tB p4) :: (dT 7 ((.ptr 91 0) :: (tL v97) :: (tL v100) :: (dT 1 []))))))), dc, dc, dc, dc, dT 11 ((.hdr 2) :: (tL p1) :: (tL p2) :: (dT 2 []))]
def fr_filter_Put_15 (p0 : (List SEntry)) (p1 p2 v97 v98 : Int) : FF := [(.row false (.rEntry p0)) :: (dT 11 ((.ptr 91 0) :: (tL v97) :: (tL v98) :: (dT 1 []))), dc, dc, dc, dc, dT 11 ((.hdr 2) :: (tL p1) :: (tL p2) :: (dT 2 []))]
def fr_filter_Put_16 (p0 : (List SEntry)) (p1 p2 : Int) (p4 : Bool) (v97 v98 : Int) : FF := [(.row false (.rEntry p0)) :: (dT 1 ((tL p2) :: (dT 1 ((tB p4) :: (dT 7 ((.ptr 91 0) :: (tL v97) :: (tL v98) :: (dT 1 []))))))), dc, dc, dc, dc, dT 11 ((.hdr 2) :: (tL p1) :: (tL p2) :: (dT 2 []))]
theorem s_filter_Put_13_t {R : Type} (cp : Nat → Nat → Bool) (n : Nat) (p0 : (List SEntry)) (p1 p2 : Int) (p4 : Bool) (v97 v98 : Int) (k : Ex → FF → Option R) : X cp n i_filter_Put_3 (fr_filter_Put_16 p0 p1 p2 p4 v97 v98) k = s_filter_Put_13 cp n p0 p1 p2 p4 v97 v98 (fun v100 => k .norm (fr_filter_Put_14 p0 p1 p2 p4 v97 v100)) (k (.exit 2) (fr_filter_Put_15 p0 p1 p2 v97 v98)) := by kernel_rfl
def fr_filter_Put_17 (p0 : (List SEntry)) (p1 p2 v97 v101 : Int) : FF := [(.row false (.rEntry p0)) :: (dT 11 ((.ptr 91 0) :: (tL v97) :: (tL v101) :: (dT 1 []))), dc, dc, dc, dc, dT 11 ((.hdr 2) :: (tL p1) :: (tL p2) :: (dT 2 []))]
theorem l_filter_Put_18_t {R : Type} (cp : Nat → Nat → Bool) (n : Nat) : ∀ (m : Nat) (p0 : (List SEntry)) (p1 p2 : Int) (p4 : Bool) (v97 v98 : Int) (k : Ex → FF → Option R), loopN2 (X cp n i_filter_Put_3) m (fr_filter_Put_16 p0 p1 p2 p4 v97 v98) k = l_filter_Put_18 cp n m p0 p1 p2 p4 v97 v98 (fun v101 => k (.exit 2) (fr_filter_Put_17 p0 p1 p2 v97 v101))
  | 0, _, _, _, _, _, _, _ => rfl
  | m + 1, p0, p1, p2, p4, v97, v98, k => (loopN2_succ (X cp n i_filter_Put_3) m (fr_filter_Put_16 p0 p1 p2 p4 v97 v98) k).trans ((s_filter_Put_13_t cp n p0 p1 p2 p4 v97 v98 (loopT (X cp n i_filter_Put_3) m k)).trans ((show s_filter_Put_13 cp n p0 p1 p2 p4 v97 v98 (fun v100 => loopT (X cp n i_filter_Put_3) m k .norm (fr_filter_Put_14 p0 p1 p2 p4 v97 v100)) (loopT (X cp n i_filter_Put_3) m k (.exit 2) (fr_filter_Put_15 p0 p1 p2 v97 v98)) = s_filter_Put_13 cp n p0 p1 p2 p4 v97 v98 (fun v100 => loopN2 (X cp n i_filter_Put_3) m (fr_filter_Put_16 p0 p1 p2 p4 v97 v100) k) (k (.exit 2) (fr_filter_Put_17 p0 p1 p2 v97 v98)) from by kernel_rfl).trans (congrArg (fun q => s_filter_Put_13 cp n p0 p1 p2 p4 v97 v98 q (k (.exit 2) (fr_filter_Put_17 p0 p1 p2 v97 v98))) (funext fun v100 => l_filter_Put_18_t cp n m p0 p1 p2 p4 v97 v100 k))))
theorem s_filter_Put_19_t {R : Type} (cp : Nat → Nat → Bool) (n : Nat) (p0 : (List SEntry)) (p1 p2 : Int) (p4 : Bool) (v93 v97 : Int) (k : Ex → FF → Option R) : X cp n i_filter_Put_4 (fr_filter_Put_11 p0 p1 p2 p4 v93 v97) k = s_filter_Put_19 cp n p0 p1 p2 p4 v93 v97 (fun v101 => k (.exit 2) (fr_filter_Put_17 p0 p1 p2 v97 v101)) := (show X cp n i_filter_Put_4 (fr_filter_Put_11 p0 p1 p2 p4 v93 v97) k = loopN2 (X cp n i_filter_Put_3) n (fr_filter_Put_16 p0 p1 p2 p4 v97 v93) k from by kernel_rfl).trans (l_filter_Put_18_t cp n n p0 p1 p2 p4 v97 v93 k)
def fr_filter_Put_20 (p0 : (List SEntry)) (p1 p2 v97 v102 : Int) : FF := [(.row false (.rEntry p0)) :: (dT 11 ((.ptr 91 0) :: (tL v97) :: (tL v102) :: (dT 1 []))), dc, dc, dc, dc, dT 11 ((.hdr 2) :: (tL p1) :: (tL p2) :: (dT 2 []))]
theorem s_filter_Put_21_t {R : Type} (cp : Nat → Nat → Bool) (n : Nat) (p0 : (List SEntry)) (p1 p2 : Int) (p4 : Bool) (v93 v97 : Int) (k : Ex → FF → Option R) : X cp n i_filter_Put_5 (fr_filter_Put_11 p0 p1 p2 p4 v93 v97) k = s_filter_Put_21 cp n p0 p1 p2 p4 v93 v97 (fun v102 => k .norm (fr_filter_Put_20 p0 p1 p2 v97 v102)) := (show X cp n i_filter_Put_5 (fr_filter_Put_11 p0 p1 p2 p4 v93 v97) k = X cp n i_filter_Put_4 (fr_filter_Put_11 p0 p1 p2 p4 v93 v97) (blkT 2 k) from by kernel_rfl).trans ((s_filter_Put_19_t cp n p0 p1 p2 p4 v93 v97 (blkT 2 k)).trans (by kernel_rfl))
def fr_filter_Put_23 (v103 : (List SEntry)) : FF := [dT 10 ((.row false (.rEntry v103)) :: (tL 0) :: (dT 4 [])), dc, dc, dc, dc, dc]
theorem s_filter_Put_22_t {R : Type} (cp : Nat → Nat → Bool) (n : Nat) (p0 : (List SEntry)) (p1 p2 v97 v102 : Int) (k : Ex → FF → Option R) : X cp n i_filter_Put_6 (fr_filter_Put_20 p0 p1 p2 v97 v102) k = s_filter_Put_22 cp n p0 p1 p2 v97 v102 (fun v103 => k .ret (fr_filter_Put_23 v103)) := by kernel_rfl
def fr_filter_Put_24 (v104 : (List SEntry)) : FF := [dT 10 ((.row false (.rEntry v104)) :: (tL 0) :: (dT 4 [])), dc, dc, dc, dc, dc]
theorem s_filter_Put_25_t {R : Type} (cp : Nat → Nat → Bool) (n : Nat) (p0 : (List SEntry)) (p1 p2 : Int) (p4 : Bool) (v93 v97 : Int) (k : Ex → FF → Option R) : X cp n i_filter_Put_7 (fr_filter_Put_11 p0 p1 p2 p4 v93 v97) k = s_filter_Put_25 cp n p0 p1 p2 p4 v93 v97 (fun v104 => k .ret (fr_filter_Put_24 v104)) := (show X cp n i_filter_Put_7 (fr_filter_Put_11 p0 p1 p2 p4 v93 v97) k = X cp n i_filter_Put_5 (fr_filter_Put_11 p0 p1 p2 p4 v93 v97) (seqT (X cp n) i_filter_Put_6 k) from by kernel_rfl).trans ((show X cp n i_filter_Put_5 (fr_filter_Put_11 p0 p1 p2 p4 v93 v97) (seqT (X cp n) i_filter_Put_6 k) = s_filter_Put_21 cp n p0 p1 p2 p4 v93 v97 (fun v102 => X cp n i_filter_Put_6 (fr_filter_Put_20 p0 p1 p2 v97 v102) k) from (s_filter_Put_21_t cp n p0 p1 p2 p4 v93 v97 (seqT (X cp n) i_filter_Put_6 k)).trans (by kernel_rfl)).trans (congrArg (fun q => s_filter_Put_21 cp n p0 p1 p2 p4 v93 v97 q) (funext fun v102 => (s_filter_Put_22_t cp n p0 p1 p2 v97 v102 k).trans (show s_filter_Put_22 cp n p0 p1 p2 v97 v102 (fun v103 => k .ret (fr_filter_Put_23 v103)) = s_filter_Put_22 cp n p0 p1 p2 v97 v102 (fun v103 => k .ret (fr_filter_Put_24 v103)) from by kernel_rfl))))
def fr_filter_Put_26 (v105 : (List SEntry)) : FF := [dT 10 ((.row false (.rEntry v105)) :: (tL 0) :: (dT 4 [])), dc, dc, dc, dc, dc]
theorem s_filter_Put_27_t {R : Type} (cp : Nat → Nat → Bool) (n : Nat) (p0 : (List SEntry)) (p1 p2 p3 : Int) (p4 : Bool) (v93 : Int) (k : Ex → FF → Option R) : X cp n i_filter_Put_8 (fr_filter_Put_2 p0 p1 p2 p3 p4 v93) k = s_filter_Put_27 cp n p0 p1 p2 p3 p4 v93 (fun v105 => k .ret (fr_filter_Put_26 v105)) := (show X cp n i_filter_Put_8 (fr_filter_Put_2 p0 p1 p2 p3 p4 v93) k = X cp n i_filter_Put_2 (fr_filter_Put_2 p0 p1 p2 p3 p4 v93) (seqT (X cp n) i_filter_Put_7 k) from by kernel_rfl).trans ((show X cp n i_filter_Put_2 (fr_filter_Put_2 p0 p1 p2 p3 p4 v93) (seqT (X cp n) i_filter_Put_7 k) = s_filter_Put_12 cp n p0 p1 p2 p3 p4 v93 (fun v97 => X cp n i_filter_Put_7 (fr_filter_Put_11 p0 p1 p2 p4 v93 v97) k) from (s_filter_Put_12_t cp n p0 p1 p2 p3 p4 v93 (seqT (X cp n) i_filter_Put_7 k)).trans (by kernel_rfl)).trans (congrArg (fun q => s_filter_Put_12 cp n p0 p1 p2 p3 p4 v93 q) (funext fun v97 => (s_filter_Put_25_t cp n p0 p1 p2 p4 v93 v97 k).trans (show s_filter_Put_25 cp n p0 p1 p2 p4 v93 v97 (fun v104 => k .ret (fr_filter_Put_24 v104)) = s_filter_Put_25 cp n p0 p1 p2 p4 v93 v97 (fun v104 => k .ret (fr_filter_Put_26 v104)) from by kernel_rfl))))
def fr_filter_Put_28 (v106 : (List SEntry)) (v107 : Int) : FF := [dT 10 ((.row false (.rEntry v106)) :: (tL v107) :: (dT 4 [])), dc, dc, dc, dc, dc]
def fr_filter_Put_30 (p0 : (List SEntry)) (p1 p2 p3 : Int) (p4 : Bool) : FF := [(.row false (.rEntry p0)) :: (tL p1) :: (tL p2) :: (tL p3) :: (tB p4) :: (dT 11 []), dc, dc, dc, dc, dc]
theorem s_filter_Put_29_t {R : Type} (cp : Nat → Nat → Bool) (n : Nat) (p0 : (List SEntry)) (p1 p2 p3 : Int) (p4 : Bool) (k : Ex → FF → Option R) : X cp n i_filter_Put_9 (fr_filter_Put_30 p0 p1 p2 p3 p4) k = s_filter_Put_29 cp n p0 p1 p2 p3 p4 (fun v106 v107 => k .ret (fr_filter_Put_28 v106 v107)) := ((fun c => (show X cp n (.seq (.fin (.reg g_filter_Put_0) [10, 11] []) (.seq (.fin (.reg g_filter_Put_1) [15, 16, 17] []) (.seq (.seq (.fin (.reg g_filter_Put_2) [18, 19, 20, 21, 22, 23, 24, 25, 26, 27, 28, 29, 30, 31, 32, 33, 34, 35, 36, 37, 38, 39, 40, 41, 42, 43, 44, 45, 46, 47] []) (.fin (.cond (.s 48) (.seq (.fin (.reg g_filter_Put_3) [0, 1, 2, 3, 4, 12, 48] [(91, 2)]) (.ret)) (.skip)) [48] [])) (.seq (.fin (.reg g_filter_Put_4) [49, 50] []) c)))) (fr_filter_Put_30 p0 p1 p2 p3 p4) k = s_filter_Put_1 cp n p0 p1 p2 p3 p4 (fun v93 => X cp n c (fr_filter_Put_2 p0 p1 p2 p3 p4 v93) k) (k .ret (fr_filter_Put_28 [] 2)) from by kernel_rfl)) i_filter_Put_8).trans (congrArg (fun q => s_filter_Put_1 cp n p0 p1 p2 p3 p4 q (k .ret (fr_filter_Put_28 [] 2))) (funext fun v93 => (s_filter_Put_27_t cp n p0 p1 p2 p3 p4 v93 k).trans (show s_filter_Put_27 cp n p0 p1 p2 p3 p4 v93 (fun v105 => k .ret (fr_filter_Put_26 v105)) = s_filter_Put_27 cp n p0 p1 p2 p3 p4 v93 (fun v105 => k .ret (fr_filter_Put_28 v105 0)) from by kernel_rfl)))
theorem run_filter_Put {R : Type} (cp : Nat → Nat → Bool) (n : Nat) (p0 : (List SEntry)) (p1 p2 p3 : Int) (p4 : Bool) (k : Ret2 RW → Option R) : G_filter_Put cp (n + 1) p0 p1 p2 p3 p4 (fun r0 r1 => k ⟨.tup [.row false (.rEntry r0), (tL r1)], [], []⟩) = run2 U cp (callP cp n) n fn_filter_Put [.row false (.rEntry p0), (tL p1), (tL p2), (tL p3), (tB p4)] [] k := ((X_run (f := fn_filter_Put) (av := [.row false (.rEntry p0), (tL p1), (tL p2), (tL p3), (tB p4)]) (cells := []) (code := i_filter_Put_9) (fr := (fr_filter_Put_30 p0 p1 p2 p3 p4)) (k := k) (by kernel_rfl) (fun K => by kernel_rfl)).trans ((s_filter_Put_29_t cp n p0 p1 p2 p3 p4 (finK2 fn_filter_Put k)).trans (by kernel_rfl))).symm
/-! (*tideway/bbr.ctl).speed -/
def fr_bbr_ctl_speed_2 (q0 : ST68) (v89 : Int) : FF := [(.ptr 74 0) :: (dT 3 ((tL v89) :: (.row false (.rEntry q0.xCc_Bw)) :: (dT 10 []))), dc, dc, dc, dT 10 ((.hdr 22) :: (sl 0 5 (eT68 q0))), sl 5 16 (eT68 q0), sl 21 1 (eT68 q0) ++ (dT 15 [])]
def fr_bbr_ctl_speed_3 (q0 : ST68) : FF := [dc, dc, dc, dc, dT 10 ((.hdr 22) :: (sl 0 5 (eT68 q0))), sl 5 16 (eT68 q0), sl 21 1 (eT68 q0) ++ (dT 15 [])]
def fr_bbr_ctl_speed_5 (q0 : ST68) (v96 : (List SEntry)) : FF := [dc, dc, dc, dc, dT 10 ([.hdr 22, (tL q0.xCc_Kind), (tL q0.xCc_Mss), (tL q0.xCc_Cwnd), (tL q0.xCc_Ssthresh), (tL q0.xCc_Acc)]), [(tL q0.xCc_Wmax), (tL q0.xCc_Epoch), (tL q0.xCc_K), (tL q0.xCc_West), (tL q0.xCc_Start), (tL q0.xCc_Mode), .row false (.rEntry v96), (tL q0.xCc_MinRtt), (tL q0.xCc_MinAt), (tL q0.xCc_Round), (tL q0.xCc_NextAt), (tL q0.xCc_Full), (tL q0.xCc_FullN), (tL q0.xCc_Phase), (tL q0.xCc_PhaseAt), (tL q0.xCc_DoneAt)], (tL q0.xCc_Prior) :: (dT 15 [])]
theorem s_bbr_ctl_speed_4_t {R : Type} (cp : Nat → Nat → Bool) (n : Nat) (q0 : ST68) (v89 : Int) (k : Ex → FF → Option R) : X cp n i_bbr_ctl_speed_0 (fr_bbr_ctl_speed_2 q0 v89) k = s_bbr_ctl_speed_4 cp n q0 v89 (fun v96 => k .norm (fr_bbr_ctl_speed_5 q0 v96)) := by kernel_rfl
def fr_bbr_ctl_speed_6 (q0 : ST68) (v97 : (List SEntry)) : FF := [dc, dc, dc, dc, dT 10 ([.hdr 22, (tL q0.xCc_Kind), (tL q0.xCc_Mss), (tL q0.xCc_Cwnd), (tL q0.xCc_Ssthresh), (tL q0.xCc_Acc)]), [(tL q0.xCc_Wmax), (tL q0.xCc_Epoch), (tL q0.xCc_K), (tL q0.xCc_West), (tL q0.xCc_Start), (tL q0.xCc_Mode), .row false (.rEntry v97), (tL q0.xCc_MinRtt), (tL q0.xCc_MinAt), (tL q0.xCc_Round), (tL q0.xCc_NextAt), (tL q0.xCc_Full), (tL q0.xCc_FullN), (tL q0.xCc_Phase), (tL q0.xCc_PhaseAt), (tL q0.xCc_DoneAt)], (tL q0.xCc_Prior) :: (dT 15 [])]
def fr_bbr_ctl_speed_8 (p1 : SSample) (q0 : ST68) : FF := [(.ptr 74 0) :: (.agg (eSample p1)) :: (dT 14 []), dc, dc, dc, dT 10 ((.hdr 22) :: (sl 0 5 (eT68 q0))), sl 5 16 (eT68 q0), sl 21 1 (eT68 q0) ++ (dT 15 [])]
theorem s_bbr_ctl_speed_7_t {R : Type} (cp : Nat → Nat → Bool) (n : Nat) (p1 : SSample) (q0 : ST68) (k : Ex → FF → Option R) : X cp n i_bbr_ctl_speed_1 (fr_bbr_ctl_speed_8 p1 q0) k = s_bbr_ctl_speed_7 cp n p1 q0 (fun v97 => k .norm (fr_bbr_ctl_speed_6 q0 v97)) (k .ret (fr_bbr_ctl_speed_3 q0)) := ((fun c => (show X cp n (.seq (.fin (.reg g_bbr_ctl_speed_0) [1] []) (.seq (.fin (.reg g_bbr_ctl_speed_1) [7, 8, 9] []) (.seq (.seq (.fin (.reg g_bbr_ctl_speed_2) [3, 10, 11, 12, 13, 14, 15, 16, 17, 18, 19, 20] [(97, 8)]) (.fin (.cond (.s 21) (.clr [0, 4, 21] [] (.ret)) (.skip)) [21] [])) (.seq (.fin (.reg g_bbr_ctl_speed_3) [22, 23, 24, 25, 26] []) c)))) (fr_bbr_ctl_speed_8 p1 q0) k = s_bbr_ctl_speed_1 cp n p1 q0 (fun v89 => X cp n c (fr_bbr_ctl_speed_2 q0 v89) k) (k .ret (fr_bbr_ctl_speed_3 q0)) from by kernel_rfl)) i_bbr_ctl_speed_0).trans (congrArg (fun q => s_bbr_ctl_speed_1 cp n p1 q0 q (k .ret (fr_bbr_ctl_speed_3 q0))) (funext fun v89 => (s_bbr_ctl_speed_4_t cp n q0 v89 k).trans (show s_bbr_ctl_speed_4 cp n q0 v89 (fun v96 => k .norm (fr_bbr_ctl_speed_5 q0 v96)) = s_bbr_ctl_speed_4 cp n q0 v89 (fun v96 => k .norm (fr_bbr_ctl_speed_6 q0 v96)) from by kernel_rfl)))
theorem run_bbr_ctl_speed {R : Type} (cp : Nat → Nat → Bool) (n : Nat) (p1 : SSample) (q0 : ST68) (k : Ret2 RW → Option R) : G_bbr_ctl_speed cp (n + 1) p1 q0 (fun r0 => k ⟨.tup [], [(eT68 r0)], []⟩) = run2 U cp (callP cp n) n fn_bbr_ctl_speed [.ptr 74 0, .agg (eSample p1)] [(eT68 q0)] k := ((X_run (f := fn_bbr_ctl_speed) (av := [.ptr 74 0, .agg (eSample p1)]) (cells := [(eT68 q0)]) (code := i_bbr_ctl_speed_1) (fr := (fr_bbr_ctl_speed_8 p1 q0)) (k := k) (by kernel_rfl) (fun K => by kernel_rfl)).trans ((s_bbr_ctl_speed_7_t cp n p1 q0 (finK2 fn_bbr_ctl_speed k)).trans (by kernel_rfl))).symm
/-! (*tideway/bbr.ctl).shortest -/
theorem run_bbr_ctl_shortest {R : Type} (cp : Nat → Nat → Bool) (n : Nat) (p1 : SSample) (q0 : ST68) (k : Ret2 RW → Option R) : G_bbr_ctl_shortest cp (n + 1) p1 q0 (fun r0 r1 => k ⟨(tB r0), [(eT68 r1)], []⟩) = run2 U cp (callP cp n) n fn_bbr_ctl_shortest [.ptr 60 0, .agg (eSample p1)] [(eT68 q0)] k := by kernel_rfl
/-! (*tideway/bbr.ctl).full -/
theorem run_bbr_ctl_full {R : Type} (cp : Nat → Nat → Bool) (n : Nat) (q0 : ST68) (k : Ret2 RW → Option R) : G_bbr_ctl_full cp (n + 1) q0 (fun r0 => k ⟨.tup [], [(eT68 r0)], []⟩) = run2 U cp (callP cp n) n fn_bbr_ctl_full [.ptr 48 0] [(eT68 q0)] k := by kernel_rfl
/-! (*tideway/bbr.ctl).product -/
theorem run_bbr_ctl_product {R : Type} (cp : Nat → Nat → Bool) (n : Nat) (q0 : ST68) (k : Ret2 RW → Option R) : G_bbr_ctl_product cp (n + 1) q0 (fun r0 r1 => k ⟨(tL r0), [(eT68 r1)], []⟩) = run2 U cp (callP cp n) n fn_bbr_ctl_product [.ptr 18 0] [(eT68 q0)] k := by kernel_rfl
/-! (*tideway/bbr.ctl).probe -/
theorem run_bbr_ctl_probe {R : Type} (cp : Nat → Nat → Bool) (n : Nat) (p1 : Int) (q0 : ST68) (k : Ret2 RW → Option R) : G_bbr_ctl_probe cp (n + 1) p1 q0 (fun r0 => k ⟨.tup [], [(eT68 r0)], []⟩) = run2 U cp (callP cp n) n fn_bbr_ctl_probe [.ptr 17 0, (tL p1)] [(eT68 q0)] k := by kernel_rfl
/-! (*tideway/bbr.ctl).cycle -/
theorem run_bbr_ctl_cycle {R : Type} (cp : Nat → Nat → Bool) (n : Nat) (p1 : SSample) (q0 : ST68) (k : Ret2 RW → Option R) : G_bbr_ctl_cycle cp (n + 1) p1 q0 (fun r0 => k ⟨.tup [], [(eT68 r0)], []⟩) = run2 U cp (callP cp n) n fn_bbr_ctl_cycle [.ptr 62 0, .agg (eSample p1)] [(eT68 q0)] k := by kernel_rfl
/-! (*tideway/bbr.ctl).ask -/
def fr_bbr_ctl_ask_2 (p1 : SSample) (p2 : Bool) (q0 : ST68) : FF := [(.ptr 122 0) :: (dT 1 ((tB p2) :: (dT 1 ((.ptr 145 0) :: (dT 11 []))))), dc, dc, dc, dc, dc, dc, dT 10 ((.hdr 22) :: (sl 0 5 (eT68 q0))), sl 5 16 (eT68 q0), sl 21 1 (eT68 q0) ++ ((.hdr 8) :: ((eSample p1) ++ (dT 6 [])))]
def fr_bbr_ctl_ask_4 (p1 : SSample) (q0 : ST68) (v109 : Bool) : FF := [(.ptr 122 0) :: (dT 3 ((.ptr 145 0) :: (dT 1 ((tB v109) :: (dT 9 []))))), dc, dc, dc, dc, dc, dc, dT 10 ((.hdr 22) :: (sl 0 5 (eT68 q0))), sl 5 16 (eT68 q0), sl 21 1 (eT68 q0) ++ ((.hdr 8) :: ((eSample p1) ++ (dT 6 [])))]
def fr_bbr_ctl_ask_6 (v112 : SCc) : FF := [dc, dc, dc, dc, dc, dc, dc, dT 10 ((.hdr 22) :: (sl 0 5 (eCc v112))), sl 5 16 (eCc v112), sl 21 1 (eCc v112) ++ (dT 15 [])]
theorem s_bbr_ctl_ask_5_t {R : Type} (cp : Nat → Nat → Bool) (n : Nat) (p1 : SSample) (q0 : ST68) (v109 : Bool) (k : Ex → FF → Option R) : X cp n i_bbr_ctl_ask_0 (fr_bbr_ctl_ask_4 p1 q0 v109) k = s_bbr_ctl_ask_5 cp n p1 q0 v109 (fun v112 => k .norm (fr_bbr_ctl_ask_6 v112)) := by kernel_rfl
def fr_bbr_ctl_ask_7 (v113 : SCc) : FF := [dc, dc, dc, dc, dc, dc, dc, dT 10 ((.hdr 22) :: (sl 0 5 (eCc v113))), sl 5 16 (eCc v113), sl 21 1 (eCc v113) ++ (dT 15 [])]
theorem s_bbr_ctl_ask_8_t {R : Type} (cp : Nat → Nat → Bool) (n : Nat) (p1 : SSample) (p2 : Bool) (q0 : ST68) (k : Ex → FF → Option R) : X cp n i_bbr_ctl_ask_1 (fr_bbr_ctl_ask_2 p1 p2 q0) k = s_bbr_ctl_ask_8 cp n p1 p2 q0 (fun v113 => k .norm (fr_bbr_ctl_ask_7 v113)) := ((fun c => (show X cp n (.seq (.fin (.reg g_bbr_ctl_ask_1) [2, 7, 8, 9, 10, 11, 12, 13, 14, 15] []) c) (fr_bbr_ctl_ask_2 p1 p2 q0) k = s_bbr_ctl_ask_3 cp n p1 p2 q0 (fun v109 => X cp n c (fr_bbr_ctl_ask_4 p1 q0 v109) k) from by kernel_rfl)) i_bbr_ctl_ask_0).trans (congrArg (fun q => s_bbr_ctl_ask_3 cp n p1 p2 q0 q) (funext fun v109 => (s_bbr_ctl_ask_5_t cp n p1 q0 v109 k).trans (show s_bbr_ctl_ask_5 cp n p1 q0 v109 (fun v112 => k .norm (fr_bbr_ctl_ask_6 v112)) = s_bbr_ctl_ask_5 cp n p1 q0 v109 (fun v112 => k .norm (fr_bbr_ctl_ask_7 v112)) from by kernel_rfl)))
def fr_bbr_ctl_ask_9 (v114 : SCc) : FF := [dc, dc, dc, dc, dc, dc, dc, dT 10 ((.hdr 22) :: (sl 0 5 (eCc v114))), sl 5 16 (eCc v114), sl 21 1 (eCc v114) ++ (dT 15 [])]
theorem s_bbr_ctl_ask_10_t {R : Type} (cp : Nat → Nat → Bool) (n : Nat) (p1 : SSample) (p2 : Bool) (q0 : ST68) (k : Ex → FF → Option R) : X cp n i_bbr_ctl_ask_2 (fr_bbr_ctl_ask_2 p1 p2 q0) k = s_bbr_ctl_ask_10 cp n p1 p2 q0 (fun v114 => k .norm (fr_bbr_ctl_ask_9 v114)) := (show X cp n i_bbr_ctl_ask_2 (fr_bbr_ctl_ask_2 p1 p2 q0) k = X cp n i_bbr_ctl_ask_1 (fr_bbr_ctl_ask_2 p1 p2 q0) (blkT 0 k) from by kernel_rfl).trans ((s_bbr_ctl_ask_8_t cp n p1 p2 q0 (blkT 0 k)).trans (by kernel_rfl))
def fr_bbr_ctl_ask_11 (v115 : SCc) : FF := [dc, dc, dc, dc, dc, dc, dc, dT 10 ((.hdr 22) :: (sl 0 5 (eCc v115))), sl 5 16 (eCc v115), sl 21 1 (eCc v115) ++ (dT 15 [])]
def fr_bbr_ctl_ask_13 (p1 : SSample) (p2 : Bool) (q0 : ST68) : FF := [(.ptr 122 0) :: (.agg (eSample p1)) :: (tB p2) :: (dT 13 []), dc, dc, dc, dc, dc, dc, dT 10 ((.hdr 22) :: (sl 0 5 (eT68 q0))), sl 5 16 (eT68 q0), sl 21 1 (eT68 q0) ++ (dT 15 [])]
theorem s_bbr_ctl_ask_12_t {R : Type} (cp : Nat → Nat → Bool) (n : Nat) (p1 : SSample) (p2 : Bool) (q0 : ST68) (k : Ex → FF → Option R) : X cp n i_bbr_ctl_ask_3 (fr_bbr_ctl_ask_13 p1 p2 q0) k = s_bbr_ctl_ask_12 cp n p1 p2 q0 (fun v115 => k .norm (fr_bbr_ctl_ask_11 v115)) := ((fun c => (show X cp n (.seq (.fin (.reg g_bbr_ctl_ask_0) [1] []) c) (fr_bbr_ctl_ask_13 p1 p2 q0) k = s_bbr_ctl_ask_1 cp n p1 p2 q0 (X cp n c (fr_bbr_ctl_ask_2 p1 p2 q0) k) from by kernel_rfl)) i_bbr_ctl_ask_2).trans (congrArg (fun q => s_bbr_ctl_ask_1 cp n p1 p2 q0 q) ((s_bbr_ctl_ask_10_t cp n p1 p2 q0 k).trans (show s_bbr_ctl_ask_10 cp n p1 p2 q0 (fun v114 => k .norm (fr_bbr_ctl_ask_9 v114)) = s_bbr_ctl_ask_10 cp n p1 p2 q0 (fun v114 => k .norm (fr_bbr_ctl_ask_11 v114)) from by kernel_rfl)))
theorem run_bbr_ctl_ask {R : Type} (cp : Nat → Nat → Bool) (n : Nat) (p1 : SSample) (p2 : Bool) (q0 : ST68) (k : Ret2 RW → Option R) : G_bbr_ctl_ask cp (n + 1) p1 p2 q0 (fun r0 => k ⟨.tup [], [(eT68 r0)], []⟩) = run2 U cp (callP cp n) n fn_bbr_ctl_ask [.ptr 122 0, .agg (eSample p1), (tB p2)] [(eT68 q0)] k := ((X_run (f := fn_bbr_ctl_ask) (av := [.ptr 122 0, .agg (eSample p1), (tB p2)]) (cells := [(eT68 q0)]) (code := i_bbr_ctl_ask_3) (fr := (fr_bbr_ctl_ask_13 p1 p2 q0)) (k := k) (by kernel_rfl) (fun K => by kernel_rfl)).trans ((s_bbr_ctl_ask_12_t cp n p1 p2 q0 (finK2 fn_bbr_ctl_ask k)).trans (by kernel_rfl))).symm
/-! tideway/seq.Clamp -/
theorem run_seq_Clamp {R : Type} (cp : Nat → Nat → Bool) (n : Nat) (p0 p1 p2 : Int) (k : Ret2 RW → Option R) : G_seq_Clamp cp (n + 1) p0 p1 p2 (fun r0 => k ⟨(tL r0), [], []⟩) = run2 U cp (callP cp n) n fn_seq_Clamp [(tL p0), (tL p1), (tL p2)] [] k := by kernel_rfl
/-! (*tideway/bbr.ctl).window -/
def fr_bbr_ctl_window_2 (p1 : SSample) (q0 : ST68) (v111 : Int) : FF := [(.ptr 73 0) :: (dT 2 ((.ptr 96 0) :: (tL v111) :: (tL q0.xCc_Cwnd) :: (dT 10 []))), dc, dc, dc, dT 9 ((.hdr 22) :: (sl 0 6 (eT68 q0))), sl 6 16 (eT68 q0), (.hdr 8) :: ((eSample p1) ++ (dT 7 []))]
def fr_bbr_ctl_window_4 (q0 : ST68) (v114 : Int) : FF := [(.ptr 73 0) :: (dT 4 ((tL v114) :: (dT 10 []))), dc, dc, dc, dT 9 ((.hdr 22) :: (sl 0 6 (eT68 q0))), sl 6 16 (eT68 q0), dc]
def fr_bbr_ctl_window_6 (q0 : ST68) (v116 : Int) : FF := [dc, dc, dc, dc, dT 9 ([.hdr 22, (tL q0.xCc_Kind), (tL q0.xCc_Mss), (tL v116), (tL q0.xCc_Ssthresh), (tL q0.xCc_Acc), (tL q0.xCc_Wmax)]), [(tL q0.xCc_Epoch), (tL q0.xCc_K), (tL q0.xCc_West), (tL q0.xCc_Start), (tL q0.xCc_Mode), .row false (.rEntry q0.xCc_Bw), (tL q0.xCc_MinRtt), (tL q0.xCc_MinAt), (tL q0.xCc_Round), (tL q0.xCc_NextAt), (tL q0.xCc_Full), (tL q0.xCc_FullN), (tL q0.xCc_Phase), (tL q0.xCc_PhaseAt), (tL q0.xCc_DoneAt), (tL q0.xCc_Prior)], dc]
theorem s_bbr_ctl_window_5_t {R : Type} (cp : Nat → Nat → Bool) (n : Nat) (q0 : ST68) (v114 : Int) (k : Ex → FF → Option R) : X cp n i_bbr_ctl_window_0 (fr_bbr_ctl_window_4 q0 v114) k = s_bbr_ctl_window_5 cp n q0 v114 (fun v116 => k .norm (fr_bbr_ctl_window_6 q0 v116)) := by kernel_rfl
def fr_bbr_ctl_window_7 (q0 : ST68) (v117 : Int) : FF := [dc, dc, dc, dc, dT 9 ([.hdr 22, (tL q0.xCc_Kind), (tL q0.xCc_Mss), (tL v117), (tL q0.xCc_Ssthresh), (tL q0.xCc_Acc), (tL q0.xCc_Wmax)]), [(tL q0.xCc_Epoch), (tL q0.xCc_K), (tL q0.xCc_West), (tL q0.xCc_Start), (tL q0.xCc_Mode), .row false (.rEntry q0.xCc_Bw), (tL q0.xCc_MinRtt), (tL q0.xCc_MinAt), (tL q0.xCc_Round), (tL q0.xCc_NextAt), (tL q0.xCc_Full), (tL q0.xCc_FullN), (tL q0.xCc_Phase), (tL q0.xCc_PhaseAt), (tL q0.xCc_DoneAt), (tL q0.xCc_Prior)], dc]
theorem s_bbr_ctl_window_8_t {R : Type} (cp : Nat → Nat → Bool) (n : Nat) (p1 : SSample) (q0 : ST68) (v111 : Int) (k : Ex → FF → Option R) : X cp n i_bbr_ctl_window_1 (fr_bbr_ctl_window_2 p1 q0 v111) k = s_bbr_ctl_window_8 cp n p1 q0 v111 (fun v117 => k .norm (fr_bbr_ctl_window_7 q0 v117)) := ((fun c => (show X cp n (.seq (.blk 0 (.seq (.fin (.reg g_bbr_ctl_window_3) [22, 23, 24, 25, 26, 27] []) (.cond (.s 21) (.fin (.reg g_bbr_ctl_window_4) [3, 4, 21, 28, 29, 30, 31, 32, 33, 34, 35] [(96, 8)]) (.seq (.fin (.reg g_bbr_ctl_window_5) [21, 37, 38, 39, 40, 41, 42] []) (.cond (.s 36) (.fin (.reg g_bbr_ctl_window_6) [3, 4, 36, 43, 44, 45, 46, 47, 48] [(96, 8)]) (.seq (.fin (.reg g_bbr_ctl_window_7) [4, 36, 50, 51, 52, 53, 54, 55, 56, 57] []) (.fin (.cond (.s 49) (.fin (.reg g_bbr_ctl_window_8) [3, 49, 58, 59, 60, 61] [(96, 8)]) (.skip)) [3, 49] [(96, 8)]))))))) c) (fr_bbr_ctl_window_2 p1 q0 v111) k = s_bbr_ctl_window_3 cp n p1 q0 v111 (fun v114 => X cp n c (fr_bbr_ctl_window_4 q0 v114) k) from by kernel_rfl)) i_bbr_ctl_window_0).trans (congrArg (fun q => s_bbr_ctl_window_3 cp n p1 q0 v111 q) (funext fun v114 => (s_bbr_ctl_window_5_t cp n q0 v114 k).trans (show s_bbr_ctl_window_5 cp n q0 v114 (fun v116 => k .norm (fr_bbr_ctl_window_6 q0 v116)) = s_bbr_ctl_window_5 cp n q0 v114 (fun v116 => k .norm (fr_bbr_ctl_window_7 q0 v116)) from by kernel_rfl)))
def fr_bbr_ctl_window_9 (q0 : ST68) (v118 : Int) : FF := [dc, dc, dc, dc, dT 9 ([.hdr 22, (tL q0.xCc_Kind), (tL q0.xCc_Mss), (tL v118), (tL q0.xCc_Ssthresh), (tL q0.xCc_Acc), (tL q0.xCc_Wmax)]), [(tL q0.xCc_Epoch), (tL q0.xCc_K), (tL q0.xCc_West), (tL q0.xCc_Start), (tL q0.xCc_Mode), .row false (.rEntry q0.xCc_Bw), (tL q0.xCc_MinRtt), (tL q0.xCc_MinAt), (tL q0.xCc_Round), (tL q0.xCc_NextAt), (tL q0.xCc_Full), (tL q0.xCc_FullN), (tL q0.xCc_Phase), (tL q0.xCc_PhaseAt), (tL q0.xCc_DoneAt), (tL q0.xCc_Prior)], dc]
def fr_bbr_ctl_window_11 (p1 : SSample) (q0 : ST68) : FF := [(.ptr 73 0) :: (.agg (eSample p1)) :: (dT 14 []), dc, dc, dc, dT 9 ((.hdr 22) :: (sl 0 6 (eT68 q0))), sl 6 16 (eT68 q0), dc]
theorem s_bbr_ctl_window_10_t {R : Type} (cp : Nat → Nat → Bool) (n : Nat) (p1 : SSample) (q0 : ST68) (k : Ex → FF → Option R) : X cp n i_bbr_ctl_window_2 (fr_bbr_ctl_window_11 p1 q0) k = s_bbr_ctl_window_10 cp n p1 q0 (fun v118 => k .norm (fr_bbr_ctl_window_9 q0 v118)) := ((fun c => (show X cp n (.seq (.fin (.reg g_bbr_ctl_window_0) [1] []) (.seq (.fin (.reg g_bbr_ctl_window_1) [6, 7, 8, 9, 10, 11, 12, 13, 14, 15] []) (.seq (.fin (.reg g_bbr_ctl_window_2) [16, 17, 18, 19, 20] []) c))) (fr_bbr_ctl_window_11 p1 q0) k = s_bbr_ctl_window_1 cp n p1 q0 (fun v111 => X cp n c (fr_bbr_ctl_window_2 p1 q0 v111) k) from by kernel_rfl)) i_bbr_ctl_window_1).trans (congrArg (fun q => s_bbr_ctl_window_1 cp n p1 q0 q) (funext fun v111 => (s_bbr_ctl_window_8_t cp n p1 q0 v111 k).trans (show s_bbr_ctl_window_8 cp n p1 q0 v111 (fun v117 => k .norm (fr_bbr_ctl_window_7 q0 v117)) = s_bbr_ctl_window_8 cp n p1 q0 v111 (fun v117 => k .norm (fr_bbr_ctl_window_9 q0 v117)) from by kernel_rfl)))
theorem run_bbr_ctl_window {R : Type} (cp : Nat → Nat → Bool) (n : Nat) (p1 : SSample) (q0 : ST68) (k : Ret2 RW → Option R) : G_bbr_ctl_window cp (n + 1) p1 q0 (fun r0 => k ⟨.tup [], [(eT68 r0)], []⟩) = run2 U cp (callP cp n) n fn_bbr_ctl_window [.ptr 73 0, .agg (eSample p1)] [(eT68 q0)] k := ((X_run (f := fn_bbr_ctl_window) (av := [.ptr 73 0, .agg (eSample p1)]) (cells := [(eT68 q0)]) (code := i_bbr_ctl_window_2) (fr := (fr_bbr_ctl_window_11 p1 q0)) (k := k) (by kernel_rfl) (fun K => by kernel_rfl)).trans ((s_bbr_ctl_window_10_t cp n p1 q0 (finK2 fn_bbr_ctl_window k)).trans (by kernel_rfl))).symm
/-! tideway/bbr.Acked -/
def fr_bbr_Acked_2 (p1 : SSample) (v146 : Bool) (v147 : SCc) : FF := [dT 3 ((.ptr 107 0) :: (.ptr 116 0) :: (dT 2 ((.ptr 139 0) :: (tB v146) :: (dT 7 [])))), dc, dc, dc, dc, dc, dT 11 ((.hdr 8) :: (sl 0 4 (eSample p1))), sl 4 4 (eSample p1) ++ [.hdr 22, (tL 0), (tL 0), (tL 0), (tL 0), (tL 0), (tL 0), (tL 0), (tL 0), (tL 0), (tL 0), (tL 0)], (.row false (.rEntry [])) :: (tL 0) :: (tL 0) :: (tL 0) :: (tL 0) :: (tL 0) :: (tL 0) :: (tL 0) :: (tL 0) :: (tL 0) :: (tL 0) :: (.hdr 22) :: (sl 0 4 (eCc v147)), sl 4 16 (eCc v147), sl 20 2 (eCc v147) ++ (dT 14 [])]
def fr_bbr_Acked_3 (v148 : Int) : FF := [dT 4 ((.ptr 116 0) :: (tL v148) :: (dT 10 [])), dc, dc, dc, dc, dc, dc, dT 4 ([.hdr 22, (tL 0), (tL 0), (tL 0), (tL 0), (tL 0), (tL 0), (tL 0), (tL 0), (tL 0), (tL 0), (tL 0)]), (.row false (.rEntry [])) :: (tL 0) :: (tL 0) :: (tL 0) :: (tL 0) :: (tL 0) :: (tL 0) :: (tL 0) :: (tL 0) :: (tL 0) :: (tL 0) :: (dT 5 []), dc, dc]
def fr_bbr_Acked_5 (p1 : SSample) (v157 : Bool) (v158 : SCc) : FF := [dT 3 ((.ptr 107 0) :: (.ptr 116 0) :: (dT 2 ((.ptr 139 0) :: (dT 1 ((tB v157) :: (dT 6 [])))))), dc, dc, dc, dc, dc, dT 11 ((.hdr 8) :: (sl 0 4 (eSample p1))), sl 4 4 (eSample p1) ++ [.hdr 22, (tL 0), (tL 0), (tL 0), (tL 0), (tL 0), (tL 0), (tL 0), (tL 0), (tL 0), (tL 0), (tL 0)], (.row false (.rEntry [])) :: (tL 0) :: (tL 0) :: (tL 0) :: (tL 0) :: (tL 0) :: (tL 0) :: (tL 0) :: (tL 0) :: (tL 0) :: (tL 0) :: (.hdr 22) :: (sl 0 4 (eCc v158)), sl 4 16 (eCc v158), sl 20 2 (eCc v158) ++ (dT 14 [])]
def fr_bbr_Acked_7 (v162 : SCc) : FF := [dT 4 ((.ptr 116 0) :: (tL 0) :: (dT 10 [])), dc, dc, dc, dc, dc, dc, dT 4 ((.hdr 22) :: (sl 0 11 (eCc v162))), sl 11 11 (eCc v162) ++ (dT 5 []), dc, dc]
theorem s_bbr_Acked_6_t {R : Type} (cp : Nat → Nat → Bool) (n : Nat) (p1 : SSample) (v157 : Bool) (v158 : SCc) (k : Ex → FF → Option R) : X cp n i_bbr_Acked_0 (fr_bbr_Acked_5 p1 v157 v158) k = s_bbr_Acked_6 cp n p1 v157 v158 (fun v162 => k .ret (fr_bbr_Acked_7 v162)) := by kernel_rfl
def fr_bbr_Acked_8 (v163 : SCc) : FF := [dT 4 ((.ptr 116 0) :: (tL 0) :: (dT 10 [])), dc, dc, dc, dc, dc, dc, dT 4 ((.hdr 22) :: (sl 0 11 (eCc v163))), sl 11 11 (eCc v163) ++ (dT 5 []), dc, dc]
theorem s_bbr_Acked_9_t {R : Type} (cp : Nat → Nat → Bool) (n : Nat) (p1 : SSample) (v146 : Bool) (v147 : SCc) (k : Ex → FF → Option R) : X cp n i_bbr_Acked_1 (fr_bbr_Acked_2 p1 v146 v147) k = s_bbr_Acked_9 cp n p1 v146 v147 (fun v163 => k .ret (fr_bbr_Acked_8 v163)) := ((fun c => (show X cp n (.seq (.fin (.reg g_bbr_Acked_8) [48, 49, 50] []) (.seq (.fin (.reg g_bbr_Acked_9) [51, 52, 53] []) (.seq (.seq (.fin (.reg g_bbr_Acked_10) [8, 54, 55, 56, 57, 58, 59, 60, 61, 62, 63, 64, 65, 66] []) (.fin (.cond (.s 67) (.fin (.reg g_bbr_Acked_11) [67, 68, 69] []) (.skip)) [67] [])) c))) (fr_bbr_Acked_2 p1 v146 v147) k = s_bbr_Acked_4 cp n p1 v146 v147 (fun v157 v158 => X cp n c (fr_bbr_Acked_5 p1 v157 v158) k) from by kernel_rfl)) i_bbr_Acked_0).trans (congrArg (fun q => s_bbr_Acked_4 cp n p1 v146 v147 q) (funext fun v157 => funext fun v158 => (s_bbr_Acked_6_t cp n p1 v157 v158 k).trans (show s_bbr_Acked_6 cp n p1 v157 v158 (fun v162 => k .ret (fr_bbr_Acked_7 v162)) = s_bbr_Acked_6 cp n p1 v157 v158 (fun v162 => k .ret (fr_bbr_Acked_8 v162)) from by kernel_rfl)))
def fr_bbr_Acked_10 (v164 : Int) (v165 : SCc) : FF := [dT 4 ((.ptr 116 0) :: (tL v164) :: (dT 10 [])), dc, dc, dc, dc, dc, dc, dT 4 ((.hdr 22) :: (sl 0 11 (eCc v165))), sl 11 11 (eCc v165) ++ (dT 5 []), dc, dc]
def fr_bbr_Acked_12 (p0 : SCc) (p1 : SSample) : FF := [(.agg (eCc p0)) :: (.agg (eSample p1)) :: (dT 14 []), dc, dc, dc, dc, dc, dc, dc, dc, dc, dc]
theorem s_bbr_Acked_11_t {R : Type} (cp : Nat → Nat → Bool) (n : Nat) (p0 : SCc) (p1 : SSample) (k : Ex → FF → Option R) : X cp n i_bbr_Acked_2 (fr_bbr_Acked_12 p0 p1) k = s_bbr_Acked_11 cp n p0 p1 (fun v164 v165 => k .ret (fr_bbr_Acked_10 v164 v165)) := ((fun c => (show X cp n (.seq (.fin (.reg g_bbr_Acked_0) [0, 1, 5] []) (.seq (.seq (.fin (.reg g_bbr_Acked_1) [10, 11] []) (.seq (.fin (.reg g_bbr_Acked_2) [12] []) (.fin (.cond (.s 13) (.seq (.fin (.reg g_bbr_Acked_3) [2, 3, 6, 13, 14, 15] [(84, 22), (107, 8)]) (.ret)) (.skip)) [6, 13] []))) (.seq (.seq (.fin (.reg g_bbr_Acked_4) [16, 17, 18, 19, 20, 21, 22, 23, 24, 25, 26, 27, 28, 29, 30, 31, 32, 33, 34, 35, 36, 37, 38, 39] []) (.fin (.cond (.s 40) (.seq (.fin (.reg g_bbr_Acked_5) [2, 3, 40, 41] [(84, 22), (107, 8)]) (.ret)) (.skip)) [40] [])) (.seq (.fin (.reg g_bbr_Acked_6) [2, 42, 43, 44] [(84, 22)]) (.seq (.fin (.reg g_bbr_Acked_7) [45, 46, 47] []) c))))) (fr_bbr_Acked_12 p0 p1) k = s_bbr_Acked_1 cp n p0 p1 (fun v146 v147 => X cp n c (fr_bbr_Acked_2 p1 v146 v147) k) (fun v148 => k .ret (fr_bbr_Acked_10 v148 (SCc.mk 0 0 0 0 0 0 0 0 0 0 0 [] 0 0 0 0 0 0 0 0 0 0))) from by kernel_rfl)) i_bbr_Acked_1).trans (congrArg (fun q => s_bbr_Acked_1 cp n p0 p1 q (fun v148 => k .ret (fr_bbr_Acked_10 v148 (SCc.mk 0 0 0 0 0 0 0 0 0 0 0 [] 0 0 0 0 0 0 0 0 0 0)))) (funext fun v146 => funext fun v147 => (s_bbr_Acked_9_t cp n p1 v146 v147 k).trans (show s_bbr_Acked_9 cp n p1 v146 v147 (fun v163 => k .ret (fr_bbr_Acked_8 v163)) = s_bbr_Acked_9 cp n p1 v146 v147 (fun v163 => k .ret (fr_bbr_Acked_10 0 v163)) from by kernel_rfl)))
theorem run_bbr_Acked {R : Type} (cp : Nat → Nat → Bool) (n : Nat) (p0 : SCc) (p1 : SSample) (k : Ret2 RW → Option R) : G_bbr_Acked cp (n + 1) p0 p1 (fun r0 r1 => k ⟨.tup [.agg (eCc r0), (tL r1)], [], []⟩) = run2 U cp (callP cp n) n fn_bbr_Acked [.agg (eCc p0), .agg (eSample p1)] [] k := ((X_run (f := fn_bbr_Acked) (av := [.agg (eCc p0), .agg (eSample p1)]) (cells := []) (code := i_bbr_Acked_2) (fr := (fr_bbr_Acked_12 p0 p1)) (k := k) (by kernel_rfl) (fun K => by kernel_rfl)).trans ((s_bbr_Acked_11_t cp n p0 p1 (finK2 fn_bbr_Acked k)).trans (by kernel_rfl))).symm
/-! (*tideway/reno.ctl).rise -/
theorem run_reno_ctl_rise {R : Type} (cp : Nat → Nat → Bool) (n : Nat) (p1 : Int) (q0 : Sctl) (k : Ret2 RW → Option R) : G_reno_ctl_rise cp (n + 1) p1 q0 (fun r0 => k ⟨.tup [], [(ectl r0)], []⟩) = run2 U cp (callP cp n) n fn_reno_ctl_rise [.ptr 16 0, (tL p1)] [(ectl q0)] k := by kernel_rfl
/-! tideway/reno.Acked -/
theorem run_reno_Acked {R : Type} (cp : Nat → Nat → Bool) (n : Nat) (p0 : SCc) (p1 : Int) (p2 : Bool) (k : Ret2 RW → Option R) : G_reno_Acked cp (n + 1) p0 p1 p2 (fun r0 r1 => k ⟨.tup [.agg (eCc r0), (tL r1)], [], []⟩) = run2 U cp (callP cp n) n fn_reno_Acked [.agg (eCc p0), (tL p1), (tB p2)] [] k := by kernel_rfl
/-! tideway/cubic.by -/
theorem run_cubic_by {R : Type} (cp : Nat → Nat → Bool) (n : Nat) (p0 p1 p2 : Int) (k : Ret2 RW → Option R) : G_cubic_by cp (n + 1) p0 p1 p2 (fun r0 => k ⟨(tL r0), [], []⟩) = run2 U cp (callP cp n) n fn_cubic_by [(tL p0), (tL p1), (tL p2)] [] k := by kernel_rfl
/-! tideway/seq.Cbrt -/
def fr_seq_Cbrt_2 (p0 : Int) : FF := [(tL p0) :: (dT 2 ((tL 0) :: (dT 12 []))), dc]
def fr_seq_Cbrt_4 (p0 : Int) : FF := [(tL p0) :: (dT 2 ((tL 0) :: (dT 2 ((tL 0) :: (dT 9 []))))), dc]
def fr_seq_Cbrt_6 (p0 v103 v104 : Int) : FF := [(tL p0) :: (dT 2 ((tL v103) :: (dT 2 ((tL v104) :: (dT 9 []))))), dc]
def fr_seq_Cbrt_7 (v101 : Int) : FF := [dT 3 ((tL v101) :: (dT 12 [])), dc]
def fr_seq_Cbrt_8 (p0 v101 v102 : Int) : FF := [(tL p0) :: (dT 2 ((tL v101) :: (dT 2 ((tL v102) :: (dT 9 []))))), dc]
theorem s_seq_Cbrt_5_t {R : Type} (cp : Nat → Nat → Bool) (n : Nat) (p0 v101 v102 : Int) (k : Ex → FF → Option R) : X cp n i_seq_Cbrt_0 (fr_seq_Cbrt_8 p0 v101 v102) k = s_seq_Cbrt_5 cp n p0 v101 v102 (fun v103 v104 => k .norm (fr_seq_Cbrt_6 p0 v103 v104)) (k (.exit 0) (fr_seq_Cbrt_7 v101)) := by kernel_rfl
def fr_seq_Cbrt_9 (v105 : Int) : FF := [dT 3 ((tL v105) :: (dT 12 [])), dc]
theorem l_seq_Cbrt_10_t {R : Type} (cp : Nat → Nat → Bool) (n : Nat) : ∀ (m : Nat) (p0 v101 v102 : Int) (k : Ex → FF → Option R), loopN2 (X cp n i_seq_Cbrt_0) m (fr_seq_Cbrt_8 p0 v101 v102) k = l_seq_Cbrt_10 cp n m p0 v101 v102 (fun v105 => k (.exit 0) (fr_seq_Cbrt_9 v105))
  | 0, _, _, _, _ => rfl
  | m + 1, p0, v101, v102, k => (loopN2_succ (X cp n i_seq_Cbrt_0) m (fr_seq_Cbrt_8 p0 v101 v102) k).trans ((s_seq_Cbrt_5_t cp n p0 v101 v102 (loopT (X cp n i_seq_Cbrt_0) m k)).trans ((show s_seq_Cbrt_5 cp n p0 v101 v102 (fun v103 v104 => loopT (X cp n i_seq_Cbrt_0) m k .norm (fr_seq_Cbrt_6 p0 v103 v104)) (loopT (X cp n i_seq_Cbrt_0) m k (.exit 0) (fr_seq_Cbrt_7 v101)) = s_seq_Cbrt_5 cp n p0 v101 v102 (fun v103 v104 => loopN2 (X cp n i_seq_Cbrt_0) m (fr_seq_Cbrt_8 p0 v103 v104) k) (k (.exit 0) (fr_seq_Cbrt_9 v101)) from by kernel_rfl).trans (congrArg (fun q => s_seq_Cbrt_5 cp n p0 v101 v102 q (k (.exit 0) (fr_seq_Cbrt_9 v101))) (funext fun v103 => funext fun v104 => l_seq_Cbrt_10_t cp n m p0 v103 v104 k))))
theorem s_seq_Cbrt_11_t {R : Type} (cp : Nat → Nat → Bool) (n : Nat) (p0 : Int) (k : Ex → FF → Option R) : X cp n i_seq_Cbrt_1 (fr_seq_Cbrt_4 p0) k = s_seq_Cbrt_11 cp n p0 (fun v105 => k (.exit 0) (fr_seq_Cbrt_9 v105)) := (show X cp n i_seq_Cbrt_1 (fr_seq_Cbrt_4 p0) k = loopN2 (X cp n i_seq_Cbrt_0) n (fr_seq_Cbrt_8 p0 0 0) k from by kernel_rfl).trans (l_seq_Cbrt_10_t cp n n p0 0 0 k)
def fr_seq_Cbrt_12 (v106 : Int) : FF := [dT 3 ((tL v106) :: (dT 12 [])), dc]
theorem s_seq_Cbrt_13_t {R : Type} (cp : Nat → Nat → Bool) (n : Nat) (p0 : Int) (k : Ex → FF → Option R) : X cp n i_seq_Cbrt_2 (fr_seq_Cbrt_4 p0) k = s_seq_Cbrt_13 cp n p0 (fun v106 => k .norm (fr_seq_Cbrt_12 v106)) := (show X cp n i_seq_Cbrt_2 (fr_seq_Cbrt_4 p0) k = X cp n i_seq_Cbrt_1 (fr_seq_Cbrt_4 p0) (blkT 0 k) from by kernel_rfl).trans ((s_seq_Cbrt_11_t cp n p0 (blkT 0 k)).trans (by kernel_rfl))
def fr_seq_Cbrt_14 (v107 : Int) : FF := [dT 3 ((tL v107) :: (dT 12 [])), dc]
theorem s_seq_Cbrt_15_t {R : Type} (cp : Nat → Nat → Bool) (n : Nat) (p0 : Int) (k : Ex → FF → Option R) : X cp n i_seq_Cbrt_3 (fr_seq_Cbrt_2 p0) k = s_seq_Cbrt_15 cp n p0 (fun v107 => k .norm (fr_seq_Cbrt_14 v107)) := ((fun c => (show X cp n (.seq (.reg g_seq_Cbrt_2) c) (fr_seq_Cbrt_2 p0) k = s_seq_Cbrt_3 cp n p0 (X cp n c (fr_seq_Cbrt_4 p0) k) from by kernel_rfl)) i_seq_Cbrt_2).trans (congrArg (fun q => s_seq_Cbrt_3 cp n p0 q) ((s_seq_Cbrt_13_t cp n p0 k).trans (show s_seq_Cbrt_13 cp n p0 (fun v106 => k .norm (fr_seq_Cbrt_12 v106)) = s_seq_Cbrt_13 cp n p0 (fun v106 => k .norm (fr_seq_Cbrt_14 v106)) from by kernel_rfl)))
def fr_seq_Cbrt_17 (v107 : Int) : FF := [dT 2 ((tL v107) :: (dT 13 [])), dc]
theorem s_seq_Cbrt_16_t {R : Type} (cp : Nat → Nat → Bool) (n : Nat) (v107 : Int) (k : Ex → FF → Option R) : X cp n i_seq_Cbrt_4 (fr_seq_Cbrt_14 v107) k = s_seq_Cbrt_16 cp n v107 (k .ret (fr_seq_Cbrt_17 v107)) := by kernel_rfl
def fr_seq_Cbrt_18 (v108 : Int) : FF := [dT 2 ((tL v108) :: (dT 13 [])), dc]
theorem s_seq_Cbrt_19_t {R : Type} (cp : Nat → Nat → Bool) (n : Nat) (p0 : Int) (k : Ex → FF → Option R) : X cp n i_seq_Cbrt_5 (fr_seq_Cbrt_2 p0) k = s_seq_Cbrt_19 cp n p0 (fun v108 => k .ret (fr_seq_Cbrt_18 v108)) := (show X cp n i_seq_Cbrt_5 (fr_seq_Cbrt_2 p0) k = X cp n i_seq_Cbrt_3 (fr_seq_Cbrt_2 p0) (seqT (X cp n) i_seq_Cbrt_4 k) from by kernel_rfl).trans ((show X cp n i_seq_Cbrt_3 (fr_seq_Cbrt_2 p0) (seqT (X cp n) i_seq_Cbrt_4 k) = s_seq_Cbrt_15 cp n p0 (fun v107 => X cp n i_seq_Cbrt_4 (fr_seq_Cbrt_14 v107) k) from (s_seq_Cbrt_15_t cp n p0 (seqT (X cp n) i_seq_Cbrt_4 k)).trans (by kernel_rfl)).trans (congrArg (fun q => s_seq_Cbrt_15 cp n p0 q) (funext fun v107 => (s_seq_Cbrt_16_t cp n v107 k).trans (show s_seq_Cbrt_16 cp n v107 (k .ret (fr_seq_Cbrt_17 v107)) = s_seq_Cbrt_16 cp n v107 (k .ret (fr_seq_Cbrt_18 v107)) from by kernel_rfl))))
def fr_seq_Cbrt_20 (v109 : Int) : FF := [dT 2 ((tL v109) :: (dT 13 [])), dc]
def fr_seq_Cbrt_22 (p0 : Int) : FF := [(tL p0) :: (dT 15 []), dc]
theorem s_seq_Cbrt_21_t {R : Type} (cp : Nat → Nat → Bool) (n : Nat) (p0 : Int) (k : Ex → FF → Option R) : X cp n i_seq_Cbrt_6 (fr_seq_Cbrt_22 p0) k = s_seq_Cbrt_21 cp n p0 (fun v109 => k .ret (fr_seq_Cbrt_20 v109)) := ((fun c => (show X cp n (.seq (.fin (.reg g_seq_Cbrt_0) [2] []) (.seq (.reg g_seq_Cbrt_1) c)) (fr_seq_Cbrt_22 p0) k = s_seq_Cbrt_1 cp n p0 (X cp n c (fr_seq_Cbrt_2 p0) k) from by kernel_rfl)) i_seq_Cbrt_5).trans (congrArg (fun q => s_seq_Cbrt_1 cp n p0 q) ((s_seq_Cbrt_19_t cp n p0 k).trans (show s_seq_Cbrt_19 cp n p0 (fun v108 => k .ret (fr_seq_Cbrt_18 v108)) = s_seq_Cbrt_19 cp n p0 (fun v108 => k .ret (fr_seq_Cbrt_20 v108)) from by kernel_rfl)))
theorem run_seq_Cbrt {R : Type} (cp : Nat → Nat → Bool) (n : Nat) (p0 : Int) (k : Ret2 RW → Option R) : G_seq_Cbrt cp (n + 1) p0 (fun r0 => k ⟨(tL r0), [], []⟩) = run2 U cp (callP cp n) n fn_seq_Cbrt [(tL p0)] [] k := ((X_run (f := fn_seq_Cbrt) (av := [(tL p0)]) (cells := []) (code := i_seq_Cbrt_6) (fr := (fr_seq_Cbrt_22 p0)) (k := k) (by kernel_rfl) (fun K => by kernel_rfl)).trans ((s_seq_Cbrt_21_t cp n p0 (finK2 fn_seq_Cbrt k)).trans (by kernel_rfl))).symm
/-! (*tideway/cubic.ctl).begin -/
theorem run_cubic_ctl_begin {R : Type} (cp : Nat → Nat → Bool) (n : Nat) (p1 : Int) (q0 : ST85) (k : Ret2 RW → Option R) : G_cubic_ctl_begin cp (n + 1) p1 q0 (fun r0 => k ⟨.tup [], [(eT85 r0)], []⟩) = run2 U cp (callP cp n) n fn_cubic_ctl_begin [.ptr 74 0, (tL p1)] [(eT85 q0)] k := by kernel_rfl
/-! tideway/seq.Sum -/
theorem run_seq_Sum {R : Type} (cp : Nat → Nat → Bool) (n : Nat) (p0 p1 : Int) (k : Ret2 RW → Option R) : G_seq_Sum cp (n + 1) p0 p1 (fun r0 => k ⟨(tL r0), [], []⟩) = run2 U cp (callP cp n) n fn_seq_Sum [(tL p0), (tL p1)] [] k := by kernel_rfl
/-! tideway/cubic.Curve -/
def fr_cubic_Curve_2 (p0 : SCc) (v127 : Int) : FF := [dT 2 ((.ptr 39 0) :: (dT 4 ((tL v127) :: (dT 8 [])))), dc, dT 7 ((.hdr 22) :: (sl 0 8 (eCc p0))), sl 8 14 (eCc p0) ++ (dT 2 [])]
def fr_cubic_Curve_3 : FF := [dT 4 ((tL 0) :: (dT 11 [])), dc, dc, dc]
def fr_cubic_Curve_5 (v130 : Int) : FF := [dT 4 ((tL v130) :: (dT 11 [])), dc, dc, dc]
theorem s_cubic_Curve_4_t {R : Type} (cp : Nat → Nat → Bool) (n : Nat) (p0 : SCc) (v127 : Int) (k : Ex → FF → Option R) : X cp n i_cubic_Curve_0 (fr_cubic_Curve_2 p0 v127) k = s_cubic_Curve_4 cp n p0 v127 (fun v130 => k .ret (fr_cubic_Curve_5 v130)) := by kernel_rfl
def fr_cubic_Curve_6 (v131 : Int) : FF := [dT 4 ((tL v131) :: (dT 11 [])), dc, dc, dc]
def fr_cubic_Curve_8 (p0 : SCc) (p1 : Int) : FF := [(.agg (eCc p0)) :: (tL p1) :: (dT 14 []), dc, dc, dc]
theorem s_cubic_Curve_7_t {R : Type} (cp : Nat → Nat → Bool) (n : Nat) (p0 : SCc) (p1 : Int) (k : Ex → FF → Option R) : X cp n i_cubic_Curve_1 (fr_cubic_Curve_8 p0 p1) k = s_cubic_Curve_7 cp n p0 p1 (fun v131 => k .ret (fr_cubic_Curve_6 v131)) := ((fun c => (show X cp n (.seq (.fin (.reg g_cubic_Curve_0) [0, 4] []) (.seq (.seq (.fin (.reg g_cubic_Curve_1) [8, 9] []) (.fin (.cond (.s 10) (.seq (.fin (.reg g_cubic_Curve_2) [1, 2, 10] [(39, 22)]) (.ret)) (.skip)) [10] [])) (.seq (.fin (.reg g_cubic_Curve_3) [1, 11, 12, 13, 14, 15, 16] []) (.seq (.fin (.reg g_cubic_Curve_4) [17, 18, 19, 20] []) (.seq (.fin (.reg g_cubic_Curve_5) [6, 21, 22, 23, 24, 25, 26, 27, 28, 29] []) (.seq (.seq (.fin (.reg g_cubic_Curve_6) [5, 30] []) (.fin (.cond (.s 31) (.fin (.reg g_cubic_Curve_7) [31, 32, 33] []) (.skip)) [31] [])) c)))))) (fr_cubic_Curve_8 p0 p1) k = s_cubic_Curve_1 cp n p0 p1 (fun v127 => X cp n c (fr_cubic_Curve_2 p0 v127) k) (k .ret (fr_cubic_Curve_6 0)) from by kernel_rfl)) i_cubic_Curve_0).trans (congrArg (fun q => s_cubic_Curve_1 cp n p0 p1 q (k .ret (fr_cubic_Curve_6 0))) (funext fun v127 => (s_cubic_Curve_4_t cp n p0 v127 k).trans (show s_cubic_Curve_4 cp n p0 v127 (fun v130 => k .ret (fr_cubic_Curve_5 v130)) = s_cubic_Curve_4 cp n p0 v127 (fun v130 => k .ret (fr_cubic_Curve_6 v130)) from by kernel_rfl)))
theorem run_cubic_Curve {R : Type} (cp : Nat → Nat → Bool) (n : Nat) (p0 : SCc) (p1 : Int) (k : Ret2 RW → Option R) : G_cubic_Curve cp (n + 1) p0 p1 (fun r0 => k ⟨(tL r0), [], []⟩) = run2 U cp (callP cp n) n fn_cubic_Curve [.agg (eCc p0), (tL p1)] [] k := ((X_run (f := fn_cubic_Curve) (av := [.agg (eCc p0), (tL p1)]) (cells := []) (code := i_cubic_Curve_1) (fr := (fr_cubic_Curve_8 p0 p1)) (k := k) (by kernel_rfl) (fun K => by kernel_rfl)).trans ((s_cubic_Curve_7_t cp n p0 p1 (finK2 fn_cubic_Curve k)).trans (by kernel_rfl))).symm
/-! (*tideway/cubic.ctl).grow -/
def fr_cubic_ctl_grow_2 (p1 v100 : Int) (v101 : SCc) : FF := [(.ptr 110 0) :: (tL p1) :: (dT 6 ((tL v100) :: (dT 7 []))), dc, dc, dc, dc, dc, dT 14 ((.hdr 22) :: (sl 0 1 (eCc v101))), sl 1 16 (eCc v101), sl 17 5 (eCc v101) ++ (dT 11 [])]
def fr_cubic_ctl_grow_4 (p1 : Int) (v101 : SCc) (v108 v109 : Int) : FF := [(.ptr 110 0) :: (tL p1) :: (dT 7 ((tL v108) :: (dT 6 []))), dc, dc, dc, dc, dc, dT 14 ([.hdr 22, (tL v101.xKind)]), [(tL v101.xMss), (tL v101.xCwnd), (tL v101.xSsthresh), (tL v101.xAcc), (tL v101.xWmax), (tL v101.xEpoch), (tL v101.xK), (tL v109), (tL v101.xStart), (tL v101.xMode), .row false (.rEntry v101.xBw), (tL v101.xMinRtt), (tL v101.xMinAt), (tL v101.xRound), (tL v101.xNextAt), (tL v101.xFull)], (tL v101.xFullN) :: (tL v101.xPhase) :: (tL v101.xPhaseAt) :: (tL v101.xDoneAt) :: (tL v101.xPrior) :: (dT 11 [])]
def fr_cubic_ctl_grow_6 (v101 : SCc) (v109 v112 : Int) : FF := [dc, dc, dc, dc, dc, dc, dT 14 ([.hdr 22, (tL v101.xKind)]), [(tL v101.xMss), (tL v112), (tL v101.xSsthresh), (tL v101.xAcc), (tL v101.xWmax), (tL v101.xEpoch), (tL v101.xK), (tL v109), (tL v101.xStart), (tL v101.xMode), .row false (.rEntry v101.xBw), (tL v101.xMinRtt), (tL v101.xMinAt), (tL v101.xRound), (tL v101.xNextAt), (tL v101.xFull)], (tL v101.xFullN) :: (tL v101.xPhase) :: (tL v101.xPhaseAt) :: (tL v101.xDoneAt) :: (tL v101.xPrior) :: (dT 11 [])]
theorem s_cubic_ctl_grow_5_t {R : Type} (cp : Nat → Nat → Bool) (n : Nat) (p1 : Int) (v101 : SCc) (v108 v109 : Int) (k : Ex → FF → Option R) : X cp n i_cubic_ctl_grow_0 (fr_cubic_ctl_grow_4 p1 v101 v108 v109) k = s_cubic_ctl_grow_5 cp n p1 v101 v108 v109 (fun v112 => k .norm (fr_cubic_ctl_grow_6 v101 v109 v112)) := by kernel_rfl
def fr_cubic_ctl_grow_7 (v101 : SCc) (v113 v114 : Int) : FF := [dc, dc, dc, dc, dc, dc, dT 14 ([.hdr 22, (tL v101.xKind)]), [(tL v101.xMss), (tL v113), (tL v101.xSsthresh), (tL v101.xAcc), (tL v101.xWmax), (tL v101.xEpoch), (tL v101.xK), (tL v114), (tL v101.xStart), (tL v101.xMode), .row false (.rEntry v101.xBw), (tL v101.xMinRtt), (tL v101.xMinAt), (tL v101.xRound), (tL v101.xNextAt), (tL v101.xFull)], (tL v101.xFullN) :: (tL v101.xPhase) :: (tL v101.xPhaseAt) :: (tL v101.xDoneAt) :: (tL v101.xPrior) :: (dT 11 [])]
theorem s_cubic_ctl_grow_8_t {R : Type} (cp : Nat → Nat → Bool) (n : Nat) (p1 v100 : Int) (v101 : SCc) (k : Ex → FF → Option R) : X cp n i_cubic_ctl_grow_1 (fr_cubic_ctl_grow_2 p1 v100 v101) k = s_cubic_ctl_grow_8 cp n p1 v100 v101 (fun v113 v114 => k .norm (fr_cubic_ctl_grow_7 v101 v113 v114)) := ((fun c => (show X cp n (.seq (.fin (.reg g_cubic_ctl_grow_3) [8, 30, 31, 32, 33, 34, 35, 36, 37, 38, 39, 40, 41, 42, 43, 44, 45, 46, 47, 48, 49, 50, 51, 52, 53] []) (.seq (.fin (.reg g_cubic_ctl_grow_4) [54, 55, 56, 57, 58, 59, 60, 61, 62, 63, 64, 65, 66, 67, 68, 69, 70, 71, 72, 73, 74, 75, 76, 77, 78] []) c)) (fr_cubic_ctl_grow_2 p1 v100 v101) k = s_cubic_ctl_grow_3 cp n p1 v100 v101 (fun v108 v109 => X cp n c (fr_cubic_ctl_grow_4 p1 v101 v108 v109) k) from by kernel_rfl)) i_cubic_ctl_grow_0).trans (congrArg (fun q => s_cubic_ctl_grow_3 cp n p1 v100 v101 q) (funext fun v108 => funext fun v109 => (s_cubic_ctl_grow_5_t cp n p1 v101 v108 v109 k).trans (show s_cubic_ctl_grow_5 cp n p1 v101 v108 v109 (fun v112 => k .norm (fr_cubic_ctl_grow_6 v101 v109 v112)) = s_cubic_ctl_grow_5 cp n p1 v101 v108 v109 (fun v112 => k .norm (fr_cubic_ctl_grow_7 v101 v112 v109)) from by kernel_rfl)))
def fr_cubic_ctl_grow_9 (v115 : SCc) : FF := [dc, dc, dc, dc, dc, dc, dT 14 ((.hdr 22) :: (sl 0 1 (eCc v115))), sl 1 16 (eCc v115), sl 17 5 (eCc v115) ++ (dT 11 [])]
def fr_cubic_ctl_grow_11 (p1 p2 p3 : Int) (q0 : ST85) : FF := [(.ptr 110 0) :: (tL p1) :: (tL p2) :: (tL p3) :: (dT 12 []), dc, dc, dc, dc, dc, dT 14 ((.hdr 22) :: (sl 0 1 (eT85 q0))), sl 1 16 (eT85 q0), sl 17 5 (eT85 q0) ++ (dT 11 [])]
theorem s_cubic_ctl_grow_10_t {R : Type} (cp : Nat → Nat → Bool) (n : Nat) (p1 p2 p3 : Int) (q0 : ST85) (k : Ex → FF → Option R) : X cp n i_cubic_ctl_grow_2 (fr_cubic_ctl_grow_11 p1 p2 p3 q0) k = s_cubic_ctl_grow_10 cp n p1 p2 p3 q0 (fun v115 => k .norm (fr_cubic_ctl_grow_9 v115)) := ((fun c => (show X cp n (.seq (.seq (.fin (.reg g_cubic_ctl_grow_0) [10, 11, 12, 13, 14] []) (.fin (.cond (.s 15) (.fin (.reg g_cubic_ctl_grow_1) [15, 16, 17, 18] []) (.skip)) [15] [])) (.seq (.fin (.reg g_cubic_ctl_grow_2) [2, 3, 19, 20, 21, 22, 23, 24, 25, 26, 27, 28, 29] []) c)) (fr_cubic_ctl_grow_11 p1 p2 p3 q0) k = s_cubic_ctl_grow_1 cp n p1 p2 p3 q0 (fun v100 v101 => X cp n c (fr_cubic_ctl_grow_2 p1 v100 v101) k) from by kernel_rfl)) i_cubic_ctl_grow_1).trans (congrArg (fun q => s_cubic_ctl_grow_1 cp n p1 p2 p3 q0 q) (funext fun v100 => funext fun v101 => (s_cubic_ctl_grow_8_t cp n p1 v100 v101 k).trans (show s_cubic_ctl_grow_8 cp n p1 v100 v101 (fun v113 v114 => k .norm (fr_cubic_ctl_grow_7 v101 v113 v114)) = s_cubic_ctl_grow_8 cp n p1 v100 v101 (fun v113 v114 => k .norm (fr_cubic_ctl_grow_9 (SCc.mk v101.xKind v101.xMss v113 v101.xSsthresh v101.xAcc v101.xWmax v101.xEpoch v101.xK v114 v101.xStart v101.xMode v101.xBw v101.xMinRtt v101.xMinAt v101.xRound v101.xNextAt v101.xFull v101.xFullN v101.xPhase v101.xPhaseAt v101.xDoneAt v101.xPrior))) from by kernel_rfl)))
theorem run_cubic_ctl_grow {R : Type} (cp : Nat → Nat → Bool) (n : Nat) (p1 p2 p3 : Int) (q0 : ST85) (k : Ret2 RW → Option R) : G_cubic_ctl_grow cp (n + 1) p1 p2 p3 q0 (fun r0 => k ⟨.tup [], [(eT85 r0)], []⟩) = run2 U cp (callP cp n) n fn_cubic_ctl_grow [.ptr 110 0, (tL p1), (tL p2), (tL p3)] [(eT85 q0)] k := ((X_run (f := fn_cubic_ctl_grow) (av := [.ptr 110 0, (tL p1), (tL p2), (tL p3)]) (cells := [(eT85 q0)]) (code := i_cubic_ctl_grow_2) (fr := (fr_cubic_ctl_grow_11 p1 p2 p3 q0)) (k := k) (by kernel_rfl) (fun K => by kernel_rfl)).trans ((s_cubic_ctl_grow_10_t cp n p1 p2 p3 q0 (finK2 fn_cubic_ctl_grow k)).trans (by kernel_rfl))).symm
/-! tideway/cubic.Acked -/
theorem run_cubic_Acked {R : Type} (cp : Nat → Nat → Bool) (n : Nat) (p0 : SCc) (p1 p2 p3 : Int) (p4 : Bool) (k : Ret2 RW → Option R) : G_cubic_Acked cp (n + 1) p0 p1 p2 p3 p4 (fun r0 r1 => k ⟨.tup [.agg (eCc r0), (tL r1)], [], []⟩) = run2 U cp (callP cp n) n fn_cubic_Acked [.agg (eCc p0), (tL p1), (tL p2), (tL p3), (tB p4)] [] k := by kernel_rfl
/-! tideway/cc.Acked -/
def fr_cc_Acked_2 (p0 : SCc) (p1 : SSample) (p2 : Int) : FF := [dT 2 ((tL p2) :: (.ptr 57 0) :: (.ptr 80 0) :: (dT 1 ((.ptr 89 0) :: (dT 9 [])))), dc, dc, dT 9 ((.hdr 22) :: (sl 0 6 (eCc p0))), sl 6 16 (eCc p0), (.hdr 8) :: ((eSample p1) ++ [.hdr 22, (tL 0), (tL 0), (tL 0), (tL 0), (tL 0), (tL 0)]), [(tL 0), (tL 0), (tL 0), (tL 0), (tL 0), .row false (.rEntry []), (tL 0), (tL 0), (tL 0), (tL 0), (tL 0), (tL 0), (tL 0), (tL 0), (tL 0), (tL 0)]]
def fr_cc_Acked_3 (v135 : Int) (v136 : SCc) : FF := [dT 6 ((.ptr 89 0) :: (tL v135) :: (dT 8 [])), dc, dc, dc, dc, dT 9 ((.hdr 22) :: (sl 0 6 (eCc v136))), sl 6 16 (eCc v136)]
def fr_cc_Acked_5 (p0 : SCc) (p1 : SSample) (p2 v143 : Int) : FF := [dT 2 ((tL p2) :: (.ptr 57 0) :: (.ptr 80 0) :: (dT 1 ((.ptr 89 0) :: (dT 1 ((tL v143) :: (dT 7 [])))))), dc, dc, dT 9 ((.hdr 22) :: (sl 0 6 (eCc p0))), sl 6 16 (eCc p0), (.hdr 8) :: ((eSample p1) ++ [.hdr 22, (tL 0), (tL 0), (tL 0), (tL 0), (tL 0), (tL 0)]), [(tL 0), (tL 0), (tL 0), (tL 0), (tL 0), .row false (.rEntry []), (tL 0), (tL 0), (tL 0), (tL 0), (tL 0), (tL 0), (tL 0), (tL 0), (tL 0), (tL 0)]]
theorem s_cc_Acked_4_t {R : Type} (cp : Nat → Nat → Bool) (n : Nat) (p0 : SCc) (p1 : SSample) (p2 : Int) (k : Ex → FF → Option R) : X cp n i_cc_Acked_0 (fr_cc_Acked_2 p0 p1 p2) k = s_cc_Acked_4 cp n p0 p1 p2 (fun v143 => k .norm (fr_cc_Acked_5 p0 p1 p2 v143)) := by kernel_rfl
def fr_cc_Acked_7 (v143 : Int) : FF := [dT 6 ((.ptr 89 0) :: (tL v143) :: (dT 8 [])), dc, dc, dc, dc, dT 9 ([.hdr 22, (tL 0), (tL 0), (tL 0), (tL 0), (tL 0), (tL 0)]), [(tL 0), (tL 0), (tL 0), (tL 0), (tL 0), .row false (.rEntry []), (tL 0), (tL 0), (tL 0), (tL 0), (tL 0), (tL 0), (tL 0), (tL 0), (tL 0), (tL 0)]]
theorem s_cc_Acked_6_t {R : Type} (cp : Nat → Nat → Bool) (n : Nat) (p0 : SCc) (p1 : SSample) (p2 v143 : Int) (k : Ex → FF → Option R) : X cp n i_cc_Acked_1 (fr_cc_Acked_5 p0 p1 p2 v143) k = s_cc_Acked_6 cp n p0 p1 p2 v143 (k .norm (fr_cc_Acked_2 p0 p1 p2)) (k .ret (fr_cc_Acked_7 v143)) := by kernel_rfl
def fr_cc_Acked_8 (v144 : Int) : FF := [dT 6 ((.ptr 89 0) :: (tL v144) :: (dT 8 [])), dc, dc, dc, dc, dT 9 ([.hdr 22, (tL 0), (tL 0), (tL 0), (tL 0), (tL 0), (tL 0)]), [(tL 0), (tL 0), (tL 0), (tL 0), (tL 0), .row false (.rEntry []), (tL 0), (tL 0), (tL 0), (tL 0), (tL 0), (tL 0), (tL 0), (tL 0), (tL 0), (tL 0)]]
theorem s_cc_Acked_9_t {R : Type} (cp : Nat → Nat → Bool) (n : Nat) (p0 : SCc) (p1 : SSample) (p2 : Int) (k : Ex → FF → Option R) : X cp n i_cc_Acked_2 (fr_cc_Acked_2 p0 p1 p2) k = s_cc_Acked_9 cp n p0 p1 p2 (k .norm (fr_cc_Acked_2 p0 p1 p2)) (fun v144 => k .ret (fr_cc_Acked_8 v144)) := (show X cp n i_cc_Acked_2 (fr_cc_Acked_2 p0 p1 p2) k = X cp n i_cc_Acked_0 (fr_cc_Acked_2 p0 p1 p2) (seqT (X cp n) i_cc_Acked_1 k) from by kernel_rfl).trans ((show X cp n i_cc_Acked_0 (fr_cc_Acked_2 p0 p1 p2) (seqT (X cp n) i_cc_Acked_1 k) = s_cc_Acked_4 cp n p0 p1 p2 (fun v143 => X cp n i_cc_Acked_1 (fr_cc_Acked_5 p0 p1 p2 v143) k) from (s_cc_Acked_4_t cp n p0 p1 p2 (seqT (X cp n) i_cc_Acked_1 k)).trans (by kernel_rfl)).trans (congrArg (fun q => s_cc_Acked_4 cp n p0 p1 p2 q) (funext fun v143 => (s_cc_Acked_6_t cp n p0 p1 p2 v143 k).trans (show s_cc_Acked_6 cp n p0 p1 p2 v143 (k .norm (fr_cc_Acked_2 p0 p1 p2)) (k .ret (fr_cc_Acked_7 v143)) = s_cc_Acked_6 cp n p0 p1 p2 v143 (k .norm (fr_cc_Acked_2 p0 p1 p2)) (k .ret (fr_cc_Acked_8 v143)) from by kernel_rfl))))
def fr_cc_Acked_11 (v149 : Int) (v150 : SCc) : FF := [dT 6 ((.ptr 89 0) :: (tL v149) :: (dT 8 [])), dc, dc, dc, dc, dT 9 ((.hdr 22) :: (sl 0 6 (eCc v150))), sl 6 16 (eCc v150)]
theorem s_cc_Acked_10_t {R : Type} (cp : Nat → Nat → Bool) (n : Nat) (p0 : SCc) (p1 : SSample) (p2 : Int) (k : Ex → FF → Option R) : X cp n i_cc_Acked_3 (fr_cc_Acked_2 p0 p1 p2) k = s_cc_Acked_10 cp n p0 p1 p2 (fun v149 v150 => k .ret (fr_cc_Acked_11 v149 v150)) := by kernel_rfl
def fr_cc_Acked_12 (v151 : Int) (v152 : SCc) : FF := [dT 6 ((.ptr 89 0) :: (tL v151) :: (dT 8 [])), dc, dc, dc, dc, dT 9 ((.hdr 22) :: (sl 0 6 (eCc v152))), sl 6 16 (eCc v152)]
theorem s_cc_Acked_13_t {R : Type} (cp : Nat → Nat → Bool) (n : Nat) (p0 : SCc) (p1 : SSample) (p2 : Int) (k : Ex → FF → Option R) : X cp n i_cc_Acked_4 (fr_cc_Acked_2 p0 p1 p2) k = s_cc_Acked_13 cp n p0 p1 p2 (fun v151 v152 => k .ret (fr_cc_Acked_12 v151 v152)) := (show X cp n i_cc_Acked_4 (fr_cc_Acked_2 p0 p1 p2) k = X cp n i_cc_Acked_2 (fr_cc_Acked_2 p0 p1 p2) (seqT (X cp n) i_cc_Acked_3 k) from by kernel_rfl).trans ((show X cp n i_cc_Acked_2 (fr_cc_Acked_2 p0 p1 p2) (seqT (X cp n) i_cc_Acked_3 k) = s_cc_Acked_9 cp n p0 p1 p2 (X cp n i_cc_Acked_3 (fr_cc_Acked_2 p0 p1 p2) k) (fun v144 => k .ret (fr_cc_Acked_12 v144 (SCc.mk 0 0 0 0 0 0 0 0 0 0 0 [] 0 0 0 0 0 0 0 0 0 0))) from (s_cc_Acked_9_t cp n p0 p1 p2 (seqT (X cp n) i_cc_Acked_3 k)).trans (by kernel_rfl)).trans (congrArg (fun q => s_cc_Acked_9 cp n p0 p1 p2 q (fun v144 => k .ret (fr_cc_Acked_12 v144 (SCc.mk 0 0 0 0 0 0 0 0 0 0 0 [] 0 0 0 0 0 0 0 0 0 0)))) ((s_cc_Acked_10_t cp n p0 p1 p2 k).trans (show s_cc_Acked_10 cp n p0 p1 p2 (fun v149 v150 => k .ret (fr_cc_Acked_11 v149 v150)) = s_cc_Acked_10 cp n p0 p1 p2 (fun v149 v150 => k .ret (fr_cc_Acked_12 v149 v150)) from by kernel_rfl))))
def fr_cc_Acked_14 (v153 : Int) (v154 : SCc) : FF := [dT 6 ((.ptr 89 0) :: (tL v153) :: (dT 8 [])), dc, dc, dc, dc, dT 9 ((.hdr 22) :: (sl 0 6 (eCc v154))), sl 6 16 (eCc v154)]
def fr_cc_Acked_16 (p0 : SCc) (p1 : SSample) (p2 : Int) : FF := [(.agg (eCc p0)) :: (.agg (eSample p1)) :: (tL p2) :: (dT 13 []), dc, dc, dc, dc, dc, dc]
theorem s_cc_Acked_15_t {R : Type} (cp : Nat → Nat → Bool) (n : Nat) (p0 : SCc) (p1 : SSample) (p2 : Int) (k : Ex → FF → Option R) : X cp n i_cc_Acked_5 (fr_cc_Acked_16 p0 p1 p2) k = s_cc_Acked_15 cp n p0 p1 p2 (fun v153 v154 => k .ret (fr_cc_Acked_14 v153 v154)) := ((fun c => (show X cp n (.seq (.fin (.reg g_cc_Acked_0) [0, 1, 7] []) (.seq (.seq (.fin (.reg g_cc_Acked_1) [9, 10] []) (.fin (.cond (.s 11) (.seq (.fin (.reg g_cc_Acked_2) [2, 3, 4, 11, 12, 13, 14, 15, 16] [(57, 22), (80, 8)]) (.ret)) (.skip)) [11] [])) c)) (fr_cc_Acked_16 p0 p1 p2) k = s_cc_Acked_1 cp n p0 p1 p2 (X cp n c (fr_cc_Acked_2 p0 p1 p2) k) (fun v135 v136 => k .ret (fr_cc_Acked_14 v135 v136)) from by kernel_rfl)) i_cc_Acked_4).trans (congrArg (fun q => s_cc_Acked_1 cp n p0 p1 p2 q (fun v135 v136 => k .ret (fr_cc_Acked_14 v135 v136))) ((s_cc_Acked_13_t cp n p0 p1 p2 k).trans (show s_cc_Acked_13 cp n p0 p1 p2 (fun v151 v152 => k .ret (fr_cc_Acked_12 v151 v152)) = s_cc_Acked_13 cp n p0 p1 p2 (fun v151 v152 => k .ret (fr_cc_Acked_14 v151 v152)) from by kernel_rfl)))
theorem run_cc_Acked {R : Type} (cp : Nat → Nat → Bool) (n : Nat) (p0 : SCc) (p1 : SSample) (p2 : Int) (k : Ret2 RW → Option R) : G_cc_Acked cp (n + 1) p0 p1 p2 (fun r0 r1 => k ⟨.tup [.agg (eCc r0), (tL r1)], [], []⟩) = run2 U cp (callP cp n) n fn_cc_Acked [.agg (eCc p0), .agg (eSample p1), (tL p2)] [] k := ((X_run (f := fn_cc_Acked) (av := [.agg (eCc p0), .agg (eSample p1), (tL p2)]) (cells := []) (code := i_cc_Acked_5) (fr := (fr_cc_Acked_16 p0 p1 p2)) (k := k) (by kernel_rfl) (fun K => by kernel_rfl)).trans ((s_cc_Acked_15_t cp n p0 p1 p2 (finK2 fn_cc_Acked k)).trans (by kernel_rfl))).symm
/-! tideway/tidewaylaw19.CcStays -/
def fr_law19_CcStays_2 (p0 p1 : Int) (p2 : (List SSample)) (p3 : (List Int)) (v114 : SCc) : FF := [(tL p0) :: (tL p1) :: (.row false (.rSample p2)) :: (.row false (.rint p3)) :: (dT 5 ((.ptr 179 0) :: (dT 6 []))), dc, dc, dc, dc, dc, dc, dc, dc, dc, dc, dT 3 ((.hdr 22) :: (sl 0 12 (eCc v114))), sl 12 10 (eCc v114) ++ (dT 6 []), dc, dc]
def fr_law19_CcStays_3 (v115 : Bool) : FF := [dT 8 ((tB v115) :: (dT 7 [])), dc, dc, dc, dc, dc, dc, dc, dc, dc, dc, dc, dc, dc, dc]
def fr_law19_CcStays_5 (p0 p1 : Int) (p2 : (List SSample)) (p3 : (List Int)) (v114 : SCc) : FF := [(tL p0) :: (tL p1) :: (.row false (.rSample p2)) :: (.row false (.rint p3)) :: (dT 5 ((.ptr 179 0) :: (dT 1 ((tL 0) :: (dT 4 []))))), dc, dc, dc, dc, dc, dc, dc, dc, dc, dc, dT 3 ((.hdr 22) :: (sl 0 12 (eCc v114))), sl 12 10 (eCc v114) ++ (dT 6 []), dc, dc]
def fr_law19_CcStays_7 (p0 p1 : Int) (p2 : (List SSample)) (p3 : (List Int)) (v116 : Int) (v117 : SCc) : FF := [(tL p0) :: (tL p1) :: (.row false (.rSample p2)) :: (.row false (.rint p3)) :: (dT 5 ((.ptr 179 0) :: (dT 1 ((tL v116) :: (dT 4 []))))), dc, dc, dc, dc, dc, dc, dc, dc, dc, dc, dT 3 ((.hdr 22) :: (sl 0 12 (eCc v117))), sl 12 10 (eCc v117) ++ (dT 6 []), dc, dc]
def fr_law19_CcStays_8 : FF := [dc, dc, dc, dc, dc, dc, dc, dc, dc, dc, dc, dc, dc, dc, dc]
def fr_law19_CcStays_10 (p0 p1 : Int) (p2 : (List SSample)) (p3 : (List Int)) (v116 : Int) (v117 : SCc) : FF := [(tL p0) :: (tL p1) :: (.row false (.rSample p2)) :: (.row false (.rint p3)) :: (dT 5 ((.ptr 179 0) :: (dT 1 ((tL v116) :: (.ptr 202 0) :: (tL 0) :: (dT 2 []))))), dc, dc, dc, dc, dc, dc, dc, dc, dc, dc, dT 3 ((.hdr 22) :: (sl 0 12 (eCc v117))), sl 12 10 (eCc v117) ++ ((.hdr 22) :: (sl 0 5 (eCc v117))), sl 5 16 (eCc v117), sl 21 1 (eCc v117) ++ (dT 15 [])]
def fr_law19_CcStays_12 (p0 p1 : Int) (p2 : (List SSample)) (p3 : (List Int)) (v116 : Int) (v117 : SCc) (v118 : Int) : FF := [(tL p0) :: (tL p1) :: (.row false (.rSample p2)) :: (.row false (.rint p3)) :: (dT 5 ((.ptr 179 0) :: (dT 1 ((tL v116) :: (.ptr 202 0) :: (tL 0) :: (dT 2 []))))), dc, dT 15 ([(tL v118)]), dc, dc, dc, dc, dc, dc, dc, dc, dT 3 ((.hdr 22) :: (sl 0 12 (eCc v117))), sl 12 10 (eCc v117) ++ ((.hdr 22) :: (sl 0 5 (eCc v117))), sl 5 16 (eCc v117), sl 21 1 (eCc v117) ++ (dT 15 [])]
def fr_law19_CcStays_14 (p0 p1 : Int) (p2 : (List SSample)) (p3 : (List Int)) (v116 : Int) (v117 : SCc) (v118 : Int) (v119 : Bool) : FF := [(tL p0) :: (tL p1) :: (.row false (.rSample p2)) :: (.row false (.rint p3)) :: (dT 5 ((.ptr 179 0) :: (dT 1 ((tL v116) :: (.ptr 202 0) :: (tL 0) :: (dT 2 []))))), dc, dT 15 ([(tL v118)]), (tB v119) :: (dT 15 []), dc, dc, dc, dc, dc, dc, dc, dT 3 ((.hdr 22) :: (sl 0 12 (eCc v117))), sl 12 10 (eCc v117) ++ ((.hdr 22) :: (sl 0 5 (eCc v117))), sl 5 16 (eCc v117), sl 21 1 (eCc v117) ++ (dT 15 [])]
def fr_law19_CcStays_16 (p0 p1 : Int) (p2 : (List SSample)) (p3 : (List Int)) (v116 : Int) (v117 : SCc) (v122 : Int) (v123 : SCc) : FF := [(tL p0) :: (tL p1) :: (.row false (.rSample p2)) :: (.row false (.rint p3)) :: (dT 5 ((.ptr 179 0) :: (dT 1 ((tL v116) :: (.ptr 202 0) :: (tL v122) :: (dT 2 []))))), dc, dc, dc, dc, dc, dc, dc, dc, dc, dc, dT 3 ((.hdr 22) :: (sl 0 12 (eCc v117))), sl 12 10 (eCc v117) ++ ((.hdr 22) :: (sl 0 5 (eCc v123))), sl 5 16 (eCc v123), sl 21 1 (eCc v123) ++ (dT 15 [])]
theorem s_law19_CcStays_15_t {R : Type} (cp : Nat → Nat → Bool) (n : Nat) (p0 p1 : Int) (p2 : (List SSample)) (p3 : (List Int)) (v116 : Int) (v117 : SCc) (v118 : Int) (v119 : Bool) (k : Ex → FF → Option R) : X cp n i_law19_CcStays_0 (fr_law19_CcStays_14 p0 p1 p2 p3 v116 v117 v118 v119) k = s_law19_CcStays_15 cp n p0 p1 p2 p3 v116 v117 v118 v119 (fun v122 v123 => k .norm (fr_law19_CcStays_16 p0 p1 p2 p3 v116 v117 v122 v123)) := by kernel_rfl
def fr_law19_CcStays_18 (p0 p1 : Int) (p2 : (List SSample)) (p3 : (List Int)) (v116 : Int) (v117 : SCc) (v118 : Int) (v124 : Bool) : FF := [(tL p0) :: (tL p1) :: (.row false (.rSample p2)) :: (.row false (.rint p3)) :: (dT 5 ((.ptr 179 0) :: (dT 1 ((tL v116) :: (.ptr 202 0) :: (tL 0) :: (dT 2 []))))), dc, dT 15 ([(tL v118)]), dT 12 ((tB v124) :: (dT 3 [])), dc, dc, dc, dc, dc, dc, dc, dT 3 ((.hdr 22) :: (sl 0 12 (eCc v117))), sl 12 10 (eCc v117) ++ ((.hdr 22) :: (sl 0 5 (eCc v117))), sl 5 16 (eCc v117), sl 21 1 (eCc v117) ++ (dT 15 [])]
def fr_law19_CcStays_20 (p0 p1 : Int) (p2 : (List SSample)) (p3 : (List Int)) (v116 : Int) (v117 : SCc) (v127 : Int) (v128 : SCc) : FF := [(tL p0) :: (tL p1) :: (.row false (.rSample p2)) :: (.row false (.rint p3)) :: (dT 5 ((.ptr 179 0) :: (dT 1 ((tL v116) :: (.ptr 202 0) :: (tL v127) :: (dT 2 []))))), dc, dc, dc, dc, dc, dc, dc, dc, dc, dc, dT 3 ((.hdr 22) :: (sl 0 12 (eCc v117))), sl 12 10 (eCc v117) ++ ((.hdr 22) :: (sl 0 5 (eCc v128))), sl 5 16 (eCc v128), sl 21 1 (eCc v128) ++ (dT 15 [])]
theorem s_law19_CcStays_19_t {R : Type} (cp : Nat → Nat → Bool) (n : Nat) (p0 p1 : Int) (p2 : (List SSample)) (p3 : (List Int)) (v116 : Int) (v117 : SCc) (v118 : Int) (v124 : Bool) (k : Ex → FF → Option R) : X cp n i_law19_CcStays_1 (fr_law19_CcStays_18 p0 p1 p2 p3 v116 v117 v118 v124) k = s_law19_CcStays_19 cp n p0 p1 p2 p3 v116 v117 v118 v124 (fun v127 v128 => k .norm (fr_law19_CcStays_20 p0 p1 p2 p3 v116 v117 v127 v128)) := by kernel_rfl
def fr_law19_CcStays_22 (p0 p1 : Int) (p2 : (List SSample)) (p3 : (List Int)) (v116 : Int) (v117 : SCc) (v118 : Int) (v129 : Bool) : FF := [(tL p0) :: (tL p1) :: (.row false (.rSample p2)) :: (.row false (.rint p3)) :: (dT 5 ((.ptr 179 0) :: (dT 1 ((tL v116) :: (.ptr 202 0) :: (tL 0) :: (dT 2 []))))), dc, dT 15 ([(tL v118)]), dc, dT 8 ((tB v129) :: (dT 7 [])), dc, dc, dc, dc, dc, dc, dT 3 ((.hdr 22) :: (sl 0 12 (eCc v117))), sl 12 10 (eCc v117) ++ ((.hdr 22) :: (sl 0 5 (eCc v117))), sl 5 16 (eCc v117), sl 21 1 (eCc v117) ++ (dT 15 [])]
def fr_law19_CcStays_24 (p0 p1 : Int) (p2 : (List SSample)) (p3 : (List Int)) (v116 : Int) (v117 : SCc) (v132 : Int) (v133 : SCc) : FF := [(tL p0) :: (tL p1) :: (.row false (.rSample p2)) :: (.row false (.rint p3)) :: (dT 5 ((.ptr 179 0) :: (dT 1 ((tL v116) :: (.ptr 202 0) :: (tL v132) :: (dT 2 []))))), dc, dc, dc, dc, dc, dc, dc, dc, dc, dc, dT 3 ((.hdr 22) :: (sl 0 12 (eCc v117))), sl 12 10 (eCc v117) ++ ((.hdr 22) :: (sl 0 5 (eCc v133))), sl 5 16 (eCc v133), sl 21 1 (eCc v133) ++ (dT 15 [])]
theorem s_law19_CcStays_23_t {R : Type} (cp : Nat → Nat → Bool) (n : Nat) (p0 p1 : Int) (p2 : (List SSample)) (p3 : (List Int)) (v116 : Int) (v117 : SCc) (v118 : Int) (v129 : Bool) (k : Ex → FF → Option R) : X cp n i_law19_CcStays_2 (fr_law19_CcStays_22 p0 p1 p2 p3 v116 v117 v118 v129) k = s_law19_CcStays_23 cp n p0 p1 p2 p3 v116 v117 v118 v129 (fun v132 v133 => k .norm (fr_law19_CcStays_24 p0 p1 p2 p3 v116 v117 v132 v133)) := by kernel_rfl
def fr_law19_CcStays_26 (p0 p1 : Int) (p2 : (List SSample)) (p3 : (List Int)) (v116 : Int) (v117 : SCc) (v118 : Int) (v134 : Bool) : FF := [(tL p0) :: (tL p1) :: (.row false (.rSample p2)) :: (.row false (.rint p3)) :: (dT 5 ((.ptr 179 0) :: (dT 1 ((tL v116) :: (.ptr 202 0) :: (tL 0) :: (dT 2 []))))), dc, dT 15 ([(tL v118)]), dc, dT 15 ([(tB v134)]), dc, dc, dc, dc, dc, dc, dT 3 ((.hdr 22) :: (sl 0 12 (eCc v117))), sl 12 10 (eCc v117) ++ ((.hdr 22) :: (sl 0 5 (eCc v117))), sl 5 16 (eCc v117), sl 21 1 (eCc v117) ++ (dT 15 [])]
def fr_law19_CcStays_28 (p0 p1 : Int) (p2 : (List SSample)) (p3 : (List Int)) (v116 : Int) (v117 : SCc) (v137 : Int) (v138 : SCc) : FF := [(tL p0) :: (tL p1) :: (.row false (.rSample p2)) :: (.row false (.rint p3)) :: (dT 5 ((.ptr 179 0) :: (dT 1 ((tL v116) :: (.ptr 202 0) :: (tL v137) :: (dT 2 []))))), dc, dc, dc, dc, dc, dc, dc, dc, dc, dc, dT 3 ((.hdr 22) :: (sl 0 12 (eCc v117))), sl 12 10 (eCc v117) ++ ((.hdr 22) :: (sl 0 5 (eCc v138))), sl 5 16 (eCc v138), sl 21 1 (eCc v138) ++ (dT 15 [])]
theorem s_law19_CcStays_27_t {R : Type} (cp : Nat → Nat → Bool) (n : Nat) (p0 p1 : Int) (p2 : (List SSample)) (p3 : (List Int)) (v116 : Int) (v117 : SCc) (v118 : Int) (v134 : Bool) (k : Ex → FF → Option R) : X cp n i_law19_CcStays_3 (fr_law19_CcStays_26 p0 p1 p2 p3 v116 v117 v118 v134) k = s_law19_CcStays_27 cp n p0 p1 p2 p3 v116 v117 v118 v134 (fun v137 v138 => k .norm (fr_law19_CcStays_28 p0 p1 p2 p3 v116 v117 v137 v138)) := by kernel_rfl
def fr_law19_CcStays_30 (p0 p1 : Int) (p2 : (List SSample)) (p3 : (List Int)) (v116 : Int) (v117 : SCc) (v147 : Int) (v148 : SCc) : FF := [(tL p0) :: (tL p1) :: (.row false (.rSample p2)) :: (.row false (.rint p3)) :: (dT 5 ((.ptr 179 0) :: (dT 1 ((tL v116) :: (.ptr 202 0) :: (tL v147) :: (dT 2 []))))), dc, dc, dc, dc, dc, dc, dc, dc, dc, dc, dT 3 ((.hdr 22) :: (sl 0 12 (eCc v117))), sl 12 10 (eCc v117) ++ ((.hdr 22) :: (sl 0 5 (eCc v148))), sl 5 16 (eCc v148), sl 21 1 (eCc v148) ++ (dT 15 [])]
theorem s_law19_CcStays_29_t {R : Type} (cp : Nat → Nat → Bool) (n : Nat) (p0 p1 : Int) (p2 : (List SSample)) (p3 : (List Int)) (v116 : Int) (v117 : SCc) (v118 : Int) (v134 : Bool) (k : Ex → FF → Option R) : X cp n i_law19_CcStays_4 (fr_law19_CcStays_26 p0 p1 p2 p3 v116 v117 v118 v134) k = s_law19_CcStays_29 cp n p0 p1 p2 p3 v116 v117 v118 v134 (fun v147 v148 => k .norm (fr_law19_CcStays_30 p0 p1 p2 p3 v116 v117 v147 v148)) := by kernel_rfl
def fr_law19_CcStays_32 (p0 p1 : Int) (p2 : (List SSample)) (p3 : (List Int)) (v116 : Int) (v117 : SCc) (v149 : Int) (v150 : SCc) : FF := [(tL p0) :: (tL p1) :: (.row false (.rSample p2)) :: (.row false (.rint p3)) :: (dT 5 ((.ptr 179 0) :: (dT 1 ((tL v116) :: (.ptr 202 0) :: (tL v149) :: (dT 2 []))))), dc, dc, dc, dc, dc, dc, dc, dc, dc, dc, dT 3 ((.hdr 22) :: (sl 0 12 (eCc v117))), sl 12 10 (eCc v117) ++ ((.hdr 22) :: (sl 0 5 (eCc v150))), sl 5 16 (eCc v150), sl 21 1 (eCc v150) ++ (dT 15 [])]
theorem s_law19_CcStays_31_t {R : Type} (cp : Nat → Nat → Bool) (n : Nat) (p0 p1 : Int) (p2 : (List SSample)) (p3 : (List Int)) (v116 : Int) (v117 : SCc) (v118 : Int) (v134 : Bool) (k : Ex → FF → Option R) : X cp n i_law19_CcStays_5 (fr_law19_CcStays_26 p0 p1 p2 p3 v116 v117 v118 v134) k = s_law19_CcStays_31 cp n p0 p1 p2 p3 v116 v117 v118 v134 (fun v149 v150 => k .norm (fr_law19_CcStays_32 p0 p1 p2 p3 v116 v117 v149 v150)) := (show X cp n i_law19_CcStays_5 (fr_law19_CcStays_26 p0 p1 p2 p3 v116 v117 v118 v134) k = cond (v134) (X cp n i_law19_CcStays_3 (fr_law19_CcStays_26 p0 p1 p2 p3 v116 v117 v118 v134) k) (X cp n i_law19_CcStays_4 (fr_law19_CcStays_26 p0 p1 p2 p3 v116 v117 v118 v134) k) from by kernel_rfl).trans (cc ((s_law19_CcStays_27_t cp n p0 p1 p2 p3 v116 v117 v118 v134 k).trans (show s_law19_CcStays_27 cp n p0 p1 p2 p3 v116 v117 v118 v134 (fun v137 v138 => k .norm (fr_law19_CcStays_28 p0 p1 p2 p3 v116 v117 v137 v138)) = s_law19_CcStays_27 cp n p0 p1 p2 p3 v116 v117 v118 v134 (fun v137 v138 => k .norm (fr_law19_CcStays_32 p0 p1 p2 p3 v116 v117 v137 v138)) from by kernel_rfl)) ((s_law19_CcStays_29_t cp n p0 p1 p2 p3 v116 v117 v118 v134 k).trans (show s_law19_CcStays_29 cp n p0 p1 p2 p3 v116 v117 v118 v134 (fun v147 v148 => k .norm (fr_law19_CcStays_30 p0 p1 p2 p3 v116 v117 v147 v148)) = s_law19_CcStays_29 cp n p0 p1 p2 p3 v116 v117 v118 v134 (fun v147 v148 => k .norm (fr_law19_CcStays_32 p0 p1 p2 p3 v116 v117 v147 v148)) from by kernel_rfl)))
def fr_law19_CcStays_33 (p0 p1 : Int) (p2 : (List SSample)) (p3 : (List Int)) (v116 : Int) (v117 : SCc) (v151 : Int) (v152 : SCc) : FF := [(tL p0) :: (tL p1) :: (.row false (.rSample p2)) :: (.row false (.rint p3)) :: (dT 5 ((.ptr 179 0) :: (dT 1 ((tL v116) :: (.ptr 202 0) :: (tL v151) :: (dT 2 []))))), dc, dc, dc, dc, dc, dc, dc, dc, dc, dc, dT 3 ((.hdr 22) :: (sl 0 12 (eCc v117))), sl 12 10 (eCc v117) ++ ((.hdr 22) :: (sl 0 5 (eCc v152))), sl 5 16 (eCc v152), sl 21 1 (eCc v152) ++ (dT 15 [])]
theorem s_law19_CcStays_34_t {R : Type} (cp : Nat → Nat → Bool) (n : Nat) (p0 p1 : Int) (p2 : (List SSample)) (p3 : (List Int)) (v116 : Int) (v117 : SCc) (v118 : Int) (v129 : Bool) (k : Ex → FF → Option R) : X cp n i_law19_CcStays_6 (fr_law19_CcStays_22 p0 p1 p2 p3 v116 v117 v118 v129) k = s_law19_CcStays_34 cp n p0 p1 p2 p3 v116 v117 v118 v129 (fun v151 v152 => k .norm (fr_law19_CcStays_33 p0 p1 p2 p3 v116 v117 v151 v152)) := ((fun c => (show X cp n (.seq (.fin (.reg g_law19_CcStays_15) [72, 80] []) c) (fr_law19_CcStays_22 p0 p1 p2 p3 v116 v117 v118 v129) k = s_law19_CcStays_25 cp n p0 p1 p2 p3 v116 v117 v118 v129 (fun v134 => X cp n c (fr_law19_CcStays_26 p0 p1 p2 p3 v116 v117 v118 v134) k) from by kernel_rfl)) i_law19_CcStays_5).trans (congrArg (fun q => s_law19_CcStays_25 cp n p0 p1 p2 p3 v116 v117 v118 v129 q) (funext fun v134 => (s_law19_CcStays_31_t cp n p0 p1 p2 p3 v116 v117 v118 v134 k).trans (show s_law19_CcStays_31 cp n p0 p1 p2 p3 v116 v117 v118 v134 (fun v149 v150 => k .norm (fr_law19_CcStays_32 p0 p1 p2 p3 v116 v117 v149 v150)) = s_law19_CcStays_31 cp n p0 p1 p2 p3 v116 v117 v118 v134 (fun v149 v150 => k .norm (fr_law19_CcStays_33 p0 p1 p2 p3 v116 v117 v149 v150)) from by kernel_rfl)))
def fr_law19_CcStays_36 (p0 p1 : Int) (p2 : (List SSample)) (p3 : (List Int)) (v116 : Int) (v117 : SCc) (v153 : Int) (v154 : SCc) : FF := [(tL p0) :: (tL p1) :: (.row false (.rSample p2)) :: (.row false (.rint p3)) :: (dT 5 ((.ptr 179 0) :: (dT 1 ((tL v116) :: (.ptr 202 0) :: (tL v153) :: (dT 2 []))))), dc, dc, dc, dc, dc, dc, dc, dc, dc, dc, dT 3 ((.hdr 22) :: (sl 0 12 (eCc v117))), sl 12 10 (eCc v117) ++ ((.hdr 22) :: (sl 0 5 (eCc v154))), sl 5 16 (eCc v154), sl 21 1 (eCc v154) ++ (dT 15 [])]
theorem s_law19_CcStays_35_t {R : Type} (cp : Nat → Nat → Bool) (n : Nat) (p0 p1 : Int) (p2 : (List SSample)) (p3 : (List Int)) (v116 : Int) (v117 : SCc) (v118 : Int) (v129 : Bool) (k : Ex → FF → Option R) : X cp n i_law19_CcStays_7 (fr_law19_CcStays_22 p0 p1 p2 p3 v116 v117 v118 v129) k = s_law19_CcStays_35 cp n p0 p1 p2 p3 v116 v117 v118 v129 (fun v153 v154 => k .norm (fr_law19_CcStays_36 p0 p1 p2 p3 v116 v117 v153 v154)) := (show X cp n i_law19_CcStays_7 (fr_law19_CcStays_22 p0 p1 p2 p3 v116 v117 v118 v129) k = cond (v129) (X cp n i_law19_CcStays_2 (fr_law19_CcStays_22 p0 p1 p2 p3 v116 v117 v118 v129) k) (X cp n i_law19_CcStays_6 (fr_law19_CcStays_22 p0 p1 p2 p3 v116 v117 v118 v129) k) from by kernel_rfl).trans (cc ((s_law19_CcStays_23_t cp n p0 p1 p2 p3 v116 v117 v118 v129 k).trans (show s_law19_CcStays_23 cp n p0 p1 p2 p3 v116 v117 v118 v129 (fun v132 v133 => k .norm (fr_law19_CcStays_24 p0 p1 p2 p3 v116 v117 v132 v133)) = s_law19_CcStays_23 cp n p0 p1 p2 p3 v116 v117 v118 v129 (fun v132 v133 => k .norm (fr_law19_CcStays_36 p0 p1 p2 p3 v116 v117 v132 v133)) from by kernel_rfl)) ((s_law19_CcStays_34_t cp n p0 p1 p2 p3 v116 v117 v118 v129 k).trans (show s_law19_CcStays_34 cp n p0 p1 p2 p3 v116 v117 v118 v129 (fun v151 v152 => k .norm (fr_law19_CcStays_33 p0 p1 p2 p3 v116 v117 v151 v152)) = s_law19_CcStays_34 cp n p0 p1 p2 p3 v116 v117 v118 v129 (fun v151 v152 => k .norm (fr_law19_CcStays_36 p0 p1 p2 p3 v116 v117 v151 v152)) from by kernel_rfl)))
def fr_law19_CcStays_37 (p0 p1 : Int) (p2 : (List SSample)) (p3 : (List Int)) (v116 : Int) (v117 : SCc) (v155 : Int) (v156 : SCc) : FF := [(tL p0) :: (tL p1) :: (.row false (.rSample p2)) :: (.row false (.rint p3)) :: (dT 5 ((.ptr 179 0) :: (dT 1 ((tL v116) :: (.ptr 202 0) :: (tL v155) :: (dT 2 []))))), dc, dc, dc, dc, dc, dc, dc, dc, dc, dc, dT 3 ((.hdr 22) :: (sl 0 12 (eCc v117))), sl 12 10 (eCc v117) ++ ((.hdr 22) :: (sl 0 5 (eCc v156))), sl 5 16 (eCc v156), sl 21 1 (eCc v156) ++ (dT 15 [])]
theorem s_law19_CcStays_38_t {R : Type} (cp : Nat → Nat → Bool) (n : Nat) (p0 p1 : Int) (p2 : (List SSample)) (p3 : (List Int)) (v116 : Int) (v117 : SCc) (v118 : Int) (v124 : Bool) (k : Ex → FF → Option R) : X cp n i_law19_CcStays_8 (fr_law19_CcStays_18 p0 p1 p2 p3 v116 v117 v118 v124) k = s_law19_CcStays_38 cp n p0 p1 p2 p3 v116 v117 v118 v124 (fun v155 v156 => k .norm (fr_law19_CcStays_37 p0 p1 p2 p3 v116 v117 v155 v156)) := ((fun c => (show X cp n (.seq (.fin (.reg g_law19_CcStays_13) [60, 73] []) c) (fr_law19_CcStays_18 p0 p1 p2 p3 v116 v117 v118 v124) k = s_law19_CcStays_21 cp n p0 p1 p2 p3 v116 v117 v118 v124 (fun v129 => X cp n c (fr_law19_CcStays_22 p0 p1 p2 p3 v116 v117 v118 v129) k) from by kernel_rfl)) i_law19_CcStays_7).trans (congrArg (fun q => s_law19_CcStays_21 cp n p0 p1 p2 p3 v116 v117 v118 v124 q) (funext fun v129 => (s_law19_CcStays_35_t cp n p0 p1 p2 p3 v116 v117 v118 v129 k).trans (show s_law19_CcStays_35 cp n p0 p1 p2 p3 v116 v117 v118 v129 (fun v153 v154 => k .norm (fr_law19_CcStays_36 p0 p1 p2 p3 v116 v117 v153 v154)) = s_law19_CcStays_35 cp n p0 p1 p2 p3 v116 v117 v118 v129 (fun v153 v154 => k .norm (fr_law19_CcStays_37 p0 p1 p2 p3 v116 v117 v153 v154)) from by kernel_rfl)))
def fr_law19_CcStays_40 (p0 p1 : Int) (p2 : (List SSample)) (p3 : (List Int)) (v116 : Int) (v117 : SCc) (v157 : Int) (v158 : SCc) : FF := [(tL p0) :: (tL p1) :: (.row false (.rSample p2)) :: (.row false (.rint p3)) :: (dT 5 ((.ptr 179 0) :: (dT 1 ((tL v116) :: (.ptr 202 0) :: (tL v157) :: (dT 2 []))))), dc, dc, dc, dc, dc, dc, dc, dc, dc, dc, dT 3 ((.hdr 22) :: (sl 0 12 (eCc v117))), sl 12 10 (eCc v117) ++ ((.hdr 22) :: (sl 0 5 (eCc v158))), sl 5 16 (eCc v158), sl 21 1 (eCc v158) ++ (dT 15 [])]
theorem s_law19_CcStays_39_t {R : Type} (cp : Nat → Nat → Bool) (n : Nat) (p0 p1 : Int) (p2 : (List SSample)) (p3 : (List Int)) (v116 : Int) (v117 : SCc) (v118 : Int) (v124 : Bool) (k : Ex → FF → Option R) : X cp n i_law19_CcStays_9 (fr_law19_CcStays_18 p0 p1 p2 p3 v116 v117 v118 v124) k = s_law19_CcStays_39 cp n p0 p1 p2 p3 v116 v117 v118 v124 (fun v157 v158 => k .norm (fr_law19_CcStays_40 p0 p1 p2 p3 v116 v117 v157 v158)) := (show X cp n i_law19_CcStays_9 (fr_law19_CcStays_18 p0 p1 p2 p3 v116 v117 v118 v124) k = cond (v124) (X cp n i_law19_CcStays_1 (fr_law19_CcStays_18 p0 p1 p2 p3 v116 v117 v118 v124) k) (X cp n i_law19_CcStays_8 (fr_law19_CcStays_18 p0 p1 p2 p3 v116 v117 v118 v124) k) from by kernel_rfl).trans (cc ((s_law19_CcStays_19_t cp n p0 p1 p2 p3 v116 v117 v118 v124 k).trans (show s_law19_CcStays_19 cp n p0 p1 p2 p3 v116 v117 v118 v124 (fun v127 v128 => k .norm (fr_law19_CcStays_20 p0 p1 p2 p3 v116 v117 v127 v128)) = s_law19_CcStays_19 cp n p0 p1 p2 p3 v116 v117 v118 v124 (fun v127 v128 => k .norm (fr_law19_CcStays_40 p0 p1 p2 p3 v116 v117 v127 v128)) from by kernel_rfl)) ((s_law19_CcStays_38_t cp n p0 p1 p2 p3 v116 v117 v118 v124 k).trans (show s_law19_CcStays_38 cp n p0 p1 p2 p3 v116 v117 v118 v124 (fun v155 v156 => k .norm (fr_law19_CcStays_37 p0 p1 p2 p3 v116 v117 v155 v156)) = s_law19_CcStays_38 cp n p0 p1 p2 p3 v116 v117 v118 v124 (fun v155 v156 => k .norm (fr_law19_CcStays_40 p0 p1 p2 p3 v116 v117 v155 v156)) from by kernel_rfl)))
def fr_law19_CcStays_41 (p0 p1 : Int) (p2 : (List SSample)) (p3 : (List Int)) (v116 : Int) (v117 : SCc) (v159 : Int) (v160 : SCc) : FF := [(tL p0) :: (tL p1) :: (.row false (.rSample p2)) :: (.row false (.rint p3)) :: (dT 5 ((.ptr 179 0) :: (dT 1 ((tL v116) :: (.ptr 202 0) :: (tL v159) :: (dT 2 []))))), dc, dc, dc, dc, dc, dc, dc, dc, dc, dc, dT 3 ((.hdr 22) :: (sl 0 12 (eCc v117))), sl 12 10 (eCc v117) ++ ((.hdr 22) :: (sl 0 5 (eCc v160))), sl 5 16 (eCc v160), sl 21 1 (eCc v160) ++ (dT 15 [])]
theorem s_law19_CcStays_42_t {R : Type} (cp : Nat → Nat → Bool) (n : Nat) (p0 p1 : Int) (p2 : (List SSample)) (p3 : (List Int)) (v116 : Int) (v117 : SCc) (v118 : Int) (v119 : Bool) (k : Ex → FF → Option R) : X cp n i_law19_CcStays_10 (fr_law19_CcStays_14 p0 p1 p2 p3 v116 v117 v118 v119) k = s_law19_CcStays_42 cp n p0 p1 p2 p3 v116 v117 v118 v119 (fun v159 v160 => k .norm (fr_law19_CcStays_41 p0 p1 p2 p3 v116 v117 v159 v160)) := ((fun c => (show X cp n (.seq (.fin (.reg g_law19_CcStays_11) [48, 61] []) c) (fr_law19_CcStays_14 p0 p1 p2 p3 v116 v117 v118 v119) k = s_law19_CcStays_17 cp n p0 p1 p2 p3 v116 v117 v118 v119 (fun v124 => X cp n c (fr_law19_CcStays_18 p0 p1 p2 p3 v116 v117 v118 v124) k) from by kernel_rfl)) i_law19_CcStays_9).trans (congrArg (fun q => s_law19_CcStays_17 cp n p0 p1 p2 p3 v116 v117 v118 v119 q) (funext fun v124 => (s_law19_CcStays_39_t cp n p0 p1 p2 p3 v116 v117 v118 v124 k).trans (show s_law19_CcStays_39 cp n p0 p1 p2 p3 v116 v117 v118 v124 (fun v157 v158 => k .norm (fr_law19_CcStays_40 p0 p1 p2 p3 v116 v117 v157 v158)) = s_law19_CcStays_39 cp n p0 p1 p2 p3 v116 v117 v118 v124 (fun v157 v158 => k .norm (fr_law19_CcStays_41 p0 p1 p2 p3 v116 v117 v157 v158)) from by kernel_rfl)))
def fr_law19_CcStays_44 (p0 p1 : Int) (p2 : (List SSample)) (p3 : (List Int)) (v116 : Int) (v117 : SCc) (v161 : Int) (v162 : SCc) : FF := [(tL p0) :: (tL p1) :: (.row false (.rSample p2)) :: (.row false (.rint p3)) :: (dT 5 ((.ptr 179 0) :: (dT 1 ((tL v116) :: (.ptr 202 0) :: (tL v161) :: (dT 2 []))))), dc, dc, dc, dc, dc, dc, dc, dc, dc, dc, dT 3 ((.hdr 22) :: (sl 0 12 (eCc v117))), sl 12 10 (eCc v117) ++ ((.hdr 22) :: (sl 0 5 (eCc v162))), sl 5 16 (eCc v162), sl 21 1 (eCc v162) ++ (dT 15 [])]
theorem s_law19_CcStays_43_t {R : Type} (cp : Nat → Nat → Bool) (n : Nat) (p0 p1 : Int) (p2 : (List SSample)) (p3 : (List Int)) (v116 : Int) (v117 : SCc) (v118 : Int) (v119 : Bool) (k : Ex → FF → Option R) : X cp n i_law19_CcStays_11 (fr_law19_CcStays_14 p0 p1 p2 p3 v116 v117 v118 v119) k = s_law19_CcStays_43 cp n p0 p1 p2 p3 v116 v117 v118 v119 (fun v161 v162 => k .norm (fr_law19_CcStays_44 p0 p1 p2 p3 v116 v117 v161 v162)) := (show X cp n i_law19_CcStays_11 (fr_law19_CcStays_14 p0 p1 p2 p3 v116 v117 v118 v119) k = cond (v119) (X cp n i_law19_CcStays_0 (fr_law19_CcStays_14 p0 p1 p2 p3 v116 v117 v118 v119) k) (X cp n i_law19_CcStays_10 (fr_law19_CcStays_14 p0 p1 p2 p3 v116 v117 v118 v119) k) from by kernel_rfl).trans (cc ((s_law19_CcStays_15_t cp n p0 p1 p2 p3 v116 v117 v118 v119 k).trans (show s_law19_CcStays_15 cp n p0 p1 p2 p3 v116 v117 v118 v119 (fun v122 v123 => k .norm (fr_law19_CcStays_16 p0 p1 p2 p3 v116 v117 v122 v123)) = s_law19_CcStays_15 cp n p0 p1 p2 p3 v116 v117 v118 v119 (fun v122 v123 => k .norm (fr_law19_CcStays_44 p0 p1 p2 p3 v116 v117 v122 v123)) from by kernel_rfl)) ((s_law19_CcStays_42_t cp n p0 p1 p2 p3 v116 v117 v118 v119 k).trans (show s_law19_CcStays_42 cp n p0 p1 p2 p3 v116 v117 v118 v119 (fun v159 v160 => k .norm (fr_law19_CcStays_41 p0 p1 p2 p3 v116 v117 v159 v160)) = s_law19_CcStays_42 cp n p0 p1 p2 p3 v116 v117 v118 v119 (fun v159 v160 => k .norm (fr_law19_CcStays_44 p0 p1 p2 p3 v116 v117 v159 v160)) from by kernel_rfl)))
def fr_law19_CcStays_45 (p0 p1 : Int) (p2 : (List SSample)) (p3 : (List Int)) (v116 : Int) (v117 : SCc) (v163 : Int) (v164 : SCc) : FF := [(tL p0) :: (tL p1) :: (.row false (.rSample p2)) :: (.row false (.rint p3)) :: (dT 5 ((.ptr 179 0) :: (dT 1 ((tL v116) :: (.ptr 202 0) :: (tL v163) :: (dT 2 []))))), dc, dc, dc, dc, dc, dc, dc, dc, dc, dc, dT 3 ((.hdr 22) :: (sl 0 12 (eCc v117))), sl 12 10 (eCc v117) ++ ((.hdr 22) :: (sl 0 5 (eCc v164))), sl 5 16 (eCc v164), sl 21 1 (eCc v164) ++ (dT 15 [])]
theorem s_law19_CcStays_46_t {R : Type} (cp : Nat → Nat → Bool) (n : Nat) (p0 p1 : Int) (p2 : (List SSample)) (p3 : (List Int)) (v116 : Int) (v117 : SCc) (v118 : Int) (k : Ex → FF → Option R) : X cp n i_law19_CcStays_12 (fr_law19_CcStays_12 p0 p1 p2 p3 v116 v117 v118) k = s_law19_CcStays_46 cp n p0 p1 p2 p3 v116 v117 v118 (fun v163 v164 => k .norm (fr_law19_CcStays_45 p0 p1 p2 p3 v116 v117 v163 v164)) := ((fun c => (show X cp n (.seq (.fin (.reg g_law19_CcStays_9) [49] []) c) (fr_law19_CcStays_12 p0 p1 p2 p3 v116 v117 v118) k = s_law19_CcStays_13 cp n p0 p1 p2 p3 v116 v117 v118 (fun v119 => X cp n c (fr_law19_CcStays_14 p0 p1 p2 p3 v116 v117 v118 v119) k) from by kernel_rfl)) i_law19_CcStays_11).trans (congrArg (fun q => s_law19_CcStays_13 cp n p0 p1 p2 p3 v116 v117 v118 q) (funext fun v119 => (s_law19_CcStays_43_t cp n p0 p1 p2 p3 v116 v117 v118 v119 k).trans (show s_law19_CcStays_43 cp n p0 p1 p2 p3 v116 v117 v118 v119 (fun v161 v162 => k .norm (fr_law19_CcStays_44 p0 p1 p2 p3 v116 v117 v161 v162)) = s_law19_CcStays_43 cp n p0 p1 p2 p3 v116 v117 v118 v119 (fun v161 v162 => k .norm (fr_law19_CcStays_45 p0 p1 p2 p3 v116 v117 v161 v162)) from by kernel_rfl)))
def fr_law19_CcStays_47 (p0 p1 : Int) (p2 : (List SSample)) (p3 : (List Int)) (v116 : Int) (v117 : SCc) (v165 : Int) (v166 : SCc) : FF := [(tL p0) :: (tL p1) :: (.row false (.rSample p2)) :: (.row false (.rint p3)) :: (dT 5 ((.ptr 179 0) :: (dT 1 ((tL v116) :: (.ptr 202 0) :: (tL v165) :: (dT 2 []))))), dc, dc, dc, dc, dc, dc, dc, dc, dc, dc, dT 3 ((.hdr 22) :: (sl 0 12 (eCc v117))), sl 12 10 (eCc v117) ++ ((.hdr 22) :: (sl 0 5 (eCc v166))), sl 5 16 (eCc v166), sl 21 1 (eCc v166) ++ (dT 15 [])]
theorem s_law19_CcStays_48_t {R : Type} (cp : Nat → Nat → Bool) (n : Nat) (p0 p1 : Int) (p2 : (List SSample)) (p3 : (List Int)) (v116 : Int) (v117 : SCc) (v118 : Int) (k : Ex → FF → Option R) : X cp n i_law19_CcStays_13 (fr_law19_CcStays_12 p0 p1 p2 p3 v116 v117 v118) k = s_law19_CcStays_48 cp n p0 p1 p2 p3 v116 v117 v118 (fun v165 v166 => k .norm (fr_law19_CcStays_47 p0 p1 p2 p3 v116 v117 v165 v166)) := (show X cp n i_law19_CcStays_13 (fr_law19_CcStays_12 p0 p1 p2 p3 v116 v117 v118) k = X cp n i_law19_CcStays_12 (fr_law19_CcStays_12 p0 p1 p2 p3 v116 v117 v118) (blkT 2 k) from by kernel_rfl).trans ((s_law19_CcStays_46_t cp n p0 p1 p2 p3 v116 v117 v118 (blkT 2 k)).trans (by kernel_rfl))
def fr_law19_CcStays_49 (p0 p1 : Int) (p2 : (List SSample)) (p3 : (List Int)) (v116 : Int) (v117 : SCc) (v167 : Int) (v168 : SCc) : FF := [(tL p0) :: (tL p1) :: (.row false (.rSample p2)) :: (.row false (.rint p3)) :: (dT 5 ((.ptr 179 0) :: (dT 1 ((tL v116) :: (.ptr 202 0) :: (tL v167) :: (dT 2 []))))), dc, dc, dc, dc, dc, dc, dc, dc, dc, dc, dT 3 ((.hdr 22) :: (sl 0 12 (eCc v117))), sl 12 10 (eCc v117) ++ ((.hdr 22) :: (sl 0 5 (eCc v168))), sl 5 16 (eCc v168), sl 21 1 (eCc v168) ++ (dT 15 [])]
theorem s_law19_CcStays_50_t {R : Type} (cp : Nat → Nat → Bool) (n : Nat) (p0 p1 : Int) (p2 : (List SSample)) (p3 : (List Int)) (v116 : Int) (v117 : SCc) (k : Ex → FF → Option R) : X cp n i_law19_CcStays_14 (fr_law19_CcStays_10 p0 p1 p2 p3 v116 v117) k = s_law19_CcStays_50 cp n p0 p1 p2 p3 v116 v117 (fun v167 v168 => k .norm (fr_law19_CcStays_49 p0 p1 p2 p3 v116 v117 v167 v168)) := ((fun c => (show X cp n (.seq (.fin (.reg g_law19_CcStays_8) [43, 44, 45, 46] []) c) (fr_law19_CcStays_10 p0 p1 p2 p3 v116 v117) k = s_law19_CcStays_11 cp n p0 p1 p2 p3 v116 v117 (fun v118 => X cp n c (fr_law19_CcStays_12 p0 p1 p2 p3 v116 v117 v118) k) from by kernel_rfl)) i_law19_CcStays_13).trans (congrArg (fun q => s_law19_CcStays_11 cp n p0 p1 p2 p3 v116 v117 q) (funext fun v118 => (s_law19_CcStays_48_t cp n p0 p1 p2 p3 v116 v117 v118 k).trans (show s_law19_CcStays_48 cp n p0 p1 p2 p3 v116 v117 v118 (fun v165 v166 => k .norm (fr_law19_CcStays_47 p0 p1 p2 p3 v116 v117 v165 v166)) = s_law19_CcStays_48 cp n p0 p1 p2 p3 v116 v117 v118 (fun v165 v166 => k .norm (fr_law19_CcStays_49 p0 p1 p2 p3 v116 v117 v165 v166)) from by kernel_rfl)))
def fr_law19_CcStays_52 (p0 p1 : Int) (p2 : (List SSample)) (p3 : (List Int)) (v116 : Int) (v168 : SCc) : FF := [(tL p0) :: (tL p1) :: (.row false (.rSample p2)) :: (.row false (.rint p3)) :: (dT 5 ((.ptr 179 0) :: (dT 1 ((tL v116) :: (dT 4 []))))), dc, dc, dc, dc, dc, dc, dc, dc, dc, dc, dT 3 ((.hdr 22) :: (sl 0 12 (eCc v168))), sl 12 10 (eCc v168) ++ (dT 6 []), dc, dc]
def fr_law19_CcStays_53 (v172 : Bool) : FF := [dT 8 ((tB v172) :: (dT 7 [])), dc, dc, dc, dc, dc, dc, dc, dc, dc, dc, dc, dc, dc, dc]
theorem s_law19_CcStays_51_t {R : Type} (cp : Nat → Nat → Bool) (n : Nat) (p0 p1 : Int) (p2 : (List SSample)) (p3 : (List Int)) (v116 : Int) (v117 : SCc) (v167 : Int) (v168 : SCc) (k : Ex → FF → Option R) : X cp n i_law19_CcStays_15 (fr_law19_CcStays_49 p0 p1 p2 p3 v116 v117 v167 v168) k = s_law19_CcStays_51 cp n p0 p1 p2 p3 v116 v117 v167 v168 (k .norm (fr_law19_CcStays_52 p0 p1 p2 p3 v116 v168)) (fun v172 => k .ret (fr_law19_CcStays_53 v172)) := by kernel_rfl
def fr_law19_CcStays_54 (p0 p1 : Int) (p2 : (List SSample)) (p3 : (List Int)) (v116 : Int) (v173 : SCc) : FF := [(tL p0) :: (tL p1) :: (.row false (.rSample p2)) :: (.row false (.rint p3)) :: (dT 5 ((.ptr 179 0) :: (dT 1 ((tL v116) :: (dT 4 []))))), dc, dc, dc, dc, dc, dc, dc, dc, dc, dc, dT 3 ((.hdr 22) :: (sl 0 12 (eCc v173))), sl 12 10 (eCc v173) ++ (dT 6 []), dc, dc]
def fr_law19_CcStays_55 (v174 : Bool) : FF := [dT 8 ((tB v174) :: (dT 7 [])), dc, dc, dc, dc, dc, dc, dc, dc, dc, dc, dc, dc, dc, dc]
theorem s_law19_CcStays_56_t {R : Type} (cp : Nat → Nat → Bool) (n : Nat) (p0 p1 : Int) (p2 : (List SSample)) (p3 : (List Int)) (v116 : Int) (v117 : SCc) (k : Ex → FF → Option R) : X cp n i_law19_CcStays_16 (fr_law19_CcStays_10 p0 p1 p2 p3 v116 v117) k = s_law19_CcStays_56 cp n p0 p1 p2 p3 v116 v117 (fun v173 => k .norm (fr_law19_CcStays_54 p0 p1 p2 p3 v116 v173)) (fun v174 => k .ret (fr_law19_CcStays_55 v174)) := (show X cp n i_law19_CcStays_16 (fr_law19_CcStays_10 p0 p1 p2 p3 v116 v117) k = X cp n i_law19_CcStays_14 (fr_law19_CcStays_10 p0 p1 p2 p3 v116 v117) (seqT (X cp n) i_law19_CcStays_15 k) from by kernel_rfl).trans ((show X cp n i_law19_CcStays_14 (fr_law19_CcStays_10 p0 p1 p2 p3 v116 v117) (seqT (X cp n) i_law19_CcStays_15 k) = s_law19_CcStays_50 cp n p0 p1 p2 p3 v116 v117 (fun v167 v168 => X cp n i_law19_CcStays_15 (fr_law19_CcStays_49 p0 p1 p2 p3 v116 v117 v167 v168) k) from (s_law19_CcStays_50_t cp n p0 p1 p2 p3 v116 v117 (seqT (X cp n) i_law19_CcStays_15 k)).trans (by kernel_rfl)).trans (congrArg (fun q => s_law19_CcStays_50 cp n p0 p1 p2 p3 v116 v117 q) (funext fun v167 => funext fun v168 => (s_law19_CcStays_51_t cp n p0 p1 p2 p3 v116 v117 v167 v168 k).trans (show s_law19_CcStays_51 cp n p0 p1 p2 p3 v116 v117 v167 v168 (k .norm (fr_law19_CcStays_52 p0 p1 p2 p3 v116 v168)) (fun v172 => k .ret (fr_law19_CcStays_53 v172)) = s_law19_CcStays_51 cp n p0 p1 p2 p3 v116 v117 v167 v168 (k .norm (fr_law19_CcStays_54 p0 p1 p2 p3 v116 v168)) (fun v172 => k .ret (fr_law19_CcStays_55 v172)) from by kernel_rfl))))
def fr_law19_CcStays_57 (p0 p1 : Int) (p2 : (List SSample)) (p3 : (List Int)) (v116 : Int) (v175 : SCc) : FF := [(tL p0) :: (tL p1) :: (.row false (.rSample p2)) :: (.row false (.rint p3)) :: (dT 5 ((.ptr 179 0) :: (dT 1 ((tL v116) :: (dT 4 []))))), dc, dc, dc, dc, dc, dc, dc, dc, dc, dc, dT 3 ((.hdr 22) :: (sl 0 12 (eCc v175))), sl 12 10 (eCc v175) ++ (dT 6 []), dc, dc]
def fr_law19_CcStays_58 (v176 : Bool) : FF := [dT 8 ((tB v176) :: (dT 7 [])), dc, dc, dc, dc, dc, dc, dc, dc, dc, dc, dc, dc, dc, dc]
theorem s_law19_CcStays_59_t {R : Type} (cp : Nat → Nat → Bool) (n : Nat) (p0 p1 : Int) (p2 : (List SSample)) (p3 : (List Int)) (v116 : Int) (v117 : SCc) (k : Ex → FF → Option R) : X cp n i_law19_CcStays_17 (fr_law19_CcStays_7 p0 p1 p2 p3 v116 v117) k = s_law19_CcStays_59 cp n p0 p1 p2 p3 v116 v117 (fun v175 => k .norm (fr_law19_CcStays_57 p0 p1 p2 p3 v116 v175)) (fun v176 => k .ret (fr_law19_CcStays_58 v176)) := ((fun c => (show X cp n (.seq (.fin (.reg g_law19_CcStays_7) [42] []) c) (fr_law19_CcStays_7 p0 p1 p2 p3 v116 v117) k = s_law19_CcStays_9 cp n p0 p1 p2 p3 v116 v117 (X cp n c (fr_law19_CcStays_10 p0 p1 p2 p3 v116 v117) k) from by kernel_rfl)) i_law19_CcStays_16).trans (congrArg (fun q => s_law19_CcStays_9 cp n p0 p1 p2 p3 v116 v117 q) ((s_law19_CcStays_56_t cp n p0 p1 p2 p3 v116 v117 k).trans (show s_law19_CcStays_56 cp n p0 p1 p2 p3 v116 v117 (fun v173 => k .norm (fr_law19_CcStays_54 p0 p1 p2 p3 v116 v173)) (fun v174 => k .ret (fr_law19_CcStays_55 v174)) = s_law19_CcStays_56 cp n p0 p1 p2 p3 v116 v117 (fun v173 => k .norm (fr_law19_CcStays_57 p0 p1 p2 p3 v116 v173)) (fun v174 => k .ret (fr_law19_CcStays_58 v174)) from by kernel_rfl)))
def fr_law19_CcStays_60 (p0 p1 : Int) (p2 : (List SSample)) (p3 : (List Int)) (v116 : Int) (v177 : SCc) : FF := [(tL p0) :: (tL p1) :: (.row false (.rSample p2)) :: (.row false (.rint p3)) :: (dT 5 ((.ptr 179 0) :: (dT 1 ((tL v116) :: (dT 4 []))))), dc, dc, dc, dc, dc, dc, dc, dc, dc, dc, dT 3 ((.hdr 22) :: (sl 0 12 (eCc v177))), sl 12 10 (eCc v177) ++ (dT 6 []), dc, dc]
def fr_law19_CcStays_61 (v178 : Bool) : FF := [dT 8 ((tB v178) :: (dT 7 [])), dc, dc, dc, dc, dc, dc, dc, dc, dc, dc, dc, dc, dc, dc]
theorem s_law19_CcStays_62_t {R : Type} (cp : Nat → Nat → Bool) (n : Nat) (p0 p1 : Int) (p2 : (List SSample)) (p3 : (List Int)) (v116 : Int) (v117 : SCc) (k : Ex → FF → Option R) : X cp n i_law19_CcStays_18 (fr_law19_CcStays_7 p0 p1 p2 p3 v116 v117) k = s_law19_CcStays_62 cp n p0 p1 p2 p3 v116 v117 (fun v177 => k .norm (fr_law19_CcStays_60 p0 p1 p2 p3 v116 v177)) (fun v178 => k .ret (fr_law19_CcStays_61 v178)) := (show X cp n i_law19_CcStays_18 (fr_law19_CcStays_7 p0 p1 p2 p3 v116 v117) k = X cp n i_law19_CcStays_17 (fr_law19_CcStays_7 p0 p1 p2 p3 v116 v117) (blkT 1 k) from by kernel_rfl).trans ((s_law19_CcStays_59_t cp n p0 p1 p2 p3 v116 v117 (blkT 1 k)).trans (by kernel_rfl))
def fr_law19_CcStays_64 (p0 p1 : Int) (p2 : (List SSample)) (p3 : (List Int)) (v177 : SCc) (v179 : Int) : FF := [(tL p0) :: (tL p1) :: (.row false (.rSample p2)) :: (.row false (.rint p3)) :: (dT 5 ((.ptr 179 0) :: (dT 1 ((tL v179) :: (dT 4 []))))), dc, dc, dc, dc, dc, dc, dc, dc, dc, dc, dT 3 ((.hdr 22) :: (sl 0 12 (eCc v177))), sl 12 10 (eCc v177) ++ (dT 6 []), dc, dc]
theorem s_law19_CcStays_63_t {R : Type} (cp : Nat → Nat → Bool) (n : Nat) (p0 p1 : Int) (p2 : (List SSample)) (p3 : (List Int)) (v116 : Int) (v177 : SCc) (k : Ex → FF → Option R) : X cp n i_law19_CcStays_19 (fr_law19_CcStays_60 p0 p1 p2 p3 v116 v177) k = s_law19_CcStays_63 cp n p0 p1 p2 p3 v116 v177 (fun v179 => k .norm (fr_law19_CcStays_64 p0 p1 p2 p3 v177 v179)) := by kernel_rfl
def fr_law19_CcStays_65 (p0 p1 : Int) (p2 : (List SSample)) (p3 : (List Int)) (v180 : Int) (v181 : SCc) : FF := [(tL p0) :: (tL p1) :: (.row false (.rSample p2)) :: (.row false (.rint p3)) :: (dT 5 ((.ptr 179 0) :: (dT 1 ((tL v180) :: (dT 4 []))))), dc, dc, dc, dc, dc, dc, dc, dc, dc, dc, dT 3 ((.hdr 22) :: (sl 0 12 (eCc v181))), sl 12 10 (eCc v181) ++ (dT 6 []), dc, dc]
def fr_law19_CcStays_66 (v182 : Bool) : FF := [dT 8 ((tB v182) :: (dT 7 [])), dc, dc, dc, dc, dc, dc, dc, dc, dc, dc, dc, dc, dc, dc]
theorem s_law19_CcStays_67_t {R : Type} (cp : Nat → Nat → Bool) (n : Nat) (p0 p1 : Int) (p2 : (List SSample)) (p3 : (List Int)) (v116 : Int) (v117 : SCc) (k : Ex → FF → Option R) : X cp n i_law19_CcStays_20 (fr_law19_CcStays_7 p0 p1 p2 p3 v116 v117) k = s_law19_CcStays_67 cp n p0 p1 p2 p3 v116 v117 (fun v180 v181 => k .norm (fr_law19_CcStays_65 p0 p1 p2 p3 v180 v181)) (fun v182 => k .ret (fr_law19_CcStays_66 v182)) := (show X cp n i_law19_CcStays_20 (fr_law19_CcStays_7 p0 p1 p2 p3 v116 v117) k = X cp n i_law19_CcStays_18 (fr_law19_CcStays_7 p0 p1 p2 p3 v116 v117) (seqT (X cp n) i_law19_CcStays_19 k) from by kernel_rfl).trans ((show X cp n i_law19_CcStays_18 (fr_law19_CcStays_7 p0 p1 p2 p3 v116 v117) (seqT (X cp n) i_law19_CcStays_19 k) = s_law19_CcStays_62 cp n p0 p1 p2 p3 v116 v117 (fun v177 => X cp n i_law19_CcStays_19 (fr_law19_CcStays_60 p0 p1 p2 p3 v116 v177) k) (fun v178 => k .ret (fr_law19_CcStays_66 v178)) from (s_law19_CcStays_62_t cp n p0 p1 p2 p3 v116 v117 (seqT (X cp n) i_law19_CcStays_19 k)).trans (by kernel_rfl)).trans (congrArg (fun q => s_law19_CcStays_62 cp n p0 p1 p2 p3 v116 v117 q (fun v178 => k .ret (fr_law19_CcStays_66 v178))) (funext fun v177 => (s_law19_CcStays_63_t cp n p0 p1 p2 p3 v116 v177 k).trans (show s_law19_CcStays_63 cp n p0 p1 p2 p3 v116 v177 (fun v179 => k .norm (fr_law19_CcStays_64 p0 p1 p2 p3 v177 v179)) = s_law19_CcStays_63 cp n p0 p1 p2 p3 v116 v177 (fun v179 => k .norm (fr_law19_CcStays_65 p0 p1 p2 p3 v179 v177)) from by kernel_rfl))))
def fr_law19_CcStays_68 (p0 p1 : Int) (p2 : (List SSample)) (p3 : (List Int)) (v183 : Int) (v184 : SCc) : FF := [(tL p0) :: (tL p1) :: (.row false (.rSample p2)) :: (.row false (.rint p3)) :: (dT 5 ((.ptr 179 0) :: (dT 1 ((tL v183) :: (dT 4 []))))), dc, dc, dc, dc, dc, dc, dc, dc, dc, dc, dT 3 ((.hdr 22) :: (sl 0 12 (eCc v184))), sl 12 10 (eCc v184) ++ (dT 6 []), dc, dc]
def fr_law19_CcStays_69 (v185 : Bool) : FF := [dT 8 ((tB v185) :: (dT 7 [])), dc, dc, dc, dc, dc, dc, dc, dc, dc, dc, dc, dc, dc, dc]
theorem s_law19_CcStays_70_t {R : Type} (cp : Nat → Nat → Bool) (n : Nat) (p0 p1 : Int) (p2 : (List SSample)) (p3 : (List Int)) (v116 : Int) (v117 : SCc) (k : Ex → FF → Option R) : X cp n i_law19_CcStays_21 (fr_law19_CcStays_7 p0 p1 p2 p3 v116 v117) k = s_law19_CcStays_70 cp n p0 p1 p2 p3 v116 v117 (fun v183 v184 => k .norm (fr_law19_CcStays_68 p0 p1 p2 p3 v183 v184)) (fun v185 => k .ret (fr_law19_CcStays_69 v185)) (k (.exit 0) fr_law19_CcStays_8) := ((fun c => (show X cp n (.seq (.seq (.fin (.reg g_law19_CcStays_5) [36, 37, 38] []) (.fin (.cond (.s 39) (.skip) (.clr [0, 1, 2, 3, 9, 11, 39] [(179, 22)] (.exit 0))) [39] [])) c) (fr_law19_CcStays_7 p0 p1 p2 p3 v116 v117) k = s_law19_CcStays_6 cp n p0 p1 p2 p3 v116 v117 (X cp n c (fr_law19_CcStays_7 p0 p1 p2 p3 v116 v117) k) (k (.exit 0) fr_law19_CcStays_8) from by kernel_rfl)) i_law19_CcStays_20).trans (congrArg (fun q => s_law19_CcStays_6 cp n p0 p1 p2 p3 v116 v117 q (k (.exit 0) fr_law19_CcStays_8)) ((s_law19_CcStays_67_t cp n p0 p1 p2 p3 v116 v117 k).trans (show s_law19_CcStays_67 cp n p0 p1 p2 p3 v116 v117 (fun v180 v181 => k .norm (fr_law19_CcStays_65 p0 p1 p2 p3 v180 v181)) (fun v182 => k .ret (fr_law19_CcStays_66 v182)) = s_law19_CcStays_67 cp n p0 p1 p2 p3 v116 v117 (fun v180 v181 => k .norm (fr_law19_CcStays_68 p0 p1 p2 p3 v180 v181)) (fun v182 => k .ret (fr_law19_CcStays_69 v182)) from by kernel_rfl)))
def fr_law19_CcStays_71 (v186 : Bool) : FF := [dT 8 ((tB v186) :: (dT 7 [])), dc, dc, dc, dc, dc, dc, dc, dc, dc, dc, dc, dc, dc, dc]
theorem l_law19_CcStays_72_t {R : Type} (cp : Nat → Nat → Bool) (n : Nat) : ∀ (m : Nat) (p0 p1 : Int) (p2 : (List SSample)) (p3 : (List Int)) (v116 : Int) (v117 : SCc) (k : Ex → FF → Option R), loopN2 (X cp n i_law19_CcStays_21) m (fr_law19_CcStays_7 p0 p1 p2 p3 v116 v117) k = l_law19_CcStays_72 cp n m p0 p1 p2 p3 v116 v117 (fun v186 => k .ret (fr_law19_CcStays_71 v186)) (k (.exit 0) fr_law19_CcStays_8)
  | 0, _, _, _, _, _, _, _ => rfl
  | m + 1, p0, p1, p2, p3, v116, v117, k => (loopN2_succ (X cp n i_law19_CcStays_21) m (fr_law19_CcStays_7 p0 p1 p2 p3 v116 v117) k).trans ((s_law19_CcStays_70_t cp n p0 p1 p2 p3 v116 v117 (loopT (X cp n i_law19_CcStays_21) m k)).trans ((show s_law19_CcStays_70 cp n p0 p1 p2 p3 v116 v117 (fun v183 v184 => loopT (X cp n i_law19_CcStays_21) m k .norm (fr_law19_CcStays_68 p0 p1 p2 p3 v183 v184)) (fun v185 => loopT (X cp n i_law19_CcStays_21) m k .ret (fr_law19_CcStays_69 v185)) (loopT (X cp n i_law19_CcStays_21) m k (.exit 0) fr_law19_CcStays_8) = s_law19_CcStays_70 cp n p0 p1 p2 p3 v116 v117 (fun v183 v184 => loopN2 (X cp n i_law19_CcStays_21) m (fr_law19_CcStays_7 p0 p1 p2 p3 v183 v184) k) (fun v185 => k .ret (fr_law19_CcStays_71 v185)) (k (.exit 0) fr_law19_CcStays_8) from by kernel_rfl).trans (congrArg (fun q => s_law19_CcStays_70 cp n p0 p1 p2 p3 v116 v117 q (fun v185 => k .ret (fr_law19_CcStays_71 v185)) (k (.exit 0) fr_law19_CcStays_8)) (funext fun v183 => funext fun v184 => l_law19_CcStays_72_t cp n m p0 p1 p2 p3 v183 v184 k))))
theorem s_law19_CcStays_73_t {R : Type} (cp : Nat → Nat → Bool) (n : Nat) (p0 p1 : Int) (p2 : (List SSample)) (p3 : (List Int)) (v114 : SCc) (k : Ex → FF → Option R) : X cp n i_law19_CcStays_22 (fr_law19_CcStays_5 p0 p1 p2 p3 v114) k = s_law19_CcStays_73 cp n p0 p1 p2 p3 v114 (fun v186 => k .ret (fr_law19_CcStays_71 v186)) (k (.exit 0) fr_law19_CcStays_8) := (show X cp n i_law19_CcStays_22 (fr_law19_CcStays_5 p0 p1 p2 p3 v114) k = loopN2 (X cp n i_law19_CcStays_21) n (fr_law19_CcStays_7 p0 p1 p2 p3 0 v114) k from by kernel_rfl).trans (l_law19_CcStays_72_t cp n n p0 p1 p2 p3 0 v114 k)
def fr_law19_CcStays_74 (v187 : Bool) : FF := [dT 8 ((tB v187) :: (dT 7 [])), dc, dc, dc, dc, dc, dc, dc, dc, dc, dc, dc, dc, dc, dc]
theorem s_law19_CcStays_75_t {R : Type} (cp : Nat → Nat → Bool) (n : Nat) (p0 p1 : Int) (p2 : (List SSample)) (p3 : (List Int)) (v114 : SCc) (k : Ex → FF → Option R) : X cp n i_law19_CcStays_23 (fr_law19_CcStays_5 p0 p1 p2 p3 v114) k = s_law19_CcStays_75 cp n p0 p1 p2 p3 v114 (k .norm fr_law19_CcStays_8) (fun v187 => k .ret (fr_law19_CcStays_74 v187)) := (show X cp n i_law19_CcStays_23 (fr_law19_CcStays_5 p0 p1 p2 p3 v114) k = X cp n i_law19_CcStays_22 (fr_law19_CcStays_5 p0 p1 p2 p3 v114) (blkT 0 k) from by kernel_rfl).trans ((s_law19_CcStays_73_t cp n p0 p1 p2 p3 v114 (blkT 0 k)).trans (by kernel_rfl))
def fr_law19_CcStays_76 (v188 : Bool) : FF := [dT 8 ((tB v188) :: (dT 7 [])), dc, dc, dc, dc, dc, dc, dc, dc, dc, dc, dc, dc, dc, dc]
theorem s_law19_CcStays_77_t {R : Type} (cp : Nat → Nat → Bool) (n : Nat) (p0 p1 : Int) (p2 : (List SSample)) (p3 : (List Int)) (v114 : SCc) (k : Ex → FF → Option R) : X cp n i_law19_CcStays_24 (fr_law19_CcStays_2 p0 p1 p2 p3 v114) k = s_law19_CcStays_77 cp n p0 p1 p2 p3 v114 (k .norm fr_law19_CcStays_8) (fun v188 => k .ret (fr_law19_CcStays_76 v188)) := ((fun c => (show X cp n (.seq (.reg g_law19_CcStays_4) c) (fr_law19_CcStays_2 p0 p1 p2 p3 v114) k = s_law19_CcStays_4 cp n p0 p1 p2 p3 v114 (X cp n c (fr_law19_CcStays_5 p0 p1 p2 p3 v114) k) from by kernel_rfl)) i_law19_CcStays_23).trans (congrArg (fun q => s_law19_CcStays_4 cp n p0 p1 p2 p3 v114 q) ((s_law19_CcStays_75_t cp n p0 p1 p2 p3 v114 k).trans (show s_law19_CcStays_75 cp n p0 p1 p2 p3 v114 (k .norm fr_law19_CcStays_8) (fun v187 => k .ret (fr_law19_CcStays_74 v187)) = s_law19_CcStays_75 cp n p0 p1 p2 p3 v114 (k .norm fr_law19_CcStays_8) (fun v187 => k .ret (fr_law19_CcStays_76 v187)) from by kernel_rfl)))
def fr_law19_CcStays_79 (v190 : Bool) : FF := [dT 8 ((tB v190) :: (dT 7 [])), dc, dc, dc, dc, dc, dc, dc, dc, dc, dc, dc, dc, dc, dc]
theorem s_law19_CcStays_78_t {R : Type} (cp : Nat → Nat → Bool) (n : Nat) (k : Ex → FF → Option R) : X cp n i_law19_CcStays_25 fr_law19_CcStays_8 k = s_law19_CcStays_78 cp n (fun v190 => k .ret (fr_law19_CcStays_79 v190)) := by kernel_rfl
def fr_law19_CcStays_80 (v191 : Bool) : FF := [dT 8 ((tB v191) :: (dT 7 [])), dc, dc, dc, dc, dc, dc, dc, dc, dc, dc, dc, dc, dc, dc]
theorem s_law19_CcStays_81_t {R : Type} (cp : Nat → Nat → Bool) (n : Nat) (p0 p1 : Int) (p2 : (List SSample)) (p3 : (List Int)) (v114 : SCc) (k : Ex → FF → Option R) : X cp n i_law19_CcStays_26 (fr_law19_CcStays_2 p0 p1 p2 p3 v114) k = s_law19_CcStays_81 cp n p0 p1 p2 p3 v114 (fun v191 => k .ret (fr_law19_CcStays_80 v191)) := (show X cp n i_law19_CcStays_26 (fr_law19_CcStays_2 p0 p1 p2 p3 v114) k = X cp n i_law19_CcStays_24 (fr_law19_CcStays_2 p0 p1 p2 p3 v114) (seqT (X cp n) i_law19_CcStays_25 k) from by kernel_rfl).trans ((show X cp n i_law19_CcStays_24 (fr_law19_CcStays_2 p0 p1 p2 p3 v114) (seqT (X cp n) i_law19_CcStays_25 k) = s_law19_CcStays_77 cp n p0 p1 p2 p3 v114 (X cp n i_law19_CcStays_25 fr_law19_CcStays_8 k) (fun v188 => k .ret (fr_law19_CcStays_80 v188)) from (s_law19_CcStays_77_t cp n p0 p1 p2 p3 v114 (seqT (X cp n) i_law19_CcStays_25 k)).trans (by kernel_rfl)).trans (congrArg (fun q => s_law19_CcStays_77 cp n p0 p1 p2 p3 v114 q (fun v188 => k .ret (fr_law19_CcStays_80 v188))) ((s_law19_CcStays_78_t cp n  k).trans (show s_law19_CcStays_78 cp n (fun v190 => k .ret (fr_law19_CcStays_79 v190)) = s_law19_CcStays_78 cp n (fun v190 => k .ret (fr_law19_CcStays_80 v190)) from by kernel_rfl))))
def fr_law19_CcStays_82 (v192 : Bool) : FF := [dT 8 ((tB v192) :: (dT 7 [])), dc, dc, dc, dc, dc, dc, dc, dc, dc, dc, dc, dc, dc, dc]
def fr_law19_CcStays_84 (p0 p1 : Int) (p2 : (List SSample)) (p3 : (List Int)) : FF := [(tL p0) :: (tL p1) :: (.row false (.rSample p2)) :: (.row false (.rint p3)) :: (dT 12 []), dc, dc, dc, dc, dc, dc, dc, dc, dc, dc, dc, dc, dc, dc]
theorem s_law19_CcStays_83_t {R : Type} (cp : Nat → Nat → Bool) (n : Nat) (p0 p1 : Int) (p2 : (List SSample)) (p3 : (List Int)) (k : Ex → FF → Option R) : X cp n i_law19_CcStays_27 (fr_law19_CcStays_84 p0 p1 p2 p3) k = s_law19_CcStays_83 cp n p0 p1 p2 p3 (fun v192 => k .ret (fr_law19_CcStays_82 v192)) := ((fun c => (show X cp n (.seq (.fin (.reg g_law19_CcStays_0) [8] []) (.seq (.fin (.reg g_law19_CcStays_1) [15, 16, 17, 18, 19, 20] []) (.seq (.seq (.fin (.reg g_law19_CcStays_2) [10, 21, 22, 23, 24, 25, 26, 27, 28, 29, 30, 31, 32, 33] []) (.fin (.cond (.s 34) (.seq (.fin (.reg g_law19_CcStays_3) [0, 1, 2, 3, 9, 34, 35] [(179, 22)]) (.ret)) (.skip)) [34] [])) c))) (fr_law19_CcStays_84 p0 p1 p2 p3) k = s_law19_CcStays_1 cp n p0 p1 p2 p3 (fun v114 => X cp n c (fr_law19_CcStays_2 p0 p1 p2 p3 v114) k) (fun v115 => k .ret (fr_law19_CcStays_82 v115)) from by kernel_rfl)) i_law19_CcStays_26).trans (congrArg (fun q => s_law19_CcStays_1 cp n p0 p1 p2 p3 q (fun v115 => k .ret (fr_law19_CcStays_82 v115))) (funext fun v114 => (s_law19_CcStays_81_t cp n p0 p1 p2 p3 v114 k).trans (show s_law19_CcStays_81 cp n p0 p1 p2 p3 v114 (fun v191 => k .ret (fr_law19_CcStays_80 v191)) = s_law19_CcStays_81 cp n p0 p1 p2 p3 v114 (fun v191 => k .ret (fr_law19_CcStays_82 v191)) from by kernel_rfl)))
theorem run_law19_CcStays {R : Type} (cp : Nat → Nat → Bool) (n : Nat) (p0 p1 : Int) (p2 : (List SSample)) (p3 : (List Int)) (k : Ret2 RW → Option R) : G_law19_CcStays cp (n + 1) p0 p1 p2 p3 (fun r0 => k ⟨(tB r0), [], []⟩) = run2 U cp (callP cp n) n fn_law19_CcStays [(tL p0), (tL p1), .row false (.rSample p2), .row false (.rint p3)] [] k := ((X_run (f := fn_law19_CcStays) (av := [(tL p0), (tL p1), .row false (.rSample p2), .row false (.rint p3)]) (cells := []) (code := i_law19_CcStays_27) (fr := (fr_law19_CcStays_84 p0 p1 p2 p3)) (k := k) (by kernel_rfl) (fun K => by kernel_rfl)).trans ((s_law19_CcStays_83_t cp n p0 p1 p2 p3 (finK2 fn_law19_CcStays k)).trans (by kernel_rfl))).symm
def tbl : Nat → Option IFn
  | 22 => some (fn_reno_New.lo U)
  | 23 => some (fn_cubic_New.lo U)
  | 24 => some (fn_bbr_New.lo U)
  | 7 => some (fn_cc_New.lo U)
  | 32 => some (fn_cc_time.lo U)
  | 33 => some (fn_cc_size.lo U)
  | 51 => some (fn_reno_size.lo U)
  | 1013 => some (fn_reno_ctl_plain.lo U)
  | 28 => some (fn_reno_Check.lo U)
  | 53 => some (fn_cubic_size.lo U)
  | 29 => some (fn_cubic_Check.lo U)
  | 54 => some (fn_bbr_within.lo U)
  | 92 => some (fn_filter_may.lo U)
  | 93 => some (fn_filter_beats.lo U)
  | 76 => some (fn_filter_Check.lo U)
  | 1018 => some (fn_bbr_ctl_entries.lo U)
  | 30 => some (fn_bbr_Check.lo U)
  | 10 => some (fn_cc_Check.lo U)
  | 31 => some (fn_cc_asked.lo U)
  | 12 => some (fn_cc_Rest.lo U)
  | 37 => some (fn_bbr_Gain.lo U)
  | 81 => some (fn_filter_Best.lo U)
  | 1025 => some (fn_bbr_ctl_bandwidth.lo U)
  | 38 => some (fn_bbr_Bandwidth.lo U)
  | 60 => some (fn_math_bits_Mul64.lo U)
  | 96 => some (fn_math_bits_Len64.lo U)
  | 82 => some (fn_math_bits_LeadingZeros64.lo U)
  | 61 => some (fn_math_bits_Div64.lo U)
  | 39 => some (fn_seq_MulDiv.lo U)
  | 16 => some (fn_cc_Pace.lo U)
  | 11 => some (fn_law19_heads.lo U)
  | 63 => some (fn_reno_begun.lo U)
  | 43 => some (fn_reno_Loss.lo U)
  | 1037 => some (fn_cubic_ctl_fall.lo U)
  | 1036 => some (fn_cubic_moved.lo U)
  | 44 => some (fn_cubic_Loss.lo U)
  | 18 => some (fn_cc_Loss.lo U)
  | 45 => some (fn_reno_Timeout.lo U)
  | 1042 => some (fn_cubic_ctl_shut.lo U)
  | 1041 => some (fn_cubic_moved_b.lo U)
  | 46 => some (fn_cubic_Timeout.lo U)
  | 47 => some (fn_bbr_Timeout.lo U)
  | 19 => some (fn_cc_Timeout.lo U)
  | 20 => some (fn_cc_Done.lo U)
  | 14 => some (fn_cc_Limit.lo U)
  | 1048 => some (fn_bbr_ctl_round.lo U)
  | 84 => some (fn_filter_Put.lo U)
  | 1049 => some (fn_bbr_ctl_speed.lo U)
  | 1051 => some (fn_bbr_ctl_shortest.lo U)
  | 1052 => some (fn_bbr_ctl_full.lo U)
  | 1054 => some (fn_bbr_ctl_product.lo U)
  | 1055 => some (fn_bbr_ctl_probe.lo U)
  | 1053 => some (fn_bbr_ctl_cycle.lo U)
  | 1056 => some (fn_bbr_ctl_ask.lo U)
  | 87 => some (fn_seq_Clamp.lo U)
  | 1057 => some (fn_bbr_ctl_window.lo U)
  | 48 => some (fn_bbr_Acked.lo U)
  | 1060 => some (fn_reno_ctl_rise.lo U)
  | 49 => some (fn_reno_Acked.lo U)
  | 91 => some (fn_cubic_by.lo U)
  | 97 => some (fn_seq_Cbrt.lo U)
  | 1063 => some (fn_cubic_ctl_begin.lo U)
  | 90 => some (fn_seq_Sum.lo U)
  | 89 => some (fn_cubic_Curve.lo U)
  | 1062 => some (fn_cubic_ctl_grow.lo U)
  | 50 => some (fn_cubic_Acked.lo U)
  | 21 => some (fn_cc_Acked.lo U)
  | 6 => some (fn_law19_CcStays.lo U)
  | _ => none
theorem chk_reno_New : chkFn Try.prog tbl (fn_reno_New.lo U) = true := by kernel_rfl
theorem chk_cubic_New : chkFn Try.prog tbl (fn_cubic_New.lo U) = true := by kernel_rfl
theorem chk_bbr_New : chkFn Try.prog tbl (fn_bbr_New.lo U) = true := by kernel_rfl
theorem chk_cc_New : chkFn Try.prog tbl (fn_cc_New.lo U) = true := by kernel_rfl
theorem chk_cc_time : chkFn Try.prog tbl (fn_cc_time.lo U) = true := by kernel_rfl
theorem chk_cc_size : chkFn Try.prog tbl (fn_cc_size.lo U) = true := by kernel_rfl
theorem chk_reno_size : chkFn Try.prog tbl (fn_reno_size.lo U) = true := by kernel_rfl
theorem chk_reno_ctl_plain : chkFn Try.prog tbl (fn_reno_ctl_plain.lo U) = true := by kernel_rfl
theorem chk_reno_Check : chkFn Try.prog tbl (fn_reno_Check.lo U) = true := by kernel_rfl
theorem chk_cubic_size : chkFn Try.prog tbl (fn_cubic_size.lo U) = true := by kernel_rfl
theorem chk_cubic_Check : chkFn Try.prog tbl (fn_cubic_Check.lo U) = true := by kernel_rfl
theorem chk_bbr_within : chkFn Try.prog tbl (fn_bbr_within.lo U) = true := by kernel_rfl
theorem chk_filter_may : chkFn Try.prog tbl (fn_filter_may.lo U) = true := by kernel_rfl
theorem chk_filter_beats : chkFn Try.prog tbl (fn_filter_beats.lo U) = true := by kernel_rfl
theorem chk_filter_Check : chkFn Try.prog tbl (fn_filter_Check.lo U) = true := by kernel_rfl
theorem chk_bbr_ctl_entries : chkFn Try.prog tbl (fn_bbr_ctl_entries.lo U) = true := by kernel_rfl
theorem chk_bbr_Check : chkFn Try.prog tbl (fn_bbr_Check.lo U) = true := by kernel_rfl
theorem chk_cc_Check : chkFn Try.prog tbl (fn_cc_Check.lo U) = true := by kernel_rfl
theorem chk_cc_asked : chkFn Try.prog tbl (fn_cc_asked.lo U) = true := by kernel_rfl
theorem chk_cc_Rest : chkFn Try.prog tbl (fn_cc_Rest.lo U) = true := by kernel_rfl
theorem chk_bbr_Gain : chkFn Try.prog tbl (fn_bbr_Gain.lo U) = true := by kernel_rfl
theorem chk_filter_Best : chkFn Try.prog tbl (fn_filter_Best.lo U) = true := by kernel_rfl
theorem chk_bbr_ctl_bandwidth : chkFn Try.prog tbl (fn_bbr_ctl_bandwidth.lo U) = true := by kernel_rfl
theorem chk_bbr_Bandwidth : chkFn Try.prog tbl (fn_bbr_Bandwidth.lo U) = true := by kernel_rfl
theorem chk_math_bits_Mul64 : chkFn Try.prog tbl (fn_math_bits_Mul64.lo U) = true := by kernel_rfl
theorem chk_math_bits_Len64 : chkFn Try.prog tbl (fn_math_bits_Len64.lo U) = true := by kernel_rfl
theorem chk_math_bits_LeadingZeros64 : chkFn Try.prog tbl (fn_math_bits_LeadingZeros64.lo U) = true := by kernel_rfl
theorem chk_math_bits_Div64 : chkFn Try.prog tbl (fn_math_bits_Div64.lo U) = true := by kernel_rfl
theorem chk_seq_MulDiv : chkFn Try.prog tbl (fn_seq_MulDiv.lo U) = true := by kernel_rfl
theorem chk_cc_Pace : chkFn Try.prog tbl (fn_cc_Pace.lo U) = true := by kernel_rfl
theorem chk_law19_heads : chkFn Try.prog tbl (fn_law19_heads.lo U) = true := by kernel_rfl
theorem chk_reno_begun : chkFn Try.prog tbl (fn_reno_begun.lo U) = true := by kernel_rfl
theorem chk_reno_Loss : chkFn Try.prog tbl (fn_reno_Loss.lo U) = true := by kernel_rfl
theorem chk_cubic_ctl_fall : chkFn Try.prog tbl (fn_cubic_ctl_fall.lo U) = true := by kernel_rfl
theorem chk_cubic_moved : chkFn Try.prog tbl (fn_cubic_moved.lo U) = true := by kernel_rfl
theorem chk_cubic_Loss : chkFn Try.prog tbl (fn_cubic_Loss.lo U) = true := by kernel_rfl
theorem chk_cc_Loss : chkFn Try.prog tbl (fn_cc_Loss.lo U) = true := by kernel_rfl
theorem chk_reno_Timeout : chkFn Try.prog tbl (fn_reno_Timeout.lo U) = true := by kernel_rfl
theorem chk_cubic_ctl_shut : chkFn Try.prog tbl (fn_cubic_ctl_shut.lo U) = true := by kernel_rfl
theorem chk_cubic_moved_b : chkFn Try.prog tbl (fn_cubic_moved_b.lo U) = true := by kernel_rfl
theorem chk_cubic_Timeout : chkFn Try.prog tbl (fn_cubic_Timeout.lo U) = true := by kernel_rfl
theorem chk_bbr_Timeout : chkFn Try.prog tbl (fn_bbr_Timeout.lo U) = true := by kernel_rfl
theorem chk_cc_Timeout : chkFn Try.prog tbl (fn_cc_Timeout.lo U) = true := by kernel_rfl
theorem chk_cc_Done : chkFn Try.prog tbl (fn_cc_Done.lo U) = true := by kernel_rfl
theorem chk_cc_Limit : chkFn Try.prog tbl (fn_cc_Limit.lo U) = true := by kernel_rfl
theorem chk_bbr_ctl_round : chkFn Try.prog tbl (fn_bbr_ctl_round.lo U) = true := by kernel_rfl
theorem chk_filter_Put : chkFn Try.prog tbl (fn_filter_Put.lo U) = true := by kernel_rfl
theorem chk_bbr_ctl_speed : chkFn Try.prog tbl (fn_bbr_ctl_speed.lo U) = true := by kernel_rfl
theorem chk_bbr_ctl_shortest : chkFn Try.prog tbl (fn_bbr_ctl_shortest.lo U) = true := by kernel_rfl
theorem chk_bbr_ctl_full : chkFn Try.prog tbl (fn_bbr_ctl_full.lo U) = true := by kernel_rfl
theorem chk_bbr_ctl_product : chkFn Try.prog tbl (fn_bbr_ctl_product.lo U) = true := by kernel_rfl
theorem chk_bbr_ctl_probe : chkFn Try.prog tbl (fn_bbr_ctl_probe.lo U) = true := by kernel_rfl
theorem chk_bbr_ctl_cycle : chkFn Try.prog tbl (fn_bbr_ctl_cycle.lo U) = true := by kernel_rfl
theorem chk_bbr_ctl_ask : chkFn Try.prog tbl (fn_bbr_ctl_ask.lo U) = true := by kernel_rfl
theorem chk_seq_Clamp : chkFn Try.prog tbl (fn_seq_Clamp.lo U) = true := by kernel_rfl
theorem chk_bbr_ctl_window : chkFn Try.prog tbl (fn_bbr_ctl_window.lo U) = true := by kernel_rfl
theorem chk_bbr_Acked : chkFn Try.prog tbl (fn_bbr_Acked.lo U) = true := by kernel_rfl
theorem chk_reno_ctl_rise : chkFn Try.prog tbl (fn_reno_ctl_rise.lo U) = true := by kernel_rfl
theorem chk_reno_Acked : chkFn Try.prog tbl (fn_reno_Acked.lo U) = true := by kernel_rfl
theorem chk_cubic_by : chkFn Try.prog tbl (fn_cubic_by.lo U) = true := by kernel_rfl
theorem chk_seq_Cbrt : chkFn Try.prog tbl (fn_seq_Cbrt.lo U) = true := by kernel_rfl
theorem chk_cubic_ctl_begin : chkFn Try.prog tbl (fn_cubic_ctl_begin.lo U) = true := by kernel_rfl
theorem chk_seq_Sum : chkFn Try.prog tbl (fn_seq_Sum.lo U) = true := by kernel_rfl
theorem chk_cubic_Curve : chkFn Try.prog tbl (fn_cubic_Curve.lo U) = true := by kernel_rfl
theorem chk_cubic_ctl_grow : chkFn Try.prog tbl (fn_cubic_ctl_grow.lo U) = true := by kernel_rfl
theorem chk_cubic_Acked : chkFn Try.prog tbl (fn_cubic_Acked.lo U) = true := by kernel_rfl
theorem chk_cc_Acked : chkFn Try.prog tbl (fn_cc_Acked.lo U) = true := by kernel_rfl
theorem chk_law19_CcStays : chkFn Try.prog tbl (fn_law19_CcStays.lo U) = true := by kernel_rfl
theorem chkAll : ∀ (id : Nat) (f : IFn), tbl id = some f → chkFn Try.prog tbl f = true := by
  intro id f h
  unfold tbl at h
  split at h
  · cases h; exact chk_reno_New
  · cases h; exact chk_cubic_New
  · cases h; exact chk_bbr_New
  · cases h; exact chk_cc_New
  · cases h; exact chk_cc_time
  · cases h; exact chk_cc_size
  · cases h; exact chk_reno_size
  · cases h; exact chk_reno_ctl_plain
  · cases h; exact chk_reno_Check
  · cases h; exact chk_cubic_size
  · cases h; exact chk_cubic_Check
  · cases h; exact chk_bbr_within
  · cases h; exact chk_filter_may
  · cases h; exact chk_filter_beats
  · cases h; exact chk_filter_Check
  · cases h; exact chk_bbr_ctl_entries
  · cases h; exact chk_bbr_Check
  · cases h; exact chk_cc_Check
  · cases h; exact chk_cc_asked
  · cases h; exact chk_cc_Rest
  · cases h; exact chk_bbr_Gain
  · cases h; exact chk_filter_Best
  · cases h; exact chk_bbr_ctl_bandwidth
  · cases h; exact chk_bbr_Bandwidth
  · cases h; exact chk_math_bits_Mul64
  · cases h; exact chk_math_bits_Len64
  · cases h; exact chk_math_bits_LeadingZeros64
  · cases h; exact chk_math_bits_Div64
  · cases h; exact chk_seq_MulDiv
  · cases h; exact chk_cc_Pace
  · cases h; exact chk_law19_heads
  · cases h; exact chk_reno_begun
  · cases h; exact chk_reno_Loss
  · cases h; exact chk_cubic_ctl_fall
  · cases h; exact chk_cubic_moved
  · cases h; exact chk_cubic_Loss
  · cases h; exact chk_cc_Loss
  · cases h; exact chk_reno_Timeout
  · cases h; exact chk_cubic_ctl_shut
  · cases h; exact chk_cubic_moved_b
  · cases h; exact chk_cubic_Timeout
  · cases h; exact chk_bbr_Timeout
  · cases h; exact chk_cc_Timeout
  · cases h; exact chk_cc_Done
  · cases h; exact chk_cc_Limit
  · cases h; exact chk_bbr_ctl_round
  · cases h; exact chk_filter_Put
  · cases h; exact chk_bbr_ctl_speed
  · cases h; exact chk_bbr_ctl_shortest
  · cases h; exact chk_bbr_ctl_full
  · cases h; exact chk_bbr_ctl_product
  · cases h; exact chk_bbr_ctl_probe
  · cases h; exact chk_bbr_ctl_cycle
  · cases h; exact chk_bbr_ctl_ask
  · cases h; exact chk_seq_Clamp
  · cases h; exact chk_bbr_ctl_window
  · cases h; exact chk_bbr_Acked
  · cases h; exact chk_reno_ctl_rise
  · cases h; exact chk_reno_Acked
  · cases h; exact chk_cubic_by
  · cases h; exact chk_seq_Cbrt
  · cases h; exact chk_cubic_ctl_begin
  · cases h; exact chk_seq_Sum
  · cases h; exact chk_cubic_Curve
  · cases h; exact chk_cubic_ctl_grow
  · cases h; exact chk_cubic_Acked
  · cases h; exact chk_cc_Acked
  · cases h; exact chk_law19_CcStays
  · cases h
theorem dI_ok {kd : IntKind} {y : TV RW} {a : Int} (h : dI kd y = some a) : y = .sc (.int kd a) := by
  unfold dI at h
  split at h
  · obtain ⟨h1, h2⟩ := cond_some h
    cases h2
    rw [of_decide_eq_true h1]
  · cases h
theorem dB_ok {y : TV RW} {a : Bool} (h : dB y = some a) : y = .sc (.bool a) := by
  unfold dB at h
  split at h <;> cases h
  rfl
theorem dS_ok {y : TV RW} {a : ByteArray} (h : dS y = some a) : y = .sc (.string a) := by
  unfold dS at h
  split at h <;> cases h
  rfl
theorem dA_ok {y : TV RW} {a : Fr} (h : dA y = some a) : y = .agg a := by
  unfold dA at h
  split at h <;> cases h
  rfl
theorem dOne_ok {y : Fr} {a : TV RW} (h : dOne y = some a) : y = [a] := by
  unfold dOne at h
  split at h <;> cases h
  rfl
theorem dP_ok {a b : Nat} {y : TV RW} {u : Unit} (h : dP a b y = some u) : y = .ptr a b := by
  unfold dP at h
  split at h
  · obtain ⟨h1, h2⟩ := cond_some h
    simp only [Bool.and_eq_true] at h1
    rw [nbeq h1.1, nbeq h1.2]
  · cases h
theorem dC_ok {a : Nat} {b : List (Nat × Nat)} {y : TV RW} {u : Unit} (h : dC a b y = some u) : y = .clo a b := by
  unfold dC at h
  split at h
  · obtain ⟨h1, h2⟩ := cond_some h
    simp only [Bool.and_eq_true] at h1
    rw [nbeq h1.1, of_decide_eq_true h1.2]
  · cases h
theorem dRSample_ok {fl : Bool} {y : TV RW} {a : List SSample} (h : dRSample fl y = some a) : y = .row fl (.rSample a) := by
  unfold dRSample at h
  split at h
  · obtain ⟨h1, h2⟩ := cond_some h
    cases h2
    rw [eq_of_beq h1]
  · cases h
theorem dRint_ok {fl : Bool} {y : TV RW} {a : List Int} (h : dRint fl y = some a) : y = .row fl (.rint a) := by
  unfold dRint at h
  split at h
  · obtain ⟨h1, h2⟩ := cond_some h
    cases h2
    rw [eq_of_beq h1]
  · cases h
theorem dREntry_ok {fl : Bool} {y : TV RW} {a : List SEntry} (h : dREntry fl y = some a) : y = .row fl (.rEntry a) := by
  unfold dREntry at h
  split at h
  · obtain ⟨h1, h2⟩ := cond_some h
    cases h2
    rw [eq_of_beq h1]
  · cases h
theorem dSample_ok {L : Fr} {a : SSample} (h : dSample L = some a) : L = eSample a := by
  unfold dSample at h
  split at h
  · simp only [Option.bind_eq_some_iff] at h
    obtain ⟨a0, h0, a1, h1, a2, h2, a3, h3, a4, h4, a5, h5, a6, h6, a7, h7, h⟩ := h
    cases h
    obtain rfl := dI_ok h0
    obtain rfl := dI_ok h1
    obtain rfl := dI_ok h2
    obtain rfl := dI_ok h3
    obtain rfl := dB_ok h4
    obtain rfl := dI_ok h5
    obtain rfl := dI_ok h6
    obtain rfl := dI_ok h7
    rfl
  · cases h
theorem dCc_ok {L : Fr} {a : SCc} (h : dCc L = some a) : L = eCc a := by
  unfold dCc at h
  split at h
  · simp only [Option.bind_eq_some_iff] at h
    obtain ⟨a0, h0, a1, h1, a2, h2, a3, h3, a4, h4, a5, h5, a6, h6, a7, h7, a8, h8, a9, h9, a10, h10, a11, h11, a12, h12, a13, h13, a14, h14, a15, h15, a16, h16, a17, h17, a18, h18, a19, h19, a20, h20, a21, h21, h⟩ := h
    cases h
    obtain rfl := dI_ok h0
    obtain rfl := dI_ok h1
    obtain rfl := dI_ok h2
    obtain rfl := dI_ok h3
    obtain rfl := dI_ok h4
    obtain rfl := dI_ok h5
    obtain rfl := dI_ok h6
    obtain rfl := dI_ok h7
    obtain rfl := dI_ok h8
    obtain rfl := dI_ok h9
    obtain rfl := dI_ok h10
    obtain rfl := dREntry_ok h11
    obtain rfl := dI_ok h12
    obtain rfl := dI_ok h13
    obtain rfl := dI_ok h14
    obtain rfl := dI_ok h15
    obtain rfl := dI_ok h16
    obtain rfl := dI_ok h17
    obtain rfl := dI_ok h18
    obtain rfl := dI_ok h19
    obtain rfl := dI_ok h20
    obtain rfl := dI_ok h21
    rfl
  · cases h
theorem dCct_ok {L : Fr} {a : SCc} (h : dCct L = some a) : L = eCct a := by
  unfold dCct at h
  split at h
  · simp only [Option.bind_eq_some_iff] at h
    obtain ⟨a0, h0, a1, h1, a2, h2, a3, h3, a4, h4, a5, h5, a6, h6, a7, h7, a8, h8, a9, h9, a10, h10, a11, h11, a12, h12, a13, h13, a14, h14, a15, h15, a16, h16, a17, h17, a18, h18, a19, h19, a20, h20, a21, h21, h⟩ := h
    cases h
    obtain rfl := dI_ok h0
    obtain rfl := dI_ok h1
    obtain rfl := dI_ok h2
    obtain rfl := dI_ok h3
    obtain rfl := dI_ok h4
    obtain rfl := dI_ok h5
    obtain rfl := dI_ok h6
    obtain rfl := dI_ok h7
    obtain rfl := dI_ok h8
    obtain rfl := dI_ok h9
    obtain rfl := dI_ok h10
    obtain rfl := dREntry_ok h11
    obtain rfl := dI_ok h12
    obtain rfl := dI_ok h13
    obtain rfl := dI_ok h14
    obtain rfl := dI_ok h15
    obtain rfl := dI_ok h16
    obtain rfl := dI_ok h17
    obtain rfl := dI_ok h18
    obtain rfl := dI_ok h19
    obtain rfl := dI_ok h20
    obtain rfl := dI_ok h21
    rfl
  · cases h
theorem dEntry_ok {L : Fr} {a : SEntry} (h : dEntry L = some a) : L = eEntry a := by
  unfold dEntry at h
  split at h
  · simp only [Option.bind_eq_some_iff] at h
    obtain ⟨a0, h0, a1, h1, h⟩ := h
    cases h
    obtain rfl := dI_ok h0
    obtain rfl := dI_ok h1
    rfl
  · cases h
theorem dctl_ok {L : Fr} {a : Sctl} (h : dctl L = some a) : L = ectl a := by
  unfold dctl at h
  split at h
  · simp only [Option.bind_eq_some_iff] at h
    obtain ⟨a0, h0, a1, h1, a2, h2, a3, h3, a4, h4, a5, h5, a6, h6, a7, h7, a8, h8, a9, h9, a10, h10, a11, h11, a12, h12, a13, h13, a14, h14, a15, h15, a16, h16, a17, h17, a18, h18, a19, h19, a20, h20, a21, h21, h⟩ := h
    cases h
    obtain rfl := dI_ok h0
    obtain rfl := dI_ok h1
    obtain rfl := dI_ok h2
    obtain rfl := dI_ok h3
    obtain rfl := dI_ok h4
    obtain rfl := dI_ok h5
    obtain rfl := dI_ok h6
    obtain rfl := dI_ok h7
    obtain rfl := dI_ok h8
    obtain rfl := dI_ok h9
    obtain rfl := dI_ok h10
    obtain rfl := dREntry_ok h11
    obtain rfl := dI_ok h12
    obtain rfl := dI_ok h13
    obtain rfl := dI_ok h14
    obtain rfl := dI_ok h15
    obtain rfl := dI_ok h16
    obtain rfl := dI_ok h17
    obtain rfl := dI_ok h18
    obtain rfl := dI_ok h19
    obtain rfl := dI_ok h20
    obtain rfl := dI_ok h21
    rfl
  · cases h
theorem dctlt_ok {L : Fr} {a : Sctl} (h : dctlt L = some a) : L = ectlt a := by
  unfold dctlt at h
  split at h
  · simp only [Option.bind_eq_some_iff] at h
    obtain ⟨a0, h0, a1, h1, a2, h2, a3, h3, a4, h4, a5, h5, a6, h6, a7, h7, a8, h8, a9, h9, a10, h10, a11, h11, a12, h12, a13, h13, a14, h14, a15, h15, a16, h16, a17, h17, a18, h18, a19, h19, a20, h20, a21, h21, h⟩ := h
    cases h
    obtain rfl := dI_ok h0
    obtain rfl := dI_ok h1
    obtain rfl := dI_ok h2
    obtain rfl := dI_ok h3
    obtain rfl := dI_ok h4
    obtain rfl := dI_ok h5
    obtain rfl := dI_ok h6
    obtain rfl := dI_ok h7
    obtain rfl := dI_ok h8
    obtain rfl := dI_ok h9
    obtain rfl := dI_ok h10
    obtain rfl := dREntry_ok h11
    obtain rfl := dI_ok h12
    obtain rfl := dI_ok h13
    obtain rfl := dI_ok h14
    obtain rfl := dI_ok h15
    obtain rfl := dI_ok h16
    obtain rfl := dI_ok h17
    obtain rfl := dI_ok h18
    obtain rfl := dI_ok h19
    obtain rfl := dI_ok h20
    obtain rfl := dI_ok h21
    rfl
  · cases h
theorem dT68_ok {L : Fr} {a : ST68} (h : dT68 L = some a) : L = eT68 a := by
  unfold dT68 at h
  split at h
  · simp only [Option.bind_eq_some_iff] at h
    obtain ⟨a0, h0, a1, h1, a2, h2, a3, h3, a4, h4, a5, h5, a6, h6, a7, h7, a8, h8, a9, h9, a10, h10, a11, h11, a12, h12, a13, h13, a14, h14, a15, h15, a16, h16, a17, h17, a18, h18, a19, h19, a20, h20, a21, h21, h⟩ := h
    cases h
    obtain rfl := dI_ok h0
    obtain rfl := dI_ok h1
    obtain rfl := dI_ok h2
    obtain rfl := dI_ok h3
    obtain rfl := dI_ok h4
    obtain rfl := dI_ok h5
    obtain rfl := dI_ok h6
    obtain rfl := dI_ok h7
    obtain rfl := dI_ok h8
    obtain rfl := dI_ok h9
    obtain rfl := dI_ok h10
    obtain rfl := dREntry_ok h11
    obtain rfl := dI_ok h12
    obtain rfl := dI_ok h13
    obtain rfl := dI_ok h14
    obtain rfl := dI_ok h15
    obtain rfl := dI_ok h16
    obtain rfl := dI_ok h17
    obtain rfl := dI_ok h18
    obtain rfl := dI_ok h19
    obtain rfl := dI_ok h20
    obtain rfl := dI_ok h21
    rfl
  · cases h
theorem dT68t_ok {L : Fr} {a : ST68} (h : dT68t L = some a) : L = eT68t a := by
  unfold dT68t at h
  split at h
  · simp only [Option.bind_eq_some_iff] at h
    obtain ⟨a0, h0, a1, h1, a2, h2, a3, h3, a4, h4, a5, h5, a6, h6, a7, h7, a8, h8, a9, h9, a10, h10, a11, h11, a12, h12, a13, h13, a14, h14, a15, h15, a16, h16, a17, h17, a18, h18, a19, h19, a20, h20, a21, h21, h⟩ := h
    cases h
    obtain rfl := dI_ok h0
    obtain rfl := dI_ok h1
    obtain rfl := dI_ok h2
    obtain rfl := dI_ok h3
    obtain rfl := dI_ok h4
    obtain rfl := dI_ok h5
    obtain rfl := dI_ok h6
    obtain rfl := dI_ok h7
    obtain rfl := dI_ok h8
    obtain rfl := dI_ok h9
    obtain rfl := dI_ok h10
    obtain rfl := dREntry_ok h11
    obtain rfl := dI_ok h12
    obtain rfl := dI_ok h13
    obtain rfl := dI_ok h14
    obtain rfl := dI_ok h15
    obtain rfl := dI_ok h16
    obtain rfl := dI_ok h17
    obtain rfl := dI_ok h18
    obtain rfl := dI_ok h19
    obtain rfl := dI_ok h20
    obtain rfl := dI_ok h21
    rfl
  · cases h
theorem dT85_ok {L : Fr} {a : ST85} (h : dT85 L = some a) : L = eT85 a := by
  unfold dT85 at h
  split at h
  · simp only [Option.bind_eq_some_iff] at h
    obtain ⟨a0, h0, a1, h1, a2, h2, a3, h3, a4, h4, a5, h5, a6, h6, a7, h7, a8, h8, a9, h9, a10, h10, a11, h11, a12, h12, a13, h13, a14, h14, a15, h15, a16, h16, a17, h17, a18, h18, a19, h19, a20, h20, a21, h21, h⟩ := h
    cases h
    obtain rfl := dI_ok h0
    obtain rfl := dI_ok h1
    obtain rfl := dI_ok h2
    obtain rfl := dI_ok h3
    obtain rfl := dI_ok h4
    obtain rfl := dI_ok h5
    obtain rfl := dI_ok h6
    obtain rfl := dI_ok h7
    obtain rfl := dI_ok h8
    obtain rfl := dI_ok h9
    obtain rfl := dI_ok h10
    obtain rfl := dREntry_ok h11
    obtain rfl := dI_ok h12
    obtain rfl := dI_ok h13
    obtain rfl := dI_ok h14
    obtain rfl := dI_ok h15
    obtain rfl := dI_ok h16
    obtain rfl := dI_ok h17
    obtain rfl := dI_ok h18
    obtain rfl := dI_ok h19
    obtain rfl := dI_ok h20
    obtain rfl := dI_ok h21
    rfl
  · cases h
theorem dT85t_ok {L : Fr} {a : ST85} (h : dT85t L = some a) : L = eT85t a := by
  unfold dT85t at h
  split at h
  · simp only [Option.bind_eq_some_iff] at h
    obtain ⟨a0, h0, a1, h1, a2, h2, a3, h3, a4, h4, a5, h5, a6, h6, a7, h7, a8, h8, a9, h9, a10, h10, a11, h11, a12, h12, a13, h13, a14, h14, a15, h15, a16, h16, a17, h17, a18, h18, a19, h19, a20, h20, a21, h21, h⟩ := h
    cases h
    obtain rfl := dI_ok h0
    obtain rfl := dI_ok h1
    obtain rfl := dI_ok h2
    obtain rfl := dI_ok h3
    obtain rfl := dI_ok h4
    obtain rfl := dI_ok h5
    obtain rfl := dI_ok h6
    obtain rfl := dI_ok h7
    obtain rfl := dI_ok h8
    obtain rfl := dI_ok h9
    obtain rfl := dI_ok h10
    obtain rfl := dREntry_ok h11
    obtain rfl := dI_ok h12
    obtain rfl := dI_ok h13
    obtain rfl := dI_ok h14
    obtain rfl := dI_ok h15
    obtain rfl := dI_ok h16
    obtain rfl := dI_ok h17
    obtain rfl := dI_ok h18
    obtain rfl := dI_ok h19
    obtain rfl := dI_ok h20
    obtain rfl := dI_ok h21
    rfl
  · cases h
theorem pSample_ok : ∀ {L : Fr} {xs : List SSample}, pSample_ L = some xs → TV.los U L = (xs.map cSample).flatten
  | [], xs, h => by cases h; rfl
  | [_], xs, h => by cases h
  | [_, _], xs, h => by cases h
  | [_, _, _], xs, h => by cases h
  | [_, _, _, _], xs, h => by cases h
  | [_, _, _, _, _], xs, h => by cases h
  | [_, _, _, _, _, _], xs, h => by cases h
  | [_, _, _, _, _, _, _], xs, h => by cases h
  | y0 :: y1 :: y2 :: y3 :: y4 :: y5 :: y6 :: y7 :: r, xs, h => by
    simp only [pSample_, Option.bind_eq_some_iff] at h
    obtain ⟨a0, h0, a1, h1, a2, h2, a3, h3, a4, h4, a5, h5, a6, h6, a7, h7, xs', h', h⟩ := h
    cases h
    have ih := pSample_ok h'
    obtain rfl := dI_ok h0
    obtain rfl := dI_ok h1
    obtain rfl := dI_ok h2
    obtain rfl := dI_ok h3
    obtain rfl := dB_ok h4
    obtain rfl := dI_ok h5
    obtain rfl := dI_ok h6
    obtain rfl := dI_ok h7
    show _ :: _ :: _ :: _ :: _ :: _ :: _ :: _ :: TV.los U r = _
    rw [ih]; rfl
theorem pint_ok : ∀ {L : Fr} {xs : List Int}, pint_ L = some xs → TV.los U L = (xs.map cint).flatten
  | [], xs, h => by cases h; rfl
  | y0 :: r, xs, h => by
    simp only [pint_, Option.bind_eq_some_iff] at h
    obtain ⟨a0, h0, xs', h', h⟩ := h
    cases h
    have ih := pint_ok h'
    obtain rfl := dI_ok h0
    show _ :: TV.los U r = _
    rw [ih]; rfl
theorem pEntry_ok : ∀ {L : Fr} {xs : List SEntry}, pEntry_ L = some xs → TV.los U L = (xs.map cEntry).flatten
  | [], xs, h => by cases h; rfl
  | [_], xs, h => by cases h
  | y0 :: y1 :: r, xs, h => by
    simp only [pEntry_, Option.bind_eq_some_iff] at h
    obtain ⟨a0, h0, a1, h1, xs', h', h⟩ := h
    cases h
    have ih := pEntry_ok h'
    obtain rfl := dI_ok h0
    obtain rfl := dI_ok h1
    show _ :: _ :: TV.los U r = _
    rw [ih]; rfl
theorem UOk : UniOk U where
  get := fun r i => match r with
    | .rSample xs => by kernel_rfl
    | .rint xs => by kernel_rfl
    | .rEntry xs => by kernel_rfl
  app := fun r q x h => by cases r <;> cases q <;> first | (cases h; done) | (cases h; exact ⟨rfl, rfl, List.length_append, (rg_app (c := cSample) (z := zSample)).symm⟩) | (cases h; exact ⟨rfl, rfl, List.length_append, (rg_app (c := cint) (z := zint)).symm⟩) | (cases h; exact ⟨rfl, rfl, List.length_append, (rg_app (c := cEntry) (z := zEntry)).symm⟩)
  sub := fun lo n r h => by cases r <;> first | exact ⟨rfl, sub_len h, (rg_sub (c := cSample) (z := zSample) h).symm⟩ | exact ⟨rfl, sub_len h, (rg_sub (c := cint) (z := zint) h).symm⟩ | exact ⟨rfl, sub_len h, (rg_sub (c := cEntry) (z := zEntry) h).symm⟩
  lit := fun t n L r h => by
    unfold U at h
    dsimp only at h
    split at h
    · obtain ⟨xs, h1, rfl, rfl⟩ := bind_lit h
      have e := pSample_ok h1
      exact ⟨rfl, rfl, by rw [e]; exact (rg_lit (c := cSample) (sz := 8) (z := zSample) (fun _ => rfl)).symm, by rw [e]; exact all_flat (fun _ => rfl) xs⟩
    · obtain ⟨xs, h1, rfl, rfl⟩ := bind_lit h
      have e := pint_ok h1
      exact ⟨rfl, rfl, by rw [e]; exact (rg_lit (c := cint) (sz := 1) (z := zint) (fun _ => rfl)).symm, by rw [e]; exact all_flat (fun _ => rfl) xs⟩
    · obtain ⟨xs, h1, rfl, rfl⟩ := bind_lit h
      have e := pEntry_ok h1
      exact ⟨rfl, rfl, by rw [e]; exact (rg_lit (c := cEntry) (sz := 2) (z := zEntry) (fun _ => rfl)).symm, by rw [e]; exact all_flat (fun _ => rfl) xs⟩
    · cases h
theorem ok_reno_New {R : Type} {r : R} : ∀ {n : Nat}, (∀ m, n = m + 1 → CallOk2 (R := R) U (callP capB m) (runF tbl m)) → ∀ {av : Fr} {cs : List Fr} {k : Ret2 RW → Option R}, ca_reno_New capB n av cs k = some r → ∃ q : Ret2 RW, runF tbl n 22 (TV.los U av) (cs.map (TV.los U)) = some (q.lo U) ∧ k q = some r := by
  intro n ih av cs k h
  unfold ca_reno_New at h
  split at h
  · simp only [Option.bind_eq_some_iff] at h
    obtain ⟨p0, h0, p1, h1, h⟩ := h
    obtain rfl := dI_ok h0
    obtain rfl := dI_ok h1
    cases n with
    | zero => cases h
    | succ n =>
      exact run2_ok UOk (ih n rfl) (f := fn_reno_New) rfl ((run_reno_New capB n p0 p1 k).symm.trans h)
  · cases h
theorem ok_cubic_New {R : Type} {r : R} : ∀ {n : Nat}, (∀ m, n = m + 1 → CallOk2 (R := R) U (callP capB m) (runF tbl m)) → ∀ {av : Fr} {cs : List Fr} {k : Ret2 RW → Option R}, ca_cubic_New capB n av cs k = some r → ∃ q : Ret2 RW, runF tbl n 23 (TV.los U av) (cs.map (TV.los U)) = some (q.lo U) ∧ k q = some r := by
  intro n ih av cs k h
  unfold ca_cubic_New at h
  split at h
  · simp only [Option.bind_eq_some_iff] at h
    obtain ⟨p0, h0, p1, h1, h⟩ := h
    obtain rfl := dI_ok h0
    obtain rfl := dI_ok h1
    cases n with
    | zero => cases h
    | succ n =>
      exact run2_ok UOk (ih n rfl) (f := fn_cubic_New) rfl ((run_cubic_New capB n p0 p1 k).symm.trans h)
  · cases h
theorem ok_bbr_New {R : Type} {r : R} : ∀ {n : Nat}, (∀ m, n = m + 1 → CallOk2 (R := R) U (callP capB m) (runF tbl m)) → ∀ {av : Fr} {cs : List Fr} {k : Ret2 RW → Option R}, ca_bbr_New capB n av cs k = some r → ∃ q : Ret2 RW, runF tbl n 24 (TV.los U av) (cs.map (TV.los U)) = some (q.lo U) ∧ k q = some r := by
  intro n ih av cs k h
  unfold ca_bbr_New at h
  split at h
  · simp only [Option.bind_eq_some_iff] at h
    obtain ⟨p0, h0, p1, h1, h⟩ := h
    obtain rfl := dI_ok h0
    obtain rfl := dI_ok h1
    cases n with
    | zero => cases h
    | succ n =>
      exact run2_ok UOk (ih n rfl) (f := fn_bbr_New) rfl ((run_bbr_New capB n p0 p1 k).symm.trans h)
  · cases h
theorem ok_cc_New {R : Type} {r : R} : ∀ {n : Nat}, (∀ m, n = m + 1 → CallOk2 (R := R) U (callP capB m) (runF tbl m)) → ∀ {av : Fr} {cs : List Fr} {k : Ret2 RW → Option R}, ca_cc_New capB n av cs k = some r → ∃ q : Ret2 RW, runF tbl n 7 (TV.los U av) (cs.map (TV.los U)) = some (q.lo U) ∧ k q = some r := by
  intro n ih av cs k h
  unfold ca_cc_New at h
  split at h
  · simp only [Option.bind_eq_some_iff] at h
    obtain ⟨p0, h0, p1, h1, p2, h2, h⟩ := h
    obtain rfl := dI_ok h0
    obtain rfl := dI_ok h1
    obtain rfl := dI_ok h2
    cases n with
    | zero => cases h
    | succ n =>
      exact run2_ok UOk (ih n rfl) (f := fn_cc_New) rfl ((run_cc_New capB n p0 p1 p2 k).symm.trans h)
  · cases h
theorem ok_cc_time {R : Type} {r : R} : ∀ {n : Nat}, (∀ m, n = m + 1 → CallOk2 (R := R) U (callP capB m) (runF tbl m)) → ∀ {av : Fr} {cs : List Fr} {k : Ret2 RW → Option R}, ca_cc_time capB n av cs k = some r → ∃ q : Ret2 RW, runF tbl n 32 (TV.los U av) (cs.map (TV.los U)) = some (q.lo U) ∧ k q = some r := by
  intro n ih av cs k h
  unfold ca_cc_time at h
  split at h
  · simp only [Option.bind_eq_some_iff] at h
    obtain ⟨p0, h0, h⟩ := h
    obtain rfl := dI_ok h0
    cases n with
    | zero => cases h
    | succ n =>
      exact run2_ok UOk (ih n rfl) (f := fn_cc_time) rfl ((run_cc_time capB n p0 k).symm.trans h)
  · cases h
theorem ok_cc_size {R : Type} {r : R} : ∀ {n : Nat}, (∀ m, n = m + 1 → CallOk2 (R := R) U (callP capB m) (runF tbl m)) → ∀ {av : Fr} {cs : List Fr} {k : Ret2 RW → Option R}, ca_cc_size capB n av cs k = some r → ∃ q : Ret2 RW, runF tbl n 33 (TV.los U av) (cs.map (TV.los U)) = some (q.lo U) ∧ k q = some r := by
  intro n ih av cs k h
  unfold ca_cc_size at h
  split at h
  · simp only [Option.bind_eq_some_iff] at h
    obtain ⟨p0, h0, h⟩ := h
    obtain rfl := dI_ok h0
    cases n with
    | zero => cases h
    | succ n =>
      exact run2_ok UOk (ih n rfl) (f := fn_cc_size) rfl ((run_cc_size capB n p0 k).symm.trans h)
  · cases h
theorem ok_reno_size {R : Type} {r : R} : ∀ {n : Nat}, (∀ m, n = m + 1 → CallOk2 (R := R) U (callP capB m) (runF tbl m)) → ∀ {av : Fr} {cs : List Fr} {k : Ret2 RW → Option R}, ca_reno_size capB n av cs k = some r → ∃ q : Ret2 RW, runF tbl n 51 (TV.los U av) (cs.map (TV.los U)) = some (q.lo U) ∧ k q = some r := by
  intro n ih av cs k h
  unfold ca_reno_size at h
  split at h
  · simp only [Option.bind_eq_some_iff] at h
    obtain ⟨p0, h0, h⟩ := h
    obtain rfl := dI_ok h0
    cases n with
    | zero => cases h
    | succ n =>
      exact run2_ok UOk (ih n rfl) (f := fn_reno_size) rfl ((run_reno_size capB n p0 k).symm.trans h)
  · cases h
theorem ok_reno_ctl_plain {R : Type} {r : R} : ∀ {n : Nat}, (∀ m, n = m + 1 → CallOk2 (R := R) U (callP capB m) (runF tbl m)) → ∀ {av : Fr} {cs : List Fr} {k : Ret2 RW → Option R}, ca_reno_ctl_plain capB n av cs k = some r → ∃ q : Ret2 RW, runF tbl n 1013 (TV.los U av) (cs.map (TV.los U)) = some (q.lo U) ∧ k q = some r := by
  intro n ih av cs k h
  unfold ca_reno_ctl_plain at h
  split at h
  · simp only [Option.bind_eq_some_iff] at h
    obtain ⟨u0, h0, q0, i0, h⟩ := h
    obtain rfl := dP_ok h0
    obtain rfl := dctl_ok i0
    cases n with
    | zero => cases h
    | succ n =>
      exact run2_ok UOk (ih n rfl) (f := fn_reno_ctl_plain) rfl ((run_reno_ctl_plain capB n q0 k).symm.trans h)
  · cases h
theorem ok_reno_Check {R : Type} {r : R} : ∀ {n : Nat}, (∀ m, n = m + 1 → CallOk2 (R := R) U (callP capB m) (runF tbl m)) → ∀ {av : Fr} {cs : List Fr} {k : Ret2 RW → Option R}, ca_reno_Check capB n av cs k = some r → ∃ q : Ret2 RW, runF tbl n 28 (TV.los U av) (cs.map (TV.los U)) = some (q.lo U) ∧ k q = some r := by
  intro n ih av cs k h
  unfold ca_reno_Check at h
  split at h
  · simp only [Option.bind_eq_some_iff] at h
    obtain ⟨c0_, h0, p0, g0, h⟩ := h
    obtain rfl := dA_ok h0
    obtain rfl := dCc_ok g0
    cases n with
    | zero => cases h
    | succ n =>
      exact run2_ok UOk (ih n rfl) (f := fn_reno_Check) rfl ((run_reno_Check capB n p0 k).symm.trans h)
  · cases h
theorem ok_cubic_size {R : Type} {r : R} : ∀ {n : Nat}, (∀ m, n = m + 1 → CallOk2 (R := R) U (callP capB m) (runF tbl m)) → ∀ {av : Fr} {cs : List Fr} {k : Ret2 RW → Option R}, ca_cubic_size capB n av cs k = some r → ∃ q : Ret2 RW, runF tbl n 53 (TV.los U av) (cs.map (TV.los U)) = some (q.lo U) ∧ k q = some r := by
  intro n ih av cs k h
  unfold ca_cubic_size at h
  split at h
  · simp only [Option.bind_eq_some_iff] at h
    obtain ⟨p0, h0, h⟩ := h
    obtain rfl := dRint_ok h0
    cases n with
    | zero => cases h
    | succ n =>
      exact run2_ok UOk (ih n rfl) (f := fn_cubic_size) rfl ((run_cubic_size capB n p0 k).symm.trans h)
  · cases h
theorem ok_cubic_Check {R : Type} {r : R} : ∀ {n : Nat}, (∀ m, n = m + 1 → CallOk2 (R := R) U (callP capB m) (runF tbl m)) → ∀ {av : Fr} {cs : List Fr} {k : Ret2 RW → Option R}, ca_cubic_Check capB n av cs k = some r → ∃ q : Ret2 RW, runF tbl n 29 (TV.los U av) (cs.map (TV.los U)) = some (q.lo U) ∧ k q = some r := by
  intro n ih av cs k h
  unfold ca_cubic_Check at h
  split at h
  · simp only [Option.bind_eq_some_iff] at h
    obtain ⟨c0_, h0, p0, g0, h⟩ := h
    obtain rfl := dA_ok h0
    obtain rfl := dCc_ok g0
    cases n with
    | zero => cases h
    | succ n =>
      exact run2_ok UOk (ih n rfl) (f := fn_cubic_Check) rfl ((run_cubic_Check capB n p0 k).symm.trans h)
  · cases h
theorem ok_bbr_within {R : Type} {r : R} : ∀ {n : Nat}, (∀ m, n = m + 1 → CallOk2 (R := R) U (callP capB m) (runF tbl m)) → ∀ {av : Fr} {cs : List Fr} {k : Ret2 RW → Option R}, ca_bbr_within capB n av cs k = some r → ∃ q : Ret2 RW, runF tbl n 54 (TV.los U av) (cs.map (TV.los U)) = some (q.lo U) ∧ k q = some r := by
  intro n ih av cs k h
  unfold ca_bbr_within at h
  split at h
  · simp only [Option.bind_eq_some_iff] at h
    obtain ⟨p0, h0, p1, h1, h⟩ := h
    obtain rfl := dI_ok h0
    obtain rfl := dRint_ok h1
    cases n with
    | zero => cases h
    | succ n =>
      exact run2_ok UOk (ih n rfl) (f := fn_bbr_within) rfl ((run_bbr_within capB n p0 p1 k).symm.trans h)
  · cases h
theorem ok_filter_may {R : Type} {r : R} : ∀ {n : Nat}, (∀ m, n = m + 1 → CallOk2 (R := R) U (callP capB m) (runF tbl m)) → ∀ {av : Fr} {cs : List Fr} {k : Ret2 RW → Option R}, ca_filter_may capB n av cs k = some r → ∃ q : Ret2 RW, runF tbl n 92 (TV.los U av) (cs.map (TV.los U)) = some (q.lo U) ∧ k q = some r := by
  intro n ih av cs k h
  unfold ca_filter_may at h
  split at h
  · simp only [Option.bind_eq_some_iff] at h
    obtain ⟨c0_, h0, p0, g0, h⟩ := h
    obtain rfl := dA_ok h0
    obtain rfl := dEntry_ok g0
    cases n with
    | zero => cases h
    | succ n =>
      exact run2_ok UOk (ih n rfl) (f := fn_filter_may) rfl ((run_filter_may capB n p0 k).symm.trans h)
  · cases h
theorem ok_filter_beats {R : Type} {r : R} : ∀ {n : Nat}, (∀ m, n = m + 1 → CallOk2 (R := R) U (callP capB m) (runF tbl m)) → ∀ {av : Fr} {cs : List Fr} {k : Ret2 RW → Option R}, ca_filter_beats capB n av cs k = some r → ∃ q : Ret2 RW, runF tbl n 93 (TV.los U av) (cs.map (TV.los U)) = some (q.lo U) ∧ k q = some r := by
  intro n ih av cs k h
  unfold ca_filter_beats at h
  split at h
  · simp only [Option.bind_eq_some_iff] at h
    obtain ⟨p0, h0, p1, h1, p2, h2, h⟩ := h
    obtain rfl := dI_ok h0
    obtain rfl := dI_ok h1
    obtain rfl := dB_ok h2
    cases n with
    | zero => cases h
    | succ n =>
      exact run2_ok UOk (ih n rfl) (f := fn_filter_beats) rfl ((run_filter_beats capB n p0 p1 p2 k).symm.trans h)
  · cases h
theorem ok_filter_Check {R : Type} {r : R} : ∀ {n : Nat}, (∀ m, n = m + 1 → CallOk2 (R := R) U (callP capB m) (runF tbl m)) → ∀ {av : Fr} {cs : List Fr} {k : Ret2 RW → Option R}, ca_filter_Check capB n av cs k = some r → ∃ q : Ret2 RW, runF tbl n 76 (TV.los U av) (cs.map (TV.los U)) = some (q.lo U) ∧ k q = some r := by
  intro n ih av cs k h
  unfold ca_filter_Check at h
  split at h
  · simp only [Option.bind_eq_some_iff] at h
    obtain ⟨p0, h0, p1, h1, h⟩ := h
    obtain rfl := dREntry_ok h0
    obtain rfl := dB_ok h1
    cases n with
    | zero => cases h
    | succ n =>
      exact run2_ok UOk (ih n rfl) (f := fn_filter_Check) rfl ((run_filter_Check capB n p0 p1 k).symm.trans h)
  · cases h
theorem ok_bbr_ctl_entries {R : Type} {r : R} : ∀ {n : Nat}, (∀ m, n = m + 1 → CallOk2 (R := R) U (callP capB m) (runF tbl m)) → ∀ {av : Fr} {cs : List Fr} {k : Ret2 RW → Option R}, ca_bbr_ctl_entries capB n av cs k = some r → ∃ q : Ret2 RW, runF tbl n 1018 (TV.los U av) (cs.map (TV.los U)) = some (q.lo U) ∧ k q = some r := by
  intro n ih av cs k h
  unfold ca_bbr_ctl_entries at h
  split at h
  · simp only [Option.bind_eq_some_iff] at h
    obtain ⟨u0, h0, q0, i0, h⟩ := h
    obtain rfl := dP_ok h0
    obtain rfl := dT68_ok i0
    cases n with
    | zero => cases h
    | succ n =>
      exact run2_ok UOk (ih n rfl) (f := fn_bbr_ctl_entries) rfl ((run_bbr_ctl_entries capB n q0 k).symm.trans h)
  · cases h
theorem ok_bbr_Check {R : Type} {r : R} : ∀ {n : Nat}, (∀ m, n = m + 1 → CallOk2 (R := R) U (callP capB m) (runF tbl m)) → ∀ {av : Fr} {cs : List Fr} {k : Ret2 RW → Option R}, ca_bbr_Check capB n av cs k = some r → ∃ q : Ret2 RW, runF tbl n 30 (TV.los U av) (cs.map (TV.los U)) = some (q.lo U) ∧ k q = some r := by
  intro n ih av cs k h
  unfold ca_bbr_Check at h
  split at h
  · simp only [Option.bind_eq_some_iff] at h
    obtain ⟨c0_, h0, p0, g0, h⟩ := h
    obtain rfl := dA_ok h0
    obtain rfl := dCc_ok g0
    cases n with
    | zero => cases h
    | succ n =>
      exact run2_ok UOk (ih n rfl) (f := fn_bbr_Check) rfl ((run_bbr_Check capB n p0 k).symm.trans h)
  · cases h
theorem ok_cc_Check {R : Type} {r : R} : ∀ {n : Nat}, (∀ m, n = m + 1 → CallOk2 (R := R) U (callP capB m) (runF tbl m)) → ∀ {av : Fr} {cs : List Fr} {k : Ret2 RW → Option R}, ca_cc_Check capB n av cs k = some r → ∃ q : Ret2 RW, runF tbl n 10 (TV.los U av) (cs.map (TV.los U)) = some (q.lo U) ∧ k q = some r := by
  intro n ih av cs k h
  unfold ca_cc_Check at h
  split at h
  · simp only [Option.bind_eq_some_iff] at h
    obtain ⟨c0_, h0, p0, g0, h⟩ := h
    obtain rfl := dA_ok h0
    obtain rfl := dCc_ok g0
    cases n with
    | zero => cases h
    | succ n =>
      exact run2_ok UOk (ih n rfl) (f := fn_cc_Check) rfl ((run_cc_Check capB n p0 k).symm.trans h)
  · cases h
theorem ok_cc_asked {R : Type} {r : R} : ∀ {n : Nat}, (∀ m, n = m + 1 → CallOk2 (R := R) U (callP capB m) (runF tbl m)) → ∀ {av : Fr} {cs : List Fr} {k : Ret2 RW → Option R}, ca_cc_asked capB n av cs k = some r → ∃ q : Ret2 RW, runF tbl n 31 (TV.los U av) (cs.map (TV.los U)) = some (q.lo U) ∧ k q = some r := by
  intro n ih av cs k h
  unfold ca_cc_asked at h
  split at h
  · simp only [Option.bind_eq_some_iff] at h
    obtain ⟨c0_, h0, p0, g0, p1, h1, h⟩ := h
    obtain rfl := dA_ok h0
    obtain rfl := dCc_ok g0
    obtain rfl := dB_ok h1
    cases n with
    | zero => cases h
    | succ n =>
      exact run2_ok UOk (ih n rfl) (f := fn_cc_asked) rfl ((run_cc_asked capB n p0 p1 k).symm.trans h)
  · cases h
theorem ok_cc_Rest {R : Type} {r : R} : ∀ {n : Nat}, (∀ m, n = m + 1 → CallOk2 (R := R) U (callP capB m) (runF tbl m)) → ∀ {av : Fr} {cs : List Fr} {k : Ret2 RW → Option R}, ca_cc_Rest capB n av cs k = some r → ∃ q : Ret2 RW, runF tbl n 12 (TV.los U av) (cs.map (TV.los U)) = some (q.lo U) ∧ k q = some r := by
  intro n ih av cs k h
  unfold ca_cc_Rest at h
  split at h
  · simp only [Option.bind_eq_some_iff] at h
    obtain ⟨c0_, h0, p0, g0, p1, h1, p2, h2, p3, h3, h⟩ := h
    obtain rfl := dA_ok h0
    obtain rfl := dCc_ok g0
    obtain rfl := dI_ok h1
    obtain rfl := dI_ok h2
    obtain rfl := dI_ok h3
    cases n with
    | zero => cases h
    | succ n =>
      exact run2_ok UOk (ih n rfl) (f := fn_cc_Rest) rfl ((run_cc_Rest capB n p0 p1 p2 p3 k).symm.trans h)
  · cases h
theorem ok_bbr_Gain {R : Type} {r : R} : ∀ {n : Nat}, (∀ m, n = m + 1 → CallOk2 (R := R) U (callP capB m) (runF tbl m)) → ∀ {av : Fr} {cs : List Fr} {k : Ret2 RW → Option R}, ca_bbr_Gain capB n av cs k = some r → ∃ q : Ret2 RW, runF tbl n 37 (TV.los U av) (cs.map (TV.los U)) = some (q.lo U) ∧ k q = some r := by
  intro n ih av cs k h
  unfold ca_bbr_Gain at h
  split at h
  · simp only [Option.bind_eq_some_iff] at h
    obtain ⟨c0_, h0, p0, g0, h⟩ := h
    obtain rfl := dA_ok h0
    obtain rfl := dCc_ok g0
    cases n with
    | zero => cases h
    | succ n =>
      exact run2_ok UOk (ih n rfl) (f := fn_bbr_Gain) rfl ((run_bbr_Gain capB n p0 k).symm.trans h)
  · cases h
theorem ok_filter_Best {R : Type} {r : R} : ∀ {n : Nat}, (∀ m, n = m + 1 → CallOk2 (R := R) U (callP capB m) (runF tbl m)) → ∀ {av : Fr} {cs : List Fr} {k : Ret2 RW → Option R}, ca_filter_Best capB n av cs k = some r → ∃ q : Ret2 RW, runF tbl n 81 (TV.los U av) (cs.map (TV.los U)) = some (q.lo U) ∧ k q = some r := by
  intro n ih av cs k h
  unfold ca_filter_Best at h
  split at h
  · simp only [Option.bind_eq_some_iff] at h
    obtain ⟨p0, h0, h⟩ := h
    obtain rfl := dREntry_ok h0
    cases n with
    | zero => cases h
    | succ n =>
      exact run2_ok UOk (ih n rfl) (f := fn_filter_Best) rfl ((run_filter_Best capB n p0 k).symm.trans h)
  · cases h
theorem ok_bbr_ctl_bandwidth {R : Type} {r : R} : ∀ {n : Nat}, (∀ m, n = m + 1 → CallOk2 (R := R) U (callP capB m) (runF tbl m)) → ∀ {av : Fr} {cs : List Fr} {k : Ret2 RW → Option R}, ca_bbr_ctl_bandwidth capB n av cs k = some r → ∃ q : Ret2 RW, runF tbl n 1025 (TV.los U av) (cs.map (TV.los U)) = some (q.lo U) ∧ k q = some r := by
  intro n ih av cs k h
  unfold ca_bbr_ctl_bandwidth at h
  split at h
  · simp only [Option.bind_eq_some_iff] at h
    obtain ⟨u0, h0, q0, i0, h⟩ := h
    obtain rfl := dP_ok h0
    obtain rfl := dT68_ok i0
    cases n with
    | zero => cases h
    | succ n =>
      exact run2_ok UOk (ih n rfl) (f := fn_bbr_ctl_bandwidth) rfl ((run_bbr_ctl_bandwidth capB n q0 k).symm.trans h)
  · cases h
theorem ok_bbr_Bandwidth {R : Type} {r : R} : ∀ {n : Nat}, (∀ m, n = m + 1 → CallOk2 (R := R) U (callP capB m) (runF tbl m)) → ∀ {av : Fr} {cs : List Fr} {k : Ret2 RW → Option R}, ca_bbr_Bandwidth capB n av cs k = some r → ∃ q : Ret2 RW, runF tbl n 38 (TV.los U av) (cs.map (TV.los U)) = some (q.lo U) ∧ k q = some r := by
  intro n ih av cs k h
  unfold ca_bbr_Bandwidth at h
  split at h
  · simp only [Option.bind_eq_some_iff] at h
    obtain ⟨c0_, h0, p0, g0, h⟩ := h
    obtain rfl := dA_ok h0
    obtain rfl := dCc_ok g0
    cases n with
    | zero => cases h
    | succ n =>
      exact run2_ok UOk (ih n rfl) (f := fn_bbr_Bandwidth) rfl ((run_bbr_Bandwidth capB n p0 k).symm.trans h)
  · cases h
theorem ok_math_bits_Mul64 {R : Type} {r : R} : ∀ {n : Nat}, (∀ m, n = m + 1 → CallOk2 (R := R) U (callP capB m) (runF tbl m)) → ∀ {av : Fr} {cs : List Fr} {k : Ret2 RW → Option R}, ca_math_bits_Mul64 capB n av cs k = some r → ∃ q : Ret2 RW, runF tbl n 60 (TV.los U av) (cs.map (TV.los U)) = some (q.lo U) ∧ k q = some r := by
  intro n ih av cs k h
  unfold ca_math_bits_Mul64 at h
  split at h
  · simp only [Option.bind_eq_some_iff] at h
    obtain ⟨p0, h0, p1, h1, h⟩ := h
    obtain rfl := dI_ok h0
    obtain rfl := dI_ok h1
    cases n with
    | zero => cases h
    | succ n =>
      exact run2_ok UOk (ih n rfl) (f := fn_math_bits_Mul64) rfl ((run_math_bits_Mul64 capB n p0 p1 k).symm.trans h)
  · cases h
theorem ok_math_bits_Len64 {R : Type} {r : R} : ∀ {n : Nat}, (∀ m, n = m + 1 → CallOk2 (R := R) U (callP capB m) (runF tbl m)) → ∀ {av : Fr} {cs : List Fr} {k : Ret2 RW → Option R}, ca_math_bits_Len64 capB n av cs k = some r → ∃ q : Ret2 RW, runF tbl n 96 (TV.los U av) (cs.map (TV.los U)) = some (q.lo U) ∧ k q = some r := by
  intro n ih av cs k h
  unfold ca_math_bits_Len64 at h
  split at h
  · simp only [Option.bind_eq_some_iff] at h
    obtain ⟨p0, h0, h⟩ := h
    obtain rfl := dI_ok h0
    cases n with
    | zero => cases h
    | succ n =>
      exact run2_ok UOk (ih n rfl) (f := fn_math_bits_Len64) rfl ((run_math_bits_Len64 capB n p0 k).symm.trans h)
  · cases h
theorem ok_math_bits_LeadingZeros64 {R : Type} {r : R} : ∀ {n : Nat}, (∀ m, n = m + 1 → CallOk2 (R := R) U (callP capB m) (runF tbl m)) → ∀ {av : Fr} {cs : List Fr} {k : Ret2 RW → Option R}, ca_math_bits_LeadingZeros64 capB n av cs k = some r → ∃ q : Ret2 RW, runF tbl n 82 (TV.los U av) (cs.map (TV.los U)) = some (q.lo U) ∧ k q = some r := by
  intro n ih av cs k h
  unfold ca_math_bits_LeadingZeros64 at h
  split at h
  · simp only [Option.bind_eq_some_iff] at h
    obtain ⟨p0, h0, h⟩ := h
    obtain rfl := dI_ok h0
    cases n with
    | zero => cases h
    | succ n =>
      exact run2_ok UOk (ih n rfl) (f := fn_math_bits_LeadingZeros64) rfl ((run_math_bits_LeadingZeros64 capB n p0 k).symm.trans h)
  · cases h
theorem ok_math_bits_Div64 {R : Type} {r : R} : ∀ {n : Nat}, (∀ m, n = m + 1 → CallOk2 (R := R) U (callP capB m) (runF tbl m)) → ∀ {av : Fr} {cs : List Fr} {k : Ret2 RW → Option R}, ca_math_bits_Div64 capB n av cs k = some r → ∃ q : Ret2 RW, runF tbl n 61 (TV.los U av) (cs.map (TV.los U)) = some (q.lo U) ∧ k q = some r := by
  intro n ih av cs k h
  unfold ca_math_bits_Div64 at h
  split at h
  · simp only [Option.bind_eq_some_iff] at h
    obtain ⟨p0, h0, p1, h1, p2, h2, h⟩ := h
    obtain rfl := dI_ok h0
    obtain rfl := dI_ok h1
    obtain rfl := dI_ok h2
    cases n with
    | zero => cases h
    | succ n =>
      exact run2_ok UOk (ih n rfl) (f := fn_math_bits_Div64) rfl ((run_math_bits_Div64 capB n p0 p1 p2 k).symm.trans h)
  · cases h
theorem ok_seq_MulDiv {R : Type} {r : R} : ∀ {n : Nat}, (∀ m, n = m + 1 → CallOk2 (R := R) U (callP capB m) (runF tbl m)) → ∀ {av : Fr} {cs : List Fr} {k : Ret2 RW → Option R}, ca_seq_MulDiv capB n av cs k = some r → ∃ q : Ret2 RW, runF tbl n 39 (TV.los U av) (cs.map (TV.los U)) = some (q.lo U) ∧ k q = some r := by
  intro n ih av cs k h
  unfold ca_seq_MulDiv at h
  split at h
  · simp only [Option.bind_eq_some_iff] at h
    obtain ⟨p0, h0, p1, h1, p2, h2, h⟩ := h
    obtain rfl := dI_ok h0
    obtain rfl := dI_ok h1
    obtain rfl := dI_ok h2
    cases n with
    | zero => cases h
    | succ n =>
      exact run2_ok UOk (ih n rfl) (f := fn_seq_MulDiv) rfl ((run_seq_MulDiv capB n p0 p1 p2 k).symm.trans h)
  · cases h
theorem ok_cc_Pace {R : Type} {r : R} : ∀ {n : Nat}, (∀ m, n = m + 1 → CallOk2 (R := R) U (callP capB m) (runF tbl m)) → ∀ {av : Fr} {cs : List Fr} {k : Ret2 RW → Option R}, ca_cc_Pace capB n av cs k = some r → ∃ q : Ret2 RW, runF tbl n 16 (TV.los U av) (cs.map (TV.los U)) = some (q.lo U) ∧ k q = some r := by
  intro n ih av cs k h
  unfold ca_cc_Pace at h
  split at h
  · simp only [Option.bind_eq_some_iff] at h
    obtain ⟨c0_, h0, p0, g0, p1, h1, p2, h2, h⟩ := h
    obtain rfl := dA_ok h0
    obtain rfl := dCc_ok g0
    obtain rfl := dI_ok h1
    obtain rfl := dI_ok h2
    cases n with
    | zero => cases h
    | succ n =>
      exact run2_ok UOk (ih n rfl) (f := fn_cc_Pace) rfl ((run_cc_Pace capB n p0 p1 p2 k).symm.trans h)
  · cases h
theorem ok_law19_heads {R : Type} {r : R} : ∀ {n : Nat}, (∀ m, n = m + 1 → CallOk2 (R := R) U (callP capB m) (runF tbl m)) → ∀ {av : Fr} {cs : List Fr} {k : Ret2 RW → Option R}, ca_law19_heads capB n av cs k = some r → ∃ q : Ret2 RW, runF tbl n 11 (TV.los U av) (cs.map (TV.los U)) = some (q.lo U) ∧ k q = some r := by
  intro n ih av cs k h
  unfold ca_law19_heads at h
  split at h
  · cases n with
    | zero => cases h
    | succ n =>
      exact run2_ok UOk (ih n rfl) (f := fn_law19_heads) rfl ((run_law19_heads capB n  k).symm.trans h)
  · cases h
theorem ok_reno_begun {R : Type} {r : R} : ∀ {n : Nat}, (∀ m, n = m + 1 → CallOk2 (R := R) U (callP capB m) (runF tbl m)) → ∀ {av : Fr} {cs : List Fr} {k : Ret2 RW → Option R}, ca_reno_begun capB n av cs k = some r → ∃ q : Ret2 RW, runF tbl n 63 (TV.los U av) (cs.map (TV.los U)) = some (q.lo U) ∧ k q = some r := by
  intro n ih av cs k h
  unfold ca_reno_begun at h
  split at h
  · simp only [Option.bind_eq_some_iff] at h
    obtain ⟨c0_, h0, p0, g0, p1, h1, h⟩ := h
    obtain rfl := dA_ok h0
    obtain rfl := dCc_ok g0
    obtain rfl := dI_ok h1
    cases n with
    | zero => cases h
    | succ n =>
      exact run2_ok UOk (ih n rfl) (f := fn_reno_begun) rfl ((run_reno_begun capB n p0 p1 k).symm.trans h)
  · cases h
theorem ok_reno_Loss {R : Type} {r : R} : ∀ {n : Nat}, (∀ m, n = m + 1 → CallOk2 (R := R) U (callP capB m) (runF tbl m)) → ∀ {av : Fr} {cs : List Fr} {k : Ret2 RW → Option R}, ca_reno_Loss capB n av cs k = some r → ∃ q : Ret2 RW, runF tbl n 43 (TV.los U av) (cs.map (TV.los U)) = some (q.lo U) ∧ k q = some r := by
  intro n ih av cs k h
  unfold ca_reno_Loss at h
  split at h
  · simp only [Option.bind_eq_some_iff] at h
    obtain ⟨c0_, h0, p0, g0, p1, h1, h⟩ := h
    obtain rfl := dA_ok h0
    obtain rfl := dCc_ok g0
    obtain rfl := dI_ok h1
    cases n with
    | zero => cases h
    | succ n =>
      exact run2_ok UOk (ih n rfl) (f := fn_reno_Loss) rfl ((run_reno_Loss capB n p0 p1 k).symm.trans h)
  · cases h
theorem ok_cubic_ctl_fall {R : Type} {r : R} : ∀ {n : Nat}, (∀ m, n = m + 1 → CallOk2 (R := R) U (callP capB m) (runF tbl m)) → ∀ {av : Fr} {cs : List Fr} {k : Ret2 RW → Option R}, ca_cubic_ctl_fall capB n av cs k = some r → ∃ q : Ret2 RW, runF tbl n 1037 (TV.los U av) (cs.map (TV.los U)) = some (q.lo U) ∧ k q = some r := by
  intro n ih av cs k h
  unfold ca_cubic_ctl_fall at h
  split at h
  · simp only [Option.bind_eq_some_iff] at h
    obtain ⟨u0, h0, q0, i0, h⟩ := h
    obtain rfl := dP_ok h0
    obtain rfl := dT85_ok i0
    cases n with
    | zero => cases h
    | succ n =>
      exact run2_ok UOk (ih n rfl) (f := fn_cubic_ctl_fall) rfl ((run_cubic_ctl_fall capB n q0 k).symm.trans h)
  · cases h
theorem ok_cubic_moved {R : Type} {r : R} : ∀ {n : Nat}, (∀ m, n = m + 1 → CallOk2 (R := R) U (callP capB m) (runF tbl m)) → ∀ {av : Fr} {cs : List Fr} {k : Ret2 RW → Option R}, ca_cubic_moved capB n av cs k = some r → ∃ q : Ret2 RW, runF tbl n 1036 (TV.los U av) (cs.map (TV.los U)) = some (q.lo U) ∧ k q = some r := by
  intro n ih av cs k h
  unfold ca_cubic_moved at h
  split at h
  · simp only [Option.bind_eq_some_iff] at h
    obtain ⟨c0_, h0, p0, g0, p1, h1, u2, h2, h⟩ := h
    obtain rfl := dA_ok h0
    obtain rfl := dCc_ok g0
    obtain rfl := dI_ok h1
    obtain rfl := dC_ok h2
    cases n with
    | zero => cases h
    | succ n =>
      exact run2_ok UOk (ih n rfl) (f := fn_cubic_moved) rfl ((run_cubic_moved capB n p0 p1 k).symm.trans h)
  · cases h
theorem ok_cubic_Loss {R : Type} {r : R} : ∀ {n : Nat}, (∀ m, n = m + 1 → CallOk2 (R := R) U (callP capB m) (runF tbl m)) → ∀ {av : Fr} {cs : List Fr} {k : Ret2 RW → Option R}, ca_cubic_Loss capB n av cs k = some r → ∃ q : Ret2 RW, runF tbl n 44 (TV.los U av) (cs.map (TV.los U)) = some (q.lo U) ∧ k q = some r := by
  intro n ih av cs k h
  unfold ca_cubic_Loss at h
  split at h
  · simp only [Option.bind_eq_some_iff] at h
    obtain ⟨c0_, h0, p0, g0, p1, h1, h⟩ := h
    obtain rfl := dA_ok h0
    obtain rfl := dCc_ok g0
    obtain rfl := dI_ok h1
    cases n with
    | zero => cases h
    | succ n =>
      exact run2_ok UOk (ih n rfl) (f := fn_cubic_Loss) rfl ((run_cubic_Loss capB n p0 p1 k).symm.trans h)
  · cases h
theorem ok_cc_Loss {R : Type} {r : R} : ∀ {n : Nat}, (∀ m, n = m + 1 → CallOk2 (R := R) U (callP capB m) (runF tbl m)) → ∀ {av : Fr} {cs : List Fr} {k : Ret2 RW → Option R}, ca_cc_Loss capB n av cs k = some r → ∃ q : Ret2 RW, runF tbl n 18 (TV.los U av) (cs.map (TV.los U)) = some (q.lo U) ∧ k q = some r := by
  intro n ih av cs k h
  unfold ca_cc_Loss at h
  split at h
  · simp only [Option.bind_eq_some_iff] at h
    obtain ⟨c0_, h0, p0, g0, p1, h1, h⟩ := h
    obtain rfl := dA_ok h0
    obtain rfl := dCc_ok g0
    obtain rfl := dI_ok h1
    cases n with
    | zero => cases h
    | succ n =>
      exact run2_ok UOk (ih n rfl) (f := fn_cc_Loss) rfl ((run_cc_Loss capB n p0 p1 k).symm.trans h)
  · cases h
theorem ok_reno_Timeout {R : Type} {r : R} : ∀ {n : Nat}, (∀ m, n = m + 1 → CallOk2 (R := R) U (callP capB m) (runF tbl m)) → ∀ {av : Fr} {cs : List Fr} {k : Ret2 RW → Option R}, ca_reno_Timeout capB n av cs k = some r → ∃ q : Ret2 RW, runF tbl n 45 (TV.los U av) (cs.map (TV.los U)) = some (q.lo U) ∧ k q = some r := by
  intro n ih av cs k h
  unfold ca_reno_Timeout at h
  split at h
  · simp only [Option.bind_eq_some_iff] at h
    obtain ⟨c0_, h0, p0, g0, p1, h1, h⟩ := h
    obtain rfl := dA_ok h0
    obtain rfl := dCc_ok g0
    obtain rfl := dI_ok h1
    cases n with
    | zero => cases h
    | succ n =>
      exact run2_ok UOk (ih n rfl) (f := fn_reno_Timeout) rfl ((run_reno_Timeout capB n p0 p1 k).symm.trans h)
  · cases h
theorem ok_cubic_ctl_shut {R : Type} {r : R} : ∀ {n : Nat}, (∀ m, n = m + 1 → CallOk2 (R := R) U (callP capB m) (runF tbl m)) → ∀ {av : Fr} {cs : List Fr} {k : Ret2 RW → Option R}, ca_cubic_ctl_shut capB n av cs k = some r → ∃ q : Ret2 RW, runF tbl n 1042 (TV.los U av) (cs.map (TV.los U)) = some (q.lo U) ∧ k q = some r := by
  intro n ih av cs k h
  unfold ca_cubic_ctl_shut at h
  split at h
  · simp only [Option.bind_eq_some_iff] at h
    obtain ⟨u0, h0, q0, i0, h⟩ := h
    obtain rfl := dP_ok h0
    obtain rfl := dT85_ok i0
    cases n with
    | zero => cases h
    | succ n =>
      exact run2_ok UOk (ih n rfl) (f := fn_cubic_ctl_shut) rfl ((run_cubic_ctl_shut capB n q0 k).symm.trans h)
  · cases h
theorem ok_cubic_moved_b {R : Type} {r : R} : ∀ {n : Nat}, (∀ m, n = m + 1 → CallOk2 (R := R) U (callP capB m) (runF tbl m)) → ∀ {av : Fr} {cs : List Fr} {k : Ret2 RW → Option R}, ca_cubic_moved_b capB n av cs k = some r → ∃ q : Ret2 RW, runF tbl n 1041 (TV.los U av) (cs.map (TV.los U)) = some (q.lo U) ∧ k q = some r := by
  intro n ih av cs k h
  unfold ca_cubic_moved_b at h
  split at h
  · simp only [Option.bind_eq_some_iff] at h
    obtain ⟨c0_, h0, p0, g0, p1, h1, u2, h2, h⟩ := h
    obtain rfl := dA_ok h0
    obtain rfl := dCc_ok g0
    obtain rfl := dI_ok h1
    obtain rfl := dC_ok h2
    cases n with
    | zero => cases h
    | succ n =>
      exact run2_ok UOk (ih n rfl) (f := fn_cubic_moved_b) rfl ((run_cubic_moved_b capB n p0 p1 k).symm.trans h)
  · cases h
theorem ok_cubic_Timeout {R : Type} {r : R} : ∀ {n : Nat}, (∀ m, n = m + 1 → CallOk2 (R := R) U (callP capB m) (runF tbl m)) → ∀ {av : Fr} {cs : List Fr} {k : Ret2 RW → Option R}, ca_cubic_Timeout capB n av cs k = some r → ∃ q : Ret2 RW, runF tbl n 46 (TV.los U av) (cs.map (TV.los U)) = some (q.lo U) ∧ k q = some r := by
  intro n ih av cs k h
  unfold ca_cubic_Timeout at h
  split at h
  · simp only [Option.bind_eq_some_iff] at h
    obtain ⟨c0_, h0, p0, g0, p1, h1, h⟩ := h
    obtain rfl := dA_ok h0
    obtain rfl := dCc_ok g0
    obtain rfl := dI_ok h1
    cases n with
    | zero => cases h
    | succ n =>
      exact run2_ok UOk (ih n rfl) (f := fn_cubic_Timeout) rfl ((run_cubic_Timeout capB n p0 p1 k).symm.trans h)
  · cases h
theorem ok_bbr_Timeout {R : Type} {r : R} : ∀ {n : Nat}, (∀ m, n = m + 1 → CallOk2 (R := R) U (callP capB m) (runF tbl m)) → ∀ {av : Fr} {cs : List Fr} {k : Ret2 RW → Option R}, ca_bbr_Timeout capB n av cs k = some r → ∃ q : Ret2 RW, runF tbl n 47 (TV.los U av) (cs.map (TV.los U)) = some (q.lo U) ∧ k q = some r := by
  intro n ih av cs k h
  unfold ca_bbr_Timeout at h
  split at h
  · simp only [Option.bind_eq_some_iff] at h
    obtain ⟨c0_, h0, p0, g0, p1, h1, h⟩ := h
    obtain rfl := dA_ok h0
    obtain rfl := dCc_ok g0
    obtain rfl := dI_ok h1
    cases n with
    | zero => cases h
    | succ n =>
      exact run2_ok UOk (ih n rfl) (f := fn_bbr_Timeout) rfl ((run_bbr_Timeout capB n p0 p1 k).symm.trans h)
  · cases h
theorem ok_cc_Timeout {R : Type} {r : R} : ∀ {n : Nat}, (∀ m, n = m + 1 → CallOk2 (R := R) U (callP capB m) (runF tbl m)) → ∀ {av : Fr} {cs : List Fr} {k : Ret2 RW → Option R}, ca_cc_Timeout capB n av cs k = some r → ∃ q : Ret2 RW, runF tbl n 19 (TV.los U av) (cs.map (TV.los U)) = some (q.lo U) ∧ k q = some r := by
  intro n ih av cs k h
  unfold ca_cc_Timeout at h
  split at h
  · simp only [Option.bind_eq_some_iff] at h
    obtain ⟨c0_, h0, p0, g0, p1, h1, h⟩ := h
    obtain rfl := dA_ok h0
    obtain rfl := dCc_ok g0
    obtain rfl := dI_ok h1
    cases n with
    | zero => cases h
    | succ n =>
      exact run2_ok UOk (ih n rfl) (f := fn_cc_Timeout) rfl ((run_cc_Timeout capB n p0 p1 k).symm.trans h)
  · cases h
theorem ok_cc_Done {R : Type} {r : R} : ∀ {n : Nat}, (∀ m, n = m + 1 → CallOk2 (R := R) U (callP capB m) (runF tbl m)) → ∀ {av : Fr} {cs : List Fr} {k : Ret2 RW → Option R}, ca_cc_Done capB n av cs k = some r → ∃ q : Ret2 RW, runF tbl n 20 (TV.los U av) (cs.map (TV.los U)) = some (q.lo U) ∧ k q = some r := by
  intro n ih av cs k h
  unfold ca_cc_Done at h
  split at h
  · simp only [Option.bind_eq_some_iff] at h
    obtain ⟨c0_, h0, p0, g0, h⟩ := h
    obtain rfl := dA_ok h0
    obtain rfl := dCc_ok g0
    cases n with
    | zero => cases h
    | succ n =>
      exact run2_ok UOk (ih n rfl) (f := fn_cc_Done) rfl ((run_cc_Done capB n p0 k).symm.trans h)
  · cases h
theorem ok_cc_Limit {R : Type} {r : R} : ∀ {n : Nat}, (∀ m, n = m + 1 → CallOk2 (R := R) U (callP capB m) (runF tbl m)) → ∀ {av : Fr} {cs : List Fr} {k : Ret2 RW → Option R}, ca_cc_Limit capB n av cs k = some r → ∃ q : Ret2 RW, runF tbl n 14 (TV.los U av) (cs.map (TV.los U)) = some (q.lo U) ∧ k q = some r := by
  intro n ih av cs k h
  unfold ca_cc_Limit at h
  split at h
  · simp only [Option.bind_eq_some_iff] at h
    obtain ⟨c0_, h0, p0, g0, p1, h1, h⟩ := h
    obtain rfl := dA_ok h0
    obtain rfl := dCc_ok g0
    obtain rfl := dI_ok h1
    cases n with
    | zero => cases h
    | succ n =>
      exact run2_ok UOk (ih n rfl) (f := fn_cc_Limit) rfl ((run_cc_Limit capB n p0 p1 k).symm.trans h)
  · cases h
theorem ok_bbr_ctl_round {R : Type} {r : R} : ∀ {n : Nat}, (∀ m, n = m + 1 → CallOk2 (R := R) U (callP capB m) (runF tbl m)) → ∀ {av : Fr} {cs : List Fr} {k : Ret2 RW → Option R}, ca_bbr_ctl_round capB n av cs k = some r → ∃ q : Ret2 RW, runF tbl n 1048 (TV.los U av) (cs.map (TV.los U)) = some (q.lo U) ∧ k q = some r := by
  intro n ih av cs k h
  unfold ca_bbr_ctl_round at h
  split at h
  · simp only [Option.bind_eq_some_iff] at h
    obtain ⟨u0, h0, c1_, h1, p1, g1, q0, i0, h⟩ := h
    obtain rfl := dP_ok h0
    obtain rfl := dA_ok h1
    obtain rfl := dSample_ok g1
    obtain rfl := dT68_ok i0
    cases n with
    | zero => cases h
    | succ n =>
      exact run2_ok UOk (ih n rfl) (f := fn_bbr_ctl_round) rfl ((run_bbr_ctl_round capB n p1 q0 k).symm.trans h)
  · cases h
theorem ok_filter_Put {R : Type} {r : R} : ∀ {n : Nat}, (∀ m, n = m + 1 → CallOk2 (R := R) U (callP capB m) (runF tbl m)) → ∀ {av : Fr} {cs : List Fr} {k : Ret2 RW → Option R}, ca_filter_Put capB n av cs k = some r → ∃ q : Ret2 RW, runF tbl n 84 (TV.los U av) (cs.map (TV.los U)) = some (q.lo U) ∧ k q = some r := by
  intro n ih av cs k h
  unfold ca_filter_Put at h
  split at h
  · simp only [Option.bind_eq_some_iff] at h
    obtain ⟨p0, h0, p1, h1, p2, h2, p3, h3, p4, h4, h⟩ := h
    obtain rfl := dREntry_ok h0
    obtain rfl := dI_ok h1
    obtain rfl := dI_ok h2
    obtain rfl := dI_ok h3
    obtain rfl := dB_ok h4
    cases n with
    | zero => cases h
    | succ n =>
      exact run2_ok UOk (ih n rfl) (f := fn_filter_Put) rfl ((run_filter_Put capB n p0 p1 p2 p3 p4 k).symm.trans h)
  · cases h
theorem ok_bbr_ctl_speed {R : Type} {r : R} : ∀ {n : Nat}, (∀ m, n = m + 1 → CallOk2 (R := R) U (callP capB m) (runF tbl m)) → ∀ {av : Fr} {cs : List Fr} {k : Ret2 RW → Option R}, ca_bbr_ctl_speed capB n av cs k = some r → ∃ q : Ret2 RW, runF tbl n 1049 (TV.los U av) (cs.map (TV.los U)) = some (q.lo U) ∧ k q = some r := by
  intro n ih av cs k h
  unfold ca_bbr_ctl_speed at h
  split at h
  · simp only [Option.bind_eq_some_iff] at h
    obtain ⟨u0, h0, c1_, h1, p1, g1, q0, i0, h⟩ := h
    obtain rfl := dP_ok h0
    obtain rfl := dA_ok h1
    obtain rfl := dSample_ok g1
    obtain rfl := dT68_ok i0
    cases n with
    | zero => cases h
    | succ n =>
      exact run2_ok UOk (ih n rfl) (f := fn_bbr_ctl_speed) rfl ((run_bbr_ctl_speed capB n p1 q0 k).symm.trans h)
  · cases h
theorem ok_bbr_ctl_shortest {R : Type} {r : R} : ∀ {n : Nat}, (∀ m, n = m + 1 → CallOk2 (R := R) U (callP capB m) (runF tbl m)) → ∀ {av : Fr} {cs : List Fr} {k : Ret2 RW → Option R}, ca_bbr_ctl_shortest capB n av cs k = some r → ∃ q : Ret2 RW, runF tbl n 1051 (TV.los U av) (cs.map (TV.los U)) = some (q.lo U) ∧ k q = some r := by
  intro n ih av cs k h
  unfold ca_bbr_ctl_shortest at h
  split at h
  · simp only [Option.bind_eq_some_iff] at h
    obtain ⟨u0, h0, c1_, h1, p1, g1, q0, i0, h⟩ := h
    obtain rfl := dP_ok h0
    obtain rfl := dA_ok h1
    obtain rfl := dSample_ok g1
    obtain rfl := dT68_ok i0
    cases n with
    | zero => cases h
    | succ n =>
      exact run2_ok UOk (ih n rfl) (f := fn_bbr_ctl_shortest) rfl ((run_bbr_ctl_shortest capB n p1 q0 k).symm.trans h)
  · cases h
theorem ok_bbr_ctl_full {R : Type} {r : R} : ∀ {n : Nat}, (∀ m, n = m + 1 → CallOk2 (R := R) U (callP capB m) (runF tbl m)) → ∀ {av : Fr} {cs : List Fr} {k : Ret2 RW → Option R}, ca_bbr_ctl_full capB n av cs k = some r → ∃ q : Ret2 RW, runF tbl n 1052 (TV.los U av) (cs.map (TV.los U)) = some (q.lo U) ∧ k q = some r := by
  intro n ih av cs k h
  unfold ca_bbr_ctl_full at h
  split at h
  · simp only [Option.bind_eq_some_iff] at h
    obtain ⟨u0, h0, q0, i0, h⟩ := h
    obtain rfl := dP_ok h0
    obtain rfl := dT68_ok i0
    cases n with
    | zero => cases h
    | succ n =>
      exact run2_ok UOk (ih n rfl) (f := fn_bbr_ctl_full) rfl ((run_bbr_ctl_full capB n q0 k).symm.trans h)
  · cases h
theorem ok_bbr_ctl_product {R : Type} {r : R} : ∀ {n : Nat}, (∀ m, n = m + 1 → CallOk2 (R := R) U (callP capB m) (runF tbl m)) → ∀ {av : Fr} {cs : List Fr} {k : Ret2 RW → Option R}, ca_bbr_ctl_product capB n av cs k = some r → ∃ q : Ret2 RW, runF tbl n 1054 (TV.los U av) (cs.map (TV.los U)) = some (q.lo U) ∧ k q = some r := by
  intro n ih av cs k h
  unfold ca_bbr_ctl_product at h
  split at h
  · simp only [Option.bind_eq_some_iff] at h
    obtain ⟨u0, h0, q0, i0, h⟩ := h
    obtain rfl := dP_ok h0
    obtain rfl := dT68_ok i0
    cases n with
    | zero => cases h
    | succ n =>
      exact run2_ok UOk (ih n rfl) (f := fn_bbr_ctl_product) rfl ((run_bbr_ctl_product capB n q0 k).symm.trans h)
  · cases h
theorem ok_bbr_ctl_probe {R : Type} {r : R} : ∀ {n : Nat}, (∀ m, n = m + 1 → CallOk2 (R := R) U (callP capB m) (runF tbl m)) → ∀ {av : Fr} {cs : List Fr} {k : Ret2 RW → Option R}, ca_bbr_ctl_probe capB n av cs k = some r → ∃ q : Ret2 RW, runF tbl n 1055 (TV.los U av) (cs.map (TV.los U)) = some (q.lo U) ∧ k q = some r := by
  intro n ih av cs k h
  unfold ca_bbr_ctl_probe at h
  split at h
  · simp only [Option.bind_eq_some_iff] at h
    obtain ⟨u0, h0, p1, h1, q0, i0, h⟩ := h
    obtain rfl := dP_ok h0
    obtain rfl := dI_ok h1
    obtain rfl := dT68_ok i0
    cases n with
    | zero => cases h
    | succ n =>
      exact run2_ok UOk (ih n rfl) (f := fn_bbr_ctl_probe) rfl ((run_bbr_ctl_probe capB n p1 q0 k).symm.trans h)
  · cases h
theorem ok_bbr_ctl_cycle {R : Type} {r : R} : ∀ {n : Nat}, (∀ m, n = m + 1 → CallOk2 (R := R) U (callP capB m) (runF tbl m)) → ∀ {av : Fr} {cs : List Fr} {k : Ret2 RW → Option R}, ca_bbr_ctl_cycle capB n av cs k = some r → ∃ q : Ret2 RW, runF tbl n 1053 (TV.los U av) (cs.map (TV.los U)) = some (q.lo U) ∧ k q = some r := by
  intro n ih av cs k h
  unfold ca_bbr_ctl_cycle at h
  split at h
  · simp only [Option.bind_eq_some_iff] at h
    obtain ⟨u0, h0, c1_, h1, p1, g1, q0, i0, h⟩ := h
    obtain rfl := dP_ok h0
    obtain rfl := dA_ok h1
    obtain rfl := dSample_ok g1
    obtain rfl := dT68_ok i0
    cases n with
    | zero => cases h
    | succ n =>
      exact run2_ok UOk (ih n rfl) (f := fn_bbr_ctl_cycle) rfl ((run_bbr_ctl_cycle capB n p1 q0 k).symm.trans h)
  · cases h
theorem ok_bbr_ctl_ask {R : Type} {r : R} : ∀ {n : Nat}, (∀ m, n = m + 1 → CallOk2 (R := R) U (callP capB m) (runF tbl m)) → ∀ {av : Fr} {cs : List Fr} {k : Ret2 RW → Option R}, ca_bbr_ctl_ask capB n av cs k = some r → ∃ q : Ret2 RW, runF tbl n 1056 (TV.los U av) (cs.map (TV.los U)) = some (q.lo U) ∧ k q = some r := by
  intro n ih av cs k h
  unfold ca_bbr_ctl_ask at h
  split at h
  · simp only [Option.bind_eq_some_iff] at h
    obtain ⟨u0, h0, c1_, h1, p1, g1, p2, h2, q0, i0, h⟩ := h
    obtain rfl := dP_ok h0
    obtain rfl := dA_ok h1
    obtain rfl := dSample_ok g1
    obtain rfl := dB_ok h2
    obtain rfl := dT68_ok i0
    cases n with
    | zero => cases h
    | succ n =>
      exact run2_ok UOk (ih n rfl) (f := fn_bbr_ctl_ask) rfl ((run_bbr_ctl_ask capB n p1 p2 q0 k).symm.trans h)
  · cases h
theorem ok_seq_Clamp {R : Type} {r : R} : ∀ {n : Nat}, (∀ m, n = m + 1 → CallOk2 (R := R) U (callP capB m) (runF tbl m)) → ∀ {av : Fr} {cs : List Fr} {k : Ret2 RW → Option R}, ca_seq_Clamp capB n av cs k = some r → ∃ q : Ret2 RW, runF tbl n 87 (TV.los U av) (cs.map (TV.los U)) = some (q.lo U) ∧ k q = some r := by
  intro n ih av cs k h
  unfold ca_seq_Clamp at h
  split at h
  · simp only [Option.bind_eq_some_iff] at h
    obtain ⟨p0, h0, p1, h1, p2, h2, h⟩ := h
    obtain rfl := dI_ok h0
    obtain rfl := dI_ok h1
    obtain rfl := dI_ok h2
    cases n with
    | zero => cases h
    | succ n =>
      exact run2_ok UOk (ih n rfl) (f := fn_seq_Clamp) rfl ((run_seq_Clamp capB n p0 p1 p2 k).symm.trans h)
  · cases h
theorem ok_bbr_ctl_window {R : Type} {r : R} : ∀ {n : Nat}, (∀ m, n = m + 1 → CallOk2 (R := R) U (callP capB m) (runF tbl m)) → ∀ {av : Fr} {cs : List Fr} {k : Ret2 RW → Option R}, ca_bbr_ctl_window capB n av cs k = some r → ∃ q : Ret2 RW, runF tbl n 1057 (TV.los U av) (cs.map (TV.los U)) = some (q.lo U) ∧ k q = some r := by
  intro n ih av cs k h
  unfold ca_bbr_ctl_window at h
  split at h
  · simp only [Option.bind_eq_some_iff] at h
    obtain ⟨u0, h0, c1_, h1, p1, g1, q0, i0, h⟩ := h
    obtain rfl := dP_ok h0
    obtain rfl := dA_ok h1
    obtain rfl := dSample_ok g1
    obtain rfl := dT68_ok i0
    cases n with
    | zero => cases h
    | succ n =>
      exact run2_ok UOk (ih n rfl) (f := fn_bbr_ctl_window) rfl ((run_bbr_ctl_window capB n p1 q0 k).symm.trans h)
  · cases h
theorem ok_bbr_Acked {R : Type} {r : R} : ∀ {n : Nat}, (∀ m, n = m + 1 → CallOk2 (R := R) U (callP capB m) (runF tbl m)) → ∀ {av : Fr} {cs : List Fr} {k : Ret2 RW → Option R}, ca_bbr_Acked capB n av cs k = some r → ∃ q : Ret2 RW, runF tbl n 48 (TV.los U av) (cs.map (TV.los U)) = some (q.lo U) ∧ k q = some r := by
  intro n ih av cs k h
  unfold ca_bbr_Acked at h
  split at h
  · simp only [Option.bind_eq_some_iff] at h
    obtain ⟨c0_, h0, p0, g0, c1_, h1, p1, g1, h⟩ := h
    obtain rfl := dA_ok h0
    obtain rfl := dCc_ok g0
    obtain rfl := dA_ok h1
    obtain rfl := dSample_ok g1
    cases n with
    | zero => cases h
    | succ n =>
      exact run2_ok UOk (ih n rfl) (f := fn_bbr_Acked) rfl ((run_bbr_Acked capB n p0 p1 k).symm.trans h)
  · cases h
theorem ok_reno_ctl_rise {R : Type} {r : R} : ∀ {n : Nat}, (∀ m, n = m + 1 → CallOk2 (R := R) U (callP capB m) (runF tbl m)) → ∀ {av : Fr} {cs : List Fr} {k : Ret2 RW → Option R}, ca_reno_ctl_rise capB n av cs k = some r → ∃ q : Ret2 RW, runF tbl n 1060 (TV.los U av) (cs.map (TV.los U)) = some (q.lo U) ∧ k q = some r := by
  intro n ih av cs k h
  unfold ca_reno_ctl_rise at h
  split at h
  · simp only [Option.bind_eq_some_iff] at h
    obtain ⟨u0, h0, p1, h1, q0, i0, h⟩ := h
    obtain rfl := dP_ok h0
    obtain rfl := dI_ok h1
    obtain rfl := dctl_ok i0
    cases n with
    | zero => cases h
    | succ n =>
      exact run2_ok UOk (ih n rfl) (f := fn_reno_ctl_rise) rfl ((run_reno_ctl_rise capB n p1 q0 k).symm.trans h)
  · cases h
theorem ok_reno_Acked {R : Type} {r : R} : ∀ {n : Nat}, (∀ m, n = m + 1 → CallOk2 (R := R) U (callP capB m) (runF tbl m)) → ∀ {av : Fr} {cs : List Fr} {k : Ret2 RW → Option R}, ca_reno_Acked capB n av cs k = some r → ∃ q : Ret2 RW, runF tbl n 49 (TV.los U av) (cs.map (TV.los U)) = some (q.lo U) ∧ k q = some r := by
  intro n ih av cs k h
  unfold ca_reno_Acked at h
  split at h
  · simp only [Option.bind_eq_some_iff] at h
    obtain ⟨c0_, h0, p0, g0, p1, h1, p2, h2, h⟩ := h
    obtain rfl := dA_ok h0
    obtain rfl := dCc_ok g0
    obtain rfl := dI_ok h1
    obtain rfl := dB_ok h2
    cases n with
    | zero => cases h
    | succ n =>
      exact run2_ok UOk (ih n rfl) (f := fn_reno_Acked) rfl ((run_reno_Acked capB n p0 p1 p2 k).symm.trans h)
  · cases h
theorem ok_cubic_by {R : Type} {r : R} : ∀ {n : Nat}, (∀ m, n = m + 1 → CallOk2 (R := R) U (callP capB m) (runF tbl m)) → ∀ {av : Fr} {cs : List Fr} {k : Ret2 RW → Option R}, ca_cubic_by capB n av cs k = some r → ∃ q : Ret2 RW, runF tbl n 91 (TV.los U av) (cs.map (TV.los U)) = some (q.lo U) ∧ k q = some r := by
  intro n ih av cs k h
  unfold ca_cubic_by at h
  split at h
  · simp only [Option.bind_eq_some_iff] at h
    obtain ⟨p0, h0, p1, h1, p2, h2, h⟩ := h
    obtain rfl := dI_ok h0
    obtain rfl := dI_ok h1
    obtain rfl := dI_ok h2
    cases n with
    | zero => cases h
    | succ n =>
      exact run2_ok UOk (ih n rfl) (f := fn_cubic_by) rfl ((run_cubic_by capB n p0 p1 p2 k).symm.trans h)
  · cases h
theorem ok_seq_Cbrt {R : Type} {r : R} : ∀ {n : Nat}, (∀ m, n = m + 1 → CallOk2 (R := R) U (callP capB m) (runF tbl m)) → ∀ {av : Fr} {cs : List Fr} {k : Ret2 RW → Option R}, ca_seq_Cbrt capB n av cs k = some r → ∃ q : Ret2 RW, runF tbl n 97 (TV.los U av) (cs.map (TV.los U)) = some (q.lo U) ∧ k q = some r := by
  intro n ih av cs k h
  unfold ca_seq_Cbrt at h
  split at h
  · simp only [Option.bind_eq_some_iff] at h
    obtain ⟨p0, h0, h⟩ := h
    obtain rfl := dI_ok h0
    cases n with
    | zero => cases h
    | succ n =>
      exact run2_ok UOk (ih n rfl) (f := fn_seq_Cbrt) rfl ((run_seq_Cbrt capB n p0 k).symm.trans h)
  · cases h
theorem ok_cubic_ctl_begin {R : Type} {r : R} : ∀ {n : Nat}, (∀ m, n = m + 1 → CallOk2 (R := R) U (callP capB m) (runF tbl m)) → ∀ {av : Fr} {cs : List Fr} {k : Ret2 RW → Option R}, ca_cubic_ctl_begin capB n av cs k = some r → ∃ q : Ret2 RW, runF tbl n 1063 (TV.los U av) (cs.map (TV.los U)) = some (q.lo U) ∧ k q = some r := by
  intro n ih av cs k h
  unfold ca_cubic_ctl_begin at h
  split at h
  · simp only [Option.bind_eq_some_iff] at h
    obtain ⟨u0, h0, p1, h1, q0, i0, h⟩ := h
    obtain rfl := dP_ok h0
    obtain rfl := dI_ok h1
    obtain rfl := dT85_ok i0
    cases n with
    | zero => cases h
    | succ n =>
      exact run2_ok UOk (ih n rfl) (f := fn_cubic_ctl_begin) rfl ((run_cubic_ctl_begin capB n p1 q0 k).symm.trans h)
  · cases h
theorem ok_seq_Sum {R : Type} {r : R} : ∀ {n : Nat}, (∀ m, n = m + 1 → CallOk2 (R := R) U (callP capB m) (runF tbl m)) → ∀ {av : Fr} {cs : List Fr} {k : Ret2 RW → Option R}, ca_seq_Sum capB n av cs k = some r → ∃ q : Ret2 RW, runF tbl n 90 (TV.los U av) (cs.map (TV.los U)) = some (q.lo U) ∧ k q = some r := by
  intro n ih av cs k h
  unfold ca_seq_Sum at h
  split at h
  · simp only [Option.bind_eq_some_iff] at h
    obtain ⟨p0, h0, p1, h1, h⟩ := h
    obtain rfl := dI_ok h0
    obtain rfl := dI_ok h1
    cases n with
    | zero => cases h
    | succ n =>
      exact run2_ok UOk (ih n rfl) (f := fn_seq_Sum) rfl ((run_seq_Sum capB n p0 p1 k).symm.trans h)
  · cases h
theorem ok_cubic_Curve {R : Type} {r : R} : ∀ {n : Nat}, (∀ m, n = m + 1 → CallOk2 (R := R) U (callP capB m) (runF tbl m)) → ∀ {av : Fr} {cs : List Fr} {k : Ret2 RW → Option R}, ca_cubic_Curve capB n av cs k = some r → ∃ q : Ret2 RW, runF tbl n 89 (TV.los U av) (cs.map (TV.los U)) = some (q.lo U) ∧ k q = some r := by
  intro n ih av cs k h
  unfold ca_cubic_Curve at h
  split at h
  · simp only [Option.bind_eq_some_iff] at h
    obtain ⟨c0_, h0, p0, g0, p1, h1, h⟩ := h
    obtain rfl := dA_ok h0
    obtain rfl := dCc_ok g0
    obtain rfl := dI_ok h1
    cases n with
    | zero => cases h
    | succ n =>
      exact run2_ok UOk (ih n rfl) (f := fn_cubic_Curve) rfl ((run_cubic_Curve capB n p0 p1 k).symm.trans h)
  · cases h
theorem ok_cubic_ctl_grow {R : Type} {r : R} : ∀ {n : Nat}, (∀ m, n = m + 1 → CallOk2 (R := R) U (callP capB m) (runF tbl m)) → ∀ {av : Fr} {cs : List Fr} {k : Ret2 RW → Option R}, ca_cubic_ctl_grow capB n av cs k = some r → ∃ q : Ret2 RW, runF tbl n 1062 (TV.los U av) (cs.map (TV.los U)) = some (q.lo U) ∧ k q = some r := by
  intro n ih av cs k h
  unfold ca_cubic_ctl_grow at h
  split at h
  · simp only [Option.bind_eq_some_iff] at h
    obtain ⟨u0, h0, p1, h1, p2, h2, p3, h3, q0, i0, h⟩ := h
    obtain rfl := dP_ok h0
    obtain rfl := dI_ok h1
    obtain rfl := dI_ok h2
    obtain rfl := dI_ok h3
    obtain rfl := dT85_ok i0
    cases n with
    | zero => cases h
    | succ n =>
      exact run2_ok UOk (ih n rfl) (f := fn_cubic_ctl_grow) rfl ((run_cubic_ctl_grow capB n p1 p2 p3 q0 k).symm.trans h)
  · cases h
theorem ok_cubic_Acked {R : Type} {r : R} : ∀ {n : Nat}, (∀ m, n = m + 1 → CallOk2 (R := R) U (callP capB m) (runF tbl m)) → ∀ {av : Fr} {cs : List Fr} {k : Ret2 RW → Option R}, ca_cubic_Acked capB n av cs k = some r → ∃ q : Ret2 RW, runF tbl n 50 (TV.los U av) (cs.map (TV.los U)) = some (q.lo U) ∧ k q = some r := by
  intro n ih av cs k h
  unfold ca_cubic_Acked at h
  split at h
  · simp only [Option.bind_eq_some_iff] at h
    obtain ⟨c0_, h0, p0, g0, p1, h1, p2, h2, p3, h3, p4, h4, h⟩ := h
    obtain rfl := dA_ok h0
    obtain rfl := dCc_ok g0
    obtain rfl := dI_ok h1
    obtain rfl := dI_ok h2
    obtain rfl := dI_ok h3
    obtain rfl := dB_ok h4
    cases n with
    | zero => cases h
    | succ n =>
      exact run2_ok UOk (ih n rfl) (f := fn_cubic_Acked) rfl ((run_cubic_Acked capB n p0 p1 p2 p3 p4 k).symm.trans h)
  · cases h
theorem ok_cc_Acked {R : Type} {r : R} : ∀ {n : Nat}, (∀ m, n = m + 1 → CallOk2 (R := R) U (callP capB m) (runF tbl m)) → ∀ {av : Fr} {cs : List Fr} {k : Ret2 RW → Option R}, ca_cc_Acked capB n av cs k = some r → ∃ q : Ret2 RW, runF tbl n 21 (TV.los U av) (cs.map (TV.los U)) = some (q.lo U) ∧ k q = some r := by
  intro n ih av cs k h
  unfold ca_cc_Acked at h
  split at h
  · simp only [Option.bind_eq_some_iff] at h
    obtain ⟨c0_, h0, p0, g0, c1_, h1, p1, g1, p2, h2, h⟩ := h
    obtain rfl := dA_ok h0
    obtain rfl := dCc_ok g0
    obtain rfl := dA_ok h1
    obtain rfl := dSample_ok g1
    obtain rfl := dI_ok h2
    cases n with
    | zero => cases h
    | succ n =>
      exact run2_ok UOk (ih n rfl) (f := fn_cc_Acked) rfl ((run_cc_Acked capB n p0 p1 p2 k).symm.trans h)
  · cases h
theorem ok_law19_CcStays {R : Type} {r : R} : ∀ {n : Nat}, (∀ m, n = m + 1 → CallOk2 (R := R) U (callP capB m) (runF tbl m)) → ∀ {av : Fr} {cs : List Fr} {k : Ret2 RW → Option R}, ca_law19_CcStays capB n av cs k = some r → ∃ q : Ret2 RW, runF tbl n 6 (TV.los U av) (cs.map (TV.los U)) = some (q.lo U) ∧ k q = some r := by
  intro n ih av cs k h
  unfold ca_law19_CcStays at h
  split at h
  · simp only [Option.bind_eq_some_iff] at h
    obtain ⟨p0, h0, p1, h1, p2, h2, p3, h3, h⟩ := h
    obtain rfl := dI_ok h0
    obtain rfl := dI_ok h1
    obtain rfl := dRSample_ok h2
    obtain rfl := dRint_ok h3
    cases n with
    | zero => cases h
    | succ n =>
      exact run2_ok UOk (ih n rfl) (f := fn_law19_CcStays) rfl ((run_law19_CcStays capB n p0 p1 p2 p3 k).symm.trans h)
  · cases h
theorem callOk {R : Type} : ∀ n, CallOk2 (R := R) U (callP capB n) (runF tbl n)
  | n => fun id av cells k r h => by
    have ih : ∀ m, n = m + 1 → CallOk2 (R := R) U (callP capB m) (runF tbl m) := fun m e => callOk m
    unfold callP at h
    split at h
    · exact ok_reno_New ih h
    · exact ok_cubic_New ih h
    · exact ok_bbr_New ih h
    · exact ok_cc_New ih h
    · exact ok_cc_time ih h
    · exact ok_cc_size ih h
    · exact ok_reno_size ih h
    · exact ok_reno_ctl_plain ih h
    · exact ok_reno_Check ih h
    · exact ok_cubic_size ih h
    · exact ok_cubic_Check ih h
    · exact ok_bbr_within ih h
    · exact ok_filter_may ih h
    · exact ok_filter_beats ih h
    · exact ok_filter_Check ih h
    · exact ok_bbr_ctl_entries ih h
    · exact ok_bbr_Check ih h
    · exact ok_cc_Check ih h
    · exact ok_cc_asked ih h
    · exact ok_cc_Rest ih h
    · exact ok_bbr_Gain ih h
    · exact ok_filter_Best ih h
    · exact ok_bbr_ctl_bandwidth ih h
    · exact ok_bbr_Bandwidth ih h
    · exact ok_math_bits_Mul64 ih h
    · exact ok_math_bits_Len64 ih h
    · exact ok_math_bits_LeadingZeros64 ih h
    · exact ok_math_bits_Div64 ih h
    · exact ok_seq_MulDiv ih h
    · exact ok_cc_Pace ih h
    · exact ok_law19_heads ih h
    · exact ok_reno_begun ih h
    · exact ok_reno_Loss ih h
    · exact ok_cubic_ctl_fall ih h
    · exact ok_cubic_moved ih h
    · exact ok_cubic_Loss ih h
    · exact ok_cc_Loss ih h
    · exact ok_reno_Timeout ih h
    · exact ok_cubic_ctl_shut ih h
    · exact ok_cubic_moved_b ih h
    · exact ok_cubic_Timeout ih h
    · exact ok_bbr_Timeout ih h
    · exact ok_cc_Timeout ih h
    · exact ok_cc_Done ih h
    · exact ok_cc_Limit ih h
    · exact ok_bbr_ctl_round ih h
    · exact ok_filter_Put ih h
    · exact ok_bbr_ctl_speed ih h
    · exact ok_bbr_ctl_shortest ih h
    · exact ok_bbr_ctl_full ih h
    · exact ok_bbr_ctl_product ih h
    · exact ok_bbr_ctl_probe ih h
    · exact ok_bbr_ctl_cycle ih h
    · exact ok_bbr_ctl_ask ih h
    · exact ok_seq_Clamp ih h
    · exact ok_bbr_ctl_window ih h
    · exact ok_bbr_Acked ih h
    · exact ok_reno_ctl_rise ih h
    · exact ok_reno_Acked ih h
    · exact ok_cubic_by ih h
    · exact ok_seq_Cbrt ih h
    · exact ok_cubic_ctl_begin ih h
    · exact ok_seq_Sum ih h
    · exact ok_cubic_Curve ih h
    · exact ok_cubic_ctl_grow ih h
    · exact ok_cubic_Acked ih h
    · exact ok_cc_Acked ih h
    · exact ok_law19_CcStays ih h
    · cases h
termination_by n => n
decreasing_by omega
end
end Go.Proofs.Ytgnoidblkenglaa.M
