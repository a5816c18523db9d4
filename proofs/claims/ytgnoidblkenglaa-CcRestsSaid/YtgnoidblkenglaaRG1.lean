/- The machine's code of the functions, and that it computes them. -/
import Derived.Test.YtgnoidblkenglaaRG1a
import Derived.Test.YtgnoidblkenglaaProg
import Derived.KernelRfl
set_option maxRecDepth 100000
set_option linter.unusedVariables false
set_option linter.unusedSimpArgs false
namespace Go.Proofs.Ytgnoidblkenglaa.M
open Go
noncomputable section
theorem l_math_bits_Div64_9_t {R : Type} (cp : Nat → Nat → Bool) (n : Nat) : ∀ (m : Nat) (v53 v54 v55 v56 v57 v58 v59 v64 v65 : Int) (k : Ex → FF → Option R), loopN2 (X cp n i_math_bits_Div64_0) m (fr_math_bits_Div64_7 v53 v54 v55 v56 v57 v58 v59 v64 v65) k = l_math_bits_Div64_9 cp n m v53 v54 v55 v56 v57 v58 v59 v64 v65 (fun v69 => k (.exit 0) (fr_math_bits_Div64_8 v53 v54 v55 v56 v57 v58 v59 v69))
  | 0, _, _, _, _, _, _, _, _, _, _ => rfl
  | m + 1, v53, v54, v55, v56, v57, v58, v59, v64, v65, k => (loopN2_succ (X cp n i_math_bits_Div64_0) m (fr_math_bits_Div64_7 v53 v54 v55 v56 v57 v58 v59 v64 v65) k).trans ((s_math_bits_Div64_4_t cp n v53 v54 v55 v56 v57 v58 v59 v64 v65 (loopT (X cp n i_math_bits_Div64_0) m k)).trans ((show s_math_bits_Div64_4 cp n v53 v54 v55 v56 v57 v58 v59 v64 v65 (fun v66 v67 => loopT (X cp n i_math_bits_Div64_0) m k .norm (fr_math_bits_Div64_5 v53 v54 v55 v56 v57 v58 v59 v66 v67)) (fun v68 => loopT (X cp n i_math_bits_Div64_0) m k (.exit 0) (fr_math_bits_Div64_6 v53 v54 v55 v56 v57 v58 v59 v68)) = s_math_bits_Div64_4 cp n v53 v54 v55 v56 v57 v58 v59 v64 v65 (fun v66 v67 => loopN2 (X cp n i_math_bits_Div64_0) m (fr_math_bits_Div64_7 v53 v54 v55 v56 v57 v58 v59 v66 v67) k) (fun v68 => k (.exit 0) (fr_math_bits_Div64_8 v53 v54 v55 v56 v57 v58 v59 v68)) from by kernel_rfl).trans (congrArg (fun q => s_math_bits_Div64_4 cp n v53 v54 v55 v56 v57 v58 v59 v64 v65 q (fun v68 => k (.exit 0) (fr_math_bits_Div64_8 v53 v54 v55 v56 v57 v58 v59 v68))) (funext fun v66 => funext fun v67 => l_math_bits_Div64_9_t cp n m v53 v54 v55 v56 v57 v58 v59 v66 v67 k))))
theorem s_math_bits_Div64_10_t {R : Type} (cp : Nat → Nat → Bool) (n : Nat) (v53 v54 v55 v56 v57 v58 v59 v60 v61 : Int) (k : Ex → FF → Option R) : X cp n i_math_bits_Div64_1 (fr_math_bits_Div64_2 v53 v54 v55 v56 v57 v58 v59 v60 v61) k = s_math_bits_Div64_10 cp n v53 v54 v55 v56 v57 v58 v59 v60 v61 (fun v69 => k (.exit 0) (fr_math_bits_Div64_8 v53 v54 v55 v56 v57 v58 v59 v69)) := (show X cp n i_math_bits_Div64_1 (fr_math_bits_Div64_2 v53 v54 v55 v56 v57 v58 v59 v60 v61) k = loopN2 (X cp n i_math_bits_Div64_0) n (fr_math_bits_Div64_7 v53 v54 v55 v56 v57 v58 v59 v60 v61) k from by kernel_rfl).trans (l_math_bits_Div64_9_t cp n n v53 v54 v55 v56 v57 v58 v59 v60 v61 k)
def fr_math_bits_Div64_11 (v53 v54 v55 v56 v57 v58 v59 v70 : Int) : FF := [dT 2 ((tI .u64 v53) :: (dT 5 ((tI .u64 v54) :: (tI .u64 v55) :: (tI .u64 v56) :: (tI .u64 v57) :: (dT 1 ([(tI .u64 v58), (tI .u64 v59), (tI .u64 v70)]))))), dc, dc, dc, dc, dc, dc, dc, dc]
theorem s_math_bits_Div64_12_t {R : Type} (cp : Nat → Nat → Bool) (n : Nat) (v53 v54 v55 v56 v57 v58 v59 v60 v61 : Int) (k : Ex → FF → Option R) : X cp n i_math_bits_Div64_2 (fr_math_bits_Div64_2 v53 v54 v55 v56 v57 v58 v59 v60 v61) k = s_math_bits_Div64_12 cp n v53 v54 v55 v56 v57 v58 v59 v60 v61 (fun v70 => k .norm (fr_math_bits_Div64_11 v53 v54 v55 v56 v57 v58 v59 v70)) := (show X cp n i_math_bits_Div64_2 (fr_math_bits_Div64_2 v53 v54 v55 v56 v57 v58 v59 v60 v61) k = X cp n i_math_bits_Div64_1 (fr_math_bits_Div64_2 v53 v54 v55 v56 v57 v58 v59 v60 v61) (blkT 0 k) from by kernel_rfl).trans ((s_math_bits_Div64_10_t cp n v53 v54 v55 v56 v57 v58 v59 v60 v61 (blkT 0 k)).trans (by kernel_rfl))
def fr_math_bits_Div64_14 (v53 v54 v55 v56 v59 v70 v71 v72 v73 : Int) : FF := [dT 2 ((tI .u64 v53) :: (dT 5 ((tI .u64 v54) :: (tI .u64 v55) :: (tI .u64 v56) :: (dT 3 ([(tI .u64 v59), (tI .u64 v70)]))))), (tI .u64 v71) :: (tI .u64 v72) :: (tI .u64 v73) :: (dT 13 []), dc, dc, dc, dc, dc, dc, dc]
def fr_math_bits_Div64_16 (v53 v54 v55 v56 v59 v70 v72 v76 v77 : Int) : FF := [dT 2 ((tI .u64 v53) :: (dT 5 ((tI .u64 v54) :: (tI .u64 v55) :: (tI .u64 v56) :: (dT 3 ([(tI .u64 v59), (tI .u64 v70)]))))), (tI .u64 v76) :: (tI .u64 v72) :: (tI .u64 v77) :: (dT 13 []), dc, dc, dc, dc, dc, dc, dc]
def fr_math_bits_Div64_17 (v53 v54 v59 v70 v72 v78 : Int) : FF := [dT 2 ((tI .u64 v53) :: (dT 5 ((tI .u64 v54) :: (dT 5 ([(tI .u64 v59), (tI .u64 v70)]))))), dT 1 ((tI .u64 v72) :: (tI .u64 v78) :: (dT 13 [])), dc, dc, dc, dc, dc, dc, dc]
def fr_math_bits_Div64_18 (v53 v54 v55 v56 v59 v70 v72 v74 v75 : Int) : FF := [dT 2 ((tI .u64 v53) :: (dT 5 ((tI .u64 v54) :: (tI .u64 v55) :: (tI .u64 v56) :: (dT 3 ([(tI .u64 v59), (tI .u64 v70)]))))), (tI .u64 v74) :: (tI .u64 v72) :: (tI .u64 v75) :: (dT 13 []), dc, dc, dc, dc, dc, dc, dc]
theorem s_math_bits_Div64_15_t {R : Type} (cp : Nat → Nat → Bool) (n : Nat) (v53 v54 v55 v56 v59 v70 v72 v74 v75 : Int) (k : Ex → FF → Option R) : X cp n i_math_bits_Div64_3 (fr_math_bits_Div64_18 v53 v54 v55 v56 v59 v70 v72 v74 v75) k = s_math_bits_Div64_15 cp n v53 v54 v55 v56 v59 v70 v72 v74 v75 (fun v76 v77 => k .norm (fr_math_bits_Div64_16 v53 v54 v55 v56 v59 v70 v72 v76 v77)) (fun v78 => k (.exit 2) (fr_math_bits_Div64_17 v53 v54 v59 v70 v72 v78)) := by kernel_rfl
def fr_math_bits_Div64_19 (v53 v54 v59 v70 v72 v79 : Int) : FF := [dT 2 ((tI .u64 v53) :: (dT 5 ((tI .u64 v54) :: (dT 5 ([(tI .u64 v59), (tI .u64 v70)]))))), dT 1 ((tI .u64 v72) :: (tI .u64 v79) :: (dT 13 [])), dc, dc, dc, dc, dc, dc, dc]
theorem l_math_bits_Div64_20_t {R : Type} (cp : Nat → Nat → Bool) (n : Nat) : ∀ (m : Nat) (v53 v54 v55 v56 v59 v70 v72 v74 v75 : Int) (k : Ex → FF → Option R), loopN2 (X cp n i_math_bits_Div64_3) m (fr_math_bits_Div64_18 v53 v54 v55 v56 v59 v70 v72 v74 v75) k = l_math_bits_Div64_20 cp n m v53 v54 v55 v56 v59 v70 v72 v74 v75 (fun v79 => k (.exit 2) (fr_math_bits_Div64_19 v53 v54 v59 v70 v72 v79))
  | 0, _, _, _, _, _, _, _, _, _, _ => rfl
  | m + 1, v53, v54, v55, v56, v59, v70, v72, v74, v75, k => (loopN2_succ (X cp n i_math_bits_Div64_3) m (fr_math_bits_Div64_18 v53 v54 v55 v56 v59 v70 v72 v74 v75) k).trans ((s_math_bits_Div64_15_t cp n v53 v54 v55 v56 v59 v70 v72 v74 v75 (loopT (X cp n i_math_bits_Div64_3) m k)).trans ((show s_math_bits_Div64_15 cp n v53 v54 v55 v56 v59 v70 v72 v74 v75 (fun v76 v77 => loopT (X cp n i_math_bits_Div64_3) m k .norm (fr_math_bits_Div64_16 v53 v54 v55 v56 v59 v70 v72 v76 v77)) (fun v78 => loopT (X cp n i_math_bits_Div64_3) m k (.exit 2) (fr_math_bits_Div64_17 v53 v54 v59 v70 v72 v78)) = s_math_bits_Div64_15 cp n v53 v54 v55 v56 v59 v70 v72 v74 v75 (fun v76 v77 => loopN2 (X cp n i_math_bits_Div64_3) m (fr_math_bits_Div64_18 v53 v54 v55 v56 v59 v70 v72 v76 v77) k) (fun v78 => k (.exit 2) (fr_math_bits_Div64_19 v53 v54 v59 v70 v72 v78)) from by kernel_rfl).trans (congrArg (fun q => s_math_bits_Div64_15 cp n v53 v54 v55 v56 v59 v70 v72 v74 v75 q (fun v78 => k (.exit 2) (fr_math_bits_Div64_19 v53 v54 v59 v70 v72 v78))) (funext fun v76 => funext fun v77 => l_math_bits_Div64_20_t cp n m v53 v54 v55 v56 v59 v70 v72 v76 v77 k))))
theorem s_math_bits_Div64_21_t {R : Type} (cp : Nat → Nat → Bool) (n : Nat) (v53 v54 v55 v56 v59 v70 v71 v72 v73 : Int) (k : Ex → FF → Option R) : X cp n i_math_bits_Div64_4 (fr_math_bits_Div64_14 v53 v54 v55 v56 v59 v70 v71 v72 v73) k = s_math_bits_Div64_21 cp n v53 v54 v55 v56 v59 v70 v71 v72 v73 (fun v79 => k (.exit 2) (fr_math_bits_Div64_19 v53 v54 v59 v70 v72 v79)) := (show X cp n i_math_bits_Div64_4 (fr_math_bits_Div64_14 v53 v54 v55 v56 v59 v70 v71 v72 v73) k = loopN2 (X cp n i_math_bits_Div64_3) n (fr_math_bits_Div64_18 v53 v54 v55 v56 v59 v70 v72 v71 v73) k from by kernel_rfl).trans (l_math_bits_Div64_20_t cp n n v53 v54 v55 v56 v59 v70 v72 v71 v73 k)
def fr_math_bits_Div64_22 (v53 v54 v59 v70 v72 v80 : Int) : FF := [dT 2 ((tI .u64 v53) :: (dT 5 ((tI .u64 v54) :: (dT 5 ([(tI .u64 v59), (tI .u64 v70)]))))), dT 1 ((tI .u64 v72) :: (tI .u64 v80) :: (dT 13 [])), dc, dc, dc, dc, dc, dc, dc]
theorem s_math_bits_Div64_23_t {R : Type} (cp : Nat → Nat → Bool) (n : Nat) (v53 v54 v55 v56 v59 v70 v71 v72 v73 : Int) (k : Ex → FF → Option R) : X cp n i_math_bits_Div64_5 (fr_math_bits_Div64_14 v53 v54 v55 v56 v59 v70 v71 v72 v73) k = s_math_bits_Div64_23 cp n v53 v54 v55 v56 v59 v70 v71 v72 v73 (fun v80 => k .norm (fr_math_bits_Div64_22 v53 v54 v59 v70 v72 v80)) := (show X cp n i_math_bits_Div64_5 (fr_math_bits_Div64_14 v53 v54 v55 v56 v59 v70 v71 v72 v73) k = X cp n i_math_bits_Div64_4 (fr_math_bits_Div64_14 v53 v54 v55 v56 v59 v70 v71 v72 v73) (blkT 2 k) from by kernel_rfl).trans ((s_math_bits_Div64_21_t cp n v53 v54 v55 v56 v59 v70 v71 v72 v73 (blkT 2 k)).trans (by kernel_rfl))
def fr_math_bits_Div64_25 (v81 v82 : Int) : FF := [dT 6 ((tI .u64 v81) :: (tI .u64 v82) :: (dT 8 [])), dc, dc, dc, dc, dc, dc, dc, dc]
theorem s_math_bits_Div64_24_t {R : Type} (cp : Nat → Nat → Bool) (n : Nat) (v53 v54 v59 v70 v72 v80 : Int) (k : Ex → FF → Option R) : X cp n i_math_bits_Div64_6 (fr_math_bits_Div64_22 v53 v54 v59 v70 v72 v80) k = s_math_bits_Div64_24 cp n v53 v54 v59 v70 v72 v80 (fun v81 v82 => k .ret (fr_math_bits_Div64_25 v81 v82)) := by kernel_rfl
def fr_math_bits_Div64_26 (v83 v84 : Int) : FF := [dT 6 ((tI .u64 v83) :: (tI .u64 v84) :: (dT 8 [])), dc, dc, dc, dc, dc, dc, dc, dc]
theorem s_math_bits_Div64_27_t {R : Type} (cp : Nat → Nat → Bool) (n : Nat) (v53 v54 v55 v56 v59 v70 v71 v72 v73 : Int) (k : Ex → FF → Option R) : X cp n i_math_bits_Div64_7 (fr_math_bits_Div64_14 v53 v54 v55 v56 v59 v70 v71 v72 v73) k = s_math_bits_Div64_27 cp n v53 v54 v55 v56 v59 v70 v71 v72 v73 (fun v83 v84 => k .ret (fr_math_bits_Div64_26 v83 v84)) := (show X cp n i_math_bits_Div64_7 (fr_math_bits_Div64_14 v53 v54 v55 v56 v59 v70 v71 v72 v73) k = X cp n i_math_bits_Div64_5 (fr_math_bits_Div64_14 v53 v54 v55 v56 v59 v70 v71 v72 v73) (seqT (X cp n) i_math_bits_Div64_6 k) from by kernel_rfl).trans ((show X cp n i_math_bits_Div64_5 (fr_math_bits_Div64_14 v53 v54 v55 v56 v59 v70 v71 v72 v73) (seqT (X cp n) i_math_bits_Div64_6 k) = s_math_bits_Div64_23 cp n v53 v54 v55 v56 v59 v70 v71 v72 v73 (fun v80 => X cp n i_math_bits_Div64_6 (fr_math_bits_Div64_22 v53 v54 v59 v70 v72 v80) k) from (s_math_bits_Div64_23_t cp n v53 v54 v55 v56 v59 v70 v71 v72 v73 (seqT (X cp n) i_math_bits_Div64_6 k)).trans (by kernel_rfl)).trans (congrArg (fun q => s_math_bits_Div64_23 cp n v53 v54 v55 v56 v59 v70 v71 v72 v73 q) (funext fun v80 => (s_math_bits_Div64_24_t cp n v53 v54 v59 v70 v72 v80 k).trans (show s_math_bits_Div64_24 cp n v53 v54 v59 v70 v72 v80 (fun v81 v82 => k .ret (fr_math_bits_Div64_25 v81 v82)) = s_math_bits_Div64_24 cp n v53 v54 v59 v70 v72 v80 (fun v81 v82 => k .ret (fr_math_bits_Div64_26 v81 v82)) from by kernel_rfl))))
def fr_math_bits_Div64_28 (v85 v86 : Int) : FF := [dT 6 ((tI .u64 v85) :: (tI .u64 v86) :: (dT 8 [])), dc, dc, dc, dc, dc, dc, dc, dc]
theorem s_math_bits_Div64_29_t {R : Type} (cp : Nat → Nat → Bool) (n : Nat) (v53 v54 v55 v56 v57 v58 v59 v70 : Int) (k : Ex → FF → Option R) : X cp n i_math_bits_Div64_8 (fr_math_bits_Div64_11 v53 v54 v55 v56 v57 v58 v59 v70) k = s_math_bits_Div64_29 cp n v53 v54 v55 v56 v57 v58 v59 v70 (fun v85 v86 => k .ret (fr_math_bits_Div64_28 v85 v86)) := ((fun c => (show X cp n (.seq (.fin (.reg g_math_bits_Div64_21) [11, 13, 86, 87, 88, 89, 90, 91, 92, 93] []) (.seq (.fin (.reg g_math_bits_Div64_22) [94, 95, 96] []) (.seq (.fin (.reg g_math_bits_Div64_23) [97, 98, 99, 100, 101] []) c))) (fr_math_bits_Div64_11 v53 v54 v55 v56 v57 v58 v59 v70) k = s_math_bits_Div64_13 cp n v53 v54 v55 v56 v57 v58 v59 v70 (fun v71 v72 v73 => X cp n c (fr_math_bits_Div64_14 v53 v54 v55 v56 v59 v70 v71 v72 v73) k) from by kernel_rfl)) i_math_bits_Div64_7).trans (congrArg (fun q => s_math_bits_Div64_13 cp n v53 v54 v55 v56 v57 v58 v59 v70 q) (funext fun v71 => funext fun v72 => funext fun v73 => (s_math_bits_Div64_27_t cp n v53 v54 v55 v56 v59 v70 v71 v72 v73 k).trans (show s_math_bits_Div64_27 cp n v53 v54 v55 v56 v59 v70 v71 v72 v73 (fun v83 v84 => k .ret (fr_math_bits_Div64_26 v83 v84)) = s_math_bits_Div64_27 cp n v53 v54 v55 v56 v59 v70 v71 v72 v73 (fun v83 v84 => k .ret (fr_math_bits_Div64_28 v83 v84)) from by kernel_rfl)))
def fr_math_bits_Div64_30 (v87 v88 : Int) : FF := [dT 6 ((tI .u64 v87) :: (tI .u64 v88) :: (dT 8 [])), dc, dc, dc, dc, dc, dc, dc, dc]
theorem s_math_bits_Div64_31_t {R : Type} (cp : Nat → Nat → Bool) (n : Nat) (v53 v54 v55 v56 v57 v58 v59 v60 v61 : Int) (k : Ex → FF → Option R) : X cp n i_math_bits_Div64_9 (fr_math_bits_Div64_2 v53 v54 v55 v56 v57 v58 v59 v60 v61) k = s_math_bits_Div64_31 cp n v53 v54 v55 v56 v57 v58 v59 v60 v61 (fun v87 v88 => k .ret (fr_math_bits_Div64_30 v87 v88)) := (show X cp n i_math_bits_Div64_9 (fr_math_bits_Div64_2 v53 v54 v55 v56 v57 v58 v59 v60 v61) k = X cp n i_math_bits_Div64_2 (fr_math_bits_Div64_2 v53 v54 v55 v56 v57 v58 v59 v60 v61) (seqT (X cp n) i_math_bits_Div64_8 k) from by kernel_rfl).trans ((show X cp n i_math_bits_Div64_2 (fr_math_bits_Div64_2 v53 v54 v55 v56 v57 v58 v59 v60 v61) (seqT (X cp n) i_math_bits_Div64_8 k) = s_math_bits_Div64_12 cp n v53 v54 v55 v56 v57 v58 v59 v60 v61 (fun v70 => X cp n i_math_bits_Div64_8 (fr_math_bits_Div64_11 v53 v54 v55 v56 v57 v58 v59 v70) k) from (s_math_bits_Div64_12_t cp n v53 v54 v55 v56 v57 v58 v59 v60 v61 (seqT (X cp n) i_math_bits_Div64_8 k)).trans (by kernel_rfl)).trans (congrArg (fun q => s_math_bits_Div64_12 cp n v53 v54 v55 v56 v57 v58 v59 v60 v61 q) (funext fun v70 => (s_math_bits_Div64_29_t cp n v53 v54 v55 v56 v57 v58 v59 v70 k).trans (show s_math_bits_Div64_29 cp n v53 v54 v55 v56 v57 v58 v59 v70 (fun v85 v86 => k .ret (fr_math_bits_Div64_28 v85 v86)) = s_math_bits_Div64_29 cp n v53 v54 v55 v56 v57 v58 v59 v70 (fun v85 v86 => k .ret (fr_math_bits_Div64_30 v85 v86)) from by kernel_rfl))))
def fr_math_bits_Div64_32 (v89 v90 : Int) : FF := [dT 6 ((tI .u64 v89) :: (tI .u64 v90) :: (dT 8 [])), dc, dc, dc, dc, dc, dc, dc, dc]
def fr_math_bits_Div64_34 (p0 p1 p2 : Int) : FF := [(tI .u64 p0) :: (tI .u64 p1) :: (tI .u64 p2) :: (dT 13 []), dc, dc, dc, dc, dc, dc, dc, dc]
theorem s_math_bits_Div64_33_t {R : Type} (cp : Nat → Nat → Bool) (n : Nat) (p0 p1 p2 : Int) (k : Ex → FF → Option R) : X cp n i_math_bits_Div64_10 (fr_math_bits_Div64_34 p0 p1 p2) k = s_math_bits_Div64_33 cp n p0 p1 p2 (fun v89 v90 => k .ret (fr_math_bits_Div64_32 v89 v90)) := ((fun c => (show X cp n (.seq (.fin (.reg g_math_bits_Div64_0) [6, 7] []) (.seq (.seq (.fin (.reg g_math_bits_Div64_1) [19] []) (.fin (.cond (.s 20) (.stuck) (.skip)) [20] [])) (.seq (.seq (.fin (.reg g_math_bits_Div64_3) [22, 23] []) (.fin (.cond (.s 24) (.stuck) (.skip)) [24] [])) (.seq (.seq (.fin (.reg g_math_bits_Div64_5) [26] []) (.fin (.cond (.s 27) (.seq (.fin (.reg g_math_bits_Div64_6) [0, 1, 2, 27, 28, 29, 30, 31, 32, 33] []) (.ret)) (.skip)) [27] [])) (.seq (.fin (.reg g_math_bits_Div64_7) [34, 35, 36] []) (.seq (.fin (.reg g_math_bits_Div64_8) [37, 38, 39] []) (.seq (.fin (.reg g_math_bits_Div64_9) [40, 41] []) (.seq (.fin (.reg g_math_bits_Div64_10) [42, 43] []) (.seq (.fin (.reg g_math_bits_Div64_11) [0, 44, 45, 46, 47, 48, 49, 50, 51] []) (.seq (.fin (.reg g_math_bits_Div64_12) [1, 52, 53, 54] []) (.seq (.fin (.reg g_math_bits_Div64_13) [55, 56] []) (.seq (.fin (.reg g_math_bits_Div64_14) [12, 57, 58] []) (.seq (.fin (.reg g_math_bits_Div64_15) [59, 60, 61] []) (.seq (.fin (.reg g_math_bits_Div64_16) [62, 63, 64, 65, 66] []) c)))))))))))))) (fr_math_bits_Div64_34 p0 p1 p2) k = s_math_bits_Div64_1 cp n p0 p1 p2 (fun v53 v54 v55 v56 v57 v58 v59 v60 v61 => X cp n c (fr_math_bits_Div64_2 v53 v54 v55 v56 v57 v58 v59 v60 v61) k) (fun v62 v63 => k .ret (fr_math_bits_Div64_32 v62 v63)) from by kernel_rfl)) i_math_bits_Div64_9).trans (congrArg (fun q => s_math_bits_Div64_1 cp n p0 p1 p2 q (fun v62 v63 => k .ret (fr_math_bits_Div64_32 v62 v63))) (funext fun v53 => funext fun v54 => funext fun v55 => funext fun v56 => funext fun v57 => funext fun v58 => funext fun v59 => funext fun v60 => funext fun v61 => (s_math_bits_Div64_31_t cp n v53 v54 v55 v56 v57 v58 v59 v60 v61 k).trans (show s_math_bits_Div64_31 cp n v53 v54 v55 v56 v57 v58 v59 v60 v61 (fun v87 v88 => k .ret (fr_math_bits_Div64_30 v87 v88)) = s_math_bits_Div64_31 cp n v53 v54 v55 v56 v57 v58 v59 v60 v61 (fun v87 v88 => k .ret (fr_math_bits_Div64_32 v87 v88)) from by kernel_rfl)))
theorem run_math_bits_Div64 {R : Type} (cp : Nat → Nat → Bool) (n : Nat) (p0 p1 p2 : Int) (k : Ret2 RW → Option R) : G_math_bits_Div64 cp (n + 1) p0 p1 p2 (fun r0 r1 => k ⟨.tup [(tI .u64 r0), (tI .u64 r1)], []⟩) = run2 U cp (callP cp n) n fn_math_bits_Div64 [(tI .u64 p0), (tI .u64 p1), (tI .u64 p2)] [] k := ((X_run (f := fn_math_bits_Div64) (av := [(tI .u64 p0), (tI .u64 p1), (tI .u64 p2)]) (cells := []) (code := i_math_bits_Div64_10) (fr := (fr_math_bits_Div64_34 p0 p1 p2)) (k := k) (by kernel_rfl) (fun K => by kernel_rfl)).trans ((s_math_bits_Div64_33_t cp n p0 p1 p2 (finK2 fn_math_bits_Div64 k)).trans (by kernel_rfl))).symm
/-! tideway/seq.MulDiv -/
theorem run_seq_MulDiv {R : Type} (cp : Nat → Nat → Bool) (n : Nat) (p0 p1 p2 : Int) (k : Ret2 RW → Option R) : G_seq_MulDiv cp (n + 1) p0 p1 p2 (fun r0 r1 => k ⟨.tup [(tL r0), (tL r1)], []⟩) = run2 U cp (callP cp n) n fn_seq_MulDiv [(tL p0), (tL p1), (tL p2)] [] k := by kernel_rfl
/-! tideway/cc.Pace -/
def fr_cc_Pace_2 (p0 : SCc) (p1 p2 v36 v37 : Int) : FF := [dT 1 ((tL p1) :: (tL p2) :: (.ptr 49 0) :: (dT 3 ((tL v36) :: (tL v37) :: (dT 7 [])))), dc, dc, dT 1 ((.hdr 22) :: (sl 0 14 (eCc p0))), sl 14 8 (eCc p0) ++ (dT 8 [])]
def fr_cc_Pace_3 : FF := [dT 6 ((tL 0) :: (dT 9 [])), dc, dc, dc, dc]
def fr_cc_Pace_5 (v42 : Int) : FF := [dT 6 ((tL v42) :: (dT 9 [])), dc, dc, dc, dc]
theorem s_cc_Pace_4_t {R : Type} (cp : Nat → Nat → Bool) (n : Nat) (p0 : SCc) (p1 p2 v36 v37 : Int) (k : Ex → FF → Option R) : X cp n i_cc_Pace_0 (fr_cc_Pace_2 p0 p1 p2 v36 v37) k = s_cc_Pace_4 cp n p0 p1 p2 v36 v37 (fun v42 => k .ret (fr_cc_Pace_5 v42)) := by kernel_rfl
def fr_cc_Pace_6 (v43 : Int) : FF := [dT 6 ((tL v43) :: (dT 9 [])), dc, dc, dc, dc]
def fr_cc_Pace_8 (p0 : SCc) (p1 p2 : Int) : FF := [(.agg (eCc p0)) :: (tL p1) :: (tL p2) :: (dT 13 []), dc, dc, dc, dc]
theorem s_cc_Pace_7_t {R : Type} (cp : Nat → Nat → Bool) (n : Nat) (p0 : SCc) (p1 p2 : Int) (k : Ex → FF → Option R) : X cp n i_cc_Pace_1 (fr_cc_Pace_8 p0 p1 p2) k = s_cc_Pace_7 cp n p0 p1 p2 (fun v43 => k .ret (fr_cc_Pace_6 v43)) := ((fun c => (show X cp n (.seq (.fin (.reg g_cc_Pace_0) [0, 6] []) (.seq (.seq (.fin (.reg g_cc_Pace_1) [10, 11] []) (.fin (.cond (.s 12) (.seq (.fin (.reg g_cc_Pace_2) [1, 2, 3, 12] [(49, 22)]) (.ret)) (.skip)) [12] [])) (.seq (.reg g_cc_Pace_3) (.seq (.blk 0 (.seq (.fin (.reg g_cc_Pace_4) [14, 15, 16] []) (.cond (.s 13) (.fin (.reg g_cc_Pace_5) [13, 17, 18, 19, 20, 21, 22] []) (.seq (.fin (.reg g_cc_Pace_6) [13, 24, 25, 26, 27, 28] []) (.fin (.cond (.s 23) (.fin (.reg g_cc_Pace_7) [23] []) (.skip)) [23] []))))) c)))) (fr_cc_Pace_8 p0 p1 p2) k = s_cc_Pace_1 cp n p0 p1 p2 (fun v36 v37 => X cp n c (fr_cc_Pace_2 p0 p1 p2 v36 v37) k) (k .ret (fr_cc_Pace_6 0)) from by kernel_rfl)) i_cc_Pace_0).trans (congrArg (fun q => s_cc_Pace_1 cp n p0 p1 p2 q (k .ret (fr_cc_Pace_6 0))) (funext fun v36 => funext fun v37 => (s_cc_Pace_4_t cp n p0 p1 p2 v36 v37 k).trans (show s_cc_Pace_4 cp n p0 p1 p2 v36 v37 (fun v42 => k .ret (fr_cc_Pace_5 v42)) = s_cc_Pace_4 cp n p0 p1 p2 v36 v37 (fun v42 => k .ret (fr_cc_Pace_6 v42)) from by kernel_rfl)))
theorem run_cc_Pace {R : Type} (cp : Nat → Nat → Bool) (n : Nat) (p0 : SCc) (p1 p2 : Int) (k : Ret2 RW → Option R) : G_cc_Pace cp (n + 1) p0 p1 p2 (fun r0 => k ⟨(tL r0), []⟩) = run2 U cp (callP cp n) n fn_cc_Pace [.agg (eCc p0), (tL p1), (tL p2)] [] k := ((X_run (f := fn_cc_Pace) (av := [.agg (eCc p0), (tL p1), (tL p2)]) (cells := []) (code := i_cc_Pace_1) (fr := (fr_cc_Pace_8 p0 p1 p2)) (k := k) (by kernel_rfl) (fun K => by kernel_rfl)).trans ((s_cc_Pace_7_t cp n p0 p1 p2 (finK2 fn_cc_Pace k)).trans (by kernel_rfl))).symm
/-! tideway/tidewayref18.Gain -/
theorem run_ref18_Gain {R : Type} (cp : Nat → Nat → Bool) (n : Nat) (p0 : SCc) (k : Ret2 RW → Option R) : G_ref18_Gain cp (n + 1) p0 (fun r0 => k ⟨(tL r0), []⟩) = run2 U cp (callP cp n) n fn_ref18_Gain [.agg (eCc p0)] [] k := by kernel_rfl
/-! tideway/tidewayref12.Best -/
theorem run_ref12_Best {R : Type} (cp : Nat → Nat → Bool) (n : Nat) (p0 : (List SEntry)) (k : Ret2 RW → Option R) : G_ref12_Best cp (n + 1) p0 (fun r0 r1 => k ⟨.tup [(tL r0), (tB r1)], []⟩) = run2 U cp (callP cp n) n fn_ref12_Best [.row false (.rEntry p0)] [] k := by kernel_rfl
/-! tideway/tidewayref18.bandwidth -/
theorem run_ref18_bandwidth {R : Type} (cp : Nat → Nat → Bool) (n : Nat) (p0 : SCc) (k : Ret2 RW → Option R) : G_ref18_bandwidth cp (n + 1) p0 (fun r0 => k ⟨(tL r0), []⟩) = run2 U cp (callP cp n) n fn_ref18_bandwidth [.agg (eCc p0)] [] k := by kernel_rfl
/-! tideway/tidewayref18.Bandwidth -/
theorem run_ref18_Bandwidth {R : Type} (cp : Nat → Nat → Bool) (n : Nat) (p0 : SCc) (k : Ret2 RW → Option R) : G_ref18_Bandwidth cp (n + 1) p0 (fun r0 => k ⟨(tL r0), []⟩) = run2 U cp (callP cp n) n fn_ref18_Bandwidth [.agg (eCc p0)] [] k := by kernel_rfl
/-! tideway/tidewayref01.MulDiv -/
def fr_ref01_MulDiv_2 (p0 p2 v53 v54 : Int) : FF := [(tL p0) :: (dT 1 ((tL p2) :: (dT 5 ((tI .u64 0) :: (tI .u64 0) :: (tB false) :: (tI .u64 v53) :: (tI .u64 v54) :: (dT 3 []))))), dc, dc, dc, dc, dc]
def fr_ref01_MulDiv_3 : FF := [dT 6 ((tL 0) :: (tL 2) :: (dT 8 [])), dc, dc, dc, dc, dc]
def fr_ref01_MulDiv_5 (p0 p2 v53 v54 : Int) : FF := [(tL p0) :: (dT 1 ((tL p2) :: (dT 5 ((tI .u64 0) :: (tI .u64 0) :: (tB false) :: (tI .u64 v53) :: (tI .u64 v54) :: (tL 62) :: (dT 2 []))))), dc, dc, dc, dc, dc]
def fr_ref01_MulDiv_7 (p0 p2 v53 v54 v55 v56 : Int) (v57 : Bool) (v58 : Int) : FF := [(tL p0) :: (dT 1 ((tL p2) :: (dT 5 ((tI .u64 v55) :: (tI .u64 v56) :: (tB v57) :: (tI .u64 v53) :: (tI .u64 v54) :: (tL v58) :: (dT 2 []))))), dc, dc, dc, dc, dc]
def fr_ref01_MulDiv_8 (v55 : Int) : FF := [dT 8 ((tI .u64 v55) :: (dT 7 [])), dc, dc, dc, dc, dc]
def fr_ref01_MulDiv_10 (p0 p2 v53 v54 v58 v59 v60 : Int) (v61 : Bool) : FF := [(tL p0) :: (dT 1 ((tL p2) :: (dT 5 ((tI .u64 v59) :: (tI .u64 v60) :: (tB v61) :: (tI .u64 v53) :: (tI .u64 v54) :: (tL v58) :: (dT 2 []))))), dc, dc, dc, dc, dc]
def fr_ref01_MulDiv_12 (p0 p2 v53 v54 v58 v62 v63 : Int) (v64 : Bool) : FF := [(tL p0) :: (dT 1 ((tL p2) :: (dT 5 ((tI .u64 v62) :: (tI .u64 v63) :: (tB v64) :: (tI .u64 v53) :: (tI .u64 v54) :: (tL v58) :: (dT 2 []))))), dc, dc, dc, dc, dc]
def fr_ref01_MulDiv_13 : FF := [dT 6 ((tL 9223372036854775807) :: (tL 0) :: (dT 8 [])), dc, dc, dc, dc, dc]
theorem s_ref01_MulDiv_11_t {R : Type} (cp : Nat → Nat → Bool) (n : Nat) (p0 p2 v53 v54 v58 v59 v60 : Int) (v61 : Bool) (k : Ex → FF → Option R) : X cp n i_ref01_MulDiv_0 (fr_ref01_MulDiv_10 p0 p2 v53 v54 v58 v59 v60 v61) k = s_ref01_MulDiv_11 cp n p0 p2 v53 v54 v58 v59 v60 v61 (fun v62 v63 v64 => k .norm (fr_ref01_MulDiv_12 p0 p2 v53 v54 v58 v62 v63 v64)) (k .ret fr_ref01_MulDiv_13) := by kernel_rfl
def fr_ref01_MulDiv_14 (p0 p2 v53 v54 v58 v65 v66 : Int) (v67 : Bool) : FF := [(tL p0) :: (dT 1 ((tL p2) :: (dT 5 ((tI .u64 v65) :: (tI .u64 v66) :: (tB v67) :: (tI .u64 v53) :: (tI .u64 v54) :: (tL v58) :: (dT 2 []))))), dc, dc, dc, dc, dc]
theorem s_ref01_MulDiv_15_t {R : Type} (cp : Nat → Nat → Bool) (n : Nat) (p0 p2 v53 v54 v55 v56 : Int) (v57 : Bool) (v58 : Int) (k : Ex → FF → Option R) : X cp n i_ref01_MulDiv_1 (fr_ref01_MulDiv_7 p0 p2 v53 v54 v55 v56 v57 v58) k = s_ref01_MulDiv_15 cp n p0 p2 v53 v54 v55 v56 v57 v58 (fun v65 v66 v67 => k .norm (fr_ref01_MulDiv_14 p0 p2 v53 v54 v58 v65 v66 v67)) (k .ret fr_ref01_MulDiv_13) := ((fun c => (show X cp n (.seq (.fin (.reg g_ref01_MulDiv_9) [38, 39, 40, 41, 42] []) (.seq (.fin (.reg g_ref01_MulDiv_10) [43, 44] []) (.seq (.fin (.reg g_ref01_MulDiv_11) [45, 46] []) (.seq (.seq (.fin (.reg g_ref01_MulDiv_12) [47, 48, 49] []) (.fin (.cond (.s 50) (.seq (.fin (.reg g_ref01_MulDiv_13) [50, 51, 52, 53, 54] []) (.fin (.reg g_ref01_MulDiv_14) [55, 56] [])) (.skip)) [50] [])) c)))) (fr_ref01_MulDiv_7 p0 p2 v53 v54 v55 v56 v57 v58) k = s_ref01_MulDiv_9 cp n p0 p2 v53 v54 v55 v56 v57 v58 (fun v59 v60 v61 => X cp n c (fr_ref01_MulDiv_10 p0 p2 v53 v54 v58 v59 v60 v61) k) from by kernel_rfl)) i_ref01_MulDiv_0).trans (congrArg (fun q => s_ref01_MulDiv_9 cp n p0 p2 v53 v54 v55 v56 v57 v58 q) (funext fun v59 => funext fun v60 => funext fun v61 => (s_ref01_MulDiv_11_t cp n p0 p2 v53 v54 v58 v59 v60 v61 k).trans (show s_ref01_MulDiv_11 cp n p0 p2 v53 v54 v58 v59 v60 v61 (fun v62 v63 v64 => k .norm (fr_ref01_MulDiv_12 p0 p2 v53 v54 v58 v62 v63 v64)) (k .ret fr_ref01_MulDiv_13) = s_ref01_MulDiv_11 cp n p0 p2 v53 v54 v58 v59 v60 v61 (fun v62 v63 v64 => k .norm (fr_ref01_MulDiv_14 p0 p2 v53 v54 v58 v62 v63 v64)) (k .ret fr_ref01_MulDiv_13) from by kernel_rfl)))
def fr_ref01_MulDiv_16 (p0 p2 v53 v54 v58 v68 v69 : Int) (v70 : Bool) : FF := [(tL p0) :: (dT 1 ((tL p2) :: (dT 5 ((tI .u64 v68) :: (tI .u64 v69) :: (tB v70) :: (tI .u64 v53) :: (tI .u64 v54) :: (tL v58) :: (dT 2 []))))), dc, dc, dc, dc, dc]
theorem s_ref01_MulDiv_17_t {R : Type} (cp : Nat → Nat → Bool) (n : Nat) (p0 p2 v53 v54 v55 v56 : Int) (v57 : Bool) (v58 : Int) (k : Ex → FF → Option R) : X cp n i_ref01_MulDiv_2 (fr_ref01_MulDiv_7 p0 p2 v53 v54 v55 v56 v57 v58) k = s_ref01_MulDiv_17 cp n p0 p2 v53 v54 v55 v56 v57 v58 (fun v68 v69 v70 => k .norm (fr_ref01_MulDiv_16 p0 p2 v53 v54 v58 v68 v69 v70)) (k .ret fr_ref01_MulDiv_13) := (show X cp n i_ref01_MulDiv_2 (fr_ref01_MulDiv_7 p0 p2 v53 v54 v55 v56 v57 v58) k = X cp n i_ref01_MulDiv_1 (fr_ref01_MulDiv_7 p0 p2 v53 v54 v55 v56 v57 v58) (blkT 1 k) from by kernel_rfl).trans ((s_ref01_MulDiv_15_t cp n p0 p2 v53 v54 v55 v56 v57 v58 (blkT 1 k)).trans (by kernel_rfl))
def fr_ref01_MulDiv_19 (p0 p2 v53 v54 v68 v69 : Int) (v70 : Bool) (v71 : Int) : FF := [(tL p0) :: (dT 1 ((tL p2) :: (dT 5 ((tI .u64 v68) :: (tI .u64 v69) :: (tB v70) :: (tI .u64 v53) :: (tI .u64 v54) :: (tL v71) :: (dT 2 []))))), dc, dc, dc, dc, dc]
theorem s_ref01_MulDiv_18_t {R : Type} (cp : Nat → Nat → Bool) (n : Nat) (p0 p2 v53 v54 v58 v68 v69 : Int) (v70 : Bool) (k : Ex → FF → Option R) : X cp n i_ref01_MulDiv_3 (fr_ref01_MulDiv_16 p0 p2 v53 v54 v58 v68 v69 v70) k = s_ref01_MulDiv_18 cp n p0 p2 v53 v54 v58 v68 v69 v70 (fun v71 => k .norm (fr_ref01_MulDiv_19 p0 p2 v53 v54 v68 v69 v70 v71)) := by kernel_rfl
def fr_ref01_MulDiv_20 (p0 p2 v53 v54 v72 v73 : Int) (v74 : Bool) (v75 : Int) : FF := [(tL p0) :: (dT 1 ((tL p2) :: (dT 5 ((tI .u64 v72) :: (tI .u64 v73) :: (tB v74) :: (tI .u64 v53) :: (tI .u64 v54) :: (tL v75) :: (dT 2 []))))), dc, dc, dc, dc, dc]
theorem s_ref01_MulDiv_21_t {R : Type} (cp : Nat → Nat → Bool) (n : Nat) (p0 p2 v53 v54 v55 v56 : Int) (v57 : Bool) (v58 : Int) (k : Ex → FF → Option R) : X cp n i_ref01_MulDiv_4 (fr_ref01_MulDiv_7 p0 p2 v53 v54 v55 v56 v57 v58) k = s_ref01_MulDiv_21 cp n p0 p2 v53 v54 v55 v56 v57 v58 (fun v72 v73 v74 v75 => k .norm (fr_ref01_MulDiv_20 p0 p2 v53 v54 v72 v73 v74 v75)) (k .ret fr_ref01_MulDiv_13) := (show X cp n i_ref01_MulDiv_4 (fr_ref01_MulDiv_7 p0 p2 v53 v54 v55 v56 v57 v58) k = X cp n i_ref01_MulDiv_2 (fr_ref01_MulDiv_7 p0 p2 v53 v54 v55 v56 v57 v58) (seqT (X cp n) i_ref01_MulDiv_3 k) from by kernel_rfl).trans ((show X cp n i_ref01_MulDiv_2 (fr_ref01_MulDiv_7 p0 p2 v53 v54 v55 v56 v57 v58) (seqT (X cp n) i_ref01_MulDiv_3 k) = s_ref01_MulDiv_17 cp n p0 p2 v53 v54 v55 v56 v57 v58 (fun v68 v69 v70 => X cp n i_ref01_MulDiv_3 (fr_ref01_MulDiv_16 p0 p2 v53 v54 v58 v68 v69 v70) k) (k .ret fr_ref01_MulDiv_13) from (s_ref01_MulDiv_17_t cp n p0 p2 v53 v54 v55 v56 v57 v58 (seqT (X cp n) i_ref01_MulDiv_3 k)).trans (by kernel_rfl)).trans (congrArg (fun q => s_ref01_MulDiv_17 cp n p0 p2 v53 v54 v55 v56 v57 v58 q (k .ret fr_ref01_MulDiv_13)) (funext fun v68 => funext fun v69 => funext fun v70 => (s_ref01_MulDiv_18_t cp n p0 p2 v53 v54 v58 v68 v69 v70 k).trans (show s_ref01_MulDiv_18 cp n p0 p2 v53 v54 v58 v68 v69 v70 (fun v71 => k .norm (fr_ref01_MulDiv_19 p0 p2 v53 v54 v68 v69 v70 v71)) = s_ref01_MulDiv_18 cp n p0 p2 v53 v54 v58 v68 v69 v70 (fun v71 => k .norm (fr_ref01_MulDiv_20 p0 p2 v53 v54 v68 v69 v70 v71)) from by kernel_rfl))))
def fr_ref01_MulDiv_22 (p0 p2 v53 v54 v76 v77 : Int) (v78 : Bool) (v79 : Int) : FF := [(tL p0) :: (dT 1 ((tL p2) :: (dT 5 ((tI .u64 v76) :: (tI .u64 v77) :: (tB v78) :: (tI .u64 v53) :: (tI .u64 v54) :: (tL v79) :: (dT 2 []))))), dc, dc, dc, dc, dc]
theorem s_ref01_MulDiv_23_t {R : Type} (cp : Nat → Nat → Bool) (n : Nat) (p0 p2 v53 v54 v55 v56 : Int) (v57 : Bool) (v58 : Int) (k : Ex → FF → Option R) : X cp n i_ref01_MulDiv_5 (fr_ref01_MulDiv_7 p0 p2 v53 v54 v55 v56 v57 v58) k = s_ref01_MulDiv_23 cp n p0 p2 v53 v54 v55 v56 v57 v58 (fun v76 v77 v78 v79 => k .norm (fr_ref01_MulDiv_22 p0 p2 v53 v54 v76 v77 v78 v79)) (k .ret fr_ref01_MulDiv_13) (k (.exit 0) (fr_ref01_MulDiv_8 v55)) := ((fun c => (show X cp n (.seq (.seq (.fin (.reg g_ref01_MulDiv_7) [34] []) (.fin (.cond (.s 35) (.skip) (.clr [0, 2, 9, 10, 11, 12, 13, 35] [] (.exit 0))) [35] [])) c) (fr_ref01_MulDiv_7 p0 p2 v53 v54 v55 v56 v57 v58) k = s_ref01_MulDiv_6 cp n p0 p2 v53 v54 v55 v56 v57 v58 (X cp n c (fr_ref01_MulDiv_7 p0 p2 v53 v54 v55 v56 v57 v58) k) (k (.exit 0) (fr_ref01_MulDiv_8 v55)) from by kernel_rfl)) i_ref01_MulDiv_4).trans (congrArg (fun q => s_ref01_MulDiv_6 cp n p0 p2 v53 v54 v55 v56 v57 v58 q (k (.exit 0) (fr_ref01_MulDiv_8 v55))) ((s_ref01_MulDiv_21_t cp n p0 p2 v53 v54 v55 v56 v57 v58 k).trans (show s_ref01_MulDiv_21 cp n p0 p2 v53 v54 v55 v56 v57 v58 (fun v72 v73 v74 v75 => k .norm (fr_ref01_MulDiv_20 p0 p2 v53 v54 v72 v73 v74 v75)) (k .ret fr_ref01_MulDiv_13) = s_ref01_MulDiv_21 cp n p0 p2 v53 v54 v55 v56 v57 v58 (fun v72 v73 v74 v75 => k .norm (fr_ref01_MulDiv_22 p0 p2 v53 v54 v72 v73 v74 v75)) (k .ret fr_ref01_MulDiv_13) from by kernel_rfl)))
def fr_ref01_MulDiv_24 (v80 : Int) : FF := [dT 8 ((tI .u64 v80) :: (dT 7 [])), dc, dc, dc, dc, dc]
theorem l_ref01_MulDiv_25_t {R : Type} (cp : Nat → Nat → Bool) (n : Nat) : ∀ (m : Nat) (p0 p2 v53 v54 v55 v56 : Int) (v57 : Bool) (v58 : Int) (k : Ex → FF → Option R), loopN2 (X cp n i_ref01_MulDiv_5) m (fr_ref01_MulDiv_7 p0 p2 v53 v54 v55 v56 v57 v58) k = l_ref01_MulDiv_25 cp n m p0 p2 v53 v54 v55 v56 v57 v58 (k .ret fr_ref01_MulDiv_13) (fun v80 => k (.exit 0) (fr_ref01_MulDiv_24 v80))
  | 0, _, _, _, _, _, _, _, _, _ => rfl
  | m + 1, p0, p2, v53, v54, v55, v56, v57, v58, k => (loopN2_succ (X cp n i_ref01_MulDiv_5) m (fr_ref01_MulDiv_7 p0 p2 v53 v54 v55 v56 v57 v58) k).trans ((s_ref01_MulDiv_23_t cp n p0 p2 v53 v54 v55 v56 v57 v58 (loopT (X cp n i_ref01_MulDiv_5) m k)).trans ((show s_ref01_MulDiv_23 cp n p0 p2 v53 v54 v55 v56 v57 v58 (fun v76 v77 v78 v79 => loopT (X cp n i_ref01_MulDiv_5) m k .norm (fr_ref01_MulDiv_22 p0 p2 v53 v54 v76 v77 v78 v79)) (loopT (X cp n i_ref01_MulDiv_5) m k .ret fr_ref01_MulDiv_13) (loopT (X cp n i_ref01_MulDiv_5) m k (.exit 0) (fr_ref01_MulDiv_8 v55)) = s_ref01_MulDiv_23 cp n p0 p2 v53 v54 v55 v56 v57 v58 (fun v76 v77 v78 v79 => loopN2 (X cp n i_ref01_MulDiv_5) m (fr_ref01_MulDiv_7 p0 p2 v53 v54 v76 v77 v78 v79) k) (k .ret fr_ref01_MulDiv_13) (k (.exit 0) (fr_ref01_MulDiv_24 v55)) from by kernel_rfl).trans (congrArg (fun q => s_ref01_MulDiv_23 cp n p0 p2 v53 v54 v55 v56 v57 v58 q (k .ret fr_ref01_MulDiv_13) (k (.exit 0) (fr_ref01_MulDiv_24 v55))) (funext fun v76 => funext fun v77 => funext fun v78 => funext fun v79 => l_ref01_MulDiv_25_t cp n m p0 p2 v53 v54 v76 v77 v78 v79 k))))
theorem s_ref01_MulDiv_26_t {R : Type} (cp : Nat → Nat → Bool) (n : Nat) (p0 p2 v53 v54 : Int) (k : Ex → FF → Option R) : X cp n i_ref01_MulDiv_6 (fr_ref01_MulDiv_5 p0 p2 v53 v54) k = s_ref01_MulDiv_26 cp n p0 p2 v53 v54 (k .ret fr_ref01_MulDiv_13) (fun v80 => k (.exit 0) (fr_ref01_MulDiv_24 v80)) := (show X cp n i_ref01_MulDiv_6 (fr_ref01_MulDiv_5 p0 p2 v53 v54) k = loopN2 (X cp n i_ref01_MulDiv_5) n (fr_ref01_MulDiv_7 p0 p2 v53 v54 0 0 false 62) k from by kernel_rfl).trans (l_ref01_MulDiv_25_t cp n n p0 p2 v53 v54 0 0 false 62 k)
def fr_ref01_MulDiv_27 (v81 : Int) : FF := [dT 8 ((tI .u64 v81) :: (dT 7 [])), dc, dc, dc, dc, dc]
theorem s_ref01_MulDiv_28_t {R : Type} (cp : Nat → Nat → Bool) (n : Nat) (p0 p2 v53 v54 : Int) (k : Ex → FF → Option R) : X cp n i_ref01_MulDiv_7 (fr_ref01_MulDiv_5 p0 p2 v53 v54) k = s_ref01_MulDiv_28 cp n p0 p2 v53 v54 (fun v81 => k .norm (fr_ref01_MulDiv_27 v81)) (k .ret fr_ref01_MulDiv_13) := (show X cp n i_ref01_MulDiv_7 (fr_ref01_MulDiv_5 p0 p2 v53 v54) k = X cp n i_ref01_MulDiv_6 (fr_ref01_MulDiv_5 p0 p2 v53 v54) (blkT 0 k) from by kernel_rfl).trans ((s_ref01_MulDiv_26_t cp n p0 p2 v53 v54 (blkT 0 k)).trans (by kernel_rfl))
def fr_ref01_MulDiv_29 (v82 : Int) : FF := [dT 8 ((tI .u64 v82) :: (dT 7 [])), dc, dc, dc, dc, dc]
theorem s_ref01_MulDiv_30_t {R : Type} (cp : Nat → Nat → Bool) (n : Nat) (p0 p2 v53 v54 : Int) (k : Ex → FF → Option R) : X cp n i_ref01_MulDiv_8 (fr_ref01_MulDiv_2 p0 p2 v53 v54) k = s_ref01_MulDiv_30 cp n p0 p2 v53 v54 (fun v82 => k .norm (fr_ref01_MulDiv_29 v82)) (k .ret fr_ref01_MulDiv_13) := ((fun c => (show X cp n (.seq (.reg g_ref01_MulDiv_6) c) (fr_ref01_MulDiv_2 p0 p2 v53 v54) k = s_ref01_MulDiv_4 cp n p0 p2 v53 v54 (X cp n c (fr_ref01_MulDiv_5 p0 p2 v53 v54) k) from by kernel_rfl)) i_ref01_MulDiv_7).trans (congrArg (fun q => s_ref01_MulDiv_4 cp n p0 p2 v53 v54 q) ((s_ref01_MulDiv_28_t cp n p0 p2 v53 v54 k).trans (show s_ref01_MulDiv_28 cp n p0 p2 v53 v54 (fun v81 => k .norm (fr_ref01_MulDiv_27 v81)) (k .ret fr_ref01_MulDiv_13) = s_ref01_MulDiv_28 cp n p0 p2 v53 v54 (fun v81 => k .norm (fr_ref01_MulDiv_29 v81)) (k .ret fr_ref01_MulDiv_13) from by kernel_rfl)))
def fr_ref01_MulDiv_32 (v83 : Int) : FF := [dT 6 ((tL v83) :: (tL 0) :: (dT 8 [])), dc, dc, dc, dc, dc]
theorem s_ref01_MulDiv_31_t {R : Type} (cp : Nat → Nat → Bool) (n : Nat) (v82 : Int) (k : Ex → FF → Option R) : X cp n i_ref01_MulDiv_9 (fr_ref01_MulDiv_29 v82) k = s_ref01_MulDiv_31 cp n v82 (fun v83 => k .ret (fr_ref01_MulDiv_32 v83)) := by kernel_rfl
def fr_ref01_MulDiv_33 (v84 : Int) : FF := [dT 6 ((tL v84) :: (tL 0) :: (dT 8 [])), dc, dc, dc, dc, dc]
theorem s_ref01_MulDiv_34_t {R : Type} (cp : Nat → Nat → Bool) (n : Nat) (p0 p2 v53 v54 : Int) (k : Ex → FF → Option R) : X cp n i_ref01_MulDiv_10 (fr_ref01_MulDiv_2 p0 p2 v53 v54) k = s_ref01_MulDiv_34 cp n p0 p2 v53 v54 (fun v84 => k .ret (fr_ref01_MulDiv_33 v84)) := (show X cp n i_ref01_MulDiv_10 (fr_ref01_MulDiv_2 p0 p2 v53 v54) k = X cp n i_ref01_MulDiv_8 (fr_ref01_MulDiv_2 p0 p2 v53 v54) (seqT (X cp n) i_ref01_MulDiv_9 k) from by kernel_rfl).trans ((show X cp n i_ref01_MulDiv_8 (fr_ref01_MulDiv_2 p0 p2 v53 v54) (seqT (X cp n) i_ref01_MulDiv_9 k) = s_ref01_MulDiv_30 cp n p0 p2 v53 v54 (fun v82 => X cp n i_ref01_MulDiv_9 (fr_ref01_MulDiv_29 v82) k) (k .ret (fr_ref01_MulDiv_33 9223372036854775807)) from (s_ref01_MulDiv_30_t cp n p0 p2 v53 v54 (seqT (X cp n) i_ref01_MulDiv_9 k)).trans (by kernel_rfl)).trans (congrArg (fun q => s_ref01_MulDiv_30 cp n p0 p2 v53 v54 q (k .ret (fr_ref01_MulDiv_33 9223372036854775807))) (funext fun v82 => (s_ref01_MulDiv_31_t cp n v82 k).trans (show s_ref01_MulDiv_31 cp n v82 (fun v83 => k .ret (fr_ref01_MulDiv_32 v83)) = s_ref01_MulDiv_31 cp n v82 (fun v83 => k .ret (fr_ref01_MulDiv_33 v83)) from by kernel_rfl))))
def fr_ref01_MulDiv_35 (v85 v86 : Int) : FF := [dT 6 ((tL v85) :: (tL v86) :: (dT 8 [])), dc, dc, dc, dc, dc]
def fr_ref01_MulDiv_37 (p0 p1 p2 : Int) : FF := [(tL p0) :: (tL p1) :: (tL p2) :: (dT 13 []), dc, dc, dc, dc, dc]
theorem s_ref01_MulDiv_36_t {R : Type} (cp : Nat → Nat → Bool) (n : Nat) (p0 p1 p2 : Int) (k : Ex → FF → Option R) : X cp n i_ref01_MulDiv_11 (fr_ref01_MulDiv_37 p0 p1 p2) k = s_ref01_MulDiv_36 cp n p0 p1 p2 (fun v85 v86 => k .ret (fr_ref01_MulDiv_35 v85 v86)) := ((fun c => (show X cp n (.seq (.fin (.reg g_ref01_MulDiv_0) [6, 7] []) (.seq (.seq (.fin (.reg g_ref01_MulDiv_1) [14, 15, 16, 17, 18, 19, 20, 21, 22] []) (.fin (.cond (.s 23) (.seq (.fin (.reg g_ref01_MulDiv_2) [0, 1, 2, 23] []) (.ret)) (.skip)) [23] [])) (.seq (.reg g_ref01_MulDiv_3) (.seq (.reg g_ref01_MulDiv_4) (.seq (.fin (.reg g_ref01_MulDiv_5) [1, 24, 25, 26, 27, 28, 29, 30, 31, 32, 33] []) c))))) (fr_ref01_MulDiv_37 p0 p1 p2) k = s_ref01_MulDiv_1 cp n p0 p1 p2 (fun v53 v54 => X cp n c (fr_ref01_MulDiv_2 p0 p2 v53 v54) k) (k .ret (fr_ref01_MulDiv_35 0 2)) from by kernel_rfl)) i_ref01_MulDiv_10).trans (congrArg (fun q => s_ref01_MulDiv_1 cp n p0 p1 p2 q (k .ret (fr_ref01_MulDiv_35 0 2))) (funext fun v53 => funext fun v54 => (s_ref01_MulDiv_34_t cp n p0 p2 v53 v54 k).trans (show s_ref01_MulDiv_34 cp n p0 p2 v53 v54 (fun v84 => k .ret (fr_ref01_MulDiv_33 v84)) = s_ref01_MulDiv_34 cp n p0 p2 v53 v54 (fun v84 => k .ret (fr_ref01_MulDiv_35 v84 0)) from by kernel_rfl)))
theorem run_ref01_MulDiv {R : Type} (cp : Nat → Nat → Bool) (n : Nat) (p0 p1 p2 : Int) (k : Ret2 RW → Option R) : G_ref01_MulDiv cp (n + 1) p0 p1 p2 (fun r0 r1 => k ⟨.tup [(tL r0), (tL r1)], []⟩) = run2 U cp (callP cp n) n fn_ref01_MulDiv [(tL p0), (tL p1), (tL p2)] [] k := ((X_run (f := fn_ref01_MulDiv) (av := [(tL p0), (tL p1), (tL p2)]) (cells := []) (code := i_ref01_MulDiv_11) (fr := (fr_ref01_MulDiv_37 p0 p1 p2)) (k := k) (by kernel_rfl) (fun K => by kernel_rfl)).trans ((s_ref01_MulDiv_36_t cp n p0 p1 p2 (finK2 fn_ref01_MulDiv k)).trans (by kernel_rfl))).symm
/-! tideway/tidewayref19.Pace -/
def fr_ref19_Pace_2 (p0 : SCc) (p1 p2 v51 v52 : Int) : FF := [dT 1 ((tL p1) :: (tL p2) :: (.ptr 47 0) :: (dT 3 ((tL v51) :: (tL v52) :: (dT 7 [])))), dc, dT 15 ([.hdr 22]), sl 0 16 (eCc p0), sl 16 6 (eCc p0) ++ (dT 10 [])]
def fr_ref19_Pace_3 : FF := [dT 6 ((tL 0) :: (dT 9 [])), dc, dc, dc, dc]
def fr_ref19_Pace_5 (v57 : Int) : FF := [dT 6 ((tL v57) :: (dT 9 [])), dc, dc, dc, dc]
theorem s_ref19_Pace_4_t {R : Type} (cp : Nat → Nat → Bool) (n : Nat) (p0 : SCc) (p1 p2 v51 v52 : Int) (k : Ex → FF → Option R) : X cp n i_ref19_Pace_0 (fr_ref19_Pace_2 p0 p1 p2 v51 v52) k = s_ref19_Pace_4 cp n p0 p1 p2 v51 v52 (fun v57 => k .ret (fr_ref19_Pace_5 v57)) := by kernel_rfl
def fr_ref19_Pace_6 (v58 : Int) : FF := [dT 6 ((tL v58) :: (dT 9 [])), dc, dc, dc, dc]
def fr_ref19_Pace_8 (p0 : SCc) (p1 p2 : Int) : FF := [(.agg (eCc p0)) :: (tL p1) :: (tL p2) :: (dT 13 []), dc, dc, dc, dc]
theorem s_ref19_Pace_7_t {R : Type} (cp : Nat → Nat → Bool) (n : Nat) (p0 : SCc) (p1 p2 : Int) (k : Ex → FF → Option R) : X cp n i_ref19_Pace_1 (fr_ref19_Pace_8 p0 p1 p2) k = s_ref19_Pace_7 cp n p0 p1 p2 (fun v58 => k .ret (fr_ref19_Pace_6 v58)) := ((fun c => (show X cp n (.seq (.fin (.reg g_ref19_Pace_0) [0, 6] []) (.seq (.seq (.fin (.reg g_ref19_Pace_1) [10, 11] []) (.fin (.cond (.s 12) (.seq (.fin (.reg g_ref19_Pace_2) [1, 2, 3, 12] [(47, 22)]) (.ret)) (.skip)) [12] [])) (.seq (.reg g_ref19_Pace_3) (.seq (.reg g_ref19_Pace_4) (.seq (.seq (.fin (.reg g_ref19_Pace_5) [13, 14] []) (.cond (.s 15) (.seq (.fin (.reg g_ref19_Pace_6) [8, 15, 16, 17, 18, 19, 20, 21] []) (.reg g_ref19_Pace_7)) (.seq (.fin (.reg g_ref19_Pace_8) [15, 22, 23, 24, 25] []) (.fin (.cond (.s 26) (.fin (.reg g_ref19_Pace_9) [26] []) (.skip)) [26] [])))) c))))) (fr_ref19_Pace_8 p0 p1 p2) k = s_ref19_Pace_1 cp n p0 p1 p2 (fun v51 v52 => X cp n c (fr_ref19_Pace_2 p0 p1 p2 v51 v52) k) (k .ret (fr_ref19_Pace_6 0)) from by kernel_rfl)) i_ref19_Pace_0).trans (congrArg (fun q => s_ref19_Pace_1 cp n p0 p1 p2 q (k .ret (fr_ref19_Pace_6 0))) (funext fun v51 => funext fun v52 => (s_ref19_Pace_4_t cp n p0 p1 p2 v51 v52 k).trans (show s_ref19_Pace_4 cp n p0 p1 p2 v51 v52 (fun v57 => k .ret (fr_ref19_Pace_5 v57)) = s_ref19_Pace_4 cp n p0 p1 p2 v51 v52 (fun v57 => k .ret (fr_ref19_Pace_6 v57)) from by kernel_rfl)))
theorem run_ref19_Pace {R : Type} (cp : Nat → Nat → Bool) (n : Nat) (p0 : SCc) (p1 p2 : Int) (k : Ret2 RW → Option R) : G_ref19_Pace cp (n + 1) p0 p1 p2 (fun r0 => k ⟨(tL r0), []⟩) = run2 U cp (callP cp n) n fn_ref19_Pace [.agg (eCc p0), (tL p1), (tL p2)] [] k := ((X_run (f := fn_ref19_Pace) (av := [.agg (eCc p0), (tL p1), (tL p2)]) (cells := []) (code := i_ref19_Pace_1) (fr := (fr_ref19_Pace_8 p0 p1 p2)) (k := k) (by kernel_rfl) (fun K => by kernel_rfl)).trans ((s_ref19_Pace_7_t cp n p0 p1 p2 (finK2 fn_ref19_Pace k)).trans (by kernel_rfl))).symm
/-! tideway/reno.New -/
theorem run_reno_New {R : Type} (cp : Nat → Nat → Bool) (n : Nat) (p0 p1 : Int) (k : Ret2 RW → Option R) : G_reno_New cp (n + 1) p0 p1 (fun r0 r1 => k ⟨.tup [.agg (eCc r0), (tL r1)], []⟩) = run2 U cp (callP cp n) n fn_reno_New [(tL p0), (tL p1)] [] k := by kernel_rfl
/-! tideway/cubic.New -/
theorem run_cubic_New {R : Type} (cp : Nat → Nat → Bool) (n : Nat) (p0 p1 : Int) (k : Ret2 RW → Option R) : G_cubic_New cp (n + 1) p0 p1 (fun r0 r1 => k ⟨.tup [.agg (eCc r0), (tL r1)], []⟩) = run2 U cp (callP cp n) n fn_cubic_New [(tL p0), (tL p1)] [] k := by kernel_rfl
/-! tideway/bbr.New -/
theorem run_bbr_New {R : Type} (cp : Nat → Nat → Bool) (n : Nat) (p0 p1 : Int) (k : Ret2 RW → Option R) : G_bbr_New cp (n + 1) p0 p1 (fun r0 r1 => k ⟨.tup [.agg (eCc r0), (tL r1)], []⟩) = run2 U cp (callP cp n) n fn_bbr_New [(tL p0), (tL p1)] [] k := by kernel_rfl
/-! tideway/cc.New -/
theorem run_cc_New {R : Type} (cp : Nat → Nat → Bool) (n : Nat) (p0 p1 p2 : Int) (k : Ret2 RW → Option R) : G_cc_New cp (n + 1) p0 p1 p2 (fun r0 r1 => k ⟨.tup [.agg (eCc r0), (tL r1)], []⟩) = run2 U cp (callP cp n) n fn_cc_New [(tL p0), (tL p1), (tL p2)] [] k := by kernel_rfl
/-! tideway/tidewaylaw19.heads -/
def fr_law19_heads_2 (v80 v81 v82 v83 : Int) (v84 v85 v86 : SCc) : FF := [dT 1 ((.ptr 82 0) :: (tL v80) :: (.ptr 105 0) :: (tL v81) :: (.ptr 128 0) :: (tL v82) :: (dT 1 ((tL v83) :: (dT 7 [])))), dc, dc, dc, dc, dT 2 ((.hdr 22) :: (sl 0 13 (eCc v84))), sl 13 9 (eCc v84) ++ ((.hdr 22) :: (sl 0 6 (eCc v85))), sl 6 16 (eCc v85), (.hdr 22) :: (sl 0 15 (eCc v86)), sl 15 7 (eCc v86) ++ (dT 9 []), dc, dc, dc]
def fr_law19_heads_4 (v91 : Bool) : FF := [(tB v91) :: (dT 15 []), dc, dc, dc, dc, dc, dc, dc, dc, dc, dc, dc, dc]
theorem s_law19_heads_3_t {R : Type} (cp : Nat → Nat → Bool) (n : Nat) (v80 v81 v82 v83 : Int) (v84 v85 v86 : SCc) (k : Ex → FF → Option R) : X cp n i_law19_heads_0 (fr_law19_heads_2 v80 v81 v82 v83 v84 v85 v86) k = s_law19_heads_3 cp n v80 v81 v82 v83 v84 v85 v86 (fun v91 => k .ret (fr_law19_heads_4 v91)) := by kernel_rfl
def fr_law19_heads_5 (v92 : Bool) : FF := [(tB v92) :: (dT 15 []), dc, dc, dc, dc, dc, dc, dc, dc, dc, dc, dc, dc]
def fr_law19_heads_7 : FF := [dc, dc, dc, dc, dc, dc, dc, dc, dc, dc, dc, dc, dc]
theorem s_law19_heads_6_t {R : Type} (cp : Nat → Nat → Bool) (n : Nat) (k : Ex → FF → Option R) : X cp n i_law19_heads_1 fr_law19_heads_7 k = s_law19_heads_6 cp n (fun v92 => k .ret (fr_law19_heads_5 v92)) := ((fun c => (show X cp n (.seq (.fin (.reg g_law19_heads_0) [0] []) (.seq (.fin (.reg g_law19_heads_1) [11, 12, 13, 14] []) (.seq (.fin (.reg g_law19_heads_2) [15, 16, 17, 18] []) (.seq (.fin (.reg g_law19_heads_3) [19, 20, 21, 22] []) (.seq (.fin (.reg g_law19_heads_4) [7, 23, 24, 25, 26] [(151, 22)]) c))))) fr_law19_heads_7 k = s_law19_heads_1 cp n (fun v80 v81 v82 v83 v84 v85 v86 => X cp n c (fr_law19_heads_2 v80 v81 v82 v83 v84 v85 v86) k) from by kernel_rfl)) i_law19_heads_0).trans (congrArg (fun q => s_law19_heads_1 cp n q) (funext fun v80 => funext fun v81 => funext fun v82 => funext fun v83 => funext fun v84 => funext fun v85 => funext fun v86 => (s_law19_heads_3_t cp n v80 v81 v82 v83 v84 v85 v86 k).trans (show s_law19_heads_3 cp n v80 v81 v82 v83 v84 v85 v86 (fun v91 => k .ret (fr_law19_heads_4 v91)) = s_law19_heads_3 cp n v80 v81 v82 v83 v84 v85 v86 (fun v91 => k .ret (fr_law19_heads_5 v91)) from by kernel_rfl)))
theorem run_law19_heads {R : Type} (cp : Nat → Nat → Bool) (n : Nat) (k : Ret2 RW → Option R) : G_law19_heads cp (n + 1) (fun r0 => k ⟨(tB r0), []⟩) = run2 U cp (callP cp n) n fn_law19_heads [] [] k := ((X_run (f := fn_law19_heads) (av := []) (cells := []) (code := i_law19_heads_1) (fr := fr_law19_heads_7) (k := k) (by kernel_rfl) (fun K => by kernel_rfl)).trans ((s_law19_heads_6_t cp n  (finK2 fn_law19_heads k)).trans (by kernel_rfl))).symm
/-! tideway/tidewaylaw19.CcRests -/
def fr_law19_CcRests_2 (p0 : SCc) (p1 p3 v21 v22 v23 v24 : Int) (v25 v26 v27 v28 : SCc) : FF := [dT 1 ((tL p1) :: (dT 1 ((tL p3) :: (.ptr 77 0) :: (dT 4 ([.ptr 100 0, (tL v21), .ptr 123 0, (tL v22), .ptr 146 0, (tL v23), .ptr 169 0]))))), (tL v24) :: (dT 15 []), dc, dc, dT 13 ((.hdr 22) :: (sl 0 2 (eCc p0))), sl 2 16 (eCc p0), sl 18 4 (eCc p0) ++ ((.hdr 22) :: (sl 0 11 (eCc v25))), sl 11 11 (eCc v25) ++ ((.hdr 22) :: (sl 0 4 (eCc v26))), sl 4 16 (eCc v26), sl 20 2 (eCc v26) ++ ((.hdr 22) :: (sl 0 13 (eCc v27))), sl 13 9 (eCc v27) ++ ((.hdr 22) :: (sl 0 6 (eCc v28))), sl 6 16 (eCc v28)]
def fr_law19_CcRests_4 (v34 : Bool) : FF := [dT 8 ((tB v34) :: (dT 7 [])), dc, dc, dc, dc, dc, dc, dc, dc, dc, dc, dc]
theorem s_law19_CcRests_3_t {R : Type} (cp : Nat → Nat → Bool) (n : Nat) (p0 : SCc) (p1 p3 v21 v22 v23 v24 : Int) (v25 v26 v27 v28 : SCc) (k : Ex → FF → Option R) : X cp n i_law19_CcRests_0 (fr_law19_CcRests_2 p0 p1 p3 v21 v22 v23 v24 v25 v26 v27 v28) k = s_law19_CcRests_3 cp n p0 p1 p3 v21 v22 v23 v24 v25 v26 v27 v28 (fun v34 => k .norm (fr_law19_CcRests_4 v34)) := by kernel_rfl
theorem s_law19_CcRests_5_t {R : Type} (cp : Nat → Nat → Bool) (n : Nat) (v34 : Bool) (k : Ex → FF → Option R) : X cp n i_law19_CcRests_1 (fr_law19_CcRests_4 v34) k = s_law19_CcRests_5 cp n v34 (k .ret (fr_law19_CcRests_4 v34)) := by kernel_rfl
def fr_law19_CcRests_6 (v35 : Bool) : FF := [dT 8 ((tB v35) :: (dT 7 [])), dc, dc, dc, dc, dc, dc, dc, dc, dc, dc, dc]
theorem s_law19_CcRests_7_t {R : Type} (cp : Nat → Nat → Bool) (n : Nat) (p0 : SCc) (p1 p3 v21 v22 v23 v24 : Int) (v25 v26 v27 v28 : SCc) (k : Ex → FF → Option R) : X cp n i_law19_CcRests_2 (fr_law19_CcRests_2 p0 p1 p3 v21 v22 v23 v24 v25 v26 v27 v28) k = s_law19_CcRests_7 cp n p0 p1 p3 v21 v22 v23 v24 v25 v26 v27 v28 (fun v35 => k .ret (fr_law19_CcRests_6 v35)) := (show X cp n i_law19_CcRests_2 (fr_law19_CcRests_2 p0 p1 p3 v21 v22 v23 v24 v25 v26 v27 v28) k = X cp n i_law19_CcRests_0 (fr_law19_CcRests_2 p0 p1 p3 v21 v22 v23 v24 v25 v26 v27 v28) (seqT (X cp n) i_law19_CcRests_1 k) from by kernel_rfl).trans ((show X cp n i_law19_CcRests_0 (fr_law19_CcRests_2 p0 p1 p3 v21 v22 v23 v24 v25 v26 v27 v28) (seqT (X cp n) i_law19_CcRests_1 k) = s_law19_CcRests_3 cp n p0 p1 p3 v21 v22 v23 v24 v25 v26 v27 v28 (fun v34 => X cp n i_law19_CcRests_1 (fr_law19_CcRests_4 v34) k) from (s_law19_CcRests_3_t cp n p0 p1 p3 v21 v22 v23 v24 v25 v26 v27 v28 (seqT (X cp n) i_law19_CcRests_1 k)).trans (by kernel_rfl)).trans (congrArg (fun q => s_law19_CcRests_3 cp n p0 p1 p3 v21 v22 v23 v24 v25 v26 v27 v28 q) (funext fun v34 => (s_law19_CcRests_5_t cp n v34 k).trans (show s_law19_CcRests_5 cp n v34 (k .ret (fr_law19_CcRests_4 v34)) = s_law19_CcRests_5 cp n v34 (k .ret (fr_law19_CcRests_6 v34)) from by kernel_rfl))))
def fr_law19_CcRests_8 (v36 : Bool) : FF := [dT 8 ((tB v36) :: (dT 7 [])), dc, dc, dc, dc, dc, dc, dc, dc, dc, dc, dc]
def fr_law19_CcRests_10 (p0 : SCc) (p1 p2 p3 : Int) : FF := [(.agg (eCc p0)) :: (tL p1) :: (tL p2) :: (tL p3) :: (dT 12 []), dc, dc, dc, dc, dc, dc, dc, dc, dc, dc, dc]
theorem s_law19_CcRests_9_t {R : Type} (cp : Nat → Nat → Bool) (n : Nat) (p0 : SCc) (p1 p2 p3 : Int) (k : Ex → FF → Option R) : X cp n i_law19_CcRests_3 (fr_law19_CcRests_10 p0 p1 p2 p3) k = s_law19_CcRests_9 cp n p0 p1 p2 p3 (fun v36 => k .ret (fr_law19_CcRests_8 v36)) := ((fun c => (show X cp n (.seq (.fin (.reg g_law19_CcRests_0) [0, 8] []) (.seq (.fin (.reg g_law19_CcRests_1) [17, 18, 19, 20, 21, 22, 23, 24] []) (.seq (.fin (.reg g_law19_CcRests_2) [2, 25, 26, 27, 28, 29, 30, 31, 32] []) (.seq (.fin (.reg g_law19_CcRests_3) [33, 34, 35, 36, 37, 38] []) (.seq (.fin (.reg g_law19_CcRests_4) [39, 40, 41, 42, 43, 44] []) c))))) (fr_law19_CcRests_10 p0 p1 p2 p3) k = s_law19_CcRests_1 cp n p0 p1 p2 p3 (fun v21 v22 v23 v24 v25 v26 v27 v28 => X cp n c (fr_law19_CcRests_2 p0 p1 p3 v21 v22 v23 v24 v25 v26 v27 v28) k) from by kernel_rfl)) i_law19_CcRests_2).trans (congrArg (fun q => s_law19_CcRests_1 cp n p0 p1 p2 p3 q) (funext fun v21 => funext fun v22 => funext fun v23 => funext fun v24 => funext fun v25 => funext fun v26 => funext fun v27 => funext fun v28 => (s_law19_CcRests_7_t cp n p0 p1 p3 v21 v22 v23 v24 v25 v26 v27 v28 k).trans (show s_law19_CcRests_7 cp n p0 p1 p3 v21 v22 v23 v24 v25 v26 v27 v28 (fun v35 => k .ret (fr_law19_CcRests_6 v35)) = s_law19_CcRests_7 cp n p0 p1 p3 v21 v22 v23 v24 v25 v26 v27 v28 (fun v35 => k .ret (fr_law19_CcRests_8 v35)) from by kernel_rfl)))
theorem run_law19_CcRests {R : Type} (cp : Nat → Nat → Bool) (n : Nat) (p0 : SCc) (p1 p2 p3 : Int) (k : Ret2 RW → Option R) : G_law19_CcRests cp (n + 1) p0 p1 p2 p3 (fun r0 => k ⟨(tB r0), []⟩) = run2 U cp (callP cp n) n fn_law19_CcRests [.agg (eCc p0), (tL p1), (tL p2), (tL p3)] [] k := ((X_run (f := fn_law19_CcRests) (av := [.agg (eCc p0), (tL p1), (tL p2), (tL p3)]) (cells := []) (code := i_law19_CcRests_3) (fr := (fr_law19_CcRests_10 p0 p1 p2 p3)) (k := k) (by kernel_rfl) (fun K => by kernel_rfl)).trans ((s_law19_CcRests_9_t cp n p0 p1 p2 p3 (finK2 fn_law19_CcRests k)).trans (by kernel_rfl))).symm
def tbl : Nat → Option IFn
  | 32 => some (fn_cc_time.lo U)
  | 33 => some (fn_cc_size.lo U)
  | 51 => some (fn_reno_size.lo U)
  | 1008 => some (fn_reno_ctl_plain.lo U)
  | 28 => some (fn_reno_Check.lo U)
  | 53 => some (fn_cubic_size.lo U)
  | 29 => some (fn_cubic_Check.lo U)
  | 54 => some (fn_bbr_within.lo U)
  | 92 => some (fn_filter_may.lo U)
  | 93 => some (fn_filter_beats.lo U)
  | 76 => some (fn_filter_Check.lo U)
  | 1013 => some (fn_bbr_ctl_entries.lo U)
  | 30 => some (fn_bbr_Check.lo U)
  | 10 => some (fn_cc_Check.lo U)
  | 31 => some (fn_cc_asked.lo U)
  | 12 => some (fn_cc_Rest.lo U)
  | 36 => some (fn_ref15_Size.lo U)
  | 77 => some (fn_ref15_Common.lo U)
  | 78 => some (fn_ref15_Plain.lo U)
  | 56 => some (fn_ref15_Check.lo U)
  | 57 => some (fn_ref16_Check.lo U)
  | 94 => some (fn_ref12_time.lo U)
  | 95 => some (fn_ref12_value.lo U)
  | 79 => some (fn_ref12_Check.lo U)
  | 80 => some (fn_ref18_time.lo U)
  | 58 => some (fn_ref18_Check.lo U)
  | 34 => some (fn_ref19_Check.lo U)
  | 35 => some (fn_ref19_time.lo U)
  | 13 => some (fn_ref19_Rest.lo U)
  | 14 => some (fn_cc_Limit.lo U)
  | 15 => some (fn_ref19_Limit.lo U)
  | 9 => some (fn_ref15_Same.lo U)
  | 37 => some (fn_bbr_Gain.lo U)
  | 81 => some (fn_filter_Best.lo U)
  | 1036 => some (fn_bbr_ctl_bandwidth.lo U)
  | 38 => some (fn_bbr_Bandwidth.lo U)
  | 60 => some (fn_math_bits_Mul64.lo U)
  | 96 => some (fn_math_bits_Len64.lo U)
  | 82 => some (fn_math_bits_LeadingZeros64.lo U)
  | 61 => some (fn_math_bits_Div64.lo U)
  | 39 => some (fn_seq_MulDiv.lo U)
  | 16 => some (fn_cc_Pace.lo U)
  | 40 => some (fn_ref18_Gain.lo U)
  | 83 => some (fn_ref12_Best.lo U)
  | 62 => some (fn_ref18_bandwidth.lo U)
  | 41 => some (fn_ref18_Bandwidth.lo U)
  | 42 => some (fn_ref01_MulDiv.lo U)
  | 17 => some (fn_ref19_Pace.lo U)
  | 22 => some (fn_reno_New.lo U)
  | 23 => some (fn_cubic_New.lo U)
  | 24 => some (fn_bbr_New.lo U)
  | 7 => some (fn_cc_New.lo U)
  | 11 => some (fn_law19_heads.lo U)
  | 5 => some (fn_law19_CcRests.lo U)
  | _ => none
theorem chk_cc_time : chkFn Try.prog tbl (fn_cc_time.lo U) = true := by kernel_rfl
theorem chk_cc_size : chkFn Try.prog tbl (fn_cc_size.lo U) = true := by kernel_rfl
theorem chk_reno_size : chkFn Try.prog tbl (fn_reno_size.lo U) = true := by kernel_rfl
theorem chk_reno_ctl_plain : chkFn Try.prog tbl (fn_reno_ctl_plain.lo U) = true := by kernel_rfl
theorem chk_reno_Check : chkFn Try.prog tbl (fn_reno_Check.lo U) = true := by kernel_rfl
theorem chk_cubic_size : chkFn Try.prog tbl (fn_cubic_size.lo U) = true := by kernel_rfl
theorem chk_cubic_Check : chkFn Try.prog tbl (fn_cubic_Check.lo U) = true := by kernel_rfl
theorem chk_bbr_within : chkFn Try.prog tbl (fn_bbr_within.lo U) = true := by kernel_rfl
theorem chk_filter_may : chkFn Try.prog tbl (fn_filter_may.lo U) = true := by kernel_rfl
theorem chk_filter_beats : chkFn Try.prog tbl (fn_filter_beats.lo U) = true := by kernel_rfl
theorem chk_filter_Check : chkFn Try.prog tbl (fn_filter_Check.lo U) = true := by kernel_rfl
theorem chk_bbr_ctl_entries : chkFn Try.prog tbl (fn_bbr_ctl_entries.lo U) = true := by kernel_rfl
theorem chk_bbr_Check : chkFn Try.prog tbl (fn_bbr_Check.lo U) = true := by kernel_rfl
theorem chk_cc_Check : chkFn Try.prog tbl (fn_cc_Check.lo U) = true := by kernel_rfl
theorem chk_cc_asked : chkFn Try.prog tbl (fn_cc_asked.lo U) = true := by kernel_rfl
theorem chk_cc_Rest : chkFn Try.prog tbl (fn_cc_Rest.lo U) = true := by kernel_rfl
theorem chk_ref15_Size : chkFn Try.prog tbl (fn_ref15_Size.lo U) = true := by kernel_rfl
theorem chk_ref15_Common : chkFn Try.prog tbl (fn_ref15_Common.lo U) = true := by kernel_rfl
theorem chk_ref15_Plain : chkFn Try.prog tbl (fn_ref15_Plain.lo U) = true := by kernel_rfl
theorem chk_ref15_Check : chkFn Try.prog tbl (fn_ref15_Check.lo U) = true := by kernel_rfl
theorem chk_ref16_Check : chkFn Try.prog tbl (fn_ref16_Check.lo U) = true := by kernel_rfl
theorem chk_ref12_time : chkFn Try.prog tbl (fn_ref12_time.lo U) = true := by kernel_rfl
theorem chk_ref12_value : chkFn Try.prog tbl (fn_ref12_value.lo U) = true := by kernel_rfl
theorem chk_ref12_Check : chkFn Try.prog tbl (fn_ref12_Check.lo U) = true := by kernel_rfl
theorem chk_ref18_time : chkFn Try.prog tbl (fn_ref18_time.lo U) = true := by kernel_rfl
theorem chk_ref18_Check : chkFn Try.prog tbl (fn_ref18_Check.lo U) = true := by kernel_rfl
theorem chk_ref19_Check : chkFn Try.prog tbl (fn_ref19_Check.lo U) = true := by kernel_rfl
theorem chk_ref19_time : chkFn Try.prog tbl (fn_ref19_time.lo U) = true := by kernel_rfl
theorem chk_ref19_Rest : chkFn Try.prog tbl (fn_ref19_Rest.lo U) = true := by kernel_rfl
theorem chk_cc_Limit : chkFn Try.prog tbl (fn_cc_Limit.lo U) = true := by kernel_rfl
theorem chk_ref19_Limit : chkFn Try.prog tbl (fn_ref19_Limit.lo U) = true := by kernel_rfl
theorem chk_ref15_Same : chkFn Try.prog tbl (fn_ref15_Same.lo U) = true := by kernel_rfl
theorem chk_bbr_Gain : chkFn Try.prog tbl (fn_bbr_Gain.lo U) = true := by kernel_rfl
theorem chk_filter_Best : chkFn Try.prog tbl (fn_filter_Best.lo U) = true := by kernel_rfl
theorem chk_bbr_ctl_bandwidth : chkFn Try.prog tbl (fn_bbr_ctl_bandwidth.lo U) = true := by kernel_rfl
theorem chk_bbr_Bandwidth : chkFn Try.prog tbl (fn_bbr_Bandwidth.lo U) = true := by kernel_rfl
theorem chk_math_bits_Mul64 : chkFn Try.prog tbl (fn_math_bits_Mul64.lo U) = true := by kernel_rfl
theorem chk_math_bits_Len64 : chkFn Try.prog tbl (fn_math_bits_Len64.lo U) = true := by kernel_rfl
theorem chk_math_bits_LeadingZeros64 : chkFn Try.prog tbl (fn_math_bits_LeadingZeros64.lo U) = true := by kernel_rfl
theorem chk_math_bits_Div64 : chkFn Try.prog tbl (fn_math_bits_Div64.lo U) = true := by kernel_rfl
theorem chk_seq_MulDiv : chkFn Try.prog tbl (fn_seq_MulDiv.lo U) = true := by kernel_rfl
theorem chk_cc_Pace : chkFn Try.prog tbl (fn_cc_Pace.lo U) = true := by kernel_rfl
theorem chk_ref18_Gain : chkFn Try.prog tbl (fn_ref18_Gain.lo U) = true := by kernel_rfl
theorem chk_ref12_Best : chkFn Try.prog tbl (fn_ref12_Best.lo U) = true := by kernel_rfl
theorem chk_ref18_bandwidth : chkFn Try.prog tbl (fn_ref18_bandwidth.lo U) = true := by kernel_rfl
theorem chk_ref18_Bandwidth : chkFn Try.prog tbl (fn_ref18_Bandwidth.lo U) = true := by kernel_rfl
theorem chk_ref01_MulDiv : chkFn Try.prog tbl (fn_ref01_MulDiv.lo U) = true := by kernel_rfl
theorem chk_ref19_Pace : chkFn Try.prog tbl (fn_ref19_Pace.lo U) = true := by kernel_rfl
theorem chk_reno_New : chkFn Try.prog tbl (fn_reno_New.lo U) = true := by kernel_rfl
theorem chk_cubic_New : chkFn Try.prog tbl (fn_cubic_New.lo U) = true := by kernel_rfl
theorem chk_bbr_New : chkFn Try.prog tbl (fn_bbr_New.lo U) = true := by kernel_rfl
theorem chk_cc_New : chkFn Try.prog tbl (fn_cc_New.lo U) = true := by kernel_rfl
theorem chk_law19_heads : chkFn Try.prog tbl (fn_law19_heads.lo U) = true := by kernel_rfl
theorem chk_law19_CcRests : chkFn Try.prog tbl (fn_law19_CcRests.lo U) = true := by kernel_rfl
theorem chkAll : ∀ (id : Nat) (f : IFn), tbl id = some f → chkFn Try.prog tbl f = true := by
  intro id f h
  unfold tbl at h
  split at h
  · cases h; exact chk_cc_time
  · cases h; exact chk_cc_size
  · cases h; exact chk_reno_size
  · cases h; exact chk_reno_ctl_plain
  · cases h; exact chk_reno_Check
  · cases h; exact chk_cubic_size
  · cases h; exact chk_cubic_Check
  · cases h; exact chk_bbr_within
  · cases h; exact chk_filter_may
  · cases h; exact chk_filter_beats
  · cases h; exact chk_filter_Check
  · cases h; exact chk_bbr_ctl_entries
  · cases h; exact chk_bbr_Check
  · cases h; exact chk_cc_Check
  · cases h; exact chk_cc_asked
  · cases h; exact chk_cc_Rest
  · cases h; exact chk_ref15_Size
  · cases h; exact chk_ref15_Common
  · cases h; exact chk_ref15_Plain
  · cases h; exact chk_ref15_Check
  · cases h; exact chk_ref16_Check
  · cases h; exact chk_ref12_time
  · cases h; exact chk_ref12_value
  · cases h; exact chk_ref12_Check
  · cases h; exact chk_ref18_time
  · cases h; exact chk_ref18_Check
  · cases h; exact chk_ref19_Check
  · cases h; exact chk_ref19_time
  · cases h; exact chk_ref19_Rest
  · cases h; exact chk_cc_Limit
  · cases h; exact chk_ref19_Limit
  · cases h; exact chk_ref15_Same
  · cases h; exact chk_bbr_Gain
  · cases h; exact chk_filter_Best
  · cases h; exact chk_bbr_ctl_bandwidth
  · cases h; exact chk_bbr_Bandwidth
  · cases h; exact chk_math_bits_Mul64
  · cases h; exact chk_math_bits_Len64
  · cases h; exact chk_math_bits_LeadingZeros64
  · cases h; exact chk_math_bits_Div64
  · cases h; exact chk_seq_MulDiv
  · cases h; exact chk_cc_Pace
  · cases h; exact chk_ref18_Gain
  · cases h; exact chk_ref12_Best
  · cases h; exact chk_ref18_bandwidth
  · cases h; exact chk_ref18_Bandwidth
  · cases h; exact chk_ref01_MulDiv
  · cases h; exact chk_ref19_Pace
  · cases h; exact chk_reno_New
  · cases h; exact chk_cubic_New
  · cases h; exact chk_bbr_New
  · cases h; exact chk_cc_New
  · cases h; exact chk_law19_heads
  · cases h; exact chk_law19_CcRests
  · cases h
theorem dI_ok {kd : IntKind} {y : TV RW} {a : Int} (h : dI kd y = some a) : y = .sc (.int kd a) := by
  unfold dI at h
  split at h
  · obtain ⟨h1, h2⟩ := cond_some h
    cases h2
    rw [of_decide_eq_true h1]
  · cases h
theorem dB_ok {y : TV RW} {a : Bool} (h : dB y = some a) : y = .sc (.bool a) := by
  unfold dB at h
  split at h <;> cases h
  rfl
theorem dS_ok {y : TV RW} {a : ByteArray} (h : dS y = some a) : y = .sc (.string a) := by
  unfold dS at h
  split at h <;> cases h
  rfl
theorem dA_ok {y : TV RW} {a : Fr} (h : dA y = some a) : y = .agg a := by
  unfold dA at h
  split at h <;> cases h
  rfl
theorem dOne_ok {y : Fr} {a : TV RW} (h : dOne y = some a) : y = [a] := by
  unfold dOne at h
  split at h <;> cases h
  rfl
theorem dP_ok {a b : Nat} {y : TV RW} {u : Unit} (h : dP a b y = some u) : y = .ptr a b := by
  unfold dP at h
  split at h
  · obtain ⟨h1, h2⟩ := cond_some h
    simp only [Bool.and_eq_true] at h1
    rw [nbeq h1.1, nbeq h1.2]
  · cases h
theorem dC_ok {a : Nat} {b : List (Nat × Nat)} {y : TV RW} {u : Unit} (h : dC a b y = some u) : y = .clo a b := by
  unfold dC at h
  split at h
  · obtain ⟨h1, h2⟩ := cond_some h
    simp only [Bool.and_eq_true] at h1
    rw [nbeq h1.1, of_decide_eq_true h1.2]
  · cases h
theorem dREntry_ok {fl : Bool} {y : TV RW} {a : List SEntry} (h : dREntry fl y = some a) : y = .row fl (.rEntry a) := by
  unfold dREntry at h
  split at h
  · obtain ⟨h1, h2⟩ := cond_some h
    cases h2
    rw [eq_of_beq h1]
  · cases h
theorem dRint_ok {fl : Bool} {y : TV RW} {a : List Int} (h : dRint fl y = some a) : y = .row fl (.rint a) := by
  unfold dRint at h
  split at h
  · obtain ⟨h1, h2⟩ := cond_some h
    cases h2
    rw [eq_of_beq h1]
  · cases h
theorem dCc_ok {L : Fr} {a : SCc} (h : dCc L = some a) : L = eCc a := by
  unfold dCc at h
  split at h
  · simp only [Option.bind_eq_some_iff] at h
    obtain ⟨a0, h0, a1, h1, a2, h2, a3, h3, a4, h4, a5, h5, a6, h6, a7, h7, a8, h8, a9, h9, a10, h10, a11, h11, a12, h12, a13, h13, a14, h14, a15, h15, a16, h16, a17, h17, a18, h18, a19, h19, a20, h20, a21, h21, h⟩ := h
    cases h
    obtain rfl := dI_ok h0
    obtain rfl := dI_ok h1
    obtain rfl := dI_ok h2
    obtain rfl := dI_ok h3
    obtain rfl := dI_ok h4
    obtain rfl := dI_ok h5
    obtain rfl := dI_ok h6
    obtain rfl := dI_ok h7
    obtain rfl := dI_ok h8
    obtain rfl := dI_ok h9
    obtain rfl := dI_ok h10
    obtain rfl := dREntry_ok h11
    obtain rfl := dI_ok h12
    obtain rfl := dI_ok h13
    obtain rfl := dI_ok h14
    obtain rfl := dI_ok h15
    obtain rfl := dI_ok h16
    obtain rfl := dI_ok h17
    obtain rfl := dI_ok h18
    obtain rfl := dI_ok h19
    obtain rfl := dI_ok h20
    obtain rfl := dI_ok h21
    rfl
  · cases h
theorem dCct_ok {L : Fr} {a : SCc} (h : dCct L = some a) : L = eCct a := by
  unfold dCct at h
  split at h
  · simp only [Option.bind_eq_some_iff] at h
    obtain ⟨a0, h0, a1, h1, a2, h2, a3, h3, a4, h4, a5, h5, a6, h6, a7, h7, a8, h8, a9, h9, a10, h10, a11, h11, a12, h12, a13, h13, a14, h14, a15, h15, a16, h16, a17, h17, a18, h18, a19, h19, a20, h20, a21, h21, h⟩ := h
    cases h
    obtain rfl := dI_ok h0
    obtain rfl := dI_ok h1
    obtain rfl := dI_ok h2
    obtain rfl := dI_ok h3
    obtain rfl := dI_ok h4
    obtain rfl := dI_ok h5
    obtain rfl := dI_ok h6
    obtain rfl := dI_ok h7
    obtain rfl := dI_ok h8
    obtain rfl := dI_ok h9
    obtain rfl := dI_ok h10
    obtain rfl := dREntry_ok h11
    obtain rfl := dI_ok h12
    obtain rfl := dI_ok h13
    obtain rfl := dI_ok h14
    obtain rfl := dI_ok h15
    obtain rfl := dI_ok h16
    obtain rfl := dI_ok h17
    obtain rfl := dI_ok h18
    obtain rfl := dI_ok h19
    obtain rfl := dI_ok h20
    obtain rfl := dI_ok h21
    rfl
  · cases h
theorem dEntry_ok {L : Fr} {a : SEntry} (h : dEntry L = some a) : L = eEntry a := by
  unfold dEntry at h
  split at h
  · simp only [Option.bind_eq_some_iff] at h
    obtain ⟨a0, h0, a1, h1, h⟩ := h
    cases h
    obtain rfl := dI_ok h0
    obtain rfl := dI_ok h1
    rfl
  · cases h
theorem dctl_ok {L : Fr} {a : Sctl} (h : dctl L = some a) : L = ectl a := by
  unfold dctl at h
  split at h
  · simp only [Option.bind_eq_some_iff] at h
    obtain ⟨a0, h0, a1, h1, a2, h2, a3, h3, a4, h4, a5, h5, a6, h6, a7, h7, a8, h8, a9, h9, a10, h10, a11, h11, a12, h12, a13, h13, a14, h14, a15, h15, a16, h16, a17, h17, a18, h18, a19, h19, a20, h20, a21, h21, h⟩ := h
    cases h
    obtain rfl := dI_ok h0
    obtain rfl := dI_ok h1
    obtain rfl := dI_ok h2
    obtain rfl := dI_ok h3
    obtain rfl := dI_ok h4
    obtain rfl := dI_ok h5
    obtain rfl := dI_ok h6
    obtain rfl := dI_ok h7
    obtain rfl := dI_ok h8
    obtain rfl := dI_ok h9
    obtain rfl := dI_ok h10
    obtain rfl := dREntry_ok h11
    obtain rfl := dI_ok h12
    obtain rfl := dI_ok h13
    obtain rfl := dI_ok h14
    obtain rfl := dI_ok h15
    obtain rfl := dI_ok h16
    obtain rfl := dI_ok h17
    obtain rfl := dI_ok h18
    obtain rfl := dI_ok h19
    obtain rfl := dI_ok h20
    obtain rfl := dI_ok h21
    rfl
  · cases h
theorem dctlt_ok {L : Fr} {a : Sctl} (h : dctlt L = some a) : L = ectlt a := by
  unfold dctlt at h
  split at h
  · simp only [Option.bind_eq_some_iff] at h
    obtain ⟨a0, h0, a1, h1, a2, h2, a3, h3, a4, h4, a5, h5, a6, h6, a7, h7, a8, h8, a9, h9, a10, h10, a11, h11, a12, h12, a13, h13, a14, h14, a15, h15, a16, h16, a17, h17, a18, h18, a19, h19, a20, h20, a21, h21, h⟩ := h
    cases h
    obtain rfl := dI_ok h0
    obtain rfl := dI_ok h1
    obtain rfl := dI_ok h2
    obtain rfl := dI_ok h3
    obtain rfl := dI_ok h4
    obtain rfl := dI_ok h5
    obtain rfl := dI_ok h6
    obtain rfl := dI_ok h7
    obtain rfl := dI_ok h8
    obtain rfl := dI_ok h9
    obtain rfl := dI_ok h10
    obtain rfl := dREntry_ok h11
    obtain rfl := dI_ok h12
    obtain rfl := dI_ok h13
    obtain rfl := dI_ok h14
    obtain rfl := dI_ok h15
    obtain rfl := dI_ok h16
    obtain rfl := dI_ok h17
    obtain rfl := dI_ok h18
    obtain rfl := dI_ok h19
    obtain rfl := dI_ok h20
    obtain rfl := dI_ok h21
    rfl
  · cases h
theorem dT68_ok {L : Fr} {a : ST68} (h : dT68 L = some a) : L = eT68 a := by
  unfold dT68 at h
  split at h
  · simp only [Option.bind_eq_some_iff] at h
    obtain ⟨a0, h0, a1, h1, a2, h2, a3, h3, a4, h4, a5, h5, a6, h6, a7, h7, a8, h8, a9, h9, a10, h10, a11, h11, a12, h12, a13, h13, a14, h14, a15, h15, a16, h16, a17, h17, a18, h18, a19, h19, a20, h20, a21, h21, h⟩ := h
    cases h
    obtain rfl := dI_ok h0
    obtain rfl := dI_ok h1
    obtain rfl := dI_ok h2
    obtain rfl := dI_ok h3
    obtain rfl := dI_ok h4
    obtain rfl := dI_ok h5
    obtain rfl := dI_ok h6
    obtain rfl := dI_ok h7
    obtain rfl := dI_ok h8
    obtain rfl := dI_ok h9
    obtain rfl := dI_ok h10
    obtain rfl := dREntry_ok h11
    obtain rfl := dI_ok h12
    obtain rfl := dI_ok h13
    obtain rfl := dI_ok h14
    obtain rfl := dI_ok h15
    obtain rfl := dI_ok h16
    obtain rfl := dI_ok h17
    obtain rfl := dI_ok h18
    obtain rfl := dI_ok h19
    obtain rfl := dI_ok h20
    obtain rfl := dI_ok h21
    rfl
  · cases h
theorem dT68t_ok {L : Fr} {a : ST68} (h : dT68t L = some a) : L = eT68t a := by
  unfold dT68t at h
  split at h
  · simp only [Option.bind_eq_some_iff] at h
    obtain ⟨a0, h0, a1, h1, a2, h2, a3, h3, a4, h4, a5, h5, a6, h6, a7, h7, a8, h8, a9, h9, a10, h10, a11, h11, a12, h12, a13, h13, a14, h14, a15, h15, a16, h16, a17, h17, a18, h18, a19, h19, a20, h20, a21, h21, h⟩ := h
    cases h
    obtain rfl := dI_ok h0
    obtain rfl := dI_ok h1
    obtain rfl := dI_ok h2
    obtain rfl := dI_ok h3
    obtain rfl := dI_ok h4
    obtain rfl := dI_ok h5
    obtain rfl := dI_ok h6
    obtain rfl := dI_ok h7
    obtain rfl := dI_ok h8
    obtain rfl := dI_ok h9
    obtain rfl := dI_ok h10
    obtain rfl := dREntry_ok h11
    obtain rfl := dI_ok h12
    obtain rfl := dI_ok h13
    obtain rfl := dI_ok h14
    obtain rfl := dI_ok h15
    obtain rfl := dI_ok h16
    obtain rfl := dI_ok h17
    obtain rfl := dI_ok h18
    obtain rfl := dI_ok h19
    obtain rfl := dI_ok h20
    obtain rfl := dI_ok h21
    rfl
  · cases h
theorem pEntry_ok : ∀ {L : Fr} {xs : List SEntry}, pEntry_ L = some xs → TV.los U L = (xs.map cEntry).flatten
  | [], xs, h => by cases h; rfl
  | [_], xs, h => by cases h
  | y0 :: y1 :: r, xs, h => by
    simp only [pEntry_, Option.bind_eq_some_iff] at h
    obtain ⟨a0, h0, a1, h1, xs', h', h⟩ := h
    cases h
    have ih := pEntry_ok h'
    obtain rfl := dI_ok h0
    obtain rfl := dI_ok h1
    show _ :: _ :: TV.los U r = _
    rw [ih]; rfl
theorem pint_ok : ∀ {L : Fr} {xs : List Int}, pint_ L = some xs → TV.los U L = (xs.map cint).flatten
  | [], xs, h => by cases h; rfl
  | y0 :: r, xs, h => by
    simp only [pint_, Option.bind_eq_some_iff] at h
    obtain ⟨a0, h0, xs', h', h⟩ := h
    cases h
    have ih := pint_ok h'
    obtain rfl := dI_ok h0
    show _ :: TV.los U r = _
    rw [ih]; rfl
theorem UOk : UniOk U where
  get := fun r i => match r with
    | .rEntry xs => by kernel_rfl
    | .rint xs => by kernel_rfl
  app := fun r q x h => by cases r <;> cases q <;> first | (cases h; done) | (cases h; exact ⟨rfl, rfl, List.length_append, (rg_app (c := cEntry) (z := zEntry)).symm⟩) | (cases h; exact ⟨rfl, rfl, List.length_append, (rg_app (c := cint) (z := zint)).symm⟩)
  sub := fun lo n r h => by cases r <;> first | exact ⟨rfl, sub_len h, (rg_sub (c := cEntry) (z := zEntry) h).symm⟩ | exact ⟨rfl, sub_len h, (rg_sub (c := cint) (z := zint) h).symm⟩
  lit := fun t n L r h => by
    unfold U at h
    dsimp only at h
    split at h
    · obtain ⟨xs, h1, rfl, rfl⟩ := bind_lit h
      have e := pEntry_ok h1
      exact ⟨rfl, rfl, by rw [e]; exact (rg_lit (c := cEntry) (sz := 2) (z := zEntry) (fun _ => rfl)).symm, by rw [e]; exact all_flat (fun _ => rfl) xs⟩
    · obtain ⟨xs, h1, rfl, rfl⟩ := bind_lit h
      have e := pint_ok h1
      exact ⟨rfl, rfl, by rw [e]; exact (rg_lit (c := cint) (sz := 1) (z := zint) (fun _ => rfl)).symm, by rw [e]; exact all_flat (fun _ => rfl) xs⟩
    · cases h
theorem ok_cc_time {R : Type} {r : R} : ∀ {n : Nat}, (∀ m, n = m + 1 → CallOk2 (R := R) U (callP capB m) (runF tbl m)) → ∀ {av : Fr} {cs : List Fr} {k : Ret2 RW → Option R}, ca_cc_time capB n av cs k = some r → ∃ q : Ret2 RW, runF tbl n 32 (TV.los U av) (cs.map (TV.los U)) = some (q.lo U) ∧ k q = some r := by
  intro n ih av cs k h
  unfold ca_cc_time at h
  split at h
  · simp only [Option.bind_eq_some_iff] at h
    obtain ⟨p0, h0, h⟩ := h
    obtain rfl := dI_ok h0
    cases n with
    | zero => cases h
    | succ n =>
      exact run2_ok UOk (ih n rfl) (f := fn_cc_time) rfl ((run_cc_time capB n p0 k).symm.trans h)
  · cases h
theorem ok_cc_size {R : Type} {r : R} : ∀ {n : Nat}, (∀ m, n = m + 1 → CallOk2 (R := R) U (callP capB m) (runF tbl m)) → ∀ {av : Fr} {cs : List Fr} {k : Ret2 RW → Option R}, ca_cc_size capB n av cs k = some r → ∃ q : Ret2 RW, runF tbl n 33 (TV.los U av) (cs.map (TV.los U)) = some (q.lo U) ∧ k q = some r := by
  intro n ih av cs k h
  unfold ca_cc_size at h
  split at h
  · simp only [Option.bind_eq_some_iff] at h
    obtain ⟨p0, h0, h⟩ := h
    obtain rfl := dI_ok h0
    cases n with
    | zero => cases h
    | succ n =>
      exact run2_ok UOk (ih n rfl) (f := fn_cc_size) rfl ((run_cc_size capB n p0 k).symm.trans h)
  · cases h
theorem ok_reno_size {R : Type} {r : R} : ∀ {n : Nat}, (∀ m, n = m + 1 → CallOk2 (R := R) U (callP capB m) (runF tbl m)) → ∀ {av : Fr} {cs : List Fr} {k : Ret2 RW → Option R}, ca_reno_size capB n av cs k = some r → ∃ q : Ret2 RW, runF tbl n 51 (TV.los U av) (cs.map (TV.los U)) = some (q.lo U) ∧ k q = some r := by
  intro n ih av cs k h
  unfold ca_reno_size at h
  split at h
  · simp only [Option.bind_eq_some_iff] at h
    obtain ⟨p0, h0, h⟩ := h
    obtain rfl := dI_ok h0
    cases n with
    | zero => cases h
    | succ n =>
      exact run2_ok UOk (ih n rfl) (f := fn_reno_size) rfl ((run_reno_size capB n p0 k).symm.trans h)
  · cases h
theorem ok_reno_ctl_plain {R : Type} {r : R} : ∀ {n : Nat}, (∀ m, n = m + 1 → CallOk2 (R := R) U (callP capB m) (runF tbl m)) → ∀ {av : Fr} {cs : List Fr} {k : Ret2 RW → Option R}, ca_reno_ctl_plain capB n av cs k = some r → ∃ q : Ret2 RW, runF tbl n 1008 (TV.los U av) (cs.map (TV.los U)) = some (q.lo U) ∧ k q = some r := by
  intro n ih av cs k h
  unfold ca_reno_ctl_plain at h
  split at h
  · simp only [Option.bind_eq_some_iff] at h
    obtain ⟨u0, h0, q0, i0, h⟩ := h
    obtain rfl := dP_ok h0
    obtain rfl := dctl_ok i0
    cases n with
    | zero => cases h
    | succ n =>
      exact run2_ok UOk (ih n rfl) (f := fn_reno_ctl_plain) rfl ((run_reno_ctl_plain capB n q0 k).symm.trans h)
  · cases h
theorem ok_reno_Check {R : Type} {r : R} : ∀ {n : Nat}, (∀ m, n = m + 1 → CallOk2 (R := R) U (callP capB m) (runF tbl m)) → ∀ {av : Fr} {cs : List Fr} {k : Ret2 RW → Option R}, ca_reno_Check capB n av cs k = some r → ∃ q : Ret2 RW, runF tbl n 28 (TV.los U av) (cs.map (TV.los U)) = some (q.lo U) ∧ k q = some r := by
  intro n ih av cs k h
  unfold ca_reno_Check at h
  split at h
  · simp only [Option.bind_eq_some_iff] at h
    obtain ⟨c0_, h0, p0, g0, h⟩ := h
    obtain rfl := dA_ok h0
    obtain rfl := dCc_ok g0
    cases n with
    | zero => cases h
    | succ n =>
      exact run2_ok UOk (ih n rfl) (f := fn_reno_Check) rfl ((run_reno_Check capB n p0 k).symm.trans h)
  · cases h
theorem ok_cubic_size {R : Type} {r : R} : ∀ {n : Nat}, (∀ m, n = m + 1 → CallOk2 (R := R) U (callP capB m) (runF tbl m)) → ∀ {av : Fr} {cs : List Fr} {k : Ret2 RW → Option R}, ca_cubic_size capB n av cs k = some r → ∃ q : Ret2 RW, runF tbl n 53 (TV.los U av) (cs.map (TV.los U)) = some (q.lo U) ∧ k q = some r := by
  intro n ih av cs k h
  unfold ca_cubic_size at h
  split at h
  · simp only [Option.bind_eq_some_iff] at h
    obtain ⟨p0, h0, h⟩ := h
    obtain rfl := dRint_ok h0
    cases n with
    | zero => cases h
    | succ n =>
      exact run2_ok UOk (ih n rfl) (f := fn_cubic_size) rfl ((run_cubic_size capB n p0 k).symm.trans h)
  · cases h
theorem ok_cubic_Check {R : Type} {r : R} : ∀ {n : Nat}, (∀ m, n = m + 1 → CallOk2 (R := R) U (callP capB m) (runF tbl m)) → ∀ {av : Fr} {cs : List Fr} {k : Ret2 RW → Option R}, ca_cubic_Check capB n av cs k = some r → ∃ q : Ret2 RW, runF tbl n 29 (TV.los U av) (cs.map (TV.los U)) = some (q.lo U) ∧ k q = some r := by
  intro n ih av cs k h
  unfold ca_cubic_Check at h
  split at h
  · simp only [Option.bind_eq_some_iff] at h
    obtain ⟨c0_, h0, p0, g0, h⟩ := h
    obtain rfl := dA_ok h0
    obtain rfl := dCc_ok g0
    cases n with
    | zero => cases h
    | succ n =>
      exact run2_ok UOk (ih n rfl) (f := fn_cubic_Check) rfl ((run_cubic_Check capB n p0 k).symm.trans h)
  · cases h
theorem ok_bbr_within {R : Type} {r : R} : ∀ {n : Nat}, (∀ m, n = m + 1 → CallOk2 (R := R) U (callP capB m) (runF tbl m)) → ∀ {av : Fr} {cs : List Fr} {k : Ret2 RW → Option R}, ca_bbr_within capB n av cs k = some r → ∃ q : Ret2 RW, runF tbl n 54 (TV.los U av) (cs.map (TV.los U)) = some (q.lo U) ∧ k q = some r := by
  intro n ih av cs k h
  unfold ca_bbr_within at h
  split at h
  · simp only [Option.bind_eq_some_iff] at h
    obtain ⟨p0, h0, p1, h1, h⟩ := h
    obtain rfl := dI_ok h0
    obtain rfl := dRint_ok h1
    cases n with
    | zero => cases h
    | succ n =>
      exact run2_ok UOk (ih n rfl) (f := fn_bbr_within) rfl ((run_bbr_within capB n p0 p1 k).symm.trans h)
  · cases h
theorem ok_filter_may {R : Type} {r : R} : ∀ {n : Nat}, (∀ m, n = m + 1 → CallOk2 (R := R) U (callP capB m) (runF tbl m)) → ∀ {av : Fr} {cs : List Fr} {k : Ret2 RW → Option R}, ca_filter_may capB n av cs k = some r → ∃ q : Ret2 RW, runF tbl n 92 (TV.los U av) (cs.map (TV.los U)) = some (q.lo U) ∧ k q = some r := by
  intro n ih av cs k h
  unfold ca_filter_may at h
  split at h
  · simp only [Option.bind_eq_some_iff] at h
    obtain ⟨c0_, h0, p0, g0, h⟩ := h
    obtain rfl := dA_ok h0
    obtain rfl := dEntry_ok g0
    cases n with
    | zero => cases h
    | succ n =>
      exact run2_ok UOk (ih n rfl) (f := fn_filter_may) rfl ((run_filter_may capB n p0 k).symm.trans h)
  · cases h
theorem ok_filter_beats {R : Type} {r : R} : ∀ {n : Nat}, (∀ m, n = m + 1 → CallOk2 (R := R) U (callP capB m) (runF tbl m)) → ∀ {av : Fr} {cs : List Fr} {k : Ret2 RW → Option R}, ca_filter_beats capB n av cs k = some r → ∃ q : Ret2 RW, runF tbl n 93 (TV.los U av) (cs.map (TV.los U)) = some (q.lo U) ∧ k q = some r := by
  intro n ih av cs k h
  unfold ca_filter_beats at h
  split at h
  · simp only [Option.bind_eq_some_iff] at h
    obtain ⟨p0, h0, p1, h1, p2, h2, h⟩ := h
    obtain rfl := dI_ok h0
    obtain rfl := dI_ok h1
    obtain rfl := dB_ok h2
    cases n with
    | zero => cases h
    | succ n =>
      exact run2_ok UOk (ih n rfl) (f := fn_filter_beats) rfl ((run_filter_beats capB n p0 p1 p2 k).symm.trans h)
  · cases h
theorem ok_filter_Check {R : Type} {r : R} : ∀ {n : Nat}, (∀ m, n = m + 1 → CallOk2 (R := R) U (callP capB m) (runF tbl m)) → ∀ {av : Fr} {cs : List Fr} {k : Ret2 RW → Option R}, ca_filter_Check capB n av cs k = some r → ∃ q : Ret2 RW, runF tbl n 76 (TV.los U av) (cs.map (TV.los U)) = some (q.lo U) ∧ k q = some r := by
  intro n ih av cs k h
  unfold ca_filter_Check at h
  split at h
  · simp only [Option.bind_eq_some_iff] at h
    obtain ⟨p0, h0, p1, h1, h⟩ := h
    obtain rfl := dREntry_ok h0
    obtain rfl := dB_ok h1
    cases n with
    | zero => cases h
    | succ n =>
      exact run2_ok UOk (ih n rfl) (f := fn_filter_Check) rfl ((run_filter_Check capB n p0 p1 k).symm.trans h)
  · cases h
theorem ok_bbr_ctl_entries {R : Type} {r : R} : ∀ {n : Nat}, (∀ m, n = m + 1 → CallOk2 (R := R) U (callP capB m) (runF tbl m)) → ∀ {av : Fr} {cs : List Fr} {k : Ret2 RW → Option R}, ca_bbr_ctl_entries capB n av cs k = some r → ∃ q : Ret2 RW, runF tbl n 1013 (TV.los U av) (cs.map (TV.los U)) = some (q.lo U) ∧ k q = some r := by
  intro n ih av cs k h
  unfold ca_bbr_ctl_entries at h
  split at h
  · simp only [Option.bind_eq_some_iff] at h
    obtain ⟨u0, h0, q0, i0, h⟩ := h
    obtain rfl := dP_ok h0
    obtain rfl := dT68_ok i0
    cases n with
    | zero => cases h
    | succ n =>
      exact run2_ok UOk (ih n rfl) (f := fn_bbr_ctl_entries) rfl ((run_bbr_ctl_entries capB n q0 k).symm.trans h)
  · cases h
theorem ok_bbr_Check {R : Type} {r : R} : ∀ {n : Nat}, (∀ m, n = m + 1 → CallOk2 (R := R) U (callP capB m) (runF tbl m)) → ∀ {av : Fr} {cs : List Fr} {k : Ret2 RW → Option R}, ca_bbr_Check capB n av cs k = some r → ∃ q : Ret2 RW, runF tbl n 30 (TV.los U av) (cs.map (TV.los U)) = some (q.lo U) ∧ k q = some r := by
  intro n ih av cs k h
  unfold ca_bbr_Check at h
  split at h
  · simp only [Option.bind_eq_some_iff] at h
    obtain ⟨c0_, h0, p0, g0, h⟩ := h
    obtain rfl := dA_ok h0
    obtain rfl := dCc_ok g0
    cases n with
    | zero => cases h
    | succ n =>
      exact run2_ok UOk (ih n rfl) (f := fn_bbr_Check) rfl ((run_bbr_Check capB n p0 k).symm.trans h)
  · cases h
theorem ok_cc_Check {R : Type} {r : R} : ∀ {n : Nat}, (∀ m, n = m + 1 → CallOk2 (R := R) U (callP capB m) (runF tbl m)) → ∀ {av : Fr} {cs : List Fr} {k : Ret2 RW → Option R}, ca_cc_Check capB n av cs k = some r → ∃ q : Ret2 RW, runF tbl n 10 (TV.los U av) (cs.map (TV.los U)) = some (q.lo U) ∧ k q = some r := by
  intro n ih av cs k h
  unfold ca_cc_Check at h
  split at h
  · simp only [Option.bind_eq_some_iff] at h
    obtain ⟨c0_, h0, p0, g0, h⟩ := h
    obtain rfl := dA_ok h0
    obtain rfl := dCc_ok g0
    cases n with
    | zero => cases h
    | succ n =>
      exact run2_ok UOk (ih n rfl) (f := fn_cc_Check) rfl ((run_cc_Check capB n p0 k).symm.trans h)
  · cases h
theorem ok_cc_asked {R : Type} {r : R} : ∀ {n : Nat}, (∀ m, n = m + 1 → CallOk2 (R := R) U (callP capB m) (runF tbl m)) → ∀ {av : Fr} {cs : List Fr} {k : Ret2 RW → Option R}, ca_cc_asked capB n av cs k = some r → ∃ q : Ret2 RW, runF tbl n 31 (TV.los U av) (cs.map (TV.los U)) = some (q.lo U) ∧ k q = some r := by
  intro n ih av cs k h
  unfold ca_cc_asked at h
  split at h
  · simp only [Option.bind_eq_some_iff] at h
    obtain ⟨c0_, h0, p0, g0, p1, h1, h⟩ := h
    obtain rfl := dA_ok h0
    obtain rfl := dCc_ok g0
    obtain rfl := dB_ok h1
    cases n with
    | zero => cases h
    | succ n =>
      exact run2_ok UOk (ih n rfl) (f := fn_cc_asked) rfl ((run_cc_asked capB n p0 p1 k).symm.trans h)
  · cases h
theorem ok_cc_Rest {R : Type} {r : R} : ∀ {n : Nat}, (∀ m, n = m + 1 → CallOk2 (R := R) U (callP capB m) (runF tbl m)) → ∀ {av : Fr} {cs : List Fr} {k : Ret2 RW → Option R}, ca_cc_Rest capB n av cs k = some r → ∃ q : Ret2 RW, runF tbl n 12 (TV.los U av) (cs.map (TV.los U)) = some (q.lo U) ∧ k q = some r := by
  intro n ih av cs k h
  unfold ca_cc_Rest at h
  split at h
  · simp only [Option.bind_eq_some_iff] at h
    obtain ⟨c0_, h0, p0, g0, p1, h1, p2, h2, p3, h3, h⟩ := h
    obtain rfl := dA_ok h0
    obtain rfl := dCc_ok g0
    obtain rfl := dI_ok h1
    obtain rfl := dI_ok h2
    obtain rfl := dI_ok h3
    cases n with
    | zero => cases h
    | succ n =>
      exact run2_ok UOk (ih n rfl) (f := fn_cc_Rest) rfl ((run_cc_Rest capB n p0 p1 p2 p3 k).symm.trans h)
  · cases h
theorem ok_ref15_Size {R : Type} {r : R} : ∀ {n : Nat}, (∀ m, n = m + 1 → CallOk2 (R := R) U (callP capB m) (runF tbl m)) → ∀ {av : Fr} {cs : List Fr} {k : Ret2 RW → Option R}, ca_ref15_Size capB n av cs k = some r → ∃ q : Ret2 RW, runF tbl n 36 (TV.los U av) (cs.map (TV.los U)) = some (q.lo U) ∧ k q = some r := by
  intro n ih av cs k h
  unfold ca_ref15_Size at h
  split at h
  · simp only [Option.bind_eq_some_iff] at h
    obtain ⟨p0, h0, h⟩ := h
    obtain rfl := dI_ok h0
    cases n with
    | zero => cases h
    | succ n =>
      exact run2_ok UOk (ih n rfl) (f := fn_ref15_Size) rfl ((run_ref15_Size capB n p0 k).symm.trans h)
  · cases h
theorem ok_ref15_Common {R : Type} {r : R} : ∀ {n : Nat}, (∀ m, n = m + 1 → CallOk2 (R := R) U (callP capB m) (runF tbl m)) → ∀ {av : Fr} {cs : List Fr} {k : Ret2 RW → Option R}, ca_ref15_Common capB n av cs k = some r → ∃ q : Ret2 RW, runF tbl n 77 (TV.los U av) (cs.map (TV.los U)) = some (q.lo U) ∧ k q = some r := by
  intro n ih av cs k h
  unfold ca_ref15_Common at h
  split at h
  · simp only [Option.bind_eq_some_iff] at h
    obtain ⟨c0_, h0, p0, g0, h⟩ := h
    obtain rfl := dA_ok h0
    obtain rfl := dCc_ok g0
    cases n with
    | zero => cases h
    | succ n =>
      exact run2_ok UOk (ih n rfl) (f := fn_ref15_Common) rfl ((run_ref15_Common capB n p0 k).symm.trans h)
  · cases h
theorem ok_ref15_Plain {R : Type} {r : R} : ∀ {n : Nat}, (∀ m, n = m + 1 → CallOk2 (R := R) U (callP capB m) (runF tbl m)) → ∀ {av : Fr} {cs : List Fr} {k : Ret2 RW → Option R}, ca_ref15_Plain capB n av cs k = some r → ∃ q : Ret2 RW, runF tbl n 78 (TV.los U av) (cs.map (TV.los U)) = some (q.lo U) ∧ k q = some r := by
  intro n ih av cs k h
  unfold ca_ref15_Plain at h
  split at h
  · simp only [Option.bind_eq_some_iff] at h
    obtain ⟨c0_, h0, p0, g0, p1, h1, p2, h2, h⟩ := h
    obtain rfl := dA_ok h0
    obtain rfl := dCc_ok g0
    obtain rfl := dB_ok h1
    obtain rfl := dB_ok h2
    cases n with
    | zero => cases h
    | succ n =>
      exact run2_ok UOk (ih n rfl) (f := fn_ref15_Plain) rfl ((run_ref15_Plain capB n p0 p1 p2 k).symm.trans h)
  · cases h
theorem ok_ref15_Check {R : Type} {r : R} : ∀ {n : Nat}, (∀ m, n = m + 1 → CallOk2 (R := R) U (callP capB m) (runF tbl m)) → ∀ {av : Fr} {cs : List Fr} {k : Ret2 RW → Option R}, ca_ref15_Check capB n av cs k = some r → ∃ q : Ret2 RW, runF tbl n 56 (TV.los U av) (cs.map (TV.los U)) = some (q.lo U) ∧ k q = some r := by
  intro n ih av cs k h
  unfold ca_ref15_Check at h
  split at h
  · simp only [Option.bind_eq_some_iff] at h
    obtain ⟨c0_, h0, p0, g0, h⟩ := h
    obtain rfl := dA_ok h0
    obtain rfl := dCc_ok g0
    cases n with
    | zero => cases h
    | succ n =>
      exact run2_ok UOk (ih n rfl) (f := fn_ref15_Check) rfl ((run_ref15_Check capB n p0 k).symm.trans h)
  · cases h
theorem ok_ref16_Check {R : Type} {r : R} : ∀ {n : Nat}, (∀ m, n = m + 1 → CallOk2 (R := R) U (callP capB m) (runF tbl m)) → ∀ {av : Fr} {cs : List Fr} {k : Ret2 RW → Option R}, ca_ref16_Check capB n av cs k = some r → ∃ q : Ret2 RW, runF tbl n 57 (TV.los U av) (cs.map (TV.los U)) = some (q.lo U) ∧ k q = some r := by
  intro n ih av cs k h
  unfold ca_ref16_Check at h
  split at h
  · simp only [Option.bind_eq_some_iff] at h
    obtain ⟨c0_, h0, p0, g0, h⟩ := h
    obtain rfl := dA_ok h0
    obtain rfl := dCc_ok g0
    cases n with
    | zero => cases h
    | succ n =>
      exact run2_ok UOk (ih n rfl) (f := fn_ref16_Check) rfl ((run_ref16_Check capB n p0 k).symm.trans h)
  · cases h
theorem ok_ref12_time {R : Type} {r : R} : ∀ {n : Nat}, (∀ m, n = m + 1 → CallOk2 (R := R) U (callP capB m) (runF tbl m)) → ∀ {av : Fr} {cs : List Fr} {k : Ret2 RW → Option R}, ca_ref12_time capB n av cs k = some r → ∃ q : Ret2 RW, runF tbl n 94 (TV.los U av) (cs.map (TV.los U)) = some (q.lo U) ∧ k q = some r := by
  intro n ih av cs k h
  unfold ca_ref12_time at h
  split at h
  · simp only [Option.bind_eq_some_iff] at h
    obtain ⟨p0, h0, h⟩ := h
    obtain rfl := dI_ok h0
    cases n with
    | zero => cases h
    | succ n =>
      exact run2_ok UOk (ih n rfl) (f := fn_ref12_time) rfl ((run_ref12_time capB n p0 k).symm.trans h)
  · cases h
theorem ok_ref12_value {R : Type} {r : R} : ∀ {n : Nat}, (∀ m, n = m + 1 → CallOk2 (R := R) U (callP capB m) (runF tbl m)) → ∀ {av : Fr} {cs : List Fr} {k : Ret2 RW → Option R}, ca_ref12_value capB n av cs k = some r → ∃ q : Ret2 RW, runF tbl n 95 (TV.los U av) (cs.map (TV.los U)) = some (q.lo U) ∧ k q = some r := by
  intro n ih av cs k h
  unfold ca_ref12_value at h
  split at h
  · simp only [Option.bind_eq_some_iff] at h
    obtain ⟨p0, h0, h⟩ := h
    obtain rfl := dI_ok h0
    cases n with
    | zero => cases h
    | succ n =>
      exact run2_ok UOk (ih n rfl) (f := fn_ref12_value) rfl ((run_ref12_value capB n p0 k).symm.trans h)
  · cases h
theorem ok_ref12_Check {R : Type} {r : R} : ∀ {n : Nat}, (∀ m, n = m + 1 → CallOk2 (R := R) U (callP capB m) (runF tbl m)) → ∀ {av : Fr} {cs : List Fr} {k : Ret2 RW → Option R}, ca_ref12_Check capB n av cs k = some r → ∃ q : Ret2 RW, runF tbl n 79 (TV.los U av) (cs.map (TV.los U)) = some (q.lo U) ∧ k q = some r := by
  intro n ih av cs k h
  unfold ca_ref12_Check at h
  split at h
  · simp only [Option.bind_eq_some_iff] at h
    obtain ⟨p0, h0, p1, h1, h⟩ := h
    obtain rfl := dREntry_ok h0
    obtain rfl := dB_ok h1
    cases n with
    | zero => cases h
    | succ n =>
      exact run2_ok UOk (ih n rfl) (f := fn_ref12_Check) rfl ((run_ref12_Check capB n p0 p1 k).symm.trans h)
  · cases h
theorem ok_ref18_time {R : Type} {r : R} : ∀ {n : Nat}, (∀ m, n = m + 1 → CallOk2 (R := R) U (callP capB m) (runF tbl m)) → ∀ {av : Fr} {cs : List Fr} {k : Ret2 RW → Option R}, ca_ref18_time capB n av cs k = some r → ∃ q : Ret2 RW, runF tbl n 80 (TV.los U av) (cs.map (TV.los U)) = some (q.lo U) ∧ k q = some r := by
  intro n ih av cs k h
  unfold ca_ref18_time at h
  split at h
  · simp only [Option.bind_eq_some_iff] at h
    obtain ⟨p0, h0, h⟩ := h
    obtain rfl := dI_ok h0
    cases n with
    | zero => cases h
    | succ n =>
      exact run2_ok UOk (ih n rfl) (f := fn_ref18_time) rfl ((run_ref18_time capB n p0 k).symm.trans h)
  · cases h
theorem ok_ref18_Check {R : Type} {r : R} : ∀ {n : Nat}, (∀ m, n = m + 1 → CallOk2 (R := R) U (callP capB m) (runF tbl m)) → ∀ {av : Fr} {cs : List Fr} {k : Ret2 RW → Option R}, ca_ref18_Check capB n av cs k = some r → ∃ q : Ret2 RW, runF tbl n 58 (TV.los U av) (cs.map (TV.los U)) = some (q.lo U) ∧ k q = some r := by
  intro n ih av cs k h
  unfold ca_ref18_Check at h
  split at h
  · simp only [Option.bind_eq_some_iff] at h
    obtain ⟨c0_, h0, p0, g0, h⟩ := h
    obtain rfl := dA_ok h0
    obtain rfl := dCc_ok g0
    cases n with
    | zero => cases h
    | succ n =>
      exact run2_ok UOk (ih n rfl) (f := fn_ref18_Check) rfl ((run_ref18_Check capB n p0 k).symm.trans h)
  · cases h
theorem ok_ref19_Check {R : Type} {r : R} : ∀ {n : Nat}, (∀ m, n = m + 1 → CallOk2 (R := R) U (callP capB m) (runF tbl m)) → ∀ {av : Fr} {cs : List Fr} {k : Ret2 RW → Option R}, ca_ref19_Check capB n av cs k = some r → ∃ q : Ret2 RW, runF tbl n 34 (TV.los U av) (cs.map (TV.los U)) = some (q.lo U) ∧ k q = some r := by
  intro n ih av cs k h
  unfold ca_ref19_Check at h
  split at h
  · simp only [Option.bind_eq_some_iff] at h
    obtain ⟨c0_, h0, p0, g0, h⟩ := h
    obtain rfl := dA_ok h0
    obtain rfl := dCc_ok g0
    cases n with
    | zero => cases h
    | succ n =>
      exact run2_ok UOk (ih n rfl) (f := fn_ref19_Check) rfl ((run_ref19_Check capB n p0 k).symm.trans h)
  · cases h
theorem ok_ref19_time {R : Type} {r : R} : ∀ {n : Nat}, (∀ m, n = m + 1 → CallOk2 (R := R) U (callP capB m) (runF tbl m)) → ∀ {av : Fr} {cs : List Fr} {k : Ret2 RW → Option R}, ca_ref19_time capB n av cs k = some r → ∃ q : Ret2 RW, runF tbl n 35 (TV.los U av) (cs.map (TV.los U)) = some (q.lo U) ∧ k q = some r := by
  intro n ih av cs k h
  unfold ca_ref19_time at h
  split at h
  · simp only [Option.bind_eq_some_iff] at h
    obtain ⟨p0, h0, h⟩ := h
    obtain rfl := dI_ok h0
    cases n with
    | zero => cases h
    | succ n =>
      exact run2_ok UOk (ih n rfl) (f := fn_ref19_time) rfl ((run_ref19_time capB n p0 k).symm.trans h)
  · cases h
theorem ok_ref19_Rest {R : Type} {r : R} : ∀ {n : Nat}, (∀ m, n = m + 1 → CallOk2 (R := R) U (callP capB m) (runF tbl m)) → ∀ {av : Fr} {cs : List Fr} {k : Ret2 RW → Option R}, ca_ref19_Rest capB n av cs k = some r → ∃ q : Ret2 RW, runF tbl n 13 (TV.los U av) (cs.map (TV.los U)) = some (q.lo U) ∧ k q = some r := by
  intro n ih av cs k h
  unfold ca_ref19_Rest at h
  split at h
  · simp only [Option.bind_eq_some_iff] at h
    obtain ⟨c0_, h0, p0, g0, p1, h1, p2, h2, p3, h3, h⟩ := h
    obtain rfl := dA_ok h0
    obtain rfl := dCc_ok g0
    obtain rfl := dI_ok h1
    obtain rfl := dI_ok h2
    obtain rfl := dI_ok h3
    cases n with
    | zero => cases h
    | succ n =>
      exact run2_ok UOk (ih n rfl) (f := fn_ref19_Rest) rfl ((run_ref19_Rest capB n p0 p1 p2 p3 k).symm.trans h)
  · cases h
theorem ok_cc_Limit {R : Type} {r : R} : ∀ {n : Nat}, (∀ m, n = m + 1 → CallOk2 (R := R) U (callP capB m) (runF tbl m)) → ∀ {av : Fr} {cs : List Fr} {k : Ret2 RW → Option R}, ca_cc_Limit capB n av cs k = some r → ∃ q : Ret2 RW, runF tbl n 14 (TV.los U av) (cs.map (TV.los U)) = some (q.lo U) ∧ k q = some r := by
  intro n ih av cs k h
  unfold ca_cc_Limit at h
  split at h
  · simp only [Option.bind_eq_some_iff] at h
    obtain ⟨c0_, h0, p0, g0, p1, h1, h⟩ := h
    obtain rfl := dA_ok h0
    obtain rfl := dCc_ok g0
    obtain rfl := dI_ok h1
    cases n with
    | zero => cases h
    | succ n =>
      exact run2_ok UOk (ih n rfl) (f := fn_cc_Limit) rfl ((run_cc_Limit capB n p0 p1 k).symm.trans h)
  · cases h
theorem ok_ref19_Limit {R : Type} {r : R} : ∀ {n : Nat}, (∀ m, n = m + 1 → CallOk2 (R := R) U (callP capB m) (runF tbl m)) → ∀ {av : Fr} {cs : List Fr} {k : Ret2 RW → Option R}, ca_ref19_Limit capB n av cs k = some r → ∃ q : Ret2 RW, runF tbl n 15 (TV.los U av) (cs.map (TV.los U)) = some (q.lo U) ∧ k q = some r := by
  intro n ih av cs k h
  unfold ca_ref19_Limit at h
  split at h
  · simp only [Option.bind_eq_some_iff] at h
    obtain ⟨c0_, h0, p0, g0, p1, h1, h⟩ := h
    obtain rfl := dA_ok h0
    obtain rfl := dCc_ok g0
    obtain rfl := dI_ok h1
    cases n with
    | zero => cases h
    | succ n =>
      exact run2_ok UOk (ih n rfl) (f := fn_ref19_Limit) rfl ((run_ref19_Limit capB n p0 p1 k).symm.trans h)
  · cases h
theorem ok_ref15_Same {R : Type} {r : R} : ∀ {n : Nat}, (∀ m, n = m + 1 → CallOk2 (R := R) U (callP capB m) (runF tbl m)) → ∀ {av : Fr} {cs : List Fr} {k : Ret2 RW → Option R}, ca_ref15_Same capB n av cs k = some r → ∃ q : Ret2 RW, runF tbl n 9 (TV.los U av) (cs.map (TV.los U)) = some (q.lo U) ∧ k q = some r := by
  intro n ih av cs k h
  unfold ca_ref15_Same at h
  split at h
  · simp only [Option.bind_eq_some_iff] at h
    obtain ⟨c0_, h0, p0, g0, c1_, h1, p1, g1, h⟩ := h
    obtain rfl := dA_ok h0
    obtain rfl := dCc_ok g0
    obtain rfl := dA_ok h1
    obtain rfl := dCc_ok g1
    cases n with
    | zero => cases h
    | succ n =>
      exact run2_ok UOk (ih n rfl) (f := fn_ref15_Same) rfl ((run_ref15_Same capB n p0 p1 k).symm.trans h)
  · cases h
theorem ok_bbr_Gain {R : Type} {r : R} : ∀ {n : Nat}, (∀ m, n = m + 1 → CallOk2 (R := R) U (callP capB m) (runF tbl m)) → ∀ {av : Fr} {cs : List Fr} {k : Ret2 RW → Option R}, ca_bbr_Gain capB n av cs k = some r → ∃ q : Ret2 RW, runF tbl n 37 (TV.los U av) (cs.map (TV.los U)) = some (q.lo U) ∧ k q = some r := by
  intro n ih av cs k h
  unfold ca_bbr_Gain at h
  split at h
  · simp only [Option.bind_eq_some_iff] at h
    obtain ⟨c0_, h0, p0, g0, h⟩ := h
    obtain rfl := dA_ok h0
    obtain rfl := dCc_ok g0
    cases n with
    | zero => cases h
    | succ n =>
      exact run2_ok UOk (ih n rfl) (f := fn_bbr_Gain) rfl ((run_bbr_Gain capB n p0 k).symm.trans h)
  · cases h
theorem ok_filter_Best {R : Type} {r : R} : ∀ {n : Nat}, (∀ m, n = m + 1 → CallOk2 (R := R) U (callP capB m) (runF tbl m)) → ∀ {av : Fr} {cs : List Fr} {k : Ret2 RW → Option R}, ca_filter_Best capB n av cs k = some r → ∃ q : Ret2 RW, runF tbl n 81 (TV.los U av) (cs.map (TV.los U)) = some (q.lo U) ∧ k q = some r := by
  intro n ih av cs k h
  unfold ca_filter_Best at h
  split at h
  · simp only [Option.bind_eq_some_iff] at h
    obtain ⟨p0, h0, h⟩ := h
    obtain rfl := dREntry_ok h0
    cases n with
    | zero => cases h
    | succ n =>
      exact run2_ok UOk (ih n rfl) (f := fn_filter_Best) rfl ((run_filter_Best capB n p0 k).symm.trans h)
  · cases h
theorem ok_bbr_ctl_bandwidth {R : Type} {r : R} : ∀ {n : Nat}, (∀ m, n = m + 1 → CallOk2 (R := R) U (callP capB m) (runF tbl m)) → ∀ {av : Fr} {cs : List Fr} {k : Ret2 RW → Option R}, ca_bbr_ctl_bandwidth capB n av cs k = some r → ∃ q : Ret2 RW, runF tbl n 1036 (TV.los U av) (cs.map (TV.los U)) = some (q.lo U) ∧ k q = some r := by
  intro n ih av cs k h
  unfold ca_bbr_ctl_bandwidth at h
  split at h
  · simp only [Option.bind_eq_some_iff] at h
    obtain ⟨u0, h0, q0, i0, h⟩ := h
    obtain rfl := dP_ok h0
    obtain rfl := dT68_ok i0
    cases n with
    | zero => cases h
    | succ n =>
      exact run2_ok UOk (ih n rfl) (f := fn_bbr_ctl_bandwidth) rfl ((run_bbr_ctl_bandwidth capB n q0 k).symm.trans h)
  · cases h
theorem ok_bbr_Bandwidth {R : Type} {r : R} : ∀ {n : Nat}, (∀ m, n = m + 1 → CallOk2 (R := R) U (callP capB m) (runF tbl m)) → ∀ {av : Fr} {cs : List Fr} {k : Ret2 RW → Option R}, ca_bbr_Bandwidth capB n av cs k = some r → ∃ q : Ret2 RW, runF tbl n 38 (TV.los U av) (cs.map (TV.los U)) = some (q.lo U) ∧ k q = some r := by
  intro n ih av cs k h
  unfold ca_bbr_Bandwidth at h
  split at h
  · simp only [Option.bind_eq_some_iff] at h
    obtain ⟨c0_, h0, p0, g0, h⟩ := h
    obtain rfl := dA_ok h0
    obtain rfl := dCc_ok g0
    cases n with
    | zero => cases h
    | succ n =>
      exact run2_ok UOk (ih n rfl) (f := fn_bbr_Bandwidth) rfl ((run_bbr_Bandwidth capB n p0 k).symm.trans h)
  · cases h
theorem ok_math_bits_Mul64 {R : Type} {r : R} : ∀ {n : Nat}, (∀ m, n = m + 1 → CallOk2 (R := R) U (callP capB m) (runF tbl m)) → ∀ {av : Fr} {cs : List Fr} {k : Ret2 RW → Option R}, ca_math_bits_Mul64 capB n av cs k = some r → ∃ q : Ret2 RW, runF tbl n 60 (TV.los U av) (cs.map (TV.los U)) = some (q.lo U) ∧ k q = some r := by
  intro n ih av cs k h
  unfold ca_math_bits_Mul64 at h
  split at h
  · simp only [Option.bind_eq_some_iff] at h
    obtain ⟨p0, h0, p1, h1, h⟩ := h
    obtain rfl := dI_ok h0
    obtain rfl := dI_ok h1
    cases n with
    | zero => cases h
    | succ n =>
      exact run2_ok UOk (ih n rfl) (f := fn_math_bits_Mul64) rfl ((run_math_bits_Mul64 capB n p0 p1 k).symm.trans h)
  · cases h
theorem ok_math_bits_Len64 {R : Type} {r : R} : ∀ {n : Nat}, (∀ m, n = m + 1 → CallOk2 (R := R) U (callP capB m) (runF tbl m)) → ∀ {av : Fr} {cs : List Fr} {k : Ret2 RW → Option R}, ca_math_bits_Len64 capB n av cs k = some r → ∃ q : Ret2 RW, runF tbl n 96 (TV.los U av) (cs.map (TV.los U)) = some (q.lo U) ∧ k q = some r := by
  intro n ih av cs k h
  unfold ca_math_bits_Len64 at h
  split at h
  · simp only [Option.bind_eq_some_iff] at h
    obtain ⟨p0, h0, h⟩ := h
    obtain rfl := dI_ok h0
    cases n with
    | zero => cases h
    | succ n =>
      exact run2_ok UOk (ih n rfl) (f := fn_math_bits_Len64) rfl ((run_math_bits_Len64 capB n p0 k).symm.trans h)
  · cases h
theorem ok_math_bits_LeadingZeros64 {R : Type} {r : R} : ∀ {n : Nat}, (∀ m, n = m + 1 → CallOk2 (R := R) U (callP capB m) (runF tbl m)) → ∀ {av : Fr} {cs : List Fr} {k : Ret2 RW → Option R}, ca_math_bits_LeadingZeros64 capB n av cs k = some r → ∃ q : Ret2 RW, runF tbl n 82 (TV.los U av) (cs.map (TV.los U)) = some (q.lo U) ∧ k q = some r := by
  intro n ih av cs k h
  unfold ca_math_bits_LeadingZeros64 at h
  split at h
  · simp only [Option.bind_eq_some_iff] at h
    obtain ⟨p0, h0, h⟩ := h
    obtain rfl := dI_ok h0
    cases n with
    | zero => cases h
    | succ n =>
      exact run2_ok UOk (ih n rfl) (f := fn_math_bits_LeadingZeros64) rfl ((run_math_bits_LeadingZeros64 capB n p0 k).symm.trans h)
  · cases h
theorem ok_math_bits_Div64 {R : Type} {r : R} : ∀ {n : Nat}, (∀ m, n = m + 1 → CallOk2 (R := R) U (callP capB m) (runF tbl m)) → ∀ {av : Fr} {cs : List Fr} {k : Ret2 RW → Option R}, ca_math_bits_Div64 capB n av cs k = some r → ∃ q : Ret2 RW, runF tbl n 61 (TV.los U av) (cs.map (TV.los U)) = some (q.lo U) ∧ k q = some r := by
  intro n ih av cs k h
  unfold ca_math_bits_Div64 at h
  split at h
  · simp only [Option.bind_eq_some_iff] at h
    obtain ⟨p0, h0, p1, h1, p2, h2, h⟩ := h
    obtain rfl := dI_ok h0
    obtain rfl := dI_ok h1
    obtain rfl := dI_ok h2
    cases n with
    | zero => cases h
    | succ n =>
      exact run2_ok UOk (ih n rfl) (f := fn_math_bits_Div64) rfl ((run_math_bits_Div64 capB n p0 p1 p2 k).symm.trans h)
  · cases h
theorem ok_seq_MulDiv {R : Type} {r : R} : ∀ {n : Nat}, (∀ m, n = m + 1 → CallOk2 (R := R) U (callP capB m) (runF tbl m)) → ∀ {av : Fr} {cs : List Fr} {k : Ret2 RW → Option R}, ca_seq_MulDiv capB n av cs k = some r → ∃ q : Ret2 RW, runF tbl n 39 (TV.los U av) (cs.map (TV.los U)) = some (q.lo U) ∧ k q = some r := by
  intro n ih av cs k h
  unfold ca_seq_MulDiv at h
  split at h
  · simp only [Option.bind_eq_some_iff] at h
    obtain ⟨p0, h0, p1, h1, p2, h2, h⟩ := h
    obtain rfl := dI_ok h0
    obtain rfl := dI_ok h1
    obtain rfl := dI_ok h2
    cases n with
    | zero => cases h
    | succ n =>
      exact run2_ok UOk (ih n rfl) (f := fn_seq_MulDiv) rfl ((run_seq_MulDiv capB n p0 p1 p2 k).symm.trans h)
  · cases h
theorem ok_cc_Pace {R : Type} {r : R} : ∀ {n : Nat}, (∀ m, n = m + 1 → CallOk2 (R := R) U (callP capB m) (runF tbl m)) → ∀ {av : Fr} {cs : List Fr} {k : Ret2 RW → Option R}, ca_cc_Pace capB n av cs k = some r → ∃ q : Ret2 RW, runF tbl n 16 (TV.los U av) (cs.map (TV.los U)) = some (q.lo U) ∧ k q = some r := by
  intro n ih av cs k h
  unfold ca_cc_Pace at h
  split at h
  · simp only [Option.bind_eq_some_iff] at h
    obtain ⟨c0_, h0, p0, g0, p1, h1, p2, h2, h⟩ := h
    obtain rfl := dA_ok h0
    obtain rfl := dCc_ok g0
    obtain rfl := dI_ok h1
    obtain rfl := dI_ok h2
    cases n with
    | zero => cases h
    | succ n =>
      exact run2_ok UOk (ih n rfl) (f := fn_cc_Pace) rfl ((run_cc_Pace capB n p0 p1 p2 k).symm.trans h)
  · cases h
theorem ok_ref18_Gain {R : Type} {r : R} : ∀ {n : Nat}, (∀ m, n = m + 1 → CallOk2 (R := R) U (callP capB m) (runF tbl m)) → ∀ {av : Fr} {cs : List Fr} {k : Ret2 RW → Option R}, ca_ref18_Gain capB n av cs k = some r → ∃ q : Ret2 RW, runF tbl n 40 (TV.los U av) (cs.map (TV.los U)) = some (q.lo U) ∧ k q = some r := by
  intro n ih av cs k h
  unfold ca_ref18_Gain at h
  split at h
  · simp only [Option.bind_eq_some_iff] at h
    obtain ⟨c0_, h0, p0, g0, h⟩ := h
    obtain rfl := dA_ok h0
    obtain rfl := dCc_ok g0
    cases n with
    | zero => cases h
    | succ n =>
      exact run2_ok UOk (ih n rfl) (f := fn_ref18_Gain) rfl ((run_ref18_Gain capB n p0 k).symm.trans h)
  · cases h
theorem ok_ref12_Best {R : Type} {r : R} : ∀ {n : Nat}, (∀ m, n = m + 1 → CallOk2 (R := R) U (callP capB m) (runF tbl m)) → ∀ {av : Fr} {cs : List Fr} {k : Ret2 RW → Option R}, ca_ref12_Best capB n av cs k = some r → ∃ q : Ret2 RW, runF tbl n 83 (TV.los U av) (cs.map (TV.los U)) = some (q.lo U) ∧ k q = some r := by
  intro n ih av cs k h
  unfold ca_ref12_Best at h
  split at h
  · simp only [Option.bind_eq_some_iff] at h
    obtain ⟨p0, h0, h⟩ := h
    obtain rfl := dREntry_ok h0
    cases n with
    | zero => cases h
    | succ n =>
      exact run2_ok UOk (ih n rfl) (f := fn_ref12_Best) rfl ((run_ref12_Best capB n p0 k).symm.trans h)
  · cases h
theorem ok_ref18_bandwidth {R : Type} {r : R} : ∀ {n : Nat}, (∀ m, n = m + 1 → CallOk2 (R := R) U (callP capB m) (runF tbl m)) → ∀ {av : Fr} {cs : List Fr} {k : Ret2 RW → Option R}, ca_ref18_bandwidth capB n av cs k = some r → ∃ q : Ret2 RW, runF tbl n 62 (TV.los U av) (cs.map (TV.los U)) = some (q.lo U) ∧ k q = some r := by
  intro n ih av cs k h
  unfold ca_ref18_bandwidth at h
  split at h
  · simp only [Option.bind_eq_some_iff] at h
    obtain ⟨c0_, h0, p0, g0, h⟩ := h
    obtain rfl := dA_ok h0
    obtain rfl := dCc_ok g0
    cases n with
    | zero => cases h
    | succ n =>
      exact run2_ok UOk (ih n rfl) (f := fn_ref18_bandwidth) rfl ((run_ref18_bandwidth capB n p0 k).symm.trans h)
  · cases h
theorem ok_ref18_Bandwidth {R : Type} {r : R} : ∀ {n : Nat}, (∀ m, n = m + 1 → CallOk2 (R := R) U (callP capB m) (runF tbl m)) → ∀ {av : Fr} {cs : List Fr} {k : Ret2 RW → Option R}, ca_ref18_Bandwidth capB n av cs k = some r → ∃ q : Ret2 RW, runF tbl n 41 (TV.los U av) (cs.map (TV.los U)) = some (q.lo U) ∧ k q = some r := by
  intro n ih av cs k h
  unfold ca_ref18_Bandwidth at h
  split at h
  · simp only [Option.bind_eq_some_iff] at h
    obtain ⟨c0_, h0, p0, g0, h⟩ := h
    obtain rfl := dA_ok h0
    obtain rfl := dCc_ok g0
    cases n with
    | zero => cases h
    | succ n =>
      exact run2_ok UOk (ih n rfl) (f := fn_ref18_Bandwidth) rfl ((run_ref18_Bandwidth capB n p0 k).symm.trans h)
  · cases h
theorem ok_ref01_MulDiv {R : Type} {r : R} : ∀ {n : Nat}, (∀ m, n = m + 1 → CallOk2 (R := R) U (callP capB m) (runF tbl m)) → ∀ {av : Fr} {cs : List Fr} {k : Ret2 RW → Option R}, ca_ref01_MulDiv capB n av cs k = some r → ∃ q : Ret2 RW, runF tbl n 42 (TV.los U av) (cs.map (TV.los U)) = some (q.lo U) ∧ k q = some r := by
  intro n ih av cs k h
  unfold ca_ref01_MulDiv at h
  split at h
  · simp only [Option.bind_eq_some_iff] at h
    obtain ⟨p0, h0, p1, h1, p2, h2, h⟩ := h
    obtain rfl := dI_ok h0
    obtain rfl := dI_ok h1
    obtain rfl := dI_ok h2
    cases n with
    | zero => cases h
    | succ n =>
      exact run2_ok UOk (ih n rfl) (f := fn_ref01_MulDiv) rfl ((run_ref01_MulDiv capB n p0 p1 p2 k).symm.trans h)
  · cases h
theorem ok_ref19_Pace {R : Type} {r : R} : ∀ {n : Nat}, (∀ m, n = m + 1 → CallOk2 (R := R) U (callP capB m) (runF tbl m)) → ∀ {av : Fr} {cs : List Fr} {k : Ret2 RW → Option R}, ca_ref19_Pace capB n av cs k = some r → ∃ q : Ret2 RW, runF tbl n 17 (TV.los U av) (cs.map (TV.los U)) = some (q.lo U) ∧ k q = some r := by
  intro n ih av cs k h
  unfold ca_ref19_Pace at h
  split at h
  · simp only [Option.bind_eq_some_iff] at h
    obtain ⟨c0_, h0, p0, g0, p1, h1, p2, h2, h⟩ := h
    obtain rfl := dA_ok h0
    obtain rfl := dCc_ok g0
    obtain rfl := dI_ok h1
    obtain rfl := dI_ok h2
    cases n with
    | zero => cases h
    | succ n =>
      exact run2_ok UOk (ih n rfl) (f := fn_ref19_Pace) rfl ((run_ref19_Pace capB n p0 p1 p2 k).symm.trans h)
  · cases h
theorem ok_reno_New {R : Type} {r : R} : ∀ {n : Nat}, (∀ m, n = m + 1 → CallOk2 (R := R) U (callP capB m) (runF tbl m)) → ∀ {av : Fr} {cs : List Fr} {k : Ret2 RW → Option R}, ca_reno_New capB n av cs k = some r → ∃ q : Ret2 RW, runF tbl n 22 (TV.los U av) (cs.map (TV.los U)) = some (q.lo U) ∧ k q = some r := by
  intro n ih av cs k h
  unfold ca_reno_New at h
  split at h
  · simp only [Option.bind_eq_some_iff] at h
    obtain ⟨p0, h0, p1, h1, h⟩ := h
    obtain rfl := dI_ok h0
    obtain rfl := dI_ok h1
    cases n with
    | zero => cases h
    | succ n =>
      exact run2_ok UOk (ih n rfl) (f := fn_reno_New) rfl ((run_reno_New capB n p0 p1 k).symm.trans h)
  · cases h
theorem ok_cubic_New {R : Type} {r : R} : ∀ {n : Nat}, (∀ m, n = m + 1 → CallOk2 (R := R) U (callP capB m) (runF tbl m)) → ∀ {av : Fr} {cs : List Fr} {k : Ret2 RW → Option R}, ca_cubic_New capB n av cs k = some r → ∃ q : Ret2 RW, runF tbl n 23 (TV.los U av) (cs.map (TV.los U)) = some (q.lo U) ∧ k q = some r := by
  intro n ih av cs k h
  unfold ca_cubic_New at h
  split at h
  · simp only [Option.bind_eq_some_iff] at h
    obtain ⟨p0, h0, p1, h1, h⟩ := h
    obtain rfl := dI_ok h0
    obtain rfl := dI_ok h1
    cases n with
    | zero => cases h
    | succ n =>
      exact run2_ok UOk (ih n rfl) (f := fn_cubic_New) rfl ((run_cubic_New capB n p0 p1 k).symm.trans h)
  · cases h
theorem ok_bbr_New {R : Type} {r : R} : ∀ {n : Nat}, (∀ m, n = m + 1 → CallOk2 (R := R) U (callP capB m) (runF tbl m)) → ∀ {av : Fr} {cs : List Fr} {k : Ret2 RW → Option R}, ca_bbr_New capB n av cs k = some r → ∃ q : Ret2 RW, runF tbl n 24 (TV.los U av) (cs.map (TV.los U)) = some (q.lo U) ∧ k q = some r := by
  intro n ih av cs k h
  unfold ca_bbr_New at h
  split at h
  · simp only [Option.bind_eq_some_iff] at h
    obtain ⟨p0, h0, p1, h1, h⟩ := h
    obtain rfl := dI_ok h0
    obtain rfl := dI_ok h1
    cases n with
    | zero => cases h
    | succ n =>
      exact run2_ok UOk (ih n rfl) (f := fn_bbr_New) rfl ((run_bbr_New capB n p0 p1 k).symm.trans h)
  · cases h
theorem ok_cc_New {R : Type} {r : R} : ∀ {n : Nat}, (∀ m, n = m + 1 → CallOk2 (R := R) U (callP capB m) (runF tbl m)) → ∀ {av : Fr} {cs : List Fr} {k : Ret2 RW → Option R}, ca_cc_New capB n av cs k = some r → ∃ q : Ret2 RW, runF tbl n 7 (TV.los U av) (cs.map (TV.los U)) = some (q.lo U) ∧ k q = some r := by
  intro n ih av cs k h
  unfold ca_cc_New at h
  split at h
  · simp only [Option.bind_eq_some_iff] at h
    obtain ⟨p0, h0, p1, h1, p2, h2, h⟩ := h
    obtain rfl := dI_ok h0
    obtain rfl := dI_ok h1
    obtain rfl := dI_ok h2
    cases n with
    | zero => cases h
    | succ n =>
      exact run2_ok UOk (ih n rfl) (f := fn_cc_New) rfl ((run_cc_New capB n p0 p1 p2 k).symm.trans h)
  · cases h
theorem ok_law19_heads {R : Type} {r : R} : ∀ {n : Nat}, (∀ m, n = m + 1 → CallOk2 (R := R) U (callP capB m) (runF tbl m)) → ∀ {av : Fr} {cs : List Fr} {k : Ret2 RW → Option R}, ca_law19_heads capB n av cs k = some r → ∃ q : Ret2 RW, runF tbl n 11 (TV.los U av) (cs.map (TV.los U)) = some (q.lo U) ∧ k q = some r := by
  intro n ih av cs k h
  unfold ca_law19_heads at h
  split at h
  · cases n with
    | zero => cases h
    | succ n =>
      exact run2_ok UOk (ih n rfl) (f := fn_law19_heads) rfl ((run_law19_heads capB n  k).symm.trans h)
  · cases h
theorem ok_law19_CcRests {R : Type} {r : R} : ∀ {n : Nat}, (∀ m, n = m + 1 → CallOk2 (R := R) U (callP capB m) (runF tbl m)) → ∀ {av : Fr} {cs : List Fr} {k : Ret2 RW → Option R}, ca_law19_CcRests capB n av cs k = some r → ∃ q : Ret2 RW, runF tbl n 5 (TV.los U av) (cs.map (TV.los U)) = some (q.lo U) ∧ k q = some r := by
  intro n ih av cs k h
  unfold ca_law19_CcRests at h
  split at h
  · simp only [Option.bind_eq_some_iff] at h
    obtain ⟨c0_, h0, p0, g0, p1, h1, p2, h2, p3, h3, h⟩ := h
    obtain rfl := dA_ok h0
    obtain rfl := dCc_ok g0
    obtain rfl := dI_ok h1
    obtain rfl := dI_ok h2
    obtain rfl := dI_ok h3
    cases n with
    | zero => cases h
    | succ n =>
      exact run2_ok UOk (ih n rfl) (f := fn_law19_CcRests) rfl ((run_law19_CcRests capB n p0 p1 p2 p3 k).symm.trans h)
  · cases h
theorem callOk {R : Type} : ∀ n, CallOk2 (R := R) U (callP capB n) (runF tbl n)
  | n => fun id av cells k r h => by
    have ih : ∀ m, n = m + 1 → CallOk2 (R := R) U (callP capB m) (runF tbl m) := fun m e => callOk m
    unfold callP at h
    split at h
    · exact ok_cc_time ih h
    · exact ok_cc_size ih h
    · exact ok_reno_size ih h
    · exact ok_reno_ctl_plain ih h
    · exact ok_reno_Check ih h
    · exact ok_cubic_size ih h
    · exact ok_cubic_Check ih h
    · exact ok_bbr_within ih h
    · exact ok_filter_may ih h
    · exact ok_filter_beats ih h
    · exact ok_filter_Check ih h
    · exact ok_bbr_ctl_entries ih h
    · exact ok_bbr_Check ih h
    · exact ok_cc_Check ih h
    · exact ok_cc_asked ih h
    · exact ok_cc_Rest ih h
    · exact ok_ref15_Size ih h
    · exact ok_ref15_Common ih h
    · exact ok_ref15_Plain ih h
    · exact ok_ref15_Check ih h
    · exact ok_ref16_Check ih h
    · exact ok_ref12_time ih h
    · exact ok_ref12_value ih h
    · exact ok_ref12_Check ih h
    · exact ok_ref18_time ih h
    · exact ok_ref18_Check ih h
    · exact ok_ref19_Check ih h
    · exact ok_ref19_time ih h
    · exact ok_ref19_Rest ih h
    · exact ok_cc_Limit ih h
    · exact ok_ref19_Limit ih h
    · exact ok_ref15_Same ih h
    · exact ok_bbr_Gain ih h
    · exact ok_filter_Best ih h
    · exact ok_bbr_ctl_bandwidth ih h
    · exact ok_bbr_Bandwidth ih h
    · exact ok_math_bits_Mul64 ih h
    · exact ok_math_bits_Len64 ih h
    · exact ok_math_bits_LeadingZeros64 ih h
    · exact ok_math_bits_Div64 ih h
    · exact ok_seq_MulDiv ih h
    · exact ok_cc_Pace ih h
    · exact ok_ref18_Gain ih h
    · exact ok_ref12_Best ih h
    · exact ok_ref18_bandwidth ih h
    · exact ok_ref18_Bandwidth ih h
    · exact ok_ref01_MulDiv ih h
    · exact ok_ref19_Pace ih h
    · exact ok_reno_New ih h
    · exact ok_cubic_New ih h
    · exact ok_bbr_New ih h
    · exact ok_cc_New ih h
    · exact ok_law19_heads ih h
    · exact ok_law19_CcRests ih h
    · cases h
termination_by n => n
decreasing_by omega
end
end Go.Proofs.Ytgnoidblkenglaa.M
