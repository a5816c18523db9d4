/- The machine's code of the functions, and that it computes them. -/
import Derived.Test.YtgnoidblkenglaaLG0
import Derived.Test.YtgnoidblkenglaaProg
import Derived.KernelRfl
set_option maxRecDepth 100000
set_option linter.unusedVariables false
set_option linter.unusedSimpArgs false
namespace Go.Proofs.Ytgnoidblkenglaa.M
open Go
noncomputable section
def X {R : Type} (cp : Nat → Nat → Bool) (n : Nat) (c : IC2 RW) (l : FF) (k : Ex → FF → Option R) : Option R := exec2 U cp (callP cp n) n c l k
theorem X_run {R : Type} {cp : Nat → Nat → Bool} {n : Nat} {f : IFn2 RW} {av : Fr} {cells : List Fr} {code : IC2 RW} {fr : FF} {k : Ret2 RW → Option R} (hb : f.body = code) (h : ∀ K : FF → Option R, start2 f av cells K = K fr) : run2 U cp (callP cp n) n f av cells k = X cp n code fr (finK2 f k) := by
  subst hb
  exact h _
def o0 (op : IOp2 RW) : IStep2 RW := ⟨none, op, none, false⟩
def o1 (d : Nat) (op : IOp2 RW) : IStep2 RW := ⟨some d, op, none, false⟩
def o2 (d : Nat) (op : IOp2 RW) : IStep2 RW := ⟨some d, op, none, true⟩
def o3 (d g : Nat) (b : Bool) (op : IOp2 RW) : IStep2 RW := ⟨some d, op, some (g, b), false⟩
def g_cc_time_0 : List (IStep2 RW) := [o1 2 (.mv false (.k (.sc (.bool false))))]
def g_cc_time_1 : List (IStep2 RW) := [o1 3 (.mv false (.s 0)),
  o1 4 (.bin .geq (.s 3) (.k (.sc (.int .i64 0)))),
  o2 5 (.mv false (.s 4)),
  o3 6 5 true (.mv false (.s 0)),
  o3 7 5 true (.bin .leq (.s 6) (.k (.sc (.int .i64 1125899906842624)))),
  o1 8 (.pick (.s 5) (.s 7) (.k (.sc (.bool false)))),
  o1 2 (.mv false (.s 8))]
def i_cc_time_0 : IC2 RW := .seq (.fin (.reg g_cc_time_0) [2] []) (.seq (.fin (.reg g_cc_time_1) [0, 3, 4, 5, 6, 7, 8] []) (.ret))
def fn_cc_time : IFn2 RW := ⟨32, 1, 9, 16, [], [], [.slot 2], i_cc_time_0⟩
def g_cc_size_0 : List (IStep2 RW) := [o1 2 (.mv false (.k (.sc (.bool false))))]
def g_cc_size_1 : List (IStep2 RW) := [o1 3 (.mv false (.s 0)),
  o1 4 (.bin .geq (.s 3) (.k (.sc (.int .i64 0)))),
  o2 5 (.mv false (.s 4)),
  o3 6 5 true (.mv false (.s 0)),
  o3 7 5 true (.bin .leq (.s 6) (.k (.sc (.int .i64 1073741824)))),
  o1 8 (.pick (.s 5) (.s 7) (.k (.sc (.bool false)))),
  o1 2 (.mv false (.s 8))]
def i_cc_size_0 : IC2 RW := .seq (.fin (.reg g_cc_size_0) [2] []) (.seq (.fin (.reg g_cc_size_1) [0, 3, 4, 5, 6, 7, 8] []) (.ret))
def fn_cc_size : IFn2 RW := ⟨33, 1, 9, 16, [], [], [.slot 2], i_cc_size_0⟩
def g_reno_size_0 : List (IStep2 RW) := [o1 2 (.mv false (.k (.sc (.bool false))))]
def g_reno_size_1 : List (IStep2 RW) := [o1 3 (.mv false (.s 0)),
  o1 4 (.bin .geq (.s 3) (.k (.sc (.int .i64 0)))),
  o2 5 (.mv false (.s 4)),
  o3 6 5 true (.mv false (.s 0)),
  o3 7 5 true (.bin .leq (.s 6) (.k (.sc (.int .i64 1073741824)))),
  o1 8 (.pick (.s 5) (.s 7) (.k (.sc (.bool false)))),
  o1 2 (.mv false (.s 8))]
def i_reno_size_0 : IC2 RW := .seq (.fin (.reg g_reno_size_0) [2] []) (.seq (.fin (.reg g_reno_size_1) [0, 3, 4, 5, 6, 7, 8] []) (.ret))
def fn_reno_size : IFn2 RW := ⟨51, 1, 9, 16, [], [], [.slot 2], i_reno_size_0⟩
def g_reno_ctl_plain_1 : List (IStep2 RW) := [o1 3 (.mv false (.s 0)),
  o1 4 (.nil (.s 3)),
  o1 5 (.fld 0 (.s 4)),
  o1 6 (.fld 5 (.s 5)),
  o1 7 (.load 138 5 1 false false 6),
  o1 8 (.bin .eql (.s 7) (.k (.sc (.int .i64 0)))),
  o2 9 (.mv false (.s 8)),
  o3 10 9 true (.mv false (.s 0)),
  o3 11 9 true (.nil (.s 10)),
  o3 12 9 true (.fld 0 (.s 11)),
  o3 13 9 true (.fld 6 (.s 12)),
  o3 14 9 true (.load 138 6 1 false false 13),
  o3 15 9 true (.bin .eql (.s 14) (.k (.sc (.int .i64 0)))),
  o1 16 (.pick (.s 9) (.s 15) (.k (.sc (.bool false)))),
  o2 17 (.mv false (.s 16)),
  o3 18 17 true (.mv false (.s 0)),
  o3 19 17 true (.nil (.s 18)),
  o3 20 17 true (.fld 0 (.s 19)),
  o3 21 17 true (.fld 7 (.s 20)),
  o3 22 17 true (.load 138 7 1 false false 21),
  o3 23 17 true (.bin .eql (.s 22) (.k (.sc (.int .i64 0)))),
  o1 24 (.pick (.s 17) (.s 23) (.k (.sc (.bool false)))),
  o2 25 (.mv false (.s 24)),
  o3 26 25 true (.mv false (.s 0)),
  o3 27 25 true (.nil (.s 26)),
  o3 28 25 true (.fld 0 (.s 27)),
  o3 29 25 true (.fld 8 (.s 28)),
  o3 30 25 true (.load 138 8 1 false false 29),
  o3 31 25 true (.bin .eql (.s 30) (.k (.sc (.int .i64 0)))),
  o1 32 (.pick (.s 25) (.s 31) (.k (.sc (.bool false)))),
  o2 33 (.mv false (.s 32)),
  o3 34 33 true (.mv false (.s 0)),
  o3 35 33 true (.nil (.s 34)),
  o3 36 33 true (.fld 0 (.s 35)),
  o3 37 33 true (.fld 9 (.s 36)),
  o3 38 33 true (.load 138 9 1 false false 37),
  o3 39 33 true (.bin .eql (.s 38) (.k (.sc (.int .i64 0)))),
  o1 40 (.pick (.s 33) (.s 39) (.k (.sc (.bool false)))),
  o2 41 (.mv false (.s 40)),
  o3 42 41 true (.mv false (.s 0)),
  o3 43 41 true (.nil (.s 42)),
  o3 44 41 true (.fld 0 (.s 43)),
  o3 45 41 true (.fld 10 (.s 44)),
  o3 46 41 true (.load 138 10 1 false false 45),
  o3 47 41 true (.bin .eql (.s 46) (.k (.sc (.int .i64 0)))),
  o1 48 (.pick (.s 41) (.s 47) (.k (.sc (.bool false)))),
  o2 49 (.mv false (.s 48)),
  o3 50 49 true (.mv false (.s 0)),
  o3 51 49 true (.nil (.s 50)),
  o3 52 49 true (.fld 0 (.s 51)),
  o3 53 49 true (.fld 11 (.s 52)),
  o3 54 49 true (.load 138 11 1 false false 53),
  o3 55 49 true (.len false (.s 54)),
  o3 56 49 true (.bin .eql (.s 55) (.k (.sc (.int .i64 0)))),
  o1 57 (.pick (.s 49) (.s 56) (.k (.sc (.bool false)))),
  o2 58 (.mv false (.s 57)),
  o3 59 58 true (.mv false (.s 0)),
  o3 60 58 true (.nil (.s 59)),
  o3 61 58 true (.fld 0 (.s 60)),
  o3 62 58 true (.fld 12 (.s 61)),
  o3 63 58 true (.load 138 12 1 false false 62),
  o3 64 58 true (.bin .eql (.s 63) (.k (.sc (.int .i64 0)))),
  o1 65 (.pick (.s 58) (.s 64) (.k (.sc (.bool false)))),
  o2 66 (.mv false (.s 65)),
  o3 67 66 true (.mv false (.s 0)),
  o3 68 66 true (.nil (.s 67)),
  o3 69 66 true (.fld 0 (.s 68)),
  o3 70 66 true (.fld 13 (.s 69)),
  o3 71 66 true (.load 138 13 1 false false 70),
  o3 72 66 true (.bin .eql (.s 71) (.k (.sc (.int .i64 0)))),
  o1 73 (.pick (.s 66) (.s 72) (.k (.sc (.bool false)))),
  o2 74 (.mv false (.s 73)),
  o3 75 74 true (.mv false (.s 0)),
  o3 76 74 true (.nil (.s 75)),
  o3 77 74 true (.fld 0 (.s 76)),
  o3 78 74 true (.fld 14 (.s 77)),
  o3 79 74 true (.load 138 14 1 false false 78),
  o3 80 74 true (.bin .eql (.s 79) (.k (.sc (.int .i64 0)))),
  o1 81 (.pick (.s 74) (.s 80) (.k (.sc (.bool false)))),
  o2 82 (.mv false (.s 81)),
  o3 83 82 true (.mv false (.s 0)),
  o3 84 82 true (.nil (.s 83)),
  o3 85 82 true (.fld 0 (.s 84)),
  o3 86 82 true (.fld 15 (.s 85)),
  o3 87 82 true (.load 138 15 1 false false 86),
  o3 88 82 true (.bin .eql (.s 87) (.k (.sc (.int .i64 0)))),
  o1 89 (.pick (.s 82) (.s 88) (.k (.sc (.bool false)))),
  o2 90 (.mv false (.s 89)),
  o3 91 90 true (.mv false (.s 0)),
  o3 92 90 true (.nil (.s 91)),
  o3 93 90 true (.fld 0 (.s 92)),
  o3 94 90 true (.fld 16 (.s 93)),
  o3 95 90 true (.load 138 16 1 false false 94),
  o3 96 90 true (.bin .eql (.s 95) (.k (.sc (.int .i64 0)))),
  o1 97 (.pick (.s 90) (.s 96) (.k (.sc (.bool false)))),
  o2 98 (.mv false (.s 97)),
  o3 99 98 true (.mv false (.s 0)),
  o3 100 98 true (.nil (.s 99)),
  o3 101 98 true (.fld 0 (.s 100)),
  o3 102 98 true (.fld 17 (.s 101)),
  o3 103 98 true (.load 138 17 1 false false 102),
  o3 104 98 true (.bin .eql (.s 103) (.k (.sc (.int .i64 0)))),
  o1 105 (.pick (.s 98) (.s 104) (.k (.sc (.bool false)))),
  o2 106 (.mv false (.s 105)),
  o3 107 106 true (.mv false (.s 0)),
  o3 108 106 true (.nil (.s 107)),
  o3 109 106 true (.fld 0 (.s 108)),
  o3 110 106 true (.fld 18 (.s 109)),
  o3 111 106 true (.load 138 18 1 false false 110),
  o3 112 106 true (.bin .eql (.s 111) (.k (.sc (.int .i64 0)))),
  o1 113 (.pick (.s 106) (.s 112) (.k (.sc (.bool false)))),
  o2 114 (.mv false (.s 113)),
  o3 115 114 true (.mv false (.s 0)),
  o3 116 114 true (.nil (.s 115)),
  o3 117 114 true (.fld 0 (.s 116)),
  o3 118 114 true (.fld 19 (.s 117)),
  o3 119 114 true (.load 138 19 1 false false 118),
  o3 120 114 true (.bin .eql (.s 119) (.k (.sc (.int .i64 0)))),
  o1 121 (.pick (.s 114) (.s 120) (.k (.sc (.bool false)))),
  o2 122 (.mv false (.s 121)),
  o3 123 122 true (.mv false (.s 0)),
  o3 124 122 true (.nil (.s 123)),
  o3 125 122 true (.fld 0 (.s 124)),
  o3 126 122 true (.fld 20 (.s 125)),
  o3 127 122 true (.load 138 20 1 false false 126),
  o3 128 122 true (.bin .eql (.s 127) (.k (.sc (.int .i64 0)))),
  o1 129 (.pick (.s 122) (.s 128) (.k (.sc (.bool false)))),
  o2 130 (.mv false (.s 129)),
  o3 131 130 true (.mv false (.s 0)),
  o3 132 130 true (.nil (.s 131)),
  o3 133 130 true (.fld 0 (.s 132)),
  o3 134 130 true (.fld 21 (.s 133)),
  o3 135 130 true (.load 138 21 1 false false 134),
  o3 136 130 true (.bin .eql (.s 135) (.k (.sc (.int .i64 0)))),
  o1 137 (.pick (.s 130) (.s 136) (.k (.sc (.bool false)))),
  o1 2 (.mv false (.s 137))]
def i_reno_ctl_plain_0 : IC2 RW := .fin (.reg g_reno_ctl_plain_1) [0, 3, 4, 5, 6, 7, 8, 9, 10, 11, 12, 13, 14, 15, 16, 17, 18, 19, 20, 21, 22, 23, 24, 25, 26, 27, 28, 29, 30, 31, 32, 33, 34, 35, 36, 37, 38, 39, 40, 41, 42, 43, 44, 45, 46, 47, 48, 49, 50, 51, 52, 53, 54, 55, 56, 57, 58, 59, 60, 61, 62, 63, 64, 65, 66, 67, 68, 69, 70, 71, 72, 73, 74, 75, 76, 77, 78, 79, 80, 81, 82, 83, 84, 85, 86, 87, 88, 89, 90, 91, 92, 93, 94, 95, 96, 97, 98, 99, 100, 101, 102, 103, 104, 105, 106, 107, 108, 109, 110, 111, 112, 113, 114, 115, 116, 117, 118, 119, 120, 121, 122, 123, 124, 125, 126, 127, 128, 129, 130, 131, 132, 133, 134, 135, 136, 137] []
def i_reno_ctl_plain_1 : IC2 RW := .ret
def i_reno_ctl_plain_2 : IC2 RW := .seq i_reno_ctl_plain_0 i_reno_ctl_plain_1
def g_reno_ctl_plain_0 : List (IStep2 RW) := [o1 2 (.mv false (.k (.sc (.bool false))))]
def i_reno_ctl_plain_3 : IC2 RW := .seq (.fin (.reg g_reno_ctl_plain_0) [2] []) i_reno_ctl_plain_2
def fn_reno_ctl_plain : IFn2 RW := ⟨52, 1, 138, 176, [(138, 22)], [(138, 22)], [.slot 2], i_reno_ctl_plain_3⟩
def g_reno_Check_0 : List (IStep2 RW) := [o1 1 (.box 88 22 false (.s 0)),
  o1 2 (.mv false (.k (.sc (.int .i64 0))))]
def g_reno_Check_1 : List (IStep2 RW) := [o1 4 (.load 88 0 22 true false 1),
  o1 5 (.build [.sc (.int .i64 0), .sc (.int .i64 0), .sc (.int .i64 0), .sc (.int .i64 0), .sc (.int .i64 0), .sc (.int .i64 0), .sc (.int .i64 0), .sc (.int .i64 0), .sc (.int .i64 0), .sc (.int .i64 0), .sc (.int .i64 0), .row false (.rEntry []), .sc (.int .i64 0), .sc (.int .i64 0), .sc (.int .i64 0), .sc (.int .i64 0), .sc (.int .i64 0), .sc (.int .i64 0), .sc (.int .i64 0), .sc (.int .i64 0), .sc (.int .i64 0), .sc (.int .i64 0)] [(0, 22, .s 4)]),
  o1 6 (.box 111 22 false (.s 5)),
  o1 3 (.mv false (.s 6))]
def g_reno_Check_2 : List (IStep2 RW) := [o1 7 (.mv false (.s 3)),
  o1 8 (.nil (.s 7)),
  o1 9 (.fld 0 (.s 8)),
  o1 10 (.fld 0 (.s 9)),
  o1 11 (.load 111 0 1 false false 10),
  o1 12 (.bin .neq (.s 11) (.k (.sc (.int .i64 1)))),
  o2 13 (.mv false (.s 12)),
  o3 14 13 false (.mv false (.s 3)),
  o3 15 13 false (.nil (.s 14)),
  o3 16 13 false (.fld 0 (.s 15)),
  o3 17 13 false (.fld 1 (.s 16)),
  o3 18 13 false (.load 111 1 1 false false 17),
  o3 19 13 false (.bin .lss (.s 18) (.k (.sc (.int .i64 1)))),
  o1 20 (.pick (.s 13) (.k (.sc (.bool true))) (.s 19)),
  o2 21 (.mv false (.s 20)),
  o3 22 21 false (.mv false (.s 3)),
  o3 23 21 false (.nil (.s 22)),
  o3 24 21 false (.fld 0 (.s 23)),
  o3 25 21 false (.fld 1 (.s 24)),
  o3 26 21 false (.load 111 1 1 false false 25),
  o3 27 21 false (.bin .gtr (.s 26) (.k (.sc (.int .i64 65000)))),
  o1 28 (.pick (.s 21) (.k (.sc (.bool true))) (.s 27)),
  o2 29 (.mv false (.s 28)),
  o3 30 29 false (.mv false (.s 3)),
  o3 31 29 false (.nil (.s 30)),
  o3 32 29 false (.fld 0 (.s 31)),
  o3 33 29 false (.fld 2 (.s 32)),
  o3 34 29 false (.load 111 2 1 false false 33),
  o3 35 29 false (.mv false (.s 3)),
  o3 36 29 false (.nil (.s 35)),
  o3 37 29 false (.fld 0 (.s 36)),
  o3 38 29 false (.fld 1 (.s 37)),
  o3 39 29 false (.load 111 1 1 false false 38),
  o3 40 29 false (.bin .lss (.s 34) (.s 39)),
  o1 41 (.pick (.s 29) (.k (.sc (.bool true))) (.s 40)),
  o2 42 (.mv false (.s 41)),
  o3 43 42 false (.mv false (.s 3)),
  o3 44 42 false (.nil (.s 43)),
  o3 45 42 false (.fld 0 (.s 44)),
  o3 46 42 false (.fld 2 (.s 45)),
  o3 47 42 false (.load 111 2 1 false false 46),
  o3 48 42 false (.call 51 [(false, .s 47)] []),
  o3 49 42 false (.un .not (.s 48)),
  o1 50 (.pick (.s 42) (.k (.sc (.bool true))) (.s 49)),
  o2 51 (.mv false (.s 50)),
  o3 52 51 false (.mv false (.s 3)),
  o3 53 51 false (.nil (.s 52)),
  o3 54 51 false (.fld 0 (.s 53)),
  o3 55 51 false (.fld 3 (.s 54)),
  o3 56 51 false (.load 111 3 1 false false 55),
  o3 57 51 false (.mv false (.s 3)),
  o3 58 51 false (.nil (.s 57)),
  o3 59 51 false (.fld 0 (.s 58)),
  o3 60 51 false (.fld 1 (.s 59)),
  o3 61 51 false (.load 111 1 1 false false 60),
  o3 62 51 false (.bin .mul (.k (.sc (.int .i64 2))) (.s 61)),
  o3 63 51 false (.bin .lss (.s 56) (.s 62)),
  o1 64 (.pick (.s 51) (.k (.sc (.bool true))) (.s 63)),
  o2 65 (.mv false (.s 64)),
  o3 66 65 false (.mv false (.s 3)),
  o3 67 65 false (.nil (.s 66)),
  o3 68 65 false (.fld 0 (.s 67)),
  o3 69 65 false (.fld 3 (.s 68)),
  o3 70 65 false (.load 111 3 1 false false 69),
  o3 71 65 false (.call 51 [(false, .s 70)] []),
  o3 72 65 false (.un .not (.s 71)),
  o1 73 (.pick (.s 65) (.k (.sc (.bool true))) (.s 72)),
  o2 74 (.mv false (.s 73)),
  o3 75 74 false (.mv false (.s 3)),
  o3 76 74 false (.nil (.s 75)),
  o3 77 74 false (.fld 0 (.s 76)),
  o3 78 74 false (.fld 4 (.s 77)),
  o3 79 74 false (.load 111 4 1 false false 78),
  o3 80 74 false (.call 51 [(false, .s 79)] []),
  o3 81 74 false (.un .not (.s 80)),
  o1 82 (.pick (.s 74) (.k (.sc (.bool true))) (.s 81)),
  o2 83 (.mv false (.s 82)),
  o3 84 83 false (.mv false (.s 3)),
  o3 85 83 false (.call 1008 [(false, .s 84)] [(111, 22, 138)]),
  o3 86 83 false (.un .not (.s 85)),
  o1 87 (.pick (.s 83) (.k (.sc (.bool true))) (.s 86))]
def g_reno_Check_3 : List (IStep2 RW) := [o1 2 (.mv false (.k (.sc (.int .i64 230))))]
def g_reno_Check_4 : List (IStep2 RW) := [o1 2 (.mv false (.k (.sc (.int .i64 0))))]
def i_reno_Check_0 : IC2 RW := .seq (.fin (.reg g_reno_Check_0) [0, 2] []) (.seq (.fin (.reg g_reno_Check_1) [1, 4, 5, 6] [(88, 22)]) (.seq (.seq (.fin (.reg g_reno_Check_2) [3, 7, 8, 9, 10, 11, 12, 13, 14, 15, 16, 17, 18, 19, 20, 21, 22, 23, 24, 25, 26, 27, 28, 29, 30, 31, 32, 33, 34, 35, 36, 37, 38, 39, 40, 41, 42, 43, 44, 45, 46, 47, 48, 49, 50, 51, 52, 53, 54, 55, 56, 57, 58, 59, 60, 61, 62, 63, 64, 65, 66, 67, 68, 69, 70, 71, 72, 73, 74, 75, 76, 77, 78, 79, 80, 81, 82, 83, 84, 85, 86] [(111, 22)]) (.fin (.cond (.s 87) (.seq (.fin (.reg g_reno_Check_3) [87] []) (.ret)) (.skip)) [87] [])) (.seq (.reg g_reno_Check_4) (.ret))))
def fn_reno_Check : IFn2 RW := ⟨28, 1, 88, 144, [(88, 22), (111, 22)], [], [.slot 2], i_reno_Check_0⟩
def g_cubic_size_2 : List (IStep2 RW) := [o1 8 (.bin .lss (.s 7) (.s 6))]
def g_cubic_size_3 : List (IStep2 RW) := [o1 9 (.idx 1 (.s 5) (.s 7)),
  o1 10 (.loade 1 false 9),
  o1 4 (.mv false (.s 10))]
def g_cubic_size_4 : List (IStep2 RW) := [o1 11 (.mv false (.s 4)),
  o1 12 (.bin .lss (.s 11) (.k (.sc (.int .i64 0)))),
  o2 13 (.mv false (.s 12)),
  o3 14 13 false (.mv false (.s 4)),
  o3 15 13 false (.bin .gtr (.s 14) (.k (.sc (.int .i64 1073741824)))),
  o1 16 (.pick (.s 13) (.k (.sc (.bool true))) (.s 15))]
def g_cubic_size_5 : List (IStep2 RW) := [o1 2 (.mv false (.k (.sc (.bool false))))]
def g_cubic_size_6 : List (IStep2 RW) := [o1 17 (.bin .add (.s 7) (.k (.sc (.int .i64 1)))),
  o1 7 (.mv false (.s 17))]
def i_cubic_size_0 : IC2 RW := .seq (.reg g_cubic_size_2) (.seq (.fin (.cond (.s 8) (.skip) (.clr [5, 6, 7, 8] [] (.exit 0))) [8] []) (.seq (.blk 1 (.seq (.fin (.reg g_cubic_size_3) [9, 10] []) (.seq (.fin (.reg g_cubic_size_4) [4, 11, 12, 13, 14, 15] []) (.fin (.cond (.s 16) (.seq (.fin (.reg g_cubic_size_5) [5, 6, 7, 16] []) (.ret)) (.skip)) [16] [])))) (.fin (.reg g_cubic_size_6) [17] [])))
def i_cubic_size_1 : IC2 RW := .loop i_cubic_size_0
def i_cubic_size_2 : IC2 RW := .blk 0 i_cubic_size_1
def g_cubic_size_1 : List (IStep2 RW) := [o1 5 (.mv false (.s 0)),
  o1 6 (.len false (.s 5)),
  o1 7 (.mv false (.k (.sc (.int .i64 0))))]
def i_cubic_size_3 : IC2 RW := .seq (.fin (.reg g_cubic_size_1) [0] []) i_cubic_size_2
def g_cubic_size_7 : List (IStep2 RW) := [o1 2 (.mv false (.k (.sc (.bool true))))]
def i_cubic_size_4 : IC2 RW := .seq (.reg g_cubic_size_7) (.ret)
def i_cubic_size_5 : IC2 RW := .seq i_cubic_size_3 i_cubic_size_4
def g_cubic_size_0 : List (IStep2 RW) := [o1 2 (.mv false (.k (.sc (.bool false))))]
def i_cubic_size_6 : IC2 RW := .seq (.fin (.reg g_cubic_size_0) [2] []) i_cubic_size_5
def fn_cubic_size : IFn2 RW := ⟨53, 1, 18, 32, [], [], [.slot 2], i_cubic_size_6⟩
def g_cubic_Check_0 : List (IStep2 RW) := [o1 1 (.box 50 22 false (.s 0)),
  o1 2 (.mv false (.k (.sc (.int .i64 0))))]
def g_cubic_Check_1 : List (IStep2 RW) := [o1 4 (.load 50 0 22 true false 1),
  o1 3 (.alloc 73 [.sc (.int .i64 0), .sc (.int .i64 0), .sc (.int .i64 0), .sc (.int .i64 0), .sc (.int .i64 0), .sc (.int .i64 0), .sc (.int .i64 0), .sc (.int .i64 0), .sc (.int .i64 0), .sc (.int .i64 0), .sc (.int .i64 0), .row false (.rEntry []), .sc (.int .i64 0), .sc (.int .i64 0), .sc (.int .i64 0), .sc (.int .i64 0), .sc (.int .i64 0), .sc (.int .i64 0), .sc (.int .i64 0), .sc (.int .i64 0), .sc (.int .i64 0), .sc (.int .i64 0)]),
  o0 (.store 73 0 22 false 3 (.s 4))]
def g_cubic_Check_2 : List (IStep2 RW) := [o1 5 (.fld 0 (.s 3)),
  o0 (.store 73 0 1 false 5 (.k (.sc (.int .i64 1)))),
  o1 6 (.fld 5 (.s 3)),
  o0 (.store 73 5 1 false 6 (.k (.sc (.int .i64 0)))),
  o1 7 (.fld 6 (.s 3)),
  o0 (.store 73 6 1 false 7 (.k (.sc (.int .i64 0)))),
  o1 8 (.fld 7 (.s 3)),
  o0 (.store 73 7 1 false 8 (.k (.sc (.int .i64 0)))),
  o1 9 (.fld 8 (.s 3)),
  o0 (.store 73 8 1 false 9 (.k (.sc (.int .i64 0)))),
  o1 10 (.fld 9 (.s 3)),
  o0 (.store 73 9 1 false 10 (.k (.sc (.int .i64 0))))]
def g_cubic_Check_3 : List (IStep2 RW) := [o1 11 (.fld 0 (.s 1)),
  o1 12 (.load 50 0 1 false false 11),
  o1 13 (.bin .neq (.s 12) (.k (.sc (.int .i64 2)))),
  o2 14 (.mv false (.s 13)),
  o3 15 14 false (.load 73 0 22 true false 3),
  o3 16 14 false (.call 28 [(false, .s 15)] []),
  o3 17 14 false (.bin .neq (.s 16) (.k (.sc (.int .i64 0)))),
  o1 18 (.pick (.s 14) (.k (.sc (.bool true))) (.s 17)),
  o2 19 (.mv false (.s 18)),
  o3 20 19 false (.fld 5 (.s 1)),
  o3 21 19 false (.load 50 5 1 false false 20),
  o3 22 19 false (.fld 8 (.s 1)),
  o3 23 19 false (.load 50 8 1 false false 22),
  o3 24 19 false (.fld 9 (.s 1)),
  o3 25 19 false (.load 50 9 1 false false 24),
  o3 26 19 false (.bslice 3 3 [(0, 1, .s 21), (1, 1, .s 23), (2, 1, .s 25)]),
  o3 27 19 false (.call 53 [(false, .s 26)] []),
  o3 28 19 false (.un .not (.s 27)),
  o1 29 (.pick (.s 19) (.k (.sc (.bool true))) (.s 28)),
  o2 30 (.mv false (.s 29)),
  o3 31 30 false (.fld 7 (.s 1)),
  o3 32 30 false (.load 50 7 1 false false 31),
  o3 33 30 false (.bin .lss (.s 32) (.k (.sc (.int .i64 0)))),
  o1 34 (.pick (.s 30) (.k (.sc (.bool true))) (.s 33)),
  o2 35 (.mv false (.s 34)),
  o3 36 35 false (.fld 7 (.s 1)),
  o3 37 35 false (.load 50 7 1 false false 36),
  o3 38 35 false (.bin .gtr (.s 37) (.k (.sc (.int .i64 2097151)))),
  o1 39 (.pick (.s 35) (.k (.sc (.bool true))) (.s 38)),
  o2 40 (.mv false (.s 39)),
  o3 41 40 false (.fld 6 (.s 1)),
  o3 42 40 false (.load 50 6 1 false false 41),
  o3 43 40 false (.bin .lss (.s 42) (.k (.sc (.int .i64 (-1))))),
  o1 44 (.pick (.s 40) (.k (.sc (.bool true))) (.s 43)),
  o2 45 (.mv false (.s 44)),
  o3 46 45 false (.fld 6 (.s 1)),
  o3 47 45 false (.load 50 6 1 false false 46),
  o3 48 45 false (.bin .gtr (.s 47) (.k (.sc (.int .i64 1125899906842624)))),
  o1 49 (.pick (.s 45) (.k (.sc (.bool true))) (.s 48))]
def g_cubic_Check_4 : List (IStep2 RW) := [o1 2 (.mv false (.k (.sc (.int .i64 230))))]
def g_cubic_Check_5 : List (IStep2 RW) := [o1 2 (.mv false (.k (.sc (.int .i64 0))))]
def i_cubic_Check_0 : IC2 RW := .seq (.fin (.reg g_cubic_Check_0) [0, 2] []) (.seq (.fin (.reg g_cubic_Check_1) [4] []) (.seq (.fin (.reg g_cubic_Check_2) [5, 6, 7, 8, 9, 10] []) (.seq (.seq (.fin (.reg g_cubic_Check_3) [1, 3, 11, 12, 13, 14, 15, 16, 17, 18, 19, 20, 21, 22, 23, 24, 25, 26, 27, 28, 29, 30, 31, 32, 33, 34, 35, 36, 37, 38, 39, 40, 41, 42, 43, 44, 45, 46, 47, 48] [(50, 22), (73, 22)]) (.fin (.cond (.s 49) (.seq (.fin (.reg g_cubic_Check_4) [49] []) (.ret)) (.skip)) [49] [])) (.seq (.reg g_cubic_Check_5) (.ret)))))
def fn_cubic_Check : IFn2 RW := ⟨29, 1, 50, 96, [(50, 22), (73, 22)], [], [.slot 2], i_cubic_Check_0⟩
def g_bbr_within_2 : List (IStep2 RW) := [o1 10 (.bin .lss (.s 9) (.s 8))]
def g_bbr_within_3 : List (IStep2 RW) := [o1 11 (.idx 1 (.s 7) (.s 9)),
  o1 12 (.loade 1 false 11),
  o1 6 (.mv false (.s 12))]
def g_bbr_within_4 : List (IStep2 RW) := [o1 13 (.mv false (.s 6)),
  o1 14 (.bin .lss (.s 13) (.k (.sc (.int .i64 0)))),
  o2 15 (.mv false (.s 14)),
  o3 16 15 false (.mv false (.s 6)),
  o3 17 15 false (.mv false (.s 0)),
  o3 18 15 false (.bin .gtr (.s 16) (.s 17)),
  o1 19 (.pick (.s 15) (.k (.sc (.bool true))) (.s 18))]
def g_bbr_within_5 : List (IStep2 RW) := [o1 4 (.mv false (.k (.sc (.bool false))))]
def g_bbr_within_6 : List (IStep2 RW) := [o1 20 (.bin .add (.s 9) (.k (.sc (.int .i64 1)))),
  o1 9 (.mv false (.s 20))]
def i_bbr_within_0 : IC2 RW := .seq (.reg g_bbr_within_2) (.seq (.fin (.cond (.s 10) (.skip) (.clr [0, 7, 8, 9, 10] [] (.exit 0))) [10] []) (.seq (.blk 1 (.seq (.fin (.reg g_bbr_within_3) [11, 12] []) (.seq (.fin (.reg g_bbr_within_4) [6, 13, 14, 15, 16, 17, 18] []) (.fin (.cond (.s 19) (.seq (.fin (.reg g_bbr_within_5) [0, 7, 8, 9, 19] []) (.ret)) (.skip)) [19] [])))) (.fin (.reg g_bbr_within_6) [20] [])))
def i_bbr_within_1 : IC2 RW := .loop i_bbr_within_0
def i_bbr_within_2 : IC2 RW := .blk 0 i_bbr_within_1
def g_bbr_within_1 : List (IStep2 RW) := [o1 7 (.mv false (.s 1)),
  o1 8 (.len false (.s 7)),
  o1 9 (.mv false (.k (.sc (.int .i64 0))))]
def i_bbr_within_3 : IC2 RW := .seq (.fin (.reg g_bbr_within_1) [1] []) i_bbr_within_2
def g_bbr_within_7 : List (IStep2 RW) := [o1 4 (.mv false (.k (.sc (.bool true))))]
def i_bbr_within_4 : IC2 RW := .seq (.reg g_bbr_within_7) (.ret)
def i_bbr_within_5 : IC2 RW := .seq i_bbr_within_3 i_bbr_within_4
def g_bbr_within_0 : List (IStep2 RW) := [o1 4 (.mv false (.k (.sc (.bool false))))]
def i_bbr_within_6 : IC2 RW := .seq (.fin (.reg g_bbr_within_0) [4] []) i_bbr_within_5
def fn_bbr_within : IFn2 RW := ⟨54, 2, 21, 32, [], [], [.slot 4], i_bbr_within_6⟩
def g_filter_may_0 : List (IStep2 RW) := [o1 1 (.box 21 2 false (.s 0)),
  o1 2 (.mv false (.k (.sc (.bool false))))]
def g_filter_may_1 : List (IStep2 RW) := [o1 3 (.fld 0 (.s 1)),
  o1 4 (.load 21 0 1 false false 3),
  o1 5 (.bin .geq (.s 4) (.k (.sc (.int .i64 0)))),
  o2 6 (.mv false (.s 5)),
  o3 7 6 true (.fld 0 (.s 1)),
  o3 8 6 true (.load 21 0 1 false false 7),
  o3 9 6 true (.bin .leq (.s 8) (.k (.sc (.int .i64 1125899906842624)))),
  o1 10 (.pick (.s 6) (.s 9) (.k (.sc (.bool false)))),
  o2 11 (.mv false (.s 10)),
  o3 12 11 true (.fld 1 (.s 1)),
  o3 13 11 true (.load 21 1 1 false false 12),
  o3 14 11 true (.bin .geq (.s 13) (.k (.sc (.int .i64 0)))),
  o1 15 (.pick (.s 11) (.s 14) (.k (.sc (.bool false)))),
  o2 16 (.mv false (.s 15)),
  o3 17 16 true (.fld 1 (.s 1)),
  o3 18 16 true (.load 21 1 1 false false 17),
  o3 19 16 true (.bin .leq (.s 18) (.k (.sc (.int .i64 1152921504606846976)))),
  o1 20 (.pick (.s 16) (.s 19) (.k (.sc (.bool false)))),
  o1 2 (.mv false (.s 20))]
def i_filter_may_0 : IC2 RW := .seq (.fin (.reg g_filter_may_0) [0, 2] []) (.seq (.fin (.reg g_filter_may_1) [1, 3, 4, 5, 6, 7, 8, 9, 10, 11, 12, 13, 14, 15, 16, 17, 18, 19, 20] [(21, 2)]) (.ret))
def fn_filter_may : IFn2 RW := ⟨92, 1, 21, 32, [(21, 2)], [], [.slot 2], i_filter_may_0⟩
def g_filter_beats_0 : List (IStep2 RW) := [o1 6 (.mv false (.k (.sc (.bool false))))]
def g_filter_beats_1 : List (IStep2 RW) := [o1 7 (.mv false (.s 2)),
  o2 8 (.mv false (.s 7)),
  o3 9 8 true (.mv false (.s 0)),
  o3 10 8 true (.mv false (.s 1)),
  o3 11 8 true (.bin .geq (.s 9) (.s 10)),
  o1 12 (.pick (.s 8) (.s 11) (.k (.sc (.bool false)))),
  o2 13 (.mv false (.s 12)),
  o3 14 13 false (.mv false (.s 2)),
  o3 15 13 false (.un .not (.s 14)),
  ⟨some 16, .mv false (.s 15), (some (13, false)), true⟩,
  o3 17 16 true (.mv false (.s 0)),
  o3 18 16 true (.mv false (.s 1)),
  o3 19 16 true (.bin .leq (.s 17) (.s 18)),
  o3 20 13 false (.pick (.s 16) (.s 19) (.k (.sc (.bool false)))),
  o1 21 (.pick (.s 13) (.k (.sc (.bool true))) (.s 20)),
  o1 6 (.mv false (.s 21))]
def i_filter_beats_0 : IC2 RW := .seq (.fin (.reg g_filter_beats_0) [6] []) (.seq (.fin (.reg g_filter_beats_1) [0, 1, 2, 7, 8, 9, 10, 11, 12, 13, 14, 15, 16, 17, 18, 19, 20, 21] []) (.ret))
def fn_filter_beats : IFn2 RW := ⟨93, 3, 22, 32, [], [], [.slot 6], i_filter_beats_0⟩
def g_filter_Check_2 : List (IStep2 RW) := [o1 10 (.bin .lss (.s 9) (.s 8))]
def g_filter_Check_3 : List (IStep2 RW) := [o1 11 (.mv false (.s 9)),
  o1 12 (.idx 2 (.s 7) (.s 9)),
  o1 13 (.loade 2 true 12),
  o1 6 (.alloc 45 [.sc (.int .i64 0), .sc (.int .i64 0)]),
  o1 5 (.mv false (.s 11)),
  o0 (.store 45 0 2 false 6 (.s 13))]
def g_filter_Check_4 : List (IStep2 RW) := [o1 14 (.load 45 0 2 true false 6),
  o1 15 (.call 92 [(false, .s 14)] []),
  o1 16 (.un .not (.s 15)),
  o2 17 (.mv false (.s 16)),
  o3 18 17 false (.mv false (.s 5)),
  o3 19 17 false (.bin .gtr (.s 18) (.k (.sc (.int .i64 0)))),
  ⟨some 20, .mv false (.s 19), (some (17, false)), true⟩,
  o3 21 20 true (.mv false (.s 0)),
  o3 22 20 true (.mv false (.s 5)),
  o3 23 20 true (.bin .sub (.s 22) (.k (.sc (.int .i64 1)))),
  o3 24 20 true (.idx 2 (.s 21) (.s 23)),
  o3 25 20 true (.fld 0 (.s 24)),
  o3 26 20 true (.loade 1 false 25),
  o3 27 20 true (.fld 0 (.s 6)),
  o3 28 20 true (.load 45 0 1 false false 27),
  o3 29 20 true (.bin .geq (.s 26) (.s 28)),
  ⟨some 30, .mv false (.s 29), (some (20, true)), true⟩,
  o3 31 30 false (.fld 1 (.s 6)),
  o3 32 30 false (.load 45 1 1 false false 31),
  o3 33 30 false (.mv false (.s 0)),
  o3 34 30 false (.mv false (.s 5)),
  o3 35 30 false (.bin .sub (.s 34) (.k (.sc (.int .i64 1)))),
  o3 36 30 false (.idx 2 (.s 33) (.s 35)),
  o3 37 30 false (.fld 1 (.s 36)),
  o3 38 30 false (.loade 1 false 37),
  o3 39 30 false (.mv false (.s 1)),
  o3 40 30 false (.call 93 [(false, .s 32), (false, .s 38), (false, .s 39)] []),
  o3 41 20 true (.pick (.s 30) (.k (.sc (.bool true))) (.s 40)),
  o3 42 17 false (.pick (.s 20) (.s 41) (.k (.sc (.bool false)))),
  o1 43 (.pick (.s 17) (.k (.sc (.bool true))) (.s 42))]
def g_filter_Check_5 : List (IStep2 RW) := [o1 4 (.mv false (.k (.sc (.int .i64 2))))]
def g_filter_Check_6 : List (IStep2 RW) := [o1 44 (.bin .add (.s 9) (.k (.sc (.int .i64 1)))),
  o1 9 (.mv false (.s 44))]
def i_filter_Check_0 : IC2 RW := .seq (.reg g_filter_Check_2) (.seq (.fin (.cond (.s 10) (.skip) (.clr [0, 1, 7, 8, 9, 10] [] (.exit 0))) [10] []) (.seq (.blk 1 (.seq (.fin (.reg g_filter_Check_3) [11, 12, 13] []) (.seq (.fin (.reg g_filter_Check_4) [5, 6, 14, 15, 16, 17, 18, 19, 20, 21, 22, 23, 24, 25, 26, 27, 28, 29, 30, 31, 32, 33, 34, 35, 36, 37, 38, 39, 40, 41, 42] [(45, 2)]) (.fin (.cond (.s 43) (.seq (.fin (.reg g_filter_Check_5) [0, 1, 7, 8, 9, 43] []) (.ret)) (.skip)) [43] [])))) (.fin (.reg g_filter_Check_6) [44] [])))
def i_filter_Check_1 : IC2 RW := .loop i_filter_Check_0
def i_filter_Check_2 : IC2 RW := .blk 0 i_filter_Check_1
def g_filter_Check_1 : List (IStep2 RW) := [o1 7 (.mv false (.s 0)),
  o1 8 (.len false (.s 7)),
  o1 9 (.mv false (.k (.sc (.int .i64 0))))]
def i_filter_Check_3 : IC2 RW := .seq (.reg g_filter_Check_1) i_filter_Check_2
def g_filter_Check_7 : List (IStep2 RW) := [o1 4 (.mv false (.k (.sc (.int .i64 0))))]
def i_filter_Check_4 : IC2 RW := .seq (.reg g_filter_Check_7) (.ret)
def i_filter_Check_5 : IC2 RW := .seq i_filter_Check_3 i_filter_Check_4
def g_filter_Check_0 : List (IStep2 RW) := [o1 4 (.mv false (.k (.sc (.int .i64 0))))]
def i_filter_Check_6 : IC2 RW := .seq (.fin (.reg g_filter_Check_0) [4] []) i_filter_Check_5
def fn_filter_Check : IFn2 RW := ⟨76, 2, 45, 48, [(45, 2)], [], [.slot 4], i_filter_Check_6⟩
def g_bbr_ctl_entries_4 : List (IStep2 RW) := [o1 19 (.bin .lss (.s 18) (.s 17))]
def g_bbr_ctl_entries_5 : List (IStep2 RW) := [o1 20 (.idx 2 (.s 16) (.s 18)),
  o1 21 (.loade 2 true 20),
  o1 4 (.alloc 59 [.sc (.int .i64 0), .sc (.int .i64 0)]),
  o0 (.store 59 0 2 false 4 (.s 21))]
def g_bbr_ctl_entries_6 : List (IStep2 RW) := [o1 22 (.fld 1 (.s 4)),
  o1 23 (.load 59 1 1 false false 22),
  o1 24 (.bin .gtr (.s 23) (.k (.sc (.int .i64 1099511627776)))),
  o2 25 (.mv false (.s 24)),
  o3 26 25 false (.fld 0 (.s 4)),
  o3 27 25 false (.load 59 0 1 false false 26),
  o3 28 25 false (.mv false (.s 0)),
  o3 29 25 false (.nil (.s 28)),
  o3 30 25 false (.fld 0 (.s 29)),
  o3 31 25 false (.fld 14 (.s 30)),
  o3 32 25 false (.load 36 14 1 false false 31),
  o3 33 25 false (.bin .gtr (.s 27) (.s 32)),
  o1 34 (.pick (.s 25) (.k (.sc (.bool true))) (.s 33))]
def g_bbr_ctl_entries_7 : List (IStep2 RW) := [o1 2 (.mv false (.k (.sc (.bool false))))]
def g_bbr_ctl_entries_8 : List (IStep2 RW) := [o1 35 (.bin .add (.s 18) (.k (.sc (.int .i64 1)))),
  o1 18 (.mv false (.s 35))]
def i_bbr_ctl_entries_0 : IC2 RW := .seq (.reg g_bbr_ctl_entries_4) (.seq (.fin (.cond (.s 19) (.skip) (.clr [0, 16, 17, 18, 19] [] (.exit 0))) [19] []) (.seq (.blk 1 (.seq (.fin (.reg g_bbr_ctl_entries_5) [20, 21] []) (.seq (.fin (.reg g_bbr_ctl_entries_6) [4, 22, 23, 24, 25, 26, 27, 28, 29, 30, 31, 32, 33] [(59, 2)]) (.fin (.cond (.s 34) (.seq (.fin (.reg g_bbr_ctl_entries_7) [0, 16, 17, 18, 34] []) (.ret)) (.skip)) [34] [])))) (.fin (.reg g_bbr_ctl_entries_8) [35] [])))
def i_bbr_ctl_entries_1 : IC2 RW := .loop i_bbr_ctl_entries_0
def i_bbr_ctl_entries_2 : IC2 RW := .blk 0 i_bbr_ctl_entries_1
def g_bbr_ctl_entries_3 : List (IStep2 RW) := [o1 12 (.mv false (.s 0)),
  o1 13 (.nil (.s 12)),
  o1 14 (.fld 0 (.s 13)),
  o1 15 (.fld 11 (.s 14)),
  o1 16 (.load 36 11 1 false false 15),
  o1 17 (.len false (.s 16)),
  o1 18 (.mv false (.k (.sc (.int .i64 0))))]
def i_bbr_ctl_entries_3 : IC2 RW := .seq (.fin (.reg g_bbr_ctl_entries_3) [12, 13, 14, 15] []) i_bbr_ctl_entries_2
def g_bbr_ctl_entries_9 : List (IStep2 RW) := [o1 2 (.mv false (.k (.sc (.bool true))))]
def i_bbr_ctl_entries_4 : IC2 RW := .seq (.reg g_bbr_ctl_entries_9) (.ret)
def i_bbr_ctl_entries_5 : IC2 RW := .seq i_bbr_ctl_entries_3 i_bbr_ctl_entries_4
def g_bbr_ctl_entries_0 : List (IStep2 RW) := [o1 2 (.mv false (.k (.sc (.bool false))))]
def g_bbr_ctl_entries_1 : List (IStep2 RW) := [o1 5 (.mv false (.s 0)),
  o1 6 (.nil (.s 5)),
  o1 7 (.fld 0 (.s 6)),
  o1 8 (.fld 11 (.s 7)),
  o1 9 (.load 36 11 1 false false 8),
  o1 10 (.call 76 [(false, .s 9), (false, .k (.sc (.bool true)))] []),
  o1 11 (.bin .neq (.s 10) (.k (.sc (.int .i64 0))))]
def g_bbr_ctl_entries_2 : List (IStep2 RW) := [o1 2 (.mv false (.k (.sc (.bool false))))]
def i_bbr_ctl_entries_6 : IC2 RW := .seq (.fin (.reg g_bbr_ctl_entries_0) [2] []) (.seq (.seq (.fin (.reg g_bbr_ctl_entries_1) [5, 6, 7, 8, 9, 10] []) (.fin (.cond (.s 11) (.seq (.fin (.reg g_bbr_ctl_entries_2) [0, 11] []) (.ret)) (.skip)) [11] [])) i_bbr_ctl_entries_5)
def fn_bbr_ctl_entries : IFn2 RW := ⟨55, 1, 36, 64, [(36, 22), (59, 2)], [(36, 22)], [.slot 2], i_bbr_ctl_entries_6⟩
def g_bbr_Check_6 : List (IStep2 RW) := [o1 174 (.mv false (.s 4)),
  o1 175 (.un .not (.s 174)),
  o2 176 (.mv false (.s 175)),
  o3 177 176 false (.mv false (.s 5)),
  o3 178 176 false (.un .not (.s 177)),
  o1 179 (.pick (.s 176) (.k (.sc (.bool true))) (.s 178)),
  o2 180 (.mv false (.s 179)),
  o3 181 180 false (.mv false (.s 6)),
  o3 182 180 false (.un .not (.s 181)),
  o1 183 (.pick (.s 180) (.k (.sc (.bool true))) (.s 182)),
  o2 184 (.mv false (.s 183)),
  o3 185 184 false (.mv false (.s 7)),
  o3 186 184 false (.un .not (.s 185)),
  o1 187 (.pick (.s 184) (.k (.sc (.bool true))) (.s 186)),
  o2 188 (.mv false (.s 187)),
  o3 189 188 false (.mv false (.s 3)),
  o3 190 188 false (.nil (.s 189)),
  o3 191 188 false (.fld 0 (.s 190)),
  o3 192 188 false (.fld 10 (.s 191)),
  o3 193 188 false (.load 232 10 1 false false 192),
  o3 194 188 false (.bin .lss (.s 193) (.k (.sc (.int .i64 1)))),
  o1 195 (.pick (.s 188) (.k (.sc (.bool true))) (.s 194)),
  o2 196 (.mv false (.s 195)),
  o3 197 196 false (.mv false (.s 3)),
  o3 198 196 false (.nil (.s 197)),
  o3 199 196 false (.fld 0 (.s 198)),
  o3 200 196 false (.fld 10 (.s 199)),
  o3 201 196 false (.load 232 10 1 false false 200),
  o3 202 196 false (.bin .gtr (.s 201) (.k (.sc (.int .i64 4)))),
  o1 203 (.pick (.s 196) (.k (.sc (.bool true))) (.s 202)),
  o2 204 (.mv false (.s 203)),
  o3 205 204 false (.mv false (.s 3)),
  o3 206 204 false (.call 1013 [(false, .s 205)] [(232, 22, 36)]),
  o3 207 204 false (.un .not (.s 206)),
  o1 208 (.pick (.s 204) (.k (.sc (.bool true))) (.s 207))]
def g_bbr_Check_7 : List (IStep2 RW) := [o1 2 (.mv false (.k (.sc (.int .i64 230))))]
def g_bbr_Check_8 : List (IStep2 RW) := [o1 2 (.mv false (.k (.sc (.int .i64 0))))]
def i_bbr_Check_0 : IC2 RW := .seq (.seq (.fin (.reg g_bbr_Check_6) [3, 4, 5, 6, 7, 174, 175, 176, 177, 178, 179, 180, 181, 182, 183, 184, 185, 186, 187, 188, 189, 190, 191, 192, 193, 194, 195, 196, 197, 198, 199, 200, 201, 202, 203, 204, 205, 206, 207] [(232, 22)]) (.fin (.cond (.s 208) (.seq (.fin (.reg g_bbr_Check_7) [208] []) (.ret)) (.skip)) [208] [])) (.seq (.reg g_bbr_Check_8) (.ret))
def g_bbr_Check_5 : List (IStep2 RW) := [o1 140 (.mv false (.s 3)),
  o1 141 (.nil (.s 140)),
  o1 142 (.fld 0 (.s 141)),
  o1 143 (.fld 16 (.s 142)),
  o1 144 (.load 232 16 1 false false 143),
  o1 145 (.bslice 3 1 [(0, 1, .s 144)]),
  o1 146 (.call 54 [(false, .k (.sc (.int .i64 1099511627776))), (false, .s 145)] []),
  o2 147 (.mv false (.s 146)),
  o3 148 147 true (.mv false (.s 3)),
  o3 149 147 true (.nil (.s 148)),
  o3 150 147 true (.fld 0 (.s 149)),
  o3 151 147 true (.fld 17 (.s 150)),
  o3 152 147 true (.load 232 17 1 false false 151),
  o3 153 147 true (.bslice 3 1 [(0, 1, .s 152)]),
  o3 154 147 true (.call 54 [(false, .k (.sc (.int .i64 3))), (false, .s 153)] []),
  o1 155 (.pick (.s 147) (.s 154) (.k (.sc (.bool false)))),
  o2 156 (.mv false (.s 155)),
  o3 157 156 true (.mv false (.s 3)),
  o3 158 156 true (.nil (.s 157)),
  o3 159 156 true (.fld 0 (.s 158)),
  o3 160 156 true (.fld 18 (.s 159)),
  o3 161 156 true (.load 232 18 1 false false 160),
  o3 162 156 true (.bslice 3 1 [(0, 1, .s 161)]),
  o3 163 156 true (.call 54 [(false, .k (.sc (.int .i64 7))), (false, .s 162)] []),
  o1 164 (.pick (.s 156) (.s 163) (.k (.sc (.bool false)))),
  o2 165 (.mv false (.s 164)),
  o3 166 165 true (.mv false (.s 3)),
  o3 167 165 true (.nil (.s 166)),
  o3 168 165 true (.fld 0 (.s 167)),
  o3 169 165 true (.fld 21 (.s 168)),
  o3 170 165 true (.load 232 21 1 false false 169),
  o3 171 165 true (.bslice 3 1 [(0, 1, .s 170)]),
  o3 172 165 true (.call 54 [(false, .k (.sc (.int .i64 1073741824))), (false, .s 171)] []),
  o1 173 (.pick (.s 165) (.s 172) (.k (.sc (.bool false)))),
  o1 7 (.mv false (.s 173))]
def i_bbr_Check_1 : IC2 RW := .seq (.fin (.reg g_bbr_Check_5) [140, 141, 142, 143, 144, 145, 146, 147, 148, 149, 150, 151, 152, 153, 154, 155, 156, 157, 158, 159, 160, 161, 162, 163, 164, 165, 166, 167, 168, 169, 170, 171, 172, 173] []) i_bbr_Check_0
def g_bbr_Check_4 : List (IStep2 RW) := [o1 108 (.mv false (.s 3)),
  o1 109 (.nil (.s 108)),
  o1 110 (.fld 0 (.s 109)),
  o1 111 (.fld 12 (.s 110)),
  o1 112 (.load 232 12 1 false false 111),
  o1 113 (.mv false (.s 3)),
  o1 114 (.nil (.s 113)),
  o1 115 (.fld 0 (.s 114)),
  o1 116 (.fld 13 (.s 115)),
  o1 117 (.load 232 13 1 false false 116),
  o1 118 (.mv false (.s 3)),
  o1 119 (.nil (.s 118)),
  o1 120 (.fld 0 (.s 119)),
  o1 121 (.fld 15 (.s 120)),
  o1 122 (.load 232 15 1 false false 121),
  o1 123 (.mv false (.s 3)),
  o1 124 (.nil (.s 123)),
  o1 125 (.fld 0 (.s 124)),
  o1 126 (.fld 19 (.s 125)),
  o1 127 (.load 232 19 1 false false 126),
  o1 128 (.mv false (.s 3)),
  o1 129 (.nil (.s 128)),
  o1 130 (.fld 0 (.s 129)),
  o1 131 (.fld 20 (.s 130)),
  o1 132 (.load 232 20 1 false false 131),
  o1 133 (.mv false (.s 3)),
  o1 134 (.nil (.s 133)),
  o1 135 (.fld 0 (.s 134)),
  o1 136 (.fld 14 (.s 135)),
  o1 137 (.load 232 14 1 false false 136),
  o1 138 (.bslice 3 6 [(0, 1, .s 112), (1, 1, .s 117), (2, 1, .s 122), (3, 1, .s 127), (4, 1, .s 132), (5, 1, .s 137)]),
  o1 139 (.call 54 [(false, .k (.sc (.int .i64 1125899906842624))), (false, .s 138)] []),
  o1 6 (.mv false (.s 139))]
def i_bbr_Check_2 : IC2 RW := .seq (.fin (.reg g_bbr_Check_4) [108, 109, 110, 111, 112, 113, 114, 115, 116, 117, 118, 119, 120, 121, 122, 123, 124, 125, 126, 127, 128, 129, 130, 131, 132, 133, 134, 135, 136, 137, 138, 139] []) i_bbr_Check_1
def g_bbr_Check_3 : List (IStep2 RW) := [o1 70 (.mv false (.s 3)),
  o1 71 (.nil (.s 70)),
  o1 72 (.fld 0 (.s 71)),
  o1 73 (.fld 5 (.s 72)),
  o1 74 (.load 232 5 1 false false 73),
  o1 75 (.bin .eql (.s 74) (.k (.sc (.int .i64 0)))),
  o2 76 (.mv false (.s 75)),
  o3 77 76 true (.mv false (.s 3)),
  o3 78 76 true (.nil (.s 77)),
  o3 79 76 true (.fld 0 (.s 78)),
  o3 80 76 true (.fld 6 (.s 79)),
  o3 81 76 true (.load 232 6 1 false false 80),
  o3 82 76 true (.bin .eql (.s 81) (.k (.sc (.int .i64 0)))),
  o1 83 (.pick (.s 76) (.s 82) (.k (.sc (.bool false)))),
  o2 84 (.mv false (.s 83)),
  o3 85 84 true (.mv false (.s 3)),
  o3 86 84 true (.nil (.s 85)),
  o3 87 84 true (.fld 0 (.s 86)),
  o3 88 84 true (.fld 7 (.s 87)),
  o3 89 84 true (.load 232 7 1 false false 88),
  o3 90 84 true (.bin .eql (.s 89) (.k (.sc (.int .i64 0)))),
  o1 91 (.pick (.s 84) (.s 90) (.k (.sc (.bool false)))),
  o2 92 (.mv false (.s 91)),
  o3 93 92 true (.mv false (.s 3)),
  o3 94 92 true (.nil (.s 93)),
  o3 95 92 true (.fld 0 (.s 94)),
  o3 96 92 true (.fld 8 (.s 95)),
  o3 97 92 true (.load 232 8 1 false false 96),
  o3 98 92 true (.bin .eql (.s 97) (.k (.sc (.int .i64 0)))),
  o1 99 (.pick (.s 92) (.s 98) (.k (.sc (.bool false)))),
  o2 100 (.mv false (.s 99)),
  o3 101 100 true (.mv false (.s 3)),
  o3 102 100 true (.nil (.s 101)),
  o3 103 100 true (.fld 0 (.s 102)),
  o3 104 100 true (.fld 9 (.s 103)),
  o3 105 100 true (.load 232 9 1 false false 104),
  o3 106 100 true (.bin .eql (.s 105) (.k (.sc (.int .i64 0)))),
  o1 107 (.pick (.s 100) (.s 106) (.k (.sc (.bool false)))),
  o1 5 (.mv false (.s 107))]
def i_bbr_Check_3 : IC2 RW := .seq (.fin (.reg g_bbr_Check_3) [70, 71, 72, 73, 74, 75, 76, 77, 78, 79, 80, 81, 82, 83, 84, 85, 86, 87, 88, 89, 90, 91, 92, 93, 94, 95, 96, 97, 98, 99, 100, 101, 102, 103, 104, 105, 106, 107] []) i_bbr_Check_2
def g_bbr_Check_2 : List (IStep2 RW) := [o1 11 (.mv false (.s 3)),
  o1 12 (.nil (.s 11)),
  o1 13 (.fld 0 (.s 12)),
  o1 14 (.fld 0 (.s 13)),
  o1 15 (.load 232 0 1 false false 14),
  o1 16 (.bin .eql (.s 15) (.k (.sc (.int .i64 3)))),
  o2 17 (.mv false (.s 16)),
  o3 18 17 true (.mv false (.s 3)),
  o3 19 17 true (.nil (.s 18)),
  o3 20 17 true (.fld 0 (.s 19)),
  o3 21 17 true (.fld 1 (.s 20)),
  o3 22 17 true (.load 232 1 1 false false 21),
  o3 23 17 true (.bin .geq (.s 22) (.k (.sc (.int .i64 1)))),
  o1 24 (.pick (.s 17) (.s 23) (.k (.sc (.bool false)))),
  o2 25 (.mv false (.s 24)),
  o3 26 25 true (.mv false (.s 3)),
  o3 27 25 true (.nil (.s 26)),
  o3 28 25 true (.fld 0 (.s 27)),
  o3 29 25 true (.fld 1 (.s 28)),
  o3 30 25 true (.load 232 1 1 false false 29),
  o3 31 25 true (.bin .leq (.s 30) (.k (.sc (.int .i64 65000)))),
  o1 32 (.pick (.s 25) (.s 31) (.k (.sc (.bool false)))),
  o2 33 (.mv false (.s 32)),
  o3 34 33 true (.mv false (.s 3)),
  o3 35 33 true (.nil (.s 34)),
  o3 36 33 true (.fld 0 (.s 35)),
  o3 37 33 true (.fld 2 (.s 36)),
  o3 38 33 true (.load 232 2 1 false false 37),
  o3 39 33 true (.mv false (.s 3)),
  o3 40 33 true (.nil (.s 39)),
  o3 41 33 true (.fld 0 (.s 40)),
  o3 42 33 true (.fld 1 (.s 41)),
  o3 43 33 true (.load 232 1 1 false false 42),
  o3 44 33 true (.bin .geq (.s 38) (.s 43)),
  o1 45 (.pick (.s 33) (.s 44) (.k (.sc (.bool false)))),
  o2 46 (.mv false (.s 45)),
  o3 47 46 true (.mv false (.s 3)),
  o3 48 46 true (.nil (.s 47)),
  o3 49 46 true (.fld 0 (.s 48)),
  o3 50 46 true (.fld 2 (.s 49)),
  o3 51 46 true (.load 232 2 1 false false 50),
  o3 52 46 true (.bin .leq (.s 51) (.k (.sc (.int .i64 1073741824)))),
  o1 53 (.pick (.s 46) (.s 52) (.k (.sc (.bool false)))),
  o2 54 (.mv false (.s 53)),
  o3 55 54 true (.mv false (.s 3)),
  o3 56 54 true (.nil (.s 55)),
  o3 57 54 true (.fld 0 (.s 56)),
  o3 58 54 true (.fld 3 (.s 57)),
  o3 59 54 true (.load 232 3 1 false false 58),
  o3 60 54 true (.bin .eql (.s 59) (.k (.sc (.int .i64 1073741824)))),
  o1 61 (.pick (.s 54) (.s 60) (.k (.sc (.bool false)))),
  o2 62 (.mv false (.s 61)),
  o3 63 62 true (.mv false (.s 3)),
  o3 64 62 true (.nil (.s 63)),
  o3 65 62 true (.fld 0 (.s 64)),
  o3 66 62 true (.fld 4 (.s 65)),
  o3 67 62 true (.load 232 4 1 false false 66),
  o3 68 62 true (.bin .eql (.s 67) (.k (.sc (.int .i64 0)))),
  o1 69 (.pick (.s 62) (.s 68) (.k (.sc (.bool false)))),
  o1 4 (.mv false (.s 69))]
def i_bbr_Check_4 : IC2 RW := .seq (.fin (.reg g_bbr_Check_2) [11, 12, 13, 14, 15, 16, 17, 18, 19, 20, 21, 22, 23, 24, 25, 26, 27, 28, 29, 30, 31, 32, 33, 34, 35, 36, 37, 38, 39, 40, 41, 42, 43, 44, 45, 46, 47, 48, 49, 50, 51, 52, 53, 54, 55, 56, 57, 58, 59, 60, 61, 62, 63, 64, 65, 66, 67, 68, 69] []) i_bbr_Check_3
def g_bbr_Check_0 : List (IStep2 RW) := [o1 1 (.box 209 22 false (.s 0)),
  o1 2 (.mv false (.k (.sc (.int .i64 0))))]
def g_bbr_Check_1 : List (IStep2 RW) := [o1 8 (.load 209 0 22 true false 1),
  o1 9 (.build [.sc (.int .i64 0), .sc (.int .i64 0), .sc (.int .i64 0), .sc (.int .i64 0), .sc (.int .i64 0), .sc (.int .i64 0), .sc (.int .i64 0), .sc (.int .i64 0), .sc (.int .i64 0), .sc (.int .i64 0), .sc (.int .i64 0), .row false (.rEntry []), .sc (.int .i64 0), .sc (.int .i64 0), .sc (.int .i64 0), .sc (.int .i64 0), .sc (.int .i64 0), .sc (.int .i64 0), .sc (.int .i64 0), .sc (.int .i64 0), .sc (.int .i64 0), .sc (.int .i64 0)] [(0, 22, .s 8)]),
  o1 10 (.box 232 22 false (.s 9)),
  o1 3 (.mv false (.s 10))]
def i_bbr_Check_5 : IC2 RW := .seq (.fin (.reg g_bbr_Check_0) [0, 2] []) (.seq (.fin (.reg g_bbr_Check_1) [1, 8, 9, 10] [(209, 22)]) i_bbr_Check_4)
def fn_bbr_Check : IFn2 RW := ⟨30, 1, 209, 256, [(209, 22), (232, 22)], [], [.slot 2], i_bbr_Check_5⟩
def g_cc_Check_0 : List (IStep2 RW) := [o1 1 (.box 15 22 false (.s 0)),
  o1 2 (.mv false (.k (.sc (.int .i64 0))))]
def g_cc_Check_1 : List (IStep2 RW) := [o1 3 (.fld 0 (.s 1)),
  o1 4 (.load 15 0 1 false false 3)]
def g_cc_Check_2 : List (IStep2 RW) := [o1 6 (.bin .eql (.s 4) (.k (.sc (.int .i64 1)))),
  o1 5 (.mv false (.s 6))]
def g_cc_Check_3 : List (IStep2 RW) := [o1 7 (.load 15 0 22 true false 1),
  o1 8 (.call 28 [(false, .s 7)] []),
  o1 2 (.mv false (.s 8))]
def g_cc_Check_4 : List (IStep2 RW) := [o1 10 (.bin .eql (.s 4) (.k (.sc (.int .i64 2)))),
  o1 9 (.mv false (.s 10))]
def g_cc_Check_5 : List (IStep2 RW) := [o1 11 (.load 15 0 22 true false 1),
  o1 12 (.call 29 [(false, .s 11)] []),
  o1 2 (.mv false (.s 12))]
def g_cc_Check_6 : List (IStep2 RW) := [o1 13 (.load 15 0 22 true false 1),
  o1 14 (.call 30 [(false, .s 13)] []),
  o1 2 (.mv false (.s 14))]
def i_cc_Check_0 : IC2 RW := .seq (.fin (.reg g_cc_Check_0) [0, 2] []) (.seq (.seq (.fin (.reg g_cc_Check_1) [3] []) (.blk 0 (.seq (.fin (.reg g_cc_Check_2) [6] []) (.cond (.s 5) (.seq (.fin (.reg g_cc_Check_3) [1, 4, 5, 7, 8] [(15, 22)]) (.ret)) (.seq (.fin (.reg g_cc_Check_4) [4, 5, 10] []) (.fin (.cond (.s 9) (.seq (.fin (.reg g_cc_Check_5) [1, 9, 11, 12] [(15, 22)]) (.ret)) (.skip)) [9] [])))))) (.seq (.fin (.reg g_cc_Check_6) [1, 13, 14] [(15, 22)]) (.ret)))
def fn_cc_Check : IFn2 RW := ⟨10, 1, 15, 48, [(15, 22)], [], [.slot 2], i_cc_Check_0⟩
def g_cc_asked_0 : List (IStep2 RW) := [o1 2 (.box 13 22 false (.s 0)),
  o1 4 (.mv false (.k (.sc (.int .i64 0))))]
def g_cc_asked_1 : List (IStep2 RW) := [o1 6 (.load 13 0 22 true false 2),
  o1 7 (.call 10 [(false, .s 6)] []),
  o1 5 (.mv false (.s 7))]
def g_cc_asked_2 : List (IStep2 RW) := [o1 8 (.mv false (.s 5)),
  o1 9 (.bin .neq (.s 8) (.k (.sc (.int .i64 0))))]
def g_cc_asked_3 : List (IStep2 RW) := [o1 10 (.mv false (.s 5)),
  o1 4 (.mv false (.s 10))]
def g_cc_asked_4 : List (IStep2 RW) := [o1 11 (.mv false (.s 1)),
  o1 12 (.un .not (.s 11))]
def g_cc_asked_5 : List (IStep2 RW) := [o1 4 (.mv false (.k (.sc (.int .i64 2))))]
def g_cc_asked_6 : List (IStep2 RW) := [o1 4 (.mv false (.k (.sc (.int .i64 0))))]
def i_cc_asked_0 : IC2 RW := .seq (.fin (.reg g_cc_asked_0) [0, 4] []) (.seq (.seq (.fin (.reg g_cc_asked_1) [2, 6, 7] [(13, 22)]) (.seq (.fin (.reg g_cc_asked_2) [8] []) (.fin (.cond (.s 9) (.seq (.fin (.reg g_cc_asked_3) [1, 5, 9, 10] []) (.ret)) (.skip)) [5, 9] []))) (.seq (.seq (.fin (.reg g_cc_asked_4) [1, 11] []) (.fin (.cond (.s 12) (.seq (.fin (.reg g_cc_asked_5) [12] []) (.ret)) (.skip)) [12] [])) (.seq (.reg g_cc_asked_6) (.ret))))
def fn_cc_asked : IFn2 RW := ⟨31, 2, 13, 48, [(13, 22)], [], [.slot 4], i_cc_asked_0⟩
def g_cc_Rest_1 : List (IStep2 RW) := [o1 12 (.load 67 0 22 true false 4),
  o1 13 (.mv false (.s 1)),
  o1 14 (.call 32 [(false, .s 13)] []),
  o2 15 (.mv false (.s 14)),
  o3 16 15 true (.mv false (.s 2)),
  o3 17 15 true (.call 32 [(false, .s 16)] []),
  o1 18 (.pick (.s 15) (.s 17) (.k (.sc (.bool false)))),
  o2 19 (.mv false (.s 18)),
  o3 20 19 true (.mv false (.s 3)),
  o3 21 19 true (.call 33 [(false, .s 20)] []),
  o1 22 (.pick (.s 19) (.s 21) (.k (.sc (.bool false)))),
  o1 23 (.call 31 [(false, .s 12), (false, .s 22)] []),
  o1 10 (.mv false (.s 23))]
def i_cc_Rest_0 : IC2 RW := .fin (.reg g_cc_Rest_1) [12, 13, 14, 15, 16, 17, 18, 19, 20, 21, 22, 23] []
def g_cc_Rest_2 : List (IStep2 RW) := [o1 24 (.mv false (.s 10)),
  o1 25 (.bin .neq (.s 24) (.k (.sc (.int .i64 0))))]
def g_cc_Rest_3 : List (IStep2 RW) := [o1 26 (.build [.sc (.int .i64 0), .sc (.int .i64 0), .sc (.int .i64 0), .sc (.int .i64 0), .sc (.int .i64 0), .sc (.int .i64 0), .sc (.int .i64 0), .sc (.int .i64 0), .sc (.int .i64 0), .sc (.int .i64 0), .sc (.int .i64 0), .row false (.rEntry []), .sc (.int .i64 0), .sc (.int .i64 0), .sc (.int .i64 0), .sc (.int .i64 0), .sc (.int .i64 0), .sc (.int .i64 0), .sc (.int .i64 0), .sc (.int .i64 0), .sc (.int .i64 0), .sc (.int .i64 0)] []),
  o1 27 (.mv false (.s 10)),
  o0 (.store 90 0 22 false 8 (.s 26)),
  o1 9 (.mv false (.s 27))]
def i_cc_Rest_1 : IC2 RW := .seq (.fin (.reg g_cc_Rest_2) [24] []) (.fin (.cond (.s 25) (.seq (.fin (.reg g_cc_Rest_3) [1, 2, 3, 4, 10, 25, 26, 27] [(67, 22)]) (.ret)) (.skip)) [10, 25] [])
def i_cc_Rest_2 : IC2 RW := .seq i_cc_Rest_0 i_cc_Rest_1
def g_cc_Rest_4 : List (IStep2 RW) := [o1 28 (.fld 0 (.s 4)),
  o1 29 (.load 67 0 1 false false 28),
  o1 30 (.bin .eql (.s 29) (.k (.sc (.int .i64 3)))),
  o2 31 (.mv false (.s 30)),
  o3 32 31 false (.mv false (.s 2)),
  o3 33 31 false (.bin .eql (.s 32) (.k (.sc (.int .i64 0)))),
  o1 34 (.pick (.s 31) (.k (.sc (.bool true))) (.s 33)),
  o2 35 (.mv false (.s 34)),
  o3 36 35 false (.mv false (.s 1)),
  o3 37 35 false (.mv false (.s 2)),
  o3 38 35 false (.bin .leq (.s 36) (.s 37)),
  o1 39 (.pick (.s 35) (.k (.sc (.bool true))) (.s 38))]
def g_cc_Rest_5 : List (IStep2 RW) := [o1 40 (.load 67 0 22 true false 4),
  o0 (.store 90 0 22 false 8 (.s 40)),
  o1 9 (.mv false (.k (.sc (.int .i64 0))))]
def g_cc_Rest_6 : List (IStep2 RW) := [o1 41 (.fld 3 (.s 4)),
  o1 42 (.load 67 3 1 false false 41),
  o1 43 (.fld 2 (.s 4)),
  o1 44 (.load 67 2 1 false false 43),
  o1 45 (.bin .mul (.k (.sc (.int .i64 3))) (.s 44)),
  o1 46 (.bin .quo (.s 45) (.k (.sc (.int .i64 4)))),
  o1 47 (.mnmx true [.s 42, .s 46]),
  o1 48 (.fld 3 (.s 4)),
  o0 (.store 67 3 1 false 48 (.s 47))]
def g_cc_Rest_7 : List (IStep2 RW) := [o1 49 (.fld 2 (.s 4)),
  o1 50 (.load 67 2 1 false false 49),
  o1 51 (.mv false (.s 1)),
  o1 52 (.mv false (.s 2)),
  o1 53 (.bin .quo (.s 51) (.s 52)),
  o1 54 (.mnmx false [.k (.sc (.int .i64 20)), .s 53]),
  o1 55 (.bin .shr (.s 50) (.s 54)),
  o1 11 (.mv false (.s 55))]
def g_cc_Rest_8 : List (IStep2 RW) := [o1 56 (.fld 2 (.s 4)),
  o1 57 (.load 67 2 1 false false 56),
  o1 58 (.mv false (.s 11)),
  o1 59 (.mv false (.s 3)),
  o1 60 (.fld 1 (.s 4)),
  o1 61 (.load 67 1 1 false false 60),
  o1 62 (.bin .mul (.k (.sc (.int .i64 2))) (.s 61)),
  o1 63 (.mnmx true [.s 58, .s 59, .s 62]),
  o1 64 (.mnmx false [.s 57, .s 63]),
  o1 65 (.fld 2 (.s 4)),
  o0 (.store 67 2 1 false 65 (.s 64))]
def g_cc_Rest_9 : List (IStep2 RW) := [o1 66 (.load 67 0 22 true false 4),
  o0 (.store 90 0 22 false 8 (.s 66)),
  o1 9 (.mv false (.k (.sc (.int .i64 0))))]
def i_cc_Rest_3 : IC2 RW := .seq (.seq (.fin (.reg g_cc_Rest_4) [28, 29, 30, 31, 32, 33, 34, 35, 36, 37, 38] []) (.fin (.cond (.s 39) (.seq (.fin (.reg g_cc_Rest_5) [1, 2, 3, 4, 39, 40] [(67, 22)]) (.ret)) (.skip)) [39] [])) (.seq (.fin (.reg g_cc_Rest_6) [41, 42, 43, 44, 45, 46, 47, 48] []) (.seq (.fin (.reg g_cc_Rest_7) [1, 2, 49, 50, 51, 52, 53, 54, 55] []) (.seq (.fin (.reg g_cc_Rest_8) [3, 11, 56, 57, 58, 59, 60, 61, 62, 63, 64, 65] []) (.seq (.fin (.reg g_cc_Rest_9) [4, 66] [(67, 22)]) (.ret)))))
def i_cc_Rest_4 : IC2 RW := .seq i_cc_Rest_2 i_cc_Rest_3
def g_cc_Rest_0 : List (IStep2 RW) := [o1 4 (.box 67 22 false (.s 0)),
  o1 8 (.alloc 90 [.sc (.int .i64 0), .sc (.int .i64 0), .sc (.int .i64 0), .sc (.int .i64 0), .sc (.int .i64 0), .sc (.int .i64 0), .sc (.int .i64 0), .sc (.int .i64 0), .sc (.int .i64 0), .sc (.int .i64 0), .sc (.int .i64 0), .row false (.rEntry []), .sc (.int .i64 0), .sc (.int .i64 0), .sc (.int .i64 0), .sc (.int .i64 0), .sc (.int .i64 0), .sc (.int .i64 0), .sc (.int .i64 0), .sc (.int .i64 0), .sc (.int .i64 0), .sc (.int .i64 0)]),
  o1 9 (.mv false (.k (.sc (.int .i64 0))))]
def i_cc_Rest_5 : IC2 RW := .seq (.fin (.reg g_cc_Rest_0) [0, 9] []) i_cc_Rest_4
def fn_cc_Rest : IFn2 RW := ⟨12, 4, 67, 128, [(67, 22), (90, 22)], [], [.cell 8 90 22 true, .slot 9], i_cc_Rest_5⟩
def g_reno_New_0 : List (IStep2 RW) := [o1 4 (.alloc 26 [.sc (.int .i64 0), .sc (.int .i64 0), .sc (.int .i64 0), .sc (.int .i64 0), .sc (.int .i64 0), .sc (.int .i64 0), .sc (.int .i64 0), .sc (.int .i64 0), .sc (.int .i64 0), .sc (.int .i64 0), .sc (.int .i64 0), .row false (.rEntry []), .sc (.int .i64 0), .sc (.int .i64 0), .sc (.int .i64 0), .sc (.int .i64 0), .sc (.int .i64 0), .sc (.int .i64 0), .sc (.int .i64 0), .sc (.int .i64 0), .sc (.int .i64 0), .sc (.int .i64 0)]),
  o1 5 (.mv false (.k (.sc (.int .i64 0))))]
def g_reno_New_1 : List (IStep2 RW) := [o1 6 (.mv false (.s 0)),
  o1 7 (.bin .lss (.s 6) (.k (.sc (.int .i64 1)))),
  o2 8 (.mv false (.s 7)),
  o3 9 8 false (.mv false (.s 0)),
  o3 10 8 false (.bin .gtr (.s 9) (.k (.sc (.int .i64 65000)))),
  o1 11 (.pick (.s 8) (.k (.sc (.bool true))) (.s 10)),
  o2 12 (.mv false (.s 11)),
  o3 13 12 false (.mv false (.s 1)),
  o3 14 12 false (.bin .lss (.s 13) (.k (.sc (.int .i64 1)))),
  o1 15 (.pick (.s 12) (.k (.sc (.bool true))) (.s 14)),
  o2 16 (.mv false (.s 15)),
  o3 17 16 false (.mv false (.s 1)),
  o3 18 16 false (.bin .gtr (.s 17) (.k (.sc (.int .i64 100)))),
  o1 19 (.pick (.s 16) (.k (.sc (.bool true))) (.s 18))]
def g_reno_New_2 : List (IStep2 RW) := [o1 20 (.build [.sc (.int .i64 0), .sc (.int .i64 0), .sc (.int .i64 0), .sc (.int .i64 0), .sc (.int .i64 0), .sc (.int .i64 0), .sc (.int .i64 0), .sc (.int .i64 0), .sc (.int .i64 0), .sc (.int .i64 0), .sc (.int .i64 0), .row false (.rEntry []), .sc (.int .i64 0), .sc (.int .i64 0), .sc (.int .i64 0), .sc (.int .i64 0), .sc (.int .i64 0), .sc (.int .i64 0), .sc (.int .i64 0), .sc (.int .i64 0), .sc (.int .i64 0), .sc (.int .i64 0)] []),
  o0 (.store 26 0 22 false 4 (.s 20)),
  o1 5 (.mv false (.k (.sc (.int .i64 2))))]
def g_reno_New_3 : List (IStep2 RW) := [o1 21 (.mv false (.s 0)),
  o1 22 (.mv false (.s 0)),
  o1 23 (.mv false (.s 1)),
  o1 24 (.bin .mul (.s 22) (.s 23)),
  o1 25 (.build [.sc (.int .i64 0), .sc (.int .i64 0), .sc (.int .i64 0), .sc (.int .i64 0), .sc (.int .i64 0), .sc (.int .i64 0), .sc (.int .i64 0), .sc (.int .i64 0), .sc (.int .i64 0), .sc (.int .i64 0), .sc (.int .i64 0), .row false (.rEntry []), .sc (.int .i64 0), .sc (.int .i64 0), .sc (.int .i64 0), .sc (.int .i64 0), .sc (.int .i64 0), .sc (.int .i64 0), .sc (.int .i64 0), .sc (.int .i64 0), .sc (.int .i64 0), .sc (.int .i64 0)] [(0, 1, .k (.sc (.int .i64 1))), (1, 1, .s 21), (2, 1, .s 24), (3, 1, .k (.sc (.int .i64 1073741824)))]),
  o0 (.store 26 0 22 false 4 (.s 25)),
  o1 5 (.mv false (.k (.sc (.int .i64 0))))]
def i_reno_New_0 : IC2 RW := .seq (.fin (.reg g_reno_New_0) [5] []) (.seq (.seq (.fin (.reg g_reno_New_1) [6, 7, 8, 9, 10, 11, 12, 13, 14, 15, 16, 17, 18] []) (.fin (.cond (.s 19) (.seq (.fin (.reg g_reno_New_2) [0, 1, 19, 20] []) (.ret)) (.skip)) [19] [])) (.seq (.fin (.reg g_reno_New_3) [0, 1, 21, 22, 23, 24, 25] []) (.ret)))
def fn_reno_New : IFn2 RW := ⟨22, 2, 26, 64, [(26, 22)], [], [.cell 4 26 22 true, .slot 5], i_reno_New_0⟩
def g_cubic_New_0 : List (IStep2 RW) := [o1 4 (.alloc 20 [.sc (.int .i64 0), .sc (.int .i64 0), .sc (.int .i64 0), .sc (.int .i64 0), .sc (.int .i64 0), .sc (.int .i64 0), .sc (.int .i64 0), .sc (.int .i64 0), .sc (.int .i64 0), .sc (.int .i64 0), .sc (.int .i64 0), .row false (.rEntry []), .sc (.int .i64 0), .sc (.int .i64 0), .sc (.int .i64 0), .sc (.int .i64 0), .sc (.int .i64 0), .sc (.int .i64 0), .sc (.int .i64 0), .sc (.int .i64 0), .sc (.int .i64 0), .sc (.int .i64 0)]),
  o1 5 (.mv false (.k (.sc (.int .i64 0))))]
def g_cubic_New_1 : List (IStep2 RW) := [o1 9 (.mv false (.s 0)),
  o1 10 (.mv false (.s 1)),
  o1 11 (.call 22 [(false, .s 9), (false, .s 10)] []),
  o1 8 (.mv false (.s 11)),
  o1 12 (.ext false 0 (.s 8)),
  o1 13 (.ext false 1 (.s 8)),
  o1 6 (.alloc 43 [.sc (.int .i64 0), .sc (.int .i64 0), .sc (.int .i64 0), .sc (.int .i64 0), .sc (.int .i64 0), .sc (.int .i64 0), .sc (.int .i64 0), .sc (.int .i64 0), .sc (.int .i64 0), .sc (.int .i64 0), .sc (.int .i64 0), .row false (.rEntry []), .sc (.int .i64 0), .sc (.int .i64 0), .sc (.int .i64 0), .sc (.int .i64 0), .sc (.int .i64 0), .sc (.int .i64 0), .sc (.int .i64 0), .sc (.int .i64 0), .sc (.int .i64 0), .sc (.int .i64 0)]),
  o0 (.store 43 0 22 false 6 (.s 12)),
  o1 7 (.mv false (.s 13))]
def g_cubic_New_2 : List (IStep2 RW) := [o1 14 (.mv false (.s 7)),
  o1 15 (.bin .eql (.s 14) (.k (.sc (.int .i64 0))))]
def g_cubic_New_3 : List (IStep2 RW) := [o1 16 (.fld 0 (.s 6)),
  o0 (.store 43 0 1 false 16 (.k (.sc (.int .i64 2)))),
  o1 17 (.fld 6 (.s 6)),
  o0 (.store 43 6 1 false 17 (.k (.sc (.int .i64 (-1)))))]
def g_cubic_New_4 : List (IStep2 RW) := [o1 18 (.load 43 0 22 true false 6),
  o1 19 (.mv false (.s 7)),
  o0 (.store 20 0 22 false 4 (.s 18)),
  o1 5 (.mv false (.s 19))]
def i_cubic_New_0 : IC2 RW := .seq (.fin (.reg g_cubic_New_0) [5] []) (.seq (.fin (.reg g_cubic_New_1) [0, 1, 8, 9, 10, 11, 12, 13] []) (.seq (.seq (.fin (.reg g_cubic_New_2) [14] []) (.fin (.cond (.s 15) (.fin (.reg g_cubic_New_3) [15, 16, 17] []) (.skip)) [15] [])) (.seq (.fin (.reg g_cubic_New_4) [6, 7, 18, 19] [(43, 22)]) (.ret))))
def fn_cubic_New : IFn2 RW := ⟨23, 2, 20, 80, [(20, 22), (43, 22)], [], [.cell 4 20 22 true, .slot 5], i_cubic_New_0⟩
def g_bbr_New_0 : List (IStep2 RW) := [o1 4 (.alloc 20 [.sc (.int .i64 0), .sc (.int .i64 0), .sc (.int .i64 0), .sc (.int .i64 0), .sc (.int .i64 0), .sc (.int .i64 0), .sc (.int .i64 0), .sc (.int .i64 0), .sc (.int .i64 0), .sc (.int .i64 0), .sc (.int .i64 0), .row false (.rEntry []), .sc (.int .i64 0), .sc (.int .i64 0), .sc (.int .i64 0), .sc (.int .i64 0), .sc (.int .i64 0), .sc (.int .i64 0), .sc (.int .i64 0), .sc (.int .i64 0), .sc (.int .i64 0), .sc (.int .i64 0)]),
  o1 5 (.mv false (.k (.sc (.int .i64 0))))]
def g_bbr_New_1 : List (IStep2 RW) := [o1 9 (.mv false (.s 0)),
  o1 10 (.mv false (.s 1)),
  o1 11 (.call 22 [(false, .s 9), (false, .s 10)] []),
  o1 8 (.mv false (.s 11)),
  o1 12 (.ext false 0 (.s 8)),
  o1 13 (.ext false 1 (.s 8)),
  o1 6 (.alloc 43 [.sc (.int .i64 0), .sc (.int .i64 0), .sc (.int .i64 0), .sc (.int .i64 0), .sc (.int .i64 0), .sc (.int .i64 0), .sc (.int .i64 0), .sc (.int .i64 0), .sc (.int .i64 0), .sc (.int .i64 0), .sc (.int .i64 0), .row false (.rEntry []), .sc (.int .i64 0), .sc (.int .i64 0), .sc (.int .i64 0), .sc (.int .i64 0), .sc (.int .i64 0), .sc (.int .i64 0), .sc (.int .i64 0), .sc (.int .i64 0), .sc (.int .i64 0), .sc (.int .i64 0)]),
  o0 (.store 43 0 22 false 6 (.s 12)),
  o1 7 (.mv false (.s 13))]
def g_bbr_New_2 : List (IStep2 RW) := [o1 14 (.mv false (.s 7)),
  o1 15 (.bin .eql (.s 14) (.k (.sc (.int .i64 0))))]
def g_bbr_New_3 : List (IStep2 RW) := [o1 16 (.fld 0 (.s 6)),
  o0 (.store 43 0 1 false 16 (.k (.sc (.int .i64 3)))),
  o1 17 (.fld 10 (.s 6)),
  o0 (.store 43 10 1 false 17 (.k (.sc (.int .i64 1))))]
def g_bbr_New_4 : List (IStep2 RW) := [o1 18 (.load 43 0 22 true false 6),
  o1 19 (.mv false (.s 7)),
  o0 (.store 20 0 22 false 4 (.s 18)),
  o1 5 (.mv false (.s 19))]
def i_bbr_New_0 : IC2 RW := .seq (.fin (.reg g_bbr_New_0) [5] []) (.seq (.fin (.reg g_bbr_New_1) [0, 1, 8, 9, 10, 11, 12, 13] []) (.seq (.seq (.fin (.reg g_bbr_New_2) [14] []) (.fin (.cond (.s 15) (.fin (.reg g_bbr_New_3) [15, 16, 17] []) (.skip)) [15] [])) (.seq (.fin (.reg g_bbr_New_4) [6, 7, 18, 19] [(43, 22)]) (.ret))))
def fn_bbr_New : IFn2 RW := ⟨24, 2, 20, 80, [(20, 22), (43, 22)], [], [.cell 4 20 22 true, .slot 5], i_bbr_New_0⟩
def g_cc_New_0 : List (IStep2 RW) := [o1 6 (.alloc 31 [.sc (.int .i64 0), .sc (.int .i64 0), .sc (.int .i64 0), .sc (.int .i64 0), .sc (.int .i64 0), .sc (.int .i64 0), .sc (.int .i64 0), .sc (.int .i64 0), .sc (.int .i64 0), .sc (.int .i64 0), .sc (.int .i64 0), .row false (.rEntry []), .sc (.int .i64 0), .sc (.int .i64 0), .sc (.int .i64 0), .sc (.int .i64 0), .sc (.int .i64 0), .sc (.int .i64 0), .sc (.int .i64 0), .sc (.int .i64 0), .sc (.int .i64 0), .sc (.int .i64 0)]),
  o1 7 (.mv false (.k (.sc (.int .i64 0))))]
def g_cc_New_1 : List (IStep2 RW) := [o1 8 (.mv false (.s 0))]
def g_cc_New_2 : List (IStep2 RW) := [o1 10 (.bin .eql (.s 8) (.k (.sc (.int .i64 1)))),
  o1 9 (.mv false (.s 10))]
def g_cc_New_3 : List (IStep2 RW) := [o1 11 (.mv false (.s 1)),
  o1 12 (.mv false (.s 2)),
  o1 13 (.call 22 [(false, .s 11), (false, .s 12)] []),
  o1 14 (.ext false 0 (.s 13)),
  o1 15 (.ext false 1 (.s 13)),
  o0 (.store 31 0 22 false 6 (.s 14)),
  o1 7 (.mv false (.s 15))]
def g_cc_New_4 : List (IStep2 RW) := [o1 17 (.bin .eql (.s 8) (.k (.sc (.int .i64 2)))),
  o1 16 (.mv false (.s 17))]
def g_cc_New_5 : List (IStep2 RW) := [o1 18 (.mv false (.s 1)),
  o1 19 (.mv false (.s 2)),
  o1 20 (.call 23 [(false, .s 18), (false, .s 19)] []),
  o1 21 (.ext false 0 (.s 20)),
  o1 22 (.ext false 1 (.s 20)),
  o0 (.store 31 0 22 false 6 (.s 21)),
  o1 7 (.mv false (.s 22))]
def g_cc_New_6 : List (IStep2 RW) := [o1 24 (.bin .eql (.s 8) (.k (.sc (.int .i64 3)))),
  o1 23 (.mv false (.s 24))]
def g_cc_New_7 : List (IStep2 RW) := [o1 25 (.mv false (.s 1)),
  o1 26 (.mv false (.s 2)),
  o1 27 (.call 24 [(false, .s 25), (false, .s 26)] []),
  o1 28 (.ext false 0 (.s 27)),
  o1 29 (.ext false 1 (.s 27)),
  o0 (.store 31 0 22 false 6 (.s 28)),
  o1 7 (.mv false (.s 29))]
def g_cc_New_8 : List (IStep2 RW) := [o1 30 (.build [.sc (.int .i64 0), .sc (.int .i64 0), .sc (.int .i64 0), .sc (.int .i64 0), .sc (.int .i64 0), .sc (.int .i64 0), .sc (.int .i64 0), .sc (.int .i64 0), .sc (.int .i64 0), .sc (.int .i64 0), .sc (.int .i64 0), .row false (.rEntry []), .sc (.int .i64 0), .sc (.int .i64 0), .sc (.int .i64 0), .sc (.int .i64 0), .sc (.int .i64 0), .sc (.int .i64 0), .sc (.int .i64 0), .sc (.int .i64 0), .sc (.int .i64 0), .sc (.int .i64 0)] []),
  o0 (.store 31 0 22 false 6 (.s 30)),
  o1 7 (.mv false (.k (.sc (.int .i64 2))))]
def i_cc_New_0 : IC2 RW := .seq (.fin (.reg g_cc_New_0) [7] []) (.seq (.seq (.fin (.reg g_cc_New_1) [0] []) (.blk 0 (.seq (.fin (.reg g_cc_New_2) [10] []) (.cond (.s 9) (.seq (.fin (.reg g_cc_New_3) [1, 2, 8, 9, 11, 12, 13, 14, 15] []) (.ret)) (.seq (.fin (.reg g_cc_New_4) [9, 17] []) (.cond (.s 16) (.seq (.fin (.reg g_cc_New_5) [1, 2, 8, 16, 18, 19, 20, 21, 22] []) (.ret)) (.seq (.fin (.reg g_cc_New_6) [8, 16, 24] []) (.fin (.cond (.s 23) (.seq (.fin (.reg g_cc_New_7) [1, 2, 23, 25, 26, 27, 28, 29] []) (.ret)) (.skip)) [1, 2, 23] [])))))))) (.seq (.fin (.reg g_cc_New_8) [30] []) (.ret)))
def fn_cc_New : IFn2 RW := ⟨7, 3, 31, 64, [(31, 22)], [], [.cell 6 31 22 true, .slot 7], i_cc_New_0⟩
def g_bbr_Gain_0 : List (IStep2 RW) := [o1 1 (.box 32 22 false (.s 0)),
  o1 2 (.mv false (.k (.sc (.int .i64 0))))]
def g_bbr_Gain_1 : List (IStep2 RW) := [o1 3 (.load 32 0 22 true false 1),
  o1 4 (.call 30 [(false, .s 3)] []),
  o1 5 (.bin .neq (.s 4) (.k (.sc (.int .i64 0))))]
def g_bbr_Gain_2 : List (IStep2 RW) := [o1 2 (.mv false (.k (.sc (.int .i64 0))))]
def g_bbr_Gain_3 : List (IStep2 RW) := [o1 7 (.fld 10 (.s 1)),
  o1 8 (.load 32 10 1 false false 7),
  o1 9 (.bin .eql (.s 8) (.k (.sc (.int .i64 1)))),
  o1 6 (.mv false (.s 9))]
def g_bbr_Gain_4 : List (IStep2 RW) := [o1 2 (.mv false (.k (.sc (.int .i64 289))))]
def g_bbr_Gain_5 : List (IStep2 RW) := [o1 11 (.fld 10 (.s 1)),
  o1 12 (.load 32 10 1 false false 11),
  o1 13 (.bin .eql (.s 12) (.k (.sc (.int .i64 2)))),
  o1 10 (.mv false (.s 13))]
def g_bbr_Gain_6 : List (IStep2 RW) := [o1 2 (.mv false (.k (.sc (.int .i64 35))))]
def g_bbr_Gain_7 : List (IStep2 RW) := [o1 15 (.fld 10 (.s 1)),
  o1 16 (.load 32 10 1 false false 15),
  o1 17 (.bin .eql (.s 16) (.k (.sc (.int .i64 3)))),
  o2 18 (.mv false (.s 17)),
  o3 19 18 true (.fld 18 (.s 1)),
  o3 20 18 true (.load 32 18 1 false false 19),
  o3 21 18 true (.bin .eql (.s 20) (.k (.sc (.int .i64 0)))),
  o1 22 (.pick (.s 18) (.s 21) (.k (.sc (.bool false)))),
  o1 14 (.mv false (.s 22))]
def g_bbr_Gain_8 : List (IStep2 RW) := [o1 2 (.mv false (.k (.sc (.int .i64 125))))]
def g_bbr_Gain_9 : List (IStep2 RW) := [o1 24 (.fld 10 (.s 1)),
  o1 25 (.load 32 10 1 false false 24),
  o1 26 (.bin .eql (.s 25) (.k (.sc (.int .i64 3)))),
  o2 27 (.mv false (.s 26)),
  o3 28 27 true (.fld 18 (.s 1)),
  o3 29 27 true (.load 32 18 1 false false 28),
  o3 30 27 true (.bin .eql (.s 29) (.k (.sc (.int .i64 1)))),
  o1 31 (.pick (.s 27) (.s 30) (.k (.sc (.bool false)))),
  o1 23 (.mv false (.s 31))]
def g_bbr_Gain_10 : List (IStep2 RW) := [o1 2 (.mv false (.k (.sc (.int .i64 75))))]
def g_bbr_Gain_11 : List (IStep2 RW) := [o1 2 (.mv false (.k (.sc (.int .i64 100))))]
def i_bbr_Gain_0 : IC2 RW := .seq (.fin (.reg g_bbr_Gain_0) [0, 2] []) (.seq (.seq (.fin (.reg g_bbr_Gain_1) [3, 4] []) (.fin (.cond (.s 5) (.seq (.fin (.reg g_bbr_Gain_2) [1, 5] [(32, 22)]) (.ret)) (.skip)) [5] [])) (.seq (.blk 0 (.seq (.fin (.reg g_bbr_Gain_3) [7, 8, 9] []) (.cond (.s 6) (.seq (.fin (.reg g_bbr_Gain_4) [1, 6] [(32, 22)]) (.ret)) (.seq (.fin (.reg g_bbr_Gain_5) [6, 11, 12, 13] []) (.cond (.s 10) (.seq (.fin (.reg g_bbr_Gain_6) [1, 10] [(32, 22)]) (.ret)) (.seq (.fin (.reg g_bbr_Gain_7) [10, 15, 16, 17, 18, 19, 20, 21, 22] []) (.cond (.s 14) (.seq (.fin (.reg g_bbr_Gain_8) [1, 14] [(32, 22)]) (.ret)) (.seq (.fin (.reg g_bbr_Gain_9) [1, 14, 24, 25, 26, 27, 28, 29, 30, 31] [(32, 22)]) (.fin (.cond (.s 23) (.seq (.fin (.reg g_bbr_Gain_10) [23] []) (.ret)) (.skip)) [23] []))))))))) (.seq (.reg g_bbr_Gain_11) (.ret))))
def fn_bbr_Gain : IFn2 RW := ⟨37, 1, 32, 64, [(32, 22)], [], [.slot 2], i_bbr_Gain_0⟩
def g_filter_Best_0 : List (IStep2 RW) := [o1 2 (.mv false (.k (.sc (.int .i64 0)))),
  o1 3 (.mv false (.k (.sc (.bool false))))]
def g_filter_Best_1 : List (IStep2 RW) := [o1 4 (.mv false (.s 0)),
  o1 5 (.len false (.s 4)),
  o1 6 (.bin .eql (.s 5) (.k (.sc (.int .i64 0))))]
def g_filter_Best_2 : List (IStep2 RW) := [o1 2 (.mv false (.k (.sc (.int .i64 0)))),
  o1 3 (.mv false (.k (.sc (.bool false))))]
def g_filter_Best_3 : List (IStep2 RW) := [o1 7 (.mv false (.s 0)),
  o1 8 (.idx 2 (.s 7) (.k (.sc (.int .i64 0)))),
  o1 9 (.fld 1 (.s 8)),
  o1 10 (.loade 1 false 9),
  o1 2 (.mv false (.s 10)),
  o1 3 (.mv false (.k (.sc (.bool true))))]
def i_filter_Best_0 : IC2 RW := .seq (.fin (.reg g_filter_Best_0) [2, 3] []) (.seq (.seq (.fin (.reg g_filter_Best_1) [4, 5] []) (.fin (.cond (.s 6) (.seq (.fin (.reg g_filter_Best_2) [0, 6] []) (.ret)) (.skip)) [6] [])) (.seq (.fin (.reg g_filter_Best_3) [0, 7, 8, 9, 10] []) (.ret)))
def fn_filter_Best : IFn2 RW := ⟨81, 1, 11, 16, [], [], [.slot 2, .slot 3], i_filter_Best_0⟩
def g_bbr_ctl_bandwidth_0 : List (IStep2 RW) := [o1 2 (.mv false (.k (.sc (.int .i64 0))))]
def g_bbr_ctl_bandwidth_1 : List (IStep2 RW) := [o1 6 (.mv false (.s 0)),
  o1 7 (.nil (.s 6)),
  o1 8 (.fld 0 (.s 7)),
  o1 9 (.fld 11 (.s 8)),
  o1 10 (.load 15 11 1 false false 9),
  o1 11 (.call 81 [(false, .s 10)] []),
  o1 5 (.mv false (.s 11)),
  o1 12 (.ext false 0 (.s 5)),
  o1 13 (.ext false 1 (.s 5)),
  o1 3 (.mv false (.s 12)),
  o1 4 (.mv false (.s 13))]
def g_bbr_ctl_bandwidth_2 : List (IStep2 RW) := [o1 14 (.mv false (.s 3)),
  o1 2 (.mv false (.s 14))]
def i_bbr_ctl_bandwidth_0 : IC2 RW := .seq (.fin (.reg g_bbr_ctl_bandwidth_0) [2] []) (.seq (.fin (.reg g_bbr_ctl_bandwidth_1) [0, 4, 5, 6, 7, 8, 9, 10, 11, 12, 13] []) (.seq (.fin (.reg g_bbr_ctl_bandwidth_2) [3, 14] []) (.ret)))
def fn_bbr_ctl_bandwidth : IFn2 RW := ⟨59, 1, 15, 48, [(15, 22)], [(15, 22)], [.slot 2], i_bbr_ctl_bandwidth_0⟩
def g_bbr_Bandwidth_0 : List (IStep2 RW) := [o1 1 (.box 10 22 false (.s 0)),
  o1 2 (.mv false (.k (.sc (.int .i64 0))))]
def g_bbr_Bandwidth_1 : List (IStep2 RW) := [o1 3 (.load 10 0 22 true false 1),
  o1 4 (.call 30 [(false, .s 3)] []),
  o1 5 (.bin .neq (.s 4) (.k (.sc (.int .i64 0))))]
def g_bbr_Bandwidth_2 : List (IStep2 RW) := [o1 2 (.mv false (.k (.sc (.int .i64 0))))]
def g_bbr_Bandwidth_3 : List (IStep2 RW) := [o1 6 (.load 10 0 22 true false 1),
  o1 7 (.build [.sc (.int .i64 0), .sc (.int .i64 0), .sc (.int .i64 0), .sc (.int .i64 0), .sc (.int .i64 0), .sc (.int .i64 0), .sc (.int .i64 0), .sc (.int .i64 0), .sc (.int .i64 0), .sc (.int .i64 0), .sc (.int .i64 0), .row false (.rEntry []), .sc (.int .i64 0), .sc (.int .i64 0), .sc (.int .i64 0), .sc (.int .i64 0), .sc (.int .i64 0), .sc (.int .i64 0), .sc (.int .i64 0), .sc (.int .i64 0), .sc (.int .i64 0), .sc (.int .i64 0)] [(0, 22, .s 6)]),
  o1 8 (.box 33 22 false (.s 7)),
  o1 9 (.call 1025 [(false, .s 8)] [(33, 22, 15)]),
  o1 2 (.mv false (.s 9))]
def i_bbr_Bandwidth_0 : IC2 RW := .seq (.fin (.reg g_bbr_Bandwidth_0) [0, 2] []) (.seq (.seq (.fin (.reg g_bbr_Bandwidth_1) [3, 4] []) (.fin (.cond (.s 5) (.seq (.fin (.reg g_bbr_Bandwidth_2) [1, 5] [(10, 22)]) (.ret)) (.skip)) [5] [])) (.seq (.fin (.reg g_bbr_Bandwidth_3) [1, 6, 7, 8, 9] [(10, 22), (33, 22)]) (.ret)))
def fn_bbr_Bandwidth : IFn2 RW := ⟨38, 1, 10, 64, [(10, 22), (33, 22)], [], [.slot 2], i_bbr_Bandwidth_0⟩
def g_math_bits_Mul64_0 : List (IStep2 RW) := [o1 4 (.mv false (.k (.sc (.int .u64 0)))),
  o1 5 (.mv false (.k (.sc (.int .u64 0))))]
def g_math_bits_Mul64_1 : List (IStep2 RW) := [o1 14 (.mv false (.s 0)),
  o1 15 (.bin .and (.s 14) (.k (.sc (.int .u64 4294967295)))),
  o1 6 (.mv false (.s 15))]
def g_math_bits_Mul64_2 : List (IStep2 RW) := [o1 16 (.mv false (.s 0)),
  o1 17 (.bin .shr (.s 16) (.k (.sc (.int .u64 32)))),
  o1 7 (.mv false (.s 17))]
def g_math_bits_Mul64_3 : List (IStep2 RW) := [o1 18 (.mv false (.s 1)),
  o1 19 (.bin .and (.s 18) (.k (.sc (.int .u64 4294967295)))),
  o1 8 (.mv false (.s 19))]
def g_math_bits_Mul64_4 : List (IStep2 RW) := [o1 20 (.mv false (.s 1)),
  o1 21 (.bin .shr (.s 20) (.k (.sc (.int .u64 32)))),
  o1 9 (.mv false (.s 21))]
def g_math_bits_Mul64_5 : List (IStep2 RW) := [o1 22 (.mv false (.s 6)),
  o1 23 (.mv false (.s 8)),
  o1 24 (.bin .mul (.s 22) (.s 23)),
  o1 10 (.mv false (.s 24))]
def g_math_bits_Mul64_6 : List (IStep2 RW) := [o1 25 (.mv false (.s 7)),
  o1 26 (.mv false (.s 8)),
  o1 27 (.bin .mul (.s 25) (.s 26)),
  o1 28 (.mv false (.s 10)),
  o1 29 (.bin .shr (.s 28) (.k (.sc (.int .u64 32)))),
  o1 30 (.bin .add (.s 27) (.s 29)),
  o1 11 (.mv false (.s 30))]
def g_math_bits_Mul64_7 : List (IStep2 RW) := [o1 31 (.mv false (.s 11)),
  o1 32 (.bin .and (.s 31) (.k (.sc (.int .u64 4294967295)))),
  o1 12 (.mv false (.s 32))]
def g_math_bits_Mul64_8 : List (IStep2 RW) := [o1 33 (.mv false (.s 11)),
  o1 34 (.bin .shr (.s 33) (.k (.sc (.int .u64 32)))),
  o1 13 (.mv false (.s 34))]
def g_math_bits_Mul64_9 : List (IStep2 RW) := [o1 35 (.mv false (.s 12)),
  o1 36 (.mv false (.s 6)),
  o1 37 (.mv false (.s 9)),
  o1 38 (.bin .mul (.s 36) (.s 37)),
  o1 39 (.bin .add (.s 35) (.s 38)),
  o1 12 (.mv false (.s 39))]
def g_math_bits_Mul64_10 : List (IStep2 RW) := [o1 40 (.mv false (.s 7)),
  o1 41 (.mv false (.s 9)),
  o1 42 (.bin .mul (.s 40) (.s 41)),
  o1 43 (.mv false (.s 13)),
  o1 44 (.bin .add (.s 42) (.s 43)),
  o1 45 (.mv false (.s 12)),
  o1 46 (.bin .shr (.s 45) (.k (.sc (.int .u64 32)))),
  o1 47 (.bin .add (.s 44) (.s 46)),
  o1 4 (.mv false (.s 47))]
def g_math_bits_Mul64_11 : List (IStep2 RW) := [o1 48 (.mv false (.s 0)),
  o1 49 (.mv false (.s 1)),
  o1 50 (.bin .mul (.s 48) (.s 49)),
  o1 5 (.mv false (.s 50))]
def i_math_bits_Mul64_0 : IC2 RW := .seq (.fin (.reg g_math_bits_Mul64_0) [4, 5] []) (.seq (.fin (.reg g_math_bits_Mul64_1) [14, 15] []) (.seq (.fin (.reg g_math_bits_Mul64_2) [16, 17] []) (.seq (.fin (.reg g_math_bits_Mul64_3) [18, 19] []) (.seq (.fin (.reg g_math_bits_Mul64_4) [20, 21] []) (.seq (.fin (.reg g_math_bits_Mul64_5) [22, 23, 24] []) (.seq (.fin (.reg g_math_bits_Mul64_6) [8, 10, 25, 26, 27, 28, 29, 30] []) (.seq (.fin (.reg g_math_bits_Mul64_7) [31, 32] []) (.seq (.fin (.reg g_math_bits_Mul64_8) [11, 33, 34] []) (.seq (.fin (.reg g_math_bits_Mul64_9) [6, 35, 36, 37, 38, 39] []) (.seq (.fin (.reg g_math_bits_Mul64_10) [7, 9, 12, 13, 40, 41, 42, 43, 44, 45, 46, 47] []) (.seq (.fin (.reg g_math_bits_Mul64_11) [0, 1, 48, 49, 50] []) (.ret))))))))))))
def fn_math_bits_Mul64 : IFn2 RW := ⟨60, 2, 51, 64, [], [], [.slot 4, .slot 5], i_math_bits_Mul64_0⟩
def g_math_bits_Len64_0 : List (IStep2 RW) := [o1 2 (.mv false (.k (.sc (.int .i64 0))))]
def g_math_bits_Len64_1 : List (IStep2 RW) := [o1 3 (.mv false (.s 0)),
  o1 4 (.bin .geq (.s 3) (.k (.sc (.int .u64 4294967296))))]
def g_math_bits_Len64_2 : List (IStep2 RW) := [o1 5 (.mv false (.s 0)),
  o1 6 (.bin .shr (.s 5) (.k (.sc (.int .u64 32)))),
  o1 0 (.mv false (.s 6))]
def g_math_bits_Len64_3 : List (IStep2 RW) := [o1 2 (.mv false (.k (.sc (.int .i64 32))))]
def g_math_bits_Len64_4 : List (IStep2 RW) := [o1 7 (.mv false (.s 0)),
  o1 8 (.bin .geq (.s 7) (.k (.sc (.int .u64 65536))))]
def g_math_bits_Len64_5 : List (IStep2 RW) := [o1 9 (.mv false (.s 0)),
  o1 10 (.bin .shr (.s 9) (.k (.sc (.int .u64 16)))),
  o1 0 (.mv false (.s 10))]
def g_math_bits_Len64_6 : List (IStep2 RW) := [o1 11 (.mv false (.s 2)),
  o1 12 (.bin .add (.s 11) (.k (.sc (.int .i64 16)))),
  o1 2 (.mv false (.s 12))]
def g_math_bits_Len64_7 : List (IStep2 RW) := [o1 13 (.mv false (.s 0)),
  o1 14 (.bin .geq (.s 13) (.k (.sc (.int .u64 256))))]
def g_math_bits_Len64_8 : List (IStep2 RW) := [o1 15 (.mv false (.s 0)),
  o1 16 (.bin .shr (.s 15) (.k (.sc (.int .u64 8)))),
  o1 0 (.mv false (.s 16))]
def g_math_bits_Len64_9 : List (IStep2 RW) := [o1 17 (.mv false (.s 2)),
  o1 18 (.bin .add (.s 17) (.k (.sc (.int .i64 8)))),
  o1 2 (.mv false (.s 18))]
def g_math_bits_Len64_10 : List (IStep2 RW) := [o1 19 (.mv false (.s 2)),
  o1 20 (.mv false (.s 0)),
  o1 21 (.conv .u8 (.s 20)),
  o1 22 (.sidx (.k (.sc (.string tab256_2793))) (.s 21)),
  o1 23 (.conv .i64 (.s 22)),
  o1 24 (.bin .add (.s 19) (.s 23)),
  o1 2 (.mv false (.s 24))]
def i_math_bits_Len64_0 : IC2 RW := .seq (.reg g_math_bits_Len64_0) (.seq (.seq (.fin (.reg g_math_bits_Len64_1) [3] []) (.fin (.cond (.s 4) (.seq (.fin (.reg g_math_bits_Len64_2) [2, 4, 5, 6] []) (.reg g_math_bits_Len64_3)) (.skip)) [4] [])) (.seq (.seq (.fin (.reg g_math_bits_Len64_4) [7] []) (.fin (.cond (.s 8) (.seq (.fin (.reg g_math_bits_Len64_5) [8, 9, 10] []) (.fin (.reg g_math_bits_Len64_6) [11, 12] [])) (.skip)) [8] [])) (.seq (.seq (.fin (.reg g_math_bits_Len64_7) [13] []) (.fin (.cond (.s 14) (.seq (.fin (.reg g_math_bits_Len64_8) [14, 15, 16] []) (.fin (.reg g_math_bits_Len64_9) [17, 18] [])) (.skip)) [14] [])) (.seq (.fin (.reg g_math_bits_Len64_10) [0, 19, 20, 21, 22, 23, 24] []) (.ret)))))
def fn_math_bits_Len64 : IFn2 RW := ⟨96, 1, 25, 32, [], [], [.slot 2], i_math_bits_Len64_0⟩
def g_math_bits_LeadingZeros64_0 : List (IStep2 RW) := [o1 2 (.mv false (.k (.sc (.int .i64 0))))]
def g_math_bits_LeadingZeros64_1 : List (IStep2 RW) := [o1 3 (.mv false (.s 0)),
  o1 4 (.call 96 [(false, .s 3)] []),
  o1 5 (.bin .sub (.k (.sc (.int .i64 64))) (.s 4)),
  o1 2 (.mv false (.s 5))]
def i_math_bits_LeadingZeros64_0 : IC2 RW := .seq (.fin (.reg g_math_bits_LeadingZeros64_0) [2] []) (.seq (.fin (.reg g_math_bits_LeadingZeros64_1) [0, 3, 4, 5] []) (.ret))
def fn_math_bits_LeadingZeros64 : IFn2 RW := ⟨82, 1, 6, 16, [], [], [.slot 2], i_math_bits_LeadingZeros64_0⟩
def g_math_bits_Div64_17 : List (IStep2 RW) := [o1 67 (.mv false (.s 15)),
  o1 68 (.bin .geq (.s 67) (.k (.sc (.int .u64 4294967296)))),
  o2 69 (.mv false (.s 68)),
  o3 70 69 false (.mv false (.s 15)),
  o3 71 69 false (.mv false (.s 10)),
  o3 72 69 false (.bin .mul (.s 70) (.s 71)),
  o3 73 69 false (.mv false (.s 16)),
  o3 74 69 false (.bin .mul (.k (.sc (.int .u64 4294967296))) (.s 73)),
  o3 75 69 false (.mv false (.s 13)),
  o3 76 69 false (.bin .add (.s 74) (.s 75)),
  o3 77 69 false (.bin .gtr (.s 72) (.s 76)),
  o1 78 (.pick (.s 69) (.k (.sc (.bool true))) (.s 77))]
def g_math_bits_Div64_18 : List (IStep2 RW) := [o1 79 (.mv false (.s 15)),
  o1 80 (.bin .sub (.s 79) (.k (.sc (.int .u64 1)))),
  o1 15 (.mv false (.s 80))]
def g_math_bits_Div64_19 : List (IStep2 RW) := [o1 81 (.mv false (.s 16)),
  o1 82 (.mv false (.s 9)),
  o1 83 (.bin .add (.s 81) (.s 82)),
  o1 16 (.mv false (.s 83))]
def g_math_bits_Div64_20 : List (IStep2 RW) := [o1 84 (.mv false (.s 16)),
  o1 85 (.bin .geq (.s 84) (.k (.sc (.int .u64 4294967296))))]
def i_math_bits_Div64_0 : IC2 RW := .seq (.seq (.fin (.reg g_math_bits_Div64_17) [67, 68, 69, 70, 71, 72, 73, 74, 75, 76, 77] []) (.fin (.cond (.s 78) (.skip) (.clr [16, 78] [] (.exit 0))) [78] [])) (.blk 1 (.seq (.fin (.reg g_math_bits_Div64_18) [79, 80] []) (.seq (.fin (.reg g_math_bits_Div64_19) [81, 82, 83] []) (.seq (.fin (.reg g_math_bits_Div64_20) [84] []) (.fin (.cond (.s 85) (.clr [16, 85] [] (.exit 0)) (.skip)) [85] [])))))
def i_math_bits_Div64_1 : IC2 RW := .loop i_math_bits_Div64_0
def i_math_bits_Div64_2 : IC2 RW := .blk 0 i_math_bits_Div64_1
def g_math_bits_Div64_24 : List (IStep2 RW) := [o1 102 (.mv false (.s 18)),
  o1 103 (.bin .geq (.s 102) (.k (.sc (.int .u64 4294967296)))),
  o2 104 (.mv false (.s 103)),
  o3 105 104 false (.mv false (.s 18)),
  o3 106 104 false (.mv false (.s 10)),
  o3 107 104 false (.bin .mul (.s 105) (.s 106)),
  o3 108 104 false (.mv false (.s 16)),
  o3 109 104 false (.bin .mul (.k (.sc (.int .u64 4294967296))) (.s 108)),
  o3 110 104 false (.mv false (.s 14)),
  o3 111 104 false (.bin .add (.s 109) (.s 110)),
  o3 112 104 false (.bin .gtr (.s 107) (.s 111)),
  o1 113 (.pick (.s 104) (.k (.sc (.bool true))) (.s 112))]
def g_math_bits_Div64_25 : List (IStep2 RW) := [o1 114 (.mv false (.s 18)),
  o1 115 (.bin .sub (.s 114) (.k (.sc (.int .u64 1)))),
  o1 18 (.mv false (.s 115))]
def g_math_bits_Div64_26 : List (IStep2 RW) := [o1 116 (.mv false (.s 16)),
  o1 117 (.mv false (.s 9)),
  o1 118 (.bin .add (.s 116) (.s 117)),
  o1 16 (.mv false (.s 118))]
def g_math_bits_Div64_27 : List (IStep2 RW) := [o1 119 (.mv false (.s 16)),
  o1 120 (.bin .geq (.s 119) (.k (.sc (.int .u64 4294967296))))]
def i_math_bits_Div64_3 : IC2 RW := .seq (.seq (.fin (.reg g_math_bits_Div64_24) [102, 103, 104, 105, 106, 107, 108, 109, 110, 111, 112] []) (.fin (.cond (.s 113) (.skip) (.clr [9, 10, 16, 113] [] (.exit 2))) [113] [])) (.blk 3 (.seq (.fin (.reg g_math_bits_Div64_25) [114, 115] []) (.seq (.fin (.reg g_math_bits_Div64_26) [116, 117, 118] []) (.seq (.fin (.reg g_math_bits_Div64_27) [119] []) (.fin (.cond (.s 120) (.clr [9, 10, 16, 120] [] (.exit 2)) (.skip)) [120] [])))))
def i_math_bits_Div64_4 : IC2 RW := .loop i_math_bits_Div64_3
def i_math_bits_Div64_5 : IC2 RW := .blk 2 i_math_bits_Div64_4
def g_math_bits_Div64_28 : List (IStep2 RW) := [o1 121 (.mv false (.s 15)),
  o1 122 (.bin .mul (.s 121) (.k (.sc (.int .u64 4294967296)))),
  o1 123 (.mv false (.s 18)),
  o1 124 (.bin .add (.s 122) (.s 123)),
  o1 125 (.mv false (.s 17)),
  o1 126 (.bin .mul (.s 125) (.k (.sc (.int .u64 4294967296)))),
  o1 127 (.mv false (.s 14)),
  o1 128 (.bin .add (.s 126) (.s 127)),
  o1 129 (.mv false (.s 18)),
  o1 130 (.mv false (.s 2)),
  o1 131 (.bin .mul (.s 129) (.s 130)),
  o1 132 (.bin .sub (.s 128) (.s 131)),
  o1 133 (.mv false (.s 8)),
  o1 134 (.bin .shr (.s 132) (.s 133)),
  o1 6 (.mv false (.s 124)),
  o1 7 (.mv false (.s 134))]
def i_math_bits_Div64_6 : IC2 RW := .seq (.fin (.reg g_math_bits_Div64_28) [2, 8, 14, 15, 17, 18, 121, 122, 123, 124, 125, 126, 127, 128, 129, 130, 131, 132, 133, 134] []) (.ret)
def i_math_bits_Div64_7 : IC2 RW := .seq i_math_bits_Div64_5 i_math_bits_Div64_6
def g_math_bits_Div64_21 : List (IStep2 RW) := [o1 86 (.mv false (.s 11)),
  o1 87 (.bin .mul (.s 86) (.k (.sc (.int .u64 4294967296)))),
  o1 88 (.mv false (.s 13)),
  o1 89 (.bin .add (.s 87) (.s 88)),
  o1 90 (.mv false (.s 15)),
  o1 91 (.mv false (.s 2)),
  o1 92 (.bin .mul (.s 90) (.s 91)),
  o1 93 (.bin .sub (.s 89) (.s 92)),
  o1 17 (.mv false (.s 93))]
def g_math_bits_Div64_22 : List (IStep2 RW) := [o1 94 (.mv false (.s 17)),
  o1 95 (.mv false (.s 9)),
  o1 96 (.bin .quo (.s 94) (.s 95)),
  o1 18 (.mv false (.s 96))]
def g_math_bits_Div64_23 : List (IStep2 RW) := [o1 97 (.mv false (.s 17)),
  o1 98 (.mv false (.s 18)),
  o1 99 (.mv false (.s 9)),
  o1 100 (.bin .mul (.s 98) (.s 99)),
  o1 101 (.bin .sub (.s 97) (.s 100)),
  o1 16 (.mv false (.s 101))]
def i_math_bits_Div64_8 : IC2 RW := .seq (.fin (.reg g_math_bits_Div64_21) [11, 13, 86, 87, 88, 89, 90, 91, 92, 93] []) (.seq (.fin (.reg g_math_bits_Div64_22) [94, 95, 96] []) (.seq (.fin (.reg g_math_bits_Div64_23) [97, 98, 99, 100, 101] []) i_math_bits_Div64_7))
def i_math_bits_Div64_9 : IC2 RW := .seq i_math_bits_Div64_2 i_math_bits_Div64_8
def g_math_bits_Div64_0 : List (IStep2 RW) := [o1 6 (.mv false (.k (.sc (.int .u64 0)))),
  o1 7 (.mv false (.k (.sc (.int .u64 0))))]
def g_math_bits_Div64_1 : List (IStep2 RW) := [o1 19 (.mv false (.s 2)),
  o1 20 (.bin .eql (.s 19) (.k (.sc (.int .u64 0))))]
def g_math_bits_Div64_3 : List (IStep2 RW) := [o1 22 (.mv false (.s 2)),
  o1 23 (.mv false (.s 0)),
  o1 24 (.bin .leq (.s 22) (.s 23))]
def g_math_bits_Div64_5 : List (IStep2 RW) := [o1 26 (.mv false (.s 0)),
  o1 27 (.bin .eql (.s 26) (.k (.sc (.int .u64 0))))]
def g_math_bits_Div64_6 : List (IStep2 RW) := [o1 28 (.mv false (.s 1)),
  o1 29 (.mv false (.s 2)),
  o1 30 (.bin .quo (.s 28) (.s 29)),
  o1 31 (.mv false (.s 1)),
  o1 32 (.mv false (.s 2)),
  o1 33 (.bin .rem (.s 31) (.s 32)),
  o1 6 (.mv false (.s 30)),
  o1 7 (.mv false (.s 33))]
def g_math_bits_Div64_7 : List (IStep2 RW) := [o1 34 (.mv false (.s 2)),
  o1 35 (.call 82 [(false, .s 34)] []),
  o1 36 (.conv .u64 (.s 35)),
  o1 8 (.mv false (.s 36))]
def g_math_bits_Div64_8 : List (IStep2 RW) := [o1 37 (.mv false (.s 2)),
  o1 38 (.mv false (.s 8)),
  o1 39 (.bin .shl (.s 37) (.s 38)),
  o1 2 (.mv false (.s 39))]
def g_math_bits_Div64_9 : List (IStep2 RW) := [o1 40 (.mv false (.s 2)),
  o1 41 (.bin .shr (.s 40) (.k (.sc (.int .u64 32)))),
  o1 9 (.mv false (.s 41))]
def g_math_bits_Div64_10 : List (IStep2 RW) := [o1 42 (.mv false (.s 2)),
  o1 43 (.bin .and (.s 42) (.k (.sc (.int .u64 4294967295)))),
  o1 10 (.mv false (.s 43))]
def g_math_bits_Div64_11 : List (IStep2 RW) := [o1 44 (.mv false (.s 0)),
  o1 45 (.mv false (.s 8)),
  o1 46 (.bin .shl (.s 44) (.s 45)),
  o1 47 (.mv false (.s 1)),
  o1 48 (.mv false (.s 8)),
  o1 49 (.bin .sub (.k (.sc (.int .u64 64))) (.s 48)),
  o1 50 (.bin .shr (.s 47) (.s 49)),
  o1 51 (.bin .or (.s 46) (.s 50)),
  o1 11 (.mv false (.s 51))]
def g_math_bits_Div64_12 : List (IStep2 RW) := [o1 52 (.mv false (.s 1)),
  o1 53 (.mv false (.s 8)),
  o1 54 (.bin .shl (.s 52) (.s 53)),
  o1 12 (.mv false (.s 54))]
def g_math_bits_Div64_13 : List (IStep2 RW) := [o1 55 (.mv false (.s 12)),
  o1 56 (.bin .shr (.s 55) (.k (.sc (.int .u64 32)))),
  o1 13 (.mv false (.s 56))]
def g_math_bits_Div64_14 : List (IStep2 RW) := [o1 57 (.mv false (.s 12)),
  o1 58 (.bin .and (.s 57) (.k (.sc (.int .u64 4294967295)))),
  o1 14 (.mv false (.s 58))]
def g_math_bits_Div64_15 : List (IStep2 RW) := [o1 59 (.mv false (.s 11)),
  o1 60 (.mv false (.s 9)),
  o1 61 (.bin .quo (.s 59) (.s 60)),
  o1 15 (.mv false (.s 61))]
def g_math_bits_Div64_16 : List (IStep2 RW) := [o1 62 (.mv false (.s 11)),
  o1 63 (.mv false (.s 15)),
  o1 64 (.mv false (.s 9)),
  o1 65 (.bin .mul (.s 63) (.s 64)),
  o1 66 (.bin .sub (.s 62) (.s 65)),
  o1 16 (.mv false (.s 66))]
def i_math_bits_Div64_10 : IC2 RW := .seq (.fin (.reg g_math_bits_Div64_0) [6, 7] []) (.seq (.seq (.fin (.reg g_math_bits_Div64_1) [19] []) (.fin (.cond (.s 20) (.stuck) (.skip)) [20] [])) (.seq (.seq (.fin (.reg g_math_bits_Div64_3) [22, 23] []) (.fin (.cond (.s 24) (.stuck) (.skip)) [24] [])) (.seq (.seq (.fin (.reg g_math_bits_Div64_5) [26] []) (.fin (.cond (.s 27) (.seq (.fin (.reg g_math_bits_Div64_6) [0, 1, 2, 27, 28, 29, 30, 31, 32, 33] []) (.ret)) (.skip)) [27] [])) (.seq (.fin (.reg g_math_bits_Div64_7) [34, 35, 36] []) (.seq (.fin (.reg g_math_bits_Div64_8) [37, 38, 39] []) (.seq (.fin (.reg g_math_bits_Div64_9) [40, 41] []) (.seq (.fin (.reg g_math_bits_Div64_10) [42, 43] []) (.seq (.fin (.reg g_math_bits_Div64_11) [0, 44, 45, 46, 47, 48, 49, 50, 51] []) (.seq (.fin (.reg g_math_bits_Div64_12) [1, 52, 53, 54] []) (.seq (.fin (.reg g_math_bits_Div64_13) [55, 56] []) (.seq (.fin (.reg g_math_bits_Div64_14) [12, 57, 58] []) (.seq (.fin (.reg g_math_bits_Div64_15) [59, 60, 61] []) (.seq (.fin (.reg g_math_bits_Div64_16) [62, 63, 64, 65, 66] []) i_math_bits_Div64_9)))))))))))))
def fn_math_bits_Div64 : IFn2 RW := ⟨61, 3, 135, 144, [], [], [.slot 6, .slot 7], i_math_bits_Div64_10⟩
def g_seq_MulDiv_0 : List (IStep2 RW) := [o1 6 (.mv false (.k (.sc (.int .i64 0)))),
  o1 7 (.mv false (.k (.sc (.int .i64 0))))]
def g_seq_MulDiv_1 : List (IStep2 RW) := [o1 12 (.mv false (.s 0)),
  o1 13 (.bin .lss (.s 12) (.k (.sc (.int .i64 0)))),
  o2 14 (.mv false (.s 13)),
  o3 15 14 false (.mv false (.s 1)),
  o3 16 14 false (.bin .lss (.s 15) (.k (.sc (.int .i64 0)))),
  o1 17 (.pick (.s 14) (.k (.sc (.bool true))) (.s 16)),
  o2 18 (.mv false (.s 17)),
  o3 19 18 false (.mv false (.s 2)),
  o3 20 18 false (.bin .leq (.s 19) (.k (.sc (.int .i64 0)))),
  o1 21 (.pick (.s 18) (.k (.sc (.bool true))) (.s 20))]
def g_seq_MulDiv_2 : List (IStep2 RW) := [o1 6 (.mv false (.k (.sc (.int .i64 0)))),
  o1 7 (.mv false (.k (.sc (.int .i64 2))))]
def g_seq_MulDiv_3 : List (IStep2 RW) := [o1 23 (.mv false (.s 0)),
  o1 24 (.conv .u64 (.s 23)),
  o1 25 (.mv false (.s 1)),
  o1 26 (.conv .u64 (.s 25)),
  o1 27 (.call 60 [(false, .s 24), (false, .s 26)] []),
  o1 22 (.mv false (.s 27)),
  o1 28 (.ext false 0 (.s 22)),
  o1 29 (.ext false 1 (.s 22)),
  o1 8 (.mv false (.s 28)),
  o1 9 (.mv false (.s 29))]
def g_seq_MulDiv_4 : List (IStep2 RW) := [o1 30 (.mv false (.s 8)),
  o1 31 (.mv false (.s 2)),
  o1 32 (.conv .u64 (.s 31)),
  o1 33 (.bin .geq (.s 30) (.s 32))]
def g_seq_MulDiv_5 : List (IStep2 RW) := [o1 6 (.mv false (.k (.sc (.int .i64 9223372036854775807)))),
  o1 7 (.mv false (.k (.sc (.int .i64 0))))]
def g_seq_MulDiv_6 : List (IStep2 RW) := [o1 35 (.mv false (.s 8)),
  o1 36 (.mv false (.s 9)),
  o1 37 (.mv false (.s 2)),
  o1 38 (.conv .u64 (.s 37)),
  o1 39 (.call 61 [(false, .s 35), (false, .s 36), (false, .s 38)] []),
  o1 34 (.mv false (.s 39)),
  o1 40 (.ext false 0 (.s 34)),
  o1 41 (.ext false 1 (.s 34)),
  o1 10 (.mv false (.s 40)),
  o1 11 (.mv false (.s 41))]
def g_seq_MulDiv_7 : List (IStep2 RW) := [o1 42 (.mv false (.s 10)),
  o1 43 (.mnmx false [.s 42, .k (.sc (.int .u64 9223372036854775807))]),
  o1 44 (.conv .i64 (.s 43)),
  o1 6 (.mv false (.s 44)),
  o1 7 (.mv false (.k (.sc (.int .i64 0))))]
def i_seq_MulDiv_0 : IC2 RW := .seq (.fin (.reg g_seq_MulDiv_0) [6, 7] []) (.seq (.seq (.fin (.reg g_seq_MulDiv_1) [12, 13, 14, 15, 16, 17, 18, 19, 20] []) (.fin (.cond (.s 21) (.seq (.fin (.reg g_seq_MulDiv_2) [0, 1, 2, 21] []) (.ret)) (.skip)) [21] [])) (.seq (.fin (.reg g_seq_MulDiv_3) [0, 1, 22, 23, 24, 25, 26, 27, 28, 29] []) (.seq (.seq (.fin (.reg g_seq_MulDiv_4) [30, 31, 32] []) (.fin (.cond (.s 33) (.seq (.fin (.reg g_seq_MulDiv_5) [2, 8, 9, 33] []) (.ret)) (.skip)) [33] [])) (.seq (.fin (.reg g_seq_MulDiv_6) [2, 8, 9, 11, 34, 35, 36, 37, 38, 39, 40, 41] []) (.seq (.fin (.reg g_seq_MulDiv_7) [10, 42, 43, 44] []) (.ret))))))
def fn_seq_MulDiv : IFn2 RW := ⟨39, 3, 45, 48, [], [], [.slot 6, .slot 7], i_seq_MulDiv_0⟩
def g_cc_Pace_8 : List (IStep2 RW) := [o1 29 (.mv false (.s 8)),
  o1 30 (.bin .eql (.s 29) (.k (.sc (.int .i64 0))))]
def g_cc_Pace_9 : List (IStep2 RW) := [o1 31 (.mv false (.s 1)),
  o1 32 (.mnmx false [.s 31, .k (.sc (.int .i64 1125899906842624))]),
  o1 9 (.mv false (.s 32))]
def g_cc_Pace_10 : List (IStep2 RW) := [o1 33 (.mv false (.s 9)),
  o1 34 (.bin .lss (.s 33) (.k (.sc (.int .i64 1))))]
def g_cc_Pace_11 : List (IStep2 RW) := [o1 9 (.mv false (.k (.sc (.int .i64 1000))))]
def g_cc_Pace_12 : List (IStep2 RW) := [o1 36 (.fld 2 (.s 3)),
  o1 37 (.load 49 2 1 false false 36),
  o1 38 (.mv false (.s 7)),
  o1 39 (.bin .mul (.s 38) (.k (.sc (.int .i64 1000000)))),
  o1 40 (.mv false (.s 9)),
  o1 41 (.bin .mul (.k (.sc (.int .i64 100))) (.s 40)),
  o1 42 (.call 39 [(false, .s 37), (false, .s 39), (false, .s 41)] []),
  o1 35 (.mv false (.s 42)),
  o1 43 (.ext false 0 (.s 35)),
  o1 44 (.ext false 1 (.s 35)),
  o1 8 (.mv false (.s 43))]
def g_cc_Pace_13 : List (IStep2 RW) := [o1 45 (.mv false (.s 2)),
  o1 46 (.mv false (.s 8)),
  o1 47 (.mnmx true [.k (.sc (.int .i64 1)), .s 45, .s 46]),
  o1 48 (.mnmx false [.k (.sc (.int .i64 1099511627776)), .s 47]),
  o1 6 (.mv false (.s 48))]
def i_cc_Pace_0 : IC2 RW := .seq (.seq (.fin (.reg g_cc_Pace_8) [29] []) (.fin (.cond (.s 30) (.seq (.fin (.reg g_cc_Pace_9) [1, 8, 30, 31, 32] []) (.seq (.seq (.fin (.reg g_cc_Pace_10) [33] []) (.fin (.cond (.s 34) (.fin (.reg g_cc_Pace_11) [34] []) (.skip)) [34] [])) (.fin (.reg g_cc_Pace_12) [3, 7, 9, 35, 36, 37, 38, 39, 40, 41, 42, 43, 44] [(49, 22)]))) (.skip)) [1, 3, 7, 30] [(49, 22)])) (.seq (.fin (.reg g_cc_Pace_13) [2, 8, 45, 46, 47, 48] []) (.ret))
def g_cc_Pace_0 : List (IStep2 RW) := [o1 3 (.box 49 22 false (.s 0)),
  o1 6 (.mv false (.k (.sc (.int .i64 0))))]
def g_cc_Pace_1 : List (IStep2 RW) := [o1 10 (.load 49 0 22 true false 3),
  o1 11 (.call 10 [(false, .s 10)] []),
  o1 12 (.bin .neq (.s 11) (.k (.sc (.int .i64 0))))]
def g_cc_Pace_2 : List (IStep2 RW) := [o1 6 (.mv false (.k (.sc (.int .i64 0))))]
def g_cc_Pace_3 : List (IStep2 RW) := [o1 7 (.mv false (.k (.sc (.int .i64 120)))),
  o1 8 (.mv false (.k (.sc (.int .i64 0))))]
def g_cc_Pace_4 : List (IStep2 RW) := [o1 14 (.fld 0 (.s 3)),
  o1 15 (.load 49 0 1 false false 14),
  o1 16 (.bin .eql (.s 15) (.k (.sc (.int .i64 3)))),
  o1 13 (.mv false (.s 16))]
def g_cc_Pace_5 : List (IStep2 RW) := [o1 17 (.load 49 0 22 true false 3),
  o1 18 (.call 37 [(false, .s 17)] []),
  o1 19 (.load 49 0 22 true false 3),
  o1 20 (.call 38 [(false, .s 19)] []),
  o1 21 (.bin .mul (.s 18) (.s 20)),
  o1 22 (.bin .quo (.s 21) (.k (.sc (.int .i64 100)))),
  o1 7 (.mv false (.k (.sc (.int .i64 289)))),
  o1 8 (.mv false (.s 22))]
def g_cc_Pace_6 : List (IStep2 RW) := [o1 24 (.fld 2 (.s 3)),
  o1 25 (.load 49 2 1 false false 24),
  o1 26 (.fld 3 (.s 3)),
  o1 27 (.load 49 3 1 false false 26),
  o1 28 (.bin .lss (.s 25) (.s 27)),
  o1 23 (.mv false (.s 28))]
def g_cc_Pace_7 : List (IStep2 RW) := [o1 7 (.mv false (.k (.sc (.int .i64 200))))]
def i_cc_Pace_1 : IC2 RW := .seq (.fin (.reg g_cc_Pace_0) [0, 6] []) (.seq (.seq (.fin (.reg g_cc_Pace_1) [10, 11] []) (.fin (.cond (.s 12) (.seq (.fin (.reg g_cc_Pace_2) [1, 2, 3, 12] [(49, 22)]) (.ret)) (.skip)) [12] [])) (.seq (.reg g_cc_Pace_3) (.seq (.blk 0 (.seq (.fin (.reg g_cc_Pace_4) [14, 15, 16] []) (.cond (.s 13) (.fin (.reg g_cc_Pace_5) [13, 17, 18, 19, 20, 21, 22] []) (.seq (.fin (.reg g_cc_Pace_6) [13, 24, 25, 26, 27, 28] []) (.fin (.cond (.s 23) (.fin (.reg g_cc_Pace_7) [23] []) (.skip)) [23] []))))) i_cc_Pace_0)))
def fn_cc_Pace : IFn2 RW := ⟨16, 3, 49, 80, [(49, 22)], [], [.slot 6], i_cc_Pace_1⟩
def g_law19_heads_5 : List (IStep2 RW) := [o1 28 (.load 82 0 22 true false 1),
  o1 29 (.call 12 [(false, .s 28), (false, .k (.sc (.int .i64 5000))), (false, .k (.sc (.int .i64 1000))), (false, .k (.sc (.int .i64 0)))] []),
  o1 27 (.mv false (.s 29)),
  o1 30 (.ext false 0 (.s 27)),
  o1 31 (.ext false 1 (.s 27)),
  o1 9 (.alloc 174 [.sc (.int .i64 0), .sc (.int .i64 0), .sc (.int .i64 0), .sc (.int .i64 0), .sc (.int .i64 0), .sc (.int .i64 0), .sc (.int .i64 0), .sc (.int .i64 0), .sc (.int .i64 0), .sc (.int .i64 0), .sc (.int .i64 0), .row false (.rEntry []), .sc (.int .i64 0), .sc (.int .i64 0), .sc (.int .i64 0), .sc (.int .i64 0), .sc (.int .i64 0), .sc (.int .i64 0), .sc (.int .i64 0), .sc (.int .i64 0), .sc (.int .i64 0), .sc (.int .i64 0)]),
  o0 (.store 174 0 22 false 9 (.s 30)),
  o1 10 (.mv false (.s 31))]
def g_law19_heads_6 : List (IStep2 RW) := [o1 32 (.mv false (.s 2)),
  o1 33 (.bin .eql (.s 32) (.k (.sc (.int .i64 0)))),
  o2 34 (.mv false (.s 33)),
  o3 35 34 true (.mv false (.s 4)),
  o3 36 34 true (.bin .eql (.s 35) (.k (.sc (.int .i64 0)))),
  o1 37 (.pick (.s 34) (.s 36) (.k (.sc (.bool false)))),
  o2 38 (.mv false (.s 37)),
  o3 39 38 true (.mv false (.s 6)),
  o3 40 38 true (.bin .eql (.s 39) (.k (.sc (.int .i64 0)))),
  o1 41 (.pick (.s 38) (.s 40) (.k (.sc (.bool false)))),
  o2 42 (.mv false (.s 41)),
  o3 43 42 true (.mv false (.s 8)),
  o3 44 42 true (.bin .eql (.s 43) (.k (.sc (.int .i64 2)))),
  o1 45 (.pick (.s 42) (.s 44) (.k (.sc (.bool false)))),
  o2 46 (.mv false (.s 45)),
  o3 47 46 true (.load 82 0 22 true false 1),
  o3 48 46 true (.call 16 [(false, .s 47), (false, .k (.sc (.int .i64 100000))), (false, .k (.sc (.int .i64 0)))] []),
  o3 49 46 true (.bin .eql (.s 48) (.k (.sc (.int .i64 20000)))),
  o1 50 (.pick (.s 46) (.s 49) (.k (.sc (.bool false)))),
  o2 51 (.mv false (.s 50)),
  o3 52 51 true (.fld 0 (.s 3)),
  o3 53 51 true (.load 105 0 1 false false 52),
  o3 54 51 true (.bin .eql (.s 53) (.k (.sc (.int .i64 2)))),
  o1 55 (.pick (.s 51) (.s 54) (.k (.sc (.bool false)))),
  o2 56 (.mv false (.s 55)),
  o3 57 56 true (.fld 10 (.s 5)),
  o3 58 56 true (.load 128 10 1 false false 57),
  o3 59 56 true (.bin .eql (.s 58) (.k (.sc (.int .i64 1)))),
  o1 60 (.pick (.s 56) (.s 59) (.k (.sc (.bool false)))),
  o2 61 (.mv false (.s 60)),
  o3 62 61 true (.mv false (.s 10)),
  o3 63 61 true (.bin .eql (.s 62) (.k (.sc (.int .i64 0)))),
  o1 64 (.pick (.s 61) (.s 63) (.k (.sc (.bool false)))),
  o2 65 (.mv false (.s 64)),
  o3 66 65 true (.fld 2 (.s 9)),
  o3 67 65 true (.load 174 2 1 false false 66),
  o3 68 65 true (.bin .eql (.s 67) (.k (.sc (.int .i64 200)))),
  o1 69 (.pick (.s 65) (.s 68) (.k (.sc (.bool false)))),
  o2 70 (.mv false (.s 69)),
  o3 71 70 true (.fld 3 (.s 9)),
  o3 72 70 true (.load 174 3 1 false false 71),
  o3 73 70 true (.fld 3 (.s 1)),
  o3 74 70 true (.load 82 3 1 false false 73),
  o3 75 70 true (.bin .eql (.s 72) (.s 74)),
  o1 76 (.pick (.s 70) (.s 75) (.k (.sc (.bool false)))),
  o2 77 (.mv false (.s 76)),
  o3 78 77 true (.build [.sc (.int .i64 0), .sc (.int .i64 0), .sc (.int .i64 0), .sc (.int .i64 0), .sc (.int .i64 0), .sc (.int .i64 0), .sc (.int .i64 0), .sc (.int .i64 0), .sc (.int .i64 0), .sc (.int .i64 0), .sc (.int .i64 0), .row false (.rEntry []), .sc (.int .i64 0), .sc (.int .i64 0), .sc (.int .i64 0), .sc (.int .i64 0), .sc (.int .i64 0), .sc (.int .i64 0), .sc (.int .i64 0), .sc (.int .i64 0), .sc (.int .i64 0), .sc (.int .i64 0)] []),
  o3 79 77 true (.call 10 [(false, .s 78)] []),
  o3 80 77 true (.bin .eql (.s 79) (.k (.sc (.int .i64 230)))),
  o1 81 (.pick (.s 77) (.s 80) (.k (.sc (.bool false)))),
  o1 0 (.mv false (.s 81))]
def i_law19_heads_0 : IC2 RW := .seq (.fin (.reg g_law19_heads_5) [27, 28, 29, 30, 31] []) (.seq (.fin (.reg g_law19_heads_6) [1, 2, 3, 4, 5, 6, 8, 9, 10, 32, 33, 34, 35, 36, 37, 38, 39, 40, 41, 42, 43, 44, 45, 46, 47, 48, 49, 50, 51, 52, 53, 54, 55, 56, 57, 58, 59, 60, 61, 62, 63, 64, 65, 66, 67, 68, 69, 70, 71, 72, 73, 74, 75, 76, 77, 78, 79, 80, 81] [(82, 22), (105, 22), (128, 22), (174, 22)]) (.ret))
def g_law19_heads_0 : List (IStep2 RW) := [o1 0 (.mv false (.k (.sc (.bool false))))]
def g_law19_heads_1 : List (IStep2 RW) := [o1 12 (.call 7 [(false, .k (.sc (.int .i64 1))), (false, .k (.sc (.int .i64 100))), (false, .k (.sc (.int .i64 10)))] []),
  o1 11 (.mv false (.s 12)),
  o1 13 (.ext false 0 (.s 11)),
  o1 14 (.ext false 1 (.s 11)),
  o1 1 (.alloc 82 [.sc (.int .i64 0), .sc (.int .i64 0), .sc (.int .i64 0), .sc (.int .i64 0), .sc (.int .i64 0), .sc (.int .i64 0), .sc (.int .i64 0), .sc (.int .i64 0), .sc (.int .i64 0), .sc (.int .i64 0), .sc (.int .i64 0), .row false (.rEntry []), .sc (.int .i64 0), .sc (.int .i64 0), .sc (.int .i64 0), .sc (.int .i64 0), .sc (.int .i64 0), .sc (.int .i64 0), .sc (.int .i64 0), .sc (.int .i64 0), .sc (.int .i64 0), .sc (.int .i64 0)]),
  o0 (.store 82 0 22 false 1 (.s 13)),
  o1 2 (.mv false (.s 14))]
def g_law19_heads_2 : List (IStep2 RW) := [o1 16 (.call 7 [(false, .k (.sc (.int .i64 2))), (false, .k (.sc (.int .i64 100))), (false, .k (.sc (.int .i64 10)))] []),
  o1 15 (.mv false (.s 16)),
  o1 17 (.ext false 0 (.s 15)),
  o1 18 (.ext false 1 (.s 15)),
  o1 3 (.alloc 105 [.sc (.int .i64 0), .sc (.int .i64 0), .sc (.int .i64 0), .sc (.int .i64 0), .sc (.int .i64 0), .sc (.int .i64 0), .sc (.int .i64 0), .sc (.int .i64 0), .sc (.int .i64 0), .sc (.int .i64 0), .sc (.int .i64 0), .row false (.rEntry []), .sc (.int .i64 0), .sc (.int .i64 0), .sc (.int .i64 0), .sc (.int .i64 0), .sc (.int .i64 0), .sc (.int .i64 0), .sc (.int .i64 0), .sc (.int .i64 0), .sc (.int .i64 0), .sc (.int .i64 0)]),
  o0 (.store 105 0 22 false 3 (.s 17)),
  o1 4 (.mv false (.s 18))]
def g_law19_heads_3 : List (IStep2 RW) := [o1 20 (.call 7 [(false, .k (.sc (.int .i64 3))), (false, .k (.sc (.int .i64 100))), (false, .k (.sc (.int .i64 10)))] []),
  o1 19 (.mv false (.s 20)),
  o1 21 (.ext false 0 (.s 19)),
  o1 22 (.ext false 1 (.s 19)),
  o1 5 (.alloc 128 [.sc (.int .i64 0), .sc (.int .i64 0), .sc (.int .i64 0), .sc (.int .i64 0), .sc (.int .i64 0), .sc (.int .i64 0), .sc (.int .i64 0), .sc (.int .i64 0), .sc (.int .i64 0), .sc (.int .i64 0), .sc (.int .i64 0), .row false (.rEntry []), .sc (.int .i64 0), .sc (.int .i64 0), .sc (.int .i64 0), .sc (.int .i64 0), .sc (.int .i64 0), .sc (.int .i64 0), .sc (.int .i64 0), .sc (.int .i64 0), .sc (.int .i64 0), .sc (.int .i64 0)]),
  o0 (.store 128 0 22 false 5 (.s 21)),
  o1 6 (.mv false (.s 22))]
def g_law19_heads_4 : List (IStep2 RW) := [o1 24 (.call 7 [(false, .k (.sc (.int .i64 4))), (false, .k (.sc (.int .i64 1))), (false, .k (.sc (.int .i64 1)))] []),
  o1 23 (.mv false (.s 24)),
  o1 25 (.ext false 0 (.s 23)),
  o1 26 (.ext false 1 (.s 23)),
  o1 7 (.alloc 151 [.sc (.int .i64 0), .sc (.int .i64 0), .sc (.int .i64 0), .sc (.int .i64 0), .sc (.int .i64 0), .sc (.int .i64 0), .sc (.int .i64 0), .sc (.int .i64 0), .sc (.int .i64 0), .sc (.int .i64 0), .sc (.int .i64 0), .row false (.rEntry []), .sc (.int .i64 0), .sc (.int .i64 0), .sc (.int .i64 0), .sc (.int .i64 0), .sc (.int .i64 0), .sc (.int .i64 0), .sc (.int .i64 0), .sc (.int .i64 0), .sc (.int .i64 0), .sc (.int .i64 0)]),
  o0 (.store 151 0 22 false 7 (.s 25)),
  o1 8 (.mv false (.s 26))]
def i_law19_heads_1 : IC2 RW := .seq (.fin (.reg g_law19_heads_0) [0] []) (.seq (.fin (.reg g_law19_heads_1) [11, 12, 13, 14] []) (.seq (.fin (.reg g_law19_heads_2) [15, 16, 17, 18] []) (.seq (.fin (.reg g_law19_heads_3) [19, 20, 21, 22] []) (.seq (.fin (.reg g_law19_heads_4) [7, 23, 24, 25, 26] [(151, 22)]) i_law19_heads_0))))
def fn_law19_heads : IFn2 RW := ⟨11, 0, 82, 208, [(82, 22), (105, 22), (128, 22), (151, 22), (174, 22)], [], [.slot 0], i_law19_heads_1⟩
def g_law19_CcRestLess_0 : List (IStep2 RW) := [o1 4 (.box 62 22 false (.s 0)),
  o1 8 (.mv false (.k (.sc (.bool false))))]
def g_law19_CcRestLess_1 : List (IStep2 RW) := [o1 12 (.load 62 0 22 true false 4),
  o1 13 (.mv false (.s 1)),
  o1 14 (.mv false (.s 2)),
  o1 15 (.mv false (.s 3)),
  o1 16 (.call 12 [(false, .s 12), (false, .s 13), (false, .s 14), (false, .s 15)] []),
  o1 11 (.mv false (.s 16)),
  o1 17 (.ext false 0 (.s 11)),
  o1 18 (.ext false 1 (.s 11)),
  o1 9 (.alloc 85 [.sc (.int .i64 0), .sc (.int .i64 0), .sc (.int .i64 0), .sc (.int .i64 0), .sc (.int .i64 0), .sc (.int .i64 0), .sc (.int .i64 0), .sc (.int .i64 0), .sc (.int .i64 0), .sc (.int .i64 0), .sc (.int .i64 0), .row false (.rEntry []), .sc (.int .i64 0), .sc (.int .i64 0), .sc (.int .i64 0), .sc (.int .i64 0), .sc (.int .i64 0), .sc (.int .i64 0), .sc (.int .i64 0), .sc (.int .i64 0), .sc (.int .i64 0), .sc (.int .i64 0)]),
  o0 (.store 85 0 22 false 9 (.s 17)),
  o1 10 (.mv false (.s 18))]
def g_law19_CcRestLess_2 : List (IStep2 RW) := [o1 19 (.mv false (.s 10)),
  o1 20 (.bin .neq (.s 19) (.k (.sc (.int .i64 0))))]
def g_law19_CcRestLess_3 : List (IStep2 RW) := [o1 21 (.call 11 [] []),
  o1 8 (.mv false (.s 21))]
def g_law19_CcRestLess_4 : List (IStep2 RW) := [o1 22 (.fld 2 (.s 9)),
  o1 23 (.load 85 2 1 false false 22),
  o1 24 (.fld 2 (.s 4)),
  o1 25 (.load 62 2 1 false false 24),
  o1 26 (.bin .leq (.s 23) (.s 25)),
  o2 27 (.mv false (.s 26)),
  o3 28 27 true (.fld 2 (.s 9)),
  o3 29 27 true (.load 85 2 1 false false 28),
  o3 30 27 true (.fld 2 (.s 4)),
  o3 31 27 true (.load 62 2 1 false false 30),
  o3 32 27 true (.mv false (.s 3)),
  o3 33 27 true (.mnmx false [.s 31, .s 32]),
  o3 34 27 true (.bin .geq (.s 29) (.s 33)),
  o1 35 (.pick (.s 27) (.s 34) (.k (.sc (.bool false)))),
  o2 36 (.mv false (.s 35)),
  o3 37 36 true (.fld 2 (.s 9)),
  o3 38 36 true (.load 85 2 1 false false 37),
  o3 39 36 true (.fld 2 (.s 4)),
  o3 40 36 true (.load 62 2 1 false false 39),
  o3 41 36 true (.fld 1 (.s 4)),
  o3 42 36 true (.load 62 1 1 false false 41),
  o3 43 36 true (.bin .mul (.k (.sc (.int .i64 2))) (.s 42)),
  o3 44 36 true (.mnmx false [.s 40, .s 43]),
  o3 45 36 true (.bin .geq (.s 38) (.s 44)),
  o1 46 (.pick (.s 36) (.s 45) (.k (.sc (.bool false)))),
  o2 47 (.mv false (.s 46)),
  o3 48 47 true (.fld 3 (.s 9)),
  o3 49 47 true (.load 85 3 1 false false 48),
  o3 50 47 true (.fld 3 (.s 4)),
  o3 51 47 true (.load 62 3 1 false false 50),
  o3 52 47 true (.bin .geq (.s 49) (.s 51)),
  o1 53 (.pick (.s 47) (.s 52) (.k (.sc (.bool false)))),
  o2 54 (.mv false (.s 53)),
  o3 55 54 true (.load 85 0 22 true false 9),
  o3 56 54 true (.call 10 [(false, .s 55)] []),
  o3 57 54 true (.bin .eql (.s 56) (.k (.sc (.int .i64 0)))),
  o1 58 (.pick (.s 54) (.s 57) (.k (.sc (.bool false)))),
  o2 59 (.mv false (.s 58)),
  o3 60 59 true (.call 11 [] []),
  o1 61 (.pick (.s 59) (.s 60) (.k (.sc (.bool false)))),
  o1 8 (.mv false (.s 61))]
def i_law19_CcRestLess_0 : IC2 RW := .seq (.fin (.reg g_law19_CcRestLess_0) [0, 8] []) (.seq (.fin (.reg g_law19_CcRestLess_1) [1, 2, 11, 12, 13, 14, 15, 16, 17, 18] []) (.seq (.seq (.fin (.reg g_law19_CcRestLess_2) [10, 19] []) (.fin (.cond (.s 20) (.seq (.fin (.reg g_law19_CcRestLess_3) [3, 4, 9, 20, 21] [(62, 22), (85, 22)]) (.ret)) (.skip)) [20] [])) (.seq (.fin (.reg g_law19_CcRestLess_4) [3, 4, 9, 22, 23, 24, 25, 26, 27, 28, 29, 30, 31, 32, 33, 34, 35, 36, 37, 38, 39, 40, 41, 42, 43, 44, 45, 46, 47, 48, 49, 50, 51, 52, 53, 54, 55, 56, 57, 58, 59, 60, 61] [(62, 22), (85, 22)]) (.ret))))
def fn_law19_CcRestLess : IFn2 RW := ⟨4, 4, 62, 112, [(62, 22), (85, 22)], [], [.slot 8], i_law19_CcRestLess_0⟩
/-! tideway/cc.time -/
theorem run_cc_time {R : Type} (cp : Nat → Nat → Bool) (n : Nat) (p0 : Int) (k : Ret2 RW → Option R) : G_cc_time cp (n + 1) p0 (fun r0 => k ⟨(tB r0), []⟩) = run2 U cp (callP cp n) n fn_cc_time [(tL p0)] [] k := by kernel_rfl
/-! tideway/cc.size -/
theorem run_cc_size {R : Type} (cp : Nat → Nat → Bool) (n : Nat) (p0 : Int) (k : Ret2 RW → Option R) : G_cc_size cp (n + 1) p0 (fun r0 => k ⟨(tB r0), []⟩) = run2 U cp (callP cp n) n fn_cc_size [(tL p0)] [] k := by kernel_rfl
/-! tideway/reno.size -/
theorem run_reno_size {R : Type} (cp : Nat → Nat → Bool) (n : Nat) (p0 : Int) (k : Ret2 RW → Option R) : G_reno_size cp (n + 1) p0 (fun r0 => k ⟨(tB r0), []⟩) = run2 U cp (callP cp n) n fn_reno_size [(tL p0)] [] k := by kernel_rfl
/-! (*tideway/reno.ctl).plain -/
def fr_reno_ctl_plain_2 (q0 : Sctl) : FF := [(.ptr 138 0) :: (dT 15 []), dc, dc, dc, dc, dc, dc, dc, dT 10 ((.hdr 22) :: (sl 0 5 (ectl q0))), sl 5 16 (ectl q0), sl 21 1 (ectl q0) ++ (dT 15 [])]
def fr_reno_ctl_plain_4 (q0 : Sctl) (v7 : Bool) : FF := [dT 2 ((tB v7) :: (dT 13 [])), dc, dc, dc, dc, dc, dc, dc, dT 10 ((.hdr 22) :: (sl 0 5 (ectl q0))), sl 5 16 (ectl q0), sl 21 1 (ectl q0) ++ (dT 15 [])]
theorem s_reno_ctl_plain_3_t {R : Type} (cp : Nat → Nat → Bool) (n : Nat) (q0 : Sctl) (k : Ex → FF → Option R) : X cp n i_reno_ctl_plain_0 (fr_reno_ctl_plain_2 q0) k = s_reno_ctl_plain_3 cp n q0 (fun v7 => k .norm (fr_reno_ctl_plain_4 q0 v7)) := by kernel_rfl
theorem s_reno_ctl_plain_5_t {R : Type} (cp : Nat → Nat → Bool) (n : Nat) (q0 : Sctl) (v7 : Bool) (k : Ex → FF → Option R) : X cp n i_reno_ctl_plain_1 (fr_reno_ctl_plain_4 q0 v7) k = s_reno_ctl_plain_5 cp n q0 v7 (k .ret (fr_reno_ctl_plain_4 q0 v7)) := by kernel_rfl
def fr_reno_ctl_plain_6 (q0 : Sctl) (v8 : Bool) : FF := [dT 2 ((tB v8) :: (dT 13 [])), dc, dc, dc, dc, dc, dc, dc, dT 10 ((.hdr 22) :: (sl 0 5 (ectl q0))), sl 5 16 (ectl q0), sl 21 1 (ectl q0) ++ (dT 15 [])]
theorem s_reno_ctl_plain_7_t {R : Type} (cp : Nat → Nat → Bool) (n : Nat) (q0 : Sctl) (k : Ex → FF → Option R) : X cp n i_reno_ctl_plain_2 (fr_reno_ctl_plain_2 q0) k = s_reno_ctl_plain_7 cp n q0 (fun v8 => k .ret (fr_reno_ctl_plain_6 q0 v8)) := (show X cp n i_reno_ctl_plain_2 (fr_reno_ctl_plain_2 q0) k = X cp n i_reno_ctl_plain_0 (fr_reno_ctl_plain_2 q0) (seqT (X cp n) i_reno_ctl_plain_1 k) from by kernel_rfl).trans ((show X cp n i_reno_ctl_plain_0 (fr_reno_ctl_plain_2 q0) (seqT (X cp n) i_reno_ctl_plain_1 k) = s_reno_ctl_plain_3 cp n q0 (fun v7 => X cp n i_reno_ctl_plain_1 (fr_reno_ctl_plain_4 q0 v7) k) from (s_reno_ctl_plain_3_t cp n q0 (seqT (X cp n) i_reno_ctl_plain_1 k)).trans (by kernel_rfl)).trans (congrArg (fun q => s_reno_ctl_plain_3 cp n q0 q) (funext fun v7 => (s_reno_ctl_plain_5_t cp n q0 v7 k).trans (show s_reno_ctl_plain_5 cp n q0 v7 (k .ret (fr_reno_ctl_plain_4 q0 v7)) = s_reno_ctl_plain_5 cp n q0 v7 (k .ret (fr_reno_ctl_plain_6 q0 v7)) from by kernel_rfl))))
def fr_reno_ctl_plain_8 (q0 : Sctl) (v9 : Bool) : FF := [dT 2 ((tB v9) :: (dT 13 [])), dc, dc, dc, dc, dc, dc, dc, dT 10 ((.hdr 22) :: (sl 0 5 (ectl q0))), sl 5 16 (ectl q0), sl 21 1 (ectl q0) ++ (dT 15 [])]
theorem s_reno_ctl_plain_9_t {R : Type} (cp : Nat → Nat → Bool) (n : Nat) (q0 : Sctl) (k : Ex → FF → Option R) : X cp n i_reno_ctl_plain_3 (fr_reno_ctl_plain_2 q0) k = s_reno_ctl_plain_9 cp n q0 (fun v9 => k .ret (fr_reno_ctl_plain_8 q0 v9)) := ((fun c => (show X cp n (.seq (.fin (.reg g_reno_ctl_plain_0) [2] []) c) (fr_reno_ctl_plain_2 q0) k = s_reno_ctl_plain_1 cp n q0 (X cp n c (fr_reno_ctl_plain_2 q0) k) from by kernel_rfl)) i_reno_ctl_plain_2).trans (congrArg (fun q => s_reno_ctl_plain_1 cp n q0 q) ((s_reno_ctl_plain_7_t cp n q0 k).trans (show s_reno_ctl_plain_7 cp n q0 (fun v8 => k .ret (fr_reno_ctl_plain_6 q0 v8)) = s_reno_ctl_plain_7 cp n q0 (fun v8 => k .ret (fr_reno_ctl_plain_8 q0 v8)) from by kernel_rfl)))
theorem run_reno_ctl_plain {R : Type} (cp : Nat → Nat → Bool) (n : Nat) (q0 : Sctl) (k : Ret2 RW → Option R) : G_reno_ctl_plain cp (n + 1) q0 (fun r0 r1 => k ⟨(tB r0), [(ectl r1)]⟩) = run2 U cp (callP cp n) n fn_reno_ctl_plain [.ptr 138 0] [(ectl q0)] k := ((X_run (f := fn_reno_ctl_plain) (av := [.ptr 138 0]) (cells := [(ectl q0)]) (code := i_reno_ctl_plain_3) (fr := (fr_reno_ctl_plain_2 q0)) (k := k) (by kernel_rfl) (fun K => by kernel_rfl)).trans ((s_reno_ctl_plain_9_t cp n q0 (finK2 fn_reno_ctl_plain k)).trans (by kernel_rfl))).symm
/-! tideway/reno.Check -/
theorem run_reno_Check {R : Type} (cp : Nat → Nat → Bool) (n : Nat) (p0 : SCc) (k : Ret2 RW → Option R) : G_reno_Check cp (n + 1) p0 (fun r0 => k ⟨(tL r0), []⟩) = run2 U cp (callP cp n) n fn_reno_Check [.agg (eCc p0)] [] k := by kernel_rfl
/-! tideway/cubic.size -/
def fr_cubic_size_2 (p0 : (List Int)) : FF := [(.row false (.rint p0)) :: (dT 15 []), dc]
def fr_cubic_size_4 (p0 : (List Int)) (v14 : Int) : FF := [dT 5 ((.row false (.rint p0)) :: (tL v14) :: (tL 0) :: (dT 8 [])), dc]
def fr_cubic_size_6 (p0 : (List Int)) (v14 v16 : Int) : FF := [dT 5 ((.row false (.rint p0)) :: (tL v14) :: (tL v16) :: (dT 8 [])), dc]
def fr_cubic_size_7 : FF := [dT 2 ((tB false) :: (dT 13 [])), dc]
def fr_cubic_size_8 : FF := [dc, dc]
def fr_cubic_size_9 (p0 : (List Int)) (v14 v15 : Int) : FF := [dT 5 ((.row false (.rint p0)) :: (tL v14) :: (tL v15) :: (dT 8 [])), dc]
theorem s_cubic_size_5_t {R : Type} (cp : Nat → Nat → Bool) (n : Nat) (p0 : (List Int)) (v14 v15 : Int) (k : Ex → FF → Option R) : X cp n i_cubic_size_0 (fr_cubic_size_9 p0 v14 v15) k = s_cubic_size_5 cp n p0 v14 v15 (fun v16 => k .norm (fr_cubic_size_6 p0 v14 v16)) (k .ret fr_cubic_size_7) (k (.exit 0) fr_cubic_size_8) := by kernel_rfl
theorem l_cubic_size_10_t {R : Type} (cp : Nat → Nat → Bool) (n : Nat) : ∀ (m : Nat) (p0 : (List Int)) (v14 v15 : Int) (k : Ex → FF → Option R), loopN2 (X cp n i_cubic_size_0) m (fr_cubic_size_9 p0 v14 v15) k = l_cubic_size_10 cp n m p0 v14 v15 (k .ret fr_cubic_size_7) (k (.exit 0) fr_cubic_size_8)
  | 0, _, _, _, _ => rfl
  | m + 1, p0, v14, v15, k => (loopN2_succ (X cp n i_cubic_size_0) m (fr_cubic_size_9 p0 v14 v15) k).trans ((s_cubic_size_5_t cp n p0 v14 v15 (loopT (X cp n i_cubic_size_0) m k)).trans ((show s_cubic_size_5 cp n p0 v14 v15 (fun v16 => loopT (X cp n i_cubic_size_0) m k .norm (fr_cubic_size_6 p0 v14 v16)) (loopT (X cp n i_cubic_size_0) m k .ret fr_cubic_size_7) (loopT (X cp n i_cubic_size_0) m k (.exit 0) fr_cubic_size_8) = s_cubic_size_5 cp n p0 v14 v15 (fun v16 => loopN2 (X cp n i_cubic_size_0) m (fr_cubic_size_9 p0 v14 v16) k) (k .ret fr_cubic_size_7) (k (.exit 0) fr_cubic_size_8) from by kernel_rfl).trans (congrArg (fun q => s_cubic_size_5 cp n p0 v14 v15 q (k .ret fr_cubic_size_7) (k (.exit 0) fr_cubic_size_8)) (funext fun v16 => l_cubic_size_10_t cp n m p0 v14 v16 k))))
theorem s_cubic_size_11_t {R : Type} (cp : Nat → Nat → Bool) (n : Nat) (p0 : (List Int)) (v14 : Int) (k : Ex → FF → Option R) : X cp n i_cubic_size_1 (fr_cubic_size_4 p0 v14) k = s_cubic_size_11 cp n p0 v14 (k .ret fr_cubic_size_7) (k (.exit 0) fr_cubic_size_8) := (show X cp n i_cubic_size_1 (fr_cubic_size_4 p0 v14) k = loopN2 (X cp n i_cubic_size_0) n (fr_cubic_size_9 p0 v14 0) k from by kernel_rfl).trans (l_cubic_size_10_t cp n n p0 v14 0 k)
theorem s_cubic_size_12_t {R : Type} (cp : Nat → Nat → Bool) (n : Nat) (p0 : (List Int)) (v14 : Int) (k : Ex → FF → Option R) : X cp n i_cubic_size_2 (fr_cubic_size_4 p0 v14) k = s_cubic_size_12 cp n p0 v14 (k .norm fr_cubic_size_8) (k .ret fr_cubic_size_7) := (show X cp n i_cubic_size_2 (fr_cubic_size_4 p0 v14) k = X cp n i_cubic_size_1 (fr_cubic_size_4 p0 v14) (blkT 0 k) from by kernel_rfl).trans ((s_cubic_size_11_t cp n p0 v14 (blkT 0 k)).trans (by kernel_rfl))
theorem s_cubic_size_13_t {R : Type} (cp : Nat → Nat → Bool) (n : Nat) (p0 : (List Int)) (k : Ex → FF → Option R) : X cp n i_cubic_size_3 (fr_cubic_size_2 p0) k = s_cubic_size_13 cp n p0 (k .norm fr_cubic_size_8) (k .ret fr_cubic_size_7) := ((fun c => (show X cp n (.seq (.fin (.reg g_cubic_size_1) [0] []) c) (fr_cubic_size_2 p0) k = s_cubic_size_3 cp n p0 (fun v14 => X cp n c (fr_cubic_size_4 p0 v14) k) from by kernel_rfl)) i_cubic_size_2).trans (congrArg (fun q => s_cubic_size_3 cp n p0 q) (funext fun v14 => s_cubic_size_12_t cp n p0 v14 k))
def fr_cubic_size_15 : FF := [dT 2 ((tB true) :: (dT 13 [])), dc]
theorem s_cubic_size_14_t {R : Type} (cp : Nat → Nat → Bool) (n : Nat) (k : Ex → FF → Option R) : X cp n i_cubic_size_4 fr_cubic_size_8 k = s_cubic_size_14 cp n (k .ret fr_cubic_size_15) := by kernel_rfl
def fr_cubic_size_16 (v17 : Bool) : FF := [dT 2 ((tB v17) :: (dT 13 [])), dc]
theorem s_cubic_size_17_t {R : Type} (cp : Nat → Nat → Bool) (n : Nat) (p0 : (List Int)) (k : Ex → FF → Option R) : X cp n i_cubic_size_5 (fr_cubic_size_2 p0) k = s_cubic_size_17 cp n p0 (fun v17 => k .ret (fr_cubic_size_16 v17)) := (show X cp n i_cubic_size_5 (fr_cubic_size_2 p0) k = X cp n i_cubic_size_3 (fr_cubic_size_2 p0) (seqT (X cp n) i_cubic_size_4 k) from by kernel_rfl).trans ((show X cp n i_cubic_size_3 (fr_cubic_size_2 p0) (seqT (X cp n) i_cubic_size_4 k) = s_cubic_size_13 cp n p0 (X cp n i_cubic_size_4 fr_cubic_size_8 k) (k .ret (fr_cubic_size_16 false)) from (s_cubic_size_13_t cp n p0 (seqT (X cp n) i_cubic_size_4 k)).trans (by kernel_rfl)).trans (congrArg (fun q => s_cubic_size_13 cp n p0 q (k .ret (fr_cubic_size_16 false))) ((s_cubic_size_14_t cp n  k).trans (show s_cubic_size_14 cp n (k .ret fr_cubic_size_15) = s_cubic_size_14 cp n (k .ret (fr_cubic_size_16 true)) from by kernel_rfl))))
def fr_cubic_size_18 (v18 : Bool) : FF := [dT 2 ((tB v18) :: (dT 13 [])), dc]
theorem s_cubic_size_19_t {R : Type} (cp : Nat → Nat → Bool) (n : Nat) (p0 : (List Int)) (k : Ex → FF → Option R) : X cp n i_cubic_size_6 (fr_cubic_size_2 p0) k = s_cubic_size_19 cp n p0 (fun v18 => k .ret (fr_cubic_size_18 v18)) := ((fun c => (show X cp n (.seq (.fin (.reg g_cubic_size_0) [2] []) c) (fr_cubic_size_2 p0) k = s_cubic_size_1 cp n p0 (X cp n c (fr_cubic_size_2 p0) k) from by kernel_rfl)) i_cubic_size_5).trans (congrArg (fun q => s_cubic_size_1 cp n p0 q) ((s_cubic_size_17_t cp n p0 k).trans (show s_cubic_size_17 cp n p0 (fun v17 => k .ret (fr_cubic_size_16 v17)) = s_cubic_size_17 cp n p0 (fun v17 => k .ret (fr_cubic_size_18 v17)) from by kernel_rfl)))
theorem run_cubic_size {R : Type} (cp : Nat → Nat → Bool) (n : Nat) (p0 : (List Int)) (k : Ret2 RW → Option R) : G_cubic_size cp (n + 1) p0 (fun r0 => k ⟨(tB r0), []⟩) = run2 U cp (callP cp n) n fn_cubic_size [.row false (.rint p0)] [] k := ((X_run (f := fn_cubic_size) (av := [.row false (.rint p0)]) (cells := []) (code := i_cubic_size_6) (fr := (fr_cubic_size_2 p0)) (k := k) (by kernel_rfl) (fun K => by kernel_rfl)).trans ((s_cubic_size_19_t cp n p0 (finK2 fn_cubic_size k)).trans (by kernel_rfl))).symm
/-! tideway/cubic.Check -/
theorem run_cubic_Check {R : Type} (cp : Nat → Nat → Bool) (n : Nat) (p0 : SCc) (k : Ret2 RW → Option R) : G_cubic_Check cp (n + 1) p0 (fun r0 => k ⟨(tL r0), []⟩) = run2 U cp (callP cp n) n fn_cubic_Check [.agg (eCc p0)] [] k := by kernel_rfl
/-! tideway/bbr.within -/
def fr_bbr_within_2 (p0 : Int) (p1 : (List Int)) : FF := [(tL p0) :: (.row false (.rint p1)) :: (dT 14 []), dc]
def fr_bbr_within_4 (p0 : Int) (p1 : (List Int)) (v21 : Int) : FF := [(tL p0) :: (dT 6 ((.row false (.rint p1)) :: (tL v21) :: (tL 0) :: (dT 6 []))), dc]
def fr_bbr_within_6 (p0 : Int) (p1 : (List Int)) (v21 v23 : Int) : FF := [(tL p0) :: (dT 6 ((.row false (.rint p1)) :: (tL v21) :: (tL v23) :: (dT 6 []))), dc]
def fr_bbr_within_7 : FF := [dT 4 ((tB false) :: (dT 11 [])), dc]
def fr_bbr_within_8 : FF := [dc, dc]
def fr_bbr_within_9 (p0 : Int) (p1 : (List Int)) (v21 v22 : Int) : FF := [(tL p0) :: (dT 6 ((.row false (.rint p1)) :: (tL v21) :: (tL v22) :: (dT 6 []))), dc]
theorem s_bbr_within_5_t {R : Type} (cp : Nat → Nat → Bool) (n : Nat) (p0 : Int) (p1 : (List Int)) (v21 v22 : Int) (k : Ex → FF → Option R) : X cp n i_bbr_within_0 (fr_bbr_within_9 p0 p1 v21 v22) k = s_bbr_within_5 cp n p0 p1 v21 v22 (fun v23 => k .norm (fr_bbr_within_6 p0 p1 v21 v23)) (k .ret fr_bbr_within_7) (k (.exit 0) fr_bbr_within_8) := by kernel_rfl
theorem l_bbr_within_10_t {R : Type} (cp : Nat → Nat → Bool) (n : Nat) : ∀ (m : Nat) (p0 : Int) (p1 : (List Int)) (v21 v22 : Int) (k : Ex → FF → Option R), loopN2 (X cp n i_bbr_within_0) m (fr_bbr_within_9 p0 p1 v21 v22) k = l_bbr_within_10 cp n m p0 p1 v21 v22 (k .ret fr_bbr_within_7) (k (.exit 0) fr_bbr_within_8)
  | 0, _, _, _, _, _ => rfl
  | m + 1, p0, p1, v21, v22, k => (loopN2_succ (X cp n i_bbr_within_0) m (fr_bbr_within_9 p0 p1 v21 v22) k).trans ((s_bbr_within_5_t cp n p0 p1 v21 v22 (loopT (X cp n i_bbr_within_0) m k)).trans ((show s_bbr_within_5 cp n p0 p1 v21 v22 (fun v23 => loopT (X cp n i_bbr_within_0) m k .norm (fr_bbr_within_6 p0 p1 v21 v23)) (loopT (X cp n i_bbr_within_0) m k .ret fr_bbr_within_7) (loopT (X cp n i_bbr_within_0) m k (.exit 0) fr_bbr_within_8) = s_bbr_within_5 cp n p0 p1 v21 v22 (fun v23 => loopN2 (X cp n i_bbr_within_0) m (fr_bbr_within_9 p0 p1 v21 v23) k) (k .ret fr_bbr_within_7) (k (.exit 0) fr_bbr_within_8) from by kernel_rfl).trans (congrArg (fun q => s_bbr_within_5 cp n p0 p1 v21 v22 q (k .ret fr_bbr_within_7) (k (.exit 0) fr_bbr_within_8)) (funext fun v23 => l_bbr_within_10_t cp n m p0 p1 v21 v23 k))))
theorem s_bbr_within_11_t {R : Type} (cp : Nat → Nat → Bool) (n : Nat) (p0 : Int) (p1 : (List Int)) (v21 : Int) (k : Ex → FF → Option R) : X cp n i_bbr_within_1 (fr_bbr_within_4 p0 p1 v21) k = s_bbr_within_11 cp n p0 p1 v21 (k .ret fr_bbr_within_7) (k (.exit 0) fr_bbr_within_8) := (show X cp n i_bbr_within_1 (fr_bbr_within_4 p0 p1 v21) k = loopN2 (X cp n i_bbr_within_0) n (fr_bbr_within_9 p0 p1 v21 0) k from by kernel_rfl).trans (l_bbr_within_10_t cp n n p0 p1 v21 0 k)
theorem s_bbr_within_12_t {R : Type} (cp : Nat → Nat → Bool) (n : Nat) (p0 : Int) (p1 : (List Int)) (v21 : Int) (k : Ex → FF → Option R) : X cp n i_bbr_within_2 (fr_bbr_within_4 p0 p1 v21) k = s_bbr_within_12 cp n p0 p1 v21 (k .norm fr_bbr_within_8) (k .ret fr_bbr_within_7) := (show X cp n i_bbr_within_2 (fr_bbr_within_4 p0 p1 v21) k = X cp n i_bbr_within_1 (fr_bbr_within_4 p0 p1 v21) (blkT 0 k) from by kernel_rfl).trans ((s_bbr_within_11_t cp n p0 p1 v21 (blkT 0 k)).trans (by kernel_rfl))
theorem s_bbr_within_13_t {R : Type} (cp : Nat → Nat → Bool) (n : Nat) (p0 : Int) (p1 : (List Int)) (k : Ex → FF → Option R) : X cp n i_bbr_within_3 (fr_bbr_within_2 p0 p1) k = s_bbr_within_13 cp n p0 p1 (k .norm fr_bbr_within_8) (k .ret fr_bbr_within_7) := ((fun c => (show X cp n (.seq (.fin (.reg g_bbr_within_1) [1] []) c) (fr_bbr_within_2 p0 p1) k = s_bbr_within_3 cp n p0 p1 (fun v21 => X cp n c (fr_bbr_within_4 p0 p1 v21) k) from by kernel_rfl)) i_bbr_within_2).trans (congrArg (fun q => s_bbr_within_3 cp n p0 p1 q) (funext fun v21 => s_bbr_within_12_t cp n p0 p1 v21 k))
def fr_bbr_within_15 : FF := [dT 4 ((tB true) :: (dT 11 [])), dc]
theorem s_bbr_within_14_t {R : Type} (cp : Nat → Nat → Bool) (n : Nat) (k : Ex → FF → Option R) : X cp n i_bbr_within_4 fr_bbr_within_8 k = s_bbr_within_14 cp n (k .ret fr_bbr_within_15) := by kernel_rfl
def fr_bbr_within_16 (v24 : Bool) : FF := [dT 4 ((tB v24) :: (dT 11 [])), dc]
theorem s_bbr_within_17_t {R : Type} (cp : Nat → Nat → Bool) (n : Nat) (p0 : Int) (p1 : (List Int)) (k : Ex → FF → Option R) : X cp n i_bbr_within_5 (fr_bbr_within_2 p0 p1) k = s_bbr_within_17 cp n p0 p1 (fun v24 => k .ret (fr_bbr_within_16 v24)) := (show X cp n i_bbr_within_5 (fr_bbr_within_2 p0 p1) k = X cp n i_bbr_within_3 (fr_bbr_within_2 p0 p1) (seqT (X cp n) i_bbr_within_4 k) from by kernel_rfl).trans ((show X cp n i_bbr_within_3 (fr_bbr_within_2 p0 p1) (seqT (X cp n) i_bbr_within_4 k) = s_bbr_within_13 cp n p0 p1 (X cp n i_bbr_within_4 fr_bbr_within_8 k) (k .ret (fr_bbr_within_16 false)) from (s_bbr_within_13_t cp n p0 p1 (seqT (X cp n) i_bbr_within_4 k)).trans (by kernel_rfl)).trans (congrArg (fun q => s_bbr_within_13 cp n p0 p1 q (k .ret (fr_bbr_within_16 false))) ((s_bbr_within_14_t cp n  k).trans (show s_bbr_within_14 cp n (k .ret fr_bbr_within_15) = s_bbr_within_14 cp n (k .ret (fr_bbr_within_16 true)) from by kernel_rfl))))
def fr_bbr_within_18 (v25 : Bool) : FF := [dT 4 ((tB v25) :: (dT 11 [])), dc]
theorem s_bbr_within_19_t {R : Type} (cp : Nat → Nat → Bool) (n : Nat) (p0 : Int) (p1 : (List Int)) (k : Ex → FF → Option R) : X cp n i_bbr_within_6 (fr_bbr_within_2 p0 p1) k = s_bbr_within_19 cp n p0 p1 (fun v25 => k .ret (fr_bbr_within_18 v25)) := ((fun c => (show X cp n (.seq (.fin (.reg g_bbr_within_0) [4] []) c) (fr_bbr_within_2 p0 p1) k = s_bbr_within_1 cp n p0 p1 (X cp n c (fr_bbr_within_2 p0 p1) k) from by kernel_rfl)) i_bbr_within_5).trans (congrArg (fun q => s_bbr_within_1 cp n p0 p1 q) ((s_bbr_within_17_t cp n p0 p1 k).trans (show s_bbr_within_17 cp n p0 p1 (fun v24 => k .ret (fr_bbr_within_16 v24)) = s_bbr_within_17 cp n p0 p1 (fun v24 => k .ret (fr_bbr_within_18 v24)) from by kernel_rfl)))
theorem run_bbr_within {R : Type} (cp : Nat → Nat → Bool) (n : Nat) (p0 : Int) (p1 : (List Int)) (k : Ret2 RW → Option R) : G_bbr_within cp (n + 1) p0 p1 (fun r0 => k ⟨(tB r0), []⟩) = run2 U cp (callP cp n) n fn_bbr_within [(tL p0), .row false (.rint p1)] [] k := ((X_run (f := fn_bbr_within) (av := [(tL p0), .row false (.rint p1)]) (cells := []) (code := i_bbr_within_6) (fr := (fr_bbr_within_2 p0 p1)) (k := k) (by kernel_rfl) (fun K => by kernel_rfl)).trans ((s_bbr_within_19_t cp n p0 p1 (finK2 fn_bbr_within k)).trans (by kernel_rfl))).symm
/-! tideway/filter.may -/
theorem run_filter_may {R : Type} (cp : Nat → Nat → Bool) (n : Nat) (p0 : SEntry) (k : Ret2 RW → Option R) : G_filter_may cp (n + 1) p0 (fun r0 => k ⟨(tB r0), []⟩) = run2 U cp (callP cp n) n fn_filter_may [.agg (eEntry p0)] [] k := by kernel_rfl
/-! tideway/filter.beats -/
theorem run_filter_beats {R : Type} (cp : Nat → Nat → Bool) (n : Nat) (p0 p1 : Int) (p2 : Bool) (k : Ret2 RW → Option R) : G_filter_beats cp (n + 1) p0 p1 p2 (fun r0 => k ⟨(tB r0), []⟩) = run2 U cp (callP cp n) n fn_filter_beats [(tL p0), (tL p1), (tB p2)] [] k := by kernel_rfl
/-! tideway/filter.Check -/
def fr_filter_Check_2 (p0 : (List SEntry)) (p1 : Bool) : FF := [(.row false (.rEntry p0)) :: (tB p1) :: (dT 14 []), dc, dc]
def fr_filter_Check_4 (p0 : (List SEntry)) (p1 : Bool) (v29 : Int) : FF := [(.row false (.rEntry p0)) :: (tB p1) :: (dT 5 ((.row false (.rEntry p0)) :: (tL v29) :: (tL 0) :: (dT 6 []))), dc, dc]
def fr_filter_Check_6 (p0 : (List SEntry)) (p1 : Bool) (v29 v33 : Int) : FF := [(.row false (.rEntry p0)) :: (tB p1) :: (dT 5 ((.row false (.rEntry p0)) :: (tL v29) :: (tL v33) :: (dT 6 []))), dc, dc]
def fr_filter_Check_7 : FF := [dT 4 ((tL 2) :: (dT 11 [])), dc, dc]
def fr_filter_Check_8 : FF := [dc, dc, dc]
def fr_filter_Check_9 (p0 : (List SEntry)) (p1 : Bool) (v29 v30 : Int) : FF := [(.row false (.rEntry p0)) :: (tB p1) :: (dT 5 ((.row false (.rEntry p0)) :: (tL v29) :: (tL v30) :: (dT 6 []))), dc, dc]
theorem s_filter_Check_5_t {R : Type} (cp : Nat → Nat → Bool) (n : Nat) (p0 : (List SEntry)) (p1 : Bool) (v29 v30 : Int) (k : Ex → FF → Option R) : X cp n i_filter_Check_0 (fr_filter_Check_9 p0 p1 v29 v30) k = s_filter_Check_5 cp n p0 p1 v29 v30 (fun v33 => k .norm (fr_filter_Check_6 p0 p1 v29 v33)) (k .ret fr_filter_Check_7) (k (.exit 0) fr_filter_Check_8) := by kernel_rfl
theorem l_filter_Check_10_t {R : Type} (cp : Nat → Nat → Bool) (n : Nat) : ∀ (m : Nat) (p0 : (List SEntry)) (p1 : Bool) (v29 v30 : Int) (k : Ex → FF → Option R), loopN2 (X cp n i_filter_Check_0) m (fr_filter_Check_9 p0 p1 v29 v30) k = l_filter_Check_10 cp n m p0 p1 v29 v30 (k .ret fr_filter_Check_7) (k (.exit 0) fr_filter_Check_8)
  | 0, _, _, _, _, _ => rfl
  | m + 1, p0, p1, v29, v30, k => (loopN2_succ (X cp n i_filter_Check_0) m (fr_filter_Check_9 p0 p1 v29 v30) k).trans ((s_filter_Check_5_t cp n p0 p1 v29 v30 (loopT (X cp n i_filter_Check_0) m k)).trans ((show s_filter_Check_5 cp n p0 p1 v29 v30 (fun v33 => loopT (X cp n i_filter_Check_0) m k .norm (fr_filter_Check_6 p0 p1 v29 v33)) (loopT (X cp n i_filter_Check_0) m k .ret fr_filter_Check_7) (loopT (X cp n i_filter_Check_0) m k (.exit 0) fr_filter_Check_8) = s_filter_Check_5 cp n p0 p1 v29 v30 (fun v33 => loopN2 (X cp n i_filter_Check_0) m (fr_filter_Check_9 p0 p1 v29 v33) k) (k .ret fr_filter_Check_7) (k (.exit 0) fr_filter_Check_8) from by kernel_rfl).trans (congrArg (fun q => s_filter_Check_5 cp n p0 p1 v29 v30 q (k .ret fr_filter_Check_7) (k (.exit 0) fr_filter_Check_8)) (funext fun v33 => l_filter_Check_10_t cp n m p0 p1 v29 v33 k))))
theorem s_filter_Check_11_t {R : Type} (cp : Nat → Nat → Bool) (n : Nat) (p0 : (List SEntry)) (p1 : Bool) (v29 : Int) (k : Ex → FF → Option R) : X cp n i_filter_Check_1 (fr_filter_Check_4 p0 p1 v29) k = s_filter_Check_11 cp n p0 p1 v29 (k .ret fr_filter_Check_7) (k (.exit 0) fr_filter_Check_8) := (show X cp n i_filter_Check_1 (fr_filter_Check_4 p0 p1 v29) k = loopN2 (X cp n i_filter_Check_0) n (fr_filter_Check_9 p0 p1 v29 0) k from by kernel_rfl).trans (l_filter_Check_10_t cp n n p0 p1 v29 0 k)
theorem s_filter_Check_12_t {R : Type} (cp : Nat → Nat → Bool) (n : Nat) (p0 : (List SEntry)) (p1 : Bool) (v29 : Int) (k : Ex → FF → Option R) : X cp n i_filter_Check_2 (fr_filter_Check_4 p0 p1 v29) k = s_filter_Check_12 cp n p0 p1 v29 (k .norm fr_filter_Check_8) (k .ret fr_filter_Check_7) := (show X cp n i_filter_Check_2 (fr_filter_Check_4 p0 p1 v29) k = X cp n i_filter_Check_1 (fr_filter_Check_4 p0 p1 v29) (blkT 0 k) from by kernel_rfl).trans ((s_filter_Check_11_t cp n p0 p1 v29 (blkT 0 k)).trans (by kernel_rfl))
theorem s_filter_Check_13_t {R : Type} (cp : Nat → Nat → Bool) (n : Nat) (p0 : (List SEntry)) (p1 : Bool) (k : Ex → FF → Option R) : X cp n i_filter_Check_3 (fr_filter_Check_2 p0 p1) k = s_filter_Check_13 cp n p0 p1 (k .norm fr_filter_Check_8) (k .ret fr_filter_Check_7) := ((fun c => (show X cp n (.seq (.reg g_filter_Check_1) c) (fr_filter_Check_2 p0 p1) k = s_filter_Check_3 cp n p0 p1 (fun v29 => X cp n c (fr_filter_Check_4 p0 p1 v29) k) from by kernel_rfl)) i_filter_Check_2).trans (congrArg (fun q => s_filter_Check_3 cp n p0 p1 q) (funext fun v29 => s_filter_Check_12_t cp n p0 p1 v29 k))
def fr_filter_Check_15 : FF := [dT 4 ((tL 0) :: (dT 11 [])), dc, dc]
theorem s_filter_Check_14_t {R : Type} (cp : Nat → Nat → Bool) (n : Nat) (k : Ex → FF → Option R) : X cp n i_filter_Check_4 fr_filter_Check_8 k = s_filter_Check_14 cp n (k .ret fr_filter_Check_15) := by kernel_rfl
def fr_filter_Check_16 (v34 : Int) : FF := [dT 4 ((tL v34) :: (dT 11 [])), dc, dc]
theorem s_filter_Check_17_t {R : Type} (cp : Nat → Nat → Bool) (n : Nat) (p0 : (List SEntry)) (p1 : Bool) (k : Ex → FF → Option R) : X cp n i_filter_Check_5 (fr_filter_Check_2 p0 p1) k = s_filter_Check_17 cp n p0 p1 (fun v34 => k .ret (fr_filter_Check_16 v34)) := (show X cp n i_filter_Check_5 (fr_filter_Check_2 p0 p1) k = X cp n i_filter_Check_3 (fr_filter_Check_2 p0 p1) (seqT (X cp n) i_filter_Check_4 k) from by kernel_rfl).trans ((show X cp n i_filter_Check_3 (fr_filter_Check_2 p0 p1) (seqT (X cp n) i_filter_Check_4 k) = s_filter_Check_13 cp n p0 p1 (X cp n i_filter_Check_4 fr_filter_Check_8 k) (k .ret (fr_filter_Check_16 2)) from (s_filter_Check_13_t cp n p0 p1 (seqT (X cp n) i_filter_Check_4 k)).trans (by kernel_rfl)).trans (congrArg (fun q => s_filter_Check_13 cp n p0 p1 q (k .ret (fr_filter_Check_16 2))) ((s_filter_Check_14_t cp n  k).trans (show s_filter_Check_14 cp n (k .ret fr_filter_Check_15) = s_filter_Check_14 cp n (k .ret (fr_filter_Check_16 0)) from by kernel_rfl))))
def fr_filter_Check_18 (v35 : Int) : FF := [dT 4 ((tL v35) :: (dT 11 [])), dc, dc]
theorem s_filter_Check_19_t {R : Type} (cp : Nat → Nat → Bool) (n : Nat) (p0 : (List SEntry)) (p1 : Bool) (k : Ex → FF → Option R) : X cp n i_filter_Check_6 (fr_filter_Check_2 p0 p1) k = s_filter_Check_19 cp n p0 p1 (fun v35 => k .ret (fr_filter_Check_18 v35)) := ((fun c => (show X cp n (.seq (.fin (.reg g_filter_Check_0) [4] []) c) (fr_filter_Check_2 p0 p1) k = s_filter_Check_1 cp n p0 p1 (X cp n c (fr_filter_Check_2 p0 p1) k) from by kernel_rfl)) i_filter_Check_5).trans (congrArg (fun q => s_filter_Check_1 cp n p0 p1 q) ((s_filter_Check_17_t cp n p0 p1 k).trans (show s_filter_Check_17 cp n p0 p1 (fun v34 => k .ret (fr_filter_Check_16 v34)) = s_filter_Check_17 cp n p0 p1 (fun v34 => k .ret (fr_filter_Check_18 v34)) from by kernel_rfl)))
theorem run_filter_Check {R : Type} (cp : Nat → Nat → Bool) (n : Nat) (p0 : (List SEntry)) (p1 : Bool) (k : Ret2 RW → Option R) : G_filter_Check cp (n + 1) p0 p1 (fun r0 => k ⟨(tL r0), []⟩) = run2 U cp (callP cp n) n fn_filter_Check [.row false (.rEntry p0), (tB p1)] [] k := ((X_run (f := fn_filter_Check) (av := [.row false (.rEntry p0), (tB p1)]) (cells := []) (code := i_filter_Check_6) (fr := (fr_filter_Check_2 p0 p1)) (k := k) (by kernel_rfl) (fun K => by kernel_rfl)).trans ((s_filter_Check_19_t cp n p0 p1 (finK2 fn_filter_Check k)).trans (by kernel_rfl))).symm
/-! (*tideway/bbr.ctl).entries -/
def fr_bbr_ctl_entries_2 (q0 : ST68) : FF := [(.ptr 36 0) :: (dT 15 []), dc, dT 4 ((.hdr 22) :: (sl 0 11 (eT68 q0))), sl 11 11 (eT68 q0) ++ (dT 5 [])]
def fr_bbr_ctl_entries_3 (q0 : ST68) : FF := [dT 2 ((tB false) :: (dT 13 [])), dc, dT 4 ((.hdr 22) :: (sl 0 11 (eT68 q0))), sl 11 11 (eT68 q0) ++ (dT 5 [])]
def fr_bbr_ctl_entries_5 (q0 : ST68) (v37 : Int) : FF := [(.ptr 36 0) :: (dT 15 []), (.row false (.rEntry q0.xCc_Bw)) :: (tL v37) :: (tL 0) :: (dT 13 []), dT 4 ((.hdr 22) :: (sl 0 11 (eT68 q0))), sl 11 11 (eT68 q0) ++ (dT 5 [])]
def fr_bbr_ctl_entries_7 (q0 : ST68) (v37 v39 : Int) : FF := [(.ptr 36 0) :: (dT 15 []), (.row false (.rEntry q0.xCc_Bw)) :: (tL v37) :: (tL v39) :: (dT 13 []), dT 4 ((.hdr 22) :: (sl 0 11 (eT68 q0))), sl 11 11 (eT68 q0) ++ (dT 5 [])]
def fr_bbr_ctl_entries_8 (q0 : ST68) : FF := [dc, dc, dT 4 ((.hdr 22) :: (sl 0 11 (eT68 q0))), sl 11 11 (eT68 q0) ++ (dT 5 [])]
def fr_bbr_ctl_entries_9 (q0 : ST68) (v37 v38 : Int) : FF := [(.ptr 36 0) :: (dT 15 []), (.row false (.rEntry q0.xCc_Bw)) :: (tL v37) :: (tL v38) :: (dT 13 []), dT 4 ((.hdr 22) :: (sl 0 11 (eT68 q0))), sl 11 11 (eT68 q0) ++ (dT 5 [])]
theorem s_bbr_ctl_entries_6_t {R : Type} (cp : Nat → Nat → Bool) (n : Nat) (q0 : ST68) (v37 v38 : Int) (k : Ex → FF → Option R) : X cp n i_bbr_ctl_entries_0 (fr_bbr_ctl_entries_9 q0 v37 v38) k = s_bbr_ctl_entries_6 cp n q0 v37 v38 (fun v39 => k .norm (fr_bbr_ctl_entries_7 q0 v37 v39)) (k .ret (fr_bbr_ctl_entries_3 q0)) (k (.exit 0) (fr_bbr_ctl_entries_8 q0)) := by kernel_rfl
theorem l_bbr_ctl_entries_10_t {R : Type} (cp : Nat → Nat → Bool) (n : Nat) : ∀ (m : Nat) (q0 : ST68) (v37 v38 : Int) (k : Ex → FF → Option R), loopN2 (X cp n i_bbr_ctl_entries_0) m (fr_bbr_ctl_entries_9 q0 v37 v38) k = l_bbr_ctl_entries_10 cp n m q0 v37 v38 (k .ret (fr_bbr_ctl_entries_3 q0)) (k (.exit 0) (fr_bbr_ctl_entries_8 q0))
  | 0, _, _, _, _ => rfl
  | m + 1, q0, v37, v38, k => (loopN2_succ (X cp n i_bbr_ctl_entries_0) m (fr_bbr_ctl_entries_9 q0 v37 v38) k).trans ((s_bbr_ctl_entries_6_t cp n q0 v37 v38 (loopT (X cp n i_bbr_ctl_entries_0) m k)).trans ((show s_bbr_ctl_entries_6 cp n q0 v37 v38 (fun v39 => loopT (X cp n i_bbr_ctl_entries_0) m k .norm (fr_bbr_ctl_entries_7 q0 v37 v39)) (loopT (X cp n i_bbr_ctl_entries_0) m k .ret (fr_bbr_ctl_entries_3 q0)) (loopT (X cp n i_bbr_ctl_entries_0) m k (.exit 0) (fr_bbr_ctl_entries_8 q0)) = s_bbr_ctl_entries_6 cp n q0 v37 v38 (fun v39 => loopN2 (X cp n i_bbr_ctl_entries_0) m (fr_bbr_ctl_entries_9 q0 v37 v39) k) (k .ret (fr_bbr_ctl_entries_3 q0)) (k (.exit 0) (fr_bbr_ctl_entries_8 q0)) from by kernel_rfl).trans (congrArg (fun q => s_bbr_ctl_entries_6 cp n q0 v37 v38 q (k .ret (fr_bbr_ctl_entries_3 q0)) (k (.exit 0) (fr_bbr_ctl_entries_8 q0))) (funext fun v39 => l_bbr_ctl_entries_10_t cp n m q0 v37 v39 k))))
theorem s_bbr_ctl_entries_11_t {R : Type} (cp : Nat → Nat → Bool) (n : Nat) (q0 : ST68) (v37 : Int) (k : Ex → FF → Option R) : X cp n i_bbr_ctl_entries_1 (fr_bbr_ctl_entries_5 q0 v37) k = s_bbr_ctl_entries_11 cp n q0 v37 (k .ret (fr_bbr_ctl_entries_3 q0)) (k (.exit 0) (fr_bbr_ctl_entries_8 q0)) := (show X cp n i_bbr_ctl_entries_1 (fr_bbr_ctl_entries_5 q0 v37) k = loopN2 (X cp n i_bbr_ctl_entries_0) n (fr_bbr_ctl_entries_9 q0 v37 0) k from by kernel_rfl).trans (l_bbr_ctl_entries_10_t cp n n q0 v37 0 k)
theorem s_bbr_ctl_entries_12_t {R : Type} (cp : Nat → Nat → Bool) (n : Nat) (q0 : ST68) (v37 : Int) (k : Ex → FF → Option R) : X cp n i_bbr_ctl_entries_2 (fr_bbr_ctl_entries_5 q0 v37) k = s_bbr_ctl_entries_12 cp n q0 v37 (k .norm (fr_bbr_ctl_entries_8 q0)) (k .ret (fr_bbr_ctl_entries_3 q0)) := (show X cp n i_bbr_ctl_entries_2 (fr_bbr_ctl_entries_5 q0 v37) k = X cp n i_bbr_ctl_entries_1 (fr_bbr_ctl_entries_5 q0 v37) (blkT 0 k) from by kernel_rfl).trans ((s_bbr_ctl_entries_11_t cp n q0 v37 (blkT 0 k)).trans (by kernel_rfl))
theorem s_bbr_ctl_entries_13_t {R : Type} (cp : Nat → Nat → Bool) (n : Nat) (q0 : ST68) (k : Ex → FF → Option R) : X cp n i_bbr_ctl_entries_3 (fr_bbr_ctl_entries_2 q0) k = s_bbr_ctl_entries_13 cp n q0 (k .norm (fr_bbr_ctl_entries_8 q0)) (k .ret (fr_bbr_ctl_entries_3 q0)) := ((fun c => (show X cp n (.seq (.fin (.reg g_bbr_ctl_entries_3) [12, 13, 14, 15] []) c) (fr_bbr_ctl_entries_2 q0) k = s_bbr_ctl_entries_4 cp n q0 (fun v37 => X cp n c (fr_bbr_ctl_entries_5 q0 v37) k) from by kernel_rfl)) i_bbr_ctl_entries_2).trans (congrArg (fun q => s_bbr_ctl_entries_4 cp n q0 q) (funext fun v37 => s_bbr_ctl_entries_12_t cp n q0 v37 k))
def fr_bbr_ctl_entries_15 (q0 : ST68) : FF := [dT 2 ((tB true) :: (dT 13 [])), dc, dT 4 ((.hdr 22) :: (sl 0 11 (eT68 q0))), sl 11 11 (eT68 q0) ++ (dT 5 [])]
theorem s_bbr_ctl_entries_14_t {R : Type} (cp : Nat → Nat → Bool) (n : Nat) (q0 : ST68) (k : Ex → FF → Option R) : X cp n i_bbr_ctl_entries_4 (fr_bbr_ctl_entries_8 q0) k = s_bbr_ctl_entries_14 cp n q0 (k .ret (fr_bbr_ctl_entries_15 q0)) := by kernel_rfl
def fr_bbr_ctl_entries_16 (q0 : ST68) (v40 : Bool) : FF := [dT 2 ((tB v40) :: (dT 13 [])), dc, dT 4 ((.hdr 22) :: (sl 0 11 (eT68 q0))), sl 11 11 (eT68 q0) ++ (dT 5 [])]
theorem s_bbr_ctl_entries_17_t {R : Type} (cp : Nat → Nat → Bool) (n : Nat) (q0 : ST68) (k : Ex → FF → Option R) : X cp n i_bbr_ctl_entries_5 (fr_bbr_ctl_entries_2 q0) k = s_bbr_ctl_entries_17 cp n q0 (fun v40 => k .ret (fr_bbr_ctl_entries_16 q0 v40)) := (show X cp n i_bbr_ctl_entries_5 (fr_bbr_ctl_entries_2 q0) k = X cp n i_bbr_ctl_entries_3 (fr_bbr_ctl_entries_2 q0) (seqT (X cp n) i_bbr_ctl_entries_4 k) from by kernel_rfl).trans ((show X cp n i_bbr_ctl_entries_3 (fr_bbr_ctl_entries_2 q0) (seqT (X cp n) i_bbr_ctl_entries_4 k) = s_bbr_ctl_entries_13 cp n q0 (X cp n i_bbr_ctl_entries_4 (fr_bbr_ctl_entries_8 q0) k) (k .ret (fr_bbr_ctl_entries_16 q0 false)) from (s_bbr_ctl_entries_13_t cp n q0 (seqT (X cp n) i_bbr_ctl_entries_4 k)).trans (by kernel_rfl)).trans (congrArg (fun q => s_bbr_ctl_entries_13 cp n q0 q (k .ret (fr_bbr_ctl_entries_16 q0 false))) ((s_bbr_ctl_entries_14_t cp n q0 k).trans (show s_bbr_ctl_entries_14 cp n q0 (k .ret (fr_bbr_ctl_entries_15 q0)) = s_bbr_ctl_entries_14 cp n q0 (k .ret (fr_bbr_ctl_entries_16 q0 true)) from by kernel_rfl))))
def fr_bbr_ctl_entries_18 (q0 : ST68) (v41 : Bool) : FF := [dT 2 ((tB v41) :: (dT 13 [])), dc, dT 4 ((.hdr 22) :: (sl 0 11 (eT68 q0))), sl 11 11 (eT68 q0) ++ (dT 5 [])]
theorem s_bbr_ctl_entries_19_t {R : Type} (cp : Nat → Nat → Bool) (n : Nat) (q0 : ST68) (k : Ex → FF → Option R) : X cp n i_bbr_ctl_entries_6 (fr_bbr_ctl_entries_2 q0) k = s_bbr_ctl_entries_19 cp n q0 (fun v41 => k .ret (fr_bbr_ctl_entries_18 q0 v41)) := ((fun c => (show X cp n (.seq (.fin (.reg g_bbr_ctl_entries_0) [2] []) (.seq (.seq (.fin (.reg g_bbr_ctl_entries_1) [5, 6, 7, 8, 9, 10] []) (.fin (.cond (.s 11) (.seq (.fin (.reg g_bbr_ctl_entries_2) [0, 11] []) (.ret)) (.skip)) [11] [])) c)) (fr_bbr_ctl_entries_2 q0) k = s_bbr_ctl_entries_1 cp n q0 (X cp n c (fr_bbr_ctl_entries_2 q0) k) (k .ret (fr_bbr_ctl_entries_18 q0 false)) from by kernel_rfl)) i_bbr_ctl_entries_5).trans (congrArg (fun q => s_bbr_ctl_entries_1 cp n q0 q (k .ret (fr_bbr_ctl_entries_18 q0 false))) ((s_bbr_ctl_entries_17_t cp n q0 k).trans (show s_bbr_ctl_entries_17 cp n q0 (fun v40 => k .ret (fr_bbr_ctl_entries_16 q0 v40)) = s_bbr_ctl_entries_17 cp n q0 (fun v40 => k .ret (fr_bbr_ctl_entries_18 q0 v40)) from by kernel_rfl)))
theorem run_bbr_ctl_entries {R : Type} (cp : Nat → Nat → Bool) (n : Nat) (q0 : ST68) (k : Ret2 RW → Option R) : G_bbr_ctl_entries cp (n + 1) q0 (fun r0 r1 => k ⟨(tB r0), [(eT68 r1)]⟩) = run2 U cp (callP cp n) n fn_bbr_ctl_entries [.ptr 36 0] [(eT68 q0)] k := ((X_run (f := fn_bbr_ctl_entries) (av := [.ptr 36 0]) (cells := [(eT68 q0)]) (code := i_bbr_ctl_entries_6) (fr := (fr_bbr_ctl_entries_2 q0)) (k := k) (by kernel_rfl) (fun K => by kernel_rfl)).trans ((s_bbr_ctl_entries_19_t cp n q0 (finK2 fn_bbr_ctl_entries k)).trans (by kernel_rfl))).symm
/-! tideway/bbr.Check -/
def fr_bbr_Check_2 (p0 : SCc) : FF := [dT 3 ((.ptr 232 0) :: (dT 12 [])), dc, dc, dc, dc, dc, dc, dc, dc, dc, dc, dc, dc, dc, dT 8 ((.hdr 22) :: (sl 0 7 (eCc p0))), sl 7 15 (eCc p0) ++ (dT 1 [])]
def fr_bbr_Check_4 (p0 : SCc) (v21 : Bool) : FF := [dT 3 ((.ptr 232 0) :: (tB v21) :: (dT 11 [])), dc, dc, dc, dc, dc, dc, dc, dc, dc, dc, dc, dc, dc, dT 8 ((.hdr 22) :: (sl 0 7 (eCc p0))), sl 7 15 (eCc p0) ++ (dT 1 [])]
def fr_bbr_Check_6 (p0 : SCc) (v21 v22 : Bool) : FF := [dT 3 ((.ptr 232 0) :: (tB v21) :: (tB v22) :: (dT 10 [])), dc, dc, dc, dc, dc, dc, dc, dc, dc, dc, dc, dc, dc, dT 8 ((.hdr 22) :: (sl 0 7 (eCc p0))), sl 7 15 (eCc p0) ++ (dT 1 [])]
def fr_bbr_Check_8 (p0 : SCc) (v21 v22 v24 : Bool) : FF := [dT 3 ((.ptr 232 0) :: (tB v21) :: (tB v22) :: (tB v24) :: (dT 9 [])), dc, dc, dc, dc, dc, dc, dc, dc, dc, dc, dc, dc, dc, dT 8 ((.hdr 22) :: (sl 0 7 (eCc p0))), sl 7 15 (eCc p0) ++ (dT 1 [])]
def fr_bbr_Check_10 (p0 : SCc) (v21 v22 v24 v29 : Bool) : FF := [dT 3 ((.ptr 232 0) :: (tB v21) :: (tB v22) :: (tB v24) :: (tB v29) :: (dT 8 [])), dc, dc, dc, dc, dc, dc, dc, dc, dc, dc, dc, dc, dc, dT 8 ((.hdr 22) :: (sl 0 7 (eCc p0))), sl 7 15 (eCc p0) ++ (dT 1 [])]
def fr_bbr_Check_12 (v32 : Int) : FF := [dT 2 ((tL v32) :: (dT 13 [])), dc, dc, dc, dc, dc, dc, dc, dc, dc, dc, dc, dc, dc, dc, dc]
theorem s_bbr_Check_11_t {R : Type} (cp : Nat → Nat → Bool) (n : Nat) (p0 : SCc) (v21 v22 v24 v29 : Bool) (k : Ex → FF → Option R) : X cp n i_bbr_Check_0 (fr_bbr_Check_10 p0 v21 v22 v24 v29) k = s_bbr_Check_11 cp n p0 v21 v22 v24 v29 (fun v32 => k .ret (fr_bbr_Check_12 v32)) := by kernel_rfl
def fr_bbr_Check_13 (v33 : Int) : FF := [dT 2 ((tL v33) :: (dT 13 [])), dc, dc, dc, dc, dc, dc, dc, dc, dc, dc, dc, dc, dc, dc, dc]
theorem s_bbr_Check_14_t {R : Type} (cp : Nat → Nat → Bool) (n : Nat) (p0 : SCc) (v21 v22 v24 : Bool) (k : Ex → FF → Option R) : X cp n i_bbr_Check_1 (fr_bbr_Check_8 p0 v21 v22 v24) k = s_bbr_Check_14 cp n p0 v21 v22 v24 (fun v33 => k .ret (fr_bbr_Check_13 v33)) := ((fun c => (show X cp n (.seq (.fin (.reg g_bbr_Check_5) [140, 141, 142, 143, 144, 145, 146, 147, 148, 149, 150, 151, 152, 153, 154, 155, 156, 157, 158, 159, 160, 161, 162, 163, 164, 165, 166, 167, 168, 169, 170, 171, 172, 173] []) c) (fr_bbr_Check_8 p0 v21 v22 v24) k = s_bbr_Check_9 cp n p0 v21 v22 v24 (fun v29 => X cp n c (fr_bbr_Check_10 p0 v21 v22 v24 v29) k) from by kernel_rfl)) i_bbr_Check_0).trans (congrArg (fun q => s_bbr_Check_9 cp n p0 v21 v22 v24 q) (funext fun v29 => (s_bbr_Check_11_t cp n p0 v21 v22 v24 v29 k).trans (show s_bbr_Check_11 cp n p0 v21 v22 v24 v29 (fun v32 => k .ret (fr_bbr_Check_12 v32)) = s_bbr_Check_11 cp n p0 v21 v22 v24 v29 (fun v32 => k .ret (fr_bbr_Check_13 v32)) from by kernel_rfl)))
def fr_bbr_Check_15 (v34 : Int) : FF := [dT 2 ((tL v34) :: (dT 13 [])), dc, dc, dc, dc, dc, dc, dc, dc, dc, dc, dc, dc, dc, dc, dc]
theorem s_bbr_Check_16_t {R : Type} (cp : Nat → Nat → Bool) (n : Nat) (p0 : SCc) (v21 v22 : Bool) (k : Ex → FF → Option R) : X cp n i_bbr_Check_2 (fr_bbr_Check_6 p0 v21 v22) k = s_bbr_Check_16 cp n p0 v21 v22 (fun v34 => k .ret (fr_bbr_Check_15 v34)) := ((fun c => (show X cp n (.seq (.fin (.reg g_bbr_Check_4) [108, 109, 110, 111, 112, 113, 114, 115, 116, 117, 118, 119, 120, 121, 122, 123, 124, 125, 126, 127, 128, 129, 130, 131, 132, 133, 134, 135, 136, 137, 138, 139] []) c) (fr_bbr_Check_6 p0 v21 v22) k = s_bbr_Check_7 cp n p0 v21 v22 (fun v24 => X cp n c (fr_bbr_Check_8 p0 v21 v22 v24) k) from by kernel_rfl)) i_bbr_Check_1).trans (congrArg (fun q => s_bbr_Check_7 cp n p0 v21 v22 q) (funext fun v24 => (s_bbr_Check_14_t cp n p0 v21 v22 v24 k).trans (show s_bbr_Check_14 cp n p0 v21 v22 v24 (fun v33 => k .ret (fr_bbr_Check_13 v33)) = s_bbr_Check_14 cp n p0 v21 v22 v24 (fun v33 => k .ret (fr_bbr_Check_15 v33)) from by kernel_rfl)))
def fr_bbr_Check_17 (v35 : Int) : FF := [dT 2 ((tL v35) :: (dT 13 [])), dc, dc, dc, dc, dc, dc, dc, dc, dc, dc, dc, dc, dc, dc, dc]
theorem s_bbr_Check_18_t {R : Type} (cp : Nat → Nat → Bool) (n : Nat) (p0 : SCc) (v21 : Bool) (k : Ex → FF → Option R) : X cp n i_bbr_Check_3 (fr_bbr_Check_4 p0 v21) k = s_bbr_Check_18 cp n p0 v21 (fun v35 => k .ret (fr_bbr_Check_17 v35)) := ((fun c => (show X cp n (.seq (.fin (.reg g_bbr_Check_3) [70, 71, 72, 73, 74, 75, 76, 77, 78, 79, 80, 81, 82, 83, 84, 85, 86, 87, 88, 89, 90, 91, 92, 93, 94, 95, 96, 97, 98, 99, 100, 101, 102, 103, 104, 105, 106, 107] []) c) (fr_bbr_Check_4 p0 v21) k = s_bbr_Check_5 cp n p0 v21 (fun v22 => X cp n c (fr_bbr_Check_6 p0 v21 v22) k) from by kernel_rfl)) i_bbr_Check_2).trans (congrArg (fun q => s_bbr_Check_5 cp n p0 v21 q) (funext fun v22 => (s_bbr_Check_16_t cp n p0 v21 v22 k).trans (show s_bbr_Check_16 cp n p0 v21 v22 (fun v34 => k .ret (fr_bbr_Check_15 v34)) = s_bbr_Check_16 cp n p0 v21 v22 (fun v34 => k .ret (fr_bbr_Check_17 v34)) from by kernel_rfl)))
def fr_bbr_Check_19 (v36 : Int) : FF := [dT 2 ((tL v36) :: (dT 13 [])), dc, dc, dc, dc, dc, dc, dc, dc, dc, dc, dc, dc, dc, dc, dc]
theorem s_bbr_Check_20_t {R : Type} (cp : Nat → Nat → Bool) (n : Nat) (p0 : SCc) (k : Ex → FF → Option R) : X cp n i_bbr_Check_4 (fr_bbr_Check_2 p0) k = s_bbr_Check_20 cp n p0 (fun v36 => k .ret (fr_bbr_Check_19 v36)) := ((fun c => (show X cp n (.seq (.fin (.reg g_bbr_Check_2) [11, 12, 13, 14, 15, 16, 17, 18, 19, 20, 21, 22, 23, 24, 25, 26, 27, 28, 29, 30, 31, 32, 33, 34, 35, 36, 37, 38, 39, 40, 41, 42, 43, 44, 45, 46, 47, 48, 49, 50, 51, 52, 53, 54, 55, 56, 57, 58, 59, 60, 61, 62, 63, 64, 65, 66, 67, 68, 69] []) c) (fr_bbr_Check_2 p0) k = s_bbr_Check_3 cp n p0 (fun v21 => X cp n c (fr_bbr_Check_4 p0 v21) k) from by kernel_rfl)) i_bbr_Check_3).trans (congrArg (fun q => s_bbr_Check_3 cp n p0 q) (funext fun v21 => (s_bbr_Check_18_t cp n p0 v21 k).trans (show s_bbr_Check_18 cp n p0 v21 (fun v35 => k .ret (fr_bbr_Check_17 v35)) = s_bbr_Check_18 cp n p0 v21 (fun v35 => k .ret (fr_bbr_Check_19 v35)) from by kernel_rfl)))
def fr_bbr_Check_21 (v37 : Int) : FF := [dT 2 ((tL v37) :: (dT 13 [])), dc, dc, dc, dc, dc, dc, dc, dc, dc, dc, dc, dc, dc, dc, dc]
def fr_bbr_Check_23 (p0 : SCc) : FF := [(.agg (eCc p0)) :: (dT 15 []), dc, dc, dc, dc, dc, dc, dc, dc, dc, dc, dc, dc, dc, dc, dc]
theorem s_bbr_Check_22_t {R : Type} (cp : Nat → Nat → Bool) (n : Nat) (p0 : SCc) (k : Ex → FF → Option R) : X cp n i_bbr_Check_5 (fr_bbr_Check_23 p0) k = s_bbr_Check_22 cp n p0 (fun v37 => k .ret (fr_bbr_Check_21 v37)) := ((fun c => (show X cp n (.seq (.fin (.reg g_bbr_Check_0) [0, 2] []) (.seq (.fin (.reg g_bbr_Check_1) [1, 8, 9, 10] [(209, 22)]) c)) (fr_bbr_Check_23 p0) k = s_bbr_Check_1 cp n p0 (X cp n c (fr_bbr_Check_2 p0) k) from by kernel_rfl)) i_bbr_Check_4).trans (congrArg (fun q => s_bbr_Check_1 cp n p0 q) ((s_bbr_Check_20_t cp n p0 k).trans (show s_bbr_Check_20 cp n p0 (fun v36 => k .ret (fr_bbr_Check_19 v36)) = s_bbr_Check_20 cp n p0 (fun v36 => k .ret (fr_bbr_Check_21 v36)) from by kernel_rfl)))
theorem run_bbr_Check {R : Type} (cp : Nat → Nat → Bool) (n : Nat) (p0 : SCc) (k : Ret2 RW → Option R) : G_bbr_Check cp (n + 1) p0 (fun r0 => k ⟨(tL r0), []⟩) = run2 U cp (callP cp n) n fn_bbr_Check [.agg (eCc p0)] [] k := ((X_run (f := fn_bbr_Check) (av := [.agg (eCc p0)]) (cells := []) (code := i_bbr_Check_5) (fr := (fr_bbr_Check_23 p0)) (k := k) (by kernel_rfl) (fun K => by kernel_rfl)).trans ((s_bbr_Check_22_t cp n p0 (finK2 fn_bbr_Check k)).trans (by kernel_rfl))).symm
/-! tideway/cc.Check -/
theorem run_cc_Check {R : Type} (cp : Nat → Nat → Bool) (n : Nat) (p0 : SCc) (k : Ret2 RW → Option R) : G_cc_Check cp (n + 1) p0 (fun r0 => k ⟨(tL r0), []⟩) = run2 U cp (callP cp n) n fn_cc_Check [.agg (eCc p0)] [] k := by kernel_rfl
/-! tideway/cc.asked -/
theorem run_cc_asked {R : Type} (cp : Nat → Nat → Bool) (n : Nat) (p0 : SCc) (p1 : Bool) (k : Ret2 RW → Option R) : G_cc_asked cp (n + 1) p0 p1 (fun r0 => k ⟨(tL r0), []⟩) = run2 U cp (callP cp n) n fn_cc_asked [.agg (eCc p0), (tB p1)] [] k := by kernel_rfl
/-! tideway/cc.Rest -/
def fr_cc_Rest_2 (p0 : SCc) (p1 p2 p3 : Int) : FF := [dT 1 ((tL p1) :: (tL p2) :: (tL p3) :: (.ptr 67 0) :: (dT 3 ((.ptr 90 0) :: (dT 7 [])))), dc, dc, dc, dT 3 ((.hdr 22) :: (sl 0 12 (eCc p0))), sl 12 10 (eCc p0) ++ [.hdr 22, (tL 0), (tL 0), (tL 0), (tL 0), (tL 0)], [(tL 0), (tL 0), (tL 0), (tL 0), (tL 0), (tL 0), .row false (.rEntry []), (tL 0), (tL 0), (tL 0), (tL 0), (tL 0), (tL 0), (tL 0), (tL 0), (tL 0)], (tL 0) :: (dT 15 [])]
def fr_cc_Rest_4 (p0 : SCc) (p1 p2 p3 v7 : Int) : FF := [dT 1 ((tL p1) :: (tL p2) :: (tL p3) :: (.ptr 67 0) :: (dT 3 ((.ptr 90 0) :: (dT 1 ((tL v7) :: (dT 5 [])))))), dc, dc, dc, dT 3 ((.hdr 22) :: (sl 0 12 (eCc p0))), sl 12 10 (eCc p0) ++ [.hdr 22, (tL 0), (tL 0), (tL 0), (tL 0), (tL 0)], [(tL 0), (tL 0), (tL 0), (tL 0), (tL 0), (tL 0), .row false (.rEntry []), (tL 0), (tL 0), (tL 0), (tL 0), (tL 0), (tL 0), (tL 0), (tL 0), (tL 0)], (tL 0) :: (dT 15 [])]
theorem s_cc_Rest_3_t {R : Type} (cp : Nat → Nat → Bool) (n : Nat) (p0 : SCc) (p1 p2 p3 : Int) (k : Ex → FF → Option R) : X cp n i_cc_Rest_0 (fr_cc_Rest_2 p0 p1 p2 p3) k = s_cc_Rest_3 cp n p0 p1 p2 p3 (fun v7 => k .norm (fr_cc_Rest_4 p0 p1 p2 p3 v7)) := by kernel_rfl
def fr_cc_Rest_6 (v7 : Int) : FF := [dT 8 ((.ptr 90 0) :: (tL v7) :: (dT 6 [])), dc, dc, dc, dc, dT 10 ([.hdr 22, (tL 0), (tL 0), (tL 0), (tL 0), (tL 0)]), [(tL 0), (tL 0), (tL 0), (tL 0), (tL 0), (tL 0), .row false (.rEntry []), (tL 0), (tL 0), (tL 0), (tL 0), (tL 0), (tL 0), (tL 0), (tL 0), (tL 0)], (tL 0) :: (dT 15 [])]
theorem s_cc_Rest_5_t {R : Type} (cp : Nat → Nat → Bool) (n : Nat) (p0 : SCc) (p1 p2 p3 v7 : Int) (k : Ex → FF → Option R) : X cp n i_cc_Rest_1 (fr_cc_Rest_4 p0 p1 p2 p3 v7) k = s_cc_Rest_5 cp n p0 p1 p2 p3 v7 (k .norm (fr_cc_Rest_2 p0 p1 p2 p3)) (k .ret (fr_cc_Rest_6 v7)) := by kernel_rfl
def fr_cc_Rest_7 (v8 : Int) : FF := [dT 8 ((.ptr 90 0) :: (tL v8) :: (dT 6 [])), dc, dc, dc, dc, dT 10 ([.hdr 22, (tL 0), (tL 0), (tL 0), (tL 0), (tL 0)]), [(tL 0), (tL 0), (tL 0), (tL 0), (tL 0), (tL 0), .row false (.rEntry []), (tL 0), (tL 0), (tL 0), (tL 0), (tL 0), (tL 0), (tL 0), (tL 0), (tL 0)], (tL 0) :: (dT 15 [])]
theorem s_cc_Rest_8_t {R : Type} (cp : Nat → Nat → Bool) (n : Nat) (p0 : SCc) (p1 p2 p3 : Int) (k : Ex → FF → Option R) : X cp n i_cc_Rest_2 (fr_cc_Rest_2 p0 p1 p2 p3) k = s_cc_Rest_8 cp n p0 p1 p2 p3 (k .norm (fr_cc_Rest_2 p0 p1 p2 p3)) (fun v8 => k .ret (fr_cc_Rest_7 v8)) := (show X cp n i_cc_Rest_2 (fr_cc_Rest_2 p0 p1 p2 p3) k = X cp n i_cc_Rest_0 (fr_cc_Rest_2 p0 p1 p2 p3) (seqT (X cp n) i_cc_Rest_1 k) from by kernel_rfl).trans ((show X cp n i_cc_Rest_0 (fr_cc_Rest_2 p0 p1 p2 p3) (seqT (X cp n) i_cc_Rest_1 k) = s_cc_Rest_3 cp n p0 p1 p2 p3 (fun v7 => X cp n i_cc_Rest_1 (fr_cc_Rest_4 p0 p1 p2 p3 v7) k) from (s_cc_Rest_3_t cp n p0 p1 p2 p3 (seqT (X cp n) i_cc_Rest_1 k)).trans (by kernel_rfl)).trans (congrArg (fun q => s_cc_Rest_3 cp n p0 p1 p2 p3 q) (funext fun v7 => (s_cc_Rest_5_t cp n p0 p1 p2 p3 v7 k).trans (show s_cc_Rest_5 cp n p0 p1 p2 p3 v7 (k .norm (fr_cc_Rest_2 p0 p1 p2 p3)) (k .ret (fr_cc_Rest_6 v7)) = s_cc_Rest_5 cp n p0 p1 p2 p3 v7 (k .norm (fr_cc_Rest_2 p0 p1 p2 p3)) (k .ret (fr_cc_Rest_7 v7)) from by kernel_rfl))))
def fr_cc_Rest_10 (p0 : SCc) (v9 v10 : Int) : FF := [dT 8 ((.ptr 90 0) :: (tL 0) :: (dT 6 [])), dc, dc, dc, dc, dT 10 ([.hdr 22, (tL p0.xKind), (tL p0.xMss), (tL v9), (tL v10), (tL p0.xAcc)]), [(tL p0.xWmax), (tL p0.xEpoch), (tL p0.xK), (tL p0.xWest), (tL p0.xStart), (tL p0.xMode), .row false (.rEntry p0.xBw), (tL p0.xMinRtt), (tL p0.xMinAt), (tL p0.xRound), (tL p0.xNextAt), (tL p0.xFull), (tL p0.xFullN), (tL p0.xPhase), (tL p0.xPhaseAt), (tL p0.xDoneAt)], (tL p0.xPrior) :: (dT 15 [])]
theorem s_cc_Rest_9_t {R : Type} (cp : Nat → Nat → Bool) (n : Nat) (p0 : SCc) (p1 p2 p3 : Int) (k : Ex → FF → Option R) : X cp n i_cc_Rest_3 (fr_cc_Rest_2 p0 p1 p2 p3) k = s_cc_Rest_9 cp n p0 p1 p2 p3 (fun v9 v10 => k .ret (fr_cc_Rest_10 p0 v9 v10)) := by kernel_rfl
def fr_cc_Rest_11 (v11 : Int) (v12 : SCc) : FF := [dT 8 ((.ptr 90 0) :: (tL v11) :: (dT 6 [])), dc, dc, dc, dc, dT 10 ((.hdr 22) :: (sl 0 5 (eCc v12))), sl 5 16 (eCc v12), sl 21 1 (eCc v12) ++ (dT 15 [])]
theorem s_cc_Rest_12_t {R : Type} (cp : Nat → Nat → Bool) (n : Nat) (p0 : SCc) (p1 p2 p3 : Int) (k : Ex → FF → Option R) : X cp n i_cc_Rest_4 (fr_cc_Rest_2 p0 p1 p2 p3) k = s_cc_Rest_12 cp n p0 p1 p2 p3 (fun v11 v12 => k .ret (fr_cc_Rest_11 v11 v12)) := (show X cp n i_cc_Rest_4 (fr_cc_Rest_2 p0 p1 p2 p3) k = X cp n i_cc_Rest_2 (fr_cc_Rest_2 p0 p1 p2 p3) (seqT (X cp n) i_cc_Rest_3 k) from by kernel_rfl).trans ((show X cp n i_cc_Rest_2 (fr_cc_Rest_2 p0 p1 p2 p3) (seqT (X cp n) i_cc_Rest_3 k) = s_cc_Rest_8 cp n p0 p1 p2 p3 (X cp n i_cc_Rest_3 (fr_cc_Rest_2 p0 p1 p2 p3) k) (fun v8 => k .ret (fr_cc_Rest_11 v8 (SCc.mk 0 0 0 0 0 0 0 0 0 0 0 [] 0 0 0 0 0 0 0 0 0 0))) from (s_cc_Rest_8_t cp n p0 p1 p2 p3 (seqT (X cp n) i_cc_Rest_3 k)).trans (by kernel_rfl)).trans (congrArg (fun q => s_cc_Rest_8 cp n p0 p1 p2 p3 q (fun v8 => k .ret (fr_cc_Rest_11 v8 (SCc.mk 0 0 0 0 0 0 0 0 0 0 0 [] 0 0 0 0 0 0 0 0 0 0)))) ((s_cc_Rest_9_t cp n p0 p1 p2 p3 k).trans (show s_cc_Rest_9 cp n p0 p1 p2 p3 (fun v9 v10 => k .ret (fr_cc_Rest_10 p0 v9 v10)) = s_cc_Rest_9 cp n p0 p1 p2 p3 (fun v9 v10 => k .ret (fr_cc_Rest_11 0 (SCc.mk p0.xKind p0.xMss v9 v10 p0.xAcc p0.xWmax p0.xEpoch p0.xK p0.xWest p0.xStart p0.xMode p0.xBw p0.xMinRtt p0.xMinAt p0.xRound p0.xNextAt p0.xFull p0.xFullN p0.xPhase p0.xPhaseAt p0.xDoneAt p0.xPrior))) from by kernel_rfl))))
def fr_cc_Rest_13 (v13 : Int) (v14 : SCc) : FF := [dT 8 ((.ptr 90 0) :: (tL v13) :: (dT 6 [])), dc, dc, dc, dc, dT 10 ((.hdr 22) :: (sl 0 5 (eCc v14))), sl 5 16 (eCc v14), sl 21 1 (eCc v14) ++ (dT 15 [])]
def fr_cc_Rest_15 (p0 : SCc) (p1 p2 p3 : Int) : FF := [(.agg (eCc p0)) :: (tL p1) :: (tL p2) :: (tL p3) :: (dT 12 []), dc, dc, dc, dc, dc, dc, dc]
theorem s_cc_Rest_14_t {R : Type} (cp : Nat → Nat → Bool) (n : Nat) (p0 : SCc) (p1 p2 p3 : Int) (k : Ex → FF → Option R) : X cp n i_cc_Rest_5 (fr_cc_Rest_15 p0 p1 p2 p3) k = s_cc_Rest_14 cp n p0 p1 p2 p3 (fun v13 v14 => k .ret (fr_cc_Rest_13 v13 v14)) := ((fun c => (show X cp n (.seq (.fin (.reg g_cc_Rest_0) [0, 9] []) c) (fr_cc_Rest_15 p0 p1 p2 p3) k = s_cc_Rest_1 cp n p0 p1 p2 p3 (X cp n c (fr_cc_Rest_2 p0 p1 p2 p3) k) from by kernel_rfl)) i_cc_Rest_4).trans (congrArg (fun q => s_cc_Rest_1 cp n p0 p1 p2 p3 q) ((s_cc_Rest_12_t cp n p0 p1 p2 p3 k).trans (show s_cc_Rest_12 cp n p0 p1 p2 p3 (fun v11 v12 => k .ret (fr_cc_Rest_11 v11 v12)) = s_cc_Rest_12 cp n p0 p1 p2 p3 (fun v11 v12 => k .ret (fr_cc_Rest_13 v11 v12)) from by kernel_rfl)))
theorem run_cc_Rest {R : Type} (cp : Nat → Nat → Bool) (n : Nat) (p0 : SCc) (p1 p2 p3 : Int) (k : Ret2 RW → Option R) : G_cc_Rest cp (n + 1) p0 p1 p2 p3 (fun r0 r1 => k ⟨.tup [.agg (eCc r0), (tL r1)], []⟩) = run2 U cp (callP cp n) n fn_cc_Rest [.agg (eCc p0), (tL p1), (tL p2), (tL p3)] [] k := ((X_run (f := fn_cc_Rest) (av := [.agg (eCc p0), (tL p1), (tL p2), (tL p3)]) (cells := []) (code := i_cc_Rest_5) (fr := (fr_cc_Rest_15 p0 p1 p2 p3)) (k := k) (by kernel_rfl) (fun K => by kernel_rfl)).trans ((s_cc_Rest_14_t cp n p0 p1 p2 p3 (finK2 fn_cc_Rest k)).trans (by kernel_rfl))).symm
/-! tideway/reno.New -/
theorem run_reno_New {R : Type} (cp : Nat → Nat → Bool) (n : Nat) (p0 p1 : Int) (k : Ret2 RW → Option R) : G_reno_New cp (n + 1) p0 p1 (fun r0 r1 => k ⟨.tup [.agg (eCc r0), (tL r1)], []⟩) = run2 U cp (callP cp n) n fn_reno_New [(tL p0), (tL p1)] [] k := by kernel_rfl
/-! tideway/cubic.New -/
theorem run_cubic_New {R : Type} (cp : Nat → Nat → Bool) (n : Nat) (p0 p1 : Int) (k : Ret2 RW → Option R) : G_cubic_New cp (n + 1) p0 p1 (fun r0 r1 => k ⟨.tup [.agg (eCc r0), (tL r1)], []⟩) = run2 U cp (callP cp n) n fn_cubic_New [(tL p0), (tL p1)] [] k := by kernel_rfl
/-! tideway/bbr.New -/
theorem run_bbr_New {R : Type} (cp : Nat → Nat → Bool) (n : Nat) (p0 p1 : Int) (k : Ret2 RW → Option R) : G_bbr_New cp (n + 1) p0 p1 (fun r0 r1 => k ⟨.tup [.agg (eCc r0), (tL r1)], []⟩) = run2 U cp (callP cp n) n fn_bbr_New [(tL p0), (tL p1)] [] k := by kernel_rfl
/-! tideway/cc.New -/
theorem run_cc_New {R : Type} (cp : Nat → Nat → Bool) (n : Nat) (p0 p1 p2 : Int) (k : Ret2 RW → Option R) : G_cc_New cp (n + 1) p0 p1 p2 (fun r0 r1 => k ⟨.tup [.agg (eCc r0), (tL r1)], []⟩) = run2 U cp (callP cp n) n fn_cc_New [(tL p0), (tL p1), (tL p2)] [] k := by kernel_rfl
/-! tideway/bbr.Gain -/
theorem run_bbr_Gain {R : Type} (cp : Nat → Nat → Bool) (n : Nat) (p0 : SCc) (k : Ret2 RW → Option R) : G_bbr_Gain cp (n + 1) p0 (fun r0 => k ⟨(tL r0), []⟩) = run2 U cp (callP cp n) n fn_bbr_Gain [.agg (eCc p0)] [] k := by kernel_rfl
/-! tideway/filter.Best -/
theorem run_filter_Best {R : Type} (cp : Nat → Nat → Bool) (n : Nat) (p0 : (List SEntry)) (k : Ret2 RW → Option R) : G_filter_Best cp (n + 1) p0 (fun r0 r1 => k ⟨.tup [(tL r0), (tB r1)], []⟩) = run2 U cp (callP cp n) n fn_filter_Best [.row false (.rEntry p0)] [] k := by kernel_rfl
/-! (*tideway/bbr.ctl).bandwidth -/
theorem run_bbr_ctl_bandwidth {R : Type} (cp : Nat → Nat → Bool) (n : Nat) (q0 : ST68) (k : Ret2 RW → Option R) : G_bbr_ctl_bandwidth cp (n + 1) q0 (fun r0 r1 => k ⟨(tL r0), [(eT68 r1)]⟩) = run2 U cp (callP cp n) n fn_bbr_ctl_bandwidth [.ptr 15 0] [(eT68 q0)] k := by kernel_rfl
/-! tideway/bbr.Bandwidth -/
theorem run_bbr_Bandwidth {R : Type} (cp : Nat → Nat → Bool) (n : Nat) (p0 : SCc) (k : Ret2 RW → Option R) : G_bbr_Bandwidth cp (n + 1) p0 (fun r0 => k ⟨(tL r0), []⟩) = run2 U cp (callP cp n) n fn_bbr_Bandwidth [.agg (eCc p0)] [] k := by kernel_rfl
/-! math/bits.Mul64 -/
theorem run_math_bits_Mul64 {R : Type} (cp : Nat → Nat → Bool) (n : Nat) (p0 p1 : Int) (k : Ret2 RW → Option R) : G_math_bits_Mul64 cp (n + 1) p0 p1 (fun r0 r1 => k ⟨.tup [(tI .u64 r0), (tI .u64 r1)], []⟩) = run2 U cp (callP cp n) n fn_math_bits_Mul64 [(tI .u64 p0), (tI .u64 p1)] [] k := by kernel_rfl
/-! math/bits.Len64 -/
theorem run_math_bits_Len64 {R : Type} (cp : Nat → Nat → Bool) (n : Nat) (p0 : Int) (k : Ret2 RW → Option R) : G_math_bits_Len64 cp (n + 1) p0 (fun r0 => k ⟨(tL r0), []⟩) = run2 U cp (callP cp n) n fn_math_bits_Len64 [(tI .u64 p0)] [] k := by kernel_rfl
/-! math/bits.LeadingZeros64 -/
theorem run_math_bits_LeadingZeros64 {R : Type} (cp : Nat → Nat → Bool) (n : Nat) (p0 : Int) (k : Ret2 RW → Option R) : G_math_bits_LeadingZeros64 cp (n + 1) p0 (fun r0 => k ⟨(tL r0), []⟩) = run2 U cp (callP cp n) n fn_math_bits_LeadingZeros64 [(tI .u64 p0)] [] k := by kernel_rfl
/-! math/bits.Div64 -/
def fr_math_bits_Div64_2 (v68 v69 v70 v71 v72 v73 v74 v75 v76 : Int) : FF := [dT 2 ((tI .u64 v68) :: (dT 5 ((tI .u64 v69) :: (tI .u64 v70) :: (tI .u64 v71) :: (tI .u64 v72) :: (dT 1 ([(tI .u64 v73), (tI .u64 v74), (tI .u64 v75)]))))), (tI .u64 v76) :: (dT 15 []), dc, dc, dc, dc, dc, dc, dc]
def fr_math_bits_Div64_3 (v77 v78 : Int) : FF := [dT 6 ((tI .u64 v77) :: (tI .u64 v78) :: (dT 8 [])), dc, dc, dc, dc, dc, dc, dc, dc]
def fr_math_bits_Div64_5 (v68 v69 v70 v71 v72 v73 v74 v81 v82 : Int) : FF := [dT 2 ((tI .u64 v68) :: (dT 5 ((tI .u64 v69) :: (tI .u64 v70) :: (tI .u64 v71) :: (tI .u64 v72) :: (dT 1 ([(tI .u64 v73), (tI .u64 v74), (tI .u64 v81)]))))), (tI .u64 v82) :: (dT 15 []), dc, dc, dc, dc, dc, dc, dc]
def fr_math_bits_Div64_6 (v68 v69 v70 v71 v72 v73 v74 v83 : Int) : FF := [dT 2 ((tI .u64 v68) :: (dT 5 ((tI .u64 v69) :: (tI .u64 v70) :: (tI .u64 v71) :: (tI .u64 v72) :: (dT 1 ([(tI .u64 v73), (tI .u64 v74), (tI .u64 v83)]))))), dc, dc, dc, dc, dc, dc, dc, dc]
def fr_math_bits_Div64_7 (v68 v69 v70 v71 v72 v73 v74 v79 v80 : Int) : FF := [dT 2 ((tI .u64 v68) :: (dT 5 ((tI .u64 v69) :: (tI .u64 v70) :: (tI .u64 v71) :: (tI .u64 v72) :: (dT 1 ([(tI .u64 v73), (tI .u64 v74), (tI .u64 v79)]))))), (tI .u64 v80) :: (dT 15 []), dc, dc, dc, dc, dc, dc, dc]
theorem s_math_bits_Div64_4_t {R : Type} (cp : Nat → Nat → Bool) (n : Nat) (v68 v69 v70 v71 v72 v73 v74 v79 v80 : Int) (k : Ex → FF → Option R) : X cp n i_math_bits_Div64_0 (fr_math_bits_Div64_7 v68 v69 v70 v71 v72 v73 v74 v79 v80) k = s_math_bits_Div64_4 cp n v68 v69 v70 v71 v72 v73 v74 v79 v80 (fun v81 v82 => k .norm (fr_math_bits_Div64_5 v68 v69 v70 v71 v72 v73 v74 v81 v82)) (fun v83 => k (.exit 0) (fr_math_bits_Div64_6 v68 v69 v70 v71 v72 v73 v74 v83)) := by kernel_rfl
def fr_math_bits_Div64_8 (v68 v69 v70 v71 v72 v73 v74 v84 : Int) : FF := [dT 2 ((tI .u64 v68) :: (dT 5 ((tI .u64 v69) :: (tI .u64 v70) :: (tI .u64 v71) :: (tI .u64 v72) :: (dT 1 ([(tI .u64 v73), (tI .u64 v74), (tI .u64 v84)]))))), dc, dc, dc, dc, dc, dc, dc, dc]
theorem l_math_bits_Div64_9_t {R : Type} (cp : Nat → Nat → Bool) (n : Nat) : ∀ (m : Nat) (v68 v69 v70 v71 v72 v73 v74 v79 v80 : Int) (k : Ex → FF → Option R), loopN2 (X cp n i_math_bits_Div64_0) m (fr_math_bits_Div64_7 v68 v69 v70 v71 v72 v73 v74 v79 v80) k = l_math_bits_Div64_9 cp n m v68 v69 v70 v71 v72 v73 v74 v79 v80 (fun v84 => k (.exit 0) (fr_math_bits_Div64_8 v68 v69 v70 v71 v72 v73 v74 v84))
  | 0, _, _, _, _, _, _, _, _, _, _ => rfl
  | m + 1, v68, v69, v70, v71, v72, v73, v74, v79, v80, k => (loopN2_succ (X cp n i_math_bits_Div64_0) m (fr_math_bits_Div64_7 v68 v69 v70 v71 v72 v73 v74 v79 v80) k).trans ((s_math_bits_Div64_4_t cp n v68 v69 v70 v71 v72 v73 v74 v79 v80 (loopT (X cp n i_math_bits_Div64_0) m k)).trans ((show s_math_bits_Div64_4 cp n v68 v69 v70 v71 v72 v73 v74 v79 v80 (fun v81 v82 => loopT (X cp n i_math_bits_Div64_0) m k .norm (fr_math_bits_Div64_5 v68 v69 v70 v71 v72 v73 v74 v81 v82)) (fun v83 => loopT (X cp n i_math_bits_Div64_0) m k (.exit 0) (fr_math_bits_Div64_6 v68 v69 v70 v71 v72 v73 v74 v83)) = s_math_bits_Div64_4 cp n v68 v69 v70 v71 v72 v73 v74 v79 v80 (fun v81 v82 => loopN2 (X cp n i_math_bits_Div64_0) m (fr_math_bits_Div64_7 v68 v69 v70 v71 v72 v73 v74 v81 v82) k) (fun v83 => k (.exit 0) (fr_math_bits_Div64_8 v68 v69 v70 v71 v72 v73 v74 v83)) from by kernel_rfl).trans (congrArg (fun q => s_math_bits_Div64_4 cp n v68 v69 v70 v71 v72 v73 v74 v79 v80 q (fun v83 => k (.exit 0) (fr_math_bits_Div64_8 v68 v69 v70 v71 v72 v73 v74 v83))) (funext fun v81 => funext fun v82 => l_math_bits_Div64_9_t cp n m v68 v69 v70 v71 v72 v73 v74 v81 v82 k))))
theorem s_math_bits_Div64_10_t {R : Type} (cp : Nat → Nat → Bool) (n : Nat) (v68 v69 v70 v71 v72 v73 v74 v75 v76 : Int) (k : Ex → FF → Option R) : X cp n i_math_bits_Div64_1 (fr_math_bits_Div64_2 v68 v69 v70 v71 v72 v73 v74 v75 v76) k = s_math_bits_Div64_10 cp n v68 v69 v70 v71 v72 v73 v74 v75 v76 (fun v84 => k (.exit 0) (fr_math_bits_Div64_8 v68 v69 v70 v71 v72 v73 v74 v84)) := (show X cp n i_math_bits_Div64_1 (fr_math_bits_Div64_2 v68 v69 v70 v71 v72 v73 v74 v75 v76) k = loopN2 (X cp n i_math_bits_Div64_0) n (fr_math_bits_Div64_7 v68 v69 v70 v71 v72 v73 v74 v75 v76) k from by kernel_rfl).trans (l_math_bits_Div64_9_t cp n n v68 v69 v70 v71 v72 v73 v74 v75 v76 k)
def fr_math_bits_Div64_11 (v68 v69 v70 v71 v72 v73 v74 v85 : Int) : FF := [dT 2 ((tI .u64 v68) :: (dT 5 ((tI .u64 v69) :: (tI .u64 v70) :: (tI .u64 v71) :: (tI .u64 v72) :: (dT 1 ([(tI .u64 v73), (tI .u64 v74), (tI .u64 v85)]))))), dc, dc, dc, dc, dc, dc, dc, dc]
theorem s_math_bits_Div64_12_t {R : Type} (cp : Nat → Nat → Bool) (n : Nat) (v68 v69 v70 v71 v72 v73 v74 v75 v76 : Int) (k : Ex → FF → Option R) : X cp n i_math_bits_Div64_2 (fr_math_bits_Div64_2 v68 v69 v70 v71 v72 v73 v74 v75 v76) k = s_math_bits_Div64_12 cp n v68 v69 v70 v71 v72 v73 v74 v75 v76 (fun v85 => k .norm (fr_math_bits_Div64_11 v68 v69 v70 v71 v72 v73 v74 v85)) := (show X cp n i_math_bits_Div64_2 (fr_math_bits_Div64_2 v68 v69 v70 v71 v72 v73 v74 v75 v76) k = X cp n i_math_bits_Div64_1 (fr_math_bits_Div64_2 v68 v69 v70 v71 v72 v73 v74 v75 v76) (blkT 0 k) from by kernel_rfl).trans ((s_math_bits_Div64_10_t cp n v68 v69 v70 v71 v72 v73 v74 v75 v76 (blkT 0 k)).trans (by kernel_rfl))
def fr_math_bits_Div64_14 (v68 v69 v70 v71 v74 v85 v86 v87 v88 : Int) : FF := [dT 2 ((tI .u64 v68) :: (dT 5 ((tI .u64 v69) :: (tI .u64 v70) :: (tI .u64 v71) :: (dT 3 ([(tI .u64 v74), (tI .u64 v85)]))))), (tI .u64 v86) :: (tI .u64 v87) :: (tI .u64 v88) :: (dT 13 []), dc, dc, dc, dc, dc, dc, dc]
def fr_math_bits_Div64_16 (v68 v69 v70 v71 v74 v85 v87 v91 v92 : Int) : FF := [dT 2 ((tI .u64 v68) :: (dT 5 ((tI .u64 v69) :: (tI .u64 v70) :: (tI .u64 v71) :: (dT 3 ([(tI .u64 v74), (tI .u64 v85)]))))), (tI .u64 v91) :: (tI .u64 v87) :: (tI .u64 v92) :: (dT 13 []), dc, dc, dc, dc, dc, dc, dc]
def fr_math_bits_Div64_17 (v68 v69 v74 v85 v87 v93 : Int) : FF := [dT 2 ((tI .u64 v68) :: (dT 5 ((tI .u64 v69) :: (dT 5 ([(tI .u64 v74), (tI .u64 v85)]))))), dT 1 ((tI .u64 v87) :: (tI .u64 v93) :: (dT 13 [])), dc, dc, dc, dc, dc, dc, dc]
def fr_math_bits_Div64_18 (v68 v69 v70 v71 v74 v85 v87 v89 v90 : Int) : FF := [dT 2 ((tI .u64 v68) :: (dT 5 ((tI .u64 v69) :: (tI .u64 v70) :: (tI .u64 v71) :: (dT 3 ([(tI .u64 v74), (tI .u64 v85)]))))), (tI .u64 v89) :: (tI .u64 v87) :: (tI .u64 v90) :: (dT 13 []), dc, dc, dc, dc, dc, dc, dc]
theorem s_math_bits_Div64_15_t {R : Type} (cp : Nat → Nat → Bool) (n : Nat) (v68 v69 v70 v71 v74 v85 v87 v89 v90 : Int) (k : Ex → FF → Option R) : X cp n i_math_bits_Div64_3 (fr_math_bits_Div64_18 v68 v69 v70 v71 v74 v85 v87 v89 v90) k = s_math_bits_Div64_15 cp n v68 v69 v70 v71 v74 v85 v87 v89 v90 (fun v91 v92 => k .norm (fr_math_bits_Div64_16 v68 v69 v70 v71 v74 v85 v87 v91 v92)) (fun v93 => k (.exit 2) (fr_math_bits_Div64_17 v68 v69 v74 v85 v87 v93)) := by kernel_rfl
def fr_math_bits_Div64_19 (v68 v69 v74 v85 v87 v94 : Int) : FF := [dT 2 ((tI .u64 v68) :: (dT 5 ((tI .u64 v69) :: (dT 5 ([(tI .u64 v74), (tI .u64 v85)]))))), dT 1 ((tI .u64 v87) :: (tI .u64 v94) :: (dT 13 [])), dc, dc, dc, dc, dc, dc, dc]
theorem l_math_bits_Div64_20_t {R : Type} (cp : Nat → Nat → Bool) (n : Nat) : ∀ (m : Nat) (v68 v69 v70 v71 v74 v85 v87 v89 v90 : Int) (k : Ex → FF → Option R), loopN2 (X cp n i_math_bits_Div64_3) m (fr_math_bits_Div64_18 v68 v69 v70 v71 v74 v85 v87 v89 v90) k = l_math_bits_Div64_20 cp n m v68 v69 v70 v71 v74 v85 v87 v89 v90 (fun v94 => k (.exit 2) (fr_math_bits_Div64_19 v68 v69 v74 v85 v87 v94))
  | 0, _, _, _, _, _, _, _, _, _, _ => rfl
  | m + 1, v68, v69, v70, v71, v74, v85, v87, v89, v90, k => (loopN2_succ (X cp n i_math_bits_Div64_3) m (fr_math_bits_Div64_18 v68 v69 v70 v71 v74 v85 v87 v89 v90) k).trans ((s_math_bits_Div64_15_t cp n v68 v69 v70 v71 v74 v85 v87 v89 v90 (loopT (X cp n i_math_bits_Div64_3) m k)).trans ((show s_math_bits_Div64_15 cp n v68 v69 v70 v71 v74 v85 v87 v89 v90 (fun v91 v92 => loopT (X cp n i_math_bits_Div64_3) m k .norm (fr_math_bits_Div64_16 v68 v69 v70 v71 v74 v85 v87 v91 v92)) (fun v93 => loopT (X cp n i_math_bits_Div64_3) m k (.exit 2) (fr_math_bits_Div64_17 v68 v69 v74 v85 v87 v93)) = s_math_bits_Div64_15 cp n v68 v69 v70 v71 v74 v85 v87 v89 v90 (fun v91 v92 => loopN2 (X cp n i_math_bits_Div64_3) m (fr_math_bits_Div64_18 v68 v69 v70 v71 v74 v85 v87 v91 v92) k) (fun v93 => k (.exit 2) (fr_math_bits_Div64_19 v68 v69 v74 v85 v87 v93)) from by kernel_rfl).trans (congrArg (fun q => s_math_bits_Div64_15 cp n v68 v69 v70 v71 v74 v85 v87 v89 v90 q (fun v93 => k (.exit 2) (fr_math_bits_Div64_19 v68 v69 v74 v85 v87 v93))) (funext fun v91 => funext fun v92 => l_math_bits_Div64_20_t cp n m v68 v69 v70 v71 v74 v85 v87 v91 v92 k))))
theorem s_math_bits_Div64_21_t {R : Type} (cp : Nat → Nat → Bool) (n : Nat) (v68 v69 v70 v71 v74 v85 v86 v87 v88 : Int) (k : Ex → FF → Option R) : X cp n i_math_bits_Div64_4 (fr_math_bits_Div64_14 v68 v69 v70 v71 v74 v85 v86 v87 v88) k = s_math_bits_Div64_21 cp n v68 v69 v70 v71 v74 v85 v86 v87 v88 (fun v94 => k (.exit 2) (fr_math_bits_Div64_19 v68 v69 v74 v85 v87 v94)) := (show X cp n i_math_bits_Div64_4 (fr_math_bits_Div64_14 v68 v69 v70 v71 v74 v85 v86 v87 v88) k = loopN2 (X cp n i_math_bits_Div64_3) n (fr_math_bits_Div64_18 v68 v69 v70 v71 v74 v85 v87 v86 v88) k from by kernel_rfl).trans (l_math_bits_Div64_20_t cp n n v68 v69 v70 v71 v74 v85 v87 v86 v88 k)
def fr_math_bits_Div64_22 (v68 v69 v74 v85 v87 v95 : Int) : FF := [dT 2 ((tI .u64 v68) :: (dT 5 ((tI .u64 v69) :: (dT 5 ([(tI .u64 v74), (tI .u64 v85)]))))), dT 1 ((tI .u64 v87) :: (tI .u64 v95) :: (dT 13 [])), dc, dc, dc, dc, dc, dc, dc]
theorem s_math_bits_Div64_23_t {R : Type} (cp : Nat → Nat → Bool) (n : Nat) (v68 v69 v70 v71 v74 v85 v86 v87 v88 : Int) (k : Ex → FF → Option R) : X cp n i_math_bits_Div64_5 (fr_math_bits_Div64_14 v68 v69 v70 v71 v74 v85 v86 v87 v88) k = s_math_bits_Div64_23 cp n v68 v69 v70 v71 v74 v85 v86 v87 v88 (fun v95 => k .norm (fr_math_bits_Div64_22 v68 v69 v74 v85 v87 v95)) := (show X cp n i_math_bits_Div64_5 (fr_math_bits_Div64_14 v68 v69 v70 v71 v74 v85 v86 v87 v88) k = X cp n i_math_bits_Div64_4 (fr_math_bits_Div64_14 v68 v69 v70 v71 v74 v85 v86 v87 v88) (blkT 2 k) from by kernel_rfl).trans ((s_math_bits_Div64_21_t cp n v68 v69 v70 v71 v74 v85 v86 v87 v88 (blkT 2 k)).trans (by kernel_rfl))
def fr_math_bits_Div64_25 (v96 v97 : Int) : FF := [dT 6 ((tI .u64 v96) :: (tI .u64 v97) :: (dT 8 [])), dc, dc, dc, dc, dc, dc, dc, dc]
theorem s_math_bits_Div64_24_t {R : Type} (cp : Nat → Nat → Bool) (n : Nat) (v68 v69 v74 v85 v87 v95 : Int) (k : Ex → FF → Option R) : X cp n i_math_bits_Div64_6 (fr_math_bits_Div64_22 v68 v69 v74 v85 v87 v95) k = s_math_bits_Div64_24 cp n v68 v69 v74 v85 v87 v95 (fun v96 v97 => k .ret (fr_math_bits_Div64_25 v96 v97)) := by kernel_rfl
def fr_math_bits_Div64_26 (v98 v99 : Int) : FF := [dT 6 ((tI .u64 v98) :: (tI .u64 v99) :: (dT 8 [])), dc, dc, dc, dc, dc, dc, dc, dc]
theorem s_math_bits_Div64_27_t {R : Type} (cp : Nat → Nat → Bool) (n : Nat) (v68 v69 v70 v71 v74 v85 v86 v87 v88 : Int) (k : Ex → FF → Option R) : X cp n i_math_bits_Div64_7 (fr_math_bits_Div64_14 v68 v69 v70 v71 v74 v85 v86 v87 v88) k = s_math_bits_Div64_27 cp n v68 v69 v70 v71 v74 v85 v86 v87 v88 (fun v98 v99 => k .ret (fr_math_bits_Div64_26 v98 v99)) := (show X cp n i_math_bits_Div64_7 (fr_math_bits_Div64_14 v68 v69 v70 v71 v74 v85 v86 v87 v88) k = X cp n i_math_bits_Div64_5 (fr_math_bits_Div64_14 v68 v69 v70 v71 v74 v85 v86 v87 v88) (seqT (X cp n) i_math_bits_Div64_6 k) from by kernel_rfl).trans ((show X cp n i_math_bits_Div64_5 (fr_math_bits_Div64_14 v68 v69 v70 v71 v74 v85 v86 v87 v88) (seqT (X cp n) i_math_bits_Div64_6 k) = s_math_bits_Div64_23 cp n v68 v69 v70 v71 v74 v85 v86 v87 v88 (fun v95 => X cp n i_math_bits_Div64_6 (fr_math_bits_Div64_22 v68 v69 v74 v85 v87 v95) k) from (s_math_bits_Div64_23_t cp n v68 v69 v70 v71 v74 v85 v86 v87 v88 (seqT (X cp n) i_math_bits_Div64_6 k)).trans (by kernel_rfl)).trans (congrArg (fun q => s_math_bits_Div64_23 cp n v68 v69 v70 v71 v74 v85 v86 v87 v88 q) (funext fun v95 => (s_math_bits_Div64_24_t cp n v68 v69 v74 v85 v87 v95 k).trans (show s_math_bits_Div64_24 cp n v68 v69 v74 v85 v87 v95 (fun v96 v97 => k .ret (fr_math_bits_Div64_25 v96 v97)) = s_math_bits_Div64_24 cp n v68 v69 v74 v85 v87 v95 (fun v96 v97 => k .ret (fr_math_bits_Div64_26 v96 v97)) from by kernel_rfl))))
def fr_math_bits_Div64_28 (v100 v101 : Int) : FF := [dT 6 ((tI .u64 v100) :: (tI .u64 v101) :: (dT 8 [])), dc, dc, dc, dc, dc, dc, dc, dc]
theorem s_math_bits_Div64_29_t {R : Type} (cp : Nat → Nat → Bool) (n : Nat) (v68 v69 v70 v71 v72 v73 v74 v85 : Int) (k : Ex → FF → Option R) : X cp n i_math_bits_Div64_8 (fr_math_bits_Div64_11 v68 v69 v70 v71 v72 v73 v74 v85) k = s_math_bits_Div64_29 cp n v68 v69 v70 v71 v72 v73 v74 v85 (fun v100 v101 => k .ret (fr_math_bits_Div64_28 v100 v101)) := ((fun c => (show X cp n (.seq (.fin (.reg g_math_bits_Div64_21) [11, 13, 86, 87, 88, 89, 90, 91, 92, 93] []) (.seq (.fin (.reg g_math_bits_Div64_22) [94, 95, 96] []) (.seq (.fin (.reg g_math_bits_Div64_23) [97, 98, 99, 100, 101] []) c))) (fr_math_bits_Div64_11 v68 v69 v70 v71 v72 v73 v74 v85) k = s_math_bits_Div64_13 cp n v68 v69 v70 v71 v72 v73 v74 v85 (fun v86 v87 v88 => X cp n c (fr_math_bits_Div64_14 v68 v69 v70 v71 v74 v85 v86 v87 v88) k) from by kernel_rfl)) i_math_bits_Div64_7).trans (congrArg (fun q => s_math_bits_Div64_13 cp n v68 v69 v70 v71 v72 v73 v74 v85 q) (funext fun v86 => funext fun v87 => funext fun v88 => (s_math_bits_Div64_27_t cp n v68 v69 v70 v71 v74 v85 v86 v87 v88 k).trans (show s_math_bits_Div64_27 cp n v68 v69 v70 v71 v74 v85 v86 v87 v88 (fun v98 v99 => k .ret (fr_math_bits_Div64_26 v98 v99)) = s_math_bits_Div64_27 cp n v68 v69 v70 v71 v74 v85 v86 v87 v88 (fun v98 v99 => k .ret (fr_math_bits_Div64_28 v98 v99)) from by kernel_rfl)))
def fr_math_bits_Div64_30 (v102 v103 : Int) : FF := [dT 6 ((tI .u64 v102) :: (tI .u64 v103) :: (dT 8 [])), dc, dc, dc, dc, dc, dc, dc, dc]
theorem s_math_bits_Div64_31_t {R : Type} (cp : Nat → Nat → Bool) (n : Nat) (v68 v69 v70 v71 v72 v73 v74 v75 v76 : Int) (k : Ex → FF → Option R) : X cp n i_math_bits_Div64_9 (fr_math_bits_Div64_2 v68 v69 v70 v71 v72 v73 v74 v75 v76) k = s_math_bits_Div64_31 cp n v68 v69 v70 v71 v72 v73 v74 v75 v76 (fun v102 v103 => k .ret (fr_math_bits_Div64_30 v102 v103)) := (show X cp n i_math_bits_Div64_9 (fr_math_bits_Div64_2 v68 v69 v70 v71 v72 v73 v74 v75 v76) k = X cp n i_math_bits_Div64_2 (fr_math_bits_Div64_2 v68 v69 v70 v71 v72 v73 v74 v75 v76) (seqT (X cp n) i_math_bits_Div64_8 k) from by kernel_rfl).trans ((show X cp n i_math_bits_Div64_2 (fr_math_bits_Div64_2 v68 v69 v70 v71 v72 v73 v74 v75 v76) (seqT (X cp n) i_math_bits_Div64_8 k) = s_math_bits_Div64_12 cp n v68 v69 v70 v71 v72 v73 v74 v75 v76 (fun v85 => X cp n i_math_bits_Div64_8 (fr_math_bits_Div64_11 v68 v69 v70 v71 v72 v73 v74 v85) k) from (s_math_bits_Div64_12_t cp n v68 v69 v70 v71 v72 v73 v74 v75 v76 (seqT (X cp n) i_math_bits_Div64_8 k)).trans (by kernel_rfl)).trans (congrArg (fun q => s_math_bits_Div64_12 cp n v68 v69 v70 v71 v72 v73 v74 v75 v76 q) (funext fun v85 => (s_math_bits_Div64_29_t cp n v68 v69 v70 v71 v72 v73 v74 v85 k).trans (show s_math_bits_Div64_29 cp n v68 v69 v70 v71 v72 v73 v74 v85 (fun v100 v101 => k .ret (fr_math_bits_Div64_28 v100 v101)) = s_math_bits_Div64_29 cp n v68 v69 v70 v71 v72 v73 v74 v85 (fun v100 v101 => k .ret (fr_math_bits_Div64_30 v100 v101)) from by kernel_rfl))))
def fr_math_bits_Div64_32 (v104 v105 : Int) : FF := [dT 6 ((tI .u64 v104) :: (tI .u64 v105) :: (dT 8 [])), dc, dc, dc, dc, dc, dc, dc, dc]
def fr_math_bits_Div64_34 (p0 p1 p2 : Int) : FF := [(tI .u64 p0) :: (tI .u64 p1) :: (tI .u64 p2) :: (dT 13 []), dc, dc, dc, dc, dc, dc, dc, dc]
theorem s_math_bits_Div64_33_t {R : Type} (cp : Nat → Nat → Bool) (n : Nat) (p0 p1 p2 : Int) (k : Ex → FF → Option R) : X cp n i_math_bits_Div64_10 (fr_math_bits_Div64_34 p0 p1 p2) k = s_math_bits_Div64_33 cp n p0 p1 p2 (fun v104 v105 => k .ret (fr_math_bits_Div64_32 v104 v105)) := ((fun c => (show X cp n (.seq (.fin (.reg g_math_bits_Div64_0) [6, 7] []) (.seq (.seq (.fin (.reg g_math_bits_Div64_1) [19] []) (.fin (.cond (.s 20) (.stuck) (.skip)) [20] [])) (.seq (.seq (.fin (.reg g_math_bits_Div64_3) [22, 23] []) (.fin (.cond (.s 24) (.stuck) (.skip)) [24] [])) (.seq (.seq (.fin (.reg g_math_bits_Div64_5) [26] []) (.fin (.cond (.s 27) (.seq (.fin (.reg g_math_bits_Div64_6) [0, 1, 2, 27, 28, 29, 30, 31, 32, 33] []) (.ret)) (.skip)) [27] [])) (.seq (.fin (.reg g_math_bits_Div64_7) [34, 35, 36] []) (.seq (.fin (.reg g_math_bits_Div64_8) [37, 38, 39] []) (.seq (.fin (.reg g_math_bits_Div64_9) [40, 41] []) (.seq (.fin (.reg g_math_bits_Div64_10) [42, 43] []) (.seq (.fin (.reg g_math_bits_Div64_11) [0, 44, 45, 46, 47, 48, 49, 50, 51] []) (.seq (.fin (.reg g_math_bits_Div64_12) [1, 52, 53, 54] []) (.seq (.fin (.reg g_math_bits_Div64_13) [55, 56] []) (.seq (.fin (.reg g_math_bits_Div64_14) [12, 57, 58] []) (.seq (.fin (.reg g_math_bits_Div64_15) [59, 60, 61] []) (.seq (.fin (.reg g_math_bits_Div64_16) [62, 63, 64, 65, 66] []) c)))))))))))))) (fr_math_bits_Div64_34 p0 p1 p2) k = s_math_bits_Div64_1 cp n p0 p1 p2 (fun v68 v69 v70 v71 v72 v73 v74 v75 v76 => X cp n c (fr_math_bits_Div64_2 v68 v69 v70 v71 v72 v73 v74 v75 v76) k) (fun v77 v78 => k .ret (fr_math_bits_Div64_32 v77 v78)) from by kernel_rfl)) i_math_bits_Div64_9).trans (congrArg (fun q => s_math_bits_Div64_1 cp n p0 p1 p2 q (fun v77 v78 => k .ret (fr_math_bits_Div64_32 v77 v78))) (funext fun v68 => funext fun v69 => funext fun v70 => funext fun v71 => funext fun v72 => funext fun v73 => funext fun v74 => funext fun v75 => funext fun v76 => (s_math_bits_Div64_31_t cp n v68 v69 v70 v71 v72 v73 v74 v75 v76 k).trans (show s_math_bits_Div64_31 cp n v68 v69 v70 v71 v72 v73 v74 v75 v76 (fun v102 v103 => k .ret (fr_math_bits_Div64_30 v102 v103)) = s_math_bits_Div64_31 cp n v68 v69 v70 v71 v72 v73 v74 v75 v76 (fun v102 v103 => k .ret (fr_math_bits_Div64_32 v102 v103)) from by kernel_rfl)))
theorem run_math_bits_Div64 {R : Type} (cp : Nat → Nat → Bool) (n : Nat) (p0 p1 p2 : Int) (k : Ret2 RW → Option R) : G_math_bits_Div64 cp (n + 1) p0 p1 p2 (fun r0 r1 => k ⟨.tup [(tI .u64 r0), (tI .u64 r1)], []⟩) = run2 U cp (callP cp n) n fn_math_bits_Div64 [(tI .u64 p0), (tI .u64 p1), (tI .u64 p2)] [] k := ((X_run (f := fn_math_bits_Div64) (av := [(tI .u64 p0), (tI .u64 p1), (tI .u64 p2)]) (cells := []) (code := i_math_bits_Div64_10) (fr := (fr_math_bits_Div64_34 p0 p1 p2)) (k := k) (by kernel_rfl) (fun K => by kernel_rfl)).trans ((s_math_bits_Div64_33_t cp n p0 p1 p2 (finK2 fn_math_bits_Div64 k)).trans (by kernel_rfl))).symm
/-! tideway/seq.MulDiv -/
theorem run_seq_MulDiv {R : Type} (cp : Nat → Nat → Bool) (n : Nat) (p0 p1 p2 : Int) (k : Ret2 RW → Option R) : G_seq_MulDiv cp (n + 1) p0 p1 p2 (fun r0 r1 => k ⟨.tup [(tL r0), (tL r1)], []⟩) = run2 U cp (callP cp n) n fn_seq_MulDiv [(tL p0), (tL p1), (tL p2)] [] k := by kernel_rfl
/-! tideway/cc.Pace -/
def fr_cc_Pace_2 (p0 : SCc) (p1 p2 v51 v52 : Int) : FF := [dT 1 ((tL p1) :: (tL p2) :: (.ptr 49 0) :: (dT 3 ((tL v51) :: (tL v52) :: (dT 7 [])))), dc, dc, dT 1 ((.hdr 22) :: (sl 0 14 (eCc p0))), sl 14 8 (eCc p0) ++ (dT 8 [])]
def fr_cc_Pace_3 : FF := [dT 6 ((tL 0) :: (dT 9 [])), dc, dc, dc, dc]
def fr_cc_Pace_5 (v57 : Int) : FF := [dT 6 ((tL v57) :: (dT 9 [])), dc, dc, dc, dc]
theorem s_cc_Pace_4_t {R : Type} (cp : Nat → Nat → Bool) (n : Nat) (p0 : SCc) (p1 p2 v51 v52 : Int) (k : Ex → FF → Option R) : X cp n i_cc_Pace_0 (fr_cc_Pace_2 p0 p1 p2 v51 v52) k = s_cc_Pace_4 cp n p0 p1 p2 v51 v52 (fun v57 => k .ret (fr_cc_Pace_5 v57)) := by kernel_rfl
def fr_cc_Pace_6 (v58 : Int) : FF := [dT 6 ((tL v58) :: (dT 9 [])), dc, dc, dc, dc]
def fr_cc_Pace_8 (p0 : SCc) (p1 p2 : Int) : FF := [(.agg (eCc p0)) :: (tL p1) :: (tL p2) :: (dT 13 []), dc, dc, dc, dc]
theorem s_cc_Pace_7_t {R : Type} (cp : Nat → Nat → Bool) (n : Nat) (p0 : SCc) (p1 p2 : Int) (k : Ex → FF → Option R) : X cp n i_cc_Pace_1 (fr_cc_Pace_8 p0 p1 p2) k = s_cc_Pace_7 cp n p0 p1 p2 (fun v58 => k .ret (fr_cc_Pace_6 v58)) := ((fun c => (show X cp n (.seq (.fin (.reg g_cc_Pace_0) [0, 6] []) (.seq (.seq (.fin (.reg g_cc_Pace_1) [10, 11] []) (.fin (.cond (.s 12) (.seq (.fin (.reg g_cc_Pace_2) [1, 2, 3, 12] [(49, 22)]) (.ret)) (.skip)) [12] [])) (.seq (.reg g_cc_Pace_3) (.seq (.blk 0 (.seq (.fin (.reg g_cc_Pace_4) [14, 15, 16] []) (.cond (.s 13) (.fin (.reg g_cc_Pace_5) [13, 17, 18, 19, 20, 21, 22] []) (.seq (.fin (.reg g_cc_Pace_6) [13, 24, 25, 26, 27, 28] []) (.fin (.cond (.s 23) (.fin (.reg g_cc_Pace_7) [23] []) (.skip)) [23] []))))) c)))) (fr_cc_Pace_8 p0 p1 p2) k = s_cc_Pace_1 cp n p0 p1 p2 (fun v51 v52 => X cp n c (fr_cc_Pace_2 p0 p1 p2 v51 v52) k) (k .ret (fr_cc_Pace_6 0)) from by kernel_rfl)) i_cc_Pace_0).trans (congrArg (fun q => s_cc_Pace_1 cp n p0 p1 p2 q (k .ret (fr_cc_Pace_6 0))) (funext fun v51 => funext fun v52 => (s_cc_Pace_4_t cp n p0 p1 p2 v51 v52 k).trans (show s_cc_Pace_4 cp n p0 p1 p2 v51 v52 (fun v57 => k .ret (fr_cc_Pace_5 v57)) = s_cc_Pace_4 cp n p0 p1 p2 v51 v52 (fun v57 => k .ret (fr_cc_Pace_6 v57)) from by kernel_rfl)))
theorem run_cc_Pace {R : Type} (cp : Nat → Nat → Bool) (n : Nat) (p0 : SCc) (p1 p2 : Int) (k : Ret2 RW → Option R) : G_cc_Pace cp (n + 1) p0 p1 p2 (fun r0 => k ⟨(tL r0), []⟩) = run2 U cp (callP cp n) n fn_cc_Pace [.agg (eCc p0), (tL p1), (tL p2)] [] k := ((X_run (f := fn_cc_Pace) (av := [.agg (eCc p0), (tL p1), (tL p2)]) (cells := []) (code := i_cc_Pace_1) (fr := (fr_cc_Pace_8 p0 p1 p2)) (k := k) (by kernel_rfl) (fun K => by kernel_rfl)).trans ((s_cc_Pace_7_t cp n p0 p1 p2 (finK2 fn_cc_Pace k)).trans (by kernel_rfl))).symm
/-! tideway/tidewaylaw19.heads -/
def fr_law19_heads_2 (v37 v38 v39 v40 : Int) (v41 v42 v43 : SCc) : FF := [dT 1 ((.ptr 82 0) :: (tL v37) :: (.ptr 105 0) :: (tL v38) :: (.ptr 128 0) :: (tL v39) :: (dT 1 ((tL v40) :: (dT 7 [])))), dc, dc, dc, dc, dT 2 ((.hdr 22) :: (sl 0 13 (eCc v41))), sl 13 9 (eCc v41) ++ ((.hdr 22) :: (sl 0 6 (eCc v42))), sl 6 16 (eCc v42), (.hdr 22) :: (sl 0 15 (eCc v43)), sl 15 7 (eCc v43) ++ (dT 9 []), dc, dc, dc]
def fr_law19_heads_4 (v61 : Bool) : FF := [(tB v61) :: (dT 15 []), dc, dc, dc, dc, dc, dc, dc, dc, dc, dc, dc, dc]
theorem s_law19_heads_3_t {R : Type} (cp : Nat → Nat → Bool) (n : Nat) (v37 v38 v39 v40 : Int) (v41 v42 v43 : SCc) (k : Ex → FF → Option R) : X cp n i_law19_heads_0 (fr_law19_heads_2 v37 v38 v39 v40 v41 v42 v43) k = s_law19_heads_3 cp n v37 v38 v39 v40 v41 v42 v43 (fun v61 => k .ret (fr_law19_heads_4 v61)) := by kernel_rfl
def fr_law19_heads_5 (v62 : Bool) : FF := [(tB v62) :: (dT 15 []), dc, dc, dc, dc, dc, dc, dc, dc, dc, dc, dc, dc]
def fr_law19_heads_7 : FF := [dc, dc, dc, dc, dc, dc, dc, dc, dc, dc, dc, dc, dc]
theorem s_law19_heads_6_t {R : Type} (cp : Nat → Nat → Bool) (n : Nat) (k : Ex → FF → Option R) : X cp n i_law19_heads_1 fr_law19_heads_7 k = s_law19_heads_6 cp n (fun v62 => k .ret (fr_law19_heads_5 v62)) := ((fun c => (show X cp n (.seq (.fin (.reg g_law19_heads_0) [0] []) (.seq (.fin (.reg g_law19_heads_1) [11, 12, 13, 14] []) (.seq (.fin (.reg g_law19_heads_2) [15, 16, 17, 18] []) (.seq (.fin (.reg g_law19_heads_3) [19, 20, 21, 22] []) (.seq (.fin (.reg g_law19_heads_4) [7, 23, 24, 25, 26] [(151, 22)]) c))))) fr_law19_heads_7 k = s_law19_heads_1 cp n (fun v37 v38 v39 v40 v41 v42 v43 => X cp n c (fr_law19_heads_2 v37 v38 v39 v40 v41 v42 v43) k) from by kernel_rfl)) i_law19_heads_0).trans (congrArg (fun q => s_law19_heads_1 cp n q) (funext fun v37 => funext fun v38 => funext fun v39 => funext fun v40 => funext fun v41 => funext fun v42 => funext fun v43 => (s_law19_heads_3_t cp n v37 v38 v39 v40 v41 v42 v43 k).trans (show s_law19_heads_3 cp n v37 v38 v39 v40 v41 v42 v43 (fun v61 => k .ret (fr_law19_heads_4 v61)) = s_law19_heads_3 cp n v37 v38 v39 v40 v41 v42 v43 (fun v61 => k .ret (fr_law19_heads_5 v61)) from by kernel_rfl)))
theorem run_law19_heads {R : Type} (cp : Nat → Nat → Bool) (n : Nat) (k : Ret2 RW → Option R) : G_law19_heads cp (n + 1) (fun r0 => k ⟨(tB r0), []⟩) = run2 U cp (callP cp n) n fn_law19_heads [] [] k := ((X_run (f := fn_law19_heads) (av := []) (cells := []) (code := i_law19_heads_1) (fr := fr_law19_heads_7) (k := k) (by kernel_rfl) (fun K => by kernel_rfl)).trans ((s_law19_heads_6_t cp n  (finK2 fn_law19_heads k)).trans (by kernel_rfl))).symm
/-! tideway/tidewaylaw19.CcRestLess -/
theorem run_law19_CcRestLess {R : Type} (cp : Nat → Nat → Bool) (n : Nat) (p0 : SCc) (p1 p2 p3 : Int) (k : Ret2 RW → Option R) : G_law19_CcRestLess cp (n + 1) p0 p1 p2 p3 (fun r0 => k ⟨(tB r0), []⟩) = run2 U cp (callP cp n) n fn_law19_CcRestLess [.agg (eCc p0), (tL p1), (tL p2), (tL p3)] [] k := by kernel_rfl
def tbl : Nat → Option IFn
  | 32 => some (fn_cc_time.lo U)
  | 33 => some (fn_cc_size.lo U)
  | 51 => some (fn_reno_size.lo U)
  | 1008 => some (fn_reno_ctl_plain.lo U)
  | 28 => some (fn_reno_Check.lo U)
  | 53 => some (fn_cubic_size.lo U)
  | 29 => some (fn_cubic_Check.lo U)
  | 54 => some (fn_bbr_within.lo U)
  | 92 => some (fn_filter_may.lo U)
  | 93 => some (fn_filter_beats.lo U)
  | 76 => some (fn_filter_Check.lo U)
  | 1013 => some (fn_bbr_ctl_entries.lo U)
  | 30 => some (fn_bbr_Check.lo U)
  | 10 => some (fn_cc_Check.lo U)
  | 31 => some (fn_cc_asked.lo U)
  | 12 => some (fn_cc_Rest.lo U)
  | 22 => some (fn_reno_New.lo U)
  | 23 => some (fn_cubic_New.lo U)
  | 24 => some (fn_bbr_New.lo U)
  | 7 => some (fn_cc_New.lo U)
  | 37 => some (fn_bbr_Gain.lo U)
  | 81 => some (fn_filter_Best.lo U)
  | 1025 => some (fn_bbr_ctl_bandwidth.lo U)
  | 38 => some (fn_bbr_Bandwidth.lo U)
  | 60 => some (fn_math_bits_Mul64.lo U)
  | 96 => some (fn_math_bits_Len64.lo U)
  | 82 => some (fn_math_bits_LeadingZeros64.lo U)
  | 61 => some (fn_math_bits_Div64.lo U)
  | 39 => some (fn_seq_MulDiv.lo U)
  | 16 => some (fn_cc_Pace.lo U)
  | 11 => some (fn_law19_heads.lo U)
  | 4 => some (fn_law19_CcRestLess.lo U)
  | _ => none
theorem chk_cc_time : chkFn Try.prog tbl (fn_cc_time.lo U) = true := by kernel_rfl
theorem chk_cc_size : chkFn Try.prog tbl (fn_cc_size.lo U) = true := by kernel_rfl
theorem chk_reno_size : chkFn Try.prog tbl (fn_reno_size.lo U) = true := by kernel_rfl
theorem chk_reno_ctl_plain : chkFn Try.prog tbl (fn_reno_ctl_plain.lo U) = true := by kernel_rfl
theorem chk_reno_Check : chkFn Try.prog tbl (fn_reno_Check.lo U) = true := by kernel_rfl
theorem chk_cubic_size : chkFn Try.prog tbl (fn_cubic_size.lo U) = true := by kernel_rfl
theorem chk_cubic_Check : chkFn Try.prog tbl (fn_cubic_Check.lo U) = true := by kernel_rfl
theorem chk_bbr_within : chkFn Try.prog tbl (fn_bbr_within.lo U) = true := by kernel_rfl
theorem chk_filter_may : chkFn Try.prog tbl (fn_filter_may.lo U) = true := by kernel_rfl
theorem chk_filter_beats : chkFn Try.prog tbl (fn_filter_beats.lo U) = true := by kernel_rfl
theorem chk_filter_Check : chkFn Try.prog tbl (fn_filter_Check.lo U) = true := by kernel_rfl
theorem chk_bbr_ctl_entries : chkFn Try.prog tbl (fn_bbr_ctl_entries.lo U) = true := by kernel_rfl
theorem chk_bbr_Check : chkFn Try.prog tbl (fn_bbr_Check.lo U) = true := by kernel_rfl
theorem chk_cc_Check : chkFn Try.prog tbl (fn_cc_Check.lo U) = true := by kernel_rfl
theorem chk_cc_asked : chkFn Try.prog tbl (fn_cc_asked.lo U) = true := by kernel_rfl
theorem chk_cc_Rest : chkFn Try.prog tbl (fn_cc_Rest.lo U) = true := by kernel_rfl
theorem chk_reno_New : chkFn Try.prog tbl (fn_reno_New.lo U) = true := by kernel_rfl
theorem chk_cubic_New : chkFn Try.prog tbl (fn_cubic_New.lo U) = true := by kernel_rfl
theorem chk_bbr_New : chkFn Try.prog tbl (fn_bbr_New.lo U) = true := by kernel_rfl
theorem chk_cc_New : chkFn Try.prog tbl (fn_cc_New.lo U) = true := by kernel_rfl
theorem chk_bbr_Gain : chkFn Try.prog tbl (fn_bbr_Gain.lo U) = true := by kernel_rfl
theorem chk_filter_Best : chkFn Try.prog tbl (fn_filter_Best.lo U) = true := by kernel_rfl
theorem chk_bbr_ctl_bandwidth : chkFn Try.prog tbl (fn_bbr_ctl_bandwidth.lo U) = true := by kernel_rfl
theorem chk_bbr_Bandwidth : chkFn Try.prog tbl (fn_bbr_Bandwidth.lo U) = true := by kernel_rfl
theorem chk_math_bits_Mul64 : chkFn Try.prog tbl (fn_math_bits_Mul64.lo U) = true := by kernel_rfl
theorem chk_math_bits_Len64 : chkFn Try.prog tbl (fn_math_bits_Len64.lo U) = true := by kernel_rfl
theorem chk_math_bits_LeadingZeros64 : chkFn Try.prog tbl (fn_math_bits_LeadingZeros64.lo U) = true := by kernel_rfl
theorem chk_math_bits_Div64 : chkFn Try.prog tbl (fn_math_bits_Div64.lo U) = true := by kernel_rfl
theorem chk_seq_MulDiv : chkFn Try.prog tbl (fn_seq_MulDiv.lo U) = true := by kernel_rfl
theorem chk_cc_Pace : chkFn Try.prog tbl (fn_cc_Pace.lo U) = true := by kernel_rfl
theorem chk_law19_heads : chkFn Try.prog tbl (fn_law19_heads.lo U) = true := by kernel_rfl
theorem chk_law19_CcRestLess : chkFn Try.prog tbl (fn_law19_CcRestLess.lo U) = true := by kernel_rfl
theorem chkAll : ∀ (id : Nat) (f : IFn), tbl id = some f → chkFn Try.prog tbl f = true := by
  intro id f h
  unfold tbl at h
  split at h
  · cases h; exact chk_cc_time
  · cases h; exact chk_cc_size
  · cases h; exact chk_reno_size
  · cases h; exact chk_reno_ctl_plain
  · cases h; exact chk_reno_Check
  · cases h; exact chk_cubic_size
  · cases h; exact chk_cubic_Check
  · cases h; exact chk_bbr_within
  · cases h; exact chk_filter_may
  · cases h; exact chk_filter_beats
  · cases h; exact chk_filter_Check
  · cases h; exact chk_bbr_ctl_entries
  · cases h; exact chk_bbr_Check
  · cases h; exact chk_cc_Check
  · cases h; exact chk_cc_asked
  · cases h; exact chk_cc_Rest
  · cases h; exact chk_reno_New
  · cases h; exact chk_cubic_New
  · cases h; exact chk_bbr_New
  · cases h; exact chk_cc_New
  · cases h; exact chk_bbr_Gain
  · cases h; exact chk_filter_Best
  · cases h; exact chk_bbr_ctl_bandwidth
  · cases h; exact chk_bbr_Bandwidth
  · cases h; exact chk_math_bits_Mul64
  · cases h; exact chk_math_bits_Len64
  · cases h; exact chk_math_bits_LeadingZeros64
  · cases h; exact chk_math_bits_Div64
  · cases h; exact chk_seq_MulDiv
  · cases h; exact chk_cc_Pace
  · cases h; exact chk_law19_heads
  · cases h; exact chk_law19_CcRestLess
  · cases h
theorem dI_ok {kd : IntKind} {y : TV RW} {a : Int} (h : dI kd y = some a) : y = .sc (.int kd a) := by
  unfold dI at h
  split at h
  · obtain ⟨h1, h2⟩ := cond_some h
    cases h2
    rw [of_decide_eq_true h1]
  · cases h
theorem dB_ok {y : TV RW} {a : Bool} (h : dB y = some a) : y = .sc (.bool a) := by
  unfold dB at h
  split at h <;> cases h
  rfl
theorem dS_ok {y : TV RW} {a : ByteArray} (h : dS y = some a) : y = .sc (.string a) := by
  unfold dS at h
  split at h <;> cases h
  rfl
theorem dA_ok {y : TV RW} {a : Fr} (h : dA y = some a) : y = .agg a := by
  unfold dA at h
  split at h <;> cases h
  rfl
theorem dOne_ok {y : Fr} {a : TV RW} (h : dOne y = some a) : y = [a] := by
  unfold dOne at h
  split at h <;> cases h
  rfl
theorem dP_ok {a b : Nat} {y : TV RW} {u : Unit} (h : dP a b y = some u) : y = .ptr a b := by
  unfold dP at h
  split at h
  · obtain ⟨h1, h2⟩ := cond_some h
    simp only [Bool.and_eq_true] at h1
    rw [nbeq h1.1, nbeq h1.2]
  · cases h
theorem dC_ok {a : Nat} {b : List (Nat × Nat)} {y : TV RW} {u : Unit} (h : dC a b y = some u) : y = .clo a b := by
  unfold dC at h
  split at h
  · obtain ⟨h1, h2⟩ := cond_some h
    simp only [Bool.and_eq_true] at h1
    rw [nbeq h1.1, of_decide_eq_true h1.2]
  · cases h
theorem dREntry_ok {fl : Bool} {y : TV RW} {a : List SEntry} (h : dREntry fl y = some a) : y = .row fl (.rEntry a) := by
  unfold dREntry at h
  split at h
  · obtain ⟨h1, h2⟩ := cond_some h
    cases h2
    rw [eq_of_beq h1]
  · cases h
theorem dRint_ok {fl : Bool} {y : TV RW} {a : List Int} (h : dRint fl y = some a) : y = .row fl (.rint a) := by
  unfold dRint at h
  split at h
  · obtain ⟨h1, h2⟩ := cond_some h
    cases h2
    rw [eq_of_beq h1]
  · cases h
theorem dCc_ok {L : Fr} {a : SCc} (h : dCc L = some a) : L = eCc a := by
  unfold dCc at h
  split at h
  · simp only [Option.bind_eq_some_iff] at h
    obtain ⟨a0, h0, a1, h1, a2, h2, a3, h3, a4, h4, a5, h5, a6, h6, a7, h7, a8, h8, a9, h9, a10, h10, a11, h11, a12, h12, a13, h13, a14, h14, a15, h15, a16, h16, a17, h17, a18, h18, a19, h19, a20, h20, a21, h21, h⟩ := h
    cases h
    obtain rfl := dI_ok h0
    obtain rfl := dI_ok h1
    obtain rfl := dI_ok h2
    obtain rfl := dI_ok h3
    obtain rfl := dI_ok h4
    obtain rfl := dI_ok h5
    obtain rfl := dI_ok h6
    obtain rfl := dI_ok h7
    obtain rfl := dI_ok h8
    obtain rfl := dI_ok h9
    obtain rfl := dI_ok h10
    obtain rfl := dREntry_ok h11
    obtain rfl := dI_ok h12
    obtain rfl := dI_ok h13
    obtain rfl := dI_ok h14
    obtain rfl := dI_ok h15
    obtain rfl := dI_ok h16
    obtain rfl := dI_ok h17
    obtain rfl := dI_ok h18
    obtain rfl := dI_ok h19
    obtain rfl := dI_ok h20
    obtain rfl := dI_ok h21
    rfl
  · cases h
theorem dCct_ok {L : Fr} {a : SCc} (h : dCct L = some a) : L = eCct a := by
  unfold dCct at h
  split at h
  · simp only [Option.bind_eq_some_iff] at h
    obtain ⟨a0, h0, a1, h1, a2, h2, a3, h3, a4, h4, a5, h5, a6, h6, a7, h7, a8, h8, a9, h9, a10, h10, a11, h11, a12, h12, a13, h13, a14, h14, a15, h15, a16, h16, a17, h17, a18, h18, a19, h19, a20, h20, a21, h21, h⟩ := h
    cases h
    obtain rfl := dI_ok h0
    obtain rfl := dI_ok h1
    obtain rfl := dI_ok h2
    obtain rfl := dI_ok h3
    obtain rfl := dI_ok h4
    obtain rfl := dI_ok h5
    obtain rfl := dI_ok h6
    obtain rfl := dI_ok h7
    obtain rfl := dI_ok h8
    obtain rfl := dI_ok h9
    obtain rfl := dI_ok h10
    obtain rfl := dREntry_ok h11
    obtain rfl := dI_ok h12
    obtain rfl := dI_ok h13
    obtain rfl := dI_ok h14
    obtain rfl := dI_ok h15
    obtain rfl := dI_ok h16
    obtain rfl := dI_ok h17
    obtain rfl := dI_ok h18
    obtain rfl := dI_ok h19
    obtain rfl := dI_ok h20
    obtain rfl := dI_ok h21
    rfl
  · cases h
theorem dEntry_ok {L : Fr} {a : SEntry} (h : dEntry L = some a) : L = eEntry a := by
  unfold dEntry at h
  split at h
  · simp only [Option.bind_eq_some_iff] at h
    obtain ⟨a0, h0, a1, h1, h⟩ := h
    cases h
    obtain rfl := dI_ok h0
    obtain rfl := dI_ok h1
    rfl
  · cases h
theorem dctl_ok {L : Fr} {a : Sctl} (h : dctl L = some a) : L = ectl a := by
  unfold dctl at h
  split at h
  · simp only [Option.bind_eq_some_iff] at h
    obtain ⟨a0, h0, a1, h1, a2, h2, a3, h3, a4, h4, a5, h5, a6, h6, a7, h7, a8, h8, a9, h9, a10, h10, a11, h11, a12, h12, a13, h13, a14, h14, a15, h15, a16, h16, a17, h17, a18, h18, a19, h19, a20, h20, a21, h21, h⟩ := h
    cases h
    obtain rfl := dI_ok h0
    obtain rfl := dI_ok h1
    obtain rfl := dI_ok h2
    obtain rfl := dI_ok h3
    obtain rfl := dI_ok h4
    obtain rfl := dI_ok h5
    obtain rfl := dI_ok h6
    obtain rfl := dI_ok h7
    obtain rfl := dI_ok h8
    obtain rfl := dI_ok h9
    obtain rfl := dI_ok h10
    obtain rfl := dREntry_ok h11
    obtain rfl := dI_ok h12
    obtain rfl := dI_ok h13
    obtain rfl := dI_ok h14
    obtain rfl := dI_ok h15
    obtain rfl := dI_ok h16
    obtain rfl := dI_ok h17
    obtain rfl := dI_ok h18
    obtain rfl := dI_ok h19
    obtain rfl := dI_ok h20
    obtain rfl := dI_ok h21
    rfl
  · cases h
theorem dctlt_ok {L : Fr} {a : Sctl} (h : dctlt L = some a) : L = ectlt a := by
  unfold dctlt at h
  split at h
  · simp only [Option.bind_eq_some_iff] at h
    obtain ⟨a0, h0, a1, h1, a2, h2, a3, h3, a4, h4, a5, h5, a6, h6, a7, h7, a8, h8, a9, h9, a10, h10, a11, h11, a12, h12, a13, h13, a14, h14, a15, h15, a16, h16, a17, h17, a18, h18, a19, h19, a20, h20, a21, h21, h⟩ := h
    cases h
    obtain rfl := dI_ok h0
    obtain rfl := dI_ok h1
    obtain rfl := dI_ok h2
    obtain rfl := dI_ok h3
    obtain rfl := dI_ok h4
    obtain rfl := dI_ok h5
    obtain rfl := dI_ok h6
    obtain rfl := dI_ok h7
    obtain rfl := dI_ok h8
    obtain rfl := dI_ok h9
    obtain rfl := dI_ok h10
    obtain rfl := dREntry_ok h11
    obtain rfl := dI_ok h12
    obtain rfl := dI_ok h13
    obtain rfl := dI_ok h14
    obtain rfl := dI_ok h15
    obtain rfl := dI_ok h16
    obtain rfl := dI_ok h17
    obtain rfl := dI_ok h18
    obtain rfl := dI_ok h19
    obtain rfl := dI_ok h20
    obtain rfl := dI_ok h21
    rfl
  · cases h
theorem dT68_ok {L : Fr} {a : ST68} (h : dT68 L = some a) : L = eT68 a := by
  unfold dT68 at h
  split at h
  · simp only [Option.bind_eq_some_iff] at h
    obtain ⟨a0, h0, a1, h1, a2, h2, a3, h3, a4, h4, a5, h5, a6, h6, a7, h7, a8, h8, a9, h9, a10, h10, a11, h11, a12, h12, a13, h13, a14, h14, a15, h15, a16, h16, a17, h17, a18, h18, a19, h19, a20, h20, a21, h21, h⟩ := h
    cases h
    obtain rfl := dI_ok h0
    obtain rfl := dI_ok h1
    obtain rfl := dI_ok h2
    obtain rfl := dI_ok h3
    obtain rfl := dI_ok h4
    obtain rfl := dI_ok h5
    obtain rfl := dI_ok h6
    obtain rfl := dI_ok h7
    obtain rfl := dI_ok h8
    obtain rfl := dI_ok h9
    obtain rfl := dI_ok h10
    obtain rfl := dREntry_ok h11
    obtain rfl := dI_ok h12
    obtain rfl := dI_ok h13
    obtain rfl := dI_ok h14
    obtain rfl := dI_ok h15
    obtain rfl := dI_ok h16
    obtain rfl := dI_ok h17
    obtain rfl := dI_ok h18
    obtain rfl := dI_ok h19
    obtain rfl := dI_ok h20
    obtain rfl := dI_ok h21
    rfl
  · cases h
theorem dT68t_ok {L : Fr} {a : ST68} (h : dT68t L = some a) : L = eT68t a := by
  unfold dT68t at h
  split at h
  · simp only [Option.bind_eq_some_iff] at h
    obtain ⟨a0, h0, a1, h1, a2, h2, a3, h3, a4, h4, a5, h5, a6, h6, a7, h7, a8, h8, a9, h9, a10, h10, a11, h11, a12, h12, a13, h13, a14, h14, a15, h15, a16, h16, a17, h17, a18, h18, a19, h19, a20, h20, a21, h21, h⟩ := h
    cases h
    obtain rfl := dI_ok h0
    obtain rfl := dI_ok h1
    obtain rfl := dI_ok h2
    obtain rfl := dI_ok h3
    obtain rfl := dI_ok h4
    obtain rfl := dI_ok h5
    obtain rfl := dI_ok h6
    obtain rfl := dI_ok h7
    obtain rfl := dI_ok h8
    obtain rfl := dI_ok h9
    obtain rfl := dI_ok h10
    obtain rfl := dREntry_ok h11
    obtain rfl := dI_ok h12
    obtain rfl := dI_ok h13
    obtain rfl := dI_ok h14
    obtain rfl := dI_ok h15
    obtain rfl := dI_ok h16
    obtain rfl := dI_ok h17
    obtain rfl := dI_ok h18
    obtain rfl := dI_ok h19
    obtain rfl := dI_ok h20
    obtain rfl := dI_ok h21
    rfl
  · cases h
theorem pEntry_ok : ∀ {L : Fr} {xs : List SEntry}, pEntry_ L = some xs → TV.los U L = (xs.map cEntry).flatten
  | [], xs, h => by cases h; rfl
  | [_], xs, h => by cases h
  | y0 :: y1 :: r, xs, h => by
    simp only [pEntry_, Option.bind_eq_some_iff] at h
    obtain ⟨a0, h0, a1, h1, xs', h', h⟩ := h
    cases h
    have ih := pEntry_ok h'
    obtain rfl := dI_ok h0
    obtain rfl := dI_ok h1
    show _ :: _ :: TV.los U r = _
    rw [ih]; rfl
theorem pint_ok : ∀ {L : Fr} {xs : List Int}, pint_ L = some xs → TV.los U L = (xs.map cint).flatten
  | [], xs, h => by cases h; rfl
  | y0 :: r, xs, h => by
    simp only [pint_, Option.bind_eq_some_iff] at h
    obtain ⟨a0, h0, xs', h', h⟩ := h
    cases h
    have ih := pint_ok h'
    obtain rfl := dI_ok h0
    show _ :: TV.los U r = _
    rw [ih]; rfl
theorem UOk : UniOk U where
  get := fun r i => match r with
    | .rEntry xs => by kernel_rfl
    | .rint xs => by kernel_rfl
  app := fun r q x h => by cases r <;> cases q <;> first | (cases h; done) | (cases h; exact ⟨rfl, rfl, List.length_append, (rg_app (c := cEntry) (z := zEntry)).symm⟩) | (cases h; exact ⟨rfl, rfl, List.length_append, (rg_app (c := cint) (z := zint)).symm⟩)
  sub := fun lo n r h => by cases r <;> first | exact ⟨rfl, sub_len h, (rg_sub (c := cEntry) (z := zEntry) h).symm⟩ | exact ⟨rfl, sub_len h, (rg_sub (c := cint) (z := zint) h).symm⟩
  lit := fun t n L r h => by
    unfold U at h
    dsimp only at h
    split at h
    · obtain ⟨xs, h1, rfl, rfl⟩ := bind_lit h
      have e := pEntry_ok h1
      exact ⟨rfl, rfl, by rw [e]; exact (rg_lit (c := cEntry) (sz := 2) (z := zEntry) (fun _ => rfl)).symm, by rw [e]; exact all_flat (fun _ => rfl) xs⟩
    · obtain ⟨xs, h1, rfl, rfl⟩ := bind_lit h
      have e := pint_ok h1
      exact ⟨rfl, rfl, by rw [e]; exact (rg_lit (c := cint) (sz := 1) (z := zint) (fun _ => rfl)).symm, by rw [e]; exact all_flat (fun _ => rfl) xs⟩
    · cases h
theorem ok_cc_time {R : Type} {r : R} : ∀ {n : Nat}, (∀ m, n = m + 1 → CallOk2 (R := R) U (callP capB m) (runF tbl m)) → ∀ {av : Fr} {cs : List Fr} {k : Ret2 RW → Option R}, ca_cc_time capB n av cs k = some r → ∃ q : Ret2 RW, runF tbl n 32 (TV.los U av) (cs.map (TV.los U)) = some (q.lo U) ∧ k q = some r := by
  intro n ih av cs k h
  unfold ca_cc_time at h
  split at h
  · simp only [Option.bind_eq_some_iff] at h
    obtain ⟨p0, h0, h⟩ := h
    obtain rfl := dI_ok h0
    cases n with
    | zero => cases h
    | succ n =>
      exact run2_ok UOk (ih n rfl) (f := fn_cc_time) rfl ((run_cc_time capB n p0 k).symm.trans h)
  · cases h
theorem ok_cc_size {R : Type} {r : R} : ∀ {n : Nat}, (∀ m, n = m + 1 → CallOk2 (R := R) U (callP capB m) (runF tbl m)) → ∀ {av : Fr} {cs : List Fr} {k : Ret2 RW → Option R}, ca_cc_size capB n av cs k = some r → ∃ q : Ret2 RW, runF tbl n 33 (TV.los U av) (cs.map (TV.los U)) = some (q.lo U) ∧ k q = some r := by
  intro n ih av cs k h
  unfold ca_cc_size at h
  split at h
  · simp only [Option.bind_eq_some_iff] at h
    obtain ⟨p0, h0, h⟩ := h
    obtain rfl := dI_ok h0
    cases n with
    | zero => cases h
    | succ n =>
      exact run2_ok UOk (ih n rfl) (f := fn_cc_size) rfl ((run_cc_size capB n p0 k).symm.trans h)
  · cases h
theorem ok_reno_size {R : Type} {r : R} : ∀ {n : Nat}, (∀ m, n = m + 1 → CallOk2 (R := R) U (callP capB m) (runF tbl m)) → ∀ {av : Fr} {cs : List Fr} {k : Ret2 RW → Option R}, ca_reno_size capB n av cs k = some r → ∃ q : Ret2 RW, runF tbl n 51 (TV.los U av) (cs.map (TV.los U)) = some (q.lo U) ∧ k q = some r := by
  intro n ih av cs k h
  unfold ca_reno_size at h
  split at h
  · simp only [Option.bind_eq_some_iff] at h
    obtain ⟨p0, h0, h⟩ := h
    obtain rfl := dI_ok h0
    cases n with
    | zero => cases h
    | succ n =>
      exact run2_ok UOk (ih n rfl) (f := fn_reno_size) rfl ((run_reno_size capB n p0 k).symm.trans h)
  · cases h
theorem ok_reno_ctl_plain {R : Type} {r : R} : ∀ {n : Nat}, (∀ m, n = m + 1 → CallOk2 (R := R) U (callP capB m) (runF tbl m)) → ∀ {av : Fr} {cs : List Fr} {k : Ret2 RW → Option R}, ca_reno_ctl_plain capB n av cs k = some r → ∃ q : Ret2 RW, runF tbl n 1008 (TV.los U av) (cs.map (TV.los U)) = some (q.lo U) ∧ k q = some r := by
  intro n ih av cs k h
  unfold ca_reno_ctl_plain at h
  split at h
  · simp only [Option.bind_eq_some_iff] at h
    obtain ⟨u0, h0, q0, i0, h⟩ := h
    obtain rfl := dP_ok h0
    obtain rfl := dctl_ok i0
    cases n with
    | zero => cases h
    | succ n =>
      exact run2_ok UOk (ih n rfl) (f := fn_reno_ctl_plain) rfl ((run_reno_ctl_plain capB n q0 k).symm.trans h)
  · cases h
theorem ok_reno_Check {R : Type} {r : R} : ∀ {n : Nat}, (∀ m, n = m + 1 → CallOk2 (R := R) U (callP capB m) (runF tbl m)) → ∀ {av : Fr} {cs : List Fr} {k : Ret2 RW → Option R}, ca_reno_Check capB n av cs k = some r → ∃ q : Ret2 RW, runF tbl n 28 (TV.los U av) (cs.map (TV.los U)) = some (q.lo U) ∧ k q = some r := by
  intro n ih av cs k h
  unfold ca_reno_Check at h
  split at h
  · simp only [Option.bind_eq_some_iff] at h
    obtain ⟨c0_, h0, p0, g0, h⟩ := h
    obtain rfl := dA_ok h0
    obtain rfl := dCc_ok g0
    cases n with
    | zero => cases h
    | succ n =>
      exact run2_ok UOk (ih n rfl) (f := fn_reno_Check) rfl ((run_reno_Check capB n p0 k).symm.trans h)
  · cases h
theorem ok_cubic_size {R : Type} {r : R} : ∀ {n : Nat}, (∀ m, n = m + 1 → CallOk2 (R := R) U (callP capB m) (runF tbl m)) → ∀ {av : Fr} {cs : List Fr} {k : Ret2 RW → Option R}, ca_cubic_size capB n av cs k = some r → ∃ q : Ret2 RW, runF tbl n 53 (TV.los U av) (cs.map (TV.los U)) = some (q.lo U) ∧ k q = some r := by
  intro n ih av cs k h
  unfold ca_cubic_size at h
  split at h
  · simp only [Option.bind_eq_some_iff] at h
    obtain ⟨p0, h0, h⟩ := h
    obtain rfl := dRint_ok h0
    cases n with
    | zero => cases h
    | succ n =>
      exact run2_ok UOk (ih n rfl) (f := fn_cubic_size) rfl ((run_cubic_size capB n p0 k).symm.trans h)
  · cases h
theorem ok_cubic_Check {R : Type} {r : R} : ∀ {n : Nat}, (∀ m, n = m + 1 → CallOk2 (R := R) U (callP capB m) (runF tbl m)) → ∀ {av : Fr} {cs : List Fr} {k : Ret2 RW → Option R}, ca_cubic_Check capB n av cs k = some r → ∃ q : Ret2 RW, runF tbl n 29 (TV.los U av) (cs.map (TV.los U)) = some (q.lo U) ∧ k q = some r := by
  intro n ih av cs k h
  unfold ca_cubic_Check at h
  split at h
  · simp only [Option.bind_eq_some_iff] at h
    obtain ⟨c0_, h0, p0, g0, h⟩ := h
    obtain rfl := dA_ok h0
    obtain rfl := dCc_ok g0
    cases n with
    | zero => cases h
    | succ n =>
      exact run2_ok UOk (ih n rfl) (f := fn_cubic_Check) rfl ((run_cubic_Check capB n p0 k).symm.trans h)
  · cases h
theorem ok_bbr_within {R : Type} {r : R} : ∀ {n : Nat}, (∀ m, n = m + 1 → CallOk2 (R := R) U (callP capB m) (runF tbl m)) → ∀ {av : Fr} {cs : List Fr} {k : Ret2 RW → Option R}, ca_bbr_within capB n av cs k = some r → ∃ q : Ret2 RW, runF tbl n 54 (TV.los U av) (cs.map (TV.los U)) = some (q.lo U) ∧ k q = some r := by
  intro n ih av cs k h
  unfold ca_bbr_within at h
  split at h
  · simp only [Option.bind_eq_some_iff] at h
    obtain ⟨p0, h0, p1, h1, h⟩ := h
    obtain rfl := dI_ok h0
    obtain rfl := dRint_ok h1
    cases n with
    | zero => cases h
    | succ n =>
      exact run2_ok UOk (ih n rfl) (f := fn_bbr_within) rfl ((run_bbr_within capB n p0 p1 k).symm.trans h)
  · cases h
theorem ok_filter_may {R : Type} {r : R} : ∀ {n : Nat}, (∀ m, n = m + 1 → CallOk2 (R := R) U (callP capB m) (runF tbl m)) → ∀ {av : Fr} {cs : List Fr} {k : Ret2 RW → Option R}, ca_filter_may capB n av cs k = some r → ∃ q : Ret2 RW, runF tbl n 92 (TV.los U av) (cs.map (TV.los U)) = some (q.lo U) ∧ k q = some r := by
  intro n ih av cs k h
  unfold ca_filter_may at h
  split at h
  · simp only [Option.bind_eq_some_iff] at h
    obtain ⟨c0_, h0, p0, g0, h⟩ := h
    obtain rfl := dA_ok h0
    obtain rfl := dEntry_ok g0
    cases n with
    | zero => cases h
    | succ n =>
      exact run2_ok UOk (ih n rfl) (f := fn_filter_may) rfl ((run_filter_may capB n p0 k).symm.trans h)
  · cases h
theorem ok_filter_beats {R : Type} {r : R} : ∀ {n : Nat}, (∀ m, n = m + 1 → CallOk2 (R := R) U (callP capB m) (runF tbl m)) → ∀ {av : Fr} {cs : List Fr} {k : Ret2 RW → Option R}, ca_filter_beats capB n av cs k = some r → ∃ q : Ret2 RW, runF tbl n 93 (TV.los U av) (cs.map (TV.los U)) = some (q.lo U) ∧ k q = some r := by
  intro n ih av cs k h
  unfold ca_filter_beats at h
  split at h
  · simp only [Option.bind_eq_some_iff] at h
    obtain ⟨p0, h0, p1, h1, p2, h2, h⟩ := h
    obtain rfl := dI_ok h0
    obtain rfl := dI_ok h1
    obtain rfl := dB_ok h2
    cases n with
    | zero => cases h
    | succ n =>
      exact run2_ok UOk (ih n rfl) (f := fn_filter_beats) rfl ((run_filter_beats capB n p0 p1 p2 k).symm.trans h)
  · cases h
theorem ok_filter_Check {R : Type} {r : R} : ∀ {n : Nat}, (∀ m, n = m + 1 → CallOk2 (R := R) U (callP capB m) (runF tbl m)) → ∀ {av : Fr} {cs : List Fr} {k : Ret2 RW → Option R}, ca_filter_Check capB n av cs k = some r → ∃ q : Ret2 RW, runF tbl n 76 (TV.los U av) (cs.map (TV.los U)) = some (q.lo U) ∧ k q = some r := by
  intro n ih av cs k h
  unfold ca_filter_Check at h
  split at h
  · simp only [Option.bind_eq_some_iff] at h
    obtain ⟨p0, h0, p1, h1, h⟩ := h
    obtain rfl := dREntry_ok h0
    obtain rfl := dB_ok h1
    cases n with
    | zero => cases h
    | succ n =>
      exact run2_ok UOk (ih n rfl) (f := fn_filter_Check) rfl ((run_filter_Check capB n p0 p1 k).symm.trans h)
  · cases h
theorem ok_bbr_ctl_entries {R : Type} {r : R} : ∀ {n : Nat}, (∀ m, n = m + 1 → CallOk2 (R := R) U (callP capB m) (runF tbl m)) → ∀ {av : Fr} {cs : List Fr} {k : Ret2 RW → Option R}, ca_bbr_ctl_entries capB n av cs k = some r → ∃ q : Ret2 RW, runF tbl n 1013 (TV.los U av) (cs.map (TV.los U)) = some (q.lo U) ∧ k q = some r := by
  intro n ih av cs k h
  unfold ca_bbr_ctl_entries at h
  split at h
  · simp only [Option.bind_eq_some_iff] at h
    obtain ⟨u0, h0, q0, i0, h⟩ := h
    obtain rfl := dP_ok h0
    obtain rfl := dT68_ok i0
    cases n with
    | zero => cases h
    | succ n =>
      exact run2_ok UOk (ih n rfl) (f := fn_bbr_ctl_entries) rfl ((run_bbr_ctl_entries capB n q0 k).symm.trans h)
  · cases h
theorem ok_bbr_Check {R : Type} {r : R} : ∀ {n : Nat}, (∀ m, n = m + 1 → CallOk2 (R := R) U (callP capB m) (runF tbl m)) → ∀ {av : Fr} {cs : List Fr} {k : Ret2 RW → Option R}, ca_bbr_Check capB n av cs k = some r → ∃ q : Ret2 RW, runF tbl n 30 (TV.los U av) (cs.map (TV.los U)) = some (q.lo U) ∧ k q = some r := by
  intro n ih av cs k h
  unfold ca_bbr_Check at h
  split at h
  · simp only [Option.bind_eq_some_iff] at h
    obtain ⟨c0_, h0, p0, g0, h⟩ := h
    obtain rfl := dA_ok h0
    obtain rfl := dCc_ok g0
    cases n with
    | zero => cases h
    | succ n =>
      exact run2_ok UOk (ih n rfl) (f := fn_bbr_Check) rfl ((run_bbr_Check capB n p0 k).symm.trans h)
  · cases h
theorem ok_cc_Check {R : Type} {r : R} : ∀ {n : Nat}, (∀ m, n = m + 1 → CallOk2 (R := R) U (callP capB m) (runF tbl m)) → ∀ {av : Fr} {cs : List Fr} {k : Ret2 RW → Option R}, ca_cc_Check capB n av cs k = some r → ∃ q : Ret2 RW, runF tbl n 10 (TV.los U av) (cs.map (TV.los U)) = some (q.lo U) ∧ k q = some r := by
  intro n ih av cs k h
  unfold ca_cc_Check at h
  split at h
  · simp only [Option.bind_eq_some_iff] at h
    obtain ⟨c0_, h0, p0, g0, h⟩ := h
    obtain rfl := dA_ok h0
    obtain rfl := dCc_ok g0
    cases n with
    | zero => cases h
    | succ n =>
      exact run2_ok UOk (ih n rfl) (f := fn_cc_Check) rfl ((run_cc_Check capB n p0 k).symm.trans h)
  · cases h
theorem ok_cc_asked {R : Type} {r : R} : ∀ {n : Nat}, (∀ m, n = m + 1 → CallOk2 (R := R) U (callP capB m) (runF tbl m)) → ∀ {av : Fr} {cs : List Fr} {k : Ret2 RW → Option R}, ca_cc_asked capB n av cs k = some r → ∃ q : Ret2 RW, runF tbl n 31 (TV.los U av) (cs.map (TV.los U)) = some (q.lo U) ∧ k q = some r := by
  intro n ih av cs k h
  unfold ca_cc_asked at h
  split at h
  · simp only [Option.bind_eq_some_iff] at h
    obtain ⟨c0_, h0, p0, g0, p1, h1, h⟩ := h
    obtain rfl := dA_ok h0
    obtain rfl := dCc_ok g0
    obtain rfl := dB_ok h1
    cases n with
    | zero => cases h
    | succ n =>
      exact run2_ok UOk (ih n rfl) (f := fn_cc_asked) rfl ((run_cc_asked capB n p0 p1 k).symm.trans h)
  · cases h
theorem ok_cc_Rest {R : Type} {r : R} : ∀ {n : Nat}, (∀ m, n = m + 1 → CallOk2 (R := R) U (callP capB m) (runF tbl m)) → ∀ {av : Fr} {cs : List Fr} {k : Ret2 RW → Option R}, ca_cc_Rest capB n av cs k = some r → ∃ q : Ret2 RW, runF tbl n 12 (TV.los U av) (cs.map (TV.los U)) = some (q.lo U) ∧ k q = some r := by
  intro n ih av cs k h
  unfold ca_cc_Rest at h
  split at h
  · simp only [Option.bind_eq_some_iff] at h
    obtain ⟨c0_, h0, p0, g0, p1, h1, p2, h2, p3, h3, h⟩ := h
    obtain rfl := dA_ok h0
    obtain rfl := dCc_ok g0
    obtain rfl := dI_ok h1
    obtain rfl := dI_ok h2
    obtain rfl := dI_ok h3
    cases n with
    | zero => cases h
    | succ n =>
      exact run2_ok UOk (ih n rfl) (f := fn_cc_Rest) rfl ((run_cc_Rest capB n p0 p1 p2 p3 k).symm.trans h)
  · cases h
theorem ok_reno_New {R : Type} {r : R} : ∀ {n : Nat}, (∀ m, n = m + 1 → CallOk2 (R := R) U (callP capB m) (runF tbl m)) → ∀ {av : Fr} {cs : List Fr} {k : Ret2 RW → Option R}, ca_reno_New capB n av cs k = some r → ∃ q : Ret2 RW, runF tbl n 22 (TV.los U av) (cs.map (TV.los U)) = some (q.lo U) ∧ k q = some r := by
  intro n ih av cs k h
  unfold ca_reno_New at h
  split at h
  · simp only [Option.bind_eq_some_iff] at h
    obtain ⟨p0, h0, p1, h1, h⟩ := h
    obtain rfl := dI_ok h0
    obtain rfl := dI_ok h1
    cases n with
    | zero => cases h
    | succ n =>
      exact run2_ok UOk (ih n rfl) (f := fn_reno_New) rfl ((run_reno_New capB n p0 p1 k).symm.trans h)
  · cases h
theorem ok_cubic_New {R : Type} {r : R} : ∀ {n : Nat}, (∀ m, n = m + 1 → CallOk2 (R := R) U (callP capB m) (runF tbl m)) → ∀ {av : Fr} {cs : List Fr} {k : Ret2 RW → Option R}, ca_cubic_New capB n av cs k = some r → ∃ q : Ret2 RW, runF tbl n 23 (TV.los U av) (cs.map (TV.los U)) = some (q.lo U) ∧ k q = some r := by
  intro n ih av cs k h
  unfold ca_cubic_New at h
  split at h
  · simp only [Option.bind_eq_some_iff] at h
    obtain ⟨p0, h0, p1, h1, h⟩ := h
    obtain rfl := dI_ok h0
    obtain rfl := dI_ok h1
    cases n with
    | zero => cases h
    | succ n =>
      exact run2_ok UOk (ih n rfl) (f := fn_cubic_New) rfl ((run_cubic_New capB n p0 p1 k).symm.trans h)
  · cases h
theorem ok_bbr_New {R : Type} {r : R} : ∀ {n : Nat}, (∀ m, n = m + 1 → CallOk2 (R := R) U (callP capB m) (runF tbl m)) → ∀ {av : Fr} {cs : List Fr} {k : Ret2 RW → Option R}, ca_bbr_New capB n av cs k = some r → ∃ q : Ret2 RW, runF tbl n 24 (TV.los U av) (cs.map (TV.los U)) = some (q.lo U) ∧ k q = some r := by
  intro n ih av cs k h
  unfold ca_bbr_New at h
  split at h
  · simp only [Option.bind_eq_some_iff] at h
    obtain ⟨p0, h0, p1, h1, h⟩ := h
    obtain rfl := dI_ok h0
    obtain rfl := dI_ok h1
    cases n with
    | zero => cases h
    | succ n =>
      exact run2_ok UOk (ih n rfl) (f := fn_bbr_New) rfl ((run_bbr_New capB n p0 p1 k).symm.trans h)
  · cases h
theorem ok_cc_New {R : Type} {r : R} : ∀ {n : Nat}, (∀ m, n = m + 1 → CallOk2 (R := R) U (callP capB m) (runF tbl m)) → ∀ {av : Fr} {cs : List Fr} {k : Ret2 RW → Option R}, ca_cc_New capB n av cs k = some r → ∃ q : Ret2 RW, runF tbl n 7 (TV.los U av) (cs.map (TV.los U)) = some (q.lo U) ∧ k q = some r := by
  intro n ih av cs k h
  unfold ca_cc_New at h
  split at h
  · simp only [Option.bind_eq_some_iff] at h
    obtain ⟨p0, h0, p1, h1, p2, h2, h⟩ := h
    obtain rfl := dI_ok h0
    obtain rfl := dI_ok h1
    obtain rfl := dI_ok h2
    cases n with
    | zero => cases h
    | succ n =>
      exact run2_ok UOk (ih n rfl) (f := fn_cc_New) rfl ((run_cc_New capB n p0 p1 p2 k).symm.trans h)
  · cases h
theorem ok_bbr_Gain {R : Type} {r : R} : ∀ {n : Nat}, (∀ m, n = m + 1 → CallOk2 (R := R) U (callP capB m) (runF tbl m)) → ∀ {av : Fr} {cs : List Fr} {k : Ret2 RW → Option R}, ca_bbr_Gain capB n av cs k = some r → ∃ q : Ret2 RW, runF tbl n 37 (TV.los U av) (cs.map (TV.los U)) = some (q.lo U) ∧ k q = some r := by
  intro n ih av cs k h
  unfold ca_bbr_Gain at h
  split at h
  · simp only [Option.bind_eq_some_iff] at h
    obtain ⟨c0_, h0, p0, g0, h⟩ := h
    obtain rfl := dA_ok h0
    obtain rfl := dCc_ok g0
    cases n with
    | zero => cases h
    | succ n =>
      exact run2_ok UOk (ih n rfl) (f := fn_bbr_Gain) rfl ((run_bbr_Gain capB n p0 k).symm.trans h)
  · cases h
theorem ok_filter_Best {R : Type} {r : R} : ∀ {n : Nat}, (∀ m, n = m + 1 → CallOk2 (R := R) U (callP capB m) (runF tbl m)) → ∀ {av : Fr} {cs : List Fr} {k : Ret2 RW → Option R}, ca_filter_Best capB n av cs k = some r → ∃ q : Ret2 RW, runF tbl n 81 (TV.los U av) (cs.map (TV.los U)) = some (q.lo U) ∧ k q = some r := by
  intro n ih av cs k h
  unfold ca_filter_Best at h
  split at h
  · simp only [Option.bind_eq_some_iff] at h
    obtain ⟨p0, h0, h⟩ := h
    obtain rfl := dREntry_ok h0
    cases n with
    | zero => cases h
    | succ n =>
      exact run2_ok UOk (ih n rfl) (f := fn_filter_Best) rfl ((run_filter_Best capB n p0 k).symm.trans h)
  · cases h
theorem ok_bbr_ctl_bandwidth {R : Type} {r : R} : ∀ {n : Nat}, (∀ m, n = m + 1 → CallOk2 (R := R) U (callP capB m) (runF tbl m)) → ∀ {av : Fr} {cs : List Fr} {k : Ret2 RW → Option R}, ca_bbr_ctl_bandwidth capB n av cs k = some r → ∃ q : Ret2 RW, runF tbl n 1025 (TV.los U av) (cs.map (TV.los U)) = some (q.lo U) ∧ k q = some r := by
  intro n ih av cs k h
  unfold ca_bbr_ctl_bandwidth at h
  split at h
  · simp only [Option.bind_eq_some_iff] at h
    obtain ⟨u0, h0, q0, i0, h⟩ := h
    obtain rfl := dP_ok h0
    obtain rfl := dT68_ok i0
    cases n with
    | zero => cases h
    | succ n =>
      exact run2_ok UOk (ih n rfl) (f := fn_bbr_ctl_bandwidth) rfl ((run_bbr_ctl_bandwidth capB n q0 k).symm.trans h)
  · cases h
theorem ok_bbr_Bandwidth {R : Type} {r : R} : ∀ {n : Nat}, (∀ m, n = m + 1 → CallOk2 (R := R) U (callP capB m) (runF tbl m)) → ∀ {av : Fr} {cs : List Fr} {k : Ret2 RW → Option R}, ca_bbr_Bandwidth capB n av cs k = some r → ∃ q : Ret2 RW, runF tbl n 38 (TV.los U av) (cs.map (TV.los U)) = some (q.lo U) ∧ k q = some r := by
  intro n ih av cs k h
  unfold ca_bbr_Bandwidth at h
  split at h
  · simp only [Option.bind_eq_some_iff] at h
    obtain ⟨c0_, h0, p0, g0, h⟩ := h
    obtain rfl := dA_ok h0
    obtain rfl := dCc_ok g0
    cases n with
    | zero => cases h
    | succ n =>
      exact run2_ok UOk (ih n rfl) (f := fn_bbr_Bandwidth) rfl ((run_bbr_Bandwidth capB n p0 k).symm.trans h)
  · cases h
theorem ok_math_bits_Mul64 {R : Type} {r : R} : ∀ {n : Nat}, (∀ m, n = m + 1 → CallOk2 (R := R) U (callP capB m) (runF tbl m)) → ∀ {av : Fr} {cs : List Fr} {k : Ret2 RW → Option R}, ca_math_bits_Mul64 capB n av cs k = some r → ∃ q : Ret2 RW, runF tbl n 60 (TV.los U av) (cs.map (TV.los U)) = some (q.lo U) ∧ k q = some r := by
  intro n ih av cs k h
  unfold ca_math_bits_Mul64 at h
  split at h
  · simp only [Option.bind_eq_some_iff] at h
    obtain ⟨p0, h0, p1, h1, h⟩ := h
    obtain rfl := dI_ok h0
    obtain rfl := dI_ok h1
    cases n with
    | zero => cases h
    | succ n =>
      exact run2_ok UOk (ih n rfl) (f := fn_math_bits_Mul64) rfl ((run_math_bits_Mul64 capB n p0 p1 k).symm.trans h)
  · cases h
theorem ok_math_bits_Len64 {R : Type} {r : R} : ∀ {n : Nat}, (∀ m, n = m + 1 → CallOk2 (R := R) U (callP capB m) (runF tbl m)) → ∀ {av : Fr} {cs : List Fr} {k : Ret2 RW → Option R}, ca_math_bits_Len64 capB n av cs k = some r → ∃ q : Ret2 RW, runF tbl n 96 (TV.los U av) (cs.map (TV.los U)) = some (q.lo U) ∧ k q = some r := by
  intro n ih av cs k h
  unfold ca_math_bits_Len64 at h
  split at h
  · simp only [Option.bind_eq_some_iff] at h
    obtain ⟨p0, h0, h⟩ := h
    obtain rfl := dI_ok h0
    cases n with
    | zero => cases h
    | succ n =>
      exact run2_ok UOk (ih n rfl) (f := fn_math_bits_Len64) rfl ((run_math_bits_Len64 capB n p0 k).symm.trans h)
  · cases h
theorem ok_math_bits_LeadingZeros64 {R : Type} {r : R} : ∀ {n : Nat}, (∀ m, n = m + 1 → CallOk2 (R := R) U (callP capB m) (runF tbl m)) → ∀ {av : Fr} {cs : List Fr} {k : Ret2 RW → Option R}, ca_math_bits_LeadingZeros64 capB n av cs k = some r → ∃ q : Ret2 RW, runF tbl n 82 (TV.los U av) (cs.map (TV.los U)) = some (q.lo U) ∧ k q = some r := by
  intro n ih av cs k h
  unfold ca_math_bits_LeadingZeros64 at h
  split at h
  · simp only [Option.bind_eq_some_iff] at h
    obtain ⟨p0, h0, h⟩ := h
    obtain rfl := dI_ok h0
    cases n with
    | zero => cases h
    | succ n =>
      exact run2_ok UOk (ih n rfl) (f := fn_math_bits_LeadingZeros64) rfl ((run_math_bits_LeadingZeros64 capB n p0 k).symm.trans h)
  · cases h
theorem ok_math_bits_Div64 {R : Type} {r : R} : ∀ {n : Nat}, (∀ m, n = m + 1 → CallOk2 (R := R) U (callP capB m) (runF tbl m)) → ∀ {av : Fr} {cs : List Fr} {k : Ret2 RW → Option R}, ca_math_bits_Div64 capB n av cs k = some r → ∃ q : Ret2 RW, runF tbl n 61 (TV.los U av) (cs.map (TV.los U)) = some (q.lo U) ∧ k q = some r := by
  intro n ih av cs k h
  unfold ca_math_bits_Div64 at h
  split at h
  · simp only [Option.bind_eq_some_iff] at h
    obtain ⟨p0, h0, p1, h1, p2, h2, h⟩ := h
    obtain rfl := dI_ok h0
    obtain rfl := dI_ok h1
    obtain rfl := dI_ok h2
    cases n with
    | zero => cases h
    | succ n =>
      exact run2_ok UOk (ih n rfl) (f := fn_math_bits_Div64) rfl ((run_math_bits_Div64 capB n p0 p1 p2 k).symm.trans h)
  · cases h
theorem ok_seq_MulDiv {R : Type} {r : R} : ∀ {n : Nat}, (∀ m, n = m + 1 → CallOk2 (R := R) U (callP capB m) (runF tbl m)) → ∀ {av : Fr} {cs : List Fr} {k : Ret2 RW → Option R}, ca_seq_MulDiv capB n av cs k = some r → ∃ q : Ret2 RW, runF tbl n 39 (TV.los U av) (cs.map (TV.los U)) = some (q.lo U) ∧ k q = some r := by
  intro n ih av cs k h
  unfold ca_seq_MulDiv at h
  split at h
  · simp only [Option.bind_eq_some_iff] at h
    obtain ⟨p0, h0, p1, h1, p2, h2, h⟩ := h
    obtain rfl := dI_ok h0
    obtain rfl := dI_ok h1
    obtain rfl := dI_ok h2
    cases n with
    | zero => cases h
    | succ n =>
      exact run2_ok UOk (ih n rfl) (f := fn_seq_MulDiv) rfl ((run_seq_MulDiv capB n p0 p1 p2 k).symm.trans h)
  · cases h
theorem ok_cc_Pace {R : Type} {r : R} : ∀ {n : Nat}, (∀ m, n = m + 1 → CallOk2 (R := R) U (callP capB m) (runF tbl m)) → ∀ {av : Fr} {cs : List Fr} {k : Ret2 RW → Option R}, ca_cc_Pace capB n av cs k = some r → ∃ q : Ret2 RW, runF tbl n 16 (TV.los U av) (cs.map (TV.los U)) = some (q.lo U) ∧ k q = some r := by
  intro n ih av cs k h
  unfold ca_cc_Pace at h
  split at h
  · simp only [Option.bind_eq_some_iff] at h
    obtain ⟨c0_, h0, p0, g0, p1, h1, p2, h2, h⟩ := h
    obtain rfl := dA_ok h0
    obtain rfl := dCc_ok g0
    obtain rfl := dI_ok h1
    obtain rfl := dI_ok h2
    cases n with
    | zero => cases h
    | succ n =>
      exact run2_ok UOk (ih n rfl) (f := fn_cc_Pace) rfl ((run_cc_Pace capB n p0 p1 p2 k).symm.trans h)
  · cases h
theorem ok_law19_heads {R : Type} {r : R} : ∀ {n : Nat}, (∀ m, n = m + 1 → CallOk2 (R := R) U (callP capB m) (runF tbl m)) → ∀ {av : Fr} {cs : List Fr} {k : Ret2 RW → Option R}, ca_law19_heads capB n av cs k = some r → ∃ q : Ret2 RW, runF tbl n 11 (TV.los U av) (cs.map (TV.los U)) = some (q.lo U) ∧ k q = some r := by
  intro n ih av cs k h
  unfold ca_law19_heads at h
  split at h
  · cases n with
    | zero => cases h
    | succ n =>
      exact run2_ok UOk (ih n rfl) (f := fn_law19_heads) rfl ((run_law19_heads capB n  k).symm.trans h)
  · cases h
theorem ok_law19_CcRestLess {R : Type} {r : R} : ∀ {n : Nat}, (∀ m, n = m + 1 → CallOk2 (R := R) U (callP capB m) (runF tbl m)) → ∀ {av : Fr} {cs : List Fr} {k : Ret2 RW → Option R}, ca_law19_CcRestLess capB n av cs k = some r → ∃ q : Ret2 RW, runF tbl n 4 (TV.los U av) (cs.map (TV.los U)) = some (q.lo U) ∧ k q = some r := by
  intro n ih av cs k h
  unfold ca_law19_CcRestLess at h
  split at h
  · simp only [Option.bind_eq_some_iff] at h
    obtain ⟨c0_, h0, p0, g0, p1, h1, p2, h2, p3, h3, h⟩ := h
    obtain rfl := dA_ok h0
    obtain rfl := dCc_ok g0
    obtain rfl := dI_ok h1
    obtain rfl := dI_ok h2
    obtain rfl := dI_ok h3
    cases n with
    | zero => cases h
    | succ n =>
      exact run2_ok UOk (ih n rfl) (f := fn_law19_CcRestLess) rfl ((run_law19_CcRestLess capB n p0 p1 p2 p3 k).symm.trans h)
  · cases h
theorem callOk {R : Type} : ∀ n, CallOk2 (R := R) U (callP capB n) (runF tbl n)
  | n => fun id av cells k r h => by
    have ih : ∀ m, n = m + 1 → CallOk2 (R := R) U (callP capB m) (runF tbl m) := fun m e => callOk m
    unfold callP at h
    split at h
    · exact ok_cc_time ih h
    · exact ok_cc_size ih h
    · exact ok_reno_size ih h
    · exact ok_reno_ctl_plain ih h
    · exact ok_reno_Check ih h
    · exact ok_cubic_size ih h
    · exact ok_cubic_Check ih h
    · exact ok_bbr_within ih h
    · exact ok_filter_may ih h
    · exact ok_filter_beats ih h
    · exact ok_filter_Check ih h
    · exact ok_bbr_ctl_entries ih h
    · exact ok_bbr_Check ih h
    · exact ok_cc_Check ih h
    · exact ok_cc_asked ih h
    · exact ok_cc_Rest ih h
    · exact ok_reno_New ih h
    · exact ok_cubic_New ih h
    · exact ok_bbr_New ih h
    · exact ok_cc_New ih h
    · exact ok_bbr_Gain ih h
    · exact ok_filter_Best ih h
    · exact ok_bbr_ctl_bandwidth ih h
    · exact ok_bbr_Bandwidth ih h
    · exact ok_math_bits_Mul64 ih h
    · exact ok_math_bits_Len64 ih h
    · exact ok_math_bits_LeadingZeros64 ih h
    · exact ok_math_bits_Div64 ih h
    · exact ok_seq_MulDiv ih h
    · exact ok_cc_Pace ih h
    · exact ok_law19_heads ih h
    · exact ok_law19_CcRestLess ih h
    · cases h
termination_by n => n
decreasing_by omega
end
end Go.Proofs.Ytgnoidblkenglaa.M
