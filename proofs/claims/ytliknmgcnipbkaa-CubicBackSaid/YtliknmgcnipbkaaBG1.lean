/- The machine's code of the functions, and that it computes them. -/
import Derived.Test.YtliknmgcnipbkaaBG0
import Derived.Test.YtliknmgcnipbkaaProg
import Derived.KernelRfl
set_option maxRecDepth 100000
set_option linter.unusedVariables false
set_option linter.unusedSimpArgs false
namespace Go.Proofs.Ytliknmgcnipbkaa.M
open Go
noncomputable section
def X {R : Type} (cp : Nat → Nat → Bool) (n : Nat) (c : IC2 RW) (l : FF) (k : Ex → FF → Option R) : Option R := exec2 U cp (callP cp n) n c l k
theorem X_run {R : Type} {cp : Nat → Nat → Bool} {n : Nat} {f : IFn2 RW} {av : Fr} {cells : List Fr} {code : IC2 RW} {fr : FF} {k : Ret2 RW → Option R} (hb : f.body = code) (h : ∀ K : FF → Option R, start2 f av cells K = K fr) : run2 U cp (callP cp n) n f av cells k = X cp n code fr (finK2 f k) := by
  subst hb
  exact h _
def o0 (op : IOp2 RW) : IStep2 RW := ⟨none, op, none, false⟩
def o1 (d : Nat) (op : IOp2 RW) : IStep2 RW := ⟨some d, op, none, false⟩
def o2 (d : Nat) (op : IOp2 RW) : IStep2 RW := ⟨some d, op, none, true⟩
def o3 (d g : Nat) (b : Bool) (op : IOp2 RW) : IStep2 RW := ⟨some d, op, some (g, b), false⟩
def g_reno_size_0 : List (IStep2 RW) := [o1 2 (.mv false (.k (.sc (.bool false))))]
def g_reno_size_1 : List (IStep2 RW) := [o1 3 (.mv false (.s 0)),
  o1 4 (.bin .geq (.s 3) (.k (.sc (.int .i64 0)))),
  o2 5 (.mv false (.s 4)),
  o3 6 5 true (.mv false (.s 0)),
  o3 7 5 true (.bin .leq (.s 6) (.k (.sc (.int .i64 1073741824)))),
  o1 8 (.pick (.s 5) (.s 7) (.k (.sc (.bool false)))),
  o1 2 (.mv false (.s 8))]
def i_reno_size_0 : IC2 RW := .seq (.fin (.reg g_reno_size_0) [2] []) (.seq (.fin (.reg g_reno_size_1) [0, 3, 4, 5, 6, 7, 8] []) (.ret))
def fn_reno_size : IFn2 RW := ⟨45, 1, 9, 16, [], [], [.slot 2], i_reno_size_0⟩
def g_reno_ctl_plain_1 : List (IStep2 RW) := [o1 3 (.mv false (.s 0)),
  o1 4 (.nil (.s 3)),
  o1 5 (.fld 0 (.s 4)),
  o1 6 (.fld 5 (.s 5)),
  o1 7 (.load 138 5 1 false false 6),
  o1 8 (.bin .eql (.s 7) (.k (.sc (.int .i64 0)))),
  o2 9 (.mv false (.s 8)),
  o3 10 9 true (.mv false (.s 0)),
  o3 11 9 true (.nil (.s 10)),
  o3 12 9 true (.fld 0 (.s 11)),
  o3 13 9 true (.fld 6 (.s 12)),
  o3 14 9 true (.load 138 6 1 false false 13),
  o3 15 9 true (.bin .eql (.s 14) (.k (.sc (.int .i64 0)))),
  o1 16 (.pick (.s 9) (.s 15) (.k (.sc (.bool false)))),
  o2 17 (.mv false (.s 16)),
  o3 18 17 true (.mv false (.s 0)),
  o3 19 17 true (.nil (.s 18)),
  o3 20 17 true (.fld 0 (.s 19)),
  o3 21 17 true (.fld 7 (.s 20)),
  o3 22 17 true (.load 138 7 1 false false 21),
  o3 23 17 true (.bin .eql (.s 22) (.k (.sc (.int .i64 0)))),
  o1 24 (.pick (.s 17) (.s 23) (.k (.sc (.bool false)))),
  o2 25 (.mv false (.s 24)),
  o3 26 25 true (.mv false (.s 0)),
  o3 27 25 true (.nil (.s 26)),
  o3 28 25 true (.fld 0 (.s 27)),
  o3 29 25 true (.fld 8 (.s 28)),
  o3 30 25 true (.load 138 8 1 false false 29),
  o3 31 25 true (.bin .eql (.s 30) (.k (.sc (.int .i64 0)))),
  o1 32 (.pick (.s 25) (.s 31) (.k (.sc (.bool false)))),
  o2 33 (.mv false (.s 32)),
  o3 34 33 true (.mv false (.s 0)),
  o3 35 33 true (.nil (.s 34)),
  o3 36 33 true (.fld 0 (.s 35)),
  o3 37 33 true (.fld 9 (.s 36)),
  o3 38 33 true (.load 138 9 1 false false 37),
  o3 39 33 true (.bin .eql (.s 38) (.k (.sc (.int .i64 0)))),
  o1 40 (.pick (.s 33) (.s 39) (.k (.sc (.bool false)))),
  o2 41 (.mv false (.s 40)),
  o3 42 41 true (.mv false (.s 0)),
  o3 43 41 true (.nil (.s 42)),
  o3 44 41 true (.fld 0 (.s 43)),
  o3 45 41 true (.fld 10 (.s 44)),
  o3 46 41 true (.load 138 10 1 false false 45),
  o3 47 41 true (.bin .eql (.s 46) (.k (.sc (.int .i64 0)))),
  o1 48 (.pick (.s 41) (.s 47) (.k (.sc (.bool false)))),
  o2 49 (.mv false (.s 48)),
  o3 50 49 true (.mv false (.s 0)),
  o3 51 49 true (.nil (.s 50)),
  o3 52 49 true (.fld 0 (.s 51)),
  o3 53 49 true (.fld 11 (.s 52)),
  o3 54 49 true (.load 138 11 1 false false 53),
  o3 55 49 true (.len false (.s 54)),
  o3 56 49 true (.bin .eql (.s 55) (.k (.sc (.int .i64 0)))),
  o1 57 (.pick (.s 49) (.s 56) (.k (.sc (.bool false)))),
  o2 58 (.mv false (.s 57)),
  o3 59 58 true (.mv false (.s 0)),
  o3 60 58 true (.nil (.s 59)),
  o3 61 58 true (.fld 0 (.s 60)),
  o3 62 58 true (.fld 12 (.s 61)),
  o3 63 58 true (.load 138 12 1 false false 62),
  o3 64 58 true (.bin .eql (.s 63) (.k (.sc (.int .i64 0)))),
  o1 65 (.pick (.s 58) (.s 64) (.k (.sc (.bool false)))),
  o2 66 (.mv false (.s 65)),
  o3 67 66 true (.mv false (.s 0)),
  o3 68 66 true (.nil (.s 67)),
  o3 69 66 true (.fld 0 (.s 68)),
  o3 70 66 true (.fld 13 (.s 69)),
  o3 71 66 true (.load 138 13 1 false false 70),
  o3 72 66 true (.bin .eql (.s 71) (.k (.sc (.int .i64 0)))),
  o1 73 (.pick (.s 66) (.s 72) (.k (.sc (.bool false)))),
  o2 74 (.mv false (.s 73)),
  o3 75 74 true (.mv false (.s 0)),
  o3 76 74 true (.nil (.s 75)),
  o3 77 74 true (.fld 0 (.s 76)),
  o3 78 74 true (.fld 14 (.s 77)),
  o3 79 74 true (.load 138 14 1 false false 78),
  o3 80 74 true (.bin .eql (.s 79) (.k (.sc (.int .i64 0)))),
  o1 81 (.pick (.s 74) (.s 80) (.k (.sc (.bool false)))),
  o2 82 (.mv false (.s 81)),
  o3 83 82 true (.mv false (.s 0)),
  o3 84 82 true (.nil (.s 83)),
  o3 85 82 true (.fld 0 (.s 84)),
  o3 86 82 true (.fld 15 (.s 85)),
  o3 87 82 true (.load 138 15 1 false false 86),
  o3 88 82 true (.bin .eql (.s 87) (.k (.sc (.int .i64 0)))),
  o1 89 (.pick (.s 82) (.s 88) (.k (.sc (.bool false)))),
  o2 90 (.mv false (.s 89)),
  o3 91 90 true (.mv false (.s 0)),
  o3 92 90 true (.nil (.s 91)),
  o3 93 90 true (.fld 0 (.s 92)),
  o3 94 90 true (.fld 16 (.s 93)),
  o3 95 90 true (.load 138 16 1 false false 94),
  o3 96 90 true (.bin .eql (.s 95) (.k (.sc (.int .i64 0)))),
  o1 97 (.pick (.s 90) (.s 96) (.k (.sc (.bool false)))),
  o2 98 (.mv false (.s 97)),
  o3 99 98 true (.mv false (.s 0)),
  o3 100 98 true (.nil (.s 99)),
  o3 101 98 true (.fld 0 (.s 100)),
  o3 102 98 true (.fld 17 (.s 101)),
  o3 103 98 true (.load 138 17 1 false false 102),
  o3 104 98 true (.bin .eql (.s 103) (.k (.sc (.int .i64 0)))),
  o1 105 (.pick (.s 98) (.s 104) (.k (.sc (.bool false)))),
  o2 106 (.mv false (.s 105)),
  o3 107 106 true (.mv false (.s 0)),
  o3 108 106 true (.nil (.s 107)),
  o3 109 106 true (.fld 0 (.s 108)),
  o3 110 106 true (.fld 18 (.s 109)),
  o3 111 106 true (.load 138 18 1 false false 110),
  o3 112 106 true (.bin .eql (.s 111) (.k (.sc (.int .i64 0)))),
  o1 113 (.pick (.s 106) (.s 112) (.k (.sc (.bool false)))),
  o2 114 (.mv false (.s 113)),
  o3 115 114 true (.mv false (.s 0)),
  o3 116 114 true (.nil (.s 115)),
  o3 117 114 true (.fld 0 (.s 116)),
  o3 118 114 true (.fld 19 (.s 117)),
  o3 119 114 true (.load 138 19 1 false false 118),
  o3 120 114 true (.bin .eql (.s 119) (.k (.sc (.int .i64 0)))),
  o1 121 (.pick (.s 114) (.s 120) (.k (.sc (.bool false)))),
  o2 122 (.mv false (.s 121)),
  o3 123 122 true (.mv false (.s 0)),
  o3 124 122 true (.nil (.s 123)),
  o3 125 122 true (.fld 0 (.s 124)),
  o3 126 122 true (.fld 20 (.s 125)),
  o3 127 122 true (.load 138 20 1 false false 126),
  o3 128 122 true (.bin .eql (.s 127) (.k (.sc (.int .i64 0)))),
  o1 129 (.pick (.s 122) (.s 128) (.k (.sc (.bool false)))),
  o2 130 (.mv false (.s 129)),
  o3 131 130 true (.mv false (.s 0)),
  o3 132 130 true (.nil (.s 131)),
  o3 133 130 true (.fld 0 (.s 132)),
  o3 134 130 true (.fld 21 (.s 133)),
  o3 135 130 true (.load 138 21 1 false false 134),
  o3 136 130 true (.bin .eql (.s 135) (.k (.sc (.int .i64 0)))),
  o1 137 (.pick (.s 130) (.s 136) (.k (.sc (.bool false)))),
  o1 2 (.mv false (.s 137))]
def i_reno_ctl_plain_0 : IC2 RW := .fin (.reg g_reno_ctl_plain_1) [0, 3, 4, 5, 6, 7, 8, 9, 10, 11, 12, 13, 14, 15, 16, 17, 18, 19, 20, 21, 22, 23, 24, 25, 26, 27, 28, 29, 30, 31, 32, 33, 34, 35, 36, 37, 38, 39, 40, 41, 42, 43, 44, 45, 46, 47, 48, 49, 50, 51, 52, 53, 54, 55, 56, 57, 58, 59, 60, 61, 62, 63, 64, 65, 66, 67, 68, 69, 70, 71, 72, 73, 74, 75, 76, 77, 78, 79, 80, 81, 82, 83, 84, 85, 86, 87, 88, 89, 90, 91, 92, 93, 94, 95, 96, 97, 98, 99, 100, 101, 102, 103, 104, 105, 106, 107, 108, 109, 110, 111, 112, 113, 114, 115, 116, 117, 118, 119, 120, 121, 122, 123, 124, 125, 126, 127, 128, 129, 130, 131, 132, 133, 134, 135, 136, 137] []
def i_reno_ctl_plain_1 : IC2 RW := .ret
def i_reno_ctl_plain_2 : IC2 RW := .seq i_reno_ctl_plain_0 i_reno_ctl_plain_1
def g_reno_ctl_plain_0 : List (IStep2 RW) := [o1 2 (.mv false (.k (.sc (.bool false))))]
def i_reno_ctl_plain_3 : IC2 RW := .seq (.fin (.reg g_reno_ctl_plain_0) [2] []) i_reno_ctl_plain_2
def fn_reno_ctl_plain : IFn2 RW := ⟨46, 1, 138, 176, [(138, 22)], [(138, 22)], [.slot 2], i_reno_ctl_plain_3⟩
def g_reno_Check_0 : List (IStep2 RW) := [o1 1 (.box 88 22 false (.s 0)),
  o1 2 (.mv false (.k (.sc (.int .i64 0))))]
def g_reno_Check_1 : List (IStep2 RW) := [o1 4 (.load 88 0 22 true false 1),
  o1 5 (.build [.sc (.int .i64 0), .sc (.int .i64 0), .sc (.int .i64 0), .sc (.int .i64 0), .sc (.int .i64 0), .sc (.int .i64 0), .sc (.int .i64 0), .sc (.int .i64 0), .sc (.int .i64 0), .sc (.int .i64 0), .sc (.int .i64 0), .row false (.rEntry []), .sc (.int .i64 0), .sc (.int .i64 0), .sc (.int .i64 0), .sc (.int .i64 0), .sc (.int .i64 0), .sc (.int .i64 0), .sc (.int .i64 0), .sc (.int .i64 0), .sc (.int .i64 0), .sc (.int .i64 0)] [(0, 22, .s 4)]),
  o1 6 (.box 111 22 false (.s 5)),
  o1 3 (.mv false (.s 6))]
def g_reno_Check_2 : List (IStep2 RW) := [o1 7 (.mv false (.s 3)),
  o1 8 (.nil (.s 7)),
  o1 9 (.fld 0 (.s 8)),
  o1 10 (.fld 0 (.s 9)),
  o1 11 (.load 111 0 1 false false 10),
  o1 12 (.bin .neq (.s 11) (.k (.sc (.int .i64 1)))),
  o2 13 (.mv false (.s 12)),
  o3 14 13 false (.mv false (.s 3)),
  o3 15 13 false (.nil (.s 14)),
  o3 16 13 false (.fld 0 (.s 15)),
  o3 17 13 false (.fld 1 (.s 16)),
  o3 18 13 false (.load 111 1 1 false false 17),
  o3 19 13 false (.bin .lss (.s 18) (.k (.sc (.int .i64 1)))),
  o1 20 (.pick (.s 13) (.k (.sc (.bool true))) (.s 19)),
  o2 21 (.mv false (.s 20)),
  o3 22 21 false (.mv false (.s 3)),
  o3 23 21 false (.nil (.s 22)),
  o3 24 21 false (.fld 0 (.s 23)),
  o3 25 21 false (.fld 1 (.s 24)),
  o3 26 21 false (.load 111 1 1 false false 25),
  o3 27 21 false (.bin .gtr (.s 26) (.k (.sc (.int .i64 65000)))),
  o1 28 (.pick (.s 21) (.k (.sc (.bool true))) (.s 27)),
  o2 29 (.mv false (.s 28)),
  o3 30 29 false (.mv false (.s 3)),
  o3 31 29 false (.nil (.s 30)),
  o3 32 29 false (.fld 0 (.s 31)),
  o3 33 29 false (.fld 2 (.s 32)),
  o3 34 29 false (.load 111 2 1 false false 33),
  o3 35 29 false (.mv false (.s 3)),
  o3 36 29 false (.nil (.s 35)),
  o3 37 29 false (.fld 0 (.s 36)),
  o3 38 29 false (.fld 1 (.s 37)),
  o3 39 29 false (.load 111 1 1 false false 38),
  o3 40 29 false (.bin .lss (.s 34) (.s 39)),
  o1 41 (.pick (.s 29) (.k (.sc (.bool true))) (.s 40)),
  o2 42 (.mv false (.s 41)),
  o3 43 42 false (.mv false (.s 3)),
  o3 44 42 false (.nil (.s 43)),
  o3 45 42 false (.fld 0 (.s 44)),
  o3 46 42 false (.fld 2 (.s 45)),
  o3 47 42 false (.load 111 2 1 false false 46),
  o3 48 42 false (.call 45 [(false, .s 47)] []),
  o3 49 42 false (.un .not (.s 48)),
  o1 50 (.pick (.s 42) (.k (.sc (.bool true))) (.s 49)),
  o2 51 (.mv false (.s 50)),
  o3 52 51 false (.mv false (.s 3)),
  o3 53 51 false (.nil (.s 52)),
  o3 54 51 false (.fld 0 (.s 53)),
  o3 55 51 false (.fld 3 (.s 54)),
  o3 56 51 false (.load 111 3 1 false false 55),
  o3 57 51 false (.mv false (.s 3)),
  o3 58 51 false (.nil (.s 57)),
  o3 59 51 false (.fld 0 (.s 58)),
  o3 60 51 false (.fld 1 (.s 59)),
  o3 61 51 false (.load 111 1 1 false false 60),
  o3 62 51 false (.bin .mul (.k (.sc (.int .i64 2))) (.s 61)),
  o3 63 51 false (.bin .lss (.s 56) (.s 62)),
  o1 64 (.pick (.s 51) (.k (.sc (.bool true))) (.s 63)),
  o2 65 (.mv false (.s 64)),
  o3 66 65 false (.mv false (.s 3)),
  o3 67 65 false (.nil (.s 66)),
  o3 68 65 false (.fld 0 (.s 67)),
  o3 69 65 false (.fld 3 (.s 68)),
  o3 70 65 false (.load 111 3 1 false false 69),
  o3 71 65 false (.call 45 [(false, .s 70)] []),
  o3 72 65 false (.un .not (.s 71)),
  o1 73 (.pick (.s 65) (.k (.sc (.bool true))) (.s 72)),
  o2 74 (.mv false (.s 73)),
  o3 75 74 false (.mv false (.s 3)),
  o3 76 74 false (.nil (.s 75)),
  o3 77 74 false (.fld 0 (.s 76)),
  o3 78 74 false (.fld 4 (.s 77)),
  o3 79 74 false (.load 111 4 1 false false 78),
  o3 80 74 false (.call 45 [(false, .s 79)] []),
  o3 81 74 false (.un .not (.s 80)),
  o1 82 (.pick (.s 74) (.k (.sc (.bool true))) (.s 81)),
  o2 83 (.mv false (.s 82)),
  o3 84 83 false (.mv false (.s 3)),
  o3 85 83 false (.call 1006 [(false, .s 84)] [(111, 22, 138)]),
  o3 86 83 false (.un .not (.s 85)),
  o1 87 (.pick (.s 83) (.k (.sc (.bool true))) (.s 86))]
def g_reno_Check_3 : List (IStep2 RW) := [o1 2 (.mv false (.k (.sc (.int .i64 230))))]
def g_reno_Check_4 : List (IStep2 RW) := [o1 2 (.mv false (.k (.sc (.int .i64 0))))]
def i_reno_Check_0 : IC2 RW := .seq (.fin (.reg g_reno_Check_0) [0, 2] []) (.seq (.fin (.reg g_reno_Check_1) [1, 4, 5, 6] [(88, 22)]) (.seq (.seq (.fin (.reg g_reno_Check_2) [3, 7, 8, 9, 10, 11, 12, 13, 14, 15, 16, 17, 18, 19, 20, 21, 22, 23, 24, 25, 26, 27, 28, 29, 30, 31, 32, 33, 34, 35, 36, 37, 38, 39, 40, 41, 42, 43, 44, 45, 46, 47, 48, 49, 50, 51, 52, 53, 54, 55, 56, 57, 58, 59, 60, 61, 62, 63, 64, 65, 66, 67, 68, 69, 70, 71, 72, 73, 74, 75, 76, 77, 78, 79, 80, 81, 82, 83, 84, 85, 86] [(111, 22)]) (.fin (.cond (.s 87) (.seq (.fin (.reg g_reno_Check_3) [87] []) (.ret)) (.skip)) [87] [])) (.seq (.reg g_reno_Check_4) (.ret))))
def fn_reno_Check : IFn2 RW := ⟨32, 1, 88, 144, [(88, 22), (111, 22)], [], [.slot 2], i_reno_Check_0⟩
def g_cubic_size_2 : List (IStep2 RW) := [o1 8 (.bin .lss (.s 7) (.s 6))]
def g_cubic_size_3 : List (IStep2 RW) := [o1 9 (.idx 1 (.s 5) (.s 7)),
  o1 10 (.loade 1 false 9),
  o1 4 (.mv false (.s 10))]
def g_cubic_size_4 : List (IStep2 RW) := [o1 11 (.mv false (.s 4)),
  o1 12 (.bin .lss (.s 11) (.k (.sc (.int .i64 0)))),
  o2 13 (.mv false (.s 12)),
  o3 14 13 false (.mv false (.s 4)),
  o3 15 13 false (.bin .gtr (.s 14) (.k (.sc (.int .i64 1073741824)))),
  o1 16 (.pick (.s 13) (.k (.sc (.bool true))) (.s 15))]
def g_cubic_size_5 : List (IStep2 RW) := [o1 2 (.mv false (.k (.sc (.bool false))))]
def g_cubic_size_6 : List (IStep2 RW) := [o1 17 (.bin .add (.s 7) (.k (.sc (.int .i64 1)))),
  o1 7 (.mv false (.s 17))]
def i_cubic_size_0 : IC2 RW := .seq (.reg g_cubic_size_2) (.seq (.fin (.cond (.s 8) (.skip) (.clr [5, 6, 7, 8] [] (.exit 0))) [8] []) (.seq (.blk 1 (.seq (.fin (.reg g_cubic_size_3) [9, 10] []) (.seq (.fin (.reg g_cubic_size_4) [4, 11, 12, 13, 14, 15] []) (.fin (.cond (.s 16) (.seq (.fin (.reg g_cubic_size_5) [5, 6, 7, 16] []) (.ret)) (.skip)) [16] [])))) (.fin (.reg g_cubic_size_6) [17] [])))
def i_cubic_size_1 : IC2 RW := .loop i_cubic_size_0
def i_cubic_size_2 : IC2 RW := .blk 0 i_cubic_size_1
def g_cubic_size_1 : List (IStep2 RW) := [o1 5 (.mv false (.s 0)),
  o1 6 (.len false (.s 5)),
  o1 7 (.mv false (.k (.sc (.int .i64 0))))]
def i_cubic_size_3 : IC2 RW := .seq (.fin (.reg g_cubic_size_1) [0] []) i_cubic_size_2
def g_cubic_size_7 : List (IStep2 RW) := [o1 2 (.mv false (.k (.sc (.bool true))))]
def i_cubic_size_4 : IC2 RW := .seq (.reg g_cubic_size_7) (.ret)
def i_cubic_size_5 : IC2 RW := .seq i_cubic_size_3 i_cubic_size_4
def g_cubic_size_0 : List (IStep2 RW) := [o1 2 (.mv false (.k (.sc (.bool false))))]
def i_cubic_size_6 : IC2 RW := .seq (.fin (.reg g_cubic_size_0) [2] []) i_cubic_size_5
def fn_cubic_size : IFn2 RW := ⟨24, 1, 18, 32, [], [], [.slot 2], i_cubic_size_6⟩
def g_cubic_Check_0 : List (IStep2 RW) := [o1 1 (.box 50 22 false (.s 0)),
  o1 2 (.mv false (.k (.sc (.int .i64 0))))]
def g_cubic_Check_1 : List (IStep2 RW) := [o1 4 (.load 50 0 22 true false 1),
  o1 3 (.alloc 73 [.sc (.int .i64 0), .sc (.int .i64 0), .sc (.int .i64 0), .sc (.int .i64 0), .sc (.int .i64 0), .sc (.int .i64 0), .sc (.int .i64 0), .sc (.int .i64 0), .sc (.int .i64 0), .sc (.int .i64 0), .sc (.int .i64 0), .row false (.rEntry []), .sc (.int .i64 0), .sc (.int .i64 0), .sc (.int .i64 0), .sc (.int .i64 0), .sc (.int .i64 0), .sc (.int .i64 0), .sc (.int .i64 0), .sc (.int .i64 0), .sc (.int .i64 0), .sc (.int .i64 0)]),
  o0 (.store 73 0 22 false 3 (.s 4))]
def g_cubic_Check_2 : List (IStep2 RW) := [o1 5 (.fld 0 (.s 3)),
  o0 (.store 73 0 1 false 5 (.k (.sc (.int .i64 1)))),
  o1 6 (.fld 5 (.s 3)),
  o0 (.store 73 5 1 false 6 (.k (.sc (.int .i64 0)))),
  o1 7 (.fld 6 (.s 3)),
  o0 (.store 73 6 1 false 7 (.k (.sc (.int .i64 0)))),
  o1 8 (.fld 7 (.s 3)),
  o0 (.store 73 7 1 false 8 (.k (.sc (.int .i64 0)))),
  o1 9 (.fld 8 (.s 3)),
  o0 (.store 73 8 1 false 9 (.k (.sc (.int .i64 0)))),
  o1 10 (.fld 9 (.s 3)),
  o0 (.store 73 9 1 false 10 (.k (.sc (.int .i64 0))))]
def g_cubic_Check_3 : List (IStep2 RW) := [o1 11 (.fld 0 (.s 1)),
  o1 12 (.load 50 0 1 false false 11),
  o1 13 (.bin .neq (.s 12) (.k (.sc (.int .i64 2)))),
  o2 14 (.mv false (.s 13)),
  o3 15 14 false (.load 73 0 22 true false 3),
  o3 16 14 false (.call 32 [(false, .s 15)] []),
  o3 17 14 false (.bin .neq (.s 16) (.k (.sc (.int .i64 0)))),
  o1 18 (.pick (.s 14) (.k (.sc (.bool true))) (.s 17)),
  o2 19 (.mv false (.s 18)),
  o3 20 19 false (.fld 5 (.s 1)),
  o3 21 19 false (.load 50 5 1 false false 20),
  o3 22 19 false (.fld 8 (.s 1)),
  o3 23 19 false (.load 50 8 1 false false 22),
  o3 24 19 false (.fld 9 (.s 1)),
  o3 25 19 false (.load 50 9 1 false false 24),
  o3 26 19 false (.bslice 3 3 [(0, 1, .s 21), (1, 1, .s 23), (2, 1, .s 25)]),
  o3 27 19 false (.call 24 [(false, .s 26)] []),
  o3 28 19 false (.un .not (.s 27)),
  o1 29 (.pick (.s 19) (.k (.sc (.bool true))) (.s 28)),
  o2 30 (.mv false (.s 29)),
  o3 31 30 false (.fld 7 (.s 1)),
  o3 32 30 false (.load 50 7 1 false false 31),
  o3 33 30 false (.bin .lss (.s 32) (.k (.sc (.int .i64 0)))),
  o1 34 (.pick (.s 30) (.k (.sc (.bool true))) (.s 33)),
  o2 35 (.mv false (.s 34)),
  o3 36 35 false (.fld 7 (.s 1)),
  o3 37 35 false (.load 50 7 1 false false 36),
  o3 38 35 false (.bin .gtr (.s 37) (.k (.sc (.int .i64 2097151)))),
  o1 39 (.pick (.s 35) (.k (.sc (.bool true))) (.s 38)),
  o2 40 (.mv false (.s 39)),
  o3 41 40 false (.fld 6 (.s 1)),
  o3 42 40 false (.load 50 6 1 false false 41),
  o3 43 40 false (.bin .lss (.s 42) (.k (.sc (.int .i64 (-1))))),
  o1 44 (.pick (.s 40) (.k (.sc (.bool true))) (.s 43)),
  o2 45 (.mv false (.s 44)),
  o3 46 45 false (.fld 6 (.s 1)),
  o3 47 45 false (.load 50 6 1 false false 46),
  o3 48 45 false (.bin .gtr (.s 47) (.k (.sc (.int .i64 1125899906842624)))),
  o1 49 (.pick (.s 45) (.k (.sc (.bool true))) (.s 48))]
def g_cubic_Check_4 : List (IStep2 RW) := [o1 2 (.mv false (.k (.sc (.int .i64 230))))]
def g_cubic_Check_5 : List (IStep2 RW) := [o1 2 (.mv false (.k (.sc (.int .i64 0))))]
def i_cubic_Check_0 : IC2 RW := .seq (.fin (.reg g_cubic_Check_0) [0, 2] []) (.seq (.fin (.reg g_cubic_Check_1) [4] []) (.seq (.fin (.reg g_cubic_Check_2) [5, 6, 7, 8, 9, 10] []) (.seq (.seq (.fin (.reg g_cubic_Check_3) [1, 3, 11, 12, 13, 14, 15, 16, 17, 18, 19, 20, 21, 22, 23, 24, 25, 26, 27, 28, 29, 30, 31, 32, 33, 34, 35, 36, 37, 38, 39, 40, 41, 42, 43, 44, 45, 46, 47, 48] [(50, 22), (73, 22)]) (.fin (.cond (.s 49) (.seq (.fin (.reg g_cubic_Check_4) [49] []) (.ret)) (.skip)) [49] [])) (.seq (.reg g_cubic_Check_5) (.ret)))))
def fn_cubic_Check : IFn2 RW := ⟨11, 1, 50, 96, [(50, 22), (73, 22)], [], [.slot 2], i_cubic_Check_0⟩
def g_math_bits_Mul64_0 : List (IStep2 RW) := [o1 4 (.mv false (.k (.sc (.int .u64 0)))),
  o1 5 (.mv false (.k (.sc (.int .u64 0))))]
def g_math_bits_Mul64_1 : List (IStep2 RW) := [o1 14 (.mv false (.s 0)),
  o1 15 (.bin .and (.s 14) (.k (.sc (.int .u64 4294967295)))),
  o1 6 (.mv false (.s 15))]
def g_math_bits_Mul64_2 : List (IStep2 RW) := [o1 16 (.mv false (.s 0)),
  o1 17 (.bin .shr (.s 16) (.k (.sc (.int .u64 32)))),
  o1 7 (.mv false (.s 17))]
def g_math_bits_Mul64_3 : List (IStep2 RW) := [o1 18 (.mv false (.s 1)),
  o1 19 (.bin .and (.s 18) (.k (.sc (.int .u64 4294967295)))),
  o1 8 (.mv false (.s 19))]
def g_math_bits_Mul64_4 : List (IStep2 RW) := [o1 20 (.mv false (.s 1)),
  o1 21 (.bin .shr (.s 20) (.k (.sc (.int .u64 32)))),
  o1 9 (.mv false (.s 21))]
def g_math_bits_Mul64_5 : List (IStep2 RW) := [o1 22 (.mv false (.s 6)),
  o1 23 (.mv false (.s 8)),
  o1 24 (.bin .mul (.s 22) (.s 23)),
  o1 10 (.mv false (.s 24))]
def g_math_bits_Mul64_6 : List (IStep2 RW) := [o1 25 (.mv false (.s 7)),
  o1 26 (.mv false (.s 8)),
  o1 27 (.bin .mul (.s 25) (.s 26)),
  o1 28 (.mv false (.s 10)),
  o1 29 (.bin .shr (.s 28) (.k (.sc (.int .u64 32)))),
  o1 30 (.bin .add (.s 27) (.s 29)),
  o1 11 (.mv false (.s 30))]
def g_math_bits_Mul64_7 : List (IStep2 RW) := [o1 31 (.mv false (.s 11)),
  o1 32 (.bin .and (.s 31) (.k (.sc (.int .u64 4294967295)))),
  o1 12 (.mv false (.s 32))]
def g_math_bits_Mul64_8 : List (IStep2 RW) := [o1 33 (.mv false (.s 11)),
  o1 34 (.bin .shr (.s 33) (.k (.sc (.int .u64 32)))),
  o1 13 (.mv false (.s 34))]
def g_math_bits_Mul64_9 : List (IStep2 RW) := [o1 35 (.mv false (.s 12)),
  o1 36 (.mv false (.s 6)),
  o1 37 (.mv false (.s 9)),
  o1 38 (.bin .mul (.s 36) (.s 37)),
  o1 39 (.bin .add (.s 35) (.s 38)),
  o1 12 (.mv false (.s 39))]
def g_math_bits_Mul64_10 : List (IStep2 RW) := [o1 40 (.mv false (.s 7)),
  o1 41 (.mv false (.s 9)),
  o1 42 (.bin .mul (.s 40) (.s 41)),
  o1 43 (.mv false (.s 13)),
  o1 44 (.bin .add (.s 42) (.s 43)),
  o1 45 (.mv false (.s 12)),
  o1 46 (.bin .shr (.s 45) (.k (.sc (.int .u64 32)))),
  o1 47 (.bin .add (.s 44) (.s 46)),
  o1 4 (.mv false (.s 47))]
def g_math_bits_Mul64_11 : List (IStep2 RW) := [o1 48 (.mv false (.s 0)),
  o1 49 (.mv false (.s 1)),
  o1 50 (.bin .mul (.s 48) (.s 49)),
  o1 5 (.mv false (.s 50))]
def i_math_bits_Mul64_0 : IC2 RW := .seq (.fin (.reg g_math_bits_Mul64_0) [4, 5] []) (.seq (.fin (.reg g_math_bits_Mul64_1) [14, 15] []) (.seq (.fin (.reg g_math_bits_Mul64_2) [16, 17] []) (.seq (.fin (.reg g_math_bits_Mul64_3) [18, 19] []) (.seq (.fin (.reg g_math_bits_Mul64_4) [20, 21] []) (.seq (.fin (.reg g_math_bits_Mul64_5) [22, 23, 24] []) (.seq (.fin (.reg g_math_bits_Mul64_6) [8, 10, 25, 26, 27, 28, 29, 30] []) (.seq (.fin (.reg g_math_bits_Mul64_7) [31, 32] []) (.seq (.fin (.reg g_math_bits_Mul64_8) [11, 33, 34] []) (.seq (.fin (.reg g_math_bits_Mul64_9) [6, 35, 36, 37, 38, 39] []) (.seq (.fin (.reg g_math_bits_Mul64_10) [7, 9, 12, 13, 40, 41, 42, 43, 44, 45, 46, 47] []) (.seq (.fin (.reg g_math_bits_Mul64_11) [0, 1, 48, 49, 50] []) (.ret))))))))))))
def fn_math_bits_Mul64 : IFn2 RW := ⟨49, 2, 51, 64, [], [], [.slot 4, .slot 5], i_math_bits_Mul64_0⟩
def g_math_bits_Len64_0 : List (IStep2 RW) := [o1 2 (.mv false (.k (.sc (.int .i64 0))))]
def g_math_bits_Len64_1 : List (IStep2 RW) := [o1 3 (.mv false (.s 0)),
  o1 4 (.bin .geq (.s 3) (.k (.sc (.int .u64 4294967296))))]
def g_math_bits_Len64_2 : List (IStep2 RW) := [o1 5 (.mv false (.s 0)),
  o1 6 (.bin .shr (.s 5) (.k (.sc (.int .u64 32)))),
  o1 0 (.mv false (.s 6))]
def g_math_bits_Len64_3 : List (IStep2 RW) := [o1 2 (.mv false (.k (.sc (.int .i64 32))))]
def g_math_bits_Len64_4 : List (IStep2 RW) := [o1 7 (.mv false (.s 0)),
  o1 8 (.bin .geq (.s 7) (.k (.sc (.int .u64 65536))))]
def g_math_bits_Len64_5 : List (IStep2 RW) := [o1 9 (.mv false (.s 0)),
  o1 10 (.bin .shr (.s 9) (.k (.sc (.int .u64 16)))),
  o1 0 (.mv false (.s 10))]
def g_math_bits_Len64_6 : List (IStep2 RW) := [o1 11 (.mv false (.s 2)),
  o1 12 (.bin .add (.s 11) (.k (.sc (.int .i64 16)))),
  o1 2 (.mv false (.s 12))]
def g_math_bits_Len64_7 : List (IStep2 RW) := [o1 13 (.mv false (.s 0)),
  o1 14 (.bin .geq (.s 13) (.k (.sc (.int .u64 256))))]
def g_math_bits_Len64_8 : List (IStep2 RW) := [o1 15 (.mv false (.s 0)),
  o1 16 (.bin .shr (.s 15) (.k (.sc (.int .u64 8)))),
  o1 0 (.mv false (.s 16))]
def g_math_bits_Len64_9 : List (IStep2 RW) := [o1 17 (.mv false (.s 2)),
  o1 18 (.bin .add (.s 17) (.k (.sc (.int .i64 8)))),
  o1 2 (.mv false (.s 18))]
def g_math_bits_Len64_10 : List (IStep2 RW) := [o1 19 (.mv false (.s 2)),
  o1 20 (.mv false (.s 0)),
  o1 21 (.conv .u8 (.s 20)),
  o1 22 (.sidx (.k (.sc (.string tab256_2793))) (.s 21)),
  o1 23 (.conv .i64 (.s 22)),
  o1 24 (.bin .add (.s 19) (.s 23)),
  o1 2 (.mv false (.s 24))]
def i_math_bits_Len64_0 : IC2 RW := .seq (.reg g_math_bits_Len64_0) (.seq (.seq (.fin (.reg g_math_bits_Len64_1) [3] []) (.fin (.cond (.s 4) (.seq (.fin (.reg g_math_bits_Len64_2) [2, 4, 5, 6] []) (.reg g_math_bits_Len64_3)) (.skip)) [4] [])) (.seq (.seq (.fin (.reg g_math_bits_Len64_4) [7] []) (.fin (.cond (.s 8) (.seq (.fin (.reg g_math_bits_Len64_5) [8, 9, 10] []) (.fin (.reg g_math_bits_Len64_6) [11, 12] [])) (.skip)) [8] [])) (.seq (.seq (.fin (.reg g_math_bits_Len64_7) [13] []) (.fin (.cond (.s 14) (.seq (.fin (.reg g_math_bits_Len64_8) [14, 15, 16] []) (.fin (.reg g_math_bits_Len64_9) [17, 18] [])) (.skip)) [14] [])) (.seq (.fin (.reg g_math_bits_Len64_10) [0, 19, 20, 21, 22, 23, 24] []) (.ret)))))
def fn_math_bits_Len64 : IFn2 RW := ⟨52, 1, 25, 32, [], [], [.slot 2], i_math_bits_Len64_0⟩
def g_math_bits_LeadingZeros64_0 : List (IStep2 RW) := [o1 2 (.mv false (.k (.sc (.int .i64 0))))]
def g_math_bits_LeadingZeros64_1 : List (IStep2 RW) := [o1 3 (.mv false (.s 0)),
  o1 4 (.call 52 [(false, .s 3)] []),
  o1 5 (.bin .sub (.k (.sc (.int .i64 64))) (.s 4)),
  o1 2 (.mv false (.s 5))]
def i_math_bits_LeadingZeros64_0 : IC2 RW := .seq (.fin (.reg g_math_bits_LeadingZeros64_0) [2] []) (.seq (.fin (.reg g_math_bits_LeadingZeros64_1) [0, 3, 4, 5] []) (.ret))
def fn_math_bits_LeadingZeros64 : IFn2 RW := ⟨51, 1, 6, 16, [], [], [.slot 2], i_math_bits_LeadingZeros64_0⟩
def g_math_bits_Div64_17 : List (IStep2 RW) := [o1 67 (.mv false (.s 15)),
  o1 68 (.bin .geq (.s 67) (.k (.sc (.int .u64 4294967296)))),
  o2 69 (.mv false (.s 68)),
  o3 70 69 false (.mv false (.s 15)),
  o3 71 69 false (.mv false (.s 10)),
  o3 72 69 false (.bin .mul (.s 70) (.s 71)),
  o3 73 69 false (.mv false (.s 16)),
  o3 74 69 false (.bin .mul (.k (.sc (.int .u64 4294967296))) (.s 73)),
  o3 75 69 false (.mv false (.s 13)),
  o3 76 69 false (.bin .add (.s 74) (.s 75)),
  o3 77 69 false (.bin .gtr (.s 72) (.s 76)),
  o1 78 (.pick (.s 69) (.k (.sc (.bool true))) (.s 77))]
def g_math_bits_Div64_18 : List (IStep2 RW) := [o1 79 (.mv false (.s 15)),
  o1 80 (.bin .sub (.s 79) (.k (.sc (.int .u64 1)))),
  o1 15 (.mv false (.s 80))]
def g_math_bits_Div64_19 : List (IStep2 RW) := [o1 81 (.mv false (.s 16)),
  o1 82 (.mv false (.s 9)),
  o1 83 (.bin .add (.s 81) (.s 82)),
  o1 16 (.mv false (.s 83))]
def g_math_bits_Div64_20 : List (IStep2 RW) := [o1 84 (.mv false (.s 16)),
  o1 85 (.bin .geq (.s 84) (.k (.sc (.int .u64 4294967296))))]
def i_math_bits_Div64_0 : IC2 RW := .seq (.seq (.fin (.reg g_math_bits_Div64_17) [67, 68, 69, 70, 71, 72, 73, 74, 75, 76, 77] []) (.fin (.cond (.s 78) (.skip) (.clr [16, 78] [] (.exit 0))) [78] [])) (.blk 1 (.seq (.fin (.reg g_math_bits_Div64_18) [79, 80] []) (.seq (.fin (.reg g_math_bits_Div64_19) [81, 82, 83] []) (.seq (.fin (.reg g_math_bits_Div64_20) [84] []) (.fin (.cond (.s 85) (.clr [16, 85] [] (.exit 0)) (.skip)) [85] [])))))
def i_math_bits_Div64_1 : IC2 RW := .loop i_math_bits_Div64_0
def i_math_bits_Div64_2 : IC2 RW := .blk 0 i_math_bits_Div64_1
def g_math_bits_Div64_24 : List (IStep2 RW) := [o1 102 (.mv false (.s 18)),
  o1 103 (.bin .geq (.s 102) (.k (.sc (.int .u64 4294967296)))),
  o2 104 (.mv false (.s 103)),
  o3 105 104 false (.mv false (.s 18)),
  o3 106 104 false (.mv false (.s 10)),
  o3 107 104 false (.bin .mul (.s 105) (.s 106)),
  o3 108 104 false (.mv false (.s 16)),
  o3 109 104 false (.bin .mul (.k (.sc (.int .u64 4294967296))) (.s 108)),
  o3 110 104 false (.mv false (.s 14)),
  o3 111 104 false (.bin .add (.s 109) (.s 110)),
  o3 112 104 false (.bin .gtr (.s 107) (.s 111)),
  o1 113 (.pick (.s 104) (.k (.sc (.bool true))) (.s 112))]
def g_math_bits_Div64_25 : List (IStep2 RW) := [o1 114 (.mv false (.s 18)),
  o1 115 (.bin .sub (.s 114) (.k (.sc (.int .u64 1)))),
  o1 18 (.mv false (.s 115))]
def g_math_bits_Div64_26 : List (IStep2 RW) := [o1 116 (.mv false (.s 16)),
  o1 117 (.mv false (.s 9)),
  o1 118 (.bin .add (.s 116) (.s 117)),
  o1 16 (.mv false (.s 118))]
def g_math_bits_Div64_27 : List (IStep2 RW) := [o1 119 (.mv false (.s 16)),
  o1 120 (.bin .geq (.s 119) (.k (.sc (.int .u64 4294967296))))]
def i_math_bits_Div64_3 : IC2 RW := .seq (.seq (.fin (.reg g_math_bits_Div64_24) [102, 103, 104, 105, 106, 107, 108, 109, 110, 111, 112] []) (.fin (.cond (.s 113) (.skip) (.clr [9, 10, 16, 113] [] (.exit 2))) [113] [])) (.blk 3 (.seq (.fin (.reg g_math_bits_Div64_25) [114, 115] []) (.seq (.fin (.reg g_math_bits_Div64_26) [116, 117, 118] []) (.seq (.fin (.reg g_math_bits_Div64_27) [119] []) (.fin (.cond (.s 120) (.clr [9, 10, 16, 120] [] (.exit 2)) (.skip)) [120] [])))))
def i_math_bits_Div64_4 : IC2 RW := .loop i_math_bits_Div64_3
def i_math_bits_Div64_5 : IC2 RW := .blk 2 i_math_bits_Div64_4
def g_math_bits_Div64_28 : List (IStep2 RW) := [o1 121 (.mv false (.s 15)),
  o1 122 (.bin .mul (.s 121) (.k (.sc (.int .u64 4294967296)))),
  o1 123 (.mv false (.s 18)),
  o1 124 (.bin .add (.s 122) (.s 123)),
  o1 125 (.mv false (.s 17)),
  o1 126 (.bin .mul (.s 125) (.k (.sc (.int .u64 4294967296)))),
  o1 127 (.mv false (.s 14)),
  o1 128 (.bin .add (.s 126) (.s 127)),
  o1 129 (.mv false (.s 18)),
  o1 130 (.mv false (.s 2)),
  o1 131 (.bin .mul (.s 129) (.s 130)),
  o1 132 (.bin .sub (.s 128) (.s 131)),
  o1 133 (.mv false (.s 8)),
  o1 134 (.bin .shr (.s 132) (.s 133)),
  o1 6 (.mv false (.s 124)),
  o1 7 (.mv false (.s 134))]
def i_math_bits_Div64_6 : IC2 RW := .seq (.fin (.reg g_math_bits_Div64_28) [2, 8, 14, 15, 17, 18, 121, 122, 123, 124, 125, 126, 127, 128, 129, 130, 131, 132, 133, 134] []) (.ret)
def i_math_bits_Div64_7 : IC2 RW := .seq i_math_bits_Div64_5 i_math_bits_Div64_6
def g_math_bits_Div64_21 : List (IStep2 RW) := [o1 86 (.mv false (.s 11)),
  o1 87 (.bin .mul (.s 86) (.k (.sc (.int .u64 4294967296)))),
  o1 88 (.mv false (.s 13)),
  o1 89 (.bin .add (.s 87) (.s 88)),
  o1 90 (.mv false (.s 15)),
  o1 91 (.mv false (.s 2)),
  o1 92 (.bin .mul (.s 90) (.s 91)),
  o1 93 (.bin .sub (.s 89) (.s 92)),
  o1 17 (.mv false (.s 93))]
def g_math_bits_Div64_22 : List (IStep2 RW) := [o1 94 (.mv false (.s 17)),
  o1 95 (.mv false (.s 9)),
  o1 96 (.bin .quo (.s 94) (.s 95)),
  o1 18 (.mv false (.s 96))]
def g_math_bits_Div64_23 : List (IStep2 RW) := [o1 97 (.mv false (.s 17)),
  o1 98 (.mv false (.s 18)),
  o1 99 (.mv false (.s 9)),
  o1 100 (.bin .mul (.s 98) (.s 99)),
  o1 101 (.bin .sub (.s 97) (.s 100)),
  o1 16 (.mv false (.s 101))]
def i_math_bits_Div64_8 : IC2 RW := .seq (.fin (.reg g_math_bits_Div64_21) [11, 13, 86, 87, 88, 89, 90, 91, 92, 93] []) (.seq (.fin (.reg g_math_bits_Div64_22) [94, 95, 96] []) (.seq (.fin (.reg g_math_bits_Div64_23) [97, 98, 99, 100, 101] []) i_math_bits_Div64_7))
def i_math_bits_Div64_9 : IC2 RW := .seq i_math_bits_Div64_2 i_math_bits_Div64_8
def g_math_bits_Div64_0 : List (IStep2 RW) := [o1 6 (.mv false (.k (.sc (.int .u64 0)))),
  o1 7 (.mv false (.k (.sc (.int .u64 0))))]
def g_math_bits_Div64_1 : List (IStep2 RW) := [o1 19 (.mv false (.s 2)),
  o1 20 (.bin .eql (.s 19) (.k (.sc (.int .u64 0))))]
def g_math_bits_Div64_3 : List (IStep2 RW) := [o1 22 (.mv false (.s 2)),
  o1 23 (.mv false (.s 0)),
  o1 24 (.bin .leq (.s 22) (.s 23))]
def g_math_bits_Div64_5 : List (IStep2 RW) := [o1 26 (.mv false (.s 0)),
  o1 27 (.bin .eql (.s 26) (.k (.sc (.int .u64 0))))]
def g_math_bits_Div64_6 : List (IStep2 RW) := [o1 28 (.mv false (.s 1)),
  o1 29 (.mv false (.s 2)),
  o1 30 (.bin .quo (.s 28) (.s 29)),
  o1 31 (.mv false (.s 1)),
  o1 32 (.mv false (.s 2)),
  o1 33 (.bin .rem (.s 31) (.s 32)),
  o1 6 (.mv false (.s 30)),
  o1 7 (.mv false (.s 33))]
def g_math_bits_Div64_7 : List (IStep2 RW) := [o1 34 (.mv false (.s 2)),
  o1 35 (.call 51 [(false, .s 34)] []),
  o1 36 (.conv .u64 (.s 35)),
  o1 8 (.mv false (.s 36))]
def g_math_bits_Div64_8 : List (IStep2 RW) := [o1 37 (.mv false (.s 2)),
  o1 38 (.mv false (.s 8)),
  o1 39 (.bin .shl (.s 37) (.s 38)),
  o1 2 (.mv false (.s 39))]
def g_math_bits_Div64_9 : List (IStep2 RW) := [o1 40 (.mv false (.s 2)),
  o1 41 (.bin .shr (.s 40) (.k (.sc (.int .u64 32)))),
  o1 9 (.mv false (.s 41))]
def g_math_bits_Div64_10 : List (IStep2 RW) := [o1 42 (.mv false (.s 2)),
  o1 43 (.bin .and (.s 42) (.k (.sc (.int .u64 4294967295)))),
  o1 10 (.mv false (.s 43))]
def g_math_bits_Div64_11 : List (IStep2 RW) := [o1 44 (.mv false (.s 0)),
  o1 45 (.mv false (.s 8)),
  o1 46 (.bin .shl (.s 44) (.s 45)),
  o1 47 (.mv false (.s 1)),
  o1 48 (.mv false (.s 8)),
  o1 49 (.bin .sub (.k (.sc (.int .u64 64))) (.s 48)),
  o1 50 (.bin .shr (.s 47) (.s 49)),
  o1 51 (.bin .or (.s 46) (.s 50)),
  o1 11 (.mv false (.s 51))]
def g_math_bits_Div64_12 : List (IStep2 RW) := [o1 52 (.mv false (.s 1)),
  o1 53 (.mv false (.s 8)),
  o1 54 (.bin .shl (.s 52) (.s 53)),
  o1 12 (.mv false (.s 54))]
def g_math_bits_Div64_13 : List (IStep2 RW) := [o1 55 (.mv false (.s 12)),
  o1 56 (.bin .shr (.s 55) (.k (.sc (.int .u64 32)))),
  o1 13 (.mv false (.s 56))]
def g_math_bits_Div64_14 : List (IStep2 RW) := [o1 57 (.mv false (.s 12)),
  o1 58 (.bin .and (.s 57) (.k (.sc (.int .u64 4294967295)))),
  o1 14 (.mv false (.s 58))]
def g_math_bits_Div64_15 : List (IStep2 RW) := [o1 59 (.mv false (.s 11)),
  o1 60 (.mv false (.s 9)),
  o1 61 (.bin .quo (.s 59) (.s 60)),
  o1 15 (.mv false (.s 61))]
def g_math_bits_Div64_16 : List (IStep2 RW) := [o1 62 (.mv false (.s 11)),
  o1 63 (.mv false (.s 15)),
  o1 64 (.mv false (.s 9)),
  o1 65 (.bin .mul (.s 63) (.s 64)),
  o1 66 (.bin .sub (.s 62) (.s 65)),
  o1 16 (.mv false (.s 66))]
def i_math_bits_Div64_10 : IC2 RW := .seq (.fin (.reg g_math_bits_Div64_0) [6, 7] []) (.seq (.seq (.fin (.reg g_math_bits_Div64_1) [19] []) (.fin (.cond (.s 20) (.stuck) (.skip)) [20] [])) (.seq (.seq (.fin (.reg g_math_bits_Div64_3) [22, 23] []) (.fin (.cond (.s 24) (.stuck) (.skip)) [24] [])) (.seq (.seq (.fin (.reg g_math_bits_Div64_5) [26] []) (.fin (.cond (.s 27) (.seq (.fin (.reg g_math_bits_Div64_6) [0, 1, 2, 27, 28, 29, 30, 31, 32, 33] []) (.ret)) (.skip)) [27] [])) (.seq (.fin (.reg g_math_bits_Div64_7) [34, 35, 36] []) (.seq (.fin (.reg g_math_bits_Div64_8) [37, 38, 39] []) (.seq (.fin (.reg g_math_bits_Div64_9) [40, 41] []) (.seq (.fin (.reg g_math_bits_Div64_10) [42, 43] []) (.seq (.fin (.reg g_math_bits_Div64_11) [0, 44, 45, 46, 47, 48, 49, 50, 51] []) (.seq (.fin (.reg g_math_bits_Div64_12) [1, 52, 53, 54] []) (.seq (.fin (.reg g_math_bits_Div64_13) [55, 56] []) (.seq (.fin (.reg g_math_bits_Div64_14) [12, 57, 58] []) (.seq (.fin (.reg g_math_bits_Div64_15) [59, 60, 61] []) (.seq (.fin (.reg g_math_bits_Div64_16) [62, 63, 64, 65, 66] []) i_math_bits_Div64_9)))))))))))))
def fn_math_bits_Div64 : IFn2 RW := ⟨50, 3, 135, 144, [], [], [.slot 6, .slot 7], i_math_bits_Div64_10⟩
def g_seq_MulDiv_0 : List (IStep2 RW) := [o1 6 (.mv false (.k (.sc (.int .i64 0)))),
  o1 7 (.mv false (.k (.sc (.int .i64 0))))]
def g_seq_MulDiv_1 : List (IStep2 RW) := [o1 12 (.mv false (.s 0)),
  o1 13 (.bin .lss (.s 12) (.k (.sc (.int .i64 0)))),
  o2 14 (.mv false (.s 13)),
  o3 15 14 false (.mv false (.s 1)),
  o3 16 14 false (.bin .lss (.s 15) (.k (.sc (.int .i64 0)))),
  o1 17 (.pick (.s 14) (.k (.sc (.bool true))) (.s 16)),
  o2 18 (.mv false (.s 17)),
  o3 19 18 false (.mv false (.s 2)),
  o3 20 18 false (.bin .leq (.s 19) (.k (.sc (.int .i64 0)))),
  o1 21 (.pick (.s 18) (.k (.sc (.bool true))) (.s 20))]
def g_seq_MulDiv_2 : List (IStep2 RW) := [o1 6 (.mv false (.k (.sc (.int .i64 0)))),
  o1 7 (.mv false (.k (.sc (.int .i64 2))))]
def g_seq_MulDiv_3 : List (IStep2 RW) := [o1 23 (.mv false (.s 0)),
  o1 24 (.conv .u64 (.s 23)),
  o1 25 (.mv false (.s 1)),
  o1 26 (.conv .u64 (.s 25)),
  o1 27 (.call 49 [(false, .s 24), (false, .s 26)] []),
  o1 22 (.mv false (.s 27)),
  o1 28 (.ext false 0 (.s 22)),
  o1 29 (.ext false 1 (.s 22)),
  o1 8 (.mv false (.s 28)),
  o1 9 (.mv false (.s 29))]
def g_seq_MulDiv_4 : List (IStep2 RW) := [o1 30 (.mv false (.s 8)),
  o1 31 (.mv false (.s 2)),
  o1 32 (.conv .u64 (.s 31)),
  o1 33 (.bin .geq (.s 30) (.s 32))]
def g_seq_MulDiv_5 : List (IStep2 RW) := [o1 6 (.mv false (.k (.sc (.int .i64 9223372036854775807)))),
  o1 7 (.mv false (.k (.sc (.int .i64 0))))]
def g_seq_MulDiv_6 : List (IStep2 RW) := [o1 35 (.mv false (.s 8)),
  o1 36 (.mv false (.s 9)),
  o1 37 (.mv false (.s 2)),
  o1 38 (.conv .u64 (.s 37)),
  o1 39 (.call 50 [(false, .s 35), (false, .s 36), (false, .s 38)] []),
  o1 34 (.mv false (.s 39)),
  o1 40 (.ext false 0 (.s 34)),
  o1 41 (.ext false 1 (.s 34)),
  o1 10 (.mv false (.s 40)),
  o1 11 (.mv false (.s 41))]
def g_seq_MulDiv_7 : List (IStep2 RW) := [o1 42 (.mv false (.s 10)),
  o1 43 (.mnmx false [.s 42, .k (.sc (.int .u64 9223372036854775807))]),
  o1 44 (.conv .i64 (.s 43)),
  o1 6 (.mv false (.s 44)),
  o1 7 (.mv false (.k (.sc (.int .i64 0))))]
def i_seq_MulDiv_0 : IC2 RW := .seq (.fin (.reg g_seq_MulDiv_0) [6, 7] []) (.seq (.seq (.fin (.reg g_seq_MulDiv_1) [12, 13, 14, 15, 16, 17, 18, 19, 20] []) (.fin (.cond (.s 21) (.seq (.fin (.reg g_seq_MulDiv_2) [0, 1, 2, 21] []) (.ret)) (.skip)) [21] [])) (.seq (.fin (.reg g_seq_MulDiv_3) [0, 1, 22, 23, 24, 25, 26, 27, 28, 29] []) (.seq (.seq (.fin (.reg g_seq_MulDiv_4) [30, 31, 32] []) (.fin (.cond (.s 33) (.seq (.fin (.reg g_seq_MulDiv_5) [2, 8, 9, 33] []) (.ret)) (.skip)) [33] [])) (.seq (.fin (.reg g_seq_MulDiv_6) [2, 8, 9, 11, 34, 35, 36, 37, 38, 39, 40, 41] []) (.seq (.fin (.reg g_seq_MulDiv_7) [10, 42, 43, 44] []) (.ret))))))
def fn_seq_MulDiv : IFn2 RW := ⟨47, 3, 45, 48, [], [], [.slot 6, .slot 7], i_seq_MulDiv_0⟩
def g_cubic_by_0 : List (IStep2 RW) := [o1 6 (.mv false (.k (.sc (.int .i64 0))))]
def g_cubic_by_1 : List (IStep2 RW) := [o1 10 (.mv false (.s 0)),
  o1 11 (.mv false (.s 1)),
  o1 12 (.mv false (.s 2)),
  o1 13 (.call 47 [(false, .s 10), (false, .s 11), (false, .s 12)] []),
  o1 9 (.mv false (.s 13)),
  o1 14 (.ext false 0 (.s 9)),
  o1 15 (.ext false 1 (.s 9)),
  o1 7 (.mv false (.s 14)),
  o1 8 (.mv false (.s 15))]
def g_cubic_by_2 : List (IStep2 RW) := [o1 16 (.mv false (.s 7)),
  o1 6 (.mv false (.s 16))]
def i_cubic_by_0 : IC2 RW := .seq (.fin (.reg g_cubic_by_0) [6] []) (.seq (.fin (.reg g_cubic_by_1) [0, 1, 2, 8, 9, 10, 11, 12, 13, 14, 15] []) (.seq (.fin (.reg g_cubic_by_2) [7, 16] []) (.ret)))
def fn_cubic_by : IFn2 RW := ⟨37, 3, 17, 32, [], [], [.slot 6], i_cubic_by_0⟩
def g_seq_Cbrt_3 : List (IStep2 RW) := [o1 7 (.bin .lss (.s 6) (.k (.sc (.int .i64 21))))]
def g_seq_Cbrt_4 : List (IStep2 RW) := [o1 8 (.mv false (.s 6)),
  o1 4 (.mv false (.s 8))]
def g_seq_Cbrt_5 : List (IStep2 RW) := [o1 9 (.mv false (.s 3)),
  o1 10 (.mv false (.s 4)),
  o1 11 (.bin .sub (.k (.sc (.int .i64 20))) (.s 10)),
  o1 12 (.bin .shl (.k (.sc (.int .i64 1))) (.s 11)),
  o1 13 (.bin .or (.s 9) (.s 12)),
  o1 5 (.mv false (.s 13))]
def g_seq_Cbrt_6 : List (IStep2 RW) := [o1 14 (.mv false (.s 5)),
  o1 15 (.mv false (.s 5)),
  o1 16 (.bin .mul (.s 14) (.s 15)),
  o1 17 (.mv false (.s 5)),
  o1 18 (.bin .mul (.s 16) (.s 17)),
  o1 19 (.mv false (.s 0)),
  o1 20 (.bin .leq (.s 18) (.s 19))]
def g_seq_Cbrt_7 : List (IStep2 RW) := [o1 21 (.mv false (.s 5)),
  o1 3 (.mv false (.s 21))]
def g_seq_Cbrt_8 : List (IStep2 RW) := [o1 22 (.bin .add (.s 6) (.k (.sc (.int .i64 1)))),
  o1 6 (.mv false (.s 22))]
def i_seq_Cbrt_0 : IC2 RW := .seq (.reg g_seq_Cbrt_3) (.seq (.fin (.cond (.s 7) (.skip) (.clr [0, 6, 7] [] (.exit 0))) [7] []) (.seq (.blk 1 (.seq (.fin (.reg g_seq_Cbrt_4) [8] []) (.seq (.fin (.reg g_seq_Cbrt_5) [4, 9, 10, 11, 12, 13] []) (.seq (.fin (.reg g_seq_Cbrt_6) [14, 15, 16, 17, 18, 19] []) (.fin (.cond (.s 20) (.fin (.reg g_seq_Cbrt_7) [5, 20, 21] []) (.skip)) [5, 20] []))))) (.fin (.reg g_seq_Cbrt_8) [22] [])))
def i_seq_Cbrt_1 : IC2 RW := .loop i_seq_Cbrt_0
def i_seq_Cbrt_2 : IC2 RW := .blk 0 i_seq_Cbrt_1
def g_seq_Cbrt_2 : List (IStep2 RW) := [o1 6 (.mv false (.k (.sc (.int .i64 0))))]
def i_seq_Cbrt_3 : IC2 RW := .seq (.reg g_seq_Cbrt_2) i_seq_Cbrt_2
def g_seq_Cbrt_9 : List (IStep2 RW) := [o1 23 (.mv false (.s 3)),
  o1 2 (.mv false (.s 23))]
def i_seq_Cbrt_4 : IC2 RW := .seq (.fin (.reg g_seq_Cbrt_9) [3, 23] []) (.ret)
def i_seq_Cbrt_5 : IC2 RW := .seq i_seq_Cbrt_3 i_seq_Cbrt_4
def g_seq_Cbrt_0 : List (IStep2 RW) := [o1 2 (.mv false (.k (.sc (.int .i64 0))))]
def g_seq_Cbrt_1 : List (IStep2 RW) := [o1 3 (.mv false (.k (.sc (.int .i64 0))))]
def i_seq_Cbrt_6 : IC2 RW := .seq (.fin (.reg g_seq_Cbrt_0) [2] []) (.seq (.reg g_seq_Cbrt_1) i_seq_Cbrt_5)
def fn_seq_Cbrt : IFn2 RW := ⟨48, 1, 24, 32, [], [], [.slot 2], i_seq_Cbrt_6⟩
def g_cubic_ctl_begin_0 : List (IStep2 RW) := [o1 4 (.mv false (.s 0)),
  o1 5 (.mv false (.s 0)),
  o1 6 (.mv false (.s 0)),
  o1 7 (.mv false (.s 0)),
  o1 8 (.mv false (.s 1)),
  o1 9 (.mv false (.s 0)),
  o1 10 (.nil (.s 9)),
  o1 11 (.fld 0 (.s 10)),
  o1 12 (.fld 2 (.s 11)),
  o1 13 (.load 74 2 1 false false 12),
  o1 14 (.mv false (.s 0)),
  o1 15 (.nil (.s 14)),
  o1 16 (.fld 0 (.s 15)),
  o1 17 (.fld 2 (.s 16)),
  o1 18 (.load 74 2 1 false false 17),
  o1 19 (.nil (.s 4)),
  o1 20 (.fld 0 (.s 19)),
  o1 21 (.fld 6 (.s 20)),
  o0 (.store 74 6 1 false 21 (.s 8)),
  o1 22 (.nil (.s 5)),
  o1 23 (.fld 0 (.s 22)),
  o1 24 (.fld 9 (.s 23)),
  o0 (.store 74 9 1 false 24 (.s 13)),
  o1 25 (.nil (.s 6)),
  o1 26 (.fld 0 (.s 25)),
  o1 27 (.fld 8 (.s 26)),
  o0 (.store 74 8 1 false 27 (.s 18)),
  o1 28 (.nil (.s 7)),
  o1 29 (.fld 0 (.s 28)),
  o1 30 (.fld 7 (.s 29)),
  o0 (.store 74 7 1 false 30 (.k (.sc (.int .i64 0))))]
def g_cubic_ctl_begin_1 : List (IStep2 RW) := [o1 31 (.mv false (.s 0)),
  o1 32 (.nil (.s 31)),
  o1 33 (.fld 0 (.s 32)),
  o1 34 (.fld 2 (.s 33)),
  o1 35 (.load 74 2 1 false false 34),
  o1 36 (.mv false (.s 0)),
  o1 37 (.nil (.s 36)),
  o1 38 (.fld 0 (.s 37)),
  o1 39 (.fld 5 (.s 38)),
  o1 40 (.load 74 5 1 false false 39),
  o1 41 (.bin .lss (.s 35) (.s 40))]
def g_cubic_ctl_begin_2 : List (IStep2 RW) := [o1 42 (.mv false (.s 0)),
  o1 43 (.mv false (.s 0)),
  o1 44 (.nil (.s 43)),
  o1 45 (.fld 0 (.s 44)),
  o1 46 (.fld 5 (.s 45)),
  o1 47 (.load 74 5 1 false false 46),
  o1 48 (.mv false (.s 0)),
  o1 49 (.nil (.s 48)),
  o1 50 (.fld 0 (.s 49)),
  o1 51 (.fld 2 (.s 50)),
  o1 52 (.load 74 2 1 false false 51),
  o1 53 (.bin .sub (.s 47) (.s 52)),
  o1 54 (.mv false (.s 0)),
  o1 55 (.nil (.s 54)),
  o1 56 (.fld 0 (.s 55)),
  o1 57 (.fld 1 (.s 56)),
  o1 58 (.load 74 1 1 false false 57),
  o1 59 (.bin .mul (.k (.sc (.int .i64 4))) (.s 58)),
  o1 60 (.call 37 [(false, .s 53), (false, .k (.sc (.int .i64 10000000000))), (false, .s 59)] []),
  o1 61 (.call 48 [(false, .s 60)] []),
  o1 62 (.nil (.s 42)),
  o1 63 (.fld 0 (.s 62)),
  o1 64 (.fld 7 (.s 63)),
  o0 (.store 74 7 1 false 64 (.s 61))]
def g_cubic_ctl_begin_3 : List (IStep2 RW) := [o1 65 (.mv false (.s 0)),
  o1 66 (.mv false (.s 0)),
  o1 67 (.nil (.s 66)),
  o1 68 (.fld 0 (.s 67)),
  o1 69 (.fld 2 (.s 68)),
  o1 70 (.load 74 2 1 false false 69),
  o1 71 (.nil (.s 65)),
  o1 72 (.fld 0 (.s 71)),
  o1 73 (.fld 5 (.s 72)),
  o0 (.store 74 5 1 false 73 (.s 70))]
def i_cubic_ctl_begin_0 : IC2 RW := .seq (.fin (.reg g_cubic_ctl_begin_0) [1, 4, 5, 6, 7, 8, 9, 10, 11, 12, 13, 14, 15, 16, 17, 18, 19, 20, 21, 22, 23, 24, 25, 26, 27, 28, 29, 30] []) (.seq (.seq (.fin (.reg g_cubic_ctl_begin_1) [31, 32, 33, 34, 35, 36, 37, 38, 39, 40] []) (.fin (.cond (.s 41) (.seq (.fin (.reg g_cubic_ctl_begin_2) [0, 41, 42, 43, 44, 45, 46, 47, 48, 49, 50, 51, 52, 53, 54, 55, 56, 57, 58, 59, 60, 61, 62, 63, 64] []) (.ret)) (.skip)) [41] [])) (.fin (.reg g_cubic_ctl_begin_3) [0, 65, 66, 67, 68, 69, 70, 71, 72, 73] []))
def fn_cubic_ctl_begin : IFn2 RW := ⟨44, 2, 74, 112, [(74, 22)], [(74, 22)], [], i_cubic_ctl_begin_0⟩
def g_seq_Sum_0 : List (IStep2 RW) := [o1 4 (.mv false (.k (.sc (.int .i64 0))))]
def g_seq_Sum_1 : List (IStep2 RW) := [o1 6 (.mv false (.s 0)),
  o1 7 (.mv false (.s 1)),
  o1 8 (.bin .add (.s 6) (.s 7)),
  o1 5 (.mv false (.s 8))]
def g_seq_Sum_2 : List (IStep2 RW) := [o1 10 (.mv false (.s 0)),
  o1 11 (.bin .gtr (.s 10) (.k (.sc (.int .i64 0)))),
  o2 12 (.mv false (.s 11)),
  o3 13 12 true (.mv false (.s 1)),
  o3 14 12 true (.bin .gtr (.s 13) (.k (.sc (.int .i64 0)))),
  o1 15 (.pick (.s 12) (.s 14) (.k (.sc (.bool false)))),
  o2 16 (.mv false (.s 15)),
  o3 17 16 true (.mv false (.s 5)),
  o3 18 16 true (.bin .lss (.s 17) (.k (.sc (.int .i64 0)))),
  o1 19 (.pick (.s 16) (.s 18) (.k (.sc (.bool false)))),
  o1 9 (.mv false (.s 19))]
def g_seq_Sum_3 : List (IStep2 RW) := [o1 4 (.mv false (.k (.sc (.int .i64 9223372036854775807))))]
def g_seq_Sum_4 : List (IStep2 RW) := [o1 21 (.mv false (.s 0)),
  o1 22 (.bin .lss (.s 21) (.k (.sc (.int .i64 0)))),
  o2 23 (.mv false (.s 22)),
  o3 24 23 true (.mv false (.s 1)),
  o3 25 23 true (.bin .lss (.s 24) (.k (.sc (.int .i64 0)))),
  o1 26 (.pick (.s 23) (.s 25) (.k (.sc (.bool false)))),
  o2 27 (.mv false (.s 26)),
  o3 28 27 true (.mv false (.s 5)),
  o3 29 27 true (.bin .geq (.s 28) (.k (.sc (.int .i64 0)))),
  o1 30 (.pick (.s 27) (.s 29) (.k (.sc (.bool false)))),
  o1 20 (.mv false (.s 30))]
def g_seq_Sum_5 : List (IStep2 RW) := [o1 4 (.mv false (.k (.sc (.int .i64 (-9223372036854775808)))))]
def g_seq_Sum_6 : List (IStep2 RW) := [o1 31 (.mv false (.s 5)),
  o1 4 (.mv false (.s 31))]
def i_seq_Sum_0 : IC2 RW := .seq (.fin (.reg g_seq_Sum_0) [4] []) (.seq (.fin (.reg g_seq_Sum_1) [6, 7, 8] []) (.seq (.blk 0 (.seq (.fin (.reg g_seq_Sum_2) [10, 11, 12, 13, 14, 15, 16, 17, 18, 19] []) (.cond (.s 9) (.seq (.fin (.reg g_seq_Sum_3) [0, 1, 5, 9] []) (.ret)) (.seq (.fin (.reg g_seq_Sum_4) [0, 1, 9, 21, 22, 23, 24, 25, 26, 27, 28, 29, 30] []) (.fin (.cond (.s 20) (.seq (.fin (.reg g_seq_Sum_5) [5, 20] []) (.ret)) (.skip)) [20] []))))) (.seq (.fin (.reg g_seq_Sum_6) [5, 31] []) (.ret))))
def fn_seq_Sum : IFn2 RW := ⟨36, 2, 32, 32, [], [], [.slot 4], i_seq_Sum_0⟩
def g_seq_Clamp_0 : List (IStep2 RW) := [o1 6 (.mv false (.k (.sc (.int .i64 0))))]
def g_seq_Clamp_1 : List (IStep2 RW) := [o1 7 (.mv false (.s 1)),
  o1 8 (.mv false (.s 0)),
  o1 9 (.mv false (.s 2)),
  o1 10 (.mnmx false [.s 8, .s 9]),
  o1 11 (.mnmx true [.s 7, .s 10]),
  o1 6 (.mv false (.s 11))]
def i_seq_Clamp_0 : IC2 RW := .seq (.fin (.reg g_seq_Clamp_0) [6] []) (.seq (.fin (.reg g_seq_Clamp_1) [0, 1, 2, 7, 8, 9, 10, 11] []) (.ret))
def fn_seq_Clamp : IFn2 RW := ⟨35, 3, 12, 16, [], [], [.slot 6], i_seq_Clamp_0⟩
def g_cubic_Curve_8 : List (IStep2 RW) := [o1 34 (.fld 5 (.s 2)),
  o1 35 (.load 39 5 1 false false 34),
  o1 36 (.mv false (.s 7)),
  o1 37 (.call 36 [(false, .s 35), (false, .s 36)] []),
  o1 38 (.call 35 [(false, .s 37), (false, .k (.sc (.int .i64 0))), (false, .k (.sc (.int .i64 1073741824)))] []),
  o1 4 (.mv false (.s 38))]
def i_cubic_Curve_0 : IC2 RW := .seq (.fin (.reg g_cubic_Curve_8) [2, 7, 34, 35, 36, 37, 38] [(39, 22)]) (.ret)
def g_cubic_Curve_0 : List (IStep2 RW) := [o1 2 (.box 39 22 false (.s 0)),
  o1 4 (.mv false (.k (.sc (.int .i64 0))))]
def g_cubic_Curve_1 : List (IStep2 RW) := [o1 8 (.load 39 0 22 true false 2),
  o1 9 (.call 11 [(false, .s 8)] []),
  o1 10 (.bin .neq (.s 9) (.k (.sc (.int .i64 0))))]
def g_cubic_Curve_2 : List (IStep2 RW) := [o1 4 (.mv false (.k (.sc (.int .i64 0))))]
def g_cubic_Curve_3 : List (IStep2 RW) := [o1 11 (.mv false (.s 1)),
  o1 12 (.fld 7 (.s 2)),
  o1 13 (.load 39 7 1 false false 12),
  o1 14 (.un .neg (.s 13)),
  o1 15 (.call 36 [(false, .s 11), (false, .s 14)] []),
  o1 16 (.call 35 [(false, .s 15), (false, .k (.sc (.int .i64 (-1000000)))), (false, .k (.sc (.int .i64 1000000)))] []),
  o1 5 (.mv false (.s 16))]
def g_cubic_Curve_4 : List (IStep2 RW) := [o1 17 (.mv false (.s 5)),
  o1 18 (.mv false (.s 5)),
  o1 19 (.un .neg (.s 18)),
  o1 20 (.mnmx true [.s 17, .s 19]),
  o1 6 (.mv false (.s 20))]
def g_cubic_Curve_5 : List (IStep2 RW) := [o1 21 (.mv false (.s 6)),
  o1 22 (.mv false (.s 6)),
  o1 23 (.bin .mul (.s 21) (.s 22)),
  o1 24 (.mv false (.s 6)),
  o1 25 (.bin .mul (.s 23) (.s 24)),
  o1 26 (.fld 1 (.s 2)),
  o1 27 (.load 39 1 1 false false 26),
  o1 28 (.bin .mul (.k (.sc (.int .i64 4))) (.s 27)),
  o1 29 (.call 37 [(false, .s 25), (false, .s 28), (false, .k (.sc (.int .i64 10000000000)))] []),
  o1 7 (.mv false (.s 29))]
def g_cubic_Curve_6 : List (IStep2 RW) := [o1 30 (.mv false (.s 5)),
  o1 31 (.bin .lss (.s 30) (.k (.sc (.int .i64 0))))]
def g_cubic_Curve_7 : List (IStep2 RW) := [o1 32 (.mv false (.s 7)),
  o1 33 (.un .neg (.s 32)),
  o1 7 (.mv false (.s 33))]
def i_cubic_Curve_1 : IC2 RW := .seq (.fin (.reg g_cubic_Curve_0) [0, 4] []) (.seq (.seq (.fin (.reg g_cubic_Curve_1) [8, 9] []) (.fin (.cond (.s 10) (.seq (.fin (.reg g_cubic_Curve_2) [1, 2, 10] [(39, 22)]) (.ret)) (.skip)) [10] [])) (.seq (.fin (.reg g_cubic_Curve_3) [1, 11, 12, 13, 14, 15, 16] []) (.seq (.fin (.reg g_cubic_Curve_4) [17, 18, 19, 20] []) (.seq (.fin (.reg g_cubic_Curve_5) [6, 21, 22, 23, 24, 25, 26, 27, 28, 29] []) (.seq (.seq (.fin (.reg g_cubic_Curve_6) [5, 30] []) (.fin (.cond (.s 31) (.fin (.reg g_cubic_Curve_7) [31, 32, 33] []) (.skip)) [31] [])) i_cubic_Curve_0)))))
def fn_cubic_Curve : IFn2 RW := ⟨13, 2, 39, 64, [(39, 22)], [], [.slot 4], i_cubic_Curve_1⟩
def g_cubic_ctl_grow_5 : List (IStep2 RW) := [o1 79 (.mv false (.s 0)),
  o1 80 (.mv false (.s 0)),
  o1 81 (.nil (.s 80)),
  o1 82 (.fld 0 (.s 81)),
  o1 83 (.fld 8 (.s 82)),
  o1 84 (.load 110 8 1 false false 83),
  o1 85 (.mv false (.s 0)),
  o1 86 (.nil (.s 85)),
  o1 87 (.fld 0 (.s 86)),
  o1 88 (.fld 2 (.s 87)),
  o1 89 (.load 110 2 1 false false 88),
  o1 90 (.mv false (.s 9)),
  o1 91 (.mv false (.s 0)),
  o1 92 (.nil (.s 91)),
  o1 93 (.fld 0 (.s 92)),
  o1 94 (.fld 2 (.s 93)),
  o1 95 (.load 110 2 1 false false 94),
  o1 96 (.bin .sub (.s 90) (.s 95)),
  o1 97 (.mv false (.s 1)),
  o1 98 (.mv false (.s 0)),
  o1 99 (.nil (.s 98)),
  o1 100 (.fld 0 (.s 99)),
  o1 101 (.fld 2 (.s 100)),
  o1 102 (.load 110 2 1 false false 101),
  o1 103 (.call 37 [(false, .s 96), (false, .s 97), (false, .s 102)] []),
  o1 104 (.call 36 [(false, .s 89), (false, .s 103)] []),
  o1 105 (.mnmx true [.s 84, .s 104]),
  o1 106 (.mnmx false [.k (.sc (.int .i64 1073741824)), .s 105]),
  o1 107 (.nil (.s 79)),
  o1 108 (.fld 0 (.s 107)),
  o1 109 (.fld 2 (.s 108)),
  o0 (.store 110 2 1 false 109 (.s 106))]
def i_cubic_ctl_grow_0 : IC2 RW := .fin (.reg g_cubic_ctl_grow_5) [0, 1, 9, 79, 80, 81, 82, 83, 84, 85, 86, 87, 88, 89, 90, 91, 92, 93, 94, 95, 96, 97, 98, 99, 100, 101, 102, 103, 104, 105, 106, 107, 108, 109] []
def g_cubic_ctl_grow_3 : List (IStep2 RW) := [o1 30 (.mv false (.s 0)),
  o1 31 (.nil (.s 30)),
  o1 32 (.fld 0 (.s 31)),
  o1 33 (.load 110 0 22 true false 32),
  o1 34 (.mv false (.s 8)),
  o1 35 (.call 13 [(false, .s 33), (false, .s 34)] []),
  o1 36 (.mv false (.s 0)),
  o1 37 (.nil (.s 36)),
  o1 38 (.fld 0 (.s 37)),
  o1 39 (.fld 2 (.s 38)),
  o1 40 (.load 110 2 1 false false 39),
  o1 41 (.mv false (.s 0)),
  o1 42 (.nil (.s 41)),
  o1 43 (.fld 0 (.s 42)),
  o1 44 (.fld 2 (.s 43)),
  o1 45 (.load 110 2 1 false false 44),
  o1 46 (.mv false (.s 0)),
  o1 47 (.nil (.s 46)),
  o1 48 (.fld 0 (.s 47)),
  o1 49 (.fld 2 (.s 48)),
  o1 50 (.load 110 2 1 false false 49),
  o1 51 (.bin .quo (.s 50) (.k (.sc (.int .i64 2)))),
  o1 52 (.bin .add (.s 45) (.s 51)),
  o1 53 (.call 35 [(false, .s 35), (false, .s 40), (false, .s 52)] []),
  o1 9 (.mv false (.s 53))]
def g_cubic_ctl_grow_4 : List (IStep2 RW) := [o1 54 (.mv false (.s 0)),
  o1 55 (.mv false (.s 0)),
  o1 56 (.nil (.s 55)),
  o1 57 (.fld 0 (.s 56)),
  o1 58 (.fld 8 (.s 57)),
  o1 59 (.load 110 8 1 false false 58),
  o1 60 (.mv false (.s 0)),
  o1 61 (.nil (.s 60)),
  o1 62 (.fld 0 (.s 61)),
  o1 63 (.fld 1 (.s 62)),
  o1 64 (.load 110 1 1 false false 63),
  o1 65 (.bin .mul (.k (.sc (.int .i64 529))) (.s 64)),
  o1 66 (.mv false (.s 1)),
  o1 67 (.mv false (.s 0)),
  o1 68 (.nil (.s 67)),
  o1 69 (.fld 0 (.s 68)),
  o1 70 (.fld 2 (.s 69)),
  o1 71 (.load 110 2 1 false false 70),
  o1 72 (.bin .mul (.k (.sc (.int .i64 1000))) (.s 71)),
  o1 73 (.call 37 [(false, .s 65), (false, .s 66), (false, .s 72)] []),
  o1 74 (.call 36 [(false, .s 59), (false, .s 73)] []),
  o1 75 (.mnmx false [.k (.sc (.int .i64 1073741824)), .s 74]),
  o1 76 (.nil (.s 54)),
  o1 77 (.fld 0 (.s 76)),
  o1 78 (.fld 8 (.s 77)),
  o0 (.store 110 8 1 false 78 (.s 75))]
def i_cubic_ctl_grow_1 : IC2 RW := .seq (.fin (.reg g_cubic_ctl_grow_3) [8, 30, 31, 32, 33, 34, 35, 36, 37, 38, 39, 40, 41, 42, 43, 44, 45, 46, 47, 48, 49, 50, 51, 52, 53] []) (.seq (.fin (.reg g_cubic_ctl_grow_4) [54, 55, 56, 57, 58, 59, 60, 61, 62, 63, 64, 65, 66, 67, 68, 69, 70, 71, 72, 73, 74, 75, 76, 77, 78] []) i_cubic_ctl_grow_0)
def g_cubic_ctl_grow_0 : List (IStep2 RW) := [o1 10 (.mv false (.s 0)),
  o1 11 (.nil (.s 10)),
  o1 12 (.fld 0 (.s 11)),
  o1 13 (.fld 6 (.s 12)),
  o1 14 (.load 110 6 1 false false 13),
  o1 15 (.bin .lss (.s 14) (.k (.sc (.int .i64 0))))]
def g_cubic_ctl_grow_1 : List (IStep2 RW) := [o1 16 (.mv false (.s 0)),
  o1 17 (.mv false (.s 2)),
  o1 18 (.call 1009 [(false, .s 16), (false, .s 17)] [(110, 22, 74)])]
def g_cubic_ctl_grow_2 : List (IStep2 RW) := [o1 19 (.mv false (.s 2)),
  o1 20 (.mv false (.s 0)),
  o1 21 (.nil (.s 20)),
  o1 22 (.fld 0 (.s 21)),
  o1 23 (.fld 6 (.s 22)),
  o1 24 (.load 110 6 1 false false 23),
  o1 25 (.bin .sub (.s 19) (.s 24)),
  o1 26 (.mnmx true [.k (.sc (.int .i64 0)), .s 25]),
  o1 27 (.mv false (.s 3)),
  o1 28 (.bin .add (.s 26) (.s 27)),
  o1 29 (.bin .quo (.s 28) (.k (.sc (.int .i64 1000)))),
  o1 8 (.mv false (.s 29))]
def i_cubic_ctl_grow_2 : IC2 RW := .seq (.seq (.fin (.reg g_cubic_ctl_grow_0) [10, 11, 12, 13, 14] []) (.fin (.cond (.s 15) (.fin (.reg g_cubic_ctl_grow_1) [15, 16, 17, 18] []) (.skip)) [15] [])) (.seq (.fin (.reg g_cubic_ctl_grow_2) [2, 3, 19, 20, 21, 22, 23, 24, 25, 26, 27, 28, 29] []) i_cubic_ctl_grow_1)
def fn_cubic_ctl_grow : IFn2 RW := ⟨25, 4, 110, 144, [(110, 22)], [(110, 22)], [], i_cubic_ctl_grow_2⟩
def g_cubic_Acked_0 : List (IStep2 RW) := [o1 5 (.box 89 22 false (.s 0)),
  o1 10 (.alloc 112 [.sc (.int .i64 0), .sc (.int .i64 0), .sc (.int .i64 0), .sc (.int .i64 0), .sc (.int .i64 0), .sc (.int .i64 0), .sc (.int .i64 0), .sc (.int .i64 0), .sc (.int .i64 0), .sc (.int .i64 0), .sc (.int .i64 0), .row false (.rEntry []), .sc (.int .i64 0), .sc (.int .i64 0), .sc (.int .i64 0), .sc (.int .i64 0), .sc (.int .i64 0), .sc (.int .i64 0), .sc (.int .i64 0), .sc (.int .i64 0), .sc (.int .i64 0), .sc (.int .i64 0)]),
  o1 11 (.mv false (.k (.sc (.int .i64 0))))]
def g_cubic_Acked_1 : List (IStep2 RW) := [o1 14 (.load 89 0 22 true false 5),
  o1 15 (.call 11 [(false, .s 14)] []),
  o1 12 (.mv false (.s 15))]
def g_cubic_Acked_2 : List (IStep2 RW) := [o1 16 (.mv false (.s 12)),
  o1 17 (.bin .neq (.s 16) (.k (.sc (.int .i64 0))))]
def g_cubic_Acked_3 : List (IStep2 RW) := [o1 18 (.build [.sc (.int .i64 0), .sc (.int .i64 0), .sc (.int .i64 0), .sc (.int .i64 0), .sc (.int .i64 0), .sc (.int .i64 0), .sc (.int .i64 0), .sc (.int .i64 0), .sc (.int .i64 0), .sc (.int .i64 0), .sc (.int .i64 0), .row false (.rEntry []), .sc (.int .i64 0), .sc (.int .i64 0), .sc (.int .i64 0), .sc (.int .i64 0), .sc (.int .i64 0), .sc (.int .i64 0), .sc (.int .i64 0), .sc (.int .i64 0), .sc (.int .i64 0), .sc (.int .i64 0)] []),
  o1 19 (.mv false (.s 12)),
  o0 (.store 112 0 22 false 10 (.s 18)),
  o1 11 (.mv false (.s 19))]
def g_cubic_Acked_4 : List (IStep2 RW) := [o1 20 (.mv false (.s 1)),
  o1 21 (.bslice 3 1 [(0, 1, .s 20)]),
  o1 22 (.call 24 [(false, .s 21)] []),
  o1 23 (.un .not (.s 22)),
  o2 24 (.mv false (.s 23)),
  o3 25 24 false (.mv false (.s 2)),
  o3 26 24 false (.bin .lss (.s 25) (.k (.sc (.int .i64 0)))),
  o1 27 (.pick (.s 24) (.k (.sc (.bool true))) (.s 26)),
  o2 28 (.mv false (.s 27)),
  o3 29 28 false (.mv false (.s 2)),
  o3 30 28 false (.bin .gtr (.s 29) (.k (.sc (.int .i64 1125899906842624)))),
  o1 31 (.pick (.s 28) (.k (.sc (.bool true))) (.s 30)),
  o2 32 (.mv false (.s 31)),
  o3 33 32 false (.mv false (.s 3)),
  o3 34 32 false (.bin .lss (.s 33) (.k (.sc (.int .i64 0)))),
  o1 35 (.pick (.s 32) (.k (.sc (.bool true))) (.s 34)),
  o2 36 (.mv false (.s 35)),
  o3 37 36 false (.mv false (.s 3)),
  o3 38 36 false (.bin .gtr (.s 37) (.k (.sc (.int .i64 1125899906842624)))),
  o1 39 (.pick (.s 36) (.k (.sc (.bool true))) (.s 38))]
def g_cubic_Acked_5 : List (IStep2 RW) := [o1 40 (.build [.sc (.int .i64 0), .sc (.int .i64 0), .sc (.int .i64 0), .sc (.int .i64 0), .sc (.int .i64 0), .sc (.int .i64 0), .sc (.int .i64 0), .sc (.int .i64 0), .sc (.int .i64 0), .sc (.int .i64 0), .sc (.int .i64 0), .row false (.rEntry []), .sc (.int .i64 0), .sc (.int .i64 0), .sc (.int .i64 0), .sc (.int .i64 0), .sc (.int .i64 0), .sc (.int .i64 0), .sc (.int .i64 0), .sc (.int .i64 0), .sc (.int .i64 0), .sc (.int .i64 0)] []),
  o0 (.store 112 0 22 false 10 (.s 40)),
  o1 11 (.mv false (.k (.sc (.int .i64 2))))]
def g_cubic_Acked_6 : List (IStep2 RW) := [o1 41 (.load 89 0 22 true false 5),
  o1 42 (.build [.sc (.int .i64 0), .sc (.int .i64 0), .sc (.int .i64 0), .sc (.int .i64 0), .sc (.int .i64 0), .sc (.int .i64 0), .sc (.int .i64 0), .sc (.int .i64 0), .sc (.int .i64 0), .sc (.int .i64 0), .sc (.int .i64 0), .row false (.rEntry []), .sc (.int .i64 0), .sc (.int .i64 0), .sc (.int .i64 0), .sc (.int .i64 0), .sc (.int .i64 0), .sc (.int .i64 0), .sc (.int .i64 0), .sc (.int .i64 0), .sc (.int .i64 0), .sc (.int .i64 0)] [(0, 22, .s 41)]),
  o1 43 (.box 135 22 false (.s 42)),
  o1 13 (.mv false (.s 43))]
def g_cubic_Acked_8 : List (IStep2 RW) := [o1 50 (.mv false (.s 4)),
  o1 49 (.mv false (.s 50))]
def g_cubic_Acked_9 : List (IStep2 RW) := [o1 51 (.mv false (.s 13)),
  o1 52 (.nil (.s 51)),
  o1 53 (.fld 0 (.s 52)),
  o1 54 (.fld 6 (.s 53)),
  o0 (.store 135 6 1 false 54 (.k (.sc (.int .i64 (-1)))))]
def g_cubic_Acked_10 : List (IStep2 RW) := [o1 56 (.mv false (.s 13)),
  o1 57 (.nil (.s 56)),
  o1 58 (.fld 0 (.s 57)),
  o1 59 (.fld 2 (.s 58)),
  o1 60 (.load 135 2 1 false false 59),
  o1 61 (.mv false (.s 13)),
  o1 62 (.nil (.s 61)),
  o1 63 (.fld 0 (.s 62)),
  o1 64 (.fld 3 (.s 63)),
  o1 65 (.load 135 3 1 false false 64),
  o1 66 (.bin .lss (.s 60) (.s 65)),
  o1 55 (.mv false (.s 66))]
def g_cubic_Acked_11 : List (IStep2 RW) := [o1 67 (.mv false (.s 13)),
  o1 68 (.mv false (.s 13)),
  o1 69 (.nil (.s 68)),
  o1 70 (.fld 0 (.s 69)),
  o1 71 (.fld 2 (.s 70)),
  o1 72 (.load 135 2 1 false false 71),
  o1 73 (.mv false (.s 1)),
  o1 74 (.mv false (.s 13)),
  o1 75 (.nil (.s 74)),
  o1 76 (.fld 0 (.s 75)),
  o1 77 (.fld 1 (.s 76)),
  o1 78 (.load 135 1 1 false false 77),
  o1 79 (.mnmx false [.s 73, .s 78]),
  o1 80 (.bin .add (.s 72) (.s 79)),
  o1 81 (.mnmx false [.k (.sc (.int .i64 1073741824)), .s 80]),
  o1 82 (.nil (.s 67)),
  o1 83 (.fld 0 (.s 82)),
  o1 84 (.fld 2 (.s 83)),
  o0 (.store 135 2 1 false 84 (.s 81))]
def g_cubic_Acked_7 : List (IStep2 RW) := [o1 44 (.mv false (.s 13)),
  o1 45 (.mv false (.s 1)),
  o1 46 (.mv false (.s 2)),
  o1 47 (.mv false (.s 3)),
  o1 48 (.call 1008 [(false, .s 44), (false, .s 45), (false, .s 46), (false, .s 47)] [(135, 22, 110)])]
def g_cubic_Acked_12 : List (IStep2 RW) := [o1 85 (.mv false (.s 13)),
  o1 86 (.nil (.s 85)),
  o1 87 (.fld 0 (.s 86)),
  o1 88 (.load 135 0 22 true false 87),
  o0 (.store 112 0 22 false 10 (.s 88)),
  o1 11 (.mv false (.k (.sc (.int .i64 0))))]
def i_cubic_Acked_0 : IC2 RW := .seq (.fin (.reg g_cubic_Acked_0) [0, 11] []) (.seq (.seq (.fin (.reg g_cubic_Acked_1) [14, 15] []) (.seq (.fin (.reg g_cubic_Acked_2) [16] []) (.fin (.cond (.s 17) (.seq (.fin (.reg g_cubic_Acked_3) [1, 2, 3, 4, 5, 12, 17, 18, 19] [(89, 22)]) (.ret)) (.skip)) [12, 17] []))) (.seq (.seq (.fin (.reg g_cubic_Acked_4) [20, 21, 22, 23, 24, 25, 26, 27, 28, 29, 30, 31, 32, 33, 34, 35, 36, 37, 38] []) (.fin (.cond (.s 39) (.seq (.fin (.reg g_cubic_Acked_5) [1, 2, 3, 4, 5, 39, 40] [(89, 22)]) (.ret)) (.skip)) [39] [])) (.seq (.fin (.reg g_cubic_Acked_6) [5, 41, 42, 43] [(89, 22)]) (.seq (.blk 0 (.seq (.fin (.reg g_cubic_Acked_8) [4, 50] []) (.cond (.s 49) (.fin (.reg g_cubic_Acked_9) [1, 2, 3, 49, 51, 52, 53, 54] []) (.seq (.fin (.reg g_cubic_Acked_10) [49, 56, 57, 58, 59, 60, 61, 62, 63, 64, 65, 66] []) (.cond (.s 55) (.fin (.reg g_cubic_Acked_11) [1, 2, 3, 55, 67, 68, 69, 70, 71, 72, 73, 74, 75, 76, 77, 78, 79, 80, 81, 82, 83, 84] []) (.fin (.reg g_cubic_Acked_7) [1, 2, 3, 44, 45, 46, 47, 48, 55] [])))))) (.seq (.fin (.reg g_cubic_Acked_12) [13, 85, 86, 87, 88] [(135, 22)]) (.ret))))))
def fn_cubic_Acked : IFn2 RW := ⟨8, 5, 89, 160, [(89, 22), (112, 22), (135, 22)], [], [.cell 10 112 22 true, .slot 11], i_cubic_Acked_0⟩
def g_cubic_ctl_fall_0 : List (IStep2 RW) := [o1 3 (.mv false (.s 0)),
  o1 4 (.nil (.s 3)),
  o1 5 (.fld 0 (.s 4)),
  o1 6 (.fld 2 (.s 5)),
  o1 7 (.load 57 2 1 false false 6),
  o1 2 (.mv false (.s 7))]
def g_cubic_ctl_fall_1 : List (IStep2 RW) := [o1 8 (.mv false (.s 0)),
  o1 9 (.nil (.s 8)),
  o1 10 (.fld 0 (.s 9)),
  o1 11 (.fld 2 (.s 10)),
  o1 12 (.load 57 2 1 false false 11),
  o1 13 (.mv false (.s 0)),
  o1 14 (.nil (.s 13)),
  o1 15 (.fld 0 (.s 14)),
  o1 16 (.fld 5 (.s 15)),
  o1 17 (.load 57 5 1 false false 16),
  o1 18 (.bin .lss (.s 12) (.s 17))]
def g_cubic_ctl_fall_2 : List (IStep2 RW) := [o1 19 (.mv false (.s 0)),
  o1 20 (.nil (.s 19)),
  o1 21 (.fld 0 (.s 20)),
  o1 22 (.fld 2 (.s 21)),
  o1 23 (.load 57 2 1 false false 22),
  o1 24 (.bin .mul (.k (.sc (.int .i64 17))) (.s 23)),
  o1 25 (.bin .quo (.s 24) (.k (.sc (.int .i64 20)))),
  o1 2 (.mv false (.s 25))]
def g_cubic_ctl_fall_3 : List (IStep2 RW) := [o1 26 (.mv false (.s 0)),
  o1 27 (.mv false (.s 0)),
  o1 28 (.mv false (.s 0)),
  o1 29 (.mv false (.s 0)),
  o1 30 (.mv false (.s 2)),
  o1 31 (.mv false (.s 0)),
  o1 32 (.nil (.s 31)),
  o1 33 (.fld 0 (.s 32)),
  o1 34 (.fld 1 (.s 33)),
  o1 35 (.load 57 1 1 false false 34),
  o1 36 (.bin .mul (.k (.sc (.int .i64 2))) (.s 35)),
  o1 37 (.mv false (.s 0)),
  o1 38 (.nil (.s 37)),
  o1 39 (.fld 0 (.s 38)),
  o1 40 (.fld 2 (.s 39)),
  o1 41 (.load 57 2 1 false false 40),
  o1 42 (.bin .mul (.k (.sc (.int .i64 7))) (.s 41)),
  o1 43 (.bin .quo (.s 42) (.k (.sc (.int .i64 10)))),
  o1 44 (.mnmx true [.s 36, .s 43]),
  o1 45 (.nil (.s 26)),
  o1 46 (.fld 0 (.s 45)),
  o1 47 (.fld 5 (.s 46)),
  o0 (.store 57 5 1 false 47 (.s 30)),
  o1 48 (.nil (.s 27)),
  o1 49 (.fld 0 (.s 48)),
  o1 50 (.fld 3 (.s 49)),
  o0 (.store 57 3 1 false 50 (.s 44)),
  o1 51 (.nil (.s 28)),
  o1 52 (.fld 0 (.s 51)),
  o1 53 (.fld 6 (.s 52)),
  o0 (.store 57 6 1 false 53 (.k (.sc (.int .i64 (-1))))),
  o1 54 (.nil (.s 29)),
  o1 55 (.fld 0 (.s 54)),
  o1 56 (.fld 4 (.s 55)),
  o0 (.store 57 4 1 false 56 (.k (.sc (.int .i64 0))))]
def i_cubic_ctl_fall_0 : IC2 RW := .seq (.fin (.reg g_cubic_ctl_fall_0) [3, 4, 5, 6, 7] []) (.seq (.seq (.fin (.reg g_cubic_ctl_fall_1) [8, 9, 10, 11, 12, 13, 14, 15, 16, 17] []) (.fin (.cond (.s 18) (.fin (.reg g_cubic_ctl_fall_2) [18, 19, 20, 21, 22, 23, 24, 25] []) (.skip)) [18] [])) (.fin (.reg g_cubic_ctl_fall_3) [0, 2, 26, 27, 28, 29, 30, 31, 32, 33, 34, 35, 36, 37, 38, 39, 40, 41, 42, 43, 44, 45, 46, 47, 48, 49, 50, 51, 52, 53, 54, 55, 56] []))
def fn_cubic_ctl_fall : IFn2 RW := ⟨40, 1, 57, 80, [(57, 22)], [(57, 22)], [], i_cubic_ctl_fall_0⟩
def g_cubic_moved_0 : List (IStep2 RW) := [o1 3 (.box 30 22 false (.s 0)),
  o1 6 (.alloc 53 [.sc (.int .i64 0), .sc (.int .i64 0), .sc (.int .i64 0), .sc (.int .i64 0), .sc (.int .i64 0), .sc (.int .i64 0), .sc (.int .i64 0), .sc (.int .i64 0), .sc (.int .i64 0), .sc (.int .i64 0), .sc (.int .i64 0), .row false (.rEntry []), .sc (.int .i64 0), .sc (.int .i64 0), .sc (.int .i64 0), .sc (.int .i64 0), .sc (.int .i64 0), .sc (.int .i64 0), .sc (.int .i64 0), .sc (.int .i64 0), .sc (.int .i64 0), .sc (.int .i64 0)]),
  o1 7 (.mv false (.k (.sc (.int .i64 0))))]
def g_cubic_moved_1 : List (IStep2 RW) := [o1 10 (.load 30 0 22 true false 3),
  o1 11 (.call 11 [(false, .s 10)] []),
  o1 12 (.bin .neq (.s 11) (.k (.sc (.int .i64 0)))),
  o1 9 (.mv false (.s 12))]
def g_cubic_moved_2 : List (IStep2 RW) := [o1 13 (.build [.sc (.int .i64 0), .sc (.int .i64 0), .sc (.int .i64 0), .sc (.int .i64 0), .sc (.int .i64 0), .sc (.int .i64 0), .sc (.int .i64 0), .sc (.int .i64 0), .sc (.int .i64 0), .sc (.int .i64 0), .sc (.int .i64 0), .row false (.rEntry []), .sc (.int .i64 0), .sc (.int .i64 0), .sc (.int .i64 0), .sc (.int .i64 0), .sc (.int .i64 0), .sc (.int .i64 0), .sc (.int .i64 0), .sc (.int .i64 0), .sc (.int .i64 0), .sc (.int .i64 0)] []),
  o0 (.store 53 0 22 false 6 (.s 13)),
  o1 7 (.mv false (.k (.sc (.int .i64 230))))]
def g_cubic_moved_3 : List (IStep2 RW) := [o1 15 (.mv false (.s 1)),
  o1 16 (.bslice 3 1 [(0, 1, .s 15)]),
  o1 17 (.call 24 [(false, .s 16)] []),
  o1 18 (.un .not (.s 17)),
  o1 14 (.mv false (.s 18))]
def g_cubic_moved_4 : List (IStep2 RW) := [o1 19 (.build [.sc (.int .i64 0), .sc (.int .i64 0), .sc (.int .i64 0), .sc (.int .i64 0), .sc (.int .i64 0), .sc (.int .i64 0), .sc (.int .i64 0), .sc (.int .i64 0), .sc (.int .i64 0), .sc (.int .i64 0), .sc (.int .i64 0), .row false (.rEntry []), .sc (.int .i64 0), .sc (.int .i64 0), .sc (.int .i64 0), .sc (.int .i64 0), .sc (.int .i64 0), .sc (.int .i64 0), .sc (.int .i64 0), .sc (.int .i64 0), .sc (.int .i64 0), .sc (.int .i64 0)] []),
  o0 (.store 53 0 22 false 6 (.s 19)),
  o1 7 (.mv false (.k (.sc (.int .i64 2))))]
def g_cubic_moved_5 : List (IStep2 RW) := [o1 20 (.load 30 0 22 true false 3),
  o1 21 (.build [.sc (.int .i64 0), .sc (.int .i64 0), .sc (.int .i64 0), .sc (.int .i64 0), .sc (.int .i64 0), .sc (.int .i64 0), .sc (.int .i64 0), .sc (.int .i64 0), .sc (.int .i64 0), .sc (.int .i64 0), .sc (.int .i64 0), .row false (.rEntry []), .sc (.int .i64 0), .sc (.int .i64 0), .sc (.int .i64 0), .sc (.int .i64 0), .sc (.int .i64 0), .sc (.int .i64 0), .sc (.int .i64 0), .sc (.int .i64 0), .sc (.int .i64 0), .sc (.int .i64 0)] [(0, 22, .s 20)]),
  o1 22 (.box 76 22 false (.s 21)),
  o1 8 (.mv false (.s 22))]
def g_cubic_moved_6 : List (IStep2 RW) := [o1 23 (.mv false (.s 2)),
  o1 24 (.mv false (.s 8)),
  o1 25 (.callv (.s 23) 40 1022 [(false, .s 24)] [(76, 22, 57)])]
def g_cubic_moved_7 : List (IStep2 RW) := [o1 26 (.mv false (.s 8)),
  o1 27 (.nil (.s 26)),
  o1 28 (.fld 0 (.s 27)),
  o1 29 (.load 76 0 22 true false 28),
  o0 (.store 53 0 22 false 6 (.s 29)),
  o1 7 (.mv false (.k (.sc (.int .i64 0))))]
def i_cubic_moved_0 : IC2 RW := .seq (.fin (.reg g_cubic_moved_0) [0, 7] []) (.seq (.blk 0 (.seq (.fin (.reg g_cubic_moved_1) [10, 11, 12] []) (.cond (.s 9) (.seq (.fin (.reg g_cubic_moved_2) [1, 2, 3, 9, 13] [(30, 22)]) (.ret)) (.seq (.fin (.reg g_cubic_moved_3) [1, 9, 15, 16, 17, 18] []) (.fin (.cond (.s 14) (.seq (.fin (.reg g_cubic_moved_4) [2, 3, 14, 19] [(30, 22)]) (.ret)) (.skip)) [14] []))))) (.seq (.fin (.reg g_cubic_moved_5) [3, 20, 21, 22] [(30, 22)]) (.seq (.fin (.reg g_cubic_moved_6) [2, 23, 24, 25] []) (.seq (.fin (.reg g_cubic_moved_7) [8, 26, 27, 28, 29] [(76, 22)]) (.ret)))))
def fn_cubic_moved : IFn2 RW := ⟨39, 3, 30, 112, [(30, 22), (53, 22), (76, 22)], [], [.cell 6 53 22 true, .slot 7], i_cubic_moved_0⟩
def g_cubic_Loss_0 : List (IStep2 RW) := [o1 2 (.box 11 22 false (.s 0)),
  o1 4 (.alloc 34 [.sc (.int .i64 0), .sc (.int .i64 0), .sc (.int .i64 0), .sc (.int .i64 0), .sc (.int .i64 0), .sc (.int .i64 0), .sc (.int .i64 0), .sc (.int .i64 0), .sc (.int .i64 0), .sc (.int .i64 0), .sc (.int .i64 0), .row false (.rEntry []), .sc (.int .i64 0), .sc (.int .i64 0), .sc (.int .i64 0), .sc (.int .i64 0), .sc (.int .i64 0), .sc (.int .i64 0), .sc (.int .i64 0), .sc (.int .i64 0), .sc (.int .i64 0), .sc (.int .i64 0)]),
  o1 5 (.mv false (.k (.sc (.int .i64 0))))]
def g_cubic_Loss_1 : List (IStep2 RW) := [o1 6 (.load 11 0 22 true false 2),
  o1 7 (.mv false (.s 1)),
  o1 8 (.call 1021 [(false, .s 6), (false, .s 7), (false, .k (.clo 40 []))] []),
  o1 9 (.ext false 0 (.s 8)),
  o1 10 (.ext false 1 (.s 8)),
  o0 (.store 34 0 22 false 4 (.s 9)),
  o1 5 (.mv false (.s 10))]
def i_cubic_Loss_0 : IC2 RW := .seq (.fin (.reg g_cubic_Loss_0) [0, 5] []) (.seq (.fin (.reg g_cubic_Loss_1) [1, 2, 6, 7, 8, 9, 10] [(11, 22)]) (.ret))
def fn_cubic_Loss : IFn2 RW := ⟨17, 2, 11, 64, [(11, 22), (34, 22)], [], [.cell 4 34 22 true, .slot 5], i_cubic_Loss_0⟩
def g_reno_New_0 : List (IStep2 RW) := [o1 4 (.alloc 26 [.sc (.int .i64 0), .sc (.int .i64 0), .sc (.int .i64 0), .sc (.int .i64 0), .sc (.int .i64 0), .sc (.int .i64 0), .sc (.int .i64 0), .sc (.int .i64 0), .sc (.int .i64 0), .sc (.int .i64 0), .sc (.int .i64 0), .row false (.rEntry []), .sc (.int .i64 0), .sc (.int .i64 0), .sc (.int .i64 0), .sc (.int .i64 0), .sc (.int .i64 0), .sc (.int .i64 0), .sc (.int .i64 0), .sc (.int .i64 0), .sc (.int .i64 0), .sc (.int .i64 0)]),
  o1 5 (.mv false (.k (.sc (.int .i64 0))))]
def g_reno_New_1 : List (IStep2 RW) := [o1 6 (.mv false (.s 0)),
  o1 7 (.bin .lss (.s 6) (.k (.sc (.int .i64 1)))),
  o2 8 (.mv false (.s 7)),
  o3 9 8 false (.mv false (.s 0)),
  o3 10 8 false (.bin .gtr (.s 9) (.k (.sc (.int .i64 65000)))),
  o1 11 (.pick (.s 8) (.k (.sc (.bool true))) (.s 10)),
  o2 12 (.mv false (.s 11)),
  o3 13 12 false (.mv false (.s 1)),
  o3 14 12 false (.bin .lss (.s 13) (.k (.sc (.int .i64 1)))),
  o1 15 (.pick (.s 12) (.k (.sc (.bool true))) (.s 14)),
  o2 16 (.mv false (.s 15)),
  o3 17 16 false (.mv false (.s 1)),
  o3 18 16 false (.bin .gtr (.s 17) (.k (.sc (.int .i64 100)))),
  o1 19 (.pick (.s 16) (.k (.sc (.bool true))) (.s 18))]
def g_reno_New_2 : List (IStep2 RW) := [o1 20 (.build [.sc (.int .i64 0), .sc (.int .i64 0), .sc (.int .i64 0), .sc (.int .i64 0), .sc (.int .i64 0), .sc (.int .i64 0), .sc (.int .i64 0), .sc (.int .i64 0), .sc (.int .i64 0), .sc (.int .i64 0), .sc (.int .i64 0), .row false (.rEntry []), .sc (.int .i64 0), .sc (.int .i64 0), .sc (.int .i64 0), .sc (.int .i64 0), .sc (.int .i64 0), .sc (.int .i64 0), .sc (.int .i64 0), .sc (.int .i64 0), .sc (.int .i64 0), .sc (.int .i64 0)] []),
  o0 (.store 26 0 22 false 4 (.s 20)),
  o1 5 (.mv false (.k (.sc (.int .i64 2))))]
def g_reno_New_3 : List (IStep2 RW) := [o1 21 (.mv false (.s 0)),
  o1 22 (.mv false (.s 0)),
  o1 23 (.mv false (.s 1)),
  o1 24 (.bin .mul (.s 22) (.s 23)),
  o1 25 (.build [.sc (.int .i64 0), .sc (.int .i64 0), .sc (.int .i64 0), .sc (.int .i64 0), .sc (.int .i64 0), .sc (.int .i64 0), .sc (.int .i64 0), .sc (.int .i64 0), .sc (.int .i64 0), .sc (.int .i64 0), .sc (.int .i64 0), .row false (.rEntry []), .sc (.int .i64 0), .sc (.int .i64 0), .sc (.int .i64 0), .sc (.int .i64 0), .sc (.int .i64 0), .sc (.int .i64 0), .sc (.int .i64 0), .sc (.int .i64 0), .sc (.int .i64 0), .sc (.int .i64 0)] [(0, 1, .k (.sc (.int .i64 1))), (1, 1, .s 21), (2, 1, .s 24), (3, 1, .k (.sc (.int .i64 1073741824)))]),
  o0 (.store 26 0 22 false 4 (.s 25)),
  o1 5 (.mv false (.k (.sc (.int .i64 0))))]
def i_reno_New_0 : IC2 RW := .seq (.fin (.reg g_reno_New_0) [5] []) (.seq (.seq (.fin (.reg g_reno_New_1) [6, 7, 8, 9, 10, 11, 12, 13, 14, 15, 16, 17, 18] []) (.fin (.cond (.s 19) (.seq (.fin (.reg g_reno_New_2) [0, 1, 19, 20] []) (.ret)) (.skip)) [19] [])) (.seq (.fin (.reg g_reno_New_3) [0, 1, 21, 22, 23, 24, 25] []) (.ret)))
def fn_reno_New : IFn2 RW := ⟨38, 2, 26, 64, [(26, 22)], [], [.cell 4 26 22 true, .slot 5], i_reno_New_0⟩
def g_cubic_New_0 : List (IStep2 RW) := [o1 4 (.alloc 20 [.sc (.int .i64 0), .sc (.int .i64 0), .sc (.int .i64 0), .sc (.int .i64 0), .sc (.int .i64 0), .sc (.int .i64 0), .sc (.int .i64 0), .sc (.int .i64 0), .sc (.int .i64 0), .sc (.int .i64 0), .sc (.int .i64 0), .row false (.rEntry []), .sc (.int .i64 0), .sc (.int .i64 0), .sc (.int .i64 0), .sc (.int .i64 0), .sc (.int .i64 0), .sc (.int .i64 0), .sc (.int .i64 0), .sc (.int .i64 0), .sc (.int .i64 0), .sc (.int .i64 0)]),
  o1 5 (.mv false (.k (.sc (.int .i64 0))))]
def g_cubic_New_1 : List (IStep2 RW) := [o1 9 (.mv false (.s 0)),
  o1 10 (.mv false (.s 1)),
  o1 11 (.call 38 [(false, .s 9), (false, .s 10)] []),
  o1 8 (.mv false (.s 11)),
  o1 12 (.ext false 0 (.s 8)),
  o1 13 (.ext false 1 (.s 8)),
  o1 6 (.alloc 43 [.sc (.int .i64 0), .sc (.int .i64 0), .sc (.int .i64 0), .sc (.int .i64 0), .sc (.int .i64 0), .sc (.int .i64 0), .sc (.int .i64 0), .sc (.int .i64 0), .sc (.int .i64 0), .sc (.int .i64 0), .sc (.int .i64 0), .row false (.rEntry []), .sc (.int .i64 0), .sc (.int .i64 0), .sc (.int .i64 0), .sc (.int .i64 0), .sc (.int .i64 0), .sc (.int .i64 0), .sc (.int .i64 0), .sc (.int .i64 0), .sc (.int .i64 0), .sc (.int .i64 0)]),
  o0 (.store 43 0 22 false 6 (.s 12)),
  o1 7 (.mv false (.s 13))]
def g_cubic_New_2 : List (IStep2 RW) := [o1 14 (.mv false (.s 7)),
  o1 15 (.bin .eql (.s 14) (.k (.sc (.int .i64 0))))]
def g_cubic_New_3 : List (IStep2 RW) := [o1 16 (.fld 0 (.s 6)),
  o0 (.store 43 0 1 false 16 (.k (.sc (.int .i64 2)))),
  o1 17 (.fld 6 (.s 6)),
  o0 (.store 43 6 1 false 17 (.k (.sc (.int .i64 (-1)))))]
def g_cubic_New_4 : List (IStep2 RW) := [o1 18 (.load 43 0 22 true false 6),
  o1 19 (.mv false (.s 7)),
  o0 (.store 20 0 22 false 4 (.s 18)),
  o1 5 (.mv false (.s 19))]
def i_cubic_New_0 : IC2 RW := .seq (.fin (.reg g_cubic_New_0) [5] []) (.seq (.fin (.reg g_cubic_New_1) [0, 1, 8, 9, 10, 11, 12, 13] []) (.seq (.seq (.fin (.reg g_cubic_New_2) [14] []) (.fin (.cond (.s 15) (.fin (.reg g_cubic_New_3) [15, 16, 17] []) (.skip)) [15] [])) (.seq (.fin (.reg g_cubic_New_4) [6, 7, 18, 19] [(43, 22)]) (.ret))))
def fn_cubic_New : IFn2 RW := ⟨16, 2, 20, 80, [(20, 22), (43, 22)], [], [.cell 4 20 22 true, .slot 5], i_cubic_New_0⟩
def g_law16_heads_5 : List (IStep2 RW) := [o1 23 (.mv false (.s 3)),
  o1 24 (.bin .eql (.s 23) (.k (.sc (.int .i64 0)))),
  o2 25 (.mv false (.s 24)),
  o3 26 25 true (.fld 7 (.s 2)),
  o3 27 25 true (.load 91 7 1 false false 26),
  o3 28 25 true (.bin .eql (.s 27) (.k (.sc (.int .i64 1957)))),
  o1 29 (.pick (.s 25) (.s 28) (.k (.sc (.bool false)))),
  o2 30 (.mv false (.s 29)),
  o3 31 30 true (.fld 6 (.s 2)),
  o3 32 30 true (.load 91 6 1 false false 31),
  o3 33 30 true (.bin .eql (.s 32) (.k (.sc (.int .i64 5)))),
  o1 34 (.pick (.s 30) (.s 33) (.k (.sc (.bool false)))),
  o2 35 (.mv false (.s 34)),
  o3 36 35 true (.load 91 0 22 true false 2),
  o3 37 35 true (.call 13 [(false, .s 36), (false, .k (.sc (.int .i64 1957)))] []),
  o3 38 35 true (.bin .eql (.s 37) (.k (.sc (.int .i64 100)))),
  o1 39 (.pick (.s 35) (.s 38) (.k (.sc (.bool false)))),
  o2 40 (.mv false (.s 39)),
  o3 41 40 true (.load 91 0 22 true false 2),
  o3 42 40 true (.call 13 [(false, .s 41), (false, .k (.sc (.int .i64 0)))] []),
  o3 43 40 true (.bin .eql (.s 42) (.k (.sc (.int .i64 71)))),
  o1 44 (.pick (.s 40) (.s 43) (.k (.sc (.bool false)))),
  o2 45 (.mv false (.s 44)),
  o3 46 45 true (.mv false (.s 5)),
  o3 47 45 true (.bin .eql (.s 46) (.k (.sc (.int .i64 0)))),
  o1 48 (.pick (.s 45) (.s 47) (.k (.sc (.bool false)))),
  o2 49 (.mv false (.s 48)),
  o3 50 49 true (.fld 5 (.s 4)),
  o3 51 49 true (.load 114 5 1 false false 50),
  o3 52 49 true (.bin .eql (.s 51) (.k (.sc (.int .i64 59)))),
  o1 53 (.pick (.s 49) (.s 52) (.k (.sc (.bool false)))),
  o2 54 (.mv false (.s 53)),
  o3 55 54 true (.fld 3 (.s 4)),
  o3 56 54 true (.load 114 3 1 false false 55),
  o3 57 54 true (.bin .eql (.s 56) (.k (.sc (.int .i64 49)))),
  o1 58 (.pick (.s 54) (.s 57) (.k (.sc (.bool false)))),
  o2 59 (.mv false (.s 58)),
  o3 60 59 true (.mv false (.s 7)),
  o3 61 59 true (.bin .eql (.s 60) (.k (.sc (.int .i64 2)))),
  o1 62 (.pick (.s 59) (.s 61) (.k (.sc (.bool false)))),
  o2 63 (.mv false (.s 62)),
  o3 64 63 true (.build [.sc (.int .i64 0), .sc (.int .i64 0), .sc (.int .i64 0), .sc (.int .i64 0), .sc (.int .i64 0), .sc (.int .i64 0), .sc (.int .i64 0), .sc (.int .i64 0), .sc (.int .i64 0), .sc (.int .i64 0), .sc (.int .i64 0), .row false (.rEntry []), .sc (.int .i64 0), .sc (.int .i64 0), .sc (.int .i64 0), .sc (.int .i64 0), .sc (.int .i64 0), .sc (.int .i64 0), .sc (.int .i64 0), .sc (.int .i64 0), .sc (.int .i64 0), .sc (.int .i64 0)] []),
  o3 65 63 true (.call 11 [(false, .s 64)] []),
  o3 66 63 true (.bin .eql (.s 65) (.k (.sc (.int .i64 230)))),
  o1 67 (.pick (.s 63) (.s 66) (.k (.sc (.bool false)))),
  o1 0 (.mv false (.s 67))]
def i_law16_heads_0 : IC2 RW := .seq (.fin (.reg g_law16_heads_5) [2, 3, 4, 5, 7, 23, 24, 25, 26, 27, 28, 29, 30, 31, 32, 33, 34, 35, 36, 37, 38, 39, 40, 41, 42, 43, 44, 45, 46, 47, 48, 49, 50, 51, 52, 53, 54, 55, 56, 57, 58, 59, 60, 61, 62, 63, 64, 65, 66, 67] [(91, 22), (114, 22)]) (.ret)
def g_law16_heads_0 : List (IStep2 RW) := [o1 0 (.mv false (.k (.sc (.bool false))))]
def g_law16_heads_1 : List (IStep2 RW) := [o1 8 (.build [.sc (.int .i64 0), .sc (.int .i64 0), .sc (.int .i64 0), .sc (.int .i64 0), .sc (.int .i64 0), .sc (.int .i64 0), .sc (.int .i64 0), .sc (.int .i64 0), .sc (.int .i64 0), .sc (.int .i64 0), .sc (.int .i64 0), .row false (.rEntry []), .sc (.int .i64 0), .sc (.int .i64 0), .sc (.int .i64 0), .sc (.int .i64 0), .sc (.int .i64 0), .sc (.int .i64 0), .sc (.int .i64 0), .sc (.int .i64 0), .sc (.int .i64 0), .sc (.int .i64 0)] [(0, 1, .k (.sc (.int .i64 2))), (1, 1, .k (.sc (.int .i64 10))), (2, 1, .k (.sc (.int .i64 70))), (3, 1, .k (.sc (.int .i64 70))), (5, 1, .k (.sc (.int .i64 100))), (6, 1, .k (.sc (.int .i64 (-1))))]),
  o1 1 (.alloc 68 [.sc (.int .i64 0), .sc (.int .i64 0), .sc (.int .i64 0), .sc (.int .i64 0), .sc (.int .i64 0), .sc (.int .i64 0), .sc (.int .i64 0), .sc (.int .i64 0), .sc (.int .i64 0), .sc (.int .i64 0), .sc (.int .i64 0), .row false (.rEntry []), .sc (.int .i64 0), .sc (.int .i64 0), .sc (.int .i64 0), .sc (.int .i64 0), .sc (.int .i64 0), .sc (.int .i64 0), .sc (.int .i64 0), .sc (.int .i64 0), .sc (.int .i64 0), .sc (.int .i64 0)]),
  o0 (.store 68 0 22 false 1 (.s 8))]
def g_law16_heads_2 : List (IStep2 RW) := [o1 10 (.load 68 0 22 true false 1),
  o1 11 (.call 8 [(false, .s 10), (false, .k (.sc (.int .i64 10))), (false, .k (.sc (.int .i64 5))), (false, .k (.sc (.int .i64 0))), (false, .k (.sc (.bool false)))] []),
  o1 9 (.mv false (.s 11)),
  o1 12 (.ext false 0 (.s 9)),
  o1 13 (.ext false 1 (.s 9)),
  o1 2 (.alloc 91 [.sc (.int .i64 0), .sc (.int .i64 0), .sc (.int .i64 0), .sc (.int .i64 0), .sc (.int .i64 0), .sc (.int .i64 0), .sc (.int .i64 0), .sc (.int .i64 0), .sc (.int .i64 0), .sc (.int .i64 0), .sc (.int .i64 0), .row false (.rEntry []), .sc (.int .i64 0), .sc (.int .i64 0), .sc (.int .i64 0), .sc (.int .i64 0), .sc (.int .i64 0), .sc (.int .i64 0), .sc (.int .i64 0), .sc (.int .i64 0), .sc (.int .i64 0), .sc (.int .i64 0)]),
  o0 (.store 91 0 22 false 2 (.s 12)),
  o1 3 (.mv false (.s 13))]
def g_law16_heads_3 : List (IStep2 RW) := [o1 15 (.load 68 0 22 true false 1),
  o1 16 (.call 17 [(false, .s 15), (false, .k (.sc (.int .i64 0)))] []),
  o1 14 (.mv false (.s 16)),
  o1 17 (.ext false 0 (.s 14)),
  o1 18 (.ext false 1 (.s 14)),
  o1 4 (.alloc 114 [.sc (.int .i64 0), .sc (.int .i64 0), .sc (.int .i64 0), .sc (.int .i64 0), .sc (.int .i64 0), .sc (.int .i64 0), .sc (.int .i64 0), .sc (.int .i64 0), .sc (.int .i64 0), .sc (.int .i64 0), .sc (.int .i64 0), .row false (.rEntry []), .sc (.int .i64 0), .sc (.int .i64 0), .sc (.int .i64 0), .sc (.int .i64 0), .sc (.int .i64 0), .sc (.int .i64 0), .sc (.int .i64 0), .sc (.int .i64 0), .sc (.int .i64 0), .sc (.int .i64 0)]),
  o0 (.store 114 0 22 false 4 (.s 17)),
  o1 5 (.mv false (.s 18))]
def g_law16_heads_4 : List (IStep2 RW) := [o1 20 (.call 16 [(false, .k (.sc (.int .i64 0))), (false, .k (.sc (.int .i64 1)))] []),
  o1 19 (.mv false (.s 20)),
  o1 21 (.ext false 0 (.s 19)),
  o1 22 (.ext false 1 (.s 19)),
  o1 6 (.alloc 137 [.sc (.int .i64 0), .sc (.int .i64 0), .sc (.int .i64 0), .sc (.int .i64 0), .sc (.int .i64 0), .sc (.int .i64 0), .sc (.int .i64 0), .sc (.int .i64 0), .sc (.int .i64 0), .sc (.int .i64 0), .sc (.int .i64 0), .row false (.rEntry []), .sc (.int .i64 0), .sc (.int .i64 0), .sc (.int .i64 0), .sc (.int .i64 0), .sc (.int .i64 0), .sc (.int .i64 0), .sc (.int .i64 0), .sc (.int .i64 0), .sc (.int .i64 0), .sc (.int .i64 0)]),
  o0 (.store 137 0 22 false 6 (.s 21)),
  o1 7 (.mv false (.s 22))]
def i_law16_heads_1 : IC2 RW := .seq (.fin (.reg g_law16_heads_0) [0] []) (.seq (.fin (.reg g_law16_heads_1) [8] []) (.seq (.fin (.reg g_law16_heads_2) [9, 10, 11, 12, 13] []) (.seq (.fin (.reg g_law16_heads_3) [1, 14, 15, 16, 17, 18] [(68, 22)]) (.seq (.fin (.reg g_law16_heads_4) [6, 19, 20, 21, 22] [(137, 22)]) i_law16_heads_0))))
def fn_law16_heads : IFn2 RW := ⟨15, 0, 68, 160, [(68, 22), (91, 22), (114, 22), (137, 22)], [], [.slot 0], i_law16_heads_1⟩
def g_cubic_ctl_done_0 : List (IStep2 RW) := [o1 2 (.mv false (.s 0)),
  o1 3 (.mv false (.s 0)),
  o1 4 (.nil (.s 3)),
  o1 5 (.fld 0 (.s 4)),
  o1 6 (.fld 3 (.s 5)),
  o1 7 (.load 11 3 1 false false 6),
  o1 8 (.nil (.s 2)),
  o1 9 (.fld 0 (.s 8)),
  o1 10 (.fld 2 (.s 9)),
  o0 (.store 11 2 1 false 10 (.s 7))]
def i_cubic_ctl_done_0 : IC2 RW := .fin (.reg g_cubic_ctl_done_0) [0, 2, 3, 4, 5, 6, 7, 8, 9, 10] []
def fn_cubic_ctl_done : IFn2 RW := ⟨41, 1, 11, 48, [(11, 22)], [(11, 22)], [], i_cubic_ctl_done_0⟩
def g_cubic_moved_b_0 : List (IStep2 RW) := [o1 3 (.box 30 22 false (.s 0)),
  o1 6 (.alloc 53 [.sc (.int .i64 0), .sc (.int .i64 0), .sc (.int .i64 0), .sc (.int .i64 0), .sc (.int .i64 0), .sc (.int .i64 0), .sc (.int .i64 0), .sc (.int .i64 0), .sc (.int .i64 0), .sc (.int .i64 0), .sc (.int .i64 0), .row false (.rEntry []), .sc (.int .i64 0), .sc (.int .i64 0), .sc (.int .i64 0), .sc (.int .i64 0), .sc (.int .i64 0), .sc (.int .i64 0), .sc (.int .i64 0), .sc (.int .i64 0), .sc (.int .i64 0), .sc (.int .i64 0)]),
  o1 7 (.mv false (.k (.sc (.int .i64 0))))]
def g_cubic_moved_b_1 : List (IStep2 RW) := [o1 10 (.load 30 0 22 true false 3),
  o1 11 (.call 11 [(false, .s 10)] []),
  o1 12 (.bin .neq (.s 11) (.k (.sc (.int .i64 0)))),
  o1 9 (.mv false (.s 12))]
def g_cubic_moved_b_2 : List (IStep2 RW) := [o1 13 (.build [.sc (.int .i64 0), .sc (.int .i64 0), .sc (.int .i64 0), .sc (.int .i64 0), .sc (.int .i64 0), .sc (.int .i64 0), .sc (.int .i64 0), .sc (.int .i64 0), .sc (.int .i64 0), .sc (.int .i64 0), .sc (.int .i64 0), .row false (.rEntry []), .sc (.int .i64 0), .sc (.int .i64 0), .sc (.int .i64 0), .sc (.int .i64 0), .sc (.int .i64 0), .sc (.int .i64 0), .sc (.int .i64 0), .sc (.int .i64 0), .sc (.int .i64 0), .sc (.int .i64 0)] []),
  o0 (.store 53 0 22 false 6 (.s 13)),
  o1 7 (.mv false (.k (.sc (.int .i64 230))))]
def g_cubic_moved_b_3 : List (IStep2 RW) := [o1 15 (.mv false (.s 1)),
  o1 16 (.bslice 3 1 [(0, 1, .s 15)]),
  o1 17 (.call 24 [(false, .s 16)] []),
  o1 18 (.un .not (.s 17)),
  o1 14 (.mv false (.s 18))]
def g_cubic_moved_b_4 : List (IStep2 RW) := [o1 19 (.build [.sc (.int .i64 0), .sc (.int .i64 0), .sc (.int .i64 0), .sc (.int .i64 0), .sc (.int .i64 0), .sc (.int .i64 0), .sc (.int .i64 0), .sc (.int .i64 0), .sc (.int .i64 0), .sc (.int .i64 0), .sc (.int .i64 0), .row false (.rEntry []), .sc (.int .i64 0), .sc (.int .i64 0), .sc (.int .i64 0), .sc (.int .i64 0), .sc (.int .i64 0), .sc (.int .i64 0), .sc (.int .i64 0), .sc (.int .i64 0), .sc (.int .i64 0), .sc (.int .i64 0)] []),
  o0 (.store 53 0 22 false 6 (.s 19)),
  o1 7 (.mv false (.k (.sc (.int .i64 2))))]
def g_cubic_moved_b_5 : List (IStep2 RW) := [o1 20 (.load 30 0 22 true false 3),
  o1 21 (.build [.sc (.int .i64 0), .sc (.int .i64 0), .sc (.int .i64 0), .sc (.int .i64 0), .sc (.int .i64 0), .sc (.int .i64 0), .sc (.int .i64 0), .sc (.int .i64 0), .sc (.int .i64 0), .sc (.int .i64 0), .sc (.int .i64 0), .row false (.rEntry []), .sc (.int .i64 0), .sc (.int .i64 0), .sc (.int .i64 0), .sc (.int .i64 0), .sc (.int .i64 0), .sc (.int .i64 0), .sc (.int .i64 0), .sc (.int .i64 0), .sc (.int .i64 0), .sc (.int .i64 0)] [(0, 22, .s 20)]),
  o1 22 (.box 76 22 false (.s 21)),
  o1 8 (.mv false (.s 22))]
def g_cubic_moved_b_6 : List (IStep2 RW) := [o1 23 (.mv false (.s 2)),
  o1 24 (.mv false (.s 8)),
  o1 25 (.callv (.s 23) 41 1027 [(false, .s 24)] [(76, 22, 11)])]
def g_cubic_moved_b_7 : List (IStep2 RW) := [o1 26 (.mv false (.s 8)),
  o1 27 (.nil (.s 26)),
  o1 28 (.fld 0 (.s 27)),
  o1 29 (.load 76 0 22 true false 28),
  o0 (.store 53 0 22 false 6 (.s 29)),
  o1 7 (.mv false (.k (.sc (.int .i64 0))))]
def i_cubic_moved_b_0 : IC2 RW := .seq (.fin (.reg g_cubic_moved_b_0) [0, 7] []) (.seq (.blk 0 (.seq (.fin (.reg g_cubic_moved_b_1) [10, 11, 12] []) (.cond (.s 9) (.seq (.fin (.reg g_cubic_moved_b_2) [1, 2, 3, 9, 13] [(30, 22)]) (.ret)) (.seq (.fin (.reg g_cubic_moved_b_3) [1, 9, 15, 16, 17, 18] []) (.fin (.cond (.s 14) (.seq (.fin (.reg g_cubic_moved_b_4) [2, 3, 14, 19] [(30, 22)]) (.ret)) (.skip)) [14] []))))) (.seq (.fin (.reg g_cubic_moved_b_5) [3, 20, 21, 22] [(30, 22)]) (.seq (.fin (.reg g_cubic_moved_b_6) [2, 23, 24, 25] []) (.seq (.fin (.reg g_cubic_moved_b_7) [8, 26, 27, 28, 29] [(76, 22)]) (.ret)))))
def fn_cubic_moved_b : IFn2 RW := ⟨39, 3, 30, 112, [(30, 22), (53, 22), (76, 22)], [], [.cell 6 53 22 true, .slot 7], i_cubic_moved_b_0⟩
def g_cubic_Done_0 : List (IStep2 RW) := [o1 1 (.box 8 22 false (.s 0)),
  o1 2 (.alloc 31 [.sc (.int .i64 0), .sc (.int .i64 0), .sc (.int .i64 0), .sc (.int .i64 0), .sc (.int .i64 0), .sc (.int .i64 0), .sc (.int .i64 0), .sc (.int .i64 0), .sc (.int .i64 0), .sc (.int .i64 0), .sc (.int .i64 0), .row false (.rEntry []), .sc (.int .i64 0), .sc (.int .i64 0), .sc (.int .i64 0), .sc (.int .i64 0), .sc (.int .i64 0), .sc (.int .i64 0), .sc (.int .i64 0), .sc (.int .i64 0), .sc (.int .i64 0), .sc (.int .i64 0)]),
  o1 3 (.mv false (.k (.sc (.int .i64 0))))]
def g_cubic_Done_1 : List (IStep2 RW) := [o1 4 (.load 8 0 22 true false 1),
  o1 5 (.call 1026 [(false, .s 4), (false, .k (.sc (.int .i64 0))), (false, .k (.clo 41 []))] []),
  o1 6 (.ext false 0 (.s 5)),
  o1 7 (.ext false 1 (.s 5)),
  o0 (.store 31 0 22 false 2 (.s 6)),
  o1 3 (.mv false (.s 7))]
def i_cubic_Done_0 : IC2 RW := .seq (.fin (.reg g_cubic_Done_0) [0, 3] []) (.seq (.fin (.reg g_cubic_Done_1) [1, 4, 5, 6, 7] [(8, 22)]) (.ret))
def fn_cubic_Done : IFn2 RW := ⟨18, 1, 8, 64, [(8, 22), (31, 22)], [], [.cell 2 31 22 true, .slot 3], i_cubic_Done_0⟩
def g_law16_CubicBack_10 : List (IStep2 RW) := [o1 50 (.mv false (.s 7)),
  o1 51 (.bin .leq (.s 50) (.k (.sc (.int .i64 400))))]
def g_law16_CubicBack_12 : List (IStep2 RW) := [o1 55 (.load 81 0 22 true false 3),
  o1 56 (.fld 2 (.s 3)),
  o1 57 (.load 81 2 1 false false 56),
  o1 58 (.mv false (.s 7)),
  o1 59 (.bin .mul (.s 58) (.k (.sc (.int .i64 100000)))),
  o1 60 (.call 8 [(false, .s 55), (false, .s 57), (false, .s 59), (false, .k (.sc (.int .i64 0))), (false, .k (.sc (.bool false)))] []),
  o1 54 (.mv false (.s 60)),
  o1 61 (.ext false 0 (.s 54)),
  o1 62 (.ext false 1 (.s 54)),
  o1 8 (.alloc 104 [.sc (.int .i64 0), .sc (.int .i64 0), .sc (.int .i64 0), .sc (.int .i64 0), .sc (.int .i64 0), .sc (.int .i64 0), .sc (.int .i64 0), .sc (.int .i64 0), .sc (.int .i64 0), .sc (.int .i64 0), .sc (.int .i64 0), .row false (.rEntry []), .sc (.int .i64 0), .sc (.int .i64 0), .sc (.int .i64 0), .sc (.int .i64 0), .sc (.int .i64 0), .sc (.int .i64 0), .sc (.int .i64 0), .sc (.int .i64 0), .sc (.int .i64 0), .sc (.int .i64 0)]),
  o0 (.store 104 0 22 false 8 (.s 61)),
  o1 9 (.mv false (.s 62))]
def g_law16_CubicBack_13 : List (IStep2 RW) := [o1 63 (.mv false (.s 9)),
  o1 64 (.bin .neq (.s 63) (.k (.sc (.int .i64 0))))]
def g_law16_CubicBack_14 : List (IStep2 RW) := [o1 2 (.mv false (.k (.sc (.bool false))))]
def g_law16_CubicBack_15 : List (IStep2 RW) := [o1 65 (.load 104 0 22 true false 8),
  o0 (.store 81 0 22 false 3 (.s 65))]
def g_law16_CubicBack_16 : List (IStep2 RW) := [o1 66 (.mv false (.s 7)),
  o1 67 (.bin .mul (.s 66) (.k (.sc (.int .i64 100)))),
  o1 68 (.fld 7 (.s 3)),
  o1 69 (.load 81 7 1 false false 68),
  o1 70 (.bin .add (.s 69) (.k (.sc (.int .i64 200)))),
  o1 71 (.bin .gtr (.s 67) (.s 70))]
def g_law16_CubicBack_11 : List (IStep2 RW) := [o1 52 (.mv false (.s 7)),
  o1 53 (.bin .add (.s 52) (.k (.sc (.int .i64 1)))),
  o1 7 (.mv false (.s 53))]
def i_law16_CubicBack_0 : IC2 RW := .seq (.seq (.fin (.reg g_law16_CubicBack_10) [50] []) (.fin (.cond (.s 51) (.skip) (.clr [7, 51] [] (.exit 0))) [51] [])) (.seq (.blk 1 (.seq (.fin (.reg g_law16_CubicBack_12) [54, 55, 56, 57, 58, 59, 60, 61, 62] []) (.seq (.seq (.fin (.reg g_law16_CubicBack_13) [9, 63] []) (.fin (.cond (.s 64) (.seq (.fin (.reg g_law16_CubicBack_14) [0, 3, 7, 8, 64] [(81, 22), (104, 22)]) (.ret)) (.skip)) [64] [])) (.seq (.fin (.reg g_law16_CubicBack_15) [8, 65] [(104, 22)]) (.seq (.fin (.reg g_law16_CubicBack_16) [66, 67, 68, 69, 70] []) (.fin (.cond (.s 71) (.clr [7, 71] [] (.exit 0)) (.skip)) [71] [])))))) (.fin (.reg g_law16_CubicBack_11) [52, 53] []))
def i_law16_CubicBack_1 : IC2 RW := .loop i_law16_CubicBack_0
def i_law16_CubicBack_2 : IC2 RW := .blk 0 i_law16_CubicBack_1
def g_law16_CubicBack_9 : List (IStep2 RW) := [o1 7 (.mv false (.k (.sc (.int .i64 0))))]
def i_law16_CubicBack_3 : IC2 RW := .seq (.reg g_law16_CubicBack_9) i_law16_CubicBack_2
def g_law16_CubicBack_17 : List (IStep2 RW) := [o1 72 (.fld 2 (.s 3)),
  o1 73 (.load 81 2 1 false false 72),
  o1 74 (.mv false (.s 0)),
  o1 75 (.bin .mul (.k (.sc (.int .i64 100))) (.s 74)),
  o1 76 (.bin .sub (.s 75) (.k (.sc (.int .i64 100)))),
  o1 77 (.bin .geq (.s 73) (.s 76)),
  o2 78 (.mv false (.s 77)),
  o3 79 78 true (.call 15 [] []),
  o1 80 (.pick (.s 78) (.s 79) (.k (.sc (.bool false)))),
  o1 2 (.mv false (.s 80))]
def i_law16_CubicBack_4 : IC2 RW := .seq (.fin (.reg g_law16_CubicBack_17) [0, 3, 72, 73, 74, 75, 76, 77, 78, 79, 80] [(81, 22)]) (.ret)
def i_law16_CubicBack_5 : IC2 RW := .seq i_law16_CubicBack_3 i_law16_CubicBack_4
def g_law16_CubicBack_6 : List (IStep2 RW) := [o1 33 (.load 81 0 22 true false 3),
  o1 34 (.call 18 [(false, .s 33)] []),
  o1 32 (.mv false (.s 34)),
  o1 35 (.ext false 0 (.s 32)),
  o1 36 (.ext false 1 (.s 32)),
  o0 (.store 81 0 22 false 3 (.s 35)),
  o1 6 (.mv false (.s 36))]
def g_law16_CubicBack_7 : List (IStep2 RW) := [o1 37 (.mv false (.s 5)),
  o1 38 (.bin .neq (.s 37) (.k (.sc (.int .i64 0)))),
  o2 39 (.mv false (.s 38)),
  o3 40 39 false (.mv false (.s 6)),
  o3 41 39 false (.bin .neq (.s 40) (.k (.sc (.int .i64 0)))),
  o1 42 (.pick (.s 39) (.k (.sc (.bool true))) (.s 41)),
  o2 43 (.mv false (.s 42)),
  o3 44 43 false (.fld 2 (.s 3)),
  o3 45 43 false (.load 81 2 1 false false 44),
  o3 46 43 false (.mv false (.s 0)),
  o3 47 43 false (.bin .mul (.k (.sc (.int .i64 70))) (.s 46)),
  o3 48 43 false (.bin .neq (.s 45) (.s 47)),
  o1 49 (.pick (.s 43) (.k (.sc (.bool true))) (.s 48))]
def g_law16_CubicBack_8 : List (IStep2 RW) := [o1 2 (.mv false (.k (.sc (.bool false))))]
def i_law16_CubicBack_6 : IC2 RW := .seq (.fin (.reg g_law16_CubicBack_6) [32, 33, 34, 35, 36] []) (.seq (.seq (.fin (.reg g_law16_CubicBack_7) [5, 6, 37, 38, 39, 40, 41, 42, 43, 44, 45, 46, 47, 48] []) (.fin (.cond (.s 49) (.seq (.fin (.reg g_law16_CubicBack_8) [0, 3, 49] [(81, 22)]) (.ret)) (.skip)) [49] [])) i_law16_CubicBack_5)
def g_law16_CubicBack_0 : List (IStep2 RW) := [o1 2 (.mv false (.k (.sc (.bool false))))]
def g_law16_CubicBack_1 : List (IStep2 RW) := [o1 10 (.mv false (.s 0)),
  o1 11 (.bin .lss (.s 10) (.k (.sc (.int .i64 10)))),
  o2 12 (.mv false (.s 11)),
  o3 13 12 false (.mv false (.s 0)),
  o3 14 12 false (.bin .gtr (.s 13) (.k (.sc (.int .i64 1000)))),
  o1 15 (.pick (.s 12) (.k (.sc (.bool true))) (.s 14))]
def g_law16_CubicBack_2 : List (IStep2 RW) := [o1 16 (.call 15 [] []),
  o1 2 (.mv false (.s 16))]
def g_law16_CubicBack_3 : List (IStep2 RW) := [o1 18 (.call 16 [(false, .k (.sc (.int .i64 100))), (false, .k (.sc (.int .i64 10)))] []),
  o1 17 (.mv false (.s 18)),
  o1 19 (.ext false 0 (.s 17)),
  o1 20 (.ext false 1 (.s 17)),
  o1 3 (.alloc 81 [.sc (.int .i64 0), .sc (.int .i64 0), .sc (.int .i64 0), .sc (.int .i64 0), .sc (.int .i64 0), .sc (.int .i64 0), .sc (.int .i64 0), .sc (.int .i64 0), .sc (.int .i64 0), .sc (.int .i64 0), .sc (.int .i64 0), .row false (.rEntry []), .sc (.int .i64 0), .sc (.int .i64 0), .sc (.int .i64 0), .sc (.int .i64 0), .sc (.int .i64 0), .sc (.int .i64 0), .sc (.int .i64 0), .sc (.int .i64 0), .sc (.int .i64 0), .sc (.int .i64 0)]),
  o0 (.store 81 0 22 false 3 (.s 19)),
  o1 4 (.mv false (.s 20))]
def g_law16_CubicBack_4 : List (IStep2 RW) := [o1 21 (.mv false (.s 0)),
  o1 22 (.bin .mul (.k (.sc (.int .i64 100))) (.s 21)),
  o1 23 (.mv false (.s 0)),
  o1 24 (.bin .mul (.k (.sc (.int .i64 100))) (.s 23)),
  o1 25 (.fld 2 (.s 3)),
  o0 (.store 81 2 1 false 25 (.s 22)),
  o1 26 (.fld 3 (.s 3)),
  o0 (.store 81 3 1 false 26 (.s 24))]
def g_law16_CubicBack_5 : List (IStep2 RW) := [o1 28 (.load 81 0 22 true false 3),
  o1 29 (.call 17 [(false, .s 28), (false, .k (.sc (.int .i64 0)))] []),
  o1 27 (.mv false (.s 29)),
  o1 30 (.ext false 0 (.s 27)),
  o1 31 (.ext false 1 (.s 27)),
  o0 (.store 81 0 22 false 3 (.s 30)),
  o1 5 (.mv false (.s 31))]
def i_law16_CubicBack_7 : IC2 RW := .seq (.fin (.reg g_law16_CubicBack_0) [2] []) (.seq (.seq (.fin (.reg g_law16_CubicBack_1) [10, 11, 12, 13, 14] []) (.fin (.cond (.s 15) (.seq (.fin (.reg g_law16_CubicBack_2) [0, 15, 16] []) (.ret)) (.skip)) [15] [])) (.seq (.fin (.reg g_law16_CubicBack_3) [4, 17, 18, 19, 20] []) (.seq (.fin (.reg g_law16_CubicBack_4) [21, 22, 23, 24, 25, 26] []) (.seq (.fin (.reg g_law16_CubicBack_5) [27, 28, 29, 30, 31] []) i_law16_CubicBack_6))))
def fn_law16_CubicBack : IFn2 RW := ⟨6, 1, 81, 128, [(81, 22), (104, 22)], [], [.slot 2], i_law16_CubicBack_7⟩
/-! tideway/reno.size -/
theorem run_reno_size {R : Type} (cp : Nat → Nat → Bool) (n : Nat) (p0 : Int) (k : Ret2 RW → Option R) : G_reno_size cp (n + 1) p0 (fun r0 => k ⟨(tB r0), []⟩) = run2 U cp (callP cp n) n fn_reno_size [(tL p0)] [] k := by kernel_rfl
/-! (*tideway/reno.ctl).plain -/
def fr_reno_ctl_plain_2 (q0 : ST68) : FF := [(.ptr 138 0) :: (dT 15 []), dc, dc, dc, dc, dc, dc, dc, dT 10 ((.hdr 22) :: (sl 0 5 (eT68 q0))), sl 5 16 (eT68 q0), sl 21 1 (eT68 q0) ++ (dT 15 [])]
def fr_reno_ctl_plain_4 (q0 : ST68) (v4 : Bool) : FF := [dT 2 ((tB v4) :: (dT 13 [])), dc, dc, dc, dc, dc, dc, dc, dT 10 ((.hdr 22) :: (sl 0 5 (eT68 q0))), sl 5 16 (eT68 q0), sl 21 1 (eT68 q0) ++ (dT 15 [])]
theorem s_reno_ctl_plain_3_t {R : Type} (cp : Nat → Nat → Bool) (n : Nat) (q0 : ST68) (k : Ex → FF → Option R) : X cp n i_reno_ctl_plain_0 (fr_reno_ctl_plain_2 q0) k = s_reno_ctl_plain_3 cp n q0 (fun v4 => k .norm (fr_reno_ctl_plain_4 q0 v4)) := by kernel_rfl
theorem s_reno_ctl_plain_5_t {R : Type} (cp : Nat → Nat → Bool) (n : Nat) (q0 : ST68) (v4 : Bool) (k : Ex → FF → Option R) : X cp n i_reno_ctl_plain_1 (fr_reno_ctl_plain_4 q0 v4) k = s_reno_ctl_plain_5 cp n q0 v4 (k .ret (fr_reno_ctl_plain_4 q0 v4)) := by kernel_rfl
def fr_reno_ctl_plain_6 (q0 : ST68) (v5 : Bool) : FF := [dT 2 ((tB v5) :: (dT 13 [])), dc, dc, dc, dc, dc, dc, dc, dT 10 ((.hdr 22) :: (sl 0 5 (eT68 q0))), sl 5 16 (eT68 q0), sl 21 1 (eT68 q0) ++ (dT 15 [])]
theorem s_reno_ctl_plain_7_t {R : Type} (cp : Nat → Nat → Bool) (n : Nat) (q0 : ST68) (k : Ex → FF → Option R) : X cp n i_reno_ctl_plain_2 (fr_reno_ctl_plain_2 q0) k = s_reno_ctl_plain_7 cp n q0 (fun v5 => k .ret (fr_reno_ctl_plain_6 q0 v5)) := (show X cp n i_reno_ctl_plain_2 (fr_reno_ctl_plain_2 q0) k = X cp n i_reno_ctl_plain_0 (fr_reno_ctl_plain_2 q0) (seqT (X cp n) i_reno_ctl_plain_1 k) from by kernel_rfl).trans ((show X cp n i_reno_ctl_plain_0 (fr_reno_ctl_plain_2 q0) (seqT (X cp n) i_reno_ctl_plain_1 k) = s_reno_ctl_plain_3 cp n q0 (fun v4 => X cp n i_reno_ctl_plain_1 (fr_reno_ctl_plain_4 q0 v4) k) from (s_reno_ctl_plain_3_t cp n q0 (seqT (X cp n) i_reno_ctl_plain_1 k)).trans (by kernel_rfl)).trans (congrArg (fun q => s_reno_ctl_plain_3 cp n q0 q) (funext fun v4 => (s_reno_ctl_plain_5_t cp n q0 v4 k).trans (show s_reno_ctl_plain_5 cp n q0 v4 (k .ret (fr_reno_ctl_plain_4 q0 v4)) = s_reno_ctl_plain_5 cp n q0 v4 (k .ret (fr_reno_ctl_plain_6 q0 v4)) from by kernel_rfl))))
def fr_reno_ctl_plain_8 (q0 : ST68) (v6 : Bool) : FF := [dT 2 ((tB v6) :: (dT 13 [])), dc, dc, dc, dc, dc, dc, dc, dT 10 ((.hdr 22) :: (sl 0 5 (eT68 q0))), sl 5 16 (eT68 q0), sl 21 1 (eT68 q0) ++ (dT 15 [])]
theorem s_reno_ctl_plain_9_t {R : Type} (cp : Nat → Nat → Bool) (n : Nat) (q0 : ST68) (k : Ex → FF → Option R) : X cp n i_reno_ctl_plain_3 (fr_reno_ctl_plain_2 q0) k = s_reno_ctl_plain_9 cp n q0 (fun v6 => k .ret (fr_reno_ctl_plain_8 q0 v6)) := ((fun c => (show X cp n (.seq (.fin (.reg g_reno_ctl_plain_0) [2] []) c) (fr_reno_ctl_plain_2 q0) k = s_reno_ctl_plain_1 cp n q0 (X cp n c (fr_reno_ctl_plain_2 q0) k) from by kernel_rfl)) i_reno_ctl_plain_2).trans (congrArg (fun q => s_reno_ctl_plain_1 cp n q0 q) ((s_reno_ctl_plain_7_t cp n q0 k).trans (show s_reno_ctl_plain_7 cp n q0 (fun v5 => k .ret (fr_reno_ctl_plain_6 q0 v5)) = s_reno_ctl_plain_7 cp n q0 (fun v5 => k .ret (fr_reno_ctl_plain_8 q0 v5)) from by kernel_rfl)))
theorem run_reno_ctl_plain {R : Type} (cp : Nat → Nat → Bool) (n : Nat) (q0 : ST68) (k : Ret2 RW → Option R) : G_reno_ctl_plain cp (n + 1) q0 (fun r0 r1 => k ⟨(tB r0), [(eT68 r1)]⟩) = run2 U cp (callP cp n) n fn_reno_ctl_plain [.ptr 138 0] [(eT68 q0)] k := ((X_run (f := fn_reno_ctl_plain) (av := [.ptr 138 0]) (cells := [(eT68 q0)]) (code := i_reno_ctl_plain_3) (fr := (fr_reno_ctl_plain_2 q0)) (k := k) (by kernel_rfl) (fun K => by kernel_rfl)).trans ((s_reno_ctl_plain_9_t cp n q0 (finK2 fn_reno_ctl_plain k)).trans (by kernel_rfl))).symm
/-! tideway/reno.Check -/
theorem run_reno_Check {R : Type} (cp : Nat → Nat → Bool) (n : Nat) (p0 : SCc) (k : Ret2 RW → Option R) : G_reno_Check cp (n + 1) p0 (fun r0 => k ⟨(tL r0), []⟩) = run2 U cp (callP cp n) n fn_reno_Check [.agg (eCc p0)] [] k := by kernel_rfl
/-! tideway/cubic.size -/
def fr_cubic_size_2 (p0 : (List Int)) : FF := [(.row false (.rint p0)) :: (dT 15 []), dc]
def fr_cubic_size_4 (p0 : (List Int)) (v10 : Int) : FF := [dT 5 ((.row false (.rint p0)) :: (tL v10) :: (tL 0) :: (dT 8 [])), dc]
def fr_cubic_size_6 (p0 : (List Int)) (v10 v12 : Int) : FF := [dT 5 ((.row false (.rint p0)) :: (tL v10) :: (tL v12) :: (dT 8 [])), dc]
def fr_cubic_size_7 : FF := [dT 2 ((tB false) :: (dT 13 [])), dc]
def fr_cubic_size_8 : FF := [dc, dc]
def fr_cubic_size_9 (p0 : (List Int)) (v10 v11 : Int) : FF := [dT 5 ((.row false (.rint p0)) :: (tL v10) :: (tL v11) :: (dT 8 [])), dc]
theorem s_cubic_size_5_t {R : Type} (cp : Nat → Nat → Bool) (n : Nat) (p0 : (List Int)) (v10 v11 : Int) (k : Ex → FF → Option R) : X cp n i_cubic_size_0 (fr_cubic_size_9 p0 v10 v11) k = s_cubic_size_5 cp n p0 v10 v11 (fun v12 => k .norm (fr_cubic_size_6 p0 v10 v12)) (k .ret fr_cubic_size_7) (k (.exit 0) fr_cubic_size_8) := by kernel_rfl
theorem l_cubic_size_10_t {R : Type} (cp : Nat → Nat → Bool) (n : Nat) : ∀ (m : Nat) (p0 : (List Int)) (v10 v11 : Int) (k : Ex → FF → Option R), loopN2 (X cp n i_cubic_size_0) m (fr_cubic_size_9 p0 v10 v11) k = l_cubic_size_10 cp n m p0 v10 v11 (k .ret fr_cubic_size_7) (k (.exit 0) fr_cubic_size_8)
  | 0, _, _, _, _ => rfl
  | m + 1, p0, v10, v11, k => (loopN2_succ (X cp n i_cubic_size_0) m (fr_cubic_size_9 p0 v10 v11) k).trans ((s_cubic_size_5_t cp n p0 v10 v11 (loopT (X cp n i_cubic_size_0) m k)).trans ((show s_cubic_size_5 cp n p0 v10 v11 (fun v12 => loopT (X cp n i_cubic_size_0) m k .norm (fr_cubic_size_6 p0 v10 v12)) (loopT (X cp n i_cubic_size_0) m k .ret fr_cubic_size_7) (loopT (X cp n i_cubic_size_0) m k (.exit 0) fr_cubic_size_8) = s_cubic_size_5 cp n p0 v10 v11 (fun v12 => loopN2 (X cp n i_cubic_size_0) m (fr_cubic_size_9 p0 v10 v12) k) (k .ret fr_cubic_size_7) (k (.exit 0) fr_cubic_size_8) from by kernel_rfl).trans (congrArg (fun q => s_cubic_size_5 cp n p0 v10 v11 q (k .ret fr_cubic_size_7) (k (.exit 0) fr_cubic_size_8)) (funext fun v12 => l_cubic_size_10_t cp n m p0 v10 v12 k))))
theorem s_cubic_size_11_t {R : Type} (cp : Nat → Nat → Bool) (n : Nat) (p0 : (List Int)) (v10 : Int) (k : Ex → FF → Option R) : X cp n i_cubic_size_1 (fr_cubic_size_4 p0 v10) k = s_cubic_size_11 cp n p0 v10 (k .ret fr_cubic_size_7) (k (.exit 0) fr_cubic_size_8) := (show X cp n i_cubic_size_1 (fr_cubic_size_4 p0 v10) k = loopN2 (X cp n i_cubic_size_0) n (fr_cubic_size_9 p0 v10 0) k from by kernel_rfl).trans (l_cubic_size_10_t cp n n p0 v10 0 k)
theorem s_cubic_size_12_t {R : Type} (cp : Nat → Nat → Bool) (n : Nat) (p0 : (List Int)) (v10 : Int) (k : Ex → FF → Option R) : X cp n i_cubic_size_2 (fr_cubic_size_4 p0 v10) k = s_cubic_size_12 cp n p0 v10 (k .norm fr_cubic_size_8) (k .ret fr_cubic_size_7) := (show X cp n i_cubic_size_2 (fr_cubic_size_4 p0 v10) k = X cp n i_cubic_size_1 (fr_cubic_size_4 p0 v10) (blkT 0 k) from by kernel_rfl).trans ((s_cubic_size_11_t cp n p0 v10 (blkT 0 k)).trans (by kernel_rfl))
theorem s_cubic_size_13_t {R : Type} (cp : Nat → Nat → Bool) (n : Nat) (p0 : (List Int)) (k : Ex → FF → Option R) : X cp n i_cubic_size_3 (fr_cubic_size_2 p0) k = s_cubic_size_13 cp n p0 (k .norm fr_cubic_size_8) (k .ret fr_cubic_size_7) := ((fun c => (show X cp n (.seq (.fin (.reg g_cubic_size_1) [0] []) c) (fr_cubic_size_2 p0) k = s_cubic_size_3 cp n p0 (fun v10 => X cp n c (fr_cubic_size_4 p0 v10) k) from by kernel_rfl)) i_cubic_size_2).trans (congrArg (fun q => s_cubic_size_3 cp n p0 q) (funext fun v10 => s_cubic_size_12_t cp n p0 v10 k))
def fr_cubic_size_15 : FF := [dT 2 ((tB true) :: (dT 13 [])), dc]
theorem s_cubic_size_14_t {R : Type} (cp : Nat → Nat → Bool) (n : Nat) (k : Ex → FF → Option R) : X cp n i_cubic_size_4 fr_cubic_size_8 k = s_cubic_size_14 cp n (k .ret fr_cubic_size_15) := by kernel_rfl
def fr_cubic_size_16 (v13 : Bool) : FF := [dT 2 ((tB v13) :: (dT 13 [])), dc]
theorem s_cubic_size_17_t {R : Type} (cp : Nat → Nat → Bool) (n : Nat) (p0 : (List Int)) (k : Ex → FF → Option R) : X cp n i_cubic_size_5 (fr_cubic_size_2 p0) k = s_cubic_size_17 cp n p0 (fun v13 => k .ret (fr_cubic_size_16 v13)) := (show X cp n i_cubic_size_5 (fr_cubic_size_2 p0) k = X cp n i_cubic_size_3 (fr_cubic_size_2 p0) (seqT (X cp n) i_cubic_size_4 k) from by kernel_rfl).trans ((show X cp n i_cubic_size_3 (fr_cubic_size_2 p0) (seqT (X cp n) i_cubic_size_4 k) = s_cubic_size_13 cp n p0 (X cp n i_cubic_size_4 fr_cubic_size_8 k) (k .ret (fr_cubic_size_16 false)) from (s_cubic_size_13_t cp n p0 (seqT (X cp n) i_cubic_size_4 k)).trans (by kernel_rfl)).trans (congrArg (fun q => s_cubic_size_13 cp n p0 q (k .ret (fr_cubic_size_16 false))) ((s_cubic_size_14_t cp n  k).trans (show s_cubic_size_14 cp n (k .ret fr_cubic_size_15) = s_cubic_size_14 cp n (k .ret (fr_cubic_size_16 true)) from by kernel_rfl))))
def fr_cubic_size_18 (v14 : Bool) : FF := [dT 2 ((tB v14) :: (dT 13 [])), dc]
theorem s_cubic_size_19_t {R : Type} (cp : Nat → Nat → Bool) (n : Nat) (p0 : (List Int)) (k : Ex → FF → Option R) : X cp n i_cubic_size_6 (fr_cubic_size_2 p0) k = s_cubic_size_19 cp n p0 (fun v14 => k .ret (fr_cubic_size_18 v14)) := ((fun c => (show X cp n (.seq (.fin (.reg g_cubic_size_0) [2] []) c) (fr_cubic_size_2 p0) k = s_cubic_size_1 cp n p0 (X cp n c (fr_cubic_size_2 p0) k) from by kernel_rfl)) i_cubic_size_5).trans (congrArg (fun q => s_cubic_size_1 cp n p0 q) ((s_cubic_size_17_t cp n p0 k).trans (show s_cubic_size_17 cp n p0 (fun v13 => k .ret (fr_cubic_size_16 v13)) = s_cubic_size_17 cp n p0 (fun v13 => k .ret (fr_cubic_size_18 v13)) from by kernel_rfl)))
theorem run_cubic_size {R : Type} (cp : Nat → Nat → Bool) (n : Nat) (p0 : (List Int)) (k : Ret2 RW → Option R) : G_cubic_size cp (n + 1) p0 (fun r0 => k ⟨(tB r0), []⟩) = run2 U cp (callP cp n) n fn_cubic_size [.row false (.rint p0)] [] k := ((X_run (f := fn_cubic_size) (av := [.row false (.rint p0)]) (cells := []) (code := i_cubic_size_6) (fr := (fr_cubic_size_2 p0)) (k := k) (by kernel_rfl) (fun K => by kernel_rfl)).trans ((s_cubic_size_19_t cp n p0 (finK2 fn_cubic_size k)).trans (by kernel_rfl))).symm
/-! tideway/cubic.Check -/
theorem run_cubic_Check {R : Type} (cp : Nat → Nat → Bool) (n : Nat) (p0 : SCc) (k : Ret2 RW → Option R) : G_cubic_Check cp (n + 1) p0 (fun r0 => k ⟨(tL r0), []⟩) = run2 U cp (callP cp n) n fn_cubic_Check [.agg (eCc p0)] [] k := by kernel_rfl
/-! math/bits.Mul64 -/
theorem run_math_bits_Mul64 {R : Type} (cp : Nat → Nat → Bool) (n : Nat) (p0 p1 : Int) (k : Ret2 RW → Option R) : G_math_bits_Mul64 cp (n + 1) p0 p1 (fun r0 r1 => k ⟨.tup [(tI .u64 r0), (tI .u64 r1)], []⟩) = run2 U cp (callP cp n) n fn_math_bits_Mul64 [(tI .u64 p0), (tI .u64 p1)] [] k := by kernel_rfl
/-! math/bits.Len64 -/
theorem run_math_bits_Len64 {R : Type} (cp : Nat → Nat → Bool) (n : Nat) (p0 : Int) (k : Ret2 RW → Option R) : G_math_bits_Len64 cp (n + 1) p0 (fun r0 => k ⟨(tL r0), []⟩) = run2 U cp (callP cp n) n fn_math_bits_Len64 [(tI .u64 p0)] [] k := by kernel_rfl
/-! math/bits.LeadingZeros64 -/
theorem run_math_bits_LeadingZeros64 {R : Type} (cp : Nat → Nat → Bool) (n : Nat) (p0 : Int) (k : Ret2 RW → Option R) : G_math_bits_LeadingZeros64 cp (n + 1) p0 (fun r0 => k ⟨(tL r0), []⟩) = run2 U cp (callP cp n) n fn_math_bits_LeadingZeros64 [(tI .u64 p0)] [] k := by kernel_rfl
/-! math/bits.Div64 -/
def fr_math_bits_Div64_2 (v31 v32 v33 v34 v35 v36 v37 v38 v39 : Int) : FF := [dT 2 ((tI .u64 v31) :: (dT 5 ((tI .u64 v32) :: (tI .u64 v33) :: (tI .u64 v34) :: (tI .u64 v35) :: (dT 1 ([(tI .u64 v36), (tI .u64 v37), (tI .u64 v38)]))))), (tI .u64 v39) :: (dT 15 []), dc, dc, dc, dc, dc, dc, dc]
def fr_math_bits_Div64_3 (v40 v41 : Int) : FF := [dT 6 ((tI .u64 v40) :: (tI .u64 v41) :: (dT 8 [])), dc, dc, dc, dc, dc, dc, dc, dc]
def fr_math_bits_Div64_5 (v31 v32 v33 v34 v35 v36 v37 v44 v45 : Int) : FF := [dT 2 ((tI .u64 v31) :: (dT 5 ((tI .u64 v32) :: (tI .u64 v33) :: (tI .u64 v34) :: (tI .u64 v35) :: (dT 1 ([(tI .u64 v36), (tI .u64 v37), (tI .u64 v44)]))))), (tI .u64 v45) :: (dT 15 []), dc, dc, dc, dc, dc, dc, dc]
def fr_math_bits_Div64_6 (v31 v32 v33 v34 v35 v36 v37 v46 : Int) : FF := [dT 2 ((tI .u64 v31) :: (dT 5 ((tI .u64 v32) :: (tI .u64 v33) :: (tI .u64 v34) :: (tI .u64 v35) :: (dT 1 ([(tI .u64 v36), (tI .u64 v37), (tI .u64 v46)]))))), dc, dc, dc, dc, dc, dc, dc, dc]
def fr_math_bits_Div64_7 (v31 v32 v33 v34 v35 v36 v37 v42 v43 : Int) : FF := [dT 2 ((tI .u64 v31) :: (dT 5 ((tI .u64 v32) :: (tI .u64 v33) :: (tI .u64 v34) :: (tI .u64 v35) :: (dT 1 ([(tI .u64 v36), (tI .u64 v37), (tI .u64 v42)]))))), (tI .u64 v43) :: (dT 15 []), dc, dc, dc, dc, dc, dc, dc]
theorem s_math_bits_Div64_4_t {R : Type} (cp : Nat → Nat → Bool) (n : Nat) (v31 v32 v33 v34 v35 v36 v37 v42 v43 : Int) (k : Ex → FF → Option R) : X cp n i_math_bits_Div64_0 (fr_math_bits_Div64_7 v31 v32 v33 v34 v35 v36 v37 v42 v43) k = s_math_bits_Div64_4 cp n v31 v32 v33 v34 v35 v36 v37 v42 v43 (fun v44 v45 => k .norm (fr_math_bits_Div64_5 v31 v32 v33 v34 v35 v36 v37 v44 v45)) (fun v46 => k (.exit 0) (fr_math_bits_Div64_6 v31 v32 v33 v34 v35 v36 v37 v46)) := by kernel_rfl
def fr_math_bits_Div64_8 (v31 v32 v33 v34 v35 v36 v37 v47 : Int) : FF := [dT 2 ((tI .u64 v31) :: (dT 5 ((tI .u64 v32) :: (tI .u64 v33) :: (tI .u64 v34) :: (tI .u64 v35) :: (dT 1 ([(tI .u64 v36), (tI .u64 v37), (tI .u64 v47)]))))), dc, dc, dc, dc, dc, dc, dc, dc]
theorem l_math_bits_Div64_9_t {R : Type} (cp : Nat → Nat → Bool) (n : Nat) : ∀ (m : Nat) (v31 v32 v33 v34 v35 v36 v37 v42 v43 : Int) (k : Ex → FF → Option R), loopN2 (X cp n i_math_bits_Div64_0) m (fr_math_bits_Div64_7 v31 v32 v33 v34 v35 v36 v37 v42 v43) k = l_math_bits_Div64_9 cp n m v31 v32 v33 v34 v35 v36 v37 v42 v43 (fun v47 => k (.exit 0) (fr_math_bits_Div64_8 v31 v32 v33 v34 v35 v36 v37 v47))
  | 0, _, _, _, _, _, _, _, _, _, _ => rfl
  | m + 1, v31, v32, v33, v34, v35, v36, v37, v42, v43, k => (loopN2_succ (X cp n i_math_bits_Div64_0) m (fr_math_bits_Div64_7 v31 v32 v33 v34 v35 v36 v37 v42 v43) k).trans ((s_math_bits_Div64_4_t cp n v31 v32 v33 v34 v35 v36 v37 v42 v43 (loopT (X cp n i_math_bits_Div64_0) m k)).trans ((show s_math_bits_Div64_4 cp n v31 v32 v33 v34 v35 v36 v37 v42 v43 (fun v44 v45 => loopT (X cp n i_math_bits_Div64_0) m k .norm (fr_math_bits_Div64_5 v31 v32 v33 v34 v35 v36 v37 v44 v45)) (fun v46 => loopT (X cp n i_math_bits_Div64_0) m k (.exit 0) (fr_math_bits_Div64_6 v31 v32 v33 v34 v35 v36 v37 v46)) = s_math_bits_Div64_4 cp n v31 v32 v33 v34 v35 v36 v37 v42 v43 (fun v44 v45 => loopN2 (X cp n i_math_bits_Div64_0) m (fr_math_bits_Div64_7 v31 v32 v33 v34 v35 v36 v37 v44 v45) k) (fun v46 => k (.exit 0) (fr_math_bits_Div64_8 v31 v32 v33 v34 v35 v36 v37 v46)) from by kernel_rfl).trans (congrArg (fun q => s_math_bits_Div64_4 cp n v31 v32 v33 v34 v35 v36 v37 v42 v43 q (fun v46 => k (.exit 0) (fr_math_bits_Div64_8 v31 v32 v33 v34 v35 v36 v37 v46))) (funext fun v44 => funext fun v45 => l_math_bits_Div64_9_t cp n m v31 v32 v33 v34 v35 v36 v37 v44 v45 k))))
theorem s_math_bits_Div64_10_t {R : Type} (cp : Nat → Nat → Bool) (n : Nat) (v31 v32 v33 v34 v35 v36 v37 v38 v39 : Int) (k : Ex → FF → Option R) : X cp n i_math_bits_Div64_1 (fr_math_bits_Div64_2 v31 v32 v33 v34 v35 v36 v37 v38 v39) k = s_math_bits_Div64_10 cp n v31 v32 v33 v34 v35 v36 v37 v38 v39 (fun v47 => k (.exit 0) (fr_math_bits_Div64_8 v31 v32 v33 v34 v35 v36 v37 v47)) := (show X cp n i_math_bits_Div64_1 (fr_math_bits_Div64_2 v31 v32 v33 v34 v35 v36 v37 v38 v39) k = loopN2 (X cp n i_math_bits_Div64_0) n (fr_math_bits_Div64_7 v31 v32 v33 v34 v35 v36 v37 v38 v39) k from by kernel_rfl).trans (l_math_bits_Div64_9_t cp n n v31 v32 v33 v34 v35 v36 v37 v38 v39 k)
def fr_math_bits_Div64_11 (v31 v32 v33 v34 v35 v36 v37 v48 : Int) : FF := [dT 2 ((tI .u64 v31) :: (dT 5 ((tI .u64 v32) :: (tI .u64 v33) :: (tI .u64 v34) :: (tI .u64 v35) :: (dT 1 ([(tI .u64 v36), (tI .u64 v37), (tI .u64 v48)]))))), dc, dc, dc, dc, dc, dc, dc, dc]
theorem s_math_bits_Div64_12_t {R : Type} (cp : Nat → Nat → Bool) (n : Nat) (v31 v32 v33 v34 v35 v36 v37 v38 v39 : Int) (k : Ex → FF → Option R) : X cp n i_math_bits_Div64_2 (fr_math_bits_Div64_2 v31 v32 v33 v34 v35 v36 v37 v38 v39) k = s_math_bits_Div64_12 cp n v31 v32 v33 v34 v35 v36 v37 v38 v39 (fun v48 => k .norm (fr_math_bits_Div64_11 v31 v32 v33 v34 v35 v36 v37 v48)) := (show X cp n i_math_bits_Div64_2 (fr_math_bits_Div64_2 v31 v32 v33 v34 v35 v36 v37 v38 v39) k = X cp n i_math_bits_Div64_1 (fr_math_bits_Div64_2 v31 v32 v33 v34 v35 v36 v37 v38 v39) (blkT 0 k) from by kernel_rfl).trans ((s_math_bits_Div64_10_t cp n v31 v32 v33 v34 v35 v36 v37 v38 v39 (blkT 0 k)).trans (by kernel_rfl))
def fr_math_bits_Div64_14 (v31 v32 v33 v34 v37 v48 v49 v50 v51 : Int) : FF := [dT 2 ((tI .u64 v31) :: (dT 5 ((tI .u64 v32) :: (tI .u64 v33) :: (tI .u64 v34) :: (dT 3 ([(tI .u64 v37), (tI .u64 v48)]))))), (tI .u64 v49) :: (tI .u64 v50) :: (tI .u64 v51) :: (dT 13 []), dc, dc, dc, dc, dc, dc, dc]
def fr_math_bits_Div64_16 (v31 v32 v33 v34 v37 v48 v50 v54 v55 : Int) : FF := [dT 2 ((tI .u64 v31) :: (dT 5 ((tI .u64 v32) :: (tI .u64 v33) :: (tI .u64 v34) :: (dT 3 ([(tI .u64 v37), (tI .u64 v48)]))))), (tI .u64 v54) :: (tI .u64 v50) :: (tI .u64 v55) :: (dT 13 []), dc, dc, dc, dc, dc, dc, dc]
def fr_math_bits_Div64_17 (v31 v32 v37 v48 v50 v56 : Int) : FF := [dT 2 ((tI .u64 v31) :: (dT 5 ((tI .u64 v32) :: (dT 5 ([(tI .u64 v37), (tI .u64 v48)]))))), dT 1 ((tI .u64 v50) :: (tI .u64 v56) :: (dT 13 [])), dc, dc, dc, dc, dc, dc, dc]
def fr_math_bits_Div64_18 (v31 v32 v33 v34 v37 v48 v50 v52 v53 : Int) : FF := [dT 2 ((tI .u64 v31) :: (dT 5 ((tI .u64 v32) :: (tI .u64 v33) :: (tI .u64 v34) :: (dT 3 ([(tI .u64 v37), (tI .u64 v48)]))))), (tI .u64 v52) :: (tI .u64 v50) :: (tI .u64 v53) :: (dT 13 []), dc, dc, dc, dc, dc, dc, dc]
theorem s_math_bits_Div64_15_t {R : Type} (cp : Nat → Nat → Bool) (n : Nat) (v31 v32 v33 v34 v37 v48 v50 v52 v53 : Int) (k : Ex → FF → Option R) : X cp n i_math_bits_Div64_3 (fr_math_bits_Div64_18 v31 v32 v33 v34 v37 v48 v50 v52 v53) k = s_math_bits_Div64_15 cp n v31 v32 v33 v34 v37 v48 v50 v52 v53 (fun v54 v55 => k .norm (fr_math_bits_Div64_16 v31 v32 v33 v34 v37 v48 v50 v54 v55)) (fun v56 => k (.exit 2) (fr_math_bits_Div64_17 v31 v32 v37 v48 v50 v56)) := by kernel_rfl
def fr_math_bits_Div64_19 (v31 v32 v37 v48 v50 v57 : Int) : FF := [dT 2 ((tI .u64 v31) :: (dT 5 ((tI .u64 v32) :: (dT 5 ([(tI .u64 v37), (tI .u64 v48)]))))), dT 1 ((tI .u64 v50) :: (tI .u64 v57) :: (dT 13 [])), dc, dc, dc, dc, dc, dc, dc]
theorem l_math_bits_Div64_20_t {R : Type} (cp : Nat → Nat → Bool) (n : Nat) : ∀ (m : Nat) (v31 v32 v33 v34 v37 v48 v50 v52 v53 : Int) (k : Ex → FF → Option R), loopN2 (X cp n i_math_bits_Div64_3) m (fr_math_bits_Div64_18 v31 v32 v33 v34 v37 v48 v50 v52 v53) k = l_math_bits_Div64_20 cp n m v31 v32 v33 v34 v37 v48 v50 v52 v53 (fun v57 => k (.exit 2) (fr_math_bits_Div64_19 v31 v32 v37 v48 v50 v57))
  | 0, _, _, _, _, _, _, _, _, _, _ => rfl
  | m + 1, v31, v32, v33, v34, v37, v48, v50, v52, v53, k => (loopN2_succ (X cp n i_math_bits_Div64_3) m (fr_math_bits_Div64_18 v31 v32 v33 v34 v37 v48 v50 v52 v53) k).trans ((s_math_bits_Div64_15_t cp n v31 v32 v33 v34 v37 v48 v50 v52 v53 (loopT (X cp n i_math_bits_Div64_3) m k)).trans ((show s_math_bits_Div64_15 cp n v31 v32 v33 v34 v37 v48 v50 v52 v53 (fun v54 v55 => loopT (X cp n i_math_bits_Div64_3) m k .norm (fr_math_bits_Div64_16 v31 v32 v33 v34 v37 v48 v50 v54 v55)) (fun v56 => loopT (X cp n i_math_bits_Div64_3) m k (.exit 2) (fr_math_bits_Div64_17 v31 v32 v37 v48 v50 v56)) = s_math_bits_Div64_15 cp n v31 v32 v33 v34 v37 v48 v50 v52 v53 (fun v54 v55 => loopN2 (X cp n i_math_bits_Div64_3) m (fr_math_bits_Div64_18 v31 v32 v33 v34 v37 v48 v50 v54 v55) k) (fun v56 => k (.exit 2) (fr_math_bits_Div64_19 v31 v32 v37 v48 v50 v56)) from by kernel_rfl).trans (congrArg (fun q => s_math_bits_Div64_15 cp n v31 v32 v33 v34 v37 v48 v50 v52 v53 q (fun v56 => k (.exit 2) (fr_math_bits_Div64_19 v31 v32 v37 v48 v50 v56))) (funext fun v54 => funext fun v55 => l_math_bits_Div64_20_t cp n m v31 v32 v33 v34 v37 v48 v50 v54 v55 k))))
theorem s_math_bits_Div64_21_t {R : Type} (cp : Nat → Nat → Bool) (n : Nat) (v31 v32 v33 v34 v37 v48 v49 v50 v51 : Int) (k : Ex → FF → Option R) : X cp n i_math_bits_Div64_4 (fr_math_bits_Div64_14 v31 v32 v33 v34 v37 v48 v49 v50 v51) k = s_math_bits_Div64_21 cp n v31 v32 v33 v34 v37 v48 v49 v50 v51 (fun v57 => k (.exit 2) (fr_math_bits_Div64_19 v31 v32 v37 v48 v50 v57)) := (show X cp n i_math_bits_Div64_4 (fr_math_bits_Div64_14 v31 v32 v33 v34 v37 v48 v49 v50 v51) k = loopN2 (X cp n i_math_bits_Div64_3) n (fr_math_bits_Div64_18 v31 v32 v33 v34 v37 v48 v50 v49 v51) k from by kernel_rfl).trans (l_math_bits_Div64_20_t cp n n v31 v32 v33 v34 v37 v48 v50 v49 v51 k)
def fr_math_bits_Div64_22 (v31 v32 v37 v48 v50 v58 : Int) : FF := [dT 2 ((tI .u64 v31) :: (dT 5 ((tI .u64 v32) :: (dT 5 ([(tI .u64 v37), (tI .u64 v48)]))))), dT 1 ((tI .u64 v50) :: (tI .u64 v58) :: (dT 13 [])), dc, dc, dc, dc, dc, dc, dc]
theorem s_math_bits_Div64_23_t {R : Type} (cp : Nat → Nat → Bool) (n : Nat) (v31 v32 v33 v34 v37 v48 v49 v50 v51 : Int) (k : Ex → FF → Option R) : X cp n i_math_bits_Div64_5 (fr_math_bits_Div64_14 v31 v32 v33 v34 v37 v48 v49 v50 v51) k = s_math_bits_Div64_23 cp n v31 v32 v33 v34 v37 v48 v49 v50 v51 (fun v58 => k .norm (fr_math_bits_Div64_22 v31 v32 v37 v48 v50 v58)) := (show X cp n i_math_bits_Div64_5 (fr_math_bits_Div64_14 v31 v32 v33 v34 v37 v48 v49 v50 v51) k = X cp n i_math_bits_Div64_4 (fr_math_bits_Div64_14 v31 v32 v33 v34 v37 v48 v49 v50 v51) (blkT 2 k) from by kernel_rfl).trans ((s_math_bits_Div64_21_t cp n v31 v32 v33 v34 v37 v48 v49 v50 v51 (blkT 2 k)).trans (by kernel_rfl))
def fr_math_bits_Div64_25 (v59 v60 : Int) : FF := [dT 6 ((tI .u64 v59) :: (tI .u64 v60) :: (dT 8 [])), dc, dc, dc, dc, dc, dc, dc, dc]
theorem s_math_bits_Div64_24_t {R : Type} (cp : Nat → Nat → Bool) (n : Nat) (v31 v32 v37 v48 v50 v58 : Int) (k : Ex → FF → Option R) : X cp n i_math_bits_Div64_6 (fr_math_bits_Div64_22 v31 v32 v37 v48 v50 v58) k = s_math_bits_Div64_24 cp n v31 v32 v37 v48 v50 v58 (fun v59 v60 => k .ret (fr_math_bits_Div64_25 v59 v60)) := by kernel_rfl
def fr_math_bits_Div64_26 (v61 v62 : Int) : FF := [dT 6 ((tI .u64 v61) :: (tI .u64 v62) :: (dT 8 [])), dc, dc, dc, dc, dc, dc, dc, dc]
theorem s_math_bits_Div64_27_t {R : Type} (cp : Nat → Nat → Bool) (n : Nat) (v31 v32 v33 v34 v37 v48 v49 v50 v51 : Int) (k : Ex → FF → Option R) : X cp n i_math_bits_Div64_7 (fr_math_bits_Div64_14 v31 v32 v33 v34 v37 v48 v49 v50 v51) k = s_math_bits_Div64_27 cp n v31 v32 v33 v34 v37 v48 v49 v50 v51 (fun v61 v62 => k .ret (fr_math_bits_Div64_26 v61 v62)) := (show X cp n i_math_bits_Div64_7 (fr_math_bits_Div64_14 v31 v32 v33 v34 v37 v48 v49 v50 v51) k = X cp n i_math_bits_Div64_5 (fr_math_bits_Div64_14 v31 v32 v33 v34 v37 v48 v49 v50 v51) (seqT (X cp n) i_math_bits_Div64_6 k) from by kernel_rfl).trans ((show X cp n i_math_bits_Div64_5 (fr_math_bits_Div64_14 v31 v32 v33 v34 v37 v48 v49 v50 v51) (seqT (X cp n) i_math_bits_Div64_6 k) = s_math_bits_Div64_23 cp n v31 v32 v33 v34 v37 v48 v49 v50 v51 (fun v58 => X cp n i_math_bits_Div64_6 (fr_math_bits_Div64_22 v31 v32 v37 v48 v50 v58) k) from (s_math_bits_Div64_23_t cp n v31 v32 v33 v34 v37 v48 v49 v50 v51 (seqT (X cp n) i_math_bits_Div64_6 k)).trans (by kernel_rfl)).trans (congrArg (fun q => s_math_bits_Div64_23 cp n v31 v32 v33 v34 v37 v48 v49 v50 v51 q) (funext fun v58 => (s_math_bits_Div64_24_t cp n v31 v32 v37 v48 v50 v58 k).trans (show s_math_bits_Div64_24 cp n v31 v32 v37 v48 v50 v58 (fun v59 v60 => k .ret (fr_math_bits_Div64_25 v59 v60)) = s_math_bits_Div64_24 cp n v31 v32 v37 v48 v50 v58 (fun v59 v60 => k .ret (fr_math_bits_Div64_26 v59 v60)) from by kernel_rfl))))
def fr_math_bits_Div64_28 (v63 v64 : Int) : FF := [dT 6 ((tI .u64 v63) :: (tI .u64 v64) :: (dT 8 [])), dc, dc, dc, dc, dc, dc, dc, dc]
theorem s_math_bits_Div64_29_t {R : Type} (cp : Nat → Nat → Bool) (n : Nat) (v31 v32 v33 v34 v35 v36 v37 v48 : Int) (k : Ex → FF → Option R) : X cp n i_math_bits_Div64_8 (fr_math_bits_Div64_11 v31 v32 v33 v34 v35 v36 v37 v48) k = s_math_bits_Div64_29 cp n v31 v32 v33 v34 v35 v36 v37 v48 (fun v63 v64 => k .ret (fr_math_bits_Div64_28 v63 v64)) := ((fun c => (show X cp n (.seq (.fin (.reg g_math_bits_Div64_21) [11, 13, 86, 87, 88, 89, 90, 91, 92, 93] []) (.seq (.fin (.reg g_math_bits_Div64_22) [94, 95, 96] []) (.seq (.fin (.reg g_math_bits_Div64_23) [97, 98, 99, 100, 101] []) c))) (fr_math_bits_Div64_11 v31 v32 v33 v34 v35 v36 v37 v48) k = s_math_bits_Div64_13 cp n v31 v32 v33 v34 v35 v36 v37 v48 (fun v49 v50 v51 => X cp n c (fr_math_bits_Div64_14 v31 v32 v33 v34 v37 v48 v49 v50 v51) k) from by kernel_rfl)) i_math_bits_Div64_7).trans (congrArg (fun q => s_math_bits_Div64_13 cp n v31 v32 v33 v34 v35 v36 v37 v48 q) (funext fun v49 => funext fun v50 => funext fun v51 => (s_math_bits_Div64_27_t cp n v31 v32 v33 v34 v37 v48 v49 v50 v51 k).trans (show s_math_bits_Div64_27 cp n v31 v32 v33 v34 v37 v48 v49 v50 v51 (fun v61 v62 => k .ret (fr_math_bits_Div64_26 v61 v62)) = s_math_bits_Div64_27 cp n v31 v32 v33 v34 v37 v48 v49 v50 v51 (fun v61 v62 => k .ret (fr_math_bits_Div64_28 v61 v62)) from by kernel_rfl)))
def fr_math_bits_Div64_30 (v65 v66 : Int) : FF := [dT 6 ((tI .u64 v65) :: (tI .u64 v66) :: (dT 8 [])), dc, dc, dc, dc, dc, dc, dc, dc]
theorem s_math_bits_Div64_31_t {R : Type} (cp : Nat → Nat → Bool) (n : Nat) (v31 v32 v33 v34 v35 v36 v37 v38 v39 : Int) (k : Ex → FF → Option R) : X cp n i_math_bits_Div64_9 (fr_math_bits_Div64_2 v31 v32 v33 v34 v35 v36 v37 v38 v39) k = s_math_bits_Div64_31 cp n v31 v32 v33 v34 v35 v36 v37 v38 v39 (fun v65 v66 => k .ret (fr_math_bits_Div64_30 v65 v66)) := (show X cp n i_math_bits_Div64_9 (fr_math_bits_Div64_2 v31 v32 v33 v34 v35 v36 v37 v38 v39) k = X cp n i_math_bits_Div64_2 (fr_math_bits_Div64_2 v31 v32 v33 v34 v35 v36 v37 v38 v39) (seqT (X cp n) i_math_bits_Div64_8 k) from by kernel_rfl).trans ((show X cp n i_math_bits_Div64_2 (fr_math_bits_Div64_2 v31 v32 v33 v34 v35 v36 v37 v38 v39) (seqT (X cp n) i_math_bits_Div64_8 k) = s_math_bits_Div64_12 cp n v31 v32 v33 v34 v35 v36 v37 v38 v39 (fun v48 => X cp n i_math_bits_Div64_8 (fr_math_bits_Div64_11 v31 v32 v33 v34 v35 v36 v37 v48) k) from (s_math_bits_Div64_12_t cp n v31 v32 v33 v34 v35 v36 v37 v38 v39 (seqT (X cp n) i_math_bits_Div64_8 k)).trans (by kernel_rfl)).trans (congrArg (fun q => s_math_bits_Div64_12 cp n v31 v32 v33 v34 v35 v36 v37 v38 v39 q) (funext fun v48 => (s_math_bits_Div64_29_t cp n v31 v32 v33 v34 v35 v36 v37 v48 k).trans (show s_math_bits_Div64_29 cp n v31 v32 v33 v34 v35 v36 v37 v48 (fun v63 v64 => k .ret (fr_math_bits_Div64_28 v63 v64)) = s_math_bits_Div64_29 cp n v31 v32 v33 v34 v35 v36 v37 v48 (fun v63 v64 => k .ret (fr_math_bits_Div64_30 v63 v64)) from by kernel_rfl))))
def fr_math_bits_Div64_32 (v67 v68 : Int) : FF := [dT 6 ((tI .u64 v67) :: (tI .u64 v68) :: (dT 8 [])), dc, dc, dc, dc, dc, dc, dc, dc]
def fr_math_bits_Div64_34 (p0 p1 p2 : Int) : FF := [(tI .u64 p0) :: (tI .u64 p1) :: (tI .u64 p2) :: (dT 13 []), dc, dc, dc, dc, dc, dc, dc, dc]
theorem s_math_bits_Div64_33_t {R : Type} (cp : Nat → Nat → Bool) (n : Nat) (p0 p1 p2 : Int) (k : Ex → FF → Option R) : X cp n i_math_bits_Div64_10 (fr_math_bits_Div64_34 p0 p1 p2) k = s_math_bits_Div64_33 cp n p0 p1 p2 (fun v67 v68 => k .ret (fr_math_bits_Div64_32 v67 v68)) := ((fun c => (show X cp n (.seq (.fin (.reg g_math_bits_Div64_0) [6, 7] []) (.seq (.seq (.fin (.reg g_math_bits_Div64_1) [19] []) (.fin (.cond (.s 20) (.stuck) (.skip)) [20] [])) (.seq (.seq (.fin (.reg g_math_bits_Div64_3) [22, 23] []) (.fin (.cond (.s 24) (.stuck) (.skip)) [24] [])) (.seq (.seq (.fin (.reg g_math_bits_Div64_5) [26] []) (.fin (.cond (.s 27) (.seq (.fin (.reg g_math_bits_Div64_6) [0, 1, 2, 27, 28, 29, 30, 31, 32, 33] []) (.ret)) (.skip)) [27] [])) (.seq (.fin (.reg g_math_bits_Div64_7) [34, 35, 36] []) (.seq (.fin (.reg g_math_bits_Div64_8) [37, 38, 39] []) (.seq (.fin (.reg g_math_bits_Div64_9) [40, 41] []) (.seq (.fin (.reg g_math_bits_Div64_10) [42, 43] []) (.seq (.fin (.reg g_math_bits_Div64_11) [0, 44, 45, 46, 47, 48, 49, 50, 51] []) (.seq (.fin (.reg g_math_bits_Div64_12) [1, 52, 53, 54] []) (.seq (.fin (.reg g_math_bits_Div64_13) [55, 56] []) (.seq (.fin (.reg g_math_bits_Div64_14) [12, 57, 58] []) (.seq (.fin (.reg g_math_bits_Div64_15) [59, 60, 61] []) (.seq (.fin (.reg g_math_bits_Div64_16) [62, 63, 64, 65, 66] []) c)))))))))))))) (fr_math_bits_Div64_34 p0 p1 p2) k = s_math_bits_Div64_1 cp n p0 p1 p2 (fun v31 v32 v33 v34 v35 v36 v37 v38 v39 => X cp n c (fr_math_bits_Div64_2 v31 v32 v33 v34 v35 v36 v37 v38 v39) k) (fun v40 v41 => k .ret (fr_math_bits_Div64_32 v40 v41)) from by kernel_rfl)) i_math_bits_Div64_9).trans (congrArg (fun q => s_math_bits_Div64_1 cp n p0 p1 p2 q (fun v40 v41 => k .ret (fr_math_bits_Div64_32 v40 v41))) (funext fun v31 => funext fun v32 => funext fun v33 => funext fun v34 => funext fun v35 => funext fun v36 => funext fun v37 => funext fun v38 => funext fun v39 => (s_math_bits_Div64_31_t cp n v31 v32 v33 v34 v35 v36 v37 v38 v39 k).trans (show s_math_bits_Div64_31 cp n v31 v32 v33 v34 v35 v36 v37 v38 v39 (fun v65 v66 => k .ret (fr_math_bits_Div64_30 v65 v66)) = s_math_bits_Div64_31 cp n v31 v32 v33 v34 v35 v36 v37 v38 v39 (fun v65 v66 => k .ret (fr_math_bits_Div64_32 v65 v66)) from by kernel_rfl)))
theorem run_math_bits_Div64 {R : Type} (cp : Nat → Nat → Bool) (n : Nat) (p0 p1 p2 : Int) (k : Ret2 RW → Option R) : G_math_bits_Div64 cp (n + 1) p0 p1 p2 (fun r0 r1 => k ⟨.tup [(tI .u64 r0), (tI .u64 r1)], []⟩) = run2 U cp (callP cp n) n fn_math_bits_Div64 [(tI .u64 p0), (tI .u64 p1), (tI .u64 p2)] [] k := ((X_run (f := fn_math_bits_Div64) (av := [(tI .u64 p0), (tI .u64 p1), (tI .u64 p2)]) (cells := []) (code := i_math_bits_Div64_10) (fr := (fr_math_bits_Div64_34 p0 p1 p2)) (k := k) (by kernel_rfl) (fun K => by kernel_rfl)).trans ((s_math_bits_Div64_33_t cp n p0 p1 p2 (finK2 fn_math_bits_Div64 k)).trans (by kernel_rfl))).symm
/-! tideway/seq.MulDiv -/
theorem run_seq_MulDiv {R : Type} (cp : Nat → Nat → Bool) (n : Nat) (p0 p1 p2 : Int) (k : Ret2 RW → Option R) : G_seq_MulDiv cp (n + 1) p0 p1 p2 (fun r0 r1 => k ⟨.tup [(tL r0), (tL r1)], []⟩) = run2 U cp (callP cp n) n fn_seq_MulDiv [(tL p0), (tL p1), (tL p2)] [] k := by kernel_rfl
/-! tideway/cubic.by -/
theorem run_cubic_by {R : Type} (cp : Nat → Nat → Bool) (n : Nat) (p0 p1 p2 : Int) (k : Ret2 RW → Option R) : G_cubic_by cp (n + 1) p0 p1 p2 (fun r0 => k ⟨(tL r0), []⟩) = run2 U cp (callP cp n) n fn_cubic_by [(tL p0), (tL p1), (tL p2)] [] k := by kernel_rfl
/-! tideway/seq.Cbrt -/
def fr_seq_Cbrt_2 (p0 : Int) : FF := [(tL p0) :: (dT 2 ((tL 0) :: (dT 12 []))), dc]
def fr_seq_Cbrt_4 (p0 : Int) : FF := [(tL p0) :: (dT 2 ((tL 0) :: (dT 2 ((tL 0) :: (dT 9 []))))), dc]
def fr_seq_Cbrt_6 (p0 v76 v77 : Int) : FF := [(tL p0) :: (dT 2 ((tL v76) :: (dT 2 ((tL v77) :: (dT 9 []))))), dc]
def fr_seq_Cbrt_7 (v74 : Int) : FF := [dT 3 ((tL v74) :: (dT 12 [])), dc]
def fr_seq_Cbrt_8 (p0 v74 v75 : Int) : FF := [(tL p0) :: (dT 2 ((tL v74) :: (dT 2 ((tL v75) :: (dT 9 []))))), dc]
theorem s_seq_Cbrt_5_t {R : Type} (cp : Nat → Nat → Bool) (n : Nat) (p0 v74 v75 : Int) (k : Ex → FF → Option R) : X cp n i_seq_Cbrt_0 (fr_seq_Cbrt_8 p0 v74 v75) k = s_seq_Cbrt_5 cp n p0 v74 v75 (fun v76 v77 => k .norm (fr_seq_Cbrt_6 p0 v76 v77)) (k (.exit 0) (fr_seq_Cbrt_7 v74)) := by kernel_rfl
def fr_seq_Cbrt_9 (v78 : Int) : FF := [dT 3 ((tL v78) :: (dT 12 [])), dc]
theorem l_seq_Cbrt_10_t {R : Type} (cp : Nat → Nat → Bool) (n : Nat) : ∀ (m : Nat) (p0 v74 v75 : Int) (k : Ex → FF → Option R), loopN2 (X cp n i_seq_Cbrt_0) m (fr_seq_Cbrt_8 p0 v74 v75) k = l_seq_Cbrt_10 cp n m p0 v74 v75 (fun v78 => k (.exit 0) (fr_seq_Cbrt_9 v78))
  | 0, _, _, _, _ => rfl
  | m + 1, p0, v74, v75, k => (loopN2_succ (X cp n i_seq_Cbrt_0) m (fr_seq_Cbrt_8 p0 v74 v75) k).trans ((s_seq_Cbrt_5_t cp n p0 v74 v75 (loopT (X cp n i_seq_Cbrt_0) m k)).trans ((show s_seq_Cbrt_5 cp n p0 v74 v75 (fun v76 v77 => loopT (X cp n i_seq_Cbrt_0) m k .norm (fr_seq_Cbrt_6 p0 v76 v77)) (loopT (X cp n i_seq_Cbrt_0) m k (.exit 0) (fr_seq_Cbrt_7 v74)) = s_seq_Cbrt_5 cp n p0 v74 v75 (fun v76 v77 => loopN2 (X cp n i_seq_Cbrt_0) m (fr_seq_Cbrt_8 p0 v76 v77) k) (k (.exit 0) (fr_seq_Cbrt_9 v74)) from by kernel_rfl).trans (congrArg (fun q => s_seq_Cbrt_5 cp n p0 v74 v75 q (k (.exit 0) (fr_seq_Cbrt_9 v74))) (funext fun v76 => funext fun v77 => l_seq_Cbrt_10_t cp n m p0 v76 v77 k))))
theorem s_seq_Cbrt_11_t {R : Type} (cp : Nat → Nat → Bool) (n : Nat) (p0 : Int) (k : Ex → FF → Option R) : X cp n i_seq_Cbrt_1 (fr_seq_Cbrt_4 p0) k = s_seq_Cbrt_11 cp n p0 (fun v78 => k (.exit 0) (fr_seq_Cbrt_9 v78)) := (show X cp n i_seq_Cbrt_1 (fr_seq_Cbrt_4 p0) k = loopN2 (X cp n i_seq_Cbrt_0) n (fr_seq_Cbrt_8 p0 0 0) k from by kernel_rfl).trans (l_seq_Cbrt_10_t cp n n p0 0 0 k)
def fr_seq_Cbrt_12 (v79 : Int) : FF := [dT 3 ((tL v79) :: (dT 12 [])), dc]
theorem s_seq_Cbrt_13_t {R : Type} (cp : Nat → Nat → Bool) (n : Nat) (p0 : Int) (k : Ex → FF → Option R) : X cp n i_seq_Cbrt_2 (fr_seq_Cbrt_4 p0) k = s_seq_Cbrt_13 cp n p0 (fun v79 => k .norm (fr_seq_Cbrt_12 v79)) := (show X cp n i_seq_Cbrt_2 (fr_seq_Cbrt_4 p0) k = X cp n i_seq_Cbrt_1 (fr_seq_Cbrt_4 p0) (blkT 0 k) from by kernel_rfl).trans ((s_seq_Cbrt_11_t cp n p0 (blkT 0 k)).trans (by kernel_rfl))
def fr_seq_Cbrt_14 (v80 : Int) : FF := [dT 3 ((tL v80) :: (dT 12 [])), dc]
theorem s_seq_Cbrt_15_t {R : Type} (cp : Nat → Nat → Bool) (n : Nat) (p0 : Int) (k : Ex → FF → Option R) : X cp n i_seq_Cbrt_3 (fr_seq_Cbrt_2 p0) k = s_seq_Cbrt_15 cp n p0 (fun v80 => k .norm (fr_seq_Cbrt_14 v80)) := ((fun c => (show X cp n (.seq (.reg g_seq_Cbrt_2) c) (fr_seq_Cbrt_2 p0) k = s_seq_Cbrt_3 cp n p0 (X cp n c (fr_seq_Cbrt_4 p0) k) from by kernel_rfl)) i_seq_Cbrt_2).trans (congrArg (fun q => s_seq_Cbrt_3 cp n p0 q) ((s_seq_Cbrt_13_t cp n p0 k).trans (show s_seq_Cbrt_13 cp n p0 (fun v79 => k .norm (fr_seq_Cbrt_12 v79)) = s_seq_Cbrt_13 cp n p0 (fun v79 => k .norm (fr_seq_Cbrt_14 v79)) from by kernel_rfl)))
def fr_seq_Cbrt_17 (v80 : Int) : FF := [dT 2 ((tL v80) :: (dT 13 [])), dc]
theorem s_seq_Cbrt_16_t {R : Type} (cp : Nat → Nat → Bool) (n : Nat) (v80 : Int) (k : Ex → FF → Option R) : X cp n i_seq_Cbrt_4 (fr_seq_Cbrt_14 v80) k = s_seq_Cbrt_16 cp n v80 (k .ret (fr_seq_Cbrt_17 v80)) := by kernel_rfl
def fr_seq_Cbrt_18 (v81 : Int) : FF := [dT 2 ((tL v81) :: (dT 13 [])), dc]
theorem s_seq_Cbrt_19_t {R : Type} (cp : Nat → Nat → Bool) (n : Nat) (p0 : Int) (k : Ex → FF → Option R) : X cp n i_seq_Cbrt_5 (fr_seq_Cbrt_2 p0) k = s_seq_Cbrt_19 cp n p0 (fun v81 => k .ret (fr_seq_Cbrt_18 v81)) := (show X cp n i_seq_Cbrt_5 (fr_seq_Cbrt_2 p0) k = X cp n i_seq_Cbrt_3 (fr_seq_Cbrt_2 p0) (seqT (X cp n) i_seq_Cbrt_4 k) from by kernel_rfl).trans ((show X cp n i_seq_Cbrt_3 (fr_seq_Cbrt_2 p0) (seqT (X cp n) i_seq_Cbrt_4 k) = s_seq_Cbrt_15 cp n p0 (fun v80 => X cp n i_seq_Cbrt_4 (fr_seq_Cbrt_14 v80) k) from (s_seq_Cbrt_15_t cp n p0 (seqT (X cp n) i_seq_Cbrt_4 k)).trans (by kernel_rfl)).trans (congrArg (fun q => s_seq_Cbrt_15 cp n p0 q) (funext fun v80 => (s_seq_Cbrt_16_t cp n v80 k).trans (show s_seq_Cbrt_16 cp n v80 (k .ret (fr_seq_Cbrt_17 v80)) = s_seq_Cbrt_16 cp n v80 (k .ret (fr_seq_Cbrt_18 v80)) from by kernel_rfl))))
def fr_seq_Cbrt_20 (v82 : Int) : FF := [dT 2 ((tL v82) :: (dT 13 [])), dc]
def fr_seq_Cbrt_22 (p0 : Int) : FF := [(tL p0) :: (dT 15 []), dc]
theorem s_seq_Cbrt_21_t {R : Type} (cp : Nat → Nat → Bool) (n : Nat) (p0 : Int) (k : Ex → FF → Option R) : X cp n i_seq_Cbrt_6 (fr_seq_Cbrt_22 p0) k = s_seq_Cbrt_21 cp n p0 (fun v82 => k .ret (fr_seq_Cbrt_20 v82)) := ((fun c => (show X cp n (.seq (.fin (.reg g_seq_Cbrt_0) [2] []) (.seq (.reg g_seq_Cbrt_1) c)) (fr_seq_Cbrt_22 p0) k = s_seq_Cbrt_1 cp n p0 (X cp n c (fr_seq_Cbrt_2 p0) k) from by kernel_rfl)) i_seq_Cbrt_5).trans (congrArg (fun q => s_seq_Cbrt_1 cp n p0 q) ((s_seq_Cbrt_19_t cp n p0 k).trans (show s_seq_Cbrt_19 cp n p0 (fun v81 => k .ret (fr_seq_Cbrt_18 v81)) = s_seq_Cbrt_19 cp n p0 (fun v81 => k .ret (fr_seq_Cbrt_20 v81)) from by kernel_rfl)))
theorem run_seq_Cbrt {R : Type} (cp : Nat → Nat → Bool) (n : Nat) (p0 : Int) (k : Ret2 RW → Option R) : G_seq_Cbrt cp (n + 1) p0 (fun r0 => k ⟨(tL r0), []⟩) = run2 U cp (callP cp n) n fn_seq_Cbrt [(tL p0)] [] k := ((X_run (f := fn_seq_Cbrt) (av := [(tL p0)]) (cells := []) (code := i_seq_Cbrt_6) (fr := (fr_seq_Cbrt_22 p0)) (k := k) (by kernel_rfl) (fun K => by kernel_rfl)).trans ((s_seq_Cbrt_21_t cp n p0 (finK2 fn_seq_Cbrt k)).trans (by kernel_rfl))).symm
/-! (*tideway/cubic.ctl).begin -/
theorem run_cubic_ctl_begin {R : Type} (cp : Nat → Nat → Bool) (n : Nat) (p1 : Int) (q0 : Sctl) (k : Ret2 RW → Option R) : G_cubic_ctl_begin cp (n + 1) p1 q0 (fun r0 => k ⟨.tup [], [(ectl r0)]⟩) = run2 U cp (callP cp n) n fn_cubic_ctl_begin [.ptr 74 0, (tL p1)] [(ectl q0)] k := by kernel_rfl
/-! tideway/seq.Sum -/
theorem run_seq_Sum {R : Type} (cp : Nat → Nat → Bool) (n : Nat) (p0 p1 : Int) (k : Ret2 RW → Option R) : G_seq_Sum cp (n + 1) p0 p1 (fun r0 => k ⟨(tL r0), []⟩) = run2 U cp (callP cp n) n fn_seq_Sum [(tL p0), (tL p1)] [] k := by kernel_rfl
/-! tideway/seq.Clamp -/
theorem run_seq_Clamp {R : Type} (cp : Nat → Nat → Bool) (n : Nat) (p0 p1 p2 : Int) (k : Ret2 RW → Option R) : G_seq_Clamp cp (n + 1) p0 p1 p2 (fun r0 => k ⟨(tL r0), []⟩) = run2 U cp (callP cp n) n fn_seq_Clamp [(tL p0), (tL p1), (tL p2)] [] k := by kernel_rfl
/-! tideway/cubic.Curve -/
def fr_cubic_Curve_2 (p0 : SCc) (v100 : Int) : FF := [dT 2 ((.ptr 39 0) :: (dT 4 ((tL v100) :: (dT 8 [])))), dc, dT 7 ((.hdr 22) :: (sl 0 8 (eCc p0))), sl 8 14 (eCc p0) ++ (dT 2 [])]
def fr_cubic_Curve_3 : FF := [dT 4 ((tL 0) :: (dT 11 [])), dc, dc, dc]
def fr_cubic_Curve_5 (v103 : Int) : FF := [dT 4 ((tL v103) :: (dT 11 [])), dc, dc, dc]
theorem s_cubic_Curve_4_t {R : Type} (cp : Nat → Nat → Bool) (n : Nat) (p0 : SCc) (v100 : Int) (k : Ex → FF → Option R) : X cp n i_cubic_Curve_0 (fr_cubic_Curve_2 p0 v100) k = s_cubic_Curve_4 cp n p0 v100 (fun v103 => k .ret (fr_cubic_Curve_5 v103)) := by kernel_rfl
def fr_cubic_Curve_6 (v104 : Int) : FF := [dT 4 ((tL v104) :: (dT 11 [])), dc, dc, dc]
def fr_cubic_Curve_8 (p0 : SCc) (p1 : Int) : FF := [(.agg (eCc p0)) :: (tL p1) :: (dT 14 []), dc, dc, dc]
theorem s_cubic_Curve_7_t {R : Type} (cp : Nat → Nat → Bool) (n : Nat) (p0 : SCc) (p1 : Int) (k : Ex → FF → Option R) : X cp n i_cubic_Curve_1 (fr_cubic_Curve_8 p0 p1) k = s_cubic_Curve_7 cp n p0 p1 (fun v104 => k .ret (fr_cubic_Curve_6 v104)) := ((fun c => (show X cp n (.seq (.fin (.reg g_cubic_Curve_0) [0, 4] []) (.seq (.seq (.fin (.reg g_cubic_Curve_1) [8, 9] []) (.fin (.cond (.s 10) (.seq (.fin (.reg g_cubic_Curve_2) [1, 2, 10] [(39, 22)]) (.ret)) (.skip)) [10] [])) (.seq (.fin (.reg g_cubic_Curve_3) [1, 11, 12, 13, 14, 15, 16] []) (.seq (.fin (.reg g_cubic_Curve_4) [17, 18, 19, 20] []) (.seq (.fin (.reg g_cubic_Curve_5) [6, 21, 22, 23, 24, 25, 26, 27, 28, 29] []) (.seq (.seq (.fin (.reg g_cubic_Curve_6) [5, 30] []) (.fin (.cond (.s 31) (.fin (.reg g_cubic_Curve_7) [31, 32, 33] []) (.skip)) [31] [])) c)))))) (fr_cubic_Curve_8 p0 p1) k = s_cubic_Curve_1 cp n p0 p1 (fun v100 => X cp n c (fr_cubic_Curve_2 p0 v100) k) (k .ret (fr_cubic_Curve_6 0)) from by kernel_rfl)) i_cubic_Curve_0).trans (congrArg (fun q => s_cubic_Curve_1 cp n p0 p1 q (k .ret (fr_cubic_Curve_6 0))) (funext fun v100 => (s_cubic_Curve_4_t cp n p0 v100 k).trans (show s_cubic_Curve_4 cp n p0 v100 (fun v103 => k .ret (fr_cubic_Curve_5 v103)) = s_cubic_Curve_4 cp n p0 v100 (fun v103 => k .ret (fr_cubic_Curve_6 v103)) from by kernel_rfl)))
theorem run_cubic_Curve {R : Type} (cp : Nat → Nat → Bool) (n : Nat) (p0 : SCc) (p1 : Int) (k : Ret2 RW → Option R) : G_cubic_Curve cp (n + 1) p0 p1 (fun r0 => k ⟨(tL r0), []⟩) = run2 U cp (callP cp n) n fn_cubic_Curve [.agg (eCc p0), (tL p1)] [] k := ((X_run (f := fn_cubic_Curve) (av := [.agg (eCc p0), (tL p1)]) (cells := []) (code := i_cubic_Curve_1) (fr := (fr_cubic_Curve_8 p0 p1)) (k := k) (by kernel_rfl) (fun K => by kernel_rfl)).trans ((s_cubic_Curve_7_t cp n p0 p1 (finK2 fn_cubic_Curve k)).trans (by kernel_rfl))).symm
/-! (*tideway/cubic.ctl).grow -/
def fr_cubic_ctl_grow_2 (p1 v20 : Int) (v21 : SCc) : FF := [(.ptr 110 0) :: (tL p1) :: (dT 6 ((tL v20) :: (dT 7 []))), dc, dc, dc, dc, dc, dT 14 ((.hdr 22) :: (sl 0 1 (eCc v21))), sl 1 16 (eCc v21), sl 17 5 (eCc v21) ++ (dT 11 [])]
def fr_cubic_ctl_grow_4 (p1 : Int) (v21 : SCc) (v28 v29 : Int) : FF := [(.ptr 110 0) :: (tL p1) :: (dT 7 ((tL v28) :: (dT 6 []))), dc, dc, dc, dc, dc, dT 14 ([.hdr 22, (tL v21.xKind)]), [(tL v21.xMss), (tL v21.xCwnd), (tL v21.xSsthresh), (tL v21.xAcc), (tL v21.xWmax), (tL v21.xEpoch), (tL v21.xK), (tL v29), (tL v21.xStart), (tL v21.xMode), .row false (.rEntry v21.xBw), (tL v21.xMinRtt), (tL v21.xMinAt), (tL v21.xRound), (tL v21.xNextAt), (tL v21.xFull)], (tL v21.xFullN) :: (tL v21.xPhase) :: (tL v21.xPhaseAt) :: (tL v21.xDoneAt) :: (tL v21.xPrior) :: (dT 11 [])]
def fr_cubic_ctl_grow_6 (v21 : SCc) (v29 v32 : Int) : FF := [dc, dc, dc, dc, dc, dc, dT 14 ([.hdr 22, (tL v21.xKind)]), [(tL v21.xMss), (tL v32), (tL v21.xSsthresh), (tL v21.xAcc), (tL v21.xWmax), (tL v21.xEpoch), (tL v21.xK), (tL v29), (tL v21.xStart), (tL v21.xMode), .row false (.rEntry v21.xBw), (tL v21.xMinRtt), (tL v21.xMinAt), (tL v21.xRound), (tL v21.xNextAt), (tL v21.xFull)], (tL v21.xFullN) :: (tL v21.xPhase) :: (tL v21.xPhaseAt) :: (tL v21.xDoneAt) :: (tL v21.xPrior) :: (dT 11 [])]
theorem s_cubic_ctl_grow_5_t {R : Type} (cp : Nat → Nat → Bool) (n : Nat) (p1 : Int) (v21 : SCc) (v28 v29 : Int) (k : Ex → FF → Option R) : X cp n i_cubic_ctl_grow_0 (fr_cubic_ctl_grow_4 p1 v21 v28 v29) k = s_cubic_ctl_grow_5 cp n p1 v21 v28 v29 (fun v32 => k .norm (fr_cubic_ctl_grow_6 v21 v29 v32)) := by kernel_rfl
def fr_cubic_ctl_grow_7 (v21 : SCc) (v33 v34 : Int) : FF := [dc, dc, dc, dc, dc, dc, dT 14 ([.hdr 22, (tL v21.xKind)]), [(tL v21.xMss), (tL v33), (tL v21.xSsthresh), (tL v21.xAcc), (tL v21.xWmax), (tL v21.xEpoch), (tL v21.xK), (tL v34), (tL v21.xStart), (tL v21.xMode), .row false (.rEntry v21.xBw), (tL v21.xMinRtt), (tL v21.xMinAt), (tL v21.xRound), (tL v21.xNextAt), (tL v21.xFull)], (tL v21.xFullN) :: (tL v21.xPhase) :: (tL v21.xPhaseAt) :: (tL v21.xDoneAt) :: (tL v21.xPrior) :: (dT 11 [])]
theorem s_cubic_ctl_grow_8_t {R : Type} (cp : Nat → Nat → Bool) (n : Nat) (p1 v20 : Int) (v21 : SCc) (k : Ex → FF → Option R) : X cp n i_cubic_ctl_grow_1 (fr_cubic_ctl_grow_2 p1 v20 v21) k = s_cubic_ctl_grow_8 cp n p1 v20 v21 (fun v33 v34 => k .norm (fr_cubic_ctl_grow_7 v21 v33 v34)) := ((fun c => (show X cp n (.seq (.fin (.reg g_cubic_ctl_grow_3) [8, 30, 31, 32, 33, 34, 35, 36, 37, 38, 39, 40, 41, 42, 43, 44, 45, 46, 47, 48, 49, 50, 51, 52, 53] []) (.seq (.fin (.reg g_cubic_ctl_grow_4) [54, 55, 56, 57, 58, 59, 60, 61, 62, 63, 64, 65, 66, 67, 68, 69, 70, 71, 72, 73, 74, 75, 76, 77, 78] []) c)) (fr_cubic_ctl_grow_2 p1 v20 v21) k = s_cubic_ctl_grow_3 cp n p1 v20 v21 (fun v28 v29 => X cp n c (fr_cubic_ctl_grow_4 p1 v21 v28 v29) k) from by kernel_rfl)) i_cubic_ctl_grow_0).trans (congrArg (fun q => s_cubic_ctl_grow_3 cp n p1 v20 v21 q) (funext fun v28 => funext fun v29 => (s_cubic_ctl_grow_5_t cp n p1 v21 v28 v29 k).trans (show s_cubic_ctl_grow_5 cp n p1 v21 v28 v29 (fun v32 => k .norm (fr_cubic_ctl_grow_6 v21 v29 v32)) = s_cubic_ctl_grow_5 cp n p1 v21 v28 v29 (fun v32 => k .norm (fr_cubic_ctl_grow_7 v21 v32 v29)) from by kernel_rfl)))
def fr_cubic_ctl_grow_9 (v35 : SCc) : FF := [dc, dc, dc, dc, dc, dc, dT 14 ((.hdr 22) :: (sl 0 1 (eCc v35))), sl 1 16 (eCc v35), sl 17 5 (eCc v35) ++ (dT 11 [])]
def fr_cubic_ctl_grow_11 (p1 p2 p3 : Int) (q0 : Sctl) : FF := [(.ptr 110 0) :: (tL p1) :: (tL p2) :: (tL p3) :: (dT 12 []), dc, dc, dc, dc, dc, dT 14 ((.hdr 22) :: (sl 0 1 (ectl q0))), sl 1 16 (ectl q0), sl 17 5 (ectl q0) ++ (dT 11 [])]
theorem s_cubic_ctl_grow_10_t {R : Type} (cp : Nat → Nat → Bool) (n : Nat) (p1 p2 p3 : Int) (q0 : Sctl) (k : Ex → FF → Option R) : X cp n i_cubic_ctl_grow_2 (fr_cubic_ctl_grow_11 p1 p2 p3 q0) k = s_cubic_ctl_grow_10 cp n p1 p2 p3 q0 (fun v35 => k .norm (fr_cubic_ctl_grow_9 v35)) := ((fun c => (show X cp n (.seq (.seq (.fin (.reg g_cubic_ctl_grow_0) [10, 11, 12, 13, 14] []) (.fin (.cond (.s 15) (.fin (.reg g_cubic_ctl_grow_1) [15, 16, 17, 18] []) (.skip)) [15] [])) (.seq (.fin (.reg g_cubic_ctl_grow_2) [2, 3, 19, 20, 21, 22, 23, 24, 25, 26, 27, 28, 29] []) c)) (fr_cubic_ctl_grow_11 p1 p2 p3 q0) k = s_cubic_ctl_grow_1 cp n p1 p2 p3 q0 (fun v20 v21 => X cp n c (fr_cubic_ctl_grow_2 p1 v20 v21) k) from by kernel_rfl)) i_cubic_ctl_grow_1).trans (congrArg (fun q => s_cubic_ctl_grow_1 cp n p1 p2 p3 q0 q) (funext fun v20 => funext fun v21 => (s_cubic_ctl_grow_8_t cp n p1 v20 v21 k).trans (show s_cubic_ctl_grow_8 cp n p1 v20 v21 (fun v33 v34 => k .norm (fr_cubic_ctl_grow_7 v21 v33 v34)) = s_cubic_ctl_grow_8 cp n p1 v20 v21 (fun v33 v34 => k .norm (fr_cubic_ctl_grow_9 (SCc.mk v21.xKind v21.xMss v33 v21.xSsthresh v21.xAcc v21.xWmax v21.xEpoch v21.xK v34 v21.xStart v21.xMode v21.xBw v21.xMinRtt v21.xMinAt v21.xRound v21.xNextAt v21.xFull v21.xFullN v21.xPhase v21.xPhaseAt v21.xDoneAt v21.xPrior))) from by kernel_rfl)))
theorem run_cubic_ctl_grow {R : Type} (cp : Nat → Nat → Bool) (n : Nat) (p1 p2 p3 : Int) (q0 : Sctl) (k : Ret2 RW → Option R) : G_cubic_ctl_grow cp (n + 1) p1 p2 p3 q0 (fun r0 => k ⟨.tup [], [(ectl r0)]⟩) = run2 U cp (callP cp n) n fn_cubic_ctl_grow [.ptr 110 0, (tL p1), (tL p2), (tL p3)] [(ectl q0)] k := ((X_run (f := fn_cubic_ctl_grow) (av := [.ptr 110 0, (tL p1), (tL p2), (tL p3)]) (cells := [(ectl q0)]) (code := i_cubic_ctl_grow_2) (fr := (fr_cubic_ctl_grow_11 p1 p2 p3 q0)) (k := k) (by kernel_rfl) (fun K => by kernel_rfl)).trans ((s_cubic_ctl_grow_10_t cp n p1 p2 p3 q0 (finK2 fn_cubic_ctl_grow k)).trans (by kernel_rfl))).symm
/-! tideway/cubic.Acked -/
theorem run_cubic_Acked {R : Type} (cp : Nat → Nat → Bool) (n : Nat) (p0 : SCc) (p1 p2 p3 : Int) (p4 : Bool) (k : Ret2 RW → Option R) : G_cubic_Acked cp (n + 1) p0 p1 p2 p3 p4 (fun r0 r1 => k ⟨.tup [.agg (eCc r0), (tL r1)], []⟩) = run2 U cp (callP cp n) n fn_cubic_Acked [.agg (eCc p0), (tL p1), (tL p2), (tL p3), (tB p4)] [] k := by kernel_rfl
/-! (*tideway/cubic.ctl).fall -/
theorem run_cubic_ctl_fall {R : Type} (cp : Nat → Nat → Bool) (n : Nat) (q0 : Sctl) (k : Ret2 RW → Option R) : G_cubic_ctl_fall cp (n + 1) q0 (fun r0 => k ⟨.tup [], [(ectl r0)]⟩) = run2 U cp (callP cp n) n fn_cubic_ctl_fall [.ptr 57 0] [(ectl q0)] k := by kernel_rfl
/-! tideway/cubic.moved -/
theorem run_cubic_moved {R : Type} (cp : Nat → Nat → Bool) (n : Nat) (p0 : SCc) (p1 : Int) (k : Ret2 RW → Option R) : G_cubic_moved cp (n + 1) p0 p1 (fun r0 r1 => k ⟨.tup [.agg (eCc r0), (tL r1)], []⟩) = run2 U cp (callP cp n) n fn_cubic_moved [.agg (eCc p0), (tL p1), .clo 40 []] [] k := by kernel_rfl
/-! tideway/cubic.Loss -/
theorem run_cubic_Loss {R : Type} (cp : Nat → Nat → Bool) (n : Nat) (p0 : SCc) (p1 : Int) (k : Ret2 RW → Option R) : G_cubic_Loss cp (n + 1) p0 p1 (fun r0 r1 => k ⟨.tup [.agg (eCc r0), (tL r1)], []⟩) = run2 U cp (callP cp n) n fn_cubic_Loss [.agg (eCc p0), (tL p1)] [] k := by kernel_rfl
/-! tideway/reno.New -/
theorem run_reno_New {R : Type} (cp : Nat → Nat → Bool) (n : Nat) (p0 p1 : Int) (k : Ret2 RW → Option R) : G_reno_New cp (n + 1) p0 p1 (fun r0 r1 => k ⟨.tup [.agg (eCc r0), (tL r1)], []⟩) = run2 U cp (callP cp n) n fn_reno_New [(tL p0), (tL p1)] [] k := by kernel_rfl
/-! tideway/cubic.New -/
theorem run_cubic_New {R : Type} (cp : Nat → Nat → Bool) (n : Nat) (p0 p1 : Int) (k : Ret2 RW → Option R) : G_cubic_New cp (n + 1) p0 p1 (fun r0 r1 => k ⟨.tup [.agg (eCc r0), (tL r1)], []⟩) = run2 U cp (callP cp n) n fn_cubic_New [(tL p0), (tL p1)] [] k := by kernel_rfl
/-! tideway/tidewaylaw16.heads -/
def fr_law16_heads_2 (v13 v14 v15 : Int) (v16 v17 : SCc) : FF := [dT 2 ((.ptr 91 0) :: (tL v13) :: (.ptr 114 0) :: (tL v14) :: (dT 1 ((tL v15) :: (dT 8 [])))), dc, dc, dc, dc, dT 11 ((.hdr 22) :: (sl 0 4 (eCc v16))), sl 4 16 (eCc v16), sl 20 2 (eCc v16) ++ ((.hdr 22) :: (sl 0 13 (eCc v17))), sl 13 9 (eCc v17) ++ (dT 7 []), dc]
def fr_law16_heads_4 (v21 : Bool) : FF := [(tB v21) :: (dT 15 []), dc, dc, dc, dc, dc, dc, dc, dc, dc]
theorem s_law16_heads_3_t {R : Type} (cp : Nat → Nat → Bool) (n : Nat) (v13 v14 v15 : Int) (v16 v17 : SCc) (k : Ex → FF → Option R) : X cp n i_law16_heads_0 (fr_law16_heads_2 v13 v14 v15 v16 v17) k = s_law16_heads_3 cp n v13 v14 v15 v16 v17 (fun v21 => k .ret (fr_law16_heads_4 v21)) := by kernel_rfl
def fr_law16_heads_5 (v22 : Bool) : FF := [(tB v22) :: (dT 15 []), dc, dc, dc, dc, dc, dc, dc, dc, dc]
def fr_law16_heads_7 : FF := [dc, dc, dc, dc, dc, dc, dc, dc, dc, dc]
theorem s_law16_heads_6_t {R : Type} (cp : Nat → Nat → Bool) (n : Nat) (k : Ex → FF → Option R) : X cp n i_law16_heads_1 fr_law16_heads_7 k = s_law16_heads_6 cp n (fun v22 => k .ret (fr_law16_heads_5 v22)) := ((fun c => (show X cp n (.seq (.fin (.reg g_law16_heads_0) [0] []) (.seq (.fin (.reg g_law16_heads_1) [8] []) (.seq (.fin (.reg g_law16_heads_2) [9, 10, 11, 12, 13] []) (.seq (.fin (.reg g_law16_heads_3) [1, 14, 15, 16, 17, 18] [(68, 22)]) (.seq (.fin (.reg g_law16_heads_4) [6, 19, 20, 21, 22] [(137, 22)]) c))))) fr_law16_heads_7 k = s_law16_heads_1 cp n (fun v13 v14 v15 v16 v17 => X cp n c (fr_law16_heads_2 v13 v14 v15 v16 v17) k) from by kernel_rfl)) i_law16_heads_0).trans (congrArg (fun q => s_law16_heads_1 cp n q) (funext fun v13 => funext fun v14 => funext fun v15 => funext fun v16 => funext fun v17 => (s_law16_heads_3_t cp n v13 v14 v15 v16 v17 k).trans (show s_law16_heads_3 cp n v13 v14 v15 v16 v17 (fun v21 => k .ret (fr_law16_heads_4 v21)) = s_law16_heads_3 cp n v13 v14 v15 v16 v17 (fun v21 => k .ret (fr_law16_heads_5 v21)) from by kernel_rfl)))
theorem run_law16_heads {R : Type} (cp : Nat → Nat → Bool) (n : Nat) (k : Ret2 RW → Option R) : G_law16_heads cp (n + 1) (fun r0 => k ⟨(tB r0), []⟩) = run2 U cp (callP cp n) n fn_law16_heads [] [] k := ((X_run (f := fn_law16_heads) (av := []) (cells := []) (code := i_law16_heads_1) (fr := fr_law16_heads_7) (k := k) (by kernel_rfl) (fun K => by kernel_rfl)).trans ((s_law16_heads_6_t cp n  (finK2 fn_law16_heads k)).trans (by kernel_rfl))).symm
/-! (*tideway/cubic.ctl).done -/
theorem run_cubic_ctl_done {R : Type} (cp : Nat → Nat → Bool) (n : Nat) (q0 : Sctl) (k : Ret2 RW → Option R) : G_cubic_ctl_done cp (n + 1) q0 (fun r0 => k ⟨.tup [], [(ectl r0)]⟩) = run2 U cp (callP cp n) n fn_cubic_ctl_done [.ptr 11 0] [(ectl q0)] k := by kernel_rfl
/-! tideway/cubic.moved -/
theorem run_cubic_moved_b {R : Type} (cp : Nat → Nat → Bool) (n : Nat) (p0 : SCc) (p1 : Int) (k : Ret2 RW → Option R) : G_cubic_moved_b cp (n + 1) p0 p1 (fun r0 r1 => k ⟨.tup [.agg (eCc r0), (tL r1)], []⟩) = run2 U cp (callP cp n) n fn_cubic_moved_b [.agg (eCc p0), (tL p1), .clo 41 []] [] k := by kernel_rfl
/-! tideway/cubic.Done -/
theorem run_cubic_Done {R : Type} (cp : Nat → Nat → Bool) (n : Nat) (p0 : SCc) (k : Ret2 RW → Option R) : G_cubic_Done cp (n + 1) p0 (fun r0 r1 => k ⟨.tup [.agg (eCc r0), (tL r1)], []⟩) = run2 U cp (callP cp n) n fn_cubic_Done [.agg (eCc p0)] [] k := by kernel_rfl
/-! tideway/tidewaylaw16.CubicBack -/
def fr_law16_CubicBack_2 (p0 v39 : Int) (v40 : SCc) : FF := [(tL p0) :: (dT 2 ((.ptr 81 0) :: (dT 1 ((tL v39) :: (dT 10 []))))), dc, dc, dc, dc, dT 1 ((.hdr 22) :: (sl 0 14 (eCc v40))), sl 14 8 (eCc v40) ++ (dT 8 []), dc]
def fr_law16_CubicBack_3 (v41 : Bool) : FF := [dT 2 ((tB v41) :: (dT 13 [])), dc, dc, dc, dc, dc, dc, dc]
def fr_law16_CubicBack_5 (p0 : Int) (v46 : SCc) : FF := [(tL p0) :: (dT 2 ((.ptr 81 0) :: (dT 12 []))), dc, dc, dc, dc, dT 1 ((.hdr 22) :: (sl 0 14 (eCc v46))), sl 14 8 (eCc v46) ++ (dT 8 []), dc]
def fr_law16_CubicBack_6 : FF := [dT 2 ((tB false) :: (dT 13 [])), dc, dc, dc, dc, dc, dc, dc]
def fr_law16_CubicBack_8 (p0 : Int) (v46 : SCc) : FF := [(tL p0) :: (dT 2 ((.ptr 81 0) :: (dT 3 ((tL 0) :: (dT 8 []))))), dc, dc, dc, dc, dT 1 ((.hdr 22) :: (sl 0 14 (eCc v46))), sl 14 8 (eCc v46) ++ (dT 8 []), dc]
def fr_law16_CubicBack_10 (p0 v51 : Int) (v52 : SCc) : FF := [(tL p0) :: (dT 2 ((.ptr 81 0) :: (dT 3 ((tL v51) :: (dT 8 []))))), dc, dc, dc, dc, dT 1 ((.hdr 22) :: (sl 0 14 (eCc v52))), sl 14 8 (eCc v52) ++ (dT 8 []), dc]
def fr_law16_CubicBack_11 (p0 : Int) (v53 : SCc) : FF := [(tL p0) :: (dT 2 ((.ptr 81 0) :: (dT 12 []))), dc, dc, dc, dc, dT 1 ((.hdr 22) :: (sl 0 14 (eCc v53))), sl 14 8 (eCc v53) ++ (dT 8 []), dc]
def fr_law16_CubicBack_12 (p0 v47 : Int) (v48 : SCc) : FF := [(tL p0) :: (dT 2 ((.ptr 81 0) :: (dT 3 ((tL v47) :: (dT 8 []))))), dc, dc, dc, dc, dT 1 ((.hdr 22) :: (sl 0 14 (eCc v48))), sl 14 8 (eCc v48) ++ (dT 8 []), dc]
theorem s_law16_CubicBack_9_t {R : Type} (cp : Nat → Nat → Bool) (n : Nat) (p0 v47 : Int) (v48 : SCc) (k : Ex → FF → Option R) : X cp n i_law16_CubicBack_0 (fr_law16_CubicBack_12 p0 v47 v48) k = s_law16_CubicBack_9 cp n p0 v47 v48 (fun v51 v52 => k .norm (fr_law16_CubicBack_10 p0 v51 v52)) (k .ret fr_law16_CubicBack_6) (fun v53 => k (.exit 0) (fr_law16_CubicBack_11 p0 v53)) := by kernel_rfl
def fr_law16_CubicBack_13 (p0 : Int) (v54 : SCc) : FF := [(tL p0) :: (dT 2 ((.ptr 81 0) :: (dT 12 []))), dc, dc, dc, dc, dT 1 ((.hdr 22) :: (sl 0 14 (eCc v54))), sl 14 8 (eCc v54) ++ (dT 8 []), dc]
theorem l_law16_CubicBack_14_t {R : Type} (cp : Nat → Nat → Bool) (n : Nat) : ∀ (m : Nat) (p0 v47 : Int) (v48 : SCc) (k : Ex → FF → Option R), loopN2 (X cp n i_law16_CubicBack_0) m (fr_law16_CubicBack_12 p0 v47 v48) k = l_law16_CubicBack_14 cp n m p0 v47 v48 (k .ret fr_law16_CubicBack_6) (fun v54 => k (.exit 0) (fr_law16_CubicBack_13 p0 v54))
  | 0, _, _, _, _ => rfl
  | m + 1, p0, v47, v48, k => (loopN2_succ (X cp n i_law16_CubicBack_0) m (fr_law16_CubicBack_12 p0 v47 v48) k).trans ((s_law16_CubicBack_9_t cp n p0 v47 v48 (loopT (X cp n i_law16_CubicBack_0) m k)).trans ((show s_law16_CubicBack_9 cp n p0 v47 v48 (fun v51 v52 => loopT (X cp n i_law16_CubicBack_0) m k .norm (fr_law16_CubicBack_10 p0 v51 v52)) (loopT (X cp n i_law16_CubicBack_0) m k .ret fr_law16_CubicBack_6) (fun v53 => loopT (X cp n i_law16_CubicBack_0) m k (.exit 0) (fr_law16_CubicBack_11 p0 v53)) = s_law16_CubicBack_9 cp n p0 v47 v48 (fun v51 v52 => loopN2 (X cp n i_law16_CubicBack_0) m (fr_law16_CubicBack_12 p0 v51 v52) k) (k .ret fr_law16_CubicBack_6) (fun v53 => k (.exit 0) (fr_law16_CubicBack_13 p0 v53)) from by kernel_rfl).trans (congrArg (fun q => s_law16_CubicBack_9 cp n p0 v47 v48 q (k .ret fr_law16_CubicBack_6) (fun v53 => k (.exit 0) (fr_law16_CubicBack_13 p0 v53))) (funext fun v51 => funext fun v52 => l_law16_CubicBack_14_t cp n m p0 v51 v52 k))))
theorem s_law16_CubicBack_15_t {R : Type} (cp : Nat → Nat → Bool) (n : Nat) (p0 : Int) (v46 : SCc) (k : Ex → FF → Option R) : X cp n i_law16_CubicBack_1 (fr_law16_CubicBack_8 p0 v46) k = s_law16_CubicBack_15 cp n p0 v46 (k .ret fr_law16_CubicBack_6) (fun v54 => k (.exit 0) (fr_law16_CubicBack_13 p0 v54)) := (show X cp n i_law16_CubicBack_1 (fr_law16_CubicBack_8 p0 v46) k = loopN2 (X cp n i_law16_CubicBack_0) n (fr_law16_CubicBack_12 p0 0 v46) k from by kernel_rfl).trans (l_law16_CubicBack_14_t cp n n p0 0 v46 k)
def fr_law16_CubicBack_16 (p0 : Int) (v55 : SCc) : FF := [(tL p0) :: (dT 2 ((.ptr 81 0) :: (dT 12 []))), dc, dc, dc, dc, dT 1 ((.hdr 22) :: (sl 0 14 (eCc v55))), sl 14 8 (eCc v55) ++ (dT 8 []), dc]
theorem s_law16_CubicBack_17_t {R : Type} (cp : Nat → Nat → Bool) (n : Nat) (p0 : Int) (v46 : SCc) (k : Ex → FF → Option R) : X cp n i_law16_CubicBack_2 (fr_law16_CubicBack_8 p0 v46) k = s_law16_CubicBack_17 cp n p0 v46 (fun v55 => k .norm (fr_law16_CubicBack_16 p0 v55)) (k .ret fr_law16_CubicBack_6) := (show X cp n i_law16_CubicBack_2 (fr_law16_CubicBack_8 p0 v46) k = X cp n i_law16_CubicBack_1 (fr_law16_CubicBack_8 p0 v46) (blkT 0 k) from by kernel_rfl).trans ((s_law16_CubicBack_15_t cp n p0 v46 (blkT 0 k)).trans (by kernel_rfl))
def fr_law16_CubicBack_18 (p0 : Int) (v56 : SCc) : FF := [(tL p0) :: (dT 2 ((.ptr 81 0) :: (dT 12 []))), dc, dc, dc, dc, dT 1 ((.hdr 22) :: (sl 0 14 (eCc v56))), sl 14 8 (eCc v56) ++ (dT 8 []), dc]
theorem s_law16_CubicBack_19_t {R : Type} (cp : Nat → Nat → Bool) (n : Nat) (p0 : Int) (v46 : SCc) (k : Ex → FF → Option R) : X cp n i_law16_CubicBack_3 (fr_law16_CubicBack_5 p0 v46) k = s_law16_CubicBack_19 cp n p0 v46 (fun v56 => k .norm (fr_law16_CubicBack_18 p0 v56)) (k .ret fr_law16_CubicBack_6) := ((fun c => (show X cp n (.seq (.reg g_law16_CubicBack_9) c) (fr_law16_CubicBack_5 p0 v46) k = s_law16_CubicBack_7 cp n p0 v46 (X cp n c (fr_law16_CubicBack_8 p0 v46) k) from by kernel_rfl)) i_law16_CubicBack_2).trans (congrArg (fun q => s_law16_CubicBack_7 cp n p0 v46 q) ((s_law16_CubicBack_17_t cp n p0 v46 k).trans (show s_law16_CubicBack_17 cp n p0 v46 (fun v55 => k .norm (fr_law16_CubicBack_16 p0 v55)) (k .ret fr_law16_CubicBack_6) = s_law16_CubicBack_17 cp n p0 v46 (fun v55 => k .norm (fr_law16_CubicBack_18 p0 v55)) (k .ret fr_law16_CubicBack_6) from by kernel_rfl)))
def fr_law16_CubicBack_21 (v58 : Bool) : FF := [dT 2 ((tB v58) :: (dT 13 [])), dc, dc, dc, dc, dc, dc, dc]
theorem s_law16_CubicBack_20_t {R : Type} (cp : Nat → Nat → Bool) (n : Nat) (p0 : Int) (v56 : SCc) (k : Ex → FF → Option R) : X cp n i_law16_CubicBack_4 (fr_law16_CubicBack_18 p0 v56) k = s_law16_CubicBack_20 cp n p0 v56 (fun v58 => k .ret (fr_law16_CubicBack_21 v58)) := by kernel_rfl
def fr_law16_CubicBack_22 (v59 : Bool) : FF := [dT 2 ((tB v59) :: (dT 13 [])), dc, dc, dc, dc, dc, dc, dc]
theorem s_law16_CubicBack_23_t {R : Type} (cp : Nat → Nat → Bool) (n : Nat) (p0 : Int) (v46 : SCc) (k : Ex → FF → Option R) : X cp n i_law16_CubicBack_5 (fr_law16_CubicBack_5 p0 v46) k = s_law16_CubicBack_23 cp n p0 v46 (fun v59 => k .ret (fr_law16_CubicBack_22 v59)) := (show X cp n i_law16_CubicBack_5 (fr_law16_CubicBack_5 p0 v46) k = X cp n i_law16_CubicBack_3 (fr_law16_CubicBack_5 p0 v46) (seqT (X cp n) i_law16_CubicBack_4 k) from by kernel_rfl).trans ((show X cp n i_law16_CubicBack_3 (fr_law16_CubicBack_5 p0 v46) (seqT (X cp n) i_law16_CubicBack_4 k) = s_law16_CubicBack_19 cp n p0 v46 (fun v56 => X cp n i_law16_CubicBack_4 (fr_law16_CubicBack_18 p0 v56) k) (k .ret (fr_law16_CubicBack_22 false)) from (s_law16_CubicBack_19_t cp n p0 v46 (seqT (X cp n) i_law16_CubicBack_4 k)).trans (by kernel_rfl)).trans (congrArg (fun q => s_law16_CubicBack_19 cp n p0 v46 q (k .ret (fr_law16_CubicBack_22 false))) (funext fun v56 => (s_law16_CubicBack_20_t cp n p0 v56 k).trans (show s_law16_CubicBack_20 cp n p0 v56 (fun v58 => k .ret (fr_law16_CubicBack_21 v58)) = s_law16_CubicBack_20 cp n p0 v56 (fun v58 => k .ret (fr_law16_CubicBack_22 v58)) from by kernel_rfl))))
def fr_law16_CubicBack_24 (v60 : Bool) : FF := [dT 2 ((tB v60) :: (dT 13 [])), dc, dc, dc, dc, dc, dc, dc]
theorem s_law16_CubicBack_25_t {R : Type} (cp : Nat → Nat → Bool) (n : Nat) (p0 v39 : Int) (v40 : SCc) (k : Ex → FF → Option R) : X cp n i_law16_CubicBack_6 (fr_law16_CubicBack_2 p0 v39 v40) k = s_law16_CubicBack_25 cp n p0 v39 v40 (fun v60 => k .ret (fr_law16_CubicBack_24 v60)) := ((fun c => (show X cp n (.seq (.fin (.reg g_law16_CubicBack_6) [32, 33, 34, 35, 36] []) (.seq (.seq (.fin (.reg g_law16_CubicBack_7) [5, 6, 37, 38, 39, 40, 41, 42, 43, 44, 45, 46, 47, 48] []) (.fin (.cond (.s 49) (.seq (.fin (.reg g_law16_CubicBack_8) [0, 3, 49] [(81, 22)]) (.ret)) (.skip)) [49] [])) c)) (fr_law16_CubicBack_2 p0 v39 v40) k = s_law16_CubicBack_4 cp n p0 v39 v40 (fun v46 => X cp n c (fr_law16_CubicBack_5 p0 v46) k) (k .ret (fr_law16_CubicBack_24 false)) from by kernel_rfl)) i_law16_CubicBack_5).trans (congrArg (fun q => s_law16_CubicBack_4 cp n p0 v39 v40 q (k .ret (fr_law16_CubicBack_24 false))) (funext fun v46 => (s_law16_CubicBack_23_t cp n p0 v46 k).trans (show s_law16_CubicBack_23 cp n p0 v46 (fun v59 => k .ret (fr_law16_CubicBack_22 v59)) = s_law16_CubicBack_23 cp n p0 v46 (fun v59 => k .ret (fr_law16_CubicBack_24 v59)) from by kernel_rfl)))
def fr_law16_CubicBack_26 (v61 : Bool) : FF := [dT 2 ((tB v61) :: (dT 13 [])), dc, dc, dc, dc, dc, dc, dc]
def fr_law16_CubicBack_28 (p0 : Int) : FF := [(tL p0) :: (dT 15 []), dc, dc, dc, dc, dc, dc, dc]
theorem s_law16_CubicBack_27_t {R : Type} (cp : Nat → Nat → Bool) (n : Nat) (p0 : Int) (k : Ex → FF → Option R) : X cp n i_law16_CubicBack_7 (fr_law16_CubicBack_28 p0) k = s_law16_CubicBack_27 cp n p0 (fun v61 => k .ret (fr_law16_CubicBack_26 v61)) := ((fun c => (show X cp n (.seq (.fin (.reg g_law16_CubicBack_0) [2] []) (.seq (.seq (.fin (.reg g_law16_CubicBack_1) [10, 11, 12, 13, 14] []) (.fin (.cond (.s 15) (.seq (.fin (.reg g_law16_CubicBack_2) [0, 15, 16] []) (.ret)) (.skip)) [15] [])) (.seq (.fin (.reg g_law16_CubicBack_3) [4, 17, 18, 19, 20] []) (.seq (.fin (.reg g_law16_CubicBack_4) [21, 22, 23, 24, 25, 26] []) (.seq (.fin (.reg g_law16_CubicBack_5) [27, 28, 29, 30, 31] []) c))))) (fr_law16_CubicBack_28 p0) k = s_law16_CubicBack_1 cp n p0 (fun v39 v40 => X cp n c (fr_law16_CubicBack_2 p0 v39 v40) k) (fun v41 => k .ret (fr_law16_CubicBack_26 v41)) from by kernel_rfl)) i_law16_CubicBack_6).trans (congrArg (fun q => s_law16_CubicBack_1 cp n p0 q (fun v41 => k .ret (fr_law16_CubicBack_26 v41))) (funext fun v39 => funext fun v40 => (s_law16_CubicBack_25_t cp n p0 v39 v40 k).trans (show s_law16_CubicBack_25 cp n p0 v39 v40 (fun v60 => k .ret (fr_law16_CubicBack_24 v60)) = s_law16_CubicBack_25 cp n p0 v39 v40 (fun v60 => k .ret (fr_law16_CubicBack_26 v60)) from by kernel_rfl)))
theorem run_law16_CubicBack {R : Type} (cp : Nat → Nat → Bool) (n : Nat) (p0 : Int) (k : Ret2 RW → Option R) : G_law16_CubicBack cp (n + 1) p0 (fun r0 => k ⟨(tB r0), []⟩) = run2 U cp (callP cp n) n fn_law16_CubicBack [(tL p0)] [] k := ((X_run (f := fn_law16_CubicBack) (av := [(tL p0)]) (cells := []) (code := i_law16_CubicBack_7) (fr := (fr_law16_CubicBack_28 p0)) (k := k) (by kernel_rfl) (fun K => by kernel_rfl)).trans ((s_law16_CubicBack_27_t cp n p0 (finK2 fn_law16_CubicBack k)).trans (by kernel_rfl))).symm
def tbl : Nat → Option IFn
  | 45 => some (fn_reno_size.lo U)
  | 1006 => some (fn_reno_ctl_plain.lo U)
  | 32 => some (fn_reno_Check.lo U)
  | 24 => some (fn_cubic_size.lo U)
  | 11 => some (fn_cubic_Check.lo U)
  | 49 => some (fn_math_bits_Mul64.lo U)
  | 52 => some (fn_math_bits_Len64.lo U)
  | 51 => some (fn_math_bits_LeadingZeros64.lo U)
  | 50 => some (fn_math_bits_Div64.lo U)
  | 47 => some (fn_seq_MulDiv.lo U)
  | 37 => some (fn_cubic_by.lo U)
  | 48 => some (fn_seq_Cbrt.lo U)
  | 1009 => some (fn_cubic_ctl_begin.lo U)
  | 36 => some (fn_seq_Sum.lo U)
  | 35 => some (fn_seq_Clamp.lo U)
  | 13 => some (fn_cubic_Curve.lo U)
  | 1008 => some (fn_cubic_ctl_grow.lo U)
  | 8 => some (fn_cubic_Acked.lo U)
  | 1022 => some (fn_cubic_ctl_fall.lo U)
  | 1021 => some (fn_cubic_moved.lo U)
  | 17 => some (fn_cubic_Loss.lo U)
  | 38 => some (fn_reno_New.lo U)
  | 16 => some (fn_cubic_New.lo U)
  | 15 => some (fn_law16_heads.lo U)
  | 1027 => some (fn_cubic_ctl_done.lo U)
  | 1026 => some (fn_cubic_moved_b.lo U)
  | 18 => some (fn_cubic_Done.lo U)
  | 6 => some (fn_law16_CubicBack.lo U)
  | _ => none
theorem chk_reno_size : chkFn Try.prog tbl (fn_reno_size.lo U) = true := by kernel_rfl
theorem chk_reno_ctl_plain : chkFn Try.prog tbl (fn_reno_ctl_plain.lo U) = true := by kernel_rfl
theorem chk_reno_Check : chkFn Try.prog tbl (fn_reno_Check.lo U) = true := by kernel_rfl
theorem chk_cubic_size : chkFn Try.prog tbl (fn_cubic_size.lo U) = true := by kernel_rfl
theorem chk_cubic_Check : chkFn Try.prog tbl (fn_cubic_Check.lo U) = true := by kernel_rfl
theorem chk_math_bits_Mul64 : chkFn Try.prog tbl (fn_math_bits_Mul64.lo U) = true := by kernel_rfl
theorem chk_math_bits_Len64 : chkFn Try.prog tbl (fn_math_bits_Len64.lo U) = true := by kernel_rfl
theorem chk_math_bits_LeadingZeros64 : chkFn Try.prog tbl (fn_math_bits_LeadingZeros64.lo U) = true := by kernel_rfl
theorem chk_math_bits_Div64 : chkFn Try.prog tbl (fn_math_bits_Div64.lo U) = true := by kernel_rfl
theorem chk_seq_MulDiv : chkFn Try.prog tbl (fn_seq_MulDiv.lo U) = true := by kernel_rfl
theorem chk_cubic_by : chkFn Try.prog tbl (fn_cubic_by.lo U) = true := by kernel_rfl
theorem chk_seq_Cbrt : chkFn Try.prog tbl (fn_seq_Cbrt.lo U) = true := by kernel_rfl
theorem chk_cubic_ctl_begin : chkFn Try.prog tbl (fn_cubic_ctl_begin.lo U) = true := by kernel_rfl
theorem chk_seq_Sum : chkFn Try.prog tbl (fn_seq_Sum.lo U) = true := by kernel_rfl
theorem chk_seq_Clamp : chkFn Try.prog tbl (fn_seq_Clamp.lo U) = true := by kernel_rfl
theorem chk_cubic_Curve : chkFn Try.prog tbl (fn_cubic_Curve.lo U) = true := by kernel_rfl
theorem chk_cubic_ctl_grow : chkFn Try.prog tbl (fn_cubic_ctl_grow.lo U) = true := by kernel_rfl
theorem chk_cubic_Acked : chkFn Try.prog tbl (fn_cubic_Acked.lo U) = true := by kernel_rfl
theorem chk_cubic_ctl_fall : chkFn Try.prog tbl (fn_cubic_ctl_fall.lo U) = true := by kernel_rfl
theorem chk_cubic_moved : chkFn Try.prog tbl (fn_cubic_moved.lo U) = true := by kernel_rfl
theorem chk_cubic_Loss : chkFn Try.prog tbl (fn_cubic_Loss.lo U) = true := by kernel_rfl
theorem chk_reno_New : chkFn Try.prog tbl (fn_reno_New.lo U) = true := by kernel_rfl
theorem chk_cubic_New : chkFn Try.prog tbl (fn_cubic_New.lo U) = true := by kernel_rfl
theorem chk_law16_heads : chkFn Try.prog tbl (fn_law16_heads.lo U) = true := by kernel_rfl
theorem chk_cubic_ctl_done : chkFn Try.prog tbl (fn_cubic_ctl_done.lo U) = true := by kernel_rfl
theorem chk_cubic_moved_b : chkFn Try.prog tbl (fn_cubic_moved_b.lo U) = true := by kernel_rfl
theorem chk_cubic_Done : chkFn Try.prog tbl (fn_cubic_Done.lo U) = true := by kernel_rfl
theorem chk_law16_CubicBack : chkFn Try.prog tbl (fn_law16_CubicBack.lo U) = true := by kernel_rfl
theorem chkAll : ∀ (id : Nat) (f : IFn), tbl id = some f → chkFn Try.prog tbl f = true := by
  intro id f h
  unfold tbl at h
  split at h
  · cases h; exact chk_reno_size
  · cases h; exact chk_reno_ctl_plain
  · cases h; exact chk_reno_Check
  · cases h; exact chk_cubic_size
  · cases h; exact chk_cubic_Check
  · cases h; exact chk_math_bits_Mul64
  · cases h; exact chk_math_bits_Len64
  · cases h; exact chk_math_bits_LeadingZeros64
  · cases h; exact chk_math_bits_Div64
  · cases h; exact chk_seq_MulDiv
  · cases h; exact chk_cubic_by
  · cases h; exact chk_seq_Cbrt
  · cases h; exact chk_cubic_ctl_begin
  · cases h; exact chk_seq_Sum
  · cases h; exact chk_seq_Clamp
  · cases h; exact chk_cubic_Curve
  · cases h; exact chk_cubic_ctl_grow
  · cases h; exact chk_cubic_Acked
  · cases h; exact chk_cubic_ctl_fall
  · cases h; exact chk_cubic_moved
  · cases h; exact chk_cubic_Loss
  · cases h; exact chk_reno_New
  · cases h; exact chk_cubic_New
  · cases h; exact chk_law16_heads
  · cases h; exact chk_cubic_ctl_done
  · cases h; exact chk_cubic_moved_b
  · cases h; exact chk_cubic_Done
  · cases h; exact chk_law16_CubicBack
  · cases h
theorem dI_ok {kd : IntKind} {y : TV RW} {a : Int} (h : dI kd y = some a) : y = .sc (.int kd a) := by
  unfold dI at h
  split at h
  · obtain ⟨h1, h2⟩ := cond_some h
    cases h2
    rw [of_decide_eq_true h1]
  · cases h
theorem dB_ok {y : TV RW} {a : Bool} (h : dB y = some a) : y = .sc (.bool a) := by
  unfold dB at h
  split at h <;> cases h
  rfl
theorem dS_ok {y : TV RW} {a : ByteArray} (h : dS y = some a) : y = .sc (.string a) := by
  unfold dS at h
  split at h <;> cases h
  rfl
theorem dA_ok {y : TV RW} {a : Fr} (h : dA y = some a) : y = .agg a := by
  unfold dA at h
  split at h <;> cases h
  rfl
theorem dOne_ok {y : Fr} {a : TV RW} (h : dOne y = some a) : y = [a] := by
  unfold dOne at h
  split at h <;> cases h
  rfl
theorem dP_ok {a b : Nat} {y : TV RW} {u : Unit} (h : dP a b y = some u) : y = .ptr a b := by
  unfold dP at h
  split at h
  · obtain ⟨h1, h2⟩ := cond_some h
    simp only [Bool.and_eq_true] at h1
    rw [nbeq h1.1, nbeq h1.2]
  · cases h
theorem dC_ok {a : Nat} {b : List (Nat × Nat)} {y : TV RW} {u : Unit} (h : dC a b y = some u) : y = .clo a b := by
  unfold dC at h
  split at h
  · obtain ⟨h1, h2⟩ := cond_some h
    simp only [Bool.and_eq_true] at h1
    rw [nbeq h1.1, of_decide_eq_true h1.2]
  · cases h
theorem dREntry_ok {fl : Bool} {y : TV RW} {a : List SEntry} (h : dREntry fl y = some a) : y = .row fl (.rEntry a) := by
  unfold dREntry at h
  split at h
  · obtain ⟨h1, h2⟩ := cond_some h
    cases h2
    rw [eq_of_beq h1]
  · cases h
theorem dRint_ok {fl : Bool} {y : TV RW} {a : List Int} (h : dRint fl y = some a) : y = .row fl (.rint a) := by
  unfold dRint at h
  split at h
  · obtain ⟨h1, h2⟩ := cond_some h
    cases h2
    rw [eq_of_beq h1]
  · cases h
theorem dEntry_ok {L : Fr} {a : SEntry} (h : dEntry L = some a) : L = eEntry a := by
  unfold dEntry at h
  split at h
  · simp only [Option.bind_eq_some_iff] at h
    obtain ⟨a0, h0, a1, h1, h⟩ := h
    cases h
    obtain rfl := dI_ok h0
    obtain rfl := dI_ok h1
    rfl
  · cases h
theorem dCc_ok {L : Fr} {a : SCc} (h : dCc L = some a) : L = eCc a := by
  unfold dCc at h
  split at h
  · simp only [Option.bind_eq_some_iff] at h
    obtain ⟨a0, h0, a1, h1, a2, h2, a3, h3, a4, h4, a5, h5, a6, h6, a7, h7, a8, h8, a9, h9, a10, h10, a11, h11, a12, h12, a13, h13, a14, h14, a15, h15, a16, h16, a17, h17, a18, h18, a19, h19, a20, h20, a21, h21, h⟩ := h
    cases h
    obtain rfl := dI_ok h0
    obtain rfl := dI_ok h1
    obtain rfl := dI_ok h2
    obtain rfl := dI_ok h3
    obtain rfl := dI_ok h4
    obtain rfl := dI_ok h5
    obtain rfl := dI_ok h6
    obtain rfl := dI_ok h7
    obtain rfl := dI_ok h8
    obtain rfl := dI_ok h9
    obtain rfl := dI_ok h10
    obtain rfl := dREntry_ok h11
    obtain rfl := dI_ok h12
    obtain rfl := dI_ok h13
    obtain rfl := dI_ok h14
    obtain rfl := dI_ok h15
    obtain rfl := dI_ok h16
    obtain rfl := dI_ok h17
    obtain rfl := dI_ok h18
    obtain rfl := dI_ok h19
    obtain rfl := dI_ok h20
    obtain rfl := dI_ok h21
    rfl
  · cases h
theorem dCct_ok {L : Fr} {a : SCc} (h : dCct L = some a) : L = eCct a := by
  unfold dCct at h
  split at h
  · simp only [Option.bind_eq_some_iff] at h
    obtain ⟨a0, h0, a1, h1, a2, h2, a3, h3, a4, h4, a5, h5, a6, h6, a7, h7, a8, h8, a9, h9, a10, h10, a11, h11, a12, h12, a13, h13, a14, h14, a15, h15, a16, h16, a17, h17, a18, h18, a19, h19, a20, h20, a21, h21, h⟩ := h
    cases h
    obtain rfl := dI_ok h0
    obtain rfl := dI_ok h1
    obtain rfl := dI_ok h2
    obtain rfl := dI_ok h3
    obtain rfl := dI_ok h4
    obtain rfl := dI_ok h5
    obtain rfl := dI_ok h6
    obtain rfl := dI_ok h7
    obtain rfl := dI_ok h8
    obtain rfl := dI_ok h9
    obtain rfl := dI_ok h10
    obtain rfl := dREntry_ok h11
    obtain rfl := dI_ok h12
    obtain rfl := dI_ok h13
    obtain rfl := dI_ok h14
    obtain rfl := dI_ok h15
    obtain rfl := dI_ok h16
    obtain rfl := dI_ok h17
    obtain rfl := dI_ok h18
    obtain rfl := dI_ok h19
    obtain rfl := dI_ok h20
    obtain rfl := dI_ok h21
    rfl
  · cases h
theorem dT68_ok {L : Fr} {a : ST68} (h : dT68 L = some a) : L = eT68 a := by
  unfold dT68 at h
  split at h
  · simp only [Option.bind_eq_some_iff] at h
    obtain ⟨a0, h0, a1, h1, a2, h2, a3, h3, a4, h4, a5, h5, a6, h6, a7, h7, a8, h8, a9, h9, a10, h10, a11, h11, a12, h12, a13, h13, a14, h14, a15, h15, a16, h16, a17, h17, a18, h18, a19, h19, a20, h20, a21, h21, h⟩ := h
    cases h
    obtain rfl := dI_ok h0
    obtain rfl := dI_ok h1
    obtain rfl := dI_ok h2
    obtain rfl := dI_ok h3
    obtain rfl := dI_ok h4
    obtain rfl := dI_ok h5
    obtain rfl := dI_ok h6
    obtain rfl := dI_ok h7
    obtain rfl := dI_ok h8
    obtain rfl := dI_ok h9
    obtain rfl := dI_ok h10
    obtain rfl := dREntry_ok h11
    obtain rfl := dI_ok h12
    obtain rfl := dI_ok h13
    obtain rfl := dI_ok h14
    obtain rfl := dI_ok h15
    obtain rfl := dI_ok h16
    obtain rfl := dI_ok h17
    obtain rfl := dI_ok h18
    obtain rfl := dI_ok h19
    obtain rfl := dI_ok h20
    obtain rfl := dI_ok h21
    rfl
  · cases h
theorem dT68t_ok {L : Fr} {a : ST68} (h : dT68t L = some a) : L = eT68t a := by
  unfold dT68t at h
  split at h
  · simp only [Option.bind_eq_some_iff] at h
    obtain ⟨a0, h0, a1, h1, a2, h2, a3, h3, a4, h4, a5, h5, a6, h6, a7, h7, a8, h8, a9, h9, a10, h10, a11, h11, a12, h12, a13, h13, a14, h14, a15, h15, a16, h16, a17, h17, a18, h18, a19, h19, a20, h20, a21, h21, h⟩ := h
    cases h
    obtain rfl := dI_ok h0
    obtain rfl := dI_ok h1
    obtain rfl := dI_ok h2
    obtain rfl := dI_ok h3
    obtain rfl := dI_ok h4
    obtain rfl := dI_ok h5
    obtain rfl := dI_ok h6
    obtain rfl := dI_ok h7
    obtain rfl := dI_ok h8
    obtain rfl := dI_ok h9
    obtain rfl := dI_ok h10
    obtain rfl := dREntry_ok h11
    obtain rfl := dI_ok h12
    obtain rfl := dI_ok h13
    obtain rfl := dI_ok h14
    obtain rfl := dI_ok h15
    obtain rfl := dI_ok h16
    obtain rfl := dI_ok h17
    obtain rfl := dI_ok h18
    obtain rfl := dI_ok h19
    obtain rfl := dI_ok h20
    obtain rfl := dI_ok h21
    rfl
  · cases h
theorem dctl_ok {L : Fr} {a : Sctl} (h : dctl L = some a) : L = ectl a := by
  unfold dctl at h
  split at h
  · simp only [Option.bind_eq_some_iff] at h
    obtain ⟨a0, h0, a1, h1, a2, h2, a3, h3, a4, h4, a5, h5, a6, h6, a7, h7, a8, h8, a9, h9, a10, h10, a11, h11, a12, h12, a13, h13, a14, h14, a15, h15, a16, h16, a17, h17, a18, h18, a19, h19, a20, h20, a21, h21, h⟩ := h
    cases h
    obtain rfl := dI_ok h0
    obtain rfl := dI_ok h1
    obtain rfl := dI_ok h2
    obtain rfl := dI_ok h3
    obtain rfl := dI_ok h4
    obtain rfl := dI_ok h5
    obtain rfl := dI_ok h6
    obtain rfl := dI_ok h7
    obtain rfl := dI_ok h8
    obtain rfl := dI_ok h9
    obtain rfl := dI_ok h10
    obtain rfl := dREntry_ok h11
    obtain rfl := dI_ok h12
    obtain rfl := dI_ok h13
    obtain rfl := dI_ok h14
    obtain rfl := dI_ok h15
    obtain rfl := dI_ok h16
    obtain rfl := dI_ok h17
    obtain rfl := dI_ok h18
    obtain rfl := dI_ok h19
    obtain rfl := dI_ok h20
    obtain rfl := dI_ok h21
    rfl
  · cases h
theorem dctlt_ok {L : Fr} {a : Sctl} (h : dctlt L = some a) : L = ectlt a := by
  unfold dctlt at h
  split at h
  · simp only [Option.bind_eq_some_iff] at h
    obtain ⟨a0, h0, a1, h1, a2, h2, a3, h3, a4, h4, a5, h5, a6, h6, a7, h7, a8, h8, a9, h9, a10, h10, a11, h11, a12, h12, a13, h13, a14, h14, a15, h15, a16, h16, a17, h17, a18, h18, a19, h19, a20, h20, a21, h21, h⟩ := h
    cases h
    obtain rfl := dI_ok h0
    obtain rfl := dI_ok h1
    obtain rfl := dI_ok h2
    obtain rfl := dI_ok h3
    obtain rfl := dI_ok h4
    obtain rfl := dI_ok h5
    obtain rfl := dI_ok h6
    obtain rfl := dI_ok h7
    obtain rfl := dI_ok h8
    obtain rfl := dI_ok h9
    obtain rfl := dI_ok h10
    obtain rfl := dREntry_ok h11
    obtain rfl := dI_ok h12
    obtain rfl := dI_ok h13
    obtain rfl := dI_ok h14
    obtain rfl := dI_ok h15
    obtain rfl := dI_ok h16
    obtain rfl := dI_ok h17
    obtain rfl := dI_ok h18
    obtain rfl := dI_ok h19
    obtain rfl := dI_ok h20
    obtain rfl := dI_ok h21
    rfl
  · cases h
theorem pEntry_ok : ∀ {L : Fr} {xs : List SEntry}, pEntry_ L = some xs → TV.los U L = (xs.map cEntry).flatten
  | [], xs, h => by cases h; rfl
  | [_], xs, h => by cases h
  | y0 :: y1 :: r, xs, h => by
    simp only [pEntry_, Option.bind_eq_some_iff] at h
    obtain ⟨a0, h0, a1, h1, xs', h', h⟩ := h
    cases h
    have ih := pEntry_ok h'
    obtain rfl := dI_ok h0
    obtain rfl := dI_ok h1
    show _ :: _ :: TV.los U r = _
    rw [ih]; rfl
theorem pint_ok : ∀ {L : Fr} {xs : List Int}, pint_ L = some xs → TV.los U L = (xs.map cint).flatten
  | [], xs, h => by cases h; rfl
  | y0 :: r, xs, h => by
    simp only [pint_, Option.bind_eq_some_iff] at h
    obtain ⟨a0, h0, xs', h', h⟩ := h
    cases h
    have ih := pint_ok h'
    obtain rfl := dI_ok h0
    show _ :: TV.los U r = _
    rw [ih]; rfl
theorem UOk : UniOk U where
  get := fun r i => match r with
    | .rEntry xs => by kernel_rfl
    | .rint xs => by kernel_rfl
  app := fun r q x h => by cases r <;> cases q <;> first | (cases h; done) | (cases h; exact ⟨rfl, rfl, List.length_append, (rg_app (c := cEntry) (z := zEntry)).symm⟩) | (cases h; exact ⟨rfl, rfl, List.length_append, (rg_app (c := cint) (z := zint)).symm⟩)
  sub := fun lo n r h => by cases r <;> first | exact ⟨rfl, sub_len h, (rg_sub (c := cEntry) (z := zEntry) h).symm⟩ | exact ⟨rfl, sub_len h, (rg_sub (c := cint) (z := zint) h).symm⟩
  lit := fun t n L r h => by
    unfold U at h
    dsimp only at h
    split at h
    · obtain ⟨xs, h1, rfl, rfl⟩ := bind_lit h
      have e := pEntry_ok h1
      exact ⟨rfl, rfl, by rw [e]; exact (rg_lit (c := cEntry) (sz := 2) (z := zEntry) (fun _ => rfl)).symm, by rw [e]; exact all_flat (fun _ => rfl) xs⟩
    · obtain ⟨xs, h1, rfl, rfl⟩ := bind_lit h
      have e := pint_ok h1
      exact ⟨rfl, rfl, by rw [e]; exact (rg_lit (c := cint) (sz := 1) (z := zint) (fun _ => rfl)).symm, by rw [e]; exact all_flat (fun _ => rfl) xs⟩
    · cases h
theorem ok_reno_size {R : Type} {r : R} : ∀ {n : Nat}, (∀ m, n = m + 1 → CallOk2 (R := R) U (callP capB m) (runF tbl m)) → ∀ {av : Fr} {cs : List Fr} {k : Ret2 RW → Option R}, ca_reno_size capB n av cs k = some r → ∃ q : Ret2 RW, runF tbl n 45 (TV.los U av) (cs.map (TV.los U)) = some (q.lo U) ∧ k q = some r := by
  intro n ih av cs k h
  unfold ca_reno_size at h
  split at h
  · simp only [Option.bind_eq_some_iff] at h
    obtain ⟨p0, h0, h⟩ := h
    obtain rfl := dI_ok h0
    cases n with
    | zero => cases h
    | succ n =>
      exact run2_ok UOk (ih n rfl) (f := fn_reno_size) rfl ((run_reno_size capB n p0 k).symm.trans h)
  · cases h
theorem ok_reno_ctl_plain {R : Type} {r : R} : ∀ {n : Nat}, (∀ m, n = m + 1 → CallOk2 (R := R) U (callP capB m) (runF tbl m)) → ∀ {av : Fr} {cs : List Fr} {k : Ret2 RW → Option R}, ca_reno_ctl_plain capB n av cs k = some r → ∃ q : Ret2 RW, runF tbl n 1006 (TV.los U av) (cs.map (TV.los U)) = some (q.lo U) ∧ k q = some r := by
  intro n ih av cs k h
  unfold ca_reno_ctl_plain at h
  split at h
  · simp only [Option.bind_eq_some_iff] at h
    obtain ⟨u0, h0, q0, i0, h⟩ := h
    obtain rfl := dP_ok h0
    obtain rfl := dT68_ok i0
    cases n with
    | zero => cases h
    | succ n =>
      exact run2_ok UOk (ih n rfl) (f := fn_reno_ctl_plain) rfl ((run_reno_ctl_plain capB n q0 k).symm.trans h)
  · cases h
theorem ok_reno_Check {R : Type} {r : R} : ∀ {n : Nat}, (∀ m, n = m + 1 → CallOk2 (R := R) U (callP capB m) (runF tbl m)) → ∀ {av : Fr} {cs : List Fr} {k : Ret2 RW → Option R}, ca_reno_Check capB n av cs k = some r → ∃ q : Ret2 RW, runF tbl n 32 (TV.los U av) (cs.map (TV.los U)) = some (q.lo U) ∧ k q = some r := by
  intro n ih av cs k h
  unfold ca_reno_Check at h
  split at h
  · simp only [Option.bind_eq_some_iff] at h
    obtain ⟨c0_, h0, p0, g0, h⟩ := h
    obtain rfl := dA_ok h0
    obtain rfl := dCc_ok g0
    cases n with
    | zero => cases h
    | succ n =>
      exact run2_ok UOk (ih n rfl) (f := fn_reno_Check) rfl ((run_reno_Check capB n p0 k).symm.trans h)
  · cases h
theorem ok_cubic_size {R : Type} {r : R} : ∀ {n : Nat}, (∀ m, n = m + 1 → CallOk2 (R := R) U (callP capB m) (runF tbl m)) → ∀ {av : Fr} {cs : List Fr} {k : Ret2 RW → Option R}, ca_cubic_size capB n av cs k = some r → ∃ q : Ret2 RW, runF tbl n 24 (TV.los U av) (cs.map (TV.los U)) = some (q.lo U) ∧ k q = some r := by
  intro n ih av cs k h
  unfold ca_cubic_size at h
  split at h
  · simp only [Option.bind_eq_some_iff] at h
    obtain ⟨p0, h0, h⟩ := h
    obtain rfl := dRint_ok h0
    cases n with
    | zero => cases h
    | succ n =>
      exact run2_ok UOk (ih n rfl) (f := fn_cubic_size) rfl ((run_cubic_size capB n p0 k).symm.trans h)
  · cases h
theorem ok_cubic_Check {R : Type} {r : R} : ∀ {n : Nat}, (∀ m, n = m + 1 → CallOk2 (R := R) U (callP capB m) (runF tbl m)) → ∀ {av : Fr} {cs : List Fr} {k : Ret2 RW → Option R}, ca_cubic_Check capB n av cs k = some r → ∃ q : Ret2 RW, runF tbl n 11 (TV.los U av) (cs.map (TV.los U)) = some (q.lo U) ∧ k q = some r := by
  intro n ih av cs k h
  unfold ca_cubic_Check at h
  split at h
  · simp only [Option.bind_eq_some_iff] at h
    obtain ⟨c0_, h0, p0, g0, h⟩ := h
    obtain rfl := dA_ok h0
    obtain rfl := dCc_ok g0
    cases n with
    | zero => cases h
    | succ n =>
      exact run2_ok UOk (ih n rfl) (f := fn_cubic_Check) rfl ((run_cubic_Check capB n p0 k).symm.trans h)
  · cases h
theorem ok_math_bits_Mul64 {R : Type} {r : R} : ∀ {n : Nat}, (∀ m, n = m + 1 → CallOk2 (R := R) U (callP capB m) (runF tbl m)) → ∀ {av : Fr} {cs : List Fr} {k : Ret2 RW → Option R}, ca_math_bits_Mul64 capB n av cs k = some r → ∃ q : Ret2 RW, runF tbl n 49 (TV.los U av) (cs.map (TV.los U)) = some (q.lo U) ∧ k q = some r := by
  intro n ih av cs k h
  unfold ca_math_bits_Mul64 at h
  split at h
  · simp only [Option.bind_eq_some_iff] at h
    obtain ⟨p0, h0, p1, h1, h⟩ := h
    obtain rfl := dI_ok h0
    obtain rfl := dI_ok h1
    cases n with
    | zero => cases h
    | succ n =>
      exact run2_ok UOk (ih n rfl) (f := fn_math_bits_Mul64) rfl ((run_math_bits_Mul64 capB n p0 p1 k).symm.trans h)
  · cases h
theorem ok_math_bits_Len64 {R : Type} {r : R} : ∀ {n : Nat}, (∀ m, n = m + 1 → CallOk2 (R := R) U (callP capB m) (runF tbl m)) → ∀ {av : Fr} {cs : List Fr} {k : Ret2 RW → Option R}, ca_math_bits_Len64 capB n av cs k = some r → ∃ q : Ret2 RW, runF tbl n 52 (TV.los U av) (cs.map (TV.los U)) = some (q.lo U) ∧ k q = some r := by
  intro n ih av cs k h
  unfold ca_math_bits_Len64 at h
  split at h
  · simp only [Option.bind_eq_some_iff] at h
    obtain ⟨p0, h0, h⟩ := h
    obtain rfl := dI_ok h0
    cases n with
    | zero => cases h
    | succ n =>
      exact run2_ok UOk (ih n rfl) (f := fn_math_bits_Len64) rfl ((run_math_bits_Len64 capB n p0 k).symm.trans h)
  · cases h
theorem ok_math_bits_LeadingZeros64 {R : Type} {r : R} : ∀ {n : Nat}, (∀ m, n = m + 1 → CallOk2 (R := R) U (callP capB m) (runF tbl m)) → ∀ {av : Fr} {cs : List Fr} {k : Ret2 RW → Option R}, ca_math_bits_LeadingZeros64 capB n av cs k = some r → ∃ q : Ret2 RW, runF tbl n 51 (TV.los U av) (cs.map (TV.los U)) = some (q.lo U) ∧ k q = some r := by
  intro n ih av cs k h
  unfold ca_math_bits_LeadingZeros64 at h
  split at h
  · simp only [Option.bind_eq_some_iff] at h
    obtain ⟨p0, h0, h⟩ := h
    obtain rfl := dI_ok h0
    cases n with
    | zero => cases h
    | succ n =>
      exact run2_ok UOk (ih n rfl) (f := fn_math_bits_LeadingZeros64) rfl ((run_math_bits_LeadingZeros64 capB n p0 k).symm.trans h)
  · cases h
theorem ok_math_bits_Div64 {R : Type} {r : R} : ∀ {n : Nat}, (∀ m, n = m + 1 → CallOk2 (R := R) U (callP capB m) (runF tbl m)) → ∀ {av : Fr} {cs : List Fr} {k : Ret2 RW → Option R}, ca_math_bits_Div64 capB n av cs k = some r → ∃ q : Ret2 RW, runF tbl n 50 (TV.los U av) (cs.map (TV.los U)) = some (q.lo U) ∧ k q = some r := by
  intro n ih av cs k h
  unfold ca_math_bits_Div64 at h
  split at h
  · simp only [Option.bind_eq_some_iff] at h
    obtain ⟨p0, h0, p1, h1, p2, h2, h⟩ := h
    obtain rfl := dI_ok h0
    obtain rfl := dI_ok h1
    obtain rfl := dI_ok h2
    cases n with
    | zero => cases h
    | succ n =>
      exact run2_ok UOk (ih n rfl) (f := fn_math_bits_Div64) rfl ((run_math_bits_Div64 capB n p0 p1 p2 k).symm.trans h)
  · cases h
theorem ok_seq_MulDiv {R : Type} {r : R} : ∀ {n : Nat}, (∀ m, n = m + 1 → CallOk2 (R := R) U (callP capB m) (runF tbl m)) → ∀ {av : Fr} {cs : List Fr} {k : Ret2 RW → Option R}, ca_seq_MulDiv capB n av cs k = some r → ∃ q : Ret2 RW, runF tbl n 47 (TV.los U av) (cs.map (TV.los U)) = some (q.lo U) ∧ k q = some r := by
  intro n ih av cs k h
  unfold ca_seq_MulDiv at h
  split at h
  · simp only [Option.bind_eq_some_iff] at h
    obtain ⟨p0, h0, p1, h1, p2, h2, h⟩ := h
    obtain rfl := dI_ok h0
    obtain rfl := dI_ok h1
    obtain rfl := dI_ok h2
    cases n with
    | zero => cases h
    | succ n =>
      exact run2_ok UOk (ih n rfl) (f := fn_seq_MulDiv) rfl ((run_seq_MulDiv capB n p0 p1 p2 k).symm.trans h)
  · cases h
theorem ok_cubic_by {R : Type} {r : R} : ∀ {n : Nat}, (∀ m, n = m + 1 → CallOk2 (R := R) U (callP capB m) (runF tbl m)) → ∀ {av : Fr} {cs : List Fr} {k : Ret2 RW → Option R}, ca_cubic_by capB n av cs k = some r → ∃ q : Ret2 RW, runF tbl n 37 (TV.los U av) (cs.map (TV.los U)) = some (q.lo U) ∧ k q = some r := by
  intro n ih av cs k h
  unfold ca_cubic_by at h
  split at h
  · simp only [Option.bind_eq_some_iff] at h
    obtain ⟨p0, h0, p1, h1, p2, h2, h⟩ := h
    obtain rfl := dI_ok h0
    obtain rfl := dI_ok h1
    obtain rfl := dI_ok h2
    cases n with
    | zero => cases h
    | succ n =>
      exact run2_ok UOk (ih n rfl) (f := fn_cubic_by) rfl ((run_cubic_by capB n p0 p1 p2 k).symm.trans h)
  · cases h
theorem ok_seq_Cbrt {R : Type} {r : R} : ∀ {n : Nat}, (∀ m, n = m + 1 → CallOk2 (R := R) U (callP capB m) (runF tbl m)) → ∀ {av : Fr} {cs : List Fr} {k : Ret2 RW → Option R}, ca_seq_Cbrt capB n av cs k = some r → ∃ q : Ret2 RW, runF tbl n 48 (TV.los U av) (cs.map (TV.los U)) = some (q.lo U) ∧ k q = some r := by
  intro n ih av cs k h
  unfold ca_seq_Cbrt at h
  split at h
  · simp only [Option.bind_eq_some_iff] at h
    obtain ⟨p0, h0, h⟩ := h
    obtain rfl := dI_ok h0
    cases n with
    | zero => cases h
    | succ n =>
      exact run2_ok UOk (ih n rfl) (f := fn_seq_Cbrt) rfl ((run_seq_Cbrt capB n p0 k).symm.trans h)
  · cases h
theorem ok_cubic_ctl_begin {R : Type} {r : R} : ∀ {n : Nat}, (∀ m, n = m + 1 → CallOk2 (R := R) U (callP capB m) (runF tbl m)) → ∀ {av : Fr} {cs : List Fr} {k : Ret2 RW → Option R}, ca_cubic_ctl_begin capB n av cs k = some r → ∃ q : Ret2 RW, runF tbl n 1009 (TV.los U av) (cs.map (TV.los U)) = some (q.lo U) ∧ k q = some r := by
  intro n ih av cs k h
  unfold ca_cubic_ctl_begin at h
  split at h
  · simp only [Option.bind_eq_some_iff] at h
    obtain ⟨u0, h0, p1, h1, q0, i0, h⟩ := h
    obtain rfl := dP_ok h0
    obtain rfl := dI_ok h1
    obtain rfl := dctl_ok i0
    cases n with
    | zero => cases h
    | succ n =>
      exact run2_ok UOk (ih n rfl) (f := fn_cubic_ctl_begin) rfl ((run_cubic_ctl_begin capB n p1 q0 k).symm.trans h)
  · cases h
theorem ok_seq_Sum {R : Type} {r : R} : ∀ {n : Nat}, (∀ m, n = m + 1 → CallOk2 (R := R) U (callP capB m) (runF tbl m)) → ∀ {av : Fr} {cs : List Fr} {k : Ret2 RW → Option R}, ca_seq_Sum capB n av cs k = some r → ∃ q : Ret2 RW, runF tbl n 36 (TV.los U av) (cs.map (TV.los U)) = some (q.lo U) ∧ k q = some r := by
  intro n ih av cs k h
  unfold ca_seq_Sum at h
  split at h
  · simp only [Option.bind_eq_some_iff] at h
    obtain ⟨p0, h0, p1, h1, h⟩ := h
    obtain rfl := dI_ok h0
    obtain rfl := dI_ok h1
    cases n with
    | zero => cases h
    | succ n =>
      exact run2_ok UOk (ih n rfl) (f := fn_seq_Sum) rfl ((run_seq_Sum capB n p0 p1 k).symm.trans h)
  · cases h
theorem ok_seq_Clamp {R : Type} {r : R} : ∀ {n : Nat}, (∀ m, n = m + 1 → CallOk2 (R := R) U (callP capB m) (runF tbl m)) → ∀ {av : Fr} {cs : List Fr} {k : Ret2 RW → Option R}, ca_seq_Clamp capB n av cs k = some r → ∃ q : Ret2 RW, runF tbl n 35 (TV.los U av) (cs.map (TV.los U)) = some (q.lo U) ∧ k q = some r := by
  intro n ih av cs k h
  unfold ca_seq_Clamp at h
  split at h
  · simp only [Option.bind_eq_some_iff] at h
    obtain ⟨p0, h0, p1, h1, p2, h2, h⟩ := h
    obtain rfl := dI_ok h0
    obtain rfl := dI_ok h1
    obtain rfl := dI_ok h2
    cases n with
    | zero => cases h
    | succ n =>
      exact run2_ok UOk (ih n rfl) (f := fn_seq_Clamp) rfl ((run_seq_Clamp capB n p0 p1 p2 k).symm.trans h)
  · cases h
theorem ok_cubic_Curve {R : Type} {r : R} : ∀ {n : Nat}, (∀ m, n = m + 1 → CallOk2 (R := R) U (callP capB m) (runF tbl m)) → ∀ {av : Fr} {cs : List Fr} {k : Ret2 RW → Option R}, ca_cubic_Curve capB n av cs k = some r → ∃ q : Ret2 RW, runF tbl n 13 (TV.los U av) (cs.map (TV.los U)) = some (q.lo U) ∧ k q = some r := by
  intro n ih av cs k h
  unfold ca_cubic_Curve at h
  split at h
  · simp only [Option.bind_eq_some_iff] at h
    obtain ⟨c0_, h0, p0, g0, p1, h1, h⟩ := h
    obtain rfl := dA_ok h0
    obtain rfl := dCc_ok g0
    obtain rfl := dI_ok h1
    cases n with
    | zero => cases h
    | succ n =>
      exact run2_ok UOk (ih n rfl) (f := fn_cubic_Curve) rfl ((run_cubic_Curve capB n p0 p1 k).symm.trans h)
  · cases h
theorem ok_cubic_ctl_grow {R : Type} {r : R} : ∀ {n : Nat}, (∀ m, n = m + 1 → CallOk2 (R := R) U (callP capB m) (runF tbl m)) → ∀ {av : Fr} {cs : List Fr} {k : Ret2 RW → Option R}, ca_cubic_ctl_grow capB n av cs k = some r → ∃ q : Ret2 RW, runF tbl n 1008 (TV.los U av) (cs.map (TV.los U)) = some (q.lo U) ∧ k q = some r := by
  intro n ih av cs k h
  unfold ca_cubic_ctl_grow at h
  split at h
  · simp only [Option.bind_eq_some_iff] at h
    obtain ⟨u0, h0, p1, h1, p2, h2, p3, h3, q0, i0, h⟩ := h
    obtain rfl := dP_ok h0
    obtain rfl := dI_ok h1
    obtain rfl := dI_ok h2
    obtain rfl := dI_ok h3
    obtain rfl := dctl_ok i0
    cases n with
    | zero => cases h
    | succ n =>
      exact run2_ok UOk (ih n rfl) (f := fn_cubic_ctl_grow) rfl ((run_cubic_ctl_grow capB n p1 p2 p3 q0 k).symm.trans h)
  · cases h
theorem ok_cubic_Acked {R : Type} {r : R} : ∀ {n : Nat}, (∀ m, n = m + 1 → CallOk2 (R := R) U (callP capB m) (runF tbl m)) → ∀ {av : Fr} {cs : List Fr} {k : Ret2 RW → Option R}, ca_cubic_Acked capB n av cs k = some r → ∃ q : Ret2 RW, runF tbl n 8 (TV.los U av) (cs.map (TV.los U)) = some (q.lo U) ∧ k q = some r := by
  intro n ih av cs k h
  unfold ca_cubic_Acked at h
  split at h
  · simp only [Option.bind_eq_some_iff] at h
    obtain ⟨c0_, h0, p0, g0, p1, h1, p2, h2, p3, h3, p4, h4, h⟩ := h
    obtain rfl := dA_ok h0
    obtain rfl := dCc_ok g0
    obtain rfl := dI_ok h1
    obtain rfl := dI_ok h2
    obtain rfl := dI_ok h3
    obtain rfl := dB_ok h4
    cases n with
    | zero => cases h
    | succ n =>
      exact run2_ok UOk (ih n rfl) (f := fn_cubic_Acked) rfl ((run_cubic_Acked capB n p0 p1 p2 p3 p4 k).symm.trans h)
  · cases h
theorem ok_cubic_ctl_fall {R : Type} {r : R} : ∀ {n : Nat}, (∀ m, n = m + 1 → CallOk2 (R := R) U (callP capB m) (runF tbl m)) → ∀ {av : Fr} {cs : List Fr} {k : Ret2 RW → Option R}, ca_cubic_ctl_fall capB n av cs k = some r → ∃ q : Ret2 RW, runF tbl n 1022 (TV.los U av) (cs.map (TV.los U)) = some (q.lo U) ∧ k q = some r := by
  intro n ih av cs k h
  unfold ca_cubic_ctl_fall at h
  split at h
  · simp only [Option.bind_eq_some_iff] at h
    obtain ⟨u0, h0, q0, i0, h⟩ := h
    obtain rfl := dP_ok h0
    obtain rfl := dctl_ok i0
    cases n with
    | zero => cases h
    | succ n =>
      exact run2_ok UOk (ih n rfl) (f := fn_cubic_ctl_fall) rfl ((run_cubic_ctl_fall capB n q0 k).symm.trans h)
  · cases h
theorem ok_cubic_moved {R : Type} {r : R} : ∀ {n : Nat}, (∀ m, n = m + 1 → CallOk2 (R := R) U (callP capB m) (runF tbl m)) → ∀ {av : Fr} {cs : List Fr} {k : Ret2 RW → Option R}, ca_cubic_moved capB n av cs k = some r → ∃ q : Ret2 RW, runF tbl n 1021 (TV.los U av) (cs.map (TV.los U)) = some (q.lo U) ∧ k q = some r := by
  intro n ih av cs k h
  unfold ca_cubic_moved at h
  split at h
  · simp only [Option.bind_eq_some_iff] at h
    obtain ⟨c0_, h0, p0, g0, p1, h1, u2, h2, h⟩ := h
    obtain rfl := dA_ok h0
    obtain rfl := dCc_ok g0
    obtain rfl := dI_ok h1
    obtain rfl := dC_ok h2
    cases n with
    | zero => cases h
    | succ n =>
      exact run2_ok UOk (ih n rfl) (f := fn_cubic_moved) rfl ((run_cubic_moved capB n p0 p1 k).symm.trans h)
  · cases h
theorem ok_cubic_Loss {R : Type} {r : R} : ∀ {n : Nat}, (∀ m, n = m + 1 → CallOk2 (R := R) U (callP capB m) (runF tbl m)) → ∀ {av : Fr} {cs : List Fr} {k : Ret2 RW → Option R}, ca_cubic_Loss capB n av cs k = some r → ∃ q : Ret2 RW, runF tbl n 17 (TV.los U av) (cs.map (TV.los U)) = some (q.lo U) ∧ k q = some r := by
  intro n ih av cs k h
  unfold ca_cubic_Loss at h
  split at h
  · simp only [Option.bind_eq_some_iff] at h
    obtain ⟨c0_, h0, p0, g0, p1, h1, h⟩ := h
    obtain rfl := dA_ok h0
    obtain rfl := dCc_ok g0
    obtain rfl := dI_ok h1
    cases n with
    | zero => cases h
    | succ n =>
      exact run2_ok UOk (ih n rfl) (f := fn_cubic_Loss) rfl ((run_cubic_Loss capB n p0 p1 k).symm.trans h)
  · cases h
theorem ok_reno_New {R : Type} {r : R} : ∀ {n : Nat}, (∀ m, n = m + 1 → CallOk2 (R := R) U (callP capB m) (runF tbl m)) → ∀ {av : Fr} {cs : List Fr} {k : Ret2 RW → Option R}, ca_reno_New capB n av cs k = some r → ∃ q : Ret2 RW, runF tbl n 38 (TV.los U av) (cs.map (TV.los U)) = some (q.lo U) ∧ k q = some r := by
  intro n ih av cs k h
  unfold ca_reno_New at h
  split at h
  · simp only [Option.bind_eq_some_iff] at h
    obtain ⟨p0, h0, p1, h1, h⟩ := h
    obtain rfl := dI_ok h0
    obtain rfl := dI_ok h1
    cases n with
    | zero => cases h
    | succ n =>
      exact run2_ok UOk (ih n rfl) (f := fn_reno_New) rfl ((run_reno_New capB n p0 p1 k).symm.trans h)
  · cases h
theorem ok_cubic_New {R : Type} {r : R} : ∀ {n : Nat}, (∀ m, n = m + 1 → CallOk2 (R := R) U (callP capB m) (runF tbl m)) → ∀ {av : Fr} {cs : List Fr} {k : Ret2 RW → Option R}, ca_cubic_New capB n av cs k = some r → ∃ q : Ret2 RW, runF tbl n 16 (TV.los U av) (cs.map (TV.los U)) = some (q.lo U) ∧ k q = some r := by
  intro n ih av cs k h
  unfold ca_cubic_New at h
  split at h
  · simp only [Option.bind_eq_some_iff] at h
    obtain ⟨p0, h0, p1, h1, h⟩ := h
    obtain rfl := dI_ok h0
    obtain rfl := dI_ok h1
    cases n with
    | zero => cases h
    | succ n =>
      exact run2_ok UOk (ih n rfl) (f := fn_cubic_New) rfl ((run_cubic_New capB n p0 p1 k).symm.trans h)
  · cases h
theorem ok_law16_heads {R : Type} {r : R} : ∀ {n : Nat}, (∀ m, n = m + 1 → CallOk2 (R := R) U (callP capB m) (runF tbl m)) → ∀ {av : Fr} {cs : List Fr} {k : Ret2 RW → Option R}, ca_law16_heads capB n av cs k = some r → ∃ q : Ret2 RW, runF tbl n 15 (TV.los U av) (cs.map (TV.los U)) = some (q.lo U) ∧ k q = some r := by
  intro n ih av cs k h
  unfold ca_law16_heads at h
  split at h
  · cases n with
    | zero => cases h
    | succ n =>
      exact run2_ok UOk (ih n rfl) (f := fn_law16_heads) rfl ((run_law16_heads capB n  k).symm.trans h)
  · cases h
theorem ok_cubic_ctl_done {R : Type} {r : R} : ∀ {n : Nat}, (∀ m, n = m + 1 → CallOk2 (R := R) U (callP capB m) (runF tbl m)) → ∀ {av : Fr} {cs : List Fr} {k : Ret2 RW → Option R}, ca_cubic_ctl_done capB n av cs k = some r → ∃ q : Ret2 RW, runF tbl n 1027 (TV.los U av) (cs.map (TV.los U)) = some (q.lo U) ∧ k q = some r := by
  intro n ih av cs k h
  unfold ca_cubic_ctl_done at h
  split at h
  · simp only [Option.bind_eq_some_iff] at h
    obtain ⟨u0, h0, q0, i0, h⟩ := h
    obtain rfl := dP_ok h0
    obtain rfl := dctl_ok i0
    cases n with
    | zero => cases h
    | succ n =>
      exact run2_ok UOk (ih n rfl) (f := fn_cubic_ctl_done) rfl ((run_cubic_ctl_done capB n q0 k).symm.trans h)
  · cases h
theorem ok_cubic_moved_b {R : Type} {r : R} : ∀ {n : Nat}, (∀ m, n = m + 1 → CallOk2 (R := R) U (callP capB m) (runF tbl m)) → ∀ {av : Fr} {cs : List Fr} {k : Ret2 RW → Option R}, ca_cubic_moved_b capB n av cs k = some r → ∃ q : Ret2 RW, runF tbl n 1026 (TV.los U av) (cs.map (TV.los U)) = some (q.lo U) ∧ k q = some r := by
  intro n ih av cs k h
  unfold ca_cubic_moved_b at h
  split at h
  · simp only [Option.bind_eq_some_iff] at h
    obtain ⟨c0_, h0, p0, g0, p1, h1, u2, h2, h⟩ := h
    obtain rfl := dA_ok h0
    obtain rfl := dCc_ok g0
    obtain rfl := dI_ok h1
    obtain rfl := dC_ok h2
    cases n with
    | zero => cases h
    | succ n =>
      exact run2_ok UOk (ih n rfl) (f := fn_cubic_moved_b) rfl ((run_cubic_moved_b capB n p0 p1 k).symm.trans h)
  · cases h
theorem ok_cubic_Done {R : Type} {r : R} : ∀ {n : Nat}, (∀ m, n = m + 1 → CallOk2 (R := R) U (callP capB m) (runF tbl m)) → ∀ {av : Fr} {cs : List Fr} {k : Ret2 RW → Option R}, ca_cubic_Done capB n av cs k = some r → ∃ q : Ret2 RW, runF tbl n 18 (TV.los U av) (cs.map (TV.los U)) = some (q.lo U) ∧ k q = some r := by
  intro n ih av cs k h
  unfold ca_cubic_Done at h
  split at h
  · simp only [Option.bind_eq_some_iff] at h
    obtain ⟨c0_, h0, p0, g0, h⟩ := h
    obtain rfl := dA_ok h0
    obtain rfl := dCc_ok g0
    cases n with
    | zero => cases h
    | succ n =>
      exact run2_ok UOk (ih n rfl) (f := fn_cubic_Done) rfl ((run_cubic_Done capB n p0 k).symm.trans h)
  · cases h
theorem ok_law16_CubicBack {R : Type} {r : R} : ∀ {n : Nat}, (∀ m, n = m + 1 → CallOk2 (R := R) U (callP capB m) (runF tbl m)) → ∀ {av : Fr} {cs : List Fr} {k : Ret2 RW → Option R}, ca_law16_CubicBack capB n av cs k = some r → ∃ q : Ret2 RW, runF tbl n 6 (TV.los U av) (cs.map (TV.los U)) = some (q.lo U) ∧ k q = some r := by
  intro n ih av cs k h
  unfold ca_law16_CubicBack at h
  split at h
  · simp only [Option.bind_eq_some_iff] at h
    obtain ⟨p0, h0, h⟩ := h
    obtain rfl := dI_ok h0
    cases n with
    | zero => cases h
    | succ n =>
      exact run2_ok UOk (ih n rfl) (f := fn_law16_CubicBack) rfl ((run_law16_CubicBack capB n p0 k).symm.trans h)
  · cases h
theorem callOk {R : Type} : ∀ n, CallOk2 (R := R) U (callP capB n) (runF tbl n)
  | n => fun id av cells k r h => by
    have ih : ∀ m, n = m + 1 → CallOk2 (R := R) U (callP capB m) (runF tbl m) := fun m e => callOk m
    unfold callP at h
    split at h
    · exact ok_reno_size ih h
    · exact ok_reno_ctl_plain ih h
    · exact ok_reno_Check ih h
    · exact ok_cubic_size ih h
    · exact ok_cubic_Check ih h
    · exact ok_math_bits_Mul64 ih h
    · exact ok_math_bits_Len64 ih h
    · exact ok_math_bits_LeadingZeros64 ih h
    · exact ok_math_bits_Div64 ih h
    · exact ok_seq_MulDiv ih h
    · exact ok_cubic_by ih h
    · exact ok_seq_Cbrt ih h
    · exact ok_cubic_ctl_begin ih h
    · exact ok_seq_Sum ih h
    · exact ok_seq_Clamp ih h
    · exact ok_cubic_Curve ih h
    · exact ok_cubic_ctl_grow ih h
    · exact ok_cubic_Acked ih h
    · exact ok_cubic_ctl_fall ih h
    · exact ok_cubic_moved ih h
    · exact ok_cubic_Loss ih h
    · exact ok_reno_New ih h
    · exact ok_cubic_New ih h
    · exact ok_law16_heads ih h
    · exact ok_cubic_ctl_done ih h
    · exact ok_cubic_moved_b ih h
    · exact ok_cubic_Done ih h
    · exact ok_law16_CubicBack ih h
    · cases h
termination_by n => n
decreasing_by omega
end
end Go.Proofs.Ytliknmgcnipbkaa.M
