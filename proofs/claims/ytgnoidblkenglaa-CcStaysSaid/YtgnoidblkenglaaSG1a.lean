/- The machine's code of the functions, and that it computes them. -/
import Derived.Test.YtgnoidblkenglaaSG0
import Derived.Test.YtgnoidblkenglaaProg
import Derived.KernelRfl
set_option maxRecDepth 100000
set_option linter.unusedVariables false
set_option linter.unusedSimpArgs false
namespace Go.Proofs.Ytgnoidblkenglaa.M
open Go
noncomputable section
def X {R : Type} (cp : Nat → Nat → Bool) (n : Nat) (c : IC2 RW) (l : FF) (k : Ex → FF → Option R) : Option R := exec2 U cp (callP cp n) n c l k
theorem X_run {R : Type} {cp : Nat → Nat → Bool} {n : Nat} {f : IFn2 RW} {av : Fr} {cells : List Fr} {code : IC2 RW} {fr : FF} {k : Ret2 RW → Option R} (hb : f.body = code) (h : ∀ K : FF → Option R, start2 f av cells K = K fr) : run2 U cp (callP cp n) n f av cells k = X cp n code fr (finK2 f k) := by
  subst hb
  exact h _
def o0 (op : IOp2 RW) : IStep2 RW := ⟨none, op, none, false⟩
def o1 (d : Nat) (op : IOp2 RW) : IStep2 RW := ⟨some d, op, none, false⟩
def o2 (d : Nat) (op : IOp2 RW) : IStep2 RW := ⟨some d, op, none, true⟩
def o3 (d g : Nat) (b : Bool) (op : IOp2 RW) : IStep2 RW := ⟨some d, op, some (g, b), false⟩
def g_reno_New_0 : List (IStep2 RW) := [o1 4 (.alloc 26 [.sc (.int .i64 0), .sc (.int .i64 0), .sc (.int .i64 0), .sc (.int .i64 0), .sc (.int .i64 0), .sc (.int .i64 0), .sc (.int .i64 0), .sc (.int .i64 0), .sc (.int .i64 0), .sc (.int .i64 0), .sc (.int .i64 0), .row true (.rEntry []), .sc (.int .i64 0), .sc (.int .i64 0), .sc (.int .i64 0), .sc (.int .i64 0), .sc (.int .i64 0), .sc (.int .i64 0), .sc (.int .i64 0), .sc (.int .i64 0), .sc (.int .i64 0), .sc (.int .i64 0)]),
  o1 5 (.mv false (.k (.sc (.int .i64 0))))]
def g_reno_New_1 : List (IStep2 RW) := [o1 6 (.mv false (.s 0)),
  o1 7 (.bin .lss (.s 6) (.k (.sc (.int .i64 1)))),
  o2 8 (.mv false (.s 7)),
  o3 9 8 false (.mv false (.s 0)),
  o3 10 8 false (.bin .gtr (.s 9) (.k (.sc (.int .i64 65000)))),
  o1 11 (.pick (.s 8) (.k (.sc (.bool true))) (.s 10)),
  o2 12 (.mv false (.s 11)),
  o3 13 12 false (.mv false (.s 1)),
  o3 14 12 false (.bin .lss (.s 13) (.k (.sc (.int .i64 1)))),
  o1 15 (.pick (.s 12) (.k (.sc (.bool true))) (.s 14)),
  o2 16 (.mv false (.s 15)),
  o3 17 16 false (.mv false (.s 1)),
  o3 18 16 false (.bin .gtr (.s 17) (.k (.sc (.int .i64 100)))),
  o1 19 (.pick (.s 16) (.k (.sc (.bool true))) (.s 18))]
def g_reno_New_2 : List (IStep2 RW) := [o1 20 (.build [.sc (.int .i64 0), .sc (.int .i64 0), .sc (.int .i64 0), .sc (.int .i64 0), .sc (.int .i64 0), .sc (.int .i64 0), .sc (.int .i64 0), .sc (.int .i64 0), .sc (.int .i64 0), .sc (.int .i64 0), .sc (.int .i64 0), .row true (.rEntry []), .sc (.int .i64 0), .sc (.int .i64 0), .sc (.int .i64 0), .sc (.int .i64 0), .sc (.int .i64 0), .sc (.int .i64 0), .sc (.int .i64 0), .sc (.int .i64 0), .sc (.int .i64 0), .sc (.int .i64 0)] []),
  o0 (.store 26 0 22 true 4 (.s 20)),
  o1 5 (.mv false (.k (.sc (.int .i64 2))))]
def g_reno_New_3 : List (IStep2 RW) := [o1 21 (.mv false (.s 0)),
  o1 22 (.mv false (.s 0)),
  o1 23 (.mv false (.s 1)),
  o1 24 (.bin .mul (.s 22) (.s 23)),
  o1 25 (.build [.sc (.int .i64 0), .sc (.int .i64 0), .sc (.int .i64 0), .sc (.int .i64 0), .sc (.int .i64 0), .sc (.int .i64 0), .sc (.int .i64 0), .sc (.int .i64 0), .sc (.int .i64 0), .sc (.int .i64 0), .sc (.int .i64 0), .row true (.rEntry []), .sc (.int .i64 0), .sc (.int .i64 0), .sc (.int .i64 0), .sc (.int .i64 0), .sc (.int .i64 0), .sc (.int .i64 0), .sc (.int .i64 0), .sc (.int .i64 0), .sc (.int .i64 0), .sc (.int .i64 0)] [(0, 1, .k (.sc (.int .i64 1))), (1, 1, .s 21), (2, 1, .s 24), (3, 1, .k (.sc (.int .i64 1073741824)))]),
  o0 (.store 26 0 22 true 4 (.s 25)),
  o1 5 (.mv false (.k (.sc (.int .i64 0))))]
def i_reno_New_0 : IC2 RW := .seq (.fin (.reg g_reno_New_0) [5] []) (.seq (.seq (.fin (.reg g_reno_New_1) [6, 7, 8, 9, 10, 11, 12, 13, 14, 15, 16, 17, 18] []) (.fin (.cond (.s 19) (.seq (.fin (.reg g_reno_New_2) [0, 1, 19, 20] []) (.ret)) (.skip)) [19] [])) (.seq (.fin (.reg g_reno_New_3) [0, 1, 21, 22, 23, 24, 25] []) (.ret)))
def fn_reno_New : IFn2 RW := ⟨22, 2, 26, 64, [(26, 22)], [], [], [.cell 4 26 22 true, .slot 5], i_reno_New_0⟩
def g_cubic_New_0 : List (IStep2 RW) := [o1 4 (.alloc 20 [.sc (.int .i64 0), .sc (.int .i64 0), .sc (.int .i64 0), .sc (.int .i64 0), .sc (.int .i64 0), .sc (.int .i64 0), .sc (.int .i64 0), .sc (.int .i64 0), .sc (.int .i64 0), .sc (.int .i64 0), .sc (.int .i64 0), .row true (.rEntry []), .sc (.int .i64 0), .sc (.int .i64 0), .sc (.int .i64 0), .sc (.int .i64 0), .sc (.int .i64 0), .sc (.int .i64 0), .sc (.int .i64 0), .sc (.int .i64 0), .sc (.int .i64 0), .sc (.int .i64 0)]),
  o1 5 (.mv false (.k (.sc (.int .i64 0))))]
def g_cubic_New_1 : List (IStep2 RW) := [o1 9 (.mv false (.s 0)),
  o1 10 (.mv false (.s 1)),
  o1 11 (.call 22 [(false, .s 9), (false, .s 10)] [] []),
  o1 8 (.mv true (.s 11)),
  o1 12 (.ext true 0 (.s 8)),
  o1 13 (.ext true 1 (.s 8)),
  o1 6 (.alloc 43 [.sc (.int .i64 0), .sc (.int .i64 0), .sc (.int .i64 0), .sc (.int .i64 0), .sc (.int .i64 0), .sc (.int .i64 0), .sc (.int .i64 0), .sc (.int .i64 0), .sc (.int .i64 0), .sc (.int .i64 0), .sc (.int .i64 0), .row true (.rEntry []), .sc (.int .i64 0), .sc (.int .i64 0), .sc (.int .i64 0), .sc (.int .i64 0), .sc (.int .i64 0), .sc (.int .i64 0), .sc (.int .i64 0), .sc (.int .i64 0), .sc (.int .i64 0), .sc (.int .i64 0)]),
  o0 (.store 43 0 22 true 6 (.s 12)),
  o1 7 (.mv false (.s 13))]
def g_cubic_New_2 : List (IStep2 RW) := [o1 14 (.mv false (.s 7)),
  o1 15 (.bin .eql (.s 14) (.k (.sc (.int .i64 0))))]
def g_cubic_New_3 : List (IStep2 RW) := [o1 16 (.fld 0 (.s 6)),
  o0 (.store 43 0 1 false 16 (.k (.sc (.int .i64 2)))),
  o1 17 (.fld 6 (.s 6)),
  o0 (.store 43 6 1 false 17 (.k (.sc (.int .i64 (-1)))))]
def g_cubic_New_4 : List (IStep2 RW) := [o1 18 (.load 43 0 22 true true 6),
  o1 19 (.mv false (.s 7)),
  o0 (.store 20 0 22 true 4 (.s 18)),
  o1 5 (.mv false (.s 19))]
def i_cubic_New_0 : IC2 RW := .seq (.fin (.reg g_cubic_New_0) [5] []) (.seq (.fin (.reg g_cubic_New_1) [0, 1, 8, 9, 10, 11, 12, 13] []) (.seq (.seq (.fin (.reg g_cubic_New_2) [14] []) (.fin (.cond (.s 15) (.fin (.reg g_cubic_New_3) [15, 16, 17] []) (.skip)) [15] [])) (.seq (.fin (.reg g_cubic_New_4) [6, 7, 18, 19] [(43, 22)]) (.ret))))
def fn_cubic_New : IFn2 RW := ⟨23, 2, 20, 80, [(20, 22), (43, 22)], [], [], [.cell 4 20 22 true, .slot 5], i_cubic_New_0⟩
def g_bbr_New_0 : List (IStep2 RW) := [o1 4 (.alloc 20 [.sc (.int .i64 0), .sc (.int .i64 0), .sc (.int .i64 0), .sc (.int .i64 0), .sc (.int .i64 0), .sc (.int .i64 0), .sc (.int .i64 0), .sc (.int .i64 0), .sc (.int .i64 0), .sc (.int .i64 0), .sc (.int .i64 0), .row true (.rEntry []), .sc (.int .i64 0), .sc (.int .i64 0), .sc (.int .i64 0), .sc (.int .i64 0), .sc (.int .i64 0), .sc (.int .i64 0), .sc (.int .i64 0), .sc (.int .i64 0), .sc (.int .i64 0), .sc (.int .i64 0)]),
  o1 5 (.mv false (.k (.sc (.int .i64 0))))]
def g_bbr_New_1 : List (IStep2 RW) := [o1 9 (.mv false (.s 0)),
  o1 10 (.mv false (.s 1)),
  o1 11 (.call 22 [(false, .s 9), (false, .s 10)] [] []),
  o1 8 (.mv true (.s 11)),
  o1 12 (.ext true 0 (.s 8)),
  o1 13 (.ext true 1 (.s 8)),
  o1 6 (.alloc 43 [.sc (.int .i64 0), .sc (.int .i64 0), .sc (.int .i64 0), .sc (.int .i64 0), .sc (.int .i64 0), .sc (.int .i64 0), .sc (.int .i64 0), .sc (.int .i64 0), .sc (.int .i64 0), .sc (.int .i64 0), .sc (.int .i64 0), .row true (.rEntry []), .sc (.int .i64 0), .sc (.int .i64 0), .sc (.int .i64 0), .sc (.int .i64 0), .sc (.int .i64 0), .sc (.int .i64 0), .sc (.int .i64 0), .sc (.int .i64 0), .sc (.int .i64 0), .sc (.int .i64 0)]),
  o0 (.store 43 0 22 true 6 (.s 12)),
  o1 7 (.mv false (.s 13))]
def g_bbr_New_2 : List (IStep2 RW) := [o1 14 (.mv false (.s 7)),
  o1 15 (.bin .eql (.s 14) (.k (.sc (.int .i64 0))))]
def g_bbr_New_3 : List (IStep2 RW) := [o1 16 (.fld 0 (.s 6)),
  o0 (.store 43 0 1 false 16 (.k (.sc (.int .i64 3)))),
  o1 17 (.fld 10 (.s 6)),
  o0 (.store 43 10 1 false 17 (.k (.sc (.int .i64 1))))]
def g_bbr_New_4 : List (IStep2 RW) := [o1 18 (.load 43 0 22 true true 6),
  o1 19 (.mv false (.s 7)),
  o0 (.store 20 0 22 true 4 (.s 18)),
  o1 5 (.mv false (.s 19))]
def i_bbr_New_0 : IC2 RW := .seq (.fin (.reg g_bbr_New_0) [5] []) (.seq (.fin (.reg g_bbr_New_1) [0, 1, 8, 9, 10, 11, 12, 13] []) (.seq (.seq (.fin (.reg g_bbr_New_2) [14] []) (.fin (.cond (.s 15) (.fin (.reg g_bbr_New_3) [15, 16, 17] []) (.skip)) [15] [])) (.seq (.fin (.reg g_bbr_New_4) [6, 7, 18, 19] [(43, 22)]) (.ret))))
def fn_bbr_New : IFn2 RW := ⟨24, 2, 20, 80, [(20, 22), (43, 22)], [], [], [.cell 4 20 22 true, .slot 5], i_bbr_New_0⟩
def g_cc_New_0 : List (IStep2 RW) := [o1 6 (.alloc 31 [.sc (.int .i64 0), .sc (.int .i64 0), .sc (.int .i64 0), .sc (.int .i64 0), .sc (.int .i64 0), .sc (.int .i64 0), .sc (.int .i64 0), .sc (.int .i64 0), .sc (.int .i64 0), .sc (.int .i64 0), .sc (.int .i64 0), .row true (.rEntry []), .sc (.int .i64 0), .sc (.int .i64 0), .sc (.int .i64 0), .sc (.int .i64 0), .sc (.int .i64 0), .sc (.int .i64 0), .sc (.int .i64 0), .sc (.int .i64 0), .sc (.int .i64 0), .sc (.int .i64 0)]),
  o1 7 (.mv false (.k (.sc (.int .i64 0))))]
def g_cc_New_1 : List (IStep2 RW) := [o1 8 (.mv false (.s 0))]
def g_cc_New_2 : List (IStep2 RW) := [o1 10 (.bin .eql (.s 8) (.k (.sc (.int .i64 1)))),
  o1 9 (.mv false (.s 10))]
def g_cc_New_3 : List (IStep2 RW) := [o1 11 (.mv false (.s 1)),
  o1 12 (.mv false (.s 2)),
  o1 13 (.call 22 [(false, .s 11), (false, .s 12)] [] []),
  o1 14 (.ext true 0 (.s 13)),
  o1 15 (.ext true 1 (.s 13)),
  o0 (.store 31 0 22 true 6 (.s 14)),
  o1 7 (.mv false (.s 15))]
def g_cc_New_4 : List (IStep2 RW) := [o1 17 (.bin .eql (.s 8) (.k (.sc (.int .i64 2)))),
  o1 16 (.mv false (.s 17))]
def g_cc_New_5 : List (IStep2 RW) := [o1 18 (.mv false (.s 1)),
  o1 19 (.mv false (.s 2)),
  o1 20 (.call 23 [(false, .s 18), (false, .s 19)] [] []),
  o1 21 (.ext true 0 (.s 20)),
  o1 22 (.ext true 1 (.s 20)),
  o0 (.store 31 0 22 true 6 (.s 21)),
  o1 7 (.mv false (.s 22))]
def g_cc_New_6 : List (IStep2 RW) := [o1 24 (.bin .eql (.s 8) (.k (.sc (.int .i64 3)))),
  o1 23 (.mv false (.s 24))]
def g_cc_New_7 : List (IStep2 RW) := [o1 25 (.mv false (.s 1)),
  o1 26 (.mv false (.s 2)),
  o1 27 (.call 24 [(false, .s 25), (false, .s 26)] [] []),
  o1 28 (.ext true 0 (.s 27)),
  o1 29 (.ext true 1 (.s 27)),
  o0 (.store 31 0 22 true 6 (.s 28)),
  o1 7 (.mv false (.s 29))]
def g_cc_New_8 : List (IStep2 RW) := [o1 30 (.build [.sc (.int .i64 0), .sc (.int .i64 0), .sc (.int .i64 0), .sc (.int .i64 0), .sc (.int .i64 0), .sc (.int .i64 0), .sc (.int .i64 0), .sc (.int .i64 0), .sc (.int .i64 0), .sc (.int .i64 0), .sc (.int .i64 0), .row true (.rEntry []), .sc (.int .i64 0), .sc (.int .i64 0), .sc (.int .i64 0), .sc (.int .i64 0), .sc (.int .i64 0), .sc (.int .i64 0), .sc (.int .i64 0), .sc (.int .i64 0), .sc (.int .i64 0), .sc (.int .i64 0)] []),
  o0 (.store 31 0 22 true 6 (.s 30)),
  o1 7 (.mv false (.k (.sc (.int .i64 2))))]
def i_cc_New_0 : IC2 RW := .seq (.fin (.reg g_cc_New_0) [7] []) (.seq (.seq (.fin (.reg g_cc_New_1) [0] []) (.blk 0 (.seq (.fin (.reg g_cc_New_2) [10] []) (.cond (.s 9) (.seq (.fin (.reg g_cc_New_3) [1, 2, 8, 9, 11, 12, 13, 14, 15] []) (.ret)) (.seq (.fin (.reg g_cc_New_4) [9, 17] []) (.cond (.s 16) (.seq (.fin (.reg g_cc_New_5) [1, 2, 8, 16, 18, 19, 20, 21, 22] []) (.ret)) (.seq (.fin (.reg g_cc_New_6) [8, 16, 24] []) (.fin (.cond (.s 23) (.seq (.fin (.reg g_cc_New_7) [1, 2, 23, 25, 26, 27, 28, 29] []) (.ret)) (.skip)) [1, 2, 23] [])))))))) (.seq (.fin (.reg g_cc_New_8) [30] []) (.ret)))
def fn_cc_New : IFn2 RW := ⟨7, 3, 31, 64, [(31, 22)], [], [], [.cell 6 31 22 true, .slot 7], i_cc_New_0⟩
def g_cc_time_0 : List (IStep2 RW) := [o1 2 (.mv false (.k (.sc (.bool false))))]
def g_cc_time_1 : List (IStep2 RW) := [o1 3 (.mv false (.s 0)),
  o1 4 (.bin .geq (.s 3) (.k (.sc (.int .i64 0)))),
  o2 5 (.mv false (.s 4)),
  o3 6 5 true (.mv false (.s 0)),
  o3 7 5 true (.bin .leq (.s 6) (.k (.sc (.int .i64 1125899906842624)))),
  o1 8 (.pick (.s 5) (.s 7) (.k (.sc (.bool false)))),
  o1 2 (.mv false (.s 8))]
def i_cc_time_0 : IC2 RW := .seq (.fin (.reg g_cc_time_0) [2] []) (.seq (.fin (.reg g_cc_time_1) [0, 3, 4, 5, 6, 7, 8] []) (.ret))
def fn_cc_time : IFn2 RW := ⟨32, 1, 9, 16, [], [], [], [.slot 2], i_cc_time_0⟩
def g_cc_size_0 : List (IStep2 RW) := [o1 2 (.mv false (.k (.sc (.bool false))))]
def g_cc_size_1 : List (IStep2 RW) := [o1 3 (.mv false (.s 0)),
  o1 4 (.bin .geq (.s 3) (.k (.sc (.int .i64 0)))),
  o2 5 (.mv false (.s 4)),
  o3 6 5 true (.mv false (.s 0)),
  o3 7 5 true (.bin .leq (.s 6) (.k (.sc (.int .i64 1073741824)))),
  o1 8 (.pick (.s 5) (.s 7) (.k (.sc (.bool false)))),
  o1 2 (.mv false (.s 8))]
def i_cc_size_0 : IC2 RW := .seq (.fin (.reg g_cc_size_0) [2] []) (.seq (.fin (.reg g_cc_size_1) [0, 3, 4, 5, 6, 7, 8] []) (.ret))
def fn_cc_size : IFn2 RW := ⟨33, 1, 9, 16, [], [], [], [.slot 2], i_cc_size_0⟩
def g_reno_size_0 : List (IStep2 RW) := [o1 2 (.mv false (.k (.sc (.bool false))))]
def g_reno_size_1 : List (IStep2 RW) := [o1 3 (.mv false (.s 0)),
  o1 4 (.bin .geq (.s 3) (.k (.sc (.int .i64 0)))),
  o2 5 (.mv false (.s 4)),
  o3 6 5 true (.mv false (.s 0)),
  o3 7 5 true (.bin .leq (.s 6) (.k (.sc (.int .i64 1073741824)))),
  o1 8 (.pick (.s 5) (.s 7) (.k (.sc (.bool false)))),
  o1 2 (.mv false (.s 8))]
def i_reno_size_0 : IC2 RW := .seq (.fin (.reg g_reno_size_0) [2] []) (.seq (.fin (.reg g_reno_size_1) [0, 3, 4, 5, 6, 7, 8] []) (.ret))
def fn_reno_size : IFn2 RW := ⟨51, 1, 9, 16, [], [], [], [.slot 2], i_reno_size_0⟩
def g_reno_ctl_plain_1 : List (IStep2 RW) := [o1 3 (.mv false (.s 0)),
  o1 4 (.nil (.s 3)),
  o1 5 (.fld 0 (.s 4)),
  o1 6 (.fld 5 (.s 5)),
  o1 7 (.load 138 5 1 false false 6),
  o1 8 (.bin .eql (.s 7) (.k (.sc (.int .i64 0)))),
  o2 9 (.mv false (.s 8)),
  o3 10 9 true (.mv false (.s 0)),
  o3 11 9 true (.nil (.s 10)),
  o3 12 9 true (.fld 0 (.s 11)),
  o3 13 9 true (.fld 6 (.s 12)),
  o3 14 9 true (.load 138 6 1 false false 13),
  o3 15 9 true (.bin .eql (.s 14) (.k (.sc (.int .i64 0)))),
  o1 16 (.pick (.s 9) (.s 15) (.k (.sc (.bool false)))),
  o2 17 (.mv false (.s 16)),
  o3 18 17 true (.mv false (.s 0)),
  o3 19 17 true (.nil (.s 18)),
  o3 20 17 true (.fld 0 (.s 19)),
  o3 21 17 true (.fld 7 (.s 20)),
  o3 22 17 true (.load 138 7 1 false false 21),
  o3 23 17 true (.bin .eql (.s 22) (.k (.sc (.int .i64 0)))),
  o1 24 (.pick (.s 17) (.s 23) (.k (.sc (.bool false)))),
  o2 25 (.mv false (.s 24)),
  o3 26 25 true (.mv false (.s 0)),
  o3 27 25 true (.nil (.s 26)),
  o3 28 25 true (.fld 0 (.s 27)),
  o3 29 25 true (.fld 8 (.s 28)),
  o3 30 25 true (.load 138 8 1 false false 29),
  o3 31 25 true (.bin .eql (.s 30) (.k (.sc (.int .i64 0)))),
  o1 32 (.pick (.s 25) (.s 31) (.k (.sc (.bool false)))),
  o2 33 (.mv false (.s 32)),
  o3 34 33 true (.mv false (.s 0)),
  o3 35 33 true (.nil (.s 34)),
  o3 36 33 true (.fld 0 (.s 35)),
  o3 37 33 true (.fld 9 (.s 36)),
  o3 38 33 true (.load 138 9 1 false false 37),
  o3 39 33 true (.bin .eql (.s 38) (.k (.sc (.int .i64 0)))),
  o1 40 (.pick (.s 33) (.s 39) (.k (.sc (.bool false)))),
  o2 41 (.mv false (.s 40)),
  o3 42 41 true (.mv false (.s 0)),
  o3 43 41 true (.nil (.s 42)),
  o3 44 41 true (.fld 0 (.s 43)),
  o3 45 41 true (.fld 10 (.s 44)),
  o3 46 41 true (.load 138 10 1 false false 45),
  o3 47 41 true (.bin .eql (.s 46) (.k (.sc (.int .i64 0)))),
  o1 48 (.pick (.s 41) (.s 47) (.k (.sc (.bool false)))),
  o2 49 (.mv false (.s 48)),
  o3 50 49 true (.mv false (.s 0)),
  o3 51 49 true (.nil (.s 50)),
  o3 52 49 true (.fld 0 (.s 51)),
  o3 53 49 true (.fld 11 (.s 52)),
  o3 54 49 true (.load 138 11 1 false false 53),
  o3 55 49 true (.len false (.s 54)),
  o3 56 49 true (.bin .eql (.s 55) (.k (.sc (.int .i64 0)))),
  o1 57 (.pick (.s 49) (.s 56) (.k (.sc (.bool false)))),
  o2 58 (.mv false (.s 57)),
  o3 59 58 true (.mv false (.s 0)),
  o3 60 58 true (.nil (.s 59)),
  o3 61 58 true (.fld 0 (.s 60)),
  o3 62 58 true (.fld 12 (.s 61)),
  o3 63 58 true (.load 138 12 1 false false 62),
  o3 64 58 true (.bin .eql (.s 63) (.k (.sc (.int .i64 0)))),
  o1 65 (.pick (.s 58) (.s 64) (.k (.sc (.bool false)))),
  o2 66 (.mv false (.s 65)),
  o3 67 66 true (.mv false (.s 0)),
  o3 68 66 true (.nil (.s 67)),
  o3 69 66 true (.fld 0 (.s 68)),
  o3 70 66 true (.fld 13 (.s 69)),
  o3 71 66 true (.load 138 13 1 false false 70),
  o3 72 66 true (.bin .eql (.s 71) (.k (.sc (.int .i64 0)))),
  o1 73 (.pick (.s 66) (.s 72) (.k (.sc (.bool false)))),
  o2 74 (.mv false (.s 73)),
  o3 75 74 true (.mv false (.s 0)),
  o3 76 74 true (.nil (.s 75)),
  o3 77 74 true (.fld 0 (.s 76)),
  o3 78 74 true (.fld 14 (.s 77)),
  o3 79 74 true (.load 138 14 1 false false 78),
  o3 80 74 true (.bin .eql (.s 79) (.k (.sc (.int .i64 0)))),
  o1 81 (.pick (.s 74) (.s 80) (.k (.sc (.bool false)))),
  o2 82 (.mv false (.s 81)),
  o3 83 82 true (.mv false (.s 0)),
  o3 84 82 true (.nil (.s 83)),
  o3 85 82 true (.fld 0 (.s 84)),
  o3 86 82 true (.fld 15 (.s 85)),
  o3 87 82 true (.load 138 15 1 false false 86),
  o3 88 82 true (.bin .eql (.s 87) (.k (.sc (.int .i64 0)))),
  o1 89 (.pick (.s 82) (.s 88) (.k (.sc (.bool false)))),
  o2 90 (.mv false (.s 89)),
  o3 91 90 true (.mv false (.s 0)),
  o3 92 90 true (.nil (.s 91)),
  o3 93 90 true (.fld 0 (.s 92)),
  o3 94 90 true (.fld 16 (.s 93)),
  o3 95 90 true (.load 138 16 1 false false 94),
  o3 96 90 true (.bin .eql (.s 95) (.k (.sc (.int .i64 0)))),
  o1 97 (.pick (.s 90) (.s 96) (.k (.sc (.bool false)))),
  o2 98 (.mv false (.s 97)),
  o3 99 98 true (.mv false (.s 0)),
  o3 100 98 true (.nil (.s 99)),
  o3 101 98 true (.fld 0 (.s 100)),
  o3 102 98 true (.fld 17 (.s 101)),
  o3 103 98 true (.load 138 17 1 false false 102),
  o3 104 98 true (.bin .eql (.s 103) (.k (.sc (.int .i64 0)))),
  o1 105 (.pick (.s 98) (.s 104) (.k (.sc (.bool false)))),
  o2 106 (.mv false (.s 105)),
  o3 107 106 true (.mv false (.s 0)),
  o3 108 106 true (.nil (.s 107)),
  o3 109 106 true (.fld 0 (.s 108)),
  o3 110 106 true (.fld 18 (.s 109)),
  o3 111 106 true (.load 138 18 1 false false 110),
  o3 112 106 true (.bin .eql (.s 111) (.k (.sc (.int .i64 0)))),
  o1 113 (.pick (.s 106) (.s 112) (.k (.sc (.bool false)))),
  o2 114 (.mv false (.s 113)),
  o3 115 114 true (.mv false (.s 0)),
  o3 116 114 true (.nil (.s 115)),
  o3 117 114 true (.fld 0 (.s 116)),
  o3 118 114 true (.fld 19 (.s 117)),
  o3 119 114 true (.load 138 19 1 false false 118),
  o3 120 114 true (.bin .eql (.s 119) (.k (.sc (.int .i64 0)))),
  o1 121 (.pick (.s 114) (.s 120) (.k (.sc (.bool false)))),
  o2 122 (.mv false (.s 121)),
  o3 123 122 true (.mv false (.s 0)),
  o3 124 122 true (.nil (.s 123)),
  o3 125 122 true (.fld 0 (.s 124)),
  o3 126 122 true (.fld 20 (.s 125)),
  o3 127 122 true (.load 138 20 1 false false 126),
  o3 128 122 true (.bin .eql (.s 127) (.k (.sc (.int .i64 0)))),
  o1 129 (.pick (.s 122) (.s 128) (.k (.sc (.bool false)))),
  o2 130 (.mv false (.s 129)),
  o3 131 130 true (.mv false (.s 0)),
  o3 132 130 true (.nil (.s 131)),
  o3 133 130 true (.fld 0 (.s 132)),
  o3 134 130 true (.fld 21 (.s 133)),
  o3 135 130 true (.load 138 21 1 false false 134),
  o3 136 130 true (.bin .eql (.s 135) (.k (.sc (.int .i64 0)))),
  o1 137 (.pick (.s 130) (.s 136) (.k (.sc (.bool false)))),
  o1 2 (.mv false (.s 137))]
def i_reno_ctl_plain_0 : IC2 RW := .fin (.reg g_reno_ctl_plain_1) [0, 3, 4, 5, 6, 7, 8, 9, 10, 11, 12, 13, 14, 15, 16, 17, 18, 19, 20, 21, 22, 23, 24, 25, 26, 27, 28, 29, 30, 31, 32, 33, 34, 35, 36, 37, 38, 39, 40, 41, 42, 43, 44, 45, 46, 47, 48, 49, 50, 51, 52, 53, 54, 55, 56, 57, 58, 59, 60, 61, 62, 63, 64, 65, 66, 67, 68, 69, 70, 71, 72, 73, 74, 75, 76, 77, 78, 79, 80, 81, 82, 83, 84, 85, 86, 87, 88, 89, 90, 91, 92, 93, 94, 95, 96, 97, 98, 99, 100, 101, 102, 103, 104, 105, 106, 107, 108, 109, 110, 111, 112, 113, 114, 115, 116, 117, 118, 119, 120, 121, 122, 123, 124, 125, 126, 127, 128, 129, 130, 131, 132, 133, 134, 135, 136, 137] []
def i_reno_ctl_plain_1 : IC2 RW := .ret
def i_reno_ctl_plain_2 : IC2 RW := .seq i_reno_ctl_plain_0 i_reno_ctl_plain_1
def g_reno_ctl_plain_0 : List (IStep2 RW) := [o1 2 (.mv false (.k (.sc (.bool false))))]
def i_reno_ctl_plain_3 : IC2 RW := .seq (.fin (.reg g_reno_ctl_plain_0) [2] []) i_reno_ctl_plain_2
def fn_reno_ctl_plain : IFn2 RW := ⟨52, 1, 138, 176, [(138, 22)], [(138, 22)], [], [.slot 2], i_reno_ctl_plain_3⟩
def g_reno_Check_0 : List (IStep2 RW) := [o1 1 (.box 88 22 false (.s 0)),
  o1 2 (.mv false (.k (.sc (.int .i64 0))))]
def g_reno_Check_1 : List (IStep2 RW) := [o1 4 (.load 88 0 22 true false 1),
  o1 5 (.build [.sc (.int .i64 0), .sc (.int .i64 0), .sc (.int .i64 0), .sc (.int .i64 0), .sc (.int .i64 0), .sc (.int .i64 0), .sc (.int .i64 0), .sc (.int .i64 0), .sc (.int .i64 0), .sc (.int .i64 0), .sc (.int .i64 0), .row false (.rEntry []), .sc (.int .i64 0), .sc (.int .i64 0), .sc (.int .i64 0), .sc (.int .i64 0), .sc (.int .i64 0), .sc (.int .i64 0), .sc (.int .i64 0), .sc (.int .i64 0), .sc (.int .i64 0), .sc (.int .i64 0)] [(0, 22, .s 4)]),
  o1 6 (.box 111 22 false (.s 5)),
  o1 3 (.mv false (.s 6))]
def g_reno_Check_2 : List (IStep2 RW) := [o1 7 (.mv false (.s 3)),
  o1 8 (.nil (.s 7)),
  o1 9 (.fld 0 (.s 8)),
  o1 10 (.fld 0 (.s 9)),
  o1 11 (.load 111 0 1 false false 10),
  o1 12 (.bin .neq (.s 11) (.k (.sc (.int .i64 1)))),
  o2 13 (.mv false (.s 12)),
  o3 14 13 false (.mv false (.s 3)),
  o3 15 13 false (.nil (.s 14)),
  o3 16 13 false (.fld 0 (.s 15)),
  o3 17 13 false (.fld 1 (.s 16)),
  o3 18 13 false (.load 111 1 1 false false 17),
  o3 19 13 false (.bin .lss (.s 18) (.k (.sc (.int .i64 1)))),
  o1 20 (.pick (.s 13) (.k (.sc (.bool true))) (.s 19)),
  o2 21 (.mv false (.s 20)),
  o3 22 21 false (.mv false (.s 3)),
  o3 23 21 false (.nil (.s 22)),
  o3 24 21 false (.fld 0 (.s 23)),
  o3 25 21 false (.fld 1 (.s 24)),
  o3 26 21 false (.load 111 1 1 false false 25),
  o3 27 21 false (.bin .gtr (.s 26) (.k (.sc (.int .i64 65000)))),
  o1 28 (.pick (.s 21) (.k (.sc (.bool true))) (.s 27)),
  o2 29 (.mv false (.s 28)),
  o3 30 29 false (.mv false (.s 3)),
  o3 31 29 false (.nil (.s 30)),
  o3 32 29 false (.fld 0 (.s 31)),
  o3 33 29 false (.fld 2 (.s 32)),
  o3 34 29 false (.load 111 2 1 false false 33),
  o3 35 29 false (.mv false (.s 3)),
  o3 36 29 false (.nil (.s 35)),
  o3 37 29 false (.fld 0 (.s 36)),
  o3 38 29 false (.fld 1 (.s 37)),
  o3 39 29 false (.load 111 1 1 false false 38),
  o3 40 29 false (.bin .lss (.s 34) (.s 39)),
  o1 41 (.pick (.s 29) (.k (.sc (.bool true))) (.s 40)),
  o2 42 (.mv false (.s 41)),
  o3 43 42 false (.mv false (.s 3)),
  o3 44 42 false (.nil (.s 43)),
  o3 45 42 false (.fld 0 (.s 44)),
  o3 46 42 false (.fld 2 (.s 45)),
  o3 47 42 false (.load 111 2 1 false false 46),
  o3 48 42 false (.call 51 [(false, .s 47)] [] []),
  o3 49 42 false (.un .not (.s 48)),
  o1 50 (.pick (.s 42) (.k (.sc (.bool true))) (.s 49)),
  o2 51 (.mv false (.s 50)),
  o3 52 51 false (.mv false (.s 3)),
  o3 53 51 false (.nil (.s 52)),
  o3 54 51 false (.fld 0 (.s 53)),
  o3 55 51 false (.fld 3 (.s 54)),
  o3 56 51 false (.load 111 3 1 false false 55),
  o3 57 51 false (.mv false (.s 3)),
  o3 58 51 false (.nil (.s 57)),
  o3 59 51 false (.fld 0 (.s 58)),
  o3 60 51 false (.fld 1 (.s 59)),
  o3 61 51 false (.load 111 1 1 false false 60),
  o3 62 51 false (.bin .mul (.k (.sc (.int .i64 2))) (.s 61)),
  o3 63 51 false (.bin .lss (.s 56) (.s 62)),
  o1 64 (.pick (.s 51) (.k (.sc (.bool true))) (.s 63)),
  o2 65 (.mv false (.s 64)),
  o3 66 65 false (.mv false (.s 3)),
  o3 67 65 false (.nil (.s 66)),
  o3 68 65 false (.fld 0 (.s 67)),
  o3 69 65 false (.fld 3 (.s 68)),
  o3 70 65 false (.load 111 3 1 false false 69),
  o3 71 65 false (.call 51 [(false, .s 70)] [] []),
  o3 72 65 false (.un .not (.s 71)),
  o1 73 (.pick (.s 65) (.k (.sc (.bool true))) (.s 72)),
  o2 74 (.mv false (.s 73)),
  o3 75 74 false (.mv false (.s 3)),
  o3 76 74 false (.nil (.s 75)),
  o3 77 74 false (.fld 0 (.s 76)),
  o3 78 74 false (.fld 4 (.s 77)),
  o3 79 74 false (.load 111 4 1 false false 78),
  o3 80 74 false (.call 51 [(false, .s 79)] [] []),
  o3 81 74 false (.un .not (.s 80)),
  o1 82 (.pick (.s 74) (.k (.sc (.bool true))) (.s 81)),
  o2 83 (.mv false (.s 82)),
  o3 84 83 false (.mv false (.s 3)),
  o3 85 83 false (.ro 1013 [(false, .s 84)] [(111, 22, 138)]),
  o3 86 83 false (.un .not (.s 85)),
  o1 87 (.pick (.s 83) (.k (.sc (.bool true))) (.s 86))]
def g_reno_Check_3 : List (IStep2 RW) := [o1 2 (.mv false (.k (.sc (.int .i64 230))))]
def g_reno_Check_4 : List (IStep2 RW) := [o1 2 (.mv false (.k (.sc (.int .i64 0))))]
def i_reno_Check_0 : IC2 RW := .seq (.fin (.reg g_reno_Check_0) [0, 2] []) (.seq (.fin (.reg g_reno_Check_1) [1, 4, 5, 6] [(88, 22)]) (.seq (.seq (.fin (.reg g_reno_Check_2) [3, 7, 8, 9, 10, 11, 12, 13, 14, 15, 16, 17, 18, 19, 20, 21, 22, 23, 24, 25, 26, 27, 28, 29, 30, 31, 32, 33, 34, 35, 36, 37, 38, 39, 40, 41, 42, 43, 44, 45, 46, 47, 48, 49, 50, 51, 52, 53, 54, 55, 56, 57, 58, 59, 60, 61, 62, 63, 64, 65, 66, 67, 68, 69, 70, 71, 72, 73, 74, 75, 76, 77, 78, 79, 80, 81, 82, 83, 84, 85, 86] [(111, 22)]) (.fin (.cond (.s 87) (.seq (.fin (.reg g_reno_Check_3) [87] []) (.ret)) (.skip)) [87] [])) (.seq (.reg g_reno_Check_4) (.ret))))
def fn_reno_Check : IFn2 RW := ⟨28, 1, 88, 144, [(88, 22), (111, 22)], [], [], [.slot 2], i_reno_Check_0⟩
def g_cubic_size_2 : List (IStep2 RW) := [o1 8 (.bin .lss (.s 7) (.s 6))]
def g_cubic_size_3 : List (IStep2 RW) := [o1 9 (.idx 1 (.s 5) (.s 7)),
  o1 10 (.loade 1 false 9),
  o1 4 (.mv false (.s 10))]
def g_cubic_size_4 : List (IStep2 RW) := [o1 11 (.mv false (.s 4)),
  o1 12 (.bin .lss (.s 11) (.k (.sc (.int .i64 0)))),
  o2 13 (.mv false (.s 12)),
  o3 14 13 false (.mv false (.s 4)),
  o3 15 13 false (.bin .gtr (.s 14) (.k (.sc (.int .i64 1073741824)))),
  o1 16 (.pick (.s 13) (.k (.sc (.bool true))) (.s 15))]
def g_cubic_size_5 : List (IStep2 RW) := [o1 2 (.mv false (.k (.sc (.bool false))))]
def g_cubic_size_6 : List (IStep2 RW) := [o1 17 (.bin .add (.s 7) (.k (.sc (.int .i64 1)))),
  o1 7 (.mv false (.s 17))]
def i_cubic_size_0 : IC2 RW := .seq (.reg g_cubic_size_2) (.seq (.fin (.cond (.s 8) (.skip) (.clr [5, 6, 7, 8] [] (.exit 0))) [8] []) (.seq (.blk 1 (.seq (.fin (.reg g_cubic_size_3) [9, 10] []) (.seq (.fin (.reg g_cubic_size_4) [4, 11, 12, 13, 14, 15] []) (.fin (.cond (.s 16) (.seq (.fin (.reg g_cubic_size_5) [5, 6, 7, 16] []) (.ret)) (.skip)) [16] [])))) (.fin (.reg g_cubic_size_6) [17] [])))
def i_cubic_size_1 : IC2 RW := .loop i_cubic_size_0
def i_cubic_size_2 : IC2 RW := .blk 0 i_cubic_size_1
def g_cubic_size_1 : List (IStep2 RW) := [o1 5 (.mv false (.s 0)),
  o1 6 (.len false (.s 5)),
  o1 7 (.mv false (.k (.sc (.int .i64 0))))]
def i_cubic_size_3 : IC2 RW := .seq (.fin (.reg g_cubic_size_1) [0] []) i_cubic_size_2
def g_cubic_size_7 : List (IStep2 RW) := [o1 2 (.mv false (.k (.sc (.bool true))))]
def i_cubic_size_4 : IC2 RW := .seq (.reg g_cubic_size_7) (.ret)
def i_cubic_size_5 : IC2 RW := .seq i_cubic_size_3 i_cubic_size_4
def g_cubic_size_0 : List (IStep2 RW) := [o1 2 (.mv false (.k (.sc (.bool false))))]
def i_cubic_size_6 : IC2 RW := .seq (.fin (.reg g_cubic_size_0) [2] []) i_cubic_size_5
def fn_cubic_size : IFn2 RW := ⟨53, 1, 18, 32, [], [], [], [.slot 2], i_cubic_size_6⟩
def g_cubic_Check_0 : List (IStep2 RW) := [o1 1 (.box 50 22 false (.s 0)),
  o1 2 (.mv false (.k (.sc (.int .i64 0))))]
def g_cubic_Check_1 : List (IStep2 RW) := [o1 4 (.load 50 0 22 true false 1),
  o1 3 (.alloc 73 [.sc (.int .i64 0), .sc (.int .i64 0), .sc (.int .i64 0), .sc (.int .i64 0), .sc (.int .i64 0), .sc (.int .i64 0), .sc (.int .i64 0), .sc (.int .i64 0), .sc (.int .i64 0), .sc (.int .i64 0), .sc (.int .i64 0), .row false (.rEntry []), .sc (.int .i64 0), .sc (.int .i64 0), .sc (.int .i64 0), .sc (.int .i64 0), .sc (.int .i64 0), .sc (.int .i64 0), .sc (.int .i64 0), .sc (.int .i64 0), .sc (.int .i64 0), .sc (.int .i64 0)]),
  o0 (.store 73 0 22 false 3 (.s 4))]
def g_cubic_Check_2 : List (IStep2 RW) := [o1 5 (.fld 0 (.s 3)),
  o0 (.store 73 0 1 false 5 (.k (.sc (.int .i64 1)))),
  o1 6 (.fld 5 (.s 3)),
  o0 (.store 73 5 1 false 6 (.k (.sc (.int .i64 0)))),
  o1 7 (.fld 6 (.s 3)),
  o0 (.store 73 6 1 false 7 (.k (.sc (.int .i64 0)))),
  o1 8 (.fld 7 (.s 3)),
  o0 (.store 73 7 1 false 8 (.k (.sc (.int .i64 0)))),
  o1 9 (.fld 8 (.s 3)),
  o0 (.store 73 8 1 false 9 (.k (.sc (.int .i64 0)))),
  o1 10 (.fld 9 (.s 3)),
  o0 (.store 73 9 1 false 10 (.k (.sc (.int .i64 0))))]
def g_cubic_Check_3 : List (IStep2 RW) := [o1 11 (.fld 0 (.s 1)),
  o1 12 (.load 50 0 1 false false 11),
  o1 13 (.bin .neq (.s 12) (.k (.sc (.int .i64 2)))),
  o2 14 (.mv false (.s 13)),
  o3 15 14 false (.load 73 0 22 true false 3),
  o3 16 14 false (.call 28 [(false, .s 15)] [] []),
  o3 17 14 false (.bin .neq (.s 16) (.k (.sc (.int .i64 0)))),
  o1 18 (.pick (.s 14) (.k (.sc (.bool true))) (.s 17)),
  o2 19 (.mv false (.s 18)),
  o3 20 19 false (.fld 5 (.s 1)),
  o3 21 19 false (.load 50 5 1 false false 20),
  o3 22 19 false (.fld 8 (.s 1)),
  o3 23 19 false (.load 50 8 1 false false 22),
  o3 24 19 false (.fld 9 (.s 1)),
  o3 25 19 false (.load 50 9 1 false false 24),
  o3 26 19 false (.bslice 3 3 [(0, 1, .s 21), (1, 1, .s 23), (2, 1, .s 25)]),
  o3 27 19 false (.call 53 [(false, .s 26)] [] []),
  o3 28 19 false (.un .not (.s 27)),
  o1 29 (.pick (.s 19) (.k (.sc (.bool true))) (.s 28)),
  o2 30 (.mv false (.s 29)),
  o3 31 30 false (.fld 7 (.s 1)),
  o3 32 30 false (.load 50 7 1 false false 31),
  o3 33 30 false (.bin .lss (.s 32) (.k (.sc (.int .i64 0)))),
  o1 34 (.pick (.s 30) (.k (.sc (.bool true))) (.s 33)),
  o2 35 (.mv false (.s 34)),
  o3 36 35 false (.fld 7 (.s 1)),
  o3 37 35 false (.load 50 7 1 false false 36),
  o3 38 35 false (.bin .gtr (.s 37) (.k (.sc (.int .i64 2097151)))),
  o1 39 (.pick (.s 35) (.k (.sc (.bool true))) (.s 38)),
  o2 40 (.mv false (.s 39)),
  o3 41 40 false (.fld 6 (.s 1)),
  o3 42 40 false (.load 50 6 1 false false 41),
  o3 43 40 false (.bin .lss (.s 42) (.k (.sc (.int .i64 (-1))))),
  o1 44 (.pick (.s 40) (.k (.sc (.bool true))) (.s 43)),
  o2 45 (.mv false (.s 44)),
  o3 46 45 false (.fld 6 (.s 1)),
  o3 47 45 false (.load 50 6 1 false false 46),
  o3 48 45 false (.bin .gtr (.s 47) (.k (.sc (.int .i64 1125899906842624)))),
  o1 49 (.pick (.s 45) (.k (.sc (.bool true))) (.s 48))]
def g_cubic_Check_4 : List (IStep2 RW) := [o1 2 (.mv false (.k (.sc (.int .i64 230))))]
def g_cubic_Check_5 : List (IStep2 RW) := [o1 2 (.mv false (.k (.sc (.int .i64 0))))]
def i_cubic_Check_0 : IC2 RW := .seq (.fin (.reg g_cubic_Check_0) [0, 2] []) (.seq (.fin (.reg g_cubic_Check_1) [4] []) (.seq (.fin (.reg g_cubic_Check_2) [5, 6, 7, 8, 9, 10] []) (.seq (.seq (.fin (.reg g_cubic_Check_3) [1, 3, 11, 12, 13, 14, 15, 16, 17, 18, 19, 20, 21, 22, 23, 24, 25, 26, 27, 28, 29, 30, 31, 32, 33, 34, 35, 36, 37, 38, 39, 40, 41, 42, 43, 44, 45, 46, 47, 48] [(50, 22), (73, 22)]) (.fin (.cond (.s 49) (.seq (.fin (.reg g_cubic_Check_4) [49] []) (.ret)) (.skip)) [49] [])) (.seq (.reg g_cubic_Check_5) (.ret)))))
def fn_cubic_Check : IFn2 RW := ⟨29, 1, 50, 96, [(50, 22), (73, 22)], [], [], [.slot 2], i_cubic_Check_0⟩
def g_bbr_within_2 : List (IStep2 RW) := [o1 10 (.bin .lss (.s 9) (.s 8))]
def g_bbr_within_3 : List (IStep2 RW) := [o1 11 (.idx 1 (.s 7) (.s 9)),
  o1 12 (.loade 1 false 11),
  o1 6 (.mv false (.s 12))]
def g_bbr_within_4 : List (IStep2 RW) := [o1 13 (.mv false (.s 6)),
  o1 14 (.bin .lss (.s 13) (.k (.sc (.int .i64 0)))),
  o2 15 (.mv false (.s 14)),
  o3 16 15 false (.mv false (.s 6)),
  o3 17 15 false (.mv false (.s 0)),
  o3 18 15 false (.bin .gtr (.s 16) (.s 17)),
  o1 19 (.pick (.s 15) (.k (.sc (.bool true))) (.s 18))]
def g_bbr_within_5 : List (IStep2 RW) := [o1 4 (.mv false (.k (.sc (.bool false))))]
def g_bbr_within_6 : List (IStep2 RW) := [o1 20 (.bin .add (.s 9) (.k (.sc (.int .i64 1)))),
  o1 9 (.mv false (.s 20))]
def i_bbr_within_0 : IC2 RW := .seq (.reg g_bbr_within_2) (.seq (.fin (.cond (.s 10) (.skip) (.clr [0, 7, 8, 9, 10] [] (.exit 0))) [10] []) (.seq (.blk 1 (.seq (.fin (.reg g_bbr_within_3) [11, 12] []) (.seq (.fin (.reg g_bbr_within_4) [6, 13, 14, 15, 16, 17, 18] []) (.fin (.cond (.s 19) (.seq (.fin (.reg g_bbr_within_5) [0, 7, 8, 9, 19] []) (.ret)) (.skip)) [19] [])))) (.fin (.reg g_bbr_within_6) [20] [])))
def i_bbr_within_1 : IC2 RW := .loop i_bbr_within_0
def i_bbr_within_2 : IC2 RW := .blk 0 i_bbr_within_1
def g_bbr_within_1 : List (IStep2 RW) := [o1 7 (.mv false (.s 1)),
  o1 8 (.len false (.s 7)),
  o1 9 (.mv false (.k (.sc (.int .i64 0))))]
def i_bbr_within_3 : IC2 RW := .seq (.fin (.reg g_bbr_within_1) [1] []) i_bbr_within_2
def g_bbr_within_7 : List (IStep2 RW) := [o1 4 (.mv false (.k (.sc (.bool true))))]
def i_bbr_within_4 : IC2 RW := .seq (.reg g_bbr_within_7) (.ret)
def i_bbr_within_5 : IC2 RW := .seq i_bbr_within_3 i_bbr_within_4
def g_bbr_within_0 : List (IStep2 RW) := [o1 4 (.mv false (.k (.sc (.bool false))))]
def i_bbr_within_6 : IC2 RW := .seq (.fin (.reg g_bbr_within_0) [4] []) i_bbr_within_5
def fn_bbr_within : IFn2 RW := ⟨54, 2, 21, 32, [], [], [], [.slot 4], i_bbr_within_6⟩
def g_filter_may_0 : List (IStep2 RW) := [o1 1 (.box 21 2 false (.s 0)),
  o1 2 (.mv false (.k (.sc (.bool false))))]
def g_filter_may_1 : List (IStep2 RW) := [o1 3 (.fld 0 (.s 1)),
  o1 4 (.load 21 0 1 false false 3),
  o1 5 (.bin .geq (.s 4) (.k (.sc (.int .i64 0)))),
  o2 6 (.mv false (.s 5)),
  o3 7 6 true (.fld 0 (.s 1)),
  o3 8 6 true (.load 21 0 1 false false 7),
  o3 9 6 true (.bin .leq (.s 8) (.k (.sc (.int .i64 1125899906842624)))),
  o1 10 (.pick (.s 6) (.s 9) (.k (.sc (.bool false)))),
  o2 11 (.mv false (.s 10)),
  o3 12 11 true (.fld 1 (.s 1)),
  o3 13 11 true (.load 21 1 1 false false 12),
  o3 14 11 true (.bin .geq (.s 13) (.k (.sc (.int .i64 0)))),
  o1 15 (.pick (.s 11) (.s 14) (.k (.sc (.bool false)))),
  o2 16 (.mv false (.s 15)),
  o3 17 16 true (.fld 1 (.s 1)),
  o3 18 16 true (.load 21 1 1 false false 17),
  o3 19 16 true (.bin .leq (.s 18) (.k (.sc (.int .i64 1152921504606846976)))),
  o1 20 (.pick (.s 16) (.s 19) (.k (.sc (.bool false)))),
  o1 2 (.mv false (.s 20))]
def i_filter_may_0 : IC2 RW := .seq (.fin (.reg g_filter_may_0) [0, 2] []) (.seq (.fin (.reg g_filter_may_1) [1, 3, 4, 5, 6, 7, 8, 9, 10, 11, 12, 13, 14, 15, 16, 17, 18, 19, 20] [(21, 2)]) (.ret))
def fn_filter_may : IFn2 RW := ⟨92, 1, 21, 32, [(21, 2)], [], [], [.slot 2], i_filter_may_0⟩
def g_filter_beats_0 : List (IStep2 RW) := [o1 6 (.mv false (.k (.sc (.bool false))))]
def g_filter_beats_1 : List (IStep2 RW) := [o1 7 (.mv false (.s 2)),
  o2 8 (.mv false (.s 7)),
  o3 9 8 true (.mv false (.s 0)),
  o3 10 8 true (.mv false (.s 1)),
  o3 11 8 true (.bin .geq (.s 9) (.s 10)),
  o1 12 (.pick (.s 8) (.s 11) (.k (.sc (.bool false)))),
  o2 13 (.mv false (.s 12)),
  o3 14 13 false (.mv false (.s 2)),
  o3 15 13 false (.un .not (.s 14)),
  ⟨some 16, .mv false (.s 15), (some (13, false)), true⟩,
  o3 17 16 true (.mv false (.s 0)),
  o3 18 16 true (.mv false (.s 1)),
  o3 19 16 true (.bin .leq (.s 17) (.s 18)),
  o3 20 13 false (.pick (.s 16) (.s 19) (.k (.sc (.bool false)))),
  o1 21 (.pick (.s 13) (.k (.sc (.bool true))) (.s 20)),
  o1 6 (.mv false (.s 21))]
def i_filter_beats_0 : IC2 RW := .seq (.fin (.reg g_filter_beats_0) [6] []) (.seq (.fin (.reg g_filter_beats_1) [0, 1, 2, 7, 8, 9, 10, 11, 12, 13, 14, 15, 16, 17, 18, 19, 20, 21] []) (.ret))
def fn_filter_beats : IFn2 RW := ⟨93, 3, 22, 32, [], [], [], [.slot 6], i_filter_beats_0⟩
def g_filter_Check_2 : List (IStep2 RW) := [o1 10 (.bin .lss (.s 9) (.s 8))]
def g_filter_Check_3 : List (IStep2 RW) := [o1 11 (.mv false (.s 9)),
  o1 12 (.idx 2 (.s 7) (.s 9)),
  o1 13 (.loade 2 true 12),
  o1 6 (.alloc 45 [.sc (.int .i64 0), .sc (.int .i64 0)]),
  o1 5 (.mv false (.s 11)),
  o0 (.store 45 0 2 false 6 (.s 13))]
def g_filter_Check_4 : List (IStep2 RW) := [o1 14 (.load 45 0 2 true false 6),
  o1 15 (.call 92 [(false, .s 14)] [] []),
  o1 16 (.un .not (.s 15)),
  o2 17 (.mv false (.s 16)),
  o3 18 17 false (.mv false (.s 5)),
  o3 19 17 false (.bin .gtr (.s 18) (.k (.sc (.int .i64 0)))),
  ⟨some 20, .mv false (.s 19), (some (17, false)), true⟩,
  o3 21 20 true (.mv false (.s 0)),
  o3 22 20 true (.mv false (.s 5)),
  o3 23 20 true (.bin .sub (.s 22) (.k (.sc (.int .i64 1)))),
  o3 24 20 true (.idx 2 (.s 21) (.s 23)),
  o3 25 20 true (.fld 0 (.s 24)),
  o3 26 20 true (.loade 1 false 25),
  o3 27 20 true (.fld 0 (.s 6)),
  o3 28 20 true (.load 45 0 1 false false 27),
  o3 29 20 true (.bin .geq (.s 26) (.s 28)),
  ⟨some 30, .mv false (.s 29), (some (20, true)), true⟩,
  o3 31 30 false (.fld 1 (.s 6)),
  o3 32 30 false (.load 45 1 1 false false 31),
  o3 33 30 false (.mv false (.s 0)),
  o3 34 30 false (.mv false (.s 5)),
  o3 35 30 false (.bin .sub (.s 34) (.k (.sc (.int .i64 1)))),
  o3 36 30 false (.idx 2 (.s 33) (.s 35)),
  o3 37 30 false (.fld 1 (.s 36)),
  o3 38 30 false (.loade 1 false 37),
  o3 39 30 false (.mv false (.s 1)),
  o3 40 30 false (.call 93 [(false, .s 32), (false, .s 38), (false, .s 39)] [] []),
  o3 41 20 true (.pick (.s 30) (.k (.sc (.bool true))) (.s 40)),
  o3 42 17 false (.pick (.s 20) (.s 41) (.k (.sc (.bool false)))),
  o1 43 (.pick (.s 17) (.k (.sc (.bool true))) (.s 42))]
def g_filter_Check_5 : List (IStep2 RW) := [o1 4 (.mv false (.k (.sc (.int .i64 2))))]
def g_filter_Check_6 : List (IStep2 RW) := [o1 44 (.bin .add (.s 9) (.k (.sc (.int .i64 1)))),
  o1 9 (.mv false (.s 44))]
def i_filter_Check_0 : IC2 RW := .seq (.reg g_filter_Check_2) (.seq (.fin (.cond (.s 10) (.skip) (.clr [0, 1, 7, 8, 9, 10] [] (.exit 0))) [10] []) (.seq (.blk 1 (.seq (.fin (.reg g_filter_Check_3) [11, 12, 13] []) (.seq (.fin (.reg g_filter_Check_4) [5, 6, 14, 15, 16, 17, 18, 19, 20, 21, 22, 23, 24, 25, 26, 27, 28, 29, 30, 31, 32, 33, 34, 35, 36, 37, 38, 39, 40, 41, 42] [(45, 2)]) (.fin (.cond (.s 43) (.seq (.fin (.reg g_filter_Check_5) [0, 1, 7, 8, 9, 43] []) (.ret)) (.skip)) [43] [])))) (.fin (.reg g_filter_Check_6) [44] [])))
def i_filter_Check_1 : IC2 RW := .loop i_filter_Check_0
def i_filter_Check_2 : IC2 RW := .blk 0 i_filter_Check_1
def g_filter_Check_1 : List (IStep2 RW) := [o1 7 (.mv false (.s 0)),
  o1 8 (.len false (.s 7)),
  o1 9 (.mv false (.k (.sc (.int .i64 0))))]
def i_filter_Check_3 : IC2 RW := .seq (.reg g_filter_Check_1) i_filter_Check_2
def g_filter_Check_7 : List (IStep2 RW) := [o1 4 (.mv false (.k (.sc (.int .i64 0))))]
def i_filter_Check_4 : IC2 RW := .seq (.reg g_filter_Check_7) (.ret)
def i_filter_Check_5 : IC2 RW := .seq i_filter_Check_3 i_filter_Check_4
def g_filter_Check_0 : List (IStep2 RW) := [o1 4 (.mv false (.k (.sc (.int .i64 0))))]
def i_filter_Check_6 : IC2 RW := .seq (.fin (.reg g_filter_Check_0) [4] []) i_filter_Check_5
def fn_filter_Check : IFn2 RW := ⟨76, 2, 45, 48, [(45, 2)], [], [], [.slot 4], i_filter_Check_6⟩
def g_bbr_ctl_entries_4 : List (IStep2 RW) := [o1 19 (.bin .lss (.s 18) (.s 17))]
def g_bbr_ctl_entries_5 : List (IStep2 RW) := [o1 20 (.idx 2 (.s 16) (.s 18)),
  o1 21 (.loade 2 true 20),
  o1 4 (.alloc 59 [.sc (.int .i64 0), .sc (.int .i64 0)]),
  o0 (.store 59 0 2 false 4 (.s 21))]
def g_bbr_ctl_entries_6 : List (IStep2 RW) := [o1 22 (.fld 1 (.s 4)),
  o1 23 (.load 59 1 1 false false 22),
  o1 24 (.bin .gtr (.s 23) (.k (.sc (.int .i64 1099511627776)))),
  o2 25 (.mv false (.s 24)),
  o3 26 25 false (.fld 0 (.s 4)),
  o3 27 25 false (.load 59 0 1 false false 26),
  o3 28 25 false (.mv false (.s 0)),
  o3 29 25 false (.nil (.s 28)),
  o3 30 25 false (.fld 0 (.s 29)),
  o3 31 25 false (.fld 14 (.s 30)),
  o3 32 25 false (.load 36 14 1 false false 31),
  o3 33 25 false (.bin .gtr (.s 27) (.s 32)),
  o1 34 (.pick (.s 25) (.k (.sc (.bool true))) (.s 33))]
def g_bbr_ctl_entries_7 : List (IStep2 RW) := [o1 2 (.mv false (.k (.sc (.bool false))))]
def g_bbr_ctl_entries_8 : List (IStep2 RW) := [o1 35 (.bin .add (.s 18) (.k (.sc (.int .i64 1)))),
  o1 18 (.mv false (.s 35))]
def i_bbr_ctl_entries_0 : IC2 RW := .seq (.reg g_bbr_ctl_entries_4) (.seq (.fin (.cond (.s 19) (.skip) (.clr [0, 16, 17, 18, 19] [] (.exit 0))) [19] []) (.seq (.blk 1 (.seq (.fin (.reg g_bbr_ctl_entries_5) [20, 21] []) (.seq (.fin (.reg g_bbr_ctl_entries_6) [4, 22, 23, 24, 25, 26, 27, 28, 29, 30, 31, 32, 33] [(59, 2)]) (.fin (.cond (.s 34) (.seq (.fin (.reg g_bbr_ctl_entries_7) [0, 16, 17, 18, 34] []) (.ret)) (.skip)) [34] [])))) (.fin (.reg g_bbr_ctl_entries_8) [35] [])))
def i_bbr_ctl_entries_1 : IC2 RW := .loop i_bbr_ctl_entries_0
def i_bbr_ctl_entries_2 : IC2 RW := .blk 0 i_bbr_ctl_entries_1
def g_bbr_ctl_entries_3 : List (IStep2 RW) := [o1 12 (.mv false (.s 0)),
  o1 13 (.nil (.s 12)),
  o1 14 (.fld 0 (.s 13)),
  o1 15 (.fld 11 (.s 14)),
  o1 16 (.load 36 11 1 false false 15),
  o1 17 (.len false (.s 16)),
  o1 18 (.mv false (.k (.sc (.int .i64 0))))]
def i_bbr_ctl_entries_3 : IC2 RW := .seq (.fin (.reg g_bbr_ctl_entries_3) [12, 13, 14, 15] []) i_bbr_ctl_entries_2
def g_bbr_ctl_entries_9 : List (IStep2 RW) := [o1 2 (.mv false (.k (.sc (.bool true))))]
def i_bbr_ctl_entries_4 : IC2 RW := .seq (.reg g_bbr_ctl_entries_9) (.ret)
def i_bbr_ctl_entries_5 : IC2 RW := .seq i_bbr_ctl_entries_3 i_bbr_ctl_entries_4
def g_bbr_ctl_entries_0 : List (IStep2 RW) := [o1 2 (.mv false (.k (.sc (.bool false))))]
def g_bbr_ctl_entries_1 : List (IStep2 RW) := [o1 5 (.mv false (.s 0)),
  o1 6 (.nil (.s 5)),
  o1 7 (.fld 0 (.s 6)),
  o1 8 (.fld 11 (.s 7)),
  o1 9 (.load 36 11 1 false false 8),
  o1 10 (.call 76 [(false, .s 9), (false, .k (.sc (.bool true)))] [] []),
  o1 11 (.bin .neq (.s 10) (.k (.sc (.int .i64 0))))]
def g_bbr_ctl_entries_2 : List (IStep2 RW) := [o1 2 (.mv false (.k (.sc (.bool false))))]
def i_bbr_ctl_entries_6 : IC2 RW := .seq (.fin (.reg g_bbr_ctl_entries_0) [2] []) (.seq (.seq (.fin (.reg g_bbr_ctl_entries_1) [5, 6, 7, 8, 9, 10] []) (.fin (.cond (.s 11) (.seq (.fin (.reg g_bbr_ctl_entries_2) [0, 11] []) (.ret)) (.skip)) [11] [])) i_bbr_ctl_entries_5)
def fn_bbr_ctl_entries : IFn2 RW := ⟨55, 1, 36, 64, [(36, 22), (59, 2)], [(36, 22)], [], [.slot 2], i_bbr_ctl_entries_6⟩
def g_bbr_Check_6 : List (IStep2 RW) := [o1 174 (.mv false (.s 4)),
  o1 175 (.un .not (.s 174)),
  o2 176 (.mv false (.s 175)),
  o3 177 176 false (.mv false (.s 5)),
  o3 178 176 false (.un .not (.s 177)),
  o1 179 (.pick (.s 176) (.k (.sc (.bool true))) (.s 178)),
  o2 180 (.mv false (.s 179)),
  o3 181 180 false (.mv false (.s 6)),
  o3 182 180 false (.un .not (.s 181)),
  o1 183 (.pick (.s 180) (.k (.sc (.bool true))) (.s 182)),
  o2 184 (.mv false (.s 183)),
  o3 185 184 false (.mv false (.s 7)),
  o3 186 184 false (.un .not (.s 185)),
  o1 187 (.pick (.s 184) (.k (.sc (.bool true))) (.s 186)),
  o2 188 (.mv false (.s 187)),
  o3 189 188 false (.mv false (.s 3)),
  o3 190 188 false (.nil (.s 189)),
  o3 191 188 false (.fld 0 (.s 190)),
  o3 192 188 false (.fld 10 (.s 191)),
  o3 193 188 false (.load 232 10 1 false false 192),
  o3 194 188 false (.bin .lss (.s 193) (.k (.sc (.int .i64 1)))),
  o1 195 (.pick (.s 188) (.k (.sc (.bool true))) (.s 194)),
  o2 196 (.mv false (.s 195)),
  o3 197 196 false (.mv false (.s 3)),
  o3 198 196 false (.nil (.s 197)),
  o3 199 196 false (.fld 0 (.s 198)),
  o3 200 196 false (.fld 10 (.s 199)),
  o3 201 196 false (.load 232 10 1 false false 200),
  o3 202 196 false (.bin .gtr (.s 201) (.k (.sc (.int .i64 4)))),
  o1 203 (.pick (.s 196) (.k (.sc (.bool true))) (.s 202)),
  o2 204 (.mv false (.s 203)),
  o3 205 204 false (.mv false (.s 3)),
  o3 206 204 false (.ro 1018 [(false, .s 205)] [(232, 22, 36)]),
  o3 207 204 false (.un .not (.s 206)),
  o1 208 (.pick (.s 204) (.k (.sc (.bool true))) (.s 207))]
def g_bbr_Check_7 : List (IStep2 RW) := [o1 2 (.mv false (.k (.sc (.int .i64 230))))]
def g_bbr_Check_8 : List (IStep2 RW) := [o1 2 (.mv false (.k (.sc (.int .i64 0))))]
def i_bbr_Check_0 : IC2 RW := .seq (.seq (.fin (.reg g_bbr_Check_6) [3, 4, 5, 6, 7, 174, 175, 176, 177, 178, 179, 180, 181, 182, 183, 184, 185, 186, 187, 188, 189, 190, 191, 192, 193, 194, 195, 196, 197, 198, 199, 200, 201, 202, 203, 204, 205, 206, 207] [(232, 22)]) (.fin (.cond (.s 208) (.seq (.fin (.reg g_bbr_Check_7) [208] []) (.ret)) (.skip)) [208] [])) (.seq (.reg g_bbr_Check_8) (.ret))
def g_bbr_Check_5 : List (IStep2 RW) := [o1 140 (.mv false (.s 3)),
  o1 141 (.nil (.s 140)),
  o1 142 (.fld 0 (.s 141)),
  o1 143 (.fld 16 (.s 142)),
  o1 144 (.load 232 16 1 false false 143),
  o1 145 (.bslice 3 1 [(0, 1, .s 144)]),
  o1 146 (.call 54 [(false, .k (.sc (.int .i64 1099511627776))), (false, .s 145)] [] []),
  o2 147 (.mv false (.s 146)),
  o3 148 147 true (.mv false (.s 3)),
  o3 149 147 true (.nil (.s 148)),
  o3 150 147 true (.fld 0 (.s 149)),
  o3 151 147 true (.fld 17 (.s 150)),
  o3 152 147 true (.load 232 17 1 false false 151),
  o3 153 147 true (.bslice 3 1 [(0, 1, .s 152)]),
  o3 154 147 true (.call 54 [(false, .k (.sc (.int .i64 3))), (false, .s 153)] [] []),
  o1 155 (.pick (.s 147) (.s 154) (.k (.sc (.bool false)))),
  o2 156 (.mv false (.s 155)),
  o3 157 156 true (.mv false (.s 3)),
  o3 158 156 true (.nil (.s 157)),
  o3 159 156 true (.fld 0 (.s 158)),
  o3 160 156 true (.fld 18 (.s 159)),
  o3 161 156 true (.load 232 18 1 false false 160),
  o3 162 156 true (.bslice 3 1 [(0, 1, .s 161)]),
  o3 163 156 true (.call 54 [(false, .k (.sc (.int .i64 7))), (false, .s 162)] [] []),
  o1 164 (.pick (.s 156) (.s 163) (.k (.sc (.bool false)))),
  o2 165 (.mv false (.s 164)),
  o3 166 165 true (.mv false (.s 3)),
  o3 167 165 true (.nil (.s 166)),
  o3 168 165 true (.fld 0 (.s 167)),
  o3 169 165 true (.fld 21 (.s 168)),
  o3 170 165 true (.load 232 21 1 false false 169),
  o3 171 165 true (.bslice 3 1 [(0, 1, .s 170)]),
  o3 172 165 true (.call 54 [(false, .k (.sc (.int .i64 1073741824))), (false, .s 171)] [] []),
  o1 173 (.pick (.s 165) (.s 172) (.k (.sc (.bool false)))),
  o1 7 (.mv false (.s 173))]
def i_bbr_Check_1 : IC2 RW := .seq (.fin (.reg g_bbr_Check_5) [140, 141, 142, 143, 144, 145, 146, 147, 148, 149, 150, 151, 152, 153, 154, 155, 156, 157, 158, 159, 160, 161, 162, 163, 164, 165, 166, 167, 168, 169, 170, 171, 172, 173] []) i_bbr_Check_0
def g_bbr_Check_4 : List (IStep2 RW) := [o1 108 (.mv false (.s 3)),
  o1 109 (.nil (.s 108)),
  o1 110 (.fld 0 (.s 109)),
  o1 111 (.fld 12 (.s 110)),
  o1 112 (.load 232 12 1 false false 111),
  o1 113 (.mv false (.s 3)),
  o1 114 (.nil (.s 113)),
  o1 115 (.fld 0 (.s 114)),
  o1 116 (.fld 13 (.s 115)),
  o1 117 (.load 232 13 1 false false 116),
  o1 118 (.mv false (.s 3)),
  o1 119 (.nil (.s 118)),
  o1 120 (.fld 0 (.s 119)),
  o1 121 (.fld 15 (.s 120)),
  o1 122 (.load 232 15 1 false false 121),
  o1 123 (.mv false (.s 3)),
  o1 124 (.nil (.s 123)),
  o1 125 (.fld 0 (.s 124)),
  o1 126 (.fld 19 (.s 125)),
  o1 127 (.load 232 19 1 false false 126),
  o1 128 (.mv false (.s 3)),
  o1 129 (.nil (.s 128)),
  o1 130 (.fld 0 (.s 129)),
  o1 131 (.fld 20 (.s 130)),
  o1 132 (.load 232 20 1 false false 131),
  o1 133 (.mv false (.s 3)),
  o1 134 (.nil (.s 133)),
  o1 135 (.fld 0 (.s 134)),
  o1 136 (.fld 14 (.s 135)),
  o1 137 (.load 232 14 1 false false 136),
  o1 138 (.bslice 3 6 [(0, 1, .s 112), (1, 1, .s 117), (2, 1, .s 122), (3, 1, .s 127), (4, 1, .s 132), (5, 1, .s 137)]),
  o1 139 (.call 54 [(false, .k (.sc (.int .i64 1125899906842624))), (false, .s 138)] [] []),
  o1 6 (.mv false (.s 139))]
def i_bbr_Check_2 : IC2 RW := .seq (.fin (.reg g_bbr_Check_4) [108, 109, 110, 111, 112, 113, 114, 115, 116, 117, 118, 119, 120, 121, 122, 123, 124, 125, 126, 127, 128, 129, 130, 131, 132, 133, 134, 135, 136, 137, 138, 139] []) i_bbr_Check_1
def g_bbr_Check_3 : List (IStep2 RW) := [o1 70 (.mv false (.s 3)),
  o1 71 (.nil (.s 70)),
  o1 72 (.fld 0 (.s 71)),
  o1 73 (.fld 5 (.s 72)),
  o1 74 (.load 232 5 1 false false 73),
  o1 75 (.bin .eql (.s 74) (.k (.sc (.int .i64 0)))),
  o2 76 (.mv false (.s 75)),
  o3 77 76 true (.mv false (.s 3)),
  o3 78 76 true (.nil (.s 77)),
  o3 79 76 true (.fld 0 (.s 78)),
  o3 80 76 true (.fld 6 (.s 79)),
  o3 81 76 true (.load 232 6 1 false false 80),
  o3 82 76 true (.bin .eql (.s 81) (.k (.sc (.int .i64 0)))),
  o1 83 (.pick (.s 76) (.s 82) (.k (.sc (.bool false)))),
  o2 84 (.mv false (.s 83)),
  o3 85 84 true (.mv false (.s 3)),
  o3 86 84 true (.nil (.s 85)),
  o3 87 84 true (.fld 0 (.s 86)),
  o3 88 84 true (.fld 7 (.s 87)),
  o3 89 84 true (.load 232 7 1 false false 88),
  o3 90 84 true (.bin .eql (.s 89) (.k (.sc (.int .i64 0)))),
  o1 91 (.pick (.s 84) (.s 90) (.k (.sc (.bool false)))),
  o2 92 (.mv false (.s 91)),
  o3 93 92 true (.mv false (.s 3)),
  o3 94 92 true (.nil (.s 93)),
  o3 95 92 true (.fld 0 (.s 94)),
  o3 96 92 true (.fld 8 (.s 95)),
  o3 97 92 true (.load 232 8 1 false false 96),
  o3 98 92 true (.bin .eql (.s 97) (.k (.sc (.int .i64 0)))),
  o1 99 (.pick (.s 92) (.s 98) (.k (.sc (.bool false)))),
  o2 100 (.mv false (.s 99)),
  o3 101 100 true (.mv false (.s 3)),
  o3 102 100 true (.nil (.s 101)),
  o3 103 100 true (.fld 0 (.s 102)),
  o3 104 100 true (.fld 9 (.s 103)),
  o3 105 100 true (.load 232 9 1 false false 104),
  o3 106 100 true (.bin .eql (.s 105) (.k (.sc (.int .i64 0)))),
  o1 107 (.pick (.s 100) (.s 106) (.k (.sc (.bool false)))),
  o1 5 (.mv false (.s 107))]
def i_bbr_Check_3 : IC2 RW := .seq (.fin (.reg g_bbr_Check_3) [70, 71, 72, 73, 74, 75, 76, 77, 78, 79, 80, 81, 82, 83, 84, 85, 86, 87, 88, 89, 90, 91, 92, 93, 94, 95, 96, 97, 98, 99, 100, 101, 102, 103, 104, 105, 106, 107] []) i_bbr_Check_2
def g_bbr_Check_2 : List (IStep2 RW) := [o1 11 (.mv false (.s 3)),
  o1 12 (.nil (.s 11)),
  o1 13 (.fld 0 (.s 12)),
  o1 14 (.fld 0 (.s 13)),
  o1 15 (.load 232 0 1 false false 14),
  o1 16 (.bin .eql (.s 15) (.k (.sc (.int .i64 3)))),
  o2 17 (.mv false (.s 16)),
  o3 18 17 true (.mv false (.s 3)),
  o3 19 17 true (.nil (.s 18)),
  o3 20 17 true (.fld 0 (.s 19)),
  o3 21 17 true (.fld 1 (.s 20)),
  o3 22 17 true (.load 232 1 1 false false 21),
  o3 23 17 true (.bin .geq (.s 22) (.k (.sc (.int .i64 1)))),
  o1 24 (.pick (.s 17) (.s 23) (.k (.sc (.bool false)))),
  o2 25 (.mv false (.s 24)),
  o3 26 25 true (.mv false (.s 3)),
  o3 27 25 true (.nil (.s 26)),
  o3 28 25 true (.fld 0 (.s 27)),
  o3 29 25 true (.fld 1 (.s 28)),
  o3 30 25 true (.load 232 1 1 false false 29),
  o3 31 25 true (.bin .leq (.s 30) (.k (.sc (.int .i64 65000)))),
  o1 32 (.pick (.s 25) (.s 31) (.k (.sc (.bool false)))),
  o2 33 (.mv false (.s 32)),
  o3 34 33 true (.mv false (.s 3)),
  o3 35 33 true (.nil (.s 34)),
  o3 36 33 true (.fld 0 (.s 35)),
  o3 37 33 true (.fld 2 (.s 36)),
  o3 38 33 true (.load 232 2 1 false false 37),
  o3 39 33 true (.mv false (.s 3)),
  o3 40 33 true (.nil (.s 39)),
  o3 41 33 true (.fld 0 (.s 40)),
  o3 42 33 true (.fld 1 (.s 41)),
  o3 43 33 true (.load 232 1 1 false false 42),
  o3 44 33 true (.bin .geq (.s 38) (.s 43)),
  o1 45 (.pick (.s 33) (.s 44) (.k (.sc (.bool false)))),
  o2 46 (.mv false (.s 45)),
  o3 47 46 true (.mv false (.s 3)),
  o3 48 46 true (.nil (.s 47)),
  o3 49 46 true (.fld 0 (.s 48)),
  o3 50 46 true (.fld 2 (.s 49)),
  o3 51 46 true (.load 232 2 1 false false 50),
  o3 52 46 true (.bin .leq (.s 51) (.k (.sc (.int .i64 1073741824)))),
  o1 53 (.pick (.s 46) (.s 52) (.k (.sc (.bool false)))),
  o2 54 (.mv false (.s 53)),
  o3 55 54 true (.mv false (.s 3)),
  o3 56 54 true (.nil (.s 55)),
  o3 57 54 true (.fld 0 (.s 56)),
  o3 58 54 true (.fld 3 (.s 57)),
  o3 59 54 true (.load 232 3 1 false false 58),
  o3 60 54 true (.bin .eql (.s 59) (.k (.sc (.int .i64 1073741824)))),
  o1 61 (.pick (.s 54) (.s 60) (.k (.sc (.bool false)))),
  o2 62 (.mv false (.s 61)),
  o3 63 62 true (.mv false (.s 3)),
  o3 64 62 true (.nil (.s 63)),
  o3 65 62 true (.fld 0 (.s 64)),
  o3 66 62 true (.fld 4 (.s 65)),
  o3 67 62 true (.load 232 4 1 false false 66),
  o3 68 62 true (.bin .eql (.s 67) (.k (.sc (.int .i64 0)))),
  o1 69 (.pick (.s 62) (.s 68) (.k (.sc (.bool false)))),
  o1 4 (.mv false (.s 69))]
def i_bbr_Check_4 : IC2 RW := .seq (.fin (.reg g_bbr_Check_2) [11, 12, 13, 14, 15, 16, 17, 18, 19, 20, 21, 22, 23, 24, 25, 26, 27, 28, 29, 30, 31, 32, 33, 34, 35, 36, 37, 38, 39, 40, 41, 42, 43, 44, 45, 46, 47, 48, 49, 50, 51, 52, 53, 54, 55, 56, 57, 58, 59, 60, 61, 62, 63, 64, 65, 66, 67, 68, 69] []) i_bbr_Check_3
def g_bbr_Check_0 : List (IStep2 RW) := [o1 1 (.box 209 22 false (.s 0)),
  o1 2 (.mv false (.k (.sc (.int .i64 0))))]
def g_bbr_Check_1 : List (IStep2 RW) := [o1 8 (.load 209 0 22 true false 1),
  o1 9 (.build [.sc (.int .i64 0), .sc (.int .i64 0), .sc (.int .i64 0), .sc (.int .i64 0), .sc (.int .i64 0), .sc (.int .i64 0), .sc (.int .i64 0), .sc (.int .i64 0), .sc (.int .i64 0), .sc (.int .i64 0), .sc (.int .i64 0), .row false (.rEntry []), .sc (.int .i64 0), .sc (.int .i64 0), .sc (.int .i64 0), .sc (.int .i64 0), .sc (.int .i64 0), .sc (.int .i64 0), .sc (.int .i64 0), .sc (.int .i64 0), .sc (.int .i64 0), .sc (.int .i64 0)] [(0, 22, .s 8)]),
  o1 10 (.box 232 22 false (.s 9)),
  o1 3 (.mv false (.s 10))]
def i_bbr_Check_5 : IC2 RW := .seq (.fin (.reg g_bbr_Check_0) [0, 2] []) (.seq (.fin (.reg g_bbr_Check_1) [1, 8, 9, 10] [(209, 22)]) i_bbr_Check_4)
def fn_bbr_Check : IFn2 RW := ⟨30, 1, 209, 256, [(209, 22), (232, 22)], [], [], [.slot 2], i_bbr_Check_5⟩
def g_cc_Check_0 : List (IStep2 RW) := [o1 1 (.box 15 22 false (.s 0)),
  o1 2 (.mv false (.k (.sc (.int .i64 0))))]
def g_cc_Check_1 : List (IStep2 RW) := [o1 3 (.fld 0 (.s 1)),
  o1 4 (.load 15 0 1 false false 3)]
def g_cc_Check_2 : List (IStep2 RW) := [o1 6 (.bin .eql (.s 4) (.k (.sc (.int .i64 1)))),
  o1 5 (.mv false (.s 6))]
def g_cc_Check_3 : List (IStep2 RW) := [o1 7 (.load 15 0 22 true false 1),
  o1 8 (.call 28 [(false, .s 7)] [] []),
  o1 2 (.mv false (.s 8))]
def g_cc_Check_4 : List (IStep2 RW) := [o1 10 (.bin .eql (.s 4) (.k (.sc (.int .i64 2)))),
  o1 9 (.mv false (.s 10))]
def g_cc_Check_5 : List (IStep2 RW) := [o1 11 (.load 15 0 22 true false 1),
  o1 12 (.call 29 [(false, .s 11)] [] []),
  o1 2 (.mv false (.s 12))]
def g_cc_Check_6 : List (IStep2 RW) := [o1 13 (.load 15 0 22 true false 1),
  o1 14 (.call 30 [(false, .s 13)] [] []),
  o1 2 (.mv false (.s 14))]
def i_cc_Check_0 : IC2 RW := .seq (.fin (.reg g_cc_Check_0) [0, 2] []) (.seq (.seq (.fin (.reg g_cc_Check_1) [3] []) (.blk 0 (.seq (.fin (.reg g_cc_Check_2) [6] []) (.cond (.s 5) (.seq (.fin (.reg g_cc_Check_3) [1, 4, 5, 7, 8] [(15, 22)]) (.ret)) (.seq (.fin (.reg g_cc_Check_4) [4, 5, 10] []) (.fin (.cond (.s 9) (.seq (.fin (.reg g_cc_Check_5) [1, 9, 11, 12] [(15, 22)]) (.ret)) (.skip)) [9] [])))))) (.seq (.fin (.reg g_cc_Check_6) [1, 13, 14] [(15, 22)]) (.ret)))
def fn_cc_Check : IFn2 RW := ⟨10, 1, 15, 48, [(15, 22)], [], [], [.slot 2], i_cc_Check_0⟩
def g_cc_asked_0 : List (IStep2 RW) := [o1 2 (.box 13 22 false (.s 0)),
  o1 4 (.mv false (.k (.sc (.int .i64 0))))]
def g_cc_asked_1 : List (IStep2 RW) := [o1 6 (.load 13 0 22 true false 2),
  o1 7 (.call 10 [(false, .s 6)] [] []),
  o1 5 (.mv false (.s 7))]
def g_cc_asked_2 : List (IStep2 RW) := [o1 8 (.mv false (.s 5)),
  o1 9 (.bin .neq (.s 8) (.k (.sc (.int .i64 0))))]
def g_cc_asked_3 : List (IStep2 RW) := [o1 10 (.mv false (.s 5)),
  o1 4 (.mv false (.s 10))]
def g_cc_asked_4 : List (IStep2 RW) := [o1 11 (.mv false (.s 1)),
  o1 12 (.un .not (.s 11))]
def g_cc_asked_5 : List (IStep2 RW) := [o1 4 (.mv false (.k (.sc (.int .i64 2))))]
def g_cc_asked_6 : List (IStep2 RW) := [o1 4 (.mv false (.k (.sc (.int .i64 0))))]
def i_cc_asked_0 : IC2 RW := .seq (.fin (.reg g_cc_asked_0) [0, 4] []) (.seq (.seq (.fin (.reg g_cc_asked_1) [2, 6, 7] [(13, 22)]) (.seq (.fin (.reg g_cc_asked_2) [8] []) (.fin (.cond (.s 9) (.seq (.fin (.reg g_cc_asked_3) [1, 5, 9, 10] []) (.ret)) (.skip)) [5, 9] []))) (.seq (.seq (.fin (.reg g_cc_asked_4) [1, 11] []) (.fin (.cond (.s 12) (.seq (.fin (.reg g_cc_asked_5) [12] []) (.ret)) (.skip)) [12] [])) (.seq (.reg g_cc_asked_6) (.ret))))
def fn_cc_asked : IFn2 RW := ⟨31, 2, 13, 48, [(13, 22)], [], [], [.slot 4], i_cc_asked_0⟩
def g_cc_Rest_1 : List (IStep2 RW) := [o1 12 (.load 67 0 22 true false 4),
  o1 13 (.mv false (.s 1)),
  o1 14 (.call 32 [(false, .s 13)] [] []),
  o2 15 (.mv false (.s 14)),
  o3 16 15 true (.mv false (.s 2)),
  o3 17 15 true (.call 32 [(false, .s 16)] [] []),
  o1 18 (.pick (.s 15) (.s 17) (.k (.sc (.bool false)))),
  o2 19 (.mv false (.s 18)),
  o3 20 19 true (.mv false (.s 3)),
  o3 21 19 true (.call 33 [(false, .s 20)] [] []),
  o1 22 (.pick (.s 19) (.s 21) (.k (.sc (.bool false)))),
  o1 23 (.call 31 [(false, .s 12), (false, .s 22)] [] []),
  o1 10 (.mv false (.s 23))]
def i_cc_Rest_0 : IC2 RW := .fin (.reg g_cc_Rest_1) [12, 13, 14, 15, 16, 17, 18, 19, 20, 21, 22, 23] []
def g_cc_Rest_2 : List (IStep2 RW) := [o1 24 (.mv false (.s 10)),
  o1 25 (.bin .neq (.s 24) (.k (.sc (.int .i64 0))))]
def g_cc_Rest_3 : List (IStep2 RW) := [o1 26 (.build [.sc (.int .i64 0), .sc (.int .i64 0), .sc (.int .i64 0), .sc (.int .i64 0), .sc (.int .i64 0), .sc (.int .i64 0), .sc (.int .i64 0), .sc (.int .i64 0), .sc (.int .i64 0), .sc (.int .i64 0), .sc (.int .i64 0), .row false (.rEntry []), .sc (.int .i64 0), .sc (.int .i64 0), .sc (.int .i64 0), .sc (.int .i64 0), .sc (.int .i64 0), .sc (.int .i64 0), .sc (.int .i64 0), .sc (.int .i64 0), .sc (.int .i64 0), .sc (.int .i64 0)] []),
  o1 27 (.mv false (.s 10)),
  o0 (.store 90 0 22 true 8 (.s 26)),
  o1 9 (.mv false (.s 27))]
def i_cc_Rest_1 : IC2 RW := .seq (.fin (.reg g_cc_Rest_2) [24] []) (.fin (.cond (.s 25) (.seq (.fin (.reg g_cc_Rest_3) [1, 2, 3, 4, 10, 25, 26, 27] [(67, 22)]) (.ret)) (.skip)) [10, 25] [])
def i_cc_Rest_2 : IC2 RW := .seq i_cc_Rest_0 i_cc_Rest_1
def g_cc_Rest_4 : List (IStep2 RW) := [o1 28 (.fld 0 (.s 4)),
  o1 29 (.load 67 0 1 false false 28),
  o1 30 (.bin .eql (.s 29) (.k (.sc (.int .i64 3)))),
  o2 31 (.mv false (.s 30)),
  o3 32 31 false (.mv false (.s 2)),
  o3 33 31 false (.bin .eql (.s 32) (.k (.sc (.int .i64 0)))),
  o1 34 (.pick (.s 31) (.k (.sc (.bool true))) (.s 33)),
  o2 35 (.mv false (.s 34)),
  o3 36 35 false (.mv false (.s 1)),
  o3 37 35 false (.mv false (.s 2)),
  o3 38 35 false (.bin .leq (.s 36) (.s 37)),
  o1 39 (.pick (.s 35) (.k (.sc (.bool true))) (.s 38))]
def g_cc_Rest_5 : List (IStep2 RW) := [o1 40 (.load 67 0 22 true true 4),
  o0 (.store 90 0 22 true 8 (.s 40)),
  o1 9 (.mv false (.k (.sc (.int .i64 0))))]
def g_cc_Rest_6 : List (IStep2 RW) := [o1 41 (.fld 3 (.s 4)),
  o1 42 (.load 67 3 1 false false 41),
  o1 43 (.fld 2 (.s 4)),
  o1 44 (.load 67 2 1 false false 43),
  o1 45 (.bin .mul (.k (.sc (.int .i64 3))) (.s 44)),
  o1 46 (.bin .quo (.s 45) (.k (.sc (.int .i64 4)))),
  o1 47 (.mnmx true [.s 42, .s 46]),
  o1 48 (.fld 3 (.s 4)),
  o0 (.store 67 3 1 false 48 (.s 47))]
def g_cc_Rest_7 : List (IStep2 RW) := [o1 49 (.fld 2 (.s 4)),
  o1 50 (.load 67 2 1 false false 49),
  o1 51 (.mv false (.s 1)),
  o1 52 (.mv false (.s 2)),
  o1 53 (.bin .quo (.s 51) (.s 52)),
  o1 54 (.mnmx false [.k (.sc (.int .i64 20)), .s 53]),
  o1 55 (.bin .shr (.s 50) (.s 54)),
  o1 11 (.mv false (.s 55))]
def g_cc_Rest_8 : List (IStep2 RW) := [o1 56 (.fld 2 (.s 4)),
  o1 57 (.load 67 2 1 false false 56),
  o1 58 (.mv false (.s 11)),
  o1 59 (.mv false (.s 3)),
  o1 60 (.fld 1 (.s 4)),
  o1 61 (.load 67 1 1 false false 60),
  o1 62 (.bin .mul (.k (.sc (.int .i64 2))) (.s 61)),
  o1 63 (.mnmx true [.s 58, .s 59, .s 62]),
  o1 64 (.mnmx false [.s 57, .s 63]),
  o1 65 (.fld 2 (.s 4)),
  o0 (.store 67 2 1 false 65 (.s 64))]
def g_cc_Rest_9 : List (IStep2 RW) := [o1 66 (.load 67 0 22 true true 4),
  o0 (.store 90 0 22 true 8 (.s 66)),
  o1 9 (.mv false (.k (.sc (.int .i64 0))))]
def i_cc_Rest_3 : IC2 RW := .seq (.seq (.fin (.reg g_cc_Rest_4) [28, 29, 30, 31, 32, 33, 34, 35, 36, 37, 38] []) (.fin (.cond (.s 39) (.seq (.fin (.reg g_cc_Rest_5) [1, 2, 3, 4, 39, 40] [(67, 22)]) (.ret)) (.skip)) [39] [])) (.seq (.fin (.reg g_cc_Rest_6) [41, 42, 43, 44, 45, 46, 47, 48] []) (.seq (.fin (.reg g_cc_Rest_7) [1, 2, 49, 50, 51, 52, 53, 54, 55] []) (.seq (.fin (.reg g_cc_Rest_8) [3, 11, 56, 57, 58, 59, 60, 61, 62, 63, 64, 65] []) (.seq (.fin (.reg g_cc_Rest_9) [4, 66] [(67, 22)]) (.ret)))))
def i_cc_Rest_4 : IC2 RW := .seq i_cc_Rest_2 i_cc_Rest_3
def g_cc_Rest_0 : List (IStep2 RW) := [o1 4 (.box 67 22 true (.s 0)),
  o1 8 (.alloc 90 [.sc (.int .i64 0), .sc (.int .i64 0), .sc (.int .i64 0), .sc (.int .i64 0), .sc (.int .i64 0), .sc (.int .i64 0), .sc (.int .i64 0), .sc (.int .i64 0), .sc (.int .i64 0), .sc (.int .i64 0), .sc (.int .i64 0), .row false (.rEntry []), .sc (.int .i64 0), .sc (.int .i64 0), .sc (.int .i64 0), .sc (.int .i64 0), .sc (.int .i64 0), .sc (.int .i64 0), .sc (.int .i64 0), .sc (.int .i64 0), .sc (.int .i64 0), .sc (.int .i64 0)]),
  o1 9 (.mv false (.k (.sc (.int .i64 0))))]
def i_cc_Rest_5 : IC2 RW := .seq (.fin (.reg g_cc_Rest_0) [0, 9] []) i_cc_Rest_4
def fn_cc_Rest : IFn2 RW := ⟨12, 4, 67, 128, [(67, 22), (90, 22)], [], [], [.cell 8 90 22 true, .slot 9], i_cc_Rest_5⟩
def g_bbr_Gain_0 : List (IStep2 RW) := [o1 1 (.box 32 22 false (.s 0)),
  o1 2 (.mv false (.k (.sc (.int .i64 0))))]
def g_bbr_Gain_1 : List (IStep2 RW) := [o1 3 (.load 32 0 22 true false 1),
  o1 4 (.call 30 [(false, .s 3)] [] []),
  o1 5 (.bin .neq (.s 4) (.k (.sc (.int .i64 0))))]
def g_bbr_Gain_2 : List (IStep2 RW) := [o1 2 (.mv false (.k (.sc (.int .i64 0))))]
def g_bbr_Gain_3 : List (IStep2 RW) := [o1 7 (.fld 10 (.s 1)),
  o1 8 (.load 32 10 1 false false 7),
  o1 9 (.bin .eql (.s 8) (.k (.sc (.int .i64 1)))),
  o1 6 (.mv false (.s 9))]
def g_bbr_Gain_4 : List (IStep2 RW) := [o1 2 (.mv false (.k (.sc (.int .i64 289))))]
def g_bbr_Gain_5 : List (IStep2 RW) := [o1 11 (.fld 10 (.s 1)),
  o1 12 (.load 32 10 1 false false 11),
  o1 13 (.bin .eql (.s 12) (.k (.sc (.int .i64 2)))),
  o1 10 (.mv false (.s 13))]
def g_bbr_Gain_6 : List (IStep2 RW) := [o1 2 (.mv false (.k (.sc (.int .i64 35))))]
def g_bbr_Gain_7 : List (IStep2 RW) := [o1 15 (.fld 10 (.s 1)),
  o1 16 (.load 32 10 1 false false 15),
  o1 17 (.bin .eql (.s 16) (.k (.sc (.int .i64 3)))),
  o2 18 (.mv false (.s 17)),
  o3 19 18 true (.fld 18 (.s 1)),
  o3 20 18 true (.load 32 18 1 false false 19),
  o3 21 18 true (.bin .eql (.s 20) (.k (.sc (.int .i64 0)))),
  o1 22 (.pick (.s 18) (.s 21) (.k (.sc (.bool false)))),
  o1 14 (.mv false (.s 22))]
def g_bbr_Gain_8 : List (IStep2 RW) := [o1 2 (.mv false (.k (.sc (.int .i64 125))))]
def g_bbr_Gain_9 : List (IStep2 RW) := [o1 24 (.fld 10 (.s 1)),
  o1 25 (.load 32 10 1 false false 24),
  o1 26 (.bin .eql (.s 25) (.k (.sc (.int .i64 3)))),
  o2 27 (.mv false (.s 26)),
  o3 28 27 true (.fld 18 (.s 1)),
  o3 29 27 true (.load 32 18 1 false false 28),
  o3 30 27 true (.bin .eql (.s 29) (.k (.sc (.int .i64 1)))),
  o1 31 (.pick (.s 27) (.s 30) (.k (.sc (.bool false)))),
  o1 23 (.mv false (.s 31))]
def g_bbr_Gain_10 : List (IStep2 RW) := [o1 2 (.mv false (.k (.sc (.int .i64 75))))]
def g_bbr_Gain_11 : List (IStep2 RW) := [o1 2 (.mv false (.k (.sc (.int .i64 100))))]
def i_bbr_Gain_0 : IC2 RW := .seq (.fin (.reg g_bbr_Gain_0) [0, 2] []) (.seq (.seq (.fin (.reg g_bbr_Gain_1) [3, 4] []) (.fin (.cond (.s 5) (.seq (.fin (.reg g_bbr_Gain_2) [1, 5] [(32, 22)]) (.ret)) (.skip)) [5] [])) (.seq (.blk 0 (.seq (.fin (.reg g_bbr_Gain_3) [7, 8, 9] []) (.cond (.s 6) (.seq (.fin (.reg g_bbr_Gain_4) [1, 6] [(32, 22)]) (.ret)) (.seq (.fin (.reg g_bbr_Gain_5) [6, 11, 12, 13] []) (.cond (.s 10) (.seq (.fin (.reg g_bbr_Gain_6) [1, 10] [(32, 22)]) (.ret)) (.seq (.fin (.reg g_bbr_Gain_7) [10, 15, 16, 17, 18, 19, 20, 21, 22] []) (.cond (.s 14) (.seq (.fin (.reg g_bbr_Gain_8) [1, 14] [(32, 22)]) (.ret)) (.seq (.fin (.reg g_bbr_Gain_9) [1, 14, 24, 25, 26, 27, 28, 29, 30, 31] [(32, 22)]) (.fin (.cond (.s 23) (.seq (.fin (.reg g_bbr_Gain_10) [23] []) (.ret)) (.skip)) [23] []))))))))) (.seq (.reg g_bbr_Gain_11) (.ret))))
def fn_bbr_Gain : IFn2 RW := ⟨37, 1, 32, 64, [(32, 22)], [], [], [.slot 2], i_bbr_Gain_0⟩
def g_filter_Best_0 : List (IStep2 RW) := [o1 2 (.mv false (.k (.sc (.int .i64 0)))),
  o1 3 (.mv false (.k (.sc (.bool false))))]
def g_filter_Best_1 : List (IStep2 RW) := [o1 4 (.mv false (.s 0)),
  o1 5 (.len false (.s 4)),
  o1 6 (.bin .eql (.s 5) (.k (.sc (.int .i64 0))))]
def g_filter_Best_2 : List (IStep2 RW) := [o1 2 (.mv false (.k (.sc (.int .i64 0)))),
  o1 3 (.mv false (.k (.sc (.bool false))))]
def g_filter_Best_3 : List (IStep2 RW) := [o1 7 (.mv false (.s 0)),
  o1 8 (.idx 2 (.s 7) (.k (.sc (.int .i64 0)))),
  o1 9 (.fld 1 (.s 8)),
  o1 10 (.loade 1 false 9),
  o1 2 (.mv false (.s 10)),
  o1 3 (.mv false (.k (.sc (.bool true))))]
def i_filter_Best_0 : IC2 RW := .seq (.fin (.reg g_filter_Best_0) [2, 3] []) (.seq (.seq (.fin (.reg g_filter_Best_1) [4, 5] []) (.fin (.cond (.s 6) (.seq (.fin (.reg g_filter_Best_2) [0, 6] []) (.ret)) (.skip)) [6] [])) (.seq (.fin (.reg g_filter_Best_3) [0, 7, 8, 9, 10] []) (.ret)))
def fn_filter_Best : IFn2 RW := ⟨81, 1, 11, 16, [], [], [], [.slot 2, .slot 3], i_filter_Best_0⟩
def g_bbr_ctl_bandwidth_0 : List (IStep2 RW) := [o1 2 (.mv false (.k (.sc (.int .i64 0))))]
def g_bbr_ctl_bandwidth_1 : List (IStep2 RW) := [o1 6 (.mv false (.s 0)),
  o1 7 (.nil (.s 6)),
  o1 8 (.fld 0 (.s 7)),
  o1 9 (.fld 11 (.s 8)),
  o1 10 (.load 15 11 1 false false 9),
  o1 11 (.call 81 [(false, .s 10)] [] []),
  o1 5 (.mv false (.s 11)),
  o1 12 (.ext false 0 (.s 5)),
  o1 13 (.ext false 1 (.s 5)),
  o1 3 (.mv false (.s 12)),
  o1 4 (.mv false (.s 13))]
def g_bbr_ctl_bandwidth_2 : List (IStep2 RW) := [o1 14 (.mv false (.s 3)),
  o1 2 (.mv false (.s 14))]
def i_bbr_ctl_bandwidth_0 : IC2 RW := .seq (.fin (.reg g_bbr_ctl_bandwidth_0) [2] []) (.seq (.fin (.reg g_bbr_ctl_bandwidth_1) [0, 4, 5, 6, 7, 8, 9, 10, 11, 12, 13] []) (.seq (.fin (.reg g_bbr_ctl_bandwidth_2) [3, 14] []) (.ret)))
def fn_bbr_ctl_bandwidth : IFn2 RW := ⟨59, 1, 15, 48, [(15, 22)], [(15, 22)], [], [.slot 2], i_bbr_ctl_bandwidth_0⟩
def g_bbr_Bandwidth_0 : List (IStep2 RW) := [o1 1 (.box 10 22 false (.s 0)),
  o1 2 (.mv false (.k (.sc (.int .i64 0))))]
def g_bbr_Bandwidth_1 : List (IStep2 RW) := [o1 3 (.load 10 0 22 true false 1),
  o1 4 (.call 30 [(false, .s 3)] [] []),
  o1 5 (.bin .neq (.s 4) (.k (.sc (.int .i64 0))))]
def g_bbr_Bandwidth_2 : List (IStep2 RW) := [o1 2 (.mv false (.k (.sc (.int .i64 0))))]
def g_bbr_Bandwidth_3 : List (IStep2 RW) := [o1 6 (.load 10 0 22 true false 1),
  o1 7 (.build [.sc (.int .i64 0), .sc (.int .i64 0), .sc (.int .i64 0), .sc (.int .i64 0), .sc (.int .i64 0), .sc (.int .i64 0), .sc (.int .i64 0), .sc (.int .i64 0), .sc (.int .i64 0), .sc (.int .i64 0), .sc (.int .i64 0), .row false (.rEntry []), .sc (.int .i64 0), .sc (.int .i64 0), .sc (.int .i64 0), .sc (.int .i64 0), .sc (.int .i64 0), .sc (.int .i64 0), .sc (.int .i64 0), .sc (.int .i64 0), .sc (.int .i64 0), .sc (.int .i64 0)] [(0, 22, .s 6)]),
  o1 8 (.box 33 22 false (.s 7)),
  o1 9 (.ro 1025 [(false, .s 8)] [(33, 22, 15)]),
  o1 2 (.mv false (.s 9))]
def i_bbr_Bandwidth_0 : IC2 RW := .seq (.fin (.reg g_bbr_Bandwidth_0) [0, 2] []) (.seq (.seq (.fin (.reg g_bbr_Bandwidth_1) [3, 4] []) (.fin (.cond (.s 5) (.seq (.fin (.reg g_bbr_Bandwidth_2) [1, 5] [(10, 22)]) (.ret)) (.skip)) [5] [])) (.seq (.fin (.reg g_bbr_Bandwidth_3) [1, 6, 7, 8, 9] [(10, 22), (33, 22)]) (.ret)))
def fn_bbr_Bandwidth : IFn2 RW := ⟨38, 1, 10, 64, [(10, 22), (33, 22)], [], [], [.slot 2], i_bbr_Bandwidth_0⟩
def g_math_bits_Mul64_0 : List (IStep2 RW) := [o1 4 (.mv false (.k (.sc (.int .u64 0)))),
  o1 5 (.mv false (.k (.sc (.int .u64 0))))]
def g_math_bits_Mul64_1 : List (IStep2 RW) := [o1 14 (.mv false (.s 0)),
  o1 15 (.bin .and (.s 14) (.k (.sc (.int .u64 4294967295)))),
  o1 6 (.mv false (.s 15))]
def g_math_bits_Mul64_2 : List (IStep2 RW) := [o1 16 (.mv false (.s 0)),
  o1 17 (.bin .shr (.s 16) (.k (.sc (.int .u64 32)))),
  o1 7 (.mv false (.s 17))]
def g_math_bits_Mul64_3 : List (IStep2 RW) := [o1 18 (.mv false (.s 1)),
  o1 19 (.bin .and (.s 18) (.k (.sc (.int .u64 4294967295)))),
  o1 8 (.mv false (.s 19))]
def g_math_bits_Mul64_4 : List (IStep2 RW) := [o1 20 (.mv false (.s 1)),
  o1 21 (.bin .shr (.s 20) (.k (.sc (.int .u64 32)))),
  o1 9 (.mv false (.s 21))]
def g_math_bits_Mul64_5 : List (IStep2 RW) := [o1 22 (.mv false (.s 6)),
  o1 23 (.mv false (.s 8)),
  o1 24 (.bin .mul (.s 22) (.s 23)),
  o1 10 (.mv false (.s 24))]
def g_math_bits_Mul64_6 : List (IStep2 RW) := [o1 25 (.mv false (.s 7)),
  o1 26 (.mv false (.s 8)),
  o1 27 (.bin .mul (.s 25) (.s 26)),
  o1 28 (.mv false (.s 10)),
  o1 29 (.bin .shr (.s 28) (.k (.sc (.int .u64 32)))),
  o1 30 (.bin .add (.s 27) (.s 29)),
  o1 11 (.mv false (.s 30))]
def g_math_bits_Mul64_7 : List (IStep2 RW) := [o1 31 (.mv false (.s 11)),
  o1 32 (.bin .and (.s 31) (.k (.sc (.int .u64 4294967295)))),
  o1 12 (.mv false (.s 32))]
def g_math_bits_Mul64_8 : List (IStep2 RW) := [o1 33 (.mv false (.s 11)),
  o1 34 (.bin .shr (.s 33) (.k (.sc (.int .u64 32)))),
  o1 13 (.mv false (.s 34))]
def g_math_bits_Mul64_9 : List (IStep2 RW) := [o1 35 (.mv false (.s 12)),
  o1 36 (.mv false (.s 6)),
  o1 37 (.mv false (.s 9)),
  o1 38 (.bin .mul (.s 36) (.s 37)),
  o1 39 (.bin .add (.s 35) (.s 38)),
  o1 12 (.mv false (.s 39))]
def g_math_bits_Mul64_10 : List (IStep2 RW) := [o1 40 (.mv false (.s 7)),
  o1 41 (.mv false (.s 9)),
  o1 42 (.bin .mul (.s 40) (.s 41)),
  o1 43 (.mv false (.s 13)),
  o1 44 (.bin .add (.s 42) (.s 43)),
  o1 45 (.mv false (.s 12)),
  o1 46 (.bin .shr (.s 45) (.k (.sc (.int .u64 32)))),
  o1 47 (.bin .add (.s 44) (.s 46)),
  o1 4 (.mv false (.s 47))]
def g_math_bits_Mul64_11 : List (IStep2 RW) := [o1 48 (.mv false (.s 0)),
  o1 49 (.mv false (.s 1)),
  o1 50 (.bin .mul (.s 48) (.s 49)),
  o1 5 (.mv false (.s 50))]
def i_math_bits_Mul64_0 : IC2 RW := .seq (.fin (.reg g_math_bits_Mul64_0) [4, 5] []) (.seq (.fin (.reg g_math_bits_Mul64_1) [14, 15] []) (.seq (.fin (.reg g_math_bits_Mul64_2) [16, 17] []) (.seq (.fin (.reg g_math_bits_Mul64_3) [18, 19] []) (.seq (.fin (.reg g_math_bits_Mul64_4) [20, 21] []) (.seq (.fin (.reg g_math_bits_Mul64_5) [22, 23, 24] []) (.seq (.fin (.reg g_math_bits_Mul64_6) [8, 10, 25, 26, 27, 28, 29, 30] []) (.seq (.fin (.reg g_math_bits_Mul64_7) [31, 32] []) (.seq (.fin (.reg g_math_bits_Mul64_8) [11, 33, 34] []) (.seq (.fin (.reg g_math_bits_Mul64_9) [6, 35, 36, 37, 38, 39] []) (.seq (.fin (.reg g_math_bits_Mul64_10) [7, 9, 12, 13, 40, 41, 42, 43, 44, 45, 46, 47] []) (.seq (.fin (.reg g_math_bits_Mul64_11) [0, 1, 48, 49, 50] []) (.ret))))))))))))
def fn_math_bits_Mul64 : IFn2 RW := ⟨60, 2, 51, 64, [], [], [], [.slot 4, .slot 5], i_math_bits_Mul64_0⟩
def g_math_bits_Len64_0 : List (IStep2 RW) := [o1 2 (.mv false (.k (.sc (.int .i64 0))))]
def g_math_bits_Len64_1 : List (IStep2 RW) := [o1 3 (.mv false (.s 0)),
  o1 4 (.bin .geq (.s 3) (.k (.sc (.int .u64 4294967296))))]
def g_math_bits_Len64_2 : List (IStep2 RW) := [o1 5 (.mv false (.s 0)),
  o1 6 (.bin .shr (.s 5) (.k (.sc (.int .u64 32)))),
  o1 0 (.mv false (.s 6))]
def g_math_bits_Len64_3 : List (IStep2 RW) := [o1 2 (.mv false (.k (.sc (.int .i64 32))))]
def g_math_bits_Len64_4 : List (IStep2 RW) := [o1 7 (.mv false (.s 0)),
  o1 8 (.bin .geq (.s 7) (.k (.sc (.int .u64 65536))))]
def g_math_bits_Len64_5 : List (IStep2 RW) := [o1 9 (.mv false (.s 0)),
  o1 10 (.bin .shr (.s 9) (.k (.sc (.int .u64 16)))),
  o1 0 (.mv false (.s 10))]
def g_math_bits_Len64_6 : List (IStep2 RW) := [o1 11 (.mv false (.s 2)),
  o1 12 (.bin .add (.s 11) (.k (.sc (.int .i64 16)))),
  o1 2 (.mv false (.s 12))]
def g_math_bits_Len64_7 : List (IStep2 RW) := [o1 13 (.mv false (.s 0)),
  o1 14 (.bin .geq (.s 13) (.k (.sc (.int .u64 256))))]
def g_math_bits_Len64_8 : List (IStep2 RW) := [o1 15 (.mv false (.s 0)),
  o1 16 (.bin .shr (.s 15) (.k (.sc (.int .u64 8)))),
  o1 0 (.mv false (.s 16))]
def g_math_bits_Len64_9 : List (IStep2 RW) := [o1 17 (.mv false (.s 2)),
  o1 18 (.bin .add (.s 17) (.k (.sc (.int .i64 8)))),
  o1 2 (.mv false (.s 18))]
def g_math_bits_Len64_10 : List (IStep2 RW) := [o1 19 (.mv false (.s 2)),
  o1 20 (.mv false (.s 0)),
  o1 21 (.conv .u8 (.s 20)),
  o1 22 (.sidx (.k (.sc (.string tab256_2793))) (.s 21)),
  o1 23 (.conv .i64 (.s 22)),
  o1 24 (.bin .add (.s 19) (.s 23)),
  o1 2 (.mv false (.s 24))]
def i_math_bits_Len64_0 : IC2 RW := .seq (.reg g_math_bits_Len64_0) (.seq (.seq (.fin (.reg g_math_bits_Len64_1) [3] []) (.fin (.cond (.s 4) (.seq (.fin (.reg g_math_bits_Len64_2) [2, 4, 5, 6] []) (.reg g_math_bits_Len64_3)) (.skip)) [4] [])) (.seq (.seq (.fin (.reg g_math_bits_Len64_4) [7] []) (.fin (.cond (.s 8) (.seq (.fin (.reg g_math_bits_Len64_5) [8, 9, 10] []) (.fin (.reg g_math_bits_Len64_6) [11, 12] [])) (.skip)) [8] [])) (.seq (.seq (.fin (.reg g_math_bits_Len64_7) [13] []) (.fin (.cond (.s 14) (.seq (.fin (.reg g_math_bits_Len64_8) [14, 15, 16] []) (.fin (.reg g_math_bits_Len64_9) [17, 18] [])) (.skip)) [14] [])) (.seq (.fin (.reg g_math_bits_Len64_10) [0, 19, 20, 21, 22, 23, 24] []) (.ret)))))
def fn_math_bits_Len64 : IFn2 RW := ⟨96, 1, 25, 32, [], [], [], [.slot 2], i_math_bits_Len64_0⟩
def g_math_bits_LeadingZeros64_0 : List (IStep2 RW) := [o1 2 (.mv false (.k (.sc (.int .i64 0))))]
def g_math_bits_LeadingZeros64_1 : List (IStep2 RW) := [o1 3 (.mv false (.s 0)),
  o1 4 (.call 96 [(false, .s 3)] [] []),
  o1 5 (.bin .sub (.k (.sc (.int .i64 64))) (.s 4)),
  o1 2 (.mv false (.s 5))]
def i_math_bits_LeadingZeros64_0 : IC2 RW := .seq (.fin (.reg g_math_bits_LeadingZeros64_0) [2] []) (.seq (.fin (.reg g_math_bits_LeadingZeros64_1) [0, 3, 4, 5] []) (.ret))
def fn_math_bits_LeadingZeros64 : IFn2 RW := ⟨82, 1, 6, 16, [], [], [], [.slot 2], i_math_bits_LeadingZeros64_0⟩
def g_math_bits_Div64_17 : List (IStep2 RW) := [o1 67 (.mv false (.s 15)),
  o1 68 (.bin .geq (.s 67) (.k (.sc (.int .u64 4294967296)))),
  o2 69 (.mv false (.s 68)),
  o3 70 69 false (.mv false (.s 15)),
  o3 71 69 false (.mv false (.s 10)),
  o3 72 69 false (.bin .mul (.s 70) (.s 71)),
  o3 73 69 false (.mv false (.s 16)),
  o3 74 69 false (.bin .mul (.k (.sc (.int .u64 4294967296))) (.s 73)),
  o3 75 69 false (.mv false (.s 13)),
  o3 76 69 false (.bin .add (.s 74) (.s 75)),
  o3 77 69 false (.bin .gtr (.s 72) (.s 76)),
  o1 78 (.pick (.s 69) (.k (.sc (.bool true))) (.s 77))]
def g_math_bits_Div64_18 : List (IStep2 RW) := [o1 79 (.mv false (.s 15)),
  o1 80 (.bin .sub (.s 79) (.k (.sc (.int .u64 1)))),
  o1 15 (.mv false (.s 80))]
def g_math_bits_Div64_19 : List (IStep2 RW) := [o1 81 (.mv false (.s 16)),
  o1 82 (.mv false (.s 9)),
  o1 83 (.bin .add (.s 81) (.s 82)),
  o1 16 (.mv false (.s 83))]
def g_math_bits_Div64_20 : List (IStep2 RW) := [o1 84 (.mv false (.s 16)),
  o1 85 (.bin .geq (.s 84) (.k (.sc (.int .u64 4294967296))))]
def i_math_bits_Div64_0 : IC2 RW := .seq (.seq (.fin (.reg g_math_bits_Div64_17) [67, 68, 69, 70, 71, 72, 73, 74, 75, 76, 77] []) (.fin (.cond (.s 78) (.skip) (.clr [16, 78] [] (.exit 0))) [78] [])) (.blk 1 (.seq (.fin (.reg g_math_bits_Div64_18) [79, 80] []) (.seq (.fin (.reg g_math_bits_Div64_19) [81, 82, 83] []) (.seq (.fin (.reg g_math_bits_Div64_20) [84] []) (.fin (.cond (.s 85) (.clr [16, 85] [] (.exit 0)) (.skip)) [85] [])))))
def i_math_bits_Div64_1 : IC2 RW := .loop i_math_bits_Div64_0
def i_math_bits_Div64_2 : IC2 RW := .blk 0 i_math_bits_Div64_1
def g_math_bits_Div64_24 : List (IStep2 RW) := [o1 102 (.mv false (.s 18)),
  o1 103 (.bin .geq (.s 102) (.k (.sc (.int .u64 4294967296)))),
  o2 104 (.mv false (.s 103)),
  o3 105 104 false (.mv false (.s 18)),
  o3 106 104 false (.mv false (.s 10)),
  o3 107 104 false (.bin .mul (.s 105) (.s 106)),
  o3 108 104 false (.mv false (.s 16)),
  o3 109 104 false (.bin .mul (.k (.sc (.int .u64 4294967296))) (.s 108)),
  o3 110 104 false (.mv false (.s 14)),
  o3 111 104 false (.bin .add (.s 109) (.s 110)),
  o3 112 104 false (.bin .gtr (.s 107) (.s 111)),
  o1 113 (.pick (.s 104) (.k (.sc (.bool true))) (.s 112))]
def g_math_bits_Div64_25 : List (IStep2 RW) := [o1 114 (.mv false (.s 18)),
  o1 115 (.bin .sub (.s 114) (.k (.sc (.int .u64 1)))),
  o1 18 (.mv false (.s 115))]
def g_math_bits_Div64_26 : List (IStep2 RW) := [o1 116 (.mv false (.s 16)),
  o1 117 (.mv false (.s 9)),
  o1 118 (.bin .add (.s 116) (.s 117)),
  o1 16 (.mv false (.s 118))]
def g_math_bits_Div64_27 : List (IStep2 RW) := [o1 119 (.mv false (.s 16)),
  o1 120 (.bin .geq (.s 119) (.k (.sc (.int .u64 4294967296))))]
def i_math_bits_Div64_3 : IC2 RW := .seq (.seq (.fin (.reg g_math_bits_Div64_24) [102, 103, 104, 105, 106, 107, 108, 109, 110, 111, 112] []) (.fin (.cond (.s 113) (.skip) (.clr [9, 10, 16, 113] [] (.exit 2))) [113] [])) (.blk 3 (.seq (.fin (.reg g_math_bits_Div64_25) [114, 115] []) (.seq (.fin (.reg g_math_bits_Div64_26) [116, 117, 118] []) (.seq (.fin (.reg g_math_bits_Div64_27) [119] []) (.fin (.cond (.s 120) (.clr [9, 10, 16, 120] [] (.exit 2)) (.skip)) [120] [])))))
def i_math_bits_Div64_4 : IC2 RW := .loop i_math_bits_Div64_3
def i_math_bits_Div64_5 : IC2 RW := .blk 2 i_math_bits_Div64_4
def g_math_bits_Div64_28 : List (IStep2 RW) := [o1 121 (.mv false (.s 15)),
  o1 122 (.bin .mul (.s 121) (.k (.sc (.int .u64 4294967296)))),
  o1 123 (.mv false (.s 18)),
  o1 124 (.bin .add (.s 122) (.s 123)),
  o1 125 (.mv false (.s 17)),
  o1 126 (.bin .mul (.s 125) (.k (.sc (.int .u64 4294967296)))),
  o1 127 (.mv false (.s 14)),
  o1 128 (.bin .add (.s 126) (.s 127)),
  o1 129 (.mv false (.s 18)),
  o1 130 (.mv false (.s 2)),
  o1 131 (.bin .mul (.s 129) (.s 130)),
  o1 132 (.bin .sub (.s 128) (.s 131)),
  o1 133 (.mv false (.s 8)),
  o1 134 (.bin .shr (.s 132) (.s 133)),
  o1 6 (.mv false (.s 124)),
  o1 7 (.mv false (.s 134))]
def i_math_bits_Div64_6 : IC2 RW := .seq (.fin (.reg g_math_bits_Div64_28) [2, 8, 14, 15, 17, 18, 121, 122, 123, 124, 125, 126, 127, 128, 129, 130, 131, 132, 133, 134] []) (.ret)
def i_math_bits_Div64_7 : IC2 RW := .seq i_math_bits_Div64_5 i_math_bits_Div64_6
def g_math_bits_Div64_21 : List (IStep2 RW) := [o1 86 (.mv false (.s 11)),
  o1 87 (.bin .mul (.s 86) (.k (.sc (.int .u64 4294967296)))),
  o1 88 (.mv false (.s 13)),
  o1 89 (.bin .add (.s 87) (.s 88)),
  o1 90 (.mv false (.s 15)),
  o1 91 (.mv false (.s 2)),
  o1 92 (.bin .mul (.s 90) (.s 91)),
  o1 93 (.bin .sub (.s 89) (.s 92)),
  o1 17 (.mv false (.s 93))]
def g_math_bits_Div64_22 : List (IStep2 RW) := [o1 94 (.mv false (.s 17)),
  o1 95 (.mv false (.s 9)),
  o1 96 (.bin .quo (.s 94) (.s 95)),
  o1 18 (.mv false (.s 96))]
def g_math_bits_Div64_23 : List (IStep2 RW) := [o1 97 (.mv false (.s 17)),
  o1 98 (.mv false (.s 18)),
  o1 99 (.mv false (.s 9)),
  o1 100 (.bin .mul (.s 98) (.s 99)),
  o1 101 (.bin .sub (.s 97) (.s 100)),
  o1 16 (.mv false (.s 101))]
def i_math_bits_Div64_8 : IC2 RW := .seq (.fin (.reg g_math_bits_Div64_21) [11, 13, 86, 87, 88, 89, 90, 91, 92, 93] []) (.seq (.fin (.reg g_math_bits_Div64_22) [94, 95, 96] []) (.seq (.fin (.reg g_math_bits_Div64_23) [97, 98, 99, 100, 101] []) i_math_bits_Div64_7))
def i_math_bits_Div64_9 : IC2 RW := .seq i_math_bits_Div64_2 i_math_bits_Div64_8
def g_math_bits_Div64_0 : List (IStep2 RW) := [o1 6 (.mv false (.k (.sc (.int .u64 0)))),
  o1 7 (.mv false (.k (.sc (.int .u64 0))))]
def g_math_bits_Div64_1 : List (IStep2 RW) := [o1 19 (.mv false (.s 2)),
  o1 20 (.bin .eql (.s 19) (.k (.sc (.int .u64 0))))]
def g_math_bits_Div64_3 : List (IStep2 RW) := [o1 22 (.mv false (.s 2)),
  o1 23 (.mv false (.s 0)),
  o1 24 (.bin .leq (.s 22) (.s 23))]
def g_math_bits_Div64_5 : List (IStep2 RW) := [o1 26 (.mv false (.s 0)),
  o1 27 (.bin .eql (.s 26) (.k (.sc (.int .u64 0))))]
def g_math_bits_Div64_6 : List (IStep2 RW) := [o1 28 (.mv false (.s 1)),
  o1 29 (.mv false (.s 2)),
  o1 30 (.bin .quo (.s 28) (.s 29)),
  o1 31 (.mv false (.s 1)),
  o1 32 (.mv false (.s 2)),
  o1 33 (.bin .rem (.s 31) (.s 32)),
  o1 6 (.mv false (.s 30)),
  o1 7 (.mv false (.s 33))]
def g_math_bits_Div64_7 : List (IStep2 RW) := [o1 34 (.mv false (.s 2)),
  o1 35 (.call 82 [(false, .s 34)] [] []),
  o1 36 (.conv .u64 (.s 35)),
  o1 8 (.mv false (.s 36))]
def g_math_bits_Div64_8 : List (IStep2 RW) := [o1 37 (.mv false (.s 2)),
  o1 38 (.mv false (.s 8)),
  o1 39 (.bin .shl (.s 37) (.s 38)),
  o1 2 (.mv false (.s 39))]
def g_math_bits_Div64_9 : List (IStep2 RW) := [o1 40 (.mv false (.s 2)),
  o1 41 (.bin .shr (.s 40) (.k (.sc (.int .u64 32)))),
  o1 9 (.mv false (.s 41))]
def g_math_bits_Div64_10 : List (IStep2 RW) := [o1 42 (.mv false (.s 2)),
  o1 43 (.bin .and (.s 42) (.k (.sc (.int .u64 4294967295)))),
  o1 10 (.mv false (.s 43))]
def g_math_bits_Div64_11 : List (IStep2 RW) := [o1 44 (.mv false (.s 0)),
  o1 45 (.mv false (.s 8)),
  o1 46 (.bin .shl (.s 44) (.s 45)),
  o1 47 (.mv false (.s 1)),
  o1 48 (.mv false (.s 8)),
  o1 49 (.bin .sub (.k (.sc (.int .u64 64))) (.s 48)),
  o1 50 (.bin .shr (.s 47) (.s 49)),
  o1 51 (.bin .or (.s 46) (.s 50)),
  o1 11 (.mv false (.s 51))]
def g_math_bits_Div64_12 : List (IStep2 RW) := [o1 52 (.mv false (.s 1)),
  o1 53 (.mv false (.s 8)),
  o1 54 (.bin .shl (.s 52) (.s 53)),
  o1 12 (.mv false (.s 54))]
def g_math_bits_Div64_13 : List (IStep2 RW) := [o1 55 (.mv false (.s 12)),
  o1 56 (.bin .shr (.s 55) (.k (.sc (.int .u64 32)))),
  o1 13 (.mv false (.s 56))]
def g_math_bits_Div64_14 : List (IStep2 RW) := [o1 57 (.mv false (.s 12)),
  o1 58 (.bin .and (.s 57) (.k (.sc (.int .u64 4294967295)))),
  o1 14 (.mv false (.s 58))]
def g_math_bits_Div64_15 : List (IStep2 RW) := [o1 59 (.mv false (.s 11)),
  o1 60 (.mv false (.s 9)),
  o1 61 (.bin .quo (.s 59) (.s 60)),
  o1 15 (.mv false (.s 61))]
def g_math_bits_Div64_16 : List (IStep2 RW) := [o1 62 (.mv false (.s 11)),
  o1 63 (.mv false (.s 15)),
  o1 64 (.mv false (.s 9)),
  o1 65 (.bin .mul (.s 63) (.s 64)),
  o1 66 (.bin .sub (.s 62) (.s 65)),
  o1 16 (.mv false (.s 66))]
def i_math_bits_Div64_10 : IC2 RW := .seq (.fin (.reg g_math_bits_Div64_0) [6, 7] []) (.seq (.seq (.fin (.reg g_math_bits_Div64_1) [19] []) (.fin (.cond (.s 20) (.stuck) (.skip)) [20] [])) (.seq (.seq (.fin (.reg g_math_bits_Div64_3) [22, 23] []) (.fin (.cond (.s 24) (.stuck) (.skip)) [24] [])) (.seq (.seq (.fin (.reg g_math_bits_Div64_5) [26] []) (.fin (.cond (.s 27) (.seq (.fin (.reg g_math_bits_Div64_6) [0, 1, 2, 27, 28, 29, 30, 31, 32, 33] []) (.ret)) (.skip)) [27] [])) (.seq (.fin (.reg g_math_bits_Div64_7) [34, 35, 36] []) (.seq (.fin (.reg g_math_bits_Div64_8) [37, 38, 39] []) (.seq (.fin (.reg g_math_bits_Div64_9) [40, 41] []) (.seq (.fin (.reg g_math_bits_Div64_10) [42, 43] []) (.seq (.fin (.reg g_math_bits_Div64_11) [0, 44, 45, 46, 47, 48, 49, 50, 51] []) (.seq (.fin (.reg g_math_bits_Div64_12) [1, 52, 53, 54] []) (.seq (.fin (.reg g_math_bits_Div64_13) [55, 56] []) (.seq (.fin (.reg g_math_bits_Div64_14) [12, 57, 58] []) (.seq (.fin (.reg g_math_bits_Div64_15) [59, 60, 61] []) (.seq (.fin (.reg g_math_bits_Div64_16) [62, 63, 64, 65, 66] []) i_math_bits_Div64_9)))))))))))))
def fn_math_bits_Div64 : IFn2 RW := ⟨61, 3, 135, 144, [], [], [], [.slot 6, .slot 7], i_math_bits_Div64_10⟩
def g_seq_MulDiv_0 : List (IStep2 RW) := [o1 6 (.mv false (.k (.sc (.int .i64 0)))),
  o1 7 (.mv false (.k (.sc (.int .i64 0))))]
def g_seq_MulDiv_1 : List (IStep2 RW) := [o1 12 (.mv false (.s 0)),
  o1 13 (.bin .lss (.s 12) (.k (.sc (.int .i64 0)))),
  o2 14 (.mv false (.s 13)),
  o3 15 14 false (.mv false (.s 1)),
  o3 16 14 false (.bin .lss (.s 15) (.k (.sc (.int .i64 0)))),
  o1 17 (.pick (.s 14) (.k (.sc (.bool true))) (.s 16)),
  o2 18 (.mv false (.s 17)),
  o3 19 18 false (.mv false (.s 2)),
  o3 20 18 false (.bin .leq (.s 19) (.k (.sc (.int .i64 0)))),
  o1 21 (.pick (.s 18) (.k (.sc (.bool true))) (.s 20))]
def g_seq_MulDiv_2 : List (IStep2 RW) := [o1 6 (.mv false (.k (.sc (.int .i64 0)))),
  o1 7 (.mv false (.k (.sc (.int .i64 2))))]
def g_seq_MulDiv_3 : List (IStep2 RW) := [o1 23 (.mv false (.s 0)),
  o1 24 (.conv .u64 (.s 23)),
  o1 25 (.mv false (.s 1)),
  o1 26 (.conv .u64 (.s 25)),
  o1 27 (.call 60 [(false, .s 24), (false, .s 26)] [] []),
  o1 22 (.mv false (.s 27)),
  o1 28 (.ext false 0 (.s 22)),
  o1 29 (.ext false 1 (.s 22)),
  o1 8 (.mv false (.s 28)),
  o1 9 (.mv false (.s 29))]
def g_seq_MulDiv_4 : List (IStep2 RW) := [o1 30 (.mv false (.s 8)),
  o1 31 (.mv false (.s 2)),
  o1 32 (.conv .u64 (.s 31)),
  o1 33 (.bin .geq (.s 30) (.s 32))]
def g_seq_MulDiv_5 : List (IStep2 RW) := [o1 6 (.mv false (.k (.sc (.int .i64 9223372036854775807)))),
  o1 7 (.mv false (.k (.sc (.int .i64 0))))]
def g_seq_MulDiv_6 : List (IStep2 RW) := [o1 35 (.mv false (.s 8)),
  o1 36 (.mv false (.s 9)),
  o1 37 (.mv false (.s 2)),
  o1 38 (.conv .u64 (.s 37)),
  o1 39 (.call 61 [(false, .s 35), (false, .s 36), (false, .s 38)] [] []),
  o1 34 (.mv false (.s 39)),
  o1 40 (.ext false 0 (.s 34)),
  o1 41 (.ext false 1 (.s 34)),
  o1 10 (.mv false (.s 40)),
  o1 11 (.mv false (.s 41))]
def g_seq_MulDiv_7 : List (IStep2 RW) := [o1 42 (.mv false (.s 10)),
  o1 43 (.mnmx false [.s 42, .k (.sc (.int .u64 9223372036854775807))]),
  o1 44 (.conv .i64 (.s 43)),
  o1 6 (.mv false (.s 44)),
  o1 7 (.mv false (.k (.sc (.int .i64 0))))]
def i_seq_MulDiv_0 : IC2 RW := .seq (.fin (.reg g_seq_MulDiv_0) [6, 7] []) (.seq (.seq (.fin (.reg g_seq_MulDiv_1) [12, 13, 14, 15, 16, 17, 18, 19, 20] []) (.fin (.cond (.s 21) (.seq (.fin (.reg g_seq_MulDiv_2) [0, 1, 2, 21] []) (.ret)) (.skip)) [21] [])) (.seq (.fin (.reg g_seq_MulDiv_3) [0, 1, 22, 23, 24, 25, 26, 27, 28, 29] []) (.seq (.seq (.fin (.reg g_seq_MulDiv_4) [30, 31, 32] []) (.fin (.cond (.s 33) (.seq (.fin (.reg g_seq_MulDiv_5) [2, 8, 9, 33] []) (.ret)) (.skip)) [33] [])) (.seq (.fin (.reg g_seq_MulDiv_6) [2, 8, 9, 11, 34, 35, 36, 37, 38, 39, 40, 41] []) (.seq (.fin (.reg g_seq_MulDiv_7) [10, 42, 43, 44] []) (.ret))))))
def fn_seq_MulDiv : IFn2 RW := ⟨39, 3, 45, 48, [], [], [], [.slot 6, .slot 7], i_seq_MulDiv_0⟩
def g_cc_Pace_8 : List (IStep2 RW) := [o1 29 (.mv false (.s 8)),
  o1 30 (.bin .eql (.s 29) (.k (.sc (.int .i64 0))))]
def g_cc_Pace_9 : List (IStep2 RW) := [o1 31 (.mv false (.s 1)),
  o1 32 (.mnmx false [.s 31, .k (.sc (.int .i64 1125899906842624))]),
  o1 9 (.mv false (.s 32))]
def g_cc_Pace_10 : List (IStep2 RW) := [o1 33 (.mv false (.s 9)),
  o1 34 (.bin .lss (.s 33) (.k (.sc (.int .i64 1))))]
def g_cc_Pace_11 : List (IStep2 RW) := [o1 9 (.mv false (.k (.sc (.int .i64 1000))))]
def g_cc_Pace_12 : List (IStep2 RW) := [o1 36 (.fld 2 (.s 3)),
  o1 37 (.load 49 2 1 false false 36),
  o1 38 (.mv false (.s 7)),
  o1 39 (.bin .mul (.s 38) (.k (.sc (.int .i64 1000000)))),
  o1 40 (.mv false (.s 9)),
  o1 41 (.bin .mul (.k (.sc (.int .i64 100))) (.s 40)),
  o1 42 (.call 39 [(false, .s 37), (false, .s 39), (false, .s 41)] [] []),
  o1 35 (.mv false (.s 42)),
  o1 43 (.ext false 0 (.s 35)),
  o1 44 (.ext false 1 (.s 35)),
  o1 8 (.mv false (.s 43))]
def g_cc_Pace_13 : List (IStep2 RW) := [o1 45 (.mv false (.s 2)),
  o1 46 (.mv false (.s 8)),
  o1 47 (.mnmx true [.k (.sc (.int .i64 1)), .s 45, .s 46]),
  o1 48 (.mnmx false [.k (.sc (.int .i64 1099511627776)), .s 47]),
  o1 6 (.mv false (.s 48))]
def i_cc_Pace_0 : IC2 RW := .seq (.seq (.fin (.reg g_cc_Pace_8) [29] []) (.fin (.cond (.s 30) (.seq (.fin (.reg g_cc_Pace_9) [1, 8, 30, 31, 32] []) (.seq (.seq (.fin (.reg g_cc_Pace_10) [33] []) (.fin (.cond (.s 34) (.fin (.reg g_cc_Pace_11) [34] []) (.skip)) [34] [])) (.fin (.reg g_cc_Pace_12) [3, 7, 9, 35, 36, 37, 38, 39, 40, 41, 42, 43, 44] [(49, 22)]))) (.skip)) [1, 3, 7, 30] [(49, 22)])) (.seq (.fin (.reg g_cc_Pace_13) [2, 8, 45, 46, 47, 48] []) (.ret))
def g_cc_Pace_0 : List (IStep2 RW) := [o1 3 (.box 49 22 false (.s 0)),
  o1 6 (.mv false (.k (.sc (.int .i64 0))))]
def g_cc_Pace_1 : List (IStep2 RW) := [o1 10 (.load 49 0 22 true false 3),
  o1 11 (.call 10 [(false, .s 10)] [] []),
  o1 12 (.bin .neq (.s 11) (.k (.sc (.int .i64 0))))]
def g_cc_Pace_2 : List (IStep2 RW) := [o1 6 (.mv false (.k (.sc (.int .i64 0))))]
def g_cc_Pace_3 : List (IStep2 RW) := [o1 7 (.mv false (.k (.sc (.int .i64 120)))),
  o1 8 (.mv false (.k (.sc (.int .i64 0))))]
def g_cc_Pace_4 : List (IStep2 RW) := [o1 14 (.fld 0 (.s 3)),
  o1 15 (.load 49 0 1 false false 14),
  o1 16 (.bin .eql (.s 15) (.k (.sc (.int .i64 3)))),
  o1 13 (.mv false (.s 16))]
def g_cc_Pace_5 : List (IStep2 RW) := [o1 17 (.load 49 0 22 true false 3),
  o1 18 (.call 37 [(false, .s 17)] [] []),
  o1 19 (.load 49 0 22 true false 3),
  o1 20 (.call 38 [(false, .s 19)] [] []),
  o1 21 (.bin .mul (.s 18) (.s 20)),
  o1 22 (.bin .quo (.s 21) (.k (.sc (.int .i64 100)))),
  o1 7 (.mv false (.k (.sc (.int .i64 289)))),
  o1 8 (.mv false (.s 22))]
def g_cc_Pace_6 : List (IStep2 RW) := [o1 24 (.fld 2 (.s 3)),
  o1 25 (.load 49 2 1 false false 24),
  o1 26 (.fld 3 (.s 3)),
  o1 27 (.load 49 3 1 false false 26),
  o1 28 (.bin .lss (.s 25) (.s 27)),
  o1 23 (.mv false (.s 28))]
def g_cc_Pace_7 : List (IStep2 RW) := [o1 7 (.mv false (.k (.sc (.int .i64 200))))]
def i_cc_Pace_1 : IC2 RW := .seq (.fin (.reg g_cc_Pace_0) [0, 6] []) (.seq (.seq (.fin (.reg g_cc_Pace_1) [10, 11] []) (.fin (.cond (.s 12) (.seq (.fin (.reg g_cc_Pace_2) [1, 2, 3, 12] [(49, 22)]) (.ret)) (.skip)) [12] [])) (.seq (.reg g_cc_Pace_3) (.seq (.blk 0 (.seq (.fin (.reg g_cc_Pace_4) [14, 15, 16] []) (.cond (.s 13) (.fin (.reg g_cc_Pace_5) [13, 17, 18, 19, 20, 21, 22] []) (.seq (.fin (.reg g_cc_Pace_6) [13, 24, 25, 26, 27, 28] []) (.fin (.cond (.s 23) (.fin (.reg g_cc_Pace_7) [23] []) (.skip)) [23] []))))) i_cc_Pace_0)))
def fn_cc_Pace : IFn2 RW := ⟨16, 3, 49, 80, [(49, 22)], [], [], [.slot 6], i_cc_Pace_1⟩
def g_law19_heads_5 : List (IStep2 RW) := [o1 28 (.load 82 0 22 true false 1),
  o1 29 (.call 12 [(false, .s 28), (false, .k (.sc (.int .i64 5000))), (false, .k (.sc (.int .i64 1000))), (false, .k (.sc (.int .i64 0)))] [] []),
  o1 27 (.mv false (.s 29)),
  o1 30 (.ext false 0 (.s 27)),
  o1 31 (.ext false 1 (.s 27)),
  o1 9 (.alloc 174 [.sc (.int .i64 0), .sc (.int .i64 0), .sc (.int .i64 0), .sc (.int .i64 0), .sc (.int .i64 0), .sc (.int .i64 0), .sc (.int .i64 0), .sc (.int .i64 0), .sc (.int .i64 0), .sc (.int .i64 0), .sc (.int .i64 0), .row false (.rEntry []), .sc (.int .i64 0), .sc (.int .i64 0), .sc (.int .i64 0), .sc (.int .i64 0), .sc (.int .i64 0), .sc (.int .i64 0), .sc (.int .i64 0), .sc (.int .i64 0), .sc (.int .i64 0), .sc (.int .i64 0)]),
  o0 (.store 174 0 22 false 9 (.s 30)),
  o1 10 (.mv false (.s 31))]
def g_law19_heads_6 : List (IStep2 RW) := [o1 32 (.mv false (.s 2)),
  o1 33 (.bin .eql (.s 32) (.k (.sc (.int .i64 0)))),
  o2 34 (.mv false (.s 33)),
  o3 35 34 true (.mv false (.s 4)),
  o3 36 34 true (.bin .eql (.s 35) (.k (.sc (.int .i64 0)))),
  o1 37 (.pick (.s 34) (.s 36) (.k (.sc (.bool false)))),
  o2 38 (.mv false (.s 37)),
  o3 39 38 true (.mv false (.s 6)),
  o3 40 38 true (.bin .eql (.s 39) (.k (.sc (.int .i64 0)))),
  o1 41 (.pick (.s 38) (.s 40) (.k (.sc (.bool false)))),
  o2 42 (.mv false (.s 41)),
  o3 43 42 true (.mv false (.s 8)),
  o3 44 42 true (.bin .eql (.s 43) (.k (.sc (.int .i64 2)))),
  o1 45 (.pick (.s 42) (.s 44) (.k (.sc (.bool false)))),
  o2 46 (.mv false (.s 45)),
  o3 47 46 true (.load 82 0 22 true false 1),
  o3 48 46 true (.call 16 [(false, .s 47), (false, .k (.sc (.int .i64 100000))), (false, .k (.sc (.int .i64 0)))] [] []),
  o3 49 46 true (.bin .eql (.s 48) (.k (.sc (.int .i64 20000)))),
  o1 50 (.pick (.s 46) (.s 49) (.k (.sc (.bool false)))),
  o2 51 (.mv false (.s 50)),
  o3 52 51 true (.fld 0 (.s 3)),
  o3 53 51 true (.load 105 0 1 false false 52),
  o3 54 51 true (.bin .eql (.s 53) (.k (.sc (.int .i64 2)))),
  o1 55 (.pick (.s 51) (.s 54) (.k (.sc (.bool false)))),
  o2 56 (.mv false (.s 55)),
  o3 57 56 true (.fld 10 (.s 5)),
  o3 58 56 true (.load 128 10 1 false false 57),
  o3 59 56 true (.bin .eql (.s 58) (.k (.sc (.int .i64 1)))),
  o1 60 (.pick (.s 56) (.s 59) (.k (.sc (.bool false)))),
  o2 61 (.mv false (.s 60)),
  o3 62 61 true (.mv false (.s 10)),
  o3 63 61 true (.bin .eql (.s 62) (.k (.sc (.int .i64 0)))),
  o1 64 (.pick (.s 61) (.s 63) (.k (.sc (.bool false)))),
  o2 65 (.mv false (.s 64)),
  o3 66 65 true (.fld 2 (.s 9)),
  o3 67 65 true (.load 174 2 1 false false 66),
  o3 68 65 true (.bin .eql (.s 67) (.k (.sc (.int .i64 200)))),
  o1 69 (.pick (.s 65) (.s 68) (.k (.sc (.bool false)))),
  o2 70 (.mv false (.s 69)),
  o3 71 70 true (.fld 3 (.s 9)),
  o3 72 70 true (.load 174 3 1 false false 71),
  o3 73 70 true (.fld 3 (.s 1)),
  o3 74 70 true (.load 82 3 1 false false 73),
  o3 75 70 true (.bin .eql (.s 72) (.s 74)),
  o1 76 (.pick (.s 70) (.s 75) (.k (.sc (.bool false)))),
  o2 77 (.mv false (.s 76)),
  o3 78 77 true (.build [.sc (.int .i64 0), .sc (.int .i64 0), .sc (.int .i64 0), .sc (.int .i64 0), .sc (.int .i64 0), .sc (.int .i64 0), .sc (.int .i64 0), .sc (.int .i64 0), .sc (.int .i64 0), .sc (.int .i64 0), .sc (.int .i64 0), .row false (.rEntry []), .sc (.int .i64 0), .sc (.int .i64 0), .sc (.int .i64 0), .sc (.int .i64 0), .sc (.int .i64 0), .sc (.int .i64 0), .sc (.int .i64 0), .sc (.int .i64 0), .sc (.int .i64 0), .sc (.int .i64 0)] []),
  o3 79 77 true (.call 10 [(false, .s 78)] [] []),
  o3 80 77 true (.bin .eql (.s 79) (.k (.sc (.int .i64 230)))),
  o1 81 (.pick (.s 77) (.s 80) (.k (.sc (.bool false)))),
  o1 0 (.mv false (.s 81))]
def i_law19_heads_0 : IC2 RW := .seq (.fin (.reg g_law19_heads_5) [27, 28, 29, 30, 31] []) (.seq (.fin (.reg g_law19_heads_6) [1, 2, 3, 4, 5, 6, 8, 9, 10, 32, 33, 34, 35, 36, 37, 38, 39, 40, 41, 42, 43, 44, 45, 46, 47, 48, 49, 50, 51, 52, 53, 54, 55, 56, 57, 58, 59, 60, 61, 62, 63, 64, 65, 66, 67, 68, 69, 70, 71, 72, 73, 74, 75, 76, 77, 78, 79, 80, 81] [(82, 22), (105, 22), (128, 22), (174, 22)]) (.ret))
def g_law19_heads_0 : List (IStep2 RW) := [o1 0 (.mv false (.k (.sc (.bool false))))]
def g_law19_heads_1 : List (IStep2 RW) := [o1 12 (.call 7 [(false, .k (.sc (.int .i64 1))), (false, .k (.sc (.int .i64 100))), (false, .k (.sc (.int .i64 10)))] [] []),
  o1 11 (.mv false (.s 12)),
  o1 13 (.ext false 0 (.s 11)),
  o1 14 (.ext false 1 (.s 11)),
  o1 1 (.alloc 82 [.sc (.int .i64 0), .sc (.int .i64 0), .sc (.int .i64 0), .sc (.int .i64 0), .sc (.int .i64 0), .sc (.int .i64 0), .sc (.int .i64 0), .sc (.int .i64 0), .sc (.int .i64 0), .sc (.int .i64 0), .sc (.int .i64 0), .row false (.rEntry []), .sc (.int .i64 0), .sc (.int .i64 0), .sc (.int .i64 0), .sc (.int .i64 0), .sc (.int .i64 0), .sc (.int .i64 0), .sc (.int .i64 0), .sc (.int .i64 0), .sc (.int .i64 0), .sc (.int .i64 0)]),
  o0 (.store 82 0 22 false 1 (.s 13)),
  o1 2 (.mv false (.s 14))]
def g_law19_heads_2 : List (IStep2 RW) := [o1 16 (.call 7 [(false, .k (.sc (.int .i64 2))), (false, .k (.sc (.int .i64 100))), (false, .k (.sc (.int .i64 10)))] [] []),
  o1 15 (.mv false (.s 16)),
  o1 17 (.ext false 0 (.s 15)),
  o1 18 (.ext false 1 (.s 15)),
  o1 3 (.alloc 105 [.sc (.int .i64 0), .sc (.int .i64 0), .sc (.int .i64 0), .sc (.int .i64 0), .sc (.int .i64 0), .sc (.int .i64 0), .sc (.int .i64 0), .sc (.int .i64 0), .sc (.int .i64 0), .sc (.int .i64 0), .sc (.int .i64 0), .row false (.rEntry []), .sc (.int .i64 0), .sc (.int .i64 0), .sc (.int .i64 0), .sc (.int .i64 0), .sc (.int .i64 0), .sc (.int .i64 0), .sc (.int .i64 0), .sc (.int .i64 0), .sc (.int .i64 0), .sc (.int .i64 0)]),
  o0 (.store 105 0 22 false 3 (.s 17)),
  o1 4 (.mv false (.s 18))]
def g_law19_heads_3 : List (IStep2 RW) := [o1 20 (.call 7 [(false, .k (.sc (.int .i64 3))), (false, .k (.sc (.int .i64 100))), (false, .k (.sc (.int .i64 10)))] [] []),
  o1 19 (.mv false (.s 20)),
  o1 21 (.ext false 0 (.s 19)),
  o1 22 (.ext false 1 (.s 19)),
  o1 5 (.alloc 128 [.sc (.int .i64 0), .sc (.int .i64 0), .sc (.int .i64 0), .sc (.int .i64 0), .sc (.int .i64 0), .sc (.int .i64 0), .sc (.int .i64 0), .sc (.int .i64 0), .sc (.int .i64 0), .sc (.int .i64 0), .sc (.int .i64 0), .row false (.rEntry []), .sc (.int .i64 0), .sc (.int .i64 0), .sc (.int .i64 0), .sc (.int .i64 0), .sc (.int .i64 0), .sc (.int .i64 0), .sc (.int .i64 0), .sc (.int .i64 0), .sc (.int .i64 0), .sc (.int .i64 0)]),
  o0 (.store 128 0 22 false 5 (.s 21)),
  o1 6 (.mv false (.s 22))]
def g_law19_heads_4 : List (IStep2 RW) := [o1 24 (.call 7 [(false, .k (.sc (.int .i64 4))), (false, .k (.sc (.int .i64 1))), (false, .k (.sc (.int .i64 1)))] [] []),
  o1 23 (.mv false (.s 24)),
  o1 25 (.ext false 0 (.s 23)),
  o1 26 (.ext false 1 (.s 23)),
  o1 7 (.alloc 151 [.sc (.int .i64 0), .sc (.int .i64 0), .sc (.int .i64 0), .sc (.int .i64 0), .sc (.int .i64 0), .sc (.int .i64 0), .sc (.int .i64 0), .sc (.int .i64 0), .sc (.int .i64 0), .sc (.int .i64 0), .sc (.int .i64 0), .row false (.rEntry []), .sc (.int .i64 0), .sc (.int .i64 0), .sc (.int .i64 0), .sc (.int .i64 0), .sc (.int .i64 0), .sc (.int .i64 0), .sc (.int .i64 0), .sc (.int .i64 0), .sc (.int .i64 0), .sc (.int .i64 0)]),
  o0 (.store 151 0 22 false 7 (.s 25)),
  o1 8 (.mv false (.s 26))]
def i_law19_heads_1 : IC2 RW := .seq (.fin (.reg g_law19_heads_0) [0] []) (.seq (.fin (.reg g_law19_heads_1) [11, 12, 13, 14] []) (.seq (.fin (.reg g_law19_heads_2) [15, 16, 17, 18] []) (.seq (.fin (.reg g_law19_heads_3) [19, 20, 21, 22] []) (.seq (.fin (.reg g_law19_heads_4) [7, 23, 24, 25, 26] [(151, 22)]) i_law19_heads_0))))
def fn_law19_heads : IFn2 RW := ⟨11, 0, 82, 208, [(82, 22), (105, 22), (128, 22), (151, 22), (174, 22)], [], [], [.slot 0], i_law19_heads_1⟩
def g_reno_begun_0 : List (IStep2 RW) := [o1 2 (.box 21 22 false (.s 0)),
  o1 4 (.mv false (.k (.sc (.pointer none)))),
  o1 5 (.mv false (.k (.sc (.int .i64 0))))]
def g_reno_begun_1 : List (IStep2 RW) := [o1 7 (.load 21 0 22 true false 2),
  o1 8 (.call 28 [(false, .s 7)] [] []),
  o1 9 (.bin .neq (.s 8) (.k (.sc (.int .i64 0)))),
  o1 6 (.mv false (.s 9))]
def g_reno_begun_2 : List (IStep2 RW) := [o1 10 (.build [.sc (.int .i64 0), .sc (.int .i64 0), .sc (.int .i64 0), .sc (.int .i64 0), .sc (.int .i64 0), .sc (.int .i64 0), .sc (.int .i64 0), .sc (.int .i64 0), .sc (.int .i64 0), .sc (.int .i64 0), .sc (.int .i64 0), .row false (.rEntry []), .sc (.int .i64 0), .sc (.int .i64 0), .sc (.int .i64 0), .sc (.int .i64 0), .sc (.int .i64 0), .sc (.int .i64 0), .sc (.int .i64 0), .sc (.int .i64 0), .sc (.int .i64 0), .sc (.int .i64 0)] []),
  o1 11 (.box 44 22 false (.s 10)),
  o1 4 (.mv false (.s 11)),
  o1 5 (.mv false (.k (.sc (.int .i64 230))))]
def g_reno_begun_3 : List (IStep2 RW) := [o1 13 (.mv false (.s 1)),
  o1 14 (.call 51 [(false, .s 13)] [] []),
  o1 15 (.un .not (.s 14)),
  o1 12 (.mv false (.s 15))]
def g_reno_begun_4 : List (IStep2 RW) := [o1 16 (.build [.sc (.int .i64 0), .sc (.int .i64 0), .sc (.int .i64 0), .sc (.int .i64 0), .sc (.int .i64 0), .sc (.int .i64 0), .sc (.int .i64 0), .sc (.int .i64 0), .sc (.int .i64 0), .sc (.int .i64 0), .sc (.int .i64 0), .row false (.rEntry []), .sc (.int .i64 0), .sc (.int .i64 0), .sc (.int .i64 0), .sc (.int .i64 0), .sc (.int .i64 0), .sc (.int .i64 0), .sc (.int .i64 0), .sc (.int .i64 0), .sc (.int .i64 0), .sc (.int .i64 0)] []),
  o1 17 (.box 44 22 false (.s 16)),
  o1 4 (.mv false (.s 17)),
  o1 5 (.mv false (.k (.sc (.int .i64 2))))]
def g_reno_begun_5 : List (IStep2 RW) := [o1 18 (.load 21 0 22 true false 2),
  o1 19 (.build [.sc (.int .i64 0), .sc (.int .i64 0), .sc (.int .i64 0), .sc (.int .i64 0), .sc (.int .i64 0), .sc (.int .i64 0), .sc (.int .i64 0), .sc (.int .i64 0), .sc (.int .i64 0), .sc (.int .i64 0), .sc (.int .i64 0), .row false (.rEntry []), .sc (.int .i64 0), .sc (.int .i64 0), .sc (.int .i64 0), .sc (.int .i64 0), .sc (.int .i64 0), .sc (.int .i64 0), .sc (.int .i64 0), .sc (.int .i64 0), .sc (.int .i64 0), .sc (.int .i64 0)] [(0, 22, .s 18)]),
  o1 20 (.box 44 22 false (.s 19)),
  o1 4 (.mv false (.s 20)),
  o1 5 (.mv false (.k (.sc (.int .i64 0))))]
def i_reno_begun_0 : IC2 RW := .seq (.fin (.reg g_reno_begun_0) [0, 4, 5] []) (.seq (.blk 0 (.seq (.fin (.reg g_reno_begun_1) [7, 8, 9] []) (.cond (.s 6) (.seq (.fin (.reg g_reno_begun_2) [1, 2, 6, 10, 11] [(21, 22)]) (.ret)) (.seq (.fin (.reg g_reno_begun_3) [1, 6, 13, 14, 15] []) (.fin (.cond (.s 12) (.seq (.fin (.reg g_reno_begun_4) [2, 12, 16, 17] [(21, 22)]) (.ret)) (.skip)) [12] []))))) (.seq (.fin (.reg g_reno_begun_5) [2, 18, 19, 20] [(21, 22)]) (.ret)))
def fn_reno_begun : IFn2 RW := ⟨63, 2, 21, 80, [(21, 22), (44, 22)], [], [(44, 22)], [.slot 4, .slot 5], i_reno_begun_0⟩
def g_reno_Loss_0 : List (IStep2 RW) := [o1 2 (.box 38 22 false (.s 0)),
  o1 4 (.alloc 61 [.sc (.int .i64 0), .sc (.int .i64 0), .sc (.int .i64 0), .sc (.int .i64 0), .sc (.int .i64 0), .sc (.int .i64 0), .sc (.int .i64 0), .sc (.int .i64 0), .sc (.int .i64 0), .sc (.int .i64 0), .sc (.int .i64 0), .row true (.rEntry []), .sc (.int .i64 0), .sc (.int .i64 0), .sc (.int .i64 0), .sc (.int .i64 0), .sc (.int .i64 0), .sc (.int .i64 0), .sc (.int .i64 0), .sc (.int .i64 0), .sc (.int .i64 0), .sc (.int .i64 0)]),
  o1 5 (.mv false (.k (.sc (.int .i64 0))))]
def g_reno_Loss_1 : List (IStep2 RW) := [o1 9 (.load 38 0 22 true false 2),
  o1 10 (.mv false (.s 1)),
  o1 11 (.call 63 [(false, .s 9), (false, .s 10)] [] [(44, 22, 84)]),
  o1 8 (.mv true (.s 11)),
  o1 12 (.ext false 0 (.s 8)),
  o1 13 (.ext true 1 (.s 8)),
  o1 6 (.mv false (.s 12)),
  o1 7 (.mv false (.s 13))]
def g_reno_Loss_2 : List (IStep2 RW) := [o1 14 (.mv false (.s 7)),
  o1 15 (.bin .eql (.s 14) (.k (.sc (.int .i64 0))))]
def g_reno_Loss_3 : List (IStep2 RW) := [o1 16 (.mv false (.s 6)),
  o1 17 (.mv false (.s 6)),
  o1 18 (.mv false (.s 6)),
  o1 19 (.nil (.s 18)),
  o1 20 (.fld 0 (.s 19)),
  o1 21 (.fld 1 (.s 20)),
  o1 22 (.load 84 1 1 false false 21),
  o1 23 (.bin .mul (.k (.sc (.int .i64 2))) (.s 22)),
  o1 24 (.mv false (.s 1)),
  o1 25 (.bin .quo (.s 24) (.k (.sc (.int .i64 2)))),
  o1 26 (.mnmx true [.s 23, .s 25]),
  o1 27 (.nil (.s 16)),
  o1 28 (.fld 0 (.s 27)),
  o1 29 (.fld 3 (.s 28)),
  o0 (.store 84 3 1 false 29 (.s 26)),
  o1 30 (.nil (.s 17)),
  o1 31 (.fld 0 (.s 30)),
  o1 32 (.fld 4 (.s 31)),
  o0 (.store 84 4 1 false 32 (.k (.sc (.int .i64 0))))]
def g_reno_Loss_4 : List (IStep2 RW) := [o1 33 (.mv false (.s 6)),
  o1 34 (.nil (.s 33)),
  o1 35 (.fld 0 (.s 34)),
  o1 36 (.load 84 0 22 true true 35),
  o1 37 (.mv false (.s 7)),
  o0 (.store 61 0 22 true 4 (.s 36)),
  o1 5 (.mv false (.s 37))]
def i_reno_Loss_0 : IC2 RW := .seq (.fin (.reg g_reno_Loss_0) [0, 5] []) (.seq (.fin (.reg g_reno_Loss_1) [2, 8, 9, 10, 11, 12, 13] [(38, 22)]) (.seq (.seq (.fin (.reg g_reno_Loss_2) [14] []) (.fin (.cond (.s 15) (.fin (.reg g_reno_Loss_3) [1, 15, 16, 17, 18, 19, 20, 21, 22, 23, 24, 25, 26, 27, 28, 29, 30, 31, 32] []) (.skip)) [1, 15] [])) (.seq (.fin (.reg g_reno_Loss_4) [6, 7, 33, 34, 35, 36, 37] [(84, 22)]) (.ret))))
def fn_reno_Loss : IFn2 RW := ⟨43, 2, 38, 112, [(38, 22), (61, 22), (84, 22)], [], [], [.cell 4 61 22 true, .slot 5], i_reno_Loss_0⟩
def g_cubic_ctl_fall_0 : List (IStep2 RW) := [o1 3 (.mv false (.s 0)),
  o1 4 (.nil (.s 3)),
  o1 5 (.fld 0 (.s 4)),
  o1 6 (.fld 2 (.s 5)),
  o1 7 (.load 57 2 1 false false 6),
  o1 2 (.mv false (.s 7))]
def g_cubic_ctl_fall_1 : List (IStep2 RW) := [o1 8 (.mv false (.s 0)),
  o1 9 (.nil (.s 8)),
  o1 10 (.fld 0 (.s 9)),
  o1 11 (.fld 2 (.s 10)),
  o1 12 (.load 57 2 1 false false 11),
  o1 13 (.mv false (.s 0)),
  o1 14 (.nil (.s 13)),
  o1 15 (.fld 0 (.s 14)),
  o1 16 (.fld 5 (.s 15)),
  o1 17 (.load 57 5 1 false false 16),
  o1 18 (.bin .lss (.s 12) (.s 17))]
def g_cubic_ctl_fall_2 : List (IStep2 RW) := [o1 19 (.mv false (.s 0)),
  o1 20 (.nil (.s 19)),
  o1 21 (.fld 0 (.s 20)),
  o1 22 (.fld 2 (.s 21)),
  o1 23 (.load 57 2 1 false false 22),
  o1 24 (.bin .mul (.k (.sc (.int .i64 17))) (.s 23)),
  o1 25 (.bin .quo (.s 24) (.k (.sc (.int .i64 20)))),
  o1 2 (.mv false (.s 25))]
def g_cubic_ctl_fall_3 : List (IStep2 RW) := [o1 26 (.mv false (.s 0)),
  o1 27 (.mv false (.s 0)),
  o1 28 (.mv false (.s 0)),
  o1 29 (.mv false (.s 0)),
  o1 30 (.mv false (.s 2)),
  o1 31 (.mv false (.s 0)),
  o1 32 (.nil (.s 31)),
  o1 33 (.fld 0 (.s 32)),
  o1 34 (.fld 1 (.s 33)),
  o1 35 (.load 57 1 1 false false 34),
  o1 36 (.bin .mul (.k (.sc (.int .i64 2))) (.s 35)),
  o1 37 (.mv false (.s 0)),
  o1 38 (.nil (.s 37)),
  o1 39 (.fld 0 (.s 38)),
  o1 40 (.fld 2 (.s 39)),
  o1 41 (.load 57 2 1 false false 40),
  o1 42 (.bin .mul (.k (.sc (.int .i64 7))) (.s 41)),
  o1 43 (.bin .quo (.s 42) (.k (.sc (.int .i64 10)))),
  o1 44 (.mnmx true [.s 36, .s 43]),
  o1 45 (.nil (.s 26)),
  o1 46 (.fld 0 (.s 45)),
  o1 47 (.fld 5 (.s 46)),
  o0 (.store 57 5 1 false 47 (.s 30)),
  o1 48 (.nil (.s 27)),
  o1 49 (.fld 0 (.s 48)),
  o1 50 (.fld 3 (.s 49)),
  o0 (.store 57 3 1 false 50 (.s 44)),
  o1 51 (.nil (.s 28)),
  o1 52 (.fld 0 (.s 51)),
  o1 53 (.fld 6 (.s 52)),
  o0 (.store 57 6 1 false 53 (.k (.sc (.int .i64 (-1))))),
  o1 54 (.nil (.s 29)),
  o1 55 (.fld 0 (.s 54)),
  o1 56 (.fld 4 (.s 55)),
  o0 (.store 57 4 1 false 56 (.k (.sc (.int .i64 0))))]
def i_cubic_ctl_fall_0 : IC2 RW := .seq (.fin (.reg g_cubic_ctl_fall_0) [3, 4, 5, 6, 7] []) (.seq (.seq (.fin (.reg g_cubic_ctl_fall_1) [8, 9, 10, 11, 12, 13, 14, 15, 16, 17] []) (.fin (.cond (.s 18) (.fin (.reg g_cubic_ctl_fall_2) [18, 19, 20, 21, 22, 23, 24, 25] []) (.skip)) [18] [])) (.fin (.reg g_cubic_ctl_fall_3) [0, 2, 26, 27, 28, 29, 30, 31, 32, 33, 34, 35, 36, 37, 38, 39, 40, 41, 42, 43, 44, 45, 46, 47, 48, 49, 50, 51, 52, 53, 54, 55, 56] []))
def fn_cubic_ctl_fall : IFn2 RW := ⟨65, 1, 57, 80, [(57, 22)], [(57, 22)], [], [], i_cubic_ctl_fall_0⟩
def g_cubic_moved_0 : List (IStep2 RW) := [o1 3 (.box 30 22 false (.s 0)),
  o1 6 (.alloc 53 [.sc (.int .i64 0), .sc (.int .i64 0), .sc (.int .i64 0), .sc (.int .i64 0), .sc (.int .i64 0), .sc (.int .i64 0), .sc (.int .i64 0), .sc (.int .i64 0), .sc (.int .i64 0), .sc (.int .i64 0), .sc (.int .i64 0), .row false (.rEntry []), .sc (.int .i64 0), .sc (.int .i64 0), .sc (.int .i64 0), .sc (.int .i64 0), .sc (.int .i64 0), .sc (.int .i64 0), .sc (.int .i64 0), .sc (.int .i64 0), .sc (.int .i64 0), .sc (.int .i64 0)]),
  o1 7 (.mv false (.k (.sc (.int .i64 0))))]
def g_cubic_moved_1 : List (IStep2 RW) := [o1 10 (.load 30 0 22 true false 3),
  o1 11 (.call 29 [(false, .s 10)] [] []),
  o1 12 (.bin .neq (.s 11) (.k (.sc (.int .i64 0)))),
  o1 9 (.mv false (.s 12))]
def g_cubic_moved_2 : List (IStep2 RW) := [o1 13 (.build [.sc (.int .i64 0), .sc (.int .i64 0), .sc (.int .i64 0), .sc (.int .i64 0), .sc (.int .i64 0), .sc (.int .i64 0), .sc (.int .i64 0), .sc (.int .i64 0), .sc (.int .i64 0), .sc (.int .i64 0), .sc (.int .i64 0), .row false (.rEntry []), .sc (.int .i64 0), .sc (.int .i64 0), .sc (.int .i64 0), .sc (.int .i64 0), .sc (.int .i64 0), .sc (.int .i64 0), .sc (.int .i64 0), .sc (.int .i64 0), .sc (.int .i64 0), .sc (.int .i64 0)] []),
  o0 (.store 53 0 22 false 6 (.s 13)),
  o1 7 (.mv false (.k (.sc (.int .i64 230))))]
def g_cubic_moved_3 : List (IStep2 RW) := [o1 15 (.mv false (.s 1)),
  o1 16 (.bslice 3 1 [(0, 1, .s 15)]),
  o1 17 (.call 53 [(false, .s 16)] [] []),
  o1 18 (.un .not (.s 17)),
  o1 14 (.mv false (.s 18))]
def g_cubic_moved_4 : List (IStep2 RW) := [o1 19 (.build [.sc (.int .i64 0), .sc (.int .i64 0), .sc (.int .i64 0), .sc (.int .i64 0), .sc (.int .i64 0), .sc (.int .i64 0), .sc (.int .i64 0), .sc (.int .i64 0), .sc (.int .i64 0), .sc (.int .i64 0), .sc (.int .i64 0), .row false (.rEntry []), .sc (.int .i64 0), .sc (.int .i64 0), .sc (.int .i64 0), .sc (.int .i64 0), .sc (.int .i64 0), .sc (.int .i64 0), .sc (.int .i64 0), .sc (.int .i64 0), .sc (.int .i64 0), .sc (.int .i64 0)] []),
  o0 (.store 53 0 22 false 6 (.s 19)),
  o1 7 (.mv false (.k (.sc (.int .i64 2))))]
def g_cubic_moved_5 : List (IStep2 RW) := [o1 20 (.load 30 0 22 true false 3),
  o1 21 (.build [.sc (.int .i64 0), .sc (.int .i64 0), .sc (.int .i64 0), .sc (.int .i64 0), .sc (.int .i64 0), .sc (.int .i64 0), .sc (.int .i64 0), .sc (.int .i64 0), .sc (.int .i64 0), .sc (.int .i64 0), .sc (.int .i64 0), .row false (.rEntry []), .sc (.int .i64 0), .sc (.int .i64 0), .sc (.int .i64 0), .sc (.int .i64 0), .sc (.int .i64 0), .sc (.int .i64 0), .sc (.int .i64 0), .sc (.int .i64 0), .sc (.int .i64 0), .sc (.int .i64 0)] [(0, 22, .s 20)]),
  o1 22 (.box 76 22 false (.s 21)),
  o1 8 (.mv false (.s 22))]
def g_cubic_moved_6 : List (IStep2 RW) := [o1 23 (.mv false (.s 2)),
  o1 24 (.mv false (.s 8)),
  o1 25 (.callv (.s 23) 65 1037 [(false, .s 24)] [(76, 22, 57)] [])]
def g_cubic_moved_7 : List (IStep2 RW) := [o1 26 (.mv false (.s 8)),
  o1 27 (.nil (.s 26)),
  o1 28 (.fld 0 (.s 27)),
  o1 29 (.load 76 0 22 true false 28),
  o0 (.store 53 0 22 false 6 (.s 29)),
  o1 7 (.mv false (.k (.sc (.int .i64 0))))]
def i_cubic_moved_0 : IC2 RW := .seq (.fin (.reg g_cubic_moved_0) [0, 7] []) (.seq (.blk 0 (.seq (.fin (.reg g_cubic_moved_1) [10, 11, 12] []) (.cond (.s 9) (.seq (.fin (.reg g_cubic_moved_2) [1, 2, 3, 9, 13] [(30, 22)]) (.ret)) (.seq (.fin (.reg g_cubic_moved_3) [1, 9, 15, 16, 17, 18] []) (.fin (.cond (.s 14) (.seq (.fin (.reg g_cubic_moved_4) [2, 3, 14, 19] [(30, 22)]) (.ret)) (.skip)) [14] []))))) (.seq (.fin (.reg g_cubic_moved_5) [3, 20, 21, 22] [(30, 22)]) (.seq (.fin (.reg g_cubic_moved_6) [2, 23, 24, 25] []) (.seq (.fin (.reg g_cubic_moved_7) [8, 26, 27, 28, 29] [(76, 22)]) (.ret)))))
def fn_cubic_moved : IFn2 RW := ⟨64, 3, 30, 112, [(30, 22), (53, 22), (76, 22)], [], [], [.cell 6 53 22 true, .slot 7], i_cubic_moved_0⟩
def g_cubic_Loss_0 : List (IStep2 RW) := [o1 2 (.box 11 22 false (.s 0)),
  o1 4 (.alloc 34 [.sc (.int .i64 0), .sc (.int .i64 0), .sc (.int .i64 0), .sc (.int .i64 0), .sc (.int .i64 0), .sc (.int .i64 0), .sc (.int .i64 0), .sc (.int .i64 0), .sc (.int .i64 0), .sc (.int .i64 0), .sc (.int .i64 0), .row true (.rEntry []), .sc (.int .i64 0), .sc (.int .i64 0), .sc (.int .i64 0), .sc (.int .i64 0), .sc (.int .i64 0), .sc (.int .i64 0), .sc (.int .i64 0), .sc (.int .i64 0), .sc (.int .i64 0), .sc (.int .i64 0)]),
  o1 5 (.mv false (.k (.sc (.int .i64 0))))]
def g_cubic_Loss_1 : List (IStep2 RW) := [o1 6 (.load 11 0 22 true false 2),
  o1 7 (.mv false (.s 1)),
  o1 8 (.call 1036 [(false, .s 6), (false, .s 7), (false, .k (.clo 65 []))] [] []),
  o1 9 (.ext true 0 (.s 8)),
  o1 10 (.ext true 1 (.s 8)),
  o0 (.store 34 0 22 true 4 (.s 9)),
  o1 5 (.mv false (.s 10))]
def i_cubic_Loss_0 : IC2 RW := .seq (.fin (.reg g_cubic_Loss_0) [0, 5] []) (.seq (.fin (.reg g_cubic_Loss_1) [1, 2, 6, 7, 8, 9, 10] [(11, 22)]) (.ret))
def fn_cubic_Loss : IFn2 RW := ⟨44, 2, 11, 64, [(11, 22), (34, 22)], [], [], [.cell 4 34 22 true, .slot 5], i_cubic_Loss_0⟩
def g_cc_Loss_0 : List (IStep2 RW) := [o1 2 (.box 32 22 false (.s 0)),
  o1 4 (.alloc 55 [.sc (.int .i64 0), .sc (.int .i64 0), .sc (.int .i64 0), .sc (.int .i64 0), .sc (.int .i64 0), .sc (.int .i64 0), .sc (.int .i64 0), .sc (.int .i64 0), .sc (.int .i64 0), .sc (.int .i64 0), .sc (.int .i64 0), .row false (.rEntry []), .sc (.int .i64 0), .sc (.int .i64 0), .sc (.int .i64 0), .sc (.int .i64 0), .sc (.int .i64 0), .sc (.int .i64 0), .sc (.int .i64 0), .sc (.int .i64 0), .sc (.int .i64 0), .sc (.int .i64 0)]),
  o1 5 (.mv false (.k (.sc (.int .i64 0))))]
def g_cc_Loss_1 : List (IStep2 RW) := [o1 7 (.load 32 0 22 true false 2),
  o1 8 (.mv false (.s 1)),
  o1 9 (.call 33 [(false, .s 8)] [] []),
  o1 10 (.call 31 [(false, .s 7), (false, .s 9)] [] []),
  o1 6 (.mv false (.s 10))]
def g_cc_Loss_2 : List (IStep2 RW) := [o1 11 (.mv false (.s 6)),
  o1 12 (.bin .neq (.s 11) (.k (.sc (.int .i64 0))))]
def g_cc_Loss_3 : List (IStep2 RW) := [o1 13 (.build [.sc (.int .i64 0), .sc (.int .i64 0), .sc (.int .i64 0), .sc (.int .i64 0), .sc (.int .i64 0), .sc (.int .i64 0), .sc (.int .i64 0), .sc (.int .i64 0), .sc (.int .i64 0), .sc (.int .i64 0), .sc (.int .i64 0), .row false (.rEntry []), .sc (.int .i64 0), .sc (.int .i64 0), .sc (.int .i64 0), .sc (.int .i64 0), .sc (.int .i64 0), .sc (.int .i64 0), .sc (.int .i64 0), .sc (.int .i64 0), .sc (.int .i64 0), .sc (.int .i64 0)] []),
  o1 14 (.mv false (.s 6)),
  o0 (.store 55 0 22 false 4 (.s 13)),
  o1 5 (.mv false (.s 14))]
def g_cc_Loss_4 : List (IStep2 RW) := [o1 15 (.fld 0 (.s 2)),
  o1 16 (.load 32 0 1 false false 15)]
def g_cc_Loss_5 : List (IStep2 RW) := [o1 18 (.bin .eql (.s 16) (.k (.sc (.int .i64 1)))),
  o1 17 (.mv false (.s 18))]
def g_cc_Loss_6 : List (IStep2 RW) := [o1 19 (.load 32 0 22 true false 2),
  o1 20 (.mv false (.s 1)),
  o1 21 (.call 43 [(false, .s 19), (false, .s 20)] [] []),
  o1 22 (.ext false 0 (.s 21)),
  o1 23 (.ext false 1 (.s 21)),
  o0 (.store 55 0 22 false 4 (.s 22)),
  o1 5 (.mv false (.s 23))]
def g_cc_Loss_7 : List (IStep2 RW) := [o1 25 (.bin .eql (.s 16) (.k (.sc (.int .i64 2)))),
  o1 24 (.mv false (.s 25))]
def g_cc_Loss_8 : List (IStep2 RW) := [o1 26 (.load 32 0 22 true false 2),
  o1 27 (.mv false (.s 1)),
  o1 28 (.call 44 [(false, .s 26), (false, .s 27)] [] []),
  o1 29 (.ext false 0 (.s 28)),
  o1 30 (.ext false 1 (.s 28)),
  o0 (.store 55 0 22 false 4 (.s 29)),
  o1 5 (.mv false (.s 30))]
def g_cc_Loss_9 : List (IStep2 RW) := [o1 31 (.load 32 0 22 true false 2),
  o0 (.store 55 0 22 false 4 (.s 31)),
  o1 5 (.mv false (.k (.sc (.int .i64 0))))]
def i_cc_Loss_0 : IC2 RW := .seq (.fin (.reg g_cc_Loss_0) [0, 5] []) (.seq (.seq (.fin (.reg g_cc_Loss_1) [7, 8, 9, 10] []) (.seq (.fin (.reg g_cc_Loss_2) [11] []) (.fin (.cond (.s 12) (.seq (.fin (.reg g_cc_Loss_3) [1, 2, 6, 12, 13, 14] [(32, 22)]) (.ret)) (.skip)) [6, 12] []))) (.seq (.seq (.fin (.reg g_cc_Loss_4) [15] []) (.blk 0 (.seq (.fin (.reg g_cc_Loss_5) [18] []) (.cond (.s 17) (.seq (.fin (.reg g_cc_Loss_6) [1, 2, 16, 17, 19, 20, 21, 22, 23] [(32, 22)]) (.ret)) (.seq (.fin (.reg g_cc_Loss_7) [16, 17, 25] []) (.fin (.cond (.s 24) (.seq (.fin (.reg g_cc_Loss_8) [1, 2, 24, 26, 27, 28, 29, 30] [(32, 22)]) (.ret)) (.skip)) [1, 24] [])))))) (.seq (.fin (.reg g_cc_Loss_9) [2, 31] [(32, 22)]) (.ret))))
def fn_cc_Loss : IFn2 RW := ⟨18, 2, 32, 80, [(32, 22), (55, 22)], [], [], [.cell 4 55 22 true, .slot 5], i_cc_Loss_0⟩
def g_reno_Timeout_0 : List (IStep2 RW) := [o1 2 (.box 19 22 false (.s 0)),
  o1 4 (.alloc 42 [.sc (.int .i64 0), .sc (.int .i64 0), .sc (.int .i64 0), .sc (.int .i64 0), .sc (.int .i64 0), .sc (.int .i64 0), .sc (.int .i64 0), .sc (.int .i64 0), .sc (.int .i64 0), .sc (.int .i64 0), .sc (.int .i64 0), .row true (.rEntry []), .sc (.int .i64 0), .sc (.int .i64 0), .sc (.int .i64 0), .sc (.int .i64 0), .sc (.int .i64 0), .sc (.int .i64 0), .sc (.int .i64 0), .sc (.int .i64 0), .sc (.int .i64 0), .sc (.int .i64 0)]),
  o1 5 (.mv false (.k (.sc (.int .i64 0))))]
def g_reno_Timeout_1 : List (IStep2 RW) := [o1 9 (.load 19 0 22 true false 2),
  o1 10 (.mv false (.s 1)),
  o1 11 (.call 43 [(false, .s 9), (false, .s 10)] [] []),
  o1 8 (.mv true (.s 11)),
  o1 12 (.ext true 0 (.s 8)),
  o1 13 (.ext true 1 (.s 8)),
  o1 6 (.alloc 65 [.sc (.int .i64 0), .sc (.int .i64 0), .sc (.int .i64 0), .sc (.int .i64 0), .sc (.int .i64 0), .sc (.int .i64 0), .sc (.int .i64 0), .sc (.int .i64 0), .sc (.int .i64 0), .sc (.int .i64 0), .sc (.int .i64 0), .row true (.rEntry []), .sc (.int .i64 0), .sc (.int .i64 0), .sc (.int .i64 0), .sc (.int .i64 0), .sc (.int .i64 0), .sc (.int .i64 0), .sc (.int .i64 0), .sc (.int .i64 0), .sc (.int .i64 0), .sc (.int .i64 0)]),
  o0 (.store 65 0 22 true 6 (.s 12)),
  o1 7 (.mv false (.s 13))]
def g_reno_Timeout_2 : List (IStep2 RW) := [o1 14 (.fld 1 (.s 6)),
  o1 15 (.load 65 1 1 false false 14),
  o1 16 (.fld 2 (.s 6)),
  o0 (.store 65 2 1 false 16 (.s 15))]
def g_reno_Timeout_3 : List (IStep2 RW) := [o1 17 (.load 65 0 22 true true 6),
  o1 18 (.mv false (.s 7)),
  o0 (.store 42 0 22 true 4 (.s 17)),
  o1 5 (.mv false (.s 18))]
def i_reno_Timeout_0 : IC2 RW := .seq (.fin (.reg g_reno_Timeout_0) [0, 5] []) (.seq (.fin (.reg g_reno_Timeout_1) [1, 2, 8, 9, 10, 11, 12, 13] [(19, 22)]) (.seq (.fin (.reg g_reno_Timeout_2) [14, 15, 16] []) (.seq (.fin (.reg g_reno_Timeout_3) [6, 7, 17, 18] [(65, 22)]) (.ret))))
def fn_reno_Timeout : IFn2 RW := ⟨45, 2, 19, 96, [(19, 22), (42, 22), (65, 22)], [], [], [.cell 4 42 22 true, .slot 5], i_reno_Timeout_0⟩
def g_cubic_ctl_shut_0 : List (IStep2 RW) := [o1 2 (.mv false (.s 0)),
  o1 3 (.call 1037 [(false, .s 2)] [(13, 22, 57)] [])]
def g_cubic_ctl_shut_1 : List (IStep2 RW) := [o1 4 (.mv false (.s 0)),
  o1 5 (.mv false (.s 0)),
  o1 6 (.nil (.s 5)),
  o1 7 (.fld 0 (.s 6)),
  o1 8 (.fld 1 (.s 7)),
  o1 9 (.load 13 1 1 false false 8),
  o1 10 (.nil (.s 4)),
  o1 11 (.fld 0 (.s 10)),
  o1 12 (.fld 2 (.s 11)),
  o0 (.store 13 2 1 false 12 (.s 9))]
def i_cubic_ctl_shut_0 : IC2 RW := .seq (.fin (.reg g_cubic_ctl_shut_0) [2, 3] []) (.fin (.reg g_cubic_ctl_shut_1) [0, 4, 5, 6, 7, 8, 9, 10, 11, 12] [])
def fn_cubic_ctl_shut : IFn2 RW := ⟨66, 1, 13, 48, [(13, 22)], [(13, 22)], [], [], i_cubic_ctl_shut_0⟩
def g_cubic_moved_b_0 : List (IStep2 RW) := [o1 3 (.box 30 22 false (.s 0)),
  o1 6 (.alloc 53 [.sc (.int .i64 0), .sc (.int .i64 0), .sc (.int .i64 0), .sc (.int .i64 0), .sc (.int .i64 0), .sc (.int .i64 0), .sc (.int .i64 0), .sc (.int .i64 0), .sc (.int .i64 0), .sc (.int .i64 0), .sc (.int .i64 0), .row false (.rEntry []), .sc (.int .i64 0), .sc (.int .i64 0), .sc (.int .i64 0), .sc (.int .i64 0), .sc (.int .i64 0), .sc (.int .i64 0), .sc (.int .i64 0), .sc (.int .i64 0), .sc (.int .i64 0), .sc (.int .i64 0)]),
  o1 7 (.mv false (.k (.sc (.int .i64 0))))]
def g_cubic_moved_b_1 : List (IStep2 RW) := [o1 10 (.load 30 0 22 true false 3),
  o1 11 (.call 29 [(false, .s 10)] [] []),
  o1 12 (.bin .neq (.s 11) (.k (.sc (.int .i64 0)))),
  o1 9 (.mv false (.s 12))]
def g_cubic_moved_b_2 : List (IStep2 RW) := [o1 13 (.build [.sc (.int .i64 0), .sc (.int .i64 0), .sc (.int .i64 0), .sc (.int .i64 0), .sc (.int .i64 0), .sc (.int .i64 0), .sc (.int .i64 0), .sc (.int .i64 0), .sc (.int .i64 0), .sc (.int .i64 0), .sc (.int .i64 0), .row false (.rEntry []), .sc (.int .i64 0), .sc (.int .i64 0), .sc (.int .i64 0), .sc (.int .i64 0), .sc (.int .i64 0), .sc (.int .i64 0), .sc (.int .i64 0), .sc (.int .i64 0), .sc (.int .i64 0), .sc (.int .i64 0)] []),
  o0 (.store 53 0 22 false 6 (.s 13)),
  o1 7 (.mv false (.k (.sc (.int .i64 230))))]
def g_cubic_moved_b_3 : List (IStep2 RW) := [o1 15 (.mv false (.s 1)),
  o1 16 (.bslice 3 1 [(0, 1, .s 15)]),
  o1 17 (.call 53 [(false, .s 16)] [] []),
  o1 18 (.un .not (.s 17)),
  o1 14 (.mv false (.s 18))]
def g_cubic_moved_b_4 : List (IStep2 RW) := [o1 19 (.build [.sc (.int .i64 0), .sc (.int .i64 0), .sc (.int .i64 0), .sc (.int .i64 0), .sc (.int .i64 0), .sc (.int .i64 0), .sc (.int .i64 0), .sc (.int .i64 0), .sc (.int .i64 0), .sc (.int .i64 0), .sc (.int .i64 0), .row false (.rEntry []), .sc (.int .i64 0), .sc (.int .i64 0), .sc (.int .i64 0), .sc (.int .i64 0), .sc (.int .i64 0), .sc (.int .i64 0), .sc (.int .i64 0), .sc (.int .i64 0), .sc (.int .i64 0), .sc (.int .i64 0)] []),
  o0 (.store 53 0 22 false 6 (.s 19)),
  o1 7 (.mv false (.k (.sc (.int .i64 2))))]
def g_cubic_moved_b_5 : List (IStep2 RW) := [o1 20 (.load 30 0 22 true false 3),
  o1 21 (.build [.sc (.int .i64 0), .sc (.int .i64 0), .sc (.int .i64 0), .sc (.int .i64 0), .sc (.int .i64 0), .sc (.int .i64 0), .sc (.int .i64 0), .sc (.int .i64 0), .sc (.int .i64 0), .sc (.int .i64 0), .sc (.int .i64 0), .row false (.rEntry []), .sc (.int .i64 0), .sc (.int .i64 0), .sc (.int .i64 0), .sc (.int .i64 0), .sc (.int .i64 0), .sc (.int .i64 0), .sc (.int .i64 0), .sc (.int .i64 0), .sc (.int .i64 0), .sc (.int .i64 0)] [(0, 22, .s 20)]),
  o1 22 (.box 76 22 false (.s 21)),
  o1 8 (.mv false (.s 22))]
def g_cubic_moved_b_6 : List (IStep2 RW) := [o1 23 (.mv false (.s 2)),
  o1 24 (.mv false (.s 8)),
  o1 25 (.callv (.s 23) 66 1042 [(false, .s 24)] [(76, 22, 13)] [])]
def g_cubic_moved_b_7 : List (IStep2 RW) := [o1 26 (.mv false (.s 8)),
  o1 27 (.nil (.s 26)),
  o1 28 (.fld 0 (.s 27)),
  o1 29 (.load 76 0 22 true false 28),
  o0 (.store 53 0 22 false 6 (.s 29)),
  o1 7 (.mv false (.k (.sc (.int .i64 0))))]
def i_cubic_moved_b_0 : IC2 RW := .seq (.fin (.reg g_cubic_moved_b_0) [0, 7] []) (.seq (.blk 0 (.seq (.fin (.reg g_cubic_moved_b_1) [10, 11, 12] []) (.cond (.s 9) (.seq (.fin (.reg g_cubic_moved_b_2) [1, 2, 3, 9, 13] [(30, 22)]) (.ret)) (.seq (.fin (.reg g_cubic_moved_b_3) [1, 9, 15, 16, 17, 18] []) (.fin (.cond (.s 14) (.seq (.fin (.reg g_cubic_moved_b_4) [2, 3, 14, 19] [(30, 22)]) (.ret)) (.skip)) [14] []))))) (.seq (.fin (.reg g_cubic_moved_b_5) [3, 20, 21, 22] [(30, 22)]) (.seq (.fin (.reg g_cubic_moved_b_6) [2, 23, 24, 25] []) (.seq (.fin (.reg g_cubic_moved_b_7) [8, 26, 27, 28, 29] [(76, 22)]) (.ret)))))
def fn_cubic_moved_b : IFn2 RW := ⟨64, 3, 30, 112, [(30, 22), (53, 22), (76, 22)], [], [], [.cell 6 53 22 true, .slot 7], i_cubic_moved_b_0⟩
def g_cubic_Timeout_0 : List (IStep2 RW) := [o1 2 (.box 11 22 false (.s 0)),
  o1 4 (.alloc 34 [.sc (.int .i64 0), .sc (.int .i64 0), .sc (.int .i64 0), .sc (.int .i64 0), .sc (.int .i64 0), .sc (.int .i64 0), .sc (.int .i64 0), .sc (.int .i64 0), .sc (.int .i64 0), .sc (.int .i64 0), .sc (.int .i64 0), .row true (.rEntry []), .sc (.int .i64 0), .sc (.int .i64 0), .sc (.int .i64 0), .sc (.int .i64 0), .sc (.int .i64 0), .sc (.int .i64 0), .sc (.int .i64 0), .sc (.int .i64 0), .sc (.int .i64 0), .sc (.int .i64 0)]),
  o1 5 (.mv false (.k (.sc (.int .i64 0))))]
def g_cubic_Timeout_1 : List (IStep2 RW) := [o1 6 (.load 11 0 22 true false 2),
  o1 7 (.mv false (.s 1)),
  o1 8 (.call 1041 [(false, .s 6), (false, .s 7), (false, .k (.clo 66 []))] [] []),
  o1 9 (.ext true 0 (.s 8)),
  o1 10 (.ext true 1 (.s 8)),
  o0 (.store 34 0 22 true 4 (.s 9)),
  o1 5 (.mv false (.s 10))]
def i_cubic_Timeout_0 : IC2 RW := .seq (.fin (.reg g_cubic_Timeout_0) [0, 5] []) (.seq (.fin (.reg g_cubic_Timeout_1) [1, 2, 6, 7, 8, 9, 10] [(11, 22)]) (.ret))
def fn_cubic_Timeout : IFn2 RW := ⟨46, 2, 11, 64, [(11, 22), (34, 22)], [], [], [.cell 4 34 22 true, .slot 5], i_cubic_Timeout_0⟩
def g_bbr_Timeout_0 : List (IStep2 RW) := [o1 2 (.box 24 22 true (.s 0)),
  o1 4 (.alloc 47 [.sc (.int .i64 0), .sc (.int .i64 0), .sc (.int .i64 0), .sc (.int .i64 0), .sc (.int .i64 0), .sc (.int .i64 0), .sc (.int .i64 0), .sc (.int .i64 0), .sc (.int .i64 0), .sc (.int .i64 0), .sc (.int .i64 0), .row false (.rEntry []), .sc (.int .i64 0), .sc (.int .i64 0), .sc (.int .i64 0), .sc (.int .i64 0), .sc (.int .i64 0), .sc (.int .i64 0), .sc (.int .i64 0), .sc (.int .i64 0), .sc (.int .i64 0), .sc (.int .i64 0)]),
  o1 5 (.mv false (.k (.sc (.int .i64 0))))]
def g_bbr_Timeout_1 : List (IStep2 RW) := [o1 7 (.load 24 0 22 true false 2),
  o1 8 (.call 30 [(false, .s 7)] [] []),
  o1 9 (.bin .neq (.s 8) (.k (.sc (.int .i64 0)))),
  o1 6 (.mv false (.s 9))]
def g_bbr_Timeout_2 : List (IStep2 RW) := [o1 10 (.build [.sc (.int .i64 0), .sc (.int .i64 0), .sc (.int .i64 0), .sc (.int .i64 0), .sc (.int .i64 0), .sc (.int .i64 0), .sc (.int .i64 0), .sc (.int .i64 0), .sc (.int .i64 0), .sc (.int .i64 0), .sc (.int .i64 0), .row false (.rEntry []), .sc (.int .i64 0), .sc (.int .i64 0), .sc (.int .i64 0), .sc (.int .i64 0), .sc (.int .i64 0), .sc (.int .i64 0), .sc (.int .i64 0), .sc (.int .i64 0), .sc (.int .i64 0), .sc (.int .i64 0)] []),
  o0 (.store 47 0 22 true 4 (.s 10)),
  o1 5 (.mv false (.k (.sc (.int .i64 230))))]
def g_bbr_Timeout_3 : List (IStep2 RW) := [o1 12 (.mv false (.s 1)),
  o1 13 (.bslice 3 1 [(0, 1, .s 12)]),
  o1 14 (.call 54 [(false, .k (.sc (.int .i64 1073741824))), (false, .s 13)] [] []),
  o1 15 (.un .not (.s 14)),
  o1 11 (.mv false (.s 15))]
def g_bbr_Timeout_4 : List (IStep2 RW) := [o1 16 (.build [.sc (.int .i64 0), .sc (.int .i64 0), .sc (.int .i64 0), .sc (.int .i64 0), .sc (.int .i64 0), .sc (.int .i64 0), .sc (.int .i64 0), .sc (.int .i64 0), .sc (.int .i64 0), .sc (.int .i64 0), .sc (.int .i64 0), .row false (.rEntry []), .sc (.int .i64 0), .sc (.int .i64 0), .sc (.int .i64 0), .sc (.int .i64 0), .sc (.int .i64 0), .sc (.int .i64 0), .sc (.int .i64 0), .sc (.int .i64 0), .sc (.int .i64 0), .sc (.int .i64 0)] []),
  o0 (.store 47 0 22 true 4 (.s 16)),
  o1 5 (.mv false (.k (.sc (.int .i64 2))))]
def g_bbr_Timeout_5 : List (IStep2 RW) := [o1 17 (.fld 2 (.s 2)),
  o1 18 (.load 24 2 1 false false 17),
  o1 19 (.fld 1 (.s 2)),
  o1 20 (.load 24 1 1 false false 19),
  o1 21 (.fld 21 (.s 2)),
  o0 (.store 24 21 1 false 21 (.s 18)),
  o1 22 (.fld 2 (.s 2)),
  o0 (.store 24 2 1 false 22 (.s 20))]
def g_bbr_Timeout_6 : List (IStep2 RW) := [o1 23 (.load 24 0 22 true true 2),
  o0 (.store 47 0 22 true 4 (.s 23)),
  o1 5 (.mv false (.k (.sc (.int .i64 0))))]
def i_bbr_Timeout_0 : IC2 RW := .seq (.fin (.reg g_bbr_Timeout_0) [0, 5] []) (.seq (.blk 0 (.seq (.fin (.reg g_bbr_Timeout_1) [7, 8, 9] []) (.cond (.s 6) (.seq (.fin (.reg g_bbr_Timeout_2) [1, 2, 6, 10] [(24, 22)]) (.ret)) (.seq (.fin (.reg g_bbr_Timeout_3) [1, 6, 12, 13, 14, 15] []) (.fin (.cond (.s 11) (.seq (.fin (.reg g_bbr_Timeout_4) [2, 11, 16] [(24, 22)]) (.ret)) (.skip)) [11] []))))) (.seq (.fin (.reg g_bbr_Timeout_5) [17, 18, 19, 20, 21, 22] []) (.seq (.fin (.reg g_bbr_Timeout_6) [2, 23] [(24, 22)]) (.ret))))
def fn_bbr_Timeout : IFn2 RW := ⟨47, 2, 24, 80, [(24, 22), (47, 22)], [], [], [.cell 4 47 22 true, .slot 5], i_bbr_Timeout_0⟩
def g_cc_Timeout_0 : List (IStep2 RW) := [o1 2 (.box 27 22 false (.s 0)),
  o1 4 (.alloc 50 [.sc (.int .i64 0), .sc (.int .i64 0), .sc (.int .i64 0), .sc (.int .i64 0), .sc (.int .i64 0), .sc (.int .i64 0), .sc (.int .i64 0), .sc (.int .i64 0), .sc (.int .i64 0), .sc (.int .i64 0), .sc (.int .i64 0), .row true (.rEntry []), .sc (.int .i64 0), .sc (.int .i64 0), .sc (.int .i64 0), .sc (.int .i64 0), .sc (.int .i64 0), .sc (.int .i64 0), .sc (.int .i64 0), .sc (.int .i64 0), .sc (.int .i64 0), .sc (.int .i64 0)]),
  o1 5 (.mv false (.k (.sc (.int .i64 0))))]
def g_cc_Timeout_1 : List (IStep2 RW) := [o1 6 (.fld 0 (.s 2)),
  o1 7 (.load 27 0 1 false false 6)]
def g_cc_Timeout_2 : List (IStep2 RW) := [o1 9 (.bin .eql (.s 7) (.k (.sc (.int .i64 1)))),
  o1 8 (.mv false (.s 9))]
def g_cc_Timeout_3 : List (IStep2 RW) := [o1 10 (.load 27 0 22 true false 2),
  o1 11 (.mv false (.s 1)),
  o1 12 (.call 45 [(false, .s 10), (false, .s 11)] [] []),
  o1 13 (.ext true 0 (.s 12)),
  o1 14 (.ext true 1 (.s 12)),
  o0 (.store 50 0 22 true 4 (.s 13)),
  o1 5 (.mv false (.s 14))]
def g_cc_Timeout_4 : List (IStep2 RW) := [o1 16 (.bin .eql (.s 7) (.k (.sc (.int .i64 2)))),
  o1 15 (.mv false (.s 16))]
def g_cc_Timeout_5 : List (IStep2 RW) := [o1 17 (.load 27 0 22 true false 2),
  o1 18 (.mv false (.s 1)),
  o1 19 (.call 46 [(false, .s 17), (false, .s 18)] [] []),
  o1 20 (.ext true 0 (.s 19)),
  o1 21 (.ext true 1 (.s 19)),
  o0 (.store 50 0 22 true 4 (.s 20)),
  o1 5 (.mv false (.s 21))]
def g_cc_Timeout_6 : List (IStep2 RW) := [o1 22 (.load 27 0 22 true false 2),
  o1 23 (.mv false (.s 1)),
  o1 24 (.call 47 [(false, .s 22), (false, .s 23)] [] []),
  o1 25 (.ext true 0 (.s 24)),
  o1 26 (.ext true 1 (.s 24)),
  o0 (.store 50 0 22 true 4 (.s 25)),
  o1 5 (.mv false (.s 26))]
def i_cc_Timeout_0 : IC2 RW := .seq (.fin (.reg g_cc_Timeout_0) [0, 5] []) (.seq (.seq (.fin (.reg g_cc_Timeout_1) [6] []) (.blk 0 (.seq (.fin (.reg g_cc_Timeout_2) [9] []) (.cond (.s 8) (.seq (.fin (.reg g_cc_Timeout_3) [1, 2, 7, 8, 10, 11, 12, 13, 14] [(27, 22)]) (.ret)) (.seq (.fin (.reg g_cc_Timeout_4) [7, 8, 16] []) (.fin (.cond (.s 15) (.seq (.fin (.reg g_cc_Timeout_5) [1, 2, 15, 17, 18, 19, 20, 21] [(27, 22)]) (.ret)) (.skip)) [15] [])))))) (.seq (.fin (.reg g_cc_Timeout_6) [1, 2, 22, 23, 24, 25, 26] [(27, 22)]) (.ret)))
def fn_cc_Timeout : IFn2 RW := ⟨19, 2, 27, 80, [(27, 22), (50, 22)], [], [], [.cell 4 50 22 true, .slot 5], i_cc_Timeout_0⟩
def g_cc_Done_0 : List (IStep2 RW) := [o1 1 (.box 21 22 true (.s 0)),
  o1 2 (.alloc 44 [.sc (.int .i64 0), .sc (.int .i64 0), .sc (.int .i64 0), .sc (.int .i64 0), .sc (.int .i64 0), .sc (.int .i64 0), .sc (.int .i64 0), .sc (.int .i64 0), .sc (.int .i64 0), .sc (.int .i64 0), .sc (.int .i64 0), .row false (.rEntry []), .sc (.int .i64 0), .sc (.int .i64 0), .sc (.int .i64 0), .sc (.int .i64 0), .sc (.int .i64 0), .sc (.int .i64 0), .sc (.int .i64 0), .sc (.int .i64 0), .sc (.int .i64 0), .sc (.int .i64 0)]),
  o1 3 (.mv false (.k (.sc (.int .i64 0))))]
def g_cc_Done_1 : List (IStep2 RW) := [o1 5 (.load 21 0 22 true false 1),
  o1 6 (.call 10 [(false, .s 5)] [] []),
  o1 4 (.mv false (.s 6))]
def g_cc_Done_2 : List (IStep2 RW) := [o1 7 (.mv false (.s 4)),
  o1 8 (.bin .neq (.s 7) (.k (.sc (.int .i64 0))))]
def g_cc_Done_3 : List (IStep2 RW) := [o1 9 (.build [.sc (.int .i64 0), .sc (.int .i64 0), .sc (.int .i64 0), .sc (.int .i64 0), .sc (.int .i64 0), .sc (.int .i64 0), .sc (.int .i64 0), .sc (.int .i64 0), .sc (.int .i64 0), .sc (.int .i64 0), .sc (.int .i64 0), .row false (.rEntry []), .sc (.int .i64 0), .sc (.int .i64 0), .sc (.int .i64 0), .sc (.int .i64 0), .sc (.int .i64 0), .sc (.int .i64 0), .sc (.int .i64 0), .sc (.int .i64 0), .sc (.int .i64 0), .sc (.int .i64 0)] []),
  o1 10 (.mv false (.s 4)),
  o0 (.store 44 0 22 true 2 (.s 9)),
  o1 3 (.mv false (.s 10))]
def g_cc_Done_4 : List (IStep2 RW) := [o1 11 (.fld 0 (.s 1)),
  o1 12 (.load 21 0 1 false false 11)]
def g_cc_Done_5 : List (IStep2 RW) := [o1 14 (.bin .eql (.s 12) (.k (.sc (.int .i64 2)))),
  o1 13 (.mv false (.s 14))]
def g_cc_Done_6 : List (IStep2 RW) := [o1 16 (.bin .eql (.s 12) (.k (.sc (.int .i64 1)))),
  o1 15 (.mv false (.s 16))]
def g_cc_Done_7 : List (IStep2 RW) := [o1 17 (.fld 3 (.s 1)),
  o1 18 (.load 21 3 1 false false 17),
  o1 19 (.fld 2 (.s 1)),
  o0 (.store 21 2 1 false 19 (.s 18))]
def g_cc_Done_8 : List (IStep2 RW) := [o1 20 (.load 21 0 22 true true 1),
  o0 (.store 44 0 22 true 2 (.s 20)),
  o1 3 (.mv false (.k (.sc (.int .i64 0))))]
def i_cc_Done_0 : IC2 RW := .seq (.fin (.reg g_cc_Done_0) [0, 3] []) (.seq (.seq (.fin (.reg g_cc_Done_1) [5, 6] []) (.seq (.fin (.reg g_cc_Done_2) [7] []) (.fin (.cond (.s 8) (.seq (.fin (.reg g_cc_Done_3) [1, 4, 8, 9, 10] [(21, 22)]) (.ret)) (.skip)) [4, 8] []))) (.seq (.seq (.fin (.reg g_cc_Done_4) [11] []) (.blk 0 (.seq (.blk 2 (.blk 1 (.seq (.seq (.seq (.fin (.reg g_cc_Done_5) [14] []) (.fin (.cond (.s 13) (.clr [12, 13] [] (.exit 1)) (.skip)) [13] [])) (.seq (.fin (.reg g_cc_Done_6) [12, 16] []) (.fin (.cond (.s 15) (.clr [15] [] (.exit 2)) (.skip)) [15] []))) (.exit 0)))) (.seq (.fin (.reg g_cc_Done_7) [17, 18, 19] []) (.exit 0))))) (.seq (.fin (.reg g_cc_Done_8) [1, 20] [(21, 22)]) (.ret))))
def fn_cc_Done : IFn2 RW := ⟨20, 1, 21, 80, [(21, 22), (44, 22)], [], [], [.cell 2 44 22 true, .slot 3], i_cc_Done_0⟩
def g_cc_Limit_0 : List (IStep2 RW) := [o1 2 (.box 21 22 true (.s 0)),
  o1 4 (.alloc 44 [.sc (.int .i64 0), .sc (.int .i64 0), .sc (.int .i64 0), .sc (.int .i64 0), .sc (.int .i64 0), .sc (.int .i64 0), .sc (.int .i64 0), .sc (.int .i64 0), .sc (.int .i64 0), .sc (.int .i64 0), .sc (.int .i64 0), .row false (.rEntry []), .sc (.int .i64 0), .sc (.int .i64 0), .sc (.int .i64 0), .sc (.int .i64 0), .sc (.int .i64 0), .sc (.int .i64 0), .sc (.int .i64 0), .sc (.int .i64 0), .sc (.int .i64 0), .sc (.int .i64 0)]),
  o1 5 (.mv false (.k (.sc (.int .i64 0))))]
def g_cc_Limit_1 : List (IStep2 RW) := [o1 7 (.load 21 0 22 true false 2),
  o1 8 (.mv false (.s 1)),
  o1 9 (.call 33 [(false, .s 8)] [] []),
  o1 10 (.call 31 [(false, .s 7), (false, .s 9)] [] []),
  o1 6 (.mv false (.s 10))]
def g_cc_Limit_2 : List (IStep2 RW) := [o1 11 (.mv false (.s 6)),
  o1 12 (.bin .neq (.s 11) (.k (.sc (.int .i64 0))))]
def g_cc_Limit_3 : List (IStep2 RW) := [o1 13 (.build [.sc (.int .i64 0), .sc (.int .i64 0), .sc (.int .i64 0), .sc (.int .i64 0), .sc (.int .i64 0), .sc (.int .i64 0), .sc (.int .i64 0), .sc (.int .i64 0), .sc (.int .i64 0), .sc (.int .i64 0), .sc (.int .i64 0), .row false (.rEntry []), .sc (.int .i64 0), .sc (.int .i64 0), .sc (.int .i64 0), .sc (.int .i64 0), .sc (.int .i64 0), .sc (.int .i64 0), .sc (.int .i64 0), .sc (.int .i64 0), .sc (.int .i64 0), .sc (.int .i64 0)] []),
  o1 14 (.mv false (.s 6)),
  o0 (.store 44 0 22 true 4 (.s 13)),
  o1 5 (.mv false (.s 14))]
def g_cc_Limit_4 : List (IStep2 RW) := [o1 15 (.fld 1 (.s 2)),
  o1 16 (.load 21 1 1 false false 15),
  o1 17 (.mv false (.s 1)),
  o1 18 (.mnmx true [.s 16, .s 17]),
  o1 19 (.fld 2 (.s 2)),
  o0 (.store 21 2 1 false 19 (.s 18))]
def g_cc_Limit_5 : List (IStep2 RW) := [o1 20 (.load 21 0 22 true true 2),
  o0 (.store 44 0 22 true 4 (.s 20)),
  o1 5 (.mv false (.k (.sc (.int .i64 0))))]
def i_cc_Limit_0 : IC2 RW := .seq (.fin (.reg g_cc_Limit_0) [0, 5] []) (.seq (.seq (.fin (.reg g_cc_Limit_1) [7, 8, 9, 10] []) (.seq (.fin (.reg g_cc_Limit_2) [11] []) (.fin (.cond (.s 12) (.seq (.fin (.reg g_cc_Limit_3) [1, 2, 6, 12, 13, 14] [(21, 22)]) (.ret)) (.skip)) [6, 12] []))) (.seq (.fin (.reg g_cc_Limit_4) [1, 15, 16, 17, 18, 19] []) (.seq (.fin (.reg g_cc_Limit_5) [2, 20] [(21, 22)]) (.ret))))
def fn_cc_Limit : IFn2 RW := ⟨14, 2, 21, 80, [(21, 22), (44, 22)], [], [], [.cell 4 44 22 true, .slot 5], i_cc_Limit_0⟩
def g_bbr_ctl_round_0 : List (IStep2 RW) := [o1 3 (.box 53 8 false (.s 1)),
  o1 4 (.mv false (.k (.sc (.bool false))))]
def g_bbr_ctl_round_1 : List (IStep2 RW) := [o1 5 (.fld 6 (.s 3)),
  o1 6 (.load 53 6 1 false false 5),
  o1 7 (.mv false (.s 0)),
  o1 8 (.nil (.s 7)),
  o1 9 (.fld 0 (.s 8)),
  o1 10 (.fld 15 (.s 9)),
  o1 11 (.load 30 15 1 false false 10),
  o1 12 (.bin .lss (.s 6) (.s 11))]
def g_bbr_ctl_round_2 : List (IStep2 RW) := [o1 4 (.mv false (.k (.sc (.bool false))))]
def g_bbr_ctl_round_3 : List (IStep2 RW) := [o1 13 (.mv false (.s 0)),
  o1 14 (.mv false (.s 0)),
  o1 15 (.fld 5 (.s 3)),
  o1 16 (.load 53 5 1 false false 15),
  o1 17 (.mv false (.s 0)),
  o1 18 (.nil (.s 17)),
  o1 19 (.fld 0 (.s 18)),
  o1 20 (.fld 14 (.s 19)),
  o1 21 (.load 30 14 1 false false 20),
  o1 22 (.bin .add (.s 21) (.k (.sc (.int .i64 1)))),
  o1 23 (.mnmx false [.k (.sc (.int .i64 1125899906842624)), .s 22]),
  o1 24 (.nil (.s 13)),
  o1 25 (.fld 0 (.s 24)),
  o1 26 (.fld 15 (.s 25)),
  o0 (.store 30 15 1 false 26 (.s 16)),
  o1 27 (.nil (.s 14)),
  o1 28 (.fld 0 (.s 27)),
  o1 29 (.fld 14 (.s 28)),
  o0 (.store 30 14 1 false 29 (.s 23))]
def g_bbr_ctl_round_4 : List (IStep2 RW) := [o1 4 (.mv false (.k (.sc (.bool true))))]
def i_bbr_ctl_round_0 : IC2 RW := .seq (.fin (.reg g_bbr_ctl_round_0) [1, 4] []) (.seq (.seq (.fin (.reg g_bbr_ctl_round_1) [5, 6, 7, 8, 9, 10, 11] []) (.fin (.cond (.s 12) (.seq (.fin (.reg g_bbr_ctl_round_2) [0, 3, 12] [(53, 8)]) (.ret)) (.skip)) [12] [])) (.seq (.fin (.reg g_bbr_ctl_round_3) [0, 3, 13, 14, 15, 16, 17, 18, 19, 20, 21, 22, 23, 24, 25, 26, 27, 28, 29] [(53, 8)]) (.seq (.reg g_bbr_ctl_round_4) (.ret))))
def fn_bbr_ctl_round : IFn2 RW := ⟨67, 2, 30, 64, [(30, 22), (53, 8)], [(30, 22)], [], [.slot 4], i_bbr_ctl_round_0⟩
def g_filter_Put_5 : List (IStep2 RW) := [o1 51 (.mv false (.s 13)),
  o1 52 (.mv false (.s 14)),
  o1 53 (.bin .lss (.s 51) (.s 52)),
  o2 54 (.mv false (.s 53)),
  o3 55 54 true (.mv false (.s 0)),
  o3 56 54 true (.mv false (.s 13)),
  o3 57 54 true (.idx 2 (.s 55) (.s 56)),
  o3 58 54 true (.fld 0 (.s 57)),
  o3 59 54 true (.loade 1 false 58),
  o3 60 54 true (.mv false (.s 3)),
  o3 61 54 true (.bin .add (.s 59) (.s 60)),
  o3 62 54 true (.mv false (.s 1)),
  o3 63 54 true (.bin .lss (.s 61) (.s 62)),
  o1 64 (.pick (.s 54) (.s 63) (.k (.sc (.bool false))))]
def g_filter_Put_6 : List (IStep2 RW) := [o1 65 (.mv false (.s 13)),
  o1 66 (.bin .add (.s 65) (.k (.sc (.int .i64 1)))),
  o1 13 (.mv false (.s 66))]
def i_filter_Put_0 : IC2 RW := .seq (.seq (.fin (.reg g_filter_Put_5) [51, 52, 53, 54, 55, 56, 57, 58, 59, 60, 61, 62, 63] []) (.fin (.cond (.s 64) (.skip) (.clr [1, 3, 64] [] (.exit 0))) [64] [])) (.blk 1 (.fin (.reg g_filter_Put_6) [65, 66] []))
def i_filter_Put_1 : IC2 RW := .loop i_filter_Put_0
def i_filter_Put_2 : IC2 RW := .blk 0 i_filter_Put_1
def g_filter_Put_7 : List (IStep2 RW) := [o1 67 (.mv false (.s 13)),
  o1 68 (.mv false (.s 14)),
  o1 69 (.bin .lss (.s 67) (.s 68)),
  o2 70 (.mv false (.s 69)),
  o3 71 70 true (.mv false (.s 2)),
  o3 72 70 true (.mv false (.s 0)),
  o3 73 70 true (.mv false (.s 14)),
  o3 74 70 true (.bin .sub (.s 73) (.k (.sc (.int .i64 1)))),
  o3 75 70 true (.idx 2 (.s 72) (.s 74)),
  o3 76 70 true (.fld 1 (.s 75)),
  o3 77 70 true (.loade 1 false 76),
  o3 78 70 true (.mv false (.s 4)),
  o3 79 70 true (.call 93 [(false, .s 71), (false, .s 77), (false, .s 78)] [] []),
  o1 80 (.pick (.s 70) (.s 79) (.k (.sc (.bool false))))]
def g_filter_Put_8 : List (IStep2 RW) := [o1 81 (.mv false (.s 14)),
  o1 82 (.bin .sub (.s 81) (.k (.sc (.int .i64 1)))),
  o1 14 (.mv false (.s 82))]
def i_filter_Put_3 : IC2 RW := .seq (.seq (.fin (.reg g_filter_Put_7) [67, 68, 69, 70, 71, 72, 73, 74, 75, 76, 77, 78, 79] []) (.fin (.cond (.s 80) (.skip) (.clr [2, 4, 80] [] (.exit 2))) [80] [])) (.blk 3 (.fin (.reg g_filter_Put_8) [81, 82] []))
def i_filter_Put_4 : IC2 RW := .loop i_filter_Put_3
def i_filter_Put_5 : IC2 RW := .blk 2 i_filter_Put_4
def g_filter_Put_9 : List (IStep2 RW) := [o1 83 (.mv false (.s 0)),
  o1 84 (.mv false (.s 13)),
  o1 85 (.mv false (.s 14)),
  o1 86 (.mv false (.s 14)),
  o1 87 (.slice 2 (.s 83) (some (.s 84)) (some (.s 85)) (some (.s 86))),
  o1 88 (.load 91 0 2 true false 12),
  o1 89 (.bslice 52 1 [(0, 2, .s 88)]),
  o1 90 (.app 2 16 true (.s 87) (.s 89)),
  o1 10 (.mv false (.s 90)),
  o1 11 (.mv false (.k (.sc (.int .i64 0))))]
def i_filter_Put_6 : IC2 RW := .seq (.fin (.reg g_filter_Put_9) [0, 12, 13, 14, 83, 84, 85, 86, 87, 88, 89, 90] [(91, 2)]) (.ret)
def i_filter_Put_7 : IC2 RW := .seq i_filter_Put_5 i_filter_Put_6
def i_filter_Put_8 : IC2 RW := .seq i_filter_Put_2 i_filter_Put_7
def g_filter_Put_0 : List (IStep2 RW) := [o1 10 (.mv false (.k (.row false (.rEntry [])))),
  o1 11 (.mv false (.k (.sc (.int .i64 0))))]
def g_filter_Put_1 : List (IStep2 RW) := [o1 15 (.mv false (.s 1)),
  o1 16 (.mv false (.s 2)),
  o1 17 (.build [.sc (.int .i64 0), .sc (.int .i64 0)] [(0, 1, .s 15), (1, 1, .s 16)]),
  o1 12 (.alloc 91 [.sc (.int .i64 0), .sc (.int .i64 0)]),
  o0 (.store 91 0 2 false 12 (.s 17))]
def g_filter_Put_2 : List (IStep2 RW) := [o1 18 (.mv false (.s 0)),
  o1 19 (.mv false (.s 4)),
  o1 20 (.call 76 [(false, .s 18), (false, .s 19)] [] []),
  o1 21 (.bin .neq (.s 20) (.k (.sc (.int .i64 0)))),
  o2 22 (.mv false (.s 21)),
  o3 23 22 false (.load 91 0 2 true false 12),
  o3 24 22 false (.call 92 [(false, .s 23)] [] []),
  o3 25 22 false (.un .not (.s 24)),
  o1 26 (.pick (.s 22) (.k (.sc (.bool true))) (.s 25)),
  o2 27 (.mv false (.s 26)),
  o3 28 27 false (.mv false (.s 3)),
  o3 29 27 false (.build [.sc (.int .i64 0), .sc (.int .i64 0)] [(0, 1, .s 28)]),
  o3 30 27 false (.call 92 [(false, .s 29)] [] []),
  o3 31 27 false (.un .not (.s 30)),
  o1 32 (.pick (.s 27) (.k (.sc (.bool true))) (.s 31)),
  o2 33 (.mv false (.s 32)),
  o3 34 33 false (.mv false (.s 0)),
  o3 35 33 false (.len false (.s 34)),
  o3 36 33 false (.bin .gtr (.s 35) (.k (.sc (.int .i64 0)))),
  ⟨some 37, .mv false (.s 36), (some (33, false)), true⟩,
  o3 38 37 true (.mv false (.s 0)),
  o3 39 37 true (.mv false (.s 0)),
  o3 40 37 true (.len false (.s 39)),
  o3 41 37 true (.bin .sub (.s 40) (.k (.sc (.int .i64 1)))),
  o3 42 37 true (.idx 2 (.s 38) (.s 41)),
  o3 43 37 true (.fld 0 (.s 42)),
  o3 44 37 true (.loade 1 false 43),
  o3 45 37 true (.mv false (.s 1)),
  o3 46 37 true (.bin .geq (.s 44) (.s 45)),
  o3 47 33 false (.pick (.s 37) (.s 46) (.k (.sc (.bool false)))),
  o1 48 (.pick (.s 33) (.k (.sc (.bool true))) (.s 47))]
def g_filter_Put_3 : List (IStep2 RW) := [o1 10 (.mv false (.k (.row false (.rEntry [])))),
  o1 11 (.mv false (.k (.sc (.int .i64 2))))]
def g_filter_Put_4 : List (IStep2 RW) := [o1 49 (.mv false (.s 0)),
  o1 50 (.len false (.s 49)),
  o1 13 (.mv false (.k (.sc (.int .i64 0)))),
  o1 14 (.mv false (.s 50))]
def i_filter_Put_9 : IC2 RW := .seq (.fin (.reg g_filter_Put_0) [10, 11] []) (.seq (.fin (.reg g_filter_Put_1) [15, 16, 17] []) (.seq (.seq (.fin (.reg g_filter_Put_2) [18, 19, 20, 21, 22, 23, 24, 25, 26, 27, 28, 29, 30, 31, 32, 33, 34, 35, 36, 37, 38, 39, 40, 41, 42, 43, 44, 45, 46, 47] []) (.fin (.cond (.s 48) (.seq (.fin (.reg g_filter_Put_3) [0, 1, 2, 3, 4, 12, 48] [(91, 2)]) (.ret)) (.skip)) [48] [])) (.seq (.fin (.reg g_filter_Put_4) [49, 50] []) i_filter_Put_8)))
def fn_filter_Put : IFn2 RW := ⟨84, 5, 91, 96, [(91, 2)], [], [], [.slot 10, .slot 11], i_filter_Put_9⟩
def g_bbr_ctl_speed_4 : List (IStep2 RW) := [o1 27 (.mv false (.s 5)),
  o1 28 (.len false (.s 27)),
  o1 6 (.mv false (.s 28))]
def g_bbr_ctl_speed_5 : List (IStep2 RW) := [o1 29 (.mv false (.s 6)),
  o1 30 (.bin .gtr (.s 29) (.k (.sc (.int .i64 0)))),
  o2 31 (.mv false (.s 30)),
  o3 32 31 true (.mv false (.s 5)),
  o3 33 31 true (.mv false (.s 6)),
  o3 34 31 true (.bin .sub (.s 33) (.k (.sc (.int .i64 1)))),
  o3 35 31 true (.idx 2 (.s 32) (.s 34)),
  o3 36 31 true (.fld 0 (.s 35)),
  o3 37 31 true (.loade 1 false 36),
  o3 38 31 true (.mv false (.s 0)),
  o3 39 31 true (.nil (.s 38)),
  o3 40 31 true (.fld 0 (.s 39)),
  o3 41 31 true (.fld 14 (.s 40)),
  o3 42 31 true (.load 74 14 1 false false 41),
  o3 43 31 true (.bin .eql (.s 37) (.s 42)),
  o1 44 (.pick (.s 31) (.s 43) (.k (.sc (.bool false))))]
def g_bbr_ctl_speed_6 : List (IStep2 RW) := [o1 45 (.mv false (.s 4)),
  o1 46 (.mv false (.s 5)),
  o1 47 (.mv false (.s 6)),
  o1 48 (.bin .sub (.s 47) (.k (.sc (.int .i64 1)))),
  o1 49 (.idx 2 (.s 46) (.s 48)),
  o1 50 (.fld 1 (.s 49)),
  o1 51 (.loade 1 false 50),
  o1 52 (.mnmx true [.s 45, .s 51]),
  o1 4 (.mv false (.s 52))]
def g_bbr_ctl_speed_7 : List (IStep2 RW) := [o1 53 (.mv false (.s 5)),
  o1 54 (.mv false (.s 6)),
  o1 55 (.bin .sub (.s 54) (.k (.sc (.int .i64 1)))),
  o1 56 (.mv false (.s 6)),
  o1 57 (.bin .sub (.s 56) (.k (.sc (.int .i64 1)))),
  o1 58 (.slice 2 (.s 53) none (some (.s 55)) (some (.s 57))),
  o1 5 (.mv false (.s 58))]
def g_bbr_ctl_speed_8 : List (IStep2 RW) := [o1 60 (.mv false (.s 0)),
  o1 61 (.mv false (.s 5)),
  o1 62 (.mv false (.s 0)),
  o1 63 (.nil (.s 62)),
  o1 64 (.fld 0 (.s 63)),
  o1 65 (.fld 14 (.s 64)),
  o1 66 (.load 74 14 1 false false 65),
  o1 67 (.mv false (.s 4)),
  o1 68 (.call 84 [(false, .s 61), (false, .s 66), (false, .s 67), (false, .k (.sc (.int .i64 10))), (false, .k (.sc (.bool true)))] [] []),
  o1 59 (.mv false (.s 68)),
  o1 69 (.ext false 0 (.s 59)),
  o1 70 (.ext false 1 (.s 59)),
  o1 71 (.nil (.s 60)),
  o1 72 (.fld 0 (.s 71)),
  o1 73 (.fld 11 (.s 72)),
  o0 (.store 74 11 1 false 73 (.s 69))]
def i_bbr_ctl_speed_0 : IC2 RW := .seq (.seq (.fin (.reg g_bbr_ctl_speed_4) [27, 28] []) (.seq (.fin (.reg g_bbr_ctl_speed_5) [29, 30, 31, 32, 33, 34, 35, 36, 37, 38, 39, 40, 41, 42, 43] []) (.fin (.cond (.s 44) (.seq (.fin (.reg g_bbr_ctl_speed_6) [44, 45, 46, 47, 48, 49, 50, 51, 52] []) (.fin (.reg g_bbr_ctl_speed_7) [6, 53, 54, 55, 56, 57, 58] [])) (.skip)) [6, 44] []))) (.fin (.reg g_bbr_ctl_speed_8) [0, 4, 5, 59, 60, 61, 62, 63, 64, 65, 66, 67, 68, 69, 70, 71, 72, 73] [])
def g_bbr_ctl_speed_0 : List (IStep2 RW) := [o1 3 (.box 97 8 false (.s 1))]
def g_bbr_ctl_speed_1 : List (IStep2 RW) := [o1 7 (.fld 3 (.s 3)),
  o1 8 (.load 97 3 1 false false 7),
  o1 9 (.mnmx false [.k (.sc (.int .i64 1099511627776)), .s 8]),
  o1 4 (.mv false (.s 9))]
def g_bbr_ctl_speed_2 : List (IStep2 RW) := [o1 10 (.mv false (.s 4)),
  o1 11 (.bin .eql (.s 10) (.k (.sc (.int .i64 0)))),
  o2 12 (.mv false (.s 11)),
  o3 13 12 false (.fld 4 (.s 3)),
  o3 14 12 false (.load 97 4 1 false false 13),
  ⟨some 15, .mv false (.s 14), (some (12, false)), true⟩,
  o3 16 15 true (.mv false (.s 4)),
  o3 17 15 true (.mv false (.s 0)),
  o3 18 15 true (.ro 1025 [(false, .s 17)] [(74, 22, 15)]),
  o3 19 15 true (.bin .lss (.s 16) (.s 18)),
  o3 20 12 false (.pick (.s 15) (.s 19) (.k (.sc (.bool false)))),
  o1 21 (.pick (.s 12) (.k (.sc (.bool true))) (.s 20))]
def g_bbr_ctl_speed_3 : List (IStep2 RW) := [o1 22 (.mv false (.s 0)),
  o1 23 (.nil (.s 22)),
  o1 24 (.fld 0 (.s 23)),
  o1 25 (.fld 11 (.s 24)),
  o1 26 (.load 74 11 1 false false 25),
  o1 5 (.mv false (.s 26))]
def i_bbr_ctl_speed_1 : IC2 RW := .seq (.fin (.reg g_bbr_ctl_speed_0) [1] []) (.seq (.fin (.reg g_bbr_ctl_speed_1) [7, 8, 9] []) (.seq (.seq (.fin (.reg g_bbr_ctl_speed_2) [3, 10, 11, 12, 13, 14, 15, 16, 17, 18, 19, 20] [(97, 8)]) (.fin (.cond (.s 21) (.clr [0, 4, 21] [] (.ret)) (.skip)) [21] [])) (.seq (.fin (.reg g_bbr_ctl_speed_3) [22, 23, 24, 25, 26] []) i_bbr_ctl_speed_0)))
def fn_bbr_ctl_speed : IFn2 RW := ⟨68, 2, 74, 112, [(74, 22), (97, 8)], [(74, 22)], [], [], i_bbr_ctl_speed_1⟩
def g_bbr_ctl_shortest_0 : List (IStep2 RW) := [o1 3 (.box 83 8 false (.s 1)),
  o1 4 (.mv false (.k (.sc (.bool false))))]
def g_bbr_ctl_shortest_1 : List (IStep2 RW) := [o1 6 (.mv false (.s 0)),
  o1 7 (.nil (.s 6)),
  o1 8 (.fld 0 (.s 7)),
  o1 9 (.fld 12 (.s 8)),
  o1 10 (.load 60 12 1 false false 9),
  o1 11 (.bin .gtr (.s 10) (.k (.sc (.int .i64 0)))),
  o2 12 (.mv false (.s 11)),
  o3 13 12 true (.fld 0 (.s 3)),
  o3 14 12 true (.load 83 0 1 false false 13),
  o3 15 12 true (.mv false (.s 0)),
  o3 16 12 true (.nil (.s 15)),
  o3 17 12 true (.fld 0 (.s 16)),
  o3 18 12 true (.fld 13 (.s 17)),
  o3 19 12 true (.load 60 13 1 false false 18),
  o3 20 12 true (.bin .sub (.s 14) (.s 19)),
  o3 21 12 true (.bin .gtr (.s 20) (.k (.sc (.int .i64 10000000)))),
  o1 22 (.pick (.s 12) (.s 21) (.k (.sc (.bool false)))),
  o1 5 (.mv false (.s 22))]
def g_bbr_ctl_shortest_2 : List (IStep2 RW) := [o1 23 (.fld 2 (.s 3)),
  o1 24 (.load 83 2 1 false false 23),
  o1 25 (.bin .gtr (.s 24) (.k (.sc (.int .i64 0)))),
  o2 26 (.mv false (.s 25)),
  o3 27 26 true (.mv false (.s 5)),
  ⟨some 28, .mv false (.s 27), (some (26, true)), true⟩,
  o3 29 28 false (.mv false (.s 0)),
  o3 30 28 false (.nil (.s 29)),
  o3 31 28 false (.fld 0 (.s 30)),
  o3 32 28 false (.fld 12 (.s 31)),
  o3 33 28 false (.load 60 12 1 false false 32),
  o3 34 28 false (.bin .eql (.s 33) (.k (.sc (.int .i64 0)))),
  o3 35 26 true (.pick (.s 28) (.k (.sc (.bool true))) (.s 34)),
  ⟨some 36, .mv false (.s 35), (some (26, true)), true⟩,
  o3 37 36 false (.fld 2 (.s 3)),
  o3 38 36 false (.load 83 2 1 false false 37),
  o3 39 36 false (.mv false (.s 0)),
  o3 40 36 false (.nil (.s 39)),
  o3 41 36 false (.fld 0 (.s 40)),
  o3 42 36 false (.fld 12 (.s 41)),
  o3 43 36 false (.load 60 12 1 false false 42),
  o3 44 36 false (.bin .leq (.s 38) (.s 43)),
  o3 45 26 true (.pick (.s 36) (.k (.sc (.bool true))) (.s 44)),
  o1 46 (.pick (.s 26) (.s 45) (.k (.sc (.bool false))))]
def g_bbr_ctl_shortest_3 : List (IStep2 RW) := [o1 47 (.mv false (.s 0)),
  o1 48 (.mv false (.s 0)),
  o1 49 (.fld 2 (.s 3)),
  o1 50 (.load 83 2 1 false false 49),
  o1 51 (.fld 0 (.s 3)),
  o1 52 (.load 83 0 1 false false 51),
  o1 53 (.nil (.s 47)),
  o1 54 (.fld 0 (.s 53)),
  o1 55 (.fld 12 (.s 54)),
  o0 (.store 60 12 1 false 55 (.s 50)),
  o1 56 (.nil (.s 48)),
  o1 57 (.fld 0 (.s 56)),
  o1 58 (.fld 13 (.s 57)),
  o0 (.store 60 13 1 false 58 (.s 52))]
def g_bbr_ctl_shortest_4 : List (IStep2 RW) := [o1 59 (.mv false (.s 5)),
  o1 4 (.mv false (.s 59))]
def i_bbr_ctl_shortest_0 : IC2 RW := .seq (.fin (.reg g_bbr_ctl_shortest_0) [1, 4] []) (.seq (.fin (.reg g_bbr_ctl_shortest_1) [6, 7, 8, 9, 10, 11, 12, 13, 14, 15, 16, 17, 18, 19, 20, 21, 22] []) (.seq (.seq (.fin (.reg g_bbr_ctl_shortest_2) [23, 24, 25, 26, 27, 28, 29, 30, 31, 32, 33, 34, 35, 36, 37, 38, 39, 40, 41, 42, 43, 44, 45] []) (.fin (.cond (.s 46) (.fin (.reg g_bbr_ctl_shortest_3) [0, 3, 46, 47, 48, 49, 50, 51, 52, 53, 54, 55, 56, 57, 58] [(83, 8)]) (.skip)) [0, 3, 46] [(83, 8)])) (.seq (.fin (.reg g_bbr_ctl_shortest_4) [5, 59] []) (.ret))))
def fn_bbr_ctl_shortest : IFn2 RW := ⟨69, 2, 60, 96, [(60, 22), (83, 8)], [(60, 22)], [], [.slot 4], i_bbr_ctl_shortest_0⟩
def g_bbr_ctl_full_0 : List (IStep2 RW) := [o1 3 (.mv false (.s 0)),
  o1 4 (.ro 1025 [(false, .s 3)] [(48, 22, 15)]),
  o1 2 (.mv false (.s 4))]
def g_bbr_ctl_full_4 : List (IStep2 RW) := [o1 27 (.mv false (.s 2)),
  o1 28 (.bin .eql (.s 27) (.k (.sc (.int .i64 0)))),
  o1 26 (.mv false (.s 28))]
def g_bbr_ctl_full_5 : List (IStep2 RW) := [o1 30 (.mv false (.s 2)),
  o1 31 (.bin .mul (.k (.sc (.int .i64 4))) (.s 30)),
  o1 32 (.mv false (.s 0)),
  o1 33 (.nil (.s 32)),
  o1 34 (.fld 0 (.s 33)),
  o1 35 (.fld 16 (.s 34)),
  o1 36 (.load 48 16 1 false false 35),
  o1 37 (.bin .mul (.k (.sc (.int .i64 5))) (.s 36)),
  o1 38 (.bin .geq (.s 31) (.s 37)),
  o1 29 (.mv false (.s 38))]
def g_bbr_ctl_full_6 : List (IStep2 RW) := [o1 39 (.mv false (.s 0)),
  o1 40 (.mv false (.s 0)),
  o1 41 (.mv false (.s 2)),
  o1 42 (.nil (.s 39)),
  o1 43 (.fld 0 (.s 42)),
  o1 44 (.fld 16 (.s 43)),
  o0 (.store 48 16 1 false 44 (.s 41)),
  o1 45 (.nil (.s 40)),
  o1 46 (.fld 0 (.s 45)),
  o1 47 (.fld 17 (.s 46)),
  o0 (.store 48 17 1 false 47 (.k (.sc (.int .i64 0))))]
def g_bbr_ctl_full_1 : List (IStep2 RW) := [o1 5 (.mv false (.s 0)),
  o1 6 (.mv false (.s 0)),
  o1 7 (.nil (.s 6)),
  o1 8 (.fld 0 (.s 7)),
  o1 9 (.fld 17 (.s 8)),
  o1 10 (.load 48 17 1 false false 9),
  o1 11 (.bin .add (.s 10) (.k (.sc (.int .i64 1)))),
  o1 12 (.mnmx false [.k (.sc (.int .i64 3)), .s 11]),
  o1 13 (.nil (.s 5)),
  o1 14 (.fld 0 (.s 13)),
  o1 15 (.fld 17 (.s 14)),
  o0 (.store 48 17 1 false 15 (.s 12))]
def g_bbr_ctl_full_2 : List (IStep2 RW) := [o1 16 (.mv false (.s 0)),
  o1 17 (.nil (.s 16)),
  o1 18 (.fld 0 (.s 17)),
  o1 19 (.fld 17 (.s 18)),
  o1 20 (.load 48 17 1 false false 19),
  o1 21 (.bin .eql (.s 20) (.k (.sc (.int .i64 3))))]
def g_bbr_ctl_full_3 : List (IStep2 RW) := [o1 22 (.mv false (.s 0)),
  o1 23 (.nil (.s 22)),
  o1 24 (.fld 0 (.s 23)),
  o1 25 (.fld 10 (.s 24)),
  o0 (.store 48 10 1 false 25 (.k (.sc (.int .i64 2))))]
def i_bbr_ctl_full_0 : IC2 RW := .seq (.fin (.reg g_bbr_ctl_full_0) [3, 4] []) (.blk 0 (.seq (.fin (.reg g_bbr_ctl_full_4) [27, 28] []) (.fin (.cond (.s 26) (.skip) (.seq (.fin (.reg g_bbr_ctl_full_5) [26, 30, 31, 32, 33, 34, 35, 36, 37, 38] []) (.cond (.s 29) (.fin (.reg g_bbr_ctl_full_6) [0, 2, 29, 39, 40, 41, 42, 43, 44, 45, 46, 47] []) (.seq (.fin (.reg g_bbr_ctl_full_1) [2, 5, 6, 7, 8, 9, 10, 11, 12, 13, 14, 15, 29] []) (.seq (.fin (.reg g_bbr_ctl_full_2) [16, 17, 18, 19, 20] []) (.fin (.cond (.s 21) (.fin (.reg g_bbr_ctl_full_3) [0, 21, 22, 23, 24, 25] []) (.skip)) [0, 21] [])))))) [0, 2, 26] [])))
def fn_bbr_ctl_full : IFn2 RW := ⟨70, 1, 48, 80, [(48, 22)], [(48, 22)], [], [], i_bbr_ctl_full_0⟩
def g_bbr_ctl_product_0 : List (IStep2 RW) := [o1 2 (.mv false (.k (.sc (.int .i64 0))))]
def g_bbr_ctl_product_1 : List (IStep2 RW) := [o1 6 (.mv false (.s 0)),
  o1 7 (.ro 1025 [(false, .s 6)] [(18, 22, 15)]),
  o1 8 (.mv false (.s 0)),
  o1 9 (.nil (.s 8)),
  o1 10 (.fld 0 (.s 9)),
  o1 11 (.fld 12 (.s 10)),
  o1 12 (.load 18 12 1 false false 11),
  o1 13 (.call 39 [(false, .s 7), (false, .s 12), (false, .k (.sc (.int .i64 1000000)))] [] []),
  o1 5 (.mv false (.s 13)),
  o1 14 (.ext false 0 (.s 5)),
  o1 15 (.ext false 1 (.s 5)),
  o1 3 (.mv false (.s 14)),
  o1 4 (.mv false (.s 15))]
def g_bbr_ctl_product_2 : List (IStep2 RW) := [o1 16 (.mv false (.s 3)),
  o1 17 (.mnmx false [.k (.sc (.int .i64 1073741824)), .s 16]),
  o1 2 (.mv false (.s 17))]
def i_bbr_ctl_product_0 : IC2 RW := .seq (.fin (.reg g_bbr_ctl_product_0) [2] []) (.seq (.fin (.reg g_bbr_ctl_product_1) [0, 4, 5, 6, 7, 8, 9, 10, 11, 12, 13, 14, 15] []) (.seq (.fin (.reg g_bbr_ctl_product_2) [3, 16, 17] []) (.ret)))
def fn_bbr_ctl_product : IFn2 RW := ⟨85, 1, 18, 48, [(18, 22)], [(18, 22)], [], [.slot 2], i_bbr_ctl_product_0⟩
def g_bbr_ctl_probe_0 : List (IStep2 RW) := [o1 4 (.mv false (.s 0)),
  o1 5 (.mv false (.s 0)),
  o1 6 (.mv false (.s 0)),
  o1 7 (.mv false (.s 1)),
  o1 8 (.nil (.s 4)),
  o1 9 (.fld 0 (.s 8)),
  o1 10 (.fld 10 (.s 9)),
  o0 (.store 17 10 1 false 10 (.k (.sc (.int .i64 3)))),
  o1 11 (.nil (.s 5)),
  o1 12 (.fld 0 (.s 11)),
  o1 13 (.fld 18 (.s 12)),
  o0 (.store 17 18 1 false 13 (.k (.sc (.int .i64 2)))),
  o1 14 (.nil (.s 6)),
  o1 15 (.fld 0 (.s 14)),
  o1 16 (.fld 19 (.s 15)),
  o0 (.store 17 19 1 false 16 (.s 7))]
def i_bbr_ctl_probe_0 : IC2 RW := .fin (.reg g_bbr_ctl_probe_0) [0, 1, 4, 5, 6, 7, 8, 9, 10, 11, 12, 13, 14, 15, 16] []
def fn_bbr_ctl_probe : IFn2 RW := ⟨86, 2, 17, 48, [(17, 22)], [(17, 22)], [], [], i_bbr_ctl_probe_0⟩
def g_bbr_ctl_cycle_0 : List (IStep2 RW) := [o1 3 (.box 85 8 false (.s 1))]
def g_bbr_ctl_cycle_1 : List (IStep2 RW) := [o1 5 (.mv false (.s 0)),
  o1 6 (.nil (.s 5)),
  o1 7 (.fld 0 (.s 6)),
  o1 8 (.fld 10 (.s 7)),
  o1 9 (.load 62 10 1 false false 8),
  o1 10 (.bin .eql (.s 9) (.k (.sc (.int .i64 2)))),
  o2 11 (.mv false (.s 10)),
  o3 12 11 true (.fld 7 (.s 3)),
  o3 13 11 true (.load 85 7 1 false false 12),
  o3 14 11 true (.mv false (.s 0)),
  o3 15 11 true (.ro 1054 [(false, .s 14)] [(62, 22, 18)]),
  o3 16 11 true (.bin .leq (.s 13) (.s 15)),
  o1 17 (.pick (.s 11) (.s 16) (.k (.sc (.bool false)))),
  o1 4 (.mv false (.s 17))]
def g_bbr_ctl_cycle_2 : List (IStep2 RW) := [o1 18 (.mv false (.s 0)),
  o1 19 (.fld 0 (.s 3)),
  o1 20 (.load 85 0 1 false false 19),
  o1 21 (.call 1055 [(false, .s 18), (false, .s 20)] [(62, 22, 17)] [])]
def g_bbr_ctl_cycle_3 : List (IStep2 RW) := [o1 23 (.mv false (.s 0)),
  o1 24 (.nil (.s 23)),
  o1 25 (.fld 0 (.s 24)),
  o1 26 (.fld 10 (.s 25)),
  o1 27 (.load 62 10 1 false false 26),
  o1 28 (.bin .eql (.s 27) (.k (.sc (.int .i64 3)))),
  o2 29 (.mv false (.s 28)),
  o3 30 29 true (.fld 0 (.s 3)),
  o3 31 29 true (.load 85 0 1 false false 30),
  o3 32 29 true (.mv false (.s 0)),
  o3 33 29 true (.nil (.s 32)),
  o3 34 29 true (.fld 0 (.s 33)),
  o3 35 29 true (.fld 19 (.s 34)),
  o3 36 29 true (.load 62 19 1 false false 35),
  o3 37 29 true (.bin .sub (.s 31) (.s 36)),
  o3 38 29 true (.mv false (.s 0)),
  o3 39 29 true (.nil (.s 38)),
  o3 40 29 true (.fld 0 (.s 39)),
  o3 41 29 true (.fld 12 (.s 40)),
  o3 42 29 true (.load 62 12 1 false false 41),
  o3 43 29 true (.bin .gtr (.s 37) (.s 42)),
  o1 44 (.pick (.s 29) (.s 43) (.k (.sc (.bool false)))),
  o1 22 (.mv false (.s 44))]
def g_bbr_ctl_cycle_4 : List (IStep2 RW) := [o1 45 (.mv false (.s 0)),
  o1 46 (.mv false (.s 0)),
  o1 47 (.mv false (.s 0)),
  o1 48 (.nil (.s 47)),
  o1 49 (.fld 0 (.s 48)),
  o1 50 (.fld 18 (.s 49)),
  o1 51 (.load 62 18 1 false false 50),
  o1 52 (.bin .add (.s 51) (.k (.sc (.int .i64 1)))),
  o1 53 (.bin .rem (.s 52) (.k (.sc (.int .i64 8)))),
  o1 54 (.fld 0 (.s 3)),
  o1 55 (.load 85 0 1 false false 54),
  o1 56 (.nil (.s 45)),
  o1 57 (.fld 0 (.s 56)),
  o1 58 (.fld 18 (.s 57)),
  o0 (.store 62 18 1 false 58 (.s 53)),
  o1 59 (.nil (.s 46)),
  o1 60 (.fld 0 (.s 59)),
  o1 61 (.fld 19 (.s 60)),
  o0 (.store 62 19 1 false 61 (.s 55))]
def i_bbr_ctl_cycle_0 : IC2 RW := .seq (.fin (.reg g_bbr_ctl_cycle_0) [1] []) (.blk 0 (.seq (.fin (.reg g_bbr_ctl_cycle_1) [5, 6, 7, 8, 9, 10, 11, 12, 13, 14, 15, 16, 17] []) (.cond (.s 4) (.fin (.reg g_bbr_ctl_cycle_2) [0, 3, 4, 18, 19, 20, 21] [(85, 8)]) (.seq (.fin (.reg g_bbr_ctl_cycle_3) [4, 23, 24, 25, 26, 27, 28, 29, 30, 31, 32, 33, 34, 35, 36, 37, 38, 39, 40, 41, 42, 43, 44] []) (.fin (.cond (.s 22) (.fin (.reg g_bbr_ctl_cycle_4) [0, 3, 22, 45, 46, 47, 48, 49, 50, 51, 52, 53, 54, 55, 56, 57, 58, 59, 60, 61] [(85, 8)]) (.skip)) [0, 3, 22] [(85, 8)])))))
def fn_bbr_ctl_cycle : IFn2 RW := ⟨71, 2, 62, 96, [(62, 22), (85, 8)], [(62, 22)], [], [], i_bbr_ctl_cycle_0⟩
def g_bbr_ctl_ask_2 : List (IStep2 RW) := [o1 16 (.mv false (.s 0)),
  o1 17 (.mv false (.s 0)),
  o1 18 (.mv false (.s 0)),
  o1 19 (.mv false (.s 0)),
  o1 20 (.nil (.s 19)),
  o1 21 (.fld 0 (.s 20)),
  o1 22 (.fld 2 (.s 21)),
  o1 23 (.load 122 2 1 false false 22),
  o1 24 (.nil (.s 16)),
  o1 25 (.fld 0 (.s 24)),
  o1 26 (.fld 10 (.s 25)),
  o0 (.store 122 10 1 false 26 (.k (.sc (.int .i64 4)))),
  o1 27 (.nil (.s 17)),
  o1 28 (.fld 0 (.s 27)),
  o1 29 (.fld 21 (.s 28)),
  o0 (.store 122 21 1 false 29 (.s 23)),
  o1 30 (.nil (.s 18)),
  o1 31 (.fld 0 (.s 30)),
  o1 32 (.fld 20 (.s 31)),
  o0 (.store 122 20 1 false 32 (.k (.sc (.int .i64 0))))]
def g_bbr_ctl_ask_3 : List (IStep2 RW) := [o1 34 (.mv false (.s 0)),
  o1 35 (.nil (.s 34)),
  o1 36 (.fld 0 (.s 35)),
  o1 37 (.fld 10 (.s 36)),
  o1 38 (.load 122 10 1 false false 37),
  o1 39 (.bin .neq (.s 38) (.k (.sc (.int .i64 4)))),
  o1 33 (.mv false (.s 39))]
def g_bbr_ctl_ask_4 : List (IStep2 RW) := [o1 41 (.mv false (.s 0)),
  o1 42 (.nil (.s 41)),
  o1 43 (.fld 0 (.s 42)),
  o1 44 (.fld 20 (.s 43)),
  o1 45 (.load 122 20 1 false false 44),
  o1 46 (.bin .eql (.s 45) (.k (.sc (.int .i64 0)))),
  o2 47 (.mv false (.s 46)),
  o3 48 47 true (.fld 7 (.s 4)),
  o3 49 47 true (.load 145 7 1 false false 48),
  o3 50 47 true (.mv false (.s 0)),
  o3 51 47 true (.nil (.s 50)),
  o3 52 47 true (.fld 0 (.s 51)),
  o3 53 47 true (.fld 1 (.s 52)),
  o3 54 47 true (.load 122 1 1 false false 53),
  o3 55 47 true (.bin .mul (.k (.sc (.int .i64 4))) (.s 54)),
  o3 56 47 true (.bin .leq (.s 49) (.s 55)),
  o1 57 (.pick (.s 47) (.s 56) (.k (.sc (.bool false)))),
  o1 40 (.mv false (.s 57))]
def g_bbr_ctl_ask_5 : List (IStep2 RW) := [o1 58 (.mv false (.s 0)),
  o1 59 (.fld 0 (.s 4)),
  o1 60 (.load 145 0 1 false false 59),
  o1 61 (.bin .add (.s 60) (.k (.sc (.int .i64 200000)))),
  o1 62 (.mnmx false [.k (.sc (.int .i64 1125899906842624)), .s 61]),
  o1 63 (.nil (.s 58)),
  o1 64 (.fld 0 (.s 63)),
  o1 65 (.fld 20 (.s 64)),
  o0 (.store 122 20 1 false 65 (.s 62))]
def g_bbr_ctl_ask_6 : List (IStep2 RW) := [o1 67 (.mv false (.s 0)),
  o1 68 (.nil (.s 67)),
  o1 69 (.fld 0 (.s 68)),
  o1 70 (.fld 20 (.s 69)),
  o1 71 (.load 122 20 1 false false 70),
  o1 72 (.bin .gtr (.s 71) (.k (.sc (.int .i64 0)))),
  o2 73 (.mv false (.s 72)),
  o3 74 73 true (.fld 0 (.s 4)),
  o3 75 73 true (.load 145 0 1 false false 74),
  o3 76 73 true (.mv false (.s 0)),
  o3 77 73 true (.nil (.s 76)),
  o3 78 73 true (.fld 0 (.s 77)),
  o3 79 73 true (.fld 20 (.s 78)),
  o3 80 73 true (.load 122 20 1 false false 79),
  o3 81 73 true (.bin .geq (.s 75) (.s 80)),
  o1 82 (.pick (.s 73) (.s 81) (.k (.sc (.bool false)))),
  o1 66 (.mv false (.s 82))]
def g_bbr_ctl_ask_7 : List (IStep2 RW) := [o1 83 (.mv false (.s 0)),
  o1 84 (.mv false (.s 0)),
  o1 85 (.mv false (.s 0)),
  o1 86 (.fld 0 (.s 4)),
  o1 87 (.load 145 0 1 false false 86),
  o1 88 (.mv false (.s 0)),
  o1 89 (.nil (.s 88)),
  o1 90 (.fld 0 (.s 89)),
  o1 91 (.fld 2 (.s 90)),
  o1 92 (.load 122 2 1 false false 91),
  o1 93 (.mv false (.s 0)),
  o1 94 (.nil (.s 93)),
  o1 95 (.fld 0 (.s 94)),
  o1 96 (.fld 21 (.s 95)),
  o1 97 (.load 122 21 1 false false 96),
  o1 98 (.mnmx true [.s 92, .s 97]),
  o1 99 (.nil (.s 83)),
  o1 100 (.fld 0 (.s 99)),
  o1 101 (.fld 13 (.s 100)),
  o0 (.store 122 13 1 false 101 (.s 87)),
  o1 102 (.nil (.s 84)),
  o1 103 (.fld 0 (.s 102)),
  o1 104 (.fld 2 (.s 103)),
  o0 (.store 122 2 1 false 104 (.s 98)),
  o1 105 (.nil (.s 85)),
  o1 106 (.fld 0 (.s 105)),
  o1 107 (.fld 20 (.s 106)),
  o0 (.store 122 20 1 false 107 (.k (.sc (.int .i64 0))))]
def g_bbr_ctl_ask_8 : List (IStep2 RW) := [o1 108 (.mv false (.s 0)),
  o1 109 (.nil (.s 108)),
  o1 110 (.fld 0 (.s 109)),
  o1 111 (.fld 17 (.s 110)),
  o1 112 (.load 122 17 1 false false 111),
  o1 113 (.bin .eql (.s 112) (.k (.sc (.int .i64 3))))]
def g_bbr_ctl_ask_9 : List (IStep2 RW) := [o1 114 (.mv false (.s 0)),
  o1 115 (.fld 0 (.s 4)),
  o1 116 (.load 145 0 1 false false 115),
  o1 117 (.call 1055 [(false, .s 114), (false, .s 116)] [(122, 22, 17)] [])]
def g_bbr_ctl_ask_10 : List (IStep2 RW) := [o1 118 (.mv false (.s 0)),
  o1 119 (.nil (.s 118)),
  o1 120 (.fld 0 (.s 119)),
  o1 121 (.fld 10 (.s 120)),
  o0 (.store 122 10 1 false 121 (.k (.sc (.int .i64 1))))]
def i_bbr_ctl_ask_0 : IC2 RW := .cond (.s 6) (.fin (.reg g_bbr_ctl_ask_2) [0, 4, 6, 16, 17, 18, 19, 20, 21, 22, 23, 24, 25, 26, 27, 28, 29, 30, 31, 32] [(145, 8)]) (.seq (.fin (.reg g_bbr_ctl_ask_3) [6, 34, 35, 36, 37, 38, 39] []) (.fin (.cond (.s 33) (.skip) (.seq (.fin (.reg g_bbr_ctl_ask_4) [33, 41, 42, 43, 44, 45, 46, 47, 48, 49, 50, 51, 52, 53, 54, 55, 56, 57] []) (.cond (.s 40) (.fin (.reg g_bbr_ctl_ask_5) [0, 4, 40, 58, 59, 60, 61, 62, 63, 64, 65] [(145, 8)]) (.seq (.fin (.reg g_bbr_ctl_ask_6) [40, 67, 68, 69, 70, 71, 72, 73, 74, 75, 76, 77, 78, 79, 80, 81, 82] []) (.fin (.cond (.s 66) (.seq (.fin (.reg g_bbr_ctl_ask_7) [66, 83, 84, 85, 86, 87, 88, 89, 90, 91, 92, 93, 94, 95, 96, 97, 98, 99, 100, 101, 102, 103, 104, 105, 106, 107] []) (.seq (.fin (.reg g_bbr_ctl_ask_8) [108, 109, 110, 111, 112] []) (.cond (.s 113) (.fin (.reg g_bbr_ctl_ask_9) [0, 4, 113, 114, 115, 116, 117] [(145, 8)]) (.fin (.reg g_bbr_ctl_ask_10) [0, 4, 113, 118, 119, 120, 121] [(145, 8)])))) (.skip)) [0, 4, 66] [(145, 8)]))))) [0, 4, 33] [(145, 8)]))
def g_bbr_ctl_ask_1 : List (IStep2 RW) := [o1 7 (.mv false (.s 2)),
  o2 8 (.mv false (.s 7)),
  o3 9 8 true (.mv false (.s 0)),
  o3 10 8 true (.nil (.s 9)),
  o3 11 8 true (.fld 0 (.s 10)),
  o3 12 8 true (.fld 10 (.s 11)),
  o3 13 8 true (.load 122 10 1 false false 12),
  o3 14 8 true (.bin .neq (.s 13) (.k (.sc (.int .i64 4)))),
  o1 15 (.pick (.s 8) (.s 14) (.k (.sc (.bool false)))),
  o1 6 (.mv false (.s 15))]
def i_bbr_ctl_ask_1 : IC2 RW := .seq (.fin (.reg g_bbr_ctl_ask_1) [2, 7, 8, 9, 10, 11, 12, 13, 14, 15] []) i_bbr_ctl_ask_0
def i_bbr_ctl_ask_2 : IC2 RW := .blk 0 i_bbr_ctl_ask_1
def g_bbr_ctl_ask_0 : List (IStep2 RW) := [o1 4 (.box 145 8 false (.s 1))]
def i_bbr_ctl_ask_3 : IC2 RW := .seq (.fin (.reg g_bbr_ctl_ask_0) [1] []) i_bbr_ctl_ask_2
def fn_bbr_ctl_ask : IFn2 RW := ⟨72, 3, 122, 160, [(122, 22), (145, 8)], [(122, 22)], [], [], i_bbr_ctl_ask_3⟩
def g_seq_Clamp_0 : List (IStep2 RW) := [o1 6 (.mv false (.k (.sc (.int .i64 0))))]
def g_seq_Clamp_1 : List (IStep2 RW) := [o1 7 (.mv false (.s 1)),
  o1 8 (.mv false (.s 0)),
  o1 9 (.mv false (.s 2)),
  o1 10 (.mnmx false [.s 8, .s 9]),
  o1 11 (.mnmx true [.s 7, .s 10]),
  o1 6 (.mv false (.s 11))]
def i_seq_Clamp_0 : IC2 RW := .seq (.fin (.reg g_seq_Clamp_0) [6] []) (.seq (.fin (.reg g_seq_Clamp_1) [0, 1, 2, 7, 8, 9, 10, 11] []) (.ret))
def fn_seq_Clamp : IFn2 RW := ⟨87, 3, 12, 16, [], [], [], [.slot 6], i_seq_Clamp_0⟩
def g_bbr_ctl_window_9 : List (IStep2 RW) := [o1 62 (.mv false (.s 0)),
  o1 63 (.mv false (.s 5)),
  o1 64 (.mv false (.s 0)),
  o1 65 (.nil (.s 64)),
  o1 66 (.fld 0 (.s 65)),
  o1 67 (.fld 1 (.s 66)),
  o1 68 (.load 73 1 1 false false 67),
  o1 69 (.call 87 [(false, .s 63), (false, .s 68), (false, .k (.sc (.int .i64 1073741824)))] [] []),
  o1 70 (.nil (.s 62)),
  o1 71 (.fld 0 (.s 70)),
  o1 72 (.fld 2 (.s 71)),
  o0 (.store 73 2 1 false 72 (.s 69))]
def i_bbr_ctl_window_0 : IC2 RW := .fin (.reg g_bbr_ctl_window_9) [0, 5, 62, 63, 64, 65, 66, 67, 68, 69, 70, 71, 72] []
def g_bbr_ctl_window_3 : List (IStep2 RW) := [o1 22 (.mv false (.s 0)),
  o1 23 (.nil (.s 22)),
  o1 24 (.fld 0 (.s 23)),
  o1 25 (.fld 10 (.s 24)),
  o1 26 (.load 73 10 1 false false 25),
  o1 27 (.bin .eql (.s 26) (.k (.sc (.int .i64 4)))),
  o1 21 (.mv false (.s 27))]
def g_bbr_ctl_window_4 : List (IStep2 RW) := [o1 28 (.mv false (.s 5)),
  o1 29 (.mv false (.s 0)),
  o1 30 (.nil (.s 29)),
  o1 31 (.fld 0 (.s 30)),
  o1 32 (.fld 1 (.s 31)),
  o1 33 (.load 73 1 1 false false 32),
  o1 34 (.bin .mul (.k (.sc (.int .i64 4))) (.s 33)),
  o1 35 (.mnmx false [.s 28, .s 34]),
  o1 5 (.mv false (.s 35))]
def g_bbr_ctl_window_5 : List (IStep2 RW) := [o1 37 (.mv false (.s 0)),
  o1 38 (.nil (.s 37)),
  o1 39 (.fld 0 (.s 38)),
  o1 40 (.fld 17 (.s 39)),
  o1 41 (.load 73 17 1 false false 40),
  o1 42 (.bin .eql (.s 41) (.k (.sc (.int .i64 3)))),
  o1 36 (.mv false (.s 42))]
def g_bbr_ctl_window_6 : List (IStep2 RW) := [o1 43 (.mv false (.s 4)),
  o1 44 (.mv false (.s 5)),
  o1 45 (.fld 1 (.s 3)),
  o1 46 (.load 96 1 1 false false 45),
  o1 47 (.bin .add (.s 44) (.s 46)),
  o1 48 (.mnmx false [.s 43, .s 47]),
  o1 5 (.mv false (.s 48))]
def g_bbr_ctl_window_7 : List (IStep2 RW) := [o1 50 (.mv false (.s 5)),
  o1 51 (.mv false (.s 4)),
  o1 52 (.bin .lss (.s 50) (.s 51)),
  o2 53 (.mv false (.s 52)),
  o3 54 53 false (.mv false (.s 0)),
  o3 55 53 false (.ro 1025 [(false, .s 54)] [(73, 22, 15)]),
  o3 56 53 false (.bin .eql (.s 55) (.k (.sc (.int .i64 0)))),
  o1 57 (.pick (.s 53) (.k (.sc (.bool true))) (.s 56)),
  o1 49 (.mv false (.s 57))]
def g_bbr_ctl_window_8 : List (IStep2 RW) := [o1 58 (.mv false (.s 5)),
  o1 59 (.fld 1 (.s 3)),
  o1 60 (.load 96 1 1 false false 59),
  o1 61 (.bin .add (.s 58) (.s 60)),
  o1 5 (.mv false (.s 61))]
def i_bbr_ctl_window_1 : IC2 RW := .seq (.blk 0 (.seq (.fin (.reg g_bbr_ctl_window_3) [22, 23, 24, 25, 26, 27] []) (.cond (.s 21) (.fin (.reg g_bbr_ctl_window_4) [3, 4, 21, 28, 29, 30, 31, 32, 33, 34, 35] [(96, 8)]) (.seq (.fin (.reg g_bbr_ctl_window_5) [21, 37, 38, 39, 40, 41, 42] []) (.cond (.s 36) (.fin (.reg g_bbr_ctl_window_6) [3, 4, 36, 43, 44, 45, 46, 47, 48] [(96, 8)]) (.seq (.fin (.reg g_bbr_ctl_window_7) [4, 36, 50, 51, 52, 53, 54, 55, 56, 57] []) (.fin (.cond (.s 49) (.fin (.reg g_bbr_ctl_window_8) [3, 49, 58, 59, 60, 61] [(96, 8)]) (.skip)) [3, 49] [(96, 8)]))))))) i_bbr_ctl_window_0
def g_bbr_ctl_window_0 : List (IStep2 RW) := [o1 3 (.box 96 8 false (.s 1))]
def g_bbr_ctl_window_1 : List (IStep2 RW) := [o1 6 (.mv false (.s 0)),
  o1 7 (.ro 1054 [(false, .s 6)] [(73, 22, 18)]),
  o1 8 (.bin .mul (.k (.sc (.int .i64 2))) (.s 7)),
  o1 9 (.mv false (.s 0)),
  o1 10 (.nil (.s 9)),
  o1 11 (.fld 0 (.s 10)),
  o1 12 (.fld 1 (.s 11)),
  o1 13 (.load 73 1 1 false false 12),
  o1 14 (.bin .mul (.k (.sc (.int .i64 4))) (.s 13)),
  o1 15 (.mnmx true [.s 8, .s 14]),
  o1 4 (.mv false (.s 15))]
def g_bbr_ctl_window_2 : List (IStep2 RW) := [o1 16 (.mv false (.s 0)),
  o1 17 (.nil (.s 16)),
  o1 18 (.fld 0 (.s 17)),
  o1 19 (.fld 2 (.s 18)),
  o1 20 (.load 73 2 1 false false 19),
  o1 5 (.mv false (.s 20))]
def i_bbr_ctl_window_2 : IC2 RW := .seq (.fin (.reg g_bbr_ctl_window_0) [1] []) (.seq (.fin (.reg g_bbr_ctl_window_1) [6, 7, 8, 9, 10, 11, 12, 13, 14, 15] []) (.seq (.fin (.reg g_bbr_ctl_window_2) [16, 17, 18, 19, 20] []) i_bbr_ctl_window_1))
def fn_bbr_ctl_window : IFn2 RW := ⟨73, 2, 73, 112, [(73, 22), (96, 8)], [(73, 22)], [], [], i_bbr_ctl_window_2⟩
def g_bbr_Acked_12 : List (IStep2 RW) := [o1 70 (.mv false (.s 7)),
  o1 71 (.load 107 0 8 true false 3),
  o1 72 (.call 1053 [(false, .s 70), (false, .s 71)] [(139, 22, 62)] [])]
def g_bbr_Acked_13 : List (IStep2 RW) := [o1 73 (.mv false (.s 7)),
  o1 74 (.load 107 0 8 true false 3),
  o1 75 (.mv false (.s 9)),
  o1 76 (.call 1056 [(false, .s 73), (false, .s 74), (false, .s 75)] [(139, 22, 122)] [])]
def g_bbr_Acked_14 : List (IStep2 RW) := [o1 77 (.mv false (.s 7)),
  o1 78 (.load 107 0 8 true false 3),
  o1 79 (.call 1057 [(false, .s 77), (false, .s 78)] [(139, 22, 73)] [])]
def g_bbr_Acked_15 : List (IStep2 RW) := [o1 80 (.mv false (.s 7)),
  o1 81 (.nil (.s 80)),
  o1 82 (.fld 0 (.s 81)),
  o1 83 (.load 139 0 22 true false 82),
  o0 (.store 116 0 22 false 4 (.s 83)),
  o1 5 (.mv false (.k (.sc (.int .i64 0))))]
def i_bbr_Acked_0 : IC2 RW := .seq (.fin (.reg g_bbr_Acked_12) [70, 71, 72] []) (.seq (.fin (.reg g_bbr_Acked_13) [9, 73, 74, 75, 76] []) (.seq (.fin (.reg g_bbr_Acked_14) [3, 77, 78, 79] [(107, 8)]) (.seq (.fin (.reg g_bbr_Acked_15) [7, 80, 81, 82, 83] [(139, 22)]) (.ret))))
def g_bbr_Acked_8 : List (IStep2 RW) := [o1 48 (.mv false (.s 7)),
  o1 49 (.load 107 0 8 true false 3),
  o1 50 (.call 1049 [(false, .s 48), (false, .s 49)] [(139, 22, 74)] [])]
def g_bbr_Acked_9 : List (IStep2 RW) := [o1 51 (.mv false (.s 7)),
  o1 52 (.load 107 0 8 true false 3),
  o1 53 (.call 1051 [(false, .s 51), (false, .s 52)] [(139, 22, 60)] []),
  o1 9 (.mv false (.s 53))]
def g_bbr_Acked_10 : List (IStep2 RW) := [o1 54 (.mv false (.s 8)),
  o2 55 (.mv false (.s 54)),
  o3 56 55 true (.mv false (.s 7)),
  o3 57 55 true (.nil (.s 56)),
  o3 58 55 true (.fld 0 (.s 57)),
  o3 59 55 true (.fld 10 (.s 58)),
  o3 60 55 true (.load 139 10 1 false false 59),
  o3 61 55 true (.bin .eql (.s 60) (.k (.sc (.int .i64 1)))),
  o1 62 (.pick (.s 55) (.s 61) (.k (.sc (.bool false)))),
  o2 63 (.mv false (.s 62)),
  o3 64 63 true (.fld 4 (.s 3)),
  o3 65 63 true (.load 107 4 1 false false 64),
  o3 66 63 true (.un .not (.s 65)),
  o1 67 (.pick (.s 63) (.s 66) (.k (.sc (.bool false))))]
def g_bbr_Acked_11 : List (IStep2 RW) := [o1 68 (.mv false (.s 7)),
  o1 69 (.call 1052 [(false, .s 68)] [(139, 22, 48)] [])]
def i_bbr_Acked_1 : IC2 RW := .seq (.fin (.reg g_bbr_Acked_8) [48, 49, 50] []) (.seq (.fin (.reg g_bbr_Acked_9) [51, 52, 53] []) (.seq (.seq (.fin (.reg g_bbr_Acked_10) [8, 54, 55, 56, 57, 58, 59, 60, 61, 62, 63, 64, 65, 66] []) (.fin (.cond (.s 67) (.fin (.reg g_bbr_Acked_11) [67, 68, 69] []) (.skip)) [67] [])) i_bbr_Acked_0))
def g_bbr_Acked_0 : List (IStep2 RW) := [o1 2 (.box 84 22 false (.s 0)),
  o1 3 (.box 107 8 false (.s 1)),
  o1 4 (.alloc 116 [.sc (.int .i64 0), .sc (.int .i64 0), .sc (.int .i64 0), .sc (.int .i64 0), .sc (.int .i64 0), .sc (.int .i64 0), .sc (.int .i64 0), .sc (.int .i64 0), .sc (.int .i64 0), .sc (.int .i64 0), .sc (.int .i64 0), .row false (.rEntry []), .sc (.int .i64 0), .sc (.int .i64 0), .sc (.int .i64 0), .sc (.int .i64 0), .sc (.int .i64 0), .sc (.int .i64 0), .sc (.int .i64 0), .sc (.int .i64 0), .sc (.int .i64 0), .sc (.int .i64 0)]),
  o1 5 (.mv false (.k (.sc (.int .i64 0))))]
def g_bbr_Acked_1 : List (IStep2 RW) := [o1 10 (.load 84 0 22 true false 2),
  o1 11 (.call 30 [(false, .s 10)] [] []),
  o1 6 (.mv false (.s 11))]
def g_bbr_Acked_2 : List (IStep2 RW) := [o1 12 (.mv false (.s 6)),
  o1 13 (.bin .neq (.s 12) (.k (.sc (.int .i64 0))))]
def g_bbr_Acked_3 : List (IStep2 RW) := [o1 14 (.build [.sc (.int .i64 0), .sc (.int .i64 0), .sc (.int .i64 0), .sc (.int .i64 0), .sc (.int .i64 0), .sc (.int .i64 0), .sc (.int .i64 0), .sc (.int .i64 0), .sc (.int .i64 0), .sc (.int .i64 0), .sc (.int .i64 0), .row false (.rEntry []), .sc (.int .i64 0), .sc (.int .i64 0), .sc (.int .i64 0), .sc (.int .i64 0), .sc (.int .i64 0), .sc (.int .i64 0), .sc (.int .i64 0), .sc (.int .i64 0), .sc (.int .i64 0), .sc (.int .i64 0)] []),
  o1 15 (.mv false (.s 6)),
  o0 (.store 116 0 22 false 4 (.s 14)),
  o1 5 (.mv false (.s 15))]
def g_bbr_Acked_4 : List (IStep2 RW) := [o1 16 (.fld 0 (.s 3)),
  o1 17 (.load 107 0 1 false false 16),
  o1 18 (.fld 5 (.s 3)),
  o1 19 (.load 107 5 1 false false 18),
  o1 20 (.fld 6 (.s 3)),
  o1 21 (.load 107 6 1 false false 20),
  o1 22 (.fld 2 (.s 3)),
  o1 23 (.load 107 2 1 false false 22),
  o1 24 (.bslice 3 4 [(0, 1, .s 17), (1, 1, .s 19), (2, 1, .s 21), (3, 1, .s 23)]),
  o1 25 (.call 54 [(false, .k (.sc (.int .i64 1125899906842624))), (false, .s 24)] [] []),
  o1 26 (.un .not (.s 25)),
  o2 27 (.mv false (.s 26)),
  o3 28 27 false (.fld 1 (.s 3)),
  o3 29 27 false (.load 107 1 1 false false 28),
  o3 30 27 false (.fld 7 (.s 3)),
  o3 31 27 false (.load 107 7 1 false false 30),
  o3 32 27 false (.bslice 3 2 [(0, 1, .s 29), (1, 1, .s 31)]),
  o3 33 27 false (.call 54 [(false, .k (.sc (.int .i64 1073741824))), (false, .s 32)] [] []),
  o3 34 27 false (.un .not (.s 33)),
  o1 35 (.pick (.s 27) (.k (.sc (.bool true))) (.s 34)),
  o2 36 (.mv false (.s 35)),
  o3 37 36 false (.fld 3 (.s 3)),
  o3 38 36 false (.load 107 3 1 false false 37),
  o3 39 36 false (.bin .lss (.s 38) (.k (.sc (.int .i64 0)))),
  o1 40 (.pick (.s 36) (.k (.sc (.bool true))) (.s 39))]
def g_bbr_Acked_5 : List (IStep2 RW) := [o1 41 (.build [.sc (.int .i64 0), .sc (.int .i64 0), .sc (.int .i64 0), .sc (.int .i64 0), .sc (.int .i64 0), .sc (.int .i64 0), .sc (.int .i64 0), .sc (.int .i64 0), .sc (.int .i64 0), .sc (.int .i64 0), .sc (.int .i64 0), .row false (.rEntry []), .sc (.int .i64 0), .sc (.int .i64 0), .sc (.int .i64 0), .sc (.int .i64 0), .sc (.int .i64 0), .sc (.int .i64 0), .sc (.int .i64 0), .sc (.int .i64 0), .sc (.int .i64 0), .sc (.int .i64 0)] []),
  o0 (.store 116 0 22 false 4 (.s 41)),
  o1 5 (.mv false (.k (.sc (.int .i64 2))))]
def g_bbr_Acked_6 : List (IStep2 RW) := [o1 42 (.load 84 0 22 true false 2),
  o1 43 (.build [.sc (.int .i64 0), .sc (.int .i64 0), .sc (.int .i64 0), .sc (.int .i64 0), .sc (.int .i64 0), .sc (.int .i64 0), .sc (.int .i64 0), .sc (.int .i64 0), .sc (.int .i64 0), .sc (.int .i64 0), .sc (.int .i64 0), .row false (.rEntry []), .sc (.int .i64 0), .sc (.int .i64 0), .sc (.int .i64 0), .sc (.int .i64 0), .sc (.int .i64 0), .sc (.int .i64 0), .sc (.int .i64 0), .sc (.int .i64 0), .sc (.int .i64 0), .sc (.int .i64 0)] [(0, 22, .s 42)]),
  o1 44 (.box 139 22 false (.s 43)),
  o1 7 (.mv false (.s 44))]
def g_bbr_Acked_7 : List (IStep2 RW) := [o1 45 (.mv false (.s 7)),
  o1 46 (.load 107 0 8 true false 3),
  o1 47 (.call 1048 [(false, .s 45), (false, .s 46)] [(139, 22, 30)] []),
  o1 8 (.mv false (.s 47))]
def i_bbr_Acked_2 : IC2 RW := .seq (.fin (.reg g_bbr_Acked_0) [0, 1, 5] []) (.seq (.seq (.fin (.reg g_bbr_Acked_1) [10, 11] []) (.seq (.fin (.reg g_bbr_Acked_2) [12] []) (.fin (.cond (.s 13) (.seq (.fin (.reg g_bbr_Acked_3) [2, 3, 6, 13, 14, 15] [(84, 22), (107, 8)]) (.ret)) (.skip)) [6, 13] []))) (.seq (.seq (.fin (.reg g_bbr_Acked_4) [16, 17, 18, 19, 20, 21, 22, 23, 24, 25, 26, 27, 28, 29, 30, 31, 32, 33, 34, 35, 36, 37, 38, 39] []) (.fin (.cond (.s 40) (.seq (.fin (.reg g_bbr_Acked_5) [2, 3, 40, 41] [(84, 22), (107, 8)]) (.ret)) (.skip)) [40] [])) (.seq (.fin (.reg g_bbr_Acked_6) [2, 42, 43, 44] [(84, 22)]) (.seq (.fin (.reg g_bbr_Acked_7) [45, 46, 47] []) i_bbr_Acked_1))))
def fn_bbr_Acked : IFn2 RW := ⟨48, 2, 84, 176, [(84, 22), (107, 8), (116, 22), (139, 22)], [], [], [.cell 4 116 22 true, .slot 5], i_bbr_Acked_2⟩
def g_reno_ctl_rise_0 : List (IStep2 RW) := [o1 4 (.mv false (.s 0)),
  o1 5 (.mv false (.s 0)),
  o1 6 (.nil (.s 5)),
  o1 7 (.fld 0 (.s 6)),
  o1 8 (.fld 2 (.s 7)),
  o1 9 (.load 16 2 1 false false 8),
  o1 10 (.mv false (.s 1)),
  o1 11 (.bin .add (.s 9) (.s 10)),
  o1 12 (.mnmx false [.k (.sc (.int .i64 1073741824)), .s 11]),
  o1 13 (.nil (.s 4)),
  o1 14 (.fld 0 (.s 13)),
  o1 15 (.fld 2 (.s 14)),
  o0 (.store 16 2 1 false 15 (.s 12))]
def i_reno_ctl_rise_0 : IC2 RW := .fin (.reg g_reno_ctl_rise_0) [0, 1, 4, 5, 6, 7, 8, 9, 10, 11, 12, 13, 14, 15] []
def fn_reno_ctl_rise : IFn2 RW := ⟨74, 2, 16, 48, [(16, 22)], [(16, 22)], [], [], i_reno_ctl_rise_0⟩
def g_reno_Acked_0 : List (IStep2 RW) := [o1 3 (.box 100 22 false (.s 0)),
  o1 6 (.alloc 123 [.sc (.int .i64 0), .sc (.int .i64 0), .sc (.int .i64 0), .sc (.int .i64 0), .sc (.int .i64 0), .sc (.int .i64 0), .sc (.int .i64 0), .sc (.int .i64 0), .sc (.int .i64 0), .sc (.int .i64 0), .sc (.int .i64 0), .row true (.rEntry []), .sc (.int .i64 0), .sc (.int .i64 0), .sc (.int .i64 0), .sc (.int .i64 0), .sc (.int .i64 0), .sc (.int .i64 0), .sc (.int .i64 0), .sc (.int .i64 0), .sc (.int .i64 0), .sc (.int .i64 0)]),
  o1 7 (.mv false (.k (.sc (.int .i64 0))))]
def g_reno_Acked_1 : List (IStep2 RW) := [o1 11 (.load 100 0 22 true false 3),
  o1 12 (.mv false (.s 1)),
  o1 13 (.call 63 [(false, .s 11), (false, .s 12)] [] [(44, 22, 146)]),
  o1 10 (.mv true (.s 13)),
  o1 14 (.ext false 0 (.s 10)),
  o1 15 (.ext true 1 (.s 10)),
  o1 8 (.mv false (.s 14)),
  o1 9 (.mv false (.s 15))]
def g_reno_Acked_2 : List (IStep2 RW) := [o1 16 (.mv false (.s 9)),
  o1 17 (.bin .neq (.s 16) (.k (.sc (.int .i64 0)))),
  o2 18 (.mv false (.s 17)),
  o3 19 18 false (.mv false (.s 2)),
  o1 20 (.pick (.s 18) (.k (.sc (.bool true))) (.s 19))]
def g_reno_Acked_3 : List (IStep2 RW) := [o1 21 (.mv false (.s 8)),
  o1 22 (.nil (.s 21)),
  o1 23 (.fld 0 (.s 22)),
  o1 24 (.load 146 0 22 true true 23),
  o1 25 (.mv false (.s 9)),
  o0 (.store 123 0 22 true 6 (.s 24)),
  o1 7 (.mv false (.s 25))]
def g_reno_Acked_4 : List (IStep2 RW) := [o1 26 (.mv false (.s 8)),
  o1 27 (.nil (.s 26)),
  o1 28 (.fld 0 (.s 27)),
  o1 29 (.fld 2 (.s 28)),
  o1 30 (.load 146 2 1 false false 29),
  o1 31 (.mv false (.s 8)),
  o1 32 (.nil (.s 31)),
  o1 33 (.fld 0 (.s 32)),
  o1 34 (.fld 3 (.s 33)),
  o1 35 (.load 146 3 1 false false 34),
  o1 36 (.bin .lss (.s 30) (.s 35))]
def g_reno_Acked_5 : List (IStep2 RW) := [o1 37 (.mv false (.s 8)),
  o1 38 (.mv false (.s 1)),
  o1 39 (.mv false (.s 8)),
  o1 40 (.nil (.s 39)),
  o1 41 (.fld 0 (.s 40)),
  o1 42 (.fld 1 (.s 41)),
  o1 43 (.load 146 1 1 false false 42),
  o1 44 (.mnmx false [.s 38, .s 43]),
  o1 45 (.call 1060 [(false, .s 37), (false, .s 44)] [(146, 22, 16)] [])]
def g_reno_Acked_6 : List (IStep2 RW) := [o1 46 (.mv false (.s 8)),
  o1 47 (.nil (.s 46)),
  o1 48 (.fld 0 (.s 47)),
  o1 49 (.load 146 0 22 true true 48),
  o1 50 (.mv false (.s 9)),
  o0 (.store 123 0 22 true 6 (.s 49)),
  o1 7 (.mv false (.s 50))]
def g_reno_Acked_7 : List (IStep2 RW) := [o1 51 (.mv false (.s 8)),
  o1 52 (.mv false (.s 8)),
  o1 53 (.nil (.s 52)),
  o1 54 (.fld 0 (.s 53)),
  o1 55 (.fld 4 (.s 54)),
  o1 56 (.load 146 4 1 false false 55),
  o1 57 (.mv false (.s 1)),
  o1 58 (.bin .add (.s 56) (.s 57)),
  o1 59 (.mnmx false [.k (.sc (.int .i64 1073741824)), .s 58]),
  o1 60 (.nil (.s 51)),
  o1 61 (.fld 0 (.s 60)),
  o1 62 (.fld 4 (.s 61)),
  o0 (.store 146 4 1 false 62 (.s 59))]
def g_reno_Acked_8 : List (IStep2 RW) := [o1 63 (.mv false (.s 8)),
  o1 64 (.nil (.s 63)),
  o1 65 (.fld 0 (.s 64)),
  o1 66 (.fld 4 (.s 65)),
  o1 67 (.load 146 4 1 false false 66),
  o1 68 (.mv false (.s 8)),
  o1 69 (.nil (.s 68)),
  o1 70 (.fld 0 (.s 69)),
  o1 71 (.fld 2 (.s 70)),
  o1 72 (.load 146 2 1 false false 71),
  o1 73 (.bin .geq (.s 67) (.s 72))]
def g_reno_Acked_9 : List (IStep2 RW) := [o1 74 (.mv false (.s 8)),
  o1 75 (.nil (.s 74)),
  o1 76 (.fld 0 (.s 75)),
  o1 77 (.fld 4 (.s 76)),
  o1 78 (.load 146 4 1 false false 77),
  o1 79 (.mv false (.s 8)),
  o1 80 (.nil (.s 79)),
  o1 81 (.fld 0 (.s 80)),
  o1 82 (.fld 2 (.s 81)),
  o1 83 (.load 146 2 1 false false 82),
  o1 84 (.bin .sub (.s 78) (.s 83)),
  o1 85 (.nil (.s 74)),
  o1 86 (.fld 0 (.s 85)),
  o1 87 (.fld 4 (.s 86)),
  o0 (.store 146 4 1 false 87 (.s 84))]
def g_reno_Acked_10 : List (IStep2 RW) := [o1 88 (.mv false (.s 8)),
  o1 89 (.mv false (.s 8)),
  o1 90 (.nil (.s 89)),
  o1 91 (.fld 0 (.s 90)),
  o1 92 (.fld 1 (.s 91)),
  o1 93 (.load 146 1 1 false false 92),
  o1 94 (.call 1060 [(false, .s 88), (false, .s 93)] [(146, 22, 16)] [])]
def g_reno_Acked_11 : List (IStep2 RW) := [o1 95 (.mv false (.s 8)),
  o1 96 (.nil (.s 95)),
  o1 97 (.fld 0 (.s 96)),
  o1 98 (.load 146 0 22 true true 97),
  o1 99 (.mv false (.s 9)),
  o0 (.store 123 0 22 true 6 (.s 98)),
  o1 7 (.mv false (.s 99))]
def i_reno_Acked_0 : IC2 RW := .seq (.fin (.reg g_reno_Acked_0) [0, 7] []) (.seq (.fin (.reg g_reno_Acked_1) [3, 10, 11, 12, 13, 14, 15] [(100, 22)]) (.seq (.seq (.fin (.reg g_reno_Acked_2) [2, 16, 17, 18, 19] []) (.fin (.cond (.s 20) (.seq (.fin (.reg g_reno_Acked_3) [1, 8, 9, 20, 21, 22, 23, 24, 25] [(146, 22)]) (.ret)) (.skip)) [20] [])) (.seq (.seq (.fin (.reg g_reno_Acked_4) [26, 27, 28, 29, 30, 31, 32, 33, 34, 35] []) (.fin (.cond (.s 36) (.seq (.fin (.reg g_reno_Acked_5) [1, 36, 37, 38, 39, 40, 41, 42, 43, 44, 45] []) (.seq (.fin (.reg g_reno_Acked_6) [8, 9, 46, 47, 48, 49, 50] [(146, 22)]) (.ret))) (.skip)) [36] [])) (.seq (.fin (.reg g_reno_Acked_7) [1, 51, 52, 53, 54, 55, 56, 57, 58, 59, 60, 61, 62] []) (.seq (.seq (.fin (.reg g_reno_Acked_8) [63, 64, 65, 66, 67, 68, 69, 70, 71, 72] []) (.fin (.cond (.s 73) (.seq (.fin (.reg g_reno_Acked_9) [73, 74, 75, 76, 77, 78, 79, 80, 81, 82, 83, 84, 85, 86, 87] []) (.fin (.reg g_reno_Acked_10) [88, 89, 90, 91, 92, 93, 94] [])) (.skip)) [73] [])) (.seq (.fin (.reg g_reno_Acked_11) [8, 9, 95, 96, 97, 98, 99] [(146, 22)]) (.ret)))))))
def fn_reno_Acked : IFn2 RW := ⟨49, 3, 100, 176, [(100, 22), (123, 22), (146, 22)], [], [], [.cell 6 123 22 true, .slot 7], i_reno_Acked_0⟩
def g_cubic_by_0 : List (IStep2 RW) := [o1 6 (.mv false (.k (.sc (.int .i64 0))))]
def g_cubic_by_1 : List (IStep2 RW) := [o1 10 (.mv false (.s 0)),
  o1 11 (.mv false (.s 1)),
  o1 12 (.mv false (.s 2)),
  o1 13 (.call 39 [(false, .s 10), (false, .s 11), (false, .s 12)] [] []),
  o1 9 (.mv false (.s 13)),
  o1 14 (.ext false 0 (.s 9)),
  o1 15 (.ext false 1 (.s 9)),
  o1 7 (.mv false (.s 14)),
  o1 8 (.mv false (.s 15))]
def g_cubic_by_2 : List (IStep2 RW) := [o1 16 (.mv false (.s 7)),
  o1 6 (.mv false (.s 16))]
def i_cubic_by_0 : IC2 RW := .seq (.fin (.reg g_cubic_by_0) [6] []) (.seq (.fin (.reg g_cubic_by_1) [0, 1, 2, 8, 9, 10, 11, 12, 13, 14, 15] []) (.seq (.fin (.reg g_cubic_by_2) [7, 16] []) (.ret)))
def fn_cubic_by : IFn2 RW := ⟨91, 3, 17, 32, [], [], [], [.slot 6], i_cubic_by_0⟩
def g_seq_Cbrt_3 : List (IStep2 RW) := [o1 7 (.bin .lss (.s 6) (.k (.sc (.int .i64 21))))]
def g_seq_Cbrt_4 : List (IStep2 RW) := [o1 8 (.mv false (.s 6)),
  o1 4 (.mv false (.s 8))]
def g_seq_Cbrt_5 : List (IStep2 RW) := [o1 9 (.mv false (.s 3)),
  o1 10 (.mv false (.s 4)),
  o1 11 (.bin .sub (.k (.sc (.int .i64 20))) (.s 10)),
  o1 12 (.bin .shl (.k (.sc (.int .i64 1))) (.s 11)),
  o1 13 (.bin .or (.s 9) (.s 12)),
  o1 5 (.mv false (.s 13))]
def g_seq_Cbrt_6 : List (IStep2 RW) := [o1 14 (.mv false (.s 5)),
  o1 15 (.mv false (.s 5)),
  o1 16 (.bin .mul (.s 14) (.s 15)),
  o1 17 (.mv false (.s 5)),
  o1 18 (.bin .mul (.s 16) (.s 17)),
  o1 19 (.mv false (.s 0)),
  o1 20 (.bin .leq (.s 18) (.s 19))]
def g_seq_Cbrt_7 : List (IStep2 RW) := [o1 21 (.mv false (.s 5)),
  o1 3 (.mv false (.s 21))]
def g_seq_Cbrt_8 : List (IStep2 RW) := [o1 22 (.bin .add (.s 6) (.k (.sc (.int .i64 1)))),
  o1 6 (.mv false (.s 22))]
def i_seq_Cbrt_0 : IC2 RW := .seq (.reg g_seq_Cbrt_3) (.seq (.fin (.cond (.s 7) (.skip) (.clr [0, 6, 7] [] (.exit 0))) [7] []) (.seq (.blk 1 (.seq (.fin (.reg g_seq_Cbrt_4) [8] []) (.seq (.fin (.reg g_seq_Cbrt_5) [4, 9, 10, 11, 12, 13] []) (.seq (.fin (.reg g_seq_Cbrt_6) [14, 15, 16, 17, 18, 19] []) (.fin (.cond (.s 20) (.fin (.reg g_seq_Cbrt_7) [5, 20, 21] []) (.skip)) [5, 20] []))))) (.fin (.reg g_seq_Cbrt_8) [22] [])))
def i_seq_Cbrt_1 : IC2 RW := .loop i_seq_Cbrt_0
def i_seq_Cbrt_2 : IC2 RW := .blk 0 i_seq_Cbrt_1
def g_seq_Cbrt_2 : List (IStep2 RW) := [o1 6 (.mv false (.k (.sc (.int .i64 0))))]
def i_seq_Cbrt_3 : IC2 RW := .seq (.reg g_seq_Cbrt_2) i_seq_Cbrt_2
def g_seq_Cbrt_9 : List (IStep2 RW) := [o1 23 (.mv false (.s 3)),
  o1 2 (.mv false (.s 23))]
def i_seq_Cbrt_4 : IC2 RW := .seq (.fin (.reg g_seq_Cbrt_9) [3, 23] []) (.ret)
def i_seq_Cbrt_5 : IC2 RW := .seq i_seq_Cbrt_3 i_seq_Cbrt_4
def g_seq_Cbrt_0 : List (IStep2 RW) := [o1 2 (.mv false (.k (.sc (.int .i64 0))))]
def g_seq_Cbrt_1 : List (IStep2 RW) := [o1 3 (.mv false (.k (.sc (.int .i64 0))))]
def i_seq_Cbrt_6 : IC2 RW := .seq (.fin (.reg g_seq_Cbrt_0) [2] []) (.seq (.reg g_seq_Cbrt_1) i_seq_Cbrt_5)
def fn_seq_Cbrt : IFn2 RW := ⟨97, 1, 24, 32, [], [], [], [.slot 2], i_seq_Cbrt_6⟩
def g_cubic_ctl_begin_0 : List (IStep2 RW) := [o1 4 (.mv false (.s 0)),
  o1 5 (.mv false (.s 0)),
  o1 6 (.mv false (.s 0)),
  o1 7 (.mv false (.s 0)),
  o1 8 (.mv false (.s 1)),
  o1 9 (.mv false (.s 0)),
  o1 10 (.nil (.s 9)),
  o1 11 (.fld 0 (.s 10)),
  o1 12 (.fld 2 (.s 11)),
  o1 13 (.load 74 2 1 false false 12),
  o1 14 (.mv false (.s 0)),
  o1 15 (.nil (.s 14)),
  o1 16 (.fld 0 (.s 15)),
  o1 17 (.fld 2 (.s 16)),
  o1 18 (.load 74 2 1 false false 17),
  o1 19 (.nil (.s 4)),
  o1 20 (.fld 0 (.s 19)),
  o1 21 (.fld 6 (.s 20)),
  o0 (.store 74 6 1 false 21 (.s 8)),
  o1 22 (.nil (.s 5)),
  o1 23 (.fld 0 (.s 22)),
  o1 24 (.fld 9 (.s 23)),
  o0 (.store 74 9 1 false 24 (.s 13)),
  o1 25 (.nil (.s 6)),
  o1 26 (.fld 0 (.s 25)),
  o1 27 (.fld 8 (.s 26)),
  o0 (.store 74 8 1 false 27 (.s 18)),
  o1 28 (.nil (.s 7)),
  o1 29 (.fld 0 (.s 28)),
  o1 30 (.fld 7 (.s 29)),
  o0 (.store 74 7 1 false 30 (.k (.sc (.int .i64 0))))]
def g_cubic_ctl_begin_1 : List (IStep2 RW) := [o1 31 (.mv false (.s 0)),
  o1 32 (.nil (.s 31)),
  o1 33 (.fld 0 (.s 32)),
  o1 34 (.fld 2 (.s 33)),
  o1 35 (.load 74 2 1 false false 34),
  o1 36 (.mv false (.s 0)),
  o1 37 (.nil (.s 36)),
  o1 38 (.fld 0 (.s 37)),
  o1 39 (.fld 5 (.s 38)),
  o1 40 (.load 74 5 1 false false 39),
  o1 41 (.bin .lss (.s 35) (.s 40))]
def g_cubic_ctl_begin_2 : List (IStep2 RW) := [o1 42 (.mv false (.s 0)),
  o1 43 (.mv false (.s 0)),
  o1 44 (.nil (.s 43)),
  o1 45 (.fld 0 (.s 44)),
  o1 46 (.fld 5 (.s 45)),
  o1 47 (.load 74 5 1 false false 46),
  o1 48 (.mv false (.s 0)),
  o1 49 (.nil (.s 48)),
  o1 50 (.fld 0 (.s 49)),
  o1 51 (.fld 2 (.s 50)),
  o1 52 (.load 74 2 1 false false 51),
  o1 53 (.bin .sub (.s 47) (.s 52)),
  o1 54 (.mv false (.s 0)),
  o1 55 (.nil (.s 54)),
  o1 56 (.fld 0 (.s 55)),
  o1 57 (.fld 1 (.s 56)),
  o1 58 (.load 74 1 1 false false 57),
  o1 59 (.bin .mul (.k (.sc (.int .i64 4))) (.s 58)),
  o1 60 (.call 91 [(false, .s 53), (false, .k (.sc (.int .i64 10000000000))), (false, .s 59)] [] []),
  o1 61 (.call 97 [(false, .s 60)] [] []),
  o1 62 (.nil (.s 42)),
  o1 63 (.fld 0 (.s 62)),
  o1 64 (.fld 7 (.s 63)),
  o0 (.store 74 7 1 false 64 (.s 61))]
def g_cubic_ctl_begin_3 : List (IStep2 RW) := [o1 65 (.mv false (.s 0)),
  o1 66 (.mv false (.s 0)),
  o1 67 (.nil (.s 66)),
  o1 68 (.fld 0 (.s 67)),
  o1 69 (.fld 2 (.s 68)),
  o1 70 (.load 74 2 1 false false 69),
  o1 71 (.nil (.s 65)),
  o1 72 (.fld 0 (.s 71)),
  o1 73 (.fld 5 (.s 72)),
  o0 (.store 74 5 1 false 73 (.s 70))]
def i_cubic_ctl_begin_0 : IC2 RW := .seq (.fin (.reg g_cubic_ctl_begin_0) [1, 4, 5, 6, 7, 8, 9, 10, 11, 12, 13, 14, 15, 16, 17, 18, 19, 20, 21, 22, 23, 24, 25, 26, 27, 28, 29, 30] []) (.seq (.seq (.fin (.reg g_cubic_ctl_begin_1) [31, 32, 33, 34, 35, 36, 37, 38, 39, 40] []) (.fin (.cond (.s 41) (.seq (.fin (.reg g_cubic_ctl_begin_2) [0, 41, 42, 43, 44, 45, 46, 47, 48, 49, 50, 51, 52, 53, 54, 55, 56, 57, 58, 59, 60, 61, 62, 63, 64] []) (.ret)) (.skip)) [41] [])) (.fin (.reg g_cubic_ctl_begin_3) [0, 65, 66, 67, 68, 69, 70, 71, 72, 73] []))
def fn_cubic_ctl_begin : IFn2 RW := ⟨88, 2, 74, 112, [(74, 22)], [(74, 22)], [], [], i_cubic_ctl_begin_0⟩
def g_seq_Sum_0 : List (IStep2 RW) := [o1 4 (.mv false (.k (.sc (.int .i64 0))))]
def g_seq_Sum_1 : List (IStep2 RW) := [o1 6 (.mv false (.s 0)),
  o1 7 (.mv false (.s 1)),
  o1 8 (.bin .add (.s 6) (.s 7)),
  o1 5 (.mv false (.s 8))]
def g_seq_Sum_2 : List (IStep2 RW) := [o1 10 (.mv false (.s 0)),
  o1 11 (.bin .gtr (.s 10) (.k (.sc (.int .i64 0)))),
  o2 12 (.mv false (.s 11)),
  o3 13 12 true (.mv false (.s 1)),
  o3 14 12 true (.bin .gtr (.s 13) (.k (.sc (.int .i64 0)))),
  o1 15 (.pick (.s 12) (.s 14) (.k (.sc (.bool false)))),
  o2 16 (.mv false (.s 15)),
  o3 17 16 true (.mv false (.s 5)),
  o3 18 16 true (.bin .lss (.s 17) (.k (.sc (.int .i64 0)))),
  o1 19 (.pick (.s 16) (.s 18) (.k (.sc (.bool false)))),
  o1 9 (.mv false (.s 19))]
def g_seq_Sum_3 : List (IStep2 RW) := [o1 4 (.mv false (.k (.sc (.int .i64 9223372036854775807))))]
def g_seq_Sum_4 : List (IStep2 RW) := [o1 21 (.mv false (.s 0)),
  o1 22 (.bin .lss (.s 21) (.k (.sc (.int .i64 0)))),
  o2 23 (.mv false (.s 22)),
  o3 24 23 true (.mv false (.s 1)),
  o3 25 23 true (.bin .lss (.s 24) (.k (.sc (.int .i64 0)))),
  o1 26 (.pick (.s 23) (.s 25) (.k (.sc (.bool false)))),
  o2 27 (.mv false (.s 26)),
  o3 28 27 true (.mv false (.s 5)),
  o3 29 27 true (.bin .geq (.s 28) (.k (.sc (.int .i64 0)))),
  o1 30 (.pick (.s 27) (.s 29) (.k (.sc (.bool false)))),
  o1 20 (.mv false (.s 30))]
def g_seq_Sum_5 : List (IStep2 RW) := [o1 4 (.mv false (.k (.sc (.int .i64 (-9223372036854775808)))))]
def g_seq_Sum_6 : List (IStep2 RW) := [o1 31 (.mv false (.s 5)),
  o1 4 (.mv false (.s 31))]
def i_seq_Sum_0 : IC2 RW := .seq (.fin (.reg g_seq_Sum_0) [4] []) (.seq (.fin (.reg g_seq_Sum_1) [6, 7, 8] []) (.seq (.blk 0 (.seq (.fin (.reg g_seq_Sum_2) [10, 11, 12, 13, 14, 15, 16, 17, 18, 19] []) (.cond (.s 9) (.seq (.fin (.reg g_seq_Sum_3) [0, 1, 5, 9] []) (.ret)) (.seq (.fin (.reg g_seq_Sum_4) [0, 1, 9, 21, 22, 23, 24, 25, 26, 27, 28, 29, 30] []) (.fin (.cond (.s 20) (.seq (.fin (.reg g_seq_Sum_5) [5, 20] []) (.ret)) (.skip)) [20] []))))) (.seq (.fin (.reg g_seq_Sum_6) [5, 31] []) (.ret))))
def fn_seq_Sum : IFn2 RW := ⟨90, 2, 32, 32, [], [], [], [.slot 4], i_seq_Sum_0⟩
def g_cubic_Curve_8 : List (IStep2 RW) := [o1 34 (.fld 5 (.s 2)),
  o1 35 (.load 39 5 1 false false 34),
  o1 36 (.mv false (.s 7)),
  o1 37 (.call 90 [(false, .s 35), (false, .s 36)] [] []),
  o1 38 (.call 87 [(false, .s 37), (false, .k (.sc (.int .i64 0))), (false, .k (.sc (.int .i64 1073741824)))] [] []),
  o1 4 (.mv false (.s 38))]
def i_cubic_Curve_0 : IC2 RW := .seq (.fin (.reg g_cubic_Curve_8) [2, 7, 34, 35, 36, 37, 38] [(39, 22)]) (.ret)
def g_cubic_Curve_0 : List (IStep2 RW) := [o1 2 (.box 39 22 false (.s 0)),
  o1 4 (.mv false (.k (.sc (.int .i64 0))))]
def g_cubic_Curve_1 : List (IStep2 RW) := [o1 8 (.load 39 0 22 true false 2),
  o1 9 (.call 29 [(false, .s 8)] [] []),
  o1 10 (.bin .neq (.s 9) (.k (.sc (.int .i64 0))))]
def g_cubic_Curve_2 : List (IStep2 RW) := [o1 4 (.mv false (.k (.sc (.int .i64 0))))]
def g_cubic_Curve_3 : List (IStep2 RW) := [o1 11 (.mv false (.s 1)),
  o1 12 (.fld 7 (.s 2)),
  o1 13 (.load 39 7 1 false false 12),
  o1 14 (.un .neg (.s 13)),
  o1 15 (.call 90 [(false, .s 11), (false, .s 14)] [] []),
  o1 16 (.call 87 [(false, .s 15), (false, .k (.sc (.int .i64 (-1000000)))), (false, .k (.sc (.int .i64 1000000)))] [] []),
  o1 5 (.mv false (.s 16))]
def g_cubic_Curve_4 : List (IStep2 RW) := [o1 17 (.mv false (.s 5)),
  o1 18 (.mv false (.s 5)),
  o1 19 (.un .neg (.s 18)),
  o1 20 (.mnmx true [.s 17, .s 19]),
  o1 6 (.mv false (.s 20))]
def g_cubic_Curve_5 : List (IStep2 RW) := [o1 21 (.mv false (.s 6)),
  o1 22 (.mv false (.s 6)),
  o1 23 (.bin .mul (.s 21) (.s 22)),
  o1 24 (.mv false (.s 6)),
  o1 25 (.bin .mul (.s 23) (.s 24)),
  o1 26 (.fld 1 (.s 2)),
  o1 27 (.load 39 1 1 false false 26),
  o1 28 (.bin .mul (.k (.sc (.int .i64 4))) (.s 27)),
  o1 29 (.call 91 [(false, .s 25), (false, .s 28), (false, .k (.sc (.int .i64 10000000000)))] [] []),
  o1 7 (.mv false (.s 29))]
def g_cubic_Curve_6 : List (IStep2 RW) := [o1 30 (.mv false (.s 5)),
  o1 31 (.bin .lss (.s 30) (.k (.sc (.int .i64 0))))]
def g_cubic_Curve_7 : List (IStep2 RW) := [o1 32 (.mv false (.s 7)),
  o1 33 (.un .neg (.s 32)),
  o1 7 (.mv false (.s 33))]
def i_cubic_Curve_1 : IC2 RW := .seq (.fin (.reg g_cubic_Curve_0) [0, 4] []) (.seq (.seq (.fin (.reg g_cubic_Curve_1) [8, 9] []) (.fin (.cond (.s 10) (.seq (.fin (.reg g_cubic_Curve_2) [1, 2, 10] [(39, 22)]) (.ret)) (.skip)) [10] [])) (.seq (.fin (.reg g_cubic_Curve_3) [1, 11, 12, 13, 14, 15, 16] []) (.seq (.fin (.reg g_cubic_Curve_4) [17, 18, 19, 20] []) (.seq (.fin (.reg g_cubic_Curve_5) [6, 21, 22, 23, 24, 25, 26, 27, 28, 29] []) (.seq (.seq (.fin (.reg g_cubic_Curve_6) [5, 30] []) (.fin (.cond (.s 31) (.fin (.reg g_cubic_Curve_7) [31, 32, 33] []) (.skip)) [31] [])) i_cubic_Curve_0)))))
def fn_cubic_Curve : IFn2 RW := ⟨89, 2, 39, 64, [(39, 22)], [], [], [.slot 4], i_cubic_Curve_1⟩
def g_cubic_ctl_grow_5 : List (IStep2 RW) := [o1 79 (.mv false (.s 0)),
  o1 80 (.mv false (.s 0)),
  o1 81 (.nil (.s 80)),
  o1 82 (.fld 0 (.s 81)),
  o1 83 (.fld 8 (.s 82)),
  o1 84 (.load 110 8 1 false false 83),
  o1 85 (.mv false (.s 0)),
  o1 86 (.nil (.s 85)),
  o1 87 (.fld 0 (.s 86)),
  o1 88 (.fld 2 (.s 87)),
  o1 89 (.load 110 2 1 false false 88),
  o1 90 (.mv false (.s 9)),
  o1 91 (.mv false (.s 0)),
  o1 92 (.nil (.s 91)),
  o1 93 (.fld 0 (.s 92)),
  o1 94 (.fld 2 (.s 93)),
  o1 95 (.load 110 2 1 false false 94),
  o1 96 (.bin .sub (.s 90) (.s 95)),
  o1 97 (.mv false (.s 1)),
  o1 98 (.mv false (.s 0)),
  o1 99 (.nil (.s 98)),
  o1 100 (.fld 0 (.s 99)),
  o1 101 (.fld 2 (.s 100)),
  o1 102 (.load 110 2 1 false false 101),
  o1 103 (.call 91 [(false, .s 96), (false, .s 97), (false, .s 102)] [] []),
  o1 104 (.call 90 [(false, .s 89), (false, .s 103)] [] []),
  o1 105 (.mnmx true [.s 84, .s 104]),
  o1 106 (.mnmx false [.k (.sc (.int .i64 1073741824)), .s 105]),
  o1 107 (.nil (.s 79)),
  o1 108 (.fld 0 (.s 107)),
  o1 109 (.fld 2 (.s 108)),
  o0 (.store 110 2 1 false 109 (.s 106))]
def i_cubic_ctl_grow_0 : IC2 RW := .fin (.reg g_cubic_ctl_grow_5) [0, 1, 9, 79, 80, 81, 82, 83, 84, 85, 86, 87, 88, 89, 90, 91, 92, 93, 94, 95, 96, 97, 98, 99, 100, 101, 102, 103, 104, 105, 106, 107, 108, 109] []
def g_cubic_ctl_grow_3 : List (IStep2 RW) := [o1 30 (.mv false (.s 0)),
  o1 31 (.nil (.s 30)),
  o1 32 (.fld 0 (.s 31)),
  o1 33 (.load 110 0 22 true false 32),
  o1 34 (.mv false (.s 8)),
  o1 35 (.call 89 [(false, .s 33), (false, .s 34)] [] []),
  o1 36 (.mv false (.s 0)),
  o1 37 (.nil (.s 36)),
  o1 38 (.fld 0 (.s 37)),
  o1 39 (.fld 2 (.s 38)),
  o1 40 (.load 110 2 1 false false 39),
  o1 41 (.mv false (.s 0)),
  o1 42 (.nil (.s 41)),
  o1 43 (.fld 0 (.s 42)),
  o1 44 (.fld 2 (.s 43)),
  o1 45 (.load 110 2 1 false false 44),
  o1 46 (.mv false (.s 0)),
  o1 47 (.nil (.s 46)),
  o1 48 (.fld 0 (.s 47)),
  o1 49 (.fld 2 (.s 48)),
  o1 50 (.load 110 2 1 false false 49),
  o1 51 (.bin .quo (.s 50) (.k (.sc (.int .i64 2)))),
  o1 52 (.bin .add (.s 45) (.s 51)),
  o1 53 (.call 87 [(false, .s 35), (false, .s 40), (false, .s 52)] [] []),
  o1 9 (.mv false (.s 53))]
def g_cubic_ctl_grow_4 : List (IStep2 RW) := [o1 54 (.mv false (.s 0)),
  o1 55 (.mv false (.s 0)),
  o1 56 (.nil (.s 55)),
  o1 57 (.fld 0 (.s 56)),
  o1 58 (.fld 8 (.s 57)),
  o1 59 (.load 110 8 1 false false 58),
  o1 60 (.mv false (.s 0)),
  o1 61 (.nil (.s 60)),
  o1 62 (.fld 0 (.s 61)),
  o1 63 (.fld 1 (.s 62)),
  o1 64 (.load 110 1 1 false false 63),
  o1 65 (.bin .mul (.k (.sc (.int .i64 529))) (.s 64)),
  o1 66 (.mv false (.s 1)),
  o1 67 (.mv false (.s 0)),
  o1 68 (.nil (.s 67)),
  o1 69 (.fld 0 (.s 68)),
  o1 70 (.fld 2 (.s 69)),
  o1 71 (.load 110 2 1 false false 70),
  o1 72 (.bin .mul (.k (.sc (.int .i64 1000))) (.s 71)),
  o1 73 (.call 91 [(false, .s 65), (false, .s 66), (false, .s 72)] [] []),
  o1 74 (.call 90 [(false, .s 59), (false, .s 73)] [] []),
  o1 75 (.mnmx false [.k (.sc (.int .i64 1073741824)), .s 74]),
  o1 76 (.nil (.s 54)),
  o1 77 (.fld 0 (.s 76)),
  o1 78 (.fld 8 (.s 77)),
  o0 (.store 110 8 1 false 78 (.s 75))]
def i_cubic_ctl_grow_1 : IC2 RW := .seq (.fin (.reg g_cubic_ctl_grow_3) [8, 30, 31, 32, 33, 34, 35, 36, 37, 38, 39, 40, 41, 42, 43, 44, 45, 46, 47, 48, 49, 50, 51, 52, 53] []) (.seq (.fin (.reg g_cubic_ctl_grow_4) [54, 55, 56, 57, 58, 59, 60, 61, 62, 63, 64, 65, 66, 67, 68, 69, 70, 71, 72, 73, 74, 75, 76, 77, 78] []) i_cubic_ctl_grow_0)
def g_cubic_ctl_grow_0 : List (IStep2 RW) := [o1 10 (.mv false (.s 0)),
  o1 11 (.nil (.s 10)),
  o1 12 (.fld 0 (.s 11)),
  o1 13 (.fld 6 (.s 12)),
  o1 14 (.load 110 6 1 false false 13),
  o1 15 (.bin .lss (.s 14) (.k (.sc (.int .i64 0))))]
def g_cubic_ctl_grow_1 : List (IStep2 RW) := [o1 16 (.mv false (.s 0)),
  o1 17 (.mv false (.s 2)),
  o1 18 (.call 1063 [(false, .s 16), (false, .s 17)] [(110, 22, 74)] [])]
def g_cubic_ctl_grow_2 : List (IStep2 RW) := [o1 19 (.mv false (.s 2)),
  o1 20 (.mv false (.s 0)),
  o1 21 (.nil (.s 20)),
  o1 22 (.fld 0 (.s 21)),
  o1 23 (.fld 6 (.s 22)),
  o1 24 (.load 110 6 1 false false 23),
  o1 25 (.bin .sub (.s 19) (.s 24)),
  o1 26 (.mnmx true [.k (.sc (.int .i64 0)), .s 25]),
  o1 27 (.mv false (.s 3)),
  o1 28 (.bin .add (.s 26) (.s 27)),
  o1 29 (.bin .quo (.s 28) (.k (.sc (.int .i64 1000)))),
  o1 8 (.mv false (.s 29))]
def i_cubic_ctl_grow_2 : IC2 RW := .seq (.seq (.fin (.reg g_cubic_ctl_grow_0) [10, 11, 12, 13, 14] []) (.fin (.cond (.s 15) (.fin (.reg g_cubic_ctl_grow_1) [15, 16, 17, 18] []) (.skip)) [15] [])) (.seq (.fin (.reg g_cubic_ctl_grow_2) [2, 3, 19, 20, 21, 22, 23, 24, 25, 26, 27, 28, 29] []) i_cubic_ctl_grow_1)
def fn_cubic_ctl_grow : IFn2 RW := ⟨75, 4, 110, 144, [(110, 22)], [(110, 22)], [], [], i_cubic_ctl_grow_2⟩
def g_cubic_Acked_0 : List (IStep2 RW) := [o1 5 (.box 89 22 false (.s 0)),
  o1 10 (.alloc 112 [.sc (.int .i64 0), .sc (.int .i64 0), .sc (.int .i64 0), .sc (.int .i64 0), .sc (.int .i64 0), .sc (.int .i64 0), .sc (.int .i64 0), .sc (.int .i64 0), .sc (.int .i64 0), .sc (.int .i64 0), .sc (.int .i64 0), .row false (.rEntry []), .sc (.int .i64 0), .sc (.int .i64 0), .sc (.int .i64 0), .sc (.int .i64 0), .sc (.int .i64 0), .sc (.int .i64 0), .sc (.int .i64 0), .sc (.int .i64 0), .sc (.int .i64 0), .sc (.int .i64 0)]),
  o1 11 (.mv false (.k (.sc (.int .i64 0))))]
def g_cubic_Acked_1 : List (IStep2 RW) := [o1 14 (.load 89 0 22 true false 5),
  o1 15 (.call 29 [(false, .s 14)] [] []),
  o1 12 (.mv false (.s 15))]
def g_cubic_Acked_2 : List (IStep2 RW) := [o1 16 (.mv false (.s 12)),
  o1 17 (.bin .neq (.s 16) (.k (.sc (.int .i64 0))))]
def g_cubic_Acked_3 : List (IStep2 RW) := [o1 18 (.build [.sc (.int .i64 0), .sc (.int .i64 0), .sc (.int .i64 0), .sc (.int .i64 0), .sc (.int .i64 0), .sc (.int .i64 0), .sc (.int .i64 0), .sc (.int .i64 0), .sc (.int .i64 0), .sc (.int .i64 0), .sc (.int .i64 0), .row false (.rEntry []), .sc (.int .i64 0), .sc (.int .i64 0), .sc (.int .i64 0), .sc (.int .i64 0), .sc (.int .i64 0), .sc (.int .i64 0), .sc (.int .i64 0), .sc (.int .i64 0), .sc (.int .i64 0), .sc (.int .i64 0)] []),
  o1 19 (.mv false (.s 12)),
  o0 (.store 112 0 22 false 10 (.s 18)),
  o1 11 (.mv false (.s 19))]
def g_cubic_Acked_4 : List (IStep2 RW) := [o1 20 (.mv false (.s 1)),
  o1 21 (.bslice 3 1 [(0, 1, .s 20)]),
  o1 22 (.call 53 [(false, .s 21)] [] []),
  o1 23 (.un .not (.s 22)),
  o2 24 (.mv false (.s 23)),
  o3 25 24 false (.mv false (.s 2)),
  o3 26 24 false (.bin .lss (.s 25) (.k (.sc (.int .i64 0)))),
  o1 27 (.pick (.s 24) (.k (.sc (.bool true))) (.s 26)),
  o2 28 (.mv false (.s 27)),
  o3 29 28 false (.mv false (.s 2)),
  o3 30 28 false (.bin .gtr (.s 29) (.k (.sc (.int .i64 1125899906842624)))),
  o1 31 (.pick (.s 28) (.k (.sc (.bool true))) (.s 30)),
  o2 32 (.mv false (.s 31)),
  o3 33 32 false (.mv false (.s 3)),
  o3 34 32 false (.bin .lss (.s 33) (.k (.sc (.int .i64 0)))),
  o1 35 (.pick (.s 32) (.k (.sc (.bool true))) (.s 34)),
  o2 36 (.mv false (.s 35)),
  o3 37 36 false (.mv false (.s 3)),
  o3 38 36 false (.bin .gtr (.s 37) (.k (.sc (.int .i64 1125899906842624)))),
  o1 39 (.pick (.s 36) (.k (.sc (.bool true))) (.s 38))]
def g_cubic_Acked_5 : List (IStep2 RW) := [o1 40 (.build [.sc (.int .i64 0), .sc (.int .i64 0), .sc (.int .i64 0), .sc (.int .i64 0), .sc (.int .i64 0), .sc (.int .i64 0), .sc (.int .i64 0), .sc (.int .i64 0), .sc (.int .i64 0), .sc (.int .i64 0), .sc (.int .i64 0), .row false (.rEntry []), .sc (.int .i64 0), .sc (.int .i64 0), .sc (.int .i64 0), .sc (.int .i64 0), .sc (.int .i64 0), .sc (.int .i64 0), .sc (.int .i64 0), .sc (.int .i64 0), .sc (.int .i64 0), .sc (.int .i64 0)] []),
  o0 (.store 112 0 22 false 10 (.s 40)),
  o1 11 (.mv false (.k (.sc (.int .i64 2))))]
def g_cubic_Acked_6 : List (IStep2 RW) := [o1 41 (.load 89 0 22 true false 5),
  o1 42 (.build [.sc (.int .i64 0), .sc (.int .i64 0), .sc (.int .i64 0), .sc (.int .i64 0), .sc (.int .i64 0), .sc (.int .i64 0), .sc (.int .i64 0), .sc (.int .i64 0), .sc (.int .i64 0), .sc (.int .i64 0), .sc (.int .i64 0), .row false (.rEntry []), .sc (.int .i64 0), .sc (.int .i64 0), .sc (.int .i64 0), .sc (.int .i64 0), .sc (.int .i64 0), .sc (.int .i64 0), .sc (.int .i64 0), .sc (.int .i64 0), .sc (.int .i64 0), .sc (.int .i64 0)] [(0, 22, .s 41)]),
  o1 43 (.box 135 22 false (.s 42)),
  o1 13 (.mv false (.s 43))]
def g_cubic_Acked_8 : List (IStep2 RW) := [o1 50 (.mv false (.s 4)),
  o1 49 (.mv false (.s 50))]
def g_cubic_Acked_9 : List (IStep2 RW) := [o1 51 (.mv false (.s 13)),
  o1 52 (.nil (.s 51)),
  o1 53 (.fld 0 (.s 52)),
  o1 54 (.fld 6 (.s 53)),
  o0 (.store 135 6 1 false 54 (.k (.sc (.int .i64 (-1)))))]
def g_cubic_Acked_10 : List (IStep2 RW) := [o1 56 (.mv false (.s 13)),
  o1 57 (.nil (.s 56)),
  o1 58 (.fld 0 (.s 57)),
  o1 59 (.fld 2 (.s 58)),
  o1 60 (.load 135 2 1 false false 59),
  o1 61 (.mv false (.s 13)),
  o1 62 (.nil (.s 61)),
  o1 63 (.fld 0 (.s 62)),
  o1 64 (.fld 3 (.s 63)),
  o1 65 (.load 135 3 1 false false 64),
  o1 66 (.bin .lss (.s 60) (.s 65)),
  o1 55 (.mv false (.s 66))]
def g_cubic_Acked_11 : List (IStep2 RW) := [o1 67 (.mv false (.s 13)),
  o1 68 (.mv false (.s 13)),
  o1 69 (.nil (.s 68)),
  o1 70 (.fld 0 (.s 69)),
  o1 71 (.fld 2 (.s 70)),
  o1 72 (.load 135 2 1 false false 71),
  o1 73 (.mv false (.s 1)),
  o1 74 (.mv false (.s 13)),
  o1 75 (.nil (.s 74)),
  o1 76 (.fld 0 (.s 75)),
  o1 77 (.fld 1 (.s 76)),
  o1 78 (.load 135 1 1 false false 77),
  o1 79 (.mnmx false [.s 73, .s 78]),
  o1 80 (.bin .add (.s 72) (.s 79)),
  o1 81 (.mnmx false [.k (.sc (.int .i64 1073741824)), .s 80]),
  o1 82 (.nil (.s 67)),
  o1 83 (.fld 0 (.s 82)),
  o1 84 (.fld 2 (.s 83)),
  o0 (.store 135 2 1 false 84 (.s 81))]
def g_cubic_Acked_7 : List (IStep2 RW) := [o1 44 (.mv false (.s 13)),
  o1 45 (.mv false (.s 1)),
  o1 46 (.mv false (.s 2)),
  o1 47 (.mv false (.s 3)),
  o1 48 (.call 1062 [(false, .s 44), (false, .s 45), (false, .s 46), (false, .s 47)] [(135, 22, 110)] [])]
def g_cubic_Acked_12 : List (IStep2 RW) := [o1 85 (.mv false (.s 13)),
  o1 86 (.nil (.s 85)),
  o1 87 (.fld 0 (.s 86)),
  o1 88 (.load 135 0 22 true false 87),
  o0 (.store 112 0 22 false 10 (.s 88)),
  o1 11 (.mv false (.k (.sc (.int .i64 0))))]
def i_cubic_Acked_0 : IC2 RW := .seq (.fin (.reg g_cubic_Acked_0) [0, 11] []) (.seq (.seq (.fin (.reg g_cubic_Acked_1) [14, 15] []) (.seq (.fin (.reg g_cubic_Acked_2) [16] []) (.fin (.cond (.s 17) (.seq (.fin (.reg g_cubic_Acked_3) [1, 2, 3, 4, 5, 12, 17, 18, 19] [(89, 22)]) (.ret)) (.skip)) [12, 17] []))) (.seq (.seq (.fin (.reg g_cubic_Acked_4) [20, 21, 22, 23, 24, 25, 26, 27, 28, 29, 30, 31, 32, 33, 34, 35, 36, 37, 38] []) (.fin (.cond (.s 39) (.seq (.fin (.reg g_cubic_Acked_5) [1, 2, 3, 4, 5, 39, 40] [(89, 22)]) (.ret)) (.skip)) [39] [])) (.seq (.fin (.reg g_cubic_Acked_6) [5, 41, 42, 43] [(89, 22)]) (.seq (.blk 0 (.seq (.fin (.reg g_cubic_Acked_8) [4, 50] []) (.cond (.s 49) (.fin (.reg g_cubic_Acked_9) [1, 2, 3, 49, 51, 52, 53, 54] []) (.seq (.fin (.reg g_cubic_Acked_10) [49, 56, 57, 58, 59, 60, 61, 62, 63, 64, 65, 66] []) (.cond (.s 55) (.fin (.reg g_cubic_Acked_11) [1, 2, 3, 55, 67, 68, 69, 70, 71, 72, 73, 74, 75, 76, 77, 78, 79, 80, 81, 82, 83, 84] []) (.fin (.reg g_cubic_Acked_7) [1, 2, 3, 44, 45, 46, 47, 48, 55] [])))))) (.seq (.fin (.reg g_cubic_Acked_12) [13, 85, 86, 87, 88] [(135, 22)]) (.ret))))))
def fn_cubic_Acked : IFn2 RW := ⟨50, 5, 89, 160, [(89, 22), (112, 22), (135, 22)], [], [], [.cell 10 112 22 true, .slot 11], i_cubic_Acked_0⟩
def g_cc_Acked_3 : List (IStep2 RW) := [o1 17 (.load 57 0 22 true false 3),
  o1 18 (.fld 1 (.s 4)),
  o1 19 (.load 80 1 1 false false 18),
  o1 20 (.call 33 [(false, .s 19)] [] []),
  o2 21 (.mv false (.s 20)),
  o3 22 21 true (.fld 0 (.s 4)),
  o3 23 21 true (.load 80 0 1 false false 22),
  o3 24 21 true (.call 32 [(false, .s 23)] [] []),
  o1 25 (.pick (.s 21) (.s 24) (.k (.sc (.bool false)))),
  o2 26 (.mv false (.s 25)),
  o3 27 26 true (.mv false (.s 2)),
  o3 28 26 true (.call 32 [(false, .s 27)] [] []),
  o1 29 (.pick (.s 26) (.s 28) (.k (.sc (.bool false)))),
  o1 30 (.call 31 [(false, .s 17), (false, .s 29)] [] []),
  o1 8 (.mv false (.s 30))]
def i_cc_Acked_0 : IC2 RW := .fin (.reg g_cc_Acked_3) [17, 18, 19, 20, 21, 22, 23, 24, 25, 26, 27, 28, 29, 30] []
def g_cc_Acked_4 : List (IStep2 RW) := [o1 31 (.mv false (.s 8)),
  o1 32 (.bin .neq (.s 31) (.k (.sc (.int .i64 0))))]
def g_cc_Acked_5 : List (IStep2 RW) := [o1 33 (.build [.sc (.int .i64 0), .sc (.int .i64 0), .sc (.int .i64 0), .sc (.int .i64 0), .sc (.int .i64 0), .sc (.int .i64 0), .sc (.int .i64 0), .sc (.int .i64 0), .sc (.int .i64 0), .sc (.int .i64 0), .sc (.int .i64 0), .row false (.rEntry []), .sc (.int .i64 0), .sc (.int .i64 0), .sc (.int .i64 0), .sc (.int .i64 0), .sc (.int .i64 0), .sc (.int .i64 0), .sc (.int .i64 0), .sc (.int .i64 0), .sc (.int .i64 0), .sc (.int .i64 0)] []),
  o1 34 (.mv false (.s 8)),
  o0 (.store 89 0 22 false 6 (.s 33)),
  o1 7 (.mv false (.s 34))]
def i_cc_Acked_1 : IC2 RW := .seq (.fin (.reg g_cc_Acked_4) [31] []) (.fin (.cond (.s 32) (.seq (.fin (.reg g_cc_Acked_5) [2, 3, 4, 8, 32, 33, 34] [(57, 22), (80, 8)]) (.ret)) (.skip)) [8, 32] [])
def i_cc_Acked_2 : IC2 RW := .seq i_cc_Acked_0 i_cc_Acked_1
def g_cc_Acked_6 : List (IStep2 RW) := [o1 35 (.fld 0 (.s 3)),
  o1 36 (.load 57 0 1 false false 35),
  o1 37 (.bin .eql (.s 36) (.k (.sc (.int .i64 1))))]
def g_cc_Acked_7 : List (IStep2 RW) := [o1 38 (.load 57 0 22 true false 3),
  o1 39 (.fld 1 (.s 4)),
  o1 40 (.load 80 1 1 false false 39),
  o1 41 (.fld 4 (.s 4)),
  o1 42 (.load 80 4 1 false false 41),
  o1 43 (.call 49 [(false, .s 38), (false, .s 40), (false, .s 42)] [] []),
  o1 44 (.ext false 0 (.s 43)),
  o1 45 (.ext false 1 (.s 43)),
  o0 (.store 89 0 22 false 6 (.s 44)),
  o1 7 (.mv false (.s 45))]
def g_cc_Acked_8 : List (IStep2 RW) := [o1 46 (.load 57 0 22 true false 3),
  o1 47 (.fld 1 (.s 4)),
  o1 48 (.load 80 1 1 false false 47),
  o1 49 (.fld 0 (.s 4)),
  o1 50 (.load 80 0 1 false false 49),
  o1 51 (.mv false (.s 2)),
  o1 52 (.fld 4 (.s 4)),
  o1 53 (.load 80 4 1 false false 52),
  o1 54 (.call 50 [(false, .s 46), (false, .s 48), (false, .s 50), (false, .s 51), (false, .s 53)] [] []),
  o1 55 (.ext false 0 (.s 54)),
  o1 56 (.ext false 1 (.s 54)),
  o0 (.store 89 0 22 false 6 (.s 55)),
  o1 7 (.mv false (.s 56))]
def i_cc_Acked_3 : IC2 RW := .seq (.seq (.fin (.reg g_cc_Acked_6) [35, 36] []) (.fin (.cond (.s 37) (.seq (.fin (.reg g_cc_Acked_7) [2, 3, 4, 37, 38, 39, 40, 41, 42, 43, 44, 45] [(57, 22), (80, 8)]) (.ret)) (.skip)) [37] [])) (.seq (.fin (.reg g_cc_Acked_8) [2, 3, 4, 46, 47, 48, 49, 50, 51, 52, 53, 54, 55, 56] [(57, 22), (80, 8)]) (.ret))
def i_cc_Acked_4 : IC2 RW := .seq i_cc_Acked_2 i_cc_Acked_3
def g_cc_Acked_0 : List (IStep2 RW) := [o1 3 (.box 57 22 false (.s 0)),
  o1 4 (.box 80 8 false (.s 1)),
  o1 6 (.alloc 89 [.sc (.int .i64 0), .sc (.int .i64 0), .sc (.int .i64 0), .sc (.int .i64 0), .sc (.int .i64 0), .sc (.int .i64 0), .sc (.int .i64 0), .sc (.int .i64 0), .sc (.int .i64 0), .sc (.int .i64 0), .sc (.int .i64 0), .row false (.rEntry []), .sc (.int .i64 0), .sc (.int .i64 0), .sc (.int .i64 0), .sc (.int .i64 0), .sc (.int .i64 0), .sc (.int .i64 0), .sc (.int .i64 0), .sc (.int .i64 0), .sc (.int .i64 0), .sc (.int .i64 0)]),
  o1 7 (.mv false (.k (.sc (.int .i64 0))))]
def g_cc_Acked_1 : List (IStep2 RW) := [o1 9 (.fld 0 (.s 3)),
  o1 10 (.load 57 0 1 false false 9),
  o1 11 (.bin .eql (.s 10) (.k (.sc (.int .i64 3))))]
def g_cc_Acked_2 : List (IStep2 RW) := [o1 12 (.load 57 0 22 true false 3),
  o1 13 (.load 80 0 8 true false 4),
  o1 14 (.call 48 [(false, .s 12), (false, .s 13)] [] []),
  o1 15 (.ext false 0 (.s 14)),
  o1 16 (.ext false 1 (.s 14)),
  o0 (.store 89 0 22 false 6 (.s 15)),
  o1 7 (.mv false (.s 16))]
def i_cc_Acked_5 : IC2 RW := .seq (.fin (.reg g_cc_Acked_0) [0, 1, 7] []) (.seq (.seq (.fin (.reg g_cc_Acked_1) [9, 10] []) (.fin (.cond (.s 11) (.seq (.fin (.reg g_cc_Acked_2) [2, 3, 4, 11, 12, 13, 14, 15, 16] [(57, 22), (80, 8)]) (.ret)) (.skip)) [11] [])) i_cc_Acked_4)
def fn_cc_Acked : IFn2 RW := ⟨21, 3, 57, 112, [(57, 22), (80, 8), (89, 22)], [], [], [.cell 6 89 22 true, .slot 7], i_cc_Acked_5⟩
def g_law19_CcStays_10 : List (IStep2 RW) := [o1 51 (.load 179 0 22 true false 9),
  o1 52 (.mv false (.s 2)),
  o1 53 (.mv false (.s 11)),
  o1 54 (.idx 8 (.s 52) (.s 53)),
  o1 55 (.fld 7 (.s 54)),
  o1 56 (.loade 1 false 55),
  o1 57 (.call 18 [(false, .s 51), (false, .s 56)] [] []),
  o1 50 (.mv false (.s 57)),
  o1 58 (.ext false 0 (.s 50)),
  o1 59 (.ext false 1 (.s 50)),
  o0 (.store 202 0 22 false 12 (.s 58)),
  o1 13 (.mv false (.s 59))]
def i_law19_CcStays_0 : IC2 RW := .fin (.reg g_law19_CcStays_10) [47, 48, 50, 51, 52, 53, 54, 55, 56, 57, 58, 59] []
def g_law19_CcStays_12 : List (IStep2 RW) := [o1 63 (.load 179 0 22 true false 9),
  o1 64 (.mv false (.s 2)),
  o1 65 (.mv false (.s 11)),
  o1 66 (.idx 8 (.s 64) (.s 65)),
  o1 67 (.fld 7 (.s 66)),
  o1 68 (.loade 1 false 67),
  o1 69 (.call 19 [(false, .s 63), (false, .s 68)] [] []),
  o1 62 (.mv false (.s 69)),
  o1 70 (.ext false 0 (.s 62)),
  o1 71 (.ext false 1 (.s 62)),
  o0 (.store 202 0 22 false 12 (.s 70)),
  o1 13 (.mv false (.s 71))]
def i_law19_CcStays_1 : IC2 RW := .fin (.reg g_law19_CcStays_12) [47, 60, 62, 63, 64, 65, 66, 67, 68, 69, 70, 71] []
def g_law19_CcStays_14 : List (IStep2 RW) := [o1 75 (.load 179 0 22 true false 9),
  o1 76 (.call 20 [(false, .s 75)] [] []),
  o1 74 (.mv false (.s 76)),
  o1 77 (.ext false 0 (.s 74)),
  o1 78 (.ext false 1 (.s 74)),
  o0 (.store 202 0 22 false 12 (.s 77)),
  o1 13 (.mv false (.s 78))]
def i_law19_CcStays_2 : IC2 RW := .fin (.reg g_law19_CcStays_14) [47, 72, 74, 75, 76, 77, 78] []
def g_law19_CcStays_16 : List (IStep2 RW) := [o1 82 (.load 179 0 22 true false 9),
  o1 83 (.mv false (.s 2)),
  o1 84 (.mv false (.s 11)),
  o1 85 (.idx 8 (.s 83) (.s 84)),
  o1 86 (.fld 0 (.s 85)),
  o1 87 (.loade 1 false 86),
  o1 88 (.mv false (.s 2)),
  o1 89 (.mv false (.s 11)),
  o1 90 (.idx 8 (.s 88) (.s 89)),
  o1 91 (.fld 2 (.s 90)),
  o1 92 (.loade 1 false 91),
  o1 93 (.mv false (.s 2)),
  o1 94 (.mv false (.s 11)),
  o1 95 (.idx 8 (.s 93) (.s 94)),
  o1 96 (.fld 7 (.s 95)),
  o1 97 (.loade 1 false 96),
  o1 98 (.call 12 [(false, .s 82), (false, .s 87), (false, .s 92), (false, .s 97)] [] []),
  o1 81 (.mv false (.s 98)),
  o1 99 (.ext false 0 (.s 81)),
  o1 100 (.ext false 1 (.s 81)),
  o0 (.store 202 0 22 false 12 (.s 99)),
  o1 13 (.mv false (.s 100))]
def i_law19_CcStays_3 : IC2 RW := .fin (.reg g_law19_CcStays_16) [47, 79, 81, 82, 83, 84, 85, 86, 87, 88, 89, 90, 91, 92, 93, 94, 95, 96, 97, 98, 99, 100] []
def g_law19_CcStays_17 : List (IStep2 RW) := [o1 102 (.bin .eql (.s 47) (.k (.sc (.int .i64 4)))),
  o1 101 (.mv false (.s 102))]
def g_law19_CcStays_18 : List (IStep2 RW) := [o1 104 (.load 179 0 22 true false 9),
  o1 105 (.mv false (.s 2)),
  o1 106 (.mv false (.s 11)),
  o1 107 (.idx 8 (.s 105) (.s 106)),
  o1 108 (.fld 7 (.s 107)),
  o1 109 (.loade 1 false 108),
  o1 110 (.call 14 [(false, .s 104), (false, .s 109)] [] []),
  o1 103 (.mv false (.s 110)),
  o1 111 (.ext false 0 (.s 103)),
  o1 112 (.ext false 1 (.s 103)),
  o0 (.store 202 0 22 false 12 (.s 111)),
  o1 13 (.mv false (.s 112))]
def g_law19_CcStays_19 : List (IStep2 RW) := [o1 114 (.bin .eql (.s 47) (.k (.sc (.int .i64 5)))),
  o1 113 (.mv false (.s 114))]
def g_law19_CcStays_20 : List (IStep2 RW) := [o1 115 (.bin .eql (.s 47) (.k (.sc (.int .i64 6)))),
  o1 113 (.mv false (.s 115))]
def g_law19_CcStays_21 : List (IStep2 RW) := [o1 116 (.bin .eql (.s 47) (.k (.sc (.int .i64 7)))),
  o1 113 (.mv false (.s 116))]
def g_law19_CcStays_22 : List (IStep2 RW) := [o1 118 (.load 179 0 22 true false 9),
  o1 119 (.mv false (.s 2)),
  o1 120 (.mv false (.s 11)),
  o1 121 (.idx 8 (.s 119) (.s 120)),
  o1 122 (.loade 8 true 121),
  o1 123 (.mv false (.s 2)),
  o1 124 (.mv false (.s 11)),
  o1 125 (.idx 8 (.s 123) (.s 124)),
  o1 126 (.fld 2 (.s 125)),
  o1 127 (.loade 1 false 126),
  o1 128 (.call 21 [(false, .s 118), (false, .s 122), (false, .s 127)] [] []),
  o1 117 (.mv false (.s 128)),
  o1 129 (.ext false 0 (.s 117)),
  o1 130 (.ext false 1 (.s 117)),
  o0 (.store 202 0 22 false 12 (.s 129)),
  o1 13 (.mv false (.s 130))]
def i_law19_CcStays_4 : IC2 RW := .seq (.fin (.reg g_law19_CcStays_17) [79, 102] []) (.cond (.s 101) (.fin (.reg g_law19_CcStays_18) [47, 101, 103, 104, 105, 106, 107, 108, 109, 110, 111, 112] []) (.seq (.seq (.fin (.reg g_law19_CcStays_19) [101, 114] []) (.fin (.cond (.s 113) (.skip) (.seq (.fin (.reg g_law19_CcStays_20) [115] []) (.fin (.cond (.s 113) (.skip) (.fin (.reg g_law19_CcStays_21) [47, 116] [])) [47] []))) [47] [])) (.fin (.cond (.s 113) (.fin (.reg g_law19_CcStays_22) [113, 117, 118, 119, 120, 121, 122, 123, 124, 125, 126, 127, 128, 129, 130] []) (.skip)) [113] [])))
def i_law19_CcStays_5 : IC2 RW := .cond (.s 79) i_law19_CcStays_3 i_law19_CcStays_4
def g_law19_CcStays_15 : List (IStep2 RW) := [o1 80 (.bin .eql (.s 47) (.k (.sc (.int .i64 3)))),
  o1 79 (.mv false (.s 80))]
def i_law19_CcStays_6 : IC2 RW := .seq (.fin (.reg g_law19_CcStays_15) [72, 80] []) i_law19_CcStays_5
def i_law19_CcStays_7 : IC2 RW := .cond (.s 72) i_law19_CcStays_2 i_law19_CcStays_6
def g_law19_CcStays_13 : List (IStep2 RW) := [o1 73 (.bin .eql (.s 47) (.k (.sc (.int .i64 2)))),
  o1 72 (.mv false (.s 73))]
def i_law19_CcStays_8 : IC2 RW := .seq (.fin (.reg g_law19_CcStays_13) [60, 73] []) i_law19_CcStays_7
def i_law19_CcStays_9 : IC2 RW := .cond (.s 60) i_law19_CcStays_1 i_law19_CcStays_8
def g_law19_CcStays_11 : List (IStep2 RW) := [o1 61 (.bin .eql (.s 47) (.k (.sc (.int .i64 1)))),
  o1 60 (.mv false (.s 61))]
def i_law19_CcStays_10 : IC2 RW := .seq (.fin (.reg g_law19_CcStays_11) [48, 61] []) i_law19_CcStays_9
def i_law19_CcStays_11 : IC2 RW := .cond (.s 48) i_law19_CcStays_0 i_law19_CcStays_10
def g_law19_CcStays_9 : List (IStep2 RW) := [o1 49 (.bin .eql (.s 47) (.k (.sc (.int .i64 0)))),
  o1 48 (.mv false (.s 49))]
def i_law19_CcStays_12 : IC2 RW := .seq (.fin (.reg g_law19_CcStays_9) [49] []) i_law19_CcStays_11
def i_law19_CcStays_13 : IC2 RW := .blk 2 i_law19_CcStays_12
def g_law19_CcStays_8 : List (IStep2 RW) := [o1 43 (.mv false (.s 3)),
  o1 44 (.mv false (.s 11)),
  o1 45 (.idx 1 (.s 43) (.s 44)),
  o1 46 (.loade 1 false 45),
  o1 47 (.bin .and (.s 46) (.k (.sc (.int .i64 7))))]
def i_law19_CcStays_14 : IC2 RW := .seq (.fin (.reg g_law19_CcStays_8) [43, 44, 45, 46] []) i_law19_CcStays_13
def g_law19_CcStays_23 : List (IStep2 RW) := [o1 131 (.mv false (.s 13)),
  o1 132 (.bin .neq (.s 131) (.k (.sc (.int .i64 0))))]
def g_law19_CcStays_24 : List (IStep2 RW) := [o1 133 (.mv false (.s 13)),
  o1 134 (.bin .eql (.s 133) (.k (.sc (.int .i64 2)))),
  o2 135 (.mv false (.s 134)),
  o3 136 135 true (.call 11 [] [] []),
  o1 137 (.pick (.s 135) (.s 136) (.k (.sc (.bool false)))),
  o1 8 (.mv false (.s 137))]
def g_law19_CcStays_25 : List (IStep2 RW) := [o1 138 (.load 202 0 22 true false 12),
  o1 139 (.call 10 [(false, .s 138)] [] []),
  o1 140 (.bin .neq (.s 139) (.k (.sc (.int .i64 0)))),
  o2 141 (.mv false (.s 140)),
  o3 142 141 false (.fld 2 (.s 12)),
  o3 143 141 false (.load 202 2 1 false false 142),
  o3 144 141 false (.mv false (.s 1)),
  o3 145 141 false (.bin .lss (.s 143) (.s 144)),
  o1 146 (.pick (.s 141) (.k (.sc (.bool true))) (.s 145)),
  o2 147 (.mv false (.s 146)),
  o3 148 147 false (.fld 2 (.s 12)),
  o3 149 147 false (.load 202 2 1 false false 148),
  o3 150 147 false (.bin .gtr (.s 149) (.k (.sc (.int .i64 1073741824)))),
  o1 151 (.pick (.s 147) (.k (.sc (.bool true))) (.s 150)),
  o2 152 (.mv false (.s 151)),
  o3 153 152 false (.fld 0 (.s 12)),
  o3 154 152 false (.load 202 0 1 false false 153),
  o3 155 152 false (.mv false (.s 0)),
  o3 156 152 false (.bin .neq (.s 154) (.s 155)),
  o1 157 (.pick (.s 152) (.k (.sc (.bool true))) (.s 156)),
  o2 158 (.mv false (.s 157)),
  o3 159 158 false (.fld 1 (.s 12)),
  o3 160 158 false (.load 202 1 1 false false 159),
  o3 161 158 false (.mv false (.s 1)),
  o3 162 158 false (.bin .neq (.s 160) (.s 161)),
  o1 163 (.pick (.s 158) (.k (.sc (.bool true))) (.s 162))]
def g_law19_CcStays_26 : List (IStep2 RW) := [o1 8 (.mv false (.k (.sc (.bool false))))]
def g_law19_CcStays_27 : List (IStep2 RW) := [o1 164 (.load 202 0 22 true false 12),
  o1 165 (.mv false (.s 2)),
  o1 166 (.mv false (.s 11)),
  o1 167 (.idx 8 (.s 165) (.s 166)),
  o1 168 (.fld 2 (.s 167)),
  o1 169 (.loade 1 false 168),
  o1 170 (.call 16 [(false, .s 164), (false, .s 169), (false, .k (.sc (.int .i64 7)))] [] []),
  o1 14 (.mv false (.s 170))]
def g_law19_CcStays_28 : List (IStep2 RW) := [o1 171 (.mv false (.s 14)),
  o1 172 (.bin .lss (.s 171) (.k (.sc (.int .i64 7)))),
  o2 173 (.mv false (.s 172)),
  o3 174 173 false (.mv false (.s 14)),
  o3 175 173 false (.bin .gtr (.s 174) (.k (.sc (.int .i64 1099511627776)))),
  o1 176 (.pick (.s 173) (.k (.sc (.bool true))) (.s 175))]
def g_law19_CcStays_29 : List (IStep2 RW) := [o1 8 (.mv false (.k (.sc (.bool false))))]
def g_law19_CcStays_30 : List (IStep2 RW) := [o1 177 (.load 202 0 22 true false 12),
  o0 (.store 179 0 22 false 9 (.s 177))]
def i_law19_CcStays_15 : IC2 RW := .seq (.seq (.fin (.reg g_law19_CcStays_23) [131] []) (.fin (.cond (.s 132) (.seq (.fin (.reg g_law19_CcStays_24) [0, 1, 2, 3, 9, 11, 12, 13, 132, 133, 134, 135, 136, 137] [(179, 22), (202, 22)]) (.ret)) (.skip)) [13, 132] [])) (.seq (.seq (.fin (.reg g_law19_CcStays_25) [138, 139, 140, 141, 142, 143, 144, 145, 146, 147, 148, 149, 150, 151, 152, 153, 154, 155, 156, 157, 158, 159, 160, 161, 162] []) (.fin (.cond (.s 163) (.seq (.fin (.reg g_law19_CcStays_26) [0, 1, 2, 3, 9, 11, 12, 163] [(179, 22), (202, 22)]) (.ret)) (.skip)) [163] [])) (.seq (.fin (.reg g_law19_CcStays_27) [164, 165, 166, 167, 168, 169, 170] []) (.seq (.seq (.fin (.reg g_law19_CcStays_28) [14, 171, 172, 173, 174, 175] []) (.fin (.cond (.s 176) (.seq (.fin (.reg g_law19_CcStays_29) [0, 1, 2, 3, 9, 11, 12, 176] [(179, 22), (202, 22)]) (.ret)) (.skip)) [176] [])) (.fin (.reg g_law19_CcStays_30) [12, 177] [(202, 22)]))))
def i_law19_CcStays_16 : IC2 RW := .seq i_law19_CcStays_14 i_law19_CcStays_15
def g_law19_CcStays_7 : List (IStep2 RW) := [o1 42 (.load 179 0 22 true false 9),
  o1 12 (.alloc 202 [.sc (.int .i64 0), .sc (.int .i64 0), .sc (.int .i64 0), .sc (.int .i64 0), .sc (.int .i64 0), .sc (.int .i64 0), .sc (.int .i64 0), .sc (.int .i64 0), .sc (.int .i64 0), .sc (.int .i64 0), .sc (.int .i64 0), .row false (.rEntry []), .sc (.int .i64 0), .sc (.int .i64 0), .sc (.int .i64 0), .sc (.int .i64 0), .sc (.int .i64 0), .sc (.int .i64 0), .sc (.int .i64 0), .sc (.int .i64 0), .sc (.int .i64 0), .sc (.int .i64 0)]),
  o0 (.store 202 0 22 false 12 (.s 42)),
  o1 13 (.mv false (.k (.sc (.int .i64 0))))]
def i_law19_CcStays_17 : IC2 RW := .seq (.fin (.reg g_law19_CcStays_7) [42] []) i_law19_CcStays_16
def i_law19_CcStays_18 : IC2 RW := .blk 1 i_law19_CcStays_17
def g_law19_CcStays_6 : List (IStep2 RW) := [o1 40 (.mv false (.s 11)),
  o1 41 (.bin .add (.s 40) (.k (.sc (.int .i64 1)))),
  o1 11 (.mv false (.s 41))]
def i_law19_CcStays_19 : IC2 RW := .fin (.reg g_law19_CcStays_6) [40, 41] []
def i_law19_CcStays_20 : IC2 RW := .seq i_law19_CcStays_18 i_law19_CcStays_19
def g_law19_CcStays_5 : List (IStep2 RW) := [o1 36 (.mv false (.s 11)),
  o1 37 (.mv false (.s 2)),
  o1 38 (.len false (.s 37)),
  o1 39 (.bin .lss (.s 36) (.s 38))]
def i_law19_CcStays_21 : IC2 RW := .seq (.seq (.fin (.reg g_law19_CcStays_5) [36, 37, 38] []) (.fin (.cond (.s 39) (.skip) (.clr [0, 1, 2, 3, 9, 11, 39] [(179, 22)] (.exit 0))) [39] [])) i_law19_CcStays_20
def i_law19_CcStays_22 : IC2 RW := .loop i_law19_CcStays_21
def i_law19_CcStays_23 : IC2 RW := .blk 0 i_law19_CcStays_22
def g_law19_CcStays_4 : List (IStep2 RW) := [o1 11 (.mv false (.k (.sc (.int .i64 0))))]
def i_law19_CcStays_24 : IC2 RW := .seq (.reg g_law19_CcStays_4) i_law19_CcStays_23
def g_law19_CcStays_31 : List (IStep2 RW) := [o1 178 (.call 11 [] [] []),
  o1 8 (.mv false (.s 178))]
def i_law19_CcStays_25 : IC2 RW := .seq (.fin (.reg g_law19_CcStays_31) [178] []) (.ret)
def i_law19_CcStays_26 : IC2 RW := .seq i_law19_CcStays_24 i_law19_CcStays_25
def g_law19_CcStays_0 : List (IStep2 RW) := [o1 8 (.mv false (.k (.sc (.bool false))))]
def g_law19_CcStays_1 : List (IStep2 RW) := [o1 16 (.mv false (.s 0)),
  o1 17 (.mv false (.s 1)),
  o1 18 (.call 7 [(false, .s 16), (false, .s 17), (false, .k (.sc (.int .i64 4)))] [] []),
  o1 15 (.mv false (.s 18)),
  o1 19 (.ext false 0 (.s 15)),
  o1 20 (.ext false 1 (.s 15)),
  o1 9 (.alloc 179 [.sc (.int .i64 0), .sc (.int .i64 0), .sc (.int .i64 0), .sc (.int .i64 0), .sc (.int .i64 0), .sc (.int .i64 0), .sc (.int .i64 0), .sc (.int .i64 0), .sc (.int .i64 0), .sc (.int .i64 0), .sc (.int .i64 0), .row false (.rEntry []), .sc (.int .i64 0), .sc (.int .i64 0), .sc (.int .i64 0), .sc (.int .i64 0), .sc (.int .i64 0), .sc (.int .i64 0), .sc (.int .i64 0), .sc (.int .i64 0), .sc (.int .i64 0), .sc (.int .i64 0)]),
  o0 (.store 179 0 22 false 9 (.s 19)),
  o1 10 (.mv false (.s 20))]
def g_law19_CcStays_2 : List (IStep2 RW) := [o1 21 (.mv false (.s 10)),
  o1 22 (.bin .neq (.s 21) (.k (.sc (.int .i64 0)))),
  o2 23 (.mv false (.s 22)),
  o3 24 23 false (.mv false (.s 2)),
  o3 25 23 false (.len false (.s 24)),
  o3 26 23 false (.bin .gtr (.s 25) (.k (.sc (.int .i64 200)))),
  o1 27 (.pick (.s 23) (.k (.sc (.bool true))) (.s 26)),
  o2 28 (.mv false (.s 27)),
  o3 29 28 false (.mv false (.s 3)),
  o3 30 28 false (.len false (.s 29)),
  o3 31 28 false (.mv false (.s 2)),
  o3 32 28 false (.len false (.s 31)),
  o3 33 28 false (.bin .lss (.s 30) (.s 32)),
  o1 34 (.pick (.s 28) (.k (.sc (.bool true))) (.s 33))]
def g_law19_CcStays_3 : List (IStep2 RW) := [o1 35 (.call 11 [] [] []),
  o1 8 (.mv false (.s 35))]
def i_law19_CcStays_27 : IC2 RW := .seq (.fin (.reg g_law19_CcStays_0) [8] []) (.seq (.fin (.reg g_law19_CcStays_1) [15, 16, 17, 18, 19, 20] []) (.seq (.seq (.fin (.reg g_law19_CcStays_2) [10, 21, 22, 23, 24, 25, 26, 27, 28, 29, 30, 31, 32, 33] []) (.fin (.cond (.s 34) (.seq (.fin (.reg g_law19_CcStays_3) [0, 1, 2, 3, 9, 34, 35] [(179, 22)]) (.ret)) (.skip)) [34] [])) i_law19_CcStays_26))
def fn_law19_CcStays : IFn2 RW := ⟨6, 4, 179, 240, [(179, 22), (202, 22)], [], [], [.slot 8], i_law19_CcStays_27⟩
/-! tideway/reno.New -/
theorem run_reno_New {R : Type} (cp : Nat → Nat → Bool) (n : Nat) (p0 p1 : Int) (k : Ret2 RW → Option R) : G_reno_New cp (n + 1) p0 p1 (fun r0 r1 => k ⟨.tup [.agg (eCct r0), (tL r1)], [], []⟩) = run2 U cp (callP cp n) n fn_reno_New [(tL p0), (tL p1)] [] k := by kernel_rfl
/-! tideway/cubic.New -/
theorem run_cubic_New {R : Type} (cp : Nat → Nat → Bool) (n : Nat) (p0 p1 : Int) (k : Ret2 RW → Option R) : G_cubic_New cp (n + 1) p0 p1 (fun r0 r1 => k ⟨.tup [.agg (eCct r0), (tL r1)], [], []⟩) = run2 U cp (callP cp n) n fn_cubic_New [(tL p0), (tL p1)] [] k := by kernel_rfl
/-! tideway/bbr.New -/
theorem run_bbr_New {R : Type} (cp : Nat → Nat → Bool) (n : Nat) (p0 p1 : Int) (k : Ret2 RW → Option R) : G_bbr_New cp (n + 1) p0 p1 (fun r0 r1 => k ⟨.tup [.agg (eCct r0), (tL r1)], [], []⟩) = run2 U cp (callP cp n) n fn_bbr_New [(tL p0), (tL p1)] [] k := by kernel_rfl
/-! tideway/cc.New -/
theorem run_cc_New {R : Type} (cp : Nat → Nat → Bool) (n : Nat) (p0 p1 p2 : Int) (k : Ret2 RW → Option R) : G_cc_New cp (n + 1) p0 p1 p2 (fun r0 r1 => k ⟨.tup [.agg (eCct r0), (tL r1)], [], []⟩) = run2 U cp (callP cp n) n fn_cc_New [(tL p0), (tL p1), (tL p2)] [] k := by kernel_rfl
/-! tideway/cc.time -/
theorem run_cc_time {R : Type} (cp : Nat → Nat → Bool) (n : Nat) (p0 : Int) (k : Ret2 RW → Option R) : G_cc_time cp (n + 1) p0 (fun r0 => k ⟨(tB r0), [], []⟩) = run2 U cp (callP cp n) n fn_cc_time [(tL p0)] [] k := by kernel_rfl
/-! tideway/cc.size -/
theorem run_cc_size {R : Type} (cp : Nat → Nat → Bool) (n : Nat) (p0 : Int) (k : Ret2 RW → Option R) : G_cc_size cp (n + 1) p0 (fun r0 => k ⟨(tB r0), [], []⟩) = run2 U cp (callP cp n) n fn_cc_size [(tL p0)] [] k := by kernel_rfl
/-! tideway/reno.size -/
theorem run_reno_size {R : Type} (cp : Nat → Nat → Bool) (n : Nat) (p0 : Int) (k : Ret2 RW → Option R) : G_reno_size cp (n + 1) p0 (fun r0 => k ⟨(tB r0), [], []⟩) = run2 U cp (callP cp n) n fn_reno_size [(tL p0)] [] k := by kernel_rfl
/-! (*tideway/reno.ctl).plain -/
def fr_reno_ctl_plain_2 (q0 : Sctl) : FF := [(.ptr 138 0) :: (dT 15 []), dc, dc, dc, dc, dc, dc, dc, dT 10 ((.hdr 22) :: (sl 0 5 (ectl q0))), sl 5 16 (ectl q0), sl 21 1 (ectl q0) ++ (dT 15 [])]
def fr_reno_ctl_plain_4 (q0 : Sctl) (v29 : Bool) : FF := [dT 2 ((tB v29) :: (dT 13 [])), dc, dc, dc, dc, dc, dc, dc, dT 10 ((.hdr 22) :: (sl 0 5 (ectl q0))), sl 5 16 (ectl q0), sl 21 1 (ectl q0) ++ (dT 15 [])]
theorem s_reno_ctl_plain_3_t {R : Type} (cp : Nat → Nat → Bool) (n : Nat) (q0 : Sctl) (k : Ex → FF → Option R) : X cp n i_reno_ctl_plain_0 (fr_reno_ctl_plain_2 q0) k = s_reno_ctl_plain_3 cp n q0 (fun v29 => k .norm (fr_reno_ctl_plain_4 q0 v29)) := by kernel_rfl
theorem s_reno_ctl_plain_5_t {R : Type} (cp : Nat → Nat → Bool) (n : Nat) (q0 : Sctl) (v29 : Bool) (k : Ex → FF → Option R) : X cp n i_reno_ctl_plain_1 (fr_reno_ctl_plain_4 q0 v29) k = s_reno_ctl_plain_5 cp n q0 v29 (k .ret (fr_reno_ctl_plain_4 q0 v29)) := by kernel_rfl
def fr_reno_ctl_plain_6 (q0 : Sctl) (v30 : Bool) : FF := [dT 2 ((tB v30) :: (dT 13 [])), dc, dc, dc, dc, dc, dc, dc, dT 10 ((.hdr 22) :: (sl 0 5 (ectl q0))), sl 5 16 (ectl q0), sl 21 1 (ectl q0) ++ (dT 15 [])]
theorem s_reno_ctl_plain_7_t {R : Type} (cp : Nat → Nat → Bool) (n : Nat) (q0 : Sctl) (k : Ex → FF → Option R) : X cp n i_reno_ctl_plain_2 (fr_reno_ctl_plain_2 q0) k = s_reno_ctl_plain_7 cp n q0 (fun v30 => k .ret (fr_reno_ctl_plain_6 q0 v30)) := (show X cp n i_reno_ctl_plain_2 (fr_reno_ctl_plain_2 q0) k = X cp n i_reno_ctl_plain_0 (fr_reno_ctl_plain_2 q0) (seqT (X cp n) i_reno_ctl_plain_1 k) from by kernel_rfl).trans ((show X cp n i_reno_ctl_plain_0 (fr_reno_ctl_plain_2 q0) (seqT (X cp n) i_reno_ctl_plain_1 k) = s_reno_ctl_plain_3 cp n q0 (fun v29 => X cp n i_reno_ctl_plain_1 (fr_reno_ctl_plain_4 q0 v29) k) from (s_reno_ctl_plain_3_t cp n q0 (seqT (X cp n) i_reno_ctl_plain_1 k)).trans (by kernel_rfl)).trans (congrArg (fun q => s_reno_ctl_plain_3 cp n q0 q) (funext fun v29 => (s_reno_ctl_plain_5_t cp n q0 v29 k).trans (show s_reno_ctl_plain_5 cp n q0 v29 (k .ret (fr_reno_ctl_plain_4 q0 v29)) = s_reno_ctl_plain_5 cp n q0 v29 (k .ret (fr_reno_ctl_plain_6 q0 v29)) from by kernel_rfl))))
def fr_reno_ctl_plain_8 (q0 : Sctl) (v31 : Bool) : FF := [dT 2 ((tB v31) :: (dT 13 [])), dc, dc, dc, dc, dc, dc, dc, dT 10 ((.hdr 22) :: (sl 0 5 (ectl q0))), sl 5 16 (ectl q0), sl 21 1 (ectl q0) ++ (dT 15 [])]
theorem s_reno_ctl_plain_9_t {R : Type} (cp : Nat → Nat → Bool) (n : Nat) (q0 : Sctl) (k : Ex → FF → Option R) : X cp n i_reno_ctl_plain_3 (fr_reno_ctl_plain_2 q0) k = s_reno_ctl_plain_9 cp n q0 (fun v31 => k .ret (fr_reno_ctl_plain_8 q0 v31)) := ((fun c => (show X cp n (.seq (.fin (.reg g_reno_ctl_plain_0) [2] []) c) (fr_reno_ctl_plain_2 q0) k = s_reno_ctl_plain_1 cp n q0 (X cp n c (fr_reno_ctl_plain_2 q0) k) from by kernel_rfl)) i_reno_ctl_plain_2).trans (congrArg (fun q => s_reno_ctl_plain_1 cp n q0 q) ((s_reno_ctl_plain_7_t cp n q0 k).trans (show s_reno_ctl_plain_7 cp n q0 (fun v30 => k .ret (fr_reno_ctl_plain_6 q0 v30)) = s_reno_ctl_plain_7 cp n q0 (fun v30 => k .ret (fr_reno_ctl_plain_8 q0 v30)) from by kernel_rfl)))
theorem run_reno_ctl_plain {R : Type} (cp : Nat → Nat → Bool) (n : Nat) (q0 : Sctl) (k : Ret2 RW → Option R) : G_reno_ctl_plain cp (n + 1) q0 (fun r0 r1 => k ⟨(tB r0), [(ectl r1)], []⟩) = run2 U cp (callP cp n) n fn_reno_ctl_plain [.ptr 138 0] [(ectl q0)] k := ((X_run (f := fn_reno_ctl_plain) (av := [.ptr 138 0]) (cells := [(ectl q0)]) (code := i_reno_ctl_plain_3) (fr := (fr_reno_ctl_plain_2 q0)) (k := k) (by kernel_rfl) (fun K => by kernel_rfl)).trans ((s_reno_ctl_plain_9_t cp n q0 (finK2 fn_reno_ctl_plain k)).trans (by kernel_rfl))).symm
/-! tideway/reno.Check -/
theorem run_reno_Check {R : Type} (cp : Nat → Nat → Bool) (n : Nat) (p0 : SCc) (k : Ret2 RW → Option R) : G_reno_Check cp (n + 1) p0 (fun r0 => k ⟨(tL r0), [], []⟩) = run2 U cp (callP cp n) n fn_reno_Check [.agg (eCc p0)] [] k := by kernel_rfl
/-! tideway/cubic.size -/
def fr_cubic_size_2 (p0 : (List Int)) : FF := [(.row false (.rint p0)) :: (dT 15 []), dc]
def fr_cubic_size_4 (p0 : (List Int)) (v36 : Int) : FF := [dT 5 ((.row false (.rint p0)) :: (tL v36) :: (tL 0) :: (dT 8 [])), dc]
def fr_cubic_size_6 (p0 : (List Int)) (v36 v38 : Int) : FF := [dT 5 ((.row false (.rint p0)) :: (tL v36) :: (tL v38) :: (dT 8 [])), dc]
def fr_cubic_size_7 : FF := [dT 2 ((tB false) :: (dT 13 [])), dc]
def fr_cubic_size_8 : FF := [dc, dc]
def fr_cubic_size_9 (p0 : (List Int)) (v36 v37 : Int) : FF := [dT 5 ((.row false (.rint p0)) :: (tL v36) :: (tL v37) :: (dT 8 [])), dc]
theorem s_cubic_size_5_t {R : Type} (cp : Nat → Nat → Bool) (n : Nat) (p0 : (List Int)) (v36 v37 : Int) (k : Ex → FF → Option R) : X cp n i_cubic_size_0 (fr_cubic_size_9 p0 v36 v37) k = s_cubic_size_5 cp n p0 v36 v37 (fun v38 => k .norm (fr_cubic_size_6 p0 v36 v38)) (k .ret fr_cubic_size_7) (k (.exit 0) fr_cubic_size_8) := by kernel_rfl
theorem l_cubic_size_10_t {R : Type} (cp : Nat → Nat → Bool) (n : Nat) : ∀ (m : Nat) (p0 : (List Int)) (v36 v37 : Int) (k : Ex → FF → Option R), loopN2 (X cp n i_cubic_size_0) m (fr_cubic_size_9 p0 v36 v37) k = l_cubic_size_10 cp n m p0 v36 v37 (k .ret fr_cubic_size_7) (k (.exit 0) fr_cubic_size_8)
  | 0, _, _, _, _ => rfl
  | m + 1, p0, v36, v37, k => (loopN2_succ (X cp n i_cubic_size_0) m (fr_cubic_size_9 p0 v36 v37) k).trans ((s_cubic_size_5_t cp n p0 v36 v37 (loopT (X cp n i_cubic_size_0) m k)).trans ((show s_cubic_size_5 cp n p0 v36 v37 (fun v38 => loopT (X cp n i_cubic_size_0) m k .norm (fr_cubic_size_6 p0 v36 v38)) (loopT (X cp n i_cubic_size_0) m k .ret fr_cubic_size_7) (loopT (X cp n i_cubic_size_0) m k (.exit 0) fr_cubic_size_8) = s_cubic_size_5 cp n p0 v36 v37 (fun v38 => loopN2 (X cp n i_cubic_size_0) m (fr_cubic_size_9 p0 v36 v38) k) (k .ret fr_cubic_size_7) (k (.exit 0) fr_cubic_size_8) from by kernel_rfl).trans (congrArg (fun q => s_cubic_size_5 cp n p0 v36 v37 q (k .ret fr_cubic_size_7) (k (.exit 0) fr_cubic_size_8)) (funext fun v38 => l_cubic_size_10_t cp n m p0 v36 v38 k))))
theorem s_cubic_size_11_t {R : Type} (cp : Nat → Nat → Bool) (n : Nat) (p0 : (List Int)) (v36 : Int) (k : Ex → FF → Option R) : X cp n i_cubic_size_1 (fr_cubic_size_4 p0 v36) k = s_cubic_size_11 cp n p0 v36 (k .ret fr_cubic_size_7) (k (.exit 0) fr_cubic_size_8) := (show X cp n i_cubic_size_1 (fr_cubic_size_4 p0 v36) k = loopN2 (X cp n i_cubic_size_0) n (fr_cubic_size_9 p0 v36 0) k from by kernel_rfl).trans (l_cubic_size_10_t cp n n p0 v36 0 k)
theorem s_cubic_size_12_t {R : Type} (cp : Nat → Nat → Bool) (n : Nat) (p0 : (List Int)) (v36 : Int) (k : Ex → FF → Option R) : X cp n i_cubic_size_2 (fr_cubic_size_4 p0 v36) k = s_cubic_size_12 cp n p0 v36 (k .norm fr_cubic_size_8) (k .ret fr_cubic_size_7) := (show X cp n i_cubic_size_2 (fr_cubic_size_4 p0 v36) k = X cp n i_cubic_size_1 (fr_cubic_size_4 p0 v36) (blkT 0 k) from by kernel_rfl).trans ((s_cubic_size_11_t cp n p0 v36 (blkT 0 k)).trans (by kernel_rfl))
theorem s_cubic_size_13_t {R : Type} (cp : Nat → Nat → Bool) (n : Nat) (p0 : (List Int)) (k : Ex → FF → Option R) : X cp n i_cubic_size_3 (fr_cubic_size_2 p0) k = s_cubic_size_13 cp n p0 (k .norm fr_cubic_size_8) (k .ret fr_cubic_size_7) := ((fun c => (show X cp n (.seq (.fin (.reg g_cubic_size_1) [0] []) c) (fr_cubic_size_2 p0) k = s_cubic_size_3 cp n p0 (fun v36 => X cp n c (fr_cubic_size_4 p0 v36) k) from by kernel_rfl)) i_cubic_size_2).trans (congrArg (fun q => s_cubic_size_3 cp n p0 q) (funext fun v36 => s_cubic_size_12_t cp n p0 v36 k))
def fr_cubic_size_15 : FF := [dT 2 ((tB true) :: (dT 13 [])), dc]
theorem s_cubic_size_14_t {R : Type} (cp : Nat → Nat → Bool) (n : Nat) (k : Ex → FF → Option R) : X cp n i_cubic_size_4 fr_cubic_size_8 k = s_cubic_size_14 cp n (k .ret fr_cubic_size_15) := by kernel_rfl
def fr_cubic_size_16 (v39 : Bool) : FF := [dT 2 ((tB v39) :: (dT 13 [])), dc]
theorem s_cubic_size_17_t {R : Type} (cp : Nat → Nat → Bool) (n : Nat) (p0 : (List Int)) (k : Ex → FF → Option R) : X cp n i_cubic_size_5 (fr_cubic_size_2 p0) k = s_cubic_size_17 cp n p0 (fun v39 => k .ret (fr_cubic_size_16 v39)) := (show X cp n i_cubic_size_5 (fr_cubic_size_2 p0) k = X cp n i_cubic_size_3 (fr_cubic_size_2 p0) (seqT (X cp n) i_cubic_size_4 k) from by kernel_rfl).trans ((show X cp n i_cubic_size_3 (fr_cubic_size_2 p0) (seqT (X cp n) i_cubic_size_4 k) = s_cubic_size_13 cp n p0 (X cp n i_cubic_size_4 fr_cubic_size_8 k) (k .ret (fr_cubic_size_16 false)) from (s_cubic_size_13_t cp n p0 (seqT (X cp n) i_cubic_size_4 k)).trans (by kernel_rfl)).trans (congrArg (fun q => s_cubic_size_13 cp n p0 q (k .ret (fr_cubic_size_16 false))) ((s_cubic_size_14_t cp n  k).trans (show s_cubic_size_14 cp n (k .ret fr_cubic_size_15) = s_cubic_size_14 cp n (k .ret (fr_cubic_size_16 true)) from by kernel_rfl))))
def fr_cubic_size_18 (v40 : Bool) : FF := [dT 2 ((tB v40) :: (dT 13 [])), dc]
theorem s_cubic_size_19_t {R : Type} (cp : Nat → Nat → Bool) (n : Nat) (p0 : (List Int)) (k : Ex → FF → Option R) : X cp n i_cubic_size_6 (fr_cubic_size_2 p0) k = s_cubic_size_19 cp n p0 (fun v40 => k .ret (fr_cubic_size_18 v40)) := ((fun c => (show X cp n (.seq (.fin (.reg g_cubic_size_0) [2] []) c) (fr_cubic_size_2 p0) k = s_cubic_size_1 cp n p0 (X cp n c (fr_cubic_size_2 p0) k) from by kernel_rfl)) i_cubic_size_5).trans (congrArg (fun q => s_cubic_size_1 cp n p0 q) ((s_cubic_size_17_t cp n p0 k).trans (show s_cubic_size_17 cp n p0 (fun v39 => k .ret (fr_cubic_size_16 v39)) = s_cubic_size_17 cp n p0 (fun v39 => k .ret (fr_cubic_size_18 v39)) from by kernel_rfl)))
theorem run_cubic_size {R : Type} (cp : Nat → Nat → Bool) (n : Nat) (p0 : (List Int)) (k : Ret2 RW → Option R) : G_cubic_size cp (n + 1) p0 (fun r0 => k ⟨(tB r0), [], []⟩) = run2 U cp (callP cp n) n fn_cubic_size [.row false (.rint p0)] [] k := ((X_run (f := fn_cubic_size) (av := [.row false (.rint p0)]) (cells := []) (code := i_cubic_size_6) (fr := (fr_cubic_size_2 p0)) (k := k) (by kernel_rfl) (fun K => by kernel_rfl)).trans ((s_cubic_size_19_t cp n p0 (finK2 fn_cubic_size k)).trans (by kernel_rfl))).symm
/-! tideway/cubic.Check -/
theorem run_cubic_Check {R : Type} (cp : Nat → Nat → Bool) (n : Nat) (p0 : SCc) (k : Ret2 RW → Option R) : G_cubic_Check cp (n + 1) p0 (fun r0 => k ⟨(tL r0), [], []⟩) = run2 U cp (callP cp n) n fn_cubic_Check [.agg (eCc p0)] [] k := by kernel_rfl
/-! tideway/bbr.within -/
def fr_bbr_within_2 (p0 : Int) (p1 : (List Int)) : FF := [(tL p0) :: (.row false (.rint p1)) :: (dT 14 []), dc]
def fr_bbr_within_4 (p0 : Int) (p1 : (List Int)) (v43 : Int) : FF := [(tL p0) :: (dT 6 ((.row false (.rint p1)) :: (tL v43) :: (tL 0) :: (dT 6 []))), dc]
def fr_bbr_within_6 (p0 : Int) (p1 : (List Int)) (v43 v45 : Int) : FF := [(tL p0) :: (dT 6 ((.row false (.rint p1)) :: (tL v43) :: (tL v45) :: (dT 6 []))), dc]
def fr_bbr_within_7 : FF := [dT 4 ((tB false) :: (dT 11 [])), dc]
def fr_bbr_within_8 : FF := [dc, dc]
def fr_bbr_within_9 (p0 : Int) (p1 : (List Int)) (v43 v44 : Int) : FF := [(tL p0) :: (dT 6 ((.row false (.rint p1)) :: (tL v43) :: (tL v44) :: (dT 6 []))), dc]
theorem s_bbr_within_5_t {R : Type} (cp : Nat → Nat → Bool) (n : Nat) (p0 : Int) (p1 : (List Int)) (v43 v44 : Int) (k : Ex → FF → Option R) : X cp n i_bbr_within_0 (fr_bbr_within_9 p0 p1 v43 v44) k = s_bbr_within_5 cp n p0 p1 v43 v44 (fun v45 => k .norm (fr_bbr_within_6 p0 p1 v43 v45)) (k .ret fr_bbr_within_7) (k (.exit 0) fr_bbr_within_8) := by kernel_rfl
theorem l_bbr_within_10_t {R : Type} (cp : Nat → Nat → Bool) (n : Nat) : ∀ (m : Nat) (p0 : Int) (p1 : (List Int)) (v43 v44 : Int) (k : Ex → FF → Option R), loopN2 (X cp n i_bbr_within_0) m (fr_bbr_within_9 p0 p1 v43 v44) k = l_bbr_within_10 cp n m p0 p1 v43 v44 (k .ret fr_bbr_within_7) (k (.exit 0) fr_bbr_within_8)
  | 0, _, _, _, _, _ => rfl
  | m + 1, p0, p1, v43, v44, k => (loopN2_succ (X cp n i_bbr_within_0) m (fr_bbr_within_9 p0 p1 v43 v44) k).trans ((s_bbr_within_5_t cp n p0 p1 v43 v44 (loopT (X cp n i_bbr_within_0) m k)).trans ((show s_bbr_within_5 cp n p0 p1 v43 v44 (fun v45 => loopT (X cp n i_bbr_within_0) m k .norm (fr_bbr_within_6 p0 p1 v43 v45)) (loopT (X cp n i_bbr_within_0) m k .ret fr_bbr_within_7) (loopT (X cp n i_bbr_within_0) m k (.exit 0) fr_bbr_within_8) = s_bbr_within_5 cp n p0 p1 v43 v44 (fun v45 => loopN2 (X cp n i_bbr_within_0) m (fr_bbr_within_9 p0 p1 v43 v45) k) (k .ret fr_bbr_within_7) (k (.exit 0) fr_bbr_within_8) from by kernel_rfl).trans (congrArg (fun q => s_bbr_within_5 cp n p0 p1 v43 v44 q (k .ret fr_bbr_within_7) (k (.exit 0) fr_bbr_within_8)) (funext fun v45 => l_bbr_within_10_t cp n m p0 p1 v43 v45 k))))
theorem s_bbr_within_11_t {R : Type} (cp : Nat → Nat → Bool) (n : Nat) (p0 : Int) (p1 : (List Int)) (v43 : Int) (k : Ex → FF → Option R) : X cp n i_bbr_within_1 (fr_bbr_within_4 p0 p1 v43) k = s_bbr_within_11 cp n p0 p1 v43 (k .ret fr_bbr_within_7) (k (.exit 0) fr_bbr_within_8) := (show X cp n i_bbr_within_1 (fr_bbr_within_4 p0 p1 v43) k = loopN2 (X cp n i_bbr_within_0) n (fr_bbr_within_9 p0 p1 v43 0) k from by kernel_rfl).trans (l_bbr_within_10_t cp n n p0 p1 v43 0 k)
theorem s_bbr_within_12_t {R : Type} (cp : Nat → Nat → Bool) (n : Nat) (p0 : Int) (p1 : (List Int)) (v43 : Int) (k : Ex → FF → Option R) : X cp n i_bbr_within_2 (fr_bbr_within_4 p0 p1 v43) k = s_bbr_within_12 cp n p0 p1 v43 (k .norm fr_bbr_within_8) (k .ret fr_bbr_within_7) := (show X cp n i_bbr_within_2 (fr_bbr_within_4 p0 p1 v43) k = X cp n i_bbr_within_1 (fr_bbr_within_4 p0 p1 v43) (blkT 0 k) from by kernel_rfl).trans ((s_bbr_within_11_t cp n p0 p1 v43 (blkT 0 k)).trans (by kernel_rfl))
theorem s_bbr_within_13_t {R : Type} (cp : Nat → Nat → Bool) (n : Nat) (p0 : Int) (p1 : (List Int)) (k : Ex → FF → Option R) : X cp n i_bbr_within_3 (fr_bbr_within_2 p0 p1) k = s_bbr_within_13 cp n p0 p1 (k .norm fr_bbr_within_8) (k .ret fr_bbr_within_7) := ((fun c => (show X cp n (.seq (.fin (.reg g_bbr_within_1) [1] []) c) (fr_bbr_within_2 p0 p1) k = s_bbr_within_3 cp n p0 p1 (fun v43 => X cp n c (fr_bbr_within_4 p0 p1 v43) k) from by kernel_rfl)) i_bbr_within_2).trans (congrArg (fun q => s_bbr_within_3 cp n p0 p1 q) (funext fun v43 => s_bbr_within_12_t cp n p0 p1 v43 k))
def fr_bbr_within_15 : FF := [dT 4 ((tB true) :: (dT 11 [])), dc]
theorem s_bbr_within_14_t {R : Type} (cp : Nat → Nat → Bool) (n : Nat) (k : Ex → FF → Option R) : X cp n i_bbr_within_4 fr_bbr_within_8 k = s_bbr_within_14 cp n (k .ret fr_bbr_within_15) := by kernel_rfl
def fr_bbr_within_16 (v46 : Bool) : FF := [dT 4 ((tB v46) :: (dT 11 [])), dc]
theorem s_bbr_within_17_t {R : Type} (cp : Nat → Nat → Bool) (n : Nat) (p0 : Int) (p1 : (List Int)) (k : Ex → FF → Option R) : X cp n i_bbr_within_5 (fr_bbr_within_2 p0 p1) k = s_bbr_within_17 cp n p0 p1 (fun v46 => k .ret (fr_bbr_within_16 v46)) := (show X cp n i_bbr_within_5 (fr_bbr_within_2 p0 p1) k = X cp n i_bbr_within_3 (fr_bbr_within_2 p0 p1) (seqT (X cp n) i_bbr_within_4 k) from by kernel_rfl).trans ((show X cp n i_bbr_within_3 (fr_bbr_within_2 p0 p1) (seqT (X cp n) i_bbr_within_4 k) = s_bbr_within_13 cp n p0 p1 (X cp n i_bbr_within_4 fr_bbr_within_8 k) (k .ret (fr_bbr_within_16 false)) from (s_bbr_within_13_t cp n p0 p1 (seqT (X cp n) i_bbr_within_4 k)).trans (by kernel_rfl)).trans (congrArg (fun q => s_bbr_within_13 cp n p0 p1 q (k .ret (fr_bbr_within_16 false))) ((s_bbr_within_14_t cp n  k).trans (show s_bbr_within_14 cp n (k .ret fr_bbr_within_15) = s_bbr_within_14 cp n (k .ret (fr_bbr_within_16 true)) from by kernel_rfl))))
def fr_bbr_within_18 (v47 : Bool) : FF := [dT 4 ((tB v47) :: (dT 11 [])), dc]
theorem s_bbr_within_19_t {R : Type} (cp : Nat → Nat → Bool) (n : Nat) (p0 : Int) (p1 : (List Int)) (k : Ex → FF → Option R) : X cp n i_bbr_within_6 (fr_bbr_within_2 p0 p1) k = s_bbr_within_19 cp n p0 p1 (fun v47 => k .ret (fr_bbr_within_18 v47)) := ((fun c => (show X cp n (.seq (.fin (.reg g_bbr_within_0) [4] []) c) (fr_bbr_within_2 p0 p1) k = s_bbr_within_1 cp n p0 p1 (X cp n c (fr_bbr_within_2 p0 p1) k) from by kernel_rfl)) i_bbr_within_5).trans (congrArg (fun q => s_bbr_within_1 cp n p0 p1 q) ((s_bbr_within_17_t cp n p0 p1 k).trans (show s_bbr_within_17 cp n p0 p1 (fun v46 => k .ret (fr_bbr_within_16 v46)) = s_bbr_within_17 cp n p0 p1 (fun v46 => k .ret (fr_bbr_within_18 v46)) from by kernel_rfl)))
theorem run_bbr_within {R : Type} (cp : Nat → Nat → Bool) (n : Nat) (p0 : Int) (p1 : (List Int)) (k : Ret2 RW → Option R) : G_bbr_within cp (n + 1) p0 p1 (fun r0 => k ⟨(tB r0), [], []⟩) = run2 U cp (callP cp n) n fn_bbr_within [(tL p0), .row false (.rint p1)] [] k := ((X_run (f := fn_bbr_within) (av := [(tL p0), .row false (.rint p1)]) (cells := []) (code := i_bbr_within_6) (fr := (fr_bbr_within_2 p0 p1)) (k := k) (by kernel_rfl) (fun K => by kernel_rfl)).trans ((s_bbr_within_19_t cp n p0 p1 (finK2 fn_bbr_within k)).trans (by kernel_rfl))).symm
/-! tideway/filter.may -/
theorem run_filter_may {R : Type} (cp : Nat → Nat → Bool) (n : Nat) (p0 : SEntry) (k : Ret2 RW → Option R) : G_filter_may cp (n + 1) p0 (fun r0 => k ⟨(tB r0), [], []⟩) = run2 U cp (callP cp n) n fn_filter_may [.agg (eEntry p0)] [] k := by kernel_rfl
/-! tideway/filter.beats -/
theorem run_filter_beats {R : Type} (cp : Nat → Nat → Bool) (n : Nat) (p0 p1 : Int) (p2 : Bool) (k : Ret2 RW → Option R) : G_filter_beats cp (n + 1) p0 p1 p2 (fun r0 => k ⟨(tB r0), [], []⟩) = run2 U cp (callP cp n) n fn_filter_beats [(tL p0), (tL p1), (tB p2)] [] k := by kernel_rfl
/-! tideway/filter.Check -/
def fr_filter_Check_2 (p0 : (List SEntry)) (p1 : Bool) : FF := [(.row false (.rEntry p0)) :: (tB p1) :: (dT 14 []), dc, dc]
def fr_filter_Check_4 (p0 : (List SEntry)) (p1 : Bool) (v51 : Int) : FF := [(.row false (.rEntry p0)) :: (tB p1) :: (dT 5 ((.row false (.rEntry p0)) :: (tL v51) :: (tL 0) :: (dT 6 []))), dc, dc]
def fr_filter_Check_6 (p0 : (List SEntry)) (p1 : Bool) (v51 v55 : Int) : FF := [(.row false (.rEntry p0)) :: (tB p1) :: (dT 5 ((.row false (.rEntry p0)) :: (tL v51) :: (tL v55) :: (dT 6 []))), dc, dc]
def fr_filter_Check_7 : FF := [dT 4 ((tL 2) :: (dT 11 [])), dc, dc]
def fr_filter_Check_8 : FF := [dc, dc, dc]
def fr_filter_Check_9 (p0 : (List SEntry)) (p1 : Bool) (v51 v52 : Int) : FF := [(.row false (.rEntry p0)) :: (tB p1) :: (dT 5 ((.row false (.rEntry p0)) :: (tL v51) :: (tL v52) :: (dT 6 []))), dc, dc]
theorem s_filter_Check_5_t {R : Type} (cp : Nat → Nat → Bool) (n : Nat) (p0 : (List SEntry)) (p1 : Bool) (v51 v52 : Int) (k : Ex → FF → Option R) : X cp n i_filter_Check_0 (fr_filter_Check_9 p0 p1 v51 v52) k = s_filter_Check_5 cp n p0 p1 v51 v52 (fun v55 => k .norm (fr_filter_Check_6 p0 p1 v51 v55)) (k .ret fr_filter_Check_7) (k (.exit 0) fr_filter_Check_8) := by kernel_rfl
theorem l_filter_Check_10_t {R : Type} (cp : Nat → Nat → Bool) (n : Nat) : ∀ (m : Nat) (p0 : (List SEntry)) (p1 : Bool) (v51 v52 : Int) (k : Ex → FF → Option R), loopN2 (X cp n i_filter_Check_0) m (fr_filter_Check_9 p0 p1 v51 v52) k = l_filter_Check_10 cp n m p0 p1 v51 v52 (k .ret fr_filter_Check_7) (k (.exit 0) fr_filter_Check_8)
  | 0, _, _, _, _, _ => rfl
  | m + 1, p0, p1, v51, v52, k => (loopN2_succ (X cp n i_filter_Check_0) m (fr_filter_Check_9 p0 p1 v51 v52) k).trans ((s_filter_Check_5_t cp n p0 p1 v51 v52 (loopT (X cp n i_filter_Check_0) m k)).trans ((show s_filter_Check_5 cp n p0 p1 v51 v52 (fun v55 => loopT (X cp n i_filter_Check_0) m k .norm (fr_filter_Check_6 p0 p1 v51 v55)) (loopT (X cp n i_filter_Check_0) m k .ret fr_filter_Check_7) (loopT (X cp n i_filter_Check_0) m k (.exit 0) fr_filter_Check_8) = s_filter_Check_5 cp n p0 p1 v51 v52 (fun v55 => loopN2 (X cp n i_filter_Check_0) m (fr_filter_Check_9 p0 p1 v51 v55) k) (k .ret fr_filter_Check_7) (k (.exit 0) fr_filter_Check_8) from by kernel_rfl).trans (congrArg (fun q => s_filter_Check_5 cp n p0 p1 v51 v52 q (k .ret fr_filter_Check_7) (k (.exit 0) fr_filter_Check_8)) (funext fun v55 => l_filter_Check_10_t cp n m p0 p1 v51 v55 k))))
theorem s_filter_Check_11_t {R : Type} (cp : Nat → Nat → Bool) (n : Nat) (p0 : (List SEntry)) (p1 : Bool) (v51 : Int) (k : Ex → FF → Option R) : X cp n i_filter_Check_1 (fr_filter_Check_4 p0 p1 v51) k = s_filter_Check_11 cp n p0 p1 v51 (k .ret fr_filter_Check_7) (k (.exit 0) fr_filter_Check_8) := (show X cp n i_filter_Check_1 (fr_filter_Check_4 p0 p1 v51) k = loopN2 (X cp n i_filter_Check_0) n (fr_filter_Check_9 p0 p1 v51 0) k from by kernel_rfl).trans (l_filter_Check_10_t cp n n p0 p1 v51 0 k)
theorem s_filter_Check_12_t {R : Type} (cp : Nat → Nat → Bool) (n : Nat) (p0 : (List SEntry)) (p1 : Bool) (v51 : Int) (k : Ex → FF → Option R) : X cp n i_filter_Check_2 (fr_filter_Check_4 p0 p1 v51) k = s_filter_Check_12 cp n p0 p1 v51 (k .norm fr_filter_Check_8) (k .ret fr_filter_Check_7) := (show X cp n i_filter_Check_2 (fr_filter_Check_4 p0 p1 v51) k = X cp n i_filter_Check_1 (fr_filter_Check_4 p0 p1 v51) (blkT 0 k) from by kernel_rfl).trans ((s_filter_Check_11_t cp n p0 p1 v51 (blkT 0 k)).trans (by kernel_rfl))
theorem s_filter_Check_13_t {R : Type} (cp : Nat → Nat → Bool) (n : Nat) (p0 : (List SEntry)) (p1 : Bool) (k : Ex → FF → Option R) : X cp n i_filter_Check_3 (fr_filter_Check_2 p0 p1) k = s_filter_Check_13 cp n p0 p1 (k .norm fr_filter_Check_8) (k .ret fr_filter_Check_7) := ((fun c => (show X cp n (.seq (.reg g_filter_Check_1) c) (fr_filter_Check_2 p0 p1) k = s_filter_Check_3 cp n p0 p1 (fun v51 => X cp n c (fr_filter_Check_4 p0 p1 v51) k) from by kernel_rfl)) i_filter_Check_2).trans (congrArg (fun q => s_filter_Check_3 cp n p0 p1 q) (funext fun v51 => s_filter_Check_12_t cp n p0 p1 v51 k))
def fr_filter_Check_15 : FF := [dT 4 ((tL 0) :: (dT 11 [])), dc, dc]
theorem s_filter_Check_14_t {R : Type} (cp : Nat → Nat → Bool) (n : Nat) (k : Ex → FF → Option R) : X cp n i_filter_Check_4 fr_filter_Check_8 k = s_filter_Check_14 cp n (k .ret fr_filter_Check_15) := by kernel_rfl
def fr_filter_Check_16 (v56 : Int) : FF := [dT 4 ((tL v56) :: (dT 11 [])), dc, dc]
theorem s_filter_Check_17_t {R : Type} (cp : Nat → Nat → Bool) (n : Nat) (p0 : (List SEntry)) (p1 : Bool) (k : Ex → FF → Option R) : X cp n i_filter_Check_5 (fr_filter_Check_2 p0 p1) k = s_filter_Check_17 cp n p0 p1 (fun v56 => k .ret (fr_filter_Check_16 v56)) := (show X cp n i_filter_Check_5 (fr_filter_Check_2 p0 p1) k = X cp n i_filter_Check_3 (fr_filter_Check_2 p0 p1) (seqT (X cp n) i_filter_Check_4 k) from by kernel_rfl).trans ((show X cp n i_filter_Check_3 (fr_filter_Check_2 p0 p1) (seqT (X cp n) i_filter_Check_4 k) = s_filter_Check_13 cp n p0 p1 (X cp n i_filter_Check_4 fr_filter_Check_8 k) (k .ret (fr_filter_Check_16 2)) from (s_filter_Check_13_t cp n p0 p1 (seqT (X cp n) i_filter_Check_4 k)).trans (by kernel_rfl)).trans (congrArg (fun q => s_filter_Check_13 cp n p0 p1 q (k .ret (fr_filter_Check_16 2))) ((s_filter_Check_14_t cp n  k).trans (show s_filter_Check_14 cp n (k .ret fr_filter_Check_15) = s_filter_Check_14 cp n (k .ret (fr_filter_Check_16 0)) from by kernel_rfl))))
def fr_filter_Check_18 (v57 : Int) : FF := [dT 4 ((tL v57) :: (dT 11 [])), dc, dc]
theorem s_filter_Check_19_t {R : Type} (cp : Nat → Nat → Bool) (n : Nat) (p0 : (List SEntry)) (p1 : Bool) (k : Ex → FF → Option R) : X cp n i_filter_Check_6 (fr_filter_Check_2 p0 p1) k = s_filter_Check_19 cp n p0 p1 (fun v57 => k .ret (fr_filter_Check_18 v57)) := ((fun c => (show X cp n (.seq (.fin (.reg g_filter_Check_0) [4] []) c) (fr_filter_Check_2 p0 p1) k = s_filter_Check_1 cp n p0 p1 (X cp n c (fr_filter_Check_2 p0 p1) k) from by kernel_rfl)) i_filter_Check_5).trans (congrArg (fun q => s_filter_Check_1 cp n p0 p1 q) ((s_filter_Check_17_t cp n p0 p1 k).trans (show s_filter_Check_17 cp n p0 p1 (fun v56 => k .ret (fr_filter_Check_16 v56)) = s_filter_Check_17 cp n p0 p1 (fun v56 => k .ret (fr_filter_Check_18 v56)) from by kernel_rfl)))
theorem run_filter_Check {R : Type} (cp : Nat → Nat → Bool) (n : Nat) (p0 : (List SEntry)) (p1 : Bool) (k : Ret2 RW → Option R) : G_filter_Check cp (n + 1) p0 p1 (fun r0 => k ⟨(tL r0), [], []⟩) = run2 U cp (callP cp n) n fn_filter_Check [.row false (.rEntry p0), (tB p1)] [] k := ((X_run (f := fn_filter_Check) (av := [.row false (.rEntry p0), (tB p1)]) (cells := []) (code := i_filter_Check_6) (fr := (fr_filter_Check_2 p0 p1)) (k := k) (by kernel_rfl) (fun K => by kernel_rfl)).trans ((s_filter_Check_19_t cp n p0 p1 (finK2 fn_filter_Check k)).trans (by kernel_rfl))).symm
/-! (*tideway/bbr.ctl).entries -/
def fr_bbr_ctl_entries_2 (q0 : ST68) : FF := [(.ptr 36 0) :: (dT 15 []), dc, dT 4 ((.hdr 22) :: (sl 0 11 (eT68 q0))), sl 11 11 (eT68 q0) ++ (dT 5 [])]
def fr_bbr_ctl_entries_3 (q0 : ST68) : FF := [dT 2 ((tB false) :: (dT 13 [])), dc, dT 4 ((.hdr 22) :: (sl 0 11 (eT68 q0))), sl 11 11 (eT68 q0) ++ (dT 5 [])]
def fr_bbr_ctl_entries_5 (q0 : ST68) (v59 : Int) : FF := [(.ptr 36 0) :: (dT 15 []), (.row false (.rEntry q0.xCc_Bw)) :: (tL v59) :: (tL 0) :: (dT 13 []), dT 4 ((.hdr 22) :: (sl 0 11 (eT68 q0))), sl 11 11 (eT68 q0) ++ (dT 5 [])]
def fr_bbr_ctl_entries_7 (q0 : ST68) (v59 v61 : Int) : FF := [(.ptr 36 0) :: (dT 15 []), (.row false (.rEntry q0.xCc_Bw)) :: (tL v59) :: (tL v61) :: (dT 13 []), dT 4 ((.hdr 22) :: (sl 0 11 (eT68 q0))), sl 11 11 (eT68 q0) ++ (dT 5 [])]
def fr_bbr_ctl_entries_8 (q0 : ST68) : FF := [dc, dc, dT 4 ((.hdr 22) :: (sl 0 11 (eT68 q0))), sl 11 11 (eT68 q0) ++ (dT 5 [])]
def fr_bbr_ctl_entries_9 (q0 : ST68) (v59 v60 : Int) : FF := [(.ptr 36 0) :: (dT 15 []), (.row false (.rEntry q0.xCc_Bw)) :: (tL v59) :: (tL v60) :: (dT 13 []), dT 4 ((.hdr 22) :: (sl 0 11 (eT68 q0))), sl 11 11 (eT68 q0) ++ (dT 5 [])]
theorem s_bbr_ctl_entries_6_t {R : Type} (cp : Nat → Nat → Bool) (n : Nat) (q0 : ST68) (v59 v60 : Int) (k : Ex → FF → Option R) : X cp n i_bbr_ctl_entries_0 (fr_bbr_ctl_entries_9 q0 v59 v60) k = s_bbr_ctl_entries_6 cp n q0 v59 v60 (fun v61 => k .norm (fr_bbr_ctl_entries_7 q0 v59 v61)) (k .ret (fr_bbr_ctl_entries_3 q0)) (k (.exit 0) (fr_bbr_ctl_entries_8 q0)) := by kernel_rfl
theorem l_bbr_ctl_entries_10_t {R : Type} (cp : Nat → Nat → Bool) (n : Nat) : ∀ (m : Nat) (q0 : ST68) (v59 v60 : Int) (k : Ex → FF → Option R), loopN2 (X cp n i_bbr_ctl_entries_0) m (fr_bbr_ctl_entries_9 q0 v59 v60) k = l_bbr_ctl_entries_10 cp n m q0 v59 v60 (k .ret (fr_bbr_ctl_entries_3 q0)) (k (.exit 0) (fr_bbr_ctl_entries_8 q0))
  | 0, _, _, _, _ => rfl
  | m + 1, q0, v59, v60, k => (loopN2_succ (X cp n i_bbr_ctl_entries_0) m (fr_bbr_ctl_entries_9 q0 v59 v60) k).trans ((s_bbr_ctl_entries_6_t cp n q0 v59 v60 (loopT (X cp n i_bbr_ctl_entries_0) m k)).trans ((show s_bbr_ctl_entries_6 cp n q0 v59 v60 (fun v61 => loopT (X cp n i_bbr_ctl_entries_0) m k .norm (fr_bbr_ctl_entries_7 q0 v59 v61)) (loopT (X cp n i_bbr_ctl_entries_0) m k .ret (fr_bbr_ctl_entries_3 q0)) (loopT (X cp n i_bbr_ctl_entries_0) m k (.exit 0) (fr_bbr_ctl_entries_8 q0)) = s_bbr_ctl_entries_6 cp n q0 v59 v60 (fun v61 => loopN2 (X cp n i_bbr_ctl_entries_0) m (fr_bbr_ctl_entries_9 q0 v59 v61) k) (k .ret (fr_bbr_ctl_entries_3 q0)) (k (.exit 0) (fr_bbr_ctl_entries_8 q0)) from by kernel_rfl).trans (congrArg (fun q => s_bbr_ctl_entries_6 cp n q0 v59 v60 q (k .ret (fr_bbr_ctl_entries_3 q0)) (k (.exit 0) (fr_bbr_ctl_entries_8 q0))) (funext fun v61 => l_bbr_ctl_entries_10_t cp n m q0 v59 v61 k))))
theorem s_bbr_ctl_entries_11_t {R : Type} (cp : Nat → Nat → Bool) (n : Nat) (q0 : ST68) (v59 : Int) (k : Ex → FF → Option R) : X cp n i_bbr_ctl_entries_1 (fr_bbr_ctl_entries_5 q0 v59) k = s_bbr_ctl_entries_11 cp n q0 v59 (k .ret (fr_bbr_ctl_entries_3 q0)) (k (.exit 0) (fr_bbr_ctl_entries_8 q0)) := (show X cp n i_bbr_ctl_entries_1 (fr_bbr_ctl_entries_5 q0 v59) k = loopN2 (X cp n i_bbr_ctl_entries_0) n (fr_bbr_ctl_entries_9 q0 v59 0) k from by kernel_rfl).trans (l_bbr_ctl_entries_10_t cp n n q0 v59 0 k)
theorem s_bbr_ctl_entries_12_t {R : Type} (cp : Nat → Nat → Bool) (n : Nat) (q0 : ST68) (v59 : Int) (k : Ex → FF → Option R) : X cp n i_bbr_ctl_entries_2 (fr_bbr_ctl_entries_5 q0 v59) k = s_bbr_ctl_entries_12 cp n q0 v59 (k .norm (fr_bbr_ctl_entries_8 q0)) (k .ret (fr_bbr_ctl_entries_3 q0)) := (show X cp n i_bbr_ctl_entries_2 (fr_bbr_ctl_entries_5 q0 v59) k = X cp n i_bbr_ctl_entries_1 (fr_bbr_ctl_entries_5 q0 v59) (blkT 0 k) from by kernel_rfl).trans ((s_bbr_ctl_entries_11_t cp n q0 v59 (blkT 0 k)).trans (by kernel_rfl))
theorem s_bbr_ctl_entries_13_t {R : Type} (cp : Nat → Nat → Bool) (n : Nat) (q0 : ST68) (k : Ex → FF → Option R) : X cp n i_bbr_ctl_entries_3 (fr_bbr_ctl_entries_2 q0) k = s_bbr_ctl_entries_13 cp n q0 (k .norm (fr_bbr_ctl_entries_8 q0)) (k .ret (fr_bbr_ctl_entries_3 q0)) := ((fun c => (show X cp n (.seq (.fin (.reg g_bbr_ctl_entries_3) [12, 13, 14, 15] []) c) (fr_bbr_ctl_entries_2 q0) k = s_bbr_ctl_entries_4 cp n q0 (fun v59 => X cp n c (fr_bbr_ctl_entries_5 q0 v59) k) from by kernel_rfl)) i_bbr_ctl_entries_2).trans (congrArg (fun q => s_bbr_ctl_entries_4 cp n q0 q) (funext fun v59 => s_bbr_ctl_entries_12_t cp n q0 v59 k))
def fr_bbr_ctl_entries_15 (q0 : ST68) : FF := [dT 2 ((tB true) :: (dT 13 [])), dc, dT 4 ((.hdr 22) :: (sl 0 11 (eT68 q0))), sl 11 11 (eT68 q0) ++ (dT 5 [])]
theorem s_bbr_ctl_entries_14_t {R : Type} (cp : Nat → Nat → Bool) (n : Nat) (q0 : ST68) (k : Ex → FF → Option R) : X cp n i_bbr_ctl_entries_4 (fr_bbr_ctl_entries_8 q0) k = s_bbr_ctl_entries_14 cp n q0 (k .ret (fr_bbr_ctl_entries_15 q0)) := by kernel_rfl
def fr_bbr_ctl_entries_16 (q0 : ST68) (v62 : Bool) : FF := [dT 2 ((tB v62) :: (dT 13 [])), dc, dT 4 ((.hdr 22) :: (sl 0 11 (eT68 q0))), sl 11 11 (eT68 q0) ++ (dT 5 [])]
theorem s_bbr_ctl_entries_17_t {R : Type} (cp : Nat → Nat → Bool) (n : Nat) (q0 : ST68) (k : Ex → FF → Option R) : X cp n i_bbr_ctl_entries_5 (fr_bbr_ctl_entries_2 q0) k = s_bbr_ctl_entries_17 cp n q0 (fun v62 => k .ret (fr_bbr_ctl_entries_16 q0 v62)) := (show X cp n i_bbr_ctl_entries_5 (fr_bbr_ctl_entries_2 q0) k = X cp n i_bbr_ctl_entries_3 (fr_bbr_ctl_entries_2 q0) (seqT (X cp n) i_bbr_ctl_entries_4 k) from by kernel_rfl).trans ((show X cp n i_bbr_ctl_entries_3 (fr_bbr_ctl_entries_2 q0) (seqT (X cp n) i_bbr_ctl_entries_4 k) = s_bbr_ctl_entries_13 cp n q0 (X cp n i_bbr_ctl_entries_4 (fr_bbr_ctl_entries_8 q0) k) (k .ret (fr_bbr_ctl_entries_16 q0 false)) from (s_bbr_ctl_entries_13_t cp n q0 (seqT (X cp n) i_bbr_ctl_entries_4 k)).trans (by kernel_rfl)).trans (congrArg (fun q => s_bbr_ctl_entries_13 cp n q0 q (k .ret (fr_bbr_ctl_entries_16 q0 false))) ((s_bbr_ctl_entries_14_t cp n q0 k).trans (show s_bbr_ctl_entries_14 cp n q0 (k .ret (fr_bbr_ctl_entries_15 q0)) = s_bbr_ctl_entries_14 cp n q0 (k .ret (fr_bbr_ctl_entries_16 q0 true)) from by kernel_rfl))))
def fr_bbr_ctl_entries_18 (q0 : ST68) (v63 : Bool) : FF := [dT 2 ((tB v63) :: (dT 13 [])), dc, dT 4 ((.hdr 22) :: (sl 0 11 (eT68 q0))), sl 11 11 (eT68 q0) ++ (dT 5 [])]
theorem s_bbr_ctl_entries_19_t {R : Type} (cp : Nat → Nat → Bool) (n : Nat) (q0 : ST68) (k : Ex → FF → Option R) : X cp n i_bbr_ctl_entries_6 (fr_bbr_ctl_entries_2 q0) k = s_bbr_ctl_entries_19 cp n q0 (fun v63 => k .ret (fr_bbr_ctl_entries_18 q0 v63)) := ((fun c => (show X cp n (.seq (.fin (.reg g_bbr_ctl_entries_0) [2] []) (.seq (.seq (.fin (.reg g_bbr_ctl_entries_1) [5, 6, 7, 8, 9, 10] []) (.fin (.cond (.s 11) (.seq (.fin (.reg g_bbr_ctl_entries_2) [0, 11] []) (.ret)) (.skip)) [11] [])) c)) (fr_bbr_ctl_entries_2 q0) k = s_bbr_ctl_entries_1 cp n q0 (X cp n c (fr_bbr_ctl_entries_2 q0) k) (k .ret (fr_bbr_ctl_entries_18 q0 false)) from by kernel_rfl)) i_bbr_ctl_entries_5).trans (congrArg (fun q => s_bbr_ctl_entries_1 cp n q0 q (k .ret (fr_bbr_ctl_entries_18 q0 false))) ((s_bbr_ctl_entries_17_t cp n q0 k).trans (show s_bbr_ctl_entries_17 cp n q0 (fun v62 => k .ret (fr_bbr_ctl_entries_16 q0 v62)) = s_bbr_ctl_entries_17 cp n q0 (fun v62 => k .ret (fr_bbr_ctl_entries_18 q0 v62)) from by kernel_rfl)))
theorem run_bbr_ctl_entries {R : Type} (cp : Nat → Nat → Bool) (n : Nat) (q0 : ST68) (k : Ret2 RW → Option R) : G_bbr_ctl_entries cp (n + 1) q0 (fun r0 r1 => k ⟨(tB r0), [(eT68 r1)], []⟩) = run2 U cp (callP cp n) n fn_bbr_ctl_entries [.ptr 36 0] [(eT68 q0)] k := ((X_run (f := fn_bbr_ctl_entries) (av := [.ptr 36 0]) (cells := [(eT68 q0)]) (code := i_bbr_ctl_entries_6) (fr := (fr_bbr_ctl_entries_2 q0)) (k := k) (by kernel_rfl) (fun K => by kernel_rfl)).trans ((s_bbr_ctl_entries_19_t cp n q0 (finK2 fn_bbr_ctl_entries k)).trans (by kernel_rfl))).symm
/-! tideway/bbr.Check -/
def fr_bbr_Check_2 (p0 : SCc) : FF := [dT 3 ((.ptr 232 0) :: (dT 12 [])), dc, dc, dc, dc, dc, dc, dc, dc, dc, dc, dc, dc, dc, dT 8 ((.hdr 22) :: (sl 0 7 (eCc p0))), sl 7 15 (eCc p0) ++ (dT 1 [])]
def fr_bbr_Check_4 (p0 : SCc) (v43 : Bool) : FF := [dT 3 ((.ptr 232 0) :: (tB v43) :: (dT 11 [])), dc, dc, dc, dc, dc, dc, dc, dc, dc, dc, dc, dc, dc, dT 8 ((.hdr 22) :: (sl 0 7 (eCc p0))), sl 7 15 (eCc p0) ++ (dT 1 [])]
def fr_bbr_Check_6 (p0 : SCc) (v43 v44 : Bool) : FF := [dT 3 ((.ptr 232 0) :: (tB v43) :: (tB v44) :: (dT 10 [])), dc, dc, dc, dc, dc, dc, dc, dc, dc, dc, dc, dc, dc, dT 8 ((.hdr 22) :: (sl 0 7 (eCc p0))), sl 7 15 (eCc p0) ++ (dT 1 [])]
def fr_bbr_Check_8 (p0 : SCc) (v43 v44 v46 : Bool) : FF := [dT 3 ((.ptr 232 0) :: (tB v43) :: (tB v44) :: (tB v46) :: (dT 9 [])), dc, dc, dc, dc, dc, dc, dc, dc, dc, dc, dc, dc, dc, dT 8 ((.hdr 22) :: (sl 0 7 (eCc p0))), sl 7 15 (eCc p0) ++ (dT 1 [])]
def fr_bbr_Check_10 (p0 : SCc) (v43 v44 v46 v51 : Bool) : FF := [dT 3 ((.ptr 232 0) :: (tB v43) :: (tB v44) :: (tB v46) :: (tB v51) :: (dT 8 [])), dc, dc, dc, dc, dc, dc, dc, dc, dc, dc, dc, dc, dc, dT 8 ((.hdr 22) :: (sl 0 7 (eCc p0))), sl 7 15 (eCc p0) ++ (dT 1 [])]
def fr_bbr_Check_12 (v54 : Int) : FF := [dT 2 ((tL v54) :: (dT 13 [])), dc, dc, dc, dc, dc, dc, dc, dc, dc, dc, dc, dc, dc, dc, dc]
theorem s_bbr_Check_11_t {R : Type} (cp : Nat → Nat → Bool) (n : Nat) (p0 : SCc) (v43 v44 v46 v51 : Bool) (k : Ex → FF → Option R) : X cp n i_bbr_Check_0 (fr_bbr_Check_10 p0 v43 v44 v46 v51) k = s_bbr_Check_11 cp n p0 v43 v44 v46 v51 (fun v54 => k .ret (fr_bbr_Check_12 v54)) := by kernel_rfl
def fr_bbr_Check_13 (v55 : Int) : FF := [dT 2 ((tL v55) :: (dT 13 [])), dc, dc, dc, dc, dc, dc, dc, dc, dc, dc, dc, dc, dc, dc, dc]
theorem s_bbr_Check_14_t {R : Type} (cp : Nat → Nat → Bool) (n : Nat) (p0 : SCc) (v43 v44 v46 : Bool) (k : Ex → FF → Option R) : X cp n i_bbr_Check_1 (fr_bbr_Check_8 p0 v43 v44 v46) k = s_bbr_Check_14 cp n p0 v43 v44 v46 (fun v55 => k .ret (fr_bbr_Check_13 v55)) := ((fun c => (show X cp n (.seq (.fin (.reg g_bbr_Check_5) [140, 141, 142, 143, 144, 145, 146, 147, 148, 149, 150, 151, 152, 153, 154, 155, 156, 157, 158, 159, 160, 161, 162, 163, 164, 165, 166, 167, 168, 169, 170, 171, 172, 173] []) c) (fr_bbr_Check_8 p0 v43 v44 v46) k = s_bbr_Check_9 cp n p0 v43 v44 v46 (fun v51 => X cp n c (fr_bbr_Check_10 p0 v43 v44 v46 v51) k) from by kernel_rfl)) i_bbr_Check_0).trans (congrArg (fun q => s_bbr_Check_9 cp n p0 v43 v44 v46 q) (funext fun v51 => (s_bbr_Check_11_t cp n p0 v43 v44 v46 v51 k).trans (show s_bbr_Check_11 cp n p0 v43 v44 v46 v51 (fun v54 => k .ret (fr_bbr_Check_12 v54)) = s_bbr_Check_11 cp n p0 v43 v44 v46 v51 (fun v54 => k .ret (fr_bbr_Check_13 v54)) from by kernel_rfl)))
def fr_bbr_Check_15 (v56 : Int) : FF := [dT 2 ((tL v56) :: (dT 13 [])), dc, dc, dc, dc, dc, dc, dc, dc, dc, dc, dc, dc, dc, dc, dc]
theorem s_bbr_Check_16_t {R : Type} (cp : Nat → Nat → Bool) (n : Nat) (p0 : SCc) (v43 v44 : Bool) (k : Ex → FF → Option R) : X cp n i_bbr_Check_2 (fr_bbr_Check_6 p0 v43 v44) k = s_bbr_Check_16 cp n p0 v43 v44 (fun v56 => k .ret (fr_bbr_Check_15 v56)) := ((fun c => (show X cp n (.seq (.fin (.reg g_bbr_Check_4) [108, 109, 110, 111, 112, 113, 114, 115, 116, 117, 118, 119, 120, 121, 122, 123, 124, 125, 126, 127, 128, 129, 130, 131, 132, 133, 134, 135, 136, 137, 138, 139] []) c) (fr_bbr_Check_6 p0 v43 v44) k = s_bbr_Check_7 cp n p0 v43 v44 (fun v46 => X cp n c (fr_bbr_Check_8 p0 v43 v44 v46) k) from by kernel_rfl)) i_bbr_Check_1).trans (congrArg (fun q => s_bbr_Check_7 cp n p0 v43 v44 q) (funext fun v46 => (s_bbr_Check_14_t cp n p0 v43 v44 v46 k).trans (show s_bbr_Check_14 cp n p0 v43 v44 v46 (fun v55 => k .ret (fr_bbr_Check_13 v55)) = s_bbr_Check_14 cp n p0 v43 v44 v46 (fun v55 => k .ret (fr_bbr_Check_15 v55)) from by kernel_rfl)))
def fr_bbr_Check_17 (v57 : Int) : FF := [dT 2 ((tL v57) :: (dT 13 [])), dc, dc, dc, dc, dc, dc, dc, dc, dc, dc, dc, dc, dc, dc, dc]
theorem s_bbr_Check_18_t {R : Type} (cp : Nat → Nat → Bool) (n : Nat) (p0 : SCc) (v43 : Bool) (k : Ex → FF → Option R) : X cp n i_bbr_Check_3 (fr_bbr_Check_4 p0 v43) k = s_bbr_Check_18 cp n p0 v43 (fun v57 => k .ret (fr_bbr_Check_17 v57)) := ((fun c => (show X cp n (.seq (.fin (.reg g_bbr_Check_3) [70, 71, 72, 73, 74, 75, 76, 77, 78, 79, 80, 81, 82, 83, 84, 85, 86, 87, 88, 89, 90, 91, 92, 93, 94, 95, 96, 97, 98, 99, 100, 101, 102, 103, 104, 105, 106, 107] []) c) (fr_bbr_Check_4 p0 v43) k = s_bbr_Check_5 cp n p0 v43 (fun v44 => X cp n c (fr_bbr_Check_6 p0 v43 v44) k) from by kernel_rfl)) i_bbr_Check_2).trans (congrArg (fun q => s_bbr_Check_5 cp n p0 v43 q) (funext fun v44 => (s_bbr_Check_16_t cp n p0 v43 v44 k).trans (show s_bbr_Check_16 cp n p0 v43 v44 (fun v56 => k .ret (fr_bbr_Check_15 v56)) = s_bbr_Check_16 cp n p0 v43 v44 (fun v56 => k .ret (fr_bbr_Check_17 v56)) from by kernel_rfl)))
def fr_bbr_Check_19 (v58 : Int) : FF := [dT 2 ((tL v58) :: (dT 13 [])), dc, dc, dc, dc, dc, dc, dc, dc, dc, dc, dc, dc, dc, dc, dc]
theorem s_bbr_Check_20_t {R : Type} (cp : Nat → Nat → Bool) (n : Nat) (p0 : SCc) (k : Ex → FF → Option R) : X cp n i_bbr_Check_4 (fr_bbr_Check_2 p0) k = s_bbr_Check_20 cp n p0 (fun v58 => k .ret (fr_bbr_Check_19 v58)) := ((fun c => (show X cp n (.seq (.fin (.reg g_bbr_Check_2) [11, 12, 13, 14, 15, 16, 17, 18, 19, 20, 21, 22, 23, 24, 25, 26, 27, 28, 29, 30, 31, 32, 33, 34, 35, 36, 37, 38, 39, 40, 41, 42, 43, 44, 45, 46, 47, 48, 49, 50, 51, 52, 53, 54, 55, 56, 57, 58, 59, 60, 61, 62, 63, 64, 65, 66, 67, 68, 69] []) c) (fr_bbr_Check_2 p0) k = s_bbr_Check_3 cp n p0 (fun v43 => X cp n c (fr_bbr_Check_4 p0 v43) k) from by kernel_rfl)) i_bbr_Check_3).trans (congrArg (fun q => s_bbr_Check_3 cp n p0 q) (funext fun v43 => (s_bbr_Check_18_t cp n p0 v43 k).trans (show s_bbr_Check_18 cp n p0 v43 (fun v57 => k .ret (fr_bbr_Check_17 v57)) = s_bbr_Check_18 cp n p0 v43 (fun v57 => k .ret (fr_bbr_Check_19 v57)) from by kernel_rfl)))
def fr_bbr_Check_21 (v59 : Int) : FF := [dT 2 ((tL v59) :: (dT 13 [])), dc, dc, dc, dc, dc, dc, dc, dc, dc, dc, dc, dc, dc, dc, dc]
def fr_bbr_Check_23 (p0 : SCc) : FF := [(.agg (eCc p0)) :: (dT 15 []), dc, dc, dc, dc, dc, dc, dc, dc, dc, dc, dc, dc, dc, dc, dc]
theorem s_bbr_Check_22_t {R : Type} (cp : Nat → Nat → Bool) (n : Nat) (p0 : SCc) (k : Ex → FF → Option R) : X cp n i_bbr_Check_5 (fr_bbr_Check_23 p0) k = s_bbr_Check_22 cp n p0 (fun v59 => k .ret (fr_bbr_Check_21 v59)) := ((fun c => (show X cp n (.seq (.fin (.reg g_bbr_Check_0) [0, 2] []) (.seq (.fin (.reg g_bbr_Check_1) [1, 8, 9, 10] [(209, 22)]) c)) (fr_bbr_Check_23 p0) k = s_bbr_Check_1 cp n p0 (X cp n c (fr_bbr_Check_2 p0) k) from by kernel_rfl)) i_bbr_Check_4).trans (congrArg (fun q => s_bbr_Check_1 cp n p0 q) ((s_bbr_Check_20_t cp n p0 k).trans (show s_bbr_Check_20 cp n p0 (fun v58 => k .ret (fr_bbr_Check_19 v58)) = s_bbr_Check_20 cp n p0 (fun v58 => k .ret (fr_bbr_Check_21 v58)) from by kernel_rfl)))
theorem run_bbr_Check {R : Type} (cp : Nat → Nat → Bool) (n : Nat) (p0 : SCc) (k : Ret2 RW → Option R) : G_bbr_Check cp (n + 1) p0 (fun r0 => k ⟨(tL r0), [], []⟩) = run2 U cp (callP cp n) n fn_bbr_Check [.agg (eCc p0)] [] k := ((X_run (f := fn_bbr_Check) (av := [.agg (eCc p0)]) (cells := []) (code := i_bbr_Check_5) (fr := (fr_bbr_Check_23 p0)) (k := k) (by kernel_rfl) (fun K => by kernel_rfl)).trans ((s_bbr_Check_22_t cp n p0 (finK2 fn_bbr_Check k)).trans (by kernel_rfl))).symm
/-! tideway/cc.Check -/
theorem run_cc_Check {R : Type} (cp : Nat → Nat → Bool) (n : Nat) (p0 : SCc) (k : Ret2 RW → Option R) : G_cc_Check cp (n + 1) p0 (fun r0 => k ⟨(tL r0), [], []⟩) = run2 U cp (callP cp n) n fn_cc_Check [.agg (eCc p0)] [] k := by kernel_rfl
/-! tideway/cc.asked -/
theorem run_cc_asked {R : Type} (cp : Nat → Nat → Bool) (n : Nat) (p0 : SCc) (p1 : Bool) (k : Ret2 RW → Option R) : G_cc_asked cp (n + 1) p0 p1 (fun r0 => k ⟨(tL r0), [], []⟩) = run2 U cp (callP cp n) n fn_cc_asked [.agg (eCc p0), (tB p1)] [] k := by kernel_rfl
/-! tideway/cc.Rest -/
def fr_cc_Rest_2 (p0 : SCc) (p1 p2 p3 : Int) : FF := [dT 1 ((tL p1) :: (tL p2) :: (tL p3) :: (.ptr 67 0) :: (dT 3 ((.ptr 90 0) :: (dT 7 [])))), dc, dc, dc, dT 3 ((.hdr 22) :: (sl 0 12 (eCc p0))), sl 12 10 (eCc p0) ++ [.hdr 22, (tL 0), (tL 0), (tL 0), (tL 0), (tL 0)], [(tL 0), (tL 0), (tL 0), (tL 0), (tL 0), (tL 0), .row false (.rEntry []), (tL 0), (tL 0), (tL 0), (tL 0), (tL 0), (tL 0), (tL 0), (tL 0), (tL 0)], (tL 0) :: (dT 15 [])]
def fr_cc_Rest_4 (p0 : SCc) (p1 p2 p3 v29 : Int) : FF := [dT 1 ((tL p1) :: (tL p2) :: (tL p3) :: (.ptr 67 0) :: (dT 3 ((.ptr 90 0) :: (dT 1 ((tL v29) :: (dT 5 [])))))), dc, dc, dc, dT 3 ((.hdr 22) :: (sl 0 12 (eCc p0))), sl 12 10 (eCc p0) ++ [.hdr 22, (tL 0), (tL 0), (tL 0), (tL 0), (tL 0)], [(tL 0), (tL 0), (tL 0), (tL 0), (tL 0), (tL 0), .row false (.rEntry []), (tL 0), (tL 0), (tL 0), (tL 0), (tL 0), (tL 0), (tL 0), (tL 0), (tL 0)], (tL 0) :: (dT 15 [])]
theorem s_cc_Rest_3_t {R : Type} (cp : Nat → Nat → Bool) (n : Nat) (p0 : SCc) (p1 p2 p3 : Int) (k : Ex → FF → Option R) : X cp n i_cc_Rest_0 (fr_cc_Rest_2 p0 p1 p2 p3) k = s_cc_Rest_3 cp n p0 p1 p2 p3 (fun v29 => k .norm (fr_cc_Rest_4 p0 p1 p2 p3 v29)) := by kernel_rfl
def fr_cc_Rest_6 (v29 : Int) : FF := [dT 8 ((.ptr 90 0) :: (tL v29) :: (dT 6 [])), dc, dc, dc, dc, dT 10 ([.hdr 22, (tL 0), (tL 0), (tL 0), (tL 0), (tL 0)]), [(tL 0), (tL 0), (tL 0), (tL 0), (tL 0), (tL 0), .row false (.rEntry []), (tL 0), (tL 0), (tL 0), (tL 0), (tL 0), (tL 0), (tL 0), (tL 0), (tL 0)], (tL 0) :: (dT 15 [])]
theorem s_cc_Rest_5_t {R : Type} (cp : Nat → Nat → Bool) (n : Nat) (p0 : SCc) (p1 p2 p3 v29 : Int) (k : Ex → FF → Option R) : X cp n i_cc_Rest_1 (fr_cc_Rest_4 p0 p1 p2 p3 v29) k = s_cc_Rest_5 cp n p0 p1 p2 p3 v29 (k .norm (fr_cc_Rest_2 p0 p1 p2 p3)) (k .ret (fr_cc_Rest_6 v29)) := by kernel_rfl
def fr_cc_Rest_7 (v30 : Int) : FF := [dT 8 ((.ptr 90 0) :: (tL v30) :: (dT 6 [])), dc, dc, dc, dc, dT 10 ([.hdr 22, (tL 0), (tL 0), (tL 0), (tL 0), (tL 0)]), [(tL 0), (tL 0), (tL 0), (tL 0), (tL 0), (tL 0), .row false (.rEntry []), (tL 0), (tL 0), (tL 0), (tL 0), (tL 0), (tL 0), (tL 0), (tL 0), (tL 0)], (tL 0) :: (dT 15 [])]
theorem s_cc_Rest_8_t {R : Type} (cp : Nat → Nat → Bool) (n : Nat) (p0 : SCc) (p1 p2 p3 : Int) (k : Ex → FF → Option R) : X cp n i_cc_Rest_2 (fr_cc_Rest_2 p0 p1 p2 p3) k = s_cc_Rest_8 cp n p0 p1 p2 p3 (k .norm (fr_cc_Rest_2 p0 p1 p2 p3)) (fun v30 => k .ret (fr_cc_Rest_7 v30)) := (show X cp n i_cc_Rest_2 (fr_cc_Rest_2 p0 p1 p2 p3) k = X cp n i_cc_Rest_0 (fr_cc_Rest_2 p0 p1 p2 p3) (seqT (X cp n) i_cc_Rest_1 k) from by kernel_rfl).trans ((show X cp n i_cc_Rest_0 (fr_cc_Rest_2 p0 p1 p2 p3) (seqT (X cp n) i_cc_Rest_1 k) = s_cc_Rest_3 cp n p0 p1 p2 p3 (fun v29 => X cp n i_cc_Rest_1 (fr_cc_Rest_4 p0 p1 p2 p3 v29) k) from (s_cc_Rest_3_t cp n p0 p1 p2 p3 (seqT (X cp n) i_cc_Rest_1 k)).trans (by kernel_rfl)).trans (congrArg (fun q => s_cc_Rest_3 cp n p0 p1 p2 p3 q) (funext fun v29 => (s_cc_Rest_5_t cp n p0 p1 p2 p3 v29 k).trans (show s_cc_Rest_5 cp n p0 p1 p2 p3 v29 (k .norm (fr_cc_Rest_2 p0 p1 p2 p3)) (k .ret (fr_cc_Rest_6 v29)) = s_cc_Rest_5 cp n p0 p1 p2 p3 v29 (k .norm (fr_cc_Rest_2 p0 p1 p2 p3)) (k .ret (fr_cc_Rest_7 v29)) from by kernel_rfl))))
def fr_cc_Rest_10 (p0 : SCc) (v31 v32 : Int) : FF := [dT 8 ((.ptr 90 0) :: (tL 0) :: (dT 6 [])), dc, dc, dc, dc, dT 10 ([.hdr 22, (tL p0.xKind), (tL p0.xMss), (tL v31), (tL v32), (tL p0.xAcc)]), [(tL p0.xWmax), (tL p0.xEpoch), (tL p0.xK), (tL p0.xWest), (tL p0.xStart), (tL p0.xMode), .row false (.rEntry p0.xBw), (tL p0.xMinRtt), (tL p0.xMinAt), (tL p0.xRound), (tL p0.xNextAt), (tL p0.xFull), (tL p0.xFullN), (tL p0.xPhase), (tL p0.xPhaseAt), (tL p0.xDoneAt)], (tL p0.xPrior) :: (dT 15 [])]
theorem s_cc_Rest_9_t {R : Type} (cp : Nat → Nat → Bool) (n : Nat) (p0 : SCc) (p1 p2 p3 : Int) (k : Ex → FF → Option R) : X cp n i_cc_Rest_3 (fr_cc_Rest_2 p0 p1 p2 p3) k = s_cc_Rest_9 cp n p0 p1 p2 p3 (fun v31 v32 => k .ret (fr_cc_Rest_10 p0 v31 v32)) := by kernel_rfl
def fr_cc_Rest_11 (v33 : Int) (v34 : SCc) : FF := [dT 8 ((.ptr 90 0) :: (tL v33) :: (dT 6 [])), dc, dc, dc, dc, dT 10 ((.hdr 22) :: (sl 0 5 (eCc v34))), sl 5 16 (eCc v34), sl 21 1 (eCc v34) ++ (dT 15 [])]
theorem s_cc_Rest_12_t {R : Type} (cp : Nat → Nat → Bool) (n : Nat) (p0 : SCc) (p1 p2 p3 : Int) (k : Ex → FF → Option R) : X cp n i_cc_Rest_4 (fr_cc_Rest_2 p0 p1 p2 p3) k = s_cc_Rest_12 cp n p0 p1 p2 p3 (fun v33 v34 => k .ret (fr_cc_Rest_11 v33 v34)) := (show X cp n i_cc_Rest_4 (fr_cc_Rest_2 p0 p1 p2 p3) k = X cp n i_cc_Rest_2 (fr_cc_Rest_2 p0 p1 p2 p3) (seqT (X cp n) i_cc_Rest_3 k) from by kernel_rfl).trans ((show X cp n i_cc_Rest_2 (fr_cc_Rest_2 p0 p1 p2 p3) (seqT (X cp n) i_cc_Rest_3 k) = s_cc_Rest_8 cp n p0 p1 p2 p3 (X cp n i_cc_Rest_3 (fr_cc_Rest_2 p0 p1 p2 p3) k) (fun v30 => k .ret (fr_cc_Rest_11 v30 (SCc.mk 0 0 0 0 0 0 0 0 0 0 0 [] 0 0 0 0 0 0 0 0 0 0))) from (s_cc_Rest_8_t cp n p0 p1 p2 p3 (seqT (X cp n) i_cc_Rest_3 k)).trans (by kernel_rfl)).trans (congrArg (fun q => s_cc_Rest_8 cp n p0 p1 p2 p3 q (fun v30 => k .ret (fr_cc_Rest_11 v30 (SCc.mk 0 0 0 0 0 0 0 0 0 0 0 [] 0 0 0 0 0 0 0 0 0 0)))) ((s_cc_Rest_9_t cp n p0 p1 p2 p3 k).trans (show s_cc_Rest_9 cp n p0 p1 p2 p3 (fun v31 v32 => k .ret (fr_cc_Rest_10 p0 v31 v32)) = s_cc_Rest_9 cp n p0 p1 p2 p3 (fun v31 v32 => k .ret (fr_cc_Rest_11 0 (SCc.mk p0.xKind p0.xMss v31 v32 p0.xAcc p0.xWmax p0.xEpoch p0.xK p0.xWest p0.xStart p0.xMode p0.xBw p0.xMinRtt p0.xMinAt p0.xRound p0.xNextAt p0.xFull p0.xFullN p0.xPhase p0.xPhaseAt p0.xDoneAt p0.xPrior))) from by kernel_rfl))))
def fr_cc_Rest_13 (v35 : Int) (v36 : SCc) : FF := [dT 8 ((.ptr 90 0) :: (tL v35) :: (dT 6 [])), dc, dc, dc, dc, dT 10 ((.hdr 22) :: (sl 0 5 (eCc v36))), sl 5 16 (eCc v36), sl 21 1 (eCc v36) ++ (dT 15 [])]
def fr_cc_Rest_15 (p0 : SCc) (p1 p2 p3 : Int) : FF := [(.agg (eCc p0)) :: (tL p1) :: (tL p2) :: (tL p3) :: (dT 12 []), dc, dc, dc, dc, dc, dc, dc]
theorem s_cc_Rest_14_t {R : Type} (cp : Nat → Nat → Bool) (n : Nat) (p0 : SCc) (p1 p2 p3 : Int) (k : Ex → FF → Option R) : X cp n i_cc_Rest_5 (fr_cc_Rest_15 p0 p1 p2 p3) k = s_cc_Rest_14 cp n p0 p1 p2 p3 (fun v35 v36 => k .ret (fr_cc_Rest_13 v35 v36)) := ((fun c => (show X cp n (.seq (.fin (.reg g_cc_Rest_0) [0, 9] []) c) (fr_cc_Rest_15 p0 p1 p2 p3) k = s_cc_Rest_1 cp n p0 p1 p2 p3 (X cp n c (fr_cc_Rest_2 p0 p1 p2 p3) k) from by kernel_rfl)) i_cc_Rest_4).trans (congrArg (fun q => s_cc_Rest_1 cp n p0 p1 p2 p3 q) ((s_cc_Rest_12_t cp n p0 p1 p2 p3 k).trans (show s_cc_Rest_12 cp n p0 p1 p2 p3 (fun v33 v34 => k .ret (fr_cc_Rest_11 v33 v34)) = s_cc_Rest_12 cp n p0 p1 p2 p3 (fun v33 v34 => k .ret (fr_cc_Rest_13 v33 v34)) from by kernel_rfl)))
theorem run_cc_Rest {R : Type} (cp : Nat → Nat → Bool) (n : Nat) (p0 : SCc) (p1 p2 p3 : Int) (k : Ret2 RW → Option R) : G_cc_Rest cp (n + 1) p0 p1 p2 p3 (fun r0 r1 => k ⟨.tup [.agg (eCc r0), (tL r1)], [], []⟩) = run2 U cp (callP cp n) n fn_cc_Rest [.agg (eCc p0), (tL p1), (tL p2), (tL p3)] [] k := ((X_run (f := fn_cc_Rest) (av := [.agg (eCc p0), (tL p1), (tL p2), (tL p3)]) (cells := []) (code := i_cc_Rest_5) (fr := (fr_cc_Rest_15 p0 p1 p2 p3)) (k := k) (by kernel_rfl) (fun K => by kernel_rfl)).trans ((s_cc_Rest_14_t cp n p0 p1 p2 p3 (finK2 fn_cc_Rest k)).trans (by kernel_rfl))).symm
/-! tideway/bbr.Gain -/
theorem run_bbr_Gain {R : Type} (cp : Nat → Nat → Bool) (n : Nat) (p0 : SCc) (k : Ret2 RW → Option R) : G_bbr_Gain cp (n + 1) p0 (fun r0 => k ⟨(tL r0), [], []⟩) = run2 U cp (callP cp n) n fn_bbr_Gain [.agg (eCc p0)] [] k := by kernel_rfl
/-! tideway/filter.Best -/
theorem run_filter_Best {R : Type} (cp : Nat → Nat → Bool) (n : Nat) (p0 : (List SEntry)) (k : Ret2 RW → Option R) : G_filter_Best cp (n + 1) p0 (fun r0 r1 => k ⟨.tup [(tL r0), (tB r1)], [], []⟩) = run2 U cp (callP cp n) n fn_filter_Best [.row false (.rEntry p0)] [] k := by kernel_rfl
/-! (*tideway/bbr.ctl).bandwidth -/
theorem run_bbr_ctl_bandwidth {R : Type} (cp : Nat → Nat → Bool) (n : Nat) (q0 : ST68) (k : Ret2 RW → Option R) : G_bbr_ctl_bandwidth cp (n + 1) q0 (fun r0 r1 => k ⟨(tL r0), [(eT68 r1)], []⟩) = run2 U cp (callP cp n) n fn_bbr_ctl_bandwidth [.ptr 15 0] [(eT68 q0)] k := by kernel_rfl
/-! tideway/bbr.Bandwidth -/
theorem run_bbr_Bandwidth {R : Type} (cp : Nat → Nat → Bool) (n : Nat) (p0 : SCc) (k : Ret2 RW → Option R) : G_bbr_Bandwidth cp (n + 1) p0 (fun r0 => k ⟨(tL r0), [], []⟩) = run2 U cp (callP cp n) n fn_bbr_Bandwidth [.agg (eCc p0)] [] k := by kernel_rfl
/-! math/bits.Mul64 -/
theorem run_math_bits_Mul64 {R : Type} (cp : Nat → Nat → Bool) (n : Nat) (p0 p1 : Int) (k : Ret2 RW → Option R) : G_math_bits_Mul64 cp (n + 1) p0 p1 (fun r0 r1 => k ⟨.tup [(tI .u64 r0), (tI .u64 r1)], [], []⟩) = run2 U cp (callP cp n) n fn_math_bits_Mul64 [(tI .u64 p0), (tI .u64 p1)] [] k := by kernel_rfl
/-! math/bits.Len64 -/
theorem run_math_bits_Len64 {R : Type} (cp : Nat → Nat → Bool) (n : Nat) (p0 : Int) (k : Ret2 RW → Option R) : G_math_bits_Len64 cp (n + 1) p0 (fun r0 => k ⟨(tL r0), [], []⟩) = run2 U cp (callP cp n) n fn_math_bits_Len64 [(tI .u64 p0)] [] k := by kernel_rfl
/-! math/bits.LeadingZeros64 -/
theorem run_math_bits_LeadingZeros64 {R : Type} (cp : Nat → Nat → Bool) (n : Nat) (p0 : Int) (k : Ret2 RW → Option R) : G_math_bits_LeadingZeros64 cp (n + 1) p0 (fun r0 => k ⟨(tL r0), [], []⟩) = run2 U cp (callP cp n) n fn_math_bits_LeadingZeros64 [(tI .u64 p0)] [] k := by kernel_rfl
/-! math/bits.Div64 -/
def fr_math_bits_Div64_2 (v66 v67 v68 v69 v70 v71 v72 v73 v74 : Int) : FF := [dT 2 ((tI .u64 v66) :: (dT 5 ((tI .u64 v67) :: (tI .u64 v68) :: (tI .u64 v69) :: (tI .u64 v70) :: (dT 1 ([(tI .u64 v71), (tI .u64 v72), (tI .u64 v73)]))))), (tI .u64 v74) :: (dT 15 []), dc, dc, dc, dc, dc, dc, dc]
def fr_math_bits_Div64_3 (v75 v76 : Int) : FF := [dT 6 ((tI .u64 v75) :: (tI .u64 v76) :: (dT 8 [])), dc, dc, dc, dc, dc, dc, dc, dc]
def fr_math_bits_Div64_5 (v66 v67 v68 v69 v70 v71 v72 v79 v80 : Int) : FF := [dT 2 ((tI .u64 v66) :: (dT 5 ((tI .u64 v67) :: (tI .u64 v68) :: (tI .u64 v69) :: (tI .u64 v70) :: (dT 1 ([(tI .u64 v71), (tI .u64 v72), (tI .u64 v79)]))))), (tI .u64 v80) :: (dT 15 []), dc, dc, dc, dc, dc, dc, dc]
def fr_math_bits_Div64_6 (v66 v67 v68 v69 v70 v71 v72 v81 : Int) : FF := [dT 2 ((tI .u64 v66) :: (dT 5 ((tI .u64 v67) :: (tI .u64 v68) :: (tI .u64 v69) :: (tI .u64 v70) :: (dT 1 ([(tI .u64 v71), (tI .u64 v72), (tI .u64 v81)]))))), dc, dc, dc, dc, dc, dc, dc, dc]
def fr_math_bits_Div64_7 (v66 v67 v68 v69 v70 v71 v72 v77 v78 : Int) : FF := [dT 2 ((tI .u64 v66) :: (dT 5 ((tI .u64 v67) :: (tI .u64 v68) :: (tI .u64 v69) :: (tI .u64 v70) :: (dT 1 ([(tI .u64 v71), (tI .u64 v72), (tI .u64 v77)]))))), (tI .u64 v78) :: (dT 15 []), dc, dc, dc, dc, dc, dc, dc]
theorem s_math_bits_Div64_4_t {R : Type} (cp : Nat → Nat → Bool) (n : Nat) (v66 v67 v68 v69 v70 v71 v72 v77 v78 : Int) (k : Ex → FF → Option R) : X cp n i_math_bits_Div64_0 (fr_math_bits_Div64_7 v66 v67 v68 v69 v70 v71 v72 v77 v78) k = s_math_bits_Div64_4 cp n v66 v67 v68 v69 v70 v71 v72 v77 v78 (fun v79 v80 => k .norm (fr_math_bits_Div64_5 v66 v67 v68 v69 v70 v71 v72 v79 v80)) (fun v81 => k (.exit 0) (fr_math_bits_Div64_6 v66 v67 v68 v69 v70 v71 v72 v81)) := by kernel_rfl
def fr_math_bits_Div64_8 (v66 v67 v68 v69 v70 v71 v72 v82 : Int) : FF := [dT 2 ((tI .u64 v66) :: (dT 5 ((tI .u64 v67) :: (tI .u64 v68) :: (tI .u64 v69) :: (tI .u64 v70) :: (dT 1 ([(tI .u64 v71), (tI .u64 v72), (tI .u64 v82)]))))), dc, dc, dc, dc, dc, dc, dc, dc]
theorem l_math_bits_Div64_9_t {R : Type} (cp : Nat → Nat → Bool) (n : Nat) : ∀ (m : Nat) (v66 v67 v68 v69 v70 v71 v72 v77 v78 : Int) (k : Ex → FF → Option R), loopN2 (X cp n i_math_bits_Div64_0) m (fr_math_bits_Div64_7 v66 v67 v68 v69 v70 v71 v72 v77 v78) k = l_math_bits_Div64_9 cp n m v66 v67 v68 v69 v70 v71 v72 v77 v78 (fun v82 => k (.exit 0) (fr_math_bits_Div64_8 v66 v67 v68 v69 v70 v71 v72 v82))
  | 0, _, _, _, _, _, _, _, _, _, _ => rfl
  | m + 1, v66, v67, v68, v69, v70, v71, v72, v77, v78, k => (loopN2_succ (X cp n i_math_bits_Div64_0) m (fr_math_bits_Div64_7 v66 v67 v68 v69 v70 v71 v72 v77 v78) k).trans ((s_math_bits_Div64_4_t cp n v66 v67 v68 v69 v70 v71 v72 v77 v78 (loopT (X cp n i_math_bits_Div64_0) m k)).trans ((show s_math_bits_Div64_4 cp n v66 v67 v68 v69 v70 v71 v72 v77 v78 (fun v79 v80 => loopT (X cp n i_math_bits_Div64_0) m k .norm (fr_math_bits_Div64_5 v66 v67 v68 v69 v70 v71 v72 v79 v80)) (fun v81 => loopT (X cp n i_math_bits_Div64_0) m k (.exit 0) (fr_math_bits_Div64_6 v66 v67 v68 v69 v70 v71 v72 v81)) = s_math_bits_Div64_4 cp n v66 v67 v68 v69 v70 v71 v72 v77 v78 (fun v79 v80 => loopN2 (X cp n i_math_bits_Div64_0) m (fr_math_bits_Div64_7 v66 v67 v68 v69 v70 v71 v72 v79 v80) k) (fun v81 => k (.exit 0) (fr_math_bits_Div64_8 v66 v67 v68 v69 v70 v71 v72 v81)) from by kernel_rfl).trans (congrArg (fun q => s_math_bits_Div64_4 cp n v66 v67 v68 v69 v70 v71 v72 v77 v78 q (fun v81 => k (.exit 0) (fr_math_bits_Div64_8 v66 v67 v68 v69 v70 v71 v72 v81))) (funext fun v79 => funext fun v80 => l_math_bits_Div64_9_t cp n m v66 v67 v68 v69 v70 v71 v72 v79 v80 k))))
theorem s_math_bits_Div64_10_t {R : Type} (cp : Nat → Nat → Bool) (n : Nat) (v66 v67 v68 v69 v70 v71 v72 v73 v74 : Int) (k : Ex → FF → Option R) : X cp n i_math_bits_Div64_1 (fr_math_bits_Div64_2 v66 v67 v68 v69 v70 v71 v72 v73 v74) k = s_math_bits_Div64_10 cp n v66 v67 v68 v69 v70 v71 v72 v73 v74 (fun v82 => k (.exit 0) (fr_math_bits_Div64_8 v66 v67 v68 v69 v70 v71 v72 v82)) := (show X cp n i_math_bits_Div64_1 (fr_math_bits_Div64_2 v66 v67 v68 v69 v70 v71 v72 v73 v74) k = loopN2 (X cp n i_math_bits_Div64_0) n (fr_math_bits_Div64_7 v66 v67 v68 v69 v70 v71 v72 v73 v74) k from by kernel_rfl).trans (l_math_bits_Div64_9_t cp n n v66 v67 v68 v69 v70 v71 v72 v73 v74 k)
def fr_math_bits_Div64_11 (v66 v67 v68 v69 v70 v71 v72 v83 : Int) : FF := [dT 2 ((tI .u64 v66) :: (dT 5 ((tI .u64 v67) :: (tI .u64 v68) :: (tI .u64 v69) :: (tI .u64 v70) :: (dT 1 ([(tI .u64 v71), (tI .u64 v72), (tI .u64 v83)]))))), dc, dc, dc, dc, dc, dc, dc, dc]
theorem s_math_bits_Div64_12_t {R : Type} (cp : Nat → Nat → Bool) (n : Nat) (v66 v67 v68 v69 v70 v71 v72 v73 v74 : Int) (k : Ex → FF → Option R) : X cp n i_math_bits_Div64_2 (fr_math_bits_Div64_2 v66 v67 v68 v69 v70 v71 v72 v73 v74) k = s_math_bits_Div64_12 cp n v66 v67 v68 v69 v70 v71 v72 v73 v74 (fun v83 => k .norm (fr_math_bits_Div64_11 v66 v67 v68 v69 v70 v71 v72 v83)) := (show X cp n i_math_bits_Div64_2 (fr_math_bits_Div64_2 v66 v67 v68 v69 v70 v71 v72 v73 v74) k = X cp n i_math_bits_Div64_1 (fr_math_bits_Div64_2 v66 v67 v68 v69 v70 v71 v72 v73 v74) (blkT 0 k) from by kernel_rfl).trans ((s_math_bits_Div64_10_t cp n v66 v67 v68 v69 v70 v71 v72 v73 v74 (blkT 0 k)).trans (by kernel_rfl))
def fr_math_bits_Div64_14 (v66 v67 v68 v69 v72 v83 v84 v85 v86 : Int) : FF := [dT 2 ((tI .u64 v66) :: (dT 5 ((tI .u64 v67) :: (tI .u64 v68) :: (tI .u64 v69) :: (dT 3 ([(tI .u64 v72), (tI .u64 v83)]))))), (tI .u64 v84) :: (tI .u64 v85) :: (tI .u64 v86) :: (dT 13 []), dc, dc, dc, dc, dc, dc, dc]
def fr_math_bits_Div64_16 (v66 v67 v68 v69 v72 v83 v85 v89 v90 : Int) : FF := [dT 2 ((tI .u64 v66) :: (dT 5 ((tI .u64 v67) :: (tI .u64 v68) :: (tI .u64 v69) :: (dT 3 ([(tI .u64 v72), (tI .u64 v83)]))))), (tI .u64 v89) :: (tI .u64 v85) :: (tI .u64 v90) :: (dT 13 []), dc, dc, dc, dc, dc, dc, dc]
def fr_math_bits_Div64_17 (v66 v67 v72 v83 v85 v91 : Int) : FF := [dT 2 ((tI .u64 v66) :: (dT 5 ((tI .u64 v67) :: (dT 5 ([(tI .u64 v72), (tI .u64 v83)]))))), dT 1 ((tI .u64 v85) :: (tI .u64 v91) :: (dT 13 [])), dc, dc, dc, dc, dc, dc, dc]
def fr_math_bits_Div64_18 (v66 v67 v68 v69 v72 v83 v85 v87 v88 : Int) : FF := [dT 2 ((tI .u64 v66) :: (dT 5 ((tI .u64 v67) :: (tI .u64 v68) :: (tI .u64 v69) :: (dT 3 ([(tI .u64 v72), (tI .u64 v83)]))))), (tI .u64 v87) :: (tI .u64 v85) :: (tI .u64 v88) :: (dT 13 []), dc, dc, dc, dc, dc, dc, dc]
theorem s_math_bits_Div64_15_t {R : Type} (cp : Nat → Nat → Bool) (n : Nat) (v66 v67 v68 v69 v72 v83 v85 v87 v88 : Int) (k : Ex → FF → Option R) : X cp n i_math_bits_Div64_3 (fr_math_bits_Div64_18 v66 v67 v68 v69 v72 v83 v85 v87 v88) k = s_math_bits_Div64_15 cp n v66 v67 v68 v69 v72 v83 v85 v87 v88 (fun v89 v90 => k .norm (fr_math_bits_Div64_16 v66 v67 v68 v69 v72 v83 v85 v89 v90)) (fun v91 => k (.exit 2) (fr_math_bits_Div64_17 v66 v67 v72 v83 v85 v91)) := by kernel_rfl
def fr_math_bits_Div64_19 (v66 v67 v72 v83 v85 v92 : Int) : FF := [dT 2 ((tI .u64 v66) :: (dT 5 ((tI .u64 v67) :: (dT 5 ([(tI .u64 v72), (tI .u64 v83)]))))), dT 1 ((tI .u64 v85) :: (tI .u64 v92) :: (dT 13 [])), dc, dc, dc, dc, dc, dc, dc]
end
end Go.Proofs.Ytgnoidblkenglaa.M
